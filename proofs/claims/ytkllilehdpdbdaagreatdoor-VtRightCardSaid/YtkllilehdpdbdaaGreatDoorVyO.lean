/- The law's side and counted; cells.Right of what is seen. -/
import Derived.Test.YtkllilehdpdbdaaGreatDoorVyPb
import Derived.Test.YtkllilehdpdbdaaGreatDoorVtX
namespace Go.Proofs.YtkllilehdpdbdaaGreatDoor
open Go Go.RowKit Go.Sort
set_option linter.unusedVariables false
set_option linter.unusedSimpArgs false
section
theorem emod_cases (i n : Int) (h : 0 < n) : i % n = if Int.tmod i n < 0 then Int.tmod i n + n else Int.tmod i n := by
  have e := Int.emod_eq_tmod (a := i) (b := n)
  have p := Int.emod_nonneg i (show n ≠ 0 by omega)
  have q := Int.emod_lt_of_pos i h
  have t := Int.tmod_lt_of_pos i h
  have a : (n.natAbs : Int) = n := by omega
  by_cases c : 0 ≤ i ∨ n ∣ i
  · rw [if_pos c] at e
    rw [if_neg (by omega)]
    omega
  · rw [if_neg c] at e
    rw [if_pos (by omega)]
    omega
theorem tmod_lo (i n : Int) (h : 0 < n) : -n < Int.tmod i n := by
  have e := Int.emod_eq_tmod (a := i) (b := n)
  have p := Int.emod_nonneg i (show n ≠ 0 by omega)
  split at e <;> omega
theorem law_counted (i n : Int) (hi : -9223372036854775808 ≤ i ∧ i ≤ 9223372036854775807) (h0 : 0 < n) (h1 : n ≤ 1000000) (W : World) : Calls Tryz.prog 20 #[.int .i64 i, .int .i64 n] W fun e w' => e = .returned (.int .i64 (i % n)) ∧ w' = W := by
  have nz : (n == 0) = false := by simp; omega
  have nz2 : ¬ n = 0 := by omega
  have b1 : -n < Int.tmod i n ∧ Int.tmod i n < n := by
    constructor
    · exact tmod_lo i n h0
    · exact Int.tmod_lt_of_pos i h0
  have w1 : IntKind.i64.wrap (Int.tmod i n) = Int.tmod i n := IntWalk.i64_in _ (by omega)
  have w2 : IntKind.i64.wrap (Int.tmod i n + n) = Int.tmod i n + n := IntWalk.i64_in _ (by omega)
  have em := emod_cases i n h0
  have EM := Lib.hid em
  clear em
  by_cases c : Int.tmod i n < 0
  · go_enter Tryz.func20, Tryz.ntmps20
    go_wp2_with fail
    go_ret
    exact ⟨by rw [EM.out, if_pos c]; rfl, rfl⟩
  · go_enter Tryz.func20, Tryz.ntmps20
    go_wp2_with fail
    go_ret
    exact ⟨by rw [EM.out, if_neg (by omega)]; rfl, rfl⟩
/-- a side of a small screen -/
def sideV (i m : Int) : Int := i % (m + 1)
theorem law_side (i m : Int) (hi : -9223372036854775808 ≤ i ∧ i ≤ 9223372036854775807) (h0 : 0 ≤ m) (h1 : m ≤ 1000) (W : World) : Calls Tryz.prog 19 #[.int .i64 i, .int .i64 m] W fun e w' => e = .returned (.int .i64 (sideV i m)) ∧ w' = W := by
  have w1 : IntKind.i64.wrap (m + 1) = m + 1 := IntWalk.i64_in _ (by omega)
  have C := Lib.hid (law_counted i (m + 1) hi (by omega) (by omega) W)
  go_enter Tryz.func19, Tryz.ntmps19
  go_wp2_with fail
  refine C.out.mono ?_; rintro e w1 ⟨rfl, rfl⟩
  go_wp2_with fail
  go_ret
  exact ⟨rfl, rfl⟩
theorem side_rng (i m : Int) (h0 : 0 ≤ m) : 0 ≤ sideV i m ∧ sideV i m ≤ m := by
  unfold sideV
  have a := Int.emod_nonneg i (show m + 1 ≠ 0 by omega)
  have b := Int.emod_lt_of_pos i (show 0 < m + 1 by omega)
  omega
/-- cells.Right of what a terminal shows -/
theorem seen_right {t : Trm} (g : Good t) (f : Fine t) (A : Option Addr) (c : Nat) (W : World) {B : Nat} (N : NewRow B 49 5 (.slice A t.cells.length c) t.cells.length (celsV t.cells) W) : Calls Tryz.prog 35 #[scrV (seenT t) A c] W fun e w' => e = .returned (.bool true) ∧ Below W.heap.size W w' := by
  have e3 : (seenT t).cells = t.cells := by unfold seenT; split <;> rfl
  have hcap : t.cells.length ≤ c ∧ (A = none → c = 0) ∧ Sees W W.heap.size A (celsV t.cells) := by
    by_cases z : t.cells.length = 0
    · have zz : t.cells = [] := List.eq_nil_of_length_eq_zero z
      rcases N.1 with ⟨_, _, A', ev⟩ | ⟨ho, hn⟩
      · simp only [Value.slice.injEq] at ev
        obtain ⟨rfl, _, rfl⟩ := ev
        exact ⟨by omega, fun _ => rfl, by rw [zz]; exact Sees.nil _ _ _⟩
      · rcases ho.2 with ⟨ev, _⟩ | ⟨g2, cap, cur, ev, _, _, q, _⟩
        · simp only [Value.slice.injEq] at ev
          obtain ⟨rfl, _, rfl⟩ := ev
          exact ⟨by omega, fun _ => rfl, by rw [zz]; exact Sees.nil _ _ _⟩
        · simp only [Value.slice.injEq] at ev
          obtain ⟨rfl, _, rfl⟩ := ev
          exact ⟨q, (fun h => by cases h), (by rw [zz]; exact Sees.nil _ _ _)⟩
    · obtain ⟨g2, cap, ec, eo, ho, hc⟩ := N.1.slice (by omega)
      simp only [Value.slice.injEq] at ec
      obtain ⟨rfl, _, rfl⟩ := ec
      obtain ⟨cur, hcu⟩ := own_block ho
      refine ⟨hc, (fun h => by cases h), fun _ => ⟨_, rfl, (Array.getElem?_eq_some_iff.1 hcu).1, fun j u hj => ?_⟩⟩
      rw [add_at, Nat.zero_add]
      have lj : j < t.cells.length * 5 := by have := (List.getElem?_eq_some_iff.1 hj).1; rw [celsV_len] at this; exact this
      exact (ho.cellAt j lj).trans hj
  have R := d_Right (seenT t) A c (by rw [e3]; exact hcap.1) hcap.2.1 (by rw [e3]; have := f.cl; have := f.ar; omega) (by rw [e3]; exact fun x m => (cel_okC (good_cell g x m)).1) W (by rw [e3]; exact hcap.2.2)
  rw [right_seen g f] at R
  exact R
end
end Go.Proofs.YtkllilehdpdbdaaGreatDoor
