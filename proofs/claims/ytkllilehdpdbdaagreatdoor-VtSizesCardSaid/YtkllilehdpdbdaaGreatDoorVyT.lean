/- The law's side and counted; bytes that a law is handed. -/
import Derived.Test.YtkllilehdpdbdaaGreatDoorVyPb
import Derived.Test.YtkllilehdpdbdaaGreatDoorVtZ
namespace Go.Proofs.YtkllilehdpdbdaaGreatDoor
open Go Go.RowKit Go.Sort
set_option linter.unusedVariables false
set_option linter.unusedSimpArgs false
section
theorem emod_cases (i n : Int) (h : 0 < n) : i % n = if Int.tmod i n < 0 then Int.tmod i n + n else Int.tmod i n := by
  have e := Int.emod_eq_tmod (a := i) (b := n)
  have p := Int.emod_nonneg i (show n ≠ 0 by omega)
  have q := Int.emod_lt_of_pos i h
  have t := Int.tmod_lt_of_pos i h
  have a : (n.natAbs : Int) = n := by omega
  by_cases c : 0 ≤ i ∨ n ∣ i
  · rw [if_pos c] at e
    rw [if_neg (by omega)]
    omega
  · rw [if_neg c] at e
    rw [if_pos (by omega)]
    omega
theorem tmod_lo (i n : Int) (h : 0 < n) : -n < Int.tmod i n := by
  have e := Int.emod_eq_tmod (a := i) (b := n)
  have p := Int.emod_nonneg i (show n ≠ 0 by omega)
  split at e <;> omega
theorem law_counted (i n : Int) (hi : -9223372036854775808 ≤ i ∧ i ≤ 9223372036854775807) (h0 : 0 < n) (h1 : n ≤ 2000000) (W : World) : Calls Tryz.prog 20 #[.int .i64 i, .int .i64 n] W fun e w' => e = .returned (.int .i64 (i % n)) ∧ w' = W := by
  have nz : (n == 0) = false := by simp; omega
  have nz2 : ¬ n = 0 := by omega
  have b1 : -n < Int.tmod i n ∧ Int.tmod i n < n := by
    constructor
    · exact tmod_lo i n h0
    · exact Int.tmod_lt_of_pos i h0
  have w1 : IntKind.i64.wrap (Int.tmod i n) = Int.tmod i n := IntWalk.i64_in _ (by omega)
  have w2 : IntKind.i64.wrap (Int.tmod i n + n) = Int.tmod i n + n := IntWalk.i64_in _ (by omega)
  have em := emod_cases i n h0
  have EM := Lib.hid em
  clear em
  by_cases c : Int.tmod i n < 0
  · go_enter Tryz.func20, Tryz.ntmps20
    go_wp2_with fail
    go_ret
    exact ⟨by rw [EM.out, if_pos c]; rfl, rfl⟩
  · go_enter Tryz.func20, Tryz.ntmps20
    go_wp2_with fail
    go_ret
    exact ⟨by rw [EM.out, if_neg (by omega)]; rfl, rfl⟩
/-- a side of a small screen -/
def sideV (i m : Int) : Int := i % (m + 1)
theorem law_side (i m : Int) (hi : -9223372036854775808 ≤ i ∧ i ≤ 9223372036854775807) (h0 : 0 ≤ m) (h1 : m ≤ 1000) (W : World) : Calls Tryz.prog 19 #[.int .i64 i, .int .i64 m] W fun e w' => e = .returned (.int .i64 (sideV i m)) ∧ w' = W := by
  have w1 : IntKind.i64.wrap (m + 1) = m + 1 := IntWalk.i64_in _ (by omega)
  have C := Lib.hid (law_counted i (m + 1) hi (by omega) (by omega) W)
  go_enter Tryz.func19, Tryz.ntmps19
  go_wp2_with fail
  refine C.out.mono ?_; rintro e w1 ⟨rfl, rfl⟩
  go_wp2_with fail
  go_ret
  exact ⟨rfl, rfl⟩
theorem side_rng (i m : Int) (h0 : 0 ≤ m) : 0 ≤ sideV i m ∧ sideV i m ≤ m := by
  unfold sideV
  have a := Int.emod_nonneg i (show m + 1 ≠ 0 by omega)
  have b := Int.emod_lt_of_pos i (show 0 < m + 1 by omega)
  omega
/-- bytes that a law is handed -/
structure ArgB (W : World) (A : Option Addr) (c : Nat) (D : List Int) : Prop where
  cap : D.length ≤ c
  rng : ∀ b ∈ D, 0 ≤ b ∧ b < 256
  sees : Sees W W.heap.size A (D.map (.int .u8))
theorem ArgB.fed {W V : World} {A : Option Addr} {c : Nat} {D : List Int} {F : List Nat} (h : ArgB W A c D) (hb : Below W.heap.size W V) (hF : ∀ b ∈ F, W.heap.size ≤ b) : FedAt V F A D := FedAt.old (B := W.heap.size) (fun k hk => by
  obtain ⟨ad, e, h1, h2⟩ := h.sees.at (k := k) (by simpa using hk)
  refine ⟨ad, e, h1, (hb.cell (by rw [add_blk]; exact h1)).trans ?_⟩
  rw [h2]
  simp [List.getD_eq_getElem?_getD, List.getElem?_eq_getElem hk]) hb.size hF
theorem St.fromN {W V : World} {nb : Nat} {t : Trm} (h : St W [] nb t V) : ∃ F, St V F nb t V ∧ (∀ t' W', St V F nb t' W' → St W [] nb t' W') ∧ ∀ b ∈ F, W.heap.size ≤ b := by
  obtain ⟨L, e, T, hf⟩ := h.lay
  have new : ∀ b ∈ L.fp, W.heap.size ≤ b := fun b m => (hf b m).elim (fun z => by simp at z) id
  have nv : ∀ b ∈ L.fp, NotV b := fun b hb => by
    have z := new b hb
    have a := block_lt_of_cell (h.g0.st.on 0 (by decide))
    have c := block_lt_of_cell (h.g0.st.off 0 (by decide))
    have d := h.g0.pg
    simp only at a c
    exact ⟨by omega, by omega, by omega⟩
  refine ⟨L.fp, ⟨h.env, Mv.refl _ _, nv, L, e, T, fun b hb => Or.inl hb⟩, fun t' W' k => ?_, new⟩
  obtain ⟨L', e', T', hf'⟩ := k.lay
  exact ⟨h.g0, h.mv.trans k.mv (fun b m => Or.inr (new b m)), h.ng, L', e', T', fun b hb => (hf' b hb).elim (fun m => Or.inr (new b m)) (fun z => Or.inr (Nat.le_trans h.mv.size z))⟩
/-- a terminal is fed what a law was handed -/
theorem arg_feed {W V : World} {nb : Nat} {t : Trm} {A : Option Addr} {c : Nat} {D : List Int} (h : ArgB W A c D) (S : St W [] nb t V) (Lv : Live t) (hD : D.length ≤ 1048576) (hh : t.held.size + D.length ≤ 300000000) :
    Calls Tryz.prog 16 #[.pointer (some ⟨nb, 0, none⟩), .slice A D.length c] V fun e w' => e = .returned (.int .i64 0) ∧ St W [] nb (feedT t D) w' := by
  obtain ⟨F, h1, up, hF⟩ := S.fromN
  refine (t_Feed h1 Lv A c D hD hh h.rng (h.fed (old_mv S.mv) hF)).mono ?_
  rintro e w' ⟨h2, h3⟩
  exact ⟨h2, up _ _ h3⟩
theorem ArgB.below {W V : World} {A : Option Addr} {c : Nat} {D : List Int} (h : ArgB W A c D) (hb : Below W.heap.size W V) : ArgB V A c D := ⟨h.cap, h.rng, fun hne => by
  obtain ⟨ad, e, h1, h2⟩ := h.sees hne
  exact ⟨ad, e, Nat.lt_of_lt_of_le h1 hb.size, fun j u hj => (hb.cell (by rw [add_blk]; exact h1)).trans (h2 j u hj)⟩⟩
theorem add_add (a : Addr) (m n : Nat) : (a.add m).add n = a.add (m + n) := by
  unfold Addr.add
  by_cases hm : m = 0
  · subst hm; simp
  · by_cases hn : n = 0
    · subst hn; simp
    · have : ¬ m + n = 0 := by omega
      simp [hm, hn, this, Nat.add_assoc]
def cutBy (A : Option Addr) (c f : Nat) : Option Addr := if c = f then A else A.map fun a => a.add f
/-- a part of what a law is handed -/
theorem ArgB.cut {W : World} {A : Option Addr} {c : Nat} {D : List Int} (h : ArgB W A c D) (f n : Nat) (hn : f + n ≤ D.length) : ArgB W (cutBy A c f) (c - f) ((D.drop f).take n) := by
  have hl : ((D.drop f).take n).length = n := by rw [List.length_take, List.length_drop]; omega
  refine ⟨by rw [hl]; have := h.cap; omega, fun b m => h.rng b (List.mem_of_mem_drop (List.mem_of_mem_take m)), fun hne => ?_⟩
  have n0 : 0 < n := by
    rcases Nat.eq_zero_or_pos n with z | z
    · subst z; exact absurd (by simp) hne
    · exact z
  obtain ⟨ad, e, h1, h2⟩ := h.sees (by intro z; have := congrArg List.length z; simp at this; subst this; simp at hn; omega)
  subst e
  have nc : ¬ c = f := by have := h.cap; omega
  refine ⟨ad.add f, by unfold cutBy; rw [if_neg nc]; rfl, by rw [add_blk]; exact h1, fun j u hj => ?_⟩
  have e2 : (ad.add f).add j = ad.add (f + j) := add_add _ _ _
  rw [e2]
  refine h2 _ _ ?_
  rw [List.getElem?_map] at hj ⊢
  rw [List.getElem?_take, List.getElem?_drop] at hj
  split at hj
  · exact hj
  · simp at hj
theorem run_cut (A : Option Addr) (l c f n : Nat) (hn : f + n ≤ l) (hc : l ≤ c) (W : World) : (Instr.slice 29 (.slice A l c) (some (.int .i64 (f : Int))) (some (.int .i64 ((f : Int) + (n : Int)))) none).run Tryz.prog W = .ok (.slice (cutBy A c f) n (c - f)) W := by
  have he : Tryz.prog.elem 29 = 5 := by kernel_rfl
  have hz : ∀ w, (Go.sizeOf 5).run Tryz.prog w = .ok 1 w := fun w => by kernel_rfl
  rw [run_slice_lh W 29 _ _ _ (by rw [he]; exact Tryz.underlying29) .i64 .i64 _ _ (by omega) (by omega) (by omega), he, hz]
  have e1 : ((f : Int) + (n : Int)).toNat = f + n := by omega
  unfold cutBy
  by_cases h0 : c = f
  · subst h0
    simp [Result.andThen, sliced, e1]
  · simp [Result.andThen, sliced, h0, e1]
theorem run_cutE (A : Option Addr) (l c f : Nat) (hn : f ≤ l) (hc : l ≤ c) (W : World) : (Instr.slice 29 (.slice A l c) (some (.int .i64 (f : Int))) none none).run Tryz.prog W = .ok (.slice (cutBy A c f) (l - f) (c - f)) W := by
  have he : Tryz.prog.elem 29 = 5 := by kernel_rfl
  have hz : ∀ w, (Go.sizeOf 5).run Tryz.prog w = .ok 1 w := fun w => by kernel_rfl
  rw [run_slice_l W 29 _ _ _ (by rw [he]; exact Tryz.underlying29) .i64 _ (by omega) (by omega), he, hz]
  unfold cutBy
  by_cases h0 : c = f
  · subst h0
    simp [Result.andThen, sliced]
  · simp [Result.andThen, sliced, h0]
theorem len_cut {D : List Int} {f n : Nat} (hn : f + n ≤ D.length) : ((D.drop f).take n).length = n := by rw [List.length_take, List.length_drop]; omega
end
end Go.Proofs.YtkllilehdpdbdaaGreatDoor
