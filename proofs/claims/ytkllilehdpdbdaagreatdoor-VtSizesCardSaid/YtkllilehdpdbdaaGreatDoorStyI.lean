/- The colour behind a 38 or 48: the program's walk. -/
import Derived.Test.YtkllilehdpdbdaaGreatDoorStyS
import Derived.IntWalk
namespace Go.Proofs.YtkllilehdpdbdaaGreatDoor
open Go.RowKit Go.Sort
set_option linter.unusedVariables false

theorem st_fits (n : Int) : Tells 167 #[.int .i64 n] (.bool (okB n)) := by
  intro w
  by_cases h0 : 0 ≤ n
  · by_cases h1 : n ≤ 255
    all_goals
      have H : Hid (okB n = decide (n ≤ 255)) := by unfold okB Hid; rw [decide_eq_decide]; omega
      go_enter Tryz.func167, Tryz.ntmps167
      go_wp2
      go_ret
      exact ⟨ret_bool (by rw [H.out]; simp [h1]), rfl⟩
  · have H : Hid (okB n = false) := by unfold okB; exact Lib.hid (decide_eq_false (by omega))
    go_enter Tryz.func167, Tryz.ntmps167
    go_wp2
    go_ret
    exact ⟨ret_bool H.out.symm, rfl⟩

def richV : Option (Int × Nat) → Value
  | some (c, k) => .tuple #[.int .i32 c, .int .i64 k]
  | none => .tuple #[.int .i32 0, .int .i64 0]

theorem okB_in {n : Int} (h : okB n = true) : 0 ≤ n ∧ n ≤ 255 := by unfold okB at h; rw [decide_eq_true_iff] at h; exact h

set_option maxHeartbeats 4000000 in
set_option maxRecDepth 100000 in
theorem st_rich (A : Option Addr) (c : Nat) (xs : List Int) (hm : xs.length ≤ 35184372087808) (w : World) (h : Sees w w.heap.size A (ints xs)) :
    Calls Tryz.prog 126 #[.slice A xs.length c] w fun e w' => e = .returned (richV (richL xs)) ∧ Below w.heap.size w w' := by
  match xs, hm, h with
  | [], _, _ =>
    go_enter Tryz.func126, Tryz.ntmps126
    go_wp2_with fail
    go_ret2
    exact ⟨rfl, Below.refl _ _⟩
  | [x0], _, h =>
    have e : Hid (richL [x0] = none) := Lib.hid (by unfold richL; split <;> simp_all)
    go_enter Tryz.func126, Tryz.ntmps126
    go_wp2_with fail
    go_ret2
    exact ⟨by rw [e.out]; rfl, Below.refl _ _⟩
  | x0 :: x1 :: r, hm, h =>
    obtain ⟨ad, rfl, hab, hc⟩ := h (by simp [ints])
    have c0 : w.cell? ad = some (.int .i64 x0) := hc 0 _ rfl
    have c1 : w.cell? ⟨ad.block, ad.off + 1, none⟩ = some (.int .i64 x1) := by rw [add_lit _ 1 (by decide)]; exact hc 1 _ rfl
    have HC := Lib.hid hc
    clear hc h
    by_cases f5 : x0 = 5
    · subst f5
      cases ok : okB x1 with
      | true =>
        obtain ⟨o1, o2⟩ := okB_in ok
        have e : Hid (richL (5 :: x1 :: r) = some (256 + x1, 2)) := Lib.hid (by simp only [richL, ok, if_true])
        go_enter Tryz.func126, Tryz.ntmps126
        go_wp2_with (go_at_call 167; refine (st_fits _ _).mono ?_; rintro e w' ⟨rfl, rfl⟩; rw [ok])
        all_goals
          go_ret2
          exact ⟨by rw [e.out]; rfl, Below.refl _ _⟩
      | false =>
        have e : Hid (richL (5 :: x1 :: r) = none) := Lib.hid (by simp [richL, ok])
        by_cases l4 : 4 ≤ (5 :: x1 :: r).length
        all_goals
          go_enter Tryz.func126, Tryz.ntmps126
          go_wp2_with (go_at_call 167; refine (st_fits _ _).mono ?_; rintro e w' ⟨rfl, rfl⟩; rw [ok])
          all_goals
            go_ret2
            exact ⟨by rw [e.out]; rfl, Below.refl _ _⟩
    have g5 : (x0 == 5) = false := by simpa using f5
    have F5 := Lib.hid f5
    clear f5
    match r, hm with
    | [], _ =>
      have e : Hid (richL [x0, x1] = none) := Lib.hid (by have := F5.out; unfold richL; split <;> simp_all)
      go_enter Tryz.func126, Tryz.ntmps126
      go_wp2_with fail
      go_ret2
      exact ⟨by rw [e.out]; rfl, Below.refl _ _⟩
    | [x2], _ =>
      have e : Hid (richL [x0, x1, x2] = none) := Lib.hid (by have := F5.out; unfold richL; split <;> simp_all)
      go_enter Tryz.func126, Tryz.ntmps126
      go_wp2_with fail
      go_ret2
      exact ⟨by rw [e.out]; rfl, Below.refl _ _⟩
    | x2 :: x3 :: q, hm =>
      have c2 : w.cell? ⟨ad.block, ad.off + 2, none⟩ = some (.int .i64 x2) := by rw [add_lit _ 2 (by decide)]; exact HC.out 2 _ rfl
      have c3 : w.cell? ⟨ad.block, ad.off + 3, none⟩ = some (.int .i64 x3) := by rw [add_lit _ 3 (by decide)]; exact HC.out 3 _ rfl
      clear HC
      by_cases f2 : x0 = 2
      · subst f2
        cases k1 : okB x1
        · have e : Hid (richL (2 :: x1 :: x2 :: x3 :: q) = none) := Lib.hid (by simp [richL, k1])
          go_enter Tryz.func126, Tryz.ntmps126
          go_wp2_with (go_at_call 167; refine (st_fits _ _).mono ?_; rintro e w' ⟨rfl, rfl⟩; rw [k1])
          all_goals
            go_ret2
            exact ⟨by rw [e.out]; rfl, Below.refl _ _⟩
        cases k2 : okB x2
        · have e : Hid (richL (2 :: x1 :: x2 :: x3 :: q) = none) := Lib.hid (by simp [richL, k2])
          go_enter Tryz.func126, Tryz.ntmps126
          go_wp2_with (go_at_call 167; refine (st_fits _ _).mono ?_; rintro e w' ⟨rfl, rfl⟩; first | rw [k1] | rw [k2])
          all_goals
            go_ret2
            exact ⟨by rw [e.out]; rfl, Below.refl _ _⟩
        cases k3 : okB x3
        · have e : Hid (richL (2 :: x1 :: x2 :: x3 :: q) = none) := Lib.hid (by simp [richL, k3])
          go_enter Tryz.func126, Tryz.ntmps126
          go_wp2_with (go_at_call 167; refine (st_fits _ _).mono ?_; rintro e w' ⟨rfl, rfl⟩; first | rw [k1] | rw [k2] | rw [k3])
          all_goals
            go_ret2
            exact ⟨by rw [e.out]; rfl, Below.refl _ _⟩
        · obtain ⟨o1, o2⟩ := okB_in k1
          obtain ⟨o3, o4⟩ := okB_in k2
          obtain ⟨o5, o6⟩ := okB_in k3
          have e : Hid (richL (2 :: x1 :: x2 :: x3 :: q) = some (16777216 + (x1 * 65536 + x2 * 256 + x3), 4)) := Lib.hid (by simp only [richL, k1, k2, k3, and_self, if_true]; congr 2; omega)
          have j1 : bits .or .i64 (x1 * 65536) (x2 * 256) = x1 * 65536 + x2 * 256 := bits_join .i64 40 (by decide) (fun n a b => IntWalk.i64_in n (by omega)) 16 _ _ (by omega) (by omega) (by omega) (by omega) (by omega) (by omega)
          have j2 : bits .or .i64 (x1 * 65536 + x2 * 256) x3 = x1 * 65536 + x2 * 256 + x3 := bits_join .i64 40 (by decide) (fun n a b => IntWalk.i64_in n (by omega)) 8 _ _ (by omega) (by omega) (by omega) (by omega) (by omega) (by omega)
          go_enter Tryz.func126, Tryz.ntmps126
          go_wp2_with (go_at_call 167; refine (st_fits _ _).mono ?_; rintro e w' ⟨rfl, rfl⟩; first | rw [k1] | rw [k2] | rw [k3])
          go_quiet (fail)
          go_wp2_with fail
          go_ret2
          exact ⟨by rw [e.out]; rfl, below_drewN (Below.refl _ _) _⟩
      · have g2 : (x0 == 2) = false := by simpa using f2
        have e : Hid (richL (x0 :: x1 :: x2 :: x3 :: q) = none) := Lib.hid (by have := F5.out; unfold richL; split <;> simp_all)
        clear f2
        go_enter Tryz.func126, Tryz.ntmps126
        go_wp2_with fail
        all_goals
          go_ret2
          exact ⟨by rw [e.out]; rfl, Below.refl _ _⟩
end Go.Proofs.YtkllilehdpdbdaaGreatDoor
