/- What numbers do to a style: the walk of the reference. -/
import Derived.Test.YthcdcbibbfdjmaaDoorStyEb
import Derived.Test.YthcdcbibbfdjmaaDoorStyQr
import Derived.Deep.CutBlock
namespace Go.Proofs.YthcdcbibbfdjmaaDoor
open Go.RowKit Go.Sort
set_option linter.unusedVariables false

set_option maxHeartbeats 4000000 in
set_option maxRecDepth 100000 in
theorem ref_long (A : Option Addr) (c : Nat) (xs : List Int) (hm : xs.length ≤ 35184372087808) (w : World) (h : Sees w w.heap.size A (ints xs)) :
    Calls Tryd.prog 43 #[.slice A xs.length c] w fun e w' => e = .returned (richV (richL xs)) ∧ Below w.heap.size w w' := by
  match xs, hm, h with
  | [], _, _ =>
    go_enter Tryd.func43, Tryd.ntmps43
    go_wp2_with fail
    go_ret2
    exact ⟨rfl, Below.refl _ _⟩
  | [x0], _, h =>
    have e : Hid (richL [x0] = none) := Lib.hid (by unfold richL; split <;> simp_all)
    go_enter Tryd.func43, Tryd.ntmps43
    go_wp2_with fail
    go_ret2
    exact ⟨by rw [e.out]; rfl, Below.refl _ _⟩
  | x0 :: x1 :: r, hm, h =>
    obtain ⟨ad, rfl, hab, hc⟩ := h (by simp [ints])
    have c0 : w.cell? ad = some (.int .i64 x0) := hc 0 _ rfl
    have c1 : w.cell? ⟨ad.block, ad.off + 1, none⟩ = some (.int .i64 x1) := by rw [add_lit _ 1 (by decide)]; exact hc 1 _ rfl
    have HC := Lib.hid hc
    clear hc h
    by_cases f5 : x0 = 5
    · subst f5
      cases ok : okB x1 with
      | true =>
        obtain ⟨o1, o2⟩ := okB_in ok
        have e : Hid (richL (5 :: x1 :: r) = some (256 + x1, 2)) := Lib.hid (by simp only [richL, ok, if_true])
        go_enter Tryd.func43, Tryd.ntmps43
        go_wp2_with (go_at_call 75; refine (ref_byteful _ _).mono ?_; rintro e w' ⟨rfl, rfl⟩; rw [ok])
        all_goals
          go_ret2
          exact ⟨by rw [e.out]; rfl, Below.refl _ _⟩
      | false =>
        have e : Hid (richL (5 :: x1 :: r) = none) := Lib.hid (by simp [richL, ok])
        by_cases l4 : 4 ≤ (5 :: x1 :: r).length
        all_goals
          go_enter Tryd.func43, Tryd.ntmps43
          go_wp2_with (go_at_call 75; refine (ref_byteful _ _).mono ?_; rintro e w' ⟨rfl, rfl⟩; rw [ok])
          all_goals
            go_ret2
            exact ⟨by rw [e.out]; rfl, Below.refl _ _⟩
    have g5 : (x0 == 5) = false := by simpa using f5
    have F5 := Lib.hid f5
    clear f5
    match r, hm with
    | [], _ =>
      have e : Hid (richL [x0, x1] = none) := Lib.hid (by have := F5.out; unfold richL; split <;> simp_all)
      go_enter Tryd.func43, Tryd.ntmps43
      go_wp2_with fail
      go_ret2
      exact ⟨by rw [e.out]; rfl, Below.refl _ _⟩
    | [x2], _ =>
      have e : Hid (richL [x0, x1, x2] = none) := Lib.hid (by have := F5.out; unfold richL; split <;> simp_all)
      go_enter Tryd.func43, Tryd.ntmps43
      go_wp2_with fail
      go_ret2
      exact ⟨by rw [e.out]; rfl, Below.refl _ _⟩
    | x2 :: x3 :: q, hm =>
      have c2 : w.cell? ⟨ad.block, ad.off + 2, none⟩ = some (.int .i64 x2) := by rw [add_lit _ 2 (by decide)]; exact HC.out 2 _ rfl
      have c3 : w.cell? ⟨ad.block, ad.off + 3, none⟩ = some (.int .i64 x3) := by rw [add_lit _ 3 (by decide)]; exact HC.out 3 _ rfl
      clear HC
      by_cases f2 : x0 = 2
      · subst f2
        have R : Hid (richL (2 :: x1 :: x2 :: x3 :: q) = if okB x1 = true ∧ okB x2 = true ∧ okB x3 = true then some (16777216 + 65536 * x1 + 256 * x2 + x3, 4) else none) := Lib.hid rfl
        cases k1 : okB x1
        all_goals cases k2 : okB x2
        all_goals cases k3 : okB x3
        all_goals
          have T1 := ref_byteful x1
          have T2 := ref_byteful x2
          have T3 := ref_byteful x3
          have R := R.out
          rw [k1] at R T1
          rw [k2] at R T2
          rw [k3] at R T3
          have R := Lib.hid R
          have T1 := Lib.hid T1
          have T2 := Lib.hid T2
          have T3 := Lib.hid T3
          first | (obtain ⟨o1, o2⟩ := okB_in k1; obtain ⟨o3, o4⟩ := okB_in k2; obtain ⟨o5, o6⟩ := okB_in k3) | skip
          clear k1 k2 k3
          go_enter Tryd.func43, Tryd.ntmps43
          go_wp2_with fail
          refine (T1.out _).mono ?_; rintro e w' ⟨rfl, rfl⟩
          go_wp2_with fail
          refine (T2.out _).mono ?_; rintro e w' ⟨rfl, rfl⟩
          go_wp2_with fail
          refine (T3.out _).mono ?_; rintro e w' ⟨rfl, rfl⟩
          go_wp2_with fail
          first
            | (go_ret2
               exact ⟨by rw [R.out]; rfl, Below.refl _ _⟩)
            | (go_quiet (fail)
               go_wp2_with fail
               go_ret2
               exact ⟨by rw [R.out]; rfl, below_drewN (Below.refl _ _) _⟩)
      · have g2 : (x0 == 2) = false := by simpa using f2
        have e : Hid (richL (x0 :: x1 :: x2 :: x3 :: q) = none) := Lib.hid (by have := F5.out; unfold richL; split <;> simp_all)
        clear f2
        go_enter Tryd.func43, Tryd.ntmps43
        go_wp2_with fail
        all_goals
          go_ret2
          exact ⟨by rw [e.out]; rfl, Below.refl _ _⟩
end Go.Proofs.YthcdcbibbfdjmaaDoor
