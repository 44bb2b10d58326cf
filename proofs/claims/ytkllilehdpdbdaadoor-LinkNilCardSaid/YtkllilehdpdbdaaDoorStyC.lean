/- What a style and a patch count as: the walks of both sides. -/
import Derived.Test.YtkllilehdpdbdaaDoorColC
import Derived.Test.YtkllilehdpdbdaaDoorStyPl
import Derived.StillTailTactics
namespace Go.Proofs.YtkllilehdpdbdaaDoor
open Go.RowKit
set_option linter.unusedVariables false

abbrev styV (f b : Int) (a : B8) : Value := .agg #[.int .i32 f, .int .i32 b, .int .u8 (bI a)]
abbrev patV (f b : Int) (a d : B8) : Value := .agg #[.int .i32 f, .int .i32 b, .int .u8 (bI a), .int .u8 (bI d)]

theorem Tells.still {k : Nat} {args : Array Value} {v : Value} (h : Tells k args v) {w : World} : Calls Tryd.prog k args w fun e w'' => e = .returned v ∧ w'' = w :=
  (h w).mono fun _ _ ⟨he, hm⟩ => ⟨he, hm.symm⟩

theorem st_plain (c : Int) : Tells 35 #[.int .i32 c] (.int .i32 (plC c)) := by
  intro w
  by_cases h1 : c = 1
  · subst h1
    go_enter Tryd.func35, Tryd.ntmps35
    go_wp2
    go_ret
    exact ⟨rfl, rfl⟩
  · cases h : rightB c
    all_goals
      have H : Hid (plC c = if rightB c = true then c else 0) := by unfold plC cnt Hid; rw [if_neg h1]
      go_enter Tryd.func35, Tryd.ntmps35
      go_wp2_with (go_at_call 44; refine (tint_Right _ _).mono ?_; rintro e w' ⟨rfl, rfl⟩; rw [h])
      go_ret
      exact ⟨ret_int (by rw [H.out, h]; simp), rfl⟩

theorem st_said (c : Int) : Tells 48 #[.int .i32 c] (.int .i32 (cnt c)) := by
  intro w
  cases h : rightB c
  all_goals
    have H : Hid (cnt c = if rightB c = true then c else 0) := rfl
    go_enter Tryd.func48, Tryd.ntmps48
    go_wp2_with (go_at_call 44; refine (tint_Right _ _).mono ?_; rintro e w' ⟨rfl, rfl⟩; rw [h])
    go_ret
    exact ⟨ret_int (by rw [H.out, h]; simp), rfl⟩

set_option maxHeartbeats 4000000 in
set_option maxRecDepth 100000 in
theorem st_counts (f b : Int) (a : B8) : Gives 20 #[styV f b a] (styV (plC f) (plC b) a) := by
  intro w
  go_enter Tryd.func20, Tryd.ntmps20
  go_wp2_with fail
  refine wp_region_still_tail 9 (by kernel_rfl) (by kernel_rfl) ?_
  change wpStill _ _ (World.drew _) _ _ _
  simp only [List.take_succ_cons, List.take_zero, List.drop_succ_cons, List.drop_zero]
  repeat (first | still_step | still_call (st_plain _).still)
  refine wpStill_nil ?_
  change wpList _ _ _ _ _ (World.drew _)
  go_wp2_with fail
  exact bodyPost_ret (v := styV (plC f) (plC b) a) (by simp [results, Tryd.results20, go_sem]) rfl ⟨rfl, by go_grown⟩





abbrev col32 (c : Int) : Prop := -2147483648 ≤ c ∧ c ≤ 2147483647



end Go.Proofs.YtkllilehdpdbdaaDoor
