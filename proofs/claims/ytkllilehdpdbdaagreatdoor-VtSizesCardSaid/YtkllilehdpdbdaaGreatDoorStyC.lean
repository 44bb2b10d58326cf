/- What a style and a patch count as: the walks of both sides. -/
import Derived.Test.YtkllilehdpdbdaaGreatDoorColC
import Derived.Test.YtkllilehdpdbdaaGreatDoorStyPl
import Derived.StillTailTactics
namespace Go.Proofs.YtkllilehdpdbdaaGreatDoor
open Go.RowKit
set_option linter.unusedVariables false

abbrev styV (f b : Int) (a : B8) : Value := .agg #[.int .i32 f, .int .i32 b, .int .u8 (bI a)]
abbrev patV (f b : Int) (a d : B8) : Value := .agg #[.int .i32 f, .int .i32 b, .int .u8 (bI a), .int .u8 (bI d)]

theorem Tells.still {k : Nat} {args : Array Value} {v : Value} (h : Tells k args v) {w : World} : Calls Tryz.prog k args w fun e w'' => e = .returned v ∧ w'' = w :=
  (h w).mono fun _ _ ⟨he, hm⟩ => ⟨he, hm.symm⟩

theorem st_plain (c : Int) : Tells 115 #[.int .i32 c] (.int .i32 (plC c)) := by
  intro w
  by_cases h1 : c = 1
  · subst h1
    go_enter Tryz.func115, Tryz.ntmps115
    go_wp2
    go_ret
    exact ⟨rfl, rfl⟩
  · cases h : rightB c
    all_goals
      have H : Hid (plC c = if rightB c = true then c else 0) := by unfold plC cnt Hid; rw [if_neg h1]
      go_enter Tryz.func115, Tryz.ntmps115
      go_wp2_with (go_at_call 163; refine (tint_Right _ _).mono ?_; rintro e w' ⟨rfl, rfl⟩; rw [h])
      go_ret
      exact ⟨ret_int (by rw [H.out, h]; simp), rfl⟩

theorem st_said (c : Int) : Tells 114 #[.int .i32 c] (.int .i32 (cnt c)) := by
  intro w
  cases h : rightB c
  all_goals
    have H : Hid (cnt c = if rightB c = true then c else 0) := rfl
    go_enter Tryz.func114, Tryz.ntmps114
    go_wp2_with (go_at_call 163; refine (tint_Right _ _).mono ?_; rintro e w' ⟨rfl, rfl⟩; rw [h])
    go_ret
    exact ⟨ret_int (by rw [H.out, h]; simp), rfl⟩

set_option maxHeartbeats 4000000 in
set_option maxRecDepth 100000 in
theorem st_counts (f b : Int) (a : B8) : Gives 113 #[styV f b a] (styV (plC f) (plC b) a) := by
  intro w
  go_enter Tryz.func113, Tryz.ntmps113
  go_wp2_with fail
  refine wp_region_still_tail 9 (by kernel_rfl) (by kernel_rfl) ?_
  change wpStill _ _ (World.drew _) _ _ _
  simp only [List.take_succ_cons, List.take_zero, List.drop_succ_cons, List.drop_zero]
  repeat (first | still_step | still_call (st_plain _).still)
  refine wpStill_nil ?_
  change wpList _ _ _ _ _ (World.drew _)
  go_wp2_with fail
  exact bodyPost_ret (v := styV (plC f) (plC b) a) (by simp [results, Tryz.results113, go_sem]) rfl ⟨rfl, by go_grown⟩


theorem ref_Right (c : Int) (hl : -2147483648 ≤ c) (hh : c ≤ 2147483647) : Tells 234 #[.int .i32 c] (.bool (rightB c)) := by
  intro w
  have hc : rightB c = decide (sortK c ≠ 0 ∨ c = 0) := by
    unfold rightB
    rw [decide_eq_decide]
    rcases sort_cases c with ⟨h, hk, hn⟩ | ⟨h, h', hk, hn⟩ | ⟨h, h', hk, hn⟩ | ⟨h, h2, h3, hk, hn⟩
    · rw [hk]; omega
    · rw [hk]; omega
    · rw [hk]; omega
    · rw [hk]; omega
  have H := Lib.hid hc; clear hc
  by_cases k : sortK c = 0
  · have H2 := Lib.hid k
    have g : (sortK c != 0) = false := by rw [k]; rfl
    clear k
    by_cases z : c = 0
    all_goals
      have Z := Lib.hid z
      first | (have g2 : (c == 0) = true := by simp [z]) | (have g2 : (c == 0) = false := by simp [z])
      clear z
      go_enter Tryz.func234, Tryz.ntmps234
      go_wp2_with (go_at_call 237; refine (ref_sort _ hl hh _).mono ?_; rintro e w' ⟨rfl, rfl⟩)
      go_ret
      exact ⟨ret_bool (by rw [H.out]; symm; first | exact decide_eq_true (Or.inr Z.out) | exact decide_eq_false (fun h => h.elim (fun h => h H2.out) Z.out)), rfl⟩
  · have H2 := Lib.hid k
    have g : (sortK c != 0) = true := by rw [bne_iff_ne]; exact k
    clear k
    go_enter Tryz.func234, Tryz.ntmps234
    go_wp2_with (go_at_call 237; refine (ref_sort _ hl hh _).mono ?_; rintro e w' ⟨rfl, rfl⟩)
    go_ret
    exact ⟨ret_bool (by rw [H.out]; symm; exact decide_eq_true (Or.inl H2.out)), rfl⟩

theorem ref_color (c : Int) (hl : -2147483648 ≤ c) (hh : c ≤ 2147483647) : Tells 218 #[.int .i32 c] (.int .i32 (plC c)) := by
  intro w
  by_cases h1 : c = 1
  · subst h1
    go_enter Tryz.func218, Tryz.ntmps218
    go_wp2_with (go_at_call 234; refine (ref_Right 1 (by decide) (by decide) _).mono ?_; rintro e w' ⟨rfl, rfl⟩; rw [show rightB 1 = true from rfl])
    go_ret
    exact ⟨rfl, rfl⟩
  · cases h : rightB c
    all_goals
      have H : Hid (plC c = if rightB c = true then c else 0) := by unfold plC cnt Hid; rw [if_neg h1]
      go_enter Tryz.func218, Tryz.ntmps218
      go_wp2_with (go_at_call 234; refine (ref_Right _ hl hh _).mono ?_; rintro e w' ⟨rfl, rfl⟩; rw [h])
      go_ret
      exact ⟨ret_int (by rw [H.out, h]; simp), rfl⟩


abbrev col32 (c : Int) : Prop := -2147483648 ≤ c ∧ c ≤ 2147483647

set_option maxHeartbeats 4000000 in
theorem ref_Counts (f b : Int) (a : B8) (hf : col32 f) (hb : col32 b) : Gives 201 #[styV f b a] (styV (plC f) (plC b) a) := by
  intro w
  have C1 := Lib.hid (ref_color f hf.1 hf.2)
  have C2 := Lib.hid (ref_color b hb.1 hb.2)
  clear hf hb
  go_enter Tryz.func201, Tryz.ntmps201
  go_wp2_with fail
  refine (C1.out _).mono ?_; rintro e w' ⟨rfl, rfl⟩
  go_wp2_with fail
  refine (C2.out _).mono ?_; rintro e w' ⟨rfl, rfl⟩
  go_wp2_with fail
  exact bodyPost_ret (v := styV (plC f) (plC b) a) (by simp [results, Tryz.results201, go_sem]) rfl ⟨rfl, by go_grown⟩


end Go.Proofs.YtkllilehdpdbdaaGreatDoor
