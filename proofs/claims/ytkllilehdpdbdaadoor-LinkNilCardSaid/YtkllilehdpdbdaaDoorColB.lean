/- The walks of layer 5's functions on colours, channels and the palette, continued. -/
import Derived.Test.YtkllilehdpdbdaaDoorColA
namespace Go.Proofs.YtkllilehdpdbdaaDoor
open Go.RowKit

/-! ### channels -/
def hasC (c : Int) : Bool := decide ((256 ≤ c ∧ c < 512) ∨ (16777216 ≤ c ∧ c < 33554432))
def chR (c : Int) : Int := if 16777216 ≤ c ∧ c < 33554432 then c / 65536 % 256 else if 256 ≤ c ∧ c < 512 then pr (c - 256) else 0
def chG (c : Int) : Int := if 16777216 ≤ c ∧ c < 33554432 then c / 256 % 256 else if 256 ≤ c ∧ c < 512 then pg (c - 256) else 0
def chB (c : Int) : Int := if 16777216 ≤ c ∧ c < 33554432 then c % 256 else if 256 ≤ c ∧ c < 512 then pb (c - 256) else 0

theorem tint_RGB (c : Int) : Gives 37 #[.int .i32 c] (.tuple #[arr3 (chR c) (chG c) (chB c), .bool (hasC c)]) := by
  intro w
  by_cases h : 16777216 ≤ c ∧ c < 33554432
  · have hc : cnt c = c := by unfold cnt; rw [if_pos]; unfold rightB; rw [decide_eq_true_iff]; omega
    have H : Hid (hasC c = true ∧ chR c = c / 65536 % 256 ∧ chG c = c / 256 % 256 ∧ chB c = c % 256) := by
      unfold Hid hasC chR chG chB
      rw [if_pos h, if_pos h, if_pos h, decide_eq_true_iff]
      exact ⟨Or.inr h, rfl, rfl, rfl⟩
    obtain ⟨ha, hb⟩ := h
    go_enter Tryd.func37, Tryd.ntmps37
    go_wp2_with (go_at_call 36; refine (tint_counted _ _).mono ?_; rintro e w' ⟨rfl, rfl⟩; rw [hc])
    refine bodyPost_ret (v := .tuple #[arr3 (c / 65536 % 256) (c / 256 % 256) (c % 256), .bool true]) (by simp [arr3, results, Tryd.results37, go_sem]) rfl ⟨by rw [H.out.1, H.out.2.1, H.out.2.2.1, H.out.2.2.2], by go_grown⟩
  by_cases h2 : 256 ≤ c ∧ c < 512
  · have hc : cnt c = c := by unfold cnt; rw [if_pos]; unfold rightB; rw [decide_eq_true_iff]; omega
    have H : Hid (hasC c = true ∧ chR c = pr (c - 256) ∧ chG c = pg (c - 256) ∧ chB c = pb (c - 256)) := by
      unfold Hid hasC chR chG chB
      rw [if_neg h, if_neg h, if_neg h, if_pos h2, if_pos h2, if_pos h2, decide_eq_true_iff]
      exact ⟨Or.inl h2, rfl, rfl, rfl⟩
    obtain ⟨ha, hb⟩ := h2
    clear h
    go_enter Tryd.func37, Tryd.ntmps37
    go_wp2_with (first | (go_at_call 36; refine (tint_counted _ _).mono ?_; rintro e w' ⟨rfl, rfl⟩; rw [hc]) | (go_at_call 45; refine (tint_place _ (by omega) (by omega) _).mono ?_; rintro e w1 ⟨rfl, hb1⟩; obtain ⟨hcl, hfz, hz⟩ := bcell hb1; simp only [World.size_alloc] at hcl hfz hz))
    have hb2 : Below w.heap.size w w1 := below_call ((Below.refl _ _).alloc (Nat.le_refl _) _) (by simp) hb1
    exact bodyPost_ret (v := .tuple #[arr3 (pr (c - 256)) (pg (c - 256)) (pb (c - 256)), .bool true]) (by simp [arr3, results, Tryd.results37, go_sem, hcl]) rfl ⟨by rw [H.out.1, H.out.2.1, H.out.2.2.1, H.out.2.2.2], by go_grown⟩
  · have hc : cnt c = 0 ∨ cnt c = 1 := by
      unfold cnt
      by_cases r : rightB c = true
      · rw [if_pos r]; unfold rightB at r; rw [decide_eq_true_iff] at r; omega
      · rw [if_neg r]; exact Or.inl rfl
    have H : Hid (hasC c = false ∧ chR c = 0 ∧ chG c = 0 ∧ chB c = 0) := by
      unfold Hid hasC chR chG chB
      rw [if_neg h, if_neg h, if_neg h, if_neg h2, if_neg h2, if_neg h2, decide_eq_false_iff_not]
      exact ⟨by rintro (x | x) <;> contradiction, rfl, rfl, rfl⟩
    clear h h2
    rcases hc with hc | hc
    all_goals
      go_enter Tryd.func37, Tryd.ntmps37
      go_wp2_with (go_at_call 36; refine (tint_counted _ _).mono ?_; rintro e w' ⟨rfl, rfl⟩; rw [hc])
      refine bodyPost_ret (v := .tuple #[arr3 0 0 0, .bool false]) (by simp [arr3, results, Tryd.results37, go_sem]) rfl ⟨by rw [H.out.1, H.out.2.1, H.out.2.2.1, H.out.2.2.2], by go_grown⟩
end Go.Proofs.YtkllilehdpdbdaaDoor
