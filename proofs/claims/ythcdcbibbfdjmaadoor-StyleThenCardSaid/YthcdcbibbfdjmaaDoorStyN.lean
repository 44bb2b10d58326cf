/- The numbers that are told are small (plain). -/
import Derived.Test.YthcdcbibbfdjmaaDoorStyV
namespace Go.Proofs.YthcdcbibbfdjmaaDoor
open Go.RowKit
set_option linter.unusedVariables false

theorem col_range (c b : Int) (hc : inSty c) (h0 : 0 ≤ b) (h1 : b ≤ 100) : ∀ x ∈ colL c b, 0 ≤ x ∧ x < 1000 := by
  intro x hx
  unfold colL at hx
  rcases hc with rfl | ⟨c0, c1⟩ | ⟨c0, c1⟩
  · rw [if_pos rfl] at hx
    simp at hx
    omega
  · rw [if_neg (by omega), if_neg (by omega)] at hx
    split at hx
    · simp at hx; omega
    · split at hx
      · simp at hx; omega
      · simp at hx; omega
  · rw [if_neg (by omega), if_pos c0] at hx
    simp at hx
    omega
theorem one_range (a b : Sty) (h1 : inSty b.fg) (h2 : inSty b.bg) : ∀ x ∈ oneL a b, 0 ≤ x ∧ x < 1000 := by
  intro x hx
  have e : oneL a b = preL a.at_ b.at_ ++ (if a.fg = b.fg then [] else colL b.fg 30) ++ (if a.bg = b.bg then [] else colL b.bg 40) := by unfold oneL preL; simp [List.append_assoc]
  rw [e, List.mem_append, List.mem_append] at hx
  rcases hx with (h | h) | h
  · have := preL_small _ _ x h; omega
  · split at h
    · cases h
    · exact col_range _ _ h1 (by decide) (by decide) x h
  · split at h
    · cases h
    · exact col_range _ _ h2 (by decide) (by decide) x h
theorem two_range (b : Sty) (h1 : inSty b.fg) (h2 : inSty b.bg) : ∀ x ∈ twoL b, 0 ≤ x ∧ x < 1000 := by
  intro x hx
  unfold twoL at hx
  rw [List.mem_append, List.mem_append, List.mem_append] at hx
  rcases hx with ((h | h) | h) | h
  · simp at h; omega
  · have := set_small _ x h; omega
  · split at h
    · cases h
    · exact col_range _ _ h1 (by decide) (by decide) x h
  · split at h
    · cases h
    · exact col_range _ _ h2 (by decide) (by decide) x h
end Go.Proofs.YthcdcbibbfdjmaaDoor
