/- The walks of the reference's functions on colours, channels and the palette. -/
import Derived.Test.YtkllilehdpdbdaaGreatDoorColB
namespace Go.Proofs.YtkllilehdpdbdaaGreatDoor
open Go.RowKit

def sortK (c : Int) : Int := if c = 1 then 1 else if 256 ≤ c ∧ c < 512 then 2 else if 16777216 ≤ c ∧ c < 33554432 then 3 else 0
def sortN (c : Int) : Int := if 256 ≤ c ∧ c < 512 then c - 256 else if 16777216 ≤ c ∧ c < 33554432 then c - 16777216 else 0

theorem sort_cases (c : Int) : (c = 1 ∧ sortK c = 1 ∧ sortN c = 0) ∨ (256 ≤ c ∧ c < 512 ∧ sortK c = 2 ∧ sortN c = c - 256) ∨ (16777216 ≤ c ∧ c < 33554432 ∧ sortK c = 3 ∧ sortN c = c - 16777216) ∨ (c ≠ 1 ∧ ¬ (256 ≤ c ∧ c < 512) ∧ ¬ (16777216 ≤ c ∧ c < 33554432) ∧ sortK c = 0 ∧ sortN c = 0) := by
  unfold sortK sortN
  by_cases h1 : c = 1
  · left; subst h1; exact ⟨rfl, by simp, by simp⟩
  by_cases h2 : 256 ≤ c ∧ c < 512
  · right; left; exact ⟨h2.1, h2.2, by rw [if_neg h1, if_pos h2], by rw [if_pos h2]⟩
  by_cases h3 : 16777216 ≤ c ∧ c < 33554432
  · right; right; left; exact ⟨h3.1, h3.2, by rw [if_neg h1, if_neg h2, if_pos h3], by rw [if_neg h2, if_pos h3]⟩
  · right; right; right; exact ⟨h1, h2, h3, by rw [if_neg h1, if_neg h2, if_neg h3], by rw [if_neg h2, if_neg h3]⟩

theorem ref_sort (c : Int) (hl : -2147483648 ≤ c) (hh : c ≤ 2147483647) : Tells 237 #[.int .i32 c] (.tuple #[.int .i64 (sortK c), .int .i64 (sortN c)]) := by
  intro w
  rcases sort_cases c with ⟨h, hk, hn⟩ | ⟨h, h', hk, hn⟩ | ⟨h, h', hk, hn⟩ | ⟨h, h2, h3, hk, hn⟩
  · have H := Lib.hid (And.intro hk hn); clear hk hn
    subst h
    go_enter Tryz.func237, Tryz.ntmps237
    go_wp2
    go_ret2
    exact ⟨by rw [H.out.1, H.out.2]; rfl, rfl⟩
  · have H := Lib.hid (And.intro hk hn); clear hk hn
    have g1 : (c == 1) = false := by simp; omega
    have g2 : decide (c ≤ 511) = true := by simp; omega
    go_enter Tryz.func237, Tryz.ntmps237
    go_wp2
    go_ret2
    exact ⟨by rw [H.out.1, H.out.2]; rfl, rfl⟩
  · have H := Lib.hid (And.intro hk hn); clear hk hn
    have g1 : (c == 1) = false := by simp; omega
    have g2 : decide (c ≤ 511) = false := by simp; omega
    have g3 : decide (c ≤ 33554431) = true := by simp; omega
    go_enter Tryz.func237, Tryz.ntmps237
    go_wp2
    go_ret2
    exact ⟨by rw [H.out.1, H.out.2]; rfl, rfl⟩
  · have H := Lib.hid (And.intro hk hn); clear hk hn
    have g1 : (c == 1) = false := by simp; omega
    by_cases a : 256 ≤ c
    · have g2 : decide (c ≤ 511) = false := by simp; omega
      by_cases b : 16777216 ≤ c
      · have g3 : decide (c ≤ 33554431) = false := by simp; omega
        clear h2 h3
        go_enter Tryz.func237, Tryz.ntmps237
        go_wp2
        go_ret2
        exact ⟨by rw [H.out.1, H.out.2]; rfl, rfl⟩
      · clear h2 h3
        go_enter Tryz.func237, Tryz.ntmps237
        go_wp2
        go_ret2
        exact ⟨by rw [H.out.1, H.out.2]; rfl, rfl⟩
    · clear h2 h3
      go_enter Tryz.func237, Tryz.ntmps237
      go_wp2
      go_ret2
      exact ⟨by rw [H.out.1, H.out.2]; rfl, rfl⟩



theorem cube_six (n : Int) (h0 : 0 ≤ n) (h1 : n ≤ 5) : n = 0 ∨ n = 1 ∨ n = 2 ∨ n = 3 ∨ n = 4 ∨ n = 5 := by omega


abbrev tri (a b c : Int) : Value := .agg #[.int .i64 a, .int .i64 b, .int .i64 c]



/-- the ranges of channels -/
theorem ch_range (c : Int) : (0 ≤ chR c ∧ chR c ≤ 255) ∧ (0 ≤ chG c ∧ chG c ≤ 255) ∧ (0 ≤ chB c ∧ chB c ≤ 255) := by
  have lv : ∀ n : Int, 0 ≤ n → n ≤ 5 → 0 ≤ lev n ∧ lev n ≤ 255 := by intro n a b; unfold lev; split <;> omega
  have bo : ∀ b lo hi : Int, 0 ≤ lo → lo ≤ 255 → 0 ≤ hi → hi ≤ 255 → 0 ≤ bitOr b lo hi ∧ bitOr b lo hi ≤ 255 := by intro b lo hi _ _ _ _; unfold bitOr; split <;> omega
  unfold chR chG chB
  by_cases h : 16777216 ≤ c ∧ c < 33554432
  · rw [if_pos h, if_pos h, if_pos h]; omega
  rw [if_neg h, if_neg h, if_neg h]
  by_cases h2 : 256 ≤ c ∧ c < 512
  · rw [if_pos h2, if_pos h2, if_pos h2]
    obtain ⟨a, b⟩ := h2
    refine ⟨?_, ?_, ?_⟩
    · unfold pr
      split
      · exact bo _ _ _ (by decide) (by decide) (by decide) (by decide)
      split
      · exact bo _ _ _ (by decide) (by decide) (by decide) (by decide)
      split
      · exact lv _ (by omega) (by omega)
      · omega
    · unfold pg
      split
      · exact bo _ _ _ (by decide) (by decide) (by decide) (by decide)
      split
      · exact bo _ _ _ (by decide) (by decide) (by decide) (by decide)
      split
      · exact lv _ (by omega) (by omega)
      · omega
    · unfold pb
      split
      · exact bo _ _ _ (by decide) (by decide) (by decide) (by decide)
      split
      · exact bo _ _ _ (by decide) (by decide) (by decide) (by decide)
      split
      · exact lv _ (by omega) (by omega)
      · omega
  · rw [if_neg h2, if_neg h2, if_neg h2]; omega


end Go.Proofs.YtkllilehdpdbdaaGreatDoor
