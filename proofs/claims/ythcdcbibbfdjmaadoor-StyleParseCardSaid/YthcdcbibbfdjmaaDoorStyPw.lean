/- Words byte by byte, from the left (plain). -/
import Derived.Test.YthcdcbibbfdjmaaDoorStyWd
namespace Go.Proofs.YthcdcbibbfdjmaaDoor
open Go.RowKit
set_option linter.unusedVariables false

/-- what was found in the first k bytes -/
def spW (s : ByteArray) : Nat → List (Nat × Nat) × Option Nat
  | 0 => ([], none)
  | k + 1 => if blankR (s.get! k).toNat = true then
      (match (spW s k).2 with
       | some a => ((spW s k).1 ++ [(a, k)], none)
       | none => ((spW s k).1, none))
    else ((spW s k).1, some ((spW s k).2.getD k))
theorem spW_char (s : ByteArray) (k : Nat) (h : ¬ blankR (s.get! k).toNat = true) : spW s (k + 1) = ((spW s k).1, some ((spW s k).2.getD k)) := by
  conv => lhs; unfold spW
  rw [if_neg h]
theorem spW_sep (s : ByteArray) (k a : Nat) (h : blankR (s.get! k).toNat = true) (e : (spW s k).2 = some a) : spW s (k + 1) = ((spW s k).1 ++ [(a, k)], none) := by
  conv => lhs; unfold spW
  rw [if_pos h, e]
theorem spW_sep0 (s : ByteArray) (k : Nat) (h : blankR (s.get! k).toNat = true) (e : (spW s k).2 = none) : spW s (k + 1) = ((spW s k).1, none) := by
  conv => lhs; unfold spW
  rw [if_pos h, e]
theorem spW_spans (s : ByteArray) : ∀ k, k ≤ s.size → spansB s (s.size - k) k (spW s k).2 (spW s k).1 = spansB s s.size 0 none [] := by
  intro k
  induction k with
  | zero => intro _; rfl
  | succ k ih =>
    intro h
    rw [← ih (by omega), show s.size - k = (s.size - (k + 1)) + 1 by omega]
    conv => rhs; unfold spansB
    rw [if_pos (show k < s.size by omega)]
    by_cases b : blankR (s.get! k).toNat = true
    · rw [if_pos b]
      cases e : (spW s k).2 with
      | none => rw [spW_sep0 s k b e]
      | some a => rw [spW_sep s k a b e]
    · rw [if_neg b, spW_char s k b]
theorem spW_end (s : ByteArray) : spW s s.size = spansB s s.size 0 none [] := by
  have := spW_spans s s.size (Nat.le_refl _)
  rw [Nat.sub_self] at this
  rw [← this]
  rfl
theorem words_spW (s : ByteArray) : wordsP s = (Lib.closeSpans s (spW s s.size)).map fun x => s.extract x.1 x.2 := by
  unfold wordsP
  rw [spW_end]
/-- a word's start lies before its end, both in the text -/
theorem spW_st (s : ByteArray) : ∀ k a, (spW s k).2 = some a → a < k := by
  intro k
  induction k with
  | zero => intro a h; simp [spW] at h
  | succ k ih =>
    intro a h
    by_cases b : blankR (s.get! k).toNat = true
    · cases e : (spW s k).2 with
      | none => rw [spW_sep0 s k b e] at h; simp at h
      | some c => rw [spW_sep s k c b e] at h; simp at h
    · rw [spW_char s k b] at h
      simp at h
      subst h
      cases e : (spW s k).2 with
      | none => simp
      | some c => have := ih c e; simp; omega
end Go.Proofs.YthcdcbibbfdjmaaDoor
