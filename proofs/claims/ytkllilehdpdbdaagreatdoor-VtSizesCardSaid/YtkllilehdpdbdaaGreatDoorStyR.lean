/- A style at a depth (plain). -/
import Derived.Test.YtkllilehdpdbdaaGreatDoorTo
import Derived.Test.YtkllilehdpdbdaaGreatDoorStyPl
namespace Go.Proofs.YtkllilehdpdbdaaGreatDoor
open Go.RowKit
set_option linter.unusedVariables false

def poorC (c d : Int) : Int := if c = 0 ∨ d ≤ 0 then 0 else if d = 1 then to16V c else if d = 2 then to256V c else c
def reduceS (s : Sty) (d : Int) : Sty := ⟨poorC (plC s.fg) d, poorC (plC s.bg) d, s.at_⟩

theorem bst_le' (D : Int → Int) (lo : Int) (k m : Nat) (h : m = k + 1) : bst D lo m ≤ lo + (k : Int) := by
  subst h
  unfold bst
  split
  · exact Int.le_refl _
  · exact (bst_range D lo k).2

theorem inSty_cnt (c : Int) (h : inSty c) : cnt c = c := by
  unfold cnt rightB
  rcases h with rfl | h | h
  · rfl
  · rw [if_pos (by rw [decide_eq_true_iff]; omega)]
  · rw [if_pos (by rw [decide_eq_true_iff]; omega)]

theorem poor_in (c d : Int) (h : inSty c) : inSty (poorC c d) := by
  unfold poorC
  split
  · exact Or.inl rfl
  · split
    · unfold to16V
      split
      · have h1 := bst_le' (palD (chR c) (chG c) (chB c)) 0 15 16 rfl
        have h2 := (bst_range (palD (chR c) (chG c) (chB c)) 0 16).1
        exact Or.inr (Or.inl ⟨by omega, by omega⟩)
      · rw [inSty_cnt c h]; exact h
    · split
      · unfold to256V
        split
        · have h1 := bst_le' (palD (chR c) (chG c) (chB c)) 16 239 240 rfl
          have h2 := (bst_range (palD (chR c) (chG c) (chB c)) 16 240).1
          exact Or.inr (Or.inl ⟨by omega, by omega⟩)
        · rw [inSty_cnt c h]; exact h
      · exact h

theorem poor_twice (c d : Int) (h : inSty c) : poorC (poorC c d) d = poorC c d := by
  by_cases c0 : c = 0 ∨ d ≤ 0
  · have e : poorC c d = 0 := by unfold poorC; rw [if_pos c0]
    rw [e]; unfold poorC; rw [if_pos (Or.inl rfl)]
  have c1 : c ≠ 0 := fun e => c0 (Or.inl e)
  have c2 : ¬ d ≤ 0 := fun e => c0 (Or.inr e)
  by_cases d1 : d = 1
  · have e : ∀ x, x ≠ 0 → poorC x d = to16V x := fun x hx => by
      unfold poorC; rw [if_neg (by omega), if_pos d1]
    rw [e c c1]
    have t : 256 ≤ to16V c ∧ to16V c < 272 := by
      unfold to16V
      split
      · have h1 := bst_le' (palD (chR c) (chG c) (chB c)) 0 15 16 rfl
        have h2 := (bst_range (palD (chR c) (chG c) (chB c)) 0 16).1
        omega
      · rw [inSty_cnt c h]
        rcases h with h | h | h <;> omega
    rw [e _ (by omega)]
    generalize to16V c = x at t
    unfold to16V
    rw [if_neg (by omega), inSty_cnt x (Or.inr (Or.inl ⟨by omega, by omega⟩))]
  by_cases d2 : d = 2
  · have e : ∀ x, x ≠ 0 → poorC x d = to256V x := fun x hx => by
      unfold poorC; rw [if_neg (by omega), if_neg d1, if_pos d2]
    rw [e c c1]
    have t : 256 ≤ to256V c ∧ to256V c < 512 := by
      unfold to256V
      split
      · have h1 := bst_le' (palD (chR c) (chG c) (chB c)) 16 239 240 rfl
        have h2 := (bst_range (palD (chR c) (chG c) (chB c)) 16 240).1
        omega
      · rw [inSty_cnt c h]
        rcases h with h | h | h <;> omega
    rw [e _ (by omega)]
    generalize to256V c = x at t
    unfold to256V
    rw [if_neg (by omega), inSty_cnt x (Or.inr (Or.inl ⟨by omega, by omega⟩))]
  · have e : ∀ x, x ≠ 0 → poorC x d = x := fun x hx => by
      unfold poorC; rw [if_neg (by omega), if_neg d1, if_neg d2]
    rw [e c c1, e c c1]

theorem reduce_twice (s : Sty) (d : Int) : reduceS (reduceS s d) d = reduceS s d := by
  unfold reduceS
  simp only
  rw [inSty_pl_eq _ (poor_in _ d (inSty_pl _)), inSty_pl_eq _ (poor_in _ d (inSty_pl _)), poor_twice _ d (inSty_pl _), poor_twice _ d (inSty_pl _)]
theorem reduce_full (s : Sty) (d : Int) (h : 3 ≤ d) : reduceS s d = countS s := by
  have e : ∀ x, poorC x d = x := fun x => by
    unfold poorC
    by_cases x0 : x = 0
    · rw [if_pos (Or.inl x0), x0]
    · rw [if_neg (by omega), if_neg (by omega), if_neg (by omega)]
  unfold reduceS countS
  rw [e, e]
end Go.Proofs.YtkllilehdpdbdaaGreatDoor
