/- The nearest colour of the palette: distances and both searches. -/
import Derived.Test.YtkllilehdpdbdaaGreatDoorColC
import Derived.Lib.QuietBelow
namespace Go.Proofs.YtkllilehdpdbdaaGreatDoor
open Go.RowKit

def dist (a b c x y z : Int) : Int := (a - x) * (a - x) + (b - y) * (b - y) + (c - z) * (c - z)

theorem sq_le (a x : Int) (h0 : 0 ≤ a) (h1 : a ≤ 255) (g0 : 0 ≤ x) (g1 : x ≤ 255) : 0 ≤ (a - x) * (a - x) ∧ (a - x) * (a - x) ≤ 65025 := by
  constructor
  · rcases Int.le_total 0 (a - x) with h | h
    · exact Int.mul_nonneg h h
    · exact Int.mul_nonneg_of_nonpos_of_nonpos h h
  · rcases Int.le_total 0 (a - x) with h | h
    · have := Int.mul_le_mul (show a - x ≤ 255 by omega) (show a - x ≤ 255 by omega) h (by omega)
      omega
    · have := Int.mul_le_mul (show -(a - x) ≤ 255 by omega) (show -(a - x) ≤ 255 by omega) (by omega) (by omega)
      rw [Int.neg_mul_neg] at this
      omega

theorem dist_comm (a b c x y z : Int) : dist a b c x y z = dist x y z a b c := by
  unfold dist
  have e : ∀ p q : Int, (p - q) * (p - q) = (q - p) * (q - p) := fun p q => by rw [← Int.neg_mul_neg, Int.neg_sub]
  rw [e a x, e b y, e c z]



/-- the best of the first k colours from lo on (k at least 1) -/
def bst (D : Int → Int) (lo : Int) : Nat → Int
  | 0 => lo
  | k + 1 => if D (lo + (k : Int)) < D (bst D lo k) then lo + (k : Int) else bst D lo k

theorem bst_range (D : Int → Int) (lo : Int) (k : Nat) : lo ≤ bst D lo k ∧ bst D lo k ≤ lo + (k : Int) := by
  induction k with
  | zero => simp [bst]
  | succ k ih =>
    unfold bst
    split <;> omega

/-- none is nearer; of those that are as near none comes ahead -/
theorem bst_best (D : Int → Int) (lo : Int) (k : Nat) (i : Nat) (hi : i < k) : D (bst D lo k) < D (lo + (i : Int)) ∨ (D (bst D lo k) = D (lo + (i : Int)) ∧ bst D lo k ≤ lo + (i : Int)) := by
  induction k with
  | zero => omega
  | succ k ih =>
    unfold bst
    split
    · rename_i h
      by_cases e : i = k
      · subst e; exact Or.inr ⟨rfl, Int.le_refl _⟩
      · rcases ih (by omega) with x | ⟨x, y⟩ <;> exact Or.inl (by omega)
    · rename_i h
      by_cases e : i = k
      · subst e
        have := (bst_range D lo i).2
        rcases Int.lt_or_eq_of_le (show D (bst D lo i) ≤ D (lo + (i : Int)) by omega) with x | x
        · exact Or.inl x
        · exact Or.inr ⟨x, this⟩
      · exact ih (by omega)
end Go.Proofs.YtkllilehdpdbdaaGreatDoor

/- The program's search for the nearest colour. -/
namespace Go.Proofs.YtkllilehdpdbdaaGreatDoor
open Go.RowKit

def palD (r g b : Int) (n : Int) : Int := dist r g b (pr n) (pg n) (pb n)

theorem pal_range (n : Int) (h0 : 0 ≤ n) (h1 : n < 256) : (0 ≤ pr n ∧ pr n ≤ 255) ∧ (0 ≤ pg n ∧ pg n ≤ 255) ∧ (0 ≤ pb n ∧ pb n ≤ 255) := by
  have h := ch_range (n + 256)
  have e1 : chR (n + 256) = pr n := by unfold chR; rw [if_neg (by omega), if_pos (by omega), show n + 256 - 256 = n by omega]
  have e2 : chG (n + 256) = pg n := by unfold chG; rw [if_neg (by omega), if_pos (by omega), show n + 256 - 256 = n by omega]
  have e3 : chB (n + 256) = pb n := by unfold chB; rw [if_neg (by omega), if_pos (by omega), show n + 256 - 256 = n by omega]
  rw [e1, e2, e3] at h
  exact h

theorem pal_bound (r g b n : Int) (hr : 0 ≤ r ∧ r ≤ 255) (hg : 0 ≤ g ∧ g ≤ 255) (hb : 0 ≤ b ∧ b ≤ 255) (h0 : 0 ≤ n) (h1 : n < 256) : 0 ≤ palD r g b n ∧ palD r g b n ≤ 195075 := by
  obtain ⟨x, y, z⟩ := pal_range n h0 h1
  have p := sq_le r (pr n) hr.1 hr.2 x.1 x.2
  have q := sq_le g (pg n) hg.1 hg.2 y.1 y.2
  have t := sq_le b (pb n) hb.1 hb.2 z.1 z.2
  unfold palD dist
  omega

end Go.Proofs.YtkllilehdpdbdaaGreatDoor

/- The reference's search for the nearest colour. -/
namespace Go.Proofs.YtkllilehdpdbdaaGreatDoor
open Go.RowKit

end Go.Proofs.YtkllilehdpdbdaaGreatDoor
