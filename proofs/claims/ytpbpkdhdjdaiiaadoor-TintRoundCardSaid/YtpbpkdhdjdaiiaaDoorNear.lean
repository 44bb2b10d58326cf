/- The nearest colour of the palette: distances and both searches. -/
import Derived.Test.YtpbpkdhdjdaiiaaDoorColC
import Derived.Lib.QuietBelow
namespace Go.Proofs.YtpbpkdhdjdaiiaaDoor
open Go.RowKit

def dist (a b c x y z : Int) : Int := (a - x) * (a - x) + (b - y) * (b - y) + (c - z) * (c - z)

theorem sq_le (a x : Int) (h0 : 0 ≤ a) (h1 : a ≤ 255) (g0 : 0 ≤ x) (g1 : x ≤ 255) : 0 ≤ (a - x) * (a - x) ∧ (a - x) * (a - x) ≤ 65025 := by
  constructor
  · rcases Int.le_total 0 (a - x) with h | h
    · exact Int.mul_nonneg h h
    · exact Int.mul_nonneg_of_nonpos_of_nonpos h h
  · rcases Int.le_total 0 (a - x) with h | h
    · have := Int.mul_le_mul (show a - x ≤ 255 by omega) (show a - x ≤ 255 by omega) h (by omega)
      omega
    · have := Int.mul_le_mul (show -(a - x) ≤ 255 by omega) (show -(a - x) ≤ 255 by omega) (by omega) (by omega)
      rw [Int.neg_mul_neg] at this
      omega

theorem dist_comm (a b c x y z : Int) : dist a b c x y z = dist x y z a b c := by
  unfold dist
  have e : ∀ p q : Int, (p - q) * (p - q) = (q - p) * (q - p) := fun p q => by rw [← Int.neg_mul_neg, Int.neg_sub]
  rw [e a x, e b y, e c z]

set_option maxHeartbeats 4000000 in
theorem tint_far (a b c x y z : Int) (ha : 0 ≤ a ∧ a ≤ 255) (hb : 0 ≤ b ∧ b ≤ 255) (hc : 0 ≤ c ∧ c ≤ 255) (hx : 0 ≤ x ∧ x ≤ 255) (hy : 0 ≤ y ∧ y ≤ 255) (hz : 0 ≤ z ∧ z ≤ 255) :
    Gives 76 #[arr3 a b c, arr3 x y z] (.int .i64 (dist a b c x y z)) := by
  intro w
  obtain ⟨p0, p1⟩ := sq_le a x ha.1 ha.2 hx.1 hx.2
  obtain ⟨q0, q1⟩ := sq_le b y hb.1 hb.2 hy.1 hy.2
  obtain ⟨r0, r1⟩ := sq_le c z hc.1 hc.2 hz.1 hz.2
  have H : Hid (dist a b c x y z = (a - x) * (a - x) + (b - y) * (b - y) + (c - z) * (c - z)) := rfl
  obtain ⟨ha0, ha1⟩ := ha; obtain ⟨hb0, hb1⟩ := hb; obtain ⟨hc0, hc1⟩ := hc
  obtain ⟨hx0, hx1⟩ := hx; obtain ⟨hy0, hy1⟩ := hy; obtain ⟨hz0, hz1⟩ := hz
  have d1 : IntKind.i64.wrap (a - x) = a - x := IntWalk.i64_in _ (by omega)
  have d2 : IntKind.i64.wrap (b - y) = b - y := IntWalk.i64_in _ (by omega)
  have d3 : IntKind.i64.wrap (c - z) = c - z := IntWalk.i64_in _ (by omega)
  go_enter Tryd.func76, Tryd.ntmps76
  go_wp2_with fail
  refine wp_loop_rounds 4 ?_
  rw [rounds_succ]
  go_wp2_with fail
  go_quiet (fail)
  go_wp2_with fail
  rw [rounds_succ]
  go_wp2_with fail
  go_quiet (fail)
  go_wp2_with fail
  rw [rounds_succ]
  go_wp2_with fail
  go_quiet (fail)
  go_wp2_with fail
  rw [rounds_succ]
  go_wp2_with fail
  go_ret
  exact ⟨ret_int (by rw [H.out]), below_drewN (by go_grown) _⟩

set_option maxHeartbeats 4000000 in
theorem ref_Distance (a b c x y z : Int) (ha : 0 ≤ a ∧ a ≤ 255) (hb : 0 ≤ b ∧ b ≤ 255) (hc : 0 ≤ c ∧ c ≤ 255) (hx : 0 ≤ x ∧ x ≤ 255) (hy : 0 ≤ y ∧ y ≤ 255) (hz : 0 ≤ z ∧ z ≤ 255) :
    Gives 77 #[tri a b c, tri x y z] (.int .i64 (dist a b c x y z)) := by
  intro w
  obtain ⟨p0, p1⟩ := sq_le a x ha.1 ha.2 hx.1 hx.2
  obtain ⟨q0, q1⟩ := sq_le b y hb.1 hb.2 hy.1 hy.2
  obtain ⟨r0, r1⟩ := sq_le c z hc.1 hc.2 hz.1 hz.2
  have H : Hid (dist a b c x y z = (a - x) * (a - x) + (b - y) * (b - y) + (c - z) * (c - z)) := rfl
  obtain ⟨ha0, ha1⟩ := ha; obtain ⟨hb0, hb1⟩ := hb; obtain ⟨hc0, hc1⟩ := hc
  obtain ⟨hx0, hx1⟩ := hx; obtain ⟨hy0, hy1⟩ := hy; obtain ⟨hz0, hz1⟩ := hz
  go_enter Tryd.func77, Tryd.ntmps77
  go_wp2_with fail
  go_ret
  exact ⟨ret_int (by rw [H.out]), by go_grown⟩

/-- the best of the first k colours from lo on (k at least 1) -/
def bst (D : Int → Int) (lo : Int) : Nat → Int
  | 0 => lo
  | k + 1 => if D (lo + (k : Int)) < D (bst D lo k) then lo + (k : Int) else bst D lo k

theorem bst_range (D : Int → Int) (lo : Int) (k : Nat) : lo ≤ bst D lo k ∧ bst D lo k ≤ lo + (k : Int) := by
  induction k with
  | zero => simp [bst]
  | succ k ih =>
    unfold bst
    split <;> omega

/-- none is nearer; of those that are as near none comes ahead -/
theorem bst_best (D : Int → Int) (lo : Int) (k : Nat) (i : Nat) (hi : i < k) : D (bst D lo k) < D (lo + (i : Int)) ∨ (D (bst D lo k) = D (lo + (i : Int)) ∧ bst D lo k ≤ lo + (i : Int)) := by
  induction k with
  | zero => omega
  | succ k ih =>
    unfold bst
    split
    · rename_i h
      by_cases e : i = k
      · subst e; exact Or.inr ⟨rfl, Int.le_refl _⟩
      · rcases ih (by omega) with x | ⟨x, y⟩ <;> exact Or.inl (by omega)
    · rename_i h
      by_cases e : i = k
      · subst e
        have := (bst_range D lo i).2
        rcases Int.lt_or_eq_of_le (show D (bst D lo i) ≤ D (lo + (i : Int)) by omega) with x | x
        · exact Or.inl x
        · exact Or.inr ⟨x, this⟩
      · exact ih (by omega)
end Go.Proofs.YtpbpkdhdjdaiiaaDoor
