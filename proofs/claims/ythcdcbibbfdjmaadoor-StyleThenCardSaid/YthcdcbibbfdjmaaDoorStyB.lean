/- What numbers do to a style: plain steps of the program's walk. -/
import Derived.Test.YthcdcbibbfdjmaaDoorStyU
namespace Go.Proofs.YthcdcbibbfdjmaaDoor
open Go.RowKit
set_option linter.unusedVariables false

/-- is it told of the background? -/
def shN (x : Int) : Bool := decide ((40 ≤ x ∧ x ≤ 49) ∨ (100 ≤ x ∧ x ≤ 107))
def mN (x : Int) : Int := if shN x = true then x - 10 else x
def bitS (i : Nat) : B8 := BitVec.ofNat 8 (2 ^ i)
/-- the attributes behind the first j names -/
def foldA (m : Int) (a : B8) : Nat → B8
  | 0 => a
  | j + 1 => let b := if m = onN j then foldA m a j ||| bitS j else foldA m a j
             if m = offN j then b &&& ~~~bitS j else b

theorem fold_small : ∀ (n : Fin 30) (a : B8), foldA (n.val : Int) a 8 = attrN a (n.val : Int) := by decide +kernel
theorem on_vals : ∀ j : Fin 8, 0 < onN j.val ∧ onN j.val < 30 ∧ 0 < offN j.val ∧ offN j.val < 30 := by decide
theorem fold_other (m : Int) (a : B8) (h : m < 0 ∨ 30 ≤ m) : ∀ j, j ≤ 8 → foldA m a j = a := by
  intro j
  induction j with
  | zero => intro _; rfl
  | succ j ih =>
    intro hj
    have v := on_vals ⟨j, by omega⟩
    simp only at v
    unfold foldA
    simp only
    rw [if_neg (by omega), if_neg (by omega)]
    exact ih (by omega)
theorem fold_attr (m : Int) (a : B8) : foldA m a 8 = attrN a m := by
  by_cases h : 0 ≤ m ∧ m < 30
  · have := fold_small ⟨m.toNat, by omega⟩ a
    simp only [Int.toNat_of_nonneg h.1] at this
    exact this
  · rw [fold_other m a (by omega) 8 (by decide)]
    by_cases h30 : 30 ≤ m
    · exact (attr_same a m h30).symm
    · unfold attrN takeM setM
      simp only [show m ≠ 22 by omega, show m ≠ 23 by omega, show m ≠ 24 by omega, show m ≠ 25 by omega, show m ≠ 27 by omega, show m ≠ 28 by omega, show m ≠ 29 by omega,
        show m ≠ 1 by omega, show m ≠ 2 by omega, show m ≠ 3 by omega, show m ≠ 4 by omega, show m ≠ 5 by omega, show m ≠ 7 by omega, show m ≠ 8 by omega, show m ≠ 9 by omega, if_false]
      simp
      rw [show (255#8) = BitVec.allOnes 8 from rfl, BitVec.and_allOnes]

/-- one number, by the program's sorts -/
theorem run_reset (t : Sty) (r : List Int) : runL t (0 :: r) = runL { plainS with at_ := attrN plainS.at_ 0 } r := by
  rw [runL_zero]; rfl
theorem run_plain (t : Sty) (x : Int) (r : List Int) (h0 : x ≠ 0) (h38 : mN x ≠ 38) : runL t (x :: r) = runL ⟨colN t.fg x, colN t.bg (x - 10), attrN t.at_ (mN x)⟩ r := by
  have e : attrN t.at_ (mN x) = attrN t.at_ x := by
    unfold mN shN
    split
    · rename_i h
      rw [decide_eq_true_iff] at h
      rw [attr_same _ _ (by omega), attr_same _ _ (by omega)]
    · rfl
  have s : smpl x = true := by
    unfold smpl
    rw [decide_eq_true_iff]
    refine ⟨h0, ?_, ?_⟩
    · rintro rfl; exact h38 rfl
    · rintro rfl; exact h38 rfl
  rw [runL_simple t x r s, e]
  rfl
theorem mN_zero (x : Int) (h : mN x = 0) : x = 0 := by
  unfold mN shN at h
  split at h
  · rename_i q; rw [decide_eq_true_iff] at q; omega
  · exact h
theorem run_fgN (t : Sty) (x : Int) (r : List Int) (hs : shN x = false) (h0 : mN x ≠ 0) (h38 : mN x ≠ 38) : runL t (x :: r) = runL { (⟨colN t.fg (mN x), t.bg, t.at_⟩ : Sty) with at_ := attrN t.at_ (mN x) } r := by
  have e : mN x = x := by unfold mN; rw [if_neg (by rw [hs]; decide)]
  rw [run_plain t x r (by rw [← e]; exact h0) h38]
  have b : colN t.bg (x - 10) = t.bg := by
    unfold shN at hs
    rw [decide_eq_false_iff_not] at hs
    unfold colN; rw [if_neg (by omega), if_neg (by omega), if_neg (by omega)]
  rw [b, e]
theorem run_bgN (t : Sty) (x : Int) (r : List Int) (hs : shN x = true) (h38 : mN x ≠ 38) : runL t (x :: r) = runL { (⟨t.fg, colN t.bg (mN x), t.at_⟩ : Sty) with at_ := attrN t.at_ (mN x) } r := by
  have e : mN x = x - 10 := by unfold mN; rw [if_pos hs]
  unfold shN at hs
  rw [decide_eq_true_iff] at hs
  rw [run_plain t x r (by omega) h38]
  have b : colN t.fg x = t.fg := by unfold colN; rw [if_neg (by omega), if_neg (by omega), if_neg (by omega)]
  rw [b, e]
theorem run_rich (t : Sty) (x : Int) (r : List Int) (h : mN x = 38) (c : Int) (k : Nat) (hr : richL r = some (c, k)) :
    runL t (x :: r) = runL (if shN x = true then { t with bg := c, at_ := attrN t.at_ 38 } else { t with fg := c, at_ := attrN t.at_ 38 }) (r.drop k) := by
  have hx : x = 38 ∨ x = 48 := by
    unfold mN shN at h
    split at h
    · rename_i q; rw [decide_eq_true_iff] at q; omega
    · omega
  rcases hx with rfl | rfl
  · rw [runL_38 t r c k hr, attr_same _ _ (by decide)]; rfl
  · rw [runL_48 t r c k hr, attr_same _ _ (by decide)]; rfl
theorem run_poor (t : Sty) (x : Int) (r : List Int) (h : mN x = 38) (hr : richL r = none) : runL t (x :: r) = t := by
  have hx : x = 38 ∨ x = 48 := by
    unfold mN shN at h
    split at h
    · rename_i q; rw [decide_eq_true_iff] at q; omega
    · omega
  rcases hx with rfl | rfl
  · show applyF (r.length + 1) t (38 :: r) = t
    unfold applyF
    rw [if_neg (by decide), if_pos rfl, hr]
  · show applyF (r.length + 1) t (48 :: r) = t
    unfold applyF
    rw [if_neg (by decide), if_neg (by decide), if_pos rfl, hr]
theorem rich_len {r : List Int} {c : Int} {k : Nat} (h : richL r = some (c, k)) : k ≤ r.length ∧ 2 ≤ k ∧ inSty c ∧ c ≠ 0 := by
  unfold richL at h
  split at h
  · split at h
    · rename_i o
      unfold okB at o
      rw [decide_eq_true_iff] at o
      cases h
      exact ⟨by simp, by decide, Or.inr (Or.inl ⟨by omega, by omega⟩), by omega⟩
    · cases h
  · split at h
    · rename_i o
      obtain ⟨o1, o2, o3⟩ := o
      unfold okB at o1 o2 o3
      rw [decide_eq_true_iff] at o1 o2 o3
      cases h
      exact ⟨by simp, by decide, Or.inr (Or.inr ⟨by omega, by omega⟩), by omega⟩
    · cases h
  · cases h
end Go.Proofs.YthcdcbibbfdjmaaDoor
