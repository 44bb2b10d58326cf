/- What is told is what is shown (plain). -/
import Derived.Test.YthcdcbibbfdjmaaDoorStyT
namespace Go.Proofs.YthcdcbibbfdjmaaDoor
open Go.RowKit
set_option linter.unusedVariables false

theorem small_smpl (l : List Int) (h : ∀ n ∈ l, 0 < n ∧ n < 30) : l.all smpl = true := by
  rw [List.all_eq_true]
  intro n hn
  have := h n hn
  unfold smpl
  rw [decide_eq_true_iff]
  omega

theorem bit_lit (i : Nat) (hi : i < 8) : (3 : B8).getLsbD i = decide (i < 2) ∧ (252 : B8).getLsbD i = decide (2 ≤ i) := by
  have : i = 0 ∨ i = 1 ∨ i = 2 ∨ i = 3 ∨ i = 4 ∨ i = 5 ∨ i = 6 ∨ i = 7 := by omega
  rcases this with rfl | rfl | rfl | rfl | rfl | rfl | rfl | rfl <;> decide

/-- the attributes of the first row: what becomes of them -/
def preL (a b : B8) : List Int := (if lightB a b then [22] else []) ++ takeL (a &&& ~~~b) ++ setL ((b &&& ~~~a) ||| (if lightB a b then b &&& 3 else 0))
theorem preL_small (a b : B8) : ∀ n ∈ preL a b, 0 < n ∧ n < 30 := by
  intro n hn
  unfold preL at hn
  rw [List.mem_append, List.mem_append] at hn
  rcases hn with (h | h) | h
  · split at h
    · rw [List.mem_singleton] at h; subst h; decide
    · cases h
  · exact take_small _ n h
  · exact set_small _ n h
theorem preL_bits (a b : B8) : (preL a b).foldl attrN a = b := by
  unfold preL
  rw [List.foldl_append, List.foldl_append, fold_mask (setL _), fold_mask (takeL _)]
  obtain ⟨t1, t2⟩ := take_mask (a &&& ~~~b)
  obtain ⟨s1, s2, _⟩ := set_mask ((b &&& ~~~a) ||| (if lightB a b then b &&& 3 else 0))
  rw [t1, t2, s1, s2]
  have l1 : (if lightB a b = true then [(22:Int)] else []).foldl attrN a = if lightB a b = true then a &&& ~~~3 else a := by
    split
    · show attrN a 22 = _
      unfold attrN takeM setM
      simp
    · rfl
  rw [l1]
  have low : lightB a b = false → ∀ i, i < 2 → a.getLsbD i = true → b.getLsbD i = true := by
    intro h i hi ha
    unfold lightB at h
    have z : (a &&& ~~~b) &&& 3 = 0 := by simpa using h
    have e := congrArg (fun x : B8 => x.getLsbD i) z
    simp only [BitVec.getLsbD_and, BitVec.getLsbD_not, (bit_lit i (by omega)).1, show i < 8 by omega, decide_true, ha, hi, Bool.true_and, Bool.and_true] at e
    have z0 : (0 : B8).getLsbD i = false := by simp
    rw [z0] at e
    simpa using e
  cases hl : lightB a b
  · have lw := low hl
    simp only [Bool.false_eq_true, if_false]
    apply b8_ext
    intro i hi
    have z : (0 : B8).getLsbD i = false := by simp
    have l := lw i
    simp only [BitVec.getLsbD_or, BitVec.getLsbD_and, BitVec.getLsbD_not, z, (bit_lit i hi).2, hi, decide_true, Bool.true_and]
    by_cases c : i < 2
    · have c' : ¬ 2 ≤ i := by omega
      have l' := l c
      simp only [c', decide_false]
      cases ha : a.getLsbD i <;> cases hb : b.getLsbD i <;> simp_all
    · have c' : 2 ≤ i := by omega
      simp only [c', decide_true]
      cases ha : a.getLsbD i <;> cases hb : b.getLsbD i <;> rfl
  · simp only [if_true]
    apply b8_ext
    intro i hi
    have z : (0 : B8).getLsbD i = false := by simp
    simp only [BitVec.getLsbD_or, BitVec.getLsbD_and, BitVec.getLsbD_not, z, (bit_lit i hi).1, (bit_lit i hi).2, hi, decide_true, Bool.true_and]
    by_cases c : i < 2
    · have c' : ¬ 2 ≤ i := by omega
      simp only [c, c', decide_false, decide_true]
      cases ha : a.getLsbD i <;> cases hb : b.getLsbD i <;> rfl
    · have c' : 2 ≤ i := by omega
      simp only [c, c', decide_true, decide_false]
      cases ha : a.getLsbD i <;> cases hb : b.getLsbD i <;> rfl

theorem run_one (a b : Sty) (hf : inSty b.fg) (hb : inSty b.bg) : runL a (oneL a b) = b := by
  have e : oneL a b = preL a.at_ b.at_ ++ ((if a.fg = b.fg then [] else colL b.fg 30) ++ (if a.bg = b.bg then [] else colL b.bg 40)) := by unfold oneL preL; simp [List.append_assoc]
  rw [e, runL_simples _ _ _ (small_smpl _ (preL_small _ _))]
  obtain ⟨s1, s2, s3⟩ := steps_colors (preL a.at_ b.at_) a (preL_small _ _)
  rw [preL_bits] at s3
  generalize (preL a.at_ b.at_).foldl stepN a = s at *
  obtain ⟨sf, sb, sa⟩ := s
  obtain ⟨bf, bb, ba⟩ := b
  simp only at s1 s2 s3 hf hb ⊢
  subst s1 s2 s3
  have two : ∀ t : Sty, t.bg = a.bg → runL t (if a.bg = bb then [] else colL bb 40) = { t with bg := bb } := by
    intro t ht
    split
    · rename_i h
      rw [runL_nil]
      cases t
      simp only at ht
      rw [ht, h]
    · have := run_bg bb hb t []
      rw [List.append_nil] at this
      rw [this]; rfl
  by_cases c : a.fg = bf
  · rw [if_pos c, List.nil_append]
    have t := two ⟨a.fg, a.bg, sa⟩ rfl
    rw [t, c]
  · rw [if_neg c, run_fg bf hf]
    exact two ⟨bf, a.bg, sa⟩ rfl

theorem run_two (s b : Sty) (hf : inSty b.fg) (hb : inSty b.bg) : runL s (twoL b) = b := by
  have e : twoL b = 0 :: (setL b.at_ ++ ((if b.fg = 0 then [] else colL b.fg 30) ++ (if b.bg = 0 then [] else colL b.bg 40))) := by unfold twoL; simp [List.append_assoc]
  rw [e, runL_zero, runL_simples _ _ _ (small_smpl _ (set_small _))]
  obtain ⟨s1, s2, s3⟩ := steps_colors (setL b.at_) plainS (set_small _)
  rw [show plainS.at_ = 0 from rfl, (set_mask b.at_).2.1] at s3
  generalize (setL b.at_).foldl stepN plainS = s at *
  obtain ⟨sf, sb, sa⟩ := s
  obtain ⟨bf, bb, ba⟩ := b
  simp only [plainS] at s1 s2 s3 hf hb ⊢
  subst s1 s2 s3
  have two : ∀ t : Sty, t.bg = 0 → runL t (if bb = 0 then [] else colL bb 40) = { t with bg := bb } := by
    intro t ht
    split
    · rename_i h
      rw [runL_nil]
      cases t
      simp only at ht
      rw [ht, h]
    · have := run_bg bb hb t []
      rw [List.append_nil] at this
      rw [this]; rfl
  by_cases c : bf = 0
  · rw [if_pos c, List.nil_append, two _ rfl, c]
  · rw [if_neg c, run_fg bf hf, two _ rfl]

/-- two rows one behind the other -/
theorem runL_app (l1 : List Int) : ∀ (s : Sty) (l2 : List Int), (∀ n ∈ l1, n ≠ 38 ∧ n ≠ 48) → runL s (l1 ++ l2) = runL (runL s l1) l2 := by
  induction l1 with
  | nil => intro s l2 _; rfl
  | cons n r ih =>
    intro s l2 h
    have hn := h n (List.mem_cons_self ..)
    have hr := fun m hm => h m (List.mem_cons_of_mem _ hm)
    rw [List.cons_append]
    by_cases z : n = 0
    · subst z
      rw [runL_zero, runL_zero, ih _ _ hr]
    · have sm : smpl n = true := by unfold smpl; rw [decide_eq_true_iff]; exact ⟨z, hn.1, hn.2⟩
      rw [runL_simple _ _ _ sm, runL_simple _ _ _ sm, ih _ _ hr]

theorem inSty_count (s : Sty) (h : countS s = s) : inSty s.fg ∧ inSty s.bg := by
  have h1 : plC s.fg = s.fg := congrArg Sty.fg h
  have h2 : plC s.bg = s.bg := congrArg Sty.bg h
  rw [← h1, ← h2]
  exact ⟨inSty_pl _, inSty_pl _⟩
theorem inSty_pl_eq (c : Int) (h : inSty c) : plC c = c := by
  unfold plC cnt rightB
  rcases h with rfl | h | h
  · rfl
  · rw [if_neg (by omega), if_pos (by rw [decide_eq_true_iff]; omega)]
  · rw [if_neg (by omega), if_pos (by rw [decide_eq_true_iff]; omega)]

/-- what is told of two styles makes the one of the other -/
theorem tell_run (f t : Sty) (h : paramsL f t ≠ []) : applyL f (paramsL f t) = countS t := by
  unfold applyL
  rw [if_neg h]
  have hi : inSty (countS t).fg ∧ inSty (countS t).bg := ⟨inSty_pl _, inSty_pl _⟩
  show runL (countS f) (paramsL f t) = _
  unfold paramsL at h ⊢
  split
  · rename_i e
    rw [if_pos e] at h
    exact absurd rfl h
  · split
    · exact run_two _ _ hi.1 hi.2
    · exact run_one _ _ hi.1 hi.2

theorem params_nil (f t : Sty) : paramsL f t = [] ↔ countS f = countS t := by
  have hi : inSty (countS t).fg ∧ inSty (countS t).bg := ⟨inSty_pl _, inSty_pl _⟩
  unfold paramsL
  constructor
  · intro h
    by_cases e : countS f = countS t
    · exact e
    · rw [if_neg e] at h
      split at h
      · unfold twoL at h
        simp at h
      · have r := run_one (countS f) (countS t) hi.1 hi.2
        rw [h, runL_nil] at r
        exact r
  · intro h
    rw [if_pos h]

theorem col_len (c b : Int) : (colL c b).length ≤ 5 := by
  unfold colL
  split
  · simp
  · split
    · simp
    · split
      · simp
      · split <;> simp
end Go.Proofs.YthcdcbibbfdjmaaDoor
