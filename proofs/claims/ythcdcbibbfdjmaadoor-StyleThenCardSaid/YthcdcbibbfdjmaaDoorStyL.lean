/- Styles and patches: the laws of laying over and putting together (plain). -/
import Derived.Test.YthcdcbibbfdjmaaDoorStyP
namespace Go.Proofs.YthcdcbibbfdjmaaDoor
open Go.RowKit
set_option linter.unusedVariables false

theorem cnt_cnt (c : Int) : cnt (cnt c) = cnt c := by
  unfold cnt
  by_cases r : rightB c = true
  · rw [if_pos r, if_pos r]
  · rw [if_neg r]; rfl
theorem cnt_zero : cnt 0 = 0 := rfl
theorem plC_plC (c : Int) : plC (plC c) = plC c := by
  unfold plC
  by_cases e : c = 1
  · rw [if_pos e]; rfl
  · rw [if_neg e]
    have ne : cnt c ≠ 1 := by
      unfold cnt
      split
      · exact e
      · decide
    rw [if_neg ne, cnt_cnt]
theorem plC_cnt (c : Int) : plC (cnt c) = layC 0 (cnt c) := by
  unfold plC layC
  by_cases z : cnt c = 0
  · rw [z]; rfl
  · rw [if_neg z]
    by_cases e : cnt c = 1
    · rw [if_pos e, if_pos e]
    · rw [if_neg e, if_neg e, cnt_cnt]
theorem count_count (s : Sty) : countS (countS s) = countS s := by unfold countS; simp [plC_plC]

theorem layC_pl (c p : Int) (h : plC c = c) : plC (layC c (cnt p)) = layC c (cnt p) := by
  unfold layC
  by_cases z : cnt p = 0
  · rw [if_pos z, h]
  · rw [if_neg z]
    by_cases e : cnt p = 1
    · rw [if_pos e]; rfl
    · rw [if_neg e]
      unfold plC
      rw [if_neg e, cnt_cnt]
theorem over1_count (s : Sty) (p : Pat) (h : countS s = s) : countS (over1 s p) = over1 s p := by
  have h1 : plC s.fg = s.fg := congrArg Sty.fg h
  have h2 : plC s.bg = s.bg := congrArg Sty.bg h
  unfold countS over1
  simp [layC_pl _ _ h1, layC_pl _ _ h2]
theorem overL_count (s : Sty) (l : List Pat) : countS (overL s l) = overL s l := by
  unfold overL
  have g : ∀ (l : List Pat) (t : Sty), countS t = t → countS (l.foldl over1 t) = l.foldl over1 t := by
    intro l
    induction l with
    | nil => intro t h; exact h
    | cons p l ih => intro t h; exact ih _ (over1_count t p h)
  exact g l _ (count_count s)

/-- equal bit by bit -/
theorem b8_ext {a b : B8} (h : ∀ i, i < 8 → a.getLsbD i = b.getLsbD i) : a = b := BitVec.eq_of_getLsbD_eq (fun i hi => h i hi)

theorem b8_over (a d x : B8) : (a &&& ~~~(d &&& ~~~x)) ||| x = (a &&& ~~~d) ||| x := by
  apply b8_ext
  intro i hi
  simp only [BitVec.getLsbD_or, BitVec.getLsbD_and, BitVec.getLsbD_not, hi, decide_true, Bool.true_and]
  cases a.getLsbD i <;> cases d.getLsbD i <;> cases x.getLsbD i <;> rfl

theorem over_then (s : Sty) (p q : Pat) : over1 (over1 s p) q = over1 s (thenP p q) := by
  have bits : ((((s.at_ &&& ~~~p.drop) ||| p.add) &&& ~~~q.drop) ||| q.add) = (s.at_ &&& ~~~(thenP p q).drop) ||| (thenP p q).add := by
    unfold thenP
    apply b8_ext
    intro i hi
    simp only [BitVec.getLsbD_or, BitVec.getLsbD_and, BitVec.getLsbD_not, hi, decide_true, Bool.true_and]
    cases s.at_.getLsbD i <;> cases p.drop.getLsbD i <;> cases p.add.getLsbD i <;> cases q.drop.getLsbD i <;> cases q.add.getLsbD i <;> rfl
  have col : ∀ c P Q : Int, layC (layC c (cnt P)) (cnt Q) = layC c (cnt (if cnt Q = 0 then cnt P else cnt Q)) := by
    intro c P Q
    by_cases z : cnt Q = 0
    · rw [if_pos z, z, cnt_cnt]; rfl
    · rw [if_neg z, cnt_cnt]
      unfold layC
      rw [if_neg z, if_neg z]
  unfold over1
  simp only [Sty.mk.injEq]
  exact ⟨col _ _ _, col _ _ _, bits⟩

theorem then_assoc (p q r : Pat) : thenP (thenP p q) r = thenP p (thenP q r) := by
  have col : ∀ P Q R : Int, (if cnt R = 0 then cnt (if cnt Q = 0 then cnt P else cnt Q) else cnt R) = (if cnt (if cnt R = 0 then cnt Q else cnt R) = 0 then cnt P else cnt (if cnt R = 0 then cnt Q else cnt R)) := by
    intro P Q R
    by_cases z : cnt R = 0
    · rw [if_pos z, if_pos z]
      by_cases y : cnt Q = 0
      · rw [if_pos y, cnt_cnt, cnt_cnt, if_pos y]
      · rw [if_neg y, cnt_cnt, if_neg y]
    · rw [if_neg z, if_neg z, cnt_cnt, if_neg z]
  unfold thenP
  simp only [Pat.mk.injEq]
  refine ⟨col _ _ _, col _ _ _, ?_, ?_⟩
  all_goals
    apply b8_ext
    intro i hi
    simp only [BitVec.getLsbD_or, BitVec.getLsbD_and, BitVec.getLsbD_not, hi, decide_true, Bool.true_and]
    cases p.drop.getLsbD i <;> cases p.add.getLsbD i <;> cases q.drop.getLsbD i <;> cases q.add.getLsbD i <;> cases r.drop.getLsbD i <;> cases r.add.getLsbD i <;> rfl

theorem then_empty (p : Pat) : thenP emptyP p = toldP p ∧ thenP p emptyP = toldP p := by
  unfold thenP toldP emptyP
  simp only [Pat.mk.injEq, cnt_zero, if_true]
  refine ⟨⟨by split <;> simp_all, by split <;> simp_all, ?_, ?_⟩, ⟨trivial, trivial, ?_, ?_⟩⟩
  all_goals
    apply b8_ext
    intro i hi
    have z : (0 : B8).getLsbD i = false := by simp
    simp only [BitVec.getLsbD_or, BitVec.getLsbD_and, BitVec.getLsbD_not, z, hi, decide_true, Bool.true_and]
    cases p.drop.getLsbD i <;> cases p.add.getLsbD i <;> rfl

theorem over_told (s : Sty) (p : Pat) : over1 s (toldP p) = over1 s p := by
  unfold over1 toldP
  simp [cnt_cnt, b8_over]
end Go.Proofs.YthcdcbibbfdjmaaDoor
