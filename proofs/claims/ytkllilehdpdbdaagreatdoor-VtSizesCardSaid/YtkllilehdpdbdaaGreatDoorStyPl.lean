/- Styles and patches: what they count as, laid over, put together; the numbers (plain; not built yet). -/
import Derived.Test.YtkllilehdpdbdaaGreatDoorColA
import Derived.Test.YtkllilehdpdbdaaGreatDoorByte
namespace Go.Proofs.YtkllilehdpdbdaaGreatDoor
open Go.RowKit
set_option linter.unusedVariables false

structure Sty where
  fg : Int
  bg : Int
  at_ : B8
  deriving DecidableEq
structure Pat where
  fg : Int
  bg : Int
  add : B8
  drop : B8
  deriving DecidableEq

/-- a colour as it counts in a style -/
def plC (c : Int) : Int := if c = 1 then 0 else cnt c
def countS (s : Sty) : Sty := ⟨plC s.fg, plC s.bg, s.at_⟩
def toldP (p : Pat) : Pat := ⟨cnt p.fg, cnt p.bg, p.add, p.drop &&& ~~~p.add⟩
def layC (c p : Int) : Int := if p = 0 then c else if p = 1 then 0 else p
def over1 (s : Sty) (p : Pat) : Sty := ⟨layC s.fg (cnt p.fg), layC s.bg (cnt p.bg), (s.at_ &&& ~~~p.drop) ||| p.add⟩
def overL (s : Sty) (l : List Pat) : Sty := l.foldl over1 (countS s)
def thenP (p q : Pat) : Pat :=
  ⟨if cnt q.fg = 0 then cnt p.fg else cnt q.fg, if cnt q.bg = 0 then cnt p.bg else cnt q.bg,
   (p.add &&& ~~~(q.drop &&& ~~~q.add)) ||| q.add, ((p.drop &&& ~~~p.add) ||| (q.drop &&& ~~~q.add)) &&& ~~~((p.add &&& ~~~(q.drop &&& ~~~q.add)) ||| q.add)⟩
def emptyP : Pat := ⟨0, 0, 0, 0⟩

/-- numbers of a colour, base 30 or 40 -/
def colL (c base : Int) : List Int :=
  if c = 0 then [base + 9]
  else if 16777216 ≤ c then [base + 8, 2, (c - 16777216) / 65536, (c - 16777216) / 256 % 256, (c - 16777216) % 256]
  else if 272 ≤ c then [base + 8, 5, c - 256]
  else if 264 ≤ c then [base + 60 + (c - 264)]
  else [base + (c - 256)]
def onN (i : Nat) : Int := [1, 2, 3, 4, 5, 7, 8, 9].getD i 0
def offN (i : Nat) : Int := [22, 22, 23, 24, 25, 27, 28, 29].getD i 0
/-- the numbers that set the bits of b -/
def setL (b : B8) : List Int := ((List.range 8).filter fun i => b.getLsbD i).map onN
/-- the numbers that take the bits of b but the two lowest -/
def takeL (b : B8) : List Int := ((List.range 8).filter fun i => decide (2 ≤ i) && b.getLsbD i).map offN
def lightB (a b : B8) : Bool := (a &&& ~~~b) &&& 3 != 0
def oneL (a b : Sty) : List Int :=
  (if lightB a.at_ b.at_ then [22] else []) ++ takeL (a.at_ &&& ~~~b.at_) ++ setL ((b.at_ &&& ~~~a.at_) ||| (if lightB a.at_ b.at_ then b.at_ &&& 3 else 0))
  ++ (if a.fg = b.fg then [] else colL b.fg 30) ++ (if a.bg = b.bg then [] else colL b.bg 40)
def twoL (b : Sty) : List Int := [0] ++ setL b.at_ ++ (if b.fg = 0 then [] else colL b.fg 30) ++ (if b.bg = 0 then [] else colL b.bg 40)
def digN (n : Int) : Int := if n < 10 then 1 else if n < 100 then 2 else 3
def sizeL (l : List Int) : Int := (l.map digN).sum + ((l.length : Int) - 1)
def paramsL (f t : Sty) : List Int :=
  if countS f = countS t then [] else if sizeL (twoL (countS t)) < sizeL (oneL (countS f) (countS t)) then twoL (countS t) else oneL (countS f) (countS t)
end Go.Proofs.YtkllilehdpdbdaaGreatDoor

/- Styles and patches: the laws of laying over and putting together (plain). -/
namespace Go.Proofs.YtkllilehdpdbdaaGreatDoor
open Go.RowKit
set_option linter.unusedVariables false

theorem cnt_cnt (c : Int) : cnt (cnt c) = cnt c := by
  unfold cnt
  by_cases r : rightB c = true
  · rw [if_pos r, if_pos r]
  · rw [if_neg r]; rfl
theorem cnt_zero : cnt 0 = 0 := rfl
theorem plC_plC (c : Int) : plC (plC c) = plC c := by
  unfold plC
  by_cases e : c = 1
  · rw [if_pos e]; rfl
  · rw [if_neg e]
    have ne : cnt c ≠ 1 := by
      unfold cnt
      split
      · exact e
      · decide
    rw [if_neg ne, cnt_cnt]
theorem plC_cnt (c : Int) : plC (cnt c) = layC 0 (cnt c) := by
  unfold plC layC
  by_cases z : cnt c = 0
  · rw [z]; rfl
  · rw [if_neg z]
    by_cases e : cnt c = 1
    · rw [if_pos e, if_pos e]
    · rw [if_neg e, if_neg e, cnt_cnt]
theorem count_count (s : Sty) : countS (countS s) = countS s := by unfold countS; simp [plC_plC]

theorem layC_pl (c p : Int) (h : plC c = c) : plC (layC c (cnt p)) = layC c (cnt p) := by
  unfold layC
  by_cases z : cnt p = 0
  · rw [if_pos z, h]
  · rw [if_neg z]
    by_cases e : cnt p = 1
    · rw [if_pos e]; rfl
    · rw [if_neg e]
      unfold plC
      rw [if_neg e, cnt_cnt]
theorem over1_count (s : Sty) (p : Pat) (h : countS s = s) : countS (over1 s p) = over1 s p := by
  have h1 : plC s.fg = s.fg := congrArg Sty.fg h
  have h2 : plC s.bg = s.bg := congrArg Sty.bg h
  unfold countS over1
  simp [layC_pl _ _ h1, layC_pl _ _ h2]
theorem overL_count (s : Sty) (l : List Pat) : countS (overL s l) = overL s l := by
  unfold overL
  have g : ∀ (l : List Pat) (t : Sty), countS t = t → countS (l.foldl over1 t) = l.foldl over1 t := by
    intro l
    induction l with
    | nil => intro t h; exact h
    | cons p l ih => intro t h; exact ih _ (over1_count t p h)
  exact g l _ (count_count s)

/-- equal bit by bit -/
theorem b8_ext {a b : B8} (h : ∀ i, i < 8 → a.getLsbD i = b.getLsbD i) : a = b := BitVec.eq_of_getLsbD_eq (fun i hi => h i hi)

theorem b8_over (a d x : B8) : (a &&& ~~~(d &&& ~~~x)) ||| x = (a &&& ~~~d) ||| x := by
  apply b8_ext
  intro i hi
  simp only [BitVec.getLsbD_or, BitVec.getLsbD_and, BitVec.getLsbD_not, hi, decide_true, Bool.true_and]
  cases a.getLsbD i <;> cases d.getLsbD i <;> cases x.getLsbD i <;> rfl

theorem over_then (s : Sty) (p q : Pat) : over1 (over1 s p) q = over1 s (thenP p q) := by
  have bits : ((((s.at_ &&& ~~~p.drop) ||| p.add) &&& ~~~q.drop) ||| q.add) = (s.at_ &&& ~~~(thenP p q).drop) ||| (thenP p q).add := by
    unfold thenP
    apply b8_ext
    intro i hi
    simp only [BitVec.getLsbD_or, BitVec.getLsbD_and, BitVec.getLsbD_not, hi, decide_true, Bool.true_and]
    cases s.at_.getLsbD i <;> cases p.drop.getLsbD i <;> cases p.add.getLsbD i <;> cases q.drop.getLsbD i <;> cases q.add.getLsbD i <;> rfl
  have col : ∀ c P Q : Int, layC (layC c (cnt P)) (cnt Q) = layC c (cnt (if cnt Q = 0 then cnt P else cnt Q)) := by
    intro c P Q
    by_cases z : cnt Q = 0
    · rw [if_pos z, z, cnt_cnt]; rfl
    · rw [if_neg z, cnt_cnt]
      unfold layC
      rw [if_neg z, if_neg z]
  unfold over1
  simp only [Sty.mk.injEq]
  exact ⟨col _ _ _, col _ _ _, bits⟩

theorem then_assoc (p q r : Pat) : thenP (thenP p q) r = thenP p (thenP q r) := by
  have col : ∀ P Q R : Int, (if cnt R = 0 then cnt (if cnt Q = 0 then cnt P else cnt Q) else cnt R) = (if cnt (if cnt R = 0 then cnt Q else cnt R) = 0 then cnt P else cnt (if cnt R = 0 then cnt Q else cnt R)) := by
    intro P Q R
    by_cases z : cnt R = 0
    · rw [if_pos z, if_pos z]
      by_cases y : cnt Q = 0
      · rw [if_pos y, cnt_cnt, cnt_cnt, if_pos y]
      · rw [if_neg y, cnt_cnt, if_neg y]
    · rw [if_neg z, if_neg z, cnt_cnt, if_neg z]
  unfold thenP
  simp only [Pat.mk.injEq]
  refine ⟨col _ _ _, col _ _ _, ?_, ?_⟩
  all_goals
    apply b8_ext
    intro i hi
    simp only [BitVec.getLsbD_or, BitVec.getLsbD_and, BitVec.getLsbD_not, hi, decide_true, Bool.true_and]
    cases p.drop.getLsbD i <;> cases p.add.getLsbD i <;> cases q.drop.getLsbD i <;> cases q.add.getLsbD i <;> cases r.drop.getLsbD i <;> cases r.add.getLsbD i <;> rfl

theorem then_empty (p : Pat) : thenP emptyP p = toldP p ∧ thenP p emptyP = toldP p := by
  unfold thenP toldP emptyP
  simp only [Pat.mk.injEq, cnt_zero, if_true]
  refine ⟨⟨by split <;> simp_all, by split <;> simp_all, ?_, ?_⟩, ⟨trivial, trivial, ?_, ?_⟩⟩
  all_goals
    apply b8_ext
    intro i hi
    have z : (0 : B8).getLsbD i = false := by simp
    simp only [BitVec.getLsbD_or, BitVec.getLsbD_and, BitVec.getLsbD_not, z, hi, decide_true, Bool.true_and]
    cases p.drop.getLsbD i <;> cases p.add.getLsbD i <;> rfl

theorem over_told (s : Sty) (p : Pat) : over1 s (toldP p) = over1 s p := by
  unfold over1 toldP
  simp [cnt_cnt, b8_over]
end Go.Proofs.YtkllilehdpdbdaaGreatDoor

/- What numbers do to a style (plain). -/
namespace Go.Proofs.YtkllilehdpdbdaaGreatDoor
open Go.RowKit
set_option linter.unusedVariables false

/-- the bits that a number sets; that it takes -/
def setM (n : Int) : B8 := if n = 1 then 1 else if n = 2 then 2 else if n = 3 then 4 else if n = 4 then 8 else if n = 5 then 16 else if n = 7 then 32 else if n = 8 then 64 else if n = 9 then 128 else 0
def takeM (n : Int) : B8 := if n = 22 then 3 else if n = 23 then 4 else if n = 24 then 8 else if n = 25 then 16 else if n = 27 then 32 else if n = 28 then 64 else if n = 29 then 128 else 0
def attrN (a : B8) (n : Int) : B8 := (a &&& ~~~(takeM n)) ||| setM n
def colN (c n : Int) : Int := if 30 ≤ n ∧ n ≤ 37 then n + 226 else if 90 ≤ n ∧ n ≤ 97 then n + 174 else if n = 39 then 0 else c
def stepN (s : Sty) (n : Int) : Sty := ⟨colN s.fg n, colN s.bg (n - 10), attrN s.at_ n⟩
def okB (n : Int) : Bool := decide (0 ≤ n ∧ n ≤ 255)
/-- the colour that stands behind a 38 or 48, and how many numbers it takes -/
def richL : List Int → Option (Int × Nat)
  | 5 :: a :: _ => if okB a = true then some (256 + a, 2) else none
  | 2 :: a :: b :: c :: _ => if okB a = true ∧ okB b = true ∧ okB c = true then some (16777216 + 65536 * a + 256 * b + c, 4) else none
  | _ => none
def plainS : Sty := ⟨0, 0, 0⟩
def applyF : Nat → Sty → List Int → Sty
  | 0, s, _ => s
  | _ + 1, s, [] => s
  | f + 1, s, n :: r =>
    if n = 0 then applyF f plainS r
    else if n = 38 then (match richL r with | some (c, k) => applyF f { s with fg := c } (r.drop k) | none => s)
    else if n = 48 then (match richL r with | some (c, k) => applyF f { s with bg := c } (r.drop k) | none => s)
    else applyF f (stepN s n) r
def applyL (s : Sty) (l : List Int) : Sty := if l = [] then plainS else applyF l.length (countS s) l

/-- more fuel changes nothing -/
theorem applyF_more (l : List Int) : ∀ (f g : Nat) (s : Sty), l.length ≤ f → l.length ≤ g → applyF f s l = applyF g s l := by
  induction h : l.length using Nat.strongRecOn generalizing l with
  | _ m ih =>
    intro f g s hf hg
    subst h
    cases l with
    | nil => cases f <;> cases g <;> rfl
    | cons n r =>
      simp only [List.length_cons] at hf hg ih
      obtain ⟨f, rfl⟩ : ∃ k, f = k + 1 := ⟨f - 1, by omega⟩
      obtain ⟨g, rfl⟩ : ∃ k, g = k + 1 := ⟨g - 1, by omega⟩
      have go : ∀ (s : Sty) (k : Nat), applyF f s (r.drop k) = applyF g s (r.drop k) := fun s k =>
        ih _ (by rw [List.length_drop]; omega) (r.drop k) rfl f g s (by rw [List.length_drop]; omega) (by rw [List.length_drop]; omega)
      have go0 : ∀ s, applyF f s r = applyF g s r := fun s => by simpa using go s 0
      unfold applyF
      rw [go0, go0]
      split
      · rfl
      · split
        · split
          · exact go _ _
          · rfl
        · split
          · split
            · exact go _ _
            · rfl
          · rfl
end Go.Proofs.YtkllilehdpdbdaaGreatDoor

/- The numbers that are told make the one style of the other (plain). -/
namespace Go.Proofs.YtkllilehdpdbdaaGreatDoor
open Go.RowKit
set_option linter.unusedVariables false

def smpl (n : Int) : Bool := decide (n ≠ 0 ∧ n ≠ 38 ∧ n ≠ 48)
/-- what numbers make of a style that counts -/
def runL (s : Sty) (l : List Int) : Sty := applyF l.length s l
theorem runL_more (s : Sty) (l : List Int) (f : Nat) (h : l.length ≤ f) : applyF f s l = runL s l := applyF_more l f l.length s h (Nat.le_refl _)
theorem runL_nil (s : Sty) : runL s [] = s := rfl
theorem runL_zero (s : Sty) (r : List Int) : runL s (0 :: r) = runL plainS r := by
  show applyF (r.length + 1) s (0 :: r) = _
  unfold applyF
  rw [if_pos rfl]; rfl
theorem runL_simple (s : Sty) (n : Int) (r : List Int) (h : smpl n = true) : runL s (n :: r) = runL (stepN s n) r := by
  unfold smpl at h
  rw [decide_eq_true_iff] at h
  show applyF (r.length + 1) s (n :: r) = _
  unfold applyF
  rw [if_neg h.1, if_neg h.2.1, if_neg h.2.2]; rfl
theorem runL_38 (s : Sty) (r : List Int) (c : Int) (k : Nat) (h : richL r = some (c, k)) : runL s (38 :: r) = runL { s with fg := c } (r.drop k) := by
  show applyF (r.length + 1) s (38 :: r) = _
  unfold applyF
  rw [if_neg (by decide), if_pos rfl, h]
  exact runL_more _ _ _ (by rw [List.length_drop]; omega)
theorem runL_48 (s : Sty) (r : List Int) (c : Int) (k : Nat) (h : richL r = some (c, k)) : runL s (48 :: r) = runL { s with bg := c } (r.drop k) := by
  show applyF (r.length + 1) s (48 :: r) = _
  unfold applyF
  rw [if_neg (by decide), if_neg (by decide), if_pos rfl, h]
  exact runL_more _ _ _ (by rw [List.length_drop]; omega)
theorem runL_simples (l1 : List Int) : ∀ (s : Sty) (l2 : List Int), l1.all smpl = true → runL s (l1 ++ l2) = runL (l1.foldl stepN s) l2 := by
  induction l1 with
  | nil => intro s l2 _; rfl
  | cons n r ih =>
    intro s l2 h
    rw [List.all_cons, Bool.and_eq_true] at h
    rw [List.cons_append, runL_simple s n _ h.1, ih _ _ h.2]
    rfl

/-- a colour as it stands in a style -/
def inSty (c : Int) : Prop := c = 0 ∨ (256 ≤ c ∧ c < 512) ∨ (16777216 ≤ c ∧ c < 33554432)
theorem inSty_pl (c : Int) : inSty (plC c) := by
  unfold plC cnt rightB inSty
  split
  · exact Or.inl rfl
  · split
    · rename_i h1 h2
      rw [decide_eq_true_iff] at h2
      omega
    · exact Or.inl rfl

theorem attr_same (a : B8) (n : Int) (h : 30 ≤ n) : attrN a n = a := by
  unfold attrN takeM setM
  simp only [show n ≠ 22 by omega, show n ≠ 23 by omega, show n ≠ 24 by omega, show n ≠ 25 by omega, show n ≠ 27 by omega, show n ≠ 28 by omega, show n ≠ 29 by omega,
    show n ≠ 1 by omega, show n ≠ 2 by omega, show n ≠ 3 by omega, show n ≠ 4 by omega, show n ≠ 5 by omega, show n ≠ 7 by omega, show n ≠ 8 by omega, show n ≠ 9 by omega, if_false]
  simp
  rw [show (255#8) = BitVec.allOnes 8 from rfl, BitVec.and_allOnes]

theorem rich_pal (c : Int) (l : List Int) (h0 : 256 ≤ c) (h1 : c < 512) : richL (5 :: (c - 256) :: l) = some (c, 2) := by
  have ok : okB (c - 256) = true := by unfold okB; rw [decide_eq_true_iff]; omega
  simp only [richL, ok, if_true]
  rw [show 256 + (c - 256) = c by omega]
theorem rich_full (c : Int) (l : List Int) (h0 : 16777216 ≤ c) (h1 : c < 33554432) : richL (2 :: (c - 16777216) / 65536 :: (c - 16777216) / 256 % 256 :: (c - 16777216) % 256 :: l) = some (c, 4) := by
  have o1 : okB ((c - 16777216) / 65536) = true := by unfold okB; rw [decide_eq_true_iff]; omega
  have o2 : okB ((c - 16777216) / 256 % 256) = true := by unfold okB; rw [decide_eq_true_iff]; omega
  have o3 : okB ((c - 16777216) % 256) = true := by unfold okB; rw [decide_eq_true_iff]; omega
  simp only [richL, o1, o2, o3, and_self, if_true]
  rw [show 16777216 + 65536 * ((c - 16777216) / 65536) + 256 * ((c - 16777216) / 256 % 256) + (c - 16777216) % 256 = c by omega]

theorem run_fg (c : Int) (hc : inSty c) (s : Sty) (l2 : List Int) : runL s (colL c 30 ++ l2) = runL { s with fg := c } l2 := by
  have one : ∀ n : Int, 30 ≤ n → n - 10 < 30 ∨ (80 ≤ n - 10 ∧ n - 10 ≤ 87) → n ≠ 38 → n ≠ 48 → colN s.fg n = c → runL s ([n] ++ l2) = runL { s with fg := c } l2 := by
    intro n h0 h1 h2 h3 h4
    show runL s (n :: l2) = _
    rw [runL_simple s n l2 (by unfold smpl; rw [decide_eq_true_iff]; omega)]
    congr 1
    unfold stepN
    rw [attr_same _ _ h0, h4]
    have b : colN s.bg (n - 10) = s.bg := by unfold colN; rw [if_neg (by omega), if_neg (by omega), if_neg (by omega)]
    rw [b]
  rcases hc with rfl | ⟨h0, h1⟩ | ⟨h0, h1⟩
  · exact one 39 (by omega) (by omega) (by omega) (by omega) rfl
  · by_cases a : 272 ≤ c
    · have e : colL c 30 = [38, 5, c - 256] := by unfold colL; rw [if_neg (by omega), if_neg (by omega), if_pos a]; rfl
      rw [e]
      exact runL_38 s _ c 2 (rich_pal c l2 h0 h1)
    · by_cases b : 264 ≤ c
      · have e : colL c 30 = [30 + 60 + (c - 264)] := by unfold colL; rw [if_neg (by omega), if_neg (by omega), if_neg a, if_pos b]
        rw [e]
        exact one _ (by omega) (by omega) (by omega) (by omega) (by unfold colN; rw [if_neg (by omega), if_pos (by omega)]; omega)
      · have e : colL c 30 = [30 + (c - 256)] := by unfold colL; rw [if_neg (by omega), if_neg (by omega), if_neg a, if_neg b]
        rw [e]
        exact one _ (by omega) (by omega) (by omega) (by omega) (by unfold colN; rw [if_pos (by omega)]; omega)
  · have e : colL c 30 = [38, 2, (c - 16777216) / 65536, (c - 16777216) / 256 % 256, (c - 16777216) % 256] := by unfold colL; rw [if_neg (by omega), if_pos h0]; rfl
    rw [e]
    exact runL_38 s _ c 4 (rich_full c l2 h0 h1)

theorem run_bg (c : Int) (hc : inSty c) (s : Sty) (l2 : List Int) : runL s (colL c 40 ++ l2) = runL { s with bg := c } l2 := by
  have one : ∀ n : Int, 40 ≤ n → n < 50 ∨ 100 ≤ n → n ≠ 48 → colN s.bg (n - 10) = c → runL s ([n] ++ l2) = runL { s with bg := c } l2 := by
    intro n h0 h1 h3 h4
    show runL s (n :: l2) = _
    rw [runL_simple s n l2 (by unfold smpl; rw [decide_eq_true_iff]; omega)]
    congr 1
    unfold stepN
    rw [attr_same _ _ (by omega), h4]
    have b : colN s.fg n = s.fg := by unfold colN; rw [if_neg (by omega), if_neg (by omega), if_neg (by omega)]
    rw [b]
  rcases hc with rfl | ⟨h0, h1⟩ | ⟨h0, h1⟩
  · exact one 49 (by omega) (by omega) (by omega) rfl
  · by_cases a : 272 ≤ c
    · have e : colL c 40 = [48, 5, c - 256] := by unfold colL; rw [if_neg (by omega), if_neg (by omega), if_pos a]; rfl
      rw [e]
      exact runL_48 s _ c 2 (rich_pal c l2 h0 h1)
    · by_cases b : 264 ≤ c
      · have e : colL c 40 = [40 + 60 + (c - 264)] := by unfold colL; rw [if_neg (by omega), if_neg (by omega), if_neg a, if_pos b]
        rw [e]
        exact one _ (by omega) (by omega) (by omega) (by unfold colN; rw [if_neg (by omega), if_pos (by omega)]; omega)
      · have e : colL c 40 = [40 + (c - 256)] := by unfold colL; rw [if_neg (by omega), if_neg (by omega), if_neg a, if_neg b]
        rw [e]
        exact one _ (by omega) (by omega) (by omega) (by unfold colN; rw [if_pos (by omega)]; omega)
  · have e : colL c 40 = [48, 2, (c - 16777216) / 65536, (c - 16777216) / 256 % 256, (c - 16777216) % 256] := by unfold colL; rw [if_neg (by omega), if_pos h0]; rfl
    rw [e]
    exact runL_48 s _ c 4 (rich_full c l2 h0 h1)

/-- the bits that a row of numbers takes -/
def maskT : List Int → B8
  | [] => 0
  | n :: r => takeM n ||| maskT r
theorem fold_mask (l : List Int) : ∀ a : B8, l.foldl attrN a = (a &&& ~~~(maskT l)) ||| l.foldl attrN 0 := by
  induction l with
  | nil =>
    intro a
    show a = (a &&& ~~~(0 : B8)) ||| 0
    apply b8_ext
    intro i hi
    have z : (0 : B8).getLsbD i = false := by simp
    simp only [BitVec.getLsbD_or, BitVec.getLsbD_and, BitVec.getLsbD_not, z, hi, decide_true, Bool.true_and]
    cases a.getLsbD i <;> rfl
  | cons n r ih =>
    intro a
    rw [List.foldl_cons, List.foldl_cons, ih (attrN a n), ih (attrN 0 n)]
    rw [show maskT (n :: r) = takeM n ||| maskT r from rfl]
    generalize r.foldl attrN 0 = F
    generalize maskT r = M
    unfold attrN
    apply b8_ext
    intro i hi
    have z : (0 : B8).getLsbD i = false := by simp
    simp only [BitVec.getLsbD_or, BitVec.getLsbD_and, BitVec.getLsbD_not, z, hi, decide_true, Bool.true_and]
    cases a.getLsbD i <;> cases (takeM n).getLsbD i <;> cases (setM n).getLsbD i <;> cases M.getLsbD i <;> cases F.getLsbD i <;> rfl

theorem set_mask : ∀ x : B8, maskT (setL x) = 0 ∧ (setL x).foldl attrN 0 = x ∧ (setL x).length ≤ 8 := by decide +kernel
theorem take_mask : ∀ x : B8, maskT (takeL x) = x &&& 252 ∧ (takeL x).foldl attrN 0 = 0 := by decide +kernel
theorem set_small : ∀ x : B8, ∀ n ∈ setL x, 0 < n ∧ n < 30 := by decide +kernel
theorem take_small : ∀ x : B8, ∀ n ∈ takeL x, 0 < n ∧ n < 30 := by decide +kernel

theorem steps_colors (l : List Int) : ∀ s : Sty, (∀ n ∈ l, 0 < n ∧ n < 30) → (l.foldl stepN s).fg = s.fg ∧ (l.foldl stepN s).bg = s.bg ∧ (l.foldl stepN s).at_ = l.foldl attrN s.at_ := by
  induction l with
  | nil => intro s _; exact ⟨rfl, rfl, rfl⟩
  | cons n r ih =>
    intro s h
    obtain ⟨a, b, c⟩ := ih (stepN s n) (fun m hm => h m (List.mem_cons_of_mem _ hm))
    have hn := h n (List.mem_cons_self ..)
    refine ⟨a.trans ?_, b.trans ?_, c⟩
    · show colN s.fg n = s.fg
      unfold colN; rw [if_neg (by omega), if_neg (by omega), if_neg (by omega)]
    · show colN s.bg (n - 10) = s.bg
      unfold colN; rw [if_neg (by omega), if_neg (by omega), if_neg (by omega)]
end Go.Proofs.YtkllilehdpdbdaaGreatDoor

/- What is told is what is shown (plain). -/
namespace Go.Proofs.YtkllilehdpdbdaaGreatDoor
open Go.RowKit
set_option linter.unusedVariables false

theorem small_smpl (l : List Int) (h : ∀ n ∈ l, 0 < n ∧ n < 30) : l.all smpl = true := by
  rw [List.all_eq_true]
  intro n hn
  have := h n hn
  unfold smpl
  rw [decide_eq_true_iff]
  omega

theorem bit_lit (i : Nat) (hi : i < 8) : (3 : B8).getLsbD i = decide (i < 2) ∧ (252 : B8).getLsbD i = decide (2 ≤ i) := by
  have : i = 0 ∨ i = 1 ∨ i = 2 ∨ i = 3 ∨ i = 4 ∨ i = 5 ∨ i = 6 ∨ i = 7 := by omega
  rcases this with rfl | rfl | rfl | rfl | rfl | rfl | rfl | rfl <;> decide

/-- the attributes of the first row: what becomes of them -/
def preL (a b : B8) : List Int := (if lightB a b then [22] else []) ++ takeL (a &&& ~~~b) ++ setL ((b &&& ~~~a) ||| (if lightB a b then b &&& 3 else 0))
theorem preL_small (a b : B8) : ∀ n ∈ preL a b, 0 < n ∧ n < 30 := by
  intro n hn
  unfold preL at hn
  rw [List.mem_append, List.mem_append] at hn
  rcases hn with (h | h) | h
  · split at h
    · rw [List.mem_singleton] at h; subst h; decide
    · cases h
  · exact take_small _ n h
  · exact set_small _ n h
theorem preL_bits (a b : B8) : (preL a b).foldl attrN a = b := by
  unfold preL
  rw [List.foldl_append, List.foldl_append, fold_mask (setL _), fold_mask (takeL _)]
  obtain ⟨t1, t2⟩ := take_mask (a &&& ~~~b)
  obtain ⟨s1, s2, _⟩ := set_mask ((b &&& ~~~a) ||| (if lightB a b then b &&& 3 else 0))
  rw [t1, t2, s1, s2]
  have l1 : (if lightB a b = true then [(22:Int)] else []).foldl attrN a = if lightB a b = true then a &&& ~~~3 else a := by
    split
    · show attrN a 22 = _
      unfold attrN takeM setM
      simp
    · rfl
  rw [l1]
  have low : lightB a b = false → ∀ i, i < 2 → a.getLsbD i = true → b.getLsbD i = true := by
    intro h i hi ha
    unfold lightB at h
    have z : (a &&& ~~~b) &&& 3 = 0 := by simpa using h
    have e := congrArg (fun x : B8 => x.getLsbD i) z
    simp only [BitVec.getLsbD_and, BitVec.getLsbD_not, (bit_lit i (by omega)).1, show i < 8 by omega, decide_true, ha, hi, Bool.true_and, Bool.and_true] at e
    have z0 : (0 : B8).getLsbD i = false := by simp
    rw [z0] at e
    simpa using e
  cases hl : lightB a b
  · have lw := low hl
    simp only [Bool.false_eq_true, if_false]
    apply b8_ext
    intro i hi
    have z : (0 : B8).getLsbD i = false := by simp
    have l := lw i
    simp only [BitVec.getLsbD_or, BitVec.getLsbD_and, BitVec.getLsbD_not, z, (bit_lit i hi).2, hi, decide_true, Bool.true_and]
    by_cases c : i < 2
    · have c' : ¬ 2 ≤ i := by omega
      have l' := l c
      simp only [c', decide_false]
      cases ha : a.getLsbD i <;> cases hb : b.getLsbD i <;> simp_all
    · have c' : 2 ≤ i := by omega
      simp only [c', decide_true]
      cases ha : a.getLsbD i <;> cases hb : b.getLsbD i <;> rfl
  · simp only [if_true]
    apply b8_ext
    intro i hi
    have z : (0 : B8).getLsbD i = false := by simp
    simp only [BitVec.getLsbD_or, BitVec.getLsbD_and, BitVec.getLsbD_not, z, (bit_lit i hi).1, (bit_lit i hi).2, hi, decide_true, Bool.true_and]
    by_cases c : i < 2
    · have c' : ¬ 2 ≤ i := by omega
      simp only [c, c', decide_false, decide_true]
      cases ha : a.getLsbD i <;> cases hb : b.getLsbD i <;> rfl
    · have c' : 2 ≤ i := by omega
      simp only [c, c', decide_true, decide_false]
      cases ha : a.getLsbD i <;> cases hb : b.getLsbD i <;> rfl

theorem run_one (a b : Sty) (hf : inSty b.fg) (hb : inSty b.bg) : runL a (oneL a b) = b := by
  have e : oneL a b = preL a.at_ b.at_ ++ ((if a.fg = b.fg then [] else colL b.fg 30) ++ (if a.bg = b.bg then [] else colL b.bg 40)) := by unfold oneL preL; simp [List.append_assoc]
  rw [e, runL_simples _ _ _ (small_smpl _ (preL_small _ _))]
  obtain ⟨s1, s2, s3⟩ := steps_colors (preL a.at_ b.at_) a (preL_small _ _)
  rw [preL_bits] at s3
  generalize (preL a.at_ b.at_).foldl stepN a = s at *
  obtain ⟨sf, sb, sa⟩ := s
  obtain ⟨bf, bb, ba⟩ := b
  simp only at s1 s2 s3 hf hb ⊢
  subst s1 s2 s3
  have two : ∀ t : Sty, t.bg = a.bg → runL t (if a.bg = bb then [] else colL bb 40) = { t with bg := bb } := by
    intro t ht
    split
    · rename_i h
      rw [runL_nil]
      cases t
      simp only at ht
      rw [ht, h]
    · have := run_bg bb hb t []
      rw [List.append_nil] at this
      rw [this]; rfl
  by_cases c : a.fg = bf
  · rw [if_pos c, List.nil_append]
    have t := two ⟨a.fg, a.bg, sa⟩ rfl
    rw [t, c]
  · rw [if_neg c, run_fg bf hf]
    exact two ⟨bf, a.bg, sa⟩ rfl

theorem run_two (s b : Sty) (hf : inSty b.fg) (hb : inSty b.bg) : runL s (twoL b) = b := by
  have e : twoL b = 0 :: (setL b.at_ ++ ((if b.fg = 0 then [] else colL b.fg 30) ++ (if b.bg = 0 then [] else colL b.bg 40))) := by unfold twoL; simp [List.append_assoc]
  rw [e, runL_zero, runL_simples _ _ _ (small_smpl _ (set_small _))]
  obtain ⟨s1, s2, s3⟩ := steps_colors (setL b.at_) plainS (set_small _)
  rw [show plainS.at_ = 0 from rfl, (set_mask b.at_).2.1] at s3
  generalize (setL b.at_).foldl stepN plainS = s at *
  obtain ⟨sf, sb, sa⟩ := s
  obtain ⟨bf, bb, ba⟩ := b
  simp only [plainS] at s1 s2 s3 hf hb ⊢
  subst s1 s2 s3
  have two : ∀ t : Sty, t.bg = 0 → runL t (if bb = 0 then [] else colL bb 40) = { t with bg := bb } := by
    intro t ht
    split
    · rename_i h
      rw [runL_nil]
      cases t
      simp only at ht
      rw [ht, h]
    · have := run_bg bb hb t []
      rw [List.append_nil] at this
      rw [this]; rfl
  by_cases c : bf = 0
  · rw [if_pos c, List.nil_append, two _ rfl, c]
  · rw [if_neg c, run_fg bf hf, two _ rfl]

/-- two rows one behind the other -/
theorem runL_app (l1 : List Int) : ∀ (s : Sty) (l2 : List Int), (∀ n ∈ l1, n ≠ 38 ∧ n ≠ 48) → runL s (l1 ++ l2) = runL (runL s l1) l2 := by
  induction l1 with
  | nil => intro s l2 _; rfl
  | cons n r ih =>
    intro s l2 h
    have hn := h n (List.mem_cons_self ..)
    have hr := fun m hm => h m (List.mem_cons_of_mem _ hm)
    rw [List.cons_append]
    by_cases z : n = 0
    · subst z
      rw [runL_zero, runL_zero, ih _ _ hr]
    · have sm : smpl n = true := by unfold smpl; rw [decide_eq_true_iff]; exact ⟨z, hn.1, hn.2⟩
      rw [runL_simple _ _ _ sm, runL_simple _ _ _ sm, ih _ _ hr]

theorem inSty_count (s : Sty) (h : countS s = s) : inSty s.fg ∧ inSty s.bg := by
  have h1 : plC s.fg = s.fg := congrArg Sty.fg h
  have h2 : plC s.bg = s.bg := congrArg Sty.bg h
  rw [← h1, ← h2]
  exact ⟨inSty_pl _, inSty_pl _⟩
theorem inSty_pl_eq (c : Int) (h : inSty c) : plC c = c := by
  unfold plC cnt rightB
  rcases h with rfl | h | h
  · rfl
  · rw [if_neg (by omega), if_pos (by rw [decide_eq_true_iff]; omega)]
  · rw [if_neg (by omega), if_pos (by rw [decide_eq_true_iff]; omega)]

/-- what is told of two styles makes the one of the other -/
theorem tell_run (f t : Sty) (h : paramsL f t ≠ []) : applyL f (paramsL f t) = countS t := by
  unfold applyL
  rw [if_neg h]
  have hi : inSty (countS t).fg ∧ inSty (countS t).bg := ⟨inSty_pl _, inSty_pl _⟩
  show runL (countS f) (paramsL f t) = _
  unfold paramsL at h ⊢
  split
  · rename_i e
    rw [if_pos e] at h
    exact absurd rfl h
  · split
    · exact run_two _ _ hi.1 hi.2
    · exact run_one _ _ hi.1 hi.2

theorem params_nil (f t : Sty) : paramsL f t = [] ↔ countS f = countS t := by
  have hi : inSty (countS t).fg ∧ inSty (countS t).bg := ⟨inSty_pl _, inSty_pl _⟩
  unfold paramsL
  constructor
  · intro h
    by_cases e : countS f = countS t
    · exact e
    · rw [if_neg e] at h
      split at h
      · unfold twoL at h
        simp at h
      · have r := run_one (countS f) (countS t) hi.1 hi.2
        rw [h, runL_nil] at r
        exact r
  · intro h
    rw [if_pos h]

theorem col_len (c b : Int) : (colL c b).length ≤ 5 := by
  unfold colL
  split
  · simp
  · split
    · simp
    · split
      · simp
      · split <;> simp
end Go.Proofs.YtkllilehdpdbdaaGreatDoor

/- Never more than 18 numbers (plain). -/
namespace Go.Proofs.YtkllilehdpdbdaaGreatDoor
open Go.RowKit
set_option linter.unusedVariables false

def oc (p : Nat → Bool) : Nat := ((List.range 8).filter p).length
def on1 (b : Bool) : Nat := if b = true then 1 else 0
theorem oc_eq (p : Nat → Bool) : oc p = on1 (p 0) + on1 (p 1) + on1 (p 2) + on1 (p 3) + on1 (p 4) + on1 (p 5) + on1 (p 6) + on1 (p 7) := by
  unfold oc on1
  rw [← List.countP_eq_length_filter, show List.range 8 = [0, 1, 2, 3, 4, 5, 6, 7] from rfl]
  simp only [List.countP_cons, List.countP_nil]
  omega
theorem on1_le (b : Bool) : on1 b ≤ 1 := by cases b <;> decide
theorem on1_two (a b : Bool) (h : (a && b) = false) : on1 a + on1 b ≤ 1 := by cases a <;> cases b <;> simp_all [on1]

theorem set_oc (b : B8) : (setL b).length = oc fun i => b.getLsbD i := by unfold setL oc; rw [List.length_map]
theorem take_oc (b : B8) : (takeL b).length = oc fun i => decide (2 ≤ i) && b.getLsbD i := by unfold takeL oc; rw [List.length_map]

theorem light_bits (a b : B8) (h : lightB a b = true) : b.getLsbD 0 = false ∨ b.getLsbD 1 = false := by
  by_cases c : b.getLsbD 0 = true ∧ b.getLsbD 1 = true
  · exfalso
    have z : (a &&& ~~~b) &&& 3 = 0 := by
      apply b8_ext
      intro i hi
      have z0 : (0 : B8).getLsbD i = false := by simp
      simp only [BitVec.getLsbD_and, BitVec.getLsbD_not, (bit_lit i hi).1, z0, hi, decide_true, Bool.true_and]
      by_cases i0 : i = 0
      · subst i0; rw [c.1]; simp
      · by_cases i1 : i = 1
        · subst i1; rw [c.2]; simp
        · have : ¬ i < 2 := by omega
          simp [this]
    unfold lightB at h
    rw [z] at h
    simp at h
  · cases h0 : b.getLsbD 0
    · exact Or.inl rfl
    · cases h1 : b.getLsbD 1
      · exact Or.inr rfl
      · exact absurd ⟨h0, h1⟩ c

theorem pre_len (a b : B8) : (preL a b).length ≤ 8 := by
  unfold preL
  rw [List.length_append, List.length_append, set_oc, take_oc, oc_eq, oc_eq]
  have hi : ∀ i, i < 8 → 2 ≤ i → on1 (decide (2 ≤ i) && (a &&& ~~~b).getLsbD i) + on1 (((b &&& ~~~a) ||| (if lightB a b = true then b &&& 3 else 0)).getLsbD i) ≤ 1 := by
    intro i h8 h2
    apply on1_two
    have n2 : ¬ i < 2 := by omega
    have l : (if lightB a b = true then b &&& 3 else 0 : B8).getLsbD i = false := by
      split
      · rw [BitVec.getLsbD_and, (bit_lit i h8).1]; simp [n2]
      · simp
    rw [BitVec.getLsbD_or, l, BitVec.getLsbD_and, BitVec.getLsbD_and, BitVec.getLsbD_not, BitVec.getLsbD_not]
    simp only [h8, decide_true, Bool.true_and, Bool.or_false]
    cases a.getLsbD i <;> cases b.getLsbD i <;> simp
  have t0 : on1 (decide (2 ≤ 0) && (a &&& ~~~b).getLsbD 0) = 0 := rfl
  have t1 : on1 (decide (2 ≤ 1) && (a &&& ~~~b).getLsbD 1) = 0 := rfl
  have h2 := hi 2 (by omega) (by omega)
  have h3 := hi 3 (by omega) (by omega)
  have h4 := hi 4 (by omega) (by omega)
  have h5 := hi 5 (by omega) (by omega)
  have h6 := hi 6 (by omega) (by omega)
  have h7 := hi 7 (by omega) (by omega)
  cases hl : lightB a b
  · simp only [hl, Bool.false_eq_true, if_false] at h2 h3 h4 h5 h6 h7 ⊢
    have s0 := on1_le (((b &&& ~~~a) ||| (0 : B8)).getLsbD 0)
    have s1 := on1_le (((b &&& ~~~a) ||| (0 : B8)).getLsbD 1)
    simp only [List.length_nil]
    omega
  · simp only [hl, if_true] at h2 h3 h4 h5 h6 h7 ⊢
    have s0 := on1_le (((b &&& ~~~a) ||| (b &&& 3)).getLsbD 0)
    have s1 := on1_le (((b &&& ~~~a) ||| (b &&& 3)).getLsbD 1)
    have z : on1 (((b &&& ~~~a) ||| (b &&& 3)).getLsbD 0) + on1 (((b &&& ~~~a) ||| (b &&& 3)).getLsbD 1) ≤ 1 := by
      rcases light_bits a b hl with c | c
      · have : ((b &&& ~~~a) ||| (b &&& 3)).getLsbD 0 = false := by rw [BitVec.getLsbD_or, BitVec.getLsbD_and, BitVec.getLsbD_and, c]; rfl
        rw [this, show on1 false = 0 from rfl]; omega
      · have : ((b &&& ~~~a) ||| (b &&& 3)).getLsbD 1 = false := by rw [BitVec.getLsbD_or, BitVec.getLsbD_and, BitVec.getLsbD_and, c]; rfl
        rw [this, show on1 false = 0 from rfl]; omega
    simp only [List.length_cons, List.length_nil]
    omega

theorem set_full : ∀ b : B8, (setL b).length = 8 → b = 255 := by decide +kernel
theorem set_digs : ∀ b : B8, ((setL b).map digN).sum = ((setL b).length : Int) := by decide +kernel
theorem pre_full : ∀ a : B8, (preL a 255).length ≤ 8 ∧ ((preL a 255).map digN).sum ≤ 8 := by decide +kernel
theorem digN_pos (n : Int) : 1 ≤ digN n := by unfold digN; split; decide; split <;> decide
theorem digs_pos (l : List Int) : 0 ≤ (l.map digN).sum := by
  induction l with
  | nil => exact Int.le_refl _
  | cons n r ih => rw [List.map_cons, List.sum_cons]; have := digN_pos n; omega

theorem two_len (b : Sty) (h : 18 < (twoL b).length) : b.at_ = 255 ∧ (if b.fg = 0 then [] else colL b.fg 30).length = 5 ∧ (if b.bg = 0 then [] else colL b.bg 40).length = 5 := by
  have c1 : (if b.fg = 0 then [] else colL b.fg 30).length ≤ 5 := by split; simp; exact col_len _ _
  have c2 : (if b.bg = 0 then [] else colL b.bg 40).length ≤ 5 := by split; simp; exact col_len _ _
  have s := (set_mask b.at_).2.2
  unfold twoL at h
  rw [List.length_append, List.length_append, List.length_append, List.length_singleton] at h
  exact ⟨set_full _ (by omega), by omega, by omega⟩

theorem params_len (f t : Sty) : (paramsL f t).length ≤ 18 := by
  unfold paramsL
  generalize countS f = a
  generalize countS t = b
  have one : ∀ a b : Sty, (oneL a b).length ≤ 18 := by
    intro a b
    have e : oneL a b = preL a.at_ b.at_ ++ (if a.fg = b.fg then [] else colL b.fg 30) ++ (if a.bg = b.bg then [] else colL b.bg 40) := by unfold oneL preL; simp [List.append_assoc]
    have c1 : (if a.fg = b.fg then [] else colL b.fg 30).length ≤ 5 := by split; simp; exact col_len _ _
    have c2 : (if a.bg = b.bg then [] else colL b.bg 40).length ≤ 5 := by split; simp; exact col_len _ _
    have := pre_len a.at_ b.at_
    rw [e, List.length_append, List.length_append]
    omega
  split
  · simp
  · split
    · rename_i hlt
      rcases Nat.lt_or_ge 18 (twoL b).length with h | h
      · exfalso
        obtain ⟨h1, h2, h3⟩ := two_len b h
        obtain ⟨p1, p2⟩ := pre_full a.at_
        have e1 : oneL a b = preL a.at_ b.at_ ++ (if a.fg = b.fg then [] else colL b.fg 30) ++ (if a.bg = b.bg then [] else colL b.bg 40) := by unfold oneL preL; simp [List.append_assoc]
        have f1 : b.fg ≠ 0 := fun e => by rw [if_pos e] at h2; simp at h2
        have f2 : b.bg ≠ 0 := fun e => by rw [if_pos e] at h3; simp at h3
        rw [if_neg f1] at h2
        rw [if_neg f2] at h3
        have e2 : twoL b = [0] ++ setL b.at_ ++ colL b.fg 30 ++ colL b.bg 40 := by unfold twoL; rw [if_neg f1, if_neg f2]
        have d := set_digs b.at_
        have s8 : (setL b.at_).length = 8 := by rw [h1]; decide
        have dF := digs_pos (colL b.fg 30)
        have dB := digs_pos (colL b.bg 40)
        have cF : ((if a.fg = b.fg then [] else colL b.fg 30).map digN).sum ≤ ((colL b.fg 30).map digN).sum ∧ (if a.fg = b.fg then [] else colL b.fg 30).length ≤ 5 := by
          split
          · exact ⟨by simpa using dF, by simp⟩
          · exact ⟨Int.le_refl _, by omega⟩
        have cB : ((if a.bg = b.bg then [] else colL b.bg 40).map digN).sum ≤ ((colL b.bg 40).map digN).sum ∧ (if a.bg = b.bg then [] else colL b.bg 40).length ≤ 5 := by
          split
          · exact ⟨by simpa using dB, by simp⟩
          · exact ⟨Int.le_refl _, by omega⟩
        rw [h1] at e1
        unfold sizeL at hlt
        rw [e1, e2] at hlt
        simp only [List.map_append, List.sum_append, List.length_append, List.map_cons, List.map_nil, List.sum_cons, List.sum_nil, List.length_cons, List.length_nil] at hlt
        rw [d, s8, show digN 0 = 1 from rfl] at hlt
        omega
      · exact h
    · exact one a b
end Go.Proofs.YtkllilehdpdbdaaGreatDoor

/- The numbers that are told are small (plain). -/
namespace Go.Proofs.YtkllilehdpdbdaaGreatDoor
open Go.RowKit
set_option linter.unusedVariables false

theorem col_range (c b : Int) (hc : inSty c) (h0 : 0 ≤ b) (h1 : b ≤ 100) : ∀ x ∈ colL c b, 0 ≤ x ∧ x < 1000 := by
  intro x hx
  unfold colL at hx
  rcases hc with rfl | ⟨c0, c1⟩ | ⟨c0, c1⟩
  · rw [if_pos rfl] at hx
    simp at hx
    omega
  · rw [if_neg (by omega), if_neg (by omega)] at hx
    split at hx
    · simp at hx; omega
    · split at hx
      · simp at hx; omega
      · simp at hx; omega
  · rw [if_neg (by omega), if_pos c0] at hx
    simp at hx
    omega
theorem one_range (a b : Sty) (h1 : inSty b.fg) (h2 : inSty b.bg) : ∀ x ∈ oneL a b, 0 ≤ x ∧ x < 1000 := by
  intro x hx
  have e : oneL a b = preL a.at_ b.at_ ++ (if a.fg = b.fg then [] else colL b.fg 30) ++ (if a.bg = b.bg then [] else colL b.bg 40) := by unfold oneL preL; simp [List.append_assoc]
  rw [e, List.mem_append, List.mem_append] at hx
  rcases hx with (h | h) | h
  · have := preL_small _ _ x h; omega
  · split at h
    · cases h
    · exact col_range _ _ h1 (by decide) (by decide) x h
  · split at h
    · cases h
    · exact col_range _ _ h2 (by decide) (by decide) x h
theorem two_range (b : Sty) (h1 : inSty b.fg) (h2 : inSty b.bg) : ∀ x ∈ twoL b, 0 ≤ x ∧ x < 1000 := by
  intro x hx
  unfold twoL at hx
  rw [List.mem_append, List.mem_append, List.mem_append] at hx
  rcases hx with ((h | h) | h) | h
  · simp at h; omega
  · have := set_small _ x h; omega
  · split at h
    · cases h
    · exact col_range _ _ h1 (by decide) (by decide) x h
  · split at h
    · cases h
    · exact col_range _ _ h2 (by decide) (by decide) x h
end Go.Proofs.YtkllilehdpdbdaaGreatDoor

/- What numbers do to a style: plain steps of the program's walk. -/
namespace Go.Proofs.YtkllilehdpdbdaaGreatDoor
open Go.RowKit
set_option linter.unusedVariables false

/-- is it told of the background? -/
def shN (x : Int) : Bool := decide ((40 ≤ x ∧ x ≤ 49) ∨ (100 ≤ x ∧ x ≤ 107))
def mN (x : Int) : Int := if shN x = true then x - 10 else x
def bitS (i : Nat) : B8 := BitVec.ofNat 8 (2 ^ i)
/-- the attributes behind the first j names -/
def foldA (m : Int) (a : B8) : Nat → B8
  | 0 => a
  | j + 1 => let b := if m = onN j then foldA m a j ||| bitS j else foldA m a j
             if m = offN j then b &&& ~~~bitS j else b

theorem fold_small : ∀ (n : Fin 30) (a : B8), foldA (n.val : Int) a 8 = attrN a (n.val : Int) := by decide +kernel
theorem on_vals : ∀ j : Fin 8, 0 < onN j.val ∧ onN j.val < 30 ∧ 0 < offN j.val ∧ offN j.val < 30 := by decide
theorem fold_other (m : Int) (a : B8) (h : m < 0 ∨ 30 ≤ m) : ∀ j, j ≤ 8 → foldA m a j = a := by
  intro j
  induction j with
  | zero => intro _; rfl
  | succ j ih =>
    intro hj
    have v := on_vals ⟨j, by omega⟩
    simp only at v
    unfold foldA
    simp only
    rw [if_neg (by omega), if_neg (by omega)]
    exact ih (by omega)
theorem fold_attr (m : Int) (a : B8) : foldA m a 8 = attrN a m := by
  by_cases h : 0 ≤ m ∧ m < 30
  · have := fold_small ⟨m.toNat, by omega⟩ a
    simp only [Int.toNat_of_nonneg h.1] at this
    exact this
  · rw [fold_other m a (by omega) 8 (by decide)]
    by_cases h30 : 30 ≤ m
    · exact (attr_same a m h30).symm
    · unfold attrN takeM setM
      simp only [show m ≠ 22 by omega, show m ≠ 23 by omega, show m ≠ 24 by omega, show m ≠ 25 by omega, show m ≠ 27 by omega, show m ≠ 28 by omega, show m ≠ 29 by omega,
        show m ≠ 1 by omega, show m ≠ 2 by omega, show m ≠ 3 by omega, show m ≠ 4 by omega, show m ≠ 5 by omega, show m ≠ 7 by omega, show m ≠ 8 by omega, show m ≠ 9 by omega, if_false]
      simp
      rw [show (255#8) = BitVec.allOnes 8 from rfl, BitVec.and_allOnes]

/-- one number, by the program's sorts -/
theorem run_reset (t : Sty) (r : List Int) : runL t (0 :: r) = runL { plainS with at_ := attrN plainS.at_ 0 } r := by
  rw [runL_zero]; rfl
theorem run_plain (t : Sty) (x : Int) (r : List Int) (h0 : x ≠ 0) (h38 : mN x ≠ 38) : runL t (x :: r) = runL ⟨colN t.fg x, colN t.bg (x - 10), attrN t.at_ (mN x)⟩ r := by
  have e : attrN t.at_ (mN x) = attrN t.at_ x := by
    unfold mN shN
    split
    · rename_i h
      rw [decide_eq_true_iff] at h
      rw [attr_same _ _ (by omega), attr_same _ _ (by omega)]
    · rfl
  have s : smpl x = true := by
    unfold smpl
    rw [decide_eq_true_iff]
    refine ⟨h0, ?_, ?_⟩
    · rintro rfl; exact h38 rfl
    · rintro rfl; exact h38 rfl
  rw [runL_simple t x r s, e]
  rfl
theorem mN_zero (x : Int) (h : mN x = 0) : x = 0 := by
  unfold mN shN at h
  split at h
  · rename_i q; rw [decide_eq_true_iff] at q; omega
  · exact h
theorem run_fgN (t : Sty) (x : Int) (r : List Int) (hs : shN x = false) (h0 : mN x ≠ 0) (h38 : mN x ≠ 38) : runL t (x :: r) = runL { (⟨colN t.fg (mN x), t.bg, t.at_⟩ : Sty) with at_ := attrN t.at_ (mN x) } r := by
  have e : mN x = x := by unfold mN; rw [if_neg (by rw [hs]; decide)]
  rw [run_plain t x r (by rw [← e]; exact h0) h38]
  have b : colN t.bg (x - 10) = t.bg := by
    unfold shN at hs
    rw [decide_eq_false_iff_not] at hs
    unfold colN; rw [if_neg (by omega), if_neg (by omega), if_neg (by omega)]
  rw [b, e]
theorem run_bgN (t : Sty) (x : Int) (r : List Int) (hs : shN x = true) (h38 : mN x ≠ 38) : runL t (x :: r) = runL { (⟨t.fg, colN t.bg (mN x), t.at_⟩ : Sty) with at_ := attrN t.at_ (mN x) } r := by
  have e : mN x = x - 10 := by unfold mN; rw [if_pos hs]
  unfold shN at hs
  rw [decide_eq_true_iff] at hs
  rw [run_plain t x r (by omega) h38]
  have b : colN t.fg x = t.fg := by unfold colN; rw [if_neg (by omega), if_neg (by omega), if_neg (by omega)]
  rw [b, e]
theorem run_rich (t : Sty) (x : Int) (r : List Int) (h : mN x = 38) (c : Int) (k : Nat) (hr : richL r = some (c, k)) :
    runL t (x :: r) = runL (if shN x = true then { t with bg := c, at_ := attrN t.at_ 38 } else { t with fg := c, at_ := attrN t.at_ 38 }) (r.drop k) := by
  have hx : x = 38 ∨ x = 48 := by
    unfold mN shN at h
    split at h
    · rename_i q; rw [decide_eq_true_iff] at q; omega
    · omega
  rcases hx with rfl | rfl
  · rw [runL_38 t r c k hr, attr_same _ _ (by decide)]; rfl
  · rw [runL_48 t r c k hr, attr_same _ _ (by decide)]; rfl
theorem run_poor (t : Sty) (x : Int) (r : List Int) (h : mN x = 38) (hr : richL r = none) : runL t (x :: r) = t := by
  have hx : x = 38 ∨ x = 48 := by
    unfold mN shN at h
    split at h
    · rename_i q; rw [decide_eq_true_iff] at q; omega
    · omega
  rcases hx with rfl | rfl
  · show applyF (r.length + 1) t (38 :: r) = t
    unfold applyF
    rw [if_neg (by decide), if_pos rfl, hr]
  · show applyF (r.length + 1) t (48 :: r) = t
    unfold applyF
    rw [if_neg (by decide), if_neg (by decide), if_pos rfl, hr]
theorem rich_len {r : List Int} {c : Int} {k : Nat} (h : richL r = some (c, k)) : k ≤ r.length ∧ 2 ≤ k ∧ inSty c ∧ c ≠ 0 := by
  unfold richL at h
  split at h
  · split at h
    · rename_i o
      unfold okB at o
      rw [decide_eq_true_iff] at o
      cases h
      exact ⟨by simp, by decide, Or.inr (Or.inl ⟨by omega, by omega⟩), by omega⟩
    · cases h
  · split at h
    · rename_i o
      obtain ⟨o1, o2, o3⟩ := o
      unfold okB at o1 o2 o3
      rw [decide_eq_true_iff] at o1 o2 o3
      cases h
      exact ⟨by simp, by decide, Or.inr (Or.inr ⟨by omega, by omega⟩), by omega⟩
    · cases h
  · cases h
end Go.Proofs.YtkllilehdpdbdaaGreatDoor

/- Plain steps of the reference's walks: numbers by names, lengths of rows, colours of one number. -/
namespace Go.Proofs.YtkllilehdpdbdaaGreatDoor
open Go.RowKit
set_option linter.unusedVariables false

/-- what a number sets; what it takes: name by name -/
def setK (n : Int) : Nat → B8
  | 0 => 0
  | j + 1 => if onN j = n then setK n j ||| bitS j else setK n j
def takeK (n : Int) : Nat → B8
  | 0 => 0
  | j + 1 => if offN j = n then takeK n j ||| bitS j else takeK n j
theorem setK_small : ∀ n : Fin 30, setK (n.val : Int) 8 = setM (n.val : Int) ∧ takeK (n.val : Int) 8 = takeM (n.val : Int) := by decide +kernel
theorem setK_other (m : Int) (h : m < 0 ∨ 30 ≤ m) : ∀ j, j ≤ 8 → setK m j = 0 ∧ takeK m j = 0 := by
  intro j
  induction j with
  | zero => intro _; exact ⟨rfl, rfl⟩
  | succ j ih =>
    intro hj
    have v := on_vals ⟨j, by omega⟩
    simp only at v
    unfold setK takeK
    rw [if_neg (by omega), if_neg (by omega)]
    exact ih (by omega)
theorem setK_all (m : Int) : setK m 8 = setM m ∧ takeK m 8 = takeM m := by
  by_cases h : 0 ≤ m ∧ m < 30
  · have := setK_small ⟨m.toNat, by omega⟩
    simp only [Int.toNat_of_nonneg h.1] at this
    exact this
  · obtain ⟨h1, h2⟩ := setK_other m (by omega) 8 (by decide)
    rw [h1, h2]
    unfold takeM setM
    simp only [show m ≠ 22 by omega, show m ≠ 23 by omega, show m ≠ 24 by omega, show m ≠ 25 by omega, show m ≠ 27 by omega, show m ≠ 28 by omega, show m ≠ 29 by omega,
      show m ≠ 1 by omega, show m ≠ 2 by omega, show m ≠ 3 by omega, show m ≠ 4 by omega, show m ≠ 5 by omega, show m ≠ 7 by omega, show m ≠ 8 by omega, show m ≠ 9 by omega, if_false]
    exact ⟨trivial, trivial⟩

/-- is a number a colour's own? -/
def okS (n : Int) : Bool := decide ((30 ≤ n ∧ n ≤ 37) ∨ (90 ≤ n ∧ n ≤ 97) ∨ n = 39)
theorem colN_ok (c n : Int) : colN c n = if okS n = true then colN 0 n else c := by
  unfold okS colN
  simp only [decide_eq_true_eq]
  repeat' split
  all_goals omega

/-- how long a row of numbers is, by the reference -/
def bytesL (l : List Int) : Int := if l = [] then 0 else sizeL l
def bytesK (l : List Int) (k : Nat) : Int := sumD' (l.take k) + (if k = 0 then 0 else (k : Int) - 1)
where sumD' (l : List Int) : Int := (l.map digN).sum
theorem bytesK_next (l : List Int) (k : Nat) (h : k < l.length) : bytesK l (k + 1) = bytesK l k + digN l[k] + (if k = 0 then 0 else 1) := by
  unfold bytesK bytesK.sumD'
  rw [List.take_succ_eq_append_getElem h, List.map_append, List.sum_append]
  simp only [List.map_cons, List.map_nil, List.sum_cons, List.sum_nil]
  rw [if_neg (by omega)]
  split <;> omega
theorem bytesK_all (l : List Int) : bytesK l l.length = bytesL l := by
  unfold bytesK bytesL bytesK.sumD' sizeL
  rw [List.take_length]
  by_cases h : l = []
  · subst h; rfl
  · rw [if_neg h, if_neg (by rw [List.length_eq_zero_iff]; exact h)]
theorem bytesK_bound (l : List Int) (k : Nat) (h : k ≤ l.length) : 0 ≤ bytesK l k ∧ bytesK l k ≤ 4 * (k : Int) := by
  unfold bytesK bytesK.sumD'
  have b : ∀ m : List Int, 0 ≤ (m.map digN).sum ∧ (m.map digN).sum ≤ 3 * m.length := by
    intro m
    induction m with
    | nil => simp
    | cons x r ih =>
      rw [List.map_cons, List.sum_cons, List.length_cons]
      have := digN_pos x
      have : digN x ≤ 3 := by unfold digN; split; decide; split <;> decide
      omega
  have := b (l.take k)
  rw [List.length_take, Nat.min_eq_left h] at this
  split <;> omega

/-- the numbers, chosen by the reference's lengths -/
theorem params_bytes (f t : Sty) : paramsL f t = if countS f = countS t then [] else if bytesL (twoL (countS t)) < bytesL (oneL (countS f) (countS t)) then twoL (countS t) else oneL (countS f) (countS t) := by
  unfold paramsL
  split
  · rfl
  · have t2 : bytesL (twoL (countS t)) = sizeL (twoL (countS t)) := by unfold bytesL; rw [if_neg (by unfold twoL; simp)]
    rw [t2]
    by_cases z : oneL (countS f) (countS t) = []
    · have p : 0 ≤ sizeL (twoL (countS t)) := by
        unfold sizeL
        have h := digs_pos (twoL (countS t))
        have l : 1 ≤ (twoL (countS t)).length := by unfold twoL; simp
        omega
      rw [z]
      rw [if_neg (by show ¬ sizeL (twoL (countS t)) < sizeL []; unfold sizeL at p ⊢; simp at p ⊢; omega), if_neg (by show ¬ sizeL (twoL (countS t)) < bytesL []; unfold bytesL; simp; omega)]
    · unfold bytesL
      rw [if_neg z]

/-- the bits of the second loop's test -/
theorem come_bit (a b : B8) (i : Nat) (hi : i < 8) : ((b &&& ~~~a) ||| (if lightB a b = true then b &&& 3 else 0)).getLsbD i = (b.getLsbD i && (!a.getLsbD i || (decide (i < 2) && lightB a b))) := by
  have z0 : (0 : B8).getLsbD i = false := by simp
  cases lightB a b
  · simp only [Bool.false_eq_true, if_false, BitVec.getLsbD_or, BitVec.getLsbD_and, BitVec.getLsbD_not, z0, hi, decide_true, Bool.true_and, Bool.and_false, Bool.or_false]
  · simp only [if_true, BitVec.getLsbD_or, BitVec.getLsbD_and, BitVec.getLsbD_not, (bit_lit i hi).1, hi, decide_true, Bool.true_and, Bool.and_true]
    cases a.getLsbD i <;> cases b.getLsbD i <;> simp
theorem gone_bit (a b : B8) (i : Nat) (hi : i < 8) : (a &&& ~~~b).getLsbD i = (a.getLsbD i && !b.getLsbD i) := by
  simp only [BitVec.getLsbD_and, BitVec.getLsbD_not, hi, decide_true, Bool.true_and]
end Go.Proofs.YtkllilehdpdbdaaGreatDoor
