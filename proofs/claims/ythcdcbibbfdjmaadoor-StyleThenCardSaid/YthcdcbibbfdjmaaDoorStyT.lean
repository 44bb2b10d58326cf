/- The numbers that are told make the one style of the other (plain). -/
import Derived.Test.YthcdcbibbfdjmaaDoorStyA
namespace Go.Proofs.YthcdcbibbfdjmaaDoor
open Go.RowKit
set_option linter.unusedVariables false

def smpl (n : Int) : Bool := decide (n ≠ 0 ∧ n ≠ 38 ∧ n ≠ 48)
/-- what numbers make of a style that counts -/
def runL (s : Sty) (l : List Int) : Sty := applyF l.length s l
theorem runL_more (s : Sty) (l : List Int) (f : Nat) (h : l.length ≤ f) : applyF f s l = runL s l := applyF_more l f l.length s h (Nat.le_refl _)
theorem runL_nil (s : Sty) : runL s [] = s := rfl
theorem runL_zero (s : Sty) (r : List Int) : runL s (0 :: r) = runL plainS r := by
  show applyF (r.length + 1) s (0 :: r) = _
  unfold applyF
  rw [if_pos rfl]; rfl
theorem runL_simple (s : Sty) (n : Int) (r : List Int) (h : smpl n = true) : runL s (n :: r) = runL (stepN s n) r := by
  unfold smpl at h
  rw [decide_eq_true_iff] at h
  show applyF (r.length + 1) s (n :: r) = _
  unfold applyF
  rw [if_neg h.1, if_neg h.2.1, if_neg h.2.2]; rfl
theorem runL_38 (s : Sty) (r : List Int) (c : Int) (k : Nat) (h : richL r = some (c, k)) : runL s (38 :: r) = runL { s with fg := c } (r.drop k) := by
  show applyF (r.length + 1) s (38 :: r) = _
  unfold applyF
  rw [if_neg (by decide), if_pos rfl, h]
  exact runL_more _ _ _ (by rw [List.length_drop]; omega)
theorem runL_48 (s : Sty) (r : List Int) (c : Int) (k : Nat) (h : richL r = some (c, k)) : runL s (48 :: r) = runL { s with bg := c } (r.drop k) := by
  show applyF (r.length + 1) s (48 :: r) = _
  unfold applyF
  rw [if_neg (by decide), if_neg (by decide), if_pos rfl, h]
  exact runL_more _ _ _ (by rw [List.length_drop]; omega)
theorem runL_simples (l1 : List Int) : ∀ (s : Sty) (l2 : List Int), l1.all smpl = true → runL s (l1 ++ l2) = runL (l1.foldl stepN s) l2 := by
  induction l1 with
  | nil => intro s l2 _; rfl
  | cons n r ih =>
    intro s l2 h
    rw [List.all_cons, Bool.and_eq_true] at h
    rw [List.cons_append, runL_simple s n _ h.1, ih _ _ h.2]
    rfl

/-- a colour as it stands in a style -/
def inSty (c : Int) : Prop := c = 0 ∨ (256 ≤ c ∧ c < 512) ∨ (16777216 ≤ c ∧ c < 33554432)
theorem inSty_pl (c : Int) : inSty (plC c) := by
  unfold plC cnt rightB inSty
  split
  · exact Or.inl rfl
  · split
    · rename_i h1 h2
      rw [decide_eq_true_iff] at h2
      omega
    · exact Or.inl rfl

theorem attr_same (a : B8) (n : Int) (h : 30 ≤ n) : attrN a n = a := by
  unfold attrN takeM setM
  simp only [show n ≠ 22 by omega, show n ≠ 23 by omega, show n ≠ 24 by omega, show n ≠ 25 by omega, show n ≠ 27 by omega, show n ≠ 28 by omega, show n ≠ 29 by omega,
    show n ≠ 1 by omega, show n ≠ 2 by omega, show n ≠ 3 by omega, show n ≠ 4 by omega, show n ≠ 5 by omega, show n ≠ 7 by omega, show n ≠ 8 by omega, show n ≠ 9 by omega, if_false]
  simp
  rw [show (255#8) = BitVec.allOnes 8 from rfl, BitVec.and_allOnes]

theorem rich_pal (c : Int) (l : List Int) (h0 : 256 ≤ c) (h1 : c < 512) : richL (5 :: (c - 256) :: l) = some (c, 2) := by
  have ok : okB (c - 256) = true := by unfold okB; rw [decide_eq_true_iff]; omega
  simp only [richL, ok, if_true]
  rw [show 256 + (c - 256) = c by omega]
theorem rich_full (c : Int) (l : List Int) (h0 : 16777216 ≤ c) (h1 : c < 33554432) : richL (2 :: (c - 16777216) / 65536 :: (c - 16777216) / 256 % 256 :: (c - 16777216) % 256 :: l) = some (c, 4) := by
  have o1 : okB ((c - 16777216) / 65536) = true := by unfold okB; rw [decide_eq_true_iff]; omega
  have o2 : okB ((c - 16777216) / 256 % 256) = true := by unfold okB; rw [decide_eq_true_iff]; omega
  have o3 : okB ((c - 16777216) % 256) = true := by unfold okB; rw [decide_eq_true_iff]; omega
  simp only [richL, o1, o2, o3, and_self, if_true]
  rw [show 16777216 + 65536 * ((c - 16777216) / 65536) + 256 * ((c - 16777216) / 256 % 256) + (c - 16777216) % 256 = c by omega]

theorem run_fg (c : Int) (hc : inSty c) (s : Sty) (l2 : List Int) : runL s (colL c 30 ++ l2) = runL { s with fg := c } l2 := by
  have one : ∀ n : Int, 30 ≤ n → n - 10 < 30 ∨ (80 ≤ n - 10 ∧ n - 10 ≤ 87) → n ≠ 38 → n ≠ 48 → colN s.fg n = c → runL s ([n] ++ l2) = runL { s with fg := c } l2 := by
    intro n h0 h1 h2 h3 h4
    show runL s (n :: l2) = _
    rw [runL_simple s n l2 (by unfold smpl; rw [decide_eq_true_iff]; omega)]
    congr 1
    unfold stepN
    rw [attr_same _ _ h0, h4]
    have b : colN s.bg (n - 10) = s.bg := by unfold colN; rw [if_neg (by omega), if_neg (by omega), if_neg (by omega)]
    rw [b]
  rcases hc with rfl | ⟨h0, h1⟩ | ⟨h0, h1⟩
  · exact one 39 (by omega) (by omega) (by omega) (by omega) rfl
  · by_cases a : 272 ≤ c
    · have e : colL c 30 = [38, 5, c - 256] := by unfold colL; rw [if_neg (by omega), if_neg (by omega), if_pos a]; rfl
      rw [e]
      exact runL_38 s _ c 2 (rich_pal c l2 h0 h1)
    · by_cases b : 264 ≤ c
      · have e : colL c 30 = [30 + 60 + (c - 264)] := by unfold colL; rw [if_neg (by omega), if_neg (by omega), if_neg a, if_pos b]
        rw [e]
        exact one _ (by omega) (by omega) (by omega) (by omega) (by unfold colN; rw [if_neg (by omega), if_pos (by omega)]; omega)
      · have e : colL c 30 = [30 + (c - 256)] := by unfold colL; rw [if_neg (by omega), if_neg (by omega), if_neg a, if_neg b]
        rw [e]
        exact one _ (by omega) (by omega) (by omega) (by omega) (by unfold colN; rw [if_pos (by omega)]; omega)
  · have e : colL c 30 = [38, 2, (c - 16777216) / 65536, (c - 16777216) / 256 % 256, (c - 16777216) % 256] := by unfold colL; rw [if_neg (by omega), if_pos h0]; rfl
    rw [e]
    exact runL_38 s _ c 4 (rich_full c l2 h0 h1)

theorem run_bg (c : Int) (hc : inSty c) (s : Sty) (l2 : List Int) : runL s (colL c 40 ++ l2) = runL { s with bg := c } l2 := by
  have one : ∀ n : Int, 40 ≤ n → n < 50 ∨ 100 ≤ n → n ≠ 48 → colN s.bg (n - 10) = c → runL s ([n] ++ l2) = runL { s with bg := c } l2 := by
    intro n h0 h1 h3 h4
    show runL s (n :: l2) = _
    rw [runL_simple s n l2 (by unfold smpl; rw [decide_eq_true_iff]; omega)]
    congr 1
    unfold stepN
    rw [attr_same _ _ (by omega), h4]
    have b : colN s.fg n = s.fg := by unfold colN; rw [if_neg (by omega), if_neg (by omega), if_neg (by omega)]
    rw [b]
  rcases hc with rfl | ⟨h0, h1⟩ | ⟨h0, h1⟩
  · exact one 49 (by omega) (by omega) (by omega) rfl
  · by_cases a : 272 ≤ c
    · have e : colL c 40 = [48, 5, c - 256] := by unfold colL; rw [if_neg (by omega), if_neg (by omega), if_pos a]; rfl
      rw [e]
      exact runL_48 s _ c 2 (rich_pal c l2 h0 h1)
    · by_cases b : 264 ≤ c
      · have e : colL c 40 = [40 + 60 + (c - 264)] := by unfold colL; rw [if_neg (by omega), if_neg (by omega), if_neg a, if_pos b]
        rw [e]
        exact one _ (by omega) (by omega) (by omega) (by unfold colN; rw [if_neg (by omega), if_pos (by omega)]; omega)
      · have e : colL c 40 = [40 + (c - 256)] := by unfold colL; rw [if_neg (by omega), if_neg (by omega), if_neg a, if_neg b]
        rw [e]
        exact one _ (by omega) (by omega) (by omega) (by unfold colN; rw [if_pos (by omega)]; omega)
  · have e : colL c 40 = [48, 2, (c - 16777216) / 65536, (c - 16777216) / 256 % 256, (c - 16777216) % 256] := by unfold colL; rw [if_neg (by omega), if_pos h0]; rfl
    rw [e]
    exact runL_48 s _ c 4 (rich_full c l2 h0 h1)

/-- the bits that a row of numbers takes -/
def maskT : List Int → B8
  | [] => 0
  | n :: r => takeM n ||| maskT r
theorem fold_mask (l : List Int) : ∀ a : B8, l.foldl attrN a = (a &&& ~~~(maskT l)) ||| l.foldl attrN 0 := by
  induction l with
  | nil =>
    intro a
    show a = (a &&& ~~~(0 : B8)) ||| 0
    apply b8_ext
    intro i hi
    have z : (0 : B8).getLsbD i = false := by simp
    simp only [BitVec.getLsbD_or, BitVec.getLsbD_and, BitVec.getLsbD_not, z, hi, decide_true, Bool.true_and]
    cases a.getLsbD i <;> rfl
  | cons n r ih =>
    intro a
    rw [List.foldl_cons, List.foldl_cons, ih (attrN a n), ih (attrN 0 n)]
    rw [show maskT (n :: r) = takeM n ||| maskT r from rfl]
    generalize r.foldl attrN 0 = F
    generalize maskT r = M
    unfold attrN
    apply b8_ext
    intro i hi
    have z : (0 : B8).getLsbD i = false := by simp
    simp only [BitVec.getLsbD_or, BitVec.getLsbD_and, BitVec.getLsbD_not, z, hi, decide_true, Bool.true_and]
    cases a.getLsbD i <;> cases (takeM n).getLsbD i <;> cases (setM n).getLsbD i <;> cases M.getLsbD i <;> cases F.getLsbD i <;> rfl

theorem set_mask : ∀ x : B8, maskT (setL x) = 0 ∧ (setL x).foldl attrN 0 = x ∧ (setL x).length ≤ 8 := by decide +kernel
theorem take_mask : ∀ x : B8, maskT (takeL x) = x &&& 252 ∧ (takeL x).foldl attrN 0 = 0 := by decide +kernel
theorem set_small : ∀ x : B8, ∀ n ∈ setL x, 0 < n ∧ n < 30 := by decide +kernel
theorem take_small : ∀ x : B8, ∀ n ∈ takeL x, 0 < n ∧ n < 30 := by decide +kernel

theorem steps_colors (l : List Int) : ∀ s : Sty, (∀ n ∈ l, 0 < n ∧ n < 30) → (l.foldl stepN s).fg = s.fg ∧ (l.foldl stepN s).bg = s.bg ∧ (l.foldl stepN s).at_ = l.foldl attrN s.at_ := by
  induction l with
  | nil => intro s _; exact ⟨rfl, rfl, rfl⟩
  | cons n r ih =>
    intro s h
    obtain ⟨a, b, c⟩ := ih (stepN s n) (fun m hm => h m (List.mem_cons_of_mem _ hm))
    have hn := h n (List.mem_cons_self ..)
    refine ⟨a.trans ?_, b.trans ?_, c⟩
    · show colN s.fg n = s.fg
      unfold colN; rw [if_neg (by omega), if_neg (by omega), if_neg (by omega)]
    · show colN s.bg (n - 10) = s.bg
      unfold colN; rw [if_neg (by omega), if_neg (by omega), if_neg (by omega)]
end Go.Proofs.YthcdcbibbfdjmaaDoor
