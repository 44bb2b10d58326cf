/- Never more than 18 numbers (plain). -/
import Derived.Test.YthcdcbibbfdjmaaDoorStyU
namespace Go.Proofs.YthcdcbibbfdjmaaDoor
open Go.RowKit
set_option linter.unusedVariables false

def oc (p : Nat → Bool) : Nat := ((List.range 8).filter p).length
def on1 (b : Bool) : Nat := if b = true then 1 else 0
theorem oc_eq (p : Nat → Bool) : oc p = on1 (p 0) + on1 (p 1) + on1 (p 2) + on1 (p 3) + on1 (p 4) + on1 (p 5) + on1 (p 6) + on1 (p 7) := by
  unfold oc on1
  rw [← List.countP_eq_length_filter, show List.range 8 = [0, 1, 2, 3, 4, 5, 6, 7] from rfl]
  simp only [List.countP_cons, List.countP_nil]
  omega
theorem on1_le (b : Bool) : on1 b ≤ 1 := by cases b <;> decide
theorem on1_two (a b : Bool) (h : (a && b) = false) : on1 a + on1 b ≤ 1 := by cases a <;> cases b <;> simp_all [on1]

theorem set_oc (b : B8) : (setL b).length = oc fun i => b.getLsbD i := by unfold setL oc; rw [List.length_map]
theorem take_oc (b : B8) : (takeL b).length = oc fun i => decide (2 ≤ i) && b.getLsbD i := by unfold takeL oc; rw [List.length_map]

theorem light_bits (a b : B8) (h : lightB a b = true) : b.getLsbD 0 = false ∨ b.getLsbD 1 = false := by
  by_cases c : b.getLsbD 0 = true ∧ b.getLsbD 1 = true
  · exfalso
    have z : (a &&& ~~~b) &&& 3 = 0 := by
      apply b8_ext
      intro i hi
      have z0 : (0 : B8).getLsbD i = false := by simp
      simp only [BitVec.getLsbD_and, BitVec.getLsbD_not, (bit_lit i hi).1, z0, hi, decide_true, Bool.true_and]
      by_cases i0 : i = 0
      · subst i0; rw [c.1]; simp
      · by_cases i1 : i = 1
        · subst i1; rw [c.2]; simp
        · have : ¬ i < 2 := by omega
          simp [this]
    unfold lightB at h
    rw [z] at h
    simp at h
  · cases h0 : b.getLsbD 0
    · exact Or.inl rfl
    · cases h1 : b.getLsbD 1
      · exact Or.inr rfl
      · exact absurd ⟨h0, h1⟩ c

theorem pre_len (a b : B8) : (preL a b).length ≤ 8 := by
  unfold preL
  rw [List.length_append, List.length_append, set_oc, take_oc, oc_eq, oc_eq]
  have hi : ∀ i, i < 8 → 2 ≤ i → on1 (decide (2 ≤ i) && (a &&& ~~~b).getLsbD i) + on1 (((b &&& ~~~a) ||| (if lightB a b = true then b &&& 3 else 0)).getLsbD i) ≤ 1 := by
    intro i h8 h2
    apply on1_two
    have n2 : ¬ i < 2 := by omega
    have l : (if lightB a b = true then b &&& 3 else 0 : B8).getLsbD i = false := by
      split
      · rw [BitVec.getLsbD_and, (bit_lit i h8).1]; simp [n2]
      · simp
    rw [BitVec.getLsbD_or, l, BitVec.getLsbD_and, BitVec.getLsbD_and, BitVec.getLsbD_not, BitVec.getLsbD_not]
    simp only [h8, decide_true, Bool.true_and, Bool.or_false]
    cases a.getLsbD i <;> cases b.getLsbD i <;> simp
  have t0 : on1 (decide (2 ≤ 0) && (a &&& ~~~b).getLsbD 0) = 0 := rfl
  have t1 : on1 (decide (2 ≤ 1) && (a &&& ~~~b).getLsbD 1) = 0 := rfl
  have h2 := hi 2 (by omega) (by omega)
  have h3 := hi 3 (by omega) (by omega)
  have h4 := hi 4 (by omega) (by omega)
  have h5 := hi 5 (by omega) (by omega)
  have h6 := hi 6 (by omega) (by omega)
  have h7 := hi 7 (by omega) (by omega)
  cases hl : lightB a b
  · simp only [hl, Bool.false_eq_true, if_false] at h2 h3 h4 h5 h6 h7 ⊢
    have s0 := on1_le (((b &&& ~~~a) ||| (0 : B8)).getLsbD 0)
    have s1 := on1_le (((b &&& ~~~a) ||| (0 : B8)).getLsbD 1)
    simp only [List.length_nil]
    omega
  · simp only [hl, if_true] at h2 h3 h4 h5 h6 h7 ⊢
    have s0 := on1_le (((b &&& ~~~a) ||| (b &&& 3)).getLsbD 0)
    have s1 := on1_le (((b &&& ~~~a) ||| (b &&& 3)).getLsbD 1)
    have z : on1 (((b &&& ~~~a) ||| (b &&& 3)).getLsbD 0) + on1 (((b &&& ~~~a) ||| (b &&& 3)).getLsbD 1) ≤ 1 := by
      rcases light_bits a b hl with c | c
      · have : ((b &&& ~~~a) ||| (b &&& 3)).getLsbD 0 = false := by rw [BitVec.getLsbD_or, BitVec.getLsbD_and, BitVec.getLsbD_and, c]; rfl
        rw [this, show on1 false = 0 from rfl]; omega
      · have : ((b &&& ~~~a) ||| (b &&& 3)).getLsbD 1 = false := by rw [BitVec.getLsbD_or, BitVec.getLsbD_and, BitVec.getLsbD_and, c]; rfl
        rw [this, show on1 false = 0 from rfl]; omega
    simp only [List.length_cons, List.length_nil]
    omega

theorem set_full : ∀ b : B8, (setL b).length = 8 → b = 255 := by decide +kernel
theorem set_digs : ∀ b : B8, ((setL b).map digN).sum = ((setL b).length : Int) := by decide +kernel
theorem pre_full : ∀ a : B8, (preL a 255).length ≤ 8 ∧ ((preL a 255).map digN).sum ≤ 8 := by decide +kernel
theorem digN_pos (n : Int) : 1 ≤ digN n := by unfold digN; split; decide; split <;> decide
theorem digs_pos (l : List Int) : 0 ≤ (l.map digN).sum := by
  induction l with
  | nil => exact Int.le_refl _
  | cons n r ih => rw [List.map_cons, List.sum_cons]; have := digN_pos n; omega

theorem two_len (b : Sty) (h : 18 < (twoL b).length) : b.at_ = 255 ∧ (if b.fg = 0 then [] else colL b.fg 30).length = 5 ∧ (if b.bg = 0 then [] else colL b.bg 40).length = 5 := by
  have c1 : (if b.fg = 0 then [] else colL b.fg 30).length ≤ 5 := by split; simp; exact col_len _ _
  have c2 : (if b.bg = 0 then [] else colL b.bg 40).length ≤ 5 := by split; simp; exact col_len _ _
  have s := (set_mask b.at_).2.2
  unfold twoL at h
  rw [List.length_append, List.length_append, List.length_append, List.length_singleton] at h
  exact ⟨set_full _ (by omega), by omega, by omega⟩

theorem params_len (f t : Sty) : (paramsL f t).length ≤ 18 := by
  unfold paramsL
  generalize countS f = a
  generalize countS t = b
  have one : ∀ a b : Sty, (oneL a b).length ≤ 18 := by
    intro a b
    have e : oneL a b = preL a.at_ b.at_ ++ (if a.fg = b.fg then [] else colL b.fg 30) ++ (if a.bg = b.bg then [] else colL b.bg 40) := by unfold oneL preL; simp [List.append_assoc]
    have c1 : (if a.fg = b.fg then [] else colL b.fg 30).length ≤ 5 := by split; simp; exact col_len _ _
    have c2 : (if a.bg = b.bg then [] else colL b.bg 40).length ≤ 5 := by split; simp; exact col_len _ _
    have := pre_len a.at_ b.at_
    rw [e, List.length_append, List.length_append]
    omega
  split
  · simp
  · split
    · rename_i hlt
      rcases Nat.lt_or_ge 18 (twoL b).length with h | h
      · exfalso
        obtain ⟨h1, h2, h3⟩ := two_len b h
        obtain ⟨p1, p2⟩ := pre_full a.at_
        have e1 : oneL a b = preL a.at_ b.at_ ++ (if a.fg = b.fg then [] else colL b.fg 30) ++ (if a.bg = b.bg then [] else colL b.bg 40) := by unfold oneL preL; simp [List.append_assoc]
        have f1 : b.fg ≠ 0 := fun e => by rw [if_pos e] at h2; simp at h2
        have f2 : b.bg ≠ 0 := fun e => by rw [if_pos e] at h3; simp at h3
        rw [if_neg f1] at h2
        rw [if_neg f2] at h3
        have e2 : twoL b = [0] ++ setL b.at_ ++ colL b.fg 30 ++ colL b.bg 40 := by unfold twoL; rw [if_neg f1, if_neg f2]
        have d := set_digs b.at_
        have s8 : (setL b.at_).length = 8 := by rw [h1]; decide
        have dF := digs_pos (colL b.fg 30)
        have dB := digs_pos (colL b.bg 40)
        have cF : ((if a.fg = b.fg then [] else colL b.fg 30).map digN).sum ≤ ((colL b.fg 30).map digN).sum ∧ (if a.fg = b.fg then [] else colL b.fg 30).length ≤ 5 := by
          split
          · exact ⟨by simpa using dF, by simp⟩
          · exact ⟨Int.le_refl _, by omega⟩
        have cB : ((if a.bg = b.bg then [] else colL b.bg 40).map digN).sum ≤ ((colL b.bg 40).map digN).sum ∧ (if a.bg = b.bg then [] else colL b.bg 40).length ≤ 5 := by
          split
          · exact ⟨by simpa using dB, by simp⟩
          · exact ⟨Int.le_refl _, by omega⟩
        rw [h1] at e1
        unfold sizeL at hlt
        rw [e1, e2] at hlt
        simp only [List.map_append, List.sum_append, List.length_append, List.map_cons, List.map_nil, List.sum_cons, List.sum_nil, List.length_cons, List.length_nil] at hlt
        rw [d, s8, show digN 0 = 1 from rfl] at hlt
        omega
      · exact h
    · exact one a b
end Go.Proofs.YthcdcbibbfdjmaaDoor
