/- A text's words: rune by rune as the library cuts them, and byte by byte (plain; of no program). -/
import Derived.Test.YthcdcbibbfdjmaaDoorBase
import Derived.Lib.FieldsP
import Derived.Lib.SpaceUEq
import Derived.Laws.RangeAny
namespace Go.Proofs.YthcdcbibbfdjmaaDoor
open Go.RowKit
set_option linter.unusedVariables false

def blankR (r : Nat) : Bool := decide (r = 32 ∨ r = 9)
def spansB (s : ByteArray) : Nat → Nat → Option Nat → List (Nat × Nat) → List (Nat × Nat) × Option Nat
  | 0, _, st, acc => (acc, st)
  | f + 1, pos, st, acc =>
    if pos < s.size then
      (if blankR (s.get! pos).toNat = true then
        (match st with
         | some a => spansB s f (pos + 1) none (acc ++ [(a, pos)])
         | none => spansB s f (pos + 1) none acc)
       else spansB s f (pos + 1) (some (st.getD pos)) acc)
    else (acc, st)
theorem spansB_end (s : ByteArray) (f pos : Nat) (st : Option Nat) (acc : List (Nat × Nat)) (h : ¬ pos < s.size) : spansB s f pos st acc = (acc, st) := by
  cases f with
  | zero => rfl
  | succ f => simp [spansB, h]
theorem spansB_more (s : ByteArray) : ∀ (f g pos : Nat) (st : Option Nat) (acc : List (Nat × Nat)), s.size ≤ pos + f → s.size ≤ pos + g → spansB s f pos st acc = spansB s g pos st acc := by
  intro f
  induction f with
  | zero =>
    intro g pos st acc h1 h2
    rw [spansB_end s g pos st acc (by omega)]; rfl
  | succ f ih =>
    intro g pos st acc h1 h2
    by_cases lt : pos < s.size
    · obtain ⟨g, rfl⟩ : ∃ k, g = k + 1 := ⟨g - 1, by omega⟩
      unfold spansB
      rw [if_pos lt, if_pos lt]
      split
      · cases st
        · exact ih g _ _ _ (by omega) (by omega)
        · exact ih g _ _ _ (by omega) (by omega)
      · exact ih g _ _ _ (by omega) (by omega)
    · rw [spansB_end s _ pos st acc lt, spansB_end s _ pos st acc lt]
theorem spansB_skip (s : ByteArray) (k : Nat) : ∀ (f pos : Nat) (st : Option Nat) (acc : List (Nat × Nat)), pos + k ≤ s.size → (∀ j, j < k → blankR (s.get! (pos + j)).toNat = false) →
    spansB s (f + k) pos st acc = if k = 0 then spansB s f pos st acc else spansB s f (pos + k) (some (st.getD pos)) acc := by
  induction k with
  | zero => intro f pos st acc _ _; rfl
  | succ k ih =>
    intro f pos st acc h hb
    have b0 := hb 0 (by omega)
    rw [Nat.add_zero] at b0
    rw [if_neg (by omega), show f + (k + 1) = (f + k) + 1 by omega]
    conv => lhs; unfold spansB
    rw [if_pos (by omega), b0, if_neg (by decide), ih f (pos + 1) _ acc (by omega) (fun j hj => by have := hb (j + 1) (by omega); rwa [show pos + (j + 1) = pos + 1 + j by omega] at this)]
    split
    · rename_i k0; subst k0; rfl
    · rw [show pos + 1 + k = pos + (k + 1) by omega]; rfl

theorem blank_high (r : Nat) (h : 128 ≤ r) : blankR r = false := by unfold blankR; rw [decide_eq_false_iff_not]; omega

theorem spans_same (s : ByteArray) : ∀ (f g pos : Nat) (st : Option Nat) (acc : List (Nat × Nat)), s.size ≤ pos + f → s.size ≤ pos + g → Lib.spansFromP blankR s f pos st acc = spansB s g pos st acc := by
  intro f
  induction f with
  | zero =>
    intro g pos st acc h1 h2
    rw [spansB_end s g pos st acc (by omega)]; rfl
  | succ f ih =>
    intro g pos st acc h1 h2
    by_cases lt : pos < s.size
    · have gb : s.get! pos = s[pos]'lt := by have := get_at s pos lt; rwa [Nat.add_zero] at this
      by_cases a : (s.get! pos).toNat < 128
      · have d : Utf8.decode s pos = ((s.get! pos).toNat, 1) := by rw [gb] at a ⊢; exact decode_ascii s pos lt a
        obtain ⟨g, rfl⟩ : ∃ k, g = k + 1 := ⟨g - 1, by omega⟩
        unfold Lib.spansFromP spansB
        rw [if_pos lt, if_pos lt, d]
        simp only
        by_cases b : blankR (s.get! pos).toNat = true
        · rw [if_pos b, if_pos b]
          cases st
          · exact ih g _ _ _ (by omega) (by omega)
          · exact ih g _ _ _ (by omega) (by omega)
        · rw [if_neg b, if_neg b]
          cases st
          · exact ih g _ _ _ (by omega) (by omega)
          · exact ih g _ _ _ (by omega) (by omega)
      · have d := decode_high s pos lt (by rw [← gb]; omega)
        have le := Lib.decodeN_le_n' (s.size - pos) (s.get! pos).toNat (s.get! (pos + 1)).toNat (s.get! (pos + 2)).toNat (s.get! (pos + 3)).toNat (by omega)
        have cs := Lib.decodeN_conts (s.size - pos) (s.get! pos).toNat (s.get! (pos + 1)).toNat (s.get! (pos + 2)).toNat (s.get! (pos + 3)).toNat
        rw [← Lib.decode_at] at le cs
        obtain ⟨K, hK⟩ : ∃ K, (Utf8.decode s pos).2 = K := ⟨_, rfl⟩
        rw [hK] at le cs d
        have nb := blank_high _ d.1
        obtain ⟨k, rfl⟩ : ∃ k, g = k + K := ⟨g - K, by omega⟩
        have sk := spansB_skip s K k pos st acc (by omega) (fun j hj => by
          apply blank_high
          obtain ⟨c1, c2, c3, c4⟩ := cs
          have : j = 0 ∨ j = 1 ∨ j = 2 ∨ j = 3 := by omega
          rcases this with rfl | rfl | rfl | rfl
          · rw [Nat.add_zero]; omega
          · have := c1 (by omega); omega
          · have := c2 (by omega); omega
          · have := c3 (by omega); omega)
        rw [sk, if_neg (by omega)]
        unfold Lib.spansFromP
        rw [if_pos lt, nb, hK]
        simp only [Bool.false_eq_true, if_false]
        cases st
        · exact ih k _ _ _ (by omega) (by omega)
        · exact ih k _ _ _ (by omega) (by omega)
    · rw [spansB_end s _ pos st acc lt, Lib.spansFromP_end _ s _ pos st acc lt]
def wordsP (s : ByteArray) : List ByteArray := (Lib.closeSpans s (spansB s s.size 0 none [])).map fun x => s.extract x.1 x.2
theorem fields_words (s : ByteArray) : Lib.goFieldsP blankR s = wordsP s := by
  unfold Lib.goFieldsP Lib.spansOfP wordsP
  rw [spans_same s s.size s.size 0 none [] (by omega) (by omega)]
end Go.Proofs.YthcdcbibbfdjmaaDoor
