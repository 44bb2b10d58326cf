/- Cells and rows (plain; of no program). -/
import Derived.Test.YtkllilehdpdbdaaGreatDoorDfUc
import Derived.Test.YtkllilehdpdbdaaGreatDoorStyPl
namespace Go.Proofs.YtkllilehdpdbdaaGreatDoor
open Go.RowKit
set_option linter.unusedVariables false

structure Cel where
  text : ByteArray
  wide : Int
  st : Sty
deriving DecidableEq
/-- the width of the only cluster of a clean text -/
def oneB (s : ByteArray) : Option Int := match splitB s with
  | [c] => if c.1 = s then some c.2 else none
  | _ => none
def singC (c : Cel) : Bool := decide (c.wide = 1) && decide (oneB c.text = some 1) && decide (countS c.st = c.st)
def pairC (a b : Cel) : Bool := decide (a.wide = 2) && decide (oneB a.text = some 2) && decide (b.wide = 0) && decide (b.text = ⟨#[]⟩) && decide (a.st = b.st) && decide (countS a.st = a.st)
/-- a row is right -/
def rowR : List Cel → Bool
  | [] => true
  | [a] => singC a
  | a :: b :: r => if pairC a b = true then rowR r else if singC a = true then rowR (b :: r) else false
/-- what a row begins with: a pair (2), a single (1), neither (0) -/
def unit1 (a : Cel) (n : Option Cel) : Option Int → Nat
  | none => 0
  | some w => if w < 1 ∨ w ≠ a.wide ∨ countS a.st ≠ a.st then 0 else if w = 2 ∧ n ≠ some ⟨⟨#[]⟩, 0, a.st⟩ then 0 else w.toNat
def unitC : List Cel → Nat
  | [] => 0
  | a :: r => unit1 a r.head? (oneB a.text)
theorem unit_cons (a : Cel) (r : List Cel) : unitC (a :: r) = unit1 a r.head? (oneB a.text) := rfl
theorem unit1_none (a : Cel) (n : Option Cel) : unit1 a n none = 0 := rfl
theorem unit1_some (a : Cel) (n : Option Cel) (w : Int) : unit1 a n (some w) = if w < 1 ∨ w ≠ a.wide ∨ countS a.st ≠ a.st then 0 else if w = 2 ∧ n ≠ some ⟨⟨#[]⟩, 0, a.st⟩ then 0 else w.toNat := rfl
theorem wideC_le (l : List Int) : wideC l = 0 ∨ wideC l = 1 ∨ wideC l = 2 := by
  unfold wideC
  repeat' (first | (split; done) | split)
  all_goals omega
theorem clF_wide : ∀ f l, ∀ c ∈ clF f l, c.2 = 0 ∨ c.2 = 1 ∨ c.2 = 2 := by
  intro f
  induction f with
  | zero => intro l c h; cases h
  | succ f ih =>
    intro l c h
    unfold clF at h
    split at h
    · cases h
    · rcases List.mem_cons.1 h with rfl | h
      · exact wideC_le _
      · exact ih _ c h
theorem oneB_wide (s : ByteArray) (w : Int) (h : oneB s = some w) : w = 0 ∨ w = 1 ∨ w = 2 := by
  unfold oneB at h
  split at h
  · rename_i c e
    split at h
    · cases h
      have m : c ∈ splitB s := by rw [e]; simp
      unfold splitB at m
      obtain ⟨d, hd, rfl⟩ := List.mem_map.1 m
      exact clF_wide _ _ d hd
    · cases h
  · cases h
theorem unit_pair (a b : Cel) (r : List Cel) (h : pairC a b = true) : unitC (a :: b :: r) = 2 := by
  unfold pairC at h
  simp only [Bool.and_eq_true, decide_eq_true_eq] at h
  obtain ⟨⟨⟨⟨⟨h1, h2⟩, h3⟩, h4⟩, h5⟩, h6⟩ := h
  rw [unit_cons, h2, unit1_some]
  rw [if_neg (by rw [h1]; simp [h6]), if_neg ?_]
  · rfl
  · rintro ⟨_, q⟩
    apply q
    obtain ⟨bt, bw, bs⟩ := b
    simp only at h3 h4 h5
    rw [h3, h4, h5]
    rfl
theorem unit_sing (a : Cel) (r : List Cel) (h : singC a = true) : unitC (a :: r) = 1 := by
  unfold singC at h
  simp only [Bool.and_eq_true, decide_eq_true_eq] at h
  obtain ⟨⟨h1, h2⟩, h3⟩ := h
  rw [unit_cons, h2, unit1_some]
  rw [if_neg (by rw [h1]; simp [h3]), if_neg (by simp)]
  rfl
theorem unit_none (a : Cel) (r : List Cel) (h : singC a = false) (hp : ∀ b r', r = b :: r' → pairC a b = false) : unitC (a :: r) = 0 := by
  rw [unit_cons]
  cases e : oneB a.text with
  | none => rfl
  | some w =>
    rw [unit1_some]
    by_cases c : w < 1 ∨ w ≠ a.wide ∨ countS a.st ≠ a.st
    · rw [if_pos c]
    · rw [if_neg c]
      have hw := oneB_wide _ _ e
      simp only [not_or, Decidable.not_not] at c
      have w12 : w = 1 ∨ w = 2 := by omega
      rcases w12 with rfl | rfl
      · exfalso
        unfold singC at h
        rw [e, ← c.2.1, c.2.2] at h
        simp at h
      · refine if_pos ⟨rfl, fun q => ?_⟩
        cases r with
        | nil => cases q
        | cons b r' =>
          have := hp b r' rfl
          simp only [List.head?_cons, Option.some.injEq] at q
          unfold pairC at this
          rw [e, ← c.2.1, c.2.2, q] at this
          simp at this
theorem unit_le (l : List Cel) : unitC l ≤ 2 ∧ (unitC l = 2 → 2 ≤ l.length) := by
  cases l with
  | nil => simp [unitC]
  | cons a r =>
    rw [unit_cons]
    cases e : oneB a.text with
    | none => simp [unit1_none]
    | some w =>
      have hw := oneB_wide _ _ e
      rw [unit1_some]
      split
      · simp
      · split
        · simp
        · rename_i c
          refine ⟨by omega, fun z => ?_⟩
          have w2 : w = 2 := by omega
          cases r with
          | nil => exact absurd ⟨w2, by simp⟩ c
          | cons b r' => simp
/-- the program's way: unit by unit -/
def wholeF : Nat → List Cel → Bool
  | 0, _ => true
  | f + 1, l => if l = [] then true else decide (0 < unitC l) && wholeF f (l.drop (max (unitC l) 1))
theorem whole_row : ∀ f l, l.length ≤ f → wholeF f l = rowR l := by
  intro f
  induction f with
  | zero =>
    intro l h
    have e : l = [] := List.length_eq_zero_iff.1 (by omega)
    subst e
    rfl
  | succ f ih =>
    intro l h
    unfold wholeF
    match l with
    | [] => rfl
    | [a] =>
      rw [if_neg (by simp)]
      cases hs : singC a with
      | true => rw [unit_sing a [] hs]; simp [rowR, hs]; exact ih [] (by simp)
      | false => rw [unit_none a [] hs (by intro b r' e; cases e)]; simp [rowR, hs]
    | a :: b :: r =>
      rw [if_neg (by simp)]
      simp only [List.length_cons] at h
      unfold rowR
      cases hp : pairC a b with
      | true => rw [unit_pair a b r hp]; simp; exact ih r (by omega)
      | false =>
        cases hs : singC a with
        | true => rw [unit_sing a (b :: r) hs]; simp; exact ih (b :: r) (by simp; omega)
        | false => rw [unit_none a (b :: r) hs (by intro b' r' e; cases e; exact hp)]; simp
/-- a screen -/
structure Scr where
  w : Int
  h : Int
  cells : List Cel
  x : Int
  y : Int
  shown : Bool
def sizedI (w h : Int) : Bool := decide (0 ≤ w) && decide (w ≤ 4096) && decide (0 ≤ h) && decide (h ≤ 4096) && decide (w * h ≤ 1048576)
def rowAt (s : Scr) (y : Nat) : List Cel := (s.cells.drop (y * s.w.toNat)).take s.w.toNat
def cursR (s : Scr) : Bool := if s.shown = true then decide (0 ≤ s.x) && decide (s.x < s.w) && decide (0 ≤ s.y) && decide (s.y < s.h) else decide (s.x = 0) && decide (s.y = 0)
def rightS (s : Scr) : Bool := sizedI s.w s.h && decide ((s.cells.length : Int) = s.w * s.h) && ((List.range s.h.toNat).all fun y => rowR (rowAt s y)) && cursR s
end Go.Proofs.YtkllilehdpdbdaaGreatDoor
