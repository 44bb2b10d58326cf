/- A terminal's size stays (plain). -/
import Derived.Test.YtkllilehdpdbdaaGreatDoorVtPl
namespace Go.Proofs.YtkllilehdpdbdaaGreatDoor
open Go.RowKit
set_option linter.unusedVariables false
set_option linter.unusedSimpArgs false
theorem Dim.same (t : Trm) : Dim t t := ⟨rfl, rfl⟩
theorem dim_reverse (t : Trm) : Dim t (reverseT t) := by
  unfold reverseT
  split
  · exact dim_scroll _ _ _ _
  · exact ⟨rfl, rfl⟩
theorem dim_erase (t : Trm) (f e : Int) : Dim t (eraseT t f e) := by
  unfold eraseT
  simp only
  split
  · exact ((dim_split _ _ _).trans (dim_split _ _ _)).trans (dim_fill _ _ _)
  · exact (dim_split _ _ _).trans (dim_fill _ _ _)
theorem dim_tab (t : Trm) (d : Int) : Dim t (tabT t d) := ⟨rfl, rfl⟩
theorem dim_control (t : Trm) (r : Int) : Dim t (controlT t r) := by
  have h0 : Dim t { t with opn := -1 } := ⟨rfl, rfl⟩
  unfold controlT
  simp only
  repeat' split
  all_goals first
  | exact h0
  | exact ⟨rfl, rfl⟩
  | exact (h0.trans (dim_index _)).trans ⟨rfl, rfl⟩

theorem dim_reply (t : Trm) (s : ByteArray) : Dim t (replyT t s) := by unfold replyT; split <;> exact ⟨rfl, rfl⟩
theorem dim_report (t : Trm) (k : Int) : Dim t (reportT t k) := by
  unfold reportT
  split
  · exact dim_reply _ _
  · split
    · exact dim_reply _ _
    · exact Dim.same t
theorem dim_mode (t : Trm) (k : Int) (on : Bool) : Dim t (modeT t k on) := by
  unfold modeT
  simp only
  repeat' split
  all_goals first
  | exact ⟨rfl, rfl⟩
  | exact (Dim.trans (b := { (allW { t with pend := false, alt := on, cells := t.away, away := t.cells }) with sav := t.cur }) ⟨rfl, rfl⟩ (dim_fill _ _ _))
theorem dim_modes (on : Bool) : ∀ (l : List Int) (t : Trm), Dim t (modesT t on l)
  | [], t => Dim.same t
  | k :: l, t => (dim_mode t k on).trans (dim_modes on l _)
theorem dim_tabs (t : Trm) (d : Int) : ∀ n, Dim t (tabsT t d n)
  | 0 => Dim.same t
  | n + 1 => (dim_tabs t d n).trans (dim_tab _ _)
theorem dim_lines (t : Trm) (n : Int) : Dim t (linesT t n) := by
  unfold linesT
  split
  · exact (dim_scroll _ _ _ _).trans ⟨rfl, rfl⟩
  · exact Dim.same t
theorem dim_eraseLine (t : Trm) (k : Int) : Dim t (eraseLineT t k) := by
  unfold eraseLineT
  repeat' split
  all_goals first
  | exact dim_erase _ _ _
  | exact Dim.same t
theorem dim_eraseScreen (t : Trm) (k : Int) : Dim t (eraseScreenT t k) := by
  unfold eraseScreenT
  repeat' split
  all_goals first
  | exact dim_erase _ _ _
  | exact Dim.same t
theorem dim_margins (t : Trm) (n : Nums) : Dim t (marginsT t n) := by
  unfold marginsT
  simp only
  repeat' split
  all_goals exact ⟨rfl, rfl⟩
theorem dim_act? (t : Trm) (b : Int) (n : Nums) : ∀ t', actT? t b n = some t' → Dim t t' := by
  unfold actT?
  simp only
  repeat (refine ite_opt (P := Dim t) (by first | exact ⟨rfl, rfl⟩ | exact dim_tabs _ _ _ | exact dim_eraseScreen _ _ | exact dim_eraseLine _ _ | exact dim_lines _ _ | exact dim_shift _ _ | exact dim_scroll _ _ _ _ | exact dim_erase _ _ _ | exact dim_margins _ _) ?_)
  intro t' h
  cases h
theorem dim_act (t : Trm) (b : Int) (n : Nums) : Dim t (actT t b n) := by
  unfold actT
  split
  · repeat' split
    all_goals exact ⟨rfl, rfl⟩
  · split
    · exact ⟨rfl, rfl⟩
    · cases h : actT? t b n with
      | none => exact Dim.same t
      | some t' =>
        have := dim_act? t b n t' h
        exact ⟨this.1, this.2⟩
theorem dim_sequence (t : Trm) (b : Int) : Dim t (sequenceT t b) := by
  have h0 : Dim t { t with opn := -1 } := ⟨rfl, rfl⟩
  unfold sequenceT
  simp only
  repeat' split
  all_goals first
  | exact h0
  | exact h0.trans (dim_modes _ _ _)
  | exact ⟨rfl, rfl⟩
  | exact h0.trans (dim_report _ _)
  | exact h0.trans (dim_reply _ _)
  | exact h0.trans (dim_act _ _ _)
theorem dim_runeA (t : Trm) (r : Int) : Dim t (runeT t r) := by
  unfold runeT
  split
  · exact ⟨rfl, rfl⟩
  · split
    · exact dim_control t r
    · split
      · exact dim_print _ _
      · exact ⟨rfl, rfl⟩
theorem dim_runes : ∀ (l : List Int) (t : Trm), Dim t (runesT t l)
  | [], t => ⟨rfl, rfl⟩
  | r :: l, t => (dim_runeA t r).trans (dim_runes l _)
theorem dim_takeG (t : Trm) (b : Int) : Dim t (takeG t b) := Dim.trans (b := { t with kept := (certB (pushB t.kept b)).2 }) ⟨rfl, rfl⟩ (dim_runes _ _)
theorem dim_titled (t : Trm) : Dim t (titledT t) := by
  unfold titledT
  simp only
  split <;> exact ⟨rfl, rfl⟩
theorem dim_within (t : Trm) (b : Int) : Dim t (withinT t b) := by
  unfold withinT
  repeat' split
  all_goals first
  | exact ⟨rfl, rfl⟩
  | exact (dim_titled t).trans ⟨rfl, rfl⟩
theorem dim_escaped (t : Trm) (b : Int) : Dim t (escapedT t b) := by
  have key : ∀ u : Trm, Dim t u → Dim t (if u.w * u.h = 0 then u else if b = 69 then { (indexT (setX u 0)) with pend := false } else if b = 68 then { (indexT u) with pend := false } else if b = 77 then { (reverseT u) with pend := false } else if b = 72 then { u with stops := u.stops.set u.cur.x.toNat true } else u) := by
    intro u hu
    repeat' split
    · exact hu
    · exact hu.trans (Dim.trans (b := setX u 0) ⟨rfl, rfl⟩ (Dim.trans (dim_index _) ⟨rfl, rfl⟩))
    · exact hu.trans (Dim.trans (dim_index _) ⟨rfl, rfl⟩)
    · exact hu.trans (Dim.trans (dim_reverse _) ⟨rfl, rfl⟩)
    · exact hu.trans ⟨rfl, rfl⟩
    · exact hu
  unfold escapedT
  simp only
  refine key _ ?_
  repeat' split
  all_goals exact ⟨rfl, rfl⟩
theorem dim_takeE (t : Trm) (b : Int) : Dim t (takeE t b) := by
  unfold takeE
  repeat' split
  · exact ⟨rfl, rfl⟩
  · exact dim_control t b
  · exact ⟨rfl, rfl⟩
  · exact Dim.trans (b := { t with state := 0 }) ⟨rfl, rfl⟩ (dim_takeG _ _)
  · exact ⟨rfl, rfl⟩
  · exact Dim.trans (b := { t with state := 0 }) ⟨rfl, rfl⟩ (dim_sequence _ _)
  · exact ⟨rfl, rfl⟩
  · exact ⟨rfl, rfl⟩
  · exact dim_escaped t b
theorem dim_take (t : Trm) (b : Int) : Dim t (takeT t b) := by
  unfold takeT
  repeat' split
  · exact dim_takeG t b
  · exact ⟨rfl, rfl⟩
  · exact Dim.trans (b := { t with state := 1 }) ⟨rfl, rfl⟩ (dim_takeE _ _)
  · exact (dim_titled t).trans ⟨rfl, rfl⟩
  · exact ⟨rfl, rfl⟩
  · exact dim_within t b
  · exact dim_takeE t b
theorem dim_feed : ∀ (l : List Int) (t : Trm), Dim t (feedT t l)
  | [], t => ⟨rfl, rfl⟩
  | b :: l, t => (dim_take t b).trans (dim_feed l _)
end Go.Proofs.YtkllilehdpdbdaaGreatDoor
