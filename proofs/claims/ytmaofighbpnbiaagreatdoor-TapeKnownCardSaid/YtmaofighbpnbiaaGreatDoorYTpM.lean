/- Tapes: their frames, what is shown at a time (plain; of no program). -/
import Derived.Test.YtmaofighbpnbiaaGreatDoorYTpP
namespace Go.Proofs.YtmaofighbpnbiaaGreatDoor
set_option linter.unusedVariables false
set_option linter.unusedSimpArgs false
theorem check_parts {l : List Frm} (h : checkT l = 0) : longB l = false ∧ l.length ≤ 16384 ∧ timedF 0 l = true := by
 unfold checkT at h
 have mn : manyB l = false := by cases q : manyB l with | false => rfl | true => rw [q] at h; simp at h
 rw [mn] at h
 have tm : timedB l = true := by cases q : timedB l with | true => rfl | false => rw [q] at h; simp at h
 rw [manyB, Bool.or_eq_false_iff] at mn
 exact ⟨mn.1, by have := of_decide_eq_false mn.2; omega, tm⟩
theorem check_of {l : List Frm} (h1 : longB l = false) (h2 : l.length ≤ 16384) (h3 : timedF 0 l = true) : checkT l = 0 := by
 unfold checkT manyB timedB
 rw [h1, decide_eq_false (show ¬ 16384 < l.length by omega), h3]
 rfl
def shiftL (b : Int) (l : List Frm) : List Frm := l.map fun f => ⟨f.at_ + b, f.bs⟩
def lastAt : List Frm → Int
 | [] => 0
 | [f] => f.at_
 | _ :: g :: l => lastAt (g :: l)
theorem long_app (a b : List Frm) : longB (a ++ b) = (longB a || longB b) := by unfold longB; rw [List.any_append]
theorem long_shift (b : Int) (l : List Frm) : longB (shiftL b l) = longB l := by
 unfold longB shiftL
 rw [List.any_map]
 rfl
def uptoL (l : List Frm) (time : Int) : Nat := (l.filter fun f => decide (f.at_ ≤ time)).length
theorem timed_filter (time : Int) : ∀ (l : List Frm) (w : Int), timedF w l = true → l.filter (fun f => decide (f.at_ ≤ time)) = l.take (uptoL l time)
 | [], _, _ => rfl
 | f :: l, w, ht => by
  rw [timedF, Bool.and_eq_true] at ht
  have t1 := of_decide_eq_true ht.1
  unfold uptoL
  by_cases c : f.at_ ≤ time
  ·rw [List.filter_cons, if_pos (decide_eq_true c), List.length_cons, List.take_succ_cons]
   have := timed_filter time l f.at_ ht.2
   unfold uptoL at this
   rw [this, List.length_take]
   rw [show min (l.filter fun f => decide (f.at_ ≤ time)).length l.length = (l.filter fun f => decide (f.at_ ≤ time)).length from Nat.min_eq_left (List.length_filter_le _ _)]
  ·have none : ∀ (l : List Frm) (w : Int), timedF w l = true → time < w → l.filter (fun f => decide (f.at_ ≤ time)) = [] := by
    intro l
    induction l with
    | nil => intro _ _ _; rfl
    | cons g l ih =>
     intro w ht lt
     rw [timedF, Bool.and_eq_true] at ht
     have t1 := of_decide_eq_true ht.1
     rw [List.filter_cons, if_neg (by simp; omega), ih g.at_ ht.2 (by omega)]
   rw [List.filter_cons, if_neg (by simpa using c), none l f.at_ ht.2 (by omega)]
   rfl
def playT (w h : Int) (l : List Frm) : Trm := feedT (newV w h) (l.flatMap (·.bs))
theorem play_app (w h : Int) (a b : List Frm) : playT w h (a ++ b) = feedT (playT w h a) (b.flatMap (·.bs)) := by
 unfold playT feedT
 rw [List.flatMap_append, List.foldl_append]
theorem shift_zero (l : List Frm) : shiftL 0 l = l := by
 unfold shiftL
 conv => rhs; rw [← List.map_id l]
 refine List.map_congr_left fun f _ => ?_
 simp
theorem shift_len (b : Int) (l : List Frm) : (shiftL b l).length = l.length := by unfold shiftL; rw [List.length_map]
end Go.Proofs.YtmaofighbpnbiaaGreatDoor
