/- Answers up to their bound (plain). -/
import Derived.Test.YtkllilehdpdbdaaGreatDoorVtPl
import Derived.Shelf.RegionOpen
namespace Go.Proofs.YtkllilehdpdbdaaGreatDoor
open Go Go.RowKit Go.Sort
set_option linter.unusedVariables false
set_option linter.unusedSimpArgs false
def ansT (h r : ByteArray) : Trm := { newV 6 2 with held := h, reps := r }
def addR (r s : ByteArray) : ByteArray := if r.size + (s.size + 2) ≤ 65536 then r ++ (⟨#[27, 91]⟩ ++ s) else r
theorem reply_ans (h r s : ByteArray) : replyT (ansT h r) s = ansT h (addR r s) := by
  unfold replyT addR
  show (if r.size + (s.size + 2) ≤ 65536 then _ else _) = _
  by_cases c : r.size + (s.size + 2) ≤ 65536
  · rw [if_pos c, if_pos c]; rfl
  · rw [if_neg c, if_neg c]
def okA : ByteArray := ⟨#[48, 110]⟩
def atA : ByteArray := ⟨#[49, 59, 49, 82]⟩
theorem feed_5n (h r : ByteArray) : feedT (ansT h r) [27, 91, 53, 110] = ansT ⟨#[53]⟩ (addR r okA) := by
  rw [← reply_ans]
  kernel_rfl
theorem feed_6n (h r : ByteArray) : feedT (ansT h r) [27, 91, 54, 110] = ansT ⟨#[54]⟩ (addR r atA) := by
  rw [← reply_ans]
  kernel_rfl
theorem feed_app (t : Trm) (a b : List Int) : feedT t (a ++ b) = feedT (feedT t a) b := by unfold feedT; rw [List.foldl_append]
theorem feed_65 (h r : ByteArray) : feedT (ansT h r) [27, 91, 54, 110, 27, 91, 53, 110] = ansT ⟨#[53]⟩ (addR (addR r atA) okA) := by
  rw [show ([27, 91, 54, 110, 27, 91, 53, 110] : List Int) = [27, 91, 54, 110] ++ [27, 91, 53, 110] from rfl, feed_app, feed_6n, feed_5n]
theorem addR_size (r s : ByteArray) : (addR r s).size = if r.size + (s.size + 2) ≤ 65536 then r.size + (s.size + 2) else r.size := by
  unfold addR
  split
  · rw [ByteArray.size_append, ByteArray.size_append]
    show r.size + (2 + s.size) = _
    omega
  · rfl
/-- so many answers -/
def repsK : Nat → ByteArray
  | 0 => zB
  | k + 1 => addR (repsK k) okA
theorem repsK_size : ∀ k, (repsK k).size = 4 * min k 16384
  | 0 => rfl
  | k + 1 => by
    show (addR (repsK k) okA).size = _
    rw [addR_size, repsK_size k]
    show (if 4 * min k 16384 + 4 ≤ 65536 then 4 * min k 16384 + 4 else 4 * min k 16384) = _
    split <;> omega
theorem front_app (r x : ByteArray) (h : 4 ≤ r.size) : (r ++ x).extract 0 4 = r.extract 0 4 := by
  apply ByteArray.ext
  rw [ByteArray.data_extract, ByteArray.data_extract, ByteArray.data_append]
  have hs : r.data.size = r.size := rfl
  apply Array.ext'
  rw [Array.toList_extract, Array.toList_extract, Array.toList_append]
  simp only [List.extract, List.drop_zero]
  rw [List.take_append_of_le_length (by simpa using h)]
theorem front_add (r s : ByteArray) (h : 4 ≤ r.size) : (addR r s).extract 0 4 = r.extract 0 4 := by
  unfold addR
  split
  · exact front_app r _ h
  · rfl
theorem repsK_front : ∀ k, 0 < k → (repsK k).extract 0 4 = ⟨#[27, 91, 48, 110]⟩
  | 0, h => absurd h (Nat.lt_irrefl 0)
  | 1, _ => by decide +kernel
  | k + 2, _ => by
    have s := repsK_size (k + 1)
    show (addR (repsK (k + 1)) okA).extract 0 4 = _
    rw [front_add _ _ (by omega)]
    exact repsK_front (k + 1) (by omega)
/-- what is told in the end -/
def repsE (k : Nat) : ByteArray := addR (addR (repsK k) atA) okA
theorem repsE_size (k : Nat) : (repsE k).size = (if (if 4 * min k 16384 + 6 ≤ 65536 then 4 * min k 16384 + 6 else 4 * min k 16384) + 4 ≤ 65536 then (if 4 * min k 16384 + 6 ≤ 65536 then 4 * min k 16384 + 6 else 4 * min k 16384) + 4 else (if 4 * min k 16384 + 6 ≤ 65536 then 4 * min k 16384 + 6 else 4 * min k 16384)) := by
  unfold repsE
  rw [addR_size, addR_size, repsK_size]
  rfl
theorem repsE_front (k : Nat) (h : 0 < k) : (repsE k).extract 0 4 = ⟨#[27, 91, 48, 110]⟩ := by
  have s := repsK_size k
  have s2 : 4 ≤ (addR (repsK k) atA).size := by rw [addR_size]; split <;> omega
  unfold repsE
  rw [front_add _ _ s2, front_add _ _ (by omega)]
  exact repsK_front k h
theorem feed_k (k : Nat) (h r : ByteArray) (e : r = repsK k) : feedT (ansT h r) [27, 91, 53, 110] = ansT ⟨#[53]⟩ (repsK (k + 1)) := by
  rw [feed_5n, e]
  rfl
end Go.Proofs.YtkllilehdpdbdaaGreatDoor
