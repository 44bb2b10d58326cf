/- A tape is read: where the reader stands, and what its numbers are (plain). -/
import Derived.Test.YtmaofighbpnbiaaGreatDoorYTpT
namespace Go.Proofs.YtmaofighbpnbiaaGreatDoor
set_option linter.unusedVariables false
set_option linter.unusedSimpArgs false
theorem byt_getD {D : List Int} (h : Byt D) (k : Nat) : 0 ≤ D.getD k 0 ∧ D.getD k 0 < 256 := by
 rw [List.getD_eq_getElem?_getD]
 cases e : D[k]? with
 | none => exact ⟨by decide, by decide⟩
 | some b => exact h b (List.mem_of_getElem? e)
theorem fail_at (r : RdT) (c p : Int) : (failR r c p).at_ = r.at_ := by unfold failR; split <;> rfl
theorem take_at {D : List Int} {r : RdT} {n : Int} (h : r.at_ ≤ D.length) (h0 : 0 ≤ n) : (takeR D r n).2.at_ ≤ D.length := by
 unfold takeR
 split
 ·exact h
 ·split
  ·rw [fail_at]; exact h
  ·show r.at_ + n.toNat ≤ D.length; omega
theorem numRF_at (D : List Int) (first : Nat) (most : Int) : ∀ (k i : Nat) (n : Int) (r : RdT), r.at_ ≤ D.length → (numRF D first most k i n r).2.at_ ≤ D.length
 | 0, i, n, r, h => by rw [numRF, fail_at]; exact h
 | k + 1, i, n, r, h => by
  rw [numRF]
  split
  ·exact h
  ·split
   ·rw [fail_at]; exact h
   ·rename_i lt
    have lt : r.at_ + 1 ≤ D.length := by omega
    split
    ·split
     ·rw [fail_at]; exact lt
     ·exact lt
    ·exact numRF_at D first most k (i + 1) _ _ lt
theorem numR_at {D : List Int} {r : RdT} (most : Int) (h : r.at_ ≤ D.length) : (numR D r most).2.at_ ≤ D.length := numRF_at D r.at_ most 6 0 0 r h
theorem numRF_rng (D : List Int) (rng : Byt D) (first : Nat) (most : Int) (m0 : 0 ≤ most) : ∀ (k i : Nat) (n : Int) (r : RdT), 0 ≤ n → 0 ≤ (numRF D first most k i n r).1 ∧ (numRF D first most k i n r).1 ≤ most
 | 0, i, n, r, h => by rw [numRF]; exact ⟨Int.le_refl _, m0⟩
 | k + 1, i, n, r, h => by
  have b := byt_getD rng r.at_
  have p : (0 : Int) ≤ 128 ^ i := Int.le_of_lt (Int.pow_pos (by decide))
  rw [numRF]
  split
  ·exact ⟨Int.le_refl _, m0⟩
  ·split
   ·exact ⟨Int.le_refl _, m0⟩
   ·split
    ·split
     ·exact ⟨Int.le_refl _, m0⟩
     ·rename_i z
      have q : 0 ≤ D.getD r.at_ 0 * 128 ^ i := Int.mul_nonneg b.1 p
      exact ⟨by show 0 ≤ n + D.getD r.at_ 0 * 128 ^ i; omega, by show n + D.getD r.at_ 0 * 128 ^ i ≤ most; omega⟩
    ·have q : 0 ≤ D.getD r.at_ 0 % 128 * 128 ^ i := Int.mul_nonneg (by omega) p
     exact numRF_rng D rng first most m0 k (i + 1) _ _ (by omega)
theorem numR_rng {D : List Int} (rng : Byt D) (r : RdT) {most : Int} (m0 : 0 ≤ most) : 0 ≤ (numR D r most).1 ∧ (numR D r most).1 ≤ most := numRF_rng D rng r.at_ most m0 6 0 0 r (Int.le_refl _)
theorem numR_no {D : List Int} {r : RdT} (most : Int) (h : r.code ≠ 0) : numR D r most = (0, r) := by unfold numR; rw [numRF, if_pos h]
theorem takeR_no {D : List Int} {r : RdT} (n : Int) (h : r.code ≠ 0) : takeR D r n = ([], r) := by unfold takeR; rw [if_pos h]
theorem takeR_short {D : List Int} {r : RdT} {n : Int} (h : r.code = 0) (s : (D.length : Int) - r.at_ < n) : takeR D r n = ([], ⟨r.at_, 6, D.length⟩) := by unfold takeR; rw [if_neg (by simp [h]), if_pos s]; unfold failR; rw [if_pos h]
theorem takeR_some {D : List Int} {r : RdT} {n : Nat} (h : r.code = 0) (s : r.at_ + n ≤ D.length) : takeR D r n = ((D.drop r.at_).take n, ⟨r.at_ + n, 0, r.spot⟩) := by
 unfold takeR
 rw [if_neg (by simp [h]), if_neg (by omega), h]
 rfl
theorem take_len {D : List Int} {a n : Nat} (h : a + n ≤ D.length) : ((D.drop a).take n).length = n := by rw [List.length_take, List.length_drop]; omega
theorem take_one {D : List Int} {a : Nat} (h : a < D.length) : (D.drop a).take 1 = [D.getD a 0] := by
 rw [List.drop_eq_getElem_cons h, List.getD_eq_getElem?_getD, List.getElem?_eq_getElem h]
 rfl
theorem take_byt {D : List Int} (h : Byt D) (a n : Nat) : Byt ((D.drop a).take n) := fun b m => h b (List.mem_of_mem_drop (List.mem_of_mem_take m))
theorem frsR_zero (D : List Int) (last : Int) (r : RdT) : frsR D 0 last r = ([], r) := rfl
theorem frsR_no {D : List Int} (k : Nat) (last : Int) {r : RdT} (h : r.code ≠ 0) : frsR D k last r = ([], r) := by
 cases k with
 | zero => rfl
 | succ k => rw [frsR, if_pos h]
theorem frsR_step {D : List Int} (k : Nat) (last : Int) {r : RdT} (h : r.code = 0) : frsR D (k + 1) last r = (⟨last + (numR D r (1099511627776 - last)).1, (takeR D (numR D (numR D r (1099511627776 - last)).2 1099511627776).2 (numR D (numR D r (1099511627776 - last)).2 1099511627776).1).1⟩ :: (frsR D k (last + (numR D r (1099511627776 - last)).1) (takeR D (numR D (numR D r (1099511627776 - last)).2 1099511627776).2 (numR D (numR D r (1099511627776 - last)).2 1099511627776).1).2).1, (frsR D k (last + (numR D r (1099511627776 - last)).1) (takeR D (numR D (numR D r (1099511627776 - last)).2 1099511627776).2 (numR D (numR D r (1099511627776 - last)).2 1099511627776).1).2).2) := by
 rw [frsR, if_neg (by simp [h])]
end Go.Proofs.YtmaofighbpnbiaaGreatDoor
