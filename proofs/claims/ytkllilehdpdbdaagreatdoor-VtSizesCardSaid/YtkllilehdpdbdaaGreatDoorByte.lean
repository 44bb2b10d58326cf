/- Bytes as eight bits: what the walk's operations on them come to (plain; of no program). -/
import Derived.Test.YtkllilehdpdbdaaGreatDoorBase
import Derived.Laws.BitsAllLaws
import Derived.Laws.ShiftsVarLaws
namespace Go.Proofs.YtkllilehdpdbdaaGreatDoor
open Go.RowKit
set_option linter.unusedVariables false

abbrev B8 := BitVec 8
/-- a byte as the walk's number -/
abbrev bI (a : B8) : Int := (a.toNat : Int)

theorem bI_lt (a : B8) : 0 ≤ bI a ∧ bI a < 256 := ⟨Int.natCast_nonneg _, by have := a.isLt; show (a.toNat : Int) < 256; omega⟩
theorem bI_inj {a b : B8} (h : bI a = bI b) : a = b := BitVec.eq_of_toNat_eq (by exact_mod_cast h)
theorem bI_of (n : Int) (h0 : 0 ≤ n) (h1 : n < 256) : ∃ a : B8, bI a = n := ⟨BitVec.ofNat 8 n.toNat, by show ((BitVec.ofNat 8 n.toNat).toNat : Int) = n; rw [BitVec.toNat_ofNat]; omega⟩

@[go_sem] theorem b8_and (a b : B8) : bits .and .u8 (bI a) (bI b) = bI (a &&& b) := by
  rw [u8_and_nat _ _ a.isLt b.isLt, ← BitVec.toNat_and]
@[go_sem] theorem b8_or (a b : B8) : bits .or .u8 (bI a) (bI b) = bI (a ||| b) := by
  rw [u8_or_nat _ _ a.isLt b.isLt, ← BitVec.toNat_or]
@[go_sem] theorem b8_andNot (a b : B8) : bits .andNot .u8 (bI a) (bI b) = bI (a &&& ~~~b) := by
  rw [u8_andNot_nat _ _ a.isLt b.isLt]
  show _ = ((a &&& ~~~b).toNat : Int)
  rw [BitVec.toNat_and, BitVec.toNat_not]
@[go_sem] theorem b8_and_lit (a : B8) (n : Nat) (h : n < 256) : bits .and .u8 (bI a) (n : Int) = bI (a &&& BitVec.ofNat 8 n) := by
  rw [u8_and_nat _ _ a.isLt h]
  show _ = ((a &&& BitVec.ofNat 8 n).toNat : Int)
  rw [BitVec.toNat_and, BitVec.toNat_ofNat, Nat.mod_eq_of_lt h]

/-- the bit number i -/
theorem b8_bit (a : B8) (i : Nat) (h : i < 8) : bits .and .u8 (bI a / 2 ^ i) 1 = if a.getLsbD i = true then 1 else 0 := by
  have e : bI a / 2 ^ i = ((a.toNat / 2 ^ i : Nat) : Int) := by
    show (a.toNat : Int) / 2 ^ i = _
    rw [Int.natCast_ediv]
    congr 1
  have l : a.toNat / 2 ^ i < 256 := Nat.lt_of_le_of_lt (Nat.div_le_self _ _) a.isLt
  rw [e, show (1 : Int) = ((1 : Nat) : Int) from rfl, u8_and_nat _ _ l (by decide), Nat.and_one_is_mod]
  have t : a.getLsbD i = decide (a.toNat / 2 ^ i % 2 = 1) := by
    show a.toNat.testBit i = _
    rw [Nat.testBit_eq_decide_div_mod_eq]
  rw [t]
  by_cases c : a.toNat / 2 ^ i % 2 = 1
  · rw [c]; simp
  · have : a.toNat / 2 ^ i % 2 = 0 := by omega
    rw [this]; simp
end Go.Proofs.YtkllilehdpdbdaaGreatDoor
