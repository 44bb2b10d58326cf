/- Bits of a tape's numbers and of its sum (plain). -/
import Derived.Test.YtmaofighbpnbiaaGreatDoorYTpP
import Derived.Test.YtmaofighbpnbiaaGreatDoorTaCC
namespace Go.Proofs.YtmaofighbpnbiaaGreatDoor
open Go Go.RowKit Go.Sort
set_option linter.unusedVariables false
set_option linter.unusedSimpArgs false
theorem or_128 (n : Nat) : bits .or .u8 ((n % 256 : Nat) : Int) 128 = ((128 + n % 128 : Nat) : Int) := by
 have h : ∀ a : Fin 256, bits .or .u8 ((a.val : Nat) : Int) 128 = ((128 + a.val % 128 : Nat) : Int) := by decide +kernel
 have := h ⟨n % 256, by omega⟩
 simp only at this
 rw [this]
 omega
theorem and_127 (n : Nat) (h : n < 256) : bits .and .u8 (n : Int) 127 = ((n % 128 : Nat) : Int) := by
 have q : ∀ a : Fin 256, bits .and .u8 ((a.val : Nat) : Int) 127 = ((a.val % 128 : Nat) : Int) := by decide +kernel
 exact q ⟨n, h⟩
theorem wrapsT_u32 (n : Int) (h₀ : 0 ≤ n) (h₁ : n < 2 ^ 32) : IntKind.u32.wrap n = n := by rw [IntKind.wrap_u32]; omega
theorem wrapsT_i64 (n : Int) (h₀ : 0 ≤ n) (h₁ : n < 2 ^ 62) : IntKind.i64.wrap n = n := by
 have e : (2 : Int) ^ 62 = 4611686018427387904 := by decide
 rw [e] at h₁
 exact IntWalk.i64_in _ (by omega)
theorem or_digit (a d i : Nat) (ha : a < 128 ^ i) (hd : d < 128) (hi : i ≤ 5) : bits .or .i64 (a : Int) ((d * 128 ^ i : Nat) : Int) = ((a + d * 128 ^ i : Nat) : Int) := by
 have p : 128 ^ i ≤ 128 ^ 5 := Nat.pow_le_pow_right (by decide) hi
 have p5 : 128 ^ 5 = 34359738368 := by decide
 have m : d * 128 ^ i ≤ 127 * 34359738368 := Nat.mul_le_mul (by omega) (by omega)
 have e : 128 ^ i = 2 ^ (7 * i) := by rw [Nat.pow_mul]
 have z : (2 : Nat) ^ 62 = 4611686018427387904 := by decide
 rw [(bits_nat .i64 62 (by decide) wrapsT_i64 a (d * 128 ^ i) (by omega) (by omega)).2, Nat.or_comm]
 congr 1
 rw [e] at ha ⊢
 rw [Nat.mul_comm d, ← Nat.two_pow_add_eq_or_of_lt ha d, Nat.add_comm]
theorem or_sum (a c : Nat) (ha : a < 65536) (hc : c < 65536) : bits .or .u32 ((65536 * c : Nat) : Int) (a : Int) = ((65536 * c + a : Nat) : Int) := by
 rw [(bits_nat .u32 32 (by decide) wrapsT_u32 (65536 * c) a (by omega) (by omega)).2]
 congr 1
 exact (Nat.two_pow_add_eq_or_of_lt (i := 16) ha c).symm
end Go.Proofs.YtmaofighbpnbiaaGreatDoor
