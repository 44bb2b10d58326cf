/- The digits of a number: the reference's function. -/
import Derived.Test.YthcdcbibbfdjmaaDoorName
namespace Go.Proofs.YthcdcbibbfdjmaaDoor
open Go.RowKit

def dgt (d : Nat) : UInt8 := if d < 10 then (48 + d).toUInt8 else (87 + d).toUInt8
/-- the last j digits of N to the base b -/
def digL (b N : Nat) : Nat → List UInt8
  | 0 => []
  | j + 1 => dgt (N / b ^ j % b) :: digL b N j
theorem digL_len (b N j : Nat) : (digL b N j).length = j := by induction j with | zero => rfl | succ j ih => simp [digL, ih]

def allB : ByteArray := ⟨#[48, 49, 50, 51, 52, 53, 54, 55, 56, 57, 97, 98, 99, 100, 101, 102]⟩

theorem all_at (d : Nat) (h : d < 16) : allB.extract d (d + 1) = ⟨#[dgt d]⟩ := by
  rcases sixteen d h with rfl | rfl | rfl | rfl | rfl | rfl | rfl | rfl | rfl | rfl | rfl | rfl | rfl | rfl | rfl | rfl <;> rfl

theorem cat_mk (a b : List UInt8) : (⟨a.toArray⟩ : ByteArray) ++ ⟨b.toArray⟩ = ⟨(a ++ b).toArray⟩ := by
  apply ByteArray.ext
  simp [ByteArray.data_append]

def szOf : Value → Nat | .string b => b.size | _ => 0

theorem mk_size (l : List UInt8) : (⟨l.toArray⟩ : ByteArray).size = l.length := by simp [ByteArray.size]

set_option maxHeartbeats 2000000 in
theorem ref_digits16 (N : Nat) (h : N < 16777216) : ∀ w, Calls Tryd.prog 90 #[.int .i64 N, .int .i64 16, .int .i64 6] w fun e w' => e = .returned (.string ⟨(digL 16 N 6).toArray⟩) ∧ Below w.heap.size w w' := by
  intro w
  go_enter Tryd.func90, Tryd.ntmps90
  go_wp2_with fail
  go_loopw [0, 8] (fun n s wr => ∃ j m : Nat, j ≤ 6 ∧ m = N / 16 ^ j ∧ n = .int .i64 (m : Int) ∧ s = .string ⟨(digL 16 N j).toArray⟩ ∧ Below w.heap.size w wr) (fun _ s _ => 6 - szOf s)
  case atStart => exact ⟨0, N, by omega, by simp, rfl, rfl, Below.refl _ _⟩
  case round =>
    obtain ⟨j, m, hj, hm, rfl, rfl, hb⟩ := hrel
    have HM := Lib.hid hm
    have hl := digL_len 16 N j
    have bm : m ≤ N := by rw [hm]; exact Nat.div_le_self _ _
    by_cases c : j < 6
    · have sz : (⟨(digL 16 N j).toArray⟩ : ByteArray).size = j := by rw [mk_size, hl]
      have SZ := Lib.hid sz
      have e1 : ((⟨(digL 16 N j).toArray⟩ : ByteArray).size : Int) < 6 := by rw [sz]; omega
      have nx : digL 16 N (j + 1) = dgt (m % 16) :: digL 16 N j := by rw [digL, hm]
      have sl := all_at (m % 16) (by omega)
      have NX := Lib.hid nx; have SL := Lib.hid sl
      have nm : m / 16 = N / 16 ^ (j + 1) := by rw [hm, Nat.div_div_eq_div_mul, Nat.pow_succ]
      have NM := Lib.hid nm
      clear sz hl nx sl nm hm
      generalize hS : (⟨(digL 16 N j).toArray⟩ : ByteArray) = S at *
      have HS := Lib.hid hS
      clear hS
      rcases Nat.eq_zero_or_pos m with z | z
      · subst z
        go_wp2_with fail
        go_quiet (fail)
        go_wp2_with fail
        have key : allB.extract 0 1 ++ S = ⟨(digL 16 N (j + 1)).toArray⟩ := by
          have s1 := SL.out
          rw [show 0 % 16 = 0 from rfl, show 0 + 1 = 1 from rfl] at s1
          rw [s1, ← HS.out, NX.out]; exact cat_mk [_] _
        have kz : (allB.extract 0 1 ++ S).size = j + 1 := by rw [key, mk_size, digL_len]
        go_roundw
        case rel => exact ⟨j + 1, 0, by omega, by rw [← NM.out], rfl, congrArg Value.string key, below_drewN hb _⟩
        case measure => show 6 - (allB.extract 0 1 ++ S).size < 6 - S.size; rw [kz, SZ.out]; omega
      · go_wp2_with fail
        go_quiet (fail)
        go_wp2_with fail
        have key : allB.extract (m % 16) (m % 16 + 1) ++ S = ⟨(digL 16 N (j + 1)).toArray⟩ := by
          rw [SL.out, ← HS.out, NX.out]; exact cat_mk [_] _
        have kz : (allB.extract (m % 16) (m % 16 + 1) ++ S).size = j + 1 := by rw [key, mk_size, digL_len]
        go_roundw
        case rel => exact ⟨j + 1, m / 16, by omega, NM.out, by go_num, congrArg Value.string key, below_drewN hb _⟩
        case measure => show 6 - (allB.extract (m % 16) (m % 16 + 1) ++ S).size < 6 - S.size; rw [kz, SZ.out]; omega
    · have e6 : j = 6 := by omega
      subst e6
      have z : m = 0 := by rw [hm]; exact Nat.div_eq_of_lt (by omega)
      have sz : (⟨(digL 16 N 6).toArray⟩ : ByteArray).size = 6 := by rw [mk_size, hl]
      subst z
      have e1 : decide (((⟨(digL 16 N 6).toArray⟩ : ByteArray).size : Int) < 6) = false := by rw [sz]; rfl
      have e2 : (((⟨(digL 16 N 6).toArray⟩ : ByteArray).size : Int) == 0) = false := by rw [sz]; rfl
      clear sz hl hm c hj
      generalize hS : (⟨(digL 16 N 6).toArray⟩ : ByteArray) = S at *
      have HS := Lib.hid hS
      clear hS
      go_wp2_with fail
      go_ret
      exact ⟨ret_str HS.out.symm, hb⟩

def nd (N : Nat) : Nat := if N < 10 then 1 else if N < 100 then 2 else 3

set_option maxHeartbeats 2000000 in
theorem ref_digits10 (N : Nat) (h : N < 256) : ∀ w, Calls Tryd.prog 90 #[.int .i64 N, .int .i64 10, .int .i64 0] w fun e w' => e = .returned (.string ⟨(digL 10 N (nd N)).toArray⟩) ∧ Below w.heap.size w w' := by
  intro w
  have nd3 : nd N ≤ 3 := by unfold nd; split <;> (try split) <;> omega
  go_enter Tryd.func90, Tryd.ntmps90
  go_wp2_with fail
  go_loopw [0, 8] (fun n s wr => ∃ j m : Nat, j ≤ nd N ∧ m = N / 10 ^ j ∧ n = .int .i64 (m : Int) ∧ s = .string ⟨(digL 10 N j).toArray⟩ ∧ Below w.heap.size w wr) (fun _ s _ => nd N - szOf s)
  case atStart => exact ⟨0, N, by omega, by simp, rfl, rfl, Below.refl _ _⟩
  case round =>
    obtain ⟨j, m, hj, hm, rfl, rfl, hb⟩ := hrel
    have HM := Lib.hid hm
    have hl := digL_len 10 N j
    have bm : m ≤ N := by rw [hm]; exact Nat.div_le_self _ _
    have tst : (j < nd N ↔ (0 < m ∨ j = 0)) := by
      rw [hm]
      have : j = 0 ∨ j = 1 ∨ j = 2 ∨ j = 3 := by omega
      unfold nd at hj ⊢
      rcases this with rfl | rfl | rfl | rfl
      · simp; split <;> (try split) <;> omega
      · split <;> (try split) <;> omega
      · split <;> (try split) <;> omega
      · split <;> (try split) <;> omega
    by_cases c : j < nd N
    · have sz : (⟨(digL 10 N j).toArray⟩ : ByteArray).size = j := by rw [mk_size, hl]
      have SZ := Lib.hid sz
      have nx : digL 10 N (j + 1) = dgt (m % 10) :: digL 10 N j := by rw [digL, hm]
      have sl := all_at (m % 10) (by omega)
      have NX := Lib.hid nx; have SL := Lib.hid sl
      have nm : m / 10 = N / 10 ^ (j + 1) := by rw [hm, Nat.div_div_eq_div_mul, Nat.pow_succ]
      have NM := Lib.hid nm
      have HC := Lib.hid c
      have e0 : decide (((⟨(digL 10 N j).toArray⟩ : ByteArray).size : Int) < 0) = false := by simp
      have e9 : (⟨(digL 10 N j).toArray⟩ : ByteArray).size ≤ 3 := by rw [sz]; omega
      rcases Nat.eq_zero_or_pos m with z | z
      · have j0 : j = 0 := by have := tst.1 c; omega
        have e1 : (((⟨(digL 10 N j).toArray⟩ : ByteArray).size : Int) == 0) = true := by rw [sz, j0]; rfl
        have q5 : IntKind.i64.wrap 1 = 1 := IntWalk.i64_in _ (by omega)
        clear sz hl nx sl nm hm tst c hj
        subst z
        generalize hS : (⟨(digL 10 N j).toArray⟩ : ByteArray) = S at *
        have HS := Lib.hid hS
        clear hS
        go_wp2_with fail
        go_quiet (fail)
        go_wp2_with fail
        have key : allB.extract 0 1 ++ S = ⟨(digL 10 N (j + 1)).toArray⟩ := by
          have s1 := SL.out
          rw [show 0 % 10 = 0 from rfl, show 0 + 1 = 1 from rfl] at s1
          rw [s1, ← HS.out, NX.out]; exact cat_mk [_] _
        have kz : (allB.extract 0 1 ++ S).size = j + 1 := by rw [key, mk_size, digL_len]
        go_roundw
        case rel => exact ⟨j + 1, 0, HC.out, by rw [← NM.out], rfl, congrArg Value.string key, below_drewN hb _⟩
        case measure => show nd N - (allB.extract 0 1 ++ S).size < nd N - S.size; rw [kz, SZ.out]; have := HC.out; omega
      · have q1 : m % 10 ≤ 9 := by omega
        have q2 : m % 10 + 1 ≤ 16 := by omega
        have q3 : (m : Int).tmod 10 = (m : Int) % 10 := Int.tmod_eq_emod_of_nonneg (by omega)
        have q4 : IntKind.i64.wrap ((m : Int) % 10 + 1) = (m : Int) % 10 + 1 := IntWalk.i64_in _ (by omega)
        have q5 : 0 ≤ (m : Int) % 10 := by omega
        have q6 : (m : Int) % 10 + 1 ≤ 16 := by omega
        have q7 : ((m : Int) % 10).toNat = m % 10 := by omega
        have q8 : ((m : Int) % 10 + 1).toNat = m % 10 + 1 := by omega
        clear sz hl nx sl nm hm tst c hj
        generalize hS : (⟨(digL 10 N j).toArray⟩ : ByteArray) = S at *
        have HS := Lib.hid hS
        clear hS
        go_wp2_with fail
        go_quiet (fail)
        go_wp2_with fail
        have key : allB.extract (m % 10) (m % 10 + 1) ++ S = ⟨(digL 10 N (j + 1)).toArray⟩ := by
          rw [SL.out, ← HS.out, NX.out]; exact cat_mk [_] _
        have kz : (allB.extract (m % 10) (m % 10 + 1) ++ S).size = j + 1 := by rw [key, mk_size, digL_len]
        go_roundw
        case rel => exact ⟨j + 1, m / 10, HC.out, NM.out, by go_num, congrArg Value.string key, below_drewN hb _⟩
        case measure => show nd N - (allB.extract (m % 10) (m % 10 + 1) ++ S).size < nd N - S.size; rw [kz, SZ.out]; have := HC.out; omega
    · have z : m = 0 := by omega
      have j0 : j ≠ 0 := by omega
      have ej : j = nd N := by omega
      have sz : (⟨(digL 10 N j).toArray⟩ : ByteArray).size = j := by rw [mk_size, hl]
      have e1 : decide (((⟨(digL 10 N j).toArray⟩ : ByteArray).size : Int) < 0) = false := by simp
      have e2 : (((⟨(digL 10 N j).toArray⟩ : ByteArray).size : Int) == 0) = false := by rw [sz]; simp; exact j0
      rw [← ej]
      have e3 : (⟨(digL 10 N j).toArray⟩ : ByteArray) = ⟨(digL 10 N (nd N)).toArray⟩ := by rw [ej]
      have E3 := Lib.hid e3
      subst z
      clear sz hl hm c hj tst e3 j0 ej
      generalize hS : (⟨(digL 10 N j).toArray⟩ : ByteArray) = S at *
      have HS := Lib.hid hS
      clear hS
      go_wp2_with fail
      go_ret
      exact ⟨ret_str E3.out, hb⟩
end Go.Proofs.YthcdcbibbfdjmaaDoor
