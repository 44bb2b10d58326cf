/- Decimal numerals below 256 by the library's FormatUint and Itoa. -/
import Derived.Test.YthcdcbibbfdjmaaDoorDig
import Derived.Test.YthcdcbibbfdjmaaDoorShelf
import Derived.Lib.AppendIntMem
namespace Go.Proofs.YthcdcbibbfdjmaaDoor
open Go.RowKit Go.Sort

theorem dec_digits : ∀ n : Fin 256, Lib.decDigits n.val = digL 10 n.val (nd n.val) := by
  intro n
  have h := n.isLt
  by_cases c : n.val < 10
  · rw [Lib.decDigits, dif_pos c, nd, if_pos c]
    simp only [digL, dgt, Nat.pow_zero, Nat.div_one, Nat.mod_eq_of_lt c, if_pos c]
  · by_cases d : n.val < 100
    · rw [Lib.decDigits, dif_neg c, Lib.decDigits, dif_pos (by omega), nd, if_neg c, if_pos d]
      simp only [digL, dgt, Nat.pow_zero, Nat.div_one, Nat.pow_one, if_pos (show n.val / 10 < 10 by omega), if_pos (show n.val % 10 < 10 by omega), Nat.mod_eq_of_lt (show n.val / 10 < 10 by omega)]
      rfl
    · rw [Lib.decDigits, dif_neg c, Lib.decDigits, dif_neg (by omega), Lib.decDigits, dif_pos (by omega), nd, if_neg c, if_neg d]
      simp only [digL, dgt, Nat.reducePow, Nat.pow_zero, Nat.div_one, Nat.pow_one, if_pos (show n.val / 100 < 10 by omega), if_pos (show n.val / 10 % 10 < 10 by omega), if_pos (show n.val % 10 < 10 by omega), Nat.div_div_eq_div_mul, Nat.reduceMul, Nat.mod_eq_of_lt (show n.val / 100 < 10 by omega)]
      rfl

theorem dec_digits' (n : Nat) (h : n < 256) : Lib.decDigits n = digL 10 n (nd n) := dec_digits ⟨n, h⟩

theorem Itoa_dec (n : Nat) (h : n < 256) (w : World) (htab : Lib.TabIs Tryd.prog w "internal/strconv.uint64pow10" .u64 Lib.pow10Tab) :
    Calls Tryd.prog 91 #[.int .i64 n] w fun e w' => e = .returned (.string ⟨(digL 10 n (nd n)).toArray⟩) ∧ Below w.heap.size w w' := by
  refine (Tryd.strconv_Itoa n (by omega) (by omega) w htab).mono ?_
  rintro e w' ⟨rfl, k, os, rfl⟩
  refine ⟨ret_str ?_, Lib.below_grow _ _ (Nat.le_refl _) _ _⟩
  rw [Lib.itoa_nonneg, dec_digits' n h]

set_option maxHeartbeats 6400000 in
set_option maxRecDepth 100000 in
theorem iFormatUint_10 (u : Nat) (hu : u < 256) (w : World) (htab : Lib.TabIs Tryd.prog w "internal/strconv.uint64pow10" .u64 Lib.pow10Tab) :
    Calls Tryd.prog 100 #[.int .u64 u, .int .i64 10] w fun e w' => e = .returned (.string ⟨(digL 10 u (nd u)).toArray⟩) ∧ Below w.heap.size w w' := by
  have dd := Lib.hid (dec_digits' u hu)
  by_cases hs : u < 100
  · go_enter Tryd.func100, Tryd.ntmps100
    go_wp2_with fail
    refine (Tryd.internal_strconv_small u hs _).mono ?_
    rintro e w' ⟨rfl, rfl⟩
    go_wp2
    go_ret
    refine ⟨?_, Below.refl _ _⟩
    rw [dd.out]
    rfl
  · have hu1 : 1 ≤ u := by omega
    have hu64 : u < 18446744073709551616 := by omega
    have hnd20 : Lib.nDigits u ≤ 20 := by have := Lib.numDigits_eq u hu1 hu64; split at this <;> omega
    have hal : Tryd.prog.arrayLen 140 = 24 := by simp [Program.arrayLen, Tryd.underlying140]
    have hsl1 : ∀ W, (Instr.sliceAt 140 (.pointer (some ⟨w.heap.size, 0, none⟩)) none (some (.int .i64 (Lib.nDigits u : Int))) none).run Tryd.prog W = .ok (.slice (some ⟨w.heap.size, 0, none⟩) (Lib.nDigits u) 24) W := fun W => by
      rw [run_sliceAt_array_h W 140 ⟨w.heap.size, 0, none⟩ (by simp [Program.arrayLen, Program.elem, Tryd.underlying140]) .i64 (Lib.nDigits u : Int) (by omega) (by rw [hal]; omega)]
      go_simp
    have hH0 := Lib.holds_zero0 w 140 (Lib.nDigits u) (by omega)
    have hfmt := Tryd.internal_strconv_formatBase10 w.heap.size 0 24 u (Array.replicate (Lib.nDigits u) 0) (w.alloc (.cells Lib.zeros24 140)) hH0 (by rw [Array.size_replicate]; exact Lib.lt_pow_nDigits u) hu64 (by rw [Array.size_replicate]; omega)
    rw [Array.size_replicate] at hfmt
    have HH0 := Lib.hid hH0
    clear hH0 hal
    go_enter Tryd.func100, Tryd.ntmps100
    go_wp2_with fail
    refine (Tryd.internal_strconv_numDigits u hu1 hu64 _ (Lib.tabIs_alloc htab _)).mono ?_
    rintro e w' ⟨rfl, rfl⟩
    go_wp2_with fail
    refine hfmt.mono ?_
    rintro e w' ⟨rfl, k, v', dk, rfl, hF⟩
    have hcv : (convert 117 9 (.slice (some ⟨w.heap.size, 0, none⟩) (Lib.nDigits u) 24)).run Tryd.prog ((putRow (fun (b : UInt8) => Value.int .u8 (b.toNat : Int)) (w.alloc (.cells Lib.zeros24 140)) w.heap.size 0 dk).drewN k) = .ok (.string ⟨(Lib.decDigits u).toArray⟩) ((putRow (fun (b : UInt8) => Value.int .u8 (b.toNat : Int)) (w.alloc (.cells Lib.zeros24 140)) w.heap.size 0 dk).drewN k) := by
      have h := run_convert_bytes_back (P := Tryd.prog) ((putRow (fun (b : UInt8) => Value.int .u8 (b.toNat : Int)) (w.alloc (.cells Lib.zeros24 140)) w.heap.size 0 dk).drewN k) 117 9 5 ⟨w.heap.size, 0, none⟩ 24 (Lib.decDigits u) Tryd.underlying117 Tryd.underlying5 Tryd.underlying9 (fun j hj => by
        rw [Lib.row_is_numeral hF j hj, Lib.add_plain, World.cell?_drewN]
        exact cell?_putRow (fun (b : UInt8) => Value.int .u8 (b.toNat : Int)) _ w.heap.size 0 _ dk HH0.out (by rw [hF.size, Array.size_replicate]) j (by rw [hF.size]; rw [Lib.decDigits_length] at hj; exact hj))
      rw [Lib.decDigits_length] at h
      exact h
    go_wp2
    go_ret
    obtain ⟨os, eo⟩ := Lib.fin_at w (.cells Lib.zeros24 140) dk k 0
    refine ⟨ret_str ?_, ?_⟩
    · rw [dd.out]
    · rw [eo]; exact Lib.below_grow _ _ (Nat.le_refl _) _ _

theorem FormatUint_10 (u : Nat) (hu : u < 256) (w : World) (htab : Lib.TabIs Tryd.prog w "internal/strconv.uint64pow10" .u64 Lib.pow10Tab) :
    Calls Tryd.prog 81 #[.int .u64 u, .int .i64 10] w fun e w' => e = .returned (.string ⟨(digL 10 u (nd u)).toArray⟩) ∧ Below w.heap.size w w' := by
  have C := Lib.hid (iFormatUint_10 u hu w htab)
  clear htab
  go_enter Tryd.func81, Tryd.ntmps81
  go_wp2_with fail
  refine C.out.mono ?_
  rintro e w' ⟨rfl, hb⟩
  go_wp2
  go_ret
  exact ⟨rfl, hb⟩
end Go.Proofs.YthcdcbibbfdjmaaDoor
