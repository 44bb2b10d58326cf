/- Six hexadecimal digits by the library's FormatUint. -/
import Derived.Test.YthcdcbibbfdjmaaDoorDig
import Derived.Laws.BitsAllLaws
import Derived.Laws.IdiomStrings
import Derived.Deep.DeepCutAuto
namespace Go.Proofs.YthcdcbibbfdjmaaDoor
open Go.RowKit

theorem and15 (x : Int) (h0 : 0 ≤ x) (h1 : x < 18446744073709551616) : bits .and .u64 x 15 = x % 16 := by
  have e := u64_and x 15 h0 h1 (by decide) (by decide)
  rw [e, show (15 : Int).toNat = 15 from rfl, nat_mask4]
  omega

theorem idx36 (x : Int) (h0 : 0 ≤ x) (h1 : x < 16) (w : World) : (Instr.index 9 (.string ⟨#[48, 49, 50, 51, 52, 53, 54, 55, 56, 57, 97, 98, 99, 100, 101, 102, 103, 104, 105, 106, 107, 108, 109, 110, 111, 112, 113, 114, 115, 116, 117, 118, 119, 120, 121, 122]⟩) (.int .u64 x)).run Tryd.prog w = .ok (.int .u8 ((dgt x.toNat).toNat : Int)) w := by
  obtain ⟨n, rfl⟩ := Int.eq_ofNat_of_zero_le h0
  rcases sixteen n (by omega) with rfl | rfl | rfl | rfl | rfl | rfl | rfl | rfl | rfl | rfl | rfl | rfl | rfl | rfl | rfl | rfl <;> kernel_rfl

theorem isPow2_16 : Tells 131 #[.int .i64 16] (.bool true) := by
  intro w
  go_enter Tryd.func131, Tryd.ntmps131
  go_wp2
  go_ret
  exact ⟨rfl, rfl⟩

theorem tz64_16 (w : World) (hc : w.cell? ⟨8, 15, none⟩ = some (.int .u8 4)) : Calls Tryd.prog 136 #[.int .u64 16] w fun e w' => e = .returned (.int .i64 4) ∧ w = w' := by
  have h2 : bits .and .u64 16 (IntKind.u64.wrap (-16)) = 16 := by decide +kernel
  have h3 : IntKind.u64.wrap (16 * 285870213051353865) / 288230376151711744 = 15 := by decide +kernel
  go_enter Tryd.func136, Tryd.ntmps136
  go_wp2
  go_ret
  exact ⟨rfl, rfl⟩

theorem tz_16 (w : World) (hc : w.cell? ⟨8, 15, none⟩ = some (.int .u8 4)) : Calls Tryd.prog 132 #[.int .u64 16] w fun e w' => e = .returned (.int .i64 4) ∧ w = w' := by
  have C := Lib.hid (tz64_16 w hc)
  clear hc
  go_enter Tryd.func132, Tryd.ntmps132
  go_wp2_with (go_at_call 136; refine C.out.mono ?_; rintro e w' ⟨rfl, rfl⟩)
  go_ret
  exact ⟨rfl, rfl⟩

theorem digL7 (u : Int) (h0 : 16777216 ≤ u) (h1 : u < 33554432) : digL 16 u.toNat 7 = [dgt (u / 16 / 16 / 16 / 16 / 16 / 16).toNat, dgt (u / 16 / 16 / 16 / 16 / 16 % 16).toNat, dgt (u / 16 / 16 / 16 / 16 % 16).toNat, dgt (u / 16 / 16 / 16 % 16).toNat, dgt (u / 16 / 16 % 16).toNat, dgt (u / 16 % 16).toNat, dgt (u % 16).toNat] := by
  obtain ⟨n, rfl⟩ := Int.eq_ofNat_of_zero_le (show 0 ≤ u by omega)
  have c0 : ((n : Int) % 16) = ((n % 16 : Nat) : Int) := rfl
  have c1 : ((n : Int) / 16 % 16) = ((n / 16 % 16 : Nat) : Int) := rfl
  have c2 : ((n : Int) / 16 / 16 % 16) = ((n / 16 / 16 % 16 : Nat) : Int) := rfl
  have c3 : ((n : Int) / 16 / 16 / 16 % 16) = ((n / 16 / 16 / 16 % 16 : Nat) : Int) := rfl
  have c4 : ((n : Int) / 16 / 16 / 16 / 16 % 16) = ((n / 16 / 16 / 16 / 16 % 16 : Nat) : Int) := rfl
  have c5 : ((n : Int) / 16 / 16 / 16 / 16 / 16 % 16) = ((n / 16 / 16 / 16 / 16 / 16 % 16 : Nat) : Int) := rfl
  have c6 : ((n : Int) / 16 / 16 / 16 / 16 / 16 / 16) = ((n / 16 / 16 / 16 / 16 / 16 / 16 : Nat) : Int) := rfl
  rw [c0, c1, c2, c3, c4, c5, c6]
  simp only [Int.toNat_natCast, Nat.div_div_eq_div_mul, Nat.reduceMul, digL, Nat.reducePow, Nat.div_one]
  congr 2
  omega

set_option maxHeartbeats 4000000 in
set_option maxRecDepth 100000 in
theorem formatBits_16 (u : Int) (h0 : 16777216 ≤ u) (h1 : u < 33554432) (w : World) (hg : 8 < w.heap.size) (hc : w.cell? ⟨8, 15, none⟩ = some (.int .u8 4)) :
    Calls Tryd.prog 119 #[.slice none 0 0, .int .u64 u, .int .i64 16, .bool false, .bool false] w fun e w' => e = .returned (.tuple #[.slice none 0 0, .string ⟨(digL 16 u.toNat 7).toArray⟩]) ∧ Below w.heap.size w w' := by
  have a0 := and15 (u) (by omega) (by omega)
  have i0 := idx36 (u % 16) (by omega) (by omega)
  have a1 := and15 (u / 16) (by omega) (by omega)
  have i1 := idx36 (u / 16 % 16) (by omega) (by omega)
  have a2 := and15 (u / 16 / 16) (by omega) (by omega)
  have i2 := idx36 (u / 16 / 16 % 16) (by omega) (by omega)
  have a3 := and15 (u / 16 / 16 / 16) (by omega) (by omega)
  have i3 := idx36 (u / 16 / 16 / 16 % 16) (by omega) (by omega)
  have a4 := and15 (u / 16 / 16 / 16 / 16) (by omega) (by omega)
  have i4 := idx36 (u / 16 / 16 / 16 / 16 % 16) (by omega) (by omega)
  have a5 := and15 (u / 16 / 16 / 16 / 16 / 16) (by omega) (by omega)
  have i5 := idx36 (u / 16 / 16 / 16 / 16 / 16 % 16) (by omega) (by omega)
  have i6 := idx36 (u / 16 / 16 / 16 / 16 / 16 / 16) (by omega) (by omega)
  have g1 : (w.alloc (Obj.cells Tryd.zeroCells159 159)).cell? ⟨8, 15, none⟩ = some (.int .u8 4) := by
    rw [← hc]; exact ((Below.refl _ _).alloc (Nat.le_refl _) _).cell (p := ⟨8, 15, none⟩) hg
  have C := Lib.hid (tz_16 _ g1)
  clear g1 hc
  go_enter Tryd.func119, Tryd.ntmps119
  go_wp2_with fail
  refine (isPow2_16 _).mono ?_; rintro e w' ⟨rfl, rfl⟩
  go_wp2_with fail
  refine C.out.mono ?_
  rintro e w' ⟨rfl, rfl⟩
  go_wp2_with fail
  refine wp_loop_rounds 7 ?_
  rw [rounds_succ]
  go_wp2_with fail
  rw [rounds_succ]
  go_wp2_with fail
  rw [rounds_succ]
  go_wp2_with fail
  rw [rounds_succ]
  go_wp2_with fail
  rw [rounds_succ]
  go_wp2_with fail
  rw [rounds_succ]
  go_wp2_with fail
  rw [rounds_succ]
  go_wp2_with fail
  have hz := Tryd.zeroCells159_size
  have hcv : (convert 117 9 (.slice (some ⟨w.heap.size, 58, none⟩) 7 7)).run Tryd.prog (w.alloc (Obj.cells (((((((Tryd.zeroCells159.setIfInBounds 64 (Value.int IntKind.u8 ((dgt (u % 16).toNat).toNat : Int))).setIfInBounds 63 (Value.int IntKind.u8 ((dgt (u / 16 % 16).toNat).toNat : Int))).setIfInBounds 62 (Value.int IntKind.u8 ((dgt (u / 16 / 16 % 16).toNat).toNat : Int))).setIfInBounds 61 (Value.int IntKind.u8 ((dgt (u / 16 / 16 / 16 % 16).toNat).toNat : Int))).setIfInBounds 60 (Value.int IntKind.u8 ((dgt (u / 16 / 16 / 16 / 16 % 16).toNat).toNat : Int))).setIfInBounds 59 (Value.int IntKind.u8 ((dgt (u / 16 / 16 / 16 / 16 / 16 % 16).toNat).toNat : Int))).setIfInBounds 58 (Value.int IntKind.u8 ((dgt (u / 16 / 16 / 16 / 16 / 16 / 16).toNat).toNat : Int))) 159)) = .ok (.string ⟨[dgt (u / 16 / 16 / 16 / 16 / 16 / 16).toNat, dgt (u / 16 / 16 / 16 / 16 / 16 % 16).toNat, dgt (u / 16 / 16 / 16 / 16 % 16).toNat, dgt (u / 16 / 16 / 16 % 16).toNat, dgt (u / 16 / 16 % 16).toNat, dgt (u / 16 % 16).toNat, dgt (u % 16).toNat].toArray⟩) (w.alloc (Obj.cells (((((((Tryd.zeroCells159.setIfInBounds 64 (Value.int IntKind.u8 ((dgt (u % 16).toNat).toNat : Int))).setIfInBounds 63 (Value.int IntKind.u8 ((dgt (u / 16 % 16).toNat).toNat : Int))).setIfInBounds 62 (Value.int IntKind.u8 ((dgt (u / 16 / 16 % 16).toNat).toNat : Int))).setIfInBounds 61 (Value.int IntKind.u8 ((dgt (u / 16 / 16 / 16 % 16).toNat).toNat : Int))).setIfInBounds 60 (Value.int IntKind.u8 ((dgt (u / 16 / 16 / 16 / 16 % 16).toNat).toNat : Int))).setIfInBounds 59 (Value.int IntKind.u8 ((dgt (u / 16 / 16 / 16 / 16 / 16 % 16).toNat).toNat : Int))).setIfInBounds 58 (Value.int IntKind.u8 ((dgt (u / 16 / 16 / 16 / 16 / 16 / 16).toNat).toNat : Int))) 159)) := by
    refine run_convert_bytes_back (P := Tryd.prog) (w.alloc (Obj.cells (((((((Tryd.zeroCells159.setIfInBounds 64 (Value.int IntKind.u8 ((dgt (u % 16).toNat).toNat : Int))).setIfInBounds 63 (Value.int IntKind.u8 ((dgt (u / 16 % 16).toNat).toNat : Int))).setIfInBounds 62 (Value.int IntKind.u8 ((dgt (u / 16 / 16 % 16).toNat).toNat : Int))).setIfInBounds 61 (Value.int IntKind.u8 ((dgt (u / 16 / 16 / 16 % 16).toNat).toNat : Int))).setIfInBounds 60 (Value.int IntKind.u8 ((dgt (u / 16 / 16 / 16 / 16 % 16).toNat).toNat : Int))).setIfInBounds 59 (Value.int IntKind.u8 ((dgt (u / 16 / 16 / 16 / 16 / 16 % 16).toNat).toNat : Int))).setIfInBounds 58 (Value.int IntKind.u8 ((dgt (u / 16 / 16 / 16 / 16 / 16 / 16).toNat).toNat : Int))) 159)) 117 9 5 ⟨w.heap.size, 58, none⟩ 7 [dgt (u / 16 / 16 / 16 / 16 / 16 / 16).toNat, dgt (u / 16 / 16 / 16 / 16 / 16 % 16).toNat, dgt (u / 16 / 16 / 16 / 16 % 16).toNat, dgt (u / 16 / 16 / 16 % 16).toNat, dgt (u / 16 / 16 % 16).toNat, dgt (u / 16 % 16).toNat, dgt (u % 16).toNat] Tryd.underlying117 Tryd.underlying5 Tryd.underlying9 ?_
    intro j hj
    have hj' : j = 0 ∨ j = 1 ∨ j = 2 ∨ j = 3 ∨ j = 4 ∨ j = 5 ∨ j = 6 := by simp at hj; omega
    rcases hj' with rfl | rfl | rfl | rfl | rfl | rfl | rfl <;> simp [Addr.add, hz]
  simp only [hcv]
  go_wp2_with fail
  go_ret2
  refine ⟨?_, (Below.refl _ _).alloc (Nat.le_refl _) _⟩
  rw [digL7 u h0 h1]
  rfl

theorem iFormatUint_16 (u : Int) (h0 : 16777216 ≤ u) (h1 : u < 33554432) (w : World) (hg : 8 < w.heap.size) (hc : w.cell? ⟨8, 15, none⟩ = some (.int .u8 4)) :
    Calls Tryd.prog 100 #[.int .u64 u, .int .i64 16] w fun e w' => e = .returned (.string ⟨(digL 16 u.toNat 7).toArray⟩) ∧ Below w.heap.size w w' := by
  have C := Lib.hid (formatBits_16 u h0 h1 w hg hc)
  clear hc hg
  go_enter Tryd.func100, Tryd.ntmps100
  go_wp2_with fail
  refine C.out.mono ?_
  rintro e w' ⟨rfl, hb⟩
  go_wp2
  go_ret
  exact ⟨rfl, hb⟩

theorem FormatUint_16 (u : Int) (h0 : 16777216 ≤ u) (h1 : u < 33554432) (w : World) (hg : 8 < w.heap.size) (hc : w.cell? ⟨8, 15, none⟩ = some (.int .u8 4)) :
    Calls Tryd.prog 81 #[.int .u64 u, .int .i64 16] w fun e w' => e = .returned (.string ⟨(digL 16 u.toNat 7).toArray⟩) ∧ Below w.heap.size w w' := by
  have C := Lib.hid (iFormatUint_16 u h0 h1 w hg hc)
  clear hc hg
  go_enter Tryd.func81, Tryd.ntmps81
  go_wp2_with fail
  refine C.out.mono ?_
  rintro e w' ⟨rfl, hb⟩
  go_wp2
  go_ret
  exact ⟨rfl, hb⟩
end Go.Proofs.YthcdcbibbfdjmaaDoor
