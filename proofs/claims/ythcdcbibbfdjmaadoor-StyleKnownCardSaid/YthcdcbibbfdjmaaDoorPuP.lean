/- The library's public ParseUint: six bytes at base 16, any bytes at base 10 and 8 bits. -/
import Derived.Test.YthcdcbibbfdjmaaDoorPu
import Derived.Shelf.Pu.ToError
import Derived.Shelf.Pu.ToErrorRange
namespace Go.Proofs.YthcdcbibbfdjmaaDoor
open Go.RowKit Go.Shelf

theorem pu16_some (t : ByteArray) (h6 : t.size = 6) (v : Nat) (h : hexL 0 t.data.toList = some v) (w : World) :
    Calls Tryd.prog 80 #[.string t, .int .i64 16, .int .i64 24] w fun e w' => e = .returned (.tuple #[.int .u64 v, .nilIface]) ∧ Below w.heap.size w w' := by
  have C := iParseUint_16 t h6 w
  rw [h] at C
  simp only [hexEnd] at C
  have C := Lib.hid C
  clear h h6
  go_enter Tryd.func80, Tryd.ntmps80
  go_wp2_with fail
  refine C.out.mono ?_
  rintro e w' ⟨rfl, hW⟩
  have hb : Below w.heap.size w w' := by rw [hW]; exact Lib.bytesWorld_below _ _ _
  clear hW
  go_wp2
  go_ret2
  exact ⟨rfl, hb⟩

theorem pu16_none (t : ByteArray) (h6 : t.size = 6) (h : hexL 0 t.data.toList = none) (ev : Value) (w : World) (hg : 3 < w.heap.size) (hv : w.cell? ⟨3, 0, none⟩ = some ev) (hev : ev = .nilIface ∨ ∃ te pe, ev = .iface te pe) :
    Calls Tryd.prog 80 #[.string t, .int .i64 16, .int .i64 24] w fun e w' => ∃ N, e = .returned (.tuple #[.int .u64 0, .iface 137 (.pointer (some ⟨N, 0, none⟩))]) ∧ Below w.heap.size w w' := by
  have C := iParseUint_16 t h6 w
  rw [h] at C
  simp only [hexEnd] at C
  have C := Lib.hid C
  have hlim : t.size ≤ 281474976710656 := by omega
  clear h h6
  go_enter Tryd.func80, Tryd.ntmps80
  go_wp2_with fail
  refine C.out.mono ?_
  rintro e w' ⟨rfl, hW⟩
  have hb : Below w.heap.size w w' := by rw [hW]; exact Lib.bytesWorld_below _ _ _
  have hv1 : w'.cell? ⟨3, 0, none⟩ = some ev := (hb.cell (p := ⟨3, 0, none⟩) hg).trans hv
  clear hW
  have T := Lib.hid (AnyPu.strconv_toError_syntax (P := Tryd.prog) (ρ := Tryd.laysPu14_ren) { Tryd.laysPu14 with } ⟨#[80, 97, 114, 115, 101, 85, 105, 110, 116]⟩ t 16 24 ev w' hlim hv1 hev)
  clear hv1 hv hev
  go_wp2_with fail
  refine T.out.mono ?_
  rintro e W2 ⟨N, rfl, h1, h2, h3⟩
  go_wp2
  go_ret2
  exact ⟨N, rfl, hb.trans (h3.mono hb.size)⟩

/-- base 10, 8 bits: a number or an error -/
theorem pu10_ok (t : ByteArray) (hmax : t.size ≤ 281474976710656) (u : Nat) (h : Lib.parseUintB 8 t.data.toList = .ok u) (w : World) :
    Calls Tryd.prog 80 #[.string t, .int .i64 10, .int .i64 8] w fun e w' => e = .returned (.tuple #[.int .u64 u, .nilIface]) ∧ Below w.heap.size w w' := by
  refine (Any.strconv_ParseUint_10_at8_ok Tryd.laysPu14 t (by omega) u h w).mono ?_
  rintro e w' ⟨rfl, hW⟩
  refine ⟨rfl, ?_⟩
  rcases hW with rfl | rfl
  · exact Below.refl _ _
  · exact Lib.bytesWorld_below _ _ _

theorem pu10_err (t : ByteArray) (hmax : t.size ≤ 281474976710656) (h : ∀ u, Lib.parseUintB 8 t.data.toList ≠ .ok u) (ev er : Value) (w : World) (hv : w.cell? ⟨3, 0, none⟩ = some ev) (hev : ev = .nilIface ∨ ∃ te pe, ev = .iface te pe) (hr : w.cell? ⟨4, 0, none⟩ = some er) (her : er = .nilIface ∨ ∃ te pe, er = .iface te pe) :
    Calls Tryd.prog 80 #[.string t, .int .i64 10, .int .i64 8] w fun e w' => ∃ (n : Int) (N : Nat), e = .returned (.tuple #[.int .u64 n, .iface 137 (.pointer (some ⟨N, 0, none⟩))]) ∧ Below w.heap.size w w' := by
  generalize hq : Lib.parseUintB 8 t.data.toList = q at h
  cases q with
  | ok u => exact absurd rfl (h u)
  | range =>
    refine (Any.strconv_ParseUint_10_at8_range Tryd.laysPu14 t hmax hq er w hr her).mono ?_
    rintro e w' ⟨N, rfl, _, _, hb⟩
    exact ⟨255, N, rfl, hb⟩
  | _ =>
    refine (Any.strconv_ParseUint_10_at8_syntax Tryd.laysPu14 t hmax hq ev w hv hev).mono ?_
    rintro e w' ⟨N, rfl, _, _, hb⟩
    exact ⟨0, N, rfl, hb⟩
end Go.Proofs.YthcdcbibbfdjmaaDoor
