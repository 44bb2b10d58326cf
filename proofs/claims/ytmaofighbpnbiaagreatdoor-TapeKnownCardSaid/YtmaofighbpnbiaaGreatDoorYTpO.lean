/- Sizes, frames, tapes and times, opened at the door. (Written at vt's seat, which has no api.Frame: not built yet.) -/
import Derived.Test.YtmaofighbpnbiaaGreatDoorYTpN
namespace Go.Proofs.YtmaofighbpnbiaaGreatDoor
open Go.ChangeShapes Go.WideShapes Go.ChangeAt Go.RowKit
set_option linter.unusedVariables false
section
variable {H : Type} {enc : TypeId × Value → H} {w : World} {base : Nat} {spare : Nat → Bool} {held : Bool}
set_option maxRecDepth 100000 in
theorem open_sizeD {n : Nat} {cs : List Value} {y : DataW H × List MemPlace} (h : DataW.trod enc Tryz.prog w base spare held n 23 cs = some y) : ∃ a b : Int, cs = [.int .i64 a, .int .i64 b] ∧ (-9223372036854775808 ≤ a ∧ a ≤ 9223372036854775807) ∧ (-9223372036854775808 ≤ b ∧ b ≤ 9223372036854775807) := by
 obtain ⟨y0, y1, m, hx, hl, h0, h1⟩ := trod_struct2 Tryz.underlying23 h
 have c2 : Tryz.prog.cellsOf 23 = 2 := by kernel_rfl
 have e1 : Tryz.prog.cellsOf 3 = 1 := by kernel_rfl
 rw [c2] at hl
 match cs, hl with
 | [v0, v1], _ =>
  simp [e1] at h0 h1
  obtain ⟨a, e, _, wa⟩ := DataW.trod_int Tryz.underlying3 h0
  obtain rfl := (List.cons.inj e).1
  obtain ⟨b, e, _, wb⟩ := DataW.trod_int Tryz.underlying3 h1
  obtain rfl := (List.cons.inj e).1
  exact ⟨a, b, rfl, bounds_i64 wa, bounds_i64 wb⟩
set_option maxRecDepth 100000 in
theorem open_frame {n : Nat} {cs : List Value} {y : DataW H × List MemPlace} (h : DataW.trod enc Tryz.prog w base spare held n 47 cs = some y) (sp : ∀ b, spare b = true) (hw : Light y.1 47) : ∃ x : FA, cs = frV x ∧ FrD w w.heap.size x := by
 obtain ⟨y0, y1, m, hx, hl, h0, h1⟩ := trod_struct2 Tryz.underlying47 h
 have c2 : Tryz.prog.cellsOf 47 = 2 := by kernel_rfl
 have e1 : Tryz.prog.cellsOf 2 = 1 := by kernel_rfl
 have e2 : Tryz.prog.cellsOf 27 = 1 := by kernel_rfl
 rw [c2] at hl
 rw [hx] at hw
 match cs, hl with
 | [v0, v1], _ =>
  simp [e1, e2] at h0 h1
  obtain ⟨a, e, _, wa⟩ := DataW.trod_int Tryz.underlying2 h0
  obtain rfl := (List.cons.inj e).1
  have l1 : Light y1.1 27 := light_struct (j := 1) Tryz.underlying47 hw rfl rfl
  obtain ⟨x, e, q⟩ := open_u8s h1 sp l1
  obtain rfl := (List.cons.inj e).1
  exact ⟨⟨a, x⟩, rfl, q, bounds_i64 wa⟩
def noFA : FA := ⟨0, ⟨none, 0, []⟩⟩
set_option maxRecDepth 100000 in
theorem open_frames {n : Nat} {cs : List Value} {y : DataW H × List MemPlace} (h : DataW.trod enc Tryz.prog w base spare held n 24 cs = some y) (sp : ∀ b, spare b = true) (hw : Light y.1 24) : ∃ (A : Option Addr) (c : Nat) (L : List FA), cs = [.slice A L.length c] ∧ FrsD w w.heap.size A c L := by
 have cb : Tryz.prog.bytesOf 47 = 32 := by kernel_rfl
 obtain ⟨A, c, L, h1, h2, h3, h4, h5, h6⟩ := open_rows frV 2 (by decide) (fun _ => rfl) noFA (FrD w w.heap.size) Tryz.underlying24 (by kernel_rfl) (fun n cs y h l => open_frame h sp l) h sp hw
 rw [cb] at h4
 exact ⟨A, c, L, h1, h2, h3, by unfold reachBytes at h4; omega, h5, h6⟩
end
end Go.Proofs.YtmaofighbpnbiaaGreatDoor
