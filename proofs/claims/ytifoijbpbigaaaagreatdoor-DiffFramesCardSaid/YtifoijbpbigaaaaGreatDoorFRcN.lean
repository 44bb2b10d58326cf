/- Scenes that a door hands, with the colours of their screens in bounds. -/
import Derived.Test.YtifoijbpbigaaaaGreatDoorDaFI
set_option linter.unusedVariables false
set_option linter.unusedSimpArgs false
namespace Go.Proofs.YtifoijbpbigaaaaGreatDoor
section
open Go Go.ChangeShapes Go.WideShapes Go.ChangeAt Go.RowKit Go.Sort
section
variable {H : Type} {enc : TypeId × Value -> H} {w : World} {base : Nat} {spare : Nat -> Bool} {held : Bool}
set_option maxRecDepth 100000 in
theorem Vc {n : Nat} {cs : List Value} {y : DataW H × List MemPlace} (h : DataW.trod enc Tryz.prog w base spare held n 51 cs = some y) (sp : ∀ b, spare b = true) (hw : zP y.1 51) : ∃ a : Bool × SA, cs = actV a /\ ScrD w a.2 /\ ∀ x ∈ a.2.s.cells, zh x.st.fg /\ zh x.st.bg := by
 obtain ⟨y0, y1, m, hx, hl, h0, h1⟩ := trod_struct2 Tryz.underlying51 h
 have c7 : Tryz.prog.cellsOf 51 = 7 := by kernel_rfl
 have e1 : Tryz.prog.cellsOf 4 = 1 := by kernel_rfl
 have e2 : Tryz.prog.cellsOf 24 = 6 := by kernel_rfl
 rw [c7] at hl
 rw [hx] at hw
 match cs, hl with
 | [v0, v1, v2, v3, v4, v5, v6], _ =>
  simp [e1, e2] at h0 h1
  obtain ⟨a0, e, _⟩ := DataW.trod_bool Tryz.underlying4 h0
  obtain rfl := (List.cons.inj e).1
  have l1 : zP y1.1 24 := xY (j := 1) Tryz.underlying51 hw rfl rfl
  obtain ⟨t, e, q⟩ := Kv h1 sp l1
  exact ⟨(a0, t), by rw [e]; rfl, q⟩
set_option maxRecDepth 100000 in
theorem JC {n : Nat} {cs : List Value} {y : DataW H × List MemPlace} (h : DataW.trod enc Tryz.prog w base spare held n 42 cs = some y) (sp : ∀ b, spare b = true) (hw : zP y.1 42) :
  ∃ (A : Option Addr) (c : Nat) (L : List (Bool × SA)), cs = [.slice A L.length c] /\ (A = none -> c = 0) /\ L.length <= c /\ c * 72 <= 140737488351232 /\ Sees w w.heap.size A (L.flatMap actV) /\ ∀ x ∈ L, ScrD w x.2 /\ ∀ y ∈ x.2.s.cells, zh y.st.fg /\ zh y.st.bg := by
 have cb : Tryz.prog.bytesOf 51 = 72 := by kernel_rfl
 obtain ⟨A, c, L, h1, h2, h3, h4, h5, h6⟩ := Jj actV 7 (by decide) (fun _ => rfl) (false, emptyS) (fun a => ScrD w a.2 /\ ∀ y ∈ a.2.s.cells, zh y.st.fg /\ zh y.st.bg) Tryz.underlying42 (by kernel_rfl) (fun n cs y h l => Vc h sp l) h sp hw
 rw [cb] at h4
 exact ⟨A, c, L, h1, h2, h3, by unfold reachBytes at h4; omega, h5, h6⟩
end
end
end Go.Proofs.YtifoijbpbigaaaaGreatDoor
