/- What is seen is right (plain). -/
import Derived.Test.YtkllilehdpdbdaaGreatDoorVtL
import Derived.Test.YtkllilehdpdbdaaGreatDoorDfRi
namespace Go.Proofs.YtkllilehdpdbdaaGreatDoor
open Go Go.RowKit Go.Sort
set_option linter.unusedVariables false
set_option linter.unusedSimpArgs false
theorem good_cell {t : Trm} (g : Good t) : ∀ c ∈ t.cells, CelOk c := fun c m => by
  obtain ⟨i, hi, rfl⟩ := List.getElem_of_mem m
  have := g.grid.cell i hi
  have e : t.cell i = t.cells[i] := by
    unfold Trm.cell
    rw [List.getD_eq_getElem?_getD, List.getElem?_eq_getElem hi]
    rfl
  rw [e] at this
  exact this
theorem cel_okC {c : Cel} (h : CelOk c) : okC c ∧ c.text.size ≤ 64 := by
  have z : ∀ k : Int, c.wide = k → (k = 0 ∨ k = 1 ∨ k = 2) → -128 ≤ c.wide ∧ c.wide ≤ 127 := fun k e h => by omega
  rcases h.2 with ⟨a, b⟩ | ⟨a, b⟩ | ⟨a, b⟩
  · have s : c.text.size ≤ 64 := by rw [b]; decide
    exact ⟨⟨by omega, z _ a (by decide)⟩, s⟩
  · have s := (oneB_fits b).1
    exact ⟨⟨by omega, z _ a (by decide)⟩, s⟩
  · have s := (oneB_fits b).1
    exact ⟨⟨by omega, z _ a (by decide)⟩, s⟩
theorem right_seen {t : Trm} (g : Good t) (f : Fine t) : rightS (seenT t) = true := by
  have w0 := f.w0
  have w1 := f.w1
  have h0 := f.h0
  have h1 := f.h1
  have ar := f.ar
  have cl := f.cl
  have e : (seenT t).w = t.w ∧ (seenT t).h = t.h ∧ (seenT t).cells = t.cells := by unfold seenT; split <;> exact ⟨rfl, rfl, rfl⟩
  obtain ⟨e1, e2, e3⟩ := e
  unfold rightS
  simp only [Bool.and_eq_true, decide_eq_true_eq, List.all_eq_true, List.mem_range]
  refine ⟨⟨⟨?_, ?_⟩, fun y hy => ?_⟩, ?_⟩
  · unfold sizedI
    rw [e1, e2]
    simp only [Bool.and_eq_true, decide_eq_true_eq]
    exact ⟨⟨⟨⟨w0, w1⟩, h0⟩, h1⟩, ar⟩
  · rw [e1, e2, e3]; exact cl
  · unfold rowAt
    rw [e1, e3]
    rw [e2] at hy
    refine grid_rows g.grid y ?_
    have r := f.row (y := (y : Int)) (by omega) (by omega)
    have : ((y * t.w.toNat + t.w.toNat : Nat) : Int) ≤ (t.cells.length : Int) := by
      rw [cl]
      push_cast
      rw [show ((t.w.toNat : Nat) : Int) = t.w by omega]
      exact r.2
    omega
  · unfold cursR seenT
    split
    · rename_i c
      rw [if_pos rfl]
      have p := pos_some f c.2
      have x0 := f.x0
      have y0 := f.y0
      have cx := f.cx
      have cy := f.cy
      have p1 := p.1
      have p2 := p.2
      simp only [Bool.and_eq_true, decide_eq_true_eq]
      exact ⟨⟨⟨x0, by omega⟩, y0⟩, by omega⟩
    · simp
end Go.Proofs.YtkllilehdpdbdaaGreatDoor
