/- Four cells of a block, as a call has them (plain). -/
import Derived.Test.YthcdcbibbfdjmaaDoorQt
namespace Go.Proofs.YthcdcbibbfdjmaaDoor
open Go.RowKit Go.Sort
set_option linter.unusedVariables false

/-- four cells of a block -/
structure C4 (w : World) (b : Nat) (x0 x1 x2 x3 : Value) : Prop where
  c0 : w.cell? ⟨b, 0, none⟩ = some x0
  c1 : w.cell? ⟨b, 1, none⟩ = some x1
  c2 : w.cell? ⟨b, 2, none⟩ = some x2
  c3 : w.cell? ⟨b, 3, none⟩ = some x3
  f0 : w.frozen? ⟨b, 0, none⟩ = false
  f1 : w.frozen? ⟨b, 1, none⟩ = false
  f2 : w.frozen? ⟨b, 2, none⟩ = false
  f3 : w.frozen? ⟨b, 3, none⟩ = false

theorem C4.keep {w w' : World} {B b : Nat} {x0 x1 x2 x3 : Value} (h : C4 w b x0 x1 x2 x3) (hb : Below B w w') (hB : b < B) : C4 w' b x0 x1 x2 x3 :=
  ⟨(hb.cell (p := ⟨b, 0, none⟩) hB).trans h.c0, (hb.cell (p := ⟨b, 1, none⟩) hB).trans h.c1, (hb.cell (p := ⟨b, 2, none⟩) hB).trans h.c2, (hb.cell (p := ⟨b, 3, none⟩) hB).trans h.c3,
   (hb.frozen (p := ⟨b, 0, none⟩) hB).trans h.f0, (hb.frozen (p := ⟨b, 1, none⟩) hB).trans h.f1, (hb.frozen (p := ⟨b, 2, none⟩) hB).trans h.f2, (hb.frozen (p := ⟨b, 3, none⟩) hB).trans h.f3⟩
theorem C4.lt {w : World} {b : Nat} {x0 x1 x2 x3 : Value} (h : C4 w b x0 x1 x2 x3) : b < w.heap.size := block_lt_of_cell h.c0
theorem C4.regrown {w : World} {b : Nat} {x0 x1 x2 x3 : Value} (h : C4 w b x0 x1 x2 x3) (d : Nat) (os : Array Obj) : C4 (grow (redrawn w d) os) b x0 x1 x2 x3 := h.keep (below_regrown w d os) h.lt

theorem C4.far {w : World} {b b' o : Nat} {x0 x1 x2 x3 y : Value} (h : C4 w b x0 x1 x2 x3) (n : b ≠ b') : C4 (w.setCell ⟨b', o, none⟩ y) b x0 x1 x2 x3 := by
  obtain ⟨a0, a1, a2, a3, f0, f1, f2, f3⟩ := h
  constructor <;> simp [go_sem, *]
theorem C4.put {w : World} {b : Nat} {x0 x1 x2 x3 : Value} (h : C4 w b x0 x1 x2 x3) (y0 y1 y2 y3 : Value) : C4 ((((w.setCell ⟨b, 0, none⟩ y0).setCell ⟨b, 1, none⟩ y1).setCell ⟨b, 2, none⟩ y2).setCell ⟨b, 3, none⟩ y3) b y0 y1 y2 y3 := by
  obtain ⟨a0, a1, a2, a3, f0, f1, f2, f3⟩ := h
  constructor <;> simp [go_sem, *]
theorem C4.set0 {w : World} {b : Nat} {x0 x1 x2 x3 : Value} (h : C4 w b x0 x1 x2 x3) (y : Value) : C4 (w.setCell ⟨b, 0, none⟩ y) b y x1 x2 x3 := by
  obtain ⟨a0, a1, a2, a3, f0, f1, f2, f3⟩ := h
  constructor <;> simp [go_sem, *]
theorem C4.set1 {w : World} {b : Nat} {x0 x1 x2 x3 : Value} (h : C4 w b x0 x1 x2 x3) (y : Value) : C4 (w.setCell ⟨b, 1, none⟩ y) b x0 y x2 x3 := by
  obtain ⟨a0, a1, a2, a3, f0, f1, f2, f3⟩ := h
  constructor <;> simp [go_sem, *]
theorem C4.set2 {w : World} {b : Nat} {x0 x1 x2 x3 : Value} (h : C4 w b x0 x1 x2 x3) (y : Value) : C4 (w.setCell ⟨b, 2, none⟩ y) b x0 x1 y x3 := by
  obtain ⟨a0, a1, a2, a3, f0, f1, f2, f3⟩ := h
  constructor <;> simp [go_sem, *]
theorem C4.set3 {w : World} {b : Nat} {x0 x1 x2 x3 : Value} (h : C4 w b x0 x1 x2 x3) (y : Value) : C4 (w.setCell ⟨b, 3, none⟩ y) b x0 x1 x2 y := by
  obtain ⟨a0, a1, a2, a3, f0, f1, f2, f3⟩ := h
  constructor <;> simp [go_sem, *]
theorem C4.draw {w : World} {b : Nat} {x0 x1 x2 x3 : Value} (h : C4 w b x0 x1 x2 x3) (n : Nat) : C4 (w.drewN n) b x0 x1 x2 x3 := ⟨h.c0, h.c1, h.c2, h.c3, h.f0, h.f1, h.f2, h.f3⟩

/-- three cells of a block -/
structure C3 (w : World) (b : Nat) (x0 x1 x2 : Value) : Prop where
  c0 : w.cell? ⟨b, 0, none⟩ = some x0
  c1 : w.cell? ⟨b, 1, none⟩ = some x1
  c2 : w.cell? ⟨b, 2, none⟩ = some x2
  f0 : w.frozen? ⟨b, 0, none⟩ = false
  f1 : w.frozen? ⟨b, 1, none⟩ = false
  f2 : w.frozen? ⟨b, 2, none⟩ = false
theorem C3.keep {w w' : World} {B b : Nat} {x0 x1 x2 : Value} (h : C3 w b x0 x1 x2) (hb : Below B w w') (hB : b < B) : C3 w' b x0 x1 x2 :=
  ⟨(hb.cell (p := ⟨b, 0, none⟩) hB).trans h.c0, (hb.cell (p := ⟨b, 1, none⟩) hB).trans h.c1, (hb.cell (p := ⟨b, 2, none⟩) hB).trans h.c2,
   (hb.frozen (p := ⟨b, 0, none⟩) hB).trans h.f0, (hb.frozen (p := ⟨b, 1, none⟩) hB).trans h.f1, (hb.frozen (p := ⟨b, 2, none⟩) hB).trans h.f2⟩
theorem C3.lt {w : World} {b : Nat} {x0 x1 x2 : Value} (h : C3 w b x0 x1 x2) : b < w.heap.size := block_lt_of_cell h.c0
theorem C3.far {w : World} {b b' o : Nat} {x0 x1 x2 y : Value} (h : C3 w b x0 x1 x2) (n : b ≠ b') : C3 (w.setCell ⟨b', o, none⟩ y) b x0 x1 x2 := by
  obtain ⟨a0, a1, a2, f0, f1, f2⟩ := h
  constructor <;> simp [go_sem, *]
theorem C3.set0 {w : World} {b : Nat} {x0 x1 x2 : Value} (h : C3 w b x0 x1 x2) (y : Value) : C3 (w.setCell ⟨b, 0, none⟩ y) b y x1 x2 := by
  obtain ⟨a0, a1, a2, f0, f1, f2⟩ := h
  constructor <;> simp [go_sem, *]
theorem C3.set1 {w : World} {b : Nat} {x0 x1 x2 : Value} (h : C3 w b x0 x1 x2) (y : Value) : C3 (w.setCell ⟨b, 1, none⟩ y) b x0 y x2 := by
  obtain ⟨a0, a1, a2, f0, f1, f2⟩ := h
  constructor <;> simp [go_sem, *]
theorem C3.set2 {w : World} {b : Nat} {x0 x1 x2 : Value} (h : C3 w b x0 x1 x2) (y : Value) : C3 (w.setCell ⟨b, 2, none⟩ y) b x0 x1 y := by
  obtain ⟨a0, a1, a2, f0, f1, f2⟩ := h
  constructor <;> simp [go_sem, *]
theorem C3.put {w : World} {b : Nat} {x0 x1 x2 : Value} (h : C3 w b x0 x1 x2) (y0 y1 y2 : Value) : C3 (((w.setCell ⟨b, 0, none⟩ y0).setCell ⟨b, 1, none⟩ y1).setCell ⟨b, 2, none⟩ y2) b y0 y1 y2 := ((h.set0 y0).set1 y1).set2 y2
theorem C3.draw {w : World} {b : Nat} {x0 x1 x2 : Value} (h : C3 w b x0 x1 x2) (n : Nat) : C3 (w.drewN n) b x0 x1 x2 := ⟨h.c0, h.c1, h.c2, h.f0, h.f1, h.f2⟩
theorem C3.alloc {w : World} {b : Nat} {x0 x1 x2 : Value} (h : C3 w b x0 x1 x2) (o : Obj) : C3 (w.alloc o) b x0 x1 x2 := h.keep ((Below.refl w.heap.size w).alloc (Nat.le_refl _) o) h.lt
theorem C4.alloc {w : World} {b : Nat} {x0 x1 x2 x3 : Value} (h : C4 w b x0 x1 x2 x3) (o : Obj) : C4 (w.alloc o) b x0 x1 x2 x3 := h.keep ((Below.refl w.heap.size w).alloc (Nat.le_refl _) o) h.lt
theorem C3.regrown {w : World} {b : Nat} {x0 x1 x2 : Value} (h : C3 w b x0 x1 x2) (d : Nat) (os : Array Obj) : C3 (grow (redrawn w d) os) b x0 x1 x2 := h.keep (below_regrown w d os) h.lt
end Go.Proofs.YthcdcbibbfdjmaaDoor
