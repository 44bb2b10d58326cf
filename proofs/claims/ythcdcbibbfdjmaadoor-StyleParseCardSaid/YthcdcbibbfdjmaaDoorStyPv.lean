/- The reference's word: one step of the reader. -/
import Derived.Test.YthcdcbibbfdjmaaDoorStyPr
import Derived.Test.YthcdcbibbfdjmaaDoorStyH
namespace Go.Proofs.YthcdcbibbfdjmaaDoor
open Go.RowKit Go.Sort
set_option linter.unusedVariables false

structure C6 (w : World) (b : Nat) (x0 x1 x2 x3 x4 x5 : Value) : Prop where
  c0 : w.cell? ⟨b, 0, none⟩ = some x0
  c1 : w.cell? ⟨b, 1, none⟩ = some x1
  c2 : w.cell? ⟨b, 2, none⟩ = some x2
  c3 : w.cell? ⟨b, 3, none⟩ = some x3
  c4 : w.cell? ⟨b, 4, none⟩ = some x4
  c5 : w.cell? ⟨b, 5, none⟩ = some x5
  f0 : w.frozen? ⟨b, 0, none⟩ = false
  f1 : w.frozen? ⟨b, 1, none⟩ = false
  f2 : w.frozen? ⟨b, 2, none⟩ = false
  f3 : w.frozen? ⟨b, 3, none⟩ = false
  f4 : w.frozen? ⟨b, 4, none⟩ = false
  f5 : w.frozen? ⟨b, 5, none⟩ = false
theorem C6.keep {w w' : World} {B b : Nat} {x0 x1 x2 x3 x4 x5 : Value} (h : C6 w b x0 x1 x2 x3 x4 x5) (hb : Below B w w') (hB : b < B) : C6 w' b x0 x1 x2 x3 x4 x5 :=
  ⟨(hb.cell (p := ⟨b, 0, none⟩) hB).trans h.c0, (hb.cell (p := ⟨b, 1, none⟩) hB).trans h.c1, (hb.cell (p := ⟨b, 2, none⟩) hB).trans h.c2, (hb.cell (p := ⟨b, 3, none⟩) hB).trans h.c3, (hb.cell (p := ⟨b, 4, none⟩) hB).trans h.c4, (hb.cell (p := ⟨b, 5, none⟩) hB).trans h.c5,
   (hb.frozen (p := ⟨b, 0, none⟩) hB).trans h.f0, (hb.frozen (p := ⟨b, 1, none⟩) hB).trans h.f1, (hb.frozen (p := ⟨b, 2, none⟩) hB).trans h.f2, (hb.frozen (p := ⟨b, 3, none⟩) hB).trans h.f3, (hb.frozen (p := ⟨b, 4, none⟩) hB).trans h.f4, (hb.frozen (p := ⟨b, 5, none⟩) hB).trans h.f5⟩
theorem C6.lt {w : World} {b : Nat} {x0 x1 x2 x3 x4 x5 : Value} (h : C6 w b x0 x1 x2 x3 x4 x5) : b < w.heap.size := block_lt_of_cell h.c0
theorem C6.set23 {w : World} {b : Nat} {x0 x1 x2 x3 x4 x5 : Value} (h : C6 w b x0 x1 x2 x3 x4 x5) (y z : Value) : C6 ((w.setCell ⟨b, 2, none⟩ y).setCell ⟨b, 3, none⟩ z) b x0 x1 y z x4 x5 := by
  obtain ⟨a0, a1, a2, a3, a4, a5, f0, f1, f2, f3, f4, f5⟩ := h
  constructor <;> simp [go_sem, *]
theorem C6.set15 {w : World} {b : Nat} {x0 x1 x2 x3 x4 x5 : Value} (h : C6 w b x0 x1 x2 x3 x4 x5) (y z : Value) : C6 ((w.setCell ⟨b, 1, none⟩ y).setCell ⟨b, 5, none⟩ z) b x0 y x2 x3 x4 z := by
  obtain ⟨a0, a1, a2, a3, a4, a5, f0, f1, f2, f3, f4, f5⟩ := h
  constructor <;> simp [go_sem, *]
theorem C6.set04 {w : World} {b : Nat} {x0 x1 x2 x3 x4 x5 : Value} (h : C6 w b x0 x1 x2 x3 x4 x5) (y z : Value) : C6 ((w.setCell ⟨b, 0, none⟩ y).setCell ⟨b, 4, none⟩ z) b y x1 x2 x3 z x5 := by
  obtain ⟨a0, a1, a2, a3, a4, a5, f0, f1, f2, f3, f4, f5⟩ := h
  constructor <;> simp [go_sem, *]

/-- one step of the reader: the patch behind it and how many words it took, or the error -/
def stepP (p : Pat) (x : ByteArray) (r : List ByteArray) : Except Int (Pat × Nat) :=
  if attB x ||| offB x ≠ 0 then
    (if (p.add ||| p.drop) &&& (attB x ||| offB x) ≠ 0 then .error 112 else .ok ({ p with add := p.add ||| attB x, drop := p.drop ||| offB x }, 1))
  else if x = onB then
    (match r with
     | [] => .error 60
     | y :: _ => match colW y with
       | none => .error 60
       | some c => if p.bg ≠ 0 then .error 112 else .ok ({ p with bg := c }, 2))
  else match colW x with
    | none => .error 60
    | some c => if p.fg ≠ 0 then .error 112 else .ok ({ p with fg := c }, 1)
theorem stepP_err (p : Pat) (x : ByteArray) (r : List ByteArray) (e : Int) (h : stepP p x r = .error e) : parL p (x :: r) = .error e := by
  unfold stepP at h
  unfold parL
  split at h
  · rename_i h1
    rw [if_pos h1]
    split at h
    · rename_i h2; rw [if_pos h2]; cases h; rfl
    · cases h
  · rename_i h1
    rw [if_neg h1]
    split at h
    · rename_i h2
      rw [if_pos h2]
      cases r with
      | nil => cases h; rfl
      | cons y r' =>
        simp only at h ⊢
        cases hc : colW y with
        | none => rw [hc] at h; cases h; rfl
        | some c =>
          rw [hc] at h
          simp only at h ⊢
          split at h
          · rename_i h3; rw [if_pos h3]; cases h; rfl
          · cases h
    · rename_i h2
      rw [if_neg h2]
      cases hc : colW x with
      | none => rw [hc] at h; cases h; rfl
      | some c =>
        rw [hc] at h
        simp only at h ⊢
        split at h
        · rename_i h3; rw [if_pos h3]; cases h; rfl
        · cases h
theorem stepP_ok (p q : Pat) (x : ByteArray) (r : List ByteArray) (n : Nat) (h : stepP p x r = .ok (q, n)) : parL p (x :: r) = parL q ((x :: r).drop n) ∧ 1 ≤ n ∧ n ≤ (x :: r).length := by
  unfold stepP at h
  conv => congr; lhs; unfold parL
  split at h
  · rename_i h1
    rw [if_pos h1]
    split at h
    · cases h
    · rename_i h2; rw [if_neg h2]; cases h; exact ⟨rfl, by omega, by simp⟩
  · rename_i h1
    rw [if_neg h1]
    split at h
    · rename_i h2
      rw [if_pos h2]
      cases r with
      | nil => cases h
      | cons y r' =>
        simp only at h ⊢
        cases hc : colW y with
        | none => rw [hc] at h; cases h
        | some c =>
          rw [hc] at h
          simp only at h ⊢
          split at h
          · cases h
          · rename_i h3; rw [if_neg h3]; cases h; exact ⟨rfl, by omega, by simp⟩
    · rename_i h2
      rw [if_neg h2]
      cases hc : colW x with
      | none => rw [hc] at h; cases h
      | some c =>
        rw [hc] at h
        simp only at h ⊢
        split at h
        · cases h
        · rename_i h3; rw [if_neg h3]; cases h; exact ⟨rfl, by omega, by simp⟩
theorem off_short (x : ByteArray) (h : x.size ≤ 3) : offB x = 0 := by
  unfold offB
  split
  · refine attB_none _ fun m hm e => ?_
    have z : (x.extract 3 x.size).size = 0 := by rw [ByteArray.size_extract]; omega
    rw [e] at z
    have hh : ∀ i : Fin 8, (atN i.val).size ≠ 0 := by decide
    exact hh ⟨m, hm⟩ z
  · rfl
theorem off_no (x : ByteArray) (h : x.extract 0 3 ≠ noB) : offB x = 0 := by unfold offB; rw [if_neg h]
theorem off_yes (x : ByteArray) (h : x.extract 0 3 = noB) : offB x = attB (x.extract 3 x.size) := by unfold offB; rw [if_pos h]
end Go.Proofs.YthcdcbibbfdjmaaDoor
