/- Rows of a law's own, side by side: which block each lies in, and that a write to one leaves the others (plain; of no program). -/
import Derived.Test.YtkllilehdpdbdaaGreatDoorMem
namespace Go.Proofs.YtkllilehdpdbdaaGreatDoor
open Go.RowKit
set_option linter.unusedVariables false

structure Rw where
  lo : Nat
  hi : Nat
  T : TypeId
  sz : Nat
  v : Value
  n : Nat
  xs : List Value

structure Row1 (w : World) (r : Rw) : Prop where
  own : w.ownsRow r.lo r.T r.sz r.v r.n r.xs
  top : ∀ g, r.v.ownBlock = some g → g < r.hi

structure Rows (W0 w : World) (rs : List Rw) : Prop where
  all : ∀ r ∈ rs, Row1 w r ∧ W0.heap.size ≤ r.lo ∧ r.hi ≤ w.heap.size
  ord : rs.Pairwise fun r s => r.hi ≤ s.lo
  bel : Below W0.heap.size W0 w

theorem Rows.start (w : World) : Rows w w [] := ⟨(fun _ h => by cases h), List.Pairwise.nil, Below.refl _ _⟩
theorem Rows.get {W0 w : World} {rs : List Rw} (h : Rows W0 w rs) (r : Rw) (hr : r ∈ rs) : w.ownsRow r.lo r.T r.sz r.v r.n r.xs := (h.all r hr).1.own
theorem Rows.call {W0 w w' : World} {rs : List Rw} (h : Rows W0 w rs) (hb : Below w.heap.size w w') : Rows W0 w' rs :=
  ⟨fun r hr => by
    obtain ⟨⟨a, b⟩, c, d⟩ := h.all r hr
    refine ⟨⟨?_, b⟩, c, Nat.le_trans d hb.size⟩
    exact a.kept (row := none) ⟨hb.os, hb.tape, hb.output, hb.size, fun k hk _ => hb.block k hk⟩ (by cases r.v.ownBlock <;> simp),
   h.ord, below_call h.bel h.bel.size hb⟩
theorem Rows.add {W0 w w' : World} {rs : List Rw} (h : Rows W0 w rs) (hb : Below w.heap.size w w') {T : TypeId} {sz : Nat} {v : Value} {n : Nat} {xs : List Value} (ho : w'.ownsRow w.heap.size T sz v n xs) : Rows W0 w' (rs ++ [⟨w.heap.size, w'.heap.size, T, sz, v, n, xs⟩]) := by
  have k := h.call hb
  refine ⟨fun r hr => ?_, ?_, k.bel⟩
  · rcases List.mem_append.1 hr with m | m
    · exact k.all r m
    · rw [List.mem_singleton] at m
      subst m
      exact ⟨⟨ho, fun g hg => (ho.lt g hg).2⟩, h.bel.size, Nat.le_refl _⟩
  · refine List.pairwise_append.2 ⟨k.ord, List.pairwise_singleton _ _, fun r hr s hs => ?_⟩
    rw [List.mem_singleton] at hs
    subst hs
    exact (h.all r hr).2.2
theorem Rows.write {W0 w w' : World} {l1 l2 : List Rw} {r : Rw} (h : Rows W0 w (l1 ++ r :: l2)) (hg : w.grownBy w' r.v.ownBlock) {xs : List Value} (ho : w'.ownsRow r.lo r.T r.sz r.v r.n xs) : Rows W0 w' (l1 ++ { r with xs := xs } :: l2) := by
  obtain ⟨p1, p2, p3⟩ := List.pairwise_append.1 h.ord
  have p2' := List.pairwise_cons.1 p2
  have mr : r ∈ l1 ++ r :: l2 := by simp
  obtain ⟨⟨ra, rb⟩, rc, rd⟩ := h.all r mr
  have other : ∀ s ∈ l1 ++ r :: l2, (s.hi ≤ r.lo ∨ r.hi ≤ s.lo) → Row1 w' s ∧ W0.heap.size ≤ s.lo ∧ s.hi ≤ w'.heap.size := by
    intro s hs hd
    obtain ⟨⟨a, b⟩, c, d⟩ := h.all s hs
    refine ⟨⟨a.kept hg ?_, b⟩, c, Nat.le_trans d hg.size⟩
    cases e : s.v.ownBlock with
    | none => exact Or.inl rfl
    | some g =>
      right
      intro e2
      have l := b g e
      have l2 := (a.lt g e).1
      have l3 := rb g e2.symm
      have l4 := (ra.lt g e2.symm).1
      omega
  refine ⟨fun s hs => ?_, ?_, ?_⟩
  · rcases List.mem_append.1 hs with m | m
    · exact other s (by simp [m]) (Or.inl (p3 s m r (by simp)))
    · rcases List.mem_cons.1 m with e | m
      · subst e
        exact ⟨⟨ho, rb⟩, rc, Nat.le_trans rd hg.size⟩
      · exact other s (by simp [m]) (Or.inr (p2'.1 s m))
  · refine List.pairwise_append.2 ⟨p1, List.pairwise_cons.2 ⟨p2'.1, p2'.2⟩, fun s hs t ht => ?_⟩
    rcases List.mem_cons.1 ht with e | m
    · subst e; exact p3 s hs r (by simp)
    · exact p3 s hs t (by simp [m])
  · exact h.bel.grown hg h.bel.size (fun k hk => Nat.le_trans rc (ra.lt k hk).1)
end Go.Proofs.YtkllilehdpdbdaaGreatDoor
