/- Slices in memory: what one shows, what a call owns, and what an append leaves (plain; of no program). -/
import Derived.Test.YtkllilehdpdbdaaGreatDoorBase
import Derived.OwnWalk
import Derived.ArgAppend
import Derived.Laws.OwnMore
import Derived.Maps.AppendAt
namespace Go.Proofs.YtkllilehdpdbdaaGreatDoor
open Go.RowKit
set_option linter.unusedVariables false

/-- A slice at A (elements of one cell) shows xs, in blocks below B. -/
def Sees (w : World) (B : Nat) (A : Option Addr) (xs : List Value) : Prop :=
  xs ≠ [] → ∃ ad, A = some ad ∧ ad.block < B ∧ ∀ j u, xs[j]? = some u → w.cell? (ad.add j) = some u

theorem add_blk (a : Addr) (n : Nat) : (a.add n).block = a.block := by unfold Addr.add; split <;> rfl

theorem Sees.nil (w : World) (B : Nat) (A : Option Addr) : Sees w B A [] := fun h => absurd rfl h
theorem Sees.at {w : World} {B : Nat} {A : Option Addr} {xs : List Value} (h : Sees w B A xs) {k : Nat} (hk : k < xs.length) : ∃ ad, A = some ad ∧ ad.block < B ∧ w.cell? (ad.add k) = some xs[k] := by
  obtain ⟨ad, e, b, c⟩ := h (fun e => by subst e; cases hk)
  exact ⟨ad, e, b, c k _ (List.getElem?_eq_getElem hk)⟩
theorem Sees.below {w w' : World} {B B' : Nat} {A : Option Addr} {xs : List Value} (h : Sees w B A xs) (hb : Below B' w w') (hB : B ≤ B') : Sees w' B A xs := fun n => by
  obtain ⟨ad, e, b, c⟩ := h n
  exact ⟨ad, e, b, fun j u hu => (hb.cell (by rw [add_blk]; omega)).trans (c j u hu)⟩
theorem Sees.more {w : World} {B B' : Nat} {A : Option Addr} {xs : List Value} (h : Sees w B A xs) (hB : B ≤ B') : Sees w B' A xs := fun n => by
  obtain ⟨ad, e, b, c⟩ := h n
  exact ⟨ad, e, by omega, c⟩
theorem Sees.of_own {w : World} {base : Nat} {T : TypeId} {A : Option Addr} {n c : Nat} {xs : List Value} (h : w.ownsRow base T 1 (.slice A n c) n xs) : Sees w w.heap.size A xs := fun hne => by
  rcases h.2 with ⟨_, h0⟩ | ⟨g, cap, cur, e, _, hg, _⟩
  · exact absurd (List.eq_nil_of_length_eq_zero (by have := h.1; simpa [h0] using this)) hne
  · injection e with e1
    subst e1
    exact ⟨_, rfl, block_lt_of_row hg, h.cells (g := g) rfl⟩
where
  block_lt_of_row {w : World} {g : Nat} {o : Obj} (h : w.heap[g]? = some o) : g < w.heap.size := by
    rcases Nat.lt_or_ge g w.heap.size with l | l
    · exact l
    · rw [Array.getElem?_eq_none l] at h; cases h

/-- What is owned stays owned behind a call that leaves old memory alone. -/
theorem own_call {w w' : World} {base : Nat} {T : TypeId} {v : Value} {n : Nat} {xs : List Value} (h : w.ownsRow base T 1 v n xs) (hb : Below w.heap.size w w') : w'.ownsRow base T 1 v n xs :=
  h.kept (row := none) ⟨hb.os, hb.tape, hb.output, hb.size, fun k hk _ => hb.block k hk⟩ (by cases v.ownBlock <;> simp)
theorem own_form {w : World} {base : Nat} {T : TypeId} {v : Value} {n : Nat} {xs : List Value} (h : w.ownsRow base T 1 v n xs) : xs.length = n ∧ ((v = .slice none 0 0 ∧ n = 0) ∨ ∃ g c, v = .slice (some ⟨g, 0, none⟩) n c ∧ base ≤ g ∧ g < w.heap.size ∧ n ≤ c ∧ c ≤ maxLen) := by
  refine ⟨by simpa using h.1, ?_⟩
  rcases h.2 with a | ⟨g, cap, cur, e, b, hg, n1, n2, _⟩
  · exact Or.inl a
  · exact Or.inr ⟨g, cap, e, b, Sees.of_own.block_lt_of_row hg, n1, n2⟩
/-- a shorter look at what is owned -/
theorem own_take {w : World} {base : Nat} {T : TypeId} {g n m c : Nat} {xs : List Value} (h : w.ownsRow base T 1 (.slice (some ⟨g, 0, none⟩) n c) n xs) (hm : m ≤ n) : w.ownsRow base T 1 (.slice (some ⟨g, 0, none⟩) m c) m (xs.take m) := by
  have hl : xs.length = n := by simpa using h.1
  refine ⟨by simp; omega, ?_⟩
  rcases h.2 with ⟨e, _⟩ | ⟨g', c', cur, e, b, hg, n1, n2, n3, n4⟩
  · cases e
  · injection e with e1 e2 e3
    injection e1 with e1
    injection e1 with e1
    subst e1 e3
    refine Or.inr ⟨g, c, cur, rfl, b, hg, by omega, n2, n3, ?_⟩
    rw [← n4, List.take_take, Nat.mul_one, Nat.mul_one, Nat.min_eq_left hm]

/-- A call that answers a row of its own, and leaves old memory alone. -/
def OwnRet (w : World) (T : TypeId) (xs : List Value) (e : Ending) (w' : World) : Prop := ∃ v, e = .returned v ∧ w'.ownsRow w.heap.size T 1 v xs.length xs ∧ Below w.heap.size w w'
end Go.Proofs.YtkllilehdpdbdaaGreatDoor
