/- Two rows of numbers of a call's own, side by side, each appended to. -/
import Derived.Test.YtkllilehdpdbdaaGreatDoorStyS
namespace Go.Proofs.YtkllilehdpdbdaaGreatDoor
open Go Go.RowKit Go.Sort
set_option linter.unusedVariables false

structure Pair (W0 w : World) (v1 v2 : Value) (l1 l2 : List Int) : Prop where
  o1 : w.ownsRow W0.heap.size 3 1 v1 l1.length (ints l1)
  o2 : w.ownsRow W0.heap.size 3 1 v2 l2.length (ints l2)
  ap : ∀ g, v1.ownBlock = some g → v2.ownBlock ≠ some g
  be : Below W0.heap.size W0 w

theorem Pair.one {W0 w w' : World} {v1 v2 v1' : Value} {l1 l2 l1' : List Int} (h : Pair W0 w v1 v2 l1 l2) (ho : w'.ownsRow W0.heap.size 3 1 v1' l1'.length (ints l1')) (hg : w.grownBy w' v1.ownBlock)
    (ha : v1'.ownBlock = v1.ownBlock ∨ ∃ g, v1'.ownBlock = some g ∧ w.heap.size ≤ g) : Pair W0 w' v1' v2 l1' l2 where
  o1 := ho
  o2 := h.o2.kept hg (by
    cases e : v2.ownBlock with
    | none => exact Or.inl rfl
    | some g => exact Or.inr fun q => h.ap g q.symm e)
  ap := fun g hg1 hg2 => by
    rcases ha with a | ⟨g', a, b⟩
    · exact h.ap g (a ▸ hg1) hg2
    · rw [a] at hg1
      cases hg1
      have := (h.o2.lt g hg2).2
      omega
  be := h.be.grown hg h.be.size (fun k hk => (h.o1.lt k hk).1)
theorem Pair.two {W0 w w' : World} {v1 v2 v2' : Value} {l1 l2 l2' : List Int} (h : Pair W0 w v1 v2 l1 l2) (ho : w'.ownsRow W0.heap.size 3 1 v2' l2'.length (ints l2')) (hg : w.grownBy w' v2.ownBlock)
    (ha : v2'.ownBlock = v2.ownBlock ∨ ∃ g, v2'.ownBlock = some g ∧ w.heap.size ≤ g) : Pair W0 w' v1 v2' l1 l2' where
  o2 := ho
  o1 := h.o1.kept hg (by
    cases e : v1.ownBlock with
    | none => exact Or.inl rfl
    | some g => exact Or.inr fun q => h.ap g e q.symm)
  ap := fun g hg1 hg2 => by
    rcases ha with a | ⟨g', a, b⟩
    · exact h.ap g hg1 (a ▸ hg2)
    · rw [a] at hg2
      cases hg2
      have := (h.o1.lt g hg1).2
      omega
  be := h.be.grown hg h.be.size (fun k hk => (h.o2.lt k hk).1)

theorem wp_app1 {ops : Array Oper} {rest : List Oper} {o : Oper} {a : Act} {Q : Exit → Act → World → Prop} {W0 w : World} {v1 v2 : Value} {l1 l2 : List Int} (P : Pair W0 w v1 v2 l1 l2) (s x : Operand) (n : Int) (hm : l1.length ≤ 1000) (hgd : o.guard = none)
    (ho : o.op = .call { callee := .builtin .append, args := #[s, x], argTypes := #[33, 33] }) (hs : a.eval s = v1) (hx : a.eval x = .slice (some ⟨w.heap.size, 0, none⟩) 1 1)
    (h : ∀ v' w', Hid (Pair W0 w' v' v2 (l1 ++ [n]) l2) → wpList Tryz.prog ops Q rest (a.put o.dst v') w') : wpList Tryz.prog ops Q (o :: rest) a (w.alloc (.cells #[.int .i64 n] 3)) := by
  obtain ⟨i0, hi0, hz0, hz1, hz2⟩ := info_parts infoI
  refine wpList_append_own_at _ hgd s x 33 ho W0.heap.size 3 i0 (.int .i64 0) 1 8 Tryz.underlying33 hi0 hz0 hz1 hz2 rfl (by decide) v1 l1.length (ints l1) hs (P.o1.alloc _) ⟨w.heap.size, 0, none⟩ 1 1 (ints [n]) hx rfl (newsL w (ints [n]) 3)
    (fun u hu => by simp [ints] at hu; subst hu; rfl) (by unfold maxLen; omega) (by omega) (by have := P.be.size; simp; omega) ?_
  intro v' w' h1 h2 _ h4
  refine h v' w' (Lib.hid (P.one ?_ (grown_alloc h2) ?_))
  · rw [List.length_append, ints_app]; exact h1
  · rcases h4 with e | e
    · exact Or.inl e
    · exact Or.inr ⟨_, e, by simp⟩
theorem wp_app2 {ops : Array Oper} {rest : List Oper} {o : Oper} {a : Act} {Q : Exit → Act → World → Prop} {W0 w : World} {v1 v2 : Value} {l1 l2 : List Int} (P : Pair W0 w v1 v2 l1 l2) (s x : Operand) (n : Int) (hm : l2.length ≤ 1000) (hgd : o.guard = none)
    (ho : o.op = .call { callee := .builtin .append, args := #[s, x], argTypes := #[33, 33] }) (hs : a.eval s = v2) (hx : a.eval x = .slice (some ⟨w.heap.size, 0, none⟩) 1 1)
    (h : ∀ v' w', Hid (Pair W0 w' v1 v' l1 (l2 ++ [n])) → wpList Tryz.prog ops Q rest (a.put o.dst v') w') : wpList Tryz.prog ops Q (o :: rest) a (w.alloc (.cells #[.int .i64 n] 3)) := by
  obtain ⟨i0, hi0, hz0, hz1, hz2⟩ := info_parts infoI
  refine wpList_append_own_at _ hgd s x 33 ho W0.heap.size 3 i0 (.int .i64 0) 1 8 Tryz.underlying33 hi0 hz0 hz1 hz2 rfl (by decide) v2 l2.length (ints l2) hs (P.o2.alloc _) ⟨w.heap.size, 0, none⟩ 1 1 (ints [n]) hx rfl (newsL w (ints [n]) 3)
    (fun u hu => by simp [ints] at hu; subst hu; rfl) (by unfold maxLen; omega) (by omega) (by have := P.be.size; simp; omega) ?_
  intro v' w' h1 h2 _ h4
  refine h v' w' (Lib.hid (P.two ?_ (grown_alloc h2) ?_))
  · rw [List.length_append, ints_app]; exact h1
  · rcases h4 with e | e
    · exact Or.inl e
    · exact Or.inr ⟨_, e, by simp⟩

/-- the first row's numbers, as far as the loop has come -/
def tkK (g : B8) (k : Nat) : List Int := ((List.range k).filter fun i => decide (2 ≤ i) && g.getLsbD i).map offN
def stK (g : B8) (k : Nat) : List Int := ((List.range k).filter fun i => g.getLsbD i).map onN
theorem tkK_next (g : B8) (k : Nat) (h : 2 ≤ k) : tkK g (k + 1) = if g.getLsbD k = true then tkK g k ++ [offN k] else tkK g k := by
  unfold tkK
  rw [List.range_succ, List.filter_append, List.map_append]
  cases e : g.getLsbD k
  · simp [e]
  · simp [e, h]
theorem stK_next (g : B8) (k : Nat) : stK g (k + 1) = if g.getLsbD k = true then stK g k ++ [onN k] else stK g k := by
  unfold stK
  rw [List.range_succ, List.filter_append, List.map_append]
  cases e : g.getLsbD k
  · simp [e]
  · simp [e]
theorem tkK_len (g : B8) (k : Nat) : (tkK g k).length ≤ k := by unfold tkK; rw [List.length_map]; exact Nat.le_trans (List.length_filter_le _ _) (by simp)
theorem stK_len (g : B8) (k : Nat) : (stK g k).length ≤ k := by unfold stK; rw [List.length_map]; exact Nat.le_trans (List.length_filter_le _ _) (by simp)
theorem tkK_two (g : B8) : tkK g 2 = [] := by unfold tkK; simp [List.range_succ]
theorem tkK_all (g : B8) : tkK g 8 = takeL g := rfl
theorem stK_all (g : B8) : stK g 8 = setL g := rfl
end Go.Proofs.YtkllilehdpdbdaaGreatDoor
