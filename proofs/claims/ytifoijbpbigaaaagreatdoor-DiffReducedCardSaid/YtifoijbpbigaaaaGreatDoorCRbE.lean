/- The program's Reduced of any screen, in one row (walk); DiffReduced's own pieces. -/
import Derived.Test.YtifoijbpbigaaaaGreatDoorDaCJ
import Derived.Test.YtifoijbpbigaaaaGreatDoorDaCG
import Derived.Test.YtifoijbpbigaaaaGreatDoorCRaY
set_option linter.unusedVariables false
set_option linter.unusedSimpArgs false
namespace Go.Proofs.YtifoijbpbigaaaaGreatDoor
section
open Go Go.RowKit Go.Sort
section
def redU (s : Scr) (d : Int) : Scr := if zh s = true then redS s d else ⟨0, 0, [], 0, 0, false⟩
def redE (s : Scr) : Int := if zh s = true then 0 else 180
theorem redU_len (s : Scr) (d : Int) : (redU s d).cells.length <= s.cells.length := by
 unfold redU
 split
 ·unfold redS redL; simp
 ·exact Nat.zero_le _
theorem Xg (s : Scr) (d : Int) (A : Option Addr) (c : Nat) (hcp : s.cells.length <= c) (hA : A = none -> c = 0) (hl : s.cells.length <= 1000000000000) (ho : ∀ x ∈ s.cells, okC x) (w : World) (S : Sees w w.heap.size A (zc s.cells)) :
  Calls Tryz.prog 9 #[scrV s A c, .int .i64 d] w fun e w' => ∃ A' c', e = .returned (.tuple #[scrV (redU s d) A' c', .int .i64 (redE s)]) /\ w'.ownsRow w.heap.size 58 5 (.slice A' (redU s d).cells.length c') (redU s d).cells.length (zc (redU s d).cells) /\ Below w.heap.size w w' := by
 cases h : zh s with
 | true =>
  refine (ZT s d A c hcp hA hl ho h w S).mono ?_
  rintro e w' ⟨g, h1, h2, h3⟩
  have e1 : redU s d = redS s d := by unfold redU; rw [if_pos h]
  have e2 : redE s = 0 := by unfold redE; rw [if_pos h]
  have e3 : (redS s d).cells.length = s.cells.length := by unfold redS redL; simp
  rw [e1, e2]
  exact ⟨some ⟨g, 0, none⟩, s.cells.length, h1, by rw [e3]; exact h2, h3⟩
 | false =>
  refine (Jz s d A c hcp hA hl ho h w S).mono ?_
  rintro e w' ⟨h1, h2⟩
  have e1 : redU s d = ⟨0, 0, [], 0, 0, false⟩ := by unfold redU; rw [if_neg (by rw [h]; decide)]
  have e2 : redE s = 180 := by unfold redE; rw [if_neg (by rw [h]; decide)]
  rw [e1, e2]
  exact ⟨none, 0, h1, World.ownsRow_nil _ _ _ _, h2⟩
theorem Xh (s : Scr) (d : Int) (A : Option Addr) (c : Nat) (hcp : s.cells.length <= c) (hA : A = none -> c = 0) (hl : s.cells.length <= 1000000000) (ok : ∀ x ∈ s.cells, okR x) (w : World) (S : Sees w w.heap.size A (zc s.cells)) :
  Calls Tryz.prog 7 #[scrV s A c, .int .i64 d] w fun e w' => ∃ A' c', e = .returned (.tuple #[scrV (redU s d) A' c', .int .i64 (redE s)]) /\ w'.ownsRow w.heap.size 58 5 (.slice A' (redU s d).cells.length c') (redU s d).cells.length (zc (redU s d).cells) /\ Below w.heap.size w w' := by
 refine (JC s d A c hcp hA hl ok w S).mono ?_
 rintro e w' ⟨u, A', c', h1, h2, h3, h4⟩
 have e1 : u = redU s d := h2
 rw [<- e1]
 exact ⟨A', c', h1, h3, h4⟩
theorem Xi {W1 W2 : World} {L1 L2 n1 n2 c1 c2 : Nat} {A1 A2 : Option Addr} {T : TypeId} {xs ys : List Value} (h1 : W1.ownsRow L1 T 5 (.slice A1 n1 c1) n1 xs) (h2 : W2.ownsRow L2 T 5 (.slice A2 n2 c2) n2 ys) (le : W1.heap.size <= L2) : Apart [⟨A1, n1, c1⟩, ⟨A2, n2, c2⟩] := by
 have q : ∀ g, (Value.slice A1 n1 c1).ownBlock = some g -> (Value.slice A2 n2 c2).ownBlock ≠ some g := fun g a b => by
  have := (h1.lt g a).2
  have := (h2.lt g b).1
  omega
 intro j l hj hl ne g e
 have l2 : ∀ n, n < [(⟨A1, n1, c1⟩ : Rv), ⟨A2, n2, c2⟩].length -> n = 0 \/ n = 1 := fun n h => by
  have : n < 2 := h
  omega
 rcases l2 j hj with rfl | rfl <;> rcases l2 l hl with rfl | rfl
 ·exact absurd rfl ne
 ·exact q g e
 ·exact fun z => q g z e
 ·exact absurd rfl ne
end
end
end Go.Proofs.YtifoijbpbigaaaaGreatDoor
