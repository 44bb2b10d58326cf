/- Rows of frames in segments (memory). -/
import Derived.Test.YtmaofighbpnbiaaGreatDoorYTqF
namespace Go.Proofs.YtmaofighbpnbiaaGreatDoor
open Go Go.RowKit Go.Sort
set_option linter.unusedVariables false
set_option linter.unusedSimpArgs false
section
structure TA where
 A : Option Addr
 c : Nat
 L : List FA
def taV (t : TA) : Value := .slice t.A t.L.length t.c
def tpsF (T : List TA) : List (List Frm) := T.map fun t => frms t.L
structure TpsD (w : World) (B : Nat) (A : Option Addr) (c : Nat) (T : List TA) : Prop where
 cap : T.length ≤ c
 sz : T.length ≤ 140737488355328
 sees : Sees w B A (T.map taV)
 ok : ∀ t ∈ T, FrsD w B t.A t.c t.L
theorem TpsD.below {w w' : World} {B n : Nat} {A : Option Addr} {c : Nat} {T : List TA} (h : TpsD w B A c T) (hb : Below n w w') (hB : B ≤ n) : TpsD w' B A c T := ⟨h.cap, h.sz, h.sees.below hb hB, fun t m => (h.ok t m).below hb hB⟩
theorem TpsD.at {w : World} {B : Nat} {A : Option Addr} {c : Nat} {T : List TA} (h : TpsD w B A c T) (k : Nat) (hk : k < T.length) : ∃ ad, A = some ad ∧ ad.block < B ∧ w.cell? (ad.add k) = some (taV T[k]) := by
 obtain ⟨ad, e, lb, hc⟩ := h.sees (fun z => by rw [List.map_eq_nil_iff] at z; rw [z] at hk; cases hk)
 exact ⟨ad, e, lb, hc k _ (by rw [List.getElem?_map, List.getElem?_eq_getElem hk]; rfl)⟩
structure Seg where
 g : Nat
 base : Int
 L : List FA
def segF (S : List Seg) : List FA := S.flatMap fun s => cpF s.g s.base 0 s.L
theorem segF_app (S : List Seg) (s : Seg) : segF (S ++ [s]) = segF S ++ cpF s.g s.base 0 s.L := by unfold segF; rw [List.flatMap_append]; simp
structure SegS (LO : Nat) (w : World) (v : Value) (S : List Seg) : Prop where
 own : w.ownsRow LO 47 2 v (segF S).length ((segF S).flatMap frV)
 rows : ∀ s ∈ S, LO ≤ s.g ∧ BRow w s.g (flatB s.L).length (flatB s.L)
 ok : ∀ s ∈ S, (flatB s.L).length ≤ 140737488355328 ∧ ∀ x ∈ s.L, Byt x.b.bs ∧ -9223372036854775808 ≤ x.at_ + s.base ∧ x.at_ + s.base ≤ 9223372036854775807
 dis : (S.map (·.g)).Nodup
section
variable {LO : Nat} {w w' : World} {v v' : Value} {S : List Seg}
theorem SegS.nil (LO : Nat) (w : World) : SegS LO w (.slice none 0 0) [] := ⟨⟨rfl, Or.inl ⟨rfl, rfl⟩⟩, fun x m => (by cases m), fun x m => (by cases m), List.nodup_nil⟩
theorem SegS.below (h : SegS LO w v S) (hb : Below w.heap.size w w') : SegS LO w' v S := ⟨own_callF h.own hb, fun s m => ⟨(h.rows s m).1, (h.rows s m).2.keep (hb.block _ (h.rows s m).2.lt)⟩, h.ok, h.dis⟩
theorem SegS.add {g : Nat} {base : Int} {L : List FA} (h : SegS LO w v S) (hLO : LO ≤ w.heap.size) (C : CopAt LO w g (flatB L).length (segF S) base L v' w') (hs : (flatB L).length ≤ 140737488355328) (ok : ∀ x ∈ L, Byt x.b.bs ∧ -9223372036854775808 ≤ x.at_ + base ∧ x.at_ + base ≤ 9223372036854775807) : SegS LO w' v' (S ++ [⟨g, base, L⟩]) := by
 refine ⟨?_, fun s m => ?_, fun s m => ?_, ?_⟩
 ·have o := C.own
  rw [segF_app]
  exact o
 ·rcases List.mem_append.1 m with m | m
  ·obtain ⟨r1, r2⟩ := h.rows s m
   refine ⟨r1, r2.keep ?_⟩
   obtain ⟨_, cur, e, _⟩ := r2
   exact C.kp _ _ _ _ e (by decide)
  ·rw [List.mem_singleton.1 m]
   exact ⟨Nat.le_trans hLO C.gn, C.row⟩
 ·rcases List.mem_append.1 m with m | m
  ·exact h.ok s m
  ·rw [List.mem_singleton.1 m]; exact ⟨hs, ok⟩
 ·rw [List.map_append, List.nodup_append]
  refine ⟨h.dis, by simp, fun a ha b hb e => ?_⟩
  simp only [List.map_cons, List.map_nil, List.mem_singleton] at hb
  obtain ⟨s, ms, rfl⟩ := List.mem_map.1 ha
  have l1 := (h.rows s ms).2.lt
  have l2 := C.gn
  rw [e, hb] at l1
  omega
theorem SegS.frs {A : Option Addr} {n c : Nat} (h : SegS LO w (.slice A n c) S) (hl : (segF S).length ≤ 1000000) : n = (segF S).length ∧ FrsD w w.heap.size A c (segF S) := by
 have e := own_len h.own rfl
 injection e with e1 e2 e3
 subst e2
 refine ⟨rfl, own_frsD h.own hl (fun x m => ?_)⟩
 obtain ⟨s, ms, mx⟩ := List.mem_flatMap.1 m
 exact cpF_ok (h.rows s ms).2 s.base (h.ok s ms).1 s.L 0 [] (by simp) (h.ok s ms).2 x mx
end
end
end Go.Proofs.YtmaofighbpnbiaaGreatDoor
