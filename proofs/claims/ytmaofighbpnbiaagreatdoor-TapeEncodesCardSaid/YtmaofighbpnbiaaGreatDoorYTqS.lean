/- Frames whose bytes have each a block of their own, with what lies behind them (memory). -/
import Derived.Test.YtmaofighbpnbiaaGreatDoorYTqE
import Derived.Maps.AppendAt
namespace Go.Proofs.YtmaofighbpnbiaaGreatDoor
open Go Go.RowKit Go.Sort
set_option linter.unusedVariables false
set_option linter.unusedSimpArgs false
section
structure RM where
 at_ : Int
 g : Nat
 c : Nat
 bs : List Int
 ex : List Int
def RM.fa (x : RM) : FA := ⟨x.at_, ⟨some ⟨x.g, 0, none⟩, x.c, x.bs⟩⟩
def rmV (M : List RM) : List Value := M.flatMap fun x => frV x.fa
def OneR (w : World) (LO : Nat) (x : RM) : Prop := w.ownsRow LO 5 1 (.slice (some ⟨x.g, 0, none⟩) (x.bs ++ x.ex).length x.c) (x.bs ++ x.ex).length (bts (x.bs ++ x.ex))
theorem own_blk {w : World} {LO sz g n c : Nat} {T : TypeId} {xs : List Value} (h : w.ownsRow LO T sz (.slice (some ⟨g, 0, none⟩) n c) n xs) : LO ≤ g ∧ g < w.heap.size ∧ n ≤ c ∧ ∃ cur, w.heap[g]? = some (.cells cur T (0, 0)) := by
 rcases h.2 with ⟨z, _⟩ | ⟨g', cap, cur, z, hb, hg, hn, _⟩
 ·cases z
 ·injection z with z1 z2 z3
  injection z1 with z1
  injection z1 with z1
  subst z1
  exact ⟨hb, (Array.getElem?_eq_some_iff.1 hg).1, by rw [z3]; exact hn, cur, hg⟩
theorem own_at {w w' : World} {LO sz g n c : Nat} {T : TypeId} {xs : List Value} (h : w.ownsRow LO T sz (.slice (some ⟨g, 0, none⟩) n c) n xs) (e : w'.heap[g]? = w.heap[g]?) : w'.ownsRow LO T sz (.slice (some ⟨g, 0, none⟩) n c) n xs := by
 refine ⟨h.1, ?_⟩
 rcases h.2 with ⟨z, _⟩ | ⟨g', cap, cur, z, hb, hg, rest⟩
 ·cases z
 ·have z' := z
  injection z with z1 z2 z3
  injection z1 with z1
  injection z1 with z1
  subst z1
  exact Or.inr ⟨g, cap, cur, z', hb, e.trans hg, rest⟩
theorem OneR.keep {w w' : World} {LO : Nat} {x : RM} (h : OneR w LO x) (e : w'.heap[x.g]? = w.heap[x.g]?) : OneR w' LO x := own_at h e
def z77 (k : Nat) : List Value := (List.replicate k [Value.int .i64 (-77), Value.slice none 0 0]).flatten
theorem z77_len (k : Nat) : (z77 k).length = k * 2 := by unfold z77; simp
theorem z77_succ (k : Nat) : z77 (k + 1) = z77 k ++ [.int .i64 (-77), .slice none 0 0] := by
 unfold z77
 rw [List.replicate_succ', List.flatten_append, List.flatten_singleton]
theorem rmV_len (M : List RM) : (rmV M).length = M.length * 2 := by
 induction M with
 | nil => rfl
 | cons x l ih => unfold rmV at *; rw [List.flatMap_cons, List.length_append, ih, List.length_cons]; show 2 + _ = _; omega
theorem rmV_app (A B : List RM) : rmV (A ++ B) = rmV A ++ rmV B := by unfold rmV; rw [List.flatMap_append]
theorem rmV_cons (x : RM) (B : List RM) : rmV (x :: B) = [.int .i64 x.at_, .slice (some ⟨x.g, 0, none⟩) x.bs.length x.c] ++ rmV B := rfl
def rmF (M : List RM) : List Frm := M.map fun x => ⟨x.at_, x.bs⟩
structure RmS (LO : Nat) (w : World) (v : Value) (M : List RM) (k : Nat) : Prop where
 own : w.ownsRow LO 47 2 v (M.length + k) (rmV M ++ z77 k)
 one : ∀ x ∈ M, OneR w LO x
 rng : ∀ x ∈ M, Byt (x.bs ++ x.ex) ∧ -9223372036854775808 ≤ x.at_ ∧ x.at_ ≤ 9223372036854775807
 dis : (M.map (·.g)).Nodup
section
variable {LO : Nat} {w w' : World} {v : Value} {M : List RM} {k : Nat}
theorem RmS.nil (LO : Nat) (w : World) : RmS LO w (.slice none 0 0) [] 0 := ⟨⟨rfl, Or.inl ⟨rfl, rfl⟩⟩, fun x m => (by cases m), fun x m => (by cases m), List.nodup_nil⟩
theorem OneR.lt {x : RM} (h : OneR w LO x) : LO ≤ x.g ∧ x.g < w.heap.size ∧ (x.bs ++ x.ex).length ≤ x.c ∧ ∃ cur, w.heap[x.g]? = some (.cells cur 5 (0, 0)) := own_blk h
theorem RmS.below (h : RmS LO w v M k) (hb : Below w.heap.size w w') : RmS LO w' v M k := ⟨own_callF h.own hb, fun x m => (h.one x m).keep (hb.block _ (h.one x m).lt.2.1), h.rng, h.dis⟩
theorem RmS.slc (h : RmS LO w v M k) : ∃ A c, v = .slice A (M.length + k) c := own_slcF h.own
theorem RmS.row (h : RmS LO w v M k) (pos : 0 < M.length) : ∃ r c, v = .slice (some ⟨r, 0, none⟩) (M.length + k) c ∧ LO ≤ r ∧ r < w.heap.size ∧ (∀ x ∈ M, x.g ≠ r) ∧ w.frozen? ⟨r, 0, none⟩ = false ∧ M.length + k ≤ c := by
 rcases h.own.2 with ⟨_, z⟩ | ⟨r, c, cur, e, hb, hg, hn, _⟩
 ·omega
 ·refine ⟨r, c, e, hb, (Array.getElem?_eq_some_iff.1 hg).1, fun x m z => ?_, by simp [World.frozen?, hg], hn⟩
  obtain ⟨_, _, _, cu, e2⟩ := (h.one x m).lt
  rw [z, hg] at e2
  cases e2
theorem RmS.push {w1 w2 : World} {x : RM} {v' : Value} (h : RmS LO w v M 0) (hb : Below w.heap.size w w1) (o : OneR w1 w.heap.size x) (hLO : LO ≤ w.heap.size) (ho : w2.ownsRow LO 47 2 v' (M.length + 1) (rmV M ++ [.int .i64 x.at_, .slice (some ⟨x.g, 0, none⟩) x.bs.length x.c])) (hg : w1.grownBy w2 v.ownBlock)
  (r : Byt (x.bs ++ x.ex) ∧ -9223372036854775808 ≤ x.at_ ∧ x.at_ ≤ 9223372036854775807) : RmS LO w2 v' (M ++ [x]) 0 := by
 have k1 := keepN_grown (own_callF h.own hb) hg
 have kk : ∀ y : RM, ∀ L, OneR w1 L y → OneR w2 L y := fun y L oy => oy.keep (by
  obtain ⟨_, _, _, cur, e⟩ := own_blk oy
  exact k1 _ _ _ _ e (by decide))
 refine ⟨?_, fun y m => ?_, fun y m => ?_, ?_⟩
 ·have e : rmV (M ++ [x]) ++ z77 0 = rmV M ++ [.int .i64 x.at_, .slice (some ⟨x.g, 0, none⟩) x.bs.length x.c] := by rw [rmV_app, rmV_cons]; simp [z77, rmV]
  rw [e, List.length_append, List.length_singleton, Nat.add_zero]
  exact ho
 ·rcases List.mem_append.1 m with m | m
  ·exact kk y LO ((h.one y m).keep (hb.block _ (h.one y m).lt.2.1))
  ·rw [List.mem_singleton.1 m]; exact kk x LO (own_low o hLO)
 ·rcases List.mem_append.1 m with m | m
  ·exact h.rng y m
  ·rw [List.mem_singleton.1 m]; exact r
 ·rw [List.map_append, List.nodup_append]
  refine ⟨h.dis, by simp, fun a ha b hb e => ?_⟩
  simp only [List.map_cons, List.map_nil, List.mem_singleton] at hb
  obtain ⟨y, my, rfl⟩ := List.mem_map.1 ha
  have l1 := (h.one y my).lt.2.1
  have l2 := o.lt.1
  rw [e, hb] at l1
  omega
theorem RmS.more {w1 w2 : World} {v' : Value} (h : RmS LO w v M k) (hb : Below w.heap.size w w1) (ho : w2.ownsRow LO 47 2 v' (M.length + k + 1) ((rmV M ++ z77 k) ++ [.int .i64 (-77), .slice none 0 0])) (hg : w1.grownBy w2 v.ownBlock) : RmS LO w2 v' M (k + 1) := by
 have k1 := keepN_grown (own_callF h.own hb) hg
 refine ⟨?_, fun y m => ?_, h.rng, h.dis⟩
 ·rw [z77_succ, ← List.append_assoc]
  exact ho
 ·have oy := (h.one y m).keep (hb.block _ (h.one y m).lt.2.1)
  obtain ⟨_, _, _, cur, e⟩ := own_blk oy
  exact oy.keep (k1 _ _ _ _ e (by decide))
end
theorem RmS.put {LO : Nat} {w w1 : World} {A B : List RM} {x y : RM} {r c n : Nat} (h : RmS LO w (.slice (some ⟨r, 0, none⟩) n c) (A ++ x :: B) 0) (hr : w1.heap[r]? = w.heap[r]?) (far : ∀ g, g < w.heap.size → g ≠ x.g → w1.heap[g]? = w.heap[g]?) (o : OneR w1 LO y) (ty : y.at_ = x.at_) (gy : y.g = x.g ∨ w.heap.size ≤ y.g) (rg : Byt (y.bs ++ y.ex)) :
  RmS LO (w1.setCell ⟨r, A.length * 2 + 1, none⟩ (.slice (some ⟨y.g, 0, none⟩) y.bs.length y.c)) (.slice (some ⟨r, 0, none⟩) n c) (A ++ y :: B) 0 := by
 obtain ⟨r', c', e, rl, rs, rne, _⟩ := h.row (by rw [List.length_append, List.length_cons]; omega)
 injection e with e1 e2 e3
 injection e1 with e1
 injection e1 with e1
 subst e1
 have mx : x ∈ A ++ x :: B := List.mem_append.2 (Or.inr List.mem_cons_self)
 have lx := (h.one x mx).lt
 have yr : y.g ≠ r := by
  rcases gy with z | z
  ·rw [z]; exact rne x mx
  ·omega
 have nd := h.dis
 rw [List.map_append, List.map_cons, List.nodup_append, List.nodup_cons] at nd
 have other : ∀ z ∈ A ++ B, z.g ≠ x.g ∧ z ∈ A ++ x :: B := fun z m => by
  rcases List.mem_append.1 m with m | m
  ·exact ⟨nd.2.2 z.g (List.mem_map_of_mem m) x.g List.mem_cons_self, List.mem_append.2 (Or.inl m)⟩
  ·exact ⟨fun q => nd.2.1.1 (by rw [← q]; exact List.mem_map_of_mem m), List.mem_append.2 (Or.inr (List.mem_cons_of_mem _ m))⟩
 have yo : ∀ z ∈ A ++ B, z.g ≠ y.g := fun z m q => by
  obtain ⟨q1, q2⟩ := other z m
  have := (h.one z q2).lt.2.1
  rcases gy with g | g
  ·exact q1 (q.trans g)
  ·omega
 have kp : ∀ z : RM, z.g ≠ r → OneR w1 LO z → OneR (w1.setCell ⟨r, A.length * 2 + 1, none⟩ (.slice (some ⟨y.g, 0, none⟩) y.bs.length y.c)) LO z := fun z q oz => oz.keep (heap_setCell_other _ _ _ _ q)
 refine ⟨?_, fun z m => ?_, fun z m => ?_, ?_⟩
 ·have o0 := h.own
  rw [e2] at o0
  have o1 := (own_at o0 hr).stored (A.length * 2 + 1) (.slice (some ⟨y.g, 0, none⟩) y.bs.length y.c)
  have el : (A ++ y :: B).length = (A ++ x :: B).length := by rw [List.length_append, List.length_append, List.length_cons, List.length_cons]
  have ex : (rmV (A ++ x :: B) ++ z77 0).set (A.length * 2 + 1) (.slice (some ⟨y.g, 0, none⟩) y.bs.length y.c) = rmV (A ++ y :: B) ++ z77 0 := by
   rw [rmV_app, rmV_app, rmV_cons, rmV_cons]
   simp only [List.append_assoc]
   rw [List.set_append_right _ _ (by rw [rmV_len]; omega), rmV_len, show A.length * 2 + 1 - A.length * 2 = 1 by omega, ty]
   rfl
  rw [el, ← ex, e2]
  exact o1.1
 ·have cs : z = y ∨ z ∈ A ++ B := by
   rcases List.mem_append.1 m with m | m
   ·exact Or.inr (List.mem_append.2 (Or.inl m))
   ·rcases List.mem_cons.1 m with m | m
    ·exact Or.inl m
    ·exact Or.inr (List.mem_append.2 (Or.inr m))
  rcases cs with rfl | m
  ·exact kp z yr o
  ·obtain ⟨q1, q2⟩ := other z m
   exact kp z (rne z q2) ((h.one z q2).keep (far z.g (h.one z q2).lt.2.1 q1))
 ·rcases List.mem_append.1 m with m | m
  ·exact h.rng z (List.mem_append.2 (Or.inl m))
  ·rcases List.mem_cons.1 m with rfl | m
   ·exact ⟨rg, by rw [ty]; exact (h.rng x mx).2⟩
   ·exact h.rng z (List.mem_append.2 (Or.inr (List.mem_cons_of_mem _ m)))
 ·rw [List.map_append, List.map_cons, List.nodup_append, List.nodup_cons]
  refine ⟨nd.1, ⟨fun q => ?_, nd.2.1.2⟩, fun a ha b hb q => ?_⟩
  ·obtain ⟨z, mz, ez⟩ := List.mem_map.1 q
   exact yo z (List.mem_append.2 (Or.inr mz)) ez
  ·rcases List.mem_cons.1 hb with hb | hb
   ·obtain ⟨z, mz, rfl⟩ := List.mem_map.1 ha
    exact yo z (List.mem_append.2 (Or.inl mz)) (q.trans hb)
   ·exact nd.2.2 a ha b (List.mem_cons_of_mem _ hb) q
structure RoomD (w : World) (B : Nat) (A : Option Addr) (c : Nat) (M : List RM) : Prop where
 frs : FrsD w B A c (M.map RM.fa)
 cap : M.length + 9 ≤ c
 row : Sees w B A (rmV M ++ z77 9)
 mks : ∀ x ∈ M, x.bs.length + 9 ≤ x.c ∧ Sees w B (some ⟨x.g, 0, none⟩) (bts (x.bs ++ List.replicate 9 165))
theorem RoomD.below {w w' : World} {B n : Nat} {A : Option Addr} {c : Nat} {M : List RM} (h : RoomD w B A c M) (hb : Below n w w') (hB : B ≤ n) : RoomD w' B A c M := ⟨h.frs.below hb hB, h.cap, h.row.below hb hB, fun x m => ⟨(h.mks x m).1, (h.mks x m).2.below hb hB⟩⟩
theorem own_sees {w : World} {LO sz n c : Nat} {T : TypeId} {A : Option Addr} {xs : List Value} (h : w.ownsRow LO T sz (.slice A n c) n xs) : Sees w w.heap.size A xs := fun hne => by
 rcases h.2 with ⟨z, n0⟩ | ⟨g, cap, cur, z, hb, hg, hn, _, hs, ht⟩
 ·exact absurd (List.eq_nil_of_length_eq_zero (by rw [h.1, n0, Nat.zero_mul])) hne
 ·injection z with z1 z2 z3
  subst z1
  exact ⟨_, rfl, (Array.getElem?_eq_some_iff.1 hg).1, fun j u hj => h.cells (g := g) rfl j u hj⟩
theorem fa_flat (M : List RM) : (M.map RM.fa).flatMap frV = rmV M := by unfold rmV; rw [List.flatMap_map]
theorem RmS.frs {LO : Nat} {w : World} {A : Option Addr} {n c k : Nat} {M : List RM} (h : RmS LO w (.slice A n c) M k) (hl : M.length ≤ 1000000000) (hb : ∀ x ∈ M, x.bs.length ≤ 140737488355328) : FrsD w w.heap.size A c (M.map RM.fa) := by
 have o := h.own
 obtain ⟨A', c', e⟩ := h.slc
 injection e with e1 e2 e3
 rw [e2] at o
 have S := own_sees o
 refine ⟨fun z => ?_, ?_, by rw [List.length_map]; omega, fun ne => ?_, fun x m => ?_⟩
 ·rcases o.2 with ⟨q, _⟩ | ⟨g, cap, cur, q, _⟩
  ·injection q with q1 q2 q3
  ·injection q with q1 q2 q3; rw [z] at q1; cases q1
 ·rw [List.length_map]
  rcases o.2 with ⟨q, y⟩ | ⟨g, cap, cur, q, _, _, y, _⟩
  ·omega
  ·injection q with q1 q2 q3; omega
 ·rw [fa_flat] at ne ⊢
  obtain ⟨ad, a1, a2, a3⟩ := S (by intro z; exact ne (List.append_eq_nil_iff.1 z).1)
  exact ⟨ad, a1, a2, fun j u hj => a3 j u (by rw [List.getElem?_append_left (List.getElem?_eq_some_iff.1 hj).1]; exact hj)⟩
 ·obtain ⟨y, my, rfl⟩ := List.mem_map.1 m
  have oy := h.one y my
  have ly := oy.lt
  have ry := h.rng y my
  refine ⟨⟨(fun z => by cases z), (by show y.bs.length ≤ y.c; have := ly.2.2.1; rw [List.length_append] at this; omega), hb y my, fun ne => ?_, fun b mb => ry.1 b (List.mem_append.2 (Or.inl mb))⟩, ry.2⟩
  obtain ⟨ad, a1, a2, a3⟩ := own_sees oy (by
   intro z
   unfold bts at z
   rw [List.map_eq_nil_iff] at z
   exact ne (by show y.bs.map (Value.int .u8) = []; rw [(List.append_eq_nil_iff.1 z).1]; rfl))
  refine ⟨ad, a1, a2, fun j u hj => a3 j u ?_⟩
  have hj : (bts y.bs)[j]? = some u := hj
  rw [bts_app, List.getElem?_append_left (List.getElem?_eq_some_iff.1 hj).1]
  exact hj
theorem RmS.room {LO : Nat} {w : World} {A : Option Addr} {n c : Nat} {M : List RM} (h : RmS LO w (.slice A n c) M 9) (hl : M.length ≤ 1000000000) (hb : ∀ x ∈ M, x.bs.length ≤ 140737488355328) (mk : ∀ x ∈ M, x.ex = List.replicate 9 165) : RoomD w w.heap.size A c M := by
 obtain ⟨A', c', e⟩ := h.slc
 injection e with e1 e2 e3
 have o := h.own
 rw [e2] at o
 have cap : M.length + 9 ≤ c := by
  rcases o.2 with ⟨q, y⟩ | ⟨g, cap, cur, q, _, _, y, _⟩
  ·omega
  ·injection q with q1 q2 q3; omega
 refine ⟨h.frs hl hb, cap, own_sees o, fun x m => ?_⟩
 have ox := h.one x m
 have lx := ox.lt
 rw [mk x m] at lx
 have S := own_sees ox
 rw [mk x m] at S
 refine ⟨?_, S⟩
 have := lx.2.2.1
 rw [List.length_append, List.length_replicate] at this
 omega
end
end Go.Proofs.YtmaofighbpnbiaaGreatDoor
