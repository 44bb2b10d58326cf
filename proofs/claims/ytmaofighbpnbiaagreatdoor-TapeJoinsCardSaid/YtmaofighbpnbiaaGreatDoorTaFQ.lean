/- What lies below tapes (kept of earlier texts: TrA, TrB, TrC, TrG, VyK). -/
import Derived.Test.YtmaofighbpnbiaaGreatDoorTaFP
import Derived.ArgAppend
import Derived.Test.YtmaofighbpnbiaaGreatDoorRows
import Derived.ProofKit
import Derived.LaidMore
import Derived.OpenShut
import Derived.MakeChecks
import Derived.Lib.LaidTab
import Derived.Stop.LaidErr
import Derived.Stop.Joined
set_option linter.unusedVariables false
set_option linter.unusedSimpArgs false
namespace Go.Proofs.YtmaofighbpnbiaaGreatDoor
section
open Go Go.RowKit Go.Sort
section
def ovB (i : Nat) : Int := 200 + ((i % 50 : Nat) : Int)
def ovA (i : Nat) : Int := 7 + ((i % 3 : Nat) : Int)
def SpR (x y : FA) : Prop := ∀ g o o', x.b.A = some ⟨g, o, none⟩ -> y.b.A = some ⟨g, o', none⟩ -> x.b.bs.length = 0 \/ y.b.bs.length = 0 \/ o + x.b.bs.length <= o'
structure SpanD (LO HI : Nat) (w : World) (Z : List FA) : Prop where
 adr : ∀ x ∈ Z, ∃ g o, x.b.A = some ⟨g, o, none⟩ /\ x.b.c = x.b.bs.length /\ LO <= g /\ g < HI /\ ∃ cur, w.heap[g]? = some (.cells cur 5 (0, 0)) /\ o + x.b.bs.length <= cur.size
 dis : Z.Pairwise SpR
theorem vZ (g : Nat) (base : Int) : ∀ (o : Nat) (l : List FA), ∀ x ∈ cpF g base o l, ∃ o', x.b.A = some ⟨g, o', none⟩ /\ x.b.c = x.b.bs.length /\ (x.b.bs.length = 0 \/ o <= o') /\ o' + x.b.bs.length <= o + (zu l).length
 | _, [], x, m => by cases m
 | o, y :: l, x, m => by
  have f : (zu (y :: l)).length = y.b.bs.length + (zu l).length := by unfold zu; rw [List.flatMap_cons, List.length_append]
  rw [cpF] at m
  rcases List.mem_cons.1 m with rfl | m
  ·by_cases z : y.b.bs.length = 0
   ·exact ⟨0, by simp only; rw [if_pos z], rfl, Or.inl z, by show 0 + y.b.bs.length <= _; omega⟩
   ·exact ⟨o, by simp only; rw [if_neg z], rfl, Or.inr zdZ, by show o + y.b.bs.length <= _; omega⟩
  ·obtain ⟨o', a, b, c, d⟩ := vZ g base (o + y.b.bs.length) l x m
   exact ⟨o', a, b, by omega, by omega⟩
theorem cp_dis (g : Nat) (base : Int) : ∀ (o : Nat) (l : List FA), (cpF g base o l).Pairwise SpR
 | _, [] => List.Pairwise.nil
 | o, y :: l => by
  rw [cpF]
  refine List.Pairwise.cons (fun x m g' p p' e1 e2 => ?_) (cp_dis g base _ l)
  obtain ⟨o', a, b, c, d⟩ := vZ g base _ l x m
  rw [a] at e2
  injection e2 with e2
  injection e2 with e3 e4
  simp only at e1
  injection e1 with e1
  injection e1 with e5 e6
  show y.b.bs.length = 0 \/ _ \/ p + y.b.bs.length <= p'
  by_cases z : y.b.bs.length = 0
  ·exact Or.inl z
  ·rw [if_neg z] at e6
   rcases c with c | c
   ·exact Or.inr (Or.inl c)
   ·exact Or.inr (Or.inr (by omega))
theorem SegS.spans {LO : Nat} {w : World} {v : Value} {S : List Seg} (h : SegS LO w v S) : SpanD LO w.heap.size w (segF S) := by
 refine ⟨fun x m => ?_, ?_⟩
 ·obtain ⟨s, ms, mx⟩ := List.mem_flatMap.1 m
  obtain ⟨r1, r2⟩ := h.rows s ms
  obtain ⟨o', a, b, c, d⟩ := vZ s.g s.base 0 s.L x mx
  have lt := r2.lt
  obtain ⟨_, cur, e1, e2, _⟩ := r2
  exact ⟨s.g, o', a, b, r1, lt, cur, e1, by omega⟩
 ·have go : ∀ S : List Seg, (S.map (·.g)).Nodup -> (segF S).Pairwise SpR := by
   intro S
   induction S with
   | nil => intro _; exact List.Pairwise.nil
   | cons s S ih =>
    intro nd
    rw [List.map_cons, List.nodup_cons] at nd
    unfold segF
    rw [List.flatMap_cons, List.pairwise_append]
    refine ⟨cp_dis _ _ _ _, ih nd.2, fun x mx y my g o o' e1 e2 => ?_⟩
    obtain ⟨t, mt, my⟩ := List.mem_flatMap.1 my
    obtain ⟨p, a, _⟩ := vZ s.g s.base 0 s.L x mx
    obtain ⟨q, b, _⟩ := vZ t.g t.base 0 t.L y my
    rw [a] at e1
    rw [b] at e2
    injection e1 with e1
    injection e1 with e1
    injection e2 with e2
    injection e2 with e2
    exact absurd (List.mem_map_of_mem (f := (·.g)) mt) (by rw [e2, <- e1]; exact nd.1)
  exact go S h.dis
theorem SpanD.below {LO HI : Nat} {w w' : World} {Z : List FA} (h : SpanD LO HI w Z) (k : ∀ q, LO <= q -> q < HI -> ∀ cur, w.heap[q]? = some (.cells cur 5 (0, 0)) -> w'.heap[q]? = w.heap[q]?) : SpanD LO HI w' Z := ⟨fun x m => by
 obtain ⟨g, o, a, b, c, d, cur, e, f⟩ := h.adr x m
 exact ⟨g, o, a, b, c, d, cur, (k g c d cur e).trans e, f⟩, h.dis⟩
theorem SpanD.set {LO HI : Nat} {w : World} {Z : List FA} (h : SpanD LO HI w Z) {g j : Nat} {cur : Array Value} (e : w.heap[g]? = some (.cells cur 5 (0, 0))) (u : Value) : SpanD LO HI (w.setCell ⟨g, j, none⟩ u) Z := ⟨fun x m => by
 obtain ⟨g', o, a, b, c, d, cu, e', f⟩ := h.adr x m
 by_cases q : g' = g
 ·subst q
  rw [e] at e'
  cases e'
  exact ⟨g', o, a, b, c, d, cur.setIfInBounds j u, heap_setCell_same w g' j cur _ u e, by simpa using f⟩
 ·exact ⟨g', o, a, b, c, d, cu, (heap_setCell_other w _ _ _ q).trans e', f⟩, h.dis⟩
theorem SpanD.apart {LO HI : Nat} {w : World} {Z : List FA} (h : SpanD LO HI w Z) {i j : Nat} (hi : i < Z.length) (hj : j < Z.length) (ne : i ≠ j) {g o g' o' : Nat} (e1 : (Z[i]).b.A = some ⟨g, o, none⟩) (e2 : (Z[j]).b.A = some ⟨g', o', none⟩) {k l : Nat} (hk : k < (Z[i]).b.bs.length) (hl : l < (Z[j]).b.bs.length) : (⟨g, o + k, none⟩ : Addr) ≠ ⟨g', o' + l, none⟩ := by
 intro z
 injection z with z1 z2
 subst z1
 have pw := List.pairwise_iff_getElem.1 h.dis
 rcases Nat.lt_or_gt_of_ne ne with lt | lt
 ·rcases pw i j hi hj lt g o o' e1 e2 with a | a | a <;> omega
 ·rcases pw j i hj hi lt g o' o e2 e1 with a | a | a <;> omega
structure Ov1 (LO HI : Nat) (w0 : World) (r : Nat) (Z : List FA) (i k : Nat) (w : World) : Prop where
 row : w.heap[r]? = w0.heap[r]?
 spn : SpanD LO HI w Z
 st : ∀ j, (hj : j < Z.length) -> ∀ g o, (Z[j]).b.A = some ⟨g, o, none⟩ -> ∀ l, l < (Z[j]).b.bs.length -> (j < i \/ (j = i /\ l < k)) -> w.cell? ⟨g, o + l, none⟩ = some (.int .u8 (ovB j))
 far : ∀ q, (q < LO \/ HI <= q) -> w.heap[q]? = w0.heap[q]?
 os : w.os = w0.os
 tape : w.tape = w0.tape
 output : w.output = w0.output
 size : w.heap.size = w0.heap.size
theorem Ov1.init {LO HI : Nat} {w0 : World} {Z : List FA} (r : Nat) (h : SpanD LO HI w0 Z) : Ov1 LO HI w0 r Z 0 0 w0 := ⟨rfl, h, fun j hj g o _ l _ z => by omega, fun _ _ => rfl, rfl, rfl, rfl, rfl⟩
theorem Ov1.next {LO HI : Nat} {w0 w : World} {r : Nat} {Z : List FA} {i : Nat} (hi : i < Z.length) (h : Ov1 LO HI w0 r Z i (Z[i]).b.bs.length w) : Ov1 LO HI w0 r Z (i + 1) 0 w := ⟨h.row, h.spn, fun j hj g o e l hl z => h.st j hj g o e l hl (by
 rcases Nat.lt_or_ge j i with q | q
 ·exact Or.inl q
 ·obtain rfl : j = i := by omega
  exact Or.inr ⟨rfl, hl⟩), h.far, h.os, h.tape, h.output, h.size⟩
theorem Ov1.store {LO HI : Nat} {w0 w : World} {r : Nat} {Z : List FA} {i k g o : Nat} (h : Ov1 LO HI w0 r Z i k w) (hi : i < Z.length) (hk : k < (Z[i]).b.bs.length) (e : (Z[i]).b.A = some ⟨g, o, none⟩) {cr : Array Value} (hr : w0.heap[r]? = some (.cells cr 47 (0, 0))) :
  (∃ u, w.cell? ⟨g, o + k, none⟩ = some u) /\ w.frozen? ⟨g, o + k, none⟩ = false /\ Ov1 LO HI w0 r Z i (k + 1) (w.setCell ⟨g, o + k, none⟩ (.int .u8 (ovB i))) := by
 obtain ⟨g', o', e', c1, c2, c3, cur, e1, e2⟩ := h.spn.adr _ (List.getElem_mem hi)
 rw [e] at e'
 injection e' with e'
 injection e' with q1 q2
 subst q1
 subst q2
 have ne : r ≠ g := fun z => by rw [z] at hr; rw [<- z, h.row, z, hr] at e1; cases e1
 have cl : w.cell? ⟨g, o + k, none⟩ = cur[o + k]? := cell_of_row w g (o + k) cur _ (0, 0) e1
 have lt : o + k < cur.size := by omega
 rw [Array.getElem?_eq_getElem lt] at cl
 refine ⟨⟨_, cl⟩, frozen_of_row w g (o + k) cur _ e1, ⟨(heap_setCell_other w _ _ _ ne).trans h.row, h.spn.set e1 _, fun j hj g2 o2 e3 l hl z => ?_, fun q hq => (heap_setCell_other w _ _ _ (fun z => by have z : q = g := z; omega)).trans (h.far q hq), h.os, h.tape, h.output, by simpa using h.size⟩⟩
 by_cases same : j = i /\ l = k
 ·obtain ⟨rfl, rfl⟩ := same
  rw [e] at e3
  cases e3
  exact World.cell?_setCell_same w ⟨g, o + l, none⟩ _ cl
 ·have ap : (⟨g, o + k, none⟩ : Addr) ≠ ⟨g2, o2 + l, none⟩ := by
   by_cases ij : i = j
   ·subst ij
    rw [e] at e3
    cases e3
    intro q
    injection q with q1 q2
    exact same ⟨rfl, by omega⟩
   ·exact h.spn.apart hi hj ij e e3 hk hl
  exact (World.cell?_setCell_other w _ _ _ ap).trans (h.st j hj g2 o2 e3 l hl (by omega))
theorem Za {w : World} {LO r n c : Nat} {R : List FA} (o : w.ownsRow LO 47 2 (.slice (some ⟨r, 0, none⟩) n c) n (R.flatMap frV)) (i : Nat) (hi : i < R.length) : w.cell? ⟨r, i * 2, none⟩ = some (.int .i64 (R[i]).at_) /\ w.cell? ⟨r, i * 2 + 1, none⟩ = some (.slice (R[i]).b.A (R[i]).b.bs.length (R[i]).b.c) /\ ∀ j, w.frozen? ⟨r, j, none⟩ = false := by
 have ln : n * 2 = R.length * 2 := by have := o.1; rw [Jb] at this; omega
 obtain ⟨a, b⟩ := QR R i hi
 exact ⟨(o.cellAt _ (by omega)).trans a, (o.cellAt _ (by omega)).trans b, fun j => o.frozenAt j⟩
theorem fr_set (R : List FA) (i : Nat) (hi : i < R.length) (x : FA) (ht : x.at_ = (R[i]).at_) : (R.flatMap frV).set (i * 2 + 1) (.slice x.b.A x.b.bs.length x.b.c) = (R.set i x).flatMap frV := by
 have d : R = R.take i ++ R[i] :: R.drop (i + 1) := by rw [<- List.drop_eq_getElem_cons hi, List.take_append_drop]
 have s : R.set i x = R.take i ++ x :: R.drop (i + 1) := by
  conv => lhs; rw [d]
  rw [List.set_append_right _ _ (by rw [List.length_take]; omega), List.length_take, Nat.min_eq_left (by omega), Nat.sub_self]
  rfl
 rw [s]
 conv => lhs; rw [d]
 rw [List.flatMap_append, List.flatMap_append, List.flatMap_cons, List.flatMap_cons]
 have l : ((R.take i).flatMap frV).length = i * 2 := by rw [Jb, List.length_take, Nat.min_eq_left (by omega)]
 rw [List.set_append_right _ _ (by omega), l, show i * 2 + 1 - i * 2 = 1 by omega]
 simp only [frV, List.cons_append, List.set_cons_succ, List.set_cons_zero, ht]
def ovL (n i k : Nat) : List Int := List.replicate n (ovB i) ++ List.replicate k (ovA i)
theorem Zb (n i k : Nat) : (ovL n i k).length = n + k := by unfold ovL; rw [List.length_append, List.length_replicate, List.length_replicate]
structure Ov2 (LO HI : Nat) (w0 w1 : World) (r n c : Nat) (Z : List FA) (i k : Nat) (R : List FA) (w : World) : Prop where
 own : w.ownsRow LO 47 2 (.slice (some ⟨r, 0, none⟩) n c) n (R.flatMap frV)
 len : R.length = Z.length
 at_ : ∀ j, (hj : j < R.length) -> (hz : j < Z.length) -> (R[j]).at_ = (Z[j]).at_
 don : ∀ j, (hj : j < R.length) -> (hz : j < Z.length) -> j < i \/ (j = i /\ 0 < k) -> ∃ g c, (R[j]).b = ⟨some ⟨g, 0, none⟩, c, ovL (Z[j]).b.bs.length j (if j = i then k else 70)⟩ /\ OneR w w1.heap.size ⟨0, g, c, ovL (Z[j]).b.bs.length j (if j = i then k else 70), []⟩
 no : ∀ j, (hj : j < R.length) -> (hz : j < Z.length) -> i < j \/ (j = i /\ k = 0) -> (R[j]).b = (Z[j]).b
 dis : ∀ j, (hj : j < R.length) -> (hi : i < R.length) -> j < i -> 0 < k -> (R[j]).b.A ≠ (R[i]).b.A
 old : ∀ q, q < w1.heap.size -> q ≠ r -> w.heap[q]? = w1.heap[q]?
 size : w1.heap.size <= w.heap.size
 os : w.os = w0.os
 tape : w.tape = w0.tape
 output : w.output = w0.output
end
end
section
open Go Go.RowKit Go.Sort
section
theorem zaV (n i k : Nat) : ovL n i k ++ [ovA i] = ovL n i (k + 1) := by unfold ovL; rw [List.append_assoc, <- List.replicate_succ']
theorem Ov2.init {LO HI : Nat} {w0 w1 : World} {r n c : Nat} {Z : List FA} (own : w0.ownsRow LO 47 2 (.slice (some ⟨r, 0, none⟩) n c) n (Z.flatMap frV)) (h : Ov1 LO HI w0 r Z Z.length 0 w1) : Ov2 LO HI w0 w1 r n c Z 0 0 Z w1 :=
 ⟨kX own h.row, rfl, fun _ _ _ => rfl, fun j hj hz q => by omega, fun _ _ _ _ => rfl, fun j hj hi q _ => by omega, fun _ _ _ => rfl, zdZ, h.os, h.tape, h.output⟩
theorem Ov2.next {LO HI : Nat} {w0 w1 w : World} {r n c : Nat} {Z R : List FA} {i : Nat} (h : Ov2 LO HI w0 w1 r n c Z i 70 R w) : Ov2 LO HI w0 w1 r n c Z (i + 1) 0 R w :=
 ⟨h.own, h.len, h.at_, fun j hj hz q => by
  obtain ⟨g, c, a, b⟩ := h.don j hj hz (by omega)
  refine ⟨g, c, ?_, ?_⟩
  ·rw [if_neg (by omega)]; split at a <;> exact a
  ·rw [if_neg (by omega)]; split at b <;> exact b, fun j hj hz q => h.no j hj hz (by omega), fun j hj hi q z => by omega, h.old, h.size, h.os, h.tape, h.output⟩
theorem Ov2.run {LO HI : Nat} {w0 w1 w : World} {r n c : Nat} {Z R : List FA} {i k : Nat} (h : Ov2 LO HI w0 w1 r n c Z i k R w) (h1 : Ov1 LO HI w0 r Z Z.length 0 w1) (hi : i < Z.length) (ri : i < R.length) (len : (Z[i]).b.bs.length <= 1048576) (hk : k < 70) (hr : ∃ cr, w0.heap[r]? = some (.cells cr 47 (0, 0))) :
  (R[i]).b.bs.length = (Z[i]).b.bs.length + k /\ ∃ g' c' w3, (Builtin.append_ #[27, 27] 27 #[.slice (R[i]).b.A (R[i]).b.bs.length (R[i]).b.c, .slice (some ⟨w.heap.size, 0, none⟩) 1 1]).run Tryz.prog (w.alloc (.cells #[.int .u8 (ovA i)] 5)) = .ok (.slice (some ⟨g', 0, none⟩) ((R[i]).b.bs.length + 1) c') w3 /\
   OneR w3 w1.heap.size ⟨0, g', c', ovL (Z[i]).b.bs.length i (k + 1), []⟩ /\ (∀ q, q < w.heap.size -> (0 < k -> (R[i]).b.A ≠ some ⟨q, 0, none⟩) -> w3.heap[q]? = w.heap[q]?) /\ ((0 < k /\ (R[i]).b.A = some ⟨g', 0, none⟩) \/ w.heap.size <= g') /\ w.heap.size <= w3.heap.size /\ w3.os = w.os /\ w3.tape = w.tape /\ w3.output = w.output := by
 have bu : Below w.heap.size w (w.alloc (.cells #[.int .u8 (ovA i)] 5)) := (Below.refl _ w).alloc zdZ _
 rcases Nat.eq_zero_or_pos k with k0 | kp
 ·subst k0
  have e := h.no i ri hi (Or.inr ⟨rfl, rfl⟩)
  rw [e]
  obtain ⟨g, o, a, b, c1, c2, cur, e1, e2⟩ := h1.spn.adr _ (List.getElem_mem hi)
  have ne : g ≠ r := fun z => by
   obtain ⟨cr, hr⟩ := hr
   rw [z, h1.row, hr] at e1
   cases e1
  have lt1 : g < w1.heap.size := (Array.getElem?_eq_some_iff.1 e1).1
  have keep : (w.alloc (.cells #[.int .u8 (ovA i)] 5)).heap[g]? = w1.heap[g]? := (bu.block g (Nat.lt_of_lt_of_le lt1 h.size)).trans (h.old g lt1 ne)
  obtain ⟨i0, hi0, hz0, hz1, hz2⟩ := info_parts xR
  obtain ⟨v', w3, r1, r2, r3⟩ := run_append_arg_grows (P := Tryz.prog) (w.alloc (.cells #[.int .u8 (ovA i)] 5)) 27 27 5 i0 (.int .u8 0) 1 1 Tryz.underlying27 hi0 hz0 hz1 hz2 rfl (by decide) ⟨g, o, none⟩ (Z[i]).b.bs.length (Z[i]).b.c (bts (List.replicate (Z[i]).b.bs.length (ovB i))) (by rw [xU, List.length_replicate, Nat.mul_one]) (fun j u hj => by
    have lj := (List.getElem?_eq_some_iff.1 hj).1
    rw [xU, List.length_replicate] at lj
    have eu : u = .int .u8 (ovB i) := by
     unfold bts at hj
     rw [List.getElem?_map, List.getElem?_replicate, if_pos lj] at hj
     simpa using hj.symm
    rw [Addr.add_lit, eu]
    exact (World.cell?_of_block (a := ⟨g, o + j, none⟩) keep).trans (h1.st i hi g o a j lj (Or.inl hi))) ⟨w.heap.size, 0, none⟩ 1 1 [.int .u8 (ovA i)] rfl (news1 w _ _) (by rw [b]; omega) (by unfold maxLen; omega) (by omega)
  obtain ⟨g', c', e'⟩ := vQ r2 (fun z => by
   have := xd r2 z
   rw [z] at this
   injection this with _ q _
   omega)
  subst e'
  refine ⟨by rw [Nat.add_zero], g', c', w3, by rw [a]; exact r1, ?_, fun q lq _ => ?_, Or.inr ?_, Nat.le_trans bu.size r3.size, r3.os, r3.tape, r3.output⟩
  ·unfold OneR
   have ll : (ovL (Z[i]).b.bs.length i (0 + 1) ++ []).length = (Z[i]).b.bs.length + 1 := by rw [List.append_nil, Zb]
   have lb : bts (ovL (Z[i]).b.bs.length i (0 + 1) ++ []) = bts (List.replicate (Z[i]).b.bs.length (ovB i)) ++ [.int .u8 (ovA i)] := by
    rw [List.append_nil, <- zaV, kT]
    unfold ovL
    rw [List.replicate_zero, List.append_nil]
    rfl
   simp only [ll, lb]
   exact qR r2 (Nat.le_trans h.size bu.size)
  ·exact (r3.block q (Nat.lt_of_lt_of_le lq bu.size) (by simp)).trans (bu.block q lq)
  ·exact Nat.le_trans bu.size (xW r2).1
 ·obtain ⟨g, c1, e, O⟩ := h.don i ri hi (Or.inr ⟨rfl, kp⟩)
  rw [if_pos rfl] at e O
  have lR : (R[i]).b.bs.length = (Z[i]).b.bs.length + k := by rw [e]; exact Zb _ _ _
  obtain ⟨g', c', w3, r1, r2, r3, r4⟩ := Vm O rfl (ovA i) h.size (by show (ovL (Z[i]).b.bs.length i k).length <= _; rw [Zb]; omega)
  simp only [zaV] at r2
  refine ⟨lR, g', c', w3, by rw [e]; exact r1, r2, fun q lq hne => ?_, ?_, Nat.le_trans bu.size r3.size, r3.os, r3.tape, r3.output⟩
  ·refine (r3.block q (Nat.lt_of_lt_of_le lq bu.size) (fun z => hne kp ?_)).trans (bu.block q lq)
   have z : g = q := (Option.some.inj z).symm
   rw [e, z]
  ·rcases r4 with z | z
   ·exact Or.inl ⟨kp, by rw [e, z]⟩
   ·exact Or.inr z
theorem Ov2.step {LO HI : Nat} {w0 w1 w w3 : World} {r n c g' c' : Nat} {Z R : List FA} {i k : Nat} (h : Ov2 LO HI w0 w1 r n c Z i k R w) (hi : i < Z.length) (ri : i < R.length)
  (O : OneR w3 w1.heap.size ⟨0, g', c', ovL (Z[i]).b.bs.length i (k + 1), []⟩) (K : ∀ q, q < w.heap.size -> (0 < k -> (R[i]).b.A ≠ some ⟨q, 0, none⟩) -> w3.heap[q]? = w.heap[q]?) (F : (0 < k /\ (R[i]).b.A = some ⟨g', 0, none⟩) \/ w.heap.size <= g') (sz : w.heap.size <= w3.heap.size) (eo : w3.os = w.os) (et : w3.tape = w.tape) (ep : w3.output = w.output) (l1 : r < w1.heap.size) :
  (∃ u, w3.cell? ⟨r, i * 2 + 1, none⟩ = some u) /\ w3.frozen? ⟨r, i * 2 + 1, none⟩ = false /\
  Ov2 LO HI w0 w1 r n c Z i (k + 1) (R.set i ⟨(R[i]).at_, ⟨some ⟨g', 0, none⟩, c', ovL (Z[i]).b.bs.length i (k + 1)⟩⟩) (w3.setCell ⟨r, i * 2 + 1, none⟩ (.slice (some ⟨g', 0, none⟩) (ovL (Z[i]).b.bs.length i (k + 1)).length c')) := by
 have lr : r < w.heap.size := Nat.lt_of_lt_of_le l1 h.size
 -- the frame's own block is none of the old
 have gi : 0 < k -> ∃ g, (R[i]).b.A = some ⟨g, 0, none⟩ /\ w1.heap.size <= g /\ g < w.heap.size := fun kp => by
  obtain ⟨g, c1, e, O⟩ := h.don i ri hi (Or.inr ⟨rfl, kp⟩)
  exact ⟨g, by rw [e], O.lt.1, O.lt.2.1⟩
 have old3 : ∀ q, q < w1.heap.size -> w3.heap[q]? = w.heap[q]? := fun q lq => K q (Nat.lt_of_lt_of_le lq h.size) (fun kp z => by
  obtain ⟨g, e, a, _⟩ := gi kp
  rw [e] at z
  injection z with z
  injection z with z
  omega)
 have rr := old3 r l1
 have g1 : g' ≠ r := fun z => by
  have := O.lt.1
  have : w1.heap.size <= g' := this
  omega
 obtain ⟨_, cu, fz⟩ := Za (kX h.own rr) i ri
 have dj : ∀ j, (hj : j < R.length) -> j < i -> ∃ g c, (R[j]).b = ⟨some ⟨g, 0, none⟩, c, ovL (Z[j]'(by have := h.len; omega)).b.bs.length j 70⟩ /\ OneR (w3.setCell ⟨r, i * 2 + 1, none⟩ (.slice (some ⟨g', 0, none⟩) (ovL (Z[i]).b.bs.length i (k + 1)).length c')) w1.heap.size ⟨0, g, c, ovL (Z[j]'(by have := h.len; omega)).b.bs.length j 70, []⟩ /\ g ≠ g' := fun j hj lt => by
  have hz : j < Z.length := by have := h.len; omega
  obtain ⟨g, c1, e, Oj⟩ := h.don j hj hz (Or.inl lt)
  rw [if_neg (by omega)] at e Oj
  have lj := Oj.lt
  have nr : g ≠ r := by have := lj.1; have : w1.heap.size <= g := this; omega
  have kj : w3.heap[g]? = w.heap[g]? := K g lj.2.1 (fun kp z => h.dis j hj ri lt kp (by rw [e, z]))
  refine ⟨g, c1, e, (Oj.keep kj).keep (heap_setCell_other w3 _ _ _ nr), fun z => ?_⟩
  rcases F with ⟨kp, f⟩ | f
  ·exact h.dis j hj ri lt kp (by rw [e, f, z])
  ·have : g < w.heap.size := lj.2.1
   omega
 refine ⟨⟨_, cu⟩, fz _, ⟨?_, by rw [List.length_set]; exact h.len, fun j hj hz => ?_, fun j hj hz q => ?_, fun j hj hz q => ?_, fun j hj hi' q _ => ?_, fun q lq nq => ?_, Nat.le_trans h.size (by simpa using sz), eo.trans h.os, et.trans h.tape, ep.trans h.output⟩⟩
 ·rw [<- fr_set R i ri ⟨(R[i]).at_, ⟨some ⟨g', 0, none⟩, c', ovL (Z[i]).b.bs.length i (k + 1)⟩⟩ rfl]
  exact ((kX h.own rr).stored (i * 2 + 1) _).1
 ·rw [List.getElem_set]
  split
  ·rename_i q; subst q; exact h.at_ i ri hz
  ·rw [List.length_set] at hj; exact h.at_ j hj hz
 ·rw [List.length_set] at hj
  by_cases ji : j = i
  ·subst ji
   refine ⟨g', c', ?_, ?_⟩
   ·rw [if_pos rfl, List.getElem_set_self]
   ·rw [if_pos rfl]
    exact O.keep (heap_setCell_other w3 _ _ _ g1)
  ·obtain ⟨g, c1, e, Oj, _⟩ := dj j hj (by omega)
   refine ⟨g, c1, ?_, ?_⟩
   ·rw [if_neg ji, List.getElem_set_ne (by omega)]; exact e
   ·rw [if_neg ji]; exact Oj
 ·rw [List.length_set] at hj
  rw [List.getElem_set_ne (by omega)]
  exact h.no j hj hz (by omega)
 ·rw [List.length_set] at hj
  obtain ⟨g, c1, e, _, ne⟩ := dj j hj q
  rw [List.getElem_set_ne (by omega), List.getElem_set_self, e]
  intro z
  injection z with z
  injection z with z
  exact ne z
 ·exact (heap_setCell_other w3 _ _ _ nq).trans ((old3 q lq).trans (h.old q lq nq))
end
end
section
open Go Go.RowKit Go.Sort
section
structure OvR (LO HI : Nat) (w0 : World) (Z : List FA) (v : Value) (w' : World) : Prop where
 row : ∃ R : List FA, w'.ownsRow LO 47 2 v Z.length (R.flatMap frV) /\ R.length = Z.length /\ ∀ j, (hj : j < R.length) -> (hz : j < Z.length) -> (R[j]).at_ = (Z[j]).at_
 far : ∀ q, q < w0.heap.size -> (q < LO \/ HI <= q) -> w'.heap[q]? = w0.heap[q]?
 size : w0.heap.size <= w'.heap.size
 os : w'.os = w0.os
 tape : w'.tape = w0.tape
 output : w'.output = w0.output
theorem ZW (i : Nat) (m : Nat) (hm : 0 < m) : Int.tmod (i : Int) (m : Int) = ((i % m : Nat) : Int) := (Int.ofNat_tmod i m).symm
theorem zaW (i : Nat) : 200 <= ovB i /\ ovB i < 250 := by unfold ovB; have := Nat.mod_lt i (show 0 < 50 by decide); omega
theorem zaX (i : Nat) : 7 <= ovA i /\ ovA i < 10 := by unfold ovA; have := Nat.mod_lt i (show 0 < 3 by decide); omega
theorem u8_in (n : Int) (h : 0 <= n /\ n < 256) : IntKind.u8.wrap n = n := by rw [IntKind.wrap_u8]; omega
theorem OneR.byte {w : World} {LO g c n i k : Nat} (h : OneR w LO ⟨0, g, c, ovL n i k, []⟩) (j : Nat) (hj : j < n + k) : w.cell? ⟨g, j, none⟩ = some (.int .u8 (if j < n then ovB i else ovA i)) := by
 unfold OneR at h
 simp only [List.append_nil] at h
 have u : (bts (ovL n i k))[j]? = some (.int .u8 (if j < n then ovB i else ovA i)) := by
  unfold bts ovL
  rw [List.getElem?_map]
  split
  ·rename_i q
   rw [List.getElem?_append_left (by rw [List.length_replicate]; exact q), List.getElem?_replicate, if_pos q]
   rfl
  ·rename_i q
   rw [List.getElem?_append_right (by rw [List.length_replicate]; omega), List.length_replicate, List.getElem?_replicate, if_pos (by omega)]
   rfl
 have := h.cells (g := g) rfl j _ u
 rw [Addr.add_lit, Nat.zero_add] at this
 exact this
set_option maxHeartbeats 16000000 in
set_option maxRecDepth 100000 in
theorem zdU (LO HI : Nat) (w0 : World) (r n c : Nat) (Z : List FA) (own : w0.ownsRow LO 47 2 (.slice (some ⟨r, 0, none⟩) n c) n (Z.flatMap frV)) (hn : Z.length = n) (spn : SpanD LO HI w0 Z) (rl : LO <= r) (rh : r < HI) (nl : n <= 16384) (bl : ∀ x ∈ Z, x.b.bs.length <= 1048576) :
  Calls Tryz.prog 22 #[.slice (some ⟨r, 0, none⟩) n c] w0 fun e w' => e = .returned (.tuple #[]) /\ OvR LO HI w0 Z (.slice (some ⟨r, 0, none⟩) n c) w' := by
 have HOW := zdX own
 have HN := zdX hn
 have HR : Hid (∃ cr, w0.heap[r]? = some (.cells cr 47 (0, 0))) := zdX (xW own).2.2.2
 have HBL := zdX bl
 have O0 := zdX (Ov1.init r spn)
 have HRL := zdX (And.intro rl rh)
 have HRS := zdX (xW own).2.1
 clear own hn spn bl rl rh
 go_enter Tryz.func22, Tryz.ntmps22
 go_wp2_with fail
 go_loopw [2] (fun s2 wr => ∃ i : Nat, i <= n /\ s2 = .int .i64 (i : Int) /\ Hid (Ov1 LO HI w0 r Z i 0 wr)) (fun s2 _ => n - (intOf s2).toNat)
 case atStart => exact ⟨0, Nat.zero_le _, rfl, O0⟩
 case round =>
  obtain ⟨i, hi, rfl, ho⟩ := hrel
  clear O0
  by_cases lt : i < n
  ·have zi : i < Z.length := by rw [HN.out]; exact lt
   have CE := zdX (fun (wr : World) (e : wr.heap[r]? = w0.heap[r]?) => (Za (kX HOW.out e) i zi).2.1)
   obtain ⟨g, o, eA, ec, _⟩ := ho.out.spn.adr _ (List.getElem_mem zi)
   have SR := zdX (fun (k : Nat) (wr : World) (h : Ov1 LO HI w0 r Z i k wr) (hk : k < (Z[i]).b.bs.length) => h.store zi hk eA HR.out.choose_spec)
   have NX := zdX (fun (wr : World) (h : Ov1 LO HI w0 r Z i (Z[i]).b.bs.length wr) => h.next zi)
   have ml := HBL.out _ (List.getElem_mem zi)
   rw [eA, ec] at CE
   obtain ⟨m, hm⟩ : ∃ m, m = (Z[i]).b.bs.length := ⟨_, rfl⟩
   rw [<- hm] at CE SR NX ml
   have q0 : (0 : Int) <= (i : Int) := by omega
   have q5 : (i : Int) < (n : Int) := by omega
   have tn : (i : Int).toNat = i := by omega
   have wk := zdY ((i : Int) + 1) (by omega)
   obtain ⟨rb, hrb⟩ : ∃ rb : Int, Int.tmod (i : Int) 50 = rb := ⟨_, rfl⟩
   have eb : 200 + rb = ovB i := by rw [<- hrb]; unfold ovB; rw [<- ZW i 50 (by decide)]; rfl
   have br := zaW i
   have w1 := zdY (200 + rb) (by omega)
   have w2 : IntKind.u8.wrap (200 + rb) = ovB i := by rw [eb]; exact u8_in _ (by omega)
   clear eb br hm eA ec
   go_wp2_with fail
   go_loopw [3] (fun s3 wr => ∃ k : Nat, k <= m /\ s3 = .int .i64 (k : Int) /\ Hid (Ov1 LO HI w0 r Z i k wr)) (fun s3 _ => m - (intOf s3).toNat)
   case atStart => exact ⟨0, Nat.zero_le _, rfl, ho⟩
   case round =>
    obtain ⟨k, hk, rfl, hs⟩ := hrel
    have ce := CE.out wr hs.out.row
    by_cases lk : k < m
    ·obtain ⟨⟨u, x1⟩, x2, x3⟩ := SR.out k wr hs.out lk
     have HX := zdX x3
     have p0 : (0 : Int) <= (k : Int) := by omega
     have p5 : (k : Int) < (m : Int) := by omega
     have pn : (k : Int).toNat = k := by omega
     have wj := zdY ((k : Int) + 1) (by omega)
     clear x3 hs
     go_wp2_with fail
     go_roundw
     case rel => exact ⟨k + 1, by omega, by go_num, HX⟩
     case measure => simp [intOf]; omega
    ·have e : k = m := by omega
     subst e
     have p5 : ¬ (k : Int) < (k : Int) := by omega
     have HX := zdX (NX.out wr hs.out)
     clear hs
     go_wp2_with fail
     go_roundw
     case rel => exact ⟨i + 1, by omega, by go_num, HX⟩
     case measure => simp [intOf]; omega
  ·have e : i = n := by omega
   subst e
   have q5 : ¬ (i : Int) < (i : Int) := by omega
   obtain ⟨w1, hw1⟩ : ∃ w1, w1 = wr := ⟨_, rfl⟩
   have H1 : Hid (Ov1 LO HI w0 r Z Z.length 0 w1) := zdX (by rw [hw1, HN.out]; exact ho.out)
   have O2 : Hid (Ov2 LO HI w0 w1 r i c Z 0 0 Z wr) := zdX (by rw [<- hw1]; exact Ov2.init HOW.out H1.out)
   clear hw1 ho
   go_wp2_with fail
   go_loopw [4] (fun s4 wr => ∃ (j : Nat) (R : List FA), j <= i /\ s4 = .int .i64 (j : Int) /\ Hid (Ov2 LO HI w0 w1 r i c Z j 0 R wr)) (fun s4 _ => i - (intOf s4).toNat)
   case atStart => exact ⟨0, Z, Nat.zero_le _, rfl, O2⟩
   case round =>
    obtain ⟨j, R, hj, rfl, ho⟩ := hrel
    clear O2
    by_cases lt : j < i
    ·have zj : j < Z.length := by rw [HN.out]; exact lt
     have ml := HBL.out _ (List.getElem_mem zj)
     have RUN := zdX (fun (k : Nat) (R : List FA) (wr : World) (h : Ov2 LO HI w0 w1 r i c Z j k R wr) (rj : j < R.length) (hk : k < 70) => h.run H1.out zj rj ml hk HR.out)
     have q0 : (0 : Int) <= (j : Int) := by omega
     have q5 : (j : Int) < (i : Int) := by omega
     have tn : (j : Int).toNat = j := by omega
     have wk := zdY ((j : Int) + 1) (by omega)
     obtain ⟨rb, hrb⟩ : ∃ rb : Int, Int.tmod (j : Int) 3 = rb := ⟨_, rfl⟩
     have eb : 7 + rb = ovA j := by rw [<- hrb]; unfold ovA; rw [<- ZW j 3 (by decide)]; rfl
     have br := zaX j
     have v1 := zdY (7 + rb) (by omega)
     have v2 : IntKind.u8.wrap (7 + rb) = ovA j := by rw [eb]; exact u8_in _ (by omega)
     have l1 := zdX (show r < w1.heap.size by rw [H1.out.size]; exact HRS.out)
     clear eb br
     go_wp2_with fail
     go_loopw [5] (fun s5 wr => ∃ (k : Nat) (R : List FA), k <= 70 /\ s5 = .int .i64 (k : Int) /\ Hid (Ov2 LO HI w0 w1 r i c Z j k R wr)) (fun s5 _ => 70 - (intOf s5).toNat)
     case atStart => exact ⟨0, R, Nat.zero_le _, rfl, ho⟩
     case round =>
      obtain ⟨k, R2, hk, rfl, hs⟩ := hrel
      by_cases lk : k < 70
      ·have rj : j < R2.length := by rw [hs.out.len]; exact zj
       obtain ⟨lR, g', c', w3, RC, O3, K3, F3, s3, e1, e2, e3⟩ := RUN.out k R2 wr hs.out rj lk
       obtain ⟨⟨u, x1⟩, x2, x3⟩ := hs.out.step zj rj O3 K3 F3 s3 e1 e2 e3 l1.out
       rw [Zb, <- Nat.add_assoc, <- lR] at x3
       have ce := (Za hs.out.own j rj).2.1
       have kd : ∀ o, (wr.alloc o).cell? ⟨r, j * 2 + 1, none⟩ = some (.slice (R2[j]).b.A (R2[j]).b.bs.length (R2[j]).b.c) := fun o => ((Below.refl wr.heap.size wr).alloc zdZ o).cell (p := ⟨r, j * 2 + 1, none⟩) (block_lt_of_cell ce) |>.trans ce
       have HX := zdX x3
       generalize (R2[j]).b.bs.length = m at *
       generalize (R2[j]).b.A = mA at *
       generalize (R2[j]).b.c = mc at *
       have p0 : (0 : Int) <= (k : Int) := by omega
       have p5 : (k : Int) < 70 := by omega
       have wj := zdY ((k : Int) + 1) (by omega)
       clear x3 hs O3 K3 F3 s3 e1 e2 e3 lR
       go_wp2_with (first | (at_builtin; refine xG rfl (.tmp 52) (.tmp 57) 27 27 rfl _ _ _ _ rfl rfl RC ?_) | fail)
       go_roundw
       case rel => exact ⟨k + 1, _, by omega, by go_num, HX⟩
       case measure => simp [intOf]; omega
      ·have e : k = 70 := by omega
       subst e
       have p5 : ¬ ((70 : Nat) : Int) < 70 := by omega
       have HX := zdX hs.out.next
       clear hs
       go_wp2_with fail
       go_roundw
       case rel => exact ⟨j + 1, R2, by omega, by go_num, HX⟩
       case measure => simp [intOf]; omega
    ·have e : j = i := by omega
     subst e
     have q5 : ¬ (j : Int) < (j : Int) := by omega
     have w2e : ∃ w2, w2 = wr := ⟨_, rfl⟩
     obtain ⟨w2, hw2⟩ := w2e
     have H2 : Hid (Ov2 LO HI w0 w1 r j c Z j 0 R w2) := zdX (by rw [hw2]; exact ho.out)
     have RL : Hid (R.length = j) := zdX (by rw [ho.out.len]; exact HN.out)
     rw [<- hw2]
     clear hw2 ho
     go_wp2_with fail
     go_loopw [6] (fun s6 wr => ∃ i : Nat, i <= j /\ s6 = .int .i64 (i : Int) /\ wr = w2) (fun s6 _ => j - (intOf s6).toNat)
     case atStart => exact ⟨0, Nat.zero_le _, rfl, rfl⟩
     case round =>
      obtain ⟨i, hi, rfl, hwr⟩ := hrel
      rw [hwr]
      clear hwr
      by_cases lt : i < j
      ·have zi : i < Z.length := by rw [HN.out]; exact lt
       have ri : i < R.length := by rw [RL.out]; exact lt
       obtain ⟨g, c1, eB, O⟩ := H2.out.don i ri zi (Or.inl lt)
       rw [if_neg (by omega)] at eB O
       have ce := (Za H2.out.own i ri).2.1
       have ml := HBL.out _ (List.getElem_mem zi)
       rw [eB] at ce
       simp only [Zb] at ce
       have HO := zdX O
       generalize (Z[i]).b.bs.length = m at *
       have q0 : (0 : Int) <= (i : Int) := by omega
       have q5 : (i : Int) < (j : Int) := by omega
       have tn : (i : Int).toNat = i := by omega
       have wk := zdY ((i : Int) + 1) (by omega)
       have wm : IntKind.i64.wrap (((m + 70 : Nat) : Int) - 70) = (m : Int) := by rw [show ((m + 70 : Nat) : Int) - 70 = (m : Int) by omega]; exact zdY _ (by omega)
       obtain ⟨rb, hrb⟩ : ∃ rb : Int, Int.tmod (i : Int) 50 = rb := ⟨_, rfl⟩
       have eb : 200 + rb = ovB i := by rw [<- hrb]; unfold ovB; rw [<- ZW i 50 (by decide)]; rfl
       have br := zaW i
       have u1 := zdY (200 + rb) (by omega)
       have u2 : IntKind.u8.wrap (200 + rb) = ovB i := by rw [eb]; exact u8_in _ (by omega)
       obtain ⟨ra, hra⟩ : ∃ ra : Int, Int.tmod (i : Int) 3 = ra := ⟨_, rfl⟩
       have ea : 7 + ra = ovA i := by rw [<- hra]; unfold ovA; rw [<- ZW i 3 (by decide)]; rfl
       have ar := zaX i
       have v1 := zdY (7 + ra) (by omega)
       have v2 : IntKind.u8.wrap (7 + ra) = ovA i := by rw [ea]; exact u8_in _ (by omega)
       obtain ⟨M, hM⟩ : ∃ M, M = m + 70 := ⟨_, rfl⟩
       rw [<- hM] at ce wm
       have HMM := zdX hM
       have mm : m + 70 <= 1048646 := by omega
       clear eb br ea ar eB O hM
       go_wp2_with fail
       go_loopw [8] (fun s8 wr => ∃ k : Nat, k <= M /\ s8 = .int .i64 (k : Int) /\ wr = w2) (fun s8 _ => M - (intOf s8).toNat)
       case atStart => exact ⟨0, Nat.zero_le _, rfl, rfl⟩
       case round =>
        obtain ⟨k, hk, rfl, hwr⟩ := hrel
        rw [hwr]
        clear hwr
        have hMM := HMM.out
        by_cases lk : k < M
        ·have cb := HO.out.byte k (by omega)
         have p0 : (0 : Int) <= (k : Int) := by omega
         have p5 : (k : Int) < (M : Int) := by omega
         have pn : (k : Int).toNat = k := by omega
         have wj := zdY ((k : Int) + 1) (by omega)
         by_cases km : k < m
         ·rw [if_pos km] at cb
          have p6 : (k : Int) < (m : Int) := by omega
          have p7 : ¬ (m : Int) <= (k : Int) := by omega
          clear hMM
          go_wp2_with fail
          go_roundw
          case rel => exact ⟨k + 1, by omega, by go_num, trivial⟩
          case measure => simp [intOf]; omega
         ·rw [if_neg km] at cb
          have p6 : ¬ (k : Int) < (m : Int) := by omega
          have p7 : (m : Int) <= (k : Int) := by omega
          clear hMM
          go_wp2_with fail
          go_roundw
          case rel => exact ⟨k + 1, by omega, by go_num, trivial⟩
          case measure => simp [intOf]; omega
        ·have e : k = M := by omega
         subst e
         have p5 : ¬ (k : Int) < (k : Int) := by omega
         clear hMM
         go_wp2_with fail
         go_roundw
         case rel => exact ⟨i + 1, by omega, by go_num, trivial⟩
         case measure => simp [intOf]; omega
      ·have e : i = j := by omega
       subst e
       have q5 : ¬ (i : Int) < (i : Int) := by omega
       have FIN : Hid (OvR LO HI w0 Z (.slice (some ⟨r, 0, none⟩) i c) w2) := zdX (by
        have h2 := H2.out
        have h1 := H1.out
        refine ⟨⟨R, by rw [HN.out]; exact h2.own, h2.len, h2.at_⟩, fun q lq hq => ?_, by rw [<- h1.size]; exact h2.size, h2.os, h2.tape, h2.output⟩
        have lt1 : q < w1.heap.size := by rw [h1.size]; exact lq
        exact (h2.old q lt1 (fun z => by have := HRL.out; omega)).trans (h1.far q hq))
       go_wp2_with fail
       refine bodyPost_end (results_none rfl _ _ _) rfl ?_
       exact ⟨by rfl, FIN.out⟩
set_option maxHeartbeats 4000000 in
theorem zdV (LO HI : Nat) (w0 : World) : Calls Tryz.prog 22 #[.slice none 0 0] w0 fun e w' => e = .returned (.tuple #[]) /\ OvR LO HI w0 [] (.slice none 0 0) w' := by
 have FIN : Hid (OvR LO HI w0 [] (.slice none 0 0) w0) := zdX ⟨⟨[], ⟨rfl, Or.inl ⟨rfl, rfl⟩⟩, rfl, fun j hj => by cases hj⟩, fun _ _ _ => rfl, zdZ, rfl, rfl, rfl⟩
 go_enter Tryz.func22, Tryz.ntmps22
 go_wp2_with fail
 go_loopw [2] (fun s2 wr => s2 = .int .i64 0 /\ wr = w0) (fun s2 _ => 0)
 case atStart => exact ⟨rfl, rfl⟩
 case round =>
  obtain ⟨rfl, hwr⟩ := hrel
  rw [hwr]
  clear hwr
  go_wp2_with fail
  go_loopw [4] (fun s4 wr => s4 = .int .i64 0 /\ wr = w0) (fun s4 _ => 0)
  case atStart => exact ⟨rfl, rfl⟩
  case round =>
   obtain ⟨rfl, hwr⟩ := hrel
   rw [hwr]
   clear hwr
   go_wp2_with fail
   go_loopw [6] (fun s6 wr => s6 = .int .i64 0 /\ wr = w0) (fun s6 _ => 0)
   case atStart => exact ⟨rfl, rfl⟩
   case round =>
    obtain ⟨rfl, hwr⟩ := hrel
    rw [hwr]
    clear hwr
    go_wp2_with fail
    refine bodyPost_end (results_none rfl _ _ _) rfl ?_
    exact ⟨by rfl, FIN.out⟩
theorem law_over {LO : Nat} {wa w0 : World} {A : Option Addr} {n c : Nat} {S : List Seg} (h : SegS LO wa (.slice A n c) S) (hb : Below wa.heap.size wa w0) (nl : n <= 16384) (bl : ∀ x ∈ segF S, x.b.bs.length <= 1048576) :
  Calls Tryz.prog 22 #[.slice A n c] w0 fun e w' => e = .returned (.tuple #[]) /\ OvR LO wa.heap.size w0 (segF S) (.slice A n c) w' := by
 have o := (h.below hb).own
 have e := xd o rfl
 injection e with _ e2 _
 have sp := h.spans.below (w' := w0) (fun q _ lq cur e => hb.block q lq)
 rcases h.own.2 with ⟨z, n0⟩ | ⟨r, cap, cur, z, lr, er, _⟩
 ·injection z with z1 z2 z3
  subst z1
  subst z2
  subst z3
  have z0 : segF S = [] := List.eq_nil_of_length_eq_zero n0
  rw [z0]
  exact zdV LO _ w0
 ·injection z with z1 z2 z3
  subst z1
  rw [<- e2] at o
  exact zdU LO _ w0 r n c (segF S) o e2.symm sp lr (Array.getElem?_eq_some_iff.1 er).1 nl bl
set_option maxHeartbeats 4000000 in
set_option maxRecDepth 100000 in
theorem law_torn {LO : Nat} {w : World} {A : Option Addr} {n c : Nat} {R : List FA} (own : w.ownsRow LO 47 2 (.slice A n c) n (R.flatMap frV)) (hat : ∀ x ∈ R, x.at_ ≠ -99) (nl : n <= 16384) : Calls Tryz.prog 23 #[.slice A n c] w fun e w' => e = .returned (.bool false) /\ w' = w := by
 have RN : R.length = n := by have := own.1; rw [Jb] at this; omega
 have CE : Hid (∀ i, (hi : i < R.length) -> ∃ r, A = some ⟨r, 0, none⟩ /\ w.cell? ⟨r, i * 2, none⟩ = some (.int .i64 (R[i]).at_)) := zdX (fun i hi => by
  rcases own.2 with ⟨z, n0⟩ | ⟨r, cap, cur, z, _⟩
  ·omega
  ·injection z with z1 z2 z3
   subst z1
   exact ⟨r, rfl, (Za own i hi).1⟩)
 have HA := zdX hat
 have HN := zdX RN
 clear own hat RN
 go_enter Tryz.func23, Tryz.ntmps23
 go_wp2_with fail
 go_loopw [3] (fun s3 wr => ∃ i : Nat, i <= n /\ s3 = .int .i64 (i : Int) /\ wr = w) (fun s3 _ => n - (intOf s3).toNat)
 case atStart => exact ⟨0, Nat.zero_le _, rfl, rfl⟩
 case round =>
  obtain ⟨i, hi, rfl, hwr⟩ := hrel
  rw [hwr]
  clear hwr
  by_cases lt : i < n
  ·have ri : i < R.length := by rw [HN.out]; exact lt
   obtain ⟨r, rfl, ce⟩ := CE.out i ri
   have ne := HA.out _ (List.getElem_mem ri)
   generalize (R[i]).at_ = t at *
   have q0 : (0 : Int) <= (i : Int) := by omega
   have q5 : (i : Int) < (n : Int) := by omega
   have tn : (i : Int).toNat = i := by omega
   have wk := zdY ((i : Int) + 1) (by omega)
   go_wp2_with fail
   go_roundw
   case rel => exact ⟨i + 1, by omega, by go_num, trivial⟩
   case measure => simp [intOf]; omega
  ·have e : i = n := by omega
   subst e
   have q5 : ¬ (i : Int) < (i : Int) := by omega
   go_wp2_with fail
   go_ret
   exact ⟨rfl, rfl⟩
end
end
section
open Go Go.RowKit Go.Sort
section
theorem CpyR.segs {W w' : World} {v : Value} {l : List Frm} (h : CpyR W w' v l) (tot : (l.flatMap (·.bs)).length <= 140737488355328) : ∃ S, SegS W.heap.size w' v S /\ frms (segF S) = l /\ (∀ x ∈ segF S, x.b.bs.length <= 1048576 /\ 0 <= x.at_) := by
 rcases h.2 with ⟨rfl, rfl⟩ | ⟨g, L', hg, o, r, e, ok⟩
 ·exact ⟨[], SegS.nil _ _, rfl, fun x m => by cases m⟩
 ·have sf : segF [⟨g, 0, L'⟩] = cpF g 0 0 L' := by unfold segF; rw [List.flatMap_cons, List.flatMap_nil, List.append_nil]
  have ef : frms (cpF g 0 0 L') = l := by rw [vL, QS, e]
  refine ⟨[⟨g, 0, L'⟩], ⟨by rw [sf]; exact o, fun s m => ?_, fun s m => ?_, by simp⟩, by rw [sf, ef], fun x m => ?_⟩
  ·rw [List.mem_singleton.1 m]; exact ⟨hg, r⟩
  ·rw [List.mem_singleton.1 m]
   exact ⟨by rw [<- JF, e]; exact tot, fun x m => ⟨(ok x m).1, by have := ok x m; show -9223372036854775808 <= x.at_ + 0; omega, by have := ok x m; show x.at_ + 0 <= _; omega⟩⟩
  ·rw [sf] at m
   have mf : FA.frm x ∈ frms L' := by rw [e, <- ef]; exact List.mem_map_of_mem m
   obtain ⟨y, my, ey⟩ := List.mem_map.1 mf
   have e1 : y.at_ = x.at_ := congrArg Frm.at_ ey
   have e2 : y.b.bs = x.b.bs := congrArg Frm.bs ey
   have := ok y my
   rw [<- e1, <- e2]
   exact ⟨this.2.1, this.2.2.1⟩
theorem SegS.keep {LO : Nat} {w w' : World} {v : Value} {S : List Seg} (h : SegS LO w v S) (k : ∀ q, LO <= q -> q < w.heap.size -> w'.heap[q]? = w.heap[q]?) : SegS LO w' v S := by
 refine ⟨⟨h.own.1, ?_⟩, fun s m => ⟨(h.rows s m).1, (h.rows s m).2.keep (k _ (h.rows s m).1 (h.rows s m).2.lt)⟩, h.ok, h.dis⟩
 rcases h.own.2 with z | ⟨g, cap, cur, z, lb, e, rest⟩
 ·exact Or.inl z
 ·exact Or.inr ⟨g, cap, cur, z, lb, (k g lb (Array.getElem?_eq_some_iff.1 e).1).trans e, rest⟩
theorem OvR.below {LO HI : Nat} {w0 w' : World} {Z : List FA} {v : Value} (h : OvR LO HI w0 Z v w') (hl : LO <= w0.heap.size) : Below LO w0 w' := ⟨h.os, h.tape, h.output, h.size, fun q lq => h.far q (Nat.lt_of_lt_of_le lq hl) (Or.inl lq)⟩
theorem OvR.torn {LO HI : Nat} {w0 w' : World} {Z : List FA} {A : Option Addr} {n c : Nat} (h : OvR LO HI w0 Z (.slice A n c) w') (hn : Z.length = n) (nl : n <= 16384) (hz : ∀ x ∈ Z, 0 <= x.at_) : Calls Tryz.prog 23 #[.slice A n c] w' fun e w'' => e = .returned (.bool false) /\ w'' = w' := by
 obtain ⟨R, o, l, a⟩ := h.row
 rw [hn] at o
 refine law_torn o (fun x m => ?_) nl
 obtain ⟨j, hj, rfl⟩ := List.mem_iff_getElem.1 m
 rw [a j hj (by omega)]
 have := hz _ (List.getElem_mem (show j < Z.length by omega))
 omega
theorem OvR.keep8 {LO HI : Nat} {w0 w' w'' : World} {Z : List FA} {v : Value} (h : OvR LO HI w0 Z v w') (hb : Below w'.heap.size w' w'') : OvR LO HI w0 Z v w'' := by
 obtain ⟨R, o, l, a⟩ := h.row
 exact ⟨⟨R, zV o hb, l, a⟩, fun q lq hq => (hb.block q (Nat.lt_of_lt_of_le lq h.size)).trans (h.far q lq hq), Nat.le_trans h.size hb.size, hb.os.trans h.os, hb.tape.trans h.tape, hb.output.trans h.output⟩
theorem zaY {S : List Seg} {l : List Frm} (h : frms (segF S) = l) : (segF S).length = l.length := by rw [<- zU, h]
end
end
section
open Go.RowKit Go.ChangeShapes
theorem gPow : Tryz.prog.globalNamed "internal/strconv.uint64pow10" = some 2 := by kernel_rfl
theorem gOn : Tryz.prog.globalNamed "fresco/style.on" = some 0 := by kernel_rfl
theorem gOff : Tryz.prog.globalNamed "fresco/style.off" = some 1 := by kernel_rfl
theorem cell_lt {w : World} {g : Nat} {v : Value} {o : Nat} (h : w.cell? ⟨g, o, none⟩ = some v) : g < w.heap.size := block_lt_of_cell h
def onZ : List Int := [1, 2, 3, 4, 5, 7, 8, 9]
def offZ : List Int := [22, 22, 23, 24, 25, 27, 28, 29]
theorem env_v {W : World} (h : laidMetH Tryz.prog [("math/bits.deBruijn32tab", Rows.laid_math_bits_deBruijn32tab), ("math/bits.deBruijn64tab", Rows.laid_math_bits_deBruijn64tab), ("internal/strconv.uint64pow10", Rows.laid_internal_strconv_uint64pow10), ("fresco/style.on", Rows.laid_fresco_style_on), ("fresco/style.off", Rows.laid_fresco_style_off)] W) : EnvV W := by
 have e : laidMetH Tryz.prog [("math/bits.deBruijn32tab", Rows.laid_math_bits_deBruijn32tab), ("math/bits.deBruijn64tab", Rows.laid_math_bits_deBruijn64tab), ("internal/strconv.uint64pow10", Rows.laid_internal_strconv_uint64pow10), ("fresco/style.on", Rows.laid_fresco_style_on), ("fresco/style.off", Rows.laid_fresco_style_off)] W = laidMet Tryz.prog [("math/bits.deBruijn32tab", Rows.laid_math_bits_deBruijn32tab), ("math/bits.deBruijn64tab", Rows.laid_math_bits_deBruijn64tab), ("internal/strconv.uint64pow10", Rows.laid_internal_strconv_uint64pow10), ("fresco/style.on", Rows.laid_fresco_style_on), ("fresco/style.off", Rows.laid_fresco_style_off)] W := MakeChecks.laidMetH_plain _ _ _ (by kernel_rfl)
 rw [e] at h
 have tp : Lib.TabIs Tryz.prog W "internal/strconv.uint64pow10" .u64 Lib.pow10Tab :=
  Lib.tabIs_of_head (t := 189) gPow (by kernel_rfl) Tryz.underlying189 Tryz.underlying180 (by kernel_rfl) (by kernel_rfl) h.tail.tail
 have ton : Lib.TabIs Tryz.prog W "fresco/style.on" .i64 onZ :=
  Lib.tabIs_of_head (t := 154) gOn (by kernel_rfl) Tryz.underlying154 Tryz.underlying3 (by kernel_rfl) (by kernel_rfl) h.tail.tail.tail
 have tf : Lib.TabIs Tryz.prog W "fresco/style.off" .i64 offZ :=
  Lib.tabIs_of_head (t := 154) gOff (by kernel_rfl) Tryz.underlying154 Tryz.underlying3 (by kernel_rfl) (by kernel_rfl) h.tail.tail.tail.tail
 exact ⟨⟨fun k hk => ton.cell gOn k hk, fun k hk => tf.cell gOff k hk⟩, tp, cell_lt (tp.cell gPow 0 (by decide))⟩
end
end Go.Proofs.YtmaofighbpnbiaaGreatDoor
