/- What lies below tapes (kept of earlier texts: TrN, TqY, DfRi). -/
import Derived.Test.YtmaofighbpnbiaaGreatDoorTaEG
set_option linter.unusedVariables false
set_option linter.unusedSimpArgs false
namespace Go.Proofs.YtmaofighbpnbiaaGreatDoor
section
open Go Go.RowKit Go.Sort
section
theorem take_ge {D : List Int} {r : RdT} {n : Int} (h0 : 0 <= n) : r.at_ + (zo D r n).1.length <= (zo D r n).2.at_ := by
 unfold zo
 split
 ·exact zdA
 ·split
  ·rw [zM]; exact zdA
  ·show r.at_ + ((D.drop r.at_).take n.toNat).length <= r.at_ + n.toNat
   rw [List.length_take]
   omega
theorem Vl (D : List Int) (first : Nat) (most : Int) : ∀ (k i : Nat) (n : Int) (r : RdT), r.at_ <= (z7 D first most k i n r).2.at_
 | 0, i, n, r => by rw [z7, zM]; exact zdA
 | k + 1, i, n, r => by
  rw [z7]
  split
  ·exact zdA
  ·split
   ·rw [zM]; exact zdA
   ·split
    ·split
     ·rw [zM]; exact Nat.le_succ _
     ·exact Nat.le_succ _
    ·exact Nat.le_trans (Nat.le_succ _) (Vl D first most k (i + 1) _ ⟨r.at_ + 1, r.code, r.spot⟩)
theorem Vm (D : List Int) (r : RdT) (most : Int) : r.at_ <= (numR D r most).2.at_ := Vl D r.at_ most 6 0 0 r
theorem Vn {D : List Int} (rng : Byt D) : ∀ (k : Nat) (last : Int) (r : RdT), r.at_ <= D.length -> (frsR D k last r).1.length <= k /\ r.at_ + ((frsR D k last r).1.flatMap (·.bs)).length <= D.length
 | 0, last, r, h => ⟨zdA, h⟩
 | k + 1, last, r, h => by
  by_cases c : r.code = 0
  ·rw [QQ k last c]
   obtain ⟨p, hp⟩ : ∃ p, p = numR D r (1099511627776 - last) := ⟨_, rfl⟩
   obtain ⟨q, hq⟩ : ∃ q, q = numR D p.2 1099511627776 := ⟨_, rfl⟩
   obtain ⟨t, ht⟩ : ∃ t, t = zo D q.2 q.1 := ⟨_, rfl⟩
   rw [<- hp, <- hq, <- ht]
   have q0 : 0 <= q.1 := by rw [hq]; exact (jN rng p.2 (by decide)).1
   have a1 : p.2.at_ <= D.length := by rw [hp]; exact vr _ h
   have a2 : q.2.at_ <= D.length := by rw [hq]; exact vr _ a1
   have a3 : t.2.at_ <= D.length := by rw [ht]; exact QO a2 q0
   have b1 : r.at_ <= p.2.at_ := by rw [hp]; exact Vm _ _ _
   have b2 : p.2.at_ <= q.2.at_ := by rw [hq]; exact Vm _ _ _
   have b3 : q.2.at_ + t.1.length <= t.2.at_ := by rw [ht]; exact take_ge q0
   obtain ⟨i1, i2⟩ := Vn rng k (last + p.1) t.2 a3
   refine ⟨by rw [List.length_cons]; omega, ?_⟩
   rw [List.flatMap_cons, List.length_append]
   show r.at_ + (t.1.length + _) <= _
   omega
  ·rw [QP (k + 1) last c]
   exact ⟨Nat.zero_le _, by simpa using h⟩
theorem QY {D : List Int} {r : RdT} (i c : Int) (h : r.at_ <= D.length) : (jt D r i c).at_ <= D.length := by
 unfold jt
 split
 ·rw [zM]; exact QO h (by decide)
 ·exact QO h (by decide)
theorem dec_len {D : List Int} (rng : Byt D) : (decT D).l.length <= 16384 /\ ((decT D).l.flatMap (·.bs)).length <= 1048576 := by
 unfold decT
 split
 ·exact ⟨by decide, by decide⟩
 ·rename_i big
  dsimp only
  unfold endR
  split
  ·exact ⟨Nat.zero_le _, Nat.zero_le _⟩
  ·have s0 : (qL D).at_ <= D.length := QY _ _ (QY _ _ (QY _ _ (Nat.zero_le _)))
   have a1 := vr (D := D) 4096 s0
   have a2 := vr (D := D) 4096 a1
   have a3 : (jA (numR D (numR D (qL D) 4096).2 4096).2 (numR D (qL D) 4096).2.at_ (numR D (qL D) 4096).1 (numR D (numR D (qL D) 4096).2 4096).1).at_ <= D.length := by
    unfold jA
    split
    ·rw [zM]; exact a2
    ·exact a2
   have a4 := vr (D := D) 16384 a3
   have n1 := jN rng (jA (numR D (numR D (qL D) 4096).2 4096).2 (numR D (qL D) 4096).2.at_ (numR D (qL D) 4096).1 (numR D (numR D (qL D) 4096).2 4096).1) (most := 16384) (by decide)
   have S := Vn rng (numR D (jA (numR D (numR D (qL D) 4096).2 4096).2 (numR D (qL D) 4096).2.at_ (numR D (qL D) 4096).1 (numR D (numR D (qL D) 4096).2 4096).1) 16384).1.toNat 0 _ a4
   exact ⟨Nat.le_trans S.1 (by omega), Nat.le_trans (Nat.le_trans (Nat.le_add_left _ _) S.2) (by omega)⟩
theorem zcg {w : World} {LO : Nat} {x : RM} (h : OneR w LO x) (hx : x.ex = []) (b : Int) (gE : Nat) (he : w.heap[gE]? = some (.cells #[.int .u8 b] 5 (0, 0))) (hLO : LO <= w.heap.size) (len : x.bs.length + 1 <= 140737488355328) :
  ∃ g' c' w3, (Builtin.append_ #[27, 27] 27 #[.slice (some ⟨x.g, 0, none⟩) x.bs.length x.c, .slice (some ⟨gE, 0, none⟩) 1 1]).run Tryz.prog w = .ok (.slice (some ⟨g', 0, none⟩) (x.bs.length + 1) c') w3 /\
   OneR w3 LO ⟨x.at_, g', c', x.bs ++ [b], []⟩ /\ w.grownBy w3 (some x.g) := by
 obtain ⟨i0, hi0, hz0, hz1, hz2⟩ := info_parts j8
 have o := h
 unfold OneR at o
 rw [hx, List.append_nil] at o
 have nw : ∀ j u, [Value.int .u8 b][j]? = some u -> w.cell? ((⟨gE, 0, none⟩ : Addr).add j) = some u := fun j u hj => by
  obtain ⟨lj, ej⟩ := List.getElem?_eq_some_iff.1 hj
  have z : j = 0 := by simp at lj; exact lj
  subst z
  have e : Value.int .u8 b = u := ej
  subst e
  simp [Addr.add, World.cell?, he]
 obtain ⟨v', w3, r1, r2, r3, r4, r5⟩ := run_append_own_at (P := Tryz.prog) w LO 27 27 5 i0 (.int .u8 0) 1 1 Tryz.underlying27 hi0 hz0 hz1 hz2 rfl (by decide) _ _ _ o ⟨gE, 0, none⟩ 1 1 [.int .u8 b] rfl nw (by intro u hu; rw [List.mem_singleton.1 hu]; rfl) (by unfold maxLen; omega) (by omega) hLO
 obtain ⟨g', c', e⟩ := vB r2 (fun z => by have := (r4.1 z).1; cases this)
 subst e
 refine ⟨g', c', w3, r1, ?_, r3⟩
 unfold OneR
 simp only [List.append_nil]
 rw [xG, List.length_append, List.length_singleton]
 exact r2
theorem OneR.byteD {w : World} {LO g c : Nat} {t : Int} {D ex : List Int} (h : OneR w LO ⟨t, g, c, D ++ ex, []⟩) (rng : Byt D) (ln : D.length <= 140737488355328) : ByteD w w.heap.size ⟨some ⟨g, 0, none⟩, c, D⟩ := by
 have l := h.lt.2.2.1
 simp only [List.append_nil, List.length_append] at l
 refine ⟨(fun z => by cases z), (by show D.length <= c; omega), ln, fun ne => ?_, rng⟩
 obtain ⟨ad, a1, a2, a3⟩ := vA h (by
  intro z
  unfold bts at z
  rw [List.map_eq_nil_iff, List.append_nil] at z
  exact ne (by show D.map (Value.int .u8) = []; rw [(List.append_eq_nil_iff.1 z).1]; rfl))
 refine ⟨ad, a1, a2, fun j u hj => a3 j u ?_⟩
 have hj : (bts D)[j]? = some u := hj
 rw [List.append_nil, xG, List.getElem?_append_left (List.getElem?_eq_some_iff.1 hj).1]
 exact hj
theorem app_mark {w : World} {LO g c i : Nat} {D : List Int} (h : OneR w LO ⟨0, g, c, D ++ List.replicate i 165, []⟩) (hLO : LO <= w.heap.size) (len : D.length + 4096 <= 140737488355328) (hi : i < 9) :
  ∃ g' c' w3, (Builtin.append_ #[27, 27] 27 #[.slice (some ⟨g, 0, none⟩) (D.length + i) c, .slice (some ⟨w.heap.size, 0, none⟩) 1 1]).run Tryz.prog (w.alloc (.cells #[.int .u8 165] 5)) = .ok (.slice (some ⟨g', 0, none⟩) (D.length + i + 1) c') w3 /\
   OneR w3 LO ⟨0, g', c', D ++ List.replicate (i + 1) 165, []⟩ /\ Below LO w w3 := by
 have bu : Below w.heap.size w (w.alloc (.cells #[.int .u8 165] 5)) := (Below.refl _ w).alloc zdA _
 have ln : (D ++ List.replicate i (165 : Int)).length = D.length + i := by rw [List.length_append, List.length_replicate]
 obtain ⟨g', c', w3, r1, r2, r3⟩ := zcg (h.keep (bu.block _ h.lt.2.1)) rfl 165 w.heap.size (World.alloc_heap_new w _) (Nat.le_trans hLO bu.size) (by show (D ++ List.replicate i (165 : Int)).length + 1 <= _; rw [ln]; omega)
 have r1' := r1
 simp only [ln] at r1'
 refine ⟨g', c', w3, r1', ?_, (bu.mono hLO).grown r3 (Nat.le_trans hLO bu.size) (fun k hk => by injection hk with hk; rw [<- hk]; exact h.lt.1)⟩
 have e : D ++ List.replicate (i + 1) (165 : Int) = (D ++ List.replicate i 165) ++ [165] := by rw [List.replicate_succ', List.append_assoc]
 rw [e]
 exact r2
theorem mark_at {D : List Int} {k i : Nat} (hi : i < k) : ((D ++ List.replicate k (165 : Int)) ++ [])[D.length + i]? = some 165 := by
 rw [List.append_nil, List.getElem?_append_right (Nat.le_add_right _ _), Nat.add_sub_cancel_left, List.getElem?_replicate, if_pos hi]
end
section
variable {H : Type} {enc : TypeId × Value -> H} {w : World} {base : Nat} {spare : Nat -> Bool} {held : Bool}
set_option maxRecDepth 100000 in
theorem zch {n : Nat} {cs : List Value} {y : DataW H × List MemPlace} (h : DataW.trod enc Tryz.prog w base spare held n 27 cs = some y) (sp : ∀ b, spare b = true) (hw : qP y.1 27) : ∃ x : BA, cs = [.slice x.A x.bs.length x.c] /\ ByteD w w.heap.size x /\ x.bs.length + 4096 <= 140737488355328 := by
 have cb : Tryz.prog.bytesOf 5 = 1 := by kernel_rfl
 obtain ⟨A, c, L, h1, h2, h3, h4, h5, h6⟩ := QB (fun n => [Value.int .u8 n]) 1 (by decide) (fun _ => rfl) (0 : Int) (fun b => 0 <= b /\ b < 256) Tryz.underlying27 (by kernel_rfl) (fun n cs y h _ => by
  obtain ⟨b, e, _, wf⟩ := DataW.trod_int Tryz.underlying5 h
  have := bounds_u8 wf
  exact ⟨b, e, by omega⟩) h sp hw
 rw [cb] at h4
 rw [XU] at h5
 exact ⟨⟨A, c, L⟩, h1, ⟨h2, h3, by unfold reachBytes at h4; show L.length <= _; omega, h5, h6⟩, by unfold reachBytes at h4; show L.length + _ <= _; omega⟩
end
end
section
open Go Go.RowKit Go.Sort
section
def m9 : List Int := List.replicate 9 165
structure RoomSt (W : World) (l : List Frm) (v : Value) (P Q : List RM) (wr : World) : Prop where
 st : RmS W.heap.size wr v (P ++ Q) 0
 fr : rmF (P ++ Q) = l
 mks : ∀ x ∈ P, x.ex = m9
 no : ∀ x ∈ Q, x.ex = []
 bel : Below W.heap.size W wr
theorem RmS.cell {LO : Nat} {w : World} {r n c k : Nat} {P Q : List RM} {x : RM} (h : RmS LO w (.slice (some ⟨r, 0, none⟩) n c) (P ++ x :: Q) k) : w.cell? ⟨r, P.length * 2 + 1, none⟩ = some (.slice (some ⟨x.g, 0, none⟩) x.bs.length x.c) /\ w.cell? ⟨r, P.length * 2, none⟩ = some (.int .i64 x.at_) /\ ∀ i, w.frozen? ⟨r, i, none⟩ = false := by
 have o := h.own
 have e := xa o rfl
 injection e with _ e2 _
 rw [<- e2] at o
 have ln : (P ++ x :: Q).length = P.length + (Q.length + 1) := by rw [List.length_append, List.length_cons]
 have ca := fun j hj => o.cellAt j hj
 have g : ∀ j, j < 2 -> (rmV (P ++ x :: Q) ++ z77 k)[P.length * 2 + j]? = (frV x.fa)[j]? := fun j hj => by
  rw [xZ, x7, List.append_assoc, List.getElem?_append_right (by rw [xu]; omega), xu, show P.length * 2 + j - P.length * 2 = j by omega, List.append_assoc, List.getElem?_append_left (by show j < 2; exact hj)]
  rfl
 refine ⟨?_, ?_, fun i => o.frozenAt i⟩
 ·rw [ca _ (by omega), g 1 (by decide)]; rfl
 ·have := ca (P.length * 2 + 0) (by omega)
  rw [g 0 (by decide)] at this
  exact this
theorem Zs (A B : List RM) : rmF (A ++ B) = rmF A ++ rmF B := by unfold rmF; rw [List.map_append]
structure MarkSt (W : World) (l : List Frm) (v : Value) (P Q : List RM) (y : RM) (k : Nat) (wr : World) : Prop where
 ex : ∃ g c, RmS W.heap.size wr v (P ++ ⟨y.at_, g, c, y.bs ++ List.replicate k 165, []⟩ :: Q) 0
 bel : Below W.heap.size W wr
theorem Vo (k : Nat) : Byt (List.replicate k 165) := fun b m => by rw [List.eq_of_mem_replicate m]; decide
theorem MarkSt.step {W wr : World} {l : List Frm} {r n c : Nat} {P Q : List RM} {y : RM} {k : Nat} (h : MarkSt W l (.slice (some ⟨r, 0, none⟩) n c) P Q y k wr) (ry : Byt y.bs) (len : y.bs.length + k <= 999999999) :
  ∃ g c1 g2 c2 w3, wr.cell? ⟨r, P.length * 2 + 1, none⟩ = some (.slice (some ⟨g, 0, none⟩) (y.bs.length + k) c1) /\
   (Builtin.append_ #[27, 27] 27 #[.slice (some ⟨g, 0, none⟩) (y.bs.length + k) c1, .slice (some ⟨wr.heap.size, 0, none⟩) 1 1]).run Tryz.prog (wr.alloc (.cells #[.int .u8 165] 5)) = .ok (.slice (some ⟨g2, 0, none⟩) (y.bs.length + k + 1) c2) w3 /\
   (∃ u, w3.cell? ⟨r, P.length * 2 + 1, none⟩ = some u) /\ w3.frozen? ⟨r, P.length * 2 + 1, none⟩ = false /\
   MarkSt W l (.slice (some ⟨r, 0, none⟩) n c) P Q y (k + 1) (w3.setCell ⟨r, P.length * 2 + 1, none⟩ (.slice (some ⟨g2, 0, none⟩) (y.bs.length + k + 1) c2)) := by
 obtain ⟨⟨g, c1, S⟩, B⟩ := h
 have mx : (⟨y.at_, g, c1, y.bs ++ List.replicate k 165, []⟩ : RM) ∈ P ++ ⟨y.at_, g, c1, y.bs ++ List.replicate k 165, []⟩ :: Q := List.mem_append.2 (Or.inr List.mem_cons_self)
 have O := S.one _ mx
 have ln : (y.bs ++ List.replicate k (165 : Int)).length = y.bs.length + k := by rw [List.length_append, List.length_replicate]
 obtain ⟨g2, c2, w3, R, O3, G3, N3⟩ := KJ O rfl 165 B.size (by show (y.bs ++ List.replicate k (165 : Int)).length <= _; omega)
 obtain ⟨k1, _, k3⟩ := S.cell
 obtain ⟨r', c', e, rl, rs, rne, _⟩ := S.row (by rw [List.length_append, List.length_cons]; omega)
 injection e with e1 _ _
 injection e1 with e1
 injection e1 with e1
 subst e1
 have bu : Below wr.heap.size wr (wr.alloc (.cells #[.int .u8 165] 5)) := (Below.refl _ wr).alloc zdA _
 have rr : w3.heap[r]? = wr.heap[r]? := (G3.block r (Nat.lt_of_lt_of_le rs bu.size) (fun z => by injection z with z; exact rne _ mx z.symm)).trans (bu.block r rs)
 simp only [ln] at R k1
 have bs' : y.bs ++ List.replicate k (165 : Int) ++ [165] = y.bs ++ List.replicate (k + 1) 165 := by rw [List.append_assoc, <- List.replicate_succ']
 refine ⟨g, c1, g2, c2, w3, k1, R, ⟨_, (World.cell?_of_block rr).trans k1⟩, (World.frozen?_of_block rr).trans (k3 _), ⟨g2, c2, ?_⟩, ?_⟩
 ·have := S.put (y := ⟨y.at_, g2, c2, y.bs ++ List.replicate (k + 1) 165, []⟩) rr (fun q lq ne => (G3.block q (Nat.lt_of_lt_of_le lq bu.size) (fun z => by injection z with z; exact ne z)).trans (bu.block q lq)) (by rw [<- bs']; exact O3) rfl N3 (by rw [List.append_nil]; exact ry.app (Vo _))
  have l2 : (y.bs ++ List.replicate (k + 1) (165 : Int)).length = y.bs.length + k + 1 := by rw [List.length_append, List.length_replicate]; omega
  simp only [l2] at this
  exact this
 ·have B3 := (B.trans (bu.mono B.size)).grown G3 (Nat.le_trans B.size bu.size) (fun q hq => by injection hq with hq; rw [<- hq]; exact O.lt.1)
  exact B3.setCell (p := ⟨r, P.length * 2 + 1, none⟩) rl _
theorem MarkSt.done {W wr : World} {l : List Frm} {r n c : Nat} {P Q : List RM} {y : RM} (h : MarkSt W l (.slice (some ⟨r, 0, none⟩) n c) P Q y 9 wr) (ry : Byt y.bs) (fr : rmF (P ++ y :: Q) = l) (mk : ∀ x ∈ P, x.ex = m9) (no : ∀ x ∈ Q, x.ex = []) :
  ∃ g c1, wr.cell? ⟨r, P.length * 2 + 1, none⟩ = some (.slice (some ⟨g, 0, none⟩) (y.bs.length + 9) c1) /\ y.bs.length <= c1 /\ wr.frozen? ⟨r, P.length * 2 + 1, none⟩ = false /\
   RoomSt W l (.slice (some ⟨r, 0, none⟩) n c) (P ++ [⟨y.at_, g, c1, y.bs, m9⟩]) Q (wr.setCell ⟨r, P.length * 2 + 1, none⟩ (.slice (some ⟨g, 0, none⟩) y.bs.length c1)) := by
 obtain ⟨⟨g, c1, S⟩, B⟩ := h
 have mx : (⟨y.at_, g, c1, y.bs ++ List.replicate 9 165, []⟩ : RM) ∈ P ++ ⟨y.at_, g, c1, y.bs ++ List.replicate 9 165, []⟩ :: Q := List.mem_append.2 (Or.inr List.mem_cons_self)
 have O := S.one _ mx
 have lo := O.lt.2.2.1
 simp only [List.length_append, List.length_replicate, List.length_nil] at lo
 obtain ⟨k1, _, k3⟩ := S.cell
 obtain ⟨r', c', e, rl, rs, rne, _⟩ := S.row (by rw [List.length_append, List.length_cons]; omega)
 injection e with e1 _ _
 injection e1 with e1
 injection e1 with e1
 subst e1
 have ln : (y.bs ++ List.replicate 9 (165 : Int)).length = y.bs.length + 9 := by rw [List.length_append, List.length_replicate]
 simp only [ln] at k1
 have N := S.put (y := ⟨y.at_, g, c1, y.bs, m9⟩) rfl (fun _ _ _ => rfl) (by
  unfold OneR at O ⊢
  simp only [List.append_nil] at O
  exact O) rfl (Or.inl rfl) (ry.app (Vo 9))
 refine ⟨g, c1, k1, by omega, k3 _, ⟨?_, ?_, fun x m => ?_, no, B.setCell (p := ⟨r, P.length * 2 + 1, none⟩) rl _⟩⟩
 ·rw [List.append_assoc]; exact N
 ·rw [<- fr, Zs, Zs, Zs]
  show (rmF P ++ [⟨y.at_, y.bs⟩]) ++ rmF Q = rmF P ++ (⟨y.at_, y.bs⟩ :: rmF Q)
  rw [List.append_assoc]
  rfl
 ·rcases List.mem_append.1 m with m | m
  ·exact mk x m
  ·rw [List.mem_singleton.1 m]
def RoomS (W : World) (n : Nat) (l : List Frm) (e : Ending) (w' : World) : Prop := ∃ r c' M, e = .returned (.slice (some ⟨r, 0, none⟩) n c') /\ n = M.length /\ rmF M = l /\ RmS W.heap.size w' (.slice (some ⟨r, 0, none⟩) (n + 9) c') M 9 /\ (∀ x ∈ M, x.ex = List.replicate 9 165) /\ Below W.heap.size W w'
theorem RmS.st_row9 {LO : Nat} {w : World} {v : Value} {M : List RM} (h : RmS LO w v M 9) : ∃ r c, v = .slice (some ⟨r, 0, none⟩) (M.length + 9) c /\ M.length + 9 <= c := by
 rcases h.own.2 with ⟨_, z⟩ | ⟨r, c, cur, e, hb, hg, hn, _⟩
 ·omega
 ·exact ⟨r, c, e, hn⟩
set_option maxHeartbeats 16000000 in
set_option maxRecDepth 100000 in
theorem law_roomyS (A : Option Addr) (c : Nat) (L : List FA) (B : Nat) (W : World) (D : FrsD W B A c L) (hB : B <= W.heap.size) (hl : L.length <= 134217728) (hb : ∀ x ∈ L, x.b.bs.length <= 134217728) :
  Calls Tryz.prog 14 #[.slice A L.length c] W (RoomS W L.length (frms L)) := by
 have CP := zdy (r_Copied A c L B W D hB hl)
 have LB : Hid (∀ f ∈ frms L, f.bs.length <= 134217728) := zdy (fun f m => by obtain ⟨x, mx, rfl⟩ := List.mem_map.1 m; exact hb x mx)
 have LN := zdy (qx L)
 obtain ⟨l, hll⟩ : ∃ l, l = frms L := ⟨_, rfl⟩
 obtain ⟨n, hn⟩ : ∃ n, n = L.length := ⟨_, rfl⟩
 rw [<- hll] at CP LB LN ⊢
 rw [<- hn] at CP LN hl ⊢
 clear D hB hb hll hn
 go_enter Tryz.func14, Tryz.ntmps14
 go_wp2_with fail
 refine CP.out.mono ?_; rintro e w1 ⟨v, M0, rfl, S0, F0, X0, B1⟩
 obtain ⟨A1, c1, e1⟩ := S0.slc
 have m0 : M0.length = n := by rw [<- KP, F0, LN.out]
 rw [Nat.add_zero, m0] at e1
 subst e1
 have R0 : Hid (RoomSt W l (.slice A1 n c1) [] M0 w1) := zdy ⟨S0, F0, fun x m => (by cases m), X0, B1⟩
 have HM0 := zdy m0
 clear CP S0 F0 X0 B1 m0
 go_wp2_with fail
 go_loopw [4] (fun s4 wr => ∃ (i : Nat) (P Q : List RM), i <= n /\ s4 = .int .i64 (i : Int) /\ Hid (P.length = i) /\ Hid (i + Q.length = n) /\ Hid (RoomSt W l (.slice A1 n c1) P Q wr)) (fun s4 _ => n - (intOf s4).toNat)
 case atStart => exact ⟨0, [], M0, Nat.zero_le _, rfl, zdy rfl, zdy (by rw [HM0.out, Nat.zero_add]), R0⟩
 case round =>
  obtain ⟨i, P, Q, hi, rfl, hp, hq, hs⟩ := hrel
  by_cases lt : i < n
  ·obtain ⟨y, Q', rfl⟩ : ∃ y Q', Q = y :: Q' := by
    cases Q with
    | nil => have := hq.out; simp at this; omega
    | cons y Q' => exact ⟨y, Q', rfl⟩
   obtain ⟨r, c', e, rl, rs, rne, rf, rcap⟩ := hs.out.st.row (by rw [List.length_append, List.length_cons]; omega)
   injection e with e1 e2 e3
   clear e2 e3 rf rcap
   subst e1
   have k0 := hs.out.st.cell.1
   rw [hp.out] at k0
   have ry : Hid (Byt y.bs) := zdy (by
    have := (hs.out.st.rng y (List.mem_append.2 (Or.inr List.mem_cons_self))).1
    rw [hs.out.no y List.mem_cons_self, List.append_nil] at this
    exact this)
   have yl : y.bs.length <= 134217728 := LB.out ⟨y.at_, y.bs⟩ (by rw [<- hs.out.fr, Zs]; exact List.mem_append.2 (Or.inr List.mem_cons_self))
   have M0 : Hid (MarkSt W l (.slice (some ⟨r, 0, none⟩) n c1) P Q' y 0 wr) := zdy ⟨⟨y.g, y.c, by
    have s := hs.out.st
    have e : y = ⟨y.at_, y.g, y.c, y.bs ++ List.replicate 0 165, []⟩ := by
     have := hs.out.no y List.mem_cons_self
     cases y
     simp at this ⊢
     exact this
    rw [<- e]
    exact s⟩, hs.out.bel⟩
   have q0 : (0 : Int) <= (i : Int) := by omega
   have q5 : (i : Int) < (n : Int) := by omega
   have tn : (i : Int).toNat = i := by omega
   have wk := zdz ((i : Int) + 1) (by omega)
   obtain ⟨yn, hyn⟩ : ∃ yn, yn = y.bs.length := ⟨_, rfl⟩
   have HYN := zdy hyn
   rw [<- hyn] at k0 yl
   clear rl rs rne hyn
   go_wp2_with fail
   clear k0
   go_loopw [6] (fun s6 wr => ∃ k : Nat, k <= 9 /\ s6 = .int .i64 (k : Int) /\ Hid (MarkSt W l (.slice (some ⟨r, 0, none⟩) n c1) P Q' y k wr)) (fun s6 _ => 9 - (intOf s6).toNat)
   case atStart => exact ⟨0, Nat.zero_le _, rfl, M0⟩
   case round =>
    obtain ⟨k, hk, rfl, hmk⟩ := hrel
    by_cases k9 : k < 9
    ·obtain ⟨g, c3, g2, c2, w3, kc, R, ⟨u, x1⟩, x2, NX⟩ := hmk.out.step ry.out (by rw [<- HYN.out]; omega)
     rw [hp.out, <- HYN.out] at kc NX
     rw [hp.out] at x1 x2
     rw [<- HYN.out] at R
     have HNX := zdy NX
     have p5 : (k : Int) < 9 := by omega
     have wq2 := zdz ((k : Int) + 1) (by omega)
     have kd : ∀ o, (wr.alloc o).cell? ⟨r, i * 2 + 1, none⟩ = some (.slice (some ⟨g, 0, none⟩) (yn + k) c3) := fun o => ((Below.refl wr.heap.size wr).alloc zdA o).cell (p := ⟨r, i * 2 + 1, none⟩) (block_lt_of_cell kc) |>.trans kc
     clear NX hmk M0
     go_wp2_with (first | (at_builtin; refine xo rfl (.tmp 32) (.tmp 33) 27 27 rfl _ _ _ _ rfl rfl R ?_) | fail)
     go_roundw
     case rel => exact ⟨k + 1, by omega, by go_num, HNX⟩
     case measure => simp [intOf]; omega
    ·have e : k = 9 := by omega
     subst e
     obtain ⟨g, c3, kc, kl, kf, NX⟩ := hmk.out.done ry.out hs.out.fr hs.out.mks (fun x m => hs.out.no x (List.mem_cons_of_mem _ m))
     rw [hp.out, <- HYN.out] at kc NX
     rw [hp.out] at kf
     rw [<- HYN.out] at kl
     have HNX := zdy NX
     have HPL := zdy (show (P ++ [(⟨y.at_, g, c3, y.bs, m9⟩ : RM)]).length = i + 1 by rw [List.length_append, hp.out]; rfl)
     have HQL := zdy (show i + 1 + Q'.length = n by have := hq.out; rw [List.length_cons] at this; omega)
     have p5 : ¬ ((9 : Nat) : Int) < 9 := by omega
     have y0 : (0 : Int) <= (yn : Int) := by omega
     have y1 : (yn : Int) <= (c3 : Int) := by omega
     have yt : (yn : Int).toNat = yn := by omega
     clear NX hmk M0 hs hp hq
     go_wp2_with fail
     go_roundw
     case rel => exact ⟨i + 1, _, Q', by omega, by go_num, HPL, HQL, HNX⟩
     case measure => simp [intOf]; omega
  ·have e : i = n := by omega
   subst e
   have q5 : ¬ (i : Int) < (i : Int) := by omega
   have q0 : Q = [] := List.eq_nil_of_length_eq_zero (by have := hq.out; omega)
   subst q0
   have ST := hs.out.st
   rw [List.append_nil] at ST
   have FR := hs.out.fr
   rw [List.append_nil] at FR
   have HST := zdy ST
   have HFR := zdy FR
   have HMK := zdy hs.out.mks
   have HBL := zdy hs.out.bel
   clear ST FR hs R0
   go_wp2_with fail
   go_loopw [3, 7] (fun s3 s7 wr => ∃ (k : Nat) (A' : Option Addr) (c' : Nat), k <= 9 /\ s3 = .slice A' (i + k) c' /\ s7 = .int .i64 (k : Int) /\ Hid (RmS W.heap.size wr (.slice A' (i + k) c') P k) /\ Hid (Below W.heap.size W wr)) (fun _ s7 _ => 9 - (intOf s7).toNat)
   case atStart => exact ⟨0, A1, c1, Nat.zero_le _, rfl, rfl, HST, HBL⟩
   case round =>
    obtain ⟨k, A', c', hk, rfl, rfl, hr, hb⟩ := hrel
    clear HST HBL
    by_cases k9 : k < 9
    ·have o := hr.out.own
     rw [hp.out] at o
     obtain ⟨A2, c2, w3, R, O2, G2⟩ := app_fr o (.int .i64 (-77)) (.slice none 0 0) rfl rfl hb.out.size (by omega)
     have bu : Below wr.heap.size wr (wr.alloc (.cells #[.int .i64 (-77), .slice none 0 0] 47)) := (Below.refl _ wr).alloc zdA _
     have NR := zdy (hr.out.more bu (by rw [hp.out]; exact O2) G2)
     have NB := zdy ((hb.out.trans (bu.mono hb.out.size)).grown G2 (Nat.le_trans hb.out.size bu.size) (fun q hq => ((qc o bu).lt q hq).1))
     have p5 : (k : Int) < 9 := by omega
     have wq2 := zdz ((k : Int) + 1) (by omega)
     obtain ⟨ik, hik⟩ : ∃ ik, ik = i + k := ⟨_, rfl⟩
     have hik1 : i + (k + 1) = ik + 1 := by omega
     rw [<- hik] at R NR ⊢
     have HIK := zdy hik1
     clear o O2 G2 bu hr hb hik hik1
     go_wp2_with (first | (at_builtin; refine xo rfl (.tmp 52) (.tmp 54) 24 24 rfl _ _ _ _ rfl rfl R ?_) | fail)
     go_roundw
     case rel => exact ⟨k + 1, A2, c2, by omega, by rw [HIK.out], by go_num, zdy (by rw [HIK.out]; exact NR.out), NB⟩
     case measure => simp [intOf]; omega
    ·have e : k = 9 := by omega
     subst e
     obtain ⟨r, c4, e, rc⟩ := hr.out.st_row9
     injection e with e1 e2 e3
     subst e1
     subst e3
     have FIN : Hid (RoomS W i l (.returned (.slice (some ⟨r, 0, none⟩) i c')) wr) := zdy ⟨r, c', P, rfl, hp.out.symm, HFR.out, hr.out, fun x m => HMK.out x m, hb.out⟩
     have p5 : ¬ ((9 : Nat) : Int) < 9 := by omega
     have y0 : (0 : Int) <= (i : Int) := by omega
     have y1 : (i : Int) <= (c' : Int) := by rw [hp.out] at rc; omega
     have yt : (i : Int).toNat = i := by omega
     clear hr hb rc e2
     go_wp2_with fail
     go_ret
     exact FIN.out
end
end
section
open Go.RowKit Go.Sort
end
section
open Go.RowKit Go.Sort
end
section
open Go.RowKit Go.Sort
def scrV (s : Scr) (A : Option Addr) (c : Nat) : Value := .agg #[.int .i64 s.w, .int .i64 s.h, .slice A s.cells.length c, .int .i64 s.x, .int .i64 s.y, .bool s.shown]
set_option maxHeartbeats 4000000 in
theorem QZ (s : Sty) : Gives 66 #[styV s.fg s.bg s.at_] (.agg #[.string ⟨#[32]⟩, .int .i8 1, .int .i32 (zT s).fg, .int .i32 (zT s).bg, .int .u8 (bI (zT s).at_)]) := by
 intro w
 have OV := zdy (over0 s)
 generalize zT s = t at *
 go_enter Tryz.func66, Tryz.ntmps66
 go_wp2_with fail
 refine (OV.out _).mono ?_; rintro e w1 ⟨rfl, hb1⟩
 have K : C5 w1 (w.heap.size + 1) (.string ⟨#[]⟩) (.int .i8 0) (.int .i32 0) (.int .i32 0) (.int .u8 0) := C5.keep (by constructor <;> simp [go_sem]) hb1 (by simp)
 have F : ∀ k, w1.frozen? ⟨w.heap.size + 1, k, none⟩ = false := fun k => (hb1.frozen (p := ⟨w.heap.size + 1, k, none⟩) (by simp)).trans (by simp [go_sem])
 have HB := zdy (show Below w.heap.size w w1 from qV (by go_grown) (by simp; omega) hb1)
 clear hb1
 obtain ⟨k0, k1, k2, k3, k4⟩ := K
 have f0 := F 0
 have f1 := F 1
 have f2 := F 2
 have f3 := F 3
 have f4 := F 4
 clear F
 go_wp2_with fail
 refine bodyPost_ret (v := .agg #[.string ⟨#[32]⟩, .int .i8 1, .int .i32 t.fg, .int .i32 t.bg, .int .u8 (bI t.at_)]) (by simp [results, Tryz.results66, go_sem, k0, k1, k2, k3, k4]) rfl ⟨rfl, ?_⟩
 repeat (first | with_reducible exact HB.out | refine Below.setCell ?_ (by first | exact zdA | exact Nat.le_succ _) _)
end
end Go.Proofs.YtmaofighbpnbiaaGreatDoor
