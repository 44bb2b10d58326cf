/- What lies below tapes (kept of earlier texts: TqY, TqD, TqF, TrS, TrT, DfRi). -/
import Derived.Test.YtmaofighbpnbiaaGreatDoorTaFF
set_option linter.unusedVariables false
set_option linter.unusedSimpArgs false
namespace Go.Proofs.YtmaofighbpnbiaaGreatDoor
section
open Go Go.RowKit Go.Sort
section
def m9 : List Int := List.replicate 9 165
structure RoomSt (W : World) (l : List Frm) (v : Value) (P Q : List RM) (wr : World) : Prop where
 st : RmS W.heap.size wr v (P ++ Q) 0
 fr : rmF (P ++ Q) = l
 mks : ∀ x ∈ P, x.ex = m9
 no : ∀ x ∈ Q, x.ex = []
 bel : Below W.heap.size W wr
theorem RmS.cell {LO : Nat} {w : World} {r n c k : Nat} {P Q : List RM} {x : RM} (h : RmS LO w (.slice (some ⟨r, 0, none⟩) n c) (P ++ x :: Q) k) : w.cell? ⟨r, P.length * 2 + 1, none⟩ = some (.slice (some ⟨x.g, 0, none⟩) x.bs.length x.c) /\ w.cell? ⟨r, P.length * 2, none⟩ = some (.int .i64 x.at_) /\ ∀ i, w.frozen? ⟨r, i, none⟩ = false := by
 have o := h.own
 have e := xd o rfl
 injection e with _ e2 _
 rw [<- e2] at o
 have ln : (P ++ x :: Q).length = P.length + (Q.length + 1) := by rw [List.length_append, List.length_cons]
 have ca := fun j hj => o.cellAt j hj
 have g : ∀ j, j < 2 -> (rmV (P ++ x :: Q) ++ z77 k)[P.length * 2 + j]? = (frV x.fa)[j]? := fun j hj => by
  rw [kt, kY, List.append_assoc, List.getElem?_append_right (by rw [xv]; omega), xv, show P.length * 2 + j - P.length * 2 = j by omega, List.append_assoc, List.getElem?_append_left (by show j < 2; exact hj)]
  rfl
 refine ⟨?_, ?_, fun i => o.frozenAt i⟩
 ·rw [ca _ (by omega), g 1 (by decide)]; rfl
 ·have := ca (P.length * 2 + 0) (by omega)
  rw [g 0 (by decide)] at this
  exact this
theorem kv (A B : List RM) : rmF (A ++ B) = rmF A ++ rmF B := by unfold rmF; rw [List.map_append]
structure MarkSt (W : World) (l : List Frm) (v : Value) (P Q : List RM) (y : RM) (k : Nat) (wr : World) : Prop where
 ex : ∃ g c, RmS W.heap.size wr v (P ++ ⟨y.at_, g, c, y.bs ++ List.replicate k 165, []⟩ :: Q) 0
 bel : Below W.heap.size W wr
theorem Vo (k : Nat) : Byt (List.replicate k 165) := fun b m => by rw [List.eq_of_mem_replicate m]; decide
theorem MarkSt.step {W wr : World} {l : List Frm} {r n c : Nat} {P Q : List RM} {y : RM} {k : Nat} (h : MarkSt W l (.slice (some ⟨r, 0, none⟩) n c) P Q y k wr) (ry : Byt y.bs) (len : y.bs.length + k <= 999999999) :
  ∃ g c1 g2 c2 w3, wr.cell? ⟨r, P.length * 2 + 1, none⟩ = some (.slice (some ⟨g, 0, none⟩) (y.bs.length + k) c1) /\
   (Builtin.append_ #[27, 27] 27 #[.slice (some ⟨g, 0, none⟩) (y.bs.length + k) c1, .slice (some ⟨wr.heap.size, 0, none⟩) 1 1]).run Tryz.prog (wr.alloc (.cells #[.int .u8 165] 5)) = .ok (.slice (some ⟨g2, 0, none⟩) (y.bs.length + k + 1) c2) w3 /\
   (∃ u, w3.cell? ⟨r, P.length * 2 + 1, none⟩ = some u) /\ w3.frozen? ⟨r, P.length * 2 + 1, none⟩ = false /\
   MarkSt W l (.slice (some ⟨r, 0, none⟩) n c) P Q y (k + 1) (w3.setCell ⟨r, P.length * 2 + 1, none⟩ (.slice (some ⟨g2, 0, none⟩) (y.bs.length + k + 1) c2)) := by
 obtain ⟨⟨g, c1, S⟩, B⟩ := h
 have mx : (⟨y.at_, g, c1, y.bs ++ List.replicate k 165, []⟩ : RM) ∈ P ++ ⟨y.at_, g, c1, y.bs ++ List.replicate k 165, []⟩ :: Q := List.mem_append.2 (Or.inr List.mem_cons_self)
 have O := S.one _ mx
 have ln : (y.bs ++ List.replicate k (165 : Int)).length = y.bs.length + k := by rw [List.length_append, List.length_replicate]
 obtain ⟨g2, c2, w3, R, O3, G3, N3⟩ := Vm O rfl 165 B.size (by show (y.bs ++ List.replicate k (165 : Int)).length <= _; omega)
 obtain ⟨k1, _, k3⟩ := S.cell
 obtain ⟨r', c', e, rl, rs, rne, _⟩ := S.row (by rw [List.length_append, List.length_cons]; omega)
 injection e with e1 _ _
 injection e1 with e1
 injection e1 with e1
 subst e1
 have bu : Below wr.heap.size wr (wr.alloc (.cells #[.int .u8 165] 5)) := (Below.refl _ wr).alloc zdZ _
 have rr : w3.heap[r]? = wr.heap[r]? := (G3.block r (Nat.lt_of_lt_of_le rs bu.size) (fun z => by injection z with z; exact rne _ mx z.symm)).trans (bu.block r rs)
 simp only [ln] at R k1
 have bs' : y.bs ++ List.replicate k (165 : Int) ++ [165] = y.bs ++ List.replicate (k + 1) 165 := by rw [List.append_assoc, <- List.replicate_succ']
 refine ⟨g, c1, g2, c2, w3, k1, R, ⟨_, (World.cell?_of_block rr).trans k1⟩, (World.frozen?_of_block rr).trans (k3 _), ⟨g2, c2, ?_⟩, ?_⟩
 ·have := S.put (y := ⟨y.at_, g2, c2, y.bs ++ List.replicate (k + 1) 165, []⟩) rr (fun q lq ne => (G3.block q (Nat.lt_of_lt_of_le lq bu.size) (fun z => by injection z with z; exact ne z)).trans (bu.block q lq)) (by rw [<- bs']; exact O3) rfl N3 (by rw [List.append_nil]; exact ry.app (Vo _))
  have l2 : (y.bs ++ List.replicate (k + 1) (165 : Int)).length = y.bs.length + k + 1 := by rw [List.length_append, List.length_replicate]; omega
  simp only [l2] at this
  exact this
 ·have B3 := (B.trans (bu.mono B.size)).grown G3 (Nat.le_trans B.size bu.size) (fun q hq => by injection hq with hq; rw [<- hq]; exact O.lt.1)
  exact B3.setCell (p := ⟨r, P.length * 2 + 1, none⟩) rl _
theorem MarkSt.done {W wr : World} {l : List Frm} {r n c : Nat} {P Q : List RM} {y : RM} (h : MarkSt W l (.slice (some ⟨r, 0, none⟩) n c) P Q y 9 wr) (ry : Byt y.bs) (fr : rmF (P ++ y :: Q) = l) (mk : ∀ x ∈ P, x.ex = m9) (no : ∀ x ∈ Q, x.ex = []) :
  ∃ g c1, wr.cell? ⟨r, P.length * 2 + 1, none⟩ = some (.slice (some ⟨g, 0, none⟩) (y.bs.length + 9) c1) /\ y.bs.length <= c1 /\ wr.frozen? ⟨r, P.length * 2 + 1, none⟩ = false /\
   RoomSt W l (.slice (some ⟨r, 0, none⟩) n c) (P ++ [⟨y.at_, g, c1, y.bs, m9⟩]) Q (wr.setCell ⟨r, P.length * 2 + 1, none⟩ (.slice (some ⟨g, 0, none⟩) y.bs.length c1)) := by
 obtain ⟨⟨g, c1, S⟩, B⟩ := h
 have mx : (⟨y.at_, g, c1, y.bs ++ List.replicate 9 165, []⟩ : RM) ∈ P ++ ⟨y.at_, g, c1, y.bs ++ List.replicate 9 165, []⟩ :: Q := List.mem_append.2 (Or.inr List.mem_cons_self)
 have O := S.one _ mx
 have lo := O.lt.2.2.1
 simp only [List.length_append, List.length_replicate, List.length_nil] at lo
 obtain ⟨k1, _, k3⟩ := S.cell
 obtain ⟨r', c', e, rl, rs, rne, _⟩ := S.row (by rw [List.length_append, List.length_cons]; omega)
 injection e with e1 _ _
 injection e1 with e1
 injection e1 with e1
 subst e1
 have ln : (y.bs ++ List.replicate 9 (165 : Int)).length = y.bs.length + 9 := by rw [List.length_append, List.length_replicate]
 simp only [ln] at k1
 have N := S.put (y := ⟨y.at_, g, c1, y.bs, m9⟩) rfl (fun _ _ _ => rfl) (by
  unfold OneR at O ⊢
  simp only [List.append_nil] at O
  exact O) rfl (Or.inl rfl) (ry.app (Vo 9))
 refine ⟨g, c1, k1, by omega, k3 _, ⟨?_, ?_, fun x m => ?_, no, B.setCell (p := ⟨r, P.length * 2 + 1, none⟩) rl _⟩⟩
 ·rw [List.append_assoc]; exact N
 ·rw [<- fr, kv, kv, kv]
  show (rmF P ++ [⟨y.at_, y.bs⟩]) ++ rmF Q = rmF P ++ (⟨y.at_, y.bs⟩ :: rmF Q)
  rw [List.append_assoc]
  rfl
 ·rcases List.mem_append.1 m with m | m
  ·exact mk x m
  ·rw [List.mem_singleton.1 m]
def RoomS (W : World) (n : Nat) (l : List Frm) (e : Ending) (w' : World) : Prop := ∃ r c' M, e = .returned (.slice (some ⟨r, 0, none⟩) n c') /\ n = M.length /\ rmF M = l /\ RmS W.heap.size w' (.slice (some ⟨r, 0, none⟩) (n + 9) c') M 9 /\ (∀ x ∈ M, x.ex = List.replicate 9 165) /\ Below W.heap.size W w'
theorem RmS.st_row9 {LO : Nat} {w : World} {v : Value} {M : List RM} (h : RmS LO w v M 9) : ∃ r c, v = .slice (some ⟨r, 0, none⟩) (M.length + 9) c /\ M.length + 9 <= c := by
 rcases h.own.2 with ⟨_, z⟩ | ⟨r, c, cur, e, hb, hg, hn, _⟩
 ·omega
 ·exact ⟨r, c, e, hn⟩
set_option maxHeartbeats 16000000 in
set_option maxRecDepth 100000 in
theorem zcv (A : Option Addr) (c : Nat) (L : List FA) (B : Nat) (W : World) (D : FrsD W B A c L) (hB : B <= W.heap.size) (hl : L.length <= 134217728) (hb : ∀ x ∈ L, x.b.bs.length <= 134217728) :
  Calls Tryz.prog 14 #[.slice A L.length c] W (RoomS W L.length (frms L)) := by
 have CP := zdX (Vn A c L B W D hB hl)
 have LB : Hid (∀ f ∈ frms L, f.bs.length <= 134217728) := zdX (fun f m => by obtain ⟨x, mx, rfl⟩ := List.mem_map.1 m; exact hb x mx)
 have LN := zdX (zU L)
 obtain ⟨l, hll⟩ : ∃ l, l = frms L := ⟨_, rfl⟩
 obtain ⟨n, hn⟩ : ∃ n, n = L.length := ⟨_, rfl⟩
 rw [<- hll] at CP LB LN ⊢
 rw [<- hn] at CP LN hl ⊢
 clear D hB hb hll hn
 go_enter Tryz.func14, Tryz.ntmps14
 go_wp2_with fail
 refine CP.out.mono ?_; rintro e w1 ⟨v, M0, rfl, S0, F0, X0, B1⟩
 obtain ⟨A1, c1, e1⟩ := S0.slc
 have m0 : M0.length = n := by rw [<- Je, F0, LN.out]
 rw [Nat.add_zero, m0] at e1
 subst e1
 have R0 : Hid (RoomSt W l (.slice A1 n c1) [] M0 w1) := zdX ⟨S0, F0, fun x m => (by cases m), X0, B1⟩
 have HM0 := zdX m0
 clear CP S0 F0 X0 B1 m0
 go_wp2_with fail
 go_loopw [4] (fun s4 wr => ∃ (i : Nat) (P Q : List RM), i <= n /\ s4 = .int .i64 (i : Int) /\ Hid (P.length = i) /\ Hid (i + Q.length = n) /\ Hid (RoomSt W l (.slice A1 n c1) P Q wr)) (fun s4 _ => n - (intOf s4).toNat)
 case atStart => exact ⟨0, [], M0, Nat.zero_le _, rfl, zdX rfl, zdX (by rw [HM0.out, Nat.zero_add]), R0⟩
 case round =>
  obtain ⟨i, P, Q, hi, rfl, hp, hq, hs⟩ := hrel
  by_cases lt : i < n
  ·obtain ⟨y, Q', rfl⟩ : ∃ y Q', Q = y :: Q' := by
    cases Q with
    | nil => have := hq.out; simp at this; omega
    | cons y Q' => exact ⟨y, Q', rfl⟩
   obtain ⟨r, c', e, rl, rs, rne, rf, rcap⟩ := hs.out.st.row (by rw [List.length_append, List.length_cons]; omega)
   injection e with e1 e2 e3
   clear e2 e3 rf rcap
   subst e1
   have k0 := hs.out.st.cell.1
   rw [hp.out] at k0
   have ry : Hid (Byt y.bs) := zdX (by
    have := (hs.out.st.rng y (List.mem_append.2 (Or.inr List.mem_cons_self))).1
    rw [hs.out.no y List.mem_cons_self, List.append_nil] at this
    exact this)
   have yl : y.bs.length <= 134217728 := LB.out ⟨y.at_, y.bs⟩ (by rw [<- hs.out.fr, kv]; exact List.mem_append.2 (Or.inr List.mem_cons_self))
   have M0 : Hid (MarkSt W l (.slice (some ⟨r, 0, none⟩) n c1) P Q' y 0 wr) := zdX ⟨⟨y.g, y.c, by
    have s := hs.out.st
    have e : y = ⟨y.at_, y.g, y.c, y.bs ++ List.replicate 0 165, []⟩ := by
     have := hs.out.no y List.mem_cons_self
     cases y
     simp at this ⊢
     exact this
    rw [<- e]
    exact s⟩, hs.out.bel⟩
   have q0 : (0 : Int) <= (i : Int) := by omega
   have q5 : (i : Int) < (n : Int) := by omega
   have tn : (i : Int).toNat = i := by omega
   have wk := zdY ((i : Int) + 1) (by omega)
   obtain ⟨yn, hyn⟩ : ∃ yn, yn = y.bs.length := ⟨_, rfl⟩
   have HYN := zdX hyn
   rw [<- hyn] at k0 yl
   clear rl rs rne hyn
   go_wp2_with fail
   clear k0
   go_loopw [6] (fun s6 wr => ∃ k : Nat, k <= 9 /\ s6 = .int .i64 (k : Int) /\ Hid (MarkSt W l (.slice (some ⟨r, 0, none⟩) n c1) P Q' y k wr)) (fun s6 _ => 9 - (intOf s6).toNat)
   case atStart => exact ⟨0, Nat.zero_le _, rfl, M0⟩
   case round =>
    obtain ⟨k, hk, rfl, hmk⟩ := hrel
    by_cases k9 : k < 9
    ·obtain ⟨g, c3, g2, c2, w3, kc, R, ⟨u, x1⟩, x2, NX⟩ := hmk.out.step ry.out (by rw [<- HYN.out]; omega)
     rw [hp.out, <- HYN.out] at kc NX
     rw [hp.out] at x1 x2
     rw [<- HYN.out] at R
     have HNX := zdX NX
     have p5 : (k : Int) < 9 := by omega
     have wq2 := zdY ((k : Int) + 1) (by omega)
     have kd : ∀ o, (wr.alloc o).cell? ⟨r, i * 2 + 1, none⟩ = some (.slice (some ⟨g, 0, none⟩) (yn + k) c3) := fun o => ((Below.refl wr.heap.size wr).alloc zdZ o).cell (p := ⟨r, i * 2 + 1, none⟩) (block_lt_of_cell kc) |>.trans kc
     clear NX hmk M0
     go_wp2_with (first | (at_builtin; refine xG rfl (.tmp 32) (.tmp 33) 27 27 rfl _ _ _ _ rfl rfl R ?_) | fail)
     go_roundw
     case rel => exact ⟨k + 1, by omega, by go_num, HNX⟩
     case measure => simp [intOf]; omega
    ·have e : k = 9 := by omega
     subst e
     obtain ⟨g, c3, kc, kl, kf, NX⟩ := hmk.out.done ry.out hs.out.fr hs.out.mks (fun x m => hs.out.no x (List.mem_cons_of_mem _ m))
     rw [hp.out, <- HYN.out] at kc NX
     rw [hp.out] at kf
     rw [<- HYN.out] at kl
     have HNX := zdX NX
     have HPL := zdX (show (P ++ [(⟨y.at_, g, c3, y.bs, m9⟩ : RM)]).length = i + 1 by rw [List.length_append, hp.out]; rfl)
     have HQL := zdX (show i + 1 + Q'.length = n by have := hq.out; rw [List.length_cons] at this; omega)
     have p5 : ¬ ((9 : Nat) : Int) < 9 := by omega
     have y0 : (0 : Int) <= (yn : Int) := by omega
     have y1 : (yn : Int) <= (c3 : Int) := by omega
     have yt : (yn : Int).toNat = yn := by omega
     clear NX hmk M0 hs hp hq
     go_wp2_with fail
     go_roundw
     case rel => exact ⟨i + 1, _, Q', by omega, by go_num, HPL, HQL, HNX⟩
     case measure => simp [intOf]; omega
  ·have e : i = n := by omega
   subst e
   have q5 : ¬ (i : Int) < (i : Int) := by omega
   have q0 : Q = [] := List.eq_nil_of_length_eq_zero (by have := hq.out; omega)
   subst q0
   have ST := hs.out.st
   rw [List.append_nil] at ST
   have FR := hs.out.fr
   rw [List.append_nil] at FR
   have HST := zdX ST
   have HFR := zdX FR
   have HMK := zdX hs.out.mks
   have HBL := zdX hs.out.bel
   clear ST FR hs R0
   go_wp2_with fail
   go_loopw [3, 7] (fun s3 s7 wr => ∃ (k : Nat) (A' : Option Addr) (c' : Nat), k <= 9 /\ s3 = .slice A' (i + k) c' /\ s7 = .int .i64 (k : Int) /\ Hid (RmS W.heap.size wr (.slice A' (i + k) c') P k) /\ Hid (Below W.heap.size W wr)) (fun _ s7 _ => 9 - (intOf s7).toNat)
   case atStart => exact ⟨0, A1, c1, Nat.zero_le _, rfl, rfl, HST, HBL⟩
   case round =>
    obtain ⟨k, A', c', hk, rfl, rfl, hr, hb⟩ := hrel
    clear HST HBL
    by_cases k9 : k < 9
    ·have o := hr.out.own
     rw [hp.out] at o
     obtain ⟨A2, c2, w3, R, O2, G2⟩ := app_fr o (.int .i64 (-77)) (.slice none 0 0) rfl rfl hb.out.size (by omega)
     have bu : Below wr.heap.size wr (wr.alloc (.cells #[.int .i64 (-77), .slice none 0 0] 47)) := (Below.refl _ wr).alloc zdZ _
     have NR := zdX (hr.out.more bu (by rw [hp.out]; exact O2) G2)
     have NB := zdX ((hb.out.trans (bu.mono hb.out.size)).grown G2 (Nat.le_trans hb.out.size bu.size) (fun q hq => ((zV o bu).lt q hq).1))
     have p5 : (k : Int) < 9 := by omega
     have wq2 := zdY ((k : Int) + 1) (by omega)
     obtain ⟨ik, hik⟩ : ∃ ik, ik = i + k := ⟨_, rfl⟩
     have hik1 : i + (k + 1) = ik + 1 := by omega
     rw [<- hik] at R NR ⊢
     have HIK := zdX hik1
     clear o O2 G2 bu hr hb hik hik1
     go_wp2_with (first | (at_builtin; refine xG rfl (.tmp 52) (.tmp 54) 24 24 rfl _ _ _ _ rfl rfl R ?_) | fail)
     go_roundw
     case rel => exact ⟨k + 1, A2, c2, by omega, by rw [HIK.out], by go_num, zdX (by rw [HIK.out]; exact NR.out), NB⟩
     case measure => simp [intOf]; omega
    ·have e : k = 9 := by omega
     subst e
     obtain ⟨r, c4, e, rc⟩ := hr.out.st_row9
     injection e with e1 e2 e3
     subst e1
     subst e3
     have FIN : Hid (RoomS W i l (.returned (.slice (some ⟨r, 0, none⟩) i c')) wr) := zdX ⟨r, c', P, rfl, hp.out.symm, HFR.out, hr.out, fun x m => HMK.out x m, hb.out⟩
     have p5 : ¬ ((9 : Nat) : Int) < 9 := by omega
     have y0 : (0 : Int) <= (i : Int) := by omega
     have y1 : (i : Int) <= (c' : Int) := by rw [hp.out] at rc; omega
     have yt : (i : Int).toNat = i := by omega
     clear hr hb rc e2
     go_wp2_with fail
     go_ret
     exact FIN.out
end
end
section
open Go Go.RowKit Go.Sort
section
def NumRd (W : World) (g : Nat) (A : Option Addr) (c : Nat) (D : List Int) (r : RdT) (most : Int) (T : TypeId) (e : Ending) (w' : World) : Prop := e = .returned (.int .i64 (numR D r most).1) /\ RdS w' g A c D (numR D r most).2 T /\ Mv [g] W w'
def NumSo (W : World) (g : Nat) (A : Option Addr) (c : Nat) (D : List Int) (p0 : Nat) (most : Int) (P : Int × RdT) (T : TypeId) (i n : Nat) (r : RdT) (wr : World) : Prop := RdS wr g A c D r T /\ Mv [g] W wr /\ qE D p0 most (6 - i) i n r = P
theorem sl_noU (n c : Nat) (w : World) : (binOp .eql 27 (.slice none n c) (.slice none 0 0)).run Tryz.prog w = .ok (.bool true) w := by kernel_rfl
theorem sl_soU (ad : Addr) (n c : Nat) (w : World) : (binOp .eql 27 (.slice (some ad) n c) (.slice none 0 0)).run Tryz.prog w = .ok (.bool false) w := by kernel_rfl
theorem sl_noN (n c : Nat) (w : World) : (binOp .neq 27 (.slice none n c) (.slice none 0 0)).run Tryz.prog w = .ok (.bool false) w := by kernel_rfl
theorem Jf (ad : Addr) (n c : Nat) (w : World) : (binOp .neq 27 (.slice (some ad) n c) (.slice none 0 0)).run Tryz.prog w = .ok (.bool true) w := by kernel_rfl
theorem Vq {A : Option Addr} {D : List Int} {r : RdT} {n : Nat} (h : r.code ≠ 0 \/ D.length < r.at_ + n) : qy A D r n = .slice none 0 0 := by unfold qy; rw [if_pos h]
theorem Vr {W : World} {g : Nat} {A : Option Addr} {c : Nat} {D : List Int} {r : RdT} {T : TypeId} (h : RdS W g A c D r T) (c0 : r.code = 0) (lt : r.at_ < D.length) : ∃ ad, A = some ad /\ qy A D r 1 = .slice (some (ad.add r.at_)) 1 1 /\ ad.block < g /\ W.cell? (ad.add r.at_) = some (.int .u8 (D.getD r.at_ 0)) := by
 obtain ⟨ad, e, hb, hc⟩ := ki h.dat.sees r.at_ lt
 refine ⟨ad, e, ?_, hb, hc⟩
 have nf : ¬ (r.code ≠ 0 \/ D.length < r.at_ + 1) := by
  rintro (q | q)
  ·exact q c0
  ·omega
 have e : A = some ad := e
 subst e
 unfold qy
 rw [if_neg nf]
 rfl
theorem zcw {D : List Int} {p0 : Nat} {most : Int} (k i : Nat) (n : Int) {r : RdT} (c0 : r.code = 0) (lt : r.at_ < D.length) : qE D p0 most (k + 1) i n r = if D.getD r.at_ 0 < 128 then
   (if (D.getD r.at_ 0 = 0 /\ 0 < i) \/ most < n + D.getD r.at_ 0 * 128 ^ i then (0, zO ⟨r.at_ + 1, r.code, r.spot⟩ 300 p0) else (n + D.getD r.at_ 0 * 128 ^ i, ⟨r.at_ + 1, r.code, r.spot⟩))
  else qE D p0 most k (i + 1) (n + D.getD r.at_ 0 % 128 * 128 ^ i) ⟨r.at_ + 1, r.code, r.spot⟩ := by
 rw [qE, if_neg (by simp [c0]), if_neg (by omega)]
set_option maxHeartbeats 8000000 in
set_option maxRecDepth 100000 in
theorem vR (g : Nat) (A : Option Addr) (c : Nat) (D : List Int) (r : RdT) (most : Int) (W : World) (R : RdS W g A c D r 88) : Calls Tryz.prog 52 #[.pointer (some ⟨g, 0, none⟩), .int .i64 most] W (NumRd W g A c D r most 88) := by
 obtain ⟨P, hP⟩ : ∃ P, P = numR D r most := ⟨_, rfl⟩
 have ST : Hid (NumSo W g A c D r.at_ most P 88 0 0 r W) := zdX ⟨R, Mv.refl _ W, hP.symm⟩
 have EN : Hid (∀ (x : Int) (r' : RdT) (w' : World), P = (x, r') -> RdS w' g A c D r' 88 -> Mv [g] W w' -> NumRd W g A c D r most 88 (.returned (.int .i64 x)) w') := zdX (fun x r' w' e a b => by
  have e2 : numR D r most = (x, r') := hP.symm.trans e
  exact ⟨by rw [e2], by rw [e2]; exact a, b⟩)
 have k1 : W.cell? ⟨g, 1, none⟩ = some (.int .i64 (r.at_ : Int)) := R.box.c 1 _ rfl
 have hp0 : r.at_ <= D.length := R.at_
 have hD : D.length <= 140737488355328 := by have := R.dat.cap; have := R.dat.sz; dsimp only at *; omega
 have RB := zdX R.dat.rng
 generalize NumRd W g A c D r most 88 = post at *
 generalize r.at_ = p0 at *
 clear hP R
 go_enter Tryz.func52, Tryz.ntmps52
 go_wp2_with fail
 go_loopw [6, 7] (fun s6 s7 wr => ∃ (i n s : Nat) (r' : RdT), i <= 6 /\ s6 = .int .i64 (n : Int) /\ s7 = .int .i64 (s : Int) /\ s = 7 * i /\ n < 128 ^ i /\ Hid (NumSo W g A c D p0 most P 88 i n r' wr)) (fun _ s7 _ => 42 - (intOf s7).toNat)
 case atStart => exact ⟨0, 0, 0, r, by decide, rfl, rfl, rfl, by decide, ST⟩
 case round =>
  obtain ⟨i, n, s, r', hi, rfl, rfl, hs, hn, hr⟩ := hrel
  clear ST
  have j0 := hr.out.1.box
  by_cases lt : i < 6
  ·obtain ⟨k, hk⟩ : ∃ k, 6 - i = k + 1 := ⟨5 - i, by omega⟩
   have TK := zdX (Zw g A c D r' 1 wr hr.out.1 (by decide))
   have q6 : (s : Int) < 42 := by omega
   have HS := zdX hs
   by_cases bad : r'.code ≠ 0 \/ D.length < r'.at_ + 1
   ·have e0 := Vq (A := A) (n := 1) bad
    have EP : Hid (P = (0, (zC D r' 1).2)) := zdX (by
     have z := hr.out.2.2
     rw [hk, qE] at z
     by_cases c0 : r'.code = 0
     ·rw [if_neg (by simp [c0]), if_pos (by omega)] at z
      rw [<- z, Q9 c0 (by omega)]
      unfold zO
      rw [if_pos c0]
     ·rw [if_pos c0] at z
      rw [<- z, Q8 1 c0])
    have HE0 := zdX e0
    have HM := zdX hr.out.2.1
    clear hr e0 j0 bad hs hk
    go_wp2_with fail
    refine TK.out.mono ?_; rintro e w1 ⟨rfl, R1, M1⟩
    rw [HE0.out]
    have EN := zdX (EN.out _ _ _ EP.out R1 (HM.out.then M1))
    have sn := sl_noU 0 0 w1
    clear TK R1 M1
    go_wp2_with fail
    exact EN.out
   ·obtain ⟨c0, l2⟩ : r'.code = 0 /\ r'.at_ < D.length := by
     refine ⟨?_, ?_⟩
     ·by_cases q : r'.code = 0
      ·exact q
      ·exact absurd (Or.inl q) bad
     ·by_cases q : D.length < r'.at_ + 1
      ·exact absurd (Or.inr q) bad
      ·omega
    obtain ⟨ad, hA, tv, hb, _⟩ := Vr hr.out.1 c0 l2
    have HTV := zdX tv
    have HCELL := zdX (fun (w1 : World) (h : RdS w1 g A c D (zC D r' 1).2 88) => show w1.cell? (ad.add r'.at_) = some (.int .u8 (D.getD r'.at_ 0)) by
     obtain ⟨a2, e2, _, hc⟩ := ki h.dat.sees r'.at_ l2
     have e2 : A = some a2 := e2
     rw [hA] at e2
     cases e2
     exact hc)
    have ZZ := zdX ((hk ▸ hr.out.2.2 : qE D p0 most (k + 1) i n r' = P).symm.trans (zcw k i n c0 l2))
    have bd := Vc RB.out r'.at_
    generalize D.getD r'.at_ 0 = dd at *
    obtain ⟨d, rfl⟩ : ∃ d : Nat, dd = (d : Int) := ⟨dd.toNat, by omega⟩
    generalize ad.add r'.at_ = aa at *
    have TR := zdX (show (zC D r' 1).2 = ⟨r'.at_ + 1, 0, r'.spot⟩ by have := kU (n := 1) c0 (show r'.at_ + 1 <= D.length by omega); rw [show ((1 : Nat) : Int) = 1 from rfl] at this; rw [this])
    have HM := zdX hr.out.2.1
    obtain ⟨m, hm⟩ : ∃ m, m = d % 128 := ⟨_, rfl⟩
    obtain ⟨q, hq⟩ : ∃ q, q = m * 128 ^ i := ⟨_, rfl⟩
    obtain ⟨n2, hn2⟩ : ∃ n2, n2 = n + q := ⟨_, rfl⟩
    have ml : m < 128 := by omega
    have a1 : bits .and .u8 (d : Int) 127 = (m : Int) := by rw [hm]; exact and_127 d (by omega)
    have p2 : ((2 : Int) ^ s) = ((128 ^ i : Nat) : Int) := by rw [hs, Int.pow_mul]; simp
    have p5 : 128 ^ i <= 128 ^ 5 := Nat.pow_le_pow_right (by decide) (by omega)
    have p6 : 128 ^ 5 = 34359738368 := by decide
    have ql : q <= 127 * 34359738368 := by rw [hq]; exact Nat.mul_le_mul (by omega) (by omega)
    have a3 : IntKind.i64.wrap ((m : Int) * 2 ^ s) = (q : Int) := by
     have e : (m : Int) * 2 ^ s = (q : Int) := by rw [p2, hq]; simp
     rw [e]
     exact zdY _ (by omega)
    have a4 : bits .or .i64 (n : Int) (q : Int) = (n2 : Int) := by rw [hn2, hq]; exact or_digit n m i hn ml (by omega)
    have n2l : n2 < 128 ^ (i + 1) := by
     have : 128 ^ (i + 1) = 128 ^ i * 128 := Nat.pow_succ 128 i
     have : m * 128 ^ i <= 127 * 128 ^ i := Nat.mul_le_mul_right _ (by omega)
     omega
    have NV := zdX (show (n2 : Int) = (n : Int) + (d : Int) % 128 * 128 ^ i by rw [hn2, hq, hm]; simp)
    have HMM := zdX hm
    have HN2 := zdX n2l
    clear hr tv hb bad hA j0 hm hq hn2 p2 p5 p6 n2l hs
    go_wp2_with fail
    refine TK.out.mono ?_; rintro e w1 ⟨rfl, R1, M1⟩
    rw [HTV.out]
    have ss := sl_soU aa 1 1 w1
    have cc := HCELL.out w1 R1
    have R1 := zdX R1
    have M1 := zdX (HM.out.then M1)
    clear TK HM HCELL HTV
    go_upto_region 8 with fail
    by_cases big : 128 <= d
    ·have b1 : ¬ (d : Int) < 128 := by omega
     have wk := zdY ((s : Int) + 7) (by omega)
     have NX : Hid (NumSo W g A c D p0 most P 88 (i + 1) n2 ⟨r'.at_ + 1, r'.code, r'.spot⟩ w1) := zdX (by
      have z := ZZ.out
      rw [if_neg b1, <- NV.out] at z
      refine ⟨?_, M1.out, ?_⟩
      ·have t : RdS w1 g A c D (zC D r' 1).2 88 := R1.out
       rw [TR.out] at t
       rw [c0]
       exact t
      ·rw [show 6 - (i + 1) = k by omega]; exact z.symm)
     clear ZZ NV TR
     go_wp2_with fail
     go_roundw
     case rel => exact ⟨i + 1, n2, s + 7, _, by omega, rfl, by go_num, by have := HS.out; omega, HN2.out, NX⟩
     case measure => simp [intOf]; omega
    ·have b1 : (d : Int) < 128 := by omega
     have RR : RdS w1 g A c D ⟨r'.at_ + 1, r'.code, r'.spot⟩ 88 := by
      have t : RdS w1 g A c D (zC D r' 1).2 88 := R1.out
      rw [TR.out] at t
      rw [c0]
      exact t
     have FL := zdX (kq g A D.length c _ 300 p0 w1 RR.box)
     have ZY := ZZ.out
     have md : (d : Int) % 128 = (d : Int) := by omega
     have NV2 := NV.out
     rw [md] at NV2
     rw [if_pos b1, <- NV2] at ZY
     have HRR := zdX RR
     by_cases bd2 : ((d : Int) = 0 /\ 0 < i) \/ most < (n2 : Int)
     ·rw [if_pos bd2] at ZY
      have EP := zdX ZY
      have HN : Hid (∀ w', Bk w' g (rdV A D.length c (zO ⟨r'.at_ + 1, r'.code, r'.spot⟩ 300 p0)) 88 -> Mv [g] w1 w' -> post (.returned (.int .i64 0)) w') := zdX (fun w' b m => EN.out _ _ _ EP.out (HRR.out.nx m b (by rw [jO]; exact HRR.out.at_)) (M1.out.then m))
      clear ZZ NV TR ZY RR NV2 md EN HRR R1 M1 HMM HN2 hk
      by_cases d0 : d = 0
      ·subst d0
       have a1 : bits .and .u8 0 127 = (m : Int) := a1
       have cc : w1.cell? aa = some (.int .u8 0) := cc
       by_cases i0 : 0 < i
       ·have sp : (0 : Int) < (s : Int) := by have := HS.out; omega
        clear bd2
        go_wp2_with fail
        refine FL.out.mono ?_; rintro e w2 ⟨rfl, b2, m2⟩
        have EN := zdX (HN.out _ b2 m2)
        clear FL b2 m2 HN
        go_wp2_with fail
        exact EN.out
       ·have m0 : most < (n2 : Int) := by
         rcases bd2 with h | h
         ·exact absurd h.2 i0
         ·exact h
        have sp : ¬ (0 : Int) < (s : Int) := by have := HS.out; omega
        clear bd2
        go_wp2_with fail
        refine FL.out.mono ?_; rintro e w2 ⟨rfl, b2, m2⟩
        have EN := zdX (HN.out _ b2 m2)
        clear FL b2 m2 HN
        go_wp2_with fail
        exact EN.out
      ·have m0 : most < (n2 : Int) := by
        rcases bd2 with h | h
        ·exact absurd h.1 (by omega)
        ·exact h
       have d1 : ¬ (d : Int) = 0 := by omega
       clear bd2
       go_wp2_with fail
       refine FL.out.mono ?_; rintro e w2 ⟨rfl, b2, m2⟩
       have EN := zdX (HN.out _ b2 m2)
       clear FL b2 m2 HN
       go_wp2_with fail
       exact EN.out
     ·rw [if_neg bd2] at ZY
      have EY : Hid (post (.returned (.int .i64 (n2 : Int))) w1) := zdX (EN.out _ _ _ ZY RR M1.out)
      have m0 : ¬ most < (n2 : Int) := fun z => bd2 (Or.inr z)
      have d2 : (d : Int) = 0 -> ¬ 0 < i := fun a b => bd2 (Or.inl ⟨a, b⟩)
      clear ZZ NV TR ZY RR NV2 md EN HRR R1 M1 HMM HN2 hk FL bd2
      by_cases d0 : d = 0
      ·have sp : ¬ (0 : Int) < (s : Int) := by have := HS.out; have := d2 (by omega); omega
       subst d0
       have a1 : bits .and .u8 0 127 = (m : Int) := a1
       have cc : w1.cell? aa = some (.int .u8 0) := cc
       clear d2
       go_wp2_with fail
       exact EY.out
      ·have d1 : ¬ (d : Int) = 0 := by omega
       clear d2
       go_wp2_with fail
       exact EY.out
  ·have e6 : i = 6 := by omega
   subst e6
   have q6 : ¬ (s : Int) < 42 := by omega
   have EP : Hid (P = (0, zO r' 300 p0)) := zdX (by have z := hr.out.2.2; rw [qE] at z; exact z.symm)
   have FL := zdX (kq g A D.length c r' 300 p0 wr j0)
   have HN : Hid (∀ w', Bk w' g (rdV A D.length c (zO r' 300 p0)) 88 -> Mv [g] wr w' -> post (.returned (.int .i64 0)) w') := zdX (fun w' b m => EN.out _ _ _ EP.out (hr.out.1.nx m b (by rw [jO]; exact hr.out.1.at_)) (hr.out.2.1.then m))
   clear hr j0 hs hn
   go_wp2_with fail
   refine FL.out.mono ?_; rintro e w1 ⟨rfl, b1, m1⟩
   have EN := zdX (HN.out _ b1 m1)
   clear FL b1 m1 HN
   go_wp2_with fail
   exact EN.out
end
end
section
open Go Go.RowKit Go.Sort
section
theorem Jg {fn : Func} {p t u s : Tmp} {ty : TypeId} (h : fn.results = #[.cell p ty, .tmp t, .tmp u, .tmp s]) (tmps : Array Value) (P : Program) (w : World) :
  (results fn tmps).run P w = ((asAddr (tmps.getD p undef)).run P w).andThen fun a w₁ => ((loadVar ty a).run P w₁).andThen fun v w₂ => .ok (.tuple #[v, tmps.getD t undef, tmps.getD u undef, tmps.getD s undef]) w₂ := by
 simp only [results, h]
 simp [Sem.run_bind, Result.andThen]
def CpyR (W w' : World) (v : Value) (l : List Frm) : Prop := Below W.heap.size W w' /\ ((v = .slice none 0 0 /\ l = []) \/ ∃ g L', W.heap.size <= g /\ w'.ownsRow W.heap.size 47 2 v (cpF g 0 0 L').length ((cpF g 0 0 L').flatMap frV) /\ BRow w' g (zu L').length (zu L') /\ frms L' = l /\ ∀ x ∈ L', Byt x.b.bs /\ x.b.bs.length <= 1048576 /\ 0 <= x.at_ /\ x.at_ <= 1099511627776)
def DecR (W : World) (D : List Int) (e : Ending) (w' : World) : Prop := ∃ v, e = .returned (.tuple #[.agg #[.int .i64 (decT D).w, .int .i64 (decT D).h], v, .int .i64 (decT D).code, .int .i64 (decT D).spot]) /\ CpyR W w' v (decT D).l
def lit3 (i : Nat) : Int := if i = 0 then 70 else if i = 1 then 77 else 1
def stR (D : List Int) : Nat -> RdT
 | 0 => ⟨0, 0, 0⟩
 | i + 1 => xa D (stR D i) i (lit3 i)
theorem zcx {D : List Int} {r : RdT} (i c : Int) (h : (zC D r 1).1 = []) : xa D r i c = (zC D r 1).2 := by unfold xa; rw [if_neg (fun z => z.1 h)]
theorem zcy {D : List Int} {r : RdT} (i c : Int) (c0 : r.code = 0) (lt : r.at_ < D.length) : xa D r i c = if D.getD r.at_ 0 ≠ c then zO ⟨r.at_ + 1, 0, r.spot⟩ 300 i else ⟨r.at_ + 1, 0, r.spot⟩ := by
 have e := kU (n := 1) c0 (show r.at_ + 1 <= D.length by omega)
 rw [show ((1 : Nat) : Int) = 1 from rfl, take_one lt] at e
 unfold xa
 rw [e]
 by_cases z : D.getD r.at_ 0 = c
 ·rw [if_neg (fun q => q.2 z), if_neg (fun q => q z)]
 ·rw [if_pos ⟨by simp, z⟩, if_pos z]
theorem Zz {A : Option Addr} {c : Nat} {D : List Int} {r : RdT} {n : Nat} (h : r.code ≠ 0 \/ D.length < r.at_ + n) (ha : r.at_ <= D.length) : qy A D r n = .slice none 0 0 /\ (zC D r n).1 = [] := by
 refine ⟨Vq h, ?_⟩
 by_cases z : r.code = 0
 ·have lt : D.length < r.at_ + n := by
   rcases h with h | h
   ·exact absurd z h
   ·exact h
  rw [Q9 z (by omega)]
 ·rw [Q8 _ z]
def vS (Q2 : World) (g : Nat) (A : Option Addr) (c : Nat) (D : List Int) (i : Nat) (wr : World) : Prop := RdS wr g A c D (stR D i) 88 /\ Mv [g] Q2 wr
theorem take_dat {W : World} {g : Nat} {A : Option Addr} {c : Nat} {D : List Int} {r : RdT} {T : TypeId} (h : RdS W g A c D r T) (n : Nat) : ∃ (XA : Option Addr), qy A D r n = .slice XA (zC D r n).1.length (zC D r n).1.length /\ (zC D r n).1.length <= D.length /\ ∀ w', ByteD w' g ⟨A, c, D⟩ -> ByteD w' g ⟨XA, (zC D r n).1.length, (zC D r n).1⟩ := by
 by_cases bad : r.code ≠ 0 \/ D.length < r.at_ + n
 ·obtain ⟨e1, e2⟩ := Zz (A := A) (c := c) bad h.at_
  rw [e1, e2]
  exact ⟨none, rfl, Nat.zero_le _, fun w' _ => ⟨fun _ => rfl, zdZ, Nat.zero_le _, fun ne => absurd rfl ne, fun b m => by cases m⟩⟩
 ·have c0 : r.code = 0 := by
   by_cases q : r.code = 0
   ·exact q
   ·exact absurd (Or.inl q) bad
  have l2 : r.at_ + n <= D.length := by
   by_cases q : D.length < r.at_ + n
   ·exact absurd (Or.inr q) bad
   ·omega
  have e := kU c0 l2
  have ln := take_len l2
  rw [e]
  dsimp only
  rw [ln]
  unfold qy
  rw [if_neg bad]
  cases A with
  | none =>
   have z := h.dat.nil rfl
   have z2 := h.dat.cap
   dsimp only at z z2
   obtain rfl : n = 0 := by omega
   exact ⟨none, rfl, Nat.zero_le _, fun w' _ => ⟨fun _ => rfl, by simp, by simp, fun ne => absurd (by simp) ne, fun b m => by simp at m⟩⟩
  | some ad =>
   refine ⟨_, rfl, by omega, fun w' q => ⟨(fun z => by cases z), by rw [ln]; exact zdZ, by have := q.sz; dsimp only at this ⊢; rw [ln]; omega, fun ne => ?_, take_byt q.rng r.at_ n⟩⟩
   have n0 : n ≠ 0 := fun z => ne (by rw [z]; simp)
   have dn : D.map (Value.int .u8) ≠ [] := fun z => by
    have := congrArg List.length z
    simp at this
    subst this
    simp at l2
    omega
   obtain ⟨a2, e2, hb, hc⟩ := q.sees dn
   cases e2
   refine ⟨_, rfl, by rw [if_neg n0, z8]; exact hb, fun j u hj => ?_⟩
   rw [if_neg n0, jY]
   refine hc _ _ ?_
   have lt := (List.getElem?_eq_some_iff.1 hj).1
   simp only [List.length_map, ln] at lt
   rw [List.getElem?_map] at hj ⊢
   rw [List.getElem?_take, if_pos lt, List.getElem?_drop] at hj
   exact hj
theorem Vs {r : RdT} {D : List Int} {n : Nat} (bad : ¬ (r.code ≠ 0 \/ D.length < r.at_ + n)) : r.code = 0 /\ r.at_ + n <= D.length := by
 refine ⟨?_, ?_⟩
 ·by_cases q : r.code = 0
  ·exact q
  ·exact absurd (Or.inl q) bad
 ·by_cases q : D.length < r.at_ + n
  ·exact absurd (Or.inr q) bad
  ·omega
theorem Vt {W : World} {g : Nat} {A : Option Addr} {c : Nat} {D : List Int} {r : RdT} {T : TypeId} {n : Nat} (h : RdS W g A c D r T) (c0 : r.code = 0) (lt : r.at_ + (n + 1) <= D.length) : ∃ ad, A = some ad /\ qy A D r (n + 1) = .slice (some (ad.add r.at_)) (n + 1) (n + 1) /\ ad.block < g /\ ∀ w', ByteD w' g ⟨A, c, D⟩ -> ∀ j, r.at_ + j < D.length -> w'.cell? (ad.add (r.at_ + j)) = some (.int .u8 (D.getD (r.at_ + j) 0)) := by
 obtain ⟨ad, e, hb, hc⟩ := ki h.dat.sees r.at_ (show r.at_ < D.length by omega)
 have nf : ¬ (r.code ≠ 0 \/ D.length < r.at_ + (n + 1)) := by
  rintro (q | q)
  ·exact q c0
  ·omega
 have e : A = some ad := e
 subst e
 refine ⟨ad, rfl, ?_, hb, fun w' q j hj => ?_⟩
 ·unfold qy
  rw [if_neg nf]
  dsimp only
  rw [if_neg (Nat.succ_ne_zero n)]
 ·obtain ⟨a2, e2, _, hc⟩ := ki q.sees (r.at_ + j) hj
  cases e2
  exact hc
theorem zcz {D : List Int} {a : Nat} (h : a + 4 <= D.length) : (D.drop a).take 4 = [D.getD a 0, D.getD (a + 1) 0, D.getD (a + 2) 0, D.getD (a + 3) 0] := by
 have g : ∀ j, j < D.length -> D.drop j = D.getD j 0 :: D.drop (j + 1) := fun j hj => by
  rw [List.drop_eq_getElem_cons hj, List.getD_eq_getElem?_getD, List.getElem?_eq_getElem hj]
  rfl
 rw [g a (by omega), g (a + 1) (by omega), g (a + 1 + 1) (by omega), g (a + 1 + 1 + 1) (by omega)]
 rfl
theorem zcA {W : World} {B : Nat} {A : Option Addr} {D : List Int} (S : Sees W B A (D.map (.int .u8))) (n : Nat) : Sees W B A ((D.take n).map (.int .u8)) := fun ne => by
 obtain ⟨ad, e, hb, hc⟩ := S (fun z => ne (by have := congrArg (List.take n) z; rw [List.map_take] at *; rw [z]; simp))
 refine ⟨ad, e, hb, fun j u hj => hc j u ?_⟩
 rw [List.map_take, List.getElem?_take] at hj
 split at hj
 ·exact hj
 ·cases hj
structure FrsSo (Q2 : World) (lo g : Nat) (A : Option Addr) (c : Nat) (D : List Int) (F : List Frm × RdT) (k last : Nat) (r : RdT) (L : List FA) (v : Value) (wr : World) : Prop where
 rd : RdS wr g A c D r 88
 mv : Mv [g] Q2 wr
 own : wr.ownsRow lo 47 2 v L.length (L.flatMap frV)
 q2 : Q2.heap.size <= lo
 gl : g < Q2.heap.size
 le : lo <= wr.heap.size
 ok : ∀ x ∈ L, ByteD wr g x.b /\ x.b.bs.length <= 1048576 /\ 0 <= x.at_ /\ x.at_ <= 1099511627776
 eq : frms L ++ (frsR D k last r).1 = F.1 /\ (frsR D k last r).2 = F.2
theorem Jh {T0 T : TypeId} {w w' : World} {LO sz g : Nat} {v : Value} {n : Nat} {xs vs : List Value} (h : w.ownsRow LO T0 sz v n xs) (m : Mv [g] w w') (K : Bk w g vs T) (ne : T ≠ T0) : w'.ownsRow LO T0 sz v n xs := vP h (fun k cu e => m.blk k (Array.getElem?_eq_some_iff.1 e).1 (fun z => by
 rw [List.mem_singleton] at z
 subst z
 unfold Bk at K
 rw [K] at e
 cases e
 exact ne rfl))
theorem FrsSo.next {Q2 wr w7 u w8 : World} {lo g : Nat} {A : Option Addr} {c : Nat} {D : List Int} {F : List Frm × RdT} {k last p1 q1 : Nat} {r r5 r6 r7 : RdT} {L : List FA} {v v' : Value} {XA : Option Addr} {tl : List Int} (h : FrsSo Q2 lo g A c D F (k + 1) last r L v wr) (c0 : r.code = 0)
  (hp : numR D r (1099511627776 - (last : Int)) = ((p1 : Int), r5)) (hq : numR D r5 1099511627776 = ((q1 : Int), r6)) (ht : zC D r6 q1 = (tl, r7)) (R7 : RdS w7 g A c D r7 88) (m7 : Mv [g] wr w7) (bd : ByteD w7 g ⟨XA, tl.length, tl⟩) (bl : tl.length <= 1048576) (pl : last + p1 <= 1099511627776)
  (hu : Below w7.heap.size w7 u) (hg : u.grownBy w8 v.ownBlock) (ho : w8.ownsRow lo 47 2 v' (L.length + 1) (L.flatMap frV ++ [.int .i64 ((last : Int) + (p1 : Int)), .slice XA tl.length tl.length])) :
  FrsSo Q2 lo g A c D F k (last + p1) r7 (L ++ [⟨((last + p1 : Nat) : Int), ⟨XA, tl.length, tl⟩⟩]) v' w8 := by
 have o7 := Jh h.own m7 h.rd.box (by decide)
 have ou := zV o7 hu
 have su : lo <= u.heap.size := Nat.le_trans h.le (Nat.le_trans m7.size hu.size)
 have fr : ∀ z, v.ownBlock = some z -> lo <= z := fun z e => (ou.lt z e).1
 have B8 : ∀ j, j < w7.heap.size -> j < lo -> w8.heap[j]? = w7.heap[j]? := fun j h1 h2 => (hg.block j (Nat.lt_of_lt_of_le h1 hu.size) (fun e => by have := fr j e.symm; omega)).trans (hu.block j h1)
 have b7 : Below lo w7 w8 := ⟨hg.os.trans hu.os, hg.tape.trans hu.tape, hg.output.trans hu.output, Nat.le_trans hu.size hg.size, fun j lt => B8 j (by have := h.le; have := m7.size; omega) lt⟩
 have gl2 := h.gl
 have ql := h.q2
 have m27 := h.mv.then m7
 have gw : g <= wr.heap.size := Nat.le_of_lt h.rd.box.lt
 refine ⟨⟨R7.box.of_eq (b7.block g (by omega)), R7.dat.below b7 (by omega), R7.at_⟩, ⟨b7.os.trans m27.os, b7.tape.trans m27.tape, b7.output.trans m27.output, Nat.le_trans m27.size b7.size, fun j hj hne => (b7.block j (by omega)).trans (m27.blk j hj hne)⟩, ?_, h.q2, h.gl, Nat.le_trans su hg.size, fun x m => ?_, ?_⟩
 ·rw [List.length_append, List.flatMap_append, Vk]
  rw [show ((last : Int) + (p1 : Int)) = ((last + p1 : Nat) : Int) by simp] at ho
  exact ho
 ·rcases List.mem_append.1 m with m | m
  ·obtain ⟨q1, q2⟩ := h.ok x m
   exact ⟨(q1.below (m7.under gw) zdZ).below b7 (by omega), q2⟩
  ·rw [List.mem_singleton] at m
   subst m
   exact ⟨bd.below b7 (by omega), bl, by show (0 : Int) <= ((last + p1 : Nat) : Int); omega, by show ((last + p1 : Nat) : Int) <= _; omega⟩
 ·have e := h.eq
  rw [zcp k last c0, hp, hq] at e
  dsimp only at e
  rw [ht, show ((last : Int) + (p1 : Int)) = ((last + p1 : Nat) : Int) by simp] at e
  dsimp only at e
  refine ⟨?_, e.2⟩
  rw [<- e.1]
  unfold frms
  rw [List.map_append, List.append_assoc]
  rfl
theorem Vu {w : World} {lo n c : Nat} {A : Option Addr} {L : List FA} (h : w.ownsRow lo 47 2 (.slice A n c) L.length (L.flatMap frV)) (hl : L.length <= 1000000) (ok : ∀ x ∈ L, FrD w w.heap.size x) : FrsD w w.heap.size A c L := by
 refine ⟨fun e => ?_, ?_, by omega, fun ne => ?_, ok⟩
 ·rcases h.2 with ⟨z, _⟩ | ⟨g, cap, cur, z, _⟩
  ·cases z; rfl
  ·cases z; cases e
 ·rcases h.2 with ⟨z, y⟩ | ⟨g, cap, cur, z, _, _, y, _⟩
  ·omega
  ·cases z; exact y
 ·rcases h.2 with ⟨z, y⟩ | ⟨g, cap, cur, z, _, e, y, _⟩
  ·exact absurd (List.eq_nil_of_length_eq_zero (by rw [h.1, y])) ne
  ·cases z
   refine ⟨_, rfl, (Array.getElem?_eq_some_iff.1 e).1, fun j u hj => h.cells (g := g) rfl j u hj⟩
theorem own_farB {w w' : World} {b lo n : Nat} {v : Value} {xs : List Value} (h : w.ownsRow lo 47 2 v n xs) (lt : b < lo) (far : ∀ j, j ≠ b -> w'.heap[j]? = w.heap[j]?) : w'.ownsRow lo 47 2 v n xs := by
 refine ⟨h.1, ?_⟩
 rcases h.2 with hn | ⟨g, cap, cur, rfl, hb, hg, rest⟩
 ·exact .inl hn
 ·exact .inr ⟨g, cap, cur, rfl, hb, (far g (by omega)).trans hg, rest⟩
theorem zcB (D : List Int) : stR D 3 = vB D := rfl
set_option maxHeartbeats 32000000 in
set_option maxRecDepth 100000 in
theorem t_Decode (A : Option Addr) (c : Nat) (D : List Int) (B : Nat) (W : World) (BD : ByteD W B ⟨A, c, D⟩) (hB : B <= W.heap.size) : Calls Tryz.prog 20 #[.slice A D.length c] W (DecR W D) := by
  obtain ⟨i0, z0, hi0, hz0, hz1, hz2, hz3⟩ := infoF
  obtain ⟨Q0, hQ0⟩ : ∃ Q0, Q0 = W.alloc (.cells #[.int .i64 0, .int .i64 0] 23) := ⟨_, rfl⟩
  have B0 : Below W.heap.size W Q0 := by rw [hQ0]; exact (Below.refl _ W).alloc zdZ _
  have K0 : Bk Q0 W.heap.size [.int .i64 0, .int .i64 0] 23 := by rw [hQ0]; exact Bk.new W _ _
  have sz0 : Q0.heap.size = W.heap.size + 1 := by rw [hQ0]; simp
  have H0 := zdX hQ0
  by_cases big : 1048576 < D.length
  · have big' : (1048576 : Int) < (D.length : Int) := by omega
    have e0 : decT D = ⟨0, 0, [], 3, 0⟩ := by unfold decT; rw [if_pos big]
    have k0 := K0.c 0 _ rfl
    have k1 := K0.c 1 _ rfl
    have f0 := K0.f 0
    have f1 := K0.f 1
    have EN : Hid (∀ w', Below W.heap.size W w' -> DecR W D (.returned (.tuple #[.agg #[.int .i64 0, .int .i64 0], .slice none 0 0, .int .i64 3, .int .i64 0])) w') := zdX (fun w' b => by
      refine ⟨.slice none 0 0, by rw [e0], b, Or.inl ⟨rfl, by rw [e0]⟩⟩)
    clear hQ0 e0 K0
    go_enter Tryz.func20, Tryz.ntmps20
    go_upto_region 1 with fail
    rw [<- H0.out]
    go_wp2_with fail
    refine bodyPost_ret (v := .tuple #[.agg #[.int .i64 0, .int .i64 0], .slice none 0 0, .int .i64 3, .int .i64 0]) (by rw [Jg rfl]; go_simp) rfl ?_
    exact EN.out _ ((B0.setCell (p := ⟨W.heap.size, 0, none⟩) zdZ _).setCell (p := ⟨W.heap.size, 1, none⟩) zdZ _)
  · have big' : ¬ (1048576 : Int) < (D.length : Int) := by omega
    have dl : D.length <= 1048576 := by omega
    obtain ⟨g, hg⟩ : ∃ g, g = Q0.heap.size := ⟨_, rfl⟩
    obtain ⟨Q1, hQ1⟩ : ∃ Q1, Q1 = Q0.alloc (.cells #[.slice A D.length c, .int .i64 0, .int .i64 0, .int .i64 0] 88) := ⟨_, rfl⟩
    have B1 : Below Q0.heap.size Q0 Q1 := by rw [hQ1]; exact (Below.refl _ Q0).alloc zdZ _
    have R1 : RdS Q1 g A c D ⟨0, 0, 0⟩ 88 := ⟨by rw [hQ1, hg]; exact Bk.new Q0 _ _, (BD.below (B0.trans (B1.mono B0.size)) hB).more (by rw [hg]; exact Nat.le_trans hB B0.size), Nat.zero_le _⟩
    obtain ⟨Q2, hQ2⟩ : ∃ Q2, Q2 = Q1.alloc (.cells #[.int .u8 70, .int .u8 77, .int .u8 1] 5) := ⟨_, rfl⟩
    have B2 : Below Q1.heap.size Q1 Q2 := by rw [hQ2]; exact (Below.refl _ Q1).alloc zdZ _
    have LT : Bk Q2 Q1.heap.size [.int .u8 70, .int .u8 77, .int .u8 1] 5 := by rw [hQ2]; exact Bk.new Q1 _ _
    have R2 : RdS Q2 g A c D ⟨0, 0, 0⟩ 88 := R1.nx (Mv.below B2) (R1.box.of_eq (B2.block _ R1.box.lt)) (Nat.zero_le _)
    have g1 : g < Q1.heap.size := R1.box.lt
    have H1 := zdX hQ1
    have H2 := zdX hQ2
    have HLT := zdX LT
    have HR2 := zdX R2
    have HG := zdX (show Q0.heap.size = g /\ W.heap.size < g /\ Below W.heap.size W Q2 from ⟨hg.symm, by omega, (B0.trans (B1.mono B0.size)).trans (B2.mono (Nat.le_trans B0.size B1.size))⟩)
    have K2 := zdX (K0.of_eq ((B1.trans (B2.mono B1.size)).block _ K0.lt))
    have RNG := zdX BD.rng
    have HGL := zdX (Nat.lt_of_lt_of_le g1 B2.size)
    generalize hlb : Q1.heap.size = lb at *
    clear hQ0 hQ1 hQ2 B0 K0 B1 R1 B2 LT R2 sz0 big BD hg
    go_enter Tryz.func20, Tryz.ntmps20
    go_upto_region 1 with fail
    rw [<- H0.out]
    go_upto_region 4 with fail
    rw [<- H1.out, HG.out.1]
    go_upto_region 5 with fail
    rw [<- H2.out]
    have HH : Hid (vS Q2 g A c D 0 Q2) := zdX ⟨HR2.out, Mv.refl _ _⟩
    clear H0 H1 H2 hlb
    go_loopw [28] (fun s28 wr => ∃ (i : Nat), i <= 3 /\ s28 = .int .i64 (i : Int) /\ Hid (vS Q2 g A c D i wr)) (fun s28 _ => 3 - (intOf s28).toNat)
    case atStart => exact ⟨0, by decide, rfl, HH⟩
    case round =>
      obtain ⟨i, hi, rfl, he⟩ := hrel
      clear HH
      by_cases lt : i < 3
      · have q0 : (0 : Int) <= (i : Int) := by omega
        have q5 : (i : Int) < 3 := by omega
        have tn : (i : Int).toNat = i := by omega
        have wk := zdY ((i : Int) + 1) (by omega)
        have LB : Bk wr lb [.int .u8 70, .int .u8 77, .int .u8 1] 5 := HLT.out.of_eq (he.out.2.blk _ HLT.out.lt (by simp; omega))
        have cl : wr.cell? ⟨lb, i, none⟩ = some (.int .u8 (lit3 i)) := by
          obtain rfl | rfl | rfl : i = 0 \/ i = 1 \/ i = 2 := by omega
          · exact LB.c 0 _ rfl
          · exact LB.c 1 _ rfl
          · exact LB.c 2 _ rfl
        have TK := zdX (Zw g A c D (stR D i) 1 wr he.out.1 (by decide))
        have NS := zdX (show stR D (i + 1) = xa D (stR D i) i (lit3 i) from rfl)
        generalize lit3 i = l3 at *
        have HM := zdX he.out.2
        by_cases bad : (stR D i).code ≠ 0 \/ D.length < (stR D i).at_ + 1
        · have TN := zdX (Zz (A := A) (c := c) bad he.out.1.at_)
          have NX : Hid (∀ w1, TakR wr g A c D (stR D i) 1 88 (.returned (qy A D (stR D i) 1)) w1 -> vS Q2 g A c D (i + 1) w1) := zdX (fun w1 h => ⟨by rw [NS.out, zcx _ _ TN.out.2]; exact h.2.1, HM.out.then h.2.2⟩)
          clear LB he bad
          go_wp2_with fail
          refine TK.out.mono ?_; intro e w1 hT
          obtain rfl := hT.1
          have NX := zdX (NX.out w1 hT)
          rw [TN.out.1]
          have sn := sl_noN 0 0 w1
          clear TK hT TN
          go_wp2_with fail
          go_roundw
          case rel => exact ⟨i + 1, by omega, by go_num, NX⟩
          case measure => simp [intOf]; omega
        · obtain ⟨c0, l2⟩ : (stR D i).code = 0 /\ (stR D i).at_ < D.length := by
            refine ⟨?_, ?_⟩
            · by_cases q : (stR D i).code = 0
              · exact q
              · exact absurd (Or.inl q) bad
            · by_cases q : D.length < (stR D i).at_ + 1
              · exact absurd (Or.inr q) bad
              · omega
          obtain ⟨ad, hA, tv, hb, _⟩ := Vr he.out.1 c0 l2
          have HTV := zdX tv
          have HCELL := zdX (fun (w1 : World) (h : RdS w1 g A c D (zC D (stR D i) 1).2 88) => show w1.cell? (ad.add (stR D i).at_) = some (.int .u8 (D.getD (stR D i).at_ 0)) by
            obtain ⟨a2, e2, _, hc⟩ := ki h.dat.sees (stR D i).at_ l2
            have e2 : A = some a2 := e2
            rw [hA] at e2
            cases e2
            exact hc)
          have TR := zdX (show (zC D (stR D i) 1).2 = ⟨(stR D i).at_ + 1, 0, (stR D i).spot⟩ by have := kU (n := 1) c0 (show (stR D i).at_ + 1 <= D.length by omega); rw [show ((1 : Nat) : Int) = 1 from rfl] at this; rw [this])
          have ZZ := zdX (NS.out.trans (zcy (i : Int) l3 c0 l2))
          have L1 := zdX (show (stR D i).at_ + 1 <= D.length by omega)
          generalize ad.add (stR D i).at_ = aa at *
          generalize D.getD (stR D i).at_ 0 = dd at *
          generalize stR D i = ri at *
          clear LB he bad hA tv hb c0 l2
          by_cases ne : dd = l3
          · subst ne
            have NX : Hid (∀ w1, RdS w1 g A c D (zC D ri 1).2 88 -> Mv [g] wr w1 -> vS Q2 g A c D (i + 1) w1) := zdX (fun w1 a b => ⟨by rw [ZZ.out, if_neg (fun q => q rfl), <- TR.out]; exact a, HM.out.then b⟩)
            go_wp2_with fail
            refine TK.out.mono ?_; rintro e w1 ⟨rfl, R1, M1⟩
            rw [HTV.out]
            have ss := Jf aa 1 1 w1
            have cc := HCELL.out w1 R1
            have NX := zdX (NX.out w1 R1 M1)
            clear TK R1 M1 HCELL HTV HM TR
            go_wp2_with fail
            go_roundw
            case rel => exact ⟨i + 1, by omega, by go_num, NX⟩
            case measure => simp [intOf]; omega
          · have NX : Hid (∀ w1 w2, RdS w1 g A c D (zC D ri 1).2 88 -> Mv [g] wr w1 -> Bk w2 g (rdV A D.length c (zO ⟨ri.at_ + 1, 0, ri.spot⟩ 300 i)) 88 -> Mv [g] w1 w2 -> vS Q2 g A c D (i + 1) w2) := zdX (fun w1 w2 a b b2 m2 => ⟨by rw [ZZ.out, if_pos ne]; exact a.nx m2 b2 (by rw [jO]; exact L1.out), (HM.out.then b).then m2⟩)
            have FL := zdX (fun (w1 : World) (a : RdS w1 g A c D (zC D ri 1).2 88) => kq g A D.length c ⟨ri.at_ + 1, 0, ri.spot⟩ 300 i w1 (by rw [<- TR.out]; exact a.box))
            go_wp2_with fail
            refine TK.out.mono ?_; rintro e w1 ⟨rfl, R1, M1⟩
            rw [HTV.out]
            have ss := Jf aa 1 1 w1
            have cc := HCELL.out w1 R1
            have NX := zdX (NX.out w1 · R1 M1)
            have FL := zdX (FL.out w1 R1)
            clear TK R1 M1 HCELL HTV HM TR
            go_wp2_with fail
            refine FL.out.mono ?_; rintro e w2 ⟨rfl, b2, m2⟩
            have NX := zdX (NX.out w2 b2 m2)
            clear FL b2 m2
            go_wp2_with fail
            go_roundw
            case rel => exact ⟨i + 1, by omega, by go_num, NX⟩
            case measure => simp [intOf]; omega
      · have e3 : i = 3 := by omega
        subst e3
        have q5 : ¬ (3 : Int) < 3 := by omega
        obtain ⟨r0, hr0⟩ : ∃ r0, r0 = stR D 3 := ⟨_, rfl⟩
        have S0 := zdX (show RdS wr g A c D r0 88 /\ Mv [g] Q2 wr by rw [hr0]; exact he.out)
        have N1 := zdX (vR g A c D r0 4096 wr S0.out.1)
        have PR1 := zdX (vJ RNG.out r0 (most := 4096) (by decide))
        have HR0 := zdX hr0
        clear he hr0
        go_wp2_with fail
        refine N1.out.mono ?_; rintro e w1 ⟨rfl, R1, M1⟩
        have S1 := zdX (And.intro R1 (S0.out.2.then M1))
        obtain ⟨wn, hwn⟩ : ∃ wn : Nat, (numR D r0 4096).1 = (wn : Int) := ⟨(numR D r0 4096).1.toNat, by have := PR1.out; omega⟩
        obtain ⟨r1, hr1⟩ : ∃ r1, (numR D r0 4096).2 = r1 := ⟨_, rfl⟩
        have wl : wn <= 4096 := by have := PR1.out; omega
        rw [hwn]
        rw [hr1] at S1
        have E1 := zdX (And.intro hwn hr1)
        have a1 : w1.cell? ⟨g, 1, none⟩ = some (.int .i64 (r1.at_ : Int)) := S1.out.1.box.c 1 _ rfl
        have N2 := zdX (vR g A c D r1 4096 w1 S1.out.1)
        have PR2 := zdX (vJ RNG.out r1 (most := 4096) (by decide))
        clear N1 PR1 R1 M1 S0 hwn hr1
        go_wp2_with fail
        refine N2.out.mono ?_; rintro e w2 ⟨rfl, R2, M2⟩
        have S2 := zdX (And.intro R2 (S1.out.2.then M2))
        obtain ⟨hn, hhn⟩ : ∃ hn : Nat, (numR D r1 4096).1 = (hn : Int) := ⟨(numR D r1 4096).1.toNat, by have := PR2.out; omega⟩
        obtain ⟨r2, hr2⟩ : ∃ r2, (numR D r1 4096).2 = r2 := ⟨_, rfl⟩
        have hl : hn <= 4096 := by have := PR2.out; omega
        rw [hhn]
        rw [hr2] at S2
        have E2 := zdX (And.intro hhn hr2)
        obtain ⟨r3, hr3⟩ : ∃ r3, r3 = kK r2 r1.at_ wn hn := ⟨_, rfl⟩
        have E3 := zdX hr3
        obtain ⟨P, hP⟩ : ∃ P : Nat, (wn : Int) * (hn : Int) = (P : Int) := ⟨wn * hn, by simp⟩
        have pb : P <= 4096 * 4096 := by have : wn * hn <= 4096 * 4096 := Nat.mul_le_mul wl hl; have e : ((wn * hn : Nat) : Int) = (P : Int) := by rw [<- hP]; simp
                                         omega
        have wP : IntKind.i64.wrap ((wn : Int) * (hn : Int)) = (P : Int) := by rw [hP]; exact zdY _ (by omega)
        have HP := zdX hP
        clear N2 PR2 R2 M2 S1 hhn hr2 hr3 hP a1
        go_upto_if 59 with fail
        go_cut [] from 56 to 62 (fun wx => Hid (RdS wx g A c D r3 88 /\ Mv [g] Q2 wx))
        case first =>
          by_cases big2 : 1048576 < P
          · have b2 : (1048576 : Int) < (P : Int) := by omega
            have FL := zdX (kq g A D.length c r2 300 r1.at_ w2 S2.out.1.box)
            have NX : Hid (∀ w3, Bk w3 g (rdV A D.length c (zO r2 300 r1.at_)) 88 -> Mv [g] w2 w3 -> RdS w3 g A c D r3 88 /\ Mv [g] Q2 w3) := zdX (fun w3 b m => by
              have e : r3 = zO r2 300 r1.at_ := by rw [E3.out]; unfold kK; rw [if_pos (by rw [HP.out]; exact b2)]
              rw [e]
              exact ⟨S2.out.1.nx m b (by rw [jO]; exact S2.out.1.at_), S2.out.2.then m⟩)
            clear big2
            go_wp2_with fail
            refine FL.out.mono ?_; rintro e w3 ⟨rfl, b3, m3⟩
            have NX := zdX (NX.out w3 b3 m3)
            clear FL b3 m3
            go_wp2_with fail
            go_meet
            exact NX
          · have b2 : ¬ (1048576 : Int) < (P : Int) := by omega
            have NX : Hid (RdS w2 g A c D r3 88 /\ Mv [g] Q2 w2) := zdX (by
              have e : r3 = r2 := by rw [E3.out]; unfold kK; rw [if_neg (by rw [HP.out]; exact b2)]
              rw [e]
              exact S2.out)
            clear big2
            go_wp2_with fail
            go_meet
            exact NX
        case rest =>
          obtain ⟨w3, hw3⟩ : ∃ w3, w3 = wc := ⟨_, rfl⟩
          rw [<- hw3] at hcut ⊢
          have S3 := zdX hcut.out
          clear hw3 hcut S2 HP wP pb
          have N3 := zdX (vR g A c D r3 16384 w3 S3.out.1)
          have PR3 := zdX (vJ RNG.out r3 (most := 16384) (by decide))
          go_wp2_with fail
          refine N3.out.mono ?_; rintro e w4 ⟨rfl, R4, M4⟩
          have S4 := zdX (And.intro R4 (S3.out.2.then M4))
          obtain ⟨kn, hkn⟩ : ∃ kn : Nat, (numR D r3 16384).1 = (kn : Int) := ⟨(numR D r3 16384).1.toNat, by have := PR3.out; omega⟩
          obtain ⟨r4, hr4⟩ : ∃ r4, (numR D r3 16384).2 = r4 := ⟨_, rfl⟩
          have kl : kn <= 16384 := by have := PR3.out; omega
          rw [hkn]
          rw [hr4] at S4
          have E4 := zdX (And.intro hkn hr4)
          obtain ⟨F, hF⟩ : ∃ F, F = frsR D kn 0 r4 := ⟨_, rfl⟩
          have EF := zdX hF
          have FS : Hid (FrsSo Q2 w4.heap.size g A c D F kn 0 r4 [] (.slice none 0 0) w4) := zdX ⟨S4.out.1, S4.out.2, ⟨rfl, Or.inl ⟨rfl, rfl⟩⟩, S4.out.2.size, HGL.out, zdZ, (fun x m => by cases m), by rw [hF]; exact ⟨rfl, rfl⟩⟩
          obtain ⟨lo, hlo⟩ : ∃ lo, lo = w4.heap.size := ⟨_, rfl⟩
          rw [<- hlo] at FS
          clear N3 PR3 R4 M4 S3 hkn hr4 hF S4 hlo
          go_wp2_with fail
          go_loopw [13, 14, 15] (fun s13 s14 s15 wr => ∃ (k last ll : Nat) (r : RdT) (L : List FA) (A' : Option Addr) (c' : Nat), k + ll <= 16384 /\ ll = L.length /\ s13 = .int .i64 (k : Int) /\ s15 = .int .i64 (last : Int) /\ s14 = .slice A' ll c' /\ last <= 1099511627776 /\ Hid (FrsSo Q2 lo g A c D F k last r L (.slice A' ll c') wr)) (fun s13 _ _ _ => (intOf s13).toNat)
          case atStart => exact ⟨kn, 0, 0, r4, [], none, 0, by omega, rfl, rfl, rfl, rfl, by omega, FS⟩
          case round =>
            obtain ⟨k, last, ll, r, L, A', c', hk, hll, rfl, rfl, rfl, lb, he⟩ := hrel
            clear FS
            have HLL := zdX hll
            clear hll
            have j2 := he.out.rd.box.c 2 _ rfl
            by_cases go : 0 < k /\ r.code = 0
            · obtain ⟨k0, rc⟩ := go
              obtain ⟨k', rfl⟩ : ∃ k', k = k' + 1 := ⟨k - 1, by omega⟩
              obtain ⟨kk, hkk⟩ : ∃ kk, kk = k' + 1 := ⟨_, rfl⟩
              rw [<- hkk] at hk
              have q5 : (0 : Int) < (kk : Int) := by omega
              rw [rc] at j2
              have wk : IntKind.i64.wrap ((kk : Int) - 1) = (k' : Int) := by rw [zdY _ (by omega)]; omega
              have wl := zdY (1099511627776 - (last : Int)) (by omega)
              have N5 := zdX (vR g A c D r (1099511627776 - (last : Int)) wr he.out.rd)
              have PR5 := vJ RNG.out r (most := 1099511627776 - (last : Int)) (by omega)
              obtain ⟨p1, hp1⟩ : ∃ p1 : Nat, (numR D r (1099511627776 - (last : Int))).1 = (p1 : Int) := ⟨(numR D r (1099511627776 - (last : Int))).1.toNat, by omega⟩
              obtain ⟨r5, hr5⟩ : ∃ r5, (numR D r (1099511627776 - (last : Int))).2 = r5 := ⟨_, rfl⟩
              have pl : last + p1 <= 1099511627776 := by omega
              have E5 := zdX (show numR D r (1099511627776 - (last : Int)) = ((p1 : Int), r5) by rw [<- hp1, <- hr5])
              have wp := zdY ((last : Int) + (p1 : Int)) (by omega)
              have HKK := zdX hkk
              have RC := zdX rc
              clear PR5 hp1 hr5 hkk rc k0
              rw [show ((k' + 1 : Nat) : Int) = (kk : Int) by rw [HKK.out]]
              go_wp2_with fail
              refine N5.out.mono ?_; rintro e w5 ⟨rfl, R5, M5⟩
              rw [E5.out] at R5 ⊢
              dsimp only at R5 ⊢
              have S5 := zdX R5
              have HM5 := zdX M5
              have N6 := zdX (vR g A c D r5 1099511627776 w5 R5)
              have PR6 := vJ RNG.out r5 (most := 1099511627776) (by decide)
              obtain ⟨q1, hq1⟩ : ∃ q1 : Nat, (numR D r5 1099511627776).1 = (q1 : Int) := ⟨(numR D r5 1099511627776).1.toNat, by omega⟩
              obtain ⟨r6, hr6⟩ : ∃ r6, (numR D r5 1099511627776).2 = r6 := ⟨_, rfl⟩
              have E6 := zdX (show numR D r5 1099511627776 = ((q1 : Int), r6) by rw [<- hq1, <- hr6])
              have ql : q1 <= 1099511627776 := by omega
              clear N5 R5 M5 PR6 hq1 hr6
              go_wp2_with fail
              refine N6.out.mono ?_; rintro e w6 ⟨rfl, R6, M6⟩
              rw [E6.out] at R6 ⊢
              dsimp only at R6 ⊢
              obtain ⟨XA, tv, tle, tdat⟩ := take_dat R6 q1
              obtain ⟨tl, htl⟩ : ∃ tl, (zC D r6 q1).1 = tl := ⟨_, rfl⟩
              obtain ⟨r7, hr7⟩ : ∃ r7, (zC D r6 q1).2 = r7 := ⟨_, rfl⟩
              have E7 := zdX (show zC D r6 q1 = (tl, r7) by rw [<- htl, <- hr7])
              rw [htl] at tv tle tdat
              have T7 := Zw g A c D r6 q1 w6 R6 ql
              have TV := zdX tv
              have TD := zdX tdat
              have HM6 := zdX (HM5.out.then M6)
              have T7 := zdX T7
              have HTL := zdX tle
              clear N6 R6 M6 htl hr7 tv tle tdat HM5 S5
              go_wp2_with fail
              refine T7.out.mono ?_; intro e w7 hT
              obtain rfl := hT.1
              rw [TV.out]
              have S7 := zdX (show RdS w7 g A c D r7 88 by have := hT.2.1; rw [E7.out] at this; exact this)
              have HM7 := zdX (HM6.out.then hT.2.2)
              have ow := zdX (zV (Jh he.out.own HM7.out he.out.rd.box (by decide)) ((Below.refl _ w7).alloc zdZ (.cells #[.int .i64 ((last : Int) + (p1 : Int)), .slice XA tl.length tl.length] 47)))
              rw [<- HLL.out] at ow
              have NX : Hid (∀ (w8 : World) (v' : Value), w8.ownsRow lo 47 2 v' (ll + 1) (L.flatMap frV ++ [.int .i64 ((last : Int) + (p1 : Int)), .slice XA tl.length tl.length]) -> (w7.alloc (.cells #[.int .i64 ((last : Int) + (p1 : Int)), .slice XA tl.length tl.length] 47)).grownBy w8 (Value.slice A' ll c').ownBlock -> ∃ A4 c4 l4 L4, Hid (l4 = L4.length /\ l4 = ll + 1) /\ v' = .slice A4 l4 c4 /\ FrsSo Q2 lo g A c D F k' (last + p1) r7 L4 (.slice A4 l4 c4) w8) := zdX (fun w8 v' ho hg => by
                have N := FrsSo.next he.out RC.out E5.out E6.out E7.out S7.out HM7.out (TD.out w7 S7.out.dat) (Nat.le_trans HTL.out dl) pl ((Below.refl _ w7).alloc zdZ _) hg (by rw [<- HLL.out]; exact ho)
                obtain ⟨A4, c4, e⟩ := xu N.own
                have e4 := xd N.own e
                rw [e4] at N
                exact ⟨A4, c4, _, _, zdX ⟨rfl, by rw [List.length_append, <- HLL.out]; rfl⟩, e4, N⟩)
              generalize hm : tl.length = m at *
              have H1 : Hid (∀ u ∈ [Value.int .i64 ((last : Int) + (p1 : Int)), .slice XA m m], u.oneCell' = true) := zdX (by intro u hu; simp at hu; rcases hu with rfl | rfl <;> rfl)
              have H2 : Hid (ll + 1 <= maxLen) := zdX (by unfold maxLen; omega)
              have H3 : Hid ((ll + 1) * 32 <= 140737488355328) := zdX (by omega)
              have H4 : Hid (lo <= (w7.alloc (.cells #[.int .i64 ((last : Int) + (p1 : Int)), .slice XA m m] 47)).heap.size) := zdX (by have := he.out.le; have := HM7.out.size; simp; omega)
              have NW := zdX (jd w7 [.int .i64 ((last : Int) + (p1 : Int)), .slice XA m m] 47)
              clear T7 hT TV TD HM6 HM7 S7 HTL hm he
              go_wp2_with (at_builtin; refine wpList_append_own _ rfl (.tmp 82) (.tmp 89) 24 rfl lo 47 i0 z0 2 32 Tryz.underlying24 hi0 hz0 hz1 hz2 hz3 (by decide) (.slice A' ll c') ll _ rfl ow.out ⟨w7.heap.size, 0, none⟩ 1 1 _ rfl rfl NW.out H1.out H2.out H3.out H4.out ?_; intro v' w8 hown3 hg3 _; obtain ⟨A4, c4, l4, L4, hl4, rfl, P4⟩ := NX.out w8 v' hown3 hg3; have P4 := zdX P4; clear hown3 hg3 NX ow NW)
              go_roundw
              case rel => exact ⟨k', last + p1, l4, r7, L4, A4, c4, by have := hl4.out.2; have := HKK.out; omega, hl4.out.1, by go_num, by go_num, rfl, pl, P4⟩
              case measure => simp [intOf]; have := HKK.out; omega
            · have EQ : Hid (F = (frms L, r)) := zdX (by
                have e := he.out.eq
                have z : frsR D k last r = ([], r) := by
                  by_cases k0 : k = 0
                  · subst k0; rfl
                  · exact frsR_no k last (fun z => go ⟨by omega, z⟩)
                rw [z] at e
                dsimp only at e
                rw [List.append_nil] at e
                obtain ⟨f1, f2⟩ := F
                dsimp only at e
                rw [e.1, e.2])
              go_upto_region 19 with fail
              go_cut [73] from 65 to 73 (fun s73 wx => s73 = .bool false /\ wx = wr)
              case first =>
                by_cases k0 : k = 0
                · subst k0
                  clear he EQ go
                  go_wp2_with fail
                  go_meet
                  exact ⟨rfl, rfl⟩
                · have q5 : (0 : Int) < (k : Int) := by omega
                  have c0 : ¬ r.code = 0 := fun z => go ⟨by omega, z⟩
                  have c1 : (r.code == 0) = false := by simpa using c0
                  clear he EQ go
                  go_wp2_with fail
                  go_meet
                  exact ⟨by first | rfl | rw [c1], rfl⟩
              case rest =>
                obtain ⟨rfl, hwx⟩ := hcut
                rw [hwx]
                have llb : ll <= 16384 := by omega
                clear hwx go hk lb
                have a1 := he.out.rd.box.c 1 _ rfl
                have T4 := zdX (Zw g A c D r 4 wr he.out.rd (by decide))
                go_upto_region 24 with fail
                go_wp2_with fail
                refine T4.out.mono ?_; intro e w7 hT
                obtain rfl := hT.1
                have S7 := zdX (And.intro hT.2.1 hT.2.2)
                obtain ⟨tv, htv⟩ : ∃ tv, qy A D r 4 = tv := ⟨_, rfl⟩
                obtain ⟨β, hβ⟩ : ∃ β : Bool, β = !decide (r.code ≠ 0 \/ D.length < r.at_ + 4) := ⟨_, rfl⟩
                have HB := zdX hβ
                have HTV := zdX htv
                obtain ⟨r9, hr9⟩ : ∃ r9, r9 = sumR D r := ⟨_, rfl⟩
                have E9 := zdX hr9
                have HAT := zdX he.out.rd.at_
                rw [htv]
                clear T4 hT htv hβ hr9 a1
                go_upto_region 25 with fail
                go_cut [98] from 97 to 98 (fun s98 wx => s98 = .bool β /\ wx = w7)
                case first =>
                  by_cases bad : r.code ≠ 0 \/ D.length < r.at_ + 4
                  · obtain ⟨e1, e2⟩ := Zz (A := A) (c := c) bad HAT.out
                    have eb : β = false := by rw [HB.out, decide_eq_true bad]; rfl
                    have et : tv = .slice none 0 0 := HTV.out.symm.trans e1
                    have sn := sl_noN 0 0 w7
                    subst et
                    subst eb
                    clear bad e1 e2
                    go_wp2_with fail
                    go_meet
                    exact ⟨rfl, rfl⟩
                  · have eb : β = true := by rw [HB.out, decide_eq_false bad]; rfl
                    obtain ⟨ad, et⟩ : ∃ ad, tv = .slice (some ad) 4 4 := by
                      obtain ⟨c0, l4⟩ := Vs bad
                      obtain ⟨ad, _, h2, _⟩ := Vt (n := 3) he.out.rd c0 l4
                      exact ⟨_, HTV.out.symm.trans h2⟩
                    have sn := Jf ad 4 4 w7
                    subst et
                    subst eb
                    clear bad
                    go_wp2_with fail
                    go_meet
                    exact ⟨rfl, rfl⟩
                case rest =>
                  obtain ⟨rfl, hwx⟩ := hcut
                  rw [hwx]
                  clear hwx
                  go_upto_if 98 with fail
                  go_cut [18] from 99 to 151 (fun s18 wx => Hid (RdS wx g A c D r9 88 /\ Mv [g] wr wx))
                  case first =>
                    cases β with
                    | false =>
                      have NX : Hid (RdS w7 g A c D r9 88 /\ Mv [g] wr w7) := zdX (by
                        have bad : r.code ≠ 0 \/ D.length < r.at_ + 4 := by
                          have := HB.out
                          by_cases q : r.code ≠ 0 \/ D.length < r.at_ + 4
                          · exact q
                          · rw [decide_eq_false q] at this; cases this
                        obtain ⟨_, e2⟩ := Zz (A := A) (c := c) bad HAT.out
                        have e2 : (zC D r 4).1 = [] := e2
                        have e : r9 = (zC D r 4).2 := by rw [E9.out]; unfold sumR; dsimp only; rw [if_pos e2]
                        rw [e]
                        exact S7.out)
                      clear he EQ
                      go_wp2_with fail
                      go_meet
                      exact NX
                    | true =>
                      obtain ⟨c0, l4⟩ := Vs (n := 4) (fun q => by have := HB.out; rw [decide_eq_true q] at this; cases this)
                      obtain ⟨ad, hA, h2, hb, hc⟩ := Vt (n := 3) he.out.rd c0 l4
                      have et : tv = .slice (some (ad.add r.at_)) 4 4 := HTV.out.symm.trans h2
                      have TE := kU (n := 4) c0 l4
                      have T4e : (D.drop r.at_).take 4 = [D.getD r.at_ 0, D.getD (r.at_ + 1) 0, D.getD (r.at_ + 2) 0, D.getD (r.at_ + 3) 0] := zcz l4
                      have CC := hc w7 S7.out.1.dat
                      have cc0 := CC 0 (by omega)
                      have cc1 := CC 1 (by omega)
                      have cc2 := CC 2 (by omega)
                      have cc3 := CC 3 (by omega)
                      rw [Nat.add_zero] at cc0
                      rw [<- jY, <- add_lit _ 1 (by decide)] at cc1
                      rw [<- jY, <- add_lit _ 2 (by decide)] at cc2
                      rw [<- jY, <- add_lit _ 3 (by decide)] at cc3
                      obtain ⟨s, hs⟩ : ∃ s : Nat, sumL (D.take r.at_) = (s : Int) := ⟨(sumL (D.take r.at_)).toNat, by have := vI (D.take r.at_); omega⟩
                      have s0 : s < 4294967296 := by have := vI (D.take r.at_); omega
                      have SM := t_sum A c (D.take r.at_) g w7 (zcA S7.out.1.dat.sees r.at_) (fun b m => RNG.out b (List.mem_of_mem_take m)) (by rw [List.length_take]; omega)
                      rw [hs, List.length_take, Nat.min_eq_left (by omega)] at SM
                      have SM := zdX SM
                      obtain ⟨r8, hr8⟩ : ∃ r8 : RdT, r8 = ⟨r.at_ + 4, 0, r.spot⟩ := ⟨_, rfl⟩
                      have S8 := zdX (show RdS w7 g A c D r8 88 /\ Mv [g] wr w7 by
                        have := S7.out
                        rw [show ((4 : Nat) : Int) = 4 from rfl] at this TE
                        rw [TE] at this
                        rw [hr8]
                        exact this)
                      have k1 : w7.cell? ⟨g, 1, none⟩ = some (.int .i64 ((r.at_ + 4 : Nat) : Int)) := by have := S8.out.1.box.c 1 _ rfl; rw [hr8] at this; exact this
                      have EQN : Hid (r9 = if [D.getD r.at_ 0, D.getD (r.at_ + 1) 0, D.getD (r.at_ + 2) 0, D.getD (r.at_ + 3) 0] ≠ qW (s : Int) then zO r8 300 ((r.at_ : Nat) : Int) else if r.at_ + 4 < D.length then zO r8 300 ((r.at_ + 4 : Nat) : Int) else r8) := zdX (by
                        rw [E9.out, <- hs, hr8]
                        unfold sumR
                        rw [show ((4 : Nat) : Int) = 4 from rfl] at TE
                        rw [TE, T4e]
                        dsimp only
                        rw [if_neg (by simp)])
                      have cap : D.length <= c := he.out.rd.dat.cap
                      generalize ad.add r.at_ = aa at *
                      generalize D.getD r.at_ 0 = d0 at *
                      generalize D.getD (r.at_ + 1) 0 = d1 at *
                      generalize D.getD (r.at_ + 2) 0 = d2 at *
                      generalize D.getD (r.at_ + 3) 0 = d3 at *
                      obtain ⟨p4, hp4⟩ : ∃ p4, p4 = r.at_ + 4 := ⟨_, rfl⟩
                      rw [<- hp4] at k1 EQN
                      have pl4 : p4 <= D.length := by omega
                      have pp4 : p4 = r.at_ + 4 := hp4
                      generalize r.at_ = p at *
                      have FL1 := zdX (kq g A D.length c r8 300 p w7 S8.out.1.box)
                      have FL2 := zdX (kq g A D.length c r8 300 p4 w7 S8.out.1.box)
                      have pc : p <= c := by omega
                      have HPP := zdX pp4
                      subst et
                      clear he EQ hA h2 hb hc TE T4e CC hs hr8 hp4 pp4 l4 c0 S7 HTV HAT HB E9
                      by_cases n0 : d0 = (s : Int) % 256
                      case neg =>
                        have NX : Hid (∀ w9, Bk w9 g (rdV A D.length c (zO r8 300 p)) 88 -> Mv [g] w7 w9 -> RdS w9 g A c D r9 88 /\ Mv [g] wr w9) := zdX (fun w9 b m => by
                          have e : r9 = zO r8 300 p := by rw [EQN.out]; exact if_pos (fun z => n0 (by unfold qW at z; simp only [List.cons.injEq] at z; exact z.1))
                          rw [e]
                          exact ⟨S8.out.1.nx m b (by rw [jO]; exact S8.out.1.at_), S8.out.2.then m⟩)
                        go_wp2_with fail
                        refine SM.out.mono ?_; rintro e w8 ⟨rfl, hw8⟩; subst hw8
                        clear SM
                        go_wp2_with fail
                        refine FL1.out.mono ?_; rintro e w9 ⟨rfl, b9, m9⟩
                        have NX := zdX (NX.out w9 b9 m9)
                        clear FL1 FL2 b9 m9
                        go_wp2_with fail
                        go_meet
                        exact NX
                      by_cases n1 : d1 = (s : Int) / 256 % 256
                      case neg =>
                        have NX : Hid (∀ w9, Bk w9 g (rdV A D.length c (zO r8 300 p)) 88 -> Mv [g] w7 w9 -> RdS w9 g A c D r9 88 /\ Mv [g] wr w9) := zdX (fun w9 b m => by
                          have e : r9 = zO r8 300 p := by rw [EQN.out]; exact if_pos (fun z => n1 (by unfold qW at z; simp only [List.cons.injEq] at z; exact z.2.1))
                          rw [e]
                          exact ⟨S8.out.1.nx m b (by rw [jO]; exact S8.out.1.at_), S8.out.2.then m⟩)
                        go_wp2_with fail
                        refine SM.out.mono ?_; rintro e w8 ⟨rfl, hw8⟩; subst hw8
                        clear SM
                        go_wp2_with fail
                        refine FL1.out.mono ?_; rintro e w9 ⟨rfl, b9, m9⟩
                        have NX := zdX (NX.out w9 b9 m9)
                        clear FL1 FL2 b9 m9
                        go_wp2_with fail
                        go_meet
                        exact NX
                      by_cases n2 : d2 = (s : Int) / 65536 % 256
                      case neg =>
                        have NX : Hid (∀ w9, Bk w9 g (rdV A D.length c (zO r8 300 p)) 88 -> Mv [g] w7 w9 -> RdS w9 g A c D r9 88 /\ Mv [g] wr w9) := zdX (fun w9 b m => by
                          have e : r9 = zO r8 300 p := by rw [EQN.out]; exact if_pos (fun z => n2 (by unfold qW at z; simp only [List.cons.injEq] at z; exact z.2.2.1))
                          rw [e]
                          exact ⟨S8.out.1.nx m b (by rw [jO]; exact S8.out.1.at_), S8.out.2.then m⟩)
                        go_wp2_with fail
                        refine SM.out.mono ?_; rintro e w8 ⟨rfl, hw8⟩; subst hw8
                        clear SM
                        go_wp2_with fail
                        refine FL1.out.mono ?_; rintro e w9 ⟨rfl, b9, m9⟩
                        have NX := zdX (NX.out w9 b9 m9)
                        clear FL1 FL2 b9 m9
                        go_wp2_with fail
                        go_meet
                        exact NX
                      by_cases n3 : d3 = (s : Int) / 16777216
                      case neg =>
                        have NX : Hid (∀ w9, Bk w9 g (rdV A D.length c (zO r8 300 p)) 88 -> Mv [g] w7 w9 -> RdS w9 g A c D r9 88 /\ Mv [g] wr w9) := zdX (fun w9 b m => by
                          have e : r9 = zO r8 300 p := by rw [EQN.out]; exact if_pos (fun z => n3 (by unfold qW at z; simp only [List.cons.injEq] at z; exact z.2.2.2.1))
                          rw [e]
                          exact ⟨S8.out.1.nx m b (by rw [jO]; exact S8.out.1.at_), S8.out.2.then m⟩)
                        go_wp2_with fail
                        refine SM.out.mono ?_; rintro e w8 ⟨rfl, hw8⟩; subst hw8
                        clear SM
                        go_wp2_with fail
                        refine FL1.out.mono ?_; rintro e w9 ⟨rfl, b9, m9⟩
                        have NX := zdX (NX.out w9 b9 m9)
                        clear FL1 FL2 b9 m9
                        go_wp2_with fail
                        go_meet
                        exact NX
                      have TT : [d0, d1, d2, d3] = qW (s : Int) := by unfold qW; rw [<- n0, <- n1, <- n2, <- n3]
                      have EQ2 := zdX (EQN.out.trans (if_neg (fun z => z TT)))
                      clear TT EQN
                      by_cases more : p4 < D.length
                      · have more' : (p4 : Int) < (D.length : Int) := by omega
                        have NX : Hid (∀ w9, Bk w9 g (rdV A D.length c (zO r8 300 p4)) 88 -> Mv [g] w7 w9 -> RdS w9 g A c D r9 88 /\ Mv [g] wr w9) := zdX (fun w9 b m => by
                          have e : r9 = zO r8 300 p4 := by rw [EQ2.out]; exact if_pos more
                          rw [e]
                          exact ⟨S8.out.1.nx m b (by rw [jO]; exact S8.out.1.at_), S8.out.2.then m⟩)
                        clear more
                        go_wp2_with fail
                        refine SM.out.mono ?_; rintro e w8 ⟨rfl, hw8⟩; subst hw8
                        clear SM
                        go_wp2_with fail
                        refine FL2.out.mono ?_; rintro e w9 ⟨rfl, b9, m9⟩
                        have NX := zdX (NX.out w9 b9 m9)
                        clear FL1 FL2 b9 m9
                        go_wp2_with fail
                        go_meet
                        exact NX
                      · have more' : ¬ (p4 : Int) < (D.length : Int) := by omega
                        have NX : Hid (RdS w7 g A c D r9 88 /\ Mv [g] wr w7) := zdX (by
                          have e : r9 = r8 := by rw [EQ2.out]; exact if_neg more
                          rw [e]
                          exact S8.out)
                        clear more
                        go_wp2_with fail
                        refine SM.out.mono ?_; rintro e w8 ⟨rfl, hw8⟩; subst hw8
                        clear SM
                        go_wp2_with fail
                        go_meet
                        exact NX
                  case rest =>
                    obtain ⟨w8, hw8⟩ : ∃ w8, w8 = wc := ⟨_, rfl⟩
                    rw [<- hw8] at hcut ⊢
                    have S9 := zdX hcut.out
                    clear hw8 hcut S7 HTV HAT HB
                    have DE : Hid (decT D = endR wn hn F.1 r9) := zdX (by
                      unfold decT
                      rw [if_neg (by omega)]
                      dsimp only
                      rw [<- zcB, <- HR0.out, E1.out.1, E1.out.2, E2.out.1, E2.out.2, <- E3.out, E4.out.1, E4.out.2, Int.toNat_natCast, <- EF.out, EQ.out]
                      dsimp only
                      rw [<- E9.out])
                    have K8 : Bk w8 W.heap.size [.int .i64 0, .int .i64 0] 23 := K2.out.of_eq ((S9.out.2.blk _ (Nat.lt_of_lt_of_le K2.out.lt he.out.mv.size) (by have := HG.out.2.1; simp; omega)).trans (he.out.mv.blk _ K2.out.lt (by have := HG.out.2.1; simp; omega)))
                    have f0 := K8.f 0
                    have f1 := K8.f 1
                    have s0 := K8.c 0 _ rfl
                    have s1 := K8.c 1 _ rfl
                    have BW : Below W.heap.size W w8 := HG.out.2.2.trans (⟨(he.out.mv.then S9.out.2).os, (he.out.mv.then S9.out.2).tape, (he.out.mv.then S9.out.2).output, (he.out.mv.then S9.out.2).size, fun j hj => (he.out.mv.then S9.out.2).blk j (by have := HG.out.2.2.size; omega) (by have := HG.out.2.1; simp; omega)⟩)
                    have HBW := zdX BW
                    have j2 : w8.cell? ⟨g, 2, none⟩ = some (.int .i64 r9.code) := S9.out.1.box.c 2 _ rfl
                    have j3 : w8.cell? ⟨g, 3, none⟩ = some (.int .i64 r9.spot) := S9.out.1.box.c 3 _ rfl
                    by_cases c9 : r9.code = 0
                    case neg =>
                      have b9 : (r9.code == 0) = false := by simpa using c9
                      have EN : Hid (∀ w', Below W.heap.size W w' -> DecR W D (.returned (.tuple #[.agg #[.int .i64 0, .int .i64 0], .slice none 0 0, .int .i64 r9.code, .int .i64 r9.spot])) w') := zdX (fun w' b => by
                        have e : decT D = ⟨0, 0, [], r9.code, r9.spot⟩ := by rw [DE.out]; unfold endR; rw [if_pos c9]
                        exact ⟨.slice none 0 0, by rw [e], b, Or.inl ⟨rfl, by rw [e]⟩⟩)
                      clear he EQ K8 BW DE
                      go_upto_region 32 with fail
                      go_region
                      go_wp2_with fail
                      refine bodyPost_ret (v := .tuple #[.agg #[.int .i64 0, .int .i64 0], .slice none 0 0, .int .i64 r9.code, .int .i64 r9.spot]) (by rw [Jg rfl]; go_simp) rfl ?_
                      exact EN.out _ (((HBW.out.setCell (p := ⟨W.heap.size, 0, none⟩) zdZ _).setCell (p := ⟨W.heap.size, 1, none⟩) zdZ _).drew)
                    case pos =>
                      have b9 : (r9.code == 0) = true := by simpa using c9
                      rw [c9] at j2
                      have OW := Jh he.out.own S9.out.2 he.out.rd.box (by decide)
                      have FD : FrsD w8 w8.heap.size A' c' L := Vu (by rw [HLL.out] at OW; exact OW) (by have := HLL.out; omega) (fun x m => by
                        obtain ⟨q1, q2, q3, q4⟩ := he.out.ok x m
                        exact ⟨(q1.below (S9.out.2.under (Nat.le_of_lt he.out.rd.box.lt)) zdZ).more (Nat.le_of_lt S9.out.1.box.lt), by omega, by omega⟩)
                      have OKL := fun x m => (he.out.ok x m).2
                      have CP := Jd w8.heap.size (.slice none 0 0) [] A' c' L w8.heap.size 0 w8 ⟨rfl, Or.inl ⟨rfl, rfl⟩⟩ zdZ FD zdZ (by rw [<- HLL.out]; omega) (fun x m => (OKL x m).1) (fun x m => (OKL x m).2) ⟨by decide, by decide⟩ (by decide)
                      rw [<- HLL.out] at CP
                      have CP := zdX CP
                      have EN : Hid (∀ (v' : Value) (g' : Nat) (w9 : World), CopAt w8.heap.size w8 g' (zu L).length [] 0 L v' w9 -> DecR W D (.returned (.tuple #[.agg #[.int .i64 (wn : Int), .int .i64 (hn : Int)], v', .int .i64 0, .int .i64 0])) ((w9.setCell ⟨W.heap.size, 0, none⟩ (.int .i64 (wn : Int))).setCell ⟨W.heap.size, 1, none⟩ (.int .i64 (hn : Int)))) := zdX (fun v' g' w9 C => by
                        have e : decT D = ⟨wn, hn, frms L, 0, 0⟩ := by rw [DE.out, EQ.out]; unfold endR; rw [if_neg (by simp [c9])]
                        have lt8 : W.heap.size < w8.heap.size := K8.lt
                        have far : ∀ j, j ≠ W.heap.size -> ((w9.setCell ⟨W.heap.size, 0, none⟩ (.int .i64 (wn : Int))).setCell ⟨W.heap.size, 1, none⟩ (.int .i64 (hn : Int))).heap[j]? = w9.heap[j]? := fun j ne => (heap_setCell_other _ _ _ _ ne).trans (heap_setCell_other _ _ _ _ ne)
                        refine ⟨v', by rw [e], ((HBW.out.trans (C.bel.mono (Nat.le_of_lt lt8))).setCell (p := ⟨W.heap.size, 0, none⟩) zdZ _).setCell (p := ⟨W.heap.size, 1, none⟩) zdZ _, Or.inr ⟨g', L, by have := C.gn; omega, ?_, C.row.keep (far g' (by have := C.gn; omega)), by rw [e], fun x m => ⟨(he.out.ok x m).1.rng, OKL x m⟩⟩⟩
                        have o := C.own
                        rw [List.nil_append] at o
                        exact qR (own_farB o lt8 far) (Nat.le_of_lt lt8))
                      have FZ : Hid (∀ w9 : World, Below w8.heap.size w8 w9 -> Bk w9 W.heap.size [.int .i64 0, .int .i64 0] 23) := zdX (fun w9 b => K8.of_eq (b.block _ K8.lt))
                      clear he EQ K8 BW DE OW FD OKL
                      go_wp2_with fail
                      refine CP.out.mono ?_; rintro e w9 ⟨v', g', rfl, C⟩
                      have K9 := FZ.out w9 C.bel
                      have f0 := K9.f 0
                      have f1 := K9.f 1
                      have s0 := K9.c 0 _ rfl
                      have s1 := K9.c 1 _ rfl
                      have EN := zdX (EN.out v' g' w9 C)
                      clear CP C K9
                      go_wp2_with fail
                      refine bodyPost_ret (v := .tuple #[.agg #[.int .i64 (wn : Int), .int .i64 (hn : Int)], v', .int .i64 0, .int .i64 0]) (by rw [Jg rfl]; go_simp) rfl ?_
                      exact EN.out
end
end
section
open Go Go.RowKit Go.Sort
section
structure TA where
 A : Option Addr
 c : Nat
 L : List FA
def taV (t : TA) : Value := .slice t.A t.L.length t.c
def tpsF (T : List TA) : List (List Frm) := T.map fun t => frms t.L
structure TpsD (w : World) (B : Nat) (A : Option Addr) (c : Nat) (T : List TA) : Prop where
 cap : T.length <= c
 sz : T.length <= 140737488355328
 sees : Sees w B A (T.map taV)
 ok : ∀ t ∈ T, FrsD w B t.A t.c t.L
theorem TpsD.below {w w' : World} {B n : Nat} {A : Option Addr} {c : Nat} {T : List TA} (h : TpsD w B A c T) (hb : Below n w w') (hB : B <= n) : TpsD w' B A c T := ⟨h.cap, h.sz, h.sees.below hb hB, fun t m => (h.ok t m).below hb hB⟩
theorem TpsD.at {w : World} {B : Nat} {A : Option Addr} {c : Nat} {T : List TA} (h : TpsD w B A c T) (k : Nat) (hk : k < T.length) : ∃ ad, A = some ad /\ ad.block < B /\ w.cell? (ad.add k) = some (taV T[k]) := by
 obtain ⟨ad, e, lb, hc⟩ := h.sees (fun z => by rw [List.map_eq_nil_iff] at z; rw [z] at hk; cases hk)
 exact ⟨ad, e, lb, hc k _ (by rw [List.getElem?_map, List.getElem?_eq_getElem hk]; rfl)⟩
structure Seg where
 g : Nat
 base : Int
 L : List FA
def segF (S : List Seg) : List FA := S.flatMap fun s => cpF s.g s.base 0 s.L
theorem Ji (S : List Seg) (s : Seg) : segF (S ++ [s]) = segF S ++ cpF s.g s.base 0 s.L := by unfold segF; rw [List.flatMap_append]; simp
structure SegS (LO : Nat) (w : World) (v : Value) (S : List Seg) : Prop where
 own : w.ownsRow LO 47 2 v (segF S).length ((segF S).flatMap frV)
 rows : ∀ s ∈ S, LO <= s.g /\ BRow w s.g (zu s.L).length (zu s.L)
 ok : ∀ s ∈ S, (zu s.L).length <= 140737488355328 /\ ∀ x ∈ s.L, Byt x.b.bs /\ -9223372036854775808 <= x.at_ + s.base /\ x.at_ + s.base <= 9223372036854775807
 dis : (S.map (·.g)).Nodup
section
variable {LO : Nat} {w w' : World} {v v' : Value} {S : List Seg}
theorem SegS.nil (LO : Nat) (w : World) : SegS LO w (.slice none 0 0) [] := ⟨⟨rfl, Or.inl ⟨rfl, rfl⟩⟩, fun x m => (by cases m), fun x m => (by cases m), List.nodup_nil⟩
theorem SegS.below (h : SegS LO w v S) (hb : Below w.heap.size w w') : SegS LO w' v S := ⟨zV h.own hb, fun s m => ⟨(h.rows s m).1, (h.rows s m).2.keep (hb.block _ (h.rows s m).2.lt)⟩, h.ok, h.dis⟩
theorem SegS.add {g : Nat} {base : Int} {L : List FA} (h : SegS LO w v S) (hLO : LO <= w.heap.size) (C : CopAt LO w g (zu L).length (segF S) base L v' w') (hs : (zu L).length <= 140737488355328) (ok : ∀ x ∈ L, Byt x.b.bs /\ -9223372036854775808 <= x.at_ + base /\ x.at_ + base <= 9223372036854775807) : SegS LO w' v' (S ++ [⟨g, base, L⟩]) := by
 refine ⟨?_, fun s m => ?_, fun s m => ?_, ?_⟩
 ·have o := C.own
  rw [Ji]
  exact o
 ·rcases List.mem_append.1 m with m | m
  ·obtain ⟨r1, r2⟩ := h.rows s m
   refine ⟨r1, r2.keep ?_⟩
   obtain ⟨_, cur, e, _⟩ := r2
   exact C.kp _ _ _ _ e (by decide)
  ·rw [List.mem_singleton.1 m]
   exact ⟨Nat.le_trans hLO C.gn, C.row⟩
 ·rcases List.mem_append.1 m with m | m
  ·exact h.ok s m
  ·rw [List.mem_singleton.1 m]; exact ⟨hs, ok⟩
 ·rw [List.map_append, List.nodup_append]
  refine ⟨h.dis, by simp, fun a ha b hb e => ?_⟩
  simp only [List.map_cons, List.map_nil, List.mem_singleton] at hb
  obtain ⟨s, ms, rfl⟩ := List.mem_map.1 ha
  have l1 := (h.rows s ms).2.lt
  have l2 := C.gn
  rw [e, hb] at l1
  omega
theorem SegS.frs {A : Option Addr} {n c : Nat} (h : SegS LO w (.slice A n c) S) (hl : (segF S).length <= 1000000) : n = (segF S).length /\ FrsD w w.heap.size A c (segF S) := by
 have e := xd h.own rfl
 injection e with e1 e2 e3
 subst e2
 refine ⟨rfl, Vu h.own hl (fun x m => ?_)⟩
 obtain ⟨s, ms, mx⟩ := List.mem_flatMap.1 m
 exact Zx (h.rows s ms).2 s.base (h.ok s ms).1 s.L 0 [] (by simp) (h.ok s ms).2 x mx
end
end
end
section
open Go Go.RowKit Go.Sort
section
theorem RmS.keepN {LO k : Nat} {w w' : World} {v : Value} {M : List RM} {T0 : TypeId} (h : RmS LO w v M k) (K : KeepN T0 w w') (n1 : 47 ≠ T0) (n2 : 5 ≠ T0) : RmS LO w' v M k :=
 ⟨vP h.own (fun g cu e => K g cu _ _ e n1), fun x m => (h.one x m).keep (by obtain ⟨_, _, _, cur, e⟩ := xW (h.one x m); exact K _ _ _ _ e n2), h.rng, h.dis⟩
theorem RmS.low {LO LO' k : Nat} {w : World} {v : Value} {M : List RM} (h : RmS LO w v M k) (hl : LO' <= LO) : RmS LO' w v M k := ⟨qR h.own hl, fun x m => qR (h.one x m) hl, h.rng, h.dis⟩
theorem Vv {w w' : World} {B sz n : Nat} {T : TypeId} {v : Value} {xs : List Value} (h : w.ownsRow B T sz v n xs) (k : ∀ g, v.ownBlock = some g -> w'.heap[g]? = w.heap[g]?) : w'.ownsRow B T sz v n xs := by
 refine ⟨h.1, ?_⟩
 rcases h.2 with a | ⟨g, cap, cur, rfl, h2, h3, h4⟩
 ·exact Or.inl a
 ·exact Or.inr ⟨g, cap, cur, rfl, h2, (k g rfl).trans h3, h4⟩
structure RT where
 r : Nat
 c : Nat
 M : List RM
def RT.ta (x : RT) : TA := ⟨some ⟨x.r, 0, none⟩, x.c, x.M.map RM.fa⟩
theorem RT.taV (x : RT) : taV x.ta = .slice (some ⟨x.r, 0, none⟩) x.M.length x.c := by show Value.slice _ (x.M.map RM.fa).length _ = _; rw [List.length_map]; rfl
def RT.ok (LO : Nat) (w : World) (x : RT) : Prop := RmS LO w (.slice (some ⟨x.r, 0, none⟩) (x.M.length + 9) x.c) x.M 9 /\ ∀ y ∈ x.M, y.ex = List.replicate 9 165
theorem RT.ok.room {LO : Nat} {w : World} {x : RT} (h : RT.ok LO w x) (hl : x.M.length <= 1000000000) (hb : ∀ y ∈ x.M, y.bs.length <= 140737488355328) : RoomD w w.heap.size (some ⟨x.r, 0, none⟩) x.c x.M := h.1.room hl hb h.2
theorem infoTps : (Tryz.prog.info? 24).map (fun i => (i.zero, i.size, i.bytes)) = some (some (.slice none 0 0), 1, 24) := by kernel_rfl
theorem Vw {w : World} {LO n c : Nat} {A : Option Addr} {xs : List Value} (o : w.ownsRow LO 24 1 (.slice A n c) n xs) (u : Value) (hu : u.oneCell' = true) (hLO : LO <= w.heap.size) (len : n <= 1000000000) :
  ∃ A' c' w3, (Builtin.append_ #[64, 64] 64 #[.slice A n c, .slice (some ⟨w.heap.size, 0, none⟩) 1 1]).run Tryz.prog (w.alloc (.cells #[u] 24)) = .ok (.slice A' (n + 1) c') w3 /\
   w3.ownsRow LO 24 1 (.slice A' (n + 1) c') (n + 1) (xs ++ [u]) /\ (w.alloc (.cells #[u] 24)).grownBy w3 (Value.slice A n c).ownBlock /\ ((Value.slice A' (n + 1) c').ownBlock = (Value.slice A n c).ownBlock \/ (Value.slice A' (n + 1) c').ownBlock = some (w.heap.size + 1)) := by
 obtain ⟨i0, hi0, hz0, hz1, hz2⟩ := info_parts infoTps
 have bu : Below w.heap.size w (w.alloc (.cells #[u] 24)) := (Below.refl _ w).alloc zdZ _
 obtain ⟨v', w3, r1, r2, r3, r4, r5⟩ := run_append_own_at (P := Tryz.prog) (w.alloc (.cells #[u] 24)) LO 64 64 24 i0 (.slice none 0 0) 1 24 Tryz.underlying64 hi0 hz0 hz1 hz2 rfl (by decide) _ n _ (zV o bu) ⟨w.heap.size, 0, none⟩ 1 1 [u] rfl (jd w [u] _) (by intro x hx; rw [List.mem_singleton.1 hx]; exact hu) (by unfold maxLen; omega) (by omega) (Nat.le_trans hLO bu.size)
 obtain ⟨A', c', e⟩ := qY r2
 subst e
 exact ⟨A', c', w3, r1, r2, r3, by simpa using r5⟩
structure JSt (W : World) (Z : List (RT × TA)) (v9 v10 : Value) (w : World) : Prop where
 own9 : w.ownsRow W.heap.size 24 1 v9 Z.length (Z.map fun z => taV z.1.ta)
 own10 : w.ownsRow W.heap.size 24 1 v10 Z.length (Z.map fun z => taV z.2)
 dis : ∀ g, v9.ownBlock = some g -> v10.ownBlock ≠ some g
 ok : ∀ z ∈ Z, RT.ok W.heap.size w z.1 /\ rmF z.1.M = frms z.2.L /\ FrsD W W.heap.size z.2.A z.2.c z.2.L /\ z.2.L.length <= 134217728 /\ ∀ x ∈ z.2.L, x.b.bs.length <= 134217728
 bel : Below W.heap.size W w
theorem JSt.nil (W : World) {w : World} (h : Below W.heap.size W w) : JSt W [] (.slice none 0 0) (.slice none 0 0) w := ⟨⟨rfl, Or.inl ⟨rfl, rfl⟩⟩, ⟨rfl, Or.inl ⟨rfl, rfl⟩⟩, fun g e => (by cases e), fun z m => (by cases m), h⟩
theorem JSt.below {W w w' : World} {Z : List (RT × TA)} {v9 v10 : Value} (h : JSt W Z v9 v10 w) (hb : Below w.heap.size w w') : JSt W Z v9 v10 w' :=
 ⟨zV h.own9 hb, zV h.own10 hb, h.dis, fun z m => ⟨⟨(h.ok z m).1.1.below hb, (h.ok z m).1.2⟩, (h.ok z m).2⟩, h.bel.trans (hb.mono h.bel.size)⟩
theorem JSt.two {W w : World} {Z : List (RT × TA)} {A9 A10 : Option Addr} {c9 c10 : Nat} (h : JSt W Z (.slice A9 Z.length c9) (.slice A10 Z.length c10) w) (x : RT) (t : TA) (hx : RT.ok W.heap.size w x) (e : rmF x.M = frms t.L) (ft : FrsD W W.heap.size t.A t.c t.L) (ln : t.L.length <= 134217728) (lb : ∀ y ∈ t.L, y.b.bs.length <= 134217728) (len : Z.length <= 1000000) :
  ∃ A9' c9' w3, (Builtin.append_ #[64, 64] 64 #[.slice A9 Z.length c9, .slice (some ⟨w.heap.size, 0, none⟩) 1 1]).run Tryz.prog (w.alloc (.cells #[.slice (some ⟨x.r, 0, none⟩) x.M.length x.c] 24)) = .ok (.slice A9' (Z.length + 1) c9') w3 /\ Below W.heap.size W w3 /\
  ∃ A10' c10' w6, (Builtin.append_ #[64, 64] 64 #[.slice A10 Z.length c10, .slice (some ⟨w3.heap.size, 0, none⟩) 1 1]).run Tryz.prog (w3.alloc (.cells #[.slice t.A t.L.length t.c] 24)) = .ok (.slice A10' (Z.length + 1) c10') w6 /\ JSt W (Z ++ [(x, t)]) (.slice A9' (Z.length + 1) c9') (.slice A10' (Z.length + 1) c10') w6 /\ RT.ok W.heap.size w6 x := by
 obtain ⟨A9', c9', w3, r1, o3, g3, d3⟩ := Vw h.own9 (.slice (some ⟨x.r, 0, none⟩) x.M.length x.c) rfl h.bel.size (by omega)
 have bu : Below w.heap.size w (w.alloc (.cells #[.slice (some ⟨x.r, 0, none⟩) x.M.length x.c] 24)) := (Below.refl _ w).alloc zdZ _
 have h1 := h.below bu
 have k3 : KeepN 24 w w3 := (KeepN.below bu).trans (xq h1.own9 g3)
 have B3 : Below W.heap.size W w3 := h1.bel.grown g3 h1.bel.size (fun k hk => (h1.own9.lt k hk).1)
 have o10 : w3.ownsRow W.heap.size 24 1 (.slice A10 Z.length c10) Z.length (Z.map fun z => taV z.2) := by
  refine Vv h1.own10 (fun g hg => ?_)
  exact g3.block g (h1.own10.lt g hg).2 (fun z => h1.dis g z.symm hg)
 have ok3 : ∀ y : RT, RT.ok W.heap.size w y -> RT.ok W.heap.size w3 y := fun y hy => ⟨hy.1.keepN k3 (by decide) (by decide), hy.2⟩
 have dis3 : ∀ g, (Value.slice A9' (Z.length + 1) c9').ownBlock = some g -> (Value.slice A10 Z.length c10).ownBlock ≠ some g := fun g hg z => by
  rcases d3 with q | q
  ·exact h.dis g (q.symm.trans hg) z
  ·rw [q] at hg
   injection hg with hg
   have := (h.own10.lt g z).2
   omega
 refine ⟨A9', c9', w3, r1, B3, ?_⟩
 obtain ⟨A10', c10', w6, r4, o6, g6, d6⟩ := Vw o10 (.slice t.A t.L.length t.c) rfl B3.size (by omega)
 have b4 : Below w3.heap.size w3 (w3.alloc (.cells #[.slice t.A t.L.length t.c] 24)) := (Below.refl _ w3).alloc zdZ _
 have o10b := zV o10 b4
 have o9b := zV o3 b4
 have k6 : KeepN 24 w3 w6 := (KeepN.below b4).trans (xq o10b g6)
 have B4 := B3.trans (b4.mono B3.size)
 have B6 : Below W.heap.size W w6 := B4.grown g6 B4.size (fun k hk => (o10b.lt k hk).1)
 have ok6 : ∀ y : RT, RT.ok W.heap.size w y -> RT.ok W.heap.size w6 y := fun y hy => ⟨(ok3 y hy).1.keepN k6 (by decide) (by decide), hy.2⟩
 have o9 : w6.ownsRow W.heap.size 24 1 (.slice A9' (Z.length + 1) c9') (Z.length + 1) ((Z.map fun z => taV z.1.ta) ++ [.slice (some ⟨x.r, 0, none⟩) x.M.length x.c]) := by
  refine Vv o9b (fun g hg => ?_)
  exact g6.block g (o9b.lt g hg).2 (fun z => dis3 g hg z.symm)
 have lz : (Z ++ [(x, t)]).length = Z.length + 1 := by rw [List.length_append, List.length_singleton]
 refine ⟨A10', c10', w6, r4, ⟨?_, ?_, fun g hg z => ?_, fun z m => ?_, B6⟩, ok6 x hx⟩
 ·rw [lz, List.map_append, List.map_singleton, RT.taV]; exact o9
 ·rw [lz, List.map_append, List.map_singleton]; exact o6
 ·rcases d6 with q | q
  ·exact dis3 g hg (q.symm.trans z)
  ·rw [q] at z
   injection z with z
   have := (o3.lt g hg).2
   omega
 ·rcases List.mem_append.1 m with m | m
  ·exact ⟨ok6 _ (h.ok z m).1, (h.ok z m).2⟩
  ·rw [List.mem_singleton.1 m]; exact ⟨ok6 x hx, e, ft, ln, lb⟩
theorem JSt.twoN {W w : World} {Z : List (RT × TA)} {A9 A10 : Option Addr} {c9 c10 N : Nat} (hN : Z.length = N) (h : JSt W Z (.slice A9 N c9) (.slice A10 N c10) w) (x : RT) (t : TA) (hx : RT.ok W.heap.size w x) (e : rmF x.M = frms t.L) (ft : FrsD W W.heap.size t.A t.c t.L) (ln : t.L.length <= 134217728) (lb : ∀ y ∈ t.L, y.b.bs.length <= 134217728) (len : N <= 1000000) {n : Nat} (hn : n = x.M.length) :
  ∃ A9' c9' w3, (Builtin.append_ #[64, 64] 64 #[.slice A9 N c9, .slice (some ⟨w.heap.size, 0, none⟩) 1 1]).run Tryz.prog (w.alloc (.cells #[.slice (some ⟨x.r, 0, none⟩) n x.c] 24)) = .ok (.slice A9' (N + 1) c9') w3 /\ Below W.heap.size W w3 /\
  ∃ A10' c10' w6, (Builtin.append_ #[64, 64] 64 #[.slice A10 N c10, .slice (some ⟨w3.heap.size, 0, none⟩) 1 1]).run Tryz.prog (w3.alloc (.cells #[.slice t.A t.L.length t.c] 24)) = .ok (.slice A10' (N + 1) c10') w6 /\ JSt W (Z ++ [(x, t)]) (.slice A9' (N + 1) c9') (.slice A10' (N + 1) c10') w6 /\ RT.ok W.heap.size w6 x := by
 subst hN
 subst hn
 exact h.two x t hx e ft ln lb len
theorem Vx {w : World} {LO sz n c : Nat} {T : TypeId} {A : Option Addr} {xs : List Value} (h : w.ownsRow LO T sz (.slice A n c) n xs) : n <= c := by
 rcases h.2 with ⟨z, n0⟩ | ⟨g, cap, cur, z, _, _, hn, _⟩
 ·omega
 ·injection z with z1 z2 z3; omega
theorem JSt.given {W w : World} {Z : List (RT × TA)} {v9 : Value} {A10 : Option Addr} {c10 N : Nat} (hN : Z.length = N) (h : JSt W Z v9 (.slice A10 N c10) w) (len : N <= 1000000) : TpsD w w.heap.size A10 c10 (Z.map fun z => z.2) := by
 have o := h.own10
 rw [hN] at o
 refine ⟨by rw [List.length_map, hN]; exact Vx o, by rw [List.length_map, hN]; omega, ?_, fun t m => ?_⟩
 ·rw [List.map_map]; exact ku o
 ·obtain ⟨z, mz, rfl⟩ := List.mem_map.1 m
  exact ((h.ok z mz).2.2.1.below h.bel zdZ).more h.bel.size
theorem Vy {M : List RM} {L : List FA} (e : rmF M = frms L) (ln : L.length <= 134217728) (lb : ∀ y ∈ L, y.b.bs.length <= 134217728) : M.length <= 134217728 /\ ∀ y ∈ M, y.bs.length <= 134217728 := by
 refine ⟨by rw [<- Je, e, zU]; exact ln, fun y my => ?_⟩
 have mm : (⟨y.at_, y.bs⟩ : Frm) ∈ frms L := by rw [<- e]; exact List.mem_map_of_mem (f := fun x : RM => (⟨x.at_, x.bs⟩ : Frm)) my
 obtain ⟨z, mz, ez⟩ := List.mem_map.1 mm
 have e2 : z.b.bs = y.bs := congrArg Frm.bs ez
 rw [<- e2]
 exact lb z mz
theorem JSt.room {W w : World} {Z : List (RT × TA)} {v9 v10 : Value} (h : JSt W Z v9 v10 w) (z : RT × TA) (m : z ∈ Z) : RoomD w w.heap.size (some ⟨z.1.r, 0, none⟩) z.1.c z.1.M := by
 obtain ⟨h1, h2, h3, h4, h5⟩ := h.ok z m
 have b := Vy h2 h4 h5
 exact h1.room (by have := b.1; omega) (fun y my => by have := b.2 y my; omega)
theorem JSt.mine {W w : World} {Z : List (RT × TA)} {v10 : Value} {A9 : Option Addr} {c9 N : Nat} (hN : Z.length = N) (h : JSt W Z (.slice A9 N c9) v10 w) (len : N <= 1000000) : TpsD w w.heap.size A9 c9 (Z.map fun z => z.1.ta) := by
 have o := h.own9
 rw [hN] at o
 refine ⟨by rw [List.length_map, hN]; exact Vx o, by rw [List.length_map, hN]; omega, ?_, fun t m => ?_⟩
 ·rw [List.map_map]; exact ku o
 ·obtain ⟨z, mz, rfl⟩ := List.mem_map.1 m
  exact (h.room z mz).frs
theorem JSt.same {W w : World} {Z : List (RT × TA)} {v9 v10 : Value} (h : JSt W Z v9 v10 w) : tpsF (Z.map fun z => z.1.ta) = tpsF (Z.map fun z => z.2) := by
 unfold tpsF
 rw [List.map_map, List.map_map]
 refine List.map_congr_left (fun z m => ?_)
 show frms (z.1.M.map RM.fa) = frms z.2.L
 have e : frms (z.1.M.map RM.fa) = rmF z.1.M := by unfold frms rmF; rw [List.map_map]; rfl
 rw [e]
 exact (h.ok z m).2.1
def cntL : List FA -> Nat
 | [] => 0
 | x :: l => 2 + 2 * x.b.bs.length + cntL l
def cntT : List TA -> Nat
 | [] => 0
 | t :: l => cntL t.L + cntT l
theorem Vz : ∀ (a b : List FA), cntL (a ++ b) = cntL a + cntL b
 | [], b => by rw [List.nil_append, cntL, Nat.zero_add]
 | x :: a, b => by rw [List.cons_append, cntL, cntL, Vz a b]; omega
theorem VA : ∀ (a b : List TA), cntT (a ++ b) = cntT a + cntT b
 | [], b => by rw [List.nil_append, cntT, Nat.zero_add]
 | x :: a, b => by rw [List.cons_append, cntT, cntT, VA a b]; omega
theorem VB : ∀ (L : List FA), 2 * L.length <= cntL L /\ ∀ x ∈ L, 2 * x.b.bs.length <= cntL L
 | [] => ⟨zdZ, fun x m => (by cases m)⟩
 | x :: l => by
  have ih := VB l
  rw [cntL, List.length_cons]
  refine ⟨by omega, fun y m => ?_⟩
  rcases List.mem_cons.1 m with rfl | m
  ·omega
  ·have := ih.2 y m; omega
theorem VC : ∀ (T : List TA), ∀ t ∈ T, cntL t.L <= cntT T
 | [], t, m => by cases m
 | x :: l, t, m => by
  rw [cntT]
  rcases List.mem_cons.1 m with rfl | m
  ·omega
  ·have := VC l t m; omega
theorem zcC {T : List TA} (h : cntT T <= 134217728) (t : TA) (m : t ∈ T) : t.L.length <= 134217728 /\ ∀ x ∈ t.L, x.b.bs.length <= 134217728 := by
 have a := VC T t m
 have b := VB t.L
 exact ⟨by omega, fun x mx => by have := b.2 x mx; omega⟩
theorem TpsD.first {w : World} {B c : Nat} {A : Option Addr} {T : List TA} (h : TpsD w B A c T) (k : Nat) : TpsD w B A c (T.take k) := by
 have l := h.cap
 have s := h.sz
 refine ⟨by rw [List.length_take]; omega, by rw [List.length_take]; omega, fun ne => ?_, fun t m => h.ok t (List.mem_of_mem_take m)⟩
 obtain ⟨ad, a1, a2, a3⟩ := h.sees (fun z => ne (by rw [List.map_take, z, List.take_nil]))
 refine ⟨ad, a1, a2, fun j u hj => a3 j u ?_⟩
 rw [List.map_take, List.getElem?_take] at hj
 split at hj
 ·exact hj
 ·cases hj
end
section
variable {H : Type} {enc : TypeId × Value -> H} {w : World} {base : Nat} {spare : Nat -> Bool} {held : Bool}
set_option maxRecDepth 100000 in
theorem zcD {n : Nat} {cs : List Value} {y : DataW H × List MemPlace} (h : DataW.trod enc Tryz.prog w base spare held n 64 cs = some y) (sp : ∀ b, spare b = true) (hw : qZ y.1 64) : ∃ (A : Option Addr) (c : Nat) (T : List TA), cs = [.slice A T.length c] /\ (A = none -> c = 0) /\ TpsD w w.heap.size A c T := by
 have cb : Tryz.prog.bytesOf 24 = 24 := by kernel_rfl
 obtain ⟨A, c, L, h1, h2, h3, h4, h5, h6⟩ := QQ (fun t : TA => [taV t]) 1 (by decide) (fun _ => rfl) (⟨none, 0, []⟩ : TA) (fun t => FrsD w w.heap.size t.A t.c t.L) Tryz.underlying64 (by kernel_rfl) (fun n cs y h lw => by
  obtain ⟨A, c, L, e, q⟩ := zce h sp lw
  exact ⟨⟨A, c, L⟩, e, q⟩) h sp hw
 rw [cb] at h4
 have fm : L.flatMap (fun t : TA => [taV t]) = L.map taV := by
  clear h1 h3 h4 h5 h6
  induction L with
  | nil => rfl
  | cons a l ih => rw [List.flatMap_cons, ih]; rfl
 rw [fm] at h5
 exact ⟨A, c, L, h1, h2, ⟨h3, by unfold reachBytes at h4; show L.length <= _; omega, h5, h6⟩⟩
end
end
section
open Go.RowKit Go.Sort
end
section
open Go.RowKit Go.Sort
end
section
open Go.RowKit Go.Sort
def scrV (s : Scr) (A : Option Addr) (c : Nat) : Value := .agg #[.int .i64 s.w, .int .i64 s.h, .slice A s.cells.length c, .int .i64 s.x, .int .i64 s.y, .bool s.shown]
set_option maxHeartbeats 4000000 in
theorem Jj (s : Sty) : Gives 66 #[styV s.fg s.bg s.at_] (.agg #[.string ⟨#[32]⟩, .int .i8 1, .int .i32 (qa s).fg, .int .i32 (qa s).bg, .int .u8 (bI (qa s).at_)]) := by
 intro w
 have OV := zdX (over0 s)
 generalize qa s = t at *
 go_enter Tryz.func66, Tryz.ntmps66
 go_wp2_with fail
 refine (OV.out _).mono ?_; rintro e w1 ⟨rfl, hb1⟩
 have K : C5 w1 (w.heap.size + 1) (.string ⟨#[]⟩) (.int .i8 0) (.int .i32 0) (.int .i32 0) (.int .u8 0) := C5.keep (by constructor <;> simp [go_sem]) hb1 (by simp)
 have F : ∀ k, w1.frozen? ⟨w.heap.size + 1, k, none⟩ = false := fun k => (hb1.frozen (p := ⟨w.heap.size + 1, k, none⟩) (by simp)).trans (by simp [go_sem])
 have HB := zdX (show Below w.heap.size w w1 from jg (by go_grown) (by simp; omega) hb1)
 clear hb1
 obtain ⟨k0, k1, k2, k3, k4⟩ := K
 have f0 := F 0
 have f1 := F 1
 have f2 := F 2
 have f3 := F 3
 have f4 := F 4
 clear F
 go_wp2_with fail
 refine bodyPost_ret (v := .agg #[.string ⟨#[32]⟩, .int .i8 1, .int .i32 t.fg, .int .i32 t.bg, .int .u8 (bI t.at_)]) (by simp [results, Tryz.results66, go_sem, k0, k1, k2, k3, k4]) rfl ⟨rfl, ?_⟩
 repeat (first | with_reducible exact HB.out | refine Below.setCell ?_ (by first | exact zdZ | exact Nat.le_succ _) _)
end
end Go.Proofs.YtmaofighbpnbiaaGreatDoor
