/- The law's roomy and kept, walked. -/
import Derived.Test.YtmaofighbpnbiaaGreatDoorYTqX
namespace Go.Proofs.YtmaofighbpnbiaaGreatDoor
open Go Go.RowKit Go.Sort
set_option linter.unusedVariables false
set_option linter.unusedSimpArgs false
section
def m9 : List Int := List.replicate 9 165
structure RoomSt (W : World) (l : List Frm) (v : Value) (P Q : List RM) (wr : World) : Prop where
 st : RmS W.heap.size wr v (P ++ Q) 0
 fr : rmF (P ++ Q) = l
 mks : ∀ x ∈ P, x.ex = m9
 no : ∀ x ∈ Q, x.ex = []
 bel : Below W.heap.size W wr
theorem RmS.cell {LO : Nat} {w : World} {r n c k : Nat} {P Q : List RM} {x : RM} (h : RmS LO w (.slice (some ⟨r, 0, none⟩) n c) (P ++ x :: Q) k) : w.cell? ⟨r, P.length * 2 + 1, none⟩ = some (.slice (some ⟨x.g, 0, none⟩) x.bs.length x.c) ∧ w.cell? ⟨r, P.length * 2, none⟩ = some (.int .i64 x.at_) ∧ ∀ i, w.frozen? ⟨r, i, none⟩ = false := by
 have o := h.own
 have e := own_len o rfl
 injection e with _ e2 _
 rw [← e2] at o
 have ln : (P ++ x :: Q).length = P.length + (Q.length + 1) := by rw [List.length_append, List.length_cons]
 have ca := fun j hj => o.cellAt j hj
 have g : ∀ j, j < 2 → (rmV (P ++ x :: Q) ++ z77 k)[P.length * 2 + j]? = (frV x.fa)[j]? := fun j hj => by
  rw [rmV_app, rmV_cons, List.append_assoc, List.getElem?_append_right (by rw [rmV_len]; omega), rmV_len, show P.length * 2 + j - P.length * 2 = j by omega, List.append_assoc, List.getElem?_append_left (by show j < 2; exact hj)]
  rfl
 refine ⟨?_, ?_, fun i => o.frozenAt i⟩
 ·rw [ca _ (by omega), g 1 (by decide)]; rfl
 ·have := ca (P.length * 2 + 0) (by omega)
  rw [g 0 (by decide)] at this
  exact this
theorem rmF_app (A B : List RM) : rmF (A ++ B) = rmF A ++ rmF B := by unfold rmF; rw [List.map_append]
structure MarkSt (W : World) (l : List Frm) (v : Value) (P Q : List RM) (y : RM) (k : Nat) (wr : World) : Prop where
 ex : ∃ g c, RmS W.heap.size wr v (P ++ ⟨y.at_, g, c, y.bs ++ List.replicate k 165, []⟩ :: Q) 0
 bel : Below W.heap.size W wr
theorem rep_byt (k : Nat) : Byt (List.replicate k 165) := fun b m => by rw [List.eq_of_mem_replicate m]; decide
theorem MarkSt.step {W wr : World} {l : List Frm} {r n c : Nat} {P Q : List RM} {y : RM} {k : Nat} (h : MarkSt W l (.slice (some ⟨r, 0, none⟩) n c) P Q y k wr) (ry : Byt y.bs) (len : y.bs.length + k ≤ 999999999) :
  ∃ g c1 g2 c2 w3, wr.cell? ⟨r, P.length * 2 + 1, none⟩ = some (.slice (some ⟨g, 0, none⟩) (y.bs.length + k) c1) ∧
   (Builtin.append_ #[27, 27] 27 #[.slice (some ⟨g, 0, none⟩) (y.bs.length + k) c1, .slice (some ⟨wr.heap.size, 0, none⟩) 1 1]).run Tryz.prog (wr.alloc (.cells #[.int .u8 165] 5)) = .ok (.slice (some ⟨g2, 0, none⟩) (y.bs.length + k + 1) c2) w3 ∧
   (∃ u, w3.cell? ⟨r, P.length * 2 + 1, none⟩ = some u) ∧ w3.frozen? ⟨r, P.length * 2 + 1, none⟩ = false ∧
   MarkSt W l (.slice (some ⟨r, 0, none⟩) n c) P Q y (k + 1) (w3.setCell ⟨r, P.length * 2 + 1, none⟩ (.slice (some ⟨g2, 0, none⟩) (y.bs.length + k + 1) c2)) := by
 obtain ⟨⟨g, c1, S⟩, B⟩ := h
 have mx : (⟨y.at_, g, c1, y.bs ++ List.replicate k 165, []⟩ : RM) ∈ P ++ ⟨y.at_, g, c1, y.bs ++ List.replicate k 165, []⟩ :: Q := List.mem_append.2 (Or.inr List.mem_cons_self)
 have O := S.one _ mx
 have ln : (y.bs ++ List.replicate k (165 : Int)).length = y.bs.length + k := by rw [List.length_append, List.length_replicate]
 obtain ⟨g2, c2, w3, R, O3, G3, N3⟩ := app_byte O rfl 165 B.size (by show (y.bs ++ List.replicate k (165 : Int)).length ≤ _; omega)
 obtain ⟨k1, _, k3⟩ := S.cell
 obtain ⟨r', c', e, rl, rs, rne, _⟩ := S.row (by rw [List.length_append, List.length_cons]; omega)
 injection e with e1 _ _
 injection e1 with e1
 injection e1 with e1
 subst e1
 have bu : Below wr.heap.size wr (wr.alloc (.cells #[.int .u8 165] 5)) := (Below.refl _ wr).alloc (Nat.le_refl _) _
 have rr : w3.heap[r]? = wr.heap[r]? := (G3.block r (Nat.lt_of_lt_of_le rs bu.size) (fun z => by injection z with z; exact rne _ mx z.symm)).trans (bu.block r rs)
 simp only [ln] at R k1
 have bs' : y.bs ++ List.replicate k (165 : Int) ++ [165] = y.bs ++ List.replicate (k + 1) 165 := by rw [List.append_assoc, ← List.replicate_succ']
 refine ⟨g, c1, g2, c2, w3, k1, R, ⟨_, (World.cell?_of_block rr).trans k1⟩, (World.frozen?_of_block rr).trans (k3 _), ⟨g2, c2, ?_⟩, ?_⟩
 ·have := S.put (y := ⟨y.at_, g2, c2, y.bs ++ List.replicate (k + 1) 165, []⟩) rr (fun q lq ne => (G3.block q (Nat.lt_of_lt_of_le lq bu.size) (fun z => by injection z with z; exact ne z)).trans (bu.block q lq)) (by rw [← bs']; exact O3) rfl N3 (by rw [List.append_nil]; exact ry.app (rep_byt _))
  have l2 : (y.bs ++ List.replicate (k + 1) (165 : Int)).length = y.bs.length + k + 1 := by rw [List.length_append, List.length_replicate]; omega
  simp only [l2] at this
  exact this
 ·have B3 := (B.trans (bu.mono B.size)).grown G3 (Nat.le_trans B.size bu.size) (fun q hq => by injection hq with hq; rw [← hq]; exact O.lt.1)
  exact B3.setCell (p := ⟨r, P.length * 2 + 1, none⟩) rl _
theorem MarkSt.done {W wr : World} {l : List Frm} {r n c : Nat} {P Q : List RM} {y : RM} (h : MarkSt W l (.slice (some ⟨r, 0, none⟩) n c) P Q y 9 wr) (ry : Byt y.bs) (fr : rmF (P ++ y :: Q) = l) (mk : ∀ x ∈ P, x.ex = m9) (no : ∀ x ∈ Q, x.ex = []) :
  ∃ g c1, wr.cell? ⟨r, P.length * 2 + 1, none⟩ = some (.slice (some ⟨g, 0, none⟩) (y.bs.length + 9) c1) ∧ y.bs.length ≤ c1 ∧ wr.frozen? ⟨r, P.length * 2 + 1, none⟩ = false ∧
   RoomSt W l (.slice (some ⟨r, 0, none⟩) n c) (P ++ [⟨y.at_, g, c1, y.bs, m9⟩]) Q (wr.setCell ⟨r, P.length * 2 + 1, none⟩ (.slice (some ⟨g, 0, none⟩) y.bs.length c1)) := by
 obtain ⟨⟨g, c1, S⟩, B⟩ := h
 have mx : (⟨y.at_, g, c1, y.bs ++ List.replicate 9 165, []⟩ : RM) ∈ P ++ ⟨y.at_, g, c1, y.bs ++ List.replicate 9 165, []⟩ :: Q := List.mem_append.2 (Or.inr List.mem_cons_self)
 have O := S.one _ mx
 have lo := O.lt.2.2.1
 simp only [List.length_append, List.length_replicate, List.length_nil] at lo
 obtain ⟨k1, _, k3⟩ := S.cell
 obtain ⟨r', c', e, rl, rs, rne, _⟩ := S.row (by rw [List.length_append, List.length_cons]; omega)
 injection e with e1 _ _
 injection e1 with e1
 injection e1 with e1
 subst e1
 have ln : (y.bs ++ List.replicate 9 (165 : Int)).length = y.bs.length + 9 := by rw [List.length_append, List.length_replicate]
 simp only [ln] at k1
 have N := S.put (y := ⟨y.at_, g, c1, y.bs, m9⟩) rfl (fun _ _ _ => rfl) (by
  unfold OneR at O ⊢
  simp only [List.append_nil] at O
  exact O) rfl (Or.inl rfl) (ry.app (rep_byt 9))
 refine ⟨g, c1, k1, by omega, k3 _, ⟨?_, ?_, fun x m => ?_, no, B.setCell (p := ⟨r, P.length * 2 + 1, none⟩) rl _⟩⟩
 ·rw [List.append_assoc]; exact N
 ·rw [← fr, rmF_app, rmF_app, rmF_app]
  show (rmF P ++ [⟨y.at_, y.bs⟩]) ++ rmF Q = rmF P ++ (⟨y.at_, y.bs⟩ :: rmF Q)
  rw [List.append_assoc]
  rfl
 ·rcases List.mem_append.1 m with m | m
  ·exact mk x m
  ·rw [List.mem_singleton.1 m]
def RoomR (W : World) (n : Nat) (l : List Frm) (e : Ending) (w' : World) : Prop := ∃ A' c' M, e = .returned (.slice A' n c') ∧ n = M.length ∧ rmF M = l ∧ RoomD w' w'.heap.size A' c' M ∧ Below W.heap.size W w'
theorem RmS.st_row9 {LO : Nat} {w : World} {v : Value} {M : List RM} (h : RmS LO w v M 9) : ∃ r c, v = .slice (some ⟨r, 0, none⟩) (M.length + 9) c ∧ M.length + 9 ≤ c := by
 rcases h.own.2 with ⟨_, z⟩ | ⟨r, c, cur, e, hb, hg, hn, _⟩
 ·omega
 ·exact ⟨r, c, e, hn⟩
set_option maxHeartbeats 16000000 in
set_option maxRecDepth 100000 in
theorem law_roomy (A : Option Addr) (c : Nat) (L : List FA) (B : Nat) (W : World) (D : FrsD W B A c L) (hB : B ≤ W.heap.size) (hl : L.length ≤ 134217728) (hb : ∀ x ∈ L, x.b.bs.length ≤ 134217728) :
  Calls Tryz.prog 14 #[.slice A L.length c] W (RoomR W L.length (frms L)) := by
 have CP := Lib.hid (r_Copied A c L B W D hB hl)
 have LB : Hid (∀ f ∈ frms L, f.bs.length ≤ 134217728) := Lib.hid (fun f m => by obtain ⟨x, mx, rfl⟩ := List.mem_map.1 m; exact hb x mx)
 have LN := Lib.hid (frms_len L)
 obtain ⟨l, hll⟩ : ∃ l, l = frms L := ⟨_, rfl⟩
 obtain ⟨n, hn⟩ : ∃ n, n = L.length := ⟨_, rfl⟩
 rw [← hll] at CP LB LN ⊢
 rw [← hn] at CP LN hl ⊢
 clear D hB hb hll hn
 go_enter Tryz.func14, Tryz.ntmps14
 go_wp2_with fail
 refine CP.out.mono ?_; rintro e w1 ⟨v, M0, rfl, S0, F0, X0, B1⟩
 obtain ⟨A1, c1, e1⟩ := S0.slc
 have m0 : M0.length = n := by rw [← rmF_len, F0, LN.out]
 rw [Nat.add_zero, m0] at e1
 subst e1
 have R0 : Hid (RoomSt W l (.slice A1 n c1) [] M0 w1) := Lib.hid ⟨S0, F0, fun x m => (by cases m), X0, B1⟩
 have HM0 := Lib.hid m0
 clear CP S0 F0 X0 B1 m0
 go_wp2_with fail
 go_loopw [4] (fun s4 wr => ∃ (i : Nat) (P Q : List RM), i ≤ n ∧ s4 = .int .i64 (i : Int) ∧ Hid (P.length = i) ∧ Hid (i + Q.length = n) ∧ Hid (RoomSt W l (.slice A1 n c1) P Q wr)) (fun s4 _ => n - (intOf s4).toNat)
 case atStart => exact ⟨0, [], M0, Nat.zero_le _, rfl, Lib.hid rfl, Lib.hid (by rw [HM0.out, Nat.zero_add]), R0⟩
 case round =>
  obtain ⟨i, P, Q, hi, rfl, hp, hq, hs⟩ := hrel
  by_cases lt : i < n
  ·obtain ⟨y, Q', rfl⟩ : ∃ y Q', Q = y :: Q' := by
    cases Q with
    | nil => have := hq.out; simp at this; omega
    | cons y Q' => exact ⟨y, Q', rfl⟩
   obtain ⟨r, c', e, rl, rs, rne, rf, rcap⟩ := hs.out.st.row (by rw [List.length_append, List.length_cons]; omega)
   injection e with e1 e2 e3
   clear e2 e3 rf rcap
   subst e1
   have k0 := hs.out.st.cell.1
   rw [hp.out] at k0
   have ry : Hid (Byt y.bs) := Lib.hid (by
    have := (hs.out.st.rng y (List.mem_append.2 (Or.inr List.mem_cons_self))).1
    rw [hs.out.no y List.mem_cons_self, List.append_nil] at this
    exact this)
   have yl : y.bs.length ≤ 134217728 := LB.out ⟨y.at_, y.bs⟩ (by rw [← hs.out.fr, rmF_app]; exact List.mem_append.2 (Or.inr List.mem_cons_self))
   have M0 : Hid (MarkSt W l (.slice (some ⟨r, 0, none⟩) n c1) P Q' y 0 wr) := Lib.hid ⟨⟨y.g, y.c, by
    have s := hs.out.st
    have e : y = ⟨y.at_, y.g, y.c, y.bs ++ List.replicate 0 165, []⟩ := by
     have := hs.out.no y List.mem_cons_self
     cases y
     simp at this ⊢
     exact this
    rw [← e]
    exact s⟩, hs.out.bel⟩
   have q0 : (0 : Int) ≤ (i : Int) := by omega
   have q5 : (i : Int) < (n : Int) := by omega
   have tn : (i : Int).toNat = i := by omega
   have wk : IntKind.i64.wrap ((i : Int) + 1) = (i : Int) + 1 := IntWalk.i64_in _ (by omega)
   obtain ⟨yn, hyn⟩ : ∃ yn, yn = y.bs.length := ⟨_, rfl⟩
   have HYN := Lib.hid hyn
   rw [← hyn] at k0 yl
   clear rl rs rne hyn
   go_wp2_with fail
   clear k0
   go_loopw [6] (fun s6 wr => ∃ k : Nat, k ≤ 9 ∧ s6 = .int .i64 (k : Int) ∧ Hid (MarkSt W l (.slice (some ⟨r, 0, none⟩) n c1) P Q' y k wr)) (fun s6 _ => 9 - (intOf s6).toNat)
   case atStart => exact ⟨0, Nat.zero_le _, rfl, M0⟩
   case round =>
    obtain ⟨k, hk, rfl, hmk⟩ := hrel
    by_cases k9 : k < 9
    ·obtain ⟨g, c3, g2, c2, w3, kc, R, ⟨u, x1⟩, x2, NX⟩ := hmk.out.step ry.out (by rw [← HYN.out]; omega)
     rw [hp.out, ← HYN.out] at kc NX
     rw [hp.out] at x1 x2
     rw [← HYN.out] at R
     have HNX := Lib.hid NX
     have p5 : (k : Int) < 9 := by omega
     have wq2 : IntKind.i64.wrap ((k : Int) + 1) = (k : Int) + 1 := IntWalk.i64_in _ (by omega)
     have kd : ∀ o, (wr.alloc o).cell? ⟨r, i * 2 + 1, none⟩ = some (.slice (some ⟨g, 0, none⟩) (yn + k) c3) := fun o => ((Below.refl wr.heap.size wr).alloc (Nat.le_refl _) o).cell (p := ⟨r, i * 2 + 1, none⟩) (block_lt_of_cell kc) |>.trans kc
     clear NX hmk M0
     go_wp2_with (first | (at_builtin; refine wpList_append_go rfl (.tmp 32) (.tmp 33) 27 27 rfl _ _ _ _ rfl rfl R ?_) | fail)
     go_roundw
     case rel => exact ⟨k + 1, by omega, by go_num, HNX⟩
     case measure => simp [intOf]; omega
    ·have e : k = 9 := by omega
     subst e
     obtain ⟨g, c3, kc, kl, kf, NX⟩ := hmk.out.done ry.out hs.out.fr hs.out.mks (fun x m => hs.out.no x (List.mem_cons_of_mem _ m))
     rw [hp.out, ← HYN.out] at kc NX
     rw [hp.out] at kf
     rw [← HYN.out] at kl
     have HNX := Lib.hid NX
     have HPL := Lib.hid (show (P ++ [(⟨y.at_, g, c3, y.bs, m9⟩ : RM)]).length = i + 1 by rw [List.length_append, hp.out]; rfl)
     have HQL := Lib.hid (show i + 1 + Q'.length = n by have := hq.out; rw [List.length_cons] at this; omega)
     have p5 : ¬ ((9 : Nat) : Int) < 9 := by omega
     have y0 : (0 : Int) ≤ (yn : Int) := by omega
     have y1 : (yn : Int) ≤ (c3 : Int) := by omega
     have yt : (yn : Int).toNat = yn := by omega
     clear NX hmk M0 hs hp hq
     go_wp2_with fail
     go_roundw
     case rel => exact ⟨i + 1, _, Q', by omega, by go_num, HPL, HQL, HNX⟩
     case measure => simp [intOf]; omega
  ·have e : i = n := by omega
   subst e
   have q5 : ¬ (i : Int) < (i : Int) := by omega
   have q0 : Q = [] := List.eq_nil_of_length_eq_zero (by have := hq.out; omega)
   subst q0
   have ST := hs.out.st
   rw [List.append_nil] at ST
   have FR := hs.out.fr
   rw [List.append_nil] at FR
   have HST := Lib.hid ST
   have HFR := Lib.hid FR
   have HMK := Lib.hid hs.out.mks
   have HBL := Lib.hid hs.out.bel
   clear ST FR hs R0
   go_wp2_with fail
   go_loopw [3, 7] (fun s3 s7 wr => ∃ (k : Nat) (A' : Option Addr) (c' : Nat), k ≤ 9 ∧ s3 = .slice A' (i + k) c' ∧ s7 = .int .i64 (k : Int) ∧ Hid (RmS W.heap.size wr (.slice A' (i + k) c') P k) ∧ Hid (Below W.heap.size W wr)) (fun _ s7 _ => 9 - (intOf s7).toNat)
   case atStart => exact ⟨0, A1, c1, Nat.zero_le _, rfl, rfl, HST, HBL⟩
   case round =>
    obtain ⟨k, A', c', hk, rfl, rfl, hr, hb⟩ := hrel
    clear HST HBL
    by_cases k9 : k < 9
    ·have o := hr.out.own
     rw [hp.out] at o
     obtain ⟨A2, c2, w3, R, O2, G2⟩ := app_fr o (.int .i64 (-77)) (.slice none 0 0) rfl rfl hb.out.size (by omega)
     have bu : Below wr.heap.size wr (wr.alloc (.cells #[.int .i64 (-77), .slice none 0 0] 47)) := (Below.refl _ wr).alloc (Nat.le_refl _) _
     have NR := Lib.hid (hr.out.more bu (by rw [hp.out]; exact O2) G2)
     have NB := Lib.hid ((hb.out.trans (bu.mono hb.out.size)).grown G2 (Nat.le_trans hb.out.size bu.size) (fun q hq => ((own_callF o bu).lt q hq).1))
     have p5 : (k : Int) < 9 := by omega
     have wq2 : IntKind.i64.wrap ((k : Int) + 1) = (k : Int) + 1 := IntWalk.i64_in _ (by omega)
     obtain ⟨ik, hik⟩ : ∃ ik, ik = i + k := ⟨_, rfl⟩
     have hik1 : i + (k + 1) = ik + 1 := by omega
     rw [← hik] at R NR ⊢
     have HIK := Lib.hid hik1
     clear o O2 G2 bu hr hb hik hik1
     go_wp2_with (first | (at_builtin; refine wpList_append_go rfl (.tmp 52) (.tmp 54) 24 24 rfl _ _ _ _ rfl rfl R ?_) | fail)
     go_roundw
     case rel => exact ⟨k + 1, A2, c2, by omega, by rw [HIK.out], by go_num, Lib.hid (by rw [HIK.out]; exact NR.out), NB⟩
     case measure => simp [intOf]; omega
    ·have e : k = 9 := by omega
     subst e
     obtain ⟨r, c4, e, rc⟩ := hr.out.st_row9
     injection e with e1 e2 e3
     subst e1
     subst e3
     have FIN : Hid (RoomR W i l (.returned (.slice (some ⟨r, 0, none⟩) i c')) wr) := Lib.hid (by
      refine ⟨_, c', P, rfl, hp.out.symm, HFR.out, hr.out.room (by rw [hp.out]; omega) (fun x m => ?_) (fun x m => HMK.out x m), hb.out⟩
      have := LB.out ⟨x.at_, x.bs⟩ (by rw [← HFR.out]; exact List.mem_map_of_mem (f := fun x : RM => (⟨x.at_, x.bs⟩ : Frm)) m)
      have : x.bs.length ≤ 134217728 := this
      omega)
     have p5 : ¬ ((9 : Nat) : Int) < 9 := by omega
     have y0 : (0 : Int) ≤ (i : Int) := by omega
     have y1 : (i : Int) ≤ (c' : Int) := by rw [hp.out] at rc; omega
     have yt : (i : Int).toNat = i := by omega
     clear hr hb rc e2
     go_wp2_with fail
     go_ret
     exact FIN.out
end
end Go.Proofs.YtmaofighbpnbiaaGreatDoor
