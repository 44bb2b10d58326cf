/- What lies below tapes (kept of earlier texts: VyPa, VyPb). -/
import Derived.Test.YtmaofighbpnbiaaGreatDoorTaFM
import Derived.Deep.CutBlock
import Derived.Lib.SlBytesConst
set_option linter.unusedVariables false
set_option linter.unusedSimpArgs false
namespace Go.Proofs.YtmaofighbpnbiaaGreatDoor
section
open Go Go.RowKit Go.Sort
section
variable {w0 : World} {F0 : List Nat} {tb : Nat} {t t' : Trm} {W W' V V0 X : World} {L : Lay}
def newPS (V0 : World) (w h : Int) : Spec := ⟨fun v W => ∃ nb, v = .pointer (some ⟨nb, 0, none⟩) /\ V0.heap.size <= nb /\ St V0 [] nb (newV w h) W, fun v W W' hb ⟨nb, e, h1, h2⟩ => ⟨nb, e, h1, h2.below hb⟩⟩
def newTS (V0 : World) (w h : Int) : Spec := ⟨fun v W => ∃ nb, v = .tuple #[.pointer (some ⟨nb, 0, none⟩), .int .i64 0] /\ V0.heap.size <= nb /\ St V0 [] nb (newV w h) W, fun v W W' hb ⟨nb, e, h1, h2⟩ => ⟨nb, e, h1, h2.below hb⟩⟩
set_option maxHeartbeats 16000000 in
set_option maxRecDepth 100000 in
theorem zdA (h : St w0 F0 tb t W) (f : Fine t) (b : Nat) (hb : b <= 255) : Calls Tryz.prog 73 #[.pointer (some ⟨tb, 0, none⟩), .int .u8 (b : Int)] W (Vd w0 F0 tb (jT t (b : Int))) := by
 obtain ⟨L1, B1⟩ := h.bk
 have k28 := B1.c 28 _ rfl
 have kf28 := B1.f 28
 have H0 := h.setState 0
 obtain ⟨t0, ht0⟩ : ∃ t0 : Trm, t0 = { t with state := 0 } := ⟨_, rfl⟩
 have F1 : Fine t0 := by rw [ht0]; exact f.still rfl rfl rfl
 have SQ : Hid (jT t (b : Int) = endT (swT t0 b) b) := zdX (by rw [ht0]; exact esc_eq t b)
 rw [<- ht0] at H0
 obtain ⟨V0, hV0⟩ : ∃ V0, V0 = W.setCell ⟨tb, 28, none⟩ (.int .i8 0) := ⟨_, rfl⟩
 rw [<- hV0] at H0
 obtain ⟨T1, hT1⟩ : ∃ T1, T1 = swT t0 (b : Int) := ⟨_, rfl⟩
 have FT : Hid (Fine T1) := zdX (by rw [hT1]; exact fine_sw F1 b)
 rw [<- hT1] at SQ
 have H := zdX H0
 have HT := zdX hT1
 have FH := zdX F1
 clear h B1 f ht0 H0 hT1 F1
 go_enter Tryz.func73, Tryz.ntmps73
 go_upto_region 1 with fail
 rw [<- hV0]
 clear hV0 k28 kf28
 go_upto_block 0 with fail
 go_cut [4, 5, 6] from 11 to 90 (fun s4 s5 s6 wx => Hid (St w0 F0 tb T1 wx))
 case first =>
  by_cases e91 : b = 91
  ·subst e91
   obtain ⟨L1, B1⟩ := H.out.bk
   have k28 := B1.c 28 _ rfl
   have kf28 := B1.f 28
   have k29 := B1.c 29 _ rfl
   have kf29 := B1.f 29
   have S : Hid (St w0 F0 tb T1 _) := zdX (by rw [HT.out]; exact (H.out.setState 3).noH)
   clear B1
   rw [show ((91 : Nat) : Int) = 91 from rfl] at *
   go_wp2_with fail
   go_meet
   exact S
  by_cases e93 : b = 93
  ·subst e93
   obtain ⟨L1, B1⟩ := H.out.bk
   have k28 := B1.c 28 _ rfl
   have kf28 := B1.f 28
   have k29 := B1.c 29 _ rfl
   have kf29 := B1.f 29
   have S : Hid (St w0 F0 tb T1 _) := zdX (by rw [HT.out]; exact (H.out.setState 4).noH)
   clear B1
   rw [show ((93 : Nat) : Int) = 93 from rfl] at *
   go_wp2_with fail
   go_meet
   exact S
  by_cases e80 : b = 80
  ·subst e80
   obtain ⟨L1, B1⟩ := H.out.bk
   have k28 := B1.c 28 _ rfl
   have kf28 := B1.f 28
   have S : Hid (St w0 F0 tb T1 _) := zdX (by rw [HT.out]; exact H.out.setState 5)
   clear B1
   rw [show ((80 : Nat) : Int) = 80 from rfl] at *
   go_wp2_with fail
   go_meet
   exact S
  by_cases e88 : b = 88
  ·subst e88
   obtain ⟨L1, B1⟩ := H.out.bk
   have k28 := B1.c 28 _ rfl
   have kf28 := B1.f 28
   have S : Hid (St w0 F0 tb T1 _) := zdX (by rw [HT.out]; exact H.out.setState 5)
   clear B1
   rw [show ((88 : Nat) : Int) = 88 from rfl] at *
   go_wp2_with fail
   go_meet
   exact S
  by_cases e94 : b = 94
  ·subst e94
   obtain ⟨L1, B1⟩ := H.out.bk
   have k28 := B1.c 28 _ rfl
   have kf28 := B1.f 28
   have S : Hid (St w0 F0 tb T1 _) := zdX (by rw [HT.out]; exact H.out.setState 5)
   clear B1
   rw [show ((94 : Nat) : Int) = 94 from rfl] at *
   go_wp2_with fail
   go_meet
   exact S
  by_cases e95 : b = 95
  ·subst e95
   obtain ⟨L1, B1⟩ := H.out.bk
   have k28 := B1.c 28 _ rfl
   have kf28 := B1.f 28
   have S : Hid (St w0 F0 tb T1 _) := zdX (by rw [HT.out]; exact H.out.setState 5)
   clear B1
   rw [show ((95 : Nat) : Int) = 95 from rfl] at *
   go_wp2_with fail
   go_meet
   exact S
  by_cases e99 : b = 99
  ·subst e99
   have SE : Hid (T1 = allW { newV t0.w t0.h with reps := t0.reps }) := zdX (by rw [HT.out]; rfl)
   rw [show ((99 : Nat) : Int) = 99 from rfl] at *
   obtain ⟨L1, B1⟩ := H.out.bk
   have k0 := fun d os => (B1.regrown d os).c 0 _ rfl
   have k1 := fun d os => (B1.regrown d os).c 1 _ rfl
   have fw0 := FH.out.w0
   have fw1 := FH.out.w1
   have fh0 := FH.out.h0
   have fh1 := FH.out.h1
   have far := FH.out.ar
   have NW : Hid (∀ d os, Calls Tryz.prog 26 #[.int .i64 t0.w, .int .i64 t0.h] (grow (redrawn V0 d) os) fun e w' => ∃ v, e = .returned v /\ (newTS V0 t0.w t0.h).r v w' /\ Below (grow (redrawn V0 d) os).heap.size (grow (redrawn V0 d) os) w') := zdX (fun d os => by
    have B := below_regrown V0 d os
    refine (t_New t0.w t0.h fw0 fw1 fh0 fh1 far _ (H.out.below B).env).mono ?_
    rintro e w' ⟨nb, rfl, hb2, hge, hn⟩
    exact ⟨_, rfl, ⟨nb, rfl, Nat.le_trans B.size hge, hn.older H.out.env B⟩, hb2⟩)
   clear B1 fw0 fw1 fh0 fh1 far
   go_upto_region 12 with fail
   refine vG 15 [(48, newTS V0 t0.w t0.h), (37, newTS V0 t0.w t0.h), (49, newPS V0 t0.w t0.h), (4, newPS V0 t0.w t0.h)] [4, 37, 48, 49] (by kernel_rfl) (by kernel_rfl) (by kernel_rfl) (by intro t ht; simp at ht; rcases ht with rfl | rfl | rfl | rfl <;> (intro h; cases h)) ?_
   simp only [zd0, zd1, zd2, zd3]
   repeat (refine kN (by rfl) (fun K hK => ?_); go_simp; first | (refine hK _ ?_; clear hK K) | (apply Exists.intro; refine ⟨fun _ => ?_, hK _ ?_⟩; (fail); clear hK K))
   refine xQ 48 rfl (by simp) (by first | (simp; done) | simp [qm]) (by rfl) (by rfl) (by intro _ _ h; cases h) (fun x => ?_) ?_
   ·go_simp
    exact ⟨Below.refl _ _, NW.out x.d x.os⟩
   refine vc 48 37 (by simp) (by first | (simp; done) | simp [qm]) (by rfl) rfl (by simp) (by first | (simp; done) | simp [qm]) (by rfl) (by rfl) (by rfl) (by intro _ _ h; cases h) (fun x u hu => ?_) ?_
   ·obtain ⟨nb, rfl, h1, h2⟩ := hu
    simp [execOp, Result.andThen, jM, Act.eval, Act.put]
    exact ⟨Below.refl _ _, nb, rfl, h1, h2⟩
   refine vc 37 49 (by simp) (by first | (simp; done) | simp [qm]) (by rfl) rfl (by simp) (by first | (simp; done) | simp [qm]) (by rfl) (by rfl) (by rfl) (by intro _ _ h; cases h) (fun x u hu => ?_) ?_
   ·obtain ⟨nb, rfl, h1, h2⟩ := hu
    go_simp
    exact ⟨Below.refl _ _, nb, rfl, h1, h2⟩
   refine wpS_use 37 (.int .i64 0) (by simp) (by first | (simp; done) | simp [qm]) (by rfl) (by rfl) (by rfl) (by rfl) (by rfl) (by intro _ _ h; cases h) (fun x u hu => ?_) ?_
   ·obtain ⟨nb, rfl, h1, h2⟩ := hu
    go_simp
    done
   refine vc 49 4 (by simp) (by first | (simp; done) | simp [qm]) (by rfl) rfl (by simp) (by first | (simp; done) | simp [qm]) (by rfl) (by rfl) (by rfl) (by intro _ _ h; cases h) (fun x u hu => ?_) ?_
   ·obtain ⟨nb, rfl, h1, h2⟩ := hu
    simp [execOp, Result.andThen, jM, Act.eval, Act.put]
    exact ⟨Below.refl _ _, nb, rfl, h1, h2⟩
   refine vF ?_
   intro V1 vs1 hl hv
   obtain ⟨n48, e48, _, _⟩ := hv 48 (by simp) rfl
   obtain ⟨n37, e37, _, _⟩ := hv 37 (by simp) rfl
   obtain ⟨n49, e49, _, _⟩ := hv 49 (by simp) rfl
   obtain ⟨nb, e4, hge, hn⟩ := hv 4 (by simp) rfl
   simp only [qo, e48, e37, e49, e4]
   have hb1 := xo.1 hl
   obtain ⟨L0, L1, A, c, B0, er, BN, S0, F, S1, hF, htb⟩ := H.out.fresh hb1 hn
   clear hl hv e48 e37 e49 e4 NW k0 k1 hge hn hb1
   have k26 := B0.c 26 _ rfl
   rw [er] at k26
   have n26 := BN.c 26 _ rfl
   have nf26 := BN.f 26
   obtain ⟨V2, hV2⟩ : ∃ V2, V2 = V1.setCell ⟨nb, 26, none⟩ (.slice A t0.reps.size c) := ⟨_, rfl⟩
   rw [<- hV2] at S0 S1
   obtain ⟨n1, hn1⟩ : ∃ n1 : Trm, n1 = { newV t0.w t0.h with reps := t0.reps } := ⟨_, rfl⟩
   rw [<- hn1] at S1 SE
   have q9 : (n1.wrt.length : Int) <= 1048576 := by
    rw [hn1]
    show ((List.replicate (t0.w * t0.h).toNat false).length : Int) <= 1048576
    rw [List.length_replicate]
    have := FH.out.ar
    omega
   have S0 := zdX S0
   have S1 := zdX S1
   have HF := zdX hF
   have HTB := zdX htb
   clear B0 er BN hF htb hn1
   go_upto_region 14 with fail
   rw [<- hV2]
   clear hV2 k26 n26 nf26
   obtain ⟨L4, A4, c4, B4, e4⟩ := S1.out.lenW
   have k27 := B4.c 27 _ rfl
   rw [e4] at k27
   have MA := zdX (zai n1)
   clear B4 e4
   go_wp2_with fail
   clear k27
   have HS : Hid (St V2 F nb (zx n1 0 0) V2) := S1
   go_loopw [63] (fun i wr => ∃ k : Nat, k <= n1.wrt.length /\ i = .int .i64 (k : Int) /\ Hid (St V2 F nb (zx n1 0 k) wr)) (fun i _ => n1.wrt.length - (intOf i).toNat)
   case atStart => exact ⟨0, Nat.zero_le _, by simp, HS⟩
   case round =>
    obtain ⟨k, hk2, rfl, hr⟩ := hrel
    clear HS S1
    by_cases lt : k < n1.wrt.length
    ·obtain ⟨L1, g1, cap1, B1, ec, hc1, ⟨v5, y5⟩, p5, h5⟩ := hr.out.markS (f := 0) (by omega)
     rw [Nat.zero_add] at y5 p5 h5
     have k27 := B1.c 27 _ rfl
     rw [ec] at k27
     have H5 := zdX h5
     have q0 : (0 : Int) <= (k : Int) := by omega
     have q5 : (k : Int) < (n1.wrt.length : Int) := by omega
     have tn : (k : Int).toNat = k := by omega
     have wk := zdY ((k : Int) + 1) (by omega)
     clear B1 ec hc1 h5 hr S0
     go_wp2_with fail
     go_roundw
     case rel => exact ⟨k + 1, by omega, by go_num, H5⟩
     case measure => simp [intOf]; omega
    ·have e9 : k = n1.wrt.length := by omega
     have q5 : ¬ (k : Int) < (n1.wrt.length : Int) := by omega
     have H5 : St V2 F nb (allW n1) wr := by rw [<- MA.out, <- e9]; exact hr.out
     obtain ⟨⟨Lb, Lu, Lc, La, Ls, Lw, Lr, Lh, Lk⟩, L0, eb, B0, BN, ⟨⟨A1, m1, c1, e1⟩, ⟨A2, m2, c2, e2⟩, ⟨A3, m3, c3, e3⟩, ⟨A4, m4, c4, e4⟩, ⟨A5, m5, c5, e5⟩, ⟨A6, m6, c6, e6⟩, ⟨A7, m7, c7, e7⟩⟩, S⟩ := S0.out.become2 H5 HF.out HTB.out
     dsimp only at e1 e2 e3 e4 e5 e6 e7
     subst e1 e2 e3 e4 e5 e6 e7
     obtain ⟨n2, hn2⟩ : ∃ n2 : Trm, n2 = allW n1 := ⟨_, rfl⟩
     rw [<- hn2] at SE BN S
     obtain ⟨old, ho⟩ : ∃ old, old = (trmV t0 L0).toArray := ⟨_, rfl⟩
     obtain ⟨cs, hc⟩ : ∃ cs, cs = (trmV n2 ⟨Lb, Lu, .slice A1 m1 c1, .slice A2 m2 c2, .slice A3 m3 c3, .slice A4 m4 c4, .slice A5 m5 c5, .slice A6 m6 c6, .slice A7 m7 c7⟩).toArray := ⟨_, rfl⟩
     have GN : Hid (wr.heap[nb]? = some (.cells cs 104 (0, 0))) := zdX (by rw [hc]; exact BN)
     have G0 : Hid (wr.heap[tb]? = some (.cells old 104 (0, 0))) := zdX (by rw [ho]; exact B0)
     have IH : Hid ((Tryz.prog.info? 104).map (·.size) = some cs.size) := zdX (by rw [hc]; exact zav)
     have HS : Hid (old.size = cs.size) := zdX (by rw [hc, ho]; rfl)
     have H1 : Hid (cs.all (·.oneCell') = true) := zdX (by rw [hc]; simp [trmV, Value.oneCell'])
     rw [<- hc] at S
     have S := zdX S
     clear BN B0 eb hc ho hr e9 H5 hk2 hn2
     go_wp2_with (first | (refine wpList_store_row rfl 104 (.tmp 77) (.tmp 76) rfl tb cs rfl rfl 104 old G0.out IH.out HS.out H1.out ?_) | (refine wpList_load_row rfl 104 (.tmp 75) rfl nb rfl 104 cs (0, 0) _ GN.out Tryz.underlying104 rfl IH.out ?_))
     go_meet
     rw [SE.out]
     exact S
  by_cases e55 : b = 55
  ·subst e55
   have SE : Hid (T1 = savT t0) := zdX (by rw [HT.out]; rfl)
   rw [show ((55 : Nat) : Int) = 55 from rfl] at *
   obtain ⟨L, B5⟩ := H.out.bk
   have k3 := B5.c 3 _ rfl
   have k4 := B5.c 4 _ rfl
   have k5 := B5.c 5 _ rfl
   have k6 := B5.c 6 _ rfl
   have k7 := B5.c 7 _ rfl
   have k8 := B5.c 8 _ rfl
   have k10 := B5.c 10 _ rfl
   have k11 := B5.c 11 _ rfl
   have k12 := B5.c 12 _ rfl
   have k13 := B5.c 13 _ rfl
   have k14 := B5.c 14 _ rfl
   have k15 := B5.c 15 _ rfl
   have kf10 := B5.f 10
   have kf11 := B5.f 11
   have kf12 := B5.f 12
   have kf13 := B5.f 13
   have kf14 := B5.f 14
   have kf15 := B5.f 15
   have S2 := zdX H.out.setSav
   clear B5
   go_wp2_with fail
   go_meet
   rw [SE.out]
   exact S2
  by_cases e56 : b = 56
  ·subst e56
   have SE : Hid (T1 = jR t0) := zdX (by rw [HT.out]; rfl)
   rw [show ((56 : Nat) : Int) = 56 from rfl] at *
   have RS := zdX (QY H.out ⟨FH.out.w0, FH.out.w1⟩ ⟨FH.out.h0, FH.out.h1⟩)
   go_wp2_with fail
   refine RS.out.mono ?_; rintro e w2 ⟨⟨_, rfl⟩, h2⟩
   have H2 := zdX h2
   clear h2 RS
   go_wp2_with fail
   go_meet
   rw [SE.out]
   exact H2
  ·have i91 : ¬ (b : Int) = 91 := by omega
   have i93 : ¬ (b : Int) = 93 := by omega
   have i80 : ¬ (b : Int) = 80 := by omega
   have i88 : ¬ (b : Int) = 88 := by omega
   have i94 : ¬ (b : Int) = 94 := by omega
   have i95 : ¬ (b : Int) = 95 := by omega
   have i99 : ¬ (b : Int) = 99 := by omega
   have i55 : ¬ (b : Int) = 55 := by omega
   have i56 : ¬ (b : Int) = 56 := by omega
   have SE : Hid (T1 = t0) := zdX (by rw [HT.out]; unfold swT; rw [if_neg i91, if_neg i93, if_neg (by rintro (z | z | z | z); exact i80 z; exact i88 z; exact i94 z; exact i95 z), if_neg i99, if_neg i55, if_neg i56])
   go_wp2_with fail
   go_meet
   rw [SE.out]
   exact H
 case rest =>
  have H := hcut
  obtain ⟨L1, B1⟩ := H.out.bk
  have k0 := B1.c 0 _ rfl
  have k1 := B1.c 1 _ rfl
  have fw0 := FT.out.w0
  have fw1 := FT.out.w1
  have fh0 := FT.out.h0
  have fh1 := FT.out.h1
  have mm : 0 <= T1.w * T1.h /\ T1.w * T1.h <= 1048576 := ⟨Int.mul_nonneg fw0 fh0, FT.out.ar⟩
  have m1 := zdY (T1.w * T1.h) (by omega)
  clear B1 fw0 fw1 fh0 fh1 mm hcut
  go_upto_region 24 with fail
  refine jX 11 (by kernel_rfl) (by kernel_rfl) ?_
  simp only [zd0, zd1, zd2, zd3]
  repeat (quiet_step (fail))
  refine wpQuiet_nil ?_
  intro _ hw'
  obtain ⟨nq, hw''⟩ := hw'
  subst hw''
  have H := zdX (H.out.below (below_drewN (Below.refl _ _) nq))
  generalize wc.drewN nq = V at *
  by_cases z : T1.w * T1.h = 0
  ·have gz : (T1.w * T1.h == 0) = true := by rw [z]; rfl
   have SE : Hid (endT T1 (b : Int) = T1) := zdX (by unfold endT; rw [if_pos z])
   clear k0 k1
   go_wp2_with fail
   go_end0
   exact ⟨⟨_, rfl⟩, by rw [SQ.out, SE.out]; exact H.out⟩
  have gz : (T1.w * T1.h == 0) = false := by simpa using z
  have PS := FT.out.some z
  by_cases e69 : b = 69
  ·subst e69
   have SE : Hid (endT T1 ((69 : Nat) : Int) = { zK (setX T1 0) with pend := false }) := zdX (by unfold endT; rw [if_neg z, if_pos (by decide)])
   rw [show ((69 : Nat) : Int) = 69 from rfl] at *
   obtain ⟨L1, B1⟩ := H.out.bk
   have k3 := B1.c 3 _ rfl
   have kf3 := B1.f 3
   have IX := zdX (ZG (H.out.setX 0) (jE FT.out 0 (Int.le_refl 0) (Or.inr rfl)) PS)
   clear B1 k0 k1
   go_wp2_with fail
   refine IX.out.mono ?_; rintro e w2 ⟨⟨_, rfl⟩, h2⟩
   have S3 := zdX (h2.setPend false)
   obtain ⟨L2, B2⟩ := h2.bk
   have k16 := B2.c 16 _ rfl
   have kf16 := B2.f 16
   clear B2 h2 IX
   go_wp2_with fail
   go_end0
   exact ⟨⟨_, rfl⟩, by rw [SQ.out, SE.out]; exact S3.out⟩
  by_cases e68 : b = 68
  ·subst e68
   have SE : Hid (endT T1 ((68 : Nat) : Int) = { zK T1 with pend := false }) := zdX (by unfold endT; rw [if_neg z, if_neg (by decide), if_pos (by decide)])
   rw [show ((68 : Nat) : Int) = 68 from rfl] at *
   have IX := zdX (ZG H.out FT.out PS)
   clear k0 k1
   go_wp2_with fail
   refine IX.out.mono ?_; rintro e w2 ⟨⟨_, rfl⟩, h2⟩
   have S3 := zdX (h2.setPend false)
   obtain ⟨L2, B2⟩ := h2.bk
   have k16 := B2.c 16 _ rfl
   have kf16 := B2.f 16
   clear B2 h2 IX
   go_wp2_with fail
   go_end0
   exact ⟨⟨_, rfl⟩, by rw [SQ.out, SE.out]; exact S3.out⟩
  by_cases e77 : b = 77
  ·subst e77
   have SE : Hid (endT T1 ((77 : Nat) : Int) = { qB T1 with pend := false }) := zdX (by unfold endT; rw [if_neg z, if_neg (by decide), if_neg (by decide), if_pos (by decide)])
   rw [show ((77 : Nat) : Int) = 77 from rfl] at *
   have IX := zdX (zcS H.out FT.out PS)
   clear k0 k1
   go_wp2_with fail
   refine IX.out.mono ?_; rintro e w2 ⟨⟨_, rfl⟩, h2⟩
   have S3 := zdX (h2.setPend false)
   obtain ⟨L2, B2⟩ := h2.bk
   have k16 := B2.c 16 _ rfl
   have kf16 := B2.f 16
   clear B2 h2 IX
   go_wp2_with fail
   go_end0
   exact ⟨⟨_, rfl⟩, by rw [SQ.out, SE.out]; exact S3.out⟩
  by_cases e72 : b = 72
  ·subst e72
   have SE : Hid (endT T1 ((72 : Nat) : Int) = { T1 with stops := T1.stops.set T1.cur.x.toNat true }) := zdX (by unfold endT; rw [if_neg z, if_neg (by decide), if_neg (by decide), if_neg (by decide), if_pos (by decide)])
   rw [show ((72 : Nat) : Int) = 72 from rfl] at *
   have sx : 0 <= T1.cur.x /\ T1.cur.x < T1.w := ⟨FT.out.x0, by have := FT.out.cx; have := PS.1; omega⟩
   have sl : (T1.stops.length : Int) = T1.w := FT.out.sl
   obtain ⟨L, g, cap, B, ec, hc, ho, st⟩ := H.out.rowS (by omega)
   have k23 := B.c 23 _ rfl
   rw [ec] at k23
   have k3 := B.c 3 _ rfl
   have S2 := zdX (st T1.cur.x.toNat true)
   have y : V.cell? ⟨g, T1.cur.x.toNat, none⟩ = some (.bool (T1.stops.getD T1.cur.x.toNat false)) := by rw [ho.cellAt _ (by omega)]; exact Jk (by omega)
   have yf : V.frozen? ⟨g, T1.cur.x.toNat, none⟩ = false := ho.frozenAt _
   obtain ⟨sx0, sx1⟩ := sx
   have sx2 : T1.cur.x < (T1.stops.length : Int) := by omega
   clear B ec ho st k0 k1
   generalize T1.stops.length = M at *
   generalize T1.stops.getD T1.cur.x.toNat false = yy at *
   go_upto_region 35 with fail
   refine jX 10 (by kernel_rfl) (by kernel_rfl) ?_
   simp only [zd0, zd1, zd2, zd3]
   repeat (quiet_step (fail))
   refine wpQuiet_nil ?_
   intro _ hw'
   obtain ⟨nq2, hw''⟩ := hw'
   subst hw''
   go_wp2_with fail
   go_end0
   exact ⟨⟨_, rfl⟩, by rw [SQ.out, SE.out]; exact S2.out.below (below_drewN (Below.refl _ _) nq2)⟩
  ·have i69 : ¬ (b : Int) = 69 := by omega
   have i68 : ¬ (b : Int) = 68 := by omega
   have i77 : ¬ (b : Int) = 77 := by omega
   have i72 : ¬ (b : Int) = 72 := by omega
   have SE : Hid (endT T1 (b : Int) = T1) := zdX (by unfold endT; rw [if_neg z, if_neg i69, if_neg i68, if_neg i77, if_neg i72])
   clear k0 k1
   go_wp2_with fail
   go_end0
   exact ⟨⟨_, rfl⟩, by rw [SQ.out, SE.out]; exact H.out⟩
end
end
section
open Go Go.RowKit Go.Sort
section
variable {w0 : World} {F0 : List Nat} {tb : Nat} {t t' : Trm} {W W' : World}
def seqN (t : Trm) (n : Nums) (b : Int) : Trm :=
 if n.void = true then t
 else if n.prefix_ = 63 /\ (b = 104 \/ b = 108) then qC t (decide (b = 104)) n.list
 else if n.prefix_ ≠ 0 then t
 else if b = 109 then setSt t (qA t.cur.st n.list)
 else if b = 110 then jr t (n.list.getD 0 0)
 else if b = 99 then (if n.list.getD 0 0 = 0 then qK t ⟨#[63, 54, 99]⟩ else t)
 else if b = 104 \/ b = 108 then (if 4 ∈ n.list then { t with ins := decide (b = 104) } else t)
 else if 0 < t.w * t.h then actT t b n else t
theorem seq_eq (t : Trm) (b : Int) : jS t b = seqN { t with opn := -1 } (xD t.held) b := rfl
theorem ZO : ∀ (l : List Int) (x : Int) (a : List Int) (v : Bool), 0 < (jK l x a v).1.length
 | [], x, a, v => by show 0 < (a ++ [x]).length; rw [List.length_append]; simp
 | c :: r, x, a, v => by
  unfold jK
  split
  ·exact ZO r _ _ _
  ·split
   ·exact ZO r _ _ _
   ·exact ZO r _ _ _
theorem zdB (s : ByteArray) : 0 < (xD s).list.length := by
 show 0 < (List.take 32 _).length
 rw [List.length_take]
 have := ZO (if 60 <= (byL s).getD 0 0 then (byL s).drop 1 else byL s) 0 [] false
 omega
theorem zay (on : Bool) (x : Int) : ∀ (l : List Int) (t : Trm), qC t on (l ++ [x]) = qs (qC t on l) x on
 | [], t => rfl
 | k :: l, t => zay on x l (qs t k on)
theorem zaz (t : Trm) (on : Bool) (l : List Int) (k : Nat) (h : k < l.length) : qC t on (l.take (k + 1)) = qs (qC t on (l.take k)) l[k] on := by
 rw [List.take_add_one, List.getElem?_eq_getElem h]
 exact zay on l[k] _ t
def inT (t : Trm) (on : Bool) (l : List Int) : Trm := if 4 ∈ l then { t with ins := on } else t
theorem zaA (t : Trm) (on : Bool) (l : List Int) (k : Nat) (h : k < l.length) : inT t on (l.take (k + 1)) = if l[k] = 4 then { inT t on (l.take k) with ins := on } else inT t on (l.take k) := by
 unfold inT
 rw [List.take_add_one, List.getElem?_eq_getElem h]
 show (if 4 ∈ List.take k l ++ [l[k]] then _ else _) = _
 by_cases e : l[k] = 4
 ·rw [if_pos e, if_pos (by simp [e])]
  split <;> rfl
 ·rw [if_neg e]
  by_cases m : 4 ∈ List.take k l
  ·rw [if_pos m, if_pos (List.mem_append_left _ m)]
  ·rw [if_neg m, if_neg (by simp only [List.mem_append, List.mem_singleton]; rintro (z | z); exact m z; exact e z.symm)]
theorem seq_zero (t : Trm) (P : Int) (l : List Int) (b : Nat) (p0 : P = 0) (i104 : ¬ (b : Int) = 104) (i108 : ¬ (b : Int) = 108) : seqN t ⟨P, l, false⟩ (b : Int) = if (b : Int) = 109 then setSt t (qA t.cur.st l) else if (b : Int) = 110 then jr t (l.getD 0 0) else if (b : Int) = 99 then (if l.getD 0 0 = 0 then qK t ⟨#[63, 54, 99]⟩ else t) else if 0 < t.w * t.h then actT t b ⟨P, l, false⟩ else t := by
 subst p0
 have e : ¬ ((b : Int) = 104 \/ (b : Int) = 108) := by rintro (z | z); exact i104 z; exact i108 z
 unfold seqN
 rw [if_neg (by simp), if_neg (by rintro ⟨z, _⟩; simp at z), if_neg (by simp), if_neg e]
theorem St.setSt (h : St w0 F0 tb t W) (s : Sty) : St w0 F0 tb (setSt t s) (((W.setCell ⟨tb, 5, none⟩ (.int .i32 s.fg)).setCell ⟨tb, 6, none⟩ (.int .i32 s.bg)).setCell ⟨tb, 7, none⟩ (.int .u8 (bI s.at_))) := by
 have h1 := h.set { t with cur := { t.cur with st := { t.cur.st with fg := s.fg } } } 5 (.int .i32 s.fg) (fun _ => rfl) ⟨rfl, rfl, rfl, rfl, rfl, rfl, rfl⟩
 have h2 := h1.set { t with cur := { t.cur with st := { t.cur.st with fg := s.fg, bg := s.bg } } } 6 (.int .i32 s.bg) (fun _ => rfl) ⟨rfl, rfl, rfl, rfl, rfl, rfl, rfl⟩
 exact h2.set _ 7 (.int .u8 (bI s.at_)) (fun _ => rfl) ⟨rfl, rfl, rfl, rfl, rfl, rfl, rfl⟩
theorem St.heldA (h : St w0 F0 tb t W) : ∃ L A c, Bk W tb (trmV t L) 104 /\ L.h = .slice A t.held.size c /\ KeptAt W (.slice A t.held.size c) t.held := by
 obtain ⟨L, rfl, T, _⟩ := h.lay
 have K := T.h
 obtain ⟨A, c, e, _⟩ := T.h
 exact ⟨L, A, c, T.own, e, e ▸ K⟩
set_option maxHeartbeats 16000000 in
set_option maxRecDepth 100000 in
theorem zdC (h : St w0 F0 tb t W) (f : Fine t) (hr : t.reps.size <= 65536) (hh : t.held.size <= 310000000) (b : Nat) (hb : 64 <= b /\ b <= 126) : Calls Tryz.prog 72 #[.pointer (some ⟨tb, 0, none⟩), .int .u8 (b : Int)] W (Vd w0 F0 tb (jS t (b : Int))) := by
 obtain ⟨L1, B1⟩ := h.bk
 have k24 := B1.c 24 _ rfl
 have kf24 := B1.f 24
 have H0 := h.setOpn (-1)
 obtain ⟨t0, ht0⟩ : ∃ t0 : Trm, t0 = { t with opn := -1 } := ⟨_, rfl⟩
 have HELD : Hid (t0.held = t.held) := zdX (by rw [ht0])
 have F0' : Fine t0 := by rw [ht0]; exact jv f _
 have R0 : t0.reps.size <= 65536 := by rw [ht0]; exact hr
 have SQ : Hid (jS t (b : Int) = seqN t0 (xD t.held) (b : Int)) := zdX (by rw [ht0]; exact seq_eq t b)
 rw [<- ht0] at H0
 obtain ⟨V0, hV0⟩ : ∃ V0, V0 = W.setCell ⟨tb, 24, none⟩ (.int .i64 (-1)) := ⟨_, rfl⟩
 rw [<- hV0] at H0
 obtain ⟨L2, A0, c0, B2, e2, K2⟩ := H0.heldA
 rw [HELD.out] at e2 K2
 have k29 := B2.c 29 _ rfl
 rw [e2] at k29
 have PA := zdX (t_parse V0 _ t.held K2 hh)
 have H0 := zdX H0
 have PP := zdX (zdB t.held)
 obtain ⟨N, hN⟩ : ∃ N, N = xD t.held := ⟨_, rfl⟩
 rw [<- hN] at PA PP SQ
 obtain ⟨P, l, v⟩ := N
 clear h B1 f hr ht0 B2 e2 K2 hh hN
 go_enter Tryz.func72, Tryz.ntmps72
 go_upto_region 1 with fail
 rw [<- hV0]
 clear hV0 k24 kf24
 go_wp2_with fail
 refine PA.out.mono ?_; rintro e w1 ⟨A, c, rfl, BW, NA⟩
 have H1 := H0.out.below BW
 unfold numV
 clear PA H0 k29
 go_upto_region 2 with fail
 obtain ⟨V1, hV1⟩ : ∃ V1, V1 = w1.alloc (.cells #[.int .u8 P, .slice A l.length c, .bool v] 129) := ⟨_, rfl⟩
 have BV : Below w1.heap.size w1 V1 := by rw [hV1]; exact (Below.refl _ w1).alloc zdZ _
 have KV : Bk V1 w1.heap.size [.int .u8 P, .slice A l.length c, .bool v] 129 := by rw [hV1]; exact Bk.new w1 _ _
 have NV := NA.below BV
 have H1 := zdX (H1.below BV)
 rw [<- hV1]
 clear hV1
 obtain ⟨F, HF, up, _, nF⟩ := H1.out.hold
 have UP := zdX up
 have HS : Hid (St V1 F tb (qC t0 true (l.take 0)) V1) := zdX HF
 have HSI : Hid (St V1 F tb (inT t0 true (l.take 0)) V1) := zdX HF
 obtain ⟨n, hn⟩ : ∃ n, n = l.length := ⟨_, rfl⟩
 have HN := zdX hn
 have n32 : n <= 32 := by rw [hn]; exact NV.len
 have npos : 0 < n := by rw [hn]; exact PP.out
 have CL : Hid (∀ k (tx : Trm) wr, k < n -> St V1 F tb tx wr -> ∃ ad, A = some ad /\ wr.cell? (ad.add k) = some (.int .i64 (l.getD k 0))) := zdX (fun k tx wr hk hs => by
  have lk : k < l.length := by rw [<- hn]; exact hk
  obtain ⟨ad, eA, hb2, hc⟩ := NV.sees.at (k := k) (by unfold ints; simpa using lk)
  refine ⟨ad, eA, ?_⟩
  obtain ⟨arr, fl, ty⟩ := NV.ty ad eA
  rw [List.getD_eq_getElem?_getD, List.getElem?_eq_getElem lk]
  have e2 : (ints l)[k]'(by unfold ints; simpa using lk) = .int .i64 l[k] := by unfold ints; simp
  rw [e2] at hc
  exact (World.cell?_of_block (by rw [z8]; exact hs.mv.blk _ (Array.getElem?_eq_some_iff.1 ty).1 (nF _ _ _ _ ty (by decide)))).trans hc)
 have FK : Hid (∀ on k, Fine (qC t0 on (l.take k))) := zdX (fun on k => Qo on _ F0')
 have FC : Hid (0 < n) := zdX npos
 have j0 := KV.c 0 _ rfl
 have j1 := KV.c 1 _ rfl
 have j2 := KV.c 2 _ rfl
 rw [<- hn] at j1
 have hcn : n <= c := by rw [hn]; exact NV.cap
 have NVH := zdX NV
 have KVH := zdX KV
 clear up nF HF NA NV BV BW KV hn
 cases v with
 | true =>
  have SE : Hid (seqN t0 ⟨P, l, true⟩ (b : Int) = t0) := zdX (by unfold seqN; rw [if_pos rfl])
  clear CL FK FC HS HSI UP F0' R0 hb HELD HN n32 npos hcn NVH
  go_wp2_with fail
  go_end0
  exact ⟨⟨_, rfl⟩, by rw [SQ.out, SE.out]; exact H1.out⟩
 | false =>
 by_cases p63 : P = 63
 ·by_cases e104 : b = 104
  ·subst e104
   have SE : Hid (seqN t0 ⟨P, l, false⟩ ((104 : Nat) : Int) = qC t0 true l) := zdX (by unfold seqN; rw [if_neg (by simp), if_pos ⟨p63, by simp⟩]; rfl)
   have g63 : (P == 63) = true := by rw [p63]; rfl
   clear p63 F0' R0 hb HELD H1
   rw [show ((104 : Nat) : Int) = 104 from rfl] at *
   go_wp2_with fail
   go_loopw [35] (fun i wr => ∃ k : Nat, k <= n /\ i = .int .i64 (k : Int) /\ Hid (St V1 F tb (qC t0 true (l.take k)) wr)) (fun i _ => n - (intOf i).toNat)
   case atStart => exact ⟨0, Nat.zero_le _, by simp, HS⟩
   case round =>
    obtain ⟨k, hk, rfl, hr⟩ := hrel
    clear HS
    by_cases lt : k < n
    ·obtain ⟨ad, rfl, y⟩ := CL.out k _ _ lt hr.out
     have lk : k < l.length := by rw [<- HN.out]; exact lt
     have MO := zdX (t_mode hr.out (FK.out true k) (l.getD k 0) true)
     have EN : Hid (qC t0 true (l.take (k + 1)) = qs (qC t0 true (l.take k)) (l.getD k 0) true) := zdX (by rw [zaz t0 true l k lk, List.getD_eq_getElem?_getD, List.getElem?_eq_getElem lk]; rfl)
     generalize l.getD k 0 = x at *
     have q0 : (0 : Int) <= (k : Int) := by omega
     have q5 : (k : Int) < (n : Int) := by omega
     have tn : (k : Int).toNat = k := by omega
     have wk := zdY ((k : Int) + 1) (by omega)
     clear hr CL FK FC
     go_wp2_with fail
     refine MO.out.mono ?_; rintro e w2 ⟨⟨_, rfl⟩, h2⟩
     rw [<- EN.out] at h2
     have H2 := zdX h2
     clear h2 MO
     go_wp2_with fail
     go_roundw
     case rel => exact ⟨k + 1, by omega, by go_num, H2⟩
     case measure => simp [intOf]; omega
    ·have ek : k = n := by omega
     subst ek
     have q5 : ¬ (k : Int) < (k : Int) := by omega
     clear CL FK FC
     go_wp2_with fail
     go_end0
     refine ⟨⟨_, rfl⟩, ?_⟩
     rw [SQ.out, SE.out]
     have := hr.out
     rw [HN.out, List.take_length] at this
     exact UP.out _ _ this
  by_cases e108 : b = 108
  ·subst e108
   have SE : Hid (seqN t0 ⟨P, l, false⟩ ((108 : Nat) : Int) = qC t0 false l) := zdX (by unfold seqN; rw [if_neg (by simp), if_pos ⟨p63, by simp⟩]; rfl)
   have g63 : (P == 63) = true := by rw [p63]; rfl
   clear p63 F0' R0 hb HELD H1
   rw [show ((108 : Nat) : Int) = 108 from rfl] at *
   go_wp2_with fail
   go_loopw [35] (fun i wr => ∃ k : Nat, k <= n /\ i = .int .i64 (k : Int) /\ Hid (St V1 F tb (qC t0 false (l.take k)) wr)) (fun i _ => n - (intOf i).toNat)
   case atStart => exact ⟨0, Nat.zero_le _, by simp, HS⟩
   case round =>
    obtain ⟨k, hk, rfl, hr⟩ := hrel
    clear HS
    by_cases lt : k < n
    ·obtain ⟨ad, rfl, y⟩ := CL.out k _ _ lt hr.out
     have lk : k < l.length := by rw [<- HN.out]; exact lt
     have MO := zdX (t_mode hr.out (FK.out false k) (l.getD k 0) false)
     have EN : Hid (qC t0 false (l.take (k + 1)) = qs (qC t0 false (l.take k)) (l.getD k 0) false) := zdX (by rw [zaz t0 false l k lk, List.getD_eq_getElem?_getD, List.getElem?_eq_getElem lk]; rfl)
     generalize l.getD k 0 = x at *
     have q0 : (0 : Int) <= (k : Int) := by omega
     have q5 : (k : Int) < (n : Int) := by omega
     have tn : (k : Int).toNat = k := by omega
     have wk := zdY ((k : Int) + 1) (by omega)
     clear hr CL FK FC
     go_wp2_with fail
     refine MO.out.mono ?_; rintro e w2 ⟨⟨_, rfl⟩, h2⟩
     rw [<- EN.out] at h2
     have H2 := zdX h2
     clear h2 MO
     go_wp2_with fail
     go_roundw
     case rel => exact ⟨k + 1, by omega, by go_num, H2⟩
     case measure => simp [intOf]; omega
    ·have ek : k = n := by omega
     subst ek
     have q5 : ¬ (k : Int) < (k : Int) := by omega
     clear CL FK FC
     go_wp2_with fail
     go_end0
     refine ⟨⟨_, rfl⟩, ?_⟩
     rw [SQ.out, SE.out]
     have := hr.out
     rw [HN.out, List.take_length] at this
     exact UP.out _ _ this
  ·have i104 : ¬ (b : Int) = 104 := by omega
   have i108 : ¬ (b : Int) = 108 := by omega
   have SE : Hid (seqN t0 ⟨P, l, false⟩ (b : Int) = t0) := zdX (by unfold seqN; rw [if_neg (by simp), if_neg (by rintro ⟨_, z | z⟩; exact i104 z; exact i108 z), if_pos (by rw [p63]; simp)])
   have g63 : (P == 63) = true := by rw [p63]; rfl
   have g0 : (P == 0) = false := by rw [p63]; rfl
   have g104 : ((b : Int) == 104) = false := by simpa using i104
   have g108 : ((b : Int) == 108) = false := by simpa using i108
   clear CL FK FC HS HSI UP F0' R0 hb HELD HN n32 npos hcn NVH p63
   go_wp2_with fail
   go_end0
   exact ⟨⟨_, rfl⟩, by rw [SQ.out, SE.out]; exact H1.out⟩
 ·by_cases p0 : P = 0
  rotate_left
  ·have SE : Hid (seqN t0 ⟨P, l, false⟩ (b : Int) = t0) := zdX (by unfold seqN; rw [if_neg (by simp), if_neg (by rintro ⟨z, _⟩; exact p63 z), if_pos p0])
   have g63 : (P == 63) = false := by simpa using p63
   have g0 : (P == 0) = false := by simpa using p0
   clear CL FK FC HS HSI UP F0' R0 hb HELD HN n32 npos hcn NVH p63 p0
   go_wp2_with fail
   go_end0
   exact ⟨⟨_, rfl⟩, by rw [SQ.out, SE.out]; exact H1.out⟩
  have g63 : (P == 63) = false := by simpa using p63
  have g0 : (P == 0) = true := by rw [p0]; rfl
  by_cases e104 : b = 104
  ·subst e104
   have SE : Hid (seqN t0 ⟨P, l, false⟩ ((104 : Nat) : Int) = inT t0 true l) := zdX (by unfold seqN; rw [if_neg (by simp), if_neg (by rintro ⟨z, _⟩; exact p63 z), if_neg (by simp [p0]), if_neg (by decide), if_neg (by decide), if_neg (by decide), if_pos (by decide)]; rfl)
   clear F0' R0 hb HELD H1
   rw [show ((104 : Nat) : Int) = 104 from rfl] at *
   go_wp2_with fail
   go_loopw [93] (fun i wr => ∃ k : Nat, k <= n /\ i = .int .i64 (k : Int) /\ Hid (St V1 F tb (inT t0 true (l.take k)) wr)) (fun i _ => n - (intOf i).toNat)
   case atStart => exact ⟨0, Nat.zero_le _, by simp, HSI⟩
   case round =>
    obtain ⟨k, hk, rfl, hr⟩ := hrel
    clear HS HSI
    by_cases lt : k < n
    ·obtain ⟨ad, rfl, y⟩ := CL.out k _ _ lt hr.out
     have lk : k < l.length := by rw [<- HN.out]; exact lt
     have EN : Hid (inT t0 true (l.take (k + 1)) = if l.getD k 0 = 4 then { inT t0 true (l.take k) with ins := true } else inT t0 true (l.take k)) := zdX (by rw [zaA t0 true l k lk, List.getD_eq_getElem?_getD, List.getElem?_eq_getElem lk]; rfl)
     obtain ⟨L4, B4⟩ := hr.out.bk
     have k18 := B4.c 18 _ rfl
     have kf18 := B4.f 18
     have SI := zdX (hr.out.setIns true)
     generalize l.getD k 0 = x at *
     have q0 : (0 : Int) <= (k : Int) := by omega
     have q5 : (k : Int) < (n : Int) := by omega
     have tn : (k : Int).toNat = k := by omega
     have wk := zdY ((k : Int) + 1) (by omega)
     clear CL FK FC B4
     by_cases e4 : x = 4
     ·have EN2 : Hid (inT t0 true (l.take (k + 1)) = { inT t0 true (l.take k) with ins := true }) := zdX (by rw [EN.out, if_pos e4])
      have g4 : (x == 4) = true := by rw [e4]; rfl
      have SI2 : Hid (St V1 F tb (inT t0 true (l.take (k + 1))) (wr.setCell ⟨tb, 18, none⟩ (.bool true))) := zdX (by rw [EN2.out]; exact SI.out)
      clear hr EN EN2 SI
      go_wp2_with fail
      go_roundw
      case rel => exact ⟨k + 1, by omega, by go_num, SI2⟩
      case measure => simp [intOf]; omega
     ·have EN2 : Hid (inT t0 true (l.take (k + 1)) = inT t0 true (l.take k)) := zdX (by rw [EN.out, if_neg e4])
      have g4 : (x == 4) = false := by simpa using e4
      have SI2 : Hid (St V1 F tb (inT t0 true (l.take (k + 1))) wr) := zdX (by rw [EN2.out]; exact hr.out)
      clear hr EN EN2 SI k18 kf18
      go_wp2_with fail
      go_roundw
      case rel => exact ⟨k + 1, by omega, by go_num, SI2⟩
      case measure => simp [intOf]; omega
    ·have ek : k = n := by omega
     subst ek
     have q5 : ¬ (k : Int) < (k : Int) := by omega
     clear CL FK FC
     go_wp2_with fail
     go_end0
     refine ⟨⟨_, rfl⟩, ?_⟩
     rw [SQ.out, SE.out]
     have := hr.out
     rw [HN.out, List.take_length] at this
     exact UP.out _ _ this
  by_cases e108 : b = 108
  ·subst e108
   have SE : Hid (seqN t0 ⟨P, l, false⟩ ((108 : Nat) : Int) = inT t0 false l) := zdX (by unfold seqN; rw [if_neg (by simp), if_neg (by rintro ⟨z, _⟩; exact p63 z), if_neg (by simp [p0]), if_neg (by decide), if_neg (by decide), if_neg (by decide), if_pos (by decide)]; rfl)
   clear F0' R0 hb HELD H1
   rw [show ((108 : Nat) : Int) = 108 from rfl] at *
   go_wp2_with fail
   go_loopw [93] (fun i wr => ∃ k : Nat, k <= n /\ i = .int .i64 (k : Int) /\ Hid (St V1 F tb (inT t0 false (l.take k)) wr)) (fun i _ => n - (intOf i).toNat)
   case atStart => exact ⟨0, Nat.zero_le _, by simp, HSI⟩
   case round =>
    obtain ⟨k, hk, rfl, hr⟩ := hrel
    clear HS HSI
    by_cases lt : k < n
    ·obtain ⟨ad, rfl, y⟩ := CL.out k _ _ lt hr.out
     have lk : k < l.length := by rw [<- HN.out]; exact lt
     have EN : Hid (inT t0 false (l.take (k + 1)) = if l.getD k 0 = 4 then { inT t0 false (l.take k) with ins := false } else inT t0 false (l.take k)) := zdX (by rw [zaA t0 false l k lk, List.getD_eq_getElem?_getD, List.getElem?_eq_getElem lk]; rfl)
     obtain ⟨L4, B4⟩ := hr.out.bk
     have k18 := B4.c 18 _ rfl
     have kf18 := B4.f 18
     have SI := zdX (hr.out.setIns false)
     generalize l.getD k 0 = x at *
     have q0 : (0 : Int) <= (k : Int) := by omega
     have q5 : (k : Int) < (n : Int) := by omega
     have tn : (k : Int).toNat = k := by omega
     have wk := zdY ((k : Int) + 1) (by omega)
     clear CL FK FC B4
     by_cases e4 : x = 4
     ·have EN2 : Hid (inT t0 false (l.take (k + 1)) = { inT t0 false (l.take k) with ins := false }) := zdX (by rw [EN.out, if_pos e4])
      have g4 : (x == 4) = true := by rw [e4]; rfl
      have SI2 : Hid (St V1 F tb (inT t0 false (l.take (k + 1))) (wr.setCell ⟨tb, 18, none⟩ (.bool false))) := zdX (by rw [EN2.out]; exact SI.out)
      clear hr EN EN2 SI
      go_wp2_with fail
      go_roundw
      case rel => exact ⟨k + 1, by omega, by go_num, SI2⟩
      case measure => simp [intOf]; omega
     ·have EN2 : Hid (inT t0 false (l.take (k + 1)) = inT t0 false (l.take k)) := zdX (by rw [EN.out, if_neg e4])
      have g4 : (x == 4) = false := by simpa using e4
      have SI2 : Hid (St V1 F tb (inT t0 false (l.take (k + 1))) wr) := zdX (by rw [EN2.out]; exact hr.out)
      clear hr EN EN2 SI k18 kf18
      go_wp2_with fail
      go_roundw
      case rel => exact ⟨k + 1, by omega, by go_num, SI2⟩
      case measure => simp [intOf]; omega
    ·have ek : k = n := by omega
     subst ek
     have q5 : ¬ (k : Int) < (k : Int) := by omega
     clear CL FK FC
     go_wp2_with fail
     go_end0
     refine ⟨⟨_, rfl⟩, ?_⟩
     rw [SQ.out, SE.out]
     have := hr.out
     rw [HN.out, List.take_length] at this
     exact UP.out _ _ this
  have i104 : ¬ (b : Int) = 104 := by omega
  have i108 : ¬ (b : Int) = 108 := by omega
  have x104 : ((b : Int) == 104) = false := by simpa using i104
  have x108 : ((b : Int) == 108) = false := by simpa using i108
  obtain ⟨ad, rfl, hx⟩ := ZD NVH.out PP.out
  have q0 := hx V1 (Below.refl _ _)
  have SB := zdX (seq_zero t0 P l b p0 i104 i108)
  by_cases e109 : b = 109
  ·subst e109
   have SE : Hid (seqN t0 ⟨P, l, false⟩ ((109 : Nat) : Int) = setSt t0 (qA t0.cur.st l)) := zdX (by rw [SB.out, if_pos (by decide)])
   rw [show ((109 : Nat) : Int) = 109 from rfl] at *
   have AP : Hid (∀ W', Below V1.heap.size V1 W' -> Calls Tryz.prog 84 #[.agg #[.int .i32 t0.cur.st.fg, .int .i32 t0.cur.st.bg, .int .u8 (bI t0.cur.st.at_)], .slice (some ad) n c] W' fun e w' => e = .returned (styV (qA t0.cur.st l).fg (qA t0.cur.st l).bg (qA t0.cur.st l).at_) /\ Below W'.heap.size W' w') := zdX (fun W' hb2 => by
    have := st_Apply t0.cur.st (some ad) c l (by have := HN.out; omega) (by have := HN.out; omega) W' (H1.out.below hb2).env.st (((NVH.out.below hb2).sees))
    rw [<- HN.out] at this
    exact this)
   obtain ⟨L4, B4⟩ := H1.out.bk
   have k5 := fun d os => (B4.regrown d os).c 5 _ rfl
   have k6 := fun d os => (B4.regrown d os).c 6 _ rfl
   have k7 := fun d os => (B4.regrown d os).c 7 _ rfl
   have jj := fun d os => (KVH.out.regrown d os).c 1 _ rfl
   rw [<- HN.out] at jj
   clear CL FK FC HS HSI F0' R0 hb HELD n32 npos NVH p63 p0 hx SB B4 i104 i108 x104 x108 e104 e108
   go_upto_region 11 with fail
   refine zg 12 (by kernel_rfl) (by kernel_rfl) ?_
   simp only [zd0, zd1, zd2, zd3]
   repeat (quiet_step (exact qj AP.out _ _))
   refine wpQuiet_nil ?_
   intro _ hw'
   obtain ⟨⟨dq, osq⟩, hw''⟩ := hw'
   subst hw''
   have H2 := zdX (H1.out.below (below_regrown V1 dq osq))
   clear k5 k6 k7 jj j0 j1 j2 KVH
   generalize grow (redrawn V1 dq) osq = V2 at *
   obtain ⟨L5, B5⟩ := H2.out.bk
   have k5 := B5.c 5 _ rfl
   have k6 := B5.c 6 _ rfl
   have k7 := B5.c 7 _ rfl
   have kf5 := B5.f 5
   have kf6 := B5.f 6
   have kf7 := B5.f 7
   have S3 := zdX (H2.out.setSt (qA t0.cur.st l))
   clear B5 AP
   simp only [styV]
   go_wp2_with fail
   go_end0
   exact ⟨⟨_, rfl⟩, by rw [SQ.out, SE.out]; exact S3.out⟩
  have i109 : ¬ (b : Int) = 109 := by omega
  have x109 : ((b : Int) == 109) = false := by simpa using i109
  by_cases e110 : b = 110
  ·subst e110
   have SE : Hid (seqN t0 ⟨P, l, false⟩ ((110 : Nat) : Int) = jr t0 (l.getD 0 0)) := zdX (by rw [SB.out, if_neg (by decide), if_pos (by decide)])
   rw [show ((110 : Nat) : Int) = 110 from rfl] at *
   have RE := zdX (t_report H1.out F0' (l.getD 0 0) R0)
   clear CL FK FC HS HSI F0' R0 hb HELD NVH p63 p0 hx SB KVH
   generalize l.getD 0 0 = x at *
   go_wp2_with fail
   refine RE.out.mono ?_; rintro e w2 ⟨⟨_, rfl⟩, h2⟩
   have H2 := zdX h2
   clear h2 RE
   go_wp2_with fail
   go_end0
   exact ⟨⟨_, rfl⟩, by rw [SQ.out, SE.out]; exact H2.out⟩
  have i110 : ¬ (b : Int) = 110 := by omega
  have x110 : ((b : Int) == 110) = false := by simpa using i110
  by_cases e99 : b = 99
  ·subst e99
   have SE : Hid (seqN t0 ⟨P, l, false⟩ ((99 : Nat) : Int) = (if l.getD 0 0 = 0 then qK t0 ⟨#[63, 54, 99]⟩ else t0)) := zdX (by rw [SB.out, if_neg (by decide), if_neg (by decide), if_pos (by decide)])
   rw [show ((99 : Nat) : Int) = 99 from rfl] at *
   have RE := zdX (Ju H1.out ⟨#[63, 54, 99]⟩ (by decide) R0)
   clear CL FK FC HS HSI F0' R0 hb HELD NVH p63 p0 hx SB KVH
   generalize l.getD 0 0 = x at *
   by_cases e : x = 0
   ·have SE2 : Hid (seqN t0 ⟨P, l, false⟩ 99 = qK t0 ⟨#[63, 54, 99]⟩) := zdX (by rw [SE.out, if_pos e])
    have gx : (x == 0) = true := by rw [e]; rfl
    clear SE
    go_wp2_with fail
    refine RE.out.mono ?_; rintro e w2 ⟨⟨_, rfl⟩, h2⟩
    have H2 := zdX h2
    clear h2 RE
    go_wp2_with fail
    go_end0
    exact ⟨⟨_, rfl⟩, by rw [SQ.out, SE2.out]; exact H2.out⟩
   ·have SE2 : Hid (seqN t0 ⟨P, l, false⟩ 99 = t0) := zdX (by rw [SE.out, if_neg e])
    have gx : (x == 0) = false := by simpa using e
    clear SE
    go_wp2_with fail
    go_end0
    exact ⟨⟨_, rfl⟩, by rw [SQ.out, SE2.out]; exact H1.out⟩
  have i99 : ¬ (b : Int) = 99 := by omega
  have x99 : ((b : Int) == 99) = false := by simpa using i99
  have SE : Hid (seqN t0 ⟨P, l, false⟩ (b : Int) = if 0 < t0.w * t0.h then actT t0 b ⟨P, l, false⟩ else t0) := zdX (by rw [SB.out, if_neg i109, if_neg i110, if_neg i99])
  have w0' := F0'.w0
  have w1' := F0'.w1
  have h0' := F0'.h0
  have h1' := F0'.h1
  have mm : 0 <= t0.w * t0.h /\ t0.w * t0.h <= 1048576 := ⟨Int.mul_nonneg w0' h0', F0'.ar⟩
  have m1 := zdY (t0.w * t0.h) (by omega)
  obtain ⟨L4, B4⟩ := H1.out.bk
  have k0 := B4.c 0 _ rfl
  have k1 := B4.c 1 _ rfl
  have FH := zdX F0'
  have HB := zdX hb
  clear CL FK FC HS HSI F0' R0 hb HELD hx SB B4 n32 npos w0' w1' h0' h1' mm q0 e99 e104 e108 e109 e110
  go_upto_region 24 with fail
  refine jX 11 (by kernel_rfl) (by kernel_rfl) ?_
  simp only [zd0, zd1, zd2, zd3]
  repeat (quiet_step (fail))
  refine wpQuiet_nil ?_
  intro _ hw'
  obtain ⟨nq, hw''⟩ := hw'
  subst hw''
  by_cases ar : 0 < t0.w * t0.h
  ·have AC := zdX (t_act (H1.out.below (below_drewN (Below.refl _ _) nq)) FH.out (kJ FH.out ar) b HB.out ⟨P, l, false⟩ (some ad) c (NVH.out.below (below_drewN (Below.refl _ _) nq)) PP.out)
   have SE2 : Hid (seqN t0 ⟨P, l, false⟩ (b : Int) = actT t0 b ⟨P, l, false⟩) := zdX (by rw [SE.out, if_pos ar])
   unfold numV at AC
   rw [show (⟨P, l, false⟩ : Nums).list.length = n from HN.out.symm] at AC
   dsimp only at AC
   clear SE k0 k1
   go_upto_region 25 with fail
   clear x104 x108 x109 x110 x99 i99 i104 i108 i109 i110 g63 g0 m1 ar p63 p0
   go_wp2_with fail
   refine AC.out.mono ?_; rintro e w2 ⟨⟨_, rfl⟩, h2⟩
   have H2 := zdX h2
   clear h2 AC
   go_wp2_with fail
   go_end0
   exact ⟨⟨_, rfl⟩, by rw [SQ.out, SE2.out]; exact H2.out⟩
  ·have SE2 : Hid (seqN t0 ⟨P, l, false⟩ (b : Int) = t0) := zdX (by rw [SE.out, if_neg ar])
   clear SE k0 k1
   go_wp2_with fail
   go_end0
   exact ⟨⟨_, rfl⟩, by rw [SQ.out, SE2.out]; exact H1.out.below (below_drewN (Below.refl _ _) nq)⟩
end
end
section
open Go Go.RowKit Go.Sort
section
variable {w0 : World} {F0 : List Nat} {tb : Nat} {t t' : Trm} {W W' : World}
set_option maxHeartbeats 16000000 in
set_option maxRecDepth 100000 in
theorem JB (h : St w0 F0 tb t W) (Lv : Live t) (s1 : t.state = 1 \/ t.state = 2 \/ t.state = 3) (hh : t.held.size <= 300000000) (b : Nat) (hb : b <= 255) (n24 : b ≠ 24) (n26 : b ≠ 26) (u11 u12 u13 u14 u15 u16 u71 u72 u73 u74 u75 u76 u77 u81 u82 u83 u84 u85 u86 u87 u88 u89 u90 u91 u92 u93 u94 u95 u96 u97 u98 u109 u110 u111 u112 u113 u114 u115 u116 u117 u118 u119 u120 u121 u125 u126 u127 u131 u132 u133 u138 u139 u140 u141 u142 u143 u144 u145 u146 : Value) (Q : Exit -> Act -> World -> Prop)
  (hQ : ∀ a w', a.defers = [] -> St w0 F0 tb (zy t (b : Int)) w' -> Q .normal a w') (hR : ∀ a w', a.defers = [] -> St w0 F0 tb (zy t (b : Int)) w' -> Q .ret a w')
  (hJ : 127 < b -> ∀ (u11 u12 u13 u14 u15 u16 u71 u72 u73 u74 u75 u76 u77 u81 u82 u83 u84 u85 u86 u87 u88 u89 u90 u91 u92 u93 u94 u95 u96 u97 u98 u109 u110 u111 u112 u113 u114 u115 u116 u117 u118 u119 u120 u121 u125 u126 u127 u131 u132 u133 u138 u139 u140 u141 u142 u143 u144 u145 u146 : Value) w', St w0 F0 tb { t with state := 0 } w' -> Q (.goto 0) { tmps := #[.pointer (some ⟨tb, 0, none⟩), .int .u8 (b : Int), undef, undef, undef, undef, undef, undef, undef, undef, undef, u11, u12, u13, u14, u15, u16, undef, undef, undef, undef, undef, undef, undef, undef, undef, undef, undef, undef, undef, undef, undef, undef, undef, undef, undef, undef, undef, undef, undef, undef, undef, undef, undef, undef, undef, undef, undef, undef, undef, undef, undef, undef, undef, undef, undef, undef, undef, undef, undef, undef, undef, undef, undef, undef, undef, undef, undef, undef, undef, undef, u71, u72, u73, u74, u75, u76, u77, undef, undef, undef, u81, u82, u83, u84, u85, u86, u87, u88, u89, u90, u91, u92, u93, u94, u95, u96, u97, u98, undef, undef, undef, undef, undef, undef, undef, undef, undef, undef, u109, u110, u111, u112, u113, u114, u115, u116, u117, u118, u119, u120, u121, undef, undef, undef, u125, u126, u127, undef, undef, undef, u131, u132, u133, undef, undef, undef, undef, u138, u139, u140, u141, u142, u143, u144, u145, u146, undef, undef, undef, undef, undef, undef, undef, undef, undef, undef, undef, undef, undef, undef, undef, undef, undef, undef, undef, undef, undef, undef, undef, undef, undef, undef, undef, undef, undef, undef, undef, undef, undef, undef, undef, undef, undef, undef, undef], defers := [] } w') :
  Code.wp Tryz.prog (restOf (Tryz.f57).body) Q { tmps := #[.pointer (some ⟨tb, 0, none⟩), .int .u8 (b : Int), undef, undef, undef, undef, undef, undef, undef, undef, undef, u11, u12, u13, u14, u15, u16, undef, undef, undef, undef, undef, undef, undef, undef, undef, undef, undef, undef, undef, undef, undef, undef, undef, undef, undef, undef, undef, undef, undef, undef, undef, undef, undef, undef, undef, undef, undef, undef, undef, undef, undef, undef, undef, undef, undef, undef, undef, undef, undef, undef, undef, undef, undef, undef, undef, undef, undef, undef, undef, undef, u71, u72, u73, u74, u75, u76, u77, undef, undef, undef, u81, u82, u83, u84, u85, u86, u87, u88, u89, u90, u91, u92, u93, u94, u95, u96, u97, u98, undef, undef, undef, undef, undef, undef, undef, undef, undef, undef, u109, u110, u111, u112, u113, u114, u115, u116, u117, u118, u119, u120, u121, undef, undef, undef, u125, u126, u127, undef, undef, undef, u131, u132, u133, undef, undef, undef, undef, u138, u139, u140, u141, u142, u143, u144, u145, u146, undef, undef, undef, undef, undef, undef, undef, undef, undef, undef, undef, undef, undef, undef, undef, undef, undef, undef, undef, undef, undef, undef, undef, undef, undef, undef, undef, undef, undef, undef, undef, undef, undef, undef, undef, undef, undef, undef, undef], defers := [] } W := by
 have H := zdX h
 have HQ := zdX hQ
 have HR := zdX hR
 have HJ := zdX hJ
 have FI := zdX Lv.fine
 obtain ⟨L1, B1⟩ := h.bk
 have k28 := B1.c 28 _ rfl
 have kf28 := B1.f 28
 have i24 : ¬ (b : Int) = 24 := by omega
 have i26 : ¬ (b : Int) = 26 := by omega
 have g24 : ((b : Int) == 24) = false := by simpa using i24
 have g26 : ((b : Int) == 26) = false := by simpa using i26
 obtain ⟨st, hst⟩ : ∃ st, st = t.state := ⟨_, rfl⟩
 rw [<- hst] at k28 s1
 have HST := zdX hst
 have LV := zdX Lv
 have g0 : (st == 0) = false := by simp; omega
 have g4 : (st == 4) = false := by simp; omega
 have g5 : (st == 5) = false := by simp; omega
 have g6 : (st == 6) = false := by simp; omega
 have g7 : (st == 7) = false := by simp; omega
 have j0 : ¬ st = 0 := by omega
 have j4 : ¬ st = 4 := by omega
 have j5 : ¬ st = 5 := by omega
 have j6 : ¬ st = 6 := by omega
 have j7 : ¬ st = 7 := by omega
 clear h hQ hR hJ Lv B1 hst
 conv =>
  arg 2
  whnf
 by_cases e27 : b = 27
 ·subst e27
  have SE : Hid (zy t ((27 : Nat) : Int) = { t with state := 1 }) := zdX rfl
  have S1 := zdX (H.out.setState 1)
  rw [show ((27 : Nat) : Int) = 27 from rfl] at *
  go_wp2_with fail
  (try simp only [Exit.inBlock, Exit.then])
  exact HQ.out _ _ rfl (by rw [SE.out]; exact S1.out)
 have i27 : ¬ (b : Int) = 27 := by omega
 have g27 : ((b : Int) == 27) = false := by simpa using i27
 by_cases c32 : b < 32
 ·have ci : (b : Int) < 32 := by omega
  have SE : Hid (zy t (b : Int) = jp t b) := zdX (by unfold zy; rw [if_neg i27, if_pos ci])
  have CO := zdX (VT H.out FI.out (b : Int))
  have wr : IntKind.i32.wrap (b : Int) = (b : Int) := IntWalk.i32_in _ (by omega)
  go_wp2_with fail
  refine CO.out.mono ?_; rintro e w2 ⟨⟨_, rfl⟩, h2⟩
  have S1 := zdX h2
  clear h2 CO
  go_wp2_with fail
  (try simp only [Exit.inBlock, Exit.then])
  exact HQ.out _ _ rfl (by rw [SE.out]; exact S1.out)
 have i32 : ¬ (b : Int) < 32 := by omega
 by_cases e127 : b = 127
 ·subst e127
  have SE : Hid (zy t ((127 : Nat) : Int) = t) := zdX (by unfold zy; rw [if_neg i27, if_neg i32, if_pos (by decide)])
  rw [show ((127 : Nat) : Int) = 127 from rfl] at *
  go_wp2_with fail
  (try simp only [Exit.inBlock, Exit.then])
  exact HQ.out _ _ rfl (by rw [SE.out]; exact H.out)
 have i127 : ¬ (b : Int) = 127 := by omega
 have g127 : ((b : Int) == 127) = false := by simpa using i127
 by_cases c127 : 127 < b
 ·have ci : (127 : Int) < (b : Int) := by omega
  have S1 := zdX (H.out.setState 0)
  go_wp2_with fail
  refine wp_goto ?_
  (try simp only [Exit.inBlock, Exit.then])
  exact HJ.out c127 _ _ _ _ _ _ _ _ _ _ _ _ _ _ _ _ _ _ _ _ _ _ _ _ _ _ _ _ _ _ _ _ _ _ _ _ _ _ _ _ _ _ _ _ _ _ _ _ _ _ _ _ _ _ _ _ _ _ _ _ S1.out
 have ic127 : ¬ (127 : Int) < (b : Int) := by omega
 by_cases s3 : st = 3
 ·have gs3 : (st == 3) = true := by rw [s3]; rfl
  by_cases c64 : b < 64
  ·have ci : (b : Int) < 64 := by omega
   have SE : Hid (zy t (b : Int) = { t with held := zt t.held b }) := zdX (by unfold zy; rw [if_neg i27, if_neg i32, if_neg i127, if_neg ic127, if_pos (HST.out.symm.trans s3), if_pos ci])
   obtain ⟨L1, B1, up⟩ := H.out.appH
   have k29 := B1.c 29 _ rfl
   have kf29 := B1.f 29
   obtain ⟨K1, _⟩ := up W (Below.refl _ W)
   obtain ⟨v', V, RC0, ok⟩ := Jv K1 (b : Int) (by omega) (by omega) (by omega)
   obtain ⟨_, up2⟩ := up (W.alloc (.cells #[.int .u8 (b : Int)] 5)) ((Below.refl _ W).alloc zdZ _)
   obtain ⟨A, c, eA, q1, q2, q3, q4⟩ := K1
   obtain ⟨SV, BV, SN0⟩ := up2 _ V _ ok
   obtain ⟨A2, c2, eV, r1, r2, r3, r4⟩ := ok.new
   subst eV
   rw [eA] at k29 RC0
   have v29 := BV.c 29 _ rfl
   have vf29 := BV.f 29
   rw [eA] at v29
   have SN := zdX SN0
   have RC := zdX RC0
   clear B1 up up2 ok SV BV q1 q2 q3 q4 eA SN0 RC0 r1 r2 r3 r4
   subst s3
   go_wp2_with (at_builtin; refine xe rfl (.tmp 159) (.tmp 161) 27 27 rfl _ _ _ _ rfl rfl RC.out ?_)
   (try simp only [Exit.inBlock, Exit.then])
   exact HR.out _ _ rfl (by rw [SE.out]; exact SN.out)
  have ic64 : ¬ (b : Int) < 64 := by omega
  have SE : Hid (zy t (b : Int) = jS { t with state := 0 } b) := zdX (by unfold zy; rw [if_neg i27, if_neg i32, if_neg i127, if_neg ic127, if_pos (HST.out.symm.trans s3), if_neg ic64])
  have SQ := zdX (zdC (H.out.setState 0) (FI.out.still rfl rfl rfl) LV.out.reps (by show t.held.size <= 310000000; omega) b (by omega))
  subst s3
  go_wp2_with fail
  refine SQ.out.mono ?_; rintro e w2 ⟨⟨_, rfl⟩, h2⟩
  have S1 := zdX h2
  clear h2 SQ
  go_wp2_with fail
  (try simp only [Exit.inBlock, Exit.then])
  exact HQ.out _ _ rfl (by rw [SE.out]; exact S1.out)
 have gs3 : (st == 3) = false := by simpa using s3
 have n3 : ¬ t.state = 3 := by rw [<- HST.out]; exact s3
 by_cases c48 : b < 48
 ·have ci : (b : Int) < 48 := by omega
  have SE : Hid (zy t (b : Int) = { t with state := 2 }) := zdX (by unfold zy; rw [if_neg i27, if_neg i32, if_neg i127, if_neg ic127, if_neg n3, if_pos ci])
  have S1 := zdX (H.out.setState 2)
  go_wp2_with fail
  (try simp only [Exit.inBlock, Exit.then])
  exact HQ.out _ _ rfl (by rw [SE.out]; exact S1.out)
 have ic48 : ¬ (b : Int) < 48 := by omega
 by_cases s2 : st = 2
 ·have gs2 : (st == 2) = true := by rw [s2]; rfl
  have SE : Hid (zy t (b : Int) = { t with state := 0 }) := zdX (by unfold zy; rw [if_neg i27, if_neg i32, if_neg i127, if_neg ic127, if_neg n3, if_neg ic48, if_pos (HST.out.symm.trans s2)])
  have S1 := zdX (H.out.setState 0)
  subst s2
  go_wp2_with fail
  (try simp only [Exit.inBlock, Exit.then])
  exact HQ.out _ _ rfl (by rw [SE.out]; exact S1.out)
 ·have gs2 : (st == 2) = false := by simpa using s2
  have n2 : ¬ t.state = 2 := by rw [<- HST.out]; exact s2
  have SE : Hid (zy t (b : Int) = jT t b) := zdX (by unfold zy; rw [if_neg i27, if_neg i32, if_neg i127, if_neg ic127, if_neg n3, if_neg ic48, if_neg n2])
  have ES := zdX (zdA H.out FI.out b hb)
  go_wp2_with fail
  refine ES.out.mono ?_; rintro e w2 ⟨⟨_, rfl⟩, h2⟩
  have S1 := zdX h2
  clear h2 ES k28 kf28
  go_wp2_with fail
  (try simp only [Exit.inBlock, Exit.then])
  exact HQ.out _ _ rfl (by rw [SE.out]; exact S1.out)
set_option maxHeartbeats 16000000 in
set_option maxRecDepth 100000 in
theorem t_take (h : St w0 F0 tb t W) (Lv : Live t) (hh : t.held.size <= 300000000) (b : Nat) (hb : b <= 255) : Calls Tryz.prog 57 #[.pointer (some ⟨tb, 0, none⟩), .int .u8 (b : Int)] W (Vd w0 F0 tb (zI t (b : Int))) := by
 have H := zdX h
 have LV := zdX Lv
 by_cases s0 : t.state = 0
 ·have SE : Hid (zI t (b : Int) = jc t b) := zdX (by unfold zI; rw [if_pos s0])
  go_enter Tryz.func57, Tryz.ntmps57
  refine xx 0 0 rfl ?_
  refine wp_seq (wp_label ?_)
  refine ZL H.out LV.out s0 (b : Int) (by omega) (by omega) _ _ _ _ _ _ _ _ _ _ _ _ _ _ _ _ _ _ _ _ _ _ _ _ _ _ _ _ _ _ _ _ _ _ _ _ _ _ _ _ _ _ _ _ _ _ _ _ _ _ _ _ _ _ _ _ _ _ _ _ ?_
  intro a w' hd S
  simp only [Exit.jump]
  refine bodyPost_end (results_none rfl _ _ _) hd ?_
  exact ⟨⟨_, rfl⟩, by rw [SE.out]; exact S⟩
 have o : t.opn = -1 := Lv.rest s0
 have q0 := Lv.st.s0
 have q7 := Lv.st.s7
 obtain ⟨L1, B1⟩ := h.bk
 have k28 := B1.c 28 _ rfl
 have kf28 := B1.f 28
 have OO := zdX o
 have HH := zdX hh
 clear B1 h Lv o
 obtain ⟨st, hst⟩ : ∃ st, st = t.state := ⟨_, rfl⟩
 rw [<- hst] at k28 s0 q0 q7
 have HST := zdX hst
 clear hst hh
 have L1' : ∀ s : Int, 0 <= s -> s <= 7 -> Live { t with state := s } := fun s a c => ⟨LV.out.fine.still rfl rfl rfl, ⟨a, c, LV.out.st.kept⟩, Or.inl OO.out, fun _ => OO.out, LV.out.reps⟩
 have LS := zdX L1'
 clear L1'
 have g0 : (st == 0) = false := by simpa using s0
 by_cases e24 : b = 24 \/ b = 26
 ·have SE : Hid (zI t (b : Int) = { t with state := 0 }) := zdX (by unfold zI; rw [if_neg (by rw [<- HST.out]; exact s0), if_pos (by omega)])
  have S1 := zdX (H.out.setState 0)
  rcases e24 with e | e
  ·subst e
   rw [show ((24 : Nat) : Int) = 24 from rfl] at *
   go_enter Tryz.func57, Tryz.ntmps57
   refine xx 0 0 rfl ?_
   refine wp_seq (wp_label ?_)
   simp only [Exit.then]
   go_wp2_with fail
   (try simp only [Exit.inBlock, Exit.then, Exit.jump])
   refine bodyPost_end (results_none rfl _ _ _) rfl ?_
   exact ⟨⟨_, rfl⟩, by rw [SE.out]; exact S1.out⟩
  ·subst e
   rw [show ((26 : Nat) : Int) = 26 from rfl] at *
   go_enter Tryz.func57, Tryz.ntmps57
   refine xx 0 0 rfl ?_
   refine wp_seq (wp_label ?_)
   simp only [Exit.then]
   go_wp2_with fail
   (try simp only [Exit.inBlock, Exit.then, Exit.jump])
   refine bodyPost_end (results_none rfl _ _ _) rfl ?_
   exact ⟨⟨_, rfl⟩, by rw [SE.out]; exact S1.out⟩
 have i24 : ¬ (b : Int) = 24 := by omega
 have i26 : ¬ (b : Int) = 26 := by omega
 have g24 : ((b : Int) == 24) = false := by simpa using i24
 have g26 : ((b : Int) == 26) = false := by simpa using i26
 have n24 : b ≠ 24 := by omega
 have n26 : b ≠ 26 := by omega
 by_cases c1 : st = 1 \/ st = 2 \/ st = 3
 ·have SE : Hid (zI t (b : Int) = zy t b) := zdX (by unfold zI; rw [if_neg (by rw [<- HST.out]; exact s0), if_neg (by omega), if_neg (by rw [<- HST.out]; omega), if_neg (by rw [<- HST.out]; omega)])
  go_enter Tryz.func57, Tryz.ntmps57
  refine xx 0 1 rfl ?_
  refine wp_seq (wp_label ?_)
  refine JB H.out LV.out (by rw [<- HST.out]; exact c1) HH.out b hb n24 n26 _ _ _ _ _ _ _ _ _ _ _ _ _ _ _ _ _ _ _ _ _ _ _ _ _ _ _ _ _ _ _ _ _ _ _ _ _ _ _ _ _ _ _ _ _ _ _ _ _ _ _ _ _ _ _ _ _ _ _ _ ?_ ?_ ?_
  ·intro a w' hd S
   simp only [Exit.jump]
   refine bodyPost_end (results_none rfl _ _ _) hd ?_
   exact ⟨⟨_, rfl⟩, by rw [SE.out]; exact S⟩
  ·intro a w' hd S
   simp only [Exit.jump]
   refine bodyPost_end (results_none rfl _ _ _) hd ?_
   exact ⟨⟨_, rfl⟩, by rw [SE.out]; exact S⟩
  ·intro c127
   intros
   rename_i w' S
   have SG : zy t (b : Int) = jc { t with state := 0 } b := by unfold zy; rw [if_neg (by omega), if_neg (by omega), if_neg (by omega), if_pos (by omega)]
   refine ⟨rfl, ?_⟩
   unfold xY
   refine wp_seq (wp_skip ?_)
   refine ZL S (LS.out 0 (by decide) (by decide)) rfl (b : Int) (by omega) (by omega) _ _ _ _ _ _ _ _ _ _ _ _ _ _ _ _ _ _ _ _ _ _ _ _ _ _ _ _ _ _ _ _ _ _ _ _ _ _ _ _ _ _ _ _ _ _ _ _ _ _ _ _ _ _ _ _ _ _ _ _ ?_
   intro a w' hd S
   simp only [Exit.jump]
   refine bodyPost_end (results_none rfl _ _ _) hd ?_
   exact ⟨⟨_, rfl⟩, by rw [SE.out, SG]; exact S⟩
 by_cases c4 : st = 4 \/ st = 5
 ·have SE : Hid (zI t (b : Int) = qS t b) := zdX (by unfold zI; rw [if_neg (by rw [<- HST.out]; exact s0), if_neg (by omega), if_neg (by rw [<- HST.out]; omega), if_pos (by rw [<- HST.out]; exact c4)])
  have WI := zdX (t_within H.out (b : Int) (by omega) (by omega) (by rw [<- HST.out]; exact c4) (by have := HH.out; omega))
  rcases c4 with e | e
  ·subst e
   go_enter Tryz.func57, Tryz.ntmps57
   refine xx 0 0 rfl ?_
   refine wp_seq (wp_label ?_)
   simp only [Exit.then]
   go_wp2_with fail
   refine WI.out.mono ?_; rintro e w2 ⟨⟨_, rfl⟩, h2⟩
   have S1 := zdX h2
   clear h2 WI k28 kf28
   go_wp2_with fail
   (try simp only [Exit.inBlock, Exit.then, Exit.jump])
   refine bodyPost_end (results_none rfl _ _ _) rfl ?_
   exact ⟨⟨_, rfl⟩, by rw [SE.out]; exact S1.out⟩
  ·subst e
   go_enter Tryz.func57, Tryz.ntmps57
   refine xx 0 0 rfl ?_
   refine wp_seq (wp_label ?_)
   simp only [Exit.then]
   go_wp2_with fail
   refine WI.out.mono ?_; rintro e w2 ⟨⟨_, rfl⟩, h2⟩
   have S1 := zdX h2
   clear h2 WI k28 kf28
   go_wp2_with fail
   (try simp only [Exit.inBlock, Exit.then, Exit.jump])
   refine bodyPost_end (results_none rfl _ _ _) rfl ?_
   exact ⟨⟨_, rfl⟩, by rw [SE.out]; exact S1.out⟩
 have c67 : st = 6 \/ st = 7 := by omega
 by_cases e92 : b = 92
 ·subst e92
  rw [show ((92 : Nat) : Int) = 92 from rfl] at *
  rcases c67 with e | e
  ·subst e
   have SE : Hid (zI t 92 = { (qM t) with state := 0 }) := zdX (by unfold zI; rw [if_neg (by rw [<- HST.out]; exact s0), if_neg (by decide), if_pos (by rw [<- HST.out]; decide), if_neg (by decide), if_pos HST.out.symm])
   have TI := zdX (zae H.out (by have := HH.out; omega))
   go_enter Tryz.func57, Tryz.ntmps57
   refine xx 0 0 rfl ?_
   refine wp_seq (wp_label ?_)
   simp only [Exit.then]
   go_wp2_with fail
   refine TI.out.mono ?_; rintro e w2 ⟨⟨_, rfl⟩, h2⟩
   have S1 := zdX (h2.setState 0)
   obtain ⟨L2, B2⟩ := h2.bk
   clear h2 TI k28 kf28
   have k28 := B2.c 28 _ rfl
   have kf28 := B2.f 28
   clear B2
   go_wp2_with fail
   (try simp only [Exit.inBlock, Exit.then, Exit.jump])
   refine bodyPost_end (results_none rfl _ _ _) rfl ?_
   exact ⟨⟨_, rfl⟩, by rw [SE.out]; exact S1.out⟩
  ·subst e
   have SE : Hid (zI t 92 = { t with state := 0 }) := zdX (by unfold zI; rw [if_neg (by rw [<- HST.out]; exact s0), if_neg (by decide), if_pos (by rw [<- HST.out]; decide), if_neg (by decide), if_neg (by rw [<- HST.out]; decide)])
   have S1 := zdX (H.out.setState 0)
   go_enter Tryz.func57, Tryz.ntmps57
   refine xx 0 0 rfl ?_
   refine wp_seq (wp_label ?_)
   simp only [Exit.then]
   go_wp2_with fail
   (try simp only [Exit.inBlock, Exit.then, Exit.jump])
   refine bodyPost_end (results_none rfl _ _ _) rfl ?_
   exact ⟨⟨_, rfl⟩, by rw [SE.out]; exact S1.out⟩
 have i92 : ¬ (b : Int) = 92 := by omega
 have g92 : ((b : Int) == 92) = false := by simpa using i92
 have SE : Hid (zI t (b : Int) = zy { t with state := 1 } b) := zdX (by unfold zI; rw [if_neg (by rw [<- HST.out]; exact s0), if_neg (by omega), if_pos (by rw [<- HST.out]; exact c67), if_pos i92])
 have S1 := zdX (H.out.setState 1)
 have FIN : Hid (∀ (Q : Exit -> Act -> World -> Prop) (a : Act) w', a.defers = [] -> St w0 F0 tb (zy { t with state := 1 } (b : Int)) w' -> bodyPost Tryz.prog Tryz.f57 (Vd w0 F0 tb (zI t (b : Int))) .normal a w' /\ bodyPost Tryz.prog Tryz.f57 (Vd w0 F0 tb (zI t (b : Int))) .ret a w') := zdX (fun Q a w' hd S => by
  refine ⟨bodyPost_end (results_none rfl _ _ _) hd ?_, bodyPost_end (results_none rfl _ _ _) hd ?_⟩ <;> exact ⟨⟨_, rfl⟩, by rw [SE.out]; exact S⟩)
 have SG : Hid (127 < b -> zy { t with state := 1 } (b : Int) = jc { t with state := 0 } b) := zdX (fun c => by unfold zy; rw [if_neg (by omega), if_neg (by omega), if_neg (by omega), if_pos (by omega)])
 rcases c67 with e | e
 ·subst e
  go_enter Tryz.func57, Tryz.ntmps57
  refine xx 0 2 rfl ?_
  refine wp_seq (wp_label ?_)
  simp only [Exit.then]
  go_wp2_with fail
  refine wp_goto ?_
  (try simp only [Exit.inBlock, Exit.then, Exit.jump])
  refine ⟨trivial, ?_⟩
  unfold xY
  refine wp_seq (wp_skip ?_)
  refine JB S1.out (LS.out 1 (by decide) (by decide)) (Or.inl rfl) HH.out b hb n24 n26 _ _ _ _ _ _ _ _ _ _ _ _ _ _ _ _ _ _ _ _ _ _ _ _ _ _ _ _ _ _ _ _ _ _ _ _ _ _ _ _ _ _ _ _ _ _ _ _ _ _ _ _ _ _ _ _ _ _ _ _ ?_ ?_ ?_
  ·intro a w' hd S
   simp only [Exit.jump]
   exact (FIN.out (fun _ _ _ => True) a w' hd S).1
  ·intro a w' hd S
   simp only [Exit.jump]
   exact (FIN.out (fun _ _ _ => True) a w' hd S).2
  ·intro c127
   intros
   rename_i w' S
   refine ⟨rfl, ?_⟩
   unfold xY
   refine wp_seq (wp_skip ?_)
   refine ZL S (LS.out 0 (by decide) (by decide)) rfl (b : Int) (by omega) (by omega) _ _ _ _ _ _ _ _ _ _ _ _ _ _ _ _ _ _ _ _ _ _ _ _ _ _ _ _ _ _ _ _ _ _ _ _ _ _ _ _ _ _ _ _ _ _ _ _ _ _ _ _ _ _ _ _ _ _ _ _ ?_
   intro a w' hd S
   simp only [Exit.jump]
   exact (FIN.out (fun _ _ _ => True) a w' hd (by rw [SG.out c127]; exact S)).1
 ·subst e
  go_enter Tryz.func57, Tryz.ntmps57
  refine xx 0 2 rfl ?_
  refine wp_seq (wp_label ?_)
  simp only [Exit.then]
  go_wp2_with fail
  refine wp_goto ?_
  (try simp only [Exit.inBlock, Exit.then, Exit.jump])
  refine ⟨trivial, ?_⟩
  unfold xY
  refine wp_seq (wp_skip ?_)
  refine JB S1.out (LS.out 1 (by decide) (by decide)) (Or.inl rfl) HH.out b hb n24 n26 _ _ _ _ _ _ _ _ _ _ _ _ _ _ _ _ _ _ _ _ _ _ _ _ _ _ _ _ _ _ _ _ _ _ _ _ _ _ _ _ _ _ _ _ _ _ _ _ _ _ _ _ _ _ _ _ _ _ _ _ ?_ ?_ ?_
  ·intro a w' hd S
   simp only [Exit.jump]
   exact (FIN.out (fun _ _ _ => True) a w' hd S).1
  ·intro a w' hd S
   simp only [Exit.jump]
   exact (FIN.out (fun _ _ _ => True) a w' hd S).2
  ·intro c127
   intros
   rename_i w' S
   refine ⟨rfl, ?_⟩
   unfold xY
   refine wp_seq (wp_skip ?_)
   refine ZL S (LS.out 0 (by decide) (by decide)) rfl (b : Int) (by omega) (by omega) _ _ _ _ _ _ _ _ _ _ _ _ _ _ _ _ _ _ _ _ _ _ _ _ _ _ _ _ _ _ _ _ _ _ _ _ _ _ _ _ _ _ _ _ _ _ _ _ _ _ _ _ _ _ _ _ _ _ _ _ ?_
   intro a w' hd S
   simp only [Exit.jump]
   exact (FIN.out (fun _ _ _ => True) a w' hd (by rw [SG.out c127]; exact S)).1
end
end
section
open Go Go.RowKit Go.Sort
section
variable {w0 : World} {F0 : List Nat} {tb : Nat} {t t' : Trm} {W W' : World}
theorem zdD (t : Trm) (l : List Int) (k : Nat) (h : k < l.length) : qP t (l.take (k + 1)) = zI (qP t (l.take k)) (l.getD k 0) := by
 unfold qP
 rw [List.take_add_one, List.getElem?_eq_getElem h, List.foldl_append, List.getD_eq_getElem?_getD, List.getElem?_eq_getElem h]
 rfl
def FedAt (V : World) (F : List Nat) (A : Option Addr) (D : List Int) : Prop := ∀ k, k < D.length -> ∃ ad, A = some ad /\ ad.block < V.heap.size /\ ad.block ∉ F /\ V.cell? (ad.add k) = some (.int .u8 (D.getD k 0))
theorem t_Feed {F : List Nat} {V : World} (h : St V F tb t V) (Lv : Live t) (A : Option Addr) (c : Nat) (D : List Int) (hn : D.length <= 1048576) (hh : t.held.size + D.length <= 300000000) (rng : ∀ b ∈ D, 0 <= b /\ b < 256) (S : FedAt V F A D) :
  Calls Tryz.prog 27 #[.pointer (some ⟨tb, 0, none⟩), .slice A D.length c] V fun e w' => e = .returned (.int .i64 0) /\ St V F tb (qP t D) w' := by
 have LF : ∀ k, Live (qP t (D.take k)) /\ (qP t (D.take k)).held.size <= t.held.size + (D.take k).length := fun k => QA (D.take k) Lv (fun x m => rng x (List.mem_of_mem_take m))
 refine (zds tb A D.length c D rfl hn V (fun k wr => St V F tb (qP t (D.take k)) wr) h (fun k wr hk hr => ?_) (fun k wr hk hr => ?_)).mono ?_
 ·obtain ⟨ad, e, h1, h2, h3⟩ := S k hk
  exact ⟨ad, e, (World.cell?_of_block (by rw [z8]; exact hr.mv.blk _ h1 h2)).trans h3⟩
 ·have m : D.getD k 0 ∈ D := by rw [List.getD_eq_getElem?_getD, List.getElem?_eq_getElem hk]; exact List.getElem_mem hk
  have r := rng _ m
  have L := LF k
  have hl : (D.take k).length <= D.length := by rw [List.length_take]; omega
  have T := t_take hr L.1 (by omega) (D.getD k 0).toNat (by omega)
  rw [show (((D.getD k 0).toNat : Nat) : Int) = D.getD k 0 by omega] at T
  refine T.mono ?_
  rintro e w' ⟨hv, hs⟩
  exact ⟨hv, by rw [zdD t D k hk]; exact hs⟩
 ·rintro e w' ⟨rfl, hs⟩
  rw [List.take_length] at hs
  exact ⟨rfl, hs⟩
theorem FedAt.old {V : World} {F : List Nat} {A : Option Addr} {D : List Int} {B : Nat} (hs : ∀ k, k < D.length -> ∃ ad, A = some ad /\ ad.block < B /\ V.cell? (ad.add k) = some (.int .u8 (D.getD k 0))) (hB : B <= V.heap.size) (hF : ∀ b ∈ F, B <= b) : FedAt V F A D := fun k hk => by
 obtain ⟨ad, e, h1, h2⟩ := hs k hk
 exact ⟨ad, e, by omega, fun m => by have := hF _ m; omega, h2⟩
end
end
section
open Go Go.RowKit Go.Sort
section
variable {w0 : World} {F0 : List Nat} {tb : Nat} {t t' : Trm} {W W' : World}
def NewRow (B : Nat) (T : TypeId) (sz : Nat) (v : Value) (n : Nat) (xs : List Value) (w : World) : Prop := RowAt w T sz v n xs /\ ∀ g ∈ ob v, B <= g
theorem NewRow.below {B sz n : Nat} {T : TypeId} {v : Value} {xs : List Value} {w w' : World} (h : NewRow B T sz v n xs w) (hb : Below w.heap.size w w') : NewRow B T sz v n xs w' := ⟨h.1.keep (fun g m => hb.block g (h.1.lt g m)), h.2⟩
theorem zdE {w : World} {g : Nat} (hg : w.heap[g]? = some (.cells #[] 79 (0, 0))) (ad : Addr) (m c : Nat) (news : List Value) (hl : news.length = m * 5) (hn : ∀ j u, news[j]? = some u -> w.cell? (ad.add j) = some u) (hm : m <= 1048576) (hm0 : 0 < m) :
  ∃ v' w', (Builtin.append_ #[49, 49] 49 #[.slice (some ⟨g, 0, none⟩) 0 0, .slice (some ad) m c]).run Tryz.prog w = .ok v' w' /\ Below w.heap.size w w' /\ NewRow w.heap.size 79 5 v' m news w' := by
 obtain ⟨i0, hi, hz⟩ := Option.map_eq_some_iff.1 Jz
 simp only [Prod.mk.injEq] at hz
 obtain ⟨hz0, hz1, hz2⟩ := hz
 obtain ⟨z, hzz, hzc⟩ := Option.map_eq_some_iff.1 hz0
 obtain ⟨v', w', hr, ho, hgr⟩ := run_append_arg_grows (P := Tryz.prog) w 49 49 79 i0 z 5 32 Tryz.underlying49 hi hzz hz1 hz2 (by rw [hzc]; rfl) (by decide) ⟨g, 0, none⟩ 0 0 [] (by simp) (by simp) ad m c news hl hn (by omega) (by unfold maxLen; omega) (by omega)
 rw [Nat.zero_add] at ho
 rw [List.nil_append] at ho
 refine ⟨v', w', hr, ⟨hgr.os, hgr.tape, hgr.output, hgr.size, fun k hk => hgr.block k hk (by simp)⟩, ?_⟩
 rcases ho.2 with ⟨_, a⟩ | ⟨g2, cap, cur, rfl, h2, h3, h4, h5⟩
 ·omega
 ·have lo := qR ho (Nat.zero_le _)
  refine ⟨RowAt.of_own lo (by omega), fun b hb => ?_⟩
  obtain ⟨c', rfl⟩ : ∃ c', cap = c' + 1 := ⟨cap - 1, by omega⟩
  have : b = g2 := by simpa [ob] using hb
  omega
theorem zdF {w : World} {g : Nat} (hg : w.heap[g]? = some (.cells #[] 79 (0, 0))) (ad : Addr) (c : Nat) :
  (Builtin.append_ #[49, 49] 49 #[.slice (some ⟨g, 0, none⟩) 0 0, .slice (some ad) 0 c]).run Tryz.prog w = .ok (.slice (some ⟨g, 0, none⟩) 0 0) w := by
 obtain ⟨i0, hi, _⟩ := Option.map_eq_some_iff.1 Jz
 have := run_append_room_cells (P := Tryz.prog) w 49 49 79 i0 Tryz.underlying49 hi g 0 0 0 ad 0 c [] (by simp) (by simp) (by simp) (by omega) (by simp) (by simp)
 simpa [World.setCells] using this
theorem sl_none (n c : Nat) (w : World) : (binOp .eql 49 (.slice none n c) (.slice none 0 0)).run Tryz.prog w = .ok (.bool true) w := by kernel_rfl
theorem sl_some (ad : Addr) (n c : Nat) (w : World) : (binOp .eql 49 (.slice (some ad) n c) (.slice none 0 0)).run Tryz.prog w = .ok (.bool false) w := by kernel_rfl
set_option maxHeartbeats 4000000 in
set_option maxRecDepth 100000 in
theorem JC (A : Option Addr) (l : List Cel) (c : Nat) (W : World) (K : RowAt W 79 5 (.slice A l.length c) l.length (ze l)) (hl : l.length <= 1048576) : Calls Tryz.prog 60 #[.slice A l.length c] W fun e w' => ∃ v, e = .returned v /\ NewRow W.heap.size 79 5 v l.length (ze l) w' /\ Below W.heap.size W w' := by
 have SN := sl_none
 have SS := sl_some
 by_cases z : l.length = 0
 ·have e : l = [] := List.eq_nil_of_length_eq_zero z
  subst e
  cases A with
  | none =>
   clear K
   go_enter Tryz.func60, Tryz.ntmps60
   go_wp2_with fail
   go_ret
   exact ⟨_, rfl, ⟨Or.inl ⟨rfl, rfl, none, rfl⟩, fun g m => by simp [ob] at m⟩, Below.refl _ _⟩
  | some ad =>
   obtain ⟨V, hV⟩ : ∃ V, V = W.alloc (.cells #[] 79) := ⟨_, rfl⟩
   have BV : Below W.heap.size W V := by rw [hV]; exact (Below.refl _ W).alloc zdZ _
   have AP := zdF (w := V) (g := W.heap.size) (by rw [hV]; exact World.alloc_heap_new W _) ad c
   clear K
   go_enter Tryz.func60, Tryz.ntmps60
   go_upto_region 3 with fail
   have BV := zdX BV
   have AP := zdX AP
   have HV := zdX hV
   clear hV
   go_wp2_with (at_builtin; rw [<- HV.out]; refine xe rfl (.tmp 5) (.tmp 6) 49 49 rfl _ _ _ _ rfl rfl AP.out ?_)
   go_ret
   exact ⟨_, rfl, ⟨Or.inl ⟨rfl, rfl, _, rfl⟩, fun g m => by simp [ob] at m⟩, BV.out⟩
 ·have K0 := K
  obtain ⟨g, cap, ec, eo, ho, hc⟩ := K.slice (by omega)
  simp only [Value.slice.injEq] at ec
  obtain ⟨rfl, _, rfl⟩ := ec
  obtain ⟨V, hV⟩ : ∃ V, V = W.alloc (.cells #[] 79) := ⟨_, rfl⟩
  have BV : Below W.heap.size W V := by rw [hV]; exact (Below.refl _ W).alloc zdZ _
  obtain ⟨v', w', AP, B2, NR⟩ := zdE (w := V) (g := W.heap.size) (by rw [hV]; exact World.alloc_heap_new W _) ⟨g, 0, none⟩ l.length c (ze l) (by rw [jN]) (fun j u hj => by
   rw [jy, Nat.zero_add]
   have lj : j < l.length * 5 := by have := (List.getElem?_eq_some_iff.1 hj).1; rw [jN] at this; exact this
   obtain ⟨cur, hcu⟩ := xT ho
   exact (BV.cell (p := ⟨g, j, none⟩) (Array.getElem?_eq_some_iff.1 hcu).1).trans ((ho.cellAt j lj).trans hj)) hl (by omega)
  have NW : Hid (NewRow W.heap.size 79 5 v' l.length (ze l) w') := zdX ⟨NR.1, fun b m => Nat.le_trans BV.size (NR.2 b m)⟩
  have BB : Hid (Below W.heap.size W w') := zdX (BV.trans (B2.mono BV.size))
  have HV := zdX hV
  have AP := zdX AP
  clear K K0 eo ho hc hV BV B2 NR
  generalize ze l = xs at *
  generalize l.length = n at *
  go_enter Tryz.func60, Tryz.ntmps60
  go_wp2_with (at_builtin; rw [<- HV.out]; refine xe rfl (.tmp 5) (.tmp 6) 49 49 rfl _ _ _ _ rfl rfl AP.out ?_)
  go_ret
  exact ⟨_, rfl, NW.out, BB.out⟩
end
end
section
open Go Go.RowKit Go.Sort
section
variable {w0 : World} {F0 : List Nat} {tb : Nat} {t t' : Trm} {W W' : World}
def six (X : World) (r : Nat) (v0 v1 v2 v3 v4 v5 : Value) : World := (((((X.setCell ⟨r, 0, none⟩ v0).setCell ⟨r, 1, none⟩ v1).setCell ⟨r, 2, none⟩ v2).setCell ⟨r, 3, none⟩ v3).setCell ⟨r, 4, none⟩ v4).setCell ⟨r, 5, none⟩ v5
theorem zaB (X : World) (r : Nat) (v0 v1 v2 v3 v4 v5 : Value) : (∀ b, b ≠ r -> (six X r v0 v1 v2 v3 v4 v5).heap[b]? = X.heap[b]?) /\ (∀ W : World, Below r W X -> Below r W (six X r v0 v1 v2 v3 v4 v5)) /\ (∀ a b c d e f T, Bk X r [a, b, c, d, e, f] T -> Bk (six X r v0 v1 v2 v3 v4 v5) r [v0, v1, v2, v3, v4, v5] T) := by
 unfold six
 refine ⟨fun b hb => ?_, fun W h => ?_, fun a b c d e f T h => ?_⟩
 ·rw [heap_setCell_other _ ⟨r, 5, none⟩ b _ hb, heap_setCell_other _ ⟨r, 4, none⟩ b _ hb, heap_setCell_other _ ⟨r, 3, none⟩ b _ hb, heap_setCell_other _ ⟨r, 2, none⟩ b _ hb, heap_setCell_other _ ⟨r, 1, none⟩ b _ hb, heap_setCell_other _ ⟨r, 0, none⟩ b _ hb]
 ·exact (((((h.setCell (p := ⟨r, 0, none⟩) zdZ _).setCell (p := ⟨r, 1, none⟩) zdZ _).setCell (p := ⟨r, 2, none⟩) zdZ _).setCell (p := ⟨r, 3, none⟩) zdZ _).setCell (p := ⟨r, 4, none⟩) zdZ _).setCell (p := ⟨r, 5, none⟩) zdZ _
 ·exact (((((h.set 0 v0).set 1 v1).set 2 v2).set 3 v3).set 4 v4).set 5 v5
def cloS (B n : Nat) (xs : List Value) : Spec := ⟨fun v w => ∃ A c, v = .slice A n c /\ NewRow B 79 5 v n xs w, fun v w w' hb ⟨A, c, e, h⟩ => ⟨A, c, e, h.below hb⟩⟩
def aggS (B n : Nat) (xs : List Value) (w h : Int) : Spec := ⟨fun v W => ∃ A c, v = .agg #[.int .i64 w, .int .i64 h, .slice A n c, .int .i64 0, .int .i64 0, .bool false] /\ NewRow B 79 5 (.slice A n c) n xs W, fun v w w' hb ⟨A, c, e, h⟩ => ⟨A, c, e, h.below hb⟩⟩
def zscS (B : Nat) : Spec := ⟨fun v W => ∃ g, v = .pointer (some ⟨g, 0, none⟩) /\ B <= g /\ Bk W g [.int .i64 0, .int .i64 0, .slice none 0 0, .int .i64 0, .int .i64 0, .bool false] 51, fun v w w' hb ⟨g, e, h, k⟩ => ⟨g, e, h, k.of_eq (hb.block g k.lt)⟩⟩
set_option maxHeartbeats 8000000 in
set_option maxRecDepth 100000 in
theorem t_Screen (h : St w0 F0 tb t W) (f : Fine t) : Calls Tryz.prog 30 #[.pointer (some ⟨tb, 0, none⟩)] W fun e w' => ∃ A c, e = .returned (scrV (zY t) A c) /\ NewRow W.heap.size 79 5 (.slice A t.cells.length c) t.cells.length (ze t.cells) w' /\ Below W.heap.size W w' := by
 obtain ⟨W1, hW1⟩ : ∃ W1, W1 = W.alloc (.cells #[.int .i64 0, .int .i64 0, .slice none 0 0, .int .i64 0, .int .i64 0, .bool false] 51) := ⟨_, rfl⟩
 have B1 : Below W.heap.size W W1 := by rw [hW1]; exact (Below.refl _ W).alloc zdZ _
 have K1 : Bk W1 W.heap.size [.int .i64 0, .int .i64 0, .slice none 0 0, .int .i64 0, .int .i64 0, .bool false] 51 := by rw [hW1]; exact Bk.new W _ _
 have H := zdX (h.below B1)
 have cl8 : t.cells.length <= 1048576 := by have := f.cl; have := f.ar; omega
 obtain ⟨L, rfl, T, _⟩ := H.out.lay
 obtain ⟨A0, c0, e0⟩ := T.c.asSlice
 have TC := T.c
 rw [e0] at TC
 have k0 := fun d os => (T.own.regrown d os).c 0 _ rfl
 have k1 := fun d os => (T.own.regrown d os).c 1 _ rfl
 have k2 := fun d os => (T.own.regrown d os).c 2 _ rfl
 rw [e0] at k2
 have CL : Hid (∀ d os, Calls Tryz.prog 60 #[.slice A0 t.cells.length c0] (grow (redrawn W1 d) os) fun e w' => ∃ v, e = .returned v /\ (cloS W1.heap.size t.cells.length (ze t.cells)).r v w' /\ Below (grow (redrawn W1 d) os).heap.size (grow (redrawn W1 d) os) w') := zdX (fun d os => by
  have B := below_regrown W1 d os
  refine (JC A0 t.cells c0 _ (TC.keep (fun g m => B.block g (TC.lt g m))) cl8).mono ?_
  rintro e w' ⟨v, rfl, nr, hb2⟩
  obtain ⟨A, c, ev⟩ := nr.1.asSlice
  exact ⟨v, rfl, ⟨A, c, ev, nr.1, fun g m => Nat.le_trans B.size (nr.2 g m)⟩, hb2⟩)
 have FH := zdX f
 have B1 := zdX B1
 have K1 := zdX K1
 clear h f T e0 TC
 go_enter Tryz.func30, Tryz.ntmps30
 go_upto_region 1 with fail
 rw [<- hW1]
 clear hW1
 go_upto_region 3 with fail
 refine vG 18 [(22, cloS W1.heap.size t.cells.length (ze t.cells)), (23, aggS W1.heap.size t.cells.length (ze t.cells) t.w t.h), (3, zscS W1.heap.size)] [3, 22, 23] (by kernel_rfl) (by kernel_rfl) (by kernel_rfl) (by intro t ht; simp at ht; rcases ht with rfl | rfl | rfl <;> (intro h; cases h)) ?_
 simp only [zd0, zd1, zd2, zd3]
 repeat (refine kN (by rfl) (fun K hK => ?_); go_simp; first | (refine hK _ ?_; clear hK K) | (apply Exists.intro; refine ⟨fun _ => ?_, hK _ ?_⟩; (fail); clear hK K))
 refine xQ 22 rfl (by simp) (by first | (simp; done) | simp [qm]) (by rfl) (by rfl) (by intro _ _ h; cases h) (fun x => ?_) ?_
 ·go_simp
  exact ⟨Below.refl _ _, CL.out x.d x.os⟩
 refine vc 22 23 (by simp) (by first | (simp; done) | simp [qm]) (by rfl) rfl (by simp) (by first | (simp; done) | simp [qm]) (by rfl) (by rfl) (by rfl) (by intro _ _ h; cases h) (fun x u hu => ?_) ?_
 ·obtain ⟨A, c, rfl, h1⟩ := hu
  go_simp
  exact ⟨Below.refl _ _, A, c, rfl, h1⟩
 refine xQ 3 rfl (by simp) (by first | (simp; done) | simp [qm]) (by rfl) (by rfl) (by intro _ _ h; cases h) (fun x => ?_) ?_
 ·go_simp
  exact ⟨(Below.refl _ _).alloc zdZ _, ⟨_, rfl, by simp [redrawn], by rw [show (redrawn W1 x.d).heap.size + x.os.size = (grow (redrawn W1 x.d) x.os).heap.size by simp [grow]]; exact Bk.new _ _ _⟩⟩
 refine vF ?_
 intro W2 vs1 hl hv
 obtain ⟨A22, c22, e22, _⟩ := hv 22 (by simp) rfl
 obtain ⟨A, c, e23, NR⟩ := hv 23 (by simp) rfl
 obtain ⟨g, e3, gl, KG⟩ := hv 3 (by simp) rfl
 simp only [qo, e22, e23, e3]
 have hb1 := xo.1 hl
 have H2 := zdX (H.out.below hb1)
 have K2 := zdX (K1.out.of_eq (hb1.block _ K1.out.lt))
 have B2 := zdX (B1.out.trans (hb1.mono B1.out.size))
 have j0 := KG.c 0 _ rfl
 have j1 := KG.c 1 _ rfl
 have j2 := KG.c 2 _ rfl
 have j3 := KG.c 3 _ rfl
 have j4 := KG.c 4 _ rfl
 have j5 := KG.c 5 _ rfl
 have f0 := KG.f 0
 have f1 := KG.f 1
 have f2 := KG.f 2
 have f3 := KG.f 3
 have f4 := KG.f 4
 have f5 := KG.f 5
 obtain ⟨V, hV⟩ : ∃ V, V = (((((W2.setCell ⟨g, 0, none⟩ (.int .i64 t.w)).setCell ⟨g, 1, none⟩ (.int .i64 t.h)).setCell ⟨g, 2, none⟩ (.slice A t.cells.length c)).setCell ⟨g, 3, none⟩ (.int .i64 0)).setCell ⟨g, 4, none⟩ (.int .i64 0)).setCell ⟨g, 5, none⟩ (.bool false) := ⟨_, rfl⟩
 have KV : Bk V g [.int .i64 t.w, .int .i64 t.h, .slice A t.cells.length c, .int .i64 0, .int .i64 0, .bool false] 51 := by
  rw [hV]
  exact (((((KG.set 0 _).set 1 _).set 2 _).set 3 _).set 4 _).set 5 _
 have BV : Below W1.heap.size W1 V := by
  rw [hV]
  exact (((((hb1.setCell (p := ⟨g, 0, none⟩) gl _).setCell (p := ⟨g, 1, none⟩) gl _).setCell (p := ⟨g, 2, none⟩) gl _).setCell (p := ⟨g, 3, none⟩) gl _).setCell (p := ⟨g, 4, none⟩) gl _).setCell (p := ⟨g, 5, none⟩) gl _
 have FV : ∀ b, b ≠ g -> V.heap[b]? = W2.heap[b]? := fun b hb => by
  rw [hV, heap_setCell_other _ ⟨g, 5, none⟩ b _ hb, heap_setCell_other _ ⟨g, 4, none⟩ b _ hb, heap_setCell_other _ ⟨g, 3, none⟩ b _ hb, heap_setCell_other _ ⟨g, 2, none⟩ b _ hb, heap_setCell_other _ ⟨g, 1, none⟩ b _ hb, heap_setCell_other _ ⟨g, 0, none⟩ b _ hb]
 have ng : ∀ b ∈ ob (.slice A t.cells.length c), b ≠ g /\ b ≠ W.heap.size := fun b m => by
  obtain ⟨cur, q⟩ := NR.1.kind b m
  exact ⟨KG.ne q (by decide), K2.out.ne q (by decide)⟩
 have NV : NewRow W1.heap.size 79 5 (.slice A t.cells.length c) t.cells.length (ze t.cells) V := ⟨NR.1.keep (fun b m => FV b (ng b m).1), NR.2⟩
 have glt : W.heap.size < g := by have := K1.out.lt; omega
 have HV := zdX (H.out.below BV)
 have KW := zdX (K1.out.of_eq (BV.block _ K1.out.lt))
 have BW := zdX (B1.out.trans (BV.mono B1.out.size))
 have NV := zdX NV
 have NG := zdX ng
 have KV := zdX KV
 have GL := zdX glt
 have W1S := zdX B1.out.size
 clear hl hv e22 e23 e3 k0 k1 k2 CL hb1 H K1 K2 B2 KG gl BV FV ng NR H2 B1 glt
 go_upto_region 4 with fail
 rw [<- hV]
 clear hV j0 j1 j2 j3 j4 j5 f0 f1 f2 f3 f4 f5
 obtain ⟨L9, B9⟩ := HV.out.bk
 have k0 := B9.c 0 _ rfl
 have k1 := B9.c 1 _ rfl
 have k19 := B9.c 19 _ rfl
 have k3 := B9.c 3 _ rfl
 have k4 := B9.c 4 _ rfl
 have fw0 := FH.out.w0
 have fh0 := FH.out.h0
 have mm : 0 <= t.w * t.h /\ t.w * t.h <= 1048576 := ⟨Int.mul_nonneg fw0 fh0, FH.out.ar⟩
 have m1 := zdY (t.w * t.h) (by omega)
 clear B9 fw0 fh0 mm
 have FIN : Hid (∀ (X : World) (x y : Int) (s : Bool), (∀ b, b ≠ g -> X.heap[b]? = V.heap[b]?) -> Below W.heap.size W X ->
   NewRow W.heap.size 79 5 (.slice A t.cells.length c) t.cells.length (ze t.cells) (six X W.heap.size (.int .i64 t.w) (.int .i64 t.h) (.slice A t.cells.length c) (.int .i64 x) (.int .i64 y) (.bool s)) /\ Below W.heap.size W (six X W.heap.size (.int .i64 t.w) (.int .i64 t.h) (.slice A t.cells.length c) (.int .i64 x) (.int .i64 y) (.bool s))) := zdX (fun X x y s hX hB => by
  obtain ⟨q1, q2, q3⟩ := zaB X W.heap.size (.int .i64 t.w) (.int .i64 t.h) (.slice A t.cells.length c) (.int .i64 x) (.int .i64 y) (.bool s)
  exact ⟨⟨NV.out.1.keep (fun b m => (q1 b (NG.out b m).2).trans (hX b (NG.out b m).1)), fun b m => Nat.le_trans W1S.out (NV.out.2 b m)⟩, q2 W hB⟩)
 have ES : Hid (zY t = if t.shown = true /\ 0 < t.w * t.h then ⟨t.w, t.h, t.cells, t.cur.x, t.cur.y, true⟩ else ⟨t.w, t.h, t.cells, 0, 0, false⟩) := zdX rfl
 have KG := KV
 generalize hm : t.cells.length = m at *
 cases sh : t.shown with
 | false =>
  rw [sh] at k19
  have ES2 : Hid (zY t = ⟨t.w, t.h, t.cells, 0, 0, false⟩) := zdX (by rw [ES.out, if_neg (by rw [sh]; simp)])
  have j0 := KV.out.c 0 _ rfl
  have j1 := KV.out.c 1 _ rfl
  have j2 := KV.out.c 2 _ rfl
  have j3 := KV.out.c 3 _ rfl
  have j4 := KV.out.c 4 _ rfl
  have j5 := KV.out.c 5 _ rfl
  have n0 := KW.out.c 0 _ rfl
  have n1 := KW.out.c 1 _ rfl
  have n2 := KW.out.c 2 _ rfl
  have n3 := KW.out.c 3 _ rfl
  have n4 := KW.out.c 4 _ rfl
  have n5 := KW.out.c 5 _ rfl
  have nf0 := KW.out.f 0
  have nf1 := KW.out.f 1
  have nf2 := KW.out.f 2
  have nf3 := KW.out.f 3
  have nf4 := KW.out.f 4
  have nf5 := KW.out.f 5
  refine jX 17 (by kernel_rfl) (by kernel_rfl) ?_
  simp only [zd0, zd1, zd2, zd3]
  repeat (first | go_big_quiet_step (fail) | quiet_step (fail))
  refine wpQuiet_nil ?_
  intro _ hw'
  obtain ⟨nq, hw''⟩ := hw'
  subst hw''
  have FI := zdX (FIN.out (V.drewN nq) 0 0 false (fun b _ => rfl) (below_drewN BW.out nq))
  clear FIN
  go_wp2_with fail
  refine bodyPost_ret (v := .agg #[.int .i64 t.w, .int .i64 t.h, .slice A m c, .int .i64 0, .int .i64 0, .bool false]) (by rw [ZJ rfl]; go_simp) rfl ?_
  refine ⟨A, c, ?_, ?_, FI.out.2⟩
  ·rw [ES2.out, <- hm]; rfl
  ·first | exact FI.out.1 | (rw [hm]; exact FI.out.1)
 | true =>
  rw [sh] at k19
  have j0 := KV.out.c 0 _ rfl
  have j1 := KV.out.c 1 _ rfl
  have j2 := KV.out.c 2 _ rfl
  have j3 := KV.out.c 3 _ rfl
  have j4 := KV.out.c 4 _ rfl
  have j5 := KV.out.c 5 _ rfl
  have n0 := KW.out.c 0 _ rfl
  have n1 := KW.out.c 1 _ rfl
  have n2 := KW.out.c 2 _ rfl
  have n3 := KW.out.c 3 _ rfl
  have n4 := KW.out.c 4 _ rfl
  have n5 := KW.out.c 5 _ rfl
  have nf0 := KW.out.f 0
  have nf1 := KW.out.f 1
  have nf2 := KW.out.f 2
  have nf3 := KW.out.f 3
  have nf4 := KW.out.f 4
  have nf5 := KW.out.f 5
  refine jX 17 (by kernel_rfl) (by kernel_rfl) ?_
  simp only [zd0, zd1, zd2, zd3]
  repeat (first | go_big_quiet_step (fail) | quiet_step (fail))
  refine wpQuiet_nil ?_
  intro _ hw'
  obtain ⟨nq, hw''⟩ := hw'
  subst hw''
  by_cases ar : 0 < t.w * t.h
  ·have ES2 : Hid (zY t = ⟨t.w, t.h, t.cells, t.cur.x, t.cur.y, true⟩) := zdX (by rw [ES.out, if_pos ⟨sh, ar⟩])
   obtain ⟨X, hX⟩ : ∃ X, X = V.drewN nq := ⟨_, rfl⟩
   have KX : Bk X g [.int .i64 t.w, .int .i64 t.h, .slice A m c, .int .i64 0, .int .i64 0, .bool false] 51 := by rw [hX]; exact KV.out
   have KXW : Bk X W.heap.size [.int .i64 0, .int .i64 0, .slice none 0 0, .int .i64 0, .int .i64 0, .bool false] 51 := by rw [hX]; exact KW.out
   have KT : ∃ Lx, Bk X L.b (trmV t Lx) 104 := by rw [hX]; exact (HV.out.below (below_drewN (Below.refl _ _) nq)).bk
   have BX : Below W.heap.size W X := by rw [hX]; exact below_drewN BW.out nq
   have EX : ∀ b, b ≠ g -> X.heap[b]? = V.heap[b]? := fun b _ => by rw [hX]; rfl
   rw [<- hX]
   obtain ⟨LX, BT⟩ := KT
   have KX2 : Hid (Bk ((((X.setCell ⟨g, 3, none⟩ (.int .i64 t.cur.x)).setCell ⟨g, 4, none⟩ (.int .i64 t.cur.y)).setCell ⟨g, 5, none⟩ (.bool true))) g [.int .i64 t.w, .int .i64 t.h, .slice A m c, .int .i64 t.cur.x, .int .i64 t.cur.y, .bool true] 51) := zdX (((KX.set 3 _).set 4 _).set 5 _)
   have FI := zdX (FIN.out ((((X.setCell ⟨g, 3, none⟩ (.int .i64 t.cur.x)).setCell ⟨g, 4, none⟩ (.int .i64 t.cur.y)).setCell ⟨g, 5, none⟩ (.bool true)).drew) t.cur.x t.cur.y true (fun b hb => by
    show ((((X.setCell ⟨g, 3, none⟩ (.int .i64 t.cur.x)).setCell ⟨g, 4, none⟩ (.int .i64 t.cur.y)).setCell ⟨g, 5, none⟩ (.bool true))).heap[b]? = _
    rw [heap_setCell_other _ ⟨g, 5, none⟩ b _ hb, heap_setCell_other _ ⟨g, 4, none⟩ b _ hb, heap_setCell_other _ ⟨g, 3, none⟩ b _ hb]
    exact EX b hb) ((((BX.setCell (p := ⟨g, 3, none⟩) (Nat.le_of_lt GL.out) _).setCell (p := ⟨g, 4, none⟩) (Nat.le_of_lt GL.out) _).setCell (p := ⟨g, 5, none⟩) (Nat.le_of_lt GL.out) _).drew))
   clear FIN EX BX k0 k1 k19 k3 k4 j0 j1 j2 j3 j4 j5 n0 n1 n2 n3 n4 n5 nf0 nf1 nf2 nf3 nf4 nf5 m1
   have k3 := BT.c 3 _ rfl
   have k4 := BT.c 4 _ rfl
   have k3d : X.drew.cell? ⟨L.b, 3, none⟩ = some (.int .i64 t.cur.x) := k3
   have k4d : X.drew.cell? ⟨L.b, 4, none⟩ = some (.int .i64 t.cur.y) := k4
   have j3 := KX.c 3 _ rfl
   have j4 := KX.c 4 _ rfl
   have j5 := KX.c 5 _ rfl
   have jf3 := KX.f 3
   have jf4 := KX.f 4
   have jf5 := KX.f 5
   have j3d : X.drew.cell? ⟨g, 3, none⟩ = some (.int .i64 0) := j3
   have j4d : X.drew.cell? ⟨g, 4, none⟩ = some (.int .i64 0) := j4
   have j5d : X.drew.cell? ⟨g, 5, none⟩ = some (.bool false) := j5
   have jf3d : X.drew.frozen? ⟨g, 3, none⟩ = false := jf3
   have jf4d : X.drew.frozen? ⟨g, 4, none⟩ = false := jf4
   have jf5d : X.drew.frozen? ⟨g, 5, none⟩ = false := jf5
   have KX := zdX KX
   have KXW := zdX KXW
   have ng : g ≠ L.b := fun z => by
    have q := KX.out
    rw [z] at q
    unfold Bk at q
    exact BT.ne q (by decide) rfl
   have ng2 : L.b ≠ g := fun z => ng z.symm
   clear BT hX
   go_upto_region 5 with fail
   go_region
   obtain ⟨Z, hZ⟩ : ∃ Z, Z = ((((X.setCell ⟨g, 3, none⟩ (.int .i64 t.cur.x)).setCell ⟨g, 4, none⟩ (.int .i64 t.cur.y)).setCell ⟨g, 5, none⟩ (.bool true))).drew := ⟨_, rfl⟩
   have KZ : Bk Z g [.int .i64 t.w, .int .i64 t.h, .slice A m c, .int .i64 t.cur.x, .int .i64 t.cur.y, .bool true] 51 := by rw [hZ]; exact KX2.out
   have ngw : W.heap.size ≠ g := by have := GL.out; omega
   have KZW : Bk Z W.heap.size [.int .i64 0, .int .i64 0, .slice none 0 0, .int .i64 0, .int .i64 0, .bool false] 51 := by
    refine KXW.out.of_eq ?_
    rw [hZ]
    show ((((X.setCell ⟨g, 3, none⟩ (.int .i64 t.cur.x)).setCell ⟨g, 4, none⟩ (.int .i64 t.cur.y)).setCell ⟨g, 5, none⟩ (.bool true))).heap[W.heap.size]? = _
    rw [heap_setCell_other _ ⟨g, 5, none⟩ _ _ ngw, heap_setCell_other _ ⟨g, 4, none⟩ _ _ ngw, heap_setCell_other _ ⟨g, 3, none⟩ _ _ ngw]
   rw [<- hZ]
   rw [<- hZ] at FI
   clear hZ k3 k4 k3d k4d j3 j4 j5 jf3 jf4 jf5 j3d j4d j5d jf3d jf4d jf5d ng ng2 ngw
   have j0 := KZ.c 0 _ rfl
   have j1 := KZ.c 1 _ rfl
   have j2 := KZ.c 2 _ rfl
   have j3 := KZ.c 3 _ rfl
   have j4 := KZ.c 4 _ rfl
   have j5 := KZ.c 5 _ rfl
   have n0 := KZW.c 0 _ rfl
   have n1 := KZW.c 1 _ rfl
   have n2 := KZW.c 2 _ rfl
   have n3 := KZW.c 3 _ rfl
   have n4 := KZW.c 4 _ rfl
   have n5 := KZW.c 5 _ rfl
   have nf0 := KZW.f 0
   have nf1 := KZW.f 1
   have nf2 := KZW.f 2
   have nf3 := KZW.f 3
   have nf4 := KZW.f 4
   have nf5 := KZW.f 5
   clear KZ KZW
   go_wp2_with fail
   refine bodyPost_ret (v := .agg #[.int .i64 t.w, .int .i64 t.h, .slice A m c, .int .i64 t.cur.x, .int .i64 t.cur.y, .bool true]) (by rw [ZJ rfl]; go_simp) rfl ?_
   refine ⟨A, c, ?_, ?_, FI.out.2⟩
   ·rw [ES2.out, <- hm]; rfl
   ·first | exact FI.out.1 | (rw [hm]; exact FI.out.1)
  ·have ES2 : Hid (zY t = ⟨t.w, t.h, t.cells, 0, 0, false⟩) := zdX (by rw [ES.out, if_neg (by rintro ⟨_, z⟩; exact ar z)])
   have FI := zdX (FIN.out (V.drewN nq) 0 0 false (fun b _ => rfl) (below_drewN BW.out nq))
   clear FIN
   go_wp2_with fail
   refine bodyPost_ret (v := .agg #[.int .i64 t.w, .int .i64 t.h, .slice A m c, .int .i64 0, .int .i64 0, .bool false]) (by rw [ZJ rfl]; go_simp) rfl ?_
   refine ⟨A, c, ?_, ?_, FI.out.2⟩
   ·rw [ES2.out, <- hm]; rfl
   ·first | exact FI.out.1 | (rw [hm]; exact FI.out.1)
end
end
section
open Go Go.RowKit Go.Sort
section
variable {W W' : World}
theorem celsV_at (l : List Cel) (k : Nat) (h : k < l.length) (j : Nat) (hj : j < 5) : (ze l)[k * 5 + j]? = (celV (l.getD k celD))[j]? := by
 have e := zcl l k
 have e2 : (ze l)[k * 5 + j]? = ((ze l).drop (k * 5))[j]? := by rw [List.getElem?_drop]
 rw [e2, <- e, List.drop_eq_getElem_cons h, jI, List.getElem?_append_left (by show j < 5; exact hj), List.getD_eq_getElem?_getD, List.getElem?_eq_getElem h]
 rfl
theorem zdG (W : World) : KeptAt W (.slice none 0 0) zB := ⟨none, 0, rfl, zdZ, by decide, fun _ => rfl, fun h => absurd h (Nat.lt_irrefl 0)⟩
end
end
section
open Go Go.RowKit Go.Sort
section
variable {W W' : World}
theorem kA {W W' : World} (h : Mv [] W W') : Below W.heap.size W W' := ⟨h.os, h.tape, h.output, h.size, fun k hk => h.blk k hk (by simp)⟩
end
end
section
open Go Go.RowKit Go.Sort
section
variable {W W' : World}
end
end
end Go.Proofs.YtmaofighbpnbiaaGreatDoor
