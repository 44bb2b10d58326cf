/- TapeDecodes: the walk. -/
import Derived.Test.YtmaofighbpnbiaaGreatDoorTaEH
import Derived.Test.YtmaofighbpnbiaaGreatDoorTaEQ
import Derived.Test.YtmaofighbpnbiaaGreatDoorTaER
set_option linter.unusedVariables false
set_option linter.unusedSimpArgs false
namespace Go.Proofs.YtmaofighbpnbiaaGreatDoor
section
open Go Go.RowKit Go.Sort
section
theorem bs_flatL {l : List Frm} {f : Frm} (m : f ∈ l) : f.bs.length <= (l.flatMap (·.bs)).length := by
 induction l with
 | nil => cases m
 | cons y l ih =>
  rw [List.flatMap_cons, List.length_append]
  rcases List.mem_cons.1 m with rfl | m
  ·omega
  ·have := ih m; omega
set_option maxHeartbeats 32000000 in
set_option maxRecDepth 100000 in
theorem zdx (A : Option Addr) (c : Nat) (D : List Int) (W : World) (E : EnvV W) (BD : ByteD W W.heap.size ⟨A, c, D⟩) (room : D.length + 4096 <= 140737488355328) :
  Calls Tryz.prog 4 #[.slice A D.length c] W fun e w' => e = .returned (.bool true) /\ Below W.heap.size W w' := by
 have RD := r_Decode A c D W.heap.size W BD zdA
 unfold DcR at RD
 have dlen := dec_len BD.rng
 obtain ⟨d, hd⟩ : ∃ d, decT D = d := ⟨_, rfl⟩
 rw [hd] at RD dlen
 have HDT := zdy hd
 obtain ⟨dw, dh, dl, dk, dp⟩ := d
 dsimp only at RD dlen
 have HDL := zdy dlen
 have HBD := zdy BD
 have HE := zdy E
 obtain ⟨n, hn⟩ : ∃ n, n = D.length := ⟨_, rfl⟩
 have HN := zdy hn
 have HRO := zdy room
 rw [<- hn] at RD room ⊢
 have RD := zdy RD
 clear E BD hn hd dlen
 go_enter Tryz.func4, Tryz.ntmps4
 go_wp2_with fail
 refine RD.out.mono ?_; rintro e V1 ⟨vl, Ml, rfl, B1, R1, F1⟩
 obtain ⟨Al, cl, el⟩ := R1.slc
 subst el
 have ml : Ml.length = dl.length := by rw [<- F1, KP]
 have FW := R1.frs (by have := HDL.out.1; omega) (fun x m => by
  have h1 : (⟨x.at_, x.bs⟩ : Frm) ∈ dl := by rw [<- F1]; exact List.mem_map_of_mem (f := fun x : RM => (⟨x.at_, x.bs⟩ : Frm)) m
  have h2 : x.bs.length <= (dl.flatMap (·.bs)).length := bs_flatL h1
  have := HDL.out.2
  omega)
 obtain ⟨m1, hm1⟩ : ∃ m1, m1 = Ml.length := ⟨_, rfl⟩
 have HM1 := zdy hm1
 rw [Nat.add_zero, <- hm1] at R1 ⊢
 have HFW := zdy FW
 have HML := zdy ml
 have HFE : Hid (frms (Ml.map RM.fa) = dl) := zdy ((rmF_fa Ml).trans F1)
 have HB1 := zdy B1
 obtain ⟨Q1, hQ1⟩ : ∃ Q1, Q1 = V1.alloc (.cells #[.int .i64 dw, .int .i64 dh] 23) := ⟨_, rfl⟩
 have q1 : Below V1.heap.size V1 Q1 := by rw [hQ1]; exact (Below.refl _ _).alloc zdA _
 have HK1 := zdy (show Bk Q1 V1.heap.size [.int .i64 dw, .int .i64 dh] 23 by rw [hQ1]; exact Bk.new _ _ _)
 have HC1 := zdy q1
 have HQ1 := zdy hQ1
 have BQ1 := HB1.out.trans (q1.mono HB1.out.size)
 have HBQ := zdy BQ1
 obtain ⟨g0, c0, X0, R, o0, b0⟩ := KN (HBD.out.below BQ1 zdA) (BQ1.size) 0
 dsimp only at R
 rw [<- HN.out] at R
 have HO0 := zdy o0
 have HX0 := zdy b0
 clear RD R1 F1 B1 ml FW hm1 hQ1 q1 BQ1 o0 b0
 go_upto_region 2 with fail
 rw [<- HQ1.out]
 clear HQ1
 go_wp2_with (first | (at_builtin; refine xo rfl (.tmp 28) (.tmp 29) 27 27 rfl _ _ _ _ rfl rfl R ?_) | fail)
 clear R
 go_loopw [7, 8] (fun s7 s8 wr => ∃ (i g c' : Nat), i <= 9 /\ s7 = .slice (some ⟨g, 0, none⟩) (n + i) c' /\ s8 = .int .i64 (i : Int) /\ Hid (OneR wr Q1.heap.size ⟨0, g, c', D ++ List.replicate i 165, []⟩) /\ Hid (Below Q1.heap.size Q1 wr)) (fun _ s8 _ => 9 - (intOf s8).toNat)
 case atStart => exact ⟨0, g0, c0, Nat.zero_le _, rfl, rfl, zdy (by rw [List.replicate_zero, List.append_nil]; exact HO0.out), HX0⟩
 case round =>
  obtain ⟨i, g, c', hi, rfl, rfl, ho, hb⟩ := hrel
  clear HO0 HX0
  by_cases lt : i < 9
  ·obtain ⟨g2, c2, w3, R, o2, b2⟩ := app_mark ho.out hb.out.size HRO.out lt
   rw [<- HN.out] at R
   have HO2 := zdy o2
   have HB2 := zdy (hb.out.trans b2)
   have q5 : (i : Int) < 9 := by omega
   have wk := zdz ((i : Int) + 1) (by omega)
   clear o2 b2 ho
   go_wp2_with (first | (at_builtin; refine xo rfl (.tmp 35) (.tmp 36) 27 27 rfl _ _ _ _ rfl rfl R ?_) | fail)
   go_roundw
   case rel => exact ⟨i + 1, g2, c2, by omega, rfl, by go_num, HO2, HB2⟩
   case measure => simp [intOf]; omega
  ·have e : i = 9 := by omega
   subst e
   have q5 : ¬ ((9 : Nat) : Int) < 9 := by omega
   obtain ⟨X, hX⟩ : ∃ X, X = wr := ⟨_, rfl⟩
   subst hX
   have ol := ho.out.lt
   simp only [List.append_nil, List.length_append, List.length_replicate] at ol
   rw [<- HN.out] at ol
   have HG := zdy ol.2.1
   have x2 : (n : Int) <= (c' : Int) := by omega
   have x1 : (0 : Int) <= (n : Int) := by omega
   have BM := ho.out.byteD HBD.out.rng (by have := HRO.out; omega)
   have HBM := zdy BM
   have TD := QV (some ⟨g, 0, none⟩) c' D X.heap.size X BM zdA
   unfold DecR at TD
   rw [<- HN.out, HDT.out] at TD
   dsimp only at TD
   have TD := zdy TD
   clear ol BM lt hi
   go_wp2_with fail
   refine TD.out.mono ?_; rintro e V4 ⟨va, rfl, Ca⟩
   obtain ⟨Sa, ga, fa, oka⟩ := Ca.segs (by have := HDL.out.2; omega)
   obtain ⟨Aa, ca, ea⟩ := xq ga.own
   subst ea
   have la : (segF Sa).length = m1 := by rw [zaM fa, HM1.out, HML.out]
   rw [la] at ga ⊢
   have HGA := zdy ga
   have HFA := zdy fa
   have HOKA := zdy oka
   have HLA := zdy la
   have HC4 := zdy Ca.1
   obtain ⟨Q4, hQ4⟩ : ∃ Q4, Q4 = V4.alloc (.cells #[.int .i64 dw, .int .i64 dh] 23) := ⟨_, rfl⟩
   have q4 : Below V4.heap.size V4 Q4 := by rw [hQ4]; exact (Below.refl _ _).alloc zdA _
   have HK4 := zdy (show Bk Q4 V4.heap.size [.int .i64 dw, .int .i64 dh] 23 by rw [hQ4]; exact Bk.new _ _ _)
   have HC4q := zdy q4
   have HQ4 := zdy hQ4
   have X4 := HC4.out.trans (q4.mono HC4.out.size)
   have HX4 := zdy X4
   have TE := QV (some ⟨g, 0, none⟩) c' D X.heap.size Q4 (HBM.out.below X4 zdA) X4.size
   unfold DecR at TE
   rw [<- HN.out, HDT.out] at TE
   dsimp only at TE
   have TE := zdy TE
   clear TD Ca ga fa oka la hQ4 q4 X4
   go_upto_region 8 with fail
   rw [<- HQ4.out]
   clear HQ4
   go_wp2_with fail
   refine TE.out.mono ?_; rintro e V5 ⟨vb, rfl, Cb⟩
   obtain ⟨Sb, gb, fb, okb⟩ := Cb.segs (by have := HDL.out.2; omega)
   obtain ⟨Ab, cb, eb⟩ := xq gb.own
   subst eb
   have lb : (segF Sb).length = m1 := by rw [zaM fb, HM1.out, HML.out]
   rw [lb] at gb ⊢
   have HGB := zdy gb
   have HFB := zdy fb
   have HLB := zdy lb
   have HC5 := zdy Cb.1
   obtain ⟨Q5, hQ5⟩ : ∃ Q5, Q5 = V5.alloc (.cells #[.int .i64 dw, .int .i64 dh] 23) := ⟨_, rfl⟩
   have q5' : Below V5.heap.size V5 Q5 := by rw [hQ5]; exact (Below.refl _ _).alloc zdA _
   have HK5 := zdy (show Bk Q5 V5.heap.size [.int .i64 dw, .int .i64 dh] 23 by rw [hQ5]; exact Bk.new _ _ _)
   have HC5q := zdy q5'
   have HQ5 := zdy hQ5
   have B45 := HC4q.out.trans ((HC5.out.trans (q5'.mono HC5.out.size)).mono HC4q.out.size)
   have HB45 := zdy B45
   have X5 := HX4.out.trans ((HC5.out.trans (q5'.mono HC5.out.size)).mono HX4.out.size)
   have HX5 := zdy X5
   have VX := zdy (show Q1.heap.size <= X.heap.size from hb.out.size)
   have V15 := HC1.out.trans ((hb.out.trans (X5.mono hb.out.size)).mono HC1.out.size)
   have FW5 := zdy (HFW.out.below V15 zdA)
   have HV15 := zdy V15
   have fra := ((HGA.out.below B45).frs (by rw [HLA.out, HM1.out, HML.out]; have := HDL.out.1; omega)).2
   have SM1 := ZI Aa Al ca cl (segF Sa) (Ml.map RM.fa) Q5.heap.size V1.heap.size Q5 fra FW5.out zdA V15.size
   rw [HLA.out, List.length_map, <- HM1.out] at SM1
   have SM1 : Hid (Calls Tryz.prog 21 #[.slice Aa m1 ca, .slice Al m1 cl] Q5 fun e w' => e = .returned (.bool true) /\ Below Q5.heap.size Q5 w') := zdy (SM1.mono (fun e' w' ⟨b, e1, e2, e3⟩ => ⟨by rw [e1, e2.2 (HFA.out.trans HFE.out.symm)], e3⟩))
   clear TE Cb gb fb okb lb hQ5 q5' B45 X5 V15 fra
   go_upto_region 9 with fail
   rw [<- HQ5.out]
   clear HQ5
   go_wp2_with fail
   refine SM1.out.mono ?_; rintro e V6 ⟨rfl, B6⟩
   have frb := (((HGB.out.below HC5q.out).below B6).frs (by rw [HLB.out, HM1.out, HML.out]; have := HDL.out.1; omega)).2
   have SM2 := ZI Ab Al cb cl (segF Sb) (Ml.map RM.fa) V6.heap.size V1.heap.size V6 frb (FW5.out.below B6 HV15.out.size) zdA (Nat.le_trans HV15.out.size B6.size)
   rw [HLB.out, List.length_map, <- HM1.out] at SM2
   have SM2 : Hid (Calls Tryz.prog 21 #[.slice Ab m1 cb, .slice Al m1 cl] V6 fun e w' => e = .returned (.bool true) /\ Below V6.heap.size V6 w') := zdy (SM2.mono (fun e' w' ⟨b, e1, e2, e3⟩ => ⟨by rw [e1, e2.2 (HFB.out.trans HFE.out.symm)], e3⟩))
   have HB6 := zdy B6
   clear SM1 frb B6
   go_wp2_with fail
   refine SM2.out.mono ?_; rintro e V7 ⟨rfl, B7⟩
   have B57 := HB6.out.trans (B7.mono HB6.out.size)
   have HB57 := zdy B57
   have B47 := HB45.out.trans (B57.mono HB45.out.size)
   have HB47 := zdy B47
   have HX7 := zdy (HX5.out.trans (B57.mono HX5.out.size))
   have K1 := (HK1.out.of_eq ((hb.out.trans ((HX5.out.trans (B57.mono HX5.out.size)).mono hb.out.size)).block _ HK1.out.lt))
   have K4 := (HK4.out.of_eq ((HC5.out.trans ((HC5q.out.trans (B57.mono HC5q.out.size)).mono HC5.out.size)).block _ HK4.out.lt))
   have K5 := (HK5.out.of_eq (B57.block _ HK5.out.lt))
   have r0 := K1.c 0 _ rfl
   have r1 := K1.c 1 _ rfl
   have s0 := K4.c 0 _ rfl
   have s1 := K4.c 1 _ rfl
   have t0 := K5.c 0 _ rfl
   have t1 := K5.c 1 _ rfl
   have OV := law_over HGA.out B47 (by rw [HM1.out, HML.out]; exact HDL.out.1) (fun x m => (HOKA.out x m).1)
   have OV := zdy OV
   clear SM2 B7 B57 B47 HB6 K1 K4 K5 HK1 HK4 HK5
   go_wp2_with fail
   refine OV.out.mono ?_; rintro e V8 ⟨rfl, O8⟩
   have o8 : OneR V8 Q1.heap.size ⟨0, g, c', D ++ List.replicate 9 165, []⟩ := ho.out.keep ((O8.far g (Nat.lt_of_lt_of_le HG.out HX7.out.size) (Or.inl HG.out)).trans (HX7.out.block g HG.out))
   have HO8 := zdy O8
   have Ho8 := zdy o8
   clear OV O8 o8 r0 r1 s0 s1 t0 t1
   go_wp2_with fail
   go_loopw [19] (fun s19 wr => ∃ (i : Nat), i <= 9 /\ s19 = .int .i64 (i : Int) /\ wr = V8) (fun s19 _ => 9 - (intOf s19).toNat)
   case atStart => exact ⟨0, Nat.zero_le _, rfl, rfl⟩
   case round =>
    obtain ⟨i, hi, rfl, rfl⟩ := hrel
    by_cases lt : i < 9
    ·have q5 : (i : Int) < 9 := by omega
     have wk := zdz ((i : Int) + 1) (by omega)
     have wn := zdz ((n : Int) + (i : Int)) (by omega)
     have y0 : (0 : Int) <= (n : Int) + (i : Int) := by omega
     have y1 : (n : Int) + (i : Int) < ((n + 9 : Nat) : Int) := by omega
     have tn : ((n : Int) + (i : Int)).toNat = n + i := by omega
     have z := Ho8.out.u8 (D.length + i) 165 (mark_at lt)
     rw [<- HN.out] at z
     dsimp only at z
     go_wp2_with fail
     go_roundw
     case rel => exact ⟨i + 1, by omega, by go_num, by first | rfl | trivial⟩
     case measure => simp [intOf]; omega
    ·have e : i = 9 := by omega
     subst e
     have q5 : ¬ ((9 : Nat) : Int) < 9 := by omega
     have BO := HO8.out.below HX7.out.size
     have VX1 : V1.heap.size <= X.heap.size := Nat.le_trans HC1.out.size VX.out
     have gb8 := ((HGB.out.below HC5q.out).below HB57.out).keep (fun q l1 l2 => HO8.out.far q l2 (Or.inr (Nat.le_trans HC4q.out.size l1)))
     have frb := (gb8.frs (by rw [HLB.out, HM1.out, HML.out]; have := HDL.out.1; omega)).2
     have FW8 := (FW5.out.below HB57.out HV15.out.size).below BO VX1
     have SM3 := ZI Ab Al cb cl (segF Sb) (Ml.map RM.fa) wr.heap.size V1.heap.size wr frb FW8 zdA (Nat.le_trans HV15.out.size (Nat.le_trans HB57.out.size HO8.out.size))
     rw [HLB.out, List.length_map, <- HM1.out] at SM3
     have SM3 : Hid (Calls Tryz.prog 21 #[.slice Ab m1 cb, .slice Al m1 cl] wr fun e w' => e = .returned (.bool true) /\ Below wr.heap.size wr w') := zdy (SM3.mono (fun e' w' ⟨b, e1, e2, e3⟩ => ⟨by rw [e1, e2.2 (HFB.out.trans HFE.out.symm)], e3⟩))
     have HBO := zdy BO
     clear BO VX1 gb8 frb FW8
     go_wp2_with fail
     refine SM3.out.mono ?_; rintro e V9 ⟨rfl, B9⟩
     have B9 := B9.drew
     have TN := zdy ((HO8.out.keep8 B9).torn HLA.out (by rw [HM1.out, HML.out]; exact HDL.out.1) (fun x m => (HOKA.out x m).2))
     have cvm := ZH ((Ho8.out.keep (B9.block g Ho8.out.lt.2.1)).byteD HBD.out.rng (by have := HRO.out; omega))
     have BW9 := HBQ.out.trans ((hb.out.trans ((HX7.out.trans (HBO.out.trans (B9.mono (Nat.le_trans HX7.out.size HO8.out.size)))).mono hb.out.size)).mono HBQ.out.size)
     have cvb := ZH (HBD.out.below BW9 zdA)
     dsimp only at cvm cvb
     rw [<- HN.out] at cvm cvb
     have AV := zdy (zdt V9.drew (HE.out.mv (Mv.below (F := []) BW9) (by simp)))
     have HBW := zdy BW9
     clear SM3 B9 BW9
     go_wp2_with fail
     refine wp_region_still_tail 17 (by kernel_rfl) (by kernel_rfl) ?_
     change wpStill _ _ (World.drew _) _ _ _
     simp only [zdB, zdC, zdD, zdE]
     repeat (first | still_step | still_call TN.out)
     refine wpStill_nil ?_
     change wpList _ _ _ _ _ (World.drew _)
     go_wp2_with fail
     refine AV.out.mono ?_; rintro e V11 ⟨rfl, B11⟩
     have HBX := zdy (HBW.out.trans (B11.mono HBW.out.size))
     clear B11
     go_wp2_with fail
     go_ret
     exact ⟨by rfl, HBX.out⟩
end
end
end Go.Proofs.YtmaofighbpnbiaaGreatDoor
