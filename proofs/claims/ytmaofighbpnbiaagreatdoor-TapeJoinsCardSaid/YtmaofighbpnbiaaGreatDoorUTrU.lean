/- TapeJoins: the walk. -/
import Derived.Test.YtmaofighbpnbiaaGreatDoorTaFG
import Derived.Test.YtmaofighbpnbiaaGreatDoorTaFP
import Derived.Test.YtmaofighbpnbiaaGreatDoorTaFQ
set_option linter.unusedVariables false
set_option linter.unusedSimpArgs false
namespace Go.Proofs.YtmaofighbpnbiaaGreatDoor
section
open Go Go.RowKit Go.Sort
section
set_option maxHeartbeats 64000000 in
set_option maxRecDepth 100000 in
theorem zdW (A : Option Addr) (c : Nat) (T0 : List TA) (tw : Bool) (W : World) (E : EnvV W) (D0 : TpsD W W.heap.size A c T0) :
  Calls Tryz.prog 11 #[.slice A T0.length c, .bool tw] W fun e w' => e = .returned (.bool true) /\ Below W.heap.size W w' := by
 obtain ⟨T, hT⟩ : ∃ T, T = T0.take 50 := ⟨_, rfl⟩
 have D := D0.first 50
 rw [<- hT] at D
 have HD := zdX D
 have HE := zdX E
 obtain ⟨n, hn⟩ : ∃ n, n = T.length := ⟨_, rfl⟩
 have HN := zdX hn
 have n50 : n <= 50 := by rw [hn, hT, List.length_take]; omega
 have cap0 := D0.cap
 have sz0 := D0.sz
 have HNT : Hid (n = if 50 < T0.length then 50 else T0.length) := zdX (by rw [hn, hT, List.length_take]; split <;> omega)
 obtain ⟨N0, hN0⟩ : ∃ N0, N0 = T0.length := ⟨_, rfl⟩
 rw [<- hN0] at cap0 sz0 HNT ⊢
 clear D D0 E hn hT hN0
 go_enter Tryz.func11, Tryz.ntmps11
 go_upto_if 26 with fail
 go_cut [5] from 24 to 28 (fun s5 wx => s5 = .slice A n c /\ wx = W)
 case first =>
  have HNT := HNT.out
  by_cases big : 50 < N0
  ·have b1 : (50 : Int) < (N0 : Int) := by omega
   rw [if_pos big] at HNT
   have b2 : (50 : Int) <= (c : Int) := by omega
   subst HNT
   go_wp2_with fail
   go_meet
   exact ⟨rfl, rfl⟩
  ·have b1 : ¬ (50 : Int) < (N0 : Int) := by omega
   rw [if_neg big] at HNT
   subst HNT
   go_wp2_with fail
   go_meet
   exact ⟨rfl, rfl⟩
 case rest =>
  obtain ⟨rfl, hwc⟩ := hcut
  rw [hwc]
  clear hwc HNT cap0 sz0
  go_wp2_with fail
  go_loopw [6, 7] (fun s6 s7 wr => ∃ (i m : Nat), i <= n /\ m <= 134217728 /\ s6 = .int .i64 (m : Int) /\ s7 = .int .i64 (i : Int) /\ Hid (cntT (T.take i) = m) /\ wr = W) (fun _ s7 _ => n - (intOf s7).toNat)
  case atStart => exact ⟨0, 0, Nat.zero_le _, Nat.zero_le _, rfl, rfl, zdX rfl, rfl⟩
  case round =>
   obtain ⟨i, m, hi, hm, rfl, rfl, hc, hwr⟩ := hrel
   rw [hwr]
   clear hwr
   by_cases lt : i < n
   ·have il : i < T.length := by rw [<- HN.out]; exact lt
    obtain ⟨ad, ea, lb, z1⟩ := HD.out.at i il
    subst ea
    have FT := HD.out.ok _ (List.getElem_mem il)
    have tk := zdX (kW T i il)
    generalize T[i] = x at *
    obtain ⟨xA, xc, xL⟩ := x
    change W.cell? (ad.add i) = some (.slice xA xL.length xc) at z1
    dsimp only at FT
    have xs : xL.length <= 140737488355328 := by have := FT.sz; omega
    have HFT := zdX FT
    obtain ⟨xn, hxn⟩ : ∃ xn, xn = xL.length := ⟨_, rfl⟩
    have HXN := zdX hxn
    rw [<- hxn] at z1 xs
    have q0 : (0 : Int) <= (i : Int) := by omega
    have q5 : (i : Int) < (n : Int) := by omega
    have tn : (i : Int).toNat = i := by omega
    have wk := zdY ((i : Int) + 1) (by omega)
    clear FT lb hxn
    go_wp2_with fail
    go_loopw [6, 8] (fun s6 s8 wx => ∃ (j k : Nat), j <= xn /\ k <= 134217728 /\ s6 = .int .i64 (k : Int) /\ s8 = .int .i64 (j : Int) /\ Hid (m + cntL (xL.take j) = k) /\ wx = W) (fun _ s8 _ => xn - (intOf s8).toNat)
    case atStart => exact ⟨0, m, Nat.zero_le _, hm, rfl, rfl, zdX rfl, rfl⟩
    case round =>
     obtain ⟨j, k, hj, hk, rfl, rfl, hcj, hwx⟩ := hrel
     rw [hwx]
     clear hwx
     by_cases lj : j < xn
     ·have jl : j < xL.length := by rw [<- HXN.out]; exact lj
      obtain ⟨a2, e2, _, y1, y2⟩ := HFT.out.at j jl
      have tj := kW xL j jl
      have bz := (HFT.out.ok _ (List.getElem_mem jl)).b.sz
      have NX := zdX (show m + cntL (xL.take (j + 1)) = k + 2 + 2 * (xL[j]).b.bs.length by
       rw [tj, Vz, <- hcj.out]
       show m + (_ + (2 + 2 * (xL[j]).b.bs.length + 0)) = _
       omega)
      generalize xL[j] = y at *
      obtain ⟨bn, hbn⟩ : ∃ bn, bn = y.b.bs.length := ⟨_, rfl⟩
      rw [<- hbn] at y2 bz NX
      subst e2
      have p0 : (0 : Int) <= (j : Int) := by omega
      have p5 : (j : Int) < (xn : Int) := by omega
      have pn : (j : Int).toNat = j := by omega
      have pk := zdY ((j : Int) + 1) (by omega)
      have w1 := zdY ((k : Int) + 2) (by omega)
      have w2 := zdY (2 * (bn : Int)) (by omega)
      have w3 := zdY ((k : Int) + 2 + 2 * (bn : Int)) (by omega)
      clear y1 tj hcj hbn
      by_cases ov : (134217728 : Int) < (k : Int) + 2 + 2 * (bn : Int)
      ·go_wp2_with fail
       go_ret
       exact ⟨rfl, Below.refl _ _⟩
      ·go_wp2_with fail
       go_roundw
       case rel => exact ⟨j + 1, k + 2 + 2 * bn, by omega, by omega, by go_num, by go_num, NX, by first | rfl | trivial⟩
       case measure => simp [intOf]; omega
     ·have e : j = xn := by omega
      subst e
      have p5 : ¬ (j : Int) < (j : Int) := by omega
      have NX := zdX (show cntT (T.take (i + 1)) = k by
       rw [tk.out, VA, hc.out, <- hcj.out]
       show m + (cntL xL + 0) = _
       rw [HXN.out, List.take_length]
       omega)
      clear hcj
      go_wp2_with fail
      go_roundw
      case rel => exact ⟨i + 1, k, by omega, hk, rfl, by go_num, NX, by first | rfl | trivial⟩
      case measure => simp [intOf]; omega
   ·have e : i = n := by omega
    subst e
    have q5 : ¬ (i : Int) < (i : Int) := by omega
    have CB := zdX (zcC (T := T) (by have := hc.out; rw [HN.out, List.take_length] at this; omega))
    clear hc hm
    go_wp2_with fail
    go_loopw [9, 10, 11] (fun s9 s10 s11 wr => ∃ (k N : Nat) (A9 A10 : Option Addr) (c9 c10 : Nat) (Z : List (RT × TA)), k <= i /\ N <= 2 * k /\ s9 = .slice A9 N c9 /\ s10 = .slice A10 N c10 /\ s11 = .int .i64 (k : Int) /\ Hid (Z.length = N) /\ Hid (JSt W Z (.slice A9 N c9) (.slice A10 N c10) wr)) (fun _ _ s11 _ => i - (intOf s11).toNat)
    case atStart => exact ⟨0, 0, none, none, 0, 0, [], Nat.zero_le _, Nat.zero_le _, rfl, rfl, rfl, zdX rfl, zdX (JSt.nil W (Below.refl _ _))⟩
    case round =>
     obtain ⟨k, N, A9, A10, c9, c10, Z, hk, hNk, rfl, rfl, rfl, hz, hJ⟩ := hrel
     by_cases lt2 : k < i
     ·have il : k < T.length := by rw [<- HN.out]; exact lt2
      obtain ⟨ad, ea, lb, z1⟩ := HD.out.at k il
      subst ea
      have FT := HD.out.ok _ (List.getElem_mem il)
      have CBx := CB.out _ (List.getElem_mem il)
      generalize T[k] = x at *
      obtain ⟨xA, xc, xL⟩ := x
      change W.cell? (ad.add k) = some (.slice xA xL.length xc) at z1
      dsimp only at FT CBx
      have adb : (ad.add k).block < W.heap.size := by rw [z8]; exact lb
      have ZC : Hid (∀ w1, Below W.heap.size W w1 -> w1.cell? (ad.add k) = some (.slice xA xL.length xc)) := zdX (fun w1 hb1 => (hb1.cell adb).trans z1)
      have RC := zcv xA xc xL W.heap.size wr (FT.below hJ.out.bel zdZ) hJ.out.bel.size CBx.1 CBx.2
      have HFT := zdX FT
      have HCX := zdX CBx
      obtain ⟨xn, hxn⟩ : ∃ xn, xn = xL.length := ⟨_, rfl⟩
      have HXN := zdX hxn
      rw [<- hxn] at z1 ZC RC
      have RC := zdX RC
      have q0 : (0 : Int) <= (k : Int) := by omega
      have q6 : (k : Int) < (i : Int) := by omega
      have tn : (k : Int).toNat = k := by omega
      have wk := zdY ((k : Int) + 1) (by omega)
      have z0 := ZC.out wr hJ.out.bel
      clear FT CBx lb z1 adb hxn
      go_upto_region 20 with fail
      refine RC.out.mono ?_; rintro e w1 ⟨r, c', M, rfl, nM, fM, S1, X1, B1⟩
      have J1 := hJ.out.below B1
      have OK1 : RT.ok W.heap.size w1 ⟨r, c', M⟩ := ⟨by have := S1.low hJ.out.bel.size; rw [nM] at this; exact this, X1⟩
      obtain ⟨B9, d9, w3, R3, b3, B10, d10, w6, R6, J6, OK6⟩ := J1.twoN hz.out ⟨r, c', M⟩ ⟨xA, xc, xL⟩ OK1 fM HFT.out HCX.out.1 HCX.out.2 (by omega) nM
      dsimp only at R3 R6
      rw [<- HXN.out] at R6
      have HB3 := zdX b3
      have z3 := ZC.out w3 b3
      have HJ6 := zdX J6
      have HOK := zdX OK6
      have HM := zdX (And.intro nM fM)
      have HZ6 := zdX (show (Z ++ [((⟨r, c', M⟩ : RT), (⟨xA, xc, xL⟩ : TA))]).length = N + 1 by rw [List.length_append, hz.out]; rfl)
      clear RC J1 OK1 S1 X1 B1 J6 OK6 nM fM b3 hJ z0
      go_upto_region 21 with (first | (at_builtin; refine xG rfl (.tmp 70) (.tmp 72) 64 64 rfl _ _ _ _ rfl rfl R3 ?_) | fail)
      clear R3
      go_upto_region 22 with (first | (at_builtin; refine xG rfl (.tmp 74) (.tmp 79) 64 64 rfl _ _ _ _ rfl rfl R6 ?_) | fail)
      clear R6 z3
      cases tw with
      | false =>
       go_wp2_with fail
       go_roundw
       case rel => exact ⟨k + 1, N + 1, B9, B10, d9, d10, _, by omega, by omega, rfl, rfl, by go_num, HZ6, HJ6⟩
       case measure => simp [intOf]; omega
      | true =>
       obtain ⟨C9, f9, w7, R7, b7, C10, f10, w8, R8, J8, OK8⟩ := HJ6.out.twoN HZ6.out ⟨r, c', M⟩ ⟨xA, xc, xL⟩ HOK.out HM.out.2 HFT.out HCX.out.1 HCX.out.2 (by omega) HM.out.1
       dsimp only at R7 R8
       rw [<- HXN.out] at R8
       have z7 := ZC.out w7 b7
       have HJ8 := zdX J8
       have HZ8 := zdX (show ((Z ++ [((⟨r, c', M⟩ : RT), (⟨xA, xc, xL⟩ : TA))]) ++ [((⟨r, c', M⟩ : RT), (⟨xA, xc, xL⟩ : TA))]).length = N + 1 + 1 by rw [List.length_append, HZ6.out]; rfl)
       clear J8 OK8 HJ6 HOK b7 HB3
       go_upto_region 24 with (first | (at_builtin; refine xG rfl (.tmp 82) (.tmp 84) 64 64 rfl _ _ _ _ rfl rfl R7 ?_) | fail)
       clear R7
       go_wp2_with (first | (at_builtin; refine xG rfl (.tmp 86) (.tmp 91) 64 64 rfl _ _ _ _ rfl rfl R8 ?_) | fail)
       go_roundw
       case rel => exact ⟨k + 1, N + 1 + 1, C9, C10, f9, f10, _, by omega, by omega, rfl, rfl, by go_num, HZ8, HJ8⟩
       case measure => simp [intOf]; omega
     ·have e : k = i := by omega
      subst e
      have q6 : ¬ (k : Int) < (k : Int) := by omega
      obtain ⟨V0, hV0⟩ : ∃ V0, V0 = wr := ⟨_, rfl⟩
      rw [<- hV0] at hJ ⊢
      clear hV0
      have n100 : N <= 100 := by omega
      have GV := hJ.out.given hz.out (by omega)
      have JN := r_Join A10 c10 _ V0.heap.size V0 GV zdZ
      have SAME := hJ.out.same
      obtain ⟨TF, hTF⟩ : ∃ TF, TF = tpsF (Z.map fun z => z.2) := ⟨_, rfl⟩
      rw [List.length_map, hz.out, <- hTF] at JN
      rw [<- hTF] at SAME
      have HSM := zdX SAME
      have MN := zdX (hJ.out.mine hz.out (by omega))
      have JN := zdX JN
      clear GV SAME hTF
      go_wp2_with fail
      refine JN.out.mono ?_; rintro e V1 ⟨Aw, cw, Lw, rfl, fw, Fw, B1, lw⟩
      have J1 := t_Join A9 c9 _ V0.heap.size V1 (MN.out.below B1 zdZ) B1.size
      rw [List.length_map, hz.out, HSM.out] at J1
      unfold vY at J1
      obtain ⟨jl, jk, hj⟩ : ∃ jl jk, qd TF = (jl, jk) := ⟨_, _, rfl⟩
      rw [hj] at J1 fw ⊢
      dsimp only at J1 fw ⊢
      have J1 := zdX J1
      have HJT := zdX hj
      have HB1 := zdX B1
      have HFW := zdX Fw
      have HFE := zdX fw
      have HLW := zdX lw
      obtain ⟨m1, hm1⟩ : ∃ m1, m1 = Lw.length := ⟨_, rfl⟩
      have HM1 := zdX hm1
      have HJL : Hid (jl.length = m1) := zdX (by rw [hm1, <- fw, zU])
      have ML : Hid (m1 <= 16384) := zdX (by rw [hm1]; exact lw)
      rw [<- hm1]
      clear JN B1 Fw fw lw hm1 hj
      go_wp2_with fail
      refine J1.out.mono ?_; rintro e V2 ⟨va, Sa, rfl, Ba, ga, fa, la16⟩
      obtain ⟨Aa, ca, ea⟩ := xu ga.own
      subst ea
      have la : (segF Sa).length = m1 := by rw [zaY fa, HJL.out]
      rw [la] at ga ⊢
      have HGA := zdX ga
      have HFA := zdX fa
      have HLA := zdX la
      have HBA := zdX Ba
      have J2 := t_Join A9 c9 _ V0.heap.size V2 (MN.out.below (HB1.out.trans (Ba.mono HB1.out.size)) zdZ) (Nat.le_trans HB1.out.size Ba.size)
      rw [List.length_map, hz.out, HSM.out] at J2
      unfold vY at J2
      rw [HJT.out] at J2
      dsimp only at J2
      have J2 := zdX J2
      clear J1 Ba ga fa la la16
      have OKA : Hid (∀ (S : List Seg), frms (segF S) = jl -> ∀ x ∈ segF S, x.b.bs.length <= 1048576 /\ 0 <= x.at_) := zdX (fun S hS x m => by
       have mm : FA.frm x ∈ jl := by rw [<- hS]; exact List.mem_map_of_mem m
       have q := zdT (ts := TF)
       rw [HJT.out] at q
       exact q _ mm)
      go_wp2_with fail
      refine J2.out.mono ?_; rintro e V3 ⟨vb, Sb, rfl, Bb, gb, fb, lb16⟩
      obtain ⟨Ab, cb, eb⟩ := xu gb.own
      subst eb
      have lb : (segF Sb).length = m1 := by rw [zaY fb, HJL.out]
      rw [lb] at gb ⊢
      have HGB := zdX gb
      have HFB := zdX fb
      have HLB := zdX lb
      have HB3 := zdX Bb
      have B13 := HBA.out.trans (Bb.mono HBA.out.size)
      have HB13 := zdX B13
      have FW3 := zdX (HFW.out.below B13 zdZ)
      have fra := ((HGA.out.below Bb).frs (by rw [HLA.out]; have := ML.out; omega)).2
      have SM1 := ZV Aa Aw ca cw (segF Sa) Lw V3.heap.size V1.heap.size V3 fra FW3.out zdZ B13.size
      rw [HLA.out, <- HM1.out] at SM1
      have SM1 : Hid (Calls Tryz.prog 21 #[.slice Aa m1 ca, .slice Aw m1 cw] V3 fun e w' => e = .returned (.bool true) /\ Below V3.heap.size V3 w') := zdX (SM1.mono (fun e' w' ⟨b, e1, e2, e3⟩ => ⟨by rw [e1, e2.2 (HFA.out.trans HFE.out.symm)], e3⟩))
      clear J2 Bb gb fb lb lb16 B13 fra
      go_wp2_with fail
      refine SM1.out.mono ?_; rintro e V4 ⟨rfl, B4⟩
      have frb := ((HGB.out.below B4).frs (by rw [HLB.out]; have := ML.out; omega)).2
      have SM2 := ZV Ab Aw cb cw (segF Sb) Lw V4.heap.size V1.heap.size V4 frb (FW3.out.below B4 HB13.out.size) zdZ (Nat.le_trans HB13.out.size B4.size)
      rw [HLB.out, <- HM1.out] at SM2
      have SM2 : Hid (Calls Tryz.prog 21 #[.slice Ab m1 cb, .slice Aw m1 cw] V4 fun e w' => e = .returned (.bool true) /\ Below V4.heap.size V4 w') := zdX (SM2.mono (fun e' w' ⟨b, e1, e2, e3⟩ => ⟨by rw [e1, e2.2 (HFB.out.trans HFE.out.symm)], e3⟩))
      have HB4 := zdX B4
      clear SM1 frb B4
      go_wp2_with fail
      refine SM2.out.mono ?_; rintro e V5 ⟨rfl, B5⟩
      have B35 := HB4.out.trans (B5.mono HB4.out.size)
      have HB35 := zdX B35
      have B25 := HB3.out.trans (B35.mono HB3.out.size)
      have HB25 := zdX B25
      have OV := zdX (law_over HGA.out B25 ML.out (fun x m => (OKA.out Sa HFA.out x m).1))
      clear SM2 B5 B35 B25 HB4
      go_wp2_with fail
      refine OV.out.mono ?_; rintro e V6 ⟨rfl, O6⟩
      have l15 : V1.heap.size <= V5.heap.size := Nat.le_trans HB13.out.size HB35.out.size
      have BO := O6.below l15
      have gb6 := (HGB.out.below HB35.out).keep (fun q l1 l2 => O6.far q l2 (Or.inr l1))
      have frb := (gb6.frs (by rw [HLB.out]; have := ML.out; omega)).2
      have FW6 := (FW3.out.below HB35.out HB13.out.size).below BO zdZ
      have SM3 := ZV Ab Aw cb cw (segF Sb) Lw V6.heap.size V1.heap.size V6 frb FW6 zdZ (Nat.le_trans l15 O6.size)
      rw [HLB.out, <- HM1.out] at SM3
      have SM3 : Hid (Calls Tryz.prog 21 #[.slice Ab m1 cb, .slice Aw m1 cw] V6 fun e w' => e = .returned (.bool true) /\ Below V6.heap.size V6 w') := zdX (SM3.mono (fun e' w' ⟨b, e1, e2, e3⟩ => ⟨by rw [e1, e2.2 (HFB.out.trans HFE.out.symm)], e3⟩))
      have HB06 := zdX (HB1.out.trans ((HB13.out.trans ((HB35.out.mono HB13.out.size).trans BO)).mono HB1.out.size))
      have HO6 := zdX O6
      clear OV O6 l15 BO gb6 frb FW6
      go_wp2_with fail
      refine SM3.out.mono ?_; rintro e V7 ⟨rfl, B7⟩
      have TN := zdX ((HO6.out.keep8 B7).torn HLA.out ML.out (fun x m => (OKA.out Sa HFA.out x m).2))
      have HB07 := zdX (HB06.out.trans (B7.mono HB06.out.size))
      clear SM3 B7 HB06
      go_wp2_with fail
      refine TN.out.mono ?_; rintro e V8 ⟨rfl, hw⟩
      rw [hw]
      clear hw TN
      go_wp2_with fail
      go_loopw [21] (fun s21 wx => ∃ j : Nat, j <= N /\ s21 = .int .i64 (j : Int) /\ Hid (Below V0.heap.size V0 wx)) (fun s21 _ => N - (intOf s21).toNat)
      case atStart => exact ⟨0, Nat.zero_le _, rfl, HB07⟩
      case round =>
       obtain ⟨j, hj, rfl, hb⟩ := hrel
       clear HB07
       by_cases lj : j < N
       ·have jl2 : j < Z.length := by rw [hz.out]; exact lj
        obtain ⟨h1, h2, h3, h4, h5⟩ := hJ.out.ok _ (List.getElem_mem jl2)
        have rb := Vy h2 h4 h5
        have RD := hJ.out.room _ (List.getElem_mem jl2)
        have hb := zdX hb.out.drew
        have BW := hJ.out.bel.trans (hb.out.mono hJ.out.bel.size)
        have KP := law_kept _ _ _ V0.heap.size _ _ _ W.heap.size wr.drew (RD.below hb.out zdZ) (h3.below BW zdZ) hb.out.size BW.size h2 rb.1 rb.2
        have o9 := zV hJ.out.own9 hb.out
        have o10 := zV hJ.out.own10 hb.out
        rw [hz.out] at o9 o10
        obtain ⟨g9, d9, e9⟩ := vQ o9 (fun z => by injection z with _ z _; omega)
        obtain ⟨g10, d10, e10⟩ := vQ o10 (fun z => by injection z with _ z _; omega)
        injection e9 with e91 e92 e93
        injection e10 with e101 e102 e103
        subst e91
        subst e101
        have y9 := o9.cellAt j (by omega)
        have y10 := o10.cellAt j (by omega)
        rw [List.getElem?_map, List.getElem?_eq_getElem jl2] at y9 y10
        simp only [Option.map_some] at y9 y10
        rw [RT.taV] at y9
        change wr.drew.cell? ⟨g10, j, none⟩ = some (.slice (Z[j]).2.A (Z[j]).2.L.length (Z[j]).2.c) at y10
        generalize Z[j] = z at *
        obtain ⟨⟨zr, zc, zM⟩, ⟨zA, zc2, zL⟩⟩ := z
        dsimp only at KP y9 y10
        have KP := zdX KP
        generalize zM.length = mm at *
        generalize zL.length = ll at *
        have p0 : (0 : Int) <= (j : Int) := by omega
        have p5 : (j : Int) < (N : Int) := by omega
        have pn : (j : Int).toNat = j := by omega
        have pk := zdY ((j : Int) + 1) (by omega)
        clear h1 h2 h3 h4 h5 rb RD BW o9 o10 e92 e93 e102 e103
        go_wp2_with fail
        go_region_with (go_at_call 17; refine KP.out.mono ?_; rintro e w9 ⟨rfl, B9⟩; have HB9 := zdX (hb.out.trans (B9.mono hb.out.size)); clear B9)
        all_goals go_wp2_with fail
        all_goals go_roundw
        all_goals first
         | exact ⟨j + 1, by omega, by go_num, HB9⟩
         | (simp [intOf]; omega)
       ·have e : j = N := by omega
        subst e
        have p5 : ¬ (j : Int) < (j : Int) := by omega
        have BW := hJ.out.bel.trans (hb.out.mono hJ.out.bel.size)
        have HBW := zdX BW
        have AV := zdX (zdQ wr (HE.out.mv (Mv.below (F := []) BW) (by simp)))
        clear BW
        go_wp2_with fail
        refine AV.out.mono ?_; rintro e w9 ⟨rfl, B9⟩
        have HBX := zdX (HBW.out.trans (B9.mono HBW.out.size))
        go_wp2_with fail
        go_ret
        exact ⟨by rfl, HBX.out⟩
end
end
end Go.Proofs.YtmaofighbpnbiaaGreatDoor
