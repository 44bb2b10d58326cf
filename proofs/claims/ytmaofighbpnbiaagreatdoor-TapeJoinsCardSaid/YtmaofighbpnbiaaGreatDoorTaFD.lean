/- What lies below tapes (kept of earlier texts: DfAb, StyC, StyO, TpN, TpO, TpB, TpM, TpT, Rows2, StyS, StyM, DfO, DfM). -/
import Derived.Test.YtmaofighbpnbiaaGreatDoorTaFC
import Derived.WalkMore
import Derived.RangeFuncNested
import Derived.RangeFuncBound
import Derived.RangeFuncCalls
import Derived.RangeFuncLeaves
import Derived.Shelf.Abstract
import Derived.Shelf.RegionOpen
import Derived.WalkKit
import Derived.OwnWalkIn
import Derived.TacticsInMore
import Derived.LoopNIn
import Derived.LoopIn
import Derived.StillTailTactics
import Derived.Deep.Slices
import Derived.ProofKit
import Derived.OpenShut
import Derived.ShutString
import Derived.ChangeOld
import Derived.Below
import Derived.Lib.SmallJoins
import Derived.Deep.Strs
import Derived.Deep.Fields
import Derived.SizedLaws
import Derived.Laws.AppendOwnNone
import Derived.Maps.AppendAt
import Derived.Deep.DeepCutAuto
set_option linter.unusedVariables false
set_option linter.unusedSimpArgs false
namespace Go.Proofs.YtmaofighbpnbiaaGreatDoor
section
open Go.RowKit Go.Sort
theorem wideP_at (l : List Int) (k : Int) (hk : k = zd (l.getD 0 0)) (h1 : k ≠ 1) :
  xf l = if k = 8 /\ 1 < l.length /\ l.getD 1 0 = 65039 then 2 else if k = 6 /\ 1 < l.length /\ zd (l.getD 1 0) = 6 then 2 else ofK k := by
 unfold xf ofK
 rw [<- hk, if_neg h1]
 by_cases c8 : k = 8 /\ 1 < l.length /\ l.getD 1 0 = 65039
 ·rw [if_pos c8, if_pos c8]
 ·rw [if_neg c8, if_neg c8]
  by_cases c6 : k = 6 /\ 1 < l.length /\ zd (l.getD 1 0) = 6
  ·rw [if_pos c6, if_pos c6]
  ·rw [if_neg c6, if_neg c6]
   by_cases c2 : k = 2 \/ k = 4 \/ k = 3
   ·rw [if_pos c2, if_pos (show k = 1 \/ k = 2 \/ k = 3 \/ k = 4 by omega)]
   ·rw [if_neg c2, if_neg (show ¬ (k = 1 \/ k = 2 \/ k = 3 \/ k = 4) by omega)]
theorem vH (a : Addr) (n : Nat) (h : n ≠ 0) : (⟨a.block, a.off + n, none⟩ : Addr) = a.add n := by unfold Addr.add; rw [if_neg h]
theorem growK_eq (l : List Int) (base : Int) (f n : Nat) : qe l base (f + 1) n = if n < l.length /\ j8 base (l.getD (n - 1) 0) (l.getD n 0) = true then qe l base f (n + 1) else n := by
 conv => lhs; unfold qe
set_option maxHeartbeats 16000000 in
set_option maxRecDepth 100000 in
theorem d_length (A : Option Addr) (c : Nat) (l : List Int) (hne : l ≠ []) (hl : l.length <= 35184372000000) (w : World) (S : Sees w w.heap.size A (rns l)) :
  Calls Tryz.prog 144 #[.slice A l.length c] w fun e w' => e = .returned (.tuple #[.int .i64 (zw l : Int), .int .i64 (xf l)]) /\ Below w.heap.size w w' := by
 have hp : 0 < l.length := List.length_pos_iff.2 hne
 obtain ⟨ad, rfl, hab, c0⟩ := Zr S 0 hp
 have CC : Hid (∀ k, k < l.length -> ∀ W, Below w.heap.size w W -> W.cell? (ad.add k) = some (.int .i32 (l.getD k 0))) := zdX (fun k hk W hb => by
  obtain ⟨ad', e, b', c'⟩ := Zr S k hk
  cases e
  exact (hb.cell (p := ad.add k) (by rw [z8]; exact hab)).trans c')
 have K0 := zdX (QN (l.getD 0 0))
 have O0 := zdX (d_Of (l.getD 0 0))
 have KK := zdX (fun r => QN r)
 have kr := QO (l.getD 0 0)
 have FC : Hid (zw l = if zd (l.getD 0 0) = 1 then 1 else qe l (zd (l.getD 0 0)) (16 - jo l) (jo l)) := zdX rfl
 have WA := zdX (wideP_at l (zd (l.getD 0 0)) rfl)
 have W1 : Hid (zd (l.getD 0 0) = 1 -> xf l = 0) := zdX (fun h => by unfold xf; rw [if_pos h])
 have BK : Hid (jo l = if zd (l.getD 0 0) = 6 /\ 1 < l.length /\ zd (l.getD 1 0) = 6 then 2 else 1) := zdX rfl
 have GG : Hid (∀ f n, qe l (zd (l.getD 0 0)) (f + 1) n = if n < l.length /\ j8 (zd (l.getD 0 0)) (l.getD (n - 1) 0) (l.getD n 0) = true then qe l (zd (l.getD 0 0)) f (n + 1) else n) := zdX (growK_eq l _)
 generalize zw l = F at *
 generalize xf l = V at *
 generalize jo l = B0 at *
 clear hne S
 have c00 := CC.out 0 hp
 generalize l.getD 0 0 = r0 at *
 generalize zd r0 = k0 at *
 obtain ⟨n, hn⟩ : ∃ n, n = l.length := ⟨_, rfl⟩
 rw [<- hn] at hp hl CC WA BK GG ⊢
 have HN := zdX hn
 have C00 := zdX c00
 clear hn c00
 have cx := C00.out w (Below.refl _ _)
 have ad0 : ad.add 0 = ad := by unfold Addr.add; rw [if_pos rfl]
 rw [ad0] at C00 cx
 go_enter Tryz.func144, Tryz.ntmps144
 go_wp2_with fail
 go_step3
 go_wp2_with fail
 refine (K0.out _).mono ?_; rintro e w1 ⟨rfl, hb1⟩
 have HB1 := zdX hb1
 clear hb1 cx
 by_cases k1 : k0 = 1
 ·subst k1
  have R : Hid (F = 1) := zdX (by rw [FC.out, if_pos rfl])
  have R2 : Hid (V = 0) := zdX (W1.out rfl)
  go_wp2_with fail
  rw [Exit.noGoto_ret]
  exact bodyPost_ret (v := .tuple #[.int .i64 1, .int .i64 0]) (by simp [results, Tryz.results144, go_sem]) rfl ⟨by rw [R.out, R2.out]; rfl, HB1.out⟩
 ·have WA := zdX (WA.out k1)
  have FC : Hid (F = qe l k0 (16 - B0) B0) := zdX (by rw [FC.out, if_neg k1])
  have cx := C00.out w1 HB1.out
  go_wp2_with fail
  refine (O0.out _).mono ?_; rintro e w2 ⟨rfl, hb2⟩
  have HB2 := zdX (jg HB1.out HB1.out.size hb2)
  clear hb2 cx
  go_upto_region 5 with fail
  obtain ⟨β, hβ⟩ : ∃ β : Bool, β = decide (k0 = 6 /\ 1 < n /\ zd (l.getD 1 0) = 6) := ⟨_, rfl⟩
  have HB := zdX hβ
  clear hβ
  go_cut [30] from 17 to 30 (fun s30 wx => s30 = .bool β /\ Hid (Below w.heap.size w wx))
  case first =>
   by_cases k6 : k0 = 6
   ·subst k6
    by_cases lt : 1 < n
    ·have c1 := CC.out 1 lt w2 HB2.out
     rw [<- vH ad 1 (by decide)] at c1
     have E : Hid (β = (zd (l.getD 1 0) == 6)) := zdX (by
      rw [HB.out]
      by_cases z : zd (l.getD 1 0) = 6
      ·rw [z, decide_eq_true ⟨rfl, lt, rfl⟩]; rfl
      ·rw [decide_eq_false (fun h => z h.2.2)]
       exact (beq_eq_false_iff_ne.2 z).symm)
     generalize l.getD 1 0 = r1 at *
     go_wp2_with fail
     refine (KK.out r1 _).mono ?_; rintro e w3 ⟨rfl, hb3⟩
     have HB3 := zdX (jg HB2.out HB2.out.size hb3)
     clear hb3
     go_wp2_with fail
     go_meet
     exact ⟨by rw [E.out], HB3⟩
    ·have E : Hid (β = false) := zdX (by rw [HB.out]; exact decide_eq_false (fun h => lt h.2.1))
     go_wp2_with fail
     go_meet
     exact ⟨by rw [E.out], HB2⟩
   ·have E : Hid (β = false) := zdX (by rw [HB.out]; exact decide_eq_false (fun h => k6 h.1))
    have q : (k0 == 6) = false := beq_eq_false_iff_ne.2 k6
    go_wp2_with fail
    go_meet
    exact ⟨by rw [E.out], HB2⟩
  case rest =>
   obtain ⟨rfl, hb3⟩ := hcut
   obtain ⟨W3, hW3⟩ : ∃ w0, w0 = wc := ⟨_, rfl⟩
   subst hW3
   have HB3 := hb3
   clear HB2 hb3
   go_upto_if 30 with fail
   go_cut [5, 6] from 30 to 30 (fun s5 s6 wx => s5 = .int .i64 (B0 : Int) /\ s6 = .int .i64 (if k0 = 6 /\ 1 < n /\ zd (l.getD 1 0) = 6 then 2 else ofK k0) /\ wx = W3)
   case first =>
    cases hb : β with
    | true =>
     have z : k0 = 6 /\ 1 < n /\ zd (l.getD 1 0) = 6 := of_decide_eq_true (by rw [<- HB.out]; exact hb)
     have E : Hid (B0 = 2) := zdX (by rw [BK.out, if_pos z])
     have E2 : Hid ((if k0 = 6 /\ 1 < n /\ zd (l.getD 1 0) = 6 then 2 else ofK k0) = 2) := zdX (if_pos z)
     clear z hb HB
     go_wp2_with fail
     go_meet
     exact ⟨by rw [E.out]; rfl, by rw [E2.out], rfl⟩
    | false =>
     have z : ¬ (k0 = 6 /\ 1 < n /\ zd (l.getD 1 0) = 6) := of_decide_eq_false (by rw [<- HB.out]; exact hb)
     have E : Hid (B0 = 1) := zdX (by rw [BK.out, if_neg z])
     have E2 : Hid ((if k0 = 6 /\ 1 < n /\ zd (l.getD 1 0) = 6 then 2 else ofK k0) = ofK k0) := zdX (if_neg z)
     clear z hb HB
     go_wp2_with fail
     go_meet
     exact ⟨by rw [E.out]; rfl, by rw [E2.out], rfl⟩
   case rest =>
    obtain ⟨rfl, rfl, rfl⟩ := hcut
    obtain ⟨W4, hW4⟩ : ∃ w0, w0 = wc := ⟨_, rfl⟩
    subst hW4
    obtain ⟨v6, hv6⟩ : ∃ v6 : Int, v6 = if k0 = 6 /\ 1 < n /\ zd (l.getD 1 0) = 6 then 2 else ofK k0 := ⟨_, rfl⟩
    have VW : Hid (V = if k0 = 8 /\ 1 < n /\ l.getD 1 0 = 65039 then 2 else v6) := zdX (by rw [WA.out, hv6])
    rw [<- hv6]
    clear hv6 WA HB β
    obtain ⟨γ, hγ⟩ : ∃ γ : Bool, γ = decide (k0 = 8 /\ 1 < n /\ l.getD 1 0 = 65039) := ⟨_, rfl⟩
    have HG := zdX hγ
    clear hγ
    go_upto_region 7 with fail
    go_cut [43] from 31 to 43 (fun s43 wx => s43 = .bool γ /\ wx = W4)
    case first =>
     by_cases k8 : k0 = 8
     ·subst k8
      by_cases lt : 1 < n
      ·have c1 := CC.out 1 lt W4 HB3.out
       rw [<- vH ad 1 (by decide)] at c1
       have E : Hid (γ = (l.getD 1 0 == 65039)) := zdX (by
        rw [HG.out]
        by_cases z : l.getD 1 0 = 65039
        ·rw [z, decide_eq_true ⟨rfl, lt, rfl⟩]; rfl
        ·rw [decide_eq_false (fun h => z h.2.2)]
         exact (beq_eq_false_iff_ne.2 z).symm)
       generalize l.getD 1 0 = r1 at *
       go_wp2_with fail
       go_meet
       exact ⟨by rw [E.out], rfl⟩
      ·have E : Hid (γ = false) := zdX (by rw [HG.out]; exact decide_eq_false (fun h => lt h.2.1))
       go_wp2_with fail
       go_meet
       exact ⟨by rw [E.out], rfl⟩
     ·have E : Hid (γ = false) := zdX (by rw [HG.out]; exact decide_eq_false (fun h => k8 h.1))
      have q : (k0 == 8) = false := beq_eq_false_iff_ne.2 k8
      go_wp2_with fail
      go_meet
      exact ⟨by rw [E.out], rfl⟩
    case rest =>
     obtain ⟨rfl, rfl⟩ := hcut
     obtain ⟨W5, hW5⟩ : ∃ w0, w0 = wc := ⟨_, rfl⟩
     subst hW5
     go_upto_if 43 with fail
     go_cut [6] from 43 to 43 (fun s6 wx => s6 = .int .i64 V /\ wx = W5)
     case first =>
      cases hb : γ with
      | true =>
       have z : k0 = 8 /\ 1 < n /\ l.getD 1 0 = 65039 := of_decide_eq_true (by rw [<- HG.out]; exact hb)
       have E : Hid (V = 2) := zdX (by rw [VW.out, if_pos z])
       clear z hb HG
       go_wp2_with fail
       go_meet
       exact ⟨by rw [E.out], rfl⟩
      | false =>
       have z : ¬ (k0 = 8 /\ 1 < n /\ l.getD 1 0 = 65039) := of_decide_eq_false (by rw [<- HG.out]; exact hb)
       have E : Hid (V = v6) := zdX (by rw [VW.out, if_neg z])
       clear z hb HG
       go_wp2_with fail
       go_meet
       exact ⟨by rw [E.out], rfl⟩
     case rest =>
      obtain ⟨rfl, rfl⟩ := hcut
      clear HG VW γ
      go_wp2_with fail
      go_step3
      go_wp2_with fail
      have B1 : 1 <= B0 /\ B0 <= n /\ B0 <= 2 := by
       rw [BK.out]
       by_cases z : k0 = 6 /\ 1 < n /\ zd (l.getD 1 0) = 6
       ·rw [if_pos z]; omega
       ·rw [if_neg z]; omega
      have PK := zdX (d_pic k0 kr.1 kr.2)
      clear BK k1 W1
      go_loopw [5] (fun s5 wr => ∃ m : Nat, 1 <= m /\ m <= n /\ m <= 16 /\ s5 = .int .i64 m /\ Hid (qe l k0 (16 - m) m = F /\ Below w.heap.size w wr)) (fun s5 _ => n - (intOf s5).toNat)
      case atStart => exact ⟨B0, B1.1, B1.2.1, by omega, rfl, zdX ⟨FC.out.symm, HB3.out⟩⟩
      case round =>
       obtain ⟨m, m1, m2, m3, rfl, hI⟩ := hrel
       clear B1
       by_cases lt : m < n
       ·by_cases l16 : m < 16
        ·have FU : 16 - m = (16 - (m + 1)) + 1 := by omega
         have GX := hI.out.1
         rw [FU, GG.out] at GX
         have NXT : Hid (j8 k0 (l.getD (m - 1) 0) (l.getD m 0) = true -> qe l k0 (16 - (m + 1)) (m + 1) = F) := zdX (fun h => by rw [<- GX, if_pos ⟨lt, h⟩])
         have STP : Hid (j8 k0 (l.getD (m - 1) 0) (l.getD m 0) = false -> F = m) := zdX (fun h => by rw [<- GX, if_neg (fun z => by rw [h] at z; cases z.2)])
         have cm := CC.out m lt wr hI.out.2
         have CA := zdX (fun W hb => CC.out (m - 1) (by omega) W hb)
         have HBW := zdX hI.out.2
         have TK : Hid (j8 k0 (l.getD (m - 1) 0) (l.getD m 0) = if zd (l.getD m 0) = 2 \/ zd (l.getD m 0) = 4 \/ zd (l.getD m 0) = 3 then true else if zd (l.getD m 0) = 5 then picK k0 else if zd (l.getD m 0) = 7 \/ zd (l.getD m 0) = 8 then picK k0 && decide (zd (l.getD (m - 1) 0) = 3) else false) := zdX rfl
         have KM := zdX (KK.out (l.getD m 0))
         have KA := zdX (KK.out (l.getD (m - 1) 0))
         have kmr := QO (l.getD m 0)
         clear FU GX hI
         generalize j8 k0 (l.getD (m - 1) 0) (l.getD m 0) = T at *
         generalize l.getD m 0 = rm at *
         generalize l.getD (m - 1) 0 = ra at *
         generalize zd rm = km at *
         go_wp2_with fail
         refine (KM.out _).mono ?_; rintro e wx ⟨rfl, hbx⟩
         have HBx := zdX (jg HBW.out HBW.out.size hbx)
         clear hbx cm
         have q : km = 0 \/ km = 1 \/ km = 2 \/ km = 3 \/ km = 4 \/ km = 5 \/ km = 6 \/ km = 7 \/ km = 8 \/ km = 9 := by omega
         clear kmr
         rcases q with rfl | rfl | rfl | rfl | rfl | rfl | rfl | rfl | rfl | rfl
         ·have ST := zdX (STP.out (by rw [TK.out]; rfl))
          go_wp2_with fail
          rw [Exit.noGoto_ret]
          exact bodyPost_ret (v := .tuple #[.int .i64 (m : Int), .int .i64 V]) (by simp [results, Tryz.results144, go_sem]) rfl ⟨by rw [ST.out], HBx.out⟩
         ·have ST := zdX (STP.out (by rw [TK.out]; rfl))
          go_wp2_with fail
          rw [Exit.noGoto_ret]
          exact bodyPost_ret (v := .tuple #[.int .i64 (m : Int), .int .i64 V]) (by simp [results, Tryz.results144, go_sem]) rfl ⟨by rw [ST.out], HBx.out⟩
         ·have NX := zdX (NXT.out (by rw [TK.out]; rfl))
          go_wp2_with fail
          go_roundw
          case rel => exact ⟨m + 1, by omega, by omega, by omega, by go_num, zdX ⟨NX.out, HBx.out⟩⟩
          case measure => simp [intOf]; omega
         ·have NX := zdX (NXT.out (by rw [TK.out]; rfl))
          go_wp2_with fail
          go_roundw
          case rel => exact ⟨m + 1, by omega, by omega, by omega, by go_num, zdX ⟨NX.out, HBx.out⟩⟩
          case measure => simp [intOf]; omega
         ·have NX := zdX (NXT.out (by rw [TK.out]; rfl))
          go_wp2_with fail
          go_roundw
          case rel => exact ⟨m + 1, by omega, by omega, by omega, by go_num, zdX ⟨NX.out, HBx.out⟩⟩
          case measure => simp [intOf]; omega
         ·have TK : Hid (T = picK k0) := zdX (by rw [TK.out]; rfl)
          cases hpk : picK k0 with
          | true =>
           have NX := zdX (NXT.out (by rw [TK.out, hpk]))
           have PK := PK.out wx
           rw [hpk] at PK
           have PK := zdX PK
           clear hpk
           go_wp2_with fail
           refine PK.out.mono ?_; rintro e wy ⟨rfl, rfl⟩
           go_wp2_with fail
           go_roundw
           case rel => exact ⟨m + 1, by omega, by omega, by omega, by go_num, zdX ⟨NX.out, HBx.out⟩⟩
           case measure => simp [intOf]; omega
          | false =>
           have ST := zdX (STP.out (by rw [TK.out, hpk]))
           have PK := PK.out wx
           rw [hpk] at PK
           have PK := zdX PK
           clear hpk
           go_wp2_with fail
           refine PK.out.mono ?_; rintro e wy ⟨rfl, rfl⟩
           go_wp2_with fail
           rw [Exit.noGoto_ret]
           exact bodyPost_ret (v := .tuple #[.int .i64 (m : Int), .int .i64 V]) (by simp [results, Tryz.results144, go_sem]) rfl ⟨by rw [ST.out], HBx.out⟩
         ·have ST := zdX (STP.out (by rw [TK.out]; rfl))
          go_wp2_with fail
          rw [Exit.noGoto_ret]
          exact bodyPost_ret (v := .tuple #[.int .i64 (m : Int), .int .i64 V]) (by simp [results, Tryz.results144, go_sem]) rfl ⟨by rw [ST.out], HBx.out⟩
         ·have TW : Hid (T = (picK k0 && decide (zd ra = 3))) := zdX (by rw [TK.out]; rfl)
          cases hpk : picK k0 with
          | true =>
           have PK := PK.out wx
           rw [hpk] at PK
           have PK := zdX PK
           have ca := CA.out wx HBx.out
           have em : ((m : Int) - 1) = ((m - 1 : Nat) : Int) := by omega
           have TV : Hid (T = decide (zd ra = 3)) := zdX (by rw [TW.out, hpk]; rfl)
           clear hpk
           go_wp2_with fail
           refine PK.out.mono ?_; rintro e wy ⟨rfl, rfl⟩
           go_wp2_with fail
           refine (KA.out _).mono ?_; rintro e wz ⟨rfl, hbz⟩
           have HBx := zdX (jg HBx.out HBx.out.size hbz)
           clear hbz ca
           by_cases z : zd ra = 3
           ·have NX := zdX (NXT.out (by rw [TV.out]; exact decide_eq_true z))
            rw [z]
            go_wp2_with fail
            go_roundw
            case rel => exact ⟨m + 1, by omega, by omega, by omega, by go_num, zdX ⟨NX.out, HBx.out⟩⟩
            case measure => simp [intOf]; omega
           ·have ST := zdX (STP.out (by rw [TV.out]; exact decide_eq_false z))
            have qz : (zd ra != 3) = true := by rw [bne_iff_ne]; exact z
            go_wp2_with fail
            rw [Exit.noGoto_ret]
            exact bodyPost_ret (v := .tuple #[.int .i64 (m : Int), .int .i64 V]) (by simp [results, Tryz.results144, go_sem]) rfl ⟨by rw [ST.out], HBx.out⟩
          | false =>
           have ST := zdX (STP.out (by rw [TW.out, hpk]; rfl))
           have PK := PK.out wx
           rw [hpk] at PK
           have PK := zdX PK
           clear hpk
           go_wp2_with fail
           refine PK.out.mono ?_; rintro e wy ⟨rfl, rfl⟩
           go_wp2_with fail
           rw [Exit.noGoto_ret]
           exact bodyPost_ret (v := .tuple #[.int .i64 (m : Int), .int .i64 V]) (by simp [results, Tryz.results144, go_sem]) rfl ⟨by rw [ST.out], HBx.out⟩
         ·have TW : Hid (T = (picK k0 && decide (zd ra = 3))) := zdX (by rw [TK.out]; rfl)
          cases hpk : picK k0 with
          | true =>
           have PK := PK.out wx
           rw [hpk] at PK
           have PK := zdX PK
           have ca := CA.out wx HBx.out
           have em : ((m : Int) - 1) = ((m - 1 : Nat) : Int) := by omega
           have TV : Hid (T = decide (zd ra = 3)) := zdX (by rw [TW.out, hpk]; rfl)
           clear hpk
           go_wp2_with fail
           refine PK.out.mono ?_; rintro e wy ⟨rfl, rfl⟩
           go_wp2_with fail
           refine (KA.out _).mono ?_; rintro e wz ⟨rfl, hbz⟩
           have HBx := zdX (jg HBx.out HBx.out.size hbz)
           clear hbz ca
           by_cases z : zd ra = 3
           ·have NX := zdX (NXT.out (by rw [TV.out]; exact decide_eq_true z))
            rw [z]
            go_wp2_with fail
            go_roundw
            case rel => exact ⟨m + 1, by omega, by omega, by omega, by go_num, zdX ⟨NX.out, HBx.out⟩⟩
            case measure => simp [intOf]; omega
           ·have ST := zdX (STP.out (by rw [TV.out]; exact decide_eq_false z))
            have qz : (zd ra != 3) = true := by rw [bne_iff_ne]; exact z
            go_wp2_with fail
            rw [Exit.noGoto_ret]
            exact bodyPost_ret (v := .tuple #[.int .i64 (m : Int), .int .i64 V]) (by simp [results, Tryz.results144, go_sem]) rfl ⟨by rw [ST.out], HBx.out⟩
          | false =>
           have ST := zdX (STP.out (by rw [TW.out, hpk]; rfl))
           have PK := PK.out wx
           rw [hpk] at PK
           have PK := zdX PK
           clear hpk
           go_wp2_with fail
           refine PK.out.mono ?_; rintro e wy ⟨rfl, rfl⟩
           go_wp2_with fail
           rw [Exit.noGoto_ret]
           exact bodyPost_ret (v := .tuple #[.int .i64 (m : Int), .int .i64 V]) (by simp [results, Tryz.results144, go_sem]) rfl ⟨by rw [ST.out], HBx.out⟩
         ·have ST := zdX (STP.out (by rw [TK.out]; rfl))
          go_wp2_with fail
          rw [Exit.noGoto_ret]
          exact bodyPost_ret (v := .tuple #[.int .i64 (m : Int), .int .i64 V]) (by simp [results, Tryz.results144, go_sem]) rfl ⟨by rw [ST.out], HBx.out⟩
        ·have e16 : m = 16 := by omega
         subst e16
         obtain ⟨m, hm⟩ : ∃ m : Nat, m = 16 := ⟨_, rfl⟩
         have ST : Hid (F = 16) := zdX (by rw [<- hI.out.1]; rfl)
         have HBx := zdX hI.out.2
         go_wp2_with fail
         rw [Exit.noGoto_ret]
         exact bodyPost_ret (v := .tuple #[.int .i64 16, .int .i64 V]) (by simp [results, Tryz.results144, go_sem]) rfl ⟨by rw [ST.out]; rfl, HBx.out⟩
       ·have en : m = n := by omega
        have ST : Hid (F = m) := zdX (by
         rw [<- hI.out.1]
         exact JT l k0 _ m (fun z => by have := z.1; rw [<- HN.out] at this; omega))
        have HBx := zdX hI.out.2
        go_wp2_with fail
        rw [Exit.noGoto_ret]
        exact bodyPost_ret (v := .tuple #[.int .i64 (m : Int), .int .i64 V]) (by simp [results, Tryz.results144, go_sem]) rfl ⟨by rw [ST.out], HBx.out⟩
end
section
open Go Go.RowKit Go.Sort
attribute [local go_sem] Oper.semAt_some
def plL : Int -> List (List Int × Int) -> List (Int × List Int × Int)
 | _, [] => []
 | p, c :: r => (p, c.1, c.2) :: plL (p + ((barr c.1).size : Int)) r
def encC (x : Int × List Int × Int) : Array Value := #[.int .i64 x.1, .agg #[.string (barr x.2.1), .int .i64 x.2.2]]
def lenV : Value -> Nat
 | .slice _ m _ => m
 | _ => 0
theorem Sees.drop {w : World} {B : Nat} {ad : Addr} {l : List Int} {k : Nat} (h : Sees w B (some ad) (rns l)) : Sees w B (some (ad.add k)) (rns (l.drop k)) := fun hne => by
 obtain ⟨ad', e, hb, hc⟩ := h (fun e => hne (by simp [rns] at e ⊢; rw [e]; simp))
 cases e
 refine ⟨_, rfl, by rw [z8]; exact hb, fun j u hj => ?_⟩
 have e : (ad.add k).add j = ad.add (k + j) := by
  unfold Addr.add
  by_cases k0 : k = 0
  ·subst k0; simp
  ·by_cases j0 : j = 0
   ·subst j0; simp
   ·rw [if_neg k0, if_neg j0, if_neg (by omega)]
    simp
    omega
 rw [e]
 refine hc (k + j) u ?_
 simp [rns, List.getElem?_drop] at hj ⊢
 exact hj
theorem Sees.take {w : World} {B : Nat} {A : Option Addr} {l : List Int} {k : Nat} (h : Sees w B A (rns l)) : Sees w B A (rns (l.take k)) := fun hne => by
 obtain ⟨ad, e, hb, hc⟩ := h (fun e => hne (by simp [rns] at e ⊢; rw [e]; simp))
 refine ⟨ad, e, hb, fun j u hj => hc j u ?_⟩
 simp [rns, List.getElem?_take] at hj ⊢
 exact hj.2
def KeepG (g : Nat) (W W' : World) : Prop := W.heap.size <= W'.heap.size /\ W'.heap[g]? = W.heap[g]?
theorem Sees.keepG {W W' : World} {g : Nat} {A : Option Addr} {xs : List Value} (h : Sees W W.heap.size A xs) (hA : ∀ ad, A = some ad -> ad.block = g) (k : KeepG g W W') : Sees W' W'.heap.size A xs := fun hne => by
 obtain ⟨ad, rfl, hb, hc⟩ := h hne
 refine ⟨ad, rfl, Nat.lt_of_lt_of_le hb k.1, fun j u hj => ?_⟩
 have e : W'.cell? (ad.add j) = W.cell? (ad.add j) := World.cell?_of_block (by rw [z8, hA ad rfl]; exact k.2)
 rw [e]
 exact hc j u hj
set_option maxHeartbeats 8000000 in
set_option maxRecDepth 100000 in
theorem d_all1 (n : Nat) (hn : 1 <= n) (y bn g : Nat) (A0 : Option Addr) (c0 : Nat) (l : List Int) (hl : l.length <= 35184372000000) (hc0 : l.length <= c0) (hr : ∀ r ∈ l, 0 <= r /\ r < 2097152) (J Jx : List (Int × List Int × Int) -> World -> Prop)
  (hJ : ∀ pre W W', J pre W -> Below W.heap.size W W' -> J pre W') (hA0 : ∀ ad, A0 = some ad -> ad.block = g)
  (hY : ∀ pre x W, J pre W -> pre.length < (plL 0 (clL l)).length -> YieldAt Fence.wide (n - 1) Tryz.prog y (encC x) W fun e W' =>
   (e = .returned (.bool true) /\ J (pre ++ [x]) W' /\ KeepG g W W') \/ (e = .returned (.bool false) /\ Jx (pre ++ [x]) W'))
  (W : World) (hbn : W.cell? ⟨bn, 0, none⟩ = some (.slice A0 l.length c0)) (hS : Sees W W.heap.size A0 (rns l)) (h0 : J [] W) :
  CallsIn Fence.wide n Tryz.prog 143 #[.func (.yield y) #[] #[], .pointer (some ⟨bn, 0, none⟩)] W fun e W' => (∃ v, e = .returned v) /\
   ((∃ ys, ys = plL 0 (clL l) /\ J ys W') \/ (∃ pre, pre <+: plL 0 (clL l) /\ Jx pre W')) := by
 refine callsIn_of_wp Tryz.func143 rfl trivial ?_ rfl
 simp only [Tryz.ntmps143, List.size_toArray, List.length_cons, List.length_nil, Nat.reduceAdd, Nat.reduceSub, Array.replicate_succ, Array.replicate_zero, List.push_toArray, List.append_toArray, List.nil_append, List.cons_append]
 gi_wp2_with fail
 gi_loopw [3, 4, 5, 6, 7] (fun s3 s4 s5 s6 s7 wr => ∃ (k : Nat) (p : Int) (pre : List (Int × List Int × Int)) (A : Option Addr) (c : Nat), k <= l.length /\ s3 = .int .i64 p /\ 0 <= p /\ p <= 4 * k /\ s4 = .slice A (l.length - k) c /\ l.length - k <= c /\
  plL 0 (clL l) = pre ++ plL p (clL (l.drop k)) /\ (∀ ad, A = some ad -> ad.block = g) /\ Sees wr wr.heap.size A (rns (l.drop k)) /\ J pre wr) (fun _ s4 _ _ _ _ => lenV s4)
 case atStart =>
  exact ⟨0, 0, [], A0, c0, by omega, rfl, by omega, by omega, by simp, by omega, by simp, hA0, by simpa using hS, h0⟩
 case round =>
  obtain ⟨k, p, pre, A, c, hk, rfl, p0, p1, rfl, hc, hx, hA, hs, hJs⟩ := hrel
  obtain ⟨m, hm⟩ : ∃ m, m = l.length - k := ⟨_, rfl⟩
  rw [<- hm] at hc ⊢
  by_cases lt : k < l.length
  ·have m0 : 0 < m := by omega
   have HM := zdX hm
   have ml : (l.drop k).length = m := by rw [List.length_drop]; exact hm.symm
   have hne : l.drop k ≠ [] := fun e => by rw [e] at ml; simp at ml; omega
   obtain ⟨ad, rfl, hab, _⟩ := Zr hs 0 (by omega)
   have fb := x8 (l.drop k) hne
   have SS := zdX hs
   have LN := zdX (d_length (some ad) c (l.drop k) hne (by omega) wr hs)
   rw [ml] at LN fb
   have CL : Hid (clL (l.drop k) = (zJ ((l.drop k).take (zw (l.drop k))), xf (l.drop k)) :: clL (l.drop (k + zw (l.drop k)))) := zdX (by
    rw [Zg _ hne, za8 _ hne, List.drop_drop])
   have TR : Hid (∀ r ∈ (l.drop k).take (zw (l.drop k)), 0 <= r /\ r < 2097152) := zdX (fun r h => hr r (List.mem_of_mem_drop (List.mem_of_mem_take h)))
   have TL : ((l.drop k).take (zw (l.drop k))).length = zw (l.drop k) := by rw [List.length_take, ml]; omega
   have TS : Hid (∀ w', Below wr.heap.size wr w' -> Sees w' w'.heap.size (some ad) (rns ((l.drop k).take (zw (l.drop k))))) := zdX (fun w' hb => ((hs.below hb zdZ).more hb.size).take)
   have SD : Hid (∀ w', KeepG g wr w' -> Sees w' w'.heap.size (some (ad.add (zw (l.drop k)))) (rns (l.drop (k + zw (l.drop k))))) := zdX (fun w' hb => by
    rw [<- List.drop_drop]
    exact (hs.keepG hA hb).drop)
   have hAA : ∀ (b : Prop) [Decidable b] ad', (if b then some ad else some (ad.add (zw (l.drop k)))) = some ad' -> ad'.block = g := fun b _ ad' e => by
    have := hA ad rfl
    split at e
    ·cases e; exact this
    ·cases e; rw [z8]; exact this
   have gw : g < wr.heap.size := by rw [<- hA ad rfl]; exact hab
   have BZ : Hid ((barr (zJ ((l.drop k).take (zw (l.drop k))))).size <= 4 * zw (l.drop k)) := zdX (by
    have h := Z4 ((l.drop k).take (zw (l.drop k)))
    rw [TL] at h
    have e : (barr (zJ ((l.drop k).take (zw (l.drop k))))).size = (zJ ((l.drop k).take (zw (l.drop k)))).length := by
     show ((zJ ((l.drop k).take (zw (l.drop k)))).map _).toArray.size = _
     simp
    omega)
   have JH := zdX hJs
   have HX := zdX hx
   have HAA := zdX hAA
   clear hAA hA
   clear hs hx hJs hne ml hm hbn hS h0
   generalize (l.drop k).take (zw (l.drop k)) = tk at *
   generalize xf (l.drop k) = wv at *
   generalize zw (l.drop k) = f at *
   gi_wp2_with fail
   refine ⟨trivial, (callsIn_wide.2 LN.out).mono ?_⟩
   rintro e w1 ⟨rfl, hb1⟩
   have TX := zdX (d_Text (some ad) c tk (by omega) TR.out w1 (TS.out w1 hb1))
   rw [TL] at TX
   have HB1 := zdX hb1
   clear hb1
   have fm : f <= m := fb.2.1
   have fcap : f <= c := by omega
   gi_wp2_with fail
   refine ⟨trivial, (callsIn_wide.2 TX.out).mono ?_⟩
   rintro e w2 ⟨rfl, hb2⟩
   have HB2 := zdX (jg HB1.out HB1.out.size hb2)
   clear hb2
   have J2 := hJ _ _ _ JH.out HB2.out
   obtain ⟨fn, tmps, assign, body, hy, hR⟩ := hY pre (p, zJ tk, wv) w2 J2 (by rw [HX.out, CL.out]; simp [plL])
   simp only [encC] at hy
   clear J2
   gi_wp2_with fail
   refine hR.mono ?_
   rintro e W3 (⟨rfl, hJ3, hk3⟩ | ⟨rfl, hJx3⟩)
   ·have S3 := zdX (SD.out W3 ⟨Nat.le_trans HB2.out.size hk3.1, hk3.2.trans (HB2.out.block g gw)⟩)
    have J3 := zdX hJ3
    have szp : 0 <= ((barr (zJ tk)).size : Int) := by omega
    have bz := BZ.out
    obtain ⟨sz, hsz⟩ : ∃ sz, sz = (barr (zJ tk)).size := ⟨_, rfl⟩
    rw [<- hsz] at bz
    have HSZ := zdX hsz
    have NX : Hid (plL 0 (clL l) = (pre ++ [(p, zJ tk, wv)]) ++ plL (p + (sz : Int)) (clL (l.drop (k + f)))) := zdX (by
     rw [HX.out, CL.out, List.append_assoc, HSZ.out]
     rfl)
    have bt : ((barr (zJ tk)).size : Int) = (sz : Int) := by rw [hsz]
    clear hJ3 hk3 hR hy hsz szp
    gi_wp2_with fail
    go_roundw
    case rel =>
     have hm := HM.out
     refine ⟨k + f, p + sz, pre ++ [(p, zJ tk, wv)], _, c - f, by omega, rfl, by omega, by omega, by rw [show l.length - (k + f) = m - f by omega], by omega, NX.out, HAA.out _, ?_, J3.out⟩
     by_cases cf : c = f
     ·rw [if_pos cf]
      have e : l.drop (k + f) = [] := List.drop_eq_nil_of_le (by omega)
      rw [e]
      exact Sees.nil _ _ _
     ·rw [if_neg cf]
      exact S3.out
    case measure => simp [lenV]; omega
   ·have JX := zdX hJx3
    have NP : Hid ((pre ++ [(p, zJ tk, wv)]) <+: plL 0 (clL l)) := zdX (by
     rw [HX.out, CL.out]
     exact ⟨plL (p + ((barr (zJ tk)).size : Int)) (clL (l.drop (k + f))), by rw [List.append_assoc]; rfl⟩)
    clear hJx3 hR hy
    gi_wp2_with fail
    refine bodyPost_ret (results_none rfl _ _ _) rfl ?_
    exact ⟨⟨_, rfl⟩, .inr ⟨_, NP.out, JX.out⟩⟩
  ·have m0 : m = 0 := by omega
   subst m0
   have R : Hid (plL 0 (clL l) = pre) := zdX (by
    rw [hx, List.drop_eq_nil_of_le (by omega), Zf]
    simp [plL])
   have JH := zdX hJs
   clear hx hs hJs
   gi_wp2_with fail
   go_end0
   exact ⟨⟨_, rfl⟩, .inl ⟨pre, R.out.symm, JH.out⟩⟩
theorem qY {w : World} {base n : Nat} {T : TypeId} {v : Value} {xs : List Value} (h : w.ownsRow base T 1 v n xs) : ∃ A c, v = .slice A n c := by
 rcases (kP h).2 with ⟨rfl, rfl⟩ | ⟨g, c, rfl, _⟩
 ·exact ⟨_, _, rfl⟩
 ·exact ⟨_, _, rfl⟩
theorem Kj (n : Nat) (hn : 1 <= n) (bn g : Nat) (A0 : Option Addr) (c0 : Nat) (l : List Int) (hl : l.length <= 35184372000000) (hc0 : l.length <= c0) (hr : ∀ r ∈ l, 0 <= r /\ r < 2097152) (hA0 : ∀ ad, A0 = some ad -> ad.block = g) (w : World) (hb : bn < w.heap.size)
  (hbn : w.cell? ⟨bn, 0, none⟩ = some (.slice A0 l.length c0)) (hS : Sees w w.heap.size A0 (rns l)) :
  SeqStopsK Fence.wide n Tryz.prog 143 #[.pointer (some ⟨bn, 0, none⟩)] encC (KeepG g) (fun ys => ys = plL 0 (clL l)) (fun pre => pre <+: plL 0 (clL l)) (plL 0 (clL l)).length w := fun y J Jx W hW hJ _ hY h0 =>
 d_all1 n hn y bn g A0 c0 l hl hc0 hr J Jx (fun pre W W' h hb' => hJ pre W W' none h ⟨hb'.os, hb'.tape, hb'.output, hb'.size, fun k hk _ => hb'.block k hk⟩ (fun r e => by cases e)) hA0 hY W ((hW.cell (p := ⟨bn, 0, none⟩) hb).trans hbn) ((hS.below hW zdZ).more hW.size) h0
set_option maxHeartbeats 8000000 in
set_option maxRecDepth 100000 in
theorem d_All (s : ByteArray) (hs : s.size <= 35184372000000) (w : World) : Calls Tryz.prog 134 #[.string s] w fun e w' => ∃ b A c, e = .returned (.func (.func 143) #[] #[.pointer (some ⟨b, 0, none⟩)]) /\ w.heap.size <= b /\ b < w'.heap.size /\ w'.cell? ⟨b, 0, none⟩ = some (.slice A (zQ s).length c) /\ (zQ s).length <= c /\ (∀ ad, A = some ad -> w.heap.size <= ad.block /\ ad.block < w'.heap.size) /\ Sees w' w'.heap.size A (rns (zQ s)) /\ Below w.heap.size w w' := by
 have hmf : ∀ (fn : Fn) (first cap : Array Value) (w : World), (Instr.makeFunc fn first cap).run Tryz.prog w = .ok (.func fn first cap) w := fun _ _ _ _ => rfl
 have RN := zdX (Kg s hs)
 generalize zQ s = l at *
 go_enter Tryz.func134, Tryz.ntmps134
 go_wp2_with fail
 refine (RN.out _).mono ?_; rintro e w1 ⟨v, rfl, ho, hb⟩
 obtain ⟨A, c, rfl⟩ := qY ho
 have hc : l.length <= c := by
  rcases (kP ho).2 with ⟨q, z⟩ | ⟨g', c', q, _, _, h, _⟩
  ·omega
  ·cases q; exact h
 have hA : ∀ ad, A = some ad -> w.heap.size <= ad.block /\ ad.block < w1.heap.size := fun ad e => by
  rcases (kP ho).2 with ⟨q, z⟩ | ⟨g', c', q, h1, h2, _, _⟩
  ·injection q with q1 q2 q3; rw [q1] at e; cases e
  ·injection q with q1 q2 q3; rw [q1] at e; cases e; exact ⟨h1, h2⟩
 have SS := Sees.of_own ho
 go_wp2_with fail
 go_ret
 refine ⟨w1.heap.size, A, c, rfl, hb.size, by simp, by simp [go_sem], hc, fun ad e => ⟨(hA ad e).1, by have := (hA ad e).2; simp; omega⟩, ?_, hb.alloc hb.size _⟩
 exact (SS.below ((Below.refl _ w1).alloc zdZ _) zdZ).more (by simp)
end
section
open Go Go.RowKit Go.Sort
attribute [local go_sem] Oper.semAt_some
def clV (c : ByteArray × Int) : List Value := [.string c.1, .int .i64 c.2]
def cls (l : List (ByteArray × Int)) : List Value := l.flatMap clV
theorem cls_app (a b : List (ByteArray × Int)) : cls (a ++ b) = cls a ++ cls b := by unfold cls; exact List.flatMap_append
def unpl (x : Int × List Int × Int) : ByteArray × Int := (barr x.2.1, x.2.2)
theorem QP : ∀ (p : Int) (l : List (List Int × Int)), (plL p l).map unpl = l.map fun c => (barr c.1, c.2)
 | _, [] => rfl
 | p, c :: r => by
  unfold plL
  rw [List.map_cons, QP _ r, List.map_cons]
  rfl
theorem infoC : (Tryz.prog.info? 142).map (fun i => (i.zero, i.size, i.bytes)) = some (some (.agg #[.string ⟨#[]⟩, .int .i64 0]), 2, 24) := by kernel_rfl
theorem qR {w : World} {base base' n sz : Nat} {T : TypeId} {v : Value} {xs : List Value} (h : w.ownsRow base T sz v n xs) (hb : base' <= base) : w.ownsRow base' T sz v n xs := by
 refine ⟨h.1, ?_⟩
 rcases h.2 with a | ⟨g, cap, cur, h1, h2, h3⟩
 ·exact Or.inl a
 ·exact Or.inr ⟨g, cap, cur, h1, Nat.le_trans hb h2, h3⟩
theorem KeepG.put {w : World} {g : Nat} (hg : g < w.heap.size) (W : World) (l : Nat) (o o' : Obj) (hl : w.heap.size <= l) (h : W.heap[l]? = some o) (_ : o.isCells = false) (_ : o.isWalk = false) : KeepG g W (W.putObj l o') :=
 ⟨(grownBy_putObj' W l o').size, World.putObj_heap_other (by omega)⟩
theorem KeepG.trans {g : Nat} {A B C : World} (h : KeepG g A B) (k : KeepG g B C) : KeepG g A C := ⟨Nat.le_trans h.1 k.1, k.2.trans h.2⟩
set_option maxHeartbeats 8000000 in
set_option maxRecDepth 100000 in
theorem zb8 (n : Nat) (hn : 3 <= n) (s : ByteArray) (hs : s.size <= 1000000000000) (w : World) : CallsIn Fence.wide n Tryz.prog 131 #[.string s] w fun e w' => ∃ v, e = .returned v /\ w'.ownsRow w.heap.size 142 2 v (qw s).length (cls (qw s)) /\ Below w.heap.size w w' := by
 have h1 : 1 <= n := by omega
 obtain ⟨i0, hi, hz0, hz1, hz2⟩ := info_parts infoC
 have AL := zdX (d_All s (by omega))
 have RG := zdX (Z2 _ s rfl)
 have RL := vn _ s rfl
 have SP : Hid (qw s = (plL 0 (clL (zQ s))).map unpl) := zdX (by rw [QP]; rfl)
 have PN : Hid ((plL 0 (clL (zQ s))).length <= s.size) := zdX (by
  have := Z7 s
  rw [SP.out, List.length_map] at this
  exact this)
 generalize qw s = SB at *
 generalize zQ s = l at *
 refine callsIn_of_wp_marks Tryz.func131 rfl trivial ?_ rfl
 simp only [Tryz.ntmps131, List.size_toArray, List.length_cons, List.length_nil, Nat.reduceAdd, Nat.reduceSub, Array.replicate_succ, Array.replicate_zero, List.push_toArray, List.append_toArray, List.nil_append, List.cons_append]
 gi_wp2_with fail
 refine ⟨trivial, (callsIn_wide.2 (AL.out _)).mono ?_⟩
 rintro e w1 ⟨b, A, c, rfl, hb0, hb1, hbn, hc, hA, hS, hB⟩
 have bO : Boxed w1 w.heap.size 160 (.slice none 0 0) := (hB.block _ (by simp)).trans (Boxed.new w _ _)
 have HB : Below w.heap.size w w1 := jg (by go_grown) (by simp) hB
 obtain ⟨g, hg1, hg2, hg3⟩ : ∃ g, w.heap.size < g /\ g < w1.heap.size /\ ∀ ad, A = some ad -> ad.block = g := by
  rcases A with _ | ad
  ·exact ⟨b, by simp at hb0; omega, hb1, fun ad e => by cases e⟩
  ·have := hA ad rfl
   simp at this
   exact ⟨ad.block, by omega, this.2, fun ad' e => by cases e; rfl⟩
 clear hA hB hb0
 gi_wp2_with fail
 have ST := Kj (n - 1) (by omega) b g A c l (by omega) hc RG.out hg3 w1 hb1 hbn hS
 obtain ⟨N1, hN1⟩ : ∃ N1, N1 = w1.heap.size := ⟨_, rfl⟩
 refine wpIn_rangeFunc_ownH (α := Int × List Int × Int) rfl h1 (gf := 143) (lb := #[.pointer (some ⟨b, 0, none⟩)]) rfl trivial (enters_of Tryz.func143 (by kernel_rfl) rfl)
  ST KeepG.trans (KeepG.put hg2) (Below.refl _ _) (fun _ => rfl)
  (fun (pre : List (Int × List Int × Int)) (W : World) => (∃ v, Boxed W w.heap.size 160 v /\ W.ownsRow N1 142 2 v pre.length (cls (pre.map unpl)) /\ True) /\ (Below w.heap.size w W /\ N1 <= W.heap.size))
  (fun _ _ _ => False)
  (OwnFrom.and (Own.from (holdsRow_own N1 w.heap.size 160 142 2 (fun (pre : List (Int × List Int × Int)) => pre.length) (fun pre => cls (pre.map unpl)) (fun _ _ => True)) _) (OwnFrom.and (ownFrom_below zdZ HB.size) (fun _ X Y row hs hg _ => Nat.le_trans hs hg.size)))
  (fun _ _ _ _ _ hs _ _ => hs)
  ⟨⟨_, bO, World.ownsRow_nil _ _ _ _, trivial⟩, HB, by rw [hN1]; exact zdZ⟩
  (fun (x : Int × List Int × Int) a' W => ∃ Bx, w.heap.size < Bx /\ W.heap[Bx]? = some (.cells #[.string (barr x.2.1), .int .i64 x.2.2] 142 (0, 0)) /\ a' = { tmps := #[.string s, undef, .slice none 0 0, .pointer (some ⟨w.heap.size, 0, none⟩), undef, .pointer (some ⟨Bx, 0, none⟩), .string s, .func (.func 143) #[] #[.pointer (some ⟨b, 0, none⟩)], .int .i64 x.1, .agg #[.string (barr x.2.1), .int .i64 x.2.2], undef, undef, undef, undef, undef], defers := [] })
  (fun x a' _ X Y row hs hg hr => by
   obtain ⟨Bx, h1, h2, h3⟩ := hs
   refine ⟨Bx, h1, (hg.block Bx (Array.getElem?_eq_some_iff.1 h2).1 (fun e => ?_)).trans h2, h3⟩
   obtain ⟨_, o, ho, hc⟩ := hr Bx e.symm
   rw [h2] at ho
   cases ho
   cases hc)
  ?assign ?body ?done ?stop
 case assign =>
  rintro y pre x W K ⟨⟨v, hv, hrow, _⟩, hB1, hN⟩ hK
  simp only [encC]
  gi_wp2_with fail
  have hsz := hB1.size
  exact hK _ _ ((KeepsOthers.alloc _ _).from _) ⟨by simp, ((Below.refl W.heap.size W).alloc zdZ _).block g (by omega)⟩ ⟨⟨v, hv.alloc _, hrow.alloc _, trivial⟩, hB1.alloc hsz _, by simp; omega⟩ ⟨W.heap.size, hv.lt, World.alloc_heap_new W _, rfl⟩
 case body =>
  rintro y pre ⟨px, tx, wd⟩ a' W hl ⟨r, hr⟩ ⟨⟨v, hv, hrow, _⟩, hB1, hN⟩ ⟨Bx, hBx, hX, rfl⟩ hlt
  have cO := hv.cell
  have cX0 : W.cell? ⟨Bx, 0, none⟩ = some (.string (barr tx)) := by simp [World.cell?, hX]
  have cX1 : W.cell? ⟨Bx, 1, none⟩ = some (.int .i64 wd) := by simp [World.cell?, hX]
  have hpn := PN.out
  have hsz := hB1.size
  have NX : Hid (cls ((pre ++ [(px, tx, wd)]).map unpl) = cls (pre.map unpl) ++ [.string (barr tx), .int .i64 wd]) := zdX (by
   rw [List.map_append, cls_app]
   rfl)
  have LX : Hid ((pre ++ [(px, tx, wd)]).length = pre.length + 1) := zdX (by simp)
  clear hX
  generalize hbs : barr tx = bs at *
  clear hbs
  gi_wp2_with (gi_at_builtin; refine wpListIn_append_own _ rfl (.tmp 10) (.tmp 12) 160 rfl N1 142 i0 (.agg #[.string ⟨#[]⟩, .int .i64 0]) 2 24 Tryz.underlying160 hi hz0 hz1 hz2 rfl (by decide) _ pre.length _ rfl (hrow.alloc _) ⟨W.heap.size, 0, none⟩ 1 1 [.string bs, .int .i64 wd] rfl rfl (jd W _ _) (by simp [Value.oneCell']) (by unfold maxLen; omega) (by omega) (by simp; omega) ?_; intro v' w3 hown' hgrow _; obtain ⟨g', cap', rfl⟩ := ownsRow_succ hown'; obtain ⟨hv1, hv2, hr2, hk2, hb2⟩ := hv.appended (show 160 ≠ 142 by decide) (qR hrow (show w.heap.size <= N1 by omega)) hsz zdZ (qR hown' (show w.heap.size <= N1 by omega)) hgrow; have hc1 := hv1.cell; have hf1 := hv1.frozen)
  have vb : ∀ k, v.ownBlock = some k -> N1 <= k := fun k e => (hrow.lt k e).1
  have e3 : w3.heap[g]? = W.heap[g]? := (hgrow.block g (by simp; omega) (fun e => by have := vb g e.symm; omega)).trans (((Below.refl W.heap.size W).alloc zdZ _).block g (by omega))
  have e4 : w3.heap.size ≥ W.heap.size := Nat.le_trans (by simp) hgrow.size
  refine ⟨hk2.from _, ⟨hb2.size, (Below.heap_setCell _ _ _ _ (show g ≠ w.heap.size by omega)).trans e3⟩, ⟨_, hv2, ?_⟩, hB1.trans hb2, by rw [<- hN1]; exact Nat.le_trans hN hb2.size⟩
  rw [NX.out, LX.out]
  have q := hown'.kept (grownBy_setCell' w3 w.heap.size (.slice (some ⟨g', 0, none⟩) (pre.length + 1) cap')) (Or.inr (fun e => by
   have h1 := (hown'.lt _ e).1
   omega))
  rw [hN1] at q
  exact q
 case done =>
  rintro D ys W hD rfl ⟨⟨v, hv, hrow, _⟩, hB1, hN⟩ hK
  have hc := hv.cell
  gi_wp2_with fail
  refine ⟨by simp, .inl ⟨_, _, rfl, run_takeDeferred hK, ?_⟩⟩
  refine ⟨_, results_tmp rfl _ _ _, v, rfl, ?_, hB1.trans (belowK_b (w := w) zdZ W D _ _ (by have := HB.size; omega) hK rfl rfl)⟩
  rw [SP.out]
  have q := ownsRow_putObj (qR hrow (show w.heap.size <= N1 by have := HB.size; omega)) (.deferred none) hK rfl
  rw [List.length_map]
  exact q
 case stop =>
  rintro D c pre W _ _ h _
  exact h.elim
theorem d_Split (s : ByteArray) (hs : s.size <= 1000000000000) (w : World) : Calls Tryz.prog 131 #[.string s] w fun e w' => ∃ v, e = .returned v /\ w'.ownsRow w.heap.size 142 2 v (qw s).length (cls (qw s)) /\ Below w.heap.size w w' :=
 callsIn_wide.1 (zb8 5 (by decide) s hs w)
end
section
open Go.RowKit
abbrev styV (f b : Int) (a : B8) : Value := .agg #[.int .i32 f, .int .i32 b, .int .u8 (bI a)]
theorem Tells.still {k : Nat} {args : Array Value} {v : Value} (h : Tells k args v) {w : World} : Calls Tryz.prog k args w fun e w'' => e = .returned v /\ w'' = w :=
 (h w).mono fun _ _ ⟨he, hm⟩ => ⟨he, hm.symm⟩
theorem Kk (c : Int) : Tells 93 #[.int .i32 c] (.int .i32 (plC c)) := by
 intro w
 by_cases h1 : c = 1
 ·subst h1
  go_enter Tryz.func93, Tryz.ntmps93
  go_wp2
  go_ret
  exact ⟨rfl, rfl⟩
 ·cases h : jJ c
  all_goals
   have H : Hid (plC c = if jJ c = true then c else 0) := by unfold plC cnt Hid; rw [if_neg h1]
   go_enter Tryz.func93, Tryz.ntmps93
   go_wp2_with (go_at_call 130; refine (JW _ _).mono ?_; rintro e w' ⟨rfl, rfl⟩; rw [h])
   go_ret
   exact ⟨JM (by rw [H.out, h]; simp), rfl⟩
theorem st_said (c : Int) : Tells 92 #[.int .i32 c] (.int .i32 (cnt c)) := by
 intro w
 cases h : jJ c
 all_goals
  have H : Hid (cnt c = if jJ c = true then c else 0) := rfl
  go_enter Tryz.func92, Tryz.ntmps92
  go_wp2_with (go_at_call 130; refine (JW _ _).mono ?_; rintro e w' ⟨rfl, rfl⟩; rw [h])
  go_ret
  exact ⟨JM (by rw [H.out, h]; simp), rfl⟩
set_option maxHeartbeats 4000000 in
set_option maxRecDepth 100000 in
theorem Kl (f b : Int) (a : B8) : Gives 91 #[styV f b a] (styV (plC f) (plC b) a) := by
 intro w
 go_enter Tryz.func91, Tryz.ntmps91
 go_wp2_with fail
 refine wp_region_still_tail 9 (by kernel_rfl) (by kernel_rfl) ?_
 change wpStill _ _ (World.drew _) _ _ _
 simp only [zd0, zd1, zd2, zd3]
 repeat (first | still_step | still_call (Kk _).still)
 refine wpStill_nil ?_
 change wpList _ _ _ _ _ (World.drew _)
 go_wp2_with fail
 exact bodyPost_ret (v := styV (plC f) (plC b) a) (by simp [results, Tryz.results91, go_sem]) rfl ⟨rfl, by go_grown⟩
end
section
open Go.RowKit Go.Sort
theorem jY (a : Addr) (m n : Nat) : (a.add m).add n = a.add (m + n) := Go.Deep.add_add a m n
theorem add_lit (a : Addr) (n : Nat) (h : n ≠ 0) : (⟨a.block, a.off + n, none⟩ : Addr) = a.add n := by unfold Addr.add; rw [if_neg h]
def patL (p : Pat) : List Value := [.int .i32 p.fg, .int .i32 p.bg, .int .u8 (bI p.add), .int .u8 (bI p.drop)]
def SeesP (w : World) (B : Nat) (A : Option Addr) (ps : List Pat) : Prop :=
 ps ≠ [] -> ∃ ad, A = some ad /\ ad.block < B /\ ∀ j p, ps[j]? = some p -> ∀ i u, (patL p)[i]? = some u -> w.cell? (ad.add (j * 4 + i)) = some u
set_option maxHeartbeats 4000000 in
set_option maxRecDepth 100000 in
theorem st_Over (s : Sty) (A : Option Addr) (c : Nat) (ps : List Pat) (w : World) (hS : SeesP w w.heap.size A ps) (hn : ps.length <= 100000000000000) :
  Calls Tryz.prog 76 #[styV s.fg s.bg s.at_, .slice A ps.length c] w fun e w' => e = .returned (styV (ka s ps).fg (ka s ps).bg (ka s ps).at_) /\ Below w.heap.size w w' := by
 obtain ⟨n, hnn⟩ : ∃ n, n = ps.length := ⟨_, rfl⟩
 have HN := zdX hnn
 rw [<- hnn] at hn ⊢
 have HS := zdX hS
 clear hS hnn
 go_enter Tryz.func76, Tryz.ntmps76
 go_wp2_with fail
 refine (Kl _ _ _ _).mono ?_; rintro e w1 ⟨rfl, hb1⟩
 have q1 : C3 w1 w.heap.size (.int .i32 s.fg) (.int .i32 s.bg) (.int .u8 (bI s.at_)) := C3.keep (by constructor <;> simp [go_sem]) hb1 (by simp; omega)
 have q2 : C3 w1 (w.heap.size + 1) (.int .i32 0) (.int .i32 0) (.int .u8 0) := C3.keep (by constructor <;> simp [go_sem]) hb1 (by simp)
 have hB1 : Below w.heap.size w w1 := jg (by go_grown) (by simp; omega) hb1
 clear hb1
 have q1' := q1.put (.int .i32 (plC s.fg)) (.int .i32 (plC s.bg)) (.int .u8 (bI s.at_))
 have q2' := ((q2.far (b' := w.heap.size) (o := 0) (y := .int .i32 (plC s.fg)) (by omega)).far (b' := w.heap.size) (o := 1) (y := .int .i32 (plC s.bg)) (by omega)).far (b' := w.heap.size) (o := 2) (y := .int .u8 (bI s.at_)) (by omega)
 have hB1' : Below w.heap.size w (((w1.setCell ⟨w.heap.size, 0, none⟩ (.int .i32 (plC s.fg))).setCell ⟨w.heap.size, 1, none⟩ (.int .i32 (plC s.bg))).setCell ⟨w.heap.size, 2, none⟩ (.int .u8 (bI s.at_))) := ((hB1.setCell zdZ _).setCell zdZ _).setCell zdZ _
 have Q1 := zdX q1'
 have Q2 := zdX q2'
 have HB := zdX hB1'
 obtain ⟨a0, a1, a2, f0, f1, f2⟩ := q1
 clear q2 q1' q2' hB1 hB1'
 go_wp2_with fail
 go_loopw [13] (fun i wr => ∃ (k : Nat) (t : Sty), k <= n /\ i = .int .i64 k /\ Hid (t = (ps.take k).foldl xK (qa s)) /\ Hid (C3 wr w.heap.size (.int .i32 t.fg) (.int .i32 t.bg) (.int .u8 (bI t.at_)) /\ C3 wr (w.heap.size + 1) (.int .i32 0) (.int .i32 0) (.int .u8 0) /\ Below w.heap.size w wr)) (fun i _ => n - (intOf i).toNat)
 case atStart => exact ⟨0, qa s, by omega, rfl, zdX rfl, zdX ⟨Q1.out, Q2.out, HB.out⟩⟩
 case round =>
  obtain ⟨k, t, hk, rfl, ht, hc⟩ := hrel
  by_cases lt : k < n
  ·have kl : k < ps.length := by have := HN.out; omega
   obtain ⟨ad, rfl, hab, hcell⟩ := HS.out (fun e => by rw [e] at kl; cases kl)
   have hc1 := hcell k _ (List.getElem?_eq_getElem kl)
   obtain ⟨p, hp0⟩ : ∃ p, p = ps[k] := ⟨_, rfl⟩
   rw [<- hp0] at hc1
   obtain ⟨h1, h2, h3⟩ := hc.out
   have cell : ∀ i u, (patL p)[i]? = some u -> wr.cell? (ad.add (k * 4 + i)) = some u := fun i u hu => (h3.cell (p := ad.add (k * 4 + i)) (by rw [z8]; exact hab)).trans (hc1 i u hu)
   have z0 : wr.cell? (ad.add (k * 4)) = some (.int .i32 p.fg) := cell 0 _ rfl
   have z1 : wr.cell? ⟨(ad.add (k * 4)).block, (ad.add (k * 4)).off + 1, none⟩ = some (.int .i32 p.bg) := by rw [add_lit _ 1 (by decide), jY]; exact cell 1 _ rfl
   have z2 : wr.cell? ⟨(ad.add (k * 4)).block, (ad.add (k * 4)).off + 2, none⟩ = some (.int .u8 (bI p.add)) := by rw [add_lit _ 2 (by decide), jY]; exact cell 2 _ rfl
   have z3 : wr.cell? ⟨(ad.add (k * 4)).block, (ad.add (k * 4)).off + 3, none⟩ = some (.int .u8 (bI p.drop)) := by rw [add_lit _ 3 (by decide), jY]; exact cell 3 _ rfl
   have l0 := h1.lt
   have T1 : Hid (t.at_ &&& ~~~p.drop ||| p.add = (xK t p).at_) := zdX rfl
   have F1 : Hid ((xK t p).fg = if cnt p.fg = 0 then t.fg else plC (cnt p.fg)) := zdX (by
    show layC t.fg (cnt p.fg) = _
    rw [JY]; unfold layC; split <;> rfl)
   have F2 : Hid ((xK t p).bg = if cnt p.bg = 0 then t.bg else plC (cnt p.bg)) := zdX (by
    show layC t.bg (cnt p.bg) = _
    rw [JY]; unfold layC; split <;> rfl)
   have NT : Hid (xK t p = (ps.take (k + 1)).foldl xK (qa s)) := zdX (by
    rw [List.take_succ_eq_append_getElem kl, List.foldl_append, <- ht.out, hp0]; rfl)
   obtain ⟨a0, a1, a2, f0, f1, f2⟩ := h1
   clear h2 h3 cell hc1 hcell hp0
   by_cases c1 : cnt p.fg = 0
   all_goals by_cases c2 : cnt p.bg = 0
   all_goals
    have F1 := F1.out
    have F2 := F2.out
    first | rw [if_pos c1] at F1 | rw [if_neg c1] at F1
    first | rw [if_pos c2] at F2 | rw [if_neg c2] at F2
    have F1 := zdX F1
    have F2 := zdX F2
    first | (have g1 : (cnt p.fg != 0) = true := by rw [bne_iff_ne]; exact c1) | (have g1 : (cnt p.fg != 0) = false := by rw [c1]; rfl)
    first | (have g2 : (cnt p.bg != 0) = true := by rw [bne_iff_ne]; exact c2) | (have g2 : (cnt p.bg != 0) = false := by rw [c2]; rfl)
    clear c1 c2
    go_wp2_with (first | (go_at_call 92; refine (st_said _ _).mono ?_; rintro e w' ⟨rfl, rfl⟩) | (go_at_call 93; refine (Kk _ _).mono ?_; rintro e w' ⟨rfl, rfl⟩))
    go_roundw
    case rel =>
     refine ⟨k + 1, xK t p, by omega, by go_num, NT, ?_⟩
     have ne : w.heap.size + 1 ≠ w.heap.size := by omega
     have K := hc.out.1
     have K2 := hc.out.2.1
     have K3 := hc.out.2.2
     refine zdX ⟨?_, ?_, ?_⟩
     ·rw [F1.out, F2.out, <- T1.out]
      first | with_reducible exact ((K.set2 _).set2 _).alloc _ | with_reducible exact (((K.set2 _).set2 _).set1 _).alloc _ | with_reducible exact (((K.set2 _).set2 _).set0 _).alloc _ | with_reducible exact ((((K.set2 _).set2 _).set0 _).set1 _).alloc _
     ·first | with_reducible exact ((K2.far ne).far ne).alloc _ | with_reducible exact (((K2.far ne).far ne).far ne).alloc _ | with_reducible exact ((((K2.far ne).far ne).far ne).far ne).alloc _
     ·refine Below.alloc ?_ (by simp; omega) _
      first | with_reducible exact (K3.setCell zdZ _).setCell zdZ _ | with_reducible exact ((K3.setCell zdZ _).setCell zdZ _).setCell zdZ _ | with_reducible exact (((K3.setCell zdZ _).setCell zdZ _).setCell zdZ _).setCell zdZ _
    case measure => simp [intOf]; omega
  ·have ek : k = n := by omega
   subst ek
   have TT : Hid (t = ka s ps) := zdX (by rw [ht.out, HN.out, List.take_length]; rfl)
   obtain ⟨h1, h2, h3⟩ := hc.out
   have H3 := zdX h3
   obtain ⟨a0, a1, a2, f0, f1, f2⟩ := h1
   obtain ⟨b0, b1, b2, g0, g1, g2⟩ := h2
   clear h3
   go_wp2_with fail
   refine bodyPost_ret (v := styV (ka s ps).fg (ka s ps).bg (ka s ps).at_) (by rw [<- TT.out]; simp [results, Tryz.results76, go_sem, b0, b1, b2]) rfl ⟨rfl, ?_⟩
   exact ((H3.out.setCell (Nat.le_succ _) _).setCell (Nat.le_succ _) _).setCell (Nat.le_succ _) _
end
section
open Go.ChangeShapes Go.WideShapes Go.ChangeAt Go.RowKit
def qZ {H : Type} (d : DataW H) (t : TypeId) : Prop := ∀ m ∈ d.weights Tryz.prog t, m <= reachBytes
theorem zb9 {H : Type} {ts : List TypeId} {ds : List (DataW H)} (h : ∀ m ∈ DataW.weightsEach Tryz.prog ts ds, m <= reachBytes) {j : Nat} {t : TypeId} {d : DataW H} (ht : ts[j]? = some t) (hd : ds[j]? = some d) : qZ d t :=
 fun m hm => h m (DataW.weights_mem_each ht hd m hm)
theorem Km {H : Type} {e : TypeId} : ∀ {ds : List (DataW H)}, (∀ m ∈ DataW.weightsAll Tryz.prog e ds, m <= reachBytes) -> ∀ d ∈ ds, qZ d e
 | [], _, d, hd => by cases hd
 | x :: r, h, d, hd => by
  simp only [DataW.weightsAll, List.mem_append] at h
  rcases List.mem_cons.1 hd with rfl | hd
  ·exact fun m hm => h m (Or.inl hm)
  ·exact Km (fun m hm => h m (Or.inr hm)) d hd
theorem zca {H : Type} {t : TypeId} {fs : Array Field} {ds : List (DataW H)} (ht : Tryz.prog.underlying t = some (.struct fs)) (h : qZ (.agg ds) t) {j : Nat} {u : TypeId} {d : DataW H} (hu : (fs.toList.map (·.type))[j]? = some u) (hd : ds[j]? = some d) : qZ d u := by
 unfold qZ at h
 simp only [DataW.weights, ht] at h
 exact zb9 h hu hd
theorem zcb {H : Type} {t e : TypeId} {es rs : List (DataW H)} (ht : Tryz.prog.underlying t = some (.slice e)) (h : qZ (.slice es rs) t) : (es.length + rs.length) * Tryz.prog.bytesOf e <= reachBytes /\ ∀ d ∈ es, qZ d e := by
 unfold qZ at h
 simp only [DataW.weights, ht, List.mem_cons, List.mem_append] at h
 exact ⟨h _ (Or.inl rfl), Km (fun m hm => h m (Or.inr (Or.inl hm)))⟩
theorem zcc {H : Type} {ts : List TypeId} {ds : List (DataW H)} (h : (DataW.weightsEach Tryz.prog ts ds).all (· <= reachBytes) = true) {j : Nat} {t : TypeId} {d : DataW H} (ht : ts[j]? = some t) (hd : ds[j]? = some d) : qZ d t :=
 fun m hm => by simpa using List.all_eq_true.1 h m (DataW.weights_mem_each ht hd m hm)
theorem Kn {α : Type} (f : α -> List Value) (m : Nat) (m0 : 0 < m) (hm : ∀ a, (f a).length = m) : ∀ (L : List α) (j : Nat) (u : Value), (L.flatMap f)[j]? = some u -> ∃ i k a, j = i * m + k /\ k < m /\ L[i]? = some a /\ (f a)[k]? = some u
 | [], j, u, h => by simp at h
 | a :: L, j, u, h => by
  rw [List.flatMap_cons] at h
  by_cases c : j < m
  ·rw [List.getElem?_append_left (by rw [hm]; exact c)] at h
   exact ⟨0, j, a, by omega, c, rfl, h⟩
  ·rw [List.getElem?_append_right (by rw [hm]; omega), hm] at h
   obtain ⟨i, k, b, e, hk, hi, hu⟩ := Kn f m m0 hm L (j - m) u h
   exact ⟨i + 1, k, b, by rw [Nat.succ_mul]; omega, hk, hi, hu⟩
theorem QQ {H : Type} {enc : TypeId × Value -> H} {w : World} {base : Nat} {spare : Nat -> Bool} {held : Bool} {α : Type} (f : α -> List Value) (m : Nat) (m0 : 0 < m) (hm : ∀ a, (f a).length = m) (dflt : α) (ok : α -> Prop) {t e : TypeId} (ht : Tryz.prog.underlying t = some (.slice e)) (hC : Tryz.prog.cellsOf e = m)
  (each : ∀ (n : Nat) (cs : List Value) (y : DataW H × List MemPlace), DataW.trod enc Tryz.prog w base spare held n e cs = some y -> qZ y.1 e -> ∃ a, cs = f a /\ ok a)
  {fuel : Nat} {cs : List Value} {y : DataW H × List MemPlace} (h : DataW.trod enc Tryz.prog w base spare held fuel t cs = some y) (sp : ∀ b, spare b = true) (hw : qZ y.1 t) :
  ∃ (A : Option Addr) (c : Nat) (L : List α), cs = [.slice A L.length c] /\ (A = none -> c = 0) /\ L.length <= c /\ c * Tryz.prog.bytesOf e <= reachBytes /\ Sees w w.heap.size A (L.flatMap f) /\ ∀ x ∈ L, ok x := by
 rcases DataW.trod_slice ht h with ⟨h0, _⟩ | ⟨a, len, cap, elems, rest, n, _, rfl, hx, hb, hl, hcm, hlen, hel, hsp, hns⟩
 ·exact ⟨none, 0, [], h0, fun _ => rfl, zdZ, by rw [Nat.zero_mul]; exact Nat.zero_le _, Sees.nil _ _ _, fun x hx => by cases hx⟩
 ·rw [hx] at hw
  obtain ⟨w1, w2⟩ := zcb ht hw
  have hr := (hsp (sp _)).1
  have E : ∀ i, i < len -> ∃ x, (∀ k u, (f x)[k]? = some u -> w.cell? (a.add (i * m + k)) = some u) /\ ok x := by
   intro i hi
   have hy := hel i hi
   have hi2 : i < elems.length := by omega
   rw [List.getElem?_eq_getElem hi2, hC, Option.bind_eq_some_iff] at hy
   obtain ⟨cs', hcs, hy'⟩ := hy
   obtain ⟨x, rfl, hok⟩ := each n cs' _ hy' (w2 _ (List.mem_map.2 ⟨_, List.getElem_mem hi2, rfl⟩))
   refine ⟨x, fun k u hu => ?_, hok⟩
   have lt : k < m := by rw [<- hm x]; exact (List.getElem?_eq_some_iff.1 hu).1
   have := (World.cells?_some hcs).2.2 k lt
   rw [jY] at this
   exact this.trans hu
  have hN : ((List.range len).map fun i => if h : i < len then (E i h).choose else dflt).length = len := by simp
  have hAt : ∀ i x, ((List.range len).map fun i => if h : i < len then (E i h).choose else dflt)[i]? = some x -> (∀ k u, (f x)[k]? = some u -> w.cell? (a.add (i * m + k)) = some u) /\ ok x := by
   intro i x hi
   rw [List.getElem?_map] at hi
   obtain ⟨j, hj, rfl⟩ := Option.map_eq_some_iff.1 hi
   obtain ⟨lt, e2⟩ := List.getElem?_eq_some_iff.1 hj
   rw [List.length_range] at lt
   rw [List.getElem_range] at e2
   subst e2
   simp only [dif_pos lt]
   exact (E i lt).choose_spec
  refine ⟨some a, cap, (List.range len).map (fun i => if h : i < len then (E i h).choose else dflt), by rw [hN], (fun z => by cases z), by rw [hN]; exact hl, ?_, ?_, ?_⟩
  ·simp only [List.length_map] at w1
   rw [hlen, hr] at w1
   rw [show len + (cap - len) = cap by omega] at w1
   exact w1
  ·have key : ∀ j u, (((List.range len).map fun i => if h : i < len then (E i h).choose else dflt).flatMap f)[j]? = some u -> w.cell? (a.add j) = some u := by
    intro j u hj
    obtain ⟨i, k, x, rfl, hk, hi, hu⟩ := Kn f m m0 hm _ j u hj
    exact (hAt i x hi).1 k u hu
   intro hne
   refine ⟨a, rfl, ?_, key⟩
   obtain ⟨u, r, hur⟩ := List.exists_cons_of_ne_nil hne
   have := block_lt_of_cell (key 0 u (by rw [hur]; rfl))
   rw [z8] at this
   exact this
  ·intro x hx
   obtain ⟨i, hi⟩ := List.mem_iff_getElem?.1 hx
   exact (hAt i x hi).2
section
variable {H : Type} {enc : TypeId × Value -> H} {w : World} {base : Nat} {spare : Nat -> Bool} {held : Bool}
theorem flat_one (k : IntKind) (L : List Int) : L.flatMap (fun n => [Value.int k n]) = L.map (Value.int k) := by
 induction L with
 | nil => rfl
 | cons a l ih => rw [List.flatMap_cons, ih]; rfl
structure BA where
 A : Option Addr
 c : Nat
 bs : List Int
structure ByteD (w : World) (B : Nat) (x : BA) : Prop where
 nil : x.A = none -> x.c = 0
 cap : x.bs.length <= x.c
 sz : x.bs.length <= 140737488355328
 sees : Sees w B x.A (x.bs.map (.int .u8))
 rng : ∀ b ∈ x.bs, 0 <= b /\ b < 256
set_option maxRecDepth 100000 in
theorem open_u8s {n : Nat} {cs : List Value} {y : DataW H × List MemPlace} (h : DataW.trod enc Tryz.prog w base spare held n 27 cs = some y) (sp : ∀ b, spare b = true) (hw : qZ y.1 27) : ∃ x : BA, cs = [.slice x.A x.bs.length x.c] /\ ByteD w w.heap.size x := by
 have cb : Tryz.prog.bytesOf 5 = 1 := by kernel_rfl
 obtain ⟨A, c, L, h1, h2, h3, h4, h5, h6⟩ := QQ (fun n => [Value.int .u8 n]) 1 (by decide) (fun _ => rfl) (0 : Int) (fun b => 0 <= b /\ b < 256) Tryz.underlying27 (by kernel_rfl) (fun n cs y h _ => by
  obtain ⟨b, e, _, wf⟩ := DataW.trod_int Tryz.underlying5 h
  have := bounds_u8 wf
  exact ⟨b, e, by omega⟩) h sp hw
 rw [cb] at h4
 rw [flat_one] at h5
 exact ⟨⟨A, c, L⟩, h1, h2, h3, by unfold reachBytes at h4; show L.length <= _; omega, h5, h6⟩
end
section
variable {w w' : World}
theorem ByteD.below {B n : Nat} {x : BA} (h : ByteD w B x) (hb : Below n w w') (hB : B <= n) : ByteD w' B x := ⟨h.nil, h.cap, h.sz, h.sees.below hb hB, h.rng⟩
theorem ByteD.more {B B' : Nat} {x : BA} (h : ByteD w B x) (hB : B <= B') : ByteD w B' x := ⟨h.nil, h.cap, h.sz, h.sees.more hB, h.rng⟩
structure FA where
 at_ : Int
 b : BA
def FA.frm (x : FA) : Frm := ⟨x.at_, x.b.bs⟩
def frV (x : FA) : List Value := [.int .i64 x.at_, .slice x.b.A x.b.bs.length x.b.c]
structure FrD (w : World) (B : Nat) (x : FA) : Prop where
 b : ByteD w B x.b
 rng : -9223372036854775808 <= x.at_ /\ x.at_ <= 9223372036854775807
theorem FrD.below {B n : Nat} {x : FA} (h : FrD w B x) (hb : Below n w w') (hB : B <= n) : FrD w' B x := ⟨h.b.below hb hB, h.rng⟩
theorem FrD.more {B B' : Nat} {x : FA} (h : FrD w B x) (hB : B <= B') : FrD w B' x := ⟨h.b.more hB, h.rng⟩
structure FrsD (w : World) (B : Nat) (A : Option Addr) (c : Nat) (L : List FA) : Prop where
 nil : A = none -> c = 0
 cap : L.length <= c
 sz : L.length * 32 <= 140737488355328
 sees : Sees w B A (L.flatMap frV)
 ok : ∀ x ∈ L, FrD w B x
theorem FrsD.below {B n : Nat} {A : Option Addr} {c : Nat} {L : List FA} (h : FrsD w B A c L) (hb : Below n w w') (hB : B <= n) : FrsD w' B A c L := ⟨h.nil, h.cap, h.sz, h.sees.below hb hB, fun x m => (h.ok x m).below hb hB⟩
theorem FrsD.more {B B' : Nat} {A : Option Addr} {c : Nat} {L : List FA} (h : FrsD w B A c L) (hB : B <= B') : FrsD w B' A c L := ⟨h.nil, h.cap, h.sz, h.sees.more hB, fun x m => (h.ok x m).more hB⟩
theorem QR : ∀ (L : List FA) (i : Nat) (h : i < L.length), (L.flatMap frV)[i * 2]? = some (.int .i64 (L[i]).at_) /\ (L.flatMap frV)[i * 2 + 1]? = some (.slice (L[i]).b.A (L[i]).b.bs.length (L[i]).b.c)
 | [], i, h => by cases h
 | p :: l, 0, _ => ⟨rfl, rfl⟩
 | p :: l, i + 1, h => by
  have ih := QR l i (by simpa using h)
  have e : (p :: l).flatMap frV = .int .i64 p.at_ :: .slice p.b.A p.b.bs.length p.b.c :: l.flatMap frV := rfl
  rw [e, show (i + 1) * 2 = i * 2 + 1 + 1 by omega]
  simpa using ih
theorem FrsD.at {B : Nat} {A : Option Addr} {c : Nat} {L : List FA} (h : FrsD w B A c L) (i : Nat) (hi : i < L.length) : ∃ ad, A = some ad /\ ad.block < B /\ w.cell? (ad.add (i * 2)) = some (.int .i64 (L[i]).at_) /\ w.cell? ⟨(ad.add (i * 2)).block, (ad.add (i * 2)).off + 1, none⟩ = some (.slice (L[i]).b.A (L[i]).b.bs.length (L[i]).b.c) := by
 have n := QR L i hi
 obtain ⟨ad, e, hb, hc⟩ := h.sees (fun e => by rw [e] at n; simp at n)
 refine ⟨ad, e, hb, hc _ _ n.1, ?_⟩
 rw [vH (ad.add (i * 2)) 1 (by decide), jY]
 exact hc _ _ n.2
end
end
section
open Go.ChangeShapes Go.WideShapes Go.ChangeAt Go.RowKit
section
variable {H : Type} {enc : TypeId × Value -> H} {w : World} {base : Nat} {spare : Nat -> Bool} {held : Bool}
set_option maxRecDepth 100000 in
theorem zcd {n : Nat} {cs : List Value} {y : DataW H × List MemPlace} (h : DataW.trod enc Tryz.prog w base spare held n 47 cs = some y) (sp : ∀ b, spare b = true) (hw : qZ y.1 47) : ∃ x : FA, cs = frV x /\ FrD w w.heap.size x := by
 obtain ⟨y0, y1, m, hx, hl, h0, h1⟩ := trod_struct2 Tryz.underlying47 h
 have c2 : Tryz.prog.cellsOf 47 = 2 := by kernel_rfl
 have e1 : Tryz.prog.cellsOf 2 = 1 := by kernel_rfl
 have e2 : Tryz.prog.cellsOf 27 = 1 := by kernel_rfl
 rw [c2] at hl
 rw [hx] at hw
 match cs, hl with
 | [v0, v1], _ =>
  simp [e1, e2] at h0 h1
  obtain ⟨a, e, _, wa⟩ := DataW.trod_int Tryz.underlying2 h0
  obtain rfl := (List.cons.inj e).1
  have l1 : qZ y1.1 27 := zca (j := 1) Tryz.underlying47 hw rfl rfl
  obtain ⟨x, e, q⟩ := open_u8s h1 sp l1
  obtain rfl := (List.cons.inj e).1
  exact ⟨⟨a, x⟩, rfl, q, bounds_i64 wa⟩
def noFA : FA := ⟨0, ⟨none, 0, []⟩⟩
set_option maxRecDepth 100000 in
theorem zce {n : Nat} {cs : List Value} {y : DataW H × List MemPlace} (h : DataW.trod enc Tryz.prog w base spare held n 24 cs = some y) (sp : ∀ b, spare b = true) (hw : qZ y.1 24) : ∃ (A : Option Addr) (c : Nat) (L : List FA), cs = [.slice A L.length c] /\ FrsD w w.heap.size A c L := by
 have cb : Tryz.prog.bytesOf 47 = 32 := by kernel_rfl
 obtain ⟨A, c, L, h1, h2, h3, h4, h5, h6⟩ := QQ frV 2 (by decide) (fun _ => rfl) noFA (FrD w w.heap.size) Tryz.underlying24 (by kernel_rfl) (fun n cs y h l => zcd h sp l) h sp hw
 rw [cb] at h4
 exact ⟨A, c, L, h1, h2, h3, by unfold reachBytes at h4; omega, h5, h6⟩
end
end
section
open Go Go.RowKit Go.Sort
theorem or_128 (n : Nat) : bits .or .u8 ((n % 256 : Nat) : Int) 128 = ((128 + n % 128 : Nat) : Int) := by
 have h : ∀ a : Fin 256, bits .or .u8 ((a.val : Nat) : Int) 128 = ((128 + a.val % 128 : Nat) : Int) := by decide +kernel
 have := h ⟨n % 256, by omega⟩
 simp only at this
 rw [this]
 omega
theorem and_127 (n : Nat) (h : n < 256) : bits .and .u8 (n : Int) 127 = ((n % 128 : Nat) : Int) := by
 have q : ∀ a : Fin 256, bits .and .u8 ((a.val : Nat) : Int) 127 = ((a.val % 128 : Nat) : Int) := by decide +kernel
 exact q ⟨n, h⟩
theorem zcf (n : Int) (h₀ : 0 <= n) (h₁ : n < 2 ^ 32) : IntKind.u32.wrap n = n := by rw [IntKind.wrap_u32]; omega
theorem zcg (n : Int) (h₀ : 0 <= n) (h₁ : n < 2 ^ 62) : IntKind.i64.wrap n = n := by
 have e : (2 : Int) ^ 62 = 4611686018427387904 := by decide
 rw [e] at h₁
 exact zdY _ (by omega)
theorem or_digit (a d i : Nat) (ha : a < 128 ^ i) (hd : d < 128) (hi : i <= 5) : bits .or .i64 (a : Int) ((d * 128 ^ i : Nat) : Int) = ((a + d * 128 ^ i : Nat) : Int) := by
 have p : 128 ^ i <= 128 ^ 5 := Nat.pow_le_pow_right (by decide) hi
 have p5 : 128 ^ 5 = 34359738368 := by decide
 have m : d * 128 ^ i <= 127 * 34359738368 := Nat.mul_le_mul (by omega) (by omega)
 have e : 128 ^ i = 2 ^ (7 * i) := by rw [Nat.pow_mul]
 have z : (2 : Nat) ^ 62 = 4611686018427387904 := by decide
 rw [(bits_nat .i64 62 (by decide) zcg a (d * 128 ^ i) (by omega) (by omega)).2, Nat.or_comm]
 congr 1
 rw [e] at ha ⊢
 rw [Nat.mul_comm d, <- Nat.two_pow_add_eq_or_of_lt ha d, Nat.add_comm]
theorem or_sum (a c : Nat) (ha : a < 65536) (hc : c < 65536) : bits .or .u32 ((65536 * c : Nat) : Int) (a : Int) = ((65536 * c + a : Nat) : Int) := by
 rw [(bits_nat .u32 32 (by decide) zcf (65536 * c) a (by omega) (by omega)).2]
 congr 1
 exact (Nat.two_pow_add_eq_or_of_lt (i := 16) ha c).symm
end
section
theorem Zs {l : List Frm} (h : qV l = 0) : jG l = false /\ l.length <= 16384 /\ zG 0 l = true := by
 unfold qV at h
 have mn : zZ l = false := by cases q : zZ l with | false => rfl | true => rw [q] at h; simp at h
 rw [mn] at h
 have tm : qU l = true := by cases q : qU l with | true => rfl | false => rw [q] at h; simp at h
 rw [zZ, Bool.or_eq_false_iff] at mn
 exact ⟨mn.1, by have := of_decide_eq_false mn.2; omega, tm⟩
def qF (b : Int) (l : List Frm) : List Frm := l.map fun f => ⟨f.at_ + b, f.bs⟩
def zD : List Frm -> Int
 | [] => 0
 | [f] => f.at_
 | _ :: g :: l => zD (g :: l)
def xp (l : List Frm) (time : Int) : Nat := (l.filter fun f => decide (f.at_ <= time)).length
def z6 (w h : Int) (l : List Frm) : Trm := qP (newV w h) (l.flatMap (·.bs))
theorem play_app (w h : Int) (a b : List Frm) : z6 w h (a ++ b) = qP (z6 w h a) (b.flatMap (·.bs)) := by
 unfold z6 qP
 rw [List.flatMap_append, List.foldl_append]
theorem QS (l : List Frm) : qF 0 l = l := by
 unfold qF
 conv => rhs; rw [<- List.map_id l]
 refine List.map_congr_left fun f _ => ?_
 simp
theorem zch (b : Int) (l : List Frm) : (qF b l).length = l.length := by unfold qF; rw [List.length_map]
end
section
def Byt (D : List Int) : Prop := ∀ b ∈ D, 0 <= b /\ b < 256
theorem Byt.app {a b : List Int} (ha : Byt a) (hb : Byt b) : Byt (a ++ b) := fun x m => (List.mem_append.1 m).elim (ha x) (hb x)
theorem Ko : ∀ (k : Nat) (n : Int), 0 <= n -> n < 128 ^ (k + 1) -> Byt (numF k n)
 | 0, n, h0, h1 => fun b m => by
  rw [numF, List.mem_singleton] at m
  subst m
  have e : (128 : Int) ^ (0 + 1) = 128 := by decide
  rw [e] at h1
  omega
 | k + 1, n, h0, h1 => by
  by_cases c : n < 128
  ·rw [QC (k + 1) n c]
   intro b m
   rw [List.mem_singleton] at m
   subst m
   omega
  ·rw [QB k n (by omega)]
   have e : (128 : Int) ^ (k + 1 + 1) = 128 ^ (k + 1) * 128 := Int.pow_succ _ _
   rw [e] at h1
   have ih := Ko k (n / 128) (by omega) (Int.ediv_lt_of_lt_mul (by decide) h1)
   intro b m
   rcases List.mem_cons.1 m with rfl | m
   ·omega
   ·exact ih b m
theorem xS {n : Int} (h0 : 0 <= n) (h1 : n <= 1099511627776) : Byt (numL n) := Ko 9 n h0 (by
 have e : (128 : Int) ^ (9 + 1) = 1180591620717411303424 := by decide
 rw [e]
 omega)
theorem Kp : ∀ (l : List Int) (a c : Int), 0 <= a -> a < 65521 -> 0 <= c -> c < 65521 -> (0 <= (sumF l a c).1 /\ (sumF l a c).1 < 65521) /\ (0 <= (sumF l a c).2 /\ (sumF l a c).2 < 65521)
 | [], a, c, a0, a1, c0, c1 => ⟨⟨a0, a1⟩, c0, c1⟩
 | b :: l, a, c, a0, a1, c0, c1 => by
  rw [sumF]
  exact Kp l _ _ (by omega) (by omega) (by omega) (by omega)
theorem vI (D : List Int) : 0 <= sumL D /\ sumL D < 4294967296 := by
 have h := Kp D 1 0 (by decide) (by decide) (by decide) (by decide)
 unfold sumL
 omega
theorem zci (D : List Int) : Byt (qW (sumL D)) := by
 have h := vI D
 intro b m
 unfold qW at m
 simp only [List.mem_cons, List.not_mem_nil, or_false] at m
 rcases m with rfl | rfl | rfl | rfl <;> omega
theorem QT : ∀ (l : List Frm) (last : Int), 0 <= last -> zG last l = true -> jG l = false -> (∀ f ∈ l, Byt f.bs) -> Byt (jH last l)
 | [], _, _, _, _, _ => fun b m => by cases m
 | f :: l, last, h0, ht, hl, hb => by
  rw [zG, Bool.and_eq_true] at ht
  have t1 := of_decide_eq_true ht.1
  rw [jG, List.any_cons, Bool.or_eq_false_iff] at hl
  have l1 := of_decide_eq_false hl.1
  rw [jH]
  exact (((xS (by omega) (by omega)).app (xS (by omega) (by omega))).app (hb f (by simp))).app (QT l f.at_ (by omega) ht.2 hl.2 (fun g m => hb g (by simp [m])))
theorem zcj {w h : Int} {l : List Frm} {b : List Int} (e : encT w h l = (b, 0)) : qc w h = true /\ qV l = 0 /\ b = qu (xm w h l.length ++ jH 0 l) /\ b.length <= 1048576 := by
 unfold encT at e
 split at e
 ·cases e
 rename_i sz
 split at e
 ·rename_i ne
  simp only [Prod.mk.injEq] at e
  exact absurd e.2 ne
 rename_i ck
 split at e
 ·cases e
 rename_i c hc
 have ec := Zq l _ _ c hc
 split at e
 ·cases e
 rename_i len
 simp only [Prod.mk.injEq, and_true] at e
 refine ⟨by cases q : qc w h with | false => exact absurd q sz | true => rfl, by omega, by rw [<- e, ec], by rw [<- e]; omega⟩
theorem enc_byt {w h : Int} {l : List Frm} {b : List Int} (e : encT w h l = (b, 0)) (hb : ∀ f ∈ l, Byt f.bs) : Byt b := by
 obtain ⟨sz, ck, eb, _⟩ := zcj e
 have s := of_decide_eq_true sz
 obtain ⟨p1, p2, p3⟩ := Zs ck
 rw [eb]
 unfold qu xm
 have hd : Byt [70, 77, 1] := by intro x m; simp at m; rcases m with rfl | rfl | rfl <;> decide
 exact ((((hd.app (xS s.1 (by omega))).app (xS s.2.2.1 (by omega))).app (xS (by omega) (by omega))).app (QT l 0 (by decide) p3 p1 hb)).app (zci _)
def alL : List Frm := [⟨10, [97, 98]⟩, ⟨20, [13, 120]⟩]
def alB : List Int := (encT 3 1 alL).1
theorem QU : encT 3 1 alL = (alB, 0) := by decide +kernel
theorem al_dec : decT alB = ⟨3, 1, alL, 0, 0⟩ := dec_enc 3 1 alL alB QU
theorem al_one : ((z6 3 1 (alL.take 1)).cells.getD 0 celD).text = ⟨#[97]⟩ /\ (z6 3 1 (alL.take 1)).cells.length = 3 := by decide +kernel
theorem al_two : ((z6 3 1 alL).cells.getD 0 celD).text = ⟨#[120]⟩ /\ ((z6 3 1 alL).cells.getD 1 celD).text = ⟨#[98]⟩ /\ (z6 3 1 alL).cells.length = 3 := by decide +kernel
end
section
open Go.RowKit
structure Rw where
 lo : Nat
 hi : Nat
 T : TypeId
 sz : Nat
 v : Value
 n : Nat
 xs : List Value
structure Row1 (w : World) (r : Rw) : Prop where
 own : w.ownsRow r.lo r.T r.sz r.v r.n r.xs
 top : ∀ g, r.v.ownBlock = some g -> g < r.hi
structure Rows (W0 w : World) (rs : List Rw) : Prop where
 all : ∀ r ∈ rs, Row1 w r /\ W0.heap.size <= r.lo /\ r.hi <= w.heap.size
 ord : rs.Pairwise fun r s => r.hi <= s.lo
 bel : Below W0.heap.size W0 w
end
section
open Go.RowKit Go.Sort
def ints (l : List Int) : List Value := l.map (.int .i64)
end
section
open Go.RowKit Go.Sort
structure EnvS (w : World) : Prop where
 on : ∀ k, k < 8 -> w.cell? ⟨0, k, none⟩ = some (.int .i64 (onN k))
 off : ∀ k, k < 8 -> w.cell? ⟨1, k, none⟩ = some (.int .i64 (offN k))
theorem EnvS.of_below {B : Nat} {w w' : World} (h : EnvS w) (hb : Below B w w') (hB : w.heap.size <= B) : EnvS w' where
 on := fun k hk => (hb.cell (p := ⟨0, k, none⟩) (Nat.lt_of_lt_of_le (show 0 < w.heap.size from block_lt_of_cell (h.on 0 (by decide))) hB)).trans (h.on k hk)
 off := fun k hk => (hb.cell (p := ⟨1, k, none⟩) (Nat.lt_of_lt_of_le (show 1 < w.heap.size from block_lt_of_cell (h.off 0 (by decide))) hB)).trans (h.off k hk)
end
section
open Go.RowKit Go.Sort
theorem zck {w : World} {base : Nat} {T : TypeId} {v : Value} {n : Nat} {xs : List Value} (h : w.ownsRow base T 2 v n xs) : (v = .slice none 0 0 /\ n = 0) \/ ∃ g c, v = .slice (some ⟨g, 0, none⟩) n c /\ base <= g /\ g < w.heap.size /\ n <= c /\ c <= maxLen /\ ∀ j u, xs[j]? = some u -> w.cell? ⟨g, j, none⟩ = some u := by
 rcases h.2 with a | ⟨g, cap, cur, h1, h2, h3, h4⟩
 ·exact Or.inl a
 ·refine Or.inr ⟨g, cap, h1, h2, (Array.getElem?_eq_some_iff.1 h3).1, h4.1, h4.2.1, fun j u hj => ?_⟩
  have q := h.cells (g := g) (by rw [h1]; rfl) j u hj
  have e : ((⟨g, 0, none⟩ : Addr).add j) = ⟨g, j, none⟩ := by
   unfold Addr.add
   split
   ·rename_i z; rw [z]
   ·simp
  rwa [e] at q
def oneV (s : ByteArray) : Option Int -> Value
 | some u => .tuple #[.agg #[.string s, .int .i64 u], .bool true]
 | none => .tuple #[.agg #[.string ⟨#[]⟩, .int .i64 0], .bool false]
set_option maxHeartbeats 8000000 in
set_option maxRecDepth 100000 in
theorem d_One (s : ByteArray) (hs : s.size <= 1000000000000) (w : World) : Calls Tryz.prog 94 #[.string s] w fun e w' => e = .returned (oneV s (oneB s)) /\ Below w.heap.size w w' := by
 have SP := zdX (d_Split s hs)
 have SL := Z7 s
 have O0 : Hid (qw s = [] -> oneB s = none) := zdX (fun h => by unfold oneB; rw [h])
 have O1 : Hid (∀ c, qw s = [c] -> oneB s = if c.1 = s then some c.2 else none) := zdX (fun c h => by unfold oneB; rw [h])
 have O2 : Hid (∀ c d r, qw s = c :: d :: r -> oneB s = none) := zdX (fun c d r h => by unfold oneB; rw [h])
 generalize oneB s = o at *
 generalize qw s = L at *
 go_enter Tryz.func94, Tryz.ntmps94
 go_wp2_with fail
 refine (SP.out _).mono ?_; rintro e w1 ⟨v, rfl, ho, hb⟩
 have z0 : w1.cell? ⟨w.heap.size, 0, none⟩ = some (.string ⟨#[]⟩) := (hb.cell (p := ⟨w.heap.size, 0, none⟩) (by simp)).trans (by simp [go_sem])
 have z1 : w1.cell? ⟨w.heap.size, 1, none⟩ = some (.int .i64 0) := (hb.cell (p := ⟨w.heap.size, 1, none⟩) (by simp)).trans (by simp [go_sem])
 have f0 : w1.frozen? ⟨w.heap.size, 0, none⟩ = false := (hb.frozen (p := ⟨w.heap.size, 0, none⟩) (by simp)).trans (by simp [go_sem])
 have f1 : w1.frozen? ⟨w.heap.size, 1, none⟩ = false := (hb.frozen (p := ⟨w.heap.size, 1, none⟩) (by simp)).trans (by simp [go_sem])
 have HB := zdX (show Below w.heap.size w w1 from jg (by go_grown) (by simp) hb)
 have FN := zck ho
 clear ho hb
 rcases L with _ | ⟨⟨ct, cw⟩, _ | ⟨d, r⟩⟩
 ·have R := zdX (O0.out rfl)
  rcases FN with ⟨rfl, _⟩ | ⟨g, c, rfl, _⟩
  all_goals
   go_wp2_with fail
   refine bodyPost_ret (v := .tuple #[.agg #[.string ⟨#[]⟩, .int .i64 0], .bool false]) (by simp [results, Tryz.results94, go_sem, z0, z1]) rfl ⟨by rw [R.out]; rfl, ?_⟩
   exact (HB.out.setCell zdZ _).setCell zdZ _
 ·have RR := zdX (O1.out _ rfl)
  rcases FN with ⟨_, h⟩ | ⟨g, c, rfl, hg0, hg1, _, _, hc⟩
  ·cases h
  ·have c0 : w1.cell? ⟨g, 0, none⟩ = some (.string ct) := hc 0 _ rfl
   have c1 : w1.cell? ⟨g, 1, none⟩ = some (.int .i64 cw) := hc 1 _ rfl
   have ne : w.heap.size ≠ g := by simp at hg0; omega
   simp only [List.length_cons, List.length_nil]
   by_cases e : ct = s
   ·have q : (ct.toList == s.toList) = true := by rw [Z6]; exact decide_eq_true e
    have R : Hid (o = some cw) := zdX (by rw [RR.out]; exact if_pos e)
    go_wp2_with fail
    refine bodyPost_ret (v := .tuple #[.agg #[.string s, .int .i64 cw], .bool true]) (by simp [results, Tryz.results94, go_sem, z0, z1, e]) rfl ⟨by rw [R.out]; rfl, ?_⟩
    exact (HB.out.setCell zdZ _).setCell zdZ _
   ·have q : (ct.toList == s.toList) = false := by rw [Z6]; exact decide_eq_false e
    have R : Hid (o = none) := zdX (by rw [RR.out]; exact if_neg e)
    go_wp2_with fail
    refine bodyPost_ret (v := .tuple #[.agg #[.string ⟨#[]⟩, .int .i64 0], .bool false]) (by simp [results, Tryz.results94, go_sem, z0, z1]) rfl ⟨by rw [R.out]; rfl, ?_⟩
    exact (HB.out.setCell zdZ _).setCell zdZ _
 ·have R := zdX (O2.out _ _ _ rfl)
  rcases FN with ⟨_, h⟩ | ⟨g, c, rfl, hg0, hg1, _, _, hc⟩
  ·cases h
  ·obtain ⟨n, hn⟩ : ∃ n, n = (((ct, cw) :: d :: r).length) := ⟨_, rfl⟩
   rw [<- hn]
   have q : ((n : Int) == 1) = false := by simp; rw [hn]; simp; omega
   have q2 : ((n : Int) != 1) = true := by simp; rw [hn]; simp; omega
   clear hn SL hc
   go_wp2_with fail
   refine bodyPost_ret (v := .tuple #[.agg #[.string ⟨#[]⟩, .int .i64 0], .bool false]) (by simp [results, Tryz.results94, go_sem, z0, z1]) rfl ⟨by rw [R.out]; rfl, ?_⟩
   exact (HB.out.setCell zdZ _).setCell zdZ _
end
section
open Go.RowKit Go.Sort
def celV (c : Cel) : List Value := [.string c.text, .int .i8 c.wide, .int .i32 c.st.fg, .int .i32 c.st.bg, .int .u8 (bI c.st.at_)]
def ze (l : List Cel) : List Value := l.flatMap celV
theorem jI (a : Cel) (r : List Cel) : ze (a :: r) = celV a ++ ze r := by unfold ze; exact List.flatMap_cons ..
theorem Kq (a b : List Cel) : ze (a ++ b) = ze a ++ ze b := by unfold ze; exact List.flatMap_append
theorem jN (l : List Cel) : (ze l).length = l.length * 5 := by
 induction l with
 | nil => rfl
 | cons a l ih => rw [jI, List.length_append, ih, List.length_cons]; simp [celV]; omega
theorem zcl (l : List Cel) : ∀ k, ze (l.drop k) = (ze l).drop (k * 5) := by
 induction l with
 | nil => intro k; simp [ze]
 | cons a l ih =>
  intro k
  cases k with
  | zero => simp
  | succ k =>
   rw [List.drop_succ_cons, ih, jI, show (k + 1) * 5 = 5 + k * 5 by omega, <- List.drop_drop]
   rfl
theorem over0 (s : Sty) (W : World) : Calls Tryz.prog 76 #[styV s.fg s.bg s.at_, .slice none 0 0] W fun e w' => e = .returned (styV (qa s).fg (qa s).bg (qa s).at_) /\ Below W.heap.size W w' :=
 st_Over s none 0 [] W (fun h => absurd rfl h) (by simp)
structure C5 (w : World) (b : Nat) (x0 x1 x2 x3 x4 : Value) : Prop where
 c0 : w.cell? ⟨b, 0, none⟩ = some x0
 c1 : w.cell? ⟨b, 1, none⟩ = some x1
 c2 : w.cell? ⟨b, 2, none⟩ = some x2
 c3 : w.cell? ⟨b, 3, none⟩ = some x3
 c4 : w.cell? ⟨b, 4, none⟩ = some x4
theorem C5.keep {w w' : World} {B b : Nat} {x0 x1 x2 x3 x4 : Value} (h : C5 w b x0 x1 x2 x3 x4) (hb : Below B w w') (hB : b < B) : C5 w' b x0 x1 x2 x3 x4 :=
 ⟨(hb.cell (p := ⟨b, 0, none⟩) hB).trans h.c0, (hb.cell (p := ⟨b, 1, none⟩) hB).trans h.c1, (hb.cell (p := ⟨b, 2, none⟩) hB).trans h.c2, (hb.cell (p := ⟨b, 3, none⟩) hB).trans h.c3, (hb.cell (p := ⟨b, 4, none⟩) hB).trans h.c4⟩
structure C2 (w : World) (b : Nat) (x0 x1 : Value) : Prop where
 c0 : w.cell? ⟨b, 0, none⟩ = some x0
 c1 : w.cell? ⟨b, 1, none⟩ = some x1
end
end Go.Proofs.YtmaofighbpnbiaaGreatDoor
