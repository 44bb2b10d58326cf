/- What lies below tapes (kept of earlier texts: DfAb, RaF, RaG, RaH, RaB, RaC, RaD, RaE). -/
import Derived.Test.YtifoijbpbigaaaaGreatDoorDaCB
import Derived.WalkMore
import Derived.RangeFuncNested
import Derived.RangeFuncBound
import Derived.RangeFuncCalls
import Derived.RangeFuncLeaves
import Derived.Shelf.Abstract
import Derived.Shelf.RegionOpen
import Derived.WalkKit
import Derived.OwnWalkIn
import Derived.TacticsInMore
import Derived.LoopNIn
import Derived.LoopIn
import Derived.Lib.AppendStr
set_option linter.unusedVariables false
set_option linter.unusedSimpArgs false
namespace Go.Proofs.YtifoijbpbigaaaaGreatDoor
section
open Go.RowKit Go.Sort
theorem wideP_at (l : List Int) (k : Int) (hk : k = za (l.getD 0 0)) (h1 : k ≠ 1) :
  qO l = if k = 8 /\ 1 < l.length /\ l.getD 1 0 = 65039 then 2 else if k = 6 /\ 1 < l.length /\ za (l.getD 1 0) = 6 then 2 else ofK k := by
 unfold qO ofK
 rw [<- hk, if_neg h1]
 by_cases c8 : k = 8 /\ 1 < l.length /\ l.getD 1 0 = 65039
 ·rw [if_pos c8, if_pos c8]
 ·rw [if_neg c8, if_neg c8]
  by_cases c6 : k = 6 /\ 1 < l.length /\ za (l.getD 1 0) = 6
  ·rw [if_pos c6, if_pos c6]
  ·rw [if_neg c6, if_neg c6]
   by_cases c2 : k = 2 \/ k = 4 \/ k = 3
   ·rw [if_pos c2, if_pos (show k = 1 \/ k = 2 \/ k = 3 \/ k = 4 by omega)]
   ·rw [if_neg c2, if_neg (show ¬ (k = 1 \/ k = 2 \/ k = 3 \/ k = 4) by omega)]
theorem qm (a : Addr) (n : Nat) (h : n ≠ 0) : (⟨a.block, a.off + n, none⟩ : Addr) = a.add n := by unfold Addr.add; rw [if_neg h]
theorem vI (l : List Int) (base : Int) (f n : Nat) : zA l base (f + 1) n = if n < l.length /\ z6 base (l.getD (n - 1) 0) (l.getD n 0) = true then zA l base f (n + 1) else n := by
 conv => lhs; unfold zA
set_option maxHeartbeats 16000000 in
set_option maxRecDepth 100000 in
theorem d_length (A : Option Addr) (c : Nat) (l : List Int) (hne : l ≠ []) (hl : l.length <= 35184372000000) (w : World) (S : Sees w w.heap.size A (rns l)) :
  Calls Tryz.prog 102 #[.slice A l.length c] w fun e w' => e = .returned (.tuple #[.int .i64 (zl l : Int), .int .i64 (qO l)]) /\ Below w.heap.size w w' := by
 have hp : 0 < l.length := List.length_pos_iff.2 hne
 obtain ⟨ad, rfl, hab, c0⟩ := qI S 0 hp
 have CC : Hid (∀ k, k < l.length -> ∀ W, Below w.heap.size w W -> W.cell? (ad.add k) = some (.int .i32 (l.getD k 0))) := Xk (fun k hk W hb => by
  obtain ⟨ad', e, b', c'⟩ := qI S k hk
  cases e
  exact (hb.cell (p := ad.add k) (by rw [zg]; exact hab)).trans c')
 have K0 := Xk (ko (l.getD 0 0))
 have O0 := Xk (d_Of (l.getD 0 0))
 have KK := Xk (fun r => ko r)
 have kr := jv (l.getD 0 0)
 have FC : Hid (zl l = if za (l.getD 0 0) = 1 then 1 else zA l (za (l.getD 0 0)) (16 - zV l) (zV l)) := Xk rfl
 have WA := Xk (wideP_at l (za (l.getD 0 0)) rfl)
 have W1 : Hid (za (l.getD 0 0) = 1 -> qO l = 0) := Xk (fun h => by unfold qO; rw [if_pos h])
 have BK : Hid (zV l = if za (l.getD 0 0) = 6 /\ 1 < l.length /\ za (l.getD 1 0) = 6 then 2 else 1) := Xk rfl
 have GG : Hid (∀ f n, zA l (za (l.getD 0 0)) (f + 1) n = if n < l.length /\ z6 (za (l.getD 0 0)) (l.getD (n - 1) 0) (l.getD n 0) = true then zA l (za (l.getD 0 0)) f (n + 1) else n) := Xk (vI l _)
 generalize zl l = F at *
 generalize qO l = V at *
 generalize zV l = B0 at *
 clear hne S
 have c00 := CC.out 0 hp
 generalize l.getD 0 0 = r0 at *
 generalize za r0 = k0 at *
 obtain ⟨n, hn⟩ : ∃ n, n = l.length := ⟨_, rfl⟩
 rw [<- hn] at hp hl CC WA BK GG ⊢
 have HN := Xk hn
 have C00 := Xk c00
 clear hn c00
 have cx := C00.out w (Below.refl _ _)
 have ad0 : ad.add 0 = ad := by unfold Addr.add; rw [if_pos rfl]
 rw [ad0] at C00 cx
 go_enter Tryz.func102, Tryz.ntmps102
 go_wp2_with fail
 go_step3
 go_wp2_with fail
 refine (K0.out _).mono ?_; rintro e w1 ⟨rfl, hb1⟩
 have HB1 := Xk hb1
 clear hb1 cx
 by_cases k1 : k0 = 1
 ·subst k1
  have R : Hid (F = 1) := Xk (by rw [FC.out, if_pos rfl])
  have R2 : Hid (V = 0) := Xk (W1.out rfl)
  go_wp2_with fail
  rw [Exit.noGoto_ret]
  exact bodyPost_ret (v := .tuple #[.int .i64 1, .int .i64 0]) (by simp [results, Tryz.results102, go_sem]) rfl ⟨by rw [R.out, R2.out]; rfl, HB1.out⟩
 ·have WA := Xk (WA.out k1)
  have FC : Hid (F = zA l k0 (16 - B0) B0) := Xk (by rw [FC.out, if_neg k1])
  have cx := C00.out w1 HB1.out
  go_wp2_with fail
  refine (O0.out _).mono ?_; rintro e w2 ⟨rfl, hb2⟩
  have HB2 := Xk (zk HB1.out HB1.out.size hb2)
  clear hb2 cx
  go_upto_region 5 with fail
  obtain ⟨β, hβ⟩ : ∃ β : Bool, β = decide (k0 = 6 /\ 1 < n /\ za (l.getD 1 0) = 6) := ⟨_, rfl⟩
  have HB := Xk hβ
  clear hβ
  go_cut [30] from 17 to 30 (fun s30 wx => s30 = .bool β /\ Hid (Below w.heap.size w wx))
  case first =>
   by_cases k6 : k0 = 6
   ·subst k6
    by_cases lt : 1 < n
    ·have c1 := CC.out 1 lt w2 HB2.out
     rw [<- qm ad 1 (by decide)] at c1
     have E : Hid (β = (za (l.getD 1 0) == 6)) := Xk (by
      rw [HB.out]
      by_cases z : za (l.getD 1 0) = 6
      ·rw [z, decide_eq_true ⟨rfl, lt, rfl⟩]; rfl
      ·rw [decide_eq_false (fun h => z h.2.2)]
       exact (beq_eq_false_iff_ne.2 z).symm)
     generalize l.getD 1 0 = r1 at *
     go_wp2_with fail
     refine (KK.out r1 _).mono ?_; rintro e w3 ⟨rfl, hb3⟩
     have HB3 := Xk (zk HB2.out HB2.out.size hb3)
     clear hb3
     go_wp2_with fail
     go_meet
     exact ⟨by rw [E.out], HB3⟩
    ·have E : Hid (β = false) := Xk (by rw [HB.out]; exact decide_eq_false (fun h => lt h.2.1))
     go_wp2_with fail
     go_meet
     exact ⟨by rw [E.out], HB2⟩
   ·have E : Hid (β = false) := Xk (by rw [HB.out]; exact decide_eq_false (fun h => k6 h.1))
    have q : (k0 == 6) = false := beq_eq_false_iff_ne.2 k6
    go_wp2_with fail
    go_meet
    exact ⟨by rw [E.out], HB2⟩
  case rest =>
   obtain ⟨rfl, hb3⟩ := hcut
   obtain ⟨W3, hW3⟩ : ∃ w0, w0 = wc := ⟨_, rfl⟩
   subst hW3
   have HB3 := hb3
   clear HB2 hb3
   go_upto_if 30 with fail
   go_cut [5, 6] from 30 to 30 (fun s5 s6 wx => s5 = .int .i64 (B0 : Int) /\ s6 = .int .i64 (if k0 = 6 /\ 1 < n /\ za (l.getD 1 0) = 6 then 2 else ofK k0) /\ wx = W3)
   case first =>
    cases hb : β with
    | true =>
     have z : k0 = 6 /\ 1 < n /\ za (l.getD 1 0) = 6 := of_decide_eq_true (by rw [<- HB.out]; exact hb)
     have E : Hid (B0 = 2) := Xk (by rw [BK.out, if_pos z])
     have E2 : Hid ((if k0 = 6 /\ 1 < n /\ za (l.getD 1 0) = 6 then 2 else ofK k0) = 2) := Xk (if_pos z)
     clear z hb HB
     go_wp2_with fail
     go_meet
     exact ⟨by rw [E.out]; rfl, by rw [E2.out], rfl⟩
    | false =>
     have z : ¬ (k0 = 6 /\ 1 < n /\ za (l.getD 1 0) = 6) := of_decide_eq_false (by rw [<- HB.out]; exact hb)
     have E : Hid (B0 = 1) := Xk (by rw [BK.out, if_neg z])
     have E2 : Hid ((if k0 = 6 /\ 1 < n /\ za (l.getD 1 0) = 6 then 2 else ofK k0) = ofK k0) := Xk (if_neg z)
     clear z hb HB
     go_wp2_with fail
     go_meet
     exact ⟨by rw [E.out]; rfl, by rw [E2.out], rfl⟩
   case rest =>
    obtain ⟨rfl, rfl, rfl⟩ := hcut
    obtain ⟨W4, hW4⟩ : ∃ w0, w0 = wc := ⟨_, rfl⟩
    subst hW4
    obtain ⟨v6, hv6⟩ : ∃ v6 : Int, v6 = if k0 = 6 /\ 1 < n /\ za (l.getD 1 0) = 6 then 2 else ofK k0 := ⟨_, rfl⟩
    have VW : Hid (V = if k0 = 8 /\ 1 < n /\ l.getD 1 0 = 65039 then 2 else v6) := Xk (by rw [WA.out, hv6])
    rw [<- hv6]
    clear hv6 WA HB β
    obtain ⟨γ, hγ⟩ : ∃ γ : Bool, γ = decide (k0 = 8 /\ 1 < n /\ l.getD 1 0 = 65039) := ⟨_, rfl⟩
    have HG := Xk hγ
    clear hγ
    go_upto_region 7 with fail
    go_cut [43] from 31 to 43 (fun s43 wx => s43 = .bool γ /\ wx = W4)
    case first =>
     by_cases k8 : k0 = 8
     ·subst k8
      by_cases lt : 1 < n
      ·have c1 := CC.out 1 lt W4 HB3.out
       rw [<- qm ad 1 (by decide)] at c1
       have E : Hid (γ = (l.getD 1 0 == 65039)) := Xk (by
        rw [HG.out]
        by_cases z : l.getD 1 0 = 65039
        ·rw [z, decide_eq_true ⟨rfl, lt, rfl⟩]; rfl
        ·rw [decide_eq_false (fun h => z h.2.2)]
         exact (beq_eq_false_iff_ne.2 z).symm)
       generalize l.getD 1 0 = r1 at *
       go_wp2_with fail
       go_meet
       exact ⟨by rw [E.out], rfl⟩
      ·have E : Hid (γ = false) := Xk (by rw [HG.out]; exact decide_eq_false (fun h => lt h.2.1))
       go_wp2_with fail
       go_meet
       exact ⟨by rw [E.out], rfl⟩
     ·have E : Hid (γ = false) := Xk (by rw [HG.out]; exact decide_eq_false (fun h => k8 h.1))
      have q : (k0 == 8) = false := beq_eq_false_iff_ne.2 k8
      go_wp2_with fail
      go_meet
      exact ⟨by rw [E.out], rfl⟩
    case rest =>
     obtain ⟨rfl, rfl⟩ := hcut
     obtain ⟨W5, hW5⟩ : ∃ w0, w0 = wc := ⟨_, rfl⟩
     subst hW5
     go_upto_if 43 with fail
     go_cut [6] from 43 to 43 (fun s6 wx => s6 = .int .i64 V /\ wx = W5)
     case first =>
      cases hb : γ with
      | true =>
       have z : k0 = 8 /\ 1 < n /\ l.getD 1 0 = 65039 := of_decide_eq_true (by rw [<- HG.out]; exact hb)
       have E : Hid (V = 2) := Xk (by rw [VW.out, if_pos z])
       clear z hb HG
       go_wp2_with fail
       go_meet
       exact ⟨by rw [E.out], rfl⟩
      | false =>
       have z : ¬ (k0 = 8 /\ 1 < n /\ l.getD 1 0 = 65039) := of_decide_eq_false (by rw [<- HG.out]; exact hb)
       have E : Hid (V = v6) := Xk (by rw [VW.out, if_neg z])
       clear z hb HG
       go_wp2_with fail
       go_meet
       exact ⟨by rw [E.out], rfl⟩
     case rest =>
      obtain ⟨rfl, rfl⟩ := hcut
      clear HG VW γ
      go_wp2_with fail
      go_step3
      go_wp2_with fail
      have B1 : 1 <= B0 /\ B0 <= n /\ B0 <= 2 := by
       rw [BK.out]
       by_cases z : k0 = 6 /\ 1 < n /\ za (l.getD 1 0) = 6
       ·rw [if_pos z]; omega
       ·rw [if_neg z]; omega
      have PK := Xk (d_pic k0 kr.1 kr.2)
      clear BK k1 W1
      go_loopw [5] (fun s5 wr => ∃ m : Nat, 1 <= m /\ m <= n /\ m <= 16 /\ s5 = .int .i64 m /\ Hid (zA l k0 (16 - m) m = F /\ Below w.heap.size w wr)) (fun s5 _ => n - (intOf s5).toNat)
      case atStart => exact ⟨B0, B1.1, B1.2.1, by omega, rfl, Xk ⟨FC.out.symm, HB3.out⟩⟩
      case round =>
       obtain ⟨m, m1, m2, m3, rfl, hI⟩ := hrel
       clear B1
       by_cases lt : m < n
       ·by_cases l16 : m < 16
        ·have FU : 16 - m = (16 - (m + 1)) + 1 := by omega
         have GX := hI.out.1
         rw [FU, GG.out] at GX
         have NXT : Hid (z6 k0 (l.getD (m - 1) 0) (l.getD m 0) = true -> zA l k0 (16 - (m + 1)) (m + 1) = F) := Xk (fun h => by rw [<- GX, if_pos ⟨lt, h⟩])
         have STP : Hid (z6 k0 (l.getD (m - 1) 0) (l.getD m 0) = false -> F = m) := Xk (fun h => by rw [<- GX, if_neg (fun z => by rw [h] at z; cases z.2)])
         have cm := CC.out m lt wr hI.out.2
         have CA := Xk (fun W hb => CC.out (m - 1) (by omega) W hb)
         have HBW := Xk hI.out.2
         have TK : Hid (z6 k0 (l.getD (m - 1) 0) (l.getD m 0) = if za (l.getD m 0) = 2 \/ za (l.getD m 0) = 4 \/ za (l.getD m 0) = 3 then true else if za (l.getD m 0) = 5 then picK k0 else if za (l.getD m 0) = 7 \/ za (l.getD m 0) = 8 then picK k0 && decide (za (l.getD (m - 1) 0) = 3) else false) := Xk rfl
         have KM := Xk (KK.out (l.getD m 0))
         have KA := Xk (KK.out (l.getD (m - 1) 0))
         have kmr := jv (l.getD m 0)
         clear FU GX hI
         generalize z6 k0 (l.getD (m - 1) 0) (l.getD m 0) = T at *
         generalize l.getD m 0 = rm at *
         generalize l.getD (m - 1) 0 = ra at *
         generalize za rm = km at *
         go_wp2_with fail
         refine (KM.out _).mono ?_; rintro e wx ⟨rfl, hbx⟩
         have HBx := Xk (zk HBW.out HBW.out.size hbx)
         clear hbx cm
         have q : km = 0 \/ km = 1 \/ km = 2 \/ km = 3 \/ km = 4 \/ km = 5 \/ km = 6 \/ km = 7 \/ km = 8 \/ km = 9 := by omega
         clear kmr
         rcases q with rfl | rfl | rfl | rfl | rfl | rfl | rfl | rfl | rfl | rfl
         ·have ST := Xk (STP.out (by rw [TK.out]; rfl))
          go_wp2_with fail
          rw [Exit.noGoto_ret]
          exact bodyPost_ret (v := .tuple #[.int .i64 (m : Int), .int .i64 V]) (by simp [results, Tryz.results102, go_sem]) rfl ⟨by rw [ST.out], HBx.out⟩
         ·have ST := Xk (STP.out (by rw [TK.out]; rfl))
          go_wp2_with fail
          rw [Exit.noGoto_ret]
          exact bodyPost_ret (v := .tuple #[.int .i64 (m : Int), .int .i64 V]) (by simp [results, Tryz.results102, go_sem]) rfl ⟨by rw [ST.out], HBx.out⟩
         ·have NX := Xk (NXT.out (by rw [TK.out]; rfl))
          go_wp2_with fail
          go_roundw
          case rel => exact ⟨m + 1, by omega, by omega, by omega, by go_num, Xk ⟨NX.out, HBx.out⟩⟩
          case measure => simp [intOf]; omega
         ·have NX := Xk (NXT.out (by rw [TK.out]; rfl))
          go_wp2_with fail
          go_roundw
          case rel => exact ⟨m + 1, by omega, by omega, by omega, by go_num, Xk ⟨NX.out, HBx.out⟩⟩
          case measure => simp [intOf]; omega
         ·have NX := Xk (NXT.out (by rw [TK.out]; rfl))
          go_wp2_with fail
          go_roundw
          case rel => exact ⟨m + 1, by omega, by omega, by omega, by go_num, Xk ⟨NX.out, HBx.out⟩⟩
          case measure => simp [intOf]; omega
         ·have TK : Hid (T = picK k0) := Xk (by rw [TK.out]; rfl)
          cases hpk : picK k0 with
          | true =>
           have NX := Xk (NXT.out (by rw [TK.out, hpk]))
           have PK := PK.out wx
           rw [hpk] at PK
           have PK := Xk PK
           clear hpk
           go_wp2_with fail
           refine PK.out.mono ?_; rintro e wy ⟨rfl, rfl⟩
           go_wp2_with fail
           go_roundw
           case rel => exact ⟨m + 1, by omega, by omega, by omega, by go_num, Xk ⟨NX.out, HBx.out⟩⟩
           case measure => simp [intOf]; omega
          | false =>
           have ST := Xk (STP.out (by rw [TK.out, hpk]))
           have PK := PK.out wx
           rw [hpk] at PK
           have PK := Xk PK
           clear hpk
           go_wp2_with fail
           refine PK.out.mono ?_; rintro e wy ⟨rfl, rfl⟩
           go_wp2_with fail
           rw [Exit.noGoto_ret]
           exact bodyPost_ret (v := .tuple #[.int .i64 (m : Int), .int .i64 V]) (by simp [results, Tryz.results102, go_sem]) rfl ⟨by rw [ST.out], HBx.out⟩
         ·have ST := Xk (STP.out (by rw [TK.out]; rfl))
          go_wp2_with fail
          rw [Exit.noGoto_ret]
          exact bodyPost_ret (v := .tuple #[.int .i64 (m : Int), .int .i64 V]) (by simp [results, Tryz.results102, go_sem]) rfl ⟨by rw [ST.out], HBx.out⟩
         ·have TW : Hid (T = (picK k0 && decide (za ra = 3))) := Xk (by rw [TK.out]; rfl)
          cases hpk : picK k0 with
          | true =>
           have PK := PK.out wx
           rw [hpk] at PK
           have PK := Xk PK
           have ca := CA.out wx HBx.out
           have em : ((m : Int) - 1) = ((m - 1 : Nat) : Int) := by omega
           have TV : Hid (T = decide (za ra = 3)) := Xk (by rw [TW.out, hpk]; rfl)
           clear hpk
           go_wp2_with fail
           refine PK.out.mono ?_; rintro e wy ⟨rfl, rfl⟩
           go_wp2_with fail
           refine (KA.out _).mono ?_; rintro e wz ⟨rfl, hbz⟩
           have HBx := Xk (zk HBx.out HBx.out.size hbz)
           clear hbz ca
           by_cases z : za ra = 3
           ·have NX := Xk (NXT.out (by rw [TV.out]; exact decide_eq_true z))
            rw [z]
            go_wp2_with fail
            go_roundw
            case rel => exact ⟨m + 1, by omega, by omega, by omega, by go_num, Xk ⟨NX.out, HBx.out⟩⟩
            case measure => simp [intOf]; omega
           ·have ST := Xk (STP.out (by rw [TV.out]; exact decide_eq_false z))
            have qz : (za ra != 3) = true := by rw [bne_iff_ne]; exact z
            go_wp2_with fail
            rw [Exit.noGoto_ret]
            exact bodyPost_ret (v := .tuple #[.int .i64 (m : Int), .int .i64 V]) (by simp [results, Tryz.results102, go_sem]) rfl ⟨by rw [ST.out], HBx.out⟩
          | false =>
           have ST := Xk (STP.out (by rw [TW.out, hpk]; rfl))
           have PK := PK.out wx
           rw [hpk] at PK
           have PK := Xk PK
           clear hpk
           go_wp2_with fail
           refine PK.out.mono ?_; rintro e wy ⟨rfl, rfl⟩
           go_wp2_with fail
           rw [Exit.noGoto_ret]
           exact bodyPost_ret (v := .tuple #[.int .i64 (m : Int), .int .i64 V]) (by simp [results, Tryz.results102, go_sem]) rfl ⟨by rw [ST.out], HBx.out⟩
         ·have TW : Hid (T = (picK k0 && decide (za ra = 3))) := Xk (by rw [TK.out]; rfl)
          cases hpk : picK k0 with
          | true =>
           have PK := PK.out wx
           rw [hpk] at PK
           have PK := Xk PK
           have ca := CA.out wx HBx.out
           have em : ((m : Int) - 1) = ((m - 1 : Nat) : Int) := by omega
           have TV : Hid (T = decide (za ra = 3)) := Xk (by rw [TW.out, hpk]; rfl)
           clear hpk
           go_wp2_with fail
           refine PK.out.mono ?_; rintro e wy ⟨rfl, rfl⟩
           go_wp2_with fail
           refine (KA.out _).mono ?_; rintro e wz ⟨rfl, hbz⟩
           have HBx := Xk (zk HBx.out HBx.out.size hbz)
           clear hbz ca
           by_cases z : za ra = 3
           ·have NX := Xk (NXT.out (by rw [TV.out]; exact decide_eq_true z))
            rw [z]
            go_wp2_with fail
            go_roundw
            case rel => exact ⟨m + 1, by omega, by omega, by omega, by go_num, Xk ⟨NX.out, HBx.out⟩⟩
            case measure => simp [intOf]; omega
           ·have ST := Xk (STP.out (by rw [TV.out]; exact decide_eq_false z))
            have qz : (za ra != 3) = true := by rw [bne_iff_ne]; exact z
            go_wp2_with fail
            rw [Exit.noGoto_ret]
            exact bodyPost_ret (v := .tuple #[.int .i64 (m : Int), .int .i64 V]) (by simp [results, Tryz.results102, go_sem]) rfl ⟨by rw [ST.out], HBx.out⟩
          | false =>
           have ST := Xk (STP.out (by rw [TW.out, hpk]; rfl))
           have PK := PK.out wx
           rw [hpk] at PK
           have PK := Xk PK
           clear hpk
           go_wp2_with fail
           refine PK.out.mono ?_; rintro e wy ⟨rfl, rfl⟩
           go_wp2_with fail
           rw [Exit.noGoto_ret]
           exact bodyPost_ret (v := .tuple #[.int .i64 (m : Int), .int .i64 V]) (by simp [results, Tryz.results102, go_sem]) rfl ⟨by rw [ST.out], HBx.out⟩
         ·have ST := Xk (STP.out (by rw [TK.out]; rfl))
          go_wp2_with fail
          rw [Exit.noGoto_ret]
          exact bodyPost_ret (v := .tuple #[.int .i64 (m : Int), .int .i64 V]) (by simp [results, Tryz.results102, go_sem]) rfl ⟨by rw [ST.out], HBx.out⟩
        ·have e16 : m = 16 := by omega
         subst e16
         obtain ⟨m, hm⟩ : ∃ m : Nat, m = 16 := ⟨_, rfl⟩
         have ST : Hid (F = 16) := Xk (by rw [<- hI.out.1]; rfl)
         have HBx := Xk hI.out.2
         go_wp2_with fail
         rw [Exit.noGoto_ret]
         exact bodyPost_ret (v := .tuple #[.int .i64 16, .int .i64 V]) (by simp [results, Tryz.results102, go_sem]) rfl ⟨by rw [ST.out]; rfl, HBx.out⟩
       ·have en : m = n := by omega
        have ST : Hid (F = m) := Xk (by
         rw [<- hI.out.1]
         exact vp l k0 _ m (fun z => by have := z.1; rw [<- HN.out] at this; omega))
        have HBx := Xk hI.out.2
        go_wp2_with fail
        rw [Exit.noGoto_ret]
        exact bodyPost_ret (v := .tuple #[.int .i64 (m : Int), .int .i64 V]) (by simp [results, Tryz.results102, go_sem]) rfl ⟨by rw [ST.out], HBx.out⟩
end
section
open Go Go.RowKit Go.Sort
attribute [local go_sem] Oper.semAt_some
def plL : Int -> List (List Int × Int) -> List (Int × List Int × Int)
 | _, [] => []
 | p, c :: r => (p, c.1, c.2) :: plL (p + ((barr c.1).size : Int)) r
def encC (x : Int × List Int × Int) : Array Value := #[.int .i64 x.1, .agg #[.string (barr x.2.1), .int .i64 x.2.2]]
def lenV : Value -> Nat
 | .slice _ m _ => m
 | _ => 0
theorem Sees.drop {w : World} {B : Nat} {ad : Addr} {l : List Int} {k : Nat} (h : Sees w B (some ad) (rns l)) : Sees w B (some (ad.add k)) (rns (l.drop k)) := fun hne => by
 obtain ⟨ad', e, hb, hc⟩ := h (fun e => hne (by simp [rns] at e ⊢; rw [e]; simp))
 cases e
 refine ⟨_, rfl, by rw [zg]; exact hb, fun j u hj => ?_⟩
 have e : (ad.add k).add j = ad.add (k + j) := by
  unfold Addr.add
  by_cases k0 : k = 0
  ·subst k0; simp
  ·by_cases j0 : j = 0
   ·subst j0; simp
   ·rw [if_neg k0, if_neg j0, if_neg (by omega)]
    simp
    omega
 rw [e]
 refine hc (k + j) u ?_
 simp [rns, List.getElem?_drop] at hj ⊢
 exact hj
theorem Sees.take {w : World} {B : Nat} {A : Option Addr} {l : List Int} {k : Nat} (h : Sees w B A (rns l)) : Sees w B A (rns (l.take k)) := fun hne => by
 obtain ⟨ad, e, hb, hc⟩ := h (fun e => hne (by simp [rns] at e ⊢; rw [e]; simp))
 refine ⟨ad, e, hb, fun j u hj => hc j u ?_⟩
 simp [rns, List.getElem?_take] at hj ⊢
 exact hj.2
def KeepG (g : Nat) (W W' : World) : Prop := W.heap.size <= W'.heap.size /\ W'.heap[g]? = W.heap[g]?
theorem Sees.keepG {W W' : World} {g : Nat} {A : Option Addr} {xs : List Value} (h : Sees W W.heap.size A xs) (hA : ∀ ad, A = some ad -> ad.block = g) (k : KeepG g W W') : Sees W' W'.heap.size A xs := fun hne => by
 obtain ⟨ad, rfl, hb, hc⟩ := h hne
 refine ⟨ad, rfl, Nat.lt_of_lt_of_le hb k.1, fun j u hj => ?_⟩
 have e : W'.cell? (ad.add j) = W.cell? (ad.add j) := World.cell?_of_block (by rw [zg, hA ad rfl]; exact k.2)
 rw [e]
 exact hc j u hj
set_option maxHeartbeats 8000000 in
set_option maxRecDepth 100000 in
theorem d_all1 (n : Nat) (hn : 1 <= n) (y bn g : Nat) (A0 : Option Addr) (c0 : Nat) (l : List Int) (hl : l.length <= 35184372000000) (hc0 : l.length <= c0) (hr : ∀ r ∈ l, 0 <= r /\ r < 2097152) (J Jx : List (Int × List Int × Int) -> World -> Prop)
  (hJ : ∀ pre W W', J pre W -> Below W.heap.size W W' -> J pre W') (hA0 : ∀ ad, A0 = some ad -> ad.block = g)
  (hY : ∀ pre x W, J pre W -> pre.length < (plL 0 (clL l)).length -> YieldAt Fence.wide (n - 1) Tryz.prog y (encC x) W fun e W' =>
   (e = .returned (.bool true) /\ J (pre ++ [x]) W' /\ KeepG g W W') \/ (e = .returned (.bool false) /\ Jx (pre ++ [x]) W'))
  (W : World) (hbn : W.cell? ⟨bn, 0, none⟩ = some (.slice A0 l.length c0)) (hS : Sees W W.heap.size A0 (rns l)) (h0 : J [] W) :
  CallsIn Fence.wide n Tryz.prog 101 #[.func (.yield y) #[] #[], .pointer (some ⟨bn, 0, none⟩)] W fun e W' => (∃ v, e = .returned v) /\
   ((∃ ys, ys = plL 0 (clL l) /\ J ys W') \/ (∃ pre, pre <+: plL 0 (clL l) /\ Jx pre W')) := by
 refine callsIn_of_wp Tryz.func101 rfl trivial ?_ rfl
 simp only [Tryz.ntmps101, List.size_toArray, List.length_cons, List.length_nil, Nat.reduceAdd, Nat.reduceSub, Array.replicate_succ, Array.replicate_zero, List.push_toArray, List.append_toArray, List.nil_append, List.cons_append]
 gi_wp2_with fail
 gi_loopw [3, 4, 5, 6, 7] (fun s3 s4 s5 s6 s7 wr => ∃ (k : Nat) (p : Int) (pre : List (Int × List Int × Int)) (A : Option Addr) (c : Nat), k <= l.length /\ s3 = .int .i64 p /\ 0 <= p /\ p <= 4 * k /\ s4 = .slice A (l.length - k) c /\ l.length - k <= c /\
  plL 0 (clL l) = pre ++ plL p (clL (l.drop k)) /\ (∀ ad, A = some ad -> ad.block = g) /\ Sees wr wr.heap.size A (rns (l.drop k)) /\ J pre wr) (fun _ s4 _ _ _ _ => lenV s4)
 case atStart =>
  exact ⟨0, 0, [], A0, c0, by omega, rfl, by omega, by omega, by simp, by omega, by simp, hA0, by simpa using hS, h0⟩
 case round =>
  obtain ⟨k, p, pre, A, c, hk, rfl, p0, p1, rfl, hc, hx, hA, hs, hJs⟩ := hrel
  obtain ⟨m, hm⟩ : ∃ m, m = l.length - k := ⟨_, rfl⟩
  rw [<- hm] at hc ⊢
  by_cases lt : k < l.length
  ·have m0 : 0 < m := by omega
   have HM := Xk hm
   have ml : (l.drop k).length = m := by rw [List.length_drop]; exact hm.symm
   have hne : l.drop k ≠ [] := fun e => by rw [e] at ml; simp at ml; omega
   obtain ⟨ad, rfl, hab, _⟩ := qI hs 0 (by omega)
   have fb := jI (l.drop k) hne
   have SS := Xk hs
   have LN := Xk (d_length (some ad) c (l.drop k) hne (by omega) wr hs)
   rw [ml] at LN fb
   have CL : Hid (clL (l.drop k) = (zi ((l.drop k).take (zl (l.drop k))), qO (l.drop k)) :: clL (l.drop (k + zl (l.drop k)))) := Xk (by
    rw [x9 _ hne, QC _ hne, List.drop_drop])
   have TR : Hid (∀ r ∈ (l.drop k).take (zl (l.drop k)), 0 <= r /\ r < 2097152) := Xk (fun r h => hr r (List.mem_of_mem_drop (List.mem_of_mem_take h)))
   have TL : ((l.drop k).take (zl (l.drop k))).length = zl (l.drop k) := by rw [List.length_take, ml]; omega
   have TS : Hid (∀ w', Below wr.heap.size wr w' -> Sees w' w'.heap.size (some ad) (rns ((l.drop k).take (zl (l.drop k))))) := Xk (fun w' hb => ((hs.below hb Xm).more hb.size).take)
   have SD : Hid (∀ w', KeepG g wr w' -> Sees w' w'.heap.size (some (ad.add (zl (l.drop k)))) (rns (l.drop (k + zl (l.drop k))))) := Xk (fun w' hb => by
    rw [<- List.drop_drop]
    exact (hs.keepG hA hb).drop)
   have hAA : ∀ (b : Prop) [Decidable b] ad', (if b then some ad else some (ad.add (zl (l.drop k)))) = some ad' -> ad'.block = g := fun b _ ad' e => by
    have := hA ad rfl
    split at e
    ·cases e; exact this
    ·cases e; rw [zg]; exact this
   have gw : g < wr.heap.size := by rw [<- hA ad rfl]; exact hab
   have BZ : Hid ((barr (zi ((l.drop k).take (zl (l.drop k))))).size <= 4 * zl (l.drop k)) := Xk (by
    have h := x7 ((l.drop k).take (zl (l.drop k)))
    rw [TL] at h
    have e : (barr (zi ((l.drop k).take (zl (l.drop k))))).size = (zi ((l.drop k).take (zl (l.drop k)))).length := by
     show ((zi ((l.drop k).take (zl (l.drop k)))).map _).toArray.size = _
     simp
    omega)
   have JH := Xk hJs
   have HX := Xk hx
   have HAA := Xk hAA
   clear hAA hA
   clear hs hx hJs hne ml hm hbn hS h0
   generalize (l.drop k).take (zl (l.drop k)) = tk at *
   generalize qO (l.drop k) = wv at *
   generalize zl (l.drop k) = f at *
   gi_wp2_with fail
   refine ⟨trivial, (callsIn_wide.2 LN.out).mono ?_⟩
   rintro e w1 ⟨rfl, hb1⟩
   have TX := Xk (d_Text (some ad) c tk (by omega) TR.out w1 (TS.out w1 hb1))
   rw [TL] at TX
   have HB1 := Xk hb1
   clear hb1
   have fm : f <= m := fb.2.1
   have fcap : f <= c := by omega
   gi_wp2_with fail
   refine ⟨trivial, (callsIn_wide.2 TX.out).mono ?_⟩
   rintro e w2 ⟨rfl, hb2⟩
   have HB2 := Xk (zk HB1.out HB1.out.size hb2)
   clear hb2
   have J2 := hJ _ _ _ JH.out HB2.out
   obtain ⟨fn, tmps, assign, body, hy, hR⟩ := hY pre (p, zi tk, wv) w2 J2 (by rw [HX.out, CL.out]; simp [plL])
   simp only [encC] at hy
   clear J2
   gi_wp2_with fail
   refine hR.mono ?_
   rintro e W3 (⟨rfl, hJ3, hk3⟩ | ⟨rfl, hJx3⟩)
   ·have S3 := Xk (SD.out W3 ⟨Nat.le_trans HB2.out.size hk3.1, hk3.2.trans (HB2.out.block g gw)⟩)
    have J3 := Xk hJ3
    have szp : 0 <= ((barr (zi tk)).size : Int) := by omega
    have bz := BZ.out
    obtain ⟨sz, hsz⟩ : ∃ sz, sz = (barr (zi tk)).size := ⟨_, rfl⟩
    rw [<- hsz] at bz
    have HSZ := Xk hsz
    have NX : Hid (plL 0 (clL l) = (pre ++ [(p, zi tk, wv)]) ++ plL (p + (sz : Int)) (clL (l.drop (k + f)))) := Xk (by
     rw [HX.out, CL.out, List.append_assoc, HSZ.out]
     rfl)
    have bt : ((barr (zi tk)).size : Int) = (sz : Int) := by rw [hsz]
    clear hJ3 hk3 hR hy hsz szp
    gi_wp2_with fail
    go_roundw
    case rel =>
     have hm := HM.out
     refine ⟨k + f, p + sz, pre ++ [(p, zi tk, wv)], _, c - f, by omega, rfl, by omega, by omega, by rw [show l.length - (k + f) = m - f by omega], by omega, NX.out, HAA.out _, ?_, J3.out⟩
     by_cases cf : c = f
     ·rw [if_pos cf]
      have e : l.drop (k + f) = [] := List.drop_eq_nil_of_le (by omega)
      rw [e]
      exact Sees.nil _ _ _
     ·rw [if_neg cf]
      exact S3.out
    case measure => simp [lenV]; omega
   ·have JX := Xk hJx3
    have NP : Hid ((pre ++ [(p, zi tk, wv)]) <+: plL 0 (clL l)) := Xk (by
     rw [HX.out, CL.out]
     exact ⟨plL (p + ((barr (zi tk)).size : Int)) (clL (l.drop (k + f))), by rw [List.append_assoc]; rfl⟩)
    clear hJx3 hR hy
    gi_wp2_with fail
    refine bodyPost_ret (results_none rfl _ _ _) rfl ?_
    exact ⟨⟨_, rfl⟩, .inr ⟨_, NP.out, JX.out⟩⟩
  ·have m0 : m = 0 := by omega
   subst m0
   have R : Hid (plL 0 (clL l) = pre) := Xk (by
    rw [hx, List.drop_eq_nil_of_le (by omega), x8]
    simp [plL])
   have JH := Xk hJs
   clear hx hs hJs
   gi_wp2_with fail
   go_end0
   exact ⟨⟨_, rfl⟩, .inl ⟨pre, R.out.symm, JH.out⟩⟩
theorem qX {w : World} {base n : Nat} {T : TypeId} {v : Value} {xs : List Value} (h : w.ownsRow base T 1 v n xs) : ∃ A c, v = .slice A n c := by
 rcases (j9 h).2 with ⟨rfl, rfl⟩ | ⟨g, c, rfl, _⟩
 ·exact ⟨_, _, rfl⟩
 ·exact ⟨_, _, rfl⟩
theorem d_stops (n : Nat) (hn : 1 <= n) (bn g : Nat) (A0 : Option Addr) (c0 : Nat) (l : List Int) (hl : l.length <= 35184372000000) (hc0 : l.length <= c0) (hr : ∀ r ∈ l, 0 <= r /\ r < 2097152) (hA0 : ∀ ad, A0 = some ad -> ad.block = g) (w : World) (hb : bn < w.heap.size)
  (hbn : w.cell? ⟨bn, 0, none⟩ = some (.slice A0 l.length c0)) (hS : Sees w w.heap.size A0 (rns l)) :
  SeqStopsK Fence.wide n Tryz.prog 101 #[.pointer (some ⟨bn, 0, none⟩)] encC (KeepG g) (fun ys => ys = plL 0 (clL l)) (fun pre => pre <+: plL 0 (clL l)) (plL 0 (clL l)).length w := fun y J Jx W hW hJ _ hY h0 =>
 d_all1 n hn y bn g A0 c0 l hl hc0 hr J Jx (fun pre W W' h hb' => hJ pre W W' none h ⟨hb'.os, hb'.tape, hb'.output, hb'.size, fun k hk _ => hb'.block k hk⟩ (fun r e => by cases e)) hA0 hY W ((hW.cell (p := ⟨bn, 0, none⟩) hb).trans hbn) ((hS.below hW Xm).more hW.size) h0
set_option maxHeartbeats 8000000 in
set_option maxRecDepth 100000 in
theorem d_All (s : ByteArray) (hs : s.size <= 35184372000000) (w : World) : Calls Tryz.prog 85 #[.string s] w fun e w' => ∃ b A c, e = .returned (.func (.func 101) #[] #[.pointer (some ⟨b, 0, none⟩)]) /\ w.heap.size <= b /\ b < w'.heap.size /\ w'.cell? ⟨b, 0, none⟩ = some (.slice A (zr s).length c) /\ (zr s).length <= c /\ (∀ ad, A = some ad -> w.heap.size <= ad.block /\ ad.block < w'.heap.size) /\ Sees w' w'.heap.size A (rns (zr s)) /\ Below w.heap.size w w' := by
 have hmf : ∀ (fn : Fn) (first cap : Array Value) (w : World), (Instr.makeFunc fn first cap).run Tryz.prog w = .ok (.func fn first cap) w := fun _ _ _ _ => rfl
 have RN := Xk (d_Runes s hs)
 generalize zr s = l at *
 go_enter Tryz.func85, Tryz.ntmps85
 go_wp2_with fail
 refine (RN.out _).mono ?_; rintro e w1 ⟨v, rfl, ho, hb⟩
 obtain ⟨A, c, rfl⟩ := qX ho
 have hc : l.length <= c := by
  rcases (j9 ho).2 with ⟨q, z⟩ | ⟨g', c', q, _, _, h, _⟩
  ·omega
  ·cases q; exact h
 have hA : ∀ ad, A = some ad -> w.heap.size <= ad.block /\ ad.block < w1.heap.size := fun ad e => by
  rcases (j9 ho).2 with ⟨q, z⟩ | ⟨g', c', q, h1, h2, _, _⟩
  ·injection q with q1 q2 q3; rw [q1] at e; cases e
  ·injection q with q1 q2 q3; rw [q1] at e; cases e; exact ⟨h1, h2⟩
 have SS := Sees.of_own ho
 go_wp2_with fail
 go_ret
 refine ⟨w1.heap.size, A, c, rfl, hb.size, by simp, by simp [go_sem], hc, fun ad e => ⟨(hA ad e).1, by have := (hA ad e).2; simp; omega⟩, ?_, hb.alloc hb.size _⟩
 exact (SS.below ((Below.refl _ w1).alloc Xm _) Xm).more (by simp)
end
section
open Go Go.RowKit Go.Sort
attribute [local go_sem] Oper.semAt_some
def clV (c : ByteArray × Int) : List Value := [.string c.1, .int .i64 c.2]
def cls (l : List (ByteArray × Int)) : List Value := l.flatMap clV
theorem cls_len (l : List (ByteArray × Int)) : (cls l).length = l.length * 2 := by
 induction l with
 | nil => rfl
 | cons c l ih =>
  have e : cls (c :: l) = clV c ++ cls l := by unfold cls; exact List.flatMap_cons ..
  rw [e, List.length_append, ih, List.length_cons]
  simp [clV]
  omega
theorem vJ (a b : List (ByteArray × Int)) : cls (a ++ b) = cls a ++ cls b := by unfold cls; exact List.flatMap_append
def unpl (x : Int × List Int × Int) : ByteArray × Int := (barr x.2.1, x.2.2)
theorem plL_un : ∀ (p : Int) (l : List (List Int × Int)), (plL p l).map unpl = l.map fun c => (barr c.1, c.2)
 | _, [] => rfl
 | p, c :: r => by
  unfold plL
  rw [List.map_cons, plL_un _ r, List.map_cons]
  rfl
theorem infoC : (Tryz.prog.info? 109).map (fun i => (i.zero, i.size, i.bytes)) = some (some (.agg #[.string ⟨#[]⟩, .int .i64 0]), 2, 24) := by kernel_rfl
theorem qR {w : World} {base base' n sz : Nat} {T : TypeId} {v : Value} {xs : List Value} (h : w.ownsRow base T sz v n xs) (hb : base' <= base) : w.ownsRow base' T sz v n xs := by
 refine ⟨h.1, ?_⟩
 rcases h.2 with a | ⟨g, cap, cur, h1, h2, h3⟩
 ·exact Or.inl a
 ·exact Or.inr ⟨g, cap, cur, h1, Nat.le_trans hb h2, h3⟩
theorem KeepG.put {w : World} {g : Nat} (hg : g < w.heap.size) (W : World) (l : Nat) (o o' : Obj) (hl : w.heap.size <= l) (h : W.heap[l]? = some o) (_ : o.isCells = false) (_ : o.isWalk = false) : KeepG g W (W.putObj l o') :=
 ⟨(grownBy_putObj' W l o').size, World.putObj_heap_other (by omega)⟩
theorem KeepG.trans {g : Nat} {A B C : World} (h : KeepG g A B) (k : KeepG g B C) : KeepG g A C := ⟨Nat.le_trans h.1 k.1, k.2.trans h.2⟩
set_option maxHeartbeats 8000000 in
set_option maxRecDepth 100000 in
theorem QR (n : Nat) (hn : 3 <= n) (s : ByteArray) (hs : s.size <= 1000000000000) (w : World) : CallsIn Fence.wide n Tryz.prog 68 #[.string s] w fun e w' => ∃ v, e = .returned v /\ w'.ownsRow w.heap.size 109 2 v (zx s).length (cls (zx s)) /\ Below w.heap.size w w' := by
 have h1 : 1 <= n := by omega
 obtain ⟨i0, hi, hz0, hz1, hz2⟩ := info_parts infoC
 have AL := Xk (d_All s (by omega))
 have RG := Xk (vh _ s rfl)
 have RL := xx _ s rfl
 have SP : Hid (zx s = (plL 0 (clL (zr s))).map unpl) := Xk (by rw [plL_un]; rfl)
 have PN : Hid ((plL 0 (clL (zr s))).length <= s.size) := Xk (by
  have := jJ s
  rw [SP.out, List.length_map] at this
  exact this)
 generalize zx s = SB at *
 generalize zr s = l at *
 refine callsIn_of_wp_marks Tryz.func68 rfl trivial ?_ rfl
 simp only [Tryz.ntmps68, List.size_toArray, List.length_cons, List.length_nil, Nat.reduceAdd, Nat.reduceSub, Array.replicate_succ, Array.replicate_zero, List.push_toArray, List.append_toArray, List.nil_append, List.cons_append]
 gi_wp2_with fail
 refine ⟨trivial, (callsIn_wide.2 (AL.out _)).mono ?_⟩
 rintro e w1 ⟨b, A, c, rfl, hb0, hb1, hbn, hc, hA, hS, hB⟩
 have bO : Boxed w1 w.heap.size 106 (.slice none 0 0) := (hB.block _ (by simp)).trans (Boxed.new w _ _)
 have HB : Below w.heap.size w w1 := zk (by go_grown) (by simp) hB
 obtain ⟨g, hg1, hg2, hg3⟩ : ∃ g, w.heap.size < g /\ g < w1.heap.size /\ ∀ ad, A = some ad -> ad.block = g := by
  rcases A with _ | ad
  ·exact ⟨b, by simp at hb0; omega, hb1, fun ad e => by cases e⟩
  ·have := hA ad rfl
   simp at this
   exact ⟨ad.block, by omega, this.2, fun ad' e => by cases e; rfl⟩
 clear hA hB hb0
 gi_wp2_with fail
 have ST := d_stops (n - 1) (by omega) b g A c l (by omega) hc RG.out hg3 w1 hb1 hbn hS
 obtain ⟨N1, hN1⟩ : ∃ N1, N1 = w1.heap.size := ⟨_, rfl⟩
 refine wpIn_rangeFunc_ownH (α := Int × List Int × Int) rfl h1 (gf := 101) (lb := #[.pointer (some ⟨b, 0, none⟩)]) rfl trivial (enters_of Tryz.func101 (by kernel_rfl) rfl)
  ST KeepG.trans (KeepG.put hg2) (Below.refl _ _) (fun _ => rfl)
  (fun (pre : List (Int × List Int × Int)) (W : World) => (∃ v, Boxed W w.heap.size 106 v /\ W.ownsRow N1 109 2 v pre.length (cls (pre.map unpl)) /\ True) /\ (Below w.heap.size w W /\ N1 <= W.heap.size))
  (fun _ _ _ => False)
  (OwnFrom.and (Own.from (holdsRow_own N1 w.heap.size 106 109 2 (fun (pre : List (Int × List Int × Int)) => pre.length) (fun pre => cls (pre.map unpl)) (fun _ _ => True)) _) (OwnFrom.and (ownFrom_below Xm HB.size) (fun _ X Y row hs hg _ => Nat.le_trans hs hg.size)))
  (fun _ _ _ _ _ hs _ _ => hs)
  ⟨⟨_, bO, World.ownsRow_nil _ _ _ _, trivial⟩, HB, by rw [hN1]; exact Xm⟩
  (fun (x : Int × List Int × Int) a' W => ∃ Bx, w.heap.size < Bx /\ W.heap[Bx]? = some (.cells #[.string (barr x.2.1), .int .i64 x.2.2] 109 (0, 0)) /\ a' = { tmps := #[.string s, undef, .slice none 0 0, .pointer (some ⟨w.heap.size, 0, none⟩), undef, .pointer (some ⟨Bx, 0, none⟩), .string s, .func (.func 101) #[] #[.pointer (some ⟨b, 0, none⟩)], .int .i64 x.1, .agg #[.string (barr x.2.1), .int .i64 x.2.2], undef, undef, undef, undef, undef], defers := [] })
  (fun x a' _ X Y row hs hg hr => by
   obtain ⟨Bx, h1, h2, h3⟩ := hs
   refine ⟨Bx, h1, (hg.block Bx (Array.getElem?_eq_some_iff.1 h2).1 (fun e => ?_)).trans h2, h3⟩
   obtain ⟨_, o, ho, hc⟩ := hr Bx e.symm
   rw [h2] at ho
   cases ho
   cases hc)
  ?assign ?body ?done ?stop
 case assign =>
  rintro y pre x W K ⟨⟨v, hv, hrow, _⟩, hB1, hN⟩ hK
  simp only [encC]
  gi_wp2_with fail
  have hsz := hB1.size
  exact hK _ _ ((KeepsOthers.alloc _ _).from _) ⟨by simp, ((Below.refl W.heap.size W).alloc Xm _).block g (by omega)⟩ ⟨⟨v, hv.alloc _, hrow.alloc _, trivial⟩, hB1.alloc hsz _, by simp; omega⟩ ⟨W.heap.size, hv.lt, World.alloc_heap_new W _, rfl⟩
 case body =>
  rintro y pre ⟨px, tx, wd⟩ a' W hl ⟨r, hr⟩ ⟨⟨v, hv, hrow, _⟩, hB1, hN⟩ ⟨Bx, hBx, hX, rfl⟩ hlt
  have cO := hv.cell
  have cX0 : W.cell? ⟨Bx, 0, none⟩ = some (.string (barr tx)) := by simp [World.cell?, hX]
  have cX1 : W.cell? ⟨Bx, 1, none⟩ = some (.int .i64 wd) := by simp [World.cell?, hX]
  have hpn := PN.out
  have hsz := hB1.size
  have NX : Hid (cls ((pre ++ [(px, tx, wd)]).map unpl) = cls (pre.map unpl) ++ [.string (barr tx), .int .i64 wd]) := Xk (by
   rw [List.map_append, vJ]
   rfl)
  have LX : Hid ((pre ++ [(px, tx, wd)]).length = pre.length + 1) := Xk (by simp)
  clear hX
  generalize hbs : barr tx = bs at *
  clear hbs
  gi_wp2_with (gi_at_builtin; refine wpListIn_append_own _ rfl (.tmp 10) (.tmp 12) 106 rfl N1 109 i0 (.agg #[.string ⟨#[]⟩, .int .i64 0]) 2 24 Tryz.underlying106 hi hz0 hz1 hz2 rfl (by decide) _ pre.length _ rfl (hrow.alloc _) ⟨W.heap.size, 0, none⟩ 1 1 [.string bs, .int .i64 wd] rfl rfl (qj W _ _) (by simp [Value.oneCell']) (by unfold maxLen; omega) (by omega) (by simp; omega) ?_; intro v' w3 hown' hgrow _; obtain ⟨g', cap', rfl⟩ := ownsRow_succ hown'; obtain ⟨hv1, hv2, hr2, hk2, hb2⟩ := hv.appended (show 106 ≠ 109 by decide) (qR hrow (show w.heap.size <= N1 by omega)) hsz Xm (qR hown' (show w.heap.size <= N1 by omega)) hgrow; have hc1 := hv1.cell; have hf1 := hv1.frozen)
  have vb : ∀ k, v.ownBlock = some k -> N1 <= k := fun k e => (hrow.lt k e).1
  have e3 : w3.heap[g]? = W.heap[g]? := (hgrow.block g (by simp; omega) (fun e => by have := vb g e.symm; omega)).trans (((Below.refl W.heap.size W).alloc Xm _).block g (by omega))
  have e4 : w3.heap.size ≥ W.heap.size := Nat.le_trans (by simp) hgrow.size
  refine ⟨hk2.from _, ⟨hb2.size, (Below.heap_setCell _ _ _ _ (show g ≠ w.heap.size by omega)).trans e3⟩, ⟨_, hv2, ?_⟩, hB1.trans hb2, by rw [<- hN1]; exact Nat.le_trans hN hb2.size⟩
  rw [NX.out, LX.out]
  have q := hown'.kept (grownBy_setCell' w3 w.heap.size (.slice (some ⟨g', 0, none⟩) (pre.length + 1) cap')) (Or.inr (fun e => by
   have h1 := (hown'.lt _ e).1
   omega))
  rw [hN1] at q
  exact q
 case done =>
  rintro D ys W hD rfl ⟨⟨v, hv, hrow, _⟩, hB1, hN⟩ hK
  have hc := hv.cell
  gi_wp2_with fail
  refine ⟨by simp, .inl ⟨_, _, rfl, run_takeDeferred hK, ?_⟩⟩
  refine ⟨_, results_tmp rfl _ _ _, v, rfl, ?_, hB1.trans (belowK_b (w := w) Xm W D _ _ (by have := HB.size; omega) hK rfl rfl)⟩
  rw [SP.out]
  have q := ownsRow_putObj (qR hrow (show w.heap.size <= N1 by have := HB.size; omega)) (.deferred none) hK rfl
  rw [List.length_map]
  exact q
 case stop =>
  rintro D c pre W _ _ h _
  exact h.elim
theorem xC (s : ByteArray) (hs : s.size <= 1000000000000) (w : World) : Calls Tryz.prog 68 #[.string s] w fun e w' => ∃ v, e = .returned v /\ w'.ownsRow w.heap.size 109 2 v (zx s).length (cls (zx s)) /\ Below w.heap.size w w' :=
 callsIn_wide.1 (QR 5 (by decide) s hs w)
end
section
open Go Go.RowKit Go.Sort
section
theorem kp {k : Int} (h0 : 0 <= k) (h1 : k <= 9) : k = 0 \/ k = 1 \/ k = 2 \/ k = 3 \/ k = 4 \/ k = 5 \/ k = 6 \/ k = 7 \/ k = 8 \/ k = 9 := by omega
set_option maxHeartbeats 8000000 in
set_option maxRecDepth 100000 in
theorem QT (k : Int) (h0 : 0 <= k) (h1 : k <= 9) (w : World) : Calls Tryz.prog 149 #[.int .i8 k] w fun e w' => e = .returned (.bool (picK k)) /\ w' = w := by
 rcases kp h0 h1 with rfl | rfl | rfl | rfl | rfl | rfl | rfl | rfl | rfl | rfl
 all_goals
  go_enter Tryz.func149, Tryz.ntmps149
  go_wp2_with fail
  go_ret
  exact ⟨rfl, rfl⟩
set_option maxHeartbeats 16000000 in
set_option maxRecDepth 100000 in
theorem QU (base : Int) (h0 : 0 <= base) (h1 : base <= 9) (ahead next : Int) (w : World) : Calls Tryz.prog 141 #[.int .i8 base, .int .i32 ahead, .int .i32 next] w fun e w' => e = .returned (.bool (z6 base ahead next)) /\ Below w.heap.size w w' := by
 have KN := Xk (jM next w)
 have KA := Xk (fun W => jM ahead W)
 have PB := Xk (fun W => QT base h0 h1 W)
 have rk := jv next
 have TK : Hid (z6 base ahead next = if za next = 2 \/ za next = 4 \/ za next = 3 then true else if za next = 5 then picK base else if za next = 7 \/ za next = 8 then picK base && decide (za ahead = 3) else false) := Xk rfl
 have ra := jv ahead
 generalize z6 base ahead next = T at *
 generalize picK base = pb at *
 generalize za next = kd at *
 generalize za ahead = ka at *
 have three : ∀ (e : Prop), e -> e := fun e h => h
 rcases kp rk.1 rk.2 with rfl | rfl | rfl | rfl | rfl | rfl | rfl | rfl | rfl | rfl
 case inl | inr.inl | inr.inr.inr.inr.inr.inr.inl | inr.inr.inr.inr.inr.inr.inr.inr.inr =>
  have R := Xk (show T = false by rw [TK.out]; rfl)
  go_enter Tryz.func141, Tryz.ntmps141
  go_wp2_with fail
  refine KN.out.mono ?_; rintro e w1 ⟨rfl, hb1⟩
  have HB := Xk hb1
  clear hb1
  go_wp2_with fail
  refine (PB.out _).mono ?_; rintro e w2 ⟨rfl, hw⟩
  rw [hw]
  clear hw
  go_wp2_with fail
  go_ret
  exact ⟨by rw [R.out]; rfl, HB.out⟩
 case inr.inr.inl | inr.inr.inr.inl | inr.inr.inr.inr.inl =>
  have R := Xk (show T = true by rw [TK.out]; rfl)
  go_enter Tryz.func141, Tryz.ntmps141
  go_wp2_with fail
  refine KN.out.mono ?_; rintro e w1 ⟨rfl, hb1⟩
  have HB := Xk hb1
  clear hb1
  go_wp2_with fail
  refine (PB.out _).mono ?_; rintro e w2 ⟨rfl, hw⟩
  rw [hw]
  clear hw
  go_wp2_with fail
  go_ret
  exact ⟨by rw [R.out]; rfl, HB.out⟩
 case inr.inr.inr.inr.inr.inl =>
  have R := Xk (show T = pb by rw [TK.out]; rfl)
  go_enter Tryz.func141, Tryz.ntmps141
  go_wp2_with fail
  refine KN.out.mono ?_; rintro e w1 ⟨rfl, hb1⟩
  have HB := Xk hb1
  clear hb1
  go_wp2_with fail
  refine (PB.out _).mono ?_; rintro e w2 ⟨rfl, hw⟩
  rw [hw]
  clear hw
  go_wp2_with fail
  go_ret
  exact ⟨by rw [R.out]; rfl, HB.out⟩
 all_goals
  have R := Xk (show T = (pb && decide (ka = 3)) by rw [TK.out]; rfl)
  cases pb with
  | false =>
   go_enter Tryz.func141, Tryz.ntmps141
   go_wp2_with fail
   refine KN.out.mono ?_; rintro e w1 ⟨rfl, hb1⟩
   have HB := Xk hb1
   clear hb1
   go_wp2_with fail
   refine (PB.out _).mono ?_; rintro e w2 ⟨rfl, hw⟩
   rw [hw]
   clear hw
   have KA := Xk (KA.out w1)
   go_wp2_with fail
   refine KA.out.mono ?_; rintro e w3 ⟨rfl, hb3⟩
   have HB3 := Xk (HB.out.trans (hb3.mono HB.out.size))
   clear hb3
   go_wp2_with fail
   go_ret
   exact ⟨by rw [R.out]; rfl, HB3.out⟩
  | true =>
   by_cases k3 : ka = 3
   ·have R2 := Xk (show T = true by rw [R.out, decide_eq_true k3]; rfl)
    have e3 : (ka == 3) = true := by rw [k3]; rfl
    go_enter Tryz.func141, Tryz.ntmps141
    go_wp2_with fail
    refine KN.out.mono ?_; rintro e w1 ⟨rfl, hb1⟩
    have HB := Xk hb1
    clear hb1
    go_wp2_with fail
    refine (PB.out _).mono ?_; rintro e w2 ⟨rfl, hw⟩
    rw [hw]
    clear hw
    have KA := Xk (KA.out w1)
    go_wp2_with fail
    refine KA.out.mono ?_; rintro e w3 ⟨rfl, hb3⟩
    have HB3 := Xk (HB.out.trans (hb3.mono HB.out.size))
    clear hb3
    go_wp2_with fail
    go_ret
    exact ⟨by rw [R2.out]; rfl, HB3.out⟩
   ·have R2 := Xk (show T = false by rw [R.out, decide_eq_false k3]; rfl)
    have e3 : (ka == 3) = false := by rw [beq_eq_false_iff_ne]; exact k3
    go_enter Tryz.func141, Tryz.ntmps141
    go_wp2_with fail
    refine KN.out.mono ?_; rintro e w1 ⟨rfl, hb1⟩
    have HB := Xk hb1
    clear hb1
    go_wp2_with fail
    refine (PB.out _).mono ?_; rintro e w2 ⟨rfl, hw⟩
    rw [hw]
    clear hw
    have KA := Xk (KA.out w1)
    go_wp2_with fail
    refine KA.out.mono ?_; rintro e w3 ⟨rfl, hb3⟩
    have HB3 := Xk (HB.out.trans (hb3.mono HB.out.size))
    clear hb3
    go_wp2_with fail
    go_ret
    exact ⟨by rw [R2.out]; rfl, HB3.out⟩
end
end
section
open Go Go.RowKit Go.Sort
section
set_option maxHeartbeats 16000000 in
set_option maxRecDepth 100000 in
theorem ref_wide (A : Option Addr) (c : Nat) (l : List Int) (hne : l ≠ []) (hl : l.length <= 35184372000000) (w : World) (S : Sees w w.heap.size A (rns l)) :
  Calls Tryz.prog 129 #[.slice A l.length c] w fun e w' => e = .returned (.int .i64 (qA l)) /\ Below w.heap.size w w' := by
 have pos : 0 < l.length := List.length_pos_iff.2 hne
 obtain ⟨ad, rfl, hab, c0⟩ := qI S 0 pos
 have ad0 : ad.add 0 = ad := by unfold Addr.add; rw [if_pos rfl]
 rw [ad0] at c0
 have K0 := Xk (jM (l.getD 0 0) w)
 have K1 := Xk (fun W => jM (l.getD 1 0) W)
 have C1 := Xk (fun (h : 1 < l.length) (W : World) (hb : Below w.heap.size w W) => show W.cell? ⟨ad.block, ad.off + 1, none⟩ = some (.int .i32 (l.getD 1 0)) from by
  rw [qm ad 1 (by decide)]
  obtain ⟨a2, e, _, h2⟩ := qI S 1 h
  cases e
  exact (hb.cell (p := ad.add 1) (by rw [zg]; exact hab)).trans h2)
 have rk := jv (l.getD 0 0)
 have WC : Hid (qA l = if za (l.getD 0 0) = 1 \/ za (l.getD 0 0) = 2 \/ za (l.getD 0 0) = 4 \/ za (l.getD 0 0) = 3 then 0 else if za (l.getD 0 0) = 7 \/ za (l.getD 0 0) = 5 then 2 else if za (l.getD 0 0) = 8 then (if 1 < l.length /\ l.getD 1 0 = 65039 then 2 else 1) else if za (l.getD 0 0) = 6 then (if 1 < l.length /\ za (l.getD 1 0) = 6 then 2 else 1) else 1) := Xk rfl
 generalize qA l = V at *
 generalize za (l.getD 0 0) = kd at *
 generalize za (l.getD 1 0) = k1 at *
 generalize l.getD 0 0 = r0 at *
 generalize l.getD 1 0 = r1 at *
 generalize l.length = n at *
 have pos' : (0 : Int) < (n : Int) := by omega
 clear S hne
 rcases kp rk.1 rk.2 with rfl | rfl | rfl | rfl | rfl | rfl | rfl | rfl | rfl | rfl
 case inl | inr.inr.inr.inr.inr.inr.inr.inr.inr =>
  have R := Xk (show V = 1 by rw [WC.out]; rfl)
  go_enter Tryz.func129, Tryz.ntmps129
  go_wp2_with fail
  refine K0.out.mono ?_; rintro e w1 ⟨rfl, hb1⟩
  have HB := Xk hb1
  clear hb1
  go_wp2_with fail
  go_ret
  exact ⟨by rw [R.out]; rfl, HB.out⟩
 case inr.inl | inr.inr.inl | inr.inr.inr.inl | inr.inr.inr.inr.inl =>
  have R := Xk (show V = 0 by rw [WC.out]; rfl)
  go_enter Tryz.func129, Tryz.ntmps129
  go_wp2_with fail
  refine K0.out.mono ?_; rintro e w1 ⟨rfl, hb1⟩
  have HB := Xk hb1
  clear hb1
  go_wp2_with fail
  go_ret
  exact ⟨by rw [R.out]; rfl, HB.out⟩
 case inr.inr.inr.inr.inr.inl | inr.inr.inr.inr.inr.inr.inr.inl =>
  have R := Xk (show V = 2 by rw [WC.out]; rfl)
  go_enter Tryz.func129, Tryz.ntmps129
  go_wp2_with fail
  refine K0.out.mono ?_; rintro e w1 ⟨rfl, hb1⟩
  have HB := Xk hb1
  clear hb1
  go_wp2_with fail
  go_ret
  exact ⟨by rw [R.out]; rfl, HB.out⟩
 case inr.inr.inr.inr.inr.inr.inl =>
  have R := Xk (show V = if 1 < n /\ k1 = 6 then 2 else 1 by rw [WC.out]; rfl)
  by_cases n1 : 1 < n
  ·have n1' : (1 : Int) < (n : Int) := by omega
   have C1 := Xk (C1.out n1)
   by_cases e6 : k1 = 6
   ·have R := Xk (show V = 2 by rw [R.out, if_pos ⟨n1, e6⟩])
    have e6' : (k1 == 6) = true := by rw [e6]; rfl
    clear e6
    go_enter Tryz.func129, Tryz.ntmps129
    go_wp2_with fail
    refine K0.out.mono ?_; rintro e w1 ⟨rfl, hb1⟩
    have HB := Xk hb1
    have cx := C1.out w1 hb1
    have K1 := Xk (K1.out w1)
    clear hb1
    go_wp2_with fail
    refine K1.out.mono ?_; rintro e w2 ⟨rfl, hb2⟩
    have HB2 := Xk (HB.out.trans (hb2.mono HB.out.size))
    clear hb2
    go_wp2_with fail
    go_ret
    exact ⟨by rw [R.out]; rfl, HB2.out⟩
   ·have R := Xk (show V = 1 by rw [R.out, if_neg (fun z => e6 z.2)])
    have e6' : (k1 == 6) = false := by rw [beq_eq_false_iff_ne]; exact e6
    clear e6
    go_enter Tryz.func129, Tryz.ntmps129
    go_wp2_with fail
    refine K0.out.mono ?_; rintro e w1 ⟨rfl, hb1⟩
    have HB := Xk hb1
    have cx := C1.out w1 hb1
    have K1 := Xk (K1.out w1)
    clear hb1
    go_wp2_with fail
    refine K1.out.mono ?_; rintro e w2 ⟨rfl, hb2⟩
    have HB2 := Xk (HB.out.trans (hb2.mono HB.out.size))
    clear hb2
    go_wp2_with fail
    go_ret
    exact ⟨by rw [R.out]; rfl, HB2.out⟩
  ·have n1' : ¬ (1 : Int) < (n : Int) := by omega
   have R := Xk (show V = 1 by rw [R.out, if_neg (fun z => n1 z.1)])
   go_enter Tryz.func129, Tryz.ntmps129
   go_wp2_with fail
   refine K0.out.mono ?_; rintro e w1 ⟨rfl, hb1⟩
   have HB := Xk hb1
   clear hb1
   go_wp2_with fail
   go_ret
   exact ⟨by rw [R.out]; rfl, HB.out⟩
 case inr.inr.inr.inr.inr.inr.inr.inr.inl =>
  have R := Xk (show V = if 1 < n /\ r1 = 65039 then 2 else 1 by rw [WC.out]; rfl)
  by_cases n1 : 1 < n
  ·have n1' : (1 : Int) < (n : Int) := by omega
   have C1 := Xk (C1.out n1)
   by_cases e6 : r1 = 65039
   ·have R := Xk (show V = 2 by rw [R.out, if_pos ⟨n1, e6⟩])
    have e6' : (r1 == 65039) = true := by rw [e6]; rfl
    clear e6
    go_enter Tryz.func129, Tryz.ntmps129
    go_wp2_with fail
    refine K0.out.mono ?_; rintro e w1 ⟨rfl, hb1⟩
    have HB := Xk hb1
    have cx := C1.out w1 hb1
    clear hb1
    go_wp2_with fail
    go_ret
    exact ⟨by rw [R.out]; rfl, HB.out⟩
   ·have R := Xk (show V = 1 by rw [R.out, if_neg (fun z => e6 z.2)])
    have e6' : (r1 == 65039) = false := by rw [beq_eq_false_iff_ne]; exact e6
    clear e6
    go_enter Tryz.func129, Tryz.ntmps129
    go_wp2_with fail
    refine K0.out.mono ?_; rintro e w1 ⟨rfl, hb1⟩
    have HB := Xk hb1
    have cx := C1.out w1 hb1
    clear hb1
    go_wp2_with fail
    go_ret
    exact ⟨by rw [R.out]; rfl, HB.out⟩
  ·have n1' : ¬ (1 : Int) < (n : Int) := by omega
   have R := Xk (show V = 1 by rw [R.out, if_neg (fun z => n1 z.1)])
   go_enter Tryz.func129, Tryz.ntmps129
   go_wp2_with fail
   refine K0.out.mono ?_; rintro e w1 ⟨rfl, hb1⟩
   have HB := Xk hb1
   clear hb1
   go_wp2_with fail
   go_ret
   exact ⟨by rw [R.out]; rfl, HB.out⟩
end
end
section
open Go Go.RowKit Go.Sort
section
set_option maxHeartbeats 32000000 in
set_option maxRecDepth 100000 in
theorem QV (A : Option Addr) (c : Nat) (l : List Int) (hne : l ≠ []) (hl : l.length <= 35184372000000) (w : World) (S : Sees w w.heap.size A (rns l)) :
  Calls Tryz.prog 127 #[.slice A l.length c] w fun e w' => e = .returned (.int .i64 (zl l : Int)) /\ Below w.heap.size w w' := by
 have pos : 0 < l.length := List.length_pos_iff.2 hne
 have F1 := Xk (fun (k : Nat) (hk : k < l.length) => qI S k hk)
 obtain ⟨ad, rfl, hab, c0⟩ := qI S 0 pos
 have ad0 : ad.add 0 = ad := by unfold Addr.add; rw [if_pos rfl]
 rw [ad0] at c0
 have CK := Xk (fun (k : Nat) (h : k < l.length) (W : World) (hb : Below w.heap.size w W) => show W.cell? (ad.add k) = some (.int .i32 (l.getD k 0)) from by
  obtain ⟨a2, e, _, h2⟩ := qI S k h
  cases e
  exact (hb.cell (p := ad.add k) (by rw [zg]; exact hab)).trans h2)
 have K0 := Xk (jM (l.getD 0 0) w)
 have K1 := Xk (fun W => jM (l.getD 1 0) W)
 have rk := jv (l.getD 0 0)
 have RK := Xk rk
 have TK := Xk (fun a b W => QU (za (l.getD 0 0)) rk.1 rk.2 a b W)
 have FC : Hid (zl l = if za (l.getD 0 0) = 1 then 1 else zA l (za (l.getD 0 0)) (16 - zV l) (zV l)) := Xk rfl
 have BK : Hid (zV l = if za (l.getD 0 0) = 6 /\ 1 < l.length /\ za (l.getD 1 0) = 6 then 2 else 1) := Xk rfl
 have GG : Hid (∀ f n, zA l (za (l.getD 0 0)) (f + 1) n = if n < l.length /\ z6 (za (l.getD 0 0)) (l.getD (n - 1) 0) (l.getD n 0) = true then zA l (za (l.getD 0 0)) f (n + 1) else n) := Xk (vI l _)
 have G0 : Hid (∀ n, zA l (za (l.getD 0 0)) 0 n = n) := Xk (fun n => rfl)
 generalize zl l = F at *
 generalize zV l = B0 at *
 generalize za (l.getD 0 0) = kd at *
 generalize za (l.getD 1 0) = k1 at *
 generalize l.getD 0 0 = r0 at *
 generalize zA l kd = GR at *
 obtain ⟨n, hn⟩ : ∃ n, n = l.length := ⟨_, rfl⟩
 rw [<- hn] at pos hl F1 CK BK GG ⊢
 have pos' : (0 : Int) < (n : Int) := by omega
 clear S hne hn
 by_cases k1e : kd = 1
 ·have R := Xk (show F = 1 by rw [FC.out, if_pos k1e])
  have e1 : (kd == 1) = true := by rw [k1e]; rfl
  clear k1e
  go_enter Tryz.func127, Tryz.ntmps127
  go_wp2_with fail
  refine K0.out.mono ?_; rintro e w1 ⟨rfl, hb1⟩
  have HB := Xk hb1
  clear hb1
  go_wp2_with fail
  go_ret
  exact ⟨by rw [R.out]; rfl, HB.out⟩
 have R := Xk (show GR (16 - B0) B0 = F by rw [FC.out, if_neg k1e])
 have e1 : (kd == 1) = false := by rw [beq_eq_false_iff_ne]; exact k1e
 clear k1e FC
 go_enter Tryz.func127, Tryz.ntmps127
 go_wp2_with fail
 refine K0.out.mono ?_; rintro e w1 ⟨rfl, hb1⟩
 have HB := Xk hb1
 clear hb1 K0
 go_upto_region 5 with fail
 go_cut [19] from 13 to 19 (fun s19 wx => s19 = .bool (decide (kd = 6 /\ 1 < n)) /\ wx = w1)
 case first =>
  by_cases e6 : kd = 6
  ·have e6' : (kd == 6) = true := by rw [e6]; rfl
   by_cases n1 : 1 < n
   ·have n1' : (1 : Int) < (n : Int) := by omega
    have RR := Xk (show decide (kd = 6 /\ 1 < n) = true from decide_eq_true ⟨e6, n1⟩)
    clear e6
    go_wp2_with fail
    go_meet
    exact ⟨by rw [RR.out], rfl⟩
   ·have n1' : ¬ (1 : Int) < (n : Int) := by omega
    have RR := Xk (show decide (kd = 6 /\ 1 < n) = false from decide_eq_false (fun z => n1 z.2))
    clear e6
    go_wp2_with fail
    go_meet
    exact ⟨by rw [RR.out], rfl⟩
  ·have e6' : (kd == 6) = false := by rw [beq_eq_false_iff_ne]; exact e6
   have RR := Xk (show decide (kd = 6 /\ 1 < n) = false from decide_eq_false (fun z => e6 z.1))
   go_wp2_with fail
   go_meet
   exact ⟨by rw [RR.out], rfl⟩
 case rest =>
 obtain ⟨rfl, hwc⟩ := hcut
 rw [hwc]
 clear hwc
 obtain ⟨D, hD⟩ : ∃ D, D = decide (kd = 6 /\ 1 < n) := ⟨_, rfl⟩
 rw [<- hD]
 have HD := Xk hD
 clear hD
 go_upto_if 19 with fail
 go_cut [4] from 19 to 25 (fun s4 wx => s4 = .int .i64 (B0 : Int) /\ Hid (Below w.heap.size w wx))
 case first =>
  cases D with
  | false =>
   have RR := Xk (show B0 = 1 by rw [BK.out, if_neg (fun z => (of_decide_eq_false HD.out.symm) ⟨z.1, z.2.1⟩)])
   go_wp2_with fail
   go_meet
   exact ⟨by rw [RR.out]; rfl, HB⟩
  | true =>
   have dd := of_decide_eq_true HD.out.symm
   have n1 : (1 : Int) < (n : Int) := by omega
   have cx := CK.out 1 dd.2 w1 HB.out
   rw [<- qm ad 1 (by decide)] at cx
   have K1 := Xk (K1.out w1)
   generalize l.getD 1 0 = r1 at *
   by_cases e6 : k1 = 6
   ·have RR := Xk (show B0 = 2 by rw [BK.out, if_pos ⟨dd.1, dd.2, e6⟩])
    have e6' : (k1 == 6) = true := by rw [e6]; rfl
    clear e6 dd
    go_wp2_with fail
    refine K1.out.mono ?_; rintro e w2 ⟨rfl, hb2⟩
    have HB2 := Xk (HB.out.trans (hb2.mono HB.out.size))
    clear hb2
    go_wp2_with fail
    go_meet
    exact ⟨by rw [RR.out]; rfl, HB2⟩
   ·have RR := Xk (show B0 = 1 by rw [BK.out, if_neg (fun z => e6 z.2.2)])
    have e6' : (k1 == 6) = false := by rw [beq_eq_false_iff_ne]; exact e6
    clear e6 dd
    go_wp2_with fail
    refine K1.out.mono ?_; rintro e w2 ⟨rfl, hb2⟩
    have HB2 := Xk (HB.out.trans (hb2.mono HB.out.size))
    clear hb2
    go_wp2_with fail
    go_meet
    exact ⟨by rw [RR.out]; rfl, HB2⟩
 case rest =>
 obtain ⟨rfl, hB⟩ := hcut
 obtain ⟨W2, hW⟩ : ∃ W2, W2 = wc := ⟨_, rfl⟩
 rw [<- hW] at hB ⊢
 clear hW HB HD
 have b12 : 1 <= B0 /\ B0 <= 2 := by rw [BK.out]; split <;> decide
 clear BK K1
 go_wp2_with fail
 go_loopw [4] (fun s4 wr => ∃ (k f : Nat), 1 <= k /\ k + f = 16 /\ s4 = .int .i64 (k : Int) /\ Hid (GR f k = F) /\ Hid (Below w.heap.size w wr)) (fun s4 _ => 16 - (intOf s4).toNat)
 case atStart => exact ⟨B0, 16 - B0, b12.1, by omega, rfl, R, hB⟩
 case round =>
  obtain ⟨k, f, hk, hkf, rfl, hI, hb⟩ := hrel
  clear hB b12 R
  by_cases c1 : k < n
  ·have c1' : (k : Int) < (n : Int) := by omega
   by_cases c2 : k < 16
   ·have c2' : (k : Int) < 16 := by omega
    obtain ⟨f', rfl⟩ : ∃ f', f = f' + 1 := ⟨f - 1, by omega⟩
    have ST := hI.out
    rw [GG.out] at ST
    have BD := Xk (fun q => qt q wr hb.out)
    have xa := fun q => CK.out (k - 1) (by omega) (wr.drewN q) (BD.out q)
    have xb := fun q => CK.out k c1 (wr.drewN q) (BD.out q)
    have TQ := Xk (fun q => TK.out (l.getD (k - 1) 0) (l.getD k 0) (wr.drewN q))
    generalize z6 kd (l.getD (k - 1) 0) (l.getD k 0) = T at *
    generalize l.getD (k - 1) 0 = ra at *
    generalize l.getD k 0 = rb at *
    have ST := Xk ST
    have wk1 := Xl ((k : Int) - 1) (by omega)
    have wk := Xl ((k : Int) + 1) (by omega)
    have p0 : (0 : Int) <= (k : Int) - 1 := by omega
    have p1 : (k : Int) - 1 < (n : Int) := by omega
    have p2 : ((k : Int) - 1).toNat = k - 1 := by omega
    have p3 : (0 : Int) <= (k : Int) := by omega
    have p4 : (k : Int).toNat = k := by omega
    clear hI
    go_wp2_with fail
    refine qB 10 (by kernel_rfl) (by kernel_rfl) ?_
    simp only [Xn, Xo, Xp, Xq]
    repeat (first | go_big_quiet_step (fail) | quiet_step (fail))
    refine wpQuiet_nil ?_
    intro _ hw'
    obtain ⟨nq, hw''⟩ := hw'
    subst hw''
    have TQ := Xk (TQ.out nq)
    have hb := Xk (BD.out nq)
    clear xa xb BD
    generalize wr.drewN nq = V at *
    go_wp2_with fail
    refine TQ.out.mono ?_; rintro e w3 ⟨rfl, hb3⟩
    have HB3 := Xk (hb.out.trans (hb3.mono hb.out.size))
    clear hb3 TQ
    cases T with
    | false =>
     have RR := Xk (show k = F by rw [<- ST.out, if_neg (fun z => by cases z.2)])
     go_wp2_with fail
     go_ret
     exact ⟨by rw [<- RR.out]; rfl, HB3.out⟩
    | true =>
     have NX := Xk (show GR f' (k + 1) = F by rw [<- ST.out, if_pos ⟨c1, rfl⟩])
     go_wp2_with fail
     go_roundw
     case rel => exact ⟨k + 1, f', by omega, by omega, by go_num, NX, HB3⟩
     case measure => simp [intOf]; omega
   ·have c2' : ¬ (k : Int) < 16 := by omega
    have RR := Xk (show k = F by
     have z : f = 0 := by omega
     rw [<- hI.out, z, G0.out])
    go_wp2_with fail
    go_ret
    exact ⟨by rw [<- RR.out]; rfl, hb.out⟩
  ·have c1' : ¬ (k : Int) < (n : Int) := by omega
   have RR := Xk (show k = F by
    rw [<- hI.out]
    cases f with
    | zero => rw [G0.out]
    | succ f => rw [GG.out, if_neg (fun z => c1 z.1)])
   go_wp2_with fail
   go_ret
   exact ⟨by rw [<- RR.out]; rfl, hb.out⟩
end
end
section
open Go Go.RowKit Go.Sort
section
theorem str_at (t : ByteArray) (i : Nat) (hi : i < t.size) : ∀ W, (Instr.index 9 (.string t) (.int .i64 (i : Int))).run Tryz.prog W = .ok (.int .u8 (byt t i : Int)) W := fun W => by
 rw [run_index_string _ _ _ _ _ Tryz.underlying9, dif_pos (by omega)]
 unfold byt
 rw [get_at t i hi]
 rfl
set_option maxHeartbeats 16000000 in
set_option maxRecDepth 100000 in
theorem ref_fits (t : ByteArray) (ht : t.size <= 1000000000000000) (x : RwT) (hn : x.n <= 4) (w : World) : Calls Tryz.prog 139 #[.string t, .agg #[.int .i64 (x.lo : Int), .int .i64 (x.hi : Int), .int .i64 (x.n : Int), .int .i64 (x.lo2 : Int), .int .i64 (x.hi2 : Int), .int .i64 (x.off : Int)]] w fun e w' => e = .returned (.int .i64 (zG t x : Int)) /\ Below w.heap.size w w' := by
 obtain ⟨Q, hQ⟩ : ∃ Q, Q = w.alloc (.cells #[.int .i64 (x.lo : Int), .int .i64 (x.hi : Int), .int .i64 (x.n : Int), .int .i64 (x.lo2 : Int), .int .i64 (x.hi2 : Int), .int .i64 (x.off : Int)] 182) := ⟨_, rfl⟩
 have BQ : Below w.heap.size w Q := by rw [hQ]; exact (Below.refl _ w).alloc Xm _
 have KQ : Bq Q w.heap.size [.int .i64 (x.lo : Int), .int .i64 (x.hi : Int), .int .i64 (x.n : Int), .int .i64 (x.lo2 : Int), .int .i64 (x.hi2 : Int), .int .i64 (x.off : Int)] := by rw [hQ]; exact Bq.new w _ _
 have FT : Hid (zG t x = if t.size = 0 \/ byt t 0 < x.lo \/ x.hi < byt t 0 then 0 else zv t x 4 1) := Xk rfl
 have FK : Hid (∀ f k, zv t x (f + 1) k = if k < x.n /\ k < t.size then (if byt t k < loR x k \/ hiR x k < byt t k then k else zv t x f (k + 1)) else k) := Xk (fun f k => rfl)
 have F0 : Hid (∀ k, zv t x 0 k = k) := Xk (fun k => rfl)
 have LR : Hid (∀ k, loR x k = if k = 1 then x.lo2 else 128) := Xk (fun k => rfl)
 have HR : Hid (∀ k, hiR x k = if k = 1 then x.hi2 else 191) := Xk (fun k => rfl)
 have HQ := Xk hQ
 have HB := Xk BQ
 have HK := Xk KQ
 have IX := Xk (str_at t)
 generalize zG t x = F at *
 generalize zv t x = FX at *
 generalize loR x = lx at *
 generalize hiR x = hx at *
 obtain ⟨lo, hi, n, lo2, hi2, off⟩ := x
 dsimp only at *
 clear hQ BQ KQ
 have DW := Xk (fun W q (h : Below w.heap.size w W) => qt q W h)
 go_enter Tryz.func139, Tryz.ntmps139
 go_upto_region 1 with fail
 rw [<- HQ.out]
 clear HQ
 have k0 := HK.out.c 0 _ rfl
 have k1 := HK.out.c 1 _ rfl
 by_cases z : t.size = 0
 ·have R := Xk (show F = 0 by rw [FT.out, if_pos (Or.inl z)])
  have zs : ((t.size : Int) == 0) = true := by simp [z]
  refine qB 18 (by kernel_rfl) (by kernel_rfl) ?_
  simp only [Xn, Xo, Xp, Xq]
  repeat (first | go_big_quiet_step (fail) | quiet_step (fail))
  refine wpQuiet_nil ?_
  intro _ hw'
  obtain ⟨nq, hw''⟩ := hw'
  subst hw''
  go_wp2_with fail
  go_ret
  exact ⟨by rw [R.out]; rfl, DW.out _ _ HB.out⟩
 have zs : ((t.size : Int) == 0) = false := by rw [beq_eq_false_iff_ne]; omega
 have ix0 := IX.out 0 (by omega)
 have ix0 : ∀ W, (Instr.index 9 (.string t) (.int .i64 0)).run Tryz.prog W = .ok (.int .u8 (byt t 0 : Int)) W := ix0
 have b256 := qN t 0
 generalize byt t 0 = b at *
 by_cases c1 : b < lo
 ·have R := Xk (show F = 0 by rw [FT.out, if_pos (Or.inr (Or.inl c1))])
  have c1' : (b : Int) < (lo : Int) := by omega
  refine qB 18 (by kernel_rfl) (by kernel_rfl) ?_
  simp only [Xn, Xo, Xp, Xq]
  repeat (first | go_big_quiet_step (fail) | quiet_step (fail))
  refine wpQuiet_nil ?_
  intro _ hw'
  obtain ⟨nq, hw''⟩ := hw'
  subst hw''
  go_wp2_with fail
  go_ret
  exact ⟨by rw [R.out]; rfl, DW.out _ _ HB.out⟩
 have c1' : ¬ (b : Int) < (lo : Int) := by omega
 by_cases c2 : hi < b
 ·have R := Xk (show F = 0 by rw [FT.out, if_pos (Or.inr (Or.inr c2))])
  have c2' : (hi : Int) < (b : Int) := by omega
  refine qB 18 (by kernel_rfl) (by kernel_rfl) ?_
  simp only [Xn, Xo, Xp, Xq]
  repeat (first | go_big_quiet_step (fail) | quiet_step (fail))
  refine wpQuiet_nil ?_
  intro _ hw'
  obtain ⟨nq, hw''⟩ := hw'
  subst hw''
  go_wp2_with fail
  go_ret
  exact ⟨by rw [R.out]; rfl, DW.out _ _ HB.out⟩
 have c2' : ¬ (hi : Int) < (b : Int) := by omega
 have R := Xk (show FX 4 1 = F by rw [FT.out, if_neg (by omega)])
 refine qB 18 (by kernel_rfl) (by kernel_rfl) ?_
 simp only [Xn, Xo, Xp, Xq]
 repeat (first | go_big_quiet_step (fail) | quiet_step (fail))
 refine wpQuiet_nil ?_
 intro _ hw'
 obtain ⟨nq, hw''⟩ := hw'
 subst hw''
 have KW := Xk (HK.out.draw nq)
 have BW := Xk (DW.out _ nq HB.out)
 generalize Q.drewN nq = V at *
 have HTS : Hid (t.size <= 1000000000000000) := Xk ht
 clear k0 k1 ix0 z zs c1 c2 c1' c2' FT
 go_wp2_with fail
 go_loopw [5] (fun s5 wr => ∃ (k f : Nat), 1 <= k /\ k + f = 5 /\ s5 = .int .i64 (k : Int) /\ Hid (FX f k = F) /\ Hid (Bq wr w.heap.size [.int .i64 (lo : Int), .int .i64 (hi : Int), .int .i64 (n : Int), .int .i64 (lo2 : Int), .int .i64 (hi2 : Int), .int .i64 (off : Int)]) /\ Hid (Below w.heap.size w wr)) (fun s5 _ => 5 - (intOf s5).toNat)
 case atStart => exact ⟨1, 4, Xm, rfl, rfl, R, KW, BW⟩
 case round =>
  obtain ⟨k, f, hk1, hkf, rfl, hI, hK, hb⟩ := hrel
  clear KW BW
  have z2 := hK.out.c 2 _ rfl
  by_cases lt : k < n
  ·have lt' : (k : Int) < (n : Int) := by omega
   by_cases ls : k < t.size
   ·have ls' : (k : Int) < (t.size : Int) := by omega
    have ix := IX.out k ls
    obtain ⟨f', rfl⟩ : ∃ f', f = f' + 1 := ⟨f - 1, by omega⟩
    have ST := hI.out
    rw [FK.out, if_pos ⟨lt, ls⟩, LR.out, HR.out] at ST
    have ST := Xk ST
    have wk := Xl ((k : Int) + 1) (by omega)
    have v256 := qN t k
    have bx : Hid (byt t k < 256) := Xk v256
    generalize byt t k = v at *
    by_cases k1 : k = 1
    ·have e1 : ((k : Int) == 1) = true := by rw [k1]; rfl
     rw [if_pos k1, if_pos k1] at ST
     clear k1
     have z3 := fun q => (hK.out.draw q).c 3 _ rfl
     have z4 := fun q => (hK.out.draw q).c 4 _ rfl
     go_wp2_with fail
     refine qB 5 (by kernel_rfl) (by kernel_rfl) ?_
     simp only [Xn, Xo, Xp, Xq]
     repeat (first | go_big_quiet_step (fail) | quiet_step (fail))
     refine wpQuiet_nil ?_
     intro _ hw'
     obtain ⟨nq2, hw''⟩ := hw'
     subst hw''
     have hK := Xk (hK.out.draw nq2)
     have hb := Xk (DW.out _ nq2 hb.out)
     generalize wr.drewN nq2 = V2 at *
     by_cases d1 : v < lo2
     ·have d1' : (v : Int) < (lo2 : Int) := by omega
      have RR := Xk (show (k : Nat) = F by rw [<- ST.out, if_pos (Or.inl d1)])
      go_wp2_with fail
      go_ret
      exact ⟨by rw [<- RR.out]; rfl, hb.out⟩
     ·have d1' : ¬ (v : Int) < (lo2 : Int) := by omega
      by_cases d2 : hi2 < v
      ·have d2' : (hi2 : Int) < (v : Int) := by omega
       have RR := Xk (show (k : Nat) = F by rw [<- ST.out, if_pos (Or.inr d2)])
       go_wp2_with fail
       go_ret
       exact ⟨by rw [<- RR.out]; rfl, hb.out⟩
      ·have d2' : ¬ (hi2 : Int) < (v : Int) := by omega
       have NX := Xk (show FX f' (k + 1) = F by rw [<- ST.out, if_neg (by omega)])
       go_wp2_with fail
       go_roundw
       case rel => exact ⟨k + 1, f', by omega, by omega, by go_num, NX, hK, hb⟩
       case measure => simp [intOf]; omega
    ·have e1 : ((k : Int) == 1) = false := by rw [beq_eq_false_iff_ne]; omega
     rw [if_neg k1, if_neg k1] at ST
     by_cases d1 : v < 128
     ·have d1' : (v : Int) < 128 := by omega
      have RR := Xk (show (k : Nat) = F by rw [<- ST.out, if_pos (Or.inl d1)])
      go_wp2_with fail
      go_ret
      exact ⟨by rw [<- RR.out]; rfl, hb.out⟩
     ·have d1' : ¬ (v : Int) < 128 := by omega
      by_cases d2 : 191 < v
      ·have d2' : (191 : Int) < (v : Int) := by omega
       have RR := Xk (show (k : Nat) = F by rw [<- ST.out, if_pos (Or.inr d2)])
       go_wp2_with fail
       go_ret
       exact ⟨by rw [<- RR.out]; rfl, hb.out⟩
      ·have d2' : ¬ (191 : Int) < (v : Int) := by omega
       have NX := Xk (show FX f' (k + 1) = F by rw [<- ST.out, if_neg (by omega)])
       go_wp2_with fail
       go_roundw
       case rel => exact ⟨k + 1, f', by omega, by omega, by go_num, NX, hK, hb⟩
       case measure => simp [intOf]; omega
   ·have ls' : ¬ (k : Int) < (t.size : Int) := by omega
    have RR := Xk (show (k : Nat) = F by
     rw [<- hI.out]
     cases f with
     | zero => omega
     | succ f => rw [FK.out, if_neg (by omega)])
    go_wp2_with fail
    go_ret
    exact ⟨by rw [<- RR.out]; rfl, hb.out⟩
  ·have lt' : ¬ (k : Int) < (n : Int) := by omega
   have RR := Xk (show (k : Nat) = F by
    rw [<- hI.out]
    cases f with
    | zero => rw [F0.out]
    | succ f => rw [FK.out, if_neg (by omega)])
   go_wp2_with fail
   go_ret
   exact ⟨by rw [<- RR.out]; rfl, hb.out⟩
end
end
section
open Go Go.RowKit Go.Sort
section
theorem rows_ok : ∀ x ∈ zY, x.n <= 4 /\ x.off <= 255 := by
 intro x m
 unfold zY at m
 simp only [List.mem_cons, List.not_mem_nil, or_false] at m
 rcases m with rfl | rfl | rfl | rfl | rfl | rfl | rfl | rfl | rfl <;> exact ⟨by decide, by decide⟩
def SeesW (w : World) (g : Nat) (L : List RwT) : Prop := ∀ j, (hj : j < L.length) -> w.cell? ⟨g, j * 6, none⟩ = some (.int .i64 ((L[j]).lo : Int)) /\ w.cell? ⟨g, j * 6 + 1, none⟩ = some (.int .i64 ((L[j]).hi : Int)) /\ w.cell? ⟨g, j * 6 + 2, none⟩ = some (.int .i64 ((L[j]).n : Int)) /\ w.cell? ⟨g, j * 6 + 3, none⟩ = some (.int .i64 ((L[j]).lo2 : Int)) /\ w.cell? ⟨g, j * 6 + 4, none⟩ = some (.int .i64 ((L[j]).hi2 : Int)) /\ w.cell? ⟨g, j * 6 + 5, none⟩ = some (.int .i64 ((L[j]).off : Int))
theorem rwV_at : ∀ (L : List RwT) (j : Nat) (hj : j < L.length), (L.flatMap rwV)[j * 6]? = some (.int .i64 ((L[j]).lo : Int)) /\ (L.flatMap rwV)[j * 6 + 1]? = some (.int .i64 ((L[j]).hi : Int)) /\ (L.flatMap rwV)[j * 6 + 2]? = some (.int .i64 ((L[j]).n : Int)) /\ (L.flatMap rwV)[j * 6 + 3]? = some (.int .i64 ((L[j]).lo2 : Int)) /\ (L.flatMap rwV)[j * 6 + 4]? = some (.int .i64 ((L[j]).hi2 : Int)) /\ (L.flatMap rwV)[j * 6 + 5]? = some (.int .i64 ((L[j]).off : Int))
 | [], j, h => by cases h
 | p :: l, 0, _ => ⟨rfl, rfl, rfl, rfl, rfl, rfl⟩
 | p :: l, j + 1, h => by
  have ih := rwV_at l j (by simpa using h)
  have e : (p :: l).flatMap rwV = .int .i64 (p.lo : Int) :: .int .i64 (p.hi : Int) :: .int .i64 (p.n : Int) :: .int .i64 (p.lo2 : Int) :: .int .i64 (p.hi2 : Int) :: .int .i64 (p.off : Int) :: l.flatMap rwV := rfl
  rw [e, show (j + 1) * 6 = j * 6 + 1 + 1 + 1 + 1 + 1 + 1 by omega]
  simpa using ih
theorem SeesW.new (w : World) (L : List RwT) (T : TypeId) : SeesW (w.alloc (.cells (L.flatMap rwV).toArray T)) w.heap.size L := fun j hj => by
 have h := rwV_at L j hj
 exact ⟨(z7 w (L.flatMap rwV) T _ _ h.1).1, (z7 w (L.flatMap rwV) T _ _ h.2.1).1, (z7 w (L.flatMap rwV) T _ _ h.2.2.1).1, (z7 w (L.flatMap rwV) T _ _ h.2.2.2.1).1, (z7 w (L.flatMap rwV) T _ _ h.2.2.2.2.1).1, (z7 w (L.flatMap rwV) T _ _ h.2.2.2.2.2).1⟩
theorem SeesW.below {w w' : World} {g B : Nat} {L : List RwT} (h : SeesW w g L) (hb : Below B w w') (hg : g < B) : SeesW w' g L := fun j hj =>
 ⟨(hb.cell (p := ⟨g, j * 6, none⟩) hg).trans (h j hj).1, (hb.cell (p := ⟨g, j * 6 + 1, none⟩) hg).trans (h j hj).2.1, (hb.cell (p := ⟨g, j * 6 + 2, none⟩) hg).trans (h j hj).2.2.1, (hb.cell (p := ⟨g, j * 6 + 3, none⟩) hg).trans (h j hj).2.2.2.1, (hb.cell (p := ⟨g, j * 6 + 4, none⟩) hg).trans (h j hj).2.2.2.2.1, (hb.cell (p := ⟨g, j * 6 + 5, none⟩) hg).trans (h j hj).2.2.2.2.2⟩
theorem QW {t : ByteArray} {L : List RwT} {k : Nat} (hk : k < L.length) : qi t (L.drop k) = if zG t L[k] = 0 then qi t (L.drop (k + 1)) else if zG t L[k] < (L[k]).n then (65533, zG t L[k]) else (valF t (zG t L[k] - 1) 1 ((byt t 0 : Int) - (L[k]).off), zG t L[k]) := by
 rw [List.drop_eq_getElem_cons hk]
 rfl
theorem QX {t : ByteArray} {x : RwT} : zG t x <= t.size /\ (1 <= x.n -> zG t x <= x.n) := by
 unfold zG
 split
 ·exact ⟨Nat.zero_le _, fun _ => Nat.zero_le _⟩
 ·rename_i h
  have z : ¬ t.size = 0 := fun z => h (Or.inl z)
  by_cases p : 1 <= x.n
  ·have := vt t x 4 1 (by omega) p
   exact ⟨this.1, fun _ => this.2⟩
  ·have e : zv t x 4 1 = 1 := by unfold zv; rw [if_neg (by omega)]
   rw [e]
   exact ⟨by omega, fun q => absurd q p⟩
theorem rows_n : ∀ x ∈ zY, 1 <= x.n := by
 intro x m
 unfold zY at m
 simp only [List.mem_cons, List.not_mem_nil, or_false] at m
 rcases m with rfl | rfl | rfl | rfl | rfl | rfl | rfl | rfl | rfl <;> decide
set_option maxHeartbeats 32000000 in
set_option maxRecDepth 100000 in
theorem QY (t : ByteArray) (h0 : 0 < t.size) (ht : t.size <= 1000000000000000) (w : World) : Calls Tryz.prog 126 #[.string t] w fun e w' => e = .returned (.tuple #[.int .i32 ((decB t).1 : Int), .int .i64 ((decB t).2 : Int)]) /\ Below w.heap.size w w' := by
 have SD := scan_dec t h0
 obtain ⟨SC, hSC⟩ : ∃ SC, SC = qi t zY := ⟨_, rfl⟩
 have EN : Hid (∀ (a : Int) (b : Nat) (w' : World), SC = (a, b) -> Below w.heap.size w w' -> Ending.returned (.tuple #[.int .i32 a, .int .i64 (b : Int)]) = Ending.returned (.tuple #[.int .i32 ((decB t).1 : Int), .int .i64 ((decB t).2 : Int)]) /\ Below w.heap.size w w') := Xk (fun a b w' e hb => by
  rw [hSC, SD] at e
  injection e with e1 e2
  rw [e1, e2]
  exact ⟨rfl, hb⟩)
 have HSC := Xk hSC
 have RW := Xk (ref_Rows w)
 have FI := Xk (fun x hn W => ref_fits t ht x hn W)
 have IX := Xk (str_at t)
 have zs : ((t.size : Int) == 0) = false := by rw [beq_eq_false_iff_ne]; omega
 generalize (decB t).1 = r1 at *
 generalize (decB t).2 = r2 at *
 clear SD hSC
 go_enter Tryz.func126, Tryz.ntmps126
 go_wp2_with fail
 refine RW.out.mono ?_; rintro e w1 ⟨rfl, hw⟩
 have b1 : Below w.heap.size w w1 := by rw [hw]; exact (Below.refl _ w).alloc Xm _
 have S1 := SeesW.new w zY 182
 rw [<- hw] at S1
 have g1 : w.heap.size < w1.heap.size := by rw [hw]; simp
 have HB1 := Xk b1
 have HS1 := Xk S1
 have HG1 := Xk g1
 clear hw RW b1 S1 g1 zs
 go_wp2_with fail
 go_loopw [5] (fun s5 wr => ∃ i : Nat, i <= 9 /\ s5 = .int .i64 (i : Int) /\ Hid (qi t (zY.drop i) = SC) /\ Hid (SeesW wr w.heap.size zY) /\ Hid (w.heap.size < wr.heap.size) /\ Hid (Below w.heap.size w wr)) (fun s5 _ => 9 - (intOf s5).toNat)
 case atStart => exact ⟨0, Nat.zero_le _, rfl, Xk (by rw [List.drop_zero]; exact HSC.out.symm), HS1, HG1, HB1⟩
 case round =>
  obtain ⟨i, hi, rfl, hI, hS, hG, hb⟩ := hrel
  clear HS1 HG1 HB1
  by_cases lt : i < 9
  ·have il : i < zY.length := lt
   have ST := hI.out
   rw [QW il] at ST
   have ok := rows_ok _ (List.getElem_mem il)
   have on := rows_n _ (List.getElem_mem il)
   obtain ⟨y0, y1, y2, y3, y4, y5⟩ := hS.out i il
   have FC := Xk (FI.out zY[i] ok.1 wr)
   have fz := QX (t := t) (x := zY[i])
   generalize zY[i] = x at *
   have NXT := Xk (show qi t (zY.drop (i + 1)) = qi t (zY.drop (i + 1)) from rfl)
   obtain ⟨k, hk⟩ : ∃ k, k = zG t x := ⟨_, rfl⟩
   rw [<- hk] at ST FC fz
   have ST := Xk ST
   have FZ := Xk fz
   obtain ⟨xlo, xhi, xn, xlo2, xhi2, xoff⟩ := x
   dsimp only at y0 y1 y2 y3 y4 y5 ok on FC
   have kn : k <= xn := fz.2 on
   have ks : k <= t.size := fz.1
   have q0 : (0 : Int) <= (i : Int) := by omega
   have q5 : (i : Int) < 9 := by omega
   have tn : (i : Int).toNat = i := by omega
   have wk := Xl ((i : Int) + 1) (by omega)
   obtain ⟨ok1, ok2⟩ := ok
   clear hI hk fz
   go_wp2_with fail
   refine FC.out.mono ?_; rintro e w2 ⟨rfl, hb2⟩
   have S2 := Xk (hS.out.below hb2 hG.out)
   have G2 : Hid (w.heap.size < w2.heap.size) := Xk (Nat.lt_of_lt_of_le hG.out hb2.size)
   have B2 := Xk (hb.out.trans (hb2.mono hb.out.size))
   have z0 := (hb2.cell (p := ⟨w.heap.size, i * 6, none⟩) hG.out).trans y0
   have z2 := (hb2.cell (p := ⟨w.heap.size, i * 6 + 2, none⟩) hG.out).trans y2
   have z5 := (hb2.cell (p := ⟨w.heap.size, i * 6 + 5, none⟩) hG.out).trans y5
   clear FC hb2 y0 y1 y2 y3 y4 y5 hS hG hb
   by_cases k0 : k = 0
   ·have e0 : ((k : Int) == 0) = true := by rw [k0]; rfl
    have NX := Xk (show qi t (zY.drop (i + 1)) = SC by rw [<- ST.out, if_pos k0])
    clear k0
    go_wp2_with fail
    go_roundw
    case rel => exact ⟨i + 1, by omega, by go_num, NX, S2, G2, B2⟩
    case measure => simp [intOf]; omega
   ·have e0 : ((k : Int) == 0) = false := by rw [beq_eq_false_iff_ne]; omega
    by_cases c1 : k < xn
    ·have c1' : (k : Int) < (xn : Int) := by omega
     have FIN := Xk (EN.out 65533 k w2 (by rw [<- ST.out, if_neg k0, if_pos c1]) B2.out)
     go_wp2_with fail
     refine bodyPost_ret (v := .tuple #[.int .i32 65533, .int .i64 (k : Int)]) (by simp [results, Tryz.results126, go_sem]) rfl ?_
     exact FIN.out
    ·have c1' : ¬ (k : Int) < (xn : Int) := by omega
     have ix0 := IX.out 0 h0
     have ix0 : ∀ W, (Instr.index 9 (.string t) (.int .i64 0)).run Tryz.prog W = .ok (.int .u8 (byt t 0 : Int)) W := ix0
     have v256 := qN t 0
     have VV := ST.out
     rw [if_neg k0, if_neg c1] at VV
     generalize byt t 0 = b0 at *
     have VV := Xk VV
     have ws := Xl ((b0 : Int) - (xoff : Int)) (by omega)
     clear ST NXT
     go_wp2_with fail
     refine qB 9 (by kernel_rfl) (by kernel_rfl) ?_
     simp only [Xn, Xo, Xp, Xq]
     repeat (first | go_big_quiet_step (fail) | quiet_step (fail))
     refine wpQuiet_nil ?_
     intro _ hw'
     obtain ⟨nq, hw''⟩ := hw'
     subst hw''
     have B3 := Xk (qt nq w2 B2.out)
     generalize w2.drewN nq = V at *
     clear z0 z2 z5 ix0 S2 G2 B2
     go_wp2_with fail
     go_loopw [7, 8] (fun s7 s8 wr => ∃ (j : Nat) (r : Int), j <= k /\ 1 <= j /\ s7 = .int .i64 r /\ s8 = .int .i64 (j : Int) /\ ((j = 1 /\ -255 <= r /\ r <= 255) \/ (j = 2 /\ -16575 <= r /\ r <= 16575) \/ (j = 3 /\ -1061055 <= r /\ r <= 1061055) \/ (j = 4 /\ -67907775 <= r /\ r <= 67907775)) /\ Hid ((valF t (k - j) j r, k) = SC) /\ wr = V) (fun _ s8 _ => k - (intOf s8).toNat)
     case atStart => exact ⟨1, _, by omega, Xm, rfl, rfl, Or.inl ⟨rfl, by omega, by omega⟩, VV, rfl⟩
     case round =>
      obtain ⟨j, r, hj, hj1, rfl, rfl, hr, hV, hwr⟩ := hrel
      rw [hwr]
      clear hwr VV
      by_cases lj : j < k
      ·have jt : j < t.size := by omega
       have ix := IX.out j jt
       have vb := qN t j
       have ST := hV.out
       rw [show k - j = (k - (j + 1)) + 1 by omega, valF] at ST
       generalize byt t j = v at *
       have ST := Xk ST
       have p0 : (0 : Int) <= (j : Int) := by omega
       have p5 : (j : Int) < (k : Int) := by omega
       have p6 : (j : Int) < (t.size : Int) := by omega
       have pn : (j : Int).toNat = j := by omega
       have pk := Xl ((j : Int) + 1) (by omega)
       have w1 := Xl (r * 64) (by omega)
       have w3 := Xl (r * 64 + (v : Int)) (by omega)
       have w4 := Xl (r * 64 + (v : Int) - 128) (by omega)
       have NR : ((j + 1 = 1 /\ -255 <= r * 64 + (v : Int) - 128 /\ r * 64 + (v : Int) - 128 <= 255) \/ (j + 1 = 2 /\ -16575 <= r * 64 + (v : Int) - 128 /\ r * 64 + (v : Int) - 128 <= 16575) \/ (j + 1 = 3 /\ -1061055 <= r * 64 + (v : Int) - 128 /\ r * 64 + (v : Int) - 128 <= 1061055) \/ (j + 1 = 4 /\ -67907775 <= r * 64 + (v : Int) - 128 /\ r * 64 + (v : Int) - 128 <= 67907775)) := by omega
       have NR := Xk NR
       clear hV hr
       go_wp2_with fail
       go_roundw
       case rel => exact ⟨j + 1, r * 64 + (v : Int) - 128, by omega, by omega, by go_num, by go_num, NR.out, ST, by first | rfl | trivial⟩
       case measure => simp [intOf]; omega
      ·have e : j = k := by omega
       subst e
       have p5 : ¬ (j : Int) < (j : Int) := by omega
       have wr32 : IntKind.i32.wrap r = r := by rw [IntKind.wrap_i32]; omega
       have FIN := Xk (EN.out r j V (by rw [<- hV.out, Nat.sub_self]; rfl) B3.out)
       clear hV hr
       go_wp2_with fail
       refine bodyPost_ret (v := .tuple #[.int .i32 r, .int .i64 (j : Int)]) (by simp [results, Tryz.results126, go_sem]) rfl ?_
       exact FIN.out
  ·have e : i = 9 := by omega
   subst e
   have q5 : ¬ ((9 : Nat) : Int) < 9 := by omega
   have FIN := Xk (EN.out 65533 1 wr (by rw [<- hI.out]; rfl) hb.out)
   go_wp2_with fail
   refine bodyPost_ret (v := .tuple #[.int .i32 65533, .int .i64 1]) (by simp [results, Tryz.results126, go_sem]) rfl ?_
   exact FIN.out
end
end
section
open Go Go.RowKit Go.Sort
section
def szV : Value -> Nat
 | .string x => x.size
 | _ => 0
set_option maxHeartbeats 8000000 in
set_option maxRecDepth 100000 in
theorem QZ (s : ByteArray) (hs : s.size <= 35184372000000) (w : World) : Calls Tryz.prog 107 #[.string s] w fun e w' => ∃ v, e = .returned v /\ w'.ownsRow w.heap.size 21 1 v (zr s).length (rns (zr s)) /\ Below w.heap.size w w' := by
 obtain ⟨i0, hi0, hz0, hz1, hz2⟩ := info_parts infoR
 obtain ⟨LO, hLO⟩ : ∃ LO, LO = w.heap.size := ⟨_, rfl⟩
 have HLO := Xk hLO
 have STEP : Hid (∀ (wr : World) (v : Value) (ws L : List Int), wr.ownsRow LO 21 1 v ws.length (rns ws) -> Below LO w wr -> ∀ (v' : Value) (w3 : World), w3.ownsRow LO 21 1 v' (ws.length + L.length) (rns ws ++ rns L) -> (wr.alloc (.cells (rns L).toArray 21)).grownBy w3 v.ownBlock -> w3.ownsRow LO 21 1 v' (ws ++ L).length (rns (ws ++ L)) /\ Below LO w w3) := Xk (fun wr v ws L ho hb v' w3 h1 h2 =>
  ⟨by rw [List.length_append, vD]; exact h1, (hb.alloc (by rw [hLO]; exact hb.size) _).grown h2 (by have := hb.size; simp; omega) (fun g hg => (ho.lt g hg).1)⟩)
 have O0 : Hid (w.ownsRow LO 21 1 (.slice none 0 0) 0 (rns []) /\ Below LO w w) := Xk ⟨World.ownsRow_nil _ _ _ _, Below.refl _ _⟩
 rw [<- hLO]
 clear hLO
 go_enter Tryz.func107, Tryz.ntmps107
 go_wp2_with fail
 go_loopw [0, 3] (fun s0 s3 wr => ∃ (x : ByteArray) (acc : List Int), s0 = .string x /\ Hid (acc ++ zr x = zr s) /\ Hid (acc.length + x.size <= s.size) /\ Hid (wr.ownsRow LO 21 1 s3 acc.length (rns acc) /\ Below LO w wr)) (fun s0 _ _ => szV s0)
 case atStart => exact ⟨s, [], rfl, Xk rfl, Xk (by simp), O0⟩
 case round =>
  obtain ⟨x, acc, rfl, hx, hl, ho⟩ := hrel
  by_cases lt : 0 < x.size
  ·have lt' : (0 : Int) < (x.size : Int) := by omega
   have bb := jG x lt
   have xs : x.size <= 35184372000000 := by have := hl.out; omega
   have DD := Xk (QY x lt (by omega))
   have NX : acc ++ [((decB x).1 : Int)] ++ zr (x.extract (decB x).2 x.size) = zr s := by rw [<- hx.out, xw x lt, List.append_assoc, List.singleton_append]
   have zz : (x.extract (decB x).2 x.size).size = x.size - (decB x).2 := by rw [ByteArray.size_extract]; omega
   have slr : ∀ W, (Instr.slice 9 (.string x) (some (.int .i64 ((decB x).2 : Int))) none none).run Tryz.prog W = .ok (.string (x.extract (decB x).2 x.size)) W := fun W => by
    rw [run_slice_string_from_if _ _ _ _ _ Tryz.underlying9, if_pos (by omega)]
    rfl
   have NX := Xk NX
   have HL := Xk (show acc.length + 1 + (x.extract (decB x).2 x.size).size <= s.size by rw [zz]; have := hl.out; omega)
   have ZZ := Xk (show (x.extract (decB x).2 x.size).size < x.size by rw [zz]; omega)
   have LL : acc.length + 1 <= 35184372000000 := by have := hl.out; omega
   generalize x.extract (decB x).2 x.size = y at *
   generalize (decB x).2 = d at *
   generalize (decB x).1 = r at *
   clear hx zz hl
   go_wp2_with fail
   refine (DD.out _).mono ?_; rintro e w1 ⟨rfl, hb1⟩
   have HO := Xk ((zF ho.out.1 hb1).alloc (.cells (rns [(r : Int)]).toArray 21))
   have HO1 := Xk (zF ho.out.1 hb1)
   have HB := Xk (ho.out.2.trans (hb1.mono (by rw [HLO.out]; exact ho.out.2.size)))
   have H2 : acc.length + 1 <= maxLen := by unfold maxLen; omega
   have H3 : (acc.length + 1) * 4 <= 140737488355328 := by omega
   have H4 : LO <= (w1.alloc (.cells (rns [(r : Int)]).toArray 21)).heap.size := by have := HB.out.size; rw [HLO.out]; simp; omega
   have NW := Xk (qj w1 (rns [(r : Int)]) 21)
   have O1 := Xk (vE [(r : Int)])
   have ST := Xk (fun v' w3 a b => STEP.out w1 _ acc [(r : Int)] HO1.out HB.out v' w3 a b)
   clear ho hb1
   go_wp2_with (at_builtin; refine wpList_append_own _ rfl (.tmp 14) (.tmp 16) 143 rfl LO 21 i0 (.int .i32 0) 1 4 Tryz.underlying143 hi0 hz0 hz1 hz2 rfl (by decide) _ _ _ rfl HO.out ⟨w1.heap.size, 0, none⟩ 1 1 (rns [(r : Int)]) rfl rfl NW.out O1.out H2 H3 H4 ?_; intro v' w3 hown3 hg3 _)
   have SS := Xk (ST.out v' w3 hown3 hg3)
   clear hown3 hg3
   go_wp2_with fail
   go_roundw
   case rel => exact ⟨y, _, rfl, NX, Xk (by rw [List.length_append]; exact HL.out), SS⟩
   case measure => exact ZZ.out
  ·have lt' : ¬ (0 : Int) < (x.size : Int) := by omega
   have FE : acc = zr s := by
    have h := hx.out
    rw [xv x (by omega), List.append_nil] at h
    exact h
   have OO := ho.out
   rw [FE] at OO
   have OO := Xk OO
   clear hx ho FE
   go_wp2_with fail
   go_ret
   exact ⟨_, rfl, OO.out.1, OO.out.2⟩
set_option maxHeartbeats 8000000 in
set_option maxRecDepth 100000 in
theorem Q4 (r : Int) (w : World) : Calls Tryz.prog 150 #[.int .i32 r] w fun e w' => e = .returned (.bool (decide (0 <= r /\ r <= 1114111 /\ (r < 55296 \/ 57343 < r)))) /\ w' = w := by
 generalize hD : decide (0 <= r /\ r <= 1114111 /\ (r < 55296 \/ 57343 < r)) = D
 have HD := Xk hD
 clear hD
 by_cases c1 : 0 <= r
 ·by_cases c2 : r <= 1114111
  ·by_cases c3 : r < 55296
   ·have R := Xk (show D = true by rw [<- HD.out]; exact decide_eq_true ⟨c1, c2, Or.inl c3⟩)
    go_enter Tryz.func150, Tryz.ntmps150
    go_wp2_with fail
    go_ret
    exact ⟨by rw [R.out]; rfl, rfl⟩
   ·by_cases c4 : 57343 < r
    ·have R := Xk (show D = true by rw [<- HD.out]; exact decide_eq_true ⟨c1, c2, Or.inr c4⟩)
     go_enter Tryz.func150, Tryz.ntmps150
     go_wp2_with fail
     go_ret
     exact ⟨by rw [R.out]; rfl, rfl⟩
    ·have R := Xk (show D = false by rw [<- HD.out]; exact decide_eq_false (by omega))
     go_enter Tryz.func150, Tryz.ntmps150
     go_wp2_with fail
     go_ret
     exact ⟨by rw [R.out]; rfl, rfl⟩
  ·have R := Xk (show D = false by rw [<- HD.out]; exact decide_eq_false (by omega))
   go_enter Tryz.func150, Tryz.ntmps150
   go_wp2_with fail
   go_ret
   exact ⟨by rw [R.out]; rfl, rfl⟩
 ·have R := Xk (show D = false by rw [<- HD.out]; exact decide_eq_false (by omega))
  go_enter Tryz.func150, Tryz.ntmps150
  go_wp2_with fail
  go_ret
  exact ⟨by rw [R.out]; rfl, rfl⟩
end
end
section
open Go Go.RowKit Go.Sort
section
theorem new8 (W : World) (L : List Int) (h : L.length <= 1000) : (W.alloc (.cells (bts L).toArray 5)).ownsRow W.heap.size 5 1 (.slice (some ⟨W.heap.size, 0, none⟩) L.length L.length) L.length (bts L) :=
 ⟨by simp [bts], Or.inr ⟨W.heap.size, L.length, (bts L).toArray, rfl, Xm, Array.getElem?_push_size, Xm, by unfold maxLen; omega, by simp [bts], by rw [Nat.mul_one, List.take_of_length_le (by simp [bts])]⟩⟩
theorem conv8 (W : World) (L : List Int) (h : L.length <= 1000) : (convert 66 9 (.slice (some ⟨W.heap.size, 0, none⟩) L.length L.length)).run Tryz.prog (W.alloc (.cells (bts L).toArray 5)) = .ok (.string (barr L)) (W.alloc (.cells (bts L).toArray 5)) := xB (new8 W L h)
set_option maxHeartbeats 8000000 in
set_option maxRecDepth 100000 in
theorem Q5 (r : Int) (hr : -2147483648 <= r /\ r <= 2147483647) (w : World) : Calls Tryz.prog 142 #[.int .i32 r] w fun e w' => e = .returned (.string (barr (zR r))) /\ Below w.heap.size w w' := by
 have CH := Xk (Q4 r w)
 have hc := x6 r
 have CI : Hid (zm r = if 0 <= r /\ r <= 1114111 /\ (r < 55296 \/ 57343 < r) then r else 65533) := Xk rfl
 have BI : Hid (zR r = if zm r < 128 then [zm r] else if zm r < 2048 then [192 + zm r / 64, 128 + zm r % 64] else if zm r < 65536 then [224 + zm r / 4096, 128 + zm r / 64 % 64, 128 + zm r % 64] else [240 + zm r / 262144, 128 + zm r / 4096 % 64, 128 + zm r / 64 % 64, 128 + zm r % 64]) := Xk rfl
 have CV := Xk (conv8 w)
 generalize zm r = c at *
 generalize zR r = B at *
 obtain ⟨D, hD⟩ : ∃ D, D = decide (0 <= r /\ r <= 1114111 /\ (r < 55296 \/ 57343 < r)) := ⟨_, rfl⟩
 rw [<- hD] at CH
 have HD := Xk hD
 clear hD
 go_enter Tryz.func142, Tryz.ntmps142
 go_wp2_with fail
 refine CH.out.mono ?_; rintro e w1 ⟨rfl, hw⟩
 rw [hw]
 clear hw CH
 go_upto_if 6 with fail
 go_cut [0] from 6 to 6 (fun s0 wx => s0 = .int .i32 c /\ wx = w)
 case first =>
  cases D with
  | true =>
   have E := Xk (show r = c by rw [CI.out, if_pos (of_decide_eq_true HD.out.symm)])
   go_wp2_with fail
   go_meet
   exact ⟨by rw [E.out], rfl⟩
  | false =>
   have E := Xk (show 65533 = c by rw [CI.out, if_neg (of_decide_eq_false HD.out.symm)])
   go_wp2_with fail
   go_meet
   exact ⟨by rw [<- E.out], rfl⟩
 case rest =>
  obtain ⟨rfl, hwc⟩ := hcut
  rw [hwc]
  clear hwc
  by_cases c1 : c < 128
  ·have R := Xk (show B = [c] by rw [BI.out, if_pos c1])
   have cv := CV.out [c] (by simp)
   have w1 : IntKind.u8.wrap c = c := by rw [IntKind.wrap_u8]; omega
   change (convert 66 9 (.slice (some ⟨w.heap.size, 0, none⟩) 1 1)).run Tryz.prog (w.alloc (.cells #[.int .u8 c] 5)) = .ok (.string (barr [c])) (w.alloc (.cells #[.int .u8 c] 5)) at cv
   go_wp2_with fail
   go_ret
   exact ⟨by rw [R.out]; rfl, (Below.refl _ w).alloc Xm _⟩
  by_cases c2 : c < 2048
  ·have R := Xk (show B = [192 + c / 64, 128 + c % 64] by rw [BI.out, if_neg c1, if_pos c2])
   have cv := CV.out [192 + c / 64, 128 + c % 64] (by simp)
   change (convert 66 9 (.slice (some ⟨w.heap.size, 0, none⟩) 2 2)).run Tryz.prog (w.alloc (.cells #[.int .u8 (192 + c / 64), .int .u8 (128 + c % 64)] 5)) = .ok (.string (barr [192 + c / 64, 128 + c % 64])) (w.alloc (.cells #[.int .u8 (192 + c / 64), .int .u8 (128 + c % 64)] 5)) at cv
   have w1 : IntKind.u8.wrap (192 + c / 64) = 192 + c / 64 := by rw [IntKind.wrap_u8]; omega
   have w2 : IntKind.u8.wrap (128 + c % 64) = 128 + c % 64 := by rw [IntKind.wrap_u8]; omega
   go_wp2_with fail
   go_ret
   exact ⟨by rw [R.out]; rfl, (Below.refl _ w).alloc Xm _⟩
  by_cases c3 : c < 65536
  ·have R := Xk (show B = [224 + c / 4096, 128 + c / 64 % 64, 128 + c % 64] by rw [BI.out, if_neg c1, if_neg c2, if_pos c3])
   have cv := CV.out [224 + c / 4096, 128 + c / 64 % 64, 128 + c % 64] (by simp)
   change (convert 66 9 (.slice (some ⟨w.heap.size, 0, none⟩) 3 3)).run Tryz.prog (w.alloc (.cells #[.int .u8 (224 + c / 4096), .int .u8 (128 + c / 64 % 64), .int .u8 (128 + c % 64)] 5)) = .ok (.string (barr [224 + c / 4096, 128 + c / 64 % 64, 128 + c % 64])) (w.alloc (.cells #[.int .u8 (224 + c / 4096), .int .u8 (128 + c / 64 % 64), .int .u8 (128 + c % 64)] 5)) at cv
   have w1 : IntKind.u8.wrap (224 + c / 4096) = 224 + c / 4096 := by rw [IntKind.wrap_u8]; omega
   have w2 : IntKind.u8.wrap (128 + c / 64 % 64) = 128 + c / 64 % 64 := by rw [IntKind.wrap_u8]; omega
   have w3 : IntKind.u8.wrap (128 + c % 64) = 128 + c % 64 := by rw [IntKind.wrap_u8]; omega
   have q1 : 0 <= c / 64 := by omega
   go_wp2_with fail
   go_ret
   exact ⟨by rw [R.out]; rfl, (Below.refl _ w).alloc Xm _⟩
  ·have R := Xk (show B = [240 + c / 262144, 128 + c / 4096 % 64, 128 + c / 64 % 64, 128 + c % 64] by rw [BI.out, if_neg c1, if_neg c2, if_neg c3])
   have cv := CV.out [240 + c / 262144, 128 + c / 4096 % 64, 128 + c / 64 % 64, 128 + c % 64] (by simp)
   change (convert 66 9 (.slice (some ⟨w.heap.size, 0, none⟩) 4 4)).run Tryz.prog (w.alloc (.cells #[.int .u8 (240 + c / 262144), .int .u8 (128 + c / 4096 % 64), .int .u8 (128 + c / 64 % 64), .int .u8 (128 + c % 64)] 5)) = .ok (.string (barr [240 + c / 262144, 128 + c / 4096 % 64, 128 + c / 64 % 64, 128 + c % 64])) (w.alloc (.cells #[.int .u8 (240 + c / 262144), .int .u8 (128 + c / 4096 % 64), .int .u8 (128 + c / 64 % 64), .int .u8 (128 + c % 64)] 5)) at cv
   have w1 : IntKind.u8.wrap (240 + c / 262144) = 240 + c / 262144 := by rw [IntKind.wrap_u8]; omega
   have w2 : IntKind.u8.wrap (128 + c / 64 % 64) = 128 + c / 64 % 64 := by rw [IntKind.wrap_u8]; omega
   have w3 : IntKind.u8.wrap (128 + c % 64) = 128 + c % 64 := by rw [IntKind.wrap_u8]; omega
   have w4 : IntKind.u8.wrap (128 + c / 4096 % 64) = 128 + c / 4096 % 64 := by rw [IntKind.wrap_u8]; omega
   have q1 : 0 <= c / 64 := by omega
   have q2 : 0 <= c / 4096 := by omega
   go_wp2_with fail
   go_ret
   exact ⟨by rw [R.out]; rfl, (Below.refl _ w).alloc Xm _⟩
theorem Q6 (l : List Int) (h : ∀ b ∈ l, 0 <= b /\ b < 256) : Lib.strCells (barr l) = bts l := by
 unfold Lib.strCells barr bts
 simp only [List.map_map]
 refine List.map_congr_left (fun n m => ?_)
 have := h n m
 show Value.int .u8 ((UInt8.ofNat n.toNat).toNat : Int) = Value.int .u8 n
 rw [UInt8.toNat_ofNat']
 congr 1
 omega
theorem vK (l : List Int) : (barr l).size = l.length := by
 show (l.map _).toArray.size = _
 simp
set_option maxHeartbeats 8000000 in
set_option maxRecDepth 100000 in
theorem Q7 (A : Option Addr) (c : Nat) (l : List Int) (hl : l.length <= 35184372000000) (hr : ∀ r ∈ l, 0 <= r /\ r < 2097152) (w : World) (S : Sees w w.heap.size A (rns l)) :
  Calls Tryz.prog 128 #[.slice A l.length c] w fun e w' => e = .returned (.string (barr (zi l))) /\ Below w.heap.size w w' := by
 have F1 := Xk (fun (k : Nat) (hk : k < l.length) => qI S k hk)
 have HR := Xk hr
 clear S hr
 obtain ⟨n, hn⟩ : ∃ n, n = l.length := ⟨_, rfl⟩
 have HN := Xk hn
 rw [<- hn] at hl F1 ⊢
 clear hn
 obtain ⟨i0, hi0, hz0, hz1, hz2⟩ := info_parts infoB
 have XT : Hid (∀ k (hk : k < l.length), zi (l.take (k + 1)) = zi (l.take k) ++ zR (l.getD k 0)) := Xk (fun k hk => by
  have e : l.getD k 0 = l[k] := by simp [hk]
  rw [e, List.take_succ_eq_append_getElem hk, vj])
 have XE : Hid (zi (l.take n) = zi l) := Xk (by rw [HN.out, List.take_length])
 have XL : Hid (∀ k, k <= n -> (zi (l.take k)).length <= 4 * k) := Xk (fun k hk => Nat.le_trans (x7 _) (by rw [List.length_take]; omega))
 obtain ⟨LO, hLO⟩ : ∃ LO, LO = w.heap.size := ⟨_, rfl⟩
 have HLO := Xk hLO
 have O0 : Hid (w.ownsRow LO 5 1 (.slice none 0 0) (zi (l.take 0)).length (bts (zi (l.take 0))) /\ Below LO w w) := Xk ⟨World.ownsRow_nil _ _ _ _, Below.refl _ _⟩
 rw [<- hLO] at F1 ⊢
 clear hLO
 go_enter Tryz.func128, Tryz.ntmps128
 go_wp2_with fail
 go_loopw [3, 4] (fun s3 s4 wr => ∃ (k : Nat), k <= n /\ s4 = .int .i64 k /\ Hid (wr.ownsRow LO 5 1 s3 (zi (l.take k)).length (bts (zi (l.take k))) /\ Below LO w wr)) (fun _ s4 _ => n - (intOf s4).toNat)
 case atStart => exact ⟨0, by omega, rfl, O0⟩
 case round =>
  obtain ⟨k, hk, rfl, ho⟩ := hrel
  by_cases lt : k < n
  ·have lt' : k < l.length := by rw [<- HN.out]; exact lt
   obtain ⟨ad, rfl, hab, c0⟩ := F1.out k lt
   have cx := (ho.out.2.cell (p := ad.add k) (by rw [zg]; exact hab)).trans c0
   have bd := HR.out (l.getD k 0) (vG l k lt')
   have BC := Xk (Q5 (l.getD k 0) (by omega) wr)
   have ST := Xk (fun (w1 : World) (hb1 : Below wr.heap.size wr w1) (v' : Value) (w3 : World) (h1 : w3.ownsRow LO 5 1 v' ((zi (l.take k)).length + (barr (zR (l.getD k 0))).size) (bts (zi (l.take k)) ++ Lib.strCells (barr (zR (l.getD k 0))))) (v : Value) (hv : wr.ownsRow LO 5 1 v (zi (l.take k)).length (bts (zi (l.take k)))) (h2 : w1.grownBy w3 v.ownBlock) => show w3.ownsRow LO 5 1 v' (zi (l.take (k + 1))).length (bts (zi (l.take (k + 1)))) /\ Below LO w w3 from by
    rw [XT.out k lt', List.length_append, vF]
    rw [vK, Q6 _ (Qw _)] at h1
    have B1 := ho.out.2.trans (hb1.mono (by rw [HLO.out]; exact ho.out.2.size))
    exact ⟨h1, B1.grown h2 (by rw [HLO.out]; exact B1.size) (fun g hg => ((zF hv hb1).lt g hg).1)⟩)
   have bl := vi (l.getD k 0)
   rw [<- vK] at bl
   have tl := XL.out k hk
   generalize barr (zR (l.getD k 0)) = y at *
   generalize l.getD k 0 = r at *
   clear c0 bd
   go_wp2_with fail
   refine BC.out.mono ?_; rintro e w1 ⟨rfl, hb1⟩
   have HO := Xk (zF ho.out.1 hb1)
   have HV := Xk ho.out.1
   have H1 : (zi (l.take k)).length + y.size <= maxLen := by unfold maxLen; omega
   have H3 : (zi (l.take k)).length + y.size <= 140737488355328 := by omega
   have H4 : LO <= w1.heap.size := by rw [HLO.out]; exact Nat.le_trans ho.out.2.size hb1.size
   have HB1 := Xk hb1
   clear hb1 bl tl
   go_wp2_with (at_builtin; refine Lib.wpList_append_own_string _ rfl (.tmp 11) (.tmp 16) 66 9 rfl LO 5 i0 Tryz.underlying66 Tryz.underlying9 hi0 hz0 hz1 hz2 _ _ _ rfl HO.out y rfl H1 H3 H4 ?_; intro v' w3 hown3 hg3 _)
   have SS := Xk (ST.out w1 HB1.out v' w3 hown3 _ HV.out hg3)
   clear hown3 hg3
   go_wp2_with fail
   go_roundw
   case rel => exact ⟨k + 1, by omega, by go_num, SS⟩
   case measure => (simp [intOf] <;> omega)
  ·have ek : k = n := by omega
   subst ek
   rw [XE.out] at ho
   have hcv := xB ho.out.1
   have BB := Xk ho.out.2
   clear ho
   go_wp2_with fail
   go_ret
   exact ⟨rfl, BB.out⟩
end
end
end Go.Proofs.YtifoijbpbigaaaaGreatDoor
