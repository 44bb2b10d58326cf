/- What lies below tapes (kept of earlier texts: DfAb, StyC, StyO, Rows2, StyS, StyM, DfO, DfM). -/
import Derived.Test.YtmaofighbpnbiaaGreatDoorTaCC
import Derived.WalkMore
import Derived.RangeFuncNested
import Derived.RangeFuncBound
import Derived.RangeFuncCalls
import Derived.RangeFuncLeaves
import Derived.Shelf.Abstract
import Derived.Shelf.RegionOpen
import Derived.WalkKit
import Derived.OwnWalkIn
import Derived.TacticsInMore
import Derived.LoopNIn
import Derived.LoopIn
import Derived.StillTailTactics
import Derived.Deep.Slices
import Derived.Laws.AppendOwnNone
import Derived.Maps.AppendAt
import Derived.Deep.DeepCutAuto
/- How many numbers are the first cluster, and its width: the program's walk. -/
namespace Go.Proofs.YtmaofighbpnbiaaGreatDoor
open Go.RowKit Go.Sort
set_option linter.unusedVariables false
theorem wideP_at (l : List Int) (k : Int) (hk : k = kindI (l.getD 0 0)) (h1 : k ≠ 1) :
  wideP l = if k = 8 ∧ 1 < l.length ∧ l.getD 1 0 = 65039 then 2 else if k = 6 ∧ 1 < l.length ∧ kindI (l.getD 1 0) = 6 then 2 else ofK k := by
 unfold wideP ofK
 rw [← hk, if_neg h1]
 by_cases c8 : k = 8 ∧ 1 < l.length ∧ l.getD 1 0 = 65039
 ·rw [if_pos c8, if_pos c8]
 ·rw [if_neg c8, if_neg c8]
  by_cases c6 : k = 6 ∧ 1 < l.length ∧ kindI (l.getD 1 0) = 6
  ·rw [if_pos c6, if_pos c6]
  ·rw [if_neg c6, if_neg c6]
   by_cases c2 : k = 2 ∨ k = 4 ∨ k = 3
   ·rw [if_pos c2, if_pos (show k = 1 ∨ k = 2 ∨ k = 3 ∨ k = 4 by omega)]
   ·rw [if_neg c2, if_neg (show ¬ (k = 1 ∨ k = 2 ∨ k = 3 ∨ k = 4) by omega)]
theorem add_ltt (a : Addr) (n : Nat) (h : n ≠ 0) : (⟨a.block, a.off + n, none⟩ : Addr) = a.add n := by unfold Addr.add; rw [if_neg h]
theorem growK_eq (l : List Int) (base : Int) (f n : Nat) : growK l base (f + 1) n = if n < l.length ∧ takesK base (l.getD (n - 1) 0) (l.getD n 0) = true then growK l base f (n + 1) else n := by
 conv => lhs; unfold growK
set_option maxHeartbeats 16000000 in
set_option maxRecDepth 100000 in
theorem d_length (A : Option Addr) (c : Nat) (l : List Int) (hne : l ≠ []) (hl : l.length ≤ 35184372000000) (w : World) (S : Sees w w.heap.size A (rns l)) :
  Calls Tryz.prog 144 #[.slice A l.length c] w fun e w' => e = .returned (.tuple #[.int .i64 (firstC l : Int), .int .i64 (wideP l)]) ∧ Below w.heap.size w w' := by
 have hp : 0 < l.length := List.length_pos_iff.2 hne
 obtain ⟨ad, rfl, hab, c0⟩ := rns_at S 0 hp
 have CC : Hid (∀ k, k < l.length → ∀ W, Below w.heap.size w W → W.cell? (ad.add k) = some (.int .i32 (l.getD k 0))) := Lib.hid (fun k hk W hb => by
  obtain ⟨ad', e, b', c'⟩ := rns_at S k hk
  cases e
  exact (hb.cell (p := ad.add k) (by rw [add_blk]; exact hab)).trans c')
 have K0 := Lib.hid (d_Kind (l.getD 0 0))
 have O0 := Lib.hid (d_Of (l.getD 0 0))
 have KK := Lib.hid (fun r => d_Kind r)
 have kr := kindI_rng (l.getD 0 0)
 have FC : Hid (firstC l = if kindI (l.getD 0 0) = 1 then 1 else growK l (kindI (l.getD 0 0)) (16 - beginK l) (beginK l)) := Lib.hid rfl
 have WA := Lib.hid (wideP_at l (kindI (l.getD 0 0)) rfl)
 have W1 : Hid (kindI (l.getD 0 0) = 1 → wideP l = 0) := Lib.hid (fun h => by unfold wideP; rw [if_pos h])
 have BK : Hid (beginK l = if kindI (l.getD 0 0) = 6 ∧ 1 < l.length ∧ kindI (l.getD 1 0) = 6 then 2 else 1) := Lib.hid rfl
 have GG : Hid (∀ f n, growK l (kindI (l.getD 0 0)) (f + 1) n = if n < l.length ∧ takesK (kindI (l.getD 0 0)) (l.getD (n - 1) 0) (l.getD n 0) = true then growK l (kindI (l.getD 0 0)) f (n + 1) else n) := Lib.hid (growK_eq l _)
 generalize firstC l = F at *
 generalize wideP l = V at *
 generalize beginK l = B0 at *
 clear hne S
 have c00 := CC.out 0 hp
 generalize l.getD 0 0 = r0 at *
 generalize kindI r0 = k0 at *
 obtain ⟨n, hn⟩ : ∃ n, n = l.length := ⟨_, rfl⟩
 rw [← hn] at hp hl CC WA BK GG ⊢
 have HN := Lib.hid hn
 have C00 := Lib.hid c00
 clear hn c00
 have cx := C00.out w (Below.refl _ _)
 have ad0 : ad.add 0 = ad := by unfold Addr.add; rw [if_pos rfl]
 rw [ad0] at C00 cx
 go_enter Tryz.func144, Tryz.ntmps144
 go_wp2_with fail
 go_step3
 go_wp2_with fail
 refine (K0.out _).mono ?_; rintro e w1 ⟨rfl, hb1⟩
 have HB1 := Lib.hid hb1
 clear hb1 cx
 by_cases k1 : k0 = 1
 ·subst k1
  have R : Hid (F = 1) := Lib.hid (by rw [FC.out, if_pos rfl])
  have R2 : Hid (V = 0) := Lib.hid (W1.out rfl)
  go_wp2_with fail
  rw [Exit.noGoto_ret]
  exact bodyPost_ret (v := .tuple #[.int .i64 1, .int .i64 0]) (by simp [results, Tryz.results144, go_sem]) rfl ⟨by rw [R.out, R2.out]; rfl, HB1.out⟩
 ·have WA := Lib.hid (WA.out k1)
  have FC : Hid (F = growK l k0 (16 - B0) B0) := Lib.hid (by rw [FC.out, if_neg k1])
  have cx := C00.out w1 HB1.out
  go_wp2_with fail
  refine (O0.out _).mono ?_; rintro e w2 ⟨rfl, hb2⟩
  have HB2 := Lib.hid (below_call HB1.out HB1.out.size hb2)
  clear hb2 cx
  go_upto_region 5 with fail
  obtain ⟨β, hβ⟩ : ∃ β : Bool, β = decide (k0 = 6 ∧ 1 < n ∧ kindI (l.getD 1 0) = 6) := ⟨_, rfl⟩
  have HB := Lib.hid hβ
  clear hβ
  go_cut [30] from 17 to 30 (fun s30 wx => s30 = .bool β ∧ Hid (Below w.heap.size w wx))
  case first =>
   by_cases k6 : k0 = 6
   ·subst k6
    by_cases lt : 1 < n
    ·have c1 := CC.out 1 lt w2 HB2.out
     rw [← add_ltt ad 1 (by decide)] at c1
     have E : Hid (β = (kindI (l.getD 1 0) == 6)) := Lib.hid (by
      rw [HB.out]
      by_cases z : kindI (l.getD 1 0) = 6
      ·rw [z, decide_eq_true ⟨rfl, lt, rfl⟩]; rfl
      ·rw [decide_eq_false (fun h => z h.2.2)]
       exact (beq_eq_false_iff_ne.2 z).symm)
     generalize l.getD 1 0 = r1 at *
     go_wp2_with fail
     refine (KK.out r1 _).mono ?_; rintro e w3 ⟨rfl, hb3⟩
     have HB3 := Lib.hid (below_call HB2.out HB2.out.size hb3)
     clear hb3
     go_wp2_with fail
     go_meet
     exact ⟨by rw [E.out], HB3⟩
    ·have E : Hid (β = false) := Lib.hid (by rw [HB.out]; exact decide_eq_false (fun h => lt h.2.1))
     go_wp2_with fail
     go_meet
     exact ⟨by rw [E.out], HB2⟩
   ·have E : Hid (β = false) := Lib.hid (by rw [HB.out]; exact decide_eq_false (fun h => k6 h.1))
    have q : (k0 == 6) = false := beq_eq_false_iff_ne.2 k6
    go_wp2_with fail
    go_meet
    exact ⟨by rw [E.out], HB2⟩
  case rest =>
   obtain ⟨rfl, hb3⟩ := hcut
   obtain ⟨W3, hW3⟩ : ∃ w0, w0 = wc := ⟨_, rfl⟩
   subst hW3
   have HB3 := hb3
   clear HB2 hb3
   go_upto_if 30 with fail
   go_cut [5, 6] from 30 to 30 (fun s5 s6 wx => s5 = .int .i64 (B0 : Int) ∧ s6 = .int .i64 (if k0 = 6 ∧ 1 < n ∧ kindI (l.getD 1 0) = 6 then 2 else ofK k0) ∧ wx = W3)
   case first =>
    cases hb : β with
    | true =>
     have z : k0 = 6 ∧ 1 < n ∧ kindI (l.getD 1 0) = 6 := of_decide_eq_true (by rw [← HB.out]; exact hb)
     have E : Hid (B0 = 2) := Lib.hid (by rw [BK.out, if_pos z])
     have E2 : Hid ((if k0 = 6 ∧ 1 < n ∧ kindI (l.getD 1 0) = 6 then 2 else ofK k0) = 2) := Lib.hid (if_pos z)
     clear z hb HB
     go_wp2_with fail
     go_meet
     exact ⟨by rw [E.out]; rfl, by rw [E2.out], rfl⟩
    | false =>
     have z : ¬ (k0 = 6 ∧ 1 < n ∧ kindI (l.getD 1 0) = 6) := of_decide_eq_false (by rw [← HB.out]; exact hb)
     have E : Hid (B0 = 1) := Lib.hid (by rw [BK.out, if_neg z])
     have E2 : Hid ((if k0 = 6 ∧ 1 < n ∧ kindI (l.getD 1 0) = 6 then 2 else ofK k0) = ofK k0) := Lib.hid (if_neg z)
     clear z hb HB
     go_wp2_with fail
     go_meet
     exact ⟨by rw [E.out]; rfl, by rw [E2.out], rfl⟩
   case rest =>
    obtain ⟨rfl, rfl, rfl⟩ := hcut
    obtain ⟨W4, hW4⟩ : ∃ w0, w0 = wc := ⟨_, rfl⟩
    subst hW4
    obtain ⟨v6, hv6⟩ : ∃ v6 : Int, v6 = if k0 = 6 ∧ 1 < n ∧ kindI (l.getD 1 0) = 6 then 2 else ofK k0 := ⟨_, rfl⟩
    have VW : Hid (V = if k0 = 8 ∧ 1 < n ∧ l.getD 1 0 = 65039 then 2 else v6) := Lib.hid (by rw [WA.out, hv6])
    rw [← hv6]
    clear hv6 WA HB β
    obtain ⟨γ, hγ⟩ : ∃ γ : Bool, γ = decide (k0 = 8 ∧ 1 < n ∧ l.getD 1 0 = 65039) := ⟨_, rfl⟩
    have HG := Lib.hid hγ
    clear hγ
    go_upto_region 7 with fail
    go_cut [43] from 31 to 43 (fun s43 wx => s43 = .bool γ ∧ wx = W4)
    case first =>
     by_cases k8 : k0 = 8
     ·subst k8
      by_cases lt : 1 < n
      ·have c1 := CC.out 1 lt W4 HB3.out
       rw [← add_ltt ad 1 (by decide)] at c1
       have E : Hid (γ = (l.getD 1 0 == 65039)) := Lib.hid (by
        rw [HG.out]
        by_cases z : l.getD 1 0 = 65039
        ·rw [z, decide_eq_true ⟨rfl, lt, rfl⟩]; rfl
        ·rw [decide_eq_false (fun h => z h.2.2)]
         exact (beq_eq_false_iff_ne.2 z).symm)
       generalize l.getD 1 0 = r1 at *
       go_wp2_with fail
       go_meet
       exact ⟨by rw [E.out], rfl⟩
      ·have E : Hid (γ = false) := Lib.hid (by rw [HG.out]; exact decide_eq_false (fun h => lt h.2.1))
       go_wp2_with fail
       go_meet
       exact ⟨by rw [E.out], rfl⟩
     ·have E : Hid (γ = false) := Lib.hid (by rw [HG.out]; exact decide_eq_false (fun h => k8 h.1))
      have q : (k0 == 8) = false := beq_eq_false_iff_ne.2 k8
      go_wp2_with fail
      go_meet
      exact ⟨by rw [E.out], rfl⟩
    case rest =>
     obtain ⟨rfl, rfl⟩ := hcut
     obtain ⟨W5, hW5⟩ : ∃ w0, w0 = wc := ⟨_, rfl⟩
     subst hW5
     go_upto_if 43 with fail
     go_cut [6] from 43 to 43 (fun s6 wx => s6 = .int .i64 V ∧ wx = W5)
     case first =>
      cases hb : γ with
      | true =>
       have z : k0 = 8 ∧ 1 < n ∧ l.getD 1 0 = 65039 := of_decide_eq_true (by rw [← HG.out]; exact hb)
       have E : Hid (V = 2) := Lib.hid (by rw [VW.out, if_pos z])
       clear z hb HG
       go_wp2_with fail
       go_meet
       exact ⟨by rw [E.out], rfl⟩
      | false =>
       have z : ¬ (k0 = 8 ∧ 1 < n ∧ l.getD 1 0 = 65039) := of_decide_eq_false (by rw [← HG.out]; exact hb)
       have E : Hid (V = v6) := Lib.hid (by rw [VW.out, if_neg z])
       clear z hb HG
       go_wp2_with fail
       go_meet
       exact ⟨by rw [E.out], rfl⟩
     case rest =>
      obtain ⟨rfl, rfl⟩ := hcut
      clear HG VW γ
      go_wp2_with fail
      go_step3
      go_wp2_with fail
      have B1 : 1 ≤ B0 ∧ B0 ≤ n ∧ B0 ≤ 2 := by
       rw [BK.out]
       by_cases z : k0 = 6 ∧ 1 < n ∧ kindI (l.getD 1 0) = 6
       ·rw [if_pos z]; omega
       ·rw [if_neg z]; omega
      have PK := Lib.hid (d_pic k0 kr.1 kr.2)
      clear BK k1 W1
      go_loopw [5] (fun s5 wr => ∃ m : Nat, 1 ≤ m ∧ m ≤ n ∧ m ≤ 16 ∧ s5 = .int .i64 m ∧ Hid (growK l k0 (16 - m) m = F ∧ Below w.heap.size w wr)) (fun s5 _ => n - (intOf s5).toNat)
      case atStart => exact ⟨B0, B1.1, B1.2.1, by omega, rfl, Lib.hid ⟨FC.out.symm, HB3.out⟩⟩
      case round =>
       obtain ⟨m, m1, m2, m3, rfl, hI⟩ := hrel
       clear B1
       by_cases lt : m < n
       ·by_cases l16 : m < 16
        ·have FU : 16 - m = (16 - (m + 1)) + 1 := by omega
         have GX := hI.out.1
         rw [FU, GG.out] at GX
         have NXT : Hid (takesK k0 (l.getD (m - 1) 0) (l.getD m 0) = true → growK l k0 (16 - (m + 1)) (m + 1) = F) := Lib.hid (fun h => by rw [← GX, if_pos ⟨lt, h⟩])
         have STP : Hid (takesK k0 (l.getD (m - 1) 0) (l.getD m 0) = false → F = m) := Lib.hid (fun h => by rw [← GX, if_neg (fun z => by rw [h] at z; cases z.2)])
         have cm := CC.out m lt wr hI.out.2
         have CA := Lib.hid (fun W hb => CC.out (m - 1) (by omega) W hb)
         have HBW := Lib.hid hI.out.2
         have TK : Hid (takesK k0 (l.getD (m - 1) 0) (l.getD m 0) = if kindI (l.getD m 0) = 2 ∨ kindI (l.getD m 0) = 4 ∨ kindI (l.getD m 0) = 3 then true else if kindI (l.getD m 0) = 5 then picK k0 else if kindI (l.getD m 0) = 7 ∨ kindI (l.getD m 0) = 8 then picK k0 && decide (kindI (l.getD (m - 1) 0) = 3) else false) := Lib.hid rfl
         have KM := Lib.hid (KK.out (l.getD m 0))
         have KA := Lib.hid (KK.out (l.getD (m - 1) 0))
         have kmr := kindI_rng (l.getD m 0)
         clear FU GX hI
         generalize takesK k0 (l.getD (m - 1) 0) (l.getD m 0) = T at *
         generalize l.getD m 0 = rm at *
         generalize l.getD (m - 1) 0 = ra at *
         generalize kindI rm = km at *
         go_wp2_with fail
         refine (KM.out _).mono ?_; rintro e wx ⟨rfl, hbx⟩
         have HBx := Lib.hid (below_call HBW.out HBW.out.size hbx)
         clear hbx cm
         have q : km = 0 ∨ km = 1 ∨ km = 2 ∨ km = 3 ∨ km = 4 ∨ km = 5 ∨ km = 6 ∨ km = 7 ∨ km = 8 ∨ km = 9 := by omega
         clear kmr
         rcases q with rfl | rfl | rfl | rfl | rfl | rfl | rfl | rfl | rfl | rfl
         ·have ST := Lib.hid (STP.out (by rw [TK.out]; rfl))
          go_wp2_with fail
          rw [Exit.noGoto_ret]
          exact bodyPost_ret (v := .tuple #[.int .i64 (m : Int), .int .i64 V]) (by simp [results, Tryz.results144, go_sem]) rfl ⟨by rw [ST.out], HBx.out⟩
         ·have ST := Lib.hid (STP.out (by rw [TK.out]; rfl))
          go_wp2_with fail
          rw [Exit.noGoto_ret]
          exact bodyPost_ret (v := .tuple #[.int .i64 (m : Int), .int .i64 V]) (by simp [results, Tryz.results144, go_sem]) rfl ⟨by rw [ST.out], HBx.out⟩
         ·have NX := Lib.hid (NXT.out (by rw [TK.out]; rfl))
          go_wp2_with fail
          go_roundw
          case rel => exact ⟨m + 1, by omega, by omega, by omega, by go_num, Lib.hid ⟨NX.out, HBx.out⟩⟩
          case measure => simp [intOf]; omega
         ·have NX := Lib.hid (NXT.out (by rw [TK.out]; rfl))
          go_wp2_with fail
          go_roundw
          case rel => exact ⟨m + 1, by omega, by omega, by omega, by go_num, Lib.hid ⟨NX.out, HBx.out⟩⟩
          case measure => simp [intOf]; omega
         ·have NX := Lib.hid (NXT.out (by rw [TK.out]; rfl))
          go_wp2_with fail
          go_roundw
          case rel => exact ⟨m + 1, by omega, by omega, by omega, by go_num, Lib.hid ⟨NX.out, HBx.out⟩⟩
          case measure => simp [intOf]; omega
         ·have TK : Hid (T = picK k0) := Lib.hid (by rw [TK.out]; rfl)
          cases hpk : picK k0 with
          | true =>
           have NX := Lib.hid (NXT.out (by rw [TK.out, hpk]))
           have PK := PK.out wx
           rw [hpk] at PK
           have PK := Lib.hid PK
           clear hpk
           go_wp2_with fail
           refine PK.out.mono ?_; rintro e wy ⟨rfl, rfl⟩
           go_wp2_with fail
           go_roundw
           case rel => exact ⟨m + 1, by omega, by omega, by omega, by go_num, Lib.hid ⟨NX.out, HBx.out⟩⟩
           case measure => simp [intOf]; omega
          | false =>
           have ST := Lib.hid (STP.out (by rw [TK.out, hpk]))
           have PK := PK.out wx
           rw [hpk] at PK
           have PK := Lib.hid PK
           clear hpk
           go_wp2_with fail
           refine PK.out.mono ?_; rintro e wy ⟨rfl, rfl⟩
           go_wp2_with fail
           rw [Exit.noGoto_ret]
           exact bodyPost_ret (v := .tuple #[.int .i64 (m : Int), .int .i64 V]) (by simp [results, Tryz.results144, go_sem]) rfl ⟨by rw [ST.out], HBx.out⟩
         ·have ST := Lib.hid (STP.out (by rw [TK.out]; rfl))
          go_wp2_with fail
          rw [Exit.noGoto_ret]
          exact bodyPost_ret (v := .tuple #[.int .i64 (m : Int), .int .i64 V]) (by simp [results, Tryz.results144, go_sem]) rfl ⟨by rw [ST.out], HBx.out⟩
         ·have TW : Hid (T = (picK k0 && decide (kindI ra = 3))) := Lib.hid (by rw [TK.out]; rfl)
          cases hpk : picK k0 with
          | true =>
           have PK := PK.out wx
           rw [hpk] at PK
           have PK := Lib.hid PK
           have ca := CA.out wx HBx.out
           have em : ((m : Int) - 1) = ((m - 1 : Nat) : Int) := by omega
           have TV : Hid (T = decide (kindI ra = 3)) := Lib.hid (by rw [TW.out, hpk]; rfl)
           clear hpk
           go_wp2_with fail
           refine PK.out.mono ?_; rintro e wy ⟨rfl, rfl⟩
           go_wp2_with fail
           refine (KA.out _).mono ?_; rintro e wz ⟨rfl, hbz⟩
           have HBx := Lib.hid (below_call HBx.out HBx.out.size hbz)
           clear hbz ca
           by_cases z : kindI ra = 3
           ·have NX := Lib.hid (NXT.out (by rw [TV.out]; exact decide_eq_true z))
            rw [z]
            go_wp2_with fail
            go_roundw
            case rel => exact ⟨m + 1, by omega, by omega, by omega, by go_num, Lib.hid ⟨NX.out, HBx.out⟩⟩
            case measure => simp [intOf]; omega
           ·have ST := Lib.hid (STP.out (by rw [TV.out]; exact decide_eq_false z))
            have qz : (kindI ra != 3) = true := by rw [bne_iff_ne]; exact z
            go_wp2_with fail
            rw [Exit.noGoto_ret]
            exact bodyPost_ret (v := .tuple #[.int .i64 (m : Int), .int .i64 V]) (by simp [results, Tryz.results144, go_sem]) rfl ⟨by rw [ST.out], HBx.out⟩
          | false =>
           have ST := Lib.hid (STP.out (by rw [TW.out, hpk]; rfl))
           have PK := PK.out wx
           rw [hpk] at PK
           have PK := Lib.hid PK
           clear hpk
           go_wp2_with fail
           refine PK.out.mono ?_; rintro e wy ⟨rfl, rfl⟩
           go_wp2_with fail
           rw [Exit.noGoto_ret]
           exact bodyPost_ret (v := .tuple #[.int .i64 (m : Int), .int .i64 V]) (by simp [results, Tryz.results144, go_sem]) rfl ⟨by rw [ST.out], HBx.out⟩
         ·have TW : Hid (T = (picK k0 && decide (kindI ra = 3))) := Lib.hid (by rw [TK.out]; rfl)
          cases hpk : picK k0 with
          | true =>
           have PK := PK.out wx
           rw [hpk] at PK
           have PK := Lib.hid PK
           have ca := CA.out wx HBx.out
           have em : ((m : Int) - 1) = ((m - 1 : Nat) : Int) := by omega
           have TV : Hid (T = decide (kindI ra = 3)) := Lib.hid (by rw [TW.out, hpk]; rfl)
           clear hpk
           go_wp2_with fail
           refine PK.out.mono ?_; rintro e wy ⟨rfl, rfl⟩
           go_wp2_with fail
           refine (KA.out _).mono ?_; rintro e wz ⟨rfl, hbz⟩
           have HBx := Lib.hid (below_call HBx.out HBx.out.size hbz)
           clear hbz ca
           by_cases z : kindI ra = 3
           ·have NX := Lib.hid (NXT.out (by rw [TV.out]; exact decide_eq_true z))
            rw [z]
            go_wp2_with fail
            go_roundw
            case rel => exact ⟨m + 1, by omega, by omega, by omega, by go_num, Lib.hid ⟨NX.out, HBx.out⟩⟩
            case measure => simp [intOf]; omega
           ·have ST := Lib.hid (STP.out (by rw [TV.out]; exact decide_eq_false z))
            have qz : (kindI ra != 3) = true := by rw [bne_iff_ne]; exact z
            go_wp2_with fail
            rw [Exit.noGoto_ret]
            exact bodyPost_ret (v := .tuple #[.int .i64 (m : Int), .int .i64 V]) (by simp [results, Tryz.results144, go_sem]) rfl ⟨by rw [ST.out], HBx.out⟩
          | false =>
           have ST := Lib.hid (STP.out (by rw [TW.out, hpk]; rfl))
           have PK := PK.out wx
           rw [hpk] at PK
           have PK := Lib.hid PK
           clear hpk
           go_wp2_with fail
           refine PK.out.mono ?_; rintro e wy ⟨rfl, rfl⟩
           go_wp2_with fail
           rw [Exit.noGoto_ret]
           exact bodyPost_ret (v := .tuple #[.int .i64 (m : Int), .int .i64 V]) (by simp [results, Tryz.results144, go_sem]) rfl ⟨by rw [ST.out], HBx.out⟩
         ·have ST := Lib.hid (STP.out (by rw [TK.out]; rfl))
          go_wp2_with fail
          rw [Exit.noGoto_ret]
          exact bodyPost_ret (v := .tuple #[.int .i64 (m : Int), .int .i64 V]) (by simp [results, Tryz.results144, go_sem]) rfl ⟨by rw [ST.out], HBx.out⟩
        ·have e16 : m = 16 := by omega
         subst e16
         obtain ⟨m, hm⟩ : ∃ m : Nat, m = 16 := ⟨_, rfl⟩
         have ST : Hid (F = 16) := Lib.hid (by rw [← hI.out.1]; rfl)
         have HBx := Lib.hid hI.out.2
         go_wp2_with fail
         rw [Exit.noGoto_ret]
         exact bodyPost_ret (v := .tuple #[.int .i64 16, .int .i64 V]) (by simp [results, Tryz.results144, go_sem]) rfl ⟨by rw [ST.out]; rfl, HBx.out⟩
       ·have en : m = n := by omega
        have ST : Hid (F = m) := Lib.hid (by
         rw [← hI.out.1]
         exact growK_stop l k0 _ m (fun z => by have := z.1; rw [← HN.out] at this; omega))
        have HBx := Lib.hid hI.out.2
        go_wp2_with fail
        rw [Exit.noGoto_ret]
        exact bodyPost_ret (v := .tuple #[.int .i64 (m : Int), .int .i64 V]) (by simp [results, Tryz.results144, go_sem]) rfl ⟨by rw [ST.out], HBx.out⟩
end Go.Proofs.YtmaofighbpnbiaaGreatDoor
/- The iterator over clusters, the program's side: All. -/
namespace Go.Proofs.YtmaofighbpnbiaaGreatDoor
open Go Go.RowKit Go.Sort
set_option linter.unusedVariables false
attribute [local go_sem] Oper.semAt_some
def plL : Int → List (List Int × Int) → List (Int × List Int × Int)
 | _, [] => []
 | p, c :: r => (p, c.1, c.2) :: plL (p + ((barr c.1).size : Int)) r
def encC (x : Int × List Int × Int) : Array Value := #[.int .i64 x.1, .agg #[.string (barr x.2.1), .int .i64 x.2.2]]
def lenV : Value → Nat
 | .slice _ m _ => m
 | _ => 0
theorem Sees.drop {w : World} {B : Nat} {ad : Addr} {l : List Int} {k : Nat} (h : Sees w B (some ad) (rns l)) : Sees w B (some (ad.add k)) (rns (l.drop k)) := fun hne => by
 obtain ⟨ad', e, hb, hc⟩ := h (fun e => hne (by simp [rns] at e ⊢; rw [e]; simp))
 cases e
 refine ⟨_, rfl, by rw [add_blk]; exact hb, fun j u hj => ?_⟩
 have e : (ad.add k).add j = ad.add (k + j) := by
  unfold Addr.add
  by_cases k0 : k = 0
  ·subst k0; simp
  ·by_cases j0 : j = 0
   ·subst j0; simp
   ·rw [if_neg k0, if_neg j0, if_neg (by omega)]
    simp
    omega
 rw [e]
 refine hc (k + j) u ?_
 simp [rns, List.getElem?_drop] at hj ⊢
 exact hj
theorem Sees.take {w : World} {B : Nat} {A : Option Addr} {l : List Int} {k : Nat} (h : Sees w B A (rns l)) : Sees w B A (rns (l.take k)) := fun hne => by
 obtain ⟨ad, e, hb, hc⟩ := h (fun e => hne (by simp [rns] at e ⊢; rw [e]; simp))
 refine ⟨ad, e, hb, fun j u hj => hc j u ?_⟩
 simp [rns, List.getElem?_take] at hj ⊢
 exact hj.2
def KeepG (g : Nat) (W W' : World) : Prop := W.heap.size ≤ W'.heap.size ∧ W'.heap[g]? = W.heap[g]?
theorem Sees.keepG {W W' : World} {g : Nat} {A : Option Addr} {xs : List Value} (h : Sees W W.heap.size A xs) (hA : ∀ ad, A = some ad → ad.block = g) (k : KeepG g W W') : Sees W' W'.heap.size A xs := fun hne => by
 obtain ⟨ad, rfl, hb, hc⟩ := h hne
 refine ⟨ad, rfl, Nat.lt_of_lt_of_le hb k.1, fun j u hj => ?_⟩
 have e : W'.cell? (ad.add j) = W.cell? (ad.add j) := World.cell?_of_block (by rw [add_blk, hA ad rfl]; exact k.2)
 rw [e]
 exact hc j u hj
set_option maxHeartbeats 8000000 in
set_option maxRecDepth 100000 in
theorem d_all1 (n : Nat) (hn : 1 ≤ n) (y bn g : Nat) (A0 : Option Addr) (c0 : Nat) (l : List Int) (hl : l.length ≤ 35184372000000) (hc0 : l.length ≤ c0) (hr : ∀ r ∈ l, 0 ≤ r ∧ r < 2097152) (J Jx : List (Int × List Int × Int) → World → Prop)
  (hJ : ∀ pre W W', J pre W → Below W.heap.size W W' → J pre W') (hA0 : ∀ ad, A0 = some ad → ad.block = g)
  (hY : ∀ pre x W, J pre W → pre.length < (plL 0 (clL l)).length → YieldAt Fence.wide (n - 1) Tryz.prog y (encC x) W fun e W' =>
   (e = .returned (.bool true) ∧ J (pre ++ [x]) W' ∧ KeepG g W W') ∨ (e = .returned (.bool false) ∧ Jx (pre ++ [x]) W'))
  (W : World) (hbn : W.cell? ⟨bn, 0, none⟩ = some (.slice A0 l.length c0)) (hS : Sees W W.heap.size A0 (rns l)) (h0 : J [] W) :
  CallsIn Fence.wide n Tryz.prog 143 #[.func (.yield y) #[] #[], .pointer (some ⟨bn, 0, none⟩)] W fun e W' => (∃ v, e = .returned v) ∧
   ((∃ ys, ys = plL 0 (clL l) ∧ J ys W') ∨ (∃ pre, pre <+: plL 0 (clL l) ∧ Jx pre W')) := by
 refine callsIn_of_wp Tryz.func143 rfl trivial ?_ rfl
 simp only [Tryz.ntmps143, List.size_toArray, List.length_cons, List.length_nil, Nat.reduceAdd, Nat.reduceSub, Array.replicate_succ, Array.replicate_zero, List.push_toArray, List.append_toArray, List.nil_append, List.cons_append]
 gi_wp2_with fail
 gi_loopw [3, 4, 5, 6, 7] (fun s3 s4 s5 s6 s7 wr => ∃ (k : Nat) (p : Int) (pre : List (Int × List Int × Int)) (A : Option Addr) (c : Nat), k ≤ l.length ∧ s3 = .int .i64 p ∧ 0 ≤ p ∧ p ≤ 4 * k ∧ s4 = .slice A (l.length - k) c ∧ l.length - k ≤ c ∧
  plL 0 (clL l) = pre ++ plL p (clL (l.drop k)) ∧ (∀ ad, A = some ad → ad.block = g) ∧ Sees wr wr.heap.size A (rns (l.drop k)) ∧ J pre wr) (fun _ s4 _ _ _ _ => lenV s4)
 case atStart =>
  exact ⟨0, 0, [], A0, c0, by omega, rfl, by omega, by omega, by simp, by omega, by simp, hA0, by simpa using hS, h0⟩
 case round =>
  obtain ⟨k, p, pre, A, c, hk, rfl, p0, p1, rfl, hc, hx, hA, hs, hJs⟩ := hrel
  obtain ⟨m, hm⟩ : ∃ m, m = l.length - k := ⟨_, rfl⟩
  rw [← hm] at hc ⊢
  by_cases lt : k < l.length
  ·have m0 : 0 < m := by omega
   have HM := Lib.hid hm
   have ml : (l.drop k).length = m := by rw [List.length_drop]; exact hm.symm
   have hne : l.drop k ≠ [] := fun e => by rw [e] at ml; simp at ml; omega
   obtain ⟨ad, rfl, hab, _⟩ := rns_at hs 0 (by omega)
   have fb := firstC_bounds (l.drop k) hne
   have SS := Lib.hid hs
   have LN := Lib.hid (d_length (some ad) c (l.drop k) hne (by omega) wr hs)
   rw [ml] at LN fb
   have CL : Hid (clL (l.drop k) = (textI ((l.drop k).take (firstC (l.drop k))), wideP (l.drop k)) :: clL (l.drop (k + firstC (l.drop k)))) := Lib.hid (by
    rw [clL_cons _ hne, wide_same _ hne, List.drop_drop])
   have TR : Hid (∀ r ∈ (l.drop k).take (firstC (l.drop k)), 0 ≤ r ∧ r < 2097152) := Lib.hid (fun r h => hr r (List.mem_of_mem_drop (List.mem_of_mem_take h)))
   have TL : ((l.drop k).take (firstC (l.drop k))).length = firstC (l.drop k) := by rw [List.length_take, ml]; omega
   have TS : Hid (∀ w', Below wr.heap.size wr w' → Sees w' w'.heap.size (some ad) (rns ((l.drop k).take (firstC (l.drop k))))) := Lib.hid (fun w' hb => ((hs.below hb (Nat.le_refl _)).more hb.size).take)
   have SD : Hid (∀ w', KeepG g wr w' → Sees w' w'.heap.size (some (ad.add (firstC (l.drop k)))) (rns (l.drop (k + firstC (l.drop k))))) := Lib.hid (fun w' hb => by
    rw [← List.drop_drop]
    exact (hs.keepG hA hb).drop)
   have hAA : ∀ (b : Prop) [Decidable b] ad', (if b then some ad else some (ad.add (firstC (l.drop k)))) = some ad' → ad'.block = g := fun b _ ad' e => by
    have := hA ad rfl
    split at e
    ·cases e; exact this
    ·cases e; rw [add_blk]; exact this
   have gw : g < wr.heap.size := by rw [← hA ad rfl]; exact hab
   have BZ : Hid ((barr (textI ((l.drop k).take (firstC (l.drop k))))).size ≤ 4 * firstC (l.drop k)) := Lib.hid (by
    have h := textI_len ((l.drop k).take (firstC (l.drop k)))
    rw [TL] at h
    have e : (barr (textI ((l.drop k).take (firstC (l.drop k))))).size = (textI ((l.drop k).take (firstC (l.drop k)))).length := by
     show ((textI ((l.drop k).take (firstC (l.drop k)))).map _).toArray.size = _
     simp
    omega)
   have JH := Lib.hid hJs
   have HX := Lib.hid hx
   have HAA := Lib.hid hAA
   clear hAA hA
   clear hs hx hJs hne ml hm hbn hS h0
   generalize (l.drop k).take (firstC (l.drop k)) = tk at *
   generalize wideP (l.drop k) = wv at *
   generalize firstC (l.drop k) = f at *
   gi_wp2_with fail
   refine ⟨trivial, (callsIn_wide.2 LN.out).mono ?_⟩
   rintro e w1 ⟨rfl, hb1⟩
   have TX := Lib.hid (d_Text (some ad) c tk (by omega) TR.out w1 (TS.out w1 hb1))
   rw [TL] at TX
   have HB1 := Lib.hid hb1
   clear hb1
   have fm : f ≤ m := fb.2.1
   have fcap : f ≤ c := by omega
   gi_wp2_with fail
   refine ⟨trivial, (callsIn_wide.2 TX.out).mono ?_⟩
   rintro e w2 ⟨rfl, hb2⟩
   have HB2 := Lib.hid (below_call HB1.out HB1.out.size hb2)
   clear hb2
   have J2 := hJ _ _ _ JH.out HB2.out
   obtain ⟨fn, tmps, assign, body, hy, hR⟩ := hY pre (p, textI tk, wv) w2 J2 (by rw [HX.out, CL.out]; simp [plL])
   simp only [encC] at hy
   clear J2
   gi_wp2_with fail
   refine hR.mono ?_
   rintro e W3 (⟨rfl, hJ3, hk3⟩ | ⟨rfl, hJx3⟩)
   ·have S3 := Lib.hid (SD.out W3 ⟨Nat.le_trans HB2.out.size hk3.1, hk3.2.trans (HB2.out.block g gw)⟩)
    have J3 := Lib.hid hJ3
    have szp : 0 ≤ ((barr (textI tk)).size : Int) := by omega
    have bz := BZ.out
    obtain ⟨sz, hsz⟩ : ∃ sz, sz = (barr (textI tk)).size := ⟨_, rfl⟩
    rw [← hsz] at bz
    have HSZ := Lib.hid hsz
    have NX : Hid (plL 0 (clL l) = (pre ++ [(p, textI tk, wv)]) ++ plL (p + (sz : Int)) (clL (l.drop (k + f)))) := Lib.hid (by
     rw [HX.out, CL.out, List.append_assoc, HSZ.out]
     rfl)
    have bt : ((barr (textI tk)).size : Int) = (sz : Int) := by rw [hsz]
    clear hJ3 hk3 hR hy hsz szp
    gi_wp2_with fail
    go_roundw
    case rel =>
     have hm := HM.out
     refine ⟨k + f, p + sz, pre ++ [(p, textI tk, wv)], _, c - f, by omega, rfl, by omega, by omega, by rw [show l.length - (k + f) = m - f by omega], by omega, NX.out, HAA.out _, ?_, J3.out⟩
     by_cases cf : c = f
     ·rw [if_pos cf]
      have e : l.drop (k + f) = [] := List.drop_eq_nil_of_le (by omega)
      rw [e]
      exact Sees.nil _ _ _
     ·rw [if_neg cf]
      exact S3.out
    case measure => simp [lenV]; omega
   ·have JX := Lib.hid hJx3
    have NP : Hid ((pre ++ [(p, textI tk, wv)]) <+: plL 0 (clL l)) := Lib.hid (by
     rw [HX.out, CL.out]
     exact ⟨plL (p + ((barr (textI tk)).size : Int)) (clL (l.drop (k + f))), by rw [List.append_assoc]; rfl⟩)
    clear hJx3 hR hy
    gi_wp2_with fail
    refine bodyPost_ret (results_none rfl _ _ _) rfl ?_
    exact ⟨⟨_, rfl⟩, .inr ⟨_, NP.out, JX.out⟩⟩
  ·have m0 : m = 0 := by omega
   subst m0
   have R : Hid (plL 0 (clL l) = pre) := Lib.hid (by
    rw [hx, List.drop_eq_nil_of_le (by omega), clL_nil]
    simp [plL])
   have JH := Lib.hid hJs
   clear hx hs hJs
   gi_wp2_with fail
   go_end0
   exact ⟨⟨_, rfl⟩, .inl ⟨pre, R.out.symm, JH.out⟩⟩
theorem own_slc {w : World} {base n : Nat} {T : TypeId} {v : Value} {xs : List Value} (h : w.ownsRow base T 1 v n xs) : ∃ A c, v = .slice A n c := by
 rcases (own_form h).2 with ⟨rfl, rfl⟩ | ⟨g, c, rfl, _⟩
 ·exact ⟨_, _, rfl⟩
 ·exact ⟨_, _, rfl⟩
theorem d_stops (n : Nat) (hn : 1 ≤ n) (bn g : Nat) (A0 : Option Addr) (c0 : Nat) (l : List Int) (hl : l.length ≤ 35184372000000) (hc0 : l.length ≤ c0) (hr : ∀ r ∈ l, 0 ≤ r ∧ r < 2097152) (hA0 : ∀ ad, A0 = some ad → ad.block = g) (w : World) (hb : bn < w.heap.size)
  (hbn : w.cell? ⟨bn, 0, none⟩ = some (.slice A0 l.length c0)) (hS : Sees w w.heap.size A0 (rns l)) :
  SeqStopsK Fence.wide n Tryz.prog 143 #[.pointer (some ⟨bn, 0, none⟩)] encC (KeepG g) (fun ys => ys = plL 0 (clL l)) (fun pre => pre <+: plL 0 (clL l)) (plL 0 (clL l)).length w := fun y J Jx W hW hJ _ hY h0 =>
 d_all1 n hn y bn g A0 c0 l hl hc0 hr J Jx (fun pre W W' h hb' => hJ pre W W' none h ⟨hb'.os, hb'.tape, hb'.output, hb'.size, fun k hk _ => hb'.block k hk⟩ (fun r e => by cases e)) hA0 hY W ((hW.cell (p := ⟨bn, 0, none⟩) hb).trans hbn) ((hS.below hW (Nat.le_refl _)).more hW.size) h0
set_option maxHeartbeats 8000000 in
set_option maxRecDepth 100000 in
theorem d_All (s : ByteArray) (hs : s.size ≤ 35184372000000) (w : World) : Calls Tryz.prog 134 #[.string s] w fun e w' => ∃ b A c, e = .returned (.func (.func 143) #[] #[.pointer (some ⟨b, 0, none⟩)]) ∧ w.heap.size ≤ b ∧ b < w'.heap.size ∧ w'.cell? ⟨b, 0, none⟩ = some (.slice A (runesB s).length c) ∧ (runesB s).length ≤ c ∧ (∀ ad, A = some ad → w.heap.size ≤ ad.block ∧ ad.block < w'.heap.size) ∧ Sees w' w'.heap.size A (rns (runesB s)) ∧ Below w.heap.size w w' := by
 have hmf : ∀ (fn : Fn) (first cap : Array Value) (w : World), (Instr.makeFunc fn first cap).run Tryz.prog w = .ok (.func fn first cap) w := fun _ _ _ _ => rfl
 have RN := Lib.hid (d_Runes s hs)
 generalize runesB s = l at *
 go_enter Tryz.func134, Tryz.ntmps134
 go_wp2_with fail
 refine (RN.out _).mono ?_; rintro e w1 ⟨v, rfl, ho, hb⟩
 obtain ⟨A, c, rfl⟩ := own_slc ho
 have hc : l.length ≤ c := by
  rcases (own_form ho).2 with ⟨q, z⟩ | ⟨g', c', q, _, _, h, _⟩
  ·omega
  ·cases q; exact h
 have hA : ∀ ad, A = some ad → w.heap.size ≤ ad.block ∧ ad.block < w1.heap.size := fun ad e => by
  rcases (own_form ho).2 with ⟨q, z⟩ | ⟨g', c', q, h1, h2, _, _⟩
  ·injection q with q1 q2 q3; rw [q1] at e; cases e
  ·injection q with q1 q2 q3; rw [q1] at e; cases e; exact ⟨h1, h2⟩
 have SS := Sees.of_own ho
 go_wp2_with fail
 go_ret
 refine ⟨w1.heap.size, A, c, rfl, hb.size, by simp, by simp [go_sem], hc, fun ad e => ⟨(hA ad e).1, by have := (hA ad e).2; simp; omega⟩, ?_, hb.alloc hb.size _⟩
 exact (SS.below ((Below.refl _ w1).alloc (Nat.le_refl _) _) (Nat.le_refl _)).more (by simp)
end Go.Proofs.YtmaofighbpnbiaaGreatDoor
/- The clusters of a text, the program's side: Split. -/
namespace Go.Proofs.YtmaofighbpnbiaaGreatDoor
open Go Go.RowKit Go.Sort
set_option linter.unusedVariables false
attribute [local go_sem] Oper.semAt_some
def clV (c : ByteArray × Int) : List Value := [.string c.1, .int .i64 c.2]
def cls (l : List (ByteArray × Int)) : List Value := l.flatMap clV
theorem cls_app (a b : List (ByteArray × Int)) : cls (a ++ b) = cls a ++ cls b := by unfold cls; exact List.flatMap_append
def unpl (x : Int × List Int × Int) : ByteArray × Int := (barr x.2.1, x.2.2)
theorem plL_un : ∀ (p : Int) (l : List (List Int × Int)), (plL p l).map unpl = l.map fun c => (barr c.1, c.2)
 | _, [] => rfl
 | p, c :: r => by
  unfold plL
  rw [List.map_cons, plL_un _ r, List.map_cons]
  rfl
theorem infoC : (Tryz.prog.info? 142).map (fun i => (i.zero, i.size, i.bytes)) = some (some (.agg #[.string ⟨#[]⟩, .int .i64 0]), 2, 24) := by kernel_rfl
theorem own_low {w : World} {base base' n sz : Nat} {T : TypeId} {v : Value} {xs : List Value} (h : w.ownsRow base T sz v n xs) (hb : base' ≤ base) : w.ownsRow base' T sz v n xs := by
 refine ⟨h.1, ?_⟩
 rcases h.2 with a | ⟨g, cap, cur, h1, h2, h3⟩
 ·exact Or.inl a
 ·exact Or.inr ⟨g, cap, cur, h1, Nat.le_trans hb h2, h3⟩
theorem KeepG.put {w : World} {g : Nat} (hg : g < w.heap.size) (W : World) (l : Nat) (o o' : Obj) (hl : w.heap.size ≤ l) (h : W.heap[l]? = some o) (_ : o.isCells = false) (_ : o.isWalk = false) : KeepG g W (W.putObj l o') :=
 ⟨(grownBy_putObj' W l o').size, World.putObj_heap_other (by omega)⟩
theorem KeepG.trans {g : Nat} {A B C : World} (h : KeepG g A B) (k : KeepG g B C) : KeepG g A C := ⟨Nat.le_trans h.1 k.1, k.2.trans h.2⟩
set_option maxHeartbeats 8000000 in
set_option maxRecDepth 100000 in
theorem d_SplitIn (n : Nat) (hn : 3 ≤ n) (s : ByteArray) (hs : s.size ≤ 1000000000000) (w : World) : CallsIn Fence.wide n Tryz.prog 131 #[.string s] w fun e w' => ∃ v, e = .returned v ∧ w'.ownsRow w.heap.size 142 2 v (splitB s).length (cls (splitB s)) ∧ Below w.heap.size w w' := by
 have h1 : 1 ≤ n := by omega
 obtain ⟨i0, hi, hz0, hz1, hz2⟩ := info_parts infoC
 have AL := Lib.hid (d_All s (by omega))
 have RG := Lib.hid (runesB_rng _ s rfl)
 have RL := runesB_len _ s rfl
 have SP : Hid (splitB s = (plL 0 (clL (runesB s))).map unpl) := Lib.hid (by rw [plL_un]; rfl)
 have PN : Hid ((plL 0 (clL (runesB s))).length ≤ s.size) := Lib.hid (by
  have := splitB_len s
  rw [SP.out, List.length_map] at this
  exact this)
 generalize splitB s = SB at *
 generalize runesB s = l at *
 refine callsIn_of_wp_marks Tryz.func131 rfl trivial ?_ rfl
 simp only [Tryz.ntmps131, List.size_toArray, List.length_cons, List.length_nil, Nat.reduceAdd, Nat.reduceSub, Array.replicate_succ, Array.replicate_zero, List.push_toArray, List.append_toArray, List.nil_append, List.cons_append]
 gi_wp2_with fail
 refine ⟨trivial, (callsIn_wide.2 (AL.out _)).mono ?_⟩
 rintro e w1 ⟨b, A, c, rfl, hb0, hb1, hbn, hc, hA, hS, hB⟩
 have bO : Boxed w1 w.heap.size 160 (.slice none 0 0) := (hB.block _ (by simp)).trans (Boxed.new w _ _)
 have HB : Below w.heap.size w w1 := below_call (by go_grown) (by simp) hB
 obtain ⟨g, hg1, hg2, hg3⟩ : ∃ g, w.heap.size < g ∧ g < w1.heap.size ∧ ∀ ad, A = some ad → ad.block = g := by
  rcases A with _ | ad
  ·exact ⟨b, by simp at hb0; omega, hb1, fun ad e => by cases e⟩
  ·have := hA ad rfl
   simp at this
   exact ⟨ad.block, by omega, this.2, fun ad' e => by cases e; rfl⟩
 clear hA hB hb0
 gi_wp2_with fail
 have ST := d_stops (n - 1) (by omega) b g A c l (by omega) hc RG.out hg3 w1 hb1 hbn hS
 obtain ⟨N1, hN1⟩ : ∃ N1, N1 = w1.heap.size := ⟨_, rfl⟩
 refine wpIn_rangeFunc_ownH (α := Int × List Int × Int) rfl h1 (gf := 143) (lb := #[.pointer (some ⟨b, 0, none⟩)]) rfl trivial (enters_of Tryz.func143 (by kernel_rfl) rfl)
  ST KeepG.trans (KeepG.put hg2) (Below.refl _ _) (fun _ => rfl)
  (fun (pre : List (Int × List Int × Int)) (W : World) => (∃ v, Boxed W w.heap.size 160 v ∧ W.ownsRow N1 142 2 v pre.length (cls (pre.map unpl)) ∧ True) ∧ (Below w.heap.size w W ∧ N1 ≤ W.heap.size))
  (fun _ _ _ => False)
  (OwnFrom.and (Own.from (holdsRow_own N1 w.heap.size 160 142 2 (fun (pre : List (Int × List Int × Int)) => pre.length) (fun pre => cls (pre.map unpl)) (fun _ _ => True)) _) (OwnFrom.and (ownFrom_below (Nat.le_refl _) HB.size) (fun _ X Y row hs hg _ => Nat.le_trans hs hg.size)))
  (fun _ _ _ _ _ hs _ _ => hs)
  ⟨⟨_, bO, World.ownsRow_nil _ _ _ _, trivial⟩, HB, by rw [hN1]; exact Nat.le_refl _⟩
  (fun (x : Int × List Int × Int) a' W => ∃ Bx, w.heap.size < Bx ∧ W.heap[Bx]? = some (.cells #[.string (barr x.2.1), .int .i64 x.2.2] 142 (0, 0)) ∧ a' = { tmps := #[.string s, undef, .slice none 0 0, .pointer (some ⟨w.heap.size, 0, none⟩), undef, .pointer (some ⟨Bx, 0, none⟩), .string s, .func (.func 143) #[] #[.pointer (some ⟨b, 0, none⟩)], .int .i64 x.1, .agg #[.string (barr x.2.1), .int .i64 x.2.2], undef, undef, undef, undef, undef], defers := [] })
  (fun x a' _ X Y row hs hg hr => by
   obtain ⟨Bx, h1, h2, h3⟩ := hs
   refine ⟨Bx, h1, (hg.block Bx (Array.getElem?_eq_some_iff.1 h2).1 (fun e => ?_)).trans h2, h3⟩
   obtain ⟨_, o, ho, hc⟩ := hr Bx e.symm
   rw [h2] at ho
   cases ho
   cases hc)
  ?assign ?body ?done ?stop
 case assign =>
  rintro y pre x W K ⟨⟨v, hv, hrow, _⟩, hB1, hN⟩ hK
  simp only [encC]
  gi_wp2_with fail
  have hsz := hB1.size
  exact hK _ _ ((KeepsOthers.alloc _ _).from _) ⟨by simp, ((Below.refl W.heap.size W).alloc (Nat.le_refl _) _).block g (by omega)⟩ ⟨⟨v, hv.alloc _, hrow.alloc _, trivial⟩, hB1.alloc hsz _, by simp; omega⟩ ⟨W.heap.size, hv.lt, World.alloc_heap_new W _, rfl⟩
 case body =>
  rintro y pre ⟨px, tx, wd⟩ a' W hl ⟨r, hr⟩ ⟨⟨v, hv, hrow, _⟩, hB1, hN⟩ ⟨Bx, hBx, hX, rfl⟩ hlt
  have cO := hv.cell
  have cX0 : W.cell? ⟨Bx, 0, none⟩ = some (.string (barr tx)) := by simp [World.cell?, hX]
  have cX1 : W.cell? ⟨Bx, 1, none⟩ = some (.int .i64 wd) := by simp [World.cell?, hX]
  have hpn := PN.out
  have hsz := hB1.size
  have NX : Hid (cls ((pre ++ [(px, tx, wd)]).map unpl) = cls (pre.map unpl) ++ [.string (barr tx), .int .i64 wd]) := Lib.hid (by
   rw [List.map_append, cls_app]
   rfl)
  have LX : Hid ((pre ++ [(px, tx, wd)]).length = pre.length + 1) := Lib.hid (by simp)
  clear hX
  generalize hbs : barr tx = bs at *
  clear hbs
  gi_wp2_with (gi_at_builtin; refine wpListIn_append_own _ rfl (.tmp 10) (.tmp 12) 160 rfl N1 142 i0 (.agg #[.string ⟨#[]⟩, .int .i64 0]) 2 24 Tryz.underlying160 hi hz0 hz1 hz2 rfl (by decide) _ pre.length _ rfl (hrow.alloc _) ⟨W.heap.size, 0, none⟩ 1 1 [.string bs, .int .i64 wd] rfl rfl (cells_new W _ _) (by simp [Value.oneCell']) (by unfold maxLen; omega) (by omega) (by simp; omega) ?_; intro v' w3 hown' hgrow _; obtain ⟨g', cap', rfl⟩ := ownsRow_succ hown'; obtain ⟨hv1, hv2, hr2, hk2, hb2⟩ := hv.appended (show 160 ≠ 142 by decide) (own_low hrow (show w.heap.size ≤ N1 by omega)) hsz (Nat.le_refl _) (own_low hown' (show w.heap.size ≤ N1 by omega)) hgrow; have hc1 := hv1.cell; have hf1 := hv1.frozen)
  have vb : ∀ k, v.ownBlock = some k → N1 ≤ k := fun k e => (hrow.lt k e).1
  have e3 : w3.heap[g]? = W.heap[g]? := (hgrow.block g (by simp; omega) (fun e => by have := vb g e.symm; omega)).trans (((Below.refl W.heap.size W).alloc (Nat.le_refl _) _).block g (by omega))
  have e4 : w3.heap.size ≥ W.heap.size := Nat.le_trans (by simp) hgrow.size
  refine ⟨hk2.from _, ⟨hb2.size, (Below.heap_setCell _ _ _ _ (show g ≠ w.heap.size by omega)).trans e3⟩, ⟨_, hv2, ?_⟩, hB1.trans hb2, by rw [← hN1]; exact Nat.le_trans hN hb2.size⟩
  rw [NX.out, LX.out]
  have q := hown'.kept (grownBy_setCell' w3 w.heap.size (.slice (some ⟨g', 0, none⟩) (pre.length + 1) cap')) (Or.inr (fun e => by
   have h1 := (hown'.lt _ e).1
   omega))
  rw [hN1] at q
  exact q
 case done =>
  rintro D ys W hD rfl ⟨⟨v, hv, hrow, _⟩, hB1, hN⟩ hK
  have hc := hv.cell
  gi_wp2_with fail
  refine ⟨by simp, .inl ⟨_, _, rfl, run_takeDeferred hK, ?_⟩⟩
  refine ⟨_, results_tmp rfl _ _ _, v, rfl, ?_, hB1.trans (belowK_b (w := w) (Nat.le_refl _) W D _ _ (by have := HB.size; omega) hK rfl rfl)⟩
  rw [SP.out]
  have q := ownsRow_putObj (own_low hrow (show w.heap.size ≤ N1 by have := HB.size; omega)) (.deferred none) hK rfl
  rw [List.length_map]
  exact q
 case stop =>
  rintro D c pre W _ _ h _
  exact h.elim
theorem d_Split (s : ByteArray) (hs : s.size ≤ 1000000000000) (w : World) : Calls Tryz.prog 131 #[.string s] w fun e w' => ∃ v, e = .returned v ∧ w'.ownsRow w.heap.size 142 2 v (splitB s).length (cls (splitB s)) ∧ Below w.heap.size w w' :=
 callsIn_wide.1 (d_SplitIn 5 (by decide) s hs w)
end Go.Proofs.YtmaofighbpnbiaaGreatDoor
/- What a style and a patch count as: the walks of both sides. -/
namespace Go.Proofs.YtmaofighbpnbiaaGreatDoor
open Go.RowKit
set_option linter.unusedVariables false
abbrev styV (f b : Int) (a : B8) : Value := .agg #[.int .i32 f, .int .i32 b, .int .u8 (bI a)]
theorem Tells.still {k : Nat} {args : Array Value} {v : Value} (h : Tells k args v) {w : World} : Calls Tryz.prog k args w fun e w'' => e = .returned v ∧ w'' = w :=
 (h w).mono fun _ _ ⟨he, hm⟩ => ⟨he, hm.symm⟩
theorem st_plain (c : Int) : Tells 93 #[.int .i32 c] (.int .i32 (plC c)) := by
 intro w
 by_cases h1 : c = 1
 ·subst h1
  go_enter Tryz.func93, Tryz.ntmps93
  go_wp2
  go_ret
  exact ⟨rfl, rfl⟩
 ·cases h : rightB c
  all_goals
   have H : Hid (plC c = if rightB c = true then c else 0) := by unfold plC cnt Hid; rw [if_neg h1]
   go_enter Tryz.func93, Tryz.ntmps93
   go_wp2_with (go_at_call 130; refine (tint_Right _ _).mono ?_; rintro e w' ⟨rfl, rfl⟩; rw [h])
   go_ret
   exact ⟨ret_int (by rw [H.out, h]; simp), rfl⟩
theorem st_said (c : Int) : Tells 92 #[.int .i32 c] (.int .i32 (cnt c)) := by
 intro w
 cases h : rightB c
 all_goals
  have H : Hid (cnt c = if rightB c = true then c else 0) := rfl
  go_enter Tryz.func92, Tryz.ntmps92
  go_wp2_with (go_at_call 130; refine (tint_Right _ _).mono ?_; rintro e w' ⟨rfl, rfl⟩; rw [h])
  go_ret
  exact ⟨ret_int (by rw [H.out, h]; simp), rfl⟩
set_option maxHeartbeats 4000000 in
set_option maxRecDepth 100000 in
theorem st_counts (f b : Int) (a : B8) : Gives 91 #[styV f b a] (styV (plC f) (plC b) a) := by
 intro w
 go_enter Tryz.func91, Tryz.ntmps91
 go_wp2_with fail
 refine wp_region_still_tail 9 (by kernel_rfl) (by kernel_rfl) ?_
 change wpStill _ _ (World.drew _) _ _ _
 simp only [List.take_succ_cons, List.take_zero, List.drop_succ_cons, List.drop_zero]
 repeat (first | still_step | still_call (st_plain _).still)
 refine wpStill_nil ?_
 change wpList _ _ _ _ _ (World.drew _)
 go_wp2_with fail
 exact bodyPost_ret (v := styV (plC f) (plC b) a) (by simp [results, Tryz.results91, go_sem]) rfl ⟨rfl, by go_grown⟩
end Go.Proofs.YtmaofighbpnbiaaGreatDoor
/- Patches laid over a style: the walks of both sides. -/
namespace Go.Proofs.YtmaofighbpnbiaaGreatDoor
open Go.RowKit Go.Sort
set_option linter.unusedVariables false
theorem add_plus (a : Addr) (m n : Nat) : (a.add m).add n = a.add (m + n) := Go.Deep.add_add a m n
theorem add_lit (a : Addr) (n : Nat) (h : n ≠ 0) : (⟨a.block, a.off + n, none⟩ : Addr) = a.add n := by unfold Addr.add; rw [if_neg h]
def patL (p : Pat) : List Value := [.int .i32 p.fg, .int .i32 p.bg, .int .u8 (bI p.add), .int .u8 (bI p.drop)]
def SeesP (w : World) (B : Nat) (A : Option Addr) (ps : List Pat) : Prop :=
 ps ≠ [] → ∃ ad, A = some ad ∧ ad.block < B ∧ ∀ j p, ps[j]? = some p → ∀ i u, (patL p)[i]? = some u → w.cell? (ad.add (j * 4 + i)) = some u
set_option maxHeartbeats 4000000 in
set_option maxRecDepth 100000 in
theorem st_Over (s : Sty) (A : Option Addr) (c : Nat) (ps : List Pat) (w : World) (hS : SeesP w w.heap.size A ps) (hn : ps.length ≤ 100000000000000) :
  Calls Tryz.prog 76 #[styV s.fg s.bg s.at_, .slice A ps.length c] w fun e w' => e = .returned (styV (overL s ps).fg (overL s ps).bg (overL s ps).at_) ∧ Below w.heap.size w w' := by
 obtain ⟨n, hnn⟩ : ∃ n, n = ps.length := ⟨_, rfl⟩
 have HN := Lib.hid hnn
 rw [← hnn] at hn ⊢
 have HS := Lib.hid hS
 clear hS hnn
 go_enter Tryz.func76, Tryz.ntmps76
 go_wp2_with fail
 refine (st_counts _ _ _ _).mono ?_; rintro e w1 ⟨rfl, hb1⟩
 have q1 : C3 w1 w.heap.size (.int .i32 s.fg) (.int .i32 s.bg) (.int .u8 (bI s.at_)) := C3.keep (by constructor <;> simp [go_sem]) hb1 (by simp; omega)
 have q2 : C3 w1 (w.heap.size + 1) (.int .i32 0) (.int .i32 0) (.int .u8 0) := C3.keep (by constructor <;> simp [go_sem]) hb1 (by simp)
 have hB1 : Below w.heap.size w w1 := below_call (by go_grown) (by simp; omega) hb1
 clear hb1
 have q1' := q1.put (.int .i32 (plC s.fg)) (.int .i32 (plC s.bg)) (.int .u8 (bI s.at_))
 have q2' := ((q2.far (b' := w.heap.size) (o := 0) (y := .int .i32 (plC s.fg)) (by omega)).far (b' := w.heap.size) (o := 1) (y := .int .i32 (plC s.bg)) (by omega)).far (b' := w.heap.size) (o := 2) (y := .int .u8 (bI s.at_)) (by omega)
 have hB1' : Below w.heap.size w (((w1.setCell ⟨w.heap.size, 0, none⟩ (.int .i32 (plC s.fg))).setCell ⟨w.heap.size, 1, none⟩ (.int .i32 (plC s.bg))).setCell ⟨w.heap.size, 2, none⟩ (.int .u8 (bI s.at_))) := ((hB1.setCell (Nat.le_refl _) _).setCell (Nat.le_refl _) _).setCell (Nat.le_refl _) _
 have Q1 := Lib.hid q1'
 have Q2 := Lib.hid q2'
 have HB := Lib.hid hB1'
 obtain ⟨a0, a1, a2, f0, f1, f2⟩ := q1
 clear q2 q1' q2' hB1 hB1'
 go_wp2_with fail
 go_loopw [13] (fun i wr => ∃ (k : Nat) (t : Sty), k ≤ n ∧ i = .int .i64 k ∧ Hid (t = (ps.take k).foldl over1 (countS s)) ∧ Hid (C3 wr w.heap.size (.int .i32 t.fg) (.int .i32 t.bg) (.int .u8 (bI t.at_)) ∧ C3 wr (w.heap.size + 1) (.int .i32 0) (.int .i32 0) (.int .u8 0) ∧ Below w.heap.size w wr)) (fun i _ => n - (intOf i).toNat)
 case atStart => exact ⟨0, countS s, by omega, rfl, Lib.hid rfl, Lib.hid ⟨Q1.out, Q2.out, HB.out⟩⟩
 case round =>
  obtain ⟨k, t, hk, rfl, ht, hc⟩ := hrel
  by_cases lt : k < n
  ·have kl : k < ps.length := by have := HN.out; omega
   obtain ⟨ad, rfl, hab, hcell⟩ := HS.out (fun e => by rw [e] at kl; cases kl)
   have hc1 := hcell k _ (List.getElem?_eq_getElem kl)
   obtain ⟨p, hp0⟩ : ∃ p, p = ps[k] := ⟨_, rfl⟩
   rw [← hp0] at hc1
   obtain ⟨h1, h2, h3⟩ := hc.out
   have cell : ∀ i u, (patL p)[i]? = some u → wr.cell? (ad.add (k * 4 + i)) = some u := fun i u hu => (h3.cell (p := ad.add (k * 4 + i)) (by rw [add_blk]; exact hab)).trans (hc1 i u hu)
   have z0 : wr.cell? (ad.add (k * 4)) = some (.int .i32 p.fg) := cell 0 _ rfl
   have z1 : wr.cell? ⟨(ad.add (k * 4)).block, (ad.add (k * 4)).off + 1, none⟩ = some (.int .i32 p.bg) := by rw [add_lit _ 1 (by decide), add_plus]; exact cell 1 _ rfl
   have z2 : wr.cell? ⟨(ad.add (k * 4)).block, (ad.add (k * 4)).off + 2, none⟩ = some (.int .u8 (bI p.add)) := by rw [add_lit _ 2 (by decide), add_plus]; exact cell 2 _ rfl
   have z3 : wr.cell? ⟨(ad.add (k * 4)).block, (ad.add (k * 4)).off + 3, none⟩ = some (.int .u8 (bI p.drop)) := by rw [add_lit _ 3 (by decide), add_plus]; exact cell 3 _ rfl
   have l0 := h1.lt
   have T1 : Hid (t.at_ &&& ~~~p.drop ||| p.add = (over1 t p).at_) := Lib.hid rfl
   have F1 : Hid ((over1 t p).fg = if cnt p.fg = 0 then t.fg else plC (cnt p.fg)) := Lib.hid (by
    show layC t.fg (cnt p.fg) = _
    rw [plC_cnt]; unfold layC; split <;> rfl)
   have F2 : Hid ((over1 t p).bg = if cnt p.bg = 0 then t.bg else plC (cnt p.bg)) := Lib.hid (by
    show layC t.bg (cnt p.bg) = _
    rw [plC_cnt]; unfold layC; split <;> rfl)
   have NT : Hid (over1 t p = (ps.take (k + 1)).foldl over1 (countS s)) := Lib.hid (by
    rw [List.take_succ_eq_append_getElem kl, List.foldl_append, ← ht.out, hp0]; rfl)
   obtain ⟨a0, a1, a2, f0, f1, f2⟩ := h1
   clear h2 h3 cell hc1 hcell hp0
   by_cases c1 : cnt p.fg = 0
   all_goals by_cases c2 : cnt p.bg = 0
   all_goals
    have F1 := F1.out
    have F2 := F2.out
    first | rw [if_pos c1] at F1 | rw [if_neg c1] at F1
    first | rw [if_pos c2] at F2 | rw [if_neg c2] at F2
    have F1 := Lib.hid F1
    have F2 := Lib.hid F2
    first | (have g1 : (cnt p.fg != 0) = true := by rw [bne_iff_ne]; exact c1) | (have g1 : (cnt p.fg != 0) = false := by rw [c1]; rfl)
    first | (have g2 : (cnt p.bg != 0) = true := by rw [bne_iff_ne]; exact c2) | (have g2 : (cnt p.bg != 0) = false := by rw [c2]; rfl)
    clear c1 c2
    go_wp2_with (first | (go_at_call 92; refine (st_said _ _).mono ?_; rintro e w' ⟨rfl, rfl⟩) | (go_at_call 93; refine (st_plain _ _).mono ?_; rintro e w' ⟨rfl, rfl⟩))
    go_roundw
    case rel =>
     refine ⟨k + 1, over1 t p, by omega, by go_num, NT, ?_⟩
     have ne : w.heap.size + 1 ≠ w.heap.size := by omega
     have K := hc.out.1
     have K2 := hc.out.2.1
     have K3 := hc.out.2.2
     refine Lib.hid ⟨?_, ?_, ?_⟩
     ·rw [F1.out, F2.out, ← T1.out]
      first | with_reducible exact ((K.set2 _).set2 _).alloc _ | with_reducible exact (((K.set2 _).set2 _).set1 _).alloc _ | with_reducible exact (((K.set2 _).set2 _).set0 _).alloc _ | with_reducible exact ((((K.set2 _).set2 _).set0 _).set1 _).alloc _
     ·first | with_reducible exact ((K2.far ne).far ne).alloc _ | with_reducible exact (((K2.far ne).far ne).far ne).alloc _ | with_reducible exact ((((K2.far ne).far ne).far ne).far ne).alloc _
     ·refine Below.alloc ?_ (by simp; omega) _
      first | with_reducible exact (K3.setCell (Nat.le_refl _) _).setCell (Nat.le_refl _) _ | with_reducible exact ((K3.setCell (Nat.le_refl _) _).setCell (Nat.le_refl _) _).setCell (Nat.le_refl _) _ | with_reducible exact (((K3.setCell (Nat.le_refl _) _).setCell (Nat.le_refl _) _).setCell (Nat.le_refl _) _).setCell (Nat.le_refl _) _
    case measure => simp [intOf]; omega
  ·have ek : k = n := by omega
   subst ek
   have TT : Hid (t = overL s ps) := Lib.hid (by rw [ht.out, HN.out, List.take_length]; rfl)
   obtain ⟨h1, h2, h3⟩ := hc.out
   have H3 := Lib.hid h3
   obtain ⟨a0, a1, a2, f0, f1, f2⟩ := h1
   obtain ⟨b0, b1, b2, g0, g1, g2⟩ := h2
   clear h3
   go_wp2_with fail
   refine bodyPost_ret (v := styV (overL s ps).fg (overL s ps).bg (overL s ps).at_) (by rw [← TT.out]; simp [results, Tryz.results76, go_sem, b0, b1, b2]) rfl ⟨rfl, ?_⟩
   exact ((H3.out.setCell (Nat.le_succ _) _).setCell (Nat.le_succ _) _).setCell (Nat.le_succ _) _
end Go.Proofs.YtmaofighbpnbiaaGreatDoor
/- Rows of a law's own, side by side: which block each lies in, and that a write to one leaves the others (plain; of no program). -/
namespace Go.Proofs.YtmaofighbpnbiaaGreatDoor
open Go.RowKit
set_option linter.unusedVariables false
structure Rw where
 lo : Nat
 hi : Nat
 T : TypeId
 sz : Nat
 v : Value
 n : Nat
 xs : List Value
structure Row1 (w : World) (r : Rw) : Prop where
 own : w.ownsRow r.lo r.T r.sz r.v r.n r.xs
 top : ∀ g, r.v.ownBlock = some g → g < r.hi
structure Rows (W0 w : World) (rs : List Rw) : Prop where
 all : ∀ r ∈ rs, Row1 w r ∧ W0.heap.size ≤ r.lo ∧ r.hi ≤ w.heap.size
 ord : rs.Pairwise fun r s => r.hi ≤ s.lo
 bel : Below W0.heap.size W0 w
end Go.Proofs.YtmaofighbpnbiaaGreatDoor
/- How long a row of numbers is; a colour's numbers put behind a row: the program's walks. -/
namespace Go.Proofs.YtmaofighbpnbiaaGreatDoor
open Go.RowKit Go.Sort
set_option linter.unusedVariables false
def ints (l : List Int) : List Value := l.map (.int .i64)
end Go.Proofs.YtmaofighbpnbiaaGreatDoor
/- The numbers that make one style of another: the program's walk. -/
namespace Go.Proofs.YtmaofighbpnbiaaGreatDoor
open Go.RowKit Go.Sort
set_option linter.unusedVariables false
structure EnvS (w : World) : Prop where
 on : ∀ k, k < 8 → w.cell? ⟨0, k, none⟩ = some (.int .i64 (onN k))
 off : ∀ k, k < 8 → w.cell? ⟨1, k, none⟩ = some (.int .i64 (offN k))
theorem EnvS.of_below {B : Nat} {w w' : World} (h : EnvS w) (hb : Below B w w') (hB : w.heap.size ≤ B) : EnvS w' where
 on := fun k hk => (hb.cell (p := ⟨0, k, none⟩) (Nat.lt_of_lt_of_le (show 0 < w.heap.size from block_lt_of_cell (h.on 0 (by decide))) hB)).trans (h.on k hk)
 off := fun k hk => (hb.cell (p := ⟨1, k, none⟩) (Nat.lt_of_lt_of_le (show 1 < w.heap.size from block_lt_of_cell (h.off 0 (by decide))) hB)).trans (h.off k hk)
end Go.Proofs.YtmaofighbpnbiaaGreatDoor
/- The only cluster of a text, the program's side: One. -/
namespace Go.Proofs.YtmaofighbpnbiaaGreatDoor
open Go.RowKit Go.Sort
set_option linter.unusedVariables false
set_option linter.unusedSimpArgs false
theorem own2_form {w : World} {base : Nat} {T : TypeId} {v : Value} {n : Nat} {xs : List Value} (h : w.ownsRow base T 2 v n xs) : (v = .slice none 0 0 ∧ n = 0) ∨ ∃ g c, v = .slice (some ⟨g, 0, none⟩) n c ∧ base ≤ g ∧ g < w.heap.size ∧ n ≤ c ∧ c ≤ maxLen ∧ ∀ j u, xs[j]? = some u → w.cell? ⟨g, j, none⟩ = some u := by
 rcases h.2 with a | ⟨g, cap, cur, h1, h2, h3, h4⟩
 ·exact Or.inl a
 ·refine Or.inr ⟨g, cap, h1, h2, (Array.getElem?_eq_some_iff.1 h3).1, h4.1, h4.2.1, fun j u hj => ?_⟩
  have q := h.cells (g := g) (by rw [h1]; rfl) j u hj
  have e : ((⟨g, 0, none⟩ : Addr).add j) = ⟨g, j, none⟩ := by
   unfold Addr.add
   split
   ·rename_i z; rw [z]
   ·simp
  rwa [e] at q
def oneV (s : ByteArray) : Option Int → Value
 | some u => .tuple #[.agg #[.string s, .int .i64 u], .bool true]
 | none => .tuple #[.agg #[.string ⟨#[]⟩, .int .i64 0], .bool false]
set_option maxHeartbeats 8000000 in
set_option maxRecDepth 100000 in
theorem d_One (s : ByteArray) (hs : s.size ≤ 1000000000000) (w : World) : Calls Tryz.prog 94 #[.string s] w fun e w' => e = .returned (oneV s (oneB s)) ∧ Below w.heap.size w w' := by
 have SP := Lib.hid (d_Split s hs)
 have SL := splitB_len s
 have O0 : Hid (splitB s = [] → oneB s = none) := Lib.hid (fun h => by unfold oneB; rw [h])
 have O1 : Hid (∀ c, splitB s = [c] → oneB s = if c.1 = s then some c.2 else none) := Lib.hid (fun c h => by unfold oneB; rw [h])
 have O2 : Hid (∀ c d r, splitB s = c :: d :: r → oneB s = none) := Lib.hid (fun c d r h => by unfold oneB; rw [h])
 generalize oneB s = o at *
 generalize splitB s = L at *
 go_enter Tryz.func94, Tryz.ntmps94
 go_wp2_with fail
 refine (SP.out _).mono ?_; rintro e w1 ⟨v, rfl, ho, hb⟩
 have z0 : w1.cell? ⟨w.heap.size, 0, none⟩ = some (.string ⟨#[]⟩) := (hb.cell (p := ⟨w.heap.size, 0, none⟩) (by simp)).trans (by simp [go_sem])
 have z1 : w1.cell? ⟨w.heap.size, 1, none⟩ = some (.int .i64 0) := (hb.cell (p := ⟨w.heap.size, 1, none⟩) (by simp)).trans (by simp [go_sem])
 have f0 : w1.frozen? ⟨w.heap.size, 0, none⟩ = false := (hb.frozen (p := ⟨w.heap.size, 0, none⟩) (by simp)).trans (by simp [go_sem])
 have f1 : w1.frozen? ⟨w.heap.size, 1, none⟩ = false := (hb.frozen (p := ⟨w.heap.size, 1, none⟩) (by simp)).trans (by simp [go_sem])
 have HB := Lib.hid (show Below w.heap.size w w1 from below_call (by go_grown) (by simp) hb)
 have FN := own2_form ho
 clear ho hb
 rcases L with _ | ⟨⟨ct, cw⟩, _ | ⟨d, r⟩⟩
 ·have R := Lib.hid (O0.out rfl)
  rcases FN with ⟨rfl, _⟩ | ⟨g, c, rfl, _⟩
  all_goals
   go_wp2_with fail
   refine bodyPost_ret (v := .tuple #[.agg #[.string ⟨#[]⟩, .int .i64 0], .bool false]) (by simp [results, Tryz.results94, go_sem, z0, z1]) rfl ⟨by rw [R.out]; rfl, ?_⟩
   exact (HB.out.setCell (Nat.le_refl _) _).setCell (Nat.le_refl _) _
 ·have RR := Lib.hid (O1.out _ rfl)
  rcases FN with ⟨_, h⟩ | ⟨g, c, rfl, hg0, hg1, _, _, hc⟩
  ·cases h
  ·have c0 : w1.cell? ⟨g, 0, none⟩ = some (.string ct) := hc 0 _ rfl
   have c1 : w1.cell? ⟨g, 1, none⟩ = some (.int .i64 cw) := hc 1 _ rfl
   have ne : w.heap.size ≠ g := by simp at hg0; omega
   simp only [List.length_cons, List.length_nil]
   by_cases e : ct = s
   ·have q : (ct.toList == s.toList) = true := by rw [eq_bytes]; exact decide_eq_true e
    have R : Hid (o = some cw) := Lib.hid (by rw [RR.out]; exact if_pos e)
    go_wp2_with fail
    refine bodyPost_ret (v := .tuple #[.agg #[.string s, .int .i64 cw], .bool true]) (by simp [results, Tryz.results94, go_sem, z0, z1, e]) rfl ⟨by rw [R.out]; rfl, ?_⟩
    exact (HB.out.setCell (Nat.le_refl _) _).setCell (Nat.le_refl _) _
   ·have q : (ct.toList == s.toList) = false := by rw [eq_bytes]; exact decide_eq_false e
    have R : Hid (o = none) := Lib.hid (by rw [RR.out]; exact if_neg e)
    go_wp2_with fail
    refine bodyPost_ret (v := .tuple #[.agg #[.string ⟨#[]⟩, .int .i64 0], .bool false]) (by simp [results, Tryz.results94, go_sem, z0, z1]) rfl ⟨by rw [R.out]; rfl, ?_⟩
    exact (HB.out.setCell (Nat.le_refl _) _).setCell (Nat.le_refl _) _
 ·have R := Lib.hid (O2.out _ _ _ rfl)
  rcases FN with ⟨_, h⟩ | ⟨g, c, rfl, hg0, hg1, _, _, hc⟩
  ·cases h
  ·obtain ⟨n, hn⟩ : ∃ n, n = (((ct, cw) :: d :: r).length) := ⟨_, rfl⟩
   rw [← hn]
   have q : ((n : Int) == 1) = false := by simp; rw [hn]; simp; omega
   have q2 : ((n : Int) != 1) = true := by simp; rw [hn]; simp; omega
   clear hn SL hc
   go_wp2_with fail
   refine bodyPost_ret (v := .tuple #[.agg #[.string ⟨#[]⟩, .int .i64 0], .bool false]) (by simp [results, Tryz.results94, go_sem, z0, z1]) rfl ⟨by rw [R.out]; rfl, ?_⟩
   exact (HB.out.setCell (Nat.le_refl _) _).setCell (Nat.le_refl _) _
end Go.Proofs.YtmaofighbpnbiaaGreatDoor
/- Rows of cells in memory. -/
namespace Go.Proofs.YtmaofighbpnbiaaGreatDoor
open Go.RowKit Go.Sort
set_option linter.unusedVariables false
set_option linter.unusedSimpArgs false
def celV (c : Cel) : List Value := [.string c.text, .int .i8 c.wide, .int .i32 c.st.fg, .int .i32 c.st.bg, .int .u8 (bI c.st.at_)]
def celsV (l : List Cel) : List Value := l.flatMap celV
theorem celsV_cons (a : Cel) (r : List Cel) : celsV (a :: r) = celV a ++ celsV r := by unfold celsV; exact List.flatMap_cons ..
theorem celsV_app (a b : List Cel) : celsV (a ++ b) = celsV a ++ celsV b := by unfold celsV; exact List.flatMap_append
theorem celsV_len (l : List Cel) : (celsV l).length = l.length * 5 := by
 induction l with
 | nil => rfl
 | cons a l ih => rw [celsV_cons, List.length_append, ih, List.length_cons]; simp [celV]; omega
theorem celsV_drop (l : List Cel) : ∀ k, celsV (l.drop k) = (celsV l).drop (k * 5) := by
 induction l with
 | nil => intro k; simp [celsV]
 | cons a l ih =>
  intro k
  cases k with
  | zero => simp
  | succ k =>
   rw [List.drop_succ_cons, ih, celsV_cons, show (k + 1) * 5 = 5 + k * 5 by omega, ← List.drop_drop]
   rfl
theorem over0 (s : Sty) (W : World) : Calls Tryz.prog 76 #[styV s.fg s.bg s.at_, .slice none 0 0] W fun e w' => e = .returned (styV (countS s).fg (countS s).bg (countS s).at_) ∧ Below W.heap.size W w' :=
 st_Over s none 0 [] W (fun h => absurd rfl h) (by simp)
structure C5 (w : World) (b : Nat) (x0 x1 x2 x3 x4 : Value) : Prop where
 c0 : w.cell? ⟨b, 0, none⟩ = some x0
 c1 : w.cell? ⟨b, 1, none⟩ = some x1
 c2 : w.cell? ⟨b, 2, none⟩ = some x2
 c3 : w.cell? ⟨b, 3, none⟩ = some x3
 c4 : w.cell? ⟨b, 4, none⟩ = some x4
theorem C5.keep {w w' : World} {B b : Nat} {x0 x1 x2 x3 x4 : Value} (h : C5 w b x0 x1 x2 x3 x4) (hb : Below B w w') (hB : b < B) : C5 w' b x0 x1 x2 x3 x4 :=
 ⟨(hb.cell (p := ⟨b, 0, none⟩) hB).trans h.c0, (hb.cell (p := ⟨b, 1, none⟩) hB).trans h.c1, (hb.cell (p := ⟨b, 2, none⟩) hB).trans h.c2, (hb.cell (p := ⟨b, 3, none⟩) hB).trans h.c3, (hb.cell (p := ⟨b, 4, none⟩) hB).trans h.c4⟩
structure C2 (w : World) (b : Nat) (x0 x1 : Value) : Prop where
 c0 : w.cell? ⟨b, 0, none⟩ = some x0
 c1 : w.cell? ⟨b, 1, none⟩ = some x1
end Go.Proofs.YtmaofighbpnbiaaGreatDoor
