/- DiffFrames: the walk. -/
import Derived.Test.YtifoijbpbigaaaaGreatDoorFRcL
import Derived.Test.YtifoijbpbigaaaaGreatDoorDaFI
set_option linter.unusedVariables false
set_option linter.unusedSimpArgs false
namespace Go.Proofs.YtifoijbpbigaaaaGreatDoor
section
open Go Go.RowKit Go.Sort
section
theorem Va {L : List SA} {t : SA} (h : t ∈ L) : bulk t.s.cells <= zK L := by
 induction L with
 | nil => cases h
 | cons a L ih =>
  have e : zK (a :: L) = bulk a.s.cells + zK L := by simp [zK]
  rcases List.mem_cons.1 h with rfl | h
  ·omega
  ·have := ih h; omega
def Zg (W1 : World) (L : List (Bool × SA)) : Prop := ∀ x ∈ L, ScrAt W1 W1.heap.size x.2.s x.2.A x.2.c /\ (∀ y ∈ x.2.s.cells, okR y) /\ x.2.s.cells.length <= 134217728 /\ totS x.2.s.cells <= 1000000000 /\ True
theorem JA {w W1 : World} {L : List (Bool × SA)} (hb : Below w.heap.size w W1) (ok : ∀ x ∈ L, ScrD w x.2) (col : ∀ x ∈ L, ∀ y ∈ x.2.s.cells, zh y.st.fg /\ zh y.st.bg) (h : decide (134217728 < zK (L.map (·.2))) = false) : Zg W1 L := fun x hx => by
 have h := of_decide_eq_false h
 have m := Va (List.mem_map.2 ⟨x, hx, rfl⟩ : x.2 ∈ L.map (·.2))
 have s1 := ((((ok x hx).below hb)).at (by omega)).1
 have n1 := Je x.2.s.cells
 have n2 : totS x.2.s.cells = (x.2.s.cells.map fun c => c.text.size).sum := rfl
 refine ⟨s1, fun y hy => ?_, by omega, by omega, trivial⟩
 have := Jl hy
 have o := s1.ok y hy
 exact ⟨by omega, o.2.1, o.2.2, (col x hx y hy).1, (col x hx y hy).2⟩
set_option maxHeartbeats 64000000 in
set_option maxRecDepth 100000 in
theorem Vb (dp1 dp2 : Int) (A1 A2 : Option Addr) (c1 c2 : Nat) (L1 L2 : List (Bool × SA)) (w : World) (E : EnvD w) (hl1 : L1.length <= c1) (hz1 : c1 * 72 <= 140737488351232) (S1 : Sees w w.heap.size A1 (jg L1)) (ok1 : ∀ x ∈ L1, ScrD w x.2) (co1 : ∀ x ∈ L1, ∀ y ∈ x.2.s.cells, zh y.st.fg /\ zh y.st.bg)
  (hl2 : L2.length <= c2) (hz2 : c2 * 72 <= 140737488351232) (S2 : Sees w w.heap.size A2 (jg L2)) (ok2 : ∀ x ∈ L2, ScrD w x.2) (co2 : ∀ x ∈ L2, ∀ y ∈ x.2.s.cells, zh y.st.fg /\ zh y.st.bg) :
  Calls Tryz.prog 5 #[.agg #[.int .i64 dp1, .slice A1 L1.length c1], .agg #[.int .i64 dp2, .slice A2 L2.length c2]] w fun e w' => e = .returned (.bool true) /\ Below w.heap.size w w' := by
 obtain ⟨Q, hQ⟩ : ∃ Q, Q = (w.alloc (.cells #[.int .i64 dp1, .slice A1 L1.length c1] 44)).alloc (.cells #[.int .i64 dp2, .slice A2 L2.length c2] 44) := ⟨_, rfl⟩
 have BQ : Below w.heap.size w Q := by rw [hQ]; exact ((Below.refl _ w).alloc Vf _).alloc (by simp) _
 have KQ1 : Own1 Q w.heap.size [.int .i64 dp1, .slice A1 L1.length c1] 44 := by
  rw [hQ]
  exact Own1.below (World.alloc_heap_new w _) ((Below.refl _ _).alloc Vf _)
 have KQ2 : Own1 Q (w.heap.size + 1) [.int .i64 dp2, .slice A2 L2.length c2] 44 := by
  have e : (w.alloc (.cells #[.int .i64 dp1, .slice A1 L1.length c1] 44)).heap.size = w.heap.size + 1 := by simp
  rw [hQ, <- e]
  exact World.alloc_heap_new _ _
 have SC1 := Vd (Jn dp1 A1 c1 L1 Q hl1 hz1 ((S1.below BQ Vf).more BQ.size))
 have SC2 := Vd (fun (V : World) (hV : Below Q.heap.size Q V) => Jn dp2 A2 c2 L2 V hl2 hz2 ((S2.below (BQ.trans (hV.mono BQ.size)) Vf).more (Nat.le_trans BQ.size hV.size)))
 have HS1 := Vd S1
 have HS2 := Vd S2
 have HO1 := Vd ok1
 have HO2 := Vd ok2
 have HC1 := Vd co1
 have HC2 := Vd co2
 have HE := Vd E
 have HB := Vd BQ
 have HKQ1 := Vd KQ1
 have HKQ2 := Vd KQ2
 have HL1 := Vd hl1
 have HL2 := Vd hl2
 obtain ⟨n1, hn1⟩ : ∃ n1, n1 = L1.length := ⟨_, rfl⟩
 obtain ⟨n2, hn2⟩ : ∃ n2, n2 = L2.length := ⟨_, rfl⟩
 have HN1 := Vd hn1.symm
 have HN2 := Vd hn2.symm
 have HZ1 := Vd (show n1 <= 1990000000000 by omega)
 have HZ2 := Vd (show n2 <= 1990000000000 by omega)
 rw [<- hn1] at SC1
 rw [<- hn2] at SC2
 have q0 := KQ1.blk.c 0 _ rfl
 have q1 := KQ1.blk.c 1 _ rfl
 have r0 := KQ2.blk.c 0 _ rfl
 have r1 := KQ2.blk.c 1 _ rfl
 rw [<- hn1] at q1 hQ ⊢
 rw [<- hn2] at r1 hQ ⊢
 have ZQ : Q.heap.size = w.heap.size + 2 := by rw [hQ]; simp
 have HZQ := Vd ZQ
 clear S1 S2 ok1 ok2 co1 co2 E BQ KQ1 KQ2 hl1 hl2 hz1 hz2 hn1 hn2 ZQ
 go_enter Tryz.func5, Tryz.ntmps5
 go_upto_region 1 with fail
 rw [<- hQ]
 clear hQ
 go_wp2_with fail
 refine SC1.out.mono ?_; rintro e w1 ⟨A', c', rfl, se, hb1⟩
 have H1 := Vd hb1
 have BY1 := Jf (L1.map (·.2)) A' c' w1 se (by have := HZ1.out; have := HN1.out; rw [List.length_map]; omega) (Jk (fun t ht => by
  obtain ⟨x, hx, rfl⟩ := List.mem_map.1 ht
  exact (HO1.out x hx).below (HB.out.trans (hb1.mono HB.out.size))))
 rw [List.length_map, HN1.out] at BY1
 have BY1 := Vd BY1
 have k2 := HKQ2.out.below hb1
 have r0' := k2.blk.c 0 _ rfl
 have r1' := k2.blk.c 1 _ rfl
 rw [HN2.out] at r1'
 have OK1 := Vd (fun (V : World) (hb : Below w.heap.size w V) (h : decide (134217728 < zK (L1.map (·.2))) = false) => JA hb HO1.out HC1.out h)
 generalize decide (134217728 < zK (L1.map (·.2))) = G1 at *
 clear SC1 se hb1 q0 q1 r0 r1 k2
 go_wp2_with fail
 refine BY1.out.mono ?_; rintro e w1' ⟨rfl, hw⟩
 subst hw
 clear BY1
 cases G1 with
 | true =>
  have FIN := Vd (HB.out.trans (H1.out.mono HB.out.size))
  go_wp2_with fail
  go_ret
  exact ⟨rfl, FIN.out⟩
 | false =>
  have SC2 := Vd (SC2.out w1 H1.out)
  go_wp2_with fail
  refine SC2.out.mono ?_; rintro e w2 ⟨A'', c'', rfl, se, hb2⟩
  have H2 := Vd (H1.out.trans (hb2.mono H1.out.size))
  have BY2 := Jf (L2.map (·.2)) A'' c'' w2 se (by have := HZ2.out; have := HN2.out; rw [List.length_map]; omega) (Jk (fun t ht => by
   obtain ⟨x, hx, rfl⟩ := List.mem_map.1 ht
   exact (HO2.out x hx).below (HB.out.trans (H2.out.mono HB.out.size))))
  rw [List.length_map, HN2.out] at BY2
  have BY2 := Vd BY2
  have OK2 := Vd (fun (V : World) (hb : Below w.heap.size w V) (h : decide (134217728 < zK (L2.map (·.2))) = false) => JA hb HO2.out HC2.out h)
  generalize decide (134217728 < zK (L2.map (·.2))) = G2 at *
  clear SC2 se hb2 r0' r1' H1
  go_wp2_with fail
  refine BY2.out.mono ?_; rintro e W1 ⟨rfl, hw⟩
  subst hw
  clear BY2
  have HBW := Vd (HB.out.trans (H2.out.mono HB.out.size))
  cases G2 with
  | true =>
   go_wp2_with fail
   go_ret
   exact ⟨rfl, HBW.out⟩
  | false =>
   have HK1 : Hid (Zg w2 L1) := Vd (OK1.out _ HBW.out (by trivial))
   have HK2 : Hid (Zg w2 L2) := Vd (OK2.out _ HBW.out (by trivial))
   have E1 := Vd (HE.out.of_below HBW.out Vf)
   obtain ⟨W1, hW1⟩ : ∃ W1, W1 = w2 := ⟨_, rfl⟩
   rw [<- hW1] at HK1 HK2 E1 HBW H2 ⊢
   clear hW1 OK1 OK2
   have k1 := HKQ1.out.below H2.out
   have k2 := HKQ2.out.below H2.out
   rw [HN1.out] at k1
   rw [HN2.out] at k2
   have HK1W := Vd k1
   have HK2W := Vd k2
   have q0 := k1.blk.c 0 _ rfl
   have BG1 := Vd (Jz dp1 W1)
   clear k1 k2 HKQ1 HKQ2 H2
   go_wp2_with fail
   refine BG1.out.mono ?_; rintro e w3 ⟨qa, rfl, sa, b3, _⟩
   have BG2 := Vd (Jz dp2 w3)
   have r0 := (HK2W.out.below b3).blk.c 0 _ rfl
   have SA := Vd sa
   have B3 := Vd b3
   clear BG1 q0 sa b3
   obtain ⟨va, hva⟩ : ∃ va, va = jI qa := ⟨_, rfl⟩
   have HVA := Vd hva.symm
   rw [<- hva]
   clear hva
   go_wp2_with fail
   refine BG2.out.mono ?_; rintro e w4 ⟨qb, rfl, sb, b4, _⟩
   have T0 : Hid (TwoP W1 qa qb 0 0 w4) := Vd ⟨⟨fun q e => by
    obtain ⟨a, b, c, d⟩ := SA.out.at_ q e
    exact ⟨a.below b4, b, c, d⟩⟩, ⟨fun q e => by
    obtain ⟨a, b, c, d⟩ := sb.at_ q e
    exact ⟨a.low B3.out.size, b, c, d⟩⟩, fun q q' e e' g o o' => by
    have l1 := ((SA.out.at_ q e).1.lo o).2
    have l2 := ((sb.at_ q' e').1.lo o').1
    omega, B3.out.trans (b4.mono B3.out.size)⟩
   obtain ⟨vb, hvb⟩ : ∃ vb, vb = jI qb := ⟨_, rfl⟩
   have HVB := Vd hvb.symm
   rw [<- hvb]
   have KW : Hid (∀ V, Below W1.heap.size W1 V -> V.cell? ⟨w.heap.size, 1, none⟩ = some (.slice A1 n1 c1) /\ V.cell? ⟨w.heap.size + 1, 1, none⟩ = some (.slice A2 n2 c2)) := Vd (fun V hV => ⟨(HK1W.out.below hV).blk.c 1 _ rfl, (HK2W.out.below hV).blk.c 1 _ rfl⟩)
   clear hvb BG2 r0 sb b4 SA B3 HK1W HK2W
   go_wp2_with fail
   go_loopw [9] (fun s9 wr => ∃ (i : Nat) (qa' qb' : Option Pr), (i <= n1 \/ i <= n2) /\ s9 = .int .i64 (i : Int) /\ Hid (TwoP W1 qa' qb' i i wr) /\ Hid (jI qa' = va) /\ Hid (jI qb' = vb)) (fun s9 _ => n1 + n2 - (intOf s9).toNat)
   case atStart => exact ⟨0, qa, qb, Or.inl (Nat.zero_le _), rfl, T0, HVA, HVB⟩
   case round =>
    clear T0 HVA HVB
    obtain ⟨i, qa, qb, hi, rfl, hT, hS1, hS2⟩ := hrel
    obtain ⟨y1, y2⟩ := KW.out wr hT.out.bel
    have z1 := HZ1.out
    have z2 := HZ2.out
    by_cases any : i < n1 \/ i < n2
    ·go_upto_region 8 with fail
     go_cut [47] from 36 to 46 (fun s47 wx => s47 = .bool true /\ wx = wr)
     case first =>
      by_cases l1 : i < n1
      ·have p1 : (i : Int) < (n1 : Int) := by omega
       clear hT hS1 hS2
       go_wp2_with fail
       go_meet
       exact ⟨rfl, rfl⟩
      ·have p1 : ¬ (i : Int) < (n1 : Int) := by omega
       have p2 : (i : Int) < (n2 : Int) := by omega
       clear hT hS1 hS2
       go_wp2_with fail
       go_meet
       exact ⟨rfl, rfl⟩
     case rest =>
      obtain ⟨rfl, hwc⟩ := hcut
      rw [hwc]
      clear hwc
      go_upto_region 10 with fail
      go_cut [68] from 50 to 67 (fun s68 wx => s68 = .bool false /\ ∃ qa' : Option Pr, Hid (jI qa' = va) /\ Hid (TwoP W1 qa' qb (i + 1) i wx))
      case first =>
       by_cases l1 : i < n1
       ·have li : i < L1.length := by rw [HN1.out]; exact l1
        have p1 : (i : Int) < (n1 : Int) := by omega
        have q0 : (0 : Int) <= (i : Int) := by omega
        have tn : (i : Int).toNat = i := by omega
        have BW := HBW.out.trans (hT.out.bel.mono HBW.out.size)
        cases qa with
        | none =>
         have e : va = .pointer none := hS1.out.symm
         subst e
         have X := Vd hT.out
         clear hT BW li
         go_wp2_with fail
         go_meet
         exact ⟨rfl, none, hS1, Vd (X.out.more (Nat.le_succ _) Vf)⟩
        | some q =>
         have e : va = .pointer (some ⟨q.p, 0, none⟩) := hS1.out.symm
         subst e
         obtain ⟨ad, ea, ab, ac⟩ := vY (HS1.out.below BW Vf) i li
         obtain ⟨d1, d2, d3, d4, d5⟩ := HK1.out _ (List.getElem_mem li)
         obtain ⟨⟨rs, t⟩, hrt⟩ : ∃ a, a = L1[i] := ⟨_, rfl⟩
         rw [<- hrt] at ac d1 d2 d3 d4
         subst ea
         dsimp only at d1 d2 d3 d4
         obtain ⟨a0, a1, a2, a3, a4, a5, a6⟩ := ac
         dsimp only at a0 a1 a2 a3 a4 a5 a6
         have hh := hT.out
         obtain ⟨s1, s2, s3, s4⟩ := hh.a.at_ q rfl
         have n9 := HZ1.out
         have AC := Vd (Jy W1 E1.out q wr s1 s2 s3 hh.bel rs t d1 d2 d3 d4 (by omega))
         have HH := Vd hh
         clear hT BW li hrt s1 s2 s3 s4 hh d1 d2 d3 d4 d5
         go_wp2_with fail
         refine AC.out.mono ?_; rintro e w7 r7
         obtain ⟨rfl, q', hq', h7⟩ := HH.out.act r7
         have H7 := Vd h7
         have HQ' := Vd hq'
         clear r7 h7 hq' AC HH
         go_wp2_with fail
         go_meet
         exact ⟨rfl, some q', Vd (HQ'.out.trans hS1.out), Vd (H7.out)⟩
       ·have p1 : ¬ (i : Int) < (n1 : Int) := by omega
        have X := Vd hT.out
        clear hT
        go_wp2_with fail
        go_meet
        exact ⟨rfl, _, hS1, Vd (X.out.more (Nat.le_succ _) Vf)⟩
      case rest =>
       obtain ⟨rfl, qa', hS1', hT'⟩ := hcut
       obtain ⟨wd, hwd⟩ : ∃ wd, wd = wc := ⟨_, rfl⟩
       rw [<- hwd] at hT' ⊢
       clear hT hS1 hwd y1 y2
       obtain ⟨y1, y2⟩ := KW.out wd hT'.out.bel
       go_upto_region 12 with fail
       go_cut [87] from 69 to 86 (fun s87 wx => s87 = .bool false /\ ∃ qb' : Option Pr, Hid (jI qb' = vb) /\ Hid (TwoP W1 qa' qb' (i + 1) (i + 1) wx))
       case first =>
        by_cases l2 : i < n2
        ·have li : i < L2.length := by rw [HN2.out]; exact l2
         have p1 : (i : Int) < (n2 : Int) := by omega
         have q0 : (0 : Int) <= (i : Int) := by omega
         have tn : (i : Int).toNat = i := by omega
         have BW := HBW.out.trans (hT'.out.bel.mono HBW.out.size)
         cases qb with
         | none =>
          have e : vb = .pointer none := hS2.out.symm
          subst e
          have X := Vd hT'.out
          clear hT' BW li
          go_wp2_with fail
          go_meet
          exact ⟨rfl, none, hS2, Vd (X.out.more Vf (Nat.le_succ _))⟩
         | some q =>
          have e : vb = .pointer (some ⟨q.p, 0, none⟩) := hS2.out.symm
          subst e
          obtain ⟨ad, ea, ab, ac⟩ := vY (HS2.out.below BW Vf) i li
          obtain ⟨d1, d2, d3, d4, d5⟩ := HK2.out _ (List.getElem_mem li)
          obtain ⟨⟨rs, t⟩, hrt⟩ : ∃ a, a = L2[i] := ⟨_, rfl⟩
          rw [<- hrt] at ac d1 d2 d3 d4
          subst ea
          dsimp only at d1 d2 d3 d4
          obtain ⟨a0, a1, a2, a3, a4, a5, a6⟩ := ac
          dsimp only at a0 a1 a2 a3 a4 a5 a6
          have hh := hT'.out.swap
          obtain ⟨s1, s2, s3, s4⟩ := hh.a.at_ q rfl
          have n9 := HZ2.out
          have AC := Vd (Jy W1 E1.out q wd s1 s2 s3 hh.bel rs t d1 d2 d3 d4 (by omega))
          have HH := Vd hh
          clear hT' BW li hrt s1 s2 s3 s4 hh d1 d2 d3 d4 d5
          go_wp2_with fail
          refine AC.out.mono ?_; rintro e w7 r7
          obtain ⟨rfl, q', hq', h7⟩ := HH.out.act r7
          have H7 := Vd h7
          have HQ' := Vd hq'
          clear r7 h7 hq' AC HH
          go_wp2_with fail
          go_meet
          exact ⟨rfl, some q', Vd (HQ'.out.trans hS2.out), Vd (H7.out.swap)⟩
        ·have p1 : ¬ (i : Int) < (n2 : Int) := by omega
         have X := Vd hT'.out
         clear hT'
         go_wp2_with fail
         go_meet
         exact ⟨rfl, _, hS2, Vd (X.out.more Vf (Nat.le_succ _))⟩
       case rest =>
        obtain ⟨rfl, qb', hS2', hT2⟩ := hcut
        obtain ⟨wf, hwf⟩ : ∃ wf, wf = wc := ⟨_, rfl⟩
        rw [<- hwf] at hT2 ⊢
        clear hT' hS2 hwf y1 y2
        have wk := Ve ((i : Int) + 1) (by omega)
        go_wp2_with fail
        go_roundw
        case rel => exact ⟨i + 1, qa', qb', by omega, by go_num, hT2, hS1', hS2'⟩
        case measure => simp [intOf]; omega
    ·have p1 : ¬ (i : Int) < (n1 : Int) := by omega
     have p2 : ¬ (i : Int) < (n2 : Int) := by omega
     go_upto_region 14 with fail
     clear y1 y2 p1 p2
     cases qa with
     | none =>
      have e : va = .pointer none := hS1.out.symm
      subst e
      cases qb with
      | none =>
       have e : vb = .pointer none := hS2.out.symm
       subst e
       have BZ := Vd (hT.out.bel)
       have WK := Vd (kP wr (E1.out.of_below BZ.out Vf))
       have BF := Vd (HBW.out.trans (BZ.out.mono HBW.out.size))
       go_wp2_with fail
       refine WK.out.mono ?_; rintro e W13 ⟨rfl, b13⟩
       have HBF := Vd (BF.out.trans (b13.mono BF.out.size))
       clear b13 WK
       go_wp2_with fail
       go_ret
       exact ⟨by rfl, HBF.out⟩
      | some q2 =>
       have e : vb = .pointer (some ⟨q2.p, 0, none⟩) := hS2.out.symm
       subst e
       obtain ⟨s1, s2, s3, s4⟩ := hT.out.b.at_ q2 rfl
       have FR2 := Vd (Zf W1.heap.size q2 wr s1 s3 (by omega) hT.out.bel.size)
       clear s1 s2 s3 s4
       go_wp2_with fail
       refine FR2.out.mono ?_; rintro e w8 ⟨rfl, c8⟩
       have T8 := Vd (hT.out.swap.fresh c8)
       clear c8 FR2
       have BZ := Vd (T8.out.bel)
       have WK := Vd (kP w8 (E1.out.of_below BZ.out Vf))
       have BF := Vd (HBW.out.trans (BZ.out.mono HBW.out.size))
       go_wp2_with fail
       refine WK.out.mono ?_; rintro e W13 ⟨rfl, b13⟩
       have HBF := Vd (BF.out.trans (b13.mono BF.out.size))
       clear b13 WK
       go_wp2_with fail
       go_ret
       exact ⟨by rfl, HBF.out⟩
     | some q =>
      have e : va = .pointer (some ⟨q.p, 0, none⟩) := hS1.out.symm
      subst e
      obtain ⟨s1, s2, s3, s4⟩ := hT.out.a.at_ q rfl
      have FR1 := Vd (Zf W1.heap.size q wr s1 s3 (by omega) hT.out.bel.size)
      clear s1 s2 s3 s4
      cases qb with
      | none =>
       have e : vb = .pointer none := hS2.out.symm
       subst e
       go_wp2_with fail
       refine FR1.out.mono ?_; rintro e w7 ⟨rfl, c7⟩
       have T7 := Vd (hT.out.fresh c7)
       clear c7 FR1
       have BZ := Vd (T7.out.bel)
       have WK := Vd (kP w7 (E1.out.of_below BZ.out Vf))
       have BF := Vd (HBW.out.trans (BZ.out.mono HBW.out.size))
       go_wp2_with fail
       refine WK.out.mono ?_; rintro e W13 ⟨rfl, b13⟩
       have HBF := Vd (BF.out.trans (b13.mono BF.out.size))
       clear b13 WK
       go_wp2_with fail
       go_ret
       exact ⟨by rfl, HBF.out⟩
      | some q2 =>
       have e : vb = .pointer (some ⟨q2.p, 0, none⟩) := hS2.out.symm
       subst e
       go_wp2_with fail
       refine FR1.out.mono ?_; rintro e w7 ⟨rfl, c7⟩
       have T7 := Vd (hT.out.fresh c7)
       obtain ⟨s1, s2, s3, s4⟩ := T7.out.b.at_ q2 rfl
       have FR2 := Vd (Zf W1.heap.size q2 w7 s1 s3 (by omega) T7.out.bel.size)
       clear s1 s2 s3 s4 c7 FR1
       go_wp2_with fail
       refine FR2.out.mono ?_; rintro e w8 ⟨rfl, c8⟩
       have T8 := Vd (T7.out.swap.fresh c8)
       clear c8 FR2
       have BZ := Vd (T8.out.bel)
       have WK := Vd (kP w8 (E1.out.of_below BZ.out Vf))
       have BF := Vd (HBW.out.trans (BZ.out.mono HBW.out.size))
       go_wp2_with fail
       refine WK.out.mono ?_; rintro e W13 ⟨rfl, b13⟩
       have HBF := Vd (BF.out.trans (b13.mono BF.out.size))
       clear b13 WK
       go_wp2_with fail
       go_ret
       exact ⟨by rfl, HBF.out⟩
end
end
end Go.Proofs.YtifoijbpbigaaaaGreatDoor
