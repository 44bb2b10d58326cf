/- A tape is played: At. -/
import Derived.Test.YtmaofighbpnbiaaGreatDoorYTqI
namespace Go.Proofs.YtmaofighbpnbiaaGreatDoor
open Go Go.RowKit Go.Sort
set_option linter.unusedVariables false
set_option linter.unusedSimpArgs false
section
def AtR (V : World) (t : Trm) (e : Ending) (w' : World) : Prop := ∃ A c, e = .returned (.tuple #[scrV (seenT t) A c, .int .i64 0]) ∧ NewRow V.heap.size 79 5 (.slice A t.cells.length c) t.cells.length (celsV t.cells) w' ∧ Below V.heap.size V w'
set_option maxHeartbeats 16000000 in
set_option maxRecDepth 100000 in
theorem t_PAt {W3 V : World} {pb : Nat} {w h : Int} {F : List Frm} {ev : Nat} (P : PlayAt W3 pb w h F ev V) (sz : sizedB w h = true) (ht : timedF 0 F = true) (rng : ∀ f ∈ F, Byt f.bs) (lbs : ∀ f ∈ F, f.bs.length ≤ 1048576) (tot : (F.flatMap (·.bs)).length ≤ 268435456) (fl : F.length ≤ 16384) (time : Int) (h0 : 0 ≤ time) (h1 : time ≤ 1099511627776) :
  Calls Tryz.prog 28 #[.pointer (some ⟨pb, 0, none⟩), .int .i64 time] V (AtR V (playT w h (F.take (uptoL F time)))) := by
 have hmf : ∀ (fn : Fn) (first cap : Array Value) (w : World), (Instr.makeFunc fn first cap).run Tryz.prog w = .ok (.func fn first cap) w := fun _ _ _ _ => rfl
 obtain ⟨Q, hQ⟩ : ∃ Q, Q = ((V.alloc (.cells #[.pointer (some ⟨pb, 0, none⟩)] 40)).alloc (.cells #[.int .i64 time] 2)).alloc (.cells #[.int .i64 0, .int .i64 0, .slice none 0 0, .int .i64 0, .int .i64 0, .bool false] 51) := ⟨_, rfl⟩
 have AQ := atQ V (some ⟨pb, 0, none⟩) time
 rw [← hQ] at AQ
 have PQ := P.below AQ.bel
 obtain ⟨Af, cf, L, kb, vk, T, e1, e2, e3, e4, e5, e6, e7, e8, e9⟩ := PQ
 obtain ⟨n, hn⟩ : ∃ n, n = F.length := ⟨_, rfl⟩
 have nL : n = L.length := by rw [hn, ← e1, frms_len]
 obtain ⟨n1, hn1⟩ : ∃ n1, n1 = uptoL F time := ⟨_, rfl⟩
 have n1l : n1 ≤ n := by rw [hn1, hn]; exact upto_le F time
 obtain ⟨k, hk⟩ : ∃ k, k = n1 / ev := ⟨_, rfl⟩
 have kl : k < kb.length := by rw [e7, ← hn, hk]; have := Nat.div_le_div_right (c := ev) n1l; omega
 obtain ⟨lo, hlo⟩ : ∃ lo, lo = k * ev := ⟨_, rfl⟩
 have lol : lo ≤ n1 := by rw [hlo, hk]; exact Nat.div_mul_le_self n1 ev
 rw [← nL] at e3
 obtain ⟨Ak, kc, evk⟩ := own_slc e4
 subst evk
 obtain ⟨nk, hnk⟩ : ∃ nk, nk = kb.length := ⟨_, rfl⟩
 have nkl : nk ≤ 20000 := by have := Nat.div_le_self F.length ev; omega
 have FDQ := e2.below e5.bel (Nat.le_refl _)
 have capL : n ≤ cf := by rw [nL]; exact e2.cap
 have c2 := AQ.b2.c 0 _ rfl
 have c3 := AQ.b3.c 0 _ rfl
 have SE := Lib.hid (t_psearch V.heap.size (V.heap.size + 1) pb n cf Af ev (.slice Ak kb.length kc) time F Q e3 c2 c3 hn (by omega) ht (fun i hi => by
  have hiL : i < L.length := by omega
  obtain ⟨ad, ea, _, z1, _⟩ := FDQ.at i hiL
  refine ⟨ad, ea, ?_⟩
  rw [z1]
  subst e1
  rw [frms_get L i hiL]))
 rw [← hn1] at SE
 have p0 := e3.c 0 _ rfl
 have HQ := Lib.hid hQ
 have HAQ := Lib.hid AQ
 rw [← hn1]
 -- what is there behind the search
 have ST : Hid (∀ V2, Below Q.heap.size Q V2 → (Bk V2 pb [.slice Af n cf, .int .i64 (ev : Int), .slice Ak nk kc] 92) ∧ V2.cell? ⟨V.heap.size, 0, none⟩ = some (.pointer (some ⟨pb, 0, none⟩)) ∧ (∃ gk, Ak = some ⟨gk, 0, none⟩ ∧ V2.cell? ⟨gk, k, none⟩ = some (.pointer (some ⟨kb[k], 0, none⟩))) ∧ Calls Tryz.prog 54 #[.pointer (some ⟨kb[k], 0, none⟩)] V2 (fun e w' => ∃ nb, e = .returned (.pointer (some ⟨nb, 0, none⟩)) ∧ St V2 [] nb (playT w h (F.take lo)) w')) := Lib.hid (fun V2 hb => by
  have R := own_callF e4 hb
  refine ⟨by rw [hnk]; exact e3.of_eq (hb.block _ e3.lt), (AQ.b2.of_eq (hb.block _ AQ.b2.lt)).c 0 _ rfl, ?_, ?_⟩
  ·rcases R.2 with ⟨z, y⟩ | ⟨gk, cap, cur, z, _, eg, _, _, _, y⟩
   ·omega
   ·cases z
    refine ⟨gk, rfl, ?_⟩
    have := R.cells (g := gk) rfl k (ptrV kb[k]) (by rw [List.getElem?_map, List.getElem?_eq_getElem kl]; rfl)
    rw [Addr.add_lit, Nat.zero_add] at this
    exact this
  ·obtain ⟨i, hi⟩ := e6 k kl
   obtain ⟨F0, g1, up, _⟩ := (e5.below hb).at hi
   rw [← hlo] at g1
   obtain ⟨Lv, hl⟩ := play_live (w := w) (h := h) sz rng lo
   exact t_Clone g1 Lv.fine Lv.st.kept Lv.reps (by omega))
 have FRD : Hid (∀ V2, Below Q.heap.size Q V2 → FrsD V2 V2.heap.size Af cf L) := Lib.hid (fun V2 hb => (FDQ.below hb e5.bel.size).more (Nat.le_trans e5.bel.size hb.size))
 generalize hkk : kb[k] = kk at ST
 have dv : Int.tdiv (n1 : Int) (ev : Int) = (k : Int) := by rw [Int.tdiv_eq_ediv_of_nonneg (by omega), hk]; simp
 have ne0 : ¬ (ev : Int) = 0 := by omega
 have q0 : (0 : Int) ≤ (k : Int) := by omega
 have q5 : (k : Int) < (nk : Int) := by omega
 have tn : (k : Int).toNat = k := by omega
 have wk : IntKind.i64.wrap (k : Int) = (k : Int) := IntWalk.i64_in _ (by omega)
 have ml : (k : Int) * (ev : Int) = (lo : Int) := by rw [hlo]; simp
 have nb16 : n ≤ 16384 := by omega
 have t0 : ¬ time < 0 := by omega
 have t1 : ¬ 1099511627776 < time := by omega
 have HE1 := Lib.hid e1
 have HNL := Lib.hid nL
 have HN := Lib.hid hn
 clear hkk
 clear hQ AQ e1 e2 e3 e4 e5 e6 e7 e8 e9 nL hn1 hk hlo hnk FDQ P hn kl fl
 go_enter Tryz.func28, Tryz.ntmps28
 go_upto_region 1 with fail
 rw [← HQ.out]
 go_wp2_with fail
 refine SE.out.mono ?_; rintro e V2 ⟨rfl, q, hV2⟩
 have BV := Lib.hid (show Below Q.heap.size Q V2 by rw [hV2]; exact below_drewN (Below.refl _ Q) q)
 clear hV2 SE
 obtain ⟨b0, b1, ⟨gk, rfl, b2'⟩, CL⟩ := ST.out V2 BV.out
 have x0 := b0.c 0 _ rfl
 have x1 := b0.c 1 _ rfl
 have x2 := b0.c 2 _ rfl
 have CL := Lib.hid CL
 have HB0 := Lib.hid b0
 have HB1 := Lib.hid (HAQ.out.b2.of_eq (BV.out.block _ HAQ.out.b2.lt))
 clear b0 ST
 go_wp2_with fail
 refine CL.out.mono ?_; rintro e V3 ⟨nb, rfl, S3⟩
 have B3 := old_mv S3.mv
 obtain ⟨U, hU⟩ : ∃ U, U = V3.drew := ⟨_, rfl⟩
 have BU : Below V3.heap.size V3 U := by rw [hU]; exact (Below.refl _ V3).drew
 have HS := Lib.hid (S3.below BU)
 have KP3 := HB0.out.of_eq (B3.block _ HB0.out.lt)
 have KB3 := HB1.out.of_eq (B3.block _ HB1.out.lt)
 have y0 := KP3.c 0 _ rfl
 have y1 := KP3.c 1 _ rfl
 have y2 := KB3.c 0 _ rfl
 have KPU := KP3.of_eq (BU.block _ KP3.lt)
 have KBU := KB3.of_eq (BU.block _ KB3.lt)
 have u0 := KPU.c 0 _ rfl
 have u1 := KPU.c 1 _ rfl
 have u2 := KBU.c 0 _ rfl
 have HU := Lib.hid hU
 obtain ⟨m, hm⟩ : ∃ m, m = n1 - lo := ⟨_, rfl⟩
 have HM := Lib.hid hm
 have em : n1 - lo = m := hm.symm
 have mb16 : m ≤ 16384 := by omega
 clear hm
 clear CL S3 B3 BU KP3 KB3 KPU KBU hU x0 x1 x2 b1 b2' c2 p0
 go_upto_region 8 with fail
 go_cut [53, 54, 55] from 42 to 55 (fun s53 s54 s55 wx => ∃ SA sc, s53 = .slice SA m sc ∧ s54 = .int .i64 (m : Int) ∧ s55 = .int .i64 0 ∧ Hid (0 < m → SA = Af.map (fun a => a.add (lo * 2))) ∧ wx = U)
 case first =>
  by_cases cl : cf = lo
  ·obtain rfl : n1 = lo := by omega
   obtain rfl : n = n1 := by omega
   obtain rfl : cf = n := by omega
   obtain rfl : m = 0 := by omega
   clear cl capL n1l lol em
   go_region
   rw [← HU.out]
   go_wp2_with fail
   go_meet
   exact ⟨_, _, rfl, rfl, rfl, Lib.hid (fun z => absurd z (Nat.lt_irrefl 0)), rfl⟩
  ·go_region
   rw [← HU.out]
   go_wp2_with fail
   go_meet
   exact ⟨_, _, rfl, rfl, rfl, Lib.hid (fun _ => rfl), rfl⟩
 case rest =>
  obtain ⟨SA, sc, rfl, rfl, rfl, hsa, hwx⟩ := hcut
  rw [hwx]
  clear hwx y0 y1 y2 u0 u1 u2 em
  have S0 : Hid (St V2 [] nb (playT w h (F.take (lo + 0))) U) := HS
  go_wp2_with fail
  go_loopw [55] (fun s55 wr => ∃ (j : Nat), j ≤ m ∧ s55 = .int .i64 (j : Int) ∧ Hid (St V2 [] nb (playT w h (F.take (lo + j))) wr)) (fun s55 _ => m - (intOf s55).toNat)
  case atStart => exact ⟨0, Nat.zero_le _, rfl, S0⟩
  case round =>
   obtain ⟨j, hj, rfl, he⟩ := hrel
   clear S0 HS
   by_cases lt : j < m
   ·have idx : lo + j < F.length := by have := HM.out; have := HN.out; omega
    have iL : lo + j < L.length := by rw [← HNL.out, HN.out]; exact idx
    have F2 := FRD.out V2 BV.out
    obtain ⟨ad, ea, lb, z1, z2⟩ := (F2.below (old_mv he.out.mv) (Nat.le_refl _)).at (lo + j) iL
    have es : SA = some (ad.add (lo * 2)) := by rw [hsa.out (by omega), ea]; rfl
    subst es
    have AR := F2.arg (lo + j) iL
    have GT : (F[lo + j]).bs = (L[lo + j]).b.bs := by
     have := frms_get L (lo + j) iL
     have e := HE1.out
     subst e
     rw [this]
    rw [show (lo + j) * 2 = lo * 2 + j * 2 by omega, ← add_plus] at z1 z2
    have NXT := Lib.hid (play_next w h F (lo + j) idx)
    have LBX := Lib.hid (lbs _ (List.getElem_mem idx))
    generalize ad.add (lo * 2) = ab at *
    generalize L[lo + j] = x at *
    obtain ⟨xt, xA, xc, bs⟩ := x
    dsimp only at z1 z2 AR GT
    have q0 : (0 : Int) ≤ (j : Int) := by omega
    have q5 : (j : Int) < (m : Int) := by omega
    have tn : (j : Int).toNat = j := by omega
    have wk : IntKind.i64.wrap ((j : Int) + 1) = (j : Int) + 1 := IntWalk.i64_in _ (by omega)
    obtain ⟨Q5, hQ5⟩ : ∃ Q5, Q5 = wr.alloc (.cells #[.int .i64 xt, .slice xA bs.length xc] 47) := ⟨_, rfl⟩
    have hb5 : Below wr.heap.size wr Q5 := by rw [hQ5]; exact (Below.refl _ wr).alloc (Nat.le_refl _) _
    have K5 : Bk Q5 wr.heap.size [.int .i64 xt, .slice xA bs.length xc] 47 := by rw [hQ5]; exact Bk.new wr _ _
    have b1 := K5.c 1 _ rfl
    obtain ⟨Lv, hl⟩ := play_live (w := w) (h := h) sz rng (lo + j)
    have FE := arg_feed AR (he.out.below hb5) Lv (by rw [← GT]; exact LBX.out) (by rw [← GT]; have := LBX.out; omega)
    rw [← GT, NXT.out, GT] at FE
    have FE := Lib.hid FE
    have HQ5 := Lib.hid hQ5
    clear F2 lb AR GT hb5 K5 hQ5 he Lv hl ea
    go_upto_region 11 with fail
    rw [← HQ5.out]
    clear HQ5 z1 z2
    go_wp2_with fail
    refine FE.out.mono ?_; rintro e w6 ⟨rfl, S6⟩
    have S6 := Lib.hid (show St V2 [] nb (playT w h (F.take (lo + (j + 1)))) w6 from S6)
    clear FE
    go_wp2_with fail
    go_roundw
    case rel => exact ⟨j + 1, by omega, by go_num, S6⟩
    case measure => simp [intOf]; omega
   ·have e : j = m := by omega
    subst e
    have q5 : ¬ (j : Int) < (j : Int) := by omega
    obtain ⟨t, ht'⟩ : ∃ t, t = playT w h (F.take n1) := ⟨_, rfl⟩
    have SF : St V2 [] nb t wr := by rw [ht', show n1 = lo + j by have := HM.out; omega]; exact he.out
    have Lv := (play_live (w := w) (h := h) sz rng n1).1
    rw [← ht'] at Lv
    have HTT := Lib.hid ht'
    have SC := Lib.hid (t_Screen SF Lv.fine)
    have BW := old_mv SF.mv
    have K4 := (HAQ.out.b4.of_eq (BV.out.block _ HAQ.out.b4.lt))
    have K4w := K4.of_eq (BW.block _ K4.lt)
    have HK4 := Lib.hid K4w
    have HBW := Lib.hid (show Below V.heap.size V wr from (HAQ.out.bel.trans (BV.out.mono HAQ.out.bel.size)).trans (BW.mono (Nat.le_trans HAQ.out.bel.size BV.out.size)))
    clear he SF Lv BW K4 K4w ht' hsa
    go_wp2_with fail
    refine SC.out.mono ?_; rintro e w9 ⟨A9, c9, rfl, N9, B9⟩
    have K9 := HK4.out.of_eq (B9.block _ HK4.out.lt)
    have k0 := K9.c 0 _ rfl
    have f0 := K9.f 0
    have k1 := K9.c 1 _ rfl
    have f1 := K9.f 1
    have k2 := K9.c 2 _ rfl
    have f2 := K9.f 2
    have k3 := K9.c 3 _ rfl
    have f3 := K9.f 3
    have k4 := K9.c 4 _ rfl
    have f4 := K9.f 4
    have k5 := K9.c 5 _ rfl
    have f5 := K9.f 5
    have EN : Hid (∀ a b c d e f : Value, AtR V (playT w h (F.take n1)) (.returned (.tuple #[scrV (seenT t) A9 c9, .int .i64 0])) (six w9 (V.heap.size + 1 + 1) a b c d e f)) := Lib.hid (fun a b c d e f => by
     rw [← HTT.out]
     have fr := (six_far w9 (V.heap.size + 1 + 1) a b c d e f).1
     refine ⟨A9, c9, rfl, ⟨N9.1.keep (fun g mg => fr g (fun z => ?_)), fun g mg => by have := N9.2 g mg; have := HBW.out.size; omega⟩, six_below (HBW.out.trans (B9.mono HBW.out.size)) (by omega) a b c d e f⟩
     have g1 := N9.2 g mg
     have g2 := HK4.out.lt
     omega)
    clear N9 B9 K9 SC
    unfold scrV at EN ⊢
    go_wp2_with fail
    refine bodyPost_ret (v := .tuple #[.agg #[.int .i64 (seenT t).w, .int .i64 (seenT t).h, .slice A9 (seenT t).cells.length c9, .int .i64 (seenT t).x, .int .i64 (seenT t).y, .bool (seenT t).shown], .int .i64 0]) (by rw [results_c1 rfl]; go_simp) rfl ?_
    exact EN.out _ _ _ _ _ _
end
end Go.Proofs.YtmaofighbpnbiaaGreatDoor
