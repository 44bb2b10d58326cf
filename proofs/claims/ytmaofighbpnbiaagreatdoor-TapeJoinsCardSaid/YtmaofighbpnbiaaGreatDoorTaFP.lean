/- What lies below tapes (kept of earlier texts: TqJ, TqK, TpR, TrF, TpS, TqW, TrQ, TqM, TqT, TqZ). -/
import Derived.Test.YtmaofighbpnbiaaGreatDoorTaFO
import Derived.Lib.SlBytesConst
set_option linter.unusedVariables false
set_option linter.unusedSimpArgs false
namespace Go.Proofs.YtmaofighbpnbiaaGreatDoor
section
open Go Go.RowKit Go.Sort
section
def AtR (V : World) (t : Trm) (e : Ending) (w' : World) : Prop := ∃ A c, e = .returned (.tuple #[scrV (zY t) A c, .int .i64 0]) /\ NewRow V.heap.size 79 5 (.slice A t.cells.length c) t.cells.length (ze t.cells) w' /\ Below V.heap.size V w'
set_option maxHeartbeats 16000000 in
set_option maxRecDepth 100000 in
theorem t_PAt {W3 V : World} {pb : Nat} {w h : Int} {F : List Frm} {ev : Nat} (P : PlayAt W3 pb w h F ev V) (sz : qc w h = true) (ht : zG 0 F = true) (rng : ∀ f ∈ F, Byt f.bs) (lbs : ∀ f ∈ F, f.bs.length <= 1048576) (tot : (F.flatMap (·.bs)).length <= 268435456) (fl : F.length <= 16384) (time : Int) (h0 : 0 <= time) (h1 : time <= 1099511627776) :
  Calls Tryz.prog 28 #[.pointer (some ⟨pb, 0, none⟩), .int .i64 time] V (AtR V (z6 w h (F.take (xp F time)))) := by
 have hmf : ∀ (fn : Fn) (first cap : Array Value) (w : World), (Instr.makeFunc fn first cap).run Tryz.prog w = .ok (.func fn first cap) w := fun _ _ _ _ => rfl
 obtain ⟨Q, hQ⟩ : ∃ Q, Q = ((V.alloc (.cells #[.pointer (some ⟨pb, 0, none⟩)] 40)).alloc (.cells #[.int .i64 time] 2)).alloc (.cells #[.int .i64 0, .int .i64 0, .slice none 0 0, .int .i64 0, .int .i64 0, .bool false] 51) := ⟨_, rfl⟩
 have AQ := atQ V (some ⟨pb, 0, none⟩) time
 rw [<- hQ] at AQ
 have PQ := P.below AQ.bel
 obtain ⟨Af, cf, L, kb, vk, T, e1, e2, e3, e4, e5, e6, e7, e8, e9⟩ := PQ
 obtain ⟨n, hn⟩ : ∃ n, n = F.length := ⟨_, rfl⟩
 have nL : n = L.length := by rw [hn, <- e1, zU]
 obtain ⟨n1, hn1⟩ : ∃ n1, n1 = xp F time := ⟨_, rfl⟩
 have n1l : n1 <= n := by rw [hn1, hn]; exact upto_le F time
 obtain ⟨k, hk⟩ : ∃ k, k = n1 / ev := ⟨_, rfl⟩
 have kl : k < kb.length := by rw [e7, <- hn, hk]; have := Nat.div_le_div_right (c := ev) n1l; omega
 obtain ⟨lo, hlo⟩ : ∃ lo, lo = k * ev := ⟨_, rfl⟩
 have lol : lo <= n1 := by rw [hlo, hk]; exact Nat.div_mul_le_self n1 ev
 rw [<- nL] at e3
 obtain ⟨Ak, kc, evk⟩ := qY e4
 subst evk
 obtain ⟨nk, hnk⟩ : ∃ nk, nk = kb.length := ⟨_, rfl⟩
 have nkl : nk <= 20000 := by have := Nat.div_le_self F.length ev; omega
 have FDQ := e2.below e5.bel zdZ
 have capL : n <= cf := by rw [nL]; exact e2.cap
 have c2 := AQ.b2.c 0 _ rfl
 have c3 := AQ.b3.c 0 _ rfl
 have SE := zdX (zdO V.heap.size (V.heap.size + 1) pb n cf Af ev (.slice Ak kb.length kc) time F Q e3 c2 c3 hn (by omega) ht (fun i hi => by
  have hiL : i < L.length := by omega
  obtain ⟨ad, ea, _, z1, _⟩ := FDQ.at i hiL
  refine ⟨ad, ea, ?_⟩
  rw [z1]
  subst e1
  rw [jQ L i hiL]))
 rw [<- hn1] at SE
 have p0 := e3.c 0 _ rfl
 have HQ := zdX hQ
 have HAQ := zdX AQ
 rw [<- hn1]
 -- what is there behind the search
 have ST : Hid (∀ V2, Below Q.heap.size Q V2 -> (Bk V2 pb [.slice Af n cf, .int .i64 (ev : Int), .slice Ak nk kc] 92) /\ V2.cell? ⟨V.heap.size, 0, none⟩ = some (.pointer (some ⟨pb, 0, none⟩)) /\ (∃ gk, Ak = some ⟨gk, 0, none⟩ /\ V2.cell? ⟨gk, k, none⟩ = some (.pointer (some ⟨kb[k], 0, none⟩))) /\ Calls Tryz.prog 54 #[.pointer (some ⟨kb[k], 0, none⟩)] V2 (fun e w' => ∃ nb, e = .returned (.pointer (some ⟨nb, 0, none⟩)) /\ St V2 [] nb (z6 w h (F.take lo)) w')) := zdX (fun V2 hb => by
  have R := zV e4 hb
  refine ⟨by rw [hnk]; exact e3.of_eq (hb.block _ e3.lt), (AQ.b2.of_eq (hb.block _ AQ.b2.lt)).c 0 _ rfl, ?_, ?_⟩
  ·rcases R.2 with ⟨z, y⟩ | ⟨gk, cap, cur, z, _, eg, _, _, _, y⟩
   ·omega
   ·cases z
    refine ⟨gk, rfl, ?_⟩
    have := R.cells (g := gk) rfl k (ptrV kb[k]) (by rw [List.getElem?_map, List.getElem?_eq_getElem kl]; rfl)
    rw [Addr.add_lit, Nat.zero_add] at this
    exact this
  ·obtain ⟨i, hi⟩ := e6 k kl
   obtain ⟨F0, g1, up, _⟩ := (e5.below hb).at hi
   rw [<- hlo] at g1
   obtain ⟨Lv, hl⟩ := vX (w := w) (h := h) sz rng lo
   exact zaF g1 Lv.fine Lv.st.kept Lv.reps (by omega))
 have FRD : Hid (∀ V2, Below Q.heap.size Q V2 -> FrsD V2 V2.heap.size Af cf L) := zdX (fun V2 hb => (FDQ.below hb e5.bel.size).more (Nat.le_trans e5.bel.size hb.size))
 generalize hkk : kb[k] = kk at ST
 have dv : Int.tdiv (n1 : Int) (ev : Int) = (k : Int) := by rw [Int.tdiv_eq_ediv_of_nonneg (by omega), hk]; simp
 have ne0 : ¬ (ev : Int) = 0 := by omega
 have q0 : (0 : Int) <= (k : Int) := by omega
 have q5 : (k : Int) < (nk : Int) := by omega
 have tn : (k : Int).toNat = k := by omega
 have wk : IntKind.i64.wrap (k : Int) = (k : Int) := zdY _ (by omega)
 have ml : (k : Int) * (ev : Int) = (lo : Int) := by rw [hlo]; simp
 have nb16 : n <= 16384 := by omega
 have t0 : ¬ time < 0 := by omega
 have t1 : ¬ 1099511627776 < time := by omega
 have HE1 := zdX e1
 have HNL := zdX nL
 have HN := zdX hn
 clear hkk
 clear hQ AQ e1 e2 e3 e4 e5 e6 e7 e8 e9 nL hn1 hk hlo hnk FDQ P hn kl fl
 go_enter Tryz.func28, Tryz.ntmps28
 go_upto_region 1 with fail
 rw [<- HQ.out]
 go_wp2_with fail
 refine SE.out.mono ?_; rintro e V2 ⟨rfl, q, hV2⟩
 have BV := zdX (show Below Q.heap.size Q V2 by rw [hV2]; exact below_drewN (Below.refl _ Q) q)
 clear hV2 SE
 obtain ⟨b0, b1, ⟨gk, rfl, b2'⟩, CL⟩ := ST.out V2 BV.out
 have x0 := b0.c 0 _ rfl
 have x1 := b0.c 1 _ rfl
 have x2 := b0.c 2 _ rfl
 have CL := zdX CL
 have HB0 := zdX b0
 have HB1 := zdX (HAQ.out.b2.of_eq (BV.out.block _ HAQ.out.b2.lt))
 clear b0 ST
 go_wp2_with fail
 refine CL.out.mono ?_; rintro e V3 ⟨nb, rfl, S3⟩
 have B3 := kA S3.mv
 obtain ⟨U, hU⟩ : ∃ U, U = V3.drew := ⟨_, rfl⟩
 have BU : Below V3.heap.size V3 U := by rw [hU]; exact (Below.refl _ V3).drew
 have HS := zdX (S3.below BU)
 have KP3 := HB0.out.of_eq (B3.block _ HB0.out.lt)
 have KB3 := HB1.out.of_eq (B3.block _ HB1.out.lt)
 have y0 := KP3.c 0 _ rfl
 have y1 := KP3.c 1 _ rfl
 have y2 := KB3.c 0 _ rfl
 have KPU := KP3.of_eq (BU.block _ KP3.lt)
 have KBU := KB3.of_eq (BU.block _ KB3.lt)
 have u0 := KPU.c 0 _ rfl
 have u1 := KPU.c 1 _ rfl
 have u2 := KBU.c 0 _ rfl
 have HU := zdX hU
 obtain ⟨m, hm⟩ : ∃ m, m = n1 - lo := ⟨_, rfl⟩
 have HM := zdX hm
 have em : n1 - lo = m := hm.symm
 have mb16 : m <= 16384 := by omega
 clear hm
 clear CL S3 B3 BU KP3 KB3 KPU KBU hU x0 x1 x2 b1 b2' c2 p0
 go_upto_region 8 with fail
 go_cut [53, 54, 55] from 42 to 55 (fun s53 s54 s55 wx => ∃ SA sc, s53 = .slice SA m sc /\ s54 = .int .i64 (m : Int) /\ s55 = .int .i64 0 /\ Hid (0 < m -> SA = Af.map (fun a => a.add (lo * 2))) /\ wx = U)
 case first =>
  by_cases cl : cf = lo
  ·obtain rfl : n1 = lo := by omega
   obtain rfl : n = n1 := by omega
   obtain rfl : cf = n := by omega
   obtain rfl : m = 0 := by omega
   clear cl capL n1l lol em
   go_region
   rw [<- HU.out]
   go_wp2_with fail
   go_meet
   exact ⟨_, _, rfl, rfl, rfl, zdX (fun z => absurd z (Nat.lt_irrefl 0)), rfl⟩
  ·go_region
   rw [<- HU.out]
   go_wp2_with fail
   go_meet
   exact ⟨_, _, rfl, rfl, rfl, zdX (fun _ => rfl), rfl⟩
 case rest =>
  obtain ⟨SA, sc, rfl, rfl, rfl, hsa, hwx⟩ := hcut
  rw [hwx]
  clear hwx y0 y1 y2 u0 u1 u2 em
  have S0 : Hid (St V2 [] nb (z6 w h (F.take (lo + 0))) U) := HS
  go_wp2_with fail
  go_loopw [55] (fun s55 wr => ∃ (j : Nat), j <= m /\ s55 = .int .i64 (j : Int) /\ Hid (St V2 [] nb (z6 w h (F.take (lo + j))) wr)) (fun s55 _ => m - (intOf s55).toNat)
  case atStart => exact ⟨0, Nat.zero_le _, rfl, S0⟩
  case round =>
   obtain ⟨j, hj, rfl, he⟩ := hrel
   clear S0 HS
   by_cases lt : j < m
   ·have idx : lo + j < F.length := by have := HM.out; have := HN.out; omega
    have iL : lo + j < L.length := by rw [<- HNL.out, HN.out]; exact idx
    have F2 := FRD.out V2 BV.out
    obtain ⟨ad, ea, lb, z1, z2⟩ := (F2.below (kA he.out.mv) zdZ).at (lo + j) iL
    have es : SA = some (ad.add (lo * 2)) := by rw [hsa.out (by omega), ea]; rfl
    subst es
    have AR := F2.arg (lo + j) iL
    have GT : (F[lo + j]).bs = (L[lo + j]).b.bs := by
     have := jQ L (lo + j) iL
     have e := HE1.out
     subst e
     rw [this]
    rw [show (lo + j) * 2 = lo * 2 + j * 2 by omega, <- jY] at z1 z2
    have NXT := zdX (Vi w h F (lo + j) idx)
    have LBX := zdX (lbs _ (List.getElem_mem idx))
    generalize ad.add (lo * 2) = ab at *
    generalize L[lo + j] = x at *
    obtain ⟨xt, xA, xc, bs⟩ := x
    dsimp only at z1 z2 AR GT
    have q0 : (0 : Int) <= (j : Int) := by omega
    have q5 : (j : Int) < (m : Int) := by omega
    have tn : (j : Int).toNat = j := by omega
    have wk := zdY ((j : Int) + 1) (by omega)
    obtain ⟨Q5, hQ5⟩ : ∃ Q5, Q5 = wr.alloc (.cells #[.int .i64 xt, .slice xA bs.length xc] 47) := ⟨_, rfl⟩
    have hb5 : Below wr.heap.size wr Q5 := by rw [hQ5]; exact (Below.refl _ wr).alloc zdZ _
    have K5 : Bk Q5 wr.heap.size [.int .i64 xt, .slice xA bs.length xc] 47 := by rw [hQ5]; exact Bk.new wr _ _
    have b1 := K5.c 1 _ rfl
    obtain ⟨Lv, hl⟩ := vX (w := w) (h := h) sz rng (lo + j)
    have FE := arg_feed AR (he.out.below hb5) Lv (by rw [<- GT]; exact LBX.out) (by rw [<- GT]; have := LBX.out; omega)
    rw [<- GT, NXT.out, GT] at FE
    have FE := zdX FE
    have HQ5 := zdX hQ5
    clear F2 lb AR GT hb5 K5 hQ5 he Lv hl ea
    go_upto_region 11 with fail
    rw [<- HQ5.out]
    clear HQ5 z1 z2
    go_wp2_with fail
    refine FE.out.mono ?_; rintro e w6 ⟨rfl, S6⟩
    have S6 := zdX (show St V2 [] nb (z6 w h (F.take (lo + (j + 1)))) w6 from S6)
    clear FE
    go_wp2_with fail
    go_roundw
    case rel => exact ⟨j + 1, by omega, by go_num, S6⟩
    case measure => simp [intOf]; omega
   ·have e : j = m := by omega
    subst e
    have q5 : ¬ (j : Int) < (j : Int) := by omega
    obtain ⟨t, ht'⟩ : ∃ t, t = z6 w h (F.take n1) := ⟨_, rfl⟩
    have SF : St V2 [] nb t wr := by rw [ht', show n1 = lo + j by have := HM.out; omega]; exact he.out
    have Lv := (vX (w := w) (h := h) sz rng n1).1
    rw [<- ht'] at Lv
    have HTT := zdX ht'
    have SC := zdX (t_Screen SF Lv.fine)
    have BW := kA SF.mv
    have K4 := (HAQ.out.b4.of_eq (BV.out.block _ HAQ.out.b4.lt))
    have K4w := K4.of_eq (BW.block _ K4.lt)
    have HK4 := zdX K4w
    have HBW := zdX (show Below V.heap.size V wr from (HAQ.out.bel.trans (BV.out.mono HAQ.out.bel.size)).trans (BW.mono (Nat.le_trans HAQ.out.bel.size BV.out.size)))
    clear he SF Lv BW K4 K4w ht' hsa
    go_wp2_with fail
    refine SC.out.mono ?_; rintro e w9 ⟨A9, c9, rfl, N9, B9⟩
    have K9 := HK4.out.of_eq (B9.block _ HK4.out.lt)
    have k0 := K9.c 0 _ rfl
    have f0 := K9.f 0
    have k1 := K9.c 1 _ rfl
    have f1 := K9.f 1
    have k2 := K9.c 2 _ rfl
    have f2 := K9.f 2
    have k3 := K9.c 3 _ rfl
    have f3 := K9.f 3
    have k4 := K9.c 4 _ rfl
    have f4 := K9.f 4
    have k5 := K9.c 5 _ rfl
    have f5 := K9.f 5
    have EN : Hid (∀ a b c d e f : Value, AtR V (z6 w h (F.take n1)) (.returned (.tuple #[scrV (zY t) A9 c9, .int .i64 0])) (six w9 (V.heap.size + 1 + 1) a b c d e f)) := zdX (fun a b c d e f => by
     rw [<- HTT.out]
     have fr := (zaB w9 (V.heap.size + 1 + 1) a b c d e f).1
     refine ⟨A9, c9, rfl, ⟨N9.1.keep (fun g mg => fr g (fun z => ?_)), fun g mg => by have := N9.2 g mg; have := HBW.out.size; omega⟩, zdP (HBW.out.trans (B9.mono HBW.out.size)) (by omega) a b c d e f⟩
     have g1 := N9.2 g mg
     have g2 := HK4.out.lt
     omega)
    clear N9 B9 K9 SC
    unfold scrV at EN ⊢
    go_wp2_with fail
    refine bodyPost_ret (v := .tuple #[.agg #[.int .i64 (zY t).w, .int .i64 (zY t).h, .slice A9 (zY t).cells.length c9, .int .i64 (zY t).x, .int .i64 (zY t).y, .bool (zY t).shown], .int .i64 0]) (by rw [zdN rfl]; go_simp) rfl ?_
    exact EN.out _ _ _ _ _ _
end
end
section
open Go Go.RowKit Go.Sort
section
theorem CpyR.read {W w' : World} {v : Value} {l : List Frm} (h : CpyR W w' v l) (hl : l.length <= 1000000) (tot : (l.flatMap (·.bs)).length <= 140737488355328) : ∃ (A : Option Addr) (c : Nat) (L : List FA), v = .slice A L.length c /\ frms L = l /\ FrsD w' w'.heap.size A c L := by
 rcases h.2 with ⟨rfl, rfl⟩ | ⟨g, L', hg, o, r, e, ok⟩
 ·exact ⟨none, 0, [], rfl, rfl, fun _ => rfl, zdZ, by simp, Sees.nil _ _ _, fun x m => by cases m⟩
 ·obtain ⟨A, c, ev⟩ := xu o
  have ev := xd o ev
  subst ev
  have ll : L'.length = l.length := by rw [<- e, zU]
  have FD := zaJ o (by rw [kV, ll]; exact hl) (Zx r 0 (by rw [<- JF, e]; exact tot) L' 0 [] (by simp) (fun x m => ⟨(ok x m).1, by have := ok x m; omega, by have := ok x m; omega⟩))
  exact ⟨A, c, _, rfl, by rw [vL, QS, e], FD⟩
theorem al_new : newC 3 1 alL 1 = 0 := by decide +kernel
theorem al_last : zD alL = 20 := by decide
theorem al_u15 : xp alL 15 = 1 := by decide +kernel
theorem al_u20 : xp alL 20 = 2 := by decide +kernel
theorem JG : ∀ f ∈ alL, Byt f.bs := by
 intro f m
 have : f = ⟨10, [97, 98]⟩ \/ f = ⟨20, [13, 120]⟩ := by simpa [alL] using m
 rcases this with rfl | rfl <;> (intro b mb; simp at mb; rcases mb with rfl | rfl <;> decide)
theorem EncR.open {W w' : World} {w h : Int} {l : List Frm} {e : Ending} {D : List Int} {k : Int} (h' : EncR W w h l e w') (ee : encT w h l = (D, k)) (rng : Byt D) (ln : D.length <= 1000000000) : ∃ A c, e = .returned (.tuple #[.slice A D.length c, .int .i64 k]) /\ ByteD w' w'.heap.size ⟨A, c, D⟩ /\ Below W.heap.size W w' := by
 obtain ⟨v, e1, o, b⟩ := h'
 rw [ee] at e1 o
 dsimp only at e1 o
 obtain ⟨A, c, ev⟩ := qY o
 have ev := xd o ev
 subst ev
 refine ⟨A, c, e1, ⟨fun z => ?_, ?_, by show D.length <= _; omega, Sees.of_own o, rng⟩, b⟩
 ·rcases o.2 with ⟨q, _⟩ | ⟨g, cap, cur, q, _⟩
  ·injection q with q1 q2 q3
  ·injection q with q1 q2 q3; have z : A = none := z; rw [z] at q1; cases q1
 ·rcases o.2 with ⟨q, y⟩ | ⟨g, cap, cur, q, _, _, y, _⟩
  ·show D.length <= c; omega
  ·injection q with q1 q2 q3; show D.length <= c; rw [q3]; exact y
def alA (a b : Nat) : List FA := [⟨10, ⟨some ⟨a, 0, none⟩, 2, [97, 98]⟩⟩, ⟨20, ⟨some ⟨b, 0, none⟩, 2, [13, 120]⟩⟩]
theorem zaK {w : World} {b B : Nat} {vs : List Value} {T : TypeId} {fl : Nat × Nat} (K : w.heap[b]? = some (.cells vs.toArray T fl)) (hB : b < B) : Sees w B (some ⟨b, 0, none⟩) vs := fun ne => ⟨_, rfl, hB, fun j u hj => by
 rw [Addr.add_lit, Nat.zero_add]
 simp [World.cell?, K, hj]⟩
theorem row_sees {w : World} {b B : Nat} {vs : List Value} {T : TypeId} (K : Bk w b vs T) (hB : b < B) : Sees w B (some ⟨b, 0, none⟩) vs := fun ne => ⟨_, rfl, hB, fun j u hj => by
 rw [Addr.add_lit, Nat.zero_add]
 exact K.c j u hj⟩
theorem al_frs {w : World} {a b d : Nat} {f1 f2 : Nat × Nat} (K1 : w.heap[a]? = some (.cells [Value.int .u8 97, .int .u8 98].toArray 5 f1)) (K2 : w.heap[b]? = some (.cells [Value.int .u8 13, .int .u8 120].toArray 5 f2)) (K3 : Bk w d [.int .i64 10, .slice (some ⟨a, 0, none⟩) 2 2, .int .i64 20, .slice (some ⟨b, 0, none⟩) 2 2] 47) : FrsD w w.heap.size (some ⟨d, 0, none⟩) 2 (alA a b) := by
 refine ⟨(fun z => by cases z), zdZ, by show (2 : Nat) * 32 <= _; decide, row_sees K3 K3.lt, fun x m => ?_⟩
 have : x = ⟨10, ⟨some ⟨a, 0, none⟩, 2, [97, 98]⟩⟩ \/ x = ⟨20, ⟨some ⟨b, 0, none⟩, 2, [13, 120]⟩⟩ := by simpa [alA] using m
 rcases this with rfl | rfl
 ·exact ⟨⟨(fun z => by cases z), zdZ, (by show (2 : Nat) <= _; decide), zaK K1 (Array.getElem?_eq_some_iff.1 K1).1, (by show ∀ b ∈ [(97 : Int), 98], 0 <= b /\ b < 256; decide)⟩, (by show (-9223372036854775808 : Int) <= 10; decide), (by show (10 : Int) <= _; decide)⟩
 ·exact ⟨⟨(fun z => by cases z), zdZ, (by show (2 : Nat) <= _; decide), zaK K2 (Array.getElem?_eq_some_iff.1 K2).1, (by show ∀ b ∈ [(13 : Int), 120], 0 <= b /\ b < 256; decide)⟩, (by show (-9223372036854775808 : Int) <= 20; decide), (by show (20 : Int) <= _; decide)⟩
theorem al_bb : Byt alB := enc_byt QU JG
theorem al_bl : alB.length <= 1000 := by decide +kernel
theorem zaL {w : World} {B n c : Nat} {A : Option Addr} {l : List Cel} (h : NewRow B 79 5 (.slice A n c) l.length (ze l) w) (l0 : 0 < l.length) : ∃ g, A = some ⟨g, 0, none⟩ /\ B <= g /\ g < w.heap.size /\ ∀ w' : World, w'.heap[g]? = w.heap[g]? -> ∀ k, k < l.length -> w'.cell? ⟨g, k * 5, none⟩ = some (.string (l.getD k celD).text) := by
 rcases h.1 with ⟨z, _⟩ | ⟨o, ne⟩
 ·omega
 ·rcases o.2 with ⟨_, z⟩ | ⟨g, cap, cur, z, _, e, nc, _⟩
  ·omega
  ·have z2 := z
   injection z2 with z1 z3 z4
   subst z1
   obtain ⟨c', rfl⟩ : ∃ c', c = c' + 1 := ⟨c - 1, by omega⟩
   refine ⟨g, rfl, h.2 g (by simp [ob]), (Array.getElem?_eq_some_iff.1 e).1, fun w' hw k hk => ?_⟩
   have c1 : w.cell? ⟨g, k * 5, none⟩ = some (.string (l.getD k celD).text) := by
    have := o.cells (g := g) (by simp [Value.ownBlock]) (k * 5 + 0) (.string (l.getD k celD).text) (by rw [celsV_at l k hk 0 (by decide)]; rfl)
    rw [Addr.add_lit] at this
    simpa using this
   exact (World.cell?_of_block hw).trans c1
theorem zaM (t : Trm) : (zY t).cells = t.cells := by unfold zY; split <;> rfl
theorem al_sz : qc 3 1 = true := by decide
theorem al_tm : zG 0 alL = true := by decide
theorem al_lb : ∀ f ∈ alL, f.bs.length <= 1048576 := by
 intro f m
 have : f = ⟨10, [97, 98]⟩ \/ f = ⟨20, [13, 120]⟩ := by simpa [alL] using m
 rcases this with rfl | rfl <;> (show (2 : Nat) <= _; decide)
set_option maxHeartbeats 16000000 in
set_option maxRecDepth 100000 in
theorem zdQ (W : World) (E : EnvV W) : Calls Tryz.prog 18 #[] W fun e w' => e = .returned (.bool true) /\ Below W.heap.size W w' := by
 have CV := fun (w : World) (C : Array Value) (n c : Nat) => Lib.run_convert_bytes_const (P := Tryz.prog) w 27 5 C n c Tryz.underlying27 Tryz.underlying5
 obtain ⟨Q1, h1⟩ : ∃ Q, Q = W.alloc (.cells #[.int .i64 3, .int .i64 1] 23) := ⟨_, rfl⟩
 obtain ⟨Q2, h2⟩ : ∃ Q, Q = Q1.alloc (.cells #[.int .u8 97, .int .u8 98] 5 (2, 3)) := ⟨_, rfl⟩
 obtain ⟨Q3, h3⟩ : ∃ Q, Q = Q2.alloc (.cells #[.int .u8 13, .int .u8 120] 5 (2, 3)) := ⟨_, rfl⟩
 obtain ⟨Q4, h4⟩ : ∃ Q, Q = Q3.alloc (.cells #[.int .i64 10, .slice (some ⟨Q1.heap.size, 0, none⟩) 2 2, .int .i64 20, .slice (some ⟨Q2.heap.size, 0, none⟩) 2 2] 47) := ⟨_, rfl⟩
 have b1 : Below W.heap.size W Q1 := by rw [h1]; exact (Below.refl _ _).alloc zdZ _
 have b2 : Below Q1.heap.size Q1 Q2 := by rw [h2]; exact (Below.refl _ _).alloc zdZ _
 have b3 : Below Q2.heap.size Q2 Q3 := by rw [h3]; exact (Below.refl _ _).alloc zdZ _
 have b4 : Below Q3.heap.size Q3 Q4 := by rw [h4]; exact (Below.refl _ _).alloc zdZ _
 have k1 : Bk Q1 W.heap.size [.int .i64 3, .int .i64 1] 23 := by rw [h1]; exact Bk.new _ _ _
 have k2 : Q2.heap[Q1.heap.size]? = some (.cells [Value.int .u8 97, .int .u8 98].toArray 5 (2, 3)) := by rw [h2]; exact World.alloc_heap_new _ _
 have k3 : Q3.heap[Q2.heap.size]? = some (.cells [Value.int .u8 13, .int .u8 120].toArray 5 (2, 3)) := by rw [h3]; exact World.alloc_heap_new _ _
 have l2 : Q1.heap.size < Q2.heap.size := (Array.getElem?_eq_some_iff.1 k2).1
 have l3 : Q2.heap.size < Q3.heap.size := (Array.getElem?_eq_some_iff.1 k3).1
 have cv1 : (convert 27 27 (.slice (some ⟨Q1.heap.size, 0, none⟩) 2 2)).run Tryz.prog (Q1.alloc (.cells #[.int .u8 97, .int .u8 98] 5)) = .ok (.slice (some ⟨Q1.heap.size, 0, none⟩) 2 2) Q2 := by rw [h2]; exact CV Q1 _ 2 2
 have cv2 : (convert 27 27 (.slice (some ⟨Q2.heap.size, 0, none⟩) 2 2)).run Tryz.prog (Q2.alloc (.cells #[.int .u8 13, .int .u8 120] 5)) = .ok (.slice (some ⟨Q2.heap.size, 0, none⟩) 2 2) Q3 := by rw [h3]; exact CV Q2 _ 2 2
 have k4 : Bk Q4 Q3.heap.size [.int .i64 10, .slice (some ⟨Q1.heap.size, 0, none⟩) 2 2, .int .i64 20, .slice (some ⟨Q2.heap.size, 0, none⟩) 2 2] 47 := by rw [h4]; exact Bk.new _ _ _
 have FD := al_frs ((b4.block _ (Nat.lt_trans l2 l3)).trans ((b3.block _ l2).trans k2)) ((b4.block _ l3).trans k3) k4
 have S4 := ((k1.of_eq (b2.block _ k1.lt)).of_eq (b3.block _ (Nat.lt_of_lt_of_le k1.lt b2.size))).of_eq (b4.block _ (Nat.lt_of_lt_of_le (Nat.lt_of_lt_of_le k1.lt b2.size) b3.size))
 have BW : Below W.heap.size W Q4 := ((b1.trans (b2.mono b1.size)).trans (b3.mono (Nat.le_trans b1.size b2.size))).trans (b4.mono (Nat.le_trans (Nat.le_trans b1.size b2.size) b3.size))
 have fe : frms (alA Q1.heap.size Q2.heap.size) = alL := rfl
 have EN := t_Encode 3 1 (some ⟨Q3.heap.size, 0, none⟩) 2 (alA Q1.heap.size Q2.heap.size) Q4.heap.size Q4 FD zdZ
 rw [fe] at EN
 have EN := zdX EN
 have s0 := S4.c 0 _ rfl
 have s1 := S4.c 1 _ rfl
 have HS4 := zdX S4
 have HFD := zdX FD
 have HBW := zdX BW
 have H1 := zdX h1
 have H2 := zdX h2
 have H3 := zdX h3
 have H4 := zdX h4
 have HE := zdX E
 clear h1 h2 h3 h4 b1 b2 b3 b4 k1 k2 k3 k4 FD S4 BW fe E l2 l3 CV
 go_enter Tryz.func18, Tryz.ntmps18
 go_upto_region 2 with fail
 rw [<- H1.out]
 go_upto_region 3 with fail
 rw [<- H4.out]
 obtain ⟨D, hD⟩ : ∃ D, D = alB := ⟨_, rfl⟩
 have AE := zdX (show encT 3 1 alL = (D, 0) by rw [hD]; exact QU)
 have AD := zdX (show decT D = ⟨3, 1, alL, 0, 0⟩ by rw [hD]; exact al_dec)
 have AB := zdX (show Byt D by rw [hD]; exact al_bb)
 have AL := zdX (show D.length <= 1000 by rw [hD]; exact al_bl)
 clear hD H1 H2 H3 H4 cv1 cv2
 generalize Q3.heap.size = g3 at *
 generalize Q2.heap.size = g2 at *
 generalize Q1.heap.size = g1 at *
 go_wp2_with fail
 refine EN.out.mono ?_; intro e w5 hR
 obtain ⟨A5, c5, rfl, BD5, B5⟩ := hR.open AE.out AB.out (by have := AL.out; omega)
 have DC := zdX (t_Decode A5 c5 D w5.heap.size w5 BD5 zdZ)
 have HB5 := zdX B5
 clear EN hR BD5 B5 s0 s1
 go_wp2_with fail
 refine DC.out.mono ?_; rintro e w6 ⟨v6, e6, C6⟩
 rw [AD.out] at e6 C6
 subst e6
 obtain ⟨A6, c6, L6, rfl, eL, FD6⟩ := C6.read (by decide) (by decide)
 have BW6 := HBW.out.trans ((HB5.out.mono HBW.out.size).trans (C6.1.mono (Nat.le_trans HBW.out.size HB5.out.size)))
 obtain ⟨w7, h7⟩ : ∃ Q, Q = w6.alloc (.cells #[.int .i64 3, .int .i64 1] 23) := ⟨_, rfl⟩
 have b7 : Below w6.heap.size w6 w7 := by rw [h7]; exact (Below.refl _ _).alloc zdZ _
 have k7 : Bk w7 w6.heap.size [.int .i64 3, .int .i64 1] 23 := by rw [h7]; exact Bk.new _ _ _
 have S7 := ((HS4.out.of_eq (HB5.out.block _ HS4.out.lt)).of_eq (C6.1.block _ (Nat.lt_of_lt_of_le HS4.out.lt HB5.out.size))).of_eq (b7.block _ (Nat.lt_of_lt_of_le (Nat.lt_of_lt_of_le HS4.out.lt HB5.out.size) C6.1.size))
 have B47 : Below Q4.heap.size Q4 w7 := (HB5.out.trans (C6.1.mono HB5.out.size)).trans (b7.mono (Nat.le_trans HB5.out.size C6.1.size))
 have BW7 := HBW.out.trans (B47.mono HBW.out.size)
 have E7 : EnvV w7 := HE.out.mv (Mv.below (F := []) BW7) (by simp)
 have fe : frms (alA g1 g2) = alL := rfl
 have NW := t_PNew 3 1 (some ⟨g3, 0, none⟩) 2 (alA g1 g2) 1 Q4.heap.size w7 E7 (HFD.out.below B47 zdZ) B47.size (by show (4 : Nat) <= _; decide) (by decide)
 rw [fe] at NW
 have NW := zdX NW
 have F7 := FD6.below b7 zdZ
 have HF7 := zdX (F7.more b7.size)
 have HK7 := zdX k7
 have HS7 := zdX S7
 have HB7 := zdX BW7
 have H7 := zdX h7
 have HL6 := zdX eL
 have s0 := S7.c 0 _ rfl
 have s1 := S7.c 1 _ rfl
 have ln : L6.length = 2 := by have := congrArg List.length eL; rw [zU] at this; exact this
 rw [ln]
 have HLN := zdX ln
 clear DC C6 FD6 BW6 h7 b7 k7 S7 B47 BW7 E7 fe F7 eL HS4 HFD HBW ln
 go_upto_region 5 with fail
 rw [<- H7.out]
 clear H7
 go_wp2_with fail
 refine NW.out.mono ?_; rintro e w8 ⟨v8, rfl, B8, _, hY⟩
 obtain ⟨W3, pb, ev, rfl, P8, _⟩ := hY al_new
 rw [al_new]
 have HP8 := zdX P8
 have K8 := HK7.out.of_eq (B8.block _ HK7.out.lt)
 have S8 := HS7.out.of_eq (B8.block _ HS7.out.lt)
 have HB8 := zdX (HB7.out.trans (B8.mono HB7.out.size))
 have F8 := HF7.out.below B8 zdZ
 obtain ⟨ad, rfl, lb, z1, z2⟩ := F8.at 1 (by rw [HLN.out]; decide)
 have at1 : (L6[1]'(by rw [HLN.out]; decide)).at_ = 20 := by
  have e := HL6.out
  have g := jQ L6 1 (by rw [HLN.out]; decide)
  have : (frms L6)[1]'(by rw [zU, HLN.out]; decide) = ⟨20, [13, 120]⟩ := by simp only [e]; rfl
  rw [this] at g
  exact (congrArg Frm.at_ g).symm
 rw [at1, show (1 : Nat) * 2 = 2 from rfl] at z1
 have z3 : w8.cell? ⟨ad.block, ad.off + 2, none⟩ = some (.int .i64 20) := by rw [add_lit _ 2 (by decide)]; exact z1
 have s0 := S8.c 0 _ rfl
 have s1 := S8.c 1 _ rfl
 have t0 := K8.c 0 _ rfl
 have t1 := K8.c 1 _ rfl
 have LEN := t_PLen P8
 rw [al_last] at LEN
 have LEN := zdX LEN
 clear NW B8 hY P8 F8 z2 lb at1 K8 S8 HK7 HS7 HF7
 go_wp2_with fail
 refine LEN.out.mono ?_; rintro e w9 ⟨rfl, B9⟩
 have P9 := HP8.out.below B9
 have A1 := t_PAt P9 al_sz al_tm JG al_lb (by decide) (by decide) 15 (by decide) (by decide)
 rw [al_u15] at A1
 obtain ⟨ta, hta⟩ : ∃ ta, ta = z6 3 1 (alL.take 1) := ⟨_, rfl⟩
 have X1 := zdX (show (ta.cells.getD 0 celD).text = ⟨#[97]⟩ /\ ta.cells.length = 3 by rw [hta]; exact al_one)
 rw [<- hta] at A1
 have A1 := zdX A1
 have HP9 := zdX P9
 have HB9 := zdX (HB8.out.trans (B9.mono HB8.out.size))
 clear LEN B9 P9 HP8 HB8 s0 s1 t0 t1 z1 z3 hta
 go_wp2_with fail
 refine A1.out.mono ?_; rintro e w10 ⟨Aa, ca, rfl, Na, Ba⟩
 rw [X1.out.2] at Na
 obtain ⟨ga, rfl, gl, gu, gc⟩ := zaL (n := 3) (by rw [<- X1.out.2] at Na; exact (by rw [X1.out.2] at Na ⊢; exact Na)) (by rw [X1.out.2]; decide)
 have sva : scrV (zY ta) (some ⟨ga, 0, none⟩) ca = .agg #[.int .i64 (zY ta).w, .int .i64 (zY ta).h, .slice (some ⟨ga, 0, none⟩) 3 ca, .int .i64 (zY ta).x, .int .i64 (zY ta).y, .bool (zY ta).shown] := by
  unfold scrV
  rw [zaM, X1.out.2]
 rw [sva]
 generalize zY ta = sa at *
 obtain ⟨V11, h11⟩ : ∃ V, V = w10.alloc (.cells #[.int .i64 sa.w, .int .i64 sa.h, .slice (some ⟨ga, 0, none⟩) 3 ca, .int .i64 sa.x, .int .i64 sa.y, .bool sa.shown] 51) := ⟨_, rfl⟩
 have b11 : Below w10.heap.size w10 V11 := by rw [h11]; exact (Below.refl _ _).alloc zdZ _
 have k11 : Bk V11 w10.heap.size [.int .i64 sa.w, .int .i64 sa.h, .slice (some ⟨ga, 0, none⟩) 3 ca, .int .i64 sa.x, .int .i64 sa.y, .bool sa.shown] 51 := by rw [h11]; exact Bk.new _ _ _
 have P11 := (HP9.out.below Ba).below b11
 have A2 := t_PAt P11 al_sz al_tm JG al_lb (by decide) (by decide) 20 (by decide) (by decide)
 rw [al_u20] at A2
 obtain ⟨tb, htb⟩ : ∃ tb, tb = z6 3 1 (alL.take 2) := ⟨_, rfl⟩
 have X2 := zdX (show (tb.cells.getD 0 celD).text = ⟨#[120]⟩ /\ (tb.cells.getD 1 celD).text = ⟨#[98]⟩ /\ tb.cells.length = 3 by rw [htb]; exact al_two)
 rw [<- htb] at A2
 have A2 := zdX A2
 have HB11 := zdX ((HB9.out.trans (Ba.mono HB9.out.size)).trans (b11.mono (Nat.le_trans HB9.out.size Ba.size)))
 have HK11 := zdX k11
 have GC := zdX (fun (w' : World) (e : w'.heap[ga]? = w10.heap[ga]?) => gc w' e 0 (by rw [X1.out.2]; decide))
 have GK := zdX (fun (w' : World) (b : Below V11.heap.size V11 w') => (b.block ga (Nat.lt_of_lt_of_le gu b11.size)).trans (b11.block ga gu))
 have H11 := zdX h11
 clear A1 Na Ba gc sva h11 b11 k11 P11 HP9 HB9 htb gl gu
 go_upto_region 9 with fail
 rw [<- H11.out]
 clear H11
 go_wp2_with fail
 refine A2.out.mono ?_; rintro e w12 ⟨Ab, cb, rfl, Nb, Bb⟩
 rw [X2.out.2.2] at Nb
 obtain ⟨gb, rfl, gl, gu, gc⟩ := zaL (n := 3) (by rw [<- X2.out.2.2] at Nb; exact (by rw [X2.out.2.2] at Nb ⊢; exact Nb)) (by rw [X2.out.2.2]; decide)
 have svb : scrV (zY tb) (some ⟨gb, 0, none⟩) cb = .agg #[.int .i64 (zY tb).w, .int .i64 (zY tb).h, .slice (some ⟨gb, 0, none⟩) 3 cb, .int .i64 (zY tb).x, .int .i64 (zY tb).y, .bool (zY tb).shown] := by
  unfold scrV
  rw [zaM, X2.out.2.2]
 rw [svb]
 generalize zY tb = sb at *
 obtain ⟨V13, h13⟩ : ∃ V, V = w12.alloc (.cells #[.int .i64 sb.w, .int .i64 sb.h, .slice (some ⟨gb, 0, none⟩) 3 cb, .int .i64 sb.x, .int .i64 sb.y, .bool sb.shown] 51) := ⟨_, rfl⟩
 have b13 : Below w12.heap.size w12 V13 := by rw [h13]; exact (Below.refl _ _).alloc zdZ _
 have k13 : Bk V13 w12.heap.size [.int .i64 sb.w, .int .i64 sb.h, .slice (some ⟨gb, 0, none⟩) 3 cb, .int .i64 sb.x, .int .i64 sb.y, .bool sb.shown] 51 := by rw [h13]; exact Bk.new _ _ _
 have k11 := (HK11.out.of_eq (Bb.block _ HK11.out.lt)).of_eq (b13.block _ (Nat.lt_of_lt_of_le HK11.out.lt Bb.size))
 have x2 := k11.c 2 _ rfl
 have y2 := k13.c 2 _ rfl
 have ca0 := GC.out V13 (GK.out V13 (Bb.trans (b13.mono Bb.size)))
 have cb0 := gc V13 (b13.block gb gu) 0 (by rw [X2.out.2.2]; decide)
 have cb1 := gc V13 (b13.block gb gu) 1 (by rw [X2.out.2.2]; decide)
 rw [X1.out.1, Nat.zero_mul] at ca0
 rw [X2.out.1, Nat.zero_mul] at cb0
 rw [X2.out.2.1, Nat.one_mul] at cb1
 have FIN := zdX ((HB11.out.trans (Bb.mono HB11.out.size)).trans (b13.mono (Nat.le_trans HB11.out.size Bb.size)))
 have H13 := zdX h13
 clear A2 Nb Bb gc svb h13 b13 k13 k11 gl gu HB11 HK11 GC GK
 go_upto_region 10 with fail
 rw [<- H13.out]
 clear H13
 go_wp2_with fail
 go_ret
 exact ⟨by rfl, FIN.out⟩
end
end
section
def qx : List (List Frm) -> Nat -> Bool
 | [], _ => false
 | t :: ts, n => zZ t || decide (16384 < n + t.length) || qx ts (n + t.length)
def qG : List (List Frm) -> List Frm -> List Frm × Int
 | [], out => (out, 0)
 | t :: ts, out => if qU t = false \/ (t ≠ [] /\ 1099511627776 - zD out < zD t) then ([], 301) else qG ts (out ++ qF (zD out) t)
def qd (ts : List (List Frm)) : List Frm × Int := if qx ts 0 = true then ([], 3) else qG ts []
theorem JI : ∀ (a : List Frm) (f : Frm) (l : List Frm), zD (a ++ f :: l) = zD (f :: l)
 | [], f, l => rfl
 | [x], f, l => rfl
 | x :: y :: a, f, l => JI (y :: a) f l
theorem zaN (b : Int) : ∀ (l : List Frm), l ≠ [] -> zD (qF b l) = zD l + b
 | [], h => absurd rfl h
 | [f], _ => rfl
 | _ :: g :: l, _ => zaN b (g :: l) (by simp)
theorem ZR : ∀ (l : List Frm) (w : Int), zG w l = true -> l ≠ [] -> w <= zD l /\ zD l <= 1099511627776
 | [], _, _, h => absurd rfl h
 | [f], w, ht, _ => by
  rw [zG, Bool.and_eq_true] at ht
  exact of_decide_eq_true ht.1
 | f :: g :: l, w, ht, _ => by
  rw [zG, Bool.and_eq_true] at ht
  have t1 := of_decide_eq_true ht.1
  have := ZR (g :: l) f.at_ ht.2 (by simp)
  exact ⟨Int.le_trans t1.1 this.1, this.2⟩
theorem zaO (b : Int) : ∀ (l : List Frm) (w : Int), zG w l = true -> (l ≠ [] -> zD l + b <= 1099511627776) -> zG (w + b) (qF b l) = true
 | [], _, _, _ => rfl
 | f :: l, w, ht, hb => by
  rw [zG, Bool.and_eq_true] at ht
  have t1 := of_decide_eq_true ht.1
  have hb := hb (by simp)
  have lf : f.at_ <= zD (f :: l) := by
   cases l with
   | nil => exact Int.le_refl _
   | cons g l => exact (ZR (g :: l) f.at_ ht.2 (by simp)).1
  show zG (w + b) (⟨f.at_ + b, f.bs⟩ :: qF b l) = true
  rw [zG, Bool.and_eq_true]
  refine ⟨decide_eq_true ⟨by show w + b <= f.at_ + b; omega, by show f.at_ + b <= 1099511627776; omega⟩, zaO b l f.at_ ht.2 (fun ne => ?_)⟩
  cases l with
  | nil => exact absurd rfl ne
  | cons g l => exact hb
theorem zaP : ∀ (a : List Frm) (w : Int) (l : List Frm), zG w a = true -> zG (if a = [] then w else zD a) l = true -> zG w (a ++ l) = true
 | [], w, l, _, h => by simpa using h
 | [f], w, l, ha, h => by
  rw [zG, Bool.and_eq_true] at ha
  show zG w (f :: l) = true
  rw [zG, Bool.and_eq_true]
  exact ⟨ha.1, h⟩
 | f :: g :: a, w, l, ha, h => by
  rw [zG, Bool.and_eq_true] at ha
  show zG w (f :: (g :: a ++ l)) = true
  rw [zG, Bool.and_eq_true]
  exact ⟨ha.1, zaP (g :: a) f.at_ l ha.2 h⟩
theorem zdR {out t : List Frm} (ho : zG 0 out = true) (ht : qU t = true) (le : t ≠ [] -> zD t <= 1099511627776 - zD out) : zG 0 (out ++ qF (zD out) t) = true := by
 refine zaP out 0 _ ho ?_
 have s := zaO (zD out) t 0 ht (fun ne => by have := le ne; omega)
 rw [Int.zero_add] at s
 split
 ·rename_i z; subst z; exact s
 ·exact s
end
section
open Go Go.RowKit Go.Sort
section
theorem rmF_fa (M : List RM) : frms (M.map RM.fa) = rmF M := by unfold frms rmF; rw [List.map_map]; rfl
theorem RmS.time {LO : Nat} {w : World} {P Q : List RM} {x : RM} {r c n : Nat} (h : RmS LO w (.slice (some ⟨r, 0, none⟩) n c) (P ++ x :: Q) 0) (t : Int) (ht : -9223372036854775808 <= t /\ t <= 9223372036854775807) :
  RmS LO (w.setCell ⟨r, P.length * 2, none⟩ (.int .i64 t)) (.slice (some ⟨r, 0, none⟩) n c) (P ++ ⟨t, x.g, x.c, x.bs, x.ex⟩ :: Q) 0 := by
 obtain ⟨r', c', e, rl, rs, rne, _⟩ := h.row (by rw [List.length_append, List.length_cons]; omega)
 injection e with e1 e2 e3
 injection e1 with e1
 injection e1 with e1
 subst e1
 have cs : ∀ z ∈ P ++ (⟨t, x.g, x.c, x.bs, x.ex⟩ : RM) :: Q, z = ⟨t, x.g, x.c, x.bs, x.ex⟩ \/ z ∈ P ++ x :: Q := fun z m => by
  rcases List.mem_append.1 m with m | m
  ·exact Or.inr (List.mem_append.2 (Or.inl m))
  ·rcases List.mem_cons.1 m with m | m
   ·exact Or.inl m
   ·exact Or.inr (List.mem_append.2 (Or.inr (List.mem_cons_of_mem _ m)))
 have mx : x ∈ P ++ x :: Q := List.mem_append.2 (Or.inr List.mem_cons_self)
 refine ⟨?_, fun z m => ?_, fun z m => ?_, ?_⟩
 ·have o0 := h.own
  rw [e2] at o0
  have o1 := (o0.stored (P.length * 2) (.int .i64 t)).1
  have el : (P ++ (⟨t, x.g, x.c, x.bs, x.ex⟩ : RM) :: Q).length = (P ++ x :: Q).length := by rw [List.length_append, List.length_append, List.length_cons, List.length_cons]
  have ex : (rmV (P ++ x :: Q) ++ z77 0).set (P.length * 2) (.int .i64 t) = rmV (P ++ ⟨t, x.g, x.c, x.bs, x.ex⟩ :: Q) ++ z77 0 := by
   rw [kt, kt, kY, kY]
   simp only [List.append_assoc]
   rw [List.set_append_right _ _ (by rw [xv]; omega), xv, Nat.sub_self]
   rfl
  rw [el, <- ex, e2]
  exact o1
 ·rcases cs z m with rfl | m
  ·exact (h.one x mx).keep (heap_setCell_other _ _ _ _ (rne x mx))
  ·exact (h.one z m).keep (heap_setCell_other _ _ _ _ (rne z m))
 ·rcases cs z m with rfl | m
  ·exact ⟨(h.rng x mx).1, ht⟩
  ·exact h.rng z m
 ·have d := h.dis
  rw [List.map_append, List.map_cons] at d ⊢
  exact d
end
end
section
theorem JJ {t : List Frm} {ts : List (List Frm)} {n : Nat} (h : qx (t :: ts) n = false) : zZ t = false /\ n + t.length <= 16384 /\ qx ts (n + t.length) = false := by
 rw [qx, Bool.or_eq_false_iff, Bool.or_eq_false_iff] at h
 exact ⟨h.1.1, by have := of_decide_eq_false h.1.2; omega, h.2⟩
end
section
open Go Go.RowKit Go.Sort
section
def vY (W : World) (T : List (List Frm)) (e : Ending) (w' : World) : Prop := ∃ v S, e = .returned (.tuple #[v, .int .i64 (qd T).2]) /\ Below W.heap.size W w' /\ SegS W.heap.size w' v S /\ frms (segF S) = (qd T).1 /\ (segF S).length <= 16384
theorem JK {W w' : World} {T : List (List Frm)} {k : Int} (e : qd T = ([], k)) (hb : Below W.heap.size W w') : vY W T (.returned (.tuple #[.slice none 0 0, .int .i64 k])) w' := ⟨_, [], by rw [e], hb, SegS.nil _ _, by rw [e]; rfl, Nat.zero_le _⟩
theorem ZS {L : List FA} (h : 0 < L.length) : zD (frms L) = (L[L.length - 1]'(by omega)).at_ := by
 have hl : 0 < (frms L).length := by rw [zU]; exact h
 have e := ZQ (frms L) hl
 rw [e]
 have k : (frms L).length - 1 = L.length - 1 := by rw [zU]
 have g := jQ L (L.length - 1) (by omega)
 simp only [k, g]
theorem zaQ (a b : List FA) : frms (a ++ b) = frms a ++ frms b := by unfold frms; rw [List.map_append]
theorem xH (L : List FA) : frms L = [] ↔ L.length = 0 := by
 constructor
 ·intro z; rw [<- zU, z]; rfl
 ·intro z; rw [List.eq_nil_of_length_eq_zero z]; rfl
theorem zaR {t : List Frm} {ts : List (List Frm)} {n : Nat} : qx (t :: ts) n = (zZ t || decide (16384 < n + t.length) || qx ts (n + t.length)) := rfl
theorem ZT (T : List TA) (k : Nat) (hk : k < T.length) : tpsF (T.drop k) = frms (T[k]).L :: tpsF (T.drop (k + 1)) := by unfold tpsF; rw [List.drop_eq_getElem_cons hk]; rfl
set_option maxHeartbeats 16000000 in
set_option maxRecDepth 100000 in
theorem t_Join (A : Option Addr) (c : Nat) (T : List TA) (B : Nat) (W : World) (D : TpsD W B A c T) (hB : B <= W.heap.size) :
  Calls Tryz.prog 34 #[.slice A T.length c] W (vY W (tpsF T)) := by
 have HD := zdX D
 have HBB := zdX hB
 obtain ⟨n, hn⟩ : ∃ n, n = T.length := ⟨_, rfl⟩
 have HN := zdX hn
 have nl : n <= 140737488355328 := by have := D.sz; omega
 rw [<- hn]
 clear D hB hn
 go_enter Tryz.func34, Tryz.ntmps34
 go_wp2_with fail
 go_loopw [4, 13] (fun s4 s13 wr => ∃ (k m : Nat), k <= n /\ m <= 16384 /\ s4 = .int .i64 (m : Int) /\ s13 = .int .i64 (k : Int) /\ Hid (qx (tpsF (T.drop k)) m = qx (tpsF T) 0) /\ Hid (Below W.heap.size W wr)) (fun _ s13 _ => n - (intOf s13).toNat)
 case atStart => exact ⟨0, 0, Nat.zero_le _, Nat.zero_le _, rfl, rfl, zdX (by rw [List.drop_zero]), zdX (Below.refl _ _)⟩
 case round =>
  obtain ⟨k, m, hk, hm, rfl, rfl, hl, hw⟩ := hrel
  by_cases lt : k < n
  ·have kl : k < T.length := by rw [<- HN.out]; exact lt
   have DD := HD.out.below hw.out HBB.out
   obtain ⟨ad, rfl, lb, z1⟩ := DD.at k kl
   have FT := DD.ok _ (List.getElem_mem kl)
   have LS := hl.out
   rw [ZT T k kl, zaR, zU] at LS
   generalize T[k] = x at *
   obtain ⟨xA, xc, xL⟩ := x
   change wr.cell? (ad.add k) = some (.slice xA xL.length xc) at z1
   dsimp only at FT LS
   have CM := zdX (t_many xA xc xL B wr FT (Nat.le_trans HBB.out hw.out.size))
   have xs : xL.length <= 140737488355328 := by have := FT.sz; omega
   obtain ⟨mb, hmb⟩ : ∃ mb, mb = zZ (frms xL) := ⟨_, rfl⟩
   rw [<- hmb] at CM LS
   obtain ⟨xn, hxn⟩ : ∃ xn, xn = xL.length := ⟨_, rfl⟩
   rw [<- hxn] at CM LS z1 xs
   have q0 : (0 : Int) <= (k : Int) := by omega
   have q5 : (k : Int) < (n : Int) := by omega
   have tn : (k : Int).toNat = k := by omega
   have wk := zdY ((k : Int) + 1) (by omega)
   have wm := zdY ((m : Int) + (xn : Int)) (by omega)
   have HLS := zdX LS
   clear DD FT lb hmb hxn hl LS
   cases mb with
   | true =>
    have EN := zdX (fun (w' : World) (hb : Below W.heap.size W w') => JK (W := W) (w' := w') (T := tpsF T) (show qd (tpsF T) = ([], 3) by unfold qd; rw [if_pos (by rw [<- HLS.out]; rfl)]) hb)
    go_wp2_with fail
    refine CM.out.mono ?_; rintro e w1 ⟨rfl, hb1⟩
    have B1 := zdX (hw.out.trans (hb1.mono hw.out.size))
    clear CM hb1
    go_wp2_with fail
    go_ret2
    exact EN.out _ B1.out
   | false =>
    by_cases c0 : 16384 < m + xn
    ·have c1 : (16384 : Int) < (m : Int) + (xn : Int) := by omega
     have EN := zdX (fun (w' : World) (hb : Below W.heap.size W w') => JK (W := W) (w' := w') (T := tpsF T) (show qd (tpsF T) = ([], 3) by unfold qd; rw [if_pos (by rw [<- HLS.out, decide_eq_true c0]; rfl)]) hb)
     go_wp2_with fail
     refine CM.out.mono ?_; rintro e w1 ⟨rfl, hb1⟩
     have B1 := zdX (hw.out.trans (hb1.mono hw.out.size))
     clear CM hb1
     go_wp2_with fail
     go_ret2
     exact EN.out _ B1.out
    ·have c1 : ¬ (16384 : Int) < (m : Int) + (xn : Int) := by omega
     have NX := zdX (show qx (tpsF (T.drop (k + 1))) (m + xn) = qx (tpsF T) 0 by rw [<- HLS.out, decide_eq_false c0]; rfl)
     go_wp2_with fail
     refine CM.out.mono ?_; rintro e w1 ⟨rfl, hb1⟩
     have B1 := zdX (hw.out.trans (hb1.mono hw.out.size))
     clear CM hb1
     go_wp2_with fail
     go_roundw
     case rel => exact ⟨k + 1, m + xn, by omega, by omega, by go_num, by go_num, NX, B1⟩
     case measure => simp [intOf]; omega
  ·have e : k = n := by omega
   subst e
   have q5 : ¬ (k : Int) < (k : Int) := by omega
   have LF : Hid (qx (tpsF T) 0 = false) := zdX (by
    rw [<- hl.out, HN.out, List.drop_length]
    rfl)
   have HW := zdX hw.out
   clear hl hw hm
   go_wp2_with fail
   go_loopw [7, 8, 30] (fun s7 s8 s30 wr => ∃ (j m : Nat) (base : Int) (A' : Option Addr) (c' : Nat) (S : List Seg), j <= k /\ m <= 16384 /\ (0 <= base /\ base <= 1099511627776) /\ s7 = .slice A' m c' /\ s8 = .int .i64 base /\ s30 = .int .i64 (j : Int) /\ Hid (m = (segF S).length) /\ Hid (base = zD (frms (segF S))) /\ Hid (qG (tpsF (T.drop j)) (frms (segF S)) = qG (tpsF T) []) /\ Hid (qx (tpsF (T.drop j)) m = false) /\ Hid (SegS W.heap.size wr (.slice A' m c') S) /\ Hid (Below W.heap.size W wr)) (fun _ _ s30 _ => k - (intOf s30).toNat)
   case atStart => exact ⟨0, 0, 0, none, 0, [], Nat.zero_le _, Nat.zero_le _, ⟨by decide, by decide⟩, rfl, rfl, rfl, zdX rfl, zdX rfl, zdX (by rw [List.drop_zero]; rfl), zdX (by rw [List.drop_zero]; exact LF.out), zdX (SegS.nil _ _), HW⟩
   case round =>
    obtain ⟨j, m, base, A', c', S, hj, hm, ⟨b0, b1⟩, rfl, rfl, rfl, hms, hbs, hjn, hlg, hs, hq⟩ := hrel
    clear HW
    by_cases lt : j < k
    ·have kl : j < T.length := by rw [<- HN.out]; exact lt
     have DD := HD.out.below hq.out HBB.out
     obtain ⟨ad, rfl, lb, z1⟩ := DD.at j kl
     have FT := DD.ok _ (List.getElem_mem kl)
     have JS := hjn.out
     have LS := hlg.out
     rw [ZT T j kl] at JS LS
     obtain ⟨p1, p2, p3⟩ := JJ LS
     rw [zU] at p2 p3
     generalize T[j] = x at *
     obtain ⟨xA, xc, xL⟩ := x
     change wr.cell? (ad.add j) = some (.slice xA xL.length xc) at z1
     dsimp only at FT JS p1 p2 p3
     have CT := zdX (KN xA xc xL B wr FT (Nat.le_trans HBB.out hq.out.size))
     obtain ⟨tb, htb⟩ : ∃ tb, tb = qU (frms xL) := ⟨_, rfl⟩
     rw [<- htb] at CT
     have HTB := zdX htb
     have q0 : (0 : Int) <= (j : Int) := by omega
     have q5 : (j : Int) < (k : Int) := by omega
     have tn : (j : Int).toNat = j := by omega
     have wk := zdY ((j : Int) + 1) (by omega)
     have HJS := zdX JS
     have HP := zdX (And.intro p1 p3)
     have HFT := zdX FT
     obtain ⟨xn, hxn⟩ : ∃ xn, xn = xL.length := ⟨_, rfl⟩
     have HXN := zdX hxn
     rw [<- hxn] at CT z1 p2
     clear DD FT lb htb hjn hlg JS LS p1 p3 hxn
     have TL : Hid (tb = true -> ∀ t : Int, t = zD (frms xL) -> xn ≠ 0 -> 0 <= t /\ t <= 1099511627776) := zdX (fun ht0 t ht nz => by
      rw [ht]
      exact ZR (frms xL) 0 (HTB.out.symm.trans ht0) (fun z => nz (by rw [HXN.out]; exact (xH xL).1 z)))
     go_upto_region 14 with fail
     go_cut [53] from 34 to 53 (fun s53 wx => ∃ bd : Bool, s53 = .bool bd /\ Hid (bd = decide (tb = false \/ (xn ≠ 0 /\ 1099511627776 - base < zD (frms xL)))) /\ Hid (Below wr.heap.size wr wx))
     case first =>
      cases tb with
      | false =>
       go_wp2_with fail
       refine CT.out.mono ?_; rintro e w1 ⟨rfl, hb1⟩
       clear CT
       go_wp2_with fail
       go_meet
       exact ⟨true, rfl, zdX (by simp), zdX hb1⟩
      | true =>
       by_cases z : xn = 0
       ·subst z
        go_wp2_with fail
        refine CT.out.mono ?_; rintro e w1 ⟨rfl, hb1⟩
        clear CT
        go_wp2_with fail
        go_meet
        exact ⟨false, rfl, zdX (by simp), zdX hb1⟩
       ·have zp : (0 : Int) < (xn : Int) := by omega
        have xl : xn - 1 < xL.length := by rw [<- HXN.out]; omega
        have YC := zdX (fun (w1 : World) (hb1 : Below wr.heap.size wr w1) => (HFT.out.below hb1 (Nat.le_trans HBB.out hq.out.size)).at (xn - 1) xl)
        have lf : zD (frms xL) = (xL[xn - 1]).at_ := by
         rw [ZS (by omega)]
         simp only [HXN.out]
        rw [<- lf] at YC
        have HLF := zdX (TL.out rfl _ rfl z)
        generalize zD (frms xL) = la at *
        have lab := HLF.out
        have wn := zdY ((xn : Int) - 1) (by omega)
        have r0 : (0 : Int) <= (xn : Int) - 1 := by omega
        have r5 : (xn : Int) - 1 < (xn : Int) := by omega
        have rn : ((xn : Int) - 1).toNat = xn - 1 := by omega
        have wb := zdY (1099511627776 - base) (by omega)
        clear lf
        go_wp2_with fail
        refine CT.out.mono ?_; rintro e w1 ⟨rfl, hb1⟩
        obtain ⟨ae, rfl, _, y1, y2⟩ := YC.out w1 hb1
        clear CT YC y2
        go_wp2_with fail
        go_meet
        exact ⟨_, rfl, zdX (by simp [z]), zdX hb1⟩
     case rest =>
       obtain ⟨bd, rfl, hbd, hcb⟩ := hcut
       obtain ⟨w1, hw1⟩ : ∃ w1, w1 = wc := ⟨_, rfl⟩
       rw [<- hw1] at hcb ⊢
       clear hw1 CT
       have B1 := zdX (hq.out.trans (hcb.out.mono hq.out.size))
       have S1 := zdX (hs.out.below hcb.out)
       have FT1 := zdX (HFT.out.below hcb.out (Nat.le_trans HBB.out hq.out.size))
       clear hs hq hcb
       cases bd with
       | true =>
        have EN := zdX (fun (w' : World) (hb : Below W.heap.size W w') => JK (W := W) (w' := w') (T := tpsF T) (show qd (tpsF T) = ([], 301) by
         have d := of_decide_eq_true hbd.out.symm
         unfold qd
         rw [if_neg (by rw [LF.out]; decide), <- HJS.out, qG, if_pos]
         rcases d with d | d
         ·exact Or.inl (HTB.out.symm.trans d)
         ·exact Or.inr ⟨fun z => d.1 (by rw [HXN.out]; exact (xH xL).1 z), by rw [<- hbs.out]; exact d.2⟩) hb)
        go_wp2_with fail
        go_ret2
        exact EN.out _ B1.out
       | false =>
        have tbt : tb = true := by
         have d := of_decide_eq_false hbd.out.symm
         cases tb with
         | true => rfl
         | false => exact absurd (Or.inl rfl) d
        subst tbt
        have JN := zdX (show qG (tpsF (T.drop (j + 1))) (frms (segF S) ++ qF base (frms xL)) = qG (tpsF T) [] by
         have d := of_decide_eq_false hbd.out.symm
         have e := HJS.out
         rw [qG, if_neg, <- hbs.out] at e
         ·exact e
         ·rintro (z | ⟨z1, z2⟩)
          ·rw [<- HTB.out] at z; cases z
          ·exact d (Or.inr ⟨fun z => z1 ((xH xL).2 (by rw [<- HXN.out]; exact z)), by rw [hbs.out]; exact z2⟩))
        have LB : Hid (xn ≠ 0 -> 0 <= zD (frms xL) + base /\ zD (frms xL) + base <= 1099511627776) := zdX (fun z => by
         have d := of_decide_eq_false hbd.out.symm
         have t := TL.out rfl _ rfl z
         have : ¬ 1099511627776 - base < zD (frms xL) := fun q => d (Or.inr ⟨z, q⟩)
         omega)
        have MN := HP.out.1
        rw [zZ, Bool.or_eq_false_iff] at MN
        have ML := of_decide_eq_false MN.2
        rw [zU] at ML
        have OKL : ∀ x ∈ xL, x.b.bs.length <= 1048576 /\ 0 <= x.at_ /\ x.at_ <= 1099511627776 := fun x m => by
         obtain ⟨i, hi, rfl⟩ := List.mem_iff_getElem.1 m
         have hi2 : i < (frms xL).length := by rw [zU]; exact hi
         have a := vO MN.1 _ (List.getElem_mem hi2)
         have b := xV _ 0 HTB.out.symm i i hi2 zdZ
         rw [jQ xL i hi] at a b
         exact ⟨a, b.2⟩
        have so := S1.out.own
        have e9 := xd so rfl
        injection e9 with _ e10 _
        have CP := zdX (Jd W.heap.size (.slice A' m c') (segF S) xA xc xL B base w1 so B1.out.size FT1.out HBB.out (by omega) (fun x m => (OKL x m).1) (fun x m => (OKL x m).2) ⟨b0, b1⟩ (by omega))
        rw [<- HXN.out] at CP
        have FB : Hid ((zu xL).length <= 140737488355328) := zdX (by have := Jc (fun x m => (OKL x m).1); omega)
        have OKH := zdX OKL
        clear MN ML OKL so e10
        go_wp2_with fail
        refine CP.out.mono ?_; rintro e w2 ⟨v2, g2, rfl, C2⟩
        have S2 := S1.out.add B1.out.size C2 FB.out (fun x m => ⟨(HFT.out.ok x m).b.rng, by have := OKH.out x m; omega, by have := OKH.out x m; omega⟩)
        obtain ⟨A2, c2, e2⟩ := xu S2.own
        subst e2
        have fS : frms (segF (S ++ [⟨g2, base, xL⟩])) = frms (segF S) ++ qF base (frms xL) := by rw [Ji, zaQ, vL]
        have lS : (segF (S ++ [⟨g2, base, xL⟩])).length = m + xn := by rw [Ji, List.length_append, kV, <- hms.out, <- HXN.out]
        rw [lS] at S2 ⊢
        have B2 := zdX (B1.out.trans (C2.bel.mono zdZ))
        have HS2 := zdX S2
        have HFS := zdX fS
        have HLS := zdX lS
        clear CP C2 S2 fS lS S1
        have HLN := zdX HP.out.2
        have NB := zdX (fun (bn : Int) (m2 : Nat) (hm2 : m2 = m + xn) (h1 : 0 <= bn /\ bn <= 1099511627776) (h2 : bn = zD (frms (segF (S ++ [⟨g2, base, xL⟩])))) (h3 : SegS W.heap.size w2 (.slice A2 m2 c2) (S ++ [⟨g2, base, xL⟩])) => show ∃ (j' m : Nat) (bs : Int) (A' : Option Addr) (c' : Nat) (S : List Seg), j' <= k /\ m <= 16384 /\ (0 <= bs /\ bs <= 1099511627776) /\ Value.slice A2 m2 c2 = .slice A' m c' /\ Value.int .i64 bn = .int .i64 bs /\ Value.int .i64 ((j : Int) + 1) = .int .i64 (j' : Int) /\ Hid (m = (segF S).length) /\ Hid (bs = zD (frms (segF S))) /\ Hid (qG (tpsF (T.drop j')) (frms (segF S)) = qG (tpsF T) []) /\ Hid (qx (tpsF (T.drop j')) m = false) /\ Hid (SegS W.heap.size w2 (.slice A' m c') S) /\ Hid (Below W.heap.size W w2) from ⟨j + 1, m2, bn, A2, c2, S ++ [⟨g2, base, xL⟩], by omega, by omega, h1, rfl, rfl, by go_num, zdX (by rw [hm2]; exact HLS.out.symm), zdX h2, zdX (by rw [HFS.out]; exact JN.out), zdX (by rw [hm2, HXN.out]; exact HLN.out), zdX h3, B2⟩)
        by_cases z : m + xn = 0
        ·obtain ⟨rfl, rfl⟩ : m = 0 /\ xn = 0 := by omega
         have LN : base = zD (frms (segF (S ++ [⟨g2, base, xL⟩]))) := by
          have z1 := (xH _).2 HLS.out
          rw [z1, hbs.out, (xH _).2 hms.out.symm]
         have FIN := zdX (NB.out base 0 rfl ⟨b0, b1⟩ LN HS2.out)
         clear LN NB
         go_wp2_with fail
         go_roundw
         case rel => exact FIN.out
         case measure => simp [intOf]; omega
        ·obtain ⟨zn, hzn⟩ : ∃ zn, zn = m + xn := ⟨_, rfl⟩
         rw [<- hzn] at HS2 HLS ⊢
         have zp : (0 : Int) < (zn : Int) := by omega
         have FS := HS2.out.frs (by rw [HLS.out]; omega)
         have xl : zn - 1 < (segF (S ++ [⟨g2, base, xL⟩])).length := by rw [HLS.out]; omega
         obtain ⟨ae, rfl, _, y1, y2⟩ := FS.2.at (zn - 1) xl
         have lf : zD (frms (segF (S ++ [⟨g2, base, xL⟩]))) = ((segF (S ++ [⟨g2, base, xL⟩]))[zn - 1]).at_ := by
          rw [ZS (by omega)]
          simp only [HLS.out]
         rw [<- lf] at y1
         have LR : 0 <= zD (frms (segF (S ++ [⟨g2, base, xL⟩]))) /\ zD (frms (segF (S ++ [⟨g2, base, xL⟩]))) <= 1099511627776 := by
          rw [HFS.out]
          by_cases xz : xn = 0
          ·have : qF base (frms xL) = [] := by rw [(xH xL).2 (by rw [<- HXN.out]; exact xz)]; rfl
           rw [this, List.append_nil, <- hbs.out]
           exact ⟨b0, b1⟩
          ·have ne : frms xL ≠ [] := fun q => xz (by rw [HXN.out]; exact (xH xL).1 q)
           have ns : qF base (frms xL) ≠ [] := fun q => ne (by have := congrArg List.length q; rw [zch] at this; exact List.eq_nil_of_length_eq_zero this)
           obtain ⟨f, r, er⟩ := List.exists_cons_of_ne_nil ns
           rw [er, JI, <- er, zaN base _ ne]
           exact LB.out xz
         have FIN := zdX (NB.out _ zn hzn LR rfl HS2.out)
         generalize zD (frms (segF (S ++ [⟨g2, base, xL⟩]))) = la at *
         have wn := zdY ((zn : Int) - 1) (by omega)
         have r0 : (0 : Int) <= (zn : Int) - 1 := by omega
         have r5 : (zn : Int) - 1 < (zn : Int) := by omega
         have rn : ((zn : Int) - 1).toNat = zn - 1 := by omega
         clear lf FS y2 LR NB hzn z
         go_wp2_with fail
         go_roundw
         case rel => exact FIN.out
         case measure => simp [intOf]; omega
    ·have e : j = k := by omega
     subst e
     have q5 : ¬ (j : Int) < (j : Int) := by omega
     have FIN : Hid (vY W (tpsF T) (.returned (.tuple #[.slice A' m c', .int .i64 0])) wr) := zdX (by
      have jn := hjn.out
      rw [HN.out, List.drop_length] at jn
      have je : qd (tpsF T) = (frms (segF S), 0) := by
       unfold qd
       rw [if_neg (by rw [LF.out]; decide), <- jn]
       rfl
      exact ⟨_, S, by rw [je], hq.out, hs.out, by rw [je], by rw [<- hms.out]; exact hm⟩)
     clear hs hq hjn hlg
     go_wp2_with fail
     go_ret2
     exact FIN.out
end
end
section
open Go Go.RowKit Go.Sort
section
theorem rmV_one (M : List RM) : ∀ u ∈ rmV M, u.oneCell' = true := fun u m => by
 obtain ⟨x, _, mx⟩ := List.mem_flatMap.1 m
 rcases List.mem_cons.1 mx with rfl | mx
 ·rfl
 ·rcases List.mem_cons.1 mx with rfl | mx
  ·rfl
  ·cases mx
theorem RmS.cat {LO lo : Nat} {w : World} {v v1 : Value} {M M1 : List RM} (h : RmS LO w v M 0) (h1 : RmS lo w v1 M1 0) (hl : LO <= lo) (hw : lo <= w.heap.size) (ml : ∀ x ∈ M, x.g < lo) (len : M.length + M1.length <= 1000000000) :
  ∃ v' w', (Builtin.append_ #[24, 24] 24 #[v, v1]).run Tryz.prog w = .ok v' w' /\ RmS LO w' v' (M ++ M1) 0 /\ w.grownBy w' v.ownBlock := by
 obtain ⟨i0, z0, hi0, hz0, hz1, hz2, hz3⟩ := infoF
 have o := h.own
 have o1 := h1.own
 simp only [Nat.add_zero, show z77 0 = [] from rfl, List.append_nil] at o o1
 have FIN : ∀ v' w', w'.ownsRow LO 47 2 v' (M.length + M1.length) (rmV M ++ rmV M1) -> w.grownBy w' v.ownBlock -> RmS LO w' v' (M ++ M1) 0 := fun v' w' ho hg => by
  have k1 := xq o hg
  have kk : ∀ y : RM, ∀ L, OneR w L y -> OneR w' L y := fun y L oy => oy.keep (by
   obtain ⟨_, _, _, cur, e⟩ := xW oy
   exact k1 _ _ _ _ e (by decide))
  refine ⟨?_, fun y m => ?_, fun y m => ?_, ?_⟩
  ·rw [List.length_append, kt, Nat.add_zero, show z77 0 = [] from rfl, List.append_nil]
   exact ho
  ·rcases List.mem_append.1 m with m | m
   ·exact kk y LO (h.one y m)
   ·exact kk y LO (qR (h1.one y m) hl)
  ·rcases List.mem_append.1 m with m | m
   ·exact h.rng y m
   ·exact h1.rng y m
  ·rw [List.map_append, List.nodup_append]
   refine ⟨h.dis, h1.dis, fun a ha b hb e => ?_⟩
   obtain ⟨y, my, rfl⟩ := List.mem_map.1 ha
   obtain ⟨z, mz, rfl⟩ := List.mem_map.1 hb
   have l1 := ml y my
   have l2 := (h1.one z mz).lt.1
   omega
 rcases o1.2 with ⟨rfl, n0⟩ | ⟨g, cap, cur, e, hb, hg, hn, hm, hs, ht⟩
 ·have e1 : M1 = [] := List.eq_nil_of_length_eq_zero n0
  subst e1
  refine ⟨v, w, run_append_owned_none (P := Tryz.prog) (w := w) LO 24 24 47 i0 2 Tryz.underlying24 hi0 v _ _ o, FIN v w (by simpa [rmV] using o) ⟨rfl, rfl, rfl, zdZ, fun _ _ _ => rfl⟩, ⟨rfl, rfl, rfl, zdZ, fun _ _ _ => rfl⟩⟩
 ·subst e
  have nw : ∀ j u, (rmV M1)[j]? = some u -> w.cell? ((⟨g, 0, none⟩ : Addr).add j) = some u := fun j u hj => by
   obtain ⟨ad, a1, _, a3⟩ := ku o1 (fun z => by rw [z] at hj; simp at hj)
   cases a1
   exact a3 j u hj
  obtain ⟨v', w', r1, r2, r3, r4⟩ := run_append_own (P := Tryz.prog) w LO 24 24 47 i0 z0 2 32 Tryz.underlying24 hi0 hz0 hz1 hz2 hz3 (by decide) _ M.length (rmV M) o ⟨g, 0, none⟩ M1.length cap (rmV M1) (xv M1) nw (rmV_one M1) (by unfold maxLen; omega) (by omega) (Nat.le_trans hl hw)
  exact ⟨v', w', r1, FIN v' w' r2 r3, r3⟩
theorem zdS {l : List Frm} (h : ∀ f ∈ l, 0 <= f.at_) : 0 <= zD l := by
 rcases Nat.eq_zero_or_pos l.length with z | z
 ·rw [List.eq_nil_of_length_eq_zero z]; exact Int.le_refl _
 ·rw [ZQ l z]; exact h _ (List.getElem_mem _)
theorem zaS : ∀ (ts : List (List Frm)) (n : Nat) (out : List Frm), qx ts n = false -> (∀ f ∈ out, f.bs.length <= 1048576 /\ 0 <= f.at_) -> ∀ f ∈ (qG ts out).1, f.bs.length <= 1048576 /\ 0 <= f.at_
 | [], n, out, _, h => h
 | t :: ts, n, out, hl, h => by
  obtain ⟨p1, p2, p3⟩ := JJ hl
  rw [qG]
  split
  ·intro f m; cases m
  ·rename_i c
   have tt : qU t = true := by
    cases q : qU t with
    | true => rfl
    | false => exact absurd (Or.inl q) c
   have MN := p1
   rw [zZ, Bool.or_eq_false_iff] at MN
   refine zaS ts (n + t.length) _ p3 (fun f m => ?_)
   rcases List.mem_append.1 m with m | m
   ·exact h f m
   ·obtain ⟨y, my, rfl⟩ := List.mem_map.1 m
    have a := vO MN.1 y my
    obtain ⟨i, hi, rfl⟩ := List.mem_iff_getElem.1 my
    have b := xV t 0 tt i i hi zdZ
    have l0 := zdS (fun f m => (h f m).2)
    exact ⟨a, by show 0 <= (t[i]).at_ + _; have := b.2.1; omega⟩
theorem zdT {ts : List (List Frm)} : ∀ f ∈ (qd ts).1, f.bs.length <= 1048576 /\ 0 <= f.at_ := by
 unfold qd
 split
 ·intro f m; cases m
 ·rename_i c
  exact zaS ts 0 [] (by cases q : qx ts 0 with | true => exact absurd q c | false => rfl) (fun f m => (by cases m))
def JnD (W : World) (T : List (List Frm)) (e : Ending) (w' : World) : Prop := ∃ A c L', e = .returned (.tuple #[.slice A L'.length c, .int .i64 (qd T).2]) /\ frms L' = (qd T).1 /\ FrsD w' w'.heap.size A c L' /\ Below W.heap.size W w' /\ L'.length <= 16384
theorem ZU {W w' : World} {T : List (List Frm)} {k : Int} (e : qd T = ([], k)) (hb : Below W.heap.size W w') : JnD W T (.returned (.tuple #[.slice none 0 0, .int .i64 k])) w' := ⟨none, 0, [], by rw [e]; rfl, by rw [e]; rfl, ⟨fun _ => rfl, zdZ, by simp, Sees.nil _ _ _, fun x m => by cases m⟩, hb, Nat.zero_le _⟩
theorem RmS.last {LO m c : Nat} {w : World} {A : Option Addr} {M : List RM} (h : RmS LO w (.slice A m c) M 0) (hm : M.length = m) (pos : 0 < m) : ∃ r, A = some ⟨r, 0, none⟩ /\ w.cell? ⟨r, (m - 1) * 2, none⟩ = some (.int .i64 (zD (rmF M))) := by
 obtain ⟨r, c', e, _⟩ := h.row (by omega)
 injection e with e1 e2 e3
 subst e1
 obtain ⟨P, x, e⟩ : ∃ P x, M = P ++ [x] := ⟨M.dropLast, M.getLast (fun z => by rw [z] at hm; simp at hm; omega), (List.dropLast_concat_getLast _).symm⟩
 subst e
 have cl := h.cell.2.1
 have lp : P.length = m - 1 := by rw [List.length_append, List.length_singleton] at hm; omega
 rw [lp] at cl
 refine ⟨r, rfl, ?_⟩
 rw [cl, kv, show rmF [x] = [(⟨x.at_, x.bs⟩ : Frm)] from rfl, JI]
 rfl
set_option maxHeartbeats 32000000 in
set_option maxRecDepth 100000 in
theorem r_Join (A : Option Addr) (c : Nat) (T : List TA) (B : Nat) (W : World) (D : TpsD W B A c T) (hB : B <= W.heap.size) :
  Calls Tryz.prog 36 #[.slice A T.length c] W (JnD W (tpsF T)) := by
 have HD := zdX D
 have HBB := zdX hB
 obtain ⟨n, hn⟩ : ∃ n, n = T.length := ⟨_, rfl⟩
 have HN := zdX hn
 have nl : n <= 140737488355328 := by have := D.sz; omega
 rw [<- hn]
 clear D hB hn
 go_enter Tryz.func36, Tryz.ntmps36
 go_wp2_with fail
 go_loopw [4, 5] (fun s4 s5 wr => ∃ (k m : Nat), k <= n /\ m <= 16384 /\ s4 = .int .i64 (m : Int) /\ s5 = .int .i64 (k : Int) /\ Hid (qx (tpsF (T.drop k)) m = qx (tpsF T) 0) /\ Hid (Below W.heap.size W wr)) (fun _ s5 _ => n - (intOf s5).toNat)
 case atStart => exact ⟨0, 0, Nat.zero_le _, Nat.zero_le _, rfl, rfl, zdX (by rw [List.drop_zero]), zdX (Below.refl _ _)⟩
 case round =>
  obtain ⟨k, m, hk, hm, rfl, rfl, hl, hw⟩ := hrel
  by_cases lt : k < n
  ·have kl : k < T.length := by rw [<- HN.out]; exact lt
   have DD := HD.out.below hw.out HBB.out
   obtain ⟨ad, rfl, lb, z1⟩ := DD.at k kl
   have FT := DD.ok _ (List.getElem_mem kl)
   have LS := hl.out
   rw [ZT T k kl, zaR, zU] at LS
   generalize T[k] = x at *
   obtain ⟨xA, xc, xL⟩ := x
   change wr.cell? (ad.add k) = some (.slice xA xL.length xc) at z1
   dsimp only at FT LS
   have CM := zdX (r_Many xA xc xL B wr FT (Nat.le_trans HBB.out hw.out.size))
   have xs : xL.length <= 140737488355328 := by have := FT.sz; omega
   obtain ⟨mb, hmb⟩ : ∃ mb, mb = zZ (frms xL) := ⟨_, rfl⟩
   rw [<- hmb] at CM LS
   obtain ⟨xn, hxn⟩ : ∃ xn, xn = xL.length := ⟨_, rfl⟩
   rw [<- hxn] at CM LS z1 xs
   have adb : (ad.add k).block < wr.heap.size := by rw [z8]; exact Nat.lt_of_lt_of_le lb (Nat.le_trans HBB.out hw.out.size)
   have ZC : Hid (∀ w1, Below wr.heap.size wr w1 -> w1.cell? (ad.add k) = some (.slice xA xn xc)) := zdX (fun w1 hb1 => (hb1.cell adb).trans z1)
   have q0 : (0 : Int) <= (k : Int) := by omega
   have q5 : (k : Int) < (n : Int) := by omega
   have tn : (k : Int).toNat = k := by omega
   have wk := zdY ((k : Int) + 1) (by omega)
   have wm := zdY ((m : Int) + (xn : Int)) (by omega)
   have HLS := zdX LS
   clear DD FT lb hmb hxn hl LS adb
   go_wp2_with fail
   refine CM.out.mono ?_; rintro e w1 ⟨rfl, hb1⟩
   have z2 := ZC.out w1 hb1
   have B1 := zdX (hw.out.trans (hb1.mono hw.out.size))
   clear CM hb1 ZC z1
   cases mb with
   | true =>
    have EN := zdX (ZU (W := W) (w' := w1) (T := tpsF T) (show qd (tpsF T) = ([], 3) by unfold qd; rw [if_pos (by rw [<- HLS.out]; rfl)]) B1.out)
    go_wp2_with fail
    go_ret2
    exact EN.out
   | false =>
    by_cases c0 : 16384 < m + xn
    ·have c1 : (16384 : Int) < (m : Int) + (xn : Int) := by omega
     have EN := zdX (ZU (W := W) (w' := w1) (T := tpsF T) (show qd (tpsF T) = ([], 3) by unfold qd; rw [if_pos (by rw [<- HLS.out, decide_eq_true c0]; rfl)]) B1.out)
     go_wp2_with fail
     go_ret2
     exact EN.out
    ·have c1 : ¬ (16384 : Int) < (m : Int) + (xn : Int) := by omega
     have NX := zdX (show qx (tpsF (T.drop (k + 1))) (m + xn) = qx (tpsF T) 0 by rw [<- HLS.out, decide_eq_false c0]; rfl)
     go_wp2_with fail
     go_roundw
     case rel => exact ⟨k + 1, m + xn, by omega, by omega, by go_num, by go_num, NX, B1⟩
     case measure => simp [intOf]; omega
  ·have e : k = n := by omega
   subst e
   have q5 : ¬ (k : Int) < (k : Int) := by omega
   have LF : Hid (qx (tpsF T) 0 = false) := zdX (by
    rw [<- hl.out, HN.out, List.drop_length]
    rfl)
   have HW := zdX hw.out
   clear hl hw hm
   go_wp2_with fail
   go_loopw [7, 8] (fun s7 s8 wr => ∃ (j m : Nat) (A' : Option Addr) (c' : Nat) (M : List RM), j <= k /\ m <= 16384 /\ s7 = .slice A' m c' /\ s8 = .int .i64 (j : Int) /\ Hid (M.length = m) /\ Hid (qG (tpsF (T.drop j)) (rmF M) = qG (tpsF T) []) /\ Hid (qx (tpsF (T.drop j)) m = false) /\ Hid (RmS W.heap.size wr (.slice A' m c') M 0) /\ Hid (zG 0 (rmF M) = true) /\ Hid (∀ x ∈ M, x.bs.length <= 1048576) /\ Hid (Below W.heap.size W wr)) (fun _ s8 _ => k - (intOf s8).toNat)
   case atStart => exact ⟨0, 0, none, 0, [], Nat.zero_le _, Nat.zero_le _, rfl, rfl, zdX rfl, zdX (by rw [List.drop_zero]; rfl), zdX (by rw [List.drop_zero]; exact LF.out), zdX (RmS.nil _ _), zdX rfl, zdX (fun x m => by cases m), HW⟩
   case round =>
    obtain ⟨j, m, A', c', M, hj, hm, rfl, rfl, hms, hjn, hlg, hs, htm, hbl, hq⟩ := hrel
    clear HW
    by_cases lt : j < k
    ·have kl : j < T.length := by rw [<- HN.out]; exact lt
     have DD := HD.out.below hq.out HBB.out
     obtain ⟨ad, rfl, lb, z1⟩ := DD.at j kl
     have FT := DD.ok _ (List.getElem_mem kl)
     have JS := hjn.out
     have LS := hlg.out
     rw [ZT T j kl] at JS LS
     obtain ⟨p1, p2, p3⟩ := JJ LS
     rw [zU] at p2 p3
     generalize T[j] = x at *
     obtain ⟨xA, xc, xL⟩ := x
     change wr.cell? (ad.add j) = some (.slice xA xL.length xc) at z1
     dsimp only at FT JS p1 p2 p3
     have CT := zdX (r_InTime xA xc xL B wr FT (Nat.le_trans HBB.out hq.out.size))
     obtain ⟨tb, htb⟩ : ∃ tb, tb = qU (frms xL) := ⟨_, rfl⟩
     rw [<- htb] at CT
     have HTB := zdX htb
     have adb : (ad.add j).block < wr.heap.size := by rw [z8]; exact Nat.lt_of_lt_of_le lb (Nat.le_trans HBB.out hq.out.size)
     obtain ⟨xn, hxn⟩ : ∃ xn, xn = xL.length := ⟨_, rfl⟩
     have HXN := zdX hxn
     rw [<- hxn] at CT z1 p2 p3
     have ZC : Hid (∀ w1, Below wr.heap.size wr w1 -> w1.cell? (ad.add j) = some (.slice xA xn xc)) := zdX (fun w1 hb1 => (hb1.cell adb).trans z1)
     have q0 : (0 : Int) <= (j : Int) := by omega
     have q5 : (j : Int) < (k : Int) := by omega
     have tn : (j : Int).toNat = j := by omega
     have wk := zdY ((j : Int) + 1) (by omega)
     have HJS := zdX JS
     have HP := zdX (And.intro p1 p3)
     have HFT := zdX FT
     clear DD FT lb htb hjn hlg JS LS p1 p3 hxn adb
     go_wp2_with fail
     refine CT.out.mono ?_; rintro e w1 ⟨rfl, hb1⟩
     have z2 := ZC.out w1 hb1
     have B1 := zdX (hq.out.trans (hb1.mono hq.out.size))
     have S1 := zdX (hs.out.below hb1)
     have FT1 := zdX (HFT.out.below hb1 (Nat.le_trans HBB.out hq.out.size))
     have lB1 : B <= w1.heap.size := Nat.le_trans HBB.out B1.out.size
     have HLB := zdX lB1
     clear CT hb1 ZC z1 hs hq HFT lB1
     cases tb with
     | false =>
      have EN := zdX (ZU (W := W) (w' := w1) (T := tpsF T) (show qd (tpsF T) = ([], 301) by
       unfold qd
       rw [if_neg (by rw [LF.out]; decide), <- HJS.out, qG, if_pos (Or.inl HTB.out.symm)]) B1.out)
      go_wp2_with fail
      go_ret2
      exact EN.out
     | true =>
      obtain ⟨base, hbase⟩ : ∃ base, base = zD (rmF M) := ⟨_, rfl⟩
      have bb : 0 <= base /\ base <= 1099511627776 := by
       rw [hbase]
       by_cases z : rmF M = []
       ·rw [z]; exact ⟨by decide, by decide⟩
       ·exact ZR _ 0 htm.out z
      have HBS := zdX hbase
      have MN := HP.out.1
      rw [zZ, Bool.or_eq_false_iff] at MN
      have OKL : Hid (∀ i, (hi : i < xL.length) -> (xL[i]).b.bs.length <= 1048576 /\ 0 <= (xL[i]).at_ /\ (xL[i]).at_ <= zD (frms xL) /\ (xL[i]).at_ <= 1099511627776) := zdX (fun i hi => by
       have hi2 : i < (frms xL).length := by rw [zU]; exact hi
       have a := vO MN.1 _ (List.getElem_mem hi2)
       have b := xV _ 0 HTB.out.symm i i hi2 zdZ
       have c := xV _ 0 HTB.out.symm i (xL.length - 1) (by rw [zU]; omega) (by omega)
       have d := ZS (L := xL) (by omega)
       rw [jQ xL i hi] at a b
       rw [jQ xL i hi, jQ xL (xL.length - 1) (by omega)] at c
       rw [d]
       exact ⟨a, b.2.1, c.1, b.2.2⟩)
      have ONE : Hid (∀ x ∈ xL, x.b.bs.length <= 1048576) := zdX (fun x m => by
       obtain ⟨i, hi, rfl⟩ := List.mem_iff_getElem.1 m
       exact (OKL.out i hi).1)
      have CP := Vn xA xc xL B w1 FT1.out HLB.out (by rw [<- HXN.out]; omega)
      rw [<- HXN.out] at CP
      have CP := zdX CP
      have LA : Hid (0 < m -> ∃ r, A' = some ⟨r, 0, none⟩ /\ w1.cell? ⟨r, (m - 1) * 2, none⟩ = some (.int .i64 base)) := zdX (fun pos => by rw [hbase]; exact S1.out.last hms.out pos)
      clear MN hbase
      go_upto_if 51 with fail
      go_cut [10] from 49 to 58 (fun s10 wx => s10 = .int .i64 base /\ wx = w1)
      case first =>
       by_cases z : m = 0
       ·subst z
        have b0 : base = 0 := by
         rw [HBS.out, List.eq_nil_of_length_eq_zero hms.out]
         rfl
        subst b0
        go_wp2_with fail
        go_meet
        exact ⟨rfl, rfl⟩
       ·have zp : (0 : Int) < (m : Int) := by omega
        obtain ⟨r, rfl, lc⟩ := LA.out (by omega)
        have wn := zdY ((m : Int) - 1) (by omega)
        have r0 : (0 : Int) <= (m : Int) - 1 := by omega
        have r5 : (m : Int) - 1 < (m : Int) := by omega
        have rn : ((m : Int) - 1).toNat = m - 1 := by omega
        go_wp2_with fail
        go_meet
        exact ⟨rfl, rfl⟩
      case rest =>
       obtain ⟨rfl, hwc⟩ := hcut
       rw [hwc]
       clear LA hwc
       go_wp2_with fail
       refine CP.out.mono ?_; rintro e w2 ⟨v, M1, rfl, S2, F2, X2, B2⟩
       obtain ⟨A1, c1, e1⟩ := S2.slc
       have m1 : M1.length = xn := by rw [<- Je, F2, zU, HXN.out]
       rw [Nat.add_zero, m1] at e1
       subst e1
       have HS2 := zdX S2
       have HF2 := zdX F2
       have HB2 := zdX B2
       have M1L := zdX m1
       clear CP S2 F2 X2 B2 m1
       go_wp2_with fail
       go_loopw [12] (fun s12 wx => ∃ (i : Nat) (P Q : List RM), i <= xn /\ s12 = .int .i64 (i : Int) /\ Hid (P.length = i) /\ Hid (i + Q.length = xn) /\ Hid (RmS w1.heap.size wx (.slice A1 xn c1) (P ++ Q) 0) /\ Hid (rmF P = qF base (frms (xL.take i))) /\ Hid (rmF Q = frms (xL.drop i)) /\ Hid (∀ a, a < i -> (ha : a < xL.length) -> (xL[a]).at_ + base <= 1099511627776) /\ Hid (Below w1.heap.size w1 wx)) (fun s12 _ => xn - (intOf s12).toNat)
       case atStart => exact ⟨0, [], M1, Nat.zero_le _, rfl, zdX rfl, zdX (by rw [M1L.out, Nat.zero_add]), HS2, zdX rfl, zdX (by rw [HF2.out, List.drop_zero]), zdX (fun a h => absurd h (Nat.not_lt_zero a)), HB2⟩
       case round =>
        obtain ⟨i, P, Q, hi, rfl, hp, hqq, hs, hfp, hfq, hmx, hbx⟩ := hrel
        clear HS2 HB2
        by_cases li : i < xn
        ·have il : i < xL.length := by rw [<- HXN.out]; exact li
         obtain ⟨x, Q', rfl⟩ : ∃ x Q', Q = x :: Q' := by
          cases Q with
          | nil => have := hqq.out; simp at this; omega
          | cons x Q' => exact ⟨x, Q', rfl⟩
         obtain ⟨r, c2, e, rl, rs, rne, rf, rcap⟩ := hs.out.row (by rw [List.length_append, List.length_cons]; omega)
         injection e with e1 e2 e3
         subst e1
         have cl := hs.out.cell
         rw [hp.out] at cl
         obtain ⟨_, cl1, cl2⟩ := cl
         have cl2 := cl2 (i * 2)
         have fq := hfq.out
         rw [List.drop_eq_getElem_cons il] at fq
         have fq : (⟨x.at_, x.bs⟩ : Frm) :: rmF Q' = FA.frm xL[i] :: frms (xL.drop (i + 1)) := fq
         injection fq with fq1 fq2
         have ft : x.at_ = (xL[i]).at_ := congrArg Frm.at_ fq1
         have fq1 : x.bs = (xL[i]).b.bs := congrArg Frm.bs fq1
         have ok := OKL.out i il
         rw [<- ft] at ok
         have T5 := hs.out.time (x.at_ + base) (by omega)
         have cl5 := T5.cell.2.1
         rw [hp.out] at T5 cl5
         dsimp only at cl5
         obtain ⟨w5, hw5⟩ : ∃ w5, w5 = wr.setCell ⟨r, i * 2, none⟩ (.int .i64 (x.at_ + base)) := ⟨_, rfl⟩
         rw [<- hw5] at T5 cl5
         have B5 := zdX (show Below w1.heap.size w1 w5 by rw [hw5]; exact hbx.out.setCell (p := ⟨r, i * 2, none⟩) rl _)
         have HW5 := zdX hw5
         have HT5 := zdX T5
         have NP := zdX (show rmF (P ++ [⟨x.at_ + base, x.g, x.c, x.bs, x.ex⟩]) = qF base (frms (xL.take (i + 1))) by
          rw [kv, hfp.out, kW xL i il, zaQ]
          unfold qF
          rw [List.map_append]
          congr 1
          show [(⟨x.at_ + base, x.bs⟩ : Frm)] = [⟨(xL[i]).at_ + base, (xL[i]).b.bs⟩]
          rw [ft, fq1])
         have HFQ := zdX fq2
         have HOK := zdX ok
         have HFT2 := zdX ft
         have HQL := zdX (show i + 1 + Q'.length = xn by have := hqq.out; rw [List.length_cons] at this; omega)
         obtain ⟨t, ht⟩ : ∃ t, t = x.at_ + base := ⟨_, rfl⟩
         have HTT := zdX ht
         have u0 : (0 : Int) <= (i : Int) := by omega
         have u5 : (i : Int) < (xn : Int) := by omega
         have un : (i : Int).toNat = i := by omega
         have uk := zdY ((i : Int) + 1) (by omega)
         have ut := zdY (x.at_ + base) (by omega)
         clear e2 e3 rl rs rne rf rcap hw5 T5 fq1 fq2 ft ok hs hfp hfq hbx hqq
         go_upto_region 24 with fail
         rw [<- HW5.out]
         clear cl1 cl2 HW5
         by_cases ov : 1099511627776 < x.at_ + base
         ·have EN := zdX (ZU (W := W) (w' := w5) (T := tpsF T) (show qd (tpsF T) = ([], 301) by
           unfold qd
           rw [if_neg (by rw [LF.out]; decide), <- HJS.out, qG, if_pos (Or.inr ⟨fun z => by
            have := (xH xL).1 z
            omega, by rw [<- HBS.out]; have := HOK.out; omega⟩)]) (B1.out.trans (B5.out.mono B1.out.size)))
          go_wp2_with fail
          go_ret2
          exact EN.out
         ·have MX := zdX (show ∀ a, a < i + 1 -> (ha : a < xL.length) -> (xL[a]).at_ + base <= 1099511627776 from fun a la ha => by
           by_cases z : a < i
           ·exact hmx.out a z ha
           ·have z2 : a = i := by omega
            subst z2
            rw [<- HFT2.out]
            omega)
          clear hmx
          go_wp2_with fail
          go_roundw
          case rel => exact ⟨i + 1, P ++ [⟨x.at_ + base, x.g, x.c, x.bs, x.ex⟩], Q', by omega, by go_num, zdX (by rw [List.length_append, hp.out]; rfl), HQL, zdX (by rw [List.append_assoc]; exact HT5.out), NP, HFQ, MX, B5⟩
          case measure => simp [intOf]; omega
        ·have e : i = xn := by omega
         subst e
         have u5 : ¬ (i : Int) < (i : Int) := by omega
         have qn : Q = [] := List.eq_nil_of_length_eq_zero (by have := hqq.out; omega)
         subst qn
         have st := hs.out
         rw [List.append_nil] at st
         obtain ⟨v6, w6, R, S6, G6⟩ := RmS.cat (S1.out.below hbx.out) st B1.out.size hbx.out.size (fun y my => (S1.out.one y my).lt.2.1) (by rw [hms.out, hp.out]; omega)
         obtain ⟨A6, c6, e6⟩ := S6.slc
         have l6 : (M ++ P).length + 0 = m + i := by rw [List.length_append, hms.out, hp.out, Nat.add_zero]
         rw [l6] at e6
         subst e6
         have BX := B1.out.trans (hbx.out.mono B1.out.size)
         have B6 := zdX (BX.grown G6 BX.size (fun q hq => ((S1.out.below hbx.out).own.lt q hq).1))
         have FA6 : rmF (M ++ P) = rmF M ++ qF base (frms xL) := by rw [kv, hfp.out, HXN.out, List.take_length]
         have nov : ¬ (frms xL ≠ [] /\ 1099511627776 - zD (rmF M) < zD (frms xL)) := fun ⟨z1, z2⟩ => by
          have ps : 0 < xL.length := by
           rcases Nat.eq_zero_or_pos xL.length with q | q
           ·exact absurd ((xH xL).2 q) z1
           ·exact q
          have := hmx.out (xL.length - 1) (by have := HXN.out; omega) (by omega)
          rw [ZS ps, <- HBS.out] at z2
          omega
         have JN := zdX (show qG (tpsF (T.drop (j + 1))) (rmF (M ++ P)) = qG (tpsF T) [] by
          have e := HJS.out
          rw [qG, if_neg, <- HBS.out] at e
          ·rw [FA6]; exact e
          ·rintro (z | z)
           ·rw [<- HTB.out] at z; cases z
           ·exact nov z)
         have TJ := zdX (show zG 0 (rmF (M ++ P)) = true by
          rw [FA6, HBS.out]
          refine zdR htm.out HTB.out.symm (fun ne => ?_)
          have : ¬ 1099511627776 - zD (rmF M) < zD (frms xL) := fun q => nov ⟨ne, q⟩
          omega)
         have BLN := zdX (show ∀ y ∈ M ++ P, y.bs.length <= 1048576 from fun y my => by
          rcases List.mem_append.1 my with my | my
          ·exact hbl.out y my
          ·have mm : (⟨y.at_, y.bs⟩ : Frm) ∈ qF base (frms xL) := by
            have e := hfp.out
            rw [HXN.out, List.take_length] at e
            rw [<- e]
            exact List.mem_map_of_mem (f := fun x : RM => (⟨x.at_, x.bs⟩ : Frm)) my
           obtain ⟨f, mf, ef⟩ := List.mem_map.1 mm
           have ef : f.bs = y.bs := congrArg Frm.bs ef
           obtain ⟨z, mz, rfl⟩ := List.mem_map.1 mf
           have := ONE.out z mz
           rw [<- ef]
           exact this)
         have HS6 := zdX S6
         have HL6 := zdX (show (M ++ P).length = m + i from l6)
         clear st S6 G6 BX FA6 nov hs hfp hfq hbx hmx l6
         go_wp2_with (first | (at_builtin; refine xG rfl (.tmp 87) (.tmp 88) 24 24 rfl _ _ _ _ rfl rfl R ?_) | fail)
         go_roundw
         case rel => exact ⟨j + 1, m + i, A6, c6, M ++ P, by omega, p2, rfl, by go_num, HL6, JN, zdX HP.out.2, HS6, TJ, BLN, B6⟩
         case measure => simp [intOf]; omega
    ·have e : j = k := by omega
     subst e
     have q5 : ¬ (j : Int) < (j : Int) := by omega
     have FIN : Hid (JnD W (tpsF T) (.returned (.tuple #[.slice A' m c', .int .i64 0])) wr) := zdX (by
      have je := hjn.out
      rw [HN.out, List.drop_length] at je
      have je : (rmF M, 0) = qG (tpsF T) [] := je
      have jt : qd (tpsF T) = (rmF M, 0) := by unfold qd; rw [if_neg (by rw [LF.out]; decide), <- je]
      refine ⟨A', c', M.map RM.fa, by rw [jt, List.length_map, hms.out], by rw [jt, rmF_fa], hs.out.frs (by rw [hms.out]; omega) (fun x mx => by have := hbl.out x mx; omega), hq.out, by rw [List.length_map, hms.out]; exact hm⟩)
     clear hs hq hjn
     go_wp2_with fail
     go_ret2
     exact FIN.out
end
end
section
open Go Go.RowKit Go.Sort
section
theorem zaT {w : World} {B : Nat} {x : BA} (D : ByteD w B x) : (convert 27 9 (.slice x.A x.bs.length x.c)).run Tryz.prog w = .ok (.string (barr x.bs)) w := by
 obtain ⟨A, c, bs⟩ := x
 cases A with
 | none =>
  have h1 : c = 0 := D.nil rfl
  have h2 : bs.length <= c := D.cap
  obtain rfl : bs = [] := List.eq_nil_of_length_eq_zero (by omega)
  subst h1
  exact Lib.run_convert_nil_bytes w _ _ 5 0 Tryz.underlying27 Tryz.underlying5 Tryz.underlying9
 | some ad =>
  dsimp only
  rw [run_convert_bytes_string w _ _ 5 (some ad) bs.length c Tryz.underlying27 Tryz.underlying5 Tryz.underlying9]
  have hl := run_loadCells_list (P := Tryz.prog) w ad (bts bs) (fun j u hu => by
   obtain ⟨a', e, _, k⟩ := D.sees (fun z => by have z2 : bts bs = [] := z; rw [z2] at hu; simp at hu)
   cases e
   exact k j u hu)
  rw [xU] at hl
  rw [run_bytesToString w _ bs.length c bs hl, Kh]
theorem zaU : ∀ {a b : List Int}, Byt a -> Byt b -> (a.map fun n : Int => UInt8.ofNat n.toNat) = (b.map fun n : Int => UInt8.ofNat n.toNat) -> a = b
 | [], [], _, _, _ => rfl
 | [], y :: b, _, _, h => by simp at h
 | x :: a, [], _, _, h => by simp at h
 | x :: a, y :: b, ha, hb, h => by
  simp only [List.map_cons, List.cons.injEq] at h
  have x1 := ha x (by simp)
  have y1 := hb y (by simp)
  have e : x = y := by
   have := congrArg UInt8.toNat h.1
   simp only [UInt8.toNat_ofNat'] at this
   omega
  rw [e, zaU (fun z m => ha z (by simp [m])) (fun z m => hb z (by simp [m])) h.2]
theorem barr_inj {a b : List Int} (ha : Byt a) (hb : Byt b) (h : barr a = barr b) : a = b := by
 unfold barr at h
 have h := congrArg (fun s : ByteArray => s.data.toList) h
 simp only at h
 exact zaU ha hb h
theorem frms_ext {L M : List FA} (hl : L.length = M.length) (h : ∀ k, (h1 : k < L.length) -> (h2 : k < M.length) -> (L[k]).at_ = (M[k]).at_ /\ (L[k]).b.bs = (M[k]).b.bs) : frms L = frms M := by
 unfold frms
 refine List.ext_getElem (by rw [List.length_map, List.length_map, hl]) (fun k a b => ?_)
 rw [List.length_map] at a b
 rw [List.getElem_map, List.getElem_map]
 have := h k a b
 unfold FA.frm
 rw [this.1, this.2]
def SamR (W : World) (l m : List Frm) (e : Ending) (w' : World) : Prop := ∃ b : Bool, e = .returned (.bool b) /\ (b = true ↔ l = m) /\ Below W.heap.size W w'
theorem JL {W w' : World} {l m : List Frm} (h : ¬ l = m) (b : Below W.heap.size W w') : SamR W l m (.returned (.bool false)) w' := ⟨false, rfl, ⟨fun z => (by cases z), fun z => absurd z h⟩, b⟩
theorem samR_yes {W w' : World} {l m : List Frm} (h : l = m) (b : Below W.heap.size W w') : SamR W l m (.returned (.bool true)) w' := ⟨true, rfl, ⟨fun _ => h, fun _ => rfl⟩, b⟩
end
end
section
open Go Go.RowKit Go.Sort
section
set_option maxHeartbeats 8000000 in
set_option maxRecDepth 100000 in
theorem ZV (A A2 : Option Addr) (c c2 : Nat) (L M : List FA) (B B2 : Nat) (W : World) (D : FrsD W B A c L) (D2 : FrsD W B2 A2 c2 M) (hB : B <= W.heap.size) (hB2 : B2 <= W.heap.size) : Calls Tryz.prog 21 #[.slice A L.length c, .slice A2 M.length c2] W (SamR W (frms L) (frms M)) := by
 have HD := zdX D
 have HD2 := zdX D2
 obtain ⟨n, hn⟩ : ∃ n, n = L.length := ⟨_, rfl⟩
 obtain ⟨m, hm⟩ : ∃ m, m = M.length := ⟨_, rfl⟩
 have HN := zdX hn
 have HM := zdX hm
 have nl : n <= 4398046511104 := by have := D.sz; omega
 have ml : m <= 4398046511104 := by have := D2.sz; omega
 rw [<- hn, <- hm]
 clear hn hm D D2
 by_cases ne : n = m
 case neg =>
  have ne' : ¬ (n : Int) = (m : Int) := by omega
  have NE : Hid (¬ frms L = frms M) := zdX (fun z => ne (by have := congrArg List.length z; rw [zU, zU, <- HN.out, <- HM.out] at this; exact this))
  go_enter Tryz.func21, Tryz.ntmps21
  go_wp2_with fail
  go_ret
  exact JL NE.out (Below.refl _ _)
 subst ne
 go_enter Tryz.func21, Tryz.ntmps21
 go_wp2_with fail
 go_loopw [5] (fun s5 wr => ∃ (k : Nat), k <= n /\ s5 = .int .i64 (k : Int) /\ Hid (∀ j, (h1 : j < L.length) -> (h2 : j < M.length) -> j < k -> (L[j]).at_ = (M[j]).at_ /\ (L[j]).b.bs = (M[j]).b.bs) /\ Hid (Below W.heap.size W wr)) (fun s5 _ => n - (intOf s5).toNat)
 case atStart => exact ⟨0, Nat.zero_le _, rfl, zdX (fun j _ _ h => absurd h (Nat.not_lt_zero _)), zdX (Below.refl _ _)⟩
 case round =>
  obtain ⟨k, hk, rfl, hs, hb⟩ := hrel
  by_cases lt : k < n
  ·have kl : k < L.length := by rw [<- HN.out]; exact lt
   have km : k < M.length := by rw [<- HM.out]; exact lt
   have F1 := HD.out.below hb.out hB
   have F2 := HD2.out.below hb.out hB2
   obtain ⟨ad, rfl, l1, y1, y2⟩ := F1.at k kl
   obtain ⟨ae, rfl, l2, z1, z2⟩ := F2.at k km
   have cx := fun q => zaT ((HD.out.below (below_drewN hb.out q) hB).ok _ (List.getElem_mem kl)).b
   have cy := fun q => zaT ((HD2.out.below (below_drewN hb.out q) hB2).ok _ (List.getElem_mem km)).b
   have rx := zdX (F1.ok _ (List.getElem_mem kl)).b.rng
   have ry := zdX (F2.ok _ (List.getElem_mem km)).b.rng
   have NS := zdX (fun h : (L[k]).at_ = (M[k]).at_ /\ (L[k]).b.bs = (M[k]).b.bs => show ∀ j, (h1 : j < L.length) -> (h2 : j < M.length) -> j < k + 1 -> (L[j]).at_ = (M[j]).at_ /\ (L[j]).b.bs = (M[j]).b.bs from fun j h1 h2 lj => by
    rcases Nat.lt_or_ge j k with q | q
    ·exact hs.out j h1 h2 q
    ·obtain rfl : j = k := by omega
     exact h)
   have NF := zdX (fun h : frms L = frms M => show (L[k]).at_ = (M[k]).at_ /\ (L[k]).b.bs = (M[k]).b.bs by
    have e1 := jQ L k kl
    have e2 := jQ M k km
    simp only [h] at e1
    rw [e1] at e2
    exact ⟨congrArg Frm.at_ e2, congrArg Frm.bs e2⟩)
   have q0 : (0 : Int) <= (k : Int) := by omega
   have q5 : (k : Int) < (n : Int) := by omega
   have tn : (k : Int).toNat = k := by omega
   have wk := zdY ((k : Int) + 1) (by omega)
   generalize L[k] = x at *
   generalize M[k] = y at *
   obtain ⟨xt, xA, xc, xs⟩ := x
   obtain ⟨yt, yA, yc, ys⟩ := y
   dsimp only at y1 y2 z1 z2 cx cy rx ry NS NF
   clear F1 F2 l1 l2 hs
   by_cases ct : xt = yt
   case neg =>
    have EN := zdX (fun (V : World) (b : Below W.heap.size W V) => JL (l := frms L) (m := frms M) (fun z => ct (NF.out z).1) b)
    clear NS NF rx ry
    go_upto_region 6 with fail
    refine jX 25 (by kernel_rfl) (by kernel_rfl) ?_
    simp only [zd0, zd1, zd2, zd3]
    repeat (first | go_big_quiet_step (fail) | quiet_step (fail))
    refine wpQuiet_nil ?_
    intro _ hw'
    obtain ⟨nq, hw''⟩ := hw'
    subst hw''
    have BN := zdX (below_drewN hb.out nq)
    go_wp2_with fail
    go_ret
    exact EN.out _ BN.out
   subst ct
   by_cases cb : xs = ys
   ·subst cb
    have NS := zdX (NS.out ⟨rfl, rfl⟩)
    clear NF rx ry
    go_upto_region 6 with fail
    refine jX 25 (by kernel_rfl) (by kernel_rfl) ?_
    simp only [zd0, zd1, zd2, zd3]
    repeat (first | go_big_quiet_step (fail) | quiet_step (fail))
    refine wpQuiet_nil ?_
    intro _ hw'
    obtain ⟨nq, hw''⟩ := hw'
    subst hw''
    have BN := zdX (below_drewN hb.out nq)
    go_wp2_with fail
    go_roundw
    case rel => exact ⟨k + 1, by omega, by go_num, NS, BN⟩
    case measure => simp [intOf]; omega
   ·have cz : ((barr xs).toList == (barr ys).toList) = false := by rw [Z6]; exact decide_eq_false (fun z => cb (barr_inj rx.out ry.out z))
    have EN := zdX (fun (V : World) (b : Below W.heap.size W V) => JL (l := frms L) (m := frms M) (fun z => cb (NF.out z).2) b)
    clear NS NF rx ry cb
    go_upto_region 6 with fail
    refine jX 25 (by kernel_rfl) (by kernel_rfl) ?_
    simp only [zd0, zd1, zd2, zd3]
    repeat (first | go_big_quiet_step (fail) | quiet_step (fail))
    refine wpQuiet_nil ?_
    intro _ hw'
    obtain ⟨nq, hw''⟩ := hw'
    subst hw''
    have BN := zdX (below_drewN hb.out nq)
    go_wp2_with fail
    go_ret
    exact EN.out _ BN.out
  ·have e : k = n := by omega
   subst e
   have q5 : ¬ (k : Int) < (k : Int) := by omega
   have EQ : Hid (frms L = frms M) := zdX (frms_ext (by rw [<- HN.out, <- HM.out]) (fun j h1 h2 => hs.out j h1 h2 (by have := HN.out; omega)))
   clear hs
   go_wp2_with fail
   go_ret
   exact samR_yes EQ.out hb.out
end
end
section
open Go Go.RowKit Go.Sort
section
theorem fa_frms (M : List RM) : frms (M.map RM.fa) = rmF M := by unfold frms rmF; rw [List.map_map]; rfl
theorem RoomD.mark {w : World} {B : Nat} {A : Option Addr} {c : Nat} {M : List RM} (h : RoomD w B A c M) {x : RM} (hx : x ∈ M) (j : Nat) (h1 : x.bs.length <= j) (h2 : j < x.bs.length + 9) : w.cell? ⟨x.g, j, none⟩ = some (.int .u8 165) := by
 have u : (bts (x.bs ++ List.replicate 9 165))[j]? = some (.int .u8 165) := by
  unfold bts
  rw [List.getElem?_map, List.getElem?_append_right h1, List.getElem?_replicate, if_pos (by omega)]
  rfl
 obtain ⟨ad, e, _, k⟩ := (h.mks x hx).2 (fun z => by rw [z] at u; simp at u)
 cases e
 have := k j _ u
 rw [Addr.add_lit, Nat.zero_add] at this
 exact this
theorem z77_at : ∀ (k j i : Nat), j < k -> i < 2 -> (z77 k)[j * 2 + i]? = ([Value.int .i64 (-77), Value.slice none 0 0])[i]?
 | k + 1, 0, i, _, hi => by
  have e : z77 (k + 1) = [Value.int .i64 (-77), Value.slice none 0 0] ++ z77 k := rfl
  rw [e, Nat.zero_mul, Nat.zero_add, List.getElem?_append_left (by simpa using hi)]
 | k + 1, j + 1, i, hj, hi => by
  have e : z77 (k + 1) = [Value.int .i64 (-77), Value.slice none 0 0] ++ z77 k := rfl
  rw [e, List.getElem?_append_right (by show 2 <= _; omega)]
  have := z77_at k j i (by omega) hi
  rw [<- this]
  congr 1
  show (j + 1) * 2 + i - 2 = _
  omega
theorem RoomD.behind {w : World} {B : Nat} {A : Option Addr} {c : Nat} {M : List RM} (h : RoomD w B A c M) (j : Nat) (hj : j < 9) : ∃ ad, A = some ad /\ w.cell? (ad.add ((M.length + j) * 2)) = some (.int .i64 (-77)) /\ w.cell? ⟨(ad.add ((M.length + j) * 2)).block, (ad.add ((M.length + j) * 2)).off + 1, none⟩ = some (.slice none 0 0) := by
 have g : ∀ i, i < 2 -> (rmV M ++ z77 9)[(M.length + j) * 2 + i]? = ([Value.int .i64 (-77), Value.slice none 0 0])[i]? := fun i hi => by
  rw [List.getElem?_append_right (by rw [xv]; omega), xv, show (M.length + j) * 2 + i - M.length * 2 = j * 2 + i by omega]
  exact z77_at 9 j i hj hi
 obtain ⟨ad, e, _, k⟩ := h.row (fun z => by have := congrArg List.length z; rw [List.length_append, xv, z77_len] at this; simp at this)
 refine ⟨ad, e, k _ _ (g 0 (by decide)), ?_⟩
 rw [vH (ad.add ((M.length + j) * 2)) 1 (by decide), jY]
 exact k _ _ (g 1 (by decide))
set_option maxHeartbeats 16000000 in
set_option maxRecDepth 100000 in
theorem law_kept (A : Option Addr) (c : Nat) (M : List RM) (B : Nat) (A2 : Option Addr) (c2 : Nat) (L : List FA) (B2 : Nat) (W : World) (R : RoomD W B A c M) (D : FrsD W B2 A2 c2 L) (hB : B <= W.heap.size) (hB2 : B2 <= W.heap.size) (e : rmF M = frms L) (hl : M.length <= 134217728) (hb : ∀ x ∈ M, x.bs.length <= 134217728) :
  Calls Tryz.prog 17 #[.slice A M.length c, .slice A2 L.length c2] W fun e w' => e = .returned (.bool true) /\ Below W.heap.size W w' := by
 have SM := ZV A A2 c c2 (M.map RM.fa) L B B2 W R.frs D hB hB2
 rw [fa_frms, List.length_map] at SM
 have SM : Hid (Calls Tryz.prog 21 #[.slice A M.length c, .slice A2 L.length c2] W fun e w' => e = .returned (.bool true) /\ Below W.heap.size W w') := zdX (SM.mono (fun e' w' ⟨b, e1, e2, e3⟩ => ⟨by rw [e1, e2.2 e], e3⟩))
 have HR := zdX R
 have HB := zdX hB
 have HBS := zdX hb
 obtain ⟨n, hn⟩ : ∃ n, n = M.length := ⟨_, rfl⟩
 have HN := zdX hn
 have cp : n + 9 <= c := by have := R.cap; omega
 rw [<- hn] at SM hl ⊢
 generalize L.length = m at *
 clear R D hB hB2 e hb hn
 go_enter Tryz.func17, Tryz.ntmps17
 go_wp2_with fail
 refine SM.out.mono ?_; rintro e w1 ⟨rfl, hb1⟩
 have B1 := zdX hb1
 clear SM hb1
 go_wp2_with fail
 go_loopw [6] (fun s6 wr => ∃ (i : Nat), i <= n /\ s6 = .int .i64 (i : Int) /\ Hid (Below W.heap.size W wr)) (fun s6 _ => n - (intOf s6).toNat)
 case atStart => exact ⟨0, Nat.zero_le _, rfl, B1⟩
 case round =>
  obtain ⟨i, hi, rfl, hw⟩ := hrel
  by_cases lt : i < n
  ·have il : i < M.length := by rw [<- HN.out]; exact lt
   have RD := HR.out.below hw.out HB.out
   obtain ⟨ad, rfl, lb, z1, z2⟩ := RD.frs.at i (by rw [List.length_map]; exact il)
   simp only [List.getElem_map] at z1 z2
   have mx := List.getElem_mem il
   have mc := (RD.mks _ mx).1
   have MK := zdX (fun (wr : World) (hw : Below W.heap.size W wr) j h1 h2 => (HR.out.below hw HB.out).mark mx j h1 h2)
   have bl := HBS.out _ mx
   generalize M[i] = x at *
   change wr.cell? ⟨(ad.add (i * 2)).block, (ad.add (i * 2)).off + 1, none⟩ = some (.slice (some ⟨x.g, 0, none⟩) x.bs.length x.c) at z2
   obtain ⟨xn, hxn⟩ : ∃ xn, xn = x.bs.length := ⟨_, rfl⟩
   rw [<- hxn] at z2 mc MK bl
   generalize x.g = g at *
   generalize x.c = xc at *
   have q0 : (0 : Int) <= (i : Int) := by omega
   have q5 : (i : Int) < (n : Int) := by omega
   have tn : (i : Int).toNat = i := by omega
   have wk := zdY ((i : Int) + 1) (by omega)
   have w9 := zdY ((xn : Int) + 9) (by omega)
   have x0 : (0 : Int) <= (xn : Int) + 9 := by omega
   have x1 : (xn : Int) + 9 <= (xc : Int) := by omega
   have xt : ((xn : Int) + 9).toNat = xn + 9 := by omega
   clear RD lb z1 mx hxn
   go_wp2_with fail
   go_loopw [9] (fun s9 wr => ∃ (k : Nat), xn <= k /\ k <= xn + 9 /\ s9 = .int .i64 (k : Int) /\ Hid (Below W.heap.size W wr)) (fun s9 _ => xn + 9 - (intOf s9).toNat)
   case atStart => exact ⟨xn, zdZ, by omega, rfl, hw⟩
   case round =>
    obtain ⟨k, k0, k1, rfl, hq⟩ := hrel
    by_cases lk : k < xn + 9
    ·have cm := MK.out wr hq.out k k0 lk
     have p0 : (0 : Int) <= (k : Int) := by omega
     have p5 : (k : Int) < (xn : Int) + 9 := by omega
     have p6 : (k : Int) < ((xn + 9 : Nat) : Int) := by omega
     have pn : (k : Int).toNat = k := by omega
     have wj := zdY ((k : Int) + 1) (by omega)
     go_wp2_with fail
     go_roundw
     case rel => exact ⟨k + 1, by omega, by omega, by go_num, hq⟩
     case measure => simp [intOf]; omega
    ·have e : k = xn + 9 := by omega
     subst e
     have p5 : ¬ ((xn + 9 : Nat) : Int) < (xn : Int) + 9 := by omega
     clear k0 k1
     go_wp2_with fail
     go_roundw
     case rel => exact ⟨i + 1, by omega, by go_num, hq⟩
     case measure => simp [intOf]; omega
  ·have e : i = n := by omega
   subst e
   have q5 : ¬ (i : Int) < (i : Int) := by omega
   obtain ⟨ad, rfl, _⟩ := HR.out.behind 0 (by decide)
   have w9 := zdY ((i : Int) + 9) (by omega)
   have x0 : (0 : Int) <= (i : Int) + 9 := by omega
   have x1 : (i : Int) + 9 <= (c : Int) := by omega
   have xt : ((i : Int) + 9).toNat = i + 9 := by omega
   go_wp2_with fail
   go_loopw [11] (fun s11 wr => ∃ (k : Nat), i <= k /\ k <= i + 9 /\ s11 = .int .i64 (k : Int) /\ Hid (Below W.heap.size W wr)) (fun s11 _ => i + 9 - (intOf s11).toNat)
   case atStart => exact ⟨i, zdZ, by omega, rfl, hw⟩
   case round =>
    obtain ⟨k, k0, k1, rfl, hq⟩ := hrel
    by_cases lk : k < i + 9
    ·obtain ⟨ae, e, z1, z2⟩ := (HR.out.below hq.out HB.out).behind (k - i) (by omega)
     cases e
     rw [show M.length + (k - i) = k by have := HN.out; omega] at z1 z2
     have p0 : (0 : Int) <= (k : Int) := by omega
     have p6 : (k : Int) < ((i + 9 : Nat) : Int) := by omega
     have p7 : (k : Int) < (i : Int) + 9 := by omega
     have pn : (k : Int).toNat = k := by omega
     have wj := zdY ((k : Int) + 1) (by omega)
     go_wp2_with fail
     go_roundw
     case rel => exact ⟨k + 1, by omega, by omega, by go_num, hq⟩
     case measure => simp [intOf]; omega
    ·have e : k = i + 9 := by omega
     subst e
     have p5 : ¬ ((i + 9 : Nat) : Int) < ((i + 9 : Nat) : Int) := by omega
     have p7 : ¬ (i : Int) + 9 < (i : Int) + 9 := by omega
     clear k0 k1
     go_wp2_with fail
     go_ret
     exact ⟨rfl, hq.out⟩
end
end
end Go.Proofs.YtmaofighbpnbiaaGreatDoor
