/- What lies below tapes (kept of earlier texts: TqJ, TqK, TqM, TqT, TqZ, TrM, TpR, TrF, TrS). -/
import Derived.Test.YtmaofighbpnbiaaGreatDoorTaEP
import Derived.Lib.SlBytesConst
set_option linter.unusedVariables false
set_option linter.unusedSimpArgs false
namespace Go.Proofs.YtmaofighbpnbiaaGreatDoor
section
open Go Go.RowKit Go.Sort
section
def AtR (V : World) (t : Trm) (e : Ending) (w' : World) : Prop := ∃ A c, e = .returned (.tuple #[scrV (zO t) A c, .int .i64 0]) /\ NewRow V.heap.size 79 5 (.slice A t.cells.length c) t.cells.length (zd t.cells) w' /\ Below V.heap.size V w'
set_option maxHeartbeats 16000000 in
set_option maxRecDepth 100000 in
theorem t_PAt {W3 V : World} {pb : Nat} {w h : Int} {F : List Frm} {ev : Nat} (P : PlayAt W3 pb w h F ev V) (sz : zV w h = true) (ht : zC 0 F = true) (rng : ∀ f ∈ F, Byt f.bs) (lbs : ∀ f ∈ F, f.bs.length <= 1048576) (tot : (F.flatMap (·.bs)).length <= 268435456) (fl : F.length <= 16384) (time : Int) (h0 : 0 <= time) (h1 : time <= 1099511627776) :
  Calls Tryz.prog 28 #[.pointer (some ⟨pb, 0, none⟩), .int .i64 time] V (AtR V (zP w h (F.take (j9 F time)))) := by
 have hmf : ∀ (fn : Fn) (first cap : Array Value) (w : World), (Instr.makeFunc fn first cap).run Tryz.prog w = .ok (.func fn first cap) w := fun _ _ _ _ => rfl
 obtain ⟨Q, hQ⟩ : ∃ Q, Q = ((V.alloc (.cells #[.pointer (some ⟨pb, 0, none⟩)] 40)).alloc (.cells #[.int .i64 time] 2)).alloc (.cells #[.int .i64 0, .int .i64 0, .slice none 0 0, .int .i64 0, .int .i64 0, .bool false] 51) := ⟨_, rfl⟩
 have AQ := atQ V (some ⟨pb, 0, none⟩) time
 rw [<- hQ] at AQ
 have PQ := P.below AQ.bel
 obtain ⟨Af, cf, L, kb, vk, T, e1, e2, e3, e4, e5, e6, e7, e8, e9⟩ := PQ
 obtain ⟨n, hn⟩ : ∃ n, n = F.length := ⟨_, rfl⟩
 have nL : n = L.length := by rw [hn, <- e1, qx]
 obtain ⟨n1, hn1⟩ : ∃ n1, n1 = j9 F time := ⟨_, rfl⟩
 have n1l : n1 <= n := by rw [hn1, hn]; exact upto_le F time
 obtain ⟨k, hk⟩ : ∃ k, k = n1 / ev := ⟨_, rfl⟩
 have kl : k < kb.length := by rw [e7, <- hn, hk]; have := Nat.div_le_div_right (c := ev) n1l; omega
 obtain ⟨lo, hlo⟩ : ∃ lo, lo = k * ev := ⟨_, rfl⟩
 have lol : lo <= n1 := by rw [hlo, hk]; exact Nat.div_mul_le_self n1 ev
 rw [<- nL] at e3
 obtain ⟨Ak, kc, evk⟩ := qU e4
 subst evk
 obtain ⟨nk, hnk⟩ : ∃ nk, nk = kb.length := ⟨_, rfl⟩
 have nkl : nk <= 20000 := by have := Nat.div_le_self F.length ev; omega
 have FDQ := e2.below e5.bel zdA
 have capL : n <= cf := by rw [nL]; exact e2.cap
 have c2 := AQ.b2.c 0 _ rfl
 have c3 := AQ.b3.c 0 _ rfl
 have SE := zdy (zdr V.heap.size (V.heap.size + 1) pb n cf Af ev (.slice Ak kb.length kc) time F Q e3 c2 c3 hn (by omega) ht (fun i hi => by
  have hiL : i < L.length := by omega
  obtain ⟨ad, ea, _, z1, _⟩ := FDQ.at i hiL
  refine ⟨ad, ea, ?_⟩
  rw [z1]
  subst e1
  rw [xO L i hiL]))
 rw [<- hn1] at SE
 have p0 := e3.c 0 _ rfl
 have HQ := zdy hQ
 have HAQ := zdy AQ
 rw [<- hn1]
 -- what is there behind the search
 have ST : Hid (∀ V2, Below Q.heap.size Q V2 -> (Bk V2 pb [.slice Af n cf, .int .i64 (ev : Int), .slice Ak nk kc] 92) /\ V2.cell? ⟨V.heap.size, 0, none⟩ = some (.pointer (some ⟨pb, 0, none⟩)) /\ (∃ gk, Ak = some ⟨gk, 0, none⟩ /\ V2.cell? ⟨gk, k, none⟩ = some (.pointer (some ⟨kb[k], 0, none⟩))) /\ Calls Tryz.prog 54 #[.pointer (some ⟨kb[k], 0, none⟩)] V2 (fun e w' => ∃ nb, e = .returned (.pointer (some ⟨nb, 0, none⟩)) /\ St V2 [] nb (zP w h (F.take lo)) w')) := zdy (fun V2 hb => by
  have R := qc e4 hb
  refine ⟨by rw [hnk]; exact e3.of_eq (hb.block _ e3.lt), (AQ.b2.of_eq (hb.block _ AQ.b2.lt)).c 0 _ rfl, ?_, ?_⟩
  ·rcases R.2 with ⟨z, y⟩ | ⟨gk, cap, cur, z, _, eg, _, _, _, y⟩
   ·omega
   ·cases z
    refine ⟨gk, rfl, ?_⟩
    have := R.cells (g := gk) rfl k (ptrV kb[k]) (by rw [List.getElem?_map, List.getElem?_eq_getElem kl]; rfl)
    rw [Addr.add_lit, Nat.zero_add] at this
    exact this
  ·obtain ⟨i, hi⟩ := e6 k kl
   obtain ⟨F0, g1, up, _⟩ := (e5.below hb).at hi
   rw [<- hlo] at g1
   obtain ⟨Lv, hl⟩ := vJ (w := w) (h := h) sz rng lo
   exact zav g1 Lv.fine Lv.st.kept Lv.reps (by omega))
 have FRD : Hid (∀ V2, Below Q.heap.size Q V2 -> FrsD V2 V2.heap.size Af cf L) := zdy (fun V2 hb => (FDQ.below hb e5.bel.size).more (Nat.le_trans e5.bel.size hb.size))
 generalize hkk : kb[k] = kk at ST
 have dv : Int.tdiv (n1 : Int) (ev : Int) = (k : Int) := by rw [Int.tdiv_eq_ediv_of_nonneg (by omega), hk]; simp
 have ne0 : ¬ (ev : Int) = 0 := by omega
 have q0 : (0 : Int) <= (k : Int) := by omega
 have q5 : (k : Int) < (nk : Int) := by omega
 have tn : (k : Int).toNat = k := by omega
 have wk : IntKind.i64.wrap (k : Int) = (k : Int) := zdz _ (by omega)
 have ml : (k : Int) * (ev : Int) = (lo : Int) := by rw [hlo]; simp
 have nb16 : n <= 16384 := by omega
 have t0 : ¬ time < 0 := by omega
 have t1 : ¬ 1099511627776 < time := by omega
 have HE1 := zdy e1
 have HNL := zdy nL
 have HN := zdy hn
 clear hkk
 clear hQ AQ e1 e2 e3 e4 e5 e6 e7 e8 e9 nL hn1 hk hlo hnk FDQ P hn kl fl
 go_enter Tryz.func28, Tryz.ntmps28
 go_upto_region 1 with fail
 rw [<- HQ.out]
 go_wp2_with fail
 refine SE.out.mono ?_; rintro e V2 ⟨rfl, q, hV2⟩
 have BV := zdy (show Below Q.heap.size Q V2 by rw [hV2]; exact below_drewN (Below.refl _ Q) q)
 clear hV2 SE
 obtain ⟨b0, b1, ⟨gk, rfl, b2'⟩, CL⟩ := ST.out V2 BV.out
 have x0 := b0.c 0 _ rfl
 have x1 := b0.c 1 _ rfl
 have x2 := b0.c 2 _ rfl
 have CL := zdy CL
 have HB0 := zdy b0
 have HB1 := zdy (HAQ.out.b2.of_eq (BV.out.block _ HAQ.out.b2.lt))
 clear b0 ST
 go_wp2_with fail
 refine CL.out.mono ?_; rintro e V3 ⟨nb, rfl, S3⟩
 have B3 := ki S3.mv
 obtain ⟨U, hU⟩ : ∃ U, U = V3.drew := ⟨_, rfl⟩
 have BU : Below V3.heap.size V3 U := by rw [hU]; exact (Below.refl _ V3).drew
 have HS := zdy (S3.below BU)
 have KP3 := HB0.out.of_eq (B3.block _ HB0.out.lt)
 have KB3 := HB1.out.of_eq (B3.block _ HB1.out.lt)
 have y0 := KP3.c 0 _ rfl
 have y1 := KP3.c 1 _ rfl
 have y2 := KB3.c 0 _ rfl
 have KPU := KP3.of_eq (BU.block _ KP3.lt)
 have KBU := KB3.of_eq (BU.block _ KB3.lt)
 have u0 := KPU.c 0 _ rfl
 have u1 := KPU.c 1 _ rfl
 have u2 := KBU.c 0 _ rfl
 have HU := zdy hU
 obtain ⟨m, hm⟩ : ∃ m, m = n1 - lo := ⟨_, rfl⟩
 have HM := zdy hm
 have em : n1 - lo = m := hm.symm
 have mb16 : m <= 16384 := by omega
 clear hm
 clear CL S3 B3 BU KP3 KB3 KPU KBU hU x0 x1 x2 b1 b2' c2 p0
 go_upto_region 8 with fail
 go_cut [53, 54, 55] from 42 to 55 (fun s53 s54 s55 wx => ∃ SA sc, s53 = .slice SA m sc /\ s54 = .int .i64 (m : Int) /\ s55 = .int .i64 0 /\ Hid (0 < m -> SA = Af.map (fun a => a.add (lo * 2))) /\ wx = U)
 case first =>
  by_cases cl : cf = lo
  ·obtain rfl : n1 = lo := by omega
   obtain rfl : n = n1 := by omega
   obtain rfl : cf = n := by omega
   obtain rfl : m = 0 := by omega
   clear cl capL n1l lol em
   go_region
   rw [<- HU.out]
   go_wp2_with fail
   go_meet
   exact ⟨_, _, rfl, rfl, rfl, zdy (fun z => absurd z (Nat.lt_irrefl 0)), rfl⟩
  ·go_region
   rw [<- HU.out]
   go_wp2_with fail
   go_meet
   exact ⟨_, _, rfl, rfl, rfl, zdy (fun _ => rfl), rfl⟩
 case rest =>
  obtain ⟨SA, sc, rfl, rfl, rfl, hsa, hwx⟩ := hcut
  rw [hwx]
  clear hwx y0 y1 y2 u0 u1 u2 em
  have S0 : Hid (St V2 [] nb (zP w h (F.take (lo + 0))) U) := HS
  go_wp2_with fail
  go_loopw [55] (fun s55 wr => ∃ (j : Nat), j <= m /\ s55 = .int .i64 (j : Int) /\ Hid (St V2 [] nb (zP w h (F.take (lo + j))) wr)) (fun s55 _ => m - (intOf s55).toNat)
  case atStart => exact ⟨0, Nat.zero_le _, rfl, S0⟩
  case round =>
   obtain ⟨j, hj, rfl, he⟩ := hrel
   clear S0 HS
   by_cases lt : j < m
   ·have idx : lo + j < F.length := by have := HM.out; have := HN.out; omega
    have iL : lo + j < L.length := by rw [<- HNL.out, HN.out]; exact idx
    have F2 := FRD.out V2 BV.out
    obtain ⟨ad, ea, lb, z1, z2⟩ := (F2.below (ki he.out.mv) zdA).at (lo + j) iL
    have es : SA = some (ad.add (lo * 2)) := by rw [hsa.out (by omega), ea]; rfl
    subst es
    have AR := F2.arg (lo + j) iL
    have GT : (F[lo + j]).bs = (L[lo + j]).b.bs := by
     have := xO L (lo + j) iL
     have e := HE1.out
     subst e
     rw [this]
    rw [show (lo + j) * 2 = lo * 2 + j * 2 by omega, <- jD] at z1 z2
    have NXT := zdy (Kv w h F (lo + j) idx)
    have LBX := zdy (lbs _ (List.getElem_mem idx))
    generalize ad.add (lo * 2) = ab at *
    generalize L[lo + j] = x at *
    obtain ⟨xt, xA, xc, bs⟩ := x
    dsimp only at z1 z2 AR GT
    have q0 : (0 : Int) <= (j : Int) := by omega
    have q5 : (j : Int) < (m : Int) := by omega
    have tn : (j : Int).toNat = j := by omega
    have wk := zdz ((j : Int) + 1) (by omega)
    obtain ⟨Q5, hQ5⟩ : ∃ Q5, Q5 = wr.alloc (.cells #[.int .i64 xt, .slice xA bs.length xc] 47) := ⟨_, rfl⟩
    have hb5 : Below wr.heap.size wr Q5 := by rw [hQ5]; exact (Below.refl _ wr).alloc zdA _
    have K5 : Bk Q5 wr.heap.size [.int .i64 xt, .slice xA bs.length xc] 47 := by rw [hQ5]; exact Bk.new wr _ _
    have b1 := K5.c 1 _ rfl
    obtain ⟨Lv, hl⟩ := vJ (w := w) (h := h) sz rng (lo + j)
    have FE := arg_feed AR (he.out.below hb5) Lv (by rw [<- GT]; exact LBX.out) (by rw [<- GT]; have := LBX.out; omega)
    rw [<- GT, NXT.out, GT] at FE
    have FE := zdy FE
    have HQ5 := zdy hQ5
    clear F2 lb AR GT hb5 K5 hQ5 he Lv hl ea
    go_upto_region 11 with fail
    rw [<- HQ5.out]
    clear HQ5 z1 z2
    go_wp2_with fail
    refine FE.out.mono ?_; rintro e w6 ⟨rfl, S6⟩
    have S6 := zdy (show St V2 [] nb (zP w h (F.take (lo + (j + 1)))) w6 from S6)
    clear FE
    go_wp2_with fail
    go_roundw
    case rel => exact ⟨j + 1, by omega, by go_num, S6⟩
    case measure => simp [intOf]; omega
   ·have e : j = m := by omega
    subst e
    have q5 : ¬ (j : Int) < (j : Int) := by omega
    obtain ⟨t, ht'⟩ : ∃ t, t = zP w h (F.take n1) := ⟨_, rfl⟩
    have SF : St V2 [] nb t wr := by rw [ht', show n1 = lo + j by have := HM.out; omega]; exact he.out
    have Lv := (vJ (w := w) (h := h) sz rng n1).1
    rw [<- ht'] at Lv
    have HTT := zdy ht'
    have SC := zdy (t_Screen SF Lv.fine)
    have BW := ki SF.mv
    have K4 := (HAQ.out.b4.of_eq (BV.out.block _ HAQ.out.b4.lt))
    have K4w := K4.of_eq (BW.block _ K4.lt)
    have HK4 := zdy K4w
    have HBW := zdy (show Below V.heap.size V wr from (HAQ.out.bel.trans (BV.out.mono HAQ.out.bel.size)).trans (BW.mono (Nat.le_trans HAQ.out.bel.size BV.out.size)))
    clear he SF Lv BW K4 K4w ht' hsa
    go_wp2_with fail
    refine SC.out.mono ?_; rintro e w9 ⟨A9, c9, rfl, N9, B9⟩
    have K9 := HK4.out.of_eq (B9.block _ HK4.out.lt)
    have k0 := K9.c 0 _ rfl
    have f0 := K9.f 0
    have k1 := K9.c 1 _ rfl
    have f1 := K9.f 1
    have k2 := K9.c 2 _ rfl
    have f2 := K9.f 2
    have k3 := K9.c 3 _ rfl
    have f3 := K9.f 3
    have k4 := K9.c 4 _ rfl
    have f4 := K9.f 4
    have k5 := K9.c 5 _ rfl
    have f5 := K9.f 5
    have EN : Hid (∀ a b c d e f : Value, AtR V (zP w h (F.take n1)) (.returned (.tuple #[scrV (zO t) A9 c9, .int .i64 0])) (six w9 (V.heap.size + 1 + 1) a b c d e f)) := zdy (fun a b c d e f => by
     rw [<- HTT.out]
     have fr := (zar w9 (V.heap.size + 1 + 1) a b c d e f).1
     refine ⟨A9, c9, rfl, ⟨N9.1.keep (fun g mg => fr g (fun z => ?_)), fun g mg => by have := N9.2 g mg; have := HBW.out.size; omega⟩, zds (HBW.out.trans (B9.mono HBW.out.size)) (by omega) a b c d e f⟩
     have g1 := N9.2 g mg
     have g2 := HK4.out.lt
     omega)
    clear N9 B9 K9 SC
    unfold scrV at EN ⊢
    go_wp2_with fail
    refine bodyPost_ret (v := .tuple #[.agg #[.int .i64 (zO t).w, .int .i64 (zO t).h, .slice A9 (zO t).cells.length c9, .int .i64 (zO t).x, .int .i64 (zO t).y, .bool (zO t).shown], .int .i64 0]) (by rw [zdq rfl]; go_simp) rfl ?_
    exact EN.out _ _ _ _ _ _
end
end
section
open Go Go.RowKit Go.Sort
section
theorem CpyR.read {W w' : World} {v : Value} {l : List Frm} (h : CpyR W w' v l) (hl : l.length <= 1000000) (tot : (l.flatMap (·.bs)).length <= 140737488355328) : ∃ (A : Option Addr) (c : Nat) (L : List FA), v = .slice A L.length c /\ frms L = l /\ FrsD w' w'.heap.size A c L := by
 rcases h.2 with ⟨rfl, rfl⟩ | ⟨g, L', hg, o, r, e, ok⟩
 ·exact ⟨none, 0, [], rfl, rfl, fun _ => rfl, zdA, by simp, Sees.nil _ _ _, fun x m => by cases m⟩
 ·obtain ⟨A, c, ev⟩ := xq o
  have ev := xa o ev
  subst ev
  have ll : L'.length = l.length := by rw [<- e, qx]
  have FD := zaz o (by rw [vu, ll]; exact hl) (Zm r 0 (by rw [<- Jr, e]; exact tot) L' 0 [] (by simp) (fun x m => ⟨(ok x m).1, by have := ok x m; omega, by have := ok x m; omega⟩))
  exact ⟨A, c, _, rfl, by rw [Zl, QE, e], FD⟩
theorem al_new : newC 3 1 alL 1 = 0 := by decide +kernel
theorem al_last : qp alL = 20 := by decide
theorem al_u15 : j9 alL 15 = 1 := by decide +kernel
theorem al_u20 : j9 alL 20 = 2 := by decide +kernel
theorem Js : ∀ f ∈ alL, Byt f.bs := by
 intro f m
 have : f = ⟨10, [97, 98]⟩ \/ f = ⟨20, [13, 120]⟩ := by simpa [alL] using m
 rcases this with rfl | rfl <;> (intro b mb; simp at mb; rcases mb with rfl | rfl <;> decide)
theorem EncR.open {W w' : World} {w h : Int} {l : List Frm} {e : Ending} {D : List Int} {k : Int} (h' : EncR W w h l e w') (ee : encT w h l = (D, k)) (rng : Byt D) (ln : D.length <= 1000000000) : ∃ A c, e = .returned (.tuple #[.slice A D.length c, .int .i64 k]) /\ ByteD w' w'.heap.size ⟨A, c, D⟩ /\ Below W.heap.size W w' := by
 obtain ⟨v, e1, o, b⟩ := h'
 rw [ee] at e1 o
 dsimp only at e1 o
 obtain ⟨A, c, ev⟩ := qU o
 have ev := xa o ev
 subst ev
 refine ⟨A, c, e1, ⟨fun z => ?_, ?_, by show D.length <= _; omega, Sees.of_own o, rng⟩, b⟩
 ·rcases o.2 with ⟨q, _⟩ | ⟨g, cap, cur, q, _⟩
  ·injection q with q1 q2 q3
  ·injection q with q1 q2 q3; have z : A = none := z; rw [z] at q1; cases q1
 ·rcases o.2 with ⟨q, y⟩ | ⟨g, cap, cur, q, _, _, y, _⟩
  ·show D.length <= c; omega
  ·injection q with q1 q2 q3; show D.length <= c; rw [q3]; exact y
def alA (a b : Nat) : List FA := [⟨10, ⟨some ⟨a, 0, none⟩, 2, [97, 98]⟩⟩, ⟨20, ⟨some ⟨b, 0, none⟩, 2, [13, 120]⟩⟩]
theorem zaB {w : World} {b B : Nat} {vs : List Value} {T : TypeId} {fl : Nat × Nat} (K : w.heap[b]? = some (.cells vs.toArray T fl)) (hB : b < B) : Sees w B (some ⟨b, 0, none⟩) vs := fun ne => ⟨_, rfl, hB, fun j u hj => by
 rw [Addr.add_lit, Nat.zero_add]
 simp [World.cell?, K, hj]⟩
theorem row_sees {w : World} {b B : Nat} {vs : List Value} {T : TypeId} (K : Bk w b vs T) (hB : b < B) : Sees w B (some ⟨b, 0, none⟩) vs := fun ne => ⟨_, rfl, hB, fun j u hj => by
 rw [Addr.add_lit, Nat.zero_add]
 exact K.c j u hj⟩
theorem al_frs {w : World} {a b d : Nat} {f1 f2 : Nat × Nat} (K1 : w.heap[a]? = some (.cells [Value.int .u8 97, .int .u8 98].toArray 5 f1)) (K2 : w.heap[b]? = some (.cells [Value.int .u8 13, .int .u8 120].toArray 5 f2)) (K3 : Bk w d [.int .i64 10, .slice (some ⟨a, 0, none⟩) 2 2, .int .i64 20, .slice (some ⟨b, 0, none⟩) 2 2] 47) : FrsD w w.heap.size (some ⟨d, 0, none⟩) 2 (alA a b) := by
 refine ⟨(fun z => by cases z), zdA, by show (2 : Nat) * 32 <= _; decide, row_sees K3 K3.lt, fun x m => ?_⟩
 have : x = ⟨10, ⟨some ⟨a, 0, none⟩, 2, [97, 98]⟩⟩ \/ x = ⟨20, ⟨some ⟨b, 0, none⟩, 2, [13, 120]⟩⟩ := by simpa [alA] using m
 rcases this with rfl | rfl
 ·exact ⟨⟨(fun z => by cases z), zdA, (by show (2 : Nat) <= _; decide), zaB K1 (Array.getElem?_eq_some_iff.1 K1).1, (by show ∀ b ∈ [(97 : Int), 98], 0 <= b /\ b < 256; decide)⟩, (by show (-9223372036854775808 : Int) <= 10; decide), (by show (10 : Int) <= _; decide)⟩
 ·exact ⟨⟨(fun z => by cases z), zdA, (by show (2 : Nat) <= _; decide), zaB K2 (Array.getElem?_eq_some_iff.1 K2).1, (by show ∀ b ∈ [(13 : Int), 120], 0 <= b /\ b < 256; decide)⟩, (by show (-9223372036854775808 : Int) <= 20; decide), (by show (20 : Int) <= _; decide)⟩
theorem al_bb : Byt alB := enc_byt QG Js
theorem al_bl : alB.length <= 1000 := by decide +kernel
theorem zaC {w : World} {B n c : Nat} {A : Option Addr} {l : List Cel} (h : NewRow B 79 5 (.slice A n c) l.length (zd l) w) (l0 : 0 < l.length) : ∃ g, A = some ⟨g, 0, none⟩ /\ B <= g /\ g < w.heap.size /\ ∀ w' : World, w'.heap[g]? = w.heap[g]? -> ∀ k, k < l.length -> w'.cell? ⟨g, k * 5, none⟩ = some (.string (l.getD k celD).text) := by
 rcases h.1 with ⟨z, _⟩ | ⟨o, ne⟩
 ·omega
 ·rcases o.2 with ⟨_, z⟩ | ⟨g, cap, cur, z, _, e, nc, _⟩
  ·omega
  ·have z2 := z
   injection z2 with z1 z3 z4
   subst z1
   obtain ⟨c', rfl⟩ : ∃ c', c = c' + 1 := ⟨c - 1, by omega⟩
   refine ⟨g, rfl, h.2 g (by simp [ob]), (Array.getElem?_eq_some_iff.1 e).1, fun w' hw k hk => ?_⟩
   have c1 : w.cell? ⟨g, k * 5, none⟩ = some (.string (l.getD k celD).text) := by
    have := o.cells (g := g) (by simp [Value.ownBlock]) (k * 5 + 0) (.string (l.getD k celD).text) (by rw [celsV_at l k hk 0 (by decide)]; rfl)
    rw [Addr.add_lit] at this
    simpa using this
   exact (World.cell?_of_block hw).trans c1
theorem zaD (t : Trm) : (zO t).cells = t.cells := by unfold zO; split <;> rfl
theorem al_sz : zV 3 1 = true := by decide
theorem al_tm : zC 0 alL = true := by decide
theorem al_lb : ∀ f ∈ alL, f.bs.length <= 1048576 := by
 intro f m
 have : f = ⟨10, [97, 98]⟩ \/ f = ⟨20, [13, 120]⟩ := by simpa [alL] using m
 rcases this with rfl | rfl <;> (show (2 : Nat) <= _; decide)
set_option maxHeartbeats 16000000 in
set_option maxRecDepth 100000 in
theorem zdt (W : World) (E : EnvV W) : Calls Tryz.prog 18 #[] W fun e w' => e = .returned (.bool true) /\ Below W.heap.size W w' := by
 have CV := fun (w : World) (C : Array Value) (n c : Nat) => Lib.run_convert_bytes_const (P := Tryz.prog) w 27 5 C n c Tryz.underlying27 Tryz.underlying5
 obtain ⟨Q1, h1⟩ : ∃ Q, Q = W.alloc (.cells #[.int .i64 3, .int .i64 1] 23) := ⟨_, rfl⟩
 obtain ⟨Q2, h2⟩ : ∃ Q, Q = Q1.alloc (.cells #[.int .u8 97, .int .u8 98] 5 (2, 3)) := ⟨_, rfl⟩
 obtain ⟨Q3, h3⟩ : ∃ Q, Q = Q2.alloc (.cells #[.int .u8 13, .int .u8 120] 5 (2, 3)) := ⟨_, rfl⟩
 obtain ⟨Q4, h4⟩ : ∃ Q, Q = Q3.alloc (.cells #[.int .i64 10, .slice (some ⟨Q1.heap.size, 0, none⟩) 2 2, .int .i64 20, .slice (some ⟨Q2.heap.size, 0, none⟩) 2 2] 47) := ⟨_, rfl⟩
 have b1 : Below W.heap.size W Q1 := by rw [h1]; exact (Below.refl _ _).alloc zdA _
 have b2 : Below Q1.heap.size Q1 Q2 := by rw [h2]; exact (Below.refl _ _).alloc zdA _
 have b3 : Below Q2.heap.size Q2 Q3 := by rw [h3]; exact (Below.refl _ _).alloc zdA _
 have b4 : Below Q3.heap.size Q3 Q4 := by rw [h4]; exact (Below.refl _ _).alloc zdA _
 have k1 : Bk Q1 W.heap.size [.int .i64 3, .int .i64 1] 23 := by rw [h1]; exact Bk.new _ _ _
 have k2 : Q2.heap[Q1.heap.size]? = some (.cells [Value.int .u8 97, .int .u8 98].toArray 5 (2, 3)) := by rw [h2]; exact World.alloc_heap_new _ _
 have k3 : Q3.heap[Q2.heap.size]? = some (.cells [Value.int .u8 13, .int .u8 120].toArray 5 (2, 3)) := by rw [h3]; exact World.alloc_heap_new _ _
 have l2 : Q1.heap.size < Q2.heap.size := (Array.getElem?_eq_some_iff.1 k2).1
 have l3 : Q2.heap.size < Q3.heap.size := (Array.getElem?_eq_some_iff.1 k3).1
 have cv1 : (convert 27 27 (.slice (some ⟨Q1.heap.size, 0, none⟩) 2 2)).run Tryz.prog (Q1.alloc (.cells #[.int .u8 97, .int .u8 98] 5)) = .ok (.slice (some ⟨Q1.heap.size, 0, none⟩) 2 2) Q2 := by rw [h2]; exact CV Q1 _ 2 2
 have cv2 : (convert 27 27 (.slice (some ⟨Q2.heap.size, 0, none⟩) 2 2)).run Tryz.prog (Q2.alloc (.cells #[.int .u8 13, .int .u8 120] 5)) = .ok (.slice (some ⟨Q2.heap.size, 0, none⟩) 2 2) Q3 := by rw [h3]; exact CV Q2 _ 2 2
 have k4 : Bk Q4 Q3.heap.size [.int .i64 10, .slice (some ⟨Q1.heap.size, 0, none⟩) 2 2, .int .i64 20, .slice (some ⟨Q2.heap.size, 0, none⟩) 2 2] 47 := by rw [h4]; exact Bk.new _ _ _
 have FD := al_frs ((b4.block _ (Nat.lt_trans l2 l3)).trans ((b3.block _ l2).trans k2)) ((b4.block _ l3).trans k3) k4
 have S4 := ((k1.of_eq (b2.block _ k1.lt)).of_eq (b3.block _ (Nat.lt_of_lt_of_le k1.lt b2.size))).of_eq (b4.block _ (Nat.lt_of_lt_of_le (Nat.lt_of_lt_of_le k1.lt b2.size) b3.size))
 have BW : Below W.heap.size W Q4 := ((b1.trans (b2.mono b1.size)).trans (b3.mono (Nat.le_trans b1.size b2.size))).trans (b4.mono (Nat.le_trans (Nat.le_trans b1.size b2.size) b3.size))
 have fe : frms (alA Q1.heap.size Q2.heap.size) = alL := rfl
 have EN := t_Encode 3 1 (some ⟨Q3.heap.size, 0, none⟩) 2 (alA Q1.heap.size Q2.heap.size) Q4.heap.size Q4 FD zdA
 rw [fe] at EN
 have EN := zdy EN
 have s0 := S4.c 0 _ rfl
 have s1 := S4.c 1 _ rfl
 have HS4 := zdy S4
 have HFD := zdy FD
 have HBW := zdy BW
 have H1 := zdy h1
 have H2 := zdy h2
 have H3 := zdy h3
 have H4 := zdy h4
 have HE := zdy E
 clear h1 h2 h3 h4 b1 b2 b3 b4 k1 k2 k3 k4 FD S4 BW fe E l2 l3 CV
 go_enter Tryz.func18, Tryz.ntmps18
 go_upto_region 2 with fail
 rw [<- H1.out]
 go_upto_region 3 with fail
 rw [<- H4.out]
 obtain ⟨D, hD⟩ : ∃ D, D = alB := ⟨_, rfl⟩
 have AE := zdy (show encT 3 1 alL = (D, 0) by rw [hD]; exact QG)
 have AD := zdy (show decT D = ⟨3, 1, alL, 0, 0⟩ by rw [hD]; exact al_dec)
 have AB := zdy (show Byt D by rw [hD]; exact al_bb)
 have AL := zdy (show D.length <= 1000 by rw [hD]; exact al_bl)
 clear hD H1 H2 H3 H4 cv1 cv2
 generalize Q3.heap.size = g3 at *
 generalize Q2.heap.size = g2 at *
 generalize Q1.heap.size = g1 at *
 go_wp2_with fail
 refine EN.out.mono ?_; intro e w5 hR
 obtain ⟨A5, c5, rfl, BD5, B5⟩ := hR.open AE.out AB.out (by have := AL.out; omega)
 have DC := zdy (QV A5 c5 D w5.heap.size w5 BD5 zdA)
 have HB5 := zdy B5
 clear EN hR BD5 B5 s0 s1
 go_wp2_with fail
 refine DC.out.mono ?_; rintro e w6 ⟨v6, e6, C6⟩
 rw [AD.out] at e6 C6
 subst e6
 obtain ⟨A6, c6, L6, rfl, eL, FD6⟩ := C6.read (by decide) (by decide)
 have BW6 := HBW.out.trans ((HB5.out.mono HBW.out.size).trans (C6.1.mono (Nat.le_trans HBW.out.size HB5.out.size)))
 obtain ⟨w7, h7⟩ : ∃ Q, Q = w6.alloc (.cells #[.int .i64 3, .int .i64 1] 23) := ⟨_, rfl⟩
 have b7 : Below w6.heap.size w6 w7 := by rw [h7]; exact (Below.refl _ _).alloc zdA _
 have k7 : Bk w7 w6.heap.size [.int .i64 3, .int .i64 1] 23 := by rw [h7]; exact Bk.new _ _ _
 have S7 := ((HS4.out.of_eq (HB5.out.block _ HS4.out.lt)).of_eq (C6.1.block _ (Nat.lt_of_lt_of_le HS4.out.lt HB5.out.size))).of_eq (b7.block _ (Nat.lt_of_lt_of_le (Nat.lt_of_lt_of_le HS4.out.lt HB5.out.size) C6.1.size))
 have B47 : Below Q4.heap.size Q4 w7 := (HB5.out.trans (C6.1.mono HB5.out.size)).trans (b7.mono (Nat.le_trans HB5.out.size C6.1.size))
 have BW7 := HBW.out.trans (B47.mono HBW.out.size)
 have E7 : EnvV w7 := HE.out.mv (Mv.below (F := []) BW7) (by simp)
 have fe : frms (alA g1 g2) = alL := rfl
 have NW := t_PNew 3 1 (some ⟨g3, 0, none⟩) 2 (alA g1 g2) 1 Q4.heap.size w7 E7 (HFD.out.below B47 zdA) B47.size (by show (4 : Nat) <= _; decide) (by decide)
 rw [fe] at NW
 have NW := zdy NW
 have F7 := FD6.below b7 zdA
 have HF7 := zdy (F7.more b7.size)
 have HK7 := zdy k7
 have HS7 := zdy S7
 have HB7 := zdy BW7
 have H7 := zdy h7
 have HL6 := zdy eL
 have s0 := S7.c 0 _ rfl
 have s1 := S7.c 1 _ rfl
 have ln : L6.length = 2 := by have := congrArg List.length eL; rw [qx] at this; exact this
 rw [ln]
 have HLN := zdy ln
 clear DC C6 FD6 BW6 h7 b7 k7 S7 B47 BW7 E7 fe F7 eL HS4 HFD HBW ln
 go_upto_region 5 with fail
 rw [<- H7.out]
 clear H7
 go_wp2_with fail
 refine NW.out.mono ?_; rintro e w8 ⟨v8, rfl, B8, _, hY⟩
 obtain ⟨W3, pb, ev, rfl, P8, _⟩ := hY al_new
 rw [al_new]
 have HP8 := zdy P8
 have K8 := HK7.out.of_eq (B8.block _ HK7.out.lt)
 have S8 := HS7.out.of_eq (B8.block _ HS7.out.lt)
 have HB8 := zdy (HB7.out.trans (B8.mono HB7.out.size))
 have F8 := HF7.out.below B8 zdA
 obtain ⟨ad, rfl, lb, z1, z2⟩ := F8.at 1 (by rw [HLN.out]; decide)
 have at1 : (L6[1]'(by rw [HLN.out]; decide)).at_ = 20 := by
  have e := HL6.out
  have g := xO L6 1 (by rw [HLN.out]; decide)
  have : (frms L6)[1]'(by rw [qx, HLN.out]; decide) = ⟨20, [13, 120]⟩ := by simp only [e]; rfl
  rw [this] at g
  exact (congrArg Frm.at_ g).symm
 rw [at1, show (1 : Nat) * 2 = 2 from rfl] at z1
 have z3 : w8.cell? ⟨ad.block, ad.off + 2, none⟩ = some (.int .i64 20) := by rw [add_lit _ 2 (by decide)]; exact z1
 have s0 := S8.c 0 _ rfl
 have s1 := S8.c 1 _ rfl
 have t0 := K8.c 0 _ rfl
 have t1 := K8.c 1 _ rfl
 have LEN := t_PLen P8
 rw [al_last] at LEN
 have LEN := zdy LEN
 clear NW B8 hY P8 F8 z2 lb at1 K8 S8 HK7 HS7 HF7
 go_wp2_with fail
 refine LEN.out.mono ?_; rintro e w9 ⟨rfl, B9⟩
 have P9 := HP8.out.below B9
 have A1 := t_PAt P9 al_sz al_tm Js al_lb (by decide) (by decide) 15 (by decide) (by decide)
 rw [al_u15] at A1
 obtain ⟨ta, hta⟩ : ∃ ta, ta = zP 3 1 (alL.take 1) := ⟨_, rfl⟩
 have X1 := zdy (show (ta.cells.getD 0 celD).text = ⟨#[97]⟩ /\ ta.cells.length = 3 by rw [hta]; exact al_one)
 rw [<- hta] at A1
 have A1 := zdy A1
 have HP9 := zdy P9
 have HB9 := zdy (HB8.out.trans (B9.mono HB8.out.size))
 clear LEN B9 P9 HP8 HB8 s0 s1 t0 t1 z1 z3 hta
 go_wp2_with fail
 refine A1.out.mono ?_; rintro e w10 ⟨Aa, ca, rfl, Na, Ba⟩
 rw [X1.out.2] at Na
 obtain ⟨ga, rfl, gl, gu, gc⟩ := zaC (n := 3) (by rw [<- X1.out.2] at Na; exact (by rw [X1.out.2] at Na ⊢; exact Na)) (by rw [X1.out.2]; decide)
 have sva : scrV (zO ta) (some ⟨ga, 0, none⟩) ca = .agg #[.int .i64 (zO ta).w, .int .i64 (zO ta).h, .slice (some ⟨ga, 0, none⟩) 3 ca, .int .i64 (zO ta).x, .int .i64 (zO ta).y, .bool (zO ta).shown] := by
  unfold scrV
  rw [zaD, X1.out.2]
 rw [sva]
 generalize zO ta = sa at *
 obtain ⟨V11, h11⟩ : ∃ V, V = w10.alloc (.cells #[.int .i64 sa.w, .int .i64 sa.h, .slice (some ⟨ga, 0, none⟩) 3 ca, .int .i64 sa.x, .int .i64 sa.y, .bool sa.shown] 51) := ⟨_, rfl⟩
 have b11 : Below w10.heap.size w10 V11 := by rw [h11]; exact (Below.refl _ _).alloc zdA _
 have k11 : Bk V11 w10.heap.size [.int .i64 sa.w, .int .i64 sa.h, .slice (some ⟨ga, 0, none⟩) 3 ca, .int .i64 sa.x, .int .i64 sa.y, .bool sa.shown] 51 := by rw [h11]; exact Bk.new _ _ _
 have P11 := (HP9.out.below Ba).below b11
 have A2 := t_PAt P11 al_sz al_tm Js al_lb (by decide) (by decide) 20 (by decide) (by decide)
 rw [al_u20] at A2
 obtain ⟨tb, htb⟩ : ∃ tb, tb = zP 3 1 (alL.take 2) := ⟨_, rfl⟩
 have X2 := zdy (show (tb.cells.getD 0 celD).text = ⟨#[120]⟩ /\ (tb.cells.getD 1 celD).text = ⟨#[98]⟩ /\ tb.cells.length = 3 by rw [htb]; exact al_two)
 rw [<- htb] at A2
 have A2 := zdy A2
 have HB11 := zdy ((HB9.out.trans (Ba.mono HB9.out.size)).trans (b11.mono (Nat.le_trans HB9.out.size Ba.size)))
 have HK11 := zdy k11
 have GC := zdy (fun (w' : World) (e : w'.heap[ga]? = w10.heap[ga]?) => gc w' e 0 (by rw [X1.out.2]; decide))
 have GK := zdy (fun (w' : World) (b : Below V11.heap.size V11 w') => (b.block ga (Nat.lt_of_lt_of_le gu b11.size)).trans (b11.block ga gu))
 have H11 := zdy h11
 clear A1 Na Ba gc sva h11 b11 k11 P11 HP9 HB9 htb gl gu
 go_upto_region 9 with fail
 rw [<- H11.out]
 clear H11
 go_wp2_with fail
 refine A2.out.mono ?_; rintro e w12 ⟨Ab, cb, rfl, Nb, Bb⟩
 rw [X2.out.2.2] at Nb
 obtain ⟨gb, rfl, gl, gu, gc⟩ := zaC (n := 3) (by rw [<- X2.out.2.2] at Nb; exact (by rw [X2.out.2.2] at Nb ⊢; exact Nb)) (by rw [X2.out.2.2]; decide)
 have svb : scrV (zO tb) (some ⟨gb, 0, none⟩) cb = .agg #[.int .i64 (zO tb).w, .int .i64 (zO tb).h, .slice (some ⟨gb, 0, none⟩) 3 cb, .int .i64 (zO tb).x, .int .i64 (zO tb).y, .bool (zO tb).shown] := by
  unfold scrV
  rw [zaD, X2.out.2.2]
 rw [svb]
 generalize zO tb = sb at *
 obtain ⟨V13, h13⟩ : ∃ V, V = w12.alloc (.cells #[.int .i64 sb.w, .int .i64 sb.h, .slice (some ⟨gb, 0, none⟩) 3 cb, .int .i64 sb.x, .int .i64 sb.y, .bool sb.shown] 51) := ⟨_, rfl⟩
 have b13 : Below w12.heap.size w12 V13 := by rw [h13]; exact (Below.refl _ _).alloc zdA _
 have k13 : Bk V13 w12.heap.size [.int .i64 sb.w, .int .i64 sb.h, .slice (some ⟨gb, 0, none⟩) 3 cb, .int .i64 sb.x, .int .i64 sb.y, .bool sb.shown] 51 := by rw [h13]; exact Bk.new _ _ _
 have k11 := (HK11.out.of_eq (Bb.block _ HK11.out.lt)).of_eq (b13.block _ (Nat.lt_of_lt_of_le HK11.out.lt Bb.size))
 have x2 := k11.c 2 _ rfl
 have y2 := k13.c 2 _ rfl
 have ca0 := GC.out V13 (GK.out V13 (Bb.trans (b13.mono Bb.size)))
 have cb0 := gc V13 (b13.block gb gu) 0 (by rw [X2.out.2.2]; decide)
 have cb1 := gc V13 (b13.block gb gu) 1 (by rw [X2.out.2.2]; decide)
 rw [X1.out.1, Nat.zero_mul] at ca0
 rw [X2.out.1, Nat.zero_mul] at cb0
 rw [X2.out.2.1, Nat.one_mul] at cb1
 have FIN := zdy ((HB11.out.trans (Bb.mono HB11.out.size)).trans (b13.mono (Nat.le_trans HB11.out.size Bb.size)))
 have H13 := zdy h13
 clear A2 Nb Bb gc svb h13 b13 k13 k11 gl gu HB11 HK11 GC GK
 go_upto_region 10 with fail
 rw [<- H13.out]
 clear H13
 go_wp2_with fail
 go_ret
 exact ⟨by rfl, FIN.out⟩
end
end
section
open Go Go.RowKit Go.Sort
section
theorem ZH {w : World} {B : Nat} {x : BA} (D : ByteD w B x) : (convert 27 9 (.slice x.A x.bs.length x.c)).run Tryz.prog w = .ok (.string (barr x.bs)) w := by
 obtain ⟨A, c, bs⟩ := x
 cases A with
 | none =>
  have h1 : c = 0 := D.nil rfl
  have h2 : bs.length <= c := D.cap
  obtain rfl : bs = [] := List.eq_nil_of_length_eq_zero (by omega)
  subst h1
  exact Lib.run_convert_nil_bytes w _ _ 5 0 Tryz.underlying27 Tryz.underlying5 Tryz.underlying9
 | some ad =>
  dsimp only
  rw [run_convert_bytes_string w _ _ 5 (some ad) bs.length c Tryz.underlying27 Tryz.underlying5 Tryz.underlying9]
  have hl := run_loadCells_list (P := Tryz.prog) w ad (bts bs) (fun j u hu => by
   obtain ⟨a', e, _, k⟩ := D.sees (fun z => by have z2 : bts bs = [] := z; rw [z2] at hu; simp at hu)
   cases e
   exact k j u hu)
  rw [xp] at hl
  rw [run_bytesToString w _ bs.length c bs hl, XJ]
theorem zaE : ∀ {a b : List Int}, Byt a -> Byt b -> (a.map fun n : Int => UInt8.ofNat n.toNat) = (b.map fun n : Int => UInt8.ofNat n.toNat) -> a = b
 | [], [], _, _, _ => rfl
 | [], y :: b, _, _, h => by simp at h
 | x :: a, [], _, _, h => by simp at h
 | x :: a, y :: b, ha, hb, h => by
  simp only [List.map_cons, List.cons.injEq] at h
  have x1 := ha x (by simp)
  have y1 := hb y (by simp)
  have e : x = y := by
   have := congrArg UInt8.toNat h.1
   simp only [UInt8.toNat_ofNat'] at this
   omega
  rw [e, zaE (fun z m => ha z (by simp [m])) (fun z m => hb z (by simp [m])) h.2]
theorem barr_inj {a b : List Int} (ha : Byt a) (hb : Byt b) (h : barr a = barr b) : a = b := by
 unfold barr at h
 have h := congrArg (fun s : ByteArray => s.data.toList) h
 simp only at h
 exact zaE ha hb h
theorem frms_ext {L M : List FA} (hl : L.length = M.length) (h : ∀ k, (h1 : k < L.length) -> (h2 : k < M.length) -> (L[k]).at_ = (M[k]).at_ /\ (L[k]).b.bs = (M[k]).b.bs) : frms L = frms M := by
 unfold frms
 refine List.ext_getElem (by rw [List.length_map, List.length_map, hl]) (fun k a b => ?_)
 rw [List.length_map] at a b
 rw [List.getElem_map, List.getElem_map]
 have := h k a b
 unfold FA.frm
 rw [this.1, this.2]
def SamR (W : World) (l m : List Frm) (e : Ending) (w' : World) : Prop := ∃ b : Bool, e = .returned (.bool b) /\ (b = true ↔ l = m) /\ Below W.heap.size W w'
theorem Jt {W w' : World} {l m : List Frm} (h : ¬ l = m) (b : Below W.heap.size W w') : SamR W l m (.returned (.bool false)) w' := ⟨false, rfl, ⟨fun z => (by cases z), fun z => absurd z h⟩, b⟩
theorem samR_yes {W w' : World} {l m : List Frm} (h : l = m) (b : Below W.heap.size W w') : SamR W l m (.returned (.bool true)) w' := ⟨true, rfl, ⟨fun _ => h, fun _ => rfl⟩, b⟩
end
end
section
open Go Go.RowKit Go.Sort
section
set_option maxHeartbeats 8000000 in
set_option maxRecDepth 100000 in
theorem ZI (A A2 : Option Addr) (c c2 : Nat) (L M : List FA) (B B2 : Nat) (W : World) (D : FrsD W B A c L) (D2 : FrsD W B2 A2 c2 M) (hB : B <= W.heap.size) (hB2 : B2 <= W.heap.size) : Calls Tryz.prog 21 #[.slice A L.length c, .slice A2 M.length c2] W (SamR W (frms L) (frms M)) := by
 have HD := zdy D
 have HD2 := zdy D2
 obtain ⟨n, hn⟩ : ∃ n, n = L.length := ⟨_, rfl⟩
 obtain ⟨m, hm⟩ : ∃ m, m = M.length := ⟨_, rfl⟩
 have HN := zdy hn
 have HM := zdy hm
 have nl : n <= 4398046511104 := by have := D.sz; omega
 have ml : m <= 4398046511104 := by have := D2.sz; omega
 rw [<- hn, <- hm]
 clear hn hm D D2
 by_cases ne : n = m
 case neg =>
  have ne' : ¬ (n : Int) = (m : Int) := by omega
  have NE : Hid (¬ frms L = frms M) := zdy (fun z => ne (by have := congrArg List.length z; rw [qx, qx, <- HN.out, <- HM.out] at this; exact this))
  go_enter Tryz.func21, Tryz.ntmps21
  go_wp2_with fail
  go_ret
  exact Jt NE.out (Below.refl _ _)
 subst ne
 go_enter Tryz.func21, Tryz.ntmps21
 go_wp2_with fail
 go_loopw [5] (fun s5 wr => ∃ (k : Nat), k <= n /\ s5 = .int .i64 (k : Int) /\ Hid (∀ j, (h1 : j < L.length) -> (h2 : j < M.length) -> j < k -> (L[j]).at_ = (M[j]).at_ /\ (L[j]).b.bs = (M[j]).b.bs) /\ Hid (Below W.heap.size W wr)) (fun s5 _ => n - (intOf s5).toNat)
 case atStart => exact ⟨0, Nat.zero_le _, rfl, zdy (fun j _ _ h => absurd h (Nat.not_lt_zero _)), zdy (Below.refl _ _)⟩
 case round =>
  obtain ⟨k, hk, rfl, hs, hb⟩ := hrel
  by_cases lt : k < n
  ·have kl : k < L.length := by rw [<- HN.out]; exact lt
   have km : k < M.length := by rw [<- HM.out]; exact lt
   have F1 := HD.out.below hb.out hB
   have F2 := HD2.out.below hb.out hB2
   obtain ⟨ad, rfl, l1, y1, y2⟩ := F1.at k kl
   obtain ⟨ae, rfl, l2, z1, z2⟩ := F2.at k km
   have cx := fun q => ZH ((HD.out.below (below_drewN hb.out q) hB).ok _ (List.getElem_mem kl)).b
   have cy := fun q => ZH ((HD2.out.below (below_drewN hb.out q) hB2).ok _ (List.getElem_mem km)).b
   have rx := zdy (F1.ok _ (List.getElem_mem kl)).b.rng
   have ry := zdy (F2.ok _ (List.getElem_mem km)).b.rng
   have NS := zdy (fun h : (L[k]).at_ = (M[k]).at_ /\ (L[k]).b.bs = (M[k]).b.bs => show ∀ j, (h1 : j < L.length) -> (h2 : j < M.length) -> j < k + 1 -> (L[j]).at_ = (M[j]).at_ /\ (L[j]).b.bs = (M[j]).b.bs from fun j h1 h2 lj => by
    rcases Nat.lt_or_ge j k with q | q
    ·exact hs.out j h1 h2 q
    ·obtain rfl : j = k := by omega
     exact h)
   have NF := zdy (fun h : frms L = frms M => show (L[k]).at_ = (M[k]).at_ /\ (L[k]).b.bs = (M[k]).b.bs by
    have e1 := xO L k kl
    have e2 := xO M k km
    simp only [h] at e1
    rw [e1] at e2
    exact ⟨congrArg Frm.at_ e2, congrArg Frm.bs e2⟩)
   have q0 : (0 : Int) <= (k : Int) := by omega
   have q5 : (k : Int) < (n : Int) := by omega
   have tn : (k : Int).toNat = k := by omega
   have wk := zdz ((k : Int) + 1) (by omega)
   generalize L[k] = x at *
   generalize M[k] = y at *
   obtain ⟨xt, xA, xc, xs⟩ := x
   obtain ⟨yt, yA, yc, ys⟩ := y
   dsimp only at y1 y2 z1 z2 cx cy rx ry NS NF
   clear F1 F2 l1 l2 hs
   by_cases ct : xt = yt
   case neg =>
    have EN := zdy (fun (V : World) (b : Below W.heap.size W V) => Jt (l := frms L) (m := frms M) (fun z => ct (NF.out z).1) b)
    clear NS NF rx ry
    go_upto_region 6 with fail
    refine qk 25 (by kernel_rfl) (by kernel_rfl) ?_
    simp only [zdB, zdC, zdD, zdE]
    repeat (first | go_big_quiet_step (fail) | quiet_step (fail))
    refine wpQuiet_nil ?_
    intro _ hw'
    obtain ⟨nq, hw''⟩ := hw'
    subst hw''
    have BN := zdy (below_drewN hb.out nq)
    go_wp2_with fail
    go_ret
    exact EN.out _ BN.out
   subst ct
   by_cases cb : xs = ys
   ·subst cb
    have NS := zdy (NS.out ⟨rfl, rfl⟩)
    clear NF rx ry
    go_upto_region 6 with fail
    refine qk 25 (by kernel_rfl) (by kernel_rfl) ?_
    simp only [zdB, zdC, zdD, zdE]
    repeat (first | go_big_quiet_step (fail) | quiet_step (fail))
    refine wpQuiet_nil ?_
    intro _ hw'
    obtain ⟨nq, hw''⟩ := hw'
    subst hw''
    have BN := zdy (below_drewN hb.out nq)
    go_wp2_with fail
    go_roundw
    case rel => exact ⟨k + 1, by omega, by go_num, NS, BN⟩
    case measure => simp [intOf]; omega
   ·have cz : ((barr xs).toList == (barr ys).toList) = false := by rw [ZQ]; exact decide_eq_false (fun z => cb (barr_inj rx.out ry.out z))
    have EN := zdy (fun (V : World) (b : Below W.heap.size W V) => Jt (l := frms L) (m := frms M) (fun z => cb (NF.out z).2) b)
    clear NS NF rx ry cb
    go_upto_region 6 with fail
    refine qk 25 (by kernel_rfl) (by kernel_rfl) ?_
    simp only [zdB, zdC, zdD, zdE]
    repeat (first | go_big_quiet_step (fail) | quiet_step (fail))
    refine wpQuiet_nil ?_
    intro _ hw'
    obtain ⟨nq, hw''⟩ := hw'
    subst hw''
    have BN := zdy (below_drewN hb.out nq)
    go_wp2_with fail
    go_ret
    exact EN.out _ BN.out
  ·have e : k = n := by omega
   subst e
   have q5 : ¬ (k : Int) < (k : Int) := by omega
   have EQ : Hid (frms L = frms M) := zdy (frms_ext (by rw [<- HN.out, <- HM.out]) (fun j h1 h2 => hs.out j h1 h2 (by have := HN.out; omega)))
   clear hs
   go_wp2_with fail
   go_ret
   exact samR_yes EQ.out hb.out
end
end
section
open Go Go.RowKit Go.Sort
section
theorem fa_frms (M : List RM) : frms (M.map RM.fa) = rmF M := by unfold frms rmF; rw [List.map_map]; rfl
theorem RoomD.mark {w : World} {B : Nat} {A : Option Addr} {c : Nat} {M : List RM} (h : RoomD w B A c M) {x : RM} (hx : x ∈ M) (j : Nat) (h1 : x.bs.length <= j) (h2 : j < x.bs.length + 9) : w.cell? ⟨x.g, j, none⟩ = some (.int .u8 165) := by
 have u : (bts (x.bs ++ List.replicate 9 165))[j]? = some (.int .u8 165) := by
  unfold bts
  rw [List.getElem?_map, List.getElem?_append_right h1, List.getElem?_replicate, if_pos (by omega)]
  rfl
 obtain ⟨ad, e, _, k⟩ := (h.mks x hx).2 (fun z => by rw [z] at u; simp at u)
 cases e
 have := k j _ u
 rw [Addr.add_lit, Nat.zero_add] at this
 exact this
theorem z77_at : ∀ (k j i : Nat), j < k -> i < 2 -> (z77 k)[j * 2 + i]? = ([Value.int .i64 (-77), Value.slice none 0 0])[i]?
 | k + 1, 0, i, _, hi => by
  have e : z77 (k + 1) = [Value.int .i64 (-77), Value.slice none 0 0] ++ z77 k := rfl
  rw [e, Nat.zero_mul, Nat.zero_add, List.getElem?_append_left (by simpa using hi)]
 | k + 1, j + 1, i, hj, hi => by
  have e : z77 (k + 1) = [Value.int .i64 (-77), Value.slice none 0 0] ++ z77 k := rfl
  rw [e, List.getElem?_append_right (by show 2 <= _; omega)]
  have := z77_at k j i (by omega) hi
  rw [<- this]
  congr 1
  show (j + 1) * 2 + i - 2 = _
  omega
theorem RoomD.behind {w : World} {B : Nat} {A : Option Addr} {c : Nat} {M : List RM} (h : RoomD w B A c M) (j : Nat) (hj : j < 9) : ∃ ad, A = some ad /\ w.cell? (ad.add ((M.length + j) * 2)) = some (.int .i64 (-77)) /\ w.cell? ⟨(ad.add ((M.length + j) * 2)).block, (ad.add ((M.length + j) * 2)).off + 1, none⟩ = some (.slice none 0 0) := by
 have g : ∀ i, i < 2 -> (rmV M ++ z77 9)[(M.length + j) * 2 + i]? = ([Value.int .i64 (-77), Value.slice none 0 0])[i]? := fun i hi => by
  rw [List.getElem?_append_right (by rw [xu]; omega), xu, show (M.length + j) * 2 + i - M.length * 2 = j * 2 + i by omega]
  exact z77_at 9 j i hj hi
 obtain ⟨ad, e, _, k⟩ := h.row (fun z => by have := congrArg List.length z; rw [List.length_append, xu, z77_len] at this; simp at this)
 refine ⟨ad, e, k _ _ (g 0 (by decide)), ?_⟩
 rw [vq (ad.add ((M.length + j) * 2)) 1 (by decide), jD]
 exact k _ _ (g 1 (by decide))
set_option maxHeartbeats 16000000 in
set_option maxRecDepth 100000 in
theorem law_kept (A : Option Addr) (c : Nat) (M : List RM) (B : Nat) (A2 : Option Addr) (c2 : Nat) (L : List FA) (B2 : Nat) (W : World) (R : RoomD W B A c M) (D : FrsD W B2 A2 c2 L) (hB : B <= W.heap.size) (hB2 : B2 <= W.heap.size) (e : rmF M = frms L) (hl : M.length <= 134217728) (hb : ∀ x ∈ M, x.bs.length <= 134217728) :
  Calls Tryz.prog 17 #[.slice A M.length c, .slice A2 L.length c2] W fun e w' => e = .returned (.bool true) /\ Below W.heap.size W w' := by
 have SM := ZI A A2 c c2 (M.map RM.fa) L B B2 W R.frs D hB hB2
 rw [fa_frms, List.length_map] at SM
 have SM : Hid (Calls Tryz.prog 21 #[.slice A M.length c, .slice A2 L.length c2] W fun e w' => e = .returned (.bool true) /\ Below W.heap.size W w') := zdy (SM.mono (fun e' w' ⟨b, e1, e2, e3⟩ => ⟨by rw [e1, e2.2 e], e3⟩))
 have HR := zdy R
 have HB := zdy hB
 have HBS := zdy hb
 obtain ⟨n, hn⟩ : ∃ n, n = M.length := ⟨_, rfl⟩
 have HN := zdy hn
 have cp : n + 9 <= c := by have := R.cap; omega
 rw [<- hn] at SM hl ⊢
 generalize L.length = m at *
 clear R D hB hB2 e hb hn
 go_enter Tryz.func17, Tryz.ntmps17
 go_wp2_with fail
 refine SM.out.mono ?_; rintro e w1 ⟨rfl, hb1⟩
 have B1 := zdy hb1
 clear SM hb1
 go_wp2_with fail
 go_loopw [6] (fun s6 wr => ∃ (i : Nat), i <= n /\ s6 = .int .i64 (i : Int) /\ Hid (Below W.heap.size W wr)) (fun s6 _ => n - (intOf s6).toNat)
 case atStart => exact ⟨0, Nat.zero_le _, rfl, B1⟩
 case round =>
  obtain ⟨i, hi, rfl, hw⟩ := hrel
  by_cases lt : i < n
  ·have il : i < M.length := by rw [<- HN.out]; exact lt
   have RD := HR.out.below hw.out HB.out
   obtain ⟨ad, rfl, lb, z1, z2⟩ := RD.frs.at i (by rw [List.length_map]; exact il)
   simp only [List.getElem_map] at z1 z2
   have mx := List.getElem_mem il
   have mc := (RD.mks _ mx).1
   have MK := zdy (fun (wr : World) (hw : Below W.heap.size W wr) j h1 h2 => (HR.out.below hw HB.out).mark mx j h1 h2)
   have bl := HBS.out _ mx
   generalize M[i] = x at *
   change wr.cell? ⟨(ad.add (i * 2)).block, (ad.add (i * 2)).off + 1, none⟩ = some (.slice (some ⟨x.g, 0, none⟩) x.bs.length x.c) at z2
   obtain ⟨xn, hxn⟩ : ∃ xn, xn = x.bs.length := ⟨_, rfl⟩
   rw [<- hxn] at z2 mc MK bl
   generalize x.g = g at *
   generalize x.c = xc at *
   have q0 : (0 : Int) <= (i : Int) := by omega
   have q5 : (i : Int) < (n : Int) := by omega
   have tn : (i : Int).toNat = i := by omega
   have wk := zdz ((i : Int) + 1) (by omega)
   have w9 := zdz ((xn : Int) + 9) (by omega)
   have x0 : (0 : Int) <= (xn : Int) + 9 := by omega
   have x1 : (xn : Int) + 9 <= (xc : Int) := by omega
   have xt : ((xn : Int) + 9).toNat = xn + 9 := by omega
   clear RD lb z1 mx hxn
   go_wp2_with fail
   go_loopw [9] (fun s9 wr => ∃ (k : Nat), xn <= k /\ k <= xn + 9 /\ s9 = .int .i64 (k : Int) /\ Hid (Below W.heap.size W wr)) (fun s9 _ => xn + 9 - (intOf s9).toNat)
   case atStart => exact ⟨xn, zdA, by omega, rfl, hw⟩
   case round =>
    obtain ⟨k, k0, k1, rfl, hq⟩ := hrel
    by_cases lk : k < xn + 9
    ·have cm := MK.out wr hq.out k k0 lk
     have p0 : (0 : Int) <= (k : Int) := by omega
     have p5 : (k : Int) < (xn : Int) + 9 := by omega
     have p6 : (k : Int) < ((xn + 9 : Nat) : Int) := by omega
     have pn : (k : Int).toNat = k := by omega
     have wj := zdz ((k : Int) + 1) (by omega)
     go_wp2_with fail
     go_roundw
     case rel => exact ⟨k + 1, by omega, by omega, by go_num, hq⟩
     case measure => simp [intOf]; omega
    ·have e : k = xn + 9 := by omega
     subst e
     have p5 : ¬ ((xn + 9 : Nat) : Int) < (xn : Int) + 9 := by omega
     clear k0 k1
     go_wp2_with fail
     go_roundw
     case rel => exact ⟨i + 1, by omega, by go_num, hq⟩
     case measure => simp [intOf]; omega
  ·have e : i = n := by omega
   subst e
   have q5 : ¬ (i : Int) < (i : Int) := by omega
   obtain ⟨ad, rfl, _⟩ := HR.out.behind 0 (by decide)
   have w9 := zdz ((i : Int) + 9) (by omega)
   have x0 : (0 : Int) <= (i : Int) + 9 := by omega
   have x1 : (i : Int) + 9 <= (c : Int) := by omega
   have xt : ((i : Int) + 9).toNat = i + 9 := by omega
   go_wp2_with fail
   go_loopw [11] (fun s11 wr => ∃ (k : Nat), i <= k /\ k <= i + 9 /\ s11 = .int .i64 (k : Int) /\ Hid (Below W.heap.size W wr)) (fun s11 _ => i + 9 - (intOf s11).toNat)
   case atStart => exact ⟨i, zdA, by omega, rfl, hw⟩
   case round =>
    obtain ⟨k, k0, k1, rfl, hq⟩ := hrel
    by_cases lk : k < i + 9
    ·obtain ⟨ae, e, z1, z2⟩ := (HR.out.below hq.out HB.out).behind (k - i) (by omega)
     cases e
     rw [show M.length + (k - i) = k by have := HN.out; omega] at z1 z2
     have p0 : (0 : Int) <= (k : Int) := by omega
     have p6 : (k : Int) < ((i + 9 : Nat) : Int) := by omega
     have p7 : (k : Int) < (i : Int) + 9 := by omega
     have pn : (k : Int).toNat = k := by omega
     have wj := zdz ((k : Int) + 1) (by omega)
     go_wp2_with fail
     go_roundw
     case rel => exact ⟨k + 1, by omega, by omega, by go_num, hq⟩
     case measure => simp [intOf]; omega
    ·have e : k = i + 9 := by omega
     subst e
     have p5 : ¬ ((i + 9 : Nat) : Int) < ((i + 9 : Nat) : Int) := by omega
     have p7 : ¬ (i : Int) + 9 < (i : Int) + 9 := by omega
     clear k0 k1
     go_wp2_with fail
     go_ret
     exact ⟨rfl, hq.out⟩
end
end
section
open Go Go.RowKit Go.Sort
section
def DcR (W : World) (D : List Int) (e : Ending) (w' : World) : Prop := ∃ v M, e = .returned (.tuple #[.agg #[.int .i64 (decT D).w, .int .i64 (decT D).h], v, .int .i64 (decT D).code, .int .i64 (decT D).spot]) /\ Below W.heap.size W w' /\ RmS W.heap.size w' v M 0 /\ rmF M = (decT D).l
def kq (Q2 : World) (g : Nat) (A : Option Addr) (c : Nat) (D : List Int) (i : Nat) (wr : World) : Prop := RdS wr g A c D (stR D i) 82 /\ Mv [g] Q2 wr
theorem vK {D : List Int} {r : RdT} {n : Nat} (h : r.code ≠ 0 \/ D.length < r.at_ + n) : (zo D r n).2.code ≠ 0 /\ (zo D r n).1 = [] := by
 by_cases z : r.code = 0
 ·have lt : D.length < r.at_ + n := by
   rcases h with h | h
   ·exact absurd z h
   ·exact h
  rw [vt z (by omega)]
  exact ⟨by simp, rfl⟩
 ·rw [kK _ z]
  exact ⟨z, rfl⟩
theorem OneR.u8 {w : World} {LO : Nat} {x : RM} (h : OneR w LO x) (j : Nat) (b : Int) (e : (x.bs ++ x.ex)[j]? = some b) : w.cell? ⟨x.g, j, none⟩ = some (.int .u8 b) := by
 have u : (bts (x.bs ++ x.ex))[j]? = some (.int .u8 b) := by
  unfold bts
  rw [List.getElem?_map, e]
  rfl
 have := h.cells (g := x.g) rfl j _ u
 rw [Addr.add_lit, Nat.zero_add] at this
 exact this
theorem RmS.mvg {w w' : World} {LO g : Nat} {v : Value} {M : List RM} {vs : List Value} {T : TypeId} (h : RmS LO w v M 0) (m : Mv [g] w w') (K : Bk w g vs T) (ne : T ≠ 47) (gl : g < LO) : RmS LO w' v M 0 :=
 ⟨Zr h.own m K ne, fun x mx => (h.one x mx).keep (m.blk _ (h.one x mx).lt.2.1 (by have := (h.one x mx).lt.1; simp; omega)), h.rng, h.dis⟩
theorem RmS.push1 {LO : Nat} {w w1 w2 : World} {M : List RM} {v : Value} {x : RM} {v' : Value} (h : RmS LO w v M 0) (h1 : RmS LO w1 v M 0) (o : OneR w1 w.heap.size x) (hLO : LO <= w.heap.size) (ho : w2.ownsRow LO 47 2 v' (M.length + 1) (rmV M ++ [.int .i64 x.at_, .slice (some ⟨x.g, 0, none⟩) x.bs.length x.c])) (hg : w1.grownBy w2 v.ownBlock)
  (r : Byt (x.bs ++ x.ex) /\ -9223372036854775808 <= x.at_ /\ x.at_ <= 9223372036854775807) : RmS LO w2 v' (M ++ [x]) 0 := by
 have k1 := xL h1.own hg
 have kk : ∀ y : RM, ∀ L, OneR w1 L y -> OneR w2 L y := fun y L oy => oy.keep (by
  obtain ⟨_, _, _, cur, e⟩ := xY oy
  exact k1 _ _ _ _ e (by decide))
 refine ⟨?_, fun y m => ?_, fun y m => ?_, ?_⟩
 ·have e : rmV (M ++ [x]) ++ z77 0 = rmV M ++ [.int .i64 x.at_, .slice (some ⟨x.g, 0, none⟩) x.bs.length x.c] := by rw [xZ, x7]; simp [z77, rmV]
  rw [e, List.length_append, List.length_singleton, Nat.add_zero]
  exact ho
 ·rcases List.mem_append.1 m with m | m
  ·exact kk y LO (h1.one y m)
  ·rw [List.mem_singleton.1 m]; exact kk x LO (qG o hLO)
 ·rcases List.mem_append.1 m with m | m
  ·exact h.rng y m
  ·rw [List.mem_singleton.1 m]; exact r
 ·rw [List.map_append, List.nodup_append]
  refine ⟨h.dis, by simp, fun a ha b hb e => ?_⟩
  simp only [List.map_cons, List.map_nil, List.mem_singleton] at hb
  obtain ⟨y, my, rfl⟩ := List.mem_map.1 ha
  have l1 := (h.one y my).lt.2.1
  have l2 := o.lt.1
  rw [e, hb] at l1
  omega
structure FrsSr (Q2 : World) (lo g : Nat) (A : Option Addr) (c : Nat) (D : List Int) (F : List Frm × RdT) (k last : Nat) (r : RdT) (M : List RM) (v : Value) (wr : World) : Prop where
 rd : RdS wr g A c D r 82
 mv : Mv [g] Q2 wr
 rm : r.code = 0 -> RmS lo wr v M 0
 q2 : Q2.heap.size <= lo
 gl : g < Q2.heap.size
 le : lo <= wr.heap.size
 eq : (r.code = 0 -> rmF M ++ (frsR D k last r).1 = F.1) /\ (frsR D k last r).2 = F.2
theorem FrsSr.grow {Q2 wr w7 u w8 : World} {lo g : Nat} {A : Option Addr} {c : Nat} {D : List Int} {F : List Frm × RdT} {k last : Nat} {r r7 : RdT} {M : List RM} {v : Value} (h : FrsSr Q2 lo g A c D F k last r M v wr) (c0 : r.code = 0) (R7 : RdS w7 g A c D r7 82) (m7 : Mv [g] wr w7)
  (hu : Below w7.heap.size w7 u) (hg : u.grownBy w8 v.ownBlock) : RdS w8 g A c D r7 82 /\ Mv [g] Q2 w8 /\ lo <= w8.heap.size /\ RmS lo w7 v M 0 /\ RmS lo u v M 0 := by
 have gl2 := h.gl
 have ql := h.q2
 have r7 := (h.rm c0).mvg m7 h.rd.box (by decide) (by omega)
 have ru := r7.below hu
 have su : lo <= u.heap.size := Nat.le_trans h.le (Nat.le_trans m7.size hu.size)
 have fr : ∀ z, v.ownBlock = some z -> lo <= z := fun z e => (ru.own.lt z e).1
 have B8 : ∀ j, j < w7.heap.size -> j < lo -> w8.heap[j]? = w7.heap[j]? := fun j h1 h2 => (hg.block j (Nat.lt_of_lt_of_le h1 hu.size) (fun e => by have := fr j e.symm; omega)).trans (hu.block j h1)
 have b7 : Below lo w7 w8 := ⟨hg.os.trans hu.os, hg.tape.trans hu.tape, hg.output.trans hu.output, Nat.le_trans hu.size hg.size, fun j lt => B8 j (by have := h.le; have := m7.size; omega) lt⟩
 have m27 := h.mv.then m7
 exact ⟨⟨R7.box.of_eq (b7.block g (by omega)), R7.dat.below b7 (by omega), R7.at_⟩, ⟨b7.os.trans m27.os, b7.tape.trans m27.tape, b7.output.trans m27.output, Nat.le_trans m27.size b7.size, fun j hj hne => (b7.block j (by omega)).trans (m27.blk j hj hne)⟩, Nat.le_trans su hg.size, r7, ru⟩
theorem zaF {D : List Int} {k last p1 q1 : Nat} {r r5 r6 r7 : RdT} {tl : List Int} (c0 : r.code = 0) (hp : numR D r (1099511627776 - (last : Int)) = ((p1 : Int), r5)) (hq : numR D r5 1099511627776 = ((q1 : Int), r6)) (ht : zo D r6 q1 = (tl, r7)) :
  frsR D (k + 1) last r = (⟨((last + p1 : Nat) : Int), tl⟩ :: (frsR D k ((last + p1 : Nat) : Int) r7).1, (frsR D k ((last + p1 : Nat) : Int) r7).2) := by
 rw [QQ k last c0, hp, hq]
 dsimp only
 rw [ht, show ((last : Int) + (p1 : Int)) = ((last + p1 : Nat) : Int) by simp]
theorem FrsSr.bad {Q2 wr w7 u w8 : World} {lo g : Nat} {A : Option Addr} {c : Nat} {D : List Int} {F : List Frm × RdT} {k last p1 q1 : Nat} {r r5 r6 r7 : RdT} {M : List RM} {v v' : Value} {tl : List Int} (h : FrsSr Q2 lo g A c D F (k + 1) last r M v wr) (c0 : r.code = 0)
  (hp : numR D r (1099511627776 - (last : Int)) = ((p1 : Int), r5)) (hq : numR D r5 1099511627776 = ((q1 : Int), r6)) (ht : zo D r6 q1 = (tl, r7)) (R7 : RdS w7 g A c D r7 82) (m7 : Mv [g] wr w7)
  (hu : Below w7.heap.size w7 u) (hg : u.grownBy w8 v.ownBlock) (c7 : r7.code ≠ 0) : FrsSr Q2 lo g A c D F k (last + p1) r7 [] v' w8 := by
 obtain ⟨x1, x2, x3, _⟩ := h.grow c0 R7 m7 hu hg
 refine ⟨x1, x2, fun z => absurd z c7, h.q2, h.gl, x3, fun z => absurd z c7, ?_⟩
 have e := h.eq.2
 rw [zaF c0 hp hq ht] at e
 exact e
theorem FrsSr.good {Q2 wr w6 w7 u w8 : World} {lo g g' c' : Nat} {A : Option Addr} {c : Nat} {D : List Int} {F : List Frm × RdT} {k last p1 q1 : Nat} {r r5 r6 r7 : RdT} {M : List RM} {v v' : Value} {tl : List Int} (h : FrsSr Q2 lo g A c D F (k + 1) last r M v wr) (c0 : r.code = 0)
  (hp : numR D r (1099511627776 - (last : Int)) = ((p1 : Int), r5)) (hq : numR D r5 1099511627776 = ((q1 : Int), r6)) (ht : zo D r6 q1 = (tl, r7)) (m6 : Mv [g] wr w6) (R7 : RdS w7 g A c D r7 82) (m7 : Mv [g] wr w7) (pl : last + p1 <= 1099511627776)
  (o : OneR w7 w6.heap.size ⟨0, g', c', tl, []⟩) (rg : Byt tl)
  (hu : Below w7.heap.size w7 u) (hg : u.grownBy w8 v.ownBlock) (ho : w8.ownsRow lo 47 2 v' (M.length + 1) (rmV M ++ [.int .i64 ((last : Int) + (p1 : Int)), .slice (some ⟨g', 0, none⟩) tl.length c'])) : FrsSr Q2 lo g A c D F k (last + p1) r7 (M ++ [⟨((last + p1 : Nat) : Int), g', c', tl, []⟩]) v' w8 := by
 obtain ⟨x1, x2, x3, r7', ru⟩ := h.grow c0 R7 m7 hu hg
 have o1 : OneR u wr.heap.size ⟨((last + p1 : Nat) : Int), g', c', tl, []⟩ := qG (OneR.keep (x := ⟨((last + p1 : Nat) : Int), g', c', tl, []⟩) o (hu.block _ o.lt.2.1)) m6.size
 have e := h.eq
 rw [zaF c0 hp hq ht] at e
 rw [show ((last : Int) + (p1 : Int)) = ((last + p1 : Nat) : Int) by simp] at ho
 have N := (h.rm c0).push1 ru o1 h.le ho hg ⟨by simp only [List.append_nil]; exact rg, by show _ <= ((last + p1 : Nat) : Int); omega, by show ((last + p1 : Nat) : Int) <= _; omega⟩
 refine ⟨x1, x2, fun _ => N, h.q2, h.gl, x3, fun _ => ?_, e.2⟩
 rw [<- e.1 c0]
 unfold rmF
 rw [List.map_append, List.append_assoc]
 rfl
set_option maxHeartbeats 32000000 in
set_option maxRecDepth 100000 in
theorem r_Decode (A : Option Addr) (c : Nat) (D : List Int) (B : Nat) (W : World) (BD : ByteD W B ⟨A, c, D⟩) (hB : B <= W.heap.size) : Calls Tryz.prog 19 #[.slice A D.length c] W (DcR W D) := by
  obtain ⟨i0, z0, hi0, hz0, hz1, hz2, hz3⟩ := infoF
  obtain ⟨Q0, hQ0⟩ : ∃ Q0, Q0 = W.alloc (.cells #[.int .i64 0, .int .i64 0] 23) := ⟨_, rfl⟩
  have B0 : Below W.heap.size W Q0 := by rw [hQ0]; exact (Below.refl _ W).alloc zdA _
  have K0 : Bk Q0 W.heap.size [.int .i64 0, .int .i64 0] 23 := by rw [hQ0]; exact Bk.new W _ _
  have sz0 : Q0.heap.size = W.heap.size + 1 := by rw [hQ0]; simp
  have H0 := zdy hQ0
  by_cases big : 1048576 < D.length
  · have big' : (1048576 : Int) < (D.length : Int) := by omega
    have e0 : decT D = ⟨0, 0, [], 3, 0⟩ := by unfold decT; rw [if_pos big]
    have k0 := K0.c 0 _ rfl
    have k1 := K0.c 1 _ rfl
    have f0 := K0.f 0
    have f1 := K0.f 1
    have EN : Hid (∀ w', Below W.heap.size W w' -> DcR W D (.returned (.tuple #[.agg #[.int .i64 0, .int .i64 0], .slice none 0 0, .int .i64 3, .int .i64 0])) w') := zdy (fun w' b => by
      exact ⟨.slice none 0 0, [], by rw [e0], b, RmS.nil _ _, by rw [e0]; rfl⟩)
    clear hQ0 e0 K0
    go_enter Tryz.func19, Tryz.ntmps19
    go_upto_region 1 with fail
    rw [<- H0.out]
    go_wp2_with fail
    refine bodyPost_ret (v := .tuple #[.agg #[.int .i64 0, .int .i64 0], .slice none 0 0, .int .i64 3, .int .i64 0]) (by rw [kN rfl]; go_simp) rfl ?_
    exact EN.out _ ((B0.setCell (p := ⟨W.heap.size, 0, none⟩) zdA _).setCell (p := ⟨W.heap.size, 1, none⟩) zdA _)
  · have big' : ¬ (1048576 : Int) < (D.length : Int) := by omega
    have dl : D.length <= 1048576 := by omega
    obtain ⟨g, hg⟩ : ∃ g, g = Q0.heap.size := ⟨_, rfl⟩
    obtain ⟨Q1, hQ1⟩ : ∃ Q1, Q1 = Q0.alloc (.cells #[.slice A D.length c, .int .i64 0, .int .i64 0, .int .i64 0] 82) := ⟨_, rfl⟩
    have B1 : Below Q0.heap.size Q0 Q1 := by rw [hQ1]; exact (Below.refl _ Q0).alloc zdA _
    have R1 : RdS Q1 g A c D ⟨0, 0, 0⟩ 82 := ⟨by rw [hQ1, hg]; exact Bk.new Q0 _ _, (BD.below (B0.trans (B1.mono B0.size)) hB).more (by rw [hg]; exact Nat.le_trans hB B0.size), Nat.zero_le _⟩
    obtain ⟨Q2, hQ2⟩ : ∃ Q2, Q2 = Q1.alloc (.cells #[.int .u8 70, .int .u8 77, .int .u8 1] 5) := ⟨_, rfl⟩
    have B2 : Below Q1.heap.size Q1 Q2 := by rw [hQ2]; exact (Below.refl _ Q1).alloc zdA _
    have LT : Bk Q2 Q1.heap.size [.int .u8 70, .int .u8 77, .int .u8 1] 5 := by rw [hQ2]; exact Bk.new Q1 _ _
    have R2 : RdS Q2 g A c D ⟨0, 0, 0⟩ 82 := R1.nx (Mv.below B2) (R1.box.of_eq (B2.block _ R1.box.lt)) (Nat.zero_le _)
    have g1 : g < Q1.heap.size := R1.box.lt
    have H1 := zdy hQ1
    have H2 := zdy hQ2
    have HLT := zdy LT
    have HR2 := zdy R2
    have HG := zdy (show Q0.heap.size = g /\ W.heap.size < g /\ Below W.heap.size W Q2 from ⟨hg.symm, by omega, (B0.trans (B1.mono B0.size)).trans (B2.mono (Nat.le_trans B0.size B1.size))⟩)
    have K2 := zdy (K0.of_eq ((B1.trans (B2.mono B1.size)).block _ K0.lt))
    have RNG := zdy BD.rng
    have HGL := zdy (Nat.lt_of_lt_of_le g1 B2.size)
    generalize hlb : Q1.heap.size = lb at *
    clear hQ0 hQ1 hQ2 B0 K0 B1 R1 B2 LT R2 sz0 big BD hg
    go_enter Tryz.func19, Tryz.ntmps19
    go_upto_region 1 with fail
    rw [<- H0.out]
    go_upto_region 4 with fail
    rw [<- H1.out, HG.out.1]
    go_upto_region 5 with fail
    rw [<- H2.out]
    have HH : Hid (kq Q2 g A c D 0 Q2) := zdy ⟨HR2.out, Mv.refl _ _⟩
    clear H0 H1 H2 hlb
    go_wp2_with fail
    go_loopw [8] (fun s8 wr => ∃ (i : Nat), i <= 3 /\ s8 = .int .i64 (i : Int) /\ Hid (kq Q2 g A c D i wr)) (fun s8 _ => 3 - (intOf s8).toNat)
    case atStart => exact ⟨0, by decide, rfl, HH⟩
    case round =>
      obtain ⟨i, hi, rfl, he⟩ := hrel
      clear HH
      by_cases lt : i < 3
      · have q0 : (0 : Int) <= (i : Int) := by omega
        have q5 : (i : Int) < 3 := by omega
        have tn : (i : Int).toNat = i := by omega
        have wk := zdz ((i : Int) + 1) (by omega)
        have LB : Bk wr lb [.int .u8 70, .int .u8 77, .int .u8 1] 5 := HLT.out.of_eq (he.out.2.blk _ HLT.out.lt (by simp; omega))
        have cl : ∀ w1, Bk w1 lb [.int .u8 70, .int .u8 77, .int .u8 1] 5 -> w1.cell? ⟨lb, i, none⟩ = some (.int .u8 (lit3 i)) := fun w1 LB => by
          obtain rfl | rfl | rfl : i = 0 \/ i = 1 \/ i = 2 := by omega
          · exact LB.c 0 _ rfl
          · exact LB.c 1 _ rfl
          · exact LB.c 2 _ rfl
        have TK := zdy (QX g A c D (stR D i) 1 wr he.out.1 (by decide))
        have NS := zdy (show stR D (i + 1) = jt D (stR D i) i (lit3 i) from rfl)
        have HCL := zdy cl
        clear cl
        have LB := zdy (fun w1 (m : Mv [g] wr w1) => LB.of_eq (m.blk _ LB.lt (by simp; omega)))
        generalize lit3 i = l3 at *
        have HM := zdy he.out.2
        have HAT := zdy he.out.1.at_
        generalize stR D i = ri at *
        clear he
        go_wp2_with fail
        refine TK.out.mono ?_; rintro e w1 ⟨R1, M1, (⟨bad, rfl⟩ | ⟨⟨c0, l2⟩, g', c', rfl, O1⟩)⟩
        · have NX : Hid (kq Q2 g A c D (i + 1) w1) := zdy ⟨by rw [NS.out, Vb _ _ (vK bad).2]; exact R1, HM.out.then M1⟩
          have j2 : w1.cell? ⟨g, 2, none⟩ = some (.int .i64 (zo D ri 1).2.code) := R1.box.c 2 _ rfl
          have c1 : ((zo D ri 1).2.code == 0) = false := by simpa using (vK bad).1
          clear TK R1 M1 bad LB HCL
          go_upto_region 9 with fail
          refine qk 14 (by kernel_rfl) (by kernel_rfl) ?_
          simp only [zdB, zdC, zdD, zdE]
          repeat (first | go_big_quiet_step (fail) | quiet_step (fail))
          refine wpQuiet_nil ?_
          intro _ hw'
          obtain ⟨nq, hw''⟩ := hw'
          subst hw''
          have NX : Hid (kq Q2 g A c D (i + 1) (w1.drewN nq)) := zdy ⟨NX.out.1.drewN nq, NX.out.2.drewN nq⟩
          go_wp2_with fail
          go_roundw
          case rel => exact ⟨i + 1, by omega, by go_num, NX⟩
          case measure => simp [intOf]; omega
        · have l1 : ri.at_ < D.length := by omega
          have TR : (zo D ri 1).2 = ⟨ri.at_ + 1, 0, ri.spot⟩ := by have := jO (n := 1) c0 l2; rw [show ((1 : Nat) : Int) = 1 from rfl] at this; rw [this]
          have R1 : RdS w1 g A c D ⟨ri.at_ + 1, 0, ri.spot⟩ 82 := by rw [<- TR]; exact R1
          have cb : w1.cell? ⟨g', 0, none⟩ = some (.int .u8 (D.getD ri.at_ 0)) := O1.u8 0 _ (by rw [List.append_nil]; show ((D.drop ri.at_).take 1)[0]? = _; rw [Kq l1]; rfl)
          have ZZ := zdy (NS.out.trans (Vc (i : Int) l3 c0 l1))
          have cl := HCL.out w1 (LB.out w1 M1)
          have j2 : w1.cell? ⟨g, 2, none⟩ = some (.int .i64 0) := R1.box.c 2 _ rfl
          have S1 := zdy (And.intro R1 (HM.out.then M1))
          generalize D.getD ri.at_ 0 = dd at *
          clear TK M1 LB HCL O1 R1 TR c0 l2 l1
          by_cases ne : dd = l3
          · subst ne
            have NX : Hid (kq Q2 g A c D (i + 1) w1) := zdy ⟨by rw [ZZ.out, if_neg (fun q => q rfl)]; exact S1.out.1, S1.out.2⟩
            go_upto_region 9 with fail
            refine qk 14 (by kernel_rfl) (by kernel_rfl) ?_
            simp only [zdB, zdC, zdD, zdE]
            repeat (first | go_big_quiet_step (fail) | quiet_step (fail))
            refine wpQuiet_nil ?_
            intro _ hw'
            obtain ⟨nq, hw''⟩ := hw'
            subst hw''
            have NX : Hid (kq Q2 g A c D (i + 1) (w1.drewN nq)) := zdy ⟨NX.out.1.drewN nq, NX.out.2.drewN nq⟩
            go_wp2_with fail
            go_roundw
            case rel => exact ⟨i + 1, by omega, by go_num, NX⟩
            case measure => simp [intOf]; omega
          · have ne' : (dd == l3) = false := by simpa using ne
            go_upto_region 9 with fail
            refine qk 14 (by kernel_rfl) (by kernel_rfl) ?_
            simp only [zdB, zdC, zdD, zdE]
            repeat (first | go_big_quiet_step (fail) | quiet_step (fail))
            refine wpQuiet_nil ?_
            intro _ hw'
            obtain ⟨nq, hw''⟩ := hw'
            subst hw''
            have S2 := zdy (And.intro (S1.out.1.drewN nq) (S1.out.2.drewN nq))
            have FL := zdy (xK g A D.length c ⟨ri.at_ + 1, 0, ri.spot⟩ 300 i (w1.drewN nq) S2.out.1.box)
            go_wp2_with fail
            refine FL.out.mono ?_; rintro e w2 ⟨rfl, b2, m2⟩
            have NX : Hid (kq Q2 g A c D (i + 1) w2) := zdy ⟨by rw [ZZ.out, if_pos ne]; exact S2.out.1.nx m2 b2 (by rw [zM]; exact S2.out.1.at_), S2.out.2.then m2⟩
            clear FL b2 m2
            go_wp2_with fail
            go_roundw
            case rel => exact ⟨i + 1, by omega, by go_num, NX⟩
            case measure => simp [intOf]; omega
      · have e3 : i = 3 := by omega
        subst e3
        have q5 : ¬ (3 : Int) < 3 := by omega
        obtain ⟨r0, hr0⟩ : ∃ r0, r0 = stR D 3 := ⟨_, rfl⟩
        have S0 := zdy (show RdS wr g A c D r0 82 /\ Mv [g] Q2 wr by rw [hr0]; exact he.out)
        have N1 := zdy (vE g A c D r0 4096 wr S0.out.1 (by decide) (by decide))
        have PR1 := zdy (jN RNG.out r0 (most := 4096) (by decide))
        have HR0 := zdy hr0
        clear he hr0
        go_wp2_with fail
        refine N1.out.mono ?_; rintro e w1 ⟨rfl, R1, M1⟩
        have S1 := zdy (And.intro R1 (S0.out.2.then M1))
        obtain ⟨wn, hwn⟩ : ∃ wn : Nat, (numR D r0 4096).1 = (wn : Int) := ⟨(numR D r0 4096).1.toNat, by have := PR1.out; omega⟩
        obtain ⟨r1, hr1⟩ : ∃ r1, (numR D r0 4096).2 = r1 := ⟨_, rfl⟩
        have wl : wn <= 4096 := by have := PR1.out; omega
        rw [hwn]
        rw [hr1] at S1
        have E1 := zdy (And.intro hwn hr1)
        have a1 : w1.cell? ⟨g, 1, none⟩ = some (.int .i64 (r1.at_ : Int)) := S1.out.1.box.c 1 _ rfl
        have N2 := zdy (vE g A c D r1 4096 w1 S1.out.1 (by decide) (by decide))
        have PR2 := zdy (jN RNG.out r1 (most := 4096) (by decide))
        clear N1 PR1 R1 M1 S0 hwn hr1
        go_wp2_with fail
        refine N2.out.mono ?_; rintro e w2 ⟨rfl, R2, M2⟩
        have S2 := zdy (And.intro R2 (S1.out.2.then M2))
        obtain ⟨hn, hhn⟩ : ∃ hn : Nat, (numR D r1 4096).1 = (hn : Int) := ⟨(numR D r1 4096).1.toNat, by have := PR2.out; omega⟩
        obtain ⟨r2, hr2⟩ : ∃ r2, (numR D r1 4096).2 = r2 := ⟨_, rfl⟩
        have hl : hn <= 4096 := by have := PR2.out; omega
        rw [hhn]
        rw [hr2] at S2
        have E2 := zdy (And.intro hhn hr2)
        obtain ⟨r3, hr3⟩ : ∃ r3, r3 = jA r2 r1.at_ wn hn := ⟨_, rfl⟩
        have E3 := zdy hr3
        obtain ⟨P, hP⟩ : ∃ P : Nat, (wn : Int) * (hn : Int) = (P : Int) := ⟨wn * hn, by simp⟩
        have pb : P <= 4096 * 4096 := by have : wn * hn <= 4096 * 4096 := Nat.mul_le_mul wl hl; have e : ((wn * hn : Nat) : Int) = (P : Int) := by rw [<- hP]; simp
                                         omega
        have wP : IntKind.i64.wrap ((wn : Int) * (hn : Int)) = (P : Int) := by rw [hP]; exact zdz _ (by omega)
        have HP := zdy hP
        clear N2 PR2 R2 M2 S1 hhn hr2 hr3 hP a1
        go_upto_if 66 with fail
        go_cut [] from 63 to 69 (fun wx => Hid (RdS wx g A c D r3 82 /\ Mv [g] Q2 wx))
        case first =>
          by_cases big2 : 1048576 < P
          · have b2 : (1048576 : Int) < (P : Int) := by omega
            have FL := zdy (xK g A D.length c r2 300 r1.at_ w2 S2.out.1.box)
            have NX : Hid (∀ w3, Bk w3 g (rdV A D.length c (zr r2 300 r1.at_)) 82 -> Mv [g] w2 w3 -> RdS w3 g A c D r3 82 /\ Mv [g] Q2 w3) := zdy (fun w3 b m => by
              have e : r3 = zr r2 300 r1.at_ := by rw [E3.out]; unfold jA; rw [if_pos (by rw [HP.out]; exact b2)]
              rw [e]
              exact ⟨S2.out.1.nx m b (by rw [zM]; exact S2.out.1.at_), S2.out.2.then m⟩)
            clear big2
            go_wp2_with fail
            refine FL.out.mono ?_; rintro e w3 ⟨rfl, b3, m3⟩
            have NX := zdy (NX.out w3 b3 m3)
            clear FL b3 m3
            go_wp2_with fail
            go_meet
            exact NX
          · have b2 : ¬ (1048576 : Int) < (P : Int) := by omega
            have NX : Hid (RdS w2 g A c D r3 82 /\ Mv [g] Q2 w2) := zdy (by
              have e : r3 = r2 := by rw [E3.out]; unfold jA; rw [if_neg (by rw [HP.out]; exact b2)]
              rw [e]
              exact S2.out)
            clear big2
            go_wp2_with fail
            go_meet
            exact NX
        case rest =>
          obtain ⟨w3, hw3⟩ : ∃ w3, w3 = wc := ⟨_, rfl⟩
          rw [<- hw3] at hcut ⊢
          have S3 := zdy hcut.out
          clear hw3 hcut S2 HP wP pb
          have N3 := zdy (vE g A c D r3 16384 w3 S3.out.1 (by decide) (by decide))
          have PR3 := zdy (jN RNG.out r3 (most := 16384) (by decide))
          go_wp2_with fail
          refine N3.out.mono ?_; rintro e w4 ⟨rfl, R4, M4⟩
          have S4 := zdy (And.intro R4 (S3.out.2.then M4))
          obtain ⟨kn, hkn⟩ : ∃ kn : Nat, (numR D r3 16384).1 = (kn : Int) := ⟨(numR D r3 16384).1.toNat, by have := PR3.out; omega⟩
          obtain ⟨r4, hr4⟩ : ∃ r4, (numR D r3 16384).2 = r4 := ⟨_, rfl⟩
          have kl : kn <= 16384 := by have := PR3.out; omega
          rw [hkn]
          rw [hr4] at S4
          have E4 := zdy (And.intro hkn hr4)
          obtain ⟨F, hF⟩ : ∃ F, F = frsR D kn 0 r4 := ⟨_, rfl⟩
          have EF := zdy hF
          have FS : Hid (FrsSr Q2 w4.heap.size g A c D F kn 0 r4 [] (.slice none 0 0) w4) := zdy ⟨S4.out.1, S4.out.2, fun _ => RmS.nil _ _, S4.out.2.size, HGL.out, zdA, by rw [hF]; exact ⟨fun _ => rfl, rfl⟩⟩
          obtain ⟨lo, hlo⟩ : ∃ lo, lo = w4.heap.size := ⟨_, rfl⟩
          rw [<- hlo] at FS
          clear N3 PR3 R4 M4 S3 hkn hr4 hF S4 hlo
          go_wp2_with fail
          go_loopw [14, 15, 16] (fun s14 s15 s16 wr => ∃ (i k last : Nat) (r : RdT) (M : List RM) (v : Value), i + k = kn /\ M.length <= i /\ s16 = .int .i64 (i : Int) /\ s15 = .int .i64 (last : Int) /\ s14 = v /\ last <= 1099511627776 /\ Hid (FrsSr Q2 lo g A c D F k last r M v wr)) (fun _ _ s16 _ => kn - (intOf s16).toNat)
          case atStart => exact ⟨0, kn, 0, r4, [], .slice none 0 0, by omega, zdA, rfl, rfl, rfl, by omega, FS⟩
          case round =>
            obtain ⟨i, k, last, r, M, v, hk, hll, rfl, rfl, rfl, lb, he⟩ := hrel
            clear FS
            have j2 := he.out.rd.box.c 2 _ rfl
            by_cases go : 0 < k /\ r.code = 0
            · obtain ⟨k0, rc⟩ := go
              obtain ⟨k', rfl⟩ : ∃ k', k = k' + 1 := ⟨k - 1, by omega⟩
              obtain ⟨A', c', ev⟩ := (he.out.rm rc).slc
              rw [Nat.add_zero] at ev
              subst ev
              obtain ⟨ll, hl2⟩ : ∃ ll, ll = M.length := ⟨_, rfl⟩
              rw [<- hl2] at he hll ⊢
              have q5 : (i : Int) < (kn : Int) := by omega
              rw [rc] at j2
              have wk := zdz ((i : Int) + 1) (by omega)
              have wl := zdz (1099511627776 - (last : Int)) (by omega)
              have N5 := zdy (vE g A c D r (1099511627776 - (last : Int)) wr he.out.rd (by omega) (by omega))
              have PR5 := jN RNG.out r (most := 1099511627776 - (last : Int)) (by omega)
              obtain ⟨p1, hp1⟩ : ∃ p1 : Nat, (numR D r (1099511627776 - (last : Int))).1 = (p1 : Int) := ⟨(numR D r (1099511627776 - (last : Int))).1.toNat, by omega⟩
              obtain ⟨r5, hr5⟩ : ∃ r5, (numR D r (1099511627776 - (last : Int))).2 = r5 := ⟨_, rfl⟩
              have pl : last + p1 <= 1099511627776 := by omega
              have E5 := zdy (show numR D r (1099511627776 - (last : Int)) = ((p1 : Int), r5) by rw [<- hp1, <- hr5])
              have wp := zdz ((last : Int) + (p1 : Int)) (by omega)
              have RC := zdy rc
              have HL2 := zdy hl2
              clear PR5 hp1 hr5 rc k0 hl2
              go_wp2_with fail
              refine N5.out.mono ?_; rintro e w5 ⟨rfl, R5, M5⟩
              rw [E5.out] at R5 ⊢
              dsimp only at R5 ⊢
              have HM5 := zdy M5
              have N6 := zdy (vE g A c D r5 1099511627776 w5 R5 (by decide) (by decide))
              have PR6 := jN RNG.out r5 (most := 1099511627776) (by decide)
              obtain ⟨q1, hq1⟩ : ∃ q1 : Nat, (numR D r5 1099511627776).1 = (q1 : Int) := ⟨(numR D r5 1099511627776).1.toNat, by omega⟩
              obtain ⟨r6, hr6⟩ : ∃ r6, (numR D r5 1099511627776).2 = r6 := ⟨_, rfl⟩
              have E6 := zdy (show numR D r5 1099511627776 = ((q1 : Int), r6) by rw [<- hq1, <- hr6])
              have ql : q1 <= 1099511627776 := by omega
              clear N5 R5 M5 PR6 hq1 hr6
              go_wp2_with fail
              refine N6.out.mono ?_; rintro e w6 ⟨rfl, R6, M6⟩
              rw [E6.out] at R6 ⊢
              dsimp only at R6 ⊢
              have T7 := zdy (QX g A c D r6 q1 w6 R6 ql)
              have HM6 := zdy (HM5.out.then M6)
              clear N6 R6 M6 HM5
              go_wp2_with fail
              refine T7.out.mono ?_; rintro e w7 ⟨R7, M7, HH⟩
              have m7 := HM6.out.then M7
              obtain ⟨Y, n3, c3, rfl, NX⟩ : ∃ (Y : Option Addr) (n3 c3 : Nat), e = .returned (.slice Y n3 c3) /\ ∀ (w8 : World) (v' : Value), w8.ownsRow lo 47 2 v' (ll + 1) (rmV M ++ [.int .i64 ((last : Int) + (p1 : Int)), .slice Y n3 c3]) -> (w7.alloc (.cells #[.int .i64 ((last : Int) + (p1 : Int)), .slice Y n3 c3] 47)).grownBy w8 (Value.slice A' ll c').ownBlock -> ∃ r8 M8, Hid (M8.length <= i + 1) /\ FrsSr Q2 lo g A c D F k' (last + p1) r8 M8 v' w8 := by
                rcases HH with ⟨bad, rfl⟩ | ⟨⟨c6, l6⟩, g', c3, rfl, O7⟩
                · exact ⟨_, _, _, rfl, fun w8 v' ho hg => ⟨_, [], zdy (Nat.zero_le _), FrsSr.bad he.out RC.out E5.out E6.out rfl R7 m7 ((Below.refl _ w7).alloc zdA _) hg (vK bad).1⟩⟩
                · have et := jO c6 l6
                  rw [et] at R7
                  have tn := Zj l6
                  refine ⟨_, _, _, rfl, fun w8 v' ho hg => ⟨_, _, zdy ?_, FrsSr.good he.out RC.out E5.out E6.out et HM6.out R7 m7 pl O7 (Kr RNG.out _ _) ((Below.refl _ w7).alloc zdA _) hg ?_⟩⟩
                  · rw [List.length_append, <- HL2.out]; show ll + 1 <= i + 1; omega
                  · rw [tn, <- HL2.out]; exact ho
              have ow : (w7.alloc (.cells #[.int .i64 ((last : Int) + (p1 : Int)), .slice Y n3 c3] 47)).ownsRow lo 47 2 (.slice A' ll c') ll (rmV M) := by
                have a1 := ((he.out.rm RC.out).mvg m7 he.out.rd.box (by decide) (by have := he.out.gl; have := he.out.q2; omega)).below ((Below.refl _ w7).alloc zdA (.cells #[.int .i64 ((last : Int) + (p1 : Int)), .slice Y n3 c3] 47))
                have a2 := a1.own
                rw [Nat.add_zero, show z77 0 = [] from rfl, List.append_nil, <- HL2.out] at a2
                exact a2
              have NX := zdy NX
              have ow := zdy ow
              have H1 : Hid (∀ u ∈ [Value.int .i64 ((last : Int) + (p1 : Int)), .slice Y n3 c3], u.oneCell' = true) := zdy (by intro u hu; simp at hu; rcases hu with rfl | rfl <;> rfl)
              have H2 : Hid (ll + 1 <= maxLen) := zdy (by unfold maxLen; omega)
              have H3 : Hid ((ll + 1) * 32 <= 140737488355328) := zdy (by omega)
              have H4 : Hid (lo <= (w7.alloc (.cells #[.int .i64 ((last : Int) + (p1 : Int)), .slice Y n3 c3] 47)).heap.size) := zdy (by have := he.out.le; have := m7.size; simp; omega)
              have NW := zdy (qT w7 [.int .i64 ((last : Int) + (p1 : Int)), .slice Y n3 c3] 47)
              clear T7 HH m7 HM6 R7 M7 he
              go_wp2_with (at_builtin; refine wpList_append_own _ rfl (.tmp 96) (.tmp 100) 24 rfl lo 47 i0 z0 2 32 Tryz.underlying24 hi0 hz0 hz1 hz2 hz3 (by decide) (.slice A' ll c') ll _ rfl ow.out ⟨w7.heap.size, 0, none⟩ 1 1 _ rfl rfl NW.out H1.out H2.out H3.out H4.out ?_; intro v' w8 hown3 hg3 _; obtain ⟨r8, M8, hl8, P4⟩ := NX.out w8 v' hown3 hg3; have P4 := zdy P4; clear hown3 hg3 NX ow NW)
              go_roundw
              case rel => exact ⟨i + 1, k', last + p1, r8, M8, v', by omega, hl8.out, by go_num, by go_num, rfl, pl, P4⟩
              case measure => simp [intOf]; omega
            · have EQ : Hid ((r.code = 0 -> rmF M = F.1) /\ r = F.2) := zdy (by
                have e := he.out.eq
                have z : frsR D k last r = ([], r) := by
                  by_cases k0 : k = 0
                  · subst k0; rfl
                  · exact QP k last (fun z => go ⟨by omega, z⟩)
                rw [z] at e
                dsimp only at e
                rw [List.append_nil] at e
                exact e)
              go_upto_region 20 with fail
              go_cut [81] from 72 to 81 (fun s81 wx => s81 = .bool false /\ wx = wr)
              case first =>
                by_cases k0 : k = 0
                · have q5 : ¬ (i : Int) < (kn : Int) := by omega
                  clear he EQ go
                  go_wp2_with fail
                  go_meet
                  exact ⟨rfl, rfl⟩
                · have q5 : (i : Int) < (kn : Int) := by omega
                  have c0 : ¬ r.code = 0 := fun z => go ⟨by omega, z⟩
                  have c1 : (r.code == 0) = false := by simpa using c0
                  clear he EQ go
                  go_wp2_with fail
                  go_meet
                  exact ⟨by first | rfl | rw [c1], rfl⟩
              case rest =>
                obtain ⟨rfl, hwx⟩ := hcut
                rw [hwx]
                clear hwx go hk lb
                have a1 := he.out.rd.box.c 1 _ rfl
                have T4 := zdy (QX g A c D r 4 wr he.out.rd (by decide))
                go_upto_region 28 with fail
                go_wp2_with fail
                refine T4.out.mono ?_; rintro e w7 ⟨R7, M7, HH⟩
                have HH := zdy HH
                obtain ⟨Y, n3, c3, rfl⟩ : ∃ (Y : Option Addr) (n3 c3 : Nat), e = .returned (.slice Y n3 c3) := by
                  rcases HH.out with ⟨_, rfl⟩ | ⟨_, g', c3, rfl, _⟩
                  · exact ⟨_, _, _, rfl⟩
                  · exact ⟨_, _, _, rfl⟩
                obtain ⟨r9, hr9⟩ : ∃ r9, r9 = sumR D r := ⟨_, rfl⟩
                have E9 := zdy hr9
                obtain ⟨r7, hr7⟩ : ∃ r7, r7 = (zo D r 4).2 := ⟨_, rfl⟩
                have E7 := zdy hr7
                have S7 : Hid (RdS w7 g A c D r7 82 /\ Mv [g] wr w7) := zdy (by rw [hr7]; exact ⟨R7, M7⟩)
                have j7 : w7.cell? ⟨g, 2, none⟩ = some (.int .i64 r7.code) := S7.out.1.box.c 2 _ rfl
                clear T4 R7 M7 hr9 hr7 a1 j2
                go_upto_if 112 with fail
                go_cut [22] from 108 to 156 (fun s22 wx => Hid (RdS wx g A c D r9 82 /\ Mv [g] wr wx))
                case first =>
                  rcases HH.out with ⟨bad, eY⟩ | ⟨⟨c0, l4⟩, g', c4, eY, O7⟩
                  · have c1 : (r7.code == 0) = false := by rw [E7.out]; simpa using (vK bad).1
                    have NX : Hid (RdS w7 g A c D r9 82 /\ Mv [g] wr w7) := zdy (by
                      have e : r9 = r7 := by rw [E9.out, E7.out]; unfold sumR; dsimp only; exact if_pos (vK bad).2
                      rw [e]
                      exact S7.out)
                    clear he EQ HH eY bad
                    go_wp2_with fail
                    go_meet
                    exact NX
                  · injection eY with eY
                    injection eY with y1 y2 y3
                    subst y1; subst y2; subst y3
                    have TE := jO (n := 4) c0 l4
                    have T4e : (D.drop r.at_).take 4 = [D.getD r.at_ 0, D.getD (r.at_ + 1) 0, D.getD (r.at_ + 2) 0, D.getD (r.at_ + 3) 0] := Vg l4
                    have cc0 : w7.cell? ⟨g', 0, none⟩ = some (.int .u8 (D.getD r.at_ 0)) := O7.u8 0 _ (by rw [List.append_nil]; show ((D.drop r.at_).take 4)[0]? = _; rw [T4e]; rfl)
                    have cc1 : w7.cell? ⟨g', 1, none⟩ = some (.int .u8 (D.getD (r.at_ + 1) 0)) := O7.u8 1 _ (by rw [List.append_nil]; show ((D.drop r.at_).take 4)[1]? = _; rw [T4e]; rfl)
                    have cc2 : w7.cell? ⟨g', 2, none⟩ = some (.int .u8 (D.getD (r.at_ + 2) 0)) := O7.u8 2 _ (by rw [List.append_nil]; show ((D.drop r.at_).take 4)[2]? = _; rw [T4e]; rfl)
                    have cc3 : w7.cell? ⟨g', 3, none⟩ = some (.int .u8 (D.getD (r.at_ + 3) 0)) := O7.u8 3 _ (by rw [List.append_nil]; show ((D.drop r.at_).take 4)[3]? = _; rw [T4e]; rfl)
                    have b0 := xW RNG.out r.at_
                    have b1 := xW RNG.out (r.at_ + 1)
                    have b2 := xW RNG.out (r.at_ + 2)
                    have b3 := xW RNG.out (r.at_ + 3)
                    obtain ⟨s, hs⟩ : ∃ s : Nat, sumL (D.take r.at_) = (s : Int) := ⟨(sumL (D.take r.at_)).toNat, by have := xV (D.take r.at_); omega⟩
                    have s0 : s < 4294967296 := by have := xV (D.take r.at_); omega
                    have SM := r_Sum A c (D.take r.at_) g w7 (Vh S7.out.1.dat.sees r.at_) (fun b m => RNG.out b (List.mem_of_mem_take m)) (by rw [List.length_take]; omega)
                    rw [hs, List.length_take, Nat.min_eq_left (by omega)] at SM
                    have SM := zdy SM
                    have hr8 : r7 = ⟨r.at_ + 4, 0, r.spot⟩ := by rw [E7.out]; rw [show ((4 : Nat) : Int) = 4 from rfl] at TE; rw [TE]
                    have c7 : r7.code = 0 := by rw [hr8]
                    have c1 : (r7.code == 0) = true := by rw [c7]; rfl
                    have k1 : w7.cell? ⟨g, 1, none⟩ = some (.int .i64 ((r.at_ + 4 : Nat) : Int)) := by have := S7.out.1.box.c 1 _ rfl; rw [hr8] at this; exact this
                    have EQN : Hid (r9 = if [D.getD r.at_ 0, D.getD (r.at_ + 1) 0, D.getD (r.at_ + 2) 0, D.getD (r.at_ + 3) 0] ≠ qw (s : Int) then zr r7 300 ((r.at_ : Nat) : Int) else if r.at_ + 4 < D.length then zr r7 300 ((r.at_ + 4 : Nat) : Int) else r7) := zdy (by
                      rw [E9.out, <- hs, hr8]
                      unfold sumR
                      rw [show ((4 : Nat) : Int) = 4 from rfl] at TE
                      rw [TE, T4e]
                      dsimp only
                      rw [if_neg (by simp)])
                    have cap : D.length <= c := he.out.rd.dat.cap
                    generalize D.getD r.at_ 0 = d0 at *
                    generalize D.getD (r.at_ + 1) 0 = d1 at *
                    generalize D.getD (r.at_ + 2) 0 = d2 at *
                    generalize D.getD (r.at_ + 3) 0 = d3 at *
                    obtain ⟨p4, hp4⟩ : ∃ p4, p4 = r.at_ + 4 := ⟨_, rfl⟩
                    rw [<- hp4] at k1 EQN
                    have pl4 : p4 <= D.length := by omega
                    have pp4 : p4 = r.at_ + 4 := hp4
                    generalize r.at_ = p at *
                    have FL1 := zdy (fun q => xK g A D.length c r7 300 p (w7.drewN q) (S7.out.1.drewN q).box)
                    have FL2 := zdy (fun q => xK g A D.length c r7 300 p4 (w7.drewN q) (S7.out.1.drewN q).box)
                    have pc : p <= c := by omega
                    have x0 : (0 : Int) <= (p : Int) := by omega
                    have x1 : (p : Int) <= (c : Int) := by omega
                    have tp : (p : Int).toNat = p := by omega
                    have v0 : IntKind.u32.wrap d0 = d0 := qb _ (by omega)
                    have v1 : IntKind.u32.wrap d1 = d1 := qb _ (by omega)
                    have v2 : IntKind.u32.wrap d2 = d2 := qb _ (by omega)
                    have v3 : IntKind.u32.wrap d3 = d3 := qb _ (by omega)
                    have v4 : IntKind.u32.wrap (256 * d1) = 256 * d1 := qb _ (by omega)
                    have v5 : IntKind.u32.wrap (d0 + 256 * d1) = d0 + 256 * d1 := qb _ (by omega)
                    have v6 : IntKind.u32.wrap (65536 * d2) = 65536 * d2 := qb _ (by omega)
                    have v7 : IntKind.u32.wrap (d0 + 256 * d1 + 65536 * d2) = d0 + 256 * d1 + 65536 * d2 := qb _ (by omega)
                    have v8 : IntKind.u32.wrap (16777216 * d3) = 16777216 * d3 := qb _ (by omega)
                    have v9 : IntKind.u32.wrap (d0 + 256 * d1 + 65536 * d2 + 16777216 * d3) = d0 + 256 * d1 + 65536 * d2 + 16777216 * d3 := qb _ (by omega)
                    have TT : d0 + 256 * d1 + 65536 * d2 + 16777216 * d3 = (s : Int) ↔ [d0, d1, d2, d3] = qw (s : Int) := by
                      unfold qw
                      simp only [List.cons.injEq, and_true]
                      constructor
                      · intro h; refine ⟨?_, ?_, ?_, ?_⟩ <;> omega
                      · rintro ⟨h1, h2, h3, h4⟩; omega
                    have TT := zdy TT
                    have DN : Hid (∀ q w9 r', Bk w9 g (rdV A D.length c (zr r7 300 r')) 82 -> Mv [g] (w7.drewN q) w9 -> r9 = zr r7 300 r' -> RdS w9 g A c D r9 82 /\ Mv [g] wr w9) := zdy (fun q w9 r' b m e => by
                      rw [e]
                      exact ⟨(S7.out.1.drewN q).nx m b (by rw [zM]; exact S7.out.1.at_), (S7.out.2.drewN q).then m⟩)
                    clear he EQ HH TE T4e O7 hs hr8 hp4 pp4 l4 c0 b0 b1 b2 b3 E9 E7 pc
                    by_cases n0 : d0 + 256 * d1 + 65536 * d2 + 16777216 * d3 = (s : Int)
                    case neg =>
                      have n1 : (d0 + 256 * d1 + 65536 * d2 + 16777216 * d3 == (s : Int)) = false := by simpa using n0
                      have ER := zdy (show r9 = zr r7 300 p by rw [EQN.out]; exact if_pos (fun z => n0 (TT.out.2 z)))
                      go_wp2_with fail
                      refine SM.out.mono ?_; rintro e w8 ⟨rfl, hw8⟩; subst hw8
                      clear SM
                      go_upto_region 31 with fail
                      refine qk 23 (by kernel_rfl) (by kernel_rfl) ?_
                      simp only [zdB, zdC, zdD, zdE]
                      repeat (first | go_big_quiet_step (fail) | quiet_step (fail))
                      refine wpQuiet_nil ?_
                      intro _ hw'
                      obtain ⟨nq, hw''⟩ := hw'
                      subst hw''
                      have FL1 := zdy (FL1.out nq)
                      go_wp2_with fail
                      refine FL1.out.mono ?_; rintro e w9 ⟨rfl, b9, m9⟩
                      have NX := zdy (DN.out nq w9 _ b9 m9 ER.out)
                      clear FL1 FL2 b9 m9
                      go_wp2_with fail
                      go_meet
                      exact NX
                    case pos =>
                      have n1 : (d0 + 256 * d1 + 65536 * d2 + 16777216 * d3 == (s : Int)) = true := by simpa using n0
                      have EQ2 := zdy (EQN.out.trans (if_neg (fun z => z (TT.out.1 n0))))
                      by_cases more : p4 < D.length
                      · have more' : (p4 : Int) < (D.length : Int) := by omega
                        have ER := zdy (show r9 = zr r7 300 p4 by rw [EQ2.out]; exact if_pos more)
                        clear more
                        go_wp2_with fail
                        refine SM.out.mono ?_; rintro e w8 ⟨rfl, hw8⟩; subst hw8
                        clear SM
                        go_upto_region 31 with fail
                        refine qk 23 (by kernel_rfl) (by kernel_rfl) ?_
                        simp only [zdB, zdC, zdD, zdE]
                        repeat (first | go_big_quiet_step (fail) | quiet_step (fail))
                        refine wpQuiet_nil ?_
                        intro _ hw'
                        obtain ⟨nq, hw''⟩ := hw'
                        subst hw''
                        have FL2 := zdy (FL2.out nq)
                        go_wp2_with fail
                        refine FL2.out.mono ?_; rintro e w9 ⟨rfl, b9, m9⟩
                        have NX := zdy (DN.out nq w9 _ b9 m9 ER.out)
                        clear FL1 FL2 b9 m9
                        go_wp2_with fail
                        go_meet
                        exact NX
                      · have more' : ¬ (p4 : Int) < (D.length : Int) := by omega
                        have NX : Hid (∀ q, RdS (w7.drewN q) g A c D r9 82 /\ Mv [g] wr (w7.drewN q)) := zdy (fun q => by
                          have e : r9 = r7 := by rw [EQ2.out]; exact if_neg more
                          rw [e]
                          exact ⟨S7.out.1.drewN q, S7.out.2.drewN q⟩)
                        clear more
                        go_wp2_with fail
                        refine SM.out.mono ?_; rintro e w8 ⟨rfl, hw8⟩; subst hw8
                        clear SM
                        go_upto_region 31 with fail
                        refine qk 23 (by kernel_rfl) (by kernel_rfl) ?_
                        simp only [zdB, zdC, zdD, zdE]
                        repeat (first | go_big_quiet_step (fail) | quiet_step (fail))
                        refine wpQuiet_nil ?_
                        intro _ hw'
                        obtain ⟨nq, hw''⟩ := hw'
                        subst hw''
                        have NX := zdy (NX.out nq)
                        go_wp2_with fail
                        go_meet
                        exact NX
                case rest =>
                  obtain ⟨w8, hw8⟩ : ∃ w8, w8 = wc := ⟨_, rfl⟩
                  rw [<- hw8] at hcut ⊢
                  have S9 := zdy hcut.out
                  clear hw8 hcut S7 HH j7
                  have DE : Hid (decT D = endR wn hn F.1 r9) := zdy (by
                    unfold decT
                    rw [if_neg (by omega)]
                    dsimp only
                    rw [<- Vk, <- HR0.out, E1.out.1, E1.out.2, E2.out.1, E2.out.2, <- E3.out, E4.out.1, E4.out.2, Int.toNat_natCast, <- EF.out, <- EQ.out.2, <- E9.out])
                  have mq := he.out.mv.then S9.out.2
                  have K8 : Bk w8 W.heap.size [.int .i64 0, .int .i64 0] 23 := K2.out.of_eq (mq.blk _ K2.out.lt (by have := HG.out.2.1; simp; omega))
                  have f0 := K8.f 0
                  have f1 := K8.f 1
                  have s0 := K8.c 0 _ rfl
                  have s1 := K8.c 1 _ rfl
                  have BW : Below W.heap.size W w8 := HG.out.2.2.trans (⟨mq.os, mq.tape, mq.output, mq.size, fun j hj => mq.blk j (by have := HG.out.2.2.size; omega) (by have := HG.out.2.1; simp; omega)⟩)
                  have HBW := zdy BW
                  have j2 : w8.cell? ⟨g, 2, none⟩ = some (.int .i64 r9.code) := S9.out.1.box.c 2 _ rfl
                  have j3 : w8.cell? ⟨g, 3, none⟩ = some (.int .i64 r9.spot) := S9.out.1.box.c 3 _ rfl
                  by_cases c9 : r9.code = 0
                  case neg =>
                    have b9 : (r9.code == 0) = false := by simpa using c9
                    have EN : Hid (∀ w', Below W.heap.size W w' -> DcR W D (.returned (.tuple #[.agg #[.int .i64 0, .int .i64 0], .slice none 0 0, .int .i64 r9.code, .int .i64 r9.spot])) w') := zdy (fun w' b => by
                      have e : decT D = ⟨0, 0, [], r9.code, r9.spot⟩ := by rw [DE.out]; unfold endR; rw [if_pos c9]
                      exact ⟨.slice none 0 0, [], by rw [e], b, RmS.nil _ _, by rw [e]; rfl⟩)
                    clear he EQ K8 BW DE mq
                    go_upto_region 36 with fail
                    go_region
                    go_wp2_with fail
                    refine bodyPost_ret (v := .tuple #[.agg #[.int .i64 0, .int .i64 0], .slice none 0 0, .int .i64 r9.code, .int .i64 r9.spot]) (by rw [kN rfl]; go_simp) rfl ?_
                    exact EN.out _ (((HBW.out.setCell (p := ⟨W.heap.size, 0, none⟩) zdA _).setCell (p := ⟨W.heap.size, 1, none⟩) zdA _).drew)
                  case pos =>
                    have b9 : (r9.code == 0) = true := by simpa using c9
                    rw [c9] at j2
                    have rc : r.code = 0 := by
                      by_cases z : r.code = 0
                      · exact z
                      · have e : r9 = r := by rw [E9.out]; unfold sumR; dsimp only; rw [kK _ z]; exact if_pos rfl
                        rw [e] at c9
                        exact c9
                    have RM8 := (he.out.rm rc).mvg S9.out.2 he.out.rd.box (by decide) (by have := he.out.gl; have := he.out.q2; omega)
                    have EN : Hid (DcR W D (.returned (.tuple #[.agg #[.int .i64 (wn : Int), .int .i64 (hn : Int)], u14, .int .i64 0, .int .i64 0])) ((w8.setCell ⟨W.heap.size, 0, none⟩ (.int .i64 (wn : Int))).setCell ⟨W.heap.size, 1, none⟩ (.int .i64 (hn : Int)))) := zdy (by
                      have e : decT D = ⟨wn, hn, F.1, 0, 0⟩ := by rw [DE.out]; unfold endR; rw [if_neg (by simp [c9])]
                      have far : ∀ j, j ≠ W.heap.size -> ((w8.setCell ⟨W.heap.size, 0, none⟩ (.int .i64 (wn : Int))).setCell ⟨W.heap.size, 1, none⟩ (.int .i64 (hn : Int))).heap[j]? = w8.heap[j]? := fun j ne => (heap_setCell_other _ _ _ _ ne).trans (heap_setCell_other _ _ _ _ ne)
                      have lw : W.heap.size < lo := by have := HG.out.2.1; have := he.out.gl; have := he.out.q2; omega
                      refine ⟨u14, M, by rw [e], (HBW.out.setCell (p := ⟨W.heap.size, 0, none⟩) zdA _).setCell (p := ⟨W.heap.size, 1, none⟩) zdA _, ⟨qG (Vj RM8.own lw far) (Nat.le_of_lt lw), fun x mx => qG ((RM8.one x mx).keep (far _ (by have := (RM8.one x mx).lt.1; omega))) (Nat.le_of_lt lw), RM8.rng, RM8.dis⟩, by rw [e]; exact EQ.out.1 rc⟩)
                    clear he EQ K8 BW DE mq RM8 rc
                    go_wp2_with fail
                    refine bodyPost_ret (v := .tuple #[.agg #[.int .i64 (wn : Int), .int .i64 (hn : Int)], u14, .int .i64 0, .int .i64 0]) (by rw [kN rfl]; go_simp) rfl ?_
                    exact EN.out
end
end
section
def longT : List (List Frm) -> Nat -> Bool
 | [], _ => false
 | t :: ts, n => qi t || decide (16384 < n + t.length) || longT ts (n + t.length)
def joinF : List (List Frm) -> List Frm -> List Frm × Int
 | [], out => (out, 0)
 | t :: ts, out => if js t = false \/ (t ≠ [] /\ 1099511627776 - qp out < qp t) then ([], 301) else joinF ts (out ++ jE (qp out) t)
def joinT (ts : List (List Frm)) : List Frm × Int := if longT ts 0 = true then ([], 3) else joinF ts []
theorem last_app : ∀ (a : List Frm) (f : Frm) (l : List Frm), qp (a ++ f :: l) = qp (f :: l)
 | [], f, l => rfl
 | [x], f, l => rfl
 | x :: y :: a, f, l => last_app (y :: a) f l
theorem zdu (b : Int) : ∀ (l : List Frm), l ≠ [] -> qp (jE b l) = qp l + b
 | [], h => absurd rfl h
 | [f], _ => rfl
 | _ :: g :: l, _ => zdu b (g :: l) (by simp)
theorem zaG : ∀ (l : List Frm) (w : Int), zC w l = true -> l ≠ [] -> w <= qp l /\ qp l <= 1099511627776
 | [], _, _, h => absurd rfl h
 | [f], w, ht, _ => by
  rw [zC, Bool.and_eq_true] at ht
  exact of_decide_eq_true ht.1
 | f :: g :: l, w, ht, _ => by
  rw [zC, Bool.and_eq_true] at ht
  have t1 := of_decide_eq_true ht.1
  have := zaG (g :: l) f.at_ ht.2 (by simp)
  exact ⟨Int.le_trans t1.1 this.1, this.2⟩
theorem zaH (b : Int) : ∀ (l : List Frm) (w : Int), zC w l = true -> (l ≠ [] -> qp l + b <= 1099511627776) -> zC (w + b) (jE b l) = true
 | [], _, _, _ => rfl
 | f :: l, w, ht, hb => by
  rw [zC, Bool.and_eq_true] at ht
  have t1 := of_decide_eq_true ht.1
  have hb := hb (by simp)
  have lf : f.at_ <= qp (f :: l) := by
   cases l with
   | nil => exact Int.le_refl _
   | cons g l => exact (zaG (g :: l) f.at_ ht.2 (by simp)).1
  show zC (w + b) (⟨f.at_ + b, f.bs⟩ :: jE b l) = true
  rw [zC, Bool.and_eq_true]
  refine ⟨decide_eq_true ⟨by show w + b <= f.at_ + b; omega, by show f.at_ + b <= 1099511627776; omega⟩, zaH b l f.at_ ht.2 (fun ne => ?_)⟩
  cases l with
  | nil => exact absurd rfl ne
  | cons g l => exact hb
theorem zaI : ∀ (a : List Frm) (w : Int) (l : List Frm), zC w a = true -> zC (if a = [] then w else qp a) l = true -> zC w (a ++ l) = true
 | [], w, l, _, h => by simpa using h
 | [f], w, l, ha, h => by
  rw [zC, Bool.and_eq_true] at ha
  show zC w (f :: l) = true
  rw [zC, Bool.and_eq_true]
  exact ⟨ha.1, h⟩
 | f :: g :: a, w, l, ha, h => by
  rw [zC, Bool.and_eq_true] at ha
  show zC w (f :: (g :: a ++ l)) = true
  rw [zC, Bool.and_eq_true]
  exact ⟨ha.1, zaI (g :: a) f.at_ l ha.2 h⟩
theorem timed_join {out t : List Frm} (ho : zC 0 out = true) (ht : js t = true) (le : t ≠ [] -> qp t <= 1099511627776 - qp out) : zC 0 (out ++ jE (qp out) t) = true := by
 refine zaI out 0 _ ho ?_
 have s := zaH (qp out) t 0 ht (fun ne => by have := le ne; omega)
 rw [Int.zero_add] at s
 split
 ·rename_i z; subst z; exact s
 ·exact s
end
section
open Go Go.RowKit Go.Sort
section
theorem rmF_fa (M : List RM) : frms (M.map RM.fa) = rmF M := by unfold frms rmF; rw [List.map_map]; rfl
theorem RmS.time {LO : Nat} {w : World} {P Q : List RM} {x : RM} {r c n : Nat} (h : RmS LO w (.slice (some ⟨r, 0, none⟩) n c) (P ++ x :: Q) 0) (t : Int) (ht : -9223372036854775808 <= t /\ t <= 9223372036854775807) :
  RmS LO (w.setCell ⟨r, P.length * 2, none⟩ (.int .i64 t)) (.slice (some ⟨r, 0, none⟩) n c) (P ++ ⟨t, x.g, x.c, x.bs, x.ex⟩ :: Q) 0 := by
 obtain ⟨r', c', e, rl, rs, rne, _⟩ := h.row (by rw [List.length_append, List.length_cons]; omega)
 injection e with e1 e2 e3
 injection e1 with e1
 injection e1 with e1
 subst e1
 have cs : ∀ z ∈ P ++ (⟨t, x.g, x.c, x.bs, x.ex⟩ : RM) :: Q, z = ⟨t, x.g, x.c, x.bs, x.ex⟩ \/ z ∈ P ++ x :: Q := fun z m => by
  rcases List.mem_append.1 m with m | m
  ·exact Or.inr (List.mem_append.2 (Or.inl m))
  ·rcases List.mem_cons.1 m with m | m
   ·exact Or.inl m
   ·exact Or.inr (List.mem_append.2 (Or.inr (List.mem_cons_of_mem _ m)))
 have mx : x ∈ P ++ x :: Q := List.mem_append.2 (Or.inr List.mem_cons_self)
 refine ⟨?_, fun z m => ?_, fun z m => ?_, ?_⟩
 ·have o0 := h.own
  rw [e2] at o0
  have o1 := (o0.stored (P.length * 2) (.int .i64 t)).1
  have el : (P ++ (⟨t, x.g, x.c, x.bs, x.ex⟩ : RM) :: Q).length = (P ++ x :: Q).length := by rw [List.length_append, List.length_append, List.length_cons, List.length_cons]
  have ex : (rmV (P ++ x :: Q) ++ z77 0).set (P.length * 2) (.int .i64 t) = rmV (P ++ ⟨t, x.g, x.c, x.bs, x.ex⟩ :: Q) ++ z77 0 := by
   rw [xZ, xZ, x7, x7]
   simp only [List.append_assoc]
   rw [List.set_append_right _ _ (by rw [xu]; omega), xu, Nat.sub_self]
   rfl
  rw [el, <- ex, e2]
  exact o1
 ·rcases cs z m with rfl | m
  ·exact (h.one x mx).keep (heap_setCell_other _ _ _ _ (rne x mx))
  ·exact (h.one z m).keep (heap_setCell_other _ _ _ _ (rne z m))
 ·rcases cs z m with rfl | m
  ·exact ⟨(h.rng x mx).1, ht⟩
  ·exact h.rng z m
 ·have d := h.dis
  rw [List.map_append, List.map_cons] at d ⊢
  exact d
end
end
section
open Go Go.RowKit Go.Sort
section
structure TA where
 A : Option Addr
 c : Nat
 L : List FA
def taV (t : TA) : Value := .slice t.A t.L.length t.c
def tpsF (T : List TA) : List (List Frm) := T.map fun t => frms t.L
structure TpsD (w : World) (B : Nat) (A : Option Addr) (c : Nat) (T : List TA) : Prop where
 cap : T.length <= c
 sz : T.length <= 140737488355328
 sees : Sees w B A (T.map taV)
 ok : ∀ t ∈ T, FrsD w B t.A t.c t.L
theorem TpsD.below {w w' : World} {B n : Nat} {A : Option Addr} {c : Nat} {T : List TA} (h : TpsD w B A c T) (hb : Below n w w') (hB : B <= n) : TpsD w' B A c T := ⟨h.cap, h.sz, h.sees.below hb hB, fun t m => (h.ok t m).below hb hB⟩
theorem TpsD.at {w : World} {B : Nat} {A : Option Addr} {c : Nat} {T : List TA} (h : TpsD w B A c T) (k : Nat) (hk : k < T.length) : ∃ ad, A = some ad /\ ad.block < B /\ w.cell? (ad.add k) = some (taV T[k]) := by
 obtain ⟨ad, e, lb, hc⟩ := h.sees (fun z => by rw [List.map_eq_nil_iff] at z; rw [z] at hk; cases hk)
 exact ⟨ad, e, lb, hc k _ (by rw [List.getElem?_map, List.getElem?_eq_getElem hk]; rfl)⟩
structure Seg where
 g : Nat
 base : Int
 L : List FA
def segF (S : List Seg) : List FA := S.flatMap fun s => cpF s.g s.base 0 s.L
theorem segF_app (S : List Seg) (s : Seg) : segF (S ++ [s]) = segF S ++ cpF s.g s.base 0 s.L := by unfold segF; rw [List.flatMap_append]; simp
structure SegS (LO : Nat) (w : World) (v : Value) (S : List Seg) : Prop where
 own : w.ownsRow LO 47 2 v (segF S).length ((segF S).flatMap frV)
 rows : ∀ s ∈ S, LO <= s.g /\ BRow w s.g (zt s.L).length (zt s.L)
 ok : ∀ s ∈ S, (zt s.L).length <= 140737488355328 /\ ∀ x ∈ s.L, Byt x.b.bs /\ -9223372036854775808 <= x.at_ + s.base /\ x.at_ + s.base <= 9223372036854775807
 dis : (S.map (·.g)).Nodup
section
variable {LO : Nat} {w w' : World} {v v' : Value} {S : List Seg}
theorem SegS.nil (LO : Nat) (w : World) : SegS LO w (.slice none 0 0) [] := ⟨⟨rfl, Or.inl ⟨rfl, rfl⟩⟩, fun x m => (by cases m), fun x m => (by cases m), List.nodup_nil⟩
theorem SegS.below (h : SegS LO w v S) (hb : Below w.heap.size w w') : SegS LO w' v S := ⟨qc h.own hb, fun s m => ⟨(h.rows s m).1, (h.rows s m).2.keep (hb.block _ (h.rows s m).2.lt)⟩, h.ok, h.dis⟩
theorem SegS.add {g : Nat} {base : Int} {L : List FA} (h : SegS LO w v S) (hLO : LO <= w.heap.size) (C : CopAt LO w g (zt L).length (segF S) base L v' w') (hs : (zt L).length <= 140737488355328) (ok : ∀ x ∈ L, Byt x.b.bs /\ -9223372036854775808 <= x.at_ + base /\ x.at_ + base <= 9223372036854775807) : SegS LO w' v' (S ++ [⟨g, base, L⟩]) := by
 refine ⟨?_, fun s m => ?_, fun s m => ?_, ?_⟩
 ·have o := C.own
  rw [segF_app]
  exact o
 ·rcases List.mem_append.1 m with m | m
  ·obtain ⟨r1, r2⟩ := h.rows s m
   refine ⟨r1, r2.keep ?_⟩
   obtain ⟨_, cur, e, _⟩ := r2
   exact C.kp _ _ _ _ e (by decide)
  ·rw [List.mem_singleton.1 m]
   exact ⟨Nat.le_trans hLO C.gn, C.row⟩
 ·rcases List.mem_append.1 m with m | m
  ·exact h.ok s m
  ·rw [List.mem_singleton.1 m]; exact ⟨hs, ok⟩
 ·rw [List.map_append, List.nodup_append]
  refine ⟨h.dis, by simp, fun a ha b hb e => ?_⟩
  simp only [List.map_cons, List.map_nil, List.mem_singleton] at hb
  obtain ⟨s, ms, rfl⟩ := List.mem_map.1 ha
  have l1 := (h.rows s ms).2.lt
  have l2 := C.gn
  rw [e, hb] at l1
  omega
theorem SegS.frs {A : Option Addr} {n c : Nat} (h : SegS LO w (.slice A n c) S) (hl : (segF S).length <= 1000000) : n = (segF S).length /\ FrsD w w.heap.size A c (segF S) := by
 have e := xa h.own rfl
 injection e with e1 e2 e3
 subst e2
 refine ⟨rfl, Vi h.own hl (fun x m => ?_)⟩
 obtain ⟨s, ms, mx⟩ := List.mem_flatMap.1 m
 exact Zm (h.rows s ms).2 s.base (h.ok s ms).1 s.L 0 [] (by simp) (h.ok s ms).2 x mx
end
end
end
end Go.Proofs.YtmaofighbpnbiaaGreatDoor
