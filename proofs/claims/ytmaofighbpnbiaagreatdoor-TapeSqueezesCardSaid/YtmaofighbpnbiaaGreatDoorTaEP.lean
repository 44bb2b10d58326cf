/- What lies below tapes (kept of earlier texts: TqJ, TqK, TpR, TqR, TqU, TqM, TqT, TqZ, TrS, TrA, TrB, TrC). -/
import Derived.Test.YtmaofighbpnbiaaGreatDoorTaEO
import Derived.Lib.SlBytesConst
import Derived.ArgAppend
/- A tape is played: At. -/
namespace Go.Proofs.YtmaofighbpnbiaaGreatDoor
open Go Go.RowKit Go.Sort
set_option linter.unusedSimpArgs false
set_option linter.unusedVariables false
section
def AtR (V : World) (t : Trm) (e : Ending) (w' : World) : Prop := ∃ A c, e = .returned (.tuple #[scrV (zM t) A c, .int .i64 0]) /\ NewRow V.heap.size 79 5 (.slice A t.cells.length c) t.cells.length (zd t.cells) w' /\ Below V.heap.size V w'
set_option maxHeartbeats 16000000 in
set_option maxRecDepth 100000 in
theorem t_PAt {W3 V : World} {pb : Nat} {w h : Int} {F : List Frm} {ev : Nat} (P : PlayAt W3 pb w h F ev V) (sz : zR w h = true) (ht : zJ 0 F = true) (rng : ∀ f ∈ F, Byt f.bs) (lbs : ∀ f ∈ F, f.bs.length <= 1048576) (tot : (F.flatMap (·.bs)).length <= 268435456) (fl : F.length <= 16384) (time : Int) (h0 : 0 <= time) (h1 : time <= 1099511627776) :
  Calls Tryz.prog 28 #[.pointer (some ⟨pb, 0, none⟩), .int .i64 time] V (AtR V (zO w h (F.take (jS F time)))) := by
 have hmf : ∀ (fn : Fn) (first cap : Array Value) (w : World), (Instr.makeFunc fn first cap).run Tryz.prog w = .ok (.func fn first cap) w := fun _ _ _ _ => rfl
 obtain ⟨Q, hQ⟩ : ∃ Q, Q = ((V.alloc (.cells #[.pointer (some ⟨pb, 0, none⟩)] 40)).alloc (.cells #[.int .i64 time] 2)).alloc (.cells #[.int .i64 0, .int .i64 0, .slice none 0 0, .int .i64 0, .int .i64 0, .bool false] 51) := ⟨_, rfl⟩
 have AQ := atQ V (some ⟨pb, 0, none⟩) time
 rw [<- hQ] at AQ
 have PQ := P.below AQ.bel
 obtain ⟨Af, cf, L, kb, vk, T, e1, e2, e3, e4, e5, e6, e7, e8, e9⟩ := PQ
 obtain ⟨n, hn⟩ : ∃ n, n = F.length := ⟨_, rfl⟩
 have nL : n = L.length := by rw [hn, <- e1, z7]
 obtain ⟨n1, hn1⟩ : ∃ n1, n1 = jS F time := ⟨_, rfl⟩
 have n1l : n1 <= n := by rw [hn1, hn]; exact upto_le F time
 obtain ⟨k, hk⟩ : ∃ k, k = n1 / ev := ⟨_, rfl⟩
 have kl : k < kb.length := by rw [e7, <- hn, hk]; have := Nat.div_le_div_right (c := ev) n1l; omega
 obtain ⟨lo, hlo⟩ : ∃ lo, lo = k * ev := ⟨_, rfl⟩
 have lol : lo <= n1 := by rw [hlo, hk]; exact Nat.div_mul_le_self n1 ev
 rw [<- nL] at e3
 obtain ⟨Ak, kc, evk⟩ := qN e4
 subst evk
 obtain ⟨nk, hnk⟩ : ∃ nk, nk = kb.length := ⟨_, rfl⟩
 have nkl : nk <= 20000 := by have := Nat.div_le_self F.length ev; omega
 have FDQ := e2.below e5.bel (Nat.le_refl _)
 have capL : n <= cf := by rw [nL]; exact e2.cap
 have c2 := AQ.b2.c 0 _ rfl
 have c3 := AQ.b3.c 0 _ rfl
 have SE := zdm (zdd V.heap.size (V.heap.size + 1) pb n cf Af ev (.slice Ak kb.length kc) time F Q e3 c2 c3 hn (by omega) ht (fun i hi => by
  have hiL : i < L.length := by omega
  obtain ⟨ad, ea, _, z1, _⟩ := FDQ.at i hiL
  refine ⟨ad, ea, ?_⟩
  rw [z1]
  subst e1
  rw [jV L i hiL]))
 rw [<- hn1] at SE
 have p0 := e3.c 0 _ rfl
 have HQ := zdm hQ
 have HAQ := zdm AQ
 rw [<- hn1]
 -- what is there behind the search
 have ST : Hid (∀ V2, Below Q.heap.size Q V2 -> (Bk V2 pb [.slice Af n cf, .int .i64 (ev : Int), .slice Ak nk kc] 92) /\ V2.cell? ⟨V.heap.size, 0, none⟩ = some (.pointer (some ⟨pb, 0, none⟩)) /\ (∃ gk, Ak = some ⟨gk, 0, none⟩ /\ V2.cell? ⟨gk, k, none⟩ = some (.pointer (some ⟨kb[k], 0, none⟩))) /\ Calls Tryz.prog 54 #[.pointer (some ⟨kb[k], 0, none⟩)] V2 (fun e w' => ∃ nb, e = .returned (.pointer (some ⟨nb, 0, none⟩)) /\ St V2 [] nb (zO w h (F.take lo)) w')) := zdm (fun V2 hb => by
  have R := zT e4 hb
  refine ⟨by rw [hnk]; exact e3.of_eq (hb.block _ e3.lt), (AQ.b2.of_eq (hb.block _ AQ.b2.lt)).c 0 _ rfl, ?_, ?_⟩
  ·rcases R.2 with ⟨z, y⟩ | ⟨gk, cap, cur, z, _, eg, _, _, _, y⟩
   ·omega
   ·cases z
    refine ⟨gk, rfl, ?_⟩
    have := R.cells (g := gk) rfl k (ptrV kb[k]) (by rw [List.getElem?_map, List.getElem?_eq_getElem kl]; rfl)
    rw [Addr.add_lit, Nat.zero_add] at this
    exact this
  ·obtain ⟨i, hi⟩ := e6 k kl
   obtain ⟨F0, g1, up, _⟩ := (e5.below hb).at hi
   rw [<- hlo] at g1
   obtain ⟨Lv, hl⟩ := vD (w := w) (h := h) sz rng lo
   exact VU g1 Lv.fine Lv.st.kept Lv.reps (by omega))
 have FRD : Hid (∀ V2, Below Q.heap.size Q V2 -> FrsD V2 V2.heap.size Af cf L) := zdm (fun V2 hb => (FDQ.below hb e5.bel.size).more (Nat.le_trans e5.bel.size hb.size))
 generalize hkk : kb[k] = kk at ST
 have dv : Int.tdiv (n1 : Int) (ev : Int) = (k : Int) := by rw [Int.tdiv_eq_ediv_of_nonneg (by omega), hk]; simp
 have ne0 : ¬ (ev : Int) = 0 := by omega
 have q0 : (0 : Int) <= (k : Int) := by omega
 have q5 : (k : Int) < (nk : Int) := by omega
 have tn : (k : Int).toNat = k := by omega
 have wk : IntKind.i64.wrap (k : Int) = (k : Int) := IntWalk.i64_in _ (by omega)
 have ml : (k : Int) * (ev : Int) = (lo : Int) := by rw [hlo]; simp
 have nb16 : n <= 16384 := by omega
 have t0 : ¬ time < 0 := by omega
 have t1 : ¬ 1099511627776 < time := by omega
 have HE1 := zdm e1
 have HNL := zdm nL
 have HN := zdm hn
 clear hkk
 clear hQ AQ e1 e2 e3 e4 e5 e6 e7 e8 e9 nL hn1 hk hlo hnk FDQ P hn kl fl
 go_enter Tryz.func28, Tryz.ntmps28
 go_upto_region 1 with fail
 rw [<- HQ.out]
 go_wp2_with fail
 refine SE.out.mono ?_; rintro e V2 ⟨rfl, q, hV2⟩
 have BV := zdm (show Below Q.heap.size Q V2 by rw [hV2]; exact below_drewN (Below.refl _ Q) q)
 clear hV2 SE
 obtain ⟨b0, b1, ⟨gk, rfl, b2'⟩, CL⟩ := ST.out V2 BV.out
 have x0 := b0.c 0 _ rfl
 have x1 := b0.c 1 _ rfl
 have x2 := b0.c 2 _ rfl
 have CL := zdm CL
 have HB0 := zdm b0
 have HB1 := zdm (HAQ.out.b2.of_eq (BV.out.block _ HAQ.out.b2.lt))
 clear b0 ST
 go_wp2_with fail
 refine CL.out.mono ?_; rintro e V3 ⟨nb, rfl, S3⟩
 have B3 := xQ S3.mv
 obtain ⟨U, hU⟩ : ∃ U, U = V3.drew := ⟨_, rfl⟩
 have BU : Below V3.heap.size V3 U := by rw [hU]; exact (Below.refl _ V3).drew
 have HS := zdm (S3.below BU)
 have KP3 := HB0.out.of_eq (B3.block _ HB0.out.lt)
 have KB3 := HB1.out.of_eq (B3.block _ HB1.out.lt)
 have y0 := KP3.c 0 _ rfl
 have y1 := KP3.c 1 _ rfl
 have y2 := KB3.c 0 _ rfl
 have KPU := KP3.of_eq (BU.block _ KP3.lt)
 have KBU := KB3.of_eq (BU.block _ KB3.lt)
 have u0 := KPU.c 0 _ rfl
 have u1 := KPU.c 1 _ rfl
 have u2 := KBU.c 0 _ rfl
 have HU := zdm hU
 obtain ⟨m, hm⟩ : ∃ m, m = n1 - lo := ⟨_, rfl⟩
 have HM := zdm hm
 have em : n1 - lo = m := hm.symm
 have mb16 : m <= 16384 := by omega
 clear hm
 clear CL S3 B3 BU KP3 KB3 KPU KBU hU x0 x1 x2 b1 b2' c2 p0
 go_upto_region 8 with fail
 go_cut [53, 54, 55] from 42 to 55 (fun s53 s54 s55 wx => ∃ SA sc, s53 = .slice SA m sc /\ s54 = .int .i64 (m : Int) /\ s55 = .int .i64 0 /\ Hid (0 < m -> SA = Af.map (fun a => a.add (lo * 2))) /\ wx = U)
 case first =>
  by_cases cl : cf = lo
  ·obtain rfl : n1 = lo := by omega
   obtain rfl : n = n1 := by omega
   obtain rfl : cf = n := by omega
   obtain rfl : m = 0 := by omega
   clear cl capL n1l lol em
   go_region
   rw [<- HU.out]
   go_wp2_with fail
   go_meet
   exact ⟨_, _, rfl, rfl, rfl, zdm (fun z => absurd z (Nat.lt_irrefl 0)), rfl⟩
  ·go_region
   rw [<- HU.out]
   go_wp2_with fail
   go_meet
   exact ⟨_, _, rfl, rfl, rfl, zdm (fun _ => rfl), rfl⟩
 case rest =>
  obtain ⟨SA, sc, rfl, rfl, rfl, hsa, hwx⟩ := hcut
  rw [hwx]
  clear hwx y0 y1 y2 u0 u1 u2 em
  have S0 : Hid (St V2 [] nb (zO w h (F.take (lo + 0))) U) := HS
  go_wp2_with fail
  go_loopw [55] (fun s55 wr => ∃ (j : Nat), j <= m /\ s55 = .int .i64 (j : Int) /\ Hid (St V2 [] nb (zO w h (F.take (lo + j))) wr)) (fun s55 _ => m - (intOf s55).toNat)
  case atStart => exact ⟨0, Nat.zero_le _, rfl, S0⟩
  case round =>
   obtain ⟨j, hj, rfl, he⟩ := hrel
   clear S0 HS
   by_cases lt : j < m
   ·have idx : lo + j < F.length := by have := HM.out; have := HN.out; omega
    have iL : lo + j < L.length := by rw [<- HNL.out, HN.out]; exact idx
    have F2 := FRD.out V2 BV.out
    obtain ⟨ad, ea, lb, z1, z2⟩ := (F2.below (xQ he.out.mv) (Nat.le_refl _)).at (lo + j) iL
    have es : SA = some (ad.add (lo * 2)) := by rw [hsa.out (by omega), ea]; rfl
    subst es
    have AR := F2.arg (lo + j) iL
    have GT : (F[lo + j]).bs = (L[lo + j]).b.bs := by
     have := jV L (lo + j) iL
     have e := HE1.out
     subst e
     rw [this]
    rw [show (lo + j) * 2 = lo * 2 + j * 2 by omega, <- jF] at z1 z2
    have NXT := zdm (Kj w h F (lo + j) idx)
    have LBX := zdm (lbs _ (List.getElem_mem idx))
    generalize ad.add (lo * 2) = ab at *
    generalize L[lo + j] = x at *
    obtain ⟨xt, xA, xc, bs⟩ := x
    dsimp only at z1 z2 AR GT
    have q0 : (0 : Int) <= (j : Int) := by omega
    have q5 : (j : Int) < (m : Int) := by omega
    have tn : (j : Int).toNat = j := by omega
    have wk : IntKind.i64.wrap ((j : Int) + 1) = (j : Int) + 1 := IntWalk.i64_in _ (by omega)
    obtain ⟨Q5, hQ5⟩ : ∃ Q5, Q5 = wr.alloc (.cells #[.int .i64 xt, .slice xA bs.length xc] 47) := ⟨_, rfl⟩
    have hb5 : Below wr.heap.size wr Q5 := by rw [hQ5]; exact (Below.refl _ wr).alloc (Nat.le_refl _) _
    have K5 : Bk Q5 wr.heap.size [.int .i64 xt, .slice xA bs.length xc] 47 := by rw [hQ5]; exact Bk.new wr _ _
    have b1 := K5.c 1 _ rfl
    obtain ⟨Lv, hl⟩ := vD (w := w) (h := h) sz rng (lo + j)
    have FE := arg_feed AR (he.out.below hb5) Lv (by rw [<- GT]; exact LBX.out) (by rw [<- GT]; have := LBX.out; omega)
    rw [<- GT, NXT.out, GT] at FE
    have FE := zdm FE
    have HQ5 := zdm hQ5
    clear F2 lb AR GT hb5 K5 hQ5 he Lv hl ea
    go_upto_region 11 with fail
    rw [<- HQ5.out]
    clear HQ5 z1 z2
    go_wp2_with fail
    refine FE.out.mono ?_; rintro e w6 ⟨rfl, S6⟩
    have S6 := zdm (show St V2 [] nb (zO w h (F.take (lo + (j + 1)))) w6 from S6)
    clear FE
    go_wp2_with fail
    go_roundw
    case rel => exact ⟨j + 1, by omega, by go_num, S6⟩
    case measure => simp [intOf]; omega
   ·have e : j = m := by omega
    subst e
    have q5 : ¬ (j : Int) < (j : Int) := by omega
    obtain ⟨t, ht'⟩ : ∃ t, t = zO w h (F.take n1) := ⟨_, rfl⟩
    have SF : St V2 [] nb t wr := by rw [ht', show n1 = lo + j by have := HM.out; omega]; exact he.out
    have Lv := (vD (w := w) (h := h) sz rng n1).1
    rw [<- ht'] at Lv
    have HTT := zdm ht'
    have SC := zdm (t_Screen SF Lv.fine)
    have BW := xQ SF.mv
    have K4 := (HAQ.out.b4.of_eq (BV.out.block _ HAQ.out.b4.lt))
    have K4w := K4.of_eq (BW.block _ K4.lt)
    have HK4 := zdm K4w
    have HBW := zdm (show Below V.heap.size V wr from (HAQ.out.bel.trans (BV.out.mono HAQ.out.bel.size)).trans (BW.mono (Nat.le_trans HAQ.out.bel.size BV.out.size)))
    clear he SF Lv BW K4 K4w ht' hsa
    go_wp2_with fail
    refine SC.out.mono ?_; rintro e w9 ⟨A9, c9, rfl, N9, B9⟩
    have K9 := HK4.out.of_eq (B9.block _ HK4.out.lt)
    have k0 := K9.c 0 _ rfl
    have f0 := K9.f 0
    have k1 := K9.c 1 _ rfl
    have f1 := K9.f 1
    have k2 := K9.c 2 _ rfl
    have f2 := K9.f 2
    have k3 := K9.c 3 _ rfl
    have f3 := K9.f 3
    have k4 := K9.c 4 _ rfl
    have f4 := K9.f 4
    have k5 := K9.c 5 _ rfl
    have f5 := K9.f 5
    have EN : Hid (∀ a b c d e f : Value, AtR V (zO w h (F.take n1)) (.returned (.tuple #[scrV (zM t) A9 c9, .int .i64 0])) (six w9 (V.heap.size + 1 + 1) a b c d e f)) := zdm (fun a b c d e f => by
     rw [<- HTT.out]
     have fr := (VQ w9 (V.heap.size + 1 + 1) a b c d e f).1
     refine ⟨A9, c9, rfl, ⟨N9.1.keep (fun g mg => fr g (fun z => ?_)), fun g mg => by have := N9.2 g mg; have := HBW.out.size; omega⟩, zde (HBW.out.trans (B9.mono HBW.out.size)) (by omega) a b c d e f⟩
     have g1 := N9.2 g mg
     have g2 := HK4.out.lt
     omega)
    clear N9 B9 K9 SC
    unfold scrV at EN ⊢
    go_wp2_with fail
    refine bodyPost_ret (v := .tuple #[.agg #[.int .i64 (zM t).w, .int .i64 (zM t).h, .slice A9 (zM t).cells.length c9, .int .i64 (zM t).x, .int .i64 (zM t).y, .bool (zM t).shown], .int .i64 0]) (by rw [zdc rfl]; go_simp) rfl ?_
    exact EN.out _ _ _ _ _ _
end
end Go.Proofs.YtmaofighbpnbiaaGreatDoor
/- A tape is written, read and played: what the law asks of every program. -/
namespace Go.Proofs.YtmaofighbpnbiaaGreatDoor
open Go Go.RowKit Go.Sort
set_option linter.unusedSimpArgs false
set_option linter.unusedVariables false
section
theorem CpyR.read {W w' : World} {v : Value} {l : List Frm} (h : CpyR W w' v l) (hl : l.length <= 1000000) (tot : (l.flatMap (·.bs)).length <= 140737488355328) : ∃ (A : Option Addr) (c : Nat) (L : List FA), v = .slice A L.length c /\ frms L = l /\ FrsD w' w'.heap.size A c L := by
 rcases h.2 with ⟨rfl, rfl⟩ | ⟨g, L', hg, o, r, e, ok⟩
 ·exact ⟨none, 0, [], rfl, rfl, fun _ => rfl, Nat.le_refl _, by simp, Sees.nil _ _ _, fun x m => by cases m⟩
 ·obtain ⟨A, c, ev⟩ := jT o
  have ev := xf o ev
  subst ev
  have ll : L'.length = l.length := by rw [<- e, z7]
  have FD := VZ o (by rw [xe, ll]; exact hl) (QJ r 0 (by rw [<- kO, e]; exact tot) L' 0 [] (by simp) (fun x m => ⟨(ok x m).1, by have := ok x m; omega, by have := ok x m; omega⟩))
  exact ⟨A, c, _, rfl, by rw [Ze, Qv, e], FD⟩
theorem al_new : newC 3 1 alL 1 = 0 := by decide +kernel
theorem al_last : kx alL = 20 := by decide
theorem al_u15 : jS alL 15 = 1 := by decide +kernel
theorem al_u20 : jS alL 20 = 2 := by decide +kernel
theorem Jj : ∀ f ∈ alL, Byt f.bs := by
 intro f m
 have : f = ⟨10, [97, 98]⟩ \/ f = ⟨20, [13, 120]⟩ := by simpa [alL] using m
 rcases this with rfl | rfl <;> (intro b mb; simp at mb; rcases mb with rfl | rfl <;> decide)
theorem EncR.open {W w' : World} {w h : Int} {l : List Frm} {e : Ending} {D : List Int} {k : Int} (h' : EncR W w h l e w') (ee : encT w h l = (D, k)) (rng : Byt D) (ln : D.length <= 1000000000) : ∃ A c, e = .returned (.tuple #[.slice A D.length c, .int .i64 k]) /\ ByteD w' w'.heap.size ⟨A, c, D⟩ /\ Below W.heap.size W w' := by
 obtain ⟨v, e1, o, b⟩ := h'
 rw [ee] at e1 o
 dsimp only at e1 o
 obtain ⟨A, c, ev⟩ := qN o
 have ev := xf o ev
 subst ev
 refine ⟨A, c, e1, ⟨fun z => ?_, ?_, by show D.length <= _; omega, Sees.of_own o, rng⟩, b⟩
 ·rcases o.2 with ⟨q, _⟩ | ⟨g, cap, cur, q, _⟩
  ·injection q with q1 q2 q3
  ·injection q with q1 q2 q3; have z : A = none := z; rw [z] at q1; cases q1
 ·rcases o.2 with ⟨q, y⟩ | ⟨g, cap, cur, q, _, _, y, _⟩
  ·show D.length <= c; omega
  ·injection q with q1 q2 q3; show D.length <= c; rw [q3]; exact y
def alA (a b : Nat) : List FA := [⟨10, ⟨some ⟨a, 0, none⟩, 2, [97, 98]⟩⟩, ⟨20, ⟨some ⟨b, 0, none⟩, 2, [13, 120]⟩⟩]
theorem zab {w : World} {b B : Nat} {vs : List Value} {T : TypeId} {fl : Nat × Nat} (K : w.heap[b]? = some (.cells vs.toArray T fl)) (hB : b < B) : Sees w B (some ⟨b, 0, none⟩) vs := fun ne => ⟨_, rfl, hB, fun j u hj => by
 rw [Addr.add_lit, Nat.zero_add]
 simp [World.cell?, K, hj]⟩
theorem row_sees {w : World} {b B : Nat} {vs : List Value} {T : TypeId} (K : Bk w b vs T) (hB : b < B) : Sees w B (some ⟨b, 0, none⟩) vs := fun ne => ⟨_, rfl, hB, fun j u hj => by
 rw [Addr.add_lit, Nat.zero_add]
 exact K.c j u hj⟩
theorem al_frs {w : World} {a b d : Nat} {f1 f2 : Nat × Nat} (K1 : w.heap[a]? = some (.cells [Value.int .u8 97, .int .u8 98].toArray 5 f1)) (K2 : w.heap[b]? = some (.cells [Value.int .u8 13, .int .u8 120].toArray 5 f2)) (K3 : Bk w d [.int .i64 10, .slice (some ⟨a, 0, none⟩) 2 2, .int .i64 20, .slice (some ⟨b, 0, none⟩) 2 2] 47) : FrsD w w.heap.size (some ⟨d, 0, none⟩) 2 (alA a b) := by
 refine ⟨(fun z => by cases z), Nat.le_refl _, by show (2 : Nat) * 32 <= _; decide, row_sees K3 K3.lt, fun x m => ?_⟩
 have : x = ⟨10, ⟨some ⟨a, 0, none⟩, 2, [97, 98]⟩⟩ \/ x = ⟨20, ⟨some ⟨b, 0, none⟩, 2, [13, 120]⟩⟩ := by simpa [alA] using m
 rcases this with rfl | rfl
 ·exact ⟨⟨(fun z => by cases z), Nat.le_refl _, (by show (2 : Nat) <= _; decide), zab K1 (Array.getElem?_eq_some_iff.1 K1).1, (by show ∀ b ∈ [(97 : Int), 98], 0 <= b /\ b < 256; decide)⟩, (by show (-9223372036854775808 : Int) <= 10; decide), (by show (10 : Int) <= _; decide)⟩
 ·exact ⟨⟨(fun z => by cases z), Nat.le_refl _, (by show (2 : Nat) <= _; decide), zab K2 (Array.getElem?_eq_some_iff.1 K2).1, (by show ∀ b ∈ [(13 : Int), 120], 0 <= b /\ b < 256; decide)⟩, (by show (-9223372036854775808 : Int) <= 20; decide), (by show (20 : Int) <= _; decide)⟩
theorem al_bb : Byt alB := enc_byt Qx Jj
theorem al_bl : alB.length <= 1000 := by decide +kernel
theorem zac {w : World} {B n c : Nat} {A : Option Addr} {l : List Cel} (h : NewRow B 79 5 (.slice A n c) l.length (zd l) w) (l0 : 0 < l.length) : ∃ g, A = some ⟨g, 0, none⟩ /\ B <= g /\ g < w.heap.size /\ ∀ w' : World, w'.heap[g]? = w.heap[g]? -> ∀ k, k < l.length -> w'.cell? ⟨g, k * 5, none⟩ = some (.string (l.getD k celD).text) := by
 rcases h.1 with ⟨z, _⟩ | ⟨o, ne⟩
 ·omega
 ·rcases o.2 with ⟨_, z⟩ | ⟨g, cap, cur, z, _, e, nc, _⟩
  ·omega
  ·have z2 := z
   injection z2 with z1 z3 z4
   subst z1
   obtain ⟨c', rfl⟩ : ∃ c', c = c' + 1 := ⟨c - 1, by omega⟩
   refine ⟨g, rfl, h.2 g (by simp [ob]), (Array.getElem?_eq_some_iff.1 e).1, fun w' hw k hk => ?_⟩
   have c1 : w.cell? ⟨g, k * 5, none⟩ = some (.string (l.getD k celD).text) := by
    have := o.cells (g := g) (by simp [Value.ownBlock]) (k * 5 + 0) (.string (l.getD k celD).text) (by rw [celsV_at l k hk 0 (by decide)]; rfl)
    rw [Addr.add_lit] at this
    simpa using this
   exact (World.cell?_of_block hw).trans c1
theorem zad (t : Trm) : (zM t).cells = t.cells := by unfold zM; split <;> rfl
theorem al_sz : zR 3 1 = true := by decide
theorem al_tm : zJ 0 alL = true := by decide
theorem al_lb : ∀ f ∈ alL, f.bs.length <= 1048576 := by
 intro f m
 have : f = ⟨10, [97, 98]⟩ \/ f = ⟨20, [13, 120]⟩ := by simpa [alL] using m
 rcases this with rfl | rfl <;> (show (2 : Nat) <= _; decide)
set_option maxHeartbeats 16000000 in
set_option maxRecDepth 100000 in
theorem zdf (W : World) (E : EnvV W) : Calls Tryz.prog 18 #[] W fun e w' => e = .returned (.bool true) /\ Below W.heap.size W w' := by
 have CV := fun (w : World) (C : Array Value) (n c : Nat) => Lib.run_convert_bytes_const (P := Tryz.prog) w 27 5 C n c Tryz.underlying27 Tryz.underlying5
 obtain ⟨Q1, h1⟩ : ∃ Q, Q = W.alloc (.cells #[.int .i64 3, .int .i64 1] 23) := ⟨_, rfl⟩
 obtain ⟨Q2, h2⟩ : ∃ Q, Q = Q1.alloc (.cells #[.int .u8 97, .int .u8 98] 5 (2, 3)) := ⟨_, rfl⟩
 obtain ⟨Q3, h3⟩ : ∃ Q, Q = Q2.alloc (.cells #[.int .u8 13, .int .u8 120] 5 (2, 3)) := ⟨_, rfl⟩
 obtain ⟨Q4, h4⟩ : ∃ Q, Q = Q3.alloc (.cells #[.int .i64 10, .slice (some ⟨Q1.heap.size, 0, none⟩) 2 2, .int .i64 20, .slice (some ⟨Q2.heap.size, 0, none⟩) 2 2] 47) := ⟨_, rfl⟩
 have b1 : Below W.heap.size W Q1 := by rw [h1]; exact (Below.refl _ _).alloc (Nat.le_refl _) _
 have b2 : Below Q1.heap.size Q1 Q2 := by rw [h2]; exact (Below.refl _ _).alloc (Nat.le_refl _) _
 have b3 : Below Q2.heap.size Q2 Q3 := by rw [h3]; exact (Below.refl _ _).alloc (Nat.le_refl _) _
 have b4 : Below Q3.heap.size Q3 Q4 := by rw [h4]; exact (Below.refl _ _).alloc (Nat.le_refl _) _
 have k1 : Bk Q1 W.heap.size [.int .i64 3, .int .i64 1] 23 := by rw [h1]; exact Bk.new _ _ _
 have k2 : Q2.heap[Q1.heap.size]? = some (.cells [Value.int .u8 97, .int .u8 98].toArray 5 (2, 3)) := by rw [h2]; exact World.alloc_heap_new _ _
 have k3 : Q3.heap[Q2.heap.size]? = some (.cells [Value.int .u8 13, .int .u8 120].toArray 5 (2, 3)) := by rw [h3]; exact World.alloc_heap_new _ _
 have l2 : Q1.heap.size < Q2.heap.size := (Array.getElem?_eq_some_iff.1 k2).1
 have l3 : Q2.heap.size < Q3.heap.size := (Array.getElem?_eq_some_iff.1 k3).1
 have cv1 : (convert 27 27 (.slice (some ⟨Q1.heap.size, 0, none⟩) 2 2)).run Tryz.prog (Q1.alloc (.cells #[.int .u8 97, .int .u8 98] 5)) = .ok (.slice (some ⟨Q1.heap.size, 0, none⟩) 2 2) Q2 := by rw [h2]; exact CV Q1 _ 2 2
 have cv2 : (convert 27 27 (.slice (some ⟨Q2.heap.size, 0, none⟩) 2 2)).run Tryz.prog (Q2.alloc (.cells #[.int .u8 13, .int .u8 120] 5)) = .ok (.slice (some ⟨Q2.heap.size, 0, none⟩) 2 2) Q3 := by rw [h3]; exact CV Q2 _ 2 2
 have k4 : Bk Q4 Q3.heap.size [.int .i64 10, .slice (some ⟨Q1.heap.size, 0, none⟩) 2 2, .int .i64 20, .slice (some ⟨Q2.heap.size, 0, none⟩) 2 2] 47 := by rw [h4]; exact Bk.new _ _ _
 have FD := al_frs ((b4.block _ (Nat.lt_trans l2 l3)).trans ((b3.block _ l2).trans k2)) ((b4.block _ l3).trans k3) k4
 have S4 := ((k1.of_eq (b2.block _ k1.lt)).of_eq (b3.block _ (Nat.lt_of_lt_of_le k1.lt b2.size))).of_eq (b4.block _ (Nat.lt_of_lt_of_le (Nat.lt_of_lt_of_le k1.lt b2.size) b3.size))
 have BW : Below W.heap.size W Q4 := ((b1.trans (b2.mono b1.size)).trans (b3.mono (Nat.le_trans b1.size b2.size))).trans (b4.mono (Nat.le_trans (Nat.le_trans b1.size b2.size) b3.size))
 have fe : frms (alA Q1.heap.size Q2.heap.size) = alL := rfl
 have EN := t_Encode 3 1 (some ⟨Q3.heap.size, 0, none⟩) 2 (alA Q1.heap.size Q2.heap.size) Q4.heap.size Q4 FD (Nat.le_refl _)
 rw [fe] at EN
 have EN := zdm EN
 have s0 := S4.c 0 _ rfl
 have s1 := S4.c 1 _ rfl
 have HS4 := zdm S4
 have HFD := zdm FD
 have HBW := zdm BW
 have H1 := zdm h1
 have H2 := zdm h2
 have H3 := zdm h3
 have H4 := zdm h4
 have HE := zdm E
 clear h1 h2 h3 h4 b1 b2 b3 b4 k1 k2 k3 k4 FD S4 BW fe E l2 l3 CV
 go_enter Tryz.func18, Tryz.ntmps18
 go_upto_region 2 with fail
 rw [<- H1.out]
 go_upto_region 3 with fail
 rw [<- H4.out]
 obtain ⟨D, hD⟩ : ∃ D, D = alB := ⟨_, rfl⟩
 have AE := zdm (show encT 3 1 alL = (D, 0) by rw [hD]; exact Qx)
 have AD := zdm (show decT D = ⟨3, 1, alL, 0, 0⟩ by rw [hD]; exact al_dec)
 have AB := zdm (show Byt D by rw [hD]; exact al_bb)
 have AL := zdm (show D.length <= 1000 by rw [hD]; exact al_bl)
 clear hD H1 H2 H3 H4 cv1 cv2
 generalize Q3.heap.size = g3 at *
 generalize Q2.heap.size = g2 at *
 generalize Q1.heap.size = g1 at *
 go_wp2_with fail
 refine EN.out.mono ?_; intro e w5 hR
 obtain ⟨A5, c5, rfl, BD5, B5⟩ := hR.open AE.out AB.out (by have := AL.out; omega)
 have DC := zdm (t_Decode A5 c5 D w5.heap.size w5 BD5 (Nat.le_refl _))
 have HB5 := zdm B5
 clear EN hR BD5 B5 s0 s1
 go_wp2_with fail
 refine DC.out.mono ?_; rintro e w6 ⟨v6, e6, C6⟩
 rw [AD.out] at e6 C6
 subst e6
 obtain ⟨A6, c6, L6, rfl, eL, FD6⟩ := C6.read (by decide) (by decide)
 have BW6 := HBW.out.trans ((HB5.out.mono HBW.out.size).trans (C6.1.mono (Nat.le_trans HBW.out.size HB5.out.size)))
 obtain ⟨w7, h7⟩ : ∃ Q, Q = w6.alloc (.cells #[.int .i64 3, .int .i64 1] 23) := ⟨_, rfl⟩
 have b7 : Below w6.heap.size w6 w7 := by rw [h7]; exact (Below.refl _ _).alloc (Nat.le_refl _) _
 have k7 : Bk w7 w6.heap.size [.int .i64 3, .int .i64 1] 23 := by rw [h7]; exact Bk.new _ _ _
 have S7 := ((HS4.out.of_eq (HB5.out.block _ HS4.out.lt)).of_eq (C6.1.block _ (Nat.lt_of_lt_of_le HS4.out.lt HB5.out.size))).of_eq (b7.block _ (Nat.lt_of_lt_of_le (Nat.lt_of_lt_of_le HS4.out.lt HB5.out.size) C6.1.size))
 have B47 : Below Q4.heap.size Q4 w7 := (HB5.out.trans (C6.1.mono HB5.out.size)).trans (b7.mono (Nat.le_trans HB5.out.size C6.1.size))
 have BW7 := HBW.out.trans (B47.mono HBW.out.size)
 have E7 : EnvV w7 := HE.out.mv (Mv.below (F := []) BW7) (by simp)
 have fe : frms (alA g1 g2) = alL := rfl
 have NW := t_PNew 3 1 (some ⟨g3, 0, none⟩) 2 (alA g1 g2) 1 Q4.heap.size w7 E7 (HFD.out.below B47 (Nat.le_refl _)) B47.size (by show (4 : Nat) <= _; decide) (by decide)
 rw [fe] at NW
 have NW := zdm NW
 have F7 := FD6.below b7 (Nat.le_refl _)
 have HF7 := zdm (F7.more b7.size)
 have HK7 := zdm k7
 have HS7 := zdm S7
 have HB7 := zdm BW7
 have H7 := zdm h7
 have HL6 := zdm eL
 have s0 := S7.c 0 _ rfl
 have s1 := S7.c 1 _ rfl
 have ln : L6.length = 2 := by have := congrArg List.length eL; rw [z7] at this; exact this
 rw [ln]
 have HLN := zdm ln
 clear DC C6 FD6 BW6 h7 b7 k7 S7 B47 BW7 E7 fe F7 eL HS4 HFD HBW ln
 go_upto_region 5 with fail
 rw [<- H7.out]
 clear H7
 go_wp2_with fail
 refine NW.out.mono ?_; rintro e w8 ⟨v8, rfl, B8, _, hY⟩
 obtain ⟨W3, pb, ev, rfl, P8, _⟩ := hY al_new
 rw [al_new]
 have HP8 := zdm P8
 have K8 := HK7.out.of_eq (B8.block _ HK7.out.lt)
 have S8 := HS7.out.of_eq (B8.block _ HS7.out.lt)
 have HB8 := zdm (HB7.out.trans (B8.mono HB7.out.size))
 have F8 := HF7.out.below B8 (Nat.le_refl _)
 obtain ⟨ad, rfl, lb, z1, z2⟩ := F8.at 1 (by rw [HLN.out]; decide)
 have at1 : (L6[1]'(by rw [HLN.out]; decide)).at_ = 20 := by
  have e := HL6.out
  have g := jV L6 1 (by rw [HLN.out]; decide)
  have : (frms L6)[1]'(by rw [z7, HLN.out]; decide) = ⟨20, [13, 120]⟩ := by simp only [e]; rfl
  rw [this] at g
  exact (congrArg Frm.at_ g).symm
 rw [at1, show (1 : Nat) * 2 = 2 from rfl] at z1
 have z3 : w8.cell? ⟨ad.block, ad.off + 2, none⟩ = some (.int .i64 20) := by rw [add_lit _ 2 (by decide)]; exact z1
 have s0 := S8.c 0 _ rfl
 have s1 := S8.c 1 _ rfl
 have t0 := K8.c 0 _ rfl
 have t1 := K8.c 1 _ rfl
 have LEN := t_PLen P8
 rw [al_last] at LEN
 have LEN := zdm LEN
 clear NW B8 hY P8 F8 z2 lb at1 K8 S8 HK7 HS7 HF7
 go_wp2_with fail
 refine LEN.out.mono ?_; rintro e w9 ⟨rfl, B9⟩
 have P9 := HP8.out.below B9
 have A1 := t_PAt P9 al_sz al_tm Jj al_lb (by decide) (by decide) 15 (by decide) (by decide)
 rw [al_u15] at A1
 obtain ⟨ta, hta⟩ : ∃ ta, ta = zO 3 1 (alL.take 1) := ⟨_, rfl⟩
 have X1 := zdm (show (ta.cells.getD 0 celD).text = ⟨#[97]⟩ /\ ta.cells.length = 3 by rw [hta]; exact al_one)
 rw [<- hta] at A1
 have A1 := zdm A1
 have HP9 := zdm P9
 have HB9 := zdm (HB8.out.trans (B9.mono HB8.out.size))
 clear LEN B9 P9 HP8 HB8 s0 s1 t0 t1 z1 z3 hta
 go_wp2_with fail
 refine A1.out.mono ?_; rintro e w10 ⟨Aa, ca, rfl, Na, Ba⟩
 rw [X1.out.2] at Na
 obtain ⟨ga, rfl, gl, gu, gc⟩ := zac (n := 3) (by rw [<- X1.out.2] at Na; exact (by rw [X1.out.2] at Na ⊢; exact Na)) (by rw [X1.out.2]; decide)
 have sva : scrV (zM ta) (some ⟨ga, 0, none⟩) ca = .agg #[.int .i64 (zM ta).w, .int .i64 (zM ta).h, .slice (some ⟨ga, 0, none⟩) 3 ca, .int .i64 (zM ta).x, .int .i64 (zM ta).y, .bool (zM ta).shown] := by
  unfold scrV
  rw [zad, X1.out.2]
 rw [sva]
 generalize zM ta = sa at *
 obtain ⟨V11, h11⟩ : ∃ V, V = w10.alloc (.cells #[.int .i64 sa.w, .int .i64 sa.h, .slice (some ⟨ga, 0, none⟩) 3 ca, .int .i64 sa.x, .int .i64 sa.y, .bool sa.shown] 51) := ⟨_, rfl⟩
 have b11 : Below w10.heap.size w10 V11 := by rw [h11]; exact (Below.refl _ _).alloc (Nat.le_refl _) _
 have k11 : Bk V11 w10.heap.size [.int .i64 sa.w, .int .i64 sa.h, .slice (some ⟨ga, 0, none⟩) 3 ca, .int .i64 sa.x, .int .i64 sa.y, .bool sa.shown] 51 := by rw [h11]; exact Bk.new _ _ _
 have P11 := (HP9.out.below Ba).below b11
 have A2 := t_PAt P11 al_sz al_tm Jj al_lb (by decide) (by decide) 20 (by decide) (by decide)
 rw [al_u20] at A2
 obtain ⟨tb, htb⟩ : ∃ tb, tb = zO 3 1 (alL.take 2) := ⟨_, rfl⟩
 have X2 := zdm (show (tb.cells.getD 0 celD).text = ⟨#[120]⟩ /\ (tb.cells.getD 1 celD).text = ⟨#[98]⟩ /\ tb.cells.length = 3 by rw [htb]; exact al_two)
 rw [<- htb] at A2
 have A2 := zdm A2
 have HB11 := zdm ((HB9.out.trans (Ba.mono HB9.out.size)).trans (b11.mono (Nat.le_trans HB9.out.size Ba.size)))
 have HK11 := zdm k11
 have GC := zdm (fun (w' : World) (e : w'.heap[ga]? = w10.heap[ga]?) => gc w' e 0 (by rw [X1.out.2]; decide))
 have GK := zdm (fun (w' : World) (b : Below V11.heap.size V11 w') => (b.block ga (Nat.lt_of_lt_of_le gu b11.size)).trans (b11.block ga gu))
 have H11 := zdm h11
 clear A1 Na Ba gc sva h11 b11 k11 P11 HP9 HB9 htb gl gu
 go_upto_region 9 with fail
 rw [<- H11.out]
 clear H11
 go_wp2_with fail
 refine A2.out.mono ?_; rintro e w12 ⟨Ab, cb, rfl, Nb, Bb⟩
 rw [X2.out.2.2] at Nb
 obtain ⟨gb, rfl, gl, gu, gc⟩ := zac (n := 3) (by rw [<- X2.out.2.2] at Nb; exact (by rw [X2.out.2.2] at Nb ⊢; exact Nb)) (by rw [X2.out.2.2]; decide)
 have svb : scrV (zM tb) (some ⟨gb, 0, none⟩) cb = .agg #[.int .i64 (zM tb).w, .int .i64 (zM tb).h, .slice (some ⟨gb, 0, none⟩) 3 cb, .int .i64 (zM tb).x, .int .i64 (zM tb).y, .bool (zM tb).shown] := by
  unfold scrV
  rw [zad, X2.out.2.2]
 rw [svb]
 generalize zM tb = sb at *
 obtain ⟨V13, h13⟩ : ∃ V, V = w12.alloc (.cells #[.int .i64 sb.w, .int .i64 sb.h, .slice (some ⟨gb, 0, none⟩) 3 cb, .int .i64 sb.x, .int .i64 sb.y, .bool sb.shown] 51) := ⟨_, rfl⟩
 have b13 : Below w12.heap.size w12 V13 := by rw [h13]; exact (Below.refl _ _).alloc (Nat.le_refl _) _
 have k13 : Bk V13 w12.heap.size [.int .i64 sb.w, .int .i64 sb.h, .slice (some ⟨gb, 0, none⟩) 3 cb, .int .i64 sb.x, .int .i64 sb.y, .bool sb.shown] 51 := by rw [h13]; exact Bk.new _ _ _
 have k11 := (HK11.out.of_eq (Bb.block _ HK11.out.lt)).of_eq (b13.block _ (Nat.lt_of_lt_of_le HK11.out.lt Bb.size))
 have x2 := k11.c 2 _ rfl
 have y2 := k13.c 2 _ rfl
 have ca0 := GC.out V13 (GK.out V13 (Bb.trans (b13.mono Bb.size)))
 have cb0 := gc V13 (b13.block gb gu) 0 (by rw [X2.out.2.2]; decide)
 have cb1 := gc V13 (b13.block gb gu) 1 (by rw [X2.out.2.2]; decide)
 rw [X1.out.1, Nat.zero_mul] at ca0
 rw [X2.out.1, Nat.zero_mul] at cb0
 rw [X2.out.2.1, Nat.one_mul] at cb1
 have FIN := zdm ((HB11.out.trans (Bb.mono HB11.out.size)).trans (b13.mono (Nat.le_trans HB11.out.size Bb.size)))
 have H13 := zdm h13
 clear A2 Nb Bb gc svb h13 b13 k13 k11 gl gu HB11 HK11 GC GK
 go_upto_region 10 with fail
 rw [<- H13.out]
 clear H13
 go_wp2_with fail
 go_ret
 exact ⟨by rfl, FIN.out⟩
end
end Go.Proofs.YtmaofighbpnbiaaGreatDoor
/- Tapes: shorter pauses, one behind the other, what is shown at a time (plain; of no program). -/
namespace Go.Proofs.YtmaofighbpnbiaaGreatDoor
set_option linter.unusedSimpArgs false
set_option linter.unusedVariables false
/-! shorter pauses -/
def sqF (most : Int) : Int -> Int -> List Frm -> List Frm
 | _, _, [] => []
 | at_, was, f :: l => ⟨at_ + min most (f.at_ - was), f.bs⟩ :: sqF most (at_ + min most (f.at_ - was)) f.at_ l
def qh (l : List Frm) (most : Int) : List Frm × Int := if zZ l ≠ 0 then ([], zZ l) else if most < 0 then ([], 2) else (sqF most 0 0 l, 0)
theorem zae (most : Int) : ∀ (l : List Frm) (a w : Int), (sqF most a w l).length = l.length
 | [], _, _ => rfl
 | f :: l, a, w => by rw [sqF, List.length_cons, List.length_cons, zae most l]
theorem Jk (most : Int) : ∀ (l : List Frm) (a w : Int), qG (sqF most a w l) = qG l
 | [], _, _ => rfl
 | f :: l, a, w => by
  have := Jk most l (a + min most (f.at_ - w)) f.at_
  unfold qG at this ⊢
  rw [sqF, List.any_cons, List.any_cons, this]
theorem zaf (most : Int) (h0 : 0 <= most) : ∀ (l : List Frm) (a w : Int), a <= w -> zJ w l = true -> zJ a (sqF most a w l) = true
 | [], _, _, _, _ => rfl
 | f :: l, a, w, aw, ht => by
  rw [zJ, Bool.and_eq_true] at ht
  have t1 := of_decide_eq_true ht.1
  rw [sqF, zJ, Bool.and_eq_true]
  exact ⟨decide_eq_true ⟨by show a <= a + min most (f.at_ - w); omega, by show a + min most (f.at_ - w) <= 1099511627776; omega⟩, zaf most h0 l (a + min most (f.at_ - w)) f.at_ (by omega) ht.2⟩
/-! one behind the other -/
/-! what is shown at a time -/
end Go.Proofs.YtmaofighbpnbiaaGreatDoor
/- Shorter pauses: the plain part and the row that is written (plain; memory). -/
namespace Go.Proofs.YtmaofighbpnbiaaGreatDoor
open Go Go.RowKit Go.Sort
set_option linter.unusedSimpArgs false
set_option linter.unusedVariables false
section
def sqA (most : Int) : Int -> Int -> List FA -> List FA
 | _, _, [] => []
 | a, w, x :: l => ⟨a + min most (x.at_ - w), x.b⟩ :: sqA most (a + min most (x.at_ - w)) x.at_ l
def atE (most : Int) : Int -> Int -> List FA -> Int
 | a, _, [] => a
 | a, w, x :: l => atE most (a + min most (x.at_ - w)) x.at_ l
def wasE : Int -> List FA -> Int
 | w, [] => w
 | _, x :: l => wasE x.at_ l
theorem Jl (most : Int) : ∀ (l m : List FA) (a w : Int), sqA most a w (l ++ m) = sqA most a w l ++ sqA most (atE most a w l) (wasE w l) m
 | [], m, a, w => rfl
 | x :: l, m, a, w => by rw [List.cons_append, sqA, sqA, Jl most l m, atE, wasE, List.cons_append]
theorem zag (most : Int) : ∀ (l m : List FA) (a w : Int), atE most a w (l ++ m) = atE most (atE most a w l) (wasE w l) m
 | [], m, a, w => rfl
 | x :: l, m, a, w => by rw [List.cons_append, atE, zag most l m, atE, wasE]
theorem zah : ∀ (l m : List FA) (w : Int), wasE w (l ++ m) = wasE (wasE w l) m
 | [], m, w => rfl
 | x :: l, m, w => by rw [List.cons_append, wasE, zah l m, wasE]
theorem Zx (most : Int) : ∀ (l : List FA) (a w : Int), (sqA most a w l).length = l.length
 | [], _, _ => rfl
 | x :: l, a, w => by rw [sqA, List.length_cons, Zx most l, List.length_cons]
theorem Zy (most : Int) : ∀ (l : List FA) (a w : Int), frms (sqA most a w l) = sqF most a w (frms l)
 | [], _, _ => rfl
 | x :: l, a, w => by
  have := Zy most l (a + min most (x.at_ - w)) x.at_
  unfold frms at *
  rw [sqA, List.map_cons, this, List.map_cons, sqF]
  rfl
theorem zai (most : Int) : ∀ (l : List FA) (a w : Int), zk (sqA most a w l) = zk l
 | [], _, _ => rfl
 | x :: l, a, w => by
  have := zai most l (a + min most (x.at_ - w)) x.at_
  unfold zk at *
  rw [sqA, List.flatMap_cons, this, List.flatMap_cons]
theorem Jm (most : Int) (h0 : 0 <= most) : ∀ (l : List FA) (a w : Int), 0 <= a -> a <= w -> w <= 1099511627776 -> zJ w (frms l) = true -> 0 <= atE most a w l /\ atE most a w l <= wasE w l /\ wasE w l <= 1099511627776
 | [], a, w, a0, aw, wm, _ => ⟨a0, aw, wm⟩
 | x :: l, a, w, a0, aw, wm, ht => by
  have ht : zJ w (FA.frm x :: frms l) = true := ht
  rw [zJ, Bool.and_eq_true] at ht
  have t1 := of_decide_eq_true ht.1
  have t1 : w <= x.at_ /\ x.at_ <= 1099511627776 := t1
  rw [atE, wasE]
  exact Jm most h0 l _ _ (by omega) (by omega) (by omega) ht.2
def sqK (most : Int) (L : List FA) (k : Nat) : List FA := sqA most 0 0 (L.take k) ++ L.drop k
theorem sqK_zero (most : Int) (L : List FA) : sqK most L 0 = L := by unfold sqK; rw [List.take_zero, List.drop_zero]; rfl
theorem sqK_all (most : Int) (L : List FA) : sqK most L L.length = sqA most 0 0 L := by unfold sqK; rw [List.take_length, List.drop_length, List.append_nil]
theorem sqK_len (most : Int) (L : List FA) (k : Nat) : (sqK most L k).length = L.length := by
 unfold sqK
 rw [List.length_append, Zx, <- List.length_append, List.take_append_drop]
theorem sqK_at (most : Int) (L : List FA) (k : Nat) (hk : k < L.length) : sqK most L k = sqA most 0 0 (L.take k) ++ L[k] :: L.drop (k + 1) := by unfold sqK; rw [<- List.drop_eq_getElem_cons hk]
theorem sqK_next (most : Int) (L : List FA) (k : Nat) (hk : k < L.length) : sqK most L (k + 1) = sqA most 0 0 (L.take k) ++ ⟨atE most 0 0 (L.take k) + min most ((L[k]).at_ - wasE 0 (L.take k)), (L[k]).b⟩ :: L.drop (k + 1) := by
 unfold sqK
 rw [kC L k hk, Jl, List.append_assoc]
 rfl
theorem zaj (most : Int) (L : List FA) (k : Nat) (hk : k < L.length) : atE most 0 0 (L.take (k + 1)) = atE most 0 0 (L.take k) + min most ((L[k]).at_ - wasE 0 (L.take k)) /\ wasE 0 (L.take (k + 1)) = (L[k]).at_ := by
 rw [kC L k hk, zag, zah]
 exact ⟨rfl, rfl⟩
theorem cp_set (g : Nat) (M R : List FA) (x : FA) (t : Int) : ((cpF g 0 0 (M ++ x :: R)).flatMap frV).set (M.length * 2) (.int .i64 t) = (cpF g 0 0 (M ++ ⟨t, x.b⟩ :: R)).flatMap frV := by
 rw [Zd, Zd, cpF, cpF, List.flatMap_append, List.flatMap_append, List.flatMap_cons, List.flatMap_cons]
 have e : M.length * 2 = ((cpF g 0 0 M).flatMap frV).length + 0 := by rw [vt, xe, Nat.add_zero]
 rw [e, List.set_append_right _ _ (by omega), Nat.add_zero, Nat.sub_self]
 simp only [frV, List.cons_append, List.set_cons_zero, Int.add_zero]
structure SqAt (W : World) (g : Nat) (most : Int) (L : List FA) (k : Nat) (v : Value) (w : World) : Prop where
 own : w.ownsRow W.heap.size 47 2 v L.length ((cpF g 0 0 (sqK most L k)).flatMap frV)
 row : BRow w g (zk L).length (zk L)
 bel : Below W.heap.size W w
 gn : W.heap.size <= g
theorem SqAt.init {W W1 w : World} {g : Nat} {L : List FA} {v : Value} (most : Int) (hb : Below W.heap.size W W1) (h : CopAt W1.heap.size W1 g (zk L).length [] 0 L v w) : SqAt W g most L 0 v w := by
 have o := h.own
 rw [List.nil_append, xe] at o
 refine ⟨?_, h.row, hb.trans (h.bel.mono hb.size), Nat.le_trans hb.size h.gn⟩
 rw [sqK_zero]
 exact qO o hb.size
theorem SqAt.form {W w : World} {g : Nat} {most : Int} {L : List FA} {k : Nat} {v : Value} (h : SqAt W g most L k v w) (hk : 0 < L.length) : ∃ r c, v = .slice (some ⟨r, 0, none⟩) L.length c /\ W.heap.size <= r /\ r < w.heap.size /\ r ≠ g := by
 rcases h.own.2 with ⟨_, z⟩ | ⟨r, c, cur, e, hb, hg, _⟩
 ·omega
 ·refine ⟨r, c, e, hb, (Array.getElem?_eq_some_iff.1 hg).1, fun z => ?_⟩
  obtain ⟨_, cur2, e2, _⟩ := h.row
  rw [z, e2] at hg
  cases hg
theorem SqAt.next {W w : World} {g : Nat} {most : Int} {L : List FA} {k r c : Nat} (h : SqAt W g most L k (.slice (some ⟨r, 0, none⟩) L.length c) w) (hk : k < L.length) (t : Int) (ht : t = atE most 0 0 (L.take k) + min most ((L[k]).at_ - wasE 0 (L.take k))) (hr : W.heap.size <= r) (ne : r ≠ g) : SqAt W g most L (k + 1) (.slice (some ⟨r, 0, none⟩) L.length c) (w.setCell ⟨r, k * 2, none⟩ (.int .i64 t)) := by
 refine ⟨?_, h.row.keep (heap_setCell_other _ _ _ _ (fun z => ne z.symm)), h.bel.setCell (p := ⟨r, k * 2, none⟩) hr _, h.gn⟩
 have o := (h.own.stored (k * 2) (.int .i64 t)).1
 have e := cp_set g (sqA most 0 0 (L.take k)) (L.drop (k + 1)) (L[k]) t
 rw [Zx, List.length_take, Nat.min_eq_left (Nat.le_of_lt hk)] at e
 rw [sqK_at most L k hk, e] at o
 rw [sqK_next most L k hk, <- ht]
 exact o
theorem SqAt.below {W w w' : World} {g : Nat} {most : Int} {L : List FA} {k : Nat} {v : Value} (h : SqAt W g most L k v w) (hb : Below w.heap.size w w') : SqAt W g most L k v w' := ⟨zT h.own hb, h.row.keep (hb.block g h.row.lt), h.bel.trans (hb.mono h.bel.size), h.gn⟩
theorem SqAt.cell {W w : World} {g : Nat} {most : Int} {L : List FA} {k r c : Nat} (h : SqAt W g most L k (.slice (some ⟨r, 0, none⟩) L.length c) w) (hk : k < L.length) : (∃ u, w.cell? ⟨r, k * 2, none⟩ = some u) /\ w.frozen? ⟨r, k * 2, none⟩ = false := by
 refine ⟨?_, h.own.frozenAt _⟩
 have e := h.own.cellAt (k * 2) (by omega)
 rw [e]
 have l : ((cpF g 0 0 (sqK most L k)).flatMap frV).length = L.length * 2 := by rw [vt, xe, sqK_len]
 exact ⟨_, List.getElem?_eq_getElem (by rw [l]; omega)⟩
def SqR (W : World) (l : List Frm) (most : Int) (e : Ending) (w' : World) : Prop := ∃ v, e = .returned (.tuple #[v, .int .i64 (qh l most).2]) /\ CpyR W w' v (qh l most).1
theorem sqR_no {W w' : World} {l : List Frm} {most k : Int} (e : qh l most = ([], k)) (hb : Below W.heap.size W w') : SqR W l most (.returned (.tuple #[.slice none 0 0, .int .i64 k])) w' := ⟨_, by rw [e], by rw [e]; exact ⟨hb, Or.inl ⟨rfl, rfl⟩⟩⟩
theorem sqR_yes {W w' : World} {L : List FA} {most : Int} {v : Value} {g : Nat} (ck : zZ (frms L) = 0) (h0 : 0 <= most) (h : SqAt W g most L L.length v w') (ok : ∀ x ∈ L, Byt x.b.bs) : SqR W (frms L) most (.returned (.tuple #[v, .int .i64 0])) w' := by
 have e : qh (frms L) most = (sqF most 0 0 (frms L), 0) := by unfold qh; rw [if_neg (by rw [ck]; simp), if_neg (by omega)]
 obtain ⟨p1, p2, p3⟩ := xa ck
 refine ⟨v, by rw [e], ?_⟩
 rw [e]
 have o := h.own
 have lm : (cpF g 0 0 (sqA most 0 0 L)).length = L.length := by rw [xe, Zx]
 rw [sqK_all] at o
 refine ⟨h.bel, Or.inr ⟨g, sqA most 0 0 L, h.gn, by rw [lm]; exact o, by rw [zai]; exact h.row, Zy most L 0 0, fun x m => ?_⟩⟩
 have m2 : FA.frm x ∈ sqF most 0 0 (frms L) := by rw [<- Zy]; exact List.mem_map_of_mem m
 obtain ⟨j, hj, ej⟩ := List.mem_iff_getElem.1 m2
 have b := xL _ 0 (zaf most h0 (frms L) 0 0 (Int.le_refl _) p3) j j hj (Nat.le_refl _)
 have a := kB (l := sqF most 0 0 (frms L)) (by rw [Jk]; exact p1) _ m2
 rw [ej] at b
 refine ⟨?_, a, b.2⟩
 have each : ∀ (l : List FA) (a w : Int), (∀ x ∈ l, Byt x.b.bs) -> ∀ x ∈ sqA most a w l, Byt x.b.bs := by
  intro l
  induction l with
  | nil => intro a w _ x m; cases m
  | cons y l ih =>
   intro a w hh x m
   rw [sqA] at m
   rcases List.mem_cons.1 m with rfl | m
   ·exact hh y List.mem_cons_self
   ·exact ih _ _ (fun x m => hh x (List.mem_cons_of_mem _ m)) x m
 exact each L 0 0 ok x m
end
end Go.Proofs.YtmaofighbpnbiaaGreatDoor
/- Shorter pauses: Squeeze, walked. -/
namespace Go.Proofs.YtmaofighbpnbiaaGreatDoor
open Go Go.RowKit Go.Sort
set_option linter.unusedSimpArgs false
set_option linter.unusedVariables false
section
theorem Jn : ∀ (l : List Frm) (w : Int) (k : Nat), zJ w l = true -> zJ w (l.take k) = true
 | [], w, k, _ => by rw [List.take_nil]; rfl
 | f :: l, w, 0, _ => rfl
 | f :: l, w, k + 1, h => by
  rw [zJ, Bool.and_eq_true] at h
  rw [List.take_succ_cons, zJ, Bool.and_eq_true]
  exact ⟨h.1, Jn l f.at_ k h.2⟩
theorem zak (L : List FA) (k : Nat) : frms (L.take k) = (frms L).take k := by unfold frms; rw [List.map_take]
set_option maxHeartbeats 16000000 in
set_option maxRecDepth 100000 in
theorem zal (A : Option Addr) (c : Nat) (L : List FA) (most : Int) (B : Nat) (W : World) (D : FrsD W B A c L) (hB : B <= W.heap.size) (tot : (zk L).length <= 268435456) (hm : -9223372036854775808 <= most /\ most <= 9223372036854775807) :
  Calls Tryz.prog 33 #[.slice A L.length c, .int .i64 most] W (SqR W (frms L) most) := by
 have C1 := zdm (QF A c L B W D hB)
 have HD := zdm D
 have HBB := zdm hB
 have HT := zdm tot
 obtain ⟨l, hl⟩ : ∃ l, l = frms L := ⟨_, rfl⟩
 rw [<- hl] at C1 ⊢
 have HL := zdm hl
 obtain ⟨ck, hck⟩ : ∃ ck, ck = zZ l := ⟨_, rfl⟩
 rw [<- hck] at C1
 have HCK := zdm hck
 obtain ⟨n, hn⟩ : ∃ n, n = L.length := ⟨_, rfl⟩
 have HN := zdm hn
 rw [<- hn] at C1 ⊢
 clear hl D hB tot hck hn
 go_enter Tryz.func33, Tryz.ntmps33
 go_wp2_with fail
 refine C1.out.mono ?_; rintro e w1 ⟨rfl, hb1⟩
 have B1 := zdm hb1
 clear C1 hb1
 by_cases c0 : ck = 0
 case neg =>
  have c0' : (ck == 0) = false := by simpa using c0
  have EN := zdm (sqR_no (W := W) (l := l) (show qh l most = ([], ck) by unfold qh; rw [<- HCK.out, if_pos c0]) B1.out)
  go_wp2_with fail
  go_ret2
  exact EN.out
 subst c0
 by_cases m1 : most < 0
 case pos =>
  have EN := zdm (sqR_no (W := W) (l := l) (show qh l most = ([], 2) by unfold qh; rw [<- HCK.out, if_neg (by decide), if_pos m1]) B1.out)
  go_wp2_with fail
  go_ret2
  exact EN.out
 obtain ⟨p1, p2, p3⟩ := xa HCK.out.symm
 have OKL : ∀ x ∈ L, x.b.bs.length <= 1048576 /\ 0 <= x.at_ /\ x.at_ <= 1099511627776 := fun x m => by
  obtain ⟨j, hj, rfl⟩ := List.mem_iff_getElem.1 m
  have hj2 : j < (frms L).length := by rw [z7]; exact hj
  rw [HL.out] at p1 p3
  have a := kB p1 _ (List.getElem_mem hj2)
  have b := xL _ 0 p3 j j hj2 (Nat.le_refl _)
  rw [jV L j hj] at a b
  exact ⟨a, b.2⟩
 have ln : L.length <= 16384 := by rw [HL.out, z7] at p2; exact p2
 have D1 := HD.out.below B1.out HBB.out
 have CP := zdm (QM w1.heap.size (.slice none 0 0) [] A c L B 0 w1 ⟨rfl, Or.inl ⟨rfl, rfl⟩⟩ (Nat.le_refl _) D1 (Nat.le_trans HBB.out B1.out.size) ln (fun x m => (OKL x m).1) (fun x m => (OKL x m).2) ⟨by decide, by decide⟩ (by decide))
 rw [<- HN.out] at CP
 have BND := zdm (fun k => Jm most (by omega) (L.take k) 0 0 (by decide) (by decide) (by decide) (by rw [zak, <- HL.out]; exact Jn l 0 k p3))
 have OKH := zdm OKL
 have nL : n <= 16384 := by have := HN.out; omega
 clear OKL D1 p1 p2 p3 ln
 go_wp2_with fail
 refine CP.out.mono ?_; rintro e w3 ⟨v3, g3, rfl, C3⟩
 have S0 := SqAt.init most B1.out C3
 obtain ⟨Af, cf, e3⟩ := jT S0.own
 rw [<- HN.out] at e3
 subst e3
 have HS0 := zdm S0
 clear CP C3 S0
 go_wp2_with fail
 go_loopw [8, 9, 23] (fun s8 s9 s23 wr => ∃ (k : Nat) (a b : Int), k <= n /\ s8 = .int .i64 a /\ s9 = .int .i64 b /\ s23 = .int .i64 (k : Int) /\ Hid (a = atE most 0 0 (L.take k)) /\ Hid (b = wasE 0 (L.take k)) /\ Hid (SqAt W g3 most L k (.slice Af n cf) wr)) (fun _ _ s23 _ => n - (intOf s23).toNat)
 case atStart => exact ⟨0, 0, 0, Nat.zero_le _, rfl, rfl, rfl, zdm rfl, zdm rfl, HS0⟩
 case round =>
  obtain ⟨k, a, b, hk, rfl, rfl, rfl, ha, hb, hs⟩ := hrel
  clear HS0
  by_cases lt : k < n
  ·have kl : k < L.length := by rw [<- HN.out]; exact lt
   have FD := HD.out.below hs.out.bel HBB.out
   obtain ⟨ad, rfl, lb, z1, z2⟩ := FD.at k kl
   obtain ⟨r, c', e, rb, rl, rne⟩ := hs.out.form (by omega)
   injection e with e1 e2 e3
   subst e1
   subst e3
   obtain ⟨nx1, nx2⟩ := zaj most L k kl
   have BK := BND.out k
   have BK1 := BND.out (k + 1)
   rw [nx1, nx2, <- ha.out, <- hb.out] at BK1
   rw [<- ha.out, <- hb.out] at BK
   have OX := OKH.out _ (List.getElem_mem kl)
   have HNX := zdm (And.intro nx1 nx2)
   obtain ⟨Q4, hQ4⟩ : ∃ Q4, Q4 = wr.alloc (.cells #[.int .i64 (L[k]).at_, .slice (L[k]).b.A (L[k]).b.bs.length (L[k]).b.c] 47) := ⟨_, rfl⟩
   have hb4 : Below wr.heap.size wr Q4 := by rw [hQ4]; exact (Below.refl _ wr).alloc (Nat.le_refl _) _
   have K4 : Bk Q4 wr.heap.size [.int .i64 (L[k]).at_, .slice (L[k]).b.A (L[k]).b.bs.length (L[k]).b.c] 47 := by rw [hQ4]; exact Bk.new wr _ _
   have S4 := hs.out.below hb4
   rw [e2] at S4
   have cl := S4.cell kl
   obtain ⟨u, cl1⟩ := cl.1
   have cl2 := cl.2
   have NX := zdm (fun t (ht : t = a + min most ((L[k]).at_ - b)) => S4.next kl t (by rw [ht, ha.out, hb.out]) rb rne)
   rw [<- e2] at NX
   have HQ4 := zdm hQ4
   have b0 := K4.c 0 _ rfl
   have b1 := K4.c 1 _ rfl
   generalize hxt : (L[k]).at_ = xt at *
   generalize (L[k]).b = xb at *
   obtain ⟨xA, xc, bs⟩ := xb
   dsimp only at *
   have q0 : (0 : Int) <= (k : Int) := by omega
   have q5 : (k : Int) < (n : Int) := by omega
   have tn : (k : Int).toNat = k := by omega
   have wk : IntKind.i64.wrap ((k : Int) + 1) = (k : Int) + 1 := IntWalk.i64_in _ (by omega)
   have wx : IntKind.i64.wrap (xt - b) = xt - b := IntWalk.i64_in _ (by omega)
   have wa : IntKind.i64.wrap (a + min most (xt - b)) = a + min most (xt - b) := IntWalk.i64_in _ (by omega)
   clear FD hQ4 hb4 K4 S4 cl nx1 nx2 lb BK BK1 OX hs
   go_upto_region 11 with fail
   rw [<- HQ4.out]
   clear HQ4 z1 z2
   go_wp2_with fail
   go_roundw
   case rel => exact ⟨k + 1, _, _, by omega, rfl, rfl, by go_num, zdm (by rw [HNX.out.1, <- ha.out, <- hb.out]), zdm (by rw [HNX.out.2]), zdm (NX.out _ rfl)⟩
   case measure => simp [intOf]; omega
  ·have e : k = n := by omega
   subst e
   have q5 : ¬ (k : Int) < (k : Int) := by omega
   have FIN : Hid (SqR W l most (.returned (.tuple #[.slice Af k cf, .int .i64 0])) wr) := zdm (by
    rw [HL.out]
    exact sqR_yes (by rw [<- HL.out, <- HCK.out]) (by omega) (by rw [<- HN.out]; exact hs.out) (fun x m => (HD.out.ok x m).b.rng))
   clear hs
   go_wp2_with fail
   go_ret2
   exact FIN.out
end
end Go.Proofs.YtmaofighbpnbiaaGreatDoor
/- The law's own helpers: beyond, same. -/
namespace Go.Proofs.YtmaofighbpnbiaaGreatDoor
open Go Go.RowKit Go.Sort
set_option linter.unusedSimpArgs false
set_option linter.unusedVariables false
section
def beyB (L : List FA) : Bool := decide (134217728 < L.length + (zk L).length)
theorem zdg (L : List FA) (k : Nat) : (zk (L.take k)).length <= (zk L).length := by
 have e := congrArg (fun l => (zk l).length) (List.take_append_drop k L)
 simp only [kA, List.length_append] at e
 omega
set_option maxHeartbeats 4000000 in
set_option maxRecDepth 100000 in
theorem zdh (A : Option Addr) (c : Nat) (L : List FA) (B : Nat) (W : World) (D : FrsD W B A c L) : Calls Tryz.prog 13 #[.slice A L.length c] W fun e w' => e = .returned (.bool (beyB L)) /\ w' = W := by
 have HD := zdm D
 obtain ⟨n, hn⟩ : ∃ n, n = L.length := ⟨_, rfl⟩
 have HN := zdm hn
 have nl : n <= 4398046511104 := by have := D.sz; omega
 rw [<- hn]
 clear hn D
 go_enter Tryz.func13, Tryz.ntmps13
 go_wp2_with fail
 go_loopw [3, 4] (fun s3 s4 wr => ∃ (k z : Nat), k <= n /\ s3 = .int .i64 (z : Int) /\ s4 = .int .i64 (k : Int) /\ z <= 134217728 /\ Hid (z = k + (zk (L.take k)).length) /\ wr = W) (fun _ s4 _ => n - (intOf s4).toNat)
 case atStart => exact ⟨0, 0, Nat.zero_le _, rfl, rfl, by decide, zdm (by simp [zk]), rfl⟩
 case round =>
  obtain ⟨k, z, hk, rfl, rfl, zb, hz, rfl⟩ := hrel
  by_cases lt : k < n
  ·have kl : k < L.length := by rw [<- HN.out]; exact lt
   obtain ⟨ad, rfl, lb, _, z2⟩ := HD.out.at k kl
   have BL := (HD.out.ok _ (List.getElem_mem kl)).b.sz
   have FT := congrArg List.length (QK L k kl)
   rw [List.length_append] at FT
   have TL := zdg L (k + 1)
   have NZ := zdm (show z + 1 + (L[k]).b.bs.length = (k + 1) + (zk (L.take (k + 1))).length by have := hz.out; omega)
   have NG := zdm (show 134217728 < z + 1 + (L[k]).b.bs.length -> beyB L = true from fun h => decide_eq_true (by have := NZ.out; have := HN.out; omega))
   generalize hbb : (L[k]).b = bb at *
   obtain ⟨xA, xc, bs⟩ := bb
   dsimp only at z2 BL NZ NG
   have q0 : (0 : Int) <= (k : Int) := by omega
   have q5 : (k : Int) < (n : Int) := by omega
   have tn : (k : Int).toNat = k := by omega
   have wk : IntKind.i64.wrap ((k : Int) + 1) = (k : Int) + 1 := IntWalk.i64_in _ (by omega)
   have w1 : IntKind.i64.wrap ((z : Int) + 1) = (z : Int) + 1 := IntWalk.i64_in _ (by omega)
   have w2 : IntKind.i64.wrap ((z : Int) + 1 + (bs.length : Int)) = ((z + 1 + bs.length : Nat) : Int) := by rw [IntWalk.i64_in _ (by omega)]; omega
   obtain ⟨z', hz'⟩ : ∃ z', z' = z + 1 + bs.length := ⟨_, rfl⟩
   rw [<- hz'] at w2 NZ NG
   clear FT TL hbb lb hz hz'
   by_cases big : 134217728 < z'
   ·have b1 : (134217728 : Int) < (z' : Int) := by omega
    have E := zdm (NG.out big)
    clear NG NZ
    go_wp2_with fail
    go_ret
    exact ⟨by rw [E.out]; rfl, rfl⟩
   ·have b1 : ¬ (134217728 : Int) < (z' : Int) := by omega
    clear NG
    go_wp2_with fail
    go_roundw
    case rel => exact ⟨k + 1, z', by omega, rfl, by go_num, by omega, NZ, trivial⟩
    case measure => simp [intOf]; omega
  ·have e : k = n := by omega
   subst e
   have q5 : ¬ (k : Int) < (k : Int) := by omega
   have E : Hid (beyB L = false) := zdm (decide_eq_false (by have h1 := hz.out; have h2 := HN.out; rw [h2, List.take_length] at h1; omega))
   clear hz
   go_wp2_with fail
   go_ret
   exact ⟨by rw [E.out]; rfl, rfl⟩
theorem zam {w : World} {B : Nat} {x : BA} (D : ByteD w B x) : (convert 27 9 (.slice x.A x.bs.length x.c)).run Tryz.prog w = .ok (.string (barr x.bs)) w := by
 obtain ⟨A, c, bs⟩ := x
 cases A with
 | none =>
  have h1 : c = 0 := D.nil rfl
  have h2 : bs.length <= c := D.cap
  obtain rfl : bs = [] := List.eq_nil_of_length_eq_zero (by omega)
  subst h1
  exact Lib.run_convert_nil_bytes w _ _ 5 0 Tryz.underlying27 Tryz.underlying5 Tryz.underlying9
 | some ad =>
  dsimp only
  rw [run_convert_bytes_string w _ _ 5 (some ad) bs.length c Tryz.underlying27 Tryz.underlying5 Tryz.underlying9]
  have hl := run_loadCells_list (P := Tryz.prog) w ad (bts bs) (fun j u hu => by
   obtain ⟨a', e, _, k⟩ := D.sees (fun z => by have z2 : bts bs = [] := z; rw [z2] at hu; simp at hu)
   cases e
   exact k j u hu)
  rw [xB] at hl
  rw [run_bytesToString w _ bs.length c bs hl, XF]
theorem zan : ∀ {a b : List Int}, Byt a -> Byt b -> (a.map fun n : Int => UInt8.ofNat n.toNat) = (b.map fun n : Int => UInt8.ofNat n.toNat) -> a = b
 | [], [], _, _, _ => rfl
 | [], y :: b, _, _, h => by simp at h
 | x :: a, [], _, _, h => by simp at h
 | x :: a, y :: b, ha, hb, h => by
  simp only [List.map_cons, List.cons.injEq] at h
  have x1 := ha x (by simp)
  have y1 := hb y (by simp)
  have e : x = y := by
   have := congrArg UInt8.toNat h.1
   simp only [UInt8.toNat_ofNat'] at this
   omega
  rw [e, zan (fun z m => ha z (by simp [m])) (fun z m => hb z (by simp [m])) h.2]
theorem barr_inj {a b : List Int} (ha : Byt a) (hb : Byt b) (h : barr a = barr b) : a = b := by
 unfold barr at h
 have h := congrArg (fun s : ByteArray => s.data.toList) h
 simp only at h
 exact zan ha hb h
theorem frms_ext {L M : List FA} (hl : L.length = M.length) (h : ∀ k, (h1 : k < L.length) -> (h2 : k < M.length) -> (L[k]).at_ = (M[k]).at_ /\ (L[k]).b.bs = (M[k]).b.bs) : frms L = frms M := by
 unfold frms
 refine List.ext_getElem (by rw [List.length_map, List.length_map, hl]) (fun k a b => ?_)
 rw [List.length_map] at a b
 rw [List.getElem_map, List.getElem_map]
 have := h k a b
 unfold FA.frm
 rw [this.1, this.2]
def SamR (W : World) (l m : List Frm) (e : Ending) (w' : World) : Prop := ∃ b : Bool, e = .returned (.bool b) /\ (b = true ↔ l = m) /\ Below W.heap.size W w'
theorem Jo {W w' : World} {l m : List Frm} (h : ¬ l = m) (b : Below W.heap.size W w') : SamR W l m (.returned (.bool false)) w' := ⟨false, rfl, ⟨fun z => (by cases z), fun z => absurd z h⟩, b⟩
theorem samR_yes {W w' : World} {l m : List Frm} (h : l = m) (b : Below W.heap.size W w') : SamR W l m (.returned (.bool true)) w' := ⟨true, rfl, ⟨fun _ => h, fun _ => rfl⟩, b⟩
end
end Go.Proofs.YtmaofighbpnbiaaGreatDoor
/- The document's SameFrames. -/
namespace Go.Proofs.YtmaofighbpnbiaaGreatDoor
open Go Go.RowKit Go.Sort
set_option linter.unusedSimpArgs false
set_option linter.unusedVariables false
section
set_option maxHeartbeats 8000000 in
set_option maxRecDepth 100000 in
theorem Zz (A A2 : Option Addr) (c c2 : Nat) (L M : List FA) (B B2 : Nat) (W : World) (D : FrsD W B A c L) (D2 : FrsD W B2 A2 c2 M) (hB : B <= W.heap.size) (hB2 : B2 <= W.heap.size) : Calls Tryz.prog 21 #[.slice A L.length c, .slice A2 M.length c2] W (SamR W (frms L) (frms M)) := by
 have HD := zdm D
 have HD2 := zdm D2
 obtain ⟨n, hn⟩ : ∃ n, n = L.length := ⟨_, rfl⟩
 obtain ⟨m, hm⟩ : ∃ m, m = M.length := ⟨_, rfl⟩
 have HN := zdm hn
 have HM := zdm hm
 have nl : n <= 4398046511104 := by have := D.sz; omega
 have ml : m <= 4398046511104 := by have := D2.sz; omega
 rw [<- hn, <- hm]
 clear hn hm D D2
 by_cases ne : n = m
 case neg =>
  have ne' : ¬ (n : Int) = (m : Int) := by omega
  have NE : Hid (¬ frms L = frms M) := zdm (fun z => ne (by have := congrArg List.length z; rw [z7, z7, <- HN.out, <- HM.out] at this; exact this))
  go_enter Tryz.func21, Tryz.ntmps21
  go_wp2_with fail
  go_ret
  exact Jo NE.out (Below.refl _ _)
 subst ne
 go_enter Tryz.func21, Tryz.ntmps21
 go_wp2_with fail
 go_loopw [5] (fun s5 wr => ∃ (k : Nat), k <= n /\ s5 = .int .i64 (k : Int) /\ Hid (∀ j, (h1 : j < L.length) -> (h2 : j < M.length) -> j < k -> (L[j]).at_ = (M[j]).at_ /\ (L[j]).b.bs = (M[j]).b.bs) /\ Hid (Below W.heap.size W wr)) (fun s5 _ => n - (intOf s5).toNat)
 case atStart => exact ⟨0, Nat.zero_le _, rfl, zdm (fun j _ _ h => absurd h (Nat.not_lt_zero _)), zdm (Below.refl _ _)⟩
 case round =>
  obtain ⟨k, hk, rfl, hs, hb⟩ := hrel
  by_cases lt : k < n
  ·have kl : k < L.length := by rw [<- HN.out]; exact lt
   have km : k < M.length := by rw [<- HM.out]; exact lt
   have F1 := HD.out.below hb.out hB
   have F2 := HD2.out.below hb.out hB2
   obtain ⟨ad, rfl, l1, y1, y2⟩ := F1.at k kl
   obtain ⟨ae, rfl, l2, z1, z2⟩ := F2.at k km
   have cx := fun q => zam ((HD.out.below (below_drewN hb.out q) hB).ok _ (List.getElem_mem kl)).b
   have cy := fun q => zam ((HD2.out.below (below_drewN hb.out q) hB2).ok _ (List.getElem_mem km)).b
   have rx := zdm (F1.ok _ (List.getElem_mem kl)).b.rng
   have ry := zdm (F2.ok _ (List.getElem_mem km)).b.rng
   have NS := zdm (fun h : (L[k]).at_ = (M[k]).at_ /\ (L[k]).b.bs = (M[k]).b.bs => show ∀ j, (h1 : j < L.length) -> (h2 : j < M.length) -> j < k + 1 -> (L[j]).at_ = (M[j]).at_ /\ (L[j]).b.bs = (M[j]).b.bs from fun j h1 h2 lj => by
    rcases Nat.lt_or_ge j k with q | q
    ·exact hs.out j h1 h2 q
    ·obtain rfl : j = k := by omega
     exact h)
   have NF := zdm (fun h : frms L = frms M => show (L[k]).at_ = (M[k]).at_ /\ (L[k]).b.bs = (M[k]).b.bs by
    have e1 := jV L k kl
    have e2 := jV M k km
    simp only [h] at e1
    rw [e1] at e2
    exact ⟨congrArg Frm.at_ e2, congrArg Frm.bs e2⟩)
   have q0 : (0 : Int) <= (k : Int) := by omega
   have q5 : (k : Int) < (n : Int) := by omega
   have tn : (k : Int).toNat = k := by omega
   have wk : IntKind.i64.wrap ((k : Int) + 1) = (k : Int) + 1 := IntWalk.i64_in _ (by omega)
   generalize L[k] = x at *
   generalize M[k] = y at *
   obtain ⟨xt, xA, xc, xs⟩ := x
   obtain ⟨yt, yA, yc, ys⟩ := y
   dsimp only at y1 y2 z1 z2 cx cy rx ry NS NF
   clear F1 F2 l1 l2 hs
   by_cases ct : xt = yt
   case neg =>
    have EN := zdm (fun (V : World) (b : Below W.heap.size W V) => Jo (l := frms L) (m := frms M) (fun z => ct (NF.out z).1) b)
    clear NS NF rx ry
    go_upto_region 6 with fail
    refine jE 25 (by kernel_rfl) (by kernel_rfl) ?_
    simp only [List.take_succ_cons, List.take_zero, List.drop_succ_cons, List.drop_zero]
    repeat (first | go_big_quiet_step (fail) | quiet_step (fail))
    refine wpQuiet_nil ?_
    intro _ hw'
    obtain ⟨nq, hw''⟩ := hw'
    subst hw''
    have BN := zdm (below_drewN hb.out nq)
    go_wp2_with fail
    go_ret
    exact EN.out _ BN.out
   subst ct
   by_cases cb : xs = ys
   ·subst cb
    have NS := zdm (NS.out ⟨rfl, rfl⟩)
    clear NF rx ry
    go_upto_region 6 with fail
    refine jE 25 (by kernel_rfl) (by kernel_rfl) ?_
    simp only [List.take_succ_cons, List.take_zero, List.drop_succ_cons, List.drop_zero]
    repeat (first | go_big_quiet_step (fail) | quiet_step (fail))
    refine wpQuiet_nil ?_
    intro _ hw'
    obtain ⟨nq, hw''⟩ := hw'
    subst hw''
    have BN := zdm (below_drewN hb.out nq)
    go_wp2_with fail
    go_roundw
    case rel => exact ⟨k + 1, by omega, by go_num, NS, BN⟩
    case measure => simp [intOf]; omega
   ·have cz : ((barr xs).toList == (barr ys).toList) = false := by rw [ZH]; exact decide_eq_false (fun z => cb (barr_inj rx.out ry.out z))
    have EN := zdm (fun (V : World) (b : Below W.heap.size W V) => Jo (l := frms L) (m := frms M) (fun z => cb (NF.out z).2) b)
    clear NS NF rx ry cb
    go_upto_region 6 with fail
    refine jE 25 (by kernel_rfl) (by kernel_rfl) ?_
    simp only [List.take_succ_cons, List.take_zero, List.drop_succ_cons, List.drop_zero]
    repeat (first | go_big_quiet_step (fail) | quiet_step (fail))
    refine wpQuiet_nil ?_
    intro _ hw'
    obtain ⟨nq, hw''⟩ := hw'
    subst hw''
    have BN := zdm (below_drewN hb.out nq)
    go_wp2_with fail
    go_ret
    exact EN.out _ BN.out
  ·have e : k = n := by omega
   subst e
   have q5 : ¬ (k : Int) < (k : Int) := by omega
   have EQ : Hid (frms L = frms M) := zdm (frms_ext (by rw [<- HN.out, <- HM.out]) (fun j h1 h2 => hs.out j h1 h2 (by have := HN.out; omega)))
   clear hs
   go_wp2_with fail
   go_ret
   exact samR_yes EQ.out hb.out
end
end Go.Proofs.YtmaofighbpnbiaaGreatDoor
/- The law's kept, walked. -/
namespace Go.Proofs.YtmaofighbpnbiaaGreatDoor
open Go Go.RowKit Go.Sort
set_option linter.unusedSimpArgs false
set_option linter.unusedVariables false
section
theorem ZA (M : List RM) : frms (M.map RM.fa) = rmF M := by unfold frms rmF; rw [List.map_map]; rfl
theorem RoomD.mark {w : World} {B : Nat} {A : Option Addr} {c : Nat} {M : List RM} (h : RoomD w B A c M) {x : RM} (hx : x ∈ M) (j : Nat) (h1 : x.bs.length <= j) (h2 : j < x.bs.length + 9) : w.cell? ⟨x.g, j, none⟩ = some (.int .u8 165) := by
 have u : (bts (x.bs ++ List.replicate 9 165))[j]? = some (.int .u8 165) := by
  unfold bts
  rw [List.getElem?_map, List.getElem?_append_right h1, List.getElem?_replicate, if_pos (by omega)]
  rfl
 obtain ⟨ad, e, _, k⟩ := (h.mks x hx).2 (fun z => by rw [z] at u; simp at u)
 cases e
 have := k j _ u
 rw [Addr.add_lit, Nat.zero_add] at this
 exact this
theorem z77_at : ∀ (k j i : Nat), j < k -> i < 2 -> (z77 k)[j * 2 + i]? = ([Value.int .i64 (-77), Value.slice none 0 0])[i]?
 | k + 1, 0, i, _, hi => by
  have e : z77 (k + 1) = [Value.int .i64 (-77), Value.slice none 0 0] ++ z77 k := rfl
  rw [e, Nat.zero_mul, Nat.zero_add, List.getElem?_append_left (by simpa using hi)]
 | k + 1, j + 1, i, hj, hi => by
  have e : z77 (k + 1) = [Value.int .i64 (-77), Value.slice none 0 0] ++ z77 k := rfl
  rw [e, List.getElem?_append_right (by show 2 <= _; omega)]
  have := z77_at k j i (by omega) hi
  rw [<- this]
  congr 1
  show (j + 1) * 2 + i - 2 = _
  omega
theorem RoomD.behind {w : World} {B : Nat} {A : Option Addr} {c : Nat} {M : List RM} (h : RoomD w B A c M) (j : Nat) (hj : j < 9) : ∃ ad, A = some ad /\ w.cell? (ad.add ((M.length + j) * 2)) = some (.int .i64 (-77)) /\ w.cell? ⟨(ad.add ((M.length + j) * 2)).block, (ad.add ((M.length + j) * 2)).off + 1, none⟩ = some (.slice none 0 0) := by
 have g : ∀ i, i < 2 -> (rmV M ++ z77 9)[(M.length + j) * 2 + i]? = ([Value.int .i64 (-77), Value.slice none 0 0])[i]? := fun i hi => by
  rw [List.getElem?_append_right (by rw [xg]; omega), xg, show (M.length + j) * 2 + i - M.length * 2 = j * 2 + i by omega]
  exact z77_at 9 j i hj hi
 obtain ⟨ad, e, _, k⟩ := h.row (fun z => by have := congrArg List.length z; rw [List.length_append, xg, z77_len] at this; simp at this)
 refine ⟨ad, e, k _ _ (g 0 (by decide)), ?_⟩
 rw [vm (ad.add ((M.length + j) * 2)) 1 (by decide), jF]
 exact k _ _ (g 1 (by decide))
set_option maxHeartbeats 16000000 in
set_option maxRecDepth 100000 in
theorem law_kept (A : Option Addr) (c : Nat) (M : List RM) (B : Nat) (A2 : Option Addr) (c2 : Nat) (L : List FA) (B2 : Nat) (W : World) (R : RoomD W B A c M) (D : FrsD W B2 A2 c2 L) (hB : B <= W.heap.size) (hB2 : B2 <= W.heap.size) (e : rmF M = frms L) (hl : M.length <= 134217728) (hb : ∀ x ∈ M, x.bs.length <= 134217728) :
  Calls Tryz.prog 17 #[.slice A M.length c, .slice A2 L.length c2] W fun e w' => e = .returned (.bool true) /\ Below W.heap.size W w' := by
 have SM := Zz A A2 c c2 (M.map RM.fa) L B B2 W R.frs D hB hB2
 rw [ZA, List.length_map] at SM
 have SM : Hid (Calls Tryz.prog 21 #[.slice A M.length c, .slice A2 L.length c2] W fun e w' => e = .returned (.bool true) /\ Below W.heap.size W w') := zdm (SM.mono (fun e' w' ⟨b, e1, e2, e3⟩ => ⟨by rw [e1, e2.2 e], e3⟩))
 have HR := zdm R
 have HB := zdm hB
 have HBS := zdm hb
 obtain ⟨n, hn⟩ : ∃ n, n = M.length := ⟨_, rfl⟩
 have HN := zdm hn
 have cp : n + 9 <= c := by have := R.cap; omega
 rw [<- hn] at SM hl ⊢
 generalize L.length = m at *
 clear R D hB hB2 e hb hn
 go_enter Tryz.func17, Tryz.ntmps17
 go_wp2_with fail
 refine SM.out.mono ?_; rintro e w1 ⟨rfl, hb1⟩
 have B1 := zdm hb1
 clear SM hb1
 go_wp2_with fail
 go_loopw [6] (fun s6 wr => ∃ (i : Nat), i <= n /\ s6 = .int .i64 (i : Int) /\ Hid (Below W.heap.size W wr)) (fun s6 _ => n - (intOf s6).toNat)
 case atStart => exact ⟨0, Nat.zero_le _, rfl, B1⟩
 case round =>
  obtain ⟨i, hi, rfl, hw⟩ := hrel
  by_cases lt : i < n
  ·have il : i < M.length := by rw [<- HN.out]; exact lt
   have RD := HR.out.below hw.out HB.out
   obtain ⟨ad, rfl, lb, z1, z2⟩ := RD.frs.at i (by rw [List.length_map]; exact il)
   simp only [List.getElem_map] at z1 z2
   have mx := List.getElem_mem il
   have mc := (RD.mks _ mx).1
   have MK := zdm (fun (wr : World) (hw : Below W.heap.size W wr) j h1 h2 => (HR.out.below hw HB.out).mark mx j h1 h2)
   have bl := HBS.out _ mx
   generalize M[i] = x at *
   change wr.cell? ⟨(ad.add (i * 2)).block, (ad.add (i * 2)).off + 1, none⟩ = some (.slice (some ⟨x.g, 0, none⟩) x.bs.length x.c) at z2
   obtain ⟨xn, hxn⟩ : ∃ xn, xn = x.bs.length := ⟨_, rfl⟩
   rw [<- hxn] at z2 mc MK bl
   generalize x.g = g at *
   generalize x.c = xc at *
   have q0 : (0 : Int) <= (i : Int) := by omega
   have q5 : (i : Int) < (n : Int) := by omega
   have tn : (i : Int).toNat = i := by omega
   have wk : IntKind.i64.wrap ((i : Int) + 1) = (i : Int) + 1 := IntWalk.i64_in _ (by omega)
   have w9 : IntKind.i64.wrap ((xn : Int) + 9) = (xn : Int) + 9 := IntWalk.i64_in _ (by omega)
   have x0 : (0 : Int) <= (xn : Int) + 9 := by omega
   have x1 : (xn : Int) + 9 <= (xc : Int) := by omega
   have xt : ((xn : Int) + 9).toNat = xn + 9 := by omega
   clear RD lb z1 mx hxn
   go_wp2_with fail
   go_loopw [9] (fun s9 wr => ∃ (k : Nat), xn <= k /\ k <= xn + 9 /\ s9 = .int .i64 (k : Int) /\ Hid (Below W.heap.size W wr)) (fun s9 _ => xn + 9 - (intOf s9).toNat)
   case atStart => exact ⟨xn, Nat.le_refl _, by omega, rfl, hw⟩
   case round =>
    obtain ⟨k, k0, k1, rfl, hq⟩ := hrel
    by_cases lk : k < xn + 9
    ·have cm := MK.out wr hq.out k k0 lk
     have p0 : (0 : Int) <= (k : Int) := by omega
     have p5 : (k : Int) < (xn : Int) + 9 := by omega
     have p6 : (k : Int) < ((xn + 9 : Nat) : Int) := by omega
     have pn : (k : Int).toNat = k := by omega
     have wj : IntKind.i64.wrap ((k : Int) + 1) = (k : Int) + 1 := IntWalk.i64_in _ (by omega)
     go_wp2_with fail
     go_roundw
     case rel => exact ⟨k + 1, by omega, by omega, by go_num, hq⟩
     case measure => simp [intOf]; omega
    ·have e : k = xn + 9 := by omega
     subst e
     have p5 : ¬ ((xn + 9 : Nat) : Int) < (xn : Int) + 9 := by omega
     clear k0 k1
     go_wp2_with fail
     go_roundw
     case rel => exact ⟨i + 1, by omega, by go_num, hq⟩
     case measure => simp [intOf]; omega
  ·have e : i = n := by omega
   subst e
   have q5 : ¬ (i : Int) < (i : Int) := by omega
   obtain ⟨ad, rfl, _⟩ := HR.out.behind 0 (by decide)
   have w9 : IntKind.i64.wrap ((i : Int) + 9) = (i : Int) + 9 := IntWalk.i64_in _ (by omega)
   have x0 : (0 : Int) <= (i : Int) + 9 := by omega
   have x1 : (i : Int) + 9 <= (c : Int) := by omega
   have xt : ((i : Int) + 9).toNat = i + 9 := by omega
   go_wp2_with fail
   go_loopw [11] (fun s11 wr => ∃ (k : Nat), i <= k /\ k <= i + 9 /\ s11 = .int .i64 (k : Int) /\ Hid (Below W.heap.size W wr)) (fun s11 _ => i + 9 - (intOf s11).toNat)
   case atStart => exact ⟨i, Nat.le_refl _, by omega, rfl, hw⟩
   case round =>
    obtain ⟨k, k0, k1, rfl, hq⟩ := hrel
    by_cases lk : k < i + 9
    ·obtain ⟨ae, e, z1, z2⟩ := (HR.out.below hq.out HB.out).behind (k - i) (by omega)
     cases e
     rw [show M.length + (k - i) = k by have := HN.out; omega] at z1 z2
     have p0 : (0 : Int) <= (k : Int) := by omega
     have p6 : (k : Int) < ((i + 9 : Nat) : Int) := by omega
     have p7 : (k : Int) < (i : Int) + 9 := by omega
     have pn : (k : Int).toNat = k := by omega
     have wj : IntKind.i64.wrap ((k : Int) + 1) = (k : Int) + 1 := IntWalk.i64_in _ (by omega)
     go_wp2_with fail
     go_roundw
     case rel => exact ⟨k + 1, by omega, by omega, by go_num, hq⟩
     case measure => simp [intOf]; omega
    ·have e : k = i + 9 := by omega
     subst e
     have p5 : ¬ ((i + 9 : Nat) : Int) < ((i + 9 : Nat) : Int) := by omega
     have p7 : ¬ (i : Int) + 9 < (i : Int) + 9 := by omega
     clear k0 k1
     go_wp2_with fail
     go_ret
     exact ⟨rfl, hq.out⟩
end
end Go.Proofs.YtmaofighbpnbiaaGreatDoor
/- Rows of frames in segments (memory). -/
namespace Go.Proofs.YtmaofighbpnbiaaGreatDoor
open Go Go.RowKit Go.Sort
set_option linter.unusedSimpArgs false
set_option linter.unusedVariables false
section
structure Seg where
 g : Nat
 base : Int
 L : List FA
def segF (S : List Seg) : List FA := S.flatMap fun s => cpF s.g s.base 0 s.L
structure SegS (LO : Nat) (w : World) (v : Value) (S : List Seg) : Prop where
 own : w.ownsRow LO 47 2 v (segF S).length ((segF S).flatMap frV)
 rows : ∀ s ∈ S, LO <= s.g /\ BRow w s.g (zk s.L).length (zk s.L)
 ok : ∀ s ∈ S, (zk s.L).length <= 140737488355328 /\ ∀ x ∈ s.L, Byt x.b.bs /\ -9223372036854775808 <= x.at_ + s.base /\ x.at_ + s.base <= 9223372036854775807
 dis : (S.map (·.g)).Nodup
section
variable {LO : Nat} {w w' : World} {v v' : Value} {S : List Seg}
theorem SegS.nil (LO : Nat) (w : World) : SegS LO w (.slice none 0 0) [] := ⟨⟨rfl, Or.inl ⟨rfl, rfl⟩⟩, fun x m => (by cases m), fun x m => (by cases m), List.nodup_nil⟩
theorem SegS.below (h : SegS LO w v S) (hb : Below w.heap.size w w') : SegS LO w' v S := ⟨zT h.own hb, fun s m => ⟨(h.rows s m).1, (h.rows s m).2.keep (hb.block _ (h.rows s m).2.lt)⟩, h.ok, h.dis⟩
end
end
end Go.Proofs.YtmaofighbpnbiaaGreatDoor
/- Frames that are written over (memory): where their bytes lie, what over leaves. -/
namespace Go.Proofs.YtmaofighbpnbiaaGreatDoor
open Go Go.RowKit Go.Sort
set_option linter.unusedSimpArgs false
set_option linter.unusedVariables false
section
def ovB (i : Nat) : Int := 200 + ((i % 50 : Nat) : Int)
def ovA (i : Nat) : Int := 7 + ((i % 3 : Nat) : Int)
def SpR (x y : FA) : Prop := ∀ g o o', x.b.A = some ⟨g, o, none⟩ -> y.b.A = some ⟨g, o', none⟩ -> x.b.bs.length = 0 \/ y.b.bs.length = 0 \/ o + x.b.bs.length <= o'
structure SpanD (LO HI : Nat) (w : World) (Z : List FA) : Prop where
 adr : ∀ x ∈ Z, ∃ g o, x.b.A = some ⟨g, o, none⟩ /\ x.b.c = x.b.bs.length /\ LO <= g /\ g < HI /\ ∃ cur, w.heap[g]? = some (.cells cur 5 (0, 0)) /\ o + x.b.bs.length <= cur.size
 dis : Z.Pairwise SpR
theorem vE (g : Nat) (base : Int) : ∀ (o : Nat) (l : List FA), ∀ x ∈ cpF g base o l, ∃ o', x.b.A = some ⟨g, o', none⟩ /\ x.b.c = x.b.bs.length /\ (x.b.bs.length = 0 \/ o <= o') /\ o' + x.b.bs.length <= o + (zk l).length
 | _, [], x, m => by cases m
 | o, y :: l, x, m => by
  have f : (zk (y :: l)).length = y.b.bs.length + (zk l).length := by unfold zk; rw [List.flatMap_cons, List.length_append]
  rw [cpF] at m
  rcases List.mem_cons.1 m with rfl | m
  ·by_cases z : y.b.bs.length = 0
   ·exact ⟨0, by simp only; rw [if_pos z], rfl, Or.inl z, by show 0 + y.b.bs.length <= _; omega⟩
   ·exact ⟨o, by simp only; rw [if_neg z], rfl, Or.inr (Nat.le_refl _), by show o + y.b.bs.length <= _; omega⟩
  ·obtain ⟨o', a, b, c, d⟩ := vE g base (o + y.b.bs.length) l x m
   exact ⟨o', a, b, by omega, by omega⟩
theorem cp_dis (g : Nat) (base : Int) : ∀ (o : Nat) (l : List FA), (cpF g base o l).Pairwise SpR
 | _, [] => List.Pairwise.nil
 | o, y :: l => by
  rw [cpF]
  refine List.Pairwise.cons (fun x m g' p p' e1 e2 => ?_) (cp_dis g base _ l)
  obtain ⟨o', a, b, c, d⟩ := vE g base _ l x m
  rw [a] at e2
  injection e2 with e2
  injection e2 with e3 e4
  simp only at e1
  injection e1 with e1
  injection e1 with e5 e6
  show y.b.bs.length = 0 \/ _ \/ p + y.b.bs.length <= p'
  by_cases z : y.b.bs.length = 0
  ·exact Or.inl z
  ·rw [if_neg z] at e6
   rcases c with c | c
   ·exact Or.inr (Or.inl c)
   ·exact Or.inr (Or.inr (by omega))
theorem SegS.spans {LO : Nat} {w : World} {v : Value} {S : List Seg} (h : SegS LO w v S) : SpanD LO w.heap.size w (segF S) := by
 refine ⟨fun x m => ?_, ?_⟩
 ·obtain ⟨s, ms, mx⟩ := List.mem_flatMap.1 m
  obtain ⟨r1, r2⟩ := h.rows s ms
  obtain ⟨o', a, b, c, d⟩ := vE s.g s.base 0 s.L x mx
  have lt := r2.lt
  obtain ⟨_, cur, e1, e2, _⟩ := r2
  exact ⟨s.g, o', a, b, r1, lt, cur, e1, by omega⟩
 ·have go : ∀ S : List Seg, (S.map (·.g)).Nodup -> (segF S).Pairwise SpR := by
   intro S
   induction S with
   | nil => intro _; exact List.Pairwise.nil
   | cons s S ih =>
    intro nd
    rw [List.map_cons, List.nodup_cons] at nd
    unfold segF
    rw [List.flatMap_cons, List.pairwise_append]
    refine ⟨cp_dis _ _ _ _, ih nd.2, fun x mx y my g o o' e1 e2 => ?_⟩
    obtain ⟨t, mt, my⟩ := List.mem_flatMap.1 my
    obtain ⟨p, a, _⟩ := vE s.g s.base 0 s.L x mx
    obtain ⟨q, b, _⟩ := vE t.g t.base 0 t.L y my
    rw [a] at e1
    rw [b] at e2
    injection e1 with e1
    injection e1 with e1
    injection e2 with e2
    injection e2 with e2
    exact absurd (List.mem_map_of_mem (f := (·.g)) mt) (by rw [e2, <- e1]; exact nd.1)
  exact go S h.dis
theorem SpanD.below {LO HI : Nat} {w w' : World} {Z : List FA} (h : SpanD LO HI w Z) (k : ∀ q, LO <= q -> q < HI -> ∀ cur, w.heap[q]? = some (.cells cur 5 (0, 0)) -> w'.heap[q]? = w.heap[q]?) : SpanD LO HI w' Z := ⟨fun x m => by
 obtain ⟨g, o, a, b, c, d, cur, e, f⟩ := h.adr x m
 exact ⟨g, o, a, b, c, d, cur, (k g c d cur e).trans e, f⟩, h.dis⟩
theorem SpanD.set {LO HI : Nat} {w : World} {Z : List FA} (h : SpanD LO HI w Z) {g j : Nat} {cur : Array Value} (e : w.heap[g]? = some (.cells cur 5 (0, 0))) (u : Value) : SpanD LO HI (w.setCell ⟨g, j, none⟩ u) Z := ⟨fun x m => by
 obtain ⟨g', o, a, b, c, d, cu, e', f⟩ := h.adr x m
 by_cases q : g' = g
 ·subst q
  rw [e] at e'
  cases e'
  exact ⟨g', o, a, b, c, d, cur.setIfInBounds j u, heap_setCell_same w g' j cur _ u e, by simpa using f⟩
 ·exact ⟨g', o, a, b, c, d, cu, (heap_setCell_other w _ _ _ q).trans e', f⟩, h.dis⟩
theorem SpanD.apart {LO HI : Nat} {w : World} {Z : List FA} (h : SpanD LO HI w Z) {i j : Nat} (hi : i < Z.length) (hj : j < Z.length) (ne : i ≠ j) {g o g' o' : Nat} (e1 : (Z[i]).b.A = some ⟨g, o, none⟩) (e2 : (Z[j]).b.A = some ⟨g', o', none⟩) {k l : Nat} (hk : k < (Z[i]).b.bs.length) (hl : l < (Z[j]).b.bs.length) : (⟨g, o + k, none⟩ : Addr) ≠ ⟨g', o' + l, none⟩ := by
 intro z
 injection z with z1 z2
 subst z1
 have pw := List.pairwise_iff_getElem.1 h.dis
 rcases Nat.lt_or_gt_of_ne ne with lt | lt
 ·rcases pw i j hi hj lt g o o' e1 e2 with a | a | a <;> omega
 ·rcases pw j i hj hi lt g o' o e2 e1 with a | a | a <;> omega
structure Ov1 (LO HI : Nat) (w0 : World) (r : Nat) (Z : List FA) (i k : Nat) (w : World) : Prop where
 row : w.heap[r]? = w0.heap[r]?
 spn : SpanD LO HI w Z
 st : ∀ j, (hj : j < Z.length) -> ∀ g o, (Z[j]).b.A = some ⟨g, o, none⟩ -> ∀ l, l < (Z[j]).b.bs.length -> (j < i \/ (j = i /\ l < k)) -> w.cell? ⟨g, o + l, none⟩ = some (.int .u8 (ovB j))
 far : ∀ q, (q < LO \/ HI <= q) -> w.heap[q]? = w0.heap[q]?
 os : w.os = w0.os
 tape : w.tape = w0.tape
 output : w.output = w0.output
 size : w.heap.size = w0.heap.size
theorem Ov1.init {LO HI : Nat} {w0 : World} {Z : List FA} (r : Nat) (h : SpanD LO HI w0 Z) : Ov1 LO HI w0 r Z 0 0 w0 := ⟨rfl, h, fun j hj g o _ l _ z => by omega, fun _ _ => rfl, rfl, rfl, rfl, rfl⟩
theorem Ov1.next {LO HI : Nat} {w0 w : World} {r : Nat} {Z : List FA} {i : Nat} (hi : i < Z.length) (h : Ov1 LO HI w0 r Z i (Z[i]).b.bs.length w) : Ov1 LO HI w0 r Z (i + 1) 0 w := ⟨h.row, h.spn, fun j hj g o e l hl z => h.st j hj g o e l hl (by
 rcases Nat.lt_or_ge j i with q | q
 ·exact Or.inl q
 ·obtain rfl : j = i := by omega
  exact Or.inr ⟨rfl, hl⟩), h.far, h.os, h.tape, h.output, h.size⟩
theorem Ov1.store {LO HI : Nat} {w0 w : World} {r : Nat} {Z : List FA} {i k g o : Nat} (h : Ov1 LO HI w0 r Z i k w) (hi : i < Z.length) (hk : k < (Z[i]).b.bs.length) (e : (Z[i]).b.A = some ⟨g, o, none⟩) {cr : Array Value} (hr : w0.heap[r]? = some (.cells cr 47 (0, 0))) :
  (∃ u, w.cell? ⟨g, o + k, none⟩ = some u) /\ w.frozen? ⟨g, o + k, none⟩ = false /\ Ov1 LO HI w0 r Z i (k + 1) (w.setCell ⟨g, o + k, none⟩ (.int .u8 (ovB i))) := by
 obtain ⟨g', o', e', c1, c2, c3, cur, e1, e2⟩ := h.spn.adr _ (List.getElem_mem hi)
 rw [e] at e'
 injection e' with e'
 injection e' with q1 q2
 subst q1
 subst q2
 have ne : r ≠ g := fun z => by rw [z] at hr; rw [<- z, h.row, z, hr] at e1; cases e1
 have cl : w.cell? ⟨g, o + k, none⟩ = cur[o + k]? := cell_of_row w g (o + k) cur _ (0, 0) e1
 have lt : o + k < cur.size := by omega
 rw [Array.getElem?_eq_getElem lt] at cl
 refine ⟨⟨_, cl⟩, frozen_of_row w g (o + k) cur _ e1, ⟨(heap_setCell_other w _ _ _ ne).trans h.row, h.spn.set e1 _, fun j hj g2 o2 e3 l hl z => ?_, fun q hq => (heap_setCell_other w _ _ _ (fun z => by have z : q = g := z; omega)).trans (h.far q hq), h.os, h.tape, h.output, by simpa using h.size⟩⟩
 by_cases same : j = i /\ l = k
 ·obtain ⟨rfl, rfl⟩ := same
  rw [e] at e3
  cases e3
  exact World.cell?_setCell_same w ⟨g, o + l, none⟩ _ cl
 ·have ap : (⟨g, o + k, none⟩ : Addr) ≠ ⟨g2, o2 + l, none⟩ := by
   by_cases ij : i = j
   ·subst ij
    rw [e] at e3
    cases e3
    intro q
    injection q with q1 q2
    exact same ⟨rfl, by omega⟩
   ·exact h.spn.apart hi hj ij e e3 hk hl
  exact (World.cell?_setCell_other w _ _ _ ap).trans (h.st j hj g2 o2 e3 l hl (by omega))
theorem vF {w : World} {LO r n c : Nat} {R : List FA} (o : w.ownsRow LO 47 2 (.slice (some ⟨r, 0, none⟩) n c) n (R.flatMap frV)) (i : Nat) (hi : i < R.length) : w.cell? ⟨r, i * 2, none⟩ = some (.int .i64 (R[i]).at_) /\ w.cell? ⟨r, i * 2 + 1, none⟩ = some (.slice (R[i]).b.A (R[i]).b.bs.length (R[i]).b.c) /\ ∀ j, w.frozen? ⟨r, j, none⟩ = false := by
 have ln : n * 2 = R.length * 2 := by have := o.1; rw [vt] at this; omega
 obtain ⟨a, b⟩ := Qu R i hi
 exact ⟨(o.cellAt _ (by omega)).trans a, (o.cellAt _ (by omega)).trans b, fun j => o.frozenAt j⟩
theorem fr_set (R : List FA) (i : Nat) (hi : i < R.length) (x : FA) (ht : x.at_ = (R[i]).at_) : (R.flatMap frV).set (i * 2 + 1) (.slice x.b.A x.b.bs.length x.b.c) = (R.set i x).flatMap frV := by
 have d : R = R.take i ++ R[i] :: R.drop (i + 1) := by rw [<- List.drop_eq_getElem_cons hi, List.take_append_drop]
 have s : R.set i x = R.take i ++ x :: R.drop (i + 1) := by
  conv => lhs; rw [d]
  rw [List.set_append_right _ _ (by rw [List.length_take]; omega), List.length_take, Nat.min_eq_left (by omega), Nat.sub_self]
  rfl
 rw [s]
 conv => lhs; rw [d]
 rw [List.flatMap_append, List.flatMap_append, List.flatMap_cons, List.flatMap_cons]
 have l : ((R.take i).flatMap frV).length = i * 2 := by rw [vt, List.length_take, Nat.min_eq_left (by omega)]
 rw [List.set_append_right _ _ (by omega), l, show i * 2 + 1 - i * 2 = 1 by omega]
 simp only [frV, List.cons_append, List.set_cons_succ, List.set_cons_zero, ht]
def ovL (n i k : Nat) : List Int := List.replicate n (ovB i) ++ List.replicate k (ovA i)
theorem vG (n i k : Nat) : (ovL n i k).length = n + k := by unfold ovL; rw [List.length_append, List.length_replicate, List.length_replicate]
structure Ov2 (LO HI : Nat) (w0 w1 : World) (r n c : Nat) (Z : List FA) (i k : Nat) (R : List FA) (w : World) : Prop where
 own : w.ownsRow LO 47 2 (.slice (some ⟨r, 0, none⟩) n c) n (R.flatMap frV)
 len : R.length = Z.length
 at_ : ∀ j, (hj : j < R.length) -> (hz : j < Z.length) -> (R[j]).at_ = (Z[j]).at_
 don : ∀ j, (hj : j < R.length) -> (hz : j < Z.length) -> j < i \/ (j = i /\ 0 < k) -> ∃ g c, (R[j]).b = ⟨some ⟨g, 0, none⟩, c, ovL (Z[j]).b.bs.length j (if j = i then k else 70)⟩ /\ OneR w w1.heap.size ⟨0, g, c, ovL (Z[j]).b.bs.length j (if j = i then k else 70), []⟩
 no : ∀ j, (hj : j < R.length) -> (hz : j < Z.length) -> i < j \/ (j = i /\ k = 0) -> (R[j]).b = (Z[j]).b
 dis : ∀ j, (hj : j < R.length) -> (hi : i < R.length) -> j < i -> 0 < k -> (R[j]).b.A ≠ (R[i]).b.A
 old : ∀ q, q < w1.heap.size -> q ≠ r -> w.heap[q]? = w1.heap[q]?
 size : w1.heap.size <= w.heap.size
 os : w.os = w0.os
 tape : w.tape = w0.tape
 output : w.output = w0.output
end
end Go.Proofs.YtmaofighbpnbiaaGreatDoor
/- Frames that are written over (memory): one byte behind. -/
namespace Go.Proofs.YtmaofighbpnbiaaGreatDoor
open Go Go.RowKit Go.Sort
set_option linter.unusedSimpArgs false
set_option linter.unusedVariables false
section
theorem zao (n i k : Nat) : ovL n i k ++ [ovA i] = ovL n i (k + 1) := by unfold ovL; rw [List.append_assoc, <- List.replicate_succ']
theorem Ov2.init {LO HI : Nat} {w0 w1 : World} {r n c : Nat} {Z : List FA} (own : w0.ownsRow LO 47 2 (.slice (some ⟨r, 0, none⟩) n c) n (Z.flatMap frV)) (h : Ov1 LO HI w0 r Z Z.length 0 w1) : Ov2 LO HI w0 w1 r n c Z 0 0 Z w1 :=
 ⟨kE own h.row, rfl, fun _ _ _ => rfl, fun j hj hz q => by omega, fun _ _ _ _ => rfl, fun j hj hi q _ => by omega, fun _ _ _ => rfl, Nat.le_refl _, h.os, h.tape, h.output⟩
theorem Ov2.next {LO HI : Nat} {w0 w1 w : World} {r n c : Nat} {Z R : List FA} {i : Nat} (h : Ov2 LO HI w0 w1 r n c Z i 70 R w) : Ov2 LO HI w0 w1 r n c Z (i + 1) 0 R w :=
 ⟨h.own, h.len, h.at_, fun j hj hz q => by
  obtain ⟨g, c, a, b⟩ := h.don j hj hz (by omega)
  refine ⟨g, c, ?_, ?_⟩
  ·rw [if_neg (by omega)]; split at a <;> exact a
  ·rw [if_neg (by omega)]; split at b <;> exact b, fun j hj hz q => h.no j hj hz (by omega), fun j hj hi q z => by omega, h.old, h.size, h.os, h.tape, h.output⟩
theorem Ov2.run {LO HI : Nat} {w0 w1 w : World} {r n c : Nat} {Z R : List FA} {i k : Nat} (h : Ov2 LO HI w0 w1 r n c Z i k R w) (h1 : Ov1 LO HI w0 r Z Z.length 0 w1) (hi : i < Z.length) (ri : i < R.length) (len : (Z[i]).b.bs.length <= 1048576) (hk : k < 70) (hr : ∃ cr, w0.heap[r]? = some (.cells cr 47 (0, 0))) :
  (R[i]).b.bs.length = (Z[i]).b.bs.length + k /\ ∃ g' c' w3, (Builtin.append_ #[27, 27] 27 #[.slice (R[i]).b.A (R[i]).b.bs.length (R[i]).b.c, .slice (some ⟨w.heap.size, 0, none⟩) 1 1]).run Tryz.prog (w.alloc (.cells #[.int .u8 (ovA i)] 5)) = .ok (.slice (some ⟨g', 0, none⟩) ((R[i]).b.bs.length + 1) c') w3 /\
   OneR w3 w1.heap.size ⟨0, g', c', ovL (Z[i]).b.bs.length i (k + 1), []⟩ /\ (∀ q, q < w.heap.size -> (0 < k -> (R[i]).b.A ≠ some ⟨q, 0, none⟩) -> w3.heap[q]? = w.heap[q]?) /\ ((0 < k /\ (R[i]).b.A = some ⟨g', 0, none⟩) \/ w.heap.size <= g') /\ w.heap.size <= w3.heap.size /\ w3.os = w.os /\ w3.tape = w.tape /\ w3.output = w.output := by
 have bu : Below w.heap.size w (w.alloc (.cells #[.int .u8 (ovA i)] 5)) := (Below.refl _ w).alloc (Nat.le_refl _) _
 rcases Nat.eq_zero_or_pos k with k0 | kp
 ·subst k0
  have e := h.no i ri hi (Or.inr ⟨rfl, rfl⟩)
  rw [e]
  obtain ⟨g, o, a, b, c1, c2, cur, e1, e2⟩ := h1.spn.adr _ (List.getElem_mem hi)
  have ne : g ≠ r := fun z => by
   obtain ⟨cr, hr⟩ := hr
   rw [z, h1.row, hr] at e1
   cases e1
  have lt1 : g < w1.heap.size := (Array.getElem?_eq_some_iff.1 e1).1
  have keep : (w.alloc (.cells #[.int .u8 (ovA i)] 5)).heap[g]? = w1.heap[g]? := (bu.block g (Nat.lt_of_lt_of_le lt1 h.size)).trans (h.old g lt1 ne)
  obtain ⟨i0, hi0, hz0, hz1, hz2⟩ := info_parts xv
  obtain ⟨v', w3, r1, r2, r3⟩ := run_append_arg_grows (P := Tryz.prog) (w.alloc (.cells #[.int .u8 (ovA i)] 5)) 27 27 5 i0 (.int .u8 0) 1 1 Tryz.underlying27 hi0 hz0 hz1 hz2 rfl (by decide) ⟨g, o, none⟩ (Z[i]).b.bs.length (Z[i]).b.c (bts (List.replicate (Z[i]).b.bs.length (ovB i))) (by rw [xB, List.length_replicate, Nat.mul_one]) (fun j u hj => by
    have lj := (List.getElem?_eq_some_iff.1 hj).1
    rw [xB, List.length_replicate] at lj
    have eu : u = .int .u8 (ovB i) := by
     unfold bts at hj
     rw [List.getElem?_map, List.getElem?_replicate, if_pos lj] at hj
     simpa using hj.symm
    rw [Addr.add_lit, eu]
    exact (World.cell?_of_block (a := ⟨g, o + j, none⟩) keep).trans (h1.st i hi g o a j lj (Or.inl hi))) ⟨w.heap.size, 0, none⟩ 1 1 [.int .u8 (ovA i)] rfl (news1 w _ _) (by rw [b]; omega) (by unfold maxLen; omega) (by omega)
  obtain ⟨g', c', e'⟩ := QN r2 (fun z => by
   have := xf r2 z
   rw [z] at this
   injection this with _ q _
   omega)
  subst e'
  refine ⟨by rw [Nat.add_zero], g', c', w3, by rw [a]; exact r1, ?_, fun q lq _ => ?_, Or.inr ?_, Nat.le_trans bu.size r3.size, r3.os, r3.tape, r3.output⟩
  ·unfold OneR
   have ll : (ovL (Z[i]).b.bs.length i (0 + 1) ++ []).length = (Z[i]).b.bs.length + 1 := by rw [List.append_nil, vG]
   have lb : bts (ovL (Z[i]).b.bs.length i (0 + 1) ++ []) = bts (List.replicate (Z[i]).b.bs.length (ovB i)) ++ [.int .u8 (ovA i)] := by
    rw [List.append_nil, <- zao, kv]
    unfold ovL
    rw [List.replicate_zero, List.append_nil]
    rfl
   simp only [ll, lb]
   exact qO r2 (Nat.le_trans h.size bu.size)
  ·exact (r3.block q (Nat.lt_of_lt_of_le lq bu.size) (by simp)).trans (bu.block q lq)
  ·exact Nat.le_trans bu.size (kD r2).1
 ·obtain ⟨g, c1, e, O⟩ := h.don i ri hi (Or.inr ⟨rfl, kp⟩)
  rw [if_pos rfl] at e O
  have lR : (R[i]).b.bs.length = (Z[i]).b.bs.length + k := by rw [e]; exact vG _ _ _
  obtain ⟨g', c', w3, r1, r2, r3, r4⟩ := Kn O rfl (ovA i) h.size (by show (ovL (Z[i]).b.bs.length i k).length <= _; rw [vG]; omega)
  simp only [zao] at r2
  refine ⟨lR, g', c', w3, by rw [e]; exact r1, r2, fun q lq hne => ?_, ?_, Nat.le_trans bu.size r3.size, r3.os, r3.tape, r3.output⟩
  ·refine (r3.block q (Nat.lt_of_lt_of_le lq bu.size) (fun z => hne kp ?_)).trans (bu.block q lq)
   have z : g = q := (Option.some.inj z).symm
   rw [e, z]
  ·rcases r4 with z | z
   ·exact Or.inl ⟨kp, by rw [e, z]⟩
   ·exact Or.inr z
theorem Ov2.step {LO HI : Nat} {w0 w1 w w3 : World} {r n c g' c' : Nat} {Z R : List FA} {i k : Nat} (h : Ov2 LO HI w0 w1 r n c Z i k R w) (hi : i < Z.length) (ri : i < R.length)
  (O : OneR w3 w1.heap.size ⟨0, g', c', ovL (Z[i]).b.bs.length i (k + 1), []⟩) (K : ∀ q, q < w.heap.size -> (0 < k -> (R[i]).b.A ≠ some ⟨q, 0, none⟩) -> w3.heap[q]? = w.heap[q]?) (F : (0 < k /\ (R[i]).b.A = some ⟨g', 0, none⟩) \/ w.heap.size <= g') (sz : w.heap.size <= w3.heap.size) (eo : w3.os = w.os) (et : w3.tape = w.tape) (ep : w3.output = w.output) (l1 : r < w1.heap.size) :
  (∃ u, w3.cell? ⟨r, i * 2 + 1, none⟩ = some u) /\ w3.frozen? ⟨r, i * 2 + 1, none⟩ = false /\
  Ov2 LO HI w0 w1 r n c Z i (k + 1) (R.set i ⟨(R[i]).at_, ⟨some ⟨g', 0, none⟩, c', ovL (Z[i]).b.bs.length i (k + 1)⟩⟩) (w3.setCell ⟨r, i * 2 + 1, none⟩ (.slice (some ⟨g', 0, none⟩) (ovL (Z[i]).b.bs.length i (k + 1)).length c')) := by
 have lr : r < w.heap.size := Nat.lt_of_lt_of_le l1 h.size
 -- the frame's own block is none of the old
 have gi : 0 < k -> ∃ g, (R[i]).b.A = some ⟨g, 0, none⟩ /\ w1.heap.size <= g /\ g < w.heap.size := fun kp => by
  obtain ⟨g, c1, e, O⟩ := h.don i ri hi (Or.inr ⟨rfl, kp⟩)
  exact ⟨g, by rw [e], O.lt.1, O.lt.2.1⟩
 have old3 : ∀ q, q < w1.heap.size -> w3.heap[q]? = w.heap[q]? := fun q lq => K q (Nat.lt_of_lt_of_le lq h.size) (fun kp z => by
  obtain ⟨g, e, a, _⟩ := gi kp
  rw [e] at z
  injection z with z
  injection z with z
  omega)
 have rr := old3 r l1
 have g1 : g' ≠ r := fun z => by
  have := O.lt.1
  have : w1.heap.size <= g' := this
  omega
 obtain ⟨_, cu, fz⟩ := vF (kE h.own rr) i ri
 have dj : ∀ j, (hj : j < R.length) -> j < i -> ∃ g c, (R[j]).b = ⟨some ⟨g, 0, none⟩, c, ovL (Z[j]'(by have := h.len; omega)).b.bs.length j 70⟩ /\ OneR (w3.setCell ⟨r, i * 2 + 1, none⟩ (.slice (some ⟨g', 0, none⟩) (ovL (Z[i]).b.bs.length i (k + 1)).length c')) w1.heap.size ⟨0, g, c, ovL (Z[j]'(by have := h.len; omega)).b.bs.length j 70, []⟩ /\ g ≠ g' := fun j hj lt => by
  have hz : j < Z.length := by have := h.len; omega
  obtain ⟨g, c1, e, Oj⟩ := h.don j hj hz (Or.inl lt)
  rw [if_neg (by omega)] at e Oj
  have lj := Oj.lt
  have nr : g ≠ r := by have := lj.1; have : w1.heap.size <= g := this; omega
  have kj : w3.heap[g]? = w.heap[g]? := K g lj.2.1 (fun kp z => h.dis j hj ri lt kp (by rw [e, z]))
  refine ⟨g, c1, e, (Oj.keep kj).keep (heap_setCell_other w3 _ _ _ nr), fun z => ?_⟩
  rcases F with ⟨kp, f⟩ | f
  ·exact h.dis j hj ri lt kp (by rw [e, f, z])
  ·have : g < w.heap.size := lj.2.1
   omega
 refine ⟨⟨_, cu⟩, fz _, ⟨?_, by rw [List.length_set]; exact h.len, fun j hj hz => ?_, fun j hj hz q => ?_, fun j hj hz q => ?_, fun j hj hi' q _ => ?_, fun q lq nq => ?_, Nat.le_trans h.size (by simpa using sz), eo.trans h.os, et.trans h.tape, ep.trans h.output⟩⟩
 ·rw [<- fr_set R i ri ⟨(R[i]).at_, ⟨some ⟨g', 0, none⟩, c', ovL (Z[i]).b.bs.length i (k + 1)⟩⟩ rfl]
  exact ((kE h.own rr).stored (i * 2 + 1) _).1
 ·rw [List.getElem_set]
  split
  ·rename_i q; subst q; exact h.at_ i ri hz
  ·rw [List.length_set] at hj; exact h.at_ j hj hz
 ·rw [List.length_set] at hj
  by_cases ji : j = i
  ·subst ji
   refine ⟨g', c', ?_, ?_⟩
   ·rw [if_pos rfl, List.getElem_set_self]
   ·rw [if_pos rfl]
    exact O.keep (heap_setCell_other w3 _ _ _ g1)
  ·obtain ⟨g, c1, e, Oj, _⟩ := dj j hj (by omega)
   refine ⟨g, c1, ?_, ?_⟩
   ·rw [if_neg ji, List.getElem_set_ne (by omega)]; exact e
   ·rw [if_neg ji]; exact Oj
 ·rw [List.length_set] at hj
  rw [List.getElem_set_ne (by omega)]
  exact h.no j hj hz (by omega)
 ·rw [List.length_set] at hj
  obtain ⟨g, c1, e, _, ne⟩ := dj j hj q
  rw [List.getElem_set_ne (by omega), List.getElem_set_self, e]
  intro z
  injection z with z
  injection z with z
  exact ne z
 ·exact (heap_setCell_other w3 _ _ _ nq).trans ((old3 q lq).trans (h.old q lq nq))
end
end Go.Proofs.YtmaofighbpnbiaaGreatDoor
/- The law's over and torn, walked. -/
namespace Go.Proofs.YtmaofighbpnbiaaGreatDoor
open Go Go.RowKit Go.Sort
set_option linter.unusedSimpArgs false
set_option linter.unusedVariables false
section
structure OvR (LO HI : Nat) (w0 : World) (Z : List FA) (v : Value) (w' : World) : Prop where
 row : ∃ R : List FA, w'.ownsRow LO 47 2 v Z.length (R.flatMap frV) /\ R.length = Z.length /\ ∀ j, (hj : j < R.length) -> (hz : j < Z.length) -> (R[j]).at_ = (Z[j]).at_
 far : ∀ q, q < w0.heap.size -> (q < LO \/ HI <= q) -> w'.heap[q]? = w0.heap[q]?
 size : w0.heap.size <= w'.heap.size
 os : w'.os = w0.os
 tape : w'.tape = w0.tape
 output : w'.output = w0.output
theorem ZB (i : Nat) (m : Nat) (hm : 0 < m) : Int.tmod (i : Int) (m : Int) = ((i % m : Nat) : Int) := (Int.ofNat_tmod i m).symm
theorem zap (i : Nat) : 200 <= ovB i /\ ovB i < 250 := by unfold ovB; have := Nat.mod_lt i (show 0 < 50 by decide); omega
theorem zaq (i : Nat) : 7 <= ovA i /\ ovA i < 10 := by unfold ovA; have := Nat.mod_lt i (show 0 < 3 by decide); omega
theorem u8_in (n : Int) (h : 0 <= n /\ n < 256) : IntKind.u8.wrap n = n := by rw [IntKind.wrap_u8]; omega
theorem OneR.byte {w : World} {LO g c n i k : Nat} (h : OneR w LO ⟨0, g, c, ovL n i k, []⟩) (j : Nat) (hj : j < n + k) : w.cell? ⟨g, j, none⟩ = some (.int .u8 (if j < n then ovB i else ovA i)) := by
 unfold OneR at h
 simp only [List.append_nil] at h
 have u : (bts (ovL n i k))[j]? = some (.int .u8 (if j < n then ovB i else ovA i)) := by
  unfold bts ovL
  rw [List.getElem?_map]
  split
  ·rename_i q
   rw [List.getElem?_append_left (by rw [List.length_replicate]; exact q), List.getElem?_replicate, if_pos q]
   rfl
  ·rename_i q
   rw [List.getElem?_append_right (by rw [List.length_replicate]; omega), List.length_replicate, List.getElem?_replicate, if_pos (by omega)]
   rfl
 have := h.cells (g := g) rfl j _ u
 rw [Addr.add_lit, Nat.zero_add] at this
 exact this
set_option maxHeartbeats 16000000 in
set_option maxRecDepth 100000 in
theorem zdi (LO HI : Nat) (w0 : World) (r n c : Nat) (Z : List FA) (own : w0.ownsRow LO 47 2 (.slice (some ⟨r, 0, none⟩) n c) n (Z.flatMap frV)) (hn : Z.length = n) (spn : SpanD LO HI w0 Z) (rl : LO <= r) (rh : r < HI) (nl : n <= 16384) (bl : ∀ x ∈ Z, x.b.bs.length <= 1048576) :
  Calls Tryz.prog 22 #[.slice (some ⟨r, 0, none⟩) n c] w0 fun e w' => e = .returned (.tuple #[]) /\ OvR LO HI w0 Z (.slice (some ⟨r, 0, none⟩) n c) w' := by
 have HOW := zdm own
 have HN := zdm hn
 have HR : Hid (∃ cr, w0.heap[r]? = some (.cells cr 47 (0, 0))) := zdm (kD own).2.2.2
 have HBL := zdm bl
 have O0 := zdm (Ov1.init r spn)
 have HRL := zdm (And.intro rl rh)
 have HRS := zdm (kD own).2.1
 clear own hn spn bl rl rh
 go_enter Tryz.func22, Tryz.ntmps22
 go_wp2_with fail
 go_loopw [2] (fun s2 wr => ∃ i : Nat, i <= n /\ s2 = .int .i64 (i : Int) /\ Hid (Ov1 LO HI w0 r Z i 0 wr)) (fun s2 _ => n - (intOf s2).toNat)
 case atStart => exact ⟨0, Nat.zero_le _, rfl, O0⟩
 case round =>
  obtain ⟨i, hi, rfl, ho⟩ := hrel
  clear O0
  by_cases lt : i < n
  ·have zi : i < Z.length := by rw [HN.out]; exact lt
   have CE := zdm (fun (wr : World) (e : wr.heap[r]? = w0.heap[r]?) => (vF (kE HOW.out e) i zi).2.1)
   obtain ⟨g, o, eA, ec, _⟩ := ho.out.spn.adr _ (List.getElem_mem zi)
   have SR := zdm (fun (k : Nat) (wr : World) (h : Ov1 LO HI w0 r Z i k wr) (hk : k < (Z[i]).b.bs.length) => h.store zi hk eA HR.out.choose_spec)
   have NX := zdm (fun (wr : World) (h : Ov1 LO HI w0 r Z i (Z[i]).b.bs.length wr) => h.next zi)
   have ml := HBL.out _ (List.getElem_mem zi)
   rw [eA, ec] at CE
   obtain ⟨m, hm⟩ : ∃ m, m = (Z[i]).b.bs.length := ⟨_, rfl⟩
   rw [<- hm] at CE SR NX ml
   have q0 : (0 : Int) <= (i : Int) := by omega
   have q5 : (i : Int) < (n : Int) := by omega
   have tn : (i : Int).toNat = i := by omega
   have wk : IntKind.i64.wrap ((i : Int) + 1) = (i : Int) + 1 := IntWalk.i64_in _ (by omega)
   obtain ⟨rb, hrb⟩ : ∃ rb : Int, Int.tmod (i : Int) 50 = rb := ⟨_, rfl⟩
   have eb : 200 + rb = ovB i := by rw [<- hrb]; unfold ovB; rw [<- ZB i 50 (by decide)]; rfl
   have br := zap i
   have w1 : IntKind.i64.wrap (200 + rb) = 200 + rb := IntWalk.i64_in _ (by omega)
   have w2 : IntKind.u8.wrap (200 + rb) = ovB i := by rw [eb]; exact u8_in _ (by omega)
   clear eb br hm eA ec
   go_wp2_with fail
   go_loopw [3] (fun s3 wr => ∃ k : Nat, k <= m /\ s3 = .int .i64 (k : Int) /\ Hid (Ov1 LO HI w0 r Z i k wr)) (fun s3 _ => m - (intOf s3).toNat)
   case atStart => exact ⟨0, Nat.zero_le _, rfl, ho⟩
   case round =>
    obtain ⟨k, hk, rfl, hs⟩ := hrel
    have ce := CE.out wr hs.out.row
    by_cases lk : k < m
    ·obtain ⟨⟨u, x1⟩, x2, x3⟩ := SR.out k wr hs.out lk
     have HX := zdm x3
     have p0 : (0 : Int) <= (k : Int) := by omega
     have p5 : (k : Int) < (m : Int) := by omega
     have pn : (k : Int).toNat = k := by omega
     have wj : IntKind.i64.wrap ((k : Int) + 1) = (k : Int) + 1 := IntWalk.i64_in _ (by omega)
     clear x3 hs
     go_wp2_with fail
     go_roundw
     case rel => exact ⟨k + 1, by omega, by go_num, HX⟩
     case measure => simp [intOf]; omega
    ·have e : k = m := by omega
     subst e
     have p5 : ¬ (k : Int) < (k : Int) := by omega
     have HX := zdm (NX.out wr hs.out)
     clear hs
     go_wp2_with fail
     go_roundw
     case rel => exact ⟨i + 1, by omega, by go_num, HX⟩
     case measure => simp [intOf]; omega
  ·have e : i = n := by omega
   subst e
   have q5 : ¬ (i : Int) < (i : Int) := by omega
   obtain ⟨w1, hw1⟩ : ∃ w1, w1 = wr := ⟨_, rfl⟩
   have H1 : Hid (Ov1 LO HI w0 r Z Z.length 0 w1) := zdm (by rw [hw1, HN.out]; exact ho.out)
   have O2 : Hid (Ov2 LO HI w0 w1 r i c Z 0 0 Z wr) := zdm (by rw [<- hw1]; exact Ov2.init HOW.out H1.out)
   clear hw1 ho
   go_wp2_with fail
   go_loopw [4] (fun s4 wr => ∃ (j : Nat) (R : List FA), j <= i /\ s4 = .int .i64 (j : Int) /\ Hid (Ov2 LO HI w0 w1 r i c Z j 0 R wr)) (fun s4 _ => i - (intOf s4).toNat)
   case atStart => exact ⟨0, Z, Nat.zero_le _, rfl, O2⟩
   case round =>
    obtain ⟨j, R, hj, rfl, ho⟩ := hrel
    clear O2
    by_cases lt : j < i
    ·have zj : j < Z.length := by rw [HN.out]; exact lt
     have ml := HBL.out _ (List.getElem_mem zj)
     have RUN := zdm (fun (k : Nat) (R : List FA) (wr : World) (h : Ov2 LO HI w0 w1 r i c Z j k R wr) (rj : j < R.length) (hk : k < 70) => h.run H1.out zj rj ml hk HR.out)
     have q0 : (0 : Int) <= (j : Int) := by omega
     have q5 : (j : Int) < (i : Int) := by omega
     have tn : (j : Int).toNat = j := by omega
     have wk : IntKind.i64.wrap ((j : Int) + 1) = (j : Int) + 1 := IntWalk.i64_in _ (by omega)
     obtain ⟨rb, hrb⟩ : ∃ rb : Int, Int.tmod (j : Int) 3 = rb := ⟨_, rfl⟩
     have eb : 7 + rb = ovA j := by rw [<- hrb]; unfold ovA; rw [<- ZB j 3 (by decide)]; rfl
     have br := zaq j
     have v1 : IntKind.i64.wrap (7 + rb) = 7 + rb := IntWalk.i64_in _ (by omega)
     have v2 : IntKind.u8.wrap (7 + rb) = ovA j := by rw [eb]; exact u8_in _ (by omega)
     have l1 := zdm (show r < w1.heap.size by rw [H1.out.size]; exact HRS.out)
     clear eb br
     go_wp2_with fail
     go_loopw [5] (fun s5 wr => ∃ (k : Nat) (R : List FA), k <= 70 /\ s5 = .int .i64 (k : Int) /\ Hid (Ov2 LO HI w0 w1 r i c Z j k R wr)) (fun s5 _ => 70 - (intOf s5).toNat)
     case atStart => exact ⟨0, R, Nat.zero_le _, rfl, ho⟩
     case round =>
      obtain ⟨k, R2, hk, rfl, hs⟩ := hrel
      by_cases lk : k < 70
      ·have rj : j < R2.length := by rw [hs.out.len]; exact zj
       obtain ⟨lR, g', c', w3, RC, O3, K3, F3, s3, e1, e2, e3⟩ := RUN.out k R2 wr hs.out rj lk
       obtain ⟨⟨u, x1⟩, x2, x3⟩ := hs.out.step zj rj O3 K3 F3 s3 e1 e2 e3 l1.out
       rw [vG, <- Nat.add_assoc, <- lR] at x3
       have ce := (vF hs.out.own j rj).2.1
       have kd : ∀ o, (wr.alloc o).cell? ⟨r, j * 2 + 1, none⟩ = some (.slice (R2[j]).b.A (R2[j]).b.bs.length (R2[j]).b.c) := fun o => ((Below.refl wr.heap.size wr).alloc (Nat.le_refl _) o).cell (p := ⟨r, j * 2 + 1, none⟩) (block_lt_of_cell ce) |>.trans ce
       have HX := zdm x3
       generalize (R2[j]).b.bs.length = m at *
       generalize (R2[j]).b.A = mA at *
       generalize (R2[j]).b.c = mc at *
       have p0 : (0 : Int) <= (k : Int) := by omega
       have p5 : (k : Int) < 70 := by omega
       have wj : IntKind.i64.wrap ((k : Int) + 1) = (k : Int) + 1 := IntWalk.i64_in _ (by omega)
       clear x3 hs O3 K3 F3 s3 e1 e2 e3 lR
       go_wp2_with (first | (at_builtin; refine Zc rfl (.tmp 52) (.tmp 57) 27 27 rfl _ _ _ _ rfl rfl RC ?_) | fail)
       go_roundw
       case rel => exact ⟨k + 1, _, by omega, by go_num, HX⟩
       case measure => simp [intOf]; omega
      ·have e : k = 70 := by omega
       subst e
       have p5 : ¬ ((70 : Nat) : Int) < 70 := by omega
       have HX := zdm hs.out.next
       clear hs
       go_wp2_with fail
       go_roundw
       case rel => exact ⟨j + 1, R2, by omega, by go_num, HX⟩
       case measure => simp [intOf]; omega
    ·have e : j = i := by omega
     subst e
     have q5 : ¬ (j : Int) < (j : Int) := by omega
     have w2e : ∃ w2, w2 = wr := ⟨_, rfl⟩
     obtain ⟨w2, hw2⟩ := w2e
     have H2 : Hid (Ov2 LO HI w0 w1 r j c Z j 0 R w2) := zdm (by rw [hw2]; exact ho.out)
     have RL : Hid (R.length = j) := zdm (by rw [ho.out.len]; exact HN.out)
     rw [<- hw2]
     clear hw2 ho
     go_wp2_with fail
     go_loopw [6] (fun s6 wr => ∃ i : Nat, i <= j /\ s6 = .int .i64 (i : Int) /\ wr = w2) (fun s6 _ => j - (intOf s6).toNat)
     case atStart => exact ⟨0, Nat.zero_le _, rfl, rfl⟩
     case round =>
      obtain ⟨i, hi, rfl, hwr⟩ := hrel
      rw [hwr]
      clear hwr
      by_cases lt : i < j
      ·have zi : i < Z.length := by rw [HN.out]; exact lt
       have ri : i < R.length := by rw [RL.out]; exact lt
       obtain ⟨g, c1, eB, O⟩ := H2.out.don i ri zi (Or.inl lt)
       rw [if_neg (by omega)] at eB O
       have ce := (vF H2.out.own i ri).2.1
       have ml := HBL.out _ (List.getElem_mem zi)
       rw [eB] at ce
       simp only [vG] at ce
       have HO := zdm O
       generalize (Z[i]).b.bs.length = m at *
       have q0 : (0 : Int) <= (i : Int) := by omega
       have q5 : (i : Int) < (j : Int) := by omega
       have tn : (i : Int).toNat = i := by omega
       have wk : IntKind.i64.wrap ((i : Int) + 1) = (i : Int) + 1 := IntWalk.i64_in _ (by omega)
       have wm : IntKind.i64.wrap (((m + 70 : Nat) : Int) - 70) = (m : Int) := by rw [show ((m + 70 : Nat) : Int) - 70 = (m : Int) by omega]; exact IntWalk.i64_in _ (by omega)
       obtain ⟨rb, hrb⟩ : ∃ rb : Int, Int.tmod (i : Int) 50 = rb := ⟨_, rfl⟩
       have eb : 200 + rb = ovB i := by rw [<- hrb]; unfold ovB; rw [<- ZB i 50 (by decide)]; rfl
       have br := zap i
       have u1 : IntKind.i64.wrap (200 + rb) = 200 + rb := IntWalk.i64_in _ (by omega)
       have u2 : IntKind.u8.wrap (200 + rb) = ovB i := by rw [eb]; exact u8_in _ (by omega)
       obtain ⟨ra, hra⟩ : ∃ ra : Int, Int.tmod (i : Int) 3 = ra := ⟨_, rfl⟩
       have ea : 7 + ra = ovA i := by rw [<- hra]; unfold ovA; rw [<- ZB i 3 (by decide)]; rfl
       have ar := zaq i
       have v1 : IntKind.i64.wrap (7 + ra) = 7 + ra := IntWalk.i64_in _ (by omega)
       have v2 : IntKind.u8.wrap (7 + ra) = ovA i := by rw [ea]; exact u8_in _ (by omega)
       obtain ⟨M, hM⟩ : ∃ M, M = m + 70 := ⟨_, rfl⟩
       rw [<- hM] at ce wm
       have HMM := zdm hM
       have mm : m + 70 <= 1048646 := by omega
       clear eb br ea ar eB O hM
       go_wp2_with fail
       go_loopw [8] (fun s8 wr => ∃ k : Nat, k <= M /\ s8 = .int .i64 (k : Int) /\ wr = w2) (fun s8 _ => M - (intOf s8).toNat)
       case atStart => exact ⟨0, Nat.zero_le _, rfl, rfl⟩
       case round =>
        obtain ⟨k, hk, rfl, hwr⟩ := hrel
        rw [hwr]
        clear hwr
        have hMM := HMM.out
        by_cases lk : k < M
        ·have cb := HO.out.byte k (by omega)
         have p0 : (0 : Int) <= (k : Int) := by omega
         have p5 : (k : Int) < (M : Int) := by omega
         have pn : (k : Int).toNat = k := by omega
         have wj : IntKind.i64.wrap ((k : Int) + 1) = (k : Int) + 1 := IntWalk.i64_in _ (by omega)
         by_cases km : k < m
         ·rw [if_pos km] at cb
          have p6 : (k : Int) < (m : Int) := by omega
          have p7 : ¬ (m : Int) <= (k : Int) := by omega
          clear hMM
          go_wp2_with fail
          go_roundw
          case rel => exact ⟨k + 1, by omega, by go_num, trivial⟩
          case measure => simp [intOf]; omega
         ·rw [if_neg km] at cb
          have p6 : ¬ (k : Int) < (m : Int) := by omega
          have p7 : (m : Int) <= (k : Int) := by omega
          clear hMM
          go_wp2_with fail
          go_roundw
          case rel => exact ⟨k + 1, by omega, by go_num, trivial⟩
          case measure => simp [intOf]; omega
        ·have e : k = M := by omega
         subst e
         have p5 : ¬ (k : Int) < (k : Int) := by omega
         clear hMM
         go_wp2_with fail
         go_roundw
         case rel => exact ⟨i + 1, by omega, by go_num, trivial⟩
         case measure => simp [intOf]; omega
      ·have e : i = j := by omega
       subst e
       have q5 : ¬ (i : Int) < (i : Int) := by omega
       have FIN : Hid (OvR LO HI w0 Z (.slice (some ⟨r, 0, none⟩) i c) w2) := zdm (by
        have h2 := H2.out
        have h1 := H1.out
        refine ⟨⟨R, by rw [HN.out]; exact h2.own, h2.len, h2.at_⟩, fun q lq hq => ?_, by rw [<- h1.size]; exact h2.size, h2.os, h2.tape, h2.output⟩
        have lt1 : q < w1.heap.size := by rw [h1.size]; exact lq
        exact (h2.old q lt1 (fun z => by have := HRL.out; omega)).trans (h1.far q hq))
       go_wp2_with fail
       refine bodyPost_end (results_none rfl _ _ _) rfl ?_
       exact ⟨by rfl, FIN.out⟩
set_option maxHeartbeats 4000000 in
theorem zdj (LO HI : Nat) (w0 : World) : Calls Tryz.prog 22 #[.slice none 0 0] w0 fun e w' => e = .returned (.tuple #[]) /\ OvR LO HI w0 [] (.slice none 0 0) w' := by
 have FIN : Hid (OvR LO HI w0 [] (.slice none 0 0) w0) := zdm ⟨⟨[], ⟨rfl, Or.inl ⟨rfl, rfl⟩⟩, rfl, fun j hj => by cases hj⟩, fun _ _ _ => rfl, Nat.le_refl _, rfl, rfl, rfl⟩
 go_enter Tryz.func22, Tryz.ntmps22
 go_wp2_with fail
 go_loopw [2] (fun s2 wr => s2 = .int .i64 0 /\ wr = w0) (fun s2 _ => 0)
 case atStart => exact ⟨rfl, rfl⟩
 case round =>
  obtain ⟨rfl, hwr⟩ := hrel
  rw [hwr]
  clear hwr
  go_wp2_with fail
  go_loopw [4] (fun s4 wr => s4 = .int .i64 0 /\ wr = w0) (fun s4 _ => 0)
  case atStart => exact ⟨rfl, rfl⟩
  case round =>
   obtain ⟨rfl, hwr⟩ := hrel
   rw [hwr]
   clear hwr
   go_wp2_with fail
   go_loopw [6] (fun s6 wr => s6 = .int .i64 0 /\ wr = w0) (fun s6 _ => 0)
   case atStart => exact ⟨rfl, rfl⟩
   case round =>
    obtain ⟨rfl, hwr⟩ := hrel
    rw [hwr]
    clear hwr
    go_wp2_with fail
    refine bodyPost_end (results_none rfl _ _ _) rfl ?_
    exact ⟨by rfl, FIN.out⟩
theorem law_over {LO : Nat} {wa w0 : World} {A : Option Addr} {n c : Nat} {S : List Seg} (h : SegS LO wa (.slice A n c) S) (hb : Below wa.heap.size wa w0) (nl : n <= 16384) (bl : ∀ x ∈ segF S, x.b.bs.length <= 1048576) :
  Calls Tryz.prog 22 #[.slice A n c] w0 fun e w' => e = .returned (.tuple #[]) /\ OvR LO wa.heap.size w0 (segF S) (.slice A n c) w' := by
 have o := (h.below hb).own
 have e := xf o rfl
 injection e with _ e2 _
 have sp := h.spans.below (w' := w0) (fun q _ lq cur e => hb.block q lq)
 rcases h.own.2 with ⟨z, n0⟩ | ⟨r, cap, cur, z, lr, er, _⟩
 ·injection z with z1 z2 z3
  subst z1
  subst z2
  subst z3
  have z0 : segF S = [] := List.eq_nil_of_length_eq_zero n0
  rw [z0]
  exact zdj LO _ w0
 ·injection z with z1 z2 z3
  subst z1
  rw [<- e2] at o
  exact zdi LO _ w0 r n c (segF S) o e2.symm sp lr (Array.getElem?_eq_some_iff.1 er).1 nl bl
set_option maxHeartbeats 4000000 in
set_option maxRecDepth 100000 in
theorem law_torn {LO : Nat} {w : World} {A : Option Addr} {n c : Nat} {R : List FA} (own : w.ownsRow LO 47 2 (.slice A n c) n (R.flatMap frV)) (hat : ∀ x ∈ R, x.at_ ≠ -99) (nl : n <= 16384) : Calls Tryz.prog 23 #[.slice A n c] w fun e w' => e = .returned (.bool false) /\ w' = w := by
 have RN : R.length = n := by have := own.1; rw [vt] at this; omega
 have CE : Hid (∀ i, (hi : i < R.length) -> ∃ r, A = some ⟨r, 0, none⟩ /\ w.cell? ⟨r, i * 2, none⟩ = some (.int .i64 (R[i]).at_)) := zdm (fun i hi => by
  rcases own.2 with ⟨z, n0⟩ | ⟨r, cap, cur, z, _⟩
  ·omega
  ·injection z with z1 z2 z3
   subst z1
   exact ⟨r, rfl, (vF own i hi).1⟩)
 have HA := zdm hat
 have HN := zdm RN
 clear own hat RN
 go_enter Tryz.func23, Tryz.ntmps23
 go_wp2_with fail
 go_loopw [3] (fun s3 wr => ∃ i : Nat, i <= n /\ s3 = .int .i64 (i : Int) /\ wr = w) (fun s3 _ => n - (intOf s3).toNat)
 case atStart => exact ⟨0, Nat.zero_le _, rfl, rfl⟩
 case round =>
  obtain ⟨i, hi, rfl, hwr⟩ := hrel
  rw [hwr]
  clear hwr
  by_cases lt : i < n
  ·have ri : i < R.length := by rw [HN.out]; exact lt
   obtain ⟨r, rfl, ce⟩ := CE.out i ri
   have ne := HA.out _ (List.getElem_mem ri)
   generalize (R[i]).at_ = t at *
   have q0 : (0 : Int) <= (i : Int) := by omega
   have q5 : (i : Int) < (n : Int) := by omega
   have tn : (i : Int).toNat = i := by omega
   have wk : IntKind.i64.wrap ((i : Int) + 1) = (i : Int) + 1 := IntWalk.i64_in _ (by omega)
   go_wp2_with fail
   go_roundw
   case rel => exact ⟨i + 1, by omega, by go_num, trivial⟩
   case measure => simp [intOf]; omega
  ·have e : i = n := by omega
   subst e
   have q5 : ¬ (i : Int) < (i : Int) := by omega
   go_wp2_with fail
   go_ret
   exact ⟨rfl, rfl⟩
end
end Go.Proofs.YtmaofighbpnbiaaGreatDoor
