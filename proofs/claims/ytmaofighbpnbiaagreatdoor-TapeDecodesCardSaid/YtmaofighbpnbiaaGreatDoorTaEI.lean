/- What lies below tapes (kept of earlier texts: VwPb). -/
import Derived.Test.YtmaofighbpnbiaaGreatDoorTaEH
import Derived.Laws.CopyRow
import Derived.Deep.RegionLaw
set_option linter.unusedVariables false
set_option linter.unusedSimpArgs false
namespace Go.Proofs.YtmaofighbpnbiaaGreatDoor
section
open Go Go.RowKit Go.Sort
section
variable {w0 : World} {F0 : List Nat} {tb : Nat} {t t' : Trm} {W W' : World}
set_option maxHeartbeats 4000000 in
set_option maxRecDepth 100000 in
theorem t_blank (h : St w0 F0 tb t W) : Calls Tryz.prog 137 #[.pointer (some ⟨tb, 0, none⟩)] W fun e w' => e = .returned (.agg (celV t.blank).toArray) /\ Below W.heap.size W w' := by
 obtain ⟨Q, hQ⟩ : ∃ Q, Q = W.alloc (.cells #[.string ⟨#[]⟩, .int .i8 0, .int .i32 0, .int .i32 0, .int .u8 0] 79) := ⟨_, rfl⟩
 have BQ : Below W.heap.size W Q := by rw [hQ]; exact (Below.refl _ W).alloc zdA _
 have KQ : Bk Q W.heap.size [.string ⟨#[]⟩, .int .i8 0, .int .i32 0, .int .i32 0, .int .u8 0] 79 := by rw [hQ]; exact Bk.new W _ _
 obtain ⟨L, B⟩ := (h.below BQ).bk
 have k6 := B.c 6 _ rfl
 have kf6 := B.f 6
 have PL : bI qI.at_ = 0 := rfl
 have BL := zdy (QZ ⟨0, t.cur.st.bg, qI.at_⟩ Q)
 unfold styV at BL
 dsimp only at BL
 rw [PL] at BL
 have BH := zdy BQ
 have KH := zdy KQ
 clear h B BQ KQ
 go_enter Tryz.func137, Tryz.ntmps137
 go_upto_region 1 with fail
 rw [<- hQ]
 clear hQ
 go_wp2_with fail
 refine BL.out.mono ?_; rintro e w1 ⟨rfl, hg⟩
 have hb : Below Q.heap.size Q w1 := hg
 have K1 := KH.out.of_eq (hb.block _ KH.out.lt)
 have BB := zdy (BH.out.trans (hb.mono BH.out.size))
 have k0 := K1.c 0 _ rfl
 have kf0 := K1.f 0
 have k1 := K1.c 1 _ rfl
 have kf1 := K1.f 1
 have k2 := K1.c 2 _ rfl
 have kf2 := K1.f 2
 have k3 := K1.c 3 _ rfl
 have kf3 := K1.f 3
 have k4 := K1.c 4 _ rfl
 have kf4 := K1.f 4
 clear KH BL hb
 go_wp2_with fail
 refine bodyPost_ret (v := .agg (celV t.blank).toArray) (by simp [results, Tryz.results137, go_sem, k0, k1, k2, k3, k4, celV, Trm.blank, blkS]) rfl ⟨rfl, ?_⟩
 repeat (first | with_reducible exact BB.out | refine Below.setCell ?_ (by exact zdA) _)
theorem Vq (t : Trm) (f : Nat) : ∀ n, (zm t f n).cells.length = t.cells.length /\ (zm t f n).wrt.length = t.wrt.length /\ (zm t f n).cur = t.cur
 | 0 => ⟨rfl, rfl, rfl⟩
 | n + 1 => by
  obtain ⟨a, b, c⟩ := Vq t f n
  unfold zm putT
  exact ⟨by rw [List.length_set]; exact a, by rw [List.length_set]; exact b, c⟩
set_option maxHeartbeats 4000000 in
set_option maxRecDepth 100000 in
theorem kO (h : St w0 F0 tb t W) (f n : Nat) (hf : f + n <= t.cells.length) (hl : t.cells.length <= 1048576) (hw : t.wrt.length = t.cells.length) : Calls Tryz.prog 105 #[.pointer (some ⟨tb, 0, none⟩), .int .i64 f, .int .i64 n] W (Vd w0 F0 tb (zm t f n)) := by
 have w1 := zdz ((f : Int) + n) (by omega)
 have HH : Hid (St w0 F0 tb (zm t f 0) W) := zdy h
 clear h
 go_enter Tryz.func105, Tryz.ntmps105
 go_wp2_with fail
 go_loopw [6] (fun i wr => ∃ k : Nat, k <= n /\ i = .int .i64 ((f : Int) + k) /\ Hid (St w0 F0 tb (zm t f k) wr)) (fun i _ => n - ((intOf i).toNat - f))
 case atStart => exact ⟨0, Nat.zero_le _, by simp, HH⟩
 case round =>
  obtain ⟨k, hk, rfl, hr⟩ := hrel
  clear HH
  by_cases lt : k < n
  ·have wk := zdz ((f : Int) + k + 1) (by omega)
   obtain ⟨q1, q2, q3⟩ := Vq t f k
   have BL := zdy (t_blank hr.out)
   have eb : (zm t f k).blank = t.blank := by unfold Trm.blank; rw [q3]
   rw [eb] at BL
   have PU : Hid (∀ W', Below wr.heap.size wr W' -> Calls Tryz.prog 133 #[.pointer (some ⟨tb, 0, none⟩), .int .i64 ((f : Int) + k), .agg (celV t.blank).toArray] W' (Vd w0 F0 tb (zm t f (k + 1)))) := zdy (fun W' hb => by
    have := t_put (hr.out.below hb) (f + k) t.blank (by omega) (by omega) (by omega)
    rw [show ((f + k : Nat) : Int) = (f : Int) + k by omega] at this
    exact this)
   clear hr q1 q2 q3 eb
   go_wp2_with fail
   refine BL.out.mono ?_; rintro e w2 ⟨rfl, hb⟩
   have PU := zdy (PU.out w2 hb)
   clear BL hb
   go_wp2_with fail
   refine PU.out.mono ?_; rintro e w3 ⟨⟨v, rfl⟩, h3⟩
   have H3 := zdy h3
   clear h3 PU
   go_wp2_with fail
   go_roundw
   case rel => exact ⟨k + 1, by omega, by go_num, H3⟩
   case measure => simp [intOf]; omega
  ·have e : k = n := by omega
   subst e
   go_wp2_with fail
   go_end0
   exact ⟨⟨_, rfl⟩, hr.out⟩
end
end
section
open Go Go.RowKit Go.Sort
section
variable {w0 : World} {F0 : List Nat} {tb : Nat} {t t' : Trm} {W W' : World} {L : Lay}
set_option maxHeartbeats 4000000 in
set_option maxRecDepth 100000 in
theorem t_back (h : St w0 F0 tb t W) (f : Fine t) (n : Nums) (A : Option Addr) (c : Nat) : Calls Tryz.prog 129 #[.pointer (some ⟨tb, 0, none⟩), numV n A c] W (Vd w0 F0 tb (jH t)) := by
 obtain ⟨Q, hQ⟩ : ∃ Q, Q = W.alloc (.cells [.int .u8 n.prefix_, .slice A n.list.length c, .bool n.void].toArray 129) := ⟨_, rfl⟩
 have BQ : Below W.heap.size W Q := by rw [hQ]; exact (Below.refl _ W).alloc zdA _
 have KQ : Bk Q W.heap.size [.int .u8 n.prefix_, .slice A n.list.length c, .bool n.void] 129 := by rw [hQ]; exact Bk.new W _ _
 have CT := zdy (QK (h.below BQ) ⟨f.w0, f.w1⟩ ⟨f.h0, f.h1⟩)
 unfold numV
 clear KQ BQ h
 go_enter Tryz.func129, Tryz.ntmps129
 go_upto_region 1 with fail
 rw [<- hQ]
 clear hQ
 go_wp2_with fail
 refine CT.out.mono ?_; rintro e w1 ⟨⟨v, rfl⟩, h1⟩
 have H1 := zdy h1
 clear h1
 clear CT
 go_wp2_with fail
 go_end0
 exact ⟨⟨_, rfl⟩, H1.out⟩
theorem St.setTop (h : St w0 F0 tb t W) (x : Int) : St w0 F0 tb { t with top := x } (W.setCell ⟨tb, 21, none⟩ (.int .i64 x)) := h.set _ 21 _ (fun _ => rfl) ⟨rfl, rfl, rfl, rfl, rfl, rfl, rfl⟩
theorem St.setBot (h : St w0 F0 tb t W) (x : Int) : St w0 F0 tb { t with bot := x } (W.setCell ⟨tb, 22, none⟩ (.int .i64 x)) := h.set _ 22 _ (fun _ => rfl) ⟨rfl, rfl, rfl, rfl, rfl, rfl, rfl⟩
set_option maxHeartbeats 8000000 in
set_option maxRecDepth 100000 in
theorem zci (h : St w0 F0 tb t W) (f : Fine t) (n : Nums) (A : Option Addr) (c : Nat) (hn : NumAt W n A c) : Calls Tryz.prog 128 #[.pointer (some ⟨tb, 0, none⟩), numV n A c] W (Vd w0 F0 tb (jp t n)) := by
 obtain ⟨Q, hQ⟩ : ∃ Q, Q = W.alloc (.cells [.int .u8 n.prefix_, .slice A n.list.length c, .bool n.void].toArray 129) := ⟨_, rfl⟩
 have BQ : Below W.heap.size W Q := by rw [hQ]; exact (Below.refl _ W).alloc zdA _
 have KQ : Bk Q W.heap.size [.int .u8 n.prefix_, .slice A n.list.length c, .bool n.void] 129 := by rw [hQ]; exact Bk.new W _ _
 have H1 := zdy (h.below BQ)
 have HN := zdy (hn.below BQ)
 have HK := zdy KQ
 have CT := zdy (Zh HN.out 0)
 obtain ⟨z0, z1⟩ := qQ hn 0
 have h0 := f.h0
 have h1 := f.h1
 have hl := hn.len
 have hc := hn.cap
 have RG := zdy hn.rng
 obtain ⟨L1, B1⟩ := H1.out.bk
 dsimp only [trmV, setX, setY] at B1
 have k1 := fun d os => (B1.regrown d os).c 1 _ rfl
 clear B1
 have j0 := fun d os => ((KQ).regrown d os).c 0 _ rfl
 have j1 := fun d os => ((KQ).regrown d os).c 1 _ rfl
 have j2 := fun d os => ((KQ).regrown d os).c 2 _ rfl
 unfold numV
 clear KQ BQ hn h f
 go_enter Tryz.func128, Tryz.ntmps128
 go_upto_region 1 with fail
 rw [<- hQ]
 clear hQ
 refine zf 8 (by kernel_rfl) (by kernel_rfl) ?_
 simp only [zdB, zdC, zdD, zdE]
 repeat (quiet_step (exact qa CT.out _ _))
 refine wpQuiet_nil ?_
 intro _ hw'
 obtain ⟨⟨dq, osq⟩, hw''⟩ := hw'
 subst hw''
 have H1 := zdy (H1.out.below (below_regrown Q dq osq))
 have HN := zdy (HN.out.below (below_regrown Q dq osq))
 have HK := zdy (HK.out.regrown dq osq)
 generalize grow (redrawn Q dq) osq = W1 at *
 clear k1 j0 j1 j2 CT
 by_cases c1 : 1 < n.list.length
 ·obtain ⟨ad, eA, hb, hcell⟩ := HN.out.sees.at (k := 1) (by unfold ints; simpa using c1)
  have e1 : n.list.getD 1 0 = n.list[1] := by rw [List.getD_eq_getElem?_getD, List.getElem?_eq_getElem c1]; rfl
  have hx : ∀ W', Below W1.heap.size W1 W' -> W'.cell? ⟨ad.block, ad.off + 1, none⟩ = some (.int .i64 (n.list.getD 1 0)) := fun W' hb' => by
   have e2 : (ints n.list)[1]'(by unfold ints; simpa using c1) = .int .i64 n.list[1] := by unfold ints; simp
   rw [e1, <- e2, vq ad 1 (by decide)]
   exact (hb'.cell (by rw [z8]; exact hb)).trans hcell
  obtain ⟨rg0, rg1⟩ := RG.out (n.list.getD 1 0) (by rw [e1]; exact List.getElem_mem c1)
  clear hcell e1 RG
  subst eA
  have j0 := HK.out.c 0 _ rfl
  have jf0 := HK.out.f 0
  have j1 := HK.out.c 1 _ rfl
  have jf1 := HK.out.f 1
  have j2 := HK.out.c 2 _ rfl
  have jf2 := HK.out.f 2
  have x0 := hx W1 (Below.refl _ W1)
  by_cases c2 : 0 < n.list.getD 1 0
  ·obtain ⟨x, ex⟩ : ∃ x, x = n.list.getD 1 0 := ⟨_, rfl⟩
   have EB : Hid ((if 1 < n.list.length /\ 0 < n.list.getD 1 0 then min (n.list.getD 1 0) t.h else t.h) = min x t.h) := zdy (by rw [ex]; exact if_pos ⟨c1, c2⟩)
   rw [<- ex] at x0 c2 rg0 rg1
   obtain ⟨L1, B1⟩ := H1.out.bk
   dsimp only [trmV, setX, setY] at B1
   have k1 := B1.c 1 _ rfl
   have kf1 := B1.f 1
   clear B1
   clear hx HN ex
   go_upto_region 3 with fail
   go_region
   clear x0 j0 j1 j2 jf0 jf1 jf2 k1 kf1
   have H1 := zdy (H1.out.below (Below.refl _ W1).drew)
   obtain ⟨V, hV⟩ : ∃ V, V = W1.drew := ⟨_, rfl⟩
   rw [<- hV] at H1 ⊢
   clear hV
   by_cases lt : n.count 0 < min x t.h
   ·skip
    obtain ⟨L1, B1⟩ := H1.out.bk
    dsimp only [trmV, setX, setY] at B1
    have k21 := B1.c 21 _ rfl
    have kf21 := B1.f 21
    have k22 := B1.c 22 _ rfl
    have kf22 := B1.f 22
    clear B1
    have w1 := zdz (n.count 0 - 1) (by omega)
    have w2 := zdz (min x t.h - 1) (by omega)
    have H2 := zdy ((H1.out.setTop (n.count 0 - 1)).setBot (min x t.h - 1))
    have CT := zdy (Zg H2.out)
    clear H1 H2
    go_upto_region 6 with fail
    clear k21 k22 kf21 kf22
    go_wp2_with fail
    refine CT.out.mono ?_; rintro e w3 ⟨⟨v, rfl⟩, h1⟩
    have H3 := zdy h1
    clear h1
    clear CT
    go_wp2_with fail
    go_end0
    exact ⟨⟨_, rfl⟩, by unfold jp; simp only; rw [EB.out, if_pos lt]; exact H3.out⟩
   ·skip
    go_wp2_with fail
    go_end0
    exact ⟨⟨_, rfl⟩, by unfold jp; simp only; rw [EB.out, if_neg (by omega)]; exact H1.out⟩
  ·obtain ⟨x, ex⟩ : ∃ x, x = n.list.getD 1 0 := ⟨_, rfl⟩
   have EB : Hid ((if 1 < n.list.length /\ 0 < n.list.getD 1 0 then min (n.list.getD 1 0) t.h else t.h) = t.h) := zdy (if_neg (fun z => c2 z.2))
   rw [<- ex] at x0 c2 rg0 rg1
   clear hx HN ex
   go_upto_region 4 with fail
   clear x0 j0 j1 j2 jf0 jf1 jf2
   by_cases lt : n.count 0 < t.h
   ·skip
    obtain ⟨L1, B1⟩ := H1.out.bk
    dsimp only [trmV, setX, setY] at B1
    have k21 := B1.c 21 _ rfl
    have kf21 := B1.f 21
    have k22 := B1.c 22 _ rfl
    have kf22 := B1.f 22
    clear B1
    have w1 := zdz (n.count 0 - 1) (by omega)
    have w2 := zdz (t.h - 1) (by omega)
    have H2 := zdy ((H1.out.setTop (n.count 0 - 1)).setBot (t.h - 1))
    have CT := zdy (Zg H2.out)
    clear H1 H2
    go_upto_region 6 with fail
    clear k21 k22 kf21 kf22
    go_wp2_with fail
    refine CT.out.mono ?_; rintro e w3 ⟨⟨v, rfl⟩, h1⟩
    have H3 := zdy h1
    clear h1
    clear CT
    go_wp2_with fail
    go_end0
    exact ⟨⟨_, rfl⟩, by unfold jp; simp only; rw [EB.out, if_pos lt]; exact H3.out⟩
   ·skip
    go_wp2_with fail
    go_end0
    exact ⟨⟨_, rfl⟩, by unfold jp; simp only; rw [EB.out, if_neg (by omega)]; exact H1.out⟩
 ·have EB : Hid ((if 1 < n.list.length /\ 0 < n.list.getD 1 0 then min (n.list.getD 1 0) t.h else t.h) = t.h) := zdy (if_neg (fun z => c1 z.1))
  have j0 := HK.out.c 0 _ rfl
  have jf0 := HK.out.f 0
  have j1 := HK.out.c 1 _ rfl
  have jf1 := HK.out.f 1
  have j2 := HK.out.c 2 _ rfl
  have jf2 := HK.out.f 2
  clear HN RG
  go_upto_region 4 with fail
  clear j0 j1 j2 jf0 jf1 jf2
  by_cases lt : n.count 0 < t.h
  ·skip
   obtain ⟨L1, B1⟩ := H1.out.bk
   dsimp only [trmV, setX, setY] at B1
   have k21 := B1.c 21 _ rfl
   have kf21 := B1.f 21
   have k22 := B1.c 22 _ rfl
   have kf22 := B1.f 22
   clear B1
   have w1 := zdz (n.count 0 - 1) (by omega)
   have w2 := zdz (t.h - 1) (by omega)
   have H2 := zdy ((H1.out.setTop (n.count 0 - 1)).setBot (t.h - 1))
   have CT := zdy (Zg H2.out)
   clear H1 H2
   go_upto_region 6 with fail
   clear k21 k22 kf21 kf22
   go_wp2_with fail
   refine CT.out.mono ?_; rintro e w3 ⟨⟨v, rfl⟩, h1⟩
   have H3 := zdy h1
   clear h1
   clear CT
   go_wp2_with fail
   go_end0
   exact ⟨⟨_, rfl⟩, by unfold jp; simp only; rw [EB.out, if_pos lt]; exact H3.out⟩
  ·skip
   go_wp2_with fail
   go_end0
   exact ⟨⟨_, rfl⟩, by unfold jp; simp only; rw [EB.out, if_neg (by omega)]; exact H1.out⟩
theorem TrmAt.newS (T : TrmAt W L t) (k : ∀ j, j ∉ ob L.s -> W'.heap[j]? = W.heap[j]?) (e : trmV t' L = trmV t L) (hc : RowAt W' 4 1 L.s t'.stops.length (zy t'.stops)) (e1 : t'.cells = t.cells) (e2 : t'.away = t.away) (e4 : t'.wrt = t.wrt) (e5 : t'.reps = t.reps) (e6 : t'.held = t.held) (e7 : t'.kept = t.kept) : TrmAt W' L t' := by
 have far : ∀ {g : Nat} {cur : Array Value} {T' : TypeId} {fl : Nat × Nat}, W.heap[g]? = some (.cells cur T' fl) -> T' ≠ 4 -> W'.heap[g]? = W.heap[g]? := fun {g} {cur} {T'} {fl} hg ne => k g (fun m => by
  obtain ⟨_, hq⟩ := T.s.kind g m
  rw [hg] at hq
  cases hq
  exact ne rfl)
 refine ⟨?_, ?_, ?_, ?_, hc, ?_, ?_, ?_, ?_, T.ca, T.sw, T.rh, T.rk, T.hk⟩
 ·rw [e]; have := T.own; unfold Bk at this; exact T.own.of_eq (far this (by decide))
 ·rw [e7]; obtain ⟨_, q⟩ := T.utf.kind; unfold Bk at q; exact T.utf.keep (far q (by decide))
 ·rw [e1]; exact T.c.keep (fun g m => by obtain ⟨cur, q⟩ := T.c.kind g m; exact far q (by decide))
 ·rw [e2]; exact T.a.keep (fun g m => by obtain ⟨cur, q⟩ := T.a.kind g m; exact far q (by decide))
 ·rw [e4]; exact T.w.keep (fun g m => k g (fun m2 => T.sw g m2 m))
 ·rw [e5]; exact T.r.keep (fun g m => by obtain ⟨cur, q⟩ := T.r.kind g m; exact far q (by decide))
 ·rw [e6]; exact T.h.keep (fun g m => by obtain ⟨cur, q⟩ := T.h.kind g m; exact far q (by decide))
 ·rw [e7]; exact T.k.keep (fun g m => by obtain ⟨cur, q⟩ := T.k.kind g m; exact far q (by decide))
theorem St.rowS (h : St w0 F0 tb t W) (hn : 0 < t.stops.length) : ∃ L g cap, Bk W tb (trmV t L) 104 /\ L.s = .slice (some ⟨g, 0, none⟩) t.stops.length cap /\ t.stops.length <= cap /\ W.ownsRow 0 4 1 (.slice (some ⟨g, 0, none⟩) t.stops.length cap) t.stops.length (zy t.stops) /\
  ∀ i b, St w0 F0 tb { t with stops := t.stops.set i b } (W.setCell ⟨g, i, none⟩ (.bool b)) := by
 obtain ⟨L, e, T, hf⟩ := h.lay
 obtain ⟨g, cap, ec, eo, ho, hc⟩ := T.s.slice hn
 refine ⟨L, g, cap, e ▸ T.own, ec, hc, ho, fun i b => ?_⟩
 have gm : g ∈ L.fp := Lay.mem.2 (by rw [eo]; simp)
 refine ⟨h.g0, h.mv.trans (Mv.set (F := [g]) W (by simp)) (by intro b hb; rw [List.mem_singleton.1 hb]; exact hf _ gm), h.ng, L, e, ?_, hf⟩
 refine T.newS (fun j hj => heap_setCell_other W ⟨g, i, none⟩ j _ (fun z => hj (by rw [eo, z]; simp))) rfl ?_ rfl rfl rfl rfl rfl rfl
 have := (ho.stored i (.bool b)).1
 show RowAt _ _ 1 L.s (t.stops.set i b).length (zy (t.stops.set i b))
 rw [ec, List.length_set, QM]
 exact RowAt.of_own this (by omega)
def xOf (W : World) (tb : Nat) : Int := match W.cell? ⟨tb, 3, none⟩ with
 | some (.int _ x) => x
 | _ => 0
theorem St.xOf (h : St w0 F0 tb t W) : xOf W tb = t.cur.x := by
 obtain ⟨L, B⟩ := h.bk
 have k := B.c 3 _ rfl
 unfold Go.Proofs.YtmaofighbpnbiaaGreatDoor.xOf
 rw [k]
theorem Q7 {l : List Bool} {i : Nat} (h : i < l.length) : (zy l)[i]? = some (.bool (l.getD i false)) := by
 unfold zy
 rw [List.getElem?_map, List.getElem?_eq_getElem h, List.getD_eq_getElem?_getD, List.getElem?_eq_getElem h]
 rfl
end
end
section
open Go Go.RowKit Go.Sort
section
variable {w0 : World} {F0 : List Nat} {tb : Nat} {t t' : Trm} {W W' : World} {L : Lay}
def vF (T : TypeId) : Prop := T ≠ 104 /\ T ≠ 116 /\ T ≠ 79 /\ T ≠ 4 /\ T ≠ 5
instance (T : TypeId) : Decidable (vF T) := by unfold vF; infer_instance
theorem TrmAt.notTy {L : Lay} (T : TrmAt W L t) {g : Nat} {cur : Array Value} {fl : Nat × Nat} {Ty : TypeId} (hg : W.heap[g]? = some (.cells cur Ty fl)) (o : vF Ty) : g ∉ L.fp := by
 intro m
 obtain ⟨o1, o2, o3, o4, o5⟩ := o
 have no : ∀ {cur : Array Value} {T' : TypeId} {f2 : Nat × Nat}, W.heap[g]? = some (.cells cur T' f2) -> Ty ≠ T' -> False := fun k ne => by
  rw [hg] at k
  cases k
  exact ne rfl
 rcases Lay.mem.1 m with rfl | rfl | m | m | m | m | m | m | m
 ·have := T.own; unfold Bk at this; exact no this o1
 ·obtain ⟨_, k⟩ := T.utf.kind; unfold Bk at k; exact no k o2
 ·obtain ⟨_, k⟩ := T.c.kind g m; exact no k o3
 ·obtain ⟨_, k⟩ := T.a.kind g m; exact no k o3
 ·obtain ⟨_, k⟩ := T.s.kind g m; exact no k o4
 ·obtain ⟨_, k⟩ := T.w.kind g m; exact no k o4
 ·obtain ⟨_, k⟩ := T.r.kind g m; exact no k o5
 ·obtain ⟨_, k⟩ := T.h.kind g m; exact no k o5
 ·obtain ⟨_, k⟩ := T.k.kind g m; exact no k o5
theorem St.hold (h : St w0 F0 tb t W) : ∃ F, St W F tb t W /\ (∀ t' W', St W F tb t' W' -> St w0 F0 tb t' W') /\ (∀ b ∈ F, b < W.heap.size) /\ ∀ (g : Nat) (cur : Array Value) (Ty : TypeId) (fl : Nat × Nat), W.heap[g]? = some (.cells cur Ty fl) -> vF Ty -> g ∉ F := by
 obtain ⟨L, e, T, h1, up⟩ := h.from
 exact ⟨L.fp, h1, up, T.lt, fun g cur Ty fl hg o => T.notTy hg o⟩
theorem St.keepB {Q : World} {F : List Nat} (h : St Q F tb t W) {g : Nat} {vs : List Value} {Ty : TypeId} (K : Bk Q g vs Ty) (nf : g ∉ F) : Bk W g vs Ty := K.of_eq (h.mv.blk g K.lt nf)
end
end
section
open Go Go.RowKit Go.Sort
section
variable {w0 : World} {F0 : List Nat} {tb : Nat} {t t' : Trm} {W W' : World} {L : Lay}
theorem Vr : ∀ (l : List Cel) (i : Nat), i < l.length -> (zd l)[i * 5]? = some (.string (l.getD i celD).text) /\ (zd l)[i * 5 + 1]? = some (.int .i8 (l.getD i celD).wide) /\ (zd l)[i * 5 + 2]? = some (.int .i32 (l.getD i celD).st.fg) /\ (zd l)[i * 5 + 3]? = some (.int .i32 (l.getD i celD).st.bg) /\ (zd l)[i * 5 + 4]? = some (.int .u8 (bI (l.getD i celD).st.at_))
 | [], i, h => by simp at h
 | a :: r, 0, h => by
  rw [jw]
  simp [celV]
 | a :: r, i + 1, h => by
  have q := Vr r i (by simpa using h)
  rw [jw]
  rw [show (i + 1) * 5 = i * 5 + 5 by omega]
  simpa [celV] using q
theorem St.cellC (h : St w0 F0 tb t W) (i : Nat) (hi : i < t.cells.length) : ∃ L g cap, Bk W tb (trmV t L) 104 /\ L.c = .slice (some ⟨g, 0, none⟩) t.cells.length cap /\ t.cells.length <= cap /\
  ∀ W', Below W.heap.size W W' -> W'.cell? ⟨g, i * 5, none⟩ = some (.string (t.cell i).text) /\ W'.cell? ⟨g, i * 5 + 1, none⟩ = some (.int .i8 (t.cell i).wide) /\ W'.cell? ⟨g, i * 5 + 2, none⟩ = some (.int .i32 (t.cell i).st.fg) /\ W'.cell? ⟨g, i * 5 + 3, none⟩ = some (.int .i32 (t.cell i).st.bg) /\ W'.cell? ⟨g, i * 5 + 4, none⟩ = some (.int .u8 (bI (t.cell i).st.at_)) := by
 obtain ⟨L, g, cap, B, ec, hc, ho, _⟩ := h.rowC (by omega)
 refine ⟨L, g, cap, B, ec, hc, fun W' hb => ?_⟩
 have ho' : W'.ownsRow 0 79 5 (.slice (some ⟨g, 0, none⟩) t.cells.length cap) t.cells.length (zd t.cells) := X8 ho (fun j e => by cases e; exact hb.block _ (ho.lt g rfl).2)
 obtain ⟨z0, z1, z2, z3, z4⟩ := Vr t.cells i hi
 exact ⟨(ho'.cellAt (i * 5) (by omega)).trans z0, (ho'.cellAt (i * 5 + 1) (by omega)).trans z1, (ho'.cellAt (i * 5 + 2) (by omega)).trans z2, (ho'.cellAt (i * 5 + 3) (by omega)).trans z3, (ho'.cellAt (i * 5 + 4) (by omega)).trans z4⟩
def xM (t : Trm) (K : Nat) : Nat -> Trm
 | 0 => t
 | k + 1 => putT (xM t K k) (K + k) (blkS (t.cell (K + k)).st)
theorem Vs (t : Trm) (K : Nat) : ∀ k, Cw t (xM t K k)
 | 0 => Cw.refl t
 | k + 1 => (Vs t K k).trans (xB _ _ _)
theorem zcj (t : Trm) (K k : Nat) (h : k < 2) : (xM t K k).cell (K + k) = t.cell (K + k) := by
 have : k = 0 \/ k = 1 := by omega
 rcases this with rfl | rfl
 ·rfl
 ·show (putT t (K + 0) _).cell (K + 1) = _
  exact Xi _ _ _ _ (by omega)
set_option maxHeartbeats 4000000 in
set_option maxRecDepth 100000 in
theorem vG (h : St w0 F0 tb t W) (f : Fine t) (x y : Int) (y0 : 0 <= y) (y1 : y < t.h) (vp : Value) (hvp : W.cell? ⟨tb, 2, none⟩ = some vp) : Calls Tryz.prog 132 #[.pointer (some ⟨tb, 0, none⟩), .int .i64 x, .int .i64 y] W (Vp w0 F0 tb (zg t x y) vp) := by
 have VW : Hid (∀ dq osq, (grow (redrawn W dq) osq).cell? ⟨tb, 2, none⟩ = some vp) := zdy (fun dq osq => ((below_regrown W dq osq).cell (p := ⟨tb, 2, none⟩) h.lt).trans hvp)
 clear hvp
 by_cases c1 : x <= 0
 ·have e0 : zg t x y = t := by unfold zg; rw [if_pos (Or.inl c1)]
  rw [e0]
  have HH := zdy h
  clear h f e0
  go_enter Tryz.func132, Tryz.ntmps132
  go_wp2_with fail
  refine zf 30 (by kernel_rfl) (by kernel_rfl) ?_
  simp only [zdB, zdC, zdD, zdE]
  repeat (first | go_big_quiet_step (fail) | quiet_step (fail))
  refine wpQuiet_nil ?_
  intro _ hw'
  obtain ⟨⟨dq, osq⟩, hw''⟩ := hw'
  subst hw''
  go_wp2_with fail
  go_end0
  exact ⟨⟨⟨_, rfl⟩, HH.out.below (below_regrown W dq osq)⟩, VW.out dq osq⟩
 by_cases c2 : t.w <= x
 ·have e0 : zg t x y = t := by unfold zg; rw [if_pos (Or.inr (Or.inl c2))]
  rw [e0]
  have HH := zdy h
  obtain ⟨L1, B1⟩ := HH.out.bk
  dsimp only [trmV, setX, setY] at B1
  have k0 := B1.c 0 _ rfl
  have kf0 := B1.f 0
  clear B1
  clear h f e0 k0 kf0
  obtain ⟨L1, B1⟩ := HH.out.bk
  dsimp only [trmV, setX, setY] at B1
  have k0 := fun d os => (B1.regrown d os).c 0 _ rfl
  clear B1
  go_enter Tryz.func132, Tryz.ntmps132
  go_wp2_with fail
  refine zf 30 (by kernel_rfl) (by kernel_rfl) ?_
  simp only [zdB, zdC, zdD, zdE]
  repeat (first | go_big_quiet_step (fail) | quiet_step (fail))
  refine wpQuiet_nil ?_
  intro _ hw'
  obtain ⟨⟨dq, osq⟩, hw''⟩ := hw'
  subst hw''
  go_wp2_with fail
  go_end0
  exact ⟨⟨⟨_, rfl⟩, HH.out.below (below_regrown W dq osq)⟩, VW.out dq osq⟩
 have r := f.row y0 y1
 have w0' := f.w0
 have w1 := f.w1
 have ar := f.ar
 have cl := f.cl
 have wl := f.wl
 obtain ⟨K, eK⟩ : ∃ K : Nat, y * t.w + x = ((K + 1 : Nat) : Int) := ⟨(y * t.w + x).toNat - 1, by omega⟩
 have eN : (y * t.w + x).toNat = K + 1 := by omega
 have hK : K + 1 < t.cells.length := by omega
 have m1 := zdz (y * t.w) (by omega)
 have m2 : IntKind.i64.wrap (y * t.w + x) = ((K + 1 : Nat) : Int) := by rw [eK]; exact zdz _ (by omega)
 have m3 : IntKind.i64.wrap (((K + 1 : Nat) : Int) - 1) = (K : Int) := by rw [zdz _ (by omega)]; omega
 have m4 := zdz ((K : Int) + 1) (by omega)
 have m5 : IntKind.i64.wrap ((K : Int) + 1 + 1) = (K : Int) + 2 := by rw [zdz _ (by omega)]; omega
 obtain ⟨L1, g, cap, B1, ec, hc, fs⟩ := h.cellC (K + 1) hK
 have HF := zdy fs
 have k0 := fun d os => (B1.regrown d os).c 0 _ rfl
 have k2 : ∀ d os, (grow (redrawn W d) os).cell? ⟨tb, 2, none⟩ = some (.slice (some ⟨g, 0, none⟩) t.cells.length cap) := fun d os => by rw [<- ec]; exact (B1.regrown d os).c 2 _ rfl
 have q1 := fun d os => (HF.out _ (below_regrown W d os)).2.1
 have HH := zdy h
 have HI := zdy f
 clear B1 fs h f HF ec
 have j0 := k0 W.drawn #[]
 have i0 : (0 : Int) <= (K : Int) + 1 := by omega
 have i1 : (K : Int) + 1 < (t.cells.length : Int) := by omega
 have kb : (K : Int) <= 1048576 := by omega
 have EK := zdy eK
 have EN := zdy eN
 have CL := zdy cl
 have WL := zdy wl
 by_cases c3 : (t.cell (K + 1)).wide = 0
 ·have e0 : zg t x y = xM t K 2 := by
   unfold zg
   rw [if_neg (by rw [eN]; omega), eN]
   rfl
  rw [e0]
  rw [c3] at q1
  clear c3 e0 eK eN cl wl hc r ar hK
  go_enter Tryz.func132, Tryz.ntmps132
  go_wp2_with fail
  refine zf 30 (by kernel_rfl) (by kernel_rfl) ?_
  simp only [zdB, zdC, zdD, zdE]
  repeat (first | go_big_quiet_step (fail) | quiet_step (fail))
  refine wpQuiet_nil ?_
  intro _ hw'
  obtain ⟨⟨dq, osq⟩, hw''⟩ := hw'
  subst hw''
  have HS : Hid (St w0 F0 tb (xM t K 0) (grow (redrawn W dq) osq)) := zdy (HH.out.below (below_regrown W dq osq))
  have VP := zdy (VW.out dq osq)
  generalize grow (redrawn W dq) osq = W1 at *
  clear k0 k2 q1 HH j0 VW
  obtain ⟨L1, B1⟩ := HS.out.bk
  dsimp only [trmV, setX, setY] at B1
  have k0 := B1.c 0 _ rfl
  have kf0 := B1.f 0
  clear B1
  dsimp only [xM] at k0
  go_wp2_with fail
  clear k0 kf0
  go_loopw [6] (fun i wr => ∃ k : Nat, k <= 2 /\ i = .int .i64 ((K : Int) + k) /\ Hid (St w0 F0 tb (xM t K k) wr) /\ Hid (wr.cell? ⟨tb, 2, none⟩ = some vp)) (fun i _ => K + 2 - (intOf i).toNat)
  case atStart => exact ⟨0, by omega, by simp, HS, VP⟩
  case round =>
   obtain ⟨k, hk, rfl, hr, hvr⟩ := hrel
   clear HS VP
   have cw := Vs t K k
   have cc := cw.cl
   have ww := cw.w
   obtain ⟨L1, B1⟩ := hr.out.bk
   dsimp only [trmV, setX, setY] at B1
   have k0 := B1.c 0 _ rfl
   have kf0 := B1.f 0
   clear B1
   rw [ww] at k0
   by_cases lt : k < 2
   ·have le : (K : Int) + k <= (K : Int) + 1 := by omega
    have cl := CL.out
    obtain ⟨L1, g, cap, B1, ec, hc, fs⟩ := hr.out.cellC (K + k) (by omega)
    have k2 := B1.c 2 _ rfl
    rw [ec, cc] at k2
    obtain ⟨_, _, q2, q3, q4⟩ := fs wr (Below.refl _ wr)
    rw [zcj t K k lt] at q2 q3 q4
    have q0 : (0 : Int) <= (K : Int) + k := by omega
    have q1 : (K : Int) + k < (t.cells.length : Int) := by omega
    have BL := zdy (QZ (t.cell (K + k)).st wr)
    have PU : Hid (∀ W', Below wr.heap.size wr W' -> Calls Tryz.prog 133 #[.pointer (some ⟨tb, 0, none⟩), .int .i64 ((K : Int) + k), .agg (celV (blkS (t.cell (K + k)).st)).toArray] W' (Vp w0 F0 tb (xM t K (k + 1)) vp)) := zdy (fun W' hb => by
     have w2 := cw.wl
     have f := HI.out
     have := f.cl; have := f.wl; have := f.ar
     have := t_putP (hr.out.below hb) (K + k) (blkS (t.cell (K + k)).st) (by omega) (by omega) (by omega) vp ((hb.cell (p := ⟨tb, 2, none⟩) hr.out.lt).trans hvr.out)
     rw [show ((K + k : Nat) : Int) = (K : Int) + k by omega] at this
     exact this)
    have wk := zdz ((K : Int) + k + 1) (by omega)
    unfold celV blkS at PU
    unfold styV at BL
    clear B1 ec fs cw cc ww hr cl hc
    go_wp2_with fail
    refine BL.out.mono ?_; rintro e w2 ⟨rfl, hb⟩
    have PU := zdy (PU.out w2 hb)
    clear BL hb
    go_wp2_with fail
    refine PU.out.mono ?_; rintro e w3 ⟨⟨⟨v, rfl⟩, h3⟩, p3⟩
    have H3 := zdy h3
    have P3 := zdy p3
    clear h3 p3 PU
    go_wp2_with fail
    go_roundw
    case rel => exact ⟨k + 1, by omega, by go_num, H3, P3⟩
    case measure => simp [intOf]; omega
   ·have e : k = 2 := by omega
    subst e
    clear cc ww cw
    go_wp2_with fail
    go_end0
    exact ⟨⟨⟨_, rfl⟩, hr.out⟩, hvr.out⟩
 ·have e0 : zg t x y = t := by
   unfold zg
   rw [if_pos (by rw [eN]; omega)]
  rw [e0]
  have c4 : ((t.cell (K + 1)).wide == 0) = false := by simpa using c3
  have c5 : ((t.cell (K + 1)).wide != 0) = true := by simpa using c3
  clear e0 eK eN cl wl hc r ar hK
  go_enter Tryz.func132, Tryz.ntmps132
  go_wp2_with fail
  refine zf 30 (by kernel_rfl) (by kernel_rfl) ?_
  simp only [zdB, zdC, zdD, zdE]
  repeat (first | go_big_quiet_step (fail) | quiet_step (fail))
  refine wpQuiet_nil ?_
  intro _ hw'
  obtain ⟨⟨dq, osq⟩, hw''⟩ := hw'
  subst hw''
  go_wp2_with fail
  go_end0
  exact ⟨⟨⟨_, rfl⟩, HH.out.below (below_regrown W dq osq)⟩, VW.out dq osq⟩
theorem Zt (h : St w0 F0 tb t W) (f : Fine t) (x y : Int) (y0 : 0 <= y) (y1 : y < t.h) : Calls Tryz.prog 132 #[.pointer (some ⟨tb, 0, none⟩), .int .i64 x, .int .i64 y] W (Vd w0 F0 tb (zg t x y)) := by
 obtain ⟨L, B⟩ := h.bk
 exact (vG h f x y y0 y1 _ (B.c 2 _ rfl)).mono fun _ _ k => k.1
end
end
section
open Go Go.RowKit Go.Sort
section
variable {w0 : World} {F0 : List Nat} {tb : Nat} {t t' : Trm} {W W' : World} {L : Lay}
theorem write_eq (t : Trm) (x y : Int) (s : ByteArray) (n : Int) (st : Sty) : zI t x y s n st = if n = 2 then putT (putT (zg (zg t x y) (x + n) y) (y * t.w + x).toNat ⟨s, n, st⟩) ((y * t.w + x).toNat + 1) ⟨zB, 0, st⟩ else putT (zg (zg t x y) (x + n) y) (y * t.w + x).toNat ⟨s, n, st⟩ := rfl
set_option maxHeartbeats 4000000 in
set_option maxRecDepth 100000 in
theorem Zu (h : St w0 F0 tb t W) (f : Fine t) (x y : Int) (s : ByteArray) (n : Int) (st : Sty) (x0 : 0 <= x) (x1 : x < t.w) (xn : x + n <= t.w) (y0 : 0 <= y) (y1 : y < t.h) (n2 : n = 0 \/ n = 1 \/ n = 2) : Calls Tryz.prog 95 #[.pointer (some ⟨tb, 0, none⟩), .int .i64 x, .int .i64 y, .agg #[.string s, .int .i64 n], styV st.fg st.bg st.at_] W (Vd w0 F0 tb (zI t x y s n st)) := by
 obtain ⟨Q, hQ⟩ : ∃ Q, Q = (W.alloc (.cells #[.string s, .int .i64 n] 142)).alloc (.cells #[.int .i32 st.fg, .int .i32 st.bg, .int .u8 (bI st.at_)] 77) := ⟨_, rfl⟩
 have BQ : Below W.heap.size W Q := by rw [hQ]; exact ((Below.refl _ W).alloc zdA _).alloc (by simp) _
 have KC : Bk Q W.heap.size [.string s, .int .i64 n] 142 := by
  rw [hQ]
  have := Bk.new W [.string s, .int .i64 n] 142
  exact this.of_eq ((((Below.refl _ _).alloc zdA _).block _ (by simp)))
 have KS : Bk Q (W.heap.size + 1) [.int .i32 st.fg, .int .i32 st.bg, .int .u8 (bI st.at_)] 77 := by
  rw [hQ]
  have := Bk.new (W.alloc (.cells #[.string s, .int .i64 n] 142)) [.int .i32 st.fg, .int .i32 st.bg, .int .u8 (bI st.at_)] 77
  simpa using this
 obtain ⟨F, hF, up, lo, oth⟩ := (h.below BQ).hold
 have NC : W.heap.size ∉ F := oth _ _ _ _ KC (by decide)
 have NS : W.heap.size + 1 ∉ F := oth _ _ _ _ KS (by decide)
 have UP := zdy (up (zI t x y s n st))
 have row := f.row y0 y1
 have w0' := f.w0
 have w1 := f.w1
 have ar := f.ar
 have cl := f.cl
 have wl := f.wl
 have c1 := qv t x y
 have c2 := c1.trans (qv (zg t x y) (x + n) y)
 obtain ⟨I, eI⟩ : ∃ I : Nat, y * t.w + x = (I : Int) := ⟨(y * t.w + x).toNat, by omega⟩
 have eN : (y * t.w + x).toNat = I := by omega
 have WE := zdy (write_eq t x y s n st)
 rw [eN] at WE
 have C1 : Hid (∀ W', Below Q.heap.size Q W' -> Calls Tryz.prog 132 #[.pointer (some ⟨tb, 0, none⟩), .int .i64 x, .int .i64 y] W' (Vd Q F tb (zg t x y))) := zdy (fun W' hb => Zt (hF.below hb) f x y y0 y1)
 have C2 : Hid (∀ W', St Q F tb (zg t x y) W' -> Calls Tryz.prog 132 #[.pointer (some ⟨tb, 0, none⟩), .int .i64 (x + n), .int .i64 y] W' (Vd Q F tb (zg (zg t x y) (x + n) y))) := zdy (fun W' hs => Zt hs (f.cw c1) (x + n) y y0 (by rw [c1.h]; exact y1))
 have ul := c2.cl
 have uw := c2.wl
 have ue := c2.w
 have I1 : I + n.toNat <= t.cells.length := by omega
 have I2 : I < t.cells.length := by omega
 generalize hu : zg (zg t x y) (x + n) y = u at *
 have C3 : Hid (∀ W', St Q F tb u W' -> Calls Tryz.prog 133 #[.pointer (some ⟨tb, 0, none⟩), .int .i64 (I : Int), .agg #[.string s, .int .i8 n, .int .i32 st.fg, .int .i32 st.bg, .int .u8 (bI st.at_)]] W' (Vd Q F tb (putT u I ⟨s, n, st⟩))) := zdy (fun W' hs => t_put hs I ⟨s, n, st⟩ (by omega) (by omega) (by omega))
 have C4 : n = 2 -> Hid (∀ W', St Q F tb (putT u I ⟨s, n, st⟩) W' -> Calls Tryz.prog 133 #[.pointer (some ⟨tb, 0, none⟩), .int .i64 ((I : Int) + 1), .agg #[.string ⟨#[]⟩, .int .i8 0, .int .i32 st.fg, .int .i32 st.bg, .int .u8 (bI st.at_)]] W' (Vd Q F tb (putT (putT u I ⟨s, n, st⟩) (I + 1) ⟨zB, 0, st⟩))) := fun e2 => zdy (fun W' hs => by
  have cp := xB u I ⟨s, n, st⟩
  have := cp.cl
  have := cp.wl
  exact t_put hs (I + 1) ⟨zB, 0, st⟩ (by omega) (by omega) (by omega))
 have m1 := zdz (x + n) (by omega)
 have m2 := zdz (y * t.w) (by omega)
 have m3 := zdz (y * t.w + x) (by omega)
 have m4 : IntKind.i8.wrap n = n := by rcases n2 with rfl | rfl | rfl <;> rfl
 have m5 := zdz ((I : Int) + 1) (by omega)
 have EI := zdy eI
 have UE := zdy ue
 have KC := zdy KC
 have KS := zdy KS
 have C4 := zdy C4
 unfold styV
 clear hu c1 c2 h f BQ up lo oth eI eN ul uw ue cl wl hF
 go_enter Tryz.func95, Tryz.ntmps95
 go_upto_region 1 with fail
 rw [<- hQ]
 clear hQ
 go_wp2_with fail
 refine (C1.out Q (Below.refl _ Q)).mono ?_; rintro e w1 ⟨⟨v, rfl⟩, h1⟩
 have H1 := zdy h1
 have K1 := zdy (h1.keepB KC.out NC)
 have C2 := zdy (C2.out w1 h1)
 clear C1 h1
 have k1 := K1.out.c 1 _ rfl
 have kf1 := K1.out.f 1
 go_wp2_with fail
 refine C2.out.mono ?_; rintro e w2 ⟨⟨v, rfl⟩, h1⟩
 have H2 := zdy h1
 have C3 := zdy (C3.out w2 h1)
 have K1 := zdy (h1.keepB KC.out NC)
 have K2 := zdy (h1.keepB KS.out NS)
 clear C2 h1 H1 k1 kf1
 obtain ⟨L1, B1⟩ := H2.out.bk
 dsimp only [trmV, setX, setY] at B1
 have j0 := B1.c 0 _ rfl
 have jf0 := B1.f 0
 clear B1
 rw [UE.out] at j0
 have k0 := K1.out.c 0 _ rfl
 have kf0 := K1.out.f 0
 have k1 := K1.out.c 1 _ rfl
 have kf1 := K1.out.f 1
 have i0 := K2.out.c 0 _ rfl
 have if0 := K2.out.f 0
 have i1 := K2.out.c 1 _ rfl
 have if1 := K2.out.f 1
 have i2 := K2.out.c 2 _ rfl
 have if2 := K2.out.f 2
 go_upto_region 4 with fail
 rw [EI.out]
 clear j0 jf0
 go_wp2_with fail
 refine C3.out.mono ?_; rintro e w3 ⟨⟨v, rfl⟩, h1⟩
 have H3 := zdy h1
 have K1 := zdy (h1.keepB KC.out NC)
 have K2 := zdy (h1.keepB KS.out NS)
 clear C3 h1 H2 k0 kf0 k1 kf1 i0 if0 i1 if1 i2 if2
 have k1 := K1.out.c 1 _ rfl
 have kf1 := K1.out.f 1
 have i0 := K2.out.c 0 _ rfl
 have if0 := K2.out.f 0
 have i1 := K2.out.c 1 _ rfl
 have if1 := K2.out.f 1
 have i2 := K2.out.c 2 _ rfl
 have if2 := K2.out.f 2
 by_cases e2 : n = 2
 ·have C4 := zdy ((C4.out e2).out w3 H3.out)
  rw [e2] at k1
  have WE : Hid (zI t x y s n st = putT (putT u I ⟨s, n, st⟩) (I + 1) ⟨zB, 0, st⟩) := zdy (by rw [WE.out, if_pos e2])
  clear H3 m4 n2 e2
  go_wp2_with fail
  refine C4.out.mono ?_; rintro e w4 ⟨⟨v, rfl⟩, h1⟩
  have H4 := zdy h1
  clear C4 h1
  go_wp2_with fail
  go_end0
  exact ⟨⟨_, rfl⟩, UP.out _ (by rw [WE.out]; exact H4.out)⟩
 ·have WE : Hid (zI t x y s n st = putT u I ⟨s, n, st⟩) := zdy (by rw [WE.out, if_neg e2])
  have c4 : (n == 2) = false := by simpa using e2
  clear n2 C4
  go_wp2_with fail
  go_end0
  exact ⟨⟨_, rfl⟩, UP.out _ (by rw [WE.out]; exact H3.out)⟩
end
end
section
open Go Go.RowKit Go.Sort
section
variable {w0 : World} {F0 : List Nat} {tb : Nat} {t t' : Trm} {W W' : World} {L : Lay}
theorem erase_eq (t : Trm) (a e : Int) : qd t a e = zm (if e < t.cells.length then zg (zg t (a % t.w) (a / t.w)) (e % t.w) (e / t.w) else zg t (a % t.w) (a / t.w)) a.toNat (e - a).toNat := by
 have := (qv t (a % t.w) (a / t.w)).cl
 unfold qd
 simp only
theorem Q8 {t : Trm} (f : Fine t) (p : zk t) {b : Int} (b0 : 0 <= b) (bl : b < t.cells.length) : 0 <= b / t.w /\ b / t.w < t.h /\ 0 <= b % t.w /\ b % t.w < t.w := by
 have cl := f.cl
 have w0 := p.1
 exact ⟨Int.ediv_nonneg b0 (by omega), Int.ediv_lt_of_lt_mul w0 (by rw [Int.mul_comm]; omega), Int.emod_nonneg _ (by omega), Int.emod_lt_of_pos b w0⟩
set_option maxHeartbeats 4000000 in
set_option maxRecDepth 100000 in
theorem t_erase (h : St w0 F0 tb t W) (f : Fine t) (p : zk t) (A N : Nat) (al : A < t.cells.length) (el : A + N <= t.cells.length) : Calls Tryz.prog 141 #[.pointer (some ⟨tb, 0, none⟩), .int .i64 A, .int .i64 ((A : Int) + N)] W (Vd w0 F0 tb (qd t A ((A : Int) + N))) := by
 have EQ := zdy (erase_eq t A ((A : Int) + N))
 have w0' := p.1
 have w1 := f.w1
 have ar := f.ar
 have cl := f.cl
 have wl := f.wl
 obtain ⟨r1, r2, r3, r4⟩ := Q8 f p (b := (A : Int)) (by omega) (by omega)
 have hh := f.h1
 have d1 : (A : Int).tmod t.w = (A : Int) % t.w := Int.tmod_eq_emod_of_nonneg (by omega)
 have d2 : (A : Int).tdiv t.w = (A : Int) / t.w := Int.tdiv_eq_ediv_of_nonneg (by omega)
 have d3 := zdz ((A : Int) % t.w) (by omega)
 have d4 := zdz ((A : Int) / t.w) (by omega)
 have wz : (t.w == 0) = false := by simpa using (show t.w ≠ 0 by omega)
 have s1 := qv t ((A : Int) % t.w) ((A : Int) / t.w)
 have H1 := zdy h
 have C1 : Hid (∀ W', St w0 F0 tb t W' -> Calls Tryz.prog 132 #[.pointer (some ⟨tb, 0, none⟩), .int .i64 ((A : Int) % t.w), .int .i64 ((A : Int) / t.w)] W' (Vd w0 F0 tb (zg t ((A : Int) % t.w) ((A : Int) / t.w)))) := zdy (fun W' hs => Zt hs f _ _ r1 r2)
 have f1 := f.cw s1
 have C3 : Hid (∀ u W', Cw t u -> St w0 F0 tb u W' -> Calls Tryz.prog 105 #[.pointer (some ⟨tb, 0, none⟩), .int .i64 (A : Int), .int .i64 (N : Int)] W' (Vd w0 F0 tb (zm u A N))) := zdy (fun u W' cu hs => by
  have := cu.cl
  have := cu.wl
  exact kO hs A N (by omega) (by omega) (by omega))
 have m1 : IntKind.i64.wrap ((A : Int) + N - A) = N := by rw [show (A : Int) + N - A = N by omega]; exact zdz _ (by omega)
 have sl := s1.cl
 have sw := s1.w
 have C2 : (A : Int) + N < t.cells.length -> Hid (∀ W', St w0 F0 tb (zg t ((A : Int) % t.w) ((A : Int) / t.w)) W' -> Calls Tryz.prog 132 #[.pointer (some ⟨tb, 0, none⟩), .int .i64 (((A : Int) + N) % t.w), .int .i64 (((A : Int) + N) / t.w)] W' (Vd w0 F0 tb (zg (zg t ((A : Int) % t.w) ((A : Int) / t.w)) (((A : Int) + N) % t.w) (((A : Int) + N) / t.w)))) := fun lt => zdy (fun W' hs => by
  obtain ⟨q1, q2, q3, q4⟩ := Q8 f p (b := (A : Int) + N) (by omega) lt
  exact Zt hs f1 _ _ q1 (by rw [s1.h]; exact q2))
 have S1 := zdy s1
 have CWS : Hid (Cw t (zg (zg t ((A : Int) % t.w) ((A : Int) / t.w)) (((A : Int) + N) % t.w) (((A : Int) + N) / t.w))) := zdy (s1.trans (qv _ _ _))
 have C2 := zdy C2
 have QD := zdy (fun lt => Q8 f p (b := (A : Int) + N) (by omega) lt)
 have hA := zdy (show (A : Int).toNat = A /\ ((A : Int) + N - A).toNat = N by omega)
 have CLN : Hid (0 < t.cells.length) := zdy (by omega)
 have SL := zdy sl
 have SW := zdy sw
 clear h f p r1 r2 s1 f1 cl wl sl sw
 go_enter Tryz.func141, Tryz.ntmps141
 go_wp2_with fail
 obtain ⟨L1, B1⟩ := H1.out.bk
 dsimp only [trmV, setX, setY] at B1
 have k0 := fun d os => (B1.regrown d os).c 0 _ rfl
 clear B1
 refine zf 15 (by kernel_rfl) (by kernel_rfl) ?_
 simp only [zdB, zdC, zdD, zdE]
 repeat (first | go_big_quiet_step (fail) | quiet_step (fail))
 refine wpQuiet_nil ?_
 intro _ hw'
 obtain ⟨⟨dq, osq⟩, hw''⟩ := hw'
 subst hw''
 have H1 := zdy (H1.out.below (below_regrown W dq osq))
 clear k0
 generalize grow (redrawn W dq) osq = W1 at *
 have C1 := zdy (C1.out W1 H1.out)
 clear d1 d2 d3 d4 r3 r4
 go_wp2_with fail
 refine C1.out.mono ?_; rintro e w2 ⟨⟨v, rfl⟩, h1⟩
 have H2 := zdy h1
 clear h1
 clear C1 H1
 obtain ⟨L2, g, cap, B, ec, hc, _, _⟩ := H2.out.rowC (by rw [SL.out]; exact CLN.out)
 have k2 := B.c 2 _ rfl
 have kf2 := B.f 2
 rw [ec, SL.out] at k2
 clear B ec hc
 by_cases lt : (A : Int) + N < t.cells.length
 ·obtain ⟨q1, q2, q3, q4⟩ := QD.out lt
  have d1 : ((A : Int) + N).tmod t.w = ((A : Int) + N) % t.w := Int.tmod_eq_emod_of_nonneg (by omega)
  have d2 : ((A : Int) + N).tdiv t.w = ((A : Int) + N) / t.w := Int.tdiv_eq_ediv_of_nonneg (by omega)
  have d3 := zdz (((A : Int) + N) % t.w) (by omega)
  have d4 := zdz (((A : Int) + N) / t.w) (by omega)
  have C2 := zdy ((C2.out lt).out)
  have EQ : Hid (qd t A ((A : Int) + N) = zm (zg (zg t ((A : Int) % t.w) ((A : Int) / t.w)) (((A : Int) + N) % t.w) (((A : Int) + N) / t.w)) A N) := zdy (by rw [EQ.out, if_pos lt, hA.out.1, hA.out.2])
  clear q1 q2
  go_upto_region 2 with fail
  clear k2 kf2
  obtain ⟨L1, B1⟩ := H2.out.bk
  dsimp only [trmV, setX, setY] at B1
  have k0 := fun d os => (B1.regrown d os).c 0 _ rfl
  clear B1
  simp only [SW.out] at k0
  refine zf 15 (by kernel_rfl) (by kernel_rfl) ?_
  simp only [zdB, zdC, zdD, zdE]
  repeat (first | go_big_quiet_step (fail) | quiet_step (fail))
  refine wpQuiet_nil ?_
  intro _ hw'
  obtain ⟨⟨dq, osq⟩, hw''⟩ := hw'
  subst hw''
  have H2 := zdy (H2.out.below (below_regrown w2 dq osq))
  clear k0
  generalize grow (redrawn w2 dq) osq = w3 at *
  have C2 := zdy (C2.out w3 H2.out)
  clear d1 d2 d3 d4 q3 q4
  go_wp2_with fail
  refine C2.out.mono ?_; rintro e w4 ⟨⟨v, rfl⟩, h1⟩
  have H3 := zdy h1
  clear h1
  clear C2 H2
  have C3 := zdy (C3.out _ w4 CWS.out H3.out)
  go_wp2_with fail
  refine C3.out.mono ?_; rintro e w5 ⟨⟨v, rfl⟩, h1⟩
  have H4 := zdy h1
  clear h1
  clear C3
  go_wp2_with fail
  go_end0
  exact ⟨⟨_, rfl⟩, by rw [EQ.out]; exact H4.out⟩
 ·have EQ : Hid (qd t A ((A : Int) + N) = zm (zg t ((A : Int) % t.w) ((A : Int) / t.w)) A N) := zdy (by rw [EQ.out, if_neg lt, hA.out.1, hA.out.2])
  have C3 := zdy (C3.out _ w2 S1.out H2.out)
  go_wp2_with fail
  refine C3.out.mono ?_; rintro e w4 ⟨⟨v, rfl⟩, h1⟩
  have H4 := zdy h1
  clear h1
  clear C3
  go_wp2_with fail
  go_end0
  exact ⟨⟨_, rfl⟩, by rw [EQ.out]; exact H4.out⟩
theorem ka (h : St w0 F0 tb t W) (f : Fine t) (p : zk t) (a e : Int) (a0 : 0 <= a) (al : a < t.cells.length) (ae : a <= e) (el : e <= t.cells.length) : Calls Tryz.prog 141 #[.pointer (some ⟨tb, 0, none⟩), .int .i64 a, .int .i64 e] W (Vd w0 F0 tb (qd t a e)) := by
 obtain ⟨A, rfl⟩ := Int.eq_ofNat_of_zero_le a0
 obtain ⟨N, hN⟩ := Int.eq_ofNat_of_zero_le (show 0 <= e - (A : Int) by omega)
 have : e = (A : Int) + N := by omega
 subst this
 exact t_erase h f p A N (by omega) (by omega)
set_option maxHeartbeats 4000000 in
set_option maxRecDepth 100000 in
theorem zck (h : St w0 F0 tb t W) (f : Fine t) (p : zk t) (n : Nums) (A : Option Addr) (c : Nat) (hn : NumAt W n A c) : Calls Tryz.prog 124 #[.pointer (some ⟨tb, 0, none⟩), numV n A c] W (Vd w0 F0 tb (qd t (t.cur.y * t.w + t.cur.x) (t.cur.y * t.w + t.cur.x + min (n.count 0) (t.w - t.cur.x)))) := by
 obtain ⟨Q, hQ⟩ : ∃ Q, Q = W.alloc (.cells [.int .u8 n.prefix_, .slice A n.list.length c, .bool n.void].toArray 129) := ⟨_, rfl⟩
 have BQ : Below W.heap.size W Q := by rw [hQ]; exact (Below.refl _ W).alloc zdA _
 have KQ : Bk Q W.heap.size [.int .u8 n.prefix_, .slice A n.list.length c, .bool n.void] 129 := by rw [hQ]; exact Bk.new W _ _
 have H1 := zdy (h.below BQ)
 have KH := zdy KQ
 have CT := zdy (fun W' (hb : Below Q.heap.size Q W') => je n A c 0 W' ((hn.below BQ).below hb))
 obtain ⟨z0, z1⟩ := qQ hn 0
 have x0 := f.x0
 have y0 := f.y0
 have w1 := f.w1
 have xw : t.cur.x < t.w := by have := f.cx; have := p.1; omega
 have yh : t.cur.y < t.h := by have := f.cy; have := p.2; omega
 have r := f.row y0 yh
 have cl := f.cl
 have ar := f.ar
 have C1 : Hid (∀ W', St w0 F0 tb t W' -> Calls Tryz.prog 141 #[.pointer (some ⟨tb, 0, none⟩), .int .i64 (t.cur.y * t.w + t.cur.x), .int .i64 (t.cur.y * t.w + t.cur.x + min (n.count 0) (t.w - t.cur.x))] W' (Vd w0 F0 tb (qd t (t.cur.y * t.w + t.cur.x) (t.cur.y * t.w + t.cur.x + min (n.count 0) (t.w - t.cur.x))))) := zdy (fun W' hs => ka hs f p _ _ (by omega) (by omega) (by omega) (by omega))
 have m1 := zdz (t.cur.y * t.w) (by omega)
 have m2 := zdz (t.cur.y * t.w + t.cur.x) (by omega)
 have m3 := zdz (t.w - t.cur.x) (by omega)
 have m4 := zdz (t.cur.y * t.w + t.cur.x + min (n.count 0) (t.w - t.cur.x)) (by omega)
 unfold numV
 clear KQ BQ hn h f p cl r ar
 generalize n.count 0 = z at *
 go_enter Tryz.func124, Tryz.ntmps124
 go_upto_region 1 with fail
 rw [<- hQ]
 clear hQ
 obtain ⟨Q1, eQ⟩ : ∃ Q1, Q1 = Q := ⟨_, rfl⟩
 rw [<- eQ] at H1 ⊢
 have BE : Hid (Below Q.heap.size Q Q1) := zdy (by rw [eQ]; exact Below.refl _ _)
 clear eQ
 obtain ⟨L1, B1⟩ := H1.out.bk
 dsimp only [trmV, setX, setY] at B1
 have k0 := fun d os => (B1.regrown d os).c 0 _ rfl
 have k3 := fun d os => (B1.regrown d os).c 3 _ rfl
 have k4 := fun d os => (B1.regrown d os).c 4 _ rfl
 clear B1
 refine zf 17 (by kernel_rfl) (by kernel_rfl) ?_
 simp only [zdB, zdC, zdD, zdE]
 repeat (first | go_big_quiet_step (fail) | quiet_step (fail))
 refine wpQuiet_nil ?_
 intro _ hw'
 obtain ⟨⟨dq, osq⟩, hw''⟩ := hw'
 subst hw''
 have H1 := zdy (H1.out.below (below_regrown Q1 dq osq))
 have BE := zdy (BE.out.trans ((below_regrown Q1 dq osq).mono BE.out.size))
 clear k0 k3 k4
 generalize grow (redrawn Q1 dq) osq = W1 at *
 go_wp2_with fail
 have CT := zdy (fun W' (hb : Below W1.heap.size W1 W') => CT.out W' (BE.out.trans (hb.mono BE.out.size)))
 have KH := zdy (KH.out.of_eq (BE.out.block _ KH.out.lt))
 clear BE
 have j0 := fun d os => ((KH.out).regrown d os).c 0 _ rfl
 have j1 := fun d os => ((KH.out).regrown d os).c 1 _ rfl
 have j2 := fun d os => ((KH.out).regrown d os).c 2 _ rfl
 obtain ⟨L1, B1⟩ := H1.out.bk
 dsimp only [trmV, setX, setY] at B1
 have k0 := fun d os => (B1.regrown d os).c 0 _ rfl
 have k3 := fun d os => (B1.regrown d os).c 3 _ rfl
 clear B1
 refine zf 18 (by kernel_rfl) (by kernel_rfl) ?_
 simp only [zdB, zdC, zdD, zdE]
 repeat (first | go_big_quiet_step (exact qa CT.out _ _) | quiet_step (exact qa CT.out _ _))
 refine wpQuiet_nil ?_
 intro _ hw'
 obtain ⟨⟨dq, osq⟩, hw''⟩ := hw'
 subst hw''
 have H1 := zdy (H1.out.below (below_regrown W1 dq osq))
 clear k0 k3
 generalize grow (redrawn W1 dq) osq = W2 at *
 have C1 := zdy (C1.out W2 H1.out)
 clear CT KH j0 j1 j2
 go_wp2_with fail
 refine C1.out.mono ?_; rintro e w4 ⟨⟨v, rfl⟩, h1⟩
 have H4 := zdy h1
 clear h1
 clear C1
 go_wp2_with fail
 go_end0
 exact ⟨⟨_, rfl⟩, H4.out⟩
end
end
section
open Go Go.RowKit Go.Sort
section
variable {w0 : World} {F0 : List Nat} {tb : Nat} {t t' : Trm} {W W' : World} {L : Lay}
theorem Zv {n : Nums} {A : Option Addr} {c : Nat} (hn : NumAt W n A c) (h1 : 0 < n.list.length) : ∃ ad, A = some ad /\ ∀ W', Below W.heap.size W W' -> W'.cell? ad = some (.int .i64 (n.list.getD 0 0)) := by
 obtain ⟨ad, eA, hb, hcell⟩ := hn.sees.at (k := 0) (by unfold ints; simpa using h1)
 refine ⟨ad, eA, fun W' hb' => ?_⟩
 have e1 : n.list.getD 0 0 = n.list[0] := by rw [List.getD_eq_getElem?_getD, List.getElem?_eq_getElem h1]; rfl
 have e2 : (ints n.list)[0]'(by unfold ints; simpa using h1) = .int .i64 n.list[0] := by unfold ints; simp
 have e3 : ad.add 0 = ad := by unfold Addr.add; rw [if_pos rfl]
 rw [e1, <- e2]
 rw [e3] at hcell
 exact (hb'.cell hb).trans hcell
set_option maxHeartbeats 4000000 in
set_option maxRecDepth 100000 in
theorem zcl (h : St w0 F0 tb t W) (f : Fine t) (p : zk t) (n : Nums) (A : Option Addr) (c : Nat) (hn : NumAt W n A c) (hn1 : 0 < n.list.length) : Calls Tryz.prog 118 #[.pointer (some ⟨tb, 0, none⟩), numV n A c] W (Vd w0 F0 tb (jW t (n.list.getD 0 0))) := by
 obtain ⟨Q, hQ⟩ : ∃ Q, Q = W.alloc (.cells [.int .u8 n.prefix_, .slice A n.list.length c, .bool n.void].toArray 129) := ⟨_, rfl⟩
 have BQ : Below W.heap.size W Q := by rw [hQ]; exact (Below.refl _ W).alloc zdA _
 have KQ : Bk Q W.heap.size [.int .u8 n.prefix_, .slice A n.list.length c, .bool n.void] 129 := by rw [hQ]; exact Bk.new W _ _
 have H1 := zdy (h.below BQ)
 have KH := zdy KQ
 obtain ⟨ad, rfl, hx⟩ := Zv (hn.below BQ) hn1
 have HX := zdy hx
 have hcp : n.list.length <= c := hn.cap
 have hcl := hn.len
 have x0 := f.x0
 have y0 := f.y0
 have w1 := f.w1
 have w0' := f.w0
 have xw : t.cur.x < t.w := by have := f.cx; have := p.1; omega
 have yh : t.cur.y < t.h := by have := f.cy; have := p.2; omega
 have r := f.row y0 yh
 have cl := f.cl
 have ar := f.ar
 have m1 := zdz (t.cur.y * t.w) (by omega)
 have m2 := zdz (t.cur.y * t.w + t.cur.x) (by omega)
 have m3 := zdz (t.cur.y * t.w + t.w) (by omega)
 have m4 := zdz (t.cur.y * t.w + t.cur.x + 1) (by omega)
 have C0 : Hid (∀ W', St w0 F0 tb t W' -> Calls Tryz.prog 141 #[.pointer (some ⟨tb, 0, none⟩), .int .i64 (t.cur.y * t.w + t.cur.x), .int .i64 (t.cur.y * t.w + t.w)] W' (Vd w0 F0 tb (qd t (t.cur.y * t.w + t.cur.x) (t.cur.y * t.w + t.w)))) := zdy (fun W' hs => ka hs f p _ _ (by omega) (by omega) (by omega) (by omega))
 have C1 : Hid (∀ W', St w0 F0 tb t W' -> Calls Tryz.prog 141 #[.pointer (some ⟨tb, 0, none⟩), .int .i64 (t.cur.y * t.w), .int .i64 (t.cur.y * t.w + t.cur.x + 1)] W' (Vd w0 F0 tb (qd t (t.cur.y * t.w) (t.cur.y * t.w + t.cur.x + 1)))) := zdy (fun W' hs => ka hs f p _ _ (by omega) (by omega) (by omega) (by omega))
 have C2 : Hid (∀ W', St w0 F0 tb t W' -> Calls Tryz.prog 141 #[.pointer (some ⟨tb, 0, none⟩), .int .i64 (t.cur.y * t.w), .int .i64 (t.cur.y * t.w + t.w)] W' (Vd w0 F0 tb (qd t (t.cur.y * t.w) (t.cur.y * t.w + t.w)))) := zdy (fun W' hs => ka hs f p _ _ (by omega) (by omega) (by omega) (by omega))
 have CLN : Hid (0 < t.cells.length) := zdy (by omega)
 unfold numV
 clear KQ BQ hn hx h f p cl r ar
 generalize hk : n.list.getD 0 0 = k at *
 clear hk
 have hn2 : (0 : Int) < (n.list.length : Int) := by omega
 generalize n.list.length = m at *
 go_enter Tryz.func118, Tryz.ntmps118
 go_upto_region 1 with fail
 rw [<- hQ]
 clear hQ
 obtain ⟨Q1, eQ⟩ : ∃ Q1, Q1 = Q := ⟨_, rfl⟩
 rw [<- eQ] at H1 ⊢
 have BE : Hid (Below Q.heap.size Q Q1) := zdy (by rw [eQ]; exact Below.refl _ _)
 clear eQ
 obtain ⟨L1, B1⟩ := H1.out.bk
 dsimp only [trmV, setX, setY] at B1
 have k0 := fun d os => (B1.regrown d os).c 0 _ rfl
 have k4 := fun d os => (B1.regrown d os).c 4 _ rfl
 clear B1
 refine zf 11 (by kernel_rfl) (by kernel_rfl) ?_
 simp only [zdB, zdC, zdD, zdE]
 repeat (first | go_big_quiet_step (fail) | quiet_step (fail))
 refine wpQuiet_nil ?_
 intro _ hw'
 obtain ⟨⟨dq, osq⟩, hw''⟩ := hw'
 subst hw''
 have H1 := zdy (H1.out.below (below_regrown Q1 dq osq))
 have BE := zdy (BE.out.trans ((below_regrown Q1 dq osq).mono BE.out.size))
 clear k0 k4
 generalize grow (redrawn Q1 dq) osq = W1 at *
 have KH := zdy (KH.out.of_eq (BE.out.block _ KH.out.lt))
 have q0 := HX.out W1 BE.out
 have j1 := KH.out.c 1 _ rfl
 have jf1 := KH.out.f 1
 clear BE HX KH
 by_cases k0 : k = 0
 ·subst k0
  clear C1 C2
  go_upto_region 4 with fail
  clear q0 j1 jf1
  obtain ⟨L1, B1⟩ := H1.out.bk
  dsimp only [trmV, setX, setY] at B1
  have k0 := fun d os => (B1.regrown d os).c 0 _ rfl
  have k3 := fun d os => (B1.regrown d os).c 3 _ rfl
  clear B1
  refine zf 15 (by kernel_rfl) (by kernel_rfl) ?_
  simp only [zdB, zdC, zdD, zdE]
  repeat (first | go_big_quiet_step (fail) | quiet_step (fail))
  refine wpQuiet_nil ?_
  intro _ hw'
  obtain ⟨⟨dq, osq⟩, hw''⟩ := hw'
  subst hw''
  have H1 := zdy (H1.out.below (below_regrown W1 dq osq))
  clear k0 k3
  generalize grow (redrawn W1 dq) osq = W2 at *
  have C0 := zdy (C0.out W2 H1.out)
  go_wp2_with fail
  refine C0.out.mono ?_; rintro e w4 ⟨⟨v, rfl⟩, h1⟩
  have H4 := zdy h1
  clear h1
  clear C0
  go_wp2_with fail
  go_end0
  exact ⟨⟨_, rfl⟩, H4.out⟩
 have b0 : (k == 0) = false := by simpa using k0
 by_cases k1 : k = 1
 ·subst k1
  clear C0 C2
  obtain ⟨L1, B1⟩ := H1.out.bk
  dsimp only [trmV, setX, setY] at B1
  have k3 := B1.c 3 _ rfl
  have kf3 := B1.f 3
  clear B1
  have C1 := zdy (C1.out W1 H1.out)
  go_wp2_with fail
  refine C1.out.mono ?_; rintro e w4 ⟨⟨v, rfl⟩, h1⟩
  have H4 := zdy h1
  clear h1
  clear C1
  go_wp2_with fail
  go_end0
  exact ⟨⟨_, rfl⟩, H4.out⟩
 have b1 : (k == 1) = false := by simpa using k1
 by_cases k2 : k = 2
 ·subst k2
  clear C0 C1
  obtain ⟨L1, B1⟩ := H1.out.bk
  dsimp only [trmV, setX, setY] at B1
  have k0 := B1.c 0 _ rfl
  have kf0 := B1.f 0
  clear B1
  have C2 := zdy (C2.out W1 H1.out)
  go_wp2_with fail
  refine C2.out.mono ?_; rintro e w4 ⟨⟨v, rfl⟩, h1⟩
  have H4 := zdy h1
  clear h1
  clear C2
  go_wp2_with fail
  go_end0
  exact ⟨⟨_, rfl⟩, H4.out⟩
 have b2 : (k == 2) = false := by simpa using k2
 have EL : Hid (jW t k = t) := zdy (by unfold jW; rw [if_neg k0, if_neg k1, if_neg k2])
 clear C0 C1 C2 k0 k1 k2
 go_wp2_with fail
 go_end0
 exact ⟨⟨_, rfl⟩, by first | (rw [EL.out]; exact H1.out) | exact H1.out⟩
set_option maxHeartbeats 4000000 in
set_option maxRecDepth 100000 in
theorem zcm (h : St w0 F0 tb t W) (f : Fine t) (p : zk t) (n : Nums) (A : Option Addr) (c : Nat) (hn : NumAt W n A c) (hn1 : 0 < n.list.length) : Calls Tryz.prog 117 #[.pointer (some ⟨tb, 0, none⟩), numV n A c] W (Vd w0 F0 tb (jX t (n.list.getD 0 0))) := by
 obtain ⟨Q, hQ⟩ : ∃ Q, Q = W.alloc (.cells [.int .u8 n.prefix_, .slice A n.list.length c, .bool n.void].toArray 129) := ⟨_, rfl⟩
 have BQ : Below W.heap.size W Q := by rw [hQ]; exact (Below.refl _ W).alloc zdA _
 have KQ : Bk Q W.heap.size [.int .u8 n.prefix_, .slice A n.list.length c, .bool n.void] 129 := by rw [hQ]; exact Bk.new W _ _
 have H1 := zdy (h.below BQ)
 have KH := zdy KQ
 obtain ⟨ad, rfl, hx⟩ := Zv (hn.below BQ) hn1
 have HX := zdy hx
 have hcp : n.list.length <= c := hn.cap
 have hcl := hn.len
 have x0 := f.x0
 have y0 := f.y0
 have w1 := f.w1
 have w0' := f.w0
 have xw : t.cur.x < t.w := by have := f.cx; have := p.1; omega
 have yh : t.cur.y < t.h := by have := f.cy; have := p.2; omega
 have r := f.row y0 yh
 have cl := f.cl
 have ar := f.ar
 have m1 := zdz (t.cur.y * t.w) (by omega)
 have m2 := zdz (t.cur.y * t.w + t.cur.x) (by omega)
 have m3 := zdz (t.cur.y * t.w + t.w) (by omega)
 have m4 := zdz (t.cur.y * t.w + t.cur.x + 1) (by omega)
 have C0 : Hid (∀ W', St w0 F0 tb t W' -> Calls Tryz.prog 141 #[.pointer (some ⟨tb, 0, none⟩), .int .i64 (t.cur.y * t.w + t.cur.x), .int .i64 ((t.cells.length : Int))] W' (Vd w0 F0 tb (qd t (t.cur.y * t.w + t.cur.x) ((t.cells.length : Int))))) := zdy (fun W' hs => ka hs f p _ _ (by omega) (by omega) (by omega) (by omega))
 have C1 : Hid (∀ W', St w0 F0 tb t W' -> Calls Tryz.prog 141 #[.pointer (some ⟨tb, 0, none⟩), .int .i64 (0), .int .i64 (t.cur.y * t.w + t.cur.x + 1)] W' (Vd w0 F0 tb (qd t (0) (t.cur.y * t.w + t.cur.x + 1)))) := zdy (fun W' hs => ka hs f p _ _ (by omega) (by omega) (by omega) (by omega))
 have C2 : Hid (∀ W', St w0 F0 tb t W' -> Calls Tryz.prog 141 #[.pointer (some ⟨tb, 0, none⟩), .int .i64 (0), .int .i64 ((t.cells.length : Int))] W' (Vd w0 F0 tb (qd t (0) ((t.cells.length : Int))))) := zdy (fun W' hs => ka hs f p _ _ (by omega) (by omega) (by omega) (by omega))
 have CLN : Hid (0 < t.cells.length) := zdy (by omega)
 unfold numV
 clear KQ BQ hn hx h f p cl r ar
 generalize hk : n.list.getD 0 0 = k at *
 clear hk
 have hn2 : (0 : Int) < (n.list.length : Int) := by omega
 generalize n.list.length = m at *
 go_enter Tryz.func117, Tryz.ntmps117
 go_upto_region 1 with fail
 rw [<- hQ]
 clear hQ
 obtain ⟨Q1, eQ⟩ : ∃ Q1, Q1 = Q := ⟨_, rfl⟩
 rw [<- eQ] at H1 ⊢
 have BE : Hid (Below Q.heap.size Q Q1) := zdy (by rw [eQ]; exact Below.refl _ _)
 clear eQ
 obtain ⟨L1, B1⟩ := H1.out.bk
 dsimp only [trmV, setX, setY] at B1
 have k0 := fun d os => (B1.regrown d os).c 0 _ rfl
 have k3 := fun d os => (B1.regrown d os).c 3 _ rfl
 have k4 := fun d os => (B1.regrown d os).c 4 _ rfl
 clear B1
 refine zf 17 (by kernel_rfl) (by kernel_rfl) ?_
 simp only [zdB, zdC, zdD, zdE]
 repeat (first | go_big_quiet_step (fail) | quiet_step (fail))
 refine wpQuiet_nil ?_
 intro _ hw'
 obtain ⟨⟨dq, osq⟩, hw''⟩ := hw'
 subst hw''
 have H1 := zdy (H1.out.below (below_regrown Q1 dq osq))
 have BE := zdy (BE.out.trans ((below_regrown Q1 dq osq).mono BE.out.size))
 clear k0 k3 k4
 generalize grow (redrawn Q1 dq) osq = W1 at *
 have KH := zdy (KH.out.of_eq (BE.out.block _ KH.out.lt))
 have q0 := HX.out W1 BE.out
 have j1 := KH.out.c 1 _ rfl
 have jf1 := KH.out.f 1
 clear BE HX KH
 by_cases k0 : k = 0
 ·subst k0
  clear C1 C2
  obtain ⟨L2, g, cap, B, ec, hc, _, _⟩ := H1.out.rowC CLN.out
  have k2 := B.c 2 _ rfl
  have kf2 := B.f 2
  rw [ec] at k2
  clear B ec hc
  have C0 := zdy (C0.out W1 H1.out)
  go_wp2_with fail
  refine C0.out.mono ?_; rintro e w4 ⟨⟨v, rfl⟩, h1⟩
  have H4 := zdy h1
  clear h1
  clear C0
  go_wp2_with fail
  go_end0
  exact ⟨⟨_, rfl⟩, H4.out⟩
 have b0 : (k == 0) = false := by simpa using k0
 by_cases k1 : k = 1
 ·subst k1
  clear C0 C2
  have C1 := zdy (C1.out W1 H1.out)
  go_wp2_with fail
  refine C1.out.mono ?_; rintro e w4 ⟨⟨v, rfl⟩, h1⟩
  have H4 := zdy h1
  clear h1
  clear C1
  go_wp2_with fail
  go_end0
  exact ⟨⟨_, rfl⟩, H4.out⟩
 have b1 : (k == 1) = false := by simpa using k1
 by_cases k2 : k = 2
 ·subst k2
  clear C0 C1
  obtain ⟨L2, g, cap, B, ec, hc, _, _⟩ := H1.out.rowC CLN.out
  have k2 := B.c 2 _ rfl
  have kf2 := B.f 2
  rw [ec] at k2
  clear B ec hc
  have C2 := zdy (C2.out W1 H1.out)
  go_wp2_with fail
  refine C2.out.mono ?_; rintro e w4 ⟨⟨v, rfl⟩, h1⟩
  have H4 := zdy h1
  clear h1
  clear C2
  go_wp2_with fail
  go_end0
  exact ⟨⟨_, rfl⟩, H4.out⟩
 have b2 : (k == 2) = false := by simpa using k2
 by_cases k3 : k = 3
 ·subst k3
  clear C0 C1
  obtain ⟨L2, g, cap, B, ec, hc, _, _⟩ := H1.out.rowC CLN.out
  have k2 := B.c 2 _ rfl
  have kf2 := B.f 2
  rw [ec] at k2
  clear B ec hc
  have C2 := zdy (C2.out W1 H1.out)
  go_wp2_with fail
  refine C2.out.mono ?_; rintro e w4 ⟨⟨v, rfl⟩, h1⟩
  have H4 := zdy h1
  clear h1
  clear C2
  go_wp2_with fail
  go_end0
  exact ⟨⟨_, rfl⟩, H4.out⟩
 have b3 : (k == 3) = false := by simpa using k3
 have EL : Hid (jX t k = t) := zdy (by unfold jX; rw [if_neg k0, if_neg k1, if_neg (by omega)])
 clear C0 C1 C2 k0 k1 k2 k3
 go_wp2_with fail
 go_end0
 exact ⟨⟨_, rfl⟩, by first | (rw [EL.out]; exact H1.out) | exact H1.out⟩
end
end
section
open Go Go.RowKit Go.Sort
theorem zcn {P : Program} (w : World) (dT sT ty elem : TypeId) (g o dLen dCap : Nat) (a : Addr) (sLen sCap sz : Nat) (cur : Array Value) (t : TypeId) (cs : List Value)
  (hu : P.underlying dT = some (.slice elem)) (hs : (P.info? elem).map (·.size) = some sz)
  (hg : w.heap[g]? = some (.cells cur t (0, 0))) (hn : cs.length = Nat.min sLen dLen * sz)
  (hsrc : ∀ j v, cs[j]? = some v -> w.cell? (a.add j) = some v) (hfit : o + cs.length <= cur.size) (h1 : ∀ v ∈ cs, v.oneCell' = true) :
  (Builtin.copy_ #[dT, sT] ty #[.slice (some ⟨g, o, none⟩) dLen dCap, .slice (some a) sLen sCap]).run P w =
   .ok (goInt (Nat.min sLen dLen)) (w.setRow g (cur.toList.take o ++ cs ++ cur.toList.drop (o + cs.length)).toArray) := by
 have hl := run_loadCells_list (P := P) w a cs hsrc
 have hst := run_storeCells_at P g o t cs 0 cur w hg (by simpa using hfit) h1
 cases hq : P.info? elem with
 | none => simp [hq] at hs
 | some i =>
  have hi : i.size = sz := by simpa [hq] using hs
  simp [Builtin.copy_, run_underlying hu, Builtin.lenOf, Builtin.firstCells, sizeOf, typeInfo, hq, hi, <- hn, hl, hst]
end
section
open Go Go.RowKit Go.Sort
section
variable {w0 : World} {F0 : List Nat} {tb : Nat} {t t' : Trm} {W W' : World} {L : Lay}
theorem Q9 : ∀ (l : List Cel) (n : Nat), zd (l.take n) = (zd l).take (n * 5)
 | [], n => by simp [zd]
 | x :: l, 0 => by simp [zd]
 | x :: l, n + 1 => by
  rw [List.take_succ_cons, jw, jw, Q9 l n, show (n + 1) * 5 = n * 5 + 5 by omega]
  simp [celV]
theorem Ja : ∀ (l : List Cel) (n : Nat), zd (l.drop n) = (zd l).drop (n * 5)
 | [], n => by simp [zd]
 | x :: l, 0 => by simp
 | x :: l, n + 1 => by
  rw [List.drop_succ_cons, jw, Ja l n, show (n + 1) * 5 = n * 5 + 5 by omega]
  simp [celV]
theorem cels_one (l : List Cel) : ∀ v ∈ zd l, v.oneCell' = true := by
 induction l with
 | nil => intro v hv; simp [zd] at hv
 | cons x l ih =>
  intro v hv
  rw [jw] at hv
  rcases List.mem_append.1 hv with m | m
  ·simp [celV] at m
   rcases m with rfl | rfl | rfl | rfl | rfl <;> rfl
  ·exact ih v m
theorem zco (X : List Value) (cs l : List Cel) (f : Nat) (hX : X.take (cs.length * 5) = zd cs) (hl : cs.length * 5 <= X.length) (hf : f + l.length <= cs.length) :
  (X.take (f * 5) ++ zd l ++ X.drop (f * 5 + (zd l).length)).take (cs.length * 5) = zd (cs.take f ++ l ++ cs.drop (f + l.length)) := by
 have ll := jF l
 rw [XY, XY, Q9, Ja, <- hX, List.take_take, List.drop_take, List.take_append, List.take_append]
 have e1 : (X.take (f * 5)).length = f * 5 := by rw [List.length_take]; omega
 rw [List.length_append, e1, ll, show min (f * 5) (cs.length * 5) = f * 5 by omega]
 have e2 : (X.take (f * 5)).take (cs.length * 5) = X.take (f * 5) := by rw [List.take_take]; congr 1; omega
 have e3 : (zd l).take (cs.length * 5 - f * 5) = zd l := List.take_of_length_le (by omega)
 rw [e2, e3, show (f + l.length) * 5 = f * 5 + l.length * 5 by omega, show cs.length * 5 - (f * 5 + l.length * 5) = cs.length * 5 - (f * 5 + l.length * 5) from rfl]
theorem St.partC (h : St w0 F0 tb t W) (hn : 0 < t.cells.length) : ∃ L g cap cur, Bk W tb (trmV t L) 104 /\ L.c = .slice (some ⟨g, 0, none⟩) t.cells.length cap /\ t.cells.length <= cap /\ cap <= maxLen /\ W.heap[g]? = some (.cells cur 79 (0, 0)) /\ cur.size = cap * 5 /\ (∀ j v, (zd t.cells)[j]? = some v -> W.cell? ⟨g, j, none⟩ = some v) /\
  ∀ f l, f + l.length <= t.cells.length -> St w0 F0 tb (zh t f l) (W.setRow g (cur.toList.take (f * 5) ++ zd l ++ cur.toList.drop (f * 5 + (zd l).length)).toArray) := by
 obtain ⟨L, e, T, hf⟩ := h.lay
 obtain ⟨g, cap, ec, eo, ho, hc⟩ := T.c.slice hn
 have ho2 := ho
 obtain ⟨hlen, hn0 | ⟨g', cap', cur, ev, _, hg, _, hm, hsz, htk⟩⟩ := ho2
 ·omega
 cases ev
 have cl5 := jF t.cells
 refine ⟨L, g, cap, cur, e ▸ T.own, ec, hc, hm, hg, hsz, fun j v hj => ?_, fun f l hfl => ?_⟩
 ·have hj2 : j < t.cells.length * 5 := by have := (List.getElem?_eq_some_iff.1 hj).1; omega
  exact (ho.cellAt j hj2).trans hj
 have gm : g ∈ L.fp := Lay.mem.2 (by rw [eo]; simp)
 have far : ∀ k, k ≠ g -> (W.setRow g (cur.toList.take (f * 5) ++ zd l ++ cur.toList.drop (f * 5 + (zd l).length)).toArray).heap[k]? = W.heap[k]? := fun k hk => setRow_other W g k _ hk
 have mv : Mv [g] W (W.setRow g (cur.toList.take (f * 5) ++ zd l ++ cur.toList.drop (f * 5 + (zd l).length)).toArray) := ⟨rfl, rfl, rfl, by simp, fun k _ hk => far k (by simpa using hk)⟩
 have pl : (zh t f l).cells.length = t.cells.length := by unfold zh; simp only [List.length_append, List.length_take, List.length_drop]; omega
 refine ⟨h.g0, h.mv.trans mv (by intro b hb; rw [List.mem_singleton.1 hb]; exact hf _ gm), h.ng, L, e, ?_, hf⟩
 refine T.newC (fun j hj => far j (fun z => hj (by rw [eo, z]; simp))) rfl ?_ rfl rfl rfl rfl rfl rfl
 rw [pl, ec]
 refine RowAt.of_own ⟨?_, Or.inr ⟨g, cap, _, rfl, Nat.zero_le _, setRow_heap W g cur _ _ _ hg, hc, hm, ?_, ?_⟩⟩ (by omega)
 ·rw [jF, pl]
 ·have lcur : cur.toList.length = cap * 5 := by rw [Array.length_toList]; exact hsz
  have ll := jF l
  rw [List.size_toArray]
  simp only [List.length_append, List.length_take, List.length_drop]
  omega
 ·have := zco cur.toList t.cells l f htk (by rw [Array.length_toList]; omega) hfl
  simpa [zh] using this
theorem Vt (t : Trm) (a n k : Nat) (h : a + n <= t.cells.length) (hk : k <= n) : zh t a (upL' ((t.cells.drop a).take n) k) = zh t a (((t.cells.drop a).take n).drop k) := by
 have ll : ((t.cells.drop a).take n).length = n := by rw [List.length_take, List.length_drop]; omega
 have ul := Z6 ((t.cells.drop a).take n) k (by omega)
 unfold zh
 congr 1
 rw [ul, ll, List.length_drop, ll]
 unfold upL'
 rw [ll, List.append_assoc, List.append_assoc, List.append_assoc]
 congr 1
 congr 1
 have e : t.cells.drop a = (t.cells.drop a).take n ++ (t.cells.drop a).drop n := (List.take_append_drop n _).symm
 have e2 : t.cells.drop (a + (n - k)) = (t.cells.drop a).drop (n - k) := by rw [List.drop_drop]
 have e3 : t.cells.drop (a + n) = (t.cells.drop a).drop n := by rw [List.drop_drop]
 rw [e2, e3]
 conv => rhs; rw [e]
 rw [List.drop_append_of_le_length (by omega)]
theorem Vu (t : Trm) (a n k : Nat) (h : a + n <= t.cells.length) (hk : k <= n) : zh t a (ku ((t.cells.drop a).take n) k) = zh t (a + k) (((t.cells.drop a).take n).take (n - k)) := by
 have ll : ((t.cells.drop a).take n).length = n := by rw [List.length_take, List.length_drop]; omega
 have ul := Z7 ((t.cells.drop a).take n) k (by omega)
 have ul2 : (((t.cells.drop a).take n).take (n - k)).length = n - k := by rw [List.length_take]; omega
 unfold zh
 congr 1
 rw [ul, ll, ul2, show a + k + (n - k) = a + n by omega]
 unfold ku
 rw [ll, <- List.append_assoc, List.take_take, show min k n = k by omega]
 congr 2
 rw [List.take_add]
theorem jf (g o j : Nat) : (⟨g, o, none⟩ : Addr).add j = ⟨g, o + j, none⟩ := by
 unfold Addr.add
 split
 ·rename_i e; subst e; rfl
 ·rfl
theorem zcp : Tryz.prog.underlying 49 = some (.slice 79) := by kernel_rfl
theorem zcq : (Tryz.prog.info? 79).map (·.size) = some 5 := by kernel_rfl
theorem St.copyC (h : St w0 F0 tb t W) (hn : 0 < t.cells.length) {g cap : Nat} (k2 : W.cell? ⟨tb, 2, none⟩ = some (.slice (some ⟨g, 0, none⟩) t.cells.length cap)) (f s n dl dc sl sc o : Nat) (ad : Addr)
  (hf : f + n <= t.cells.length) (hs : s + n <= t.cells.length) (hm : Nat.min sl dl = n) (ho : o = f * 5) (had : 0 < n -> ad = ⟨g, s * 5, none⟩) :
  ∃ v V, (Builtin.copy_ #[49, 49] 3 #[.slice (some ⟨g, o, none⟩) dl dc, .slice (some ad) sl sc]).run Tryz.prog W = .ok v V /\ St w0 F0 tb (zh t f ((t.cells.drop s).take n)) V := by
 obtain ⟨L1, g1, cap1, cur, B1, ec, hc, hmx, hg, hsz, hcl, up⟩ := h.partC hn
 have k3 := B1.c 2 _ rfl
 rw [k2, ec] at k3
 cases k3
 have ll : ((t.cells.drop s).take n).length = n := by rw [List.length_take, List.length_drop]; omega
 have cl := jF ((t.cells.drop s).take n)
 have cl2 := jF t.cells
 refine ⟨_, _, zcn W _ _ _ _ g o dl dc ad sl sc 5 cur _ (zd ((t.cells.drop s).take n)) zcp zcq hg (by rw [hm, cl, ll]) (fun j v hj => ?_) (by rw [hsz]; omega) (cels_one _), ?_⟩
 ·have hj2 : j < n * 5 := by have := (List.getElem?_eq_some_iff.1 hj).1; omega
  rw [had (by omega), jf]
  apply hcl
  rw [Q9, Ja, List.getElem?_take_of_lt hj2, List.getElem?_drop] at hj
  exact hj
 ·subst ho
  exact up f _ (by omega)
theorem St.markS {f k : Nat} (h : St w0 F0 tb (zv t f k) W) (hl : f + k < t.wrt.length) : ∃ L g cap, Bk W tb (trmV (zv t f k) L) 104 /\ L.w = .slice (some ⟨g, 0, none⟩) t.wrt.length cap /\ t.wrt.length <= cap /\ (∃ v, W.cell? ⟨g, f + k, none⟩ = some v) /\ W.frozen? ⟨g, f + k, none⟩ = false /\ St w0 F0 tb (zv t f (k + 1)) (W.setCell ⟨g, f + k, none⟩ (.bool true)) := by
 have ml := (jb t f k).wl
 obtain ⟨L, g, cap, B, ec, hc, ho, up⟩ := h.rowW (by omega)
 rw [ml] at ec hc
 obtain ⟨v5, z5⟩ : ∃ v, (zy (zv t f k).wrt)[f + k]? = some v := ⟨_, List.getElem?_eq_getElem (by unfold zy; rw [List.length_map]; omega)⟩
 exact ⟨L, g, cap, B, ec, hc, ⟨v5, (ho.cellAt (f + k) (by omega)).trans z5⟩, ho.frozenAt (f + k), up (f + k) true⟩
end
end
section
open Go Go.RowKit Go.Sort
section
variable {w0 : World} {F0 : List Nat} {tb : Nat} {t t' : Trm} {W W' : World} {L : Lay}
theorem Zw (t : Trm) (f : Nat) (l : List Cel) (e : l = []) (h : f <= t.cells.length) : zh t f l = t := by
 subst e
 unfold zh
 simp
theorem Vv (C : List Cel) (A M K : Nat) : ((C.drop A).take M).drop K = (C.drop (A + K)).take (M - K) := by rw [List.drop_take, List.drop_drop]
theorem Vw (C : List Cel) (A M K : Nat) : ((C.drop A).take M).take (M - K) = (C.drop A).take (M - K) := by rw [List.take_take]; congr 1; omega
theorem zcr (t : Trm) (a e n : Int) (A M K : Nat) (eA : a * t.w = A) (eZ : e * t.w = (A : Int) + M) (eK : min (max n (-n) * t.w) (M : Int) = K) (hz : A + M <= t.cells.length) (hk : K <= M) :
  zZ t a e n = if 0 < n then zv (zm (zh t A ((t.cells.drop (A + K)).take (M - K))) (A + M - K) K) A M else zv (zm (zh t (A + K) ((t.cells.drop A).take (M - K))) A K) A M := by
 have ll : ((t.cells.drop A).take M).length = M := by rw [List.length_take, List.length_drop]; omega
 rw [<- Vv, <- Vw]
 unfold zZ
 simp only
 rw [eA, eZ]
 have e1 : ((A : Int) + M).toNat = A + M := by omega
 rw [e1]
 simp only [Int.toNat_natCast, Nat.add_sub_cancel_left]
 rw [ll]
 unfold absI
 rw [eK]
 simp only [Int.toNat_natCast]
 rw [Vt _ _ _ _ (by omega) hk, Vu _ _ _ _ (by omega) hk]
set_option maxHeartbeats 4000000 in
set_option maxRecDepth 100000 in
theorem vH (h : St w0 F0 tb t W) (f : Fine t) (p : zk t) (a e n : Int) (a0 : 0 <= a) (ae : a < e) (eh : e <= t.h) (n0 : -10000 <= n) (n1 : n <= 10000) : Calls Tryz.prog 103 #[.pointer (some ⟨tb, 0, none⟩), .int .i64 a, .int .i64 e, .int .i64 n] W (Vd w0 F0 tb (zZ t a e n)) := by
 have w1 := f.w1
 have w0' := p.1
 have cl := f.cl
 have wl := f.wl
 have ar := f.ar
 have l1 : e * t.w <= t.w * t.h := by rw [Int.mul_comm t.w t.h]; exact Int.mul_le_mul_of_nonneg_right eh f.w0
 have l2 : a * t.w + t.w <= e * t.w := by
  have : (a + 1) * t.w <= e * t.w := Int.mul_le_mul_of_nonneg_right (by omega) f.w0
  rw [Int.add_mul, Int.one_mul] at this
  exact this
 have p0 : 0 <= a * t.w := Int.mul_nonneg a0 f.w0
 have pk : 0 <= max n (-n) * t.w := Int.mul_nonneg (by omega) f.w0
 have pk2 : max n (-n) * t.w <= 10000 * 4096 := Int.mul_le_mul (by omega) w1 f.w0 (by decide)
 obtain ⟨A, eA⟩ : ∃ A : Nat, a * t.w = (A : Int) := ⟨(a * t.w).toNat, by omega⟩
 obtain ⟨M, eZ⟩ : ∃ M : Nat, e * t.w = (A : Int) + M := ⟨(e * t.w).toNat - A, by omega⟩
 obtain ⟨K, eK⟩ : ∃ K : Nat, min (max n (-n) * t.w) (M : Int) = (K : Int) := ⟨(min (max n (-n) * t.w) (M : Int)).toNat, by omega⟩
 have hz : A + M <= t.cells.length := by omega
 have ha : 0 < M := by omega
 have hk : K <= M := by omega
 have SE := zdy (zcr t a e n A M K eA eZ eK hz hk)
 have m1 : IntKind.i64.wrap (a * t.w) = (A : Int) := by rw [eA]; exact zdz _ (by omega)
 have m2 : IntKind.i64.wrap (e * t.w) = (A : Int) + M := by rw [eZ]; exact zdz _ (by omega)
 have m3 := zdz (max n (-n) * t.w) (by omega)
 have EA := zdy eA
 have EZ := zdy eZ
 have EK := zdy eK
 have bl : t.cells.length <= 1048576 := by omega
 have hwl : t.wrt.length = t.cells.length := by omega
 have HWL := zdy hwl
 have BL := zdy bl
 have HZ := zdy hz
 have zb : (A : Int) + (M : Int) <= 1048576 := by omega
 have H1 := zdy h
 obtain ⟨L1, g, cap, B1, ec, hc, ho9, up9⟩ := h.rowC (by omega)
 clear ho9 up9
 obtain ⟨C, rfl⟩ : ∃ C, cap = A + C := ⟨cap - A, by omega⟩
 have kk0 := fun d os => (B1.regrown d os).c 0 _ rfl
 have kk2 : ∀ d os, (grow (redrawn W d) os).cell? ⟨tb, 2, none⟩ = some (.slice (some ⟨g, 0, none⟩) t.cells.length (A + C)) := fun d os => by rw [<- ec]; exact (B1.regrown d os).c 2 _ rfl
 have q1 : (M : Int) <= (C : Int) := by omega
 have q3 : 0 < C := by omega
 have q4 : (K : Int) <= (M : Int) := by omega
 clear h f p l1 l2 p0 pk pk2 eA eZ eK B1 ec hwl bl cl wl ar hc hz
 go_enter Tryz.func103, Tryz.ntmps103
 go_wp2_with fail
 refine zf 20 (by kernel_rfl) (by kernel_rfl) ?_
 simp only [zdB, zdC, zdD, zdE]
 repeat (first | go_big_quiet_step (fail) | quiet_step (fail))
 refine wpQuiet_nil ?_
 intro _ hw'
 obtain ⟨⟨dq, osq⟩, hw''⟩ := hw'
 subst hw''
 have H1 := zdy (H1.out.below (below_regrown W dq osq))
 have k0 := kk0 dq osq
 have k2 := kk2 dq osq
 clear kk0 kk2
 generalize grow (redrawn W dq) osq = W1 at *
 go_upto_region 2 with fail
 rw [EK.out]
 simp only [Nat.add_sub_cancel_left]
 clear m3
 by_cases np : 0 < n
 ·have SE : Hid (zZ t a e n = zv (zm (zh t A ((t.cells.drop (A + K)).take (M - K))) (A + M - K) K) A M) := zdy (by rw [SE.out, if_pos np])
  have CP : Hid (Cw t (zh t A ((t.cells.drop (A + K)).take (M - K)))) := zdy (xC t _ _ (by have := HZ.out; rw [List.length_take, List.length_drop]; omega))
  have U2 : Hid (Cw t (zm (zh t A ((t.cells.drop (A + K)).take (M - K))) (A + M - K) K)) := zdy (CP.out.trans (jz _ _ _))
  have FI : Hid (∀ W', St w0 F0 tb (zh t A ((t.cells.drop (A + K)).take (M - K))) W' -> Calls Tryz.prog 105 #[.pointer (some ⟨tb, 0, none⟩), .int .i64 ((A : Int) + M - K), .int .i64 (K : Int)] W' (Vd w0 F0 tb (zm (zh t A ((t.cells.drop (A + K)).take (M - K))) (A + M - K) K))) := zdy (fun W' hs => by
   have hz := HZ.out
   have := kO hs (A + M - K) K (by have := CP.out.cl; omega) (by have := CP.out.cl; have := BL.out; omega) (by have := CP.out.cl; have := CP.out.wl; have := HWL.out; omega)
   rw [show ((A + M - K : Nat) : Int) = (A : Int) + M - K by omega] at this
   exact this)
  have m4 := zdz ((A : Int) + M - K) (by omega)
  by_cases CK : C = K
  ·have mk : M = K := by omega
   obtain ⟨v, V, RC, hv⟩ := H1.out.copyC (by have := HZ.out; omega) k2 A (A + K) (M - K) M C (M - K) 0 (A * 5) ⟨g, A * 5, none⟩ (by have := HZ.out; omega) (by have := HZ.out; omega) (Nat.min_eq_left (by omega)) rfl (fun z => by omega)
   have H2 := zdy hv
   clear hv
   have FI := zdy (FI.out V H2.out)
   have CK := CK.symm
   subst CK
   have MK := zdy mk
   clear mk
   obtain ⟨L1, B1⟩ := H2.out.bk
   dsimp only [trmV, setX, setY] at B1
   have i0 := B1.c 0 _ rfl
   have if0 := B1.f 0
   clear B1
   rw [CP.out.w] at i0
   go_wp2_with fail
   refine FI.out.mono ?_; rintro e w3 ⟨⟨vv, rfl⟩, h1⟩
   have H3 := zdy h1
   clear h1 FI H2 i0 if0 RC H1 k2 k0 m4 q1 q3 q4
   obtain ⟨L1, B1⟩ := H3.out.bk
   dsimp only [trmV, setX, setY] at B1
   have k0 := B1.c 0 _ rfl
   have kf0 := B1.f 0
   clear B1
   rw [U2.out.w] at k0
   have UL := U2.out.wl
   go_wp2_with fail
   clear k0 kf0
   have HS : Hid (St w0 F0 tb (zv (zm (zh t A ((t.cells.drop (A + K)).take (M - K))) (A + M - K) K) A 0) w3) := H3
   go_loopw [10] (fun i wr => ∃ k : Nat, k <= M /\ i = .int .i64 ((A : Int) + k) /\ Hid (St w0 F0 tb (zv (zm (zh t A ((t.cells.drop (A + K)).take (M - K))) (A + M - K) K) A k) wr)) (fun i _ => A + M - (intOf i).toNat)
   case atStart => exact ⟨0, Nat.zero_le _, by simp, HS⟩
   case round =>
    obtain ⟨k, hk2, rfl, hr⟩ := hrel
    clear HS H3
    have ww := ((jb (zm (zh t A ((t.cells.drop (A + K)).take (M - K))) (A + M - K) K) A k).w).trans U2.out.w
    obtain ⟨L1, B1⟩ := hr.out.bk
    dsimp only [trmV, setX, setY] at B1
    have k0 := B1.c 0 _ rfl
    have kf0 := B1.f 0
    clear B1
    rw [ww] at k0
    clear ww
    by_cases lt : k < M
    ·have bl := BL.out
     have hz := HZ.out
     have hwl := HWL.out
     obtain ⟨L1, g1, cap1, B1, ec, hc1, ⟨v5, y5⟩, p5, h5⟩ := hr.out.markS (by omega)
     have k27 := B1.c 27 _ rfl
     rw [ec, UL] at k27
     have H5 := zdy h5
     have q0 : (0 : Int) <= (A : Int) + k := by omega
     have q5 : (A : Int) + k < (t.wrt.length : Int) := by omega
     have q6 : (A : Int) + k < (A : Int) + M := by omega
     have tn : ((A : Int) + k).toNat = A + k := by omega
     have wk := zdz ((A : Int) + k + 1) (by omega)
     clear B1 ec hc1 h5 UL bl hz hwl hr
     go_wp2_with fail
     go_roundw
     case rel => exact ⟨k + 1, by omega, by go_num, H5⟩
     case measure => simp [intOf]; omega
    ·have e9 : k = M := by omega
     subst e9
     clear UL
     go_wp2_with fail
     go_end0
     exact ⟨⟨_, rfl⟩, by rw [SE.out]; exact hr.out⟩
  ·obtain ⟨v, V, RC, hv⟩ := H1.out.copyC (by have := HZ.out; omega) k2 A (A + K) (M - K) M C (M - K) (C - K) (A * 5) ⟨g, A * 5 + K * 5, none⟩ (by have := HZ.out; omega) (by have := HZ.out; omega) (Nat.min_eq_left (by omega)) rfl (fun z => by rw [Nat.add_mul])
   have H2 := zdy hv
   clear hv
   have FI := zdy (FI.out V H2.out)
   obtain ⟨L1, B1⟩ := H2.out.bk
   dsimp only [trmV, setX, setY] at B1
   have i0 := B1.c 0 _ rfl
   have if0 := B1.f 0
   clear B1
   rw [CP.out.w] at i0
   go_wp2_with fail
   refine FI.out.mono ?_; rintro e w3 ⟨⟨vv, rfl⟩, h1⟩
   have H3 := zdy h1
   clear h1 FI H2 i0 if0 RC H1 k2 k0 m4 q1 q3 q4
   obtain ⟨L1, B1⟩ := H3.out.bk
   dsimp only [trmV, setX, setY] at B1
   have k0 := B1.c 0 _ rfl
   have kf0 := B1.f 0
   clear B1
   rw [U2.out.w] at k0
   have UL := U2.out.wl
   go_wp2_with fail
   clear k0 kf0
   have HS : Hid (St w0 F0 tb (zv (zm (zh t A ((t.cells.drop (A + K)).take (M - K))) (A + M - K) K) A 0) w3) := H3
   go_loopw [10] (fun i wr => ∃ k : Nat, k <= M /\ i = .int .i64 ((A : Int) + k) /\ Hid (St w0 F0 tb (zv (zm (zh t A ((t.cells.drop (A + K)).take (M - K))) (A + M - K) K) A k) wr)) (fun i _ => A + M - (intOf i).toNat)
   case atStart => exact ⟨0, Nat.zero_le _, by simp, HS⟩
   case round =>
    obtain ⟨k, hk2, rfl, hr⟩ := hrel
    clear HS H3
    have ww := ((jb (zm (zh t A ((t.cells.drop (A + K)).take (M - K))) (A + M - K) K) A k).w).trans U2.out.w
    obtain ⟨L1, B1⟩ := hr.out.bk
    dsimp only [trmV, setX, setY] at B1
    have k0 := B1.c 0 _ rfl
    have kf0 := B1.f 0
    clear B1
    rw [ww] at k0
    clear ww
    by_cases lt : k < M
    ·have bl := BL.out
     have hz := HZ.out
     have hwl := HWL.out
     obtain ⟨L1, g1, cap1, B1, ec, hc1, ⟨v5, y5⟩, p5, h5⟩ := hr.out.markS (by omega)
     have k27 := B1.c 27 _ rfl
     rw [ec, UL] at k27
     have H5 := zdy h5
     have q0 : (0 : Int) <= (A : Int) + k := by omega
     have q5 : (A : Int) + k < (t.wrt.length : Int) := by omega
     have q6 : (A : Int) + k < (A : Int) + M := by omega
     have tn : ((A : Int) + k).toNat = A + k := by omega
     have wk := zdz ((A : Int) + k + 1) (by omega)
     clear B1 ec hc1 h5 UL bl hz hwl hr
     go_wp2_with fail
     go_roundw
     case rel => exact ⟨k + 1, by omega, by go_num, H5⟩
     case measure => simp [intOf]; omega
    ·have e9 : k = M := by omega
     subst e9
     clear UL
     go_wp2_with fail
     go_end0
     exact ⟨⟨_, rfl⟩, by rw [SE.out]; exact hr.out⟩
 ·have SE : Hid (zZ t a e n = zv (zm (zh t (A + K) ((t.cells.drop A).take (M - K))) A K) A M) := zdy (by rw [SE.out, if_neg np])
  have CP : Hid (Cw t (zh t (A + K) ((t.cells.drop A).take (M - K)))) := zdy (xC t _ _ (by have := HZ.out; rw [List.length_take, List.length_drop]; omega))
  have U2 : Hid (Cw t (zm (zh t (A + K) ((t.cells.drop A).take (M - K))) A K)) := zdy (CP.out.trans (jz _ _ _))
  have FI : Hid (∀ W', St w0 F0 tb (zh t (A + K) ((t.cells.drop A).take (M - K))) W' -> Calls Tryz.prog 105 #[.pointer (some ⟨tb, 0, none⟩), .int .i64 ((A : Int)), .int .i64 (K : Int)] W' (Vd w0 F0 tb (zm (zh t (A + K) ((t.cells.drop A).take (M - K))) A K))) := zdy (fun W' hs => by
   have hz := HZ.out
   have := kO hs A K (by have := CP.out.cl; omega) (by have := CP.out.cl; have := BL.out; omega) (by have := CP.out.cl; have := CP.out.wl; have := HWL.out; omega)
   exact this)
  have m4 := zdz ((A : Int) + M - K) (by omega)
  by_cases CK : C = K
  ·have mk : M = K := by omega
   obtain ⟨v, V, RC, hv⟩ := H1.out.copyC (by have := HZ.out; omega) k2 A A (M - K) (M - K) 0 M C (A * 5) ⟨g, A * 5, none⟩ (by have := HZ.out; omega) (by have := HZ.out; omega) (Nat.min_eq_right (by omega)) (by omega) (fun z => rfl)
   have hv : St w0 F0 tb (zh t (A + K) ((t.cells.drop A).take (M - K))) V := by
    have e0 : (t.cells.drop A).take (M - K) = [] := by rw [mk, Nat.sub_self, List.take_zero]
    rw [Zw t A _ e0 (by have := HZ.out; omega)] at hv
    rw [Zw t (A + K) _ e0 (by have := HZ.out; omega)]
    exact hv
   have H2 := zdy hv
   clear hv
   have FI := zdy (FI.out V H2.out)
   have CK := CK.symm
   subst CK
   have MK := zdy mk
   clear mk
   obtain ⟨L1, B1⟩ := H2.out.bk
   dsimp only [trmV, setX, setY] at B1
   have i0 := B1.c 0 _ rfl
   have if0 := B1.f 0
   clear B1
   rw [CP.out.w] at i0
   go_wp2_with fail
   refine FI.out.mono ?_; rintro e w3 ⟨⟨vv, rfl⟩, h1⟩
   have H3 := zdy h1
   clear h1 FI H2 i0 if0 RC H1 k2 k0 m4 q1 q3 q4
   obtain ⟨L1, B1⟩ := H3.out.bk
   dsimp only [trmV, setX, setY] at B1
   have k0 := B1.c 0 _ rfl
   have kf0 := B1.f 0
   clear B1
   rw [U2.out.w] at k0
   have UL := U2.out.wl
   go_wp2_with fail
   clear k0 kf0
   have HS : Hid (St w0 F0 tb (zv (zm (zh t (A + K) ((t.cells.drop A).take (M - K))) A K) A 0) w3) := H3
   go_loopw [10] (fun i wr => ∃ k : Nat, k <= M /\ i = .int .i64 ((A : Int) + k) /\ Hid (St w0 F0 tb (zv (zm (zh t (A + K) ((t.cells.drop A).take (M - K))) A K) A k) wr)) (fun i _ => A + M - (intOf i).toNat)
   case atStart => exact ⟨0, Nat.zero_le _, by simp, HS⟩
   case round =>
    obtain ⟨k, hk2, rfl, hr⟩ := hrel
    clear HS H3
    have ww := ((jb (zm (zh t (A + K) ((t.cells.drop A).take (M - K))) A K) A k).w).trans U2.out.w
    obtain ⟨L1, B1⟩ := hr.out.bk
    dsimp only [trmV, setX, setY] at B1
    have k0 := B1.c 0 _ rfl
    have kf0 := B1.f 0
    clear B1
    rw [ww] at k0
    clear ww
    by_cases lt : k < M
    ·have bl := BL.out
     have hz := HZ.out
     have hwl := HWL.out
     obtain ⟨L1, g1, cap1, B1, ec, hc1, ⟨v5, y5⟩, p5, h5⟩ := hr.out.markS (by omega)
     have k27 := B1.c 27 _ rfl
     rw [ec, UL] at k27
     have H5 := zdy h5
     have q0 : (0 : Int) <= (A : Int) + k := by omega
     have q5 : (A : Int) + k < (t.wrt.length : Int) := by omega
     have q6 : (A : Int) + k < (A : Int) + M := by omega
     have tn : ((A : Int) + k).toNat = A + k := by omega
     have wk := zdz ((A : Int) + k + 1) (by omega)
     clear B1 ec hc1 h5 UL bl hz hwl hr
     go_wp2_with fail
     go_roundw
     case rel => exact ⟨k + 1, by omega, by go_num, H5⟩
     case measure => simp [intOf]; omega
    ·have e9 : k = M := by omega
     subst e9
     clear UL
     go_wp2_with fail
     go_end0
     exact ⟨⟨_, rfl⟩, by rw [SE.out]; exact hr.out⟩
  ·obtain ⟨v, V, RC, hv⟩ := H1.out.copyC (by have := HZ.out; omega) k2 (A + K) A (M - K) (M - K) (C - K) M C (A * 5 + K * 5) ⟨g, A * 5, none⟩ (by have := HZ.out; omega) (by have := HZ.out; omega) (Nat.min_eq_right (by omega)) (by omega) (fun z => rfl)
   have H2 := zdy hv
   clear hv
   have FI := zdy (FI.out V H2.out)
   obtain ⟨L1, B1⟩ := H2.out.bk
   dsimp only [trmV, setX, setY] at B1
   have i0 := B1.c 0 _ rfl
   have if0 := B1.f 0
   clear B1
   rw [CP.out.w] at i0
   go_wp2_with fail
   refine FI.out.mono ?_; rintro e w3 ⟨⟨vv, rfl⟩, h1⟩
   have H3 := zdy h1
   clear h1 FI H2 i0 if0 RC H1 k2 k0 m4 q1 q3 q4
   obtain ⟨L1, B1⟩ := H3.out.bk
   dsimp only [trmV, setX, setY] at B1
   have k0 := B1.c 0 _ rfl
   have kf0 := B1.f 0
   clear B1
   rw [U2.out.w] at k0
   have UL := U2.out.wl
   go_wp2_with fail
   clear k0 kf0
   have HS : Hid (St w0 F0 tb (zv (zm (zh t (A + K) ((t.cells.drop A).take (M - K))) A K) A 0) w3) := H3
   go_loopw [10] (fun i wr => ∃ k : Nat, k <= M /\ i = .int .i64 ((A : Int) + k) /\ Hid (St w0 F0 tb (zv (zm (zh t (A + K) ((t.cells.drop A).take (M - K))) A K) A k) wr)) (fun i _ => A + M - (intOf i).toNat)
   case atStart => exact ⟨0, Nat.zero_le _, by simp, HS⟩
   case round =>
    obtain ⟨k, hk2, rfl, hr⟩ := hrel
    clear HS H3
    have ww := ((jb (zm (zh t (A + K) ((t.cells.drop A).take (M - K))) A K) A k).w).trans U2.out.w
    obtain ⟨L1, B1⟩ := hr.out.bk
    dsimp only [trmV, setX, setY] at B1
    have k0 := B1.c 0 _ rfl
    have kf0 := B1.f 0
    clear B1
    rw [ww] at k0
    clear ww
    by_cases lt : k < M
    ·have bl := BL.out
     have hz := HZ.out
     have hwl := HWL.out
     obtain ⟨L1, g1, cap1, B1, ec, hc1, ⟨v5, y5⟩, p5, h5⟩ := hr.out.markS (by omega)
     have k27 := B1.c 27 _ rfl
     rw [ec, UL] at k27
     have H5 := zdy h5
     have q0 : (0 : Int) <= (A : Int) + k := by omega
     have q5 : (A : Int) + k < (t.wrt.length : Int) := by omega
     have q6 : (A : Int) + k < (A : Int) + M := by omega
     have tn : ((A : Int) + k).toNat = A + k := by omega
     have wk := zdz ((A : Int) + k + 1) (by omega)
     clear B1 ec hc1 h5 UL bl hz hwl hr
     go_wp2_with fail
     go_roundw
     case rel => exact ⟨k + 1, by omega, by go_num, H5⟩
     case measure => simp [intOf]; omega
    ·have e9 : k = M := by omega
     subst e9
     clear UL
     go_wp2_with fail
     go_end0
     exact ⟨⟨_, rfl⟩, by rw [SE.out]; exact hr.out⟩
end
end
end Go.Proofs.YtmaofighbpnbiaaGreatDoor
