/- TapeAnywhere: the walk. -/
import Derived.Test.YtmaofighbpnbiaaGreatDoorYTqO
namespace Go.Proofs.YtmaofighbpnbiaaGreatDoor
open Go Go.RowKit Go.Sort
set_option linter.unusedVariables false
set_option linter.unusedSimpArgs false
section
def uptoT (w h : Int) (F : List Frm) (time : Int) (k : Nat) : Trm := feedT (newV w h) (((F.take k).filter fun f => decide (f.at_ ≤ time)).flatMap (·.bs))
theorem uptoT_all (w h : Int) {F : List Frm} (time : Int) (ht : timedF 0 F = true) : uptoT w h F time F.length = playT w h (F.take (uptoL F time)) := by
 unfold uptoT playT
 rw [List.take_length, timed_filter time F 0 ht]
theorem uptoT_no {w h : Int} {F : List Frm} {time : Int} {k : Nat} (hk : k < F.length) (c : ¬ (F[k]).at_ ≤ time) : uptoT w h F time (k + 1) = uptoT w h F time k := by
 unfold uptoT
 rw [take_succ_get F k hk, List.filter_append, List.filter_cons_of_neg (by simpa using c), List.filter_nil, List.append_nil]
theorem uptoT_yes {w h : Int} {F : List Frm} {time : Int} {k : Nat} (hk : k < F.length) (c : (F[k]).at_ ≤ time) : uptoT w h F time (k + 1) = feedT (uptoT w h F time k) (F[k]).bs := by
 unfold uptoT feedT
 rw [take_succ_get F k hk, List.filter_append, List.filter_cons_of_pos (by simpa using c), List.filter_nil, List.flatMap_append, List.foldl_append]
 simp
theorem sub_flat {l m : List Frm} (h : l.Sublist m) : (l.flatMap (·.bs)).length ≤ (m.flatMap (·.bs)).length := by
 induction h with
 | slnil => exact Nat.le_refl _
 | cons a _ ih => rw [List.flatMap_cons, List.length_append]; omega
 | cons_cons a _ ih => rw [List.flatMap_cons, List.flatMap_cons, List.length_append, List.length_append]; omega
theorem uptoT_live {w h : Int} {F : List Frm} {time : Int} (sz : sizedB w h = true) (rng : ∀ f ∈ F, Byt f.bs) (k : Nat) : Live (uptoT w h F time k) ∧ (uptoT w h F time k).held.size ≤ (F.flatMap (·.bs)).length := by
 have s := of_decide_eq_true sz
 have L0 := live_new w h s.1 s.2.1 s.2.2.1 s.2.2.2.1 s.2.2.2.2
 have r : ∀ b ∈ ((F.take k).filter fun f => decide (f.at_ ≤ time)).flatMap (·.bs), 0 ≤ b ∧ b < 256 := fun b m => by
  obtain ⟨f, mf, mb⟩ := List.mem_flatMap.1 m
  exact rng f (List.mem_of_mem_take (List.mem_filter.1 mf).1) b mb
 obtain ⟨a, b⟩ := live_feed _ L0 r
 refine ⟨a, Nat.le_trans b ?_⟩
 have z : (newV w h).held.size = 0 := rfl
 have l1 : (((F.take k).filter fun f => decide (f.at_ ≤ time)).flatMap (·.bs)).length ≤ (F.flatMap (·.bs)).length := by
  have sub : ((F.take k).filter fun f => decide (f.at_ ≤ time)).Sublist F := (List.filter_sublist).trans (List.take_sublist k F)
  exact sub_flat sub
 omega
theorem newC_same {w h : Int} {l : List Frm} {every : Int} (h1 : newC w h l every ≠ 0) (e1 : ¬ every < 1) : newC w h l 1000 = newC w h l every := by
 unfold newC
 by_cases a : sizedB w h = false
 ·rw [if_pos a, if_pos a]
 ·rw [if_neg a, if_neg a]
  by_cases b : checkT l ≠ 0
  ·rw [if_pos b, if_pos b]
  ·rw [if_neg b, if_neg b, if_neg e1, if_neg (by decide)]
theorem newC_thou {w h : Int} {l : List Frm} {every : Int} (h1 : newC w h l every = 0) : newC w h l 1000 = 0 := by
 obtain ⟨a, b, c⟩ := newC_ok h1
 unfold newC
 rw [if_neg (by rw [a]; decide), if_neg (by rw [b]; simp), if_neg (by decide)]
theorem bel_drew (W : World) (q : Nat) : Below W.heap.size W (W.drewN q) := ⟨rfl, rfl, rfl, Nat.le_refl _, fun _ _ => rfl⟩
def AtU (V : World) (t : Trm) (time : Int) (e : Ending) (w' : World) : Prop := ∃ (a b : Int) (A : Option Addr) (n c : Nat) (x y : Int) (sh : Bool) (k : Int), e = .returned (.tuple #[.agg #[.int .i64 a, .int .i64 b, .slice A n c, .int .i64 x, .int .i64 y, .bool sh], .int .i64 k]) ∧ Below V.heap.size V w' ∧ ((0 ≤ time ∧ time ≤ 1099511627776) → k = 0 ∧ Value.agg #[.int .i64 a, .int .i64 b, .slice A n c, .int .i64 x, .int .i64 y, .bool sh] = scrV (seenT t) A c ∧ RowAt w' 79 5 (.slice A t.cells.length c) t.cells.length (celsV t.cells)) ∧ (¬ (0 ≤ time ∧ time ≤ 1099511627776) → k = 301) ∧ (k ≠ 0 → n = 0)
theorem t_PAtU {W3 V : World} {pb : Nat} {w h : Int} {F : List Frm} {ev : Nat} (P : PlayAt W3 pb w h F ev V) (sz : sizedB w h = true) (ht : timedF 0 F = true) (rng : ∀ f ∈ F, Byt f.bs) (lbs : ∀ f ∈ F, f.bs.length ≤ 1048576) (tot : (F.flatMap (·.bs)).length ≤ 268435456) (fl : F.length ≤ 16384) (time : Int) :
  Calls Tryz.prog 28 #[.pointer (some ⟨pb, 0, none⟩), .int .i64 time] V (AtU V (playT w h (F.take (uptoL F time))) time) := by
 by_cases c : 0 ≤ time ∧ time ≤ 1099511627776
 ·refine (t_PAt P sz ht rng lbs tot fl time c.1 c.2).mono ?_
  rintro e w' ⟨A, k, h1, h2, h3⟩
  exact ⟨_, _, A, _, k, _, _, _, 0, h1, h3, fun _ => ⟨rfl, rfl, h2.1⟩, fun n => absurd c n, fun n => absurd rfl n⟩
 ·refine (t_PAt_no _ time 301 (Or.inr ⟨_, rfl, by omega, rfl⟩) V).mono ?_
  rintro e w' ⟨h1, h2⟩
  exact ⟨0, 0, none, 0, 0, 0, 0, false, 301, h1, h2, fun y => absurd y c, fun _ => rfl, fun _ => rfl⟩
structure AnyS (V3 Y : World) (b : Nat) (tp : Trm) (g7 g8 : Nat) (l7 l8 : List Value) (A7 : Option Addr) (c7 : Nat) (q : Prop) (V : World) : Prop where
 st : St Y [] b tp V
 b7 : Bk V g7 l7 51
 b8 : Bk V g8 l8 51
 bel : Below V3.heap.size V3 V
 row : q → RowAt V 79 5 (.slice A7 tp.cells.length c7) tp.cells.length (celsV tp.cells)
section
variable {V3 Y V V' : World} {b : Nat} {tp : Trm} {g7 g8 : Nat} {l7 l8 : List Value} {A7 : Option Addr} {c7 : Nat} {q : Prop}
theorem row_old {W W' : World} {A : Option Addr} {c n : Nat} {xs : List Value} (h : RowAt W 79 5 (.slice A n c) n xs) (hb : Below W.heap.size W W') : RowAt W' 79 5 (.slice A n c) n xs := h.keep (fun g mg => hb.block g (h.lt g mg))
theorem AnyS.below (h : AnyS V3 Y b tp g7 g8 l7 l8 A7 c7 q V) (hb : Below V.heap.size V V') : AnyS V3 Y b tp g7 g8 l7 l8 A7 c7 q V' :=
 ⟨h.st.below hb, h.b7.of_eq (hb.block _ h.b7.lt), h.b8.of_eq (hb.block _ h.b8.lt), h.bel.trans (hb.mono h.bel.size), fun a => row_old (h.row a) hb⟩
theorem AnyS.screen (h : AnyS V3 Y b tp g7 g8 l7 l8 A7 c7 q V) (f : Fine tp) : Calls Tryz.prog 30 #[.pointer (some ⟨b, 0, none⟩)] V fun e w' => ∃ A c, e = .returned (scrV (seenT tp) A c) ∧ RowAt w' 79 5 (.slice A tp.cells.length c) tp.cells.length (celsV tp.cells) ∧ AnyS V3 Y b tp g7 g8 l7 l8 A7 c7 q w' := by
 refine (t_Screen h.st f).mono ?_
 rintro e w' ⟨A, c, h1, h2, h3⟩
 exact ⟨A, c, h1, h2.1, h.below h3⟩
def scrS (tp : Trm) : Spec := ⟨fun v w => ∃ A c, v = scrV (seenT tp) A c ∧ RowAt w 79 5 (.slice A tp.cells.length c) tp.cells.length (celsV tp.cells), fun v w w' hb ⟨A, c, e, h⟩ => ⟨A, c, e, h.keep (fun g mg => hb.block g (h.lt g mg))⟩⟩
theorem AnyS.screenL (h : AnyS V3 Y b tp g7 g8 l7 l8 A7 c7 q V) (f : Fine tp) (d : Nat) (os : Array Obj) : Calls Tryz.prog 30 #[.pointer (some ⟨b, 0, none⟩)] (grow (redrawn V d) os) fun e w' => ∃ v, e = .returned v ∧ (scrS tp).r v w' ∧ Below (grow (redrawn V d) os).heap.size (grow (redrawn V d) os) w' := by
 refine (t_Screen (h.below (below_regrown V d os)).st f).mono ?_
 rintro e w' ⟨A, c, h1, h2, h3⟩
 exact ⟨_, h1, ⟨A, c, rfl, h2.1⟩, h3⟩
theorem seen_celT (t : Trm) : (seenT t).cells = t.cells := by unfold seenT; split <;> rfl
theorem AnyS.alike (h : AnyS V3 Y b tp g7 g8 l7 l8 A7 c7 q V) (a : q) (f : Fine tp) {A : Option Addr} {c : Nat} (r : RowAt V 79 5 (.slice A tp.cells.length c) tp.cells.length (celsV tp.cells)) {x : Value} (e : x = scrV (seenT tp) A7 c7) :
  Calls Tryz.prog 29 #[x, scrV (seenT tp) A c] V fun e w' => e = .returned (.bool true) ∧ AnyS V3 Y b tp g7 g8 l7 l8 A7 c7 q w' := by
 subst e
 have cl8 : tp.cells.length ≤ 1048576 := by have := f.cl; have := f.ar; omega
 refine (law_alike30 (seenT tp) A7 A c7 c V (by rw [seen_celT]; exact cl8) (by rw [seen_celT]; exact h.row a) (by rw [seen_celT]; exact r)).mono ?_
 rintro e w' ⟨h1, h2⟩
 exact ⟨h1, h.below h2⟩
end
theorem argB_old {W V : World} {A : Option Addr} {c : Nat} {D : List Int} (h : ArgB W A c D) (hb : Below W.heap.size W V) : ArgB V A c D := ⟨h.cap, h.rng, fun hne => by
 obtain ⟨ad, e, h1, h2⟩ := h.sees hne
 exact ⟨ad, e, Nat.lt_of_lt_of_le h1 hb.size, fun j u hj => (hb.cell (by rw [add_blk]; exact h1)).trans (h2 j u hj)⟩⟩
theorem uptoT_zero (w h : Int) (F : List Frm) (time : Int) : uptoT w h F time 0 = newV w h := rfl
theorem ts_cell {W : World} {A4 : Option Addr} {ts : List Int} (TS : Sees W W.heap.size A4 (ts.map (.int .i64))) (i : Nat) (hi : i < ts.length) : ∃ ad, A4 = some ad ∧ ∀ j, (hj : j < ts.length) → ∀ wr, Below W.heap.size W wr → wr.cell? (ad.add j) = some (.int .i64 (ts[j])) := by
  obtain ⟨ad, e, h1, h2⟩ := TS (by intro e; have : (ts.map (Value.int .i64)).length = 0 := by rw [e]; rfl
                                   rw [List.length_map] at this; omega)
  refine ⟨ad, e, fun j hj wr hb => (hb.cell (by rw [add_blk]; exact h1)).trans (h2 j _ ?_)⟩
  rw [List.getElem?_map, List.getElem?_eq_getElem hj]
  rfl
set_option maxHeartbeats 32000000 in
set_option maxRecDepth 100000 in
theorem tapeAnywhere_walk (w h : Int) (A : Option Addr) (c : Nat) (L : List FA) (every : Int) (A4 : Option Addr) (c4 : Nat) (ts : List Int) (W : World) (E : EnvV W) (F : FrsD W W.heap.size A c L) (he : -9223372036854775808 ≤ every ∧ every ≤ 9223372036854775807) (TS : Sees W W.heap.size A4 (ts.map (.int .i64))) (tc : ts.length ≤ c4) (tl : ts.length ≤ 140737488355328) :
  Calls Tryz.prog 6 #[.agg #[.int .i64 w, .int .i64 h], .slice A L.length c, .int .i64 every, .slice A4 ts.length c4] W fun e w' => e = .returned (.bool true) ∧ Below W.heap.size W w' := by
 obtain ⟨Q, hQ⟩ : ∃ Q, Q = W.alloc (.cells #[.int .i64 w, .int .i64 h] 23) := ⟨_, rfl⟩
 have BQ : Below W.heap.size W Q := by rw [hQ]; exact (Below.refl _ W).alloc (Nat.le_refl _) _
 have KQ : Bk Q W.heap.size [.int .i64 w, .int .i64 h] 23 := by rw [hQ]; exact Bk.new W _ _
 have FQ := F.below BQ (Nat.le_refl _)
 have BY := Lib.hid (law_beyond A c L W.heap.size Q FQ)
 have AL := Lib.hid (law_alive Q (E.mv (Mv.below (F := []) BQ) (by simp)))
 have HE := Lib.hid E
 have HF := Lib.hid F
 have HTS := Lib.hid TS
 have HBQ := Lib.hid BQ
 have HKQ := Lib.hid KQ
 have HQ := Lib.hid hQ
 clear hQ BQ KQ FQ F E TS
 obtain ⟨bb, hbb⟩ : ∃ bb, bb = beyB L := ⟨_, rfl⟩
 have HBB := Lib.hid hbb
 rw [← hbb] at BY
 clear hbb
 cases bb with
 | true =>
  go_enter Tryz.func6, Tryz.ntmps6
  go_upto_region 1 with fail
  rw [← HQ.out]
  go_wp2_with fail
  refine BY.out.mono ?_; rintro e w1 ⟨rfl, hw⟩
  rw [hw]
  clear hw
  go_wp2_with fail
  refine BY.out.mono ?_; rintro e w2 ⟨rfl, hw⟩
  rw [hw]
  clear hw
  go_wp2_with fail
  go_ret
  exact ⟨rfl, HBQ.out⟩
 | false =>
  have tot : (flatB L).length ≤ 134217728 := by have := of_decide_eq_false HBB.out.symm; omega
  go_enter Tryz.func6, Tryz.ntmps6
  go_upto_region 1 with fail
  rw [← HQ.out]
  go_wp2_with fail
  refine BY.out.mono ?_; rintro e w1 ⟨rfl, hw⟩
  rw [hw]
  clear hw BY
  go_wp2_with fail
  refine AL.out.mono ?_; rintro e V1 ⟨rfl, B1⟩
  have K1 := HKQ.out.of_eq (B1.block _ HKQ.out.lt)
  have BW1 := HBQ.out.trans (B1.mono HBQ.out.size)
  have E1 : EnvV V1 := HE.out.mv (Mv.below (F := []) BW1) (by simp)
  have NP := Lib.hid (t_PNew w h A c L every W.heap.size V1 E1 (HF.out.below BW1 (Nat.le_refl _)) BW1.size (by omega) he)
  have s0 := K1.c 0 _ rfl
  have s1 := K1.c 1 _ rfl
  have HB1 := Lib.hid BW1
  have HK1 := Lib.hid K1
  clear AL B1 K1 BW1 E1
  go_wp2_with fail
  refine NP.out.mono ?_; rintro e V2 ⟨vp, rfl, B2, P0, P1⟩
  have K2 := HK1.out.of_eq (B2.block _ HK1.out.lt)
  have BW2 := HB1.out.trans (B2.mono HB1.out.size)
  have E2 : EnvV V2 := HE.out.mv (Mv.below (F := []) BW2) (by simp)
  have NQ := Lib.hid (t_PNew w h A c L 1000 W.heap.size V2 E2 (HF.out.below BW2 (Nat.le_refl _)) BW2.size (by omega) (by decide))
  have HP0 := Lib.hid P0
  have HP1 := Lib.hid P1
  have t0 := K2.c 0 _ rfl
  have t1 := K2.c 1 _ rfl
  have HB2 := Lib.hid BW2
  have HK2 := Lib.hid K2
  obtain ⟨k1, hk1⟩ : ∃ k1, k1 = newC w h (frms L) every := ⟨_, rfl⟩
  rw [← hk1]
  have HK := Lib.hid hk1
  clear NP B2 P0 P1 K2 BW2 E2 s0 s1 hk1
  go_wp2_with fail
  refine NQ.out.mono ?_; rintro e V3 ⟨vq, rfl, B3, Q0, Q1⟩
  have HB3 := Lib.hid (HB2.out.trans (B3.mono HB2.out.size))
  have B23 := Lib.hid B3
  have HQ0 := Lib.hid Q0
  have HQ1 := Lib.hid Q1
  obtain ⟨k2, hk2⟩ : ∃ k2, k2 = newC w h (frms L) 1000 := ⟨_, rfl⟩
  rw [← hk2]
  have HKT := Lib.hid hk2
  have HK3 := Lib.hid (HK2.out.of_eq (B3.block _ HK2.out.lt))
  clear NQ B3 Q0 Q1 t0 t1 hk2
  by_cases k0 : k1 = 0
  case neg =>
   have kb : (k1 == 0) = false := by simpa using k0
   have vp0 : vp = .pointer none := HP0.out (by rw [← HK.out]; exact k0)
   subst vp0
   by_cases e1 : every < 1
   ·go_wp2_with fail
    go_ret
    exact ⟨by rfl, HB3.out⟩
   ·have e2 : k2 = k1 := by rw [HKT.out, HK.out]; exact newC_same (by rw [← HK.out]; exact k0) e1
    have HB3' := HB3
    subst e2
    go_wp2_with fail
    go_ret
    exact ⟨by rfl, HB3.out⟩
  subst k0
  obtain ⟨szs, ck, ev1⟩ := newC_ok HK.out.symm
  have k20 : k2 = 0 := by rw [HKT.out]; exact newC_thou HK.out.symm
  subst k20
  obtain ⟨Wp, pb, evp, rfl, PP, _⟩ := HP1.out HK.out.symm
  obtain ⟨Wq, qb, evq, rfl, PQ, _⟩ := HQ1.out HKT.out.symm
  have HPP := Lib.hid (PP.below B23.out)
  have HPQ := Lib.hid PQ
  clear PP PQ HP0 HP1 HQ0 HQ1
  obtain ⟨n, hn⟩ : ∃ n, n = ts.length := ⟨_, rfl⟩
  obtain ⟨m, hm⟩ : ∃ m, m = L.length := ⟨_, rfl⟩
  have ml : m ≤ 16384 := by
   have := (check_parts ck).2.1
   rw [frms_len] at this
   omega
  have nl : n ≤ 140737488355328 := by omega
  have RNG : Hid (∀ f ∈ frms L, Byt f.bs) := Lib.hid (fun f mf => by
   obtain ⟨x, mx, rfl⟩ := List.mem_map.1 mf
   exact (HF.out.ok x mx).b.rng)
  have LBS : Hid (∀ f ∈ frms L, f.bs.length ≤ 1048576) := Lib.hid (fun f mf => long_each (check_parts ck).1 f mf)
  have TOT : Hid (((frms L).flatMap (·.bs)).length ≤ 134217728) := Lib.hid (by rw [frms_flat]; exact tot)
  have HN := Lib.hid hn
  have HM := Lib.hid hm
  have HSZ := Lib.hid szs
  have HCK := Lib.hid ck
  have HTC := Lib.hid tc
  rw [← hn, ← hm]
  clear hn hm szs ck tc tl HQ
  go_wp2_with fail
  go_loopw [13, 155] (fun s13 s155 wr => ∃ i : Nat, i ≤ n ∧ s13 = .int .i64 (i : Int) ∧ s155 ≠ tokV ∧ Hid (Below V3.heap.size V3 wr)) (fun s13 _ _ => n - (intOf s13).toNat)
  case atStart => exact ⟨0, Nat.zero_le _, rfl, (by intro z; cases z), Lib.hid (Below.refl _ _)⟩
  case round =>
   obtain ⟨i, hi, rfl, ntk, he⟩ := hrel
   obtain ⟨Y, hY⟩ : ∃ Y, Y = wr := ⟨_, rfl⟩
   subst hY
   by_cases lt : i < n
   ·have it : i < ts.length := by rw [← HN.out]; exact lt
    obtain ⟨ad4, rfl, TSC⟩ := ts_cell HTS.out i it
    obtain ⟨ti, hti⟩ : ∃ ti, ti = ts[i] := ⟨_, rfl⟩
    have TI : Hid (∀ wr, Below W.heap.size W wr → wr.cell? (ad4.add i) = some (.int .i64 ti)) := Lib.hid (fun wr hb => by rw [hti]; exact TSC i it wr hb)
    have jt : n - 1 - i < ts.length := by rw [← HN.out]; omega
    obtain ⟨tj, htj⟩ : ∃ tj, tj = ts[n - 1 - i] := ⟨_, rfl⟩
    have TJ : Hid (∀ wr, Below W.heap.size W wr → wr.cell? (ad4.add (n - 1 - i)) = some (.int .i64 tj)) := Lib.hid (fun wr hb => by rw [htj]; exact TSC _ jt wr hb)
    have BWr := Lib.hid (HB3.out.trans (he.out.mono HB3.out.size))
    have HKr := HK3.out.of_eq (he.out.block _ HK3.out.lt)
    have Er : EnvV Y := HE.out.mv (Mv.below (F := []) BWr.out) (by simp)
    have sp := of_decide_eq_true HSZ.out
    have TN := Lib.hid (t_New w h sp.1 sp.2.1 sp.2.2.1 sp.2.2.2.1 sp.2.2.2.2 Y Er)
    have r0 := HKr.c 0 _ rfl
    have r1 := HKr.c 1 _ rfl
    have q0 : (0 : Int) ≤ (i : Int) := by omega
    have q5 : (i : Int) < (n : Int) := by omega
    have tn : (i : Int).toNat = i := by omega
    have wi : IntKind.i64.wrap ((i : Int) + 1) = (i : Int) + 1 := IntWalk.i64_in _ (by omega)
    clear hti htj TSC it jt HKr Er sp
    go_wp2_with fail
    refine TN.out.mono ?_; rintro e w4 ⟨b, rfl, hb4, hge4, hs4⟩
    have S4 : Hid (St Y [] b (uptoT w h (frms L) ti 0) w4) := Lib.hid hs4
    clear TN hb4 hge4 hs4 r0 r1
    go_wp2_with fail
    go_loopw [16] (fun s16 wr => ∃ k : Nat, k ≤ m ∧ s16 = .int .i64 (k : Int) ∧ Hid (St Y [] b (uptoT w h (frms L) ti k) wr)) (fun s16 _ => m - (intOf s16).toNat)
    case atStart => exact ⟨0, Nat.zero_le _, rfl, S4⟩
    case round =>
     obtain ⟨k, hk, rfl, hs⟩ := hrel
     by_cases kl : k < m
     ·have kl' : k < L.length := by rw [← HM.out]; exact kl
      have kf : k < (frms L).length := by rw [frms_len]; exact kl'
      have BX := Lib.hid (BWr.out.trans ((old_mv hs.out.mv).mono BWr.out.size))
      obtain ⟨ad, rfl, lb, z1, z2⟩ := (HF.out.below BX.out (Nat.le_refl _)).at k kl'
      have AR := argB_old (HF.out.arg k kl') BWr.out
      have GX := frms_get L k kl'
      have hD := LBS.out _ (List.getElem_mem kf)
      obtain ⟨Lv, hh⟩ := uptoT_live (time := ti) HSZ.out RNG.out k
      have Tt := TOT.out
      rw [GX] at hD
      dsimp only at hD
      have FE := Lib.hid (fun q => arg_feed AR (hs.out.below (bel_drew wr q)) Lv hD (by omega))
      have UY := Lib.hid (fun (c : (L[k]).at_ ≤ ti) => uptoT_yes (w := w) (h := h) kf (by rw [GX]; exact c))
      have UN := Lib.hid (fun (c : ¬ (L[k]).at_ ≤ ti) => uptoT_no (w := w) (h := h) kf (by rw [GX]; exact c))
      rw [GX] at UY
      have z3 := TI.out wr BX.out
      have HSS := hs
      generalize hxx : L[k] = x at *
      obtain ⟨xt, xA, xc, bs⟩ := x
      dsimp only at z1 z2 FE UY UN
      have p0 : (0 : Int) ≤ (k : Int) := by omega
      have p5 : (k : Int) < (m : Int) := by omega
      have pn : (k : Int).toNat = k := by omega
      have wk : IntKind.i64.wrap ((k : Int) + 1) = (k : Int) + 1 := IntWalk.i64_in _ (by omega)
      clear hxx AR GX hD Lv hh Tt lb
      by_cases c : xt ≤ ti
      ·go_wp2_with fail
       go_quiet (fail)
       go_wp2_with fail
       refine (FE.out nq).mono ?_; rintro e w5 ⟨rfl, S5⟩
       rw [← UY.out c] at S5
       have S5 := Lib.hid S5
       go_wp2_with fail
       go_roundw
       case rel => exact ⟨k + 1, by omega, by go_num, S5⟩
       case measure => simp [intOf]; omega
      ·go_wp2_with fail
       go_quiet (fail)
       go_wp2_with fail
       have S5 := hs.out.below (bel_drew wr nq)
       rw [← UN.out c] at S5
       have S5 := Lib.hid S5
       go_roundw
       case rel => exact ⟨k + 1, by omega, by go_num, S5⟩
       case measure => simp [intOf]; omega
     ·have e : k = m := by omega
      subst e
      have p5 : ¬ (k : Int) < (k : Int) := by omega
      have TMD := Lib.hid (check_parts HCK.out).2.2
      have TL : uptoT w h (frms L) ti k = playT w h ((frms L).take (uptoL (frms L) ti)) := by
       rw [← uptoT_all w h ti TMD.out, frms_len, ← HM.out]
      have LV := Lib.hid (uptoT_live (time := ti) HSZ.out RNG.out k)
      rw [TL] at LV
      have S6 := hs.out
      rw [TL] at S6
      have S6 := Lib.hid S6
      have B6 := Lib.hid (he.out.trans ((old_mv hs.out.mv).mono he.out.size))
      have FL6 : (frms L).length ≤ 16384 := by rw [frms_len, ← HM.out]; exact ml
      have T6 : ((frms L).flatMap (·.bs)).length ≤ 268435456 := by have := TOT.out; omega
      have PA := Lib.hid (t_PAtU (HPP.out.below B6.out) HSZ.out TMD.out RNG.out LBS.out T6 FL6 ti)
      have QA := Lib.hid (fun (V : World) (hb : Below V3.heap.size V3 V) => t_PAtU (HPQ.out.below hb) HSZ.out TMD.out RNG.out LBS.out T6 FL6 tj)
      generalize playT w h ((frms L).take (uptoL (frms L) ti)) = tp at *
      have z6 := TI.out wr (HB3.out.trans (B6.out.mono HB3.out.size))
      have nlm : (n : Int) ≤ 140737488355328 := by omega
      have wn : IntKind.i64.wrap ((n : Int) - 1) = (n : Int) - 1 := IntWalk.i64_in _ (by omega)
      have wn2 : IntKind.i64.wrap ((n : Int) - 1 - (i : Int)) = (n : Int) - 1 - (i : Int) := IntWalk.i64_in _ (by omega)
      clear TL hs FL6 T6
      go_wp2_with fail
      refine PA.out.mono ?_; rintro e w7 ⟨sa, sb, A7, ns, c7, sx, sy, ss, k7, rfl, b7, y7, n7, x7⟩
      have S7 := S6.out.below b7
      obtain ⟨Q7, hQ7⟩ : ∃ Q7, Q7 = w7.alloc (.cells #[.int .i64 sa, .int .i64 sb, .slice A7 ns c7, .int .i64 sx, .int .i64 sy, .bool ss] 51) := ⟨_, rfl⟩
      have a7 : Below w7.heap.size w7 Q7 := by rw [hQ7]; exact (Below.refl _ w7).alloc (Nat.le_refl _) _
      have K7 : Bk Q7 w7.heap.size [.int .i64 sa, .int .i64 sb, .slice A7 ns c7, .int .i64 sx, .int .i64 sy, .bool ss] 51 := by rw [hQ7]; exact Bk.new w7 _ _
      have HQ7 := Lib.hid hQ7
      have S7 := Lib.hid (S7.below a7)
      have B7 := Lib.hid (B6.out.trans ((b7.trans (a7.mono b7.size)).mono B6.out.size))
      have QC := Lib.hid (QA.out Q7 B7.out)
      have z7 := TJ.out Q7 (HB3.out.trans (B7.out.mono HB3.out.size))
      have HK7 := Lib.hid K7
      have Y7 : Hid ((0 ≤ ti ∧ ti ≤ 1099511627776) → k7 = 0 ∧ Value.agg #[.int .i64 sa, .int .i64 sb, .slice A7 ns c7, .int .i64 sx, .int .i64 sy, .bool ss] = scrV (seenT tp) A7 c7 ∧ RowAt Q7 79 5 (.slice A7 tp.cells.length c7) tp.cells.length (celsV tp.cells)) := Lib.hid (fun r => by
       obtain ⟨g1, g2, g3⟩ := y7 r
       exact ⟨g1, g2, g3.keep (fun g mg => a7.block g (g3.lt g mg))⟩)
      have N7 := Lib.hid n7
      have j0 : (0 : Int) ≤ (n : Int) - 1 - (i : Int) := by omega
      have j5 : (n : Int) - 1 - (i : Int) < (n : Int) := by omega
      have jn : ((n : Int) - 1 - (i : Int)).toNat = n - 1 - i := by omega
      generalize hg7 : w7.heap.size = g7 at HK7
      have HG7 := Lib.hid hg7
      clear PA S6 a7 hQ7 b7 y7 n7 x7 QA z6 K7 B6 hg7
      go_upto_region 21 with fail
      rw [← HQ7.out, HG7.out]
      clear HQ7
      go_wp2_with fail
      refine QC.out.mono ?_; rintro e w8 ⟨ta, tb, A8, nt, c8, tx, ty, tss, k8, rfl, b8, y8, n8, x8⟩
      have S8 := S7.out.below b8
      obtain ⟨Q8, hQ8⟩ : ∃ Q8, Q8 = w8.alloc (.cells #[.int .i64 ta, .int .i64 tb, .slice A8 nt c8, .int .i64 tx, .int .i64 ty, .bool tss] 51) := ⟨_, rfl⟩
      have a8 : Below w8.heap.size w8 Q8 := by rw [hQ8]; exact (Below.refl _ w8).alloc (Nat.le_refl _) _
      have K8 : Bk Q8 w8.heap.size [.int .i64 ta, .int .i64 tb, .slice A8 nt c8, .int .i64 tx, .int .i64 ty, .bool tss] 51 := by rw [hQ8]; exact Bk.new w8 _ _
      have HQ8 := Lib.hid hQ8
      have b78 := b8.trans (a8.mono b8.size)
      generalize hg8 : w8.heap.size = g8 at K8
      have HG8 := Lib.hid hg8
      have SA : Hid (AnyS V3 Y b tp g7 g8 [.int .i64 sa, .int .i64 sb, .slice A7 ns c7, .int .i64 sx, .int .i64 sy, .bool ss] [.int .i64 ta, .int .i64 tb, .slice A8 nt c8, .int .i64 tx, .int .i64 ty, .bool tss] A7 c7 (0 ≤ ti ∧ ti ≤ 1099511627776) Q8) := Lib.hid ⟨S7.out.below b78, HK7.out.of_eq (b78.block _ HK7.out.lt), K8, B7.out.trans (b78.mono B7.out.size), fun a => row_old (Y7.out a).2.2 b78⟩
      have z8 := TI.out Q8 (HB3.out.trans (SA.out.bel.mono HB3.out.size))
      have X7 := N7
      have E7 : Hid ((0 ≤ ti ∧ ti ≤ 1099511627776) → k7 = 0 ∧ Value.agg #[.int .i64 sa, .int .i64 sb, .slice A7 ns c7, .int .i64 sx, .int .i64 sy, .bool ss] = scrV (seenT tp) A7 c7) := Lib.hid (fun a => ⟨(Y7.out a).1, (Y7.out a).2.1⟩)
      clear S8 a8 hQ8 K8 b8 y8 n8 QC S7 HK7 Y7 B7 b78 hg8 z7 j0 j5 jn
      go_upto_region 22 with fail
      rw [← HQ8.out, HG8.out]
      clear HQ8
      by_cases ci : 0 ≤ ti ∧ ti ≤ 1099511627776
      ·obtain ⟨e7, ev7⟩ := E7.out ci
       subst e7
       have EV7 := Lib.hid ev7
       clear E7
       have d1 : ¬ ti < 0 := by omega
       have d2 : ¬ 1099511627776 < ti := by omega
       clear ev7
       go_wp2_with fail
       have K := SA.out.b7
       have j0 := fun d os => (K.regrown d os).c 0 _ rfl
       have j1 := fun d os => (K.regrown d os).c 1 _ rfl
       have j2 := fun d os => (K.regrown d os).c 2 _ rfl
       have j3 := fun d os => (K.regrown d os).c 3 _ rfl
       have j4 := fun d os => (K.regrown d os).c 4 _ rfl
       have j5 := fun d os => (K.regrown d os).c 5 _ rfl
       have SCL := Lib.hid (SA.out.screenL LV.out.1.fine)
       clear K
       by_cases e8 : k8 = 0
       ·subst e8
        refine wp_region_spec 14 [(155, scrS tp)] [155] (by kernel_rfl) (by kernel_rfl) (by kernel_rfl) (by intro t ht; rw [List.mem_singleton.1 ht]; exact ntk) ?_
        simp only [List.take_succ_cons, List.take_zero, List.drop_succ_cons, List.drop_zero]
        repeat (refine wpS_step (by rfl) (fun K hK => ?_); go_simp; first | (refine hK _ ?_; clear hK K) | (apply Exists.intro; refine ⟨fun _ => ?_, hK _ ?_⟩; (fail); clear hK K))
        refine wpS_born 155 rfl (by simp) (by first | (simp; done) | simp [put_size]) (by kernel_rfl) (by rfl) (by intro _ _ h; cases h) (fun x => ?_) ?_
        ·go_simp
         exact ⟨Below.refl _ _, SCL.out x.d x.os⟩
        refine wpS_nil ?_
        intro W5 vs5 hl5 hv5
        obtain ⟨A4, c4, e155, R4⟩ := hv5 155 (by simp) rfl
        simp only [fillA, e155]
        have SD := Lib.hid (SA.out.below (later_below.1 hl5))
        have R4 := Lib.hid R4
        have K := SD.out.b8
        have j8 := K.c 2 _ rfl
        clear hl5 hv5 e155 K j0 j1 j2 j3 j4 j5 SCL
        go_wp2_with fail
        refine (SD.out.alike ci LV.out.1.fine R4.out EV7.out).mono ?_
        rintro e u5 ⟨rfl, S5⟩
        have SD := Lib.hid S5
        have K := SD.out.b8
        have y8 := K.c 2 _ rfl
        clear S5 K
        go_wp2_with fail
        go_roundw
        case rel => exact ⟨i + 1, by omega, by go_num, (by intro z; cases z), Lib.hid SD.out.bel⟩
        case measure => simp [intOf]; omega
       ·have e8b : (k8 == 0) = false := by simpa using e8
        have nz : nt = 0 := x8 e8
        subst nz
        refine wp_region_spec 14 [(155, scrS tp)] [155] (by kernel_rfl) (by kernel_rfl) (by kernel_rfl) (by intro t ht; rw [List.mem_singleton.1 ht]; exact ntk) ?_
        simp only [List.take_succ_cons, List.take_zero, List.drop_succ_cons, List.drop_zero]
        repeat (refine wpS_step (by rfl) (fun K hK => ?_); go_simp; first | (refine hK _ ?_; clear hK K) | (apply Exists.intro; refine ⟨fun _ => ?_, hK _ ?_⟩; (fail); clear hK K))
        refine wpS_born 155 rfl (by simp) (by first | (simp; done) | simp [put_size]) (by kernel_rfl) (by rfl) (by intro _ _ h; cases h) (fun x => ?_) ?_
        ·go_simp
         exact ⟨Below.refl _ _, SCL.out x.d x.os⟩
        refine wpS_nil ?_
        intro W5 vs5 hl5 hv5
        obtain ⟨A4, c4, e155, R4⟩ := hv5 155 (by simp) rfl
        simp only [fillA, e155]
        have SD := Lib.hid (SA.out.below (later_below.1 hl5))
        have R4 := Lib.hid R4
        have K := SD.out.b8
        have j8 := K.c 2 _ rfl
        clear hl5 hv5 e155 K j0 j1 j2 j3 j4 j5 SCL
        go_wp2_with fail
        refine (SD.out.alike ci LV.out.1.fine R4.out EV7.out).mono ?_
        rintro e u5 ⟨rfl, S5⟩
        have SD := Lib.hid S5
        have K := SD.out.b8
        have y8 := K.c 2 _ rfl
        clear S5 K
        go_wp2_with fail
        go_roundw
        case rel => exact ⟨i + 1, by omega, by go_num, (by intro z; cases z), Lib.hid SD.out.bel⟩
        case measure => simp [intOf]; omega
      ·have e7 : k7 = 301 := X7.out ci
       subst e7
       have dd : (decide (ti < 0) || decide (1099511627776 < ti)) = true := by
        by_cases d : ti < 0
        ·rw [decide_eq_true d]; rfl
        ·rw [decide_eq_true (show 1099511627776 < ti by omega)]; simp
       have K2 := SA.out.b8
       have l8 := K2.c 2 _ rfl
       clear K2 E7
       have BD := Lib.hid (fun nq => SA.out.bel.trans ((bel_drew Q8 nq).mono SA.out.bel.size))
       have fin : True := trivial
       by_cases dn : ti < 0
       ·by_cases e8 : k8 = 0
        ·subst e8
         go_wp2_with fail
         refine wp_region_draw_tail 28 (by kernel_rfl) (by kernel_rfl) ?_
         simp only [List.take_succ_cons, List.take_zero, List.drop_succ_cons, List.drop_zero]
         repeat (first | go_big_quiet_step (fail) | quiet_step (fail))
         refine wpQuiet_nil ?_
         intro _ hw'
         obtain ⟨nq, hw''⟩ := hw'
         subst hw''
         go_wp2_with fail
         go_roundw
         case rel => exact ⟨i + 1, by omega, by go_num, (by intro z; cases z), Lib.hid (BD.out nq)⟩
         case measure => simp [intOf]; omega
        ·have e8b : (k8 == 0) = false := by simpa using e8
         have nz : nt = 0 := x8 e8
         subst nz
         go_wp2_with fail
         refine wp_region_draw_tail 28 (by kernel_rfl) (by kernel_rfl) ?_
         simp only [List.take_succ_cons, List.take_zero, List.drop_succ_cons, List.drop_zero]
         repeat (first | go_big_quiet_step (fail) | quiet_step (fail))
         refine wpQuiet_nil ?_
         intro _ hw'
         obtain ⟨nq, hw''⟩ := hw'
         subst hw''
         go_wp2_with fail
         go_roundw
         case rel => exact ⟨i + 1, by omega, by go_num, (by intro z; cases z), Lib.hid (BD.out nq)⟩
         case measure => simp [intOf]; omega
       ·have dm : 1099511627776 < ti := by omega
        by_cases e8 : k8 = 0
        ·subst e8
         go_wp2_with fail
         refine wp_region_draw_tail 28 (by kernel_rfl) (by kernel_rfl) ?_
         simp only [List.take_succ_cons, List.take_zero, List.drop_succ_cons, List.drop_zero]
         repeat (first | go_big_quiet_step (fail) | quiet_step (fail))
         refine wpQuiet_nil ?_
         intro _ hw'
         obtain ⟨nq, hw''⟩ := hw'
         subst hw''
         go_wp2_with fail
         go_roundw
         case rel => exact ⟨i + 1, by omega, by go_num, (by intro z; cases z), Lib.hid (BD.out nq)⟩
         case measure => simp [intOf]; omega
        ·have e8b : (k8 == 0) = false := by simpa using e8
         have nz : nt = 0 := x8 e8
         subst nz
         go_wp2_with fail
         refine wp_region_draw_tail 28 (by kernel_rfl) (by kernel_rfl) ?_
         simp only [List.take_succ_cons, List.take_zero, List.drop_succ_cons, List.drop_zero]
         repeat (first | go_big_quiet_step (fail) | quiet_step (fail))
         refine wpQuiet_nil ?_
         intro _ hw'
         obtain ⟨nq, hw''⟩ := hw'
         subst hw''
         go_wp2_with fail
         go_roundw
         case rel => exact ⟨i + 1, by omega, by go_num, (by intro z; cases z), Lib.hid (BD.out nq)⟩
         case measure => simp [intOf]; omega
   ·have e : i = n := by omega
    subst e
    have q5 : ¬ (i : Int) < (i : Int) := by omega
    go_wp2_with fail
    go_ret
    exact ⟨rfl, HB3.out.trans (he.out.mono HB3.out.size)⟩
end
end Go.Proofs.YtmaofighbpnbiaaGreatDoor
