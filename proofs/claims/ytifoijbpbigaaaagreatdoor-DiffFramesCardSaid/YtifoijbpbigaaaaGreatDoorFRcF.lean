/- The document's Frame (walk). -/
import Derived.Test.YtifoijbpbigaaaaGreatDoorFRcE
import Derived.Test.YtifoijbpbigaaaaGreatDoorDaFF
import Derived.Test.YtifoijbpbigaaaaGreatDoorDaFG
set_option linter.unusedVariables false
set_option linter.unusedSimpArgs false
namespace Go.Proofs.YtifoijbpbigaaaaGreatDoor
section
open Go Go.RowKit Go.Sort
section
structure Rf3 (Q : World) (r : Nat) (A : Option Addr) (c : Nat) (R : Scr) (W : World) : Prop where
 rq : Q.heap.size <= r
 own : Own1 W r [.int .i64 R.w, .int .i64 R.h, .slice A R.cells.length c, .int .i64 R.x, .int .i64 R.y, .bool R.shown] 24
 row : TR0 W A R.cells
 below : Below Q.heap.size Q W
 gq : ∀ a, A = some a -> Q.heap.size <= a.block
theorem rf3B {Q w1 : World} {c : Nat} {A : Option Addr} {R : Scr} (hb : Below Q.heap.size Q w1) (hr : TR0 w1 A R.cells) (gq : ∀ a, A = some a -> Q.heap.size <= a.block) : Rf3 Q w1.heap.size A c R (w1.alloc (.cells #[.int .i64 R.w, .int .i64 R.h, .slice A R.cells.length c, .int .i64 R.x, .int .i64 R.y, .bool R.shown] 24)) :=
 ⟨hb.size, World.alloc_heap_new w1 _, hr.below ((Below.refl _ _).alloc Vf _), hb.alloc hb.size _, gq⟩
theorem rf3A {Q w1 : World} {c : Nat} {A : Option Addr} {R : Scr} (hb : Below (Q.alloc (.cells #[.int .i64 0, .int .i64 0, .slice none 0 0, .int .i64 0, .int .i64 0, .bool false] 24)).drew.heap.size (Q.alloc (.cells #[.int .i64 0, .int .i64 0, .slice none 0 0, .int .i64 0, .int .i64 0, .bool false] 24)).drew w1) (hr : TR0 w1 A R.cells) (gq : ∀ a, A = some a -> Q.heap.size <= a.block) :
  Rf3 Q Q.heap.size A c R ((((((w1.setCell ⟨Q.heap.size, 0, none⟩ (.int .i64 R.w)).setCell ⟨Q.heap.size, 1, none⟩ (.int .i64 R.h)).setCell ⟨Q.heap.size, 2, none⟩ (.slice A R.cells.length c)).setCell ⟨Q.heap.size, 3, none⟩ (.int .i64 R.x)).setCell ⟨Q.heap.size, 4, none⟩ (.int .i64 R.y)).setCell ⟨Q.heap.size, 5, none⟩ (.bool R.shown)) := by
 have o0 : Own1 w1 Q.heap.size zS 24 := (hb.block Q.heap.size (by simp)).trans (World.alloc_heap_new Q _)
 have ne : 24 ≠ 58 := by decide
 have o1 := o0.set 0 (.int .i64 R.w)
 have o2 := o1.set 1 (.int .i64 R.h)
 have o3 := o2.set 2 (.slice A R.cells.length c)
 have o4 := o3.set 3 (.int .i64 R.x)
 have o5 := o4.set 4 (.int .i64 R.y)
 have o6 := o5.set 5 (.bool R.shown)
 have B : Below Q.heap.size Q w1 := (((Below.refl _ Q).alloc Vf _).drew).trans (hb.mono (by simp))
 have st : ∀ {W : World} {vs : List Value} {i : Nat} {y : Value}, Own1 W Q.heap.size vs 24 -> TR0 W A R.cells -> TR0 (W.setCell ⟨Q.heap.size, i, none⟩ y) A R.cells := fun o h => h.stay (KeepT.set o ne)
 exact ⟨Vf, o6, st o5 (st o4 (st o3 (st o2 (st o1 (st o0 hr))))), (((((B.setCell (p := ⟨Q.heap.size, 0, none⟩) Vf _).setCell (p := ⟨Q.heap.size, 1, none⟩) Vf _).setCell (p := ⟨Q.heap.size, 2, none⟩) Vf _).setCell (p := ⟨Q.heap.size, 3, none⟩) Vf _).setCell (p := ⟨Q.heap.size, 4, none⟩) Vf _).setCell (p := ⟨Q.heap.size, 5, none⟩) Vf _, gq⟩
theorem KF (t : Tel) : qo t z8 = ⟨t.place, t.x, t.y, t.st, zB, t.out ++ z8⟩ := by
 unfold qo
 rw [if_neg (fun z => by have := congrArg ByteArray.size z; cases this)]
 rfl
theorem Ze (t : Tel) (s : ByteArray) (h : s.size ≠ 0) : qo t s = seqT t s := by
 unfold qo
 rw [if_neg (fun z => h (by rw [z]; rfl))]
theorem move_ne (x y : Int) : (zH x y).size ≠ 0 := fun z => by
 unfold zH at z
 simp only [ByteArray.size_append] at z
 have : (⟨#[27, 91]⟩ : ByteArray).size = 2 := rfl
 omega
theorem KG {t : Tel} {R : Scr} (sh : Bool) (hR : zi R = true) (o2 : t.text.size <= 400000000000) (o3 : zh t.st.fg /\ zh t.st.bg) (o4 : 0 <= t.x) (o5 : t.x <= 5000) :
  (zh (qD (zy t R) sh R.shown).st.fg /\ zh (qD (zy t R) sh R.shown).st.bg) /\ (0 <= (qD (zy t R) sh R.shown).x /\ (qD (zy t R) sh R.shown).x <= 5000) /\ (qD (zy t R) sh R.shown).text.size <= 400000000000 := by
 have c : (zh (zy t R).st.fg /\ zh (zy t R).st.bg) /\ (0 <= (zy t R).x /\ (zy t R).x <= 5000) /\ (zy t R).text.size <= 400000000000 := by
  unfold zy
  split
  ·rename_i h
   have rs : R.shown = true := by
    simp only [Bool.and_eq_true] at h
    exact h.1
   have cu := (z7 hR).2.2.2
   have ar := area hR
   unfold qN at cu
   rw [if_pos rs] at cu
   simp only [Bool.and_eq_true, decide_eq_true_eq] at cu
   refine ⟨o3, ⟨cu.1.1.1, ?_⟩, Nat.zero_le _⟩
   show R.x <= 5000
   omega
  ·exact ⟨o3, ⟨o4, o5⟩, o2⟩
 unfold qD
 split
 ·exact ⟨c.1, c.2.1, Nat.zero_le _⟩
 ·split
  ·exact ⟨c.1, c.2.1, Nat.zero_le _⟩
  ·exact c
def RfRet (b : Nat) (x : Wri) (s : Scr) (w : World) (e : Ending) (w' : World) : Prop :=
 ∃ LA Lc, e = .returned (.tuple #[.string (zJ x (redS s x.depth)).out, .int .i64 0]) /\ RfAt w' b (jA x s) LA Lc /\ w.grownBy w' (some b) /\ ∀ a, LA = some a -> w.heap.size <= a.block
set_option maxHeartbeats 64000000 in
set_option maxRecDepth 100000 in
theorem KH (b : Nat) (x : Wri) (LA : Option Addr) (Lc : Nat) (s : Scr) (A : Option Addr) (c : Nat) (w : World) (hx : RfAt w b x LA Lc) (hs : ScrAt w w.heap.size s A c) (ok : ∀ y ∈ s.cells, okR y) (hr : zi s = true) (ht : totS s.cells <= 1000000000) :
  Calls Tryz.prog 34 #[.pointer (some ⟨b, 0, none⟩), scrV s A c] w (RfRet b x s w) := by
 obtain ⟨Q, hQ⟩ : ∃ Q, Q = w.alloc (.cells #[.int .i64 s.w, .int .i64 s.h, .slice A s.cells.length c, .int .i64 s.x, .int .i64 s.y, .bool s.shown] 24) := ⟨_, rfl⟩
 have BQ : Below w.heap.size w Q := by rw [hQ]; exact (Below.refl _ w).alloc Vf _
 have KS : Own1 Q w.heap.size [.int .i64 s.w, .int .i64 s.h, .slice A s.cells.length c, .int .i64 s.x, .int .i64 s.y, .bool s.shown] 24 := by rw [hQ]; exact World.alloc_heap_new w _
 have bl := hx.own.lt
 obtain ⟨R, hR⟩ : ∃ R, R = redS s x.depth := ⟨_, rfl⟩
 have RL : R.cells.length = s.cells.length := by rw [hR]; simp [redS, redL]
 have NB := (area hr).2.2.2.2.2
 have RR : Hid (zi R = true /\ totS R.cells <= 1000000000 /\ ∀ y ∈ R.cells, okR y) := Vd (by rw [hR]; exact ⟨ki x.depth hr, by show totS (redL s.cells x.depth) <= _; rw [vL]; exact ht, red_ok ok x.depth⟩)
 have RI := Vd (QH s A c hs.cap hs.nil (by omega) ok Q ((hs.below BQ).more BQ.size).sees)
 have RD : Hid (∀ Q1, Below Q.heap.size Q Q1 -> ∀ W, Below Q1.heap.size Q1 W -> Calls Tryz.prog 22 #[scrV s A c, .int .i64 x.depth] W fun e w' => ∃ A' c', e = .returned (.agg #[.int .i64 R.w, .int .i64 R.h, .slice A' R.cells.length c', .int .i64 R.x, .int .i64 R.y, .bool R.shown]) /\ Below W.heap.size W w' /\ Hid (Below Q1.heap.size Q1 w' /\ TR0 w' A' R.cells /\ ∀ a, A' = some a -> Q1.heap.size <= a.block)) :=
  Vd (fun Q1 h1 W hW => (X6 s x.depth A c (by omega) ok W ((hs.below (BQ.trans (h1.trans (hW.mono h1.size) |>.mono BQ.size))).more (Nat.le_trans BQ.size (Nat.le_trans h1.size hW.size))).sees).mono fun e w' ⟨A', c', h1, h2, h3⟩ => ⟨A', c', by rw [h1, <- hR]; simp only [scrV], h3, Vd ⟨hW.trans (h3.mono hW.size), by rw [hR]; exact TR0.of_own h2, fun a e => by subst e; exact Nat.le_trans hW.size (h2.lt a.block rfl).1⟩⟩)
 rw [hr] at RI
 have FW : Hid (∀ e w', RfRet b x s w e w' ↔ ∃ LA Lc, e = .returned (.tuple #[.string (zJ x R).out, .int .i64 0]) /\ RfAt w' b ⟨x.depth, true, R, zJ x R, s.shown⟩ LA Lc /\ w.grownBy w' (some b) /\ ∀ a, LA = some a -> w.heap.size <= a.block) := Vd (by rw [hR]; intro e w'; exact Iff.rfl)
 have SH : Hid (s.shown = R.shown) := Vd (by rw [hR]; rfl)
 have HX := Vd (hx.own.below BQ)
 have HL := Vd hx.last
 have HC := Vd (And.intro hx.col (And.intro hx.tx hx.tt))
 have HB := Vd BQ
 have HKS := Vd KS
 have s0 := (KS).blk.c 0 _ rfl
 have s1 := (KS).blk.c 1 _ rfl
 have s2 := (KS).blk.c 2 _ rfl
 have s3 := (KS).blk.c 3 _ rfl
 have s4 := (KS).blk.c 4 _ rfl
 have s5 := (KS).blk.c 5 _ rfl
 have QS : w.heap.size + 1 = Q.heap.size := by rw [hQ]; simp
 have hbq : b < Q.heap.size := by omega
 have HBQ := Vd hbq
 have HBW := Vd bl
 simp only [scrV] at RD RI ⊢
 generalize s.cells.length = N at *
 clear KS hx hs hr ht RL hR BQ QS ok bl hbq
 go_enter Tryz.func34, Tryz.ntmps34
 go_upto_region 3 with fail
 rw [<- hQ]
 clear hQ
 go_wp2_with fail
 refine RI.out.mono ?_; rintro e Q1 ⟨rfl, hb1⟩
 have HB1 := Vd hb1
 have RD := Vd (RD.out Q1 hb1)
 have HX := Vd (HX.out.below hb1)
 have HKS := Vd (HKS.out.below hb1)
 clear s0 s1 s2 s3 s4 s5 RI hb1
 have s0 := (HKS.out).blk.c 0 _ rfl
 have s1 := (HKS.out).blk.c 1 _ rfl
 have s2 := (HKS.out).blk.c 2 _ rfl
 have s3 := (HKS.out).blk.c 3 _ rfl
 have s4 := (HKS.out).blk.c 4 _ rfl
 have s5 := (HKS.out).blk.c 5 _ rfl
 have b0 := HX.out.blk.c 0 _ rfl
 have hbq1 : b < Q1.heap.size := by have := HBQ.out; have := HB1.out.size; omega
 have hq01 : w.heap.size < Q1.heap.size := HKS.out.lt
 go_upto_region 5 with fail
 go_cut [6] from 18 to 23 (fun s6 wx => ∃ r A' c', s6 = .pointer (some ⟨r, 0, none⟩) /\ Hid (Rf3 Q1 r A' c' R wx))
 case first =>
  --Q(
  go_region_with ((go_at_call 22; refine (RD.out _ (by first | exact (Below.refl _ Q1).drew | exact ((Below.refl _ Q1).alloc Vf _).drew)).mono ?_; rintro e w1 ⟨A', c', rfl, hb1, hw1⟩; obtain ⟨hc, hf, hz⟩ := qQ hb1))
  all_goals
   have HB2 := Vd hb1
   clear hc hf hb1 hz
   go_wp2_with fail
   go_meet
   first
   | (with_reducible exact ⟨_, A', c', rfl, Vd (rf3B hw1.out.1 hw1.out.2.1 hw1.out.2.2)⟩)
   | (exact ⟨_, A', c', rfl, Vd (rf3A HB2.out hw1.out.2.1 hw1.out.2.2)⟩)
  --)Q
 case rest =>
  obtain ⟨r, A1, c1, rfl, h3⟩ := hcut
  clear hbq1 hq01
  have H0 : RSt (rfx x LA Lc) b r R A1 c1 x.last.cells x.told w (x.tel) (x.shown) wc := by
   have q1 := h3.out.rq
   have q2 := HB1.out.size
   have q3 := HBQ.out
   have bw := HB.out.trans ((HB1.out.trans (h3.out.below.mono HB1.out.size)).mono HB.out.size)
   exact ⟨HX.out.below h3.out.below, h3.out.own, h3.out.row, fun z => (HL.out z).2.below bw, qU bw _, by omega⟩
  have HGQ := Vd (show ∀ a, A1 = some a -> w.heap.size <= a.block from fun a e => Nat.le_trans (Nat.le_trans HB.out.size HB1.out.size) (h3.out.gq a e))
  have b16 := H0.wr.blk.c 16 _ rfl
  have q16 := H0.wr.blk.f 16 _ rfl
  have H0 := Vd H0
  clear h3 RD s0 s1 s2 s3 s4 s5 b0 HX HKS HB1 HBQ HB
  go_upto_region 7 with fail
  obtain ⟨V, hV⟩ : ∃ V, V = wc.setCell ⟨b, 16, none⟩ (.string ⟨#[]⟩) := ⟨_, rfl⟩
  rw [<- hV]
  have H1 := Vd (show RSt (rfx x LA Lc) b r R A1 c1 x.last.cells x.told w (⟨x.tel.place, x.tel.x, x.tel.y, x.tel.st, x.tel.text, zB⟩) (x.shown) V by rw [hV]; exact H0.out.step _ _ 16 (.string zB) rfl)
  obtain ⟨G, hG⟩ : ∃ G, G = newB x R := ⟨_, rfl⟩
  have HG := Vd hG
  have GE : Hid (∀ a b c : Bool, x.told = a -> (x.last.w != R.w) = b -> (x.last.h != R.h) = c -> G = (!a || b || c)) := Vd (by
   intro a b c ha hb hc
   rw [hG, <- ha, <- hb, <- hc]
   unfold newB
   simp only [vQ])
  clear hG hV H0 b16 q16
  have g1 : ∀ d os, (grow (redrawn V d) os).cell? ⟨b, 1, none⟩ = some (.bool x.told) := fun d os => (H1.out.wr.blk.regrown d os).c 1 _ rfl
  have g2 : ∀ d os, (grow (redrawn V d) os).cell? ⟨b, 2, none⟩ = some (.int .i64 x.last.w) := fun d os => (H1.out.wr.blk.regrown d os).c 2 _ rfl
  have g3 : ∀ d os, (grow (redrawn V d) os).cell? ⟨b, 3, none⟩ = some (.int .i64 x.last.h) := fun d os => (H1.out.wr.blk.regrown d os).c 3 _ rfl
  have r0 := fun d os => (H1.out.sc.blk.regrown d os).c 0 _ rfl
  have r1 := fun d os => (H1.out.sc.blk.regrown d os).c 1 _ rfl
  go_cut [7] from 27 to 51 (fun s7 wx => s7 = .bool G /\ Hid (Below V.heap.size V wx))
  case first =>
   cases ep : x.told with
   | false =>
    have RG : Hid (G = true) := Vd (GE.out false _ _ ep rfl rfl)
    rw [ep] at g1
    refine zn 25 [] [] (by kernel_rfl) (by kernel_rfl) (by kernel_rfl) (by intro t ht; cases ht) ?_
    simp only [Vg, Vh, Vi, Vj]
    repeat (refine ze (by rfl) (fun K hK => ?_); go_simp; first | (refine hK _ ?_; clear hK K) | (apply Exists.intro; refine ⟨fun _ => ?_, hK _ ?_⟩; (fail); clear hK K))
    refine zm ?_
    intro W8 vs8 hl hv
    have hb8 := Vd (zk.1 hl)
    clear hl hv
    simp only [zd]
    go_wp2_with fail
    go_meet
    exact ⟨by rw [RG.out], hb8⟩
   | true =>
    rw [ep] at g1
    by_cases ew : x.last.w = R.w
    ·have fx : (x.last.w != R.w) = false := by rw [ew]; simp
     by_cases eh : x.last.h = R.h
     ·have fy : (x.last.h != R.h) = false := by rw [eh]; simp
      have RG : Hid (G = false) := Vd (GE.out true false false ep fx fy)
      clear ew eh
      refine zn 25 [] [] (by kernel_rfl) (by kernel_rfl) (by kernel_rfl) (by intro t ht; cases ht) ?_
      simp only [Vg, Vh, Vi, Vj]
      repeat (refine ze (by rfl) (fun K hK => ?_); go_simp; first | (refine hK _ ?_; clear hK K) | (apply Exists.intro; refine ⟨fun _ => ?_, hK _ ?_⟩; (fail); clear hK K))
      refine zm ?_
      intro W8 vs8 hl hv
      have hb8 := Vd (zk.1 hl)
      clear hl hv
      simp only [zd]
      go_wp2_with fail
      go_meet
      exact ⟨by rw [RG.out], hb8⟩
     ·have fy : (x.last.h != R.h) = true := by rw [bne_iff_ne]; exact eh
      have RG : Hid (G = true) := Vd (GE.out true false true ep fx fy)
      clear ew eh
      refine zn 25 [] [] (by kernel_rfl) (by kernel_rfl) (by kernel_rfl) (by intro t ht; cases ht) ?_
      simp only [Vg, Vh, Vi, Vj]
      repeat (refine ze (by rfl) (fun K hK => ?_); go_simp; first | (refine hK _ ?_; clear hK K) | (apply Exists.intro; refine ⟨fun _ => ?_, hK _ ?_⟩; (fail); clear hK K))
      refine zm ?_
      intro W8 vs8 hl hv
      have hb8 := Vd (zk.1 hl)
      clear hl hv
      simp only [zd]
      go_wp2_with fail
      go_meet
      exact ⟨by rw [RG.out], hb8⟩
    ·have fx : (x.last.w != R.w) = true := by rw [bne_iff_ne]; exact ew
     have RG : Hid (G = true) := Vd (by rw [GE.out true true _ ep fx rfl]; rfl)
     clear ew
     refine zn 25 [] [] (by kernel_rfl) (by kernel_rfl) (by kernel_rfl) (by intro t ht; cases ht) ?_
     simp only [Vg, Vh, Vi, Vj]
     repeat (refine ze (by rfl) (fun K hK => ?_); go_simp; first | (refine hK _ ?_; clear hK K) | (apply Exists.intro; refine ⟨fun _ => ?_, hK _ ?_⟩; (fail); clear hK K))
     refine zm ?_
     intro W8 vs8 hl hv
     have hb8 := Vd (zk.1 hl)
     clear hl hv
     simp only [zd]
     go_wp2_with fail
     go_meet
     exact ⟨by rw [RG.out], hb8⟩
  case rest =>
   obtain ⟨rfl, hbc⟩ := hcut
   obtain ⟨wa, hwa⟩ : ∃ wa, wa = wc := ⟨_, rfl⟩
   rw [<- hwa] at hbc ⊢
   have H2 := Vd (H1.out.below hbc.out)
   clear hbc hwa H1 g1 g2 g3 r0 r1 GE
   go_upto_if 52 with fail
   go_cut [] from 52 to 70 (fun wx => Hid (RSt (rfx x LA Lc) b r R A1 c1 x.last.cells x.told w (zM x G) (x.shown && !G) wx))
   case first =>
    cases G with
    | true =>
     go_wp2_with fail
     refine (H2.out.tell z8 (by show (0 : Nat) + 22 <= _; omega)).mono ?_; rintro e w9 ⟨⟨v, rfl⟩, h9⟩
     rw [KF] at h9
     have e0 : (zB : ByteArray) ++ z8 = z8 := zB_app _
     simp only [e0] at h9
     have b11 := (h9).wr.blk.c 11 _ rfl
     have qb11 := (h9).wr.blk.f 11 _ rfl
     have b12 := (h9).wr.blk.c 12 _ rfl
     have qb12 := (h9).wr.blk.f 12 _ rfl
     have b13 := (h9).wr.blk.c 13 _ rfl
     have qb13 := (h9).wr.blk.f 13 _ rfl
     have b8 := (h9).wr.blk.c 8 _ rfl
     have qb8 := (h9).wr.blk.f 8 _ rfl
     have b9 := (h9).wr.blk.c 9 _ rfl
     have qb9 := (h9).wr.blk.f 9 _ rfl
     have b10 := (h9).wr.blk.c 10 _ rfl
     have qb10 := (h9).wr.blk.f 10 _ rfl
     have b14 := (h9).wr.blk.c 14 _ rfl
     have qb14 := (h9).wr.blk.f 14 _ rfl
     have h9 := Vd h9
     have es : zM x true = ⟨true, 0, 0, qd, zB, z8⟩ := rfl
     have ef : (x.shown && !true) = false := by simp
     clear e0
     go_wp2_with fail
     go_meet
     rw [es, ef]
     exact Vd (((((((h9.out.step ⟨x.tel.place, x.tel.x, x.tel.y, ⟨0, x.tel.st.bg, x.tel.st.at_⟩, zB, z8⟩ x.shown 11 (.int .i32 0) rfl).step ⟨x.tel.place, x.tel.x, x.tel.y, ⟨0, 0, x.tel.st.at_⟩, zB, z8⟩ x.shown 12 (.int .i32 0) rfl).step ⟨x.tel.place, x.tel.x, x.tel.y, qd, zB, z8⟩ x.shown 13 (.int .u8 0) rfl).step ⟨true, x.tel.x, x.tel.y, qd, zB, z8⟩ x.shown 8 (.bool true) rfl).step ⟨true, 0, x.tel.y, qd, zB, z8⟩ x.shown 9 (.int .i64 0) rfl).step ⟨true, 0, 0, qd, zB, z8⟩ x.shown 10 (.int .i64 0) rfl).step ⟨true, 0, 0, qd, zB, z8⟩ false 14 (.bool false) rfl)
    | false =>
     have es : zM x false = ⟨x.tel.place, x.tel.x, x.tel.y, x.tel.st, x.tel.text, zB⟩ := rfl
     have ef : (x.shown && !false) = x.shown := by simp
     go_wp2_with fail
     go_meet
     rw [es, ef]
     exact H2
   case rest =>
    obtain ⟨wb, hwb⟩ : ∃ wb, wb = wc := ⟨_, rfl⟩
    rw [<- hwb] at hcut ⊢
    have H8 := hcut
    clear hcut hwb H2
    obtain ⟨sh, hsh⟩ : ∃ sh, sh = (x.shown && !G) := ⟨_, rfl⟩
    rw [<- hsh] at H8
    obtain ⟨m, hm⟩ : ∃ m, m = R.w.toNat := ⟨_, rfl⟩
    obtain ⟨H, hH⟩ : ∃ H, H = R.h.toNat := ⟨_, rfl⟩
    obtain ⟨K1, hK1⟩ : ∃ K1, K1 = qS x G R := ⟨_, rfl⟩
    obtain ⟨MID, hMID⟩ : ∃ MID, MID = zV R.w R.cells (zM x G) (zg 0 K1 R.cells) := ⟨_, rfl⟩
    have AR := area RR.out.1
    have KL : K1.length = R.cells.length := by rw [hK1, HG.out]; exact vP RR.out.1 (fun z => (HL.out z).1)
    have FT : Hid (zJ x R = qD (zy MID R) sh R.shown) := Vd (by
     unfold zJ
     rw [hMID, hK1, hsh, HG.out])
    have L0 : LpS R K1 MID 0 0 (zM x G) := by
     rw [hMID]
     obtain ⟨a1, a2, a3, a4⟩ := QY x G HC.out.2.2 HC.out.2.1.1 HC.out.2.1.2
     refine LpS.start RR.out.1 ⟨?_, a2, ?_, a3, a4⟩
     ·rw [List.drop_zero]
      have := RR.out.2.1
      omega
     ·cases G with
      | true => exact ⟨by show zh 0; decide, by show zh 0; decide⟩
      | false => exact HC.out.1
    have L0 := Vd L0
    have KLH := Vd KL
    have HK1 := Vd hK1
    have ARH := Vd AR
    have HM := Vd hm
    have HHH := Vd hH
    have SHH := Vd hsh
    have Z0 : Hid (∀ y xx t, LpS R K1 MID y xx t -> y < H -> xx < m -> ∃ (n : Nat) (hi : y * m + xx < R.cells.length), (n = 1 \/ n = 2) /\ (R.cells[y * m + xx]).wide = (n : Int) /\ xx + n <= m /\ (n = 2 -> y * m + xx + 1 < R.cells.length) /\
   LpS R K1 MID y (xx + n) (if dueB K1 R.cells (y * m + xx) n = true then zN R.w t (y * m + xx) n R.cells[y * m + xx] else t)) := Vd (by
     rw [hm, hH]
     exact fun y xx t h hy hx => h.one RR.out.1 KL RR.out.2.2 RR.out.2.1 hy hx)
    have ZN : Hid (∀ y t, LpS R K1 MID y m t -> LpS R K1 MID (y + 1) 0 t) := Vd (by rw [hm]; exact fun y t h => h.next RR.out.1)
    have ZD : Hid (∀ t, LpS R K1 MID H 0 t -> t = MID /\ t.out.size <= 3000000000 /\ t.text.size <= 400000000000 /\ (zh t.st.fg /\ zh t.st.bg) /\ 0 <= t.x /\ t.x <= 5000) := Vd (by rw [hH]; exact fun t h => h.done RR.out.1)
    have hmI : (m : Int) = R.w := by rw [hm]; have := AR.2.1; omega
    have hHI : (H : Int) = R.h := by rw [hH]; have := AR.2.2.2.1; omega
    have m4 : m <= 4096 := by have := AR.2.2.1; omega
    have h4 : H <= 4096 := by have := AR.2.2.2.2.1; omega
    have n4 : R.cells.length <= 1048576 := AR.2.2.2.2.2
    clear hK1 hMID hm hH hsh AR KL
    generalize zM x G = T0 at *
    go_wp2_with fail
    go_loopw [8] (fun s8 wr => ∃ (y : Nat) (t : Tel), y <= H /\ s8 = .int .i64 (y : Int) /\ Hid (LpS R K1 MID y 0 t) /\ Hid (RSt (rfx x LA Lc) b r R A1 c1 x.last.cells x.told w (t) sh wr)) (fun s8 _ => H - (intOf s8).toNat)
    case atStart => exact ⟨0, T0, Nat.zero_le _, rfl, L0, H8⟩
    case round =>
     obtain ⟨y, t, hy, rfl, hl, hst⟩ := hrel
     clear L0 H8
     have r1 := hst.out.sc.blk.c 1 _ rfl
     by_cases lt : y < H
     ·have p1 : (y : Int) < R.h := by omega
      have HY := Vd lt
      go_wp2_with fail
      clear r1 p1
      go_loopw [9] (fun s9 wr => ∃ (xx : Nat) (t : Tel), xx <= m /\ s9 = .int .i64 (xx : Int) /\ Hid (LpS R K1 MID y xx t) /\ Hid (RSt (rfx x LA Lc) b r R A1 c1 x.last.cells x.told w (t) sh wr)) (fun s9 _ => m - (intOf s9).toNat)
      case atStart => exact ⟨0, t, Nat.zero_le _, rfl, hl, hst⟩
      case round =>
       clear hl hst
       obtain ⟨xx, t, hxx, rfl, hl, hst⟩ := hrel
       have r0 := hst.out.sc.blk.c 0 _ rfl
       by_cases lx : xx < m
       ·obtain ⟨n, hi, hn, hw, hxm, h2, hnx⟩ := Z0.out y xx t hl.out HY.out lx
        have HL2 := Vd hl.out
        have le1 : y * m <= 4096 * 4096 := Nat.mul_le_mul (by omega) (by omega)
        obtain ⟨i, hI⟩ : ∃ i, i = y * m + xx := ⟨_, rfl⟩
        simp only [<- hI] at hi hw h2 hnx
        have HI := Vd hI
        have hxy : (y : Int) * R.w + (xx : Int) = (i : Int) := by rw [hI, <- hmI, Int.natCast_add, Int.natCast_mul]
        have cn := ja hst.out.row.sees i hi
        have okc := RR.out.2.2 _ (List.getElem_mem hi)
        obtain ⟨cc, hcc⟩ : ∃ cc, cc = R.cells[i] := ⟨_, rfl⟩
        simp only [<- hcc] at hw hnx cn okc
        have HCC := Vd hcc
        obtain ⟨ad, rfl, ab, z0, z1o, z2, z3, z4⟩ := cn
        have ZZ := Vd (And.intro z0 (And.intro z1o (And.intro z2 (And.intro z3 z4))))
        have HNX := Vd hnx
        have HOK := Vd okc
        have HW := Vd hw
        have H22 := Vd h2
        have HAB := Vd ab
        have z1 : wr.cell? ⟨(ad.add (i * 5)).block, (ad.add (i * 5)).off + 1, none⟩ = some (.int .i8 (n : Int)) := by rw [<- hw]; exact z1o
        have r2 := hst.out.sc.blk.c 2 _ rfl
        have p1 : (xx : Int) < R.w := by omega
        have q0 : (0 : Int) <= (i : Int) := by omega
        have q1 : (i : Int) < (R.cells.length : Int) := by omega
        have tn : (i : Int).toNat = i := by omega
        have wm : IntKind.i64.wrap ((y : Int) * R.w) = (y : Int) * R.w := Ve _ (by rw [<- hmI]; omega)
        have wi : IntKind.i64.wrap (i : Int) = (i : Int) := Ve _ (by omega)
        have wn : IntKind.i64.wrap (n : Int) = (n : Int) := Ve _ (by omega)
        clear hI hcc hnx okc hw h2 ab z0 z1o z2 z3 z4 hl le1
        go_upto_region 22 with fail
        obtain ⟨z0, zw, z2, z3, z4⟩ := ZZ.out
        clear z1 r0 wm wi wn p1
        go_cut [12] from 94 to 100 (fun s12 wx => s12 = .bool (decide (cc ≠ qB)) /\ wx = wr)
        case first =>
         clear HNX HOK HW H22 ZZ HCC
         obtain ⟨tx, wx, ⟨fx, gx, ax⟩⟩ := cc
         dsimp only at z0 zw z2 z3 z4
         by_cases e1 : (⟨tx, wx, ⟨fx, gx, ax⟩⟩ : Cel) = qB
         ·have RD : Hid (decide ((⟨tx, wx, ⟨fx, gx, ax⟩⟩ : Cel) ≠ qB) = false) := Vd (decide_eq_false (fun q => q e1))
          have e1 : (⟨tx, wx, ⟨fx, gx, ax⟩⟩ : Cel) = ⟨⟨#[32]⟩, 1, ⟨0, 0, 0⟩⟩ := e1
          injection e1 with a1 a2 a3; injection a3 with a3 a4 a5
          subst a1 a2 a3 a4 a5
          have bz : bI 0 = 0 := rfl
          rw [bz] at z4
          go_wp2_with fail
          go_meet
          exact ⟨by rw [RD.out], rfl⟩
         ·have RD : Hid (decide ((⟨tx, wx, ⟨fx, gx, ax⟩⟩ : Cel) ≠ qB) = true) := Vd (decide_eq_true e1)
          have e1 : ¬ (⟨tx, wx, ⟨fx, gx, ax⟩⟩ : Cel) = ⟨⟨#[32]⟩, 1, ⟨0, 0, 0⟩⟩ := e1
          have CN0 := jS True False e1
          have l32 : (⟨#[32]⟩ : ByteArray).toList = [32] := by rw [ByteArray.toList_eq]
          have bz : bI 0 = 0 := rfl
          rw [l32, bz] at CN0
          have CN := Vd CN0
          clear e1 CN0 l32 bz
          by_cases c1 : tx.toList = [32]
          ·by_cases c2 : wx = 1
           ·by_cases c3 : fx = 0
            ·by_cases c4 : gx = 0
             ·have c5 : ¬ bI ax = 0 := fun c5 => by
               have q := CN.out
               rw [if_pos c1, if_pos c2, if_pos c3, if_pos c4, if_pos c5] at q
               exact q.mp trivial
              have c6 : ¬ ax = 0#8 := fun z => c5 (by rw [z]; rfl)
              have c7 : ¬ ax.toNat = 0 := fun z => c5 (by show (ax.toNat : Int) = 0; omega)
              go_wp2_with fail
              go_meet
              exact ⟨by rw [RD.out], rfl⟩
             ·skip
              go_wp2_with fail
              go_meet
              exact ⟨by rw [RD.out], rfl⟩
            ·skip
             go_wp2_with fail
             go_meet
             exact ⟨by rw [RD.out], rfl⟩
           ·skip
            go_wp2_with fail
            go_meet
            exact ⟨by rw [RD.out], rfl⟩
          ·skip
           go_wp2_with fail
           go_meet
           exact ⟨by rw [RD.out], rfl⟩
        case rest =>
         obtain ⟨rfl, hwc⟩ := hcut
         rw [hwc]
         clear hwc z0 zw z2 z3 z4
         obtain ⟨D, hD⟩ : ∃ D, D = dueB K1 R.cells i n := ⟨_, rfl⟩
         have HD := Vd hD
         rw [<- hD] at HNX
         clear hD
         go_upto_if 102 with fail
         go_cut [12] from 103 to 138 (fun s12 wx => s12 = .bool D /\ Hid (Below wr.heap.size wr wx))
         case first =>
          cases G with
          | true =>
           have RD : Hid (D = decide (cc ≠ qB)) := Vd (by
            have e := due_new hi hn (by rw [<- HCC.out]; exact HW.out)
            rw [<- HCC.out] at e
            rw [HD.out, HK1.out, <- e]
            rfl)
           go_wp2_with fail
           go_meet
           exact ⟨by rw [RD.out], Vd (Below.refl _ _)⟩
          | false =>
           have told : x.told = true := by
            have e := HG.out
            unfold newB at e
            cases q : x.told with
            | true => rfl
            | false => rw [q] at e; cases e
           have KE : K1 = x.last.cells := by rw [HK1.out]; rfl
           have LE : x.last.cells.length = R.cells.length := by rw [<- KE]; exact KLH.out
           have i2 : i < x.last.cells.length := by omega
           have DO := Zd (K := x.last.cells) (L := R.cells) LE hi H22.out
           rw [KE] at HD
           have ko := hst.out.kr told
           have KO : TR0 wr LA x.last.cells := ko
           obtain ⟨ae, hae, abe, _⟩ := ja KO.sees i i2
           subst hae
           have BR := Vd (fun d os => below_regrown wr d os)
           have SA := Vd KO.sees
           have SB := Vd hst.out.row.sees
           have CA := Vd (fun (W : World) (hB : Below wr.heap.size wr W) => jE (SA.out.below hB Vf) i i2)
           have CB := Vd (fun (W : World) (hB : Below wr.heap.size wr W) => jE (SB.out.below hB Vf) i hi)
           have b4 : ∀ d os, (grow (redrawn wr d) os).cell? ⟨b, 4, none⟩ = some (.slice (some ae) R.cells.length Lc) := fun d os => by rw [<- LE]; exact (hst.out.wr.blk.regrown d os).c 4 _ rfl
           have r2 := fun d os => (hst.out.sc.blk.regrown d os).c 2 _ rfl
           have HLE := Vd LE
           have abb := HAB.out
           clear told KE ko KO DO LE hxy
           go_upto_region 24 with fail
           rcases hn with rfl | rfl
           ·have DD := Vd ((Zd (K := x.last.cells) (L := R.cells) HLE.out hi H22.out).2 rfl)
            rw [<- HD.out] at DD
            generalize x.last.cells[i] = xc at *
            simp only [<- HCC.out] at DD CB
            clear HNX HOK HW ZZ HCC HD
            obtain ⟨tx, wx, ⟨fx, gx, ax⟩⟩ := xc
            obtain ⟨ty, wy, ⟨fy, gy, ay⟩⟩ := cc
            dsimp only at CA CB
            have k0 := fun d os => (CA.out _ (BR.out d os)).1
            have k1 := fun d os => (CA.out _ (BR.out d os)).2.1
            have k2 := fun d os => (CA.out _ (BR.out d os)).2.2.1
            have k3 := fun d os => (CA.out _ (BR.out d os)).2.2.2.1
            have k4 := fun d os => (CA.out _ (BR.out d os)).2.2.2.2
            have l0 := fun d os => (CB.out _ (BR.out d os)).1
            have l1 := fun d os => (CB.out _ (BR.out d os)).2.1
            have l2 := fun d os => (CB.out _ (BR.out d os)).2.2.1
            have l3 := fun d os => (CB.out _ (BR.out d os)).2.2.2.1
            have l4 := fun d os => (CB.out _ (BR.out d os)).2.2.2.2
            by_cases e1 : (⟨ty, wy, ⟨fy, gy, ay⟩⟩ : Cel) = ⟨tx, wx, ⟨fx, gx, ax⟩⟩
            ·have RD := Vd (show D = false by rw [DD.out, decide_eq_true e1]; rfl)
             injection e1 with a1 a2 a3; injection a3 with a3 a4 a5
             subst a1 a2 a3 a4 a5
             clear DD CA CB
             refine zn 36 [] [] (by kernel_rfl) (by kernel_rfl) (by kernel_rfl) (by intro t ht; cases ht) ?_
             simp only [Vg, Vh, Vi, Vj]
             repeat (refine ze (by rfl) (fun K hK => ?_); go_simp; first | (refine hK _ ?_; clear hK K) | (apply Exists.intro; refine ⟨fun _ => ?_, hK _ ?_⟩; (fail); clear hK K))
             refine zm ?_
             intro W5 vs5 hl5 hv5
             have B5 := Vd (zk.1 hl5)
             clear hl5 hv5
             simp only [zd]
             go_wp2_with fail
             go_meet
             exact ⟨by rw [RD.out], B5⟩
            ·have RD := Vd (show D = true by rw [DD.out, decide_eq_false e1]; rfl)
             clear DD CA CB
             refine zn 36 [] [] (by kernel_rfl) (by kernel_rfl) (by kernel_rfl) (by intro t ht; cases ht) ?_
             simp only [Vg, Vh, Vi, Vj]
             repeat (refine ze (by rfl) (fun K hK => ?_); go_simp; first | (refine hK _ ?_; clear hK K) | (apply Exists.intro; refine ⟨fun _ => ?_, hK _ ?_⟩; (fail); clear hK K))
             refine ze (by rfl) (fun K hK => ?_)
             go_simp
             refine ⟨.bool true, fun p => ?_, hK _ ?_⟩
             ·rw [jS _ _ e1]; exact ⟨rfl, rfl⟩
             clear hK K
             repeat (refine ze (by rfl) (fun K hK => ?_); go_simp; first | (refine hK _ ?_; clear hK K) | (apply Exists.intro; refine ⟨fun _ => ?_, hK _ ?_⟩; (fail); clear hK K))
             refine zm ?_
             intro W5 vs5 hl5 hv5
             have B5 := Vd (zk.1 hl5)
             clear hl5 hv5
             simp only [zd]
             go_wp2_with fail
             go_meet
             exact ⟨by rw [RD.out], B5⟩
           ·obtain ⟨h1', h2', dd⟩ := (Zd (K := x.last.cells) (L := R.cells) HLE.out hi H22.out).1 rfl
            rw [<- HD.out] at dd
            have DD := Vd dd
            have CA2 := Vd (fun (W : World) (hB : Below wr.heap.size wr W) => jE (SA.out.below hB Vf) (i + 1) h1')
            have CB2 := Vd (fun (W : World) (hB : Below wr.heap.size wr W) => jE (SB.out.below hB Vf) (i + 1) h2')
            have p5 : (i : Int) + 1 < (R.cells.length : Int) := by omega
            have p6 : (0 : Int) <= (i : Int) + 1 := by omega
            have p7 : ((i : Int) + 1).toNat = i + 1 := by omega
            have p8 := Ve ((i : Int) + 1) (by omega)
            clear dd
            generalize x.last.cells[i] = xc at *
            generalize x.last.cells[i + 1] = xc' at *
            generalize R.cells[i + 1] = yc' at *
            simp only [<- HCC.out] at DD CB
            clear HNX HOK HW ZZ HCC HD
            obtain ⟨tx, wx, ⟨fx, gx, ax⟩⟩ := xc
            obtain ⟨ty, wy, ⟨fy, gy, ay⟩⟩ := cc
            obtain ⟨tu, wu, ⟨fu, gu, au⟩⟩ := xc'
            obtain ⟨tv, wv, ⟨fv, gv, av⟩⟩ := yc'
            dsimp only at CA CB CA2 CB2
            have k0 := fun d os => (CA.out _ (BR.out d os)).1
            have k1 := fun d os => (CA.out _ (BR.out d os)).2.1
            have k2 := fun d os => (CA.out _ (BR.out d os)).2.2.1
            have k3 := fun d os => (CA.out _ (BR.out d os)).2.2.2.1
            have k4 := fun d os => (CA.out _ (BR.out d os)).2.2.2.2
            have l0 := fun d os => (CB.out _ (BR.out d os)).1
            have l1 := fun d os => (CB.out _ (BR.out d os)).2.1
            have l2 := fun d os => (CB.out _ (BR.out d os)).2.2.1
            have l3 := fun d os => (CB.out _ (BR.out d os)).2.2.2.1
            have l4 := fun d os => (CB.out _ (BR.out d os)).2.2.2.2
            have r0 := fun d os => (CA2.out _ (BR.out d os)).1
            have r1 := fun d os => (CA2.out _ (BR.out d os)).2.1
            have rr2 := fun d os => (CA2.out _ (BR.out d os)).2.2.1
            have r3 := fun d os => (CA2.out _ (BR.out d os)).2.2.2.1
            have r4 := fun d os => (CA2.out _ (BR.out d os)).2.2.2.2
            have t0 := fun d os => (CB2.out _ (BR.out d os)).1
            have t1 := fun d os => (CB2.out _ (BR.out d os)).2.1
            have t2 := fun d os => (CB2.out _ (BR.out d os)).2.2.1
            have t3 := fun d os => (CB2.out _ (BR.out d os)).2.2.2.1
            have t4 := fun d os => (CB2.out _ (BR.out d os)).2.2.2.2
            by_cases e1 : (⟨ty, wy, ⟨fy, gy, ay⟩⟩ : Cel) = ⟨tx, wx, ⟨fx, gx, ax⟩⟩
            ·by_cases e2 : (⟨tv, wv, ⟨fv, gv, av⟩⟩ : Cel) = ⟨tu, wu, ⟨fu, gu, au⟩⟩
             ·have RD := Vd (show D = false by rw [DD.out, decide_eq_true ⟨e1, e2⟩]; rfl)
              injection e1 with a1 a2 a3; injection a3 with a3 a4 a5
              injection e2 with d1 d2 d3; injection d3 with d3 d4 d5
              subst a1 a2 a3 a4 a5 d1 d2 d3 d4 d5
              clear DD CA CB CA2 CB2
              refine zn 36 [] [] (by kernel_rfl) (by kernel_rfl) (by kernel_rfl) (by intro t ht; cases ht) ?_
              simp only [Vg, Vh, Vi, Vj]
              repeat (refine ze (by rfl) (fun K hK => ?_); go_simp; first | (refine hK _ ?_; clear hK K) | (apply Exists.intro; refine ⟨fun _ => ?_, hK _ ?_⟩; (fail); clear hK K))
              refine zm ?_
              intro W5 vs5 hl5 hv5
              have B5 := Vd (zk.1 hl5)
              clear hl5 hv5
              simp only [zd]
              go_wp2_with fail
              go_meet
              exact ⟨by rw [RD.out], B5⟩
             ·have RD := Vd (show D = true by rw [DD.out, decide_eq_false (fun z => e2 z.2)]; rfl)
              injection e1 with a1 a2 a3; injection a3 with a3 a4 a5
              subst a1 a2 a3 a4 a5
              clear DD CA CB CA2 CB2
              refine zn 36 [] [] (by kernel_rfl) (by kernel_rfl) (by kernel_rfl) (by intro t ht; cases ht) ?_
              simp only [Vg, Vh, Vi, Vj]
              repeat (refine ze (by rfl) (fun K hK => ?_); go_simp; first | (refine hK _ ?_; clear hK K) | (apply Exists.intro; refine ⟨fun _ => ?_, hK _ ?_⟩; (fail); clear hK K))
              refine ze (by rfl) (fun K hK => ?_)
              go_simp
              refine ⟨.bool true, fun p => ?_, hK _ ?_⟩
              ·rw [jS _ _ e2]; exact ⟨rfl, rfl⟩
              clear hK K
              repeat (refine ze (by rfl) (fun K hK => ?_); go_simp; first | (refine hK _ ?_; clear hK K) | (apply Exists.intro; refine ⟨fun _ => ?_, hK _ ?_⟩; (fail); clear hK K))
              refine zm ?_
              intro W5 vs5 hl5 hv5
              have B5 := Vd (zk.1 hl5)
              clear hl5 hv5
              simp only [zd]
              go_wp2_with fail
              go_meet
              exact ⟨by rw [RD.out], B5⟩
            ·have RD := Vd (show D = true by rw [DD.out, decide_eq_false (fun z => e1 z.1)]; rfl)
             clear DD CA CB CA2 CB2
             refine zn 36 [] [] (by kernel_rfl) (by kernel_rfl) (by kernel_rfl) (by intro t ht; cases ht) ?_
             simp only [Vg, Vh, Vi, Vj]
             repeat (refine ze (by rfl) (fun K hK => ?_); go_simp; first | (refine hK _ ?_; clear hK K) | (apply Exists.intro; refine ⟨fun _ => ?_, hK _ ?_⟩; (fail); clear hK K))
             refine ze (by rfl) (fun K hK => ?_)
             go_simp
             refine ⟨.bool true, fun p => ?_, hK _ ?_⟩
             ·rw [jS _ _ e1]; exact ⟨rfl, rfl⟩
             clear hK K
             repeat (refine ze (by rfl) (fun K hK => ?_); go_simp; first | (refine hK _ ?_; clear hK K) | (apply Exists.intro; refine ⟨fun _ => ?_, hK _ ?_⟩; (fail); clear hK K))
             refine zm ?_
             intro W5 vs5 hl5 hv5
             have B5 := Vd (zk.1 hl5)
             clear hl5 hv5
             simp only [zd]
             go_wp2_with fail
             go_meet
             exact ⟨by rw [RD.out], B5⟩
         case rest =>
          obtain ⟨rfl, hbc⟩ := hcut
          obtain ⟨wd, hwd⟩ : ∃ wd, wd = wc := ⟨_, rfl⟩
          rw [<- hwd] at hbc ⊢
          have H5 := Vd (hst.out.below hbc.out)
          have BD := HL2.out.bnd
          rw [<- HM.out, <- HI.out] at BD
          have BDH := Vd BD
          clear hst hbc hwd HK1 HD
          go_upto_if 139 with fail
          go_cut [] from 140 to 144 (fun wx => Hid (RSt (rfx x LA Lc) b r R (some ad) c1 x.last.cells x.told w (if D = true then zN R.w t i n cc else t) sh wx))
          case first =>
           cases D with
           | true =>
            have bx := BDH.out
            have ts := vK (List.getElem_mem hi)
            rw [<- HCC.out] at ts
            have tsR := RR.out.2.1
            have bo := bx.out
            have bt := bx.tt
            have x4 : (xx : Int) <= 4096 := by omega
            have y4 : (y : Int) <= 4096 := by have := HY.out; omega
            have r0 : 0 <= R.w := ARH.out.2.1
            have r4 : R.w <= 4096 := ARH.out.2.2.1
            have UC := ref_unit (rfx x LA Lc) t sh b R (some ad) c1 xx y i cc wd H5.out.wr H5.out.row.sees hi HCC.out.symm hxy (by omega) x4 (by omega) y4 (by omega) r0 r4 HOK.out bx.col.1 bx.col.2 (by omega) (by omega)
            have US : zN R.w t i n cc = xZ R.w t xx y cc := Kz R.w t i n cc xx y (by
             have w0 : (0 : Int) < R.w := by omega
             rw [<- hxy, Int.add_comm, Int.add_mul_emod_self_right]
             exact Int.emod_eq_of_lt (by omega) (by omega)) (by
             have w0 : (0 : Int) < R.w := by omega
             rw [<- hxy, Int.add_comm, Int.add_mul_ediv_right _ _ (by omega), Int.ediv_eq_zero_of_lt (by omega) (by omega)]
             omega) HW.out.symm
            rw [<- US] at UC
            simp only [scrV] at UC
            have UC := Vd UC
            have k0 := H5.out.sc.blk.c 0 _ rfl
            have k1 := H5.out.sc.blk.c 1 _ rfl
            have k2 := H5.out.sc.blk.c 2 _ rfl
            have k3 := H5.out.sc.blk.c 3 _ rfl
            have k4 := H5.out.sc.blk.c 4 _ rfl
            have k5 := H5.out.sc.blk.c 5 _ rfl
            clear bx ts tsR bo bt x4 y4 r0 r4 US hxy
            go_wp2_with fail
            refine UC.out.mono ?_; rintro e w9 ⟨⟨v, rfl⟩, o9, g9⟩
            have H9 := Vd (H5.out.turn o9 g9)
            clear o9 g9 UC
            go_wp2_with fail
            go_meet
            first | rw [if_pos trivial] | rw [if_pos rfl]
            exact H9
           | false =>
            go_wp2_with fail
            go_meet
            first | rw [if_neg not_false] | rw [if_neg (by decide)]
            exact H5
          case rest =>
           obtain ⟨wf, hwf⟩ : ∃ wf, wf = wc := ⟨_, rfl⟩
           rw [<- hwf] at hcut ⊢
           have H6 := hcut
           clear hcut hwf H5 hxy
           have wx := Ve ((xx : Int) + (n : Int)) (by omega)
           have x1 : 1 <= n := by rcases hn with z | z <;> omega
           go_wp2_with fail
           go_roundw
           case rel => exact ⟨xx + n, _, by omega, by go_num, HNX, H6⟩
           case measure => simp [intOf]; omega
       ·have e : xx = m := by omega
        subst e
        have p1 : ¬ (xx : Int) < R.w := by omega
        have HX := Vd (ZN.out y t hl.out)
        clear hl
        go_wp2_with fail
        go_roundw
        case rel => exact ⟨y + 1, t, by omega, by go_num, HX, hst⟩
        case measure => simp [intOf]; omega
     ·have e : y = H := by omega
      subst e
      have p1 : ¬ (y : Int) < R.h := by omega
      obtain ⟨rfl, o1, o2, o3, o4, o5⟩ := ZD.out t hl.out
      have HO := Vd (And.intro o1 (And.intro o2 (And.intro o3 (And.intro o4 o5))))
      clear hl o1 o2 o3 o4 o5 Z0 ZN ZD
      have r5 := hst.out.sc.blk.c 5 _ rfl
      go_upto_if 149 with fail
      clear p1 r5 hHI hmI
      go_cut [] from 149 to 205 (fun wx => Hid (RSt (rfx x LA Lc) b r R A1 c1 x.last.cells x.told w (qD (zy t R) sh R.shown) sh wx))
      case first =>
       cases es : R.shown with
       | true =>
        go_upto_region 29 with fail
        obtain ⟨GC, hGC⟩ : ∃ GC, GC = (!t.place || decide (t.x ≠ R.x) || decide (t.y ≠ R.y)) := ⟨_, rfl⟩
        have HGC := Vd hGC
        have CU : Hid (zy t R = if GC = true then jz t R.x R.y else t) := Vd (by unfold zy; rw [es, hGC, Bool.true_and])
        clear hGC
        have g8 : ∀ d os, (grow (redrawn wr d) os).cell? ⟨b, 8, none⟩ = some (.bool t.place) := fun d os => (hst.out.wr.blk.regrown d os).c 8 _ rfl
        have g9 := fun d os => (hst.out.wr.blk.regrown d os).c 9 _ rfl
        have g10 := fun d os => (hst.out.wr.blk.regrown d os).c 10 _ rfl
        have k3 := fun d os => (hst.out.sc.blk.regrown d os).c 3 _ rfl
        have k4 := fun d os => (hst.out.sc.blk.regrown d os).c 4 _ rfl
        go_cut [172] from 150 to 172 (fun s172 wx => s172 = .bool GC /\ Hid (Below wr.heap.size wr wx))
        case first =>
         cases ep : t.place with
         | false =>
          have RG : Hid (GC = true) := Vd (by rw [HGC.out, ep]; rfl)
          rw [ep] at g8
          refine zn 22 [] [] (by kernel_rfl) (by kernel_rfl) (by kernel_rfl) (by intro t ht; cases ht) ?_
          simp only [Vg, Vh, Vi, Vj]
          repeat (refine ze (by rfl) (fun K hK => ?_); go_simp; first | (refine hK _ ?_; clear hK K) | (apply Exists.intro; refine ⟨fun _ => ?_, hK _ ?_⟩; (fail); clear hK K))
          refine zm ?_
          intro W8 vs8 hl hv
          have hb8 := Vd (zk.1 hl)
          clear hl hv
          simp only [zd]
          go_wp2_with fail
          go_meet
          exact ⟨by rw [RG.out], hb8⟩
         | true =>
          rw [ep] at g8
          by_cases ex : t.x = R.x
          ·have fx : (t.x != R.x) = false := by rw [ex]; simp
           by_cases ey : t.y = R.y
           ·have fy : (t.y != R.y) = false := by rw [ey]; simp
            have RG : Hid (GC = false) := Vd (by rw [HGC.out, ep, ex, ey]; simp)
            clear ex ey
            refine zn 22 [] [] (by kernel_rfl) (by kernel_rfl) (by kernel_rfl) (by intro t ht; cases ht) ?_
            simp only [Vg, Vh, Vi, Vj]
            repeat (refine ze (by rfl) (fun K hK => ?_); go_simp; first | (refine hK _ ?_; clear hK K) | (apply Exists.intro; refine ⟨fun _ => ?_, hK _ ?_⟩; (fail); clear hK K))
            refine zm ?_
            intro W8 vs8 hl hv
            have hb8 := Vd (zk.1 hl)
            clear hl hv
            simp only [zd]
            go_wp2_with fail
            go_meet
            exact ⟨by rw [RG.out], hb8⟩
           ·have fy : (t.y != R.y) = true := by rw [bne_iff_ne]; exact ey
            have RG : Hid (GC = true) := Vd (by rw [HGC.out, ep]; simp [ey])
            clear ex ey
            refine zn 22 [] [] (by kernel_rfl) (by kernel_rfl) (by kernel_rfl) (by intro t ht; cases ht) ?_
            simp only [Vg, Vh, Vi, Vj]
            repeat (refine ze (by rfl) (fun K hK => ?_); go_simp; first | (refine hK _ ?_; clear hK K) | (apply Exists.intro; refine ⟨fun _ => ?_, hK _ ?_⟩; (fail); clear hK K))
            refine zm ?_
            intro W8 vs8 hl hv
            have hb8 := Vd (zk.1 hl)
            clear hl hv
            simp only [zd]
            go_wp2_with fail
            go_meet
            exact ⟨by rw [RG.out], hb8⟩
          ·have fx : (t.x != R.x) = true := by rw [bne_iff_ne]; exact ex
           have RG : Hid (GC = true) := Vd (by rw [HGC.out, ep]; simp [ex])
           clear ex
           refine zn 22 [] [] (by kernel_rfl) (by kernel_rfl) (by kernel_rfl) (by intro t ht; cases ht) ?_
           simp only [Vg, Vh, Vi, Vj]
           repeat (refine ze (by rfl) (fun K hK => ?_); go_simp; first | (refine hK _ ?_; clear hK K) | (apply Exists.intro; refine ⟨fun _ => ?_, hK _ ?_⟩; (fail); clear hK K))
           refine zm ?_
           intro W8 vs8 hl hv
           have hb8 := Vd (zk.1 hl)
           clear hl hv
           simp only [zd]
           go_wp2_with fail
           go_meet
           exact ⟨by rw [RG.out], hb8⟩
        case rest =>
         obtain ⟨rfl, hbc⟩ := hcut
         obtain ⟨wd, hwd⟩ : ∃ wd, wd = wc := ⟨_, rfl⟩
         rw [<- hwd] at hbc ⊢
         have H5 := Vd (hst.out.below hbc.out)
         clear hst hbc hwd g8 g9 g10 k3 k4
         go_upto_if 172 with fail
         go_cut [] from 173 to 192 (fun wx => Hid (RSt (rfx x LA Lc) b r R A1 c1 x.last.cells x.told w (zy t R) sh wx))
         case first =>
          cases GC with
          | true =>
           have cu := (z7 RR.out.1).2.2.2
           have ar := ARH.out
           have C2 : Hid (zy t R = jz t R.x R.y) := Vd (by rw [CU.out, if_pos rfl])
           unfold qN at cu
           rw [if_pos es] at cu
           simp only [Bool.and_eq_true, decide_eq_true_eq] at cu
           obtain ⟨⟨⟨cx0, cx1⟩, cy0⟩, cy1⟩ := cu
           have MV := Vd (Jp R.x R.y cx0 (by omega) cy0 (by omega) wd)
           have ms := xv R.x R.y (by omega) (by omega) (by omega) (by omega)
           have oo := HO.out.1
           have TE : Hid (qo t (zH R.x R.y) = seqT t (zH R.x R.y)) := Vd (Ze t _ (move_ne _ _))
           have k3 := H5.out.sc.blk.c 3 _ rfl
           have k4 := H5.out.sc.blk.c 4 _ rfl
           clear ar
           go_wp2_with fail
           refine MV.out.mono ?_; rintro e w7 ⟨rfl, b7⟩
           have TL := H5.out.below b7 |>.tell (zH R.x R.y) (by omega)
           rw [TE.out] at TL
           have TL := Vd TL
           clear b7 MV k3 k4
           go_wp2_with fail
           refine TL.out.mono ?_; rintro e w9 ⟨⟨v, rfl⟩, h9⟩
           have b8 := h9.wr.blk.c 8 _ rfl
           have q8 := h9.wr.blk.f 8 _ rfl
           have b9 := h9.wr.blk.c 9 _ rfl
           have q9 := h9.wr.blk.f 9 _ rfl
           have b10 := h9.wr.blk.c 10 _ rfl
           have q10 := h9.wr.blk.f 10 _ rfl
           have k3 := h9.sc.blk.c 3 _ rfl
           have k4 := h9.sc.blk.c 4 _ rfl
           have ne1 : r ≠ b := h9.ne
           have ne2 : b ≠ r := fun z => h9.ne z.symm
           have h9 := Vd h9
           clear TL
           go_wp2_with fail
           go_meet
           rw [C2.out]
           exact Vd (((h9.out.step ⟨true, t.x, t.y, t.st, zB, t.out ++ zH R.x R.y⟩ sh 8 (.bool true) rfl).step ⟨true, R.x, t.y, t.st, zB, t.out ++ zH R.x R.y⟩ sh 9 (.int .i64 R.x) rfl).step ⟨true, R.x, R.y, t.st, zB, t.out ++ zH R.x R.y⟩ sh 10 (.int .i64 R.y) rfl)
          | false =>
           have C2 : Hid (zy t R = t) := Vd (by rw [CU.out, if_neg (by decide)])
           go_wp2_with fail
           go_meet
           rw [C2.out]
           exact H5
         case rest =>
          obtain ⟨wf, hwf⟩ : ∃ wf, wf = wc := ⟨_, rfl⟩
          rw [<- hwf] at hcut ⊢
          have H6 := hcut
          have co : (zy t R).out.size <= 4000000000 := by
           have cu := (z7 RR.out.1).2.2.2
           have ar := ARH.out
           unfold qN at cu
           rw [if_pos es] at cu
           simp only [Bool.and_eq_true, decide_eq_true_eq] at cu
           have ms := xv R.x R.y (by omega) (by omega) (by omega) (by omega)
           have := HO.out.1
           rw [CU.out]
           split
           ·show (t.out ++ zH R.x R.y).size <= _
            rw [ByteArray.size_append]
            omega
           ·omega
          have b14 := H6.out.wr.blk.c 14 _ rfl
          clear hcut hwf H5
          cases hsh : sh with
          | true =>
           rw [hsh] at b14 H6
           have FE : Hid (qD (zy t R) true true = zy t R) := Vd rfl
           go_wp2_with fail
           go_meet
           (try rw [es]); (try rw [hsh]); rw [FE.out]
           exact H6
          | false =>
           rw [hsh] at b14 H6
           have FE : Hid (qD (zy t R) false true = qo (zy t R) jj) := Vd (by rw [Ze _ _ (by decide)]; rfl)
           have TL := Vd (H6.out.tell jj (by have : jj.size = 6 := rfl; omega))
           go_wp2_with fail
           refine TL.out.mono ?_; rintro e w9 ⟨⟨v, rfl⟩, h9⟩
           have h9 := Vd h9
           clear TL
           go_wp2_with fail
           go_meet
           (try rw [es]); (try rw [hsh]); rw [FE.out]
           exact h9
       | false =>
        have C2 : Hid (zy t R = t) := Vd (by unfold zy; rw [es]; rfl)
        have b14 := hst.out.wr.blk.c 14 _ rfl
        cases hsh : sh with
        | true =>
         rw [hsh] at b14 hst
         have FE : Hid (qD t true false = qo t jy) := Vd (by rw [Ze _ _ (by decide)]; rfl)
         have TL := Vd (hst.out.tell jy (by have : jy.size = 6 := rfl; have := HO.out.1; omega))
         go_wp2_with fail
         refine TL.out.mono ?_; rintro e w9 ⟨⟨v, rfl⟩, h9⟩
         have h9 := Vd h9
         clear TL
         go_wp2_with fail
         go_meet
         (try rw [es]); (try rw [hsh]); rw [C2.out, FE.out]
         exact h9
        | false =>
         rw [hsh] at b14 hst
         have FE : Hid (qD t false false = t) := Vd rfl
         go_wp2_with fail
         go_meet
         (try rw [es]); (try rw [hsh]); rw [C2.out, FE.out]
         exact hst
      case rest =>
       obtain ⟨wf, hwf⟩ : ∃ wf, wf = wc := ⟨_, rfl⟩
       rw [<- hwf] at hcut ⊢
       have H6 := hcut
       have EB := KG sh RR.out.1 HO.out.2.1 HO.out.2.2.1 HO.out.2.2.2.1 HO.out.2.2.2.2
       rw [<- FT.out] at EB H6
       have EB := Vd EB
       clear hcut hwf hst
       obtain ⟨FF, hFF⟩ : ∃ FF, FF = zJ x R := ⟨_, rfl⟩
       rw [<- hFF] at EB H6 FW
       have b1 := H6.out.wr.blk.c 1 _ rfl
       have q1 := H6.out.wr.blk.f 1 _ rfl
       have b2 := H6.out.wr.blk.c 2 _ rfl
       have q2 := H6.out.wr.blk.f 2 _ rfl
       have b3 := H6.out.wr.blk.c 3 _ rfl
       have q3 := H6.out.wr.blk.f 3 _ rfl
       have b4 := H6.out.wr.blk.c 4 _ rfl
       have q4 := H6.out.wr.blk.f 4 _ rfl
       have b5 := H6.out.wr.blk.c 5 _ rfl
       have q5 := H6.out.wr.blk.f 5 _ rfl
       have b6 := H6.out.wr.blk.c 6 _ rfl
       have q6 := H6.out.wr.blk.f 6 _ rfl
       have b7 := H6.out.wr.blk.c 7 _ rfl
       have q7 := H6.out.wr.blk.f 7 _ rfl
       have b14 := H6.out.wr.blk.c 14 _ rfl
       have q14 := H6.out.wr.blk.f 14 _ rfl
       have b16 : wf.cell? ⟨b, 16, none⟩ = some (.string FF.out) := H6.out.wr.blk.c 16 _ rfl
       have k0 := H6.out.sc.blk.c 0 _ rfl
       have k1 := H6.out.sc.blk.c 1 _ rfl
       have k2 := H6.out.sc.blk.c 2 _ rfl
       have k3 := H6.out.sc.blk.c 3 _ rfl
       have k4 := H6.out.sc.blk.c 4 _ rfl
       have k5 := H6.out.sc.blk.c 5 _ rfl
       have ne1 : r ≠ b := H6.out.ne
       have ne2 : b ≠ r := fun z => H6.out.ne z.symm
       clear hFF FT
       go_wp2_with fail
       refine bodyPost_ret (v := .tuple #[.string FF.out, .int .i64 0]) (by simp [results, Tryz.results34, go_sem]) rfl ?_
       have gs := (((((((zA wf ⟨b, 14, none⟩ (.bool R.shown)).trans (zA _ ⟨b, 1, none⟩ (.bool true))).trans (zA _ ⟨b, 2, none⟩ (.int .i64 R.w))).trans (zA _ ⟨b, 3, none⟩ (.int .i64 R.h))).trans (zA _ ⟨b, 4, none⟩ (.slice A1 R.cells.length c1))).trans (zA _ ⟨b, 5, none⟩ (.int .i64 R.x))).trans (zA _ ⟨b, 6, none⟩ (.int .i64 R.y))).trans (zA _ ⟨b, 7, none⟩ (.bool R.shown))
       have ow := (((((((H6.out.wr.set 14 (.bool R.shown)).set 1 (.bool true)).set 2 (.int .i64 R.w)).set 3 (.int .i64 R.h)).set 4 (.slice A1 R.cells.length c1)).set 5 (.int .i64 R.x)).set 6 (.int .i64 R.y)).set 7 (.bool R.shown)
       refine (FW.out _ _).2 ⟨A1, c1, rfl, ⟨?_, fun _ => ⟨RR.out.1, H6.out.row.stay (Zc H6.out.wr (by decide) gs)⟩, EB.out.1, EB.out.2.1, EB.out.2.2⟩, qn H6.out.gr gs, HGQ.out⟩
       rw [SH.out]
       exact ow
end
end
end Go.Proofs.YtifoijbpbigaaaaGreatDoor
