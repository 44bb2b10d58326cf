/- What lies below tapes (kept of earlier texts: VxPb). -/
import Derived.Test.YtmaofighbpnbiaaGreatDoorTaEL
set_option linter.unusedVariables false
set_option linter.unusedSimpArgs false
namespace Go.Proofs.YtmaofighbpnbiaaGreatDoor
section
open Go Go.RowKit Go.Sort
section
variable {w0 : World} {F0 : List Nat} {tb : Nat} {t t' : Trm} {W W' : World} {L : Lay}
theorem RowAt.asSlice {T : TypeId} {sz n : Nat} {v : Value} {xs : List Value} (h : RowAt W T sz v n xs) : ∃ A c, v = .slice A n c := by
 rcases h with ⟨rfl, _, A, rfl⟩ | ⟨h, ho⟩
 ·exact ⟨A, 0, rfl⟩
 ·rcases h.2 with ⟨e1, e2⟩ | ⟨g, cap, cur, rfl, _⟩
  ·subst e1
   exact absurd rfl ho
  ·exact ⟨_, _, rfl⟩
def swapT (t : Trm) : Trm := { t with cells := t.away, away := t.cells }
theorem TrmAt.swap (T : TrmAt W L t) : TrmAt ((W.setCell ⟨L.b, 2, none⟩ L.a).setCell ⟨L.b, 9, none⟩ L.c) { L with c := L.a, a := L.c } (swapT t) := by
 have far : ∀ g, g ≠ L.b -> ((W.setCell ⟨L.b, 2, none⟩ L.a).setCell ⟨L.b, 9, none⟩ L.c).heap[g]? = W.heap[g]? := fun g hg => (heap_setCell_other _ ⟨L.b, 9, none⟩ g L.c hg).trans (heap_setCell_other W ⟨L.b, 2, none⟩ g L.a hg)
 have o := (T.own.set 2 L.a).set 9 L.c
 refine ⟨o, ?_, ?_, ?_, ?_, ?_, ?_, ?_, ?_, fun g m m2 => T.ca g m2 m, T.sw, T.rh, T.rk, T.hk⟩
 ·obtain ⟨_, k⟩ := T.utf.kind; exact T.utf.keep (far _ (T.own.ne k (by decide)))
 ·exact T.a.keep (fun g m => by obtain ⟨cur, k⟩ := T.a.kind g m; exact far g (T.own.ne k (by decide)))
 ·exact T.c.keep (fun g m => by obtain ⟨cur, k⟩ := T.c.kind g m; exact far g (T.own.ne k (by decide)))
 ·exact T.s.keep (fun g m => by obtain ⟨cur, k⟩ := T.s.kind g m; exact far g (T.own.ne k (by decide)))
 ·exact T.w.keep (fun g m => by obtain ⟨cur, k⟩ := T.w.kind g m; exact far g (T.own.ne k (by decide)))
 ·exact T.r.keep (fun g m => by obtain ⟨cur, k⟩ := T.r.kind g m; exact far g (T.own.ne k (by decide)))
 ·exact T.h.keep (fun g m => by obtain ⟨cur, k⟩ := T.h.kind g m; exact far g (T.own.ne k (by decide)))
 ·exact T.k.keep (fun g m => by obtain ⟨cur, k⟩ := T.k.kind g m; exact far g (T.own.ne k (by decide)))
theorem St.swapC (h : St w0 F0 tb t W) : ∃ L A1 c1 A2 c2, Bk W tb (trmV t L) 104 /\ L.c = .slice A1 t.cells.length c1 /\ L.a = .slice A2 t.away.length c2 /\ St w0 F0 tb (swapT t) ((W.setCell ⟨tb, 2, none⟩ (.slice A2 t.away.length c2)).setCell ⟨tb, 9, none⟩ (.slice A1 t.cells.length c1)) := by
 obtain ⟨L, rfl, T, hf⟩ := h.lay
 obtain ⟨A1, c1, e1⟩ := T.c.asSlice
 obtain ⟨A2, c2, e2⟩ := T.a.asSlice
 refine ⟨L, A1, c1, A2, c2, T.own, e1, e2, ?_⟩
 have T2 := T.swap
 rw [<- e1, <- e2]
 refine ⟨h.g0, h.mv.trans ((Mv.set (F := [L.b]) W (by simp)).trans (Mv.set (F := [L.b]) _ (by simp)) (by simp)) (by intro b hb; rw [List.mem_singleton.1 hb]; exact hf _ (Lay.mem.2 (by simp))), h.ng, { L with c := L.a, a := L.c }, rfl, T2, fun b hb => hf b (Lay.mem.2 ?_)⟩
 have := Lay.mem.1 hb
 simp only at this
 rcases this with q | q | q | q | q | q | q | q | q <;> simp [q]
theorem St.lenW (h : St w0 F0 tb t W) : ∃ L A c, Bk W tb (trmV t L) 104 /\ L.w = .slice A t.wrt.length c := by
 obtain ⟨L, rfl, T, hf⟩ := h.lay
 obtain ⟨A1, c1, e1⟩ := T.w.asSlice
 exact ⟨L, A1, c1, T.own, e1⟩
theorem St.lenC (h : St w0 F0 tb t W) : ∃ L A c, Bk W tb (trmV t L) 104 /\ L.c = .slice A t.cells.length c := by
 obtain ⟨L, rfl, T, hf⟩ := h.lay
 obtain ⟨A1, c1, e1⟩ := T.c.asSlice
 exact ⟨L, A1, c1, T.own, e1⟩
theorem St.setWrap (h : St w0 F0 tb t W) (x : Bool) : St w0 F0 tb { t with wrap := x } (W.setCell ⟨tb, 17, none⟩ (.bool x)) := h.set _ 17 _ (fun _ => rfl) ⟨rfl, rfl, rfl, rfl, rfl, rfl, rfl⟩
theorem St.setShown (h : St w0 F0 tb t W) (x : Bool) : St w0 F0 tb { t with shown := x } (W.setCell ⟨tb, 19, none⟩ (.bool x)) := h.set _ 19 _ (fun _ => rfl) ⟨rfl, rfl, rfl, rfl, rfl, rfl, rfl⟩
theorem St.setAlt (h : St w0 F0 tb t W) (x : Bool) : St w0 F0 tb { t with alt := x } (W.setCell ⟨tb, 20, none⟩ (.bool x)) := h.set _ 20 _ (fun _ => rfl) ⟨rfl, rfl, rfl, rfl, rfl, rfl, rfl⟩
theorem St.setIns (h : St w0 F0 tb t W) (x : Bool) : St w0 F0 tb { t with ins := x } (W.setCell ⟨tb, 18, none⟩ (.bool x)) := h.set _ 18 _ (fun _ => rfl) ⟨rfl, rfl, rfl, rfl, rfl, rfl, rfl⟩
theorem St.setOrg (h : St w0 F0 tb t W) (x : Bool) : St w0 F0 tb { t with cur := { t.cur with org := x } } (W.setCell ⟨tb, 8, none⟩ (.bool x)) := h.set _ 8 _ (fun _ => rfl) ⟨rfl, rfl, rfl, rfl, rfl, rfl, rfl⟩
def savT (t : Trm) : Trm := { t with sav := t.cur }
theorem St.setSav (h : St w0 F0 tb t W) : St w0 F0 tb (savT t) ((((((W.setCell ⟨tb, 10, none⟩ (.int .i64 t.cur.x)).setCell ⟨tb, 11, none⟩ (.int .i64 t.cur.y)).setCell ⟨tb, 12, none⟩ (.int .i32 t.cur.st.fg)).setCell ⟨tb, 13, none⟩ (.int .i32 t.cur.st.bg)).setCell ⟨tb, 14, none⟩ (.int .u8 (bI t.cur.st.at_))).setCell ⟨tb, 15, none⟩ (.bool t.cur.org)) := by
 have S1 := h.set { t with sav := { t.sav with x := t.cur.x } } 10 (.int .i64 t.cur.x) (fun _ => rfl) ⟨rfl, rfl, rfl, rfl, rfl, rfl, rfl⟩
 have S2 := S1.set { t with sav := { t.sav with x := t.cur.x, y := t.cur.y } } 11 (.int .i64 t.cur.y) (fun _ => rfl) ⟨rfl, rfl, rfl, rfl, rfl, rfl, rfl⟩
 have S3 := S2.set { t with sav := { t.sav with x := t.cur.x, y := t.cur.y, st := { t.sav.st with fg := t.cur.st.fg } } } 12 (.int .i32 t.cur.st.fg) (fun _ => rfl) ⟨rfl, rfl, rfl, rfl, rfl, rfl, rfl⟩
 have S4 := S3.set { t with sav := { t.sav with x := t.cur.x, y := t.cur.y, st := { t.sav.st with fg := t.cur.st.fg, bg := t.cur.st.bg } } } 13 (.int .i32 t.cur.st.bg) (fun _ => rfl) ⟨rfl, rfl, rfl, rfl, rfl, rfl, rfl⟩
 have S5 := S4.set { t with sav := { t.sav with x := t.cur.x, y := t.cur.y, st := t.cur.st } } 14 (.int .u8 (bI t.cur.st.at_)) (fun _ => rfl) ⟨rfl, rfl, rfl, rfl, rfl, rfl, rfl⟩
 exact S5.set (savT t) 15 (.bool t.cur.org) (fun _ => rfl) ⟨rfl, rfl, rfl, rfl, rfl, rfl, rfl⟩
theorem VU (t : Trm) (f : Nat) : ∀ n j, (zv t f n).wrt[j]? = if f <= j /\ j < f + n then (t.wrt[j]?).map (fun _ => true) else t.wrt[j]?
 | 0, j => by rw [if_neg (by omega)]; rfl
 | n + 1, j => by
  show ((zv t f n).wrt.set (f + n) true)[j]? = _
  have ih := VU t f n
  rw [List.getElem?_set]
  by_cases e : f + n = j
  ·subst e
   have c2 : f <= f + n /\ f + n < f + (n + 1) := by omega
   have e2 := (jb t f n).wl
   rw [if_pos rfl, e2, if_pos c2]
   by_cases l : f + n < t.wrt.length
   ·rw [if_pos l, List.getElem?_eq_getElem l]; rfl
   ·rw [if_neg l, List.getElem?_eq_none (by omega)]; rfl
  ·rw [if_neg e, ih j]
   by_cases c : f <= j /\ j < f + n
   ·rw [if_pos c, if_pos (by omega)]
   ·rw [if_neg c, if_neg (by omega)]
theorem VV (t : Trm) (f : Nat) : ∀ n, zv t f n = { t with wrt := (zv t f n).wrt }
 | 0 => rfl
 | n + 1 => by
  have := VV t f n
  show ({ zv t f n with wrt := _ } : Trm) = _
  rw [this]
  rfl
theorem VY (t : Trm) : zv t 0 t.wrt.length = allW t := by
 rw [VV]
 unfold allW
 congr 1
 refine List.ext_getElem? fun j => ?_
 rw [VU]
 by_cases c : j < t.wrt.length
 ·rw [if_pos (by omega), List.getElem?_eq_getElem c, List.getElem?_replicate, if_pos c]; rfl
 ·rw [if_neg (by omega), List.getElem?_eq_none (by omega), List.getElem?_eq_none (by simp; omega)]
set_option maxHeartbeats 8000000 in
set_option maxRecDepth 100000 in
theorem t_mode (h : St w0 F0 tb t W) (f : Fine t) (k : Int) (on : Bool) : Calls Tryz.prog 83 #[.pointer (some ⟨tb, 0, none⟩), .int .i64 k, .bool on] W (Vd w0 F0 tb (qg t k on)) := by
 have H := zdy h
 by_cases k6 : k = 6
 ·subst k6
  have e : qg t 6 on = { (jV { t with cur := { t.cur with org := on } }) with pend := false } := rfl
  rw [e]
  have S1 := h.setOrg on
  have TH := zdy (Zg S1)
  obtain ⟨L1, B1⟩ := h.bk
  have k8 := B1.c 8 _ rfl
  have kf8 := B1.f 8
  clear h B1 e S1 f H
  go_enter Tryz.func83, Tryz.ntmps83
  go_wp2_with fail
  refine TH.out.mono ?_; rintro e w1 ⟨⟨_, rfl⟩, S2⟩
  have S3 := zdy (S2.setPend false)
  have S2 := zdy S2
  clear TH k8 kf8
  obtain ⟨L1, B1⟩ := S2.out.bk
  dsimp only [trmV, setX, setY] at B1
  have k16 := B1.c 16 _ rfl
  have kf16 := B1.f 16
  clear B1
  go_wp2_with fail
  go_end0
  exact ⟨⟨_, rfl⟩, S3.out⟩
 ·by_cases k7 : k = 7
  ·subst k7
   have e : qg t 7 on = { t with wrap := on, pend := t.pend && on } := rfl
   rw [e]
   have S1 := h.setWrap on
   have S2 := S1.setPend (t.pend && on)
   obtain ⟨L1, B1⟩ := h.bk
   have k16 := B1.c 16 _ rfl
   have kf16 := B1.f 16
   have k17 := B1.c 17 _ rfl
   have kf17 := B1.f 17
   have S2 := zdy S2
   clear h B1 e f H k6 S1
   cases hp : t.pend with
   | false =>
    rw [hp, Bool.false_and] at S2
    rw [hp] at k16
    rw [Bool.false_and]
    go_enter Tryz.func83, Tryz.ntmps83
    go_wp2_with fail
    go_end0
    exact ⟨⟨_, rfl⟩, S2.out⟩
   | true =>
    rw [hp, Bool.true_and] at S2
    rw [hp] at k16
    rw [Bool.true_and]
    go_enter Tryz.func83, Tryz.ntmps83
    go_wp2_with fail
    go_end0
    exact ⟨⟨_, rfl⟩, S2.out⟩
  ·by_cases k25 : k = 25
   ·subst k25
    have e : qg t 25 on = { t with shown := on } := rfl
    rw [e]
    have S1 := zdy (h.setShown on)
    obtain ⟨L1, B1⟩ := h.bk
    have k19 := B1.c 19 _ rfl
    have kf19 := B1.f 19
    clear h B1 e f H k6 k7
    go_enter Tryz.func83, Tryz.ntmps83
    go_wp2_with fail
    go_end0
    exact ⟨⟨_, rfl⟩, S1.out⟩
   ·by_cases k1049 : k = 1049
    ·subst k1049
     obtain ⟨t1, h1⟩ : ∃ t1 : Trm, t1 = { t with pend := false } := ⟨_, rfl⟩
     have S1 := h.setPend false
     rw [<- h1] at S1
     have a1 : t1.alt = t.alt := by rw [h1]
     obtain ⟨L1, B1⟩ := h.bk
     have k16 := B1.c 16 _ rfl
     have kf16 := B1.f 16
     have k20 := B1.c 20 _ rfl
     have kf20 := B1.f 20
     by_cases ea : on = t.alt
     ·have e : qg t 1049 on = t1 := by unfold qg; rw [if_neg (by decide), if_neg (by decide), if_neg (by decide), if_pos rfl]; simp only; rw [if_pos ea, h1]
      rw [e]
      have S1 := zdy S1
      subst ea
      clear h B1 e f H h1 a1 k6 k7 k25
      go_enter Tryz.func83, Tryz.ntmps83
      go_wp2_with fail
      go_end0
      exact ⟨⟨_, rfl⟩, S1.out⟩
     ·have ea2 : t.alt = !on := by cases on <;> cases h9 : t.alt <;> simp_all
      have S2 := S1.setAlt on
      obtain ⟨t2, h2⟩ : ∃ t2 : Trm, t2 = { t1 with alt := on } := ⟨_, rfl⟩
      rw [<- h2] at S2
      obtain ⟨t3, h3⟩ : ∃ t3 : Trm, t3 = swapT t2 := ⟨_, rfl⟩
      have e : qg t 1049 on = if on = true then zm { allW t3 with sav := (allW t3).cur } 0 (allW t3).cells.length else jH (allW t3) := by
       unfold qg; rw [if_neg (by decide), if_neg (by decide), if_neg (by decide), if_pos rfl]; simp only; rw [if_neg ea, h3, h2, h1]; rfl
      have EQ := zdy e
      have MA := zdy (VY t3)
      have S2 := zdy S2
      have H3 := zdy h3
      have ww : t3.w = t.w := by rw [h3, h2, h1]; rfl
      have wh : t3.h = t.h := by rw [h3, h2, h1]; rfl
      have wl : t3.cells.length = t.away.length := by rw [h3, h2, h1]; rfl
      have wr : t3.wrt.length = t.wrt.length := by rw [h3, h2, h1]; rfl
      have FF := zdy f
      have HW := zdy ww
      have HH := zdy wh
      have HL := zdy wl
      have HR := zdy wr
      rw [ea2] at k20
      clear h B1 e f H h1 a1 k6 k7 k25 S1 ea ea2 h2 h3 ww wh wl wr
      cases on with
      | true =>
       go_enter Tryz.func83, Tryz.ntmps83
       go_upto_region 14 with fail
       obtain ⟨V, hV⟩ : ∃ V, V = (W.setCell ⟨tb, 16, none⟩ (.bool false)).setCell ⟨tb, 20, none⟩ (.bool true) := ⟨_, rfl⟩
       rw [<- hV] at S2
       rw [<- hV]
       clear hV k16 kf16 k20 kf20
       have S2 := zdy (S2.out.below (Below.refl _ V).drew)
       obtain ⟨L3, A1, c1, A2, c2, B3, e1, e2, S3⟩ := S2.out.swapC
       rw [<- H3.out] at S3
       have S3 := zdy S3
       have k2 := B3.c 2 _ rfl
       have k9 := B3.c 9 _ rfl
       have kf2 := B3.f 2
       have kf9 := B3.f 9
       rw [e1] at k2
       rw [e2] at k9
       have v2 : V.cell? ⟨tb, 2, none⟩ = some (.slice A1 t2.cells.length c1) := k2
       have v9 : V.cell? ⟨tb, 9, none⟩ = some (.slice A2 t2.away.length c2) := k9
       have vf2 : V.frozen? ⟨tb, 2, none⟩ = false := kf2
       have vf9 : V.frozen? ⟨tb, 9, none⟩ = false := kf9
       clear B3 e1 e2 S2
       go_region
       have S3 : Hid (St w0 F0 tb t3 ((V.setCell ⟨tb, 2, none⟩ (.slice A2 t2.away.length c2)).setCell ⟨tb, 9, none⟩ (.slice A1 t2.cells.length c1)).drew) := S3
       obtain ⟨V3, hV3⟩ : ∃ V3, V3 = ((V.setCell ⟨tb, 2, none⟩ (.slice A2 t2.away.length c2)).setCell ⟨tb, 9, none⟩ (.slice A1 t2.cells.length c1)).drew := ⟨_, rfl⟩
       rw [<- hV3] at S3
       rw [<- hV3]
       clear hV3 k2 k9 kf2 kf9 v2 v9 vf2 vf9
       obtain ⟨L4, A4, c4, B4, e4⟩ := S3.out.lenW
       have k27 := B4.c 27 _ rfl
       rw [e4] at k27
       clear B4 e4
       go_wp2_with fail
       clear k27
       have HS : Hid (St w0 F0 tb (zv t3 0 0) V3) := S3
       go_loopw [78] (fun i wr => ∃ k : Nat, k <= t3.wrt.length /\ i = .int .i64 (k : Int) /\ Hid (St w0 F0 tb (zv t3 0 k) wr)) (fun i _ => t3.wrt.length - (intOf i).toNat)
       case atStart => exact ⟨0, Nat.zero_le _, by simp, HS⟩
       case round =>
        obtain ⟨k, hk2, rfl, hr⟩ := hrel
        clear HS S3
        by_cases lt : k < t3.wrt.length
        ·obtain ⟨L1, g1, cap1, B1, ec, hc1, ⟨v5, y5⟩, p5, h5⟩ := hr.out.markS (f := 0) (by omega)
         rw [Nat.zero_add] at y5 p5 h5
         have k27 := B1.c 27 _ rfl
         rw [ec] at k27
         have H5 := zdy h5
         have q0 : (0 : Int) <= (k : Int) := by omega
         have q5 : (k : Int) < (t3.wrt.length : Int) := by omega
         have tn : (k : Int).toNat = k := by omega
         have q9 : (t3.wrt.length : Int) <= 1048576 := by have := FF.out.wl; have := FF.out.ar; have := HR.out; omega
         have wk := zdz ((k : Int) + 1) (by omega)
         clear B1 ec hc1 h5 hr
         go_wp2_with fail
         go_roundw
         case rel => exact ⟨k + 1, by omega, by go_num, H5⟩
         case measure => simp [intOf]; omega
        ·have e9 : k = t3.wrt.length := by omega
         have q5 : ¬ (k : Int) < (t3.wrt.length : Int) := by omega
         have H5 : Hid (St w0 F0 tb (allW t3) wr) := zdy (by rw [<- MA.out, <- e9]; exact hr.out)
         clear hr e9 hk2
         obtain ⟨L5, A5, c5, B5, e5⟩ := H5.out.lenC
         obtain ⟨t4, h4⟩ : ∃ t4 : Trm, t4 = allW t3 := ⟨_, rfl⟩
         have H4 := zdy h4
         rw [<- h4] at H5 B5 e5
         have k2 := B5.c 2 _ rfl
         have k3 := B5.c 3 _ rfl
         have k4 := B5.c 4 _ rfl
         have k5 := B5.c 5 _ rfl
         have k6 := B5.c 6 _ rfl
         have k7 := B5.c 7 _ rfl
         have k8 := B5.c 8 _ rfl
         have k10 := B5.c 10 _ rfl
         have k11 := B5.c 11 _ rfl
         have k12 := B5.c 12 _ rfl
         have k13 := B5.c 13 _ rfl
         have k14 := B5.c 14 _ rfl
         have k15 := B5.c 15 _ rfl
         have kf10 := B5.f 10
         have kf11 := B5.f 11
         have kf12 := B5.f 12
         have kf13 := B5.f 13
         have kf14 := B5.f 14
         have kf15 := B5.f 15
         rw [e5] at k2
         clear B5 e5 h4
         have cl4 : t4.cells.length = t.away.length := by rw [H4.out]; exact HL.out
         have wl4 : t4.wrt.length = t.wrt.length := by rw [H4.out]; show (List.replicate _ _).length = _; rw [List.length_replicate]; exact HR.out
         have S7 := zdy H5.out.setSav
         have FI := zdy (kO S7.out 0 t4.cells.length (by show _ <= t4.cells.length; omega) (by show t4.cells.length <= _; have := FF.out.al; have := FF.out.ar; omega) (by show t4.wrt.length = t4.cells.length; have := FF.out.al; have := FF.out.wl; omega))
         clear S7 H5 cl4 wl4
         go_wp2_with fail
         refine FI.out.mono ?_; rintro e w8 ⟨⟨_, rfl⟩, S8⟩
         have S9 : Hid (St w0 F0 tb (qg t 1049 true) w8) := zdy (by rw [EQ.out, if_pos trivial, <- H4.out]; exact S8)
         clear S8 FI
         go_wp2_with fail
         go_end0
         exact ⟨⟨_, rfl⟩, S9.out⟩
      | false =>
       go_enter Tryz.func83, Tryz.ntmps83
       go_upto_region 14 with fail
       obtain ⟨V, hV⟩ : ∃ V, V = (W.setCell ⟨tb, 16, none⟩ (.bool false)).setCell ⟨tb, 20, none⟩ (.bool false) := ⟨_, rfl⟩
       rw [<- hV] at S2
       rw [<- hV]
       clear hV k16 kf16 k20 kf20
       have S2 := zdy (S2.out.below (Below.refl _ V).drew)
       obtain ⟨L3, A1, c1, A2, c2, B3, e1, e2, S3⟩ := S2.out.swapC
       rw [<- H3.out] at S3
       have S3 := zdy S3
       have k2 := B3.c 2 _ rfl
       have k9 := B3.c 9 _ rfl
       have kf2 := B3.f 2
       have kf9 := B3.f 9
       rw [e1] at k2
       rw [e2] at k9
       have v2 : V.cell? ⟨tb, 2, none⟩ = some (.slice A1 t2.cells.length c1) := k2
       have v9 : V.cell? ⟨tb, 9, none⟩ = some (.slice A2 t2.away.length c2) := k9
       have vf2 : V.frozen? ⟨tb, 2, none⟩ = false := kf2
       have vf9 : V.frozen? ⟨tb, 9, none⟩ = false := kf9
       clear B3 e1 e2 S2
       go_region
       have S3 : Hid (St w0 F0 tb t3 ((V.setCell ⟨tb, 2, none⟩ (.slice A2 t2.away.length c2)).setCell ⟨tb, 9, none⟩ (.slice A1 t2.cells.length c1)).drew) := S3
       obtain ⟨V3, hV3⟩ : ∃ V3, V3 = ((V.setCell ⟨tb, 2, none⟩ (.slice A2 t2.away.length c2)).setCell ⟨tb, 9, none⟩ (.slice A1 t2.cells.length c1)).drew := ⟨_, rfl⟩
       rw [<- hV3] at S3
       rw [<- hV3]
       clear hV3 k2 k9 kf2 kf9 v2 v9 vf2 vf9
       obtain ⟨L4, A4, c4, B4, e4⟩ := S3.out.lenW
       have k27 := B4.c 27 _ rfl
       rw [e4] at k27
       clear B4 e4
       go_wp2_with fail
       clear k27
       have HS : Hid (St w0 F0 tb (zv t3 0 0) V3) := S3
       go_loopw [78] (fun i wr => ∃ k : Nat, k <= t3.wrt.length /\ i = .int .i64 (k : Int) /\ Hid (St w0 F0 tb (zv t3 0 k) wr)) (fun i _ => t3.wrt.length - (intOf i).toNat)
       case atStart => exact ⟨0, Nat.zero_le _, by simp, HS⟩
       case round =>
        obtain ⟨k, hk2, rfl, hr⟩ := hrel
        clear HS S3
        by_cases lt : k < t3.wrt.length
        ·obtain ⟨L1, g1, cap1, B1, ec, hc1, ⟨v5, y5⟩, p5, h5⟩ := hr.out.markS (f := 0) (by omega)
         rw [Nat.zero_add] at y5 p5 h5
         have k27 := B1.c 27 _ rfl
         rw [ec] at k27
         have H5 := zdy h5
         have q0 : (0 : Int) <= (k : Int) := by omega
         have q5 : (k : Int) < (t3.wrt.length : Int) := by omega
         have tn : (k : Int).toNat = k := by omega
         have q9 : (t3.wrt.length : Int) <= 1048576 := by have := FF.out.wl; have := FF.out.ar; have := HR.out; omega
         have wk := zdz ((k : Int) + 1) (by omega)
         clear B1 ec hc1 h5 hr
         go_wp2_with fail
         go_roundw
         case rel => exact ⟨k + 1, by omega, by go_num, H5⟩
         case measure => simp [intOf]; omega
        ·have e9 : k = t3.wrt.length := by omega
         have q5 : ¬ (k : Int) < (t3.wrt.length : Int) := by omega
         have H5 : Hid (St w0 F0 tb (allW t3) wr) := zdy (by rw [<- MA.out, <- e9]; exact hr.out)
         clear hr e9 hk2
         have FI := zdy (QK H5.out (by show 0 <= t3.w /\ t3.w <= 4096; have := HW.out; have := FF.out.w0; have := FF.out.w1; omega) (by show 0 <= t3.h /\ t3.h <= 4096; have := HH.out; have := FF.out.h0; have := FF.out.h1; omega))
         clear H5
         go_wp2_with fail
         refine FI.out.mono ?_; rintro e w8 ⟨⟨_, rfl⟩, S8⟩
         have S9 : Hid (St w0 F0 tb (qg t 1049 false) w8) := zdy (by rw [EQ.out, if_neg (by simp)]; exact S8)
         clear S8 FI
         go_wp2_with fail
         go_end0
         exact ⟨⟨_, rfl⟩, S9.out⟩
    ·have e : qg t k on = t := by unfold qg; rw [if_neg k6, if_neg k7, if_neg k25, if_neg k1049]
     rw [e]
     clear h f e
     go_enter Tryz.func83, Tryz.ntmps83
     go_wp2_with fail
     go_end0
     exact ⟨⟨_, rfl⟩, H.out⟩
end
end
section
open Go Go.RowKit Go.Sort
section
variable {w0 : World} {F0 : List Nat} {tb : Nat} {t t' : Trm} {W W' : World} {L : Lay}
def bysV (l : List Int) : List Value := l.map (.int .u8)
theorem bysV_len (l : List Int) : (bysV l).length = l.length := by unfold bysV; rw [List.length_map]
theorem strc_bys (s : ByteArray) : Lib.strCells s = bysV (byL s) := by
 unfold Lib.strCells bysV byL
 rw [List.map_map]
 rfl
theorem VZ (s : ByteArray) : (byL s).length = s.size := by unfold byL; rw [List.length_map, Array.length_toList]; rfl
theorem byL_rng (s : ByteArray) : ∀ x ∈ byL s, 0 <= x /\ x < 256 := fun x m => by
 unfold byL at m
 obtain ⟨b, _, rfl⟩ := List.mem_map.1 m
 have := b.toNat_lt
 omega
theorem KeptAt.seesB {W : World} {v : Value} {s : ByteArray} (h : KeptAt W v s) : ∃ A c, v = .slice A s.size c /\ s.size <= c /\ Sees W W.heap.size A (bysV (byL s)) := by
 obtain ⟨A, c, rfl, h1, h2, h3, h4⟩ := h
 refine ⟨A, c, rfl, h1, fun ne => ?_⟩
 have l0 : 0 < s.size := by
  rw [<- VZ, <- bysV_len]
  exact List.length_pos_iff.2 ne
 obtain ⟨g, o, cur, rfl, hg, ho, hc⟩ := h4 (by omega)
 exact ⟨_, rfl, (Array.getElem?_eq_some_iff.1 hg).1, fun j u hj => kS hg hc j u (by rw [strc_bys]; exact hj)⟩
theorem zaa (w : World) (x : Value) (T : TypeId) : ∀ (j : Nat) (u : Value), [x][j]? = some u -> (w.alloc (.cells #[x] T)).cell? ((⟨w.heap.size, 0, none⟩ : Addr).add j) = some u := by
 intro j u hj
 cases j with
 | succ j => simp at hj
 | zero =>
  have : u = x := by simpa using hj.symm
  subst this
  have := World.alloc_heap_new w (.cells #[u] T)
  rw [jf]
  simp only [World.cell?, this]
  rfl
theorem kT {w : World} {base n sz b i : Nat} {T : TypeId} {v y : Value} {xs : List Value} (h : w.ownsRow base T sz v n xs) (hb : b < base) : (w.setCell ⟨b, i, none⟩ y).ownsRow base T sz v n xs := ownsRow_setCell_below h (a := ⟨b, i, none⟩) hb y
structure PsAt (W0 : World) (LO b2 b3 : Nat) (D : List Int) (p : Int) (wr : World) (k : Nat) (x : Int) (q : List Int) (vd : Bool) (v : Value) : Prop where
 box : C3 wr b3 (.int .u8 p) v (.bool vd)
 res : C3 wr b2 (.int .u8 0) (.slice none 0 0) (.bool false)
 row : wr.ownsRow LO 3 1 v q.length (ints q)
 bel : Below W0.heap.size W0 wr
 lo : LO <= wr.heap.size
 x0 : 0 <= x /\ x <= 9999
 ql : q.length <= k
 qr : ∀ y ∈ q, 0 <= y /\ y <= 9999
 eq : jy (D.drop k) x q vd = jy D 0 [] false
theorem Jj (c : Int) : digB c = true ↔ 48 <= c /\ c <= 57 := by unfold digB; rw [Bool.and_eq_true, decide_eq_true_eq, decide_eq_true_eq]
theorem Jk (D : List Int) (k : Nat) (h : k < D.length) : D.drop k = D.getD k 0 :: D.drop (k + 1) := by
 rw [List.drop_eq_getElem_cons h, List.getD_eq_getElem?_getD, List.getElem?_eq_getElem h]; rfl
section
variable {W0 wr : World} {LO b2 b3 k : Nat} {D : List Int} {p x : Int} {q : List Int} {vd : Bool} {v : Value}
theorem PsAt.dig (h : PsAt W0 LO b2 b3 D p wr k x q vd v) (hk : k < D.length) (c0 : 48 <= D.getD k 0) (c1 : D.getD k 0 <= 57) : PsAt W0 LO b2 b3 D p wr (k + 1) (min (10 * x + (D.getD k 0 - 48)) 9999) q vd v := by
 have e := h.eq
 rw [Jk D k hk, jy, if_pos ((Jj _).2 ⟨c0, c1⟩)] at e
 exact ⟨h.box, h.res, h.row, h.bel, h.lo, by have := h.x0; omega, by have := h.ql; omega, h.qr, e⟩
theorem PsAt.void (h : PsAt W0 LO b2 b3 D p wr k x q vd v) (n3 : b2 ≠ b3) (l3 : b3 < LO) (h3 : W0.heap.size <= b3) (hk : k < D.length) (c0 : ¬ (48 <= D.getD k 0 /\ D.getD k 0 <= 57)) (c1 : D.getD k 0 ≠ 59) : PsAt W0 LO b2 b3 D p (wr.setCell ⟨b3, 2, none⟩ (.bool true)) (k + 1) x q true v := by
 have e := h.eq
 rw [Jk D k hk, jy, if_neg (fun z => c0 ((Jj _).1 z)), if_neg c1] at e
 exact ⟨h.box.set2 _, h.res.far n3, kT h.row l3, Below.setCell h.bel (p := ⟨b3, 2, none⟩) h3 _, by simp [h.lo], h.x0, by have := h.ql; omega, h.qr, e⟩
theorem PsAt.grow {w3 : World} {v' : Value} (h : PsAt W0 LO b2 b3 D p wr k x q vd v) (n3 : b2 ≠ b3) (l2 : b2 < LO) (l3 : b3 < LO) (h3 : W0.heap.size <= b3) (hb0 : W0.heap.size <= LO) (T : TypeId) (hown : w3.ownsRow LO 3 1 v' (q.length + 1) (ints q ++ [.int .i64 x])) (hg : (wr.alloc (.cells #[.int .i64 x] T)).grownBy w3 v.ownBlock) :
  C3 w3 b3 (.int .u8 p) v (.bool vd) /\ C3 (w3.setCell ⟨b3, 1, none⟩ v') b3 (.int .u8 p) v' (.bool vd) /\ C3 (w3.setCell ⟨b3, 1, none⟩ v') b2 (.int .u8 0) (.slice none 0 0) (.bool false) /\ (w3.setCell ⟨b3, 1, none⟩ v').ownsRow LO 3 1 v' (q ++ [x]).length (ints (q ++ [x])) /\ Below W0.heap.size W0 (w3.setCell ⟨b3, 1, none⟩ v') /\ LO <= (w3.setCell ⟨b3, 1, none⟩ v').heap.size := by
 have hB : Below LO wr w3 := ((Below.refl _ wr).alloc h.lo _).grown hg (by have := h.lo; simp; omega) (fun g hg2 => (h.row.lt g hg2).1)
 have e : ints (q ++ [x]) = ints q ++ [.int .i64 x] := by unfold ints; simp
 have bx := h.box.keep hB l3
 refine ⟨bx, bx.set1 v', (h.res.keep hB l2).far n3, ?_, Below.setCell (h.bel.trans (hB.mono hb0)) (p := ⟨b3, 1, none⟩) h3 _, ?_⟩
 ·rw [e, List.length_append]
  exact kT hown l3
 ·have := hB.size
  have := h.lo
  simp
  omega
theorem PsAt.res3 {w3 : World} (h : PsAt W0 LO b2 b3 D p wr k x q vd v) (l2 : b2 < LO) (T : TypeId) (hg : (wr.alloc (.cells #[.int .i64 x] T)).grownBy w3 v.ownBlock) : C3 w3 b2 (.int .u8 0) (.slice none 0 0) (.bool false) :=
 h.res.keep (((Below.refl _ wr).alloc h.lo _).grown hg (by have := h.lo; simp; omega) (fun g hg2 => (h.row.lt g hg2).1)) l2
theorem PsAt.push {w3 : World} {v' : Value} (h : PsAt W0 LO b2 b3 D p wr k x q vd v) (n3 : b2 ≠ b3) (l2 : b2 < LO) (l3 : b3 < LO) (h3 : W0.heap.size <= b3) (hb0 : W0.heap.size <= LO) (T : TypeId) (hown : w3.ownsRow LO 3 1 v' (q.length + 1) (ints q ++ [.int .i64 x])) (hg : (wr.alloc (.cells #[.int .i64 x] T)).grownBy w3 v.ownBlock) (hk : k < D.length) (c : D.getD k 0 = 59) :
  PsAt W0 LO b2 b3 D p (w3.setCell ⟨b3, 1, none⟩ v') (k + 1) 0 (q ++ [x]) vd v' := by
 obtain ⟨_, a1, a2, a3, a4, a5⟩ := h.grow n3 l2 l3 h3 hb0 T hown hg
 have e := h.eq
 rw [Jk D k hk, jy, if_neg (fun z => by have := (Jj _).1 z; omega), if_pos c] at e
 refine ⟨a1, a2, a3, a4, a5, by decide, by have := h.ql; simp; omega, fun y m => ?_, e⟩
 rcases List.mem_append.1 m with m | m
 ·exact h.qr y m
 ·rw [List.mem_singleton.1 m]; exact h.x0
end
end
end
section
open Go Go.RowKit Go.Sort
theorem zab : (Tryz.prog.info? 3).map (fun i => (i.zero, i.size, i.bytes)) = some (some (.int .i64 0), 1, 8) := by kernel_rfl
def headP (D : List Int) : Int := if 60 <= D.getD 0 0 then D.getD 0 0 else 0
def ke (D : List Int) : List Int := if 60 <= D.getD 0 0 then D.drop 1 else D
theorem zcQ (s : ByteArray) : xh s = ⟨headP (byL s), (jy (ke (byL s)) 0 [] false).1.take 32, (jy (ke (byL s)) 0 [] false).2⟩ := rfl
theorem zcR (D : List Int) : (ke D).length <= D.length := by
 unfold ke
 split
 ·rw [List.length_drop]; omega
 ·exact zdA
theorem zcS (D : List Int) (h : ∀ x ∈ D, 0 <= x /\ x < 256) : ∀ x ∈ ke D, 0 <= x /\ x < 256 := fun x m => by
 unfold ke at m
 split at m
 ·exact h x (List.mem_of_mem_drop m)
 ·exact h x m
theorem zac (w : World) (LO : Nat) : w.ownsRow LO 3 1 (.slice none 0 0) 0 (ints []) := ⟨rfl, Or.inl ⟨rfl, rfl⟩⟩
theorem ZB {fn : Func} {p : Tmp} {ty : TypeId} (h : fn.results = #[.cell p ty]) (tmps : Array Value) (P : Program) (w : World) :
  (results fn tmps).run P w = ((asAddr (tmps.getD p undef)).run P w).andThen fun a w₁ => (loadVar ty a).run P w₁ := by
 simp only [results, h]
 simp [Sem.run_bind, Result.andThen]
theorem own_pos {w : World} {base n : Nat} {T : TypeId} {v : Value} {xs : List Value} (h : w.ownsRow base T 1 v (n + 1) xs) : ∃ g c, v = .slice (some ⟨g, 0, none⟩) (n + 1) c /\ n + 1 <= c := by
 rcases (kG h).2 with ⟨_, z⟩ | ⟨g, c, rfl, _, _, z, _⟩
 ·omega
 ·exact ⟨g, c, rfl, z⟩
theorem zcT (l : List Int) (m : Nat) : (ints l).take m = ints (l.take m) := by unfold ints; rw [List.map_take]
theorem num_end {w : World} {LO g c m : Nat} {l : List Int} {p : Int} {vd : Bool} (ho : w.ownsRow LO 3 1 (.slice (some ⟨g, 0, none⟩) l.length c) l.length (ints l)) (hm : m = min l.length 32) (hl : 0 < l.length) (hr : ∀ y ∈ l, 0 <= y /\ y <= 9999) : NumAt w ⟨p, l.take 32, vd⟩ (some ⟨g, 0, none⟩) c := by
  have h1 := own_take (m := m) ho (by omega)
  have e : l.take 32 = l.take m := by rw [hm]; rcases Nat.le_total l.length 32 with z | z
                                      · rw [Nat.min_eq_left z, List.take_of_length_le z, List.take_of_length_le zdA]
                                      · rw [Nat.min_eq_right z]
  rw [zcT, <- e] at h1
  have lm : (l.take 32).length = m := by rw [List.length_take]; omega
  obtain ⟨cur, hc⟩ := xI (W := w) (T := 3) (sz := 1) (n := l.length) (cap := c) (g := g) (xs := ints l) (qG ho (Nat.zero_le _))
  have hcap : l.length <= c := by
    rcases (kG ho).2 with ⟨_, z⟩ | ⟨g', c', ev, _, _, z, _⟩
    · omega
    · cases ev; exact z
  exact ⟨Sees.of_own h1, by show (l.take 32).length <= c; omega, by show (l.take 32).length <= 32; omega, fun y m => hr y (List.mem_of_mem_take m), fun a e => by cases e; exact ⟨_, _, hc⟩⟩
set_option maxHeartbeats 8000000 in
set_option maxRecDepth 100000 in
theorem t_parse (W : World) (v : Value) (s : ByteArray) (K : KeptAt W v s) (hs : s.size <= 310000000) : Calls Tryz.prog 82 #[v] W fun e w' => ∃ A c, e = .returned (numV (xh s) A c) /\ Below W.heap.size W w' /\ NumAt w' (xh s) A c := by
 obtain ⟨A0, c0, rfl, hc0, SE⟩ := K.seesB
 have PN := zdy (zcQ s)
 obtain ⟨N, hN⟩ : ∃ N, N = xh s := ⟨_, rfl⟩
 rw [<- hN] at PN ⊢
 obtain ⟨D0, hD0⟩ : ∃ D0, D0 = byL s := ⟨_, rfl⟩
 have n0 := VZ s
 have r0 := byL_rng s
 rw [<- hD0] at PN n0 r0 SE
 rw [<- n0] at hc0 hs ⊢
 clear hN hD0 n0 K
 have TL := zcR D0
 have R0 := zdy r0
 have TR := zdy (zcS D0 r0)
 obtain ⟨D, hD⟩ : ∃ D, D = ke D0 := ⟨_, rfl⟩
 obtain ⟨p, hp⟩ : ∃ p, p = headP D0 := ⟨_, rfl⟩
 rw [<- hD, <- hp] at PN
 rw [<- hD] at TL TR
 have HD := zdy hD
 have HP := zdy hp
 have SE := zdy SE
 clear hD hp r0
 go_enter Tryz.func82, Tryz.ntmps82
 go_upto_region 2 with fail
 obtain ⟨b2, e2⟩ : ∃ b, b = W.heap.size := ⟨_, rfl⟩
 obtain ⟨b3, e3⟩ : ∃ b, b = W.heap.size + 1 := ⟨_, rfl⟩
 have K2 : C3 (W.alloc (.cells #[.int .u8 0, .slice none 0 0, .bool false] 129)) W.heap.size (.int .u8 0) (.slice none 0 0) (.bool false) := by constructor <;> simp [go_sem]
 have K3 : C3 ((W.alloc (.cells #[.int .u8 0, .slice none 0 0, .bool false] 129)).alloc (.cells #[.int .u8 0, .slice none 0 0, .bool false] 129)) (W.heap.size + 1) (.int .u8 0) (.slice none 0 0) (.bool false) := by constructor <;> simp [go_sem]
 have K2 := K2.alloc (.cells #[.int .u8 0, .slice none 0 0, .bool false] 129)
 obtain ⟨W2, hW2⟩ : ∃ W2, W2 = (W.alloc (.cells #[.int .u8 0, .slice none 0 0, .bool false] 129)).alloc (.cells #[.int .u8 0, .slice none 0 0, .bool false] 129) := ⟨_, rfl⟩
 have z2 : W2.heap.size = W.heap.size + 2 := by rw [hW2]; simp
 have B2 : Below W.heap.size W W2 := by rw [hW2]; exact ((Below.refl _ W).alloc zdA _).alloc (by simp) _
 have sz1 : (W.alloc (.cells #[.int .u8 0, .slice none 0 0, .bool false] 129)).heap.size = b3 := by rw [e3]; simp
 first | rw [sz1] | skip
 rw [<- hW2] at K2 K3
 rw [<- hW2]
 rw [<- e2] at K2
 rw [<- e3] at K3
 rw [<- e3, <- e2]
 have n3 : b2 ≠ b3 := by omega
 have l2 : b2 < W2.heap.size := by omega
 have l3 : b3 < W2.heap.size := by omega
 have h3 : W.heap.size <= b3 := by omega
 have hb0 : W.heap.size <= W2.heap.size := by omega
 have SE0 := SE
 have SE := zdy (SE.out.below B2 zdA)
 have BB := zdy B2
 have B2L : Hid (W.heap.size <= b2) := zdy (by omega)
 obtain ⟨LO, hLO⟩ : ∃ LO, LO = W2.heap.size := ⟨_, rfl⟩
 rw [<- hLO] at l2 l3 hb0
 have FX := zdy (And.intro n3 (And.intro l2 (And.intro l3 (And.intro h3 hb0))))
 have Z := zdy (And.intro K2 (And.intro K3 (And.intro B2 hLO)))
 have k0 := K3.c0
 have kf0 := K3.f0
 clear K2 K3 B2 e2 e3 hW2 z2 sz1 n3 l2 l3 h3 hb0 hLO
 go_cut [15] (fun s15 wx => s15 = .bool (decide (60 <= D0.getD 0 0)) /\ wx = W2)
 case first =>
  clear Z PN k0 kf0
  cases D0 with
  | nil =>
   simp only [List.length_nil]
   go_wp2_with fail
   go_meet
   exact ⟨rfl, rfl⟩
  | cons h r =>
   obtain ⟨ad, eA, hbl, hcell⟩ := SE.out (by unfold bysV; simp)
   subst eA
   have y0 : W2.cell? ad = some (.int .u8 h) := by have := hcell 0 (.int .u8 h) rfl; simpa [go_sem] using this
   have ln : (h :: r).length = r.length + 1 := rfl
   rw [ln] at hc0 hs TL ⊢
   have nn : (0 : Int) < (r.length : Int) + 1 := by omega
   by_cases h60 : 60 <= h
   ·go_wp2_with fail
    go_meet
    exact ⟨by show _ = Value.bool (decide (60 <= h)); rw [decide_eq_true h60], rfl⟩
   ·go_wp2_with fail
    go_meet
    exact ⟨by show _ = Value.bool (decide (60 <= h)); rw [decide_eq_false (by omega)], rfl⟩
 case rest =>
 obtain ⟨e15, eW⟩ := hcut
 subst e15
 rw [eW]
 clear eW
 go_upto_if 15 with fail
 go_cut [0] (fun s0 wx => Hid (∃ A' c', s0 = .slice A' D.length c' /\ Sees W W.heap.size A' (bysV D) /\ PsAt W LO b2 b3 D p wx 0 0 [] false (.slice none 0 0)))
 case first =>
  have OK0 : Hid (∀ p', PsAt W LO b2 b3 D p' (W2.setCell ⟨b3, 0, none⟩ (.int .u8 p')) 0 0 [] false (.slice none 0 0)) := zdy (fun p' => ⟨Z.out.2.1.set0 _, Z.out.1.far FX.out.1, zac _ _, Below.setCell Z.out.2.2.1 (p := ⟨b3, 0, none⟩) FX.out.2.2.2.1 _, by rw [Z.out.2.2.2]; simp, by decide, Nat.zero_le _, by simp, by rw [List.drop_zero]⟩)
  have OK1 : Hid (PsAt W LO b2 b3 D 0 W2 0 0 [] false (.slice none 0 0)) := zdy ⟨Z.out.2.1, Z.out.1, zac _ _, Z.out.2.2.1, by rw [Z.out.2.2.2]; exact zdA, by decide, Nat.zero_le _, by simp, by rw [List.drop_zero]⟩
  clear Z PN
  cases D0 with
  | nil =>
   have eD : D = [] := HD.out
   have eP : p = 0 := HP.out
   subst eD eP
   simp only [List.length_nil]
   have t9 : decide (60 <= ([] : List Int).getD 0 0) = false := rfl
   rw [t9]
   clear k0 kf0
   go_wp2_with fail
   go_meet
   exact zdy ⟨_, _, rfl, Sees.nil _ _ _, OK1.out⟩
  | cons h r =>
   obtain ⟨ad, eA, hbl, hcell⟩ := SE0.out (by unfold bysV; simp)
   subst eA
   have y0 : W2.cell? ad = some (.int .u8 h) := by have := (BB.out.cell (by rw [z8]; exact hbl)).trans (hcell 0 (.int .u8 h) rfl); simpa [go_sem] using this
   have ln : (h :: r).length = r.length + 1 := rfl
   rw [ln] at hc0 hs TL ⊢
   have nn : (0 : Int) < (r.length : Int) + 1 := by omega
   obtain ⟨C, rfl⟩ : ∃ C, c0 = C + 1 := ⟨c0 - 1, by omega⟩
   by_cases h60 : 60 <= h
   ·have eD : D = r := by rw [HD.out]; exact if_pos h60
    have eP : p = h := by rw [HP.out]; exact if_pos h60
    subst eD eP
    have SR : Hid (∀ A', (D ≠ [] -> A' = some (ad.add 1)) -> Sees W W.heap.size A' (bysV D)) := zdy (fun A' e ne => ⟨ad.add 1, e (fun z => ne (by rw [z]; rfl)), by rw [z8]; exact hbl, fun j u hj => by
     have := hcell (1 + j) u (by rw [Nat.add_comm]; exact hj)
     rw [Addr.add_add]
     exact this⟩)
    have t9 : decide (60 <= (p :: D).getD 0 0) = true := decide_eq_true h60
    rw [t9]
    by_cases cz : C = 0
    ·subst cz
     have lz : D.length = 0 := by omega
     go_wp2_with fail
     go_meet
     exact zdy ⟨some ad, 0, by rw [lz], SR.out _ (fun z => absurd (List.eq_nil_of_length_eq_zero lz) z), OK0.out _⟩
    ·have cp : 0 < C := by omega
     go_wp2_with fail
     go_meet
     exact zdy ⟨_, _, rfl, SR.out _ (fun z => rfl), OK0.out _⟩
   ·have eD : D = h :: r := by rw [HD.out]; exact if_neg h60
    have eP : p = 0 := by rw [HP.out]; exact if_neg h60
    subst eD eP
    have t9 : decide (60 <= (h :: r).getD 0 0) = false := decide_eq_false h60
    rw [t9]
    clear kf0 k0
    go_wp2_with fail
    go_meet
    exact zdy ⟨_, _, rfl, SE0.out, OK1.out⟩
 case rest =>
  obtain ⟨A', c', e0, S, PS⟩ := hcut.out
  subst e0
  have S := zdy S
  have PS := zdy PS
  obtain ⟨W3, hW3⟩ : ∃ W3, W3 = wc := ⟨_, rfl⟩
  rw [<- hW3] at PS
  rw [<- hW3]
  clear hW3 hcut SE SE0 BB Z k0 kf0
  go_wp2_with fail
  go_loopw [4, 24] (fun s4 s24 wr => ∃ (k : Nat) (x : Int), k <= D.length /\ s4 = .int .i64 x /\ s24 = .int .i64 (k : Int) /\ Hid (∃ q vd v, PsAt W LO b2 b3 D p wr k x q vd v)) (fun _ i _ => D.length - (intOf i).toNat)
  case atStart => exact ⟨0, 0, Nat.zero_le _, rfl, by simp, zdy ⟨_, _, _, PS.out⟩⟩
  case round =>
   obtain ⟨k, x, hk2, rfl, rfl, hr⟩ := hrel
   obtain ⟨q, vd, v, PA⟩ := hr.out
   have PA := zdy PA
   have SW := zdy (S.out.below PA.out.bel zdA)
   have kl := hk2
   clear hr PS
   by_cases lt : k < D.length
   ·obtain ⟨c, hc⟩ : ∃ c, c = D.getD k 0 := ⟨_, rfl⟩
    have cr := TR.out c (by rw [hc, List.getD_eq_getElem?_getD, List.getElem?_eq_getElem lt]; exact List.getElem_mem lt)
    obtain ⟨ad, eA, hbl, hcell⟩ := SW.out (by unfold bysV; intro z; rw [List.map_eq_nil_iff] at z; rw [z] at lt; cases lt)
    have y := hcell k (.int .u8 c) (by unfold bysV; rw [List.getElem?_map, List.getElem?_eq_getElem lt, hc, List.getD_eq_getElem?_getD, List.getElem?_eq_getElem lt]; rfl)
    subst eA
    have HC := zdy hc
    have q0 : (0 : Int) <= (k : Int) := by omega
    have q5 : (k : Int) < (D.length : Int) := by omega
    have tn : (k : Int).toNat = k := by omega
    have dl : (D.length : Int) <= 310000000 := by omega
    have wk := zdz ((k : Int) + 1) (by omega)
    clear hcell hc
    by_cases dg : 48 <= c /\ c <= 57
    ·obtain ⟨d0, d1⟩ := dg
     have X0 := PA.out.x0
     have w1 : IntKind.u8.wrap (c - 48) = c - 48 := by show (c - 48) % (256 : Int) = _; omega
     have w2 := zdz (10 * x) (by omega)
     have w3 := zdz (c - 48) (by omega)
     have w4 := zdz (10 * x + (c - 48)) (by omega)
     have P2 := PA.out.dig lt (by rw [<- HC.out]; exact d0) (by rw [<- HC.out]; exact d1)
     rw [<- HC.out] at P2
     have P2 := zdy P2
     clear PA X0 SW S
     go_wp2_with fail
     go_roundw
     case rel => exact ⟨k + 1, _, by omega, rfl, by go_num, zdy ⟨_, _, _, P2.out⟩⟩
     case measure => simp [intOf]; omega
    ·obtain ⟨Av, cv, ev⟩ := qU PA.out.row
     subst ev
     have PB := PA.out.box
     have k1 := PB.c1
     have k2 := PB.c2
     have kf1 := PB.f1
     have kf2 := PB.f2
     clear PB
     by_cases c59 : c = 59
     ·subst c59
      have HO := zdy (PA.out.row.alloc (.cells #[.int .i64 x] 3))
      have QL : q.length <= 310000000 := by have := PA.out.ql; omega
      have O1 : Hid (∀ u ∈ [Value.int .i64 x], u.oneCell' = true) := zdy (by intro u hu; simp at hu; subst hu; rfl)
      have H2 : q.length + 1 <= maxLen := by unfold maxLen; omega
      have H3 : (q.length + 1) * 8 <= 140737488355328 := by omega
      have H4 : LO <= (wr.alloc (.cells #[.int .i64 x] 3)).heap.size := by have := PA.out.lo; simp; omega
      have PX : Hid (∀ w3 A3 c3, w3.ownsRow LO 3 1 (.slice A3 (q.length + 1) c3) (q.length + 1) (ints q ++ [.int .i64 x]) -> (wr.alloc (.cells #[.int .i64 x] 3)).grownBy w3 (Value.slice Av q.length cv).ownBlock -> w3.cell? ⟨b3, 1, none⟩ = some (.slice Av q.length cv) /\ w3.frozen? ⟨b3, 1, none⟩ = false /\ PsAt W LO b2 b3 D p (w3.setCell ⟨b3, 1, none⟩ (.slice A3 (q.length + 1) c3)) (k + 1) 0 (q ++ [x]) vd (.slice A3 (q.length + 1) c3)) := zdy (fun w3 A3 c3 ho hg => by
       obtain ⟨f1, f2, f3, f4, f5⟩ := FX.out
       have G := PA.out.grow f1 f2 f3 f4 f5 3 ho hg
       exact ⟨G.1.c1, G.1.f1, PA.out.push f1 f2 f3 f4 f5 3 ho hg lt HC.out.symm⟩)
      obtain ⟨i0, hi0, hz0, hz1, hz2⟩ := info_parts zab
      clear PA SW S k2 kf2
      go_wp2_with (at_builtin; refine wpList_append_own _ rfl (.tmp 47) (.tmp 49) 127 rfl LO 3 i0 (.int .i64 0) 1 8 Tryz.underlying127 hi0 hz0 hz1 hz2 rfl (by decide) _ _ _ rfl HO.out ⟨wr.heap.size, 0, none⟩ 1 1 [.int .i64 x] rfl rfl (zaa _ _ _) O1.out H2 H3 H4 ?_; intro v' w3 hown3 hg3 _; obtain ⟨A3, c3, rfl⟩ := qU hown3; obtain ⟨g1, g2, g3⟩ := PX.out w3 A3 c3 hown3 hg3; have G3 := zdy g3; clear g3 hown3 hg3 PX k1 kf1 HO)
      go_roundw
      case rel => exact ⟨k + 1, _, by omega, rfl, by go_num, zdy ⟨_, _, _, G3.out⟩⟩
      case measure => simp [intOf]; omega
     ·have P2 := zdy (PA.out.void FX.out.1 FX.out.2.2.1 FX.out.2.2.2.1 lt (by rw [<- HC.out]; exact dg) (by rw [<- HC.out]; exact c59))
      clear PA SW S k1 kf1
      by_cases d0 : 48 <= c
      ·have d1 : ¬ c <= 57 := by omega
       go_wp2_with fail
       go_roundw
       case rel => exact ⟨k + 1, _, by omega, rfl, by go_num, zdy ⟨_, _, _, P2.out⟩⟩
       case measure => simp [intOf]; omega
      ·go_wp2_with fail
       go_roundw
       case rel => exact ⟨k + 1, _, by omega, rfl, by go_num, zdy ⟨_, _, _, P2.out⟩⟩
       case measure => simp [intOf]; omega
   ·have ek : k = D.length := by omega
    subst ek
    have q5 : ¬ (D.length : Int) < (D.length : Int) := by omega
    obtain ⟨Av, cv, ev⟩ := qU PA.out.row
    subst ev
    have PB := PA.out.box
    have k0 := PB.c0
    have k1 := PB.c1
    have k2 := PB.c2
    have kf1 := PB.f1
    clear PB
    have NE : Hid (N = ⟨p, (q ++ [x]).take 32, vd⟩) := zdy (by
     have e := PA.out.eq
     rw [List.drop_length] at e
     rw [PN.out, <- e]
     rfl)
    have HO := zdy (PA.out.row.alloc (.cells #[.int .i64 x] 3))
    have QL : q.length <= 310000000 := by have := PA.out.ql; omega
    have O1 : Hid (∀ u ∈ [Value.int .i64 x], u.oneCell' = true) := zdy (by intro u hu; simp at hu; subst hu; rfl)
    have H2 : q.length + 1 <= maxLen := by unfold maxLen; omega
    have H3 : (q.length + 1) * 8 <= 140737488355328 := by omega
    have H4 : LO <= (wr.alloc (.cells #[.int .i64 x] 3)).heap.size := by have := PA.out.lo; simp; omega
    obtain ⟨m, hm⟩ : ∃ m, m = min (q ++ [x]).length 32 := ⟨_, rfl⟩
    have lq : (q ++ [x]).length = q.length + 1 := by simp
    have hm1 : m <= q.length + 1 := by omega
    have hm2 : (min ((q.length : Int) + 1) 32) = (m : Int) := by omega
    have hm3 : m = min (q.length + 1) 32 := by omega
    have PX : Hid (∀ w3 g c3, w3.ownsRow LO 3 1 (.slice (some ⟨g, 0, none⟩) (q.length + 1) c3) (q.length + 1) (ints q ++ [.int .i64 x]) -> (wr.alloc (.cells #[.int .i64 x] 3)).grownBy w3 (Value.slice Av q.length cv).ownBlock -> C3 w3 b3 (.int .u8 p) (.slice Av q.length cv) (.bool vd) /\ C3 w3 b2 (.int .u8 0) (.slice none 0 0) (.bool false) /\ ∀ y0 y1 y2 y3, Below W.heap.size W (((((w3.setCell ⟨b3, 1, none⟩ (.slice (some ⟨g, 0, none⟩) (q.length + 1) c3)).setCell ⟨b3, 1, none⟩ y0).setCell ⟨b2, 0, none⟩ y1).setCell ⟨b2, 1, none⟩ y2).setCell ⟨b2, 2, none⟩ y3) /\ NumAt (((((w3.setCell ⟨b3, 1, none⟩ (.slice (some ⟨g, 0, none⟩) (q.length + 1) c3)).setCell ⟨b3, 1, none⟩ y0).setCell ⟨b2, 0, none⟩ y1).setCell ⟨b2, 1, none⟩ y2).setCell ⟨b2, 2, none⟩ y3) N (some ⟨g, 0, none⟩) c3) := zdy (fun w3 g c3 ho hg => by
     obtain ⟨f1, f2, f3, f4, f5⟩ := FX.out
     obtain ⟨a0, a1, a2, a3, a4, a5⟩ := PA.out.grow f1 f2 f3 f4 f5 3 ho hg
     refine ⟨a0, PA.out.res3 f2 3 hg, fun y0 y1 y2 y3 => ⟨?_, ?_⟩⟩
     ·exact Below.setCell (Below.setCell (Below.setCell (Below.setCell a4 (p := ⟨b3, 1, none⟩) f4 _) (p := ⟨b2, 0, none⟩) B2L.out _) (p := ⟨b2, 1, none⟩) B2L.out _) (p := ⟨b2, 2, none⟩) B2L.out _
     ·rw [NE.out]
      rw [<- lq] at a3 ⊢
      exact num_end (kT (kT (kT (kT a3 f3) f2) f2) f2) hm (by omega) (fun y my => by
       rcases List.mem_append.1 my with z | z
       ·exact PA.out.qr y z
       ·rw [List.mem_singleton.1 z]; exact PA.out.x0))
    obtain ⟨i0, hi0, hz0, hz1, hz2⟩ := info_parts zab
    have LN : Hid (N.list.length = m /\ N.prefix_ = p /\ N.void = vd) := zdy (by rw [NE.out]; exact ⟨by show ((q ++ [x]).take 32).length = m; rw [List.length_take]; omega, rfl, rfl⟩)
    have n3 := FX.out.1
    have n3' := FX.out.1.symm
    clear PA SW S hm lq hm3 PN NE
    go_wp2_with (at_builtin; refine wpList_append_own _ rfl (.tmp 54) (.tmp 56) 127 rfl LO 3 i0 (.int .i64 0) 1 8 Tryz.underlying127 hi0 hz0 hz1 hz2 rfl (by decide) _ _ _ rfl HO.out ⟨wr.heap.size, 0, none⟩ 1 1 [.int .i64 x] rfl rfl (zaa _ _ _) O1.out H2 H3 H4 ?_; intro v' w3 hown3 hg3 _; obtain ⟨g3, c3, rfl, hc3⟩ := own_pos hown3; obtain ⟨g1, g2, g4⟩ := PX.out w3 g3 c3 hown3 hg3; have j0 := g1.c0; have j1 := g1.c1; have j2 := g1.c2; have jf1 := g1.f1; have i0' := g2.c0; have i1' := g2.c1; have i2' := g2.c2; have if0' := g2.f0; have if1' := g2.f1; have if2' := g2.f2; have G4 := zdy g4; clear g1 g2 g4 hown3 hg3 PX k1 k0 k2 kf1 HO)
    obtain ⟨l1, l2, l3⟩ := LN.out
    (try simp only [Exit.inBlock, Exit.then])
    refine bodyPost_ret (v := .agg #[.int .u8 p, .slice (some ⟨g3, 0, none⟩) m c3, .bool vd]) (by rw [ZB rfl]; go_simp) rfl ?_
    obtain ⟨r1, r2⟩ := G4.out _ _ _ _
    exact ⟨_, _, by unfold numV; rw [l1, l2, l3], r1, r2⟩
end
section
open Go Go.RowKit Go.Sort
section
variable {w0 : World} {F0 : List Nat} {tb : Nat} {t t' : Trm} {W W' : World} {L : Lay}
theorem KeptAt.none (W : World) : KeptAt W (.slice none 0 0) zB := ⟨_, _, rfl, zdA, by unfold maxLen; omega, fun _ => rfl, fun h => absurd h (Nat.lt_irrefl _)⟩
def noH (t : Trm) : Trm := { t with held := zB }
theorem TrmAt.noH (T : TrmAt W L t) : TrmAt (W.setCell ⟨L.b, 29, none⟩ (.slice none 0 0)) { L with h := .slice none 0 0 } (noH t) := by
 have far : ∀ g, g ≠ L.b -> (W.setCell ⟨L.b, 29, none⟩ (.slice none 0 0)).heap[g]? = W.heap[g]? := fun g hg => heap_setCell_other W ⟨L.b, 29, none⟩ g _ hg
 have o := T.own.set 29 (.slice none 0 0)
 refine ⟨o, ?_, ?_, ?_, ?_, ?_, ?_, KeptAt.none _, ?_, T.ca, T.sw, fun g _ m => (by simp [ob] at m), T.rk, fun g m => (by simp [ob] at m)⟩
 ·obtain ⟨_, k⟩ := T.utf.kind; exact T.utf.keep (far _ (T.own.ne k (by decide)))
 ·exact T.c.keep (fun g m => by obtain ⟨cur, k⟩ := T.c.kind g m; exact far g (T.own.ne k (by decide)))
 ·exact T.a.keep (fun g m => by obtain ⟨cur, k⟩ := T.a.kind g m; exact far g (T.own.ne k (by decide)))
 ·exact T.s.keep (fun g m => by obtain ⟨cur, k⟩ := T.s.kind g m; exact far g (T.own.ne k (by decide)))
 ·exact T.w.keep (fun g m => by obtain ⟨cur, k⟩ := T.w.kind g m; exact far g (T.own.ne k (by decide)))
 ·exact T.r.keep (fun g m => by obtain ⟨cur, k⟩ := T.r.kind g m; exact far g (T.own.ne k (by decide)))
 ·exact T.k.keep (fun g m => by obtain ⟨cur, k⟩ := T.k.kind g m; exact far g (T.own.ne k (by decide)))
theorem St.noH (h : St w0 F0 tb t W) : St w0 F0 tb (noH t) (W.setCell ⟨tb, 29, none⟩ (.slice none 0 0)) := by
 obtain ⟨L, rfl, T, hf⟩ := h.lay
 refine ⟨h.g0, h.mv.trans (Mv.set (F := [L.b]) W (by simp)) (by intro b hb; rw [List.mem_singleton.1 hb]; exact hf _ (Lay.mem.2 (by simp))), h.ng, { L with h := .slice none 0 0 }, rfl, T.noH, fun b hb => hf b (Lay.mem.2 ?_)⟩
 have := Lay.mem.1 hb
 simp only at this
 rcases this with q | q | q | q | q | q | q | q | q <;> first | (simp [ob] at q; done) | simp [q]
end
end
section
open Go Go.RowKit Go.Sort
theorem Jl : (Tryz.prog.info? 79).map (fun i => (i.zero.map (·.cells), i.size, i.bytes)) = some (some #[.string ⟨#[]⟩, .int .i8 0, .int .i32 0, .int .i32 0, .int .u8 0], 5, 32) := by kernel_rfl
def kg : Cel := ⟨⟨#[]⟩, 0, qI⟩
theorem zcU : celV kg = [.string ⟨#[]⟩, .int .i8 0, .int .i32 0, .int .i32 0, .int .u8 0] := rfl
theorem zad : ∀ (n j : Nat), j < n * 5 -> (zd (List.replicate n kg))[j]? = (celV kg)[j % 5]?
 | 0, j, h => by omega
 | n + 1, j, h => by
  rw [List.replicate_succ, jw]
  have l5 : (celV kg).length = 5 := rfl
  by_cases c : j < 5
  ·rw [List.getElem?_append_left (by omega), Nat.mod_eq_of_lt c]
  ·rw [List.getElem?_append_right (by omega), l5, zad n (j - 5) (by omega)]
   congr 1
   omega
theorem zcV (n : Nat) : (madeCells #[.string ⟨#[]⟩, .int .i8 0, .int .i32 0, .int .i32 0, .int .u8 0] (n * 5)).toList = zd (List.replicate n kg) := by
 refine List.ext_getElem? fun j => ?_
 by_cases c : j < n * 5
 ·rw [zad n j c, zcU]
  have m5 : j % 5 < 5 := Nat.mod_lt _ (by decide)
  unfold madeCells
  rw [Array.getElem?_toList, Array.getElem?_map, Array.getElem?_range, if_pos c]
  have e : j % 5 = 0 \/ j % 5 = 1 \/ j % 5 = 2 \/ j % 5 = 3 \/ j % 5 = 4 := by omega
  rcases e with e | e | e | e | e <;> simp [e]
 ·rw [List.getElem?_eq_none (by rw [Array.length_toList, size_madeCells]; omega), List.getElem?_eq_none (by rw [jF, List.length_replicate]; omega)]
theorem zcW (W : World) (n : Nat) (hn : n <= 1048576) : ∃ V, (Instr.makeSlice 49 (.int .i64 (n : Int)) (.int .i64 (n : Int))).run Tryz.prog W = .ok (.slice (some ⟨W.heap.size, 0, none⟩) n n) V /\ V.ownsRow 0 79 5 (.slice (some ⟨W.heap.size, 0, none⟩) n n) n (zd (List.replicate n kg)) /\ Below W.heap.size W V /\ W.heap.size < V.heap.size := by
 obtain ⟨i, hi, hzz⟩ := Option.map_eq_some_iff.1 Jl
 simp only [Prod.mk.injEq] at hzz
 obtain ⟨hz, hs, hb⟩ := hzz
 obtain ⟨z, hz1, hz2⟩ := Option.map_eq_some_iff.1 hz
 have r := run_make (P := Tryz.prog) W 49 79 i z Tryz.underlying49 hi hz1 .i64 .i64 (n : Int) (n : Int) (by omega) (Int.le_refl _) (by rw [hb]; omega) (by omega)
 rw [hz2, hs, Int.toNat_natCast] at r
 refine ⟨_, r, ⟨?_, Or.inr ⟨W.heap.size, n, _, rfl, Nat.zero_le _, World.alloc_heap_new W _, zdA, by unfold maxLen; omega, size_madeCells _ _, ?_⟩⟩, (Below.refl _ W).alloc zdA _, by simp⟩
 ·rw [jF, List.length_replicate]
 ·rw [zcV]
  exact List.take_of_length_le (by rw [jF, List.length_replicate]; omega)
def qR (n k : Nat) : List Cel := List.replicate k qB ++ List.replicate (n - k) kg
theorem zcX (n k : Nat) (h : k <= n) : (qR n k).length = n := by unfold qR; simp; omega
theorem zcY (n k : Nat) (h : k < n) : (qR n k).set k qB = qR n (k + 1) := by
 unfold qR
 rw [List.set_append_right _ _ (by simp), List.length_replicate, Nat.sub_self]
 obtain ⟨m, hm⟩ : ∃ m, n - k = m + 1 := ⟨n - k - 1, by omega⟩
 rw [hm, List.replicate_succ, List.set_cons_zero, show n - (k + 1) = m by omega, List.replicate_succ', List.append_assoc]
 rfl
theorem zcZ {W0 W : World} {g i : Nat} {c : Cel} (h : Below W0.heap.size W0 W) (hg : W0.heap.size <= g) : Below W0.heap.size W0 (put5 W g i c) := by
 unfold put5
 exact Below.setCell (Below.setCell (Below.setCell (Below.setCell (Below.setCell h (p := ⟨g, i * 5, none⟩) hg _) (p := ⟨g, i * 5 + 1, none⟩) hg _) (p := ⟨g, i * 5 + 2, none⟩) hg _) (p := ⟨g, i * 5 + 3, none⟩) hg _) (p := ⟨g, i * 5 + 4, none⟩) hg _
theorem zc0 : Gives 66 #[.agg #[.int .i32 0, .int .i32 0, .int .u8 0]] (.agg #[.string ⟨#[32]⟩, .int .i8 1, .int .i32 0, .int .i32 0, .int .u8 0]) := by
 have h := QZ qI
 rw [show zT qI = qI by decide] at h
 exact h
set_option maxHeartbeats 4000000 in
set_option maxRecDepth 100000 in
theorem zae (n : Nat) (hn : n <= 1048576) (W : World) : Calls Tryz.prog 55 #[.int .i64 (n : Int)] W fun e w' => e = .returned (.slice (some ⟨W.heap.size, 0, none⟩) n n) /\ Below W.heap.size W w' /\ w'.ownsRow 0 79 5 (.slice (some ⟨W.heap.size, 0, none⟩) n n) n (zd (List.replicate n qB)) /\ W.heap.size < w'.heap.size := by
 obtain ⟨V, RM, O, B, lt0⟩ := zcW W n hn
 obtain ⟨g, hg⟩ : ∃ g, g = W.heap.size := ⟨_, rfl⟩
 rw [<- hg] at RM O lt0 ⊢
 have nb : (n : Int) <= 1048576 := by omega
 have O := zdy O
 have B := zdy B
 have HG := zdy hg
 have HS : Hid (V.ownsRow 0 79 5 (.slice (some ⟨g, 0, none⟩) n n) n (zd (qR n 0)) /\ Below W.heap.size W V /\ g < V.heap.size) := zdy ⟨by unfold qR; exact O.out, B.out, lt0⟩
 clear O B hg lt0
 go_enter Tryz.func55, Tryz.ntmps55
 go_wp2_with fail
 go_loopw [9] (fun i wr => ∃ k : Nat, k <= n /\ i = .int .i64 (k : Int) /\ Hid (wr.ownsRow 0 79 5 (.slice (some ⟨g, 0, none⟩) n n) n (zd (qR n k)) /\ Below W.heap.size W wr /\ g < wr.heap.size)) (fun i _ => n - (intOf i).toNat)
 case atStart => exact ⟨0, Nat.zero_le _, by simp, HS⟩
 case round =>
  obtain ⟨k, hk, rfl, hr⟩ := hrel
  clear HS RM
  by_cases lt : k < n
  ·have wk := zdz ((k : Int) + 1) (by omega)
   have q0 : (0 : Int) <= (k : Int) := by omega
   have q5 : (k : Int) < (n : Int) := by omega
   have tn : (k : Int).toNat = k := by omega
   have BL := zdy (zc0 wr)
   go_wp2_with fail
   refine BL.out.mono ?_; rintro e w2 ⟨rfl, hb⟩
   have O2 := kQ hb hr.out.1
   have B2 := hr.out.2.1.trans (hb.mono hr.out.2.1.size)
   have lt2 : g < w2.heap.size := Nat.lt_of_lt_of_le hr.out.2.2 hb.size
   have O3 := Kf (i := k) qB O2
   rw [zcY n k lt] at O3
   have R3 : Hid ((put5 w2 g k qB).ownsRow 0 79 5 (.slice (some ⟨g, 0, none⟩) n n) n (zd (qR n (k + 1))) /\ Below W.heap.size W (put5 w2 g k qB) /\ g < (put5 w2 g k qB).heap.size) := zdy ⟨O3, zcZ B2 (by rw [HG.out]; exact zdA), by unfold put5; simp; exact lt2⟩
   have fl := zcX n k hk
   have xl : (zd (qR n k)).length = (qR n k).length * 5 := jF _
   obtain ⟨v0, z0⟩ : ∃ v, (zd (qR n k))[k * 5]? = some v := ⟨_, List.getElem?_eq_getElem (by omega)⟩
   obtain ⟨v1, z1⟩ : ∃ v, (zd (qR n k))[k * 5 + 1]? = some v := ⟨_, List.getElem?_eq_getElem (by omega)⟩
   obtain ⟨v2, z2⟩ : ∃ v, (zd (qR n k))[k * 5 + 2]? = some v := ⟨_, List.getElem?_eq_getElem (by omega)⟩
   obtain ⟨v3, z3⟩ : ∃ v, (zd (qR n k))[k * 5 + 3]? = some v := ⟨_, List.getElem?_eq_getElem (by omega)⟩
   obtain ⟨v4, z4⟩ : ∃ v, (zd (qR n k))[k * 5 + 4]? = some v := ⟨_, List.getElem?_eq_getElem (by omega)⟩
   have y0 := (O2.cellAt (k * 5) (by omega)).trans z0
   have y1 := (O2.cellAt (k * 5 + 1) (by omega)).trans z1
   have y2 := (O2.cellAt (k * 5 + 2) (by omega)).trans z2
   have y3 := (O2.cellAt (k * 5 + 3) (by omega)).trans z3
   have y4 := (O2.cellAt (k * 5 + 4) (by omega)).trans z4
   have p0 := O2.frozenAt (k * 5)
   have p1 := O2.frozenAt (k * 5 + 1)
   have p2 := O2.frozenAt (k * 5 + 2)
   have p3 := O2.frozenAt (k * 5 + 3)
   have p4 := O2.frozenAt (k * 5 + 4)
   have put : put5 w2 g k qB = ((((w2.setCell ⟨g, k * 5, none⟩ (.string ⟨#[32]⟩)).setCell ⟨g, k * 5 + 1, none⟩ (.int .i8 1)).setCell ⟨g, k * 5 + 2, none⟩ (.int .i32 0)).setCell ⟨g, k * 5 + 3, none⟩ (.int .i32 0)).setCell ⟨g, k * 5 + 4, none⟩ (.int .u8 0) := rfl
   rw [put] at R3
   clear O2 B2 lt2 O3 hb BL hr z0 z1 z2 z3 z4 put xl fl
   go_wp2_with fail
   go_roundw
   case rel => exact ⟨k + 1, by omega, by go_num, R3⟩
   case measure => simp [intOf]; omega
  ·have e : k = n := by omega
   subst e
   have q5 : ¬ (k : Int) < (k : Int) := by omega
   go_wp2_with fail
   go_ret
   rw [HG.out] at hr ⊢
   exact ⟨rfl, hr.out.2.1, by have := hr.out.1; unfold qR at this; simpa using this, hr.out.2.2⟩
end
section
open Go Go.RowKit Go.Sort
section
variable {w0 : World} {F0 : List Nat} {tb : Nat} {t t' : Trm} {W W' : World} {L : Lay}
theorem TrmAt.putW {v : Value} {l : List Bool} (T : TrmAt W L t) (r : RowAt W 4 1 v l.length (zy l)) (hs : ∀ g ∈ ob L.s, g ∉ ob v) : TrmAt (W.setCell ⟨L.b, 27, none⟩ v) { L with w := v } { t with wrt := l } := by
 have far : ∀ g, g ≠ L.b -> (W.setCell ⟨L.b, 27, none⟩ v).heap[g]? = W.heap[g]? := fun g hg => heap_setCell_other W ⟨L.b, 27, none⟩ g _ hg
 have o := T.own.set 27 v
 refine ⟨o, ?_, ?_, ?_, ?_, ?_, ?_, ?_, ?_, T.ca, hs, T.rh, T.rk, T.hk⟩
 ·obtain ⟨_, k⟩ := T.utf.kind; exact T.utf.keep (far _ (T.own.ne k (by decide)))
 ·exact T.c.keep (fun g m => by obtain ⟨cur, k⟩ := T.c.kind g m; exact far g (T.own.ne k (by decide)))
 ·exact T.a.keep (fun g m => by obtain ⟨cur, k⟩ := T.a.kind g m; exact far g (T.own.ne k (by decide)))
 ·exact T.s.keep (fun g m => by obtain ⟨cur, k⟩ := T.s.kind g m; exact far g (T.own.ne k (by decide)))
 ·exact r.keep (fun g m => by obtain ⟨cur, k⟩ := r.kind g m; exact far g (T.own.ne k (by decide)))
 ·exact T.r.keep (fun g m => by obtain ⟨cur, k⟩ := T.r.kind g m; exact far g (T.own.ne k (by decide)))
 ·exact T.h.keep (fun g m => by obtain ⟨cur, k⟩ := T.h.kind g m; exact far g (T.own.ne k (by decide)))
 ·exact T.k.keep (fun g m => by obtain ⟨cur, k⟩ := T.k.kind g m; exact far g (T.own.ne k (by decide)))
theorem TrmAt.putS {v : Value} {l : List Bool} (T : TrmAt W L t) (r : RowAt W 4 1 v l.length (zy l)) (hs : ∀ g ∈ ob v, g ∉ ob L.w) : TrmAt (W.setCell ⟨L.b, 23, none⟩ v) { L with s := v } { t with stops := l } := by
 have far : ∀ g, g ≠ L.b -> (W.setCell ⟨L.b, 23, none⟩ v).heap[g]? = W.heap[g]? := fun g hg => heap_setCell_other W ⟨L.b, 23, none⟩ g _ hg
 have o := T.own.set 23 v
 refine ⟨o, ?_, ?_, ?_, ?_, ?_, ?_, ?_, ?_, T.ca, hs, T.rh, T.rk, T.hk⟩
 ·obtain ⟨_, k⟩ := T.utf.kind; exact T.utf.keep (far _ (T.own.ne k (by decide)))
 ·exact T.c.keep (fun g m => by obtain ⟨cur, k⟩ := T.c.kind g m; exact far g (T.own.ne k (by decide)))
 ·exact T.a.keep (fun g m => by obtain ⟨cur, k⟩ := T.a.kind g m; exact far g (T.own.ne k (by decide)))
 ·exact r.keep (fun g m => by obtain ⟨cur, k⟩ := r.kind g m; exact far g (T.own.ne k (by decide)))
 ·exact T.w.keep (fun g m => by obtain ⟨cur, k⟩ := T.w.kind g m; exact far g (T.own.ne k (by decide)))
 ·exact T.r.keep (fun g m => by obtain ⟨cur, k⟩ := T.r.kind g m; exact far g (T.own.ne k (by decide)))
 ·exact T.h.keep (fun g m => by obtain ⟨cur, k⟩ := T.h.kind g m; exact far g (T.own.ne k (by decide)))
 ·exact T.k.keep (fun g m => by obtain ⟨cur, k⟩ := T.k.kind g m; exact far g (T.own.ne k (by decide)))
theorem St.putW {v : Value} {l : List Bool} {V : World} (h : St w0 F0 tb t W) (hb : Below W.heap.size W V) (r : RowAt V 4 1 v l.length (zy l)) (hv : ∀ g ∈ ob v, W.heap.size <= g) : St w0 F0 tb { t with wrt := l } (V.setCell ⟨tb, 27, none⟩ v) := by
 have h1 := h.below hb
 obtain ⟨L, rfl, T, hf⟩ := h.lay
 have T1 := T.keep (fun g m => hb.block g (T.lt g m))
 refine ⟨h.g0, h1.mv.trans (Mv.set (F := [L.b]) V (by simp)) (by intro b hb2; rw [List.mem_singleton.1 hb2]; exact hf _ (Lay.mem.2 (by simp))), h.ng, { L with w := v }, rfl, T1.putW r (fun g m m2 => by have := hv g m2; have := T.s.lt g m; omega), fun b hbm => ?_⟩
 have q := Lay.mem.1 hbm
 simp only at q
 by_cases z : b ∈ ob v
 ·exact Or.inr (Nat.le_trans h.mv.size (hv b z))
 ·refine hf b (Lay.mem.2 ?_)
  rcases q with q | q | q | q | q | q | q | q | q <;> first | exact absurd q z | simp [q]
theorem St.putS {v : Value} {l : List Bool} {V : World} (h : St w0 F0 tb t W) (hb : Below W.heap.size W V) (r : RowAt V 4 1 v l.length (zy l)) (hv : ∀ g ∈ ob v, W.heap.size <= g) : St w0 F0 tb { t with stops := l } (V.setCell ⟨tb, 23, none⟩ v) := by
 have h1 := h.below hb
 obtain ⟨L, rfl, T, hf⟩ := h.lay
 have T1 := T.keep (fun g m => hb.block g (T.lt g m))
 refine ⟨h.g0, h1.mv.trans (Mv.set (F := [L.b]) V (by simp)) (by intro b hb2; rw [List.mem_singleton.1 hb2]; exact hf _ (Lay.mem.2 (by simp))), h.ng, { L with s := v }, rfl, T1.putS r (fun g m m2 => by have := hv g m; have := T.w.lt g m2; omega), fun b hbm => ?_⟩
 have q := Lay.mem.1 hbm
 simp only at q
 by_cases z : b ∈ ob v
 ·exact Or.inr (Nat.le_trans h.mv.size (hv b z))
 ·refine hf b (Lay.mem.2 ?_)
  rcases q with q | q | q | q | q | q | q | q | q <;> first | exact absurd q z | simp [q]
theorem Jm : (Tryz.prog.info? 4).map (fun i => (i.zero.map (·.cells), i.size, i.bytes)) = some (some #[.bool false], 1, 1) := by kernel_rfl
theorem zaf (W : World) (n : Nat) (hn : n <= 1048576) : ∃ V, (Instr.makeSlice 101 (.int .i64 (n : Int)) (.int .i64 (n : Int))).run Tryz.prog W = .ok (.slice (some ⟨W.heap.size, 0, none⟩) n n) V /\ RowAt V 4 1 (.slice (some ⟨W.heap.size, 0, none⟩) n n) (List.replicate n false).length (zy (List.replicate n false)) /\ Below W.heap.size W V /\ ∀ g ∈ ob (.slice (some ⟨W.heap.size, 0, none⟩) n n), W.heap.size <= g := by
  obtain ⟨i, hi, hzz⟩ := Option.map_eq_some_iff.1 Jm
  simp only [Prod.mk.injEq] at hzz
  obtain ⟨hz, hs, hb⟩ := hzz
  obtain ⟨z, hz1, hz2⟩ := Option.map_eq_some_iff.1 hz
  have r := run_make (P := Tryz.prog) W 101 4 i z Tryz.underlying101 hi hz1 .i64 .i64 (n : Int) (n : Int) (by omega) (Int.le_refl _) (by rw [hb]; omega) (by omega)
  rw [hz2, hs, Int.toNat_natCast] at r
  refine ⟨_, r, ?_, (Below.refl _ W).alloc zdA _, fun g m => ?_⟩
  · rw [List.length_replicate]
    cases n with
    | zero => exact Or.inl ⟨rfl, rfl, _, rfl⟩
    | succ n =>
      refine Or.inr ⟨⟨by unfold zy; simp, Or.inr ⟨W.heap.size, n + 1, _, rfl, Nat.zero_le _, World.alloc_heap_new W _, zdA, by unfold maxLen; omega, size_madeCells _ _, ?_⟩⟩, by unfold ob; simp⟩
      refine List.ext_getElem? fun j => ?_
      by_cases c : j < n + 1
      · rw [List.getElem?_take_of_lt (by omega)]
        unfold madeCells zy
        rw [Array.getElem?_toList, Array.getElem?_map, Array.getElem?_range, if_pos (by omega), List.getElem?_map, List.getElem?_replicate, if_pos c]
        have : j % 1 = 0 := by omega
        simp [this]
      · rw [List.getElem?_eq_none (by rw [List.length_take, Array.length_toList, size_madeCells]; omega), List.getElem?_eq_none (by unfold zy; simp; omega)]
  · cases n with
    | zero => simp [ob] at m
    | succ n => have : g = W.heap.size := by simpa [ob] using m
                omega
end
end
section
open Go Go.RowKit Go.Sort
section
theorem celRow {V : World} {g M : Nat} (O : V.ownsRow 0 79 5 (.slice (some ⟨g, 0, none⟩) M M) M (zd (List.replicate M qB))) : RowAt V 79 5 (.slice (some ⟨g, 0, none⟩) M M) (List.replicate M qB).length (zd (List.replicate M qB)) := by
 rw [List.length_replicate]
 cases M with
 | zero => exact Or.inl ⟨rfl, rfl, _, rfl⟩
 | succ M => exact RowAt.of_own O (Nat.succ_pos _)
theorem RowAt.nilB (V : World) : RowAt V 4 1 (.slice none 0 0) ([] : List Bool).length (zy []) := Or.inl ⟨rfl, rfl, _, rfl⟩
def bare (w h : Int) : Trm := { newV w h with wrt := [], stops := [] }
def lay0 (b u g1 g2 M : Nat) : Lay := ⟨b, u, .slice (some ⟨g1, 0, none⟩) M M, .slice (some ⟨g2, 0, none⟩) M M, .slice none 0 0, .slice none 0 0, .slice none 0 0, .slice none 0 0, .slice none 0 0⟩
theorem ZC {g M k : Nat} (h : k ∈ ob (.slice (some ⟨g, 0, none⟩) M M)) : k = g := by
 cases M with
 | zero => simp [ob] at h
 | succ M => simpa [ob] using h
theorem St.bare {W0 V : World} {w h : Int} {M g1 g2 u b : Nat} (E : EnvV W0) (hM : (w * h).toNat = M) (hb : Below W0.heap.size W0 V) (O1 : V.ownsRow 0 79 5 (.slice (some ⟨g1, 0, none⟩) M M) M (zd (List.replicate M qB))) (O2 : V.ownsRow 0 79 5 (.slice (some ⟨g2, 0, none⟩) M M) M (zd (List.replicate M qB)))
  (U : Bk V u [.int .u8 0, .int .u8 0, .int .u8 0, .int .u8 0, .int .i64 0] 116) (B : Bk V b (trmV (bare w h) (lay0 b u g1 g2 M)) 104) (n12 : g1 ≠ g2) (l1 : W0.heap.size <= g1) (l2 : W0.heap.size <= g2) (l3 : W0.heap.size <= u) (l4 : W0.heap.size <= b) : St W0 [] b (bare w h) V := by
 refine ⟨E, Mv.below hb, by simp, lay0 b u g1 g2 M, rfl, ⟨B, ⟨0, 0, 0, 0, U, Nat.zero_le _, rfl⟩, ?_, ?_, RowAt.nilB _, RowAt.nilB _, KeptAt.none _, KeptAt.none _, KeptAt.none _, fun g m m2 => n12 ((ZC m).symm.trans (ZC m2)), ?_, ?_, ?_, ?_⟩, fun k hk => Or.inr ?_⟩
 ·show RowAt V _ 5 _ (List.replicate (w * h).toNat qB).length (zd (List.replicate (w * h).toNat qB))
  rw [hM]; exact celRow O1
 ·show RowAt V _ 5 _ (List.replicate (w * h).toNat qB).length (zd (List.replicate (w * h).toNat qB))
  rw [hM]; exact celRow O2
 ·intro g m; simp [lay0, ob] at m
 ·intro g m; simp [lay0, ob] at m
 ·intro g m; simp [lay0, ob] at m
 ·intro g m; simp [lay0, ob] at m
 ·rcases Lay.mem.1 hk with rfl | rfl | z | z | z | z | z | z | z
  ·exact l4
  ·exact l3
  ·rw [ZC z]; exact l1
  ·rw [ZC z]; exact l2
  all_goals simp [lay0, ob] at z
def jh (n j : Nat) : List Bool := (List.range n).map fun x => decide (0 < x /\ x % 8 = 0 /\ x < 8 * (j + 1))
theorem zc1 (n : Nat) : jh n 0 = List.replicate n false := by
 unfold jh
 refine List.ext_getElem? fun x => ?_
 rw [List.getElem?_map, List.getElem?_replicate]
 by_cases c : x < n
 ·rw [List.getElem?_range c, if_pos c]
  simp
  omega
 ·rw [List.getElem?_eq_none (by simp; omega), if_neg c]; rfl
theorem zc2 (n j : Nat) (h : 8 * (j + 1) < n) : (jh n j).set (8 * (j + 1)) true = jh n (j + 1) := by
 unfold jh
 refine List.ext_getElem? fun x => ?_
 rw [List.getElem?_set, List.getElem?_map, List.getElem?_map]
 by_cases e : 8 * (j + 1) = x
 ·subst e
  rw [if_pos rfl, List.length_map, List.length_range, if_pos h, List.getElem?_range h]
  simp
 ·rw [if_neg e]
  by_cases c : x < n
  ·rw [List.getElem?_range c]
   have hx : (0 < x /\ x % 8 = 0 /\ x < 8 * (j + 1)) ↔ (0 < x /\ x % 8 = 0 /\ x < 8 * (j + 1 + 1)) := ⟨fun ⟨a, b, d⟩ => ⟨a, b, by omega⟩, fun ⟨a, b, d⟩ => ⟨a, b, by omega⟩⟩
   show some (decide _) = some (decide _)
   rw [decide_eq_decide.2 hx]
  ·rw [List.getElem?_eq_none (by simp; omega)]; rfl
theorem zc3 (w : Int) (j : Nat) (h : ¬ ((8 * (j + 1) : Nat) : Int) < w) : jh w.toNat j = kZ w := by
 unfold jh kZ
 refine List.map_congr_left fun x m => ?_
 have := List.mem_range.1 m
 congr 1
 apply propext
 constructor
 ·rintro ⟨a, b, _⟩; exact ⟨a, b⟩
 ·rintro ⟨a, b⟩; exact ⟨a, b, by omega⟩
theorem zag (n j : Nat) : (jh n j).length = n := by unfold jh; simp
end
end
section
open Go Go.RowKit Go.Sort
section
set_option maxHeartbeats 8000000 in
set_option maxRecDepth 100000 in
theorem t_New (w h : Int) (w0 : 0 <= w) (w1 : w <= 4096) (h0 : 0 <= h) (h1 : h <= 4096) (ar : w * h <= 1048576) (W : World) (E : EnvV W) : Calls Tryz.prog 26 #[.int .i64 w, .int .i64 h] W fun e w' => ∃ b, e = .returned (.tuple #[.pointer (some ⟨b, 0, none⟩), .int .i64 0]) /\ Below W.heap.size W w' /\ W.heap.size <= b /\ St W [] b (newV w h) w' := by
 obtain ⟨N, rfl⟩ : ∃ N : Nat, w = (N : Int) := ⟨w.toNat, by omega⟩
 have p0 : 0 <= (N : Int) * h := Int.mul_nonneg w0 h0
 obtain ⟨M, hM⟩ : ∃ M : Nat, (N : Int) * h = (M : Int) := ⟨((N : Int) * h).toNat, by omega⟩
 have mb : M <= 1048576 := by omega
 have mw : IntKind.i64.wrap ((N : Int) * h) = (M : Int) := by rw [hM]; exact zdz _ (by omega)
 have hw := zdz (h - 1) (by omega)
 have mi : ¬ (1048576 : Int) < (M : Int) := by omega
 have a1 : ¬ (N : Int) < 0 := by omega
 have a2 : ¬ h < 0 := by omega
 have a3 : ¬ 4096 < (N : Int) := by omega
 have a4 : ¬ 4096 < h := by omega
 have HM := zdy hM
 have E := zdy E
 have B1 := zdy (zae M mb W)
 clear hM
 go_enter Tryz.func26, Tryz.ntmps26
 go_wp2_with fail
 refine B1.out.mono ?_; rintro e w1' ⟨rfl, b1, o1, s1⟩
 have B2 := zdy (zae M mb w1')
 have X1 := zdy (And.intro b1 (And.intro o1 s1))
 clear b1 o1 s1
 go_wp2_with fail
 refine B2.out.mono ?_; rintro e w2' ⟨rfl, b2, o2, s2⟩
 have U := zdy (d_uNew w2')
 go_wp2_with fail
 refine U.out.mono ?_; rintro e w3' ⟨rfl, e3⟩
 go_upto_region 4 with fail
 obtain ⟨V, hV⟩ : ∃ V, V = (w2'.alloc (.cells #[.int .u8 0, .int .u8 0, .int .u8 0, .int .u8 0, .int .i64 0] 116)).alloc (.cells #[.int .i64 (N : Int), .int .i64 h, .slice (some ⟨W.heap.size, 0, none⟩) M M, .int .i64 0, .int .i64 0, .int .i32 0, .int .i32 0, .int .u8 0, .bool false, .slice (some ⟨w1'.heap.size, 0, none⟩) M M,
  .int .i64 0, .int .i64 0, .int .i32 0, .int .i32 0, .int .u8 0, .bool false, .bool false, .bool true, .bool false, .bool true, .bool false, .int .i64 0, .int .i64 (h - 1), .slice none 0 0, .int .i64 (-1), .string ⟨#[]⟩, .slice none 0 0, .slice none 0 0, .int .i8 0, .slice none 0 0, .pointer (some ⟨w2'.heap.size, 0, none⟩), .slice none 0 0] 104) := ⟨_, rfl⟩
 show Code.wp _ _ _ _ ((w2'.alloc (.cells #[.int .u8 0, .int .u8 0, .int .u8 0, .int .u8 0, .int .i64 0] 116)).alloc (.cells #[.int .i64 (N : Int), .int .i64 h, .slice (some ⟨W.heap.size, 0, none⟩) M M, .int .i64 0, .int .i64 0, .int .i32 0, .int .i32 0, .int .u8 0, .bool false, .slice (some ⟨w1'.heap.size, 0, none⟩) M M,
  .int .i64 0, .int .i64 0, .int .i32 0, .int .i32 0, .int .u8 0, .bool false, .bool false, .bool true, .bool false, .bool true, .bool false, .int .i64 0, .int .i64 (h - 1), .slice none 0 0, .int .i64 (-1), .string ⟨#[]⟩, .slice none 0 0, .slice none 0 0, .int .i8 0, .slice none 0 0, .pointer (some ⟨w2'.heap.size, 0, none⟩), .slice none 0 0] 104))
 rw [<- hV]
 have u1 : W.heap.size < w1'.heap.size := X1.out.2.2
 have z3 : (w2'.alloc (.cells #[.int .u8 0, .int .u8 0, .int .u8 0, .int .u8 0, .int .i64 0] 116)).heap.size = w2'.heap.size + 1 := by simp
 have u2 : w1'.heap.size < w2'.heap.size := s2
 have BD : Below w2'.heap.size w2' V := by rw [hV]; exact ((Below.refl _ w2').alloc zdA _).alloc (by simp) _
 have BV : Below W.heap.size W V := (X1.out.1.trans (b2.mono (by omega))).trans (BD.mono (by omega))
 have KU : Bk V w2'.heap.size [.int .u8 0, .int .u8 0, .int .u8 0, .int .u8 0, .int .i64 0] 116 := by
  rw [hV]
  have k : Bk (w2'.alloc (.cells #[.int .u8 0, .int .u8 0, .int .u8 0, .int .u8 0, .int .i64 0] 116)) w2'.heap.size [.int .u8 0, .int .u8 0, .int .u8 0, .int .u8 0, .int .i64 0] 116 := Bk.new w2' _ _
  exact k.of_eq (((Below.refl _ _).alloc zdA _).block _ k.lt)
 have KB : Bk V (w2'.heap.size + 1) (trmV (bare (N : Int) h) (lay0 (w2'.heap.size + 1) w2'.heap.size W.heap.size w1'.heap.size M)) 104 := by
  rw [hV, <- z3]
  exact Bk.new _ _ _
 have OA := kQ (b2.mono zdA) X1.out.2.1
 have S0 := zdy (St.bare E.out (by rw [HM.out, Int.toNat_natCast]) BV (kQ BD (kQ b2 X1.out.2.1)) (kQ BD o2) KU KB (by omega) zdA (by omega) (by omega) (by omega))
 obtain ⟨b, hb⟩ : ∃ b, b = w2'.heap.size + 1 := ⟨_, rfl⟩
 rw [<- hb] at S0
 rw [<- hb]
 have LB : Hid (W.heap.size <= b /\ b < V.heap.size) := zdy ⟨by omega, by rw [hb]; exact KB.lt⟩
 have BV := zdy BV
 clear KB KU OA BD u1 u2 z3 X1 B1 B2 U s2 b2 o2 hb hV e3 BV
 obtain ⟨V4, RM, R4, BV4, hv4⟩ := zaf V M mb
 have S1 := S0.out.putW BV4 R4 hv4
 obtain ⟨L1, K1⟩ := (S0.out.below BV4).bk
 have k27 := K1.c 27 _ rfl
 have kf27 := K1.f 27
 have k27 : V4.cell? ⟨b, 27, none⟩ = some L1.w := k27
 have S1 := zdy S1
 clear K1 R4 BV4 hv4
 go_upto_region 5 with fail
 obtain ⟨V5, hV5⟩ : ∃ V5, V5 = V4.setCell ⟨b, 27, none⟩ (.slice (some ⟨V.heap.size, 0, none⟩) M M) := ⟨_, rfl⟩
 rw [<- hV5] at S1
 rw [<- hV5]
 clear hV5 k27 kf27 RM
 obtain ⟨V6, RM, R6, BV6, hv6⟩ := zaf V5 N (by omega)
 have S2 := S1.out.putS BV6 R6 hv6
 obtain ⟨L1, K1⟩ := (S1.out.below BV6).bk
 have k23 := K1.c 23 _ rfl
 have kf23 := K1.f 23
 have k23 : V6.cell? ⟨b, 23, none⟩ = some L1.s := k23
 have S2 := zdy S2
 clear K1 R6 BV6 hv6
 go_upto_region 6 with fail
 obtain ⟨V7, hV7⟩ : ∃ V7, V7 = V6.setCell ⟨b, 23, none⟩ (.slice (some ⟨V5.heap.size, 0, none⟩) N N) := ⟨_, rfl⟩
 rw [<- hV7] at S2
 rw [<- hV7]
 clear hV7 k23 kf23 RM
 have LB := zdy LB.out.1
 have HS : Hid (St W [] b { newV (N : Int) h with stops := jh N 0 } V7) := zdy (by
  rw [zc1]
  have := S2.out
  have e : (newV (N : Int) h).wrt = List.replicate M false := by show List.replicate _ false = _; rw [HM.out, Int.toNat_natCast]
  have e2 : ({ newV (N : Int) h with stops := List.replicate N false } : Trm) = { { bare (N : Int) h with wrt := List.replicate M false } with stops := List.replicate N false } := by rw [<- e]; rfl
  rw [e2]
  exact this)
 clear S0 S1 S2 mw hw mi p0 ar
 go_wp2_with fail
 go_loopw [7] (fun i wr => ∃ j : Nat, 8 * j <= N /\ i = .int .i64 (8 * ((j : Int) + 1)) /\ Hid (St W [] b { newV (N : Int) h with stops := jh N j } wr)) (fun i _ => N + 8 - (intOf i).toNat)
 case atStart => exact ⟨0, by omega, rfl, HS⟩
 case round =>
  obtain ⟨j, hj, rfl, hr⟩ := hrel
  clear HS
  obtain ⟨d, hd⟩ : ∃ d, d = 8 * (j + 1) := ⟨_, rfl⟩
  by_cases lt : d < N
  ·obtain ⟨L1, g, cap, B1, es, hc, ho, up⟩ := hr.out.rowS (by show 0 < (jh N j).length; rw [zag]; omega)
   have sl : (jh N j).length = N := zag N j
   dsimp only at es hc ho
   rw [sl] at es hc ho
   have k23 : wr.cell? ⟨b, 23, none⟩ = some L1.s := B1.c 23 _ rfl
   have kf23 := B1.f 23
   rw [es] at k23
   obtain ⟨v5, z5⟩ : ∃ v, (zy (jh N j))[d]? = some v := ⟨_, List.getElem?_eq_getElem (by unfold zy; rw [List.length_map, sl]; exact lt)⟩
   have y5 := (ho.cellAt d (by omega)).trans z5
   have p5 := ho.frozenAt d
   have H5 : Hid (St W [] b { newV (N : Int) h with stops := jh N (j + 1) } (wr.setCell ⟨g, d, none⟩ (.bool true))) := zdy (by
    have := up d true
    dsimp only at this
    rw [hd, zc2 N j (by omega), <- hd] at this
    exact this)
   have q0 : (0 : Int) <= 8 * ((j : Int) + 1) := by omega
   have q5 : 8 * ((j : Int) + 1) < (N : Int) := by omega
   have tn : (8 * ((j : Int) + 1)).toNat = d := by omega
   have wk := zdz (8 * ((j : Int) + 1) + 8) (by omega)
   rw [hd] at y5 p5 H5 tn
   clear B1 es ho up sl z5 hr hd lt
   go_wp2_with fail
   go_roundw
   case rel => exact ⟨j + 1, by omega, by go_num, H5⟩
   case measure => simp [intOf]; omega
  ·have q5 : ¬ 8 * ((j : Int) + 1) < (N : Int) := by omega
   have H5 : Hid (St W [] b (newV (N : Int) h) wr) := zdy (by
    have e := zc3 (N : Int) j (by omega)
    rw [Int.toNat_natCast] at e
    have := hr.out
    rw [e] at this
    exact this)
   clear hr
   go_wp2_with fail
   go_ret2
   exact ⟨b, rfl, ⟨H5.out.mv.os, H5.out.mv.tape, H5.out.mv.output, H5.out.mv.size, fun k hk => H5.out.mv.blk k hk (by simp)⟩, LB.out, H5.out⟩
end
end
section
open Go Go.RowKit Go.Sort
section
end
end
end Go.Proofs.YtmaofighbpnbiaaGreatDoor
