/- What lies below tapes (kept of earlier texts: DgI, DhW, DhB, DhO, DhN, RaZ). -/
import Derived.Test.YtifoijbpbigaaaaGreatDoorDaCH
import Derived.Laws.EntriesVeiled
import Derived.Test.YtifoijbpbigaaaaGreatDoorRows
import Derived.ProofKit
import Derived.LaidMore
import Derived.OpenShut
import Derived.MakeChecks
import Derived.Lib.LaidTab
import Derived.Stop.LaidErr
import Derived.Stop.Joined
import Derived.ShutString
import Derived.ChangeOld
import Derived.Below
import Derived.Lib.SmallJoins
import Derived.Deep.Strs
import Derived.Deep.Fields
import Derived.SizedLaws
set_option linter.unusedVariables false
set_option linter.unusedSimpArgs false
namespace Go.Proofs.YtifoijbpbigaaaaGreatDoor
section
open Go Go.RowKit Go.Sort
def scrL (R : Scr) (g N : Nat) : List Value := [.int .i64 R.w, .int .i64 R.h, .slice (some ⟨g, 0, none⟩) N N, .int .i64 R.x, .int .i64 R.y, .bool R.shown]
structure Fr3 (Q : World) (r g : Nat) (R : Scr) (N : Nat) (W : World) : Prop where
 rq : Q.heap.size <= r
 own : Own1 W r (scrL R g N) 24
 row : TRow W (some ⟨g, 0, none⟩) R.cells
 below : Below Q.heap.size Q W
theorem fr3B {Q w1 : World} {g N : Nat} {R : Scr} (hb : Below Q.heap.size Q w1) (hr : TRow w1 (some ⟨g, 0, none⟩) R.cells) : Fr3 Q w1.heap.size g R N (w1.alloc (.cells #[.int .i64 R.w, .int .i64 R.h, .slice (some ⟨g, 0, none⟩) N N, .int .i64 R.x, .int .i64 R.y, .bool R.shown] 24)) :=
 ⟨hb.size, World.alloc_heap_new w1 _, hr.below ((Below.refl _ _).alloc Xm _), hb.alloc hb.size _⟩
theorem fr3A {Q w1 : World} {g N : Nat} {R : Scr} (hb : Below (Q.alloc (.cells #[.int .i64 0, .int .i64 0, .slice none 0 0, .int .i64 0, .int .i64 0, .bool false] 24)).drew.heap.size (Q.alloc (.cells #[.int .i64 0, .int .i64 0, .slice none 0 0, .int .i64 0, .int .i64 0, .bool false] 24)).drew w1) (hr : TRow w1 (some ⟨g, 0, none⟩) R.cells) :
  Fr3 Q Q.heap.size g R N ((((((w1.setCell ⟨Q.heap.size, 0, none⟩ (.int .i64 R.w)).setCell ⟨Q.heap.size, 1, none⟩ (.int .i64 R.h)).setCell ⟨Q.heap.size, 2, none⟩ (.slice (some ⟨g, 0, none⟩) N N)).setCell ⟨Q.heap.size, 3, none⟩ (.int .i64 R.x)).setCell ⟨Q.heap.size, 4, none⟩ (.int .i64 R.y)).setCell ⟨Q.heap.size, 5, none⟩ (.bool R.shown)) := by
 have o0 : Own1 w1 Q.heap.size zS 24 := (hb.block Q.heap.size (by simp)).trans (World.alloc_heap_new Q _)
 have ne : 24 ≠ 58 := by decide
 have o1 := o0.set 0 (.int .i64 R.w)
 have o2 := o1.set 1 (.int .i64 R.h)
 have o3 := o2.set 2 (.slice (some ⟨g, 0, none⟩) N N)
 have o4 := o3.set 3 (.int .i64 R.x)
 have o5 := o4.set 4 (.int .i64 R.y)
 have o6 := o5.set 5 (.bool R.shown)
 have B : Below Q.heap.size Q w1 := (((Below.refl _ Q).alloc Xm _).drew).trans (hb.mono (by simp))
 have st : ∀ {W : World} {vs : List Value} {i : Nat} {y : Value}, Own1 W Q.heap.size vs 24 -> TRow W (some ⟨g, 0, none⟩) R.cells -> TRow (W.setCell ⟨Q.heap.size, i, none⟩ y) (some ⟨g, 0, none⟩) R.cells := fun o h => h.keep (KeepT.set o ne) (qe _ _ _).size
 exact ⟨Xm, o6, st o5 (st o4 (st o3 (st o2 (st o1 (st o0 hr))))), (((((B.setCell (p := ⟨Q.heap.size, 0, none⟩) Xm _).setCell (p := ⟨Q.heap.size, 1, none⟩) Xm _).setCell (p := ⟨Q.heap.size, 2, none⟩) Xm _).setCell (p := ⟨Q.heap.size, 3, none⟩) Xm _).setCell (p := ⟨Q.heap.size, 4, none⟩) Xm _).setCell (p := ⟨Q.heap.size, 5, none⟩) Xm _⟩
theorem JN (F : Fix) (ok : FixOk F) (told : Bool) (t : Tel) (shn : Bool) (hw : Own1 F.w0 F.b (F.wri told t shn) 86) (ho : t.out = zB) :
  FrSt F told t shn (((F.w0.alloc (.cells #[.slice none 0 0] 66)).alloc (.cells #[.func (.func 45) #[] #[.pointer (some ⟨F.o, 0, none⟩), .pointer (some ⟨F.p, 0, none⟩)]] 87)).alloc (.cells #[.func (.func 46) #[] #[.pointer (some ⟨F.o + 1, 0, none⟩), .pointer (some ⟨F.p, 0, none⟩)]] 71)) := by
 have b1 : ∀ W : World, ∀ o, Below W.heap.size W (W.alloc o) := fun W o => (Below.refl _ W).alloc Xm o
 obtain ⟨W1, h1⟩ : ∃ W1, W1 = F.w0.alloc (.cells #[.slice none 0 0] 66) := ⟨_, rfl⟩
 have z1 : W1.heap.size = F.o + 1 := by rw [h1]; simp [Fix.o]
 have k1 : Below F.w0.heap.size F.w0 W1 := by rw [h1]; exact b1 _ _
 have q1 : Boxed W1 F.o 66 (.slice none 0 0) := by rw [h1]; exact Boxed.new F.w0 _ _
 rw [<- h1]
 clear h1
 obtain ⟨W2, h2⟩ : ∃ W2, W2 = W1.alloc (.cells #[.func (.func 45) #[] #[.pointer (some ⟨F.o, 0, none⟩), .pointer (some ⟨F.p, 0, none⟩)]] 87) := ⟨_, rfl⟩
 have z2 : W2.heap.size = F.o + 2 := by rw [h2]; simp [z1]
 have k2 : Below W1.heap.size W1 W2 := by rw [h2]; exact b1 _ _
 have q2 : Own1 W2 (F.o + 1) [.func (.func 45) #[] #[.pointer (some ⟨F.o, 0, none⟩), .pointer (some ⟨F.p, 0, none⟩)]] 87 := by rw [h2, <- z1]; exact World.alloc_heap_new W1 _
 rw [<- h2]
 clear h2
 obtain ⟨W3, h3⟩ : ∃ W3, W3 = W2.alloc (.cells #[.func (.func 46) #[] #[.pointer (some ⟨F.o + 1, 0, none⟩), .pointer (some ⟨F.p, 0, none⟩)]] 71) := ⟨_, rfl⟩
 have k3 : Below W2.heap.size W2 W3 := by rw [h3]; exact b1 _ _
 have q3 : Own1 W3 (F.o + 2) [.func (.func 46) #[] #[.pointer (some ⟨F.o + 1, 0, none⟩), .pointer (some ⟨F.p, 0, none⟩)]] 71 := by rw [h3, <- z2]; exact World.alloc_heap_new W2 _
 rw [<- h3]
 clear h3
 have k12 : Below F.w0.heap.size F.w0 W2 := k1.trans (k2.mono k1.size)
 have k13 : Below F.w0.heap.size F.w0 W3 := k12.trans (k3.mono k12.size)
 refine ⟨ok, hw.below k13, q2.below k3, q3, ⟨.slice none 0 0, ?_, ?_⟩, xU k13 _⟩
 ·exact (k3.block F.o (by rw [z2]; omega)).trans ((k2.block F.o (by rw [z1]; omega)).trans q1)
 ·rw [ho]; exact World.ownsRow_nil _ _ _ _
def xW (F : Fix) (x : Wri) (G : Bool) (V : World) (A1 : Option Addr) (M : Nat) (W : World) : Prop :=
 FrSt F x.told (zN x G) (x.shown && !G) W /\ TRow W A1 (qE x G F.R) /\ M = F.R.cells.length /\ KeepT V W /\ V.heap.size <= W.heap.size
theorem KeepT.trans_set {V W : World} (h : KeepT V W) {g i : Nat} {y : Value} (hg : V.heap.size <= g) : KeepT V (W.setCell ⟨g, i, none⟩ y) := fun k arr fl hk => by
 have lt := (Array.getElem?_eq_some_iff.1 hk).1
 have e1 := h k arr fl hk
 have lt2 : k < W.heap.size := (Array.getElem?_eq_some_iff.1 (e1.trans hk)).1
 exact ((qe W ⟨g, i, none⟩ y).block k lt2 (fun e => by have := Option.some.inj e; simp only at this; omega)).trans e1
theorem zB_app (s : ByteArray) : zB ++ s = s := by
 apply ByteArray.ext
 rw [ByteArray.data_append]
 simp [zB]
structure FillSt (F : Fix) (told : Bool) (t : Tel) (shn : Bool) (V : World) (lo g N : Nat) (xs : List Value) (W : World) : Prop where
 st : FrSt F told t shn W
 own : W.ownsRow lo 58 5 (.slice (some ⟨g, 0, none⟩) N N) N xs
 keep : KeepT V W
 size : V.heap.size <= W.heap.size
 far : V.heap.size <= g
 lo_o : F.o + 3 <= g
theorem FrSt.farCell {F : Fix} {told : Bool} {t : Tel} {shn : Bool} {W : World} (h : FrSt F told t shn W) {g : Nat} {arr : Array Value} {fl : Nat × Nat} (hg : W.heap[g]? = some (.cells arr 58 fl)) (hb : F.o + 3 <= g) (i : Nat) (y : Value) : FrSt F told t shn (W.setCell ⟨g, i, none⟩ y) := by
 have gs := qe W ⟨g, i, none⟩ y
 have bo := h.ok.bo
 have so : F.o = F.w0.heap.size := rfl
 have st : ∀ k, k ≠ g -> k < W.heap.size -> (W.setCell ⟨g, i, none⟩ y).heap[k]? = W.heap[k]? := fun k ne hk => gs.block k hk (fun e => ne (Option.some.inj e))
 obtain ⟨v, h1, h2⟩ := h.bo
 refine ⟨h.ok, (st _ (by omega) h.bw.lt).trans h.bw, (st _ (by omega) h.bs.lt).trans h.bs, (st _ (by omega) h.bm.lt).trans h.bm, ⟨v, (st _ (by omega) h1.lt).trans h1, h2.kept gs ?_⟩, ?_⟩
 ·rcases h2.2 with ⟨rfl, _⟩ | ⟨g', cap, cur, rfl, hb, hgb, _⟩
  ·exact Or.inl rfl
  ·refine Or.inr (fun q => ?_)
   have := Option.some.inj q
   simp only at this
   subst this
   rw [hgb] at hg
   cases hg
 ·refine ⟨gs.os.trans h.gr.os, gs.tape.trans h.gr.tape, gs.output.trans h.gr.output, Nat.le_trans h.gr.size gs.size, fun k hk ne => (st k (by omega) (Nat.lt_of_lt_of_le hk h.gr.size)).trans (h.gr.block k hk ne)⟩
theorem FillSt.store {F : Fix} {told : Bool} {t : Tel} {shn : Bool} {V W : World} {lo g N : Nat} {xs : List Value} (h : FillSt F told t shn V lo g N xs W) (i : Nat) (y : Value) : FillSt F told t shn V lo g N (xs.set i y) (W.setCell ⟨g, i, none⟩ y) := by
 have gs := qe W ⟨g, i, none⟩ y
 obtain ⟨arr, fl, hg⟩ : ∃ arr fl, W.heap[g]? = some (.cells arr 58 fl) := by
  rcases h.own.2 with ⟨e, _⟩ | ⟨g', cap, cur, e, _, hg, _⟩
  ·cases e
  ·injection e with e1
   injection e1 with e1
   injection e1 with e1
   subst e1
   exact ⟨_, _, hg⟩
 exact ⟨h.st.farCell hg h.lo_o i y, (h.own.stored i y).1, h.keep.trans_set h.far, Nat.le_trans h.size gs.size, h.far, h.lo_o⟩
theorem FillSt.below {F : Fix} {told : Bool} {t : Tel} {shn : Bool} {V W W' : World} {lo g N : Nat} {xs : List Value} (h : FillSt F told t shn V lo g N xs W) (hb : Below W.heap.size W W') : FillSt F told t shn V lo g N xs W' :=
 ⟨h.st.below hb, ZR h.own hb, h.keep.trans (KeepT.below hb), Nat.le_trans h.size hb.size, h.far, h.lo_o⟩
theorem d_Blank0 : Gives 48 #[.agg #[.int .i32 0, .int .i32 0, .int .u8 0]] (.agg #[.string ⟨#[32]⟩, .int .i8 1, .int .i32 0, .int .i32 0, .int .u8 0]) := by
 have h := d_Blank z8
 rw [show zq z8 = z8 by decide] at h
 exact h
theorem rep_snoc (k : Nat) : zc (List.replicate (k + 1) jD) = zc (List.replicate k jD) ++ [.string ⟨#[32]⟩, .int .i8 1, .int .i32 0, .int .i32 0, .int .u8 0] := by
 rw [List.replicate_succ', jP]
 rfl
theorem Qh (a b : Int) : (a != b) = decide (a ≠ b) := by
 by_cases h : a = b <;> simp [h]
theorem TRow.stay {W W' : World} {A : Option Addr} {L : List Cel} (h : TRow W A L) (k : KeepT W W') : TRow W' A L := by
 obtain ⟨g, arr, fl, rfl, hg, S⟩ := h
 refine ⟨g, arr, fl, rfl, (k g arr fl hg).trans hg, fun hne => ?_⟩
 obtain ⟨ad, e, _, hc⟩ := k.sees hg S hne
 cases e
 exact ⟨_, rfl, (Array.getElem?_eq_some_iff.1 ((k g arr fl hg).trans hg)).1, hc⟩
theorem TRow.sees {W : World} {A : Option Addr} {L : List Cel} (h : TRow W A L) : Sees W W.heap.size A (zc L) := by
 obtain ⟨_, _, _, _, _, S⟩ := h
 exact S
def FrJ (F : Fix) (told : Bool) (t0 : Tel) (shn : Bool) (A1 : Option Addr) (a : List Cel) (pre : List (Nat × Nat)) (W : World) : Prop :=
 FrSt F told (zZ F.R.w F.R.cells t0 pre) shn W /\ KeepT F.w0 W /\ TRow W A1 a
theorem fr_units (F : Fix) (x : Wri) (G : Bool) (hG : G = newB x F.R) (A1 : Option Addr) (c1 : Nat) (W : World) (hR : zh F.R = true) (hs : totS F.R.cells <= 1000000000) (hl : x.told = true -> zh x.last = true) (hx0 : 0 <= x.tel.x) (hx1 : x.tel.x <= 5000) (ht : x.tel.text.size <= 400000000000)
  (hrow : TRow F.w0 F.RA F.R.cells) (M : Nat) (h : xW F x G F.w0 A1 M W) :
  Calls Tryz.prog 29 #[.slice A1 M c1, .slice F.RA F.R.cells.length F.Rc, .func (.func 49) #[] #[.pointer (some ⟨F.r, 0, none⟩), .pointer (some ⟨F.p, 0, none⟩), .pointer (some ⟨F.o + 2, 0, none⟩), .pointer (some ⟨F.o + 1, 0, none⟩), .pointer (some ⟨F.o, 0, none⟩)]] W
   fun e w' => (∃ v, e = .returned v) /\ FrSt F x.told (midT x F.R) (x.shown && !G) w' /\ KeepT F.w0 w' := by
 obtain ⟨h1, h2, h3, h4, h5⟩ := h
 subst hG
 have len := Qf hR hl
 obtain ⟨r1, r2, _⟩ := zQ hR
 have sz := qS r1
 have NB : F.R.cells.length <= 1048576 := by omega
 have rm := Qc F.R.cells (jR hR) 0 _ F.R.cells len rfl
 have U := ZU 49 #[.pointer (some ⟨F.r, 0, none⟩), .pointer (some ⟨F.p, 0, none⟩), .pointer (some ⟨F.o + 2, 0, none⟩), .pointer (some ⟨F.o + 1, 0, none⟩), .pointer (some ⟨F.o, 0, none⟩)] (enters_of Tryz.func49 (by kernel_rfl) rfl)
  (FrJ F x.told (zN x (newB x F.R)) (x.shown && !newB x F.R) A1 (qE x (newB x F.R) F.R)) A1 F.RA c1 F.Rc (qE x (newB x F.R) F.R) F.R.cells len (by omega) (jR hR)
  (fun pre i n V hj hp hn => by
   obtain ⟨j1, j2, j3⟩ := hj
   have hi := (rm.2.2 (i, n) (hp.subset (List.mem_append_right _ (List.mem_singleton.2 rfl)))).2.1
   simp only at hi
   have il : i < F.R.cells.length := by omega
   have w1 : 1 <= F.R.w := by
    rcases Int.lt_or_le F.R.w 1 with z | z
    ·have e : F.R.w = 0 := by omega
     rw [e, Int.zero_mul] at r2
     omega
    ·exact z
   have hpre : pre <+: zd 0 (qE x (newB x F.R) F.R) F.R.cells := (List.prefix_append pre _).trans hp
   have pb := Qg hR hl ht hx0 hx1 hs hpre (Or.inl w1)
   have ge : F.R.cells[i] = F.R.cells.getD i celD := by rw [List.getD_eq_getElem?_getD, List.getElem?_eq_getElem il]; rfl
   have tg := Z9 F.R.cells i
   have rr := hrow.stay j2
   refine (f_unit F x.told _ _ V j1 i n _ hn il ge NB w1 sz.2.1 rr.sees (by omega) (by omega) (by omega) (by omega)).mono ?_
   rintro e W' ⟨hv, q1, q2⟩
   exact ⟨hv, by rw [Js]; exact q1, j2.trans q2, j3.stay q2⟩)
  (fun pre V hj => ⟨hj.2.2.sees, (hrow.stay hj.2.1).sees⟩)
  (fun pre V V' hj hb => ⟨hj.1.below hb, hj.2.1.trans (KeepT.below hb), hj.2.2.below hb⟩) W ⟨h1, h4, h2⟩
 rw [len, <- h3] at U
 rw [<- h3]
 exact U.mono fun e w' ⟨hv, q⟩ => ⟨hv, q.1, q.2.1⟩
theorem JP {x : Wri} {r : Scr} (hr : zh r = true) (hl : x.told = true -> zh x.last = true) (ht : x.tel.text.size <= 400000000000) (h0 : 0 <= x.tel.x) (h1 : x.tel.x <= 5000) (hs : totS r.cells <= 1000000000) :
  (midT x r).out.size <= 2000000000 /\ (midT x r).text.size <= 400000000000 /\ 0 <= (midT x r).x /\ (midT x r).x <= 5000 := by
 refine Qg hr hl ht h0 h1 hs (List.prefix_refl _) ?_
 obtain ⟨r1, r2, _⟩ := zQ hr
 have sz := qS r1
 rcases Int.lt_or_le r.w 1 with z | z
 ·have e : r.w = 0 := by omega
  rw [e, Int.zero_mul] at r2
  have e2 : r.cells = [] := List.length_eq_zero_iff.1 (by omega)
  rw [e2, jS]
  exact Or.inr rfl
 ·exact Or.inl z
def goC (t : Tel) (r : Scr) : Bool := r.shown && (!t.place || decide (t.x ≠ r.x) || decide (t.y ≠ r.y))
theorem JQ {t : Tel} {r : Scr} (hr : zh r = true) (h1 : t.out.size <= 2000000000) (h2 : t.text.size <= 400000000000) (h3 : 0 <= t.x) (h4 : t.x <= 5000) : (ja t r).out.size <= 2000000100 /\ (ja t r).text.size <= 400000000000 /\ 0 <= (ja t r).x /\ (ja t r).x <= 5000 := by
 obtain ⟨r1, _, _, r4⟩ := zQ hr
 have sz := qS r1
 unfold ja
 split
 ·rename_i g
  simp only [Bool.and_eq_true] at g
  unfold qK at r4
  rw [if_pos g.1] at r4
  simp only [Bool.and_eq_true, decide_eq_true_eq] at r4
  have := kV r.x r.y (by omega) (by omega) (by omega) (by omega)
  exact ⟨by show (t.out ++ qM r.x r.y).size <= _; rw [ByteArray.size_append]; omega, Nat.zero_le _, by show 0 <= r.x; omega, by show r.x <= 5000; omega⟩
 ·exact ⟨by omega, h2, h3, h4⟩
def FrRet (b : Nat) (x : Wri) (s : Scr) (w : World) (e : Ending) (w' : World) : Prop :=
 ∃ v LA Lc, e = .returned (.tuple #[v, .int .i64 0]) /\ w'.ownsRow w.heap.size 5 1 v (qd x (redS s x.depth)).out.size (Lib.strCells (qd x (redS s x.depth)).out) /\ WrAt w' b (xL x s) LA Lc /\ w.grownBy w' (some b)
set_option maxHeartbeats 64000000 in
set_option maxRecDepth 100000 in
theorem d_Frame (b : Nat) (x : Wri) (LA : Option Addr) (Lc : Nat) (s : Scr) (A : Option Addr) (c : Nat) (w : World) (E : EnvD w) (nb : b ≠ 1 /\ b ≠ 0 /\ b ≠ 2) (hx : WrAt w b x LA Lc) (hs : ScrAt w w.heap.size s A c) (hr : zh s = true) (ht : totS s.cells <= 1000000000) :
  Calls Tryz.prog 27 #[.pointer (some ⟨b, 0, none⟩), scrV s A c] w (FrRet b x s w) := by
 obtain ⟨Q, hQ⟩ : ∃ Q, Q = (w.alloc (.cells #[.pointer (some ⟨b, 0, none⟩)] 63)).alloc (.cells #[.int .i64 s.w, .int .i64 s.h, .slice A s.cells.length c, .int .i64 s.x, .int .i64 s.y, .bool s.shown] 24) := ⟨_, rfl⟩
 have BQ : Below w.heap.size w Q := by rw [hQ]; exact ((Below.refl _ w).alloc Xm _).alloc (by simp) _
 have OP : Own1 Q w.heap.size [.pointer (some ⟨b, 0, none⟩)] 63 := by
  rw [hQ]
  exact Own1.below (World.alloc_heap_new w _) ((Below.refl _ _).alloc Xm _)
 have KS : Blk Q (w.heap.size + 1) [.int .i64 s.w, .int .i64 s.h, .slice A s.cells.length c, .int .i64 s.x, .int .i64 s.y, .bool s.shown] := by
  have := Blk.new (w.alloc (.cells #[.pointer (some ⟨b, 0, none⟩)] 63)) [.int .i64 s.w, .int .i64 s.h, .slice A s.cells.length c, .int .i64 s.x, .int .i64 s.y, .bool s.shown] 24
  have e : (w.alloc (.cells #[.pointer (some ⟨b, 0, none⟩)] 63)).heap.size = w.heap.size + 1 := by simp
  rw [e] at this
  rw [hQ]
  exact this
 have bl := hx.own.lt
 have HX := Xk (hx.below BQ)
 obtain ⟨R, hR⟩ : ∃ R, R = redS s x.depth := ⟨_, rfl⟩
 have RL : R.cells.length = s.cells.length := by rw [hR]; simp [redS, redL]
 have RR : Hid (zh R = true /\ totS R.cells <= 1000000000) := Xk (by rw [hR]; exact ⟨Jp x.depth hr, by show totS (redL s.cells x.depth) <= _; rw [totS_red]; exact ht⟩)
 have RD : Hid (∀ W, Below Q.heap.size Q W -> Calls Tryz.prog 9 #[scrV s A c, .int .i64 x.depth] W fun e w' => ∃ g, e = .returned (.tuple #[.agg #[.int .i64 R.w, .int .i64 R.h, .slice (some ⟨g, 0, none⟩) s.cells.length s.cells.length, .int .i64 R.x, .int .i64 R.y, .bool R.shown], .int .i64 0]) /\ Below W.heap.size W w' /\ Hid (Below Q.heap.size Q w' /\ TRow w' (some ⟨g, 0, none⟩) R.cells)) :=
  Xk (fun W hW => (ZT s x.depth A c hs.cap hs.nil hs.len hs.ok hr _ ((hs.below (BQ.trans (hW.mono BQ.size))).more (Nat.le_trans BQ.size hW.size)).sees).mono fun e w' ⟨g, h1, h2, h3⟩ => ⟨g, by rw [h1, <- hR]; simp only [scrV, RL], h3, Xk ⟨hW.trans (h3.mono hW.size), by rw [hR]; exact TRow.of_own h2⟩⟩)
 have RN := Xk RL
 have FW : Hid (∀ e w', FrRet b x s w e w' ↔ ∃ v LA Lc, e = .returned (.tuple #[v, .int .i64 0]) /\ w'.ownsRow w.heap.size 5 1 v (qd x R).out.size (Lib.strCells (qd x R).out) /\ WrAt w' b ⟨x.depth, true, R, qd x R, s.shown⟩ LA Lc /\ w.grownBy w' (some b)) := Xk (by rw [hR]; intro e w'; exact Iff.rfl)
 have SH : Hid (s.shown = R.shown) := Xk (by rw [hR]; rfl)
 have b0 := HX.out.own.blk.c 0 _ rfl
 have p0 := OP.blk.c 0 _ rfl
 have s0 := KS.c 0 _ rfl
 have s1 := KS.c 1 _ rfl
 have s2 := KS.c 2 _ rfl
 have s3 := KS.c 3 _ rfl
 have s4 := KS.c 4 _ rfl
 have s5 := KS.c 5 _ rfl
 have HB := Xk BQ
 have HOP := Xk OP
 have HE := Xk E
 simp only [scrV] at RD ⊢
 generalize s.cells.length = N at *
 clear KS hx hs hr ht RL OP hR E
 have QS : w.heap.size + 2 = Q.heap.size := by rw [hQ]; simp
 have hbq : b < Q.heap.size := by omega
 have hq0 : w.heap.size < Q.heap.size := by omega
 have hq1 : w.heap.size + 1 < Q.heap.size := by omega
 clear QS BQ
 go_enter Tryz.func27, Tryz.ntmps27
 go_upto_region 3 with fail
 rw [<- hQ]
 clear hQ
 go_cut [6, 7] from 15 to 23 (fun s6 s7 wx => s7 = .int .i64 0 /\ ∃ r g, s6 = .pointer (some ⟨r, 0, none⟩) /\ Hid (Fr3 Q r g R N wx))
 case first =>
  --Q(
  go_region_with ((go_at_call 9; refine (RD.out _ (by first | exact (Below.refl _ Q).drew | exact ((Below.refl _ Q).alloc Xm _).drew)).mono ?_; rintro e w1 ⟨g, rfl, hb1, hw1⟩; obtain ⟨hc, hf, hz⟩ := qG hb1))
  all_goals
   have HB1 := Xk hb1
   clear hc hf hb1 hz
   go_wp2_with fail
   go_meet
   first
   | (with_reducible exact ⟨rfl, _, g, rfl, Xk (fr3B hw1.out.1 hw1.out.2)⟩)
   | (exact ⟨rfl, _, g, rfl, Xk (fr3A HB1.out hw1.out.2)⟩)
  --)Q
 case rest =>
  obtain ⟨rfl, r, g, rfl, h3⟩ := hcut
  clear RD b0 p0 s0 s1 s2 s3 s4 s5
  have e6 : (decide (R.cells.length = N)) = true := by rw [RN.out]; simp
  go_upto_region 9 with fail
  obtain ⟨F, hF⟩ : ∃ F : Fix, F = ⟨wc, b, w.heap.size, r, x.depth, x.last.w, x.last.h, LA, x.last.cells.length, Lc, x.last.x, x.last.y, x.last.shown, R, some ⟨g, 0, none⟩, N⟩ := ⟨_, rfl⟩
  have OK : FixOk F := by
   have hq := h3.out
   have hqs := hq.below.size
   have hrq := hq.rq
   have hown := hq.own
   unfold scrL at hown
   rw [hF]
   refine ⟨?_, ?_, ?_, ?_, nb, HOP.out.below hq.below, ?_⟩
   ·show w.heap.size ≠ b
    omega
   ·show r ≠ b
    omega
   ·show b < wc.heap.size
    omega
   ·exact HE.out.of_below (HB.out.trans (hq.below.mono HB.out.size)) Xm
   ·show Own1 wc r [.int .i64 R.w, .int .i64 R.h, .slice (some ⟨g, 0, none⟩) R.cells.length N, .int .i64 R.x, .int .i64 R.y, .bool R.shown] 24
    rw [RN.out]
    exact hown
  have H0 := JN F OK x.told ⟨x.tel.place, x.tel.x, x.tel.y, x.tel.st, x.tel.text, zB⟩ x.shown (by rw [hF]; exact HX.out.own.below h3.out.below) rfl
  have eo : wc.heap.size = F.o := by rw [hF]; rfl
  have ew : wc = F.w0 := by rw [hF]
  have ep : w.heap.size = F.p := by rw [hF]
  have eb : b = F.b := by rw [hF]
  have er : r = F.r := by rw [hF]
  have EQ := Xk hF
  rw [eo, ep, eb, er, ew]
  obtain ⟨V, hV⟩ : ∃ V, V = (((F.w0.alloc (.cells #[.slice none 0 0] 66)).alloc (.cells #[.func (.func 45) #[] #[.pointer (some ⟨F.o, 0, none⟩), .pointer (some ⟨F.p, 0, none⟩)]] 87)).alloc (.cells #[.func (.func 46) #[] #[.pointer (some ⟨F.o + 1, 0, none⟩), .pointer (some ⟨F.p, 0, none⟩)]] 71)) := ⟨_, rfl⟩
  rw [<- hV] at H0 ⊢
  have LR : Hid (TRow F.w0 (some ⟨g, 0, none⟩) R.cells /\ (x.told = true -> zh x.last = true /\ TRow F.w0 LA x.last.cells) /\ 0 <= x.tel.x /\ x.tel.x <= 5000 /\ x.tel.text.size <= 400000000000) := Xk (by
   have hx := HX.out.below h3.out.below
   rw [<- ew]
   exact ⟨h3.out.row, hx.last, hx.tx.1, hx.tx.2, hx.tt⟩)
  have BW : Hid (Below w.heap.size w F.w0) := Xk (by rw [<- ew]; exact HB.out.trans (h3.out.below.mono HB.out.size))
  have KV : Hid (KeepT F.w0 V) := Xk (by
   rw [hV]
   exact KeepT.below ((((Below.refl _ _).alloc Xm _).alloc (by simp) _).alloc (by simp; omega) _))
  have pc := H0.bp.blk.c 0 _ rfl
  have b4 := H0.bw.blk.c 4 _ rfl
  have H0 := Xk H0
  have EB := Xk eb
  have EP := Xk ep
  have BO := OK.bo
  have PB := OK.pb
  have RB := OK.rb
  clear hF hV eo ew ep eb er OK h3 HX HOP HE hbq hq0 hq1 nb bl e6
  go_upto_region 10 with fail
  rw [show F.o + 1 + 1 = F.o + 2 from rfl]
  obtain ⟨G, hG⟩ : ∃ G, G = newB x F.R := ⟨_, rfl⟩
  have HG := Xk hG
  have GE : Hid (∀ a b c : Bool, x.told = a -> (F.LW != F.R.w) = b -> (F.LH != F.R.h) = c -> G = (!a || b || c)) := Xk (by
   intro a b c ha hb hc
   rw [hG, <- ha, <- hb, <- hc, EQ.out]
   unfold newB
   simp only [Qh])
  clear hG b4
  have gp := fun d os => (H0.out.bp.blk.regrown d os).c 0 _ rfl
  have g1 := fun d os => (H0.out.bw.blk.regrown d os).c 1 _ rfl
  have g2 := fun d os => (H0.out.bw.blk.regrown d os).c 2 _ rfl
  have g3 := fun d os => (H0.out.bw.blk.regrown d os).c 3 _ rfl
  have r0 := fun d os => (H0.out.br.blk.regrown d os).c 0 _ rfl
  have r1 := fun d os => (H0.out.br.blk.regrown d os).c 1 _ rfl
  go_cut [58] from 34 to 58 (fun s58 wx => s58 = .bool G /\ Hid (Below V.heap.size V wx))
  case first =>
   --Q(
   generalize x.told = tl at *
   cases tl with
   | false =>
    have RG : Hid (G = true) := Xk (GE.out false _ _ rfl rfl rfl)
    refine zo 24 [] [] (by kernel_rfl) (by kernel_rfl) (by kernel_rfl) (by intro t ht; cases ht) ?_
    simp only [Xn, Xo, Xp, Xq]
    repeat (refine zf (by rfl) (fun K hK => ?_); go_simp; first | (refine hK _ ?_; clear hK K) | (apply Exists.intro; refine ⟨fun _ => ?_, hK _ ?_⟩; (fail); clear hK K))
    refine zn ?_
    intro W8 vs8 hl hv
    have hb8 := Xk (zj.1 hl)
    clear hl hv
    simp only [ze]
    go_wp2_with fail
    go_meet
    exact ⟨by rw [RG.out], hb8⟩
   | true =>
    cases q1 : (F.LW != F.R.w) with
    | true =>
     have RG : Hid (G = true) := Xk (GE.out true _ _ rfl q1 rfl)
     refine zo 24 [] [] (by kernel_rfl) (by kernel_rfl) (by kernel_rfl) (by intro t ht; cases ht) ?_
     simp only [Xn, Xo, Xp, Xq]
     repeat (refine zf (by rfl) (fun K hK => ?_); go_simp; first | (refine hK _ ?_; clear hK K) | (apply Exists.intro; refine ⟨fun _ => ?_, hK _ ?_⟩; (fail); clear hK K))
     refine zn ?_
     intro W8 vs8 hl hv
     have hb8 := Xk (zj.1 hl)
     clear hl hv
     simp only [ze]
     go_wp2_with fail
     go_meet
     exact ⟨by rw [RG.out], hb8⟩
    | false =>
     cases q2 : (F.LH != F.R.h) with
     | true =>
      have RG : Hid (G = true) := Xk (GE.out true _ _ rfl q1 q2)
      refine zo 24 [] [] (by kernel_rfl) (by kernel_rfl) (by kernel_rfl) (by intro t ht; cases ht) ?_
      simp only [Xn, Xo, Xp, Xq]
      repeat (refine zf (by rfl) (fun K hK => ?_); go_simp; first | (refine hK _ ?_; clear hK K) | (apply Exists.intro; refine ⟨fun _ => ?_, hK _ ?_⟩; (fail); clear hK K))
      refine zn ?_
      intro W8 vs8 hl hv
      have hb8 := Xk (zj.1 hl)
      clear hl hv
      simp only [ze]
      go_wp2_with fail
      go_meet
      exact ⟨by rw [RG.out], hb8⟩
     | false =>
      have RG : Hid (G = false) := Xk (GE.out true _ _ rfl q1 q2)
      refine zo 24 [] [] (by kernel_rfl) (by kernel_rfl) (by kernel_rfl) (by intro t ht; cases ht) ?_
      simp only [Xn, Xo, Xp, Xq]
      repeat (refine zf (by rfl) (fun K hK => ?_); go_simp; first | (refine hK _ ?_; clear hK K) | (apply Exists.intro; refine ⟨fun _ => ?_, hK _ ?_⟩; (fail); clear hK K))
      refine zn ?_
      intro W8 vs8 hl hv
      have hb8 := Xk (zj.1 hl)
      clear hl hv
      simp only [ze]
      go_wp2_with fail
      go_meet
      exact ⟨by rw [RG.out], hb8⟩
   --)Q
  case rest =>
   obtain ⟨rfl, hbc⟩ := hcut
   obtain ⟨wa, hwa⟩ : ∃ wa, wa = wc := ⟨_, rfl⟩
   rw [<- hwa] at hbc ⊢
   have HA := Xk (H0.out.below hbc.out)
   have KA := Xk (KV.out.trans (KeepT.below hbc.out))
   clear hwa hbc gp g1 g2 g3 r0 r1 GE pc
   go_upto_if 58 with fail
   go_cut [11] from 12 to 91 (fun s11 wx => ∃ A1 M c1, s11 = .slice A1 M c1 /\ Hid (xW F x G F.w0 A1 M wx))
   case first =>
    cases G with
    | false =>
     have LS : Hid (xW F x false F.w0 F.LA F.Ln wa) := Xk (by
      have nw := HG.out
      unfold newB at nw
      simp only [Bool.false_eq, Bool.or_eq_false_iff, Bool.not_eq_false', decide_eq_false_iff_not, Decidable.not_not] at nw
      obtain ⟨⟨n1, n2⟩, n3⟩ := nw
      obtain ⟨l1, l2, _⟩ := LR.out
      obtain ⟨m1, m2⟩ := l2 n1
      have e1 := (zQ m1).2.1
      have e2 := (zQ RR.out.1).2.1
      have eR : F.R = R := by rw [EQ.out]
      rw [eR] at n2 n3
      rw [n2, n3] at e1
      refine ⟨?_, ?_, ?_, KA.out, HA.out.gr.size⟩
      ·have e3 : zN x false = ⟨x.tel.place, x.tel.x, x.tel.y, x.tel.st, x.tel.text, zB⟩ := rfl
       rw [e3, Bool.not_false, Bool.and_true]
       exact HA.out
      ·have eL : F.LA = LA := by rw [EQ.out]
       rw [eL]
       exact m2.keep KA.out HA.out.gr.size
      ·have eN : F.Ln = x.last.cells.length := by rw [EQ.out]
       rw [eN, eR]
       omega)
     go_wp2_with fail
     go_meet
     exact ⟨_, _, _, rfl, LS⟩
    | true =>
     have gs := HA.out.bs.blk.c 0 _ rfl
     go_wp2_with fail
     refine (xq F x.told _ x.shown wa HA.out qU (by rw [JK]; show 0 + 22 <= _; omega)).mono ?_; rintro e w9 ⟨⟨v, rfl⟩, h9, k9⟩
     have pc := h9.bp.blk.c 0 _ rfl
     have b11 := h9.bw.blk.c 11 _ rfl
     have q11 := h9.bw.blk.f 11 _ rfl
     have b12 := h9.bw.blk.c 12 _ rfl
     have q12 := h9.bw.blk.f 12 _ rfl
     have b13 := h9.bw.blk.c 13 _ rfl
     have q13 := h9.bw.blk.f 13 _ rfl
     have b14 := h9.bw.blk.c 14 _ rfl
     have q14 := h9.bw.blk.f 14 _ rfl
     have b8 := h9.bw.blk.c 8 _ rfl
     have q8 := h9.bw.blk.f 8 _ rfl
     have b9 := h9.bw.blk.c 9 _ rfl
     have q9 := h9.bw.blk.f 9 _ rfl
     have b10 := h9.bw.blk.c 10 _ rfl
     have q10 := h9.bw.blk.f 10 _ rfl
     have H9 := Xk h9
     have K9 := Xk k9
     have PB2 : F.b ≠ F.p := fun e => PB e.symm
     clear h9 k9 gs HA
     go_upto_region 12 with fail
     go_region
     go_upto_region 13 with fail
     go_region
     go_upto_region 14 with fail
     obtain ⟨V3, hV3⟩ : ∃ V3, V3 = (((((((w9.setCell ⟨F.b, 11, none⟩ (.int .i32 0)).setCell ⟨F.b, 12, none⟩ (.int .i32 0)).setCell ⟨F.b, 13, none⟩ (.int .u8 0)).setCell ⟨F.b, 14, none⟩ (.bool false)).setCell ⟨F.b, 9, none⟩ (.int .i64 0)).setCell ⟨F.b, 10, none⟩ (.int .i64 0)).setCell ⟨F.b, 8, none⟩ (.bool true)).drew.drew := ⟨_, rfl⟩
     rw [<- hV3]
     have R3 : Hid (FrSt F x.told (zN x true) false V3 /\ KeepT F.w0 V3 /\ F.w0.heap.size <= V3.heap.size) := Xk (by
      obtain ⟨a1, k1⟩ := H9.out.setW (told' := x.told) (t' := ⟨x.tel.place, x.tel.x, x.tel.y, ⟨0, x.tel.st.bg, x.tel.st.at_⟩, zB, zB ++ qU⟩) (shn' := x.shown) 11 (.int .i32 0) rfl rfl
      obtain ⟨a2, k2⟩ := a1.setW (told' := x.told) (t' := ⟨x.tel.place, x.tel.x, x.tel.y, ⟨0, 0, x.tel.st.at_⟩, zB, zB ++ qU⟩) (shn' := x.shown) 12 (.int .i32 0) rfl rfl
      obtain ⟨a3, k3⟩ := a2.setW (told' := x.told) (t' := ⟨x.tel.place, x.tel.x, x.tel.y, z8, zB, zB ++ qU⟩) (shn' := x.shown) 13 (.int .u8 0) rfl rfl
      obtain ⟨a4, k4⟩ := a3.setW (told' := x.told) (t' := ⟨x.tel.place, x.tel.x, x.tel.y, z8, zB, zB ++ qU⟩) (shn' := false) 14 (.bool false) rfl rfl
      obtain ⟨a5, k5⟩ := a4.setW (told' := x.told) (t' := ⟨x.tel.place, 0, x.tel.y, z8, zB, zB ++ qU⟩) (shn' := false) 9 (.int .i64 0) rfl rfl
      obtain ⟨a6, k6⟩ := a5.setW (told' := x.told) (t' := ⟨x.tel.place, 0, 0, z8, zB, zB ++ qU⟩) (shn' := false) 10 (.int .i64 0) rfl rfl
      obtain ⟨a7, k7⟩ := a6.setW (told' := x.told) (t' := ⟨true, 0, 0, z8, zB, zB ++ qU⟩) (shn' := false) 8 (.bool true) rfl rfl
      have dr : ∀ X : World, Below X.heap.size X X.drew.drew := fun X => (Below.refl _ X).drew.drew
      have kk := ((((((((KA.out.trans K9.out).trans k1).trans k2).trans k3).trans k4).trans k5).trans k6).trans k7)
      rw [zB_app] at a7
      rw [hV3]
      exact ⟨a7.below (dr _), kk.trans (KeepT.below (dr _)), (a7.below (dr _)).gr.size⟩)
     clear hV3 pc b11 q11 b12 q12 b13 q13 b14 q14 b8 q8 b9 q9 b10 q10 H9 K9 KA PB2
     obtain ⟨i0, hi0, hz0, hz1, hz2⟩ := info_parts infoL
     have c2 := R3.out.1.br.blk.c 2 _ rfl
     have NB : F.R.cells.length <= 1048576 := by
      rw [EQ.out]
      obtain ⟨r1, r2, _⟩ := zQ RR.out.1
      have := (qS r1).2.2.2.2
      show R.cells.length <= 1048576
      omega
     obtain ⟨M, hM⟩ : ∃ M, M = F.R.cells.length := ⟨_, rfl⟩
     have HM := Xk hM
     rw [<- hM] at c2 NB
     clear hM
     have hmk1 : i0.bytes * M <= 281474976710656 := by rw [hz2]; omega
     have hmk2 : M <= maxLen := by unfold maxLen; omega
     have lo3 : F.o + 3 <= V3.heap.size := R3.out.1.sz
     go_wp2_with (at_make; refine wpList_make_full _ rfl _ _ _ rfl (F.o + 3) 58 i0 (.agg #[.string ⟨#[]⟩, .int .i8 0, .int .i32 0, .int .i32 0, .int .u8 0]) 5 Tryz.underlying22 hi0 hz0 hz1 .i64 .i64 M M M rfl rfl rfl rfl hmk1 hmk2 lo3 ?_; intro w2 hown hg2)
     have F0 : Hid (∃ xs, FillSt F x.told (zN x true) false F.w0 (F.o + 3) V3.heap.size M xs w2 /\ xs.take (0 * 5) = zc (List.replicate 0 jD)) := Xk ⟨_, ⟨R3.out.1.below ((Below.refl _ V3).grown hg2 Xm (by simp)), hown, R3.out.2.1.trans (KeepT.below ((Below.refl _ V3).grown hg2 Xm (by simp))), Nat.le_trans R3.out.2.2 hg2.size, R3.out.2.2, lo3⟩, by simp [zc]⟩
     obtain ⟨g2, hg⟩ : ∃ g2, g2 = V3.heap.size := ⟨_, rfl⟩
     rw [<- hg] at F0 ⊢
     clear hown hg2 c2 R3 hg lo3
     go_loopw [83] (fun i wr => ∃ k : Nat, k <= M /\ i = .int .i64 k /\ Hid (∃ xs, FillSt F x.told (zN x true) false F.w0 (F.o + 3) g2 M xs wr /\ xs.take (k * 5) = zc (List.replicate k jD))) (fun i _ => M - (intOf i).toNat)
     case atStart => exact ⟨0, Nat.zero_le _, rfl, F0⟩
     case round =>
      obtain ⟨k, hk, rfl, hf⟩ := hrel
      clear F0
      by_cases lt : k < M
      ·obtain ⟨xs, fs, tk⟩ := hf.out
       have FS := Xk fs
       have TK := Xk tk
       clear fs tk hf
       go_wp2_with fail
       refine (d_Blank0 wr).mono ?_; rintro e w3 ⟨rfl, hb3⟩
       have O3 := FS.out.below hb3
       have xl : xs.length = M * 5 := O3.own.1
       have rc : ∀ j, j < 5 -> ∃ v, xs[k * 5 + j]? = some v := fun j hj => ⟨_, List.getElem?_eq_getElem (by omega)⟩
       obtain ⟨v0, hv0⟩ := rc 0 (by decide)
       obtain ⟨v1, hv1⟩ := rc 1 (by decide)
       obtain ⟨v2, hv2⟩ := rc 2 (by decide)
       obtain ⟨v3, hv3⟩ := rc 3 (by decide)
       obtain ⟨v4, hv4⟩ := rc 4 (by decide)
       have y0 : w3.cell? ⟨g2, k * 5, none⟩ = some v0 := (O3.own.cellAt (k * 5) (by omega)).trans hv0
       have y1 : w3.cell? ⟨g2, k * 5 + 1, none⟩ = some v1 := (O3.own.cellAt (k * 5 + 1) (by omega)).trans hv1
       have y2 : w3.cell? ⟨g2, k * 5 + 2, none⟩ = some v2 := (O3.own.cellAt (k * 5 + 2) (by omega)).trans hv2
       have y3 : w3.cell? ⟨g2, k * 5 + 3, none⟩ = some v3 := (O3.own.cellAt (k * 5 + 3) (by omega)).trans hv3
       have y4 : w3.cell? ⟨g2, k * 5 + 4, none⟩ = some v4 := (O3.own.cellAt (k * 5 + 4) (by omega)).trans hv4
       have p0 := O3.own.frozenAt (k * 5)
       have p1 := O3.own.frozenAt (k * 5 + 1)
       have p2 := O3.own.frozenAt (k * 5 + 2)
       have p3 := O3.own.frozenAt (k * 5 + 3)
       have p4 := O3.own.frozenAt (k * 5 + 4)
       have NO : Hid (∃ xs, FillSt F x.told (zN x true) false F.w0 (F.o + 3) g2 M xs (((((w3.setCell ⟨g2, k * 5, none⟩ (.string ⟨#[32]⟩)).setCell ⟨g2, k * 5 + 1, none⟩ (.int .i8 1)).setCell ⟨g2, k * 5 + 2, none⟩ (.int .i32 0)).setCell ⟨g2, k * 5 + 3, none⟩ (.int .i32 0)).setCell ⟨g2, k * 5 + 4, none⟩ (.int .u8 0)) /\ xs.take ((k + 1) * 5) = zc (List.replicate (k + 1) jD)) := Xk (by
        refine ⟨_, ((((O3.store (k * 5) (.string ⟨#[32]⟩)).store (k * 5 + 1) (.int .i8 1)).store (k * 5 + 2) (.int .i32 0)).store (k * 5 + 3) (.int .i32 0)).store (k * 5 + 4) (.int .u8 0), ?_⟩
        rw [show (k + 1) * 5 = k * 5 + 5 by omega, set5 _ _ _ _ _ _ _ (by omega), TK.out, rep_snoc])
       clear O3 rc hv0 hv1 hv2 hv3 hv4 hb3 xl
       go_wp2_with fail
       go_roundw
       case rel => exact ⟨k + 1, by omega, by go_num, NO⟩
       case measure => simp [intOf]; omega
      ·have e : k = M := by omega
       subst e
       obtain ⟨xs, fs, tk⟩ := hf.out
       have xl : xs.length = k * 5 := fs.own.1
       rw [List.take_of_length_le (by omega)] at tk
       subst tk
       have LS : Hid (xW F x true F.w0 (some ⟨g2, 0, none⟩) k wr) := Xk (by
        have ow := fs.own
        refine ⟨by rw [Bool.not_true, Bool.and_false]; exact fs.st, ?_, HM.out, fs.keep, fs.size⟩
        have : qE x true F.R = List.replicate k jD := by unfold qE; rw [if_pos rfl, <- HM.out]
        rw [this]
        exact TRow.of_own ow)
       clear fs hf xl
       go_wp2_with fail
       go_meet
       exact ⟨_, _, _, rfl, LS⟩
   case rest =>
    obtain ⟨A1, M, c1, rfl, hl⟩ := hcut
    obtain ⟨wb, hwb⟩ : ∃ wb, wb = wc := ⟨_, rfl⟩
    rw [<- hwb] at hl ⊢
    have eR : F.R = R := by rw [EQ.out]
    have eA : F.RA = some ⟨g, 0, none⟩ := by rw [EQ.out]
    have U := Xk (fr_units F x G HG.out A1 c1 wb (by rw [eR]; exact RR.out.1) (by rw [eR]; exact RR.out.2) (fun e => (LR.out.2.1 e).1) LR.out.2.2.1 LR.out.2.2.2.1 LR.out.2.2.2.2 (by rw [eR, eA]; exact LR.out.1) M hl.out)
    have HB1 := Xk hl.out.1
    have r2 := HB1.out.br.blk.c 2 _ rfl
    clear hwb hl HA KA eR eA
    go_wp2_with fail
    refine U.out.mono ?_; rintro e w7 ⟨⟨v0, rfl⟩, h7, k7⟩
    have H7 := Xk h7
    have K7 := Xk k7
    clear h7 k7 r2 U HB1
    go_upto_region 21 with fail
    obtain ⟨T, hT⟩ : ∃ T, T = midT x F.R := ⟨_, rfl⟩
    have HT := Xk hT
    rw [<- hT] at H7
    obtain ⟨C, hC⟩ : ∃ C, C = goC T F.R := ⟨_, rfl⟩
    have HC := Xk hC
    have TB : T.out.size <= 2000000000 /\ T.text.size <= 400000000000 /\ 0 <= T.x /\ T.x <= 5000 := by
     rw [hT]
     have eR : F.R = R := by rw [EQ.out]
     rw [eR]
     exact JP RR.out.1 (fun e => (LR.out.2.1 e).1) LR.out.2.2.2.2 LR.out.2.2.1 LR.out.2.2.2.1 RR.out.2
    clear hT hC
    have gp := fun d os => (H7.out.bp.blk.regrown d os).c 0 _ rfl
    have g8 := fun d os => (H7.out.bw.blk.regrown d os).c 8 _ rfl
    have g9 := fun d os => (H7.out.bw.blk.regrown d os).c 9 _ rfl
    have g10 := fun d os => (H7.out.bw.blk.regrown d os).c 10 _ rfl
    have r3 := fun d os => (H7.out.br.blk.regrown d os).c 3 _ rfl
    have r4 := fun d os => (H7.out.br.blk.regrown d os).c 4 _ rfl
    have r5 := fun d os => (H7.out.br.blk.regrown d os).c 5 _ rfl
    go_cut [123] from 97 to 123 (fun s wx => s = .bool C /\ Hid (Below w7.heap.size w7 wx))
    case first =>
     --Q(
     unfold goC at HC
     simp only [<- Qh] at HC
     cases q0 : F.R.shown with
     | false =>
      rw [q0] at r5
      have RG : Hid (C = false) := Xk (by rw [HC.out, q0]; rfl)
      clear q0
      refine zo 26 [] [] (by kernel_rfl) (by kernel_rfl) (by kernel_rfl) (by intro t ht; cases ht) ?_
      simp only [Xn, Xo, Xp, Xq]
      repeat (refine zf (by rfl) (fun K hK => ?_); go_simp; first | (refine hK _ ?_; clear hK K) | (apply Exists.intro; refine ⟨fun _ => ?_, hK _ ?_⟩; (fail); clear hK K))
      refine zn ?_
      intro W8 vs8 hl hv
      have hb8 := Xk (zj.1 hl)
      clear hl hv
      simp only [ze]
      go_wp2_with fail
      go_meet
      exact ⟨by rw [RG.out], hb8⟩
     | true =>
      rw [q0] at r5
      cases q1 : T.place with
      | false =>
       rw [q1] at g8
       have RG : Hid (C = true) := Xk (by rw [HC.out, q0, q1]; rfl)
       clear q0 q1
       refine zo 26 [] [] (by kernel_rfl) (by kernel_rfl) (by kernel_rfl) (by intro t ht; cases ht) ?_
       simp only [Xn, Xo, Xp, Xq]
       repeat (refine zf (by rfl) (fun K hK => ?_); go_simp; first | (refine hK _ ?_; clear hK K) | (apply Exists.intro; refine ⟨fun _ => ?_, hK _ ?_⟩; (fail); clear hK K))
       refine zn ?_
       intro W8 vs8 hl hv
       have hb8 := Xk (zj.1 hl)
       clear hl hv
       simp only [ze]
       go_wp2_with fail
       go_meet
       exact ⟨by rw [RG.out], hb8⟩
      | true =>
       rw [q1] at g8
       cases q2 : (T.x != F.R.x) with
       | true =>
        have RG : Hid (C = true) := Xk (by rw [HC.out, q0, q1, q2]; rfl)
        clear q0 q1
        refine zo 26 [] [] (by kernel_rfl) (by kernel_rfl) (by kernel_rfl) (by intro t ht; cases ht) ?_
        simp only [Xn, Xo, Xp, Xq]
        repeat (refine zf (by rfl) (fun K hK => ?_); go_simp; first | (refine hK _ ?_; clear hK K) | (apply Exists.intro; refine ⟨fun _ => ?_, hK _ ?_⟩; (fail); clear hK K))
        refine zn ?_
        intro W8 vs8 hl hv
        have hb8 := Xk (zj.1 hl)
        clear hl hv
        simp only [ze]
        go_wp2_with fail
        go_meet
        exact ⟨by rw [RG.out], hb8⟩
       | false =>
        cases q3 : (T.y != F.R.y) with
        | true =>
         have RG : Hid (C = true) := Xk (by rw [HC.out, q0, q1, q2, q3]; rfl)
         clear q0 q1
         refine zo 26 [] [] (by kernel_rfl) (by kernel_rfl) (by kernel_rfl) (by intro t ht; cases ht) ?_
         simp only [Xn, Xo, Xp, Xq]
         repeat (refine zf (by rfl) (fun K hK => ?_); go_simp; first | (refine hK _ ?_; clear hK K) | (apply Exists.intro; refine ⟨fun _ => ?_, hK _ ?_⟩; (fail); clear hK K))
         refine zn ?_
         intro W8 vs8 hl hv
         have hb8 := Xk (zj.1 hl)
         clear hl hv
         simp only [ze]
         go_wp2_with fail
         go_meet
         exact ⟨by rw [RG.out], hb8⟩
        | false =>
         have RG : Hid (C = false) := Xk (by rw [HC.out, q0, q1, q2, q3]; rfl)
         clear q0 q1
         refine zo 26 [] [] (by kernel_rfl) (by kernel_rfl) (by kernel_rfl) (by intro t ht; cases ht) ?_
         simp only [Xn, Xo, Xp, Xq]
         repeat (refine zf (by rfl) (fun K hK => ?_); go_simp; first | (refine hK _ ?_; clear hK K) | (apply Exists.intro; refine ⟨fun _ => ?_, hK _ ?_⟩; (fail); clear hK K))
         refine zn ?_
         intro W8 vs8 hl hv
         have hb8 := Xk (zj.1 hl)
         clear hl hv
         simp only [ze]
         go_wp2_with fail
         go_meet
         exact ⟨by rw [RG.out], hb8⟩
     --)Q
    case rest =>
     obtain ⟨rfl, hbc⟩ := hcut
     obtain ⟨wd, hwd⟩ : ∃ wd, wd = wc := ⟨_, rfl⟩
     rw [<- hwd] at hbc ⊢
     have HA := Xk (H7.out.below hbc.out)
     have KA := Xk (K7.out.trans (KeepT.below hbc.out))
     clear hwd hbc gp g8 g9 g10 r3 r4 r5 H7 K7
     obtain ⟨T2, hT2⟩ : ∃ T2, T2 = ja T F.R := ⟨_, rfl⟩
     have HT2 := Xk hT2
     have TB2 : T2.out.size <= 2000000100 /\ T2.text.size <= 400000000000 /\ 0 <= T2.x /\ T2.x <= 5000 := by
      rw [hT2]
      have eR : F.R = R := by rw [EQ.out]
      rw [eR]
      exact JQ RR.out.1 TB.1 TB.2.1 TB.2.2.1 TB.2.2.2
     clear hT2
     go_upto_if 123 with fail
     go_cut [] from 97 to 129 (fun wx => Hid (FrSt F x.told T2 (x.shown && !G) wx /\ KeepT F.w0 wx))
     case first =>
      have r3 := HA.out.br.blk.c 3 _ rfl
      have r4 := HA.out.br.blk.c 4 _ rfl
      have bm := HA.out.bm.blk.c 0 _ rfl
      have TO := TB.1
      cases C with
      | false =>
       have R9 := Xk (show FrSt F x.told T2 (x.shown && !G) wd /\ KeepT F.w0 wd from ⟨by rw [HT2.out, show ja T F.R = T from if_neg (by rw [show (F.R.shown && (!T.place || decide (T.x ≠ F.R.x) || decide (T.y ≠ F.R.y))) = false from HC.out.symm]; decide)]; exact HA.out, KA.out⟩)
       clear HC HT2
       go_wp2_with fail
       go_meet
       exact R9
      | true =>
       have RB : 0 <= F.R.x /\ F.R.x <= 5000 /\ 0 <= F.R.y /\ F.R.y <= 5000 := by
        have eR : F.R = R := by rw [EQ.out]
        have g := HC.out.symm
        unfold goC at g
        simp only [Bool.and_eq_true] at g
        obtain ⟨r1, _, _, q4⟩ := zQ RR.out.1
        have sz := qS r1
        rw [eR] at g ⊢
        unfold qK at q4
        rw [if_pos g.1] at q4
        simp only [Bool.and_eq_true, decide_eq_true_eq] at q4
        omega
       have MV : Hid (T2 = jE T F.R.x F.R.y) := Xk (by rw [HT2.out]; exact if_pos HC.out.symm)
       clear HC HT2
       go_wp2_with fail
       refine (f_move F x.told T (x.shown && !G) wd HA.out F.R.x F.R.y (by omega) (by omega) (by omega) (by omega) (by omega)).mono ?_; rintro e w9 ⟨⟨v, rfl⟩, h9, k9⟩
       rw [<- MV.out] at h9
       have R9 := Xk (show FrSt F x.told T2 (x.shown && !G) w9 /\ KeepT F.w0 w9 from ⟨h9, KA.out.trans k9⟩)
       clear h9 k9
       go_wp2_with fail
       go_meet
       exact R9
     case rest =>
      obtain ⟨we, hwe⟩ : ∃ we, we = wc := ⟨_, rfl⟩
      rw [<- hwe] at hcut ⊢
      have H2 := Xk hcut.out.1
      have K2 := Xk hcut.out.2
      clear hwe hcut HA KA
      obtain ⟨sh, hsh⟩ : ∃ sh, sh = (x.shown && !G) := ⟨_, rfl⟩
      have HSH := Xk hsh
      rw [<- hsh] at H2
      clear hsh
      obtain ⟨D, hD⟩ : ∃ D, D = (F.R.shown && !sh) := ⟨_, rfl⟩
      have HD := Xk hD
      have HD2 : Hid (∀ a b, F.R.shown = a -> sh = b -> D = (a && !b)) := Xk (by rintro _ _ rfl rfl; exact hD)
      clear hD
      have pc := H2.out.bp.blk.c 0 _ rfl
      have b14 := H2.out.bw.blk.c 14 _ rfl
      have r5 := H2.out.br.blk.c 5 _ rfl
      go_upto_region 23 with fail
      go_cut [138] from 130 to 138 (fun s wx => s = .bool D /\ wx = we)
      case first =>
       cases q0 : F.R.shown with
       | false =>
        rw [q0] at r5
        have RG : Hid (D = false) := Xk (HD2.out false _ q0 rfl)
        clear q0 HD2
        go_wp2_with fail
        go_meet
        exact ⟨by rw [RG.out], rfl⟩
       | true =>
        rw [q0] at r5
        cases q1 : sh with
        | false =>
         rw [q1] at b14
         have RG : Hid (D = true) := Xk (HD2.out true false q0 q1)
         clear q0 q1 HD2
         go_wp2_with fail
         go_meet
         exact ⟨by rw [RG.out], rfl⟩
        | true =>
         rw [q1] at b14
         have RG : Hid (D = false) := Xk (HD2.out true true q0 q1)
         clear q0 q1 HD2
         go_wp2_with fail
         go_meet
         exact ⟨by rw [RG.out], rfl⟩
      case rest =>
       obtain ⟨rfl, rfl⟩ := hcut
       clear HD2
       obtain ⟨T3, hT3⟩ : ∃ T3, T3 = if D = true then seqT T2 jV else T2 := ⟨_, rfl⟩
       have HT3 := Xk hT3
       have TB3 : T3.out.size <= 2000000200 /\ T3.text.size <= 400000000000 /\ T3.x = T2.x := by
        rw [hT3]
        split
        ·exact ⟨by show (T2.out ++ jV).size <= _; rw [ByteArray.size_append, Qe]; omega, Nat.zero_le _, rfl⟩
        ·exact ⟨by omega, by omega, rfl⟩
       clear hT3
       go_upto_if 138 with fail
       go_cut [] from 130 to 140 (fun wx => Hid (FrSt F x.told T3 sh wx /\ KeepT F.w0 wx))
       case first =>
        have bs := H2.out.bs.blk.c 0 _ rfl
        have TO := TB2.1
        cases D with
        | false =>
         have R9 := Xk (show FrSt F x.told T3 sh wc /\ KeepT F.w0 wc from ⟨by rw [HT3.out]; exact H2.out, K2.out⟩)
         clear HD HT3
         go_wp2_with fail
         go_meet
         exact R9
        | true =>
         have MV : Hid (T3 = seqT T2 jV) := Xk (by rw [HT3.out]; rfl)
         clear HD HT3
         go_wp2_with fail
         refine (xq F x.told T2 sh wc H2.out jV (by rw [Qe]; omega)).mono ?_; rintro e w9 ⟨⟨v, rfl⟩, h9, k9⟩
         rw [<- MV.out] at h9
         have R9 := Xk (show FrSt F x.told T3 sh w9 /\ KeepT F.w0 w9 from ⟨h9, K2.out.trans k9⟩)
         clear h9 k9
         go_wp2_with fail
         go_meet
         exact R9
       case rest =>
        obtain ⟨wf, hwf⟩ : ∃ wf, wf = wc := ⟨_, rfl⟩
        rw [<- hwf] at hcut ⊢
        have H3 := Xk hcut.out.1
        have K3 := Xk hcut.out.2
        clear hwf hcut H2 K2 pc b14 r5
        obtain ⟨D2, hD2⟩ : ∃ D2, D2 = (!F.R.shown && sh) := ⟨_, rfl⟩
        have HD2 := Xk hD2
        have HD3 : Hid (∀ a b, F.R.shown = a -> sh = b -> D2 = (!a && b)) := Xk (by rintro _ _ rfl rfl; exact hD2)
        clear hD2
        have pc := H3.out.bp.blk.c 0 _ rfl
        have b14 := H3.out.bw.blk.c 14 _ rfl
        have r5 := H3.out.br.blk.c 5 _ rfl
        go_upto_region 25 with fail
        go_cut [149] from 141 to 149 (fun s wx => s = .bool D2 /\ wx = wf)
        case first =>
         cases q0 : F.R.shown with
         | true =>
          rw [q0] at r5
          have RG : Hid (D2 = false) := Xk (HD3.out true _ q0 rfl)
          clear q0 HD3
          go_wp2_with fail
          go_meet
          exact ⟨by rw [RG.out], rfl⟩
         | false =>
          rw [q0] at r5
          cases q1 : sh with
          | false =>
           rw [q1] at b14
           have RG : Hid (D2 = false) := Xk (HD3.out false false q0 q1)
           clear q0 q1 HD3
           go_wp2_with fail
           go_meet
           exact ⟨by rw [RG.out], rfl⟩
          | true =>
           rw [q1] at b14
           have RG : Hid (D2 = true) := Xk (HD3.out false true q0 q1)
           clear q0 q1 HD3
           go_wp2_with fail
           go_meet
           exact ⟨by rw [RG.out], rfl⟩
        case rest =>
         obtain ⟨rfl, rfl⟩ := hcut
         clear HD3
         obtain ⟨T4, hT4⟩ : ∃ T4, T4 = if D2 = true then seqT T3 xh else T3 := ⟨_, rfl⟩
         have HT4 := Xk hT4
         have TB4 : T4.text.size <= 400000000000 /\ T4.x = T2.x := by
          rw [hT4]
          split
          ·exact ⟨Nat.zero_le _, TB3.2.2⟩
          ·exact ⟨TB3.2.1, TB3.2.2⟩
         clear hT4
         go_upto_if 149 with fail
         go_cut [] from 141 to 151 (fun wx => Hid (FrSt F x.told T4 sh wx /\ KeepT F.w0 wx))
         case first =>
          have bs := H3.out.bs.blk.c 0 _ rfl
          have TO := TB3.1
          cases D2 with
          | false =>
           have R9 := Xk (show FrSt F x.told T4 sh wc /\ KeepT F.w0 wc from ⟨by rw [HT4.out]; exact H3.out, K3.out⟩)
           clear HD2 HT4
           go_wp2_with fail
           go_meet
           exact R9
          | true =>
           have MV : Hid (T4 = seqT T3 xh) := Xk (by rw [HT4.out]; rfl)
           clear HD2 HT4
           go_wp2_with fail
           refine (xq F x.told T3 sh wc H3.out xh (by rw [JL]; omega)).mono ?_; rintro e w9 ⟨⟨v, rfl⟩, h9, k9⟩
           rw [<- MV.out] at h9
           have R9 := Xk (show FrSt F x.told T4 sh w9 /\ KeepT F.w0 w9 from ⟨h9, K3.out.trans k9⟩)
           clear h9 k9
           go_wp2_with fail
           go_meet
           exact R9
         case rest =>
          obtain ⟨wg, hwg⟩ : ∃ wg, wg = wc := ⟨_, rfl⟩
          rw [<- hwg] at hcut ⊢
          have H4 := Xk hcut.out.1
          have K4 := Xk hcut.out.2
          have FT : Hid (T4 = qd x F.R) := Xk (by
           rw [HT4.out, HD2.out, HT3.out, HD.out, HT2.out, HT.out, HSH.out, HG.out]
           unfold qd show1 midT
           generalize ja (zZ F.R.w F.R.cells (zN x (newB x F.R)) (zd 0 (qE x (newB x F.R) F.R) F.R.cells)) F.R = t
           cases F.R.shown <;> cases (x.shown && !newB x F.R) <;> rfl)
          clear hwg hcut H3 K3 pc b14 r5 HT4 HD2 HT3 HD HT2 HT HSH HC
          have pc := H4.out.bp.blk.c 0 _ rfl
          have b14 := H4.out.bw.blk.c 14 _ rfl
          have q14 := H4.out.bw.blk.f 14 _ rfl
          have b1 := H4.out.bw.blk.c 1 _ rfl
          have q1 := H4.out.bw.blk.f 1 _ rfl
          have b2 := H4.out.bw.blk.c 2 _ rfl
          have q2 := H4.out.bw.blk.f 2 _ rfl
          have b3 := H4.out.bw.blk.c 3 _ rfl
          have q3 := H4.out.bw.blk.f 3 _ rfl
          have b4 := H4.out.bw.blk.c 4 _ rfl
          have q4 := H4.out.bw.blk.f 4 _ rfl
          have b5 := H4.out.bw.blk.c 5 _ rfl
          have q5 := H4.out.bw.blk.f 5 _ rfl
          have b6 := H4.out.bw.blk.c 6 _ rfl
          have q6 := H4.out.bw.blk.f 6 _ rfl
          have b7 := H4.out.bw.blk.c 7 _ rfl
          have q7 := H4.out.bw.blk.f 7 _ rfl
          have r0 := H4.out.br.blk.c 0 _ rfl
          have r1 := H4.out.br.blk.c 1 _ rfl
          have r2 := H4.out.br.blk.c 2 _ rfl
          have r3 := H4.out.br.blk.c 3 _ rfl
          have r4 := H4.out.br.blk.c 4 _ rfl
          have r5 := H4.out.br.blk.c 5 _ rfl
          have PB2 : F.b ≠ F.p := fun e => PB e.symm
          have RB2 : F.b ≠ F.r := fun e => RB e.symm
          go_upto_region 27 with fail
          go_region
          go_upto_region 28 with fail
          obtain ⟨V9, hV9⟩ : ∃ V9, V9 = ((((((((wg.setCell ⟨F.b, 14, none⟩ (.bool F.R.shown)).setCell ⟨F.b, 1, none⟩ (.bool true)).setCell ⟨F.b, 2, none⟩ (.int .i64 F.R.w)).setCell ⟨F.b, 3, none⟩ (.int .i64 F.R.h)).setCell ⟨F.b, 4, none⟩ (.slice F.RA F.R.cells.length F.Rc)).setCell ⟨F.b, 5, none⟩ (.int .i64 F.R.x)).setCell ⟨F.b, 6, none⟩ (.int .i64 F.R.y)).setCell ⟨F.b, 7, none⟩ (.bool F.R.shown)).drew := ⟨_, rfl⟩
          rw [<- hV9]
          have dr : ∀ X : World, Below X.heap.size X X.drew := fun X => (Below.refl _ X).drew
          have OW : Hid (Own1 V9 F.b (wriV F.d true F.R.w F.R.h F.RA F.R.cells.length F.Rc F.R.x F.R.y F.R.shown T4 F.R.shown) 86) := Xk (by
           rw [hV9]
           exact ((((((((H4.out.bw.set 14 (.bool F.R.shown)).set 1 (.bool true)).set 2 (.int .i64 F.R.w)).set 3 (.int .i64 F.R.h)).set 4 (.slice F.RA F.R.cells.length F.Rc)).set 5 (.int .i64 F.R.x)).set 6 (.int .i64 F.R.y)).set 7 (.bool F.R.shown)).below (dr _))
          have GW : wg.grownBy V9 (some F.b) := by
           rw [hV9]
           have st : ∀ (X : World) (i : Nat) (y : Value), X.grownBy (X.setCell ⟨F.b, i, none⟩ y) (some F.b) := fun X i y => qe X ⟨F.b, i, none⟩ y
           exact qF (qF (qF (qF (qF (qF (qF (qF (st _ _ _) (st _ _ _)) (st _ _ _)) (st _ _ _)) (st _ _ _)) (st _ _ _)) (st _ _ _)) (st _ _ _)) (xU (dr _) _)
          have KW : Hid (KeepT F.w0 V9) := Xk (K4.out.trans (KeepT.grown GW (fun b' e arr fl hk => by
           cases e
           have h := H4.out.bw
           unfold Own1 at h
           rw [h] at hk
           cases hk)))
          have GA := Xk (qF H4.out.gr GW)
          obtain ⟨v, hv, hrow⟩ := H4.out.bo
          have lo := H4.out.ok.bo
          have so : F.o = F.w0.heap.size := rfl
          have hv9 := (hv.kept GW (by intro e; have := Option.some.inj e; omega)).cell
          have hr9 := hrow.kept GW (by
           rcases hrow.2 with ⟨rfl, _⟩ | ⟨g', cap, cur, rfl, hb, _⟩
           ·exact Or.inl rfl
           ·refine Or.inr (fun q => ?_)
            have := Option.some.inj q
            simp only at this
            omega)
          obtain ⟨A0, c0, rfl⟩ := jb hr9
          have hr9 := Xk hr9
          have PL : F.p < F.w0.heap.size := H4.out.ok.bp.lt
          have SO := Xk so
          clear so
          clear hV9 GW hv hrow dr pc b14 q14 b1 q1 b2 q2 b3 q3 b4 q4 b5 q5 b6 q6 b7 q7 r0 r1 r2 r3 r4 r5
          go_wp2_with fail
          go_ret2
          refine (FW.out _ _).2 ⟨_, F.RA, F.Rc, rfl, ?_, ?_, ?_⟩
          ·have eR : F.R = R := by rw [EQ.out]
           rw [<- eR, <- FT.out]
           exact xP hr9.out (by have := SO.out; rw [EP.out]; omega)
          ·have eR : F.R = R := by rw [EQ.out]
           have ed : F.d = x.depth := by rw [EQ.out]
           have eA : F.RA = some ⟨g, 0, none⟩ := by rw [EQ.out]
           rw [<- eR, <- FT.out, <- ed, SH.out, EB.out, <- eR]
           refine ⟨OW.out, fun _ => ⟨?_, ?_⟩, ?_, TB4.1⟩
           ·show zh F.R = true
            rw [eR]; exact RR.out.1
           ·show TRow V9 F.RA F.R.cells
            rw [eA, eR]; exact LR.out.1.stay KW.out
           ·show 0 <= T4.x /\ T4.x <= 5000
            omega
          ·rw [EB.out]
           exact qF (xU BW.out _) GA.out
end
section
open Go Go.RowKit Go.Sort
def rowC (s : ByteArray) (k : Nat) : List Cel := (List.range k).map fun i => ⟨s.extract i (i + 1), 1, z8⟩
def rowS (s : ByteArray) : Scr := ⟨s.size, 1, rowC s s.size, 0, 0, false⟩
theorem kX (s : ByteArray) (k : Nat) : (rowC s k).length = k := by simp [rowC]
theorem JR (s : ByteArray) (k : Nat) : zc (rowC s (k + 1)) = zc (rowC s k) ++ [.string (s.extract k (k + 1)), .int .i8 1, .int .i32 0, .int .i32 0, .int .u8 0] := by
 unfold rowC
 rw [List.range_succ, List.map_append, jP]
 rfl
theorem JS (s : ByteArray) (i : Nat) : (s.extract i (i + 1)).size <= 1 := by rw [ByteArray.size_extract]; omega
theorem own_any {w : World} {base n sz : Nat} {T : TypeId} {v : Value} {xs : List Value} (h : w.ownsRow base T sz v n xs) : ∃ A c, v = .slice A n c := by
 rcases h.2 with ⟨e, e2⟩ | ⟨g, cap, cur, e, _⟩
 ·subst e2; exact ⟨_, _, e⟩
 ·exact ⟨_, _, e⟩
theorem row_scr (s : ByteArray) (A : Option Addr) (c : Nat) : scrV (rowS s) A c = .agg #[.int .i64 s.size, .int .i64 1, .slice A s.size c, .int .i64 0, .int .i64 0, .bool false] := by
 have e : (rowS s).cells.length = s.size := kX s s.size
 unfold scrV
 rw [e]
 rfl
theorem jY {w : World} {base n sz b i : Nat} {T : TypeId} {v y : Value} {xs : List Value} (h : w.ownsRow base T sz v n xs) (hb : b < base) : (w.setCell ⟨b, i, none⟩ y).ownsRow base T sz v n xs :=
 h.kept (qe w ⟨b, i, none⟩ y) (by
  rcases h.2 with ⟨e, _⟩ | ⟨g', cap, cur, e, hl, _⟩
  ·subst e; exact Or.inl rfl
  ·subst e; exact Or.inr (fun q => by have := Option.some.inj q; simp only at this; omega))
theorem rowC_ok (s : ByteArray) (k : Nat) : ∀ x ∈ rowC s k, okC x := by
 intro x hx
 obtain ⟨i, _, rfl⟩ := List.mem_map.1 hx
 have := JS s i
 exact ⟨by show (s.extract i (i + 1)).size <= _; omega, by show (-128 : Int) <= 1; omega, by show (1 : Int) <= 127; omega⟩
theorem Qi {w : World} {base n : Nat} {T : TypeId} {v : Value} {L : List Cel} (h : w.ownsRow base T 5 v n (zc L)) : ∃ A c, v = .slice A n c /\ (A = none -> c = 0) /\ n <= c /\ Sees w w.heap.size A (zc L) := by
 rcases h.2 with ⟨e, e2⟩ | ⟨g, cap, cur, e, _, hg, hc, _⟩
 ·subst e2
  have hl := h.1
  rw [Nat.zero_mul] at hl
  refine ⟨none, 0, e, fun _ => rfl, Xm, ?_⟩
  rw [List.length_eq_zero_iff.1 hl]
  exact Sees.nil _ _ _
 ·refine ⟨_, _, e, fun z => by (cases z), hc, fun _ => ⟨_, rfl, (Array.getElem?_eq_some_iff.1 hg).1, fun j u hj => ?_⟩⟩
  subst e
  exact h.cells (g := g) rfl j u hj
set_option maxHeartbeats 4000000 in
set_option maxRecDepth 100000 in
theorem xt (s : ByteArray) (hs : s.size <= 100) (w : World) : Calls Tryz.prog 28 #[.string s] w fun e w' => ∃ A c, e = .returned (scrV (rowS s) A c) /\ ScrAt w' w'.heap.size (rowS s) A c /\ Below w.heap.size w w' := by
 obtain ⟨i0, hi0, hz0, hz1, hz2⟩ := info_parts infoL
 obtain ⟨Q, hQ⟩ : ∃ Q, Q = (w.alloc (.cells #[.int .i64 0, .int .i64 0, .slice none 0 0, .int .i64 0, .int .i64 0, .bool false] 24)).alloc (.cells #[.int .i64 s.size, .int .i64 1, .slice none 0 0, .int .i64 0, .int .i64 0, .bool false] 24) := ⟨_, rfl⟩
 have BQ : Below w.heap.size w Q := by rw [hQ]; exact ((Below.refl _ w).alloc Xm _).alloc (by simp) _
 have QS : Q.heap.size = w.heap.size + 2 := by rw [hQ]; simp
 have O1 : Own1 Q w.heap.size zS 24 := by
  rw [hQ]
  exact Own1.below (World.alloc_heap_new w _) ((Below.refl _ _).alloc Xm _)
 have O2 : Own1 Q (w.heap.size + 1) [.int .i64 s.size, .int .i64 1, .slice none 0 0, .int .i64 0, .int .i64 0, .bool false] 24 := by
  have h := World.alloc_heap_new (w.alloc (.cells #[.int .i64 0, .int .i64 0, .slice none 0 0, .int .i64 0, .int .i64 0, .bool false] 24)) (.cells #[.int .i64 s.size, .int .i64 1, .slice none 0 0, .int .i64 0, .int .i64 0, .bool false] 24)
  rw [<- hQ] at h
  have e : (w.alloc (.cells #[.int .i64 0, .int .i64 0, .slice none 0 0, .int .i64 0, .int .i64 0, .bool false] 24)).heap.size = w.heap.size + 1 := by simp
  rw [e] at h
  exact h
 have R0 : Hid (Below w.heap.size w Q /\ Own1 Q w.heap.size zS 24 /\ ∃ v, Own1 Q (w.heap.size + 1) [.int .i64 s.size, .int .i64 1, v, .int .i64 0, .int .i64 0, .bool false] 24 /\ Q.ownsRow (w.heap.size + 2) 58 5 v 0 (zc (rowC s 0))) := Xk ⟨BQ, O1, _, O2, World.ownsRow_nil _ _ _ _⟩
 clear BQ O1 O2
 go_enter Tryz.func28, Tryz.ntmps28
 go_wp2_with fail
 rw [<- hQ]
 clear hQ QS
 go_loopw [4, 22] (fun i s22 wr => s22 ≠ tokV /\ ∃ k : Nat, k <= s.size /\ i = .int .i64 k /\ Hid (Below w.heap.size w wr /\ Own1 wr w.heap.size zS 24 /\ ∃ v, Own1 wr (w.heap.size + 1) [.int .i64 s.size, .int .i64 1, v, .int .i64 0, .int .i64 0, .bool false] 24 /\ wr.ownsRow (w.heap.size + 2) 58 5 v k (zc (rowC s k)))) (fun i _ _ => s.size - (intOf i).toNat)
 case atStart => exact ⟨(by intro h; cases h), 0, Nat.zero_le _, rfl, R0⟩
 case round =>
  obtain ⟨ht, k, hk, rfl, hr⟩ := hrel
  clear R0
  obtain ⟨hb, h1, v, h2, hrow⟩ := hr.out
  obtain ⟨A, c, rfl, hcap, hnc, hsee⟩ := Qi hrow
  by_cases lt : k < s.size
  ·have hb := Xk hb
   have H1 := Xk h1
   have wk := Xl ((k : Int) + 1) (by omega)
   have slr : ∀ W, (Instr.slice 9 (.string s) (some (.int .i64 (k : Int))) (some (.int .i64 ((k : Int) + 1))) none).run Tryz.prog W = .ok (.string (s.extract k (k + 1))) W := fun W => by
    have : ((k : Int) + 1).toNat = k + 1 := by omega
    rw [run_slice_string_if _ _ _ _ _ _ _ Tryz.underlying9, if_pos (by omega), if_pos (by omega)]
    simp only [this]
    rfl
   have NX := Xk (JR s k)
   generalize s.extract k (k + 1) = x at *
   have g2 := fun d os => (h2.blk.regrown d os).c 2 _ rfl
   have H2 := Xk h2
   have HR := Xk hrow
   clear h1 h2 hrow hr hsee
   go_upto_region 5 with fail
   refine zo 9 [(22, showS 1 [.string x, .int .i8 1, .int .i32 0, .int .i32 0, .int .u8 0])] [22] (by kernel_rfl) (by kernel_rfl) (by kernel_rfl) (by intro t h0; simp at h0; subst h0; exact ht) ?_
   simp only [Xn, Xo, Xp, Xq]
   repeat (refine zf (by rfl) (fun K hK => ?_); go_simp; first | (refine hK _ ?_; clear hK K) | (apply Exists.intro; refine ⟨fun _ => ?_, hK _ ?_⟩; (fail); clear hK K))
   refine vC 22 rfl (by simp) (by first | (simp; done) | simp [jK]) (by rfl) (by rfl) (by intro _ _ h; cases h) (fun x => ?_) ?_
   ·go_simp
    exact QK (by simp [grow, redrawn])
   refine zn ?_
   intro W1 vs1 hl hv
   obtain ⟨g, e22, lg, cg⟩ := hv 22 (by simp) rfl
   have hb1 := zj.1 hl
   simp only [ze, e22]
   have HR1 := HR.out.kept (row := none) ⟨hb1.os, hb1.tape, hb1.output, hb1.size, fun k hk _ => hb1.block k hk⟩ (by cases (Value.slice A k c).ownBlock <;> simp)
   have B1 := Xk (hb.out.trans (hb1.mono hb.out.size))
   have H11 := Xk (H1.out.below hb1)
   have H21 := H2.out.below hb1
   have l21 := H21.lt
   have n2 := H21.blk.c 2 _ rfl
   have f2 := H21.blk.f 2 _ rfl
   have OWN : Hid (∀ v' w3, w3.ownsRow (w.heap.size + 2) 58 5 v' (k + 1) (zc (rowC s k) ++ [.string x, .int .i8 1, .int .i32 0, .int .i32 0, .int .u8 0]) -> W1.grownBy w3 (Value.slice A k c).ownBlock -> Hid (Own1 w3 (w.heap.size + 1) [.int .i64 s.size, .int .i64 1, .slice A k c, .int .i64 0, .int .i64 0, .bool false] 24 /\ Hid (Below w.heap.size w (w3.setCell ⟨w.heap.size + 1, 2, none⟩ v') /\ Own1 (w3.setCell ⟨w.heap.size + 1, 2, none⟩ v') w.heap.size zS 24 /\ ∃ v, Own1 (w3.setCell ⟨w.heap.size + 1, 2, none⟩ v') (w.heap.size + 1) [.int .i64 s.size, .int .i64 1, v, .int .i64 0, .int .i64 0, .bool false] 24 /\ (w3.setCell ⟨w.heap.size + 1, 2, none⟩ v').ownsRow (w.heap.size + 2) 58 5 v (k + 1) (zc (rowC s (k + 1)))))) := Xk (fun v' w3 ho hg => Xk (by
    have nb : ∀ j, (Value.slice A k c).ownBlock = some j -> w.heap.size + 2 <= j := fun j e => (HR1.lt j e).1
    have o2 := H21.of_grown hg (fun e => by have := nb _ e.symm; omega)
    have o1 := H11.out.of_grown hg (fun e => by have := nb _ e.symm; omega)
    have gs := qe w3 ⟨w.heap.size + 1, 2, none⟩ v'
    refine ⟨o2, Xk ⟨?_, o1.of_grown gs (by intro e; have := Option.some.inj e; simp only at this; omega), v', o2.set 2 v', ?_⟩⟩
    ·exact (B1.out.grown hg B1.out.size (fun j e => by have := nb j e; omega)).setCell (p := ⟨w.heap.size + 1, 2, none⟩) (Nat.le_succ _) _
    ·rw [NX.out]
     refine ho.kept gs ?_
     rcases ho.2 with ⟨rfl, _⟩ | ⟨g', cap, cur, rfl, hb, _⟩
     ·exact Or.inl rfl
     ·exact Or.inr (fun q => by have := Option.some.inj q; simp only at this; omega)))
   have lw := B1.out.size
   have L1 := H11.out.lt
   have l22 := H21.lt
   have hlo : w.heap.size + 2 <= W1.heap.size := by omega
   have NW : ∀ (j : Nat) (u : Value), [Value.string x, .int .i8 1, .int .i32 0, .int .i32 0, .int .u8 0][j]? = some u -> W1.cell? ((⟨g, 0, none⟩ : Addr).add j) = some u := fun j u h => by
    rw [show (⟨g, 0, none⟩ : Addr).add j = ⟨g, j, none⟩ by unfold Addr.add; split <;> simp_all]
    exact cg j u h
   have NWH := Xk NW
   have O5 : ∀ u ∈ [Value.string x, .int .i8 1, .int .i32 0, .int .i32 0, .int .u8 0], u.oneCell' = true := by
    intro u hu
    simp at hu
    rcases hu with rfl | rfl | rfl | rfl | rfl <;> rfl
   have O5H := Xk O5
   clear hl hv hb1 g2 H2 H1 hb HR e22 cg NW O5 H21
   go_wp2_with (at_builtin; refine wpList_append_own _ rfl (.tmp 15) (.tmp 22) 22 rfl (w.heap.size + 2) 58 i0 (.agg #[.string ⟨#[]⟩, .int .i8 0, .int .i32 0, .int .i32 0, .int .u8 0]) 5 32 Tryz.underlying22 hi0 hz0 hz1 hz2 rfl (by decide) _ k _ rfl HR1 ⟨g, 0, none⟩ 1 1 [.string x, .int .i8 1, .int .i32 0, .int .i32 0, .int .u8 0] rfl rfl NWH.out O5H.out (by unfold maxLen; omega) (by omega) hlo ?_; intro v' w3 hown' hgrow _; obtain ⟨A', c', rfl⟩ := own_any hown'; have OW3 := OWN.out _ w3 hown' hgrow; have n3 := OW3.out.1.blk.c 2 _ rfl; have f3 := OW3.out.1.blk.f 2 _ rfl)
   go_roundw
   case rel => exact ⟨(by intro h; cases h), k + 1, by omega, by go_num, OW3.out.2⟩
   case measure => simp [intOf]; omega
  ·have e : k = s.size := by omega
   subst e
   have HB := Xk hb
   have HS := Xk hsee
   have HC := Xk hcap
   have k0 := h1.blk.c 0 _ rfl
   have k1 := h1.blk.c 1 _ rfl
   have k2 := h1.blk.c 2 _ rfl
   have k3 := h1.blk.c 3 _ rfl
   have k4 := h1.blk.c 4 _ rfl
   have k5 := h1.blk.c 5 _ rfl
   have f0 := h1.blk.f 0 _ rfl
   have f1 := h1.blk.f 1 _ rfl
   have f2 := h1.blk.f 2 _ rfl
   have f3 := h1.blk.f 3 _ rfl
   have f4 := h1.blk.f 4 _ rfl
   have f5 := h1.blk.f 5 _ rfl
   have n0 := h2.blk.c 0 _ rfl
   have n1 := h2.blk.c 1 _ rfl
   have n2 := h2.blk.c 2 _ rfl
   have n3 := h2.blk.c 3 _ rfl
   have n4 := h2.blk.c 4 _ rfl
   have n5 := h2.blk.c 5 _ rfl
   have H2 := Xk h2
   have HR := Xk hrow
   have HN := Xk hnc
   clear hr h1 h2 hrow hsee hcap hb
   go_wp2_with fail
   refine bodyPost_ret (v := .agg #[.int .i64 s.size, .int .i64 1, .slice A s.size c, .int .i64 0, .int .i64 0, .bool false]) (by simp [results, Tryz.results28, go_sem, k0, k1, k2, k3, k4, k5]) rfl ⟨A, c, by rw [row_scr], ?_, ?_⟩
   ·have lt2 : w.heap.size < w.heap.size + 2 := by omega
    have h1 := jY (b := w.heap.size) (i := 0) (y := .int .i64 s.size) HR.out lt2
    have h2 := jY (b := w.heap.size) (i := 1) (y := .int .i64 1) h1 lt2
    have h3 := jY (b := w.heap.size) (i := 2) (y := .slice A s.size c) h2 lt2
    have h4 := jY (b := w.heap.size) (i := 3) (y := .int .i64 0) h3 lt2
    have h5 := jY (b := w.heap.size) (i := 4) (y := .int .i64 0) h4 lt2
    have h6 := jY (b := w.heap.size) (i := 5) (y := .bool false) h5 lt2
    obtain ⟨A2, c2, e, _, _, hse⟩ := Qi h6
    cases e
    exact ⟨by show (rowC s s.size).length <= c; rw [kX]; exact HN.out, HC.out, by show (rowC s s.size).length <= _; rw [kX]; omega, rowC_ok s _, hse⟩
   ·repeat (first | with_reducible exact HB.out | refine Below.setCell ?_ (by exact Xm) _)
end
section
open Go.RowKit
def bAB : ByteArray := ⟨#[97, 98, 32, 32]⟩
def bAZ : ByteArray := ⟨#[97, 90, 32, 32]⟩
def bAb : ByteArray := ⟨#[97, 98]⟩
def bAc : ByteArray := ⟨#[97, 99]⟩
def wri0 (d : Int) : Wri := ⟨d, false, ⟨0, 0, [], 0, 0, false⟩, tel0, false⟩
def wri1 : Wri := xL (wri0 3) (rowS bAB)
def wri2 : Wri := xL wri1 (rowS bAB)
theorem wk_r1 : zh (rowS bAB) = true := by decide +kernel
theorem wk_r2 : zh (rowS bAZ) = true := by decide +kernel
theorem wk_f1 : (qd (wri0 3) (redS (rowS bAB) 3)).out = ⟨#[27, 91, 48, 109, 27, 91, 63, 55, 108, 27, 91, 50, 74, 27, 91, 72, 27, 91, 63, 50, 53, 108, 97, 98]⟩ := by decide +kernel
theorem wk_f2 : (qd wri1 (redS (rowS bAB) 3)).out = ⟨#[]⟩ := by decide +kernel
theorem wk_f3 : (qd wri2 (redS (rowS bAZ) 3)).out = ⟨#[27, 91, 49, 59, 50, 72, 90]⟩ := by decide +kernel
theorem wk_c : qg (rowS bAb) (rowS bAc) = 0 := by decide +kernel
theorem wk_l : qh (rowS bAb) (rowS bAc) = [1] := by decide +kernel
theorem wk_t1 : totS (rowS bAB).cells <= 1000000000 := by decide +kernel
theorem wk_t2 : totS (rowS bAZ).cells <= 1000000000 := by decide +kernel
end
section
open Go Go.RowKit Go.Sort
theorem conv_str {LO : Nat} {v : Value} {s : ByteArray} {w : World} (h : w.ownsRow LO 5 1 v s.size (Lib.strCells s)) : (convert 66 9 v).run Tryz.prog w = .ok (.string s) w := by
 have e1 : bts (s.data.toList.map fun b => (b.toNat : Int)) = Lib.strCells s := by
  unfold bts Lib.strCells
  rw [List.map_map]
  rfl
 have e2 : barr (s.data.toList.map fun b => (b.toNat : Int)) = s := by
  unfold barr
  rw [List.map_map]
  apply ByteArray.ext
  show ((s.data.toList.map _).toArray) = s.data
  have : (fun b : UInt8 => UInt8.ofNat ((b.toNat : Int)).toNat) = id := by
   funext b
   simp
  rw [show ((fun n : Int => UInt8.ofNat n.toNat) ∘ fun b : UInt8 => (b.toNat : Int)) = id from this]
  simp
 have e3 : (s.data.toList.map fun b => (b.toNat : Int)).length = s.size := by simp
 have := xB (LO := LO) (v := v) (l := s.data.toList.map fun b => (b.toNat : Int)) (w := w) (by rw [e1, e3]; exact h)
 rw [e2] at this
 exact this
structure WkSt (w0 : World) (b : Nat) (x : Wri) (w : World) : Prop where
 env : EnvD w
 nb : b ≠ 1 /\ b ≠ 0 /\ b ≠ 2
 bel : Below w0.heap.size w0 w
 lo : w0.heap.size <= b
 wr : ∃ LA Lc, WrAt w b x LA Lc
theorem WkSt.below {w0 : World} {b : Nat} {x : Wri} {w w' : World} (h : WkSt w0 b x w) (hb : Below w.heap.size w w') : WkSt w0 b x w' := by
 obtain ⟨LA, Lc, h1⟩ := h.wr
 exact ⟨h.env.of_below hb Xm, h.nb, h.bel.trans (hb.mono h.bel.size), h.lo, LA, Lc, h1.below hb⟩
theorem wk_new (d : Int) (hd : okD d = true) (w : World) (E : EnvD w) : WkSt w w.heap.size (wri0 d) (w.alloc (.cells (wriV d false 0 0 none 0 0 0 0 false tel0 false).toArray 86)) := by
 have hb : Below w.heap.size w (w.alloc (.cells (wriV d false 0 0 none 0 0 0 0 false tel0 false).toArray 86)) := (Below.refl _ _).alloc Xm _
 refine ⟨E.of_below hb Xm, ⟨?_, ?_, ?_⟩, hb, Xm, none, 0, World.alloc_heap_new w _, (fun h => by cases h), by show (0 : Int) <= 0 /\ (0 : Int) <= 5000; omega, Nat.zero_le _⟩
 ·have := block_lt_of_cell (E.st.on 0 (by decide)); simp only at this; omega
 ·have := block_lt_of_cell (E.st.off 0 (by decide)); simp only at this; omega
 ·have := E.pg; omega
def FrGives (w0 : World) (b : Nat) (x : Wri) (s : Scr) (w : World) (e : Ending) (w' : World) : Prop :=
 ∃ v, e = .returned (.tuple #[v, .int .i64 0]) /\ w'.ownsRow w.heap.size 5 1 v (qd x (redS s x.depth)).out.size (Lib.strCells (qd x (redS s x.depth)).out) /\ WkSt w0 b (xL x s) w' /\ w.grownBy w' (some b)
theorem kY {w0 : World} {b : Nat} {x : Wri} {w : World} (h : WkSt w0 b x w) (s : Scr) (A : Option Addr) (c : Nat) (hs : ScrAt w w.heap.size s A c) (hr : zh s = true) (ht : totS s.cells <= 1000000000) :
  Calls Tryz.prog 27 #[.pointer (some ⟨b, 0, none⟩), scrV s A c] w (FrGives w0 b x s w) := by
 obtain ⟨LA, Lc, h1⟩ := h.wr
 refine (d_Frame b x LA Lc s A c w h.env h.nb h1 hs hr ht).mono ?_
 rintro e w' ⟨v, LA', Lc', rfl, ho, hw, hg⟩
 exact ⟨v, rfl, ho, ⟨h.env.grown hg h.nb.1 h.nb.2.1 h.nb.2.2, h.nb, h.bel.grown hg h.bel.size (fun k e => by cases e; exact h.lo), h.lo, LA', Lc', hw⟩, hg⟩
def ToldB (w0 : World) (b : Nat) (v : Value) (s : ByteArray) (w : World) : Prop := ∃ lo, b < lo /\ w.ownsRow lo 5 1 v s.size (Lib.strCells s)
theorem ToldB.below {w0 : World} {b : Nat} {v : Value} {s : ByteArray} {w w' : World} (h : ToldB w0 b v s w) (hb : Below w.heap.size w w') : ToldB w0 b v s w' := by
 obtain ⟨lo, h1, h2⟩ := h
 exact ⟨lo, h1, zF h2 hb⟩
theorem ToldB.grown {w0 : World} {b : Nat} {v : Value} {s : ByteArray} {w w' : World} (h : ToldB w0 b v s w) (hg : w.grownBy w' (some b)) : ToldB w0 b v s w' := by
 obtain ⟨lo, h1, h2⟩ := h
 refine ⟨lo, h1, h2.kept hg ?_⟩
 rcases h2.2 with ⟨e, _⟩ | ⟨g', cap, cur, e, hl, _⟩
 ·subst e; exact Or.inl rfl
 ·subst e; exact Or.inr (fun q => by have := Option.some.inj q; simp only at this; omega)
theorem ToldB.slice {w0 : World} {b : Nat} {v : Value} {s : ByteArray} {w : World} (h : ToldB w0 b v s w) : ∃ A c, v = .slice A s.size c := by
 obtain ⟨lo, h1, h2⟩ := h
 exact jb h2
theorem ToldB.conv {w0 : World} {b : Nat} {v : Value} {s : ByteArray} {w : World} (h : ToldB w0 b v s w) : (convert 66 9 v).run Tryz.prog w = .ok (.string s) w := by
 obtain ⟨lo, h1, h2⟩ := h
 exact conv_str h2
def bC1 : ByteArray := ⟨#[27, 91, 48, 109, 27, 91, 63, 55, 108, 27, 91, 50, 74, 27, 91, 72, 27, 91, 63, 50, 53, 108, 97, 98]⟩
def bC3 : ByteArray := ⟨#[27, 91, 49, 59, 50, 72, 90]⟩
theorem wk_f1' : (qd (wri0 3) (redS (rowS bAB) (wri0 3).depth)).out = bC1 := wk_f1
theorem wk_f2' : (qd wri1 (redS (rowS bAB) wri1.depth)).out = zB := wk_f2
theorem wk_f3' : (qd wri2 (redS (rowS bAZ) wri2.depth)).out = bC3 := wk_f3
set_option maxHeartbeats 16000000 in
set_option maxRecDepth 100000 in
theorem Qj (w : World) (E : EnvD w) : Calls Tryz.prog 13 #[] w fun e w' => e = .returned (.bool true) /\ Below w.heap.size w w' := by
 have NW := Xk (d_New 3 rfl w)
 have ST := Xk (wk_new 3 rfl w E)
 clear E
 go_enter Tryz.func13, Tryz.ntmps13
 go_wp2_with fail
 refine NW.out.mono ?_; rintro e w1 ⟨rfl, h1⟩
 rw [<- h1] at ST
 clear h1 NW
 obtain ⟨b, hb⟩ : ∃ b, b = w.heap.size := ⟨_, rfl⟩
 have HB := Xk hb
 rw [<- hb] at ST ⊢
 clear hb
 go_wp2_with fail
 refine (xt bAB (by decide) _).mono ?_; rintro e w2 ⟨A, c, rfl, sc, hb2⟩
 have SC := Xk sc
 have ST := Xk (ST.out.below hb2)
 clear sc hb2
 go_wp2_with fail
 refine (kY ST.out (rowS bAB) A c SC.out wk_r1 wk_t1).mono ?_; rintro e w3 ⟨v1, rfl, o1, st3, g3⟩
 have T1 : Hid (ToldB w b v1 bC1 w3) := Xk ⟨w2.heap.size, (by obtain ⟨_, _, hw⟩ := ST.out.wr; exact hw.own.lt), (by rw [<- wk_f1']; exact o1)⟩
 obtain ⟨A1, c1, rfl⟩ := T1.out.slice
 have ST : Hid (WkSt w b wri1 w3) := Xk st3
 clear st3 o1 g3 SC
 go_wp2_with fail
 refine (xt bAB (by decide) _).mono ?_; rintro e w4 ⟨A, c, rfl, sc, hb4⟩
 have SC := Xk sc
 have ST := Xk (ST.out.below hb4)
 have T1 := Xk (T1.out.below hb4)
 clear sc hb4
 go_wp2_with fail
 refine (kY ST.out (rowS bAB) A c SC.out wk_r1 wk_t1).mono ?_; rintro e w5 ⟨v2, rfl, o2, st5, g5⟩
 have T2 : Hid (ToldB w b v2 zB w5) := Xk ⟨w4.heap.size, (by obtain ⟨_, _, hw⟩ := ST.out.wr; exact hw.own.lt), (by rw [<- wk_f2']; exact o2)⟩
 have T1 := Xk (T1.out.grown g5)
 obtain ⟨A2, c2, rfl⟩ := T2.out.slice
 rw [show zB.size = 0 from rfl] at T2 ⊢
 have ST : Hid (WkSt w b wri2 w5) := Xk st5
 clear st5 o2 g5 SC
 go_wp2_with fail
 refine (xt bAZ (by decide) _).mono ?_; rintro e w6 ⟨A, c, rfl, sc, hb6⟩
 have SC := Xk sc
 have ST := Xk (ST.out.below hb6)
 have T1 := Xk (T1.out.below hb6)
 have T2 := Xk (T2.out.below hb6)
 clear sc hb6
 go_wp2_with fail
 refine (kY ST.out (rowS bAZ) A c SC.out wk_r2 wk_t2).mono ?_; rintro e w7 ⟨v3, rfl, o3, st7, g7⟩
 have T3 : Hid (ToldB w b v3 bC3 w7) := Xk ⟨w6.heap.size, (by obtain ⟨_, _, hw⟩ := ST.out.wr; exact hw.own.lt), (by rw [<- wk_f3']; exact o3)⟩
 have T1 := Xk (T1.out.grown g7)
 have T2 := Xk (T2.out.grown g7)
 obtain ⟨A3, c3, rfl⟩ := T3.out.slice
 have BL : Hid (Below w.heap.size w w7) := Xk st7.bel
 clear st7 o3 g7 SC ST
 go_wp2_with fail
 refine (xt bAb (by decide) _).mono ?_; rintro e w8 ⟨A5, c5, rfl, sc5, hb8⟩
 have T1 := Xk (T1.out.below hb8)
 have T2 := Xk (T2.out.below hb8)
 have T3 := Xk (T3.out.below hb8)
 have BL := Xk (BL.out.trans (hb8.mono BL.out.size))
 have SC5 := Xk sc5
 clear sc5 hb8
 go_wp2_with fail
 refine (xt bAc (by decide) _).mono ?_; rintro e w9 ⟨A6, c6, rfl, sc6, hb9⟩
 have T1 := Xk (T1.out.below hb9)
 have T2 := Xk (T2.out.below hb9)
 have T3 := Xk (T3.out.below hb9)
 have BL := Xk (BL.out.trans (hb9.mono BL.out.size))
 have SC5 := Xk ((SC5.out.below hb9).more hb9.size)
 have SC6 := Xk sc6
 clear sc6 hb9
 go_wp2_with fail
 refine (Z2 (rowS bAb) (rowS bAc) A5 A6 c5 c6 w9 SC5.out SC6.out).mono ?_; rintro e wa ⟨v4, rfl, o4, hba⟩
 rw [wk_c]
 have hT1 := (T1.out.below hba).conv
 have hT3 := (T3.out.below hba).conv
 have BL := Xk (BL.out.trans (hba.mono BL.out.size))
 rw [wk_l] at o4
 obtain ⟨A4, c4, rfl⟩ := jb o4
 obtain ⟨g, rfl⟩ : ∃ g, A4 = some ⟨g, 0, none⟩ := by
  rcases o4.2 with ⟨e, e2⟩ | ⟨g, cap, cur, e, _⟩
  ·cases e2
  ·cases e; exact ⟨_, rfl⟩
 have ce := o4.cells (g := g) rfl 0 (.int .i64 1) rfl
 rw [show ({ block := g, off := 0 } : Addr).add 0 = ⟨g, 0, none⟩ from rfl] at ce
 have sb1 : (bC1.toList == [27, 91, 48, 109, 27, 91, 63, 55, 108, 27, 91, 50, 74, 27, 91, 72, 27, 91, 63, 50, 53, 108, 97, 98]) = true := by decide +kernel
 have sb3 : (bC3.toList == [27, 91, 49, 59, 50, 72, 90]) = true := by decide +kernel
 clear T1 T2 T3 o4 hba SC5 SC6
 go_wp2_with fail
 go_ret
 exact ⟨rfl, BL.out⟩
end
section
open Go.RowKit Go.ChangeShapes
theorem gPow : Tryz.prog.globalNamed "internal/strconv.uint64pow10" = some 2 := by kernel_rfl
theorem gOn : Tryz.prog.globalNamed "fresco/style.on" = some 1 := by kernel_rfl
theorem gOff : Tryz.prog.globalNamed "fresco/style.off" = some 0 := by kernel_rfl
theorem cell_lt {w : World} {g : Nat} {v : Value} {o : Nat} (h : w.cell? ⟨g, o, none⟩ = some v) : g < w.heap.size := block_lt_of_cell h
def onZ : List Int := [1, 2, 3, 4, 5, 7, 8, 9]
def offZ : List Int := [22, 22, 23, 24, 25, 27, 28, 29]
theorem Qk {W : World} (h : laidMetH Tryz.prog [("math/bits.deBruijn32tab", Rows.laid_math_bits_deBruijn32tab), ("math/bits.deBruijn64tab", Rows.laid_math_bits_deBruijn64tab), ("internal/strconv.uint64pow10", Rows.laid_internal_strconv_uint64pow10), ("fresco/style.on", Rows.laid_fresco_style_on), ("fresco/style.off", Rows.laid_fresco_style_off)] W) : EnvD W := by
 have e : laidMetH Tryz.prog [("math/bits.deBruijn32tab", Rows.laid_math_bits_deBruijn32tab), ("math/bits.deBruijn64tab", Rows.laid_math_bits_deBruijn64tab), ("internal/strconv.uint64pow10", Rows.laid_internal_strconv_uint64pow10), ("fresco/style.on", Rows.laid_fresco_style_on), ("fresco/style.off", Rows.laid_fresco_style_off)] W = laidMet Tryz.prog [("math/bits.deBruijn32tab", Rows.laid_math_bits_deBruijn32tab), ("math/bits.deBruijn64tab", Rows.laid_math_bits_deBruijn64tab), ("internal/strconv.uint64pow10", Rows.laid_internal_strconv_uint64pow10), ("fresco/style.on", Rows.laid_fresco_style_on), ("fresco/style.off", Rows.laid_fresco_style_off)] W := MakeChecks.laidMetH_plain _ _ _ (by kernel_rfl)
 rw [e] at h
 have tp : Lib.TabIs Tryz.prog W "internal/strconv.uint64pow10" .u64 Lib.pow10Tab :=
  Lib.tabIs_of_head (t := 154) gPow (by kernel_rfl) Tryz.underlying154 Tryz.underlying138 (by kernel_rfl) (by kernel_rfl) h.tail.tail
 have ton : Lib.TabIs Tryz.prog W "fresco/style.on" .i64 onZ :=
  Lib.tabIs_of_head (t := 122) gOn (by kernel_rfl) Tryz.underlying122 Tryz.underlying3 (by kernel_rfl) (by kernel_rfl) h.tail.tail.tail
 have tf : Lib.TabIs Tryz.prog W "fresco/style.off" .i64 offZ :=
  Lib.tabIs_of_head (t := 122) gOff (by kernel_rfl) Tryz.underlying122 Tryz.underlying3 (by kernel_rfl) (by kernel_rfl) h.tail.tail.tail.tail
 exact ⟨⟨fun k hk => ton.cell gOn k hk, fun k hk => tf.cell gOff k hk⟩, tp, cell_lt (tp.cell gPow 0 (by decide))⟩
end
section
open Go Go.RowKit Go.Sort
structure SA where
 s : Scr
 A : Option Addr
 c : Nat
def scrC (t : SA) : List Value := [.int .i64 t.s.w, .int .i64 t.s.h, .slice t.A t.s.cells.length t.c, .int .i64 t.s.x, .int .i64 t.s.y, .bool t.s.shown]
def qx (L : List SA) : List Value := L.flatMap scrC
theorem kZ (a : SA) (r : List SA) : qx (a :: r) = scrC a ++ qx r := by unfold qx; exact List.flatMap_cons ..
theorem JT (l : List SA) : (qx l).length = l.length * 6 := by
 induction l with
 | nil => rfl
 | cons a l ih => rw [kZ, List.length_append, ih, List.length_cons]; simp [scrC]; omega
theorem JU (l : List SA) : ∀ k, qx (l.drop k) = (qx l).drop (k * 6) := by
 induction l with
 | nil => intro k; simp [qx]
 | cons a l ih =>
  intro k
  cases k with
  | zero => simp
  | succ k =>
   rw [List.drop_succ_cons, ih, kZ, show (k + 1) * 6 = 6 + k * 6 by omega, <- List.drop_drop]
   rfl
theorem scr_nth {w : World} {B : Nat} {A : Option Addr} {L : List SA} (h : Sees w B A (qx L)) (k : Nat) (hk : k < L.length) : ∃ ad, A = some ad /\ ad.block < B /\ w.cell? (ad.add (k * 6)) = some (.int .i64 (L[k]).s.w) /\ w.cell? ⟨(ad.add (k * 6)).block, (ad.add (k * 6)).off + 1, none⟩ = some (.int .i64 (L[k]).s.h) /\ w.cell? ⟨(ad.add (k * 6)).block, (ad.add (k * 6)).off + 2, none⟩ = some (.slice (L[k]).A (L[k]).s.cells.length (L[k]).c) /\ w.cell? ⟨(ad.add (k * 6)).block, (ad.add (k * 6)).off + 3, none⟩ = some (.int .i64 (L[k]).s.x) /\ w.cell? ⟨(ad.add (k * 6)).block, (ad.add (k * 6)).off + 4, none⟩ = some (.int .i64 (L[k]).s.y) /\ w.cell? ⟨(ad.add (k * 6)).block, (ad.add (k * 6)).off + 5, none⟩ = some (.bool (L[k]).s.shown) := by
 obtain ⟨ad, e, hb, _⟩ := h (fun e => by have := JT L; rw [e] at this; simp at this; omega)
 subst e
 have S := h.dropV (k * 6)
 rw [<- JU, List.drop_eq_getElem_cons hk, kZ] at S
 obtain ⟨ad', e, _, hc⟩ := S (by simp [scrC])
 cases e
 refine ⟨ad, rfl, hb, ?_, ?_, ?_, ?_, ?_, ?_⟩
 ·have := hc 0 _ rfl
  rwa [show (ad.add (k * 6)).add 0 = ad.add (k * 6) by unfold Addr.add; rw [if_pos rfl]] at this
 ·rw [qm _ 1 (by decide)]; exact hc 1 _ rfl
 ·rw [qm _ 2 (by decide)]; exact hc 2 _ rfl
 ·rw [qm _ 3 (by decide)]; exact hc 3 _ rfl
 ·rw [qm _ 4 (by decide)]; exact hc 4 _ rfl
 ·rw [qm _ 5 (by decide)]; exact hc 5 _ rfl
def bulk (L : List Cel) : Nat := (L.map fun c => 1 + c.text.size).sum
def zE (L : List SA) : Nat := (L.map fun t => bulk t.s.cells).sum
theorem Ql (a b : List Cel) : bulk (a ++ b) = bulk a + bulk b := by simp [bulk]
theorem JV (L : List Cel) (k : Nat) (h : k < L.length) : bulk (L.take (k + 1)) = bulk (L.take k) + (1 + (L[k]).text.size) := by
 rw [List.take_succ_eq_append_getElem h, Ql]
 simp [bulk]
theorem bulk_le (L : List Cel) (k : Nat) : bulk (L.take k) <= bulk L := by
 conv => rhs; rw [<- List.take_append_drop k L, Ql]
 omega
theorem Qm (a b : List SA) : zE (a ++ b) = zE a + zE b := by simp [zE]
theorem JW (L : List SA) (k : Nat) (h : k < L.length) : zE (L.take (k + 1)) = zE (L.take k) + bulk (L[k]).s.cells := by
 rw [List.take_succ_eq_append_getElem h, Qm]
 simp [zE]
theorem total_le (L : List SA) (k : Nat) : zE (L.take k) <= zE L := by
 conv => rhs; rw [<- List.take_append_drop k L, Qm]
 omega
theorem xX (L : List Cel) : (L.map fun c => c.text.size).sum + L.length = bulk L := by
 induction L with
 | nil => rfl
 | cons a L ih => simp [bulk] at *; omega
set_option maxHeartbeats 8000000 in
set_option maxRecDepth 100000 in
theorem Qn (L : List SA) (A0 : Option Addr) (c0 : Nat) (w : World) (S : Sees w w.heap.size A0 (qx L)) (hl : L.length <= 10000000000000)
  (hs : ∀ t ∈ L, Sees w w.heap.size t.A (zc t.s.cells) /\ t.s.cells.length <= 10000000000000 /\ ∀ x ∈ t.s.cells, x.text.size <= 140737488351232) :
  Calls Tryz.prog 6 #[.slice A0 L.length c0] w fun e w' => e = .returned (.bool (decide (134217728 < zE L))) /\ w = w' := by
 have HS := Xk S
 have HX := Xk hs
 obtain ⟨N, hN⟩ : ∃ N, N = L.length := ⟨_, rfl⟩
 have HN := Xk hN
 rw [<- hN] at hl ⊢
 have YES : Hid (∀ e : Ending, e = .returned (.bool true) -> 134217728 < zE L -> e = .returned (.bool (decide (134217728 < zE L)))) := Xk (fun e h1 h2 => by rw [h1, decide_eq_true h2])
 have NO : Hid (∀ e : Ending, e = .returned (.bool false) -> zE L <= 134217728 -> e = .returned (.bool (decide (134217728 < zE L)))) := Xk (fun e h1 h2 => by rw [h1, decide_eq_false (by omega)])
 generalize hD : decide (134217728 < zE L) = D at *
 clear hN S hs hD
 go_enter Tryz.func6, Tryz.ntmps6
 go_wp2_with fail
 go_loop [3, 4] (fun s3 s4 => ∃ i n : Nat, i <= N /\ s4 = .int .i64 i /\ s3 = .int .i64 n /\ n <= 134217728 /\ Hid (n = zE (L.take i))) (fun _ s4 => N - (intOf s4).toNat)
 case atStart => exact ⟨0, 0, Nat.zero_le _, rfl, rfl, Nat.zero_le _, Xk rfl⟩
 case round =>
  obtain ⟨i, n, hi, rfl, rfl, hn, ht⟩ := hrel
  by_cases lt : i < N
  ·have il : i < L.length := by rw [<- HN.out]; exact lt
   obtain ⟨ad, rfl, ab, _, _, z2, _, _, _⟩ := scr_nth HS.out i il
   obtain ⟨x1, x2, x3⟩ := HX.out L[i] (List.getElem_mem il)
   have TT := Xk (JW L i il)
   have TL := Xk (total_le L (i + 1))
   generalize L[i] = t at *
   obtain ⟨M, hM⟩ : ∃ M, M = t.s.cells.length := ⟨_, rfl⟩
   have HM := Xk hM
   rw [<- hM] at z2 x2
   have X1 := Xk x1
   have X3 := Xk x3
   clear hM x1 x3
   go_wp2_with fail
   go_loop [3, 5] (fun s3 s5 => ∃ k m : Nat, k <= M /\ s5 = .int .i64 k /\ s3 = .int .i64 m /\ m <= 134217728 /\ Hid (m = zE (L.take i) + bulk (t.s.cells.take k))) (fun _ s5 => M - (intOf s5).toNat)
   case atStart => exact ⟨0, n, Nat.zero_le _, rfl, rfl, hn, Xk (by rw [ht.out]; simp [bulk])⟩
   case round =>
    obtain ⟨k, m, hk, rfl, rfl, hm, hq⟩ := hrel
    by_cases lk : k < M
    ·have kl : k < t.s.cells.length := by rw [<- HM.out]; exact lk
     obtain ⟨ae, hA, bb, y0, _⟩ := jc X1.out k kl
     have x3 := X3.out _ (List.getElem_mem kl)
     have BT := Xk (JV t.s.cells k kl)
     have BL := Xk (bulk_le t.s.cells (k + 1))
     rw [hA] at z2
     generalize t.s.cells[k] = cx at *
     have HA := Xk hA
     clear hA
     by_cases over : m + (1 + cx.text.size) <= 134217728
     ·have NX : Hid (m + (1 + cx.text.size) = zE (L.take i) + bulk (t.s.cells.take (k + 1))) := Xk (by rw [BT.out]; have := hq.out; omega)
      go_wp2_with fail
      exact ⟨⟨k + 1, m + (1 + cx.text.size), by omega, by go_num, by go_num, over, NX⟩, by simp [intOf]; omega⟩
     ·have NX : Hid (134217728 < zE L) := Xk (by have h1 := hq.out; have h2 := BT.out; have h3 := BL.out; have h4 := TT.out; have h5 := TL.out; omega)
      go_wp2_with fail
      go_ret
      exact ⟨YES.out _ rfl NX.out, rfl⟩
    ·have e : k = M := by omega
     subst e
     have NX : Hid (m = zE (L.take (i + 1))) := Xk (by have h1 := hq.out; have h4 := TT.out; rw [HM.out, List.take_length] at h1; omega)
     go_wp2_with fail
     exact ⟨⟨i + 1, m, by omega, by go_num, rfl, hm, NX⟩, by simp [intOf]; omega⟩
  ·have e : i = N := by omega
   subst e
   go_wp2_with fail
   go_ret
   exact ⟨NO.out _ rfl (by have h := ht.out; rw [HN.out, List.take_length] at h; omega), rfl⟩
end
section
open Go.ChangeShapes Go.WideShapes Go.ChangeAt Go.RowKit
def zO {H : Type} (d : DataW H) (t : TypeId) : Prop := ∀ m ∈ d.weights Tryz.prog t, m <= reachBytes
theorem JY {H : Type} {ts : List TypeId} {ds : List (DataW H)} (h : ∀ m ∈ DataW.weightsEach Tryz.prog ts ds, m <= reachBytes) {j : Nat} {t : TypeId} {d : DataW H} (ht : ts[j]? = some t) (hd : ds[j]? = some d) : zO d t :=
 fun m hm => h m (DataW.weights_mem_each ht hd m hm)
theorem Qo {H : Type} {e : TypeId} : ∀ {ds : List (DataW H)}, (∀ m ∈ DataW.weightsAll Tryz.prog e ds, m <= reachBytes) -> ∀ d ∈ ds, zO d e
 | [], _, d, hd => by cases hd
 | x :: r, h, d, hd => by
  simp only [DataW.weightsAll, List.mem_append] at h
  rcases List.mem_cons.1 hd with rfl | hd
  ·exact fun m hm => h m (Or.inl hm)
  ·exact Qo (fun m hm => h m (Or.inr hm)) d hd
theorem Qp {H : Type} {t : TypeId} {fs : Array Field} {ds : List (DataW H)} (ht : Tryz.prog.underlying t = some (.struct fs)) (h : zO (.agg ds) t) {j : Nat} {u : TypeId} {d : DataW H} (hu : (fs.toList.map (·.type))[j]? = some u) (hd : ds[j]? = some d) : zO d u := by
 unfold zO at h
 simp only [DataW.weights, ht] at h
 exact JY h hu hd
theorem JZ {H : Type} {t e : TypeId} {es rs : List (DataW H)} (ht : Tryz.prog.underlying t = some (.slice e)) (h : zO (.slice es rs) t) : (es.length + rs.length) * Tryz.prog.bytesOf e <= reachBytes /\ ∀ d ∈ es, zO d e := by
 unfold zO at h
 simp only [DataW.weights, ht, List.mem_cons, List.mem_append] at h
 exact ⟨h _ (Or.inl rfl), Qo (fun m hm => h m (Or.inr (Or.inl hm)))⟩
theorem J0 {H : Type} {t : TypeId} {s : ByteArray} (h : zO (.lit (.string s.data.toList) : DataW H) t) : s.size <= reachBytes := by
 unfold zO at h
 have := h s.data.toList.length (by simp [DataW.weights])
 have e : s.size = s.data.toList.length := by simp
 omega
theorem va {H : Type} {ts : List TypeId} {ds : List (DataW H)} (h : (DataW.weightsEach Tryz.prog ts ds).all (· <= reachBytes) = true) {j : Nat} {t : TypeId} {d : DataW H} (ht : ts[j]? = some t) (hd : ds[j]? = some d) : zO d t :=
 fun m hm => by simpa using List.all_eq_true.1 h m (DataW.weights_mem_each ht hd m hm)
section
variable {H : Type} {enc : TypeId × Value -> H} {w : World} {base : Nat} {spare : Nat -> Bool} {held : Bool}
def okT (c : Cel) : Prop := c.text.size <= 140737488351232 /\ -128 <= c.wide /\ c.wide <= 127
end
theorem Qq {α : Type} (f : α -> List Value) (m : Nat) (m0 : 0 < m) (hm : ∀ a, (f a).length = m) : ∀ (L : List α) (j : Nat) (u : Value), (L.flatMap f)[j]? = some u -> ∃ i k a, j = i * m + k /\ k < m /\ L[i]? = some a /\ (f a)[k]? = some u
 | [], j, u, h => by simp at h
 | a :: L, j, u, h => by
  rw [List.flatMap_cons] at h
  by_cases c : j < m
  ·rw [List.getElem?_append_left (by rw [hm]; exact c)] at h
   exact ⟨0, j, a, by omega, c, rfl, h⟩
  ·rw [List.getElem?_append_right (by rw [hm]; omega), hm] at h
   obtain ⟨i, k, b, e, hk, hi, hu⟩ := Qq f m m0 hm L (j - m) u h
   exact ⟨i + 1, k, b, by rw [Nat.succ_mul]; omega, hk, hi, hu⟩
theorem J6 {H : Type} {enc : TypeId × Value -> H} {w : World} {base : Nat} {spare : Nat -> Bool} {held : Bool} {α : Type} (f : α -> List Value) (m : Nat) (m0 : 0 < m) (hm : ∀ a, (f a).length = m) (dflt : α) (ok : α -> Prop) {t e : TypeId} (ht : Tryz.prog.underlying t = some (.slice e)) (hC : Tryz.prog.cellsOf e = m)
  (each : ∀ (n : Nat) (cs : List Value) (y : DataW H × List MemPlace), DataW.trod enc Tryz.prog w base spare held n e cs = some y -> zO y.1 e -> ∃ a, cs = f a /\ ok a)
  {fuel : Nat} {cs : List Value} {y : DataW H × List MemPlace} (h : DataW.trod enc Tryz.prog w base spare held fuel t cs = some y) (sp : ∀ b, spare b = true) (hw : zO y.1 t) :
  ∃ (A : Option Addr) (c : Nat) (L : List α), cs = [.slice A L.length c] /\ (A = none -> c = 0) /\ L.length <= c /\ c * Tryz.prog.bytesOf e <= reachBytes /\ Sees w w.heap.size A (L.flatMap f) /\ ∀ x ∈ L, ok x := by
 rcases DataW.trod_slice ht h with ⟨h0, _⟩ | ⟨a, len, cap, elems, rest, n, _, rfl, hx, hb, hl, hcm, hlen, hel, hsp, hns⟩
 ·exact ⟨none, 0, [], h0, fun _ => rfl, Xm, by rw [Nat.zero_mul]; exact Nat.zero_le _, Sees.nil _ _ _, fun x hx => by cases hx⟩
 ·rw [hx] at hw
  obtain ⟨w1, w2⟩ := JZ ht hw
  have hr := (hsp (sp _)).1
  have E : ∀ i, i < len -> ∃ x, (∀ k u, (f x)[k]? = some u -> w.cell? (a.add (i * m + k)) = some u) /\ ok x := by
   intro i hi
   have hy := hel i hi
   have hi2 : i < elems.length := by omega
   rw [List.getElem?_eq_getElem hi2, hC, Option.bind_eq_some_iff] at hy
   obtain ⟨cs', hcs, hy'⟩ := hy
   obtain ⟨x, rfl, hok⟩ := each n cs' _ hy' (w2 _ (List.mem_map.2 ⟨_, List.getElem_mem hi2, rfl⟩))
   refine ⟨x, fun k u hu => ?_, hok⟩
   have lt : k < m := by rw [<- hm x]; exact (List.getElem?_eq_some_iff.1 hu).1
   have := (World.cells?_some hcs).2.2 k lt
   rw [jO] at this
   exact this.trans hu
  have hN : ((List.range len).map fun i => if h : i < len then (E i h).choose else dflt).length = len := by simp
  have hAt : ∀ i x, ((List.range len).map fun i => if h : i < len then (E i h).choose else dflt)[i]? = some x -> (∀ k u, (f x)[k]? = some u -> w.cell? (a.add (i * m + k)) = some u) /\ ok x := by
   intro i x hi
   rw [List.getElem?_map] at hi
   obtain ⟨j, hj, rfl⟩ := Option.map_eq_some_iff.1 hi
   obtain ⟨lt, e2⟩ := List.getElem?_eq_some_iff.1 hj
   rw [List.length_range] at lt
   rw [List.getElem_range] at e2
   subst e2
   simp only [dif_pos lt]
   exact (E i lt).choose_spec
  refine ⟨some a, cap, (List.range len).map (fun i => if h : i < len then (E i h).choose else dflt), by rw [hN], (fun z => by cases z), by rw [hN]; exact hl, ?_, ?_, ?_⟩
  ·simp only [List.length_map] at w1
   rw [hlen, hr] at w1
   rw [show len + (cap - len) = cap by omega] at w1
   exact w1
  ·have key : ∀ j u, (((List.range len).map fun i => if h : i < len then (E i h).choose else dflt).flatMap f)[j]? = some u -> w.cell? (a.add j) = some u := by
    intro j u hj
    obtain ⟨i, k, x, rfl, hk, hi, hu⟩ := Qq f m m0 hm _ j u hj
    exact (hAt i x hi).1 k u hu
   intro hne
   refine ⟨a, rfl, ?_, key⟩
   obtain ⟨u, r, hur⟩ := List.exists_cons_of_ne_nil hne
   have := block_lt_of_cell (key 0 u (by rw [hur]; rfl))
   rw [zg] at this
   exact this
  ·intro x hx
   obtain ⟨i, hi⟩ := List.mem_iff_getElem?.1 hx
   exact (hAt i x hi).2
def emptyC : Cel := ⟨⟨#[]⟩, 0, z8⟩
structure ScrD (w : World) (t : SA) : Prop where
 nil : t.A = none -> t.c = 0
 cap : t.s.cells.length <= t.c
 sz : t.c * 32 <= 140737488351232
 sees : Sees w w.heap.size t.A (zc t.s.cells)
 ok : ∀ x ∈ t.s.cells, okT x
section
variable {H : Type} {enc : TypeId × Value -> H} {w : World} {base : Nat} {spare : Nat -> Bool} {held : Bool}
end
section
variable {H : Type} {enc : TypeId × Value -> H} {w : World} {base : Nat} {spare : Nat -> Bool} {held : Bool}
end
end
section
open Go Go.RowKit Go.Sort
theorem ScrD.below {w w' : World} {t : SA} (h : ScrD w t) (hb : Below w.heap.size w w') : ScrD w' t := ⟨h.nil, h.cap, h.sz, (h.sees.below hb Xm).more hb.size, h.ok⟩
theorem Qr (w : World) (L : List SA) (T : TypeId) : Sees (w.alloc (.cells (qx L).toArray T)) (w.alloc (.cells (qx L).toArray T)).heap.size (some ⟨w.heap.size, 0, none⟩) (qx L) :=
 fun _ => ⟨_, rfl, by simp, newsL w (qx L) T⟩
theorem Qs {w : World} {L : List SA} (h : ∀ t ∈ L, ScrD w t) : ∀ t ∈ L, Sees w w.heap.size t.A (zc t.s.cells) /\ t.s.cells.length <= 10000000000000 /\ ∀ x ∈ t.s.cells, x.text.size <= 140737488351232 := by
 intro t ht
 have q := h t ht
 exact ⟨q.sees, by have := q.cap; have := q.sz; omega, fun x hx => (q.ok x hx).1⟩
theorem xY {L : List Cel} {x : Cel} (h : x ∈ L) : 1 + x.text.size <= bulk L := by
 induction L with
 | nil => cases h
 | cons a L ih =>
  have e : bulk (a :: L) = 1 + a.text.size + bulk L := by simp [bulk]
  rcases List.mem_cons.1 h with rfl | h
  ·omega
  ·have := ih h; omega
theorem ScrD.at {w : World} {t : SA} (h : ScrD w t) (hb : bulk t.s.cells <= 134217728) : ScrAt w w.heap.size t.s t.A t.c /\ totS t.s.cells <= 1000000000 := by
 have e := xX t.s.cells
 refine ⟨⟨h.cap, h.nil, by omega, fun x hx => ?_, h.sees⟩, by unfold totS; omega⟩
 have := xY hx
 exact ⟨by omega, (h.ok x hx).2⟩
end
section
open Go Go.RowKit Go.Sort
section
variable {H : Type} {enc : TypeId × Value -> H} {w : World} {base : Nat} {spare : Nat -> Bool} {held : Bool}
set_option maxRecDepth 100000 in
theorem J7 {n : Nat} {cs : List Value} {y : DataW H × List MemPlace} (h : DataW.trod enc Tryz.prog w base spare held n 56 cs = some y) : ∃ s : Sty, cs = [.int .i32 s.fg, .int .i32 s.bg, .int .u8 (bI s.at_)] /\ zy s.fg /\ zy s.bg := by
 obtain ⟨y0, y1, y2, m, _, hl, h0, h1, h2⟩ := Go.Deep.trod_struct3 Tryz.underlying56 h
 have c3 : Tryz.prog.cellsOf 56 = 3 := by kernel_rfl
 have e1 : Tryz.prog.cellsOf 54 = 1 := by kernel_rfl
 have e2 : Tryz.prog.cellsOf 5 = 1 := by kernel_rfl
 rw [c3] at hl
 obtain ⟨v0, v1, v2, rfl⟩ : ∃ a b c, cs = [a, b, c] := by
  match cs, hl with
  | [v0, v1, v2], _ => exact ⟨v0, v1, v2, rfl⟩
 simp [e1, e2] at h0 h1 h2
 obtain ⟨fg, e, _, wf⟩ := DataW.trod_int Tryz.underlying54 h0
 obtain rfl := (List.cons.inj e).1
 obtain ⟨bg, e, _, wb⟩ := DataW.trod_int Tryz.underlying54 h1
 obtain rfl := (List.cons.inj e).1
 obtain ⟨ad, e, _, wa⟩ := DataW.trod_int Tryz.underlying5 h2
 obtain rfl := (List.cons.inj e).1
 obtain ⟨ba, rfl⟩ : ∃ b : B8, ad = bI b := by
  have bw := bounds_u8 wa
  obtain ⟨b, hb⟩ := bI_of ad (by omega) (by omega)
  exact ⟨b, hb.symm⟩
 have b1 := bounds_i32 wf
 have b2 := bounds_i32 wb
 exact ⟨⟨fg, bg, ba⟩, rfl, ⟨by show -2147483648 <= fg; omega, by show fg <= 2147483647; omega⟩, ⟨by show -2147483648 <= bg; omega, by show bg <= 2147483647; omega⟩⟩
set_option maxRecDepth 100000 in
theorem J8 {n : Nat} {cs : List Value} {y : DataW H × List MemPlace} (h : DataW.trod enc Tryz.prog w base spare held n 58 cs = some y) (hw : zO y.1 58) : ∃ c : Cel, cs = celV c /\ okT c /\ zy c.st.fg /\ zy c.st.bg := by
 obtain ⟨y0, y1, y2, m, rfl, hl, h0, h1, h2⟩ := Go.Deep.trod_struct3 Tryz.underlying58 h
 have c5 : Tryz.prog.cellsOf 58 = 5 := by kernel_rfl
 have e1 : Tryz.prog.cellsOf 9 = 1 := by kernel_rfl
 have e2 : Tryz.prog.cellsOf 53 = 1 := by kernel_rfl
 have e3 : Tryz.prog.cellsOf 56 = 3 := by kernel_rfl
 rw [c5] at hl
 obtain ⟨v0, v1, v2, v3, v4, rfl⟩ : ∃ a b c d e, cs = [a, b, c, d, e] := by
  match cs, hl with
  | [v0, v1, v2, v3, v4], _ => exact ⟨v0, v1, v2, v3, v4, rfl⟩
 simp [e1, e2, e3] at h0 h1 h2
 obtain ⟨tx, e, hy, _⟩ := DataW.trod_string Tryz.underlying9 h0
 obtain rfl := (List.cons.inj e).1
 obtain ⟨wd, e, _, wf⟩ := DataW.trod_int Tryz.underlying53 h1
 obtain rfl := (List.cons.inj e).1
 obtain ⟨s, e, sf, sb⟩ := J7 h2
 have l0 : zO y0.1 9 := Qp (j := 0) Tryz.underlying58 hw rfl rfl
 rw [hy] at l0
 have sz := J0 l0
 have bw := bounds_i8 wf
 refine ⟨⟨tx, wd, s⟩, ?_, ⟨by show tx.size <= _; unfold reachBytes at sz; omega, bw.1, by show wd <= 127; omega⟩, sf, sb⟩
 simp only [List.cons.injEq, and_true] at e
 obtain ⟨rfl, rfl, rfl⟩ := e
 rfl
set_option maxRecDepth 100000 in
theorem J9 {n : Nat} {cs : List Value} {y : DataW H × List MemPlace} (h : DataW.trod enc Tryz.prog w base spare held n 22 cs = some y) (sp : ∀ b, spare b = true) (hw : zO y.1 22) :
  ∃ (A : Option Addr) (c : Nat) (L : List Cel), cs = [.slice A L.length c] /\ (A = none -> c = 0) /\ L.length <= c /\ c * 32 <= 140737488351232 /\ Sees w w.heap.size A (zc L) /\ ∀ x ∈ L, okT x /\ zy x.st.fg /\ zy x.st.bg := by
 have cb : Tryz.prog.bytesOf 58 = 32 := by kernel_rfl
 obtain ⟨A, c, L, h1, h2, h3, h4, h5, h6⟩ := J6 celV 5 (by decide) (fun _ => rfl) emptyC (fun x => okT x /\ zy x.st.fg /\ zy x.st.bg) Tryz.underlying22 (by kernel_rfl) (fun n cs y => J8) h sp hw
 rw [cb] at h4
 exact ⟨A, c, L, h1, h2, h3, by unfold reachBytes at h4; omega, h5, h6⟩
set_option maxRecDepth 100000 in
theorem vc {n : Nat} {cs : List Value} {y : DataW H × List MemPlace} (h : DataW.trod enc Tryz.prog w base spare held n 24 cs = some y) (sp : ∀ b, spare b = true) (hw : zO y.1 24) : ∃ t : SA, cs = scrC t /\ ScrD w t /\ ∀ x ∈ t.s.cells, zy x.st.fg /\ zy x.st.bg := by
 obtain ⟨xs, m, _, hx, hl, hlen, hf⟩ := DataW.trod_struct Tryz.underlying24 h
 have c6 : Tryz.prog.cellsOf 24 = 6 := by kernel_rfl
 have e1 : Tryz.prog.cellsOf 3 = 1 := by kernel_rfl
 have e2 : Tryz.prog.cellsOf 22 = 1 := by kernel_rfl
 have e3 : Tryz.prog.cellsOf 4 = 1 := by kernel_rfl
 rw [c6] at hl
 rw [hx] at hw
 match cs, hl, xs, hlen with
 | [v0, v1, v2, v3, v4, v5], _, [y0, y1, y2, y3, y4, y5], _ =>
  have h0 := hf 0 _ rfl
  have h1 := hf 1 _ rfl
  have h2 := hf 2 _ rfl
  have h3 := hf 3 _ rfl
  have h4 := hf 4 _ rfl
  have h5 := hf 5 _ rfl
  simp [e1, e2, e3] at h0 h1 h2 h3 h4 h5
  obtain ⟨a0, e, _, _⟩ := DataW.trod_int Tryz.underlying3 h0
  obtain rfl := (List.cons.inj e).1
  obtain ⟨a1, e, _, _⟩ := DataW.trod_int Tryz.underlying3 h1
  obtain rfl := (List.cons.inj e).1
  have l2 : zO y2.1 22 := Qp (j := 2) Tryz.underlying24 hw rfl rfl
  obtain ⟨A, c, L, e, q1, q2, q3, q4, q5⟩ := J9 h2 sp l2
  obtain rfl := (List.cons.inj e).1
  obtain ⟨a3, e, _, _⟩ := DataW.trod_int Tryz.underlying3 h3
  obtain rfl := (List.cons.inj e).1
  obtain ⟨a4, e, _, _⟩ := DataW.trod_int Tryz.underlying3 h4
  obtain rfl := (List.cons.inj e).1
  obtain ⟨a5, e, _⟩ := DataW.trod_bool Tryz.underlying4 h5
  obtain rfl := (List.cons.inj e).1
  exact ⟨⟨⟨a0, a1, L, a3, a4, a5⟩, A, c⟩, rfl, ⟨q1, q2, q3, q4, fun x hx => (q5 x hx).1⟩, fun x hx => (q5 x hx).2⟩
end
end
end Go.Proofs.YtifoijbpbigaaaaGreatDoor
