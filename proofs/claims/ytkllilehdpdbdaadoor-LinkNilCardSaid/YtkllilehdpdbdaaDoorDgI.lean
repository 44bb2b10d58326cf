/- A frame's bytes, the program's side: Frame of a screen that is right. -/
import Derived.Test.YtkllilehdpdbdaaDoorDgH
import Derived.Laws.EntriesVeiled
namespace Go.Proofs.YtkllilehdpdbdaaDoor
open Go Go.RowKit Go.Sort
set_option linter.unusedVariables false
set_option linter.unusedSimpArgs false

def scrL (R : Scr) (g N : Nat) : List Value := [.int .i64 R.w, .int .i64 R.h, .slice (some ⟨g, 0, none⟩) N N, .int .i64 R.x, .int .i64 R.y, .bool R.shown]
/-- what stands behind the call of Reduced: the screen's box, its cells -/
structure Fr3 (Q : World) (r g : Nat) (R : Scr) (N : Nat) (W : World) : Prop where
  rq : Q.heap.size ≤ r
  own : Own1 W r (scrL R g N) 24
  row : TRow W (some ⟨g, 0, none⟩) R.cells
  below : Below Q.heap.size Q W
theorem fr3B {Q w1 : World} {g N : Nat} {R : Scr} (hb : Below Q.heap.size Q w1) (hr : TRow w1 (some ⟨g, 0, none⟩) R.cells) : Fr3 Q w1.heap.size g R N (w1.alloc (.cells #[.int .i64 R.w, .int .i64 R.h, .slice (some ⟨g, 0, none⟩) N N, .int .i64 R.x, .int .i64 R.y, .bool R.shown] 24)) :=
  ⟨hb.size, World.alloc_heap_new w1 _, hr.below ((Below.refl _ _).alloc (Nat.le_refl _) _), hb.alloc hb.size _⟩
theorem fr3A {Q w1 : World} {g N : Nat} {R : Scr} (hb : Below (Q.alloc (.cells #[.int .i64 0, .int .i64 0, .slice none 0 0, .int .i64 0, .int .i64 0, .bool false] 24)).drew.heap.size (Q.alloc (.cells #[.int .i64 0, .int .i64 0, .slice none 0 0, .int .i64 0, .int .i64 0, .bool false] 24)).drew w1) (hr : TRow w1 (some ⟨g, 0, none⟩) R.cells) :
    Fr3 Q Q.heap.size g R N ((((((w1.setCell ⟨Q.heap.size, 0, none⟩ (.int .i64 R.w)).setCell ⟨Q.heap.size, 1, none⟩ (.int .i64 R.h)).setCell ⟨Q.heap.size, 2, none⟩ (.slice (some ⟨g, 0, none⟩) N N)).setCell ⟨Q.heap.size, 3, none⟩ (.int .i64 R.x)).setCell ⟨Q.heap.size, 4, none⟩ (.int .i64 R.y)).setCell ⟨Q.heap.size, 5, none⟩ (.bool R.shown)) := by
  have o0 : Own1 w1 Q.heap.size zS 24 := (hb.block Q.heap.size (by simp)).trans (World.alloc_heap_new Q _)
  have ne : 24 ≠ 51 := by decide
  have o1 := o0.set 0 (.int .i64 R.w)
  have o2 := o1.set 1 (.int .i64 R.h)
  have o3 := o2.set 2 (.slice (some ⟨g, 0, none⟩) N N)
  have o4 := o3.set 3 (.int .i64 R.x)
  have o5 := o4.set 4 (.int .i64 R.y)
  have o6 := o5.set 5 (.bool R.shown)
  have B : Below Q.heap.size Q w1 := (((Below.refl _ Q).alloc (Nat.le_refl _) _).drew).trans (hb.mono (by simp))
  have st : ∀ {W : World} {vs : List Value} {i : Nat} {y : Value}, Own1 W Q.heap.size vs 24 → TRow W (some ⟨g, 0, none⟩) R.cells → TRow (W.setCell ⟨Q.heap.size, i, none⟩ y) (some ⟨g, 0, none⟩) R.cells := fun o h => h.keep (KeepT.set o ne) (grown_set _ _ _).size
  exact ⟨Nat.le_refl _, o6, st o5 (st o4 (st o3 (st o2 (st o1 (st o0 hr))))), (((((B.setCell (p := ⟨Q.heap.size, 0, none⟩) (Nat.le_refl _) _).setCell (p := ⟨Q.heap.size, 1, none⟩) (Nat.le_refl _) _).setCell (p := ⟨Q.heap.size, 2, none⟩) (Nat.le_refl _) _).setCell (p := ⟨Q.heap.size, 3, none⟩) (Nat.le_refl _) _).setCell (p := ⟨Q.heap.size, 4, none⟩) (Nat.le_refl _) _).setCell (p := ⟨Q.heap.size, 5, none⟩) (Nat.le_refl _) _⟩

/-- the state ahead of the first byte -/
theorem frst_start (F : Fix) (ok : FixOk F) (told : Bool) (t : Tel) (shn : Bool) (hw : Own1 F.w0 F.b (F.wri told t shn) 60) (ho : t.out = zB) :
    FrSt F told t shn (((F.w0.alloc (.cells #[.slice none 0 0] 26)).alloc (.cells #[.func (.func 25) #[] #[.pointer (some ⟨F.o, 0, none⟩), .pointer (some ⟨F.p, 0, none⟩)]] 61)).alloc (.cells #[.func (.func 26) #[] #[.pointer (some ⟨F.o + 1, 0, none⟩), .pointer (some ⟨F.p, 0, none⟩)]] 63)) := by
  have b1 : ∀ W : World, ∀ o, Below W.heap.size W (W.alloc o) := fun W o => (Below.refl _ W).alloc (Nat.le_refl _) o
  obtain ⟨W1, h1⟩ : ∃ W1, W1 = F.w0.alloc (.cells #[.slice none 0 0] 26) := ⟨_, rfl⟩
  have z1 : W1.heap.size = F.o + 1 := by rw [h1]; simp [Fix.o]
  have k1 : Below F.w0.heap.size F.w0 W1 := by rw [h1]; exact b1 _ _
  have q1 : Boxed W1 F.o 26 (.slice none 0 0) := by rw [h1]; exact Boxed.new F.w0 _ _
  rw [← h1]
  clear h1
  obtain ⟨W2, h2⟩ : ∃ W2, W2 = W1.alloc (.cells #[.func (.func 25) #[] #[.pointer (some ⟨F.o, 0, none⟩), .pointer (some ⟨F.p, 0, none⟩)]] 61) := ⟨_, rfl⟩
  have z2 : W2.heap.size = F.o + 2 := by rw [h2]; simp [z1]
  have k2 : Below W1.heap.size W1 W2 := by rw [h2]; exact b1 _ _
  have q2 : Own1 W2 (F.o + 1) [.func (.func 25) #[] #[.pointer (some ⟨F.o, 0, none⟩), .pointer (some ⟨F.p, 0, none⟩)]] 61 := by rw [h2, ← z1]; exact World.alloc_heap_new W1 _
  rw [← h2]
  clear h2
  obtain ⟨W3, h3⟩ : ∃ W3, W3 = W2.alloc (.cells #[.func (.func 26) #[] #[.pointer (some ⟨F.o + 1, 0, none⟩), .pointer (some ⟨F.p, 0, none⟩)]] 63) := ⟨_, rfl⟩
  have k3 : Below W2.heap.size W2 W3 := by rw [h3]; exact b1 _ _
  have q3 : Own1 W3 (F.o + 2) [.func (.func 26) #[] #[.pointer (some ⟨F.o + 1, 0, none⟩), .pointer (some ⟨F.p, 0, none⟩)]] 63 := by rw [h3, ← z2]; exact World.alloc_heap_new W2 _
  rw [← h3]
  clear h3
  have k12 : Below F.w0.heap.size F.w0 W2 := k1.trans (k2.mono k1.size)
  have k13 : Below F.w0.heap.size F.w0 W3 := k12.trans (k3.mono k12.size)
  refine ⟨ok, hw.below k13, q2.below k3, q3, ⟨.slice none 0 0, ?_, ?_⟩, grown_of_below k13 _⟩
  · exact (k3.block F.o (by rw [z2]; omega)).trans ((k2.block F.o (by rw [z1]; omega)).trans q1)
  · rw [ho]; exact World.ownsRow_nil _ _ _ _

/-- the last frame's cells, or blanks, at hand -/
def FrLast (F : Fix) (x : Wri) (G : Bool) (V : World) (A1 : Option Addr) (M : Nat) (W : World) : Prop :=
  FrSt F x.told (start1 x G) (x.shown && !G) W ∧ TRow W A1 (from1 x G F.R) ∧ M = F.R.cells.length ∧ KeepT V W ∧ V.heap.size ≤ W.heap.size

theorem KeepT.trans_set {V W : World} (h : KeepT V W) {g i : Nat} {y : Value} (hg : V.heap.size ≤ g) : KeepT V (W.setCell ⟨g, i, none⟩ y) := fun k arr fl hk => by
  have lt := (Array.getElem?_eq_some_iff.1 hk).1
  have e1 := h k arr fl hk
  have lt2 : k < W.heap.size := (Array.getElem?_eq_some_iff.1 (e1.trans hk)).1
  exact ((grown_set W ⟨g, i, none⟩ y).block k lt2 (fun e => by have := Option.some.inj e; simp only at this; omega)).trans e1
theorem wri_plain (F : Fix) (told : Bool) (t : Tel) (shn : Bool) : ((((F.wri told t shn).set 11 (.int .i32 0)).set 12 (.int .i32 0)).set 13 (.int .u8 0)).set 14 (.bool false) = F.wri told ⟨t.place, t.x, t.y, plainS, t.text, t.out⟩ false := rfl
theorem zB_app (s : ByteArray) : zB ++ s = s := by
  apply ByteArray.ext
  rw [ByteArray.data_append]
  simp [zB]
/-- a row of cells is being filled, besides -/
structure FillSt (F : Fix) (told : Bool) (t : Tel) (shn : Bool) (V : World) (lo g N : Nat) (xs : List Value) (W : World) : Prop where
  st : FrSt F told t shn W
  own : W.ownsRow lo 51 5 (.slice (some ⟨g, 0, none⟩) N N) N xs
  keep : KeepT V W
  size : V.heap.size ≤ W.heap.size
  far : V.heap.size ≤ g
  lo_o : F.o + 3 ≤ g
theorem FrSt.farCell {F : Fix} {told : Bool} {t : Tel} {shn : Bool} {W : World} (h : FrSt F told t shn W) {g : Nat} {arr : Array Value} {fl : Nat × Nat} (hg : W.heap[g]? = some (.cells arr 51 fl)) (hb : F.o + 3 ≤ g) (i : Nat) (y : Value) : FrSt F told t shn (W.setCell ⟨g, i, none⟩ y) := by
  have gs := grown_set W ⟨g, i, none⟩ y
  have bo := h.ok.bo
  have so : F.o = F.w0.heap.size := rfl
  have st : ∀ k, k ≠ g → k < W.heap.size → (W.setCell ⟨g, i, none⟩ y).heap[k]? = W.heap[k]? := fun k ne hk => gs.block k hk (fun e => ne (Option.some.inj e))
  obtain ⟨v, h1, h2⟩ := h.bo
  refine ⟨h.ok, (st _ (by omega) h.bw.lt).trans h.bw, (st _ (by omega) h.bs.lt).trans h.bs, (st _ (by omega) h.bm.lt).trans h.bm, ⟨v, (st _ (by omega) h1.lt).trans h1, h2.kept gs ?_⟩, ?_⟩
  · rcases h2.2 with ⟨rfl, _⟩ | ⟨g', cap, cur, rfl, hb, hgb, _⟩
    · exact Or.inl rfl
    · refine Or.inr (fun q => ?_)
      have := Option.some.inj q
      simp only at this
      subst this
      rw [hgb] at hg
      cases hg
  · refine ⟨gs.os.trans h.gr.os, gs.tape.trans h.gr.tape, gs.output.trans h.gr.output, Nat.le_trans h.gr.size gs.size, fun k hk ne => (st k (by omega) (Nat.lt_of_lt_of_le hk h.gr.size)).trans (h.gr.block k hk ne)⟩
theorem FillSt.store {F : Fix} {told : Bool} {t : Tel} {shn : Bool} {V W : World} {lo g N : Nat} {xs : List Value} (h : FillSt F told t shn V lo g N xs W) (i : Nat) (y : Value) : FillSt F told t shn V lo g N (xs.set i y) (W.setCell ⟨g, i, none⟩ y) := by
  have gs := grown_set W ⟨g, i, none⟩ y
  obtain ⟨arr, fl, hg⟩ : ∃ arr fl, W.heap[g]? = some (.cells arr 51 fl) := by
    rcases h.own.2 with ⟨e, _⟩ | ⟨g', cap, cur, e, _, hg, _⟩
    · cases e
    · injection e with e1
      injection e1 with e1
      injection e1 with e1
      subst e1
      exact ⟨_, _, hg⟩
  exact ⟨h.st.farCell hg h.lo_o i y, (h.own.stored i y).1, h.keep.trans_set h.far, Nat.le_trans h.size gs.size, h.far, h.lo_o⟩
theorem FillSt.below {F : Fix} {told : Bool} {t : Tel} {shn : Bool} {V W W' : World} {lo g N : Nat} {xs : List Value} (h : FillSt F told t shn V lo g N xs W) (hb : Below W.heap.size W W') : FillSt F told t shn V lo g N xs W' :=
  ⟨h.st.below hb, own_callN h.own hb, h.keep.trans (KeepT.below hb), Nat.le_trans h.size hb.size, h.far, h.lo_o⟩

theorem d_Blank0 : Gives 28 #[.agg #[.int .i32 0, .int .i32 0, .int .u8 0]] (.agg #[.string ⟨#[32]⟩, .int .i8 1, .int .i32 0, .int .i32 0, .int .u8 0]) := by
  have h := d_Blank plainS
  rw [show countS plainS = plainS by decide] at h
  exact h
theorem rep_snoc (k : Nat) : celsV (List.replicate (k + 1) blankC) = celsV (List.replicate k blankC) ++ [.string ⟨#[32]⟩, .int .i8 1, .int .i32 0, .int .i32 0, .int .u8 0] := by
  rw [List.replicate_succ', celsV_app]
  rfl
theorem bne_dec (a b : Int) : (a != b) = decide (a ≠ b) := by
  by_cases h : a = b <;> simp [h]
theorem TRow.stay {W W' : World} {A : Option Addr} {L : List Cel} (h : TRow W A L) (k : KeepT W W') : TRow W' A L := by
  obtain ⟨g, arr, fl, rfl, hg, S⟩ := h
  refine ⟨g, arr, fl, rfl, (k g arr fl hg).trans hg, fun hne => ?_⟩
  obtain ⟨ad, e, _, hc⟩ := k.sees hg S hne
  cases e
  exact ⟨_, rfl, (Array.getElem?_eq_some_iff.1 ((k g arr fl hg).trans hg)).1, hc⟩
theorem TRow.sees {W : World} {A : Option Addr} {L : List Cel} (h : TRow W A L) : Sees W W.heap.size A (celsV L) := by
  obtain ⟨_, _, _, _, _, S⟩ := h
  exact S
/-- the state between two units -/
def FrJ (F : Fix) (told : Bool) (t0 : Tel) (shn : Bool) (A1 : Option Addr) (a : List Cel) (pre : List (Nat × Nat)) (W : World) : Prop :=
  FrSt F told (unitsT F.R.w F.R.cells t0 pre) shn W ∧ KeepT F.w0 W ∧ TRow W A1 a
theorem fr_units (F : Fix) (x : Wri) (G : Bool) (hG : G = newB x F.R) (A1 : Option Addr) (c1 : Nat) (W : World) (hR : rightS F.R = true) (hs : totS F.R.cells ≤ 1000000000) (hl : x.told = true → rightS x.last = true) (hx0 : 0 ≤ x.tel.x) (hx1 : x.tel.x ≤ 5000) (ht : x.tel.text.size ≤ 400000000000)
    (hrow : TRow F.w0 F.RA F.R.cells) (M : Nat) (h : FrLast F x G F.w0 A1 M W) :
    Calls Tryd.prog 29 #[.slice A1 M c1, .slice F.RA F.R.cells.length F.Rc, .func (.func 30) #[] #[.pointer (some ⟨F.r, 0, none⟩), .pointer (some ⟨F.p, 0, none⟩), .pointer (some ⟨F.o + 2, 0, none⟩), .pointer (some ⟨F.o + 1, 0, none⟩), .pointer (some ⟨F.o, 0, none⟩)]] W
      fun e w' => (∃ v, e = .returned v) ∧ FrSt F x.told (midT x F.R) (x.shown && !G) w' ∧ KeepT F.w0 w' := by
  obtain ⟨h1, h2, h3, h4, h5⟩ := h
  subst hG
  have len := from1_len hR hl
  obtain ⟨r1, r2, _⟩ := right_parts hR
  have sz := sized_parts r1
  have NB : F.R.cells.length ≤ 1048576 := by omega
  have rm := diffU_room F.R.cells (right_row hR) 0 _ F.R.cells len rfl
  have U := d_dunits 30 #[.pointer (some ⟨F.r, 0, none⟩), .pointer (some ⟨F.p, 0, none⟩), .pointer (some ⟨F.o + 2, 0, none⟩), .pointer (some ⟨F.o + 1, 0, none⟩), .pointer (some ⟨F.o, 0, none⟩)] (enters_of Tryd.func30 (by kernel_rfl) rfl)
    (FrJ F x.told (start1 x (newB x F.R)) (x.shown && !newB x F.R) A1 (from1 x (newB x F.R) F.R)) A1 F.RA c1 F.Rc (from1 x (newB x F.R) F.R) F.R.cells len (by omega) (right_row hR)
    (fun pre i n V hj hp hn => by
      obtain ⟨j1, j2, j3⟩ := hj
      have hi := (rm.2.2 (i, n) (hp.subset (List.mem_append_right _ (List.mem_singleton.2 rfl)))).2.1
      simp only at hi
      have il : i < F.R.cells.length := by omega
      have w1 : 1 ≤ F.R.w := by
        rcases Int.lt_or_le F.R.w 1 with z | z
        · have e : F.R.w = 0 := by omega
          rw [e, Int.zero_mul] at r2
          omega
        · exact z
      have hpre : pre <+: diffU 0 (from1 x (newB x F.R) F.R) F.R.cells := (List.prefix_append pre _).trans hp
      have pb := pre_bounds hR hl ht hx0 hx1 hs hpre (Or.inl w1)
      have ge : F.R.cells[i] = F.R.cells.getD i celD := by rw [List.getD_eq_getElem?_getD, List.getElem?_eq_getElem il]; rfl
      have tg := totS_getD F.R.cells i
      have rr := hrow.stay j2
      refine (f_unit F x.told _ _ V j1 i n _ hn il ge NB w1 sz.2.1 rr.sees (by omega) (by omega) (by omega) (by omega)).mono ?_
      rintro e W' ⟨hv, q1, q2⟩
      exact ⟨hv, by rw [unitsT_snoc]; exact q1, j2.trans q2, j3.stay q2⟩)
    (fun pre V hj => ⟨hj.2.2.sees, (hrow.stay hj.2.1).sees⟩)
    (fun pre V V' hj hb => ⟨hj.1.below hb, hj.2.1.trans (KeepT.below hb), hj.2.2.below hb⟩) W ⟨h1, h4, h2⟩
  rw [len, ← h3] at U
  rw [← h3]
  exact U.mono fun e w' ⟨hv, q⟩ => ⟨hv, q.1, q.2.1⟩
theorem mid_bounds {x : Wri} {r : Scr} (hr : rightS r = true) (hl : x.told = true → rightS x.last = true) (ht : x.tel.text.size ≤ 400000000000) (h0 : 0 ≤ x.tel.x) (h1 : x.tel.x ≤ 5000) (hs : totS r.cells ≤ 1000000000) :
    (midT x r).out.size ≤ 2000000000 ∧ (midT x r).text.size ≤ 400000000000 ∧ 0 ≤ (midT x r).x ∧ (midT x r).x ≤ 5000 := by
  refine pre_bounds hr hl ht h0 h1 hs (List.prefix_refl _) ?_
  obtain ⟨r1, r2, _⟩ := right_parts hr
  have sz := sized_parts r1
  rcases Int.lt_or_le r.w 1 with z | z
  · have e : r.w = 0 := by omega
    rw [e, Int.zero_mul] at r2
    have e2 : r.cells = [] := List.length_eq_zero_iff.1 (by omega)
    rw [e2, diffU_nil]
    exact Or.inr rfl
  · exact Or.inl z
/-- is the cursor to be moved at the end? -/
def goC (t : Tel) (r : Scr) : Bool := r.shown && (!t.place || decide (t.x ≠ r.x) || decide (t.y ≠ r.y))
theorem curs_bounds {t : Tel} {r : Scr} (hr : rightS r = true) (h1 : t.out.size ≤ 2000000000) (h2 : t.text.size ≤ 400000000000) (h3 : 0 ≤ t.x) (h4 : t.x ≤ 5000) : (curs1 t r).out.size ≤ 2000000100 ∧ (curs1 t r).text.size ≤ 400000000000 ∧ 0 ≤ (curs1 t r).x ∧ (curs1 t r).x ≤ 5000 := by
  obtain ⟨r1, _, _, r4⟩ := right_parts hr
  have sz := sized_parts r1
  unfold curs1
  split
  · rename_i g
    simp only [Bool.and_eq_true] at g
    unfold cursR at r4
    rw [if_pos g.1] at r4
    simp only [Bool.and_eq_true, decide_eq_true_eq] at r4
    have := moveB_size r.x r.y (by omega) (by omega) (by omega) (by omega)
    exact ⟨by show (t.out ++ moveB r.x r.y).size ≤ _; rw [ByteArray.size_append]; omega, Nat.zero_le _, by show 0 ≤ r.x; omega, by show r.x ≤ 5000; omega⟩
  · exact ⟨by omega, h2, h3, h4⟩
theorem show_bounds (t : Tel) (a b : Bool) : (show1 t a b).x = t.x ∧ (show1 t a b).text.size ≤ t.text.size := by
  unfold show1
  split
  · exact ⟨rfl, Nat.zero_le _⟩
  · split
    · exact ⟨rfl, Nat.zero_le _⟩
    · exact ⟨rfl, Nat.le_refl _⟩

/-- what Frame leaves -/
def FrRet (b : Nat) (x : Wri) (s : Scr) (w : World) (e : Ending) (w' : World) : Prop :=
  ∃ v LA Lc, e = .returned (.tuple #[v, .int .i64 0]) ∧ w'.ownsRow w.heap.size 5 1 v (frameT x (redS s x.depth)).out.size (Lib.strCells (frameT x (redS s x.depth)).out) ∧ WrAt w' b (frameW x s) LA Lc ∧ w.grownBy w' (some b)

set_option maxHeartbeats 64000000 in
set_option maxRecDepth 100000 in
theorem d_Frame (b : Nat) (x : Wri) (LA : Option Addr) (Lc : Nat) (s : Scr) (A : Option Addr) (c : Nat) (w : World) (E : EnvD w) (nb : b ≠ 1 ∧ b ≠ 0 ∧ b ≠ 2) (hx : WrAt w b x LA Lc) (hs : ScrAt w w.heap.size s A c) (hr : rightS s = true) (ht : totS s.cells ≤ 1000000000) :
    Calls Tryd.prog 16 #[.pointer (some ⟨b, 0, none⟩), scrV s A c] w (FrRet b x s w) := by
  obtain ⟨Q, hQ⟩ : ∃ Q, Q = (w.alloc (.cells #[.pointer (some ⟨b, 0, none⟩)] 35)).alloc (.cells #[.int .i64 s.w, .int .i64 s.h, .slice A s.cells.length c, .int .i64 s.x, .int .i64 s.y, .bool s.shown] 24) := ⟨_, rfl⟩
  have BQ : Below w.heap.size w Q := by rw [hQ]; exact ((Below.refl _ w).alloc (Nat.le_refl _) _).alloc (by simp) _
  have OP : Own1 Q w.heap.size [.pointer (some ⟨b, 0, none⟩)] 35 := by
    rw [hQ]
    exact Own1.below (World.alloc_heap_new w _) ((Below.refl _ _).alloc (Nat.le_refl _) _)
  have KS : Blk Q (w.heap.size + 1) [.int .i64 s.w, .int .i64 s.h, .slice A s.cells.length c, .int .i64 s.x, .int .i64 s.y, .bool s.shown] := by
    have := Blk.new (w.alloc (.cells #[.pointer (some ⟨b, 0, none⟩)] 35)) [.int .i64 s.w, .int .i64 s.h, .slice A s.cells.length c, .int .i64 s.x, .int .i64 s.y, .bool s.shown] 24
    have e : (w.alloc (.cells #[.pointer (some ⟨b, 0, none⟩)] 35)).heap.size = w.heap.size + 1 := by simp
    rw [e] at this
    rw [hQ]
    exact this
  have bl := hx.own.lt
  have HX := Lib.hid (hx.below BQ)
  obtain ⟨R, hR⟩ : ∃ R, R = redS s x.depth := ⟨_, rfl⟩
  have RL : R.cells.length = s.cells.length := by rw [hR]; simp [redS, redL]
  have RR : Hid (rightS R = true ∧ totS R.cells ≤ 1000000000) := Lib.hid (by rw [hR]; exact ⟨right_red x.depth hr, by show totS (redL s.cells x.depth) ≤ _; rw [totS_red]; exact ht⟩)
  have RD : Hid (∀ W, Below Q.heap.size Q W → Calls Tryd.prog 10 #[scrV s A c, .int .i64 x.depth] W fun e w' => ∃ g, e = .returned (.tuple #[.agg #[.int .i64 R.w, .int .i64 R.h, .slice (some ⟨g, 0, none⟩) s.cells.length s.cells.length, .int .i64 R.x, .int .i64 R.y, .bool R.shown], .int .i64 0]) ∧ Below W.heap.size W w' ∧ Hid (Below Q.heap.size Q w' ∧ TRow w' (some ⟨g, 0, none⟩) R.cells)) :=
    Lib.hid (fun W hW => (d_Reduced s x.depth A c hs.cap hs.nil hs.len hs.ok hr _ ((hs.below (BQ.trans (hW.mono BQ.size))).more (Nat.le_trans BQ.size hW.size)).sees).mono fun e w' ⟨g, h1, h2, h3⟩ => ⟨g, by rw [h1, ← hR]; simp only [scrV, RL], h3, Lib.hid ⟨hW.trans (h3.mono hW.size), by rw [hR]; exact TRow.of_own h2⟩⟩)
  have RN := Lib.hid RL
  have FW : Hid (∀ e w', FrRet b x s w e w' ↔ ∃ v LA Lc, e = .returned (.tuple #[v, .int .i64 0]) ∧ w'.ownsRow w.heap.size 5 1 v (frameT x R).out.size (Lib.strCells (frameT x R).out) ∧ WrAt w' b ⟨x.depth, true, R, frameT x R, s.shown⟩ LA Lc ∧ w.grownBy w' (some b)) := Lib.hid (by rw [hR]; intro e w'; exact Iff.rfl)
  have SH : Hid (s.shown = R.shown) := Lib.hid (by rw [hR]; rfl)
  have b0 := HX.out.own.blk.c 0 _ rfl
  have p0 := OP.blk.c 0 _ rfl
  have s0 := KS.c 0 _ rfl
  have s1 := KS.c 1 _ rfl
  have s2 := KS.c 2 _ rfl
  have s3 := KS.c 3 _ rfl
  have s4 := KS.c 4 _ rfl
  have s5 := KS.c 5 _ rfl
  have HB := Lib.hid BQ
  have HOP := Lib.hid OP
  have HE := Lib.hid E
  simp only [scrV] at RD ⊢
  generalize s.cells.length = N at *
  clear KS hx hs hr ht RL OP hR E
  have QS : w.heap.size + 2 = Q.heap.size := by rw [hQ]; simp
  have hbq : b < Q.heap.size := by omega
  have hq0 : w.heap.size < Q.heap.size := by omega
  have hq1 : w.heap.size + 1 < Q.heap.size := by omega
  clear QS BQ
  go_enter Tryd.func16, Tryd.ntmps16
  go_upto_region 3 with fail
  rw [← hQ]
  clear hQ
  go_cut [6, 7] from 15 to 23 (fun s6 s7 wx => s7 = .int .i64 0 ∧ ∃ r g, s6 = .pointer (some ⟨r, 0, none⟩) ∧ Hid (Fr3 Q r g R N wx))
  case first =>
    --Q(
    go_region_with ((go_at_call 10; refine (RD.out _ (by first | exact (Below.refl _ Q).drew | exact ((Below.refl _ Q).alloc (Nat.le_refl _) _).drew)).mono ?_; rintro e w1 ⟨g, rfl, hb1, hw1⟩; obtain ⟨hc, hf, hz⟩ := bcell hb1))
    all_goals
      have HB1 := Lib.hid hb1
      clear hc hf hb1 hz
      go_wp2_with fail
      go_meet
      first
      | (with_reducible exact ⟨rfl, _, g, rfl, Lib.hid (fr3B hw1.out.1 hw1.out.2)⟩)
      | (exact ⟨rfl, _, g, rfl, Lib.hid (fr3A HB1.out hw1.out.2)⟩)
    --)Q
  case rest =>
    obtain ⟨rfl, r, g, rfl, h3⟩ := hcut
    clear RD b0 p0 s0 s1 s2 s3 s4 s5
    have e6 : (decide (R.cells.length = N)) = true := by rw [RN.out]; simp
    go_upto_region 9 with fail
    obtain ⟨F, hF⟩ : ∃ F : Fix, F = ⟨wc, b, w.heap.size, r, x.depth, x.last.w, x.last.h, LA, x.last.cells.length, Lc, x.last.x, x.last.y, x.last.shown, R, some ⟨g, 0, none⟩, N⟩ := ⟨_, rfl⟩
    have OK : FixOk F := by
      have hq := h3.out
      have hqs := hq.below.size
      have hrq := hq.rq
      have hown := hq.own
      unfold scrL at hown
      rw [hF]
      refine ⟨?_, ?_, ?_, ?_, nb, HOP.out.below hq.below, ?_⟩
      · show w.heap.size ≠ b
        omega
      · show r ≠ b
        omega
      · show b < wc.heap.size
        omega
      · exact HE.out.of_below (HB.out.trans (hq.below.mono HB.out.size)) (Nat.le_refl _)
      · show Own1 wc r [.int .i64 R.w, .int .i64 R.h, .slice (some ⟨g, 0, none⟩) R.cells.length N, .int .i64 R.x, .int .i64 R.y, .bool R.shown] 24
        rw [RN.out]
        exact hown
    have H0 := frst_start F OK x.told ⟨x.tel.place, x.tel.x, x.tel.y, x.tel.st, x.tel.text, zB⟩ x.shown (by rw [hF]; exact HX.out.own.below h3.out.below) rfl
    have eo : wc.heap.size = F.o := by rw [hF]; rfl
    have ew : wc = F.w0 := by rw [hF]
    have ep : w.heap.size = F.p := by rw [hF]
    have eb : b = F.b := by rw [hF]
    have er : r = F.r := by rw [hF]
    have EQ := Lib.hid hF
    rw [eo, ep, eb, er, ew]
    obtain ⟨V, hV⟩ : ∃ V, V = (((F.w0.alloc (.cells #[.slice none 0 0] 26)).alloc (.cells #[.func (.func 25) #[] #[.pointer (some ⟨F.o, 0, none⟩), .pointer (some ⟨F.p, 0, none⟩)]] 61)).alloc (.cells #[.func (.func 26) #[] #[.pointer (some ⟨F.o + 1, 0, none⟩), .pointer (some ⟨F.p, 0, none⟩)]] 63)) := ⟨_, rfl⟩
    rw [← hV] at H0 ⊢
    have LR : Hid (TRow F.w0 (some ⟨g, 0, none⟩) R.cells ∧ (x.told = true → rightS x.last = true ∧ TRow F.w0 LA x.last.cells) ∧ 0 ≤ x.tel.x ∧ x.tel.x ≤ 5000 ∧ x.tel.text.size ≤ 400000000000) := Lib.hid (by
      have hx := HX.out.below h3.out.below
      rw [← ew]
      exact ⟨h3.out.row, hx.last, hx.tx.1, hx.tx.2, hx.tt⟩)
    have BW : Hid (Below w.heap.size w F.w0) := Lib.hid (by rw [← ew]; exact HB.out.trans (h3.out.below.mono HB.out.size))
    have KV : Hid (KeepT F.w0 V) := Lib.hid (by
      rw [hV]
      exact KeepT.below ((((Below.refl _ _).alloc (Nat.le_refl _) _).alloc (by simp) _).alloc (by simp; omega) _))
    have pc := H0.bp.blk.c 0 _ rfl
    have b4 := H0.bw.blk.c 4 _ rfl
    have H0 := Lib.hid H0
    have EB := Lib.hid eb
    have EP := Lib.hid ep
    have BO := OK.bo
    have PB := OK.pb
    have RB := OK.rb
    clear hF hV eo ew ep eb er OK h3 HX HOP HE hbq hq0 hq1 nb bl e6
    go_upto_region 10 with fail
    rw [show F.o + 1 + 1 = F.o + 2 from rfl]
    obtain ⟨G, hG⟩ : ∃ G, G = newB x F.R := ⟨_, rfl⟩
    have HG := Lib.hid hG
    have GE : Hid (∀ a b c : Bool, x.told = a → (F.LW != F.R.w) = b → (F.LH != F.R.h) = c → G = (!a || b || c)) := Lib.hid (by
      intro a b c ha hb hc
      rw [hG, ← ha, ← hb, ← hc, EQ.out]
      unfold newB
      simp only [bne_dec])
    clear hG b4
    have gp := fun d os => (H0.out.bp.blk.regrown d os).c 0 _ rfl
    have g1 := fun d os => (H0.out.bw.blk.regrown d os).c 1 _ rfl
    have g2 := fun d os => (H0.out.bw.blk.regrown d os).c 2 _ rfl
    have g3 := fun d os => (H0.out.bw.blk.regrown d os).c 3 _ rfl
    have r0 := fun d os => (H0.out.br.blk.regrown d os).c 0 _ rfl
    have r1 := fun d os => (H0.out.br.blk.regrown d os).c 1 _ rfl
    go_cut [58] from 34 to 58 (fun s58 wx => s58 = .bool G ∧ Hid (Below V.heap.size V wx))
    case first =>
      --Q(
      generalize x.told = tl at *
      cases tl with
      | false =>
        have RG : Hid (G = true) := Lib.hid (GE.out false _ _ rfl rfl rfl)
        refine wp_region_spec 24 [] [] (by kernel_rfl) (by kernel_rfl) (by kernel_rfl) (by intro t ht; cases ht) ?_
        simp only [List.take_succ_cons, List.take_zero, List.drop_succ_cons, List.drop_zero]
        repeat (refine wpS_step (by rfl) (fun K hK => ?_); go_simp; first | (refine hK _ ?_; clear hK K) | (apply Exists.intro; refine ⟨fun _ => ?_, hK _ ?_⟩; (fail); clear hK K))
        refine wpS_nil ?_
        intro W8 vs8 hl hv
        have hb8 := Lib.hid (later_below.1 hl)
        clear hl hv
        simp only [fillA]
        go_wp2_with fail
        go_meet
        exact ⟨by rw [RG.out], hb8⟩
      | true =>
        cases q1 : (F.LW != F.R.w) with
        | true =>
          have RG : Hid (G = true) := Lib.hid (GE.out true _ _ rfl q1 rfl)
          refine wp_region_spec 24 [] [] (by kernel_rfl) (by kernel_rfl) (by kernel_rfl) (by intro t ht; cases ht) ?_
          simp only [List.take_succ_cons, List.take_zero, List.drop_succ_cons, List.drop_zero]
          repeat (refine wpS_step (by rfl) (fun K hK => ?_); go_simp; first | (refine hK _ ?_; clear hK K) | (apply Exists.intro; refine ⟨fun _ => ?_, hK _ ?_⟩; (fail); clear hK K))
          refine wpS_nil ?_
          intro W8 vs8 hl hv
          have hb8 := Lib.hid (later_below.1 hl)
          clear hl hv
          simp only [fillA]
          go_wp2_with fail
          go_meet
          exact ⟨by rw [RG.out], hb8⟩
        | false =>
          cases q2 : (F.LH != F.R.h) with
          | true =>
            have RG : Hid (G = true) := Lib.hid (GE.out true _ _ rfl q1 q2)
            refine wp_region_spec 24 [] [] (by kernel_rfl) (by kernel_rfl) (by kernel_rfl) (by intro t ht; cases ht) ?_
            simp only [List.take_succ_cons, List.take_zero, List.drop_succ_cons, List.drop_zero]
            repeat (refine wpS_step (by rfl) (fun K hK => ?_); go_simp; first | (refine hK _ ?_; clear hK K) | (apply Exists.intro; refine ⟨fun _ => ?_, hK _ ?_⟩; (fail); clear hK K))
            refine wpS_nil ?_
            intro W8 vs8 hl hv
            have hb8 := Lib.hid (later_below.1 hl)
            clear hl hv
            simp only [fillA]
            go_wp2_with fail
            go_meet
            exact ⟨by rw [RG.out], hb8⟩
          | false =>
            have RG : Hid (G = false) := Lib.hid (GE.out true _ _ rfl q1 q2)
            refine wp_region_spec 24 [] [] (by kernel_rfl) (by kernel_rfl) (by kernel_rfl) (by intro t ht; cases ht) ?_
            simp only [List.take_succ_cons, List.take_zero, List.drop_succ_cons, List.drop_zero]
            repeat (refine wpS_step (by rfl) (fun K hK => ?_); go_simp; first | (refine hK _ ?_; clear hK K) | (apply Exists.intro; refine ⟨fun _ => ?_, hK _ ?_⟩; (fail); clear hK K))
            refine wpS_nil ?_
            intro W8 vs8 hl hv
            have hb8 := Lib.hid (later_below.1 hl)
            clear hl hv
            simp only [fillA]
            go_wp2_with fail
            go_meet
            exact ⟨by rw [RG.out], hb8⟩
      --)Q
    case rest =>
      obtain ⟨rfl, hbc⟩ := hcut
      obtain ⟨wa, hwa⟩ : ∃ wa, wa = wc := ⟨_, rfl⟩
      rw [← hwa] at hbc ⊢
      have HA := Lib.hid (H0.out.below hbc.out)
      have KA := Lib.hid (KV.out.trans (KeepT.below hbc.out))
      clear hwa hbc gp g1 g2 g3 r0 r1 GE pc
      go_upto_if 58 with fail
      go_cut [11] from 12 to 91 (fun s11 wx => ∃ A1 M c1, s11 = .slice A1 M c1 ∧ Hid (FrLast F x G F.w0 A1 M wx))
      case first =>
        cases G with
        | false =>
          have LS : Hid (FrLast F x false F.w0 F.LA F.Ln wa) := Lib.hid (by
            have nw := HG.out
            unfold newB at nw
            simp only [Bool.false_eq, Bool.or_eq_false_iff, Bool.not_eq_false', decide_eq_false_iff_not, Decidable.not_not] at nw
            obtain ⟨⟨n1, n2⟩, n3⟩ := nw
            obtain ⟨l1, l2, _⟩ := LR.out
            obtain ⟨m1, m2⟩ := l2 n1
            have e1 := (right_parts m1).2.1
            have e2 := (right_parts RR.out.1).2.1
            have eR : F.R = R := by rw [EQ.out]
            rw [eR] at n2 n3
            rw [n2, n3] at e1
            refine ⟨?_, ?_, ?_, KA.out, HA.out.gr.size⟩
            · have e3 : start1 x false = ⟨x.tel.place, x.tel.x, x.tel.y, x.tel.st, x.tel.text, zB⟩ := rfl
              rw [e3, Bool.not_false, Bool.and_true]
              exact HA.out
            · have eL : F.LA = LA := by rw [EQ.out]
              rw [eL]
              exact m2.keep KA.out HA.out.gr.size
            · have eN : F.Ln = x.last.cells.length := by rw [EQ.out]
              rw [eN, eR]
              omega)
          go_wp2_with fail
          go_meet
          exact ⟨_, _, _, rfl, LS⟩
        | true =>
          have gs := HA.out.bs.blk.c 0 _ rfl
          go_wp2_with fail
          refine (f_seq F x.told _ x.shown wa HA.out clearB (by rw [clear_size]; show 0 + 22 ≤ _; omega)).mono ?_; rintro e w9 ⟨⟨v, rfl⟩, h9, k9⟩
          have pc := h9.bp.blk.c 0 _ rfl
          have b11 := h9.bw.blk.c 11 _ rfl
          have q11 := h9.bw.blk.f 11 _ rfl
          have b12 := h9.bw.blk.c 12 _ rfl
          have q12 := h9.bw.blk.f 12 _ rfl
          have b13 := h9.bw.blk.c 13 _ rfl
          have q13 := h9.bw.blk.f 13 _ rfl
          have b14 := h9.bw.blk.c 14 _ rfl
          have q14 := h9.bw.blk.f 14 _ rfl
          have b8 := h9.bw.blk.c 8 _ rfl
          have q8 := h9.bw.blk.f 8 _ rfl
          have b9 := h9.bw.blk.c 9 _ rfl
          have q9 := h9.bw.blk.f 9 _ rfl
          have b10 := h9.bw.blk.c 10 _ rfl
          have q10 := h9.bw.blk.f 10 _ rfl
          have H9 := Lib.hid h9
          have K9 := Lib.hid k9
          have PB2 : F.b ≠ F.p := fun e => PB e.symm
          clear h9 k9 gs HA
          go_upto_region 12 with fail
          go_region
          go_upto_region 13 with fail
          go_region
          go_upto_region 14 with fail
          obtain ⟨V3, hV3⟩ : ∃ V3, V3 = (((((((w9.setCell ⟨F.b, 11, none⟩ (.int .i32 0)).setCell ⟨F.b, 12, none⟩ (.int .i32 0)).setCell ⟨F.b, 13, none⟩ (.int .u8 0)).setCell ⟨F.b, 14, none⟩ (.bool false)).setCell ⟨F.b, 9, none⟩ (.int .i64 0)).setCell ⟨F.b, 10, none⟩ (.int .i64 0)).setCell ⟨F.b, 8, none⟩ (.bool true)).drew.drew := ⟨_, rfl⟩
          rw [← hV3]
          have R3 : Hid (FrSt F x.told (start1 x true) false V3 ∧ KeepT F.w0 V3 ∧ F.w0.heap.size ≤ V3.heap.size) := Lib.hid (by
            obtain ⟨a1, k1⟩ := H9.out.setW (told' := x.told) (t' := ⟨x.tel.place, x.tel.x, x.tel.y, ⟨0, x.tel.st.bg, x.tel.st.at_⟩, zB, zB ++ clearB⟩) (shn' := x.shown) 11 (.int .i32 0) rfl rfl
            obtain ⟨a2, k2⟩ := a1.setW (told' := x.told) (t' := ⟨x.tel.place, x.tel.x, x.tel.y, ⟨0, 0, x.tel.st.at_⟩, zB, zB ++ clearB⟩) (shn' := x.shown) 12 (.int .i32 0) rfl rfl
            obtain ⟨a3, k3⟩ := a2.setW (told' := x.told) (t' := ⟨x.tel.place, x.tel.x, x.tel.y, plainS, zB, zB ++ clearB⟩) (shn' := x.shown) 13 (.int .u8 0) rfl rfl
            obtain ⟨a4, k4⟩ := a3.setW (told' := x.told) (t' := ⟨x.tel.place, x.tel.x, x.tel.y, plainS, zB, zB ++ clearB⟩) (shn' := false) 14 (.bool false) rfl rfl
            obtain ⟨a5, k5⟩ := a4.setW (told' := x.told) (t' := ⟨x.tel.place, 0, x.tel.y, plainS, zB, zB ++ clearB⟩) (shn' := false) 9 (.int .i64 0) rfl rfl
            obtain ⟨a6, k6⟩ := a5.setW (told' := x.told) (t' := ⟨x.tel.place, 0, 0, plainS, zB, zB ++ clearB⟩) (shn' := false) 10 (.int .i64 0) rfl rfl
            obtain ⟨a7, k7⟩ := a6.setW (told' := x.told) (t' := ⟨true, 0, 0, plainS, zB, zB ++ clearB⟩) (shn' := false) 8 (.bool true) rfl rfl
            have dr : ∀ X : World, Below X.heap.size X X.drew.drew := fun X => (Below.refl _ X).drew.drew
            have kk := ((((((((KA.out.trans K9.out).trans k1).trans k2).trans k3).trans k4).trans k5).trans k6).trans k7)
            rw [zB_app] at a7
            rw [hV3]
            exact ⟨a7.below (dr _), kk.trans (KeepT.below (dr _)), (a7.below (dr _)).gr.size⟩)
          clear hV3 pc b11 q11 b12 q12 b13 q13 b14 q14 b8 q8 b9 q9 b10 q10 H9 K9 KA PB2
          obtain ⟨i0, hi0, hz0, hz1, hz2⟩ := info_parts infoL
          have c2 := R3.out.1.br.blk.c 2 _ rfl
          have NB : F.R.cells.length ≤ 1048576 := by
            rw [EQ.out]
            obtain ⟨r1, r2, _⟩ := right_parts RR.out.1
            have := (sized_parts r1).2.2.2.2
            show R.cells.length ≤ 1048576
            omega
          obtain ⟨M, hM⟩ : ∃ M, M = F.R.cells.length := ⟨_, rfl⟩
          have HM := Lib.hid hM
          rw [← hM] at c2 NB
          clear hM
          have hmk1 : i0.bytes * M ≤ 281474976710656 := by rw [hz2]; omega
          have hmk2 : M ≤ maxLen := by unfold maxLen; omega
          have lo3 : F.o + 3 ≤ V3.heap.size := R3.out.1.sz
          go_wp2_with (at_make; refine wpList_make_full _ rfl _ _ _ rfl (F.o + 3) 51 i0 (.agg #[.string ⟨#[]⟩, .int .i8 0, .int .i32 0, .int .i32 0, .int .u8 0]) 5 Tryd.underlying22 hi0 hz0 hz1 .i64 .i64 M M M rfl rfl rfl rfl hmk1 hmk2 lo3 ?_; intro w2 hown hg2)
          have F0 : Hid (∃ xs, FillSt F x.told (start1 x true) false F.w0 (F.o + 3) V3.heap.size M xs w2 ∧ xs.take (0 * 5) = celsV (List.replicate 0 blankC)) := Lib.hid ⟨_, ⟨R3.out.1.below ((Below.refl _ V3).grown hg2 (Nat.le_refl _) (by simp)), hown, R3.out.2.1.trans (KeepT.below ((Below.refl _ V3).grown hg2 (Nat.le_refl _) (by simp))), Nat.le_trans R3.out.2.2 hg2.size, R3.out.2.2, lo3⟩, by simp [celsV]⟩
          obtain ⟨g2, hg⟩ : ∃ g2, g2 = V3.heap.size := ⟨_, rfl⟩
          rw [← hg] at F0 ⊢
          clear hown hg2 c2 R3 hg lo3
          go_loopw [83] (fun i wr => ∃ k : Nat, k ≤ M ∧ i = .int .i64 k ∧ Hid (∃ xs, FillSt F x.told (start1 x true) false F.w0 (F.o + 3) g2 M xs wr ∧ xs.take (k * 5) = celsV (List.replicate k blankC))) (fun i _ => M - (intOf i).toNat)
          case atStart => exact ⟨0, Nat.zero_le _, rfl, F0⟩
          case round =>
            obtain ⟨k, hk, rfl, hf⟩ := hrel
            clear F0
            by_cases lt : k < M
            · obtain ⟨xs, fs, tk⟩ := hf.out
              have FS := Lib.hid fs
              have TK := Lib.hid tk
              clear fs tk hf
              go_wp2_with fail
              refine (d_Blank0 wr).mono ?_; rintro e w3 ⟨rfl, hb3⟩
              have O3 := FS.out.below hb3
              have xl : xs.length = M * 5 := O3.own.1
              have rc : ∀ j, j < 5 → ∃ v, xs[k * 5 + j]? = some v := fun j hj => ⟨_, List.getElem?_eq_getElem (by omega)⟩
              obtain ⟨v0, hv0⟩ := rc 0 (by decide)
              obtain ⟨v1, hv1⟩ := rc 1 (by decide)
              obtain ⟨v2, hv2⟩ := rc 2 (by decide)
              obtain ⟨v3, hv3⟩ := rc 3 (by decide)
              obtain ⟨v4, hv4⟩ := rc 4 (by decide)
              have y0 : w3.cell? ⟨g2, k * 5, none⟩ = some v0 := (O3.own.cellAt (k * 5) (by omega)).trans hv0
              have y1 : w3.cell? ⟨g2, k * 5 + 1, none⟩ = some v1 := (O3.own.cellAt (k * 5 + 1) (by omega)).trans hv1
              have y2 : w3.cell? ⟨g2, k * 5 + 2, none⟩ = some v2 := (O3.own.cellAt (k * 5 + 2) (by omega)).trans hv2
              have y3 : w3.cell? ⟨g2, k * 5 + 3, none⟩ = some v3 := (O3.own.cellAt (k * 5 + 3) (by omega)).trans hv3
              have y4 : w3.cell? ⟨g2, k * 5 + 4, none⟩ = some v4 := (O3.own.cellAt (k * 5 + 4) (by omega)).trans hv4
              have p0 := O3.own.frozenAt (k * 5)
              have p1 := O3.own.frozenAt (k * 5 + 1)
              have p2 := O3.own.frozenAt (k * 5 + 2)
              have p3 := O3.own.frozenAt (k * 5 + 3)
              have p4 := O3.own.frozenAt (k * 5 + 4)
              have NO : Hid (∃ xs, FillSt F x.told (start1 x true) false F.w0 (F.o + 3) g2 M xs (((((w3.setCell ⟨g2, k * 5, none⟩ (.string ⟨#[32]⟩)).setCell ⟨g2, k * 5 + 1, none⟩ (.int .i8 1)).setCell ⟨g2, k * 5 + 2, none⟩ (.int .i32 0)).setCell ⟨g2, k * 5 + 3, none⟩ (.int .i32 0)).setCell ⟨g2, k * 5 + 4, none⟩ (.int .u8 0)) ∧ xs.take ((k + 1) * 5) = celsV (List.replicate (k + 1) blankC)) := Lib.hid (by
                refine ⟨_, ((((O3.store (k * 5) (.string ⟨#[32]⟩)).store (k * 5 + 1) (.int .i8 1)).store (k * 5 + 2) (.int .i32 0)).store (k * 5 + 3) (.int .i32 0)).store (k * 5 + 4) (.int .u8 0), ?_⟩
                rw [show (k + 1) * 5 = k * 5 + 5 by omega, set5 _ _ _ _ _ _ _ (by omega), TK.out, rep_snoc])
              clear O3 rc hv0 hv1 hv2 hv3 hv4 hb3 xl
              go_wp2_with fail
              go_roundw
              case rel => exact ⟨k + 1, by omega, by go_num, NO⟩
              case measure => simp [intOf]; omega
            · have e : k = M := by omega
              subst e
              obtain ⟨xs, fs, tk⟩ := hf.out
              have xl : xs.length = k * 5 := fs.own.1
              rw [List.take_of_length_le (by omega)] at tk
              subst tk
              have LS : Hid (FrLast F x true F.w0 (some ⟨g2, 0, none⟩) k wr) := Lib.hid (by
                have ow := fs.own
                refine ⟨by rw [Bool.not_true, Bool.and_false]; exact fs.st, ?_, HM.out, fs.keep, fs.size⟩
                have : from1 x true F.R = List.replicate k blankC := by unfold from1; rw [if_pos rfl, ← HM.out]
                rw [this]
                exact TRow.of_own ow)
              clear fs hf xl
              go_wp2_with fail
              go_meet
              exact ⟨_, _, _, rfl, LS⟩
      case rest =>
        obtain ⟨A1, M, c1, rfl, hl⟩ := hcut
        obtain ⟨wb, hwb⟩ : ∃ wb, wb = wc := ⟨_, rfl⟩
        rw [← hwb] at hl ⊢
        have eR : F.R = R := by rw [EQ.out]
        have eA : F.RA = some ⟨g, 0, none⟩ := by rw [EQ.out]
        have U := Lib.hid (fr_units F x G HG.out A1 c1 wb (by rw [eR]; exact RR.out.1) (by rw [eR]; exact RR.out.2) (fun e => (LR.out.2.1 e).1) LR.out.2.2.1 LR.out.2.2.2.1 LR.out.2.2.2.2 (by rw [eR, eA]; exact LR.out.1) M hl.out)
        have HB1 := Lib.hid hl.out.1
        have r2 := HB1.out.br.blk.c 2 _ rfl
        clear hwb hl HA KA eR eA
        go_wp2_with fail
        refine U.out.mono ?_; rintro e w7 ⟨⟨v0, rfl⟩, h7, k7⟩
        have H7 := Lib.hid h7
        have K7 := Lib.hid k7
        clear h7 k7 r2 U HB1
        go_upto_region 21 with fail
        obtain ⟨T, hT⟩ : ∃ T, T = midT x F.R := ⟨_, rfl⟩
        have HT := Lib.hid hT
        rw [← hT] at H7
        obtain ⟨C, hC⟩ : ∃ C, C = goC T F.R := ⟨_, rfl⟩
        have HC := Lib.hid hC
        have TB : T.out.size ≤ 2000000000 ∧ T.text.size ≤ 400000000000 ∧ 0 ≤ T.x ∧ T.x ≤ 5000 := by
          rw [hT]
          have eR : F.R = R := by rw [EQ.out]
          rw [eR]
          exact mid_bounds RR.out.1 (fun e => (LR.out.2.1 e).1) LR.out.2.2.2.2 LR.out.2.2.1 LR.out.2.2.2.1 RR.out.2
        clear hT hC
        have gp := fun d os => (H7.out.bp.blk.regrown d os).c 0 _ rfl
        have g8 := fun d os => (H7.out.bw.blk.regrown d os).c 8 _ rfl
        have g9 := fun d os => (H7.out.bw.blk.regrown d os).c 9 _ rfl
        have g10 := fun d os => (H7.out.bw.blk.regrown d os).c 10 _ rfl
        have r3 := fun d os => (H7.out.br.blk.regrown d os).c 3 _ rfl
        have r4 := fun d os => (H7.out.br.blk.regrown d os).c 4 _ rfl
        have r5 := fun d os => (H7.out.br.blk.regrown d os).c 5 _ rfl
        go_cut [123] from 97 to 123 (fun s wx => s = .bool C ∧ Hid (Below w7.heap.size w7 wx))
        case first =>
          --Q(
          unfold goC at HC
          simp only [← bne_dec] at HC
          cases q0 : F.R.shown with
          | false =>
            rw [q0] at r5
            have RG : Hid (C = false) := Lib.hid (by rw [HC.out, q0]; rfl)
            clear q0
            refine wp_region_spec 26 [] [] (by kernel_rfl) (by kernel_rfl) (by kernel_rfl) (by intro t ht; cases ht) ?_
            simp only [List.take_succ_cons, List.take_zero, List.drop_succ_cons, List.drop_zero]
            repeat (refine wpS_step (by rfl) (fun K hK => ?_); go_simp; first | (refine hK _ ?_; clear hK K) | (apply Exists.intro; refine ⟨fun _ => ?_, hK _ ?_⟩; (fail); clear hK K))
            refine wpS_nil ?_
            intro W8 vs8 hl hv
            have hb8 := Lib.hid (later_below.1 hl)
            clear hl hv
            simp only [fillA]
            go_wp2_with fail
            go_meet
            exact ⟨by rw [RG.out], hb8⟩
          | true =>
            rw [q0] at r5
            cases q1 : T.place with
            | false =>
              rw [q1] at g8
              have RG : Hid (C = true) := Lib.hid (by rw [HC.out, q0, q1]; rfl)
              clear q0 q1
              refine wp_region_spec 26 [] [] (by kernel_rfl) (by kernel_rfl) (by kernel_rfl) (by intro t ht; cases ht) ?_
              simp only [List.take_succ_cons, List.take_zero, List.drop_succ_cons, List.drop_zero]
              repeat (refine wpS_step (by rfl) (fun K hK => ?_); go_simp; first | (refine hK _ ?_; clear hK K) | (apply Exists.intro; refine ⟨fun _ => ?_, hK _ ?_⟩; (fail); clear hK K))
              refine wpS_nil ?_
              intro W8 vs8 hl hv
              have hb8 := Lib.hid (later_below.1 hl)
              clear hl hv
              simp only [fillA]
              go_wp2_with fail
              go_meet
              exact ⟨by rw [RG.out], hb8⟩
            | true =>
              rw [q1] at g8
              cases q2 : (T.x != F.R.x) with
              | true =>
                have RG : Hid (C = true) := Lib.hid (by rw [HC.out, q0, q1, q2]; rfl)
                clear q0 q1
                refine wp_region_spec 26 [] [] (by kernel_rfl) (by kernel_rfl) (by kernel_rfl) (by intro t ht; cases ht) ?_
                simp only [List.take_succ_cons, List.take_zero, List.drop_succ_cons, List.drop_zero]
                repeat (refine wpS_step (by rfl) (fun K hK => ?_); go_simp; first | (refine hK _ ?_; clear hK K) | (apply Exists.intro; refine ⟨fun _ => ?_, hK _ ?_⟩; (fail); clear hK K))
                refine wpS_nil ?_
                intro W8 vs8 hl hv
                have hb8 := Lib.hid (later_below.1 hl)
                clear hl hv
                simp only [fillA]
                go_wp2_with fail
                go_meet
                exact ⟨by rw [RG.out], hb8⟩
              | false =>
                cases q3 : (T.y != F.R.y) with
                | true =>
                  have RG : Hid (C = true) := Lib.hid (by rw [HC.out, q0, q1, q2, q3]; rfl)
                  clear q0 q1
                  refine wp_region_spec 26 [] [] (by kernel_rfl) (by kernel_rfl) (by kernel_rfl) (by intro t ht; cases ht) ?_
                  simp only [List.take_succ_cons, List.take_zero, List.drop_succ_cons, List.drop_zero]
                  repeat (refine wpS_step (by rfl) (fun K hK => ?_); go_simp; first | (refine hK _ ?_; clear hK K) | (apply Exists.intro; refine ⟨fun _ => ?_, hK _ ?_⟩; (fail); clear hK K))
                  refine wpS_nil ?_
                  intro W8 vs8 hl hv
                  have hb8 := Lib.hid (later_below.1 hl)
                  clear hl hv
                  simp only [fillA]
                  go_wp2_with fail
                  go_meet
                  exact ⟨by rw [RG.out], hb8⟩
                | false =>
                  have RG : Hid (C = false) := Lib.hid (by rw [HC.out, q0, q1, q2, q3]; rfl)
                  clear q0 q1
                  refine wp_region_spec 26 [] [] (by kernel_rfl) (by kernel_rfl) (by kernel_rfl) (by intro t ht; cases ht) ?_
                  simp only [List.take_succ_cons, List.take_zero, List.drop_succ_cons, List.drop_zero]
                  repeat (refine wpS_step (by rfl) (fun K hK => ?_); go_simp; first | (refine hK _ ?_; clear hK K) | (apply Exists.intro; refine ⟨fun _ => ?_, hK _ ?_⟩; (fail); clear hK K))
                  refine wpS_nil ?_
                  intro W8 vs8 hl hv
                  have hb8 := Lib.hid (later_below.1 hl)
                  clear hl hv
                  simp only [fillA]
                  go_wp2_with fail
                  go_meet
                  exact ⟨by rw [RG.out], hb8⟩
          --)Q
        case rest =>
          obtain ⟨rfl, hbc⟩ := hcut
          obtain ⟨wd, hwd⟩ : ∃ wd, wd = wc := ⟨_, rfl⟩
          rw [← hwd] at hbc ⊢
          have HA := Lib.hid (H7.out.below hbc.out)
          have KA := Lib.hid (K7.out.trans (KeepT.below hbc.out))
          clear hwd hbc gp g8 g9 g10 r3 r4 r5 H7 K7
          obtain ⟨T2, hT2⟩ : ∃ T2, T2 = curs1 T F.R := ⟨_, rfl⟩
          have HT2 := Lib.hid hT2
          have TB2 : T2.out.size ≤ 2000000100 ∧ T2.text.size ≤ 400000000000 ∧ 0 ≤ T2.x ∧ T2.x ≤ 5000 := by
            rw [hT2]
            have eR : F.R = R := by rw [EQ.out]
            rw [eR]
            exact curs_bounds RR.out.1 TB.1 TB.2.1 TB.2.2.1 TB.2.2.2
          clear hT2
          go_upto_if 123 with fail
          go_cut [] from 97 to 129 (fun wx => Hid (FrSt F x.told T2 (x.shown && !G) wx ∧ KeepT F.w0 wx))
          case first =>
            have r3 := HA.out.br.blk.c 3 _ rfl
            have r4 := HA.out.br.blk.c 4 _ rfl
            have bm := HA.out.bm.blk.c 0 _ rfl
            have TO := TB.1
            cases C with
            | false =>
              have R9 := Lib.hid (show FrSt F x.told T2 (x.shown && !G) wd ∧ KeepT F.w0 wd from ⟨by rw [HT2.out, show curs1 T F.R = T from if_neg (by rw [show (F.R.shown && (!T.place || decide (T.x ≠ F.R.x) || decide (T.y ≠ F.R.y))) = false from HC.out.symm]; decide)]; exact HA.out, KA.out⟩)
              clear HC HT2
              go_wp2_with fail
              go_meet
              exact R9
            | true =>
              have RB : 0 ≤ F.R.x ∧ F.R.x ≤ 5000 ∧ 0 ≤ F.R.y ∧ F.R.y ≤ 5000 := by
                have eR : F.R = R := by rw [EQ.out]
                have g := HC.out.symm
                unfold goC at g
                simp only [Bool.and_eq_true] at g
                obtain ⟨r1, _, _, q4⟩ := right_parts RR.out.1
                have sz := sized_parts r1
                rw [eR] at g ⊢
                unfold cursR at q4
                rw [if_pos g.1] at q4
                simp only [Bool.and_eq_true, decide_eq_true_eq] at q4
                omega
              have MV : Hid (T2 = moveT T F.R.x F.R.y) := Lib.hid (by rw [HT2.out]; exact if_pos HC.out.symm)
              clear HC HT2
              go_wp2_with fail
              refine (f_move F x.told T (x.shown && !G) wd HA.out F.R.x F.R.y (by omega) (by omega) (by omega) (by omega) (by omega)).mono ?_; rintro e w9 ⟨⟨v, rfl⟩, h9, k9⟩
              rw [← MV.out] at h9
              have R9 := Lib.hid (show FrSt F x.told T2 (x.shown && !G) w9 ∧ KeepT F.w0 w9 from ⟨h9, KA.out.trans k9⟩)
              clear h9 k9
              go_wp2_with fail
              go_meet
              exact R9
          case rest =>
            obtain ⟨we, hwe⟩ : ∃ we, we = wc := ⟨_, rfl⟩
            rw [← hwe] at hcut ⊢
            have H2 := Lib.hid hcut.out.1
            have K2 := Lib.hid hcut.out.2
            clear hwe hcut HA KA
            obtain ⟨sh, hsh⟩ : ∃ sh, sh = (x.shown && !G) := ⟨_, rfl⟩
            have HSH := Lib.hid hsh
            rw [← hsh] at H2
            clear hsh
            obtain ⟨D, hD⟩ : ∃ D, D = (F.R.shown && !sh) := ⟨_, rfl⟩
            have HD := Lib.hid hD
            have HD2 : Hid (∀ a b, F.R.shown = a → sh = b → D = (a && !b)) := Lib.hid (by rintro _ _ rfl rfl; exact hD)
            clear hD
            have pc := H2.out.bp.blk.c 0 _ rfl
            have b14 := H2.out.bw.blk.c 14 _ rfl
            have r5 := H2.out.br.blk.c 5 _ rfl
            go_upto_region 23 with fail
            go_cut [138] from 130 to 138 (fun s wx => s = .bool D ∧ wx = we)
            case first =>
              cases q0 : F.R.shown with
              | false =>
                rw [q0] at r5
                have RG : Hid (D = false) := Lib.hid (HD2.out false _ q0 rfl)
                clear q0 HD2
                go_wp2_with fail
                go_meet
                exact ⟨by rw [RG.out], rfl⟩
              | true =>
                rw [q0] at r5
                cases q1 : sh with
                | false =>
                  rw [q1] at b14
                  have RG : Hid (D = true) := Lib.hid (HD2.out true false q0 q1)
                  clear q0 q1 HD2
                  go_wp2_with fail
                  go_meet
                  exact ⟨by rw [RG.out], rfl⟩
                | true =>
                  rw [q1] at b14
                  have RG : Hid (D = false) := Lib.hid (HD2.out true true q0 q1)
                  clear q0 q1 HD2
                  go_wp2_with fail
                  go_meet
                  exact ⟨by rw [RG.out], rfl⟩
            case rest =>
              obtain ⟨rfl, rfl⟩ := hcut
              clear HD2
              obtain ⟨T3, hT3⟩ : ∃ T3, T3 = if D = true then seqT T2 showB else T2 := ⟨_, rfl⟩
              have HT3 := Lib.hid hT3
              have TB3 : T3.out.size ≤ 2000000200 ∧ T3.text.size ≤ 400000000000 ∧ T3.x = T2.x := by
                rw [hT3]
                split
                · exact ⟨by show (T2.out ++ showB).size ≤ _; rw [ByteArray.size_append, show_size]; omega, Nat.zero_le _, rfl⟩
                · exact ⟨by omega, by omega, rfl⟩
              clear hT3
              go_upto_if 138 with fail
              go_cut [] from 130 to 140 (fun wx => Hid (FrSt F x.told T3 sh wx ∧ KeepT F.w0 wx))
              case first =>
                have bs := H2.out.bs.blk.c 0 _ rfl
                have TO := TB2.1
                cases D with
                | false =>
                  have R9 := Lib.hid (show FrSt F x.told T3 sh wc ∧ KeepT F.w0 wc from ⟨by rw [HT3.out]; exact H2.out, K2.out⟩)
                  clear HD HT3
                  go_wp2_with fail
                  go_meet
                  exact R9
                | true =>
                  have MV : Hid (T3 = seqT T2 showB) := Lib.hid (by rw [HT3.out]; rfl)
                  clear HD HT3
                  go_wp2_with fail
                  refine (f_seq F x.told T2 sh wc H2.out showB (by rw [show_size]; omega)).mono ?_; rintro e w9 ⟨⟨v, rfl⟩, h9, k9⟩
                  rw [← MV.out] at h9
                  have R9 := Lib.hid (show FrSt F x.told T3 sh w9 ∧ KeepT F.w0 w9 from ⟨h9, K2.out.trans k9⟩)
                  clear h9 k9
                  go_wp2_with fail
                  go_meet
                  exact R9
              case rest =>
                obtain ⟨wf, hwf⟩ : ∃ wf, wf = wc := ⟨_, rfl⟩
                rw [← hwf] at hcut ⊢
                have H3 := Lib.hid hcut.out.1
                have K3 := Lib.hid hcut.out.2
                clear hwf hcut H2 K2 pc b14 r5
                obtain ⟨D2, hD2⟩ : ∃ D2, D2 = (!F.R.shown && sh) := ⟨_, rfl⟩
                have HD2 := Lib.hid hD2
                have HD3 : Hid (∀ a b, F.R.shown = a → sh = b → D2 = (!a && b)) := Lib.hid (by rintro _ _ rfl rfl; exact hD2)
                clear hD2
                have pc := H3.out.bp.blk.c 0 _ rfl
                have b14 := H3.out.bw.blk.c 14 _ rfl
                have r5 := H3.out.br.blk.c 5 _ rfl
                go_upto_region 25 with fail
                go_cut [149] from 141 to 149 (fun s wx => s = .bool D2 ∧ wx = wf)
                case first =>
                  cases q0 : F.R.shown with
                  | true =>
                    rw [q0] at r5
                    have RG : Hid (D2 = false) := Lib.hid (HD3.out true _ q0 rfl)
                    clear q0 HD3
                    go_wp2_with fail
                    go_meet
                    exact ⟨by rw [RG.out], rfl⟩
                  | false =>
                    rw [q0] at r5
                    cases q1 : sh with
                    | false =>
                      rw [q1] at b14
                      have RG : Hid (D2 = false) := Lib.hid (HD3.out false false q0 q1)
                      clear q0 q1 HD3
                      go_wp2_with fail
                      go_meet
                      exact ⟨by rw [RG.out], rfl⟩
                    | true =>
                      rw [q1] at b14
                      have RG : Hid (D2 = true) := Lib.hid (HD3.out false true q0 q1)
                      clear q0 q1 HD3
                      go_wp2_with fail
                      go_meet
                      exact ⟨by rw [RG.out], rfl⟩
                case rest =>
                  obtain ⟨rfl, rfl⟩ := hcut
                  clear HD3
                  obtain ⟨T4, hT4⟩ : ∃ T4, T4 = if D2 = true then seqT T3 hideB else T3 := ⟨_, rfl⟩
                  have HT4 := Lib.hid hT4
                  have TB4 : T4.text.size ≤ 400000000000 ∧ T4.x = T2.x := by
                    rw [hT4]
                    split
                    · exact ⟨Nat.zero_le _, TB3.2.2⟩
                    · exact ⟨TB3.2.1, TB3.2.2⟩
                  clear hT4
                  go_upto_if 149 with fail
                  go_cut [] from 141 to 151 (fun wx => Hid (FrSt F x.told T4 sh wx ∧ KeepT F.w0 wx))
                  case first =>
                    have bs := H3.out.bs.blk.c 0 _ rfl
                    have TO := TB3.1
                    cases D2 with
                    | false =>
                      have R9 := Lib.hid (show FrSt F x.told T4 sh wc ∧ KeepT F.w0 wc from ⟨by rw [HT4.out]; exact H3.out, K3.out⟩)
                      clear HD2 HT4
                      go_wp2_with fail
                      go_meet
                      exact R9
                    | true =>
                      have MV : Hid (T4 = seqT T3 hideB) := Lib.hid (by rw [HT4.out]; rfl)
                      clear HD2 HT4
                      go_wp2_with fail
                      refine (f_seq F x.told T3 sh wc H3.out hideB (by rw [hide_size]; omega)).mono ?_; rintro e w9 ⟨⟨v, rfl⟩, h9, k9⟩
                      rw [← MV.out] at h9
                      have R9 := Lib.hid (show FrSt F x.told T4 sh w9 ∧ KeepT F.w0 w9 from ⟨h9, K3.out.trans k9⟩)
                      clear h9 k9
                      go_wp2_with fail
                      go_meet
                      exact R9
                  case rest =>
                    obtain ⟨wg, hwg⟩ : ∃ wg, wg = wc := ⟨_, rfl⟩
                    rw [← hwg] at hcut ⊢
                    have H4 := Lib.hid hcut.out.1
                    have K4 := Lib.hid hcut.out.2
                    have FT : Hid (T4 = frameT x F.R) := Lib.hid (by
                      rw [HT4.out, HD2.out, HT3.out, HD.out, HT2.out, HT.out, HSH.out, HG.out]
                      unfold frameT show1 midT
                      generalize curs1 (unitsT F.R.w F.R.cells (start1 x (newB x F.R)) (diffU 0 (from1 x (newB x F.R) F.R) F.R.cells)) F.R = t
                      cases F.R.shown <;> cases (x.shown && !newB x F.R) <;> rfl)
                    clear hwg hcut H3 K3 pc b14 r5 HT4 HD2 HT3 HD HT2 HT HSH HC
                    have pc := H4.out.bp.blk.c 0 _ rfl
                    have b14 := H4.out.bw.blk.c 14 _ rfl
                    have q14 := H4.out.bw.blk.f 14 _ rfl
                    have b1 := H4.out.bw.blk.c 1 _ rfl
                    have q1 := H4.out.bw.blk.f 1 _ rfl
                    have b2 := H4.out.bw.blk.c 2 _ rfl
                    have q2 := H4.out.bw.blk.f 2 _ rfl
                    have b3 := H4.out.bw.blk.c 3 _ rfl
                    have q3 := H4.out.bw.blk.f 3 _ rfl
                    have b4 := H4.out.bw.blk.c 4 _ rfl
                    have q4 := H4.out.bw.blk.f 4 _ rfl
                    have b5 := H4.out.bw.blk.c 5 _ rfl
                    have q5 := H4.out.bw.blk.f 5 _ rfl
                    have b6 := H4.out.bw.blk.c 6 _ rfl
                    have q6 := H4.out.bw.blk.f 6 _ rfl
                    have b7 := H4.out.bw.blk.c 7 _ rfl
                    have q7 := H4.out.bw.blk.f 7 _ rfl
                    have r0 := H4.out.br.blk.c 0 _ rfl
                    have r1 := H4.out.br.blk.c 1 _ rfl
                    have r2 := H4.out.br.blk.c 2 _ rfl
                    have r3 := H4.out.br.blk.c 3 _ rfl
                    have r4 := H4.out.br.blk.c 4 _ rfl
                    have r5 := H4.out.br.blk.c 5 _ rfl
                    have PB2 : F.b ≠ F.p := fun e => PB e.symm
                    have RB2 : F.b ≠ F.r := fun e => RB e.symm
                    go_upto_region 27 with fail
                    go_region
                    go_upto_region 28 with fail
                    obtain ⟨V9, hV9⟩ : ∃ V9, V9 = ((((((((wg.setCell ⟨F.b, 14, none⟩ (.bool F.R.shown)).setCell ⟨F.b, 1, none⟩ (.bool true)).setCell ⟨F.b, 2, none⟩ (.int .i64 F.R.w)).setCell ⟨F.b, 3, none⟩ (.int .i64 F.R.h)).setCell ⟨F.b, 4, none⟩ (.slice F.RA F.R.cells.length F.Rc)).setCell ⟨F.b, 5, none⟩ (.int .i64 F.R.x)).setCell ⟨F.b, 6, none⟩ (.int .i64 F.R.y)).setCell ⟨F.b, 7, none⟩ (.bool F.R.shown)).drew := ⟨_, rfl⟩
                    rw [← hV9]
                    have dr : ∀ X : World, Below X.heap.size X X.drew := fun X => (Below.refl _ X).drew
                    have OW : Hid (Own1 V9 F.b (wriV F.d true F.R.w F.R.h F.RA F.R.cells.length F.Rc F.R.x F.R.y F.R.shown T4 F.R.shown) 60) := Lib.hid (by
                      rw [hV9]
                      exact ((((((((H4.out.bw.set 14 (.bool F.R.shown)).set 1 (.bool true)).set 2 (.int .i64 F.R.w)).set 3 (.int .i64 F.R.h)).set 4 (.slice F.RA F.R.cells.length F.Rc)).set 5 (.int .i64 F.R.x)).set 6 (.int .i64 F.R.y)).set 7 (.bool F.R.shown)).below (dr _))
                    have GW : wg.grownBy V9 (some F.b) := by
                      rw [hV9]
                      have st : ∀ (X : World) (i : Nat) (y : Value), X.grownBy (X.setCell ⟨F.b, i, none⟩ y) (some F.b) := fun X i y => grown_set X ⟨F.b, i, none⟩ y
                      exact grown_trans (grown_trans (grown_trans (grown_trans (grown_trans (grown_trans (grown_trans (grown_trans (st _ _ _) (st _ _ _)) (st _ _ _)) (st _ _ _)) (st _ _ _)) (st _ _ _)) (st _ _ _)) (st _ _ _)) (grown_of_below (dr _) _)
                    have KW : Hid (KeepT F.w0 V9) := Lib.hid (K4.out.trans (KeepT.grown GW (fun b' e arr fl hk => by
                      cases e
                      have h := H4.out.bw
                      unfold Own1 at h
                      rw [h] at hk
                      cases hk)))
                    have GA := Lib.hid (grown_trans H4.out.gr GW)
                    obtain ⟨v, hv, hrow⟩ := H4.out.bo
                    have lo := H4.out.ok.bo
                    have so : F.o = F.w0.heap.size := rfl
                    have hv9 := (hv.kept GW (by intro e; have := Option.some.inj e; omega)).cell
                    have hr9 := hrow.kept GW (by
                      rcases hrow.2 with ⟨rfl, _⟩ | ⟨g', cap, cur, rfl, hb, _⟩
                      · exact Or.inl rfl
                      · refine Or.inr (fun q => ?_)
                        have := Option.some.inj q
                        simp only at this
                        omega)
                    obtain ⟨A0, c0, rfl⟩ := own_slice' hr9
                    have hr9 := Lib.hid hr9
                    have PL : F.p < F.w0.heap.size := H4.out.ok.bp.lt
                    have SO := Lib.hid so
                    clear so
                    clear hV9 GW hv hrow dr pc b14 q14 b1 q1 b2 q2 b3 q3 b4 q4 b5 q5 b6 q6 b7 q7 r0 r1 r2 r3 r4 r5
                    go_wp2_with fail
                    go_ret2
                    refine (FW.out _ _).2 ⟨_, F.RA, F.Rc, rfl, ?_, ?_, ?_⟩
                    · have eR : F.R = R := by rw [EQ.out]
                      rw [← eR, ← FT.out]
                      exact own_lower hr9.out (by have := SO.out; rw [EP.out]; omega)
                    · have eR : F.R = R := by rw [EQ.out]
                      have ed : F.d = x.depth := by rw [EQ.out]
                      have eA : F.RA = some ⟨g, 0, none⟩ := by rw [EQ.out]
                      rw [← eR, ← FT.out, ← ed, SH.out, EB.out, ← eR]
                      refine ⟨OW.out, fun _ => ⟨?_, ?_⟩, ?_, TB4.1⟩
                      · show rightS F.R = true
                        rw [eR]; exact RR.out.1
                      · show TRow V9 F.RA F.R.cells
                        rw [eA, eR]; exact LR.out.1.stay KW.out
                      · show 0 ≤ T4.x ∧ T4.x ≤ 5000
                        omega
                    · rw [EB.out]
                      exact grown_trans (grown_of_below BW.out _) GA.out
end Go.Proofs.YtkllilehdpdbdaaDoor
