/- One call on a writer of the program's and of the document's: the law's act (walk). -/
import Derived.Test.YtifoijbpbigaaaaGreatDoorFRcG
import Derived.Test.YtifoijbpbigaaaaGreatDoorFRcF
import Derived.Test.YtifoijbpbigaaaaGreatDoorDaFI
set_option linter.unusedVariables false
set_option linter.unusedSimpArgs false
namespace Go.Proofs.YtifoijbpbigaaaaGreatDoor
section
open Go Go.RowKit Go.Sort
section
theorem PrS.below {LO : Nat} {q : Pr} {w w' : World} (h : PrS LO q w) (hb : Below w.heap.size w w') : PrS LO q w' := h.grown (qU hb none) (fun b e => by cases e)
theorem kQ {w w' : World} {LO sz n b : Nat} {T U : TypeId} {v : Value} {xs : List Value} (o : w.ownsRow LO T sz v n xs) (g : w.grownBy w' (some b)) (t : Typ w b U) (ne : T ≠ U) : w'.ownsRow LO T sz v n xs :=
 zO o (fun k e => g.block k (o.lt k e).2 (fun z => by injection z with z; exact (zQ o e).ne t ne z))
theorem Own1.typed {w w' : World} {a b : Nat} {vs : List Value} {T U : TypeId} (h : Own1 w a vs T) (g : w.grownBy w' (some b)) (t : Typ w b U) (ne : T ≠ U) : Own1 w' a vs T := h.of_grown g (fun z => by injection z with z; exact h.typ.ne t ne z)
def outX (x : Wri) (s : Scr) : ByteArray := if zi s = true then (zJ x (redS s x.depth)).out else zB
def zX (x : Wri) (s : Scr) : Wri := if zi s = true then jA x s else x
theorem KU {x : Wri} {r : Scr} (hr : zi r = true) (hl : x.told = true -> zi x.last = true) (ht : x.tel.text.size <= 400000000000) (h0 : 0 <= x.tel.x) (h1 : x.tel.x <= 5000) (hs : totS r.cells <= 1000000000) : (zJ x r).out.size <= 2000000300 := by
 have m := Q5 hr hl ht h0 h1 hs
 have c := Q6 hr m.1 m.2.1 m.2.2.1 m.2.2.2
 have e : ∀ t a b, (qD t a b).out.size <= t.out.size + 6 := fun t a b => by
  unfold qD
  split
  ·show (t.out ++ jj).size <= _; rw [ByteArray.size_append, vO]; exact Vf
  ·split
   ·show (t.out ++ jy).size <= _; rw [ByteArray.size_append, QX]; exact Vf
   ·omega
 have := e (zy (midT x r) r) (x.shown && !newB x r) r.shown
 have e2 : zJ x r = qD (zy (midT x r) r) (x.shown && !newB x r) r.shown := rfl
 rw [e2]
 omega
theorem env_nb {W0 : World} (E : EnvD W0) {b : Nat} (h : W0.heap.size <= b) : b ≠ 1 /\ b ≠ 0 /\ b ≠ 2 := by
 have h1 : 1 < W0.heap.size := block_lt_of_cell (E.st.on 0 (by decide))
 have h2 : 0 < W0.heap.size := block_lt_of_cell (E.st.off 0 (by decide))
 have h3 := E.pg
 omega
def FpR (LO : Nat) (q : Pr) (s : Scr) (w : World) (e : Ending) (w' : World) : Prop :=
 ∃ A' c' LA' Lc', e = .returned (.tuple #[.slice A' (outX q.xp s).size c', .int .i64 (redE s)]) /\ w'.ownsRow w.heap.size 5 1 (.slice A' (outX q.xp s).size c') (outX q.xp s).size (Lib.strCells (outX q.xp s)) /\ (outX q.xp s).size <= 3000000000 /\
  PrS LO { q with xp := zX q.xp s, LA := LA', Lc := Lc' } w' /\ w.grownBy w' (some q.pp) /\ ((zX q.xp s).told = true -> ∀ a, LA' = some a -> w.heap.size <= a.block \/ (q.xp.told = true /\ q.LA = some a))
theorem KX {LO : Nat} {q : Pr} {w : World} (h : PrS LO q w) (E : EnvD w) (nb : q.pp ≠ 1 /\ q.pp ≠ 0 /\ q.pp ≠ 2) (s : Scr) (A : Option Addr) (c : Nat) (hs : ScrAt w w.heap.size s A c) (ht : totS s.cells <= 1000000000) :
  Calls Tryz.prog 27 #[.pointer (some ⟨q.pp, 0, none⟩), scrV s A c] w (FpR LO q s w) := by
 cases hr : zi s with
 | true =>
  refine (Q7 q.pp q.xp q.LA q.Lc s A c w E nb h.wr hs hr ht).mono ?_
  rintro e w' ⟨v, LA', Lc', rfl, o, hw, g, loc⟩
  obtain ⟨A', c', rfl⟩ := qT o
  have e1 : outX q.xp s = (zJ q.xp (redS s q.xp.depth)).out := by unfold outX; rw [if_pos hr]
  have e2 : zX q.xp s = jA q.xp s := by unfold zX; rw [if_pos hr]
  have e3 : redE s = 0 := by unfold redE; rw [if_pos hr]
  have sz := KU (ki q.xp.depth hr) (fun z => (h.wr.last z).1) h.wr.tt h.wr.tx.1 h.wr.tx.2 (show totS (redL s.cells q.xp.depth) <= _ by rw [vL]; exact ht)
  unfold FpR
  rw [e1, e2, e3]
  exact ⟨A', c', LA', Lc', rfl, o, by omega, h.setP g hw, g, fun _ a e => Or.inl (loc a e)⟩
 | false =>
  refine (X8 q.pp q.xp q.LA q.Lc s A c w h.wr hs hr).mono ?_
  rintro e w' ⟨rfl, hb⟩
  have e1 : outX q.xp s = zB := by unfold outX; rw [if_neg (by rw [hr]; decide)]
  have e2 : zX q.xp s = q.xp := by unfold zX; rw [if_neg (by rw [hr]; decide)]
  have e3 : redE s = 180 := by unfold redE; rw [if_neg (by rw [hr]; decide)]
  unfold FpR
  rw [e1, e2, e3]
  exact ⟨none, 0, q.LA, q.Lc, rfl, World.ownsRow_nil _ _ _ _, Nat.zero_le _, h.below hb, qU hb _, fun z a e => Or.inr ⟨z, e⟩⟩
def FrR (LO : Nat) (q : Pr) (s : Scr) (w : World) (e : Ending) (w' : World) : Prop :=
 ∃ RA' Rc', e = .returned (.tuple #[.string (outX q.xr s), .int .i64 (redE s)]) /\
  PrS LO { q with xr := zX q.xr s, RA := RA', Rc := Rc' } w' /\ w.grownBy w' (some q.rb) /\ ((zX q.xr s).told = true -> ∀ a, RA' = some a -> w.heap.size <= a.block \/ (q.xr.told = true /\ q.RA = some a /\ zX q.xr s = q.xr))
set_option maxHeartbeats 16000000 in
set_option maxRecDepth 100000 in
theorem KY (b : Nat) (s : Scr) (A : Option Addr) (c : Nat) (w : World) (hs : ScrAt w w.heap.size s A c) (ok : ∀ y ∈ s.cells, okR y) (hr : zi s = false) :
  Calls Tryz.prog 34 #[.pointer (some ⟨b, 0, none⟩), scrV s A c] w fun e w' => e = .returned (.tuple #[.string zB, .int .i64 180]) /\ Below w.heap.size w w' := by
 obtain ⟨Q, hQ⟩ : ∃ Q, Q = w.alloc (.cells #[.int .i64 s.w, .int .i64 s.h, .slice A s.cells.length c, .int .i64 s.x, .int .i64 s.y, .bool s.shown] 24) := ⟨_, rfl⟩
 have BQ : Below w.heap.size w Q := by rw [hQ]; exact (Below.refl _ w).alloc Vf _
 have KS : Own1 Q w.heap.size [.int .i64 s.w, .int .i64 s.h, .slice A s.cells.length c, .int .i64 s.x, .int .i64 s.y, .bool s.shown] 24 := by rw [hQ]; exact World.alloc_heap_new w _
 have RI := QH s A c hs.cap hs.nil hs.len ok Q ((hs.below BQ).more BQ.size).sees
 rw [hr] at RI
 simp only [scrV] at RI ⊢
 have RI := Vd RI
 have HB := Vd BQ
 have s0 := (KS).blk.c 0 _ rfl
 have s1 := (KS).blk.c 1 _ rfl
 have s2 := (KS).blk.c 2 _ rfl
 have s3 := (KS).blk.c 3 _ rfl
 have s4 := (KS).blk.c 4 _ rfl
 have s5 := (KS).blk.c 5 _ rfl
 generalize s.cells.length = N at *
 clear KS hs ok hr BQ
 go_enter Tryz.func34, Tryz.ntmps34
 go_upto_region 3 with fail
 rw [<- hQ]
 clear hQ
 go_wp2_with fail
 refine RI.out.mono ?_; rintro e w1 ⟨rfl, b1⟩
 have H1 := Vd (HB.out.trans (b1.mono HB.out.size))
 clear b1 RI s0 s1 s2 s3 s4 s5
 go_wp2_with fail
 refine bodyPost_ret (v := .tuple #[.string zB, .int .i64 180]) (by simp [results, Tryz.results34, go_sem]; rfl) rfl ?_
 exact ⟨rfl, H1.out⟩
theorem KZ {LO : Nat} {q : Pr} {w : World} (h : PrS LO q w) (s : Scr) (A : Option Addr) (c : Nat) (hs : ScrAt w w.heap.size s A c) (ok : ∀ y ∈ s.cells, okR y) (ht : totS s.cells <= 1000000000) :
  Calls Tryz.prog 34 #[.pointer (some ⟨q.rb, 0, none⟩), scrV s A c] w (FrR LO q s w) := by
 cases hr : zi s with
 | true =>
  refine (KH q.rb q.xr q.RA q.Rc s A c w h.rf hs ok hr ht).mono ?_
  rintro e w' ⟨RA', Rc', rfl, hw, g, loc⟩
  have e1 : outX q.xr s = (zJ q.xr (redS s q.xr.depth)).out := by unfold outX; rw [if_pos hr]
  have e2 : zX q.xr s = jA q.xr s := by unfold zX; rw [if_pos hr]
  have e3 : redE s = 0 := by unfold redE; rw [if_pos hr]
  unfold FrR
  rw [e1, e2, e3]
  exact ⟨RA', Rc', rfl, h.setR g hw, g, fun _ a e => Or.inl (loc a e)⟩
 | false =>
  refine (KY q.rb s A c w hs ok hr).mono ?_
  rintro e w' ⟨rfl, hb⟩
  have e1 : outX q.xr s = zB := by unfold outX; rw [if_neg (by rw [hr]; decide)]
  have e2 : zX q.xr s = q.xr := by unfold zX; rw [if_neg (by rw [hr]; decide)]
  have e3 : redE s = 180 := by unfold redE; rw [if_neg (by rw [hr]; decide)]
  unfold FrR
  rw [e1, e2, e3]
  exact ⟨q.RA, q.Rc, rfl, h.below hb, qU hb _, fun z a e => Or.inr ⟨z, e, rfl⟩⟩
theorem put_gone {w : World} {LO n c g k : Nat} {xs : List Value} (o : w.ownsRow LO 58 5 (.slice (some ⟨g, 0, none⟩) n c) n xs) (hk : k < n) (v0 v1 v2 v3 v4 : Value) :
  (∃ u, w.cell? ⟨g, k * 5, none⟩ = some u) /\ (∃ u, w.cell? ⟨g, k * 5 + 1, none⟩ = some u) /\ (∃ u, w.cell? ⟨g, k * 5 + 2, none⟩ = some u) /\ (∃ u, w.cell? ⟨g, k * 5 + 3, none⟩ = some u) /\ (∃ u, w.cell? ⟨g, k * 5 + 4, none⟩ = some u) /\
  (∃ xs', (((((w.setCell ⟨g, k * 5, none⟩ v0).setCell ⟨g, k * 5 + 1, none⟩ v1).setCell ⟨g, k * 5 + 2, none⟩ v2).setCell ⟨g, k * 5 + 3, none⟩ v3).setCell ⟨g, k * 5 + 4, none⟩ v4).ownsRow LO 58 5 (.slice (some ⟨g, 0, none⟩) n c) n xs') /\
  w.grownBy (((((w.setCell ⟨g, k * 5, none⟩ v0).setCell ⟨g, k * 5 + 1, none⟩ v1).setCell ⟨g, k * 5 + 2, none⟩ v2).setCell ⟨g, k * 5 + 3, none⟩ v3).setCell ⟨g, k * 5 + 4, none⟩ v4) (some g) := by
 have xl : xs.length = n * 5 := o.1
 have rc : ∀ j, j < 5 -> ∃ v, w.cell? ⟨g, k * 5 + j, none⟩ = some v := fun j hj => ⟨_, (o.cellAt (k * 5 + j) (by omega)).trans (List.getElem?_eq_getElem (by omega))⟩
 refine ⟨rc 0 (by decide), rc 1 (by decide), rc 2 (by decide), rc 3 (by decide), rc 4 (by decide), ⟨_, (((((o.stored (k * 5) v0).1.stored (k * 5 + 1) v1).1.stored (k * 5 + 2) v2).1.stored (k * 5 + 3) v3).1.stored (k * 5 + 4) v4).1⟩, ?_⟩
 exact ((((zA w ⟨g, k * 5, none⟩ v0).trans (zA _ ⟨g, k * 5 + 1, none⟩ v1)).trans (zA _ ⟨g, k * 5 + 2, none⟩ v2)).trans (zA _ ⟨g, k * 5 + 3, none⟩ v3)).trans (zA _ ⟨g, k * 5 + 4, none⟩ v4)
end
end
end Go.Proofs.YtifoijbpbigaaaaGreatDoor
