/- A writer of the program's and of the document's side by side, and what both told (memory). -/
import Derived.Test.YtifoijbpbigaaaaGreatDoorFRcE
import Derived.Test.YtifoijbpbigaaaaGreatDoorDaFI
set_option linter.unusedVariables false
set_option linter.unusedSimpArgs false
namespace Go.Proofs.YtifoijbpbigaaaaGreatDoor
section
open Go Go.RowKit Go.Sort
section
theorem KJ (d : Int) (h : okD d = false) : Tells 31 #[.int .i64 d] (.tuple #[.pointer none, .int .i64 2]) := by
 intro w
 have h : d < 0 \/ (0 <= d /\ 3 < d) := by
  unfold okD at h
  simp only [Bool.and_eq_false_iff, decide_eq_false_iff_not] at h
  omega
 rcases h with h | ⟨h, g⟩
 all_goals
  go_enter Tryz.func31, Tryz.ntmps31
  go_wp2_with fail
  go_ret2
  exact ⟨rfl, rfl⟩
def rfx0 (d : Int) : Rfx := ⟨d, false, 0, 0, none, 0, 0, 0, 0, false⟩
set_option maxHeartbeats 4000000 in
theorem ref_New (d : Int) (h : okD d = true) (w : World) : Calls Tryz.prog 31 #[.int .i64 d] w fun e w' => e = .returned (.tuple #[.pointer (some ⟨w.heap.size, 0, none⟩), .int .i64 0]) /\ w' = w.alloc (.cells (refV (rfx0 d) tel0 false).toArray 93) := by
 have h : 0 <= d /\ d <= 3 := by
  unfold okD at h
  simp only [Bool.and_eq_true, decide_eq_true_eq] at h
  exact h
 obtain ⟨h0, h1⟩ := h
 go_enter Tryz.func31, Tryz.ntmps31
 go_wp2_with fail
 go_ret2
 exact ⟨rfl, rfl⟩
set_option maxHeartbeats 4000000 in
theorem KT (b : Nat) (v : Bool) (w : World) (hc : w.cell? ⟨b, 1, none⟩ = some (.bool v)) (hf : w.frozen? ⟨b, 1, none⟩ = false) : Calls Tryz.prog 33 #[.pointer (some ⟨b, 0, none⟩)] w fun e w' => (∃ v, e = .returned v) /\ w' = w.setCell ⟨b, 1, none⟩ (.bool false) := by
 go_enter Tryz.func33, Tryz.ntmps33
 go_wp2_with fail
 go_end0
 exact ⟨⟨_, rfl⟩, rfl⟩
def unR (x : Wri) : Wri := ⟨x.depth, false, x.last, x.tel, x.shown⟩
def Typ (w : World) (b : Nat) (T : TypeId) : Prop := ∃ arr fl, w.heap[b]? = some (Obj.cells arr T fl)
theorem Typ.ne {w : World} {a b : Nat} {T U : TypeId} (h : Typ w a T) (k : Typ w b U) (n : T ≠ U) : a ≠ b := fun e => by
 obtain ⟨r, f, h⟩ := h
 obtain ⟨s, g, k⟩ := k
 rw [e, k] at h
 injection h with h
 injection h with _ h
 exact n h.symm
theorem Own1.typ {w : World} {b : Nat} {vs : List Value} {T : TypeId} (h : Own1 w b vs T) : Typ w b T := ⟨_, _, h⟩
theorem zQ {w : World} {LO sz n : Nat} {T : TypeId} {v : Value} {xs : List Value} (h : w.ownsRow LO T sz v n xs) {b : Nat} (e : v.ownBlock = some b) : Typ w b T := by
 obtain ⟨cur, h⟩ := xV h e
 exact ⟨_, _, h⟩
theorem TRow.typ {W : World} {a : Addr} {L : List Cel} (h : TRow W (some a) L) : Typ W a.block 58 := by
 obtain ⟨g, arr, fl, e, hg, _⟩ := h
 cases e
 exact ⟨_, _, hg⟩
theorem TRow.one {W W' : World} {A : Option Addr} {L : List Cel} (h : TRow W A L) (k : ∀ a, A = some a -> W'.heap[a.block]? = W.heap[a.block]?) : TRow W' A L := by
 obtain ⟨g, arr, fl, rfl, hg, S⟩ := h
 have kk := k _ rfl
 have kk : W'.heap[g]? = W.heap[g]? := kk
 have hg' := kk.trans hg
 refine ⟨g, arr, fl, rfl, hg', fun ne => ?_⟩
 obtain ⟨ad, e, _, hc⟩ := S ne
 cases e
 refine ⟨_, rfl, qE hg', fun j u hj => ?_⟩
 have e : W'.cell? (({ block := g, off := 0 } : Addr).add j) = W.cell? (({ block := g, off := 0 } : Addr).add j) := World.cell?_of_block (by rw [zj]; exact kk)
 rw [e]
 exact hc j u hj
structure Pr where
 p : Nat
 pp : Nat
 rb : Nat
 xp : Wri
 xr : Wri
 LA : Option Addr
 Lc : Nat
 RA : Option Addr
 Rc : Nat
 R : List (Rv × ByteArray)
 ws : List ByteArray
 TA : Option Addr
 Tc : Nat
 WA : Option Addr
 Wc : Nat
def Pr.tv (q : Pr) : Value := .slice q.TA q.R.length q.Tc
def Pr.wv (q : Pr) : Value := .slice q.WA q.ws.length q.Wc
def Pr.O (q : Pr) (g : Nat) : Prop := g = q.p \/ g = q.pp \/ g = q.rb \/ q.tv.ownBlock = some g \/ q.wv.ownBlock = some g \/ ∃ r, r ∈ q.R /\ r.1.v.ownBlock = some g
structure PrS (LO : Nat) (q : Pr) (w : World) : Prop where
 bx : Own1 w q.p [.pointer (some ⟨q.pp, 0, none⟩), .pointer (some ⟨q.rb, 0, none⟩), q.tv, q.wv] 78
 wr : WrAt w q.pp q.xp q.LA q.Lc
 rf : RfAt w q.rb q.xr q.RA q.Rc
 told : w.ownsRow LO 66 1 q.tv q.R.length (q.R.map fun r => r.1.v)
 want : w.ownsRow LO 9 1 q.wv q.ws.length (q.ws.map .string)
 rows : ∀ r, r ∈ q.R -> w.ownsRow LO 5 1 r.1.v r.1.n (Lib.strCells r.2) /\ r.1.n = r.2.size /\ r.2.size <= 3000000000
 apart : q.R.Pairwise fun a b => ∀ g, a.1.v.ownBlock = some g -> b.1.v.ownBlock ≠ some g
 lop : LO <= q.p
 lopp : LO <= q.pp
 lorb : LO <= q.rb
theorem PrS.lo {LO : Nat} {q : Pr} {w : World} (h : PrS LO q w) {g : Nat} (o : q.O g) : LO <= g /\ g < w.heap.size := by
 rcases o with rfl | rfl | rfl | o | o | ⟨r, hr, o⟩
 ·exact ⟨h.lop, h.bx.lt⟩
 ·exact ⟨h.lopp, h.wr.own.lt⟩
 ·exact ⟨h.lorb, h.rf.own.lt⟩
 ·exact h.told.lt g o
 ·exact h.want.lt g o
 ·exact (h.rows r hr).1.lt g o
theorem PrS.typ {LO : Nat} {q : Pr} {w : World} (h : PrS LO q w) {g : Nat} (o : q.O g) : ∃ T, Typ w g T /\ T ≠ 58 := by
 rcases o with rfl | rfl | rfl | o | o | ⟨r, hr, o⟩
 ·exact ⟨_, h.bx.typ, by decide⟩
 ·exact ⟨_, h.wr.own.typ, by decide⟩
 ·exact ⟨_, h.rf.own.typ, by decide⟩
 ·exact ⟨_, zQ h.told o, by decide⟩
 ·exact ⟨_, zQ h.want o, by decide⟩
 ·exact ⟨_, zQ (h.rows r hr).1 o, by decide⟩
theorem PrS.keep {LO : Nat} {q : Pr} {w w' : World} (h : PrS LO q w) (k : ∀ g, q.O g -> w'.heap[g]? = w.heap[g]?) (ka : q.xp.told = true -> ∀ a, q.LA = some a -> w'.heap[a.block]? = w.heap[a.block]?) (kb : q.xr.told = true -> ∀ a, q.RA = some a -> w'.heap[a.block]? = w.heap[a.block]?) : PrS LO q w' := by
 refine ⟨(k _ (Or.inl rfl)).trans h.bx, ⟨(k _ (Or.inr (Or.inl rfl))).trans h.wr.own, fun z => ⟨(h.wr.last z).1, (h.wr.last z).2.one (ka z)⟩, h.wr.tx, h.wr.tt⟩, ⟨(k _ (Or.inr (Or.inr (Or.inl rfl)))).trans h.rf.own, fun z => ⟨(h.rf.last z).1, fun ne => ((h.rf.last z).2 ne).one (kb z)⟩, h.rf.col, h.rf.tx, h.rf.tt⟩, zO h.told (fun g e => k g (Or.inr (Or.inr (Or.inr (Or.inl e))))), zO h.want (fun g e => k g (Or.inr (Or.inr (Or.inr (Or.inr (Or.inl e)))))), fun r hr => ⟨zO (h.rows r hr).1 (fun g e => k g (Or.inr (Or.inr (Or.inr (Or.inr (Or.inr ⟨r, hr, e⟩)))))), (h.rows r hr).2⟩, h.apart, h.lop, h.lopp, h.lorb⟩
theorem PrS.la {LO : Nat} {q : Pr} {w : World} (h : PrS LO q w) (z : q.xp.told = true) : ∀ a, q.LA = some a -> Typ w a.block 58 := fun a e => by
 have := (h.wr.last z).2
 rw [e] at this
 exact this.typ
structure Ch (O : Nat -> Prop) (w w' : World) : Prop where
 os : w'.os = w.os
 tape : w'.tape = w.tape
 output : w'.output = w.output
 size : w.heap.size <= w'.heap.size
 same : ∀ g, g < w.heap.size -> ¬ O g -> w'.heap[g]? = w.heap[g]?
theorem Ch.refl (O : Nat -> Prop) (w : World) : Ch O w w := ⟨rfl, rfl, rfl, Vf, fun _ _ _ => rfl⟩
theorem Ch.grown {O : Nat -> Prop} {w0 w w' : World} (h : Ch O w0 w) {row : Option Nat} (g : w.grownBy w' row) (hr : ∀ b, row = some b -> O b \/ w0.heap.size <= b) : Ch O w0 w' :=
 ⟨g.os.trans h.os, g.tape.trans h.tape, g.output.trans h.output, Nat.le_trans h.size g.size, fun k hk no => (g.block k (Nat.lt_of_lt_of_le hk h.size) (fun e => by
  rcases hr k e.symm with z | z
  ·exact no z
  ·omega)).trans (h.same k hk no)⟩
theorem Ch.below {O : Nat -> Prop} {w0 w w' : World} (h : Ch O w0 w) (hb : Below w.heap.size w w') : Ch O w0 w' := h.grown (qU hb none) (fun b e => by cases e)
theorem Ch.set {O : Nat -> Prop} {w0 w : World} (h : Ch O w0 w) (b i : Nat) (v : Value) (hb : O b) : Ch O w0 (w.setCell ⟨b, i, none⟩ v) := h.grown (zA w ⟨b, i, none⟩ v) (fun k e => by cases e; exact Or.inl hb)
theorem Ch.trans {O P : Nat -> Prop} {w0 w w' : World} (h : Ch O w0 w) (k : Ch P w w') (hp : ∀ g, P g -> O g \/ w0.heap.size <= g) : Ch O w0 w' :=
 ⟨k.os.trans h.os, k.tape.trans h.tape, k.output.trans h.output, Nat.le_trans h.size k.size, fun g hg no => (k.same g (Nat.lt_of_lt_of_le hg h.size) (fun e => by
  rcases hp g e with z | z
  ·exact no z
  ·omega)).trans (h.same g hg no)⟩
theorem Ch.bel {O : Nat -> Prop} {LO : Nat} {W0 w w' : World} (h : Ch O w w') (hb : Below LO W0 w) (l : LO <= w.heap.size) (hO : ∀ g, O g -> LO <= g) : Below LO W0 w' :=
 ⟨h.os.trans hb.os, h.tape.trans hb.tape, h.output.trans hb.output, Nat.le_trans hb.size h.size, fun k hk => (h.same k (by omega) (fun o => by have := hO k o; omega)).trans (hb.block k hk)⟩
theorem PrS.grown {LO : Nat} {q : Pr} {w w' : World} (h : PrS LO q w) {row : Option Nat} (g : w.grownBy w' row) (no : ∀ b, row = some b -> ¬ q.O b /\ (q.xp.told = true -> ∀ a, q.LA = some a -> a.block ≠ b) /\ (q.xr.told = true -> ∀ a, q.RA = some a -> q.xr.last.cells ≠ [] -> a.block ≠ b)) : PrS LO q w' := by
 refine ⟨?_, ⟨?_, fun z => ⟨(h.wr.last z).1, (h.wr.last z).2.one (fun a e => ?_)⟩, h.wr.tx, h.wr.tt⟩, ⟨?_, fun z => ⟨(h.rf.last z).1, fun ne => ((h.rf.last z).2 ne).one (fun a e => ?_)⟩, h.rf.col, h.rf.tx, h.rf.tt⟩, zO h.told (fun b e => ?_), zO h.want (fun b e => ?_), fun r hr => ⟨zO (h.rows r hr).1 (fun b e => ?_), (h.rows r hr).2⟩, h.apart, h.lop, h.lopp, h.lorb⟩
 ·exact (g.block _ h.bx.lt (fun e => (no _ e.symm).1 (Or.inl rfl))).trans h.bx
 ·exact (g.block _ h.wr.own.lt (fun e => (no _ e.symm).1 (Or.inr (Or.inl rfl)))).trans h.wr.own
 ·have t := h.la z a e
  obtain ⟨_, _, t⟩ := t
  exact g.block _ (qE t) (fun e2 => (no _ e2.symm).2.1 z a e rfl)
 ·exact (g.block _ h.rf.own.lt (fun e => (no _ e.symm).1 (Or.inr (Or.inr (Or.inl rfl))))).trans h.rf.own
 ·have t := (h.rf.last z).2 ne
  rw [e] at t
  obtain ⟨_, _, t⟩ := t.typ
  exact g.block _ (qE t) (fun e2 => (no _ e2.symm).2.2 z a e ne rfl)
 ·exact g.block _ (h.told.lt b e).2 (fun e2 => (no _ e2.symm).1 (Or.inr (Or.inr (Or.inr (Or.inl e)))))
 ·exact g.block _ (h.want.lt b e).2 (fun e2 => (no _ e2.symm).1 (Or.inr (Or.inr (Or.inr (Or.inr (Or.inl e))))))
 ·exact g.block _ ((h.rows r hr).1.lt b e).2 (fun e2 => (no _ e2.symm).1 (Or.inr (Or.inr (Or.inr (Or.inr (Or.inr ⟨r, hr, e⟩))))))
theorem infoRw : (Tryz.prog.info? 66).map (fun i => (i.zero, i.size, i.bytes)) = some (some (.slice none 0 0), 1, 24) := by kernel_rfl
theorem Jv {w : World} {LO n c : Nat} {A : Option Addr} {xs : List Value} (o : w.ownsRow LO 66 1 (.slice A n c) n xs) (u : Value) (hu : u.oneCell' = true) (hLO : LO <= w.heap.size) (len : n <= 2000000000000) :
  ∃ A' c' w3, (Builtin.append_ #[75, 75] 75 #[.slice A n c, .slice (some ⟨w.heap.size, 0, none⟩) 1 1]).run Tryz.prog (w.alloc (.cells #[u] 66)) = .ok (.slice A' (n + 1) c') w3 /\
   w3.ownsRow LO 66 1 (.slice A' (n + 1) c') (n + 1) (xs ++ [u]) /\ (w.alloc (.cells #[u] 66)).grownBy w3 (Value.slice A n c).ownBlock /\ ((Value.slice A' (n + 1) c').ownBlock = (Value.slice A n c).ownBlock \/ (Value.slice A' (n + 1) c').ownBlock = some (w.heap.size + 1)) := by
 obtain ⟨i0, hi0, hz0, hz1, hz2⟩ := info_parts infoRw
 have bu : Below w.heap.size w (w.alloc (.cells #[u] 66)) := (Below.refl _ w).alloc Vf _
 obtain ⟨v', w3, r1, r2, r3, r4, r5⟩ := run_append_own_at (P := Tryz.prog) (w.alloc (.cells #[u] 66)) LO 75 75 66 i0 (.slice none 0 0) 1 24 Tryz.underlying75 hi0 hz0 hz1 hz2 rfl (by decide) _ n _ (qg o bu) ⟨w.heap.size, 0, none⟩ 1 1 [u] rfl (qL w [u] _) (by intro x hx; rw [List.mem_singleton.1 hx]; exact hu) (by unfold maxLen; omega) (by omega) (Nat.le_trans hLO bu.size)
 obtain ⟨A', c', e⟩ := xL r2
 subst e
 refine ⟨A', c', w3, r1, r2, r3, ?_⟩
 simpa using r5
theorem infoWt : (Tryz.prog.info? 9).map (fun i => (i.zero, i.size, i.bytes)) = some (some (.string ⟨#[]⟩), 1, 16) := by kernel_rfl
theorem app_want {w : World} {LO n c : Nat} {A : Option Addr} {xs : List Value} (o : w.ownsRow LO 9 1 (.slice A n c) n xs) (u : Value) (hu : u.oneCell' = true) (hLO : LO <= w.heap.size) (len : n <= 2000000000000) :
  ∃ A' c' w3, (Builtin.append_ #[76, 76] 76 #[.slice A n c, .slice (some ⟨w.heap.size, 0, none⟩) 1 1]).run Tryz.prog (w.alloc (.cells #[u] 9)) = .ok (.slice A' (n + 1) c') w3 /\
   w3.ownsRow LO 9 1 (.slice A' (n + 1) c') (n + 1) (xs ++ [u]) /\ (w.alloc (.cells #[u] 9)).grownBy w3 (Value.slice A n c).ownBlock /\ ((Value.slice A' (n + 1) c').ownBlock = (Value.slice A n c).ownBlock \/ (Value.slice A' (n + 1) c').ownBlock = some (w.heap.size + 1)) := by
 obtain ⟨i0, hi0, hz0, hz1, hz2⟩ := info_parts infoWt
 have bu : Below w.heap.size w (w.alloc (.cells #[u] 9)) := (Below.refl _ w).alloc Vf _
 obtain ⟨v', w3, r1, r2, r3, r4, r5⟩ := run_append_own_at (P := Tryz.prog) (w.alloc (.cells #[u] 9)) LO 76 76 9 i0 (.string ⟨#[]⟩) 1 16 Tryz.underlying76 hi0 hz0 hz1 hz2 rfl (by decide) _ n _ (qg o bu) ⟨w.heap.size, 0, none⟩ 1 1 [u] rfl (qL w [u] _) (by intro x hx; rw [List.mem_singleton.1 hx]; exact hu) (by unfold maxLen; omega) (by omega) (Nat.le_trans hLO bu.size)
 obtain ⟨A', c', e⟩ := xL r2
 subst e
 refine ⟨A', c', w3, r1, r2, r3, ?_⟩
 simpa using r5
theorem Jw {w w1 w3 : World} {row : Option Nat} {p i : Nat} {v : Value} (b1 : Below w.heap.size w w1) (g : w1.grownBy w3 row) {U V : TypeId} (hr : ∀ b, row = some b -> Typ w b U) (hp : Typ w p V) : ∀ b T, Typ w b T -> T ≠ U -> T ≠ V -> (w3.setCell ⟨p, i, none⟩ v).heap[b]? = w.heap[b]? := fun b T h n1 n2 => by
 obtain ⟨arr, fl, hh⟩ := id h
 have lb := qE hh
 exact (heap_setCell_other w3 _ _ _ (fun e => h.ne hp n2 e)).trans ((g.block b (Nat.lt_of_lt_of_le lb b1.size) (fun e => h.ne (hr b e.symm) n1 rfl)).trans (b1.block b lb))
theorem PrS.setP {LO : Nat} {q : Pr} {w w' : World} (h : PrS LO q w) (g : w.grownBy w' (some q.pp)) {x' : Wri} {LA' : Option Addr} {Lc' : Nat} (wr : WrAt w' q.pp x' LA' Lc') : PrS LO { q with xp := x', LA := LA', Lc := Lc' } w' := by
 have k : ∀ b T, Typ w b T -> T ≠ 86 -> w'.heap[b]? = w.heap[b]? := fun b T t n => by
  obtain ⟨arr, fl, hh⟩ := id t
  exact g.block b (qE hh) (fun e => by injection e with e; exact t.ne h.wr.own.typ n e)
 exact ⟨(k _ _ h.bx.typ (by decide)).trans h.bx, wr, ⟨(k _ _ h.rf.own.typ (by decide)).trans h.rf.own, fun z => ⟨(h.rf.last z).1, fun ne => ((h.rf.last z).2 ne).one (fun a e => by
  have t := (h.rf.last z).2 ne
  rw [e] at t
  exact k _ _ t.typ (by decide))⟩, h.rf.col, h.rf.tx, h.rf.tt⟩, zO h.told (fun b e => k _ _ (zQ h.told e) (by decide)), zO h.want (fun b e => k _ _ (zQ h.want e) (by decide)), fun r hr => ⟨zO (h.rows r hr).1 (fun b e => k _ _ (zQ (h.rows r hr).1 e) (by decide)), (h.rows r hr).2⟩, h.apart, h.lop, h.lopp, h.lorb⟩
theorem PrS.setR {LO : Nat} {q : Pr} {w w' : World} (h : PrS LO q w) (g : w.grownBy w' (some q.rb)) {x' : Wri} {RA' : Option Addr} {Rc' : Nat} (rf : RfAt w' q.rb x' RA' Rc') : PrS LO { q with xr := x', RA := RA', Rc := Rc' } w' := by
 have k : ∀ b T, Typ w b T -> T ≠ 93 -> w'.heap[b]? = w.heap[b]? := fun b T t n => by
  obtain ⟨arr, fl, hh⟩ := id t
  exact g.block b (qE hh) (fun e => by injection e with e; exact t.ne h.rf.own.typ n e)
 exact ⟨(k _ _ h.bx.typ (by decide)).trans h.bx, ⟨(k _ _ h.wr.own.typ (by decide)).trans h.wr.own, fun z => ⟨(h.wr.last z).1, (h.wr.last z).2.one (fun a e => k _ _ (h.la z a e) (by decide))⟩, h.wr.tx, h.wr.tt⟩, rf, zO h.told (fun b e => k _ _ (zQ h.told e) (by decide)), zO h.want (fun b e => k _ _ (zQ h.want e) (by decide)), fun r hr => ⟨zO (h.rows r hr).1 (fun b e => k _ _ (zQ (h.rows r hr).1 e) (by decide)), (h.rows r hr).2⟩, h.apart, h.lop, h.lopp, h.lorb⟩
theorem PrS.unP {LO : Nat} {q : Pr} {w : World} (h : PrS LO q w) : PrS LO { q with xp := unR q.xp } (w.setCell ⟨q.pp, 1, none⟩ (.bool false)) :=
 h.setP (x' := unR q.xp) (LA' := q.LA) (Lc' := q.Lc) (zA w ⟨q.pp, 1, none⟩ (.bool false)) ⟨h.wr.own.set 1 (.bool false), fun e => (by cases e), h.wr.tx, h.wr.tt⟩
theorem PrS.unQ {LO : Nat} {q : Pr} {w : World} (h : PrS LO q w) : PrS LO { q with xr := unR q.xr } (w.setCell ⟨q.rb, 1, none⟩ (.bool false)) :=
 h.setR (x' := unR q.xr) (RA' := q.RA) (Rc' := q.Rc) (zA w ⟨q.rb, 1, none⟩ (.bool false)) ⟨h.rf.own.set 1 (.bool false), fun e => (by cases e), h.rf.col, h.rf.tx, h.rf.tt⟩
theorem PrS.setT {LO : Nat} {q : Pr} {w w1 w3 : World} (h : PrS LO q w) (b1 : Below w.heap.size w w1) (g : w1.grownBy w3 q.tv.ownBlock) {A' : Option Addr} {c' : Nat} {r : Rv} {s : ByteArray} (o : w3.ownsRow LO 66 1 (.slice A' (q.R.length + 1) c') (q.R.length + 1) ((q.R.map fun r => r.1.v) ++ [r.v])) (hr : w.ownsRow LO 5 1 r.v r.n (Lib.strCells s)) (hn : r.n = s.size) (hs : s.size <= 3000000000) (ap : ∀ x, x ∈ q.R -> ∀ g, x.1.v.ownBlock = some g -> r.v.ownBlock ≠ some g) :
  PrS LO { q with R := q.R ++ [(r, s)], TA := A', Tc := c' } (w3.setCell ⟨q.p, 2, none⟩ (.slice A' (q.R.length + 1) c')) := by
 have k := Jw (i := 2) (v := .slice A' (q.R.length + 1) c') b1 g (fun b e => zQ h.told e) h.bx.typ
 have lr : (q.R ++ [(r, s)]).length = q.R.length + 1 := by rw [List.length_append, List.length_singleton]
 have bx3 : Own1 w3 q.p [.pointer (some ⟨q.pp, 0, none⟩), .pointer (some ⟨q.rb, 0, none⟩), q.tv, q.wv] 78 := (h.bx.below b1).of_grown g (fun e => h.bx.typ.ne (zQ h.told e.symm) (by decide) rfl)
 refine ⟨?_, ⟨(k _ _ h.wr.own.typ (by decide) (by decide)).trans h.wr.own, fun z => ⟨(h.wr.last z).1, (h.wr.last z).2.one (fun a e => k _ _ (h.la z a e) (by decide) (by decide))⟩, h.wr.tx, h.wr.tt⟩, ⟨(k _ _ h.rf.own.typ (by decide) (by decide)).trans h.rf.own, fun z => ⟨(h.rf.last z).1, fun ne => ((h.rf.last z).2 ne).one (fun a e => by
  have t := (h.rf.last z).2 ne
  rw [e] at t
  exact k _ _ t.typ (by decide) (by decide))⟩, h.rf.col, h.rf.tx, h.rf.tt⟩, ?_, zO h.want (fun b e => k _ _ (zQ h.want e) (by decide) (by decide)), fun x hx => ?_, ?_, h.lop, h.lopp, h.lorb⟩
 ·have := bx3.set 2 (.slice A' (q.R.length + 1) c')
  show Own1 _ q.p [.pointer (some ⟨q.pp, 0, none⟩), .pointer (some ⟨q.rb, 0, none⟩), .slice A' (q.R ++ [(r, s)]).length c', q.wv] _
  rw [lr]
  exact this
 ·show World.ownsRow _ LO _ 1 (.slice A' (q.R ++ [(r, s)]).length c') (q.R ++ [(r, s)]).length ((q.R ++ [(r, s)]).map fun r => r.1.v)
  rw [lr, List.map_append]
  refine zO o (fun b e => heap_setCell_other w3 _ _ _ (fun z => ?_))
  exact (zQ o e).ne bx3.typ (by decide) z
 ·rcases List.mem_append.1 hx with hx | hx
  ·exact ⟨zO (h.rows x hx).1 (fun b e => k _ _ (zQ (h.rows x hx).1 e) (by decide) (by decide)), (h.rows x hx).2⟩
  ·rw [List.mem_singleton] at hx
   subst hx
   exact ⟨zO hr (fun b e => k _ _ (zQ hr e) (by decide) (by decide)), hn, hs⟩
 ·refine List.pairwise_append.2 ⟨h.apart, List.pairwise_singleton _ _, fun a ha b hb => ?_⟩
  rw [List.mem_singleton] at hb
  subst hb
  exact ap a ha
theorem PrS.setW {LO : Nat} {q : Pr} {w w1 w3 : World} (h : PrS LO q w) (b1 : Below w.heap.size w w1) (g : w1.grownBy w3 q.wv.ownBlock) {A' : Option Addr} {c' : Nat} {s : ByteArray} (o : w3.ownsRow LO 9 1 (.slice A' (q.ws.length + 1) c') (q.ws.length + 1) ((q.ws.map .string) ++ [.string s])) :
  PrS LO { q with ws := q.ws ++ [s], WA := A', Wc := c' } (w3.setCell ⟨q.p, 3, none⟩ (.slice A' (q.ws.length + 1) c')) := by
 have k := Jw (i := 3) (v := .slice A' (q.ws.length + 1) c') b1 g (fun b e => zQ h.want e) h.bx.typ
 have lr : (q.ws ++ [s]).length = q.ws.length + 1 := by rw [List.length_append, List.length_singleton]
 have bx3 : Own1 w3 q.p [.pointer (some ⟨q.pp, 0, none⟩), .pointer (some ⟨q.rb, 0, none⟩), q.tv, q.wv] 78 := (h.bx.below b1).of_grown g (fun e => h.bx.typ.ne (zQ h.want e.symm) (by decide) rfl)
 refine ⟨?_, ⟨(k _ _ h.wr.own.typ (by decide) (by decide)).trans h.wr.own, fun z => ⟨(h.wr.last z).1, (h.wr.last z).2.one (fun a e => k _ _ (h.la z a e) (by decide) (by decide))⟩, h.wr.tx, h.wr.tt⟩, ⟨(k _ _ h.rf.own.typ (by decide) (by decide)).trans h.rf.own, fun z => ⟨(h.rf.last z).1, fun ne => ((h.rf.last z).2 ne).one (fun a e => by
  have t := (h.rf.last z).2 ne
  rw [e] at t
  exact k _ _ t.typ (by decide) (by decide))⟩, h.rf.col, h.rf.tx, h.rf.tt⟩, zO h.told (fun b e => k _ _ (zQ h.told e) (by decide) (by decide)), ?_, fun x hx => ⟨zO (h.rows x hx).1 (fun b e => k _ _ (zQ (h.rows x hx).1 e) (by decide) (by decide)), (h.rows x hx).2⟩, h.apart, h.lop, h.lopp, h.lorb⟩
 ·have := bx3.set 3 (.slice A' (q.ws.length + 1) c')
  show Own1 _ q.p [.pointer (some ⟨q.pp, 0, none⟩), .pointer (some ⟨q.rb, 0, none⟩), q.tv, .slice A' (q.ws ++ [s]).length c'] _
  rw [lr]
  exact this
 ·show World.ownsRow _ LO _ 1 (.slice A' (q.ws ++ [s]).length c') (q.ws ++ [s]).length ((q.ws ++ [s]).map .string)
  rw [lr, List.map_append]
  refine zO o (fun b e => heap_setCell_other w3 _ _ _ (fun z => ?_))
  exact (zQ o e).ne bx3.typ (by decide) z
end
end
end Go.Proofs.YtifoijbpbigaaaaGreatDoor
