/- What lies below tapes (kept of earlier texts: VwPa, TpU). -/
import Derived.Test.YtmaofighbpnbiaaGreatDoorTaED
import Derived.Deep.Onto
import Derived.Lib.SmallJoins
set_option linter.unusedVariables false
set_option linter.unusedSimpArgs false
namespace Go.Proofs.YtmaofighbpnbiaaGreatDoor
section
open Go Go.RowKit Go.Sort
def Bk (W : World) (b : Nat) (vs : List Value) (T : TypeId) : Prop := W.heap[b]? = some (.cells vs.toArray T (0, 0))
theorem Bk.lt {W : World} {b : Nat} {vs : List Value} {T : TypeId} (h : Bk W b vs T) : b < W.heap.size := (Array.getElem?_eq_some_iff.1 h).1
theorem Bk.c {W : World} {b : Nat} {vs : List Value} {T : TypeId} (h : Bk W b vs T) (i : Nat) (v : Value) (hv : vs[i]? = some v) : W.cell? ⟨b, i, none⟩ = some v := by
 unfold Bk at h
 simp [World.cell?, h, hv]
theorem Bk.f {W : World} {b : Nat} {vs : List Value} {T : TypeId} (h : Bk W b vs T) (i : Nat) : W.frozen? ⟨b, i, none⟩ = false := by
 unfold Bk at h
 simp [World.frozen?, h]
theorem Bk.set {W : World} {b : Nat} {vs : List Value} {T : TypeId} (h : Bk W b vs T) (i : Nat) (y : Value) : Bk (W.setCell ⟨b, i, none⟩ y) b (vs.set i y) T := by
 have := heap_setCell_same W b i vs.toArray T y h
 unfold Bk
 rw [this]
 simp
theorem Bk.new (W : World) (vs : List Value) (T : TypeId) : Bk (W.alloc (.cells vs.toArray T)) W.heap.size vs T := World.alloc_heap_new W _
theorem Bk.of_eq {W W' : World} {b : Nat} {vs : List Value} {T : TypeId} (h : Bk W b vs T) (e : W'.heap[b]? = W.heap[b]?) : Bk W' b vs T := e.trans h
structure Mv (F : List Nat) (W W' : World) : Prop where
 os : W'.os = W.os
 tape : W'.tape = W.tape
 output : W'.output = W.output
 size : W.heap.size <= W'.heap.size
 blk : ∀ k, k < W.heap.size -> k ∉ F -> W'.heap[k]? = W.heap[k]?
theorem Mv.refl (F : List Nat) (W : World) : Mv F W W := ⟨rfl, rfl, rfl, zdA, fun _ _ _ => rfl⟩
theorem Mv.trans {F0 F1 : List Nat} {A B C : World} (h : Mv F0 A B) (k : Mv F1 B C) (hf : ∀ b ∈ F1, b ∈ F0 \/ A.heap.size <= b) : Mv F0 A C :=
 ⟨k.os.trans h.os, k.tape.trans h.tape, k.output.trans h.output, Nat.le_trans h.size k.size, fun j hj hn => (k.blk j (Nat.lt_of_lt_of_le hj h.size) (fun m => (hf j m).elim hn (fun c => by omega))).trans (h.blk j hj hn)⟩
theorem Mv.below {F : List Nat} {W W' : World} (hb : Below W.heap.size W W') : Mv F W W' := ⟨hb.os, hb.tape, hb.output, hb.size, fun k hk _ => hb.block k hk⟩
theorem Mv.set {F : List Nat} (W : World) {b i : Nat} {v : Value} (hb : b ∈ F) : Mv F W (W.setCell ⟨b, i, none⟩ v) :=
 ⟨rfl, rfl, rfl, by simp, fun k _ hk => heap_setCell_other W ⟨b, i, none⟩ k v (fun e => hk (by simp only at e; rw [e]; exact hb))⟩
theorem Mv.old {F : List Nat} {W0 W W' : World} (h : Mv F W W') (hb : Below W0.heap.size W0 W) (hf : ∀ b ∈ F, W0.heap.size <= b) : Below W0.heap.size W0 W' := by
 have hB : ∀ k, k < W0.heap.size -> W'.heap[k]? = W0.heap[k]? := fun k hk => (h.blk k (Nat.lt_of_lt_of_le hk hb.size) (fun m => by have := hf k m; omega)).trans (hb.block k hk)
 exact ⟨h.os.trans hb.os, h.tape.trans hb.tape, h.output.trans hb.output, Nat.le_trans hb.size h.size, hB⟩
def ob : Value -> List Nat
 | .slice (some a) _ (c + 1) => [a.block]
 | _ => []
def KeptAt (W : World) (v : Value) (s : ByteArray) : Prop :=
 ∃ (A : Option Addr) (c : Nat), v = .slice A s.size c /\ s.size <= c /\ c <= maxLen /\ (A = none -> c = 0) /\ (0 < c -> ∃ g o cur, A = some ⟨g, o, none⟩ /\ W.heap[g]? = some (.cells cur 5 (0, 0)) /\ o + c <= cur.size /\ ∀ j u, (Lib.strCells s)[j]? = some u -> cur[o + j]? = some u)
def RowAt (W : World) (T : TypeId) (sz : Nat) (v : Value) (n : Nat) (xs : List Value) : Prop := (n = 0 /\ xs = [] /\ ∃ A, v = .slice A 0 0) \/ (W.ownsRow 0 T sz v n xs /\ ob v ≠ [])
theorem QH {v : Value} {g : Nat} (h : g ∈ ob v) : v.ownBlock = some g /\ ob v = [g] := by
 unfold ob at h ⊢
 split at h
 ·have := List.mem_singleton.1 h
  subst this
  exact ⟨rfl, rfl⟩
 ·cases h
theorem RowAt.lt {W : World} {T : TypeId} {sz n : Nat} {v : Value} {xs : List Value} (h : RowAt W T sz v n xs) : ∀ g ∈ ob v, g < W.heap.size := by
 intro g hg
 rcases h with ⟨_, _, A, rfl⟩ | ⟨h, _⟩
 ·unfold ob at hg; simp at hg
 ·exact (h.lt g (QH hg).1).2
theorem X8 {W W' : World} {T : TypeId} {sz n : Nat} {v : Value} {xs : List Value} (h : W.ownsRow 0 T sz v n xs) (k : ∀ g, v.ownBlock = some g -> W'.heap[g]? = W.heap[g]?) : W'.ownsRow 0 T sz v n xs := by
 refine ⟨h.1, ?_⟩
 rcases h.2 with hn | ⟨g, cap, cur, rfl, hb, hg, rest⟩
 ·exact .inl hn
 ·exact .inr ⟨g, cap, cur, rfl, hb, (k g rfl).trans hg, rest⟩
theorem RowAt.keep {W W' : World} {T : TypeId} {sz n : Nat} {v : Value} {xs : List Value} (h : RowAt W T sz v n xs) (k : ∀ g ∈ ob v, W'.heap[g]? = W.heap[g]?) : RowAt W' T sz v n xs := by
 rcases h with h | ⟨h, hn⟩
 ·exact Or.inl h
 ·refine Or.inr ⟨X8 h (fun g e => k g ?_), hn⟩
  obtain ⟨g', r, e2⟩ := List.exists_cons_of_ne_nil hn
  have m : g' ∈ ob v := by rw [e2]; simp
  have := (QH m).1
  rw [e] at this
  cases this
  exact m
theorem RowAt.kind {W : World} {T : TypeId} {sz n : Nat} {v : Value} {xs : List Value} (h : RowAt W T sz v n xs) : ∀ g ∈ ob v, ∃ cur, W.heap[g]? = some (.cells cur T (0, 0)) := by
 intro g hg
 rcases h with ⟨_, _, A, rfl⟩ | ⟨h, _⟩
 ·unfold ob at hg; simp at hg
 ·have e := (QH hg).1
  rcases h.2 with ⟨rfl, _⟩ | ⟨g', cap, cur, rfl, hb, hg', rest⟩
  ·cases e
  ·cases e; exact ⟨cur, hg'⟩
theorem KeptAt.kind {W : World} {v : Value} {s : ByteArray} (h : KeptAt W v s) : ∀ g ∈ ob v, ∃ cur, W.heap[g]? = some (.cells cur 5 (0, 0)) := by
 intro g hg
 obtain ⟨A, c, rfl, h1, hm, h2, h3⟩ := h
 cases c with
 | zero => cases A <;> (unfold ob at hg; simp at hg)
 | succ c =>
  obtain ⟨g', o, cur, rfl, e2, _⟩ := h3 (Nat.succ_pos _)
  unfold ob at hg
  simp at hg
  subst hg
  exact ⟨cur, e2⟩
theorem KeptAt.lt {W : World} {v : Value} {s : ByteArray} (h : KeptAt W v s) : ∀ g ∈ ob v, g < W.heap.size := fun g hg => by
 obtain ⟨cur, e⟩ := h.kind g hg
 exact (Array.getElem?_eq_some_iff.1 e).1
theorem KeptAt.keep {W W' : World} {v : Value} {s : ByteArray} (h : KeptAt W v s) (k : ∀ g ∈ ob v, W'.heap[g]? = W.heap[g]?) : KeptAt W' v s := by
 obtain ⟨A, c, rfl, h1, hm, h2, h3⟩ := h
 refine ⟨A, c, rfl, h1, hm, h2, fun hc => ?_⟩
 obtain ⟨g, o, cur, rfl, e2, e3⟩ := h3 hc
 refine ⟨g, o, cur, rfl, (k g ?_).trans e2, e3⟩
 obtain ⟨c', rfl⟩ : ∃ c', c = c' + 1 := ⟨c - 1, by omega⟩
 unfold ob
 simp
structure Lay where
 b : Nat
 u : Nat
 c : Value
 a : Value
 s : Value
 w : Value
 r : Value
 h : Value
 k : Value
def Lay.fp (L : Lay) : List Nat := L.b :: L.u :: (ob L.c ++ ob L.a ++ ob L.s ++ ob L.w ++ ob L.r ++ ob L.h ++ ob L.k)
def trmV (t : Trm) (L : Lay) : List Value :=
  [.int .i64 t.w, .int .i64 t.h, L.c, .int .i64 t.cur.x, .int .i64 t.cur.y, .int .i32 t.cur.st.fg, .int .i32 t.cur.st.bg, .int .u8 (bI t.cur.st.at_), .bool t.cur.org, L.a,
   .int .i64 t.sav.x, .int .i64 t.sav.y, .int .i32 t.sav.st.fg, .int .i32 t.sav.st.bg, .int .u8 (bI t.sav.st.at_), .bool t.sav.org,
   .bool t.pend, .bool t.wrap, .bool t.ins, .bool t.shown, .bool t.alt, .int .i64 t.top, .int .i64 t.bot, L.s, .int .i64 t.opn, .string t.name, L.r, L.w, .int .i8 t.state, L.h, .pointer (some ⟨L.u, 0, none⟩), L.k]
def zy (l : List Bool) : List Value := l.map .bool
def DecAt (W : World) (u : Nat) (s : ByteArray) : Prop := ∃ b0 b1 b2 b3 : B8, Bk W u [.int .u8 (bI b0), .int .u8 (bI b1), .int .u8 (bI b2), .int .u8 (bI b3), .int .i64 s.size] 116 /\ s.size <= 4 /\ (Lib.strCells s) = [.int .u8 (bI b0), .int .u8 (bI b1), .int .u8 (bI b2), .int .u8 (bI b3)].take s.size
structure TrmAt (W : World) (L : Lay) (t : Trm) : Prop where
 own : Bk W L.b (trmV t L) 104
 utf : DecAt W L.u t.kept
 c : RowAt W 79 5 L.c t.cells.length (zd t.cells)
 a : RowAt W 79 5 L.a t.away.length (zd t.away)
 s : RowAt W 4 1 L.s t.stops.length (zy t.stops)
 w : RowAt W 4 1 L.w t.wrt.length (zy t.wrt)
 r : KeptAt W L.r t.reps
 h : KeptAt W L.h t.held
 k : KeptAt W L.k t.kept
 ca : ∀ g ∈ ob L.c, g ∉ ob L.a
 sw : ∀ g ∈ ob L.s, g ∉ ob L.w
 rh : ∀ g ∈ ob L.r, g ∉ ob L.h
 rk : ∀ g ∈ ob L.r, g ∉ ob L.k
 hk : ∀ g ∈ ob L.h, g ∉ ob L.k
theorem DecAt.kind {W : World} {u : Nat} {s : ByteArray} (h : DecAt W u s) : ∃ vs, Bk W u vs 116 := by
 obtain ⟨_, _, _, _, h, _⟩ := h
 exact ⟨_, h⟩
theorem DecAt.keep {W W' : World} {u : Nat} {s : ByteArray} (h : DecAt W u s) (e : W'.heap[u]? = W.heap[u]?) : DecAt W' u s := by
 obtain ⟨b0, b1, b2, b3, h, r⟩ := h
 exact ⟨b0, b1, b2, b3, h.of_eq e, r⟩
theorem Lay.mem {L : Lay} {g : Nat} : g ∈ L.fp ↔ g = L.b \/ g = L.u \/ g ∈ ob L.c \/ g ∈ ob L.a \/ g ∈ ob L.s \/ g ∈ ob L.w \/ g ∈ ob L.r \/ g ∈ ob L.h \/ g ∈ ob L.k := by
 unfold Lay.fp
 simp only [List.mem_cons, List.mem_append]
 constructor
 ·rintro (h | h | ((((((h | h) | h) | h) | h) | h) | h)) <;> simp [h]
 ·rintro (h | h | h | h | h | h | h | h | h) <;> simp [h]
theorem TrmAt.lt {W : World} {L : Lay} {t : Trm} (h : TrmAt W L t) : ∀ g ∈ L.fp, g < W.heap.size := by
 intro g hg
 rcases Lay.mem.1 hg with rfl | rfl | m | m | m | m | m | m | m
 ·exact h.own.lt
 ·obtain ⟨_, k⟩ := h.utf.kind; exact k.lt
 ·exact h.c.lt g m
 ·exact h.a.lt g m
 ·exact h.s.lt g m
 ·exact h.w.lt g m
 ·exact h.r.lt g m
 ·exact h.h.lt g m
 ·exact h.k.lt g m
theorem TrmAt.keep {W W' : World} {L : Lay} {t : Trm} (h : TrmAt W L t) (k : ∀ g ∈ L.fp, W'.heap[g]? = W.heap[g]?) : TrmAt W' L t :=
 ⟨h.own.of_eq (k _ (Lay.mem.2 (by simp))), h.utf.keep (k _ (Lay.mem.2 (by simp))), h.c.keep (fun g m => k g (Lay.mem.2 (by simp [m]))), h.a.keep (fun g m => k g (Lay.mem.2 (by simp [m]))), h.s.keep (fun g m => k g (Lay.mem.2 (by simp [m]))), h.w.keep (fun g m => k g (Lay.mem.2 (by simp [m]))),
  h.r.keep (fun g m => k g (Lay.mem.2 (by simp [m]))), h.h.keep (fun g m => k g (Lay.mem.2 (by simp [m]))), h.k.keep (fun g m => k g (Lay.mem.2 (by simp [m]))), h.ca, h.sw, h.rh, h.rk, h.hk⟩
theorem Bk.ne {W : World} {b g : Nat} {vs : List Value} {T T' : TypeId} {cur : Array Value} {fl : Nat × Nat} (h : Bk W b vs T) (k : W.heap[g]? = some (.cells cur T' fl)) (ne : T' ≠ T) : g ≠ b := by
 intro e
 subst e
 unfold Bk at h
 rw [h] at k
 cases k
 exact ne rfl
theorem TrmAt.set {W : World} {L : Lay} {t t' : Trm} (h : TrmAt W L t) (i : Nat) (y : Value) (e : (trmV t L).set i y = trmV t' L) (e1 : t'.cells = t.cells) (e2 : t'.away = t.away) (e3 : t'.stops = t.stops) (e4 : t'.wrt = t.wrt) (e5 : t'.reps = t.reps) (e6 : t'.held = t.held) (e7 : t'.kept = t.kept) :
  TrmAt (W.setCell ⟨L.b, i, none⟩ y) L t' := by
 have far : ∀ g, g ≠ L.b -> (W.setCell ⟨L.b, i, none⟩ y).heap[g]? = W.heap[g]? := fun g hg => heap_setCell_other W ⟨L.b, i, none⟩ g y hg
 have o := h.own.set i y
 rw [e] at o
 refine ⟨o, ?_, ?_, ?_, ?_, ?_, ?_, ?_, ?_, h.ca, h.sw, h.rh, h.rk, h.hk⟩
 ·rw [e7]; obtain ⟨_, k⟩ := h.utf.kind; exact h.utf.keep (far _ (h.own.ne k (by decide)))
 ·rw [e1]; exact h.c.keep (fun g m => by obtain ⟨cur, k⟩ := h.c.kind g m; exact far g (h.own.ne k (by decide)))
 ·rw [e2]; exact h.a.keep (fun g m => by obtain ⟨cur, k⟩ := h.a.kind g m; exact far g (h.own.ne k (by decide)))
 ·rw [e3]; exact h.s.keep (fun g m => by obtain ⟨cur, k⟩ := h.s.kind g m; exact far g (h.own.ne k (by decide)))
 ·rw [e4]; exact h.w.keep (fun g m => by obtain ⟨cur, k⟩ := h.w.kind g m; exact far g (h.own.ne k (by decide)))
 ·rw [e5]; exact h.r.keep (fun g m => by obtain ⟨cur, k⟩ := h.r.kind g m; exact far g (h.own.ne k (by decide)))
 ·rw [e6]; exact h.h.keep (fun g m => by obtain ⟨cur, k⟩ := h.h.kind g m; exact far g (h.own.ne k (by decide)))
 ·rw [e7]; exact h.k.keep (fun g m => by obtain ⟨cur, k⟩ := h.k.kind g m; exact far g (h.own.ne k (by decide)))
end
section
open Go Go.RowKit Go.Sort
theorem Bk.regrown {W : World} {b : Nat} {vs : List Value} {T : TypeId} (h : Bk W b vs T) (d : Nat) (os : Array Obj) : Bk (grow (redrawn W d) os) b vs T := h.of_eq ((below_regrown W d os).block b h.lt)
structure EnvV (w : World) : Prop where
 st : EnvS w
 tab : Lib.TabIs Tryz.prog w "internal/strconv.uint64pow10" .u64 Lib.pow10Tab
 pg : 2 < w.heap.size
def NotV (b : Nat) : Prop := b ≠ 0 /\ b ≠ 1 /\ b ≠ 2
theorem EnvV.mv {F : List Nat} {w w' : World} (h : EnvV w) (m : Mv F w w') (n : ∀ b ∈ F, NotV b) : EnvV w' where
 st := ⟨fun k hk => (World.cell?_of_block (m.blk _ (block_lt_of_cell (h.st.on k hk)) (fun z => (n _ z).1 rfl))).trans (h.st.on k hk), fun k hk => (World.cell?_of_block (m.blk _ (block_lt_of_cell (h.st.off k hk)) (fun z => (n _ z).2.1 rfl))).trans (h.st.off k hk)⟩
 tab := by
  have t := h.tab
  unfold Lib.TabIs World.var? at t ⊢
  have gn : Tryz.prog.globalNamed "internal/strconv.uint64pow10" = some 2 := by kernel_rfl
  simp only [gn, Option.bind_some] at t ⊢
  rw [m.blk _ h.pg (fun z => (n _ z).2.2 rfl)]
  exact t
 pg := Nat.lt_of_lt_of_le h.pg m.size
structure St (w0 : World) (F0 : List Nat) (tb : Nat) (t : Trm) (W : World) : Prop where
 g0 : EnvV w0
 mv : Mv F0 w0 W
 ng : ∀ b ∈ F0, NotV b
 lay : ∃ L, L.b = tb /\ TrmAt W L t /\ ∀ b ∈ L.fp, b ∈ F0 \/ w0.heap.size <= b
section
variable {w0 : World} {F0 : List Nat} {tb : Nat} {t : Trm} {W W' : World}
theorem St.env (h : St w0 F0 tb t W) : EnvV W := h.g0.mv h.mv h.ng
theorem St.lt (h : St w0 F0 tb t W) : tb < W.heap.size := by
 obtain ⟨L, rfl, T, _⟩ := h.lay
 exact T.own.lt
theorem St.below (h : St w0 F0 tb t W) (hb : Below W.heap.size W W') : St w0 F0 tb t W' := by
 obtain ⟨L, e, T, hf⟩ := h.lay
 exact ⟨h.g0, h.mv.trans (Mv.below (F := []) hb) (by simp), h.ng, L, e, T.keep (fun g m => hb.block g (T.lt g m)), hf⟩
theorem St.start {L : Lay} (E : EnvV W) (T : TrmAt W L t) (n : ∀ b ∈ L.fp, NotV b) : St W L.fp L.b t W := ⟨E, Mv.refl _ _, n, L, rfl, T, fun b hb => Or.inl hb⟩
theorem St.step {t' : Trm} (h : St w0 F0 tb t W) (k : ∀ L, L.b = tb -> TrmAt W L t -> (∀ b ∈ L.fp, NotV b) -> St W L.fp tb t' W') : St w0 F0 tb t' W' := by
 obtain ⟨L, e, T, hf⟩ := h.lay
 have nv : ∀ b ∈ L.fp, NotV b := fun b hb => by
  rcases hf b hb with m | m
  ·exact h.ng b m
  ·have a := block_lt_of_cell (h.g0.st.on 0 (by decide))
   have c := block_lt_of_cell (h.g0.st.off 0 (by decide))
   have d := h.g0.pg
   simp only at a c
   exact ⟨by omega, by omega, by omega⟩
 obtain ⟨L', e', T', hf'⟩ := (k L e T nv).lay
 refine ⟨h.g0, h.mv.trans (k L e T nv).mv hf, h.ng, L', e', T', fun b hb => ?_⟩
 rcases hf' b hb with m | m
 ·exact hf b m
 ·exact Or.inr (Nat.le_trans h.mv.size m)
def SameR (t' t : Trm) : Prop := t'.cells = t.cells /\ t'.away = t.away /\ t'.stops = t.stops /\ t'.wrt = t.wrt /\ t'.reps = t.reps /\ t'.held = t.held /\ t'.kept = t.kept
theorem St.set (h : St w0 F0 tb t W) (t' : Trm) (i : Nat) (y : Value) (e : ∀ L, (trmV t L).set i y = trmV t' L) (r : SameR t' t) : St w0 F0 tb t' (W.setCell ⟨tb, i, none⟩ y) := by
 obtain ⟨L, rfl, T, hf⟩ := h.lay
 obtain ⟨e1, e2, e3, e4, e5, e6, e7⟩ := r
 exact ⟨h.g0, h.mv.trans (Mv.set (F := [L.b]) W (by simp)) (by intro b hb; rw [List.mem_singleton.1 hb]; exact hf _ (Lay.mem.2 (by simp))), h.ng, L, rfl, T.set i y (e L) e1 e2 e3 e4 e5 e6 e7, hf⟩
theorem St.setX (h : St w0 F0 tb t W) (x : Int) : St w0 F0 tb (setX t x) (W.setCell ⟨tb, 3, none⟩ (.int .i64 x)) := h.set _ 3 _ (fun _ => rfl) ⟨rfl, rfl, rfl, rfl, rfl, rfl, rfl⟩
theorem St.setY (h : St w0 F0 tb t W) (y : Int) : St w0 F0 tb (setY t y) (W.setCell ⟨tb, 4, none⟩ (.int .i64 y)) := h.set _ 4 _ (fun _ => rfl) ⟨rfl, rfl, rfl, rfl, rfl, rfl, rfl⟩
theorem St.setPend (h : St w0 F0 tb t W) (b : Bool) : St w0 F0 tb { t with pend := b } (W.setCell ⟨tb, 16, none⟩ (.bool b)) := h.set _ 16 _ (fun _ => rfl) ⟨rfl, rfl, rfl, rfl, rfl, rfl, rfl⟩
def Vd (w0 : World) (F0 : List Nat) (tb : Nat) (t : Trm) (e : Ending) (w' : World) : Prop := (∃ v, e = .returned v) /\ St w0 F0 tb t w'
theorem qa {k : Nat} {args : Array Value} {v : Value} {W : World} (h : ∀ W', Below W.heap.size W W' -> Calls Tryz.prog k args W' fun e w' => e = .returned v /\ Below W'.heap.size W' w') (d : Nat) (os : Array Obj) :
  Calls Tryz.prog k args (grow (redrawn W d) os) fun e w'' => e = .returned v /\ ∃ p : Regrown, w'' = grow (redrawn W p.d) p.os :=
 (h _ (below_regrown W d os)).mono fun e w'' ⟨e1, hb⟩ => ⟨e1, regrown_of_below ((below_regrown W d os).trans (hb.mono (below_regrown W d os).size))⟩
def numV (n : Nums) (A : Option Addr) (c : Nat) : Value := .agg #[.int .u8 n.prefix_, .slice A n.list.length c, .bool n.void]
structure NumAt (W : World) (n : Nums) (A : Option Addr) (c : Nat) : Prop where
 sees : Sees W W.heap.size A (ints n.list)
 cap : n.list.length <= c
 len : n.list.length <= 32
 rng : ∀ x ∈ n.list, 0 <= x /\ x <= 9999
 ty : ∀ a, A = some a -> ∃ arr fl, W.heap[a.block]? = some (.cells arr 3 fl)
theorem NumAt.keep {n : Nums} {A : Option Addr} {c : Nat} (h : NumAt W n A c) (hs : W.heap.size <= W'.heap.size) (k : ∀ a, A = some a -> W'.heap[a.block]? = W.heap[a.block]?) : NumAt W' n A c := by
 refine ⟨fun hne => ?_, h.cap, h.len, h.rng, fun a e => by rw [k a e]; exact h.ty a e⟩
 obtain ⟨ad, e, hb, hc⟩ := h.sees hne
 refine ⟨ad, e, Nat.lt_of_lt_of_le hb hs, fun j u hj => ?_⟩
 have e2 : W'.cell? (ad.add j) = W.cell? (ad.add j) := World.cell?_of_block (by rw [z8]; exact k ad e)
 rw [e2]
 exact hc j u hj
theorem NumAt.below {n : Nums} {A : Option Addr} {c : Nat} (h : NumAt W n A c) (hb : Below W.heap.size W W') : NumAt W' n A c := h.keep hb.size (fun a e => by
 obtain ⟨arr, fl, hg⟩ := h.ty a e
 exact hb.block _ (Array.getElem?_eq_some_iff.1 hg).1)
theorem TrmAt.notInt {L : Lay} (T : TrmAt W L t) {g : Nat} {arr : Array Value} {fl : Nat × Nat} (hg : W.heap[g]? = some (.cells arr 3 fl)) : g ∉ L.fp := by
 intro m
 have no : ∀ {cur : Array Value} {T' : TypeId} {f2 : Nat × Nat}, W.heap[g]? = some (.cells cur T' f2) -> T' ≠ 3 -> False := fun k ne => by
  rw [hg] at k
  cases k
  exact ne rfl
 rcases Lay.mem.1 m with rfl | rfl | m | m | m | m | m | m | m
 ·have := T.own; unfold Bk at this; exact no this (by decide)
 ·obtain ⟨_, k⟩ := T.utf.kind; unfold Bk at k; exact no k (by decide)
 ·obtain ⟨_, k⟩ := T.c.kind g m; exact no k (by decide)
 ·obtain ⟨_, k⟩ := T.a.kind g m; exact no k (by decide)
 ·obtain ⟨_, k⟩ := T.s.kind g m; exact no k (by decide)
 ·obtain ⟨_, k⟩ := T.w.kind g m; exact no k (by decide)
 ·obtain ⟨_, k⟩ := T.r.kind g m; exact no k (by decide)
 ·obtain ⟨_, k⟩ := T.h.kind g m; exact no k (by decide)
 ·obtain ⟨_, k⟩ := T.k.kind g m; exact no k (by decide)
theorem NumAt.mv {L : Lay} {n : Nums} {A : Option Addr} {c : Nat} (h : NumAt W n A c) (T : TrmAt W L t) (m : Mv L.fp W W') : NumAt W' n A c := h.keep m.size (fun a e => by
 obtain ⟨arr, fl, hg⟩ := h.ty a e
 exact m.blk _ (Array.getElem?_eq_some_iff.1 hg).1 (T.notInt hg))
theorem qQ {n : Nums} {A : Option Addr} {c : Nat} (h : NumAt W n A c) (i : Nat) : 1 <= n.count i /\ n.count i <= 9999 := by
 unfold Nums.count
 split
 ·rename_i lt
  have m : n.list.getD i 0 ∈ n.list := by
   rw [List.getD_eq_getElem?_getD, List.getElem?_eq_getElem lt]
   exact List.getElem_mem lt
  have := h.rng _ m
  omega
 ·omega
set_option maxHeartbeats 4000000 in
theorem je (n : Nums) (A : Option Addr) (c : Nat) (i : Nat) (W : World) (hn : NumAt W n A c) : Calls Tryz.prog 140 #[numV n A c, .int .i64 i] W fun e w' => e = .returned (.int .i64 (n.count i)) /\ Below W.heap.size W w' := by
 obtain ⟨Q, hQ⟩ : ∃ Q, Q = W.alloc (.cells [.int .u8 n.prefix_, .slice A n.list.length c, .bool n.void].toArray 129) := ⟨_, rfl⟩
 have BQ : Below W.heap.size W Q := by rw [hQ]; exact (Below.refl _ W).alloc zdA _
 have KQ : Bk Q W.heap.size [.int .u8 n.prefix_, .slice A n.list.length c, .bool n.void] 129 := by rw [hQ]; exact Bk.new W _ _
 have S := hn.sees.below BQ zdA
 have hl := hn.len
 have hc := hn.cap
 have k1 := KQ.c 1 _ rfl
 have kf1 := KQ.f 1
 have BH := zdy BQ
 unfold numV
 clear KQ BQ hn
 unfold Nums.count
 by_cases lt : i < n.list.length
 ·rw [if_pos lt]
  obtain ⟨ad, rfl, _, hcell⟩ := S.at (k := i) (by unfold ints; simpa using lt)
  have e1 : n.list.getD i 0 = n.list[i] := by rw [List.getD_eq_getElem?_getD, List.getElem?_eq_getElem lt]; rfl
  rw [e1]
  have hx : Q.cell? (ad.add i) = some (.int .i64 n.list[i]) := by
   have e2 : (ints n.list)[i]'(by unfold ints; simpa using lt) = .int .i64 n.list[i] := by unfold ints; simp
   rw [<- e2]
   exact hcell
  clear S e1 hcell
  generalize n.list[i] = x at *
  generalize n.list.length = m at *
  go_enter Tryz.func140, Tryz.ntmps140
  go_upto_region 1 with fail
  rw [<- hQ]
  clear hQ
  go_wp2_with fail
  go_ret
  exact ⟨by go_num, BH.out⟩
 ·rw [if_neg lt]
  generalize n.list.length = m at *
  clear S
  go_enter Tryz.func140, Tryz.ntmps140
  go_upto_region 1 with fail
  rw [<- hQ]
  clear hQ
  go_wp2_with fail
  go_ret
  exact ⟨rfl, BH.out⟩
set_option maxHeartbeats 4000000 in
theorem QI (h : St w0 F0 tb t W) (h0 : 0 <= t.w) (h1 : t.w <= 4096) (x : Int) : Calls Tryz.prog 96 #[.pointer (some ⟨tb, 0, none⟩), .int .i64 x] W (Vd w0 F0 tb (qe t x)) := by
 obtain ⟨L, rfl, T, _⟩ := h.lay
 have k0 := T.own.c 0 _ rfl
 have kf0 := T.own.f 0
 have k3 := T.own.c 3 _ rfl
 have kf3 := T.own.f 3
 have k16 := T.own.c 16 _ rfl
 have kf16 := T.own.f 16
 have k17 := T.own.c 17 _ rfl
 have kf17 := T.own.f 17
 have HH := zdy h
 have wk := zdz (t.w - 1) (by omega)
 clear h T
 unfold qe
 by_cases c : t.w <= x
 ·rw [if_pos c]
  go_enter Tryz.func96, Tryz.ntmps96
  go_wp2_with fail
  go_end0
  exact ⟨⟨_, rfl⟩, ((HH.out.setX x).setX (t.w - 1)).setPend t.wrap⟩
 ·rw [if_neg c]
  go_enter Tryz.func96, Tryz.ntmps96
  go_wp2_with fail
  go_end0
  exact ⟨⟨_, rfl⟩, HH.out.setX x⟩
end
end
section
open Go Go.RowKit Go.Sort
theorem _root_.Go.RowKit.Below.mono' {W' : World} (Q : World) (h : Below Q.drew.heap.size Q.drew W') : Below Q.heap.size Q W' := ((Below.refl _ Q).drew).trans h
section
variable {w0 : World} {F0 : List Nat} {tb : Nat} {t : Trm} {W W' : World}
set_option maxHeartbeats 4000000 in
set_option maxRecDepth 100000 in
theorem t_left (h : St w0 F0 tb t W) (n : Nums) (A : Option Addr) (c : Nat) (hn : NumAt W n A c) (hx : 0 <= t.cur.x /\ t.cur.x <= 100000) : Calls Tryz.prog 111 #[.pointer (some ⟨tb, 0, none⟩), numV n A c] W (Vd w0 F0 tb (setX t (max (t.cur.x - n.count 0) 0))) := by
 obtain ⟨Q, hQ⟩ : ∃ Q, Q = W.alloc (.cells [.int .u8 n.prefix_, .slice A n.list.length c, .bool n.void].toArray 129) := ⟨_, rfl⟩
 have BQ : Below W.heap.size W Q := by rw [hQ]; exact (Below.refl _ W).alloc zdA _
 have KQ : Bk Q W.heap.size [.int .u8 n.prefix_, .slice A n.list.length c, .bool n.void] 129 := by rw [hQ]; exact Bk.new W _ _
 have HQ := zdy (h.below BQ)
 have CT0 : Hid (∀ W', Below Q.heap.size Q W' -> Calls Tryz.prog 140 #[.agg #[.int .u8 n.prefix_, .slice A n.list.length c, .bool n.void], .int .i64 0] W' fun e w' => e = .returned (.int .i64 (n.count 0)) /\ Below W'.heap.size W' w') := zdy (fun W' hb => je n A c 0 W' ((hn.below BQ).below hb))
 obtain ⟨z00, z10⟩ := qQ hn 0
 generalize n.count 0 = z0 at *
 have KH := zdy KQ
 obtain ⟨L, rfl, T, _⟩ := HQ.out.lay
 unfold numV
 have w1 := zdz (t.cur.x - z0) (by omega)
 clear KQ BQ T hn h
 go_enter Tryz.func111, Tryz.ntmps111
 go_upto_region 1 with fail
 rw [<- hQ]
 clear hQ
 obtain ⟨L, e0, T, _⟩ := HQ.out.lay
 have B0 := T.own
 rw [e0] at B0
 have k3 := fun d os => ((B0).regrown d os).c 3 _ rfl
 have j0 := fun d os => ((KH.out).regrown d os).c 0 _ rfl
 have j1 := fun d os => ((KH.out).regrown d os).c 1 _ rfl
 have j2 := fun d os => ((KH.out).regrown d os).c 2 _ rfl
 clear T B0 e0
 refine zf 13 (by kernel_rfl) (by kernel_rfl) ?_
 simp only [zdB, zdC, zdD, zdE]
 repeat (quiet_step (exact qa CT0.out _ _))
 refine wpQuiet_nil ?_
 intro _ hw'
 obtain ⟨⟨dq, osq⟩, hw''⟩ := hw'
 subst hw''
 have H1 := zdy (HQ.out.below (below_regrown Q dq osq))
 clear k3 j0 j1 j2 CT0 HQ
 generalize grow (redrawn Q dq) osq = W1 at *
 obtain ⟨L1, e1, T1, _⟩ := H1.out.lay
 have B1 := T1.own
 rw [e1] at B1
 have k3 := B1.c 3 _ rfl
 have kf3 := B1.f 3
 clear T1 B1
 go_wp2_with fail
 go_end0
 exact ⟨⟨_, rfl⟩, H1.out.setX _⟩
set_option maxHeartbeats 4000000 in
set_option maxRecDepth 100000 in
theorem X9 (h : St w0 F0 tb t W) (n : Nums) (A : Option Addr) (c : Nat) (hn : NumAt W n A c) (hx : 0 <= t.cur.x /\ t.cur.x <= 100000) (hw : 0 <= t.w /\ t.w <= 4096) : Calls Tryz.prog 110 #[.pointer (some ⟨tb, 0, none⟩), numV n A c] W (Vd w0 F0 tb (setX t (min (t.cur.x + n.count 0) (t.w - 1)))) := by
 obtain ⟨Q, hQ⟩ : ∃ Q, Q = W.alloc (.cells [.int .u8 n.prefix_, .slice A n.list.length c, .bool n.void].toArray 129) := ⟨_, rfl⟩
 have BQ : Below W.heap.size W Q := by rw [hQ]; exact (Below.refl _ W).alloc zdA _
 have KQ : Bk Q W.heap.size [.int .u8 n.prefix_, .slice A n.list.length c, .bool n.void] 129 := by rw [hQ]; exact Bk.new W _ _
 have HQ := zdy (h.below BQ)
 have CT0 : Hid (∀ W', Below Q.heap.size Q W' -> Calls Tryz.prog 140 #[.agg #[.int .u8 n.prefix_, .slice A n.list.length c, .bool n.void], .int .i64 0] W' fun e w' => e = .returned (.int .i64 (n.count 0)) /\ Below W'.heap.size W' w') := zdy (fun W' hb => je n A c 0 W' ((hn.below BQ).below hb))
 obtain ⟨z00, z10⟩ := qQ hn 0
 generalize n.count 0 = z0 at *
 have KH := zdy KQ
 obtain ⟨L, rfl, T, _⟩ := HQ.out.lay
 unfold numV
 have w1 := zdz (t.cur.x + z0) (by omega)
 have w2 := zdz (t.w - 1) (by omega)
 clear KQ BQ T hn h
 go_enter Tryz.func110, Tryz.ntmps110
 go_upto_region 1 with fail
 rw [<- hQ]
 clear hQ
 obtain ⟨L, e0, T, _⟩ := HQ.out.lay
 have B0 := T.own
 rw [e0] at B0
 have k0 := fun d os => ((B0).regrown d os).c 0 _ rfl
 have k3 := fun d os => ((B0).regrown d os).c 3 _ rfl
 have j0 := fun d os => ((KH.out).regrown d os).c 0 _ rfl
 have j1 := fun d os => ((KH.out).regrown d os).c 1 _ rfl
 have j2 := fun d os => ((KH.out).regrown d os).c 2 _ rfl
 clear T B0 e0
 refine zf 19 (by kernel_rfl) (by kernel_rfl) ?_
 simp only [zdB, zdC, zdD, zdE]
 repeat (quiet_step (exact qa CT0.out _ _))
 refine wpQuiet_nil ?_
 intro _ hw'
 obtain ⟨⟨dq, osq⟩, hw''⟩ := hw'
 subst hw''
 have H1 := zdy (HQ.out.below (below_regrown Q dq osq))
 clear k0 k3 j0 j1 j2 CT0 HQ
 generalize grow (redrawn Q dq) osq = W1 at *
 obtain ⟨L1, e1, T1, _⟩ := H1.out.lay
 have B1 := T1.own
 rw [e1] at B1
 have k3 := B1.c 3 _ rfl
 have kf3 := B1.f 3
 clear T1 B1
 go_wp2_with fail
 go_end0
 exact ⟨⟨_, rfl⟩, H1.out.setX _⟩
set_option maxHeartbeats 4000000 in
set_option maxRecDepth 100000 in
theorem Ka (h : St w0 F0 tb t W) (n : Nums) (A : Option Addr) (c : Nat) (hn : NumAt W n A c) (hw : 0 <= t.w /\ t.w <= 4096) : Calls Tryz.prog 114 #[.pointer (some ⟨tb, 0, none⟩), numV n A c] W (Vd w0 F0 tb (setX t (min (n.count 0) t.w - 1))) := by
 obtain ⟨Q, hQ⟩ : ∃ Q, Q = W.alloc (.cells [.int .u8 n.prefix_, .slice A n.list.length c, .bool n.void].toArray 129) := ⟨_, rfl⟩
 have BQ : Below W.heap.size W Q := by rw [hQ]; exact (Below.refl _ W).alloc zdA _
 have KQ : Bk Q W.heap.size [.int .u8 n.prefix_, .slice A n.list.length c, .bool n.void] 129 := by rw [hQ]; exact Bk.new W _ _
 have HQ := zdy (h.below BQ)
 have CT0 : Hid (∀ W', Below Q.heap.size Q W' -> Calls Tryz.prog 140 #[.agg #[.int .u8 n.prefix_, .slice A n.list.length c, .bool n.void], .int .i64 0] W' fun e w' => e = .returned (.int .i64 (n.count 0)) /\ Below W'.heap.size W' w') := zdy (fun W' hb => je n A c 0 W' ((hn.below BQ).below hb))
 obtain ⟨z00, z10⟩ := qQ hn 0
 generalize n.count 0 = z0 at *
 have KH := zdy KQ
 obtain ⟨L, rfl, T, _⟩ := HQ.out.lay
 unfold numV
 have w2 := zdz (min z0 t.w - 1) (by omega)
 clear KQ BQ T hn h
 go_enter Tryz.func114, Tryz.ntmps114
 go_upto_region 1 with fail
 rw [<- hQ]
 clear hQ
 obtain ⟨L, e0, T, _⟩ := HQ.out.lay
 have B0 := T.own
 rw [e0] at B0
 have k0 := fun d os => ((B0).regrown d os).c 0 _ rfl
 have j0 := fun d os => ((KH.out).regrown d os).c 0 _ rfl
 have j1 := fun d os => ((KH.out).regrown d os).c 1 _ rfl
 have j2 := fun d os => ((KH.out).regrown d os).c 2 _ rfl
 clear T B0 e0
 refine zf 13 (by kernel_rfl) (by kernel_rfl) ?_
 simp only [zdB, zdC, zdD, zdE]
 repeat (quiet_step (exact qa CT0.out _ _))
 refine wpQuiet_nil ?_
 intro _ hw'
 obtain ⟨⟨dq, osq⟩, hw''⟩ := hw'
 subst hw''
 have H1 := zdy (HQ.out.below (below_regrown Q dq osq))
 clear k0 j0 j1 j2 CT0 HQ
 generalize grow (redrawn Q dq) osq = W1 at *
 obtain ⟨L1, e1, T1, _⟩ := H1.out.lay
 have B1 := T1.own
 rw [e1] at B1
 have k3 := B1.c 3 _ rfl
 have kf3 := B1.f 3
 clear T1 B1
 go_wp2_with fail
 go_end0
 exact ⟨⟨_, rfl⟩, H1.out.setX _⟩
set_option maxHeartbeats 4000000 in
set_option maxRecDepth 100000 in
theorem t_up (h : St w0 F0 tb t W) (n : Nums) (A : Option Addr) (c : Nat) (hn : NumAt W n A c) (hy : 0 <= t.cur.y /\ t.cur.y <= 100000) : Calls Tryz.prog 108 #[.pointer (some ⟨tb, 0, none⟩), numV n A c] W (Vd w0 F0 tb (setY t (max (t.cur.y - n.count 0) (if t.top <= t.cur.y then t.top else 0)))) := by
 obtain ⟨Q, hQ⟩ : ∃ Q, Q = W.alloc (.cells [.int .u8 n.prefix_, .slice A n.list.length c, .bool n.void].toArray 129) := ⟨_, rfl⟩
 have BQ : Below W.heap.size W Q := by rw [hQ]; exact (Below.refl _ W).alloc zdA _
 have KQ : Bk Q W.heap.size [.int .u8 n.prefix_, .slice A n.list.length c, .bool n.void] 129 := by rw [hQ]; exact Bk.new W _ _
 have HQ := zdy (h.below BQ)
 have CT0 : Hid (∀ W', Below Q.heap.size Q W' -> Calls Tryz.prog 140 #[.agg #[.int .u8 n.prefix_, .slice A n.list.length c, .bool n.void], .int .i64 0] W' fun e w' => e = .returned (.int .i64 (n.count 0)) /\ Below W'.heap.size W' w') := zdy (fun W' hb => je n A c 0 W' ((hn.below BQ).below hb))
 obtain ⟨z00, z10⟩ := qQ hn 0
 generalize n.count 0 = z0 at *
 have KH := zdy KQ
 obtain ⟨L, rfl, T, _⟩ := HQ.out.lay
 unfold numV
 have w1 := zdz (t.cur.y - z0) (by omega)
 have B2 := T.own
 have i1 := B2.c 1 _ rfl
 have if1 := B2.f 1
 have i4 := B2.c 4 _ rfl
 have if4 := B2.f 4
 have i21 := B2.c 21 _ rfl
 have if21 := B2.f 21
 have i22 := B2.c 22 _ rfl
 have if22 := B2.f 22
 clear KQ BQ T B2 hn h
 by_cases c : t.top <= t.cur.y
 ·rw [if_pos c]
  go_enter Tryz.func108, Tryz.ntmps108
  go_upto_region 1 with fail
  rw [<- hQ]
  clear hQ
  go_upto_region 2 with fail
  go_region
  go_upto_region 4 with fail
  clear i1 i4 i21 i22 if1 if4 if21 if22
  have CT0 := zdy (fun W' (hb : Below Q.drew.heap.size Q.drew W') => CT0.out W' (hb.mono' Q))
  have HQ := zdy (HQ.out.below (Below.refl _ Q).drew)
  have KH := zdy (KH.out.of_eq ((Below.refl Q.heap.size Q).drew.block _ KH.out.lt))
  obtain ⟨L, e0, T, _⟩ := HQ.out.lay
  have B0 := T.own
  rw [e0] at B0
  have k4 := fun d os => ((B0).regrown d os).c 4 _ rfl
  have j0 := fun d os => ((KH.out).regrown d os).c 0 _ rfl
  have j1 := fun d os => ((KH.out).regrown d os).c 1 _ rfl
  have j2 := fun d os => ((KH.out).regrown d os).c 2 _ rfl
  clear T B0 e0
  refine zf 13 (by kernel_rfl) (by kernel_rfl) ?_
  simp only [zdB, zdC, zdD, zdE]
  repeat (quiet_step (exact qa CT0.out _ _))
  refine wpQuiet_nil ?_
  intro _ hw'
  obtain ⟨⟨dq, osq⟩, hw''⟩ := hw'
  subst hw''
  have H1 := zdy (HQ.out.below (below_regrown Q.drew dq osq))
  clear k4 j0 j1 j2 CT0 HQ
  generalize grow (redrawn Q.drew dq) osq = W1 at *
  obtain ⟨L1, e1, T1, _⟩ := H1.out.lay
  have B1 := T1.own
  rw [e1] at B1
  have k4 := B1.c 4 _ rfl
  have kf4 := B1.f 4
  clear T1 B1
  go_wp2_with fail
  go_end0
  exact ⟨⟨_, rfl⟩, H1.out.setY _⟩
 ·rw [if_neg c]
  go_enter Tryz.func108, Tryz.ntmps108
  go_upto_region 1 with fail
  rw [<- hQ]
  clear hQ
  go_upto_region 2 with fail
  go_region
  go_upto_region 4 with fail
  clear i1 i4 i21 i22 if1 if4 if21 if22
  have CT0 := zdy (fun W' (hb : Below Q.drew.heap.size Q.drew W') => CT0.out W' (hb.mono' Q))
  have HQ := zdy (HQ.out.below (Below.refl _ Q).drew)
  have KH := zdy (KH.out.of_eq ((Below.refl Q.heap.size Q).drew.block _ KH.out.lt))
  obtain ⟨L, e0, T, _⟩ := HQ.out.lay
  have B0 := T.own
  rw [e0] at B0
  have k4 := fun d os => ((B0).regrown d os).c 4 _ rfl
  have j0 := fun d os => ((KH.out).regrown d os).c 0 _ rfl
  have j1 := fun d os => ((KH.out).regrown d os).c 1 _ rfl
  have j2 := fun d os => ((KH.out).regrown d os).c 2 _ rfl
  clear T B0 e0
  refine zf 13 (by kernel_rfl) (by kernel_rfl) ?_
  simp only [zdB, zdC, zdD, zdE]
  repeat (quiet_step (exact qa CT0.out _ _))
  refine wpQuiet_nil ?_
  intro _ hw'
  obtain ⟨⟨dq, osq⟩, hw''⟩ := hw'
  subst hw''
  have H1 := zdy (HQ.out.below (below_regrown Q.drew dq osq))
  clear k4 j0 j1 j2 CT0 HQ
  generalize grow (redrawn Q.drew dq) osq = W1 at *
  obtain ⟨L1, e1, T1, _⟩ := H1.out.lay
  have B1 := T1.own
  rw [e1] at B1
  have k4 := B1.c 4 _ rfl
  have kf4 := B1.f 4
  clear T1 B1
  go_wp2_with fail
  go_end0
  exact ⟨⟨_, rfl⟩, H1.out.setY _⟩
set_option maxHeartbeats 4000000 in
set_option maxRecDepth 100000 in
theorem QJ (h : St w0 F0 tb t W) (n : Nums) (A : Option Addr) (c : Nat) (hn : NumAt W n A c) (hy : 0 <= t.cur.y /\ t.cur.y <= 100000) (hh : 0 <= t.h /\ t.h <= 4096) : Calls Tryz.prog 109 #[.pointer (some ⟨tb, 0, none⟩), numV n A c] W (Vd w0 F0 tb (setY t (min (t.cur.y + n.count 0) (if t.cur.y <= t.bot then t.bot else t.h - 1)))) := by
 obtain ⟨Q, hQ⟩ : ∃ Q, Q = W.alloc (.cells [.int .u8 n.prefix_, .slice A n.list.length c, .bool n.void].toArray 129) := ⟨_, rfl⟩
 have BQ : Below W.heap.size W Q := by rw [hQ]; exact (Below.refl _ W).alloc zdA _
 have KQ : Bk Q W.heap.size [.int .u8 n.prefix_, .slice A n.list.length c, .bool n.void] 129 := by rw [hQ]; exact Bk.new W _ _
 have HQ := zdy (h.below BQ)
 have CT0 : Hid (∀ W', Below Q.heap.size Q W' -> Calls Tryz.prog 140 #[.agg #[.int .u8 n.prefix_, .slice A n.list.length c, .bool n.void], .int .i64 0] W' fun e w' => e = .returned (.int .i64 (n.count 0)) /\ Below W'.heap.size W' w') := zdy (fun W' hb => je n A c 0 W' ((hn.below BQ).below hb))
 obtain ⟨z00, z10⟩ := qQ hn 0
 generalize n.count 0 = z0 at *
 have KH := zdy KQ
 obtain ⟨L, rfl, T, _⟩ := HQ.out.lay
 unfold numV
 have w1 := zdz (t.cur.y + z0) (by omega)
 have w2 := zdz (t.h - 1) (by omega)
 have B2 := T.own
 have i1 := B2.c 1 _ rfl
 have if1 := B2.f 1
 have i4 := B2.c 4 _ rfl
 have if4 := B2.f 4
 have i21 := B2.c 21 _ rfl
 have if21 := B2.f 21
 have i22 := B2.c 22 _ rfl
 have if22 := B2.f 22
 clear KQ BQ T B2 hn h
 by_cases c : t.cur.y <= t.bot
 ·rw [if_pos c]
  go_enter Tryz.func109, Tryz.ntmps109
  go_upto_region 1 with fail
  rw [<- hQ]
  clear hQ
  go_upto_region 2 with fail
  go_region
  go_upto_region 4 with fail
  clear i1 i4 i21 i22 if1 if4 if21 if22
  have CT0 := zdy (fun W' (hb : Below Q.drew.heap.size Q.drew W') => CT0.out W' (hb.mono' Q))
  have HQ := zdy (HQ.out.below (Below.refl _ Q).drew)
  have KH := zdy (KH.out.of_eq ((Below.refl Q.heap.size Q).drew.block _ KH.out.lt))
  obtain ⟨L, e0, T, _⟩ := HQ.out.lay
  have B0 := T.own
  rw [e0] at B0
  have k4 := fun d os => ((B0).regrown d os).c 4 _ rfl
  have j0 := fun d os => ((KH.out).regrown d os).c 0 _ rfl
  have j1 := fun d os => ((KH.out).regrown d os).c 1 _ rfl
  have j2 := fun d os => ((KH.out).regrown d os).c 2 _ rfl
  clear T B0 e0
  refine zf 13 (by kernel_rfl) (by kernel_rfl) ?_
  simp only [zdB, zdC, zdD, zdE]
  repeat (quiet_step (exact qa CT0.out _ _))
  refine wpQuiet_nil ?_
  intro _ hw'
  obtain ⟨⟨dq, osq⟩, hw''⟩ := hw'
  subst hw''
  have H1 := zdy (HQ.out.below (below_regrown Q.drew dq osq))
  clear k4 j0 j1 j2 CT0 HQ
  generalize grow (redrawn Q.drew dq) osq = W1 at *
  obtain ⟨L1, e1, T1, _⟩ := H1.out.lay
  have B1 := T1.own
  rw [e1] at B1
  have k4 := B1.c 4 _ rfl
  have kf4 := B1.f 4
  clear T1 B1
  go_wp2_with fail
  go_end0
  exact ⟨⟨_, rfl⟩, H1.out.setY _⟩
 ·rw [if_neg c]
  go_enter Tryz.func109, Tryz.ntmps109
  go_upto_region 1 with fail
  rw [<- hQ]
  clear hQ
  go_upto_region 2 with fail
  go_region
  go_upto_region 4 with fail
  clear i1 i4 i21 i22 if1 if4 if21 if22
  have CT0 := zdy (fun W' (hb : Below Q.drew.heap.size Q.drew W') => CT0.out W' (hb.mono' Q))
  have HQ := zdy (HQ.out.below (Below.refl _ Q).drew)
  have KH := zdy (KH.out.of_eq ((Below.refl Q.heap.size Q).drew.block _ KH.out.lt))
  obtain ⟨L, e0, T, _⟩ := HQ.out.lay
  have B0 := T.own
  rw [e0] at B0
  have k4 := fun d os => ((B0).regrown d os).c 4 _ rfl
  have j0 := fun d os => ((KH.out).regrown d os).c 0 _ rfl
  have j1 := fun d os => ((KH.out).regrown d os).c 1 _ rfl
  have j2 := fun d os => ((KH.out).regrown d os).c 2 _ rfl
  clear T B0 e0
  refine zf 13 (by kernel_rfl) (by kernel_rfl) ?_
  simp only [zdB, zdC, zdD, zdE]
  repeat (quiet_step (exact qa CT0.out _ _))
  refine wpQuiet_nil ?_
  intro _ hw'
  obtain ⟨⟨dq, osq⟩, hw''⟩ := hw'
  subst hw''
  have H1 := zdy (HQ.out.below (below_regrown Q.drew dq osq))
  clear k4 j0 j1 j2 CT0 HQ
  generalize grow (redrawn Q.drew dq) osq = W1 at *
  obtain ⟨L1, e1, T1, _⟩ := H1.out.lay
  have B1 := T1.own
  rw [e1] at B1
  have k4 := B1.c 4 _ rfl
  have kf4 := B1.f 4
  clear T1 B1
  go_wp2_with fail
  go_end0
  exact ⟨⟨_, rfl⟩, H1.out.setY _⟩
end
end
section
open Go Go.RowKit Go.Sort
section
variable {w0 : World} {F0 : List Nat} {tb : Nat} {t : Trm} {W W' : World}
set_option maxHeartbeats 4000000 in
theorem Zg (h : St w0 F0 tb t W) : Calls Tryz.prog 104 #[.pointer (some ⟨tb, 0, none⟩)] W (Vd w0 F0 tb (jV t)) := by
 obtain ⟨L, rfl, T, _⟩ := h.lay
 have k3 := T.own.c 3 _ rfl
 have kf3 := T.own.f 3
 have k4 := T.own.c 4 _ rfl
 have kf4 := T.own.f 4
 have k8 := T.own.c 8 _ rfl
 have kf8 := T.own.f 8
 have k21 := T.own.c 21 _ rfl
 have kf21 := T.own.f 21
 have HH := zdy h
 clear h T
 cases e : t.cur.org with
 | false =>
  rw [e] at k8
  have e2 : jV t = setY (setX t 0) 0 := by unfold jV setX setY; rw [e]; rfl
  rw [e2]
  go_enter Tryz.func104, Tryz.ntmps104
  go_wp2_with fail
  go_end0
  exact ⟨⟨_, rfl⟩, (HH.out.setX 0).setY 0⟩
 | true =>
  rw [e] at k8
  have e2 : jV t = setY (setY (setX t 0) 0) t.top := by unfold jV setX setY; rw [e]; rfl
  rw [e2]
  go_enter Tryz.func104, Tryz.ntmps104
  go_wp2_with fail
  go_end0
  exact ⟨⟨_, rfl⟩, ((HH.out.setX 0).setY 0).setY t.top⟩
set_option maxHeartbeats 4000000 in
theorem zb8 (h : St w0 F0 tb t W) (n : Nums) (A : Option Addr) (c : Nat) (hn : NumAt W n A c) (hy : 0 <= t.cur.y /\ t.cur.y <= 100000) (hh : 0 <= t.h /\ t.h <= 4096) : Calls Tryz.prog 112 #[.pointer (some ⟨tb, 0, none⟩), numV n A c] W (Vd w0 F0 tb (setX (kv t (n.count 0)) 0)) := by
 obtain ⟨Q, hQ⟩ : ∃ Q, Q = W.alloc (.cells [.int .u8 n.prefix_, .slice A n.list.length c, .bool n.void].toArray 129) := ⟨_, rfl⟩
 have BQ : Below W.heap.size W Q := by rw [hQ]; exact (Below.refl _ W).alloc zdA _
 have KQ : Bk Q W.heap.size [.int .u8 n.prefix_, .slice A n.list.length c, .bool n.void] 129 := by rw [hQ]; exact Bk.new W _ _
 have CT := zdy (QJ (h.below BQ) n A c (hn.below BQ) hy hh)
 have j0 := KQ.c 0 _ rfl
 have jf0 := KQ.f 0
 have j1 := KQ.c 1 _ rfl
 have jf1 := KQ.f 1
 have j2 := KQ.c 2 _ rfl
 have jf2 := KQ.f 2
 unfold numV at CT ⊢
 clear KQ BQ h hn
 go_enter Tryz.func112, Tryz.ntmps112
 go_upto_region 1 with fail
 rw [<- hQ]
 clear hQ
 go_wp2_with fail
 refine CT.out.mono ?_; rintro e w1 ⟨⟨v, rfl⟩, h1⟩
 have H1 : Hid (St w0 F0 tb (kv t (n.count 0)) w1) := zdy h1
 obtain ⟨L, rfl, T, _⟩ := h1.lay
 have k3 := T.own.c 3 _ rfl
 have kf3 := T.own.f 3
 clear T h1 CT j0 j1 j2 jf0 jf1 jf2
 go_wp2_with fail
 go_end0
 exact ⟨⟨_, rfl⟩, H1.out.setX 0⟩
set_option maxHeartbeats 4000000 in
theorem t_upLine (h : St w0 F0 tb t W) (n : Nums) (A : Option Addr) (c : Nat) (hn : NumAt W n A c) (hy : 0 <= t.cur.y /\ t.cur.y <= 100000) : Calls Tryz.prog 113 #[.pointer (some ⟨tb, 0, none⟩), numV n A c] W (Vd w0 F0 tb (setX (upT t (n.count 0)) 0)) := by
 obtain ⟨Q, hQ⟩ : ∃ Q, Q = W.alloc (.cells [.int .u8 n.prefix_, .slice A n.list.length c, .bool n.void].toArray 129) := ⟨_, rfl⟩
 have BQ : Below W.heap.size W Q := by rw [hQ]; exact (Below.refl _ W).alloc zdA _
 have KQ : Bk Q W.heap.size [.int .u8 n.prefix_, .slice A n.list.length c, .bool n.void] 129 := by rw [hQ]; exact Bk.new W _ _
 have CT := zdy (t_up (h.below BQ) n A c (hn.below BQ) hy)
 have j0 := KQ.c 0 _ rfl
 have jf0 := KQ.f 0
 have j1 := KQ.c 1 _ rfl
 have jf1 := KQ.f 1
 have j2 := KQ.c 2 _ rfl
 have jf2 := KQ.f 2
 unfold numV at CT ⊢
 clear KQ BQ h hn
 go_enter Tryz.func113, Tryz.ntmps113
 go_upto_region 1 with fail
 rw [<- hQ]
 clear hQ
 go_wp2_with fail
 refine CT.out.mono ?_; rintro e w1 ⟨⟨v, rfl⟩, h1⟩
 have H1 : Hid (St w0 F0 tb (upT t (n.count 0)) w1) := zdy h1
 obtain ⟨L, rfl, T, _⟩ := h1.lay
 have k3 := T.own.c 3 _ rfl
 have kf3 := T.own.f 3
 clear T h1 CT j0 j1 j2 jf0 jf1 jf2
 go_wp2_with fail
 go_end0
 exact ⟨⟨_, rfl⟩, H1.out.setX 0⟩
end
end
section
open Go Go.RowKit Go.Sort
section
variable {w0 : World} {F0 : List Nat} {tb : Nat} {t : Trm} {W W' : World}
theorem St.bk (h : St w0 F0 tb t W) : ∃ L, Bk W tb (trmV t L) 104 := by
 obtain ⟨L, rfl, T, _⟩ := h.lay
 exact ⟨L, T.own⟩
def cur6 (t : Trm) (c : Cur) : Trm := { t with cur := c }
theorem St.setCur (h : St w0 F0 tb t W) (c : Cur) : St w0 F0 tb (cur6 t c) ((((((W.setCell ⟨tb, 3, none⟩ (.int .i64 c.x)).setCell ⟨tb, 4, none⟩ (.int .i64 c.y)).setCell ⟨tb, 5, none⟩ (.int .i32 c.st.fg)).setCell ⟨tb, 6, none⟩ (.int .i32 c.st.bg)).setCell ⟨tb, 7, none⟩ (.int .u8 (bI c.st.at_))).setCell ⟨tb, 8, none⟩ (.bool c.org)) := by
 have h1 := h.setX c.x
 have h2 := h1.setY c.y
 have h3 := h2.set { t with cur := ⟨c.x, c.y, ⟨c.st.fg, t.cur.st.bg, t.cur.st.at_⟩, t.cur.org⟩ } 5 (.int .i32 c.st.fg) (fun _ => rfl) ⟨rfl, rfl, rfl, rfl, rfl, rfl, rfl⟩
 have h4 := h3.set { t with cur := ⟨c.x, c.y, ⟨c.st.fg, c.st.bg, t.cur.st.at_⟩, t.cur.org⟩ } 6 (.int .i32 c.st.bg) (fun _ => rfl) ⟨rfl, rfl, rfl, rfl, rfl, rfl, rfl⟩
 have h5 := h4.set { t with cur := ⟨c.x, c.y, ⟨c.st.fg, c.st.bg, c.st.at_⟩, t.cur.org⟩ } 7 (.int .u8 (bI c.st.at_)) (fun _ => rfl) ⟨rfl, rfl, rfl, rfl, rfl, rfl, rfl⟩
 exact h5.set (cur6 t c) 8 (.bool c.org) (fun _ => rfl) ⟨rfl, rfl, rfl, rfl, rfl, rfl, rfl⟩
theorem Kb (t : Trm) : jH t = { (setY (setX (cur6 t t.sav) (if t.w * t.h = 0 then 0 else max 0 (min t.sav.x (t.w - 1)))) (if t.w * t.h = 0 then 0 else max 0 (min t.sav.y (t.h - 1)))) with pend := false } := rfl
set_option maxHeartbeats 4000000 in
set_option maxRecDepth 100000 in
theorem QK (h : St w0 F0 tb t W) (hw : 0 <= t.w /\ t.w <= 4096) (hh : 0 <= t.h /\ t.h <= 4096) : Calls Tryz.prog 88 #[.pointer (some ⟨tb, 0, none⟩)] W (Vd w0 F0 tb (jH t)) := by
 have wk1 := zdz (t.w - 1) (by omega)
 have wk2 := zdz (t.h - 1) (by omega)
 have wk3 : IntKind.i64.wrap (t.w * t.h) = t.w * t.h := zdz _ (by
  have : t.w * t.h <= 4096 * 4096 := Int.mul_le_mul hw.2 hh.2 hh.1 (by decide)
  have : 0 <= t.w * t.h := Int.mul_nonneg hw.1 hh.1
  omega)
 obtain ⟨L, B0⟩ := h.bk
 have k3 := B0.c 3 _ rfl
 have kf3 := B0.f 3
 have k4 := B0.c 4 _ rfl
 have kf4 := B0.f 4
 have k5 := B0.c 5 _ rfl
 have kf5 := B0.f 5
 have k6 := B0.c 6 _ rfl
 have kf6 := B0.f 6
 have k7 := B0.c 7 _ rfl
 have kf7 := B0.f 7
 have k8 := B0.c 8 _ rfl
 have kf8 := B0.f 8
 have k10 := B0.c 10 _ rfl
 have kf10 := B0.f 10
 have k11 := B0.c 11 _ rfl
 have kf11 := B0.f 11
 have k12 := B0.c 12 _ rfl
 have kf12 := B0.f 12
 have k13 := B0.c 13 _ rfl
 have kf13 := B0.f 13
 have k14 := B0.c 14 _ rfl
 have kf14 := B0.f 14
 have k15 := B0.c 15 _ rfl
 have kf15 := B0.f 15
 have HH := zdy (h.setCur t.sav)
 clear h B0
 go_enter Tryz.func88, Tryz.ntmps88
 go_upto_region 1 with fail
 obtain ⟨V, hV⟩ : ∃ V, V = ((((((W.setCell ⟨tb, 3, none⟩ (.int .i64 t.sav.x)).setCell ⟨tb, 4, none⟩ (.int .i64 t.sav.y)).setCell ⟨tb, 5, none⟩ (.int .i32 t.sav.st.fg)).setCell ⟨tb, 6, none⟩ (.int .i32 t.sav.st.bg)).setCell ⟨tb, 7, none⟩ (.int .u8 (bI t.sav.st.at_))).setCell ⟨tb, 8, none⟩ (.bool t.sav.org)) := ⟨_, rfl⟩
 rw [<- hV] at HH ⊢
 clear hV k3 k4 k5 k6 k7 k8 k10 k11 k12 k13 k14 k15 kf3 kf4 kf5 kf6 kf7 kf8 kf10 kf11 kf12 kf13 kf14 kf15
 obtain ⟨L1, B1⟩ := HH.out.bk
 dsimp only [trmV, cur6, setX, setY] at B1
 have k0 := fun d os => ((B1).regrown d os).c 0 _ rfl
 have k3 := fun d os => ((B1).regrown d os).c 3 _ rfl
 clear B1
 refine zf 17 (by kernel_rfl) (by kernel_rfl) ?_
 simp only [zdB, zdC, zdD, zdE]
 repeat (quiet_step (fail))
 refine wpQuiet_nil ?_
 intro _ hw'
 obtain ⟨⟨dq, osq⟩, hw''⟩ := hw'
 subst hw''
 have H1 := zdy (HH.out.below (below_regrown V dq osq))
 clear k0 k3 HH
 generalize grow (redrawn V dq) osq = W1 at *
 obtain ⟨L1, B1⟩ := H1.out.bk
 dsimp only [trmV, cur6, setX, setY] at B1
 have k3 := B1.c 3 _ rfl
 have kf3 := B1.f 3
 clear B1
 go_upto_region 2 with fail
 have H2 := zdy (H1.out.setX (max 0 (min t.sav.x (t.w - 1))))
 obtain ⟨V2, hV⟩ : ∃ V2, V2 = W1.setCell ⟨tb, 3, none⟩ (.int .i64 (max 0 (min t.sav.x (t.w - 1)))) := ⟨_, rfl⟩
 rw [<- hV] at H2 ⊢
 clear hV k3 kf3 H1
 obtain ⟨L1, B1⟩ := H2.out.bk
 dsimp only [trmV, cur6, setX, setY] at B1
 have k1 := fun d os => ((B1).regrown d os).c 1 _ rfl
 have k4 := fun d os => ((B1).regrown d os).c 4 _ rfl
 clear B1
 refine zf 17 (by kernel_rfl) (by kernel_rfl) ?_
 simp only [zdB, zdC, zdD, zdE]
 repeat (quiet_step (fail))
 refine wpQuiet_nil ?_
 intro _ hw'
 obtain ⟨⟨dq, osq⟩, hw''⟩ := hw'
 subst hw''
 have H3 := zdy (H2.out.below (below_regrown V2 dq osq))
 clear k1 k4 H2
 generalize grow (redrawn V2 dq) osq = W2 at *
 obtain ⟨L1, B1⟩ := H3.out.bk
 dsimp only [trmV, cur6, setX, setY] at B1
 have k4 := B1.c 4 _ rfl
 have kf4 := B1.f 4
 clear B1
 go_upto_region 3 with fail
 have H4 := zdy (H3.out.setY (max 0 (min t.sav.y (t.h - 1))))
 obtain ⟨V3, hV⟩ : ∃ V3, V3 = W2.setCell ⟨tb, 4, none⟩ (.int .i64 (max 0 (min t.sav.y (t.h - 1)))) := ⟨_, rfl⟩
 rw [<- hV] at H4 ⊢
 clear hV k4 kf4 H3
 obtain ⟨L1, B1⟩ := H4.out.bk
 dsimp only [trmV, cur6, setX, setY] at B1
 have k0 := B1.c 0 _ rfl
 have kf0 := B1.f 0
 have k1 := B1.c 1 _ rfl
 have kf1 := B1.f 1
 have k3 := B1.c 3 _ rfl
 have kf3 := B1.f 3
 have k4 := B1.c 4 _ rfl
 have kf4 := B1.f 4
 have k16 := B1.c 16 _ rfl
 have kf16 := B1.f 16
 clear B1
 by_cases c : t.w * t.h = 0
 ·have H5 := zdy (((H4.out.setX 0).setY 0).setPend false)
  go_region
  go_wp2_with fail
  go_end0
  refine ⟨⟨_, rfl⟩, ?_⟩
  rw [Kb, if_pos c, if_pos c]
  exact H5.out.below (Below.refl _ _).drew
 ·have H5 := zdy (H4.out.setPend false)
  go_region
  go_wp2_with fail
  go_end0
  refine ⟨⟨_, rfl⟩, ?_⟩
  rw [Kb, if_neg c, if_neg c]
  exact H5.out.below (Below.refl _ _).drew
theorem NumAt.set {n : Nums} {A : Option Addr} {c i : Nat} {y : Value} {vs : List Value} (h : NumAt W n A c) (B : Bk W tb vs 104) : NumAt (W.setCell ⟨tb, i, none⟩ y) n A c := h.keep (by simp) (fun a e => by
 obtain ⟨arr, fl, hg⟩ := h.ty a e
 exact heap_setCell_other W ⟨tb, i, none⟩ a.block y (B.ne hg (by decide)))
theorem Zh {n : Nums} {A : Option Addr} {c : Nat} (h : NumAt W n A c) (i : Nat) : ∀ W', Below W.heap.size W W' -> Calls Tryz.prog 140 #[.agg #[.int .u8 n.prefix_, .slice A n.list.length c, .bool n.void], .int .i64 i] W' fun e w' => e = .returned (.int .i64 (n.count i)) /\ Below W'.heap.size W' w' := fun W' hb => je n A c i W' (h.below hb)
set_option maxHeartbeats 4000000 in
set_option maxRecDepth 100000 in
theorem t_row (h : St w0 F0 tb t W) (n : Nums) (A : Option Addr) (c : Nat) (hn : NumAt W n A c) (hh : 0 <= t.h /\ t.h <= 4096) (ht : 0 <= t.top /\ t.top <= 4096) : Calls Tryz.prog 127 #[.pointer (some ⟨tb, 0, none⟩), numV n A c] W (Vd w0 F0 tb (rowT t (n.count 0))) := by
 obtain ⟨Q, hQ⟩ : ∃ Q, Q = W.alloc (.cells [.int .u8 n.prefix_, .slice A n.list.length c, .bool n.void].toArray 129) := ⟨_, rfl⟩
 have BQ : Below W.heap.size W Q := by rw [hQ]; exact (Below.refl _ W).alloc zdA _
 have KQ : Bk Q W.heap.size [.int .u8 n.prefix_, .slice A n.list.length c, .bool n.void] 129 := by rw [hQ]; exact Bk.new W _ _
 have HQ := zdy (h.below BQ)
 have HN := zdy (hn.below BQ)
 have CT := zdy (Zh HN.out 0)
 have HK := zdy KQ
 have NE : tb ≠ W.heap.size := by have := h.lt; omega
 obtain ⟨z0, z1⟩ := qQ hn 0
 have w1 := zdz (min (n.count 0) t.h - 1) (by omega)
 have w2 := zdz (t.top + n.count 0) (by omega)
 have w3 := zdz (t.top + n.count 0 - 1) (by omega)
 obtain ⟨L1, B1⟩ := HQ.out.bk
 dsimp only [trmV] at B1
 have k1 := fun d os => ((B1).regrown d os).c 1 _ rfl
 have j0 := fun d os => ((KQ).regrown d os).c 0 _ rfl
 have j1 := fun d os => ((KQ).regrown d os).c 1 _ rfl
 have j2 := fun d os => ((KQ).regrown d os).c 2 _ rfl
 unfold numV
 clear KQ BQ hn h B1
 go_enter Tryz.func127, Tryz.ntmps127
 go_upto_region 1 with fail
 rw [<- hQ]
 clear hQ
 refine zf 13 (by kernel_rfl) (by kernel_rfl) ?_
 simp only [zdB, zdC, zdD, zdE]
 repeat (quiet_step (exact qa CT.out _ _))
 refine wpQuiet_nil ?_
 intro _ hw'
 obtain ⟨⟨dq, osq⟩, hw''⟩ := hw'
 subst hw''
 have H1 := zdy (HQ.out.below (below_regrown Q dq osq))
 have HN := zdy (HN.out.below (below_regrown Q dq osq))
 have HK := zdy (HK.out.regrown dq osq)
 clear k1 j0 j1 j2 CT HQ
 generalize grow (redrawn Q dq) osq = W1 at *
 obtain ⟨L1, B1⟩ := H1.out.bk
 have HN := zdy (HN.out.set (i := 4) (y := .int .i64 (min (n.count 0) t.h - 1)) B1)
 dsimp only [trmV] at B1
 have k4 := B1.c 4 _ rfl
 have kf4 := B1.f 4
 clear B1
 go_upto_region 2 with fail
 have H2 := zdy (H1.out.setY (min (n.count 0) t.h - 1))
 have HK := zdy (HK.out.of_eq (heap_setCell_other W1 ⟨tb, 4, none⟩ W.heap.size (.int .i64 (min (n.count 0) t.h - 1)) (fun e => NE e.symm)))
 obtain ⟨V2, hV⟩ : ∃ V2, V2 = W1.setCell ⟨tb, 4, none⟩ (.int .i64 (min (n.count 0) t.h - 1)) := ⟨_, rfl⟩
 rw [<- hV] at H2 HN HK ⊢
 clear hV k4 kf4 H1
 have CT := zdy (Zh HN.out 0)
 obtain ⟨L1, B1⟩ := H2.out.bk
 dsimp only [trmV, setY] at B1
 have i8 := B1.c 8 _ rfl
 have if8 := B1.f 8
 have k21 := fun d os => ((B1).regrown d os).c 21 _ rfl
 have k22 := fun d os => ((B1).regrown d os).c 22 _ rfl
 have j0 := fun d os => ((HK.out).regrown d os).c 0 _ rfl
 have j1 := fun d os => ((HK.out).regrown d os).c 1 _ rfl
 have j2 := fun d os => ((HK.out).regrown d os).c 2 _ rfl
 clear B1
 cases e : t.cur.org with
 | false =>
  rw [e] at i8
  go_wp2_with fail
  go_end0
  exact ⟨⟨_, rfl⟩, by unfold rowT; rw [e]; exact H2.out⟩
 | true =>
  rw [e] at i8
  go_upto_region 3 with fail
  clear i8 if8
  refine zf 17 (by kernel_rfl) (by kernel_rfl) ?_
  simp only [zdB, zdC, zdD, zdE]
  repeat (quiet_step (exact qa CT.out _ _))
  refine wpQuiet_nil ?_
  intro _ hw'
  obtain ⟨⟨dq, osq⟩, hw''⟩ := hw'
  subst hw''
  have H3 := zdy (H2.out.below (below_regrown V2 dq osq))
  clear k21 k22 j0 j1 j2 CT H2 HN HK
  generalize grow (redrawn V2 dq) osq = W3 at *
  obtain ⟨L1, B1⟩ := H3.out.bk
  dsimp only [trmV, setY] at B1
  have k4 := B1.c 4 _ rfl
  have kf4 := B1.f 4
  clear B1
  go_wp2_with fail
  go_end0
  exact ⟨⟨_, rfl⟩, by unfold rowT; rw [e]; exact H3.out.setY _⟩
theorem St.from (h : St w0 F0 tb t W) : ∃ L, L.b = tb /\ TrmAt W L t /\ St W L.fp tb t W /\ ∀ t' W', St W L.fp tb t' W' -> St w0 F0 tb t' W' := by
 obtain ⟨L, e, T, hf⟩ := h.lay
 have nv : ∀ b ∈ L.fp, NotV b := fun b hb => by
  rcases hf b hb with m | m
  ·exact h.ng b m
  ·have a := block_lt_of_cell (h.g0.st.on 0 (by decide))
   have c := block_lt_of_cell (h.g0.st.off 0 (by decide))
   have d := h.g0.pg
   simp only at a c
   exact ⟨by omega, by omega, by omega⟩
 refine ⟨L, e, T, ⟨h.env, Mv.refl _ _, nv, L, e, T, fun b hb => Or.inl hb⟩, fun t' W' k => ?_⟩
 obtain ⟨L', e', T', hf'⟩ := k.lay
 refine ⟨h.g0, h.mv.trans k.mv hf, h.ng, L', e', T', fun b hb => ?_⟩
 rcases hf' b hb with m | m
 ·exact hf b m
 ·exact Or.inr (Nat.le_trans h.mv.size m)
theorem TrmAt.notNum {L : Lay} (T : TrmAt W L t) {g : Nat} {vs : List Value} (hg : Bk W g vs 129) : g ∉ L.fp := by
 intro m
 have no : ∀ {cur : Array Value} {T' : TypeId} {f2 : Nat × Nat}, W.heap[g]? = some (.cells cur T' f2) -> T' ≠ 129 -> False := fun k ne => hg.ne k ne rfl
 rcases Lay.mem.1 m with rfl | rfl | m | m | m | m | m | m | m
 ·have := T.own; unfold Bk at this; exact no this (by decide)
 ·obtain ⟨_, k⟩ := T.utf.kind; unfold Bk at k; exact no k (by decide)
 ·obtain ⟨_, k⟩ := T.c.kind g m; exact no k (by decide)
 ·obtain ⟨_, k⟩ := T.a.kind g m; exact no k (by decide)
 ·obtain ⟨_, k⟩ := T.s.kind g m; exact no k (by decide)
 ·obtain ⟨_, k⟩ := T.w.kind g m; exact no k (by decide)
 ·obtain ⟨_, k⟩ := T.r.kind g m; exact no k (by decide)
 ·obtain ⟨_, k⟩ := T.h.kind g m; exact no k (by decide)
 ·obtain ⟨_, k⟩ := T.k.kind g m; exact no k (by decide)
set_option maxHeartbeats 4000000 in
set_option maxRecDepth 100000 in
theorem Kc (h : St w0 F0 tb t W) (n : Nums) (A : Option Addr) (c : Nat) (hn : NumAt W n A c) (hw : 0 <= t.w /\ t.w <= 4096) (hh : 0 <= t.h /\ t.h <= 4096) (ht : 0 <= t.top /\ t.top <= 4096) : Calls Tryz.prog 115 #[.pointer (some ⟨tb, 0, none⟩), numV n A c] W (Vd w0 F0 tb (kx (rowT t (n.count 0)) (n.count 1))) := by
 obtain ⟨Q, hQ⟩ : ∃ Q, Q = W.alloc (.cells [.int .u8 n.prefix_, .slice A n.list.length c, .bool n.void].toArray 129) := ⟨_, rfl⟩
 have BQ : Below W.heap.size W Q := by rw [hQ]; exact (Below.refl _ W).alloc zdA _
 have KQ : Bk Q W.heap.size [.int .u8 n.prefix_, .slice A n.list.length c, .bool n.void] 129 := by rw [hQ]; exact Bk.new W _ _
 have HN := zdy (hn.below BQ)
 have HK := zdy KQ
 obtain ⟨L, eb, T, S0, up⟩ := (h.below BQ).from
 have CT := zdy (t_row S0 n A c HN.out hh ht)
 have TH := zdy T
 have UP := zdy up
 obtain ⟨z0, z1⟩ := qQ hn 1
 have w1 := zdz (min (n.count 1) t.w - 1) (by omega)
 have j0 := KQ.c 0 _ rfl
 have jf0 := KQ.f 0
 have j1 := KQ.c 1 _ rfl
 have jf1 := KQ.f 1
 have j2 := KQ.c 2 _ rfl
 have jf2 := KQ.f 2
 unfold numV at CT ⊢
 clear KQ BQ hn h T up S0
 go_enter Tryz.func115, Tryz.ntmps115
 go_upto_region 1 with fail
 rw [<- hQ]
 clear hQ
 go_wp2_with fail
 refine CT.out.mono ?_; rintro e w1 ⟨⟨v, rfl⟩, h1⟩
 have HN := zdy (HN.out.mv TH.out h1.mv)
 have HK := zdy (HK.out.of_eq (h1.mv.blk _ HK.out.lt (TH.out.notNum HK.out)))
 have H1 : Hid (St w0 F0 tb (rowT t (n.count 0)) w1) := zdy (UP.out _ _ h1)
 clear h1 CT j0 j1 j2 jf0 jf1 jf2 TH UP
 have CT := zdy (Zh HN.out 1)
 obtain ⟨L1, B1⟩ := H1.out.bk
 have ew : (rowT t (n.count 0)).w = t.w := by unfold rowT; rfl
 dsimp only [trmV] at B1
 rw [ew] at B1
 have k0 := fun d os => ((B1).regrown d os).c 0 _ rfl
 have j0 := fun d os => ((HK.out).regrown d os).c 0 _ rfl
 have j1 := fun d os => ((HK.out).regrown d os).c 1 _ rfl
 have j2 := fun d os => ((HK.out).regrown d os).c 2 _ rfl
 clear B1
 go_upto_region 2 with fail
 refine zf 13 (by kernel_rfl) (by kernel_rfl) ?_
 simp only [zdB, zdC, zdD, zdE]
 repeat (quiet_step (exact qa CT.out _ _))
 refine wpQuiet_nil ?_
 intro _ hw'
 obtain ⟨⟨dq, osq⟩, hw''⟩ := hw'
 subst hw''
 have H3 := zdy (H1.out.below (below_regrown w1 dq osq))
 clear k0 j0 j1 j2 CT H1 HN HK
 generalize grow (redrawn w1 dq) osq = W3 at *
 obtain ⟨L1, B1⟩ := H3.out.bk
 have k3 := B1.c 3 _ rfl
 have kf3 := B1.f 3
 clear B1
 go_wp2_with fail
 go_end0
 exact ⟨⟨_, rfl⟩, by unfold kx; rw [ew]; exact H3.out.setX _⟩
end
end
section
open Go Go.RowKit Go.Sort
section
variable {w0 : World} {F0 : List Nat} {tb : Nat} {t t' : Trm} {W W' : World} {L : Lay}
theorem RowAt.slice {T : TypeId} {sz n : Nat} {v : Value} {xs : List Value} (h : RowAt W T sz v n xs) (hn : 0 < n) : ∃ g cap, v = .slice (some ⟨g, 0, none⟩) n cap /\ ob v = [g] /\ W.ownsRow 0 T sz (.slice (some ⟨g, 0, none⟩) n cap) n xs /\ n <= cap := by
 rcases h with ⟨h, _⟩ | ⟨h, ho⟩
 ·omega
 ·rcases h.2 with ⟨_, e⟩ | ⟨g, cap, cur, rfl, hb, hg, hc, rest⟩
  ·omega
  ·obtain ⟨c', rfl⟩ : ∃ c', cap = c' + 1 := ⟨cap - 1, by omega⟩
   exact ⟨g, c' + 1, rfl, rfl, h, hc⟩
theorem RowAt.of_own {T : TypeId} {sz n g cap : Nat} {xs : List Value} (h : W.ownsRow 0 T sz (.slice (some ⟨g, 0, none⟩) n cap) n xs) (hc : 0 < cap) : RowAt W T sz (.slice (some ⟨g, 0, none⟩) n cap) n xs := by
 obtain ⟨c', rfl⟩ : ∃ c', cap = c' + 1 := ⟨cap - 1, by omega⟩
 exact Or.inr ⟨h, by unfold ob; simp⟩
theorem Kd : ∀ (l : List Cel) (i : Nat) (c : Cel), zd (l.set i c) = (((((zd l).set (i * 5) (.string c.text)).set (i * 5 + 1) (.int .i8 c.wide)).set (i * 5 + 2) (.int .i32 c.st.fg)).set (i * 5 + 3) (.int .i32 c.st.bg)).set (i * 5 + 4) (.int .u8 (bI c.st.at_))
 | [], i, c => by simp [zd]
 | a :: r, 0, c => by
  show zd (c :: r) = _
  rw [jw, jw]
  simp [celV]
 | a :: r, i + 1, c => by
  show zd (a :: r.set i c) = _
  rw [jw, jw, Kd r i c]
  rw [show (i + 1) * 5 = i * 5 + 5 by omega]
  simp [celV]
theorem QM (l : List Bool) (i : Nat) (b : Bool) : zy (l.set i b) = (zy l).set i (.bool b) := by
 unfold zy
 rw [List.map_set]
theorem TrmAt.newC (T : TrmAt W L t) (k : ∀ j, j ∉ ob L.c -> W'.heap[j]? = W.heap[j]?) (e : trmV t' L = trmV t L) (hc : RowAt W' 79 5 L.c t'.cells.length (zd t'.cells)) (e2 : t'.away = t.away) (e3 : t'.stops = t.stops) (e4 : t'.wrt = t.wrt) (e5 : t'.reps = t.reps) (e6 : t'.held = t.held) (e7 : t'.kept = t.kept) : TrmAt W' L t' := by
 have far : ∀ {g : Nat} {cur : Array Value} {T' : TypeId} {fl : Nat × Nat}, W.heap[g]? = some (.cells cur T' fl) -> T' ≠ 79 -> W'.heap[g]? = W.heap[g]? := fun {g} {cur} {T'} {fl} hg ne => k g (fun m => by
  obtain ⟨_, hq⟩ := T.c.kind g m
  rw [hg] at hq
  cases hq
  exact ne rfl)
 refine ⟨?_, ?_, hc, ?_, ?_, ?_, ?_, ?_, ?_, T.ca, T.sw, T.rh, T.rk, T.hk⟩
 ·rw [e]; have := T.own; unfold Bk at this; exact T.own.of_eq (far this (by decide))
 ·rw [e7]; obtain ⟨_, q⟩ := T.utf.kind; unfold Bk at q; exact T.utf.keep (far q (by decide))
 ·rw [e2]; exact T.a.keep (fun g m => k g (fun m2 => T.ca g m2 m))
 ·rw [e3]; exact T.s.keep (fun g m => by obtain ⟨cur, q⟩ := T.s.kind g m; exact far q (by decide))
 ·rw [e4]; exact T.w.keep (fun g m => by obtain ⟨cur, q⟩ := T.w.kind g m; exact far q (by decide))
 ·rw [e5]; exact T.r.keep (fun g m => by obtain ⟨cur, q⟩ := T.r.kind g m; exact far q (by decide))
 ·rw [e6]; exact T.h.keep (fun g m => by obtain ⟨cur, q⟩ := T.h.kind g m; exact far q (by decide))
 ·rw [e7]; exact T.k.keep (fun g m => by obtain ⟨cur, q⟩ := T.k.kind g m; exact far q (by decide))
theorem TrmAt.newW (T : TrmAt W L t) (k : ∀ j, j ∉ ob L.w -> W'.heap[j]? = W.heap[j]?) (e : trmV t' L = trmV t L) (hc : RowAt W' 4 1 L.w t'.wrt.length (zy t'.wrt)) (e1 : t'.cells = t.cells) (e2 : t'.away = t.away) (e3 : t'.stops = t.stops) (e5 : t'.reps = t.reps) (e6 : t'.held = t.held) (e7 : t'.kept = t.kept) : TrmAt W' L t' := by
 have far : ∀ {g : Nat} {cur : Array Value} {T' : TypeId} {fl : Nat × Nat}, W.heap[g]? = some (.cells cur T' fl) -> T' ≠ 4 -> W'.heap[g]? = W.heap[g]? := fun {g} {cur} {T'} {fl} hg ne => k g (fun m => by
  obtain ⟨_, hq⟩ := T.w.kind g m
  rw [hg] at hq
  cases hq
  exact ne rfl)
 refine ⟨?_, ?_, ?_, ?_, ?_, hc, ?_, ?_, ?_, T.ca, T.sw, T.rh, T.rk, T.hk⟩
 ·rw [e]; have := T.own; unfold Bk at this; exact T.own.of_eq (far this (by decide))
 ·rw [e7]; obtain ⟨_, q⟩ := T.utf.kind; unfold Bk at q; exact T.utf.keep (far q (by decide))
 ·rw [e1]; exact T.c.keep (fun g m => by obtain ⟨cur, q⟩ := T.c.kind g m; exact far q (by decide))
 ·rw [e2]; exact T.a.keep (fun g m => by obtain ⟨cur, q⟩ := T.a.kind g m; exact far q (by decide))
 ·rw [e3]; exact T.s.keep (fun g m => k g (fun m2 => T.sw g m m2))
 ·rw [e5]; exact T.r.keep (fun g m => by obtain ⟨cur, q⟩ := T.r.kind g m; exact far q (by decide))
 ·rw [e6]; exact T.h.keep (fun g m => by obtain ⟨cur, q⟩ := T.h.kind g m; exact far q (by decide))
 ·rw [e7]; exact T.k.keep (fun g m => by obtain ⟨cur, q⟩ := T.k.kind g m; exact far q (by decide))
def put5 (W : World) (g i : Nat) (c : Cel) : World := ((((W.setCell ⟨g, i * 5, none⟩ (.string c.text)).setCell ⟨g, i * 5 + 1, none⟩ (.int .i8 c.wide)).setCell ⟨g, i * 5 + 2, none⟩ (.int .i32 c.st.fg)).setCell ⟨g, i * 5 + 3, none⟩ (.int .i32 c.st.bg)).setCell ⟨g, i * 5 + 4, none⟩ (.int .u8 (bI c.st.at_))
theorem Ke (W : World) (g i : Nat) (c : Cel) (k : Nat) (h : k ≠ g) : (put5 W g i c).heap[k]? = W.heap[k]? := by
 unfold put5
 repeat rw [heap_setCell_other _ _ k _ h]
theorem put5_mv {F : List Nat} (W : World) (g i : Nat) (c : Cel) (h : g ∈ F) : Mv F W (put5 W g i c) := by
 have s : ∀ {X : World} (j : Nat) (v : Value), Mv F W X -> Mv F W (X.setCell ⟨g, j, none⟩ v) := fun j v m => m.trans (Mv.set _ h) (fun b hb => Or.inl hb)
 exact s _ _ (s _ _ (s _ _ (s _ _ (s _ _ (Mv.refl F W)))))
theorem Kf {n cap g i : Nat} {l : List Cel} (c : Cel) (h : W.ownsRow 0 79 5 (.slice (some ⟨g, 0, none⟩) n cap) n (zd l)) : (put5 W g i c).ownsRow 0 79 5 (.slice (some ⟨g, 0, none⟩) n cap) n (zd (l.set i c)) := by
 rw [Kd]
 unfold put5
 exact ((((h.stored _ _).1.stored _ _).1.stored _ _).1.stored _ _).1.stored _ _ |>.1
theorem St.rowC (h : St w0 F0 tb t W) (hn : 0 < t.cells.length) : ∃ L g cap, Bk W tb (trmV t L) 104 /\ L.c = .slice (some ⟨g, 0, none⟩) t.cells.length cap /\ t.cells.length <= cap /\ W.ownsRow 0 79 5 (.slice (some ⟨g, 0, none⟩) t.cells.length cap) t.cells.length (zd t.cells) /\
  ∀ i c, St w0 F0 tb { t with cells := t.cells.set i c } (put5 W g i c) := by
 obtain ⟨L, e, T, hf⟩ := h.lay
 obtain ⟨g, cap, ec, eo, ho, hc⟩ := T.c.slice hn
 refine ⟨L, g, cap, e ▸ T.own, ec, hc, ho, fun i c => ?_⟩
 have gm : g ∈ L.fp := Lay.mem.2 (by rw [eo]; simp)
 refine ⟨h.g0, h.mv.trans (put5_mv (F := [g]) W g i c (by simp)) (by intro b hb; rw [List.mem_singleton.1 hb]; exact hf _ gm), h.ng, L, e, ?_, hf⟩
 refine T.newC (fun j hj => Ke W g i c j (fun z => hj (by rw [eo, z]; simp))) rfl ?_ rfl rfl rfl rfl rfl rfl
 have := Kf (i := i) c ho
 show RowAt _ _ 5 L.c (t.cells.set i c).length (zd (t.cells.set i c))
 rw [ec, List.length_set]
 exact RowAt.of_own this (by omega)
theorem St.rowW (h : St w0 F0 tb t W) (hn : 0 < t.wrt.length) : ∃ L g cap, Bk W tb (trmV t L) 104 /\ L.w = .slice (some ⟨g, 0, none⟩) t.wrt.length cap /\ t.wrt.length <= cap /\ W.ownsRow 0 4 1 (.slice (some ⟨g, 0, none⟩) t.wrt.length cap) t.wrt.length (zy t.wrt) /\
  ∀ i b, St w0 F0 tb { t with wrt := t.wrt.set i b } (W.setCell ⟨g, i, none⟩ (.bool b)) := by
 obtain ⟨L, e, T, hf⟩ := h.lay
 obtain ⟨g, cap, ec, eo, ho, hc⟩ := T.w.slice hn
 refine ⟨L, g, cap, e ▸ T.own, ec, hc, ho, fun i b => ?_⟩
 have gm : g ∈ L.fp := Lay.mem.2 (by rw [eo]; simp)
 refine ⟨h.g0, h.mv.trans (Mv.set (F := [g]) W (by simp)) (by intro b hb; rw [List.mem_singleton.1 hb]; exact hf _ gm), h.ng, L, e, ?_, hf⟩
 refine T.newW (fun j hj => heap_setCell_other W ⟨g, i, none⟩ j _ (fun z => hj (by rw [eo, z]; simp))) rfl ?_ rfl rfl rfl rfl rfl rfl
 have := (ho.stored i (.bool b)).1
 show RowAt _ _ 1 L.w (t.wrt.set i b).length (zy (t.wrt.set i b))
 rw [ec, List.length_set, QM]
 exact RowAt.of_own this (by omega)
end
end
section
open Go Go.RowKit Go.Sort
section
variable {w0 : World} {F0 : List Nat} {tb : Nat} {t t' : Trm} {W W' : World}
def Vp (w0 : World) (F0 : List Nat) (tb : Nat) (t : Trm) (v : Value) (e : Ending) (w' : World) : Prop := Vd w0 F0 tb t e w' /\ w'.cell? ⟨tb, 2, none⟩ = some v
theorem xI {T : TypeId} {sz n g cap : Nat} {xs : List Value} (h : W.ownsRow 0 T sz (.slice (some ⟨g, 0, none⟩) n cap) n xs) : ∃ cur, W.heap[g]? = some (.cells cur T (0, 0)) := by
 rcases h.2 with ⟨e, _⟩ | ⟨g', cap', cur, e, _, hg, _⟩
 ·cases e
 ·cases e; exact ⟨cur, hg⟩
theorem zb9 {b g i j : Nat} {c : Cel} (n : b ≠ g) : (put5 W g i c).cell? ⟨b, j, none⟩ = W.cell? ⟨b, j, none⟩ := World.cell?_of_block (Ke W g i c b n)
theorem set_far {b g i j : Nat} {v : Value} (n : b ≠ g) : (W.setCell ⟨g, i, none⟩ v).cell? ⟨b, j, none⟩ = W.cell? ⟨b, j, none⟩ := World.cell?_of_block (heap_setCell_other W ⟨g, i, none⟩ b v n)
set_option maxHeartbeats 4000000 in
set_option maxRecDepth 100000 in
theorem t_putP (h : St w0 F0 tb t W) (i : Nat) (c : Cel) (hi : i < t.cells.length) (hl : t.cells.length <= 1048576) (hw : t.wrt.length = t.cells.length) (vp : Value) (hvp : W.cell? ⟨tb, 2, none⟩ = some vp) : Calls Tryz.prog 133 #[.pointer (some ⟨tb, 0, none⟩), .int .i64 i, .agg (celV c).toArray] W (Vp w0 F0 tb (putT t i c) vp) := by
 obtain ⟨Q, hQ⟩ : ∃ Q, Q = W.alloc (.cells (celV c).toArray 79) := ⟨_, rfl⟩
 have BQ : Below W.heap.size W Q := by rw [hQ]; exact (Below.refl _ W).alloc zdA _
 have KQ : Bk Q W.heap.size (celV c) 79 := by rw [hQ]; exact Bk.new W _ _
 have HQ := zdy (h.below BQ)
 have VP := zdy ((BQ.cell (p := ⟨tb, 2, none⟩) h.lt).trans hvp)
 clear hvp
 obtain ⟨L, g, cap, B, ec, hc, ho, up0⟩ := HQ.out.rowC (by omega)
 clear up0
 have k2 : ∀ d os, (grow (redrawn Q d) os).cell? ⟨tb, 2, none⟩ = some (.slice (some ⟨g, 0, none⟩) t.cells.length cap) := fun d os => by rw [<- ec]; exact (B.regrown d os).c 2 _ rfl
 unfold celV at hQ KQ ⊢
 have j0 := fun d os => ((KQ).regrown d os).c 0 _ rfl
 have j1 := fun d os => ((KQ).regrown d os).c 1 _ rfl
 have j2 := fun d os => ((KQ).regrown d os).c 2 _ rfl
 have j3 := fun d os => ((KQ).regrown d os).c 3 _ rfl
 have j4 := fun d os => ((KQ).regrown d os).c 4 _ rfl
 have K2 := zdy k2
 have HI := zdy hi
 clear KQ BQ h B ho
 go_enter Tryz.func133, Tryz.ntmps133
 go_upto_region 1 with fail
 rw [<- hQ]
 clear hQ
 refine zf 8 (by kernel_rfl) (by kernel_rfl) ?_
 simp only [zdB, zdC, zdD, zdE]
 repeat (first | go_big_quiet_step (fail) | quiet_step (fail))
 refine wpQuiet_nil ?_
 intro _ hw'
 obtain ⟨⟨dq, osq⟩, hw''⟩ := hw'
 subst hw''
 have H1 := HQ.out.below (below_regrown Q dq osq)
 have VP := zdy (((below_regrown Q dq osq).cell (p := ⟨tb, 2, none⟩) HQ.out.lt).trans VP.out)
 have k2 := K2.out dq osq
 clear K2 j0 j1 j2 j3 j4 HQ
 generalize grow (redrawn Q dq) osq = W1 at *
 obtain ⟨L1, g1, cap1, B1, ec1, hc1, ho1, up⟩ := H1.rowC (by omega)
 have k3 := B1.c 2 _ rfl
 rw [k2, ec1] at k3
 cases k3
 have H2 := zdy (up i c)
 obtain ⟨cu1, hg1⟩ := xI ho1
 have ne1 := B1.ne hg1 (by decide)
 have VP := zdy ((zb9 (i := i) (c := c) (j := 2) (fun z => ne1 z.symm)).trans VP.out)
 clear hg1 ne1
 have xl : (zd t.cells).length = t.cells.length * 5 := jF _
 obtain ⟨v0, z0⟩ : ∃ v, (zd t.cells)[i * 5]? = some v := ⟨_, List.getElem?_eq_getElem (by omega)⟩
 obtain ⟨v1, z1⟩ : ∃ v, (zd t.cells)[i * 5 + 1]? = some v := ⟨_, List.getElem?_eq_getElem (by omega)⟩
 obtain ⟨v2, z2⟩ : ∃ v, (zd t.cells)[i * 5 + 2]? = some v := ⟨_, List.getElem?_eq_getElem (by omega)⟩
 obtain ⟨v3, z3⟩ : ∃ v, (zd t.cells)[i * 5 + 3]? = some v := ⟨_, List.getElem?_eq_getElem (by omega)⟩
 obtain ⟨v4, z4⟩ : ∃ v, (zd t.cells)[i * 5 + 4]? = some v := ⟨_, List.getElem?_eq_getElem (by omega)⟩
 have y0 := (ho1.cellAt (i * 5) (by omega)).trans z0
 have y1 := (ho1.cellAt (i * 5 + 1) (by omega)).trans z1
 have y2 := (ho1.cellAt (i * 5 + 2) (by omega)).trans z2
 have y3 := (ho1.cellAt (i * 5 + 3) (by omega)).trans z3
 have y4 := (ho1.cellAt (i * 5 + 4) (by omega)).trans z4
 have p0 := ho1.frozenAt (i * 5)
 have p1 := ho1.frozenAt (i * 5 + 1)
 have p2 := ho1.frozenAt (i * 5 + 2)
 have p3 := ho1.frozenAt (i * 5 + 3)
 have p4 := ho1.frozenAt (i * 5 + 4)
 clear ho1 up H1 B1 z0 z1 z2 z3 z4
 go_upto_region 2 with fail
 obtain ⟨V, hV⟩ : ∃ V, V = put5 W1 g i c := ⟨_, rfl⟩
 rw [<- hV] at H2 VP
 unfold put5 at hV
 rw [<- hV]
 clear hV y0 y1 y2 y3 y4 p0 p1 p2 p3 p4 k2
 obtain ⟨L2, g2, cap2, B2, ec2, hc2, ho2, up⟩ := H2.out.rowW (by show 0 < t.wrt.length; omega)
 have H3 := zdy (up i true)
 obtain ⟨cu2, hg2⟩ := xI ho2
 have ne2 := B2.ne hg2 (by decide)
 have VP := zdy ((set_far (i := i) (v := .bool true) (j := 2) (fun z => ne2 z.symm)).trans VP.out)
 clear hg2 ne2
 have i27 := B2.c 27 _ rfl
 rw [ec2] at i27
 obtain ⟨v5, z5⟩ : ∃ v, (zy t.wrt)[i]? = some v := ⟨_, List.getElem?_eq_getElem (by unfold zy; rw [List.length_map]; omega)⟩
 have y5 := (ho2.cellAt i (by show i < t.wrt.length * 1; omega)).trans z5
 have p5 := ho2.frozenAt i
 dsimp only at i27 hc2
 rw [hw] at i27 hc2
 clear ho2 up B2 z5 H2 ec2
 go_wp2_with fail
 go_end0
 exact ⟨⟨⟨_, rfl⟩, H3.out⟩, VP.out⟩
theorem t_put (h : St w0 F0 tb t W) (i : Nat) (c : Cel) (hi : i < t.cells.length) (hl : t.cells.length <= 1048576) (hw : t.wrt.length = t.cells.length) : Calls Tryz.prog 133 #[.pointer (some ⟨tb, 0, none⟩), .int .i64 i, .agg (celV c).toArray] W (Vd w0 F0 tb (putT t i c)) := by
 obtain ⟨L, B⟩ := h.bk
 exact (t_putP h i c hi hl hw _ (B.c 2 _ rfl)).mono fun _ _ k => k.1
end
end
section
open Go Go.RowKit Go.Sort
section
theorem zca {w h : Int} (a1 : 0 <= w) (a2 : w <= 4096) (a3 : 0 <= h) (a4 : h <= 4096) : zV w h = decide (w * h <= 1048576) := by
 unfold zV
 by_cases c : w * h <= 1048576
 ·rw [decide_eq_true c]; exact decide_eq_true ⟨a1, a2, a3, a4, c⟩
 ·rw [decide_eq_false c]; exact decide_eq_false (fun z => c z.2.2.2.2)
theorem Zi {w h : Int} (a : ¬ (0 <= w /\ w <= 4096 /\ 0 <= h /\ h <= 4096)) : zV w h = false := decide_eq_false (fun z => a ⟨z.1, z.2.1, z.2.2.1, z.2.2.2.1⟩)
set_option maxRecDepth 100000 in
theorem Kg (w h : Int) (W : World) : Calls Tryz.prog 43 #[.agg #[.int .i64 w, .int .i64 h]] W fun e w' => e = .returned (.bool (zV w h)) /\ Below W.heap.size W w' := by
 obtain ⟨Q, hQ⟩ : ∃ Q, Q = W.alloc (.cells #[.int .i64 w, .int .i64 h] 23) := ⟨_, rfl⟩
 have BQ := zdy (show Below W.heap.size W Q by rw [hQ]; exact (Below.refl _ W).alloc zdA _)
 have K : Bk Q W.heap.size [.int .i64 w, .int .i64 h] 23 := by rw [hQ]; exact Bk.new W _ _
 have k0 := K.c 0 _ rfl
 have k1 := K.c 1 _ rfl
 have HQ := zdy hQ
 clear K hQ
 by_cases a1 : 0 <= w
 case neg =>
  have DD : Hid (zV w h = false) := zdy (Zi (fun z => a1 z.1))
  go_enter Tryz.func43, Tryz.ntmps43
  go_upto_region 1 with fail
  rw [<- HQ.out]
  go_wp2_with fail
  go_ret
  exact ⟨by rw [DD.out]; rfl, BQ.out⟩
 by_cases a2 : w <= 4096
 case neg =>
  have DD : Hid (zV w h = false) := zdy (Zi (fun z => a2 z.2.1))
  go_enter Tryz.func43, Tryz.ntmps43
  go_upto_region 1 with fail
  rw [<- HQ.out]
  go_wp2_with fail
  go_ret
  exact ⟨by rw [DD.out]; rfl, BQ.out⟩
 by_cases a3 : 0 <= h
 case neg =>
  have DD : Hid (zV w h = false) := zdy (Zi (fun z => a3 z.2.2.1))
  go_enter Tryz.func43, Tryz.ntmps43
  go_upto_region 1 with fail
  rw [<- HQ.out]
  go_wp2_with fail
  go_ret
  exact ⟨by rw [DD.out]; rfl, BQ.out⟩
 by_cases a4 : h <= 4096
 case neg =>
  have DD : Hid (zV w h = false) := zdy (Zi (fun z => a4 z.2.2.2))
  go_enter Tryz.func43, Tryz.ntmps43
  go_upto_region 1 with fail
  rw [<- HQ.out]
  go_wp2_with fail
  go_ret
  exact ⟨by rw [DD.out]; rfl, BQ.out⟩
 have p0 : 0 <= w * h := Int.mul_nonneg a1 a3
 have p1 : w * h <= 4096 * 4096 := Int.mul_le_mul a2 a4 a3 (by decide)
 have mw := zdz (w * h) (by omega)
 have DD : Hid (zV w h = decide (w * h <= 1048576)) := zdy (zca a1 a2 a3 a4)
 go_enter Tryz.func43, Tryz.ntmps43
 go_upto_region 1 with fail
 rw [<- HQ.out]
 go_wp2_with fail
 go_ret
 exact ⟨by rw [DD.out]; rfl, BQ.out⟩
theorem FrsD.cells {w : World} {B : Nat} {A : Option Addr} {c : Nat} {L : List FA} (h : FrsD w B A c L) (hB : B <= w.heap.size) : ∀ k wr, (hk : k < L.length) -> Below w.heap.size w wr -> ∃ ad, A = some ad /\ wr.cell? (ad.add (k * 2)) = some (.int .i64 (L[k]).at_) /\ wr.cell? ⟨(ad.add (k * 2)).block, (ad.add (k * 2)).off + 1, none⟩ = some (.slice (L[k]).b.A (L[k]).b.bs.length (L[k]).b.c) := fun k wr hk hb => by
 obtain ⟨ad, e, h1, h2, h3⟩ := h.at k hk
 exact ⟨ad, e, (hb.cell (p := ad.add (k * 2)) (by rw [z8]; omega)).trans h2, (hb.cell (p := ⟨(ad.add (k * 2)).block, (ad.add (k * 2)).off + 1, none⟩) (by simp only [z8]; omega)).trans h3⟩
def frms (L : List FA) : List Frm := L.map FA.frm
theorem qx (L : List FA) : (frms L).length = L.length := by unfold frms; rw [List.length_map]
theorem Kh {L : List FA} {k : Nat} (hk : k < L.length) (h : 1048576 < (L[k]).b.bs.length) : qo (frms L) = true := by
 unfold qo frms
 rw [List.any_map, List.any_eq_true]
 exact ⟨L[k], List.getElem_mem hk, decide_eq_true h⟩
theorem Ki {L : List FA} (h : ∀ k, (hk : k < L.length) -> ¬ 1048576 < (L[k]).b.bs.length) : qo (frms L) = false := by
 unfold qo frms
 rw [List.any_map, List.any_eq_false]
 intro x m
 obtain ⟨k, hk, rfl⟩ := List.mem_iff_getElem.1 m
 have := h k hk
 exact fun z => this (of_decide_eq_true z)
set_option maxHeartbeats 4000000 in
set_option maxRecDepth 100000 in
theorem t_many (A : Option Addr) (c : Nat) (L : List FA) (B : Nat) (W : World) (h : FrsD W B A c L) (hB : B <= W.heap.size) : Calls Tryz.prog 61 #[.slice A L.length c] W fun e w' => e = .returned (.bool (qi (frms L))) /\ Below W.heap.size W w' := by
 have CE := zdy (h.cells hB)
 have ub : L.length <= 140737488355328 := by have := h.cap; have := h.sz; omega
 obtain ⟨n, hn⟩ : ∃ n, n = L.length := ⟨_, rfl⟩
 have HN := zdy hn
 have MB : Hid (qi (frms L) = (qo (frms L) || decide (16384 < n))) := zdy (by unfold qi; rw [qx, hn])
 rw [<- hn] at ub ⊢
 clear h hn
 have B0 := zdy (Below.refl W.heap.size W)
 go_enter Tryz.func61, Tryz.ntmps61
 go_wp2_with fail
 go_loopw [7] (fun i wr => ∃ k : Nat, k <= n /\ i = .int .i64 (k : Int) /\ Hid (Below W.heap.size W wr /\ ∀ j, (hj : j < L.length) -> j < k -> ¬ 1048576 < (L[j]).b.bs.length)) (fun i _ => n - (intOf i).toNat)
 case atStart => exact ⟨0, Nat.zero_le _, by simp, zdy ⟨B0.out, fun j _ h => by omega⟩⟩
 case round =>
  obtain ⟨k, hk, rfl, hr⟩ := hrel
  clear B0
  by_cases lt : k < n
  ·have kl : k < L.length := by rw [<- HN.out]; exact lt
   obtain ⟨ad, rfl, z1, z2⟩ := CE.out k wr kl hr.out.1
   have XL := zdy (fun h : 1048576 < (L[k]).b.bs.length => Kh kl h)
   have NX : Hid (¬ 1048576 < (L[k]).b.bs.length -> ∀ j, (hj : j < L.length) -> j < k + 1 -> ¬ 1048576 < (L[j]).b.bs.length) := zdy (fun q j hj hjk => by
    rcases Nat.lt_or_ge j k with a | a
    ·exact hr.out.2 j hj a
    ·have e : j = k := by omega
     subst e; exact q)
   generalize (L[k]).b.bs.length = x at *
   generalize (L[k]).b.A = xA at *
   generalize (L[k]).b.c = xc at *
   generalize (L[k]).at_ = xt at *
   have q0 : (0 : Int) <= (k : Int) := by omega
   have q5 : (k : Int) < (n : Int) := by omega
   have tn : (k : Int).toNat = k := by omega
   have wk := zdz ((k : Int) + 1) (by omega)
   obtain ⟨Q, hQ⟩ : ∃ Q, Q = wr.alloc (.cells #[.int .i64 xt, .slice xA x xc] 47) := ⟨_, rfl⟩
   have BQ := zdy (hr.out.1.trans ((show Below wr.heap.size wr Q by rw [hQ]; exact (Below.refl _ wr).alloc zdA _).mono hr.out.1.size))
   have K : Bk Q wr.heap.size [.int .i64 xt, .slice xA x xc] 47 := by rw [hQ]; exact Bk.new wr _ _
   have k1 := K.c 1 _ rfl
   have HQ := zdy hQ
   clear K hQ
   by_cases xb : 1048576 < x
   ·have xi : (1048576 : Int) < (x : Int) := by omega
    have DD : Hid (qi (frms L) = true) := zdy (by rw [MB.out, XL.out xb, Bool.true_or])
    have BB := zdy BQ.out
    clear CE XL NX hr
    go_upto_region 4 with fail
    rw [<- HQ.out]
    go_wp2_with fail
    go_ret
    exact ⟨by rw [DD.out]; rfl, BB.out⟩
   ·have xi : ¬ (1048576 : Int) < (x : Int) := by omega
    have R2 := zdy (And.intro BQ.out (NX.out xb))
    clear CE XL NX hr
    go_upto_region 4 with fail
    rw [<- HQ.out]
    go_wp2_with fail
    go_roundw
    case rel => exact ⟨k + 1, by omega, by go_num, R2⟩
    case measure => simp [intOf]; omega
  ·have ek : k = n := by omega
   subst ek
   have q5 : ¬ (k : Int) < (k : Int) := by omega
   have DD : Hid (qi (frms L) = decide ((16384 : Int) < (k : Int))) := zdy (by
    rw [MB.out, Ki (fun j hj => hr.out.2 j hj (by rw [HN.out]; exact hj)), Bool.false_or]
    by_cases c : 16384 < k
    ·rw [decide_eq_true c, decide_eq_true (by omega)]
    ·rw [decide_eq_false c, decide_eq_false (by omega)])
   clear CE
   go_wp2_with fail
   go_ret
   exact ⟨by rw [DD.out]; first | rfl | (simp; done), hr.out.1⟩
set_option maxHeartbeats 4000000 in
set_option maxRecDepth 100000 in
theorem r_Many (A : Option Addr) (c : Nat) (L : List FA) (B : Nat) (W : World) (h : FrsD W B A c L) (hB : B <= W.heap.size) : Calls Tryz.prog 39 #[.slice A L.length c] W fun e w' => e = .returned (.bool (qi (frms L))) /\ Below W.heap.size W w' := by
 have CE := zdy (h.cells hB)
 have ub : L.length <= 140737488355328 := by have := h.cap; have := h.sz; omega
 obtain ⟨n, hn⟩ : ∃ n, n = L.length := ⟨_, rfl⟩
 have HN := zdy hn
 have MB : Hid (qi (frms L) = (qo (frms L) || decide (16384 < n))) := zdy (by unfold qi; rw [qx, hn])
 rw [<- hn] at ub ⊢
 clear h hn
 have B0 := zdy (Below.refl W.heap.size W)
 by_cases big : 16384 < n
 ·have bi : (16384 : Int) < (n : Int) := by omega
  have DD : Hid (qi (frms L) = true) := zdy (by rw [MB.out, decide_eq_true big, Bool.or_true])
  clear CE
  go_enter Tryz.func39, Tryz.ntmps39
  go_wp2_with fail
  go_ret
  exact ⟨by rw [DD.out]; rfl, B0.out⟩
 have bi : ¬ (16384 : Int) < (n : Int) := by omega
 go_enter Tryz.func39, Tryz.ntmps39
 go_wp2_with fail
 go_loopw [3] (fun i wr => ∃ k : Nat, k <= n /\ i = .int .i64 (k : Int) /\ Hid (Below W.heap.size W wr /\ ∀ j, (hj : j < L.length) -> j < k -> ¬ 1048576 < (L[j]).b.bs.length)) (fun i _ => n - (intOf i).toNat)
 case atStart => exact ⟨0, Nat.zero_le _, by simp, zdy ⟨B0.out, fun j _ h => by omega⟩⟩
 case round =>
  obtain ⟨k, hk, rfl, hr⟩ := hrel
  clear B0
  by_cases lt : k < n
  ·have kl : k < L.length := by rw [<- HN.out]; exact lt
   obtain ⟨ad, rfl, z1, z2⟩ := CE.out k wr kl hr.out.1
   have XL := zdy (fun h : 1048576 < (L[k]).b.bs.length => Kh kl h)
   have NX : Hid (¬ 1048576 < (L[k]).b.bs.length -> ∀ j, (hj : j < L.length) -> j < k + 1 -> ¬ 1048576 < (L[j]).b.bs.length) := zdy (fun q j hj hjk => by
    rcases Nat.lt_or_ge j k with a | a
    ·exact hr.out.2 j hj a
    ·have e : j = k := by omega
     subst e; exact q)
   generalize (L[k]).b.bs.length = x at *
   generalize (L[k]).b.A = xA at *
   generalize (L[k]).b.c = xc at *
   generalize (L[k]).at_ = xt at *
   have q0 : (0 : Int) <= (k : Int) := by omega
   have q5 : (k : Int) < (n : Int) := by omega
   have tn : (k : Int).toNat = k := by omega
   have wk := zdz ((k : Int) + 1) (by omega)
   by_cases xb : 1048576 < x
   ·have xi : (1048576 : Int) < (x : Int) := by omega
    have DD : Hid (qi (frms L) = true) := zdy (by rw [MB.out, XL.out xb, Bool.true_or])
    have BB := zdy hr.out.1
    clear CE XL NX hr
    go_wp2_with fail
    go_ret
    exact ⟨by rw [DD.out]; rfl, BB.out⟩
   ·have xi : ¬ (1048576 : Int) < (x : Int) := by omega
    have R2 := zdy (And.intro hr.out.1 (NX.out xb))
    clear CE XL NX hr
    go_wp2_with fail
    go_roundw
    case rel => exact ⟨k + 1, by omega, by go_num, R2⟩
    case measure => simp [intOf]; omega
  ·have ek : k = n := by omega
   subst ek
   have q5 : ¬ (k : Int) < (k : Int) := by omega
   have DD : Hid (qi (frms L) = false) := zdy (by rw [MB.out, Ki (fun j hj => hr.out.2 j hj (by rw [HN.out]; exact hj)), decide_eq_false (by omega)]; rfl)
   clear CE
   go_wp2_with fail
   go_ret
   exact ⟨by rw [DD.out]; first | rfl | (simp; done), hr.out.1⟩
theorem QN {L : List FA} {k : Nat} (hk : k < L.length) (last : Int) : zC last (frms (L.drop k)) = (decide (last <= (L[k]).at_ /\ (L[k]).at_ <= 1099511627776) && zC (L[k]).at_ (frms (L.drop (k + 1)))) := by
 rw [List.drop_eq_getElem_cons hk]
 rfl
set_option maxHeartbeats 4000000 in
set_option maxRecDepth 100000 in
theorem t_timed (A : Option Addr) (c : Nat) (L : List FA) (B : Nat) (W : World) (h : FrsD W B A c L) (hB : B <= W.heap.size) : Calls Tryz.prog 62 #[.slice A L.length c] W fun e w' => e = .returned (.bool (js (frms L))) /\ Below W.heap.size W w' := by
 have CE := zdy (h.cells hB)
 have ub : L.length <= 140737488355328 := by have := h.cap; have := h.sz; omega
 obtain ⟨n, hn⟩ : ∃ n, n = L.length := ⟨_, rfl⟩
 have HN := zdy hn
 obtain ⟨R, hR⟩ : ∃ R, R = js (frms L) := ⟨_, rfl⟩
 have HR := zdy (show zC 0 (frms (L.drop 0)) = R by rw [hR]; rfl)
 rw [<- hn] at ub
 rw [<- hn, <- hR]
 clear h hn hR
 have B0 := zdy (Below.refl W.heap.size W)
 go_enter Tryz.func62, Tryz.ntmps62
 go_wp2_with fail
 go_loopw [3, 8] (fun s3 i wr => ∃ (k : Nat) (last : Int), k <= n /\ s3 = .int .i64 last /\ i = .int .i64 (k : Int) /\ Hid (Below W.heap.size W wr) /\ Hid (zC last (frms (L.drop k)) = R)) (fun _ i _ => n - (intOf i).toNat)
 case atStart => exact ⟨0, 0, Nat.zero_le _, rfl, by simp, B0, HR⟩
 case round =>
  obtain ⟨k, last, hk, rfl, rfl, hr, ht⟩ := hrel
  clear B0 HR
  by_cases lt : k < n
  ·have kl : k < L.length := by rw [<- HN.out]; exact lt
   obtain ⟨ad, rfl, z1, z2⟩ := CE.out k wr kl hr.out
   have ST := zdy ((QN kl last).symm.trans ht.out)
   generalize (L[k]).b.bs.length = x at *
   generalize (L[k]).b.A = xA at *
   generalize (L[k]).b.c = xc at *
   generalize (L[k]).at_ = xt at *
   have q0 : (0 : Int) <= (k : Int) := by omega
   have q5 : (k : Int) < (n : Int) := by omega
   have tn : (k : Int).toNat = k := by omega
   have wk := zdz ((k : Int) + 1) (by omega)
   clear CE ht
   obtain ⟨Q, hQ⟩ : ∃ Q, Q = wr.alloc (.cells #[.int .i64 xt, .slice xA x xc] 47) := ⟨_, rfl⟩
   have BQ := zdy (hr.out.trans ((show Below wr.heap.size wr Q by rw [hQ]; exact (Below.refl _ wr).alloc zdA _).mono hr.out.size))
   have K : Bk Q wr.heap.size [.int .i64 xt, .slice xA x xc] 47 := by rw [hQ]; exact Bk.new wr _ _
   have k0 := K.c 0 _ rfl
   have HQ := zdy hQ
   clear K hQ
   by_cases c1 : xt < last
   ·have DD : Hid (R = false) := zdy (by rw [<- ST.out, decide_eq_false (by omega), Bool.false_and])
    clear ST
    go_upto_region 5 with fail
    rw [<- HQ.out]
    go_wp2_with fail
    go_ret
    exact ⟨by rw [DD.out]; rfl, BQ.out⟩
   by_cases c2 : 1099511627776 < xt
   ·have DD : Hid (R = false) := zdy (by rw [<- ST.out, decide_eq_false (by omega), Bool.false_and])
    clear ST
    go_upto_region 5 with fail
    rw [<- HQ.out]
    go_wp2_with fail
    go_ret
    exact ⟨by rw [DD.out]; rfl, BQ.out⟩
   have NX : Hid (zC xt (frms (L.drop (k + 1))) = R) := zdy (by rw [<- ST.out, decide_eq_true (by omega), Bool.true_and])
   clear ST
   go_upto_region 5 with fail
   rw [<- HQ.out]
   go_wp2_with fail
   go_roundw
   case rel => exact ⟨k + 1, xt, by omega, rfl, by go_num, BQ, NX⟩
   case measure => simp [intOf]; omega
  ·have ek : k = n := by omega
   subst ek
   have q5 : ¬ (k : Int) < (k : Int) := by omega
   have DD : Hid (R = true) := zdy (by
    rw [<- ht.out, List.drop_of_length_le (by rw [<- HN.out]; exact zdA)]; rfl)
   clear CE ht
   go_wp2_with fail
   go_ret
   exact ⟨by rw [DD.out]; rfl, hr.out⟩
set_option maxHeartbeats 4000000 in
set_option maxRecDepth 100000 in
theorem r_InTime (A : Option Addr) (c : Nat) (L : List FA) (B : Nat) (W : World) (h : FrsD W B A c L) (hB : B <= W.heap.size) : Calls Tryz.prog 40 #[.slice A L.length c] W fun e w' => e = .returned (.bool (js (frms L))) /\ Below W.heap.size W w' := by
 have CE := zdy (h.cells hB)
 have ub : L.length <= 140737488355328 := by have := h.cap; have := h.sz; omega
 obtain ⟨n, hn⟩ : ∃ n, n = L.length := ⟨_, rfl⟩
 have HN := zdy hn
 obtain ⟨R, hR⟩ : ∃ R, R = js (frms L) := ⟨_, rfl⟩
 have HR := zdy (show zC 0 (frms (L.drop 0)) = R by rw [hR]; rfl)
 rw [<- hn] at ub
 rw [<- hn, <- hR]
 clear h hn hR
 have B0 := zdy (Below.refl W.heap.size W)
 go_enter Tryz.func40, Tryz.ntmps40
 go_wp2_with fail
 go_loopw [3, 4] (fun s3 i wr => ∃ (k : Nat) (last : Int), k <= n /\ s3 = .int .i64 last /\ i = .int .i64 (k : Int) /\ Hid (Below W.heap.size W wr) /\ Hid (zC last (frms (L.drop k)) = R)) (fun _ i _ => n - (intOf i).toNat)
 case atStart => exact ⟨0, 0, Nat.zero_le _, rfl, by simp, B0, HR⟩
 case round =>
  obtain ⟨k, last, hk, rfl, rfl, hr, ht⟩ := hrel
  clear B0 HR
  by_cases lt : k < n
  ·have kl : k < L.length := by rw [<- HN.out]; exact lt
   obtain ⟨ad, rfl, z1, z2⟩ := CE.out k wr kl hr.out
   have ST := zdy ((QN kl last).symm.trans ht.out)
   generalize (L[k]).b.bs.length = x at *
   generalize (L[k]).b.A = xA at *
   generalize (L[k]).b.c = xc at *
   generalize (L[k]).at_ = xt at *
   have q0 : (0 : Int) <= (k : Int) := by omega
   have q5 : (k : Int) < (n : Int) := by omega
   have tn : (k : Int).toNat = k := by omega
   have wk := zdz ((k : Int) + 1) (by omega)
   clear CE ht
   by_cases c1 : xt < last
   ·have DD : Hid (R = false) := zdy (by rw [<- ST.out, decide_eq_false (by omega), Bool.false_and])
    clear ST
    go_wp2_with fail
    go_ret
    exact ⟨by rw [DD.out]; rfl, hr.out⟩
   by_cases c2 : 1099511627776 < xt
   ·have DD : Hid (R = false) := zdy (by rw [<- ST.out, decide_eq_false (by omega), Bool.false_and])
    clear ST
    go_wp2_with fail
    go_ret
    exact ⟨by rw [DD.out]; rfl, hr.out⟩
   have NX : Hid (zC xt (frms (L.drop (k + 1))) = R) := zdy (by rw [<- ST.out, decide_eq_true (by omega), Bool.true_and])
   clear ST
   go_wp2_with fail
   go_roundw
   case rel => exact ⟨k + 1, xt, by omega, rfl, by go_num, hr, NX⟩
   case measure => simp [intOf]; omega
  ·have ek : k = n := by omega
   subst ek
   have q5 : ¬ (k : Int) < (k : Int) := by omega
   have DD : Hid (R = true) := zdy (by
    rw [<- ht.out, List.drop_of_length_le (by rw [<- HN.out]; exact zdA)]; rfl)
   clear CE ht
   go_wp2_with fail
   go_ret
   exact ⟨by rw [DD.out]; rfl, hr.out⟩
theorem Kj (A : Option Addr) (c : Nat) (L : List FA) (B : Nat) (W : World) (h : FrsD W B A c L) (hB : B <= W.heap.size) : Calls Tryz.prog 44 #[.slice A L.length c] W fun e w' => e = .returned (.int .i64 (qF (frms L))) /\ Below W.heap.size W w' := by
 have M := zdy (t_many A c L B W h hB)
 have T := zdy (fun (w1 : World) (hb : Below W.heap.size W w1) => t_timed A c L B w1 (h.below hb hB) (Nat.le_trans hB hb.size))
 have CK : Hid (qF (frms L) = if qi (frms L) then 3 else if js (frms L) then 0 else 301) := zdy rfl
 generalize qF (frms L) = R at *
 generalize qi (frms L) = m at *
 generalize js (frms L) = t at *
 clear h
 go_enter Tryz.func44, Tryz.ntmps44
 go_wp2_with fail
 refine M.out.mono ?_; rintro e w1 ⟨rfl, hb1⟩
 have B1 := zdy hb1
 have T1 := zdy (T.out w1 hb1)
 clear M T hb1
 cases m with
 | true =>
  have DD : Hid (R = 3) := zdy (by rw [CK.out]; rfl)
  clear T1
  go_wp2_with fail
  go_ret
  exact ⟨by rw [DD.out]; rfl, B1.out⟩
 | false =>
  go_wp2_with fail
  refine T1.out.mono ?_; rintro e w2 ⟨rfl, hb2⟩
  have B2 := zdy (B1.out.trans (hb2.mono B1.out.size))
  clear T1 hb2
  cases t with
  | true =>
   have DD : Hid (R = 0) := zdy (by rw [CK.out]; rfl)
   go_wp2_with fail
   go_ret
   exact ⟨by rw [DD.out]; rfl, B2.out⟩
  | false =>
   have DD : Hid (R = 301) := zdy (by rw [CK.out]; rfl)
   go_wp2_with fail
   go_ret
   exact ⟨by rw [DD.out]; rfl, B2.out⟩
theorem Kk {D : List Int} {k : Nat} (hk : k < D.length) (a c : Int) : sumF (D.drop k) a c = sumF (D.drop (k + 1)) ((a + D.getD k 0) % 65521) ((c + (a + D.getD k 0) % 65521) % 65521) := by
 rw [List.drop_eq_getElem_cons hk, sumF, List.getD_eq_getElem?_getD, List.getElem?_eq_getElem hk]
 rfl
theorem qb (n : Int) (h : 0 <= n /\ n < 4294967296) : IntKind.u32.wrap n = n := by rw [IntKind.wrap_u32]; omega
theorem xJ {W : World} {B : Nat} {A : Option Addr} {D : List Int} (S : Sees W B A (D.map (.int .u8))) (k : Nat) (hk : k < D.length) : ∃ ad, A = some ad /\ ad.block < B /\ W.cell? (ad.add k) = some (.int .u8 (D.getD k 0)) := by
 obtain ⟨ad, e, h1, h2⟩ := S.at (k := k) (by rw [List.length_map]; exact hk)
 refine ⟨ad, e, h1, h2.trans ?_⟩
 rw [List.getElem_map, List.getD_eq_getElem?_getD, List.getElem?_eq_getElem hk]
 rfl
set_option maxHeartbeats 4000000 in
set_option maxRecDepth 100000 in
theorem t_sum (A : Option Addr) (c : Nat) (D : List Int) (B : Nat) (W : World) (S : Sees W B A (D.map (.int .u8))) (rng : Byt D) (ub : D.length <= 1000000000) : Calls Tryz.prog 46 #[.slice A D.length c] W fun e w' => e = .returned (.int .u32 (sumL D)) /\ w' = W := by
 have SD := zdy S
 have RG := zdy rng
 obtain ⟨n, hn⟩ : ∃ n, n = D.length := ⟨_, rfl⟩
 have HN := zdy hn
 have SU : Hid (sumL D = 65536 * (sumF D 1 0).2 + (sumF D 1 0).1) := zdy rfl
 rw [<- hn] at ub
 rw [<- hn]
 clear S rng hn
 go_enter Tryz.func46, Tryz.ntmps46
 go_wp2_with fail
 go_loopw [3, 4, 8] (fun s3 s4 i wr => ∃ (k : Nat) (a cc : Int), k <= n /\ s3 = .int .u32 a /\ s4 = .int .u32 cc /\ i = .int .i64 (k : Int) /\ (0 <= a /\ a < 65521) /\ (0 <= cc /\ cc < 65521) /\ Hid (sumF (D.drop k) a cc = sumF D 1 0) /\ wr = W) (fun _ _ i _ => n - (intOf i).toNat)
 case atStart => exact ⟨0, 1, 0, Nat.zero_le _, rfl, rfl, rfl, by decide, by decide, zdy rfl, rfl⟩
 case round =>
  obtain ⟨k, a, cc, hk, rfl, rfl, rfl, ⟨a0, a1⟩, ⟨c0, c1⟩, hs, ew⟩ := hrel
  by_cases lt : k < n
  ·have kl : k < D.length := by rw [<- HN.out]; exact lt
   obtain ⟨ad, rfl, bl, z⟩ := xJ SD.out k kl
   have xr := RG.out (D.getD k 0) (by rw [List.getD_eq_getElem?_getD, List.getElem?_eq_getElem kl]; exact List.getElem_mem kl)
   have ST := zdy ((Kk kl a cc).symm.trans hs.out)
   generalize D.getD k 0 = x at *
   obtain ⟨x0, x1⟩ := xr
   have q0 : (0 : Int) <= (k : Int) := by omega
   have q5 : (k : Int) < (n : Int) := by omega
   have tn : (k : Int).toNat = k := by omega
   have wk := zdz ((k : Int) + 1) (by omega)
   have w0 : IntKind.u32.wrap x = x := qb _ (by omega)
   have w1 : IntKind.u32.wrap (a + x) = a + x := qb _ (by omega)
   obtain ⟨a2, ha2⟩ : ∃ a2, a2 = (a + x) % 65521 := ⟨_, rfl⟩
   have t1 : Int.tmod (a + x) 65521 = a2 := by rw [ha2, Int.tmod_eq_emod_of_nonneg (by omega)]
   have w2 : IntKind.u32.wrap a2 = a2 := qb _ (by omega)
   have w3 : IntKind.u32.wrap (cc + a2) = cc + a2 := qb _ (by omega)
   obtain ⟨c2, hc2⟩ : ∃ c2, c2 = (cc + a2) % 65521 := ⟨_, rfl⟩
   have t2 : Int.tmod (cc + a2) 65521 = c2 := by rw [hc2, Int.tmod_eq_emod_of_nonneg (by omega)]
   have w4 : IntKind.u32.wrap c2 = c2 := qb _ (by omega)
   have NX : Hid (sumF (D.drop (k + 1)) a2 c2 = sumF D 1 0 /\ (0 <= a2 /\ a2 < 65521) /\ (0 <= c2 /\ c2 < 65521)) := zdy ⟨by rw [<- ST.out, <- ha2, <- hc2], by omega, by omega⟩
   rw [<- ew] at z
   have EW := zdy ew
   clear ha2 hc2 ST hs ew
   go_wp2_with fail
   go_roundw
   case rel => exact ⟨k + 1, a2, c2, by omega, rfl, rfl, by go_num, NX.out.2.1, NX.out.2.2, zdy NX.out.1, EW.out⟩
   case measure => simp [intOf]; omega
  ·have ek : k = n := by omega
   subst ek
   have q5 : ¬ (k : Int) < (k : Int) := by omega
   have FS : Hid (sumL D = 65536 * cc + a) := zdy (by
    rw [SU.out, <- hs.out, List.drop_of_length_le (by rw [<- HN.out]; exact zdA)]; rfl)
   obtain ⟨cn, rfl⟩ : ∃ cn : Nat, cc = (cn : Int) := ⟨cc.toNat, by omega⟩
   obtain ⟨an, rfl⟩ : ∃ an : Nat, a = (an : Int) := ⟨a.toNat, by omega⟩
   have v1 : IntKind.u32.wrap ((cn : Int) * 65536) = ((65536 * cn : Nat) : Int) := by rw [qb _ (by omega)]; omega
   have v2 : IntKind.u32.wrap (65536 * (cn : Int)) = ((65536 * cn : Nat) : Int) := by rw [qb _ (by omega)]; omega
   have v3 := or_sum an cn (by omega) (by omega)
   have v4 : IntKind.u32.wrap (((65536 * cn : Nat) : Int) + (an : Int)) = ((65536 * cn + an : Nat) : Int) := by rw [qb _ (by omega)]; omega
   generalize hX : 65536 * cn = X at *
   have EW := zdy ew
   have FIN : Hid (65536 * (cn : Int) + (an : Int) = ((X + an : Nat) : Int)) := zdy (by omega)
   clear hs SD ew hX
   go_wp2_with fail
   go_ret
   exact ⟨by rw [FS.out, FIN.out]; rfl, EW.out⟩
set_option maxHeartbeats 4000000 in
set_option maxRecDepth 100000 in
theorem r_Sum (A : Option Addr) (c : Nat) (D : List Int) (B : Nat) (W : World) (S : Sees W B A (D.map (.int .u8))) (rng : Byt D) (ub : D.length <= 1000000000) : Calls Tryz.prog 42 #[.slice A D.length c] W fun e w' => e = .returned (.int .u32 (sumL D)) /\ w' = W := by
 have SD := zdy S
 have RG := zdy rng
 obtain ⟨n, hn⟩ : ∃ n, n = D.length := ⟨_, rfl⟩
 have HN := zdy hn
 have SU : Hid (sumL D = 65536 * (sumF D 1 0).2 + (sumF D 1 0).1) := zdy rfl
 rw [<- hn] at ub
 rw [<- hn]
 clear S rng hn
 go_enter Tryz.func42, Tryz.ntmps42
 go_wp2_with fail
 go_loopw [3, 4, 5] (fun s3 s4 i wr => ∃ (k : Nat) (a cc : Int), k <= n /\ s3 = .int .u32 a /\ s4 = .int .u32 cc /\ i = .int .i64 (k : Int) /\ (0 <= a /\ a < 65521) /\ (0 <= cc /\ cc < 65521) /\ Hid (sumF (D.drop k) a cc = sumF D 1 0) /\ wr = W) (fun _ _ i _ => n - (intOf i).toNat)
 case atStart => exact ⟨0, 1, 0, Nat.zero_le _, rfl, rfl, rfl, by decide, by decide, zdy rfl, rfl⟩
 case round =>
  obtain ⟨k, a, cc, hk, rfl, rfl, rfl, ⟨a0, a1⟩, ⟨c0, c1⟩, hs, ew⟩ := hrel
  by_cases lt : k < n
  ·have kl : k < D.length := by rw [<- HN.out]; exact lt
   obtain ⟨ad, rfl, bl, z⟩ := xJ SD.out k kl
   have xr := RG.out (D.getD k 0) (by rw [List.getD_eq_getElem?_getD, List.getElem?_eq_getElem kl]; exact List.getElem_mem kl)
   have ST := zdy ((Kk kl a cc).symm.trans hs.out)
   generalize D.getD k 0 = x at *
   obtain ⟨x0, x1⟩ := xr
   have q0 : (0 : Int) <= (k : Int) := by omega
   have q5 : (k : Int) < (n : Int) := by omega
   have tn : (k : Int).toNat = k := by omega
   have wk := zdz ((k : Int) + 1) (by omega)
   have w0 : IntKind.u32.wrap x = x := qb _ (by omega)
   have w1 : IntKind.u32.wrap (a + x) = a + x := qb _ (by omega)
   obtain ⟨a2, ha2⟩ : ∃ a2, a2 = (a + x) % 65521 := ⟨_, rfl⟩
   have t1 : Int.tmod (a + x) 65521 = a2 := by rw [ha2, Int.tmod_eq_emod_of_nonneg (by omega)]
   have w2 : IntKind.u32.wrap a2 = a2 := qb _ (by omega)
   have w3 : IntKind.u32.wrap (cc + a2) = cc + a2 := qb _ (by omega)
   obtain ⟨c2, hc2⟩ : ∃ c2, c2 = (cc + a2) % 65521 := ⟨_, rfl⟩
   have t2 : Int.tmod (cc + a2) 65521 = c2 := by rw [hc2, Int.tmod_eq_emod_of_nonneg (by omega)]
   have w4 : IntKind.u32.wrap c2 = c2 := qb _ (by omega)
   have NX : Hid (sumF (D.drop (k + 1)) a2 c2 = sumF D 1 0 /\ (0 <= a2 /\ a2 < 65521) /\ (0 <= c2 /\ c2 < 65521)) := zdy ⟨by rw [<- ST.out, <- ha2, <- hc2], by omega, by omega⟩
   rw [<- ew] at z
   have EW := zdy ew
   clear ha2 hc2 ST hs ew
   go_wp2_with fail
   go_roundw
   case rel => exact ⟨k + 1, a2, c2, by omega, rfl, rfl, by go_num, NX.out.2.1, NX.out.2.2, zdy NX.out.1, EW.out⟩
   case measure => simp [intOf]; omega
  ·have ek : k = n := by omega
   subst ek
   have q5 : ¬ (k : Int) < (k : Int) := by omega
   have FS : Hid (sumL D = 65536 * cc + a) := zdy (by
    rw [SU.out, <- hs.out, List.drop_of_length_le (by rw [<- HN.out]; exact zdA)]; rfl)
   obtain ⟨cn, rfl⟩ : ∃ cn : Nat, cc = (cn : Int) := ⟨cc.toNat, by omega⟩
   obtain ⟨an, rfl⟩ : ∃ an : Nat, a = (an : Int) := ⟨a.toNat, by omega⟩
   have v1 : IntKind.u32.wrap ((cn : Int) * 65536) = ((65536 * cn : Nat) : Int) := by rw [qb _ (by omega)]; omega
   have v2 : IntKind.u32.wrap (65536 * (cn : Int)) = ((65536 * cn : Nat) : Int) := by rw [qb _ (by omega)]; omega
   have v3 := or_sum an cn (by omega) (by omega)
   have v4 : IntKind.u32.wrap (((65536 * cn : Nat) : Int) + (an : Int)) = ((65536 * cn + an : Nat) : Int) := by rw [qb _ (by omega)]; omega
   generalize hX : 65536 * cn = X at *
   have EW := zdy ew
   have FIN : Hid (65536 * (cn : Int) + (an : Int) = ((X + an : Nat) : Int)) := zdy (by omega)
   clear hs SD ew hX
   go_wp2_with fail
   go_ret
   exact ⟨by rw [FS.out, FIN.out]; rfl, EW.out⟩
end
end
end Go.Proofs.YtmaofighbpnbiaaGreatDoor
