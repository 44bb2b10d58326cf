/- A herd: terminals that lie apart, each newer than a world. -/
import Derived.Test.YtkllilehdpdbdaaGreatDoorVyU
namespace Go.Proofs.YtkllilehdpdbdaaGreatDoor
open Go Go.RowKit Go.Sort
set_option linter.unusedVariables false
set_option linter.unusedSimpArgs false
section
variable {W V V' : World} {T : List (Nat × Trm)} {Z : List Nat}
structure Herd (W V : World) (T : List (Nat × Trm)) (Z : List Nat) : Prop where
  g0 : EnvV W
  bel : Below W.heap.size W V
  lay : ∃ Lf : Nat → Lay, (∀ i p, T[i]? = some p → (Lf i).b = p.1 ∧ TrmAt V (Lf i) p.2 ∧ ∀ g ∈ (Lf i).fp, W.heap.size ≤ g) ∧ (∀ i j, i < T.length → j < T.length → i ≠ j → ∀ g ∈ (Lf i).fp, g ∉ (Lf j).fp) ∧ ∀ z ∈ Z, z < V.heap.size ∧ ∀ i, i < T.length → z ∉ (Lf i).fp
theorem Herd.nil (E : EnvV W) (hb : Below W.heap.size W V) : Herd W V [] [] := ⟨E, hb, fun _ => ⟨0, 0, .bool true, .bool true, .bool true, .bool true, .bool true, .bool true, .bool true⟩, fun i p h => by simp at h, fun i j h => by simp at h, fun z h => by simp at h⟩
theorem Herd.env (h : Herd W V T Z) : EnvV V := h.g0.mv (Mv.below (F := []) h.bel) (by simp)
theorem Herd.below (h : Herd W V T Z) (hb : Below V.heap.size V V') : Herd W V' T Z := by
  obtain ⟨Lf, a, d, z⟩ := h.lay
  refine ⟨h.g0, h.bel.trans (hb.mono h.bel.size), Lf, fun i p hi => ?_, d, fun k m => ⟨Nat.lt_of_lt_of_le (z k m).1 hb.size, (z k m).2⟩⟩
  obtain ⟨e1, e2, e3⟩ := a i p hi
  exact ⟨e1, e2.keep (fun k m => hb.block k (e2.lt k m)), e3⟩
theorem Herd.drop (h : Herd W V T Z) : Herd W V T [] := by
  obtain ⟨Lf, a, d, z⟩ := h.lay
  exact ⟨h.g0, h.bel, Lf, a, d, fun z m => by simp at m⟩
/-- a step of one, in a world with more in it -/
theorem Herd.atAt (h : Herd W V T Z) (hb : Below V.heap.size V V') {i b : Nat} {t : Trm} (hi : T[i]? = some (b, t)) : ∃ F, St V' F b t V' ∧ (∀ t' V'', St V' F b t' V'' → Herd W V'' (T.set i (b, t')) Z ∧ ∀ z ∈ Z, V''.heap[z]? = V'.heap[z]?) ∧ (∀ b ∈ F, W.heap.size ≤ b) ∧ ∀ b ∈ F, b < V.heap.size := by
  have h2 := h.below hb
  obtain ⟨Lf, a, d, z⟩ := h.lay
  have il : i < T.length := (List.getElem?_eq_some_iff.1 hi).1
  obtain ⟨e1, T0, n1⟩ := a i _ hi
  have T1 := T0.keep (fun k m => hb.block k (T0.lt k m))
  have zz : ∀ k ∈ Z, k < V'.heap.size := fun k m => Nat.lt_of_lt_of_le (z k m).1 hb.size
  refine ⟨(Lf i).fp, ⟨h2.env, Mv.refl _ _, fun b m => new_notV h2.g0 (n1 b m), Lf i, e1, T1, fun b m => Or.inl m⟩, fun t' V'' k => ⟨?_, fun j m => k.mv.blk j (zz j m) ((z j m).2 i il)⟩, n1, T0.lt⟩
  obtain ⟨L', e', T', f'⟩ := k.lay
  have old : ∀ j, j < V'.heap.size → j ∈ L'.fp → j ∈ (Lf i).fp := fun j lt m => (f' j m).elim id (fun q => by omega)
  refine ⟨h2.g0, ⟨k.mv.os.trans h2.bel.os, k.mv.tape.trans h2.bel.tape, k.mv.output.trans h2.bel.output, Nat.le_trans h2.bel.size k.mv.size, fun j hj => (k.mv.blk j (Nat.lt_of_lt_of_le hj h2.bel.size) (fun m => by have := n1 j m; omega)).trans (h2.bel.block j hj)⟩, fun j => if j = i then L' else Lf j, fun j p hj => ?_, fun j l hj hl ne => ?_, fun j m => ⟨Nat.lt_of_lt_of_le (zz j m) k.mv.size, fun l hl => ?_⟩⟩
  · dsimp only
    by_cases e : j = i
    · subst e
      rw [List.getElem?_set_self il] at hj
      cases hj
      rw [if_pos rfl]
      exact ⟨e', T', fun g m => (f' g m).elim (n1 g) (fun q => Nat.le_trans h2.bel.size q)⟩
    · rw [List.getElem?_set_ne (fun q => e q.symm)] at hj
      rw [if_neg e]
      obtain ⟨q1, q2, q3⟩ := a j p hj
      have jl : j < T.length := (List.getElem?_eq_some_iff.1 hj).1
      have q2' := q2.keep (fun k m => hb.block k (q2.lt k m))
      exact ⟨q1, q2'.keep (fun g m => k.mv.blk g (q2'.lt g m) (fun m2 => d j i jl il e g m m2)), q3⟩
  · rw [List.length_set] at hj hl
    have lo : ∀ x, x < T.length → ∀ g ∈ (Lf x).fp, g < V'.heap.size := fun x hx g m => by
      obtain ⟨_, q2, _⟩ := a x T[x] (List.getElem?_eq_getElem hx)
      exact Nat.lt_of_lt_of_le (q2.lt g m) hb.size
    intro g m m2
    dsimp only at m m2
    by_cases e : j = i
    · subst e
      rw [if_pos rfl] at m
      rw [if_neg (fun q => ne q.symm)] at m2
      exact d j l hj hl ne g (old g (lo l hl g m2) m) m2
    · rw [if_neg e] at m
      by_cases e2 : l = i
      · subst e2
        rw [if_pos rfl] at m2
        exact d j l hj hl e g m (old g (lo j hj g m) m2)
      · rw [if_neg e2] at m2
        exact d j l hj hl ne g m m2
  · rw [List.length_set] at hl
    intro m2
    dsimp only at m2
    by_cases e : l = i
    · subst e
      rw [if_pos rfl] at m2
      exact (z j m).2 l hl (old j (zz j m) m2)
    · rw [if_neg e] at m2
      exact (z j m).2 l hl m2
theorem Herd.at (h : Herd W V T Z) {i b : Nat} {t : Trm} (hi : T[i]? = some (b, t)) : ∃ F, St V F b t V ∧ (∀ t' V'', St V F b t' V'' → Herd W V'' (T.set i (b, t')) Z ∧ ∀ z ∈ Z, V''.heap[z]? = V.heap[z]?) ∧ (∀ b ∈ F, W.heap.size ≤ b) ∧ ∀ b ∈ F, b < V.heap.size := h.atAt (Below.refl _ _) hi
/-- one more -/
theorem Herd.add (h : Herd W V T Z) {nb : Nat} {t : Trm} (hn : St V [] nb t V') : Herd W V' (T ++ [(nb, t)]) Z := by
  have hb : Below V.heap.size V V' := old_mv hn.mv
  have h2 := h.below hb
  obtain ⟨Lf, a, d, z⟩ := h.lay
  obtain ⟨L', e', T', f'⟩ := hn.lay
  have n2 : ∀ g ∈ L'.fp, V.heap.size ≤ g := fun g m => (f' g m).elim (fun z => by simp at z) id
  have lo : ∀ x, x < T.length → ∀ g ∈ (Lf x).fp, g < V.heap.size := fun x hx g m => by
    obtain ⟨_, q2, _⟩ := a x T[x] (List.getElem?_eq_getElem hx)
    exact q2.lt g m
  refine ⟨h2.g0, h2.bel, fun j => if j = T.length then L' else Lf j, fun j p hj => ?_, fun j l hj hl ne => ?_, fun j m => ⟨Nat.lt_of_lt_of_le (z j m).1 hb.size, fun l hl => ?_⟩⟩
  · dsimp only
    by_cases e : j = T.length
    · subst e
      rw [if_pos rfl]
      rw [List.getElem?_append_right (Nat.le_refl _), Nat.sub_self] at hj
      cases hj
      exact ⟨e', T', fun g m => Nat.le_trans h.bel.size (n2 g m)⟩
    · rw [if_neg e]
      have jl : j < T.length := by
        have := (List.getElem?_eq_some_iff.1 hj).1
        simp only [List.length_append, List.length_cons, List.length_nil] at this
        omega
      rw [List.getElem?_append_left jl] at hj
      obtain ⟨q1, q2, q3⟩ := a j p hj
      exact ⟨q1, q2.keep (fun g m => hb.block g (q2.lt g m)), q3⟩
  · simp only [List.length_append, List.length_cons, List.length_nil] at hj hl
    intro g m m2
    dsimp only at m m2
    by_cases e : j = T.length
    · rw [if_pos e] at m
      rw [if_neg (fun q => ne (e.trans q.symm))] at m2
      have := lo l (by omega) g m2
      have := n2 g m
      omega
    · rw [if_neg e] at m
      by_cases e2 : l = T.length
      · rw [if_pos e2] at m2
        have := lo j (by omega) g m
        have := n2 g m2
        omega
      · rw [if_neg e2] at m2
        exact d j l (by omega) (by omega) ne g m m2
  · simp only [List.length_append, List.length_cons, List.length_nil] at hl
    intro m2
    dsimp only at m2
    by_cases e : l = T.length
    · rw [if_pos e] at m2
      have := n2 j m2
      have := (z j m).1
      omega
    · rw [if_neg e] at m2
      exact (z j m).2 l (by omega) m2
/-- another block is looked after, too -/
theorem Herd.other (h : Herd W V T Z) {g : Nat} {cur : Array Value} {Ty : TypeId} {fl : Nat × Nat} (hg : V.heap[g]? = some (.cells cur Ty fl)) (o : OtherT Ty) : Herd W V T (g :: Z) := by
  obtain ⟨Lf, a, d, z⟩ := h.lay
  refine ⟨h.g0, h.bel, Lf, a, d, fun j m => ?_⟩
  rcases List.mem_cons.1 m with rfl | m
  · refine ⟨(Array.getElem?_eq_some_iff.1 hg).1, fun i hi => ?_⟩
    obtain ⟨_, q2, _⟩ := a i T[i] (List.getElem?_eq_getElem hi)
    exact q2.notTy hg o
  · exact z j m
/-- a new block is looked after -/
theorem Herd.newZ (h : Herd W V T Z) (hb : Below V.heap.size V V') {z : Nat} (h0 : V.heap.size ≤ z) (h1 : z < V'.heap.size) : Herd W V' T (z :: Z) := by
  have h2 := h.below hb
  obtain ⟨Lf, a, d, q⟩ := h.lay
  obtain ⟨Lf2, a2, d2, q2⟩ := h2.lay
  refine ⟨h2.g0, h2.bel, Lf, fun i p hi => ?_, d, fun j m => ?_⟩
  · obtain ⟨e1, e2, e3⟩ := a i p hi
    exact ⟨e1, e2.keep (fun k m => hb.block k (e2.lt k m)), e3⟩
  · rcases List.mem_cons.1 m with rfl | m
    · refine ⟨h1, fun i hi m2 => ?_⟩
      obtain ⟨_, e2, _⟩ := a i T[i] (List.getElem?_eq_getElem hi)
      have := e2.lt j m2
      omega
    · exact ⟨Nat.lt_of_lt_of_le (q j m).1 hb.size, (q j m).2⟩
/-- a block that is looked after is written -/
theorem Herd.setZ (h : Herd W V T Z) {z i : Nat} (hz : z ∈ Z) (h0 : W.heap.size ≤ z) (v : Value) : Herd W (V.setCell ⟨z, i, none⟩ v) T Z := by
  obtain ⟨Lf, a, d, q⟩ := h.lay
  refine ⟨h.g0, h.bel.setCell (p := ⟨z, i, none⟩) h0 v, Lf, fun j p hj => ?_, d, fun j m => ⟨by simpa using (q j m).1, (q j m).2⟩⟩
  obtain ⟨e1, e2, e3⟩ := a j p hj
  exact ⟨e1, e2.keep (fun k m => heap_setCell_other V ⟨z, i, none⟩ k v (fun e => (q z hz).2 j (List.getElem?_eq_some_iff.1 hj).1 (by simp only at e; rw [← e]; exact m))), e3⟩
/-- two of them, beside which the others stay -/
theorem Herd.two (h : Herd W V T Z) {i j b1 b2 : Nat} {t1 t2 : Trm} (hi : T[i]? = some (b1, t1)) (hj : T[j]? = some (b2, t2)) (ne : i ≠ j) : ∃ Z', Two W V b1 t1 b2 t2 Z' ∧ ∀ k l b3 b4 t3 t4, T[k]? = some (b3, t3) → T[l]? = some (b4, t4) → k ≠ l → k ≠ i → k ≠ j → l ≠ i → l ≠ j → ∀ V', Below W.heap.size W V' → (∀ z ∈ Z', V'.heap[z]? = V.heap[z]?) → Two W V' b3 t3 b4 t4 [] := by
  obtain ⟨Lf, a, d, z⟩ := h.lay
  have len : ∀ {x p}, T[x]? = some p → x < T.length := fun q => (List.getElem?_eq_some_iff.1 q).1
  obtain ⟨p1, p2, p3⟩ := a i _ hi
  obtain ⟨q1, q2, q3⟩ := a j _ hj
  refine ⟨((List.range T.length).filter (fun x => decide (x ≠ i ∧ x ≠ j))).flatMap (fun x => (Lf x).fp), ⟨h.g0, h.bel, Lf i, Lf j, p1, q1, p2, q2, p3, q3, d i j (len hi) (len hj) ne, fun z m => ?_⟩, ?_⟩
  · obtain ⟨x, hx, hm⟩ := List.mem_flatMap.1 m
    obtain ⟨r1, r2⟩ := List.mem_filter.1 hx
    have r3 := of_decide_eq_true r2
    have xl := List.mem_range.1 r1
    obtain ⟨_, s2, _⟩ := a x T[x] (List.getElem?_eq_getElem xl)
    exact ⟨s2.lt z hm, d x i xl (len hi) r3.1 z hm, d x j xl (len hj) r3.2 z hm⟩
  · intro k l b3 b4 t3 t4 hk hl n1 n2 n3 n4 n5 V' hb hz
    obtain ⟨r1, r2, r3⟩ := a k _ hk
    obtain ⟨s1, s2, s3⟩ := a l _ hl
    have mem : ∀ x, x < T.length → x ≠ i → x ≠ j → ∀ g ∈ (Lf x).fp, V'.heap[g]? = V.heap[g]? := fun x xl x1 x2 g m => hz g (List.mem_flatMap.2 ⟨x, List.mem_filter.2 ⟨List.mem_range.2 xl, decide_eq_true ⟨x1, x2⟩⟩, m⟩)
    exact ⟨h.g0, hb, Lf k, Lf l, r1, s1, r2.keep (mem k (len hk) n2 n3), s2.keep (mem l (len hl) n4 n5), r3, s3, d k l (len hk) (len hl) n1, fun z m => by simp at m⟩
/-- one is fed what a law was handed -/
theorem Herd.feed (h : Herd W V T Z) {i b : Nat} {t : Trm} (hi : T[i]? = some (b, t)) {A : Option Addr} {c : Nat} {D : List Int} (a : ArgB W A c D) (Lv : Live t) (hD : D.length ≤ 1048576) (hh : t.held.size + D.length ≤ 300000000) :
    Calls Tryz.prog 16 #[.pointer (some ⟨b, 0, none⟩), .slice A D.length c] V fun e w' => e = .returned (.int .i64 0) ∧ Herd W w' (T.set i (b, feedT t D)) Z := by
  obtain ⟨F, h1, up, hF, _⟩ := h.at hi
  refine (t_Feed h1 Lv A c D hD hh a.rng (a.fed h.bel hF)).mono ?_
  rintro e w' ⟨h2, h3⟩
  exact ⟨h2, (up _ _ h3).1⟩
end
end Go.Proofs.YtkllilehdpdbdaaGreatDoor

/- The law's alike, with what lies beside. -/
namespace Go.Proofs.YtkllilehdpdbdaaGreatDoor
open Go Go.RowKit Go.Sort
set_option linter.unusedVariables false
set_option linter.unusedSimpArgs false
section
variable {W V : World} {xb yb : Nat} {tx ty : Trm} {Z : List Nat}
/-- what is looked after stays -/
def KeepZ (Z Zc : List Nat) (V U : World) : Prop := ∀ z ∈ Z, U.heap[z]? = V.heap[z]? ∧ z ∈ Zc ∧ z < V.heap.size
theorem KeepZ.lt {Z Zc : List Nat} {V U : World} (h : KeepZ Z Zc V U) : ∀ z ∈ Z, z < U.heap.size := fun z m => by
  obtain ⟨a, _, c⟩ := h z m
  rw [Array.getElem?_eq_getElem c] at a
  exact (Array.getElem?_eq_some_iff.1 a).1
theorem KeepZ.below {Z Zc : List Nat} {V U U' : World} (h : KeepZ Z Zc V U) (hb : Below U.heap.size U U') : KeepZ Z Zc V U' := fun z m => ⟨(hb.block z (h.lt z m)).trans (h z m).1, (h z m).2⟩
theorem KeepZ.step {Z Zc Zd : List Nat} {V U U' : World} (h : KeepZ Z Zc V U) (zm : ∀ z ∈ Zc, z ∈ Zd) (zz : ∀ z ∈ Zc, U'.heap[z]? = U.heap[z]?) : KeepZ Z Zd V U' := fun z m => ⟨(zz z (h z m).2.1).trans (h z m).1, zm z (h z m).2.1, (h z m).2.2⟩
theorem KeepZ.fin {Z Zc : List Nat} {V U U' : World} (h : KeepZ Z Zc V U) (zz : ∀ z ∈ Zc, U'.heap[z]? = U.heap[z]?) : KeepZ Z Zc V U' := h.step (fun _ m => m) zz
set_option maxHeartbeats 16000000 in
set_option maxRecDepth 100000 in
/-- alike, and what is looked after stays -/
theorem law_alikeZ (h : Two W V xb tx yb ty Z) (fx : Fine tx) (fy : Fine ty) (es : seenT tx = seenT ty) (ew : writtenT tx = writtenT ty) (er : tx.reps = ty.reps) (en : tx.name = ty.name) :
    Calls Tryz.prog 21 #[.pointer (some ⟨xb, 0, none⟩), .pointer (some ⟨yb, 0, none⟩)] V fun e w' => e = .returned (.bool true) ∧ Below W.heap.size W w' ∧ ∀ z ∈ Z, w'.heap[z]? = V.heap[z]? := by
  have TW : Hid (Two W V.drew xb tx yb ty Z) := Lib.hid (h.below (Below.refl _ V).drew)
  have KZ : Hid (KeepZ Z Z V V.drew) := Lib.hid (fun z m => by
    obtain ⟨L1, L2, a, b, c, d, e, f, g, q⟩ := h.lay
    exact ⟨rfl, m, (q z m).1⟩)
  have wx : tx.wrt.length ≤ 1048576 := by have := fx.wl; have := fx.cl; have := fx.ar; omega
  have wy : ty.wrt.length ≤ 1048576 := by have := fy.wl; have := fy.cl; have := fy.ar; omega
  have ec : tx.cells = ty.cells := by rw [← seen_cells tx, ← seen_cells ty, es]
  have SM : Hid (∀ U A1 c1 A2 c2, RowAt U 49 5 (.slice A1 tx.cells.length c1) tx.cells.length (celsV tx.cells) → RowAt U 49 5 (.slice A2 ty.cells.length c2) ty.cells.length (celsV ty.cells) → Calls Tryz.prog 42 #[scrV (seenT tx) A1 c1, scrV (seenT ty) A2 c2] U fun e w' => e = .returned (.bool true) ∧ Below U.heap.size U w') := Lib.hid (fun U A1 c1 A2 c2 h1 h2 => by
    rw [es]
    refine law_same (seenT ty) A1 A2 c1 c2 U (by rw [seen_cells]; have := fy.cl; have := fy.ar; omega) ?_ ?_
    · rw [seen_cells, ← ec]; exact h1
    · rw [seen_cells]; exact h2)
  have SI : Hid (∀ U A1 c1 A2 c2, Sees U U.heap.size A1 (ints (writtenT tx)) → Sees U U.heap.size A2 (ints (writtenT ty)) → Calls Tryz.prog 43 #[.slice A1 (writtenT tx).length c1, .slice A2 (writtenT ty).length c2] U fun e w' => e = .returned (.bool true) ∧ Below U.heap.size U w') := Lib.hid (fun U A1 c1 A2 c2 h1 h2 => by
    rw [ew] at h1 ⊢
    exact law_sameInts (writtenT ty) A1 A2 c1 c2 U (by have := written_len ty; omega) h1 h2)
  obtain ⟨RP, hRP⟩ : ∃ RP, RP = ty.reps := ⟨_, rfl⟩
  obtain ⟨NP, hNP⟩ : ∃ NP, NP = ty.name := ⟨_, rfl⟩
  have RX : Hid (tx.reps = RP) := Lib.hid (er.trans hRP.symm)
  have RY : Hid (ty.reps = RP) := Lib.hid hRP.symm
  have NX : Hid (tx.name = NP) := Lib.hid (en.trans hNP.symm)
  have NY : Hid (ty.name = NP) := Lib.hid hNP.symm
  have FX := Lib.hid fx
  have FY := Lib.hid fy
  have BX := Lib.hid wx
  have BY := Lib.hid wy
  clear h fx fy es ew er en ec wx wy hRP hNP
  go_enter Tryz.func21, Tryz.ntmps21
  go_upto_region 1 with fail
  go_region_with (first
    | (go_at_call_of 24 (xb); refine (a_Screen TW.out FX.out).mono ?_; rintro e u1 ⟨A1, c1, rfl, N1, hb⟩; have TW := Lib.hid (TW.out.below hb); have N1 := Lib.hid N1; have KZ := Lib.hid (KZ.out.below hb); clear hb)
    | (go_at_call_of 24 (yb); refine (a_Screen TW.out.symm FY.out).mono ?_; rintro e u2 ⟨A2, c2, rfl, N2, hb⟩; have TW := Lib.hid (TW.out.below hb); have N1 := Lib.hid (N1.out.keep (fun g m => hb.block g (N1.out.lt g m))); have N2 := Lib.hid N2; have KZ := Lib.hid (KZ.out.below hb); clear hb)
    | (go_at_call 42; refine (SM.out _ _ _ _ _ N1.out N2.out).mono ?_; rintro e u3 ⟨rfl, hb⟩; have TW := Lib.hid (TW.out.below hb); have KZ := Lib.hid (KZ.out.below hb); clear hb)
    | (go_at_call_of 22 (xb); refine (a_Written TW.out BX.out).mono ?_; rintro e u4 ⟨A4, c4, Z4, rfl, SE4, zm4, zz4, ze4, T4, sz4⟩; have TW := Lib.hid T4; have SE4 := Lib.hid SE4; have ZM4 := Lib.hid zm4; have KZ := Lib.hid (KZ.out.step zz4 ze4); clear zm4 zz4 ze4 T4 sz4)
    | (go_at_call_of 22 (yb); refine (a_Written TW.out.symm BY.out).mono ?_; rintro e u5 ⟨A5, c5, Z5, rfl, SE5, zm5, zz5, ze5, T5, sz5⟩; have TW := Lib.hid T5.symm; have SE4 := Lib.hid (sees_z SE4.out sz5 (fun a e => ze5 _ (ZM4.out a e))); have SE5 := Lib.hid SE5; have KZ := Lib.hid (KZ.out.step zz5 ze5); clear zm5 zz5 ze5 T5 sz5)
    | (go_at_call 43; refine (SI.out _ _ _ _ _ SE4.out SE5.out).mono ?_; rintro e u6 ⟨rfl, hb⟩; have TW := Lib.hid (TW.out.below hb); have KZ := Lib.hid (KZ.out.below hb); clear hb)
    | (go_at_call_of 17 (xb); refine (two_Replies TW.out).mono ?_; rintro e u7 ⟨v7, rfl, K7, T7, ze7⟩; have KZ := Lib.hid (KZ.out.step (fun z m => List.mem_append_right (ob v7) m) ze7); have K7 : KeptAt u7 v7 RP := by rw [← RX.out]; exact K7
       obtain ⟨A7, c7, e7, _⟩ := id K7; subst e7; have CV7 := kept_string K7; have TW := Lib.hid T7; have K7 := Lib.hid K7; clear T7)
    | (go_at_call_of 17 (yb); refine (two_Replies TW.out.symm).mono ?_; rintro e u8 ⟨v8, rfl, K8, T8, ze8⟩; have KZ := Lib.hid (KZ.out.fin ze8); have K8 : KeptAt u8 v8 RP := by rw [← RY.out]; exact K8
       have K7b := K7.out.keep (fun g m => ze8 g (List.mem_append_left _ m)); have CV7b := kept_string K7b; obtain ⟨A8, c8, e8, _⟩ := id K8; subst e8; have CV8 := kept_string K8; have TW := Lib.hid T8.symm; clear T8 ze8 K8 K7b)
    | (go_at_call_of 25 (xb); refine (a_Title TW.out).mono ?_; rintro e u9 ⟨rfl, rfl⟩; rw [show (noR (nowW tx)).name = NP from NX.out])
    | (go_at_call_of 25 (yb); refine (a_Title TW.out.symm).mono ?_; rintro e u10 ⟨rfl, rfl⟩; rw [show (noR (nowW ty)).name = NP from NY.out]))
  all_goals (go_wp2_with fail)
  all_goals go_ret
  all_goals exact ⟨rfl, TW.out.bel, fun z m => (KZ.out z m).1⟩
end
end Go.Proofs.YtkllilehdpdbdaaGreatDoor
