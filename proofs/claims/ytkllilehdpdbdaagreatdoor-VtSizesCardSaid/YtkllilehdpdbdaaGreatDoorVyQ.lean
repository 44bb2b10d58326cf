/- Two terminals side by side. -/
import Derived.Test.YtkllilehdpdbdaaGreatDoorVyPb
namespace Go.Proofs.YtkllilehdpdbdaaGreatDoor
open Go Go.RowKit Go.Sort
set_option linter.unusedVariables false
set_option linter.unusedSimpArgs false
section
variable {W V V' : World} {xb yb : Nat} {tx ty tx' ty' : Trm}
/-- two terminals that lie apart, both newer than W; other blocks that are none of theirs -/
structure Two (W V : World) (xb : Nat) (tx : Trm) (yb : Nat) (ty : Trm) (Z : List Nat) : Prop where
  g0 : EnvV W
  bel : Below W.heap.size W V
  lay : ∃ L1 L2, L1.b = xb ∧ L2.b = yb ∧ TrmAt V L1 tx ∧ TrmAt V L2 ty ∧ (∀ g ∈ L1.fp, W.heap.size ≤ g) ∧ (∀ g ∈ L2.fp, W.heap.size ≤ g) ∧ (∀ g ∈ L1.fp, g ∉ L2.fp) ∧ ∀ z ∈ Z, z < V.heap.size ∧ z ∉ L1.fp ∧ z ∉ L2.fp
variable {Z : List Nat}
theorem Two.symm (h : Two W V xb tx yb ty Z) : Two W V yb ty xb tx Z := by
  obtain ⟨L1, L2, a, b, c, d, e, f, g, z⟩ := h.lay
  exact ⟨h.g0, h.bel, L2, L1, b, a, d, c, f, e, fun k m m2 => g k m2 m, fun k m => ⟨(z k m).1, (z k m).2.2, (z k m).2.1⟩⟩
theorem Two.env (h : Two W V xb tx yb ty Z) : EnvV V := h.g0.mv (Mv.below (F := []) h.bel) (by simp)
theorem Two.below (h : Two W V xb tx yb ty Z) (hb : Below V.heap.size V V') : Two W V' xb tx yb ty Z := by
  obtain ⟨L1, L2, a, b, c, d, e, f, g, z⟩ := h.lay
  exact ⟨h.g0, h.bel.trans (hb.mono h.bel.size), L1, L2, a, b, c.keep (fun k m => hb.block k (c.lt k m)), d.keep (fun k m => hb.block k (d.lt k m)), e, f, g, fun k m => ⟨Nat.lt_of_lt_of_le (z k m).1 hb.size, (z k m).2⟩⟩
theorem new_notV (E : EnvV W) {b : Nat} (h : W.heap.size ≤ b) : NotV b := by
  have a := block_lt_of_cell (E.st.on 0 (by decide))
  have c := block_lt_of_cell (E.st.off 0 (by decide))
  have d := E.pg
  simp only at a c
  exact ⟨by omega, by omega, by omega⟩
/-- a step of the first; the second stays, and the others -/
theorem Two.left (h : Two W V xb tx yb ty Z) : ∃ F, St V F xb tx V ∧ (∀ tx' V', St V F xb tx' V' → Two W V' xb tx' yb ty Z ∧ ∀ z ∈ Z, V'.heap[z]? = V.heap[z]?) ∧ (∀ b ∈ F, W.heap.size ≤ b) ∧ ∀ b ∈ F, b < V.heap.size := by
  obtain ⟨L1, L2, a, b, c, d, e, f, g, z⟩ := h.lay
  refine ⟨L1.fp, ⟨h.env, Mv.refl _ _, fun b m => new_notV h.g0 (e b m), L1, a, c, fun b m => Or.inl m⟩, fun tx' V' k => ⟨?_, fun j m => k.mv.blk j (z j m).1 (z j m).2.1⟩, e, c.lt⟩
  obtain ⟨L1', a', c', f'⟩ := k.lay
  refine ⟨h.g0, ⟨k.mv.os.trans h.bel.os, k.mv.tape.trans h.bel.tape, k.mv.output.trans h.bel.output, Nat.le_trans h.bel.size k.mv.size, fun j hj => (k.mv.blk j (Nat.lt_of_lt_of_le hj h.bel.size) (fun m => by have := e j m; omega)).trans (h.bel.block j hj)⟩, L1', L2, a', b, c', d.keep (fun j m => k.mv.blk j (d.lt j m) (fun m2 => g j m2 m)), fun j m => ?_, f, fun j m m2 => ?_, fun j m => ⟨Nat.lt_of_lt_of_le (z j m).1 k.mv.size, fun m2 => ?_, (z j m).2.2⟩⟩
  · rcases f' j m with z | z
    · exact e j z
    · exact Nat.le_trans h.bel.size z
  · rcases f' j m with z | z
    · exact g j z m2
    · have := d.lt j m2; omega
  · rcases f' j m2 with q | q
    · exact (z j m).2.1 q
    · have := (z j m).1; omega
theorem Two.right (h : Two W V xb tx yb ty Z) : ∃ F, St V F yb ty V ∧ (∀ ty' V', St V F yb ty' V' → Two W V' xb tx yb ty' Z ∧ ∀ z ∈ Z, V'.heap[z]? = V.heap[z]?) ∧ (∀ b ∈ F, W.heap.size ≤ b) ∧ ∀ b ∈ F, b < V.heap.size := by
  obtain ⟨F, h1, h2, h3, h4⟩ := h.symm.left
  exact ⟨F, h1, fun ty' V' k => ⟨(h2 ty' V' k).1.symm, (h2 ty' V' k).2⟩, h3, h4⟩
/-- a second one is made -/
theorem Two.new {V0 : World} (h : St W [] xb tx V0) (hb : Below V0.heap.size V0 V) (hn : St V0 [] yb ty V) : Two W V xb tx yb ty [] := by
  obtain ⟨L1, a, c, f⟩ := h.lay
  obtain ⟨L2, b, d, f2⟩ := hn.lay
  have n2 : ∀ g ∈ L2.fp, V0.heap.size ≤ g := fun g m => (f2 g m).elim (fun z => by simp at z) id
  have ge := h.mv.size
  exact ⟨h.g0, (old_mv h.mv).trans (hb.mono ge), L1, L2, a, b, c.keep (fun g m => hb.block g (c.lt g m)), d, fun g m => (f g m).elim (fun z => by simp at z) id, fun g m => Nat.le_trans ge (n2 g m), fun g m m2 => by have := c.lt g m; have := n2 g m2; omega, fun g m => by simp at m⟩
/-- a block of another type is looked after, too -/
theorem Two.other (h : Two W V xb tx yb ty Z) {g : Nat} {cur : Array Value} {Ty : TypeId} {fl : Nat × Nat} (hg : V.heap[g]? = some (.cells cur Ty fl)) (o : OtherT Ty) : Two W V xb tx yb ty (g :: Z) := by
  obtain ⟨L1, L2, a, b, c, d, e, f, k, z⟩ := h.lay
  refine ⟨h.g0, h.bel, L1, L2, a, b, c, d, e, f, k, fun j m => ?_⟩
  rcases List.mem_cons.1 m with rfl | m
  · exact ⟨(Array.getElem?_eq_some_iff.1 hg).1, c.notTy hg o, d.notTy hg o⟩
  · exact z j m
set_option maxHeartbeats 4000000 in
set_option maxRecDepth 100000 in
/-- the first tells its answers: they are no one's then -/
theorem two_Replies (h : Two W V xb tx yb ty Z) : Calls Tryz.prog 17 #[.pointer (some ⟨xb, 0, none⟩)] V fun e w' => ∃ v, e = .returned v ∧ KeptAt w' v tx.reps ∧ Two W w' xb (noR tx) yb ty (ob v ++ Z) ∧ ∀ z ∈ Z, w'.heap[z]? = V.heap[z]? := by
  obtain ⟨F, S1, up, _, _⟩ := h.left
  obtain ⟨L, v, eb, B1, er, ⟨A, c, ev⟩, K, L2, T2, e2, ns, _, S⟩ := S1.noR
  have R := up _ _ S
  obtain ⟨L1, L2y, a, b, cc, d, e, f, g, z⟩ := h.lay
  have rr : ob v = ob L1.r := by
    have q := cc.own
    rw [a] at q
    have q1 := B1.c 26 _ rfl
    have q2 := q.c 26 _ rfl
    rw [q1] at q2
    injection q2 with q2
    rw [← er, q2]
  have TZ : Two W (V.setCell ⟨xb, 26, none⟩ (.slice none 0 0)) xb (noR tx) yb ty (ob v ++ Z) := by
    obtain ⟨M1, M2, a', b', c', d', e', f', g', z'⟩ := R.1.lay
    refine ⟨R.1.g0, R.1.bel, M1, M2, a', b', c', d', e', f', g', fun j m => ?_⟩
    have fpL : ∀ {La Lb : Lay} {t1 t2 : Trm} {U : World} {xx : Nat}, La.b = xx → Lb.b = xx → TrmAt U La t1 → Bk U xx (trmV t1 Lb) 91 → ∀ g ∈ La.fp, g ∈ Lb.fp := fun {La} {Lb} {t1} {t2} {U} {xx} h1 h2 T B g m => by
      have q := T.own
      rw [h1] at q
      unfold Bk at q B
      rw [q] at B
      injection B with B
      injection B with B
      have ee : trmV t1 La = trmV t1 Lb := by simpa using B
      simp only [trmV, List.cons.injEq, Value.pointer.injEq, Option.some.injEq, Addr.mk.injEq] at ee
      obtain ⟨-, -, x2, -, -, -, -, -, -, x9, -, -, -, -, -, -, -, -, -, -, -, -, -, x23, -, -, x26, x27, -, x29, x30, x31, -⟩ := ee
      refine Lay.mem.2 ?_
      rcases Lay.mem.1 m with z | z | z | z | z | z | z | z | z
      · left; rw [z, h1, h2]
      · right; left; rw [z]; exact x30.1
      · rw [x2] at z; simp [z]
      · rw [x9] at z; simp [z]
      · rw [x23] at z; simp [z]
      · rw [x27] at z; simp [z]
      · rw [x26] at z; simp [z]
      · rw [x29] at z; simp [z]
      · rw [x31] at z; simp [z]
    rcases List.mem_append.1 m with m | m
    · refine ⟨K.lt j m, fun m2 => ?_, fun m2 => ?_⟩
      · have := ns j m
        exact this (fpL (t2 := noR tx) a' e2 c' (e2 ▸ T2.own) j m2)
      · rw [rr] at m
        have j1 : j ∈ L1.fp := Lay.mem.2 (by simp [m])
        have nb : yb ≠ xb := fun q => g L1.b (Lay.mem.2 (by simp)) (by rw [a, ← q, ← b]; exact Lay.mem.2 (by simp))
        have dK : TrmAt (V.setCell ⟨xb, 26, none⟩ (.slice none 0 0)) L2y ty := d.keep (fun i mi => heap_setCell_other V ⟨xb, 26, none⟩ i _ (fun q => by
          simp only at q
          exact g L1.b (Lay.mem.2 (by simp)) (by rw [a, ← q]; exact mi)))
        exact g j j1 (fpL (t2 := ty) b' b d' (b ▸ dK.own) j m2)
    · exact z' j m
  have k26 := B1.c 26 _ rfl
  have kf26 := B1.f 26
  rw [er, ev] at k26
  have RR := Lib.hid (And.intro K (And.intro TZ R.2))
  rw [ev] at RR
  clear B1 h T2 S S1 K ns ev er R TZ up cc d e f g z rr
  go_enter Tryz.func17, Tryz.ntmps17
  go_wp2_with fail
  go_ret
  exact ⟨_, rfl, RR.out⟩
end
section
set_option maxHeartbeats 4000000 in
set_option maxRecDepth 100000 in
theorem law_sameInts (l : List Int) (A1 A2 : Option Addr) (c1 c2 : Nat) (W : World) (hl : l.length ≤ 2000000) (S1 : Sees W W.heap.size A1 (ints l)) (S2 : Sees W W.heap.size A2 (ints l)) :
    Calls Tryz.prog 43 #[.slice A1 l.length c1, .slice A2 l.length c2] W fun e w' => e = .returned (.bool true) ∧ Below W.heap.size W w' := by
  have CE : Hid (∀ k wr, k < l.length → Below W.heap.size W wr → ∃ a1 a2, A1 = some a1 ∧ A2 = some a2 ∧ wr.cell? (a1.add k) = some (.int .i64 (l.getD k 0)) ∧ wr.cell? (a2.add k) = some (.int .i64 (l.getD k 0))) := Lib.hid (fun k wr hk hb => by
    obtain ⟨a1, e1, b1, h1⟩ := S1.at (k := k) (by unfold ints; simpa using hk)
    obtain ⟨a2, e2, b2, h2⟩ := S2.at (k := k) (by unfold ints; simpa using hk)
    have e : (ints l)[k]'(by unfold ints; simpa using hk) = .int .i64 (l.getD k 0) := by unfold ints; simp [List.getD_eq_getElem?_getD, List.getElem?_eq_getElem hk]
    rw [e] at h1 h2
    exact ⟨a1, a2, e1, e2, (hb.cell (by rw [add_blk]; exact b1)).trans h1, (hb.cell (by rw [add_blk]; exact b2)).trans h2⟩)
  obtain ⟨n, hn⟩ : ∃ n, n = l.length := ⟨_, rfl⟩
  rw [← hn] at CE hl ⊢
  clear S1 S2 hn
  have HB : Hid (Below W.heap.size W W) := Lib.hid (Below.refl _ _)
  go_enter Tryz.func43, Tryz.ntmps43
  go_wp2_with fail
  go_loopw [13] (fun i wr => ∃ k : Nat, k ≤ n ∧ i = .int .i64 (k : Int) ∧ Hid (Below W.heap.size W wr)) (fun i _ => n - (intOf i).toNat)
  case atStart => exact ⟨0, Nat.zero_le _, by simp, HB⟩
  case round =>
    obtain ⟨k, hk, rfl, hr⟩ := hrel
    clear HB
    by_cases lt : k < n
    · obtain ⟨a1, a2, rfl, rfl, y1, y2⟩ := CE.out k wr lt hr.out
      generalize l.getD k 0 = x at *
      have q0 : (0 : Int) ≤ (k : Int) := by omega
      have q5 : (k : Int) < (n : Int) := by omega
      have tn : (k : Int).toNat = k := by omega
      have wk : IntKind.i64.wrap ((k : Int) + 1) = (k : Int) + 1 := IntWalk.i64_in _ (by omega)
      clear CE
      go_upto_region 6 with fail
      refine wp_region_draw_tail 8 (by kernel_rfl) (by kernel_rfl) ?_
      simp only [List.take_succ_cons, List.take_zero, List.drop_succ_cons, List.drop_zero]
      repeat (quiet_step (fail))
      refine wpQuiet_nil ?_
      intro _ hw'
      obtain ⟨nq, hw''⟩ := hw'
      subst hw''
      have H2 := Lib.hid (below_drewN hr.out nq)
      go_wp2_with fail
      go_roundw
      case rel => exact ⟨k + 1, by omega, by go_num, H2⟩
      case measure => simp [intOf]; omega
    · have ek : k = n := by omega
      subst ek
      have q5 : ¬ (k : Int) < (k : Int) := by omega
      clear CE
      go_wp2_with fail
      go_ret
      exact ⟨rfl, hr.out⟩
end
end Go.Proofs.YtkllilehdpdbdaaGreatDoor
