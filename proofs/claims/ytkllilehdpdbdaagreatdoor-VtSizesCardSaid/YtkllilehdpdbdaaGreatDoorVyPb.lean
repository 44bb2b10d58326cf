/- slices.Clone of cells. -/
import Derived.Test.YtkllilehdpdbdaaGreatDoorVyPa
import Derived.Lib.SlBytesConst
namespace Go.Proofs.YtkllilehdpdbdaaGreatDoor
open Go Go.RowKit Go.Sort
set_option linter.unusedVariables false
set_option linter.unusedSimpArgs false
section
variable {w0 : World} {F0 : List Nat} {tb : Nat} {t t' : Trm} {W W' : World}
/-- a row of one's own, all of it new -/
def NewRow (B : Nat) (T : TypeId) (sz : Nat) (v : Value) (n : Nat) (xs : List Value) (w : World) : Prop := RowAt w T sz v n xs ∧ ∀ g ∈ ob v, B ≤ g
theorem NewRow.below {B sz n : Nat} {T : TypeId} {v : Value} {xs : List Value} {w w' : World} (h : NewRow B T sz v n xs w) (hb : Below w.heap.size w w') : NewRow B T sz v n xs w' := ⟨h.1.keep (fun g m => hb.block g (h.1.lt g m)), h.2⟩
theorem celOne (l : List Cel) : ∀ u ∈ celsV l, u.oneCell' = true := by
  induction l with
  | nil => intro u hu; cases hu
  | cons c r ih =>
    intro u hu
    have e : celsV (c :: r) = [.string c.text, .int .i8 c.wide, .int .i32 c.st.fg, .int .i32 c.st.bg, .int .u8 (bI c.st.at_)] ++ celsV r := rfl
    rw [e] at hu
    rcases List.mem_append.1 hu with m | m
    · simp at m
      rcases m with rfl | rfl | rfl | rfl | rfl <;> rfl
    · exact ih u m
theorem append_cels {w : World} {g : Nat} (hg : w.heap[g]? = some (.cells #[] 49 (0, 0))) (ad : Addr) (m c : Nat) (news : List Value) (hl : news.length = m * 5) (hn : ∀ j u, news[j]? = some u → w.cell? (ad.add j) = some u) (hm : m ≤ 1048576) (hm0 : 0 < m) :
    ∃ v' w', (Builtin.append_ #[40, 40] 40 #[.slice (some ⟨g, 0, none⟩) 0 0, .slice (some ad) m c]).run Tryz.prog w = .ok v' w' ∧ Below w.heap.size w w' ∧ NewRow w.heap.size 49 5 v' m news w' := by
  obtain ⟨i0, hi, hz⟩ := Option.map_eq_some_iff.1 infoCel
  simp only [Prod.mk.injEq] at hz
  obtain ⟨hz0, hz1, hz2⟩ := hz
  obtain ⟨z, hzz, hzc⟩ := Option.map_eq_some_iff.1 hz0
  obtain ⟨v', w', hr, ho, hgr⟩ := run_append_arg_grows (P := Tryz.prog) w 40 40 49 i0 z 5 32 Tryz.underlying40 hi hzz hz1 hz2 (by rw [hzc]; rfl) (by decide) ⟨g, 0, none⟩ 0 0 [] (by simp) (by simp) ad m c news hl hn (by omega) (by unfold maxLen; omega) (by omega)
  rw [Nat.zero_add] at ho
  rw [List.nil_append] at ho
  refine ⟨v', w', hr, ⟨hgr.os, hgr.tape, hgr.output, hgr.size, fun k hk => hgr.block k hk (by simp)⟩, ?_⟩
  rcases ho.2 with ⟨_, a⟩ | ⟨g2, cap, cur, rfl, h2, h3, h4, h5⟩
  · omega
  · have lo := own_low ho (Nat.zero_le _)
    refine ⟨RowAt.of_own lo (by omega), fun b hb => ?_⟩
    obtain ⟨c', rfl⟩ : ∃ c', cap = c' + 1 := ⟨cap - 1, by omega⟩
    have : b = g2 := by simpa [ob] using hb
    omega
theorem append_none {w : World} {g : Nat} (hg : w.heap[g]? = some (.cells #[] 49 (0, 0))) (ad : Addr) (c : Nat) :
    (Builtin.append_ #[40, 40] 40 #[.slice (some ⟨g, 0, none⟩) 0 0, .slice (some ad) 0 c]).run Tryz.prog w = .ok (.slice (some ⟨g, 0, none⟩) 0 0) w := by
  obtain ⟨i0, hi, _⟩ := Option.map_eq_some_iff.1 infoCel
  have := run_append_room_cells (P := Tryz.prog) w 40 40 49 i0 Tryz.underlying40 hi g 0 0 0 ad 0 c [] (by simp) (by simp) (by simp) (by omega) (by simp) (by simp)
  simpa [World.setCells] using this
theorem sl_none (n c : Nat) (w : World) : (binOp .eql 40 (.slice none n c) (.slice none 0 0)).run Tryz.prog w = .ok (.bool true) w := by kernel_rfl
theorem sl_some (ad : Addr) (n c : Nat) (w : World) : (binOp .eql 40 (.slice (some ad) n c) (.slice none 0 0)).run Tryz.prog w = .ok (.bool false) w := by kernel_rfl
set_option maxHeartbeats 4000000 in
set_option maxRecDepth 100000 in
theorem d_CloneC (A : Option Addr) (l : List Cel) (c : Nat) (W : World) (K : RowAt W 49 5 (.slice A l.length c) l.length (celsV l)) (hl : l.length ≤ 1048576) : Calls Tryz.prog 44 #[.slice A l.length c] W fun e w' => ∃ v, e = .returned v ∧ NewRow W.heap.size 49 5 v l.length (celsV l) w' ∧ Below W.heap.size W w' := by
  have SN := sl_none
  have SS := sl_some
  by_cases z : l.length = 0
  · have e : l = [] := List.eq_nil_of_length_eq_zero z
    subst e
    cases A with
    | none =>
      clear K
      go_enter Tryz.func44, Tryz.ntmps44
      go_wp2_with fail
      go_ret
      exact ⟨_, rfl, ⟨Or.inl ⟨rfl, rfl, none, rfl⟩, fun g m => by simp [ob] at m⟩, Below.refl _ _⟩
    | some ad =>
      obtain ⟨V, hV⟩ : ∃ V, V = W.alloc (.cells #[] 49) := ⟨_, rfl⟩
      have BV : Below W.heap.size W V := by rw [hV]; exact (Below.refl _ W).alloc (Nat.le_refl _) _
      have AP := append_none (w := V) (g := W.heap.size) (by rw [hV]; exact World.alloc_heap_new W _) ad c
      clear K
      go_enter Tryz.func44, Tryz.ntmps44
      go_upto_region 3 with fail
      have BV := Lib.hid BV
      have AP := Lib.hid AP
      have HV := Lib.hid hV
      clear hV
      go_wp2_with (at_builtin; rw [← HV.out]; refine wpList_append_run rfl (.tmp 5) (.tmp 6) 40 40 rfl _ _ _ _ rfl rfl AP.out ?_)
      go_ret
      exact ⟨_, rfl, ⟨Or.inl ⟨rfl, rfl, _, rfl⟩, fun g m => by simp [ob] at m⟩, BV.out⟩
  · have K0 := K
    obtain ⟨g, cap, ec, eo, ho, hc⟩ := K.slice (by omega)
    simp only [Value.slice.injEq] at ec
    obtain ⟨rfl, _, rfl⟩ := ec
    obtain ⟨V, hV⟩ : ∃ V, V = W.alloc (.cells #[] 49) := ⟨_, rfl⟩
    have BV : Below W.heap.size W V := by rw [hV]; exact (Below.refl _ W).alloc (Nat.le_refl _) _
    obtain ⟨v', w', AP, B2, NR⟩ := append_cels (w := V) (g := W.heap.size) (by rw [hV]; exact World.alloc_heap_new W _) ⟨g, 0, none⟩ l.length c (celsV l) (by rw [celsV_len]) (fun j u hj => by
      rw [add_at, Nat.zero_add]
      have lj : j < l.length * 5 := by have := (List.getElem?_eq_some_iff.1 hj).1; rw [celsV_len] at this; exact this
      obtain ⟨cur, hcu⟩ := own_block ho
      exact (BV.cell (p := ⟨g, j, none⟩) (Array.getElem?_eq_some_iff.1 hcu).1).trans ((ho.cellAt j lj).trans hj)) hl (by omega)
    have NW : Hid (NewRow W.heap.size 49 5 v' l.length (celsV l) w') := Lib.hid ⟨NR.1, fun b m => Nat.le_trans BV.size (NR.2 b m)⟩
    have BB : Hid (Below W.heap.size W w') := Lib.hid (BV.trans (B2.mono BV.size))
    have HV := Lib.hid hV
    have AP := Lib.hid AP
    clear K K0 eo ho hc hV BV B2 NR
    generalize celsV l = xs at *
    generalize l.length = n at *
    go_enter Tryz.func44, Tryz.ntmps44
    go_wp2_with (at_builtin; rw [← HV.out]; refine wpList_append_run rfl (.tmp 5) (.tmp 6) 40 40 rfl _ _ _ _ rfl rfl AP.out ?_)
    go_ret
    exact ⟨_, rfl, NW.out, BB.out⟩
end
end Go.Proofs.YtkllilehdpdbdaaGreatDoor

/- What is seen of a terminal: Screen. -/
namespace Go.Proofs.YtkllilehdpdbdaaGreatDoor
open Go Go.RowKit Go.Sort
set_option linter.unusedVariables false
set_option linter.unusedSimpArgs false
section
variable {w0 : World} {F0 : List Nat} {tb : Nat} {t t' : Trm} {W W' : World}
def six (X : World) (r : Nat) (v0 v1 v2 v3 v4 v5 : Value) : World := (((((X.setCell ⟨r, 0, none⟩ v0).setCell ⟨r, 1, none⟩ v1).setCell ⟨r, 2, none⟩ v2).setCell ⟨r, 3, none⟩ v3).setCell ⟨r, 4, none⟩ v4).setCell ⟨r, 5, none⟩ v5
theorem six_far (X : World) (r : Nat) (v0 v1 v2 v3 v4 v5 : Value) : (∀ b, b ≠ r → (six X r v0 v1 v2 v3 v4 v5).heap[b]? = X.heap[b]?) ∧ (∀ W : World, Below r W X → Below r W (six X r v0 v1 v2 v3 v4 v5)) ∧ (∀ a b c d e f T, Bk X r [a, b, c, d, e, f] T → Bk (six X r v0 v1 v2 v3 v4 v5) r [v0, v1, v2, v3, v4, v5] T) := by
  unfold six
  refine ⟨fun b hb => ?_, fun W h => ?_, fun a b c d e f T h => ?_⟩
  · rw [heap_setCell_other _ ⟨r, 5, none⟩ b _ hb, heap_setCell_other _ ⟨r, 4, none⟩ b _ hb, heap_setCell_other _ ⟨r, 3, none⟩ b _ hb, heap_setCell_other _ ⟨r, 2, none⟩ b _ hb, heap_setCell_other _ ⟨r, 1, none⟩ b _ hb, heap_setCell_other _ ⟨r, 0, none⟩ b _ hb]
  · exact (((((h.setCell (p := ⟨r, 0, none⟩) (Nat.le_refl _) _).setCell (p := ⟨r, 1, none⟩) (Nat.le_refl _) _).setCell (p := ⟨r, 2, none⟩) (Nat.le_refl _) _).setCell (p := ⟨r, 3, none⟩) (Nat.le_refl _) _).setCell (p := ⟨r, 4, none⟩) (Nat.le_refl _) _).setCell (p := ⟨r, 5, none⟩) (Nat.le_refl _) _
  · exact (((((h.set 0 v0).set 1 v1).set 2 v2).set 3 v3).set 4 v4).set 5 v5
def cloS (B n : Nat) (xs : List Value) : Spec := ⟨fun v w => ∃ A c, v = .slice A n c ∧ NewRow B 49 5 v n xs w, fun v w w' hb ⟨A, c, e, h⟩ => ⟨A, c, e, h.below hb⟩⟩
def aggS (B n : Nat) (xs : List Value) (w h : Int) : Spec := ⟨fun v W => ∃ A c, v = .agg #[.int .i64 w, .int .i64 h, .slice A n c, .int .i64 0, .int .i64 0, .bool false] ∧ NewRow B 49 5 (.slice A n c) n xs W, fun v w w' hb ⟨A, c, e, h⟩ => ⟨A, c, e, h.below hb⟩⟩
def zscS (B : Nat) : Spec := ⟨fun v W => ∃ g, v = .pointer (some ⟨g, 0, none⟩) ∧ B ≤ g ∧ Bk W g [.int .i64 0, .int .i64 0, .slice none 0 0, .int .i64 0, .int .i64 0, .bool false] 42, fun v w w' hb ⟨g, e, h, k⟩ => ⟨g, e, h, k.of_eq (hb.block g k.lt)⟩⟩
set_option maxHeartbeats 8000000 in
set_option maxRecDepth 100000 in
theorem t_Screen (h : St w0 F0 tb t W) (f : Fine t) : Calls Tryz.prog 24 #[.pointer (some ⟨tb, 0, none⟩)] W fun e w' => ∃ A c, e = .returned (scrV (seenT t) A c) ∧ NewRow W.heap.size 49 5 (.slice A t.cells.length c) t.cells.length (celsV t.cells) w' ∧ Below W.heap.size W w' := by
  obtain ⟨W1, hW1⟩ : ∃ W1, W1 = W.alloc (.cells #[.int .i64 0, .int .i64 0, .slice none 0 0, .int .i64 0, .int .i64 0, .bool false] 42) := ⟨_, rfl⟩
  have B1 : Below W.heap.size W W1 := by rw [hW1]; exact (Below.refl _ W).alloc (Nat.le_refl _) _
  have K1 : Bk W1 W.heap.size [.int .i64 0, .int .i64 0, .slice none 0 0, .int .i64 0, .int .i64 0, .bool false] 42 := by rw [hW1]; exact Bk.new W _ _
  have H := Lib.hid (h.below B1)
  have cl8 : t.cells.length ≤ 1048576 := by have := f.cl; have := f.ar; omega
  obtain ⟨L, rfl, T, _⟩ := H.out.lay
  obtain ⟨A0, c0, e0⟩ := T.c.asSlice
  have TC := T.c
  rw [e0] at TC
  have k0 := fun d os => (T.own.regrown d os).c 0 _ rfl
  have k1 := fun d os => (T.own.regrown d os).c 1 _ rfl
  have k2 := fun d os => (T.own.regrown d os).c 2 _ rfl
  rw [e0] at k2
  have CL : Hid (∀ d os, Calls Tryz.prog 44 #[.slice A0 t.cells.length c0] (grow (redrawn W1 d) os) fun e w' => ∃ v, e = .returned v ∧ (cloS W1.heap.size t.cells.length (celsV t.cells)).r v w' ∧ Below (grow (redrawn W1 d) os).heap.size (grow (redrawn W1 d) os) w') := Lib.hid (fun d os => by
    have B := below_regrown W1 d os
    refine (d_CloneC A0 t.cells c0 _ (TC.keep (fun g m => B.block g (TC.lt g m))) cl8).mono ?_
    rintro e w' ⟨v, rfl, nr, hb2⟩
    obtain ⟨A, c, ev⟩ := nr.1.asSlice
    exact ⟨v, rfl, ⟨A, c, ev, nr.1, fun g m => Nat.le_trans B.size (nr.2 g m)⟩, hb2⟩)
  have FH := Lib.hid f
  have B1 := Lib.hid B1
  have K1 := Lib.hid K1
  clear h f T e0 TC
  go_enter Tryz.func24, Tryz.ntmps24
  go_upto_region 1 with fail
  rw [← hW1]
  clear hW1
  go_upto_region 3 with fail
  refine wp_region_spec 18 [(22, cloS W1.heap.size t.cells.length (celsV t.cells)), (23, aggS W1.heap.size t.cells.length (celsV t.cells) t.w t.h), (3, zscS W1.heap.size)] [3, 22, 23] (by kernel_rfl) (by kernel_rfl) (by kernel_rfl) (by intro t ht; simp at ht; rcases ht with rfl | rfl | rfl <;> (intro h; cases h)) ?_
  simp only [List.take_succ_cons, List.take_zero, List.drop_succ_cons, List.drop_zero]
  repeat (refine wpS_step (by rfl) (fun K hK => ?_); go_simp; first | (refine hK _ ?_; clear hK K) | (apply Exists.intro; refine ⟨fun _ => ?_, hK _ ?_⟩; (fail); clear hK K))
  refine wpS_born 22 rfl (by simp) (by first | (simp; done) | simp [put_size]) (by rfl) (by rfl) (by intro _ _ h; cases h) (fun x => ?_) ?_
  · go_simp
    exact ⟨Below.refl _ _, CL.out x.d x.os⟩
  refine wpS_useborn 22 23 (by simp) (by first | (simp; done) | simp [put_size]) (by rfl) rfl (by simp) (by first | (simp; done) | simp [put_size]) (by rfl) (by rfl) (by rfl) (by intro _ _ h; cases h) (fun x u hu => ?_) ?_
  · obtain ⟨A, c, rfl, h1⟩ := hu
    go_simp
    exact ⟨Below.refl _ _, A, c, rfl, h1⟩
  refine wpS_born 3 rfl (by simp) (by first | (simp; done) | simp [put_size]) (by rfl) (by rfl) (by intro _ _ h; cases h) (fun x => ?_) ?_
  · go_simp
    exact ⟨(Below.refl _ _).alloc (Nat.le_refl _) _, ⟨_, rfl, by simp [redrawn], by rw [show (redrawn W1 x.d).heap.size + x.os.size = (grow (redrawn W1 x.d) x.os).heap.size by simp [grow]]; exact Bk.new _ _ _⟩⟩
  refine wpS_nil ?_
  intro W2 vs1 hl hv
  obtain ⟨A22, c22, e22, _⟩ := hv 22 (by simp) rfl
  obtain ⟨A, c, e23, NR⟩ := hv 23 (by simp) rfl
  obtain ⟨g, e3, gl, KG⟩ := hv 3 (by simp) rfl
  simp only [fillA, e22, e23, e3]
  have hb1 := later_below.1 hl
  have H2 := Lib.hid (H.out.below hb1)
  have K2 := Lib.hid (K1.out.of_eq (hb1.block _ K1.out.lt))
  have B2 := Lib.hid (B1.out.trans (hb1.mono B1.out.size))
  have j0 := KG.c 0 _ rfl
  have j1 := KG.c 1 _ rfl
  have j2 := KG.c 2 _ rfl
  have j3 := KG.c 3 _ rfl
  have j4 := KG.c 4 _ rfl
  have j5 := KG.c 5 _ rfl
  have f0 := KG.f 0
  have f1 := KG.f 1
  have f2 := KG.f 2
  have f3 := KG.f 3
  have f4 := KG.f 4
  have f5 := KG.f 5
  obtain ⟨V, hV⟩ : ∃ V, V = (((((W2.setCell ⟨g, 0, none⟩ (.int .i64 t.w)).setCell ⟨g, 1, none⟩ (.int .i64 t.h)).setCell ⟨g, 2, none⟩ (.slice A t.cells.length c)).setCell ⟨g, 3, none⟩ (.int .i64 0)).setCell ⟨g, 4, none⟩ (.int .i64 0)).setCell ⟨g, 5, none⟩ (.bool false) := ⟨_, rfl⟩
  have KV : Bk V g [.int .i64 t.w, .int .i64 t.h, .slice A t.cells.length c, .int .i64 0, .int .i64 0, .bool false] 42 := by
    rw [hV]
    exact (((((KG.set 0 _).set 1 _).set 2 _).set 3 _).set 4 _).set 5 _
  have BV : Below W1.heap.size W1 V := by
    rw [hV]
    exact (((((hb1.setCell (p := ⟨g, 0, none⟩) gl _).setCell (p := ⟨g, 1, none⟩) gl _).setCell (p := ⟨g, 2, none⟩) gl _).setCell (p := ⟨g, 3, none⟩) gl _).setCell (p := ⟨g, 4, none⟩) gl _).setCell (p := ⟨g, 5, none⟩) gl _
  have FV : ∀ b, b ≠ g → V.heap[b]? = W2.heap[b]? := fun b hb => by
    rw [hV, heap_setCell_other _ ⟨g, 5, none⟩ b _ hb, heap_setCell_other _ ⟨g, 4, none⟩ b _ hb, heap_setCell_other _ ⟨g, 3, none⟩ b _ hb, heap_setCell_other _ ⟨g, 2, none⟩ b _ hb, heap_setCell_other _ ⟨g, 1, none⟩ b _ hb, heap_setCell_other _ ⟨g, 0, none⟩ b _ hb]
  have ng : ∀ b ∈ ob (.slice A t.cells.length c), b ≠ g ∧ b ≠ W.heap.size := fun b m => by
    obtain ⟨cur, q⟩ := NR.1.kind b m
    exact ⟨KG.ne q (by decide), K2.out.ne q (by decide)⟩
  have NV : NewRow W1.heap.size 49 5 (.slice A t.cells.length c) t.cells.length (celsV t.cells) V := ⟨NR.1.keep (fun b m => FV b (ng b m).1), NR.2⟩
  have glt : W.heap.size < g := by have := K1.out.lt; omega
  have HV := Lib.hid (H.out.below BV)
  have KW := Lib.hid (K1.out.of_eq (BV.block _ K1.out.lt))
  have BW := Lib.hid (B1.out.trans (BV.mono B1.out.size))
  have NV := Lib.hid NV
  have NG := Lib.hid ng
  have KV := Lib.hid KV
  have GL := Lib.hid glt
  have W1S := Lib.hid B1.out.size
  clear hl hv e22 e23 e3 k0 k1 k2 CL hb1 H K1 K2 B2 KG gl BV FV ng NR H2 B1 glt
  go_upto_region 4 with fail
  rw [← hV]
  clear hV j0 j1 j2 j3 j4 j5 f0 f1 f2 f3 f4 f5
  obtain ⟨L9, B9⟩ := HV.out.bk
  have k0 := B9.c 0 _ rfl
  have k1 := B9.c 1 _ rfl
  have k19 := B9.c 19 _ rfl
  have k3 := B9.c 3 _ rfl
  have k4 := B9.c 4 _ rfl
  have fw0 := FH.out.w0
  have fh0 := FH.out.h0
  have mm : 0 ≤ t.w * t.h ∧ t.w * t.h ≤ 1048576 := ⟨Int.mul_nonneg fw0 fh0, FH.out.ar⟩
  have m1 : IntKind.i64.wrap (t.w * t.h) = t.w * t.h := IntWalk.i64_in _ (by omega)
  clear B9 fw0 fh0 mm
  have FIN : Hid (∀ (X : World) (x y : Int) (s : Bool), (∀ b, b ≠ g → X.heap[b]? = V.heap[b]?) → Below W.heap.size W X →
      NewRow W.heap.size 49 5 (.slice A t.cells.length c) t.cells.length (celsV t.cells) (six X W.heap.size (.int .i64 t.w) (.int .i64 t.h) (.slice A t.cells.length c) (.int .i64 x) (.int .i64 y) (.bool s)) ∧ Below W.heap.size W (six X W.heap.size (.int .i64 t.w) (.int .i64 t.h) (.slice A t.cells.length c) (.int .i64 x) (.int .i64 y) (.bool s))) := Lib.hid (fun X x y s hX hB => by
    obtain ⟨q1, q2, q3⟩ := six_far X W.heap.size (.int .i64 t.w) (.int .i64 t.h) (.slice A t.cells.length c) (.int .i64 x) (.int .i64 y) (.bool s)
    exact ⟨⟨NV.out.1.keep (fun b m => (q1 b (NG.out b m).2).trans (hX b (NG.out b m).1)), fun b m => Nat.le_trans W1S.out (NV.out.2 b m)⟩, q2 W hB⟩)
  have ES : Hid (seenT t = if t.shown = true ∧ 0 < t.w * t.h then ⟨t.w, t.h, t.cells, t.cur.x, t.cur.y, true⟩ else ⟨t.w, t.h, t.cells, 0, 0, false⟩) := Lib.hid rfl
  have KG := KV
  generalize hm : t.cells.length = m at *
  cases sh : t.shown with
  | false =>
    rw [sh] at k19
    have ES2 : Hid (seenT t = ⟨t.w, t.h, t.cells, 0, 0, false⟩) := Lib.hid (by rw [ES.out, if_neg (by rw [sh]; simp)])
    have j0 := KV.out.c 0 _ rfl
    have j1 := KV.out.c 1 _ rfl
    have j2 := KV.out.c 2 _ rfl
    have j3 := KV.out.c 3 _ rfl
    have j4 := KV.out.c 4 _ rfl
    have j5 := KV.out.c 5 _ rfl
    have n0 := KW.out.c 0 _ rfl
    have n1 := KW.out.c 1 _ rfl
    have n2 := KW.out.c 2 _ rfl
    have n3 := KW.out.c 3 _ rfl
    have n4 := KW.out.c 4 _ rfl
    have n5 := KW.out.c 5 _ rfl
    have nf0 := KW.out.f 0
    have nf1 := KW.out.f 1
    have nf2 := KW.out.f 2
    have nf3 := KW.out.f 3
    have nf4 := KW.out.f 4
    have nf5 := KW.out.f 5
    refine wp_region_draw_tail 17 (by kernel_rfl) (by kernel_rfl) ?_
    simp only [List.take_succ_cons, List.take_zero, List.drop_succ_cons, List.drop_zero]
    repeat (first | go_big_quiet_step (fail) | quiet_step (fail))
    refine wpQuiet_nil ?_
    intro _ hw'
    obtain ⟨nq, hw''⟩ := hw'
    subst hw''
    have FI := Lib.hid (FIN.out (V.drewN nq) 0 0 false (fun b _ => rfl) (below_drewN BW.out nq))
    clear FIN
    go_wp2_with fail
    refine bodyPost_ret (v := .agg #[.int .i64 t.w, .int .i64 t.h, .slice A m c, .int .i64 0, .int .i64 0, .bool false]) (by rw [results_cell1 rfl]; go_simp) rfl ?_
    refine ⟨A, c, ?_, ?_, FI.out.2⟩
    · rw [ES2.out, ← hm]; rfl
    · first | exact FI.out.1 | (rw [hm]; exact FI.out.1)
  | true =>
    rw [sh] at k19
    have j0 := KV.out.c 0 _ rfl
    have j1 := KV.out.c 1 _ rfl
    have j2 := KV.out.c 2 _ rfl
    have j3 := KV.out.c 3 _ rfl
    have j4 := KV.out.c 4 _ rfl
    have j5 := KV.out.c 5 _ rfl
    have n0 := KW.out.c 0 _ rfl
    have n1 := KW.out.c 1 _ rfl
    have n2 := KW.out.c 2 _ rfl
    have n3 := KW.out.c 3 _ rfl
    have n4 := KW.out.c 4 _ rfl
    have n5 := KW.out.c 5 _ rfl
    have nf0 := KW.out.f 0
    have nf1 := KW.out.f 1
    have nf2 := KW.out.f 2
    have nf3 := KW.out.f 3
    have nf4 := KW.out.f 4
    have nf5 := KW.out.f 5
    refine wp_region_draw_tail 17 (by kernel_rfl) (by kernel_rfl) ?_
    simp only [List.take_succ_cons, List.take_zero, List.drop_succ_cons, List.drop_zero]
    repeat (first | go_big_quiet_step (fail) | quiet_step (fail))
    refine wpQuiet_nil ?_
    intro _ hw'
    obtain ⟨nq, hw''⟩ := hw'
    subst hw''
    by_cases ar : 0 < t.w * t.h
    · have ES2 : Hid (seenT t = ⟨t.w, t.h, t.cells, t.cur.x, t.cur.y, true⟩) := Lib.hid (by rw [ES.out, if_pos ⟨sh, ar⟩])
      obtain ⟨X, hX⟩ : ∃ X, X = V.drewN nq := ⟨_, rfl⟩
      have KX : Bk X g [.int .i64 t.w, .int .i64 t.h, .slice A m c, .int .i64 0, .int .i64 0, .bool false] 42 := by rw [hX]; exact KV.out
      have KXW : Bk X W.heap.size [.int .i64 0, .int .i64 0, .slice none 0 0, .int .i64 0, .int .i64 0, .bool false] 42 := by rw [hX]; exact KW.out
      have KT : ∃ Lx, Bk X L.b (trmV t Lx) 91 := by rw [hX]; exact (HV.out.below (below_drewN (Below.refl _ _) nq)).bk
      have BX : Below W.heap.size W X := by rw [hX]; exact below_drewN BW.out nq
      have EX : ∀ b, b ≠ g → X.heap[b]? = V.heap[b]? := fun b _ => by rw [hX]; rfl
      rw [← hX]
      obtain ⟨LX, BT⟩ := KT
      have KX2 : Hid (Bk ((((X.setCell ⟨g, 3, none⟩ (.int .i64 t.cur.x)).setCell ⟨g, 4, none⟩ (.int .i64 t.cur.y)).setCell ⟨g, 5, none⟩ (.bool true))) g [.int .i64 t.w, .int .i64 t.h, .slice A m c, .int .i64 t.cur.x, .int .i64 t.cur.y, .bool true] 42) := Lib.hid (((KX.set 3 _).set 4 _).set 5 _)
      have FI := Lib.hid (FIN.out ((((X.setCell ⟨g, 3, none⟩ (.int .i64 t.cur.x)).setCell ⟨g, 4, none⟩ (.int .i64 t.cur.y)).setCell ⟨g, 5, none⟩ (.bool true)).drew) t.cur.x t.cur.y true (fun b hb => by
        show ((((X.setCell ⟨g, 3, none⟩ (.int .i64 t.cur.x)).setCell ⟨g, 4, none⟩ (.int .i64 t.cur.y)).setCell ⟨g, 5, none⟩ (.bool true))).heap[b]? = _
        rw [heap_setCell_other _ ⟨g, 5, none⟩ b _ hb, heap_setCell_other _ ⟨g, 4, none⟩ b _ hb, heap_setCell_other _ ⟨g, 3, none⟩ b _ hb]
        exact EX b hb) ((((BX.setCell (p := ⟨g, 3, none⟩) (Nat.le_of_lt GL.out) _).setCell (p := ⟨g, 4, none⟩) (Nat.le_of_lt GL.out) _).setCell (p := ⟨g, 5, none⟩) (Nat.le_of_lt GL.out) _).drew))
      clear FIN EX BX k0 k1 k19 k3 k4 j0 j1 j2 j3 j4 j5 n0 n1 n2 n3 n4 n5 nf0 nf1 nf2 nf3 nf4 nf5 m1
      have k3 := BT.c 3 _ rfl
      have k4 := BT.c 4 _ rfl
      have k3d : X.drew.cell? ⟨L.b, 3, none⟩ = some (.int .i64 t.cur.x) := k3
      have k4d : X.drew.cell? ⟨L.b, 4, none⟩ = some (.int .i64 t.cur.y) := k4
      have j3 := KX.c 3 _ rfl
      have j4 := KX.c 4 _ rfl
      have j5 := KX.c 5 _ rfl
      have jf3 := KX.f 3
      have jf4 := KX.f 4
      have jf5 := KX.f 5
      have j3d : X.drew.cell? ⟨g, 3, none⟩ = some (.int .i64 0) := j3
      have j4d : X.drew.cell? ⟨g, 4, none⟩ = some (.int .i64 0) := j4
      have j5d : X.drew.cell? ⟨g, 5, none⟩ = some (.bool false) := j5
      have jf3d : X.drew.frozen? ⟨g, 3, none⟩ = false := jf3
      have jf4d : X.drew.frozen? ⟨g, 4, none⟩ = false := jf4
      have jf5d : X.drew.frozen? ⟨g, 5, none⟩ = false := jf5
      have KX := Lib.hid KX
      have KXW := Lib.hid KXW
      have ng : g ≠ L.b := fun z => by
        have q := KX.out
        rw [z] at q
        unfold Bk at q
        exact BT.ne q (by decide) rfl
      have ng2 : L.b ≠ g := fun z => ng z.symm
      clear BT hX
      go_upto_region 5 with fail
      go_region
      obtain ⟨Z, hZ⟩ : ∃ Z, Z = ((((X.setCell ⟨g, 3, none⟩ (.int .i64 t.cur.x)).setCell ⟨g, 4, none⟩ (.int .i64 t.cur.y)).setCell ⟨g, 5, none⟩ (.bool true))).drew := ⟨_, rfl⟩
      have KZ : Bk Z g [.int .i64 t.w, .int .i64 t.h, .slice A m c, .int .i64 t.cur.x, .int .i64 t.cur.y, .bool true] 42 := by rw [hZ]; exact KX2.out
      have ngw : W.heap.size ≠ g := by have := GL.out; omega
      have KZW : Bk Z W.heap.size [.int .i64 0, .int .i64 0, .slice none 0 0, .int .i64 0, .int .i64 0, .bool false] 42 := by
        refine KXW.out.of_eq ?_
        rw [hZ]
        show ((((X.setCell ⟨g, 3, none⟩ (.int .i64 t.cur.x)).setCell ⟨g, 4, none⟩ (.int .i64 t.cur.y)).setCell ⟨g, 5, none⟩ (.bool true))).heap[W.heap.size]? = _
        rw [heap_setCell_other _ ⟨g, 5, none⟩ _ _ ngw, heap_setCell_other _ ⟨g, 4, none⟩ _ _ ngw, heap_setCell_other _ ⟨g, 3, none⟩ _ _ ngw]
      rw [← hZ]
      rw [← hZ] at FI
      clear hZ k3 k4 k3d k4d j3 j4 j5 jf3 jf4 jf5 j3d j4d j5d jf3d jf4d jf5d ng ng2 ngw
      have j0 := KZ.c 0 _ rfl
      have j1 := KZ.c 1 _ rfl
      have j2 := KZ.c 2 _ rfl
      have j3 := KZ.c 3 _ rfl
      have j4 := KZ.c 4 _ rfl
      have j5 := KZ.c 5 _ rfl
      have n0 := KZW.c 0 _ rfl
      have n1 := KZW.c 1 _ rfl
      have n2 := KZW.c 2 _ rfl
      have n3 := KZW.c 3 _ rfl
      have n4 := KZW.c 4 _ rfl
      have n5 := KZW.c 5 _ rfl
      have nf0 := KZW.f 0
      have nf1 := KZW.f 1
      have nf2 := KZW.f 2
      have nf3 := KZW.f 3
      have nf4 := KZW.f 4
      have nf5 := KZW.f 5
      clear KZ KZW
      go_wp2_with fail
      refine bodyPost_ret (v := .agg #[.int .i64 t.w, .int .i64 t.h, .slice A m c, .int .i64 t.cur.x, .int .i64 t.cur.y, .bool true]) (by rw [results_cell1 rfl]; go_simp) rfl ?_
      refine ⟨A, c, ?_, ?_, FI.out.2⟩
      · rw [ES2.out, ← hm]; rfl
      · first | exact FI.out.1 | (rw [hm]; exact FI.out.1)
    · have ES2 : Hid (seenT t = ⟨t.w, t.h, t.cells, 0, 0, false⟩) := Lib.hid (by rw [ES.out, if_neg (by rintro ⟨_, z⟩; exact ar z)])
      have FI := Lib.hid (FIN.out (V.drewN nq) 0 0 false (fun b _ => rfl) (below_drewN BW.out nq))
      clear FIN
      go_wp2_with fail
      refine bodyPost_ret (v := .agg #[.int .i64 t.w, .int .i64 t.h, .slice A m c, .int .i64 0, .int .i64 0, .bool false]) (by rw [results_cell1 rfl]; go_simp) rfl ?_
      refine ⟨A, c, ?_, ?_, FI.out.2⟩
      · rw [ES2.out, ← hm]; rfl
      · first | exact FI.out.1 | (rw [hm]; exact FI.out.1)
end
end Go.Proofs.YtkllilehdpdbdaaGreatDoor

/- The law's row: the texts of a row. -/
namespace Go.Proofs.YtkllilehdpdbdaaGreatDoor
open Go Go.RowKit Go.Sort
set_option linter.unusedVariables false
set_option linter.unusedSimpArgs false
section
variable {W W' : World}
/-- so many texts from one cell on -/
def textsF (l : List Cel) (f : Nat) : Nat → ByteArray
  | 0 => zB
  | k + 1 => textsF l f k ++ (l.getD (f + k) celD).text
theorem textsF_size (l : List Cel) (f : Nat) (h : ∀ c ∈ l, c.text.size ≤ 1000) : ∀ k, (textsF l f k).size ≤ 1000 * k
  | 0 => by show zB.size ≤ 0; decide
  | k + 1 => by
    have ih := textsF_size l f h k
    show (textsF l f k ++ _).size ≤ _
    rw [ByteArray.size_append]
    have : (l.getD (f + k) celD).text.size ≤ 1000 := by
      rw [List.getD_eq_getElem?_getD]
      by_cases c : f + k < l.length
      · rw [List.getElem?_eq_getElem c]; exact h _ (List.getElem_mem c)
      · rw [List.getElem?_eq_none (by omega)]; show (celD).text.size ≤ 1000; decide
    omega
theorem celsV_at (l : List Cel) (k : Nat) (h : k < l.length) (j : Nat) (hj : j < 5) : (celsV l)[k * 5 + j]? = (celV (l.getD k celD))[j]? := by
  have e := celsV_drop l k
  have e2 : (celsV l)[k * 5 + j]? = ((celsV l).drop (k * 5))[j]? := by rw [List.getElem?_drop]
  rw [e2, ← e, List.drop_eq_getElem_cons h, celsV_cons, List.getElem?_append_left (by show j < 5; exact hj), List.getD_eq_getElem?_getD, List.getElem?_eq_getElem h]
  rfl
theorem kept_none (W : World) : KeptAt W (.slice none 0 0) zB := ⟨none, 0, rfl, Nat.le_refl _, by decide, fun _ => rfl, fun h => absurd h (Nat.lt_irrefl 0)⟩
theorem kept_same {W : World} {v : Value} {s x : ByteArray} (h : KeptAt W v s) (hx : x.size = 0) : (Builtin.append_ #[29, 9] 29 #[v, .string x]).run Tryz.prog W = .ok v W := by
  obtain ⟨A, c, rfl, h1, hm, h2, h3⟩ := h
  have xn : x = zB := by
    apply ByteArray.ext
    exact Array.eq_empty_of_size_eq_zero hx
  subst xn
  obtain ⟨i0, hi, hz0, hz1, hz2⟩ := info_parts info8
  have hf := Lib.run_firstCells_string (P := Tryz.prog) W 1 zB
  have e0 : zB.size = 0 := rfl
  rw [e0] at hf
  simp [Builtin.append_, run_underlying Tryz.underlying29, run_underlying Tryz.underlying9, sizeOf, typeInfo, hi, hz1, Builtin.lenOf, e0, h1, hf]
  cases A with
  | none => rfl
  | some a => rfl
set_option maxHeartbeats 8000000 in
set_option maxRecDepth 100000 in
theorem law_row (s : Scr) (A : Option Addr) (c : Nat) (y : Nat) (W : World) (w0 : 0 ≤ s.w) (w1 : s.w ≤ 4096) (yw : ((y : Int) + 1) * s.w ≤ (s.cells.length : Int)) (yl : y ≤ 4096) (ln : s.cells.length ≤ 1048576) (ht : ∀ x ∈ s.cells, x.text.size ≤ 1000) (K : RowAt W 49 5 (.slice A s.cells.length c) s.cells.length (celsV s.cells)) :
    Calls Tryz.prog 40 #[scrV s A c, .int .i64 (y : Int)] W fun e w' => e = .returned (.string (textsF s.cells (y * s.w.toNat) s.w.toNat)) ∧ Below W.heap.size W w' := by
  obtain ⟨m, hm⟩ : ∃ m : Nat, s.w = (m : Int) := ⟨s.w.toNat, by omega⟩
  have tm : s.w.toNat = m := by omega
  have ymn : (y + 1) * m ≤ s.cells.length := by
    rw [hm] at yw
    exact_mod_cast yw
  obtain ⟨Q, hQ⟩ : ∃ Q, Q = W.alloc (.cells #[.int .i64 (m : Int), .int .i64 s.h, .slice A s.cells.length c, .int .i64 s.x, .int .i64 s.y, .bool s.shown] 42) := ⟨_, rfl⟩
  have BQ : Below W.heap.size W Q := by rw [hQ]; exact (Below.refl _ W).alloc (Nat.le_refl _) _
  have KQ : Bk Q W.heap.size [.int .i64 (m : Int), .int .i64 s.h, .slice A s.cells.length c, .int .i64 s.x, .int .i64 s.y, .bool s.shown] 42 := by rw [hQ]; exact Bk.new W _ _
  have SZ := Lib.hid (textsF_size s.cells (y * m) ht)
  have CE : Hid (∀ k wr, k < m → Below W.heap.size W wr → ∃ g, A = some ⟨g, 0, none⟩ ∧ wr.cell? ⟨g, (y * m + k) * 5, none⟩ = some (.string (s.cells.getD (y * m + k) celD).text)) := Lib.hid (fun k wr hk hb => by
    have lt : y * m + k < s.cells.length := by have : (y + 1) * m = y * m + m := by rw [Nat.add_mul, Nat.one_mul]
                                               omega
    obtain ⟨g, cap, ec, eo, ho, hc⟩ := K.slice (by omega)
    simp only [Value.slice.injEq] at ec
    obtain ⟨rfl, _, rfl⟩ := ec
    refine ⟨g, rfl, ?_⟩
    obtain ⟨cur, hcu⟩ := own_block ho
    refine (hb.cell (p := ⟨g, (y * m + k) * 5, none⟩) (Array.getElem?_eq_some_iff.1 hcu).1).trans ?_
    rw [ho.cellAt _ (by omega)]
    have := celsV_at s.cells (y * m + k) lt 0 (by decide)
    rw [Nat.add_zero] at this
    rw [this]
    rfl)
  have j0 := KQ.c 0 _ rfl
  have j2 := KQ.c 2 _ rfl
  have HQ := Lib.hid KQ
  have BQ := Lib.hid BQ
  have YL := Lib.hid ymn
  have LN := Lib.hid ln
  obtain ⟨n, hn⟩ : ∃ n, n = s.cells.length := ⟨_, rfl⟩
  rw [← hn] at j2 HQ YL LN hQ
  have ymi : (y : Int) * (m : Int) = ((y * m : Nat) : Int) := by simp
  have yp : IntKind.i64.wrap ((y : Int) + 1) = (y : Int) + 1 := IntWalk.i64_in _ (by omega)
  have m4 : m ≤ 4096 := by omega
  have big : y * m ≤ 4096 * 4096 := Nat.mul_le_mul yl m4
  have big2 : (y + 1) * m ≤ 1048576 := by have := YL.out; have := LN.out; omega
  have yc : ((y : Int) + 1) * (m : Int) = (((y + 1) * m : Nat) : Int) := by simp
  have ym1 : IntKind.i64.wrap (((y : Int) + 1) * (m : Int)) = ((y : Int) + 1) * (m : Int) := IntWalk.i64_in _ (by rw [yc]; omega)
  have ym2 : ((y : Int) + 1) * (m : Int) ≤ (n : Int) := by rw [yc]; have := YL.out; omega
  have ym3 : IntKind.i64.wrap ((y * m : Nat) : Int) = ((y * m : Nat) : Int) := IntWalk.i64_in _ (by omega)
  rw [tm]
  unfold scrV
  rw [hm, ← hn]
  clear KQ K ymn w0 w1 yw ln ht hn
  go_enter Tryz.func40, Tryz.ntmps40
  go_upto_region 1 with fail
  rw [← hQ]
  clear hQ
  go_wp2_with fail
  go_loopw [5, 6] (fun s5 v6 wr => ∃ (k : Nat) (v5 : Value), k ≤ m ∧ v5 = s5 ∧ v6 = .int .i64 (k : Int) ∧ Hid (Below W.heap.size W wr ∧ Bk wr W.heap.size [.int .i64 (m : Int), .int .i64 s.h, .slice A n c, .int .i64 s.x, .int .i64 s.y, .bool s.shown] 42 ∧ KeptAt wr v5 (textsF s.cells (y * m) k) ∧ ∀ g ∈ ob v5, W.heap.size ≤ g)) (fun _ v6 _ => m - (intOf v6).toNat)
  case atStart => exact ⟨0, _, Nat.zero_le _, rfl, by simp, Lib.hid ⟨BQ.out, HQ.out, kept_none _, fun g m => by simp [ob] at m⟩⟩
  case round =>
    obtain ⟨k, v5, hk, rfl, rfl, hr⟩ := hrel
    clear HQ BQ j0 j2
    obtain ⟨hb, hq, hv, hg⟩ := hr.out
    have j0 := hq.c 0 _ rfl
    have j2 := hq.c 2 _ rfl
    by_cases lt : k < m
    · obtain ⟨g, rfl, yc2⟩ := CE.out k wr lt hb
      have NX : Hid (textsF s.cells (y * m) (k + 1) = textsF s.cells (y * m) k ++ (s.cells.getD (y * m + k) celD).text) := Lib.hid rfl
      have ZS := SZ.out (k + 1)
      rw [NX.out, ByteArray.size_append] at ZS
      generalize (s.cells.getD (y * m + k) celD).text = x at *
      have EX : ∃ v' w2, (Builtin.append_ #[29, 9] 29 #[v5, .string x]).run Tryz.prog wr = .ok v' w2 ∧ Below W.heap.size W w2 ∧ Bk w2 W.heap.size [.int .i64 (m : Int), .int .i64 s.h, .slice (some ⟨g, 0, none⟩) n c, .int .i64 s.x, .int .i64 s.y, .bool s.shown] 42 ∧ KeptAt w2 v' (textsF s.cells (y * m) (k + 1)) ∧ ∀ g ∈ ob v', W.heap.size ≤ g := by
        by_cases x0 : x.size = 0
        · refine ⟨_, _, kept_same hv x0, hb, hq, ?_, hg⟩
          rw [NX.out]
          have xn : x = zB := by
            apply ByteArray.ext
            exact Array.eq_empty_of_size_eq_zero x0
          rw [xn]
          have e : textsF s.cells (y * m) k ++ zB = textsF s.cells (y * m) k := by
            apply ByteArray.ext
            rw [ByteArray.data_append]
            exact Array.append_empty
          rw [e]
          exact hv
        · obtain ⟨v', w2, RC, ok⟩ := kept_appendS hv (x := x) (by omega) (by omega)
          refine ⟨v', w2, RC, ok.mv.old hb hg, hq.of_eq (ok.mv.blk _ hq.lt (fun mm => ?_)), by rw [NX.out]; exact ok.new, fun b mm => (ok.sub b mm).elim (hg b) (fun z => Nat.le_trans hb.size z)⟩
          obtain ⟨cur, q⟩ := hv.kind _ mm
          exact hq.ne q (by decide) rfl
      obtain ⟨v', w2, RC, q1, q2, q3, q4⟩ := EX
      have RC := Lib.hid RC
      have Q := Lib.hid (And.intro q1 (And.intro q2 (And.intro q3 q4)))
      have i0 : (0 : Int) ≤ (k : Int) := by omega
      have i1 : (k : Int) < (m : Int) := by omega
      have i2 : IntKind.i64.wrap (((y * m : Nat) : Int) + (k : Int)) = ((y * m + k : Nat) : Int) := by rw [IntWalk.i64_in _ (by omega)]; omega
      have i3 : ((y * m + k : Nat) : Int) < (n : Int) := by
        have : (y + 1) * m = y * m + m := by rw [Nat.add_mul, Nat.one_mul]
        have := YL.out
        omega
      have i4 : (0 : Int) ≤ ((y * m + k : Nat) : Int) := by omega
      have i5 : ((y * m + k : Nat) : Int).toNat = y * m + k := by omega
      have wk : IntKind.i64.wrap ((k : Int) + 1) = (k : Int) + 1 := IntWalk.i64_in _ (by omega)
      generalize y * m + k = I at *
      generalize y * m = J at *
      clear q1 q2 q3 q4 hr hb hq hv hg CE ZS big big2 yc
      go_wp2_with (at_builtin; refine wpList_append_run rfl (.tmp 24) (.tmp 35) 29 9 rfl _ _ _ _ rfl rfl RC.out ?_)
      go_roundw
      case rel => exact ⟨k + 1, _, by omega, rfl, by go_num, Q⟩
      case measure => simp [intOf]; omega
    · have ek : k = m := by omega
      subst ek
      have i1 : ¬ (k : Int) < (k : Int) := by omega
      have CV := Lib.hid (kept_string hv)
      obtain ⟨A5, c5, e5, _⟩ := hv
      subst e5
      have HB := Lib.hid hb
      clear hr hq hg CE hb
      have CV := CV.out
      generalize hX : textsF s.cells (y * k) k = X at *
      have HX := Lib.hid hX
      clear hX
      go_wp2_with fail
      go_ret
      exact ⟨by rw [HX.out]; rfl, HB.out⟩
end
end Go.Proofs.YtkllilehdpdbdaaGreatDoor

/- The law's works. -/
namespace Go.Proofs.YtkllilehdpdbdaaGreatDoor
open Go Go.RowKit Go.Sort
set_option linter.unusedVariables false
set_option linter.unusedSimpArgs false
section
variable {W W' : World}
def wkD : List Int := [97, 98, 13, 10, 27, 91, 49, 109, 99, 27, 91, 54, 110]
def wkT : Trm := feedT (newV 5 3) wkD
theorem wk_seen : wkT.w = 5 ∧ wkT.h = 3 ∧ wkT.cur.x = 1 ∧ wkT.cur.y = 1 ∧ wkT.shown = true := by decide +kernel
theorem wk_len : wkT.cells.length = 15 := by decide +kernel
theorem wk_row0 : textsF wkT.cells 0 5 = ⟨#[97, 98, 32, 32, 32]⟩ := by decide +kernel
theorem wk_row1 : textsF wkT.cells 5 5 = ⟨#[99, 32, 32, 32, 32]⟩ := by decide +kernel
theorem wk_bold : (wkT.cells.getD 5 celD).st.at_ = 1 := by decide +kernel
theorem wk_reps : wkT.reps = ⟨#[27, 91, 50, 59, 50, 82]⟩ := by decide +kernel
theorem wk_wrt : (writtenT (noR wkT)).length = 3 := by decide +kernel
theorem wk_wl : (noR wkT).wrt.length = 15 := by decide +kernel
theorem wk_texts : ∀ x ∈ wkT.cells, x.text.size ≤ 1000 := by
  have h : wkT.cells.all (fun x => decide (x.text.size ≤ 1000)) = true := by decide +kernel
  intro x m
  simpa using List.all_eq_true.1 h x m
theorem wk_scr : seenT wkT = ⟨5, 3, wkT.cells, 1, 1, true⟩ := by
  obtain ⟨a, b, c, d, e⟩ := wk_seen
  unfold seenT
  rw [a, b, c, d, e]
  rfl
theorem wk_rng : ∀ b ∈ wkD, 0 ≤ b ∧ b < 256 := by decide
theorem wk_live : Live (newV 5 3) := live_new 5 3 (by decide) (by decide) (by decide) (by decide) (by decide)
theorem wk_fine : Fine wkT := (live_feed wkD wk_live wk_rng).1.fine
theorem old_mv {W W' : World} (h : Mv [] W W') : Below W.heap.size W W' := ⟨h.os, h.tape, h.output, h.size, fun k hk => h.blk k hk (by simp)⟩
end
end Go.Proofs.YtkllilehdpdbdaaGreatDoor

/- The law's works: the walk. -/
namespace Go.Proofs.YtkllilehdpdbdaaGreatDoor
open Go Go.RowKit Go.Sort
set_option linter.unusedVariables false
set_option linter.unusedSimpArgs false
section
variable {W W' : World}
theorem fed_lit {V : World} {F : List Nat} {B : Nat} {fl : Nat × Nat} (D : List Int) (h : V.heap[B]? = some (.cells (D.map fun b => Value.int .u8 b).toArray 5 fl)) (hF : ∀ b ∈ F, b < B) : FedAt V F (some ⟨B, 0, none⟩) D := FedAt.new (fun k hk => by
  refine ⟨_, rfl, Nat.le_refl _, (Array.getElem?_eq_some_iff.1 h).1, ?_⟩
  rw [add_at]
  simp only [World.cell?, h, Nat.zero_add]
  rw [List.getElem?_toArray, List.getElem?_map, List.getElem?_eq_getElem hk, List.getD_eq_getElem?_getD, List.getElem?_eq_getElem hk]
  rfl) hF
set_option maxHeartbeats 8000000 in
set_option maxRecDepth 100000 in
theorem law_works (W : World) (E : EnvV W) : Calls Tryz.prog 15 #[] W fun e w' => e = .returned (.bool true) ∧ Below W.heap.size W w' := by
  have NW := Lib.hid (t_New 5 3 (by decide) (by decide) (by decide) (by decide) (by decide) W E)
  go_enter Tryz.func15, Tryz.ntmps15
  go_wp2_with fail
  refine NW.out.mono ?_; rintro e V ⟨nb, rfl, hb, hge, hn⟩
  obtain ⟨V2, hV2⟩ : ∃ V2, V2 = V.alloc (.cells #[.int .u8 97, .int .u8 98, .int .u8 13, .int .u8 10, .int .u8 27, .int .u8 91, .int .u8 49, .int .u8 109, .int .u8 99, .int .u8 27, .int .u8 91, .int .u8 54, .int .u8 110] 5 (13, 14)) := ⟨_, rfl⟩
  have BV2 : Below V.heap.size V V2 := by rw [hV2]; exact (Below.refl _ V).alloc (Nat.le_refl _) _
  obtain ⟨F, h2, up, hF⟩ := hn.holdAt BV2
  have FD := fed_lit (V := V2) (F := F) (B := V.heap.size) wkD (by rw [hV2]; exact World.alloc_heap_new V _) hF
  have FE : Hid (Calls Tryz.prog 16 #[.pointer (some ⟨nb, 0, none⟩), .slice (some ⟨V.heap.size, 0, none⟩) 13 13] V2 fun e w' => e = .returned (.int .i64 0) ∧ St V2 F nb wkT w') := Lib.hid (t_Feed h2 wk_live (some ⟨V.heap.size, 0, none⟩) 13 wkD (by decide) (by decide) wk_rng FD)
  have UP := Lib.hid up
  have HV2 := Lib.hid hV2
  have CV := fun (w : World) (C : Array Value) (n c : Nat) => Lib.run_convert_bytes_const (P := Tryz.prog) w 29 5 C n c Tryz.underlying29 Tryz.underlying5
  have WB := Lib.hid hb
  clear NW hb hge hn h2 up hF FD BV2 hV2
  go_wp2_with fail
  rw [← HV2.out]
  refine FE.out.mono ?_; rintro e w3 ⟨rfl, h3⟩
  have S3 := UP.out _ _ h3
  have SC := Lib.hid (t_Screen S3 wk_fine)
  have S3 := Lib.hid S3
  clear FE UP h3 HV2
  go_wp2_with fail
  refine SC.out.mono ?_; rintro e w4 ⟨A, c, rfl, NR, hb4⟩
  rw [wk_scr]
  rw [wk_len] at NR
  have S4 := S3.out.below hb4
  obtain ⟨V5, hV5⟩ : ∃ V5, V5 = w4.alloc (.cells #[.int .i64 5, .int .i64 3, .slice A 15 c, .int .i64 1, .int .i64 1, .bool true] 42) := ⟨_, rfl⟩
  have B5 : Below w4.heap.size w4 V5 := by rw [hV5]; exact (Below.refl _ w4).alloc (Nat.le_refl _) _
  have K5 : Bk V5 w4.heap.size [.int .i64 5, .int .i64 3, .slice A 15 c, .int .i64 1, .int .i64 1, .bool true] 42 := by rw [hV5]; exact Bk.new w4 _ _
  have S5 := Lib.hid (S4.below B5)
  have N5 := Lib.hid (NR.below B5)
  have sv : scrV ⟨5, 3, wkT.cells, 1, 1, true⟩ A c = .agg #[.int .i64 5, .int .i64 3, .slice A 15 c, .int .i64 1, .int .i64 1, .bool true] := by unfold scrV; rw [wk_len]
  rw [sv]
  clear SC S3 NR hb4 S4 B5
  go_upto_region 6 with fail
  rw [← hV5]
  clear hV5
  have j0 := K5.c 0 _ rfl
  have j1 := K5.c 1 _ rfl
  have j2 := K5.c 2 _ rfl
  have j3 := K5.c 3 _ rfl
  have j4 := K5.c 4 _ rfl
  have j5 := K5.c 5 _ rfl
  have R0 : Hid (∀ X, Below V5.heap.size V5 X → Calls Tryz.prog 40 #[.agg #[.int .i64 5, .int .i64 3, .slice A 15 c, .int .i64 1, .int .i64 1, .bool true], .int .i64 0] X fun e w' => e = .returned (.string ⟨#[97, 98, 32, 32, 32]⟩) ∧ Below X.heap.size X w') := Lib.hid (fun X hb => by
    have := law_row ⟨5, 3, wkT.cells, 1, 1, true⟩ A c 0 X (by decide) (by decide) (by rw [wk_len]; decide) (by decide) (by rw [wk_len]; decide) wk_texts (by rw [wk_len]; exact (N5.out.below hb).1)
    rw [sv] at this
    exact this.mono (fun e w' ⟨h1, h2⟩ => ⟨by rw [h1]; exact congrArg (fun z => Ending.returned (.string z)) wk_row0, h2⟩))
  have R1 : Hid (∀ X, Below V5.heap.size V5 X → Calls Tryz.prog 40 #[.agg #[.int .i64 5, .int .i64 3, .slice A 15 c, .int .i64 1, .int .i64 1, .bool true], .int .i64 1] X fun e w' => e = .returned (.string ⟨#[99, 32, 32, 32, 32]⟩) ∧ Below X.heap.size X w') := Lib.hid (fun X hb => by
    have := law_row ⟨5, 3, wkT.cells, 1, 1, true⟩ A c 1 X (by decide) (by decide) (by rw [wk_len]; decide) (by decide) (by rw [wk_len]; decide) wk_texts (by rw [wk_len]; exact (N5.out.below hb).1)
    rw [sv] at this
    exact this.mono (fun e w' ⟨h1, h2⟩ => ⟨by rw [h1]; exact congrArg (fun z => Ending.returned (.string z)) wk_row1, h2⟩))
  have K5 := Lib.hid K5
  clear sv
  go_wp2_with fail
  refine (R0.out V5 (Below.refl _ _)).mono ?_; rintro e w6 ⟨rfl, hb6⟩
  have H6 := Lib.hid hb6
  have K6 := K5.out.of_eq (hb6.block _ K5.out.lt)
  clear hb6 j0 j1 j2 j3 j4 j5
  have j0 := K6.c 0 _ rfl
  have j1 := K6.c 1 _ rfl
  have j2 := K6.c 2 _ rfl
  have j3 := K6.c 3 _ rfl
  have j4 := K6.c 4 _ rfl
  have j5 := K6.c 5 _ rfl
  have K6 := Lib.hid K6
  go_wp2_with fail
  refine (R1.out w6 H6.out).mono ?_; rintro e w7 ⟨rfl, hb7⟩
  have K7 := K6.out.of_eq (hb7.block _ K6.out.lt)
  have H7 := H6.out.trans (hb7.mono H6.out.size)
  have S7 := Lib.hid (S5.out.below H7)
  have N7 := N5.out.below H7
  clear hb7 j0 j1 j2 j3 j4 j5 K6 R0 R1 N5 S5 H6
  have j0 := K7.c 0 _ rfl
  have j1 := K7.c 1 _ rfl
  have j2 := K7.c 2 _ rfl
  have j3 := K7.c 3 _ rfl
  have j4 := K7.c 4 _ rfl
  have j5 := K7.c 5 _ rfl
  obtain ⟨gA, cap, ec, eo, ho, hc⟩ := N7.1.slice (by decide)
  simp only [Value.slice.injEq] at ec
  obtain ⟨rfl, _, rfl⟩ := ec
  have y5 : w7.cell? ⟨gA, 29, none⟩ = some (.int .u8 1) := by
    rw [ho.cellAt 29 (by decide)]
    have := celsV_at wkT.cells 5 (by rw [wk_len]; decide) 4 (by decide)
    rw [show 5 * 5 + 4 = 29 from rfl] at this
    rw [this]
    show some (Value.int .u8 (bI ((wkT.cells.getD 5 celD).st.at_))) = _
    rw [wk_bold]
    rfl
  have RE := Lib.hid (t_Replies S7.out)
  clear N7 ho eo hc H7
  go_wp2_with fail
  refine RE.out.mono ?_; rintro e w8 ⟨v, rfl, KR, _, S8⟩
  rw [wk_reps] at KR
  have CS := kept_string KR
  obtain ⟨A8, c8, e8, _⟩ := KR
  have e8 : v = .slice A8 6 c8 := e8
  subst e8
  have WR := Lib.hid (t_Written S8 (by rw [wk_wl]; decide))
  clear RE S7 S8 j0 j1 j2 j3 j4 j5 y5 K7
  go_wp2_with fail
  refine WR.out.mono ?_; rintro e w9 ⟨v9, rfl, ow, S9⟩
  rw [wk_wrt] at ow
  obtain ⟨g9, c9, e9, _⟩ := own_pos ow
  subst e9
  have B9 := Lib.hid (old_mv S9.mv)
  clear WR ow S9
  go_wp2_with fail
  go_ret
  exact ⟨rfl, B9.out⟩
end
end Go.Proofs.YtkllilehdpdbdaaGreatDoor
