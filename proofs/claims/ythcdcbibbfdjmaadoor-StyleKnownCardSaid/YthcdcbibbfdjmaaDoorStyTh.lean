/- The law StyleThen: the walk. -/
import Derived.Test.YthcdcbibbfdjmaaDoorStyO
import Derived.Test.YthcdcbibbfdjmaaDoorStyD
import Derived.Test.YthcdcbibbfdjmaaDoorGen
namespace Go.Proofs.YthcdcbibbfdjmaaDoor
open Go.RowKit Go.Sort
set_option linter.unusedVariables false

theorem addr0' (A k : Nat) : ((⟨A, 0, none⟩ : Addr).add k) = ⟨A, k, none⟩ := by
  unfold Addr.add
  split
  · rename_i z; rw [z]
  · simp
/-- a slice of patches, its cells in one row -/
theorem seesP_shows {w : World} {n : Nat} {ps : List Pat} {v : Value} (hn : n = ps.length) (h : Shows n (ps.flatMap patL) v w) : ∃ A, v = .slice A ps.length ps.length ∧ SeesP w w.heap.size A ps := by
  obtain ⟨g, rfl, l, c⟩ := h
  subst hn
  refine ⟨_, rfl, fun _ => ⟨_, rfl, l, fun j p hj i u hu => ?_⟩⟩
  rw [addr0']
  refine c _ _ ?_
  have hl : ∀ p : Pat, (patL p).length = 4 := fun _ => rfl
  have key : ∀ (ps : List Pat) (j : Nat) (p : Pat), ps[j]? = some p → ∀ i u, (patL p)[i]? = some u → (ps.flatMap patL)[j * 4 + i]? = some u := by
    intro ps
    induction ps with
    | nil => intro j p hj; cases hj
    | cons q r ih =>
      intro j p hj i u hu
      rw [List.flatMap_cons]
      have hi : i < 4 := by
        rcases Nat.lt_or_ge i 4 with h | h
        · exact h
        · rw [List.getElem?_eq_none (by rw [hl]; omega)] at hu; cases hu
      cases j with
      | zero =>
        simp only [List.getElem?_cons_zero, Option.some.injEq] at hj
        subst hj
        rw [List.getElem?_append_left (by rw [hl]; omega)]
        simpa using hu
      | succ j =>
        simp only [List.getElem?_cons_succ] at hj
        rw [List.getElem?_append_right (by rw [hl]; omega), hl, show (j + 1) * 4 + i - 4 = j * 4 + i by omega]
        exact ih j p hj i u hu
  exact key ps j p hj i u hu

theorem over_one (s : Sty) (p : Pat) (A : Option Addr) (W : World) (h : SeesP W W.heap.size A [p]) : Calls Tryd.prog 28 #[styV s.fg s.bg s.at_, .slice A 1 1] W fun e w' => e = .returned (styV (over1 (countS s) p).fg (over1 (countS s) p).bg (over1 (countS s) p).at_) ∧ Below W.heap.size W w' := st_Over s A 1 [p] W h (by simp)
theorem st_Then' (p q : Pat) : Gives 29 #[patV p.fg p.bg p.add p.drop, patV q.fg q.bg q.add q.drop] (patV (thenP p q).fg (thenP p q).bg (thenP p q).add (thenP p q).drop) := st_Then _ _ _ _ _ _ _ _
theorem then_right (p q r : Pat) : Gives 29 #[patV p.fg p.bg p.add p.drop, patV (thenP q r).fg (thenP q r).bg (thenP q r).add (thenP q r).drop] (patV (thenP (thenP p q) r).fg (thenP (thenP p q) r).bg (thenP (thenP p q) r).add (thenP (thenP p q) r).drop) := by
  rw [then_assoc]
  exact st_Then' p (thenP q r)
theorem then_left (p : Pat) : Gives 29 #[patV 0 0 0 0, patV p.fg p.bg p.add p.drop] (patV (toldP p).fg (toldP p).bg (toldP p).add (toldP p).drop) := by
  rw [← (then_empty p).1]
  exact st_Then' emptyP p
theorem then_none (p : Pat) : Gives 29 #[patV p.fg p.bg p.add p.drop, patV 0 0 0 0] (patV (toldP p).fg (toldP p).bg (toldP p).add (toldP p).drop) := by
  rw [← (then_empty p).2]
  exact st_Then' p emptyP
theorem over_both (s : Sty) (p q : Pat) (A : Option Addr) (W : World) (h : SeesP W W.heap.size A [p, q]) : Calls Tryd.prog 28 #[styV s.fg s.bg s.at_, .slice A 2 2] W fun e w' => e = .returned (styV (over1 (over1 (countS s) p) q).fg (over1 (over1 (countS s) p) q).bg (over1 (over1 (countS s) p) q).at_) ∧ Below W.heap.size W w' := st_Over s A 2 [p, q] W h (by simp)
theorem over_then' (s : Sty) (p q : Pat) (A : Option Addr) (W : World) (h : SeesP W W.heap.size A [thenP p q]) : Calls Tryd.prog 28 #[styV s.fg s.bg s.at_, .slice A 1 1] W fun e w' => e = .returned (styV (over1 (over1 (countS s) p) q).fg (over1 (over1 (countS s) p) q).bg (over1 (over1 (countS s) p) q).at_) ∧ Below W.heap.size W w' := by
  rw [over_then]
  exact over_one s (thenP p q) A W h
theorem over_told' (s : Sty) (p : Pat) (A : Option Addr) (W : World) (h : SeesP W W.heap.size A [toldP p]) : Calls Tryd.prog 28 #[styV s.fg s.bg s.at_, .slice A 1 1] W fun e w' => e = .returned (styV (over1 (countS s) p).fg (over1 (countS s) p).bg (over1 (countS s) p).at_) ∧ Below W.heap.size W w' := by
  rw [← over_told (countS s) p]
  exact over_one s (toldP p) A W h
theorem over_two (s : Sty) (p q : Pat) (A : Option Addr) (W : World) (h : SeesP W W.heap.size A [q]) : Calls Tryd.prog 28 #[styV (over1 (countS s) p).fg (over1 (countS s) p).bg (over1 (countS s) p).at_, .slice A 1 1] W fun e w' => e = .returned (styV (over1 (over1 (countS s) p) q).fg (over1 (over1 (countS s) p) q).bg (over1 (over1 (countS s) p) q).at_) ∧ Below W.heap.size W w' := by
  have C := st_Over (over1 (countS s) p) A 1 [q] W h (by simp)
  have e : overL (over1 (countS s) p) [q] = over1 (over1 (countS s) p) q := by
    show over1 (countS (over1 (countS s) p)) q = _
    rw [over1_count _ p (count_count s)]
  rw [e] at C
  exact C

set_option maxHeartbeats 8000000 in
set_option maxRecDepth 100000 in
theorem styleThen_walk (s : Sty) (p q r : Pat) (w : World) (A : ∀ W, Below w.heap.size w W → Calls Tryd.prog 21 #[] W fun e w' => e = .returned (.bool true) ∧ Below W.heap.size W w') : Calls Tryd.prog 8 #[styV s.fg s.bg s.at_, patV p.fg p.bg p.add p.drop, patV q.fg q.bg q.add q.drop, patV r.fg r.bg r.add r.drop] w fun e w' => e = .returned (.bool true) ∧ Below w.heap.size w w' := by
  have A := Lib.hid A
  go_enter Tryd.func8, Tryd.ntmps8
  go_upto_region 1 with fail
  obtain ⟨W, hW⟩ : ∃ W, W = (((w.alloc (.cells #[.int .i32 s.fg, .int .i32 s.bg, .int .u8 (bI s.at_)] 24)).alloc (.cells #[.int .i32 p.fg, .int .i32 p.bg, .int .u8 (bI p.add), .int .u8 (bI p.drop)] 36)).alloc (.cells #[.int .i32 q.fg, .int .i32 q.bg, .int .u8 (bI q.add), .int .u8 (bI q.drop)] 36)).alloc (.cells #[.int .i32 r.fg, .int .i32 r.bg, .int .u8 (bI r.add), .int .u8 (bI r.drop)] 36) := ⟨_, rfl⟩
  have k0 : C3 W w.heap.size (.int .i32 s.fg) (.int .i32 s.bg) (.int .u8 (bI s.at_)) := by subst hW; constructor <;> simp [go_sem]
  have k1 : C4 W (w.heap.size + 1) (.int .i32 p.fg) (.int .i32 p.bg) (.int .u8 (bI p.add)) (.int .u8 (bI p.drop)) := by subst hW; constructor <;> simp [go_sem]
  have k2 : C4 W (w.heap.size + 1 + 1) (.int .i32 q.fg) (.int .i32 q.bg) (.int .u8 (bI q.add)) (.int .u8 (bI q.drop)) := by subst hW; constructor <;> simp [go_sem]
  have k3 : C4 W (w.heap.size + 1 + 1 + 1) (.int .i32 r.fg) (.int .i32 r.bg) (.int .u8 (bI r.add)) (.int .u8 (bI r.drop)) := by subst hW; constructor <;> simp [go_sem]
  have hb : Below w.heap.size w W := by subst hW; go_grown
  have HB0 := hb
  rw [← hW]
  clear hW
  have g00 := fun d os => ((k0).regrown d os).c0
  have g01 := fun d os => ((k0).regrown d os).c1
  have g02 := fun d os => ((k0).regrown d os).c2
  have g10 := fun d os => ((k1).regrown d os).c0
  have g11 := fun d os => ((k1).regrown d os).c1
  have g12 := fun d os => ((k1).regrown d os).c2
  have g13 := fun d os => ((k1).regrown d os).c3
  have g20 := fun d os => ((k2).regrown d os).c0
  have g21 := fun d os => ((k2).regrown d os).c1
  have g22 := fun d os => ((k2).regrown d os).c2
  have g23 := fun d os => ((k2).regrown d os).c3
  refine wp_region_spec 8 [(15, showS 1 (patL p)), (18, showS 1 (patL q)), (9, newS W.heap.size [.int .i32 0, .int .i32 0, .int .u8 0])] [9, 15, 18] (by kernel_rfl) (by kernel_rfl) (by kernel_rfl) (by intro t ht; simp at ht; rcases ht with rfl | rfl | rfl <;> (intro h; cases h)) ?_
  simp only [List.take_succ_cons, List.take_zero, List.drop_succ_cons, List.drop_zero]
  repeat (refine wpS_step (by rfl) (fun K hK => ?_); go_simp; first | (refine hK _ ?_; clear hK K) | (apply Exists.intro; refine ⟨fun _ => ?_, hK _ ?_⟩; (fail); clear hK K))
  refine wpS_born 15 rfl (by simp) (by first | (simp; done) | simp [put_size]) (by rfl) (by rfl) (by intro _ _ h; cases h) (fun x => ?_) ?_
  · go_simp
    exact born_slice (by simp [grow, redrawn])
  repeat (refine wpS_step (by rfl) (fun K hK => ?_); go_simp; first | (refine hK _ ?_; clear hK K) | (apply Exists.intro; refine ⟨fun _ => ?_, hK _ ?_⟩; (fail); clear hK K))
  refine wpS_use 15 (styV (over1 (countS s) p).fg (over1 (countS s) p).bg (over1 (countS s) p).at_) (by simp) (by first | (simp; done) | simp [put_size]) (by rfl) (by rfl) (by rfl) (by rfl) (by rfl) (by intro _ _ h; cases h) (fun x u hu => ?_) ?_
  · obtain ⟨A, rfl, hs⟩ := seesP_shows (ps := [p]) rfl hu
    go_simp
    exact calls_later (over_one s p A _ hs)
  repeat (refine wpS_step (by rfl) (fun K hK => ?_); go_simp; first | (refine hK _ ?_; clear hK K) | (apply Exists.intro; refine ⟨fun _ => ?_, hK _ ?_⟩; (fail); clear hK K))
  refine wpS_born 18 rfl (by simp) (by first | (simp; done) | simp [put_size]) (by rfl) (by rfl) (by intro _ _ h; cases h) (fun x => ?_) ?_
  · go_simp
    exact born_slice (by simp [grow, redrawn])
  refine wpS_use 18 (styV (over1 (over1 (countS s) p) q).fg (over1 (over1 (countS s) p) q).bg (over1 (over1 (countS s) p) q).at_) (by simp) (by first | (simp; done) | simp [put_size]) (by rfl) (by rfl) (by rfl) (by rfl) (by rfl) (by intro _ _ h; cases h) (fun x u hu => ?_) ?_
  · obtain ⟨A, rfl, hs⟩ := seesP_shows (ps := [q]) rfl hu
    go_simp
    exact calls_later (over_two s p q A _ hs)
  refine wpS_born 9 rfl (by simp) (by first | (simp; done) | simp [put_size]) (by rfl) (by rfl) (by intro _ _ h; cases h) (fun x => ?_) ?_
  · go_simp
    exact born_new (by simp [grow, redrawn]) (by simp [grow, redrawn])
  refine wpS_nil ?_
  intro W1 vs hl hv
  obtain ⟨h9, e9, b9, l9, c9⟩ := hv 9 (by simp) rfl
  have hb1 := later_below.1 hl
  simp only [fillA, e9]
  have z0 := (c9 0 _ rfl).1
  have z1 := (c9 1 _ rfl).1
  have z2 := (c9 2 _ rfl).1
  have y0 := (c9 0 _ rfl).2
  have y1 := (c9 1 _ rfl).2
  have y2 := (c9 2 _ rfl).2
  have K9 := (C3.mk z0 z1 z2 y0 y1 y2).put (.int .i32 (over1 (over1 (countS s) p) q).fg) (.int .i32 (over1 (over1 (countS s) p) q).bg) (.int .u8 (bI (over1 (over1 (countS s) p) q).at_))
  have HX := below_put3' hb1 b9 (.int .i32 (over1 (over1 (countS s) p) q).fg) (.int .i32 (over1 (over1 (countS s) p) q).bg) (.int .u8 (bI (over1 (over1 (countS s) p) q).at_))
  clear hl hv c9 g00 g01 g02 g10 g11 g12 g13 g20 g21 g22 g23
  go_upto_region 2 with fail
  obtain ⟨X, hX⟩ : ∃ X, X = ((W1.setCell ⟨h9, 0, none⟩ (.int .i32 (over1 (over1 (countS s) p) q).fg)).setCell ⟨h9, 1, none⟩ (.int .i32 (over1 (over1 (countS s) p) q).bg)).setCell ⟨h9, 2, none⟩ (.int .u8 (bI (over1 (over1 (countS s) p) q).at_)) := ⟨_, rfl⟩
  rw [← hX] at K9 HX ⊢
  clear hX z0 z1 z2 y0 y1 y2 l9 hb1
  have g10 := fun d os => ((k1.keep HX k1.lt).regrown d os).c0
  have g11 := fun d os => ((k1.keep HX k1.lt).regrown d os).c1
  have g12 := fun d os => ((k1.keep HX k1.lt).regrown d os).c2
  have g13 := fun d os => ((k1.keep HX k1.lt).regrown d os).c3
  have g20 := fun d os => ((k2.keep HX k2.lt).regrown d os).c0
  have g21 := fun d os => ((k2.keep HX k2.lt).regrown d os).c1
  have g22 := fun d os => ((k2.keep HX k2.lt).regrown d os).c2
  have g23 := fun d os => ((k2.keep HX k2.lt).regrown d os).c3
  have g30 := fun d os => ((k3.keep HX k3.lt).regrown d os).c0
  have g31 := fun d os => ((k3.keep HX k3.lt).regrown d os).c1
  have g32 := fun d os => ((k3.keep HX k3.lt).regrown d os).c2
  have g33 := fun d os => ((k3.keep HX k3.lt).regrown d os).c3
  refine wp_region_spec 6 [(10, newS X.heap.size [.int .i32 0, .int .i32 0, .int .u8 0, .int .u8 0])] [10] (by kernel_rfl) (by kernel_rfl) (by kernel_rfl) (by intro t ht; simp at ht; subst ht; intro h; cases h) ?_
  simp only [List.take_succ_cons, List.take_zero, List.drop_succ_cons, List.drop_zero]
  repeat (refine wpS_step (by rfl) (fun K hK => ?_); go_simp; first | (refine hK _ ?_; clear hK K) | (apply Exists.intro; refine ⟨fun _ => ?_, hK _ ?_⟩; (first | with_reducible exact (st_Then' p q).later | with_reducible exact (st_Then' (thenP p q) r).later); clear hK K))
  refine wpS_born 10 rfl (by simp) (by first | (simp; done) | simp [put_size]) (by rfl) (by rfl) (by intro _ _ h; cases h) (fun x => ?_) ?_
  · go_simp
    exact born_new (by simp [grow, redrawn]) (by simp [grow, redrawn])
  refine wpS_nil ?_
  intro W2 vs2 hl hv
  obtain ⟨h10, e10, b10, l10, c10⟩ := hv 10 (by simp) rfl
  have hb10 := later_below.1 hl
  simp only [fillA, e10]
  have z0 := (c10 0 _ rfl).1
  have z1 := (c10 1 _ rfl).1
  have z2 := (c10 2 _ rfl).1
  have z3 := (c10 3 _ rfl).1
  have y0 := (c10 0 _ rfl).2
  have y1 := (c10 1 _ rfl).2
  have y2 := (c10 2 _ rfl).2
  have y3 := (c10 3 _ rfl).2
  have K10 := (C4.mk z0 z1 z2 z3 y0 y1 y2 y3).put (.int .i32 (thenP (thenP p q) r).fg) (.int .i32 (thenP (thenP p q) r).bg) (.int .u8 (bI (thenP (thenP p q) r).add)) (.int .u8 (bI (thenP (thenP p q) r).drop))
  have HX10 := below_put4 hb10 b10 (.int .i32 (thenP (thenP p q) r).fg) (.int .i32 (thenP (thenP p q) r).bg) (.int .u8 (bI (thenP (thenP p q) r).add)) (.int .u8 (bI (thenP (thenP p q) r).drop))
  clear hl hv c10 g10 g11 g12 g13 g20 g21 g22 g23 g30 g31 g32 g33
  go_upto_region 3 with fail
  obtain ⟨Y, hY⟩ : ∃ Y, Y = (((W2.setCell ⟨h10, 0, none⟩ (.int .i32 (thenP (thenP p q) r).fg)).setCell ⟨h10, 1, none⟩ (.int .i32 (thenP (thenP p q) r).bg)).setCell ⟨h10, 2, none⟩ (.int .u8 (bI (thenP (thenP p q) r).add))).setCell ⟨h10, 3, none⟩ (.int .u8 (bI (thenP (thenP p q) r).drop)) := ⟨_, rfl⟩
  rw [← hY] at K10 HX10 ⊢
  clear hY z0 z1 z2 z3 y0 y1 y2 y3 l10 hb10
  have HY := HX.trans (HX10.mono HX.size)
  have K9 := K9.keep HX10 K9.lt
  have g10 := fun d os => ((k1.keep HY k1.lt).regrown d os).c0
  have g11 := fun d os => ((k1.keep HY k1.lt).regrown d os).c1
  have g12 := fun d os => ((k1.keep HY k1.lt).regrown d os).c2
  have g13 := fun d os => ((k1.keep HY k1.lt).regrown d os).c3
  have g20 := fun d os => ((k2.keep HY k2.lt).regrown d os).c0
  have g21 := fun d os => ((k2.keep HY k2.lt).regrown d os).c1
  have g22 := fun d os => ((k2.keep HY k2.lt).regrown d os).c2
  have g23 := fun d os => ((k2.keep HY k2.lt).regrown d os).c3
  have g30 := fun d os => ((k3.keep HY k3.lt).regrown d os).c0
  have g31 := fun d os => ((k3.keep HY k3.lt).regrown d os).c1
  have g32 := fun d os => ((k3.keep HY k3.lt).regrown d os).c2
  have g33 := fun d os => ((k3.keep HY k3.lt).regrown d os).c3
  refine wp_region_spec 6 [(11, newS Y.heap.size [.int .i32 0, .int .i32 0, .int .u8 0, .int .u8 0])] [11] (by kernel_rfl) (by kernel_rfl) (by kernel_rfl) (by intro t ht; simp at ht; subst ht; intro h; cases h) ?_
  simp only [List.take_succ_cons, List.take_zero, List.drop_succ_cons, List.drop_zero]
  repeat (refine wpS_step (by rfl) (fun K hK => ?_); go_simp; first | (refine hK _ ?_; clear hK K) | (apply Exists.intro; refine ⟨fun _ => ?_, hK _ ?_⟩; (first | with_reducible exact (st_Then' q r).later | with_reducible exact (then_right p q r).later); clear hK K))
  refine wpS_born 11 rfl (by simp) (by first | (simp; done) | simp [put_size]) (by rfl) (by rfl) (by intro _ _ h; cases h) (fun x => ?_) ?_
  · go_simp
    exact born_new (by simp [grow, redrawn]) (by simp [grow, redrawn])
  refine wpS_nil ?_
  intro W3 vs3 hl hv
  obtain ⟨h11, e11, b11, l11, c11⟩ := hv 11 (by simp) rfl
  have hb11 := later_below.1 hl
  simp only [fillA, e11]
  have z0 := (c11 0 _ rfl).1
  have z1 := (c11 1 _ rfl).1
  have z2 := (c11 2 _ rfl).1
  have z3 := (c11 3 _ rfl).1
  have y0 := (c11 0 _ rfl).2
  have y1 := (c11 1 _ rfl).2
  have y2 := (c11 2 _ rfl).2
  have y3 := (c11 3 _ rfl).2
  have K11 := (C4.mk z0 z1 z2 z3 y0 y1 y2 y3).put (.int .i32 (thenP (thenP p q) r).fg) (.int .i32 (thenP (thenP p q) r).bg) (.int .u8 (bI (thenP (thenP p q) r).add)) (.int .u8 (bI (thenP (thenP p q) r).drop))
  have HX11 := below_put4 hb11 b11 (.int .i32 (thenP (thenP p q) r).fg) (.int .i32 (thenP (thenP p q) r).bg) (.int .u8 (bI (thenP (thenP p q) r).add)) (.int .u8 (bI (thenP (thenP p q) r).drop))
  clear hl hv c11 g10 g11 g12 g13 g20 g21 g22 g23 g30 g31 g32 g33
  go_upto_region 4 with fail
  obtain ⟨Z, hZ⟩ : ∃ Z, Z = (((W3.setCell ⟨h11, 0, none⟩ (.int .i32 (thenP (thenP p q) r).fg)).setCell ⟨h11, 1, none⟩ (.int .i32 (thenP (thenP p q) r).bg)).setCell ⟨h11, 2, none⟩ (.int .u8 (bI (thenP (thenP p q) r).add))).setCell ⟨h11, 3, none⟩ (.int .u8 (bI (thenP (thenP p q) r).drop)) := ⟨_, rfl⟩
  rw [← hZ] at K11 HX11 ⊢
  clear hZ z0 z1 z2 z3 y0 y1 y2 y3 l11 hb11
  have HZ := HY.trans (HX11.mono HY.size)
  have K9 := K9.keep HX11 K9.lt
  have K10 := K10.keep HX11 K10.lt
  obtain ⟨c0, c1, c2, c3, f0, f1, f2, f3⟩ := k1.keep HZ k1.lt
  go_wp2_with fail
  refine (then_left p _).mono ?_; rintro e' W4 ⟨rfl, hb4⟩
  go_upto_region 5 with fail
  have HW4 := HZ.trans (hb4.mono HZ.size)
  have K9 := (K9.keep hb4 K9.lt).alloc (.cells #[.int .i32 (toldP p).fg, .int .i32 (toldP p).bg, .int .u8 (bI (toldP p).add), .int .u8 (bI (toldP p).drop)] 36)
  have K10 := (K10.keep hb4 K10.lt).alloc (.cells #[.int .i32 (toldP p).fg, .int .i32 (toldP p).bg, .int .u8 (bI (toldP p).add), .int .u8 (bI (toldP p).drop)] 36)
  have K11 := (K11.keep hb4 K11.lt).alloc (.cells #[.int .i32 (toldP p).fg, .int .i32 (toldP p).bg, .int .u8 (bI (toldP p).add), .int .u8 (bI (toldP p).drop)] 36)
  have HU := HW4.alloc HW4.size (.cells #[.int .i32 (toldP p).fg, .int .i32 (toldP p).bg, .int .u8 (bI (toldP p).add), .int .u8 (bI (toldP p).drop)] 36)
  have K12 : C4 (W4.alloc (.cells #[.int .i32 (toldP p).fg, .int .i32 (toldP p).bg, .int .u8 (bI (toldP p).add), .int .u8 (bI (toldP p).drop)] 36)) W4.heap.size (.int .i32 (toldP p).fg) (.int .i32 (toldP p).bg) (.int .u8 (bI (toldP p).add)) (.int .u8 (bI (toldP p).drop)) := by constructor <;> simp [go_sem]
  obtain ⟨B12, hB12⟩ : ∃ b, b = W4.heap.size := ⟨_, rfl⟩
  rw [← hB12] at K12 ⊢
  obtain ⟨U, hU⟩ : ∃ U, U = W4.alloc (.cells #[.int .i32 (toldP p).fg, .int .i32 (toldP p).bg, .int .u8 (bI (toldP p).add), .int .u8 (bI (toldP p).drop)] 36) := ⟨_, rfl⟩
  rw [← hU] at K9 K10 K11 K12 HU ⊢
  clear hU hB12 hb4 HW4 HZ c0 c1 c2 c3 f0 f1 f2 f3
  have HA := HB0.trans (HU.mono HB0.size)
  have AL := Lib.hid (fun d os => calls_later (A.out (grow (redrawn U d) os) (HA.trans ((below_regrown U d os).mono HA.size))))
  have g00 := fun d os => ((k0.keep HU k0.lt).regrown d os).c0
  have g01 := fun d os => ((k0.keep HU k0.lt).regrown d os).c1
  have g02 := fun d os => ((k0.keep HU k0.lt).regrown d os).c2
  have g10 := fun d os => ((k1.keep HU k1.lt).regrown d os).c0
  have g11 := fun d os => ((k1.keep HU k1.lt).regrown d os).c1
  have g12 := fun d os => ((k1.keep HU k1.lt).regrown d os).c2
  have g13 := fun d os => ((k1.keep HU k1.lt).regrown d os).c3
  have g20 := fun d os => ((k2.keep HU k2.lt).regrown d os).c0
  have g21 := fun d os => ((k2.keep HU k2.lt).regrown d os).c1
  have g22 := fun d os => ((k2.keep HU k2.lt).regrown d os).c2
  have g23 := fun d os => ((k2.keep HU k2.lt).regrown d os).c3
  have g90 := fun d os => ((K9).regrown d os).c0
  have g91 := fun d os => ((K9).regrown d os).c1
  have g92 := fun d os => ((K9).regrown d os).c2
  have ga0 := fun d os => ((K10).regrown d os).c0
  have ga1 := fun d os => ((K10).regrown d os).c1
  have ga2 := fun d os => ((K10).regrown d os).c2
  have ga3 := fun d os => ((K10).regrown d os).c3
  have gb0 := fun d os => ((K11).regrown d os).c0
  have gb1 := fun d os => ((K11).regrown d os).c1
  have gb2 := fun d os => ((K11).regrown d os).c2
  have gb3 := fun d os => ((K11).regrown d os).c3
  have gc0 := fun d os => ((K12).regrown d os).c0
  have gc1 := fun d os => ((K12).regrown d os).c1
  have gc2 := fun d os => ((K12).regrown d os).c2
  have gc3 := fun d os => ((K12).regrown d os).c3
  clear k0 k1 k2 k3 K9 K10 K11 K12
  refine wp_region_spec 43 [(36, showS 2 (patL p ++ patL q)), (45, showS 1 (patL (thenP p q))), (65, showS 1 (patL (toldP p))), (69, showS 1 (patL p))] [36, 45, 65, 69] (by kernel_rfl) (by kernel_rfl) (by kernel_rfl) (by intro t ht; simp at ht; rcases ht with rfl | rfl | rfl | rfl <;> (intro h; cases h)) ?_
  simp only [List.take_succ_cons, List.take_zero, List.drop_succ_cons, List.drop_zero]
  repeat (refine wpS_step (by rfl) (fun K hK => ?_); go_simp; first | (refine hK _ ?_; clear hK K) | (apply Exists.intro; refine ⟨fun _ => ?_, hK _ ?_⟩; (fail); clear hK K))
  refine wpS_born 36 rfl (by simp) (by first | (simp; done) | simp [put_size]) (by rfl) (by rfl) (by intro _ _ h; cases h) (fun x => ?_) ?_
  · go_simp
    exact born_slice (by simp [grow, redrawn])
  repeat (refine wpS_step (by rfl) (fun K hK => ?_); go_simp; first | (refine hK _ ?_; clear hK K) | (apply Exists.intro; refine ⟨fun _ => ?_, hK _ ?_⟩; (fail); clear hK K))
  refine wpS_use 36 (styV (over1 (over1 (countS s) p) q).fg (over1 (over1 (countS s) p) q).bg (over1 (over1 (countS s) p) q).at_) (by simp) (by first | (simp; done) | simp [put_size]) (by rfl) (by rfl) (by rfl) (by rfl) (by rfl) (by intro _ _ h; cases h) (fun x u hu => ?_) ?_
  · obtain ⟨A, rfl, hs⟩ := seesP_shows (ps := [p, q]) rfl hu
    go_simp
    exact calls_later (over_both s p q A _ hs)
  repeat (refine wpS_step (by rfl) (fun K hK => ?_); go_simp; first | (refine hK _ ?_; clear hK K) | (apply Exists.intro; refine ⟨fun _ => ?_, hK _ ?_⟩; (with_reducible exact (st_Then' p q).later); clear hK K))
  refine wpS_born 45 rfl (by simp) (by first | (simp; done) | simp [put_size]) (by rfl) (by rfl) (by intro _ _ h; cases h) (fun x => ?_) ?_
  · go_simp
    exact born_slice (by simp [grow, redrawn])
  repeat (refine wpS_step (by rfl) (fun K hK => ?_); go_simp; first | (refine hK _ ?_; clear hK K) | (apply Exists.intro; refine ⟨fun _ => ?_, hK _ ?_⟩; (fail); clear hK K))
  refine wpS_use 45 (styV (over1 (over1 (countS s) p) q).fg (over1 (over1 (countS s) p) q).bg (over1 (over1 (countS s) p) q).at_) (by simp) (by first | (simp; done) | simp [put_size]) (by rfl) (by rfl) (by rfl) (by rfl) (by rfl) (by intro _ _ h; cases h) (fun x u hu => ?_) ?_
  · obtain ⟨A, rfl, hs⟩ := seesP_shows (ps := [thenP p q]) rfl hu
    go_simp
    exact calls_later (over_then' s p q A _ hs)
  repeat (refine wpS_step (by rfl) (fun K hK => ?_); go_simp; first | (refine hK _ ?_; clear hK K) | (apply Exists.intro; refine ⟨fun _ => ?_, hK _ ?_⟩; (exact (then_none p).later); clear hK K))
  refine wpS_born 65 rfl (by simp) (by first | (simp; done) | simp [put_size]) (by rfl) (by rfl) (by intro _ _ h; cases h) (fun x => ?_) ?_
  · go_simp
    exact born_slice (by simp [grow, redrawn])
  repeat (refine wpS_step (by rfl) (fun K hK => ?_); go_simp; first | (refine hK _ ?_; clear hK K) | (apply Exists.intro; refine ⟨fun _ => ?_, hK _ ?_⟩; (fail); clear hK K))
  refine wpS_use 65 (styV (over1 (countS s) p).fg (over1 (countS s) p).bg (over1 (countS s) p).at_) (by simp) (by first | (simp; done) | simp [put_size]) (by rfl) (by rfl) (by rfl) (by rfl) (by rfl) (by intro _ _ h; cases h) (fun x u hu => ?_) ?_
  · obtain ⟨A, rfl, hs⟩ := seesP_shows (ps := [toldP p]) rfl hu
    go_simp
    exact calls_later (over_told' s p A _ hs)
  repeat (refine wpS_step (by rfl) (fun K hK => ?_); go_simp; first | (refine hK _ ?_; clear hK K) | (apply Exists.intro; refine ⟨fun _ => ?_, hK _ ?_⟩; (fail); clear hK K))
  refine wpS_born 69 rfl (by simp) (by first | (simp; done) | simp [put_size]) (by rfl) (by rfl) (by intro _ _ h; cases h) (fun x => ?_) ?_
  · go_simp
    exact born_slice (by simp [grow, redrawn])
  repeat (refine wpS_step (by rfl) (fun K hK => ?_); go_simp; first | (refine hK _ ?_; clear hK K) | (apply Exists.intro; refine ⟨fun _ => ?_, hK _ ?_⟩; (fail); clear hK K))
  refine wpS_use 69 (styV (over1 (countS s) p).fg (over1 (countS s) p).bg (over1 (countS s) p).at_) (by simp) (by first | (simp; done) | simp [put_size]) (by rfl) (by rfl) (by rfl) (by rfl) (by rfl) (by intro _ _ h; cases h) (fun x u hu => ?_) ?_
  · obtain ⟨A, rfl, hs⟩ := seesP_shows (ps := [p]) rfl hu
    go_simp
    exact calls_later (over_one s p A _ hs)
  repeat (refine wpS_step (by rfl) (fun K hK => ?_); go_simp; first | (refine hK _ ?_; clear hK K) | (apply Exists.intro; refine ⟨fun _ => ?_, hK _ ?_⟩; (exact AL.out _ _); clear hK K))
  refine wpS_nil ?_
  intro W5 vs5 hl hv
  have hb5 := later_below.1 hl
  simp only [fillA]
  go_wp2_with fail
  go_ret
  exact ⟨rfl, HA.trans (hb5.mono HA.size)⟩
end Go.Proofs.YthcdcbibbfdjmaaDoor
