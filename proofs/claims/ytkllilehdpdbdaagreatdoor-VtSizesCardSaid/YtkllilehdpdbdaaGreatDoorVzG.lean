/- VtSizes: the document's Same; what a herd's terminals tell; sized. -/
import Derived.Test.YtkllilehdpdbdaaGreatDoorVzE
namespace Go.Proofs.YtkllilehdpdbdaaGreatDoor
open Go Go.RowKit Go.Sort
set_option linter.unusedVariables false
set_option linter.unusedSimpArgs false
section
set_option maxHeartbeats 8000000 in
set_option maxRecDepth 100000 in
/-- the document's Same, of two screens that show the same -/
theorem r26_Same (s : Scr) (A1 A2 : Option Addr) (c1 c2 : Nat) (W : World) (hl : s.cells.length ≤ 1048576) (N1 : RowAt W 49 5 (.slice A1 s.cells.length c1) s.cells.length (celsV s.cells)) (N2 : RowAt W 49 5 (.slice A2 s.cells.length c2) s.cells.length (celsV s.cells)) :
    Calls Tryz.prog 26 #[scrV s A1 c1, scrV s A2 c2] W fun e w' => e = .returned (.bool true) ∧ Below W.heap.size W w' := by
  obtain ⟨w, h, L, x, y, sh⟩ := s
  simp only at hl N1 N2
  simp only [scrV]
  have CE : Hid (∀ k, k < L.length → ∃ g1 g2, A1 = some ⟨g1, 0, none⟩ ∧ A2 = some ⟨g2, 0, none⟩ ∧ ∀ wr, Below W.heap.size W wr → (wr.cell? ⟨g1, k * 5, none⟩ = some (.string (L.getD k celD).text) ∧ wr.cell? ⟨g1, k * 5 + 1, none⟩ = some (.int .i8 (L.getD k celD).wide) ∧ wr.cell? ⟨g1, k * 5 + 2, none⟩ = some (.int .i32 (L.getD k celD).st.fg) ∧ wr.cell? ⟨g1, k * 5 + 3, none⟩ = some (.int .i32 (L.getD k celD).st.bg) ∧ wr.cell? ⟨g1, k * 5 + 4, none⟩ = some (.int .u8 (bI (L.getD k celD).st.at_))) ∧ (wr.cell? ⟨g2, k * 5, none⟩ = some (.string (L.getD k celD).text) ∧ wr.cell? ⟨g2, k * 5 + 1, none⟩ = some (.int .i8 (L.getD k celD).wide) ∧ wr.cell? ⟨g2, k * 5 + 2, none⟩ = some (.int .i32 (L.getD k celD).st.fg) ∧ wr.cell? ⟨g2, k * 5 + 3, none⟩ = some (.int .i32 (L.getD k celD).st.bg) ∧ wr.cell? ⟨g2, k * 5 + 4, none⟩ = some (.int .u8 (bI (L.getD k celD).st.at_)))) := Lib.hid (fun k hk => by
    obtain ⟨g1, rfl, l1, a0, a1, a2, a3, a4⟩ := row_cells N1 k hk
    obtain ⟨g2, rfl, l2, b0, b1, b2, b3, b4⟩ := row_cells N2 k hk
    refine ⟨g1, g2, rfl, rfl, fun wr hb => ⟨⟨?_, ?_, ?_, ?_, ?_⟩, ⟨?_, ?_, ?_, ?_, ?_⟩⟩⟩
    · exact (hb.cell (p := ⟨g1, k * 5, none⟩) l1).trans a0
    · exact (hb.cell (p := ⟨g1, k * 5 + 1, none⟩) l1).trans a1
    · exact (hb.cell (p := ⟨g1, k * 5 + 2, none⟩) l1).trans a2
    · exact (hb.cell (p := ⟨g1, k * 5 + 3, none⟩) l1).trans a3
    · exact (hb.cell (p := ⟨g1, k * 5 + 4, none⟩) l1).trans a4
    · exact (hb.cell (p := ⟨g2, k * 5, none⟩) l2).trans b0
    · exact (hb.cell (p := ⟨g2, k * 5 + 1, none⟩) l2).trans b1
    · exact (hb.cell (p := ⟨g2, k * 5 + 2, none⟩) l2).trans b2
    · exact (hb.cell (p := ⟨g2, k * 5 + 3, none⟩) l2).trans b3
    · exact (hb.cell (p := ⟨g2, k * 5 + 4, none⟩) l2).trans b4)
  obtain ⟨n, hn⟩ : ∃ n, n = L.length := ⟨_, rfl⟩
  rw [← hn] at CE hl ⊢
  clear N1 N2 hn
  obtain ⟨Q1, hQ1⟩ : ∃ Q1, Q1 = W.alloc (.cells #[.int .i64 w, .int .i64 h, .slice A1 n c1, .int .i64 x, .int .i64 y, .bool sh] 42) := ⟨_, rfl⟩
  have BQ1 : Below W.heap.size W Q1 := by rw [hQ1]; exact (Below.refl _ W).alloc (Nat.le_refl _) _
  have K1 : Bk Q1 W.heap.size [.int .i64 w, .int .i64 h, .slice A1 n c1, .int .i64 x, .int .i64 y, .bool sh] 42 := by rw [hQ1]; exact Bk.new W _ _
  have sz : Q1.heap.size = W.heap.size + 1 := by rw [hQ1]; simp
  obtain ⟨Q, hQ⟩ : ∃ Q, Q = Q1.alloc (.cells #[.int .i64 w, .int .i64 h, .slice A2 n c2, .int .i64 x, .int .i64 y, .bool sh] 42) := ⟨_, rfl⟩
  have BQ2 : Below Q1.heap.size Q1 Q := by rw [hQ]; exact (Below.refl _ Q1).alloc (Nat.le_refl _) _
  have K2 : Bk Q (W.heap.size + 1) [.int .i64 w, .int .i64 h, .slice A2 n c2, .int .i64 x, .int .i64 y, .bool sh] 42 := by rw [hQ, ← sz]; exact Bk.new Q1 _ _
  have K1 := K1.of_eq (BQ2.block _ K1.lt)
  have BQ : Below W.heap.size W Q := BQ1.trans (BQ2.mono BQ1.size)
  have hQQ : Q = (W.alloc (.cells #[.int .i64 w, .int .i64 h, .slice A1 n c1, .int .i64 x, .int .i64 y, .bool sh] 42)).alloc (.cells #[.int .i64 w, .int .i64 h, .slice A2 n c2, .int .i64 x, .int .i64 y, .bool sh] 42) := by rw [hQ, hQ1]
  have k10 := K1.c 0 _ rfl
  have k11 := K1.c 1 _ rfl
  have k12 := K1.c 2 _ rfl
  have k13 := K1.c 3 _ rfl
  have k14 := K1.c 4 _ rfl
  have k15 := K1.c 5 _ rfl
  have k20 := K2.c 0 _ rfl
  have k21 := K2.c 1 _ rfl
  have k22 := K2.c 2 _ rfl
  have k23 := K2.c 3 _ rfl
  have k24 := K2.c 4 _ rfl
  have k25 := K2.c 5 _ rfl
  have KH1 := Lib.hid K1
  have KH2 := Lib.hid K2
  have HB := Lib.hid BQ
  have HQQ := Lib.hid hQQ
  clear hQ1 BQ1 sz hQ BQ2 K1 K2 BQ hQQ
  go_enter Tryz.func26, Tryz.ntmps26
  go_upto_region 1 with fail
  rw [← HQQ.out]
  clear HQQ
  go_wp2_with fail
  clear k10 k11 k13 k14 k15 k20 k21 k22 k23 k24 k25 k12
  go_loopw [5] (fun i wr => ∃ k : Nat, k ≤ n ∧ i = .int .i64 (k : Int) ∧ Hid (Below Q.heap.size Q wr)) (fun i _ => n - (intOf i).toNat)
  case atStart => exact ⟨0, Nat.zero_le _, by simp, Lib.hid (Below.refl _ _)⟩
  case round =>
    obtain ⟨k, hk, rfl, hr⟩ := hrel
    have K1 := KH1.out.of_eq (hr.out.block _ KH1.out.lt)
    have K2 := KH2.out.of_eq (hr.out.block _ KH2.out.lt)
    by_cases lt : k < n
    · obtain ⟨g1, g2, rfl, rfl, CC⟩ := CE.out k lt
      have C1 := fun d os => (CC (grow (redrawn wr d) os) ((HB.out.trans (hr.out.mono HB.out.size)).trans ((below_regrown wr d os).mono (HB.out.trans (hr.out.mono HB.out.size)).size))).1
      have C2 := fun d os => (CC (grow (redrawn wr d) os) ((HB.out.trans (hr.out.mono HB.out.size)).trans ((below_regrown wr d os).mono (HB.out.trans (hr.out.mono HB.out.size)).size))).2
      have z0 := fun d os => (C1 d os).1
      have z1 := fun d os => (C1 d os).2.1
      have z2 := fun d os => (C1 d os).2.2.1
      have z3 := fun d os => (C1 d os).2.2.2.1
      have z4 := fun d os => (C1 d os).2.2.2.2
      have y0 := fun d os => (C2 d os).1
      have y1 := fun d os => (C2 d os).2.1
      have y2 := fun d os => (C2 d os).2.2.1
      have y3 := fun d os => (C2 d os).2.2.2.1
      have y4 := fun d os => (C2 d os).2.2.2.2
      have k12 := K1.c 2 _ rfl
      have k22 := K2.c 2 _ rfl
      have k12' := fun d os => (K1.regrown d os).c 2 _ rfl
      have k22' := fun d os => (K2.regrown d os).c 2 _ rfl
      generalize (L.getD k celD) = X at *
      have q0 : (0 : Int) ≤ (k : Int) := by omega
      have q5 : (k : Int) < (n : Int) := by omega
      have tn : (k : Int).toNat = k := by omega
      have wk : IntKind.i64.wrap ((k : Int) + 1) = (k : Int) + 1 := IntWalk.i64_in _ (by omega)
      clear CE CC C1 C2 K1 K2
      go_upto_region 6 with fail
      refine wp_region_spec 10 [] [] (by kernel_rfl) (by kernel_rfl) (by kernel_rfl) (by intro t ht; cases ht) ?_
      simp only [List.take_succ_cons, List.take_zero, List.drop_succ_cons, List.drop_zero]
      repeat (refine wpS_step (by rfl) (fun K hK => ?_); go_simp; first | (refine hK _ ?_; clear hK K) | (apply Exists.intro; refine ⟨fun _ => ?_, hK _ ?_⟩; (fail); clear hK K))
      refine wpS_nil ?_
      intro W5 vs5 hl2 hv
      have B5 := Lib.hid (hr.out.trans ((later_below.1 hl2).mono hr.out.size))
      clear hl2 hv k12 k22 z0 z1 z2 z3 z4 y0 y1 y2 y3 y4 k12' k22' hr
      simp only [fillA]
      go_wp2_with fail
      go_roundw
      case rel => exact ⟨k + 1, by omega, by go_num, B5⟩
      case measure => simp [intOf]; omega
    · have ek : k = n := by omega
      subst ek
      have q5 : ¬ (k : Int) < (k : Int) := by omega
      have k12 := K1.c 2 _ rfl
      clear CE K1 K2
      go_wp2_with fail
      go_ret
      exact ⟨rfl, HB.out.trans (hr.out.mono HB.out.size)⟩
end
section
variable {W V V' : World} {T : List (Nat × Trm)} {Z : List Nat} {i b : Nat} {t : Trm}
theorem Herd.screen (h : Herd W V T Z) (hi : T[i]? = some (b, t)) (f : Fine t) : Calls Tryz.prog 24 #[.pointer (some ⟨b, 0, none⟩)] V fun e w' => ∃ A c, e = .returned (scrV (seenT t) A c) ∧ NewRow V.heap.size 49 5 (.slice A t.cells.length c) t.cells.length (celsV t.cells) w' ∧ Below V.heap.size V w' := by
  obtain ⟨F, S, _⟩ := h.at hi
  exact t_Screen S f
theorem Herd.title (h : Herd W V T Z) (hi : T[i]? = some (b, t)) : Calls Tryz.prog 25 #[.pointer (some ⟨b, 0, none⟩)] V fun e w' => e = .returned (.string t.name) ∧ w' = V := by
  obtain ⟨F, S, _⟩ := h.at hi
  exact t_Title S
theorem Herd.written (h : Herd W V T Z) (hi : T[i]? = some (b, t)) (hl : t.wrt.length ≤ 1048576) : Calls Tryz.prog 22 #[.pointer (some ⟨b, 0, none⟩)] V fun e w' => ∃ A c, e = .returned (.slice A (writtenT t).length c) ∧ w'.ownsRow V.heap.size 3 1 (.slice A (writtenT t).length c) (writtenT t).length (ints (writtenT t)) ∧ Herd W w' (T.set i (b, nowW t)) Z ∧ (∀ z ∈ Z, w'.heap[z]? = V.heap[z]?) ∧ V.heap.size ≤ w'.heap.size := by
  obtain ⟨F, S, up, _⟩ := h.at hi
  refine (t_Written S hl).mono ?_
  rintro e w' ⟨v, rfl, ho, hs⟩
  obtain ⟨h2, h3⟩ := up _ _ hs
  obtain ⟨A, c, rfl⟩ := own_slc ho
  exact ⟨A, c, rfl, ho, h2, h3, hs.mv.size⟩
theorem Herd.replies (h : Herd W V T Z) (hi : T[i]? = some (b, t)) : Calls Tryz.prog 17 #[.pointer (some ⟨b, 0, none⟩)] V fun e w' => ∃ A c, e = .returned (.slice A t.reps.size c) ∧ KeptAt w' (.slice A t.reps.size c) t.reps ∧ Herd W w' (T.set i (b, noR t)) Z ∧ (∀ z ∈ Z, w'.heap[z]? = V.heap[z]?) ∧ V.heap.size ≤ w'.heap.size := by
  obtain ⟨F, S, up, _⟩ := h.at hi
  refine (t_Replies S).mono ?_
  rintro e w' ⟨v, rfl, K, _, hs⟩
  obtain ⟨h2, h3⟩ := up _ _ hs
  obtain ⟨A, c, rfl, _⟩ := id K
  exact ⟨A, c, rfl, K, h2, h3, hs.mv.size⟩
theorem Herd.resize (h : Herd W V T Z) (hi : T[i]? = some (b, t)) (w hh : Int) (w0' : 0 ≤ w) (w1 : w ≤ 4096) (h0 : 0 ≤ hh) (h1 : hh ≤ 4096) (ar : w * hh ≤ 1048576) : Calls Tryz.prog 23 #[.pointer (some ⟨b, 0, none⟩), .int .i64 w, .int .i64 hh] V fun e w' => e = .returned (.int .i64 0) ∧ Herd W w' (T.set i (b, newV w hh)) Z ∧ (∀ z ∈ Z, w'.heap[z]? = V.heap[z]?) ∧ V.heap.size ≤ w'.heap.size := by
  obtain ⟨F, S, up, _⟩ := h.at hi
  refine (t_Resize S w hh w0' w1 h0 h1 ar).mono ?_
  rintro e w' ⟨rfl, hs⟩
  obtain ⟨h2, h3⟩ := up _ _ hs
  exact ⟨rfl, h2, h3, hs.mv.size⟩
/-- bytes of a literal -/
theorem Herd.feedLit (h : Herd W V T Z) (hi : T[i]? = some (b, t)) (Lv : Live t) (D : List Int) (hD : D.length ≤ 1000) (rng : ∀ b ∈ D, 0 ≤ b ∧ b < 256) (hh : t.held.size ≤ 299000000) (fl : Nat × Nat) :
    Calls Tryz.prog 16 #[.pointer (some ⟨b, 0, none⟩), .slice (some ⟨V.heap.size, 0, none⟩) D.length D.length] (V.alloc (.cells (D.map fun b => Value.int .u8 b).toArray 5 fl)) fun e w' => e = .returned (.int .i64 0) ∧ Herd W w' (T.set i (b, feedT t D)) Z := by
  have BV2 : Below V.heap.size V (V.alloc (.cells (D.map fun b => Value.int .u8 b).toArray 5 fl)) := (Below.refl _ V).alloc (Nat.le_refl _) _
  obtain ⟨F, h2, up, _, hF⟩ := h.atAt BV2 hi
  refine (t_Feed h2 Lv (some ⟨V.heap.size, 0, none⟩) D.length D (by omega) (by omega) rng (fed_lit D (World.alloc_heap_new V _) hF)).mono ?_
  rintro e w' ⟨h1, h3⟩
  exact ⟨h1, (up _ _ h3).1⟩
set_option maxHeartbeats 16000000 in
set_option maxRecDepth 100000 in
theorem law_sized (w hh : Int) (h : Herd W V T Z) (hi : T[i]? = some (b, t)) (f : Fine t) :
    Calls Tryz.prog 27 #[.pointer (some ⟨b, 0, none⟩), .int .i64 w, .int .i64 hh] V fun e w' => e = .returned (.bool true) ∧ Below W.heap.size W w' := by
  by_cases bad : w < 0 ∨ hh < 0 ∨ 4096 < w ∨ 4096 < hh ∨ 1048576 < w * hh
  · have NB := Lib.hid (t_New_bad w hh bad V)
    have RB := Lib.hid (t_Resize_bad w hh bad V b)
    have BB := Lib.hid h.bel
    clear bad h f
    go_enter Tryz.func27, Tryz.ntmps27
    go_wp2_with fail
    refine NB.out.mono ?_; rintro e V1 ⟨rfl, rfl⟩
    go_wp2_with fail
    refine RB.out.mono ?_; rintro e V1 ⟨rfl, rfl⟩
    go_wp2_with fail
    go_ret
    exact ⟨rfl, BB.out⟩
  · have il : i < T.length := (List.getElem?_eq_some_iff.1 hi).1
    have r := And.intro (show 0 ≤ w by omega) (And.intro (show w ≤ 4096 by omega) (And.intro (show 0 ≤ hh by omega) (And.intro (show hh ≤ 4096 by omega) (show w * hh ≤ 1048576 by omega))))
    have a0 : 0 ≤ w * hh := Int.mul_nonneg r.1 r.2.2.1
    have NW := Lib.hid (t_New w hh r.1 r.2.1 r.2.2.1 r.2.2.2.1 r.2.2.2.2 V h.env)
    have R := Lib.hid r
    have LV := Lib.hid (live_new w hh r.1 r.2.1 r.2.2.1 r.2.2.2.1 r.2.2.2.2)
    have CL := Lib.hid (show (seenT (newV w hh)).cells.length ≤ 1048576 by rw [seen_cells]; have := LV.out.fine.cl; have := LV.out.fine.ar; omega)
    have SM := Lib.hid (fun A1 A2 c1 c2 (X : World) N1 N2 => r26_Same (seenT (newV w hh)) A1 A2 c1 c2 X CL.out N1 N2)
    rw [seen_cells] at SM
    have H := Lib.hid h
    have HI := Lib.hid hi
    have IL := Lib.hid il
    clear bad h f r a0 hi il
    go_enter Tryz.func27, Tryz.ntmps27
    go_wp2_with fail
    refine NW.out.mono ?_; rintro e V1 ⟨nb, rfl, hb1, hge, hx⟩
    have H1 := H.out.add hx
    have RS := Lib.hid (H1.resize (i := i) (b := b) (t := t) (by rw [List.getElem?_append_left IL.out]; exact HI.out) w hh R.out.1 R.out.2.1 R.out.2.2.1 R.out.2.2.2.1 R.out.2.2.2.2)
    clear NW H hb1 hge hx H1
    go_wp2_with fail
    refine RS.out.mono ?_; rintro e V2 ⟨rfl, H2, _, _⟩
    have SC1 := Lib.hid (H2.screen (i := i) (b := b) (t := newV w hh) (by rw [List.getElem?_set_self (by rw [List.length_append]; have := IL.out; omega)]) LV.out.fine)
    have H2 := Lib.hid H2
    clear RS
    go_wp2_with fail
    refine SC1.out.mono ?_; rintro e V3 ⟨A1, c1, rfl, N1, hb3⟩
    have H3 := H2.out.below hb3
    have SC2 := Lib.hid (H3.screen (i := T.length) (b := nb) (t := newV w hh) (by rw [List.getElem?_set_ne (by have := IL.out; omega), List.getElem?_append_right (Nat.le_refl _), Nat.sub_self]; rfl) LV.out.fine)
    have H3 := Lib.hid H3
    have N1 := Lib.hid N1
    clear SC1 hb3 H2
    go_wp2_with fail
    refine SC2.out.mono ?_; rintro e V4 ⟨A2, c2, rfl, N2, hb4⟩
    have S := Lib.hid (SM.out A1 A2 c1 c2 V4 (N1.out.1.keep (fun g m => hb4.block g (N1.out.1.lt g m))) N2.1)
    have H4 := Lib.hid (H3.out.below hb4)
    clear SC2 H3 N1 N2 hb4 SM
    go_wp2_with fail
    refine S.out.mono ?_; rintro e V5 ⟨rfl, hb5⟩
    have H5 := Lib.hid (H4.out.below hb5)
    clear S hb5 H4
    go_wp2_with fail
    go_ret
    exact ⟨rfl, H5.out.bel⟩
end
end Go.Proofs.YtkllilehdpdbdaaGreatDoor
