/- VtSizes: the walk. -/
import Derived.Test.YtkllilehdpdbdaaGreatDoorVzG
namespace Go.Proofs.YtkllilehdpdbdaaGreatDoor
open Go Go.RowKit Go.Sort
set_option linter.unusedVariables false
set_option linter.unusedSimpArgs false
section
theorem seen_new (w h : Int) : seenT (newV w h) = ⟨w, h, (newV w h).cells, 0, 0, decide (0 < w * h)⟩ := by
  unfold seenT
  by_cases p : 0 < w * h
  · rw [if_pos ⟨rfl, p⟩, decide_eq_true p]; rfl
  · rw [if_neg (fun q => p q.2), decide_eq_false p]; rfl
theorem cells_newV (w h : Int) : (newV w h).cells.length = (w * h).toNat := by
  show (List.replicate _ _ : List Cel).length = _
  rw [List.length_replicate]
theorem noR_new (w h : Int) : noR (newV w h) = newV w h := rfl
theorem nowW_new (w h : Int) : nowW (newV w h) = newV w h := by
  unfold nowW newV
  simp only [List.length_replicate]
theorem written_new (w h : Int) : (writtenT (newV w h)).length = 0 := by
  unfold writtenT newV
  rw [List.length_map, List.length_eq_zero_iff, List.filter_eq_nil_iff]
  intro a m
  simp only
  rw [List.getD_eq_getElem?_getD, List.getElem?_replicate]
  split <;> simp
variable {W V V' X : World} {T : List (Nat × Trm)} {Z : List Nat}
theorem Herd.newRow (h : Herd W V T Z) (hb : Below V.heap.size V V') {Ty : TypeId} {sz n : Nat} {v : Value} {xs : List Value} (N : NewRow V.heap.size Ty sz v n xs V') : Herd W V' T (ob v ++ Z) := by
  have lt := N.1.lt
  have ge := N.2
  cases e : ob v with
  | nil => exact h.below hb
  | cons g l =>
    have hl : l = [] := by
      have m : g ∈ ob v := by rw [e]; simp
      have := (ob_own m).2
      rw [e] at this
      simpa using this
    subst hl
    exact h.newZ hb (ge g (by rw [e]; simp)) (lt g (by rw [e]; simp))
/-- two new terminals of a size, a screen in a box, its row -/
structure SizeAt (W X : World) (w h : Int) (tb xb g : Nat) (A : Option Addr) (c M : Nat) (sh : Bool) : Prop where
  esh : sh = decide (0 < w * h)
  hd : Herd W X [(tb, newV w h), (xb, newV w h)] (g :: (ob (.slice A M c) ++ []))
  box : Bk X g [.int .i64 w, .int .i64 h, .slice A M c, .int .i64 0, .int .i64 0, .bool sh] 42
  row : RowAt X 49 5 (.slice A M c) M (celsV (newV w h).cells)
variable {w h : Int} {tb xb g c M : Nat} {A : Option Addr} {sh : Bool}
theorem SizeAt.below (s : SizeAt W X w h tb xb g A c M sh) (hb : Below X.heap.size X V) : SizeAt W V w h tb xb g A c M sh := ⟨s.esh, s.hd.below hb, s.box.of_eq (hb.block _ s.box.lt), s.row.keep (fun k m => hb.block k (s.row.lt k m))⟩
theorem SizeAt.step (s : SizeAt W X w h tb xb g A c M sh) (h2 : Herd W V [(tb, newV w h), (xb, newV w h)] (g :: (ob (.slice A M c) ++ []))) (zz : ∀ z ∈ (g :: (ob (.slice A M c) ++ [])), V.heap[z]? = X.heap[z]?) : SizeAt W V w h tb xb g A c M sh := ⟨s.esh, h2, s.box.of_eq (zz _ (by simp)), s.row.keep (fun k m => zz k (by simp [m]))⟩
theorem SizeAt.title (s : SizeAt W X w h tb xb g A c M sh) : Calls Tryz.prog 25 #[.pointer (some ⟨xb, 0, none⟩)] X fun e w' => e = .returned (.string ⟨#[]⟩) ∧ w' = X := s.hd.title (i := 1) rfl
theorem SizeAt.replies (s : SizeAt W X w h tb xb g A c M sh) : Calls Tryz.prog 17 #[.pointer (some ⟨xb, 0, none⟩)] X fun e w' => ∃ A2 c2, e = .returned (.slice A2 0 c2) ∧ SizeAt W w' w h tb xb g A c M sh := by
  refine (s.hd.replies (i := 1) rfl).mono ?_
  rintro e w' ⟨A2, c2, rfl, _, h2, zz, _⟩
  exact ⟨A2, c2, rfl, s.step h2 zz⟩
theorem SizeAt.written (s : SizeAt W X w h tb xb g A c M sh) (LV : Live (newV w h)) : Calls Tryz.prog 22 #[.pointer (some ⟨xb, 0, none⟩)] X fun e w' => ∃ A2 c2, e = .returned (.slice A2 0 c2) ∧ SizeAt W w' w h tb xb g A c M sh := by
  refine (s.hd.written (i := 1) rfl (by have := LV.fine.wl; have := LV.fine.cl; have := LV.fine.ar; omega)).mono ?_
  rintro e w' ⟨A2, c2, rfl, _, h2, zz, _⟩
  rw [nowW_new] at h2
  rw [written_new]
  exact ⟨A2, c2, rfl, s.step h2 zz⟩
theorem SizeAt.screen (s : SizeAt W X w h tb xb g A c M sh) (LV : Live (newV w h)) (hM : (newV w h).cells.length = M) : Calls Tryz.prog 24 #[.pointer (some ⟨tb, 0, none⟩)] X fun e w' => ∃ A2 c2, e = .returned (.agg #[.int .i64 w, .int .i64 h, .slice A2 M c2, .int .i64 0, .int .i64 0, .bool sh]) ∧ RowAt w' 49 5 (.slice A2 M c2) M (celsV (newV w h).cells) ∧ SizeAt W w' w h tb xb g A c M sh := by
  refine (s.hd.screen (i := 0) rfl LV.fine).mono ?_
  rintro e w' ⟨A2, c2, rfl, N, hb⟩
  rw [hM] at N
  refine ⟨A2, c2, ?_, N.1, s.below hb⟩
  rw [seen_new, ← s.esh]
  unfold scrV
  rw [hM]
theorem SizeAt.same (s : SizeAt W X w h tb xb g A c M sh) (LV : Live (newV w h)) (hM : (newV w h).cells.length = M) {A2 : Option Addr} {c2 : Nat} (N : RowAt X 49 5 (.slice A2 M c2) M (celsV (newV w h).cells)) : Calls Tryz.prog 26 #[.agg #[.int .i64 w, .int .i64 h, .slice A M c, .int .i64 0, .int .i64 0, .bool sh], .agg #[.int .i64 w, .int .i64 h, .slice A2 M c2, .int .i64 0, .int .i64 0, .bool sh]] X fun e w' => e = .returned (.bool true) ∧ SizeAt W w' w h tb xb g A c M sh := by
  have R := r26_Same (seenT (newV w h)) A A2 c c2 X (by rw [seen_cells]; have := LV.fine.cl; have := LV.fine.ar; omega) (by rw [seen_cells, hM]; exact s.row) (by rw [seen_cells, hM]; exact N)
  rw [seen_new, ← s.esh] at R
  unfold scrV at R
  simp only at R
  rw [hM] at R
  refine R.mono ?_
  rintro e w' ⟨rfl, hb⟩
  exact ⟨rfl, s.below hb⟩
theorem SizeAt.sized (s : SizeAt W X w h tb xb g A c M sh) (LV : Live (newV w h)) (w2 h2 : Int) : Calls Tryz.prog 27 #[.pointer (some ⟨tb, 0, none⟩), .int .i64 w2, .int .i64 h2] X fun e w' => e = .returned (.bool true) ∧ Below W.heap.size W w' := law_sized w2 h2 s.hd (i := 0) rfl LV.fine
/-- what a terminal of 2 by 1 is fed -/
def szD : List Int := [97, 98, 27, 91, 54, 110, 27, 93, 50, 59, 120, 7]
def szT : Trm := feedT (newV 2 1) szD
theorem sz_rng : ∀ b ∈ szD, 0 ≤ b ∧ b < 256 := by decide
theorem sz_seen : szT.w = 2 ∧ szT.h = 1 ∧ szT.shown = true := by decide +kernel
theorem sz_len : szT.cells.length = 2 := by decide +kernel
theorem sz_text : (szT.cells.getD 1 celD).text = ⟨#[98]⟩ := by decide +kernel
theorem sz_name : szT.name = ⟨#[120]⟩ := by decide +kernel
theorem sz_live : Live (newV 2 1) := live_new 2 1 (by decide) (by decide) (by decide) (by decide) (by decide)
theorem sz_liveT : Live szT := (live_feed szD sz_live sz_rng).1
theorem sz_scr : seenT szT = ⟨2, 1, szT.cells, szT.cur.x, szT.cur.y, true⟩ := by
  obtain ⟨a, b, c⟩ := sz_seen
  unfold seenT
  rw [if_pos ⟨c, by rw [a, b]; decide⟩, a, b]
set_option maxHeartbeats 16000000 in
set_option maxRecDepth 100000 in
theorem vtSizes_walk (w h w2 h2 : Int) (hw : -9223372036854775808 ≤ w ∧ w ≤ 9223372036854775807) (hh : -9223372036854775808 ≤ h ∧ h ≤ 9223372036854775807) (hw2 : -9223372036854775808 ≤ w2 ∧ w2 ≤ 9223372036854775807) (hh2 : -9223372036854775808 ≤ h2 ∧ h2 ≤ 9223372036854775807) (W : World) (E : EnvV W) :
    Calls Tryz.prog 7 #[.int .i64 w, .int .i64 h, .int .i64 w2, .int .i64 h2] W fun e w' => e = .returned (.bool true) ∧ Below W.heap.size W w' := by
  have CV := fun (w : World) (C : Array Value) (n c : Nat) => Lib.run_convert_bytes_const (P := Tryz.prog) w 29 5 C n c Tryz.underlying29 Tryz.underlying5
  have NW2 : Hid (∀ V, EnvV V → Calls Tryz.prog 14 #[.int .i64 2, .int .i64 1] V fun e w' => ∃ b, e = .returned (.tuple #[.pointer (some ⟨b, 0, none⟩), .int .i64 0]) ∧ Below V.heap.size V w' ∧ V.heap.size ≤ b ∧ St V [] b (newV 2 1) w') := Lib.hid (fun V ev => t_New 2 1 (by decide) (by decide) (by decide) (by decide) (by decide) V ev)
  by_cases bad : w < 0 ∨ h < 0 ∨ 4096 < w ∨ 4096 < h ∨ 1048576 < w * h
  · have NB := Lib.hid (t_New_bad w h bad W)
    have RB := Lib.hid (fun V tb => t_Resize_bad w h bad V tb)
    have BAD := Lib.hid bad
    have WK := Lib.hid (law_works W E)
    have S0 := Lib.hid (Herd.nil E (Below.refl _ W))
    clear bad E
    go_enter Tryz.func7, Tryz.ntmps7
    go_wp2_with fail
    refine NB.out.mono ?_; rintro e V1 ⟨rfl, e1⟩
    rw [e1]
    clear e1 V1 NB
    go_upto_region 3 with fail
    go_cut [40] from 21 to 40 (fun s wx => s = .bool true ∧ wx = W)
    case first =>
      by_cases a1 : w < 0
      · clear BAD
        go_wp2_with fail
        all_goals go_meet
        all_goals exact ⟨rfl, rfl⟩
      by_cases a2 : h < 0
      · clear BAD
        go_wp2_with fail
        all_goals go_meet
        all_goals exact ⟨rfl, rfl⟩
      by_cases a3 : 4096 < w
      · clear BAD
        go_wp2_with fail
        all_goals go_meet
        all_goals exact ⟨rfl, rfl⟩
      by_cases a4 : 4096 < h
      · clear BAD
        go_wp2_with fail
        all_goals go_meet
        all_goals exact ⟨rfl, rfl⟩
      have a5 : 1048576 < w * h := by have := BAD.out; omega
      have p0 : 0 ≤ w * h := Int.mul_nonneg (by omega) (by omega)
      have p1 : w * h ≤ 4096 * 4096 := Int.mul_le_mul (by omega) (by omega) (by omega) (by decide)
      have mw : IntKind.i64.wrap (w * h) = w * h := IntWalk.i64_in _ (by omega)
      clear BAD
      go_wp2_with fail
      go_meet
      exact ⟨rfl, rfl⟩
    case rest =>
      obtain ⟨rfl, ew⟩ := hcut
      rw [ew]
      clear ew
      go_wp2_with fail
      refine WK.out.mono ?_; rintro e V1 ⟨rfl, hb1⟩
      have S1 := Lib.hid (S0.out.below hb1)
      clear hb1 WK S0
      go_wp2_with fail
      refine (NW2.out V1 S1.out.env).mono ?_; rintro e V2 ⟨xb, rfl, _, _, hx⟩
      have S2 : Hid (Herd W V2 [(xb, newV 2 1)] []) := Lib.hid (S1.out.add hx)
      have FD := Lib.hid (S2.out.feedLit (i := 0) rfl sz_live szD (by decide) sz_rng (by decide) (12, 13))
      clear hx S1 NW2 S2
      go_wp2_with fail
      refine FD.out.mono ?_; rintro e V3 ⟨rfl, S3⟩
      have S3 : Hid (Herd W V3 [(xb, szT)] []) := Lib.hid S3
      clear FD
      go_wp2_with fail
      refine (RB.out V3 xb).mono ?_; rintro e V4 ⟨rfl, e4⟩
      rw [e4]
      clear e4
      have SC := Lib.hid (S3.out.screen (i := 0) rfl sz_liveT.fine)
      clear RB
      go_wp2_with fail
      refine SC.out.mono ?_; rintro e w4 ⟨A, c, rfl, NR, hb4⟩
      rw [sz_scr]
      rw [sz_len] at NR
      have S4 := S3.out.below hb4
      have sv : scrV ⟨2, 1, szT.cells, szT.cur.x, szT.cur.y, true⟩ A c = .agg #[.int .i64 2, .int .i64 1, .slice A 2 c, .int .i64 szT.cur.x, .int .i64 szT.cur.y, .bool true] := by unfold scrV; rw [sz_len]
      rw [sv]
      generalize szT.cur.x = X at *
      generalize szT.cur.y = Y at *
      obtain ⟨V5, hV5⟩ : ∃ V5, V5 = w4.alloc (.cells #[.int .i64 2, .int .i64 1, .slice A 2 c, .int .i64 X, .int .i64 Y, .bool true] 42) := ⟨_, rfl⟩
      have B5 : Below w4.heap.size w4 V5 := by rw [hV5]; exact (Below.refl _ w4).alloc (Nat.le_refl _) _
      have K5 : Bk V5 w4.heap.size [.int .i64 2, .int .i64 1, .slice A 2 c, .int .i64 X, .int .i64 Y, .bool true] 42 := by rw [hV5]; exact Bk.new w4 _ _
      have S5 := S4.below B5
      have N5 := NR.below B5
      obtain ⟨gA, rfl, _, y5, _⟩ := row_cells (l := szT.cells) (by rw [sz_len]; exact N5.1) 1 (by rw [sz_len]; decide)
      rw [sz_text] at y5
      have y5 : V5.cell? ⟨gA, 5, none⟩ = some (.string ⟨#[98]⟩) := y5
      have TI := Lib.hid (S5.title (i := 0) rfl)
      rw [sz_name] at TI
      have BB := Lib.hid S5.bel
      have HV5 := Lib.hid hV5
      clear SC S3 NR hb4 S4 B5 N5 sv hV5 S5
      go_upto_region 14 with fail
      rw [← HV5.out]
      clear HV5
      have j0 := K5.c 0 _ rfl
      have j1 := K5.c 1 _ rfl
      have j2 := K5.c 2 _ rfl
      clear K5
      go_wp2_with fail
      refine TI.out.mono ?_; rintro e V6 ⟨rfl, e6⟩
      rw [e6]
      clear e6
      go_wp2_with fail
      go_ret
      exact ⟨rfl, BB.out⟩
  · have r := And.intro (show 0 ≤ w by omega) (And.intro (show w ≤ 4096 by omega) (And.intro (show 0 ≤ h by omega) (And.intro (show h ≤ 4096 by omega) (show w * h ≤ 1048576 by omega))))
    have p0 : 0 ≤ w * h := Int.mul_nonneg r.1 r.2.2.1
    obtain ⟨M, hM⟩ : ∃ M : Nat, w * h = (M : Int) := ⟨(w * h).toNat, by omega⟩
    have mw : IntKind.i64.wrap (w * h) = (M : Int) := by rw [hM]; exact IntWalk.i64_in _ (by omega)
    have mi : ¬ (1048576 : Int) < (M : Int) := by omega
    have a1 : ¬ w < 0 := by omega
    have a2 : ¬ h < 0 := by omega
    have a3 : ¬ 4096 < w := by omega
    have a4 : ¬ 4096 < h := by omega
    have CL : Hid ((newV w h).cells.length = M) := Lib.hid (by rw [cells_newV]; omega)
    have LV := Lib.hid (live_new w h r.1 r.2.1 r.2.2.1 r.2.2.2.1 r.2.2.2.2)
    have R := Lib.hid r
    have NW := Lib.hid (t_New w h r.1 r.2.1 r.2.2.1 r.2.2.2.1 r.2.2.2.2 W E)
    have S0 := Lib.hid (Herd.nil E (Below.refl _ W))
    clear bad r p0 hM E
    go_enter Tryz.func7, Tryz.ntmps7
    go_wp2_with fail
    refine NW.out.mono ?_; rintro e V1 ⟨tb, rfl, _, _, hx⟩
    have S1 : Hid (Herd W V1 [(tb, newV w h)] []) := Lib.hid (S0.out.add hx)
    clear hx NW S0
    go_wp2_with fail
    refine (law_works V1 S1.out.env).mono ?_; rintro e V2 ⟨rfl, hb2⟩
    have S2 := Lib.hid (S1.out.below hb2)
    clear hb2 S1
    go_wp2_with fail
    refine (NW2.out V2 S2.out.env).mono ?_; rintro e V3 ⟨xb, rfl, _, _, hx⟩
    have S3 : Hid (Herd W V3 [(tb, newV w h), (xb, newV 2 1)] []) := Lib.hid (S2.out.add hx)
    have FD := Lib.hid (S3.out.feedLit (i := 1) rfl sz_live szD (by decide) sz_rng (by decide) (12, 13))
    clear hx S2 NW2 S3
    go_wp2_with fail
    refine FD.out.mono ?_; rintro e V4 ⟨rfl, S4⟩
    have S4 : Hid (Herd W V4 [(tb, newV w h), (xb, szT)] []) := Lib.hid S4
    have RZ := Lib.hid (S4.out.resize (i := 1) rfl w h R.out.1 R.out.2.1 R.out.2.2.1 R.out.2.2.2.1 R.out.2.2.2.2)
    clear FD S4
    go_wp2_with fail
    refine RZ.out.mono ?_; rintro e V5 ⟨rfl, S5, _, _⟩
    have S5 : Hid (Herd W V5 [(tb, newV w h), (xb, newV w h)] []) := Lib.hid S5
    have SC := Lib.hid (S5.out.screen (i := 1) rfl LV.out.fine)
    clear RZ
    go_wp2_with fail
    refine SC.out.mono ?_; rintro e w6 ⟨A, c, rfl, NR, hb6⟩
    rw [CL.out] at NR
    have S6 := S5.out.newRow hb6 NR
    have sv : scrV (seenT (newV w h)) A c = .agg #[.int .i64 w, .int .i64 h, .slice A M c, .int .i64 0, .int .i64 0, .bool (decide (0 < w * h))] := by rw [seen_new]; unfold scrV; rw [CL.out]
    rw [sv]
    obtain ⟨SH, hSH⟩ : ∃ SH, SH = decide (0 < w * h) := ⟨_, rfl⟩
    obtain ⟨V7, hV7⟩ : ∃ V7, V7 = w6.alloc (.cells #[.int .i64 w, .int .i64 h, .slice A M c, .int .i64 0, .int .i64 0, .bool SH] 42) := ⟨_, rfl⟩
    have B7 : Below w6.heap.size w6 V7 := by rw [hV7]; exact (Below.refl _ w6).alloc (Nat.le_refl _) _
    have K7 : Bk V7 w6.heap.size [.int .i64 w, .int .i64 h, .slice A M c, .int .i64 0, .int .i64 0, .bool SH] 42 := by rw [hV7]; exact Bk.new w6 _ _
    obtain ⟨g, hg⟩ : ∃ g, g = w6.heap.size := ⟨_, rfl⟩
    have SA : Hid (SizeAt W V7 w h tb xb g A c M SH) := Lib.hid (by
      rw [hg]
      exact ⟨hSH, S6.newZ B7 (Nat.le_refl _) K7.lt, K7, (NR.below B7).1⟩)
    rw [← hSH]
    have HV7 := Lib.hid hV7
    clear SC S5 NR hb6 S6 sv B7 hSH K7 hV7
    go_upto_region 14 with fail
    rw [← HV7.out, ← hg]
    clear HV7 hg
    go_wp2_with fail
    have SD := Lib.hid (SA.out.below (Below.refl _ V7).drew)
    have K := SD.out.box
    have j0 := K.c 0 _ rfl
    have j1 := K.c 1 _ rfl
    have j2 := K.c 2 _ rfl
    have j3 := K.c 3 _ rfl
    have j4 := K.c 4 _ rfl
    have j5 := K.c 5 _ rfl
    clear K SA
    go_region_with (first
      | (go_at_call_of 25 (xb); refine SD.out.title.mono ?_; rintro e u1 ⟨rfl, hu⟩; rw [hu]; clear hu)
      | (go_at_call_of 17 (xb); refine SD.out.replies.mono ?_; rintro e u2 ⟨A2, c2, rfl, S2⟩; have SD := Lib.hid S2; clear S2)
      | (go_at_call_of 22 (xb); refine (SD.out.written LV.out).mono ?_; rintro e u3 ⟨A3, c3, rfl, S3⟩; have SD := Lib.hid S3; clear S3; have K := SD.out.box; have i0 := K.c 0 _ rfl; have i1 := K.c 1 _ rfl; have i2 := K.c 2 _ rfl; have i3 := K.c 3 _ rfl; have i4 := K.c 4 _ rfl; have i5 := K.c 5 _ rfl; clear K)
      | (go_at_call_of 24 (tb); refine (SD.out.screen LV.out CL.out).mono ?_; rintro e u4 ⟨A4, c4, rfl, N4, S4⟩; have SD := Lib.hid S4; have N4 := Lib.hid N4; clear S4; have K := SD.out.box; have i0 := K.c 0 _ rfl; have i1 := K.c 1 _ rfl; have i2 := K.c 2 _ rfl; have i3 := K.c 3 _ rfl; have i4 := K.c 4 _ rfl; have i5 := K.c 5 _ rfl; clear K)
      | (go_at_call 26; refine (SD.out.same LV.out CL.out N4.out).mono ?_; rintro e u5 ⟨rfl, S5⟩; have SD := Lib.hid S5; clear S5)
      | (go_at_call 27; refine (SD.out.sized LV.out w2 h2).mono ?_; rintro e u6 ⟨rfl, hb6⟩; have BB := Lib.hid hb6; clear hb6))
    all_goals (go_wp2_with fail)
    all_goals go_ret
    all_goals exact ⟨rfl, BB.out⟩
end
end Go.Proofs.YtkllilehdpdbdaaGreatDoor
