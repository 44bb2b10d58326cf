/- VtRight: the walk. -/
import Derived.Test.YtkllilehdpdbdaaGreatDoorVyO
import Derived.Test.YtkllilehdpdbdaaGreatDoorVyK
import Derived.Test.YtkllilehdpdbdaaGreatDoorVtY
import Derived.Test.YtkllilehdpdbdaaGreatDoorVtZ
namespace Go.Proofs.YtkllilehdpdbdaaGreatDoor
open Go Go.RowKit Go.Sort
set_option linter.unusedVariables false
set_option linter.unusedSimpArgs false
section
/-- bytes that a law is handed -/
structure ArgB (W : World) (A : Option Addr) (c : Nat) (D : List Int) : Prop where
  cap : D.length ≤ c
  rng : ∀ b ∈ D, 0 ≤ b ∧ b < 256
  sees : Sees W W.heap.size A (D.map (.int .u8))
theorem ArgB.fed {W V : World} {A : Option Addr} {c : Nat} {D : List Int} {F : List Nat} (h : ArgB W A c D) (hb : Below W.heap.size W V) (hF : ∀ b ∈ F, W.heap.size ≤ b) : FedAt V F A D := FedAt.old (B := W.heap.size) (fun k hk => by
  obtain ⟨ad, e, h1, h2⟩ := h.sees.at (k := k) (by simpa using hk)
  refine ⟨ad, e, h1, (hb.cell (by rw [add_blk]; exact h1)).trans ?_⟩
  rw [h2]
  simp [List.getD_eq_getElem?_getD, List.getElem?_eq_getElem hk]) hb.size hF
theorem St.fromN {W V : World} {nb : Nat} {t : Trm} (h : St W [] nb t V) : ∃ F, St V F nb t V ∧ (∀ t' W', St V F nb t' W' → St W [] nb t' W') ∧ ∀ b ∈ F, W.heap.size ≤ b := by
  obtain ⟨L, e, T, hf⟩ := h.lay
  have new : ∀ b ∈ L.fp, W.heap.size ≤ b := fun b m => (hf b m).elim (fun z => by simp at z) id
  have nv : ∀ b ∈ L.fp, NotV b := fun b hb => by
    have z := new b hb
    have a := block_lt_of_cell (h.g0.st.on 0 (by decide))
    have c := block_lt_of_cell (h.g0.st.off 0 (by decide))
    have d := h.g0.pg
    simp only at a c
    exact ⟨by omega, by omega, by omega⟩
  refine ⟨L.fp, ⟨h.env, Mv.refl _ _, nv, L, e, T, fun b hb => Or.inl hb⟩, fun t' W' k => ?_, new⟩
  obtain ⟨L', e', T', hf'⟩ := k.lay
  exact ⟨h.g0, h.mv.trans k.mv (fun b m => Or.inr (new b m)), h.ng, L', e', T', fun b hb => (hf' b hb).elim (fun m => Or.inr (new b m)) (fun z => Or.inr (Nat.le_trans h.mv.size z))⟩
/-- a terminal is fed what a law was handed -/
theorem arg_feed {W V : World} {nb : Nat} {t : Trm} {A : Option Addr} {c : Nat} {D : List Int} (h : ArgB W A c D) (S : St W [] nb t V) (Lv : Live t) (hD : D.length ≤ 1048576) (hh : t.held.size + D.length ≤ 9000000) :
    Calls Tryz.prog 16 #[.pointer (some ⟨nb, 0, none⟩), .slice A D.length c] V fun e w' => e = .returned (.int .i64 0) ∧ St W [] nb (feedT t D) w' := by
  obtain ⟨F, h1, up, hF⟩ := S.fromN
  refine (t_Feed h1 Lv A c D hD hh h.rng (h.fed (old_mv S.mv) hF)).mono ?_
  rintro e w' ⟨h2, h3⟩
  exact ⟨h2, up _ _ h3⟩
theorem ArgB.below {W V : World} {A : Option Addr} {c : Nat} {D : List Int} (h : ArgB W A c D) (hb : Below W.heap.size W V) : ArgB V A c D := ⟨h.cap, h.rng, fun hne => by
  obtain ⟨ad, e, h1, h2⟩ := h.sees hne
  exact ⟨ad, e, Nat.lt_of_lt_of_le h1 hb.size, fun j u hj => (hb.cell (by rw [add_blk]; exact h1)).trans (h2 j u hj)⟩⟩
set_option maxHeartbeats 16000000 in
set_option maxRecDepth 100000 in
theorem vtRight_walk (w h : Int) (hw : -9223372036854775808 ≤ w ∧ w ≤ 9223372036854775807) (hh : -9223372036854775808 ≤ h ∧ h ≤ 9223372036854775807) (A : Option Addr) (c : Nat) (D : List Int) (A2 : Option Addr) (c2 : Nat) (D2 : List Int) (W : World) (E : EnvV W) (H1 : ArgB W A c D) (H2 : ArgB W A2 c2 D2) :
    Calls Tryz.prog 12 #[.int .i64 w, .int .i64 h, .slice A D.length c, .slice A2 D2.length c2] W fun e w' => e = .returned (.bool true) ∧ Below W.heap.size W w' := by
  have WK := Lib.hid (law_works W E)
  have EW : Hid (∀ V, Below W.heap.size W V → EnvV V) := Lib.hid (fun V hb => E.mv (Mv.below (F := []) hb) (by simp))
  have H1 := Lib.hid H1
  have H2 := Lib.hid H2
  clear E
  by_cases n1 : 1048576 < D.length
  · have n1i : (1048576 : Int) < (D.length : Int) := by omega
    go_enter Tryz.func12, Tryz.ntmps12
    go_wp2_with fail
    refine WK.out.mono ?_; rintro e V1 ⟨rfl, hb1⟩
    have HB := Lib.hid hb1
    clear hb1 WK
    go_wp2_with fail
    refine (law_works V1 (EW.out V1 HB.out)).mono ?_; rintro e V2 ⟨rfl, hb2⟩
    have HB2 := Lib.hid (HB.out.trans (hb2.mono HB.out.size))
    clear hb2
    go_wp2_with fail
    go_ret
    exact ⟨rfl, HB2.out⟩
  have n1i : ¬ (1048576 : Int) < (D.length : Int) := by omega
  by_cases n2 : 1048576 < D2.length
  · have n2i : (1048576 : Int) < (D2.length : Int) := by omega
    go_enter Tryz.func12, Tryz.ntmps12
    go_wp2_with fail
    refine WK.out.mono ?_; rintro e V1 ⟨rfl, hb1⟩
    have HB := Lib.hid hb1
    clear hb1 WK
    go_wp2_with fail
    refine (law_works V1 (EW.out V1 HB.out)).mono ?_; rintro e V2 ⟨rfl, hb2⟩
    have HB2 := Lib.hid (HB.out.trans (hb2.mono HB.out.size))
    clear hb2
    go_wp2_with fail
    go_ret
    exact ⟨rfl, HB2.out⟩
  have n2i : ¬ (1048576 : Int) < (D2.length : Int) := by omega
  obtain ⟨SW, hSW⟩ : ∃ SW, SW = sideV w 40 := ⟨_, rfl⟩
  obtain ⟨SH, hSH⟩ : ∃ SH, SH = sideV h 20 := ⟨_, rfl⟩
  have r1 := side_rng w 40 (by decide)
  have r2 := side_rng h 20 (by decide)
  rw [← hSW] at r1
  rw [← hSH] at r2
  have ar : SW * SH ≤ 1048576 := by have := mulle r1.2 r2.2 r2.1 (show (0 : Int) ≤ 40 by decide); omega
  have SI1 : Hid (∀ X : World, Calls Tryz.prog 19 #[.int .i64 w, .int .i64 40] X fun e w' => e = .returned (.int .i64 SW) ∧ w' = X) := Lib.hid (fun X => by rw [hSW]; exact law_side w 40 hw (by decide) (by decide) X)
  have SI2 : Hid (∀ X : World, Calls Tryz.prog 19 #[.int .i64 h, .int .i64 20] X fun e w' => e = .returned (.int .i64 SH) ∧ w' = X) := Lib.hid (fun X => by rw [hSH]; exact law_side h 20 hh (by decide) (by decide) X)
  have R1 := Lib.hid r1
  have R2 := Lib.hid r2
  have AR := Lib.hid ar
  have LV := Lib.hid (live_new SW SH r1.1 (by omega) r2.1 (by omega) ar)
  have N1 := Lib.hid n1
  have N2 := Lib.hid n2
  obtain ⟨T1, hT1⟩ : ∃ T1, T1 = feedT (newV SW SH) D := ⟨_, rfl⟩
  obtain ⟨T2, hT2⟩ : ∃ T2, T2 = feedT T1 D2 := ⟨_, rfl⟩
  have L1 := live_feed D LV.out H1.out.rng
  rw [← hT1] at L1
  have L2 := live_feed D2 L1.1 H2.out.rng
  rw [← hT2] at L2
  have G1 : Good T1 := by rw [hT1]; exact good_fed SW SH r1.1 (by omega) r2.1 (by omega) ar D H1.out.rng
  have G2 : Good T2 := by
    rw [hT2, hT1, ← feed_app]
    exact good_fed SW SH r1.1 (by omega) r2.1 (by omega) ar (D ++ D2) (fun b m => (List.mem_append.1 m).elim (H1.out.rng b) (H2.out.rng b))
  have D1 : Dim (newV SW SH) T1 := by rw [hT1]; exact dim_feed _ _
  have G1 := Lib.hid G1
  have G2 := Lib.hid G2
  have D1 := Lib.hid D1
  have L1 := Lib.hid L1
  have L2 := Lib.hid L2
  have HT1 := Lib.hid hT1
  have HT2 := Lib.hid hT2
  clear r1 r2 ar hSW hSH hT1 hT2
  go_enter Tryz.func12, Tryz.ntmps12
  go_wp2_with fail
  refine WK.out.mono ?_; rintro e V1 ⟨rfl, hb1⟩
  have HB := Lib.hid hb1
  have A1 := Lib.hid (H1.out.below hb1)
  have A2' := Lib.hid (H2.out.below hb1)
  have NW := Lib.hid (t_New SW SH R1.out.1 (by have := R1.out; omega) R2.out.1 (by have := R2.out; omega) AR.out V1 (EW.out V1 hb1))
  clear hb1 WK EW H1 H2
  go_wp2_with fail
  refine (SI1.out V1).mono ?_; rintro e w2 ⟨rfl, rfl⟩
  go_wp2_with fail
  refine (SI2.out _).mono ?_; rintro e w2 ⟨rfl, rfl⟩
  go_wp2_with fail
  refine NW.out.mono ?_; rintro e V2 ⟨nb, rfl, hb2, hge, hn⟩
  have F1 := Lib.hid (arg_feed A1.out hn LV.out (by have := N1.out; omega) (by show 0 + D.length ≤ _; have := N1.out; omega))
  clear NW hb2 hge hn
  go_wp2_with fail
  refine F1.out.mono ?_; rintro e w3 ⟨rfl, S3⟩
  rw [← HT1.out] at S3
  have SC := Lib.hid (t_Screen S3 L1.out.1.fine)
  have S3 := Lib.hid S3
  clear F1
  go_wp2_with fail
  refine SC.out.mono ?_; rintro e w4 ⟨Ac, cc, rfl, NR, hb4⟩
  obtain ⟨n, hn⟩ : ∃ n, n = T1.cells.length := ⟨_, rfl⟩
  obtain ⟨x, y, sh, sv⟩ : ∃ (x y : Int) (sh : Bool), scrV (seenT T1) Ac cc = .agg #[.int .i64 SW, .int .i64 SH, .slice Ac n cc, .int .i64 x, .int .i64 y, .bool sh] := by
    have e : (seenT T1).w = T1.w ∧ (seenT T1).h = T1.h ∧ (seenT T1).cells = T1.cells := by unfold seenT; split <;> exact ⟨rfl, rfl, rfl⟩
    refine ⟨(seenT T1).x, (seenT T1).y, (seenT T1).shown, ?_⟩
    unfold scrV
    rw [e.1, e.2.1, e.2.2, hn, D1.out.1, D1.out.2]
    rfl
  rw [sv]
  have S4 := S3.out.below hb4
  obtain ⟨V5, hV5⟩ : ∃ V5, V5 = w4.alloc (.cells #[.int .i64 SW, .int .i64 SH, .slice Ac n cc, .int .i64 x, .int .i64 y, .bool sh] 42) := ⟨_, rfl⟩
  have B5 : Below w4.heap.size w4 V5 := by rw [hV5]; exact (Below.refl _ w4).alloc (Nat.le_refl _) _
  have K5 : Bk V5 w4.heap.size [.int .i64 SW, .int .i64 SH, .slice Ac n cc, .int .i64 x, .int .i64 y, .bool sh] 42 := by rw [hV5]; exact Bk.new w4 _ _
  have S5 := Lib.hid (S4.below B5)
  have N5 := Lib.hid (NR.below B5)
  have RI : Hid (∀ X, Below V5.heap.size V5 X → Calls Tryz.prog 35 #[.agg #[.int .i64 SW, .int .i64 SH, .slice Ac n cc, .int .i64 x, .int .i64 y, .bool sh]] X fun e w' => e = .returned (.bool true) ∧ Below X.heap.size X w') := Lib.hid (fun X hb => by
    have := seen_right G1.out L1.out.1.fine Ac cc X (N5.out.below hb)
    rw [sv] at this
    exact this)
  have SA : Hid (∀ X, Below V5.heap.size V5 X → Calls Tryz.prog 19 #[.int .i64 w, .int .i64 40] X fun e w' => e = .returned (.int .i64 SW) ∧ Below X.heap.size X w') := Lib.hid (fun X _ => (SI1.out X).mono (fun e w' ⟨h1, h2⟩ => ⟨h1, by rw [h2]; exact Below.refl _ _⟩))
  have SB : Hid (∀ X, Below V5.heap.size V5 X → Calls Tryz.prog 19 #[.int .i64 h, .int .i64 20] X fun e w' => e = .returned (.int .i64 SH) ∧ Below X.heap.size X w') := Lib.hid (fun X _ => (SI2.out X).mono (fun e w' ⟨h1, h2⟩ => ⟨h1, by rw [h2]; exact Below.refl _ _⟩))
  have j0 := fun d os => (K5.regrown d os).c 0 _ rfl
  have j1 := fun d os => (K5.regrown d os).c 1 _ rfl
  have j2 := fun d os => (K5.regrown d os).c 2 _ rfl
  have j3 := fun d os => (K5.regrown d os).c 3 _ rfl
  have j4 := fun d os => (K5.regrown d os).c 4 _ rfl
  have j5 := fun d os => (K5.regrown d os).c 5 _ rfl
  clear SC S3 NR hb4 S4 B5 sv N5 hn K5
  go_upto_region 7 with fail
  rw [← hV5]
  clear hV5
  refine wp_region_below_tail 16 (by kernel_rfl) (by kernel_rfl) ?_
  simp only [List.take_succ_cons, List.take_zero, List.drop_succ_cons, List.drop_zero]
  repeat (first | go_big_quiet_step (first | exact tail_of RI.out _ _ | exact tail_of SA.out _ _ | exact tail_of SB.out _ _) | quiet_step (first | exact tail_of RI.out _ _ | exact tail_of SA.out _ _ | exact tail_of SB.out _ _))
  refine wpQuiet_nil ?_
  intro _ hw'
  obtain ⟨⟨dq, osq⟩, hw''⟩ := hw'
  subst hw''
  have S6 := S5.out.below (below_regrown V5 dq osq)
  clear j0 j1 j2 j3 j4 j5 RI SA SB S5
  generalize grow (redrawn V5 dq) osq = V6 at *
  have F2 := Lib.hid (arg_feed A2'.out S6 L1.out.1 (by have := N2.out; omega) (by have := L1.out.2; have := N1.out; have := N2.out; have : (newV SW SH).held.size = 0 := rfl; omega))
  clear S6
  go_wp2_with fail
  refine F2.out.mono ?_; rintro e w7 ⟨rfl, S7⟩
  rw [← HT2.out] at S7
  have SC := Lib.hid (t_Screen S7 L2.out.1.fine)
  have B7 := Lib.hid (HB.out.trans ((old_mv S7.mv).mono HB.out.size))
  clear F2 S7
  go_wp2_with fail
  refine SC.out.mono ?_; rintro e w8 ⟨Ac2, cc2, rfl, NR2, hb8⟩
  have RJ := Lib.hid (seen_right G2.out L2.out.1.fine Ac2 cc2 w8 NR2)
  have B8 := Lib.hid (B7.out.trans (hb8.mono B7.out.size))
  clear SC NR2 hb8 B7
  go_wp2_with fail
  refine RJ.out.mono ?_; rintro e w9 ⟨rfl, hb9⟩
  have B9 := Lib.hid (B8.out.trans (hb9.mono B8.out.size))
  clear RJ hb9
  go_wp2_with fail
  go_ret
  exact ⟨rfl, B9.out⟩
end
end Go.Proofs.YtkllilehdpdbdaaGreatDoor
