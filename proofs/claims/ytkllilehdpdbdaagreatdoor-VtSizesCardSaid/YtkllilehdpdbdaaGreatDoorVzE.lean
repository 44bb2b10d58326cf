/- VtClones: the walk. -/
import Derived.Test.YtkllilehdpdbdaaGreatDoorVzB
import Derived.Test.YtkllilehdpdbdaaGreatDoorVzC2
import Derived.Test.YtkllilehdpdbdaaGreatDoorVyK
namespace Go.Proofs.YtkllilehdpdbdaaGreatDoor
open Go Go.RowKit Go.Sort
set_option linter.unusedVariables false
set_option linter.unusedSimpArgs false
section
theorem Herd.clone {W V : World} {T : List (Nat × Trm)} {Z : List Nat} (h : Herd W V T Z) {i b : Nat} {t : Trm} (hi : T[i]? = some (b, t)) (Lv : Live t) (hh : t.held.size ≤ 300000000) :
    Calls Tryz.prog 28 #[.pointer (some ⟨b, 0, none⟩)] V fun e w' => ∃ nb, e = .returned (.pointer (some ⟨nb, 0, none⟩)) ∧ Herd W w' (T ++ [(nb, t)]) Z ∧ Below V.heap.size V w' := by
  obtain ⟨F, h1, up, hF, _⟩ := h.at hi
  refine (t_Clone h1 Lv.fine Lv.st.kept Lv.reps hh).mono ?_
  rintro e w' ⟨nb, h2, h3⟩
  exact ⟨nb, h2, h.add h3, old_mv h3.mv⟩
set_option maxHeartbeats 16000000 in
set_option maxRecDepth 100000 in
theorem vtClones_walk (w h : Int) (hw : -9223372036854775808 ≤ w ∧ w ≤ 9223372036854775807) (hh : -9223372036854775808 ≤ h ∧ h ≤ 9223372036854775807) (A : Option Addr) (c : Nat) (D : List Int) (A2 : Option Addr) (c2 : Nat) (D2 : List Int) (A3 : Option Addr) (c3 : Nat) (D3 : List Int) (W : World) (E : EnvV W) (H1 : ArgB W A c D) (H2 : ArgB W A2 c2 D2) (H3 : ArgB W A3 c3 D3) :
    Calls Tryz.prog 8 #[.int .i64 w, .int .i64 h, .slice A D.length c, .slice A2 D2.length c2, .slice A3 D3.length c3] W fun e w' => e = .returned (.bool true) ∧ Below W.heap.size W w' := by
  have WK := Lib.hid (law_works W E)
  have EW : Hid (∀ V, Below W.heap.size W V → EnvV V) := Lib.hid (fun V hb => E.mv (Mv.below (F := []) hb) (by simp))
  have H1 := Lib.hid H1
  have H2 := Lib.hid H2
  have H3 := Lib.hid H3
  clear E
  by_cases n1 : 1048576 < D.length
  · have n1i : (1048576 : Int) < (D.length : Int) := by omega
    go_enter Tryz.func8, Tryz.ntmps8
    go_wp2_with fail
    refine WK.out.mono ?_; rintro e V1 ⟨rfl, hb1⟩
    have HB := Lib.hid hb1
    clear hb1 WK
    go_wp2_with fail
    refine (law_works V1 (EW.out V1 HB.out)).mono ?_; rintro e V2 ⟨rfl, hb2⟩
    have HB2 := Lib.hid (HB.out.trans (hb2.mono HB.out.size))
    clear hb2
    go_wp2_with fail
    go_ret
    exact ⟨rfl, HB2.out⟩
  have n1i : ¬ (1048576 : Int) < (D.length : Int) := by omega
  by_cases n2 : 1048576 < D2.length
  · have n2i : (1048576 : Int) < (D2.length : Int) := by omega
    go_enter Tryz.func8, Tryz.ntmps8
    go_wp2_with fail
    refine WK.out.mono ?_; rintro e V1 ⟨rfl, hb1⟩
    have HB := Lib.hid hb1
    clear hb1 WK
    go_wp2_with fail
    refine (law_works V1 (EW.out V1 HB.out)).mono ?_; rintro e V2 ⟨rfl, hb2⟩
    have HB2 := Lib.hid (HB.out.trans (hb2.mono HB.out.size))
    clear hb2
    go_wp2_with fail
    go_ret
    exact ⟨rfl, HB2.out⟩
  have n2i : ¬ (1048576 : Int) < (D2.length : Int) := by omega
  by_cases n3 : 1048576 < D3.length
  · have n3i : (1048576 : Int) < (D3.length : Int) := by omega
    go_enter Tryz.func8, Tryz.ntmps8
    go_wp2_with fail
    refine WK.out.mono ?_; rintro e V1 ⟨rfl, hb1⟩
    have HB := Lib.hid hb1
    clear hb1 WK
    go_wp2_with fail
    refine (law_works V1 (EW.out V1 HB.out)).mono ?_; rintro e V2 ⟨rfl, hb2⟩
    have HB2 := Lib.hid (HB.out.trans (hb2.mono HB.out.size))
    clear hb2
    go_wp2_with fail
    go_ret
    exact ⟨rfl, HB2.out⟩
  have n3i : ¬ (1048576 : Int) < (D3.length : Int) := by omega
  obtain ⟨SW, hSW⟩ : ∃ SW, SW = sideV w 40 := ⟨_, rfl⟩
  obtain ⟨SH, hSH⟩ : ∃ SH, SH = sideV h 20 := ⟨_, rfl⟩
  have r1 := side_rng w 40 (by decide)
  have r2 := side_rng h 20 (by decide)
  rw [← hSW] at r1
  rw [← hSH] at r2
  have a0 : 0 ≤ SW * SH := Int.mul_nonneg r1.1 r2.1
  have ar : SW * SH ≤ 1048576 := by have := mulle r1.2 r2.2 r2.1 (show (0 : Int) ≤ 40 by decide); omega
  have SI1 : Hid (∀ X : World, Calls Tryz.prog 19 #[.int .i64 w, .int .i64 40] X fun e w' => e = .returned (.int .i64 SW) ∧ w' = X) := Lib.hid (fun X => by rw [hSW]; exact law_side w 40 hw (by decide) (by decide) X)
  have SI2 : Hid (∀ X : World, Calls Tryz.prog 19 #[.int .i64 h, .int .i64 20] X fun e w' => e = .returned (.int .i64 SH) ∧ w' = X) := Lib.hid (fun X => by rw [hSH]; exact law_side h 20 hh (by decide) (by decide) X)
  have R1 := Lib.hid r1
  have R2 := Lib.hid r2
  have AR := Lib.hid ar
  have LV := Lib.hid (live_new SW SH r1.1 (by omega) r2.1 (by omega) ar)
  obtain ⟨N0, hN0⟩ : ∃ N0, N0 = newV SW SH := ⟨_, rfl⟩
  have z0 : N0.held.size = 0 := by rw [hN0]; rfl
  have LV0 : Live N0 := by rw [hN0]; exact LV.out
  obtain ⟨T1, hT1⟩ : ∃ T1, T1 = feedT N0 D := ⟨_, rfl⟩
  have L1 := live_feed D LV0 H1.out.rng
  rw [← hT1] at L1
  obtain ⟨T2, hT2⟩ : ∃ T2, T2 = feedT T1 D2 := ⟨_, rfl⟩
  have L2 := live_feed D2 L1.1 H2.out.rng
  rw [← hT2] at L2
  obtain ⟨T3, hT3⟩ : ∃ T3, T3 = feedT T1 D3 := ⟨_, rfl⟩
  have L3 := live_feed D3 L1.1 H3.out.rng
  rw [← hT3] at L3
  have Z0 := Lib.hid (And.intro z0 (And.intro n1 (And.intro n2 (And.intro n3 L1.2))))
  have LN := Lib.hid LV0
  have LA := Lib.hid L1.1
  have LB := Lib.hid L2.1
  have LC := Lib.hid L3.1
  have HN0 := Lib.hid hN0
  have HT1 := Lib.hid hT1
  have HT2 := Lib.hid hT2
  have HT3 := Lib.hid hT3
  have NW : Hid (∀ V, EnvV V → Calls Tryz.prog 14 #[.int .i64 SW, .int .i64 SH] V fun e w' => ∃ b, e = .returned (.tuple #[.pointer (some ⟨b, 0, none⟩), .int .i64 0]) ∧ Below V.heap.size V w' ∧ V.heap.size ≤ b ∧ St V [] b N0 w') := Lib.hid (fun V ev => by rw [HN0.out]; exact t_New SW SH R1.out.1 (by have := R1.out; omega) R2.out.1 (by have := R2.out; omega) AR.out V ev)
  clear r1 r2 ar hSW hSH hT1 hT2 hT3 a0 z0 hN0 LV LV0 L1 L2 L3 R1 R2 AR
  go_enter Tryz.func8, Tryz.ntmps8
  go_wp2_with fail
  refine WK.out.mono ?_; rintro e V1 ⟨rfl, hb1⟩
  have HB := Lib.hid hb1
  have A1 := Lib.hid (H1.out.below hb1)
  have A2' := Lib.hid (H2.out.below hb1)
  have A3' := Lib.hid (H3.out.below hb1)
  have S0 := Lib.hid (Herd.nil (EW.out V1 hb1) (Below.refl _ V1))
  clear hb1 WK H1 H2 H3 EW
  go_wp2_with fail
  refine (SI1.out _).mono ?_; rintro e w2 ⟨rfl, hw2⟩; rw [hw2]; clear hw2
  go_wp2_with fail
  refine (SI2.out _).mono ?_; rintro e w2 ⟨rfl, hw2⟩; rw [hw2]; clear hw2
  go_wp2_with fail
  refine (NW.out _ S0.out.env).mono ?_; rintro e V2 ⟨xb, rfl, hb2, hge, hx⟩
  have S1 : Hid (Herd V1 V2 [(xb, N0)] []) := Lib.hid (S0.out.add hx)
  clear hb2 hge hx S0
  go_wp2_with fail
  refine (SI1.out _).mono ?_; rintro e w2 ⟨rfl, hw2⟩; rw [hw2]; clear hw2
  go_wp2_with fail
  refine (SI2.out _).mono ?_; rintro e w2 ⟨rfl, hw2⟩; rw [hw2]; clear hw2
  go_wp2_with fail
  refine (NW.out _ S1.out.env).mono ?_; rintro e V3 ⟨ob, rfl, hb3, hge, hx⟩
  have S2 : Hid (Herd V1 V3 [(xb, N0), (ob, N0)] []) := Lib.hid (S1.out.add hx)
  clear hb3 hge hx S1
  go_wp2_with fail
  refine (SI1.out _).mono ?_; rintro e w2 ⟨rfl, hw2⟩; rw [hw2]; clear hw2
  go_wp2_with fail
  refine (SI2.out _).mono ?_; rintro e w2 ⟨rfl, hw2⟩; rw [hw2]; clear hw2
  go_wp2_with fail
  refine (NW.out _ S2.out.env).mono ?_; rintro e V4 ⟨wb, rfl, hb4, hge, hx⟩
  have S3 : Hid (Herd V1 V4 [(xb, N0), (ob, N0), (wb, N0)] []) := Lib.hid (S2.out.add hx)
  have F1 := Lib.hid (S3.out.feed (i := 0) rfl A1.out LN.out (by have := Z0.out; omega) (by have := Z0.out; omega))
  clear hb4 hge hx S2 S3 NW SI1 SI2
  go_wp2_with fail
  refine F1.out.mono ?_; rintro e w3 ⟨rfl, S4⟩
  rw [← HT1.out] at S4
  have S4 : Hid (Herd V1 w3 [(xb, T1), (ob, N0), (wb, N0)] []) := Lib.hid S4
  have F2 := Lib.hid (S4.out.feed (i := 1) rfl A1.out LN.out (by have := Z0.out; omega) (by have := Z0.out; omega))
  clear F1 S4
  go_wp2_with fail
  refine F2.out.mono ?_; rintro e w4 ⟨rfl, S5⟩
  rw [← HT1.out] at S5
  have S5 : Hid (Herd V1 w4 [(xb, T1), (ob, T1), (wb, N0)] []) := Lib.hid S5
  have F3 := Lib.hid (S5.out.feed (i := 2) rfl A1.out LN.out (by have := Z0.out; omega) (by have := Z0.out; omega))
  clear F2 S5
  go_wp2_with fail
  refine F3.out.mono ?_; rintro e w5 ⟨rfl, S6⟩
  rw [← HT1.out] at S6
  have S6 : Hid (Herd V1 w5 [(xb, T1), (ob, T1), (wb, T1)] []) := Lib.hid S6
  have F4 := Lib.hid (S6.out.clone (i := 0) rfl LA.out (by have := Z0.out; omega))
  clear F3 S6
  go_wp2_with fail
  refine F4.out.mono ?_; rintro e w6 ⟨yb, rfl, S7, _⟩
  have S7 : Hid (Herd V1 w6 [(xb, T1), (ob, T1), (wb, T1), (yb, T1)] []) := Lib.hid S7
  have F5 := Lib.hid (S7.out.feed (i := 3) rfl A3'.out LA.out (by have := Z0.out; omega) (by have := Z0.out; omega))
  clear F4 S7
  go_wp2_with fail
  refine F5.out.mono ?_; rintro e w7 ⟨rfl, S8⟩
  rw [← HT3.out] at S8
  have S8 : Hid (Herd V1 w7 [(xb, T1), (ob, T1), (wb, T1), (yb, T3)] []) := Lib.hid S8
  have F6 := Lib.hid (S8.out.feed (i := 0) rfl A2'.out LA.out (by have := Z0.out; omega) (by have := Z0.out; omega))
  clear F5 S8
  go_wp2_with fail
  refine F6.out.mono ?_; rintro e w8 ⟨rfl, S9⟩
  rw [← HT2.out] at S9
  have S9 : Hid (Herd V1 w8 [(xb, T2), (ob, T1), (wb, T1), (yb, T3)] []) := Lib.hid S9
  have F7 := Lib.hid (S9.out.feed (i := 1) rfl A2'.out LA.out (by have := Z0.out; omega) (by have := Z0.out; omega))
  clear F6 S9
  go_wp2_with fail
  refine F7.out.mono ?_; rintro e w9 ⟨rfl, S10⟩
  rw [← HT2.out] at S10
  have S10 : Hid (Herd V1 w9 [(xb, T2), (ob, T2), (wb, T1), (yb, T3)] []) := Lib.hid S10
  have F8 := Lib.hid (S10.out.feed (i := 2) rfl A3'.out LA.out (by have := Z0.out; omega) (by have := Z0.out; omega))
  clear F7 S10
  go_wp2_with fail
  refine F8.out.mono ?_; rintro e w10 ⟨rfl, S11⟩
  rw [← HT3.out] at S11
  have S11 : Hid (Herd V1 w10 [(xb, T2), (ob, T2), (wb, T3), (yb, T3)] []) := Lib.hid S11
  obtain ⟨Z', TWO, REST⟩ := S11.out.two (i := 0) (j := 1) rfl rfl (by decide)
  have AL := Lib.hid (law_alikeZ TWO LB.out.fine LB.out.fine rfl rfl rfl rfl)
  have REST := Lib.hid REST
  clear F8 S11 TWO
  go_wp2_with fail
  refine AL.out.mono ?_; rintro e w11 ⟨rfl, hb11, hz⟩
  have TW2 := REST.out 3 2 yb wb T3 T3 rfl rfl (by decide) (by decide) (by decide) (by decide) (by decide) w11 hb11 hz
  have AL2 := Lib.hid (law_alikeZ TW2 LC.out.fine LC.out.fine rfl rfl rfl rfl)
  clear AL REST TW2 hz hb11
  go_wp2_with fail
  refine AL2.out.mono ?_; rintro e w12 ⟨rfl, hb12, _⟩
  have B12 := Lib.hid (HB.out.trans (hb12.mono HB.out.size))
  clear AL2 hb12
  go_wp2_with fail
  go_ret
  exact ⟨rfl, B12.out⟩
end
end Go.Proofs.YtkllilehdpdbdaaGreatDoor
