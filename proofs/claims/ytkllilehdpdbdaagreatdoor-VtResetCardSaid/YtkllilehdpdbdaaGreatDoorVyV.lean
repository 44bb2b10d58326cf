/- VtReset: the walk. -/
import Derived.Test.YtkllilehdpdbdaaGreatDoorVyU
import Derived.Test.YtkllilehdpdbdaaGreatDoorVyK
namespace Go.Proofs.YtkllilehdpdbdaaGreatDoor
open Go Go.RowKit Go.Sort
set_option linter.unusedVariables false
set_option linter.unusedSimpArgs false
section
set_option maxHeartbeats 16000000 in
set_option maxRecDepth 100000 in
theorem vtReset_walk (w h : Int) (hw : -9223372036854775808 ≤ w ∧ w ≤ 9223372036854775807) (hh : -9223372036854775808 ≤ h ∧ h ≤ 9223372036854775807) (A : Option Addr) (c : Nat) (D : List Int) (A2 : Option Addr) (c2 : Nat) (D2 : List Int) (W : World) (E : EnvV W) (H1 : ArgB W A c D) (H2 : ArgB W A2 c2 D2) :
    Calls Tryz.prog 6 #[.int .i64 w, .int .i64 h, .slice A D.length c, .slice A2 D2.length c2] W fun e w' => e = .returned (.bool true) ∧ Below W.heap.size W w' := by
  have WK := Lib.hid (law_works W E)
  have EW : Hid (∀ V, Below W.heap.size W V → EnvV V) := Lib.hid (fun V hb => E.mv (Mv.below (F := []) hb) (by simp))
  have H1 := Lib.hid H1
  have H2 := Lib.hid H2
  clear E
  by_cases n1 : 1048576 < D.length
  · have n1i : (1048576 : Int) < (D.length : Int) := by omega
    go_enter Tryz.func6, Tryz.ntmps6
    go_wp2_with fail
    refine WK.out.mono ?_; rintro e V1 ⟨rfl, hb1⟩
    have HB := Lib.hid hb1
    clear hb1 WK
    go_wp2_with fail
    refine (law_works V1 (EW.out V1 HB.out)).mono ?_; rintro e V2 ⟨rfl, hb2⟩
    have HB2 := Lib.hid (HB.out.trans (hb2.mono HB.out.size))
    clear hb2
    go_wp2_with fail
    go_ret
    exact ⟨rfl, HB2.out⟩
  have n1i : ¬ (1048576 : Int) < (D.length : Int) := by omega
  by_cases n2 : 1048576 < D2.length
  · have n2i : (1048576 : Int) < (D2.length : Int) := by omega
    go_enter Tryz.func6, Tryz.ntmps6
    go_wp2_with fail
    refine WK.out.mono ?_; rintro e V1 ⟨rfl, hb1⟩
    have HB := Lib.hid hb1
    clear hb1 WK
    go_wp2_with fail
    refine (law_works V1 (EW.out V1 HB.out)).mono ?_; rintro e V2 ⟨rfl, hb2⟩
    have HB2 := Lib.hid (HB.out.trans (hb2.mono HB.out.size))
    clear hb2
    go_wp2_with fail
    go_ret
    exact ⟨rfl, HB2.out⟩
  have n2i : ¬ (1048576 : Int) < (D2.length : Int) := by omega
  obtain ⟨SW, hSW⟩ : ∃ SW, SW = sideV w 40 := ⟨_, rfl⟩
  obtain ⟨SH, hSH⟩ : ∃ SH, SH = sideV h 20 := ⟨_, rfl⟩
  have r1 := side_rng w 40 (by decide)
  have r2 := side_rng h 20 (by decide)
  rw [← hSW] at r1
  rw [← hSH] at r2
  have a0 : 0 ≤ SW * SH := Int.mul_nonneg r1.1 r2.1
  have ar : SW * SH ≤ 1048576 := by have := mulle r1.2 r2.2 r2.1 (show (0 : Int) ≤ 40 by decide); omega
  have SI1 : Hid (∀ X : World, Calls Tryz.prog 19 #[.int .i64 w, .int .i64 40] X fun e w' => e = .returned (.int .i64 SW) ∧ w' = X) := Lib.hid (fun X => by rw [hSW]; exact law_side w 40 hw (by decide) (by decide) X)
  have SI2 : Hid (∀ X : World, Calls Tryz.prog 19 #[.int .i64 h, .int .i64 20] X fun e w' => e = .returned (.int .i64 SH) ∧ w' = X) := Lib.hid (fun X => by rw [hSH]; exact law_side h 20 hh (by decide) (by decide) X)
  have R1 := Lib.hid r1
  have R2 := Lib.hid r2
  have AR := Lib.hid ar
  have LV := Lib.hid (live_new SW SH r1.1 (by omega) r2.1 (by omega) ar)
  have N1 := Lib.hid n1
  have N2 := Lib.hid n2
  obtain ⟨T1, hT1⟩ : ∃ T1, T1 = feedT (newV SW SH) D := ⟨_, rfl⟩
  have L1 := live_feed D LV.out H1.out.rng
  rw [← hT1] at L1
  have z1 : T1.held.size ≤ 1048576 := by have := L1.2; have e : (newV SW SH).held.size = 0 := rfl; omega
  have D1 : Dim (newV SW SH) T1 := by rw [hT1]; exact dim_feed _ _
  obtain ⟨r, hr⟩ := reset_law T1 L1.1.st
  have hr : feedT T1 [27, 99] = allW { newV SW SH with reps := r } := by
    rw [D1.1, D1.2] at hr
    exact hr
  obtain ⟨T2, hT2⟩ : ∃ T2, T2 = feedT T1 [27, 99] := ⟨_, rfl⟩
  rw [hr] at hT2
  obtain ⟨q, hq⟩ : ∃ q, q = (SW * SH).toNat := ⟨_, rfl⟩
  have qi : SW * SH = (q : Int) := by omega
  have wq : IntKind.i64.wrap (SW * SH) = (q : Int) := by rw [qi]; exact IntWalk.i64_in _ (by omega)
  have TL : (writtenT T2).length = q := by rw [hT2, written_all, hq]
  have TW : T2.wrt.length ≤ 1048576 := by
    rw [hT2]
    show ((List.replicate (List.replicate (SW * SH).toNat false).length true) : List Bool).length ≤ _
    rw [List.length_replicate, List.length_replicate]
    omega
  have TB : noR (nowW T2) = newV SW SH := by rw [hT2, reset_back]
  obtain ⟨T3, hT3⟩ : ∃ T3, T3 = feedT (newV SW SH) D2 := ⟨_, rfl⟩
  have L3 := live_feed D2 LV.out H2.out.rng
  rw [← hT3] at L3
  have HT1 := Lib.hid hT1
  have HR := Lib.hid (show feedT T1 [27, 99] = T2 by rw [hr, hT2])
  have L1 := Lib.hid L1
  have L3 := Lib.hid L3
  have Z1 := Lib.hid z1
  have TL := Lib.hid TL
  have TW := Lib.hid TW
  have TB := Lib.hid TB
  have HT3 := Lib.hid hT3
  have CV := fun (w : World) (C : Array Value) (n c : Nat) => Lib.run_convert_bytes_const (P := Tryz.prog) w 29 5 C n c Tryz.underlying29 Tryz.underlying5
  clear r1 r2 ar hSW hSH hT1 hT2 hr z1 D1 qi hq a0 hT3
  go_enter Tryz.func6, Tryz.ntmps6
  go_wp2_with fail
  refine WK.out.mono ?_; rintro e V1 ⟨rfl, hb1⟩
  have HB := Lib.hid hb1
  have A1 := Lib.hid (H1.out.below hb1)
  have A2' := Lib.hid (H2.out.below hb1)
  have NW := Lib.hid (t_New SW SH R1.out.1 (by have := R1.out; omega) R2.out.1 (by have := R2.out; omega) AR.out V1 (EW.out V1 hb1))
  clear hb1 WK H1 H2
  go_wp2_with fail
  refine (SI1.out V1).mono ?_; rintro e w2 ⟨rfl, rfl⟩
  go_wp2_with fail
  refine (SI2.out _).mono ?_; rintro e w2 ⟨rfl, rfl⟩
  go_wp2_with fail
  refine NW.out.mono ?_; rintro e V2 ⟨xb, rfl, hb2, hge, hx⟩
  have HX := Lib.hid hx
  have NW := Lib.hid (t_New SW SH R1.out.1 (by have := R1.out; omega) R2.out.1 (by have := R2.out; omega) AR.out V2 (EW.out V2 (HB.out.trans (hb2.mono HB.out.size))))
  clear hb2 hge hx EW
  go_wp2_with fail
  refine (SI1.out V2).mono ?_; rintro e w2 ⟨rfl, rfl⟩
  go_wp2_with fail
  refine (SI2.out _).mono ?_; rintro e w2 ⟨rfl, rfl⟩
  go_wp2_with fail
  refine NW.out.mono ?_; rintro e V3 ⟨yb, rfl, hb3, hge, hy⟩
  have T0 := Two.new HX.out hb3 hy
  have F1 := Lib.hid (T0.feedL A1.out LV.out (by have := N1.out; omega) (by show 0 + D.length ≤ _; have := N1.out; omega))
  clear NW HX hb3 hge hy T0
  go_wp2_with fail
  refine F1.out.mono ?_; rintro e w3 ⟨rfl, S3⟩
  rw [← HT1.out] at S3
  have F2 := Lib.hid (S3.feedLit L1.out.1 [27, 99] (by decide) (by decide) (by have := Z1.out; omega) (2, 3))
  rw [HR.out] at F2
  clear F1 S3
  go_wp2_with fail
  refine F2.out.mono ?_; rintro e w4 ⟨rfl, S4⟩
  have WR := Lib.hid (a_Written S4 TW.out)
  clear F2 S4
  go_wp2_with fail
  refine WR.out.mono ?_; rintro e w5 ⟨A5, c5, Z5, rfl, _, _, _, _, S5, _⟩
  rw [TL.out]
  have S5 := Lib.hid S5.drop
  clear WR
  go_wp2_with fail
  refine (SI1.out _).mono ?_; rintro e w2 ⟨rfl, rfl⟩
  go_wp2_with fail
  refine (SI2.out _).mono ?_; rintro e w2 ⟨rfl, rfl⟩
  have RE := Lib.hid (two_Replies S5.out)
  clear S5
  go_wp2_with fail
  refine RE.out.mono ?_; rintro e w6 ⟨v, rfl, _, S6, _⟩
  rw [TB.out] at S6
  have F3 := Lib.hid (S6.drop.feedL A2'.out LV.out (by have := N2.out; omega) (by show 0 + D2.length ≤ _; have := N2.out; omega))
  clear RE S6
  go_wp2_with fail
  refine F3.out.mono ?_; rintro e w7 ⟨rfl, S7⟩
  have F4 := Lib.hid (S7.feedR A2'.out LV.out (by have := N2.out; omega) (by show 0 + D2.length ≤ _; have := N2.out; omega))
  clear F3 S7
  go_wp2_with fail
  refine F4.out.mono ?_; rintro e w8 ⟨rfl, S8⟩
  rw [← HT3.out] at S8
  have AL := Lib.hid (law_alike S8 L3.out.1.fine L3.out.1.fine rfl rfl rfl rfl)
  clear F4 S8
  go_wp2_with fail
  refine AL.out.mono ?_; rintro e w9 ⟨rfl, hb9⟩
  have B9 := Lib.hid (HB.out.trans (hb9.mono HB.out.size))
  clear AL hb9
  go_wp2_with fail
  go_ret
  exact ⟨rfl, B9.out⟩
end
end Go.Proofs.YtkllilehdpdbdaaGreatDoor
