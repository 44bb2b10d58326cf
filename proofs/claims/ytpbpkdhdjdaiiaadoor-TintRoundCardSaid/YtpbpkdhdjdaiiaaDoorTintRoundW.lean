/- TintRound: the greys; the walk of the law. -/
import Derived.Test.YtpbpkdhdjdaiiaaDoorRndE
import Derived.Test.YtpbpkdhdjdaiiaaDoorTintFairW
namespace Go.Proofs.YtpbpkdhdjdaiiaaDoor
open Go.RowKit Flt
set_option linter.unusedVariables false

theorem back_grey (x : Int) (h0 : 16777216 ≤ x) (h1 : x < 33554432) (fl : flat x = true) : hslV (hueC x) (satC x) (litC x) = x := by
  have hc := hasC_full x h0 h1
  obtain ⟨rr, gr, br⟩ := ch_range x
  obtain ⟨m1, m2, m3, m4, m5, m6, m7, m8⟩ := mx_mn (chR x) (chG x) (chB x)
  have eq : mn (chR x) (chG x) (chB x) = mx (chR x) (chG x) (chB x) := by unfold flat at fl; rw [beq_iff_eq] at fl; exact fl
  obtain ⟨dp, ds⟩ := dlt_pos
  have K := round_grey x hc fl
  have N := nr_ok (mx (chR x) (chG x) (chB x)) (mn (chR x) (chG x) (chB x)) (by omega) (by omega) (by omega)
  have el : litC x = lW (mx (chR x) (chG x) (chB x)) (mn (chR x) (chG x) (chB x)) := by unfold litC; rw [if_pos hc]
  have vs0 : val (satC x) = 0 := by
    have : satC x = 0 := by unfold satC; rw [if_neg (by rw [fl]; simp)]
    rw [this, val0]
  have vh0 : val (hueC x) = 0 := by
    have : hueC x = 0 := by unfold hueC; rw [if_neg (by rw [fl]; simp)]
    rw [this, val0]
  obtain ⟨fs', vs⟩ := unit_val K.fs K.s0 K.s1
  obtain ⟨fl', vl⟩ := unit_val K.fl K.l0 K.l1
  obtain ⟨fg, vg⟩ := ang_val K.fh K.hb K.h0 K.h1
  have vl' : val (unitW (litC x)) = val (lW (mx (chR x) (chG x) (chB x)) (mn (chR x) (chG x) (chB x))) := by rw [vl, el]
  obtain ⟨fq, _, q2, q3⟩ := qL_near _ _ (by omega) (by omega) (by omega) (unitW (litC x)) fl' vl'
  have rc := (fmul_some fq fs').2
  rw [vs, vs0, Rat.mul_zero, ← lit0] at rc
  obtain ⟨fc, c0⟩ := rc.int (by decide) (by decide)
  rw [lit0] at c0
  have hCe : hC (unitW (satC x)) (unitW (litC x)) = fmul (qL (unitW (litC x))) (unitW (satC x)) := rfl
  have n60 : val 4633641066610819072 ≠ 0 := by rw [val60]; decide
  have re := (fdiv_some fg fin60 n60).2
  have z60 : (0 : Rat) / 60 = 0 := by decide +kernel
  rw [val60, vg, vh0, z60, ← lit0] at re
  obtain ⟨fe, e0⟩ := re.int (by decide) (by decide)
  rw [lit0] at e0
  have ee : hE (angW (hueC x)) = fdiv (angW (hueC x)) 4633641066610819072 := rfl
  rw [← ee] at fe e0
  have elt : hE (angW (hueC x)) < 18446744073709551616 := fdiv_lt fg fin60 n60
  obtain ⟨_, _, k0, _, g1, g2⟩ := flE_ok fe (by rw [e0]; decide) (by rw [e0]; decide)
  have kz : flE (hE (angW (hueC x))) = 0 := by
    have : ((flE (hE (angW (hueC x))) : Int):Rat) < ((1:Int):Rat) := by rw [lit1]; rw [e0] at g1; grind
    have := Rat.intCast_lt_intCast.1 this
    omega
  obtain ⟨fx, x1, x2, x3, x4⟩ := x_near fc (by rw [c0]; decide) (by rw [c0]; decide) fe elt (by rw [e0]; decide) (by rw [e0]; decide)
  rw [c0, Rat.zero_mul] at x1 x2
  have o := eq
  obtain ⟨fm, n1, n2, n3, n4⟩ := m_near fl' fc (ov (mx (chR x) (chG x) (chB x))) (ov (mn (chR x) (chG x) (chB x))) (by rw [vl]; exact K.l0) (by rw [vl]; exact K.l1) (by rw [c0]; decide) (by rw [c0]; decide) (by rw [vl']; have := N.l0; grind) (by rw [vl']; have := N.l1; grind) (by rw [c0, o]; grind) (by rw [c0, o]; grind)
  have z1 : val 0 ≤ 1 := by rw [val0]; decide
  have R0 : chR x = mn (chR x) (chG x) (chB x) := by omega
  have G0 : chG x = mn (chR x) (chG x) (chB x) := by omega
  have B0 : chB x = mn (chR x) (chG x) (chB x) := by omega
  refine (hsl_of (R := chR x) (G := chG x) (B := chB x) ?_).trans (ch_full x h0 h1).symm
  rw [hCe, kz]
  simp only [pick6, if_true, Prod.mk.injEq]
  refine ⟨?_, ?_, ?_⟩
  · refine lev_eq fc fm (by rw [c0]; decide) (by rw [c0]; decide) n3 n4 rr.1 rr.2 ?_ ?_ <;> rw [c0, R0] <;> grind
  · refine lev_eq fx fm x3 x4 n3 n4 gr.1 gr.2 ?_ ?_ <;> rw [G0] <;> grind
  · refine lev_eq fin0 fm (by rw [val0]; decide) z1 n3 n4 br.1 br.2 ?_ ?_ <;> rw [val0, B0] <;> grind

theorem back_full (x : Int) (h0 : 16777216 ≤ x) (h1 : x < 33554432) : RoundOk x ∧ hslV (hueC x) (satC x) (litC x) = x := by
  have hc := hasC_full x h0 h1
  by_cases fl : flat x = true
  · exact ⟨round_grey x hc fl, back_grey x h0 h1 fl⟩
  · have fl' : flat x = false := by simpa using fl
    exact ⟨(round_hue x hc fl').1, back_col x h0 h1 fl'⟩

namespace tintRound
set_option maxHeartbeats 4000000 in
set_option maxRecDepth 100000 in
theorem tintRound_walk (c : Int) (hc : (Lit.int .i32 c).wf = true) (w : World) (E : Env w) :
    Calls Tryd.prog 11 #[.int .i32 c] w fun e w' => e = .returned (.bool true) ∧ Below w.heap.size w w' := by
  obtain ⟨hl, hh⟩ : -2147483648 ≤ c ∧ c ≤ 2147483647 := by have := bounds_i32 hc; omega
  obtain ⟨x0, x1⟩ := fullV_range c
  obtain ⟨K, back⟩ := back_full (fullV c) x0 x1
  have W0 := Lib.hid (law_works w E)
  have R1 := Lib.hid (law_full c hl hh)
  have R2 := Lib.hid (tint_ToHSL (fullV c))
  have R3 := tint_FromHSL (hueC (fullV c)) (satC (fullV c)) (litC (fullV c)) K.hb
  rw [back] at R3
  have R3 := Lib.hid R3
  have k1 := fge K.fh fin0 (by rw [val0]; exact K.h0)
  have k2 := flt K.fh fin360
  rw [decide_eq_true (by rw [val360]; exact K.h1)] at k2
  have k3 := fge K.fs fin0 (by rw [val0]; exact K.s0)
  have k4 := fle K.fs fin1 (by rw [val1]; exact K.s1)
  have k5 := fge K.fl fin0 (by rw [val0]; exact K.l0)
  have k6 := fle K.fl fin1 (by rw [val1]; exact K.l1)
  clear hc hl hh K back E
  generalize hueC (fullV c) = h at *
  generalize satC (fullV c) = s at *
  generalize litC (fullV c) = l at *
  generalize fullV c = x at *
  go_enter Tryd.func11, Tryd.ntmps11
  go_wp2_with fail
  refine W0.out.mono ?_; rintro e w1 ⟨rfl, b1⟩
  go_wp2_with fail
  refine (R1.out _).mono ?_; rintro e w' ⟨rfl, rfl⟩
  go_wp2_with fail
  refine (R2.out _).mono ?_; rintro e w2 ⟨rfl, b2⟩
  have B2 := below_call b1 b1.size b2
  go_wp2_with fail
  refine (R3.out _).mono ?_; rintro e w3 ⟨rfl, b3⟩
  have B3 := below_call B2 B2.size b3
  go_wp2_with fail
  go_ret
  exact ⟨ret_bool (by first | rfl | simp), B3⟩
end tintRound
end Go.Proofs.YtpbpkdhdjdaiiaaDoor
