/- There and back: the colour again (plain). -/
import Derived.Test.YtpbpkdhdjdaiiaaDoorRndS
import Derived.Test.YtpbpkdhdjdaiiaaDoorTintNearW
import Derived.Test.YtpbpkdhdjdaiiaaDoorTintBetweenW
import Derived.Test.YtpbpkdhdjdaiiaaDoorHslW
namespace Go.Proofs.YtpbpkdhdjdaiiaaDoor
open Go.RowKit Flt
set_option linter.unusedVariables false

theorem chan (v m : Nat) (T L H : Int) (w wj c : Rat) (fv : Fnt v) (fm : Fnt m) (v0 : 0 ≤ val v) (v1 : val v ≤ 1) (m0 : -1 ≤ val m) (m1 : val m ≤ 1) (T0 : 0 ≤ T) (T1 : T ≤ 255)
    (a0 : c * w - 5 * dlt ≤ val v) (a1 : val v ≤ c * w + 5 * dlt) (w0 : 0 ≤ w) (w1 : w ≤ 1) (b0 : wj - 5000 * dlt ≤ w) (b1 : w ≤ wj + 5000 * dlt) (c0 : ov H - ov L - 30 * dlt ≤ c) (c1 : c ≤ ov H - ov L + 30 * dlt)
    (d0 : 0 ≤ ov H - ov L) (d1 : ov H - ov L ≤ 1) (e : (ov H - ov L) * wj = ov T - ov L) (f0 : ov L - 100 * dlt ≤ val m) (f1 : val m ≤ ov L + 100 * dlt) : levC v m = T := by
  obtain ⟨dp, ds⟩ := dlt_pos
  have t1 := mul_sym_bd w (c - (ov H - ov L)) (30 * dlt) (by grind) w1 (by grind) (by grind)
  have t2 := mul_sym_bd (ov H - ov L) (w - wj) (5000 * dlt) (by grind) d1 (by grind) (by grind)
  have s1 : w * (c - (ov H - ov L)) = c * w - (ov H - ov L) * w := by grind
  have s2 : (ov H - ov L) * (w - wj) = (ov H - ov L) * w - (ov H - ov L) * wj := by grind
  rw [s1] at t1
  rw [s2, e] at t2
  exact lev_eq fv fm v0 v1 m0 m1 T0 T1 (by grind) (by grind)

structure RoundOk (x : Int) : Prop where
  fh : Fnt (hueC x)
  fs : Fnt (satC x)
  fl : Fnt (litC x)
  h0 : 0 ≤ val (hueC x)
  h1 : val (hueC x) < 360
  s0 : 0 ≤ val (satC x)
  s1 : val (satC x) ≤ 1
  l0 : 0 ≤ val (litC x)
  l1 : val (litC x) ≤ 1
  hb : hueC x < 18446744073709551616

theorem half_ex (q : Rat) : q / 2 * 2 = q := Rat.div_mul_cancel (by decide)

theorem m_near {l c : Nat} (fl : Fnt l) (fc : Fnt c) (a b : Rat) (l0 : 0 ≤ val l) (l1 : val l ≤ 1) (c0 : 0 ≤ val c) (c1 : val c ≤ 1) (n0 : a + b - 10 * dlt ≤ 2 * val l) (n1 : 2 * val l ≤ a + b + 10 * dlt) (k0 : a - b - 30 * dlt ≤ val c) (k1 : val c ≤ a - b + 30 * dlt) :
    Fnt (hM l c) ∧ b - 100 * dlt ≤ val (hM l c) ∧ val (hM l c) ≤ b + 100 * dlt ∧ -1 ≤ val (hM l c) ∧ val (hM l c) ≤ 1 := by
  obtain ⟨dp, ds⟩ := dlt_pos
  have rd := (fdiv_some fc fin2 (by rw [val2]; decide)).2
  rw [val2] at rd
  have hz := half_ex (val c)
  generalize val c / 2 = z at *
  obtain ⟨fd, d1, d2⟩ := near9 rd (by grind) (by grind)
  obtain ⟨_, d3, d4⟩ := rd_between rd 0 1 (by decide) (by decide) (by rw [lit0]; grind) (by rw [lit1]; grind)
  rw [lit0] at d3; rw [lit1] at d4
  have rm := (fsub_some fl fd).2
  obtain ⟨fm, m1, m2⟩ := near9 rm (by grind) (by grind)
  obtain ⟨_, m3, m4⟩ := rd_between rm (-1) 1 (by decide) (by decide) (by rw [litm1]; grind) (by rw [lit1]; grind)
  rw [litm1] at m3; rw [lit1] at m4
  have m1' : val l - val (fdiv c 4611686018427387904) - dlt ≤ val (hM l c) := m1
  have m2' : val (hM l c) ≤ val l - val (fdiv c 4611686018427387904) + dlt := m2
  exact ⟨fm, by grind, by grind, m3, m4⟩

theorem hsl_of {h s l : Nat} {R G B : Int} (r : (pick6 (flE (hE (angW h))) (levC (hC (unitW s) (unitW l)) (hM (unitW l) (hC (unitW s) (unitW l)))) (levC (hX (hC (unitW s) (unitW l)) (hE (angW h))) (hM (unitW l) (hC (unitW s) (unitW l)))) (levC 0 (hM (unitW l) (hC (unitW s) (unitW l))))) = (R, G, B)) : hslV h s l = 16777216 + 65536 * R + 256 * G + B := by
  unfold hslV
  rw [r]

theorem round_hue (x : Int) (hc : hasC x = true) (fl : flat x = false) : RoundOk x ∧ ∃ et j, Sec (chR x) (chG x) (chB x) (mx (chR x) (chG x) (chB x)) (mn (chR x) (chG x) (chB x)) et j ∧ 60 * et - 250000 * dlt ≤ val (hueC x) ∧ val (hueC x) ≤ 60 * et + 250000 * dlt ∧ val (hueC x) ≤ 359 + 9/10 := by
  obtain ⟨rr, gr, br⟩ := ch_range x
  obtain ⟨m1, m2, m3, m4, m5, m6, m7, m8⟩ := mx_mn (chR x) (chG x) (chB x)
  have lt : mn (chR x) (chG x) (chB x) < mx (chR x) (chG x) (chB x) := by
    unfold flat at fl
    rw [beq_eq_false_iff_ne] at fl
    omega
  obtain ⟨et, j, S⟩ := sec_ex _ _ _ rr gr br lt
  obtain ⟨dp, ds⟩ := dlt_pos
  have eh : hueC x = fmul 4633641066610819072 (hueW (chR x) (chG x) (chB x)) := by unfold hueC; rw [if_pos ⟨hc, fl⟩]
  have es : satC x = fminW (fdiv (dW (mx (chR x) (chG x) (chB x)) (mn (chR x) (chG x) (chB x))) (qW (mx (chR x) (chG x) (chB x)) (mn (chR x) (chG x) (chB x)))) 4607182418800017408 := by unfold satC; rw [if_pos ⟨hc, fl⟩]
  have el : litC x = lW (mx (chR x) (chG x) (chB x)) (mn (chR x) (chG x) (chB x)) := by unfold litC; rw [if_pos hc]
  have T := tsl_ok (mx (chR x) (chG x) (chB x)) (mn (chR x) (chG x) (chB x)) (by omega) (by omega) (by omega)
  have Q := q_ok (mx (chR x) (chG x) (chB x)) (mn (chR x) (chG x) (chB x)) (by omega) lt (by omega)
  have top := S.top; have n0 := S.n0; have n1 := S.n1; have h0 := S.h0
  have rh := (fmul_some fin60 S.fh).2
  rw [val60, ← eh] at rh
  have l360 : ((360:Int):Rat) = 360 := by decide +kernel
  obtain ⟨fh, r1, r2⟩ := near9 rh (by grind) (by grind)
  obtain ⟨_, r3, _⟩ := rd_between rh 0 1000 (by decide) (by decide) (by rw [lit0]; grind) (by rw [lit_1000]; grind)
  rw [lit0] at r3
  obtain ⟨sa, sb, sc, sd⟩ := fmin_val Q.sd.l fin1
  rw [val1] at sd
  have dd0 := Q.d0
  rw [← es] at sa sd
  have s0 : 0 ≤ val (satC x) := by
    rcases sb with g | g
    · rw [es, g]; exact dd0
    · rw [es, g, val1]; decide
  have lp := T.lp
  rw [← el] at lp
  refine ⟨⟨fh, sa, by rw [el]; exact T.fl, r3, by grind, s0, sd, lp.1, lp.2, by rw [eh]; exact (fmul_some fin60 S.fh).2.lt⟩, et, j, S, by grind, by grind, by grind⟩

theorem round_grey (x : Int) (hc : hasC x = true) (fl : flat x = true) : RoundOk x := by
  obtain ⟨rr, gr, br⟩ := ch_range x
  obtain ⟨m1, m2, m3, m4, m5, m6, m7, m8⟩ := mx_mn (chR x) (chG x) (chB x)
  have T := tsl_ok (mx (chR x) (chG x) (chB x)) (mn (chR x) (chG x) (chB x)) (by omega) (by omega) (by omega)
  have eh : hueC x = 0 := by unfold hueC; rw [if_neg (by rw [fl]; simp)]
  have es : satC x = 0 := by unfold satC; rw [if_neg (by rw [fl]; simp)]
  have el : litC x = lW (mx (chR x) (chG x) (chB x)) (mn (chR x) (chG x) (chB x)) := by unfold litC; rw [if_pos hc]
  have lp := T.lp
  refine ⟨by rw [eh]; exact fin0, by rw [es]; exact fin0, by rw [el]; exact T.fl, by rw [eh, val0]; decide, by rw [eh, val0]; decide, by rw [es, val0]; decide, by rw [es, val0]; decide, by rw [el]; exact lp.1, by rw [el]; exact lp.2, by rw [eh]; decide⟩

theorem back_col (x : Int) (h0 : 16777216 ≤ x) (h1 : x < 33554432) (fl : flat x = false) : hslV (hueC x) (satC x) (litC x) = x := by
  have hc := hasC_full x h0 h1
  obtain ⟨rr, gr, br⟩ := ch_range x
  obtain ⟨m1, m2, m3, m4, m5, m6, m7, m8⟩ := mx_mn (chR x) (chG x) (chB x)
  have lt : mn (chR x) (chG x) (chB x) < mx (chR x) (chG x) (chB x) := by
    have fl' := fl
    unfold flat at fl'
    rw [beq_eq_false_iff_ne] at fl'
    omega
  obtain ⟨K, et, j, S, u0, u1, u2⟩ := round_hue x hc fl
  obtain ⟨dp, ds⟩ := dlt_pos
  have N := nr_ok (mx (chR x) (chG x) (chB x)) (mn (chR x) (chG x) (chB x)) (by omega) (by omega) (by omega)
  have es : satC x = fminW (fdiv (dW (mx (chR x) (chG x) (chB x)) (mn (chR x) (chG x) (chB x))) (qW (mx (chR x) (chG x) (chB x)) (mn (chR x) (chG x) (chB x)))) 4607182418800017408 := by unfold satC; rw [if_pos ⟨hc, fl⟩]
  have el : litC x = lW (mx (chR x) (chG x) (chB x)) (mn (chR x) (chG x) (chB x)) := by unfold litC; rw [if_pos hc]
  obtain ⟨fs', vs⟩ := unit_val K.fs K.s0 K.s1
  obtain ⟨fl', vl⟩ := unit_val K.fl K.l0 K.l1
  obtain ⟨fg, vg⟩ := ang_val K.fh K.hb K.h0 K.h1
  have vl' : val (unitW (litC x)) = val (lW (mx (chR x) (chG x) (chB x)) (mn (chR x) (chG x) (chB x))) := by rw [vl, el]
  obtain ⟨fc, c1, c2⟩ := c_near _ _ (by omega) lt (by omega) (unitW (litC x)) (unitW (satC x)) fl' vl' fs' (by rw [vs, es])
  obtain ⟨fq, _, q2, q3⟩ := qL_near _ _ (by omega) (by omega) (by omega) (unitW (litC x)) fl' vl'
  have rc := (fmul_some fq fs').2
  have s0 := K.s0; have s1 := K.s1
  rw [← vs] at s0 s1
  have p1 := Rat.mul_nonneg q3 s0
  have p2 := Rat.mul_le_mul_of_nonneg_left s1 q3
  rw [Rat.mul_one] at p2
  obtain ⟨_, c3, c4⟩ := rd_between rc 0 1 (by decide) (by decide) (by rw [lit0]; grind) (by rw [lit1]; grind)
  rw [lit0] at c3; rw [lit1] at c4
  have hCe : hC (unitW (satC x)) (unitW (litC x)) = fmul (qL (unitW (litC x))) (unitW (satC x)) := rfl
  have n60 : val 4633641066610819072 ≠ 0 := by rw [val60]; decide
  have re := (fdiv_some fg fin60 n60).2
  rw [val60, vg] at re
  have hz : val (hueC x) / 60 * 60 = val (hueC x) := Rat.div_mul_cancel (by decide)
  have kh0 := K.h0
  generalize val (hueC x) / 60 = z at *
  obtain ⟨fe, e1, e2⟩ := near9 re (by grind) (by grind)
  obtain ⟨_, e3, e4⟩ := rd_between re 0 6 (by decide) (by decide) (by rw [lit0]; grind) (by rw [lit6]; grind)
  rw [lit0] at e3; rw [lit6] at e4
  have ee : hE (angW (hueC x)) = fdiv (angW (hueC x)) 4633641066610819072 := rfl
  rw [← ee] at fe e1 e2 e3 e4
  have elt : hE (angW (hueC x)) < 18446744073709551616 := fdiv_lt fg fin60 n60
  have etop : val (hE (angW (hueC x))) < 6 := by grind
  have near : et - 5000 * dlt ≤ val (hE (angW (hueC x))) ∧ val (hE (angW (hueC x))) ≤ et + 5000 * dlt := by have := S.n0; constructor <;> grind
  obtain ⟨fm, m1', m2', m3', m4'⟩ := m_near fl' fc (ov (mx (chR x) (chG x) (chB x))) (ov (mn (chR x) (chG x) (chB x))) (by rw [vl]; exact K.l0) (by rw [vl]; exact K.l1) c3 c4 (by rw [vl']; have := N.l0; grind) (by rw [vl']; have := N.l1; grind) (by grind) (by grind)
  obtain ⟨fx, x1, x2, x3, x4⟩ := x_near fc c3 c4 fe elt e3 e4
  obtain ⟨_, _, k0, _, g1, g2⟩ := flE_ok fe e3 e4
  have k5 : flE (hE (angW (hueC x))) ≤ 5 := by
    have : ((flE (hE (angW (hueC x))) : Int):Rat) < ((6:Int):Rat) := by rw [lit6]; grind
    have := Rat.intCast_lt_intCast.1 this
    omega
  obtain ⟨WR, WG, WB⟩ := wg_near _ j (val (hE (angW (hueC x)))) et (5000 * dlt) k0 k5 S.j0 S.j5 g1 (by grind) S.lo S.hi near.1 near.2 (by grind) (by grind)
  have d1 := ov_lt _ _ lt
  obtain ⟨o1, o2⟩ := ov_bd (mx (chR x) (chG x) (chB x)) (by omega) (by omega)
  obtain ⟨o3, o4⟩ := ov_bd (mn (chR x) (chG x) (chB x)) (by omega) (by omega)
  have CH := fun (v : Nat) (T : Int) (w wj : Rat) (fv : Fnt v) v0 v1 T0 T1 a0 a1 w0 w1 b0 b1 e => chan v (hM (unitW (litC x)) (fmul (qL (unitW (litC x))) (unitW (satC x)))) T (mn (chR x) (chG x) (chB x)) (mx (chR x) (chG x) (chB x)) w wj (val (fmul (qL (unitW (litC x))) (unitW (satC x)))) fv fm v0 v1 m3' m4' T0 T1 a0 a1 w0 w1 b0 b1 c1 c2 (by grind) (by grind) e m1' m2'
  have z0 : 0 ≤ val 0 := by rw [val0]; decide
  have z1 : val 0 ≤ 1 := by rw [val0]; decide
  have X := ch_full x h0 h1
  have Swr := S.wr; have Swg := S.wg; have Swb := S.wb
  have l1 : ((1:Int):Rat) = 1 := rfl
  have l2' : ((2:Int):Rat) = 2 := by decide +kernel
  have l3 : ((3:Int):Rat) = 3 := by decide +kernel
  have l4 : ((4:Int):Rat) = 4 := by decide +kernel
  have l5 : ((5:Int):Rat) = 5 := by decide +kernel
  refine (hsl_of (R := chR x) (G := chG x) (B := chB x) ?_).trans X.symm
  rw [hCe]
  generalize flE (hE (angW (hueC x))) = k at *
  generalize val (hE (angW (hueC x))) = e at *
  generalize hX (fmul (qL (unitW (litC x))) (unitW (satC x))) (hE (angW (hueC x))) = XW at *
  generalize fmul (qL (unitW (litC x))) (unitW (satC x)) = c at *
  have kk : k = 0 ∨ k = 1 ∨ k = 2 ∨ k = 3 ∨ k = 4 ∨ k = 5 := by omega
  have fin : ∀ v T w wj, (v = c ∧ w = 1 ∨ v = 0 ∧ w = 0 ∨ v = XW ∧ w = uK k e) → 0 ≤ T → T ≤ 255 → 0 ≤ w → w ≤ 1 → wj - 5000 * dlt ≤ w → w ≤ wj + 5000 * dlt → (ov (mx (chR x) (chG x) (chB x)) - ov (mn (chR x) (chG x) (chB x))) * wj = ov T - ov (mn (chR x) (chG x) (chB x)) → levC v (hM (unitW (litC x)) c) = T := by
    intro v T w wj hv T0 T1 w0 w1 b0 b1 e
    rcases hv with ⟨rfl, rfl⟩ | ⟨rfl, rfl⟩ | ⟨rfl, rfl⟩
    · exact CH _ T 1 wj fc c3 c4 T0 T1 (by grind) (by grind) w0 w1 b0 b1 e
    · exact CH _ T 0 wj fin0 z0 z1 T0 T1 (by rw [val0]; grind) (by rw [val0]; grind) w0 w1 b0 b1 e
    · exact CH _ T _ wj fx x3 x4 T0 T1 x1 x2 w0 w1 b0 b1 e
  rcases kk with rfl | rfl | rfl | rfl | rfl | rfl
  all_goals
    simp only [pick6, if_true, if_false, Int.reduceEq, Prod.mk.injEq]
    refine ⟨fin _ _ _ _ ?_ rr.1 rr.2 WR.1 WR.2.1 WR.2.2.1 WR.2.2.2 Swr, fin _ _ _ _ ?_ gr.1 gr.2 WG.1 WG.2.1 WG.2.2.1 WG.2.2.2 Swg, fin _ _ _ _ ?_ br.1 br.2 WB.1 WB.2.1 WB.2.2.1 WB.2.2.2 Swb⟩
    all_goals
      first
        | (refine Or.inl ⟨rfl, ?_⟩; unfold wgR; simp; done)
        | (refine Or.inl ⟨rfl, ?_⟩; unfold wgG; simp; done)
        | (refine Or.inl ⟨rfl, ?_⟩; unfold wgB; simp; done)
        | (refine Or.inr (Or.inl ⟨rfl, ?_⟩); unfold wgR; simp; done)
        | (refine Or.inr (Or.inl ⟨rfl, ?_⟩); unfold wgG; simp; done)
        | (refine Or.inr (Or.inl ⟨rfl, ?_⟩); unfold wgB; simp; done)
        | (refine Or.inr (Or.inr ⟨rfl, ?_⟩); unfold wgR uK; simp; grind)
        | (refine Or.inr (Or.inr ⟨rfl, ?_⟩); unfold wgR uK; simp; done)
        | (refine Or.inr (Or.inr ⟨rfl, ?_⟩); unfold wgG uK; simp; grind)
        | (refine Or.inr (Or.inr ⟨rfl, ?_⟩); unfold wgG uK; simp; done)
        | (refine Or.inr (Or.inr ⟨rfl, ?_⟩); unfold wgB uK; simp; grind)
        | (refine Or.inr (Or.inr ⟨rfl, ?_⟩); unfold wgB uK; simp; done)
end Go.Proofs.YtpbpkdhdjdaiiaaDoor
