/- There and back: the angle, its sector, and what each channel comes to (plain). -/
import Derived.Test.YtpbpkdhdjdaiiaaDoorRndP
namespace Go.Proofs.YtpbpkdhdjdaiiaaDoor
open Go.RowKit Flt
set_option linter.unusedVariables false

theorem mul_sym_bd (a t d : Rat) (h1 : -1 ≤ a) (h2 : a ≤ 1) (h3 : -d ≤ t) (h4 : t ≤ d) : -d ≤ a * t ∧ a * t ≤ d := by
  rcases (Rat.le_total : 0 ≤ t ∨ t ≤ 0) with z | z
  · have m1 := Rat.mul_le_mul_of_nonneg_right h1 z
    have m2 := Rat.mul_le_mul_of_nonneg_right h2 z
    constructor <;> grind
  · have z' : 0 ≤ -t := by grind
    have m1 := Rat.mul_le_mul_of_nonneg_right h1 z'
    have m2 := Rat.mul_le_mul_of_nonneg_right h2 z'
    constructor <;> grind

/-- an exact part of the greatest difference -/
theorem al_ex (x y H L : Int) (lt : L < H) (x0 : L ≤ x) (x1 : x ≤ H) (y0 : L ≤ y) (y1 : y ≤ H) (h255 : H - L ≤ 255) : ∃ al : Rat, al * (ov H - ov L) = ov x - ov y ∧ -1 ≤ al ∧ al ≤ 1 ∧ (y ≤ x → 0 ≤ al) ∧ (x ≤ y → al ≤ 0) ∧ (x < y → al * 255 ≤ -1) := by
  have pos := ov_lt L H lt
  have pos' : 0 < ov H - ov L := by grind
  have ne : ov H - ov L ≠ 0 := by grind
  have e : (ov x - ov y) / (ov H - ov L) * (ov H - ov L) = ov x - ov y := Rat.div_mul_cancel ne
  generalize (ov x - ov y) / (ov H - ov L) = al at *
  have a1 := ov_le L x x0; have a2 := ov_le x H x1; have a3 := ov_le L y y0; have a4 := ov_le y H y1
  refine ⟨al, e, ?_, ?_, ?_, ?_, ?_⟩
  · refine le_of_nn _ pos' ?_
    rw [e]; grind
  · refine le_of_nn _ pos' ?_
    rw [e]; grind
  · intro h
    have := ov_le y x h
    refine le_of_nn _ pos' ?_
    rw [e]; grind
  · intro h
    have := ov_le x y h
    refine le_of_nn _ pos' ?_
    rw [e]; grind
  · intro h
    have g := ov_lt x y h
    have hm : ov H * 255 - ov L * 255 ≤ 255 := by
      have e1 := ov_mul H; have e2 := ov_mul L
      have : ((H - L : Int):Rat) ≤ ((255 : Int):Rat) := Rat.intCast_le_intCast.2 h255
      have c : ((H - L : Int):Rat) = (H:Rat) - (L:Rat) := Rat.intCast_sub H L
      have l : ((255:Int):Rat) = 255 := by decide +kernel
      rw [c, l] at this
      grind
    refine le_of_nn _ pos' ?_
    have e2 : al * 255 * (ov H - ov L) = (ov x - ov y) * 255 := by rw [← e]; grind
    rw [e2]; grind

theorem a_near (x y H L : Int) (l0 : 0 ≤ L) (lt : L < H) (h1 : H ≤ 255) (x0 : L ≤ x) (x1 : x ≤ H) (y0 : L ≤ y) (y1 : y ≤ H) (al : Rat) (e : al * (ov H - ov L) = ov x - ov y) (b1 : -1 ≤ al) (b2 : al ≤ 1) :
    al - 3000 * dlt ≤ val (aW x y H L) ∧ val (aW x y H L) ≤ al + 3000 * dlt ∧ (y ≤ x → 0 ≤ val (aW x y H L)) := by
  have N := nr_ok H L l0 (by omega) h1
  obtain ⟨fs, nd, fa, _, _⟩ := a_ok x y H L l0 lt h1 x0 x1 y0 y1
  obtain ⟨fx, X0, X1⟩ := cw9 x (by omega) (by omega)
  obtain ⟨fy, Y0, Y1⟩ := cw9 y (by omega) (by omega)
  obtain ⟨ox0, ox1⟩ := ov_bd x (by omega) (by omega)
  obtain ⟨oy0, oy1⟩ := ov_bd y (by omega) (by omega)
  obtain ⟨dp, ds⟩ := dlt_pos
  have c1 := ov_lt L H lt
  have rn := (fsub_some fx fy).2
  obtain ⟨_, n1, n2⟩ := near9 rn (by grind) (by grind)
  have d0 := N.d0; have d1 := N.d1
  have pos : 0 < val (dW H L) := by grind
  have er : val (fsub (cw x) (cw y)) / val (dW H L) * val (dW H L) = val (fsub (cw x) (cw y)) := Rat.div_mul_cancel nd
  have ra := (fdiv_some fs N.fd nd).2
  have t := mul_sym_bd al (val (dW H L) - (ov H - ov L)) (3 * dlt) b1 b2 (by grind) (by grind)
  have t2 : al * (val (dW H L) - (ov H - ov L)) = al * val (dW H L) - al * (ov H - ov L) := by grind
  rw [t2, e] at t
  have sm : dlt ≤ 260 * (dlt * val (dW H L)) := by
    have := Rat.mul_le_mul_of_nonneg_left (show 1 ≤ 260 * val (dW H L) by grind) (show 0 ≤ dlt by grind)
    grind
  have lo : al - 2000 * dlt ≤ val (fsub (cw x) (cw y)) / val (dW H L) := by
    refine le_of_nn _ pos ?_
    rw [er]
    have : (al - 2000 * dlt) * val (dW H L) = al * val (dW H L) - 2000 * (dlt * val (dW H L)) := by grind
    rw [this]; grind
  have hi : val (fsub (cw x) (cw y)) / val (dW H L) ≤ al + 2000 * dlt := by
    refine le_of_nn _ pos ?_
    rw [er]
    have : (al + 2000 * dlt) * val (dW H L) = al * val (dW H L) + 2000 * (dlt * val (dW H L)) := by grind
    rw [this]; grind
  obtain ⟨_, a1, a2⟩ := near9 ra (by grind) (by grind)
  have a1' : val (fsub (cw x) (cw y)) / val (dW H L) - dlt ≤ val (aW x y H L) := a1
  have a2' : val (aW x y H L) ≤ val (fsub (cw x) (cw y)) / val (dW H L) + dlt := a2
  refine ⟨by grind, by grind, fun h => ?_⟩
  have cl := cw_le y x (by omega) (by omega) h
  obtain ⟨_, z0, _⟩ := rd_between rn 0 2 (by decide) (by decide) (by rw [lit0]; grind) (by rw [lit2]; grind)
  rw [lit0] at z0
  have nn : 0 ≤ val (fsub (cw x) (cw y)) / val (dW H L) := by
    refine le_of_nn _ pos ?_
    rw [er]; grind
  obtain ⟨_, z1, _⟩ := rd_between ra 0 2 (by decide) (by decide) (by rw [lit0]; exact nn) (by rw [lit2]; grind)
  rw [lit0] at z1
  exact z1

/-- how much of the difference a channel bears, at an angle t in sector k -/
def wgR (k : Int) (t : Rat) : Rat := if k = 0 then 1 else if k = 1 then 2 - t else if k = 2 then 0 else if k = 3 then 0 else if k = 4 then t - 4 else 1
def wgG (k : Int) (t : Rat) : Rat := if k = 0 then t else if k = 1 then 1 else if k = 2 then 1 else if k = 3 then 4 - t else 0
def wgB (k : Int) (t : Rat) : Rat := if k = 0 then 0 else if k = 1 then 0 else if k = 2 then t - 2 else if k = 3 then 1 else if k = 4 then 1 else 6 - t

/-- the exact angle and its sector -/
structure Sec (R G B H L : Int) (et : Rat) (j : Int) : Prop where
  j0 : 0 ≤ j
  j5 : j ≤ 5
  lo : (j:Rat) ≤ et
  hi : et ≤ (j:Rat) + 1
  top : et * 255 + 1 ≤ 1530
  n0 : et - 4000 * dlt ≤ val (hueW R G B)
  n1 : val (hueW R G B) ≤ et + 4000 * dlt
  fh : Fnt (hueW R G B)
  h0 : 0 ≤ val (hueW R G B)
  wr : (ov H - ov L) * wgR j et = ov R - ov L
  wg : (ov H - ov L) * wgG j et = ov G - ov L
  wb : (ov H - ov L) * wgB j et = ov B - ov L

theorem sec_ex (R G B : Int) (rr : 0 ≤ R ∧ R ≤ 255) (gr : 0 ≤ G ∧ G ≤ 255) (br : 0 ≤ B ∧ B ≤ 255) (lt : mn R G B < mx R G B) : ∃ et j, Sec R G B (mx R G B) (mn R G B) et j := by
  obtain ⟨m1, m2, m3, m4, m5, m6, m7, m8⟩ := mx_mn R G B
  have l0 : 0 ≤ mn R G B := by omega
  have h1 : mx R G B ≤ 255 := by omega
  obtain ⟨fh, hh0, _, _, _, _⟩ := hue_ok R G B rr gr br lt
  obtain ⟨dp, ds⟩ := dlt_pos
  have k0 : ((0:Int):Rat) = 0 := rfl
  have k1 : ((1:Int):Rat) = 1 := rfl
  have k2 : ((2:Int):Rat) = 2 := by decide +kernel
  have k3 : ((3:Int):Rat) = 3 := by decide +kernel
  have k4 : ((4:Int):Rat) = 4 := by decide +kernel
  have k5 : ((5:Int):Rat) = 5 := by decide +kernel
  by_cases cR : mx R G B = R
  · obtain ⟨al, e, b1, b2, s1, s2, s3⟩ := al_ex G B (mx R G B) (mn R G B) lt m2 m5 m3 m6 (by omega)
    obtain ⟨a1, a2, a3⟩ := a_near G B (mx R G B) (mn R G B) l0 lt h1 m2 m5 m3 m6 al e b1 b2
    have fa := (a_ok G B (mx R G B) (mn R G B) l0 lt h1 m2 m5 m3 m6).2.2.1
    by_cases c : G < B
    · have g := s3 c
      have neg : val (aW G B (mx R G B) (mn R G B)) < 0 := by grind
      have hue : hueW R G B = fadd (aW G B (mx R G B) (mn R G B)) 4618441417868443648 := by unfold hueW; rw [if_pos cR, if_pos neg]
      obtain ⟨_, f1, f2⟩ := near9 (fadd_some fa fin6).2 (by rw [val6]; grind) (by rw [val6]; grind)
      rw [val6] at f1 f2
      have eL : mn R G B = G := by omega
      refine ⟨6 + al, 5, by decide, by decide, by rw [k5]; grind, by rw [k5]; have := s2 (by omega); grind, by grind, by rw [hue]; grind, by rw [hue]; grind, fh, hh0, ?_, ?_, ?_⟩
      · simp [wgR]; first | (rw [cR]; done) | (rw [cR]; grind)
      · simp [wgG]; first | (rw [eL]; done) | (rw [eL]; grind)
      · simp [wgB]; rw [eL, cR] at e ⊢; grind
    · have p := a3 (by omega)
      have q := s1 (by omega)
      have hue : hueW R G B = aW G B (mx R G B) (mn R G B) := by unfold hueW; rw [if_pos cR, if_neg (by grind)]
      have eL : mn R G B = B := by omega
      refine ⟨al, 0, by decide, by decide, by rw [k0]; exact q, by rw [k0]; grind, by grind, by rw [hue]; grind, by rw [hue]; grind, fh, hh0, ?_, ?_, ?_⟩
      · simp [wgR]; first | (rw [cR]; done) | (rw [cR]; grind)
      · simp [wgG]; rw [eL, cR] at e ⊢; grind
      · simp [wgB]; first | (rw [eL]; done) | (rw [eL]; grind)
  · by_cases cG : mx R G B = G
    · obtain ⟨al, e, b1, b2, s1, s2, _⟩ := al_ex B R (mx R G B) (mn R G B) lt m3 m6 m1 m4 (by omega)
      obtain ⟨a1, a2, _⟩ := a_near B R (mx R G B) (mn R G B) l0 lt h1 m3 m6 m1 m4 al e b1 b2
      have fa := (a_ok B R (mx R G B) (mn R G B) l0 lt h1 m3 m6 m1 m4).2.2.1
      have hue : hueW R G B = fadd (aW B R (mx R G B) (mn R G B)) 4611686018427387904 := by unfold hueW; rw [if_neg cR, if_pos cG]
      obtain ⟨_, f1, f2⟩ := near9 (fadd_some fa fin2).2 (by rw [val2]; grind) (by rw [val2]; grind)
      rw [val2] at f1 f2
      by_cases c : B ≤ R
      · have q := s2 c
        have eL : mn R G B = B := by omega
        refine ⟨2 + al, 1, by decide, by decide, by rw [k1]; grind, by rw [k1]; grind, by grind, by rw [hue]; grind, by rw [hue]; grind, fh, hh0, ?_, ?_, ?_⟩
        · simp [wgR]; rw [eL, cG] at e ⊢; grind
        · simp [wgG]; first | (rw [cG]; done) | (rw [cG]; grind)
        · simp [wgB]; first | (rw [eL]; done) | (rw [eL]; grind)
      · have q := s1 (by omega)
        have eL : mn R G B = R := by omega
        refine ⟨2 + al, 2, by decide, by decide, by rw [k2]; grind, by rw [k2]; grind, by grind, by rw [hue]; grind, by rw [hue]; grind, fh, hh0, ?_, ?_, ?_⟩
        · simp [wgR]; first | (rw [eL]; done) | (rw [eL]; grind)
        · simp [wgG]; first | (rw [cG]; done) | (rw [cG]; grind)
        · simp [wgB]; rw [eL, cG] at e ⊢; grind
    · have cB : mx R G B = B := by omega
      obtain ⟨al, e, b1, b2, s1, s2, _⟩ := al_ex R G (mx R G B) (mn R G B) lt m1 m4 m2 m5 (by omega)
      obtain ⟨a1, a2, _⟩ := a_near R G (mx R G B) (mn R G B) l0 lt h1 m1 m4 m2 m5 al e b1 b2
      have fa := (a_ok R G (mx R G B) (mn R G B) l0 lt h1 m1 m4 m2 m5).2.2.1
      have hue : hueW R G B = fadd (aW R G (mx R G B) (mn R G B)) 4616189618054758400 := by unfold hueW; rw [if_neg cR, if_neg cG]
      obtain ⟨_, f1, f2⟩ := near9 (fadd_some fa fin4).2 (by rw [val4]; grind) (by rw [val4]; grind)
      rw [val4] at f1 f2
      by_cases c : R ≤ G
      · have q := s2 c
        have eL : mn R G B = R := by omega
        refine ⟨4 + al, 3, by decide, by decide, by rw [k3]; grind, by rw [k3]; grind, by grind, by rw [hue]; grind, by rw [hue]; grind, fh, hh0, ?_, ?_, ?_⟩
        · simp [wgR]; first | (rw [eL]; done) | (rw [eL]; grind)
        · simp [wgG]; rw [eL, cB] at e ⊢; grind
        · simp [wgB]; first | (rw [cB]; done) | (rw [cB]; grind)
      · have q := s1 (by omega)
        have eL : mn R G B = G := by omega
        refine ⟨4 + al, 4, by decide, by decide, by rw [k4]; grind, by rw [k4]; grind, by grind, by rw [hue]; grind, by rw [hue]; grind, fh, hh0, ?_, ?_, ?_⟩
        · simp [wgR]; rw [eL, cB] at e ⊢; grind
        · simp [wgG]; first | (rw [eL]; done) | (rw [eL]; grind)
        · simp [wgB]; first | (rw [cB]; done) | (rw [cB]; grind)
end Go.Proofs.YtpbpkdhdjdaiiaaDoor
