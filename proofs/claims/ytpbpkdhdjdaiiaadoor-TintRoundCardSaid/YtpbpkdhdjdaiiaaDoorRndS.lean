/- There and back: each channel is that of the colour again (plain). -/
import Derived.Test.YtpbpkdhdjdaiiaaDoorRndQ
namespace Go.Proofs.YtpbpkdhdjdaiiaaDoor
open Go.RowKit Flt
set_option linter.unusedVariables false

theorem unit_val {s : Nat} (fs : Fnt s) (h0 : 0 ≤ val s) (h1 : val s ≤ 1) : Fnt (unitW s) ∧ val (unitW s) = val s := by
  obtain ⟨a, b, _, _, e⟩ := units s
  refine ⟨a, ?_⟩
  rw [← e]
  have n1 : (Ieee.double.order s s != some .eq) = false := by
    have o := (order_same fs fs).2 rfl
    unfold bne; rw [o]; rfl
  have n2 : (Ieee.double.order s 0 == some .lt) = false := by
    rw [Bool.eq_false_iff]; intro h
    have := (order_lt fs fin0).1 h
    rw [val0] at this; grind
  have n3 : (Ieee.double.order s 4607182418800017408 == some .gt) = false := by
    rw [Bool.eq_false_iff]; intro h
    have := (order_gt fs fin1).1 h
    rw [val1] at this; grind
  unfold unitR
  rw [n1, n2, n3]
  simp

theorem ang_val {h : Nat} (f : Fnt h) (l : h < 18446744073709551616) (h0 : 0 ≤ val h) (h1 : val h < 360) : Fnt (angW h) ∧ val (angW h) = val h := by
  obtain ⟨a, b, c, d, e, k, hk⟩ := modW_ok h 4645040803167600640 f l nrm360
  rw [val360] at c d hk
  have e0 := e h0
  have kz : k = 0 := by
    have l1 : (k:Rat) < ((1:Int):Rat) := by rw [lit1]; grind
    have l2 : ((-1:Int):Rat) < (k:Rat) := by rw [litm1]; grind
    have := Rat.intCast_lt_intCast.1 l1
    have := Rat.intCast_lt_intCast.1 l2
    omega
  subst kz
  rw [lit0, Rat.zero_mul, Rat.sub_eq_add_neg] at hk
  have v : val (ang1 h) = val h := by show val (modW h 4645040803167600640) = val h; rw [hk]; grind
  have e2 : ang2 h = ang1 h := by unfold ang2; rw [if_neg (by rw [v]; grind)]
  have e3 : angW h = ang1 h := by
    unfold angW
    rw [if_pos (show h % 9223372036854775808 < 9218868437227405312 from f), if_neg (by rw [e2, v]; grind), e2]
  rw [e3]
  exact ⟨a, v⟩

/-- the sixth's share -/
def uK (k : Int) (e : Rat) : Rat := if k % 2 = 0 then e - k else k + 1 - e

theorem mod2_val {e : Nat} (f : Fnt e) (l : e < 18446744073709551616) (e0 : 0 ≤ val e) (e1 : val e ≤ 6) : Fnt (modW e 4611686018427387904) ∧ ((flE e % 2 = 0 ∧ val (modW e 4611686018427387904) = val e - flE e) ∨ (flE e % 2 = 1 ∧ val (modW e 4611686018427387904) = val e - flE e + 1)) := by
  obtain ⟨a, b, c, d, g, k2, hk⟩ := modW_ok e 4611686018427387904 f l nrm2
  rw [val2] at c d hk
  have g0 := g e0
  obtain ⟨_, _, _, _, q1, q2⟩ := flE_ok f e0 e1
  have l1 : ((2 * k2 : Int):Rat) < ((flE e + 1 : Int):Rat) := by
    have e1 : ((2 * k2 : Int):Rat) = 2 * (k2:Rat) := by rw [Rat.intCast_mul, lit2]
    have e2 : ((flE e + 1 : Int):Rat) = (flE e:Rat) + 1 := by rw [Rat.intCast_add, lit1]
    rw [e1, e2]; grind
  have l2 : ((flE e - 2 : Int):Rat) < ((2 * k2 : Int):Rat) := by
    have e1 : ((2 * k2 : Int):Rat) = 2 * (k2:Rat) := by rw [Rat.intCast_mul, lit2]
    have e2 : ((flE e - 2 : Int):Rat) = (flE e:Rat) - 2 := by rw [Rat.intCast_sub, lit2]
    rw [e1, e2]; grind
  have l1' := Rat.intCast_lt_intCast.1 l1
  have l2' := Rat.intCast_lt_intCast.1 l2
  refine ⟨a, ?_⟩
  rcases (show 2 * k2 = flE e ∨ 2 * k2 = flE e - 1 by omega) with z | z
  · left
    have e1 : 2 * (k2:Rat) = (flE e:Rat) := by rw [← z, Rat.intCast_mul, lit2]
    exact ⟨by omega, by rw [hk]; grind⟩
  · right
    have e1 : 2 * (k2:Rat) = (flE e:Rat) - 1 := by
      have : ((2 * k2 : Int):Rat) = ((flE e - 1 : Int):Rat) := by rw [z]
      rw [Rat.intCast_mul, lit2, Rat.intCast_sub, lit1] at this
      exact this
    exact ⟨by omega, by rw [hk]; grind⟩

theorem x_near {c e : Nat} (fc : Fnt c) (c0 : 0 ≤ val c) (c1 : val c ≤ 1) (f : Fnt e) (l : e < 18446744073709551616) (e0 : 0 ≤ val e) (e1 : val e ≤ 6) :
    Fnt (hX c e) ∧ val c * uK (flE e) (val e) - 5 * dlt ≤ val (hX c e) ∧ val (hX c e) ≤ val c * uK (flE e) (val e) + 5 * dlt ∧ 0 ≤ val (hX c e) ∧ val (hX c e) ≤ 1 := by
  obtain ⟨fm, hm⟩ := mod2_val f l e0 e1
  obtain ⟨_, _, _, _, q1, q2⟩ := flE_ok f e0 e1
  obtain ⟨dp, ds⟩ := dlt_pos
  have mu : 0 ≤ val (modW e 4611686018427387904) ∧ val (modW e 4611686018427387904) ≤ 2 := by rcases hm with ⟨_, h⟩ | ⟨_, h⟩ <;> rw [h] <;> constructor <;> grind
  have rt := (fsub_some fm fin1).2
  rw [val1] at rt
  obtain ⟨ft, t1, t2⟩ := near9 rt (by grind) (by grind)
  obtain ⟨_, t3, t4⟩ := rd_between rt (-1) 1 (by decide) (by decide) (by rw [litm1]; grind) (by rw [lit1]; grind)
  rw [litm1] at t3; rw [lit1] at t4
  obtain ⟨fa, va⟩ := abs_val ft
  have uE : uK (flE e) (val e) = if val (modW e 4611686018427387904) < 1 then val (modW e 4611686018427387904) else 2 - val (modW e 4611686018427387904) := by
    unfold uK
    rcases hm with ⟨p, h⟩ | ⟨p, h⟩
    · rw [if_pos p, h, if_pos (by grind)]
    · rw [if_neg (by omega), h]
      split
      · grind
      · grind
  have ab : 0 ≤ val (fsub (modW e 4611686018427387904) 4607182418800017408 % 9223372036854775808) ∧ val (fsub (modW e 4611686018427387904) 4607182418800017408 % 9223372036854775808) ≤ 1
      ∧ 1 - uK (flE e) (val e) - dlt ≤ val (fsub (modW e 4611686018427387904) 4607182418800017408 % 9223372036854775808) ∧ val (fsub (modW e 4611686018427387904) 4607182418800017408 % 9223372036854775808) ≤ 1 - uK (flE e) (val e) + dlt := by
    rw [va, uE]; split <;> split <;> refine ⟨by grind, by grind, by grind, by grind⟩
  obtain ⟨ab1, ab2, ab3, ab4⟩ := ab
  have rq := (fsub_some fin1 fa).2
  rw [val1] at rq
  obtain ⟨fq, w1, w2⟩ := near9 rq (by grind) (by grind)
  obtain ⟨_, w3, w4⟩ := rd_between rq 0 1 (by decide) (by decide) (by rw [lit0]; grind) (by rw [lit1]; grind)
  rw [lit0] at w3; rw [lit1] at w4
  have rx := (fmul_some fc fq).2
  have m1 := Rat.mul_nonneg c0 w3
  have m2 := Rat.mul_le_mul_of_nonneg_left w4 c0
  rw [Rat.mul_one] at m2
  have t := mul_sym_bd (val c) (val (fsub 4607182418800017408 (fsub (modW e 4611686018427387904) 4607182418800017408 % 9223372036854775808)) - uK (flE e) (val e)) (3 * dlt) (by grind) c1 (by grind) (by grind)
  obtain ⟨fx, x1, x2⟩ := near9 rx (by grind) (by grind)
  obtain ⟨_, x3, x4⟩ := rd_between rx 0 1 (by decide) (by decide) (by rw [lit0]; grind) (by rw [lit1]; grind)
  rw [lit0] at x3; rw [lit1] at x4
  have e1 : val c * (val (fsub 4607182418800017408 (fsub (modW e 4611686018427387904) 4607182418800017408 % 9223372036854775808)) - uK (flE e) (val e)) = val c * val (fsub 4607182418800017408 (fsub (modW e 4611686018427387904) 4607182418800017408 % 9223372036854775808)) - val c * uK (flE e) (val e) := by grind
  rw [e1] at t
  have x1' : val c * val (fsub 4607182418800017408 (fsub (modW e 4611686018427387904) 4607182418800017408 % 9223372036854775808)) - dlt ≤ val (hX c e) := x1
  have x2' : val (hX c e) ≤ val c * val (fsub 4607182418800017408 (fsub (modW e 4611686018427387904) 4607182418800017408 % 9223372036854775808)) + dlt := x2
  exact ⟨fx, by grind, by grind, x3, x4⟩

/-- the shares hardly turn where the angle hardly does -/
theorem wg_near (k j : Int) (e t : Rat) (d : Rat) (hk0 : 0 ≤ k) (hk5 : k ≤ 5) (hj0 : 0 ≤ j) (hj5 : j ≤ 5) (e0 : (k:Rat) ≤ e) (e1 : e ≤ (k:Rat) + 1) (t0 : (j:Rat) ≤ t) (t1 : t ≤ (j:Rat) + 1) (n0 : t - d ≤ e) (n1 : e ≤ t + d) (dp : 0 ≤ d) (d1 : 100 * d ≤ 1) :
    (0 ≤ wgR k e ∧ wgR k e ≤ 1 ∧ wgR j t - d ≤ wgR k e ∧ wgR k e ≤ wgR j t + d) ∧ (0 ≤ wgG k e ∧ wgG k e ≤ 1 ∧ wgG j t - d ≤ wgG k e ∧ wgG k e ≤ wgG j t + d) ∧ (0 ≤ wgB k e ∧ wgB k e ≤ 1 ∧ wgB j t - d ≤ wgB k e ∧ wgB k e ≤ wgB j t + d) := by
  have k0 : ((0:Int):Rat) = 0 := rfl
  have k1 : ((1:Int):Rat) = 1 := rfl
  have k2 : ((2:Int):Rat) = 2 := by decide +kernel
  have k3 : ((3:Int):Rat) = 3 := by decide +kernel
  have k4 : ((4:Int):Rat) = 4 := by decide +kernel
  have k5 : ((5:Int):Rat) = 5 := by decide +kernel
  have hk : k = 0 ∨ k = 1 ∨ k = 2 ∨ k = 3 ∨ k = 4 ∨ k = 5 := by omega
  have hj : j = 0 ∨ j = 1 ∨ j = 2 ∨ j = 3 ∨ j = 4 ∨ j = 5 := by omega
  rcases hk with rfl | rfl | rfl | rfl | rfl | rfl <;> rcases hj with rfl | rfl | rfl | rfl | rfl | rfl
  all_goals
    simp only [k0, k1, k2, k3, k4, k5] at e0 e1 t0 t1
    simp only [wgR, wgG, wgB, if_true, if_false, Int.reduceEq]
    refine ⟨⟨?_, ?_, ?_, ?_⟩, ⟨?_, ?_, ?_, ?_⟩, ⟨?_, ?_, ?_, ?_⟩⟩ <;> grind

/-- a channel that comes out near -/
theorem lev_eq {v m : Nat} {T : Int} (fv : Fnt v) (fm : Fnt m) (v0 : 0 ≤ val v) (v1 : val v ≤ 1) (m0 : -1 ≤ val m) (m1 : val m ≤ 1) (T0 : 0 ≤ T) (T1 : T ≤ 255) (n0 : ov T - 10000 * dlt ≤ val v + val m) (n1 : val v + val m ≤ ov T + 10000 * dlt) : levC v m = T := by
  obtain ⟨n, L⟩ := lev_ok (Sv.refl fv) (Sv.refl fm) v0 v1 m0 m1
  obtain ⟨dp, ds⟩ := dlt_pos
  obtain ⟨o0, o1⟩ := ov_bd T T0 T1
  have om := ov_mul T
  have ra := (fadd_some fv fm).2
  obtain ⟨fa, a1, a2⟩ := near9 ra (by grind) (by grind)
  have rb := (fmul_some fa fin255).2
  rw [val255] at rb
  obtain ⟨fb, b1, b2⟩ := near9 rb (by grind) (by grind)
  have rc := (fadd_some fb finH).2
  rw [valH] at rc
  have hh : (1/2 : Rat) * 2 = 1 := by decide +kernel
  generalize (1/2 : Rat) = half at *
  obtain ⟨fc, c1, c2⟩ := near9 rc (by grind) (by grind)
  obtain ⟨n', q1, q2, rf⟩ := ffloor_some fc
  have lo : ((T - 1 : Int):Rat) < (n':Rat) := by
    rw [Rat.intCast_sub, lit1]; grind
  have hi : (n':Rat) < ((T + 1 : Int):Rat) := by
    rw [Rat.intCast_add, lit1]; grind
  have lo' := Rat.intCast_lt_intCast.1 lo
  have hi' := Rat.intCast_lt_intCast.1 hi
  have nT : n' = T := by omega
  obtain ⟨_, wv⟩ := rf.int (by omega) (by omega)
  have e : (n:Rat) = (n':Rat) := by rw [← L.v, ← wv]; rfl
  have e' : n = n' := Rat.intCast_inj.1 e
  rw [levC_of L, e', nT]
  omega
end Go.Proofs.YtpbpkdhdjdaiiaaDoor
