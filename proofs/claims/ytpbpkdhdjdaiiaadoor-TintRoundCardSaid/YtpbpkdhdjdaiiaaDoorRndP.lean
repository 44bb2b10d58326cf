/- There and back: a colour's angle, strength and lightness, close to the exact ones (plain). -/
import Derived.Test.YtpbpkdhdjdaiiaaDoorTslW
namespace Go.Proofs.YtpbpkdhdjdaiiaaDoor
open Go.RowKit Flt
set_option linter.unusedVariables false

/-- the error that is let by -/
def dlt : Rat := 1 / 1000000000
theorem dlt_pos : 0 < dlt ∧ 1000000000 * dlt = 1 := by decide +kernel
theorem p10 : (2:Rat)^(10:Int) = 1024 := by decide +kernel
theorem t44 : (2:Rat)^((10:Int)-54) ≤ dlt := by decide +kernel

theorem near9 {q : Rat} {x : Nat} (h : Rd q x) (h1 : -1000 ≤ q) (h2 : q ≤ 1000) : Fnt x ∧ q - dlt ≤ val x ∧ val x ≤ q + dlt := by
  obtain ⟨f, a, b⟩ := h.error 10 (by decide) (by decide) (by rw [p10]; grind) (by rw [p10]; grind)
  have t := t44
  exact ⟨f, by grind, by grind⟩

/-- a channel over 255, exact -/
def ov (n : Int) : Rat := (n:Rat) / 255
theorem ov_mul (n : Int) : ov n * 255 = (n:Rat) := by unfold ov; exact Rat.div_mul_cancel (by decide)
theorem ov_le (a b : Int) (h : a ≤ b) : ov a ≤ ov b := by
  have : (a:Rat) ≤ (b:Rat) := Rat.intCast_le_intCast.2 h
  have e1 := ov_mul a; have e2 := ov_mul b
  generalize ov a = x at *; generalize ov b = y at *
  grind
theorem ov_lt (a b : Int) (h : a < b) : ov a * 255 + 1 ≤ ov b * 255 := by
  have e : ((a + 1 : Int):Rat) = (a:Rat) + 1 := by rw [Rat.intCast_add]; rfl
  have : (a:Rat) + 1 ≤ (b:Rat) := by rw [← e]; exact Rat.intCast_le_intCast.2 (by omega)
  have e1 := ov_mul a; have e2 := ov_mul b
  generalize ov a = x at *; generalize ov b = y at *
  grind
theorem ov_0 : ov 0 = 0 := by decide +kernel
theorem ov_255 : ov 255 = 1 := by decide +kernel
theorem ov_bd (n : Int) (h0 : 0 ≤ n) (h1 : n ≤ 255) : 0 ≤ ov n ∧ ov n ≤ 1 := by
  have a := ov_le 0 n h0; have b := ov_le n 255 h1
  rw [ov_0] at a; rw [ov_255] at b
  exact ⟨a, b⟩

theorem cw9 (n : Int) (h0 : 0 ≤ n) (h1 : n ≤ 255) : Fnt (cw n) ∧ ov n - dlt ≤ val (cw n) ∧ val (cw n) ≤ ov n + dlt := by
  obtain ⟨_, _, _, _, r⟩ := over_ok n h0 h1
  obtain ⟨a, b⟩ := ov_bd n h0 h1
  have r : Rd (ov n) (cw n) := r
  exact near9 r (by grind) (by grind)

/-- what is near for the greatest H and the least L -/
structure Nr (H L : Int) : Prop where
  d0 : ov H - ov L - 3 * dlt ≤ val (dW H L)
  d1 : val (dW H L) ≤ ov H - ov L + 3 * dlt
  l0 : ov H + ov L - 6 * dlt ≤ 2 * val (lW H L)
  l1 : 2 * val (lW H L) ≤ ov H + ov L + 6 * dlt
  fl : Fnt (lW H L)
  fd : Fnt (dW H L)

theorem nr_ok (H L : Int) (l0 : 0 ≤ L) (lh : L ≤ H) (h1 : H ≤ 255) : Nr H L := by
  have T := tsl_ok H L l0 lh h1
  obtain ⟨fH, H0, H1⟩ := cw9 H (by omega) h1
  obtain ⟨fL, L0, L1⟩ := cw9 L l0 (by omega)
  obtain ⟨a1, a2⟩ := ov_bd H (by omega) h1
  obtain ⟨b1, b2⟩ := ov_bd L l0 (by omega)
  obtain ⟨dp, ds⟩ := dlt_pos
  have T1 := T.fl; have T2 := T.fd
  clear T l0 lh h1
  have rd := (fsub_some fH fL).2
  have rs := (fadd_some fH fL).2
  obtain ⟨_, d1, d2⟩ := near9 rd (by grind) (by grind)
  obtain ⟨fs, s1, s2⟩ := near9 rs (by grind) (by grind)
  have rl := (fdiv_some fs fin2 (by rw [val2]; decide)).2
  rw [val2] at rl
  have hz : val (fadd (cw H) (cw L)) / 2 * 2 = val (fadd (cw H) (cw L)) := Rat.div_mul_cancel (by decide)
  generalize val (fadd (cw H) (cw L)) / 2 = z at *
  obtain ⟨_, k1, k2⟩ := near9 rl (by grind) (by grind)
  have d1' : val (cw H) - val (cw L) - dlt ≤ val (dW H L) := d1
  have d2' : val (dW H L) ≤ val (cw H) - val (cw L) + dlt := d2
  have k1' : z - dlt ≤ val (lW H L) := k1
  have k2' : val (lW H L) ≤ z + dlt := k2
  exact ⟨by grind, by grind, by grind, by grind, T1, T2⟩

/-- |2l - 1| from 1, for a word l that is as light as that -/
def qL (l : Nat) : Nat := fsub 4607182418800017408 (fsub (fmul 4611686018427387904 l) 4607182418800017408 % 9223372036854775808)

theorem qL_near (H L : Int) (l0 : 0 ≤ L) (lh : L ≤ H) (h1 : H ≤ 255) (l : Nat) (fl : Fnt l) (e : val l = val (lW H L)) : Fnt (qL l) ∧ ov H - ov L - 12 * dlt ≤ val (qL l) ∧ val (qL l) ≤ 1 ∧ 0 ≤ val (qL l) := by
  have N := nr_ok H L l0 lh h1
  obtain ⟨a1, a2⟩ := ov_bd H (by omega) h1
  obtain ⟨b1, b2⟩ := ov_bd L l0 (by omega)
  have c1 := ov_le L H lh
  obtain ⟨dp, ds⟩ := dlt_pos
  have n1 := N.l0; have n2 := N.l1
  obtain ⟨lp1, lp2⟩ := (tsl_ok H L l0 lh h1).lp
  rw [← e] at n1 n2 lp1 lp2
  clear N e l0 lh h1
  have rm := (fmul_some fin2 fl).2
  rw [val2] at rm
  obtain ⟨fm, m1, m2⟩ := near9 rm (by grind) (by grind)
  obtain ⟨_, m3, m4⟩ := rd_between rm 0 2 (by decide) (by decide) (by rw [lit0]; grind) (by rw [lit2]; grind)
  rw [lit0] at m3; rw [lit2] at m4
  have rt := (fsub_some fm fin1).2
  rw [val1] at rt
  obtain ⟨ft, t1, t2⟩ := near9 rt (by grind) (by grind)
  obtain ⟨_, t3, t4⟩ := rd_between rt (-1) 1 (by decide) (by decide) (by rw [litm1]; grind) (by rw [lit1]; grind)
  rw [litm1] at t3; rw [lit1] at t4
  obtain ⟨fa, va⟩ := abs_val ft
  have ab : 0 ≤ val (fsub (fmul 4611686018427387904 l) 4607182418800017408 % 9223372036854775808) ∧ val (fsub (fmul 4611686018427387904 l) 4607182418800017408 % 9223372036854775808) ≤ 1 ∧ val (fsub (fmul 4611686018427387904 l) 4607182418800017408 % 9223372036854775808) ≤ 1 - (ov H - ov L) + 10 * dlt := by
    rw [va]; split <;> refine ⟨by grind, by grind, by grind⟩
  obtain ⟨ab1, ab2, ab3⟩ := ab
  have rq := (fsub_some fin1 fa).2
  rw [val1] at rq
  obtain ⟨fq, q1, q2⟩ := near9 rq (by grind) (by grind)
  obtain ⟨_, q3, q4⟩ := rd_between rq 0 1 (by decide) (by decide) (by rw [lit0]; grind) (by rw [lit1]; grind)
  rw [lit0] at q3
  rw [lit1] at q4
  have q1' : 1 - val (fsub (fmul 4611686018427387904 l) 4607182418800017408 % 9223372036854775808) - dlt ≤ val (qL l) := q1
  exact ⟨fq, by grind, q4, q3⟩

/-- words of one value: the same rounding -/
theorem fsub_val {a b a' b' : Nat} (fa : Fnt a) (fb : Fnt b) (fa' : Fnt a') (fb' : Fnt b') (e1 : val a = val a') (e2 : val b = val b') (f : Fnt (fsub a b)) (f' : Fnt (fsub a' b')) : val (fsub a b) = val (fsub a' b') := by
  have r := (fsub_some fa fb).2
  have r' := (fsub_some fa' fb').2
  rw [← e1, ← e2] at r'
  exact Rd.uniq r r' f f'
theorem fmul_val {a b a' b' : Nat} (fa : Fnt a) (fb : Fnt b) (fa' : Fnt a') (fb' : Fnt b') (e1 : val a = val a') (e2 : val b = val b') (f : Fnt (fmul a b)) (f' : Fnt (fmul a' b')) : val (fmul a b) = val (fmul a' b') := by
  have r := (fmul_some fa fb).2
  have r' := (fmul_some fa' fb').2
  rw [← e1, ← e2] at r'
  exact Rd.uniq r r' f f'

theorem qL_same (H L : Int) (l0 : 0 ≤ L) (lt : L < H) (h1 : H ≤ 255) (l : Nat) (fl : Fnt l) (e : val l = val (lW H L)) : val (qL l) = val (qW H L) := by
  have T := tsl_ok H L l0 (by omega) h1
  have Q := q_ok H L l0 lt h1
  obtain ⟨lp1, lp2⟩ := T.lp
  have rm := (fmul_some fin2 fl).2
  rw [val2] at rm
  obtain ⟨fm, _, _⟩ := rd_between rm 0 2 (by decide) (by decide) (by rw [lit0, e]; grind) (by rw [lit2, e]; grind)
  have e1 := fmul_val fin2 fl fin2 T.fl rfl e fm T.f2
  obtain ⟨_, m3, m4⟩ := rd_between rm 0 2 (by decide) (by decide) (by rw [lit0, e]; grind) (by rw [lit2, e]; grind)
  rw [lit0] at m3; rw [lit2] at m4
  have rt := (fsub_some fm fin1).2
  rw [val1] at rt
  obtain ⟨ft, t3, t4⟩ := rd_between rt (-1) 1 (by decide) (by decide) (by rw [litm1]; grind) (by rw [lit1]; grind)
  rw [litm1] at t3; rw [lit1] at t4
  have e2 : val (fsub (fmul 4611686018427387904 l) 4607182418800017408) = val (tW H L) := fsub_val fm fin1 T.f2 fin1 e1 rfl ft T.ft
  obtain ⟨fa, va⟩ := abs_val ft
  obtain ⟨fb, vb⟩ := abs_val T.ft
  have e3 : val (fsub (fmul 4611686018427387904 l) 4607182418800017408 % 9223372036854775808) = val (tW H L % 9223372036854775808) := by rw [va, vb, e2]
  have ab : 0 ≤ val (fsub (fmul 4611686018427387904 l) 4607182418800017408 % 9223372036854775808) ∧ val (fsub (fmul 4611686018427387904 l) 4607182418800017408 % 9223372036854775808) ≤ 1 := by
    rw [va]; split <;> constructor <;> grind
  have rq := (fsub_some fin1 fa).2
  rw [val1] at rq
  obtain ⟨fq, _, _⟩ := rd_between rq 0 1 (by decide) (by decide) (by rw [lit0]; grind) (by rw [lit1]; grind)
  exact fsub_val fin1 fa fin1 fb rfl e3 fq Q.sv.l

/-- the strength times that: the difference again -/
theorem c_near (H L : Int) (l0 : 0 ≤ L) (lt : L < H) (h1 : H ≤ 255) (l s : Nat) (fl : Fnt l) (e : val l = val (lW H L)) (fs : Fnt s) (es : val s = val (fminW (fdiv (dW H L) (qW H L)) 4607182418800017408)) :
    Fnt (fmul (qL l) s) ∧ ov H - ov L - 30 * dlt ≤ val (fmul (qL l) s) ∧ val (fmul (qL l) s) ≤ ov H - ov L + 30 * dlt := by
  have N := nr_ok H L l0 (by omega) h1
  have Q := q_ok H L l0 lt h1
  obtain ⟨fq, q1, q2, q3⟩ := qL_near H L l0 (by omega) h1 l fl e
  have qs := qL_same H L l0 lt h1 l fl e
  obtain ⟨a1, a2⟩ := ov_bd H (by omega) h1
  obtain ⟨b1, b2⟩ := ov_bd L l0 (by omega)
  have c1 := ov_lt L H lt
  obtain ⟨dp, ds⟩ := dlt_pos
  have n1 := N.d0; have n2 := N.d1
  have ne := Q.ne
  have lo := Q.lo
  rw [← qs] at ne lo
  have dq : val (dW H L) / val (qW H L) * val (qL l) = val (dW H L) := by rw [qs]; exact Rat.div_mul_cancel Q.ne
  have rf := (fdiv_some N.fd Q.sv.l Q.ne).2
  have dp0 := (tsl_ok H L l0 (by omega) h1).dp
  have up : val (dW H L) / val (qW H L) ≤ 300 := by
    refine le_of_nn (val (qL l)) (by grind) ?_
    rw [dq]; grind
  have lw : 0 ≤ val (dW H L) / val (qW H L) := by
    refine le_of_nn (val (qL l)) (by grind) ?_
    rw [dq]; grind
  obtain ⟨ff, f1, f2⟩ := near9 rf (by grind) (by grind)
  obtain ⟨fm, mm, ml, mr⟩ := fmin_val ff fin1
  rw [val1] at mr
  have sv : (val s = val (fdiv (dW H L) (qW H L)) ∧ val (fdiv (dW H L) (qW H L)) ≤ 1) ∨ (val s = 1 ∧ 1 ≤ val (fdiv (dW H L) (qW H L))) := by
    rcases mm with g | g
    · left; rw [es, g]; rw [g] at mr; exact ⟨rfl, mr⟩
    · right; rw [es, g, val1]; rw [g, val1] at ml; exact ⟨rfl, ml⟩
  have rc := (fmul_some fq fs).2
  clear l0 lt h1 N Q es qs e mm ml mr fm rf dp0
  generalize val (qL l) = q at *
  generalize val (dW H L) / val (qW H L) = r at *
  generalize val (dW H L) = d at *
  generalize val (fdiv (dW H L) (qW H L)) = f at *
  rcases sv with ⟨sv, f3⟩ | ⟨sv, f3⟩
  · rw [sv] at rc
    have m1 := Rat.mul_le_mul_of_nonneg_left f1 q3
    have m2 := Rat.mul_le_mul_of_nonneg_left f2 q3
    have m3 := Rat.mul_le_mul_of_nonneg_right q2 (show 0 ≤ dlt by grind)
    have m4 : q * (r - dlt) = r * q - q * dlt := by grind
    have m5 : q * (r + dlt) = r * q + q * dlt := by grind
    obtain ⟨fc, g1, g2⟩ := near9 rc (by grind) (by grind)
    exact ⟨fc, by grind, by grind⟩
  · rw [sv, Rat.mul_one] at rc
    obtain ⟨fc, g1, g2⟩ := near9 rc (by grind) (by grind)
    have m1 := Rat.mul_le_mul_of_nonneg_left (show 1 - dlt ≤ r by grind) q3
    have m3 := Rat.mul_le_mul_of_nonneg_right q2 (show 0 ≤ dlt by grind)
    have m4 : q * (1 - dlt) = q - q * dlt := by grind
    have m5 : q * r = r * q := Rat.mul_comm _ _
    exact ⟨fc, by grind, by grind⟩
end Go.Proofs.YtpbpkdhdjdaiiaaDoor
