/- The colour at an angle: plain. -/
import Derived.Test.YtpbpkdhdjdaiiaaDoorModP
import Derived.Test.YtpbpkdhdjdaiiaaDoorLight
namespace Go.Proofs.YtpbpkdhdjdaiiaaDoor
open Go.RowKit Flt

theorem fin360 : Fnt 4645040803167600640 := by unfold Fnt; decide +kernel
theorem val360 : val 4645040803167600640 = 360 := by decide +kernel
theorem nrm360 : Nrm 4645040803167600640 := ⟨by decide, by decide⟩
theorem fin60 : Fnt 4633641066610819072 := by unfold Fnt; decide +kernel
theorem val60 : val 4633641066610819072 = 60 := by decide +kernel
theorem fin2 : Fnt 4611686018427387904 := by unfold Fnt; decide +kernel
theorem val2 : val 4611686018427387904 = 2 := by decide +kernel
theorem nrm2 : Nrm 4611686018427387904 := ⟨by decide, by decide⟩
theorem fin3 : Fnt 4613937818241073152 := by unfold Fnt; decide +kernel
theorem val3 : val 4613937818241073152 = 3 := by decide +kernel
theorem fin4 : Fnt 4616189618054758400 := by unfold Fnt; decide +kernel
theorem val4 : val 4616189618054758400 = 4 := by decide +kernel

/-- Two words of one value. -/
structure Sv (a b : Nat) : Prop where
  l : Fnt a
  r : Fnt b
  e : val a = val b

theorem Sv.refl {a : Nat} (h : Fnt a) : Sv a a := ⟨h, h, rfl⟩

theorem sv_of {q : Rat} {x y : Nat} (hx : Rd q x) (hy : Rd q y) (lo hi : Int) (h1 : -1000 ≤ lo) (h2 : hi ≤ 1000) (a : (lo:Rat) ≤ q) (b : q ≤ (hi:Rat)) : Sv x y ∧ (lo:Rat) ≤ val x ∧ val x ≤ (hi:Rat) := by
  obtain ⟨f, c, d⟩ := rd_between hx lo hi h1 h2 a b
  obtain ⟨g, _, _⟩ := rd_between hy lo hi h1 h2 a b
  exact ⟨⟨f, g, Rd.uniq hx hy f g⟩, c, d⟩

theorem sv_add {a a' b b' : Nat} (ha : Sv a a') (hb : Sv b b') (lo hi : Int) (h1 : -1000 ≤ lo) (h2 : hi ≤ 1000) (c : (lo:Rat) ≤ val a + val b) (d : val a + val b ≤ (hi:Rat)) : Sv (fadd a b) (fadd a' b') ∧ (lo:Rat) ≤ val (fadd a b) ∧ val (fadd a b) ≤ (hi:Rat) := by
  have r := (fadd_some ha.l hb.l).2
  have r' := (fadd_some ha.r hb.r).2
  rw [← ha.e, ← hb.e] at r'
  exact sv_of r r' lo hi h1 h2 c d
theorem sv_sub {a a' b b' : Nat} (ha : Sv a a') (hb : Sv b b') (lo hi : Int) (h1 : -1000 ≤ lo) (h2 : hi ≤ 1000) (c : (lo:Rat) ≤ val a - val b) (d : val a - val b ≤ (hi:Rat)) : Sv (fsub a b) (fsub a' b') ∧ (lo:Rat) ≤ val (fsub a b) ∧ val (fsub a b) ≤ (hi:Rat) := by
  have r := (fsub_some ha.l hb.l).2
  have r' := (fsub_some ha.r hb.r).2
  rw [← ha.e, ← hb.e] at r'
  exact sv_of r r' lo hi h1 h2 c d
theorem sv_mul {a a' b b' : Nat} (ha : Sv a a') (hb : Sv b b') (lo hi : Int) (h1 : -1000 ≤ lo) (h2 : hi ≤ 1000) (c : (lo:Rat) ≤ val a * val b) (d : val a * val b ≤ (hi:Rat)) : Sv (fmul a b) (fmul a' b') ∧ (lo:Rat) ≤ val (fmul a b) ∧ val (fmul a b) ≤ (hi:Rat) := by
  have r := (fmul_some ha.l hb.l).2
  have r' := (fmul_some ha.r hb.r).2
  rw [← ha.e, ← hb.e] at r'
  exact sv_of r r' lo hi h1 h2 c d
theorem sv_div {a a' b b' : Nat} (ha : Sv a a') (hb : Sv b b') (n : val b ≠ 0) (lo hi : Int) (h1 : -1000 ≤ lo) (h2 : hi ≤ 1000) (c : (lo:Rat) ≤ val a / val b) (d : val a / val b ≤ (hi:Rat)) : Sv (fdiv a b) (fdiv a' b') ∧ (lo:Rat) ≤ val (fdiv a b) ∧ val (fdiv a b) ≤ (hi:Rat) := by
  have r := (fdiv_some ha.l hb.l n).2
  have r' := (fdiv_some ha.r hb.r (by rw [← hb.e]; exact n)).2
  rw [← ha.e, ← hb.e] at r'
  exact sv_of r r' lo hi h1 h2 c d

/-- without its sign: the program's, the reference's -/
def sizeW (x : Nat) : Nat := if val x < 0 then negW x else x
theorem abs_val {x : Nat} (h : Fnt x) : Fnt (x % 9223372036854775808) ∧ val (x % 9223372036854775808) = (if val x < 0 then - val x else val x) := by
  refine ⟨by unfold Fnt at *; omega, ?_⟩
  rw [pos_val (by omega)]
  have n := vr_nonneg (x % 9223372036854775808)
  rw [val_eq x]
  cases sgn x
  · simp only [sg, Bool.false_eq_true, if_false, Rat.one_mul]
    rw [if_neg (by grind)]
  · simp only [sg, if_true]
    by_cases c : -1 * vr (x % 9223372036854775808) < 0
    · rw [if_pos c]; grind
    · rw [if_neg c]; grind
theorem sv_abs {a a' : Nat} (h : Sv a a') (l : a' < 18446744073709551616) : Sv (a % 9223372036854775808) (sizeW a') := by
  obtain ⟨f, v⟩ := abs_val h.l
  unfold sizeW
  by_cases c : val a < 0
  · rw [if_pos (by rw [← h.e]; exact c)]
    obtain ⟨g, w, _⟩ := negW_val h.r l
    exact ⟨f, g, by rw [v, if_pos c, w, h.e]⟩
  · rw [if_neg (by rw [← h.e]; exact c)]
    exact ⟨f, h.r, by rw [v, if_neg c, h.e]⟩

/-- h as it counts -/
def ang1 (h : Nat) : Nat := modW h 4645040803167600640
def ang2 (h : Nat) : Nat := if val (ang1 h) < 0 then fadd (ang1 h) 4645040803167600640 else ang1 h
def angW (h : Nat) : Nat := if h % 9223372036854775808 < 9218868437227405312 then (if (360:Rat) ≤ val (ang2 h) then 0 else ang2 h) else 0

theorem ang_ok (h : Nat) (f : Fnt h) (l : h < 18446744073709551616) : Fnt (ang1 h) ∧ Fnt (ang2 h) ∧ -360 < val (ang1 h) ∧ val (ang1 h) < 360 ∧ 0 ≤ val (ang2 h) ∧ val (ang2 h) ≤ 360 := by
  obtain ⟨a, b, c, d, _, _⟩ := modW_ok h 4645040803167600640 f l nrm360
  rw [val360] at c d
  have e : ang1 h = modW h 4645040803167600640 := rfl
  rw [← e] at a b c d
  refine ⟨a, ?_⟩
  unfold ang2
  by_cases n : val (ang1 h) < 0
  · rw [if_pos n]
    have r := (fadd_some a fin360).2
    rw [val360] at r
    obtain ⟨g, x, y⟩ := rd_between r 0 360 (by decide) (by decide) (by show (0:Rat) ≤ _; grind) (by show _ ≤ (360:Rat); grind)
    exact ⟨g, c, d, x, y⟩
  · rw [if_neg n]
    exact ⟨a, c, d, by grind, by grind⟩

theorem angW_ok (h : Nat) (l : h < 18446744073709551616) : Fnt (angW h) ∧ 0 ≤ val (angW h) ∧ val (angW h) < 360 := by
  unfold angW
  by_cases f : h % 9223372036854775808 < 9218868437227405312
  · rw [if_pos f]
    obtain ⟨_, a, _, _, b, c⟩ := ang_ok h f l
    by_cases g : (360:Rat) ≤ val (ang2 h)
    · rw [if_pos g]; exact ⟨fin0, by rw [val0]; decide, by rw [val0]; decide⟩
    · rw [if_neg g]; exact ⟨a, b, by grind⟩
  · rw [if_neg f]; exact ⟨fin0, by rw [val0]; decide, by rw [val0]; decide⟩

/-- the numbers that a colour at an angle goes through: the program's words -/
def hC (s l : Nat) : Nat := fmul (fsub 4607182418800017408 (fsub (fmul 4611686018427387904 l) 4607182418800017408 % 9223372036854775808)) s
def hE (g : Nat) : Nat := fdiv g 4633641066610819072
def hX (c e : Nat) : Nat := fmul c (fsub 4607182418800017408 (fsub (modW e 4611686018427387904) 4607182418800017408 % 9223372036854775808))
def hM (l c : Nat) : Nat := fsub l (fdiv c 4611686018427387904)
def hV (v m : Nat) : Nat := ffloor (fadd (fmul (fadd v m) 4643176031446892544) 4602678819172646912)
/-- .. the reference's -/
def hC' (s l : Nat) : Nat := fmul (fsub 4607182418800017408 (sizeW (fsub (fmul 4611686018427387904 l) 4607182418800017408))) s
def hX' (c e : Nat) : Nat := fmul c (fsub 4607182418800017408 (sizeW (fsub (modW e 4611686018427387904) 4607182418800017408)))

theorem fsub_lt {x y : Nat} (hx : Fnt x) (hy : Fnt y) : fsub x y < 18446744073709551616 := (fsub_some hx hy).2.lt
theorem fdiv_lt {x y : Nat} (hx : Fnt x) (hy : Fnt y) (h : val y ≠ 0) : fdiv x y < 18446744073709551616 := (fdiv_some hx hy h).2.lt

theorem lit0 : ((0:Int):Rat) = 0 := rfl
theorem lit1 : ((1:Int):Rat) = 1 := rfl
theorem lit2 : ((2:Int):Rat) = 2 := by decide +kernel
theorem lit6 : ((6:Int):Rat) = 6 := by decide +kernel
theorem litm1 : ((-1:Int):Rat) = -1 := by decide +kernel

/-- |2l - 1|, |mod - 1| and their kin: 1 - |x - 1| of an x from 0 to 2. -/
structure Tent (x x' : Nat) : Prop where
  a : Sv (fsub x 4607182418800017408) (fsub x' 4607182418800017408)
  b : Sv (fsub x 4607182418800017408 % 9223372036854775808) (sizeW (fsub x' 4607182418800017408))
  c : Sv (fsub 4607182418800017408 (fsub x 4607182418800017408 % 9223372036854775808)) (fsub 4607182418800017408 (sizeW (fsub x' 4607182418800017408)))
  lo : 0 ≤ val (fsub 4607182418800017408 (fsub x 4607182418800017408 % 9223372036854775808))
  hi : val (fsub 4607182418800017408 (fsub x 4607182418800017408 % 9223372036854775808)) ≤ 1

theorem tent {x x' : Nat} (h : Sv x x') (a : 0 ≤ val x) (b : val x ≤ 2) : Tent x x' := by
  have one : Sv 4607182418800017408 4607182418800017408 := Sv.refl fin1
  obtain ⟨s1, l1, h1⟩ := sv_sub h one (-1) 1 (by decide) (by decide) (by rw [val1, litm1]; grind) (by rw [val1, lit1]; grind)
  rw [litm1] at l1
  rw [lit1] at h1
  have s2 := sv_abs s1 (fsub_lt h.r fin1)
  have v2 := (abs_val s1.l).2
  have r2 : 0 ≤ val (fsub x 4607182418800017408 % 9223372036854775808) ∧ val (fsub x 4607182418800017408 % 9223372036854775808) ≤ 1 := by
    rw [v2]; split <;> constructor <;> grind
  obtain ⟨s3, l3, h3⟩ := sv_sub one s2 0 1 (by decide) (by decide) (by rw [val1, lit0]; grind) (by rw [val1, lit1]; grind)
  exact ⟨s1, s2, s3, l3, h3⟩

/-- all that the walks of a colour at an angle lean on -/
structure HslOk (g s l s' l' : Nat) : Prop where
  t1 : Sv (fmul 4611686018427387904 l) (fmul 4611686018427387904 l')
  tl : Tent (fmul 4611686018427387904 l) (fmul 4611686018427387904 l')
  c : Sv (hC s l) (hC' s' l')
  e : Fnt (hE g)
  el : hE g < 18446744073709551616
  m2 : Fnt (modW (hE g) 4611686018427387904)
  te : Tent (modW (hE g) 4611686018427387904) (modW (hE g) 4611686018427387904)
  x : Sv (hX (hC s l) (hE g)) (hX' (hC' s' l') (hE g))
  d : Sv (fdiv (hC s l) 4611686018427387904) (fdiv (hC' s' l') 4611686018427387904)
  m : Sv (hM l (hC s l)) (hM l' (hC' s' l'))
  c0 : 0 ≤ val (hC s l)
  c1 : val (hC s l) ≤ 1
  x0 : 0 ≤ val (hX (hC s l) (hE g))
  x1 : val (hX (hC s l) (hE g)) ≤ 1
  m0 : -1 ≤ val (hM l (hC s l))
  m1 : val (hM l (hC s l)) ≤ 1
  e0 : 0 ≤ val (hE g)
  e1 : val (hE g) ≤ 6

theorem hsl_ok {g s l s' l' : Nat} (hg : Fnt g) (g0 : 0 ≤ val g) (g1 : val g < 360) (hs : Sv s s') (s0 : 0 ≤ val s) (s1 : val s ≤ 1) (hl : Sv l l') (l0 : 0 ≤ val l) (l1 : val l ≤ 1) : HslOk g s l s' l' := by
  have two : Sv 4611686018427387904 4611686018427387904 := Sv.refl fin2
  obtain ⟨a1, b1, c1⟩ := sv_mul two hl 0 2 (by decide) (by decide) (by rw [val2, lit0]; grind) (by rw [val2, lit2]; grind)
  rw [lit0] at b1
  rw [lit2] at c1
  have T := tent a1 b1 c1
  have p1 := Rat.mul_nonneg T.lo s0
  have p2 := Rat.mul_le_mul_of_nonneg_left s1 T.lo
  have th := T.hi
  obtain ⟨a2, b2, c2⟩ := sv_mul T.c hs 0 1 (by decide) (by decide) (by rw [lit0]; exact p1) (by rw [lit1]; grind)
  have n60 : val 4633641066610819072 ≠ 0 := by rw [val60]; decide
  have q : val g / 60 * 60 = val g := Rat.div_mul_cancel (by decide)
  obtain ⟨a3, b3, c3⟩ := sv_div (Sv.refl hg) (Sv.refl fin60) n60 0 6 (by decide) (by decide) (by rw [val60, lit0]; refine le_of_nn 60 (by decide) ?_; rw [q]; grind) (by rw [val60, lit6]; refine le_of_nn 60 (by decide) ?_; rw [q]; grind)
  have el : hE g < 18446744073709551616 := fdiv_lt hg fin60 n60
  obtain ⟨m1, m2, m3, m4, m5, _⟩ := modW_ok (hE g) 4611686018427387904 a3.l el nrm2
  rw [val2] at m4
  have m6 := m5 b3
  have T2 := tent (Sv.refl m1) m6 (by grind)
  have p3 := Rat.mul_nonneg b2 T2.lo
  have p4 := Rat.mul_le_mul_of_nonneg_left T2.hi b2
  rw [lit0] at b2
  rw [lit1] at c2
  obtain ⟨a4, b4, c4⟩ := sv_mul a2 T2.c 0 1 (by decide) (by decide) (by rw [lit0]; exact p3) (by rw [lit1]; grind)
  have n2 : val 4611686018427387904 ≠ 0 := by rw [val2]; decide
  have q2 : ∀ z : Rat, z / 2 * 2 = z := fun z => Rat.div_mul_cancel (by decide)
  have q3 := q2 (val (hC s l))
  obtain ⟨a5, b5, c5⟩ := sv_div a2 two n2 0 1 (by decide) (by decide) (by rw [val2, lit0]; refine le_of_nn 2 (by decide) ?_; rw [q2]; grind) (by rw [val2, lit1]; refine le_of_nn 2 (by decide) ?_; rw [q2]; grind)
  rw [lit0] at b5
  rw [lit1] at c5
  obtain ⟨a6, b6, c6⟩ := sv_sub hl a5 (-1) 1 (by decide) (by decide) (by rw [litm1]; grind) (by rw [lit1]; grind)
  rw [litm1] at b6
  exact ⟨a1, T, a2, a3.l, el, m1, T2, a4, a5, a6, b2, c2, b4, c4, b6, c6, b3, by rw [← lit6]; exact c3⟩

/-- a channel of it -/
structure LevOk (v m v' m' : Nat) (n : Int) : Prop where
  a : Sv (fadd v m) (fadd v' m')
  b : Sv (fmul (fadd v m) 4643176031446892544) (fmul (fadd v' m') 4643176031446892544)
  c : Sv (fadd (fmul (fadd v m) 4643176031446892544) 4602678819172646912) (fadd (fmul (fadd v' m') 4643176031446892544) 4602678819172646912)
  f : Fnt (hV v m)
  f' : Fnt (hV v' m')
  v : val (hV v m) = (n:Rat)
  v' : val (hV v' m') = (n:Rat)
  lo : -1000 ≤ n
  hi : n ≤ 1000

theorem lev_ok {v m v' m' : Nat} (hv : Sv v v') (hm : Sv m m') (v0 : 0 ≤ val v) (v1 : val v ≤ 1) (m0 : -1 ≤ val m) (m1 : val m ≤ 1) : ∃ n, LevOk v m v' m' n := by
  have one := lit1
  obtain ⟨a1, b1, c1⟩ := sv_add hv hm (-1) 2 (by decide) (by decide) (by rw [litm1]; grind) (by rw [lit2]; grind)
  rw [litm1] at b1
  rw [lit2] at c1
  have l255 : ((-255:Int):Rat) = -255 := by decide +kernel
  have l510 : ((510:Int):Rat) = 510 := by decide +kernel
  have l600 : ((600:Int):Rat) = 600 := by decide +kernel
  have l300 : ((-300:Int):Rat) = -300 := by decide +kernel
  obtain ⟨a2, b2, c2⟩ := sv_mul a1 (Sv.refl fin255) (-255) 510 (by decide) (by decide) (by rw [val255, l255]; grind) (by rw [val255, l510]; grind)
  rw [l255] at b2
  rw [l510] at c2
  obtain ⟨a3, b3, c3⟩ := sv_add a2 (Sv.refl finH) (-300) 600 (by decide) (by decide) (by rw [valH, l300]; grind) (by rw [valH, l600]; grind)
  rw [l300] at b3
  rw [l600] at c3
  obtain ⟨n, n1, n2, r⟩ := ffloor_some a3.l
  obtain ⟨n', n1', n2', r'⟩ := ffloor_some a3.r
  have en : n = n' := by
    have e3 := a3.e
    have x1 : (n:Rat) < ((n' + 1 : Int):Rat) := by
      have e : ((n' + 1 : Int):Rat) = (n':Rat) + 1 := by simp
      rw [e]; grind
    have x2 : (n':Rat) < ((n + 1 : Int):Rat) := by
      have e : ((n + 1 : Int):Rat) = (n:Rat) + 1 := by simp
      rw [e]; grind
    have y1 : n < n' + 1 := by exact_mod_cast x1
    have y2 : n' < n + 1 := by exact_mod_cast x2
    omega
  subst en
  have lo : -301 ≤ n := by
    have x1 : ((-301 : Int):Rat) < ((n + 1 : Int):Rat) := by
      have e : ((n + 1 : Int):Rat) = (n:Rat) + 1 := by simp
      have l : ((-301:Int):Rat) = -301 := by decide +kernel
      rw [e, l]; grind
    have := Rat.intCast_lt_intCast.1 x1
    omega
  have hi : n ≤ 600 := by
    have x1 : (n:Rat) ≤ ((600 : Int):Rat) := by rw [l600]; grind
    exact Rat.intCast_le_intCast.1 x1
  obtain ⟨f, w⟩ := r.int (by omega) (by omega)
  obtain ⟨f', w'⟩ := r'.int (by omega) (by omega)
  exact ⟨n, a1, a2, a3, f, f', w, w', by omega, by omega⟩

/-- the channel, named -/
def levC (v m : Nat) : Int := max 0 (min 255 (((Ieee.double.read (hV v m)).toInt .zero).getD 0))
theorem levC_of {v m v' m' : Nat} {n : Int} (h : LevOk v m v' m' n) : levC v m = max 0 (min 255 n) := by
  unfold levC
  rw [toInt_of h.f n h.v]; rfl
theorem levC_range (v m : Nat) : 0 ≤ levC v m ∧ levC v m ≤ 255 := by unfold levC; omega

def pick6 (k : Int) (a b c : Int) : Int × Int × Int := if k = 0 then (a, b, c) else if k = 1 then (b, a, c) else if k = 2 then (c, a, b) else if k = 3 then (c, b, a) else if k = 4 then (b, c, a) else (a, c, b)
/-- floor(e) -/
def flE (e : Nat) : Int := ((Ieee.double.read (ffloor e)).toInt .zero).getD 0
theorem flE_ok {e : Nat} (f : Fnt e) (e0 : 0 ≤ val e) (e1 : val e ≤ 6) : Fnt (ffloor e) ∧ val (ffloor e) = ((flE e : Int):Rat) ∧ 0 ≤ flE e ∧ flE e ≤ 6 ∧ ((flE e : Int):Rat) ≤ val e ∧ val e < ((flE e : Int):Rat) + 1 := by
  obtain ⟨n, n1, n2, r⟩ := ffloor_some f
  have l6 : ((6:Int):Rat) = 6 := by decide +kernel
  have lo : 0 ≤ n := by
    have x1 : ((0 : Int):Rat) < ((n + 1 : Int):Rat) := by
      have e : ((n + 1 : Int):Rat) = (n:Rat) + 1 := by simp
      rw [e, lit0]; grind
    have := Rat.intCast_lt_intCast.1 x1
    omega
  have hi : n ≤ 6 := by
    have x1 : (n:Rat) ≤ ((6 : Int):Rat) := by rw [l6]; grind
    exact Rat.intCast_le_intCast.1 x1
  obtain ⟨g, w⟩ := r.int (by omega) (by omega)
  have en : flE e = n := by unfold flE; rw [toInt_of g n w]; rfl
  rw [en]
  exact ⟨g, w, lo, hi, n1, n2⟩

/-- the colour -/
def hslV (h s l : Nat) : Int :=
  16777216 + 65536 * (pick6 (flE (hE (angW h))) (levC (hC (unitW s) (unitW l)) (hM (unitW l) (hC (unitW s) (unitW l)))) (levC (hX (hC (unitW s) (unitW l)) (hE (angW h))) (hM (unitW l) (hC (unitW s) (unitW l)))) (levC 0 (hM (unitW l) (hC (unitW s) (unitW l))))).1
  + 256 * (pick6 (flE (hE (angW h))) (levC (hC (unitW s) (unitW l)) (hM (unitW l) (hC (unitW s) (unitW l)))) (levC (hX (hC (unitW s) (unitW l)) (hE (angW h))) (hM (unitW l) (hC (unitW s) (unitW l)))) (levC 0 (hM (unitW l) (hC (unitW s) (unitW l))))).2.1
  + (pick6 (flE (hE (angW h))) (levC (hC (unitW s) (unitW l)) (hM (unitW l) (hC (unitW s) (unitW l)))) (levC (hX (hC (unitW s) (unitW l)) (hE (angW h))) (hM (unitW l) (hC (unitW s) (unitW l)))) (levC 0 (hM (unitW l) (hC (unitW s) (unitW l))))).2.2
end Go.Proofs.YtpbpkdhdjdaiiaaDoor
