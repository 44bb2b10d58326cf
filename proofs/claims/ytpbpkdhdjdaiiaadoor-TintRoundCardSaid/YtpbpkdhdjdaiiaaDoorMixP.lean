/- Numbers from 0 to 1, and the channel of a mixture: plain. -/
import Derived.Test.YtpbpkdhdjdaiiaaDoorFop
namespace Go.Proofs.YtpbpkdhdjdaiiaaDoor
open Go.RowKit Flt

/-! ### a number t as it counts: the program's, and the reference's -/
def unitW (t : Nat) : Nat := if (Ieee.double.order t 0 == some .gt) = true then (if (Ieee.double.order t 4607182418800017408 == some .lt) = true then t else 4607182418800017408) else 0
def unitR (t : Nat) : Nat := if (Ieee.double.order t t != some .eq) = true ∨ (Ieee.double.order t 0 == some .lt) = true then 0 else if (Ieee.double.order t 4607182418800017408 == some .gt) = true then 4607182418800017408 else t

theorem read_infin {x : Nat} (h : ¬ Fnt x) : (∃ s, Ieee.double.read x = .infinity s) ∨ ∃ s f, Ieee.double.read x = .nan s f := by
  unfold Ieee.Format.read
  rw [sw, bin, infr]
  unfold Fnt at h
  have c : ¬ x % 9223372036854775808 < 4503599627370496 := by omega
  simp only [c, h, if_false]
  by_cases d : x % 9223372036854775808 = 9218868437227405312
  · left; exact ⟨_, by rw [if_pos d]⟩
  · right; exact ⟨_, _, by rw [if_neg d]⟩

theorem order_gt {x y : Nat} (hx : Fnt x) (hy : Fnt y) : ((Ieee.double.order x y == some .gt) = true) ↔ val y < val x := by
  rw [beq_iff_eq]; exact (order_eq hx hy).2.2
theorem order_lt {x y : Nat} (hx : Fnt x) (hy : Fnt y) : ((Ieee.double.order x y == some .lt) = true) ↔ val x < val y := by
  rw [beq_iff_eq]; exact (order_eq hx hy).1
theorem order_same {x y : Nat} (hx : Fnt x) (hy : Fnt y) : ((Ieee.double.order x y == some .eq) = true) ↔ val x = val y := by
  rw [beq_iff_eq]; exact (order_eq hx hy).2.1

theorem read0 : Ieee.double.read 0 = .number false 0 (-1074) := by decide +kernel
theorem read1 : Ieee.double.read 4607182418800017408 = .number false 4503599627370496 (-52) := by decide +kernel

theorem units (t : Nat) : Fnt (unitW t) ∧ Fnt (unitR t) ∧ 0 ≤ val (unitW t) ∧ val (unitW t) ≤ 1 ∧ val (unitR t) = val (unitW t) := by
  by_cases h : Fnt t
  · have g := order_gt h fin0
    have l := order_lt h fin1
    have e := order_same h h
    have l0 := order_lt h fin0
    have g1 := order_gt h fin1
    rw [val0] at g l0
    rw [val1] at l g1
    have e' : ¬ (Ieee.double.order t t != some .eq) = true := by
      have : Ieee.double.order t t = some .eq := by have := e.2 rfl; simpa using this
      rw [this]; simp
    unfold unitW unitR
    by_cases c : 0 < val t
    · rw [if_pos (g.2 c)]
      have nl : ¬ val t < 0 := by grind
      have hno : ¬ ((Ieee.double.order t t != some .eq) = true ∨ (Ieee.double.order t 0 == some .lt) = true) := fun h => h.elim e' (fun h => nl (l0.1 h))
      rw [if_neg hno]
      by_cases d : val t < 1
      · rw [if_pos (l.2 d), if_neg (fun h => by have := g1.1 h; grind)]
        exact ⟨h, h, by grind, by grind, rfl⟩
      · rw [if_neg (fun h => d (l.1 h))]
        by_cases f : val t = 1
        · rw [if_neg (fun h => by have := g1.1 h; grind)]
          exact ⟨fin1, h, by rw [val1]; decide, by rw [val1]; decide, by rw [val1, f]⟩
        · rw [if_pos (g1.2 (by grind))]
          exact ⟨fin1, fin1, by rw [val1]; decide, by rw [val1]; decide, rfl⟩
    · rw [if_neg (fun h => c (g.1 h))]
      by_cases d : val t < 0
      · rw [if_pos (Or.inr (l0.2 d))]
        exact ⟨fin0, fin0, by rw [val0]; decide, by rw [val0]; decide, rfl⟩
      · have z : val t = 0 := by grind
        have hno : ¬ ((Ieee.double.order t t != some .eq) = true ∨ (Ieee.double.order t 0 == some .lt) = true) := fun h => h.elim e' (fun h => d (l0.1 h))
        rw [if_neg hno, if_neg (fun h => by have := g1.1 h; grind)]
        exact ⟨fin0, h, by rw [val0]; decide, by rw [val0]; decide, by rw [val0, z]⟩
  · rcases read_infin h with ⟨s, hr⟩ | ⟨s, f, hr⟩
    · have o0 : Ieee.double.order t 0 = some (if s then .lt else .gt) := by unfold Ieee.Format.order; rw [hr, read0]; rfl
      have o1 : Ieee.double.order t 4607182418800017408 = some (if s then .lt else .gt) := by unfold Ieee.Format.order; rw [hr, read1]; rfl
      have ot : Ieee.double.order t t = some .eq := by unfold Ieee.Format.order; rw [hr]; cases s <;> rfl
      unfold unitW unitR
      rw [o0, o1, ot]
      cases s
      · exact ⟨fin1, fin1, by show 0 ≤ val 4607182418800017408; rw [val1]; decide, by show val 4607182418800017408 ≤ 1; rw [val1]; decide, rfl⟩
      · exact ⟨fin0, fin0, by show 0 ≤ val 0; rw [val0]; decide, by show val 0 ≤ 1; rw [val0]; decide, rfl⟩
    · have o0 : Ieee.double.order t 0 = none := by unfold Ieee.Format.order; rw [hr]; rfl
      have o1 : Ieee.double.order t 4607182418800017408 = none := by unfold Ieee.Format.order; rw [hr]; rfl
      have ot : Ieee.double.order t t = none := by unfold Ieee.Format.order; rw [hr]; rfl
      unfold unitW unitR
      rw [o0, o1, ot]
      exact ⟨fin0, fin0, by show 0 ≤ val 0; rw [val0]; decide, by show val 0 ≤ 1; rw [val0]; decide, rfl⟩

/-! ### the channel of a mixture -/
theorem pow10 : (2:Rat)^(10:Int) = 1024 := by decide +kernel

/-- What a mixture's channel goes through. -/
structure MixOk (fx d u : Nat) (n : Int) : Prop where
  f1 : Fnt (fmul d u)
  f2 : Fnt (fadd fx (fmul d u))
  f3 : Fnt (fadd (fadd fx (fmul d u)) 4602678819172646912)
  v4 : val (ffloor (fadd (fadd fx (fmul d u)) 4602678819172646912)) = (n : Rat)
  f4 : Fnt (ffloor (fadd (fadd fx (fmul d u)) 4602678819172646912))

theorem int_rat (n : Int) (h : -9007199254740992 < n) (h' : n < 9007199254740992) : Rd (n:Rat) (floatOfInt .f64 n) ∧ Fnt (floatOfInt .f64 n) ∧ val (floatOfInt .f64 n) = (n:Rat) := ⟨int_rd n, f255_int n h h'⟩

theorem lit_m1000 : ((-1000:Int):Rat) = -1000 := by decide +kernel
theorem lit_1000 : ((1000:Int):Rat) = 1000 := by decide +kernel

/-- between two integers a rounded number stays -/
theorem rd_between {q : Rat} {x : Nat} (h : Rd q x) (a b : Int) (ha : -1000 ≤ a) (hb : b ≤ 1000) (h1 : (a:Rat) ≤ q) (h2 : q ≤ (b:Rat)) : Fnt x ∧ (a:Rat) ≤ val x ∧ val x ≤ (b:Rat) := by
  have ha' : (-1000:Rat) ≤ (a:Rat) := by rw [← lit_m1000]; exact Rat.intCast_le_intCast.2 ha
  have hb' : (b:Rat) ≤ (1000:Rat) := by rw [← lit_1000]; exact Rat.intCast_le_intCast.2 hb
  have hab : a ≤ b := by
    have : (a:Rat) ≤ (b:Rat) := by grind
    exact_mod_cast this
  have e := pow10
  obtain ⟨f, _, _⟩ := h.error 10 (by decide) (by decide) (by rw [e]; grind) (by rw [e]; grind)
  obtain ⟨ra, fa, va⟩ := int_rat a (by omega) (by omega)
  obtain ⟨rb, fb, vb⟩ := int_rat b (by omega) (by omega)
  refine ⟨f, ?_, ?_⟩
  · rw [← va]; exact ra.mono h fa f h1
  · rw [← vb]; exact h.mono rb f fb h2

theorem half_rep (a : Int) (ha : -1000 ≤ a) (hb : a ≤ 1000) {x : Nat} (h : Rd ((a:Rat) + 1/2) x) : Fnt x ∧ val x = (a:Rat) + 1/2 := by
  have e : (2:Rat)^(-1:Int) = 1/2 := by decide +kernel
  have lg : (2 * a + 1).natAbs.log2 ≤ 11 := by
    have e12 : 2 ^ 12 = 4096 := by decide
    have := (Nat.log2_lt (show (2 * a + 1).natAbs ≠ 0 by omega)).2 (show (2 * a + 1).natAbs < 2 ^ 12 by omega)
    omega
  refine h.rep (2 * a + 1).natAbs (-1) (by omega) (by decide) (by omega) ?_
  rw [e]
  by_cases c : 2 * a + 1 < 0
  · right
    have : ((2 * a + 1).natAbs : Int) = -(2 * a + 1) := by omega
    have e2 : ((((2 * a + 1).natAbs : Nat) : Int) : Rat) = ((-(2 * a + 1) : Int) : Rat) := by rw [this]
    have e3 : (((2 * a + 1).natAbs : Nat) : Rat) = -(2 * (a:Rat) + 1) := by
      have e4 : ((-(2 * a + 1) : Int) : Rat) = -(2 * (a:Rat) + 1) := by simp
      rw [← e4, ← e2]; rfl
    rw [e3]; grind
  · left
    have : ((2 * a + 1).natAbs : Int) = 2 * a + 1 := by omega
    have e2 : ((((2 * a + 1).natAbs : Nat) : Int) : Rat) = ((2 * a + 1 : Int) : Rat) := by rw [this]
    have e3 : (((2 * a + 1).natAbs : Nat) : Rat) = 2 * (a:Rat) + 1 := by
      have e4 : ((2 * a + 1 : Int) : Rat) = 2 * (a:Rat) + 1 := by simp
      rw [← e4, ← e2]; rfl
    rw [e3]; grind

theorem rd_half_between {q : Rat} {x : Nat} (h : Rd q x) (a b : Int) (ha : -1000 ≤ a) (hb : b ≤ 1000) (h1 : (a:Rat) + 1/2 ≤ q) (h2 : q ≤ (b:Rat) + 1/2) : Fnt x ∧ (a:Rat) + 1/2 ≤ val x ∧ val x ≤ (b:Rat) + 1/2 := by
  have ha' : (-1000:Rat) ≤ (a:Rat) := by rw [← lit_m1000]; exact Rat.intCast_le_intCast.2 ha
  have hb' : (b:Rat) ≤ (1000:Rat) := by rw [← lit_1000]; exact Rat.intCast_le_intCast.2 hb
  have hab : a ≤ b := by
    have : (a:Rat) ≤ (b:Rat) := by grind
    exact_mod_cast this
  have e := pow10
  obtain ⟨f, _, _⟩ := h.error 10 (by decide) (by decide) (by rw [e]; grind) (by rw [e]; grind)
  have ex : ∀ c : Int, -1000 ≤ c → c ≤ 1000 → ∃ y, Rd ((c:Rat) + 1/2) y ∧ Fnt y ∧ val y = (c:Rat) + 1/2 := by
    intro c hc hc'
    obtain ⟨_, fc, vc⟩ := int_rat c (by omega) (by omega)
    obtain ⟨_, r⟩ := fadd_some fc finH
    rw [vc, valH] at r
    exact ⟨_, r, half_rep c hc hc' r⟩
  obtain ⟨ya, ra, fa, va⟩ := ex a ha (by omega)
  obtain ⟨yb, rb, fb, vb⟩ := ex b (by omega) hb
  refine ⟨f, ?_, ?_⟩
  · rw [← va]; exact ra.mono h fa f h1
  · rw [← vb]; exact h.mono rb f fb h2

theorem mix_ok (fx d u : Nat) (x y : Int) (hx : 0 ≤ x) (hx' : x ≤ 255) (hy : 0 ≤ y) (hy' : y ≤ 255) (f1 : Fnt fx) (v1 : val fx = (x:Rat)) (f2 : Fnt d) (v2 : val d = ((y - x : Int):Rat)) (f3 : Fnt u) (u0 : 0 ≤ val u) (u1 : val u ≤ 1) :
    ∃ n : Int, MixOk fx d u n ∧ min x y ≤ n ∧ n ≤ max x y ∧ (val u = 0 → n = x) ∧ (val u = 1 → n = y) := by
  obtain ⟨_, r1⟩ := fmul_some f2 f3
  -- the step
  have s : ∃ lo hi : Int, lo ≤ 0 ∧ 0 ≤ hi ∧ lo = min 0 (y - x) ∧ hi = max 0 (y - x) := ⟨_, _, by omega, by omega, rfl, rfl⟩
  obtain ⟨lo, hi, l0, h0, el, eh⟩ := s
  have b1 : (lo:Rat) ≤ val d * val u ∧ val d * val u ≤ (hi:Rat) := by
    rw [v2]
    by_cases c : 0 ≤ y - x
    · have : lo = 0 := by omega
      have h2 : hi = y - x := by omega
      rw [this, h2]
      have c' : (0:Rat) ≤ ((y - x : Int):Rat) := by exact_mod_cast c
      have m1 := Rat.mul_nonneg c' u0
      have m2 := Rat.mul_le_mul_of_nonneg_left u1 c'
      exact ⟨by simpa using m1, by rw [Rat.mul_one] at m2; exact m2⟩
    · have : lo = y - x := by omega
      have h2 : hi = 0 := by omega
      rw [this, h2]
      have c' : ((y - x : Int):Rat) ≤ 0 := by exact_mod_cast (show y - x ≤ 0 by omega)
      have c'' : (0:Rat) ≤ -((y - x : Int):Rat) := by grind
      have m1 := Rat.mul_nonneg c'' u0
      have m2 := Rat.mul_le_mul_of_nonneg_left u1 c''
      have z : ((0:Int):Rat) = 0 := rfl
      rw [z]
      constructor <;> grind
  obtain ⟨g1, w1, w1'⟩ := rd_between r1 lo hi (by omega) (by omega) b1.1 b1.2
  obtain ⟨_, r2⟩ := fadd_some f1 g1
  have bx : ((x + lo : Int):Rat) = (x:Rat) + (lo:Rat) := by simp
  have bx' : ((x + hi : Int):Rat) = (x:Rat) + (hi:Rat) := by simp
  obtain ⟨g2, w2, w2'⟩ := rd_between r2 (x + lo) (x + hi) (by omega) (by omega) (by rw [v1, bx]; grind) (by rw [v1, bx']; grind)
  obtain ⟨_, r3⟩ := fadd_some g2 finH
  rw [valH] at r3
  obtain ⟨g3, w3, w3'⟩ := rd_half_between r3 (x + lo) (x + hi) (by omega) (by omega) (by grind) (by grind)
  obtain ⟨n, n1, n2, r4⟩ := ffloor_some g3
  have k1 : x + lo ≤ n := by
    have : ((x + lo : Int):Rat) < ((n + 1 : Int):Rat) := by
      have e : ((n + 1 : Int):Rat) = (n:Rat) + 1 := by simp
      rw [e]; grind
    have : x + lo < n + 1 := by exact_mod_cast this
    omega
  have k2 : n ≤ x + hi := by
    have : (n:Rat) < ((x + hi + 1 : Int):Rat) := by
      have e : ((x + hi + 1 : Int):Rat) = ((x + hi : Int):Rat) + 1 := by simp
      rw [e]; grind
    have : n < x + hi + 1 := by exact_mod_cast this
    omega
  obtain ⟨g4, w4⟩ := r4.int (by omega) (by omega)
  refine ⟨n, ⟨g1, g2, g3, w4, g4⟩, by omega, by omega, ?_, ?_⟩
  · intro u00
    have z : Rd ((0:Int):Rat) (fmul d u) := by have := r1; rw [u00, Rat.mul_zero] at this; exact this
    obtain ⟨_, z1⟩ := z.int (by decide) (by decide)
    have z0 : ((0:Int):Rat) = 0 := rfl
    have z2 : Rd ((x:Int):Rat) (fadd fx (fmul d u)) := by have := r2; rw [v1, z1, z0, Rat.add_zero] at this; exact this
    obtain ⟨_, z3⟩ := z2.int (by omega) (by omega)
    obtain ⟨_, z4, z5⟩ := rd_half_between r3 x x (by omega) (by omega) (by rw [z3]; grind) (by rw [z3]; grind)
    have a1 : (x:Rat) < ((n + 1 : Int):Rat) := by
      have e : ((n + 1 : Int):Rat) = (n:Rat) + 1 := by simp
      rw [e]; grind
    have a2 : (n:Rat) < ((x + 1 : Int):Rat) := by
      have e : ((x + 1 : Int):Rat) = (x:Rat) + 1 := by simp
      rw [e]; grind
    have a1' : x < n + 1 := by exact_mod_cast a1
    have a2' : n < x + 1 := by exact_mod_cast a2
    omega
  · intro u11
    have z : Rd ((y - x : Int):Rat) (fmul d u) := by have := r1; rw [u11, Rat.mul_one, v2] at this; exact this
    obtain ⟨_, z1⟩ := z.int (by omega) (by omega)
    have z2 : Rd ((y:Int):Rat) (fadd fx (fmul d u)) := by
      have := r2; rw [v1, z1] at this
      have e : (x:Rat) + ((y - x : Int):Rat) = (y:Rat) := by rw [Rat.intCast_sub]; grind
      rw [e] at this; exact this
    obtain ⟨_, z3⟩ := z2.int (by omega) (by omega)
    obtain ⟨_, z4, z5⟩ := rd_half_between r3 y y (by omega) (by omega) (by rw [z3]; grind) (by rw [z3]; grind)
    have a1 : (y:Rat) < ((n + 1 : Int):Rat) := by
      have e : ((n + 1 : Int):Rat) = (n:Rat) + 1 := by simp
      rw [e]; grind
    have a2 : (n:Rat) < ((y + 1 : Int):Rat) := by
      have e : ((y + 1 : Int):Rat) = (y:Rat) + 1 := by simp
      rw [e]; grind
    have a1' : y < n + 1 := by exact_mod_cast a1
    have a2' : n < y + 1 := by exact_mod_cast a2
    omega

/-- The channel depends on the values alone. -/
theorem mix_same {fx d u n fx' d' u' n'} (h : MixOk fx d u n) (h' : MixOk fx' d' u' n') (f1 : Fnt fx) (f1' : Fnt fx') (f2 : Fnt d) (f2' : Fnt d') (f3 : Fnt u) (f3' : Fnt u') (e1 : val fx = val fx') (e2 : val d = val d') (e3 : val u = val u') : n = n' := by
  have same : ∀ {q : Rat} {a b : Nat}, Rd q a → Rd q b → Fnt a → Fnt b → val a = val b := by
    intro q a b ha hb fa fb
    have m1 := ha.mono hb fa fb (by grind)
    have m2 := hb.mono ha fb fa (by grind)
    grind
  have r1 := (fmul_some f2 f3).2
  have r1' := (fmul_some f2' f3').2
  rw [← e2, ← e3] at r1'
  have v1 := same r1 r1' h.f1 h'.f1
  have r2 := (fadd_some f1 h.f1).2
  have r2' := (fadd_some f1' h'.f1).2
  rw [← e1, ← v1] at r2'
  have v2 := same r2 r2' h.f2 h'.f2
  have r3 := (fadd_some h.f2 finH).2
  have r3' := (fadd_some h'.f2 finH).2
  rw [← v2] at r3'
  have v3 := same r3 r3' h.f3 h'.f3
  obtain ⟨m, m1, m2, r4⟩ := ffloor_some h.f3
  obtain ⟨m', m1', m2', r4'⟩ := ffloor_some h'.f3
  have em : m = m' := by
    have a1 : (m:Rat) < ((m' + 1 : Int):Rat) := by
      have e : ((m' + 1 : Int):Rat) = (m':Rat) + 1 := by simp
      rw [e]; grind
    have a2 : (m':Rat) < ((m + 1 : Int):Rat) := by
      have e : ((m + 1 : Int):Rat) = (m:Rat) + 1 := by simp
      rw [e]; grind
    have a1' : m < m' + 1 := by exact_mod_cast a1
    have a2' : m' < m + 1 := by exact_mod_cast a2
    omega
  subst em
  have v4 := same r4 r4' h.f4 h'.f4
  rw [h.v4, h'.v4] at v4
  exact_mod_cast v4

/-- the channel of a mixture, named -/
def mixC (x y : Int) (u : Nat) : Int := ((Ieee.double.read (ffloor (fadd (fadd (floatOfInt .f64 x) (fmul (floatOfInt .f64 (y - x)) u)) 4602678819172646912))).toInt .zero).getD 0

theorem mix_any (fx d u u' : Nat) (x y : Int) (hx : 0 ≤ x) (hx' : x ≤ 255) (hy : 0 ≤ y) (hy' : y ≤ 255) (f1 : Fnt fx) (v1 : val fx = (x:Rat)) (f2 : Fnt d) (v2 : val d = ((y - x : Int):Rat)) (f3 : Fnt u) (f3' : Fnt u') (u0 : 0 ≤ val u) (u1 : val u ≤ 1) (ue : val u' = val u) :
    MixOk fx d u (mixC x y u') ∧ min x y ≤ mixC x y u' ∧ mixC x y u' ≤ max x y ∧ (val u = 0 → mixC x y u' = x) ∧ (val u = 1 → mixC x y u' = y) := by
  obtain ⟨n, h, a, b, c, e⟩ := mix_ok fx d u x y hx hx' hy hy' f1 v1 f2 v2 f3 u0 u1
  obtain ⟨_, g1, w1⟩ := int_rat x (by omega) (by omega)
  obtain ⟨_, g2, w2⟩ := int_rat (y - x) (by omega) (by omega)
  obtain ⟨n', h', _⟩ := mix_ok (floatOfInt .f64 x) (floatOfInt .f64 (y - x)) u' x y hx hx' hy hy' g1 w1 g2 w2 f3' (by rw [ue]; exact u0) (by rw [ue]; exact u1)
  have en : n = n' := mix_same h h' f1 g1 f2 g2 f3 f3' (by rw [v1, w1]) (by rw [v2, w2]) ue.symm
  have : mixC x y u' = n := by
    unfold mixC
    rw [toInt_of h'.f4 n' h'.v4, en]; rfl
  rw [this]
  exact ⟨h, a, b, c, e⟩

theorem to_int_val {x : Nat} {n : Int} (k : IntKind) (f : Fnt x) (v : val x = (n:Rat)) (h1 : k.min ≤ n) (h2 : n ≤ k.max) : floatToIntVal .f64 x k = some n := by
  unfold floatToIntVal
  have : (FloatKind.f64.decode x).toInt .zero = some n := toInt_of f n v
  rw [this]
  simp only [h1, h2, and_self, if_true]
end Go.Proofs.YtpbpkdhdjdaiiaaDoor
