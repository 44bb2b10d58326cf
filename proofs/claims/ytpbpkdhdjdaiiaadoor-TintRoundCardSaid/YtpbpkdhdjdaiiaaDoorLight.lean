/- How light a colour is; contrast: plain, and the walks of the program's and the reference's. -/
import Derived.Test.YtpbpkdhdjdaiiaaDoorMixX
namespace Go.Proofs.YtpbpkdhdjdaiiaaDoor
open Go.RowKit Flt

theorem Rd.uniq {q : Rat} {a b : Nat} (ha : Rd q a) (hb : Rd q b) (fa : Fnt a) (fb : Fnt b) : val a = val b := by
  have m1 := ha.mono hb fa fb (by grind)
  have m2 := hb.mono ha fb fa (by grind)
  grind

/-- between two words' values a rounded number stays -/
theorem Rd.within {q : Rat} {x : Nat} (h : Rd q x) (j : Int) (hj : -1021 ≤ j) (hj' : j ≤ 1022) {a b : Nat} (fa : Fnt a) (fb : Fnt b) (ba : a < 18446744073709551616) (bb : b < 18446744073709551616) (h1 : val a ≤ q) (h2 : q ≤ val b) (b1 : -(2:Rat)^j ≤ val a) (b2 : val b ≤ (2:Rat)^j) : Fnt x ∧ val a ≤ val x ∧ val x ≤ val b := by
  obtain ⟨f, _, _⟩ := h.error j hj hj' (by grind) (by grind)
  exact ⟨f, (Rd.self fa ba).mono h fa f h1, h.mono (Rd.self fb bb) f fb h2⟩

theorem finK1 : Fnt 4596827742536767164 := by unfold Fnt; decide +kernel
theorem finK2 : Fnt 4604617168452267173 := by unfold Fnt; decide +kernel
theorem finK3 : Fnt 4589866978952703325 := by unfold Fnt; decide +kernel
theorem finK4 : Fnt 4587366580439587226 := by unfold Fnt; decide +kernel
theorem posK1 : 0 ≤ val 4596827742536767164 ∧ val 4596827742536767164 ≤ 1/4 := by decide +kernel
theorem posK2 : 0 ≤ val 4604617168452267173 ∧ val 4604617168452267173 ≤ 3/4 := by decide +kernel
theorem posK3 : 0 ≤ val 4589866978952703325 ∧ val 4589866978952703325 ≤ 1/4 := by decide +kernel
theorem posK4 : 1/100 ≤ val 4587366580439587226 ∧ val 4587366580439587226 ≤ 1/10 := by decide +kernel

def sqW (n : Int) : Nat := fmul (fdiv (floatOfInt .f64 n) 4643176031446892544) (fdiv (floatOfInt .f64 n) 4643176031446892544)
def lum (r g b : Int) : Nat := fadd (fadd (fmul 4596827742536767164 (sqW r)) (fmul 4604617168452267173 (sqW g))) (fmul 4589866978952703325 (sqW b))
def lightW (c : Int) : Nat := if hasC c = true then lum (chR c) (chG c) (chB c) else 0

/-- A channel over 255. -/
theorem over_ok (n : Int) (h0 : 0 ≤ n) (h1 : n ≤ 255) : Fnt (floatOfInt .f64 n) ∧ Fnt (fdiv (floatOfInt .f64 n) 4643176031446892544) ∧ 0 ≤ val (fdiv (floatOfInt .f64 n) 4643176031446892544) ∧ val (fdiv (floatOfInt .f64 n) 4643176031446892544) ≤ 1 ∧ Rd ((n:Rat) / 255) (fdiv (floatOfInt .f64 n) 4643176031446892544) := by
  obtain ⟨_, g1, v1⟩ := int_rat n (by omega) (by omega)
  obtain ⟨_, r⟩ := fdiv_some g1 fin255 ne255
  rw [v1, val255] at r
  have n0 : (0:Rat) ≤ (n:Rat) := by exact_mod_cast h0
  have n1 : (n:Rat) ≤ 255 := by
    have : ((255:Int):Rat) = 255 := by decide +kernel
    rw [← this]; exact Rat.intCast_le_intCast.2 h1
  obtain ⟨f, a, b⟩ := rd_between r 0 1 (by decide) (by decide) (by show (0:Rat) ≤ _; grind) (by show _ ≤ (1:Rat); grind)
  exact ⟨g1, f, a, b, r⟩

theorem sq_ok (n : Int) (h0 : 0 ≤ n) (h1 : n ≤ 255) : Fnt (sqW n) ∧ 0 ≤ val (sqW n) ∧ val (sqW n) ≤ 1 := by
  obtain ⟨_, f, a, b, _⟩ := over_ok n h0 h1
  obtain ⟨_, r⟩ := fmul_some f f
  have m0 := Rat.mul_nonneg a a
  have m1 := Rat.mul_le_mul_of_nonneg_left b a
  rw [Rat.mul_one] at m1
  obtain ⟨g, c, d⟩ := rd_between r 0 1 (by decide) (by decide) (by show (0:Rat) ≤ _; exact m0) (by show _ ≤ (1:Rat); grind)
  exact ⟨g, c, d⟩

theorem part_ok (k n : Nat) (fk : Fnt k) (k0 : 0 ≤ val k) (k1 : val k ≤ 1) (f : Fnt n) (a : 0 ≤ val n) (b : val n ≤ 1) : Fnt (fmul k n) ∧ 0 ≤ val (fmul k n) ∧ val (fmul k n) ≤ 1 := by
  obtain ⟨_, r⟩ := fmul_some fk f
  have m0 := Rat.mul_nonneg k0 a
  have m1 := Rat.mul_le_mul_of_nonneg_left b k0
  rw [Rat.mul_one] at m1
  obtain ⟨g, c, d⟩ := rd_between r 0 1 (by decide) (by decide) (by show (0:Rat) ≤ _; exact m0) (by show _ ≤ (1:Rat); grind)
  exact ⟨g, c, d⟩

structure LumOk (r g b : Int) : Prop where
  fr : Fnt (sqW r)
  fg : Fnt (sqW g)
  fb : Fnt (sqW b)
  kr : Fnt (fmul 4596827742536767164 (sqW r))
  kg : Fnt (fmul 4604617168452267173 (sqW g))
  kb : Fnt (fmul 4589866978952703325 (sqW b))
  fs : Fnt (fadd (fmul 4596827742536767164 (sqW r)) (fmul 4604617168452267173 (sqW g)))
  ff : Fnt (lum r g b)
  lo : 0 ≤ val (lum r g b)
  hi : val (lum r g b) ≤ 3

theorem lum_ok (r g b : Int) (hr : 0 ≤ r ∧ r ≤ 255) (hg : 0 ≤ g ∧ g ≤ 255) (hb : 0 ≤ b ∧ b ≤ 255) : LumOk r g b := by
  obtain ⟨f1, a1, b1⟩ := sq_ok r hr.1 hr.2
  obtain ⟨f2, a2, b2⟩ := sq_ok g hg.1 hg.2
  obtain ⟨f3, a3, b3⟩ := sq_ok b hb.1 hb.2
  have k1 := posK1; have k2 := posK2; have k3 := posK3
  obtain ⟨g1, c1, d1⟩ := part_ok _ _ finK1 k1.1 (by grind) f1 a1 b1
  obtain ⟨g2, c2, d2⟩ := part_ok _ _ finK2 k2.1 (by grind) f2 a2 b2
  obtain ⟨g3, c3, d3⟩ := part_ok _ _ finK3 k3.1 (by grind) f3 a3 b3
  obtain ⟨_, s1⟩ := fadd_some g1 g2
  obtain ⟨g4, c4, d4⟩ := rd_between s1 0 2 (by decide) (by decide) (by show (0:Rat) ≤ _; grind) (by show _ ≤ (2:Rat); grind)
  obtain ⟨_, s2⟩ := fadd_some g4 g3
  obtain ⟨g5, c5, d5⟩ := rd_between s2 0 3 (by decide) (by decide) (by show (0:Rat) ≤ _; have : ((0:Int):Rat) = 0 := rfl; grind) (by show _ ≤ (3:Rat); have : ((2:Int):Rat) = 2 := rfl; grind)
  exact ⟨f1, f2, f3, g1, g2, g3, g4, g5, c5, d5⟩

theorem light_ok (c : Int) : Fnt (lightW c) ∧ 0 ≤ val (lightW c) ∧ val (lightW c) ≤ 3 := by
  unfold lightW
  obtain ⟨r, g, b⟩ := ch_range c
  split
  · have := lum_ok _ _ _ r g b; exact ⟨this.ff, this.lo, this.hi⟩
  · exact ⟨fin0, by rw [val0]; decide, by rw [val0]; decide⟩

set_option maxHeartbeats 1000000 in
theorem tint_Light (c : Int) : Gives 17 #[.int .i32 c] (.float .f64 (lightW c)) := by
  intro w
  obtain ⟨⟨r0, r1⟩, ⟨g0, g1⟩, ⟨b0, b1⟩⟩ := ch_range c
  by_cases h : hasC c = true
  · have H : Hid (lightW c = lum (chR c) (chG c) (chB c)) := by unfold Hid lightW; rw [if_pos h]
    obtain ⟨x1, x2, x3, x4, x5, x6, x7, _, _, _⟩ := lum_ok _ _ _ ⟨r0, r1⟩ ⟨g0, g1⟩ ⟨b0, b1⟩
    obtain ⟨y1, z1, _⟩ := over_ok _ r0 r1
    obtain ⟨y2, z2, _⟩ := over_ok _ g0 g1
    obtain ⟨y3, z3, _⟩ := over_ok _ b0 b1
    have k1 := finK1; have k2 := finK2; have k3 := finK3; have f255 := fin255; have n255 := ne255
    unfold sqW at x1 x2 x3 x4 x5 x6 x7
    go_enter Tryd.func17, Tryd.ntmps17
    go_wp2_with fail
    refine (tint_RGB _ _).mono ?_; rw [h]; rintro e w1 ⟨rfl, hb1⟩
    obtain ⟨hcl1, hfz1, hz1⟩ := bcell hb1
    go_wp2_with fail
    refine wp_loop_rounds 4 ?_
    rw [rounds_succ]
    go_wp2_with fail
    rw [rounds_succ]
    go_wp2_with fail
    rw [rounds_succ]
    go_wp2_with fail
    rw [rounds_succ]
    go_wp2_with fail
    go_ret
    exact ⟨ret_float (by rw [H.out]; rfl), by repeat (first | exact hb1 | refine below_drewN ?_ _ | refine Below.alloc ?_ (by go_size) _ | refine Below.setCell ?_ (by go_size) _)⟩
  · have h' : hasC c = false := by simpa using h
    have H : Hid (lightW c = 0) := by unfold Hid lightW; rw [if_neg h]
    clear h
    go_enter Tryd.func17, Tryd.ntmps17
    go_wp2_with fail
    refine (tint_RGB _ _).mono ?_; rw [h']; rintro e w1 ⟨rfl, hb1⟩
    have hz1 := hb1.size
    go_wp2_with fail
    go_ret
    exact ⟨ret_float (by rw [H.out]), hb1.alloc hz1 _⟩

theorem ref_square (n : Int) (h0 : 0 ≤ n) (h1 : n ≤ 255) : Tells 51 #[.int .i64 n] (.float .f64 (sqW n)) := by
  intro w
  obtain ⟨y1, z1, _⟩ := over_ok _ h0 h1
  have f255 := fin255; have n255 := ne255
  go_enter Tryd.func51, Tryd.ntmps51
  go_wp2
  go_ret
  exact ⟨rfl, rfl⟩

set_option maxHeartbeats 1000000 in
theorem ref_Light (c : Int) (hl : -2147483648 ≤ c) (hh : c ≤ 2147483647) : Gives 18 #[.int .i32 c] (.float .f64 (lightW c)) := by
  intro w
  obtain ⟨⟨r0, r1⟩, ⟨g0, g1⟩, ⟨b0, b1⟩⟩ := ch_range c
  by_cases h : hasC c = true
  · have H : Hid (lightW c = lum (chR c) (chG c) (chB c)) := by unfold Hid lightW; rw [if_pos h]
    obtain ⟨x1, x2, x3, x4, x5, x6, x7, _, _, _⟩ := lum_ok _ _ _ ⟨r0, r1⟩ ⟨g0, g1⟩ ⟨b0, b1⟩
    have k1 := finK1; have k2 := finK2; have k3 := finK3
    go_enter Tryd.func18, Tryd.ntmps18
    go_wp2_with fail
    refine (ref_RGB _ hl hh _).mono ?_; rw [h]; rintro e w1 ⟨rfl, hb1⟩
    obtain ⟨hcl1, hfz1, hz1⟩ := bcell hb1
    go_wp2_with (go_at_call 51; refine (ref_square _ (by assumption) (by assumption) _).mono ?_; rintro e w' ⟨rfl, rfl⟩)
    go_ret
    exact ⟨ret_float (by rw [H.out]; rfl), by repeat (first | exact hb1 | refine below_drewN ?_ _ | refine Below.alloc ?_ (by go_size) _ | refine Below.setCell ?_ (by go_size) _)⟩
  · have h' : hasC c = false := by simpa using h
    have H : Hid (lightW c = 0) := by unfold Hid lightW; rw [if_neg h]
    clear h
    go_enter Tryd.func18, Tryd.ntmps18
    go_wp2_with fail
    refine (ref_RGB _ hl hh _).mono ?_; rw [h']; rintro e w1 ⟨rfl, hb1⟩
    have hz1 := hb1.size
    go_wp2_with fail
    go_ret
    exact ⟨ret_float (by rw [H.out]), hb1.alloc hz1 _⟩

/-! ### contrast -/
def contW (x y : Nat) : Nat := fdiv (fadd x 4587366580439587226) (fadd y 4587366580439587226)
def contT (a b : Int) : Nat := contW (fmaxW (lightW a) (lightW b)) (fminW (lightW a) (lightW b))
def contR (a b : Int) : Nat := if val (lightW a) < val (lightW b) then contW (lightW b) (lightW a) else contW (lightW a) (lightW b)

theorem plus_ok (x : Nat) (f : Fnt x) (a : 0 ≤ val x) (b : val x ≤ 3) : Fnt (fadd x 4587366580439587226) ∧ 1/128 ≤ val (fadd x 4587366580439587226) ∧ val (fadd x 4587366580439587226) ≤ 4 ∧ Rd (val x + val 4587366580439587226) (fadd x 4587366580439587226) := by
  obtain ⟨_, r⟩ := fadd_some f finK4
  have k := posK4
  obtain ⟨g, _, d⟩ := rd_between r 0 4 (by decide) (by decide) (by show (0:Rat) ≤ _; grind) (by show _ ≤ (4:Rat); grind)
  refine ⟨g, ?_, d, r⟩
  have e : val 4575657221408423936 = 1/128 := by decide +kernel
  have fe : Fnt 4575657221408423936 := by unfold Fnt; decide +kernel
  rw [← e]
  exact (Rd.self fe (by decide)).mono r fe g (by rw [e]; grind)

theorem cont_ok (x y : Nat) (fx : Fnt x) (fy : Fnt y) (a : 0 ≤ val x) (b : val x ≤ 3) (a' : 0 ≤ val y) (b' : val y ≤ 3) : Fnt (fadd x 4587366580439587226) ∧ Fnt (fadd y 4587366580439587226) ∧ val (fadd y 4587366580439587226) ≠ 0 ∧ Fnt (contW x y) ∧ Rd (val (fadd x 4587366580439587226) / val (fadd y 4587366580439587226)) (contW x y) := by
  obtain ⟨g1, l1, h1, _⟩ := plus_ok x fx a b
  obtain ⟨g2, l2, h2, _⟩ := plus_ok y fy a' b'
  have ne : val (fadd y 4587366580439587226) ≠ 0 := by grind
  obtain ⟨_, r⟩ := fdiv_some g1 g2 ne
  refine ⟨g1, g2, ne, ?_, r⟩
  have pos : (0:Rat) < val (fadd y 4587366580439587226) := by grind
  have e : (2:Rat)^(10:Int) = 1024 := pow10
  have q1 : val (fadd x 4587366580439587226) / val (fadd y 4587366580439587226) * val (fadd y 4587366580439587226) = val (fadd x 4587366580439587226) := Rat.div_mul_cancel ne
  have u : val (fadd x 4587366580439587226) / val (fadd y 4587366580439587226) ≤ 1024 := by
    refine le_of_nn _ pos ?_
    rw [q1]; grind
  have l : -1024 ≤ val (fadd x 4587366580439587226) / val (fadd y 4587366580439587226) := by
    refine le_of_nn _ pos ?_
    rw [q1]; grind
  exact (r.error 10 (by decide) (by decide) (by rw [e]; exact l) (by rw [e]; exact u)).1

theorem cont_same (x y x' y' : Nat) (fx : Fnt x) (fy : Fnt y) (a : 0 ≤ val x) (b : val x ≤ 3) (a' : 0 ≤ val y) (b' : val y ≤ 3) (fx' : Fnt x') (fy' : Fnt y') (ex : val x = val x') (ey : val y = val y') : val (contW x y) = val (contW x' y') := by
  obtain ⟨g1, g2, _, g3, r⟩ := cont_ok x y fx fy a b a' b'
  obtain ⟨k1, k2, _, k3, s⟩ := cont_ok x' y' fx' fy' (by rw [← ex]; exact a) (by rw [← ex]; exact b) (by rw [← ey]; exact a') (by rw [← ey]; exact b')
  have rx := (fadd_some fx finK4).2
  have rx' := (fadd_some fx' finK4).2
  have ry := (fadd_some fy finK4).2
  have ry' := (fadd_some fy' finK4).2
  rw [← ex] at rx'
  rw [← ey] at ry'
  have e1 := Rd.uniq rx rx' g1 k1
  have e2 := Rd.uniq ry ry' g2 k2
  rw [← e1, ← e2] at s
  exact Rd.uniq r s g3 k3

theorem cont_eq (a b : Int) : Fnt (contT a b) ∧ Fnt (contR a b) ∧ val (contT a b) = val (contR a b) := by
  obtain ⟨f1, l1, h1⟩ := light_ok a
  obtain ⟨f2, l2, h2⟩ := light_ok b
  obtain ⟨p1, p2, p3, p4⟩ := fmax_val f1 f2
  obtain ⟨q1, q2, q3, q4⟩ := fmin_val f1 f2
  have mx : val (fmaxW (lightW a) (lightW b)) = val (lightW a) ∨ val (fmaxW (lightW a) (lightW b)) = val (lightW b) := by rcases p2 with h | h <;> rw [h] <;> simp
  have mn : val (fminW (lightW a) (lightW b)) = val (lightW a) ∨ val (fminW (lightW a) (lightW b)) = val (lightW b) := by rcases q2 with h | h <;> rw [h] <;> simp
  unfold contT contR
  by_cases c : val (lightW a) < val (lightW b)
  · rw [if_pos c]
    exact ⟨(cont_ok _ _ p1 q1 (by grind) (by grind) (by grind) (by grind)).2.2.2.1, (cont_ok _ _ f2 f1 l2 h2 l1 h1).2.2.2.1, cont_same _ _ _ _ p1 q1 (by grind) (by grind) (by grind) (by grind) f2 f1 (by grind) (by grind)⟩
  · rw [if_neg c]
    exact ⟨(cont_ok _ _ p1 q1 (by grind) (by grind) (by grind) (by grind)).2.2.2.1, (cont_ok _ _ f1 f2 l1 h1 l2 h2).2.2.2.1, cont_same _ _ _ _ p1 q1 (by grind) (by grind) (by grind) (by grind) f1 f2 (by grind) (by grind)⟩

theorem tint_Contrast (a b : Int) : Gives 33 #[.int .i32 a, .int .i32 b] (.float .f64 (contT a b)) := by
  intro w
  obtain ⟨f1, l1, h1⟩ := light_ok a
  obtain ⟨f2, l2, h2⟩ := light_ok b
  obtain ⟨p1, p2, p3, p4⟩ := fmax_val f1 f2
  obtain ⟨q1, q2, q3, q4⟩ := fmin_val f1 f2
  have mx : 0 ≤ val (fmaxW (lightW a) (lightW b)) ∧ val (fmaxW (lightW a) (lightW b)) ≤ 3 := by rcases p2 with h | h <;> rw [h] <;> constructor <;> assumption
  have mn : 0 ≤ val (fminW (lightW a) (lightW b)) ∧ val (fminW (lightW a) (lightW b)) ≤ 3 := by rcases q2 with h | h <;> rw [h] <;> constructor <;> assumption
  obtain ⟨c1, c2, c3, _, _⟩ := cont_ok _ _ p1 q1 mx.1 mx.2 mn.1 mn.2
  have o := order_some f1 f2
  have k4 := finK4
  have H : Hid (contT a b = fdiv (fadd (fmaxW (lightW a) (lightW b)) 4587366580439587226) (fadd (fminW (lightW a) (lightW b)) 4587366580439587226)) := rfl
  clear l1 h1 l2 h2 p2 p3 p4 q2 q3 q4 mx mn
  go_enter Tryd.func33, Tryd.ntmps33
  go_wp2_with fail
  refine (tint_Light _ _).mono ?_; rintro e w1 ⟨rfl, hb1⟩
  go_wp2_with fail
  refine (tint_Light _ _).mono ?_; rintro e w2 ⟨rfl, hb2⟩
  have hw2 : Below w.heap.size w w2 := below_call hb1 hb1.size hb2
  go_wp2_with fail
  go_ret
  exact ⟨ret_float (by rw [H.out]), hw2⟩

end Go.Proofs.YtpbpkdhdjdaiiaaDoor
