/- TintFair: light and contrast keep their bounds (plain), and the walk of the law. -/
import Derived.Test.YtpbpkdhdjdaiiaaDoorWorks
namespace Go.Proofs.YtpbpkdhdjdaiiaaDoor
open Go.RowKit Flt
set_option linter.unusedVariables false

theorem fge {x y : Nat} (hx : Fnt x) (hy : Fnt y) (h : val y ≤ val x) : (FloatKind.f64.format.order x y == some .gt || FloatKind.f64.format.order x y == some .eq) = true := by
  rw [fgt hx hy, feq hx hy]
  by_cases c : val y < val x
  · rw [decide_eq_true c]; rfl
  · rw [decide_eq_true (show val x = val y by grind)]; simp
theorem fle {x y : Nat} (hx : Fnt x) (hy : Fnt y) (h : val x ≤ val y) : (FloatKind.f64.format.order x y == some .lt || FloatKind.f64.format.order x y == some .eq) = true := by
  rw [flt hx hy, feq hx hy]
  by_cases c : val x < val y
  · rw [decide_eq_true c]; rfl
  · rw [decide_eq_true (show val x = val y by grind)]; simp

theorem sq_mono (r : Int) (h0 : 0 ≤ r) (h1 : r ≤ 255) : val (sqW r) ≤ val (sqW 255) := by
  obtain ⟨f, a, b, _⟩ := cw_near r h0 h1
  obtain ⟨g, a', b', _⟩ := cw_near 255 (by decide) (by decide)
  have le := cw_le r 255 h0 (by decide) h1
  have m1 := Rat.mul_le_mul_of_nonneg_left le a
  have m2 := Rat.mul_le_mul_of_nonneg_right le a'
  exact (fmul_some f f).2.mono (fmul_some g g).2 (sq_ok r h0 h1).1 (sq_ok 255 (by decide) (by decide)).1 (by grind)

theorem part_mono (k x y : Nat) (fk : Fnt k) (k0 : 0 ≤ val k) (fx : Fnt x) (fy : Fnt y) (fp : Fnt (fmul k x)) (fq : Fnt (fmul k y)) (le : val x ≤ val y) : val (fmul k x) ≤ val (fmul k y) :=
  (fmul_some fk fx).2.mono (fmul_some fk fy).2 fp fq (Rat.mul_le_mul_of_nonneg_left le k0)

theorem lum_mono (r g b : Int) (hr : 0 ≤ r ∧ r ≤ 255) (hg : 0 ≤ g ∧ g ≤ 255) (hb : 0 ≤ b ∧ b ≤ 255) : val (lum r g b) ≤ val (lum 255 255 255) := by
  have A := lum_ok r g b hr hg hb
  have B := lum_ok 255 255 255 (by decide) (by decide) (by decide)
  have p1 := part_mono _ _ _ finK1 posK1.1 A.fr B.fr A.kr B.kr (sq_mono r hr.1 hr.2)
  have p2 := part_mono _ _ _ finK2 posK2.1 A.fg B.fg A.kg B.kg (sq_mono g hg.1 hg.2)
  have p3 := part_mono _ _ _ finK3 posK3.1 A.fb B.fb A.kb B.kb (sq_mono b hb.1 hb.2)
  have s1 := (fadd_some A.kr A.kg).2.mono (fadd_some B.kr B.kg).2 A.fs B.fs (by grind)
  exact (fadd_some A.fs A.kb).2.mono (fadd_some B.fs B.kb).2 A.ff B.ff (by grind)

theorem white_eq : lightW 33554431 = lum 255 255 255 := by
  have h : hasC 33554431 = true := by decide +kernel
  unfold lightW
  rw [if_pos h, show chR 33554431 = 255 by decide +kernel, show chG 33554431 = 255 by decide +kernel, show chB 33554431 = 255 by decide +kernel]

theorem light_white (c : Int) : val (lightW c) ≤ val (lightW 33554431) := by
  rw [white_eq]
  obtain ⟨r, g, b⟩ := ch_range c
  unfold lightW
  split
  · exact lum_mono _ _ _ r g b
  · rw [val0]; exact (lum_ok 255 255 255 (by decide) (by decide) (by decide)).lo

theorem white_lo : val 4607173411600762667 < val (lightW 33554431) := by decide +kernel
theorem white_hi : val (lightW 33554431) ≤ val 4607182418804521008 := by decide +kernel
theorem black0 : val (lightW 16777216) = 0 := by decide +kernel
theorem finW1 : Fnt 4607173411600762667 := by unfold Fnt; decide +kernel
theorem finW2 : Fnt 4607182418804521008 := by unfold Fnt; decide +kernel
theorem finW3 : Fnt 4626604473668029383 := by unfold Fnt; decide +kernel
theorem cont_closed : val (fadd (lightW 33554431) 4587366580439587226) ≤ val 4626604473668029383 * val (fadd 0 4587366580439587226) ∧ 0 ≤ val 4626604473668029383 := by decide +kernel

theorem contW_ge (x y : Nat) (fx : Fnt x) (fy : Fnt y) (a : 0 ≤ val x) (b : val x ≤ 3) (a' : 0 ≤ val y) (b' : val y ≤ 3) (le : val y ≤ val x) : 1 ≤ val (contW x y) := by
  obtain ⟨g1, g2, ne, g3, r⟩ := cont_ok x y fx fy a b a' b'
  have m := (fadd_some fy finK4).2.mono (fadd_some fx finK4).2 g2 g1 (by grind)
  have pos : 0 < val (fadd y 4587366580439587226) := by have := (plus_ok y fy a' b').2.1; grind
  have q : val (fadd x 4587366580439587226) / val (fadd y 4587366580439587226) * val (fadd y 4587366580439587226) = val (fadd x 4587366580439587226) := Rat.div_mul_cancel ne
  have one : 1 ≤ val (fadd x 4587366580439587226) / val (fadd y 4587366580439587226) := by
    refine le_of_nn _ pos ?_
    rw [q]; grind
  have := (Rd.self fin1 (by decide)).mono r fin1 g3 (by rw [val1]; exact one)
  rw [val1] at this
  exact this

theorem contW_le (x y : Nat) (fx : Fnt x) (fy : Fnt y) (a : 0 ≤ val x) (b : val x ≤ 3) (a' : 0 ≤ val y) (b' : val y ≤ 3) (le : val x ≤ val (lightW 33554431)) : val (contW x y) ≤ val 4626604473668029383 := by
  obtain ⟨g1, g2, ne, g3, r⟩ := cont_ok x y fx fy a b a' b'
  obtain ⟨fw, w0, w3⟩ := light_ok 33554431
  have gw := (plus_ok _ fw w0 w3).1
  have g0 := (plus_ok 0 fin0 (by rw [val0]; decide) (by rw [val0]; decide)).1
  have m := (fadd_some fx finK4).2.mono (fadd_some fw finK4).2 g1 gw (by grind)
  have m0 := (fadd_some fin0 finK4).2.mono (fadd_some fy finK4).2 g0 g2 (by rw [val0]; grind)
  have pos : 0 < val (fadd y 4587366580439587226) := by have := (plus_ok y fy a' b').2.1; grind
  have q : val (fadd x 4587366580439587226) / val (fadd y 4587366580439587226) * val (fadd y 4587366580439587226) = val (fadd x 4587366580439587226) := Rat.div_mul_cancel ne
  obtain ⟨k1, k2⟩ := cont_closed
  have m2 := Rat.mul_le_mul_of_nonneg_left m0 k2
  have up : val (fadd x 4587366580439587226) / val (fadd y 4587366580439587226) ≤ val 4626604473668029383 := by
    refine le_of_nn _ pos ?_
    rw [q]; grind
  exact r.mono (Rd.self finW3 (by decide)) g3 finW3 up

structure FairOk (c d : Int) : Prop where
  f : Fnt (contT c d)
  ge : 1 ≤ val (contT c d)
  le : val (contT c d) ≤ val 4626604473668029383
  f' : Fnt (contT d c)
  eq : val (contT c d) = val (contT d c)

theorem fair_ok (c d : Int) : FairOk c d := by
  obtain ⟨f1, l1, h1⟩ := light_ok c
  obtain ⟨f2, l2, h2⟩ := light_ok d
  have w1 := light_white c
  have w2 := light_white d
  obtain ⟨p1, p2, p3, p4⟩ := fmax_val f1 f2
  obtain ⟨q1, q2, q3, q4⟩ := fmin_val f1 f2
  obtain ⟨r1, r2, r3, r4⟩ := fmax_val f2 f1
  obtain ⟨s1, s2, s3, s4⟩ := fmin_val f2 f1
  have P : val (fmaxW (lightW c) (lightW d)) = val (lightW c) ∨ val (fmaxW (lightW c) (lightW d)) = val (lightW d) := by rcases p2 with h | h <;> rw [h] <;> simp
  have Q : val (fminW (lightW c) (lightW d)) = val (lightW c) ∨ val (fminW (lightW c) (lightW d)) = val (lightW d) := by rcases q2 with h | h <;> rw [h] <;> simp
  have R : val (fmaxW (lightW d) (lightW c)) = val (lightW d) ∨ val (fmaxW (lightW d) (lightW c)) = val (lightW c) := by rcases r2 with h | h <;> rw [h] <;> simp
  have S : val (fminW (lightW d) (lightW c)) = val (lightW d) ∨ val (fminW (lightW d) (lightW c)) = val (lightW c) := by rcases s2 with h | h <;> rw [h] <;> simp
  have e1 : val (fmaxW (lightW c) (lightW d)) = val (fmaxW (lightW d) (lightW c)) := by grind
  have e2 : val (fminW (lightW c) (lightW d)) = val (fminW (lightW d) (lightW c)) := by grind
  clear p2 q2 r2 s2
  refine ⟨(cont_eq c d).1, ?_, ?_, (cont_eq d c).1, ?_⟩
  · exact contW_ge _ _ p1 q1 (by grind) (by grind) (by grind) (by grind) (by grind)
  · exact contW_le _ _ p1 q1 (by grind) (by grind) (by grind) (by grind) (by grind)
  · exact cont_same _ _ _ _ p1 q1 (by grind) (by grind) (by grind) (by grind) r1 s1 e1 e2

theorem cont_self (c : Int) : Fnt (contT c c) ∧ val (contT c c) = 1 := by
  obtain ⟨f1, l1, h1⟩ := light_ok c
  have e1 : fmaxW (lightW c) (lightW c) = lightW c := by rcases (fmax_val f1 f1).2.1 with h | h <;> exact h
  have e2 : fminW (lightW c) (lightW c) = lightW c := by rcases (fmin_val f1 f1).2.1 with h | h <;> exact h
  obtain ⟨_, _, ne, _, r⟩ := cont_ok _ _ f1 f1 l1 h1 l1 h1
  have dv : val (fadd (lightW c) 4587366580439587226) / val (fadd (lightW c) 4587366580439587226) = 1 := by rw [Rat.div_def]; exact Rat.mul_inv_cancel _ ne
  rw [dv] at r
  unfold contT
  rw [e1, e2]
  have := Rd.int (n := 1) (by rw [lit1]; exact r) (by decide) (by decide)
  rw [lit1] at this
  exact this

namespace tintFair
set_option maxHeartbeats 4000000 in
set_option maxRecDepth 100000 in
theorem tintFair_walk (c d : Int) (hc : (Lit.int .i32 c).wf = true) (hd : (Lit.int .i32 d).wf = true) (w : World) (E : Env w) :
    Calls Tryd.prog 7 #[.int .i32 c, .int .i32 d] w fun e w' => e = .returned (.bool true) ∧ Below w.heap.size w w' := by
  obtain ⟨f1, l1, h1⟩ := light_ok c
  obtain ⟨f2, l2, h2⟩ := light_ok 33554431
  obtain ⟨f3, l3, h3⟩ := light_ok 16777216
  have F := fair_ok c d
  obtain ⟨f4, e4⟩ := cont_self c
  have k1 := fge f1 fin0 (by rw [val0]; exact l1)
  have k2 := fle f1 f2 (light_white c)
  have k3 := fle f2 finW2 white_hi
  have k4 := fgt f2 finW1
  rw [decide_eq_true white_lo] at k4
  have k5 := feq f3 fin0
  rw [decide_eq_true (by rw [val0]; exact black0)] at k5
  have k6 := fge F.f fin1 (by rw [val1]; exact F.ge)
  have k7 := fle F.f finW3 F.le
  have k8 := feq F.f F.f'
  rw [decide_eq_true F.eq] at k8
  have k9 := feq f4 fin1
  rw [decide_eq_true (by rw [val1]; exact e4)] at k9
  have W0 := Lib.hid (law_works w E)
  have R1 := Lib.hid (tint_Light c)
  have R2 := Lib.hid (tint_Contrast c d)
  have R3 := Lib.hid (tint_Light 33554431)
  have R4 := Lib.hid (tint_Light 16777216)
  have R5 := Lib.hid (tint_Contrast d c)
  have R6 := Lib.hid (tint_Contrast c c)
  clear hc hd f1 l1 h1 f2 l2 h2 f3 l3 h3 F f4 e4 E
  generalize lightW c = X at *
  generalize lightW 33554431 = Y at *
  generalize lightW 16777216 = Z at *
  generalize contT c d = A at *
  generalize contT d c = B at *
  generalize contT c c = C at *
  go_enter Tryd.func7, Tryd.ntmps7
  go_wp2_with fail
  refine W0.out.mono ?_; rintro e w1 ⟨rfl, b1⟩
  go_wp2_with fail
  refine (R1.out _).mono ?_; rintro e w2 ⟨rfl, b2⟩
  have B2 := below_call b1 b1.size b2
  clear b1 b2
  go_wp2_with fail
  refine (R2.out _).mono ?_; rintro e w3 ⟨rfl, b3⟩
  have B3 := below_call B2 B2.size b3
  clear B2 b3
  go_wp2_with fail
  refine (R3.out _).mono ?_; rintro e w4 ⟨rfl, b4⟩
  have B4 := below_call B3 B3.size b4
  clear B3 b4
  go_wp2_with fail
  refine (R4.out _).mono ?_; rintro e w5 ⟨rfl, b5⟩
  have B5 := below_call B4 B4.size b5
  clear B4 b5
  go_wp2_with fail
  refine (R5.out _).mono ?_; rintro e w6 ⟨rfl, b6⟩
  have B6 := below_call B5 B5.size b6
  clear B5 b6
  go_wp2_with fail
  refine (R6.out _).mono ?_; rintro e w7 ⟨rfl, b7⟩
  have B7 := below_call B6 B6.size b7
  go_wp2_with fail
  go_ret
  exact ⟨ret_bool (by first | rfl | simp [k9]), B7⟩
end tintFair
end Go.Proofs.YtpbpkdhdjdaiiaaDoor
