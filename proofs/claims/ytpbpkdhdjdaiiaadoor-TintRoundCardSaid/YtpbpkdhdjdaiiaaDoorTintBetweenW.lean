/- TintBetween: a mixture's channels lie between, and are those of the two at the ends (plain); the walk of the law. -/
import Derived.Test.YtpbpkdhdjdaiiaaDoorArr3
import Derived.Test.YtpbpkdhdjdaiiaaDoorTintNearW
import Derived.Test.YtpbpkdhdjdaiiaaDoorMixY
namespace Go.Proofs.YtpbpkdhdjdaiiaaDoor
open Go.RowKit Flt
set_option linter.unusedVariables false

theorem unit_ends : val (unitW 0) = 0 ∧ val (unitW 4607182418800017408) = 1 := by decide +kernel
theorem mix_ends (x y : Int) (t : Nat) (hx : 0 ≤ x ∧ x ≤ 255) (hy : 0 ≤ y ∧ y ≤ 255) : (val (unitW t) = 0 → mixC x y (unitW t) = x) ∧ (val (unitW t) = 1 → mixC x y (unitW t) = y) := by
  obtain ⟨u1, u2, u3, u4, u5⟩ := units t
  obtain ⟨_, g1, v1⟩ := int_rat x (by omega) (by omega)
  obtain ⟨_, g2, v2⟩ := int_rat (y - x) (by omega) (by omega)
  obtain ⟨_, _, _, a, b⟩ := mix_any _ _ (unitW t) (unitW t) x y hx.1 hx.2 hy.1 hy.2 g1 v1 g2 v2 u1 u1 u3 u4 rfl
  exact ⟨a, b⟩

theorem ch_full (c : Int) (h0 : 16777216 ≤ c) (h1 : c < 33554432) : c = 16777216 + 65536 * chR c + 256 * chG c + chB c := by
  unfold chR chG chB
  rw [if_pos ⟨h0, h1⟩, if_pos ⟨h0, h1⟩, if_pos ⟨h0, h1⟩]
  omega
theorem ch_of (r g b : Int) (hr : 0 ≤ r ∧ r ≤ 255) (hg : 0 ≤ g ∧ g ≤ 255) (hb : 0 ≤ b ∧ b ≤ 255) : chR (16777216 + 65536 * r + 256 * g + b) = r ∧ chG (16777216 + 65536 * r + 256 * g + b) = g ∧ chB (16777216 + 65536 * r + 256 * g + b) = b := by
  refine ⟨?_, ?_, ?_⟩
  · unfold chR; rw [if_pos (by omega)]; omega
  · unfold chG; rw [if_pos (by omega)]; omega
  · unfold chB; rw [if_pos (by omega)]; omega

structure BetOk (a b z : Int) : Prop where
  z0 : 16777216 ≤ z
  z1 : z < 33554432
  r0 : min (chR a) (chR b) ≤ chR z
  r1 : chR z ≤ max (chR a) (chR b)
  g0 : min (chG a) (chG b) ≤ chG z
  g1 : chG z ≤ max (chG a) (chG b)
  b0 : min (chB a) (chB b) ≤ chB z
  b1 : chB z ≤ max (chB a) (chB b)

theorem mixV_full (a b : Int) (t : Nat) (ha : 16777216 ≤ a ∧ a < 33554432) (hb : 16777216 ≤ b ∧ b < 33554432) : mixV a b t = 16777216 + 65536 * mixC (chR a) (chR b) (unitW t) + 256 * mixC (chG a) (chG b) (unitW t) + mixC (chB a) (chB b) (unitW t) := by
  unfold mixV
  rw [if_pos ⟨hasC_full _ ha.1 ha.2, hasC_full _ hb.1 hb.2⟩]

theorem bet_ok (a b : Int) (t : Nat) (ha : 16777216 ≤ a ∧ a < 33554432) (hb : 16777216 ≤ b ∧ b < 33554432) : BetOk a b (mixV a b t) := by
  obtain ⟨p1, p2, p3⟩ := ch_range a
  obtain ⟨q1, q2, q3⟩ := ch_range b
  have m1 := mix_ch (chR a) (chR b) t p1 q1
  have m2 := mix_ch (chG a) (chG b) t p2 q2
  have m3 := mix_ch (chB a) (chB b) t p3 q3
  rw [mixV_full a b t ha hb]
  obtain ⟨e1, e2, e3⟩ := ch_of (mixC (chR a) (chR b) (unitW t)) (mixC (chG a) (chG b) (unitW t)) (mixC (chB a) (chB b) (unitW t)) ⟨m1.2.2.1, m1.2.2.2⟩ ⟨m2.2.2.1, m2.2.2.2⟩ ⟨m3.2.2.1, m3.2.2.2⟩
  refine ⟨by omega, by omega, ?_, ?_, ?_, ?_, ?_, ?_⟩
  · rw [e1]; exact m1.1
  · rw [e1]; exact m1.2.1
  · rw [e2]; exact m2.1
  · rw [e2]; exact m2.2.1
  · rw [e3]; exact m3.1
  · rw [e3]; exact m3.2.1

theorem mix_at0 (a b : Int) (ha : 16777216 ≤ a ∧ a < 33554432) (hb : 16777216 ≤ b ∧ b < 33554432) : mixV a b 0 = a := by
  obtain ⟨p1, p2, p3⟩ := ch_range a
  obtain ⟨q1, q2, q3⟩ := ch_range b
  have z := unit_ends.1
  rw [mixV_full a b 0 ha hb, (mix_ends _ _ 0 p1 q1).1 z, (mix_ends _ _ 0 p2 q2).1 z, (mix_ends _ _ 0 p3 q3).1 z]
  exact (ch_full a ha.1 ha.2).symm
theorem mix_at1 (a b : Int) (ha : 16777216 ≤ a ∧ a < 33554432) (hb : 16777216 ≤ b ∧ b < 33554432) : mixV a b 4607182418800017408 = b := by
  obtain ⟨p1, p2, p3⟩ := ch_range a
  obtain ⟨q1, q2, q3⟩ := ch_range b
  have z := unit_ends.2
  rw [mixV_full a b _ ha hb, (mix_ends _ _ _ p1 q1).2 z, (mix_ends _ _ _ p2 q2).2 z, (mix_ends _ _ _ p3 q3).2 z]
  exact (ch_full b hb.1 hb.2).symm
theorem mix_self (a : Int) (t : Nat) (ha : 16777216 ≤ a ∧ a < 33554432) : mixV a a t = a := by
  obtain ⟨p1, p2, p3⟩ := ch_range a
  have m1 := mix_ch (chR a) (chR a) t p1 p1
  have m2 := mix_ch (chG a) (chG a) t p2 p2
  have m3 := mix_ch (chB a) (chB a) t p3 p3
  rw [mixV_full a a t ha ha, show mixC (chR a) (chR a) (unitW t) = chR a by omega, show mixC (chG a) (chG a) (unitW t) = chG a by omega, show mixC (chB a) (chB a) (unitW t) = chB a by omega]
  exact (ch_full a ha.1 ha.2).symm

namespace tintBetween
set_option maxHeartbeats 4000000 in
set_option maxRecDepth 100000 in
theorem tintBetween_walk (c d : Int) (t : Nat) (hc : (Lit.int .i32 c).wf = true) (hd : (Lit.int .i32 d).wf = true) (ht : (Lit.float .f64 t).wf = true) (w : World) (E : Env w) :
    Calls Tryd.prog 8 #[.int .i32 c, .int .i32 d, .float .f64 t] w fun e w' => e = .returned (.bool true) ∧ Below w.heap.size w w' := by
  obtain ⟨hl, hh⟩ : -2147483648 ≤ c ∧ c ≤ 2147483647 := by have := bounds_i32 hc; omega
  obtain ⟨gl, gh⟩ : -2147483648 ≤ d ∧ d ≤ 2147483647 := by have := bounds_i32 hd; omega
  have ha := fullV_range c
  have hb := fullV_range d
  have W0 := Lib.hid (law_works w E)
  have R1 := Lib.hid (law_full c hl hh)
  have R2 := Lib.hid (law_full d gl gh)
  obtain ⟨z0, z1, r0, r1, g0, g1, b0, b1⟩ := bet_ok (fullV c) (fullV d) t ha hb
  have C1 := tint_RGB (fullV c)
  rw [hasC_full _ ha.1 ha.2] at C1
  have C2 := tint_RGB (fullV d)
  rw [hasC_full _ hb.1 hb.2] at C2
  have C3 := tint_RGB (mixV (fullV c) (fullV d) t)
  rw [hasC_full _ z0 z1] at C3
  have C1 := Lib.hid C1; have C2 := Lib.hid C2; have C3 := Lib.hid C3
  have M1 := Lib.hid (tint_Mix (fullV c) (fullV d) t)
  have M2 := tint_Mix (fullV c) (fullV d) 0
  rw [mix_at0 _ _ ha hb] at M2
  have M3 := tint_Mix (fullV c) (fullV d) 4607182418800017408
  rw [mix_at1 _ _ ha hb] at M3
  have M4 := tint_Mix (fullV c) (fullV c) t
  rw [mix_self _ t ha] at M4
  have M2 := Lib.hid M2; have M3 := Lib.hid M3; have M4 := Lib.hid M4
  clear hc hd ht hl hh gl gh E
  generalize mixV (fullV c) (fullV d) t = z at *
  generalize fullV c = a at *
  generalize fullV d = b at *
  obtain ⟨mr, hmr⟩ : ∃ m, min (chR a) (chR b) = m := ⟨_, rfl⟩
  obtain ⟨Mr, hMr⟩ : ∃ m, max (chR a) (chR b) = m := ⟨_, rfl⟩
  obtain ⟨mg, hmg⟩ : ∃ m, min (chG a) (chG b) = m := ⟨_, rfl⟩
  obtain ⟨Mg, hMg⟩ : ∃ m, max (chG a) (chG b) = m := ⟨_, rfl⟩
  obtain ⟨mb, hmb⟩ : ∃ m, min (chB a) (chB b) = m := ⟨_, rfl⟩
  obtain ⟨Mb, hMb⟩ : ∃ m, max (chB a) (chB b) = m := ⟨_, rfl⟩
  rw [hmr] at r0; rw [hMr] at r1; rw [hmg] at g0; rw [hMg] at g1; rw [hmb] at b0; rw [hMb] at b1
  go_enter Tryd.func8, Tryd.ntmps8
  go_wp2_with fail
  refine W0.out.mono ?_; rintro e w1 ⟨rfl, b1'⟩
  go_wp2_with fail
  refine (R1.out _).mono ?_; rintro e w' ⟨rfl, rfl⟩
  go_wp2_with fail
  refine (R2.out _).mono ?_; rintro e w' ⟨rfl, rfl⟩
  go_wp2_with fail
  refine (C1.out _).mono ?_; rintro e w2 ⟨rfl, b2'⟩
  have B2 := below_call b1' b1'.size b2'
  have P2 := A3.new w2 (chR a) (chG a) (chB a)
  clear b1' b2'
  go_wp2_with fail
  refine (C2.out _).mono ?_; rintro e w3 ⟨rfl, b3'⟩
  have B3 := below_call (B2.alloc B2.size _) (by have := B2.size; simp; omega) b3'
  have P3 := P2.call b3'
  have P3 := P3.keep ((Below.refl w3.heap.size w3).alloc (Nat.le_refl _) (.cells #[.int .u8 (chR b), .int .u8 (chG b), .int .u8 (chB b)] 27)) P3.lt
  have Q3 := A3.new w3 (chR b) (chG b) (chB b)
  clear P2 B2 b3'
  go_wp2_with fail
  refine (M1.out _).mono ?_; rintro e w4 ⟨rfl, b4'⟩
  have B4 := below_call (B3.alloc B3.size _) (by have := B3.size; simp; omega) b4'
  have P4 := P3.call b4'
  have Q4 := Q3.call b4'
  clear P3 Q3 B3 b4'
  go_wp2_with fail
  refine (C3.out _).mono ?_; rintro e w5 ⟨rfl, b5'⟩
  have B5 := below_call B4 B4.size b5'
  have P5 := P4.call b5'
  have Q5 := Q4.call b5'
  clear P4 Q4 B4 b5'
  obtain ⟨p0, p1, p2, pl⟩ := P5
  obtain ⟨q0, q1, q2, ql⟩ := Q5
  go_wp2_with fail
  refine wp_loop_rounds 4 ?_
  rw [rounds_succ]
  go_wp2_with fail
  go_quiet (fail)
  go_wp2_with fail
  rw [rounds_succ]
  go_wp2_with fail
  go_quiet (fail)
  go_wp2_with fail
  rw [rounds_succ]
  go_wp2_with fail
  go_quiet (fail)
  go_wp2_with fail
  rw [rounds_succ]
  go_wp2_with fail
  refine (M2.out _).mono ?_; rintro e w6 ⟨rfl, b6'⟩
  have B6 := below_call (below_drewN (B5.alloc B5.size _) _) (by have := B5.size; simp; omega) b6'
  clear b6' p0 p1 p2 pl q0 q1 q2 ql
  go_wp2_with fail
  refine (M3.out _).mono ?_; rintro e w7 ⟨rfl, b7'⟩
  have B7 := below_call B6 B6.size b7'
  go_wp2_with fail
  refine (M4.out _).mono ?_; rintro e w8 ⟨rfl, b8'⟩
  have B8 := below_call B7 B7.size b8'
  go_wp2_with fail
  go_ret
  exact ⟨ret_bool (by first | rfl | simp), B8⟩
end tintBetween
end Go.Proofs.YtpbpkdhdjdaiiaaDoor
