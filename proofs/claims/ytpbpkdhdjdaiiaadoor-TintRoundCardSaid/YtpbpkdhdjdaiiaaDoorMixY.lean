/- The walk of the program's Mix. -/
import Derived.Test.YtpbpkdhdjdaiiaaDoorMixX
namespace Go.Proofs.YtpbpkdhdjdaiiaaDoor
open Go.RowKit Flt

/-- What a round of Mix's loop leans on. -/
theorem mix_round (x y : Int) (t : Nat) (hx : 0 ≤ x ∧ x ≤ 255) (hy : 0 ≤ y ∧ y ≤ 255) :
    Fnt (floatOfInt .f64 x) ∧ Fnt (floatOfInt .f64 (y - x)) ∧ Fnt (fmul (floatOfInt .f64 (y - x)) (unitW t)) ∧ Fnt (fadd (floatOfInt .f64 x) (fmul (floatOfInt .f64 (y - x)) (unitW t))) ∧
    Fnt (fadd (fadd (floatOfInt .f64 x) (fmul (floatOfInt .f64 (y - x)) (unitW t))) 4602678819172646912) ∧
    (∀ w, (convert 30 5 (.float .f64 (ffloor (fadd (fadd (floatOfInt .f64 x) (fmul (floatOfInt .f64 (y - x)) (unitW t))) 4602678819172646912)))).run Tryd.prog w = .ok (.int .u8 (mixC x y (unitW t))) w) := by
  obtain ⟨u1, u2, u3, u4, u5⟩ := units t
  obtain ⟨_, g1, v1⟩ := int_rat x (by omega) (by omega)
  obtain ⟨_, g2, v2⟩ := int_rat (y - x) (by omega) (by omega)
  obtain ⟨⟨a1, a2, a3, v4, a4⟩, b1, b2, _⟩ := mix_any _ _ (unitW t) (unitW t) x y hx.1 hx.2 hy.1 hy.2 g1 v1 g2 v2 u1 u1 u3 u4 rfl
  exact ⟨g1, g2, a1, a2, a3, conv_u8 _ _ a4 v4 (by omega) (by omega)⟩

set_option maxHeartbeats 2000000 in
theorem tint_Mix (a b : Int) (t : Nat) : Gives 34 #[.int .i32 a, .int .i32 b, .float .f64 t] (.int .i32 (mixV a b t)) := by
  intro w
  obtain ⟨u1, u2, u3, u4, u5⟩ := units t
  obtain ⟨ra, ga, ba⟩ := ch_range a
  obtain ⟨rb, gb, bb⟩ := ch_range b
  have mr := mix_ch (chR a) (chR b) t ra rb
  have mg := mix_ch (chG a) (chG b) t ga gb
  have mb := mix_ch (chB a) (chB b) t ba bb
  obtain ⟨p1, p2, p3, p4, p5, p6⟩ := mix_round (chR a) (chR b) t ra rb
  obtain ⟨q1, q2, q3, q4, q5, q6⟩ := mix_round (chG a) (chG b) t ga gb
  obtain ⟨s1, s2, s3, s4, s5, s6⟩ := mix_round (chB a) (chB b) t ba bb
  have hH := finH
  have olt := order_lt u1 finH
  rw [valH] at olt
  have ht : (FloatKind.f64.format.order (unitW t) 4602678819172646912 == some .lt) = decide (val (unitW t) < 1/2) := by
    show (Ieee.double.order (unitW t) 4602678819172646912 == some .lt) = _
    rw [Bool.eq_iff_iff, olt, decide_eq_true_iff]
  clear u3 u4 u5 olt u2
  obtain ⟨ra1, ra2⟩ := ra; obtain ⟨ga1, ga2⟩ := ga; obtain ⟨ba1, ba2⟩ := ba
  obtain ⟨rb1, rb2⟩ := rb; obtain ⟨gb1, gb2⟩ := gb; obtain ⟨bb1, bb2⟩ := bb
  by_cases h1 : hasC a = true
  · by_cases h2 : hasC b = true
    · have H : Hid (mixV a b t = 16777216 + 65536 * mixC (chR a) (chR b) (unitW t) + 256 * mixC (chG a) (chG b) (unitW t) + mixC (chB a) (chB b) (unitW t)) := by unfold Hid mixV; rw [if_pos ⟨h1, h2⟩]
      have MR := Lib.hid mr; have MG := Lib.hid mg; have MB := Lib.hid mb
      clear ht mr mg mb
      go_enter Tryd.func34, Tryd.ntmps34
      go_wp2_with fail
      refine (tint_unit _ _).mono ?_; rintro e w' ⟨rfl, rfl⟩
      go_wp2_with fail
      refine (tint_RGB _ _).mono ?_; rw [h1]; rintro e w1 ⟨rfl, hb1⟩
      obtain ⟨hcl1, hfz1, hz1⟩ := bcell hb1
      go_wp2_with fail
      refine (tint_RGB _ _).mono ?_; rw [h2]; rintro e w2 ⟨rfl, hb2⟩
      obtain ⟨hcl2, hfz2, hz2⟩ := bcell hb2
      simp only [World.size_alloc] at hcl2 hfz2 hz2
      have z2 : w1.heap.size < w2.heap.size := by omega
      have hw1 : Below w.heap.size w w1 := hb1
      have hw2 : Below w.heap.size w w2 := below_call (hw1.alloc hz1 _) (by simp; omega) hb2
      clear hb1 hb2
      go_wp2_with fail
      refine wp_loop_rounds 4 ?_
      rw [rounds_succ]
      go_wp2_with fail
      go_quiet (fail)
      go_wp2_with fail
      refine (math_Floor _ p5 _).mono ?_; rintro e w' ⟨rfl, rfl⟩
      go_wp2_with fail
      rw [rounds_succ]
      go_wp2_with fail
      go_quiet (fail)
      go_wp2_with fail
      refine (math_Floor _ q5 _).mono ?_; rintro e w' ⟨rfl, rfl⟩
      go_wp2_with fail
      rw [rounds_succ]
      go_wp2_with fail
      go_quiet (fail)
      go_wp2_with fail
      refine (math_Floor _ s5 _).mono ?_; rintro e w' ⟨rfl, rfl⟩
      go_wp2_with fail
      rw [rounds_succ]
      go_wp2_with fail
      have MR' := MR.out; have MG' := MG.out; have MB' := MB.out
      refine (tint_whole _ _ _ MR'.2.2.1 MR'.2.2.2 MG'.2.2.1 MG'.2.2.2 MB'.2.2.1 MB'.2.2.2 _).mono ?_
      rintro e w3 ⟨rfl, hb3⟩
      have hw3 : Below w.heap.size w w3 := by
        refine below_call ?_ ?_ hb3
        · repeat (first | exact hw2 | refine below_drewN ?_ _ | refine Below.alloc ?_ (by go_size) _ | refine Below.setCell ?_ (by go_size) _)
        · simp; omega
      clear hb3 MR' MG' MB'
      go_wp2
      go_ret
      exact ⟨ret_int (by rw [H.out]), hw3⟩
    · have h2' : hasC b = false := by simpa using h2
      clear h2
      clear p1 p2 p3 p4 p5 p6 q1 q2 q3 q4 q5 q6 s1 s2 s3 s4 s5 s6 mr mg mb ra1 ra2 ga1 ga2 ba1 ba2 rb1 rb2 gb1 gb2 bb1 bb2
      by_cases hl : val (unitW t) < 1/2
      all_goals
        have H : Hid (mixV a b t = if val (unitW t) < 1/2 then cnt a else cnt b) := by unfold Hid mixV; rw [if_neg (by rw [h2']; exact fun h => by cases h.2)]
        have H2 := Lib.hid hl
        simp only [hl, decide_true, decide_false] at ht
        clear hl
        go_enter Tryd.func34, Tryd.ntmps34
        go_wp2_with fail
        refine (tint_unit _ _).mono ?_; rintro e w' ⟨rfl, rfl⟩
        go_wp2_with fail
        refine (tint_RGB _ _).mono ?_; rw [h1]; rintro e w1 ⟨rfl, hb1⟩
        obtain ⟨hcl1, hfz1, hz1⟩ := bcell hb1
        go_wp2_with fail
        refine (tint_RGB _ _).mono ?_; rw [h2']; rintro e w2 ⟨rfl, hb2⟩
        obtain ⟨hcl2, hfz2, hz2⟩ := bcell hb2
        simp only [World.size_alloc] at hcl2 hfz2 hz2
        have z2 : w1.heap.size < w2.heap.size := by omega
        have hw1 : Below w.heap.size w w1 := hb1
        have hw2 : Below w.heap.size w w2 := below_call (hw1.alloc hz1 _) (by simp; omega) hb2
        clear hb1 hb2
        go_wp2_with (go_at_call 47; refine (tint_counted _ _).mono ?_; rintro e w' ⟨rfl, rfl⟩)
        go_ret
        exact ⟨ret_int (by rw [H.out]; first | rw [if_pos H2.out] | rw [if_neg H2.out]), hw2.alloc (by omega) _⟩
  · have h1' : hasC a = false := by simpa using h1
    clear h1
    clear p1 p2 p3 p4 p5 p6 q1 q2 q3 q4 q5 q6 s1 s2 s3 s4 s5 s6 mr mg mb ra1 ra2 ga1 ga2 ba1 ba2 rb1 rb2 gb1 gb2 bb1 bb2
    by_cases hl : val (unitW t) < 1/2
    all_goals
      have H : Hid (mixV a b t = if val (unitW t) < 1/2 then cnt a else cnt b) := by unfold Hid mixV; rw [if_neg (by rw [h1']; exact fun h => by cases h.1)]
      have H2 := Lib.hid hl
      simp only [hl, decide_true, decide_false] at ht
      clear hl
      go_enter Tryd.func34, Tryd.ntmps34
      go_wp2_with fail
      refine (tint_unit _ _).mono ?_; rintro e w' ⟨rfl, rfl⟩
      go_wp2_with fail
      refine (tint_RGB _ _).mono ?_; rw [h1']; rintro e w1 ⟨rfl, hb1⟩
      obtain ⟨hcl1, hfz1, hz1⟩ := bcell hb1
      go_wp2_with fail
      refine (tint_RGB _ _).mono ?_; rintro e w2 ⟨rfl, hb2⟩
      obtain ⟨hcl2, hfz2, hz2⟩ := bcell hb2
      simp only [World.size_alloc] at hcl2 hfz2 hz2
      have z2 : w1.heap.size < w2.heap.size := by omega
      have hw1 : Below w.heap.size w w1 := hb1
      have hw2 : Below w.heap.size w w2 := below_call (hw1.alloc hz1 _) (by simp; omega) hb2
      clear hb1 hb2
      go_wp2_with (go_at_call 47; refine (tint_counted _ _).mono ?_; rintro e w' ⟨rfl, rfl⟩)
      go_ret
      exact ⟨ret_int (by rw [H.out]; first | rw [if_pos H2.out] | rw [if_neg H2.out]), hw2.alloc (by omega) _⟩
end Go.Proofs.YtpbpkdhdjdaiiaaDoor
