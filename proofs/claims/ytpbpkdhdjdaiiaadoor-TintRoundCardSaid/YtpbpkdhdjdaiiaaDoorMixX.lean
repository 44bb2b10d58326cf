/- The walks of Mix: the program's and the reference's. -/
import Derived.Test.YtpbpkdhdjdaiiaaDoorMixW
namespace Go.Proofs.YtpbpkdhdjdaiiaaDoor
open Go.RowKit Flt

theorem Tells.quiet {k : Nat} {args : Array Value} {v : Value} (h : Tells k args v) {w : World} {n : Nat} : Calls Tryd.prog k args (w.drewN n) fun e w'' => e = .returned v ∧ ∃ m, w'' = w.drewN m :=
  (h _).mono fun _ _ ⟨he, hm⟩ => ⟨he, n, hm.symm⟩

def mixV (a b : Int) (t : Nat) : Int :=
  if hasC a = true ∧ hasC b = true then 16777216 + 65536 * mixC (chR a) (chR b) (unitW t) + 256 * mixC (chG a) (chG b) (unitW t) + mixC (chB a) (chB b) (unitW t)
  else if val (unitW t) < 1/2 then cnt a else cnt b

theorem mix_ch (x y : Int) (t : Nat) (hx : 0 ≤ x ∧ x ≤ 255) (hy : 0 ≤ y ∧ y ≤ 255) : min x y ≤ mixC x y (unitW t) ∧ mixC x y (unitW t) ≤ max x y ∧ 0 ≤ mixC x y (unitW t) ∧ mixC x y (unitW t) ≤ 255 := by
  obtain ⟨u1, u2, u3, u4, u5⟩ := units t
  obtain ⟨_, g1, v1⟩ := int_rat x (by omega) (by omega)
  obtain ⟨_, g2, v2⟩ := int_rat (y - x) (by omega) (by omega)
  obtain ⟨_, a, b, _⟩ := mix_any _ _ (unitW t) (unitW t) x y hx.1 hx.2 hy.1 hy.2 g1 v1 g2 v2 u1 u1 u3 u4 rfl
  omega

set_option maxHeartbeats 2000000 in
theorem ref_Mix (a b : Int) (t : Nat) (ha : -2147483648 ≤ a) (ha' : a ≤ 2147483647) (hb : -2147483648 ≤ b) (hb' : b ≤ 2147483647) : Gives 65 #[.int .i32 a, .int .i32 b, .float .f64 t] (.int .i32 (mixV a b t)) := by
  intro w
  obtain ⟨u1, u2, u3, u4, u5⟩ := units t
  obtain ⟨ra, ga, ba⟩ := ch_range a
  obtain ⟨rb, gb, bb⟩ := ch_range b
  have mr := mix_ch (chR a) (chR b) t ra rb
  have mg := mix_ch (chG a) (chG b) t ga gb
  have mb := mix_ch (chB a) (chB b) t ba bb
  have u3' : 0 ≤ val (unitR t) := by rw [u5]; exact u3
  have u4' : val (unitR t) ≤ 1 := by rw [u5]; exact u4
  have c1 := ref_between (chR a) (chR b) (unitR t) (unitW t) ra.1 ra.2 rb.1 rb.2 u2 u1 u3' u4' u5.symm
  have c2 := ref_between (chG a) (chG b) (unitR t) (unitW t) ga.1 ga.2 gb.1 gb.2 u2 u1 u3' u4' u5.symm
  have c3 := ref_between (chB a) (chB b) (unitR t) (unitW t) ba.1 ba.2 bb.1 bb.2 u2 u1 u3' u4' u5.symm
  have c4 := ref_colour (mixC (chR a) (chR b) (unitW t)) (mixC (chG a) (chG b) (unitW t)) (mixC (chB a) (chB b) (unitW t)) mr.2.2.1 mr.2.2.2 mg.2.2.1 mg.2.2.2 mb.2.2.1 mb.2.2.2
  have C1 := Lib.hid c1; have C2 := Lib.hid c2; have C3 := Lib.hid c3; have C4 := Lib.hid c4
  have olt := order_lt u2 finH
  rw [valH] at olt
  have ht : (FloatKind.f64.format.order (unitR t) 4602678819172646912 == some .lt) = decide (val (unitW t) < 1/2) := by
    show (Ieee.double.order (unitR t) 4602678819172646912 == some .lt) = _
    rw [Bool.eq_iff_iff, olt, decide_eq_true_iff, u5]
  clear c1 c2 c3 c4 u3 u4 u5 u3' u4' ra ga ba rb gb bb mr mg mb olt u1 u2
  by_cases h1 : hasC a = true
  · by_cases h2 : hasC b = true
    · have H : Hid (mixV a b t = 16777216 + 65536 * mixC (chR a) (chR b) (unitW t) + 256 * mixC (chG a) (chG b) (unitW t) + mixC (chB a) (chB b) (unitW t)) := by unfold Hid mixV; rw [if_pos ⟨h1, h2⟩]
      clear ht
      go_enter Tryd.func65, Tryd.ntmps65
      go_wp2_with fail
      refine (ref_Unit _ _).mono ?_; rintro e w' ⟨rfl, rfl⟩
      go_wp2_with fail
      refine (ref_RGB _ ha ha' _).mono ?_; rw [h1]; rintro e w1 ⟨rfl, hb1⟩
      obtain ⟨hcl1, hfz1, hz1⟩ := bcell hb1
      go_wp2_with fail
      refine (ref_RGB _ hb hb' _).mono ?_; rw [h2]; rintro e w2 ⟨rfl, hb2⟩
      obtain ⟨hcl2, hfz2, hz2⟩ := bcell hb2
      simp only [World.size_alloc] at hcl2 hfz2 hz2
      have z2 : w1.heap.size < w2.heap.size := by omega
      go_wp2_with fail
      have hw1 : Below w.heap.size w w1 := hb1
      have hw2 : Below w.heap.size w w2 := below_call (hw1.alloc hz1 _) (by simp; omega) hb2
      clear hb1 hb2
      go_quiet ((first | (go_at_call 84; first | (with_reducible exact C1.out.quiet) | (with_reducible exact C2.out.quiet) | (with_reducible exact C3.out.quiet)) | (go_at_call 83; with_reducible exact C4.out.quiet)))
      go_wp2
      go_ret
      exact ⟨ret_int (by rw [H.out]), below_drewN (hw2.alloc (by omega) _) _⟩
    · have h2' : hasC b = false := by simpa using h2
      clear h2
      by_cases hl : val (unitW t) < 1/2
      all_goals
        have H : Hid (mixV a b t = if val (unitW t) < 1/2 then cnt a else cnt b) := by unfold Hid mixV; rw [if_neg (by rw [h2']; exact fun h => by cases h.2)]
        have H2 := Lib.hid hl
        simp only [hl, decide_true, decide_false] at ht
        clear hl
        go_enter Tryd.func65, Tryd.ntmps65
        go_wp2_with fail
        refine (ref_Unit _ _).mono ?_; rintro e w' ⟨rfl, rfl⟩
        go_wp2_with fail
        refine (ref_RGB _ ha ha' _).mono ?_; rw [h1]; rintro e w1 ⟨rfl, hb1⟩
        obtain ⟨hcl1, hfz1, hz1⟩ := bcell hb1
        go_wp2_with fail
        refine (ref_RGB _ hb hb' _).mono ?_; rw [h2']; rintro e w2 ⟨rfl, hb2⟩
        obtain ⟨hcl2, hfz2, hz2⟩ := bcell hb2
        simp only [World.size_alloc] at hcl2 hfz2 hz2
        have z2 : w1.heap.size < w2.heap.size := by omega
        have hw1 : Below w.heap.size w w1 := hb1
        have hw2 : Below w.heap.size w w2 := below_call (hw1.alloc hz1 _) (by simp; omega) hb2
        clear hb1 hb2
        go_wp2_with (first | (go_at_call 58; refine (ref_Counted _ (by assumption) (by assumption) _).mono ?_; rintro e w' ⟨rfl, rfl⟩))
        go_ret
        exact ⟨ret_int (by rw [H.out]; first | rw [if_pos H2.out] | rw [if_neg H2.out]), hw2.alloc (by omega) _⟩
  · have h1' : hasC a = false := by simpa using h1
    clear h1
    by_cases hl : val (unitW t) < 1/2
    all_goals
      have H : Hid (mixV a b t = if val (unitW t) < 1/2 then cnt a else cnt b) := by unfold Hid mixV; rw [if_neg (by rw [h1']; exact fun h => by cases h.1)]
      have H2 := Lib.hid hl
      simp only [hl, decide_true, decide_false] at ht
      clear hl
      go_enter Tryd.func65, Tryd.ntmps65
      go_wp2_with fail
      refine (ref_Unit _ _).mono ?_; rintro e w' ⟨rfl, rfl⟩
      go_wp2_with fail
      refine (ref_RGB _ ha ha' _).mono ?_; rw [h1']; rintro e w1 ⟨rfl, hb1⟩
      obtain ⟨hcl1, hfz1, hz1⟩ := bcell hb1
      go_wp2_with fail
      refine (ref_RGB _ hb hb' _).mono ?_; rintro e w2 ⟨rfl, hb2⟩
      obtain ⟨hcl2, hfz2, hz2⟩ := bcell hb2
      simp only [World.size_alloc] at hcl2 hfz2 hz2
      have z2 : w1.heap.size < w2.heap.size := by omega
      have hw1 : Below w.heap.size w w1 := hb1
      have hw2 : Below w.heap.size w w2 := below_call (hw1.alloc hz1 _) (by simp; omega) hb2
      clear hb1 hb2
      go_wp2_with (first | (go_at_call 58; refine (ref_Counted _ (by assumption) (by assumption) _).mono ?_; rintro e w' ⟨rfl, rfl⟩))
      go_ret
      exact ⟨ret_int (by rw [H.out]; first | rw [if_pos H2.out] | rw [if_neg H2.out]), hw2.alloc (by omega) _⟩
end Go.Proofs.YtpbpkdhdjdaiiaaDoor
