/- The walks of the reference's colour at an angle. -/
import Derived.Test.YtpbpkdhdjdaiiaaHslP
import Derived.Test.YtpbpkdhdjdaiiaaModW
namespace Go.Proofs.Ytpbpkdhdjdaiiaa
open Go.RowKit Flt

theorem ref_size (x : Nat) (f : Fnt x) : Tells 27 #[.float .f64 x] (.float .f64 (sizeW x)) := by
  intro w
  have o := order_lt f fin0
  rw [val0] at o
  by_cases c : val x < 0
  · have g : (FloatKind.f64.format.order x 0 == some .lt) = true := o.2 c
    have H : Hid (sizeW x = negW x) := by unfold Hid sizeW; rw [if_pos c]
    clear o c
    go_enter Try.func27, Try.ntmps27
    go_wp2
    go_ret
    exact ⟨ret_float (by rw [H.out]), rfl⟩
  · have g : (FloatKind.f64.format.order x 0 == some .lt) = false := by
      have : ¬ (Ieee.double.order x 0 == some .lt) = true := fun h => c (o.1 h)
      exact (Bool.not_eq_true _).mp this
    have H : Hid (sizeW x = x) := by unfold Hid sizeW; rw [if_neg c]
    clear o c
    go_enter Try.func27, Try.ntmps27
    go_wp2
    go_ret
    exact ⟨ret_float (by rw [H.out]), rfl⟩

theorem ref_level {v m v' m' : Nat} {n : Int} (h : LevOk v m v' m' n) (fv : Fnt v') (fm : Fnt m') : Tells 29 #[.float .f64 v', .float .f64 m'] (.int .i64 (levC v m)) := by
  intro w
  have a1 := h.a.r
  have a2 := h.b.r
  have a3 := h.c.r
  have e := levC_of h
  have g : Fnt (ffloor (fadd (fmul (fadd v' m') 4643176031446892544) 4602678819172646912)) := h.f'
  have gv : val (ffloor (fadd (fmul (fadd v' m') 4643176031446892544) 4602678819172646912)) = (n:Rat) := h.v'
  have lo := h.lo
  have hi := h.hi
  have l255 : ((255:Int):Rat) = 255 := by decide +kernel
  have o1 := order_lt g fin0
  have o2 := order_gt g fin255
  rw [gv, val0, ← lit0, Rat.intCast_lt_intCast] at o1
  rw [gv, val255, ← l255, Rat.intCast_lt_intCast] at o2
  have hc := conv_int _ _ g gv (by omega) (by omega)
  have b1 : (FloatKind.f64.format.order (ffloor (fadd (fmul (fadd v' m') 4643176031446892544) 4602678819172646912)) 0 == some .lt) = decide (n < 0) := by
    rw [Bool.eq_iff_iff, decide_eq_true_iff]; exact o1
  have b2 : (FloatKind.f64.format.order (ffloor (fadd (fmul (fadd v' m') 4643176031446892544) 4602678819172646912)) 4643176031446892544 == some .gt) = decide (255 < n) := by
    rw [Bool.eq_iff_iff, decide_eq_true_iff]; exact o2
  have f255 := fin255
  have fH := finH
  have cf := Lib.hid (math_Floor _ a3)
  clear h gv g o1 o2 l255 lo hi
  by_cases c1 : n < 0
  · have H : Hid (levC v m = 0) := by unfold Hid; rw [e]; omega
    simp only [c1, decide_true] at b1
    clear e c1 b2 hc
    go_enter Try.func29, Try.ntmps29
    go_wp2_with (go_at_call 14; refine (cf.out _).mono ?_; rintro e w' ⟨rfl, rfl⟩)
    go_ret
    exact ⟨ret_int (by rw [H.out]), rfl⟩
  · by_cases c2 : 255 < n
    · have H : Hid (levC v m = 255) := by unfold Hid; rw [e]; omega
      simp only [c1, decide_false] at b1
      simp only [c2, decide_true] at b2
      clear e c1 c2 hc
      go_enter Try.func29, Try.ntmps29
      go_wp2_with (go_at_call 14; refine (cf.out _).mono ?_; rintro e w' ⟨rfl, rfl⟩)
      go_ret
      exact ⟨ret_int (by rw [H.out]), rfl⟩
    · have H : Hid (levC v m = n) := by unfold Hid; rw [e]; omega
      simp only [c1, decide_false] at b1
      simp only [c2, decide_false] at b2
      clear e c1 c2
      go_enter Try.func29, Try.ntmps29
      go_wp2_with (go_at_call 14; refine (cf.out _).mono ?_; rintro e w' ⟨rfl, rfl⟩)
      go_ret
      exact ⟨ret_int (by rw [H.out]), rfl⟩

theorem maxF : Fnt 9218868437227405311 := by unfold Fnt; decide
theorem minF : Fnt 18442240474082181119 := by unfold Fnt; decide

/-- what the reference's test on h comes to -/
theorem angle_test (h : Nat) :
    (Fnt h ∧ (Ieee.double.order h h != some .eq) = false ∧ (Ieee.double.order h 9218868437227405311 == some .gt) = false ∧ (Ieee.double.order h 18442240474082181119 == some .lt) = false) ∨
    (¬ Fnt h ∧ (Ieee.double.order h h != some .eq) = true) ∨
    (¬ Fnt h ∧ (Ieee.double.order h h != some .eq) = false ∧ (Ieee.double.order h 9218868437227405311 == some .gt) = true) ∨
    (¬ Fnt h ∧ (Ieee.double.order h h != some .eq) = false ∧ (Ieee.double.order h 9218868437227405311 == some .gt) = false ∧ (Ieee.double.order h 18442240474082181119 == some .lt) = true) := by
  by_cases f : Fnt h
  · left
    obtain ⟨f1, e1⟩ := abs_val f
    have m := (pos_mono (x := h % 9223372036854775808) (y := 9218868437227405311) (by unfold Fnt at f; omega) (by decide)).1.1 (by unfold Fnt at f; omega)
    have og := order_gt f maxF
    have ol := order_lt f minF
    have vm : val 18442240474082181119 = - val 9218868437227405311 := by decide +kernel
    refine ⟨f, nan_fin f, ?_, ?_⟩
    · have : ¬ (Ieee.double.order h 9218868437227405311 == some .gt) = true := fun g => by
        have := og.1 g
        rw [e1] at m
        split at m <;> grind
      exact (Bool.not_eq_true _).mp this
    · have : ¬ (Ieee.double.order h 18442240474082181119 == some .lt) = true := fun g => by
        have := ol.1 g
        rw [vm] at this
        rw [e1] at m
        split at m <;> grind
      exact (Bool.not_eq_true _).mp this
  · right
    have big : Ieee.double.read 9218868437227405311 = .number false 9007199254740991 971 := by decide +kernel
    have bign : Ieee.double.read 18442240474082181119 = .number true 9007199254740991 971 := by decide +kernel
    rcases read_infin f with ⟨s, hr⟩ | ⟨s, g, hr⟩
    · right
      have ot : Ieee.double.order h h = some .eq := by unfold Ieee.Format.order; rw [hr]; cases s <;> rfl
      have o1 : Ieee.double.order h 9218868437227405311 = some (if s then .lt else .gt) := by unfold Ieee.Format.order; rw [hr, big]; rfl
      have o2 : Ieee.double.order h 18442240474082181119 = some (if s then .lt else .gt) := by unfold Ieee.Format.order; rw [hr, bign]; rfl
      rw [ot, o1, o2]
      cases s
      · left; exact ⟨f, rfl, rfl⟩
      · right; exact ⟨f, rfl, rfl, rfl⟩
    · left
      have ot : Ieee.double.order h h = none := by unfold Ieee.Format.order; rw [hr]; rfl
      rw [ot]; exact ⟨f, rfl⟩

set_option maxHeartbeats 1000000 in
theorem ref_angle (h : Nat) (l : h < 18446744073709551616) : Tells 28 #[.float .f64 h] (.float .f64 (angW h)) := by
  intro w
  rcases angle_test h with ⟨f, n, g1, g2⟩ | ⟨f, n⟩ | ⟨f, n, g1⟩ | ⟨f, n, g1, g2⟩
  · have C := Lib.hid (math_Mod h 4645040803167600640 f l nrm360)
    obtain ⟨x1, x2, x3, x4, x5, x6⟩ := ang_ok h f l
    have e1 : ang1 h = modW h 4645040803167600640 := rfl
    rw [← e1] at C
    have olt := order_lt x1 fin0
    rw [val0] at olt
    have og := order_gt x2 fin360
    have oe := order_same x2 fin360
    rw [val360] at og oe
    have b1 : (FloatKind.f64.format.order (ang1 h) 0 == some .lt) = decide (val (ang1 h) < 0) := by
      show (Ieee.double.order (ang1 h) 0 == some .lt) = _
      rw [Bool.eq_iff_iff, olt, decide_eq_true_iff]
    have b2 : (FloatKind.f64.format.order (ang2 h) 4645040803167600640 == some .gt || FloatKind.f64.format.order (ang2 h) 4645040803167600640 == some .eq) = decide ((360:Rat) ≤ val (ang2 h)) := by
      show ((Ieee.double.order (ang2 h) 4645040803167600640 == some .gt) || (Ieee.double.order (ang2 h) 4645040803167600640 == some .eq)) = _
      rw [Bool.eq_iff_iff, Bool.or_eq_true, og, oe, decide_eq_true_iff]
      constructor
      · rintro (g | g) <;> grind
      · intro g
        by_cases c : val (ang2 h) = 360
        · exact Or.inr c
        · left; grind
    have HA : angW h = if (360:Rat) ≤ val (ang2 h) then 0 else ang2 h := by unfold angW; exact if_pos f
    have f360 := fin360
    have n' : (FloatKind.f64.format.order h h != some .eq) = false := n
    have g1' : (FloatKind.f64.format.order h 9218868437227405311 == some .gt) = false := g1
    have g2' : (FloatKind.f64.format.order h 18442240474082181119 == some .lt) = false := g2
    clear e1 olt og oe x3 x4 x5 x6 n g1 g2 f l
    by_cases c : val (ang1 h) < 0
    · have e2 : ang2 h = fadd (ang1 h) 4645040803167600640 := by unfold ang2; rw [if_pos c]
      simp only [c, decide_true] at b1
      rw [e2] at b2 x2
      by_cases d : (360:Rat) ≤ val (ang2 h)
      all_goals
        first | (have H : Hid (angW h = 0) := by rw [HA, if_pos d]; rfl) | (have H : Hid (angW h = fadd (ang1 h) 4645040803167600640) := by rw [HA, if_neg d]; exact e2)
        rw [e2] at d
        simp only [d, decide_true, decide_false] at b2
        clear HA e2 c d
        go_enter Try.func28, Try.ntmps28
        go_wp2_with (go_at_call 25; refine (C.out _).mono ?_; rintro e w' ⟨rfl, rfl⟩)
        go_ret
        exact ⟨ret_float (by rw [H.out]), rfl⟩
    · have e2 : ang2 h = ang1 h := by unfold ang2; rw [if_neg c]
      simp only [c, decide_false] at b1
      rw [e2] at b2 x2
      by_cases d : (360:Rat) ≤ val (ang2 h)
      all_goals
        first | (have H : Hid (angW h = 0) := by rw [HA, if_pos d]; rfl) | (have H : Hid (angW h = ang1 h) := by rw [HA, if_neg d]; exact e2)
        rw [e2] at d
        simp only [d, decide_true, decide_false] at b2
        clear HA e2 c d
        go_enter Try.func28, Try.ntmps28
        go_wp2_with (go_at_call 25; refine (C.out _).mono ?_; rintro e w' ⟨rfl, rfl⟩)
        go_ret
        exact ⟨ret_float (by rw [H.out]), rfl⟩
  all_goals
    have H : Hid (angW h = 0) := by unfold Hid angW; exact if_neg f
    try have n' : (FloatKind.f64.format.order h h != some .eq) = false := n
    try have n' : (FloatKind.f64.format.order h h != some .eq) = true := n
    try have g1' : (FloatKind.f64.format.order h 9218868437227405311 == some .gt) = false := g1
    try have g1' : (FloatKind.f64.format.order h 9218868437227405311 == some .gt) = true := g1
    try have g2' : (FloatKind.f64.format.order h 18442240474082181119 == some .lt) = true := g2
    clear f n l
    go_enter Try.func28, Try.ntmps28
    go_wp2
    go_ret
    exact ⟨ret_float (by rw [H.out]), rfl⟩

set_option maxHeartbeats 4000000 in
set_option maxRecDepth 100000 in
theorem ref_FromHSL (h s l : Nat) (hh : h < 18446744073709551616) : Tells 10 #[.float .f64 h, .float .f64 s, .float .f64 l] (.int .i32 (hslV h s l)) := by
  intro w
  obtain ⟨a4, a5, a6⟩ := angW_ok h hh
  obtain ⟨us, us', us0, us1, use⟩ := units s
  obtain ⟨ul, ul', ul0, ul1, ule⟩ := units l
  have ok := hsl_ok a4 a5 a6 ⟨us, us', use.symm⟩ us0 us1 ⟨ul, ul', ule.symm⟩ ul0 ul1
  obtain ⟨_, lc⟩ := lev_ok ok.c ok.m ok.c0 ok.c1 ok.m0 ok.m1
  obtain ⟨_, lx⟩ := lev_ok ok.x ok.m ok.x0 ok.x1 ok.m0 ok.m1
  obtain ⟨_, lz⟩ := lev_ok (Sv.refl fin0) ok.m (by rw [val0]; decide) (by rw [val0]; decide) ok.m0 ok.m1
  have c1 := Lib.hid (ref_level lc ok.c.r ok.m.r)
  have c2 := Lib.hid (ref_level lx ok.x.r ok.m.r)
  have c3 := Lib.hid (ref_level lz fin0 ok.m.r)
  obtain ⟨g1, g2, g3, g4, _, _⟩ := flE_ok ok.e ok.e0 ok.e1
  have gl := Lib.hid (math_Floor _ ok.e)
  have hc := conv_int _ _ g1 g2 (by omega) (by omega)
  have t1 := ok.t1.r
  have t2 := ok.tl.a.r
  have z1 := Lib.hid (ref_size _ ok.tl.a.r)
  have t3 := ok.tl.b.r
  have t4 := ok.tl.c.r
  have t5 := ok.c.r
  have t6 := ok.m2
  have t7 := ok.te.a.r
  have z2 := Lib.hid (ref_size _ ok.te.a.r)
  have t8 := ok.te.b.r
  have t9 := ok.te.c.r
  have t10 := ok.d.r
  have t11 := ok.m.r
  have t12 := ok.x.r
  have t13 := ok.e
  have cm := Lib.hid (math_Mod (hE (angW h)) 4611686018427387904 ok.e ok.el nrm2)
  have ca := Lib.hid (ref_angle h hh)
  have eC : fmul (fsub 4607182418800017408 (sizeW (fsub (fmul 4611686018427387904 (unitR l)) 4607182418800017408))) (unitR s) = hC' (unitR s) (unitR l) := rfl
  have eE : fdiv (angW h) 4633641066610819072 = hE (angW h) := rfl
  have eX : fmul (hC' (unitR s) (unitR l)) (fsub 4607182418800017408 (sizeW (fsub (modW (hE (angW h)) 4611686018427387904) 4607182418800017408))) = hX' (hC' (unitR s) (unitR l)) (hE (angW h)) := rfl
  have eM : fsub (unitR l) (fdiv (hC' (unitR s) (unitR l)) 4611686018427387904) = hM (unitR l) (hC' (unitR s) (unitR l)) := rfl
  have f0 := fin0
  have f1 := fin1
  have f2 := fin2
  have f60 := fin60
  have n60 : val 4633641066610819072 ≠ 0 := by rw [val60]; decide
  have n2 : val 4611686018427387904 ≠ 0 := by rw [val2]; decide
  have HV : Hid (hslV h s l = 16777216 + 65536 * (pick6 (flE (hE (angW h))) (levC (hC (unitW s) (unitW l)) (hM (unitW l) (hC (unitW s) (unitW l)))) (levC (hX (hC (unitW s) (unitW l)) (hE (angW h))) (hM (unitW l) (hC (unitW s) (unitW l)))) (levC 0 (hM (unitW l) (hC (unitW s) (unitW l))))).1
  + 256 * (pick6 (flE (hE (angW h))) (levC (hC (unitW s) (unitW l)) (hM (unitW l) (hC (unitW s) (unitW l)))) (levC (hX (hC (unitW s) (unitW l)) (hE (angW h))) (hM (unitW l) (hC (unitW s) (unitW l)))) (levC 0 (hM (unitW l) (hC (unitW s) (unitW l))))).2.1
  + (pick6 (flE (hE (angW h))) (levC (hC (unitW s) (unitW l)) (hM (unitW l) (hC (unitW s) (unitW l)))) (levC (hX (hC (unitW s) (unitW l)) (hE (angW h))) (hM (unitW l) (hC (unitW s) (unitW l)))) (levC 0 (hM (unitW l) (hC (unitW s) (unitW l))))).2.2) := rfl
  have lv1 := levC_range (hC (unitW s) (unitW l)) (hM (unitW l) (hC (unitW s) (unitW l)))
  have lv2 := levC_range (hX (hC (unitW s) (unitW l)) (hE (angW h))) (hM (unitW l) (hC (unitW s) (unitW l)))
  have lv3 := levC_range 0 (hM (unitW l) (hC (unitW s) (unitW l)))
  generalize levC (hC (unitW s) (unitW l)) (hM (unitW l) (hC (unitW s) (unitW l))) = L1 at *
  generalize levC (hX (hC (unitW s) (unitW l)) (hE (angW h))) (hM (unitW l) (hC (unitW s) (unitW l))) = L2 at *
  generalize levC 0 (hM (unitW l) (hC (unitW s) (unitW l))) = L3 at *
  generalize flE (hE (angW h)) = k at *
  generalize ffloor (hE (angW h)) = F at *
  have LVV : Hid ((0 ≤ L1 ∧ L1 ≤ 255) ∧ (0 ≤ L2 ∧ L2 ≤ 255) ∧ (0 ≤ L3 ∧ L3 ≤ 255)) := ⟨lv1, lv2, lv3⟩
  clear lc lx lz g1 g2 ok lv1 lv2 lv3 a5 a6 us0 us1 use ul0 ul1 ule us ul hh
  have kk : k = 0 ∨ k = 1 ∨ k = 2 ∨ k = 3 ∨ k = 4 ∨ k = 5 ∨ k = 6 := by omega
  clear g3 g4
  rcases kk with rfl | rfl | rfl | rfl | rfl | rfl | rfl
  all_goals
    go_enter Try.func10, Try.ntmps10
    go_wp2_with (first | (go_at_call 16; refine (ref_Unit _ _).mono ?_; rintro e w' ⟨rfl, rfl⟩) | (go_at_call 27; refine (ref_size _ (by assumption) _).mono ?_; rintro e w' ⟨rfl, rfl⟩) | (go_at_call 28; refine (ca.out _).mono ?_; rintro e w' ⟨rfl, rfl⟩) | (go_at_call 25; refine (cm.out _).mono ?_; rintro e w' ⟨rfl, rfl⟩) | (go_at_call 14; refine (gl.out _).mono ?_; rintro e w' ⟨rfl, rfl⟩) | (go_at_call 29; first | ((with_reducible refine (c1.out _).mono ?_); rintro e w' ⟨rfl, rfl⟩) | ((with_reducible refine (c2.out _).mono ?_); rintro e w' ⟨rfl, rfl⟩) | ((with_reducible refine (c3.out _).mono ?_); rintro e w' ⟨rfl, rfl⟩)))
    refine (ref_colour _ _ _ (by have := LVV.out; omega) (by have := LVV.out; omega) (by have := LVV.out; omega) (by have := LVV.out; omega) (by have := LVV.out; omega) (by have := LVV.out; omega) _).mono ?_
    rintro e w' ⟨rfl, rfl⟩
    go_wp2_with fail
    go_ret
    exact ⟨ret_int (by rw [HV.out]; simp [pick6]), rfl⟩
end Go.Proofs.Ytpbpkdhdjdaiiaa
