/- The walks of the colour at an angle. -/
import Derived.Test.YtpbpkdhdjdaiiaaDoorHslP
import Derived.Test.YtpbpkdhdjdaiiaaDoorModW
import Derived.Deep.DeepCutAuto
namespace Go.Proofs.YtpbpkdhdjdaiiaaDoor
open Go.RowKit Flt

def w1 (h : Nat) : Nat := if h % 9223372036854775808 < 9218868437227405312 then ang1 h else 0
def w2 (h : Nat) : Nat := if val (w1 h) < 0 then fadd (w1 h) 4645040803167600640 else w1 h

theorem w_ok (h : Nat) (l : h < 18446744073709551616) : Fnt (w1 h) ∧ Fnt (w2 h) ∧ (if (360:Rat) ≤ val (w2 h) then 0 else w2 h) = angW h := by
  unfold w2 w1 angW
  by_cases f : h % 9223372036854775808 < 9218868437227405312
  · rw [if_pos f, if_pos f]
    obtain ⟨a, b, _⟩ := ang_ok h f l
    exact ⟨a, b, rfl⟩
  · rw [if_neg f, if_neg f, if_neg (by rw [val0]; decide), if_neg (by rw [val0]; decide)]
    exact ⟨fin0, fin0, rfl⟩

theorem nonfin {h : Nat} (f : ¬ Fnt h) : (Ieee.double.order h h != some .eq) = true ∨ ((Ieee.double.order h h != some .eq) = false ∧ (Ieee.double.order (h % 9223372036854775808) 9218868437227405311 == some .gt) = true) := by
  have big : Ieee.double.read 9218868437227405311 = .number false 9007199254740991 971 := by decide +kernel
  rcases read_infin f with ⟨s, hr⟩ | ⟨s, g, hr⟩
  · right
    have ot : Ieee.double.order h h = some .eq := by unfold Ieee.Format.order; rw [hr]; cases s <;> rfl
    have e : h % 9223372036854775808 = 9218868437227405312 := by
      unfold Ieee.Format.read at hr
      rw [sw, bin, infr] at hr
      unfold Fnt at f
      have c : ¬ h % 9223372036854775808 < 4503599627370496 := by omega
      simp only [c, f, if_false] at hr
      by_cases d : h % 9223372036854775808 = 9218868437227405312
      · exact d
      · rw [if_neg d] at hr; cases hr
    rw [ot, e]
    exact ⟨rfl, by decide +kernel⟩
  · left
    have ot : Ieee.double.order h h = none := by unfold Ieee.Format.order; rw [hr]; rfl
    rw [ot]; rfl

/-- What a round of FromHSL's loop leans on. -/
theorem ch_round {v m v' m' : Nat} {n : Int} (h : LevOk v m v' m' n) :
    Fnt (fadd v m) ∧ Fnt (fmul (fadd v m) 4643176031446892544) ∧ Fnt (fadd (fmul (fadd v m) 4643176031446892544) 4602678819172646912) ∧
    (Ieee.double.order (ffloor (fadd (fmul (fadd v m) 4643176031446892544) 4602678819172646912)) 0).isSome = true ∧
    (Ieee.double.order (fmaxW (ffloor (fadd (fmul (fadd v m) 4643176031446892544) 4602678819172646912)) 0) 4643176031446892544).isSome = true ∧
    (∀ w, (convert 30 5 (.float .f64 (fminW (fmaxW (ffloor (fadd (fmul (fadd v m) 4643176031446892544) 4602678819172646912)) 0) 4643176031446892544))).run Tryd.prog w = .ok (.int .u8 (levC v m)) w) := by
  have f : Fnt (ffloor (fadd (fmul (fadd v m) 4643176031446892544) 4602678819172646912)) := h.f
  have e : val (ffloor (fadd (fmul (fadd v m) 4643176031446892544) 4602678819172646912)) = (n:Rat) := h.v
  generalize ffloor (fadd (fmul (fadd v m) 4643176031446892544) 4602678819172646912) = F at *
  obtain ⟨a1, a2, a3, a4⟩ := fmax_val f fin0
  obtain ⟨b1, b2, b3, b4⟩ := fmin_val a1 fin255
  refine ⟨h.a.l, h.b.l, h.c.l, order_some f fin0, order_some a1 fin255, ?_⟩
  rw [levC_of h]
  have l255 : ((255:Int):Rat) = 255 := by decide +kernel
  have v1 : val (fmaxW F 0) = ((max 0 n : Int):Rat) := by
    rw [val0] at a4
    by_cases c : 0 ≤ n
    · have c' : (0:Rat) ≤ (n:Rat) := by rw [← lit0]; exact Rat.intCast_le_intCast.2 c
      rw [show max 0 n = n by omega]
      rcases a2 with g | g
      · rw [g, e]
      · rw [g, val0] at a3 a4 ⊢; grind
    · have c' : (n:Rat) < 0 := by rw [← lit0]; exact Rat.intCast_lt_intCast.2 (by omega)
      rw [show max 0 n = 0 by omega, lit0]
      rcases a2 with g | g
      · rw [g, e] at a4; grind
      · rw [g, val0]
  have v2 : val (fminW (fmaxW F 0) 4643176031446892544) = ((max 0 (min 255 n) : Int):Rat) := by
    rw [val255] at b4
    by_cases c : max 0 n ≤ 255
    · have c' : ((max 0 n : Int):Rat) ≤ 255 := by rw [← l255]; exact Rat.intCast_le_intCast.2 c
      rw [show max 0 (min 255 n) = max 0 n by omega]
      rcases b2 with g | g
      · rw [g, v1]
      · rw [g, val255] at b3 b4 ⊢; rw [v1] at b3; grind
    · have c' : (255:Rat) < ((max 0 n : Int):Rat) := by rw [← l255]; exact Rat.intCast_lt_intCast.2 (by omega)
      rw [show max 0 (min 255 n) = 255 by omega, l255]
      rcases b2 with g | g
      · rw [g, v1] at b4; grind
      · rw [g, val255]
  exact conv_u8 _ _ b1 v2 (by omega) (by omega)

theorem eq_word {F K : Nat} {k c : Int} (f : Fnt F) (fk : Fnt K) (v : val F = (k:Rat)) (vk : val K = (c:Rat)) : (FloatKind.f64.format.order F K == some .eq) = decide (k = c) := by
  have o := order_same f fk
  show (Ieee.double.order F K == some .eq) = _
  rw [Bool.eq_iff_iff, o, v, vk, decide_eq_true_iff]
  exact Rat.intCast_inj

set_option maxHeartbeats 8000000 in
set_option maxRecDepth 100000 in
theorem tint_FromHSL (h s l : Nat) (hh : h < 18446744073709551616) : Gives 44 #[.float .f64 h, .float .f64 s, .float .f64 l] (.int .i32 (hslV h s l)) := by
  intro w
  obtain ⟨a1, a2, a3⟩ := w_ok h hh
  obtain ⟨a4, a5, a6⟩ := angW_ok h hh
  obtain ⟨us, _, us0, us1, _⟩ := units s
  obtain ⟨ul, _, ul0, ul1, _⟩ := units l
  have ok := hsl_ok a4 a5 a6 (Sv.refl us) us0 us1 (Sv.refl ul) ul0 ul1
  have three : ((Ieee.double.order h h != some .eq) = false ∧ (Ieee.double.order (h % 9223372036854775808) 9218868437227405311 == some .gt) = false ∧ Fnt h ∧ w1 h = ang1 h) ∨ ((Ieee.double.order h h != some .eq) = true ∧ ¬ Fnt h ∧ w1 h = 0) ∨ ((Ieee.double.order h h != some .eq) = false ∧ (Ieee.double.order (h % 9223372036854775808) 9218868437227405311 == some .gt) = true ∧ ¬ Fnt h ∧ w1 h = 0) := by
    by_cases f : Fnt h
    · exact Or.inl ⟨nan_fin f, inf_fin f, f, by unfold w1; exact if_pos f⟩
    · have e : w1 h = 0 := by unfold w1; exact if_neg f
      rcases nonfin f with g | ⟨g, g'⟩
      · exact Or.inr (Or.inl ⟨g, f, e⟩)
      · exact Or.inr (Or.inr ⟨g, g', f, e⟩)
  have olt := order_lt a1 fin0
  rw [val0] at olt
  have og := order_gt a2 fin360
  have oe := order_same a2 fin360
  rw [val360] at og oe
  have b1 : (FloatKind.f64.format.order (w1 h) 0 == some .lt) = decide (val (w1 h) < 0) := by
    show (Ieee.double.order (w1 h) 0 == some .lt) = _
    rw [Bool.eq_iff_iff, olt, decide_eq_true_iff]
  have b2 : (FloatKind.f64.format.order (w2 h) 4645040803167600640 == some .gt || FloatKind.f64.format.order (w2 h) 4645040803167600640 == some .eq) = decide ((360:Rat) ≤ val (w2 h)) := by
    show ((Ieee.double.order (w2 h) 4645040803167600640 == some .gt) || (Ieee.double.order (w2 h) 4645040803167600640 == some .eq)) = _
    rw [Bool.eq_iff_iff, Bool.or_eq_true, og, oe, decide_eq_true_iff]
    constructor
    · rintro (g | g) <;> grind
    · intro g
      by_cases c : val (w2 h) = 360
      · exact Or.inr c
      · left; grind
  have B1 := Lib.hid b1
  have B2 := Lib.hid b2
  have A3 := Lib.hid a3
  have A1 := Lib.hid a1
  have A2 := Lib.hid a2
  have OK := Lib.hid ok
  have f360 := fin360
  have FE := Lib.hid (flE_ok ok.e ok.e0 ok.e1)
  clear a1 a2 a3 a4 a5 a6 us0 us1 ul0 ul1 ok olt og oe b1 b2
  have T := Lib.hid three
  clear three
  have finB : ∃ b : Bool, b = decide (h % 9223372036854775808 < 9218868437227405312) := ⟨_, rfl⟩
  obtain ⟨b, hb⟩ := finB
  have HB := Lib.hid hb
  clear hb
  go_enter Tryd.func44, Tryd.ntmps44
  go_upto_region 3 with (first | (go_at_call 62; refine (tint_unit _ _).mono ?_; rintro e w' ⟨rfl, rfl⟩))
  go_cut [26] (fun s26 wx => s26 = .bool b ∧ wx = w)
  case first =>
    rcases T.out with ⟨n, i, f, e⟩ | ⟨n, f, e⟩ | ⟨n, i, f, e⟩
    · have hb : b = true := by rw [HB.out, decide_eq_true_iff]; exact f
      have HB2 := Lib.hid hb
      clear e f hb
      go_wp2_with (first | (go_at_call 66; refine (math_IsNaN _ _).mono ?_; rw [n]; rintro e w' ⟨rfl, rfl⟩) | (go_at_call 67; refine (math_IsInf _ hh _).mono ?_; rw [i]; rintro e w' ⟨rfl, rfl⟩))
      go_meet
      exact ⟨by rw [HB2.out], rfl⟩
    · have hb : b = false := by rw [HB.out, decide_eq_false_iff_not]; exact f
      have HB2 := Lib.hid hb
      clear e f hb
      go_wp2_with (first | (go_at_call 66; refine (math_IsNaN _ _).mono ?_; rw [n]; rintro e w' ⟨rfl, rfl⟩))
      go_meet
      exact ⟨by rw [HB2.out], rfl⟩
    · have hb : b = false := by rw [HB.out, decide_eq_false_iff_not]; exact f
      have HB2 := Lib.hid hb
      clear e f hb
      go_wp2_with (first | (go_at_call 66; refine (math_IsNaN _ _).mono ?_; rw [n]; rintro e w' ⟨rfl, rfl⟩) | (go_at_call 67; refine (math_IsInf _ hh _).mono ?_; rw [i]; rintro e w' ⟨rfl, rfl⟩))
      go_meet
      exact ⟨by rw [HB2.out], rfl⟩
  case rest =>
    obtain ⟨rfl, rfl⟩ := hcut
    go_upto_if 26 with fail
    go_cut [7] (fun s7 wx => s7 = .float .f64 (w1 h) ∧ wx = wc)
    case first =>
      cases b
      · have e1 : w1 h = 0 := by have := HB.out; unfold w1; rw [if_neg (by simpa using this)]
        have E1 := Lib.hid e1
        clear e1
        go_wp2_with fail
        go_meet
        exact ⟨by rw [E1.out], rfl⟩
      · have hf : h % 9223372036854775808 < 9218868437227405312 := by have := HB.out; simpa using this
        have e1 : w1 h = modW h 4645040803167600640 := by unfold w1; rw [if_pos hf]; rfl
        have E1 := Lib.hid e1
        have C := Lib.hid (math_Mod h 4645040803167600640 hf hh nrm360)
        clear e1 hf
        go_wp2_with (go_at_call 68; refine (C.out _).mono ?_; rintro e w' ⟨rfl, rfl⟩)
        go_meet
        exact ⟨by rw [E1.out], rfl⟩
    case rest =>
      obtain ⟨rfl, rfl⟩ := hcut
      go_upto_if 30 with fail
      go_cut [7] (fun s7 wx => s7 = .float .f64 (w2 h) ∧ wx = wc)
      case first =>
        have b1 := B1.out
        have a1 := A1.out
        by_cases c : val (w1 h) < 0
        · have E2 : Hid (w2 h = fadd (w1 h) 4645040803167600640) := by unfold Hid w2; rw [if_pos c]
          simp only [c, decide_true] at b1
          clear c
          rw [b1]
          go_wp2_with fail
          go_meet
          exact ⟨by rw [E2.out], rfl⟩
        · have E2 : Hid (w2 h = w1 h) := by unfold Hid w2; rw [if_neg c]
          simp only [c, decide_false] at b1
          clear c
          rw [b1]
          go_wp2_with fail
          go_meet
          exact ⟨by rw [E2.out], rfl⟩
      case rest =>
        obtain ⟨rfl, rfl⟩ := hcut
        go_upto_if 34 with fail
        go_cut [7] (fun s7 wx => s7 = .float .f64 (angW h) ∧ wx = wc)
        case first =>
          have b2 := B2.out
          have a2 := A2.out
          by_cases c : (360:Rat) ≤ val (w2 h)
          · have E2 : Hid (angW h = 0) := by have := A3.out; rw [if_pos c] at this; exact this.symm
            simp only [c, decide_true] at b2
            clear c
            rw [b2]
            go_wp2_with fail
            go_meet
            exact ⟨by rw [E2.out], rfl⟩
          · have E2 : Hid (angW h = w2 h) := by have := A3.out; rw [if_neg c] at this; exact this.symm
            simp only [c, decide_false] at b2
            clear c
            rw [b2]
            go_wp2_with fail
            go_meet
            exact ⟨by rw [E2.out], rfl⟩
        case rest =>
          obtain ⟨rfl, rfl⟩ := hcut
          have ok := OK.out
          obtain ⟨_, lc⟩ := lev_ok ok.c ok.m ok.c0 ok.c1 ok.m0 ok.m1
          obtain ⟨_, lx⟩ := lev_ok ok.x ok.m ok.x0 ok.x1 ok.m0 ok.m1
          obtain ⟨_, lz⟩ := lev_ok (Sv.refl fin0) ok.m (by rw [val0]; decide) (by rw [val0]; decide) ok.m0 ok.m1
          obtain ⟨p1, p2, p3, p4, p5, p6⟩ := ch_round lc
          obtain ⟨q1, q2, q3, q4, q5, q6⟩ := ch_round lx
          obtain ⟨r1, r2, r3, r4, r5, r6⟩ := ch_round lz
          obtain ⟨g1, g2, g3, g4, _, _⟩ := FE.out
          have gl := Lib.hid (math_Floor _ ok.e)
          have k0 := eq_word g1 fin0 g2 (c := 0) (by rw [val0]; rfl)
          have k1 := eq_word g1 fin1 g2 (c := 1) (by rw [val1]; rfl)
          have k2 := eq_word g1 fin2 g2 (c := 2) (by rw [val2, lit2])
          have k3 := eq_word g1 fin3 g2 (c := 3) (by rw [val3]; decide +kernel)
          have k4 := eq_word g1 fin4 g2 (c := 4) (by rw [val4]; decide +kernel)
          have t1 := ok.t1.l
          have t2 := ok.tl.a.l
          have t2l := fsub_lt ok.t1.l fin1
          have t3 := ok.tl.b.l
          have t4 := ok.tl.c.l
          have t5 := ok.c.l
          have t6 := ok.m2
          have t7 := ok.te.a.l
          have t7l := fsub_lt ok.m2 fin1
          have t8 := ok.te.b.l
          have t9 := ok.te.c.l
          have t10 := ok.d.l
          have t11 := ok.m.l
          have t12 := ok.x.l
          have t13 := ok.e
          have cm := Lib.hid (math_Mod (hE (angW h)) 4611686018427387904 ok.e ok.el nrm2)
          have eC : fmul (fsub 4607182418800017408 (fsub (fmul 4611686018427387904 (unitW l)) 4607182418800017408 % 9223372036854775808)) (unitW s) = hC (unitW s) (unitW l) := rfl
          have eE : fdiv (angW h) 4633641066610819072 = hE (angW h) := rfl
          have eX : fmul (hC (unitW s) (unitW l)) (fsub 4607182418800017408 (fsub (modW (hE (angW h)) 4611686018427387904) 4607182418800017408 % 9223372036854775808)) = hX (hC (unitW s) (unitW l)) (hE (angW h)) := rfl
          have eM : fsub (unitW l) (fdiv (hC (unitW s) (unitW l)) 4611686018427387904) = hM (unitW l) (hC (unitW s) (unitW l)) := rfl
          have a4 := (angW_ok h hh).1
          have f0 := fin0
          have f1 := fin1
          have f2 := fin2
          have f60 := fin60
          have n60 : val 4633641066610819072 ≠ 0 := by rw [val60]; decide
          have n2 : val 4611686018427387904 ≠ 0 := by rw [val2]; decide
          have f255 := fin255
          have fH := finH
          have HV : Hid (hslV h s l = 16777216 + 65536 * (pick6 (flE (hE (angW h))) (levC (hC (unitW s) (unitW l)) (hM (unitW l) (hC (unitW s) (unitW l)))) (levC (hX (hC (unitW s) (unitW l)) (hE (angW h))) (hM (unitW l) (hC (unitW s) (unitW l)))) (levC 0 (hM (unitW l) (hC (unitW s) (unitW l))))).1
  + 256 * (pick6 (flE (hE (angW h))) (levC (hC (unitW s) (unitW l)) (hM (unitW l) (hC (unitW s) (unitW l)))) (levC (hX (hC (unitW s) (unitW l)) (hE (angW h))) (hM (unitW l) (hC (unitW s) (unitW l)))) (levC 0 (hM (unitW l) (hC (unitW s) (unitW l))))).2.1
  + (pick6 (flE (hE (angW h))) (levC (hC (unitW s) (unitW l)) (hM (unitW l) (hC (unitW s) (unitW l)))) (levC (hX (hC (unitW s) (unitW l)) (hE (angW h))) (hM (unitW l) (hC (unitW s) (unitW l)))) (levC 0 (hM (unitW l) (hC (unitW s) (unitW l))))).2.2) := rfl
          have lv1 := levC_range (hC (unitW s) (unitW l)) (hM (unitW l) (hC (unitW s) (unitW l)))
          have lv2 := levC_range (hX (hC (unitW s) (unitW l)) (hE (angW h))) (hM (unitW l) (hC (unitW s) (unitW l)))
          have lv3 := levC_range 0 (hM (unitW l) (hC (unitW s) (unitW l)))
          generalize levC (hC (unitW s) (unitW l)) (hM (unitW l) (hC (unitW s) (unitW l))) = L1 at *
          generalize levC (hX (hC (unitW s) (unitW l)) (hE (angW h))) (hM (unitW l) (hC (unitW s) (unitW l))) = L2 at *
          generalize levC 0 (hM (unitW l) (hC (unitW s) (unitW l))) = L3 at *
          generalize flE (hE (angW h)) = k at *
          generalize ffloor (hE (angW h)) = F at *
          have LV1 := Lib.hid lv1; have LV2 := Lib.hid lv2; have LV3 := Lib.hid lv3
          clear lc lx lz g1 g2 ok OK FE A1 A2 A3 B1 B2 T HB lv1 lv2 lv3 hh
          have kk : k = 0 ∨ k = 1 ∨ k = 2 ∨ k = 3 ∨ k = 4 ∨ k = 5 ∨ k = 6 := by omega
          clear g3 g4
          have LVV : Hid ((0 ≤ L1 ∧ L1 ≤ 255) ∧ (0 ≤ L2 ∧ L2 ≤ 255) ∧ (0 ≤ L3 ∧ L3 ≤ 255)) := ⟨LV1.out, LV2.out, LV3.out⟩
          clear LV1 LV2 LV3
          rcases kk with rfl | rfl | rfl | rfl | rfl | rfl | rfl
          all_goals
            try simp only [decide_true] at k0
            try simp only [decide_true] at k1
            try simp only [decide_true] at k2
            try simp only [decide_true] at k3
            try simp only [decide_true] at k4
            try simp only [Int.reduceEq, decide_false] at k0
            try simp only [Int.reduceEq, decide_false] at k1
            try simp only [Int.reduceEq, decide_false] at k2
            try simp only [Int.reduceEq, decide_false] at k3
            try simp only [Int.reduceEq, decide_false] at k4
            go_wp2_with (first | (go_at_call 49; refine (math_Abs _ (by assumption) _).mono ?_; rintro e w' ⟨rfl, rfl⟩) | (go_at_call 68; refine (cm.out _).mono ?_; rintro e w' ⟨rfl, rfl⟩) | (go_at_call 63; refine (gl.out _).mono ?_; rintro e w' ⟨rfl, rfl⟩))
            refine wp_loop_rounds 4 ?_
            rw [rounds_succ]
            go_wp2_with (go_at_call 63; refine (math_Floor _ (by assumption) _).mono ?_; rintro e w' ⟨rfl, rfl⟩)
            rw [rounds_succ]
            go_wp2_with (go_at_call 63; refine (math_Floor _ (by assumption) _).mono ?_; rintro e w' ⟨rfl, rfl⟩)
            rw [rounds_succ]
            go_wp2_with (go_at_call 63; refine (math_Floor _ (by assumption) _).mono ?_; rintro e w' ⟨rfl, rfl⟩)
            rw [rounds_succ]
            go_wp2_with fail
            refine (tint_whole _ _ _ (by have := LVV.out; omega) (by have := LVV.out; omega) (by have := LVV.out; omega) (by have := LVV.out; omega) (by have := LVV.out; omega) (by have := LVV.out; omega) _).mono ?_
            rintro e w3 ⟨rfl, hb3⟩
            have hw3 : Below wc.heap.size wc w3 := by
              refine below_call ?_ ?_ hb3
              · go_grown
              · simp; omega
            clear hb3
            go_wp2_with fail
            go_ret
            exact ⟨ret_int (by rw [HV.out]; simp [pick6]), hw3⟩
end Go.Proofs.YtpbpkdhdjdaiiaaDoor
