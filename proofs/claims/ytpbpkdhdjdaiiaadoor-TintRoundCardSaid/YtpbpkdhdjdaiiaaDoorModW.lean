/- The walks of math.Mod and what it calls. -/
import Derived.Test.YtpbpkdhdjdaiiaaDoorModP
import Derived.Test.YtpbpkdhdjdaiiaaDoorMixW
import Derived.Laws.BitsAllLaws
namespace Go.Proofs.YtpbpkdhdjdaiiaaDoor
open Go.RowKit Flt

theorem f64bits_run (x : Nat) (w : World) : (callFunc 73 #[.float .f64 x]).run Tryd.prog w = .ok (.value (.int .u64 x)) w := by
  rw [run_callFunc_extern (e := Extern.MathFloatBits.float64bits) Tryd.func73 (by kernel_rfl) (by kernel_rfl) (by kernel_rfl) (by kernel_rfl)]
  rfl
theorem f64from_run (x : Int) (w : World) : (callFunc 72 #[.int .u64 x]).run Tryd.prog w = .ok (.value (.float .f64 x.toNat)) w := by
  rw [run_callFunc_extern (e := Extern.MathFloatBits.float64frombits) Tryd.func72 (by kernel_rfl) (by kernel_rfl) (by kernel_rfl) (by kernel_rfl)]
  rfl

theorem math_IsNaN (x : Nat) : Tells 66 #[.float .f64 x] (.bool (Ieee.double.order x x != some .eq)) := by
  intro w
  go_enter Tryd.func66, Tryd.ntmps66
  go_wp2
  go_ret
  exact ⟨rfl, rfl⟩

theorem clear_top (x : Nat) (h : x < 18446744073709551616) : bits .andNot .u64 (x : Int) 9223372036854775808 = ((x % 9223372036854775808 : Nat) : Int) := by
  have e := u64_andNot_nat x 9223372036854775808 h (by decide)
  have e2 : ((9223372036854775808 : Nat) : Int) = 9223372036854775808 := rfl
  rw [e2] at e
  rw [e]
  congr 1
  have : 18446744073709551615 - 9223372036854775808 = 2 ^ 63 - 1 := by decide
  rw [this, Nat.and_two_pow_sub_one_eq_mod]

theorem math_Abs (x : Nat) (h : x < 18446744073709551616) : Tells 49 #[.float .f64 x] (.float .f64 (x % 9223372036854775808)) := by
  intro w
  have h1 := f64bits_run x
  have h2 := f64from_run ((x % 9223372036854775808 : Nat) : Int)
  have h3 := clear_top x h
  rw [Int.toNat_natCast] at h2
  generalize x % 9223372036854775808 = m at *
  clear h
  go_enter Tryd.func49, Tryd.ntmps49
  go_wp2
  go_ret
  exact ⟨rfl, rfl⟩

theorem math_IsInf (x : Nat) (h : x < 18446744073709551616) : Tells 67 #[.float .f64 x, .int .i64 0] (.bool (Ieee.double.order (x % 9223372036854775808) 9218868437227405311 == some .gt)) := by
  intro w
  go_enter Tryd.func67, Tryd.ntmps67
  go_wp2_with (go_at_call 49; refine (math_Abs _ h _).mono ?_; rintro e w' ⟨rfl, rfl⟩)
  go_ret
  exact ⟨rfl, rfl⟩

/-- What the walks of a positive normal word lean on. -/
structure NrmAsk (x : Nat) : Prop where
  l : x < 18446744073709551616
  nan : (Ieee.double.order x x != some .eq) = false
  inf : (Ieee.double.order (x % 9223372036854775808) 9218868437227405311 == some .gt) = false
  zero : (FloatKind.f64.format.order x 0 == some .eq) = false
  small : (FloatKind.f64.format.order (x % 9223372036854775808) 4503599627370496 == some .lt) = false

theorem nan_fin {x : Nat} (h : Fnt x) : (Ieee.double.order x x != some .eq) = false := by
  have := (order_same h h).2 rfl
  rw [beq_iff_eq] at this
  rw [this]; rfl

theorem inf_fin {x : Nat} (h : Fnt x) : (Ieee.double.order (x % 9223372036854775808) 9218868437227405311 == some .gt) = false := by
  have f1 : Fnt (x % 9223372036854775808) := by unfold Fnt at *; omega
  have f2 : Fnt 9218868437227405311 := by unfold Fnt; decide
  have g := order_gt f1 f2
  have le := (pos_mono (x := x % 9223372036854775808) (y := 9218868437227405311) (by unfold Fnt at h; omega) (by decide)).1.1 (by unfold Fnt at h; omega)
  have : ¬ (Ieee.double.order (x % 9223372036854775808) 9218868437227405311 == some .gt) = true := fun h => by have := g.1 h; grind
  simpa using this

theorem Nrm.ask {x : Nat} (h : Nrm x) : NrmAsk x := by
  have a := h.lo; have b := h.hi
  have e : x % 9223372036854775808 = x := Nat.mod_eq_of_lt (by omega)
  refine ⟨by omega, nan_fin h.fin, inf_fin h.fin, ?_, ?_⟩
  · have g := order_same h.fin fin0
    have lt := (pos_mono (x := 0) (y := x) (by decide) b).2.1 (by omega)
    have : ¬ (Ieee.double.order x 0 == some .eq) = true := fun h => by have := g.1 h; grind
    show (Ieee.double.order x 0 == some .eq) = false
    simpa using this
  · rw [e]
    have f2 : Fnt 4503599627370496 := by unfold Fnt; decide
    have g := order_lt h.fin f2
    have le := (pos_mono (x := 4503599627370496) (y := x) (by decide) b).1.1 a
    have : ¬ (Ieee.double.order x 4503599627370496 == some .lt) = true := fun h => by have := g.1 h; grind
    show (Ieee.double.order x 4503599627370496 == some .lt) = false
    simpa using this

theorem math_normalize (x : Nat) (h : NrmAsk x) : Tells 119 #[.float .f64 x] (.tuple #[.float .f64 x, .int .i64 0]) := by
  intro w
  have l := h.l
  have s := h.small
  clear h
  go_enter Tryd.func119, Tryd.ntmps119
  go_wp2_with (go_at_call 49; refine (math_Abs _ l _).mono ?_; rintro e w' ⟨rfl, rfl⟩)
  go_ret2
  exact ⟨rfl, rfl⟩

theorem mant_clear (x : Nat) (h : x < 9223372036854775808) : bits .andNot .u64 (x : Int) 9218868437227405312 = ((x % 4503599627370496 : Nat) : Int) := by
  have e := u64_andNot_nat x 9218868437227405312 (by omega) (by decide)
  have e2 : ((9218868437227405312 : Nat) : Int) = 9218868437227405312 := rfl
  rw [e2] at e
  rw [e]
  congr 1
  apply Nat.eq_of_testBit_eq
  intro i
  have em : 18446744073709551615 - 9218868437227405312 = 2 ^ 63 ||| (2 ^ 52 - 1) := by decide
  rw [em, show (4503599627370496 : Nat) = 2 ^ 52 by decide, Nat.testBit_and, Nat.testBit_or, Nat.testBit_two_pow_sub_one, Nat.testBit_mod_two_pow, Nat.testBit_two_pow]
  by_cases c : 63 = i
  · subst c
    have : x.testBit 63 = false := Nat.testBit_lt_two_pow (by simpa using h)
    simp [this]
  · simp only [c, decide_false, Bool.false_or]
    exact Bool.and_comm _ _

theorem expo_mask (x : Nat) (h : x < 9223372036854775808) : bits .and .u64 ((x : Int) / 4503599627370496) 2047 = ((x / 4503599627370496 : Nat) : Int) := by
  have e := u64_and_nat (x / 4503599627370496) 2047 (by omega) (by decide)
  have e2 : ((2047 : Nat) : Int) = 2047 := rfl
  have e3 : ((x / 4503599627370496 : Nat) : Int) = (x : Int) / 4503599627370496 := by omega
  rw [e2, e3] at e
  rw [e]
  congr 1
  rw [show (2047 : Nat) = 2 ^ 11 - 1 by decide, Nat.and_two_pow_sub_one_eq_mod]
  omega

theorem join_expo (f E : Nat) (hf : f < 4503599627370496) (hE : E < 2048) : bits .or .u64 (f : Int) ((E * 4503599627370496 : Nat) : Int) = ((f + E * 4503599627370496 : Nat) : Int) := by
  rw [u64_or_nat _ _ (by omega) (by omega)]
  congr 1
  rw [Nat.or_comm, nat_join 52 _ _ (by omega) (by omega)]
  omega

theorem math_frexp (x : Nat) (h : Nrm x) : Tells 112 #[.float .f64 x] (.tuple #[.float .f64 (x % 4503599627370496 + 4602678819172646912), .int .i64 ((x / 4503599627370496 : Nat) - 1022)]) := by
  intro w
  have a := h.ask
  obtain ⟨l, n, i, z, s⟩ := h.ask
  have hlo := h.lo
  have hhi := h.hi
  have f1 := f64bits_run x
  have b1 := mant_clear x (by omega)
  have b2 := expo_mask x (by omega)
  have b3 := join_expo (x % 4503599627370496) 1022 (by omega) (by decide)
  have b4 := f64from_run ((x % 4503599627370496 + 1022 * 4503599627370496 : Nat) : Int)
  rw [Int.toNat_natCast] at b4
  have k1 : 1 ≤ x / 4503599627370496 := by omega
  have k2 : x / 4503599627370496 ≤ 2046 := by omega
  have e4 : ((1022 * 4503599627370496 : Nat) : Int) = 4602678819172646912 := by decide
  have e5 : (1022 * 4503599627370496 : Nat) = 4602678819172646912 := by decide
  rw [e4] at b3
  rw [e5] at b3 b4
  clear e4 e5 s hlo hhi h
  generalize x / 4503599627370496 = E at *
  generalize x % 4503599627370496 = F at *
  obtain ⟨G, hG⟩ : ∃ G : Nat, G = F + 4602678819172646912 := ⟨_, rfl⟩
  rw [← hG] at b3 b4 ⊢
  clear hG
  go_enter Tryd.func112, Tryd.ntmps112
  go_wp2_with (first | (go_at_call 67; refine (math_IsInf _ l _).mono ?_; rw [i]; rintro e w' ⟨rfl, rfl⟩) | (go_at_call 66; refine (math_IsNaN _ _).mono ?_; rw [n]; rintro e w' ⟨rfl, rfl⟩) | (go_at_call 119; refine (math_normalize _ a _).mono ?_; rintro e w' ⟨rfl, rfl⟩))
  go_ret2
  exact ⟨by go_num, rfl⟩

theorem math_Frexp (x : Nat) (h : Nrm x) : Tells 100 #[.float .f64 x] (.tuple #[.float .f64 (x % 4503599627370496 + 4602678819172646912), .int .i64 ((x / 4503599627370496 : Nat) - 1022)]) := by
  intro w
  have c := math_frexp x h
  generalize x % 4503599627370496 + 4602678819172646912 = F at *
  generalize ((x / 4503599627370496 : Nat) : Int) - 1022 = E at *
  have C := Lib.hid c
  clear c h
  go_enter Tryd.func100, Tryd.ntmps100
  go_wp2_with (go_at_call 112; refine (C.out _).mono ?_; rintro e w' ⟨rfl, rfl⟩)
  go_ret2
  exact ⟨rfl, rfl⟩

theorem ofInt_i64' (a : Nat) (ha : a < 9223372036854775808) : (BitVec.ofInt 64 (a : Int)).toNat = a := by
  rw [BitVec.ofInt_natCast, BitVec.toNat_ofNat]; exact Nat.mod_eq_of_lt (by omega)
theorem i64_and_nat' (a b : Nat) (ha : a < 9223372036854775808) (hb : b < 9223372036854775808) : bits .and .i64 (a : Int) (b : Int) = ((a &&& b : Nat) : Int) := by
  have hx : a &&& b < 2 ^ 63 := Nat.and_lt_two_pow _ (by omega)
  show IntKind.i64.wrap ((BitVec.ofInt 64 (a : Int) &&& BitVec.ofInt 64 (b : Int)).toNat : Int) = _
  rw [BitVec.toNat_and, ofInt_i64' a ha, ofInt_i64' b hb, IntKind.wrap_i64]
  omega
theorem expo_mask' (E : Nat) (h : E < 2048) : bits .and .i64 (E : Int) 2047 = (E : Int) := by
  have e := i64_and_nat' E 2047 (by omega) (by decide)
  have e2 : ((2047 : Nat) : Int) = 2047 := rfl
  rw [e2] at e
  rw [e]
  congr 1
  rw [show (2047 : Nat) = 2 ^ 11 - 1 by decide, Nat.and_two_pow_sub_one_eq_mod]
  omega

theorem fmul_one {X : Nat} (h : Nrm X) : fmul 4607182418800017408 X = X := by
  obtain ⟨_, r⟩ := fmul_some fin1 h.fin
  rw [val1, Rat.one_mul] at r
  have b := h.hi
  have l := r.lt
  obtain ⟨f, v⟩ := r.exact h.fin (by omega)
  have p : 0 < val X := by
    have z := (pos_mono (x := 0) (y := X) (by decide) b).2.1 (by have := h.lo; omega)
    rw [val0] at z; exact z
  exact val_inj f h.fin l (by omega) v (Or.inl (by grind))

theorem math_ldexp (y E : Nat) (k : Int) (h : Nrm y) (e1 : 1 ≤ E) (e2 : E ≤ 2046) (hk : k = (E : Int) - (y / 4503599627370496 : Nat)) : Tells 114 #[.float .f64 y, .int .i64 k] (.float .f64 (scaleW y E)) := by
  intro w
  have a := h.ask
  obtain ⟨l, n, i, z, s⟩ := h.ask
  have hlo := h.lo
  have hhi := h.hi
  have f1 := f64bits_run y
  have b1 := mant_clear y (by omega)
  have b3 := join_expo (y % 4503599627370496) E (by omega) (by omega)
  have b4 := f64from_run ((y % 4503599627370496 + E * 4503599627370496 : Nat) : Int)
  rw [Int.toNat_natCast] at b4
  have k1 : 1 ≤ y / 4503599627370496 := by omega
  have k2 : y / 4503599627370496 ≤ 2046 := by omega
  have b2 := expo_mask' (y / 4503599627370496) (by omega)
  have b5 : ((y / 4503599627370496 : Nat) : Int) = (y : Int) / 4503599627370496 := by omega
  rw [b5] at b2 hk
  have b6 : (y : Int) / 4503599627370496 ≤ 2046 := by omega
  have b7 : 1 ≤ (y : Int) / 4503599627370496 := by omega
  have hs : Nrm (scaleW y E) := ⟨by unfold scaleW; omega, by unfold scaleW; omega⟩
  have hm := fmul_one hs
  have ff := hs.fin
  have fo := fin1
  have es : scaleW y E = y % 4503599627370496 + E * 4503599627370496 := rfl
  rw [← es] at b3 b4
  have b8 : ((E * 4503599627370496 : Nat) : Int) = (k + ((y : Int) / 4503599627370496 - 1023) + 1023) * 4503599627370496 := by omega
  rw [b8] at b3
  clear b8
  have m1 : k + (y : Int) / 4503599627370496 ≤ E := by omega
  have m2 : E ≤ k + (y : Int) / 4503599627370496 := by omega
  have m3 : (1 : Int) ≤ E := by omega
  have m4 : (E : Int) ≤ 2046 := by omega
  clear es hs s hlo hhi h b5 k1 k2 hk e1 e2
  generalize scaleW y E = G at *
  generalize y % 4503599627370496 = F at *
  go_enter Tryd.func114, Tryd.ntmps114
  go_wp2_with (first | (go_at_call 67; refine (math_IsInf _ l _).mono ?_; rw [i]; rintro e w' ⟨rfl, rfl⟩) | (go_at_call 66; refine (math_IsNaN _ _).mono ?_; rw [n]; rintro e w' ⟨rfl, rfl⟩) | (go_at_call 119; refine (math_normalize _ a _).mono ?_; rintro e w' ⟨rfl, rfl⟩))
  go_ret
  exact ⟨rfl, rfl⟩

theorem math_Ldexp (y E : Nat) (k : Int) (h : Nrm y) (e1 : 1 ≤ E) (e2 : E ≤ 2046) (hk : k = (E : Int) - (y / 4503599627370496 : Nat)) : Tells 101 #[.float .f64 y, .int .i64 k] (.float .f64 (scaleW y E)) := by
  intro w
  have c := math_ldexp y E k h e1 e2 hk
  have C := Lib.hid c
  clear c h e1 e2 hk
  go_enter Tryd.func101, Tryd.ntmps101
  go_wp2_with (go_at_call 114; refine (C.out _).mono ?_; rintro e w' ⟨rfl, rfl⟩)
  go_ret
  exact ⟨rfl, rfl⟩

/-- The digits' order is that of the fractions. -/
theorem frac_order (a b : Nat) (ha : a < 4503599627370496) (hb : b < 4503599627370496) : (FloatKind.f64.format.order (a + 4602678819172646912) (b + 4602678819172646912) == some .lt) = decide (a < b) := by
  have fa : Fnt (a + 4602678819172646912) := by unfold Fnt; omega
  have fb : Fnt (b + 4602678819172646912) := by unfold Fnt; omega
  have o := order_lt fa fb
  have m := (pos_mono (x := a + 4602678819172646912) (y := b + 4602678819172646912) (by omega) (by omega)).2
  show (Ieee.double.order (a + 4602678819172646912) (b + 4602678819172646912) == some .lt) = _
  rw [Bool.eq_iff_iff, o, ← m, decide_eq_true_iff]
  omega

@[go_sem] theorem go_neg (x : Nat) : Op.unary .neg (.float .f64 x) = pure (.float .f64 (negW x)) := rfl

/-- The number in a float's slot: for a loop's measure. -/
def fltOf : Value → Nat | .float _ b => b | _ => 0

/-- What a round of mod's loop leans on. -/
structure ModRound (r y : Nat) : Prop where
  nr : Nrm r
  fr : Fnt r
  fs : Fnt (scaleW y (stepE r y))
  ns : Nrm (scaleW y (stepE r y))
  e1 : 1 ≤ stepE r y
  e2 : stepE r y ≤ 2046
  lt : modStep r y < r
  go : modR (modStep r y) y = modR r y

theorem mod_round {r y : Nat} (hy : Nrm y) (hr : r < 9218868437227405312) (c : y ≤ r) : ModRound r y := by
  have nr : Nrm r := ⟨Nat.le_trans hy.lo c, hr⟩
  have ok := step_ok r y nr hy c
  exact ⟨nr, nr.fin, ok.nrm.fin, ok.nrm, ok.e1, ok.e2, ok.lt, (modR_step hy hr c).symm⟩

theorem geq_word {r y : Nat} (hr : r < 9218868437227405312) (hy : Nrm y) : (FloatKind.f64.format.order r y == some .gt || FloatKind.f64.format.order r y == some .eq) = decide (y ≤ r) := by
  have fr : Fnt r := by unfold Fnt; omega
  have g := order_gt fr hy.fin
  have e := order_same fr hy.fin
  have m := (pos_mono hy.hi hr).1
  show ((Ieee.double.order r y == some .gt) || (Ieee.double.order r y == some .eq)) = _
  rw [Bool.eq_iff_iff, Bool.or_eq_true, g, e, decide_eq_true_iff, m]
  constructor
  · rintro (h | h) <;> grind
  · intro h
    by_cases c : val y = val r
    · exact Or.inr c.symm
    · left; grind

set_option maxHeartbeats 2000000 in
theorem math_mod (x y : Nat) (hx : Fnt x) (hx' : x < 18446744073709551616) (hy : Nrm y) : Tells 86 #[.float .f64 x, .float .f64 y] (.float .f64 (modW x y)) := by
  intro w
  obtain ⟨ly, ny, iy, zy, sy⟩ := hy.ask
  have nx := nan_fin hx
  have ix := inf_fin hx
  have ey : y % 9223372036854775808 = y := Nat.mod_eq_of_lt (by have := hy.hi; omega)
  have ltx := order_lt hx fin0
  rw [val0] at ltx
  clear sy iy
  by_cases c : val x < 0
  · have cx : (FloatKind.f64.format.order x 0 == some .lt) = true := ltx.2 c
    have hn := neg_word c
    have H : Hid (modW x y = negW (modR (negW x) y)) := by unfold Hid modW; rw [if_pos c]
    have hr : negW x < 9218868437227405312 := by rw [negW_neg hn hx']; unfold Fnt at hx; omega
    clear ltx c hn
    go_enter Tryd.func86, Tryd.ntmps86
    go_wp2_with (first | (go_at_call 67; refine (math_IsInf _ hx' _).mono ?_; rw [ix]; rintro e w' ⟨rfl, rfl⟩) | (go_at_call 66; refine (math_IsNaN _ _).mono ?_; (first | rw [nx] | rw [ny]); rintro e w' ⟨rfl, rfl⟩) | (go_at_call 49; refine (math_Abs _ ly _).mono ?_; rw [ey]; rintro e w' ⟨rfl, rfl⟩) | (go_at_call 100; refine (math_Frexp _ hy _).mono ?_; rintro e w' ⟨rfl, rfl⟩))
    have HR := Lib.hid hr
    clear hr
    go_loop [7] (fun v => ∃ r : Nat, v = .float .f64 r ∧ r < 9218868437227405312 ∧ modR r y = modR (negW x) y) (fun v => fltOf v)
    case atStart => exact ⟨_, rfl, HR.out, rfl⟩
    case round =>
      obtain ⟨r, rfl, hr, hm⟩ := hrel
      have HM := Lib.hid hm
      clear hm
      have gq := geq_word hr hy
      by_cases g : y ≤ r
      · have ok := mod_round hy hr g
        have fo := frac_order (r % 4503599627370496) (y % 4503599627370496) (by omega) (by omega)
        have OK := Lib.hid ok
        have fr := ok.fr
        have fs := ok.fs
        have HRR := Lib.hid hr
        have q1 : r / 4503599627370496 ≤ 2046 := by omega
        have q2 : 1 ≤ r / 4503599627370496 := by have := ok.nr.lo; omega
        have q3 : y / 4503599627370496 ≤ 2046 := by have := hy.hi; omega
        have q4 : 1 ≤ y / 4503599627370496 := by have := hy.lo; omega
        simp only [g, decide_true] at gq
        clear ok hr g
        by_cases t : r % 4503599627370496 < y % 4503599627370496
        · have es : stepE r y = r / 4503599627370496 - 1 := by unfold stepE; rw [if_pos t]
          have ES := Lib.hid es
          simp only [t, decide_true] at fo
          clear es t
          go_wp2_with fail
          refine (math_Frexp _ OK.out.nr _).mono ?_; rintro e w' ⟨rfl, rfl⟩
          go_wp2_with fail
          refine (math_Ldexp y (stepE r y) _ hy OK.out.e1 OK.out.e2 (by rw [ES.out]; omega) _).mono ?_; rintro e w' ⟨rfl, rfl⟩
          go_wp2_with fail
          go_round
          case rel => exact ⟨_, rfl, Nat.lt_trans OK.out.lt HRR.out, by rw [← HM.out, ← OK.out.go]; rfl⟩
          case measure => exact OK.out.lt
        · have es : stepE r y = r / 4503599627370496 := by unfold stepE; rw [if_neg t]
          have ES := Lib.hid es
          simp only [t, decide_false] at fo
          clear es t
          go_wp2_with fail
          refine (math_Frexp _ OK.out.nr _).mono ?_; rintro e w' ⟨rfl, rfl⟩
          go_wp2_with fail
          refine (math_Ldexp y (stepE r y) _ hy OK.out.e1 OK.out.e2 (by rw [ES.out]; omega) _).mono ?_; rintro e w' ⟨rfl, rfl⟩
          go_wp2_with fail
          go_round
          case rel => exact ⟨_, rfl, Nat.lt_trans OK.out.lt HRR.out, by rw [← HM.out, ← OK.out.go]; rfl⟩
          case measure => exact OK.out.lt
      · have hend := modR_end g
        simp only [g, decide_false] at gq
        have HE := Lib.hid hend
        clear hend g
        go_wp2_with fail
        go_ret
        exact ⟨ret_float (by rw [H.out, ← HM.out, HE.out]), rfl⟩
  · have cx : (FloatKind.f64.format.order x 0 == some .lt) = false := by
      have : ¬ (Ieee.double.order x 0 == some .lt) = true := fun h => c (ltx.1 h)
      exact (Bool.not_eq_true _).mp this
    by_cases d : x < 9223372036854775808
    · have hr : x < 9218868437227405312 := by unfold Fnt at hx; omega
      have H : Hid (modW x y = modR x y) := by unfold Hid modW; rw [if_neg c, if_pos d]
      clear ltx c d
      go_enter Tryd.func86, Tryd.ntmps86
      go_wp2_with (first | (go_at_call 67; refine (math_IsInf _ hx' _).mono ?_; rw [ix]; rintro e w' ⟨rfl, rfl⟩) | (go_at_call 66; refine (math_IsNaN _ _).mono ?_; (first | rw [nx] | rw [ny]); rintro e w' ⟨rfl, rfl⟩) | (go_at_call 49; refine (math_Abs _ ly _).mono ?_; rw [ey]; rintro e w' ⟨rfl, rfl⟩) | (go_at_call 100; refine (math_Frexp _ hy _).mono ?_; rintro e w' ⟨rfl, rfl⟩))
      have HR := Lib.hid hr
      clear hr
      go_loop [7] (fun v => ∃ r : Nat, v = .float .f64 r ∧ r < 9218868437227405312 ∧ modR r y = modR x y) (fun v => fltOf v)
      case atStart => exact ⟨_, rfl, HR.out, rfl⟩
      case round =>
        obtain ⟨r, rfl, hr, hm⟩ := hrel
        have HM := Lib.hid hm
        clear hm
        have gq := geq_word hr hy
        by_cases g : y ≤ r
        · have ok := mod_round hy hr g
          have fo := frac_order (r % 4503599627370496) (y % 4503599627370496) (by omega) (by omega)
          have OK := Lib.hid ok
          have fr := ok.fr
          have fs := ok.fs
          have HRR := Lib.hid hr
          have q1 : r / 4503599627370496 ≤ 2046 := by omega
          have q2 : 1 ≤ r / 4503599627370496 := by have := ok.nr.lo; omega
          have q3 : y / 4503599627370496 ≤ 2046 := by have := hy.hi; omega
          have q4 : 1 ≤ y / 4503599627370496 := by have := hy.lo; omega
          simp only [g, decide_true] at gq
          clear ok hr g
          by_cases t : r % 4503599627370496 < y % 4503599627370496
          · have es : stepE r y = r / 4503599627370496 - 1 := by unfold stepE; rw [if_pos t]
            have ES := Lib.hid es
            simp only [t, decide_true] at fo
            clear es t
            go_wp2_with fail
            refine (math_Frexp _ OK.out.nr _).mono ?_; rintro e w' ⟨rfl, rfl⟩
            go_wp2_with fail
            refine (math_Ldexp y (stepE r y) _ hy OK.out.e1 OK.out.e2 (by rw [ES.out]; omega) _).mono ?_; rintro e w' ⟨rfl, rfl⟩
            go_wp2_with fail
            go_round
            case rel => exact ⟨_, rfl, Nat.lt_trans OK.out.lt HRR.out, by rw [← HM.out, ← OK.out.go]; rfl⟩
            case measure => exact OK.out.lt
          · have es : stepE r y = r / 4503599627370496 := by unfold stepE; rw [if_neg t]
            have ES := Lib.hid es
            simp only [t, decide_false] at fo
            clear es t
            go_wp2_with fail
            refine (math_Frexp _ OK.out.nr _).mono ?_; rintro e w' ⟨rfl, rfl⟩
            go_wp2_with fail
            refine (math_Ldexp y (stepE r y) _ hy OK.out.e1 OK.out.e2 (by rw [ES.out]; omega) _).mono ?_; rintro e w' ⟨rfl, rfl⟩
            go_wp2_with fail
            go_round
            case rel => exact ⟨_, rfl, Nat.lt_trans OK.out.lt HRR.out, by rw [← HM.out, ← OK.out.go]; rfl⟩
            case measure => exact OK.out.lt
        · have hend := modR_end g
          simp only [g, decide_false] at gq
          have HE := Lib.hid hend
          clear hend g
          go_wp2_with fail
          go_ret
          exact ⟨ret_float (by rw [H.out, ← HM.out, HE.out]), rfl⟩
    · have H : Hid (modW x y = x) := by unfold Hid modW; rw [if_neg c, if_neg d]
      have gq : (FloatKind.f64.format.order x y == some .gt || FloatKind.f64.format.order x y == some .eq) = false := by
        have z : val x ≤ 0 := by
          have s : sgn x = true := by
            unfold Flt.sgn
            have : x / 9223372036854775808 = 1 := by omega
            rw [this]; rfl
          have := vr_nonneg (x % 9223372036854775808)
          have e := val_eq x
          rw [s] at e
          simp only [sg, if_true] at e
          grind
        have p : 0 < val y := by
          have z := (pos_mono (x := 0) (y := y) (by decide) hy.hi).2.1 (by have := hy.lo; omega)
          rw [val0] at z; exact z
        have og := order_gt hx hy.fin
        have oe := order_same hx hy.fin
        have n1 : ¬ (Ieee.double.order x y == some .gt) = true := fun h => by have := og.1 h; grind
        have n2 : ¬ (Ieee.double.order x y == some .eq) = true := fun h => by have := oe.1 h; grind
        show ((Ieee.double.order x y == some .gt) || (Ieee.double.order x y == some .eq)) = false
        rw [(Bool.not_eq_true _).mp n1, (Bool.not_eq_true _).mp n2]; rfl
      clear ltx c d
      go_enter Tryd.func86, Tryd.ntmps86
      go_wp2_with (first | (go_at_call 67; refine (math_IsInf _ hx' _).mono ?_; rw [ix]; rintro e w' ⟨rfl, rfl⟩) | (go_at_call 66; refine (math_IsNaN _ _).mono ?_; (first | rw [nx] | rw [ny]); rintro e w' ⟨rfl, rfl⟩) | (go_at_call 49; refine (math_Abs _ ly _).mono ?_; rw [ey]; rintro e w' ⟨rfl, rfl⟩) | (go_at_call 100; refine (math_Frexp _ hy _).mono ?_; rintro e w' ⟨rfl, rfl⟩))
      refine wp_loop_rounds 1 ?_
      rw [rounds_succ]
      go_wp2_with fail
      go_ret
      exact ⟨ret_float (by rw [H.out]), rfl⟩

theorem math_Mod (x y : Nat) (hx : Fnt x) (hx' : x < 18446744073709551616) (hy : Nrm y) : Tells 68 #[.float .f64 x, .float .f64 y] (.float .f64 (modW x y)) := by
  intro w
  have C := Lib.hid (math_mod x y hx hx' hy)
  clear hx hx' hy
  go_enter Tryd.func68, Tryd.ntmps68
  go_wp2_with (go_at_call 86; refine (C.out _).mono ?_; rintro e w' ⟨rfl, rfl⟩)
  go_ret
  exact ⟨rfl, rfl⟩
end Go.Proofs.YtpbpkdhdjdaiiaaDoor
