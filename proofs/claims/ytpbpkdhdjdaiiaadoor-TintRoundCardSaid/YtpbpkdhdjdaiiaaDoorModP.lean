/- The remainder of two floats by exact subtractions: plain. -/
import Derived.Test.YtpbpkdhdjdaiiaaDoorMixP
namespace Go.Proofs.YtpbpkdhdjdaiiaaDoor
open Go.RowKit Flt

/-- A positive normal word. -/
structure Nrm (x : Nat) : Prop where
  lo : 4503599627370496 ≤ x
  hi : x < 9218868437227405312

theorem Nrm.fin {x : Nat} (h : Nrm x) : Fnt x := by
  unfold Fnt
  have := h.lo; have := h.hi
  omega

theorem Nrm.sgn {x : Nat} (h : Nrm x) : sgn x = false := by
  unfold Flt.sgn
  have := h.lo; have := h.hi
  have : x / 9223372036854775808 = 0 := by omega
  rw [this]; rfl

theorem pos_val {x : Nat} (h : x < 9223372036854775808) : val x = vr x := by
  have s : sgn x = false := by
    unfold Flt.sgn
    have : x / 9223372036854775808 = 0 := by omega
    rw [this]; rfl
  rw [val_eq, s, Nat.mod_eq_of_lt h]
  simp only [sg, Bool.false_eq_true, if_false, Rat.one_mul]

theorem Nrm.val {x : Nat} (h : Nrm x) : val x = ((4503599627370496 + x % 4503599627370496 : Nat):Rat) * (2:Rat)^((x / 4503599627370496 : Nat):Int) * (2:Rat)^(-1075:Int) := by
  have a := h.lo; have b := h.hi
  rw [pos_val (by omega), vr, if_neg (by omega), Rat.mul_assoc, ← add2]
  congr 2
  omega

theorem pos_mono {x y : Nat} (hx : x < 9218868437227405312) (hy : y < 9218868437227405312) : (x ≤ y ↔ val x ≤ val y) ∧ (x < y ↔ val x < val y) := by
  rw [pos_val (by omega), pos_val (by omega)]
  have m : ∀ a b : Nat, a < 9218868437227405312 → b < 9218868437227405312 → (a ≤ b ↔ vr a ≤ vr b) := by
    intro a b ha hb
    refine ⟨vr_mono ha hb, fun h => ?_⟩
    refine Nat.le_of_not_lt fun c => ?_
    have := vr_mono hb ha (Nat.le_of_lt c)
    have e : vr a = vr b := by grind
    have := vr_inj ha hb e
    omega
  refine ⟨m x y hx hy, ?_⟩
  have := m y x hy hx
  constructor
  · intro h
    refine Rat.not_le.1 fun c => ?_
    have := this.2 c
    omega
  · intro h
    refine Nat.lt_of_not_le fun c => ?_
    have := this.1 c
    grind

theorem fsub_self {x : Nat} (h : Fnt x) : fsub x x = 0 := by
  obtain ⟨m, p, a, _⟩ := read_fin h
  unfold fsub Ieee.Format.sub
  rw [a]
  have e : Ieee.Datum.sum (.number (sgn x) m p) (Ieee.Datum.opposite (.number (sgn x) m p)) = some (.number false 0 p) := by
    show some (Ieee.Datum.number _ _ _) = _
    have t : Ieee.signed (sgn x) m (p - min p p).toNat + Ieee.signed (!sgn x) m (p - min p p).toNat = 0 := by
      unfold Ieee.signed
      cases sgn x <;> simp <;> omega
    rw [t]
    cases sgn x <;> simp
  rw [e]
  show Ieee.double.write (.number false 0 p) = 0
  show Ieee.double.nearest false 0 p = 0
  unfold Ieee.Format.nearest
  rw [if_pos rfl]
  rfl

/-- y's digits at the place E. -/
def scaleW (y E : Nat) : Nat := y % 4503599627370496 + E * 4503599627370496
def stepE (r y : Nat) : Nat := if r % 4503599627370496 < y % 4503599627370496 then r / 4503599627370496 - 1 else r / 4503599627370496
def modStep (r y : Nat) : Nat := fsub r (scaleW y (stepE r y))

structure StepOk (r y : Nat) : Prop where
  e1 : 1 ≤ stepE r y
  e2 : stepE r y ≤ 2046
  e3 : y / 4503599627370496 ≤ stepE r y
  nrm : Nrm (scaleW y (stepE r y))
  fin : Fnt (modStep r y)
  lt : modStep r y < r
  vv : val (modStep r y) = val r - val (scaleW y (stepE r y))
  nn : 0 ≤ val (modStep r y)
  mul : ∃ n : Nat, Flt.val (scaleW y (stepE r y)) = (n:Rat) * Flt.val y

theorem step_ok (r y : Nat) (hr : Nrm r) (hy : Nrm y) (le : y ≤ r) : StepOk r y := by
  have a := hr.lo; have b := hr.hi; have c := hy.lo; have d := hy.hi
  have E1 : 1 ≤ stepE r y := by unfold stepE; split <;> omega
  have E2 : stepE r y ≤ 2046 := by unfold stepE; split <;> omega
  have E3 : y / 4503599627370496 ≤ stepE r y := by unfold stepE; split <;> omega
  have hs : Nrm (scaleW y (stepE r y)) := ⟨by unfold scaleW; omega, by unfold scaleW; omega⟩
  have sd : scaleW y (stepE r y) / 4503599627370496 = stepE r y := by unfold scaleW; omega
  have sm : scaleW y (stepE r y) % 4503599627370496 = y % 4503599627370496 := by unfold scaleW; omega
  have vs := hs.val
  rw [sd, sm] at vs
  have vr' := hr.val
  have vy := hy.val
  have sler : scaleW y (stepE r y) ≤ r := by
    unfold scaleW stepE
    split <;> omega
  have p0 := pos2 (-1075)
  -- the difference, in digits
  have dif : ∃ (k : Nat), k < 4503599627370496 * 2 ∧ val r - val (scaleW y (stepE r y)) = (k:Rat) * (2:Rat)^((stepE r y : Nat):Int) * (2:Rat)^(-1075:Int) ∧ (k = 0 ↔ scaleW y (stepE r y) = r) := by
    rw [vr', vs]
    by_cases g : r % 4503599627370496 < y % 4503599627370496
    · have es : stepE r y = r / 4503599627370496 - 1 := by unfold stepE; rw [if_pos g]
      have e2 : (2:Rat)^((r / 4503599627370496 : Nat):Int) = 2 * (2:Rat)^((stepE r y : Nat):Int) := by
        have := add2 ((stepE r y : Nat):Int) 1
        rw [show ((stepE r y : Nat):Int) + 1 = ((r / 4503599627370496 : Nat):Int) by omega] at this
        have t : (2:Rat)^(1:Int) = 2 := by decide +kernel
        rw [t] at this
        grind
      refine ⟨2 * (4503599627370496 + r % 4503599627370496) - (4503599627370496 + y % 4503599627370496), by omega, ?_, by unfold scaleW; omega⟩
      have e3 : ((2 * (4503599627370496 + r % 4503599627370496) - (4503599627370496 + y % 4503599627370496) : Nat):Rat) = 2 * ((4503599627370496 + r % 4503599627370496 : Nat):Rat) - ((4503599627370496 + y % 4503599627370496 : Nat):Rat) := by
        have h : (2 * (4503599627370496 + r % 4503599627370496) - (4503599627370496 + y % 4503599627370496)) + (4503599627370496 + y % 4503599627370496) = 2 * (4503599627370496 + r % 4503599627370496) := by omega
        generalize 4503599627370496 + y % 4503599627370496 = Y at *
        generalize 4503599627370496 + r % 4503599627370496 = R at *
        generalize 2 * R - Y = K at *
        have h' : (K:Rat) + (Y:Rat) = 2 * (R:Rat) := by exact_mod_cast h
        grind
      rw [e3, e2]
      generalize ((4503599627370496 + r % 4503599627370496 : Nat):Rat) = R
      generalize ((4503599627370496 + y % 4503599627370496 : Nat):Rat) = Y
      grind
    · have es : stepE r y = r / 4503599627370496 := by unfold stepE; rw [if_neg g]
      refine ⟨(4503599627370496 + r % 4503599627370496) - (4503599627370496 + y % 4503599627370496), by omega, ?_, by unfold scaleW; omega⟩
      have e3 : (((4503599627370496 + r % 4503599627370496) - (4503599627370496 + y % 4503599627370496) : Nat):Rat) = ((4503599627370496 + r % 4503599627370496 : Nat):Rat) - ((4503599627370496 + y % 4503599627370496 : Nat):Rat) := by
        have h : ((4503599627370496 + r % 4503599627370496) - (4503599627370496 + y % 4503599627370496)) + (4503599627370496 + y % 4503599627370496) = (4503599627370496 + r % 4503599627370496) := by omega
        generalize 4503599627370496 + y % 4503599627370496 = Y at *
        generalize 4503599627370496 + r % 4503599627370496 = R at *
        generalize R - Y = K at *
        have h' : (K:Rat) + (Y:Rat) = (R:Rat) := by exact_mod_cast h
        grind
      rw [e3, es]
      generalize ((4503599627370496 + r % 4503599627370496 : Nat):Rat) = R
      generalize ((4503599627370496 + y % 4503599627370496 : Nat):Rat) = Y
      grind
  obtain ⟨k, k1, k2, k3⟩ := dif
  obtain ⟨_, rd⟩ := fsub_some hr.fin hs.fin
  have rep : Fnt (modStep r y) ∧ val (modStep r y) = val r - val (scaleW y (stepE r y)) := by
    refine rd.rep k (((stepE r y : Nat):Int) - 1075) (by omega) (by omega) ?_ (Or.inl ?_)
    · have lg : k.log2 ≤ 52 := by
        by_cases c : k = 0
        · rw [c]; decide
        · have e53 : 2 ^ 53 = 9007199254740992 := by decide
          have := (Nat.log2_lt c).2 (show k < 2 ^ 53 by omega)
          omega
      omega
    · rw [k2, Rat.mul_assoc, ← add2]; congr 2
  obtain ⟨f, v⟩ := rep
  have kn : (0:Rat) ≤ (k:Rat) := by exact_mod_cast Nat.zero_le _
  have nn : 0 ≤ val (modStep r y) := by
    rw [v, k2]
    exact Rat.mul_nonneg (Rat.mul_nonneg kn (Rat.le_of_lt (pos2 _))) (Rat.le_of_lt p0)
  have spos : 0 < val (scaleW y (stepE r y)) := by
    rw [vs]
    have : (0:Rat) < ((4503599627370496 + y % 4503599627370496 : Nat):Rat) := by
      have : 0 < 4503599627370496 + y % 4503599627370496 := by omega
      exact_mod_cast this
    exact Rat.mul_pos (Rat.mul_pos this (pos2 _)) p0
  refine ⟨E1, E2, E3, hs, f, ?_, v, nn, ?_⟩
  · by_cases z : k = 0
    · have e := k3.1 z
      have : modStep r y = 0 := by unfold modStep; rw [e]; exact fsub_self hr.fin
      omega
    · have vp : 0 < val (modStep r y) := by
        rw [v, k2]
        have : (0:Rat) < (k:Rat) := by exact_mod_cast Nat.pos_of_ne_zero z
        exact Rat.mul_pos (Rat.mul_pos this (pos2 _)) p0
      -- a positive word
      have hlt : modStep r y < 18446744073709551616 := rd.lt
      have s0 : sgn (modStep r y) = false := by
        cases h : sgn (modStep r y)
        · rfl
        · exfalso
          have := vr_nonneg (modStep r y % 9223372036854775808)
          rw [val_eq, h] at vp
          simp only [sg, if_true] at vp
          grind
      have : modStep r y < 9223372036854775808 := by
        unfold Flt.sgn at s0
        have : modStep r y / 9223372036854775808 % 2 ≠ 1 := by intro h; rw [h] at s0; cases s0
        omega
      have fm : modStep r y < 9218868437227405312 := by unfold Fnt at f; omega
      exact (pos_mono fm b).2.2 (by rw [v]; grind)
  · refine ⟨2 ^ (stepE r y - y / 4503599627370496), ?_⟩
    rw [vs, vy, nat2]
    have e : (2:Rat)^((stepE r y : Nat):Int) = (2:Rat)^((stepE r y - y / 4503599627370496 : Nat):Int) * (2:Rat)^((y / 4503599627370496 : Nat):Int) := by
      rw [← add2]; congr 1; omega
    rw [e]
    grind

/-- The remainder of a word that is not below 0. -/
def modF (y : Nat) : Nat → Nat → Nat
  | 0, r => r
  | n + 1, r => if y ≤ r then modF y n (modStep r y) else r

theorem modF_more (y : Nat) (hy : Nrm y) : ∀ (n m r : Nat), r < 9218868437227405312 → r ≤ n → r ≤ m → modF y n r = modF y m r := by
  intro n
  induction n with
  | zero =>
    intro m r hr h1 h2
    have : r = 0 := by omega
    subst this
    have := hy.lo
    cases m with
    | zero => rfl
    | succ m => rw [modF, modF, if_neg (by omega)]
  | succ n ih =>
    intro m r hr h1 h2
    by_cases c : y ≤ r
    · have ok := step_ok r y ⟨Nat.le_trans hy.lo c, hr⟩ hy c
      have := hy.lo
      cases m with
      | zero => omega
      | succ m =>
        rw [modF, modF, if_pos c, if_pos c]
        have := ok.lt
        exact ih m _ (by omega) (by omega) (by omega)
    · rw [modF, if_neg c]
      cases m with
      | zero => rw [modF]
      | succ m => rw [modF, if_neg c]

def modR (r y : Nat) : Nat := modF y r r

theorem modR_step {r y : Nat} (hy : Nrm y) (hr : r < 9218868437227405312) (c : y ≤ r) : modR r y = modR (modStep r y) y := by
  have ok := step_ok r y ⟨Nat.le_trans hy.lo c, hr⟩ hy c
  have h := ok.lt
  have := hy.lo
  unfold modR
  cases r with
  | zero => omega
  | succ n =>
    rw [modF, if_pos c]
    exact modF_more y hy _ _ _ (by omega) (by omega) (by omega)

theorem modR_end {r y : Nat} (c : ¬ y ≤ r) : modR r y = r := by
  unfold modR
  cases r with
  | zero => rfl
  | succ n => rw [modF, if_neg c]

theorem modR_ok (y : Nat) (hy : Nrm y) : ∀ (n r : Nat), r ≤ n → r < 9218868437227405312 → modR r y < 9218868437227405312 ∧ 0 ≤ val (modR r y) ∧ val (modR r y) < val y ∧ ∃ k : Nat, val (modR r y) = val r - (k:Rat) * val y := by
  intro n
  induction n with
  | zero =>
    intro r h hr
    have := hy.lo
    rw [modR_end (by omega)]
    refine ⟨hr, ?_, (pos_mono hr hy.hi).2.1 (by omega), 0, ?_⟩
    · rw [pos_val (by omega)]; exact vr_nonneg _
    · have z : ((0:Nat):Rat) = 0 := rfl
      rw [z]; grind
  | succ n ih =>
    intro r h hr
    by_cases c : y ≤ r
    · have ok := step_ok r y ⟨Nat.le_trans hy.lo c, hr⟩ hy c
      have lt := ok.lt
      obtain ⟨a, b, d, k, e⟩ := ih (modStep r y) (by omega) (by omega)
      obtain ⟨m, hm⟩ := ok.mul
      rw [modR_step hy hr c]
      refine ⟨a, b, d, k + m, ?_⟩
      rw [e, ok.vv, hm]
      have : ((k + m : Nat):Rat) = (k:Rat) + (m:Rat) := by simp
      rw [this]; grind
    · rw [modR_end c]
      refine ⟨hr, ?_, (pos_mono hr hy.hi).2.1 (by omega), 0, ?_⟩
      · rw [pos_val (by omega)]; exact vr_nonneg _
      · have z : ((0:Nat):Rat) = 0 := rfl
        rw [z]; grind

def negW (x : Nat) : Nat := Op.negFloat .f64 x

theorem negW_pos {x : Nat} (h : x < 9223372036854775808) : negW x = x + 9223372036854775808 := by
  unfold negW Op.negFloat
  show x ^^^ 2 ^ 63 = _
  have := Nat.two_pow_add_eq_or_of_lt (i := 63) (b := x) (by simpa using h) 1
  have e : x ^^^ 2 ^ 63 = 2 ^ 63 * 1 ||| x := by
    apply Nat.eq_of_testBit_eq
    intro i
    rw [Nat.testBit_xor, Nat.testBit_or, Nat.mul_one, Nat.testBit_two_pow]
    by_cases c : 63 = i
    · subst c
      have : x.testBit 63 = false := Nat.testBit_lt_two_pow (by simpa using h)
      simp [this]
    · simp [c]
  rw [e, ← this]
  have e63 : 2 ^ 63 = 9223372036854775808 := by decide
  omega

theorem negW_neg {x : Nat} (h : 9223372036854775808 ≤ x) (h' : x < 18446744073709551616) : negW x = x - 9223372036854775808 := by
  have := negW_pos (x := x - 9223372036854775808) (by omega)
  rw [show x - 9223372036854775808 + 9223372036854775808 = x by omega] at this
  have e2 : negW (negW (x - 9223372036854775808)) = x - 9223372036854775808 := by
    unfold negW Op.negFloat
    rw [Nat.xor_assoc, Nat.xor_self, Nat.xor_zero]
  rw [this] at e2
  exact e2

theorem negW_val {x : Nat} (h : Fnt x) (h' : x < 18446744073709551616) : Fnt (negW x) ∧ val (negW x) = - val x ∧ negW x < 18446744073709551616 := by
  unfold Fnt at *
  by_cases c : x < 9223372036854775808
  · rw [negW_pos c]
    refine ⟨by omega, ?_, by omega⟩
    rw [val_eq, pos_val c]
    have s : sgn (x + 9223372036854775808) = true := by
      unfold Flt.sgn
      have : (x + 9223372036854775808) / 9223372036854775808 = 1 := by omega
      rw [this]; rfl
    rw [s, show (x + 9223372036854775808) % 9223372036854775808 = x by omega]
    simp only [sg, if_true]; grind
  · rw [negW_neg (by omega) h']
    refine ⟨by omega, ?_, by omega⟩
    rw [pos_val (by omega), val_eq]
    have s : sgn x = true := by
      unfold Flt.sgn
      have : x / 9223372036854775808 = 1 := by omega
      rw [this]; rfl
    rw [s, show x % 9223372036854775808 = x - 9223372036854775808 by omega]
    simp only [sg, if_true]; grind

/-- math.Mod of a finite word and a positive normal one. -/
def modW (x y : Nat) : Nat := if val x < 0 then negW (modR (negW x) y) else if x < 9223372036854775808 then modR x y else x

theorem neg_word {x : Nat} (h : val x < 0) : 9223372036854775808 ≤ x := by
  refine Nat.le_of_not_lt fun c => ?_
  rw [pos_val c] at h
  have := vr_nonneg x
  grind

theorem modW_ok (x y : Nat) (hx : Fnt x) (hx' : x < 18446744073709551616) (hy : Nrm y) : Fnt (modW x y) ∧ modW x y < 18446744073709551616 ∧ -val y < val (modW x y) ∧ val (modW x y) < val y ∧ (0 ≤ val x → 0 ≤ val (modW x y)) ∧ ∃ k : Int, val (modW x y) = val x - (k:Rat) * val y := by
  have ypos : 0 < val y := by
    rw [pos_val (by have := hy.hi; omega)]
    have z := vr_mono (r := 1) (r' := y) (by decide) hy.hi (by have := hy.lo; omega)
    have : 0 < vr 1 := by
      unfold vr
      rw [if_pos (by decide)]
      exact Rat.mul_pos (by decide) (pos2 _)
    grind
  unfold modW
  by_cases c : val x < 0
  · rw [if_pos c]
    have hn := neg_word c
    obtain ⟨f1, v1, l1⟩ := negW_val hx hx'
    have hr : negW x < 9218868437227405312 := by
      rw [negW_neg hn hx']
      unfold Fnt at hx
      omega
    obtain ⟨a, b, d, k, e⟩ := modR_ok y hy _ (negW x) (Nat.le_refl _) hr
    have fm : Fnt (modR (negW x) y) := by unfold Fnt; omega
    obtain ⟨f2, v2, l2⟩ := negW_val fm (by omega)
    refine ⟨f2, l2, by rw [v2]; grind, by rw [v2]; grind, fun h => by grind, -(k:Int), ?_⟩
    rw [v2, e, v1]
    have : ((-(k:Int) : Int):Rat) = -(k:Rat) := by rw [Rat.intCast_neg]; rfl
    rw [this]; grind
  · rw [if_neg c]
    by_cases d : x < 9223372036854775808
    · rw [if_pos d]
      have hr : x < 9218868437227405312 := by unfold Fnt at hx; omega
      obtain ⟨a, b, d', k, e⟩ := modR_ok y hy _ x (Nat.le_refl _) hr
      refine ⟨by unfold Fnt; omega, by omega, by grind, d', fun _ => b, (k:Int), ?_⟩
      rw [e]; rfl
    · rw [if_neg d]
      have v0 : val x = 0 := by
        have s : sgn x = true := by
          unfold Flt.sgn
          have : x / 9223372036854775808 = 1 := by omega
          rw [this]; rfl
        have := vr_nonneg (x % 9223372036854775808)
        have e := val_eq x
        rw [s] at e
        simp only [sg, if_true] at e
        grind
      refine ⟨hx, hx', by grind, by grind, fun h => h, 0, ?_⟩
      have z : ((0:Int):Rat) = 0 := rfl
      rw [z]; grind
end Go.Proofs.YtpbpkdhdjdaiiaaDoor
