/- Floats: what the words of binary64 stand for, as rational numbers; how each operation rounds. Plain: no program in sight. -/
import Derived.Laws.FloatArith
namespace Go.Proofs.YtpbpkdhdjdaiiaaDoor.Flt
open Ieee

theorem lp : double.leastPlace = -1074 := by decide
theorem bin : double.binade = 4503599627370496 := by decide
theorem fb : double.fractionBits = 52 := rfl
theorem infr : double.infRung = 9218868437227405312 := by decide
theorem sw : double.signWeight = 9223372036854775808 := by decide

/-- to the nearest, ties to even -/
structure Near (k : Nat) (x : Rat) : Prop where
  lo : (k:Rat) - 1/2 ≤ x
  hi : x ≤ (k:Rat) + 1/2
  ev : ((k:Rat) - 1/2 = x ∨ x = (k:Rat) + 1/2) → k % 2 = 0

theorem Near.mono {k l : Nat} {x y : Rat} (h : Near k x) (g : Near l y) (le : x ≤ y) : k ≤ l := by
  refine Nat.le_of_not_lt fun c => ?_
  have c' : ((l + 1 : Nat) : Rat) ≤ (k : Rat) := by exact_mod_cast c
  have c2 : (l:Rat) + 1 ≤ (k:Rat) := by simpa using c'
  have h1 := h.lo
  have h2 := g.hi
  have e1 : (k:Rat) - 1/2 = x := by grind
  have e2 : y = (l:Rat) + 1/2 := by grind
  have e3 : (k:Rat) = (l:Rat) + 1 := by grind
  have e4 : k = l + 1 := by exact_mod_cast e3
  have a := h.ev (Or.inl e1)
  have b := g.ev (Or.inr e2)
  omega

theorem Near.exact (k : Nat) : Near k (k:Rat) := ⟨by grind, by grind, by grind⟩

theorem Near.same {k l : Nat} {x : Rat} (h : Near k x) (g : Near l x) : k = l :=
  Nat.le_antisymm (h.mono g (by grind)) (g.mono h (by grind))

theorem pos2 (k : Int) : (0:Rat) < (2:Rat)^k := Rat.zpow_pos (by decide)
theorem add2 (a b : Int) : (2:Rat)^(a+b) = (2:Rat)^a * (2:Rat)^b := Rat.zpow_add (by decide) a b
theorem nat2 (n : Nat) : ((2^n : Nat) : Rat) = (2:Rat)^(n:Int) := by
  rw [Rat.zpow_natCast]; simp
theorem mono2 {a b : Int} (h : a ≤ b) : (2:Rat)^a ≤ (2:Rat)^b := by
  obtain ⟨n, hn⟩ := Int.eq_ofNat_of_zero_le (show 0 ≤ b - a by omega)
  have : b = a + n := by omega
  rw [this, add2, ← nat2]
  have h1 : (1:Rat) ≤ ((2^n : Nat) : Rat) := by exact_mod_cast Nat.one_le_two_pow
  have := Rat.mul_le_mul_of_nonneg_left h1 (Rat.le_of_lt (pos2 a))
  grind
theorem lt2 {a b : Int} (h : a < b) : (2:Rat)^a < (2:Rat)^b := by
  have h1 := mono2 (show a + 1 ≤ b by omega)
  rw [add2] at h1
  have := pos2 a
  have e : (2:Rat)^(1:Int) = 2 := by decide +kernel
  grind
theorem of_lt2 {a b : Int} (h : (2:Rat)^a < (2:Rat)^b) : a < b := by
  refine Int.lt_of_not_ge fun c => ?_
  have := mono2 c
  grind
theorem neg2 (a : Int) : (2:Rat)^a * (2:Rat)^(-a) = 1 := by
  rw [← add2]; simp [Int.add_right_neg]

theorem le_of_nn {a b : Rat} (c : Rat) (hc : 0 < c) (h : a * c ≤ b * c) : a ≤ b := Rat.le_of_mul_le_mul_right h hc

/-- The cut to even is the nearest. -/
theorem cut_near (s : Bool) (n d : Nat) : Near (Toward.even.cut s n d) ((n:Rat) / ((2^d : Nat):Rat)) := by
  have key : ∀ g : Nat, 0 < g → Near (n / g + (decide (g < 2 * (n % g)) || (g == 2 * (n % g) && (n / g) % 2 == 1)).toNat) ((n:Rat) / (g:Rat)) := by
    intro g hg
    have hgq : (0:Rat) < (g:Rat) := by exact_mod_cast hg
    have hn : (n:Rat) = (g:Rat) * ((n/g : Nat):Rat) + ((n % g : Nat):Rat) := by
      have := Nat.div_add_mod n g
      exact_mod_cast this.symm
    have hr : ((n % g : Nat):Rat) < (g:Rat) := by exact_mod_cast Nat.mod_lt n hg
    have hr0 : (0:Rat) ≤ ((n % g : Nat):Rat) := by exact_mod_cast Nat.zero_le _
    have hdiv : (n:Rat) / (g:Rat) * (g:Rat) = (n:Rat) := Rat.div_mul_cancel (by grind)
    generalize (n:Rat) / (g:Rat) = x at *
    by_cases h1 : g < 2 * (n % g)
    · have h1' : (g:Rat) < 2 * ((n % g : Nat):Rat) := by exact_mod_cast h1
      simp only [h1, decide_true, Bool.true_or, Bool.toNat_true]
      generalize hq : n / g = q at *
      generalize n % g = r at *
      have e : ((q + 1 : Nat) : Rat) = (q:Rat) + 1 := by simp
      refine ⟨?_, ?_, ?_⟩ <;> rw [e]
      · refine le_of_nn _ hgq ?_; grind
      · refine le_of_nn _ hgq ?_; grind
      · rintro (h | h)
        · exfalso; subst h; grind
        · exfalso; subst h; grind
    · have h1' : 2 * ((n % g : Nat):Rat) ≤ (g:Rat) := by exact_mod_cast Nat.le_of_not_lt h1
      simp only [h1, decide_false, Bool.false_or]
      by_cases h2 : g = 2 * (n % g)
      · have h2' : (g:Rat) = 2 * ((n % g : Nat):Rat) := by exact_mod_cast h2
        by_cases h3 : (n / g) % 2 = 1
        · have e0 : (g == 2 * (n % g) && n / g % 2 == 1) = true := by simp [← h2, h3]
          rw [e0]
          simp only [Bool.toNat_true]
          generalize hq : n / g = q at *
          generalize n % g = r at *
          have e : ((q + 1 : Nat) : Rat) = (q:Rat) + 1 := by simp
          refine ⟨?_, ?_, fun _ => by omega⟩ <;> rw [e]
          · refine le_of_nn _ hgq ?_; grind
          · refine le_of_nn _ hgq ?_; grind
        · have e0 : (g == 2 * (n % g) && n / g % 2 == 1) = false := by simp [h3]
          rw [e0]
          simp only [Bool.toNat_false, Nat.add_zero]
          generalize hq : n / g = q at *
          generalize n % g = r at *
          refine ⟨?_, ?_, fun _ => by omega⟩
          · refine le_of_nn _ hgq ?_; grind
          · refine le_of_nn _ hgq ?_; grind
      · have h2' : 2 * ((n % g : Nat):Rat) < (g:Rat) := by
          have : 2 * (n % g) < g := by omega
          exact_mod_cast this
        have e0 : (g == 2 * (n % g) && n / g % 2 == 1) = false := by simp [h2]
        rw [e0]
        simp only [Bool.toNat_false, Nat.add_zero]
        generalize hq : n / g = q at *
        generalize n % g = r at *
        refine ⟨?_, ?_, ?_⟩
        · refine le_of_nn _ hgq ?_; grind
        · refine le_of_nn _ hgq ?_; grind
        · rintro (h | h)
          · exfalso; subst h; grind
          · exfalso; subst h; grind
  have big : n < 2 ^ (n.log2 + 1) := Nat.lt_log2_self
  have e : Toward.even.cut s n d = n / (2^(min d (n.log2+2))) + (decide (2^(min d (n.log2+2)) < 2 * (n % 2^(min d (n.log2+2)))) || (2^(min d (n.log2+2)) == 2 * (n % 2^(min d (n.log2+2))) && (n / 2^(min d (n.log2+2))) % 2 == 1)).toNat := by
    unfold Toward.cut
    simp [Nat.one_shiftLeft]
  rw [e]
  by_cases hd : d ≤ n.log2 + 2
  · rw [Nat.min_eq_left hd]
    exact key _ (Nat.two_pow_pos d)
  · have hp : 2 ^ (n.log2 + 2) = 2 * 2 ^ (n.log2 + 1) := by rw [show n.log2 + 2 = n.log2 + 1 + 1 from rfl, Nat.pow_succ]; omega
    have hp2 : 2 ^ (n.log2 + 2) ≤ 2 ^ d := Nat.pow_le_pow_right (by decide) (by omega)
    rw [Nat.min_eq_right (by omega)]
    have a1 : n / 2 ^ (n.log2 + 2) = 0 := Nat.div_eq_of_lt (by omega)
    have a2 : n % 2 ^ (n.log2 + 2) = n := Nat.mod_eq_of_lt (by omega)
    have b1 : n / 2 ^ d = 0 := Nat.div_eq_of_lt (by omega)
    have b2 : n % 2 ^ d = n := Nat.mod_eq_of_lt (by omega)
    have := key (2^d) (Nat.two_pow_pos d)
    rw [b1, b2] at this
    rw [a1, a2]
    have c1 : decide (2 ^ d < 2 * n) = false := by simp; omega
    have c2 : (2 ^ d == 2 * n) = false := by simp; omega
    have c3 : decide (2 ^ (n.log2 + 2) < 2 * n) = false := by simp; omega
    have c4 : (2 ^ (n.log2 + 2) == 2 * n) = false := by simp; omega
    rw [c1, c2] at this
    rw [c3, c4]
    exact this

/-- The rung of 'm * 2 ^ p'. -/
def rg (m : Nat) (p : Int) : Nat :=
  if m = 0 then 0 else
  min ((max (p + (m.log2:Int) - 52) (-1074) + 1074).toNat * 4503599627370496 + Toward.even.cut false (m <<< (p - max (p + (m.log2:Int) - 52) (-1074)).toNat) (max (p + (m.log2:Int) - 52) (-1074) - p).toNat) 9218868437227405312

theorem nearest_eq (s : Bool) (m : Nat) (p : Int) : double.nearest s m p = double.word s (rg m p) := by
  unfold Format.nearest rg
  rw [lp, bin, infr, fb]
  split
  · rfl
  · have : ∀ n d, Toward.even.cut s n d = Toward.even.cut false n d := fun n d => by simp [Toward.cut]
    simp only [this, Int.sub_neg]
    rfl

/-- r is the rung to which the magnitude v rounds. -/
def IsRg (v : Rat) (r : Nat) : Prop :=
  (v = 0 ∧ r = 0) ∨ ∃ (e : Int) (k : Nat), (2:Rat)^e ≤ v ∧ v < (2:Rat)^(e+1) ∧ Near k (v * (2:Rat)^(-(max (e - 52) (-1074)))) ∧ r = min ((max (e-52) (-1074) + 1074).toNat * 4503599627370496 + k) 9218868437227405312

theorem rg_is (m : Nat) (p : Int) : IsRg ((m:Rat) * (2:Rat)^p) (rg m p) := by
  by_cases hm : m = 0
  · left; subst hm; simp [rg]
  · right
    refine ⟨p + m.log2, Toward.even.cut false (m <<< (p - max (p + (m.log2:Int) - 52) (-1074)).toNat) (max (p + (m.log2:Int) - 52) (-1074) - p).toNat, ?_, ?_, ?_, ?_⟩
    · rw [add2, Rat.mul_comm]
      refine Rat.mul_le_mul_of_nonneg_right ?_ (Rat.le_of_lt (pos2 p))
      rw [← nat2]
      exact_mod_cast Nat.log2_self_le hm
    · rw [Int.add_assoc, add2, Rat.mul_comm]
      refine Rat.mul_lt_mul_of_pos_left ?_ (pos2 p)
      have := Nat.lt_log2_self (n := m)
      have e := nat2 (m.log2 + 1)
      rw [show ((m.log2 + 1 : Nat):Int) = (m.log2:Int) + 1 by simp] at e
      rw [← e]
      exact_mod_cast this
    · have h := cut_near false (m <<< (p - max (p + (m.log2:Int) - 52) (-1074)).toNat) (max (p + (m.log2:Int) - 52) (-1074) - p).toNat
      have e : (m:Rat) * (2:Rat)^p * (2:Rat)^(-(max (p + (m.log2:Int) - 52) (-1074))) = ((m <<< (p - max (p + (m.log2:Int) - 52) (-1074)).toNat : Nat) : Rat) / ((2 ^ (max (p + (m.log2:Int) - 52) (-1074) - p).toNat : Nat) : Rat) := by
        generalize max (p + (m.log2:Int) - 52) (-1074) = l
        rw [Nat.shiftLeft_eq]
        have e1 : ((m * 2 ^ (p - l).toNat : Nat) : Rat) = (m:Rat) * (2:Rat)^(((p-l).toNat:Nat):Int) := by rw [← nat2]; exact_mod_cast rfl
        rw [e1, nat2, Rat.div_def, ← Rat.zpow_neg, Rat.mul_assoc, Rat.mul_assoc, ← add2, ← add2]
        congr 2
        omega
      rw [e]; exact h
    · rw [rg, if_neg hm]

theorem IsRg.nonneg {v : Rat} {r : Nat} (h : IsRg v r) : 0 ≤ v := by
  rcases h with ⟨rfl, _⟩ | ⟨e, k, h1, _⟩
  · decide
  · have := pos2 e; grind

theorem IsRg.mono {v v' : Rat} {r r' : Nat} (h : IsRg v r) (g : IsRg v' r') (le : v ≤ v') : r ≤ r' := by
  rcases h with ⟨rfl, rfl⟩ | ⟨e, k, h1, h2, h3, rfl⟩
  · exact Nat.zero_le _
  rcases g with ⟨rfl, rfl⟩ | ⟨e', k', g1, g2, g3, rfl⟩
  · have := pos2 e; exfalso; grind
  have he : e < e' + 1 := of_lt2 (by grind)
  by_cases c : max (e - 52) (-1074) = max (e' - 52) (-1074)
  · rw [c] at h3 ⊢
    have : k ≤ k' := h3.mono g3 (Rat.mul_le_mul_of_nonneg_right le (Rat.le_of_lt (pos2 _)))
    omega
  · have hl : max (e - 52) (-1074) + 1 ≤ max (e' - 52) (-1074) := by omega
    have hl' : max (e' - 52) (-1074) = e' - 52 := by omega
    have k1 : k ≤ 9007199254740992 := by
      refine h3.mono (Near.exact 9007199254740992) ?_
      have : v * (2:Rat)^(-(max (e - 52) (-1074))) ≤ (2:Rat)^(e+1) * (2:Rat)^(-(max (e - 52) (-1074))) := Rat.mul_le_mul_of_nonneg_right (Rat.le_of_lt h2) (Rat.le_of_lt (pos2 _))
      rw [← add2] at this
      have m : (2:Rat)^(e + 1 + -(max (e - 52) (-1074))) ≤ (2:Rat)^(53:Int) := mono2 (by omega)
      have e53 : (2:Rat)^(53:Int) = ((9007199254740992:Nat):Rat) := by decide +kernel
      grind
    have k2 : 4503599627370496 ≤ k' := by
      refine (Near.exact 4503599627370496).mono g3 ?_
      rw [hl']
      have : (2:Rat)^e' * (2:Rat)^(-(e' - 52)) ≤ v' * (2:Rat)^(-(e' - 52)) := Rat.mul_le_mul_of_nonneg_right g1 (Rat.le_of_lt (pos2 _))
      rw [← add2, show e' + -(e' - 52) = 52 by omega] at this
      have e52 : (2:Rat)^(52:Int) = ((4503599627370496:Nat):Rat) := by decide +kernel
      grind
    omega

theorem IsRg.same {v : Rat} {r r' : Nat} (h : IsRg v r) (g : IsRg v r') : r = r' :=
  Nat.le_antisymm (h.mono g (by grind)) (g.mono h (by grind))

/-- The value of a rung. -/
def vr (r : Nat) : Rat :=
  if r < 4503599627370496 then (r:Rat) * (2:Rat)^(-1074:Int)
  else ((4503599627370496 + r % 4503599627370496 : Nat):Rat) * (2:Rat)^(-1074 + ((r / 4503599627370496 - 1 : Nat):Int))

theorem vr_zero : vr 0 = 0 := by rw [vr, if_pos (by decide)]; exact Rat.zero_mul _

theorem vr_nonneg (r : Nat) : 0 ≤ vr r := by
  unfold vr
  split
  · exact Rat.mul_nonneg (by exact_mod_cast Nat.zero_le _) (Rat.le_of_lt (pos2 _))
  · exact Rat.mul_nonneg (by exact_mod_cast Nat.zero_le _) (Rat.le_of_lt (pos2 _))

/-- The value of a rung, by place and digits. -/
theorem vr_of (l : Int) (k : Nat) (hl : -1074 ≤ l) (hk : k ≤ 9007199254740992) (h : 4503599627370496 ≤ k ∨ l = -1074) :
    vr ((l + 1074).toNat * 4503599627370496 + k) = (k:Rat) * (2:Rat)^l := by
  obtain ⟨n, hn⟩ := Int.eq_ofNat_of_zero_le (show 0 ≤ l + 1074 by omega)
  obtain rfl : l = (n:Int) - 1074 := by omega
  rw [show ((n:Int) - 1074 + 1074).toNat = n by omega]
  by_cases c : n * 4503599627370496 + k < 4503599627370496
  · have : n = 0 := by omega
    subst this
    rw [vr, if_pos c, Nat.zero_mul, Nat.zero_add, show ((0:Nat):Int) - 1074 = -1074 by decide]
  · rw [vr, if_neg c]
    by_cases k2 : k = 9007199254740992
    · subst k2
      have e1 : (n * 4503599627370496 + 9007199254740992) % 4503599627370496 = 0 := by omega
      have e2 : (n * 4503599627370496 + 9007199254740992) / 4503599627370496 - 1 = n + 1 := by omega
      rw [e1, e2, show (-1074:Int) + ((n+1:Nat):Int) = ((n:Int) - 1074) + 1 by omega, add2]
      have : (2:Rat)^(1:Int) = 2 := by decide +kernel
      rw [this]
      have a : ((4503599627370496 + 0 : Nat):Rat) = 4503599627370496 := by simp
      have b : ((9007199254740992 : Nat):Rat) = 9007199254740992 := by simp
      rw [a, b]
      grind
    · by_cases k3 : 4503599627370496 ≤ k
      · have e1 : (n * 4503599627370496 + k) % 4503599627370496 = k - 4503599627370496 := by omega
        have e2 : (n * 4503599627370496 + k) / 4503599627370496 - 1 = n := by omega
        rw [e1, e2, show 4503599627370496 + (k - 4503599627370496) = k by omega, show (-1074:Int) + (n:Int) = (n:Int) - 1074 by omega]
      · omega

theorem log_of (k : Nat) (hk : k ≠ 0) : (2:Rat)^((k.log2:Nat):Int) ≤ (k:Rat) ∧ (k:Rat) < (2:Rat)^(((k.log2:Nat):Int)+1) := by
  have h1 := Nat.log2_self_le hk
  have h2 := Nat.lt_log2_self (n := k)
  constructor
  · rw [← nat2]; exact_mod_cast h1
  · rw [show (((k.log2:Nat):Int)+1) = ((k.log2+1:Nat):Int) by simp, ← nat2]; exact_mod_cast h2

/-- A place and digits that the format has: the value's own rung. -/
theorem IsRg.digits (l : Int) (k : Nat) (hl : -1074 ≤ l) (hk : k < 9007199254740992) (h : 4503599627370496 ≤ k ∨ l = -1074) (h3 : l ≤ 971) :
    IsRg ((k:Rat) * (2:Rat)^l) ((l + 1074).toNat * 4503599627370496 + k) := by
  by_cases k0 : k = 0
  · left
    subst k0
    have : l = -1074 := by omega
    subst this
    exact ⟨Rat.zero_mul _, by decide⟩
  · right
    obtain ⟨g1, g2⟩ := log_of k k0
    have lg : k.log2 < 53 := (Nat.log2_lt k0).2 (by omega)
    have hlast : max ((l + (k.log2:Nat)) - 52) (-1074) = l := by
      rcases h with h | h
      · have : 52 ≤ k.log2 := (Nat.le_log2 k0).2 (by omega)
        omega
      · omega
    refine ⟨l + (k.log2:Nat), k, ?_, ?_, ?_, ?_⟩
    · rw [add2, Rat.mul_comm]
      exact Rat.mul_le_mul_of_nonneg_right g1 (Rat.le_of_lt (pos2 _))
    · rw [Int.add_assoc, add2, Rat.mul_comm]
      exact Rat.mul_lt_mul_of_pos_left g2 (pos2 _)
    · rw [hlast, Rat.mul_assoc, neg2, Rat.mul_one]
      exact Near.exact k
    · rw [hlast]
      omega

theorem IsRg.exact (r : Nat) (h : r < 9218868437227405312) : IsRg (vr r) r := by
  by_cases c : r < 4503599627370496
  · have := IsRg.digits (-1074) r (by decide) (by omega) (Or.inr rfl) (by decide)
    rw [show ((-1074:Int) + 1074).toNat * 4503599627370496 + r = r by omega] at this
    rw [vr, if_pos c]
    exact this
  · have := IsRg.digits (-1074 + ((r / 4503599627370496 - 1 : Nat):Int)) (4503599627370496 + r % 4503599627370496) (by omega) (by omega) (Or.inl (by omega)) (by omega)
    rw [show ((-1074 + ((r / 4503599627370496 - 1 : Nat):Int)) + 1074).toNat * 4503599627370496 + (4503599627370496 + r % 4503599627370496) = r by omega] at this
    rw [vr, if_neg c]
    exact this

theorem vr_inj {r r' : Nat} (h : r < 9218868437227405312) (h' : r' < 9218868437227405312) (e : vr r = vr r') : r = r' := by
  have a := IsRg.exact r h
  have b := IsRg.exact r' h'
  rw [e] at a
  exact a.same b

theorem vr_lt {r r' : Nat} (h : r < 9218868437227405312) (h' : r' < 9218868437227405312) (e : vr r < vr r') : r < r' := by
  refine Nat.lt_of_not_le fun c => ?_
  have a := IsRg.exact r h
  have b := IsRg.exact r' h'
  have m := a.mono b (Rat.le_of_lt e)
  have : r = r' := by omega
  subst this
  grind

theorem vr_mono {r r' : Nat} (h : r < 9218868437227405312) (h' : r' < 9218868437227405312) (e : r ≤ r') : vr r ≤ vr r' := by
  refine Rat.not_lt.1 fun c => ?_
  have := vr_lt h' h c
  omega

/-- HOW FAR A ROUNDED NUMBER LIES FROM WHAT IT STANDS FOR. -/
theorem IsRg.error {v : Rat} {r : Nat} (h : IsRg v r) (j : Int) (hj : -1021 ≤ j) (hj' : j ≤ 1022) (hv : v ≤ (2:Rat)^j) :
    r < 9218868437227405312 ∧ v - (2:Rat)^(j-54) ≤ vr r ∧ vr r ≤ v + (2:Rat)^(j-54) := by
  rcases h with ⟨rfl, rfl⟩ | ⟨e, k, h1, h2, h3, rfl⟩
  · refine ⟨by decide, ?_, ?_⟩ <;> rw [vr_zero] <;> have := pos2 (j-54) <;> grind
  have he : e ≤ j := by
    have : (2:Rat)^e < (2:Rat)^(j+1) := by have := lt2 (show j < j + 1 by omega); grind
    have := of_lt2 this
    omega
  have hlast : -1074 ≤ max (e - 52) (-1074) := by omega
  have k1 : k ≤ 9007199254740992 := by
    refine h3.mono (Near.exact 9007199254740992) ?_
    have : v * (2:Rat)^(-(max (e - 52) (-1074))) ≤ (2:Rat)^(e+1) * (2:Rat)^(-(max (e - 52) (-1074))) := Rat.mul_le_mul_of_nonneg_right (Rat.le_of_lt h2) (Rat.le_of_lt (pos2 _))
    rw [← add2] at this
    have m : (2:Rat)^(e + 1 + -(max (e - 52) (-1074))) ≤ (2:Rat)^(53:Int) := mono2 (by omega)
    have e53 : (2:Rat)^(53:Int) = ((9007199254740992:Nat):Rat) := by decide +kernel
    grind
  have k2 : 4503599627370496 ≤ k ∨ max (e - 52) (-1074) = -1074 := by
    by_cases c : max (e - 52) (-1074) = -1074
    · exact Or.inr c
    · left
      have hl' : max (e - 52) (-1074) = e - 52 := by omega
      refine (Near.exact 4503599627370496).mono h3 ?_
      rw [hl']
      have : (2:Rat)^e * (2:Rat)^(-(e - 52)) ≤ v * (2:Rat)^(-(e - 52)) := Rat.mul_le_mul_of_nonneg_right h1 (Rat.le_of_lt (pos2 _))
      rw [← add2, show e + -(e - 52) = 52 by omega] at this
      have e52 : (2:Rat)^(52:Int) = ((4503599627370496:Nat):Rat) := by decide +kernel
      grind
  have hm : (max (e - 52) (-1074) + 1074).toNat * 4503599627370496 + k < 9218868437227405312 := by omega
  rw [Nat.min_eq_left (by omega)]
  refine ⟨hm, ?_⟩
  rw [vr_of _ k hlast k1 k2]
  by_cases ej : e = j
  · have ev : v = (2:Rat)^e := by subst ej; grind
    subst ej
    have hl' : max (e - 52) (-1074) = e - 52 := by omega
    rw [hl'] at h3 ⊢
    have ek : v * (2:Rat)^(-(e - 52)) = ((4503599627370496:Nat):Rat) := by
      rw [ev, ← add2, show e + -(e - 52) = 52 by omega]
      decide +kernel
    rw [ek] at h3
    have := h3.same (Near.exact _)
    subst this
    have e2 : ((4503599627370496:Nat):Rat) * (2:Rat)^(e - 52) = v := by
      rw [← ek, Rat.mul_assoc, ← add2, show -(e-52) + (e - 52) = 0 by omega, Rat.zpow_zero, Rat.mul_one]
    rw [e2]
    have := pos2 (e - 54)
    constructor <;> grind
  · have hb : (2:Rat)^(max (e - 52) (-1074)) ≤ (2:Rat)^(j - 53) := mono2 (by omega)
    have hs : (2:Rat)^(j - 53) = 2 * (2:Rat)^(j-54) := by
      rw [show j - 53 = (j - 54) + 1 by omega, add2]
      have : (2:Rat)^(1:Int) = 2 := by decide +kernel
      rw [this]; grind
    have hx : v * (2:Rat)^(-(max (e - 52) (-1074))) * (2:Rat)^(max (e - 52) (-1074)) = v := by
      rw [Rat.mul_assoc, ← add2, show -(max (e - 52) (-1074)) + (max (e - 52) (-1074)) = 0 by omega, Rat.zpow_zero, Rat.mul_one]
    have p := pos2 (max (e - 52) (-1074))
    generalize (2:Rat)^(max (e - 52) (-1074)) = u at *
    generalize v * (2:Rat)^(-(max (e - 52) (-1074))) = x at *
    have a := Rat.mul_le_mul_of_nonneg_right h3.lo (Rat.le_of_lt p)
    have b := Rat.mul_le_mul_of_nonneg_right h3.hi (Rat.le_of_lt p)
    constructor <;> grind

def sgn (x : Nat) : Bool := x / 9223372036854775808 % 2 == 1
def Fnt (x : Nat) : Prop := x % 9223372036854775808 < 9218868437227405312
def val (x : Nat) : Rat := (if sgn x then -1 else 1) * vr (x % 9223372036854775808)

theorem rg_le (m : Nat) (p : Int) : rg m p ≤ 9218868437227405312 := by
  unfold rg
  split
  · decide
  · exact Nat.min_le_right _ _

theorem word_mod (s : Bool) (r : Nat) (h : r ≤ 9218868437227405312) : double.word s r % 9223372036854775808 = r := by
  unfold Format.word
  rw [sw]
  split <;> omega

theorem word_sgn (s : Bool) (r : Nat) (h : r ≤ 9218868437227405312) : sgn (double.word s r) = s := by
  unfold Format.word sgn
  rw [sw]
  cases s
  · simp; omega
  · simp; omega

theorem word_lt' (s : Bool) (r : Nat) (h : r ≤ 9218868437227405312) : double.word s r < 18446744073709551616 := by
  unfold Format.word
  rw [sw]
  split <;> omega

theorem word_fin (s : Bool) (r : Nat) (h : r < 9218868437227405312) : Fnt (double.word s r) := by
  unfold Fnt
  rw [word_mod s r (by omega)]
  exact h

theorem word_of (x : Nat) (hx : x < 18446744073709551616) : double.word (sgn x) (x % 9223372036854775808) = x := by
  unfold Format.word sgn
  rw [sw]
  by_cases h : x < 9223372036854775808
  · have : x / 9223372036854775808 = 0 := by omega
    simp [this]; omega
  · have : x / 9223372036854775808 = 1 := by omega
    simp [this]; omega

/-- What a finite word reads as. -/
theorem read_fin {x : Nat} (h : Fnt x) : ∃ m p, double.read x = .number (sgn x) m p ∧ (m:Rat) * (2:Rat)^p = vr (x % 9223372036854775808) := by
  unfold Format.read
  rw [sw, bin, infr, lp]
  unfold Fnt at h
  by_cases c : x % 9223372036854775808 < 4503599627370496
  · refine ⟨x % 9223372036854775808, -1074, ?_, ?_⟩
    · simp only [c, if_true]; rfl
    · rw [vr, if_pos c]
  · refine ⟨4503599627370496 + x % 9223372036854775808 % 4503599627370496, -1074 + ((x % 9223372036854775808 / 4503599627370496 - 1 : Nat):Int), ?_, ?_⟩
    · simp only [c, h, if_true, if_false]; rfl
    · rw [vr, if_neg c]

/-- THE WORD TO WHICH A NUMBER ROUNDS. -/
structure Rd (q : Rat) (x : Nat) : Prop where
  word : ∃ s r, r ≤ 9218868437227405312 ∧ x = double.word s r ∧ ((s = true ∧ q ≤ 0 ∧ IsRg (-q) r) ∨ (s = false ∧ 0 ≤ q ∧ IsRg q r))

theorem rd_write (s : Bool) (m : Nat) (p : Int) : Rd ((if s then -1 else 1) * ((m:Rat) * (2:Rat)^p)) (double.write (.number s m p)) := by
  refine ⟨s, rg m p, rg_le m p, ?_, ?_⟩
  · show double.nearest s m p = _
    exact nearest_eq s m p
  · have h0 : 0 ≤ (m:Rat) * (2:Rat)^p := Rat.mul_nonneg (by exact_mod_cast Nat.zero_le _) (Rat.le_of_lt (pos2 _))
    cases s
    · right
      refine ⟨rfl, by simpa using h0, ?_⟩
      have := rg_is m p
      simpa using this
    · left
      refine ⟨rfl, by simp; grind, ?_⟩
      have := rg_is m p
      have e : -((if true = true then (-1:Rat) else 1) * ((m:Rat) * (2:Rat)^p)) = (m:Rat) * (2:Rat)^p := by simp; grind
      rw [e]; exact this

theorem Rd.lt {q : Rat} {x : Nat} (h : Rd q x) : x < 18446744073709551616 := by
  obtain ⟨s, r, hr, rfl, _⟩ := h
  exact word_lt' s r hr

/-- How far a rounded number lies from what it stands for. -/
theorem Rd.error {q : Rat} {x : Nat} (h : Rd q x) (j : Int) (hj : -1021 ≤ j) (hj' : j ≤ 1022) (h1 : -(2:Rat)^j ≤ q) (h2 : q ≤ (2:Rat)^j) :
    Fnt x ∧ q - (2:Rat)^(j-54) ≤ val x ∧ val x ≤ q + (2:Rat)^(j-54) := by
  obtain ⟨s, r, hr, rfl, h | h⟩ := h
  · obtain ⟨rfl, hq, hg⟩ := h
    obtain ⟨a, b, c⟩ := hg.error j hj hj' (by grind)
    refine ⟨word_fin _ _ a, ?_⟩
    unfold val
    rw [word_mod _ _ hr, word_sgn _ _ hr]
    simp only [if_true]
    constructor <;> grind
  · obtain ⟨rfl, hq, hg⟩ := h
    obtain ⟨a, b, c⟩ := hg.error j hj hj' (by grind)
    refine ⟨word_fin _ _ a, ?_⟩
    unfold val
    rw [word_mod _ _ hr, word_sgn _ _ hr]
    simp only [Bool.false_eq_true, if_false]
    constructor <;> grind

/-- A word's own value. -/
theorem Rd.self {x : Nat} (h : Fnt x) (hx : x < 18446744073709551616) : Rd (val x) x := by
  refine ⟨sgn x, x % 9223372036854775808, Nat.le_of_lt h, (word_of x hx).symm, ?_⟩
  have n := vr_nonneg (x % 9223372036854775808)
  have e := IsRg.exact _ h
  unfold val
  cases sgn x
  · right
    refine ⟨rfl, by simpa using n, by simpa using e⟩
  · left
    refine ⟨rfl, by simp; grind, ?_⟩
    have : -((if true = true then (-1:Rat) else 1) * vr (x % 9223372036854775808)) = vr (x % 9223372036854775808) := by simp; grind
    rw [this]; exact e

/-- Rounding keeps the order. -/
theorem Rd.mono {q q' : Rat} {x x' : Nat} (h : Rd q x) (h' : Rd q' x') (hf : Fnt x) (hf' : Fnt x') (le : q ≤ q') : val x ≤ val x' := by
  obtain ⟨s, r, hr, rfl, h⟩ := h
  obtain ⟨s', r', hr', rfl, h'⟩ := h'
  unfold Fnt at hf hf'
  rw [word_mod _ _ hr] at hf
  rw [word_mod _ _ hr'] at hf'
  unfold val
  rw [word_mod _ _ hr, word_sgn _ _ hr, word_mod _ _ hr', word_sgn _ _ hr']
  have n1 := vr_nonneg r
  have n2 := vr_nonneg r'
  rcases h with ⟨rfl, hq, hg⟩ | ⟨rfl, hq, hg⟩ <;> rcases h' with ⟨rfl, hq', hg'⟩ | ⟨rfl, hq', hg'⟩
  · have := hg'.mono hg (by grind)
    have := vr_mono hf' hf this
    simp only [if_true]; grind
  · simp only [if_true, Bool.false_eq_true, if_false]; grind
  · have e : q = 0 := by grind
    have e' : q' = 0 := by grind
    subst e e'
    have a := IsRg.same hg (Or.inl ⟨rfl, rfl⟩)
    have b := IsRg.same hg' (Or.inl ⟨by grind, rfl⟩)
    subst a b
    rw [vr_zero]; simp
  · have := hg.mono hg' le
    have := vr_mono hf hf' this
    simp only [Bool.false_eq_true, if_false]; grind

theorem Rd.exact {x y : Nat} (h : Rd (val x) y) (hx : Fnt x) (hx' : x < 18446744073709551616) : Fnt y ∧ val y = val x := by
  have sf := Rd.self hx hx'
  have f : Fnt y := by
    obtain ⟨s, r, hr, rfl, h⟩ := h
    obtain ⟨s', r', hr', hxe, g⟩ := sf
    have e : x % 9223372036854775808 = r' := by rw [hxe]; exact word_mod _ _ hr'
    unfold Fnt at hx ⊢
    rw [word_mod _ _ hr]
    rcases h with ⟨rfl, hq, hg⟩ | ⟨rfl, hq, hg⟩ <;> rcases g with ⟨rfl, hq', hg'⟩ | ⟨rfl, hq', hg'⟩
    · have := hg.same hg'; omega
    · have e0 : val x = 0 := by grind
      rw [e0] at hg
      have := hg.same (Or.inl ⟨by grind, rfl⟩); omega
    · have e0 : val x = 0 := by grind
      rw [e0] at hg
      have := hg.same (Or.inl ⟨by grind, rfl⟩); omega
    · have := hg.same hg'; omega
  exact ⟨f, by
    have a := h.mono sf f hx (by grind)
    have b := sf.mono h hx f (by grind)
    grind⟩

def sg (s : Bool) : Rat := if s then -1 else 1

theorem val_eq (x : Nat) : val x = sg (sgn x) * vr (x % 9223372036854775808) := rfl

theorem read_val {x : Nat} (h : Fnt x) : ∃ m p, double.read x = .number (sgn x) m p ∧ val x = sg (sgn x) * ((m:Rat) * (2:Rat)^p) := by
  obtain ⟨m, p, a, b⟩ := read_fin h
  exact ⟨m, p, a, by rw [b]; rfl⟩

theorem rdw (s : Bool) (m : Nat) (p : Int) {q : Rat} (h : q = sg s * ((m:Rat) * (2:Rat)^p)) : Rd q (double.write (.number s m p)) := by
  rw [h]; exact rd_write s m p

theorem signed_val (s : Bool) (m k : Nat) : ((signed s m k : Int) : Rat) = sg s * ((m:Rat) * (2:Rat)^(k:Int)) := by
  unfold signed sg
  rw [Nat.shiftLeft_eq]
  have e : ((m * 2 ^ k : Nat) : Rat) = (m:Rat) * (2:Rat)^(k:Int) := by rw [← nat2]; exact_mod_cast rfl
  cases s
  · simp only [Bool.false_eq_true, if_false]
    rw [Rat.one_mul, ← e]; rfl
  · simp only [if_true]
    rw [← e, Rat.intCast_neg]
    show -(((m * 2 ^ k : Nat) : Int) : Rat) = _
    rw [show ((((m * 2 ^ k : Nat) : Int)) : Rat) = ((m * 2 ^ k : Nat) : Rat) from rfl]
    grind

theorem up (m : Nat) (i b : Int) (h : b ≤ i) : (m:Rat) * (2:Rat)^(((i-b).toNat:Nat):Int) * (2:Rat)^b = (m:Rat) * (2:Rat)^i := by
  rw [Rat.mul_assoc, ← add2]
  congr 2
  omega

theorem sum_rd (s t : Bool) (m n : Nat) (i j : Int) : ∃ d, Datum.sum (.number s m i) (.number t n j) = some d ∧ Rd (sg s * ((m:Rat) * (2:Rat)^i) + sg t * ((n:Rat) * (2:Rat)^j)) (double.write d) := by
  refine ⟨_, rfl, ?_⟩
  apply rdw
  generalize hT : signed s m (i - min i j).toNat + signed t n (j - min i j).toNat = T
  have e : (T:Rat) * (2:Rat)^(min i j) = sg s * ((m:Rat) * (2:Rat)^i) + sg t * ((n:Rat) * (2:Rat)^j) := by
    rw [← hT, Rat.intCast_add, signed_val, signed_val, ← up m i (min i j) (by omega), ← up n j (min i j) (by omega)]; grind
  rw [← e]
  by_cases h0 : T = 0
  · subst h0
    simp
  · rw [if_neg h0]
    by_cases hn : T < 0
    · have : ((T.natAbs:Nat):Rat) = -(T:Rat) := by
        have : (T.natAbs:Int) = -T := by omega
        have e2 : (((T.natAbs:Nat):Int):Rat) = ((-T : Int):Rat) := by rw [this]
        rw [Rat.intCast_neg] at e2
        exact e2
      rw [this]
      simp only [hn, decide_true, sg, if_true]
      grind
    · have : ((T.natAbs:Nat):Rat) = (T:Rat) := by
        have : (T.natAbs:Int) = T := by omega
        have e2 : (((T.natAbs:Nat):Int):Rat) = ((T : Int):Rat) := by rw [this]
        exact e2
      rw [this]
      simp only [hn, decide_false, sg, Bool.false_eq_true, if_false]
      grind

theorem add_rd {x y : Nat} (hx : Fnt x) (hy : Fnt y) : ∃ r, double.add x y = some r ∧ Rd (val x + val y) r := by
  obtain ⟨m, i, a, b⟩ := read_val hx
  obtain ⟨n, j, c, d⟩ := read_val hy
  obtain ⟨D, e, f⟩ := sum_rd (sgn x) (sgn y) m n i j
  refine ⟨double.write D, ?_, ?_⟩
  · unfold Format.add
    rw [a, c, e]; rfl
  · rw [b, d]; exact f

theorem sub_rd {x y : Nat} (hx : Fnt x) (hy : Fnt y) : ∃ r, double.sub x y = some r ∧ Rd (val x - val y) r := by
  obtain ⟨m, i, a, b⟩ := read_val hx
  obtain ⟨n, j, c, d⟩ := read_val hy
  obtain ⟨D, e, f⟩ := sum_rd (sgn x) (!sgn y) m n i j
  refine ⟨double.write D, ?_, ?_⟩
  · unfold Format.sub
    rw [a, c]
    show (Datum.sum _ (.number (!sgn y) n j)).map _ = _
    rw [e]; rfl
  · rw [b, d]
    have : sg (!sgn y) = - sg (sgn y) := by cases sgn y <;> simp [sg] <;> decide +kernel
    rw [this] at f
    have e2 : sg (sgn x) * ((m:Rat) * 2 ^ i) - sg (sgn y) * ((n:Rat) * 2 ^ j) = sg (sgn x) * ((m:Rat) * 2 ^ i) + -sg (sgn y) * ((n:Rat) * 2 ^ j) := by grind
    rw [e2]; exact f

theorem mul_rd {x y : Nat} (hx : Fnt x) (hy : Fnt y) : ∃ r, double.mul x y = some r ∧ Rd (val x * val y) r := by
  obtain ⟨m, i, a, b⟩ := read_val hx
  obtain ⟨n, j, c, d⟩ := read_val hy
  refine ⟨double.write (.number (sgn x ^^ sgn y) (m * n) (i + j)), ?_, ?_⟩
  · unfold Format.mul
    rw [a, c]; rfl
  · apply rdw
    rw [b, d, add2]
    have e : ((m * n : Nat) : Rat) = (m:Rat) * (n:Rat) := by simp
    have e2 : sg (sgn x ^^ sgn y) = sg (sgn x) * sg (sgn y) := by cases sgn x <;> cases sgn y <;> decide +kernel
    rw [e, e2]
    grind

/-- The quotient with its mark of what is left over rounds as the quotient itself. -/
theorem quo_rg (D n : Nat) (u : Int) (hn : 0 < n) (hb : 9007199254740992 ≤ D / n) :
    IsRg (((D:Rat) / (n:Rat)) * (2:Rat)^u) (rg (2 * (D / n) + (D % n != 0).toNat) (u - 1)) := by
  have h := rg_is (2 * (D / n) + (D % n != 0).toNat) (u - 1)
  have hnq : (0:Rat) < (n:Rat) := by exact_mod_cast hn
  have hdiv : (D:Rat) / (n:Rat) * (n:Rat) = (D:Rat) := Rat.div_mul_cancel (by grind)
  have hD : (D:Rat) = (n:Rat) * ((D/n : Nat):Rat) + ((D % n : Nat):Rat) := by
    have := Nat.div_add_mod D n
    exact_mod_cast this.symm
  have hr : ((D % n : Nat):Rat) < (n:Rat) := by exact_mod_cast Nat.mod_lt D hn
  have hr0 : (0:Rat) ≤ ((D % n : Nat):Rat) := by exact_mod_cast Nat.zero_le _
  -- the quotient lies between its floor and one more
  have q1 : ((D/n : Nat):Rat) ≤ (D:Rat) / (n:Rat) := by refine le_of_nn _ hnq ?_; grind
  have q2 : (D:Rat) / (n:Rat) < ((D/n : Nat):Rat) + 1 := by
    refine Rat.not_le.1 fun c => ?_
    have := Rat.mul_le_mul_of_nonneg_right c (Rat.le_of_lt hnq)
    grind
  have q3 : D % n = 0 → (D:Rat) / (n:Rat) = ((D/n : Nat):Rat) := by
    intro c
    rw [c] at hD
    have e0 : ((0:Nat):Rat) = 0 := rfl
    have a : (D:Rat) / (n:Rat) ≤ ((D/n : Nat):Rat) := by refine le_of_nn _ hnq ?_; grind
    grind
  have q4 : D % n ≠ 0 → ((D/n : Nat):Rat) < (D:Rat) / (n:Rat) := by
    intro c
    have : (0:Rat) < ((D % n : Nat):Rat) := by exact_mod_cast Nat.pos_of_ne_zero c
    refine Rat.not_le.1 fun c' => ?_
    have := Rat.mul_le_mul_of_nonneg_right c' (Rat.le_of_lt hnq)
    grind
  generalize hs : (D % n != 0).toNat = s at *
  have s01 : (s = 0 ∧ D % n = 0) ∨ (s = 1 ∧ D % n ≠ 0) := by
    by_cases c : D % n = 0
    · left; refine ⟨?_, c⟩; rw [← hs, c]; rfl
    · right; refine ⟨?_, c⟩; rw [← hs]; simp [c]
  generalize hf : D / n = f at *
  generalize (D:Rat) / (n:Rat) = Q at *
  clear hD hdiv hr hr0 hnq hs
  rcases h with ⟨h0, _⟩ | ⟨e, k, h1, h2, h3, h4⟩
  · exfalso
    have := pos2 (u-1)
    have p : (0:Rat) < ((2 * f + s : Nat):Rat) := by
      have : 0 < 2 * f + s := by omega
      exact_mod_cast this
    have := Rat.mul_pos p this
    grind
  · have e1 : ((2 * f + s : Nat):Rat) = 2 * (f:Rat) + (s:Rat) := by simp
    have e2 : (2:Rat)^u = 2 * (2:Rat)^(u-1) := by
      have := add2 (u-1) 1
      rw [show u - 1 + 1 = u by omega] at this
      have t : (2:Rat)^(1:Int) = 2 := by decide +kernel
      rw [t] at this
      grind
    have pu := pos2 (u - 1)
    -- the exponent
    have f53 : (9007199254740992:Rat) ≤ (f:Rat) := by exact_mod_cast hb
    have heu : u + 53 ≤ e := by
      have : (2:Rat)^(u+53) < (2:Rat)^(e+1) := by
        rw [add2, e2]
        have t : (2:Rat)^(53:Int) = 9007199254740992 := by decide +kernel
        rw [t]
        rw [e1] at h2
        have s0 : (0:Rat) ≤ (s:Rat) := by exact_mod_cast Nat.zero_le _
        have : (2 * (9007199254740992:Rat)) * (2:Rat)^(u-1) ≤ (2 * (f:Rat) + (s:Rat)) * (2:Rat)^(u-1) := Rat.mul_le_mul_of_nonneg_right (by grind) (Rat.le_of_lt pu)
        grind
      have := of_lt2 this
      omega
    right
    have intpow : ∀ a : Int, u ≤ a → ∃ g : Nat, 0 < g ∧ (2:Rat)^a = (g:Rat) * (2:Rat)^u := by
      intro a ha
      refine ⟨2^(a-u).toNat, Nat.two_pow_pos _, ?_⟩
      rw [nat2, ← add2]
      congr 1
      omega
    have pu' := pos2 u
    have natle : ∀ a b : Nat, 2 * (a:Rat) ≤ 2 * (b:Rat) + (s:Rat) → a ≤ b := by
      intro a b h
      have h' : 2 * a ≤ 2 * b + s := by exact_mod_cast h
      omega
    refine ⟨e, k, ?_, ?_, ?_, h4⟩
    · obtain ⟨g, _, hg⟩ := intpow e (by omega)
      rw [hg] at h1 ⊢
      refine Rat.mul_le_mul_of_nonneg_right ?_ (Rat.le_of_lt pu')
      rw [e1, e2] at h1
      have : 2 * (g:Rat) ≤ 2 * (f:Rat) + (s:Rat) := by refine le_of_nn _ pu ?_; grind
      have := natle _ _ this
      have : (g:Rat) ≤ (f:Rat) := by exact_mod_cast this
      grind
    · obtain ⟨g, _, hg⟩ := intpow (e+1) (by omega)
      rw [hg] at h2 ⊢
      refine Rat.mul_lt_mul_of_pos_right ?_ pu'
      rw [e1, e2] at h2
      have : 2 * (f:Rat) + (s:Rat) < 2 * (g:Rat) := by
        refine Rat.not_le.1 fun c => ?_
        have := Rat.mul_le_mul_of_nonneg_right c (Rat.le_of_lt pu)
        grind
      have : 2 * f + s < 2 * g := by exact_mod_cast this
      have : f + 1 ≤ g := by omega
      have : ((f + 1 : Nat):Rat) ≤ (g:Rat) := by exact_mod_cast this
      have e3 : ((f + 1 : Nat):Rat) = (f:Rat) + 1 := by simp
      grind
    · -- the same rounding
      generalize hl : max (e - 52) (-1074) = l at *
      obtain ⟨g, g0, hg⟩ := intpow (l - 1) (by omega)
      have hgl : (2:Rat)^l = 2 * (g:Rat) * (2:Rat)^u := by
        have := add2 (l-1) 1
        rw [show l - 1 + 1 = l by omega] at this
        have t : (2:Rat)^(1:Int) = 2 := by decide +kernel
        rw [t] at this
        grind
      have pl := pos2 l
      have cancel : ∀ y : Rat, y * (2:Rat)^(-l) * (2:Rat)^l = y := by
        intro y
        rw [Rat.mul_assoc, ← add2, show -l + l = 0 by omega, Rat.zpow_zero, Rat.mul_one]
      have c1 := cancel (Q * (2:Rat)^u)
      have c2 := cancel (((2 * f + s : Nat):Rat) * (2:Rat)^(u-1))
      have l1 := Rat.mul_le_mul_of_nonneg_right h3.lo (Rat.le_of_lt pl)
      have l2 := Rat.mul_le_mul_of_nonneg_right h3.hi (Rat.le_of_lt pl)
      have ev := h3.ev
      generalize hx' : ((2 * f + s : Nat):Rat) * (2:Rat)^(u-1) * (2:Rat)^(-l) = x' at *
      generalize hx : Q * (2:Rat)^u * (2:Rat)^(-l) = x at *
      clear hx hx' h3 cancel intpow h1 h2 h4 hl heu
      rw [hgl] at l1 l2 c1 c2 pl
      rw [e2] at l1 l2 c1 c2 pl
      rw [e1] at c2
      -- all in units of 2^(u-1)
      have pg : (0:Rat) < (g:Rat) := by exact_mod_cast g0
      generalize (2:Rat)^(u-1) = w at *
      have n1 : ((2 * k * g : Nat):Rat) = 2 * (k:Rat) * (g:Rat) := by simp [Rat.mul_assoc]
      have L1 : 2 * (2 * (k:Rat) * (g:Rat)) ≤ 2 * ((f + g : Nat):Rat) + (s:Rat) := by
        have : ((f + g : Nat):Rat) = (f:Rat) + (g:Rat) := by simp
        rw [this]
        refine le_of_nn _ pu ?_
        grind
      have L2 : 2 * (f:Rat) + (s:Rat) ≤ 2 * ((2 * k * g + g : Nat):Rat) := by
        have : ((2 * k * g + g : Nat):Rat) = 2 * (k:Rat) * (g:Rat) + (g:Rat) := by simp [Rat.mul_assoc]
        rw [this]
        refine le_of_nn _ pu ?_
        grind
      rw [← n1] at L1
      have N1 := natle _ _ L1
      have N2 : 2 * f + s ≤ 2 * (2 * k * g + g) := by exact_mod_cast L2
      have R1 : 2 * (k:Rat) * (g:Rat) ≤ (f:Rat) + (g:Rat) := by
        have : ((2 * k * g : Nat):Rat) ≤ ((f + g : Nat):Rat) := by exact_mod_cast N1
        rw [n1] at this
        have e3 : ((f + g : Nat):Rat) = (f:Rat) + (g:Rat) := by simp
        grind
      have n2 : ((2 * k * g + g : Nat):Rat) = 2 * (k:Rat) * (g:Rat) + (g:Rat) := by simp [Rat.mul_assoc]
      -- x in units
      have X : x * (2 * (g:Rat)) = Q := by
        have : x * (2 * (g:Rat)) * (2 * w) = Q * (2 * w) := by grind
        have p2w : (0:Rat) < 2 * w := by grind
        have a := le_of_nn _ p2w (show x * (2 * (g:Rat)) * (2 * w) ≤ Q * (2 * w) by grind)
        have b := le_of_nn _ p2w (show Q * (2 * w) ≤ x * (2 * (g:Rat)) * (2 * w) by grind)
        grind
      have X' : x' * (2 * (2 * (g:Rat))) = 2 * (f:Rat) + (s:Rat) := by
        have a := le_of_nn _ pu (show x' * (2 * (2 * (g:Rat))) * w ≤ (2 * (f:Rat) + (s:Rat)) * w by grind)
        have b := le_of_nn _ pu (show (2 * (f:Rat) + (s:Rat)) * w ≤ x' * (2 * (2 * (g:Rat))) * w by grind)
        grind
      have p2g : (0:Rat) < 2 * (g:Rat) := by grind
      have p4g : (0:Rat) < 2 * (2 * (g:Rat)) := by grind
      refine ⟨?_, ?_, ?_⟩
      · refine le_of_nn _ p2g ?_; grind
      · refine le_of_nn _ p2g ?_
        rw [X]
        rcases s01 with ⟨rfl, c⟩ | ⟨rfl, c⟩
        · have := q3 c
          have : f ≤ 2 * k * g + g := by omega
          have : (f:Rat) ≤ ((2 * k * g + g : Nat):Rat) := by exact_mod_cast this
          grind
        · have : f + 1 ≤ 2 * k * g + g := by omega
          have : ((f + 1 : Nat):Rat) ≤ ((2 * k * g + g : Nat):Rat) := by exact_mod_cast this
          have e3 : ((f + 1 : Nat):Rat) = (f:Rat) + 1 := by simp
          grind
      · rintro (c | c)
        · refine ev (Or.inl ?_)
          have t : Q = 2 * (k:Rat) * (g:Rat) - (g:Rat) := by grind
          have : (f:Rat) = Q := by grind
          have s0 : s = 0 := by
            rcases s01 with ⟨h, _⟩ | ⟨_, c⟩
            · exact h
            · have := q4 c; grind
          subst s0
          have z : ((0:Nat):Rat) = 0 := rfl
          have a := le_of_nn _ p4g (show ((k:Rat) - 1/2) * (2 * (2 * (g:Rat))) ≤ x' * (2 * (2 * (g:Rat))) by grind)
          have b := le_of_nn _ p4g (show x' * (2 * (2 * (g:Rat))) ≤ ((k:Rat) - 1/2) * (2 * (2 * (g:Rat))) by grind)
          grind
        · refine ev (Or.inr ?_)
          have t : Q = 2 * (k:Rat) * (g:Rat) + (g:Rat) := by grind
          have t' : Q = ((2 * k * g + g : Nat):Rat) := by grind
          have s0 : s = 0 := by
            rcases s01 with ⟨h, _⟩ | ⟨h, c⟩
            · exact h
            · exfalso
              have i1 : 2 * k * g + g < f + 1 := by
                have : ((2 * k * g + g : Nat):Rat) < ((f + 1 : Nat):Rat) := by
                  have e3 : ((f + 1 : Nat):Rat) = (f:Rat) + 1 := by simp
                  grind
                exact_mod_cast this
              omega
          subst s0
          have z : ((0:Nat):Rat) = 0 := rfl
          rcases s01 with ⟨_, c'⟩ | ⟨h, _⟩
          · have := q3 c'
            have a := le_of_nn _ p4g (show ((k:Rat) + 1/2) * (2 * (2 * (g:Rat))) ≤ x' * (2 * (2 * (g:Rat))) by grind)
            have b := le_of_nn _ p4g (show x' * (2 * (2 * (g:Rat))) ≤ ((k:Rat) + 1/2) * (2 * (2 * (g:Rat))) by grind)
            grind
          · omega

theorem write_word (s : Bool) (m : Nat) (p : Int) : double.write (.number s m p) = double.word s (rg m p) := nearest_eq s m p

theorem div_rd {x y : Nat} (hx : Fnt x) (hy : Fnt y) (h0 : val y ≠ 0) : ∃ r, double.div x y = some r ∧ Rd (val x / val y) r := by
  obtain ⟨m, i, a, b⟩ := read_val hx
  obtain ⟨n, j, c, d⟩ := read_val hy
  have hn : n ≠ 0 := by
    rintro rfl
    apply h0
    rw [d]
    have z : ((0:Nat):Rat) = 0 := rfl
    rw [z]; grind
  have dd : double.div x y = (Datum.quotient 54 (.number (sgn x) m i) (.number (sgn y) n j)).map double.write := by
    unfold Format.div
    rw [a, c]; rfl
  rw [dd]
  have q : Datum.quotient 54 (.number (sgn x) m i) (.number (sgn y) n j) = some (.number (sgn x ^^ sgn y) (2 * ((m <<< (54 + n.log2 - m.log2)) / n) + ((m <<< (54 + n.log2 - m.log2)) % n != 0).toNat) (i - j - (54 + n.log2 - m.log2 : Nat) - 1)) := by
    unfold Datum.quotient
    simp [hn]
  rw [q]
  refine ⟨_, rfl, ?_⟩
  have hnq : (n:Rat) ≠ 0 := by
    have : (0:Rat) < (n:Rat) := by exact_mod_cast Nat.pos_of_ne_zero hn
    grind
  have pj := pos2 j
  have vy : val x / val y = sg (sgn x ^^ sgn y) * (((m:Rat) / (n:Rat)) * (2:Rat)^(i - j)) := by
    rw [b, d]
    have e2 : sg (sgn x ^^ sgn y) * sg (sgn y) = sg (sgn x) := by cases sgn x <;> cases sgn y <;> decide +kernel
    have e3 : sg (sgn y) * sg (sgn y) = 1 := by cases sgn y <;> decide +kernel
    have e4 : (m:Rat) / (n:Rat) * (n:Rat) = (m:Rat) := Rat.div_mul_cancel hnq
    have e5 : (2:Rat)^(i-j) * (2:Rat)^j = (2:Rat)^i := by rw [← add2]; congr 1; omega
    have hne : sg (sgn y) * ((n:Rat) * (2:Rat)^j) ≠ 0 := by
      intro h
      have : sg (sgn y) * (sg (sgn y) * ((n:Rat) * (2:Rat)^j)) = 0 := by rw [h]; exact Rat.mul_zero _
      have h2 : (n:Rat) * (2:Rat)^j = 0 := by grind
      have np : (0:Rat) < (n:Rat) := by exact_mod_cast Nat.pos_of_ne_zero hn
      have := Rat.mul_pos np pj
      grind
    have key : sg (sgn x ^^ sgn y) * (((m:Rat) / (n:Rat)) * (2:Rat)^(i - j)) * (sg (sgn y) * ((n:Rat) * (2:Rat)^j)) = sg (sgn x) * ((m:Rat) * (2:Rat)^i) := by
      rw [← e5, ← e2]
      generalize (m:Rat) / (n:Rat) = Q at *
      rw [← e4]
      grind
    rw [← key]
    exact Rat.mul_div_cancel hne
  by_cases hm : m = 0
  · subst hm
    have z : ((0:Nat):Rat) = 0 := rfl
    have : val x / val y = sg (sgn x ^^ sgn y) * (((0:Nat):Rat) * (2:Rat)^(i - j - (54 + n.log2 - (0:Nat).log2 : Nat) - 1)) := by
      rw [vy, z, Rat.div_def]
      grind
    have e : 2 * (0 <<< (54 + n.log2 - (0:Nat).log2) / n) + (0 <<< (54 + n.log2 - (0:Nat).log2) % n != 0).toNat = 0 := by simp
    rw [e]
    exact rdw _ _ _ this
  · have lm := Nat.log2_self_le hm
    have lm' := Nat.lt_log2_self (n := m)
    have ln := Nat.log2_self_le hn
    have ln' := Nat.lt_log2_self (n := n)
    by_cases hd : m.log2 ≤ 54 + n.log2
    · have big : 9007199254740992 ≤ (m <<< (54 + n.log2 - m.log2)) / n := by
        rw [Nat.le_div_iff_mul_le (Nat.pos_of_ne_zero hn), Nat.shiftLeft_eq]
        have h1 : 2 ^ m.log2 * 2 ^ (54 + n.log2 - m.log2) ≤ m * 2 ^ (54 + n.log2 - m.log2) := Nat.mul_le_mul_right _ lm
        rw [← Nat.pow_add, show m.log2 + (54 + n.log2 - m.log2) = 53 + (n.log2 + 1) by omega, Nat.pow_add] at h1
        have h2 : 2 ^ 53 * n ≤ 2 ^ 53 * 2 ^ (n.log2 + 1) := Nat.mul_le_mul_left _ (Nat.le_of_lt ln')
        have e53 : 2 ^ 53 = 9007199254740992 := by decide
        rw [e53] at h1 h2
        omega
      have g := quo_rg (m <<< (54 + n.log2 - m.log2)) n (i - j - (54 + n.log2 - m.log2 : Nat)) (Nat.pos_of_ne_zero hn) big
      have ev : ((m <<< (54 + n.log2 - m.log2) : Nat):Rat) / (n:Rat) * (2:Rat)^(i - j - (54 + n.log2 - m.log2 : Nat)) = ((m:Rat) / (n:Rat)) * (2:Rat)^(i - j) := by
        rw [Nat.shiftLeft_eq]
        have e1 : ((m * 2 ^ (54 + n.log2 - m.log2) : Nat) : Rat) = (m:Rat) * (2:Rat)^(((54 + n.log2 - m.log2 : Nat)):Int) := by rw [← nat2]; exact_mod_cast rfl
        rw [e1, Rat.div_def, Rat.div_def]
        have e5 : (2:Rat)^(((54 + n.log2 - m.log2 : Nat)):Int) * (2:Rat)^(i - j - (54 + n.log2 - m.log2 : Nat)) = (2:Rat)^(i - j) := by rw [← add2]; congr 1; omega
        rw [← e5]
        grind
      rw [ev] at g
      refine ⟨sgn x ^^ sgn y, _, rg_le _ _, write_word _ _ _, ?_⟩
      have nn : 0 ≤ ((m:Rat) / (n:Rat)) * (2:Rat)^(i - j) := g.nonneg
      rw [vy]
      cases (sgn x ^^ sgn y)
      · right
        refine ⟨rfl, by simp [sg]; exact nn, ?_⟩
        simp only [sg, Bool.false_eq_true, if_false, Rat.one_mul]
        exact g
      · left
        refine ⟨rfl, by simp only [sg, if_true]; grind, ?_⟩
        simp only [sg, if_true]
        have : -(-1 * ((m:Rat) / (n:Rat) * (2:Rat) ^ (i - j))) = (m:Rat) / (n:Rat) * (2:Rat) ^ (i - j) := by grind
        rw [this]
        exact g
    · have e0 : 54 + n.log2 - m.log2 = 0 := by omega
      rw [e0]
      have big : 9007199254740992 ≤ m / n := by
        rw [Nat.le_div_iff_mul_le (Nat.pos_of_ne_zero hn)]
        have h1 : 2 ^ (53 + (n.log2 + 1)) ≤ 2 ^ m.log2 := Nat.pow_le_pow_right (by decide) (by omega)
        rw [Nat.pow_add] at h1
        have h2 : 2 ^ 53 * n ≤ 2 ^ 53 * 2 ^ (n.log2 + 1) := Nat.mul_le_mul_left _ (Nat.le_of_lt ln')
        have e53 : 2 ^ 53 = 9007199254740992 := by decide
        rw [e53] at h1 h2
        omega
      have g := quo_rg m n (i - j) (Nat.pos_of_ne_zero hn) big
      rw [Nat.shiftLeft_zero, show i - j - ((0:Nat):Int) - 1 = i - j - 1 by omega]
      refine ⟨sgn x ^^ sgn y, _, rg_le _ _, write_word _ _ _, ?_⟩
      have nn : 0 ≤ ((m:Rat) / (n:Rat)) * (2:Rat)^(i - j) := g.nonneg
      rw [vy]
      cases (sgn x ^^ sgn y)
      · right
        refine ⟨rfl, by simp [sg]; exact nn, ?_⟩
        simp only [sg, Bool.false_eq_true, if_false, Rat.one_mul]
        exact g
      · left
        refine ⟨rfl, by simp only [sg, if_true]; grind, ?_⟩
        simp only [sg, if_true]
        have : -(-1 * ((m:Rat) / (n:Rat) * (2:Rat) ^ (i - j))) = (m:Rat) / (n:Rat) * (2:Rat) ^ (i - j) := by grind
        rw [this]
        exact g

/-- the order of two finite words is that of their values -/
theorem order_eq {x y : Nat} (hx : Fnt x) (hy : Fnt y) : (double.order x y = some .lt ↔ val x < val y) ∧ (double.order x y = some .eq ↔ val x = val y) ∧ (double.order x y = some .gt ↔ val y < val x) := by
  obtain ⟨m, i, a, b⟩ := read_val hx
  obtain ⟨n, j, c, d⟩ := read_val hy
  have o : double.order x y = some (compare (signed (sgn x) m (i - min i j).toNat) (signed (sgn y) n (j - min i j).toNat)) := by
    unfold Format.order
    rw [a, c]; rfl
  have ex : (signed (sgn x) m (i - min i j).toNat : Rat) * (2:Rat)^(min i j) = val x := by
    rw [signed_val, b, ← up m i (min i j) (by omega)]; grind
  have ey : (signed (sgn y) n (j - min i j).toNat : Rat) * (2:Rat)^(min i j) = val y := by
    rw [signed_val, d, ← up n j (min i j) (by omega)]; grind
  rw [o, ← ex, ← ey]
  have p := pos2 (min i j)
  generalize (2:Rat)^(min i j) = w at *
  generalize signed (sgn x) m (i - min i j).toNat = A
  generalize signed (sgn y) n (j - min i j).toNat = B
  have key : ∀ A B : Int, (A:Rat) * w < (B:Rat) * w ↔ A < B := by
    intro A B
    constructor
    · intro h
      have := Rat.lt_of_mul_lt_mul_right h (Rat.le_of_lt p)
      exact_mod_cast this
    · intro h
      exact Rat.mul_lt_mul_of_pos_right (by exact_mod_cast h) p
  have keq : (A:Rat) * w = (B:Rat) * w ↔ A = B := by
    constructor
    · intro h
      have h1 : ¬ A < B := fun c => by have := (key A B).2 c; grind
      have h2 : ¬ B < A := fun c => by have := (key B A).2 c; grind
      omega
    · rintro rfl; rfl
  rw [key, key, keq]
  simp only [Option.some.injEq]
  refine ⟨Int.compare_eq_lt, Int.compare_eq_eq, Int.compare_eq_gt⟩

/-- the float of an integer -/
theorem int_rd (n : Int) : Rd (n:Rat) (floatOfInt .f64 n) := by
  have : floatOfInt .f64 n = double.write (.number (n < 0) n.natAbs 0) := rfl
  rw [this]
  apply rdw
  rw [Rat.zpow_zero, Rat.mul_one]
  by_cases h : n < 0
  · have : (n.natAbs:Int) = -n := by omega
    have e2 : (((n.natAbs:Nat):Int):Rat) = ((-n : Int):Rat) := by rw [this]
    rw [Rat.intCast_neg] at e2
    have e3 : ((n.natAbs:Nat):Rat) = -(n:Rat) := e2
    rw [e3]
    simp only [h, decide_true, sg, if_true]; grind
  · have : (n.natAbs:Int) = n := by omega
    have e2 : (((n.natAbs:Nat):Int):Rat) = ((n : Int):Rat) := by rw [this]
    have e3 : ((n.natAbs:Nat):Rat) = (n:Rat) := e2
    rw [e3]
    simp only [h, decide_false, sg, Bool.false_eq_true, if_false]; grind


/-- Few digits at a place that the format has: a rung of its own. -/
theorem rep_rung (k : Nat) (l : Int) (hk : k < 9007199254740992) (hl : -1074 ≤ l) (hh : l + (k.log2:Nat) ≤ 1023) : ∃ r, r < 9218868437227405312 ∧ vr r = (k:Rat) * (2:Rat)^l ∧ IsRg ((k:Rat) * (2:Rat)^l) r := by
  by_cases k0 : k = 0
  · subst k0
    exact ⟨0, by decide, by rw [vr_zero]; exact (Rat.zero_mul _).symm, Or.inl ⟨Rat.zero_mul _, rfl⟩⟩
  have lg : k.log2 < 53 := (Nat.log2_lt k0).2 (by omega)
  have l1 := Nat.log2_self_le k0
  have l2 := Nat.lt_log2_self (n := k)
  have main : ∀ a : Nat, a ≤ 52 - k.log2 → -1074 ≤ l - a → (a = 52 - k.log2 ∨ l - a = -1074) → ∃ r, r < 9218868437227405312 ∧ vr r = (k:Rat) * (2:Rat)^l ∧ IsRg ((k:Rat) * (2:Rat)^l) r := by
    intro a ha hla hor
    have ev : ((k * 2 ^ a : Nat):Rat) * (2:Rat)^(l - a) = (k:Rat) * (2:Rat)^l := by
      have e1 : ((k * 2 ^ a : Nat) : Rat) = (k:Rat) * (2:Rat)^((a:Nat):Int) := by rw [← nat2]; exact_mod_cast rfl
      rw [e1, Rat.mul_assoc, ← add2]
      congr 2
      omega
    have b1 : k * 2 ^ a < 9007199254740992 := by
      have h1 : k * 2 ^ a < 2 ^ (k.log2 + 1) * 2 ^ a := Nat.mul_lt_mul_of_pos_right l2 (Nat.two_pow_pos a)
      rw [← Nat.pow_add] at h1
      have h2 : 2 ^ (k.log2 + 1 + a) ≤ 2 ^ 53 := Nat.pow_le_pow_right (by decide) (by omega)
      have e53 : 2 ^ 53 = 9007199254740992 := by decide
      omega
    have b2 : 4503599627370496 ≤ k * 2 ^ a ∨ l - a = -1074 := by
      rcases hor with h | h
      · left
        have h1 : 2 ^ k.log2 * 2 ^ a ≤ k * 2 ^ a := Nat.mul_le_mul_right _ l1
        rw [← Nat.pow_add, show k.log2 + a = 52 by omega] at h1
        have e52 : 2 ^ 52 = 4503599627370496 := by decide
        omega
      · exact Or.inr h
    have b3 : l - a ≤ 971 := by omega
    refine ⟨(l - a + 1074).toNat * 4503599627370496 + k * 2 ^ a, by omega, ?_, ?_⟩
    · rw [vr_of _ _ hla (by omega) b2, ev]
    · rw [← ev]; exact IsRg.digits _ _ hla b1 b2 b3
  by_cases c : -1074 ≤ l - (52 - k.log2 : Nat)
  · exact main (52 - k.log2) (Nat.le_refl _) c (Or.inl rfl)
  · exact main (l + 1074).toNat (by omega) (by omega) (Or.inr (by omega))

theorem Rd.rep {q : Rat} {x : Nat} (h : Rd q x) (k : Nat) (l : Int) (hk : k < 9007199254740992) (hl : -1074 ≤ l) (hh : l + (k.log2:Nat) ≤ 1023) (hq : q = (k:Rat) * (2:Rat)^l ∨ q = -((k:Rat) * (2:Rat)^l)) : Fnt x ∧ val x = q := by
  obtain ⟨r', h1, h2, h3⟩ := rep_rung k l hk hl hh
  obtain ⟨s, r, hr, rfl, h⟩ := h
  have nn : 0 ≤ (k:Rat) * (2:Rat)^l := h3.nonneg
  have key : r = r' ∧ q = sg s * vr r' := by
    rcases h with ⟨rfl, a, b⟩ | ⟨rfl, a, b⟩
    · have e : -q = (k:Rat) * (2:Rat)^l := by rcases hq with e | e <;> grind
      rw [e] at b
      refine ⟨b.same h3, ?_⟩
      rw [h2]; simp only [sg, if_true]; grind
    · have e : q = (k:Rat) * (2:Rat)^l := by rcases hq with e | e <;> grind
      rw [e] at b
      refine ⟨b.same h3, ?_⟩
      rw [h2]; simp only [sg, Bool.false_eq_true, if_false]; grind
  obtain ⟨rfl, e⟩ := key
  refine ⟨word_fin _ _ h1, ?_⟩
  rw [val_eq, word_mod _ _ hr, word_sgn _ _ hr, e]

theorem Rd.int {n : Int} {x : Nat} (h : Rd (n:Rat) x) (h1 : -9007199254740992 < n) (h2 : n < 9007199254740992) : Fnt x ∧ val x = (n:Rat) := by
  have lg : n.natAbs.log2 ≤ 52 := by
    by_cases c : n.natAbs = 0
    · rw [c]; decide
    · have e53 : 2 ^ 53 = 9007199254740992 := by decide
      have := (Nat.log2_lt c).2 (show n.natAbs < 2 ^ 53 by omega)
      omega
  refine h.rep n.natAbs 0 (by omega) (by decide) (by omega) ?_
  rw [Rat.zpow_zero, Rat.mul_one]
  by_cases c : n < 0
  · right
    have : (n.natAbs:Int) = -n := by omega
    have e2 : (((n.natAbs:Nat):Int):Rat) = ((-n : Int):Rat) := by rw [this]
    rw [Rat.intCast_neg] at e2
    have e3 : ((n.natAbs:Nat):Rat) = -(n:Rat) := e2
    rw [e3]; grind
  · left
    have : (n.natAbs:Int) = n := by omega
    have e2 : (((n.natAbs:Nat):Int):Rat) = ((n : Int):Rat) := by rw [this]
    exact e2.symm

/-- Made whole, downwards. -/
theorem down_cut (s : Bool) (N d : Nat) : ∃ k : Nat, Toward.down.cut s N d = k ∧ (sg s * (k:Rat) * ((2^d:Nat):Rat) ≤ sg s * (N:Rat)) ∧ sg s * (N:Rat) < (sg s * (k:Rat) + 1) * ((2^d:Nat):Rat) := by
  refine ⟨_, rfl, ?_⟩
  have key : ∀ g : Nat, 0 < g → (sg s * (((N / g + (s && N % g != 0).toNat : Nat)):Rat) * (g:Rat) ≤ sg s * (N:Rat)) ∧ sg s * (N:Rat) < (sg s * (((N / g + (s && N % g != 0).toNat : Nat)):Rat) + 1) * (g:Rat) := by
    intro g hg
    have hgq : (0:Rat) < (g:Rat) := by exact_mod_cast hg
    have hn : (N:Rat) = (g:Rat) * ((N/g : Nat):Rat) + ((N % g : Nat):Rat) := by
      have := Nat.div_add_mod N g
      exact_mod_cast this.symm
    have hr : ((N % g : Nat):Rat) < (g:Rat) := by exact_mod_cast Nat.mod_lt N hg
    have hr0 : (0:Rat) ≤ ((N % g : Nat):Rat) := by exact_mod_cast Nat.zero_le _
    cases s
    · simp only [Bool.false_and, Bool.toNat_false, Nat.add_zero, sg, Bool.false_eq_true, if_false]
      constructor <;> grind
    · by_cases c : N % g = 0
      · have e : (true && N % g != 0) = false := by simp [c]
        have z : ((N % g : Nat):Rat) = 0 := by rw [c]; rfl
        rw [e]
        simp only [Bool.toNat_false, Nat.add_zero, sg, if_true]
        constructor <;> grind
      · have e : (true && N % g != 0) = true := by simp [c]
        have z : (0:Rat) < ((N % g : Nat):Rat) := by exact_mod_cast Nat.pos_of_ne_zero c
        rw [e]
        have e2 : ((N / g + 1 : Nat):Rat) = ((N/g : Nat):Rat) + 1 := by simp
        simp only [Bool.toNat_true, sg, if_true, e2]
        constructor <;> grind
  have e : Toward.down.cut s N d = N / (2^(min d (N.log2+2))) + (s && N % (2^(min d (N.log2+2))) != 0).toNat := by
    unfold Toward.cut
    simp [Nat.one_shiftLeft]
  rw [e]
  by_cases hd : d ≤ N.log2 + 2
  · rw [Nat.min_eq_left hd]
    exact key _ (Nat.two_pow_pos d)
  · have big : N < 2 ^ (N.log2 + 1) := Nat.lt_log2_self
    have hp : 2 ^ (N.log2 + 2) = 2 * 2 ^ (N.log2 + 1) := by rw [show N.log2 + 2 = N.log2 + 1 + 1 from rfl, Nat.pow_succ]; omega
    have hp2 : 2 ^ (N.log2 + 2) ≤ 2 ^ d := Nat.pow_le_pow_right (by decide) (by omega)
    rw [Nat.min_eq_right (by omega)]
    have a1 : N / 2 ^ (N.log2 + 2) = 0 := Nat.div_eq_of_lt (by omega)
    have a2 : N % 2 ^ (N.log2 + 2) = N := Nat.mod_eq_of_lt (by omega)
    have b1 : N / 2 ^ d = 0 := Nat.div_eq_of_lt (by omega)
    have b2 : N % 2 ^ d = N := Nat.mod_eq_of_lt (by omega)
    have := key (2^d) (Nat.two_pow_pos d)
    rw [b1, b2] at this
    rw [a1, a2]
    exact this

theorem shl_down (m : Nat) (i : Int) : ((m <<< i.toNat : Nat):Rat) = (m:Rat) * (2:Rat)^i * ((2^((-i).toNat) : Nat):Rat) := by
  rw [Nat.shiftLeft_eq]
  have e1 : ((m * 2 ^ i.toNat : Nat) : Rat) = (m:Rat) * (2:Rat)^(((i.toNat:Nat)):Int) := by rw [← nat2]; exact_mod_cast rfl
  rw [e1, nat2, Rat.mul_assoc, ← add2]
  congr 2
  omega

/-- math.Floor's word. -/
theorem floor_rd {x : Nat} (h : Fnt x) : ∃ n : Int, (n:Rat) ≤ val x ∧ val x < (n:Rat) + 1 ∧ Rd (n:Rat) (double.write ((double.read x).integral .down)) := by
  obtain ⟨m, i, a, b⟩ := read_val h
  obtain ⟨k, hk, h1, h2⟩ := down_cut (sgn x) (m <<< i.toNat) (-i).toNat
  rw [a]
  have e : Datum.integral .down (.number (sgn x) m i) = .number (sgn x) k 0 := by
    show Datum.number _ (Toward.down.cut _ _ _) 0 = _
    rw [hk]
  rw [e]
  rw [shl_down] at h1 h2
  have pg : (0:Rat) < ((2^((-i).toNat) : Nat):Rat) := by exact_mod_cast Nat.two_pow_pos _
  generalize ((2^((-i).toNat) : Nat):Rat) = g at *
  have h1' : sg (sgn x) * (k:Rat) ≤ val x := by
    refine le_of_nn _ pg ?_
    rw [b]; grind
  have h2' : val x < sg (sgn x) * (k:Rat) + 1 := by
    refine Rat.not_le.1 fun c => ?_
    have := Rat.mul_le_mul_of_nonneg_right c (Rat.le_of_lt pg)
    rw [b] at this
    grind
  have sk : ((signed (sgn x) k 0 : Int):Rat) = sg (sgn x) * (k:Rat) := by
    rw [signed_val]
    have : (2:Rat)^((0:Nat):Int) = 1 := Rat.zpow_zero _
    rw [this, Rat.mul_one]
  refine ⟨signed (sgn x) k 0, ?_, ?_, ?_⟩
  · rw [sk]; exact h1'
  · rw [sk]; exact h2'
  · apply rdw
    rw [sk, Rat.zpow_zero, Rat.mul_one]

/-- int(x) and its kin. -/
theorem toInt_of {x : Nat} (h : Fnt x) (n : Int) (e : val x = (n:Rat)) : (double.read x).toInt .zero = some n := by
  obtain ⟨m, i, a, b⟩ := read_val h
  rw [a]
  have hz : ∀ (s : Bool) (N d : Nat), Toward.zero.cut s N d = N / 2 ^ (min d (N.log2 + 2)) := by
    intro s N d
    unfold Toward.cut
    simp [Nat.one_shiftLeft]
  show some (signed (sgn x) (Toward.zero.cut (sgn x) (m <<< i.toNat) (-i).toNat) 0) = _
  rw [hz]
  congr 1
  have hs := shl_down m i
  generalize hN : m <<< i.toNat = N at *
  generalize hd : (-i).toNat = d at *
  -- N = |n| * 2^d
  have habs : (N:Rat) = ((n.natAbs * 2 ^ d : Nat):Rat) ∧ signed (sgn x) n.natAbs 0 = n := by
    have e1 : ((n.natAbs * 2 ^ d : Nat) : Rat) = ((n.natAbs:Nat):Rat) * ((2^d : Nat):Rat) := by exact_mod_cast rfl
    have nn : 0 ≤ (m:Rat) * (2:Rat)^i := Rat.mul_nonneg (by exact_mod_cast Nat.zero_le _) (Rat.le_of_lt (pos2 _))
    rw [e1, hs]
    rw [b] at e
    by_cases c : n < 0
    · have : (n.natAbs:Int) = -n := by omega
      have e2 : (((n.natAbs:Nat):Int):Rat) = ((-n : Int):Rat) := by rw [this]
      rw [Rat.intCast_neg] at e2
      have e3 : ((n.natAbs:Nat):Rat) = -(n:Rat) := e2
      have nneg : (n:Rat) < 0 := by exact_mod_cast c
      cases hsg : sgn x
      · rw [hsg] at e
        simp only [sg, Bool.false_eq_true, if_false, Rat.one_mul] at e
        exfalso; grind
      · rw [hsg] at e
        simp only [sg, if_true] at e
        rw [e3]
        refine ⟨by grind, ?_⟩
        simp [signed]; omega
    · have : (n.natAbs:Int) = n := by omega
      have e2 : (((n.natAbs:Nat):Int):Rat) = ((n : Int):Rat) := by rw [this]
      have e3 : ((n.natAbs:Nat):Rat) = (n:Rat) := e2
      cases hsg : sgn x
      · rw [hsg] at e
        simp only [sg, Bool.false_eq_true, if_false, Rat.one_mul] at e
        rw [e3]
        refine ⟨by grind, ?_⟩
        simp [signed]; omega
      · rw [hsg] at e
        simp only [sg, if_true] at e
        have n0 : (0:Rat) ≤ (n:Rat) := by exact_mod_cast (show 0 ≤ n by omega)
        have z : (n:Rat) = 0 := by grind
        have n00 : n = 0 := by exact_mod_cast z
        subst n00
        rw [e3]
        refine ⟨by grind, ?_⟩
        simp [signed]
  obtain ⟨hN2, hsgn⟩ := habs
  have hN3 : N = n.natAbs * 2 ^ d := by exact_mod_cast hN2
  have : N / 2 ^ (min d (N.log2 + 2)) = n.natAbs := by
    by_cases hd' : d ≤ N.log2 + 2
    · rw [Nat.min_eq_left hd', hN3]
      exact Nat.mul_div_cancel _ (Nat.two_pow_pos d)
    · by_cases n0 : n.natAbs = 0
      · rw [hN3, n0]; simp
      · exfalso
        have h1 : 2 ^ d ≤ N := by
          rw [hN3]
          exact Nat.le_mul_of_pos_left _ (Nat.pos_of_ne_zero n0)
        have big : N < 2 ^ (N.log2 + 1) := Nat.lt_log2_self
        have hp2 : 2 ^ (N.log2 + 1) ≤ 2 ^ d := Nat.pow_le_pow_right (by decide) (by omega)
        omega
  rw [this, hsgn]

theorem val_inj {x y : Nat} (hx : Fnt x) (hy : Fnt y) (hx' : x < 18446744073709551616) (hy' : y < 18446744073709551616) (e : val x = val y) (h0 : val x ≠ 0 ∨ sgn x = sgn y) : x = y := by
  rw [val_eq, val_eq] at e
  rw [val_eq] at h0
  have n1 := vr_nonneg (x % 9223372036854775808)
  have n2 := vr_nonneg (y % 9223372036854775808)
  have hs : sgn x = sgn y := by
    rcases h0 with h0 | h0
    · cases h1 : sgn x <;> cases h2 : sgn y <;> rw [h1] at e h0 <;> rw [h2] at e <;> simp only [sg, Bool.false_eq_true, if_false, if_true] at e h0
      · exfalso; grind
      · exfalso; grind
    · exact h0
  have hv : vr (x % 9223372036854775808) = vr (y % 9223372036854775808) := by
    rw [hs] at e
    cases h2 : sgn y <;> rw [h2] at e <;> simp only [sg, Bool.false_eq_true, if_false, if_true] at e <;> grind
  have := vr_inj hx hy hv
  rw [← word_of x hx', ← word_of y hy', hs, this]

end Go.Proofs.YtpbpkdhdjdaiiaaDoor.Flt
