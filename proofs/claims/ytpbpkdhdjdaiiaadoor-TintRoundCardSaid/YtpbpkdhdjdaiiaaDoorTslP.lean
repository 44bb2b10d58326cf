/- Angle, strength and lightness of a colour: plain facts on the channels as floats. -/
import Derived.Test.YtpbpkdhdjdaiiaaDoorHslP
namespace Go.Proofs.YtpbpkdhdjdaiiaaDoor
open Go.RowKit Flt

/-- a channel over 255 -/
def cw (n : Int) : Nat := fdiv (floatOfInt .f64 n) 4643176031446892544

theorem cw_near (n : Int) (h0 : 0 ≤ n) (h1 : n ≤ 255) : Fnt (cw n) ∧ 0 ≤ val (cw n) ∧ val (cw n) ≤ 1 ∧ (n:Rat) / 255 - 1/1000000 ≤ val (cw n) ∧ val (cw n) ≤ (n:Rat) / 255 + 1/1000000 := by
  obtain ⟨_, f, a, b, r⟩ := over_ok n h0 h1
  have n0 : (0:Rat) ≤ (n:Rat) := by exact_mod_cast h0
  have n1 : (n:Rat) ≤ 255 := by
    have : ((255:Int):Rat) = 255 := by decide +kernel
    rw [← this]; exact Rat.intCast_le_intCast.2 h1
  have e := r.error 0 (by decide) (by decide) (by grind) (by grind)
  have t : (2:Rat)^((0:Int)-54) ≤ 1/1000000 := by decide +kernel
  obtain ⟨_, e1, e2⟩ := e
  refine ⟨f, a, b, ?_, ?_⟩
  · have e3 : (n:Rat) / 255 - (2:Rat)^((0:Int)-54) ≤ val (cw n) := e1
    grind
  · have e3 : val (cw n) ≤ (n:Rat) / 255 + (2:Rat)^((0:Int)-54) := e2
    grind

theorem cw_lt (n m : Int) (h0 : 0 ≤ n) (h1 : m ≤ 255) (lt : n < m) : val (cw n) + 1/256 ≤ val (cw m) := by
  obtain ⟨_, _, _, _, a⟩ := cw_near n h0 (by omega)
  obtain ⟨_, _, _, b, _⟩ := cw_near m (by omega) h1
  have c : (n:Rat) + 1 ≤ (m:Rat) := by
    have : ((n + 1 : Int):Rat) = (n:Rat) + 1 := by rw [Rat.intCast_add]; rfl
    rw [← this]; exact Rat.intCast_le_intCast.2 (by omega)
  grind

theorem cw_lt_iff (n m : Int) (h0 : 0 ≤ n) (h1 : n ≤ 255) (g0 : 0 ≤ m) (g1 : m ≤ 255) : val (cw n) < val (cw m) ↔ n < m := by
  constructor
  · intro h
    rcases Int.lt_trichotomy n m with x | x | x
    · exact x
    · subst x; exact absurd h (by grind)
    · have := cw_lt m n g0 h1 x
      exact absurd h (by grind)
  · intro h
    have := cw_lt n m h0 g1 h
    grind
theorem cw_eq_iff (n m : Int) (h0 : 0 ≤ n) (h1 : n ≤ 255) (g0 : 0 ≤ m) (g1 : m ≤ 255) : val (cw n) = val (cw m) ↔ n = m := by
  constructor
  · intro h
    rcases Int.lt_trichotomy n m with x | x | x
    · have := cw_lt n m h0 g1 x
      exact absurd h (by grind)
    · exact x
    · have := cw_lt m n g0 h1 x
      exact absurd h (by grind)
  · intro h; rw [h]

theorem t50 : (2:Rat)^((0:Int)-54) ≤ 1/1000000 := by decide +kernel
theorem t51 : (2:Rat)^((1:Int)-54) ≤ 1/1000000 := by decide +kernel
theorem p0 : (2:Rat)^(0:Int) = 1 := by decide +kernel
theorem p1 : (2:Rat)^(1:Int) = 2 := by decide +kernel

theorem near1 {q : Rat} {x : Nat} (h : Rd q x) (h1 : -2 ≤ q) (h2 : q ≤ 2) : Fnt x ∧ q - 1/1000000 ≤ val x ∧ val x ≤ q + 1/1000000 := by
  obtain ⟨f, a, b⟩ := h.error 1 (by decide) (by decide) (by rw [p1]; exact h1) (by rw [p1]; exact h2)
  have t := t51
  exact ⟨f, by grind, by grind⟩

def dW (H L : Int) : Nat := fsub (cw H) (cw L)
def lW (H L : Int) : Nat := fdiv (fadd (cw H) (cw L)) 4611686018427387904
def tW (H L : Int) : Nat := fsub (fmul 4611686018427387904 (lW H L)) 4607182418800017408

structure TslOk (H L : Int) : Prop where
  fd : Fnt (dW H L)
  dn : val (cw H) - val (cw L) - 1/1000000 ≤ val (dW H L) ∧ val (dW H L) ≤ val (cw H) - val (cw L) + 1/1000000
  d0 : val (dW H L) = 0 ↔ H = L
  dp : 0 ≤ val (dW H L) ∧ val (dW H L) ≤ 1
  fs : Fnt (fadd (cw H) (cw L))
  fl : Fnt (lW H L)
  lp : 0 ≤ val (lW H L) ∧ val (lW H L) ≤ 1
  f2 : Fnt (fmul 4611686018427387904 (lW H L))
  ft : Fnt (tW H L)
  tn : L < H → -1 + 1/280 ≤ val (tW H L) ∧ val (tW H L) ≤ 1 - 1/280

theorem tsl_ok (H L : Int) (l0 : 0 ≤ L) (lh : L ≤ H) (h1 : H ≤ 255) : TslOk H L := by
  obtain ⟨fH, H0, H1, _, _⟩ := cw_near H (by omega) h1
  obtain ⟨fL, L0, L1, _, _⟩ := cw_near L l0 (by omega)
  have le : val (cw L) ≤ val (cw H) := by
    rcases Int.lt_or_eq_of_le lh with x | x
    · have := cw_lt L H l0 h1 x; grind
    · rw [x]; exact Rat.le_refl
  have rd := (fsub_some fH fL).2
  obtain ⟨fd, d1, d2⟩ := near1 rd (by grind) (by grind)
  obtain ⟨_, d3, d4⟩ := rd_between rd 0 1 (by decide) (by decide) (by show (0:Rat) ≤ _; grind) (by show _ ≤ (1:Rat); grind)
  have rs := (fadd_some fH fL).2
  obtain ⟨fs, s1, s2⟩ := near1 rs (by grind) (by grind)
  obtain ⟨_, s3, s4⟩ := rd_between rs 0 2 (by decide) (by decide) (by show (0:Rat) ≤ _; grind) (by rw [lit2]; grind)
  rw [lit2] at s4
  have n2 : val 4611686018427387904 ≠ 0 := by rw [val2]; decide
  have rl := (fdiv_some fs fin2 n2).2
  rw [val2] at rl
  have s3' : (0:Rat) ≤ val (fadd (cw H) (cw L)) := s3
  obtain ⟨fl, k1, k2⟩ := near1 rl (by grind) (by grind)
  obtain ⟨_, k3, k4⟩ := rd_between rl 0 1 (by decide) (by decide) (by show (0:Rat) ≤ _; grind) (by show _ ≤ (1:Rat); grind)
  have rm := (fmul_some fin2 fl).2
  rw [val2] at rm
  have k3' : (0:Rat) ≤ val (lW H L) := k3
  have k4' : val (lW H L) ≤ (1:Rat) := k4
  obtain ⟨fm, m1, m2⟩ := near1 rm (by show -2 ≤ 2 * val (lW H L); grind) (by show 2 * val (lW H L) ≤ 2; grind)
  have rt := (fsub_some fm fin1).2
  rw [val1] at rt
  have m1' : 2 * val (lW H L) - 1/1000000 ≤ val (fmul 4611686018427387904 (lW H L)) := m1
  have m2' : val (fmul 4611686018427387904 (lW H L)) ≤ 2 * val (lW H L) + 1/1000000 := m2
  have q1 : -2 ≤ val (fmul 4611686018427387904 (lW H L)) - 1 := by grind
  have q2 : val (fmul 4611686018427387904 (lW H L)) - 1 ≤ 2 := by grind
  obtain ⟨ft, t1, t2⟩ := near1 rt q1 q2
  refine ⟨fd, ⟨d1, d2⟩, ?_, ⟨d3, d4⟩, fs, fl, ⟨k3, k4⟩, fm, ft, ?_⟩
  · constructor
    · intro z
      rcases Int.lt_or_eq_of_le lh with x | x
      · have := cw_lt L H l0 h1 x
        have z' : val (fsub (cw H) (cw L)) = 0 := z
        grind
      · exact x.symm
    · intro z
      subst z
      have : val (cw H) - val (cw H) = 0 := by grind
      rw [this] at rd
      have e := (rd.int (n := 0) (by decide) (by decide)).2
      exact e
  · intro x
    have c := cw_lt L H l0 h1 x
    have k1' : val (fadd (cw H) (cw L)) / 2 - 1/1000000 ≤ val (lW H L) := k1
    have k2' : val (lW H L) ≤ val (fadd (cw H) (cw L)) / 2 + 1/1000000 := k2
    have t1' : val (fmul 4611686018427387904 (lW H L)) - 1 - 1/1000000 ≤ val (tW H L) := t1
    have t2' : val (tW H L) ≤ val (fmul 4611686018427387904 (lW H L)) - 1 + 1/1000000 := t2
    constructor <;> grind

theorem fmax_cw (a b : Int) (a0 : 0 ≤ a) (a1 : a ≤ 255) (b0 : 0 ≤ b) (b1 : b ≤ 255) : fmaxW (cw a) (cw b) = cw (max a b) := by
  obtain ⟨fa, _⟩ := cw_near a a0 a1
  obtain ⟨fb, _⟩ := cw_near b b0 b1
  obtain ⟨_, h, u, v⟩ := fmax_val fa fb
  rcases Int.lt_trichotomy a b with x | x | x
  · have c := cw_lt a b a0 b1 x
    rw [Int.max_eq_right (by omega)]
    rcases h with h | h
    · rw [h] at v; exact absurd v (by grind)
    · exact h
  · subst x; rw [Int.max_self]; rcases h with h | h <;> exact h
  · have c := cw_lt b a b0 a1 x
    rw [Int.max_eq_left (by omega)]
    rcases h with h | h
    · exact h
    · rw [h] at u; exact absurd u (by grind)

theorem fmin_cw (a b : Int) (a0 : 0 ≤ a) (a1 : a ≤ 255) (b0 : 0 ≤ b) (b1 : b ≤ 255) : fminW (cw a) (cw b) = cw (min a b) := by
  obtain ⟨fa, _⟩ := cw_near a a0 a1
  obtain ⟨fb, _⟩ := cw_near b b0 b1
  obtain ⟨_, h, u, v⟩ := fmin_val fa fb
  rcases Int.lt_trichotomy a b with x | x | x
  · have c := cw_lt a b a0 b1 x
    rw [Int.min_eq_left (by omega)]
    rcases h with h | h
    · exact h
    · rw [h] at u; exact absurd u (by grind)
  · subst x; rw [Int.min_self]; rcases h with h | h <;> exact h
  · have c := cw_lt b a b0 a1 x
    rw [Int.min_eq_right (by omega)]
    rcases h with h | h
    · rw [h] at v; exact absurd v (by grind)
    · exact h

/-- the divisor of the strength: the program's, the reference's -/
def qW (H L : Int) : Nat := fsub 4607182418800017408 (tW H L % 9223372036854775808)
def qR (H L : Int) : Nat := fsub 4607182418800017408 (sizeW (tW H L))

structure QOk (H L : Int) : Prop where
  fa : Fnt (tW H L % 9223372036854775808)
  fz : Fnt (sizeW (tW H L))
  sv : Sv (qW H L) (qR H L)
  lo : 1/300 ≤ val (qW H L)
  hi : val (qW H L) ≤ 2
  ne : val (qW H L) ≠ 0
  ne' : val (qR H L) ≠ 0
  sd : Sv (fdiv (dW H L) (qW H L)) (fdiv (dW H L) (qR H L))
  d0 : 0 ≤ val (fdiv (dW H L) (qW H L))

theorem q_ok (H L : Int) (l0 : 0 ≤ L) (lt : L < H) (h1 : H ≤ 255) : QOk H L := by
  have T := tsl_ok H L l0 (by omega) h1
  obtain ⟨t1, t2⟩ := T.tn lt
  have lw : tW H L < 18446744073709551616 := fsub_lt T.f2 fin1
  have sa := sv_abs (Sv.refl T.ft) lw
  obtain ⟨fa, va⟩ := abs_val T.ft
  have vb : 0 ≤ val (tW H L % 9223372036854775808) ∧ val (tW H L % 9223372036854775808) ≤ 1 - 1/280 := by
    rw [va]; split <;> constructor <;> grind
  obtain ⟨sv, a, b⟩ := sv_sub (Sv.refl fin1) sa 0 1 (by decide) (by decide) (by rw [val1, lit0]; grind) (by rw [val1, lit1]; grind)
  have rq := (fsub_some fin1 fa).2
  rw [val1] at rq
  obtain ⟨_, q1, q2⟩ := near1 rq (by grind) (by grind)
  have q1' : 1 - val (tW H L % 9223372036854775808) - 1/1000000 ≤ val (qW H L) := q1
  have lo : 1/300 ≤ val (qW H L) := by grind
  have ne : val (qW H L) ≠ 0 := by grind
  have pos : 0 < val (qW H L) := by grind
  have dp := T.dp
  have qd : 0 ≤ val (dW H L) / val (qW H L) ∧ val (dW H L) / val (qW H L) ≤ 300 := by
    have e : val (dW H L) / val (qW H L) * val (qW H L) = val (dW H L) := Rat.div_mul_cancel ne
    constructor
    · refine le_of_nn _ pos ?_
      rw [e, Rat.zero_mul]; exact dp.1
    · refine le_of_nn _ pos ?_
      rw [e]
      have := dp.2
      grind
  have l300 : ((300:Int):Rat) = 300 := by decide +kernel
  obtain ⟨sd, d1, _⟩ := sv_div (Sv.refl T.fd) (show Sv (qW H L) (qR H L) from sv) ne 0 300 (by decide) (by decide) (by rw [lit0]; exact qd.1) (by rw [l300]; exact qd.2)
  have b' : val (qW H L) ≤ ((1:Int):Rat) := b
  rw [lit1] at b'
  exact ⟨fa, sa.r, sv, lo, by grind, ne, by have e : val (qW H L) = val (qR H L) := sv.e; rw [← e]; exact ne, sd, d1⟩

/-- a difference of two channels over the greatest difference -/
def aW (x y H L : Int) : Nat := fdiv (fsub (cw x) (cw y)) (dW H L)

theorem Rd.neg {q : Rat} {x : Nat} (h : Rd q x) (f : Fnt x) : ∃ y, Rd (-q) y ∧ Fnt y ∧ val y = - val x := by
  obtain ⟨s, r, hr, rfl, c⟩ := h.word
  have hm := word_mod s r hr
  have r1 : r < 9218868437227405312 := by unfold Fnt at f; omega
  refine ⟨Ieee.double.word (!s) r, ⟨!s, r, hr, rfl, ?_⟩, word_fin _ _ r1, ?_⟩
  · rcases c with ⟨rfl, a, b⟩ | ⟨rfl, a, b⟩
    · exact Or.inr ⟨rfl, by grind, b⟩
    · refine Or.inl ⟨rfl, by grind, ?_⟩
      rw [Rat.neg_neg]; exact b
  · rw [val_eq, val_eq, word_mod _ _ hr, word_mod _ _ hr, word_sgn _ _ hr, word_sgn _ _ hr]
    cases s <;> simp [sg] <;> grind

theorem cw_le (n m : Int) (h0 : 0 ≤ n) (h1 : m ≤ 255) (le : n ≤ m) : val (cw n) ≤ val (cw m) := by
  rcases Int.lt_or_eq_of_le le with x | x
  · have := cw_lt n m h0 h1 x; grind
  · rw [x]; exact Rat.le_refl

theorem a_ok (x y H L : Int) (l0 : 0 ≤ L) (lt : L < H) (h1 : H ≤ 255) (x0 : L ≤ x) (x1 : x ≤ H) (y0 : L ≤ y) (y1 : y ≤ H) : Fnt (fsub (cw x) (cw y)) ∧ val (dW H L) ≠ 0 ∧ Fnt (aW x y H L) ∧ -1 ≤ val (aW x y H L) ∧ val (aW x y H L) ≤ 1 := by
  have T := tsl_ok H L l0 (by omega) h1
  obtain ⟨fx, X0, X1, _⟩ := cw_near x (by omega) (by omega)
  obtain ⟨fy, Y0, Y1, _⟩ := cw_near y (by omega) (by omega)
  obtain ⟨fH, _⟩ := cw_near H (by omega) h1
  obtain ⟨fL, _⟩ := cw_near L l0 (by omega)
  have a1 := cw_le L x l0 (by omega) x0
  have a2 := cw_le x H (by omega) h1 x1
  have b1 := cw_le L y l0 (by omega) y0
  have b2 := cw_le y H (by omega) h1 y1
  have ne : val (dW H L) ≠ 0 := fun h => by have := T.d0.1 h; omega
  have rs := (fsub_some fx fy).2
  obtain ⟨fs, _, _⟩ := near1 rs (by grind) (by grind)
  have rd := (fsub_some fH fL).2
  have up : val (fsub (cw x) (cw y)) ≤ val (dW H L) := rs.mono rd fs T.fd (by grind)
  have rs' := (fsub_some fy fx).2
  obtain ⟨fs', _, _⟩ := near1 rs' (by grind) (by grind)
  have dn : -val (dW H L) ≤ val (fsub (cw x) (cw y)) := by
    obtain ⟨y, ry, fy', vy⟩ := Rd.neg rd T.fd
    have := ry.mono rs fy' fs (by grind)
    rw [vy] at this
    exact this
  have pos : 0 < val (dW H L) := by have := T.dp.1; grind
  have e : val (fsub (cw x) (cw y)) / val (dW H L) * val (dW H L) = val (fsub (cw x) (cw y)) := Rat.div_mul_cancel ne
  have rq := (fdiv_some fs T.fd ne).2
  obtain ⟨fa, c, d⟩ := rd_between rq (-1) 1 (by decide) (by decide) (by rw [litm1]; refine le_of_nn _ pos ?_; rw [e]; grind) (by rw [lit1]; refine le_of_nn _ pos ?_; rw [e]; grind)
  rw [litm1] at c
  rw [lit1] at d
  exact ⟨fs, ne, fa, c, d⟩

def mx (r g b : Int) : Int := max (max r g) b
def mn (r g b : Int) : Int := min (min r g) b
theorem mx_mn (r g b : Int) : mn r g b ≤ r ∧ mn r g b ≤ g ∧ mn r g b ≤ b ∧ r ≤ mx r g b ∧ g ≤ mx r g b ∧ b ≤ mx r g b ∧ (mx r g b = r ∨ mx r g b = g ∨ mx r g b = b) ∧ (mn r g b = r ∨ mn r g b = g ∨ mn r g b = b) := by
  unfold mx mn; omega

theorem fin6 : Fnt 4618441417868443648 := by unfold Fnt; decide +kernel
theorem val6 : val 4618441417868443648 = 6 := by decide +kernel

/-- the angle's sixth -/
def hueW (r g b : Int) : Nat :=
  if mx r g b = r then (if val (aW g b (mx r g b) (mn r g b)) < 0 then fadd (aW g b (mx r g b) (mn r g b)) 4618441417868443648 else aW g b (mx r g b) (mn r g b))
  else if mx r g b = g then fadd (aW b r (mx r g b) (mn r g b)) 4611686018427387904
  else fadd (aW r g (mx r g b) (mn r g b)) 4616189618054758400

theorem hue_ok (r g b : Int) (r0 : 0 ≤ r ∧ r ≤ 255) (g0 : 0 ≤ g ∧ g ≤ 255) (b0 : 0 ≤ b ∧ b ≤ 255) (lt : mn r g b < mx r g b) : Fnt (hueW r g b) ∧ 0 ≤ val (hueW r g b) ∧ val (hueW r g b) ≤ 6 ∧ Fnt (fmul 4633641066610819072 (hueW r g b)) ∧ 0 ≤ val (fmul 4633641066610819072 (hueW r g b)) ∧ val (fmul 4633641066610819072 (hueW r g b)) ≤ 360 := by
  obtain ⟨m1, m2, m3, m4, m5, m6, m7, m8⟩ := mx_mn r g b
  have l0 : 0 ≤ mn r g b := by omega
  have h1 : mx r g b ≤ 255 := by omega
  obtain ⟨_, _, fa, a1, a2⟩ := a_ok g b _ _ l0 lt h1 m2 m5 m3 m6
  obtain ⟨_, _, fb, b1, b2⟩ := a_ok b r _ _ l0 lt h1 m3 m6 m1 m4
  obtain ⟨_, _, fc, c1, c2⟩ := a_ok r g _ _ l0 lt h1 m1 m4 m2 m5
  have l360 : ((360:Int):Rat) = 360 := by decide +kernel
  have hh : Fnt (hueW r g b) ∧ 0 ≤ val (hueW r g b) ∧ val (hueW r g b) ≤ 6 := by
    unfold hueW
    split
    · split
      · rename_i n
        obtain ⟨f, x, y⟩ := rd_between (fadd_some fa fin6).2 0 6 (by decide) (by decide) (by rw [val6, lit0]; grind) (by rw [val6, lit6]; grind)
        rw [lit0] at x; rw [lit6] at y
        exact ⟨f, x, y⟩
      · exact ⟨fa, by grind, by grind⟩
    · split
      · obtain ⟨f, x, y⟩ := rd_between (fadd_some fb fin2).2 0 6 (by decide) (by decide) (by rw [val2, lit0]; grind) (by rw [val2, lit6]; grind)
        rw [lit0] at x; rw [lit6] at y
        exact ⟨f, x, y⟩
      · obtain ⟨f, x, y⟩ := rd_between (fadd_some fc fin4).2 0 6 (by decide) (by decide) (by rw [val4, lit0]; grind) (by rw [val4, lit6]; grind)
        rw [lit0] at x; rw [lit6] at y
        exact ⟨f, x, y⟩
  obtain ⟨f, x, y⟩ := hh
  obtain ⟨f2, x2, y2⟩ := rd_between (fmul_some fin60 f).2 0 360 (by decide) (by decide) (by rw [val60, lit0]; grind) (by rw [val60, l360]; grind)
  rw [lit0] at x2; rw [l360] at y2
  exact ⟨f, x, y, f2, x2, y2⟩
end Go.Proofs.YtpbpkdhdjdaiiaaDoor
