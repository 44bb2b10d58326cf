/- The walks of layer 5's mixtures. -/
import Derived.Test.YtpbpkdhdjdaiiaaDoorMixP
import Derived.Test.YtpbpkdhdjdaiiaaDoorColC
namespace Go.Proofs.YtpbpkdhdjdaiiaaDoor
open Go.RowKit Flt

theorem fmt64 : FloatKind.f64.format = Ieee.double := rfl

theorem ret_float {a b : Nat} (h : a = b) : Ending.returned (.float .f64 a) = .returned (.float .f64 b) := by rw [h]

theorem tint_unit (t : Nat) : Tells 62 #[.float .f64 t] (.float .f64 (unitW t)) := by
  intro w
  cases h : (Ieee.double.order t 0 == some .gt)
  · have H : Hid (unitW t = 0) := by unfold Hid unitW; rw [h]; rfl
    have h' : (FloatKind.f64.format.order t 0 == some .gt) = false := h
    clear h
    go_enter Tryd.func62, Tryd.ntmps62
    go_wp2
    go_ret
    exact ⟨ret_float (by rw [H.out]), rfl⟩
  · have h' : (FloatKind.f64.format.order t 0 == some .gt) = true := h
    have o : (Ieee.double.order t 4607182418800017408).isSome = true ∧ unitW t = fminW t 4607182418800017408 := by
      have hnn : Ieee.double.order t 4607182418800017408 ≠ none ∧ (Ieee.double.order t 4607182418800017408 = some .eq → (Ieee.double.read t).neg = false) := by
        by_cases f : Fnt t
        · have g := order_gt f fin0
          rw [val0] at g
          have vp := g.1 h
          obtain ⟨m, p, hr, _⟩ := read_fin f
          constructor
          · unfold Ieee.Format.order; rw [hr, read1]; exact fun h => by cases h
          · intro _
            rw [hr]
            show sgn t = false
            cases hs : sgn t
            · rfl
            · exfalso
              have := vr_nonneg (t % 9223372036854775808)
              rw [val_eq, hs] at vp
              simp only [sg, if_true] at vp
              grind
        · rcases read_infin f with ⟨s, hr⟩ | ⟨s, f, hr⟩
          · have o1 : Ieee.double.order t 4607182418800017408 = some (if s then .lt else .gt) := by unfold Ieee.Format.order; rw [hr, read1]; rfl
            rw [o1]
            exact ⟨(fun h => by cases h), by cases s <;> (intro h; cases h)⟩
          · have o0 : Ieee.double.order t 0 = none := by unfold Ieee.Format.order; rw [hr]; rfl
            rw [o0] at h; cases h
      unfold unitW fminW
      rw [if_pos h]
      cases ho : Ieee.double.order t 4607182418800017408 with
      | none => exact absurd ho hnn.1
      | some c =>
        refine ⟨rfl, ?_⟩
        cases c
        · rfl
        · rw [hnn.2 ho]; rfl
        · rfl
    obtain ⟨ho, hu⟩ := o
    have H := Lib.hid hu
    clear h hu
    go_enter Tryd.func62, Tryd.ntmps62
    go_wp2
    go_ret
    exact ⟨ret_float (by rw [H.out]), rfl⟩

theorem ref_Unit (t : Nat) : Tells 82 #[.float .f64 t] (.float .f64 (unitR t)) := by
  intro w
  cases h : (Ieee.double.order t t != some .eq)
  · have h' : (FloatKind.f64.format.order t t != some .eq) = false := h
    cases h2 : (Ieee.double.order t 0 == some .lt)
    · have h2' : (FloatKind.f64.format.order t 0 == some .lt) = false := h2
      cases h3 : (Ieee.double.order t 4607182418800017408 == some .gt)
      · have h3' : (FloatKind.f64.format.order t 4607182418800017408 == some .gt) = false := h3
        have H : Hid (unitR t = t) := by unfold Hid unitR; rw [h, h2, h3]; rfl
        clear h h2 h3
        go_enter Tryd.func82, Tryd.ntmps82
        go_wp2
        go_ret
        exact ⟨ret_float (by rw [H.out]), rfl⟩
      · have h3' : (FloatKind.f64.format.order t 4607182418800017408 == some .gt) = true := h3
        have H : Hid (unitR t = 4607182418800017408) := by unfold Hid unitR; rw [h, h2, h3]; rfl
        clear h h2 h3
        go_enter Tryd.func82, Tryd.ntmps82
        go_wp2
        go_ret
        exact ⟨ret_float (by rw [H.out]), rfl⟩
    · have h2' : (FloatKind.f64.format.order t 0 == some .lt) = true := h2
      have H : Hid (unitR t = 0) := by unfold Hid unitR; rw [h, h2]; rfl
      clear h h2
      go_enter Tryd.func82, Tryd.ntmps82
      go_wp2
      go_ret
      exact ⟨ret_float (by rw [H.out]), rfl⟩
  · have h' : (FloatKind.f64.format.order t t != some .eq) = true := h
    have H : Hid (unitR t = 0) := by unfold Hid unitR; rw [h]; simp
    clear h
    go_enter Tryd.func82, Tryd.ntmps82
    go_wp2
    go_ret
    exact ⟨ret_float (by rw [H.out]), rfl⟩

theorem conv_int (x : Nat) (n : Int) (f : Fnt x) (v : val x = (n:Rat)) (h1 : -9223372036854775808 ≤ n) (h2 : n ≤ 9223372036854775807) (w : World) : (convert 30 3 (.float .f64 x)).run Tryd.prog w = .ok (.int .i64 n) w :=
  run_convert_float_int w _ _ .f64 .i64 x n (by rw [Tryd.underlying30]; rfl) Tryd.underlying3 (to_int_val .i64 f v h1 h2)
theorem conv_u8 (x : Nat) (n : Int) (f : Fnt x) (v : val x = (n:Rat)) (h1 : 0 ≤ n) (h2 : n ≤ 255) (w : World) : (convert 30 5 (.float .f64 x)).run Tryd.prog w = .ok (.int .u8 n) w :=
  run_convert_float_int w _ _ .f64 .u8 x n (by rw [Tryd.underlying30]; rfl) Tryd.underlying5 (to_int_val .u8 f v h1 h2)

/-- one channel, the reference's -/
theorem ref_between (x y : Int) (u u' : Nat) (hx : 0 ≤ x) (hx' : x ≤ 255) (hy : 0 ≤ y) (hy' : y ≤ 255) (f3 : Fnt u) (f3' : Fnt u') (u0 : 0 ≤ val u) (u1 : val u ≤ 1) (ue : val u' = val u) :
    Tells 84 #[.int .i64 x, .int .i64 y, .float .f64 u] (.int .i64 (mixC x y u')) := by
  intro w
  obtain ⟨_, g1, v1⟩ := int_rat x (by omega) (by omega)
  obtain ⟨_, g2, v2⟩ := int_rat y (by omega) (by omega)
  obtain ⟨_, r⟩ := fsub_some g2 g1
  rw [v1, v2] at r
  have ed : (y:Rat) - (x:Rat) = ((y - x : Int):Rat) := (Rat.intCast_sub y x).symm
  rw [ed] at r
  obtain ⟨g3, v3⟩ := r.int (by omega) (by omega)
  obtain ⟨⟨a1, a2, a3, v4, a4⟩, b1, b2, _⟩ := mix_any (floatOfInt .f64 x) (fsub (floatOfInt .f64 y) (floatOfInt .f64 x)) u u' x y hx hx' hy hy' g1 v1 g3 v3 f3 f3' u0 u1 ue
  have hc := conv_int _ _ a4 v4 (by omega) (by omega)
  clear v1 v2 r ed v3 v4 b1 b2 u0 u1 ue f3'
  have hH := finH
  go_enter Tryd.func84, Tryd.ntmps84
  go_wp2_with (go_at_call 63; refine (math_Floor _ (by assumption) _).mono ?_; rintro e w' ⟨rfl, rfl⟩)
  go_ret
  exact ⟨rfl, rfl⟩
end Go.Proofs.YtpbpkdhdjdaiiaaDoor
