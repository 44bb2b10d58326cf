/- What every program must do (the law's alive): the walk. -/
import Derived.Test.YthcdcbibbfdjmaaDoorStyH
import Derived.Test.YthcdcbibbfdjmaaDoorStyG
namespace Go.Proofs.YthcdcbibbfdjmaaDoor
open Go.RowKit Go.Sort
set_option linter.unusedVariables false

def boldred : ByteArray := ⟨#[98, 111, 108, 100, 32, 114, 101, 100]⟩
theorem al_parse : parseS boldred = .ok ⟨257, 0, 1, 0⟩ := by kernel_rfl
theorem al_over : overL ⟨0, 0, 0⟩ [⟨257, 0, 1, 0⟩] = ⟨257, 0, 1⟩ := by kernel_rfl
theorem al_params : paramsL ⟨0, 0, 0⟩ ⟨257, 0, 1⟩ = [1, 31] := by kernel_rfl
theorem al_apply : applyL ⟨0, 0, 0⟩ [1, 31] = ⟨257, 0, 1⟩ := by kernel_rfl

theorem al_over_call (ad : Addr) (W : World) (h : SeesP W W.heap.size (some ad) [⟨257, 0, 1, 0⟩]) : Calls Tryd.prog 28 #[(.agg #[.int .i32 0, .int .i32 0, .int .u8 0]), .slice (some ad) 1 1] W fun e w' => e = .returned (.agg #[.int .i32 257, .int .i32 0, .int .u8 1]) ∧ Below W.heap.size W w' := by
  have C := st_Over ⟨0, 0, 0⟩ (some ad) 1 [⟨257, 0, 1, 0⟩] W h (by decide)
  rw [al_over] at C
  exact C
theorem al_params_call (W : World) (E : EnvS W) : Calls Tryd.prog 16 #[(.agg #[.int .i32 0, .int .i32 0, .int .u8 0]), (.agg #[.int .i32 257, .int .i32 0, .int .u8 1])] W (IntRet W [1, 31]) := by
  have C := st_Params ⟨0, 0, 0⟩ ⟨257, 0, 1⟩ W E
  rw [al_params] at C
  exact C
theorem al_apply_call (A : Option Addr) (c : Nat) (hc : 2 ≤ c) (W : World) (E : EnvS W) (h : Sees W W.heap.size A (ints [1, 31])) : Calls Tryd.prog 23 #[(.agg #[.int .i32 0, .int .i32 0, .int .u8 0]), .slice A 2 c] W fun e w' => e = .returned (.agg #[.int .i32 257, .int .i32 0, .int .u8 1]) ∧ Below W.heap.size W w' := by
  have C := st_Apply ⟨0, 0, 0⟩ A c [1, 31] (by decide) hc W E h
  rw [al_apply] at C
  exact C

set_option maxHeartbeats 8000000 in
set_option maxRecDepth 100000 in
theorem law_alive (w : World) (E : Env w) (ES : EnvS w) (EN : EnvN w) : Calls Tryd.prog 21 #[] w fun e w' => e = .returned (.bool true) ∧ Below w.heap.size w w' := by
  have C1 := st_Parse boldred (by decide) w E EN
  rw [al_parse] at C1
  have C1 := Lib.hid C1
  have ES := Lib.hid ES
  clear E EN
  go_enter Tryd.func21, Tryd.ntmps21
  go_wp2_with fail
  refine C1.out.mono ?_; rintro e w1 ⟨rfl, hb1⟩
  have HB1 := Lib.hid hb1
  have l0 := hb1.size
  clear hb1
  simp only [parV]
  go_wp2_with fail
  refine (al_over_call _ _ ?_).mono ?_
  · intro _
    refine ⟨_, rfl, by simp, fun j p hj i u hu => ?_⟩
    have j0 : j = 0 := by
      rcases Nat.eq_zero_or_pos j with h | h
      · exact h
      · rw [List.getElem?_eq_none (by simp; omega)] at hj; cases hj
    subst j0
    simp at hj
    subst hj
    rw [Nat.zero_mul, Nat.zero_add, addr0]
    have hi : i < 4 := by
      rcases Nat.lt_or_ge i 4 with h | h
      · exact h
      · rw [List.getElem?_eq_none (by simp [patL]; omega)] at hu; cases hu
    have : i = 0 ∨ i = 1 ∨ i = 2 ∨ i = 3 := by omega
    rcases this with rfl | rfl | rfl | rfl <;> (simp [patL] at hu; subst hu; simp [go_sem]; try rfl)
  rintro e' w2 ⟨rfl, hb2⟩
  have l1 := hb2.size
  have HB2 := Lib.hid (below_call ((HB1.out.alloc l0 _).alloc (by simp; omega) _) (by simp; omega) hb2)
  clear hb2
  go_wp2_with fail
  refine (al_params_call _ ?_).mono ?_
  · exact ES.out.of_below (HB2.out.alloc HB2.out.size _) (Nat.le_refl _)
  rintro e' w3 ⟨v, rfl, ho, hb3⟩
  have HB3 := Lib.hid (below_call (HB2.out.alloc HB2.out.size _) (by simp; have := HB2.out.size; omega) hb3)
  have k3 : C3 w3 w2.heap.size (.int .i32 257) (.int .i32 0) (.int .u8 1) := C3.keep (by constructor <;> simp [go_sem]) hb3 (by simp)
  have EV := ES.out.of_below HB3.out (Nat.le_refl _)
  obtain ⟨g, c, rfl, gl, gc⟩ : ∃ g c, v = .slice (some ⟨g, 0, none⟩) 2 c ∧ g < w3.heap.size ∧ 2 ≤ c := by
    rcases (own_form ho).2 with ⟨_, h⟩ | ⟨g, c, h1, _, h3, h4, _⟩
    · cases h
    · exact ⟨g, c, h1, h3, h4⟩
  have SS := Sees.of_own ho
  have s0 : w3.cell? ⟨g, 0, none⟩ = some (.int .i64 1) := by
    obtain ⟨ad, e, _, h⟩ := SS (by simp [ints])
    cases e
    have := h 0 _ rfl
    exact this
  have s1 : w3.cell? ⟨g, 1, none⟩ = some (.int .i64 31) := by
    obtain ⟨ad, e, _, h⟩ := SS (by simp [ints])
    cases e
    have := h 1 _ rfl
    exact this
  have CA := Lib.hid fun d os => (al_apply_call (some ⟨g, 0, none⟩) c gc (grow (redrawn w3 d) os) (EV.of_below (below_regrown w3 d os) (Nat.le_refl _)) ((SS.below (below_regrown w3 d os) (Nat.le_refl _)).more (below_regrown w3 d os).size)).regrown_of
  have g0 := fun d os => cell_regrown s0 d os
  have g1 := fun d os => cell_regrown s1 d os
  have c0 := fun d os => (k3.regrown d os).c0
  have c1 := fun d os => (k3.regrown d os).c1
  have c2 := fun d os => (k3.regrown d os).c2
  clear ho hb3 k3 EV SS s0 s1
  go_wp2_with fail
  refine wp_region_quiet_below (by kernel_rfl) (by kernel_rfl) ?_
  repeat (quiet_step (exact CA.out _ _))
  refine wpQuiet_nil ?_
  intro _ hw'
  obtain ⟨⟨dq, osq⟩, hw''⟩ := hw'
  subst hw''
  have HB4 := HB3.out.trans ((below_regrown w3 dq osq).mono HB3.out.size)
  go_wp2_with fail
  go_ret
  exact ⟨rfl, HB4⟩
end Go.Proofs.YthcdcbibbfdjmaaDoor
