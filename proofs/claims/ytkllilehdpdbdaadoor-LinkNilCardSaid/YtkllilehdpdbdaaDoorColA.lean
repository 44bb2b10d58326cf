/- The walks of layer 5's functions on colours, channels and the palette: what each returns, as plain functions. -/
import Derived.Test.YtkllilehdpdbdaaDoorBase
namespace Go.Proofs.YtkllilehdpdbdaaDoor
open Go.RowKit

/-! ### plain -/
def rightB (c : Int) : Bool := decide (c = 0 ∨ c = 1 ∨ (256 ≤ c ∧ c < 512) ∨ (16777216 ≤ c ∧ c < 33554432))
def cnt (c : Int) : Int := if rightB c = true then c else 0


theorem tint_Right (c : Int) : Tells 44 #[.int .i32 c] (.bool (rightB c)) := by
  intro w
  by_cases h0 : c = 0
  · subst h0
    go_enter Tryd.func44, Tryd.ntmps44
    go_wp2
    go_ret
    exact ⟨rfl, rfl⟩
  by_cases h1 : c = 1
  · subst h1
    go_enter Tryd.func44, Tryd.ntmps44
    go_wp2
    go_ret
    exact ⟨rfl, rfl⟩
  by_cases h2 : 16777216 ≤ c
  · by_cases h3 : c < 33554432
    all_goals
      have H : Hid (rightB c = decide (c < 33554432)) := by unfold rightB Hid; rw [decide_eq_decide]; omega
      go_enter Tryd.func44, Tryd.ntmps44
      go_wp2
      go_ret
      exact ⟨ret_bool (by rw [H.out]; simp [h3]), rfl⟩
  · by_cases h3 : 256 ≤ c
    · by_cases h4 : c < 512
      all_goals
        have H : Hid (rightB c = decide (c < 512)) := by unfold rightB Hid; rw [decide_eq_decide]; omega
        go_enter Tryd.func44, Tryd.ntmps44
        go_wp2
        go_ret
        exact ⟨ret_bool (by rw [H.out]; simp [h4]), rfl⟩
    · have H : Hid (rightB c = false) := by unfold rightB Hid; rw [decide_eq_false_iff_not]; omega
      go_enter Tryd.func44, Tryd.ntmps44
      go_wp2
      go_ret
      exact ⟨ret_bool (by rw [H.out]), rfl⟩

theorem tint_counted (c : Int) : Tells 36 #[.int .i32 c] (.int .i32 (cnt c)) := by
  intro w
  cases h : rightB c
  all_goals
    have H : Hid (cnt c = if rightB c = true then c else 0) := rfl
    go_enter Tryd.func36, Tryd.ntmps36
    go_wp2_with (go_at_call 44; refine (tint_Right _ _).mono ?_; rintro e w' ⟨rfl, rfl⟩; rw [h])
    go_ret
    exact ⟨ret_int (by rw [H.out, h]; simp), rfl⟩

/-! ### the palette -/
def lev (n : Int) : Int := if n = 0 then 0 else 55 + 40 * n
def bitOr (b lo hi : Int) : Int := if b = 1 then hi else lo
def pr (n : Int) : Int := if n < 8 then bitOr (n % 2) 0 170 else if n < 16 then bitOr (n % 2) 85 255 else if n < 232 then lev ((n - 16) / 36) else 8 + 10 * (n - 232)
def pg (n : Int) : Int := if n < 8 then bitOr (n / 2 % 2) 0 170 else if n < 16 then bitOr (n / 2 % 2) 85 255 else if n < 232 then lev ((n - 16) / 6 % 6) else 8 + 10 * (n - 232)
def pb (n : Int) : Int := if n < 8 then bitOr (n / 4 % 2) 0 170 else if n < 16 then bitOr (n / 4 % 2) 85 255 else if n < 232 then lev ((n - 16) % 6) else 8 + 10 * (n - 232)

theorem tint_level (n : Int) (h0 : 0 ≤ n) (h1 : n ≤ 5) : Tells 53 #[.int .i64 n] (.int .u8 (lev n)) := by
  intro w
  by_cases h : n = 0
  · subst h
    go_enter Tryd.func53, Tryd.ntmps53
    go_wp2
    go_ret
    exact ⟨rfl, rfl⟩
  · have H : Hid (lev n = 55 + 40 * n) := by unfold lev Hid; rw [if_neg h]
    go_enter Tryd.func53, Tryd.ntmps53
    go_wp2
    go_ret
    exact ⟨ret_int (by rw [H.out]), rfl⟩

set_option maxHeartbeats 4000000 in
theorem tint_place_low (n : Int) (h0 : 0 ≤ n) (h1 : n < 16) : Gives 45 #[.int .i64 n] (arr3 (pr n) (pg n) (pb n)) := by
  intro w
  have : n = 0 ∨ n = 1 ∨ n = 2 ∨ n = 3 ∨ n = 4 ∨ n = 5 ∨ n = 6 ∨ n = 7 ∨ n = 8 ∨ n = 9 ∨ n = 10 ∨ n = 11 ∨ n = 12 ∨ n = 13 ∨ n = 14 ∨ n = 15 := by omega
  clear h0 h1
  rcases this with rfl | rfl | rfl | rfl | rfl | rfl | rfl | rfl | rfl | rfl | rfl | rfl | rfl | rfl | rfl | rfl
  · go_enter Tryd.func45, Tryd.ntmps45
    go_wp2
    go_rounds 4
    exact bodyPost_ret (v := arr3 0 0 0) (by simp [arr3, results, Tryd.results45, go_sem]) rfl ⟨rfl, by go_grown⟩
  · go_enter Tryd.func45, Tryd.ntmps45
    go_wp2
    go_rounds 4
    exact bodyPost_ret (v := arr3 170 0 0) (by simp [arr3, results, Tryd.results45, go_sem]) rfl ⟨rfl, by go_grown⟩
  · go_enter Tryd.func45, Tryd.ntmps45
    go_wp2
    go_rounds 4
    exact bodyPost_ret (v := arr3 0 170 0) (by simp [arr3, results, Tryd.results45, go_sem]) rfl ⟨rfl, by go_grown⟩
  · go_enter Tryd.func45, Tryd.ntmps45
    go_wp2
    go_rounds 4
    exact bodyPost_ret (v := arr3 170 170 0) (by simp [arr3, results, Tryd.results45, go_sem]) rfl ⟨rfl, by go_grown⟩
  · go_enter Tryd.func45, Tryd.ntmps45
    go_wp2
    go_rounds 4
    exact bodyPost_ret (v := arr3 0 0 170) (by simp [arr3, results, Tryd.results45, go_sem]) rfl ⟨rfl, by go_grown⟩
  · go_enter Tryd.func45, Tryd.ntmps45
    go_wp2
    go_rounds 4
    exact bodyPost_ret (v := arr3 170 0 170) (by simp [arr3, results, Tryd.results45, go_sem]) rfl ⟨rfl, by go_grown⟩
  · go_enter Tryd.func45, Tryd.ntmps45
    go_wp2
    go_rounds 4
    exact bodyPost_ret (v := arr3 0 170 170) (by simp [arr3, results, Tryd.results45, go_sem]) rfl ⟨rfl, by go_grown⟩
  · go_enter Tryd.func45, Tryd.ntmps45
    go_wp2
    go_rounds 4
    exact bodyPost_ret (v := arr3 170 170 170) (by simp [arr3, results, Tryd.results45, go_sem]) rfl ⟨rfl, by go_grown⟩
  · go_enter Tryd.func45, Tryd.ntmps45
    go_wp2
    go_rounds 4
    exact bodyPost_ret (v := arr3 85 85 85) (by simp [arr3, results, Tryd.results45, go_sem]) rfl ⟨rfl, by go_grown⟩
  · go_enter Tryd.func45, Tryd.ntmps45
    go_wp2
    go_rounds 4
    exact bodyPost_ret (v := arr3 255 85 85) (by simp [arr3, results, Tryd.results45, go_sem]) rfl ⟨rfl, by go_grown⟩
  · go_enter Tryd.func45, Tryd.ntmps45
    go_wp2
    go_rounds 4
    exact bodyPost_ret (v := arr3 85 255 85) (by simp [arr3, results, Tryd.results45, go_sem]) rfl ⟨rfl, by go_grown⟩
  · go_enter Tryd.func45, Tryd.ntmps45
    go_wp2
    go_rounds 4
    exact bodyPost_ret (v := arr3 255 255 85) (by simp [arr3, results, Tryd.results45, go_sem]) rfl ⟨rfl, by go_grown⟩
  · go_enter Tryd.func45, Tryd.ntmps45
    go_wp2
    go_rounds 4
    exact bodyPost_ret (v := arr3 85 85 255) (by simp [arr3, results, Tryd.results45, go_sem]) rfl ⟨rfl, by go_grown⟩
  · go_enter Tryd.func45, Tryd.ntmps45
    go_wp2
    go_rounds 4
    exact bodyPost_ret (v := arr3 255 85 255) (by simp [arr3, results, Tryd.results45, go_sem]) rfl ⟨rfl, by go_grown⟩
  · go_enter Tryd.func45, Tryd.ntmps45
    go_wp2
    go_rounds 4
    exact bodyPost_ret (v := arr3 85 255 255) (by simp [arr3, results, Tryd.results45, go_sem]) rfl ⟨rfl, by go_grown⟩
  · go_enter Tryd.func45, Tryd.ntmps45
    go_wp2
    go_rounds 4
    exact bodyPost_ret (v := arr3 255 255 255) (by simp [arr3, results, Tryd.results45, go_sem]) rfl ⟨rfl, by go_grown⟩

theorem tint_place (n : Int) (h0 : 0 ≤ n) (h1 : n < 256) : Gives 45 #[.int .i64 n] (arr3 (pr n) (pg n) (pb n)) := by
  by_cases c : n < 16
  · exact tint_place_low n h0 c
  intro w
  by_cases c2 : n < 232
  · have H : Hid (pr n = lev ((n - 16) / 36) ∧ pg n = lev ((n - 16) / 6 % 6) ∧ pb n = lev ((n - 16) % 6)) := by
      unfold Hid pr pg pb
      rw [if_neg (by omega), if_neg c, if_pos c2, if_neg (by omega), if_neg c, if_pos c2, if_neg (by omega), if_neg c, if_pos c2]
      exact ⟨rfl, rfl, rfl⟩
    go_enter Tryd.func45, Tryd.ntmps45
    go_wp2_with (go_at_call 53; refine (tint_level _ (by omega) (by omega) _).mono ?_; rintro e w' ⟨rfl, rfl⟩)
    exact bodyPost_ret (v := arr3 (lev ((n - 16) / 36)) (lev ((n - 16) / 6 % 6)) (lev ((n - 16) % 6))) (by simp [arr3, results, Tryd.results45, go_sem]) rfl ⟨by rw [H.out.1, H.out.2.1, H.out.2.2], by go_grown⟩
  · have H : Hid (pr n = 8 + 10 * (n - 232) ∧ pg n = 8 + 10 * (n - 232) ∧ pb n = 8 + 10 * (n - 232)) := by
      unfold Hid pr pg pb
      rw [if_neg (by omega), if_neg c, if_neg c2, if_neg (by omega), if_neg c, if_neg c2, if_neg (by omega), if_neg c, if_neg c2]
      exact ⟨rfl, rfl, rfl⟩
    go_enter Tryd.func45, Tryd.ntmps45
    go_wp2
    exact bodyPost_ret (v := arr3 (8 + 10 * (n - 232)) (8 + 10 * (n - 232)) (8 + 10 * (n - 232))) (by simp [arr3, results, Tryd.results45, go_sem]) rfl ⟨by rw [H.out.1, H.out.2.1, H.out.2.2], by go_grown⟩

end Go.Proofs.YtkllilehdpdbdaaDoor
