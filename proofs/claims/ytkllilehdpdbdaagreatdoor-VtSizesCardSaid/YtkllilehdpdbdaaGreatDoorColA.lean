/- The walks of layer 5's functions on colours, channels and the palette: what each returns, as plain functions. -/
import Derived.Test.YtkllilehdpdbdaaGreatDoorBase
namespace Go.Proofs.YtkllilehdpdbdaaGreatDoor
open Go.RowKit

/-! ### plain -/
def rightB (c : Int) : Bool := decide (c = 0 ∨ c = 1 ∨ (256 ≤ c ∧ c < 512) ∨ (16777216 ≤ c ∧ c < 33554432))
def cnt (c : Int) : Int := if rightB c = true then c else 0


theorem tint_Right (c : Int) : Tells 163 #[.int .i32 c] (.bool (rightB c)) := by
  intro w
  by_cases h0 : c = 0
  · subst h0
    go_enter Tryz.func163, Tryz.ntmps163
    go_wp2
    go_ret
    exact ⟨rfl, rfl⟩
  by_cases h1 : c = 1
  · subst h1
    go_enter Tryz.func163, Tryz.ntmps163
    go_wp2
    go_ret
    exact ⟨rfl, rfl⟩
  by_cases h2 : 16777216 ≤ c
  · by_cases h3 : c < 33554432
    all_goals
      have H : Hid (rightB c = decide (c < 33554432)) := by unfold rightB Hid; rw [decide_eq_decide]; omega
      go_enter Tryz.func163, Tryz.ntmps163
      go_wp2
      go_ret
      exact ⟨ret_bool (by rw [H.out]; simp [h3]), rfl⟩
  · by_cases h3 : 256 ≤ c
    · by_cases h4 : c < 512
      all_goals
        have H : Hid (rightB c = decide (c < 512)) := by unfold rightB Hid; rw [decide_eq_decide]; omega
        go_enter Tryz.func163, Tryz.ntmps163
        go_wp2
        go_ret
        exact ⟨ret_bool (by rw [H.out]; simp [h4]), rfl⟩
    · have H : Hid (rightB c = false) := by unfold rightB Hid; rw [decide_eq_false_iff_not]; omega
      go_enter Tryz.func163, Tryz.ntmps163
      go_wp2
      go_ret
      exact ⟨ret_bool (by rw [H.out]), rfl⟩


/-! ### the palette -/
def lev (n : Int) : Int := if n = 0 then 0 else 55 + 40 * n
def bitOr (b lo hi : Int) : Int := if b = 1 then hi else lo
def pr (n : Int) : Int := if n < 8 then bitOr (n % 2) 0 170 else if n < 16 then bitOr (n % 2) 85 255 else if n < 232 then lev ((n - 16) / 36) else 8 + 10 * (n - 232)
def pg (n : Int) : Int := if n < 8 then bitOr (n / 2 % 2) 0 170 else if n < 16 then bitOr (n / 2 % 2) 85 255 else if n < 232 then lev ((n - 16) / 6 % 6) else 8 + 10 * (n - 232)
def pb (n : Int) : Int := if n < 8 then bitOr (n / 4 % 2) 0 170 else if n < 16 then bitOr (n / 4 % 2) 85 255 else if n < 232 then lev ((n - 16) % 6) else 8 + 10 * (n - 232)




end Go.Proofs.YtkllilehdpdbdaaGreatDoor
