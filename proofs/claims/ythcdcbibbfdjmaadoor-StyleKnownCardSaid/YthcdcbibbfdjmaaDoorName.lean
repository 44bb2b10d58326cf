/- The names of the first sixteen colours. -/
import Derived.Test.YthcdcbibbfdjmaaDoorColC
namespace Go.Proofs.YthcdcbibbfdjmaaDoor
open Go.RowKit

def nameB (n : Nat) : ByteArray := match n with
  | 0 => ⟨#[98, 108, 97, 99, 107]⟩
  | 1 => ⟨#[114, 101, 100]⟩
  | 2 => ⟨#[103, 114, 101, 101, 110]⟩
  | 3 => ⟨#[121, 101, 108, 108, 111, 119]⟩
  | 4 => ⟨#[98, 108, 117, 101]⟩
  | 5 => ⟨#[109, 97, 103, 101, 110, 116, 97]⟩
  | 6 => ⟨#[99, 121, 97, 110]⟩
  | 7 => ⟨#[119, 104, 105, 116, 101]⟩
  | 8 => ⟨#[98, 114, 105, 103, 104, 116, 45, 98, 108, 97, 99, 107]⟩
  | 9 => ⟨#[98, 114, 105, 103, 104, 116, 45, 114, 101, 100]⟩
  | 10 => ⟨#[98, 114, 105, 103, 104, 116, 45, 103, 114, 101, 101, 110]⟩
  | 11 => ⟨#[98, 114, 105, 103, 104, 116, 45, 121, 101, 108, 108, 111, 119]⟩
  | 12 => ⟨#[98, 114, 105, 103, 104, 116, 45, 98, 108, 117, 101]⟩
  | 13 => ⟨#[98, 114, 105, 103, 104, 116, 45, 109, 97, 103, 101, 110, 116, 97]⟩
  | 14 => ⟨#[98, 114, 105, 103, 104, 116, 45, 99, 121, 97, 110]⟩
  | 15 => ⟨#[98, 114, 105, 103, 104, 116, 45, 119, 104, 105, 116, 101]⟩
  | _ => ⟨#[]⟩

theorem ret_str {a b : ByteArray} (h : a = b) : Ending.returned (.string a) = .returned (.string b) := by rw [h]

theorem sixteen (n : Nat) (h : n < 16) : n = 0 ∨ n = 1 ∨ n = 2 ∨ n = 3 ∨ n = 4 ∨ n = 5 ∨ n = 6 ∨ n = 7 ∨ n = 8 ∨ n = 9 ∨ n = 10 ∨ n = 11 ∨ n = 12 ∨ n = 13 ∨ n = 14 ∨ n = 15 := by omega

set_option maxHeartbeats 4000000 in
theorem tint_name (n : Nat) (h : n < 16) : Gives 79 #[.int .i64 n] (.string (nameB n)) := by
  intro w
  rcases sixteen n h with rfl | rfl | rfl | rfl | rfl | rfl | rfl | rfl | rfl | rfl | rfl | rfl | rfl | rfl | rfl | rfl
  all_goals
    go_enter Tryd.func79, Tryd.ntmps79
    go_wp2
    go_ret
    exact ⟨rfl, by go_grown⟩

set_option maxHeartbeats 4000000 in
theorem ref_name (n : Nat) (h : n < 16) : Gives 89 #[.int .i64 n] (.string (nameB n)) := by
  intro w
  rcases sixteen n h with rfl | rfl | rfl | rfl | rfl | rfl | rfl | rfl | rfl | rfl | rfl | rfl | rfl | rfl | rfl | rfl
  all_goals
    go_enter Tryd.func89, Tryd.ntmps89
    go_wp2
    go_ret
    exact ⟨rfl, by go_grown⟩
end Go.Proofs.YthcdcbibbfdjmaaDoor
