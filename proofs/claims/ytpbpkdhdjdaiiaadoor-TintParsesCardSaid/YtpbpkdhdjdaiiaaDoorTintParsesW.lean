/- TintParses: the walk of the law. -/
import Derived.Test.YtpbpkdhdjdaiiaaDoorParR
namespace Go.Proofs.YtpbpkdhdjdaiiaaDoor.tintParses
open Go.RowKit

set_option maxHeartbeats 4000000 in
theorem tintParses_walk (s : ByteArray) (hs : s.size ≤ 281474976710656) (w : World) (E : Env w) :
    Calls Tryd.prog 4 #[.string s] w fun e w' => e = .returned (.bool true) ∧ Below w.heap.size w w' := by
  obtain ⟨r, hr⟩ := Word.some_one s
  have R := Lib.hid (ref_Parse s r hr)
  have T := Lib.hid (tint_Parse s hs r hr)
  have E := Lib.hid E
  clear hs hr
  cases r with
  | none =>
    go_enter Tryd.func4, Tryd.ntmps4
    go_wp2_with fail
    refine (R.out _).mono ?_; rintro e w1 ⟨rfl, h1⟩
    simp only [parEnd]
    go_wp2_with fail
    refine (T.out w1 (E.out.of_below h1 (Nat.le_refl _))).mono ?_; rintro e w2 ⟨rfl, h2⟩
    have h3 := below_call h1 h1.size h2
    simp only [parEnd]
    go_wp2_with fail
    go_ret
    exact ⟨rfl, h3⟩
  | some c =>
    go_enter Tryd.func4, Tryd.ntmps4
    go_wp2_with fail
    refine (R.out _).mono ?_; rintro e w1 ⟨rfl, h1⟩
    simp only [parEnd]
    go_wp2_with fail
    refine (T.out w1 (E.out.of_below h1 (Nat.le_refl _))).mono ?_; rintro e w2 ⟨rfl, h2⟩
    have h3 := below_call h1 h1.size h2
    simp only [parEnd]
    go_wp2_with fail
    go_ret
    exact ⟨rfl, h3⟩
end Go.Proofs.YtpbpkdhdjdaiiaaDoor.tintParses
