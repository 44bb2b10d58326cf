/- TintTurns: the walk of the law. -/
import Derived.Test.YtpbpkdhdjdaiiaaHslW
import Derived.Test.YtpbpkdhdjdaiiaaHslR
namespace Go.Proofs.Ytpbpkdhdjdaiiaa
open Go.RowKit Flt

theorem tintTurns_walk (h s l : Nat) (wh : (Lit.float .f64 h).wf = true) (_ws : (Lit.float .f64 s).wf = true) (_wl : (Lit.float .f64 l).wf = true) (w : World) :
    Calls Try.prog 4 #[.float .f64 h, .float .f64 s, .float .f64 l] w fun e w' => e = .returned (.bool true) ∧ Below w.heap.size w w' := by
  have c1 := Lib.hid (tint_FromHSL h s l (word_bound h wh))
  have c2 := Lib.hid (ref_FromHSL h s l (word_bound h wh))
  clear wh _ws _wl
  go_enter Try.func4, Try.ntmps4
  go_wp2_with fail
  refine (c1.out _).mono ?_; rintro e w1 ⟨rfl, hb1⟩
  go_wp2_with fail
  refine (c2.out _).mono ?_; rintro e w' ⟨rfl, rfl⟩
  go_wp2_with fail
  go_ret
  exact ⟨rfl, hb1⟩
end Go.Proofs.Ytpbpkdhdjdaiiaa
