/- TintMixes: the walk of the law. -/
import Derived.Test.YtpbpkdhdjdaiiaaMixY
import Derived.Test.YtpbpkdhdjdaiiaaLight
namespace Go.Proofs.Ytpbpkdhdjdaiiaa
open Go.RowKit Flt

theorem i32_bounds {a : Int} (h : (Lit.int .i32 a).wf = true) : -2147483648 ≤ a ∧ a ≤ 2147483647 := by
  have := bounds_i32 h
  omega

theorem tintMixes_walk (a b : Int) (t : Nat) (wa : (Lit.int .i32 a).wf = true) (wb : (Lit.int .i32 b).wf = true) (_wt : (Lit.float .f64 t).wf = true) (w : World) :
    Calls Try.prog 3 #[.int .i32 a, .int .i32 b, .float .f64 t] w fun e w' => e = .returned (.bool true) ∧ Below w.heap.size w w' := by
  obtain ⟨ha, ha'⟩ := i32_bounds wa
  obtain ⟨hb, hb'⟩ := i32_bounds wb
  obtain ⟨f1, f2, ev⟩ := cont_eq a b
  have ho : (FloatKind.f64.format.order (contT a b) (contR a b) == some .eq) = true := (order_same f1 f2).2 ev
  clear ev f1 f2 _wt wa wb
  go_enter Try.func3, Try.ntmps3
  go_wp2_with fail
  refine (tint_Mix _ _ _ _).mono ?_; rintro e w1 ⟨rfl, hb1⟩
  go_wp2_with fail
  refine (ref_Mix _ _ _ ha ha' hb hb' _).mono ?_; rintro e w2 ⟨rfl, hb2⟩
  have hw2 : Below w.heap.size w w2 := below_call hb1 hb1.size hb2
  clear hb1 hb2
  go_wp2_with fail
  refine (tint_Contrast _ _ _).mono ?_; rintro e w3 ⟨rfl, hb3⟩
  have hw3 : Below w.heap.size w w3 := below_call hw2 hw2.size hb3
  clear hw2 hb3
  go_wp2_with fail
  refine (ref_Contrast _ _ ha ha' hb hb' _).mono ?_; rintro e w4 ⟨rfl, hb4⟩
  have hw4 : Below w.heap.size w w4 := below_call hw3 hw3.size hb4
  clear hw3 hb4
  go_wp2_with fail
  go_ret
  exact ⟨rfl, hw4⟩
end Go.Proofs.Ytpbpkdhdjdaiiaa
