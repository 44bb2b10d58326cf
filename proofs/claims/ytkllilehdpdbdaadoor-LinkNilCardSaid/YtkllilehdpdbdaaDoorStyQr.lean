/- A style made poorer: the walk of the reference. -/
import Derived.Test.YtkllilehdpdbdaaDoorStyO
import Derived.Test.YtkllilehdpdbdaaDoorStyR
namespace Go.Proofs.YtkllilehdpdbdaaDoor
open Go.RowKit Go.Sort
set_option linter.unusedVariables false

theorem below_put3 {B b : Nat} {a w : World} (h : Below B a w) (hb : B ≤ b) (x y z : Value) : Below B a (((w.setCell ⟨b, 0, none⟩ x).setCell ⟨b, 1, none⟩ y).setCell ⟨b, 2, none⟩ z) := ((h.setCell (p := ⟨b, 0, none⟩) hb x).setCell (p := ⟨b, 1, none⟩) hb y).setCell (p := ⟨b, 2, none⟩) hb z
theorem Gives.to {k : Nat} {args : Array Value} {u v : Value} (h : Gives k args u) (e : u = v) : Gives k args v := e ▸ h


theorem col32_of (c : Int) (h : inSty c) : col32 c := by rcases h with rfl | h | h <;> exact ⟨by omega, by omega⟩

end Go.Proofs.YtkllilehdpdbdaaDoor
