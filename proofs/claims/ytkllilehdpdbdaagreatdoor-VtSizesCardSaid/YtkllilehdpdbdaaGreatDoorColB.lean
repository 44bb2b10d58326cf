/- The walks of layer 5's functions on colours, channels and the palette, continued. -/
import Derived.Test.YtkllilehdpdbdaaGreatDoorColA
namespace Go.Proofs.YtkllilehdpdbdaaGreatDoor
open Go.RowKit

/-! ### channels -/
def hasC (c : Int) : Bool := decide ((256 ≤ c ∧ c < 512) ∨ (16777216 ≤ c ∧ c < 33554432))
def chR (c : Int) : Int := if 16777216 ≤ c ∧ c < 33554432 then c / 65536 % 256 else if 256 ≤ c ∧ c < 512 then pr (c - 256) else 0
def chG (c : Int) : Int := if 16777216 ≤ c ∧ c < 33554432 then c / 256 % 256 else if 256 ≤ c ∧ c < 512 then pg (c - 256) else 0
def chB (c : Int) : Int := if 16777216 ≤ c ∧ c < 33554432 then c % 256 else if 256 ≤ c ∧ c < 512 then pb (c - 256) else 0

end Go.Proofs.YtkllilehdpdbdaaGreatDoor
