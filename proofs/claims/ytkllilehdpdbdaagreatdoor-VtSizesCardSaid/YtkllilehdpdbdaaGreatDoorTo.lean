/- The colours as 256 and as 16 colours have them. -/
import Derived.Test.YtkllilehdpdbdaaGreatDoorNearA
namespace Go.Proofs.YtkllilehdpdbdaaGreatDoor
open Go.RowKit

def to256V (c : Int) : Int := if 16777216 ≤ c ∧ c < 33554432 then 256 + bst (palD (chR c) (chG c) (chB c)) 16 240 else cnt c
def to16V (c : Int) : Int := if (16777216 ≤ c ∧ c < 33554432) ∨ (272 ≤ c ∧ c < 512) then 256 + bst (palD (chR c) (chG c) (chB c)) 0 16 else cnt c




end Go.Proofs.YtkllilehdpdbdaaGreatDoor
