/-
  DERIVED. GIVEN WITH THE SEED: THE CARDS: each row of YtkllilehdpdbdaaDoorRows.lean that lists a variable, with what it lists TIED to the program's text (the seventh form; the later family's looks); each row that meets fmt, with fmt's text TOLD by the authors' own Lean function (tested against real Go, not proved from fmt's source: count such statements apart). THE CARD IS WHAT COUNTS. Prove the row's statement (the work); the ties are given (YtkllilehdpdbdaaDoorTie.lean); close each card by the builder's one call (the guide's Derived/Test/ToyasCard.lean, 'card_holds'). Laid BY PROGRAM, IN A SANDBOX (cutbox-door.mjs). By AI agents, Wed Nov 11 2026. No macro, syntax, notation, axiom, sorry.
-/
import Derived.Test.YtkllilehdpdbdaaDoorRows
import GoSem.ClaimSeven
namespace Go.Proofs.YtkllilehdpdbdaaDoor
namespace Rows

/-- THE TIED CARD OF 'frescolaw29.LinkNil'. -/
def linkNilCard : Claim7 := { stood := { row := linkNilRow, standIns := [], harness := (true, "eec904d892ae3f93f166721093b936affb1106704d08918dac1f9f15b4092999"), looks := false }, kinds := [], alts := [], laidByText := true, laidKinds := [.data, .data, .data, .data, .data], laidTests := true, laidLooks := .later }
def LinkNilCardSaid : Prop := Claim7.holds Tryd.pinned (.plain (OpenSpec.ofChange linkNilSpec)) linkNilCard

/-- THE SECOND FORM's CARD OF 'frescolaw29.LinkNil'. -/
def linkNilUptoCard : Claim7 := { stood := { row := linkNilUptoRow, standIns := [], harness := (true, "eec904d892ae3f93f166721093b936affb1106704d08918dac1f9f15b4092999"), looks := false }, kinds := [], alts := [], laidByText := true, laidKinds := [.data, .data, .data, .data, .data], laidTests := true, laidLooks := .later }
def LinkNilUptoCardSaid : Prop := Claim7.holds Tryd.pinned (.plain (OpenSpec.upto linkNilSpec)) linkNilUptoCard
end Rows
end Go.Proofs.YtkllilehdpdbdaaDoor
