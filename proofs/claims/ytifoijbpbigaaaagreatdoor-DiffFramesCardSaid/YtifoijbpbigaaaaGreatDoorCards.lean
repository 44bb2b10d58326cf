/-
  DERIVED. GIVEN WITH THE SEED: THE CARDS: each row of YtifoijbpbigaaaaGreatDoorRows.lean that lists a variable, with what it lists TIED to the program's text (the seventh form; the later family's looks); each row that meets fmt, with fmt's text TOLD by the authors' own Lean function (tested against real Go, not proved from fmt's source: count such statements apart). THE CARD IS WHAT COUNTS. Prove the row's statement (the work); the ties are given (YtifoijbpbigaaaaGreatDoorTie.lean); close each card by the builder's one call (the guide's Derived/Test/ToyasCard.lean, 'card_holds'). Laid BY PROGRAM, IN A SANDBOX (cutbox-door.mjs). By AI agents, Wed Nov 11 2026. No macro, syntax, notation, axiom, sorry.
-/
import Derived.Test.YtifoijbpbigaaaaGreatDoorRows
import GoSem.ClaimSeven
namespace Go.Proofs.YtifoijbpbigaaaaGreatDoor
namespace Rows

/-- THE TIED CARD OF 'frescolaw25.DiffReduced'. -/
def diffReducedCard : Claim7 := { stood := { row := diffReducedRow, standIns := [], harness := (true, "088b7801b5a346ba64e3a06051792764a781f1766be75ec439fd0f741e90db14"), looks := false }, kinds := [], alts := [], laidByText := true, laidKinds := [.data, .data, .data, .data, .data], laidTests := true, laidLooks := .later }
def DiffReducedCardSaid : Prop := Claim7.holds Tryz.pinned (.plain (OpenSpec.ofChange diffReducedSpec)) diffReducedCard

/-- THE TIED CARD OF 'frescolaw25.DiffChanged'. -/
def diffChangedCard : Claim7 := { stood := { row := diffChangedRow, standIns := [], harness := (true, "088b7801b5a346ba64e3a06051792764a781f1766be75ec439fd0f741e90db14"), looks := false }, kinds := [], alts := [], laidByText := true, laidKinds := [.data, .data, .data, .data, .data], laidTests := true, laidLooks := .later }
def DiffChangedCardSaid : Prop := Claim7.holds Tryz.pinned (.plain (OpenSpec.ofChange diffChangedSpec)) diffChangedCard

/-- THE TIED CARD OF 'frescolaw25.DiffFrames'. -/
def diffFramesCard : Claim7 := { stood := { row := diffFramesRow, standIns := [], harness := (true, "088b7801b5a346ba64e3a06051792764a781f1766be75ec439fd0f741e90db14"), looks := false }, kinds := [], alts := [], laidByText := true, laidKinds := [.data, .data, .data, .data, .data], laidTests := true, laidLooks := .later }
def DiffFramesCardSaid : Prop := Claim7.holds Tryz.pinned (.plain (OpenSpec.ofChange diffFramesSpec)) diffFramesCard

/-- THE SECOND FORM's CARD OF 'frescolaw25.DiffReduced'. -/
def diffReducedUptoCard : Claim7 := { stood := { row := diffReducedUptoRow, standIns := [], harness := (true, "088b7801b5a346ba64e3a06051792764a781f1766be75ec439fd0f741e90db14"), looks := false }, kinds := [], alts := [], laidByText := true, laidKinds := [.data, .data, .data, .data, .data], laidTests := true, laidLooks := .later }
def DiffReducedUptoCardSaid : Prop := Claim7.holds Tryz.pinned (.plain (OpenSpec.upto diffReducedSpec)) diffReducedUptoCard

/-- THE SECOND FORM's CARD OF 'frescolaw25.DiffChanged'. -/
def diffChangedUptoCard : Claim7 := { stood := { row := diffChangedUptoRow, standIns := [], harness := (true, "088b7801b5a346ba64e3a06051792764a781f1766be75ec439fd0f741e90db14"), looks := false }, kinds := [], alts := [], laidByText := true, laidKinds := [.data, .data, .data, .data, .data], laidTests := true, laidLooks := .later }
def DiffChangedUptoCardSaid : Prop := Claim7.holds Tryz.pinned (.plain (OpenSpec.upto diffChangedSpec)) diffChangedUptoCard

/-- THE SECOND FORM's CARD OF 'frescolaw25.DiffFrames'. -/
def diffFramesUptoCard : Claim7 := { stood := { row := diffFramesUptoRow, standIns := [], harness := (true, "088b7801b5a346ba64e3a06051792764a781f1766be75ec439fd0f741e90db14"), looks := false }, kinds := [], alts := [], laidByText := true, laidKinds := [.data, .data, .data, .data, .data], laidTests := true, laidLooks := .later }
def DiffFramesUptoCardSaid : Prop := Claim7.holds Tryz.pinned (.plain (OpenSpec.upto diffFramesSpec)) diffFramesUptoCard
end Rows
end Go.Proofs.YtifoijbpbigaaaaGreatDoor
