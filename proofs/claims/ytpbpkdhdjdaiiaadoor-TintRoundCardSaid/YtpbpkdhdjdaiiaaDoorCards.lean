/-
  DERIVED. GIVEN WITH THE SEED: THE CARDS: each row of YtpbpkdhdjdaiiaaDoorRows.lean that lists a variable, with what it lists TIED to the program's text (the seventh form; the later family's looks); each row that meets fmt, with fmt's text TOLD by the authors' own Lean function (tested against real Go, not proved from fmt's source: count such statements apart). THE CARD IS WHAT COUNTS. Prove the row's statement (the work); the ties are given (YtpbpkdhdjdaiiaaDoorTie.lean); close each card by the builder's one call (the guide's Derived/Test/ToyasCard.lean, 'card_holds'). Laid BY PROGRAM, IN A SANDBOX (cutbox-door.mjs). By AI agents, Wed Nov 11 2026. No macro, syntax, notation, axiom, sorry.
-/
import Derived.Test.YtpbpkdhdjdaiiaaDoorRows
import GoSem.ClaimSeven
namespace Go.Proofs.YtpbpkdhdjdaiiaaDoor
namespace Rows

/-- THE TIED CARD OF 'frescolaw05.TintTells'. -/
def tintTellsCard : Claim7 := { stood := { row := tintTellsRow, standIns := [], harness := (true, "5c8b7513bfd592853c7267bd2b55e284894e1be738751bdaee215ff2bbc91255"), looks := true }, kinds := [], alts := [], laidByText := true, laidKinds := [.data, .data, .data], laidTests := true, laidLooks := .later }
def TintTellsCardSaid : Prop := Claim7.holds Tryd.pinned (.plain (OpenSpec.ofChange tintTellsSpec)) tintTellsCard

/-- THE TIED CARD OF 'frescolaw05.TintParses'. -/
def tintParsesCard : Claim7 := { stood := { row := tintParsesRow, standIns := [], harness := (true, "5c8b7513bfd592853c7267bd2b55e284894e1be738751bdaee215ff2bbc91255"), looks := true }, kinds := [], alts := [], laidByText := true, laidKinds := [.data, .data, .data, .sentinel, .sentinel], laidTests := true, laidLooks := .later }
def TintParsesCardSaid : Prop := Claim7.holds Tryd.pinned (.plain (OpenSpec.ofChange tintParsesSpec)) tintParsesCard

/-- THE TIED CARD OF 'frescolaw05.TintBack'. -/
def tintBackCard : Claim7 := { stood := { row := tintBackRow, standIns := [], harness := (true, "5c8b7513bfd592853c7267bd2b55e284894e1be738751bdaee215ff2bbc91255"), looks := true }, kinds := [], alts := [], laidByText := true, laidKinds := [.data, .data, .data, .sentinel, .sentinel], laidTests := true, laidLooks := .later }
def TintBackCardSaid : Prop := Claim7.holds Tryd.pinned (.plain (OpenSpec.ofChange tintBackSpec)) tintBackCard

/-- THE TIED CARD OF 'frescolaw05.TintNear'. -/
def tintNearCard : Claim7 := { stood := { row := tintNearRow, standIns := [], harness := (true, "5c8b7513bfd592853c7267bd2b55e284894e1be738751bdaee215ff2bbc91255"), looks := true }, kinds := [], alts := [], laidByText := true, laidKinds := [.data, .data, .data, .sentinel, .sentinel], laidTests := true, laidLooks := .later }
def TintNearCardSaid : Prop := Claim7.holds Tryd.pinned (.plain (OpenSpec.ofChange tintNearSpec)) tintNearCard

/-- THE TIED CARD OF 'frescolaw05.TintFair'. -/
def tintFairCard : Claim7 := { stood := { row := tintFairRow, standIns := [], harness := (true, "5c8b7513bfd592853c7267bd2b55e284894e1be738751bdaee215ff2bbc91255"), looks := true }, kinds := [], alts := [], laidByText := true, laidKinds := [.data, .data, .data, .sentinel, .sentinel], laidTests := true, laidLooks := .later }
def TintFairCardSaid : Prop := Claim7.holds Tryd.pinned (.plain (OpenSpec.ofChange tintFairSpec)) tintFairCard

/-- THE TIED CARD OF 'frescolaw05.TintBetween'. -/
def tintBetweenCard : Claim7 := { stood := { row := tintBetweenRow, standIns := [], harness := (true, "5c8b7513bfd592853c7267bd2b55e284894e1be738751bdaee215ff2bbc91255"), looks := true }, kinds := [], alts := [], laidByText := true, laidKinds := [.data, .data, .data, .sentinel, .sentinel], laidTests := true, laidLooks := .later }
def TintBetweenCardSaid : Prop := Claim7.holds Tryd.pinned (.plain (OpenSpec.ofChange tintBetweenSpec)) tintBetweenCard

/-- THE TIED CARD OF 'frescolaw05.TintRamps'. -/
def tintRampsCard : Claim7 := { stood := { row := tintRampsRow, standIns := [], harness := (true, "5c8b7513bfd592853c7267bd2b55e284894e1be738751bdaee215ff2bbc91255"), looks := true }, kinds := [], alts := [], laidByText := true, laidKinds := [.data, .data, .data, .sentinel, .sentinel], laidTests := true, laidLooks := .later }
def TintRampsCardSaid : Prop := Claim7.holds Tryd.pinned (.plain (OpenSpec.ofChange tintRampsSpec)) tintRampsCard

/-- THE TIED CARD OF 'frescolaw05.TintEnds'. -/
def tintEndsCard : Claim7 := { stood := { row := tintEndsRow, standIns := [], harness := (true, "5c8b7513bfd592853c7267bd2b55e284894e1be738751bdaee215ff2bbc91255"), looks := true }, kinds := [], alts := [], laidByText := true, laidKinds := [.data, .data, .data, .sentinel, .sentinel], laidTests := true, laidLooks := .later }
def TintEndsCardSaid : Prop := Claim7.holds Tryd.pinned (.plain (OpenSpec.ofChange tintEndsSpec)) tintEndsCard

/-- THE TIED CARD OF 'frescolaw05.TintRound'. -/
def tintRoundCard : Claim7 := { stood := { row := tintRoundRow, standIns := [], harness := (true, "5c8b7513bfd592853c7267bd2b55e284894e1be738751bdaee215ff2bbc91255"), looks := true }, kinds := [], alts := [], laidByText := true, laidKinds := [.data, .data, .data, .sentinel, .sentinel], laidTests := true, laidLooks := .later }
def TintRoundCardSaid : Prop := Claim7.holds Tryd.pinned (.plain (OpenSpec.ofChange tintRoundSpec)) tintRoundCard

/-- THE TIED CARD OF 'frescolaw05.TintKnown'. -/
def tintKnownCard : Claim7 := { stood := { row := tintKnownRow, standIns := [], harness := (true, "5c8b7513bfd592853c7267bd2b55e284894e1be738751bdaee215ff2bbc91255"), looks := true }, kinds := [], alts := [], laidByText := true, laidKinds := [.data, .data, .data, .sentinel, .sentinel], laidTests := true, laidLooks := .later }
def TintKnownCardSaid : Prop := Claim7.holds Tryd.pinned (.plain (OpenSpec.ofChange tintKnownSpec)) tintKnownCard

/-- THE SECOND FORM's CARD OF 'frescolaw05.TintTells'. -/
def tintTellsUptoCard : Claim7 := { stood := { row := tintTellsUptoRow, standIns := [], harness := (true, "5c8b7513bfd592853c7267bd2b55e284894e1be738751bdaee215ff2bbc91255"), looks := true }, kinds := [], alts := [], laidByText := true, laidKinds := [.data, .data, .data], laidTests := true, laidLooks := .later }
def TintTellsUptoCardSaid : Prop := Claim7.holds Tryd.pinned (.plain (OpenSpec.upto tintTellsSpec)) tintTellsUptoCard

/-- THE SECOND FORM's CARD OF 'frescolaw05.TintParses'. -/
def tintParsesUptoCard : Claim7 := { stood := { row := tintParsesUptoRow, standIns := [], harness := (true, "5c8b7513bfd592853c7267bd2b55e284894e1be738751bdaee215ff2bbc91255"), looks := true }, kinds := [], alts := [], laidByText := true, laidKinds := [.data, .data, .data, .sentinel, .sentinel], laidTests := true, laidLooks := .later }
def TintParsesUptoCardSaid : Prop := Claim7.holds Tryd.pinned (.plain (OpenSpec.upto tintParsesSpec)) tintParsesUptoCard

/-- THE SECOND FORM's CARD OF 'frescolaw05.TintBack'. -/
def tintBackUptoCard : Claim7 := { stood := { row := tintBackUptoRow, standIns := [], harness := (true, "5c8b7513bfd592853c7267bd2b55e284894e1be738751bdaee215ff2bbc91255"), looks := true }, kinds := [], alts := [], laidByText := true, laidKinds := [.data, .data, .data, .sentinel, .sentinel], laidTests := true, laidLooks := .later }
def TintBackUptoCardSaid : Prop := Claim7.holds Tryd.pinned (.plain (OpenSpec.upto tintBackSpec)) tintBackUptoCard

/-- THE SECOND FORM's CARD OF 'frescolaw05.TintNear'. -/
def tintNearUptoCard : Claim7 := { stood := { row := tintNearUptoRow, standIns := [], harness := (true, "5c8b7513bfd592853c7267bd2b55e284894e1be738751bdaee215ff2bbc91255"), looks := true }, kinds := [], alts := [], laidByText := true, laidKinds := [.data, .data, .data, .sentinel, .sentinel], laidTests := true, laidLooks := .later }
def TintNearUptoCardSaid : Prop := Claim7.holds Tryd.pinned (.plain (OpenSpec.upto tintNearSpec)) tintNearUptoCard

/-- THE SECOND FORM's CARD OF 'frescolaw05.TintFair'. -/
def tintFairUptoCard : Claim7 := { stood := { row := tintFairUptoRow, standIns := [], harness := (true, "5c8b7513bfd592853c7267bd2b55e284894e1be738751bdaee215ff2bbc91255"), looks := true }, kinds := [], alts := [], laidByText := true, laidKinds := [.data, .data, .data, .sentinel, .sentinel], laidTests := true, laidLooks := .later }
def TintFairUptoCardSaid : Prop := Claim7.holds Tryd.pinned (.plain (OpenSpec.upto tintFairSpec)) tintFairUptoCard

/-- THE SECOND FORM's CARD OF 'frescolaw05.TintBetween'. -/
def tintBetweenUptoCard : Claim7 := { stood := { row := tintBetweenUptoRow, standIns := [], harness := (true, "5c8b7513bfd592853c7267bd2b55e284894e1be738751bdaee215ff2bbc91255"), looks := true }, kinds := [], alts := [], laidByText := true, laidKinds := [.data, .data, .data, .sentinel, .sentinel], laidTests := true, laidLooks := .later }
def TintBetweenUptoCardSaid : Prop := Claim7.holds Tryd.pinned (.plain (OpenSpec.upto tintBetweenSpec)) tintBetweenUptoCard

/-- THE SECOND FORM's CARD OF 'frescolaw05.TintRamps'. -/
def tintRampsUptoCard : Claim7 := { stood := { row := tintRampsUptoRow, standIns := [], harness := (true, "5c8b7513bfd592853c7267bd2b55e284894e1be738751bdaee215ff2bbc91255"), looks := true }, kinds := [], alts := [], laidByText := true, laidKinds := [.data, .data, .data, .sentinel, .sentinel], laidTests := true, laidLooks := .later }
def TintRampsUptoCardSaid : Prop := Claim7.holds Tryd.pinned (.plain (OpenSpec.upto tintRampsSpec)) tintRampsUptoCard

/-- THE SECOND FORM's CARD OF 'frescolaw05.TintEnds'. -/
def tintEndsUptoCard : Claim7 := { stood := { row := tintEndsUptoRow, standIns := [], harness := (true, "5c8b7513bfd592853c7267bd2b55e284894e1be738751bdaee215ff2bbc91255"), looks := true }, kinds := [], alts := [], laidByText := true, laidKinds := [.data, .data, .data, .sentinel, .sentinel], laidTests := true, laidLooks := .later }
def TintEndsUptoCardSaid : Prop := Claim7.holds Tryd.pinned (.plain (OpenSpec.upto tintEndsSpec)) tintEndsUptoCard

/-- THE SECOND FORM's CARD OF 'frescolaw05.TintRound'. -/
def tintRoundUptoCard : Claim7 := { stood := { row := tintRoundUptoRow, standIns := [], harness := (true, "5c8b7513bfd592853c7267bd2b55e284894e1be738751bdaee215ff2bbc91255"), looks := true }, kinds := [], alts := [], laidByText := true, laidKinds := [.data, .data, .data, .sentinel, .sentinel], laidTests := true, laidLooks := .later }
def TintRoundUptoCardSaid : Prop := Claim7.holds Tryd.pinned (.plain (OpenSpec.upto tintRoundSpec)) tintRoundUptoCard

/-- THE SECOND FORM's CARD OF 'frescolaw05.TintKnown'. -/
def tintKnownUptoCard : Claim7 := { stood := { row := tintKnownUptoRow, standIns := [], harness := (true, "5c8b7513bfd592853c7267bd2b55e284894e1be738751bdaee215ff2bbc91255"), looks := true }, kinds := [], alts := [], laidByText := true, laidKinds := [.data, .data, .data, .sentinel, .sentinel], laidTests := true, laidLooks := .later }
def TintKnownUptoCardSaid : Prop := Claim7.holds Tryd.pinned (.plain (OpenSpec.upto tintKnownSpec)) tintKnownUptoCard
end Rows
end Go.Proofs.YtpbpkdhdjdaiiaaDoor
