/-
  DERIVED. GIVEN WITH THE SEED: THE CARDS: each row of YtkllilehdpdbdaaGreatDoorRows.lean that lists a variable, with what it lists TIED to the program's text (the seventh form; the later family's looks); each row that meets fmt, with fmt's text TOLD by the authors' own Lean function (tested against real Go, not proved from fmt's source: count such statements apart). THE CARD IS WHAT COUNTS. Prove the row's statement (the work); the ties are given (YtkllilehdpdbdaaGreatDoorTie.lean); close each card by the builder's one call (the guide's Derived/Test/ToyasCard.lean, 'card_holds'). Laid BY PROGRAM, IN A SANDBOX (cutbox-door.mjs). By AI agents, Wed Nov 11 2026. No macro, syntax, notation, axiom, sorry.
-/
import Derived.Test.YtkllilehdpdbdaaGreatDoorRows
import GoSem.ClaimSeven
namespace Go.Proofs.YtkllilehdpdbdaaGreatDoor
namespace Rows

/-- THE TIED CARD OF 'frescolaw26.VtAnswers'. -/
def vtAnswersCard : Claim7 := { stood := { row := vtAnswersRow, standIns := [], harness := (true, "80d864df783a08b3c66b33426e8568ad64738582dfa9717af3da30305f55f7bb"), looks := false }, kinds := [], alts := [], laidByText := true, laidKinds := [.data, .data, .data, .data, .data], laidTests := true, laidLooks := .later }
def VtAnswersCardSaid : Prop := Claim7.holds Tryz.pinned (.plain (OpenSpec.ofChange vtAnswersSpec)) vtAnswersCard

/-- THE TIED CARD OF 'frescolaw26.VtKnown'. -/
def vtKnownCard : Claim7 := { stood := { row := vtKnownRow, standIns := [], harness := (true, "80d864df783a08b3c66b33426e8568ad64738582dfa9717af3da30305f55f7bb"), looks := false }, kinds := [], alts := [], laidByText := true, laidKinds := [.data, .data, .data, .data, .data], laidTests := true, laidLooks := .later }
def VtKnownCardSaid : Prop := Claim7.holds Tryz.pinned (.plain (OpenSpec.ofChange vtKnownSpec)) vtKnownCard

/-- THE TIED CARD OF 'frescolaw26.VtPieces'. -/
def vtPiecesCard : Claim7 := { stood := { row := vtPiecesRow, standIns := [], harness := (true, "80d864df783a08b3c66b33426e8568ad64738582dfa9717af3da30305f55f7bb"), looks := false }, kinds := [], alts := [], laidByText := true, laidKinds := [.data, .data, .data, .data, .data], laidTests := true, laidLooks := .later }
def VtPiecesCardSaid : Prop := Claim7.holds Tryz.pinned (.plain (OpenSpec.ofChange vtPiecesSpec)) vtPiecesCard

/-- THE TIED CARD OF 'frescolaw26.VtReset'. -/
def vtResetCard : Claim7 := { stood := { row := vtResetRow, standIns := [], harness := (true, "80d864df783a08b3c66b33426e8568ad64738582dfa9717af3da30305f55f7bb"), looks := false }, kinds := [], alts := [], laidByText := true, laidKinds := [.data, .data, .data, .data, .data], laidTests := true, laidLooks := .later }
def VtResetCardSaid : Prop := Claim7.holds Tryz.pinned (.plain (OpenSpec.ofChange vtResetSpec)) vtResetCard

/-- THE TIED CARD OF 'frescolaw26.VtSizes'. -/
def vtSizesCard : Claim7 := { stood := { row := vtSizesRow, standIns := [], harness := (true, "80d864df783a08b3c66b33426e8568ad64738582dfa9717af3da30305f55f7bb"), looks := false }, kinds := [], alts := [], laidByText := true, laidKinds := [.data, .data, .data, .data, .data], laidTests := true, laidLooks := .later }
def VtSizesCardSaid : Prop := Claim7.holds Tryz.pinned (.plain (OpenSpec.ofChange vtSizesSpec)) vtSizesCard

/-- THE TIED CARD OF 'frescolaw26.VtClones'. -/
def vtClonesCard : Claim7 := { stood := { row := vtClonesRow, standIns := [], harness := (true, "80d864df783a08b3c66b33426e8568ad64738582dfa9717af3da30305f55f7bb"), looks := false }, kinds := [], alts := [], laidByText := true, laidKinds := [.data, .data, .data, .data, .data], laidTests := true, laidLooks := .later }
def VtClonesCardSaid : Prop := Claim7.holds Tryz.pinned (.plain (OpenSpec.ofChange vtClonesSpec)) vtClonesCard

/-- THE TIED CARD OF 'frescolaw26.VtLong'. -/
def vtLongCard : Claim7 := { stood := { row := vtLongRow, standIns := [], harness := (true, "80d864df783a08b3c66b33426e8568ad64738582dfa9717af3da30305f55f7bb"), looks := false }, kinds := [], alts := [], laidByText := true, laidKinds := [.data, .data, .data, .data, .data], laidTests := true, laidLooks := .later }
def VtLongCardSaid : Prop := Claim7.holds Tryz.pinned (.plain (OpenSpec.ofChange vtLongSpec)) vtLongCard

/-- THE TIED CARD OF 'frescolaw26.VtPlays'. -/
def vtPlaysCard : Claim7 := { stood := { row := vtPlaysRow, standIns := [], harness := (true, "80d864df783a08b3c66b33426e8568ad64738582dfa9717af3da30305f55f7bb"), looks := false }, kinds := [], alts := [], laidByText := true, laidKinds := [.data, .data, .data, .data, .data], laidTests := true, laidLooks := .later }
def VtPlaysCardSaid : Prop := Claim7.holds Tryz.pinned (.plain (OpenSpec.ofChange vtPlaysSpec)) vtPlaysCard

/-- THE TIED CARD OF 'frescolaw26.VtNil'. -/
def vtNilCard : Claim7 := { stood := { row := vtNilRow, standIns := [], harness := (true, "80d864df783a08b3c66b33426e8568ad64738582dfa9717af3da30305f55f7bb"), looks := false }, kinds := [], alts := [], laidByText := true, laidKinds := [.data, .data, .data, .data, .data], laidTests := true, laidLooks := .later }
def VtNilCardSaid : Prop := Claim7.holds Tryz.pinned (.plain (OpenSpec.ofChange vtNilSpec)) vtNilCard

/-- THE TIED CARD OF 'frescolaw26.VtRight'. -/
def vtRightCard : Claim7 := { stood := { row := vtRightRow, standIns := [], harness := (true, "80d864df783a08b3c66b33426e8568ad64738582dfa9717af3da30305f55f7bb"), looks := false }, kinds := [], alts := [], laidByText := true, laidKinds := [.data, .data, .data, .data, .data], laidTests := true, laidLooks := .later }
def VtRightCardSaid : Prop := Claim7.holds Tryz.pinned (.plain (OpenSpec.ofChange vtRightSpec)) vtRightCard

/-- THE TIED CARD OF 'frescolaw26.VtRow'. -/
def vtRowCard : Claim7 := { stood := { row := vtRowRow, standIns := [], harness := (true, "80d864df783a08b3c66b33426e8568ad64738582dfa9717af3da30305f55f7bb"), looks := false }, kinds := [], alts := [], laidByText := true, laidKinds := [.data, .data, .data, .data, .data], laidTests := true, laidLooks := .later }
def VtRowCardSaid : Prop := Claim7.holds Tryz.pinned (.plain (OpenSpec.ofChange vtRowSpec)) vtRowCard

/-- THE SECOND FORM's CARD OF 'frescolaw26.VtAnswers'. -/
def vtAnswersUptoCard : Claim7 := { stood := { row := vtAnswersUptoRow, standIns := [], harness := (true, "80d864df783a08b3c66b33426e8568ad64738582dfa9717af3da30305f55f7bb"), looks := false }, kinds := [], alts := [], laidByText := true, laidKinds := [.data, .data, .data, .data, .data], laidTests := true, laidLooks := .later }
def VtAnswersUptoCardSaid : Prop := Claim7.holds Tryz.pinned (.plain (OpenSpec.upto vtAnswersSpec)) vtAnswersUptoCard

/-- THE SECOND FORM's CARD OF 'frescolaw26.VtKnown'. -/
def vtKnownUptoCard : Claim7 := { stood := { row := vtKnownUptoRow, standIns := [], harness := (true, "80d864df783a08b3c66b33426e8568ad64738582dfa9717af3da30305f55f7bb"), looks := false }, kinds := [], alts := [], laidByText := true, laidKinds := [.data, .data, .data, .data, .data], laidTests := true, laidLooks := .later }
def VtKnownUptoCardSaid : Prop := Claim7.holds Tryz.pinned (.plain (OpenSpec.upto vtKnownSpec)) vtKnownUptoCard

/-- THE SECOND FORM's CARD OF 'frescolaw26.VtPieces'. -/
def vtPiecesUptoCard : Claim7 := { stood := { row := vtPiecesUptoRow, standIns := [], harness := (true, "80d864df783a08b3c66b33426e8568ad64738582dfa9717af3da30305f55f7bb"), looks := false }, kinds := [], alts := [], laidByText := true, laidKinds := [.data, .data, .data, .data, .data], laidTests := true, laidLooks := .later }
def VtPiecesUptoCardSaid : Prop := Claim7.holds Tryz.pinned (.plain (OpenSpec.upto vtPiecesSpec)) vtPiecesUptoCard

/-- THE SECOND FORM's CARD OF 'frescolaw26.VtReset'. -/
def vtResetUptoCard : Claim7 := { stood := { row := vtResetUptoRow, standIns := [], harness := (true, "80d864df783a08b3c66b33426e8568ad64738582dfa9717af3da30305f55f7bb"), looks := false }, kinds := [], alts := [], laidByText := true, laidKinds := [.data, .data, .data, .data, .data], laidTests := true, laidLooks := .later }
def VtResetUptoCardSaid : Prop := Claim7.holds Tryz.pinned (.plain (OpenSpec.upto vtResetSpec)) vtResetUptoCard

/-- THE SECOND FORM's CARD OF 'frescolaw26.VtSizes'. -/
def vtSizesUptoCard : Claim7 := { stood := { row := vtSizesUptoRow, standIns := [], harness := (true, "80d864df783a08b3c66b33426e8568ad64738582dfa9717af3da30305f55f7bb"), looks := false }, kinds := [], alts := [], laidByText := true, laidKinds := [.data, .data, .data, .data, .data], laidTests := true, laidLooks := .later }
def VtSizesUptoCardSaid : Prop := Claim7.holds Tryz.pinned (.plain (OpenSpec.upto vtSizesSpec)) vtSizesUptoCard

/-- THE SECOND FORM's CARD OF 'frescolaw26.VtClones'. -/
def vtClonesUptoCard : Claim7 := { stood := { row := vtClonesUptoRow, standIns := [], harness := (true, "80d864df783a08b3c66b33426e8568ad64738582dfa9717af3da30305f55f7bb"), looks := false }, kinds := [], alts := [], laidByText := true, laidKinds := [.data, .data, .data, .data, .data], laidTests := true, laidLooks := .later }
def VtClonesUptoCardSaid : Prop := Claim7.holds Tryz.pinned (.plain (OpenSpec.upto vtClonesSpec)) vtClonesUptoCard

/-- THE SECOND FORM's CARD OF 'frescolaw26.VtLong'. -/
def vtLongUptoCard : Claim7 := { stood := { row := vtLongUptoRow, standIns := [], harness := (true, "80d864df783a08b3c66b33426e8568ad64738582dfa9717af3da30305f55f7bb"), looks := false }, kinds := [], alts := [], laidByText := true, laidKinds := [.data, .data, .data, .data, .data], laidTests := true, laidLooks := .later }
def VtLongUptoCardSaid : Prop := Claim7.holds Tryz.pinned (.plain (OpenSpec.upto vtLongSpec)) vtLongUptoCard

/-- THE SECOND FORM's CARD OF 'frescolaw26.VtPlays'. -/
def vtPlaysUptoCard : Claim7 := { stood := { row := vtPlaysUptoRow, standIns := [], harness := (true, "80d864df783a08b3c66b33426e8568ad64738582dfa9717af3da30305f55f7bb"), looks := false }, kinds := [], alts := [], laidByText := true, laidKinds := [.data, .data, .data, .data, .data], laidTests := true, laidLooks := .later }
def VtPlaysUptoCardSaid : Prop := Claim7.holds Tryz.pinned (.plain (OpenSpec.upto vtPlaysSpec)) vtPlaysUptoCard

/-- THE SECOND FORM's CARD OF 'frescolaw26.VtNil'. -/
def vtNilUptoCard : Claim7 := { stood := { row := vtNilUptoRow, standIns := [], harness := (true, "80d864df783a08b3c66b33426e8568ad64738582dfa9717af3da30305f55f7bb"), looks := false }, kinds := [], alts := [], laidByText := true, laidKinds := [.data, .data, .data, .data, .data], laidTests := true, laidLooks := .later }
def VtNilUptoCardSaid : Prop := Claim7.holds Tryz.pinned (.plain (OpenSpec.upto vtNilSpec)) vtNilUptoCard

/-- THE SECOND FORM's CARD OF 'frescolaw26.VtRight'. -/
def vtRightUptoCard : Claim7 := { stood := { row := vtRightUptoRow, standIns := [], harness := (true, "80d864df783a08b3c66b33426e8568ad64738582dfa9717af3da30305f55f7bb"), looks := false }, kinds := [], alts := [], laidByText := true, laidKinds := [.data, .data, .data, .data, .data], laidTests := true, laidLooks := .later }
def VtRightUptoCardSaid : Prop := Claim7.holds Tryz.pinned (.plain (OpenSpec.upto vtRightSpec)) vtRightUptoCard

/-- THE SECOND FORM's CARD OF 'frescolaw26.VtRow'. -/
def vtRowUptoCard : Claim7 := { stood := { row := vtRowUptoRow, standIns := [], harness := (true, "80d864df783a08b3c66b33426e8568ad64738582dfa9717af3da30305f55f7bb"), looks := false }, kinds := [], alts := [], laidByText := true, laidKinds := [.data, .data, .data, .data, .data], laidTests := true, laidLooks := .later }
def VtRowUptoCardSaid : Prop := Claim7.holds Tryz.pinned (.plain (OpenSpec.upto vtRowSpec)) vtRowUptoCard
end Rows
end Go.Proofs.YtkllilehdpdbdaaGreatDoor
