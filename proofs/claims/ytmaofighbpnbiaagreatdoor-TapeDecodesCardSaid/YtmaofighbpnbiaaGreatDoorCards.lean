/-
  DERIVED. GIVEN WITH THE SEED: THE CARDS: each row of YtmaofighbpnbiaaGreatDoorRows.lean that lists a variable, with what it lists TIED to the program's text (the seventh form; the later family's looks); each row that meets fmt, with fmt's text TOLD by the authors' own Lean function (tested against real Go, not proved from fmt's source: count such statements apart). THE CARD IS WHAT COUNTS. Prove the row's statement (the work); the ties are given (YtmaofighbpnbiaaGreatDoorTie.lean); close each card by the builder's one call (the guide's Derived/Test/ToyasCard.lean, 'card_holds'). Laid BY PROGRAM, IN A SANDBOX (cutbox-door.mjs). By AI agents, Wed Nov 11 2026. No macro, syntax, notation, axiom, sorry.
-/
import Derived.Test.YtmaofighbpnbiaaGreatDoorRows
import GoSem.ClaimSeven
namespace Go.Proofs.YtmaofighbpnbiaaGreatDoor
namespace Rows

/-- THE TIED CARD OF 'frescolaw30.TapeEncodes'. -/
def tapeEncodesCard : Claim7 := { stood := { row := tapeEncodesRow, standIns := [], harness := (true, "a2f6edaa87b4374f5c2e7a20bc7e62ac4461e1c8a54722f7227b96de9cbfa238"), looks := false }, kinds := [], alts := [], laidByText := true, laidKinds := [.data, .data, .data, .data, .data], laidTests := true, laidLooks := .later }
def TapeEncodesCardSaid : Prop := Claim7.holds Tryz.pinned (.plain (OpenSpec.ofChange tapeEncodesSpec)) tapeEncodesCard

/-- THE TIED CARD OF 'frescolaw30.TapeDecodes'. -/
def tapeDecodesCard : Claim7 := { stood := { row := tapeDecodesRow, standIns := [], harness := (true, "a2f6edaa87b4374f5c2e7a20bc7e62ac4461e1c8a54722f7227b96de9cbfa238"), looks := false }, kinds := [], alts := [], laidByText := true, laidKinds := [.data, .data, .data, .data, .data], laidTests := true, laidLooks := .later }
def TapeDecodesCardSaid : Prop := Claim7.holds Tryz.pinned (.plain (OpenSpec.ofChange tapeDecodesSpec)) tapeDecodesCard

/-- THE TIED CARD OF 'frescolaw30.TapeBack'. -/
def tapeBackCard : Claim7 := { stood := { row := tapeBackRow, standIns := [], harness := (true, "a2f6edaa87b4374f5c2e7a20bc7e62ac4461e1c8a54722f7227b96de9cbfa238"), looks := false }, kinds := [], alts := [], laidByText := true, laidKinds := [.data, .data, .data, .data, .data], laidTests := true, laidLooks := .later }
def TapeBackCardSaid : Prop := Claim7.holds Tryz.pinned (.plain (OpenSpec.ofChange tapeBackSpec)) tapeBackCard

/-- THE TIED CARD OF 'frescolaw30.TapeAnywhere'. -/
def tapeAnywhereCard : Claim7 := { stood := { row := tapeAnywhereRow, standIns := [], harness := (true, "a2f6edaa87b4374f5c2e7a20bc7e62ac4461e1c8a54722f7227b96de9cbfa238"), looks := false }, kinds := [], alts := [], laidByText := true, laidKinds := [.data, .data, .data, .data, .data], laidTests := true, laidLooks := .later }
def TapeAnywhereCardSaid : Prop := Claim7.holds Tryz.pinned (.plain (OpenSpec.ofChange tapeAnywhereSpec)) tapeAnywhereCard

/-- THE TIED CARD OF 'frescolaw30.TapeNone'. -/
def tapeNoneCard : Claim7 := { stood := { row := tapeNoneRow, standIns := [], harness := (true, "a2f6edaa87b4374f5c2e7a20bc7e62ac4461e1c8a54722f7227b96de9cbfa238"), looks := false }, kinds := [], alts := [], laidByText := true, laidKinds := [.data, .data, .data, .data, .data], laidTests := true, laidLooks := .later }
def TapeNoneCardSaid : Prop := Claim7.holds Tryz.pinned (.plain (OpenSpec.ofChange tapeNoneSpec)) tapeNoneCard

/-- THE TIED CARD OF 'frescolaw30.TapeKnown'. -/
def tapeKnownCard : Claim7 := { stood := { row := tapeKnownRow, standIns := [], harness := (true, "a2f6edaa87b4374f5c2e7a20bc7e62ac4461e1c8a54722f7227b96de9cbfa238"), looks := false }, kinds := [], alts := [], laidByText := true, laidKinds := [.data, .data, .data, .data, .data], laidTests := true, laidLooks := .later }
def TapeKnownCardSaid : Prop := Claim7.holds Tryz.pinned (.plain (OpenSpec.ofChange tapeKnownSpec)) tapeKnownCard

/-- THE TIED CARD OF 'frescolaw30.TapeSqueezes'. -/
def tapeSqueezesCard : Claim7 := { stood := { row := tapeSqueezesRow, standIns := [], harness := (true, "a2f6edaa87b4374f5c2e7a20bc7e62ac4461e1c8a54722f7227b96de9cbfa238"), looks := false }, kinds := [], alts := [], laidByText := true, laidKinds := [.data, .data, .data, .data, .data], laidTests := true, laidLooks := .later }
def TapeSqueezesCardSaid : Prop := Claim7.holds Tryz.pinned (.plain (OpenSpec.ofChange tapeSqueezesSpec)) tapeSqueezesCard

/-- THE TIED CARD OF 'frescolaw30.TapePauses'. -/
def tapePausesCard : Claim7 := { stood := { row := tapePausesRow, standIns := [], harness := (true, "a2f6edaa87b4374f5c2e7a20bc7e62ac4461e1c8a54722f7227b96de9cbfa238"), looks := false }, kinds := [], alts := [], laidByText := true, laidKinds := [.data, .data, .data, .data, .data], laidTests := true, laidLooks := .later }
def TapePausesCardSaid : Prop := Claim7.holds Tryz.pinned (.plain (OpenSpec.ofChange tapePausesSpec)) tapePausesCard

/-- THE TIED CARD OF 'frescolaw30.TapeJoins'. -/
def tapeJoinsCard : Claim7 := { stood := { row := tapeJoinsRow, standIns := [], harness := (true, "a2f6edaa87b4374f5c2e7a20bc7e62ac4461e1c8a54722f7227b96de9cbfa238"), looks := false }, kinds := [], alts := [], laidByText := true, laidKinds := [.data, .data, .data, .data, .data], laidTests := true, laidLooks := .later }
def TapeJoinsCardSaid : Prop := Claim7.holds Tryz.pinned (.plain (OpenSpec.ofChange tapeJoinsSpec)) tapeJoinsCard

/-- THE TIED CARD OF 'frescolaw30.TapeJoined'. -/
def tapeJoinedCard : Claim7 := { stood := { row := tapeJoinedRow, standIns := [], harness := (true, "a2f6edaa87b4374f5c2e7a20bc7e62ac4461e1c8a54722f7227b96de9cbfa238"), looks := false }, kinds := [], alts := [], laidByText := true, laidKinds := [.data, .data, .data, .data, .data], laidTests := true, laidLooks := .later }
def TapeJoinedCardSaid : Prop := Claim7.holds Tryz.pinned (.plain (OpenSpec.ofChange tapeJoinedSpec)) tapeJoinedCard

/-- THE SECOND FORM's CARD OF 'frescolaw30.TapeEncodes'. -/
def tapeEncodesUptoCard : Claim7 := { stood := { row := tapeEncodesUptoRow, standIns := [], harness := (true, "a2f6edaa87b4374f5c2e7a20bc7e62ac4461e1c8a54722f7227b96de9cbfa238"), looks := false }, kinds := [], alts := [], laidByText := true, laidKinds := [.data, .data, .data, .data, .data], laidTests := true, laidLooks := .later }
def TapeEncodesUptoCardSaid : Prop := Claim7.holds Tryz.pinned (.plain (OpenSpec.upto tapeEncodesSpec)) tapeEncodesUptoCard

/-- THE SECOND FORM's CARD OF 'frescolaw30.TapeDecodes'. -/
def tapeDecodesUptoCard : Claim7 := { stood := { row := tapeDecodesUptoRow, standIns := [], harness := (true, "a2f6edaa87b4374f5c2e7a20bc7e62ac4461e1c8a54722f7227b96de9cbfa238"), looks := false }, kinds := [], alts := [], laidByText := true, laidKinds := [.data, .data, .data, .data, .data], laidTests := true, laidLooks := .later }
def TapeDecodesUptoCardSaid : Prop := Claim7.holds Tryz.pinned (.plain (OpenSpec.upto tapeDecodesSpec)) tapeDecodesUptoCard

/-- THE SECOND FORM's CARD OF 'frescolaw30.TapeBack'. -/
def tapeBackUptoCard : Claim7 := { stood := { row := tapeBackUptoRow, standIns := [], harness := (true, "a2f6edaa87b4374f5c2e7a20bc7e62ac4461e1c8a54722f7227b96de9cbfa238"), looks := false }, kinds := [], alts := [], laidByText := true, laidKinds := [.data, .data, .data, .data, .data], laidTests := true, laidLooks := .later }
def TapeBackUptoCardSaid : Prop := Claim7.holds Tryz.pinned (.plain (OpenSpec.upto tapeBackSpec)) tapeBackUptoCard

/-- THE SECOND FORM's CARD OF 'frescolaw30.TapeAnywhere'. -/
def tapeAnywhereUptoCard : Claim7 := { stood := { row := tapeAnywhereUptoRow, standIns := [], harness := (true, "a2f6edaa87b4374f5c2e7a20bc7e62ac4461e1c8a54722f7227b96de9cbfa238"), looks := false }, kinds := [], alts := [], laidByText := true, laidKinds := [.data, .data, .data, .data, .data], laidTests := true, laidLooks := .later }
def TapeAnywhereUptoCardSaid : Prop := Claim7.holds Tryz.pinned (.plain (OpenSpec.upto tapeAnywhereSpec)) tapeAnywhereUptoCard

/-- THE SECOND FORM's CARD OF 'frescolaw30.TapeNone'. -/
def tapeNoneUptoCard : Claim7 := { stood := { row := tapeNoneUptoRow, standIns := [], harness := (true, "a2f6edaa87b4374f5c2e7a20bc7e62ac4461e1c8a54722f7227b96de9cbfa238"), looks := false }, kinds := [], alts := [], laidByText := true, laidKinds := [.data, .data, .data, .data, .data], laidTests := true, laidLooks := .later }
def TapeNoneUptoCardSaid : Prop := Claim7.holds Tryz.pinned (.plain (OpenSpec.upto tapeNoneSpec)) tapeNoneUptoCard

/-- THE SECOND FORM's CARD OF 'frescolaw30.TapeKnown'. -/
def tapeKnownUptoCard : Claim7 := { stood := { row := tapeKnownUptoRow, standIns := [], harness := (true, "a2f6edaa87b4374f5c2e7a20bc7e62ac4461e1c8a54722f7227b96de9cbfa238"), looks := false }, kinds := [], alts := [], laidByText := true, laidKinds := [.data, .data, .data, .data, .data], laidTests := true, laidLooks := .later }
def TapeKnownUptoCardSaid : Prop := Claim7.holds Tryz.pinned (.plain (OpenSpec.upto tapeKnownSpec)) tapeKnownUptoCard

/-- THE SECOND FORM's CARD OF 'frescolaw30.TapeSqueezes'. -/
def tapeSqueezesUptoCard : Claim7 := { stood := { row := tapeSqueezesUptoRow, standIns := [], harness := (true, "a2f6edaa87b4374f5c2e7a20bc7e62ac4461e1c8a54722f7227b96de9cbfa238"), looks := false }, kinds := [], alts := [], laidByText := true, laidKinds := [.data, .data, .data, .data, .data], laidTests := true, laidLooks := .later }
def TapeSqueezesUptoCardSaid : Prop := Claim7.holds Tryz.pinned (.plain (OpenSpec.upto tapeSqueezesSpec)) tapeSqueezesUptoCard

/-- THE SECOND FORM's CARD OF 'frescolaw30.TapePauses'. -/
def tapePausesUptoCard : Claim7 := { stood := { row := tapePausesUptoRow, standIns := [], harness := (true, "a2f6edaa87b4374f5c2e7a20bc7e62ac4461e1c8a54722f7227b96de9cbfa238"), looks := false }, kinds := [], alts := [], laidByText := true, laidKinds := [.data, .data, .data, .data, .data], laidTests := true, laidLooks := .later }
def TapePausesUptoCardSaid : Prop := Claim7.holds Tryz.pinned (.plain (OpenSpec.upto tapePausesSpec)) tapePausesUptoCard

/-- THE SECOND FORM's CARD OF 'frescolaw30.TapeJoins'. -/
def tapeJoinsUptoCard : Claim7 := { stood := { row := tapeJoinsUptoRow, standIns := [], harness := (true, "a2f6edaa87b4374f5c2e7a20bc7e62ac4461e1c8a54722f7227b96de9cbfa238"), looks := false }, kinds := [], alts := [], laidByText := true, laidKinds := [.data, .data, .data, .data, .data], laidTests := true, laidLooks := .later }
def TapeJoinsUptoCardSaid : Prop := Claim7.holds Tryz.pinned (.plain (OpenSpec.upto tapeJoinsSpec)) tapeJoinsUptoCard

/-- THE SECOND FORM's CARD OF 'frescolaw30.TapeJoined'. -/
def tapeJoinedUptoCard : Claim7 := { stood := { row := tapeJoinedUptoRow, standIns := [], harness := (true, "a2f6edaa87b4374f5c2e7a20bc7e62ac4461e1c8a54722f7227b96de9cbfa238"), looks := false }, kinds := [], alts := [], laidByText := true, laidKinds := [.data, .data, .data, .data, .data], laidTests := true, laidLooks := .later }
def TapeJoinedUptoCardSaid : Prop := Claim7.holds Tryz.pinned (.plain (OpenSpec.upto tapeJoinedSpec)) tapeJoinedUptoCard
end Rows
end Go.Proofs.YtmaofighbpnbiaaGreatDoor
