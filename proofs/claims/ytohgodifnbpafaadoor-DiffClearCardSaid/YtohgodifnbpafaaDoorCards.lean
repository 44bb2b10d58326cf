/-
  DERIVED. GIVEN WITH THE SEED: THE CARDS: each row of YtohgodifnbpafaaDoorRows.lean that lists a variable, with what it lists TIED to the program's text (the seventh form; the later family's looks); each row that meets fmt, with fmt's text TOLD by the authors' own Lean function (tested against real Go, not proved from fmt's source: count such statements apart). THE CARD IS WHAT COUNTS. Prove the row's statement (the work); the ties are given (YtohgodifnbpafaaDoorTie.lean); close each card by the builder's one call (the guide's Derived/Test/ToyasCard.lean, 'card_holds'). Laid BY PROGRAM, IN A SANDBOX (cutbox-door.mjs). By AI agents, Wed Nov 11 2026. No macro, syntax, notation, axiom, sorry.
-/
import Derived.Test.YtohgodifnbpafaaDoorRows
import GoSem.ClaimSeven
namespace Go.Proofs.YtohgodifnbpafaaDoor
namespace Rows

/-- THE TIED CARD OF 'frescolaw25.DiffNames'. -/
def diffNamesCard : Claim7 := { stood := { row := diffNamesRow, standIns := [], harness := (true, "a423f1b59ede82b10a60d9412bd08354a34b1a45de0e706536ea42a6e515a152"), looks := false }, kinds := [], alts := [], laidByText := true, laidKinds := [.data, .data, .data, .data, .data], laidTests := true, laidLooks := .later }
def DiffNamesCardSaid : Prop := Claim7.holds Tryd.pinned (.plain (OpenSpec.ofChange diffNamesSpec)) diffNamesCard

/-- THE TIED CARD OF 'frescolaw25.DiffAlike'. -/
def diffAlikeCard : Claim7 := { stood := { row := diffAlikeRow, standIns := [], harness := (true, "a423f1b59ede82b10a60d9412bd08354a34b1a45de0e706536ea42a6e515a152"), looks := false }, kinds := [], alts := [], laidByText := true, laidKinds := [.data, .data, .data, .data, .data], laidTests := true, laidLooks := .later }
def DiffAlikeCardSaid : Prop := Claim7.holds Tryd.pinned (.plain (OpenSpec.ofChange diffAlikeSpec)) diffAlikeCard

/-- THE TIED CARD OF 'frescolaw25.DiffNew'. -/
def diffNewCard : Claim7 := { stood := { row := diffNewRow, standIns := [], harness := (true, "a423f1b59ede82b10a60d9412bd08354a34b1a45de0e706536ea42a6e515a152"), looks := false }, kinds := [], alts := [], laidByText := true, laidKinds := [.data, .data, .data, .data, .data], laidTests := true, laidLooks := .later }
def DiffNewCardSaid : Prop := Claim7.holds Tryd.pinned (.plain (OpenSpec.ofChange diffNewSpec)) diffNewCard

/-- THE TIED CARD OF 'frescolaw25.DiffClear'. -/
def diffClearCard : Claim7 := { stood := { row := diffClearRow, standIns := [], harness := (true, "a423f1b59ede82b10a60d9412bd08354a34b1a45de0e706536ea42a6e515a152"), looks := false }, kinds := [], alts := [], laidByText := true, laidKinds := [.data, .data, .data, .data, .data], laidTests := true, laidLooks := .later }
def DiffClearCardSaid : Prop := Claim7.holds Tryd.pinned (.plain (OpenSpec.ofChange diffClearSpec)) diffClearCard

/-- THE SECOND FORM's CARD OF 'frescolaw25.DiffNames'. -/
def diffNamesUptoCard : Claim7 := { stood := { row := diffNamesUptoRow, standIns := [], harness := (true, "a423f1b59ede82b10a60d9412bd08354a34b1a45de0e706536ea42a6e515a152"), looks := false }, kinds := [], alts := [], laidByText := true, laidKinds := [.data, .data, .data, .data, .data], laidTests := true, laidLooks := .later }
def DiffNamesUptoCardSaid : Prop := Claim7.holds Tryd.pinned (.plain (OpenSpec.upto diffNamesSpec)) diffNamesUptoCard

/-- THE SECOND FORM's CARD OF 'frescolaw25.DiffAlike'. -/
def diffAlikeUptoCard : Claim7 := { stood := { row := diffAlikeUptoRow, standIns := [], harness := (true, "a423f1b59ede82b10a60d9412bd08354a34b1a45de0e706536ea42a6e515a152"), looks := false }, kinds := [], alts := [], laidByText := true, laidKinds := [.data, .data, .data, .data, .data], laidTests := true, laidLooks := .later }
def DiffAlikeUptoCardSaid : Prop := Claim7.holds Tryd.pinned (.plain (OpenSpec.upto diffAlikeSpec)) diffAlikeUptoCard

/-- THE SECOND FORM's CARD OF 'frescolaw25.DiffNew'. -/
def diffNewUptoCard : Claim7 := { stood := { row := diffNewUptoRow, standIns := [], harness := (true, "a423f1b59ede82b10a60d9412bd08354a34b1a45de0e706536ea42a6e515a152"), looks := false }, kinds := [], alts := [], laidByText := true, laidKinds := [.data, .data, .data, .data, .data], laidTests := true, laidLooks := .later }
def DiffNewUptoCardSaid : Prop := Claim7.holds Tryd.pinned (.plain (OpenSpec.upto diffNewSpec)) diffNewUptoCard

/-- THE SECOND FORM's CARD OF 'frescolaw25.DiffClear'. -/
def diffClearUptoCard : Claim7 := { stood := { row := diffClearUptoRow, standIns := [], harness := (true, "a423f1b59ede82b10a60d9412bd08354a34b1a45de0e706536ea42a6e515a152"), looks := false }, kinds := [], alts := [], laidByText := true, laidKinds := [.data, .data, .data, .data, .data], laidTests := true, laidLooks := .later }
def DiffClearUptoCardSaid : Prop := Claim7.holds Tryd.pinned (.plain (OpenSpec.upto diffClearSpec)) diffClearUptoCard
end Rows
end Go.Proofs.YtohgodifnbpafaaDoor
