/-
  DERIVED. GIVEN WITH THE SEED: THE CARDS: each row of YthcdcbibbfdjmaaDoorRows.lean that lists a variable, with what it lists TIED to the program's text (the seventh form; the later family's looks); each row that meets fmt, with fmt's text TOLD by the authors' own Lean function (tested against real Go, not proved from fmt's source: count such statements apart). THE CARD IS WHAT COUNTS. Prove the row's statement (the work); the ties are given (YthcdcbibbfdjmaaDoorTie.lean); close each card by the builder's one call (the guide's Derived/Test/ToyasCard.lean, 'card_holds'). Laid BY PROGRAM, IN A SANDBOX (cutbox-door.mjs). By AI agents, Wed Nov 11 2026. No macro, syntax, notation, axiom, sorry.
-/
import Derived.Test.YthcdcbibbfdjmaaDoorRows
import GoSem.ClaimSeven
namespace Go.Proofs.YthcdcbibbfdjmaaDoor
namespace Rows

/-- THE TIED CARD OF 'frescolaw06.StyleParams'. -/
def styleParamsCard : Claim7 := { stood := { row := styleParamsRow, standIns := [], harness := (true, "d0ffe33b9fed70cfed634dca1486cf0696f4ba3ccb42fb6dd805b0112c5334ec"), looks := true }, kinds := [], alts := [], laidByText := true, laidKinds := [.data, .data, .data, .sentinel, .sentinel, .data, .data, .data], laidTests := true, laidLooks := .later }
def StyleParamsCardSaid : Prop := Claim7.holds Tryd.pinned (.plain (OpenSpec.ofChange styleParamsSpec)) styleParamsCard

/-- THE TIED CARD OF 'frescolaw06.StyleApply'. -/
def styleApplyCard : Claim7 := { stood := { row := styleApplyRow, standIns := [], harness := (true, "d0ffe33b9fed70cfed634dca1486cf0696f4ba3ccb42fb6dd805b0112c5334ec"), looks := true }, kinds := [], alts := [], laidByText := true, laidKinds := [.data, .data, .data, .sentinel, .sentinel, .data, .data, .data], laidTests := true, laidLooks := .later }
def StyleApplyCardSaid : Prop := Claim7.holds Tryd.pinned (.plain (OpenSpec.ofChange styleApplySpec)) styleApplyCard

/-- THE TIED CARD OF 'frescolaw06.StyleParse'. -/
def styleParseCard : Claim7 := { stood := { row := styleParseRow, standIns := [], harness := (true, "d0ffe33b9fed70cfed634dca1486cf0696f4ba3ccb42fb6dd805b0112c5334ec"), looks := true }, kinds := [], alts := [], laidByText := true, laidKinds := [.data, .data, .data, .sentinel, .sentinel, .data, .data, .data], laidTests := true, laidLooks := .later }
def StyleParseCardSaid : Prop := Claim7.holds Tryd.pinned (.plain (OpenSpec.ofChange styleParseSpec)) styleParseCard

/-- THE TIED CARD OF 'frescolaw06.StyleTells'. -/
def styleTellsCard : Claim7 := { stood := { row := styleTellsRow, standIns := [], harness := (true, "d0ffe33b9fed70cfed634dca1486cf0696f4ba3ccb42fb6dd805b0112c5334ec"), looks := true }, kinds := [], alts := [], laidByText := true, laidKinds := [.data, .data, .data, .sentinel, .sentinel, .data, .data, .data], laidTests := true, laidLooks := .later }
def StyleTellsCardSaid : Prop := Claim7.holds Tryd.pinned (.plain (OpenSpec.ofChange styleTellsSpec)) styleTellsCard

/-- THE TIED CARD OF 'frescolaw06.StyleOver'. -/
def styleOverCard : Claim7 := { stood := { row := styleOverRow, standIns := [], harness := (true, "d0ffe33b9fed70cfed634dca1486cf0696f4ba3ccb42fb6dd805b0112c5334ec"), looks := true }, kinds := [], alts := [], laidByText := true, laidKinds := [.data, .data, .data, .sentinel, .sentinel, .data, .data, .data], laidTests := true, laidLooks := .later }
def StyleOverCardSaid : Prop := Claim7.holds Tryd.pinned (.plain (OpenSpec.ofChange styleOverSpec)) styleOverCard

/-- THE TIED CARD OF 'frescolaw06.StyleThen'. -/
def styleThenCard : Claim7 := { stood := { row := styleThenRow, standIns := [], harness := (true, "d0ffe33b9fed70cfed634dca1486cf0696f4ba3ccb42fb6dd805b0112c5334ec"), looks := true }, kinds := [], alts := [], laidByText := true, laidKinds := [.data, .data, .data, .sentinel, .sentinel, .data, .data, .data], laidTests := true, laidLooks := .later }
def StyleThenCardSaid : Prop := Claim7.holds Tryd.pinned (.plain (OpenSpec.ofChange styleThenSpec)) styleThenCard

/-- THE TIED CARD OF 'frescolaw06.StyleReduce'. -/
def styleReduceCard : Claim7 := { stood := { row := styleReduceRow, standIns := [], harness := (true, "d0ffe33b9fed70cfed634dca1486cf0696f4ba3ccb42fb6dd805b0112c5334ec"), looks := true }, kinds := [], alts := [], laidByText := true, laidKinds := [.data, .data, .data, .sentinel, .sentinel, .data, .data, .data], laidTests := true, laidLooks := .later }
def StyleReduceCardSaid : Prop := Claim7.holds Tryd.pinned (.plain (OpenSpec.ofChange styleReduceSpec)) styleReduceCard

/-- THE TIED CARD OF 'frescolaw06.StyleCounts'. -/
def styleCountsCard : Claim7 := { stood := { row := styleCountsRow, standIns := [], harness := (true, "d0ffe33b9fed70cfed634dca1486cf0696f4ba3ccb42fb6dd805b0112c5334ec"), looks := true }, kinds := [], alts := [], laidByText := true, laidKinds := [.data, .data, .data, .sentinel, .sentinel, .data, .data, .data], laidTests := true, laidLooks := .later }
def StyleCountsCardSaid : Prop := Claim7.holds Tryd.pinned (.plain (OpenSpec.ofChange styleCountsSpec)) styleCountsCard

/-- THE TIED CARD OF 'frescolaw06.StyleRows'. -/
def styleRowsCard : Claim7 := { stood := { row := styleRowsRow, standIns := [], harness := (true, "d0ffe33b9fed70cfed634dca1486cf0696f4ba3ccb42fb6dd805b0112c5334ec"), looks := true }, kinds := [], alts := [], laidByText := true, laidKinds := [.data, .data, .data, .sentinel, .sentinel, .data, .data, .data], laidTests := true, laidLooks := .later }
def StyleRowsCardSaid : Prop := Claim7.holds Tryd.pinned (.plain (OpenSpec.ofChange styleRowsSpec)) styleRowsCard

/-- THE TIED CARD OF 'frescolaw06.StyleText'. -/
def styleTextCard : Claim7 := { stood := { row := styleTextRow, standIns := [], harness := (true, "d0ffe33b9fed70cfed634dca1486cf0696f4ba3ccb42fb6dd805b0112c5334ec"), looks := true }, kinds := [], alts := [], laidByText := true, laidKinds := [.data, .data, .data, .sentinel, .sentinel, .data, .data, .data], laidTests := true, laidLooks := .later }
def StyleTextCardSaid : Prop := Claim7.holds Tryd.pinned (.plain (OpenSpec.ofChange styleTextSpec)) styleTextCard

/-- THE TIED CARD OF 'frescolaw06.StyleBack'. -/
def styleBackCard : Claim7 := { stood := { row := styleBackRow, standIns := [], harness := (true, "d0ffe33b9fed70cfed634dca1486cf0696f4ba3ccb42fb6dd805b0112c5334ec"), looks := true }, kinds := [], alts := [], laidByText := true, laidKinds := [.data, .data, .data, .sentinel, .sentinel, .data, .data, .data], laidTests := true, laidLooks := .later }
def StyleBackCardSaid : Prop := Claim7.holds Tryd.pinned (.plain (OpenSpec.ofChange styleBackSpec)) styleBackCard

/-- THE TIED CARD OF 'frescolaw06.StyleKnown'. -/
def styleKnownCard : Claim7 := { stood := { row := styleKnownRow, standIns := [], harness := (true, "d0ffe33b9fed70cfed634dca1486cf0696f4ba3ccb42fb6dd805b0112c5334ec"), looks := true }, kinds := [], alts := [], laidByText := true, laidKinds := [.data, .data, .data, .sentinel, .sentinel, .data, .data, .data], laidTests := true, laidLooks := .later }
def StyleKnownCardSaid : Prop := Claim7.holds Tryd.pinned (.plain (OpenSpec.ofChange styleKnownSpec)) styleKnownCard

/-- THE SECOND FORM's CARD OF 'frescolaw06.StyleParams'. -/
def styleParamsUptoCard : Claim7 := { stood := { row := styleParamsUptoRow, standIns := [], harness := (true, "d0ffe33b9fed70cfed634dca1486cf0696f4ba3ccb42fb6dd805b0112c5334ec"), looks := true }, kinds := [], alts := [], laidByText := true, laidKinds := [.data, .data, .data, .sentinel, .sentinel, .data, .data, .data], laidTests := true, laidLooks := .later }
def StyleParamsUptoCardSaid : Prop := Claim7.holds Tryd.pinned (.plain (OpenSpec.upto styleParamsSpec)) styleParamsUptoCard

/-- THE SECOND FORM's CARD OF 'frescolaw06.StyleApply'. -/
def styleApplyUptoCard : Claim7 := { stood := { row := styleApplyUptoRow, standIns := [], harness := (true, "d0ffe33b9fed70cfed634dca1486cf0696f4ba3ccb42fb6dd805b0112c5334ec"), looks := true }, kinds := [], alts := [], laidByText := true, laidKinds := [.data, .data, .data, .sentinel, .sentinel, .data, .data, .data], laidTests := true, laidLooks := .later }
def StyleApplyUptoCardSaid : Prop := Claim7.holds Tryd.pinned (.plain (OpenSpec.upto styleApplySpec)) styleApplyUptoCard

/-- THE SECOND FORM's CARD OF 'frescolaw06.StyleParse'. -/
def styleParseUptoCard : Claim7 := { stood := { row := styleParseUptoRow, standIns := [], harness := (true, "d0ffe33b9fed70cfed634dca1486cf0696f4ba3ccb42fb6dd805b0112c5334ec"), looks := true }, kinds := [], alts := [], laidByText := true, laidKinds := [.data, .data, .data, .sentinel, .sentinel, .data, .data, .data], laidTests := true, laidLooks := .later }
def StyleParseUptoCardSaid : Prop := Claim7.holds Tryd.pinned (.plain (OpenSpec.upto styleParseSpec)) styleParseUptoCard

/-- THE SECOND FORM's CARD OF 'frescolaw06.StyleTells'. -/
def styleTellsUptoCard : Claim7 := { stood := { row := styleTellsUptoRow, standIns := [], harness := (true, "d0ffe33b9fed70cfed634dca1486cf0696f4ba3ccb42fb6dd805b0112c5334ec"), looks := true }, kinds := [], alts := [], laidByText := true, laidKinds := [.data, .data, .data, .sentinel, .sentinel, .data, .data, .data], laidTests := true, laidLooks := .later }
def StyleTellsUptoCardSaid : Prop := Claim7.holds Tryd.pinned (.plain (OpenSpec.upto styleTellsSpec)) styleTellsUptoCard

/-- THE SECOND FORM's CARD OF 'frescolaw06.StyleOver'. -/
def styleOverUptoCard : Claim7 := { stood := { row := styleOverUptoRow, standIns := [], harness := (true, "d0ffe33b9fed70cfed634dca1486cf0696f4ba3ccb42fb6dd805b0112c5334ec"), looks := true }, kinds := [], alts := [], laidByText := true, laidKinds := [.data, .data, .data, .sentinel, .sentinel, .data, .data, .data], laidTests := true, laidLooks := .later }
def StyleOverUptoCardSaid : Prop := Claim7.holds Tryd.pinned (.plain (OpenSpec.upto styleOverSpec)) styleOverUptoCard

/-- THE SECOND FORM's CARD OF 'frescolaw06.StyleThen'. -/
def styleThenUptoCard : Claim7 := { stood := { row := styleThenUptoRow, standIns := [], harness := (true, "d0ffe33b9fed70cfed634dca1486cf0696f4ba3ccb42fb6dd805b0112c5334ec"), looks := true }, kinds := [], alts := [], laidByText := true, laidKinds := [.data, .data, .data, .sentinel, .sentinel, .data, .data, .data], laidTests := true, laidLooks := .later }
def StyleThenUptoCardSaid : Prop := Claim7.holds Tryd.pinned (.plain (OpenSpec.upto styleThenSpec)) styleThenUptoCard

/-- THE SECOND FORM's CARD OF 'frescolaw06.StyleReduce'. -/
def styleReduceUptoCard : Claim7 := { stood := { row := styleReduceUptoRow, standIns := [], harness := (true, "d0ffe33b9fed70cfed634dca1486cf0696f4ba3ccb42fb6dd805b0112c5334ec"), looks := true }, kinds := [], alts := [], laidByText := true, laidKinds := [.data, .data, .data, .sentinel, .sentinel, .data, .data, .data], laidTests := true, laidLooks := .later }
def StyleReduceUptoCardSaid : Prop := Claim7.holds Tryd.pinned (.plain (OpenSpec.upto styleReduceSpec)) styleReduceUptoCard

/-- THE SECOND FORM's CARD OF 'frescolaw06.StyleCounts'. -/
def styleCountsUptoCard : Claim7 := { stood := { row := styleCountsUptoRow, standIns := [], harness := (true, "d0ffe33b9fed70cfed634dca1486cf0696f4ba3ccb42fb6dd805b0112c5334ec"), looks := true }, kinds := [], alts := [], laidByText := true, laidKinds := [.data, .data, .data, .sentinel, .sentinel, .data, .data, .data], laidTests := true, laidLooks := .later }
def StyleCountsUptoCardSaid : Prop := Claim7.holds Tryd.pinned (.plain (OpenSpec.upto styleCountsSpec)) styleCountsUptoCard

/-- THE SECOND FORM's CARD OF 'frescolaw06.StyleRows'. -/
def styleRowsUptoCard : Claim7 := { stood := { row := styleRowsUptoRow, standIns := [], harness := (true, "d0ffe33b9fed70cfed634dca1486cf0696f4ba3ccb42fb6dd805b0112c5334ec"), looks := true }, kinds := [], alts := [], laidByText := true, laidKinds := [.data, .data, .data, .sentinel, .sentinel, .data, .data, .data], laidTests := true, laidLooks := .later }
def StyleRowsUptoCardSaid : Prop := Claim7.holds Tryd.pinned (.plain (OpenSpec.upto styleRowsSpec)) styleRowsUptoCard

/-- THE SECOND FORM's CARD OF 'frescolaw06.StyleText'. -/
def styleTextUptoCard : Claim7 := { stood := { row := styleTextUptoRow, standIns := [], harness := (true, "d0ffe33b9fed70cfed634dca1486cf0696f4ba3ccb42fb6dd805b0112c5334ec"), looks := true }, kinds := [], alts := [], laidByText := true, laidKinds := [.data, .data, .data, .sentinel, .sentinel, .data, .data, .data], laidTests := true, laidLooks := .later }
def StyleTextUptoCardSaid : Prop := Claim7.holds Tryd.pinned (.plain (OpenSpec.upto styleTextSpec)) styleTextUptoCard

/-- THE SECOND FORM's CARD OF 'frescolaw06.StyleBack'. -/
def styleBackUptoCard : Claim7 := { stood := { row := styleBackUptoRow, standIns := [], harness := (true, "d0ffe33b9fed70cfed634dca1486cf0696f4ba3ccb42fb6dd805b0112c5334ec"), looks := true }, kinds := [], alts := [], laidByText := true, laidKinds := [.data, .data, .data, .sentinel, .sentinel, .data, .data, .data], laidTests := true, laidLooks := .later }
def StyleBackUptoCardSaid : Prop := Claim7.holds Tryd.pinned (.plain (OpenSpec.upto styleBackSpec)) styleBackUptoCard

/-- THE SECOND FORM's CARD OF 'frescolaw06.StyleKnown'. -/
def styleKnownUptoCard : Claim7 := { stood := { row := styleKnownUptoRow, standIns := [], harness := (true, "d0ffe33b9fed70cfed634dca1486cf0696f4ba3ccb42fb6dd805b0112c5334ec"), looks := true }, kinds := [], alts := [], laidByText := true, laidKinds := [.data, .data, .data, .sentinel, .sentinel, .data, .data, .data], laidTests := true, laidLooks := .later }
def StyleKnownUptoCardSaid : Prop := Claim7.holds Tryd.pinned (.plain (OpenSpec.upto styleKnownSpec)) styleKnownUptoCard
end Rows
end Go.Proofs.YthcdcbibbfdjmaaDoor
