/-
  DERIVED. GIVEN WITH THE SEED: THE CARDS: each row of YtompmkcpicfdfaaDoorRows.lean that lists a variable, with what it lists TIED to the program's text (the seventh form; the later family's looks); each row that meets fmt, with fmt's text TOLD by the authors' own Lean function (tested against real Go, not proved from fmt's source: count such statements apart). THE CARD IS WHAT COUNTS. Prove the row's statement (the work); the ties are given (YtompmkcpicfdfaaDoorTie.lean); close each card by the builder's one call (the guide's Derived/Test/ToyasCard.lean, 'card_holds'). Laid BY PROGRAM, IN A SANDBOX (cutbox-door.mjs). By AI agents, Wed Nov 11 2026. No macro, syntax, notation, axiom, sorry.
-/
import Derived.Test.YtompmkcpicfdfaaDoorRows
import GoSem.ClaimSeven
namespace Go.Proofs.YtompmkcpicfdfaaDoor
namespace Rows

/-- THE TIED CARD OF 'missivelaw07.CodecWhite'. -/
def codecWhiteCard : Claim7 := { stood := { row := codecWhiteRow, standIns := [], harness := (true, "acf9d1ef2750f46f27ee49b89611dcb432b5f8e60131e8c86ab9a14351241c30"), looks := true }, kinds := [], alts := [], laidByText := true, laidKinds := [.data, .pinned], laidTests := true, laidLooks := .later }
def CodecWhiteCardSaid : Prop := Claim7.holds Tryd.pinned (.plain (OpenSpec.ofChange codecWhiteSpec)) codecWhiteCard

/-- THE TIED CARD OF 'missivelaw07.CodecStays'. -/
def codecStaysCard : Claim7 := { stood := { row := codecStaysRow, standIns := [], harness := (true, "acf9d1ef2750f46f27ee49b89611dcb432b5f8e60131e8c86ab9a14351241c30"), looks := true }, kinds := [], alts := [], laidByText := true, laidKinds := [.data, .pinned], laidTests := true, laidLooks := .later }
def CodecStaysCardSaid : Prop := Claim7.holds Tryd.pinned (.plain (OpenSpec.ofChange codecStaysSpec)) codecStaysCard

/-- THE TIED CARD OF 'missivelaw07.CodecBack'. -/
def codecBackCard : Claim7 := { stood := { row := codecBackRow, standIns := [], harness := (true, "acf9d1ef2750f46f27ee49b89611dcb432b5f8e60131e8c86ab9a14351241c30"), looks := true }, kinds := [], alts := [], laidByText := true, laidKinds := [.data, .pinned], laidTests := true, laidLooks := .later }
def CodecBackCardSaid : Prop := Claim7.holds Tryd.pinned (.plain (OpenSpec.ofChange codecBackSpec)) codecBackCard

/-- THE TIED CARD OF 'missivelaw07.CodecLines'. -/
def codecLinesCard : Claim7 := { stood := { row := codecLinesRow, standIns := [], harness := (true, "acf9d1ef2750f46f27ee49b89611dcb432b5f8e60131e8c86ab9a14351241c30"), looks := true }, kinds := [], alts := [], laidByText := true, laidKinds := [.data, .pinned], laidTests := true, laidLooks := .later }
def CodecLinesCardSaid : Prop := Claim7.holds Tryd.pinned (.plain (OpenSpec.ofChange codecLinesSpec)) codecLinesCard

/-- THE TIED CARD OF 'missivelaw07.CodecParts'. -/
def codecPartsCard : Claim7 := { stood := { row := codecPartsRow, standIns := [], harness := (true, "acf9d1ef2750f46f27ee49b89611dcb432b5f8e60131e8c86ab9a14351241c30"), looks := true }, kinds := [], alts := [], laidByText := true, laidKinds := [.data, .pinned], laidTests := true, laidLooks := .later }
def CodecPartsCardSaid : Prop := Claim7.holds Tryd.pinned (.plain (OpenSpec.ofChange codecPartsSpec)) codecPartsCard

/-- THE TIED CARD OF 'missivelaw01.TextWords'. -/
def textWordsCard : Claim7 := { stood := { row := textWordsRow, standIns := [], harness := (true, "acf9d1ef2750f46f27ee49b89611dcb432b5f8e60131e8c86ab9a14351241c30"), looks := true }, kinds := [], alts := [], laidByText := true, laidKinds := [.data, .data, .data, .data, .sentinel, .sentinel, .pinned], laidTests := true, laidLooks := .later }
def TextWordsCardSaid : Prop := Claim7.holds Tryd.pinned (.plain (OpenSpec.ofChange textWordsSpec)) textWordsCard

/-- THE TIED CARD OF 'missivelaw01.TextNumbers'. -/
def textNumbersCard : Claim7 := { stood := { row := textNumbersRow, standIns := [], harness := (true, "acf9d1ef2750f46f27ee49b89611dcb432b5f8e60131e8c86ab9a14351241c30"), looks := true }, kinds := [], alts := [], laidByText := true, laidKinds := [.data, .data, .data, .data, .sentinel, .sentinel, .pinned], laidTests := true, laidLooks := .later }
def TextNumbersCardSaid : Prop := Claim7.holds Tryd.pinned (.plain (OpenSpec.ofChange textNumbersSpec)) textNumbersCard

/-- THE TIED CARD OF 'missivelaw01.TextGlobs'. -/
def textGlobsCard : Claim7 := { stood := { row := textGlobsRow, standIns := [], harness := (true, "acf9d1ef2750f46f27ee49b89611dcb432b5f8e60131e8c86ab9a14351241c30"), looks := true }, kinds := [], alts := [], laidByText := true, laidKinds := [.data, .data, .data, .data, .sentinel, .sentinel, .pinned], laidTests := true, laidLooks := .later }
def TextGlobsCardSaid : Prop := Claim7.holds Tryd.pinned (.plain (OpenSpec.ofChange textGlobsSpec)) textGlobsCard

/-- THE TIED CARD OF 'missivelaw01.TextCases'. -/
def textCasesCard : Claim7 := { stood := { row := textCasesRow, standIns := [], harness := (true, "acf9d1ef2750f46f27ee49b89611dcb432b5f8e60131e8c86ab9a14351241c30"), looks := true }, kinds := [], alts := [], laidByText := true, laidKinds := [.data, .data, .data, .data, .sentinel, .sentinel, .pinned], laidTests := true, laidLooks := .later }
def TextCasesCardSaid : Prop := Claim7.holds Tryd.pinned (.plain (OpenSpec.ofChange textCasesSpec)) textCasesCard

/-- THE TIED CARD OF 'missivelaw01.TextLines'. -/
def textLinesCard : Claim7 := { stood := { row := textLinesRow, standIns := [], harness := (true, "acf9d1ef2750f46f27ee49b89611dcb432b5f8e60131e8c86ab9a14351241c30"), looks := true }, kinds := [], alts := [], laidByText := true, laidKinds := [.data, .data, .data, .data, .sentinel, .sentinel, .pinned], laidTests := true, laidLooks := .later }
def TextLinesCardSaid : Prop := Claim7.holds Tryd.pinned (.plain (OpenSpec.ofChange textLinesSpec)) textLinesCard

/-- THE TIED CARD OF 'missivelaw34.QuoteTells'. -/
def quoteTellsCard : Claim7 := { stood := { row := quoteTellsRow, standIns := [], harness := (true, "acf9d1ef2750f46f27ee49b89611dcb432b5f8e60131e8c86ab9a14351241c30"), looks := true }, kinds := [], alts := [], laidByText := true, laidKinds := [.data, .data, .data, .data, .pinned], laidTests := true, laidLooks := .later }
def QuoteTellsCardSaid : Prop := Claim7.holds Tryd.pinned (.plain (OpenSpec.ofChange quoteTellsSpec)) quoteTellsCard

/-- THE TIED CARD OF 'missivelaw34.QuoteAll'. -/
def quoteAllCard : Claim7 := { stood := { row := quoteAllRow, standIns := [], harness := (true, "acf9d1ef2750f46f27ee49b89611dcb432b5f8e60131e8c86ab9a14351241c30"), looks := true }, kinds := [], alts := [], laidByText := true, laidKinds := [.data, .data, .data, .data, .pinned], laidTests := true, laidLooks := .later }
def QuoteAllCardSaid : Prop := Claim7.holds Tryd.pinned (.plain (OpenSpec.ofChange quoteAllSpec)) quoteAllCard

/-- THE SECOND FORM's CARD OF 'missivelaw07.CodecWhite'. -/
def codecWhiteUptoCard : Claim7 := { stood := { row := codecWhiteUptoRow, standIns := [], harness := (true, "acf9d1ef2750f46f27ee49b89611dcb432b5f8e60131e8c86ab9a14351241c30"), looks := true }, kinds := [], alts := [], laidByText := true, laidKinds := [.data, .pinned], laidTests := true, laidLooks := .later }
def CodecWhiteUptoCardSaid : Prop := Claim7.holds Tryd.pinned (.plain (OpenSpec.upto codecWhiteSpec)) codecWhiteUptoCard

/-- THE SECOND FORM's CARD OF 'missivelaw07.CodecStays'. -/
def codecStaysUptoCard : Claim7 := { stood := { row := codecStaysUptoRow, standIns := [], harness := (true, "acf9d1ef2750f46f27ee49b89611dcb432b5f8e60131e8c86ab9a14351241c30"), looks := true }, kinds := [], alts := [], laidByText := true, laidKinds := [.data, .pinned], laidTests := true, laidLooks := .later }
def CodecStaysUptoCardSaid : Prop := Claim7.holds Tryd.pinned (.plain (OpenSpec.upto codecStaysSpec)) codecStaysUptoCard

/-- THE SECOND FORM's CARD OF 'missivelaw07.CodecBack'. -/
def codecBackUptoCard : Claim7 := { stood := { row := codecBackUptoRow, standIns := [], harness := (true, "acf9d1ef2750f46f27ee49b89611dcb432b5f8e60131e8c86ab9a14351241c30"), looks := true }, kinds := [], alts := [], laidByText := true, laidKinds := [.data, .pinned], laidTests := true, laidLooks := .later }
def CodecBackUptoCardSaid : Prop := Claim7.holds Tryd.pinned (.plain (OpenSpec.upto codecBackSpec)) codecBackUptoCard

/-- THE SECOND FORM's CARD OF 'missivelaw07.CodecLines'. -/
def codecLinesUptoCard : Claim7 := { stood := { row := codecLinesUptoRow, standIns := [], harness := (true, "acf9d1ef2750f46f27ee49b89611dcb432b5f8e60131e8c86ab9a14351241c30"), looks := true }, kinds := [], alts := [], laidByText := true, laidKinds := [.data, .pinned], laidTests := true, laidLooks := .later }
def CodecLinesUptoCardSaid : Prop := Claim7.holds Tryd.pinned (.plain (OpenSpec.upto codecLinesSpec)) codecLinesUptoCard

/-- THE SECOND FORM's CARD OF 'missivelaw07.CodecParts'. -/
def codecPartsUptoCard : Claim7 := { stood := { row := codecPartsUptoRow, standIns := [], harness := (true, "acf9d1ef2750f46f27ee49b89611dcb432b5f8e60131e8c86ab9a14351241c30"), looks := true }, kinds := [], alts := [], laidByText := true, laidKinds := [.data, .pinned], laidTests := true, laidLooks := .later }
def CodecPartsUptoCardSaid : Prop := Claim7.holds Tryd.pinned (.plain (OpenSpec.upto codecPartsSpec)) codecPartsUptoCard

/-- THE SECOND FORM's CARD OF 'missivelaw01.TextWords'. -/
def textWordsUptoCard : Claim7 := { stood := { row := textWordsUptoRow, standIns := [], harness := (true, "acf9d1ef2750f46f27ee49b89611dcb432b5f8e60131e8c86ab9a14351241c30"), looks := true }, kinds := [], alts := [], laidByText := true, laidKinds := [.data, .data, .data, .data, .sentinel, .sentinel, .pinned], laidTests := true, laidLooks := .later }
def TextWordsUptoCardSaid : Prop := Claim7.holds Tryd.pinned (.plain (OpenSpec.upto textWordsSpec)) textWordsUptoCard

/-- THE SECOND FORM's CARD OF 'missivelaw01.TextNumbers'. -/
def textNumbersUptoCard : Claim7 := { stood := { row := textNumbersUptoRow, standIns := [], harness := (true, "acf9d1ef2750f46f27ee49b89611dcb432b5f8e60131e8c86ab9a14351241c30"), looks := true }, kinds := [], alts := [], laidByText := true, laidKinds := [.data, .data, .data, .data, .sentinel, .sentinel, .pinned], laidTests := true, laidLooks := .later }
def TextNumbersUptoCardSaid : Prop := Claim7.holds Tryd.pinned (.plain (OpenSpec.upto textNumbersSpec)) textNumbersUptoCard

/-- THE SECOND FORM's CARD OF 'missivelaw01.TextGlobs'. -/
def textGlobsUptoCard : Claim7 := { stood := { row := textGlobsUptoRow, standIns := [], harness := (true, "acf9d1ef2750f46f27ee49b89611dcb432b5f8e60131e8c86ab9a14351241c30"), looks := true }, kinds := [], alts := [], laidByText := true, laidKinds := [.data, .data, .data, .data, .sentinel, .sentinel, .pinned], laidTests := true, laidLooks := .later }
def TextGlobsUptoCardSaid : Prop := Claim7.holds Tryd.pinned (.plain (OpenSpec.upto textGlobsSpec)) textGlobsUptoCard

/-- THE SECOND FORM's CARD OF 'missivelaw01.TextCases'. -/
def textCasesUptoCard : Claim7 := { stood := { row := textCasesUptoRow, standIns := [], harness := (true, "acf9d1ef2750f46f27ee49b89611dcb432b5f8e60131e8c86ab9a14351241c30"), looks := true }, kinds := [], alts := [], laidByText := true, laidKinds := [.data, .data, .data, .data, .sentinel, .sentinel, .pinned], laidTests := true, laidLooks := .later }
def TextCasesUptoCardSaid : Prop := Claim7.holds Tryd.pinned (.plain (OpenSpec.upto textCasesSpec)) textCasesUptoCard

/-- THE SECOND FORM's CARD OF 'missivelaw01.TextLines'. -/
def textLinesUptoCard : Claim7 := { stood := { row := textLinesUptoRow, standIns := [], harness := (true, "acf9d1ef2750f46f27ee49b89611dcb432b5f8e60131e8c86ab9a14351241c30"), looks := true }, kinds := [], alts := [], laidByText := true, laidKinds := [.data, .data, .data, .data, .sentinel, .sentinel, .pinned], laidTests := true, laidLooks := .later }
def TextLinesUptoCardSaid : Prop := Claim7.holds Tryd.pinned (.plain (OpenSpec.upto textLinesSpec)) textLinesUptoCard

/-- THE SECOND FORM's CARD OF 'missivelaw34.QuoteTells'. -/
def quoteTellsUptoCard : Claim7 := { stood := { row := quoteTellsUptoRow, standIns := [], harness := (true, "acf9d1ef2750f46f27ee49b89611dcb432b5f8e60131e8c86ab9a14351241c30"), looks := true }, kinds := [], alts := [], laidByText := true, laidKinds := [.data, .data, .data, .data, .pinned], laidTests := true, laidLooks := .later }
def QuoteTellsUptoCardSaid : Prop := Claim7.holds Tryd.pinned (.plain (OpenSpec.upto quoteTellsSpec)) quoteTellsUptoCard

/-- THE SECOND FORM's CARD OF 'missivelaw34.QuoteAll'. -/
def quoteAllUptoCard : Claim7 := { stood := { row := quoteAllUptoRow, standIns := [], harness := (true, "acf9d1ef2750f46f27ee49b89611dcb432b5f8e60131e8c86ab9a14351241c30"), looks := true }, kinds := [], alts := [], laidByText := true, laidKinds := [.data, .data, .data, .data, .pinned], laidTests := true, laidLooks := .later }
def QuoteAllUptoCardSaid : Prop := Claim7.holds Tryd.pinned (.plain (OpenSpec.upto quoteAllSpec)) quoteAllUptoCard
end Rows
end Go.Proofs.YtompmkcpicfdfaaDoor
