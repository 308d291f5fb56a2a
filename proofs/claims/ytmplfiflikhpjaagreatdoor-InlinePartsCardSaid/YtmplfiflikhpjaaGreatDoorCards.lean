/-
  DERIVED. GIVEN WITH THE SEED: THE CARDS: each row of YtmplfiflikhpjaaGreatDoorRows.lean that lists a variable, with what it lists TIED to the program's text (the seventh form; the later family's looks); each row that meets fmt, with fmt's text TOLD by the authors' own Lean function (tested against real Go, not proved from fmt's source: count such statements apart). THE CARD IS WHAT COUNTS. Prove the row's statement (the work); the ties are given (YtmplfiflikhpjaaGreatDoorTie.lean); close each card by the builder's one call (the guide's Derived/Test/ToyasCard.lean, 'card_holds'). Laid BY PROGRAM, IN A SANDBOX (cutbox-door.mjs). By AI agents, Wed Nov 11 2026. No macro, syntax, notation, axiom, sorry.
-/
import Derived.Test.YtmplfiflikhpjaaGreatDoorRows
import GoSem.ClaimSeven
namespace Go.Proofs.YtmplfiflikhpjaaGreatDoor
namespace Rows

/-- THE TIED CARD OF 'rubricatorlaw21.InlineNests'. -/
def inlineNestsCard : Claim7 := { stood := { row := inlineNestsRow, standIns := [], harness := (true, "104c66f0c0472ec98476f8dcc570ece1648816df1b5eaeadf7a84665d3bfe2dd"), looks := true }, kinds := [], alts := [], laidByText := true, laidKinds := [.data, .data, .data, .data, .sentinel, .sentinel, .pinned], laidTests := true, laidLooks := .later }
def InlineNestsCardSaid : Prop := Claim7.holds Tryz.pinned (.plain (OpenSpec.ofChange inlineNestsSpec)) inlineNestsCard

/-- THE TIED CARD OF 'rubricatorlaw21.InlineBrackets'. -/
def inlineBracketsCard : Claim7 := { stood := { row := inlineBracketsRow, standIns := [], harness := (true, "104c66f0c0472ec98476f8dcc570ece1648816df1b5eaeadf7a84665d3bfe2dd"), looks := true }, kinds := [], alts := [], laidByText := true, laidKinds := [.data, .data, .data, .data, .sentinel, .sentinel, .pinned], laidTests := true, laidLooks := .later }
def InlineBracketsCardSaid : Prop := Claim7.holds Tryz.pinned (.plain (OpenSpec.ofChange inlineBracketsSpec)) inlineBracketsCard

/-- THE TIED CARD OF 'rubricatorlaw21.InlineParses'. -/
def inlineParsesCard : Claim7 := { stood := { row := inlineParsesRow, standIns := [], harness := (true, "104c66f0c0472ec98476f8dcc570ece1648816df1b5eaeadf7a84665d3bfe2dd"), looks := true }, kinds := [], alts := [], laidByText := true, laidKinds := [.data, .data, .data, .data, .sentinel, .sentinel, .pinned], laidTests := true, laidLooks := .later }
def InlineParsesCardSaid : Prop := Claim7.holds Tryz.pinned (.plain (OpenSpec.ofChange inlineParsesSpec)) inlineParsesCard

/-- THE TIED CARD OF 'rubricatorlaw21.InlineParts'. -/
def inlinePartsCard : Claim7 := { stood := { row := inlinePartsRow, standIns := [], harness := (true, "104c66f0c0472ec98476f8dcc570ece1648816df1b5eaeadf7a84665d3bfe2dd"), looks := true }, kinds := [], alts := [], laidByText := true, laidKinds := [.data, .data, .data, .data, .sentinel, .sentinel, .pinned], laidTests := true, laidLooks := .later }
def InlinePartsCardSaid : Prop := Claim7.holds Tryz.pinned (.plain (OpenSpec.ofChange inlinePartsSpec)) inlinePartsCard

/-- THE TIED CARD OF 'rubricatorlaw21.InlinePlain'. -/
def inlinePlainCard : Claim7 := { stood := { row := inlinePlainRow, standIns := [], harness := (true, "104c66f0c0472ec98476f8dcc570ece1648816df1b5eaeadf7a84665d3bfe2dd"), looks := true }, kinds := [], alts := [], laidByText := true, laidKinds := [.data, .data, .data, .data, .sentinel, .sentinel, .pinned], laidTests := true, laidLooks := .later }
def InlinePlainCardSaid : Prop := Claim7.holds Tryz.pinned (.plain (OpenSpec.ofChange inlinePlainSpec)) inlinePlainCard

/-- THE TIED CARD OF 'rubricatorlaw21.InlineEscaped'. -/
def inlineEscapedCard : Claim7 := { stood := { row := inlineEscapedRow, standIns := [], harness := (true, "104c66f0c0472ec98476f8dcc570ece1648816df1b5eaeadf7a84665d3bfe2dd"), looks := true }, kinds := [], alts := [], laidByText := true, laidKinds := [.data, .data, .data, .data, .sentinel, .sentinel, .pinned], laidTests := true, laidLooks := .later }
def InlineEscapedCardSaid : Prop := Claim7.holds Tryz.pinned (.plain (OpenSpec.ofChange inlineEscapedSpec)) inlineEscapedCard

/-- THE TIED CARD OF 'rubricatorlaw21.InlineCode'. -/
def inlineCodeCard : Claim7 := { stood := { row := inlineCodeRow, standIns := [], harness := (true, "104c66f0c0472ec98476f8dcc570ece1648816df1b5eaeadf7a84665d3bfe2dd"), looks := true }, kinds := [], alts := [], laidByText := true, laidKinds := [.data, .data, .data, .data, .sentinel, .sentinel, .pinned], laidTests := true, laidLooks := .later }
def InlineCodeCardSaid : Prop := Claim7.holds Tryz.pinned (.plain (OpenSpec.ofChange inlineCodeSpec)) inlineCodeCard

/-- THE TIED CARD OF 'rubricatorlaw21.InlineDest'. -/
def inlineDestCard : Claim7 := { stood := { row := inlineDestRow, standIns := [], harness := (true, "104c66f0c0472ec98476f8dcc570ece1648816df1b5eaeadf7a84665d3bfe2dd"), looks := true }, kinds := [], alts := [], laidByText := true, laidKinds := [.data, .data, .data, .data, .sentinel, .sentinel, .pinned], laidTests := true, laidLooks := .later }
def InlineDestCardSaid : Prop := Claim7.holds Tryz.pinned (.plain (OpenSpec.ofChange inlineDestSpec)) inlineDestCard

/-- THE TIED CARD OF 'rubricatorlaw21.InlineBreaks'. -/
def inlineBreaksCard : Claim7 := { stood := { row := inlineBreaksRow, standIns := [], harness := (true, "104c66f0c0472ec98476f8dcc570ece1648816df1b5eaeadf7a84665d3bfe2dd"), looks := true }, kinds := [], alts := [], laidByText := true, laidKinds := [.data, .data, .data, .data, .sentinel, .sentinel, .pinned], laidTests := true, laidLooks := .later }
def InlineBreaksCardSaid : Prop := Claim7.holds Tryz.pinned (.plain (OpenSpec.ofChange inlineBreaksSpec)) inlineBreaksCard

/-- THE SECOND FORM's CARD OF 'rubricatorlaw21.InlineNests'. -/
def inlineNestsUptoCard : Claim7 := { stood := { row := inlineNestsUptoRow, standIns := [], harness := (true, "104c66f0c0472ec98476f8dcc570ece1648816df1b5eaeadf7a84665d3bfe2dd"), looks := true }, kinds := [], alts := [], laidByText := true, laidKinds := [.data, .data, .data, .data, .sentinel, .sentinel, .pinned], laidTests := true, laidLooks := .later }
def InlineNestsUptoCardSaid : Prop := Claim7.holds Tryz.pinned (.plain (OpenSpec.upto inlineNestsSpec)) inlineNestsUptoCard

/-- THE SECOND FORM's CARD OF 'rubricatorlaw21.InlineBrackets'. -/
def inlineBracketsUptoCard : Claim7 := { stood := { row := inlineBracketsUptoRow, standIns := [], harness := (true, "104c66f0c0472ec98476f8dcc570ece1648816df1b5eaeadf7a84665d3bfe2dd"), looks := true }, kinds := [], alts := [], laidByText := true, laidKinds := [.data, .data, .data, .data, .sentinel, .sentinel, .pinned], laidTests := true, laidLooks := .later }
def InlineBracketsUptoCardSaid : Prop := Claim7.holds Tryz.pinned (.plain (OpenSpec.upto inlineBracketsSpec)) inlineBracketsUptoCard

/-- THE SECOND FORM's CARD OF 'rubricatorlaw21.InlineParses'. -/
def inlineParsesUptoCard : Claim7 := { stood := { row := inlineParsesUptoRow, standIns := [], harness := (true, "104c66f0c0472ec98476f8dcc570ece1648816df1b5eaeadf7a84665d3bfe2dd"), looks := true }, kinds := [], alts := [], laidByText := true, laidKinds := [.data, .data, .data, .data, .sentinel, .sentinel, .pinned], laidTests := true, laidLooks := .later }
def InlineParsesUptoCardSaid : Prop := Claim7.holds Tryz.pinned (.plain (OpenSpec.upto inlineParsesSpec)) inlineParsesUptoCard

/-- THE SECOND FORM's CARD OF 'rubricatorlaw21.InlineParts'. -/
def inlinePartsUptoCard : Claim7 := { stood := { row := inlinePartsUptoRow, standIns := [], harness := (true, "104c66f0c0472ec98476f8dcc570ece1648816df1b5eaeadf7a84665d3bfe2dd"), looks := true }, kinds := [], alts := [], laidByText := true, laidKinds := [.data, .data, .data, .data, .sentinel, .sentinel, .pinned], laidTests := true, laidLooks := .later }
def InlinePartsUptoCardSaid : Prop := Claim7.holds Tryz.pinned (.plain (OpenSpec.upto inlinePartsSpec)) inlinePartsUptoCard

/-- THE SECOND FORM's CARD OF 'rubricatorlaw21.InlinePlain'. -/
def inlinePlainUptoCard : Claim7 := { stood := { row := inlinePlainUptoRow, standIns := [], harness := (true, "104c66f0c0472ec98476f8dcc570ece1648816df1b5eaeadf7a84665d3bfe2dd"), looks := true }, kinds := [], alts := [], laidByText := true, laidKinds := [.data, .data, .data, .data, .sentinel, .sentinel, .pinned], laidTests := true, laidLooks := .later }
def InlinePlainUptoCardSaid : Prop := Claim7.holds Tryz.pinned (.plain (OpenSpec.upto inlinePlainSpec)) inlinePlainUptoCard

/-- THE SECOND FORM's CARD OF 'rubricatorlaw21.InlineEscaped'. -/
def inlineEscapedUptoCard : Claim7 := { stood := { row := inlineEscapedUptoRow, standIns := [], harness := (true, "104c66f0c0472ec98476f8dcc570ece1648816df1b5eaeadf7a84665d3bfe2dd"), looks := true }, kinds := [], alts := [], laidByText := true, laidKinds := [.data, .data, .data, .data, .sentinel, .sentinel, .pinned], laidTests := true, laidLooks := .later }
def InlineEscapedUptoCardSaid : Prop := Claim7.holds Tryz.pinned (.plain (OpenSpec.upto inlineEscapedSpec)) inlineEscapedUptoCard

/-- THE SECOND FORM's CARD OF 'rubricatorlaw21.InlineCode'. -/
def inlineCodeUptoCard : Claim7 := { stood := { row := inlineCodeUptoRow, standIns := [], harness := (true, "104c66f0c0472ec98476f8dcc570ece1648816df1b5eaeadf7a84665d3bfe2dd"), looks := true }, kinds := [], alts := [], laidByText := true, laidKinds := [.data, .data, .data, .data, .sentinel, .sentinel, .pinned], laidTests := true, laidLooks := .later }
def InlineCodeUptoCardSaid : Prop := Claim7.holds Tryz.pinned (.plain (OpenSpec.upto inlineCodeSpec)) inlineCodeUptoCard

/-- THE SECOND FORM's CARD OF 'rubricatorlaw21.InlineDest'. -/
def inlineDestUptoCard : Claim7 := { stood := { row := inlineDestUptoRow, standIns := [], harness := (true, "104c66f0c0472ec98476f8dcc570ece1648816df1b5eaeadf7a84665d3bfe2dd"), looks := true }, kinds := [], alts := [], laidByText := true, laidKinds := [.data, .data, .data, .data, .sentinel, .sentinel, .pinned], laidTests := true, laidLooks := .later }
def InlineDestUptoCardSaid : Prop := Claim7.holds Tryz.pinned (.plain (OpenSpec.upto inlineDestSpec)) inlineDestUptoCard

/-- THE SECOND FORM's CARD OF 'rubricatorlaw21.InlineBreaks'. -/
def inlineBreaksUptoCard : Claim7 := { stood := { row := inlineBreaksUptoRow, standIns := [], harness := (true, "104c66f0c0472ec98476f8dcc570ece1648816df1b5eaeadf7a84665d3bfe2dd"), looks := true }, kinds := [], alts := [], laidByText := true, laidKinds := [.data, .data, .data, .data, .sentinel, .sentinel, .pinned], laidTests := true, laidLooks := .later }
def InlineBreaksUptoCardSaid : Prop := Claim7.holds Tryz.pinned (.plain (OpenSpec.upto inlineBreaksSpec)) inlineBreaksUptoCard
end Rows
end Go.Proofs.YtmplfiflikhpjaaGreatDoor
