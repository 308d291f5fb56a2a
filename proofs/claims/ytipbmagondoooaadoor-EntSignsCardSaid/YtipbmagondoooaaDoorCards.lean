/-
  DERIVED. GIVEN WITH THE SEED: THE CARDS: each row of YtipbmagondoooaaDoorRows.lean that lists a variable, with what it lists TIED to the program's text (the seventh form; the later family's looks); each row that meets fmt, with fmt's text TOLD by the authors' own Lean function (tested against real Go, not proved from fmt's source: count such statements apart). THE CARD IS WHAT COUNTS. Prove the row's statement (the work); the ties are given (YtipbmagondoooaaDoorTie.lean); close each card by the builder's one call (the guide's Derived/Test/ToyasCard.lean, 'card_holds'). Laid BY PROGRAM, IN A SANDBOX (cutbox-door.mjs). By AI agents, Wed Nov 11 2026. No macro, syntax, notation, axiom, sorry.
-/
import Derived.Test.YtipbmagondoooaaDoorRows
import GoSem.ClaimSeven
namespace Go.Proofs.YtipbmagondoooaaDoor
namespace Rows

/-- THE TIED CARD OF 'rubricatorlaw9.EntAt'. -/
def entAtCard : Claim7 := { stood := { row := entAtRow, standIns := [], harness := (true, "c454922f7a023848aaa5c79725c2c2346b93c8a345bc696c361326c248c2670b"), looks := true }, kinds := [], alts := [], laidByText := true, laidKinds := [.data, .data, .data, .data, .sentinel, .sentinel, .pinned], laidTests := true, laidLooks := .later }
def EntAtCardSaid : Prop := Claim7.holds Tryd.pinned (.plain (OpenSpec.ofChange entAtSpec)) entAtCard

/-- THE TIED CARD OF 'rubricatorlaw9.EntUnescapes'. -/
def entUnescapesCard : Claim7 := { stood := { row := entUnescapesRow, standIns := [], harness := (true, "c454922f7a023848aaa5c79725c2c2346b93c8a345bc696c361326c248c2670b"), looks := true }, kinds := [], alts := [], laidByText := true, laidKinds := [.data, .data, .data, .data, .sentinel, .sentinel, .pinned], laidTests := true, laidLooks := .later }
def EntUnescapesCardSaid : Prop := Claim7.holds Tryd.pinned (.plain (OpenSpec.ofChange entUnescapesSpec)) entUnescapesCard

/-- THE TIED CARD OF 'rubricatorlaw9.EntNumbers'. -/
def entNumbersCard : Claim7 := { stood := { row := entNumbersRow, standIns := [], harness := (true, "c454922f7a023848aaa5c79725c2c2346b93c8a345bc696c361326c248c2670b"), looks := true }, kinds := [], alts := [], laidByText := true, laidKinds := [.data, .data, .data, .data, .sentinel, .sentinel, .pinned], laidTests := true, laidLooks := .later }
def EntNumbersCardSaid : Prop := Claim7.holds Tryd.pinned (.plain (OpenSpec.ofChange entNumbersSpec)) entNumbersCard

/-- THE TIED CARD OF 'rubricatorlaw9.EntSigns'. -/
def entSignsCard : Claim7 := { stood := { row := entSignsRow, standIns := [], harness := (true, "c454922f7a023848aaa5c79725c2c2346b93c8a345bc696c361326c248c2670b"), looks := true }, kinds := [], alts := [], laidByText := true, laidKinds := [.data, .data, .data, .data, .sentinel, .sentinel, .pinned], laidTests := true, laidLooks := .later }
def EntSignsCardSaid : Prop := Claim7.holds Tryd.pinned (.plain (OpenSpec.ofChange entSignsSpec)) entSignsCard

/-- THE TIED CARD OF 'rubricatorlaw9.EntBytes'. -/
def entBytesCard : Claim7 := { stood := { row := entBytesRow, standIns := [], harness := (true, "c454922f7a023848aaa5c79725c2c2346b93c8a345bc696c361326c248c2670b"), looks := true }, kinds := [], alts := [], laidByText := true, laidKinds := [.data, .data, .data, .data, .sentinel, .sentinel, .pinned], laidTests := true, laidLooks := .later }
def EntBytesCardSaid : Prop := Claim7.holds Tryd.pinned (.plain (OpenSpec.ofChange entBytesSpec)) entBytesCard

/-- THE TIED CARD OF 'rubricatorlaw18.LeafFences'. -/
def leafFencesCard : Claim7 := { stood := { row := leafFencesRow, standIns := [], harness := (true, "c454922f7a023848aaa5c79725c2c2346b93c8a345bc696c361326c248c2670b"), looks := true }, kinds := [], alts := [], laidByText := true, laidKinds := [.data, .data, .data, .data, .sentinel, .sentinel, .pinned], laidTests := true, laidLooks := .later }
def LeafFencesCardSaid : Prop := Claim7.holds Tryd.pinned (.plain (OpenSpec.ofChange leafFencesSpec)) leafFencesCard

/-- THE SECOND FORM's CARD OF 'rubricatorlaw9.EntAt'. -/
def entAtUptoCard : Claim7 := { stood := { row := entAtUptoRow, standIns := [], harness := (true, "c454922f7a023848aaa5c79725c2c2346b93c8a345bc696c361326c248c2670b"), looks := true }, kinds := [], alts := [], laidByText := true, laidKinds := [.data, .data, .data, .data, .sentinel, .sentinel, .pinned], laidTests := true, laidLooks := .later }
def EntAtUptoCardSaid : Prop := Claim7.holds Tryd.pinned (.plain (OpenSpec.upto entAtSpec)) entAtUptoCard

/-- THE SECOND FORM's CARD OF 'rubricatorlaw9.EntUnescapes'. -/
def entUnescapesUptoCard : Claim7 := { stood := { row := entUnescapesUptoRow, standIns := [], harness := (true, "c454922f7a023848aaa5c79725c2c2346b93c8a345bc696c361326c248c2670b"), looks := true }, kinds := [], alts := [], laidByText := true, laidKinds := [.data, .data, .data, .data, .sentinel, .sentinel, .pinned], laidTests := true, laidLooks := .later }
def EntUnescapesUptoCardSaid : Prop := Claim7.holds Tryd.pinned (.plain (OpenSpec.upto entUnescapesSpec)) entUnescapesUptoCard

/-- THE SECOND FORM's CARD OF 'rubricatorlaw9.EntNumbers'. -/
def entNumbersUptoCard : Claim7 := { stood := { row := entNumbersUptoRow, standIns := [], harness := (true, "c454922f7a023848aaa5c79725c2c2346b93c8a345bc696c361326c248c2670b"), looks := true }, kinds := [], alts := [], laidByText := true, laidKinds := [.data, .data, .data, .data, .sentinel, .sentinel, .pinned], laidTests := true, laidLooks := .later }
def EntNumbersUptoCardSaid : Prop := Claim7.holds Tryd.pinned (.plain (OpenSpec.upto entNumbersSpec)) entNumbersUptoCard

/-- THE SECOND FORM's CARD OF 'rubricatorlaw9.EntSigns'. -/
def entSignsUptoCard : Claim7 := { stood := { row := entSignsUptoRow, standIns := [], harness := (true, "c454922f7a023848aaa5c79725c2c2346b93c8a345bc696c361326c248c2670b"), looks := true }, kinds := [], alts := [], laidByText := true, laidKinds := [.data, .data, .data, .data, .sentinel, .sentinel, .pinned], laidTests := true, laidLooks := .later }
def EntSignsUptoCardSaid : Prop := Claim7.holds Tryd.pinned (.plain (OpenSpec.upto entSignsSpec)) entSignsUptoCard

/-- THE SECOND FORM's CARD OF 'rubricatorlaw9.EntBytes'. -/
def entBytesUptoCard : Claim7 := { stood := { row := entBytesUptoRow, standIns := [], harness := (true, "c454922f7a023848aaa5c79725c2c2346b93c8a345bc696c361326c248c2670b"), looks := true }, kinds := [], alts := [], laidByText := true, laidKinds := [.data, .data, .data, .data, .sentinel, .sentinel, .pinned], laidTests := true, laidLooks := .later }
def EntBytesUptoCardSaid : Prop := Claim7.holds Tryd.pinned (.plain (OpenSpec.upto entBytesSpec)) entBytesUptoCard

/-- THE SECOND FORM's CARD OF 'rubricatorlaw18.LeafFences'. -/
def leafFencesUptoCard : Claim7 := { stood := { row := leafFencesUptoRow, standIns := [], harness := (true, "c454922f7a023848aaa5c79725c2c2346b93c8a345bc696c361326c248c2670b"), looks := true }, kinds := [], alts := [], laidByText := true, laidKinds := [.data, .data, .data, .data, .sentinel, .sentinel, .pinned], laidTests := true, laidLooks := .later }
def LeafFencesUptoCardSaid : Prop := Claim7.holds Tryd.pinned (.plain (OpenSpec.upto leafFencesSpec)) leafFencesUptoCard
end Rows
end Go.Proofs.YtipbmagondoooaaDoor
