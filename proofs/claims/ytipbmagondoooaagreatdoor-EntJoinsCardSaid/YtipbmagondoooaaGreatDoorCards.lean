/-
  DERIVED. GIVEN WITH THE SEED: THE CARDS: each row of YtipbmagondoooaaGreatDoorRows.lean that lists a variable, with what it lists TIED to the program's text (the seventh form; the later family's looks); each row that meets fmt, with fmt's text TOLD by the authors' own Lean function (tested against real Go, not proved from fmt's source: count such statements apart). THE CARD IS WHAT COUNTS. Prove the row's statement (the work); the ties are given (YtipbmagondoooaaGreatDoorTie.lean); close each card by the builder's one call (the guide's Derived/Test/ToyasCard.lean, 'card_holds'). Laid BY PROGRAM, IN A SANDBOX (cutbox-door.mjs). By AI agents, Wed Nov 11 2026. No macro, syntax, notation, axiom, sorry.
-/
import Derived.Test.YtipbmagondoooaaGreatDoorRows
import GoSem.ClaimSeven
namespace Go.Proofs.YtipbmagondoooaaGreatDoor
namespace Rows

/-- THE TIED CARD OF 'rubricatorlaw9.EntHTML'. -/
def entHTMLCard : Claim7 := { stood := { row := entHTMLRow, standIns := [], harness := (true, "874e5e3414406f8cc7f4464bdd977b753358ab9416c919209c6019ec54dcbdf9"), looks := true }, kinds := [], alts := [], laidByText := true, laidKinds := [.data, .data, .data, .data, .sentinel, .sentinel, .pinned], laidTests := true, laidLooks := .later }
def EntHTMLCardSaid : Prop := Claim7.holds Tryz.pinned (.plain (OpenSpec.ofChange entHTMLSpec)) entHTMLCard

/-- THE TIED CARD OF 'rubricatorlaw9.EntJoins'. -/
def entJoinsCard : Claim7 := { stood := { row := entJoinsRow, standIns := [], harness := (true, "874e5e3414406f8cc7f4464bdd977b753358ab9416c919209c6019ec54dcbdf9"), looks := true }, kinds := [], alts := [], laidByText := true, laidKinds := [.data, .data, .data, .data, .sentinel, .sentinel, .pinned], laidTests := true, laidLooks := .later }
def EntJoinsCardSaid : Prop := Claim7.holds Tryz.pinned (.plain (OpenSpec.ofChange entJoinsSpec)) entJoinsCard

/-- THE TIED CARD OF 'rubricatorlaw9.EntSpells'. -/
def entSpellsCard : Claim7 := { stood := { row := entSpellsRow, standIns := [], harness := (true, "874e5e3414406f8cc7f4464bdd977b753358ab9416c919209c6019ec54dcbdf9"), looks := true }, kinds := [], alts := [], laidByText := true, laidKinds := [.data, .data, .data, .data, .sentinel, .sentinel, .pinned], laidTests := true, laidLooks := .later }
def EntSpellsCardSaid : Prop := Claim7.holds Tryz.pinned (.plain (OpenSpec.ofChange entSpellsSpec)) entSpellsCard

/-- THE SECOND FORM's CARD OF 'rubricatorlaw9.EntHTML'. -/
def entHTMLUptoCard : Claim7 := { stood := { row := entHTMLUptoRow, standIns := [], harness := (true, "874e5e3414406f8cc7f4464bdd977b753358ab9416c919209c6019ec54dcbdf9"), looks := true }, kinds := [], alts := [], laidByText := true, laidKinds := [.data, .data, .data, .data, .sentinel, .sentinel, .pinned], laidTests := true, laidLooks := .later }
def EntHTMLUptoCardSaid : Prop := Claim7.holds Tryz.pinned (.plain (OpenSpec.upto entHTMLSpec)) entHTMLUptoCard

/-- THE SECOND FORM's CARD OF 'rubricatorlaw9.EntJoins'. -/
def entJoinsUptoCard : Claim7 := { stood := { row := entJoinsUptoRow, standIns := [], harness := (true, "874e5e3414406f8cc7f4464bdd977b753358ab9416c919209c6019ec54dcbdf9"), looks := true }, kinds := [], alts := [], laidByText := true, laidKinds := [.data, .data, .data, .data, .sentinel, .sentinel, .pinned], laidTests := true, laidLooks := .later }
def EntJoinsUptoCardSaid : Prop := Claim7.holds Tryz.pinned (.plain (OpenSpec.upto entJoinsSpec)) entJoinsUptoCard

/-- THE SECOND FORM's CARD OF 'rubricatorlaw9.EntSpells'. -/
def entSpellsUptoCard : Claim7 := { stood := { row := entSpellsUptoRow, standIns := [], harness := (true, "874e5e3414406f8cc7f4464bdd977b753358ab9416c919209c6019ec54dcbdf9"), looks := true }, kinds := [], alts := [], laidByText := true, laidKinds := [.data, .data, .data, .data, .sentinel, .sentinel, .pinned], laidTests := true, laidLooks := .later }
def EntSpellsUptoCardSaid : Prop := Claim7.holds Tryz.pinned (.plain (OpenSpec.upto entSpellsSpec)) entSpellsUptoCard
end Rows
end Go.Proofs.YtipbmagondoooaaGreatDoor
