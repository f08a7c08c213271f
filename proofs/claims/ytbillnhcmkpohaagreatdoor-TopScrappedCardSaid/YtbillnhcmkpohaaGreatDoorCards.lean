/-
  DERIVED. GIVEN WITH THE SEED: THE CARDS: each row of YtbillnhcmkpohaaGreatDoorRows.lean that lists a variable, with what it lists TIED to the program's text (the seventh form; the later family's looks); each row that meets fmt, with fmt's text TOLD by the authors' own Lean function (tested against real Go, not proved from fmt's source: count such statements apart). THE CARD IS WHAT COUNTS. Prove the row's statement (the work); the ties are given (YtbillnhcmkpohaaGreatDoorTie.lean); close each card by the builder's one call (the guide's Derived/Test/ToyasCard.lean, 'card_holds'). Laid BY PROGRAM, IN A SANDBOX (cutbox-door.mjs). By AI agents, Wed Nov 11 2026. No macro, syntax, notation, axiom, sorry.
-/
import Derived.Test.YtbillnhcmkpohaaGreatDoorRows
import GoSem.ClaimSeven
namespace Go.Proofs.YtbillnhcmkpohaaGreatDoor
namespace Rows

/-- THE TIED CARD OF 'orloptop.TopScrapped'. -/
def topScrappedCard : Claim7 := { stood := { row := topScrappedRow, standIns := [], harness := (true, "5422cbec3b8163ea5be61699f3b1ade5ca33b5a6e924dedfc933f18363ee60c8"), looks := true }, kinds := [], alts := [], laidByText := true, laidKinds := [.data, .data, .data, .data, .sentinel, .sentinel, .pinned], laidTests := true, laidLooks := .later }
def TopScrappedCardSaid : Prop := Claim7.holds Tryz.pinned (.plain (OpenSpec.ofChange topScrappedSpec)) topScrappedCard

/-- THE SECOND FORM's CARD OF 'orloptop.TopScrapped'. -/
def topScrappedUptoCard : Claim7 := { stood := { row := topScrappedUptoRow, standIns := [], harness := (true, "5422cbec3b8163ea5be61699f3b1ade5ca33b5a6e924dedfc933f18363ee60c8"), looks := true }, kinds := [], alts := [], laidByText := true, laidKinds := [.data, .data, .data, .data, .sentinel, .sentinel, .pinned], laidTests := true, laidLooks := .later }
def TopScrappedUptoCardSaid : Prop := Claim7.holds Tryz.pinned (.plain (OpenSpec.upto topScrappedSpec)) topScrappedUptoCard
end Rows
end Go.Proofs.YtbillnhcmkpohaaGreatDoor
