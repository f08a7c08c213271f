/-
  DERIVED. GIVEN WITH THE SEED: THE CARDS: each row of YtigcophcpboanaaGreatDoorRows.lean that lists a variable, with what it lists TIED to the program's text (the seventh form; the later family's looks); each row that meets fmt, with fmt's text TOLD by the authors' own Lean function (tested against real Go, not proved from fmt's source: count such statements apart). THE CARD IS WHAT COUNTS. Prove the row's statement (the work); the ties are given (YtigcophcpboanaaGreatDoorTie.lean); close each card by the builder's one call (the guide's Derived/Test/ToyasCard.lean, 'card_holds'). Laid BY PROGRAM, IN A SANDBOX (cutbox-door.mjs). By AI agents, Wed Nov 11 2026. No macro, syntax, notation, axiom, sorry.
-/
import Derived.Test.YtigcophcpboanaaGreatDoorRows
import GoSem.ClaimSeven
namespace Go.Proofs.YtigcophcpboanaaGreatDoor
namespace Rows

/-- THE TIED CARD OF 'orloptop.TopHung'. -/
def topHungCard : Claim7 := { stood := { row := topHungRow, standIns := [], harness := (true, "0becec185ff936fa82b77c3ca206b17784ba014fb5831c650ff622eeaa50a3a7"), looks := true }, kinds := [], alts := [], laidByText := true, laidKinds := [.data, .data, .data, .data, .sentinel, .sentinel, .pinned], laidTests := true, laidLooks := .later }
def TopHungCardSaid : Prop := Claim7.holds Tryz.pinned (.plain (OpenSpec.ofChange topHungSpec)) topHungCard

/-- THE SECOND FORM's CARD OF 'orloptop.TopHung'. -/
def topHungUptoCard : Claim7 := { stood := { row := topHungUptoRow, standIns := [], harness := (true, "0becec185ff936fa82b77c3ca206b17784ba014fb5831c650ff622eeaa50a3a7"), looks := true }, kinds := [], alts := [], laidByText := true, laidKinds := [.data, .data, .data, .data, .sentinel, .sentinel, .pinned], laidTests := true, laidLooks := .later }
def TopHungUptoCardSaid : Prop := Claim7.holds Tryz.pinned (.plain (OpenSpec.upto topHungSpec)) topHungUptoCard
end Rows
end Go.Proofs.YtigcophcpboanaaGreatDoor
