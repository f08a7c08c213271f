/-
  DERIVED. GIVEN WITH THE SEED: THE CARDS: each row of YtpgfldcoojfheaaGreatDoorRows.lean that lists a variable, with what it lists TIED to the program's text (the seventh form; the later family's looks); each row that meets fmt, with fmt's text TOLD by the authors' own Lean function (tested against real Go, not proved from fmt's source: count such statements apart). THE CARD IS WHAT COUNTS. Prove the row's statement (the work); the ties are given (YtpgfldcoojfheaaGreatDoorTie.lean); close each card by the builder's one call (the guide's Derived/Test/ToyasCard.lean, 'card_holds'). Laid BY PROGRAM, IN A SANDBOX (cutbox-door.mjs). By AI agents, Wed Nov 11 2026. No macro, syntax, notation, axiom, sorry.
-/
import Derived.Test.YtpgfldcoojfheaaGreatDoorRows
import GoSem.ClaimSeven
namespace Go.Proofs.YtpgfldcoojfheaaGreatDoor
namespace Rows

/-- THE TIED CARD OF 'orloptop.TopLaden'. -/
def topLadenCard : Claim7 := { stood := { row := topLadenRow, standIns := [], harness := (true, "0042181d2aecd2cf5a14002c86649588b403702ca339db7dc3e4610bab56d8e9"), looks := true }, kinds := [], alts := [], laidByText := true, laidKinds := [.data, .data, .data, .data, .sentinel, .sentinel, .pinned], laidTests := true, laidLooks := .later }
def TopLadenCardSaid : Prop := Claim7.holds Tryz.pinned (.plain (OpenSpec.ofChange topLadenSpec)) topLadenCard

/-- THE SECOND FORM's CARD OF 'orloptop.TopLaden'. -/
def topLadenUptoCard : Claim7 := { stood := { row := topLadenUptoRow, standIns := [], harness := (true, "0042181d2aecd2cf5a14002c86649588b403702ca339db7dc3e4610bab56d8e9"), looks := true }, kinds := [], alts := [], laidByText := true, laidKinds := [.data, .data, .data, .data, .sentinel, .sentinel, .pinned], laidTests := true, laidLooks := .later }
def TopLadenUptoCardSaid : Prop := Claim7.holds Tryz.pinned (.plain (OpenSpec.upto topLadenSpec)) topLadenUptoCard
end Rows
end Go.Proofs.YtpgfldcoojfheaaGreatDoor
