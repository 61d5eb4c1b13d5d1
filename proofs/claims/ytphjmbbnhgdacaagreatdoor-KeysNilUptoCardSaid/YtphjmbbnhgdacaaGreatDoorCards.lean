/-
  DERIVED. GIVEN WITH THE SEED: THE CARDS: each row of YtphjmbbnhgdacaaGreatDoorRows.lean that lists a variable, with what it lists TIED to the program's text (the seventh form; the later family's looks); each row that meets fmt, with fmt's text TOLD by the authors' own Lean function (tested against real Go, not proved from fmt's source: count such statements apart). THE CARD IS WHAT COUNTS. Prove the row's statement (the work); the ties are given (YtphjmbbnhgdacaaGreatDoorTie.lean); close each card by the builder's one call (the guide's Derived/Test/ToyasCard.lean, 'card_holds'). Laid BY PROGRAM, IN A SANDBOX (cutbox-door.mjs). By AI agents, Wed Nov 11 2026. No macro, syntax, notation, axiom, sorry.
-/
import Derived.Test.YtphjmbbnhgdacaaGreatDoorRows
import GoSem.ClaimSeven
namespace Go.Proofs.YtphjmbbnhgdacaaGreatDoor
namespace Rows

/-- THE TIED CARD OF 'synodlaw20.KeysNil'. -/
def keysNilCard : Claim7 := { stood := { row := keysNilRow, standIns := [], harness := (true, "7eb13dcd5f8b7c4d38362af5c1bdd6a69036d0429dfb41b71468be94c95c41c4"), looks := true }, kinds := [], alts := [], laidByText := true, laidKinds := [.data, .data, .data, .data], laidTests := true, laidLooks := .later }
def KeysNilCardSaid : Prop := Claim7.holds Tryz.pinned (.plain (OpenSpec.ofChange keysNilSpec)) keysNilCard

/-- THE SECOND FORM's CARD OF 'synodlaw20.KeysNil'. -/
def keysNilUptoCard : Claim7 := { stood := { row := keysNilUptoRow, standIns := [], harness := (true, "7eb13dcd5f8b7c4d38362af5c1bdd6a69036d0429dfb41b71468be94c95c41c4"), looks := true }, kinds := [], alts := [], laidByText := true, laidKinds := [.data, .data, .data, .data], laidTests := true, laidLooks := .later }
def KeysNilUptoCardSaid : Prop := Claim7.holds Tryz.pinned (.plain (OpenSpec.upto keysNilSpec)) keysNilUptoCard
end Rows
end Go.Proofs.YtphjmbbnhgdacaaGreatDoor
