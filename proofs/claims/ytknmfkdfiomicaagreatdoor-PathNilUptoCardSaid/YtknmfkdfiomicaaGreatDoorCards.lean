/-
  DERIVED. GIVEN WITH THE SEED: THE CARDS: each row of YtknmfkdfiomicaaGreatDoorRows.lean that lists a variable, with what it lists TIED to the program's text (the seventh form; the later family's looks); each row that meets fmt, with fmt's text TOLD by the authors' own Lean function (tested against real Go, not proved from fmt's source: count such statements apart). THE CARD IS WHAT COUNTS. Prove the row's statement (the work); the ties are given (YtknmfkdfiomicaaGreatDoorTie.lean); close each card by the builder's one call (the guide's Derived/Test/ToyasCard.lean, 'card_holds'). Laid BY PROGRAM, IN A SANDBOX (cutbox-door.mjs). By AI agents, Wed Nov 11 2026. No macro, syntax, notation, axiom, sorry.
-/
import Derived.Test.YtknmfkdfiomicaaGreatDoorRows
import GoSem.ClaimSeven
namespace Go.Proofs.YtknmfkdfiomicaaGreatDoor
namespace Rows

/-- THE TIED CARD OF 'synodlaw19.PathNil'. -/
def pathNilCard : Claim7 := { stood := { row := pathNilRow, standIns := [], harness := (true, "dac14a3e37a2e13369a5c8bfc1f9c5339affb5c2d3294504b069375d8d38f665"), looks := true }, kinds := [], alts := [], laidByText := true, laidKinds := [.data, .data, .data, .data], laidTests := true, laidLooks := .later }
def PathNilCardSaid : Prop := Claim7.holds Tryz.pinned (.plain (OpenSpec.ofChange pathNilSpec)) pathNilCard

/-- THE SECOND FORM's CARD OF 'synodlaw19.PathNil'. -/
def pathNilUptoCard : Claim7 := { stood := { row := pathNilUptoRow, standIns := [], harness := (true, "dac14a3e37a2e13369a5c8bfc1f9c5339affb5c2d3294504b069375d8d38f665"), looks := true }, kinds := [], alts := [], laidByText := true, laidKinds := [.data, .data, .data, .data], laidTests := true, laidLooks := .later }
def PathNilUptoCardSaid : Prop := Claim7.holds Tryz.pinned (.plain (OpenSpec.upto pathNilSpec)) pathNilUptoCard
end Rows
end Go.Proofs.YtknmfkdfiomicaaGreatDoor
