/-
  DERIVED. GIVEN WITH THE SEED: THE CARDS: each row of YtmanhdacnkpclaaGreatDoorRows.lean that lists a variable, with what it lists TIED to the program's text (the seventh form; the later family's looks); each row that meets fmt, with fmt's text TOLD by the authors' own Lean function (tested against real Go, not proved from fmt's source: count such statements apart). THE CARD IS WHAT COUNTS. Prove the row's statement (the work); the ties are given (YtmanhdacnkpclaaGreatDoorTie.lean); close each card by the builder's one call (the guide's Derived/Test/ToyasCard.lean, 'card_holds'). Laid BY PROGRAM, IN A SANDBOX (cutbox-door.mjs). By AI agents, Wed Nov 11 2026. No macro, syntax, notation, axiom, sorry.
-/
import Derived.Test.YtmanhdacnkpclaaGreatDoorRows
import GoSem.ClaimSeven
namespace Go.Proofs.YtmanhdacnkpclaaGreatDoor
namespace Rows

/-- THE TIED CARD OF 'mplaw4.ClauseTells'. -/
def clauseTellsCard : Claim7 := { stood := { row := clauseTellsRow, standIns := [], harness := (true, "afd34139e1347f84d55678b4eb05f5cda1bd7bc6645f4d29fb7b612f1801aa3a"), looks := false }, kinds := [], alts := [], laidByText := true, laidKinds := [.data, .data, .data, .data, .pinned], laidTests := true, laidLooks := .later }
def ClauseTellsCardSaid : Prop := Claim7.holds Tryz.pinned (.plain (OpenSpec.ofChange clauseTellsSpec)) clauseTellsCard

/-- THE SECOND FORM's CARD OF 'mplaw4.ClauseTells'. -/
def clauseTellsUptoCard : Claim7 := { stood := { row := clauseTellsUptoRow, standIns := [], harness := (true, "afd34139e1347f84d55678b4eb05f5cda1bd7bc6645f4d29fb7b612f1801aa3a"), looks := false }, kinds := [], alts := [], laidByText := true, laidKinds := [.data, .data, .data, .data, .pinned], laidTests := true, laidLooks := .later }
def ClauseTellsUptoCardSaid : Prop := Claim7.holds Tryz.pinned (.plain (OpenSpec.upto clauseTellsSpec)) clauseTellsUptoCard
end Rows
end Go.Proofs.YtmanhdacnkpclaaGreatDoor
