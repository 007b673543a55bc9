/-
  DERIVED. GIVEN WITH THE SEED: THE CARDS: each row of YtppjphelibdlcaaGreatDoorRows.lean that lists a variable, with what it lists TIED to the program's text (the seventh form; the later family's looks); each row that meets fmt, with fmt's text TOLD by the authors' own Lean function (tested against real Go, not proved from fmt's source: count such statements apart). THE CARD IS WHAT COUNTS. Prove the row's statement (the work); the ties are given (YtppjphelibdlcaaGreatDoorTie.lean); close each card by the builder's one call (the guide's Derived/Test/ToyasCard.lean, 'card_holds'). Laid BY PROGRAM, IN A SANDBOX (cutbox-door.mjs). By AI agents, Wed Nov 11 2026. No macro, syntax, notation, axiom, sorry.
-/
import Derived.Test.YtppjphelibdlcaaGreatDoorRows
import GoSem.ClaimSeven
namespace Go.Proofs.YtppjphelibdlcaaGreatDoor
namespace Rows

/-- THE TIED CARD OF 'belfrylaw16.SlotsMake'. -/
def slotsMakeCard : Claim7 := { stood := { row := slotsMakeRow, standIns := [], harness := (true, "79c4c0195521a0744d51d154c350633d9ce81e1dd08d38d254b1651c80f9150a"), looks := false }, kinds := [], alts := [], laidByText := true, laidKinds := [.data, .data, .data], laidTests := true, laidLooks := .later }
def SlotsMakeCardSaid : Prop := Claim7.holds Tryz.pinned (.plain (OpenSpec.ofChange slotsMakeSpec)) slotsMakeCard

/-- THE SECOND FORM's CARD OF 'belfrylaw16.SlotsMake'. -/
def slotsMakeUptoCard : Claim7 := { stood := { row := slotsMakeUptoRow, standIns := [], harness := (true, "79c4c0195521a0744d51d154c350633d9ce81e1dd08d38d254b1651c80f9150a"), looks := false }, kinds := [], alts := [], laidByText := true, laidKinds := [.data, .data, .data], laidTests := true, laidLooks := .later }
def SlotsMakeUptoCardSaid : Prop := Claim7.holds Tryz.pinned (.plain (OpenSpec.upto slotsMakeSpec)) slotsMakeUptoCard
end Rows
end Go.Proofs.YtppjphelibdlcaaGreatDoor
