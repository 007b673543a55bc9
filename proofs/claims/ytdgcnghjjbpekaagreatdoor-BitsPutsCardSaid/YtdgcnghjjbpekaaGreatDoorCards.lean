/-
  DERIVED. GIVEN WITH THE SEED: THE CARDS: each row of YtdgcnghjjbpekaaGreatDoorRows.lean that lists a variable, with what it lists TIED to the program's text (the seventh form; the later family's looks); each row that meets fmt, with fmt's text TOLD by the authors' own Lean function (tested against real Go, not proved from fmt's source: count such statements apart). THE CARD IS WHAT COUNTS. Prove the row's statement (the work); the ties are given (YtdgcnghjjbpekaaGreatDoorTie.lean); close each card by the builder's one call (the guide's Derived/Test/ToyasCard.lean, 'card_holds'). Laid BY PROGRAM, IN A SANDBOX (cutbox-door.mjs). By AI agents, Wed Nov 11 2026. No macro, syntax, notation, axiom, sorry.
-/
import Derived.Test.YtdgcnghjjbpekaaGreatDoorRows
import GoSem.ClaimSeven
namespace Go.Proofs.YtdgcnghjjbpekaaGreatDoor
namespace Rows

/-- THE TIED CARD OF 'belfrylaw02.BitsPuts'. -/
def bitsPutsCard : Claim7 := { stood := { row := bitsPutsRow, standIns := [], harness := (true, "435ebafc9f34feaa877150aa92c145b18aedfca34b0d5092118430835a60b447"), looks := false }, kinds := [], alts := [], laidByText := true, laidKinds := [.data, .data, .data], laidTests := true, laidLooks := .later }
def BitsPutsCardSaid : Prop := Claim7.holds Tryz.pinned (.plain (OpenSpec.ofChange bitsPutsSpec)) bitsPutsCard

/-- THE SECOND FORM's CARD OF 'belfrylaw02.BitsPuts'. -/
def bitsPutsUptoCard : Claim7 := { stood := { row := bitsPutsUptoRow, standIns := [], harness := (true, "435ebafc9f34feaa877150aa92c145b18aedfca34b0d5092118430835a60b447"), looks := false }, kinds := [], alts := [], laidByText := true, laidKinds := [.data, .data, .data], laidTests := true, laidLooks := .later }
def BitsPutsUptoCardSaid : Prop := Claim7.holds Tryz.pinned (.plain (OpenSpec.upto bitsPutsSpec)) bitsPutsUptoCard
end Rows
end Go.Proofs.YtdgcnghjjbpekaaGreatDoor
