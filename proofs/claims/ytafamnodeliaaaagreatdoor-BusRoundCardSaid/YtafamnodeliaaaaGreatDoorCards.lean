/-
  DERIVED. GIVEN WITH THE SEED: THE CARDS: each row of YtafamnodeliaaaaGreatDoorRows.lean that lists a variable, with what it lists TIED to the program's text (the seventh form; the later family's looks); each row that meets fmt, with fmt's text TOLD by the authors' own Lean function (tested against real Go, not proved from fmt's source: count such statements apart). THE CARD IS WHAT COUNTS. Prove the row's statement (the work); the ties are given (YtafamnodeliaaaaGreatDoorTie.lean); close each card by the builder's one call (the guide's Derived/Test/ToyasCard.lean, 'card_holds'). Laid BY PROGRAM, IN A SANDBOX (cutbox-door.mjs). By AI agents, Wed Nov 11 2026. No macro, syntax, notation, axiom, sorry.
-/
import Derived.Test.YtafamnodeliaaaaGreatDoorRows
import GoSem.ClaimSeven
namespace Go.Proofs.YtafamnodeliaaaaGreatDoor
namespace Rows

/-- THE TIED CARD OF 'belfrylaw22.BusRound'. -/
def busRoundCard : Claim7 := { stood := { row := busRoundRow, standIns := [], harness := (true, "995734d3261958e01becf2532b64f3e5a73f625b065f5d9b870034914394816d"), looks := false }, kinds := [], alts := [], laidByText := true, laidKinds := [.data, .data, .data], laidTests := true, laidLooks := .later }
def BusRoundCardSaid : Prop := Claim7.holds Tryz.pinned (.plain (OpenSpec.ofChange busRoundSpec)) busRoundCard

/-- THE SECOND FORM's CARD OF 'belfrylaw22.BusRound'. -/
def busRoundUptoCard : Claim7 := { stood := { row := busRoundUptoRow, standIns := [], harness := (true, "995734d3261958e01becf2532b64f3e5a73f625b065f5d9b870034914394816d"), looks := false }, kinds := [], alts := [], laidByText := true, laidKinds := [.data, .data, .data], laidTests := true, laidLooks := .later }
def BusRoundUptoCardSaid : Prop := Claim7.holds Tryz.pinned (.plain (OpenSpec.upto busRoundSpec)) busRoundUptoCard
end Rows
end Go.Proofs.YtafamnodeliaaaaGreatDoor
