/-
  DERIVED. GIVEN WITH THE SEED: THE CARDS: each row of YtckpeclkkmapiaaGreatDoorRows.lean that lists a variable, with what it lists TIED to the program's text (the seventh form; the later family's looks); each row that meets fmt, with fmt's text TOLD by the authors' own Lean function (tested against real Go, not proved from fmt's source: count such statements apart). THE CARD IS WHAT COUNTS. Prove the row's statement (the work); the ties are given (YtckpeclkkmapiaaGreatDoorTie.lean); close each card by the builder's one call (the guide's Derived/Test/ToyasCard.lean, 'card_holds'). Laid BY PROGRAM, IN A SANDBOX (cutbox-door.mjs). By AI agents, Wed Nov 11 2026. No macro, syntax, notation, axiom, sorry.
-/
import Derived.Test.YtckpeclkkmapiaaGreatDoorRows
import GoSem.ClaimSeven
namespace Go.Proofs.YtckpeclkkmapiaaGreatDoor
namespace Rows

/-- THE TIED CARD OF 'belfrylaw03.FramesValues'. -/
def framesValuesCard : Claim7 := { stood := { row := framesValuesRow, standIns := [], harness := (true, "051014e329cf3488b4072dcedbd5ccbd74342214b7572fce4aafb1085ca9bcd7"), looks := false }, kinds := [], alts := [], laidByText := true, laidKinds := [.data, .data, .data], laidTests := true, laidLooks := .later }
def FramesValuesCardSaid : Prop := Claim7.holds Tryz.pinned (.plain (OpenSpec.ofChange framesValuesSpec)) framesValuesCard

/-- THE TIED CARD OF 'belfrylaw03.FramesPayloads'. -/
def framesPayloadsCard : Claim7 := { stood := { row := framesPayloadsRow, standIns := [], harness := (true, "051014e329cf3488b4072dcedbd5ccbd74342214b7572fce4aafb1085ca9bcd7"), looks := false }, kinds := [], alts := [], laidByText := true, laidKinds := [.data, .data, .data], laidTests := true, laidLooks := .later }
def FramesPayloadsCardSaid : Prop := Claim7.holds Tryz.pinned (.plain (OpenSpec.ofChange framesPayloadsSpec)) framesPayloadsCard

/-- THE TIED CARD OF 'belfrylaw03.FramesGets'. -/
def framesGetsCard : Claim7 := { stood := { row := framesGetsRow, standIns := [], harness := (true, "051014e329cf3488b4072dcedbd5ccbd74342214b7572fce4aafb1085ca9bcd7"), looks := false }, kinds := [], alts := [], laidByText := true, laidKinds := [.data, .data, .data], laidTests := true, laidLooks := .later }
def FramesGetsCardSaid : Prop := Claim7.holds Tryz.pinned (.plain (OpenSpec.ofChange framesGetsSpec)) framesGetsCard

/-- THE TIED CARD OF 'belfrylaw03.FramesPuts'. -/
def framesPutsCard : Claim7 := { stood := { row := framesPutsRow, standIns := [], harness := (true, "051014e329cf3488b4072dcedbd5ccbd74342214b7572fce4aafb1085ca9bcd7"), looks := false }, kinds := [], alts := [], laidByText := true, laidKinds := [.data, .data, .data], laidTests := true, laidLooks := .later }
def FramesPutsCardSaid : Prop := Claim7.holds Tryz.pinned (.plain (OpenSpec.ofChange framesPutsSpec)) framesPutsCard

/-- THE SECOND FORM's CARD OF 'belfrylaw03.FramesValues'. -/
def framesValuesUptoCard : Claim7 := { stood := { row := framesValuesUptoRow, standIns := [], harness := (true, "051014e329cf3488b4072dcedbd5ccbd74342214b7572fce4aafb1085ca9bcd7"), looks := false }, kinds := [], alts := [], laidByText := true, laidKinds := [.data, .data, .data], laidTests := true, laidLooks := .later }
def FramesValuesUptoCardSaid : Prop := Claim7.holds Tryz.pinned (.plain (OpenSpec.upto framesValuesSpec)) framesValuesUptoCard

/-- THE SECOND FORM's CARD OF 'belfrylaw03.FramesPayloads'. -/
def framesPayloadsUptoCard : Claim7 := { stood := { row := framesPayloadsUptoRow, standIns := [], harness := (true, "051014e329cf3488b4072dcedbd5ccbd74342214b7572fce4aafb1085ca9bcd7"), looks := false }, kinds := [], alts := [], laidByText := true, laidKinds := [.data, .data, .data], laidTests := true, laidLooks := .later }
def FramesPayloadsUptoCardSaid : Prop := Claim7.holds Tryz.pinned (.plain (OpenSpec.upto framesPayloadsSpec)) framesPayloadsUptoCard

/-- THE SECOND FORM's CARD OF 'belfrylaw03.FramesGets'. -/
def framesGetsUptoCard : Claim7 := { stood := { row := framesGetsUptoRow, standIns := [], harness := (true, "051014e329cf3488b4072dcedbd5ccbd74342214b7572fce4aafb1085ca9bcd7"), looks := false }, kinds := [], alts := [], laidByText := true, laidKinds := [.data, .data, .data], laidTests := true, laidLooks := .later }
def FramesGetsUptoCardSaid : Prop := Claim7.holds Tryz.pinned (.plain (OpenSpec.upto framesGetsSpec)) framesGetsUptoCard

/-- THE SECOND FORM's CARD OF 'belfrylaw03.FramesPuts'. -/
def framesPutsUptoCard : Claim7 := { stood := { row := framesPutsUptoRow, standIns := [], harness := (true, "051014e329cf3488b4072dcedbd5ccbd74342214b7572fce4aafb1085ca9bcd7"), looks := false }, kinds := [], alts := [], laidByText := true, laidKinds := [.data, .data, .data], laidTests := true, laidLooks := .later }
def FramesPutsUptoCardSaid : Prop := Claim7.holds Tryz.pinned (.plain (OpenSpec.upto framesPutsSpec)) framesPutsUptoCard
end Rows
end Go.Proofs.YtckpeclkkmapiaaGreatDoor
