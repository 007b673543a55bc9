/-
  No cell of these rows narrows 'for every input' (looked for: loops, veiled, ifaces, maps, wideKeys, modest, calm, conditions, laid).
  DERIVED. THE GIVEN ROWS OF THIS SEAT. 6 by the template 'for every input the law returns true; each argument reads behind the call as it read before'; 0 by the template 'total and deterministic' (their statements: YtckpeclkkmapiaaTotals.lean).
  GIVEN WITH THE SEED: the statements are not yours to turn. If you find one false, say at which input.
  Laid BY PROGRAM, IN A SANDBOX (cutbox-rows.mjs): the forced cells as the released guide's own fill.sh prints them over the translation 75584844813e96b1… (all of the seat's roots in one cut). By AI agents, Wed Nov 11 2026. No macro, syntax, notation, axiom, sorry.
-/
import Derived.Test.YtckpeclkkmapiaaChecked
import GoSem.Claim
import GoSem.ClaimJoined
import GoSem.ClaimMapViews
import Derived.JoinedTies
import Derived.KernelRfl
namespace Go.Proofs.Ytckpeclkkmapiaa
/- THE CELL 'sum', in the pinned program and in every row, IS THE sha256 OF THE DUMP (.gsa) THAT YtckpeclkkmapiaaProg.lean LOADS. Nothing in Lean hashes anything: it is a label: what it is worth is what the hold of that sum in a sandbox is worth. -/
noncomputable def Try.pinned : Pinned := { name := "ytckpeclkkmapiaa", sum := "75584844813e96b10cec544a8f78ddae35da2da7c36c6653c949998f8577de65", checked := Try.checked }
namespace Rows
def none {H : Type} : Left H := { results := [], args := [] }

/-- 'belfrylaw03.FramesBack': WHATEVER THE INPUT: true; the input reads as it did. -/
def framesBackSpec : ChangeSpec := { name := "framesBack", fn := fun _ => fun
  | [d1, d2] => { results := [.lit (.bool true)], args := [d1, d2] }
  | _ => none }
def framesBackRow : OpenClaim := { program := "ytckpeclkkmapiaa", sum := "75584844813e96b10cec544a8f78ddae35da2da7c36c6653c949998f8577de65", func := "belfry/belfrylaw03.FramesBack", spec := "framesBack", unfollowed := true, recurses := true, apart := false }
def FramesBackSaid : Prop := framesBackRow.holds Try.pinned (OpenSpec.ofChange framesBackSpec)

/-- ITS FALSE NEIGHBOUR: 'it returns false'. Refute it at one input. -/
def framesBackWrong : ChangeSpec := { name := "framesBack", fn := fun _ => fun
  | [d1, d2] => { results := [.lit (.bool false)], args := [d1, d2] }
  | _ => none }
def FramesBackWrongFalsely : Prop := framesBackRow.holds Try.pinned (OpenSpec.ofChange framesBackWrong)

/-- 'belfrylaw03.FramesSpoils': WHATEVER THE INPUT: true; the input reads as it did. -/
def framesSpoilsSpec : ChangeSpec := { name := "framesSpoils", fn := fun _ => fun
  | [d1, d2, d3] => { results := [.lit (.bool true)], args := [d1, d2, d3] }
  | _ => none }
def framesSpoilsRow : OpenClaim := { program := "ytckpeclkkmapiaa", sum := "75584844813e96b10cec544a8f78ddae35da2da7c36c6653c949998f8577de65", func := "belfry/belfrylaw03.FramesSpoils", spec := "framesSpoils", unfollowed := true, recurses := true, apart := false }
def FramesSpoilsSaid : Prop := framesSpoilsRow.holds Try.pinned (OpenSpec.ofChange framesSpoilsSpec)

/-- ITS FALSE NEIGHBOUR: 'it returns false'. Refute it at one input. -/
def framesSpoilsWrong : ChangeSpec := { name := "framesSpoils", fn := fun _ => fun
  | [d1, d2, d3] => { results := [.lit (.bool false)], args := [d1, d2, d3] }
  | _ => none }
def FramesSpoilsWrongFalsely : Prop := framesSpoilsRow.holds Try.pinned (OpenSpec.ofChange framesSpoilsWrong)

/-- 'belfrylaw03.FramesAgain': WHATEVER THE INPUT: true; the input reads as it did. -/
def framesAgainSpec : ChangeSpec := { name := "framesAgain", fn := fun _ => fun
  | [d] => { results := [.lit (.bool true)], args := [d] }
  | _ => none }
def framesAgainRow : OpenClaim := { program := "ytckpeclkkmapiaa", sum := "75584844813e96b10cec544a8f78ddae35da2da7c36c6653c949998f8577de65", func := "belfry/belfrylaw03.FramesAgain", spec := "framesAgain", unfollowed := true, recurses := true, apart := false }
def FramesAgainSaid : Prop := framesAgainRow.holds Try.pinned (OpenSpec.ofChange framesAgainSpec)

/-- ITS FALSE NEIGHBOUR: 'it returns false'. Refute it at one input. -/
def framesAgainWrong : ChangeSpec := { name := "framesAgain", fn := fun _ => fun
  | [d] => { results := [.lit (.bool false)], args := [d] }
  | _ => none }
def FramesAgainWrongFalsely : Prop := framesAgainRow.holds Try.pinned (OpenSpec.ofChange framesAgainWrong)

/-- 'belfrylaw03.FramesTold': WHATEVER THE INPUT: true; the input reads as it did. -/
def framesToldSpec : ChangeSpec := { name := "framesTold", fn := fun _ => fun
  | [d1, d2] => { results := [.lit (.bool true)], args := [d1, d2] }
  | _ => none }
def framesToldRow : OpenClaim := { program := "ytckpeclkkmapiaa", sum := "75584844813e96b10cec544a8f78ddae35da2da7c36c6653c949998f8577de65", func := "belfry/belfrylaw03.FramesTold", spec := "framesTold", unfollowed := true, recurses := true, apart := false }
def FramesToldSaid : Prop := framesToldRow.holds Try.pinned (OpenSpec.ofChange framesToldSpec)

/-- ITS FALSE NEIGHBOUR: 'it returns false'. Refute it at one input. -/
def framesToldWrong : ChangeSpec := { name := "framesTold", fn := fun _ => fun
  | [d1, d2] => { results := [.lit (.bool false)], args := [d1, d2] }
  | _ => none }
def FramesToldWrongFalsely : Prop := framesToldRow.holds Try.pinned (OpenSpec.ofChange framesToldWrong)

/-- 'belfrylaw03.FramesRead': WHATEVER THE INPUT: true; the input reads as it did. -/
def framesReadSpec : ChangeSpec := { name := "framesRead", fn := fun _ => fun
  | [d1, d2] => { results := [.lit (.bool true)], args := [d1, d2] }
  | _ => none }
def framesReadRow : OpenClaim := { program := "ytckpeclkkmapiaa", sum := "75584844813e96b10cec544a8f78ddae35da2da7c36c6653c949998f8577de65", func := "belfry/belfrylaw03.FramesRead", spec := "framesRead", unfollowed := true, recurses := true, apart := false }
def FramesReadSaid : Prop := framesReadRow.holds Try.pinned (OpenSpec.ofChange framesReadSpec)

/-- ITS FALSE NEIGHBOUR: 'it returns false'. Refute it at one input. -/
def framesReadWrong : ChangeSpec := { name := "framesRead", fn := fun _ => fun
  | [d1, d2] => { results := [.lit (.bool false)], args := [d1, d2] }
  | _ => none }
def FramesReadWrongFalsely : Prop := framesReadRow.holds Try.pinned (OpenSpec.ofChange framesReadWrong)

/-- 'belfrylaw03.FramesApart': WHATEVER THE INPUT: true; the input reads as it did. -/
def framesApartSpec : ChangeSpec := { name := "framesApart", fn := fun _ => fun
  | [d1, d2] => { results := [.lit (.bool true)], args := [d1, d2] }
  | _ => none }
def framesApartRow : OpenClaim := { program := "ytckpeclkkmapiaa", sum := "75584844813e96b10cec544a8f78ddae35da2da7c36c6653c949998f8577de65", func := "belfry/belfrylaw03.FramesApart", spec := "framesApart", unfollowed := true, recurses := true, apart := false }
def FramesApartSaid : Prop := framesApartRow.holds Try.pinned (OpenSpec.ofChange framesApartSpec)

/-- ITS FALSE NEIGHBOUR: 'it returns false'. Refute it at one input. -/
def framesApartWrong : ChangeSpec := { name := "framesApart", fn := fun _ => fun
  | [d1, d2] => { results := [.lit (.bool false)], args := [d1, d2] }
  | _ => none }
def FramesApartWrongFalsely : Prop := framesApartRow.holds Try.pinned (OpenSpec.ofChange framesApartWrong)

/- THE SECOND FORM. 'bulk': how many values and letters a reading holds, each counted each time it is reached (what is shared counts as often as it is met; a slice's spare places count too). A statement '..UptoSaid' is the law's where the arguments, and the package variables that the reading takes, are together of bulk at most 1048576: NARROWER than '..Said'. Prove '..Said' where nothing that the law and all that it calls make is longer than what came in: it says more and counts as full. Else prove '..UptoSaid'. A law counts once. -/
mutual
def uptoBulk {H : Type} : DataW H → Nat
  | .lit (.string bytes) => bytes.length + 1
  | .lit _ => 1
  | .nil => 1
  | .ptr d => uptoBulk d + 1
  | .slice elems spare => uptoBulkAll elems + uptoBulkAll spare + 1
  | .agg parts => uptoBulkAll parts + 1
  | .iface _ d => uptoBulk d + 1
  | .map entries => uptoBulkEntries entries + 1
  | .held _ => 1
def uptoBulkAll {H : Type} : List (DataW H) → Nat
  | [] => 0
  | d :: r => uptoBulk d + uptoBulkAll r
def uptoBulkEntries {H : Type} : List (Lit × DataW H) → Nat
  | [] => 0
  | x :: r => uptoBulkEntry x + uptoBulkEntries r
def uptoBulkEntry {H : Type} : Lit × DataW H → Nat
  | (.string bytes, d) => bytes.length + uptoBulk d + 1
  | (_, d) => uptoBulk d + 1
 end
def uptoSmall : (H : Type) → List (DataW H) → Bool := fun _ ds => decide (uptoBulkAll ds ≤ 1048576)
def OpenSpec.upto (s : _root_.Go.ChangeSpec) : _root_.Go.OpenSpec := { _root_.Go.OpenSpec.ofChange s with cond := some uptoSmall }

/-- 'belfrylaw03.FramesBack', WHERE WHAT IT READS IS OF BULK AT MOST 1048576: true; the input reads as it did. -/
def framesBackUptoRow : OpenClaim := { program := "ytckpeclkkmapiaa", sum := "75584844813e96b10cec544a8f78ddae35da2da7c36c6653c949998f8577de65", func := "belfry/belfrylaw03.FramesBack", spec := "framesBack", unfollowed := true, recurses := true, apart := false, narrowed := true }
def FramesBackUptoSaid : Prop := framesBackUptoRow.holds Try.pinned (OpenSpec.upto framesBackSpec)

/-- 'belfrylaw03.FramesSpoils', WHERE WHAT IT READS IS OF BULK AT MOST 1048576: true; the input reads as it did. -/
def framesSpoilsUptoRow : OpenClaim := { program := "ytckpeclkkmapiaa", sum := "75584844813e96b10cec544a8f78ddae35da2da7c36c6653c949998f8577de65", func := "belfry/belfrylaw03.FramesSpoils", spec := "framesSpoils", unfollowed := true, recurses := true, apart := false, narrowed := true }
def FramesSpoilsUptoSaid : Prop := framesSpoilsUptoRow.holds Try.pinned (OpenSpec.upto framesSpoilsSpec)

/-- 'belfrylaw03.FramesAgain', WHERE WHAT IT READS IS OF BULK AT MOST 1048576: true; the input reads as it did. -/
def framesAgainUptoRow : OpenClaim := { program := "ytckpeclkkmapiaa", sum := "75584844813e96b10cec544a8f78ddae35da2da7c36c6653c949998f8577de65", func := "belfry/belfrylaw03.FramesAgain", spec := "framesAgain", unfollowed := true, recurses := true, apart := false, narrowed := true }
def FramesAgainUptoSaid : Prop := framesAgainUptoRow.holds Try.pinned (OpenSpec.upto framesAgainSpec)

/-- 'belfrylaw03.FramesTold', WHERE WHAT IT READS IS OF BULK AT MOST 1048576: true; the input reads as it did. -/
def framesToldUptoRow : OpenClaim := { program := "ytckpeclkkmapiaa", sum := "75584844813e96b10cec544a8f78ddae35da2da7c36c6653c949998f8577de65", func := "belfry/belfrylaw03.FramesTold", spec := "framesTold", unfollowed := true, recurses := true, apart := false, narrowed := true }
def FramesToldUptoSaid : Prop := framesToldUptoRow.holds Try.pinned (OpenSpec.upto framesToldSpec)

/-- 'belfrylaw03.FramesRead', WHERE WHAT IT READS IS OF BULK AT MOST 1048576: true; the input reads as it did. -/
def framesReadUptoRow : OpenClaim := { program := "ytckpeclkkmapiaa", sum := "75584844813e96b10cec544a8f78ddae35da2da7c36c6653c949998f8577de65", func := "belfry/belfrylaw03.FramesRead", spec := "framesRead", unfollowed := true, recurses := true, apart := false, narrowed := true }
def FramesReadUptoSaid : Prop := framesReadUptoRow.holds Try.pinned (OpenSpec.upto framesReadSpec)

/-- 'belfrylaw03.FramesApart', WHERE WHAT IT READS IS OF BULK AT MOST 1048576: true; the input reads as it did. -/
def framesApartUptoRow : OpenClaim := { program := "ytckpeclkkmapiaa", sum := "75584844813e96b10cec544a8f78ddae35da2da7c36c6653c949998f8577de65", func := "belfry/belfrylaw03.FramesApart", spec := "framesApart", unfollowed := true, recurses := true, apart := false, narrowed := true }
def FramesApartUptoSaid : Prop := framesApartUptoRow.holds Try.pinned (OpenSpec.upto framesApartSpec)

end Rows
end Go.Proofs.Ytckpeclkkmapiaa
