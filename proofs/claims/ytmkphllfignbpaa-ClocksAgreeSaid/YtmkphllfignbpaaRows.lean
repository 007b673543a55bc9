/-
  No cell of these rows narrows 'for every input' (looked for: loops, veiled, ifaces, maps, wideKeys, modest, calm, conditions, laid).
  DERIVED. THE GIVEN ROWS OF THIS SEAT. 5 by the template 'for every input the law returns true; each argument reads behind the call as it read before'; 0 by the template 'total and deterministic' (their statements: YtmkphllfignbpaaTotals.lean).
  GIVEN WITH THE SEED: the statements are not yours to turn. If you find one false, say at which input.
  Laid BY PROGRAM, IN A SANDBOX (cutbox-rows.mjs): the forced cells as the released guide's own fill.sh prints them over the translation db55bb1f675420b3… (all of the seat's roots in one cut). By AI agents, Wed Nov 11 2026. No macro, syntax, notation, axiom, sorry.
-/
import Derived.Test.YtmkphllfignbpaaChecked
import GoSem.Claim
import GoSem.ClaimJoined
import GoSem.ClaimMapViews
import Derived.JoinedTies
import Derived.KernelRfl
namespace Go.Proofs.Ytmkphllfignbpaa
/- THE CELL 'sum', in the pinned program and in every row, IS THE sha256 OF THE DUMP (.gsa) THAT YtmkphllfignbpaaProg.lean LOADS. Nothing in Lean hashes anything: it is a label: what it is worth is what the hold of that sum in a sandbox is worth. -/
noncomputable def Try.pinned : Pinned := { name := "ytmkphllfignbpaa", sum := "db55bb1f675420b3374f4db033bef43d82bbc103b8765b6e2d48b54ae859f8f0", checked := Try.checked }
namespace Rows
def none {H : Type} : Left H := { results := [], args := [] }

/-- 'belfrylaw20.ClocksMid': WHATEVER THE INPUT: true; the input reads as it did. -/
def clocksMidSpec : ChangeSpec := { name := "clocksMid", fn := fun _ => fun
  | [d1, d2] => { results := [.lit (.bool true)], args := [d1, d2] }
  | _ => none }
def clocksMidRow : OpenClaim := { program := "ytmkphllfignbpaa", sum := "db55bb1f675420b3374f4db033bef43d82bbc103b8765b6e2d48b54ae859f8f0", func := "belfry/belfrylaw20.ClocksMid", spec := "clocksMid", unfollowed := true, recurses := true, apart := false }
def ClocksMidSaid : Prop := clocksMidRow.holds Try.pinned (OpenSpec.ofChange clocksMidSpec)

/-- ITS FALSE NEIGHBOUR: 'it returns false'. Refute it at one input. -/
def clocksMidWrong : ChangeSpec := { name := "clocksMid", fn := fun _ => fun
  | [d1, d2] => { results := [.lit (.bool false)], args := [d1, d2] }
  | _ => none }
def ClocksMidWrongFalsely : Prop := clocksMidRow.holds Try.pinned (OpenSpec.ofChange clocksMidWrong)

/-- 'belfrylaw20.ClocksPlay': WHATEVER THE INPUT: true; the input reads as it did. -/
def clocksPlaySpec : ChangeSpec := { name := "clocksPlay", fn := fun _ => fun
  | [d1, d2, d3] => { results := [.lit (.bool true)], args := [d1, d2, d3] }
  | _ => none }
def clocksPlayRow : OpenClaim := { program := "ytmkphllfignbpaa", sum := "db55bb1f675420b3374f4db033bef43d82bbc103b8765b6e2d48b54ae859f8f0", func := "belfry/belfrylaw20.ClocksPlay", spec := "clocksPlay", unfollowed := true, recurses := true, apart := false }
def ClocksPlaySaid : Prop := clocksPlayRow.holds Try.pinned (OpenSpec.ofChange clocksPlaySpec)

/-- ITS FALSE NEIGHBOUR: 'it returns false'. Refute it at one input. -/
def clocksPlayWrong : ChangeSpec := { name := "clocksPlay", fn := fun _ => fun
  | [d1, d2, d3] => { results := [.lit (.bool false)], args := [d1, d2, d3] }
  | _ => none }
def ClocksPlayWrongFalsely : Prop := clocksPlayRow.holds Try.pinned (OpenSpec.ofChange clocksPlayWrong)

/-- 'belfrylaw20.ClocksAgree': WHATEVER THE INPUT: true; the input reads as it did. -/
def clocksAgreeSpec : ChangeSpec := { name := "clocksAgree", fn := fun _ => fun
  | [d] => { results := [.lit (.bool true)], args := [d] }
  | _ => none }
def clocksAgreeRow : OpenClaim := { program := "ytmkphllfignbpaa", sum := "db55bb1f675420b3374f4db033bef43d82bbc103b8765b6e2d48b54ae859f8f0", func := "belfry/belfrylaw20.ClocksAgree", spec := "clocksAgree", unfollowed := true, recurses := true, apart := false }
def ClocksAgreeSaid : Prop := clocksAgreeRow.holds Try.pinned (OpenSpec.ofChange clocksAgreeSpec)

/-- ITS FALSE NEIGHBOUR: 'it returns false'. Refute it at one input. -/
def clocksAgreeWrong : ChangeSpec := { name := "clocksAgree", fn := fun _ => fun
  | [d] => { results := [.lit (.bool false)], args := [d] }
  | _ => none }
def ClocksAgreeWrongFalsely : Prop := clocksAgreeRow.holds Try.pinned (OpenSpec.ofChange clocksAgreeWrong)

/-- 'belfrylaw20.ClocksRise': WHATEVER THE INPUT: true; the input reads as it did. -/
def clocksRiseSpec : ChangeSpec := { name := "clocksRise", fn := fun _ => fun
  | [d] => { results := [.lit (.bool true)], args := [d] }
  | _ => none }
def clocksRiseRow : OpenClaim := { program := "ytmkphllfignbpaa", sum := "db55bb1f675420b3374f4db033bef43d82bbc103b8765b6e2d48b54ae859f8f0", func := "belfry/belfrylaw20.ClocksRise", spec := "clocksRise", unfollowed := true, recurses := true, apart := false }
def ClocksRiseSaid : Prop := clocksRiseRow.holds Try.pinned (OpenSpec.ofChange clocksRiseSpec)

/-- ITS FALSE NEIGHBOUR: 'it returns false'. Refute it at one input. -/
def clocksRiseWrong : ChangeSpec := { name := "clocksRise", fn := fun _ => fun
  | [d] => { results := [.lit (.bool false)], args := [d] }
  | _ => none }
def ClocksRiseWrongFalsely : Prop := clocksRiseRow.holds Try.pinned (OpenSpec.ofChange clocksRiseWrong)

/-- 'belfrylaw20.ClocksTurned': WHATEVER THE INPUT: true; the input reads as it did. -/
def clocksTurnedSpec : ChangeSpec := { name := "clocksTurned", fn := fun _ => fun
  | [d1, d2] => { results := [.lit (.bool true)], args := [d1, d2] }
  | _ => none }
def clocksTurnedRow : OpenClaim := { program := "ytmkphllfignbpaa", sum := "db55bb1f675420b3374f4db033bef43d82bbc103b8765b6e2d48b54ae859f8f0", func := "belfry/belfrylaw20.ClocksTurned", spec := "clocksTurned", unfollowed := true, recurses := true, apart := false }
def ClocksTurnedSaid : Prop := clocksTurnedRow.holds Try.pinned (OpenSpec.ofChange clocksTurnedSpec)

/-- ITS FALSE NEIGHBOUR: 'it returns false'. Refute it at one input. -/
def clocksTurnedWrong : ChangeSpec := { name := "clocksTurned", fn := fun _ => fun
  | [d1, d2] => { results := [.lit (.bool false)], args := [d1, d2] }
  | _ => none }
def ClocksTurnedWrongFalsely : Prop := clocksTurnedRow.holds Try.pinned (OpenSpec.ofChange clocksTurnedWrong)

/- THE SECOND FORM. 'bulk': how many values and letters a reading holds, each counted each time it is reached (what is shared counts as often as it is met; a slice's spare places count too). A statement '..UptoSaid' is the law's where the arguments, and the package variables that the reading takes, are together of bulk at most 1048576: NARROWER than '..Said'. Prove '..Said' where nothing that the law and all that it calls make is longer than what came in: it says more and counts as full. Else prove '..UptoSaid'. A law counts once. -/
mutual
def uptoBulk {H : Type} : DataW H → Nat
  | .lit (.string bytes) => bytes.length + 1
  | .lit _ => 1
  | .nil => 1
  | .ptr d => uptoBulk d + 1
  | .slice elems spare => uptoBulkAll elems + uptoBulkAll spare + 1
  | .agg parts => uptoBulkAll parts + 1
  | .iface _ d => uptoBulk d + 1
  | .map entries => uptoBulkEntries entries + 1
  | .held _ => 1
def uptoBulkAll {H : Type} : List (DataW H) → Nat
  | [] => 0
  | d :: r => uptoBulk d + uptoBulkAll r
def uptoBulkEntries {H : Type} : List (Lit × DataW H) → Nat
  | [] => 0
  | x :: r => uptoBulkEntry x + uptoBulkEntries r
def uptoBulkEntry {H : Type} : Lit × DataW H → Nat
  | (.string bytes, d) => bytes.length + uptoBulk d + 1
  | (_, d) => uptoBulk d + 1
 end
def uptoSmall : (H : Type) → List (DataW H) → Bool := fun _ ds => decide (uptoBulkAll ds ≤ 1048576)
def OpenSpec.upto (s : _root_.Go.ChangeSpec) : _root_.Go.OpenSpec := { _root_.Go.OpenSpec.ofChange s with cond := some uptoSmall }

/-- 'belfrylaw20.ClocksMid', WHERE WHAT IT READS IS OF BULK AT MOST 1048576: true; the input reads as it did. -/
def clocksMidUptoRow : OpenClaim := { program := "ytmkphllfignbpaa", sum := "db55bb1f675420b3374f4db033bef43d82bbc103b8765b6e2d48b54ae859f8f0", func := "belfry/belfrylaw20.ClocksMid", spec := "clocksMid", unfollowed := true, recurses := true, apart := false, narrowed := true }
def ClocksMidUptoSaid : Prop := clocksMidUptoRow.holds Try.pinned (OpenSpec.upto clocksMidSpec)

/-- 'belfrylaw20.ClocksPlay', WHERE WHAT IT READS IS OF BULK AT MOST 1048576: true; the input reads as it did. -/
def clocksPlayUptoRow : OpenClaim := { program := "ytmkphllfignbpaa", sum := "db55bb1f675420b3374f4db033bef43d82bbc103b8765b6e2d48b54ae859f8f0", func := "belfry/belfrylaw20.ClocksPlay", spec := "clocksPlay", unfollowed := true, recurses := true, apart := false, narrowed := true }
def ClocksPlayUptoSaid : Prop := clocksPlayUptoRow.holds Try.pinned (OpenSpec.upto clocksPlaySpec)

/-- 'belfrylaw20.ClocksAgree', WHERE WHAT IT READS IS OF BULK AT MOST 1048576: true; the input reads as it did. -/
def clocksAgreeUptoRow : OpenClaim := { program := "ytmkphllfignbpaa", sum := "db55bb1f675420b3374f4db033bef43d82bbc103b8765b6e2d48b54ae859f8f0", func := "belfry/belfrylaw20.ClocksAgree", spec := "clocksAgree", unfollowed := true, recurses := true, apart := false, narrowed := true }
def ClocksAgreeUptoSaid : Prop := clocksAgreeUptoRow.holds Try.pinned (OpenSpec.upto clocksAgreeSpec)

/-- 'belfrylaw20.ClocksRise', WHERE WHAT IT READS IS OF BULK AT MOST 1048576: true; the input reads as it did. -/
def clocksRiseUptoRow : OpenClaim := { program := "ytmkphllfignbpaa", sum := "db55bb1f675420b3374f4db033bef43d82bbc103b8765b6e2d48b54ae859f8f0", func := "belfry/belfrylaw20.ClocksRise", spec := "clocksRise", unfollowed := true, recurses := true, apart := false, narrowed := true }
def ClocksRiseUptoSaid : Prop := clocksRiseUptoRow.holds Try.pinned (OpenSpec.upto clocksRiseSpec)

/-- 'belfrylaw20.ClocksTurned', WHERE WHAT IT READS IS OF BULK AT MOST 1048576: true; the input reads as it did. -/
def clocksTurnedUptoRow : OpenClaim := { program := "ytmkphllfignbpaa", sum := "db55bb1f675420b3374f4db033bef43d82bbc103b8765b6e2d48b54ae859f8f0", func := "belfry/belfrylaw20.ClocksTurned", spec := "clocksTurned", unfollowed := true, recurses := true, apart := false, narrowed := true }
def ClocksTurnedUptoSaid : Prop := clocksTurnedUptoRow.holds Try.pinned (OpenSpec.upto clocksTurnedSpec)

end Rows
end Go.Proofs.Ytmkphllfignbpaa
