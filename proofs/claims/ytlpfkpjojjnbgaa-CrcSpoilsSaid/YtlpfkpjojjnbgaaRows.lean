/-
  No cell of these rows narrows 'for every input' (looked for: loops, veiled, ifaces, maps, wideKeys, modest, calm, conditions, laid).
  DERIVED. THE GIVEN ROWS OF THIS SEAT. 6 by the template 'for every input the law returns true; each argument reads behind the call as it read before'; 0 by the template 'total and deterministic' (their statements: YtlpfkpjojjnbgaaTotals.lean).
  GIVEN WITH THE SEED: the statements are not yours to turn. If you find one false, say at which input.
  Laid BY PROGRAM, IN A SANDBOX (cutbox-rows.mjs): the forced cells as the released guide's own fill.sh prints them over the translation 01ec73d39eb633c2… (all of the seat's roots in one cut). By AI agents, Wed Nov 11 2026. No macro, syntax, notation, axiom, sorry.
-/
import Derived.Test.YtlpfkpjojjnbgaaChecked
import GoSem.Claim
import GoSem.ClaimJoined
import GoSem.ClaimMapViews
import Derived.JoinedTies
import Derived.KernelRfl
namespace Go.Proofs.Ytlpfkpjojjnbgaa
/- THE CELL 'sum', in the pinned program and in every row, IS THE sha256 OF THE DUMP (.gsa) THAT YtlpfkpjojjnbgaaProg.lean LOADS. Nothing in Lean hashes anything: it is a label: what it is worth is what the hold of that sum in a sandbox is worth. -/
noncomputable def Try.pinned : Pinned := { name := "ytlpfkpjojjnbgaa", sum := "01ec73d39eb633c2ca7b4f58d596382697253a49c0ec0af7274137e08e6c44ec", checked := Try.checked }
namespace Rows
def none {H : Type} : Left H := { results := [], args := [] }

/-- 'belfrylaw01.CrcSums': WHATEVER THE INPUT: true; the input reads as it did. -/
def crcSumsSpec : ChangeSpec := { name := "crcSums", fn := fun _ => fun
  | [d1, d2] => { results := [.lit (.bool true)], args := [d1, d2] }
  | _ => none }
def crcSumsRow : OpenClaim := { program := "ytlpfkpjojjnbgaa", sum := "01ec73d39eb633c2ca7b4f58d596382697253a49c0ec0af7274137e08e6c44ec", func := "belfry/belfrylaw01.CrcSums", spec := "crcSums", unfollowed := true, recurses := true, apart := false }
def CrcSumsSaid : Prop := crcSumsRow.holds Try.pinned (OpenSpec.ofChange crcSumsSpec)

/-- ITS FALSE NEIGHBOUR: 'it returns false'. Refute it at one input. -/
def crcSumsWrong : ChangeSpec := { name := "crcSums", fn := fun _ => fun
  | [d1, d2] => { results := [.lit (.bool false)], args := [d1, d2] }
  | _ => none }
def CrcSumsWrongFalsely : Prop := crcSumsRow.holds Try.pinned (OpenSpec.ofChange crcSumsWrong)

/-- 'belfrylaw01.CrcJoins': WHATEVER THE INPUT: true; the input reads as it did. -/
def crcJoinsSpec : ChangeSpec := { name := "crcJoins", fn := fun _ => fun
  | [d1, d2, d3] => { results := [.lit (.bool true)], args := [d1, d2, d3] }
  | _ => none }
def crcJoinsRow : OpenClaim := { program := "ytlpfkpjojjnbgaa", sum := "01ec73d39eb633c2ca7b4f58d596382697253a49c0ec0af7274137e08e6c44ec", func := "belfry/belfrylaw01.CrcJoins", spec := "crcJoins", unfollowed := true, recurses := true, apart := false }
def CrcJoinsSaid : Prop := crcJoinsRow.holds Try.pinned (OpenSpec.ofChange crcJoinsSpec)

/-- ITS FALSE NEIGHBOUR: 'it returns false'. Refute it at one input. -/
def crcJoinsWrong : ChangeSpec := { name := "crcJoins", fn := fun _ => fun
  | [d1, d2, d3] => { results := [.lit (.bool false)], args := [d1, d2, d3] }
  | _ => none }
def CrcJoinsWrongFalsely : Prop := crcJoinsRow.holds Try.pinned (OpenSpec.ofChange crcJoinsWrong)

/-- 'belfrylaw01.CrcSpoils': WHATEVER THE INPUT: true; the input reads as it did. -/
def crcSpoilsSpec : ChangeSpec := { name := "crcSpoils", fn := fun _ => fun
  | [d1, d2, d3] => { results := [.lit (.bool true)], args := [d1, d2, d3] }
  | _ => none }
def crcSpoilsRow : OpenClaim := { program := "ytlpfkpjojjnbgaa", sum := "01ec73d39eb633c2ca7b4f58d596382697253a49c0ec0af7274137e08e6c44ec", func := "belfry/belfrylaw01.CrcSpoils", spec := "crcSpoils", unfollowed := true, recurses := true, apart := false }
def CrcSpoilsSaid : Prop := crcSpoilsRow.holds Try.pinned (OpenSpec.ofChange crcSpoilsSpec)

/-- ITS FALSE NEIGHBOUR: 'it returns false'. Refute it at one input. -/
def crcSpoilsWrong : ChangeSpec := { name := "crcSpoils", fn := fun _ => fun
  | [d1, d2, d3] => { results := [.lit (.bool false)], args := [d1, d2, d3] }
  | _ => none }
def CrcSpoilsWrongFalsely : Prop := crcSpoilsRow.holds Try.pinned (OpenSpec.ofChange crcSpoilsWrong)

/-- 'belfrylaw01.CrcDiffers': WHATEVER THE INPUT: true; the input reads as it did. -/
def crcDiffersSpec : ChangeSpec := { name := "crcDiffers", fn := fun _ => fun
  | [d1, d2, d3] => { results := [.lit (.bool true)], args := [d1, d2, d3] }
  | _ => none }
def crcDiffersRow : OpenClaim := { program := "ytlpfkpjojjnbgaa", sum := "01ec73d39eb633c2ca7b4f58d596382697253a49c0ec0af7274137e08e6c44ec", func := "belfry/belfrylaw01.CrcDiffers", spec := "crcDiffers", unfollowed := true, recurses := true, apart := false }
def CrcDiffersSaid : Prop := crcDiffersRow.holds Try.pinned (OpenSpec.ofChange crcDiffersSpec)

/-- ITS FALSE NEIGHBOUR: 'it returns false'. Refute it at one input. -/
def crcDiffersWrong : ChangeSpec := { name := "crcDiffers", fn := fun _ => fun
  | [d1, d2, d3] => { results := [.lit (.bool false)], args := [d1, d2, d3] }
  | _ => none }
def CrcDiffersWrongFalsely : Prop := crcDiffersRow.holds Try.pinned (OpenSpec.ofChange crcDiffersWrong)

/-- 'belfrylaw01.CrcTurned': WHATEVER THE INPUT: true; the input reads as it did. -/
def crcTurnedSpec : ChangeSpec := { name := "crcTurned", fn := fun _ => fun
  | [d1, d2, d3] => { results := [.lit (.bool true)], args := [d1, d2, d3] }
  | _ => none }
def crcTurnedRow : OpenClaim := { program := "ytlpfkpjojjnbgaa", sum := "01ec73d39eb633c2ca7b4f58d596382697253a49c0ec0af7274137e08e6c44ec", func := "belfry/belfrylaw01.CrcTurned", spec := "crcTurned", unfollowed := true, recurses := true, apart := false }
def CrcTurnedSaid : Prop := crcTurnedRow.holds Try.pinned (OpenSpec.ofChange crcTurnedSpec)

/-- ITS FALSE NEIGHBOUR: 'it returns false'. Refute it at one input. -/
def crcTurnedWrong : ChangeSpec := { name := "crcTurned", fn := fun _ => fun
  | [d1, d2, d3] => { results := [.lit (.bool false)], args := [d1, d2, d3] }
  | _ => none }
def CrcTurnedWrongFalsely : Prop := crcTurnedRow.holds Try.pinned (OpenSpec.ofChange crcTurnedWrong)

/-- 'belfrylaw01.CrcBehind': WHATEVER THE INPUT: true; the input reads as it did. -/
def crcBehindSpec : ChangeSpec := { name := "crcBehind", fn := fun _ => fun
  | [d] => { results := [.lit (.bool true)], args := [d] }
  | _ => none }
def crcBehindRow : OpenClaim := { program := "ytlpfkpjojjnbgaa", sum := "01ec73d39eb633c2ca7b4f58d596382697253a49c0ec0af7274137e08e6c44ec", func := "belfry/belfrylaw01.CrcBehind", spec := "crcBehind", unfollowed := true, recurses := true, apart := false }
def CrcBehindSaid : Prop := crcBehindRow.holds Try.pinned (OpenSpec.ofChange crcBehindSpec)

/-- ITS FALSE NEIGHBOUR: 'it returns false'. Refute it at one input. -/
def crcBehindWrong : ChangeSpec := { name := "crcBehind", fn := fun _ => fun
  | [d] => { results := [.lit (.bool false)], args := [d] }
  | _ => none }
def CrcBehindWrongFalsely : Prop := crcBehindRow.holds Try.pinned (OpenSpec.ofChange crcBehindWrong)

/- THE SECOND FORM. 'bulk': how many values and letters a reading holds, each counted each time it is reached (what is shared counts as often as it is met; a slice's spare places count too). A statement '..UptoSaid' is the law's where the arguments, and the package variables that the reading takes, are together of bulk at most 1048576: NARROWER than '..Said'. Prove '..Said' where nothing that the law and all that it calls make is longer than what came in: it says more and counts as full. Else prove '..UptoSaid'. A law counts once. -/
mutual
def uptoBulk {H : Type} : DataW H → Nat
  | .lit (.string bytes) => bytes.length + 1
  | .lit _ => 1
  | .nil => 1
  | .ptr d => uptoBulk d + 1
  | .slice elems spare => uptoBulkAll elems + uptoBulkAll spare + 1
  | .agg parts => uptoBulkAll parts + 1
  | .iface _ d => uptoBulk d + 1
  | .map entries => uptoBulkEntries entries + 1
  | .held _ => 1
def uptoBulkAll {H : Type} : List (DataW H) → Nat
  | [] => 0
  | d :: r => uptoBulk d + uptoBulkAll r
def uptoBulkEntries {H : Type} : List (Lit × DataW H) → Nat
  | [] => 0
  | x :: r => uptoBulkEntry x + uptoBulkEntries r
def uptoBulkEntry {H : Type} : Lit × DataW H → Nat
  | (.string bytes, d) => bytes.length + uptoBulk d + 1
  | (_, d) => uptoBulk d + 1
 end
def uptoSmall : (H : Type) → List (DataW H) → Bool := fun _ ds => decide (uptoBulkAll ds ≤ 1048576)
def OpenSpec.upto (s : _root_.Go.ChangeSpec) : _root_.Go.OpenSpec := { _root_.Go.OpenSpec.ofChange s with cond := some uptoSmall }

/-- 'belfrylaw01.CrcSums', WHERE WHAT IT READS IS OF BULK AT MOST 1048576: true; the input reads as it did. -/
def crcSumsUptoRow : OpenClaim := { program := "ytlpfkpjojjnbgaa", sum := "01ec73d39eb633c2ca7b4f58d596382697253a49c0ec0af7274137e08e6c44ec", func := "belfry/belfrylaw01.CrcSums", spec := "crcSums", unfollowed := true, recurses := true, apart := false, narrowed := true }
def CrcSumsUptoSaid : Prop := crcSumsUptoRow.holds Try.pinned (OpenSpec.upto crcSumsSpec)

/-- 'belfrylaw01.CrcJoins', WHERE WHAT IT READS IS OF BULK AT MOST 1048576: true; the input reads as it did. -/
def crcJoinsUptoRow : OpenClaim := { program := "ytlpfkpjojjnbgaa", sum := "01ec73d39eb633c2ca7b4f58d596382697253a49c0ec0af7274137e08e6c44ec", func := "belfry/belfrylaw01.CrcJoins", spec := "crcJoins", unfollowed := true, recurses := true, apart := false, narrowed := true }
def CrcJoinsUptoSaid : Prop := crcJoinsUptoRow.holds Try.pinned (OpenSpec.upto crcJoinsSpec)

/-- 'belfrylaw01.CrcSpoils', WHERE WHAT IT READS IS OF BULK AT MOST 1048576: true; the input reads as it did. -/
def crcSpoilsUptoRow : OpenClaim := { program := "ytlpfkpjojjnbgaa", sum := "01ec73d39eb633c2ca7b4f58d596382697253a49c0ec0af7274137e08e6c44ec", func := "belfry/belfrylaw01.CrcSpoils", spec := "crcSpoils", unfollowed := true, recurses := true, apart := false, narrowed := true }
def CrcSpoilsUptoSaid : Prop := crcSpoilsUptoRow.holds Try.pinned (OpenSpec.upto crcSpoilsSpec)

/-- 'belfrylaw01.CrcDiffers', WHERE WHAT IT READS IS OF BULK AT MOST 1048576: true; the input reads as it did. -/
def crcDiffersUptoRow : OpenClaim := { program := "ytlpfkpjojjnbgaa", sum := "01ec73d39eb633c2ca7b4f58d596382697253a49c0ec0af7274137e08e6c44ec", func := "belfry/belfrylaw01.CrcDiffers", spec := "crcDiffers", unfollowed := true, recurses := true, apart := false, narrowed := true }
def CrcDiffersUptoSaid : Prop := crcDiffersUptoRow.holds Try.pinned (OpenSpec.upto crcDiffersSpec)

/-- 'belfrylaw01.CrcTurned', WHERE WHAT IT READS IS OF BULK AT MOST 1048576: true; the input reads as it did. -/
def crcTurnedUptoRow : OpenClaim := { program := "ytlpfkpjojjnbgaa", sum := "01ec73d39eb633c2ca7b4f58d596382697253a49c0ec0af7274137e08e6c44ec", func := "belfry/belfrylaw01.CrcTurned", spec := "crcTurned", unfollowed := true, recurses := true, apart := false, narrowed := true }
def CrcTurnedUptoSaid : Prop := crcTurnedUptoRow.holds Try.pinned (OpenSpec.upto crcTurnedSpec)

/-- 'belfrylaw01.CrcBehind', WHERE WHAT IT READS IS OF BULK AT MOST 1048576: true; the input reads as it did. -/
def crcBehindUptoRow : OpenClaim := { program := "ytlpfkpjojjnbgaa", sum := "01ec73d39eb633c2ca7b4f58d596382697253a49c0ec0af7274137e08e6c44ec", func := "belfry/belfrylaw01.CrcBehind", spec := "crcBehind", unfollowed := true, recurses := true, apart := false, narrowed := true }
def CrcBehindUptoSaid : Prop := crcBehindUptoRow.holds Try.pinned (OpenSpec.upto crcBehindSpec)

end Rows
end Go.Proofs.Ytlpfkpjojjnbgaa
