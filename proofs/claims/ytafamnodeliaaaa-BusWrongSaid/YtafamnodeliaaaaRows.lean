/-
  No cell of these rows narrows 'for every input' (looked for: loops, veiled, ifaces, maps, wideKeys, modest, calm, conditions, laid).
  DERIVED. THE GIVEN ROWS OF THIS SEAT. 3 by the template 'for every input the law returns true; each argument reads behind the call as it read before'; 0 by the template 'total and deterministic' (their statements: YtafamnodeliaaaaTotals.lean).
  GIVEN WITH THE SEED: the statements are not yours to turn. If you find one false, say at which input.
  Laid BY PROGRAM, IN A SANDBOX (cutbox-rows.mjs): the forced cells as the released guide's own fill.sh prints them over the translation b00755f94b20299b… (all of the seat's roots in one cut). By AI agents, Wed Nov 11 2026. No macro, syntax, notation, axiom, sorry.
-/
import Derived.Test.YtafamnodeliaaaaChecked
import GoSem.Claim
import GoSem.ClaimJoined
import GoSem.ClaimMapViews
import Derived.JoinedTies
import Derived.KernelRfl
namespace Go.Proofs.Ytafamnodeliaaaa
/- THE CELL 'sum', in the pinned program and in every row, IS THE sha256 OF THE DUMP (.gsa) THAT YtafamnodeliaaaaProg.lean LOADS. Nothing in Lean hashes anything: it is a label: what it is worth is what the hold of that sum in a sandbox is worth. -/
noncomputable def Try.pinned : Pinned := { name := "ytafamnodeliaaaa", sum := "b00755f94b20299b343e13a093b7fde4c3c458cc3ff06b9a0fea5f067c25a8aa", checked := Try.checked }
namespace Rows
def none {H : Type} : Left H := { results := [], args := [] }

/-- 'belfrylaw22.BusFine': WHATEVER THE INPUT: true; the input reads as it did. -/
def busFineSpec : ChangeSpec := { name := "busFine", fn := fun _ => fun
  | [d] => { results := [.lit (.bool true)], args := [d] }
  | _ => none }
def busFineRow : OpenClaim := { program := "ytafamnodeliaaaa", sum := "b00755f94b20299b343e13a093b7fde4c3c458cc3ff06b9a0fea5f067c25a8aa", func := "belfry/belfrylaw22.BusFine", spec := "busFine", unfollowed := true, recurses := true, apart := false }
def BusFineSaid : Prop := busFineRow.holds Try.pinned (OpenSpec.ofChange busFineSpec)

/-- ITS FALSE NEIGHBOUR: 'it returns false'. Refute it at one input. -/
def busFineWrong : ChangeSpec := { name := "busFine", fn := fun _ => fun
  | [d] => { results := [.lit (.bool false)], args := [d] }
  | _ => none }
def BusFineWrongFalsely : Prop := busFineRow.holds Try.pinned (OpenSpec.ofChange busFineWrong)

/-- 'belfrylaw22.BusTwice': WHATEVER THE INPUT: true; the input reads as it did. -/
def busTwiceSpec : ChangeSpec := { name := "busTwice", fn := fun _ => fun
  | [d] => { results := [.lit (.bool true)], args := [d] }
  | _ => none }
def busTwiceRow : OpenClaim := { program := "ytafamnodeliaaaa", sum := "b00755f94b20299b343e13a093b7fde4c3c458cc3ff06b9a0fea5f067c25a8aa", func := "belfry/belfrylaw22.BusTwice", spec := "busTwice", unfollowed := true, recurses := true, apart := false }
def BusTwiceSaid : Prop := busTwiceRow.holds Try.pinned (OpenSpec.ofChange busTwiceSpec)

/-- ITS FALSE NEIGHBOUR: 'it returns false'. Refute it at one input. -/
def busTwiceWrong : ChangeSpec := { name := "busTwice", fn := fun _ => fun
  | [d] => { results := [.lit (.bool false)], args := [d] }
  | _ => none }
def BusTwiceWrongFalsely : Prop := busTwiceRow.holds Try.pinned (OpenSpec.ofChange busTwiceWrong)

/-- 'belfrylaw22.BusWrong': WHATEVER THE INPUT: true; the input reads as it did. -/
def busWrongSpec : ChangeSpec := { name := "busWrong", fn := fun _ => fun
  | [d1, d2, d3] => { results := [.lit (.bool true)], args := [d1, d2, d3] }
  | _ => none }
def busWrongRow : OpenClaim := { program := "ytafamnodeliaaaa", sum := "b00755f94b20299b343e13a093b7fde4c3c458cc3ff06b9a0fea5f067c25a8aa", func := "belfry/belfrylaw22.BusWrong", spec := "busWrong", unfollowed := true, recurses := true, apart := false }
def BusWrongSaid : Prop := busWrongRow.holds Try.pinned (OpenSpec.ofChange busWrongSpec)

/-- ITS FALSE NEIGHBOUR: 'it returns false'. Refute it at one input. -/
def busWrongWrong : ChangeSpec := { name := "busWrong", fn := fun _ => fun
  | [d1, d2, d3] => { results := [.lit (.bool false)], args := [d1, d2, d3] }
  | _ => none }
def BusWrongWrongFalsely : Prop := busWrongRow.holds Try.pinned (OpenSpec.ofChange busWrongWrong)

/- THE SECOND FORM. 'bulk': how many values and letters a reading holds, each counted each time it is reached (what is shared counts as often as it is met; a slice's spare places count too). A statement '..UptoSaid' is the law's where the arguments, and the package variables that the reading takes, are together of bulk at most 1048576: NARROWER than '..Said'. Prove '..Said' where nothing that the law and all that it calls make is longer than what came in: it says more and counts as full. Else prove '..UptoSaid'. A law counts once. -/
mutual
def uptoBulk {H : Type} : DataW H → Nat
  | .lit (.string bytes) => bytes.length + 1
  | .lit _ => 1
  | .nil => 1
  | .ptr d => uptoBulk d + 1
  | .slice elems spare => uptoBulkAll elems + uptoBulkAll spare + 1
  | .agg parts => uptoBulkAll parts + 1
  | .iface _ d => uptoBulk d + 1
  | .map entries => uptoBulkEntries entries + 1
  | .held _ => 1
def uptoBulkAll {H : Type} : List (DataW H) → Nat
  | [] => 0
  | d :: r => uptoBulk d + uptoBulkAll r
def uptoBulkEntries {H : Type} : List (Lit × DataW H) → Nat
  | [] => 0
  | x :: r => uptoBulkEntry x + uptoBulkEntries r
def uptoBulkEntry {H : Type} : Lit × DataW H → Nat
  | (.string bytes, d) => bytes.length + uptoBulk d + 1
  | (_, d) => uptoBulk d + 1
 end
def uptoSmall : (H : Type) → List (DataW H) → Bool := fun _ ds => decide (uptoBulkAll ds ≤ 1048576)
def OpenSpec.upto (s : _root_.Go.ChangeSpec) : _root_.Go.OpenSpec := { _root_.Go.OpenSpec.ofChange s with cond := some uptoSmall }

/-- 'belfrylaw22.BusFine', WHERE WHAT IT READS IS OF BULK AT MOST 1048576: true; the input reads as it did. -/
def busFineUptoRow : OpenClaim := { program := "ytafamnodeliaaaa", sum := "b00755f94b20299b343e13a093b7fde4c3c458cc3ff06b9a0fea5f067c25a8aa", func := "belfry/belfrylaw22.BusFine", spec := "busFine", unfollowed := true, recurses := true, apart := false, narrowed := true }
def BusFineUptoSaid : Prop := busFineUptoRow.holds Try.pinned (OpenSpec.upto busFineSpec)

/-- 'belfrylaw22.BusTwice', WHERE WHAT IT READS IS OF BULK AT MOST 1048576: true; the input reads as it did. -/
def busTwiceUptoRow : OpenClaim := { program := "ytafamnodeliaaaa", sum := "b00755f94b20299b343e13a093b7fde4c3c458cc3ff06b9a0fea5f067c25a8aa", func := "belfry/belfrylaw22.BusTwice", spec := "busTwice", unfollowed := true, recurses := true, apart := false, narrowed := true }
def BusTwiceUptoSaid : Prop := busTwiceUptoRow.holds Try.pinned (OpenSpec.upto busTwiceSpec)

/-- 'belfrylaw22.BusWrong', WHERE WHAT IT READS IS OF BULK AT MOST 1048576: true; the input reads as it did. -/
def busWrongUptoRow : OpenClaim := { program := "ytafamnodeliaaaa", sum := "b00755f94b20299b343e13a093b7fde4c3c458cc3ff06b9a0fea5f067c25a8aa", func := "belfry/belfrylaw22.BusWrong", spec := "busWrong", unfollowed := true, recurses := true, apart := false, narrowed := true }
def BusWrongUptoSaid : Prop := busWrongUptoRow.holds Try.pinned (OpenSpec.upto busWrongSpec)

end Rows
end Go.Proofs.Ytafamnodeliaaaa
