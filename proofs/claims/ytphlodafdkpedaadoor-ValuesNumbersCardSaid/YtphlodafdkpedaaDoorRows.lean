/-
  NARROWER THAN 'FOR EVERY INPUT', by the rows' own cells (each row's printed sentence says how): ValuesTells: laid · ValuesNumbers: laid · ValuesOrder: laid · ValuesYes: laid · ValuesMay: laid · ValuesTold: laid · ValuesRing: laid.
  DERIVED. THE GIVEN ROWS OF THIS SEAT. 7 by the template 'for every input the law returns true; each argument reads behind the call as it read before'; 0 by the template 'total and deterministic' (their statements: YtphlodafdkpedaaDoorTotals.lean).
  GIVEN WITH THE SEED: the statements are not yours to turn. If you find one false, say at which input.
  Laid BY PROGRAM, IN A SANDBOX (cutbox-rows.mjs): the forced cells as the released guide's own fill.sh prints them over the translation 408874642a7b5846… (all of the seat's roots in one cut). By AI agents, Wed Nov 11 2026. No macro, syntax, notation, axiom, sorry.
-/
import Derived.Test.YtphlodafdkpedaaDoorChecked
import GoSem.Claim
import GoSem.ClaimJoined
import GoSem.ClaimMapViews
import Derived.JoinedTies
import Derived.KernelRfl
namespace Go.Proofs.YtphlodafdkpedaaDoor
/- THE CELL 'sum', in the pinned program and in every row, IS THE sha256 OF THE DUMP (.gsa) THAT YtphlodafdkpedaaDoorProg.lean LOADS. Nothing in Lean hashes anything: it is a label: what it is worth is what the hold of that sum in a sandbox is worth. -/
noncomputable def Tryd.pinned : Pinned := { name := "ytphlodafdkpedaadoor", sum := "408874642a7b5846c99a10f6779e7208c3c0a345689f6e146992e64d5d971c31", checked := Tryd.checked }
namespace Rows
def none {H : Type} : Left H := { results := [], args := [] }

/- WHAT THE LISTED PACKAGE-LEVEL VARIABLES READ AS WHEN THE CALL BEGINS. Each datum BY PROGRAM (the guide's laid-datum.mjs) off the statement by which the dump's own 'gosem.cut.vars' lays the variable. In a bare row this is a premise. The card (YtphlodafdkpedaaDoorCards.lean) ties it to the program's text. -/
def laid_math_bits_deBruijn32tab {H : Type} : DataW H := .agg [.lit (.int .u8 0), .lit (.int .u8 1), .lit (.int .u8 28), .lit (.int .u8 2), .lit (.int .u8 29), .lit (.int .u8 14), .lit (.int .u8 24), .lit (.int .u8 3), .lit (.int .u8 30), .lit (.int .u8 22), .lit (.int .u8 20), .lit (.int .u8 15), .lit (.int .u8 25), .lit (.int .u8 17), .lit (.int .u8 4), .lit (.int .u8 8), .lit (.int .u8 31), .lit (.int .u8 27), .lit (.int .u8 13), .lit (.int .u8 23), .lit (.int .u8 21), .lit (.int .u8 19), .lit (.int .u8 16), .lit (.int .u8 7), .lit (.int .u8 26), .lit (.int .u8 12), .lit (.int .u8 18), .lit (.int .u8 6), .lit (.int .u8 11), .lit (.int .u8 5), .lit (.int .u8 10), .lit (.int .u8 9)]
def laid_math_bits_deBruijn64tab {H : Type} : DataW H := .agg [.lit (.int .u8 0), .lit (.int .u8 1), .lit (.int .u8 56), .lit (.int .u8 2), .lit (.int .u8 57), .lit (.int .u8 49), .lit (.int .u8 28), .lit (.int .u8 3), .lit (.int .u8 61), .lit (.int .u8 58), .lit (.int .u8 42), .lit (.int .u8 50), .lit (.int .u8 38), .lit (.int .u8 29), .lit (.int .u8 17), .lit (.int .u8 4), .lit (.int .u8 62), .lit (.int .u8 47), .lit (.int .u8 59), .lit (.int .u8 36), .lit (.int .u8 45), .lit (.int .u8 43), .lit (.int .u8 51), .lit (.int .u8 22), .lit (.int .u8 53), .lit (.int .u8 39), .lit (.int .u8 33), .lit (.int .u8 30), .lit (.int .u8 24), .lit (.int .u8 18), .lit (.int .u8 12), .lit (.int .u8 5), .lit (.int .u8 63), .lit (.int .u8 55), .lit (.int .u8 48), .lit (.int .u8 27), .lit (.int .u8 60), .lit (.int .u8 41), .lit (.int .u8 37), .lit (.int .u8 16), .lit (.int .u8 46), .lit (.int .u8 35), .lit (.int .u8 44), .lit (.int .u8 21), .lit (.int .u8 52), .lit (.int .u8 32), .lit (.int .u8 23), .lit (.int .u8 11), .lit (.int .u8 54), .lit (.int .u8 26), .lit (.int .u8 40), .lit (.int .u8 15), .lit (.int .u8 34), .lit (.int .u8 20), .lit (.int .u8 31), .lit (.int .u8 10), .lit (.int .u8 25), .lit (.int .u8 14), .lit (.int .u8 19), .lit (.int .u8 9), .lit (.int .u8 13), .lit (.int .u8 8), .lit (.int .u8 7), .lit (.int .u8 6)]
def laid_internal_strconv_uint64pow10 {H : Type} : DataW H := .agg [.lit (.int .u64 1), .lit (.int .u64 10), .lit (.int .u64 100), .lit (.int .u64 1000), .lit (.int .u64 10000), .lit (.int .u64 100000), .lit (.int .u64 1000000), .lit (.int .u64 10000000), .lit (.int .u64 100000000), .lit (.int .u64 1000000000), .lit (.int .u64 10000000000), .lit (.int .u64 100000000000), .lit (.int .u64 1000000000000), .lit (.int .u64 10000000000000), .lit (.int .u64 100000000000000), .lit (.int .u64 1000000000000000), .lit (.int .u64 10000000000000000), .lit (.int .u64 100000000000000000), .lit (.int .u64 1000000000000000000), .lit (.int .u64 10000000000000000000)]

/-- 'belfrylaw11.ValuesTells': WHATEVER THE INPUT: true; the input reads as it did. -/
def valuesTellsSpec : ChangeSpec := { name := "valuesTells", fn := fun _ => fun
  | [d] => { results := [.lit (.bool true)], args := [d] }
  | _ => none }
def valuesTellsRow : OpenClaim := { program := "ytphlodafdkpedaadoor", sum := "408874642a7b5846c99a10f6779e7208c3c0a345689f6e146992e64d5d971c31", func := "belfry/belfrylaw11.ValuesTells", spec := "valuesTells", recurses := true, named := ["internal/strconv.uint64pow10", "math/bits.deBruijn32tab", "math/bits.deBruijn64tab"], apart := false, laid := [("math/bits.deBruijn32tab", laid_math_bits_deBruijn32tab), ("math/bits.deBruijn64tab", laid_math_bits_deBruijn64tab), ("internal/strconv.uint64pow10", laid_internal_strconv_uint64pow10)] }
def ValuesTellsSaid : Prop := valuesTellsRow.holds Tryd.pinned (OpenSpec.ofChange valuesTellsSpec)

/-- ITS FALSE NEIGHBOUR: 'it returns false'. Refute it at one input. -/
def valuesTellsWrong : ChangeSpec := { name := "valuesTells", fn := fun _ => fun
  | [d] => { results := [.lit (.bool false)], args := [d] }
  | _ => none }
def ValuesTellsWrongFalsely : Prop := valuesTellsRow.holds Tryd.pinned (OpenSpec.ofChange valuesTellsWrong)

/-- 'belfrylaw11.ValuesNumbers': WHATEVER THE INPUT: true; the input reads as it did. -/
def valuesNumbersSpec : ChangeSpec := { name := "valuesNumbers", fn := fun _ => fun
  | [d1, d2] => { results := [.lit (.bool true)], args := [d1, d2] }
  | _ => none }
def valuesNumbersRow : OpenClaim := { program := "ytphlodafdkpedaadoor", sum := "408874642a7b5846c99a10f6779e7208c3c0a345689f6e146992e64d5d971c31", func := "belfry/belfrylaw11.ValuesNumbers", spec := "valuesNumbers", unfollowed := true, recurses := true, named := ["internal/strconv.uint64pow10", "math/bits.deBruijn32tab", "math/bits.deBruijn64tab"], apart := false, laid := [("math/bits.deBruijn32tab", laid_math_bits_deBruijn32tab), ("math/bits.deBruijn64tab", laid_math_bits_deBruijn64tab), ("internal/strconv.uint64pow10", laid_internal_strconv_uint64pow10)] }
def ValuesNumbersSaid : Prop := valuesNumbersRow.holds Tryd.pinned (OpenSpec.ofChange valuesNumbersSpec)

/-- ITS FALSE NEIGHBOUR: 'it returns false'. Refute it at one input. -/
def valuesNumbersWrong : ChangeSpec := { name := "valuesNumbers", fn := fun _ => fun
  | [d1, d2] => { results := [.lit (.bool false)], args := [d1, d2] }
  | _ => none }
def ValuesNumbersWrongFalsely : Prop := valuesNumbersRow.holds Tryd.pinned (OpenSpec.ofChange valuesNumbersWrong)

/-- 'belfrylaw11.ValuesOrder': WHATEVER THE INPUT: true; the input reads as it did. -/
def valuesOrderSpec : ChangeSpec := { name := "valuesOrder", fn := fun _ => fun
  | [d1, d2] => { results := [.lit (.bool true)], args := [d1, d2] }
  | _ => none }
def valuesOrderRow : OpenClaim := { program := "ytphlodafdkpedaadoor", sum := "408874642a7b5846c99a10f6779e7208c3c0a345689f6e146992e64d5d971c31", func := "belfry/belfrylaw11.ValuesOrder", spec := "valuesOrder", unfollowed := true, recurses := true, named := ["internal/strconv.uint64pow10", "math/bits.deBruijn32tab", "math/bits.deBruijn64tab"], apart := false, laid := [("math/bits.deBruijn32tab", laid_math_bits_deBruijn32tab), ("math/bits.deBruijn64tab", laid_math_bits_deBruijn64tab), ("internal/strconv.uint64pow10", laid_internal_strconv_uint64pow10)] }
def ValuesOrderSaid : Prop := valuesOrderRow.holds Tryd.pinned (OpenSpec.ofChange valuesOrderSpec)

/-- ITS FALSE NEIGHBOUR: 'it returns false'. Refute it at one input. -/
def valuesOrderWrong : ChangeSpec := { name := "valuesOrder", fn := fun _ => fun
  | [d1, d2] => { results := [.lit (.bool false)], args := [d1, d2] }
  | _ => none }
def ValuesOrderWrongFalsely : Prop := valuesOrderRow.holds Tryd.pinned (OpenSpec.ofChange valuesOrderWrong)

/-- 'belfrylaw11.ValuesYes': WHATEVER THE INPUT: true; the input reads as it did. -/
def valuesYesSpec : ChangeSpec := { name := "valuesYes", fn := fun _ => fun
  | [d1, d2, d3] => { results := [.lit (.bool true)], args := [d1, d2, d3] }
  | _ => none }
def valuesYesRow : OpenClaim := { program := "ytphlodafdkpedaadoor", sum := "408874642a7b5846c99a10f6779e7208c3c0a345689f6e146992e64d5d971c31", func := "belfry/belfrylaw11.ValuesYes", spec := "valuesYes", unfollowed := true, recurses := true, named := ["internal/strconv.uint64pow10", "math/bits.deBruijn32tab", "math/bits.deBruijn64tab"], apart := false, laid := [("math/bits.deBruijn32tab", laid_math_bits_deBruijn32tab), ("math/bits.deBruijn64tab", laid_math_bits_deBruijn64tab), ("internal/strconv.uint64pow10", laid_internal_strconv_uint64pow10)] }
def ValuesYesSaid : Prop := valuesYesRow.holds Tryd.pinned (OpenSpec.ofChange valuesYesSpec)

/-- ITS FALSE NEIGHBOUR: 'it returns false'. Refute it at one input. -/
def valuesYesWrong : ChangeSpec := { name := "valuesYes", fn := fun _ => fun
  | [d1, d2, d3] => { results := [.lit (.bool false)], args := [d1, d2, d3] }
  | _ => none }
def ValuesYesWrongFalsely : Prop := valuesYesRow.holds Tryd.pinned (OpenSpec.ofChange valuesYesWrong)

/-- 'belfrylaw11.ValuesMay': WHATEVER THE INPUT: true; the input reads as it did. -/
def valuesMaySpec : ChangeSpec := { name := "valuesMay", fn := fun _ => fun
  | [d1, d2] => { results := [.lit (.bool true)], args := [d1, d2] }
  | _ => none }
def valuesMayRow : OpenClaim := { program := "ytphlodafdkpedaadoor", sum := "408874642a7b5846c99a10f6779e7208c3c0a345689f6e146992e64d5d971c31", func := "belfry/belfrylaw11.ValuesMay", spec := "valuesMay", unfollowed := true, recurses := true, named := ["internal/strconv.uint64pow10", "math/bits.deBruijn32tab", "math/bits.deBruijn64tab"], apart := false, laid := [("math/bits.deBruijn32tab", laid_math_bits_deBruijn32tab), ("math/bits.deBruijn64tab", laid_math_bits_deBruijn64tab), ("internal/strconv.uint64pow10", laid_internal_strconv_uint64pow10)] }
def ValuesMaySaid : Prop := valuesMayRow.holds Tryd.pinned (OpenSpec.ofChange valuesMaySpec)

/-- ITS FALSE NEIGHBOUR: 'it returns false'. Refute it at one input. -/
def valuesMayWrong : ChangeSpec := { name := "valuesMay", fn := fun _ => fun
  | [d1, d2] => { results := [.lit (.bool false)], args := [d1, d2] }
  | _ => none }
def ValuesMayWrongFalsely : Prop := valuesMayRow.holds Tryd.pinned (OpenSpec.ofChange valuesMayWrong)

/-- 'belfrylaw11.ValuesTold': WHATEVER THE INPUT: true; the input reads as it did. -/
def valuesToldSpec : ChangeSpec := { name := "valuesTold", fn := fun _ => fun
  | [d1, d2] => { results := [.lit (.bool true)], args := [d1, d2] }
  | _ => none }
def valuesToldRow : OpenClaim := { program := "ytphlodafdkpedaadoor", sum := "408874642a7b5846c99a10f6779e7208c3c0a345689f6e146992e64d5d971c31", func := "belfry/belfrylaw11.ValuesTold", spec := "valuesTold", unfollowed := true, recurses := true, named := ["internal/strconv.uint64pow10", "math/bits.deBruijn32tab", "math/bits.deBruijn64tab"], apart := false, laid := [("math/bits.deBruijn32tab", laid_math_bits_deBruijn32tab), ("math/bits.deBruijn64tab", laid_math_bits_deBruijn64tab), ("internal/strconv.uint64pow10", laid_internal_strconv_uint64pow10)] }
def ValuesToldSaid : Prop := valuesToldRow.holds Tryd.pinned (OpenSpec.ofChange valuesToldSpec)

/-- ITS FALSE NEIGHBOUR: 'it returns false'. Refute it at one input. -/
def valuesToldWrong : ChangeSpec := { name := "valuesTold", fn := fun _ => fun
  | [d1, d2] => { results := [.lit (.bool false)], args := [d1, d2] }
  | _ => none }
def ValuesToldWrongFalsely : Prop := valuesToldRow.holds Tryd.pinned (OpenSpec.ofChange valuesToldWrong)

/-- 'belfrylaw11.ValuesRing': WHATEVER THE INPUT: true; the input reads as it did. -/
def valuesRingSpec : ChangeSpec := { name := "valuesRing", fn := fun _ => fun
  | [d1, d2, d3] => { results := [.lit (.bool true)], args := [d1, d2, d3] }
  | _ => none }
def valuesRingRow : OpenClaim := { program := "ytphlodafdkpedaadoor", sum := "408874642a7b5846c99a10f6779e7208c3c0a345689f6e146992e64d5d971c31", func := "belfry/belfrylaw11.ValuesRing", spec := "valuesRing", unfollowed := true, recurses := true, named := ["internal/strconv.uint64pow10", "math/bits.deBruijn32tab", "math/bits.deBruijn64tab"], apart := false, laid := [("math/bits.deBruijn32tab", laid_math_bits_deBruijn32tab), ("math/bits.deBruijn64tab", laid_math_bits_deBruijn64tab), ("internal/strconv.uint64pow10", laid_internal_strconv_uint64pow10)] }
def ValuesRingSaid : Prop := valuesRingRow.holds Tryd.pinned (OpenSpec.ofChange valuesRingSpec)

/-- ITS FALSE NEIGHBOUR: 'it returns false'. Refute it at one input. -/
def valuesRingWrong : ChangeSpec := { name := "valuesRing", fn := fun _ => fun
  | [d1, d2, d3] => { results := [.lit (.bool false)], args := [d1, d2, d3] }
  | _ => none }
def ValuesRingWrongFalsely : Prop := valuesRingRow.holds Tryd.pinned (OpenSpec.ofChange valuesRingWrong)

/- THE SECOND FORM. 'bulk': how many values and letters a reading holds, each counted each time it is reached (what is shared counts as often as it is met; a slice's spare places count too). A statement '..UptoSaid' is the law's where the arguments, and the package variables that the reading takes, are together of bulk at most 1048576: NARROWER than '..Said'. Prove '..Said' where nothing that the law and all that it calls make is longer than what came in: it says more and counts as full. Else prove '..UptoSaid'. A law counts once. -/
mutual
def uptoBulk {H : Type} : DataW H → Nat
  | .lit (.string bytes) => bytes.length + 1
  | .lit _ => 1
  | .nil => 1
  | .ptr d => uptoBulk d + 1
  | .slice elems spare => uptoBulkAll elems + uptoBulkAll spare + 1
  | .agg parts => uptoBulkAll parts + 1
  | .iface _ d => uptoBulk d + 1
  | .map entries => uptoBulkEntries entries + 1
  | .held _ => 1
def uptoBulkAll {H : Type} : List (DataW H) → Nat
  | [] => 0
  | d :: r => uptoBulk d + uptoBulkAll r
def uptoBulkEntries {H : Type} : List (Lit × DataW H) → Nat
  | [] => 0
  | x :: r => uptoBulkEntry x + uptoBulkEntries r
def uptoBulkEntry {H : Type} : Lit × DataW H → Nat
  | (.string bytes, d) => bytes.length + uptoBulk d + 1
  | (_, d) => uptoBulk d + 1
 end
def uptoSmall : (H : Type) → List (DataW H) → Bool := fun _ ds => decide (uptoBulkAll ds ≤ 1048576)
def OpenSpec.upto (s : _root_.Go.ChangeSpec) : _root_.Go.OpenSpec := { _root_.Go.OpenSpec.ofChange s with cond := some uptoSmall }

/-- 'belfrylaw11.ValuesTells', WHERE WHAT IT READS IS OF BULK AT MOST 1048576: true; the input reads as it did. -/
def valuesTellsUptoRow : OpenClaim := { program := "ytphlodafdkpedaadoor", sum := "408874642a7b5846c99a10f6779e7208c3c0a345689f6e146992e64d5d971c31", func := "belfry/belfrylaw11.ValuesTells", spec := "valuesTells", recurses := true, named := ["internal/strconv.uint64pow10", "math/bits.deBruijn32tab", "math/bits.deBruijn64tab"], apart := false, laid := [("math/bits.deBruijn32tab", laid_math_bits_deBruijn32tab), ("math/bits.deBruijn64tab", laid_math_bits_deBruijn64tab), ("internal/strconv.uint64pow10", laid_internal_strconv_uint64pow10)], narrowed := true }
def ValuesTellsUptoSaid : Prop := valuesTellsUptoRow.holds Tryd.pinned (OpenSpec.upto valuesTellsSpec)

/-- 'belfrylaw11.ValuesNumbers', WHERE WHAT IT READS IS OF BULK AT MOST 1048576: true; the input reads as it did. -/
def valuesNumbersUptoRow : OpenClaim := { program := "ytphlodafdkpedaadoor", sum := "408874642a7b5846c99a10f6779e7208c3c0a345689f6e146992e64d5d971c31", func := "belfry/belfrylaw11.ValuesNumbers", spec := "valuesNumbers", unfollowed := true, recurses := true, named := ["internal/strconv.uint64pow10", "math/bits.deBruijn32tab", "math/bits.deBruijn64tab"], apart := false, laid := [("math/bits.deBruijn32tab", laid_math_bits_deBruijn32tab), ("math/bits.deBruijn64tab", laid_math_bits_deBruijn64tab), ("internal/strconv.uint64pow10", laid_internal_strconv_uint64pow10)], narrowed := true }
def ValuesNumbersUptoSaid : Prop := valuesNumbersUptoRow.holds Tryd.pinned (OpenSpec.upto valuesNumbersSpec)

/-- 'belfrylaw11.ValuesOrder', WHERE WHAT IT READS IS OF BULK AT MOST 1048576: true; the input reads as it did. -/
def valuesOrderUptoRow : OpenClaim := { program := "ytphlodafdkpedaadoor", sum := "408874642a7b5846c99a10f6779e7208c3c0a345689f6e146992e64d5d971c31", func := "belfry/belfrylaw11.ValuesOrder", spec := "valuesOrder", unfollowed := true, recurses := true, named := ["internal/strconv.uint64pow10", "math/bits.deBruijn32tab", "math/bits.deBruijn64tab"], apart := false, laid := [("math/bits.deBruijn32tab", laid_math_bits_deBruijn32tab), ("math/bits.deBruijn64tab", laid_math_bits_deBruijn64tab), ("internal/strconv.uint64pow10", laid_internal_strconv_uint64pow10)], narrowed := true }
def ValuesOrderUptoSaid : Prop := valuesOrderUptoRow.holds Tryd.pinned (OpenSpec.upto valuesOrderSpec)

/-- 'belfrylaw11.ValuesYes', WHERE WHAT IT READS IS OF BULK AT MOST 1048576: true; the input reads as it did. -/
def valuesYesUptoRow : OpenClaim := { program := "ytphlodafdkpedaadoor", sum := "408874642a7b5846c99a10f6779e7208c3c0a345689f6e146992e64d5d971c31", func := "belfry/belfrylaw11.ValuesYes", spec := "valuesYes", unfollowed := true, recurses := true, named := ["internal/strconv.uint64pow10", "math/bits.deBruijn32tab", "math/bits.deBruijn64tab"], apart := false, laid := [("math/bits.deBruijn32tab", laid_math_bits_deBruijn32tab), ("math/bits.deBruijn64tab", laid_math_bits_deBruijn64tab), ("internal/strconv.uint64pow10", laid_internal_strconv_uint64pow10)], narrowed := true }
def ValuesYesUptoSaid : Prop := valuesYesUptoRow.holds Tryd.pinned (OpenSpec.upto valuesYesSpec)

/-- 'belfrylaw11.ValuesMay', WHERE WHAT IT READS IS OF BULK AT MOST 1048576: true; the input reads as it did. -/
def valuesMayUptoRow : OpenClaim := { program := "ytphlodafdkpedaadoor", sum := "408874642a7b5846c99a10f6779e7208c3c0a345689f6e146992e64d5d971c31", func := "belfry/belfrylaw11.ValuesMay", spec := "valuesMay", unfollowed := true, recurses := true, named := ["internal/strconv.uint64pow10", "math/bits.deBruijn32tab", "math/bits.deBruijn64tab"], apart := false, laid := [("math/bits.deBruijn32tab", laid_math_bits_deBruijn32tab), ("math/bits.deBruijn64tab", laid_math_bits_deBruijn64tab), ("internal/strconv.uint64pow10", laid_internal_strconv_uint64pow10)], narrowed := true }
def ValuesMayUptoSaid : Prop := valuesMayUptoRow.holds Tryd.pinned (OpenSpec.upto valuesMaySpec)

/-- 'belfrylaw11.ValuesTold', WHERE WHAT IT READS IS OF BULK AT MOST 1048576: true; the input reads as it did. -/
def valuesToldUptoRow : OpenClaim := { program := "ytphlodafdkpedaadoor", sum := "408874642a7b5846c99a10f6779e7208c3c0a345689f6e146992e64d5d971c31", func := "belfry/belfrylaw11.ValuesTold", spec := "valuesTold", unfollowed := true, recurses := true, named := ["internal/strconv.uint64pow10", "math/bits.deBruijn32tab", "math/bits.deBruijn64tab"], apart := false, laid := [("math/bits.deBruijn32tab", laid_math_bits_deBruijn32tab), ("math/bits.deBruijn64tab", laid_math_bits_deBruijn64tab), ("internal/strconv.uint64pow10", laid_internal_strconv_uint64pow10)], narrowed := true }
def ValuesToldUptoSaid : Prop := valuesToldUptoRow.holds Tryd.pinned (OpenSpec.upto valuesToldSpec)

/-- 'belfrylaw11.ValuesRing', WHERE WHAT IT READS IS OF BULK AT MOST 1048576: true; the input reads as it did. -/
def valuesRingUptoRow : OpenClaim := { program := "ytphlodafdkpedaadoor", sum := "408874642a7b5846c99a10f6779e7208c3c0a345689f6e146992e64d5d971c31", func := "belfry/belfrylaw11.ValuesRing", spec := "valuesRing", unfollowed := true, recurses := true, named := ["internal/strconv.uint64pow10", "math/bits.deBruijn32tab", "math/bits.deBruijn64tab"], apart := false, laid := [("math/bits.deBruijn32tab", laid_math_bits_deBruijn32tab), ("math/bits.deBruijn64tab", laid_math_bits_deBruijn64tab), ("internal/strconv.uint64pow10", laid_internal_strconv_uint64pow10)], narrowed := true }
def ValuesRingUptoSaid : Prop := valuesRingUptoRow.holds Tryd.pinned (OpenSpec.upto valuesRingSpec)

end Rows
end Go.Proofs.YtphlodafdkpedaaDoor
