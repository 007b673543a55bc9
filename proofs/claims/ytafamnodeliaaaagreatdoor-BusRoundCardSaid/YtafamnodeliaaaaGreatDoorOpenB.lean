/-
  Arguments that are bytes, opened.
-/
import Derived.Test.YtafamnodeliaaaaGreatDoorOpen
import Derived.Test.YtafamnodeliaaaaGreatDoorRows
namespace Go.Proofs.YtafamnodeliaaaaGreatDoor
open Go.RowKit
open Go

/-- What is told of a slice of bytes that came in. -/
theorem Arg.bytes {W : World} {v : Value} (A : Arg Tryz.prog 47 W v) : ∃ cs : List Int, Rd W v (by8 cs) ∧ IsB cs ∧ cs.length ≤ 140737488351232 := by
  obtain ⟨cs, hR, hwf, hreach⟩ := A.nums Tryz.underlying47 Tryz.underlying5 (by kernel_rfl)
  refine ⟨cs, hR, fun c hc => bounds_u8 (hwf c hc), ?_⟩
  have : Tryz.prog.bytesOf 5 = 1 := by kernel_rfl
  rw [this] at hreach
  simpa [reachBytes] using hreach

end Go.Proofs.YtafamnodeliaaaaGreatDoor
