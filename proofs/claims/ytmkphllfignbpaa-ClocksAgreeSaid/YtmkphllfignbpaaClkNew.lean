/-
  clocks: when a clock is made.
-/
import Derived.Test.YtmkphllfignbpaaClkLives
namespace Go.Proofs.Ytmkphllfignbpaa
open Go.RowKit
open Go

/-- May a clock be made? -/
def newB (s g : Int) : Bool := smallB s && (decide (-100000 ≤ g) && decide (g ≤ 100000))
theorem newB_iff (s g : Int) : newB s g = true ↔ smallB s = true ∧ -100000 ≤ g ∧ g ≤ 100000 := by simp [newB]
theorem newB_not (s g : Int) : newB s g = false → smallB s = false ∨ g < -100000 ∨ 100000 < g := by
  unfold newB
  cases smallB s <;> simp <;> omega
theorem newB_n {s g : Int} (h : newB s g = true) {u : Int} (hu : smallB u = true) : ClkN s g u := by
  obtain ⟨h1, h2, h3⟩ := (newB_iff s g).1 h
  obtain ⟨f0, f1⟩ := (smallB_iff s).1 h1
  obtain ⟨u0, u1⟩ := (smallB_iff u).1 hu
  exact ⟨f0, f1, h2, h3, u0, u1⟩
theorem atV_ok {f g u t : Int} (h : 0 ≤ t) (h1 : t ≤ 1099511627776) : atV f g u t = .tuple #[.int .i64 (faceI f g u t), .int .i64 0] := if_pos ⟨h, h1⟩
end Go.Proofs.Ytmkphllfignbpaa
