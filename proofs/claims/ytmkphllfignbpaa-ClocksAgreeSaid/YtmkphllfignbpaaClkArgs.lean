/-
  The arguments of the clocks' laws, opened.
-/
import Derived.Test.YtmkphllfignbpaaCells
import Derived.Test.YtmkphllfignbpaaClk
namespace Go.Proofs.Ytmkphllfignbpaa
open Go.ChangeShapes Go.WideShapes Go.ChangeAt Go.RowKit

theorem Arg.rising {W : World} {v : Value} (h : Arg Try.prog 48 W v) : ∃ (s g : Int) (u : Value) (want : Int) (ts : List Int), v = .agg #[.int .i64 s, .int .i64 g, u, .int .i64 want] ∧ Rd W u (ts.map (Value.int .u32)) ∧ (∀ t ∈ ts, 0 ≤ t ∧ t ≤ 4294967295) ∧
    (-9223372036854775808 ≤ s ∧ s ≤ 9223372036854775807) ∧ (-9223372036854775808 ≤ g ∧ g ≤ 9223372036854775807) ∧ (-9223372036854775808 ≤ want ∧ want ≤ 9223372036854775807) := by
  obtain ⟨cs, rfl⟩ := h.struct Try.underlying48
  obtain ⟨hl, hf⟩ := h.cells.struct Try.underlying48
  rw [show Try.prog.cellsOf 48 = 4 by kernel_rfl] at hl
  obtain ⟨a, b, c, d, hcs⟩ := list4 hl
  rw [hcs] at hf
  have c3 : Try.prog.cellsOf 3 = 1 := by kernel_rfl
  have cs1 : Try.prog.cellsOf 46 = 1 := by kernel_rfl
  have cu : Try.prog.cellsOf 49 = 1 := by kernel_rfl
  have h0 : Cells Try.prog W 3 (([a, b, c, d].drop 0).take (Try.prog.cellsOf 3)) := hf 0 _ rfl
  rw [c3] at h0
  obtain ⟨x0, e0, f0⟩ := h0.int Try.underlying3
  have h1 : Cells Try.prog W 3 (([a, b, c, d].drop 1).take (Try.prog.cellsOf 3)) := hf 1 _ rfl
  rw [c3] at h1
  obtain ⟨x1, e1, f1⟩ := h1.int Try.underlying3
  have h2 : Cells Try.prog W 46 (([a, b, c, d].drop 2).take (Try.prog.cellsOf 46)) := hf 2 _ rfl
  rw [cs1] at h2
  obtain ⟨u, ts, e2, hR, hz, _⟩ := h2.nums Try.underlying46 Try.underlying49 cu
  have h3 : Cells Try.prog W 3 (([a, b, c, d].drop 3).take (Try.prog.cellsOf 3)) := hf 3 _ rfl
  rw [c3] at h3
  obtain ⟨x3, e3, f3⟩ := h3.int Try.underlying3
  simp at e0 e1 e2 e3
  subst e0 e1 e2 e3
  have hcs' : cs.toList = _ := hcs
  exact ⟨x0, x1, c, x3, ts, by rw [← hcs'], hR, fun t ht => bounds_u32 (hz t ht), bounds_i64 f0, bounds_i64 f1, bounds_i64 f3⟩
end Go.Proofs.Ytmkphllfignbpaa
