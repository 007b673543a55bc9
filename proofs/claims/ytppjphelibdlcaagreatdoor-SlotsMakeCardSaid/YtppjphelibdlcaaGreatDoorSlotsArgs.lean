/-
  The arguments of the slots' laws, opened.
-/
import Derived.Test.YtppjphelibdlcaaGreatDoorCells
import Derived.Test.YtppjphelibdlcaaGreatDoorSlots
namespace Go.Proofs.YtppjphelibdlcaaGreatDoor
open Go.ChangeShapes Go.WideShapes Go.ChangeAt Go.RowKit

theorem list5 {α : Type} {l : List α} (h : l.length = 5) : ∃ a b c d e, l = [a, b, c, d, e] := by
  match l, h with
  | [a, b, c, d, e], _ => exact ⟨a, b, c, d, e, rfl⟩
theorem Cells.setup {W : World} {cs : List Value} (h : Cells Tryz.prog W 23 cs) : ∃ bit near far drift bad : Int, cs = [.int .i64 bit, .int .i64 near, .int .i64 far, .int .i64 drift, .int .i64 bad] ∧
    (Lit.int .i64 bit).wf = true ∧ (Lit.int .i64 near).wf = true ∧ (Lit.int .i64 far).wf = true ∧ (Lit.int .i64 drift).wf = true ∧ (Lit.int .i64 bad).wf = true := by
  obtain ⟨hl, hf⟩ := h.struct Tryz.underlying23
  rw [show Tryz.prog.cellsOf 23 = 5 by kernel_rfl] at hl
  obtain ⟨a, b, c, d, e, rfl⟩ := list5 hl
  have c3 : Tryz.prog.cellsOf 3 = 1 := by kernel_rfl
  have h0 : Cells Tryz.prog W 3 (([a, b, c, d, e].drop 0).take (Tryz.prog.cellsOf 3)) := hf 0 _ rfl
  rw [c3] at h0
  obtain ⟨x0, e0, f0⟩ := h0.int Tryz.underlying3
  have h1 : Cells Tryz.prog W 3 (([a, b, c, d, e].drop 1).take (Tryz.prog.cellsOf 3)) := hf 1 _ rfl
  rw [c3] at h1
  obtain ⟨x1, e1, f1⟩ := h1.int Tryz.underlying3
  have h2 : Cells Tryz.prog W 3 (([a, b, c, d, e].drop 2).take (Tryz.prog.cellsOf 3)) := hf 2 _ rfl
  rw [c3] at h2
  obtain ⟨x2, e2, f2⟩ := h2.int Tryz.underlying3
  have h3 : Cells Tryz.prog W 3 (([a, b, c, d, e].drop 3).take (Tryz.prog.cellsOf 3)) := hf 3 _ rfl
  rw [c3] at h3
  obtain ⟨x3, e3, f3⟩ := h3.int Tryz.underlying3
  have h4 : Cells Tryz.prog W 3 (([a, b, c, d, e].drop 4).take (Tryz.prog.cellsOf 3)) := hf 4 _ rfl
  rw [c3] at h4
  obtain ⟨x4, e4, f4⟩ := h4.int Tryz.underlying3
  simp at e0 e1 e2 e3 e4
  subst e0 e1 e2 e3 e4
  exact ⟨x0, x1, x2, x3, x4, rfl, f0, f1, f2, f3, f4⟩
theorem Arg.setup {W : World} {v : Value} (h : Arg Tryz.prog 23 W v) : ∃ bit near far drift bad : Int, v = .agg #[.int .i64 bit, .int .i64 near, .int .i64 far, .int .i64 drift, .int .i64 bad] ∧
    (Lit.int .i64 bit).wf = true ∧ (Lit.int .i64 near).wf = true ∧ (Lit.int .i64 far).wf = true ∧ (Lit.int .i64 drift).wf = true ∧ (Lit.int .i64 bad).wf = true := by
  obtain ⟨cs, rfl⟩ := h.struct Tryz.underlying23
  obtain ⟨a, b, c, d, e, hcs, hf⟩ := h.cells.setup
  refine ⟨a, b, c, d, e, ?_, hf⟩
  have : cs.toList = _ := hcs
  rw [← this]
theorem Arg.ints {W : World} {v : Value} (h : Arg Tryz.prog 24 W v) : ∃ l : List Int, Rd W v (ints l) ∧ (∀ z ∈ l, (Lit.int .i64 z).wf = true) := by
  have c3 : Tryz.prog.cellsOf 3 = 1 := by kernel_rfl
  obtain ⟨l, hR, hz, _⟩ := h.nums Tryz.underlying24 Tryz.underlying3 c3
  exact ⟨l, hR, hz⟩
end Go.Proofs.YtppjphelibdlcaaGreatDoor
