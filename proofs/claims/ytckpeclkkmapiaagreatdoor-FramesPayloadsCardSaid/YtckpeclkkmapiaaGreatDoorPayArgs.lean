/-
  Lists of values that came in, opened.
-/
import Derived.Test.YtckpeclkkmapiaaGreatDoorFrvMath
import Derived.Test.YtckpeclkkmapiaaGreatDoorCells
import Derived.Test.YtckpeclkkmapiaaGreatDoorRows
namespace Go.Proofs.YtckpeclkkmapiaaGreatDoor
open Go.ChangeShapes Go.WideShapes Go.ChangeAt Go.RowKit

theorem list2 {α : Type} {l : List α} (h : l.length = 2) : ∃ a b, l = [a, b] := by
  match l, h with
  | [a, b], _ => exact ⟨a, b, rfl⟩
/-- A value within its bounds. -/
def OkV (p : VT) : Prop := (0 ≤ p.1 ∧ p.1 ≤ 255) ∧ (-9223372036854775808 ≤ p.2 ∧ p.2 ≤ 9223372036854775807)
theorem Cells.val {W : World} {r : List Value} (h : Cells Tryz.prog W 82 r) : ∃ p : VT, r = rowV p ∧ OkV p := by
  have ca : Tryz.prog.cellsOf 82 = 2 := by kernel_rfl
  obtain ⟨hl, hf⟩ := h.struct Tryz.underlying82
  rw [ca] at hl
  obtain ⟨x, y, rfl⟩ := list2 hl
  have c1 : Tryz.prog.cellsOf 74 = 1 := by kernel_rfl
  have c2 : Tryz.prog.cellsOf 2 = 1 := by kernel_rfl
  have h0 : Cells Tryz.prog W 74 (([x, y].drop 0).take (Tryz.prog.cellsOf 74)) := hf 0 _ rfl
  rw [c1] at h0
  obtain ⟨x0, e0, f0⟩ := h0.int Tryz.underlying74
  have h1 : Cells Tryz.prog W 2 (([x, y].drop 1).take (Tryz.prog.cellsOf 2)) := hf 1 _ rfl
  rw [c2] at h1
  obtain ⟨x1, e1, f1⟩ := h1.int Tryz.underlying2
  simp at e0 e1
  subst e0 e1
  exact ⟨(x0, x1), rfl, bounds_u8 f0, bounds_i64 f1⟩
set_option maxRecDepth 20000 in
theorem Arg.vals {W : World} {v : Value} (h : Arg Tryz.prog 26 W v) : ∃ l : List VT, RdN 2 W v (l.map rowV) ∧ (∀ p ∈ l, OkV p) ∧ l.length * 16 ≤ 140737488351232 := by
  have hc := h.cells
  have ca : Tryz.prog.cellsOf 82 = 2 := by kernel_rfl
  have cb : Tryz.prog.bytesOf 82 = 16 := by kernel_rfl
  obtain ⟨v', rows, hv, hR, hrows, hw⟩ := hc.slice Tryz.underlying26 (by rw [ca]; decide)
  rw [ca] at hR
  rw [cb] at hw
  obtain ⟨H, enc, base, d, p, ho, _⟩ := h
  obtain ⟨a, n, c, rfl⟩ := okWide_slice Tryz.underlying26 ho
  have hv' : [Value.slice a n c] = [v'] := hv
  obtain rfl := List.head_eq_of_cons_eq hv'
  have each : ∀ r ∈ rows, ∃ p, r = rowV p ∧ OkV p := fun r hr => Cells.val (hrows r hr)
  obtain ⟨l, rfl, hl⟩ := rows_of rowV OkV rows each
  refine ⟨l, hR, hl, ?_⟩
  rw [List.length_map] at hw
  exact hw
end Go.Proofs.YtckpeclkkmapiaaGreatDoor
