/-
  The arguments of the values' laws, opened.
-/
import Derived.Test.YtphlodafdkpedaaDoorVals
namespace Go.Proofs.YtphlodafdkpedaaDoor
open Go.ChangeShapes Go.WideShapes Go.ChangeAt Go.RowKit

theorem list2 {α : Type} {l : List α} (h : l.length = 2) : ∃ a b, l = [a, b] := by
  match l, h with
  | [a, b], _ => exact ⟨a, b, rfl⟩
/-- A value within its bounds. -/
def OkV (p : VT) : Prop := (0 ≤ p.1 ∧ p.1 ≤ 255) ∧ (-9223372036854775808 ≤ p.2 ∧ p.2 ≤ 9223372036854775807)
theorem Cells.val {W : World} {r : List Value} (h : Cells Tryd.prog W 24 r) : ∃ p : VT, r = rowV p ∧ OkV p := by
  have ca : Tryd.prog.cellsOf 24 = 2 := by kernel_rfl
  obtain ⟨hl, hf⟩ := h.struct Tryd.underlying24
  rw [ca] at hl
  obtain ⟨x, y, rfl⟩ := list2 hl
  have c1 : Tryd.prog.cellsOf 22 = 1 := by kernel_rfl
  have c2 : Tryd.prog.cellsOf 2 = 1 := by kernel_rfl
  have h0 : Cells Tryd.prog W 22 (([x, y].drop 0).take (Tryd.prog.cellsOf 22)) := hf 0 _ rfl
  rw [c1] at h0
  obtain ⟨x0, e0, f0⟩ := h0.int Tryd.underlying22
  have h1 : Cells Tryd.prog W 2 (([x, y].drop 1).take (Tryd.prog.cellsOf 2)) := hf 1 _ rfl
  rw [c2] at h1
  obtain ⟨x1, e1, f1⟩ := h1.int Tryd.underlying2
  simp at e0 e1
  subst e0 e1
  exact ⟨(x0, x1), rfl, bounds_u8 f0, bounds_i64 f1⟩
theorem Arg.vals {W : World} {v : Value} (h : Arg Tryd.prog 35 W v) : ∃ l : List VT, RdN 2 W v (l.map rowV) ∧ (∀ p ∈ l, OkV p) ∧ l.length * 16 ≤ 140737488351232 := by
  have ca : Tryd.prog.cellsOf 24 = 2 := by kernel_rfl
  have hs : ∃ a n c, v = .slice a n c := by
    obtain ⟨H, enc, base, d, p, ho, _⟩ := h
    exact okWide_slice Tryd.underlying35 ho
  obtain ⟨a, n, c, rfl⟩ := hs
  obtain ⟨v', rows, hv, hR, hrows, hw⟩ := h.cells.slice Tryd.underlying35 (by rw [ca]; omega)
  have hv' : [Value.slice a n c] = [v'] := hv
  obtain rfl : Value.slice a n c = v' := List.head_eq_of_cons_eq hv'
  rw [ca] at hR
  obtain ⟨l, rfl, hl⟩ := rows_of rowV OkV rows fun r hr => (hrows r hr).val
  have : Tryd.prog.bytesOf 24 = 16 := by kernel_rfl
  rw [this] at hw
  exact ⟨l, hR, hl, by simpa [reachBytes] using hw⟩
theorem Arg.val {W : World} {v : Value} (h : Arg Tryd.prog 24 W v) : ∃ p : VT, v = aggV p ∧ OkV p := by
  obtain ⟨cs, rfl⟩ := h.struct Tryd.underlying24
  obtain ⟨p, hp, ho⟩ := h.cells.val
  have hp' : cs.toList = _ := hp
  refine ⟨p, ?_, ho⟩
  unfold aggV
  rw [show cs = #[Value.int .u8 p.1, .int .i64 p.2] from Array.ext' hp']
end Go.Proofs.YtphlodafdkpedaaDoor
