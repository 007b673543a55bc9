/-
  The argument of ClocksPlay: acts.
-/
import Derived.Test.YtmkphllfignbpaaClkArgsB
namespace Go.Proofs.Ytmkphllfignbpaa
open Go.ChangeShapes Go.WideShapes Go.ChangeAt Go.RowKit

def rowA (p : Nat × Int) : List Value := [.int .u8 p.1, .int .i64 p.2]
theorem list2 {α : Type} {l : List α} (h : l.length = 2) : ∃ a b, l = [a, b] := by
  match l, h with
  | [a, b], _ => exact ⟨a, b, rfl⟩
theorem Arg.acts {W : World} {v : Value} (h : Arg Try.prog 30 W v) : ∃ l : List (Nat × Int), RdN 2 W v (l.map rowA) ∧ ∀ p ∈ l, p.1 < 256 ∧ -9223372036854775808 ≤ p.2 ∧ p.2 ≤ 9223372036854775807 := by
  have ca : Try.prog.cellsOf 38 = 2 := by kernel_rfl
  have hs : ∃ a n c, v = .slice a n c := by
    obtain ⟨H, enc, base, d, p, ho, _⟩ := h
    exact okWide_slice Try.underlying30 ho
  obtain ⟨a, n, c, rfl⟩ := hs
  obtain ⟨v', rows, hv, hR, hrows, _⟩ := h.cells.slice Try.underlying30 (by rw [ca]; omega)
  have hv' : [Value.slice a n c] = [v'] := hv
  obtain rfl : Value.slice a n c = v' := List.head_eq_of_cons_eq hv'
  rw [ca] at hR
  obtain ⟨l, rfl, hl⟩ := rows_of rowA (fun p => p.1 < 256 ∧ -9223372036854775808 ≤ p.2 ∧ p.2 ≤ 9223372036854775807) rows fun r hr => by
    obtain ⟨hl, hf⟩ := (hrows r hr).struct Try.underlying38
    rw [ca] at hl
    obtain ⟨x, y, rfl⟩ := list2 hl
    have c1 : Try.prog.cellsOf 5 = 1 := by kernel_rfl
    have c2 : Try.prog.cellsOf 3 = 1 := by kernel_rfl
    have h0 : Cells Try.prog W 5 (([x, y].drop 0).take (Try.prog.cellsOf 5)) := hf 0 _ rfl
    rw [c1] at h0
    obtain ⟨x0, e0, f0⟩ := h0.int Try.underlying5
    have h1 : Cells Try.prog W 3 (([x, y].drop 1).take (Try.prog.cellsOf 3)) := hf 1 _ rfl
    rw [c2] at h1
    obtain ⟨x1, e1, f1⟩ := h1.int Try.underlying3
    simp at e0 e1
    subst e0 e1
    obtain ⟨b0, b1⟩ := bounds_u8 f0
    obtain ⟨k, rfl⟩ := Int.eq_ofNat_of_zero_le b0
    exact ⟨(k, x1), rfl, by simpa using (show k < 256 by omega), bounds_i64 f1⟩
  exact ⟨l, hR, hl⟩
end Go.Proofs.Ytmkphllfignbpaa
