/-
  The arguments of BitsPuts, opened.
-/
import Derived.Test.YtdgcnghjjbpekaaGreatDoorCells
import Derived.Test.YtdgcnghjjbpekaaGreatDoorRows
namespace Go.Proofs.YtdgcnghjjbpekaaGreatDoor
open Go.RowKit Go.ChangeShapes Go.WideShapes Go.ChangeAt
open Go

/-- A number of 64 bits. -/
def U64 (n : Nat) : Prop := (n : Int) ≤ 18446744073709551615
/-- A step's cells. -/
def rowS (s : Nat × Int) : List Value := [.int .u64 s.1, .int .i64 s.2]
set_option maxRecDepth 20000 in
theorem Arg.steps {W : World} {x : Value} (h : Arg Tryz.prog 22 W x) : ∃ l : List (Nat × Int), RdN 2 W x (l.map rowS) ∧ (∀ s ∈ l, U64 s.1) := by
  have hc := h.cells
  have c2 : Tryz.prog.cellsOf 52 = 2 := by kernel_rfl
  obtain ⟨v, rows, hv, hR, hrows, _⟩ := hc.slice Tryz.underlying22 (by rw [c2]; decide)
  rw [c2] at hR
  obtain ⟨H, enc, base, d, p, ho, _⟩ := h
  obtain ⟨a0, len, cap, rfl⟩ := okWide_slice Tryz.underlying22 ho
  have hx : [Value.slice a0 len cap] = [v] := hv
  obtain rfl := List.head_eq_of_cons_eq hx
  have each : ∀ r ∈ rows, ∃ s : Nat × Int, r = rowS s ∧ U64 s.1 := by
    intro r hr
    obtain ⟨hlen, hf⟩ := (hrows r hr).struct Tryz.underlying52
    rw [c2] at hlen
    obtain ⟨u, y, rfl⟩ : ∃ u y, r = [u, y] := by
      match r, hlen with
      | [u, y], _ => exact ⟨u, y, rfl⟩
    have h0 : Cells Tryz.prog W 50 (([u, y].drop 0).take (Tryz.prog.cellsOf 50)) := hf 0 _ rfl
    have h1 : Cells Tryz.prog W 3 (([u, y].drop 1).take (Tryz.prog.cellsOf 3)) := hf 1 _ rfl
    rw [show Tryz.prog.cellsOf 50 = 1 by kernel_rfl] at h0
    rw [show Tryz.prog.cellsOf 3 = 1 by kernel_rfl] at h1
    obtain ⟨n, e0, w0⟩ := h0.int Tryz.underlying50
    obtain ⟨k, e1, _⟩ := h1.int Tryz.underlying3
    simp at e0 e1
    subst e0 e1
    obtain ⟨hn0, hn1⟩ := bounds_u64 w0
    refine ⟨(n.toNat, k), ?_, ?_⟩
    · unfold rowS
      rw [Int.toNat_of_nonneg hn0]
    · unfold U64
      rw [Int.toNat_of_nonneg hn0]
      exact hn1
  obtain ⟨l, rfl, hl⟩ := rows_of rowS (fun s => U64 s.1) rows each
  exact ⟨l, hR, hl⟩
end Go.Proofs.YtdgcnghjjbpekaaGreatDoor
