/-
  The arguments of a law on a setup, frames, a table and a round, opened.
-/
import Derived.Test.YtppjphelibdlcaaGreatDoorSlotsArgs
import Derived.Test.YtppjphelibdlcaaGreatDoorSlotsFits
namespace Go.Proofs.YtppjphelibdlcaaGreatDoor
open Go.ChangeShapes Go.WideShapes Go.ChangeAt Go.RowKit
open Go

theorem list3 {α : Type} {l : List α} (h : l.length = 3) : ∃ a b c, l = [a, b, c] := by
  match l, h with
  | [a, b, c], _ => exact ⟨a, b, c, rfl⟩
theorem list10 {α : Type} {l : List α} (h : l.length = 10) : ∃ a0 a1 a2 a3 a4 a5 a6 a7 a8 a9, l = [a0, a1, a2, a3, a4, a5, a6, a7, a8, a9] := by
  match l, h with
  | [a0, a1, a2, a3, a4, a5, a6, a7, a8, a9], _ => exact ⟨a0, a1, a2, a3, a4, a5, a6, a7, a8, a9, rfl⟩
theorem Cells.slot {W : World} {cs : List Value} (h : Cells Tryz.prog W 64 cs) : ∃ x : Int × Int × Int, cs = row3 x := by
  obtain ⟨hl, hf⟩ := h.struct Tryz.underlying64
  rw [show Tryz.prog.cellsOf 64 = 3 by kernel_rfl] at hl
  obtain ⟨a, b, c, rfl⟩ : ∃ a b c, cs = [a, b, c] := list3 hl
  have c3 : Tryz.prog.cellsOf 3 = 1 := by kernel_rfl
  have h0 : Cells Tryz.prog W 3 (([a, b, c].drop 0).take (Tryz.prog.cellsOf 3)) := hf 0 _ rfl
  have h1 : Cells Tryz.prog W 3 (([a, b, c].drop 1).take (Tryz.prog.cellsOf 3)) := hf 1 _ rfl
  have h2 : Cells Tryz.prog W 3 (([a, b, c].drop 2).take (Tryz.prog.cellsOf 3)) := hf 2 _ rfl
  rw [c3] at h0 h1 h2
  obtain ⟨x0, e0, _⟩ := h0.int Tryz.underlying3
  obtain ⟨x1, e1, _⟩ := h1.int Tryz.underlying3
  obtain ⟨x2, e2, _⟩ := h2.int Tryz.underlying3
  simp at e0 e1 e2
  subst e0 e1 e2
  exact ⟨(x0, x1, x2), rfl⟩
theorem Cells.table {W : World} {cs : List Value} (h : Cells Tryz.prog W 27 cs) : ∃ (u : Value) (rs : List (Int × Int × Int)) (r g : Int), cs = [u, .int .i64 r, .int .i64 g] ∧ RdN 3 W u (rs.map row3) := by
  obtain ⟨hl, hf⟩ := h.struct Tryz.underlying27
  rw [show Tryz.prog.cellsOf 27 = 3 by kernel_rfl] at hl
  obtain ⟨a, b, c, rfl⟩ : ∃ a b c, cs = [a, b, c] := list3 hl
  have c3 : Tryz.prog.cellsOf 3 = 1 := by kernel_rfl
  have c1 : Tryz.prog.cellsOf 25 = 1 := by kernel_rfl
  have cs3 : Tryz.prog.cellsOf 64 = 3 := by kernel_rfl
  have h0 : Cells Tryz.prog W 25 (([a, b, c].drop 0).take (Tryz.prog.cellsOf 25)) := hf 0 _ rfl
  have h1 : Cells Tryz.prog W 3 (([a, b, c].drop 1).take (Tryz.prog.cellsOf 3)) := hf 1 _ rfl
  have h2 : Cells Tryz.prog W 3 (([a, b, c].drop 2).take (Tryz.prog.cellsOf 3)) := hf 2 _ rfl
  rw [c3] at h1 h2
  rw [c1] at h0
  obtain ⟨x1, e1, _⟩ := h1.int Tryz.underlying3
  obtain ⟨x2, e2, _⟩ := h2.int Tryz.underlying3
  obtain ⟨u, rows, e0, hR, hrows, _⟩ := h0.slice Tryz.underlying25 (by rw [cs3]; decide)
  rw [cs3] at hR
  obtain ⟨rs, rfl, _⟩ := rows_of row3 (fun _ => True) rows fun r hr => by
    obtain ⟨x, hx⟩ := (hrows r hr).slot
    exact ⟨x, hx, trivial⟩
  simp at e0 e1 e2
  subst e0 e1 e2
  exact ⟨a, rs, x1, x2, rfl, hR⟩
theorem Arg.setting {W : World} {x : Value} (h : Arg Tryz.prog 29 W x) : ∃ (bit near far drift bad : Int) (v : Value) (l : List Int) (u : Value) (rs : List (Int × Int × Int)) (r g q : Int),
    x = .agg #[.int .i64 bit, .int .i64 near, .int .i64 far, .int .i64 drift, .int .i64 bad, v, u, .int .i64 r, .int .i64 g, .int .i64 q] ∧ Rd W v (l.map (Value.int .i64)) ∧ RdN 3 W u (rs.map row3) ∧ (∀ z ∈ l, (Lit.int .i64 z).wf = true) ∧
    (Lit.int .i64 bit).wf = true ∧ (Lit.int .i64 near).wf = true ∧ (Lit.int .i64 far).wf = true ∧ (Lit.int .i64 drift).wf = true ∧ (Lit.int .i64 bad).wf = true := by
  obtain ⟨cs, rfl⟩ := h.struct Tryz.underlying29
  obtain ⟨hl, hf⟩ := h.cells.struct Tryz.underlying29
  have hcs : (Value.agg cs).cells.toList = cs.toList := rfl
  rw [hcs] at hl hf
  generalize hc : cs.toList = cl at *
  have hcc : cs = cl.toArray := by rw [← hc]
  subst hcc
  rw [show Tryz.prog.cellsOf 29 = 10 by kernel_rfl] at hl
  obtain ⟨a0, a1, a2, a3, a4, a5, a6, a7, a8, a9, rfl⟩ : ∃ a0 a1 a2 a3 a4 a5 a6 a7 a8 a9, cl = [a0, a1, a2, a3, a4, a5, a6, a7, a8, a9] := list10 hl
  have n1 : Tryz.prog.cellsOf 3 = 1 := by kernel_rfl
  have n2 : Tryz.prog.cellsOf 24 = 1 := by kernel_rfl
  have n3 : Tryz.prog.cellsOf 23 = 5 := by kernel_rfl
  have n4 : Tryz.prog.cellsOf 27 = 3 := by kernel_rfl
  have h0 : Cells Tryz.prog W 23 (([a0, a1, a2, a3, a4, a5, a6, a7, a8, a9].drop 0).take (Tryz.prog.cellsOf 23)) := hf 0 _ rfl
  have h1 : Cells Tryz.prog W 24 (([a0, a1, a2, a3, a4, a5, a6, a7, a8, a9].drop 5).take (Tryz.prog.cellsOf 24)) := hf 1 _ rfl
  have h2 : Cells Tryz.prog W 27 (([a0, a1, a2, a3, a4, a5, a6, a7, a8, a9].drop 6).take (Tryz.prog.cellsOf 27)) := hf 2 _ rfl
  have h3 : Cells Tryz.prog W 3 (([a0, a1, a2, a3, a4, a5, a6, a7, a8, a9].drop 9).take (Tryz.prog.cellsOf 3)) := hf 3 _ rfl
  rw [n3] at h0
  rw [n2] at h1
  rw [n4] at h2
  rw [n1] at h3
  obtain ⟨bit, near, far, drift, bad, e0, f⟩ := h0.setup
  obtain ⟨v, l, e1, hR, hz, _⟩ := h1.nums Tryz.underlying24 Tryz.underlying3 n1
  obtain ⟨u, rs, r, g, e2, hu⟩ := h2.table
  obtain ⟨q, e3, _⟩ := h3.int Tryz.underlying3
  simp at e0 e1 e2 e3
  obtain ⟨rfl, rfl, rfl, rfl, rfl⟩ := e0
  obtain ⟨rfl, rfl, rfl⟩ := e2
  subst e1 e3
  exact ⟨bit, near, far, drift, bad, _, l, _, rs, r, g, q, rfl, hR, hu, hz, f⟩

end Go.Proofs.YtppjphelibdlcaaGreatDoor
