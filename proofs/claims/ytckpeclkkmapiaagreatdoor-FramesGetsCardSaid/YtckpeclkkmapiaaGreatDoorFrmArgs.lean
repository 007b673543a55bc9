/-
  An argument that is a frame, opened.
-/
import Derived.Test.YtckpeclkkmapiaaGreatDoorCells
import Derived.Test.YtckpeclkkmapiaaGreatDoorOpenB
import Derived.Test.YtckpeclkkmapiaaGreatDoorFrm
namespace Go.Proofs.YtckpeclkkmapiaaGreatDoor
open Go.RowKit
open Go

theorem nat_of {x : Int} {m : Int} (h0 : 0 ≤ x) (h1 : x ≤ m) : ∃ n : Nat, x = n ∧ (n : Int) ≤ m := ⟨x.toNat, by omega, by omega⟩
theorem list5 {α : Type} {l : List α} (h : l.length = 5) : ∃ a b c d e, l = [a, b, c, d, e] := by
  match l, h with
  | [a, b, c, d, e], _ => exact ⟨a, b, c, d, e, rfl⟩
theorem Arg.frame {W : World} {x : Value} (h : Arg Tryz.prog 65 W x) : ∃ (st : Int) (rd mem md : Nat) (v : Value) (pl : List Nat),
    x = frV st rd mem md v ∧ Rd W v (by8 (iN pl)) ∧ NB pl ∧ pl.length ≤ 140737488351232 ∧ (-9223372036854775808 ≤ st ∧ st ≤ 9223372036854775807) ∧ rd < 4294967296 ∧ mem < 256 ∧ md < 65536 := by
  obtain ⟨cs, rfl⟩ := h.struct Tryz.underlying65
  obtain ⟨hl, hf⟩ := h.cells.struct Tryz.underlying65
  have hcs : (Value.agg cs).cells.toList = cs.toList := rfl
  rw [hcs] at hl hf
  generalize hc : cs.toList = cl at *
  have hcc : cs = cl.toArray := by rw [← hc]
  subst hcc
  rw [show Tryz.prog.cellsOf 65 = 5 by kernel_rfl] at hl
  obtain ⟨a, b, c, d, e, rfl⟩ := list5 hl
  have h0 : Cells Tryz.prog W 3 (([a, b, c, d, e].drop 0).take (Tryz.prog.cellsOf 3)) := hf 0 _ rfl
  have h1 : Cells Tryz.prog W 62 (([a, b, c, d, e].drop 1).take (Tryz.prog.cellsOf 62)) := hf 1 _ rfl
  have h2 : Cells Tryz.prog W 5 (([a, b, c, d, e].drop 2).take (Tryz.prog.cellsOf 5)) := hf 2 _ rfl
  have h3 : Cells Tryz.prog W 63 (([a, b, c, d, e].drop 3).take (Tryz.prog.cellsOf 63)) := hf 3 _ rfl
  have h4 : Cells Tryz.prog W 22 (([a, b, c, d, e].drop 4).take (Tryz.prog.cellsOf 22)) := hf 4 _ rfl
  rw [show Tryz.prog.cellsOf 3 = 1 by kernel_rfl] at h0
  rw [show Tryz.prog.cellsOf 62 = 1 by kernel_rfl] at h1
  rw [show Tryz.prog.cellsOf 5 = 1 by kernel_rfl] at h2
  rw [show Tryz.prog.cellsOf 63 = 1 by kernel_rfl] at h3
  rw [show Tryz.prog.cellsOf 22 = 1 by kernel_rfl] at h4
  obtain ⟨st, e0, w0⟩ := h0.int Tryz.underlying3
  obtain ⟨rd, e1, w1⟩ := h1.int Tryz.underlying62
  obtain ⟨mem, e2, w2⟩ := h2.int Tryz.underlying5
  obtain ⟨md, e3, w3⟩ := h3.int Tryz.underlying63
  obtain ⟨v, zs, e4, hR, hz, hw⟩ := h4.nums Tryz.underlying22 Tryz.underlying5 (by kernel_rfl)
  simp at e0 e1 e2 e3 e4
  subst e0 e1 e2 e3 e4
  obtain ⟨rd, rfl, hrd⟩ := nat_of (bounds_u32 w1).1 (bounds_u32 w1).2
  obtain ⟨mem, rfl, hmem⟩ := nat_of (bounds_u8 w2).1 (bounds_u8 w2).2
  obtain ⟨md, rfl, hmd⟩ := nat_of (bounds_u16 w3).1 (bounds_u16 w3).2
  obtain ⟨pl, rfl⟩ := iN_of zs fun z hz' => (bounds_u8 (hz z hz')).1
  refine ⟨st, rd, mem, md, _, pl, rfl, hR, fun n hn => ?_, ?_, bounds_i64 w0, by omega, by omega, by omega⟩
  · have := (bounds_u8 (hz n (List.mem_map.2 ⟨n, hn, rfl⟩))).2
    omega
  · rw [show Tryz.prog.bytesOf 5 = 1 by kernel_rfl] at hw
    simpa [reachBytes] using hw
end Go.Proofs.YtckpeclkkmapiaaGreatDoor
