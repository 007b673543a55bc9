/-
  An argument that is a frame, opened.
-/
import Derived.Test.YtafamnodeliaaaaCells
import Derived.Test.YtafamnodeliaaaaOpenB
import Derived.Test.YtafamnodeliaaaaFrm
namespace Go.Proofs.Ytafamnodeliaaaa
open Go.RowKit
open Go

theorem nat_of {x : Int} {m : Int} (h0 : 0 ≤ x) (h1 : x ≤ m) : ∃ n : Nat, x = n ∧ (n : Int) ≤ m := ⟨x.toNat, by omega, by omega⟩
theorem list5 {α : Type} {l : List α} (h : l.length = 5) : ∃ a b c d e, l = [a, b, c, d, e] := by
  match l, h with
  | [a, b, c, d, e], _ => exact ⟨a, b, c, d, e, rfl⟩
theorem Arg.frame {W : World} {x : Value} (h : Arg Try.prog 38 W x) : ∃ (st : Int) (rd mem md : Nat) (v : Value) (pl : List Nat),
    x = frV st rd mem md v ∧ Rd W v (by8 (iN pl)) ∧ NB pl ∧ pl.length ≤ 140737488351232 ∧ (-9223372036854775808 ≤ st ∧ st ≤ 9223372036854775807) ∧ rd < 4294967296 ∧ mem < 256 ∧ md < 65536 := by
  obtain ⟨cs, rfl⟩ := h.struct Try.underlying38
  obtain ⟨hl, hf⟩ := h.cells.struct Try.underlying38
  have hcs : (Value.agg cs).cells.toList = cs.toList := rfl
  rw [hcs] at hl hf
  generalize hc : cs.toList = cl at *
  have hcc : cs = cl.toArray := by rw [← hc]
  subst hcc
  rw [show Try.prog.cellsOf 38 = 5 by kernel_rfl] at hl
  obtain ⟨a, b, c, d, e, rfl⟩ := list5 hl
  have h0 : Cells Try.prog W 3 (([a, b, c, d, e].drop 0).take (Try.prog.cellsOf 3)) := hf 0 _ rfl
  have h1 : Cells Try.prog W 35 (([a, b, c, d, e].drop 1).take (Try.prog.cellsOf 35)) := hf 1 _ rfl
  have h2 : Cells Try.prog W 5 (([a, b, c, d, e].drop 2).take (Try.prog.cellsOf 5)) := hf 2 _ rfl
  have h3 : Cells Try.prog W 36 (([a, b, c, d, e].drop 3).take (Try.prog.cellsOf 36)) := hf 3 _ rfl
  have h4 : Cells Try.prog W 34 (([a, b, c, d, e].drop 4).take (Try.prog.cellsOf 34)) := hf 4 _ rfl
  rw [show Try.prog.cellsOf 3 = 1 by kernel_rfl] at h0
  rw [show Try.prog.cellsOf 35 = 1 by kernel_rfl] at h1
  rw [show Try.prog.cellsOf 5 = 1 by kernel_rfl] at h2
  rw [show Try.prog.cellsOf 36 = 1 by kernel_rfl] at h3
  rw [show Try.prog.cellsOf 34 = 1 by kernel_rfl] at h4
  obtain ⟨st, e0, w0⟩ := h0.int Try.underlying3
  obtain ⟨rd, e1, w1⟩ := h1.int Try.underlying35
  obtain ⟨mem, e2, w2⟩ := h2.int Try.underlying5
  obtain ⟨md, e3, w3⟩ := h3.int Try.underlying36
  obtain ⟨v, zs, e4, hR, hz, hw⟩ := h4.nums Try.underlying34 Try.underlying5 (by kernel_rfl)
  simp at e0 e1 e2 e3 e4
  subst e0 e1 e2 e3 e4
  obtain ⟨rd, rfl, hrd⟩ := nat_of (bounds_u32 w1).1 (bounds_u32 w1).2
  obtain ⟨mem, rfl, hmem⟩ := nat_of (bounds_u8 w2).1 (bounds_u8 w2).2
  obtain ⟨md, rfl, hmd⟩ := nat_of (bounds_u16 w3).1 (bounds_u16 w3).2
  obtain ⟨pl, rfl⟩ := iN_of zs fun z hz' => (bounds_u8 (hz z hz')).1
  refine ⟨st, rd, mem, md, _, pl, rfl, hR, fun n hn => ?_, ?_, bounds_i64 w0, by omega, by omega, by omega⟩
  · have := (bounds_u8 (hz n (List.mem_map.2 ⟨n, hn, rfl⟩))).2
    omega
  · rw [show Try.prog.bytesOf 5 = 1 by kernel_rfl] at hw
    simpa [reachBytes] using hw
end Go.Proofs.Ytafamnodeliaaaa
