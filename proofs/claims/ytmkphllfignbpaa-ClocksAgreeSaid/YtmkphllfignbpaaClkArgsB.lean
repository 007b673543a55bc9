/-
  The arguments of the clocks' laws, opened: readings, lists.
-/
import Derived.Test.YtmkphllfignbpaaClkArgs
namespace Go.Proofs.Ytmkphllfignbpaa
open Go.ChangeShapes Go.WideShapes Go.ChangeAt Go.RowKit

theorem nats_of (zs : List Int) (h : ∀ z ∈ zs, 0 ≤ z) : ∃ ls : List Nat, zs = ls.map fun (n : Nat) => (n : Int) := by
  induction zs with
  | nil => exact ⟨[], rfl⟩
  | cons z zs ih =>
    obtain ⟨ls, rfl⟩ := ih fun y hy => h y (by simp [hy])
    obtain ⟨n, rfl⟩ := Int.eq_ofNat_of_zero_le (h z (by simp))
    exact ⟨n :: ls, rfl⟩
theorem Arg.lints {W : World} {v : Value} (h : Arg Try.prog 22 W v) : ∃ l : List Int, Rd W v (ints l) ∧ (∀ z ∈ l, -9223372036854775808 ≤ z ∧ z ≤ 9223372036854775807) ∧ l.length * 8 ≤ 140737488351232 := by
  have c3 : Try.prog.cellsOf 3 = 1 := by kernel_rfl
  obtain ⟨l, hR, hz, hl⟩ := h.nums Try.underlying22 Try.underlying3 c3
  have : Try.prog.bytesOf 3 = 8 := by kernel_rfl
  rw [this] at hl
  exact ⟨l, hR, fun z hm => bounds_i64 (hz z hm), by simpa [reachBytes] using hl⟩
theorem Arg.readings {W : World} {v : Value} (h : Arg Try.prog 44 W v) : ∃ (u1 u2 u3 : Value) (A B : List Int) (V : List Nat) (bad : Nat), v = .agg #[u1, u2, u3, .int .u8 bad] ∧
    Rd W u1 (ints A) ∧ Rd W u2 (ints B) ∧ Rd W u3 (V.map fun (n : Nat) => Value.int .u8 n) ∧ (∀ n ∈ V, n < 256) ∧ bad < 256 ∧
    (∀ z ∈ A, -9223372036854775808 ≤ z ∧ z ≤ 9223372036854775807) ∧ (∀ z ∈ B, -9223372036854775808 ≤ z ∧ z ≤ 9223372036854775807) := by
  obtain ⟨cs, rfl⟩ := h.struct Try.underlying44
  obtain ⟨hl, hf⟩ := h.cells.struct Try.underlying44
  rw [show Try.prog.cellsOf 44 = 4 by kernel_rfl] at hl
  obtain ⟨a, b, c, d, hcs⟩ := list4 hl
  rw [hcs] at hf
  have ci : Try.prog.cellsOf 3 = 1 := by kernel_rfl
  have cs1 : Try.prog.cellsOf 22 = 1 := by kernel_rfl
  have cs2 : Try.prog.cellsOf 42 = 1 := by kernel_rfl
  have cu : Try.prog.cellsOf 5 = 1 := by kernel_rfl
  have h0 : Cells Try.prog W 22 (([a, b, c, d].drop 0).take (Try.prog.cellsOf 22)) := hf 0 _ rfl
  rw [cs1] at h0
  obtain ⟨u1, l1, e0, R0, f0, _⟩ := h0.nums Try.underlying22 Try.underlying3 ci
  have h1 : Cells Try.prog W 22 (([a, b, c, d].drop 1).take (Try.prog.cellsOf 22)) := hf 1 _ rfl
  rw [cs1] at h1
  obtain ⟨u2, l2, e1, R1, f1, _⟩ := h1.nums Try.underlying22 Try.underlying3 ci
  have h2 : Cells Try.prog W 42 (([a, b, c, d].drop 2).take (Try.prog.cellsOf 42)) := hf 2 _ rfl
  rw [cs2] at h2
  obtain ⟨u3, l3, e2, R2, f2, _⟩ := h2.nums Try.underlying42 Try.underlying5 cu
  have h3 : Cells Try.prog W 5 (([a, b, c, d].drop 3).take (Try.prog.cellsOf 5)) := hf 3 _ rfl
  rw [cu] at h3
  obtain ⟨x3, e3, f3⟩ := h3.int Try.underlying5
  simp at e0 e1 e2 e3
  subst e0 e1 e2 e3
  obtain ⟨V, rfl⟩ := nats_of l3 fun z hz => (bounds_u8 (f2 z hz)).1
  obtain ⟨b0, b1⟩ := bounds_u8 f3
  obtain ⟨bad, rfl⟩ := Int.eq_ofNat_of_zero_le b0
  have hcs' : cs.toList = _ := hcs
  refine ⟨a, b, c, l1, l2, V, bad, by rw [← hcs'], R0, R1, by rw [List.map_map] at R2; exact R2, fun n hn => ?_, by omega, fun z hz => bounds_i64 (f0 z hz), fun z hz => bounds_i64 (f1 z hz)⟩
  have := (bounds_u8 (f2 n (List.mem_map.2 ⟨n, hn, rfl⟩))).2
  omega
end Go.Proofs.Ytmkphllfignbpaa
