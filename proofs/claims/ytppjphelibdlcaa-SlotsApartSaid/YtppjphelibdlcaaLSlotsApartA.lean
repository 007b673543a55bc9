/-
  The walk of SlotsApart, its argument, and where it has nothing to say.
-/
import Derived.Test.YtppjphelibdlcaaSlotsTight
import Derived.Test.YtppjphelibdlcaaSlotsArgs
import Derived.Test.YtppjphelibdlcaaSlotsFacts
import Derived.Deep.RegionHeld3
import Derived.OpenShut
namespace Go.Proofs.Ytppjphelibdlcaa
open Go.RowKit
open Go

theorem Arg.sending {W : World} {x : Value} (h : Arg Try.prog 37 W x) : ∃ (bit near far drift bad : Int) (v : Value) (l : List Int) (u : Value) (os : List Int) (y : Value) (ls : List Int),
    x = .agg #[.int .i64 bit, .int .i64 near, .int .i64 far, .int .i64 drift, .int .i64 bad, v, u, y] ∧ Rd W v (l.map (Value.int .i64)) ∧ Rd W u (os.map (Value.int .i64)) ∧ Rd W y (ls.map (Value.int .i64)) := by
  obtain ⟨cs, rfl⟩ := h.struct Try.underlying37
  obtain ⟨hl, hf⟩ := h.cells.struct Try.underlying37
  have hcs : (Value.agg cs).cells.toList = cs.toList := rfl
  rw [hcs] at hl hf
  generalize hc : cs.toList = cl at *
  have hcc : cs = cl.toArray := by rw [← hc]
  subst hcc
  rw [show Try.prog.cellsOf 37 = 8 by kernel_rfl] at hl
  obtain ⟨a0, a1, a2, a3, a4, a5, a6, a7, rfl⟩ : ∃ a0 a1 a2 a3 a4 a5 a6 a7, cl = [a0, a1, a2, a3, a4, a5, a6, a7] := by
    match cl, hl with
    | [a0, a1, a2, a3, a4, a5, a6, a7], _ => exact ⟨a0, a1, a2, a3, a4, a5, a6, a7, rfl⟩
  have n1 : Try.prog.cellsOf 3 = 1 := by kernel_rfl
  have n2 : Try.prog.cellsOf 24 = 1 := by kernel_rfl
  have n3 : Try.prog.cellsOf 23 = 5 := by kernel_rfl
  have h0 : Cells Try.prog W 23 (([a0, a1, a2, a3, a4, a5, a6, a7].drop 0).take (Try.prog.cellsOf 23)) := hf 0 _ rfl
  have h1 : Cells Try.prog W 24 (([a0, a1, a2, a3, a4, a5, a6, a7].drop 5).take (Try.prog.cellsOf 24)) := hf 1 _ rfl
  have h2 : Cells Try.prog W 24 (([a0, a1, a2, a3, a4, a5, a6, a7].drop 6).take (Try.prog.cellsOf 24)) := hf 2 _ rfl
  have h3 : Cells Try.prog W 24 (([a0, a1, a2, a3, a4, a5, a6, a7].drop 7).take (Try.prog.cellsOf 24)) := hf 3 _ rfl
  rw [n3] at h0
  rw [n2] at h1 h2 h3
  obtain ⟨bit, near, far, drift, bad, e0, f⟩ := h0.setup
  obtain ⟨v, l, e1, hR, _, _⟩ := h1.nums Try.underlying24 Try.underlying3 n1
  obtain ⟨u, os, e2, hO, _, _⟩ := h2.nums Try.underlying24 Try.underlying3 n1
  obtain ⟨y, ls, e3, hL, _, _⟩ := h3.nums Try.underlying24 Try.underlying3 n1
  simp at e0 e1 e2 e3
  obtain ⟨rfl, rfl, rfl, rfl, rfl⟩ := e0
  subst e1 e2 e3
  exact ⟨bit, near, far, drift, bad, _, l, _, os, _, ls, rfl, hR, hO, hL⟩

set_option maxRecDepth 20000 in
set_option maxHeartbeats 20000000 in
theorem apart_early (bit near far drift bad : Int) (a a2 a3 : Option Addr) (n c n2 c2 n3 c3 : Nat) (W : World) (hn : n ≤ 9223372036854775807)
    (key : 20 < n ∨ (¬ 20 < n ∧ ((n2 : Int) != n) = true) ∨ (¬ 20 < n ∧ ((n2 : Int) != n) = false ∧ ((n3 : Int) != n) = true)) :
    Calls Try.prog 4 #[.agg #[.int .i64 bit, .int .i64 near, .int .i64 far, .int .i64 drift, .int .i64 bad, .slice a n c, .slice a2 n2 c2, .slice a3 n3 c3]] W fun e w' => e = .returned (.bool true) ∧ Below W.heap.size W w' := by
  have B1 := balloc (Below.refl W.heap.size W) (.cells #[.int .i64 bit, .int .i64 near, .int .i64 far, .int .i64 drift, .int .i64 bad, .slice a n c, .slice a2 n2 c2, .slice a3 n3 c3] 37 (0, 0))
  rcases key with h1 | ⟨h1, h2⟩ | ⟨h1, h2, h3⟩
  all_goals
    go_enter Try.func4, Try.ntmps4
    go_wp2_with fail
    refine (lives_any _).mono ?_
    rintro e w1 ⟨rfl, b1⟩
    go_wp2_with fail
    go_ret
    exact ⟨rfl, bnext B1 b1⟩
end Go.Proofs.Ytppjphelibdlcaa
