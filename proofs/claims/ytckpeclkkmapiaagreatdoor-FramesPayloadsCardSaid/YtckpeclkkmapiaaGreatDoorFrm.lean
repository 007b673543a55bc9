/-
  The walks of frames.wide, number, may.
-/
import Derived.Test.YtckpeclkkmapiaaGreatDoorMine
import Derived.Test.YtckpeclkkmapiaaGreatDoorFrMath
import Derived.Test.YtckpeclkkmapiaaGreatDoorCrc
import Derived.Test.YtckpeclkkmapiaaGreatDoorCells
namespace Go.Proofs.YtckpeclkkmapiaaGreatDoor
open Go.RowKit
open Go

theorem wide_any (w : World) : Calls Tryz.prog 99 #[] w fun e w' => e = .returned (.agg #[.int .i64 4, .int .i64 32, .int .i64 8, .int .i64 16, .int .i64 12]) ∧ Below w.heap.size w w' := by
  go_enter Tryz.func99, Tryz.ntmps99
  go_wp2_with fail
  exact bodyPost_ret (v := .agg #[.int .i64 4, .int .i64 32, .int .i64 8, .int .i64 16, .int .i64 12]) (by simp [results, Tryz.results99, go_sem]) rfl ⟨rfl, balloc (Below.refl _ _) _⟩
theorem number_any (c : Nat) (w : World) (hc : c < 4294967296) : Calls Tryz.prog 103 #[.int .u32 c] w fun e w' => ∃ v, e = .returned v ∧ Rd w' v (by8 (iN (num4 c))) ∧ Below w.heap.size w w' := by
  go_enter Tryz.func103, Tryz.ntmps103
  go_wp2_with fail
  go_ret
  have e : (#[Value.int .u8 ((c : Int) / 16777216), .int .u8 ((c : Int) / 65536 % 256), .int .u8 ((c : Int) / 256 % 256), .int .u8 ((c : Int) % 256)] : Array Value) = (by8 (iN (num4 c))).toArray := by
    simp [num4]
    omega
  rw [e]
  exact ⟨_, rfl, rd_new w _ _ 4 4 _ rfl (by decide) (by decide), balloc (Below.refl _ _) _⟩
/-- A frame as a value. -/
def frV (st : Int) (rd mem md : Nat) (v : Value) : Value := .agg #[.int .i64 st, .int .u32 rd, .int .u8 mem, .int .u16 md, v]
/-- An element of an array of five. -/
theorem ix5u (a b c d e : Value) (w : World) : (Instr.index 93 (.agg #[a, b, c, d, e]) (.int .i64 0)).run Tryz.prog w = .ok a w ∧ (Instr.index 93 (.agg #[a, b, c, d, e]) (.int .i64 1)).run Tryz.prog w = .ok b w ∧
    (Instr.index 93 (.agg #[a, b, c, d, e]) (.int .i64 2)).run Tryz.prog w = .ok c w ∧ (Instr.index 93 (.agg #[a, b, c, d, e]) (.int .i64 3)).run Tryz.prog w = .ok d w ∧ (Instr.index 93 (.agg #[a, b, c, d, e]) (.int .i64 4)).run Tryz.prog w = .ok e w := by
  refine ⟨?_, ?_, ?_, ?_, ?_⟩ <;> kernel_rfl
theorem ix5i (w : World) : (Instr.index 94 (.agg #[.int .i64 4, .int .i64 32, .int .i64 8, .int .i64 16, .int .i64 12]) (.int .i64 0)).run Tryz.prog w = .ok (.int .i64 4) w ∧ (Instr.index 94 (.agg #[.int .i64 4, .int .i64 32, .int .i64 8, .int .i64 16, .int .i64 12]) (.int .i64 1)).run Tryz.prog w = .ok (.int .i64 32) w ∧
    (Instr.index 94 (.agg #[.int .i64 4, .int .i64 32, .int .i64 8, .int .i64 16, .int .i64 12]) (.int .i64 2)).run Tryz.prog w = .ok (.int .i64 8) w ∧ (Instr.index 94 (.agg #[.int .i64 4, .int .i64 32, .int .i64 8, .int .i64 16, .int .i64 12]) (.int .i64 3)).run Tryz.prog w = .ok (.int .i64 16) w ∧
    (Instr.index 94 (.agg #[.int .i64 4, .int .i64 32, .int .i64 8, .int .i64 16, .int .i64 12]) (.int .i64 4)).run Tryz.prog w = .ok (.int .i64 12) w := by
  refine ⟨?_, ?_, ?_, ?_, ?_⟩ <;> kernel_rfl
theorem may_any (st : Int) (rd mem md : Nat) (a : Option Addr) (n c : Nat) (w : World) (hn : n ≤ 9223372036854775807) : Calls Tryz.prog 101 #[frV st rd mem md (.slice a n c)] w fun e w' => e = .returned (.bool (decide (1 ≤ st ∧ st ≤ 8 ∧ n ≤ 4095))) ∧ Below w.heap.size w w' := by
  have key : (decide (1 ≤ st) = false ∧ decide (1 ≤ st ∧ st ≤ 8 ∧ n ≤ 4095) = false) ∨ (decide (1 ≤ st) = true ∧ decide (st ≤ 8) = false ∧ decide (1 ≤ st ∧ st ≤ 8 ∧ n ≤ 4095) = false) ∨
      (decide (1 ≤ st) = true ∧ decide (st ≤ 8) = true ∧ decide ((n : Int) ≤ 4095) = false ∧ decide (1 ≤ st ∧ st ≤ 8 ∧ n ≤ 4095) = false) ∨ (decide (1 ≤ st) = true ∧ decide (st ≤ 8) = true ∧ decide ((n : Int) ≤ 4095) = true ∧ decide (1 ≤ st ∧ st ≤ 8 ∧ n ≤ 4095) = true) := by
    simp only [decide_eq_true_eq, decide_eq_false_iff_not]
    omega
  rcases key with ⟨h1, h4⟩ | ⟨h1, h2, h4⟩ | ⟨h1, h2, h3, h4⟩ | ⟨h1, h2, h3, h4⟩
  all_goals
    rw [h4]
    clear h4
    unfold frV
    go_enter Tryz.func101, Tryz.ntmps101
    go_wp2_with fail
    go_ret
    exact ⟨rfl, balloc (Below.refl _ _) _⟩
theorem may_yes (f : Fr) (h : f.Ok) (v : Value) (w : World) (hv : Rd w v (by8 (iN f.pl))) : Calls Tryz.prog 101 #[frV f.st f.rd f.mem f.md v] w fun e w' => e = .returned (.bool true) ∧ Below w.heap.size w w' := by
  obtain ⟨a, c, rfl, h1, h2, _⟩ := hv
  have hl : (by8 (iN f.pl)).length = f.pl.length := by simp
  rw [hl] at *
  refine (may_any f.st f.rd f.mem f.md a _ c w (by have := h.len; omega)).mono ?_
  rintro e w' ⟨rfl, hb⟩
  rw [decide_eq_true ⟨by have := h.st1; omega, by have := h.st8; omega, h.len⟩]
  exact ⟨rfl, hb⟩
end Go.Proofs.YtckpeclkkmapiaaGreatDoor
