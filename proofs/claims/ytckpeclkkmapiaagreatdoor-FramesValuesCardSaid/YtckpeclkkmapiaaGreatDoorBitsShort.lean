/-
  The walks of bits.Get where it refuses.
-/
import Derived.Test.YtckpeclkkmapiaaGreatDoorBitsGet
namespace Go.Proofs.YtckpeclkkmapiaaGreatDoor
open Go.RowKit
open Go

theorem u64_in (n : Int) (h0 : 0 ≤ n) (h1 : n < 18446744073709551616) : IntKind.u64.wrap n = n := by
  simp [IntKind.wrap, IntKind.bits, IntKind.signed]
  omega
theorem get_short (v : Value) (cs : List Int) (at_ k : Nat) (w : World) (h : Rd w v (by8 cs)) (hk : k ≤ 64) (ha : ¬ at_ + k ≤ 8 * cs.length) (hm : cs.length ≤ 140737488351232) (hat : at_ ≤ 9223372036854775807) :
    Calls Tryz.prog 36 #[v, .int .i64 at_, .int .i64 k] w fun e w' => e = .returned (.tuple #[.int .u64 0, .int .i64 4]) ∧ w = w' := by
  obtain ⟨a, c, rfl, hc, hcm, hn, hcell⟩ := h
  simp only [List.length_map] at *
  unfold maxLen at hcm
  have e1 : decide ((at_ : Int) < 0) = false := by simp
  have e2 : decide ((k : Int) < 0) = false := by simp
  have e3 : decide (64 < (k : Int)) = false := by simp; omega
  have HC := Lib.hid hcell
  clear hcell
  go_enter Tryz.func36, Tryz.ntmps36
  go_wp2_with fail
  go_ret2
  exact ⟨rfl, rfl⟩
theorem get_arg (v : Value) (cs : List Int) (at_ k : Int) (w : World) (h : Rd w v (by8 cs)) (hk : at_ < 0 ∨ k < 0 ∨ 64 < k) :
    Calls Tryz.prog 36 #[v, .int .i64 at_, .int .i64 k] w fun e w' => e = .returned (.tuple #[.int .u64 0, .int .i64 1]) ∧ w = w' := by
  obtain ⟨a, c, rfl, hc, hcm, hn, hcell⟩ := h
  simp only [List.length_map] at *
  clear hcell
  have key : decide (at_ < 0) = true ∨ (decide (at_ < 0) = false ∧ decide (k < 0) = true) ∨ (decide (at_ < 0) = false ∧ decide (k < 0) = false ∧ decide (64 < k) = true) := by
    simp only [decide_eq_true_eq, decide_eq_false_iff_not]
    omega
  clear hk
  rcases key with h1 | ⟨h1, h2⟩ | ⟨h1, h2, h3⟩
  all_goals
    go_enter Tryz.func36, Tryz.ntmps36
    go_wp2_with fail
    go_ret2
    exact ⟨rfl, rfl⟩
end Go.Proofs.YtckpeclkkmapiaaGreatDoor
