/-
  The walks of belfrylaw02.low, and of bits.Get where it refuses.
-/
import Derived.Test.YtdgcnghjjbpekaaBitsGet
namespace Go.Proofs.Ytdgcnghjjbpekaa
open Go.RowKit
open Go

theorem u64_in (n : Int) (h0 : 0 ≤ n) (h1 : n < 18446744073709551616) : IntKind.u64.wrap n = n := by
  simp [IntKind.wrap, IntKind.bits, IntKind.signed]
  omega
theorem low_any (n k : Nat) (w : World) (hn : n < 2 ^ 64) (hk : k ≤ 64) :
    Calls Try.prog 12 #[.int .u64 n, .int .i64 k] w fun e w' => e = .returned (.int .u64 ((n % 2 ^ k : Nat) : Int)) ∧ w = w' := by
  by_cases h : 64 ≤ k
  · obtain rfl : k = 64 := by omega
    go_enter Try.func12, Try.ntmps12
    go_wp2_with fail
    go_ret
    exact ⟨by rw [Nat.mod_eq_of_lt hn]; rfl, rfl⟩
  · go_enter Try.func12, Try.ntmps12
    go_wp2_with fail
    go_ret
    refine ⟨?_, rfl⟩
    have hp : 2 ^ k ≤ 2 ^ 63 := Nat.pow_le_pow_right (by decide) (by omega)
    have hp0 : 0 < 2 ^ k := Nat.two_pow_pos k
    have e0 : (2 : Int) ^ k = ((2 ^ k : Nat) : Int) := by simp
    have e1 := u64_and_nat n (2 ^ k - 1) (by omega) (by omega)
    have e2 : bits .and .u64 (n : Int) (IntKind.u64.wrap (IntKind.u64.wrap (2 ^ k) - 1)) = ((n % 2 ^ k : Nat) : Int) := by
      rw [e0, u64_in ((2 ^ k : Nat) : Int) (by omega) (by omega), show ((2 ^ k : Nat) : Int) - 1 = ((2 ^ k - 1 : Nat) : Int) by omega, u64_in _ (by omega) (by omega), e1, Nat.and_two_pow_sub_one_eq_mod]
    rw [← e2]
    rfl
theorem get_short (v : Value) (cs : List Int) (at_ k : Nat) (w : World) (h : Rd w v (by8 cs)) (hk : k ≤ 64) (ha : ¬ at_ + k ≤ 8 * cs.length) (hm : cs.length ≤ 140737488351232) (hat : at_ ≤ 9223372036854775807) :
    Calls Try.prog 14 #[v, .int .i64 at_, .int .i64 k] w fun e w' => e = .returned (.tuple #[.int .u64 0, .int .i64 4]) ∧ w = w' := by
  obtain ⟨a, c, rfl, hc, hcm, hn, hcell⟩ := h
  simp only [List.length_map] at *
  unfold maxLen at hcm
  have e1 : decide ((at_ : Int) < 0) = false := by simp
  have e2 : decide ((k : Int) < 0) = false := by simp
  have e3 : decide (64 < (k : Int)) = false := by simp; omega
  have HC := Lib.hid hcell
  clear hcell
  go_enter Try.func14, Try.ntmps14
  go_wp2_with fail
  go_ret2
  exact ⟨rfl, rfl⟩
theorem get_arg (v : Value) (cs : List Int) (at_ k : Int) (w : World) (h : Rd w v (by8 cs)) (hk : at_ < 0 ∨ k < 0 ∨ 64 < k) :
    Calls Try.prog 14 #[v, .int .i64 at_, .int .i64 k] w fun e w' => e = .returned (.tuple #[.int .u64 0, .int .i64 1]) ∧ w = w' := by
  obtain ⟨a, c, rfl, hc, hcm, hn, hcell⟩ := h
  simp only [List.length_map] at *
  clear hcell
  have key : decide (at_ < 0) = true ∨ (decide (at_ < 0) = false ∧ decide (k < 0) = true) ∨ (decide (at_ < 0) = false ∧ decide (k < 0) = false ∧ decide (64 < k) = true) := by
    simp only [decide_eq_true_eq, decide_eq_false_iff_not]
    omega
  clear hk
  rcases key with h1 | ⟨h1, h2⟩ | ⟨h1, h2, h3⟩
  all_goals
    go_enter Try.func14, Try.ntmps14
    go_wp2_with fail
    go_ret2
    exact ⟨rfl, rfl⟩
end Go.Proofs.Ytdgcnghjjbpekaa
