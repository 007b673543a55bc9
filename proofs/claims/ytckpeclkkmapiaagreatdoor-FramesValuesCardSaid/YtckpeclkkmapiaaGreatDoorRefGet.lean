/-
  The walks of belfryref02.Get and belfryref03.number.
-/
import Derived.Test.YtckpeclkkmapiaaGreatDoorBitsGet
namespace Go.Proofs.YtckpeclkkmapiaaGreatDoor
open Go.RowKit
open Go

theorem bit8_val (x i : Nat) (hx : x < 256) : bits .and .u8 ((x : Int) / 2 ^ i) 1 = ((x.testBit i).toNat : Nat) := by
  have h1 : ((x : Int) / 2 ^ i) = ((x / 2 ^ i : Nat) : Int) := by simp
  have h2 : x / 2 ^ i ≤ x := Nat.div_le_self _ _
  have h3 := u8_and_nat (x / 2 ^ i) 1 (by omega) (by decide)
  rw [h1, show (1 : Int) = ((1 : Nat) : Int) from rfl, h3, nat_mask1, testBit_div]
  by_cases h : x / 2 ^ i % 2 = 1
  · simp [h]
  · have : x / 2 ^ i % 2 = 0 := by omega
    simp [this]

set_option maxRecDepth 20000 in
set_option maxHeartbeats 2000000 in
theorem rget_ok (v : Value) (bs : List Nat) (at_ k : Nat) (w : World) (h : Rd w v (by8 (iN bs))) (hb : ∀ c ∈ bs, c < 256) (hk : k ≤ 64) (ha : at_ + k ≤ 8 * bs.length) (hm : bs.length ≤ 140737488351232) :
    Calls Tryz.prog 107 #[v, .int .i64 at_, .int .i64 k] w fun e w' => e = .returned (.tuple #[.int .u64 (getN bs at_ k), .int .i64 0]) ∧ w = w' := by
  obtain ⟨a, c, rfl, hc, hcm, hn, hcell⟩ := h
  simp only [List.length_map] at *
  unfold maxLen at hcm
  have e1 : decide ((at_ : Int) < 0) = false := by simp
  have e2 : decide ((k : Int) < 0) = false := by simp
  have e3 : decide (64 < (k : Int)) = false := by simp; omega
  have HC := Lib.hid hcell
  have HB := Lib.hid hb
  clear hcell hb
  go_enter Tryz.func107, Tryz.ntmps107
  go_wp2_with fail
  clear e1 e2 e3
  go_loop [8, 9] (fun n i => ∃ j : Nat, j ≤ k ∧ i = .int .i64 ((at_ : Int) + j) ∧ n = .int .u64 (getN bs at_ j)) (fun _ i => (at_ + k - intOf i).toNat)
  case atStart => exact ⟨0, by omega, by simp, by rw [getN_zero]; rfl⟩
  case round =>
    obtain ⟨j, hj, rfl, rfl⟩ := hrel
    by_cases hlt : j < k
    · obtain ⟨x, hx, hs⟩ := getN_succ bs at_ j (by omega)
      obtain ⟨b, o, rfl, x0⟩ := HC.out ((at_ + j) / 8) (.int .u8 x) (by simp [by8, iN, hx])
      have hl := getN_lt bs at_ j
      have hx256 : x < 256 := HB.out x (List.mem_of_getElem? hx)
      have HS := Lib.hid hs
      clear hs hx
      generalize getN bs at_ j = N at *
      have hN : N < 9223372036854775808 := Nat.lt_of_lt_of_le hl (Nat.le_trans (Nat.pow_le_pow_right (by decide) (show j ≤ 63 by omega)) (by decide))
      have hX := bit8_val x (7 - (at_ + j) % 8) hx256
      generalize hy : (x.testBit (7 - (at_ + j) % 8)).toNat = y at *
      have hy1 : y ≤ 1 := by rw [← hy]; cases x.testBit (7 - (at_ + j) % 8) <;> simp
      have HY := Lib.hid hy
      clear hy hl
      go_wp2_with fail
      go_round
      case rel => exact ⟨j + 1, by omega, by go_num, by rw [HS.out]; simp⟩
      case measure => simp [intOf]; omega
    · obtain rfl : j = k := by omega
      go_wp2_with fail
      go_ret2
      exact ⟨rfl, rfl⟩
theorem rget_short (v : Value) (cs : List Int) (at_ k : Nat) (w : World) (h : Rd w v (by8 cs)) (hk : k ≤ 64) (ha : ¬ at_ + k ≤ 8 * cs.length) (hm : cs.length ≤ 140737488351232) (hat : at_ ≤ 9223372036854775807) :
    Calls Tryz.prog 107 #[v, .int .i64 at_, .int .i64 k] w fun e w' => e = .returned (.tuple #[.int .u64 0, .int .i64 4]) ∧ w = w' := by
  obtain ⟨a, c, rfl, hc, hcm, hn, hcell⟩ := h
  simp only [List.length_map] at *
  unfold maxLen at hcm
  have e1 : decide ((at_ : Int) < 0) = false := by simp
  have e2 : decide ((k : Int) < 0) = false := by simp
  have e3 : decide (64 < (k : Int)) = false := by simp; omega
  have HC := Lib.hid hcell
  clear hcell
  go_enter Tryz.func107, Tryz.ntmps107
  go_wp2_with fail
  go_ret2
  exact ⟨rfl, rfl⟩
theorem rnum_ok (v : Value) (bs : List Nat) (at_ k : Nat) (w : World) (h : Rd w v (by8 (iN bs))) (hb : ∀ c ∈ bs, c < 256) (hk : k ≤ 64) (ha : at_ + k ≤ 8 * bs.length) (hm : bs.length ≤ 140737488351232) :
    Calls Tryz.prog 39 #[v, .int .i64 at_, .int .i64 k] w fun e w' => e = .returned (.int .u64 (getN bs at_ k)) ∧ w = w' := by
  have HG := Lib.hid (rget_ok v bs at_ k w h hb hk ha hm)
  clear h hb
  go_enter Tryz.func39, Tryz.ntmps39
  go_wp2_with fail
  refine Calls.mono HG.out ?_
  rintro e w1 ⟨rfl, rfl⟩
  go_wp2_with fail
  go_ret
  exact ⟨rfl, rfl⟩
end Go.Proofs.YtckpeclkkmapiaaGreatDoor
