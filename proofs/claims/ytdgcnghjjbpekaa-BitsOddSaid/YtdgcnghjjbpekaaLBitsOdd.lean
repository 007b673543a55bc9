/-
  The walk of BitsOdd: a number that has higher bits than it may is refused, and nothing is put.
-/
import Derived.Test.YtdgcnghjjbpekaaBitsAlive
import Derived.Test.YtdgcnghjjbpekaaOpen
namespace Go.Proofs.Ytdgcnghjjbpekaa
open Go.RowKit
open Go

set_option maxHeartbeats 1000000 in
set_option maxRecDepth 20000 in
theorem walk_BitsOdd (v0 v1 : Value) (W : World) (A0 : Arg Try.prog 29 W v0) (A1 : Arg Try.prog 5 W v1) :
    Calls Try.prog 7 #[v0, v1] W fun e w' => e = .returned (.bool true) ∧ Below W.heap.size W w' := by
  obtain ⟨n, rfl, hn⟩ := A0.int Try.underlying29
  obtain ⟨m, rfl, hm⟩ := A1.int Try.underlying5
  obtain ⟨hn0, hn1⟩ := bounds_u64 hn
  obtain ⟨hm0, hm1⟩ := bounds_u8 hm
  obtain ⟨n, rfl⟩ := Int.eq_ofNat_of_zero_le hn0
  clear A0 A1 hn hm
  by_cases h : m - 64 < 0 ∨ 64 < m - 64
  · by_cases h1 : m - 64 < 0
    all_goals
      go_enter Try.func7, Try.ntmps7
      go_wp2_with fail
      refine (new_mine W _ (Below.refl _ _)).mono ?_
      rintro e w1 ⟨pw, rfl, m1, b1⟩
      clear b1
      go_wp2_with fail
      refine (put_mine W pw [] 1 1 _ m1 (by decide) (by decide) (by decide)).mono ?_
      rintro e w2 ⟨rfl, m2⟩
      clear m1
      go_wp2_with fail
      refine (putno_mine W pw _ _ _ _ m2 (by omega)).mono ?_
      rintro e w3 ⟨rfl, m3⟩
      clear m2
      have HL : Hid (([] ++ nbits 1 1).length = 1) := rfl
      go_wp2_with fail
      refine (alive2_any _).mono ?_
      rintro e w4 ⟨rfl, b4⟩
      replace m3 := m3.below b4
      clear b4
      go_wp2_with fail
      refine (len_mine W pw _ _ m3).mono ?_
      rintro e w5 ⟨rfl, rfl⟩
      rw [HL.out]
      go_wp2_with fail
      go_ret
      exact ⟨rfl, m3.bel⟩
  · obtain ⟨k, hk⟩ := Int.eq_ofNat_of_zero_le (show 0 ≤ m - 64 by omega)
    obtain rfl : m = k + 64 := by omega
    by_cases hnk : n < 2 ^ k
    · have hmd : n % 2 ^ k = n := Nat.mod_eq_of_lt hnk
      have HM := Lib.hid hmd
      have HN1 : Hid (n < 2 ^ 64) := by unfold Hid; omega
      have HNK := Lib.hid hnk
      clear hmd hk hn0 hn1 hnk
      go_enter Try.func7, Try.ntmps7
      go_wp2_with fail
      refine (new_mine W _ (Below.refl _ _)).mono ?_
      rintro e w1 ⟨pw, rfl, m1, b1⟩
      clear b1
      go_wp2_with fail
      refine (put_mine W pw [] 1 1 _ m1 (by decide) (by decide) (by decide)).mono ?_
      rintro e w2 ⟨rfl, m2⟩
      clear m1
      go_wp2_with fail
      refine (put_mine W pw _ n k _ m2 HNK.out (by omega) (by simp [nbits_len]; omega)).mono ?_
      rintro e w3 ⟨rfl, m3⟩
      clear m2
      have HL : Hid ((([] ++ nbits 1 1 ++ nbits n k).length : Int) = 1 + k) := by unfold Hid; simp [nbits_len]
      go_wp2_with fail
      have C := low_any n k w3 HN1.out (by omega)
      rw [HM.out] at C
      refine C.mono ?_
      clear C HM HNK HN1
      rintro e w4 ⟨rfl, rfl⟩
      go_wp2_with fail
      refine (alive2_any _).mono ?_
      rintro e w4 ⟨rfl, b4⟩
      replace m3 := m3.below b4
      clear b4
      go_wp2_with fail
      refine (len_mine W pw _ _ m3).mono ?_
      rintro e w5 ⟨rfl, rfl⟩
      rw [HL.out]
      go_wp2_with fail
      go_ret
      exact ⟨rfl, m3.bel⟩
    · have hmd : ((((n % 2 ^ k : Nat) : Int) == (n : Int)) = false) := by
        rw [beq_eq_false_iff_ne]
        have := Nat.mod_lt n (Nat.two_pow_pos k)
        omega
      have HM := Lib.hid hmd
      have HN1 : Hid (n < 2 ^ 64) := by unfold Hid; omega
      have HNK : Hid ((2 : Int) ^ k ≤ (n : Int)) := by
        unfold Hid
        rw [show (2 : Int) ^ k = ((2 ^ k : Nat) : Int) by simp]
        omega
      clear hmd hk hn0 hn1 hnk
      go_enter Try.func7, Try.ntmps7
      go_wp2_with fail
      refine (new_mine W _ (Below.refl _ _)).mono ?_
      rintro e w1 ⟨pw, rfl, m1, b1⟩
      clear b1
      go_wp2_with fail
      refine (put_mine W pw [] 1 1 _ m1 (by decide) (by decide) (by decide)).mono ?_
      rintro e w2 ⟨rfl, m2⟩
      clear m1
      go_wp2_with fail
      refine (putno_mine W pw _ n k _ m2 (.inr (.inr ⟨by omega, by omega, by rw [Int.toNat_natCast]; exact Int.not_lt.2 HNK.out⟩))).mono ?_
      rintro e w3 ⟨rfl, m3⟩
      clear m2
      have HL : Hid (([] ++ nbits 1 1).length = 1) := rfl
      go_wp2_with fail
      have C := low_any n k w3 HN1.out (by omega)
      generalize ((n % 2 ^ k : Nat) : Int) = x at *
      refine C.mono ?_
      clear C HNK HN1
      rintro e w4 ⟨rfl, rfl⟩
      have hx := HM.out
      go_wp2_with fail
      refine (alive2_any _).mono ?_
      rintro e w4 ⟨rfl, b4⟩
      replace m3 := m3.below b4
      clear b4
      go_wp2_with fail
      refine (len_mine W pw _ _ m3).mono ?_
      rintro e w5 ⟨rfl, rfl⟩
      rw [HL.out]
      go_wp2_with fail
      go_ret
      exact ⟨rfl, m3.bel⟩
end Go.Proofs.Ytdgcnghjjbpekaa
