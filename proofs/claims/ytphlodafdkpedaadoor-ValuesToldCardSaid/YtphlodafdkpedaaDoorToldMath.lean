/-
  A number is told by its digits (plain).
-/
import Derived.Test.YtphlodafdkpedaaDoorRefText
namespace Go.Proofs.YtphlodafdkpedaaDoor
open Go.RowKit
open Go

/-- What digits run to. -/
def runD (l : List UInt8) : Nat := l.foldl (fun n b => 10 * n + (b.toNat - 48)) 0
theorem runD_snoc (l : List UInt8) (b : UInt8) : runD (l ++ [b]) = 10 * runD l + (b.toNat - 48) := by
  unfold runD
  rw [List.foldl_append]
  rfl
theorem dig_nat (k : Nat) (h : k < 10) : (UInt8.ofNat (48 + k)).toNat = 48 + k := by
  rw [UInt8.toNat_ofNat']
  omega
theorem runD_dec (u : Nat) : runD (Lib.decDigits u) = u := by
  induction u using Nat.strongRecOn with
  | ind u ih =>
    by_cases h : u < 10
    · rw [Lib.decDigits_one h]
      have := dig_nat u h
      unfold runD
      simp only [List.foldl_cons, List.foldl_nil]
      omega
    · rw [dec_big u (by omega), runD_snoc, ih (u / 10) (by omega), dig_nat _ (Nat.mod_lt _ (by omega))]
      omega
theorem dec_digit (u : Nat) : ∀ b ∈ Lib.decDigits u, 48 ≤ b.toNat ∧ b.toNat ≤ 57 := by
  induction u using Nat.strongRecOn with
  | ind u ih =>
    intro b hb
    by_cases h : u < 10
    · rw [Lib.decDigits_one h] at hb
      obtain rfl := List.mem_singleton.1 hb
      rw [dig_nat u h]
      omega
    · rw [dec_big u (by omega)] at hb
      rcases List.mem_append.1 hb with hb | hb
      · exact ih (u / 10) (by omega) b hb
      · obtain rfl := List.mem_singleton.1 hb
        have := Nat.mod_lt u (show 0 < 10 by omega)
        rw [dig_nat _ this]
        omega
/-- The first digit of a number of two digits or more is not 0. -/
theorem dec_head (u : Nat) (h : 1 ≤ u) : ∃ b l, Lib.decDigits u = b :: l ∧ b.toNat ≠ 48 := by
  induction u using Nat.strongRecOn with
  | ind u ih =>
    by_cases h1 : u < 10
    · exact ⟨_, [], Lib.decDigits_one h1, by rw [dig_nat u h1]; omega⟩
    · obtain ⟨b, l, e, hb⟩ := ih (u / 10) (by omega) (by omega)
      exact ⟨b, l ++ [UInt8.ofNat (48 + u % 10)], by rw [dec_big u (by omega), e]; rfl, hb⟩
theorem itoa_inj {a b : Int} (h : Lib.itoa a = Lib.itoa b) : a = b := by
  have key : ∀ (n : Int) (u : Nat), n < 0 → Lib.itoa n = Lib.decDigits u → False := by
    intro n u hn e
    obtain ⟨k, hk⟩ := Int.eq_ofNat_of_zero_le (show 0 ≤ -n by omega)
    obtain rfl : n = -(k : Int) := by omega
    rw [Lib.itoa_neg k (by omega)] at e
    have := dec_digit u 45 (by rw [← e]; simp)
    have e45 : (45 : UInt8).toNat = 45 := rfl
    omega
  rcases (show a < 0 ∨ 0 ≤ a by omega) with ha | ha
  · rcases (show b < 0 ∨ 0 ≤ b by omega) with hb | hb
    · obtain ⟨k, hk⟩ := Int.eq_ofNat_of_zero_le (show 0 ≤ -a by omega)
      obtain ⟨m, hm⟩ := Int.eq_ofNat_of_zero_le (show 0 ≤ -b by omega)
      obtain rfl : a = -(k : Int) := by omega
      obtain rfl : b = -(m : Int) := by omega
      rw [Lib.itoa_neg k (by omega), Lib.itoa_neg m (by omega)] at h
      have e := congrArg runD (List.cons.inj h).2
      rw [runD_dec, runD_dec] at e
      omega
    · obtain ⟨m, rfl⟩ := Int.eq_ofNat_of_zero_le hb
      rw [Lib.itoa_nonneg m] at h
      exact (key a m ha h).elim
  · obtain ⟨k, rfl⟩ := Int.eq_ofNat_of_zero_le ha
    rcases (show b < 0 ∨ 0 ≤ b by omega) with hb | hb
    · rw [Lib.itoa_nonneg k] at h
      exact (key b k hb h.symm).elim
    · obtain ⟨m, rfl⟩ := Int.eq_ofNat_of_zero_le hb
      rw [Lib.itoa_nonneg, Lib.itoa_nonneg] at h
      have e := congrArg runD h
      rw [runD_dec, runD_dec] at e
      omega
end Go.Proofs.YtphlodafdkpedaaDoor
