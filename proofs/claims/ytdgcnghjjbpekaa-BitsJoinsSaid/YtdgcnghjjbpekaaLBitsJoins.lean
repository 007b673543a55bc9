/-
  The walk of BitsJoins: two numbers that are put one behind the other are as one of both.
-/
import Derived.Test.YtdgcnghjjbpekaaBitsTwo
import Derived.Test.YtdgcnghjjbpekaaCells
namespace Go.Proofs.Ytdgcnghjjbpekaa
open Go.RowKit
open Go

theorem Arg.u8x2 {W : World} {v : Value} (A : Arg Try.prog 37 W v) : ∃ a b : Nat, v = .agg #[.int .u8 a, .int .u8 b] ∧ a < 256 ∧ b < 256 := by
  obtain ⟨cs, rfl⟩ := A.array Try.underlying37
  obtain ⟨zs, hz, hl, hwf⟩ := A.cells.arrNums Try.underlying37 Try.underlying5 (by kernel_rfl) (by kernel_rfl)
  match zs, hl with
  | [x, y], _ =>
    have hx := bounds_u8 (hwf x (by simp))
    have hy := bounds_u8 (hwf y (by simp))
    obtain ⟨a, rfl⟩ := Int.eq_ofNat_of_zero_le hx.1
    obtain ⟨b, rfl⟩ := Int.eq_ofNat_of_zero_le hy.1
    refine ⟨a, b, ?_, by omega, by omega⟩
    have : cs.toList = _ := hz
    rw [← Array.toArray_toList (xs := cs), this]
    rfl
theorem join_of (x y a b : Nat) (hx : x < 2 ^ a) (hy : y < 2 ^ b) (ha : a ≤ 32) (hb : b ≤ 32) :
    bits .or .u64 (IntKind.u64.wrap ((x : Int) * 2 ^ b)) (y : Int) = ((x * 2 ^ b + y : Nat) : Int) ∧ x * 2 ^ b + y < 2 ^ (a + b) := by
  have h1 : 2 ^ a ≤ 2 ^ 32 := Nat.pow_le_pow_right (by decide) ha
  have h2 : 2 ^ b ≤ 2 ^ 32 := Nat.pow_le_pow_right (by decide) hb
  have h3 : (x + 1) * 2 ^ b ≤ 2 ^ a * 2 ^ b := Nat.mul_le_mul_right _ hx
  have h4 : 2 ^ a * 2 ^ b ≤ 2 ^ 32 * 2 ^ 32 := Nat.mul_le_mul h1 h2
  rw [Nat.add_mul, Nat.one_mul] at h3
  have e1 : (x : Int) * 2 ^ b = ((x * 2 ^ b : Nat) : Int) := by simp
  have e2 := nat_join b (x * 2 ^ b) y (Nat.mul_mod_left _ _) hy
  refine ⟨?_, by rw [Nat.pow_add]; omega⟩
  rw [e1, u64_in _ (by omega) (by omega), u64_or_nat _ _ (by omega) (by omega), e2]

set_option maxRecDepth 20000 in
set_option maxHeartbeats 2000000 in
theorem walk_BitsJoins (v0 v1 v2 : Value) (W : World) (A0 : Arg Try.prog 36 W v0) (A1 : Arg Try.prog 36 W v1) (A2 : Arg Try.prog 37 W v2) :
    Calls Try.prog 4 #[v0, v1, v2] W fun e w' => e = .returned (.bool true) ∧ Below W.heap.size W w' := by
  obtain ⟨n, rfl, hn⟩ := A0.int Try.underlying36
  obtain ⟨m, rfl, hm⟩ := A1.int Try.underlying36
  obtain ⟨a, b, rfl, ha, hb⟩ := A2.u8x2
  obtain ⟨hn0, hn1⟩ := bounds_u32 hn
  obtain ⟨hm0, hm1⟩ := bounds_u32 hm
  obtain ⟨n, rfl⟩ := Int.eq_ofNat_of_zero_le hn0
  obtain ⟨m, rfl⟩ := Int.eq_ofNat_of_zero_le hm0
  clear A0 A1 A2 hn hm
  have ea : ((a : Int) % 33) = ((a % 33 : Nat) : Int) := by omega
  have eb : ((b : Int) % 33) = ((b % 33 : Nat) : Int) := by omega
  have ha33 : a % 33 ≤ 32 := by omega
  have hb33 : b % 33 ≤ 32 := by omega
  have HN : Hid (n < 2 ^ 64) := by unfold Hid; omega
  have HM : Hid (m < 2 ^ 64) := by unfold Hid; omega
  generalize a % 33 = p at *
  generalize b % 33 = q at *
  have CX := fun w => low_any n p w HN.out (by omega)
  have CY := fun w => low_any m q w HM.out (by omega)
  have hx : n % 2 ^ p < 2 ^ p := Nat.mod_lt _ (Nat.two_pow_pos _)
  have hy : m % 2 ^ q < 2 ^ q := Nat.mod_lt _ (Nat.two_pow_pos _)
  generalize n % 2 ^ p = x at *
  generalize m % 2 ^ q = y at *
  have HCX := Lib.hid CX
  have HCY := Lib.hid CY
  have HX := Lib.hid hx
  have HY := Lib.hid hy
  obtain ⟨ej, hj⟩ := join_of x y p q hx hy ha33 hb33
  have hjn := nbits_add x y p q hy
  generalize x * 2 ^ q + y = z at *
  have HJ := Lib.hid hj
  have HJN := Lib.hid hjn
  clear hjn
  clear CX CY hx hy hj
  go_enter Try.func4, Try.ntmps4
  go_wp2_with fail
  have B1 := balloc (Below.refl W.heap.size W) (.cells #[.int .u8 a, .int .u8 b] 37 (0, 0))
  refine Calls.mono (HCX.out _) ?_
  rintro e w1 ⟨rfl, rfl⟩
  go_wp2_with fail
  refine Calls.mono (HCY.out _) ?_
  rintro e w1 ⟨rfl, rfl⟩
  generalize W.alloc _ = w1 at *
  clear ea eb
  go_wp2_with fail
  refine (new_mine W _ B1).mono ?_
  rintro e w2 ⟨pw, rfl, m2, _⟩
  clear B1
  go_wp2_with fail
  refine (new_two W pw [] _ m2).mono ?_
  rintro e w3 ⟨qw, rfl, m3⟩
  clear m2
  go_wp2_with fail
  refine (put_two W pw qw _ _ x p _ m3 HX.out (by omega) (by simp; omega)).mono ?_
  rintro e w4 ⟨rfl, m4⟩
  clear m3
  go_wp2_with fail
  refine (put_two W pw qw _ _ y q _ m4 HY.out (by omega) (by simp [nbits_len]; omega)).mono ?_
  rintro e w5 ⟨rfl, m5⟩
  clear m4
  go_wp2_with fail
  refine (put_two W qw pw _ _ z (p + q) _ m5.symm HJ.out (by omega) (by simp; omega)).mono ?_
  rintro e w6 ⟨rfl, m6⟩
  clear m5
  have HL1 : Hid ((([] ++ nbits x p ++ nbits y q).length : Int) = p + q) := by unfold Hid; simp [nbits_len]
  have HL2 : Hid ((([] ++ nbits z (p + q)).length : Int) = p + q) := by unfold Hid; simp [nbits_len]
  go_wp2_with fail
  refine (alive2_any _).mono ?_
  rintro e w7 ⟨rfl, b7⟩
  have m7 := m6.below b7
  clear m6 b7
  go_wp2_with fail
  refine (len_two W pw qw _ _ _ m7.symm).mono ?_
  rintro e w8 ⟨rfl, rfl⟩
  rw [HL1.out]
  go_wp2_with fail
  refine (len_two W qw pw _ _ _ m7).mono ?_
  rintro e w8 ⟨rfl, rfl⟩
  rw [HL2.out]
  go_wp2_with fail
  refine (bytes_two W pw qw _ _ _ m7.symm).mono ?_
  rintro e w8 ⟨v8, rfl, r8, b8⟩
  have m8 := m7.below b8
  clear m7 b8
  go_wp2_with fail
  refine (bytes_two W qw pw _ _ _ m8).mono ?_
  rintro e w9 ⟨v9, rfl, r9, b9⟩
  have m9 := m8.below b9
  have r8' := r8.below b9
  clear m8 b9 r8
  go_wp2_with fail
  have C := same_any v8 v9 _ _ _ r8' r9
  rw [show decide (iN (pack ([] ++ nbits x p ++ nbits y q)) = iN (pack ([] ++ nbits z (p + q)))) = true by rw [HJN.out]; simp] at C
  refine C.mono ?_
  clear C
  rintro e w10 ⟨rfl, b10⟩
  go_wp2_with fail
  go_ret
  exact ⟨rfl, bnext m9.bel b10⟩
end Go.Proofs.Ytdgcnghjjbpekaa
