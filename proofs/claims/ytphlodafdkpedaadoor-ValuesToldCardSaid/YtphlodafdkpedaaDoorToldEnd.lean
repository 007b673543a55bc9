/-
  A number is told by its digits: what the walk wants (plain).
-/
import Derived.Test.YtphlodafdkpedaaDoorToldMath
import Derived.Test.YtphlodafdkpedaaDoorMayMath
namespace Go.Proofs.YtphlodafdkpedaaDoor
open Go.RowKit
open Go

theorem ba_loop (S : ByteArray) : ∀ (n i : Nat) (r : List UInt8), S.size - i = n → ByteArray.toList.loop S i r = r.reverse ++ S.data.toList.drop i := by
  intro n
  induction n with
  | zero =>
    intro i r hn
    rw [ByteArray.toList.loop, if_neg (by omega), List.drop_eq_nil_of_le (by have : S.data.toList.length = S.size := rfl; omega)]
    simp
  | succ n ih =>
    intro i r hn
    have hi : i < S.data.toList.length := by have : S.data.toList.length = S.size := rfl; omega
    rw [ByteArray.toList.loop, if_pos (by omega), ih _ _ (by omega), List.drop_eq_getElem_cons hi]
    have hd : i < S.data.size := hi
    have e : S.get! i = S.data.toList[i] := by
      cases S
      exact getElem!_pos _ i hd
    rw [e]
    simp
theorem toList_txt (n : Int) : (txt n).toList = Lib.itoa n := by
  unfold ByteArray.toList
  rw [ba_loop _ _ _ _ rfl]
  rfl
theorem txt_eq (a b : Int) : ((txt a).toList == (txt b).toList) = (a == b) := by
  rw [toList_txt, toList_txt]
  by_cases h : a = b
  · subst h; rw [beq_self_eq_true, beq_self_eq_true]
  · have : Lib.itoa a ≠ Lib.itoa b := fun e => h (itoa_inj e)
    rw [beq_eq_false_iff_ne.2 this, beq_eq_false_iff_ne.2 h]
theorem txt_get (n : Int) (k : Nat) (h : k < (txt n).size) : ∃ h' : k < (Lib.itoa n).length, (txt n)[k] = (Lib.itoa n)[k] := by
  have e : (txt n).size = (Lib.itoa n).length := size_of_list _
  exact ⟨by omega, rfl⟩
theorem txt_size (n : Int) : (txt n).size = (Lib.itoa n).length := size_of_list _
/-- The run of the first digits. -/
def runU (D : List UInt8) (k : Nat) : Int := ((runD (D.take k) : Nat) : Int) % 18446744073709551616
theorem runU_b (D : List UInt8) (k : Nat) : 0 ≤ runU D k ∧ runU D k ≤ 18446744073709551615 := by unfold runU; omega
theorem runU_step (D : List UInt8) (k : Nat) (h : k < D.length) (h48 : 48 ≤ (D[k].toNat : Int)) :
    runU D (k + 1) = IntKind.u64.wrap (IntKind.u64.wrap (10 * runU D k) + ((D[k].toNat : Int) - 48)) := by
  unfold runU
  rw [take_snoc _ _ h, runD_snoc, IntKind.wrap_u64, IntKind.wrap_u64]
  omega
theorem runU_all (u : Nat) (h : u ≤ 9223372036854775808) : runU (Lib.decDigits u) (Lib.decDigits u).length = u := by
  unfold runU
  rw [List.take_length, runD_dec]
  omega
theorem dec_first (u : Nat) (hu : 1 ≤ u) (h : 0 < (Lib.decDigits u).length) : (Lib.decDigits u)[0].toNat ≠ 48 := by
  obtain ⟨b, l, e, hb⟩ := dec_head u hu
  have : (Lib.decDigits u)[0] = b := by simp [e]
  rw [this]
  exact hb
theorem dec_at (u k : Nat) (h : k < (Lib.decDigits u).length) : 48 ≤ ((Lib.decDigits u)[k].toNat : Int) ∧ ((Lib.decDigits u)[k].toNat : Int) ≤ 57 := by
  have := dec_digit u _ (List.getElem_mem h)
  omega
end Go.Proofs.YtphlodafdkpedaaDoor
