/-
  Bytes that are values of types: plain laws. No program in sight.
-/
import Derived.Test.YtckpeclkkmapiaaToldFr
namespace Go.Proofs.Ytckpeclkkmapiaa
open Go.RowKit
open Go

theorem un_wrap (g : Nat) (h : g < 18446744073709551616) : un (wrap64 (g : Int)) = g := by
  have hu := un_eq (wrap64 (g : Int))
  have hw : IntKind.u64.wrap (wrap64 (g : Int)) = wrap64 (g : Int) % 18446744073709551616 := by simp [IntKind.wrap, IntKind.bits, IntKind.signed]
  rw [hw] at hu
  unfold wrap64 at hu ⊢
  omega
theorem bits_vals (bs : List Nat) (ts : List Int) (a : Nat) (h : a + sizeT ts ≤ 8 * bs.length) : bitsL (valsAt bs a ts) = ((unpack bs).drop a).take (sizeT ts) := by
  induction ts generalizing a with
  | nil => simp [valsAt, sizeT, bitsL]
  | cons t ts ih =>
    simp only [sizeT] at h ⊢
    have hw := tyW_le t
    have hg := getN_lt bs a (tyW t)
    have hg2 : getN bs a (tyW t) < 18446744073709551616 := Nat.lt_of_lt_of_le hg (Nat.pow_le_pow_right (n := 2) (by decide) hw)
    simp only [valsAt]
    rw [bitsL_cons, ih (a + tyW t) (by omega)]
    show nbits (un (wrap64 (getN bs a (tyW t)))) (tyW t) ++ _ = _
    rw [un_wrap _ hg2, nbits_getN bs a (tyW t) (by omega), List.take_add, List.drop_drop]
theorem vals_chk (bs : List Nat) (ts : List Int) (a : Nat) (h : ∀ t ∈ ts, t = 1 ∨ t = 2) : ∀ p ∈ valsAt bs a ts, chkV p = true := by
  induction ts generalizing a with
  | nil => intro p hp; cases hp
  | cons t ts ih =>
    intro p hp
    simp only [valsAt, List.mem_cons] at hp
    rcases hp with rfl | hp
    · rcases h t (by simp) with rfl | rfl
      · rfl
      · have hg := getN_lt bs a (tyW 2)
        have e : tyW 2 = 1 := rfl
        rw [e] at hg ⊢
        have : getN bs a 1 = 0 ∨ getN bs a 1 = 1 := by omega
        rcases this with h | h <;> rw [h] <;> simp [chkV, wrap64]
    · exact ih _ (fun x hx => h x (by simp [hx])) p hp
theorem vals_in (bs : List Nat) (ts : List Int) (a : Nat) : ∀ p ∈ valsAt bs a ts, -9223372036854775808 ≤ p.2 ∧ p.2 ≤ 9223372036854775807 := by
  induction ts generalizing a with
  | nil => intro p hp; cases hp
  | cons t ts ih =>
    intro p hp
    simp only [valsAt, List.mem_cons] at hp
    rcases hp with rfl | hp
    · show -9223372036854775808 ≤ wrap64 _ ∧ wrap64 _ ≤ 9223372036854775807
      unfold wrap64
      omega
    · exact ih _ p hp
theorem valsAt_at (bs : List Nat) (ts : List Int) (a q : Nat) : (valsAt bs a ts)[q]? = ts[q]?.map fun t => (t, wrap64 (getN bs (a + sizeT (ts.take q)) (tyW t))) := by
  induction ts generalizing a q with
  | nil => simp [valsAt]
  | cons t ts ih =>
    cases q with
    | zero => simp [valsAt, sizeT]
    | succ q =>
      simp only [valsAt, List.getElem?_cons_succ, List.take_succ_cons, sizeT]
      rw [ih, Nat.add_assoc]
theorem sizeT_rep (n : Nat) (t : Int) : sizeT (List.replicate n t) = n * tyW t := by
  induction n with
  | zero => simp [sizeT]
  | succ n ih => rw [List.replicate_succ, sizeT, ih, Nat.add_mul, Nat.one_mul, Nat.add_comm]
/-- The types of so many numbers, and of bits behind. -/
def tyK (k m : Nat) : List Int := List.replicate k 1 ++ List.replicate m 2
theorem tyK_len (k m : Nat) : (tyK k m).length = k + m := by simp [tyK]
theorem tyK_size (k m : Nat) : sizeT (tyK k m) = 64 * k + m := by
  rw [tyK, sizeT_append, sizeT_rep, sizeT_rep, show tyW 1 = 64 from rfl, show tyW 2 = 1 from rfl]
  omega
theorem tyK_more (k m : Nat) : by8 (tyK k (m + 1)) = by8 (tyK k m) ++ [Value.int .u8 2] := by
  unfold tyK
  rw [List.replicate_succ', ← List.append_assoc, by8_append]
  rfl
theorem tyK_first (k : Nat) : by8 (tyK (k + 1) 0) = by8 (tyK k 0) ++ [Value.int .u8 1] := by
  simp only [tyK, List.replicate_zero, List.append_nil]
  rw [List.replicate_succ', by8_append]
  rfl
theorem tyK_mem (k m : Nat) : ∀ t ∈ tyK k m, t = 1 ∨ t = 2 := by
  intro t ht
  rcases List.mem_append.1 ht with h | h
  · exact .inl (List.eq_of_mem_replicate h)
  · exact .inr (List.eq_of_mem_replicate h)
theorem tyK_any (k m : Nat) : (tyK k m).any (fun t => tyW t == 0) = false := by
  rw [List.any_eq_false]
  intro t ht
  rcases tyK_mem k m t ht with rfl | rfl <;> decide
theorem tyK_at (k m q : Nat) (h1 : k ≤ q) (h2 : q < k + m) : (tyK k m)[q]? = some 2 ∧ sizeT ((tyK k m).take q) = 64 * k + (q - k) := by
  constructor
  · rw [tyK, List.getElem?_append_right (by simpa using h1), List.getElem?_replicate, if_pos (by simp; omega)]
  · have : (tyK k m).take q = tyK k (q - k) := by
      rw [tyK, List.take_append, List.length_replicate, List.take_of_length_le (by simpa using h1), List.take_replicate, show min (q - k) m = q - k by omega]
      rfl
    rw [this, tyK_size]
theorem errV_tyK (bs : List Nat) (k : Nat) (h : 8 * k ≤ bs.length) : errV bs (tyK k (8 * (bs.length - 8 * k))) = 0 := by
  unfold errV
  rw [if_neg (by rw [tyK_any]; decide), tyK_size, if_neg (by omega), show 8 * bs.length - (64 * k + 8 * (bs.length - 8 * k)) = 0 by omega, getN_zero, if_neg (by simp)]
theorem pack_tyK (bs : List Nat) (hb : NB bs) (k : Nat) (h : 8 * k ≤ bs.length) : pack (bitsL (valsAt bs 0 (tyK k (8 * (bs.length - 8 * k))))) = bs ∧ (bitsL (valsAt bs 0 (tyK k (8 * (bs.length - 8 * k))))).length = 8 * bs.length := by
  have e : bitsL (valsAt bs 0 (tyK k (8 * (bs.length - 8 * k)))) = unpack bs := by
    rw [bits_vals _ _ _ (by rw [tyK_size]; omega), tyK_size, List.drop_zero, List.take_of_length_le (by rw [unpack_len]; omega)]
  rw [e, pack_unpack bs hb, unpack_len]
  exact ⟨rfl, rfl⟩
end Go.Proofs.Ytckpeclkkmapiaa
