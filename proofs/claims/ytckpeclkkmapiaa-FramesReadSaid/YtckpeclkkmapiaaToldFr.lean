/-
  Values put and got: plain laws. No program in sight.
-/
import Derived.Test.YtckpeclkkmapiaaFrvMath
import Derived.Laws.Wrap64
namespace Go.Proofs.Ytckpeclkkmapiaa
open Go.RowKit
open Go

theorem i64_and1 (n : Int) : bits .and .i64 n 1 = n % 2 := by
  have h1 : (BitVec.ofInt 64 n &&& BitVec.ofInt 64 1).toNat = (BitVec.ofInt 64 n).toNat % 2 := by
    rw [BitVec.toNat_and, show (BitVec.ofInt 64 1).toNat = 1 from rfl, show (1 : Nat) = 2 ^ 1 - 1 from rfl, Nat.and_two_pow_sub_one_eq_mod]
  have h2 : ((BitVec.ofInt 64 n).toNat : Int) = n % 18446744073709551616 := by
    rw [BitVec.toNat_ofInt]
    omega
  have h3 : bits .and .i64 n 1 = IntKind.i64.wrap ((BitVec.ofInt 64 n &&& BitVec.ofInt 64 1).toNat : Int) := rfl
  rw [h3, h1, IntKind.wrap_i64]
  omega
/-- A value out of a number. -/
def itV (n : Int) (b : Bool) : VT := if b then (1, n) else (2, bits .and .i64 n 1)
def In64 (n : Int) : Prop := -9223372036854775808 ≤ n ∧ n ≤ 9223372036854775807
theorem itV_chk (n : Int) (b : Bool) : chkV (itV n b) = true := by
  unfold itV
  cases b
  · rw [i64_and1]
    have : n % 2 = 0 ∨ n % 2 = 1 := by omega
    rcases this with h | h <;> simp [chkV, h]
  · simp [chkV]
theorem itV_in {n : Int} {b : Bool} (h : In64 n) : In64 (itV n b).2 := by
  unfold itV
  cases b
  · rw [i64_and1]
    show In64 (n % 2)
    unfold In64
    omega
  · exact h
/-- A value that may be is got as it was put. -/
theorem back_one (p : VT) (hc : chkV p = true) (hi : In64 p.2) : wrap64 (un p.2) = p.2 ∧ un p.2 < 2 ^ tyW p.1 := by
  obtain ⟨t, n⟩ := p
  have hu := un_eq n
  have hul := un_lt n
  unfold In64 at hi
  simp only at hi ⊢
  have hw : IntKind.u64.wrap n = n % 18446744073709551616 := by simp [IntKind.wrap, IntKind.bits, IntKind.signed]
  rw [hw] at hu
  refine ⟨?_, ?_⟩
  · unfold wrap64
    omega
  · unfold tyW
    by_cases h2 : t = 2
    · rw [if_pos h2]
      subst h2
      have : n = 0 ∨ n = 1 := by simpa [chkV] using hc
      omega
    · rw [if_neg h2]
      by_cases h1 : t = 1
      · rw [if_pos h1]
        exact hul
      · simp [chkV, h1, h2] at hc
theorem bitsL_cons (p : VT) (l : List VT) : bitsL (p :: l) = bitsV p ++ bitsL l := rfl
theorem valsAt_back (q l : List VT) (hc : ∀ p ∈ l, chkV p = true) (hi : ∀ p ∈ l, In64 p.2) : valsAt (pack (bitsL (q ++ l))) (bitsL q).length (l.map (·.1)) = l := by
  induction l generalizing q with
  | nil => rfl
  | cons p l ih =>
    obtain ⟨h1, h2⟩ := back_one p (hc p (by simp)) (hi p (by simp))
    have e : bitsL (q ++ p :: l) = bitsL q ++ nbits (un p.2) (tyW p.1) ++ bitsL l := by rw [bitsL_append, bitsL_cons, List.append_assoc]; rfl
    have hg : getN (pack (bitsL (q ++ p :: l))) (bitsL q).length (tyW p.1) = un p.2 := by rw [e]; exact got _ _ _ _ h2
    simp only [List.map_cons, valsAt]
    rw [hg, h1]
    have := ih (q ++ [p]) (fun x hx => hc x (by simp [hx])) (fun x hx => hi x (by simp [hx]))
    rw [List.append_assoc] at this
    have hl : (bitsL (q ++ [p])).length = (bitsL q).length + tyW p.1 := by rw [bitsL_append, List.length_append]; simp [bitsL, bitsV_len]
    rw [hl] at this
    rw [show q ++ p :: l = q ++ ([p] ++ l) from rfl, this]
theorem vals_back (l : List VT) (hc : ∀ p ∈ l, chkV p = true) (hi : ∀ p ∈ l, In64 p.2) : valsAt (pack (bitsL l)) 0 (l.map (·.1)) = l := valsAt_back [] l hc hi
theorem any_tyW {l : List VT} (hc : ∀ p ∈ l, chkV p = true) : (l.map (·.1)).any (fun t => tyW t == 0) = false := by
  rw [List.any_eq_false]
  intro t ht
  obtain ⟨p, hp, rfl⟩ := List.mem_map.1 ht
  have := hc p hp
  obtain ⟨t, n⟩ := p
  unfold tyW
  by_cases h2 : t = 2
  · simp [h2]
  · by_cases h1 : t = 1
    · simp [h1]
    · simp [chkV, h1, h2] at this
theorem errV_back (l : List VT) (hc : ∀ p ∈ l, chkV p = true) : errV (pack (bitsL l)) (l.map (·.1)) = 0 := by
  unfold errV
  rw [if_neg (by rw [any_tyW hc]; decide), ← bitsL_size, if_neg (by rw [pack_len]; simp), if_neg]
  rw [got_rest]
  simp
theorem errV_more (l : List VT) (hc : ∀ p ∈ l, chkV p = true) (x : Nat) : errV (pack (bitsL l) ++ [x]) (l.map (·.1)) = 5 := by
  unfold errV
  rw [if_neg (by rw [any_tyW hc]; decide), ← bitsL_size, if_pos]
  rw [List.length_append, pack_len]
  simp
/-- The last bit turned. -/
theorem errV_turned (l : List VT) (hc : ∀ p ∈ l, chkV p = true) (h8 : (bitsL l).length % 8 ≠ 0) (x : Nat) (hx : (pack (bitsL l))[(pack (bitsL l)).length - 1]? = some x) :
    errV ((pack (bitsL l)).set ((pack (bitsL l)).length - 1) (x ^^^ 1)) (l.map (·.1)) = 5 := by
  have hpl := pack_len (bitsL l)
  unfold errV
  rw [if_neg (by rw [any_tyW hc]; decide), ← bitsL_size, List.length_set, if_neg (by rw [hpl]; simp), if_pos]
  generalize hL : bitsL l = L at *
  have hlast : (unpack (pack L))[8 * (pack L).length - 1]? = some (x.testBit 0) := by
    rw [unpack_get, show (8 * (pack L).length - 1) / 8 = (pack L).length - 1 by omega, hx, show 7 - (8 * (pack L).length - 1) % 8 = 0 by omega]
    rfl
  have hpad : x.testBit 0 = false := by
    rw [unpack_pack, List.getElem?_append_right (by omega), List.getElem?_replicate] at hlast
    split at hlast
    · simpa using hlast.symm
    · cases hlast
  have hlast2 : (unpack ((pack L).set ((pack L).length - 1) (x ^^^ 1)))[8 * (pack L).length - 1]? = some true := by
    rw [unpack_get, show (8 * (pack L).length - 1) / 8 = (pack L).length - 1 by omega, List.getElem?_set, if_pos rfl, if_pos (by omega), show 7 - (8 * (pack L).length - 1) % 8 = 0 by omega]
    show some ((x ^^^ 1).testBit 0) = some true
    rw [Nat.testBit_xor, hpad]
    rfl
  intro h0
  unfold getN at h0
  have hk : 8 * (pack L).length - L.length = (8 * (pack L).length - L.length - 1) + 1 := by omega
  rw [hk, List.take_add_one, List.getElem?_drop, show L.length + (8 * (pack L).length - L.length - 1) = 8 * (pack L).length - 1 by omega, hlast2] at h0
  have : val ((((unpack ((pack L).set ((pack L).length - 1) (x ^^^ 1))).drop L.length).take (8 * (pack L).length - L.length - 1)) ++ [true]) = 0 := h0
  rw [val_snoc] at this
  simp at this
end Go.Proofs.Ytckpeclkkmapiaa
