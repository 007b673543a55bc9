/-
  Numbers as bits, bits as bytes: plain lists, no program in sight.
-/
import Derived.WalkKit
namespace Go.Proofs.YtafamnodeliaaaaGreatDoor
open Go

/-- The number that bits tell, the highest first. -/
def val (l : List Bool) : Nat := l.foldl (fun n b => 2 * n + b.toNat) 0
theorem val_nil : val [] = 0 := rfl
theorem val_snoc (l : List Bool) (b : Bool) : val (l ++ [b]) = 2 * val l + b.toNat := by
  unfold val
  rw [List.foldl_append]
  rfl
theorem foldl_val (b : List Bool) (n : Nat) : b.foldl (fun n b => 2 * n + b.toNat) n = n * 2 ^ b.length + val b := by
  induction b generalizing n with
  | nil => simp [val]
  | cons x b ih =>
    unfold val
    simp only [List.foldl_cons, List.length_cons]
    rw [ih, ih (2 * 0 + x.toNat), Nat.pow_succ, Nat.mul_zero, Nat.zero_add]
    rw [show (2 * n + x.toNat) * 2 ^ b.length = n * (2 ^ b.length * 2) + x.toNat * 2 ^ b.length by rw [Nat.add_mul, Nat.mul_comm 2 n, Nat.mul_assoc, Nat.mul_comm 2]]
    omega
theorem val_append (a b : List Bool) : val (a ++ b) = val a * 2 ^ b.length + val b := by
  conv => lhs; unfold val
  rw [List.foldl_append, foldl_val]
  rfl
theorem val_cons (x : Bool) (l : List Bool) : val (x :: l) = x.toNat * 2 ^ l.length + val l := by
  have := val_append [x] l
  simpa [val] using this
theorem val_lt (l : List Bool) : val l < 2 ^ l.length := by
  induction l with
  | nil => simp [val]
  | cons x l ih =>
    rw [val_cons, List.length_cons, Nat.pow_succ]
    have : x.toNat ≤ 1 := by cases x <;> simp
    have h := Nat.mul_le_mul_right (2 ^ l.length) this
    omega
theorem val_noughts (k : Nat) : val (List.replicate k false) = 0 := by
  induction k with
  | zero => rfl
  | succ k ih => rw [List.replicate_succ, val_cons, ih]; simp

/-- So many lowest bits of a number, the highest first. -/
def nbits (n : Nat) : Nat → List Bool
  | 0 => []
  | k + 1 => n.testBit k :: nbits n k
theorem nbits_len (n k : Nat) : (nbits n k).length = k := by
  induction k with
  | zero => rfl
  | succ k ih => simp [nbits, ih]
theorem nbits_get (n k j : Nat) (h : j < k) : (nbits n k)[j]? = some (n.testBit (k - 1 - j)) := by
  induction k generalizing j with
  | zero => omega
  | succ k ih =>
    cases j with
    | zero => simp [nbits]
    | succ j =>
      simp only [nbits, List.getElem?_cons_succ]
      rw [ih j (by omega)]
      congr 2
      omega
theorem testBit_div (n k : Nat) : n.testBit k = decide (n / 2 ^ k % 2 = 1) := by
  rw [Nat.testBit_eq_decide_div_mod_eq]
theorem val_nbits (n k : Nat) : val (nbits n k) = n % 2 ^ k := by
  induction k with
  | zero => simp [nbits, val, Nat.mod_one]
  | succ k ih =>
    simp only [nbits]
    rw [val_cons, nbits_len, ih, testBit_div, Nat.pow_succ, Nat.mod_mul]
    by_cases h : n / 2 ^ k % 2 = 1
    · simp [h]
      omega
    · have h0 : n / 2 ^ k % 2 = 0 := by omega
      simp [h0]
theorem val_nbits_lt (n k : Nat) (h : n < 2 ^ k) : val (nbits n k) = n := by rw [val_nbits, Nat.mod_eq_of_lt h]
theorem nbits_add (a b k m : Nat) (h : b < 2 ^ m) : nbits (a * 2 ^ m + b) (k + m) = nbits a k ++ nbits b m := by
  induction k with
  | zero =>
    rw [Nat.zero_add]
    simp only [nbits, List.nil_append]
    apply List.ext_getElem?
    intro i
    by_cases hi : i < m
    · rw [nbits_get _ _ _ hi, nbits_get _ _ _ hi, Nat.mul_comm, Nat.testBit_two_pow_mul_add _ h, if_pos (by omega)]
    · rw [List.getElem?_eq_none (by rw [nbits_len]; omega), List.getElem?_eq_none (by rw [nbits_len]; omega)]
  | succ k ih =>
    rw [show k + 1 + m = (k + m) + 1 by omega]
    simp only [nbits, List.cons_append]
    rw [ih, Nat.mul_comm, Nat.testBit_two_pow_mul_add _ h, if_neg (by omega), Nat.add_sub_cancel]
theorem nbits_val (l : List Bool) : nbits (val l) l.length = l := by
  induction l with
  | nil => rfl
  | cons x l ih =>
    have h := nbits_add x.toNat (val l) 1 l.length (val_lt l)
    rw [← val_cons, ih] at h
    rw [List.length_cons, Nat.add_comm, h]
    cases x <;> rfl
theorem val_inj {a b : List Bool} (hl : a.length = b.length) (h : val a = val b) : a = b := by
  rw [← nbits_val a, ← nbits_val b, hl, h]
theorem val_get (l : List Bool) (j : Nat) (h : j < l.length) : (val l).testBit (l.length - 1 - j) = l[j] := by
  have h1 := nbits_get (val l) l.length j h
  rw [nbits_val, List.getElem?_eq_getElem h] at h1
  exact (Option.some.inj h1).symm

/-- At most eight bits, and noughts behind: eight. -/
def pad8 (l : List Bool) : List Bool := l.take 8 ++ List.replicate (8 - l.length) false
theorem pad8_len (l : List Bool) : (pad8 l).length = 8 := by simp [pad8]; omega
/-- Bits as bytes, with noughts behind. -/
def pack (l : List Bool) : List Nat := (List.range ((l.length + 7) / 8)).map fun q => val (pad8 (l.drop (8 * q)))
theorem pack_nil : pack [] = [] := rfl
theorem pack_len (l : List Bool) : (pack l).length = (l.length + 7) / 8 := by simp [pack]
theorem pack_get (l : List Bool) (q : Nat) (h : q < (l.length + 7) / 8) : (pack l)[q]? = some (val (pad8 (l.drop (8 * q)))) := by
  simp [pack, h]
theorem val8_lt (l : List Bool) : val (pad8 l) < 256 := by
  have := val_lt (pad8 l)
  rwa [pad8_len] at this
theorem pack_lt (l : List Bool) : ∀ c ∈ pack l, c < 256 := by
  intro c hc
  obtain ⟨q, _, rfl⟩ := List.mem_map.1 hc
  exact val8_lt _
/-- Bytes as bits. -/
def unpack (bs : List Nat) : List Bool := bs.flatMap fun c => nbits c 8
theorem unpack_cons (c : Nat) (bs : List Nat) : unpack (c :: bs) = nbits c 8 ++ unpack bs := rfl
theorem unpack_append (a b : List Nat) : unpack (a ++ b) = unpack a ++ unpack b := List.flatMap_append
theorem unpack_len (bs : List Nat) : (unpack bs).length = 8 * bs.length := by
  induction bs with
  | nil => rfl
  | cons c bs ih => rw [unpack_cons, List.length_append, nbits_len, ih, List.length_cons]; omega
theorem unpack_get (bs : List Nat) (i : Nat) : (unpack bs)[i]? = (bs[i / 8]?).map fun c => c.testBit (7 - i % 8) := by
  induction bs generalizing i with
  | nil => simp [unpack]
  | cons c bs ih =>
    rw [unpack_cons]
    by_cases hi : i < 8
    · rw [List.getElem?_append_left (by rw [nbits_len]; exact hi), nbits_get _ _ _ hi, show i / 8 = 0 by omega, show i % 8 = i by omega]
      rfl
    · rw [List.getElem?_append_right (by rw [nbits_len]; omega), nbits_len, ih, show i / 8 = (i - 8) / 8 + 1 by omega, List.getElem?_cons_succ, show (i - 8) % 8 = i % 8 by omega]
theorem unpack_drop (bs : List Nat) (q : Nat) : (unpack bs).drop (8 * q) = unpack (bs.drop q) := by
  induction q generalizing bs with
  | zero => simp
  | succ q ih =>
    cases bs with
    | nil => simp [unpack]
    | cons c bs =>
      rw [unpack_cons, List.drop_succ_cons, ← ih bs, show 8 * (q + 1) = 8 + 8 * q by omega, ← List.drop_drop, List.drop_left' (nbits_len c 8)]
theorem unpack_take (bs : List Nat) (q : Nat) : (unpack bs).take (8 * q) = unpack (bs.take q) := by
  induction q generalizing bs with
  | zero => simp [unpack]
  | succ q ih =>
    cases bs with
    | nil => simp [unpack]
    | cons c bs =>
      rw [unpack_cons, List.take_succ_cons, unpack_cons, ← ih bs, show 8 * (q + 1) = 8 + 8 * q by omega]
      have h := nbits_len c 8
      rw [List.take_append, h, List.take_of_length_le (by omega)]
      congr 2
      omega
theorem pad8_get (l : List Bool) (j : Nat) (h : j < 8) : (pad8 l)[j]? = some (l.getD j false) := by
  unfold pad8
  by_cases hj : j < l.length
  · rw [List.getElem?_append_left (by simp; omega), List.getElem?_take, if_pos h, List.getElem?_eq_getElem hj]
    simp [hj]
  · rw [List.getElem?_append_right (by simp; omega), List.getElem?_replicate, if_pos (by simp; omega)]
    simp [hj]
theorem unpack_pack (l : List Bool) : unpack (pack l) = l ++ List.replicate (8 * ((l.length + 7) / 8) - l.length) false := by
  apply List.ext_getElem?
  intro i
  rw [unpack_get]
  by_cases hi : i / 8 < (l.length + 7) / 8
  · rw [pack_get _ _ hi]
    have h1 := val_get (pad8 (l.drop (8 * (i / 8)))) (i % 8) (by rw [pad8_len]; omega)
    have h2 := pad8_get (l.drop (8 * (i / 8))) (i % 8) (by omega)
    rw [List.getElem?_eq_getElem (by rw [pad8_len]; omega)] at h2
    have h3 := Option.some.inj h2
    simp only [pad8_len] at h1
    simp only [Option.map_some]
    rw [show 7 - i % 8 = 8 - 1 - i % 8 by omega, h1, h3]
    rw [List.getD_eq_getElem?_getD, List.getElem?_drop, show 8 * (i / 8) + i % 8 = i by omega]
    by_cases hl : i < l.length
    · rw [List.getElem?_append_left hl, List.getElem?_eq_getElem hl]
      rfl
    · rw [List.getElem?_append_right (by omega), List.getElem?_replicate, if_pos (by omega), List.getElem?_eq_none (by omega)]
      rfl
  · rw [List.getElem?_eq_none (by rw [pack_len]; omega), List.getElem?_eq_none (by simp; omega)]
    rfl
theorem pack_unpack (bs : List Nat) (h : ∀ c ∈ bs, c < 256) : pack (unpack bs) = bs := by
  apply List.ext_getElem?
  intro q
  by_cases hq : q < bs.length
  · rw [pack_get _ _ (by rw [unpack_len]; omega), unpack_drop, List.getElem?_eq_getElem hq]
    congr 1
    rw [List.drop_eq_getElem_cons hq, unpack_cons]
    have h8 := nbits_len bs[q] 8
    unfold pad8
    rw [List.take_left' h8, List.length_append, h8, show 8 - (8 + (unpack (bs.drop (q + 1))).length) = 0 by omega, List.replicate_zero, List.append_nil]
    exact val_nbits_lt _ _ (h _ (List.getElem_mem hq))
  · rw [List.getElem?_eq_none (by rw [pack_len, unpack_len]; omega), List.getElem?_eq_none (by omega)]
theorem pad8_append_noughts (l : List Bool) (k : Nat) : pad8 (l ++ List.replicate k false) = pad8 l := by
  apply List.ext_getElem?
  intro j
  by_cases hj : j < 8
  · rw [pad8_get _ _ hj, pad8_get _ _ hj]
    congr 1
    simp only [List.getD_eq_getElem?_getD]
    by_cases hl : j < l.length
    · rw [List.getElem?_append_left hl]
    · rw [List.getElem?_append_right (by omega), List.getElem?_replicate, List.getElem?_eq_none (by omega)]
      split <;> rfl
  · rw [List.getElem?_eq_none (by rw [pad8_len]; omega), List.getElem?_eq_none (by rw [pad8_len]; omega)]
/-- One bit more, a nought. -/
theorem pack_nought (l : List Bool) : pack (l ++ [false]) = if l.length % 8 = 0 then pack l ++ [0] else pack l := by
  apply List.ext_getElem?
  intro q
  by_cases hq : q < (l.length + 1 + 7) / 8
  · rw [pack_get _ _ (by simpa using hq)]
    by_cases hl : q < (l.length + 7) / 8
    · have e : (l ++ [false]).drop (8 * q) = l.drop (8 * q) ++ List.replicate 1 false := by
        rw [List.drop_append_of_le_length (by omega)]
        rfl
      rw [e, pad8_append_noughts]
      split
      · rw [List.getElem?_append_left (by rw [pack_len]; exact hl), pack_get _ _ hl]
      · rw [pack_get _ _ hl]
    · have h0 : l.length % 8 = 0 := by omega
      have h1 : q = l.length / 8 := by omega
      rw [if_pos h0, List.getElem?_append_right (by rw [pack_len]; omega), pack_len]
      have e : (l ++ [false]).drop (8 * q) = [false] := by
        rw [show 8 * q = l.length by omega]
        simp
      rw [e, show q - (l.length + 7) / 8 = 0 by omega]
      rfl
  · rw [List.getElem?_eq_none (by rw [pack_len]; simpa using hq)]
    split
    · rw [List.getElem?_eq_none (by rw [List.length_append, pack_len]; simp; omega)]
    · rw [List.getElem?_eq_none (by rw [pack_len]; omega)]
/-- One bit more, set. -/
theorem pack_yes (l : List Bool) : ∃ x, (pack (l ++ [false]))[l.length / 8]? = some x ∧ x % 2 ^ (8 - l.length % 8) = 0 ∧ x + 2 ^ (7 - l.length % 8) < 256 ∧
    pack (l ++ [true]) = (pack (l ++ [false])).set (l.length / 8) (x + 2 ^ (7 - l.length % 8)) := by
  have hq : ∀ b : Bool, l.length / 8 < ((l ++ [b]).length + 7) / 8 := by intro b; simp; omega
  have e : ∀ b : Bool, val (pad8 ((l ++ [b]).drop (8 * (l.length / 8)))) = val (l.drop (8 * (l.length / 8))) * 2 ^ (8 - l.length % 8) + b.toNat * 2 ^ (7 - l.length % 8) := by
    intro b
    rw [List.drop_append_of_le_length (by omega)]
    have hd : (l.drop (8 * (l.length / 8))).length = l.length % 8 := by rw [List.length_drop]; omega
    unfold pad8
    rw [List.take_of_length_le (by simp; omega), List.length_append, hd, val_append, val_append, val_noughts]
    simp only [List.length_replicate, List.length_cons, List.length_nil]
    have hp : 2 ^ (8 - l.length % 8) = 2 * 2 ^ (7 - l.length % 8) := by rw [show 8 - l.length % 8 = (7 - l.length % 8) + 1 by omega, Nat.pow_succ, Nat.mul_comm]
    have hv : val [b] = b.toNat := by cases b <;> rfl
    rw [hv, Nat.add_zero, Nat.add_mul, hp, show 8 - (l.length % 8 + (0 + 1)) = 7 - l.length % 8 by omega, Nat.mul_assoc]
  have h1 := e true
  have h0 := e false
  simp only [Bool.toNat_true, Bool.toNat_false, Nat.one_mul, Nat.zero_mul, Nat.add_zero] at h0 h1
  refine ⟨_, pack_get _ _ (hq false), ?_, ?_, ?_⟩
  · rw [h0, Nat.mul_mod_left]
  · rw [h0, ← h1]
    exact val8_lt _
  · apply List.ext_getElem?
    intro q
    rw [List.getElem?_set]
    by_cases hlt : q < ((l ++ [true]).length + 7) / 8
    · rw [pack_get _ _ hlt]
      by_cases hq2 : l.length / 8 = q
      · subst hq2
        rw [if_pos rfl, if_pos (by rw [pack_len]; exact hq false), h1, h0]
      · rw [if_neg hq2, pack_get _ _ (by simpa using hlt)]
        have hb : 8 * q + 8 ≤ l.length := by simp at hlt; omega
        congr 2
        apply List.ext_getElem?
        intro j
        by_cases hj : j < 8
        · rw [pad8_get _ _ hj, pad8_get _ _ hj, List.getD_eq_getElem?_getD, List.getD_eq_getElem?_getD, List.getElem?_drop, List.getElem?_drop, List.getElem?_append_left (by omega), List.getElem?_append_left (by omega)]
        · rw [List.getElem?_eq_none (by rw [pad8_len]; omega), List.getElem?_eq_none (by rw [pad8_len]; omega)]
    · rw [List.getElem?_eq_none (by rw [pack_len]; omega)]
      have : ¬ l.length / 8 = q := by have := hq true; omega
      rw [if_neg this, List.getElem?_eq_none (by rw [pack_len]; simpa using hlt)]
end Go.Proofs.YtafamnodeliaaaaGreatDoor
