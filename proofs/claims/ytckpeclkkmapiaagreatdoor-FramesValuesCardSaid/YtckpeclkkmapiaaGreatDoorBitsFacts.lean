/-
  Plain laws of bits: what was put is got. No program in sight.
-/
import Derived.Test.YtckpeclkkmapiaaGreatDoorBitsGet
namespace Go.Proofs.YtckpeclkkmapiaaGreatDoor
open Go.RowKit
open Go

/-- Numbers, each in so many bits. -/
def putsL (p : List (Nat × Nat)) : List Bool := p.flatMap fun x => nbits (x.1 % 2 ^ x.2) x.2
theorem putsL_append (a b : List (Nat × Nat)) : putsL (a ++ b) = putsL a ++ putsL b := List.flatMap_append
theorem putsL_one (x : Nat × Nat) : putsL [x] = nbits (x.1 % 2 ^ x.2) x.2 := by simp [putsL]
theorem putsL_snoc (p : List (Nat × Nat)) (i : Nat) (h : i < p.length) : putsL (p.take (i + 1)) = putsL (p.take i) ++ nbits (p[i].1 % 2 ^ p[i].2) p[i].2 := by
  rw [take_snoc _ _ h, putsL_append, putsL_one]
theorem putsL_split (p : List (Nat × Nat)) (i : Nat) (h : i < p.length) : putsL p = putsL (p.take i) ++ nbits (p[i].1 % 2 ^ p[i].2) p[i].2 ++ putsL (p.drop (i + 1)) := by
  rw [← putsL_snoc p i h, ← putsL_append, List.take_append_drop]
theorem putsL_len (p : List (Nat × Nat)) (h : ∀ x ∈ p, x.2 ≤ 64) : (putsL p).length ≤ 64 * p.length := by
  induction p with
  | nil => simp [putsL]
  | cons x p ih =>
    have h1 := ih fun y hy => h y (by simp [hy])
    have h2 := h x (by simp)
    have e : putsL (x :: p) = nbits (x.1 % 2 ^ x.2) x.2 ++ putsL p := rfl
    rw [e, List.length_append, nbits_len, List.length_cons]
    omega
theorem putsL_take_len (p : List (Nat × Nat)) (i : Nat) (h : ∀ x ∈ p, x.2 ≤ 64) : (putsL (p.take i)).length ≤ 64 * p.length := by
  have h1 := putsL_len (p.take i) fun x hx => h x (List.mem_of_mem_take hx)
  have h2 : (p.take i).length ≤ p.length := by simp; omega
  omega
/-- What was put is got. -/
theorem got (A C : List Bool) (m k : Nat) (h : m < 2 ^ k) : getN (pack (A ++ nbits m k ++ C)) A.length k = m := by
  unfold getN
  rw [unpack_pack, List.append_assoc, List.append_assoc, List.drop_left, List.take_left' (nbits_len m k), val_nbits_lt _ _ h]
theorem got_rest (L : List Bool) : getN (pack L) L.length (8 * (pack L).length - L.length) = 0 := by
  unfold getN
  rw [unpack_pack, List.drop_left, pack_len, List.take_of_length_le (by simp), val_noughts]
theorem iN_of (zs : List Int) (h : ∀ z ∈ zs, 0 ≤ z) : ∃ ls : List Nat, zs = iN ls := by
  induction zs with
  | nil => exact ⟨[], rfl⟩
  | cons z zs ih =>
    obtain ⟨ls, rfl⟩ := ih fun x hx => h x (by simp [hx])
    obtain ⟨n, rfl⟩ := Int.eq_ofNat_of_zero_le (h z (by simp))
    exact ⟨n :: ls, rfl⟩
theorem iN_len (ls : List Nat) : (iN ls).length = ls.length := by simp
end Go.Proofs.YtckpeclkkmapiaaGreatDoor
