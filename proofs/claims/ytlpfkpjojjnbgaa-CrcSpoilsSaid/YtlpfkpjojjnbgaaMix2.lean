/-
  A window of at most four bytes, taken against others.
-/
import Derived.Test.YtlpfkpjojjnbgaaMix
namespace Go.Proofs.Ytlpfkpjojjnbgaa
open Go.RowKit
open Go

theorem xor_zero8 (c : Int) (h0 : 0 ≤ c) (h1 : c ≤ 255) : bits .xor .u8 c 0 = c := by
  obtain ⟨bs, hb⟩ := bytes_of [c] (by simpa using ⟨h0, h1⟩)
  match bs, hb with
  | [b], hb =>
    have hc : c = (b.toNat : Int) := by simpa [by_] using hb
    subst hc
    have := xor8 b 0#8
    rw [BitVec.xor_zero] at this
    exact this

/-- The window: noughts, the bytes, noughts. -/
def win (n k : Nat) (w : List Int) : List Int := List.replicate k 0 ++ w ++ List.replicate (n - k - w.length) 0
theorem win_len (n k : Nat) (w : List Int) (h : k + w.length ≤ n) : (win n k w).length = n := by
  simp [win]
  omega
theorem win_at (n k j : Nat) (w : List Int) (hj : j < w.length) : (win n k w)[k + j]? = some w[j] := by
  unfold win
  rw [List.append_assoc, List.getElem?_append_right (by simp)]
  simp [hj, List.getElem?_append]
theorem win_out (n k i : Nat) (w : List Int) (h : k + w.length ≤ n) (hi : i < n) (ho : i < k ∨ k + w.length ≤ i) : (win n k w)[i]? = some 0 := by
  unfold win
  rcases ho with ho | ho
  · rw [List.append_assoc, List.getElem?_append_left (by simpa using ho)]
    simp [ho]
  · rw [List.getElem?_append_right (by simp; omega), List.getElem?_replicate, if_pos]
    simp
    omega
theorem mixI_at (a e : List Int) (i : Nat) (h : a.length = e.length) (hi : i < a.length) : (mixI a e)[i]? = some (bits .xor .u8 a[i] (e[i]'(by omega))) := by
  unfold mixI
  rw [List.getElem?_zipWith]
  simp [hi, show i < e.length by omega]
theorem mix_out (a : List Int) (n k i : Nat) (w : List Int) (ha : a.length = n) (h : k + w.length ≤ n) (hb : ∀ c ∈ a, 0 ≤ c ∧ c ≤ 255) (hi : i < n) (ho : i < k ∨ k + w.length ≤ i) :
    (mixI a (win n k w))[i]? = a[i]? := by
  have hl := win_len n k w h
  have hw := win_out n k i w h hi ho
  have h0 : (win n k w)[i]'(by omega) = 0 := by
    have := (List.getElem?_eq_some_iff.1 hw).2
    exact this
  rw [mixI_at a _ i (by omega) (by omega), h0, xor_zero8 _ (hb _ (List.getElem_mem _)).1 (hb _ (List.getElem_mem _)).2]
  simp [show i < a.length by omega]
theorem mixk_start (a : List Int) (n k : Nat) (w : List Int) (ha : a.length = n) (h : k + w.length ≤ n) (hb : ∀ c ∈ a, 0 ≤ c ∧ c ≤ 255) : mixk k a (win n k w) = a := by
  have hl := win_len n k w h
  have hm := mixI_len a (win n k w) (by omega)
  have e : (mixI a (win n k w)).take k = a.take k := by
    apply List.ext_getElem?
    intro i
    rw [List.getElem?_take, List.getElem?_take]
    split
    · rename_i hi
      exact mix_out a n k i w ha h hb (by omega) (.inl hi)
    · rfl
  unfold mixk
  rw [e, List.take_append_drop]
theorem mixk_end (a : List Int) (n k : Nat) (w : List Int) (ha : a.length = n) (h : k + w.length ≤ n) (hb : ∀ c ∈ a, 0 ≤ c ∧ c ≤ 255) : mixk (k + w.length) a (win n k w) = mixI a (win n k w) := by
  have hl := win_len n k w h
  have hm := mixI_len a (win n k w) (by omega)
  have e : a.drop (k + w.length) = (mixI a (win n k w)).drop (k + w.length) := by
    apply List.ext_getElem?
    intro i
    rw [List.getElem?_drop, List.getElem?_drop]
    by_cases hi : k + w.length + i < n
    · exact (mix_out a n k (k + w.length + i) w ha h hb hi (.inr (by omega))).symm
    · rw [List.getElem?_eq_none (by omega), List.getElem?_eq_none (by omega)]
  unfold mixk
  rw [e, List.take_append_drop]
/-- All noughts so far. -/
def noughts (l : List Int) (j : Nat) : Bool := (l.take j).all (· == 0)
theorem noughts_zero (l : List Int) : noughts l 0 = true := rfl
theorem noughts_succ (l : List Int) (j : Nat) (h : j < l.length) : noughts l (j + 1) = (noughts l j && (l[j] == 0)) := by
  unfold noughts
  rw [take_snoc _ _ h, List.all_append]
  simp
theorem spoils_fin (a w : List Int) (n k : Nat) (ha : a.length = n) (h : k + w.length ≤ n) (h4 : w.length ≤ 4) (hb : ∀ c ∈ a, 0 ≤ c ∧ c ≤ 255) (hw : ∀ c ∈ w, 0 ≤ c ∧ c ≤ 255) :
    ((moreI 0 (mixI a (win n k w)) == moreI 0 a) == noughts w w.length) = true := by
  have h1 := spoilsI a w k (n - k - w.length) hb hw h4 (by omega)
  have h2 : noughts w w.length = true ↔ ∀ c ∈ w, c = 0 := by
    unfold noughts
    rw [List.take_length]
    simp
  have h3 : (moreI 0 (mixI a (win n k w)) == moreI 0 a) = noughts w w.length := by
    rw [Bool.eq_iff_iff, beq_iff_eq, h2]
    exact h1
  rw [h3]
  simp
end Go.Proofs.Ytlpfkpjojjnbgaa
