/-
  Bytes of which the first k are taken against others: what a loop leaves in memory of its own.
-/
import Derived.Test.YtlpfkpjojjnbgaaKit
import Derived.Test.YtlpfkpjojjnbgaaCrcPlain
namespace Go.Proofs.Ytlpfkpjojjnbgaa
open Go.RowKit
open Go

/-- The first k of a are taken against e's. -/
def mixk (k : Nat) (a e : List Int) : List Int := (mixI a e).take k ++ a.drop k
theorem mixI_len (a e : List Int) (h : a.length = e.length) : (mixI a e).length = a.length := by simp [mixI, h]
theorem mixk_len (k : Nat) (a e : List Int) (h : a.length = e.length) (hk : k ≤ a.length) : (mixk k a e).length = a.length := by
  have := mixI_len a e h
  simp [mixk, this]
  omega
theorem mixk_zero (a e : List Int) : mixk 0 a e = a := by simp [mixk]
theorem mixk_all (a e : List Int) (h : a.length = e.length) : mixk a.length a e = mixI a e := by
  have := mixI_len a e h
  unfold mixk
  rw [List.take_of_length_le (by omega), List.drop_length, List.append_nil]
theorem mixk_at (k : Nat) (a e : List Int) (h : a.length = e.length) (hk : k < a.length) : (mixk k a e)[k]? = some a[k] := by
  have := mixI_len a e h
  unfold mixk
  rw [List.getElem?_append_right (by simp; omega), List.getElem?_drop, List.length_take]
  rw [show k + (k - min k (mixI a e).length) = k from by omega]
  simp [hk]
/-- The cells of such a list, the mark behind. -/
def mixC (k : Nat) (a e : List Int) : Array Value := (by8 (mixk k a e ++ [77])).toArray
theorem mixC_at (k : Nat) (a e : List Int) (h : a.length = e.length) (hk : k < a.length) : (mixC k a e)[k]? = some (.int .u8 a[k]) := by
  have h1 := mixk_len k a e h (by omega)
  unfold mixC
  rw [List.getElem?_toArray, List.getElem?_map, List.getElem?_append_left (by omega), mixk_at k a e h hk]
  rfl
theorem mixC_set (k : Nat) (a e : List Int) (h : a.length = e.length) (hk : k < a.length) :
    (mixC k a e).setIfInBounds k (.int .u8 (bits .xor .u8 a[k] (e[k]'(by omega)))) = mixC (k + 1) a e := by
  have h0 := mixI_len a e h
  have h1 : (mixI a e)[k]'(by omega) = bits .xor .u8 a[k] (e[k]'(by omega)) := by simp [mixI]
  unfold mixC mixk
  rw [take_snoc _ k (by omega), List.drop_eq_getElem_cons hk, ← h1]
  have hm : min k (mixI a e).length = k := by omega
  apply Array.ext'
  simp only [Array.toList_setIfInBounds, List.map_append, List.map_cons, List.map_nil, List.append_assoc, List.cons_append, List.nil_append]
  rw [List.set_append_right _ _ (by simp [hm])]
  simp [hm]
end Go.Proofs.Ytlpfkpjojjnbgaa
