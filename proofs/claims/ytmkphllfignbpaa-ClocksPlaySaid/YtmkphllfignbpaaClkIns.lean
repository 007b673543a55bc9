/-
  One more number, put into a list in order. No program in sight.
-/
import Derived.Test.YtmkphllfignbpaaClocksMath
namespace Go.Proofs.Ytmkphllfignbpaa
open Go

/-- x behind the first k of S. -/
def ins (S : List Int) (x : Int) (k : Nat) : List Int := S.take k ++ x :: S.drop k
theorem ins_len (S : List Int) (x : Int) (k : Nat) (h : k ≤ S.length) : (ins S x k).length = S.length + 1 := by simp [ins]; omega
theorem ins_last (S : List Int) (x : Int) : ins S x S.length = S ++ [x] := by simp [ins]
theorem ins_at (S : List Int) (x : Int) (k : Nat) (h : k ≤ S.length) : (ins S x k)[k]? = some x := by
  unfold ins
  rw [List.getElem?_append_right (by simp; omega), List.length_take, Nat.min_eq_left h, Nat.sub_self]
  rfl
theorem ins_prev (S : List Int) (x : Int) (k : Nat) (h : k + 1 ≤ S.length) : (ins S x (k + 1))[k]? = some S[k] := by
  unfold ins
  rw [List.getElem?_append_left (by simp; omega), List.getElem?_take, if_pos (by omega), List.getElem?_eq_getElem (by omega)]
theorem ins_swap (S : List Int) (x : Int) (k : Nat) (h : k + 1 ≤ S.length) : ((ins S x (k + 1)).set (k + 1) S[k]).set k x = ins S x k := by
  apply List.ext_getElem?
  intro j
  unfold ins
  rw [List.getElem?_set, List.getElem?_set]
  simp only [List.length_set, List.length_append, List.length_take, List.length_cons, List.length_drop, List.getElem?_append, List.getElem?_cons, List.getElem?_take, List.getElem?_drop, Nat.min_eq_left h, Nat.min_eq_left (show k ≤ S.length by omega)]
  by_cases h1 : k = j
  · subst h1
    simp
    omega
  · by_cases h2 : k + 1 = j
    · subst h2
      have hk : k < S.length := by omega
      simp [hk]
      intro h4
      omega
    · by_cases h3 : j < k
      · simp [h1, h2, h3, show j < k + 1 by omega]
      · have a1 : ¬ j < k + 1 := by omega
        have a2 : j - (k + 1) ≠ 0 := by omega
        have a3 : j - k ≠ 0 := by omega
        simp only [h1, h2, h3, a1, a2, a3, if_false]
        congr 1
        omega
theorem ins_perm (S : List Int) (x : Int) (k : Nat) : (ins S x k).Perm (S ++ [x]) := by
  unfold ins
  have h : (S.take k ++ x :: S.drop k).Perm (x :: (S.take k ++ S.drop k)) := List.perm_middle
  rw [List.take_append_drop] at h
  exact h.trans (List.perm_append_comm (l₁ := [x]) (l₂ := S))
theorem ins_pair (S : List Int) (x : Int) (k : Nat) (hk : k ≤ S.length) (hS : S.Pairwise (fun a b => a ≤ b)) (hgt : ∀ y ∈ S.drop k, x ≤ y) (hle : ∀ j, (h : j < S.length) → j + 1 = k → S[j] ≤ x) : (ins S x k).Pairwise (fun a b => a ≤ b) := by
  unfold ins
  rw [List.pairwise_append, List.pairwise_cons]
  refine ⟨hS.sublist (List.take_sublist _ _), ⟨hgt, hS.sublist (List.drop_sublist _ _)⟩, ?_⟩
  intro a ha b hb
  obtain ⟨i, hi, rfl⟩ := List.getElem_of_mem ha
  rw [List.length_take] at hi
  rw [List.getElem_take]
  have hax : S[i] ≤ x := by
    have hk1 : k - 1 < S.length := by omega
    have h1 := hle (k - 1) hk1 (by omega)
    rcases Nat.lt_or_eq_of_le (show i ≤ k - 1 by omega) with h | h
    · have := List.pairwise_iff_getElem.1 hS i (k - 1) (by omega) hk1 h
      omega
    · have e : S[i] = S[k - 1] := by congr 1
      omega
  rcases List.mem_cons.1 hb with rfl | hb
  · exact hax
  · have := hgt b hb
    omega
theorem ins_srt (l : List Int) (x : Int) (k : Nat) (hk : k ≤ (srt l).length) (hgt : ∀ y ∈ (srt l).drop k, x ≤ y) (hle : ∀ j, (h : j < (srt l).length) → j + 1 = k → (srt l)[j] ≤ x) : ins (srt l) x k = srt (l ++ [x]) :=
  srt_uniq _ _ ((ins_perm _ _ _).trans ((srt_perm l).append_right _)) (ins_pair _ _ _ hk (srt_pair l) hgt hle)
end Go.Proofs.Ytmkphllfignbpaa
