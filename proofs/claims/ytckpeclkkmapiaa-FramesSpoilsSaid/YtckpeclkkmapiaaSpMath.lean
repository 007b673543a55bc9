/-
  A window of bytes, changed one by one: plain laws. No program in sight.
-/
import Derived.Test.YtckpeclkkmapiaaFrMath
namespace Go.Proofs.Ytckpeclkkmapiaa
open Go

/-- Behind j steps: from k on, the first j of the window are taken against w's. -/
def sp (B : List Nat) (k : Nat) (w : List Nat) : Nat → List Nat
  | 0 => B
  | j + 1 => (sp B k w j).set (k + j) (B.getD (k + j) 0 ^^^ w.getD j 0)
theorem sp_len (B : List Nat) (k : Nat) (w : List Nat) (j : Nat) : (sp B k w j).length = B.length := by
  induction j with
  | zero => rfl
  | succ j ih => rw [sp, List.length_set, ih]
theorem sp_at (B : List Nat) (k : Nat) (w : List Nat) (j i : Nat) : (sp B k w j)[i]? = if k ≤ i ∧ i < k + j then B[i]?.map (fun x => x ^^^ w.getD (i - k) 0) else B[i]? := by
  induction j with
  | zero => rw [sp, if_neg (by omega)]
  | succ j ih =>
    rw [sp, List.getElem?_set, sp_len, ih]
    by_cases h : k + j = i
    · subst h
      rw [if_pos rfl]
      by_cases hl : k + j < B.length
      · rw [if_pos hl, if_pos (show k ≤ k + j ∧ k + j < k + (j + 1) by omega), List.getElem?_eq_getElem hl]
        simp [hl]
      · rw [if_neg hl, if_pos (show k ≤ k + j ∧ k + j < k + (j + 1) by omega), List.getElem?_eq_none (by omega)]
        rfl
    · rw [if_neg h]
      by_cases h2 : k ≤ i ∧ i < k + j
      · rw [if_pos h2, if_pos (by omega)]
      · rw [if_neg h2, if_neg (by omega)]
theorem sp_same (B : List Nat) (k : Nat) (w : List Nat) (j i : Nat) (h : i < k ∨ k + j ≤ i) : (sp B k w j)[i]? = B[i]? := by rw [sp_at, if_neg (by omega)]
theorem sp_lt (B : List Nat) (k : Nat) (w : List Nat) (j : Nat) (hB : NB B) (hw : NB w) : NB (sp B k w j) := by
  intro c hc
  obtain ⟨i, hi, rfl⟩ := List.getElem_of_mem hc
  have h := sp_at B k w j i
  rw [List.getElem?_eq_getElem hi] at h
  have hl := sp_len B k w j
  have hb := hB _ (List.getElem_mem (show i < B.length by omega))
  split at h
  · rw [List.getElem?_eq_getElem (by omega)] at h
    simp only [Option.map_some, Option.some.injEq] at h
    rw [h]
    have hw2 : w.getD (i - k) 0 < 256 := by
      rw [List.getD_eq_getElem?_getD]
      cases e : w[i - k]? with
      | none => decide
      | some x => exact hw x (List.mem_of_getElem? e)
    exact Nat.xor_lt_two_pow (n := 8) hb hw2
  · rw [List.getElem?_eq_getElem (by omega)] at h
    simp only [Option.some.injEq] at h
    rw [h]
    exact hb
/-- The first j are noughts. -/
def nought (w : List Nat) (j : Nat) : Bool := (w.take j).all (· == 0)
theorem nought_succ (w : List Nat) (j : Nat) (h : j < w.length) : nought w (j + 1) = (nought w j && (w[j] == 0)) := by
  unfold nought
  rw [List.take_succ_eq_append_getElem h, List.all_append]
  simp
theorem nought_at {w : List Nat} {j : Nat} (h : nought w j = true) (i : Nat) (hi : i < j) : w.getD i 0 = 0 := by
  unfold nought at h
  rw [List.all_eq_true] at h
  rw [List.getD_eq_getElem?_getD]
  cases e : w[i]? with
  | none => rfl
  | some x =>
    have := h x (List.mem_of_getElem? (i := i) (by rw [List.getElem?_take, if_pos hi, e]))
    simpa using this
theorem sp_nought {B : List Nat} {k : Nat} {w : List Nat} {j : Nat} (h : nought w j = true) : sp B k w j = B := by
  apply List.ext_getElem?
  intro i
  rw [sp_at]
  split
  · rename_i hi
    rw [nought_at h (i - k) (by omega)]
    simp
  · rfl
theorem sp_ne {B : List Nat} {k : Nat} {w : List Nat} {j : Nat} (h : nought w j = false) (hk : k + j ≤ B.length) : sp B k w j ≠ B := by
  intro e
  have : nought w j = true := by
    unfold nought
    rw [List.all_eq_true]
    intro x hx
    obtain ⟨i, hi, rfl⟩ := List.getElem_of_mem hx
    rw [List.length_take] at hi
    have h1 := sp_at B k w j (k + i)
    rw [e, if_pos (by omega), List.getElem?_eq_getElem (show k + i < B.length by omega), Nat.add_sub_cancel_left] at h1
    simp only [Option.map_some, Option.some.injEq] at h1
    have h2 : w.getD i 0 = 0 := by
      have h3 := congrArg (fun z => B[k + i]'(by omega) ^^^ z) h1
      simp only [Nat.xor_self, ← Nat.xor_assoc, Nat.zero_xor] at h3
      exact h3.symm
    rw [List.getElem_take]
    rw [List.getD_eq_getElem?_getD, List.getElem?_eq_getElem (by omega)] at h2
    simpa using h2
  rw [this] at h
  cases h
theorem err_sp {f : Fr} (h : f.Ok) (k : Nat) (w : List Nat) (m : Nat) (hw : NB w) (hm : m ≤ 4) (hk : k + m ≤ 13 + f.pl.length) (hwin : k + m ≤ 9 + f.pl.length ∨ 9 + f.pl.length ≤ k) (hn : nought w m = false) :
    errOf (sp f.bytes k w m) = 4 ∨ errOf (sp f.bytes k w m) = 5 :=
  err_spoiled h _ (sp_lt _ _ _ _ h.bytes hw) (sp_len _ _ _ _) k m hm hwin (fun i hi => sp_same _ _ _ _ _ hi) (sp_ne hn (by rw [f.bytes_len]; exact hk))
end Go.Proofs.Ytckpeclkkmapiaa
