/-
  A row of the call's own whose elements have several cells.
-/
import Derived.Test.YtafamnodeliaaaaGreatDoorCells
import Derived.Maps.AppendAt
namespace Go.Proofs.YtafamnodeliaaaaGreatDoor
open Go.RowKit
open Go

theorem flat_len (sz : Nat) (rows : List (List Value)) (h : ∀ r ∈ rows, r.length = sz) : rows.flatten.length = rows.length * sz := by
  induction rows with
  | nil => simp
  | cons r rows ih =>
    have h1 := ih fun x hx => h x (by simp [hx])
    have h2 := h r (by simp)
    rw [List.flatten_cons, List.length_append, h1, h2, List.length_cons, Nat.add_mul, Nat.one_mul, Nat.add_comm]
theorem flat_get (sz : Nat) (rows : List (List Value)) (h : ∀ r ∈ rows, r.length = sz) (i j : Nat) (r : List Value) (x : Value) (hr : rows[i]? = some r) (hx : r[j]? = some x) : rows.flatten[i * sz + j]? = some x := by
  induction rows generalizing i with
  | nil => simp at hr
  | cons q rows ih =>
    have h2 := h q (by simp)
    rw [List.flatten_cons]
    cases i with
    | zero =>
      simp at hr
      subst hr
      have hj := (List.getElem?_eq_some_iff.1 hx).1
      rw [List.getElem?_append_left (by omega), Nat.zero_mul, Nat.zero_add]
      exact hx
    | succ i =>
      rw [Nat.add_mul, Nat.one_mul, List.getElem?_append_right (by omega)]
      rw [show i * sz + sz + j - q.length = i * sz + j by omega]
      exact ih (fun x hx => h x (by simp [hx])) i (by simpa using hr)
/-- Such a row reads as its rows. -/
theorem own_rdN {w : World} {base : Nat} {e : TypeId} {sz : Nat} {v : Value} {n : Nat} {rows : List (List Value)} (h : w.ownsRow base e sz v n rows.flatten) (hs : ∀ r ∈ rows, r.length = sz) (hn : n = rows.length) : RdN sz w v rows := by
  subst hn
  rcases h.2 with ⟨rfl, h0⟩ | ⟨g, c, cur, rfl, h1, h2, h3, h4, h5, h6⟩
  · obtain rfl := List.eq_nil_of_length_eq_zero h0
    exact ⟨none, 0, rfl, by simp, by simp [maxLen], by simp, by simp, by simp⟩
  · refine ⟨_, c, rfl, h3, h4, by simp, hs, fun i r hr => ⟨g, 0, rfl, fun j x hx => ?_⟩⟩
    have hf := flat_get sz rows hs i j r x hr hx
    rw [cell_of_row _ _ _ _ _ _ h2, Nat.zero_add]
    rw [← h6, List.getElem?_take] at hf
    split at hf
    · simpa using hf
    · cases hf
/-- The cells of a block that is new. -/
theorem cells_newN {w : World} {g : Nat} {cs : List Value} {t : TypeId} {fr : Nat × Nat} (h : w.heap[g]? = some (.cells cs.toArray t fr)) (j : Nat) (u : Value) (hj : cs[j]? = some u) : w.cell? ((⟨g, 0, none⟩ : Addr).add j) = some u := by
  rw [Addr.add_lit, Nat.zero_add, cell_of_row _ _ _ _ _ _ h]
  simpa using hj
end Go.Proofs.YtafamnodeliaaaaGreatDoor
