/-
  A region that draws its order, by an invariant: each operation that may come up keeps it, whatever has come up before.
-/
import Derived.Test.YtdgcnghjjbpekaaGreatDoorKit
import Derived.Deep.Quiet
namespace Go.Proofs.YtdgcnghjjbpekaaGreatDoor
open Go.RowKit
open Go

/-- How many have not come up. -/
def unl (l : Array Bool) : Nat := l.toList.count false
theorem unl_set {l : Array Bool} {i : Nat} (h : l.getD i true = false) : unl (l.setIfInBounds i true) + 1 = unl l := by
  have hi : i < l.size := by
    rcases Nat.lt_or_ge i l.size with p | p
    · exact p
    · simp [Array.getD, Nat.not_lt.2 p] at h
  have hv : l.toList[i]? = some false := by
    simp [Array.getD, hi] at h
    simp [hi, h]
  unfold unl
  rw [Array.toList_setIfInBounds]
  obtain ⟨ls⟩ := l
  simp only at hv hi ⊢
  clear h
  induction ls generalizing i with
  | nil => simp at hv
  | cons a t ih =>
    cases i with
    | zero =>
      simp at hv
      subst hv
      simp
    | succ i =>
      have := ih (i := i) (by simpa using hi) (by simpa using hv)
      simp only [List.set_cons_succ, List.count_cons]
      omega
theorem unl_zero {l : Array Bool} {i : Nat} (h : unl l = 0) : l.getD i true = true := by
  cases e : l.getD i true with
  | true => rfl
  | false =>
    have := unl_set e
    omega
theorem wpAny_inv {P : Program} {md : Region.Mode} {ops : Array Oper} {Q : Exit → Act → World → Prop} (Inv : Array Bool → Act → World → Prop)
    (hdone : ∀ l a w, Region.ready md ops l = [] → Inv l a w → Q .normal a w)
    (hstep : ∀ l a w i, i ∈ Region.ready md ops l → Inv l a w → ∀ K : Act → World → Prop, (∀ a' w', Inv (l.setIfInBounds i true) a' w' → K a' w') → wpOp P ops Q i K a w) :
    ∀ (fuel : Nat) (l : Array Bool) (a : Act) (w : World), unl l ≤ fuel → Inv l a w → wpAny P md ops Q fuel l a w := by
  intro fuel
  induction fuel with
  | zero =>
    intro l a w hf hi
    have hr : Region.ready md ops l = [] := by
      rw [List.eq_nil_iff_forall_not_mem]
      intro j hj
      have h1 := (mem_ready.1 hj).1
      rw [unl_zero (by omega)] at h1
      cases h1
    exact ⟨hr, hdone l a w hr hi⟩
  | succ fuel ih =>
    intro l a w hf hi
    refine ⟨fun hr => hdone l a w hr hi, fun i hm => ?_⟩
    refine hstep l a w i hm hi _ fun a' w' h' => ih _ a' w' ?_ h'
    have := unl_set (mem_ready.1 hm).1
    omega
/-- The region, from the draw on. -/
theorem wp_region_inv {P : Program} {id : Nat} {ops : Array Oper} {Q : Exit → Act → World → Prop} {a : Act} {w : World} (hm : P.follows .mixedOrders = true) (Inv : Array Bool → Act → World → Prop)
    (h0 : Inv (Array.replicate ops.size false) a w.drew)
    (hdone : ∀ l a w, Region.ready .any ops l = [] → Inv l a w → Q .normal a w)
    (hstep : ∀ l a w i, i ∈ Region.ready .any ops l → Inv l a w → ∀ K : Act → World → Prop, (∀ a' w', Inv (l.setIfInBounds i true) a' w' → K a' w') → wpOp P ops Q i K a w) :
    (Code.region id ops true).wp P Q a w :=
  wp_region_any hm (wpAny_inv Inv hdone hstep _ _ _ _ (by unfold unl; simp) h0)
end Go.Proofs.YtdgcnghjjbpekaaGreatDoor
