/-
  slices.SortFunc by the differences of small numbers: the row in order.
-/
import Derived.Test.YtmkphllfignbpaaClkFind
import Derived.Test.YtmkphllfignbpaaClkLay
import Derived.Shelf.SlSortCmp.NoneTotal
import Derived.Lib.OwnBridge
import Derived.Lib.AppendIntMem
namespace Go.Proofs.Ytmkphllfignbpaa
open Go.RowKit Go.Lib Go.Sort Go.Shelf
open Go

/-- Numbers that may be. -/
abbrev Sm := {n : Int // smallB n = true}
instance : Inhabited Sm := ⟨⟨0, by decide⟩⟩
def encS (x : Sm) : Value := .int .i64 x.1
def cfS (x y : Sm) : Int := x.1 - y.1
theorem ltS (x y : Sm) : ltOf cfS x y = decide (x.1 < y.1) := by
  unfold ltOf cfS
  by_cases h : x.1 < y.1
  · have : x.1 - y.1 < 0 := by omega
    simp [h, this]
  · have : ¬ x.1 - y.1 < 0 := by omega
    simp [h, this]
theorem swoS : SWO (ltOf cfS) where
  irrefl x := by rw [ltS]; simp
  trans x y z h1 h2 := by rw [ltS] at *; simp at *; omega
  ntrans x y z h1 h2 := by rw [ltS] at *; simp at *; omega
theorem totS (x y : Sm) (h1 : ltOf cfS x y = false) (h2 : ltOf cfS y x = false) : x = y := by
  rw [ltS] at *
  simp at *
  exact Subtype.ext (by omega)
theorem small_list (l : List Int) (h : ∀ x ∈ l, smallB x = true) : ∃ ds : List Sm, ds.map (·.1) = l := by
  induction l with
  | nil => exact ⟨[], rfl⟩
  | cons x l ih =>
    obtain ⟨ds, rfl⟩ := ih fun y hy => h y (by simp [hy])
    exact ⟨⟨x, h x (by simp)⟩ :: ds, rfl⟩
theorem srt_small (ds : List Sm) : (ds.mergeSort fun x y => !(ltOf cfS) y x).map (·.1) = srt (ds.map (·.1)) := by
  apply srt_uniq
  · exact (List.mergeSort_perm ds _).map _
  · have h := List.pairwise_mergeSort (le := fun x y => !(ltOf cfS) y x) (fun a b c h1 h2 => by simp only [ltS] at *; simp at *; omega) (fun a b => by simp only [ltS]; simp; omega) ds
    rw [List.pairwise_map]
    exact h.imp fun {a b} h => by rw [ltS] at h; simpa using h
theorem cmpS (blk off size : Nat) (w : World) : CmpReads Try.prog 25 #[] encS cfS blk off size w := fun _ _ _ _ x y => by
  refine (mid2_any x.1 y.1 _).mono fun e w' ⟨he, hw⟩ => ⟨?_, 0, hw.symm⟩
  obtain ⟨a0, a1⟩ := (smallB_iff _).1 x.2
  obtain ⟨b0, b1⟩ := (smallB_iff _).1 y.2
  rw [he, IntWalk.wrap64_in _ ⟨by omega, by omega⟩]
  rfl
theorem sort_any : SortSaid := by
  intro base g n cap l w hl h hn
  obtain ⟨ds, rfl⟩ := small_list l hl
  have e1 : ints (ds.map (·.1)) = ds.map encS := by unfold ints; rw [List.map_map]; rfl
  rw [e1] at h
  obtain ⟨g', cap', hv, hb, hlt, hc, hm, hlen, hH⟩ := holds_of_ownsRow h (by intro e; cases e)
  cases hv
  have eg : ∀ args w, (callFunc 25 args).run Try.prog w = .ok (.enter 25 args) w := enters_of Try.func25 (by kernel_rfl) rfl
  have hsz : ds.toArray.size = n := by simpa using hlen
  have hS := Any.slices_SortFunc_total Try.sortL encS (fun _ => rfl) cfS swoS 25 #[] g 0 cap ds.toArray w eg (cmpS g 0 ds.toArray.size w).lays hH hlt (by omega) totS
  rw [hsz] at hS
  change Calls Try.prog 24 _ _ _ at hS
  refine hS.mono fun e w' ⟨he, q, os, hw⟩ => ⟨he, ?_, ?_⟩
  · have h2 := ownsRow_putRow (q := q) (k := n) (ys := ds.mergeSort fun x y => !(ltOf cfS) y x) h (by simpa using hlen) (Nat.le_refl _)
    have h3 := ownsRow_grow h2 0 os
    rw [hw]
    rw [List.take_of_length_le (by simpa using Nat.le_of_eq hlen)] at h3
    rw [← srt_small, show ints ((ds.mergeSort fun x y => !(ltOf cfS) y x).map (·.1)) = (ds.mergeSort fun x y => !(ltOf cfS) y x).map encS by unfold ints; rw [List.map_map]; rfl]
    exact h3
  · rw [hw]
    have h4 : Below base w (putRow encS (Sort.ahead w q) g 0 (ds.mergeSort fun x y => !(ltOf cfS) y x).toArray) := below_putRow (Below.refl _ _) hb
    exact h4.trans (below_grow base _ (by have := h4.size; omega) 0 os)
end Go.Proofs.Ytmkphllfignbpaa
