/-
  Small words: an element, a beginning of a reading.
-/
import Derived.Test.YtafamnodeliaaaaGreatDoorKit
namespace Go.Proofs.YtafamnodeliaaaaGreatDoor
open Go.RowKit

theorem Rd.cut {w : World} {a : Option Addr} {c : Nat} {cs : List Int} {f : Int → Value} (h : Rd w (.slice a cs.length c) (cs.map f)) (k : Nat) (hk : k ≤ cs.length) : Rd w (.slice a k c) ((cs.take k).map f) := by
  obtain ⟨a', c', hv, h1, h2, h3, h4⟩ := h
  rw [List.length_map] at hv h1
  simp only [Value.slice.injEq] at hv
  obtain ⟨rfl, _, rfl⟩ := hv
  refine ⟨a, c, by simp; omega, by simp; omega, h2, h3, fun i x hx => ?_⟩
  rw [List.map_take, List.getElem?_take] at hx
  split at hx
  · exact h4 i x hx
  · cases hx

theorem Rd.get {w : World} {a : Option Addr} {n c : Nat} {cs : List Int} {f : Int → Value} (h : Rd w (.slice a n c) (cs.map f)) (k : Nat) (hk : k < cs.length) :
    ∃ b o, a = some ⟨b, o, none⟩ ∧ w.cell? ⟨b, o + k, none⟩ = some (f cs[k]) := by
  obtain ⟨a', c', hv, h1, h2, h3, h4⟩ := h
  simp only [Value.slice.injEq] at hv
  obtain ⟨rfl, _, rfl⟩ := hv
  exact h4 k _ (map_get hk)
end Go.Proofs.YtafamnodeliaaaaGreatDoor
