/-
  Plain laws of bits: what was put is got. No program in sight.
-/
import Derived.Test.YtafamnodeliaaaaGreatDoorBitsGet
namespace Go.Proofs.YtafamnodeliaaaaGreatDoor
open Go.RowKit
open Go

theorem iN_of (zs : List Int) (h : ∀ z ∈ zs, 0 ≤ z) : ∃ ls : List Nat, zs = iN ls := by
  induction zs with
  | nil => exact ⟨[], rfl⟩
  | cons z zs ih =>
    obtain ⟨ls, rfl⟩ := ih fun x hx => h x (by simp [hx])
    obtain ⟨n, rfl⟩ := Int.eq_ofNat_of_zero_le (h z (by simp))
    exact ⟨n :: ls, rfl⟩
theorem iN_len (ls : List Nat) : (iN ls).length = ls.length := by simp
end Go.Proofs.YtafamnodeliaaaaGreatDoor
