/-
  The walk of bits.Len.
-/
import Derived.Test.YtdgcnghjjbpekaaGreatDoorBitsW
namespace Go.Proofs.YtdgcnghjjbpekaaGreatDoor
open Go.RowKit
open Go

theorem len_any (B pw pr : Nat) (v : Value) (L : List Bool) (w : World) (h : WriAt B pw pr v L w) : Calls Tryz.prog 7 #[.pointer (some ⟨pw, 0, none⟩)] w fun e w' => e = .returned (.int .i64 L.length) ∧ w = w' := by
  have c0 : w.cell? ⟨pw, 0, none⟩ = some (.pointer (some ⟨pr, 0, none⟩)) := cell_of_row w pw 0 _ _ _ h.1
  have c1 : w.cell? ⟨pr, 1, none⟩ = some (.int .i64 L.length) := cell_of_row w pr 1 _ _ _ h.2.row
  go_enter Tryz.func7, Tryz.ntmps7
  go_wp2_with fail
  refine (there_yes B pw pr v L w h).mono ?_
  rintro e w1 ⟨rfl, rfl⟩
  go_wp2_with fail
  go_ret
  exact ⟨rfl, rfl⟩
end Go.Proofs.YtdgcnghjjbpekaaGreatDoor
