/-
  values: deeds of one thing.
-/
import Derived.Test.YtphlodafdkpedaaDoorValsTwo
namespace Go.Proofs.YtphlodafdkpedaaDoor
open Go.RowKit
open Go

theorem neg_any (a : VT) (bq oq c : Nat) (w : World) (y0 : w.cell? ⟨bq, oq, none⟩ = some (.int .u8 a.1)) (y1 : w.cell? ⟨bq, oq + 1, none⟩ = some (.int .i64 a.2)) :
    Calls Tryd.prog 30 #[.slice (some ⟨bq, oq, none⟩) 1 c] w fun e w' => e = .returned (aggV (numV (wrap64 (-a.2)))) ∧ Below w.heap.size w w' := by
  obtain ⟨a1, a2⟩ := a
  have B1 := balloc (Below.refl w.heap.size w) (.cells #[.int .u8 0, .int .i64 0] 24)
  have A0 := heap_alloc_new w (.cells #[.int .u8 0, .int .i64 0] 24 (0, 0))
  have x0 := (B1.cell (World.block_lt_of_cell? _ _ y0)).trans y0
  have x1 := (B1.cell (World.block_lt_of_cell? _ _ y1)).trans y1
  have R4 : Hid (∀ n w, Calls Tryd.prog 31 #[.int .i64 n] w fun e w' => e = .returned (.agg #[.int .u8 1, .int .i64 n]) ∧ Below w.heap.size w w') := Lib.hid (fun n w => number_any n w)
  clear y0 y1
  go_enter Tryd.func30, Tryd.ntmps30
  go_wp2_with fail
  refine Calls.mono (R4.out _ _) ?_
  rintro e w4 ⟨rfl, d4⟩
  have A4 := (d4.block _ (lt_of_block A0)).trans A0
  have c0 : w4.cell? ⟨w.heap.size, 0, none⟩ = some (.int .u8 0) := cell_of_row _ _ 0 _ _ _ A4
  have c1 : w4.cell? ⟨w.heap.size, 1, none⟩ = some (.int .i64 0) := cell_of_row _ _ 1 _ _ _ A4
  have z0 := frozen_of_row _ _ 0 _ _ A4
  have z1 := frozen_of_row _ _ 1 _ _ A4
  have B4 := bnext B1 d4
  clear A0
  go_wp2_with fail
  exact bodyPost_ret (results_cell_row Tryd.results30 _ _ w.heap.size _ _ _ _ rfl (heap_setCell_same _ _ 1 _ _ _ (heap_setCell_same _ _ 0 _ _ _ A4)) Tryd.underlying24 rfl infoV) rfl ⟨rfl, (B4.setCell (p := ⟨w.heap.size, 0, none⟩) (Nat.le_refl _) _).setCell (p := ⟨w.heap.size, 1, none⟩) (Nat.le_refl _) _⟩
theorem not_any (a : VT) (bq oq c : Nat) (w : World) (y0 : w.cell? ⟨bq, oq, none⟩ = some (.int .u8 a.1)) (y1 : w.cell? ⟨bq, oq + 1, none⟩ = some (.int .i64 a.2)) :
    Calls Tryd.prog 32 #[.slice (some ⟨bq, oq, none⟩) 1 c] w fun e w' => e = .returned (aggV (yesV (!(a.2 == 1)))) ∧ Below w.heap.size w w' := by
  obtain ⟨a1, a2⟩ := a
  have B1 := balloc (Below.refl w.heap.size w) (.cells #[.int .u8 0, .int .i64 0] 24)
  have A0 := heap_alloc_new w (.cells #[.int .u8 0, .int .i64 0] 24 (0, 0))
  have x0 := (B1.cell (World.block_lt_of_cell? _ _ y0)).trans y0
  have x1 := (B1.cell (World.block_lt_of_cell? _ _ y1)).trans y1
  have R1 := Lib.hid (fun w => is_any (a1, a2) w)
  have R4 : Hid (∀ n w, Calls Tryd.prog 33 #[.bool n] w fun e w' => e = .returned (.agg #[.int .u8 2, .int .i64 (boolI n)]) ∧ Below w.heap.size w w') := Lib.hid (fun n w => yes_any n w)
  clear y0 y1
  go_enter Tryd.func32, Tryd.ntmps32
  go_wp2_with fail
  refine Calls.mono (R1.out _) ?_
  rintro e w3 ⟨rfl, d3⟩
  have B3 := bnext B1 d3
  go_wp2_with fail
  refine Calls.mono (R4.out _ _) ?_
  rintro e w4 ⟨rfl, d4⟩
  have A4 := (d4.block _ (lt_of_block ((d3.block _ (lt_of_block A0)).trans A0))).trans ((d3.block _ (lt_of_block A0)).trans A0)
  have c0 : w4.cell? ⟨w.heap.size, 0, none⟩ = some (.int .u8 0) := cell_of_row _ _ 0 _ _ _ A4
  have c1 : w4.cell? ⟨w.heap.size, 1, none⟩ = some (.int .i64 0) := cell_of_row _ _ 1 _ _ _ A4
  have z0 := frozen_of_row _ _ 0 _ _ A4
  have z1 := frozen_of_row _ _ 1 _ _ A4
  have B4 := bnext B3 d4
  clear A0
  go_wp2_with fail
  exact bodyPost_ret (results_cell_row Tryd.results32 _ _ w.heap.size _ _ _ _ rfl (heap_setCell_same _ _ 1 _ _ _ (heap_setCell_same _ _ 0 _ _ _ A4)) Tryd.underlying24 rfl infoV) rfl ⟨rfl, (B4.setCell (p := ⟨w.heap.size, 0, none⟩) (Nat.le_refl _) _).setCell (p := ⟨w.heap.size, 1, none⟩) (Nat.le_refl _) _⟩
end Go.Proofs.YtphlodafdkpedaaDoor
