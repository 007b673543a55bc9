/-
  values: deeds of two things.
-/
import Derived.Test.YtphlodafdkpedaaDoorVals
import Derived.Deep.RegionWith
import Derived.Laws.EntriesVeiled
import Derived.Laws.CopyOwn
import Derived.Laws.Tables
import Derived.Deep.RegionHeld3
namespace Go.Proofs.YtphlodafdkpedaaDoor
open Go.RowKit
open Go

theorem infoD : (Tryd.prog.info? 47).map (·.size) = some 3 := by kernel_rfl
theorem heap_alloc_at (w : World) (o : Obj) (n : Nat) (h : w.heap.size = n) : (w.alloc o).heap[n]? = some o := by
  subst h
  exact heap_alloc_new w o
theorem cell_up {w : World} {o : Obj} {a : Addr} {v : Value} (h : w.cell? a = some v) : (w.alloc o).cell? a = some v := (World.cell?_alloc_lt w o _ (World.block_lt_of_cell? w _ h)).trans h
theorem cell_newAt (w : World) (v : Value) (t : TypeId) (n : Nat) (h : w.heap.size = n) : (w.alloc (.cells #[v] t (0, 0))).cell? ⟨n, 0, none⟩ = some v := cell_of_row _ _ 0 _ _ _ (heap_alloc_at w _ n h)
theorem oc_v (a b : Int) : (#[Value.int .u8 a, .int .i64 b] : Array Value).all (·.oneCell') = true := by simp [Value.oneCell']
/-- A function, alone. -/
abbrev fnV (n : Nat) : Value := .func (.func n) #[] #[]
def deedV (m o : Int) (v : Value) : Value := .agg #[.int .i64 m, .int .u8 o, v]
theorem twoII_any (o : Int) (f g h : Nat) (w : World) : Calls Tryd.prog 34 #[.int .u8 o, fnV f, fnV g, fnV h] w fun e w' =>
    e = .returned (deedV 2 o (.func (.func 54) #[] #[.pointer (some ⟨w.heap.size + 1, 0, none⟩), .pointer (some ⟨w.heap.size + 1 + 1, 0, none⟩), .pointer (some ⟨w.heap.size, 0, none⟩)])) ∧
    Below w.heap.size w w' ∧ w'.cell? ⟨w.heap.size, 0, none⟩ = some (fnV f) ∧ w'.cell? ⟨w.heap.size + 1, 0, none⟩ = some (fnV g) ∧ w'.cell? ⟨w.heap.size + 1 + 1, 0, none⟩ = some (fnV h) := by
  go_enter Tryd.func34, Tryd.ntmps34
  go_wp2_with fail
  refine bodyPost_ret (results_cell_row Tryd.results34 _ _ (w.heap.size + 1 + 1 + 1) _ _ _ _ rfl (heap_alloc_at _ _ _ (by simp)) Tryd.underlying47 rfl infoD) rfl ⟨rfl, balloc (balloc (balloc (balloc (Below.refl _ _) _) _) _) _, ?_, ?_, ?_⟩
  · exact cell_up (cell_up (cell_up (cell_newAt _ _ _ _ rfl)))
  · exact cell_up (cell_up (cell_newAt _ _ _ _ (by simp)))
  · exact cell_up (cell_newAt _ _ _ _ (by simp))
set_option maxHeartbeats 4000000 in
theorem callII3_any (q : Int → Int → Int) (p1 p2 p3 : Nat) (a b : VT) (bq oq c : Nat) (w : World)
    (h1 : w.cell? ⟨p1, 0, none⟩ = some (fnV 31)) (h2 : w.cell? ⟨p2, 0, none⟩ = some (fnV 36)) (h3 : w.cell? ⟨p3, 0, none⟩ = some (fnV 35))
    (hd : ∀ x y w, Calls Tryd.prog 36 #[.int .i64 x, .int .i64 y] w fun e w' => e = .returned (.int .i64 (q x y)) ∧ w = w')
    (y0 : w.cell? ⟨bq, oq, none⟩ = some (.int .u8 a.1)) (y1 : w.cell? ⟨bq, oq + 1, none⟩ = some (.int .i64 a.2)) (y2 : w.cell? ⟨bq, oq + 2, none⟩ = some (.int .u8 b.1)) (y3 : w.cell? ⟨bq, oq + 2 + 1, none⟩ = some (.int .i64 b.2)) :
    Calls Tryd.prog 54 #[.slice (some ⟨bq, oq, none⟩) 2 c, .pointer (some ⟨p1, 0, none⟩), .pointer (some ⟨p2, 0, none⟩), .pointer (some ⟨p3, 0, none⟩)] w fun e w' => e = .returned (aggV (numV (q a.2 b.2))) ∧ Below w.heap.size w w' := by
  obtain ⟨a1, a2⟩ := a
  obtain ⟨b1, b2⟩ := b
  have B1 := balloc (Below.refl w.heap.size w) (.cells #[.int .u8 0, .int .i64 0] 24)
  have B2 : Below w.heap.size w (w.alloc (.cells #[.int .u8 0, .int .i64 0] 24 (0, 0))).drew := bdraw B1 1
  have KC := Lib.hid (fun (w9 : World) (b9 : Below w.heap.size w w9) =>
    (⟨(b9.cell (World.block_lt_of_cell? _ _ h1)).trans h1, (b9.cell (World.block_lt_of_cell? _ _ h2)).trans h2, (b9.cell (World.block_lt_of_cell? _ _ h3)).trans h3, (b9.cell (World.block_lt_of_cell? _ _ y0)).trans y0, (b9.cell (World.block_lt_of_cell? _ _ y1)).trans y1, (b9.cell (World.block_lt_of_cell? _ _ y2)).trans y2, (b9.cell (World.block_lt_of_cell? _ _ y3)).trans y3⟩ :
      w9.cell? ⟨p1, 0, none⟩ = some (fnV 31) ∧ w9.cell? ⟨p2, 0, none⟩ = some (fnV 36) ∧ w9.cell? ⟨p3, 0, none⟩ = some (fnV 35) ∧ w9.cell? ⟨bq, oq, none⟩ = some (.int .u8 a1) ∧ w9.cell? ⟨bq, oq + 1, none⟩ = some (.int .i64 a2) ∧ w9.cell? ⟨bq, oq + 2, none⟩ = some (.int .u8 b1) ∧ w9.cell? ⟨bq, oq + 2 + 1, none⟩ = some (.int .i64 b2)))
  have E0 := KC.out _ B2
  obtain ⟨x1, x2, x3, x4, x5, x6, x7⟩ := KC.out _ B1
  have HD := Lib.hid hd
  have R1 := Lib.hid (fun w => raw_any (a1, a2) w)
  have R2 := Lib.hid (fun w => raw_any (b1, b2) w)
  have R4 : Hid (∀ (n : Int) w, Calls Tryd.prog 31 #[.int .i64 n] w fun e w' => e = .returned (.agg #[.int .u8 1, .int .i64 (n)]) ∧ Below w.heap.size w w') := Lib.hid (fun n w => number_any n w)
  have A0 := heap_alloc_new w (.cells #[.int .u8 0, .int .i64 0] 24 (0, 0))
  have KA := Lib.hid (fun (w9 : World) (b9 : Below (w.alloc (.cells #[.int .u8 0, .int .i64 0] 24 (0, 0))).drew.heap.size (w.alloc (.cells #[.int .u8 0, .int .i64 0] 24 (0, 0))).drew w9) => (b9.block _ (lt_of_block A0)).trans A0)
  clear A0 h1 h2 h3 y0 y1 y2 y3 hd
  go_enter Tryd.func54, Tryd.ntmps54
  go_wp2_with fail
  go_region_held3 (fun w' => w'.cell? ⟨p1, 0, none⟩ = some (fnV 31) ∧ w'.cell? ⟨p2, 0, none⟩ = some (fnV 36) ∧ w'.cell? ⟨p3, 0, none⟩ = some (fnV 35) ∧ w'.cell? ⟨bq, oq, none⟩ = some (.int .u8 a1) ∧ w'.cell? ⟨bq, oq + 1, none⟩ = some (.int .i64 a2) ∧ w'.cell? ⟨bq, oq + 2, none⟩ = some (.int .u8 b1) ∧ w'.cell? ⟨bq, oq + 2 + 1, none⟩ = some (.int .i64 b2))
    (first | exact E0 | exact E1 | exact E2 | exact E4 | exact E5)
    (first
    | (go_at_call 35; refine Calls.mono (R1.out _) ?_; rintro e w1 ⟨rfl, d1⟩; have E1 := KC.out _ (bnext B2 d1))
    | (go_at_call 35; refine Calls.mono (R2.out _) ?_; rintro e w2 ⟨rfl, d2⟩; have d12 := bnext d1 d2; have E2 := KC.out _ (bnext B2 d12))
    | (go_at_call 36; refine Calls.mono (HD.out _ _ _) ?_; rintro e w3 ⟨rfl, rfl⟩)
    | (go_at_call 31; refine Calls.mono (R4.out _ _) ?_; rintro e w4 ⟨rfl, d4⟩; have d14 := bnext d12 d4; have E4 := KC.out _ (bnext B2 d14); have A4 := KA.out _ d14; have c0 : w4.cell? ⟨w.heap.size, 0, none⟩ = some (.int .u8 0) := cell_of_row _ _ 0 _ _ _ A4; have c1 : w4.cell? ⟨w.heap.size, 1, none⟩ = some (.int .i64 0) := cell_of_row _ _ 1 _ _ _ A4; have z0 := frozen_of_row _ _ 0 _ _ A4; have z1 := frozen_of_row _ _ 1 _ _ A4; have B5 := ((bnext B2 d14).setCell (p := ⟨w.heap.size, 0, none⟩) (Nat.le_refl _) (.int .u8 1)).setCell (p := ⟨w.heap.size, 1, none⟩) (Nat.le_refl _) (.int .i64 (q a2 b2)); have E5 := KC.out _ B5))
  go_wp2_with fail
  exact bodyPost_ret (results_cell_row Tryd.results54 _ _ w.heap.size _ _ _ _ rfl (heap_setCell_same _ _ 1 _ _ _ (heap_setCell_same _ _ 0 _ _ _ A4)) Tryd.underlying24 rfl infoV) rfl ⟨rfl, B5⟩
set_option maxHeartbeats 4000000 in
theorem callII4_any (q : Int → Int → Int) (p1 p2 p3 : Nat) (a b : VT) (bq oq c : Nat) (w : World)
    (h1 : w.cell? ⟨p1, 0, none⟩ = some (fnV 31)) (h2 : w.cell? ⟨p2, 0, none⟩ = some (fnV 37)) (h3 : w.cell? ⟨p3, 0, none⟩ = some (fnV 35))
    (hd : ∀ x y w, Calls Tryd.prog 37 #[.int .i64 x, .int .i64 y] w fun e w' => e = .returned (.int .i64 (q x y)) ∧ w = w')
    (y0 : w.cell? ⟨bq, oq, none⟩ = some (.int .u8 a.1)) (y1 : w.cell? ⟨bq, oq + 1, none⟩ = some (.int .i64 a.2)) (y2 : w.cell? ⟨bq, oq + 2, none⟩ = some (.int .u8 b.1)) (y3 : w.cell? ⟨bq, oq + 2 + 1, none⟩ = some (.int .i64 b.2)) :
    Calls Tryd.prog 54 #[.slice (some ⟨bq, oq, none⟩) 2 c, .pointer (some ⟨p1, 0, none⟩), .pointer (some ⟨p2, 0, none⟩), .pointer (some ⟨p3, 0, none⟩)] w fun e w' => e = .returned (aggV (numV (q a.2 b.2))) ∧ Below w.heap.size w w' := by
  obtain ⟨a1, a2⟩ := a
  obtain ⟨b1, b2⟩ := b
  have B1 := balloc (Below.refl w.heap.size w) (.cells #[.int .u8 0, .int .i64 0] 24)
  have B2 : Below w.heap.size w (w.alloc (.cells #[.int .u8 0, .int .i64 0] 24 (0, 0))).drew := bdraw B1 1
  have KC := Lib.hid (fun (w9 : World) (b9 : Below w.heap.size w w9) =>
    (⟨(b9.cell (World.block_lt_of_cell? _ _ h1)).trans h1, (b9.cell (World.block_lt_of_cell? _ _ h2)).trans h2, (b9.cell (World.block_lt_of_cell? _ _ h3)).trans h3, (b9.cell (World.block_lt_of_cell? _ _ y0)).trans y0, (b9.cell (World.block_lt_of_cell? _ _ y1)).trans y1, (b9.cell (World.block_lt_of_cell? _ _ y2)).trans y2, (b9.cell (World.block_lt_of_cell? _ _ y3)).trans y3⟩ :
      w9.cell? ⟨p1, 0, none⟩ = some (fnV 31) ∧ w9.cell? ⟨p2, 0, none⟩ = some (fnV 37) ∧ w9.cell? ⟨p3, 0, none⟩ = some (fnV 35) ∧ w9.cell? ⟨bq, oq, none⟩ = some (.int .u8 a1) ∧ w9.cell? ⟨bq, oq + 1, none⟩ = some (.int .i64 a2) ∧ w9.cell? ⟨bq, oq + 2, none⟩ = some (.int .u8 b1) ∧ w9.cell? ⟨bq, oq + 2 + 1, none⟩ = some (.int .i64 b2)))
  have E0 := KC.out _ B2
  obtain ⟨x1, x2, x3, x4, x5, x6, x7⟩ := KC.out _ B1
  have HD := Lib.hid hd
  have R1 := Lib.hid (fun w => raw_any (a1, a2) w)
  have R2 := Lib.hid (fun w => raw_any (b1, b2) w)
  have R4 : Hid (∀ (n : Int) w, Calls Tryd.prog 31 #[.int .i64 n] w fun e w' => e = .returned (.agg #[.int .u8 1, .int .i64 (n)]) ∧ Below w.heap.size w w') := Lib.hid (fun n w => number_any n w)
  have A0 := heap_alloc_new w (.cells #[.int .u8 0, .int .i64 0] 24 (0, 0))
  have KA := Lib.hid (fun (w9 : World) (b9 : Below (w.alloc (.cells #[.int .u8 0, .int .i64 0] 24 (0, 0))).drew.heap.size (w.alloc (.cells #[.int .u8 0, .int .i64 0] 24 (0, 0))).drew w9) => (b9.block _ (lt_of_block A0)).trans A0)
  clear A0 h1 h2 h3 y0 y1 y2 y3 hd
  go_enter Tryd.func54, Tryd.ntmps54
  go_wp2_with fail
  go_region_held3 (fun w' => w'.cell? ⟨p1, 0, none⟩ = some (fnV 31) ∧ w'.cell? ⟨p2, 0, none⟩ = some (fnV 37) ∧ w'.cell? ⟨p3, 0, none⟩ = some (fnV 35) ∧ w'.cell? ⟨bq, oq, none⟩ = some (.int .u8 a1) ∧ w'.cell? ⟨bq, oq + 1, none⟩ = some (.int .i64 a2) ∧ w'.cell? ⟨bq, oq + 2, none⟩ = some (.int .u8 b1) ∧ w'.cell? ⟨bq, oq + 2 + 1, none⟩ = some (.int .i64 b2))
    (first | exact E0 | exact E1 | exact E2 | exact E4 | exact E5)
    (first
    | (go_at_call 35; refine Calls.mono (R1.out _) ?_; rintro e w1 ⟨rfl, d1⟩; have E1 := KC.out _ (bnext B2 d1))
    | (go_at_call 35; refine Calls.mono (R2.out _) ?_; rintro e w2 ⟨rfl, d2⟩; have d12 := bnext d1 d2; have E2 := KC.out _ (bnext B2 d12))
    | (go_at_call 37; refine Calls.mono (HD.out _ _ _) ?_; rintro e w3 ⟨rfl, rfl⟩)
    | (go_at_call 31; refine Calls.mono (R4.out _ _) ?_; rintro e w4 ⟨rfl, d4⟩; have d14 := bnext d12 d4; have E4 := KC.out _ (bnext B2 d14); have A4 := KA.out _ d14; have c0 : w4.cell? ⟨w.heap.size, 0, none⟩ = some (.int .u8 0) := cell_of_row _ _ 0 _ _ _ A4; have c1 : w4.cell? ⟨w.heap.size, 1, none⟩ = some (.int .i64 0) := cell_of_row _ _ 1 _ _ _ A4; have z0 := frozen_of_row _ _ 0 _ _ A4; have z1 := frozen_of_row _ _ 1 _ _ A4; have B5 := ((bnext B2 d14).setCell (p := ⟨w.heap.size, 0, none⟩) (Nat.le_refl _) (.int .u8 1)).setCell (p := ⟨w.heap.size, 1, none⟩) (Nat.le_refl _) (.int .i64 (q a2 b2)); have E5 := KC.out _ B5))
  go_wp2_with fail
  exact bodyPost_ret (results_cell_row Tryd.results54 _ _ w.heap.size _ _ _ _ rfl (heap_setCell_same _ _ 1 _ _ _ (heap_setCell_same _ _ 0 _ _ _ A4)) Tryd.underlying24 rfl infoV) rfl ⟨rfl, B5⟩
set_option maxHeartbeats 4000000 in
theorem callII5_any (q : Int → Int → Int) (p1 p2 p3 : Nat) (a b : VT) (bq oq c : Nat) (w : World)
    (h1 : w.cell? ⟨p1, 0, none⟩ = some (fnV 31)) (h2 : w.cell? ⟨p2, 0, none⟩ = some (fnV 38)) (h3 : w.cell? ⟨p3, 0, none⟩ = some (fnV 35))
    (hd : ∀ x y w, Calls Tryd.prog 38 #[.int .i64 x, .int .i64 y] w fun e w' => e = .returned (.int .i64 (q x y)) ∧ w = w')
    (y0 : w.cell? ⟨bq, oq, none⟩ = some (.int .u8 a.1)) (y1 : w.cell? ⟨bq, oq + 1, none⟩ = some (.int .i64 a.2)) (y2 : w.cell? ⟨bq, oq + 2, none⟩ = some (.int .u8 b.1)) (y3 : w.cell? ⟨bq, oq + 2 + 1, none⟩ = some (.int .i64 b.2)) :
    Calls Tryd.prog 54 #[.slice (some ⟨bq, oq, none⟩) 2 c, .pointer (some ⟨p1, 0, none⟩), .pointer (some ⟨p2, 0, none⟩), .pointer (some ⟨p3, 0, none⟩)] w fun e w' => e = .returned (aggV (numV (q a.2 b.2))) ∧ Below w.heap.size w w' := by
  obtain ⟨a1, a2⟩ := a
  obtain ⟨b1, b2⟩ := b
  have B1 := balloc (Below.refl w.heap.size w) (.cells #[.int .u8 0, .int .i64 0] 24)
  have B2 : Below w.heap.size w (w.alloc (.cells #[.int .u8 0, .int .i64 0] 24 (0, 0))).drew := bdraw B1 1
  have KC := Lib.hid (fun (w9 : World) (b9 : Below w.heap.size w w9) =>
    (⟨(b9.cell (World.block_lt_of_cell? _ _ h1)).trans h1, (b9.cell (World.block_lt_of_cell? _ _ h2)).trans h2, (b9.cell (World.block_lt_of_cell? _ _ h3)).trans h3, (b9.cell (World.block_lt_of_cell? _ _ y0)).trans y0, (b9.cell (World.block_lt_of_cell? _ _ y1)).trans y1, (b9.cell (World.block_lt_of_cell? _ _ y2)).trans y2, (b9.cell (World.block_lt_of_cell? _ _ y3)).trans y3⟩ :
      w9.cell? ⟨p1, 0, none⟩ = some (fnV 31) ∧ w9.cell? ⟨p2, 0, none⟩ = some (fnV 38) ∧ w9.cell? ⟨p3, 0, none⟩ = some (fnV 35) ∧ w9.cell? ⟨bq, oq, none⟩ = some (.int .u8 a1) ∧ w9.cell? ⟨bq, oq + 1, none⟩ = some (.int .i64 a2) ∧ w9.cell? ⟨bq, oq + 2, none⟩ = some (.int .u8 b1) ∧ w9.cell? ⟨bq, oq + 2 + 1, none⟩ = some (.int .i64 b2)))
  have E0 := KC.out _ B2
  obtain ⟨x1, x2, x3, x4, x5, x6, x7⟩ := KC.out _ B1
  have HD := Lib.hid hd
  have R1 := Lib.hid (fun w => raw_any (a1, a2) w)
  have R2 := Lib.hid (fun w => raw_any (b1, b2) w)
  have R4 : Hid (∀ (n : Int) w, Calls Tryd.prog 31 #[.int .i64 n] w fun e w' => e = .returned (.agg #[.int .u8 1, .int .i64 (n)]) ∧ Below w.heap.size w w') := Lib.hid (fun n w => number_any n w)
  have A0 := heap_alloc_new w (.cells #[.int .u8 0, .int .i64 0] 24 (0, 0))
  have KA := Lib.hid (fun (w9 : World) (b9 : Below (w.alloc (.cells #[.int .u8 0, .int .i64 0] 24 (0, 0))).drew.heap.size (w.alloc (.cells #[.int .u8 0, .int .i64 0] 24 (0, 0))).drew w9) => (b9.block _ (lt_of_block A0)).trans A0)
  clear A0 h1 h2 h3 y0 y1 y2 y3 hd
  go_enter Tryd.func54, Tryd.ntmps54
  go_wp2_with fail
  go_region_held3 (fun w' => w'.cell? ⟨p1, 0, none⟩ = some (fnV 31) ∧ w'.cell? ⟨p2, 0, none⟩ = some (fnV 38) ∧ w'.cell? ⟨p3, 0, none⟩ = some (fnV 35) ∧ w'.cell? ⟨bq, oq, none⟩ = some (.int .u8 a1) ∧ w'.cell? ⟨bq, oq + 1, none⟩ = some (.int .i64 a2) ∧ w'.cell? ⟨bq, oq + 2, none⟩ = some (.int .u8 b1) ∧ w'.cell? ⟨bq, oq + 2 + 1, none⟩ = some (.int .i64 b2))
    (first | exact E0 | exact E1 | exact E2 | exact E4 | exact E5)
    (first
    | (go_at_call 35; refine Calls.mono (R1.out _) ?_; rintro e w1 ⟨rfl, d1⟩; have E1 := KC.out _ (bnext B2 d1))
    | (go_at_call 35; refine Calls.mono (R2.out _) ?_; rintro e w2 ⟨rfl, d2⟩; have d12 := bnext d1 d2; have E2 := KC.out _ (bnext B2 d12))
    | (go_at_call 38; refine Calls.mono (HD.out _ _ _) ?_; rintro e w3 ⟨rfl, rfl⟩)
    | (go_at_call 31; refine Calls.mono (R4.out _ _) ?_; rintro e w4 ⟨rfl, d4⟩; have d14 := bnext d12 d4; have E4 := KC.out _ (bnext B2 d14); have A4 := KA.out _ d14; have c0 : w4.cell? ⟨w.heap.size, 0, none⟩ = some (.int .u8 0) := cell_of_row _ _ 0 _ _ _ A4; have c1 : w4.cell? ⟨w.heap.size, 1, none⟩ = some (.int .i64 0) := cell_of_row _ _ 1 _ _ _ A4; have z0 := frozen_of_row _ _ 0 _ _ A4; have z1 := frozen_of_row _ _ 1 _ _ A4; have B5 := ((bnext B2 d14).setCell (p := ⟨w.heap.size, 0, none⟩) (Nat.le_refl _) (.int .u8 1)).setCell (p := ⟨w.heap.size, 1, none⟩) (Nat.le_refl _) (.int .i64 (q a2 b2)); have E5 := KC.out _ B5))
  go_wp2_with fail
  exact bodyPost_ret (results_cell_row Tryd.results54 _ _ w.heap.size _ _ _ _ rfl (heap_setCell_same _ _ 1 _ _ _ (heap_setCell_same _ _ 0 _ _ _ A4)) Tryd.underlying24 rfl infoV) rfl ⟨rfl, B5⟩
set_option maxHeartbeats 4000000 in
theorem callII6_any (q : Int → Int → Int) (p1 p2 p3 : Nat) (a b : VT) (bq oq c : Nat) (w : World)
    (h1 : w.cell? ⟨p1, 0, none⟩ = some (fnV 31)) (h2 : w.cell? ⟨p2, 0, none⟩ = some (fnV 39)) (h3 : w.cell? ⟨p3, 0, none⟩ = some (fnV 35))
    (hd : ∀ x y w, Calls Tryd.prog 39 #[.int .i64 x, .int .i64 y] w fun e w' => e = .returned (.int .i64 (q x y)) ∧ w = w')
    (y0 : w.cell? ⟨bq, oq, none⟩ = some (.int .u8 a.1)) (y1 : w.cell? ⟨bq, oq + 1, none⟩ = some (.int .i64 a.2)) (y2 : w.cell? ⟨bq, oq + 2, none⟩ = some (.int .u8 b.1)) (y3 : w.cell? ⟨bq, oq + 2 + 1, none⟩ = some (.int .i64 b.2)) :
    Calls Tryd.prog 54 #[.slice (some ⟨bq, oq, none⟩) 2 c, .pointer (some ⟨p1, 0, none⟩), .pointer (some ⟨p2, 0, none⟩), .pointer (some ⟨p3, 0, none⟩)] w fun e w' => e = .returned (aggV (numV (q a.2 b.2))) ∧ Below w.heap.size w w' := by
  obtain ⟨a1, a2⟩ := a
  obtain ⟨b1, b2⟩ := b
  have B1 := balloc (Below.refl w.heap.size w) (.cells #[.int .u8 0, .int .i64 0] 24)
  have B2 : Below w.heap.size w (w.alloc (.cells #[.int .u8 0, .int .i64 0] 24 (0, 0))).drew := bdraw B1 1
  have KC := Lib.hid (fun (w9 : World) (b9 : Below w.heap.size w w9) =>
    (⟨(b9.cell (World.block_lt_of_cell? _ _ h1)).trans h1, (b9.cell (World.block_lt_of_cell? _ _ h2)).trans h2, (b9.cell (World.block_lt_of_cell? _ _ h3)).trans h3, (b9.cell (World.block_lt_of_cell? _ _ y0)).trans y0, (b9.cell (World.block_lt_of_cell? _ _ y1)).trans y1, (b9.cell (World.block_lt_of_cell? _ _ y2)).trans y2, (b9.cell (World.block_lt_of_cell? _ _ y3)).trans y3⟩ :
      w9.cell? ⟨p1, 0, none⟩ = some (fnV 31) ∧ w9.cell? ⟨p2, 0, none⟩ = some (fnV 39) ∧ w9.cell? ⟨p3, 0, none⟩ = some (fnV 35) ∧ w9.cell? ⟨bq, oq, none⟩ = some (.int .u8 a1) ∧ w9.cell? ⟨bq, oq + 1, none⟩ = some (.int .i64 a2) ∧ w9.cell? ⟨bq, oq + 2, none⟩ = some (.int .u8 b1) ∧ w9.cell? ⟨bq, oq + 2 + 1, none⟩ = some (.int .i64 b2)))
  have E0 := KC.out _ B2
  obtain ⟨x1, x2, x3, x4, x5, x6, x7⟩ := KC.out _ B1
  have HD := Lib.hid hd
  have R1 := Lib.hid (fun w => raw_any (a1, a2) w)
  have R2 := Lib.hid (fun w => raw_any (b1, b2) w)
  have R4 : Hid (∀ (n : Int) w, Calls Tryd.prog 31 #[.int .i64 n] w fun e w' => e = .returned (.agg #[.int .u8 1, .int .i64 (n)]) ∧ Below w.heap.size w w') := Lib.hid (fun n w => number_any n w)
  have A0 := heap_alloc_new w (.cells #[.int .u8 0, .int .i64 0] 24 (0, 0))
  have KA := Lib.hid (fun (w9 : World) (b9 : Below (w.alloc (.cells #[.int .u8 0, .int .i64 0] 24 (0, 0))).drew.heap.size (w.alloc (.cells #[.int .u8 0, .int .i64 0] 24 (0, 0))).drew w9) => (b9.block _ (lt_of_block A0)).trans A0)
  clear A0 h1 h2 h3 y0 y1 y2 y3 hd
  go_enter Tryd.func54, Tryd.ntmps54
  go_wp2_with fail
  go_region_held3 (fun w' => w'.cell? ⟨p1, 0, none⟩ = some (fnV 31) ∧ w'.cell? ⟨p2, 0, none⟩ = some (fnV 39) ∧ w'.cell? ⟨p3, 0, none⟩ = some (fnV 35) ∧ w'.cell? ⟨bq, oq, none⟩ = some (.int .u8 a1) ∧ w'.cell? ⟨bq, oq + 1, none⟩ = some (.int .i64 a2) ∧ w'.cell? ⟨bq, oq + 2, none⟩ = some (.int .u8 b1) ∧ w'.cell? ⟨bq, oq + 2 + 1, none⟩ = some (.int .i64 b2))
    (first | exact E0 | exact E1 | exact E2 | exact E4 | exact E5)
    (first
    | (go_at_call 35; refine Calls.mono (R1.out _) ?_; rintro e w1 ⟨rfl, d1⟩; have E1 := KC.out _ (bnext B2 d1))
    | (go_at_call 35; refine Calls.mono (R2.out _) ?_; rintro e w2 ⟨rfl, d2⟩; have d12 := bnext d1 d2; have E2 := KC.out _ (bnext B2 d12))
    | (go_at_call 39; refine Calls.mono (HD.out _ _ _) ?_; rintro e w3 ⟨rfl, rfl⟩)
    | (go_at_call 31; refine Calls.mono (R4.out _ _) ?_; rintro e w4 ⟨rfl, d4⟩; have d14 := bnext d12 d4; have E4 := KC.out _ (bnext B2 d14); have A4 := KA.out _ d14; have c0 : w4.cell? ⟨w.heap.size, 0, none⟩ = some (.int .u8 0) := cell_of_row _ _ 0 _ _ _ A4; have c1 : w4.cell? ⟨w.heap.size, 1, none⟩ = some (.int .i64 0) := cell_of_row _ _ 1 _ _ _ A4; have z0 := frozen_of_row _ _ 0 _ _ A4; have z1 := frozen_of_row _ _ 1 _ _ A4; have B5 := ((bnext B2 d14).setCell (p := ⟨w.heap.size, 0, none⟩) (Nat.le_refl _) (.int .u8 1)).setCell (p := ⟨w.heap.size, 1, none⟩) (Nat.le_refl _) (.int .i64 (q a2 b2)); have E5 := KC.out _ B5))
  go_wp2_with fail
  exact bodyPost_ret (results_cell_row Tryd.results54 _ _ w.heap.size _ _ _ _ rfl (heap_setCell_same _ _ 1 _ _ _ (heap_setCell_same _ _ 0 _ _ _ A4)) Tryd.underlying24 rfl infoV) rfl ⟨rfl, B5⟩
set_option maxHeartbeats 4000000 in
theorem callII7_any (q : Int → Int → Int) (p1 p2 p3 : Nat) (a b : VT) (bq oq c : Nat) (w : World)
    (h1 : w.cell? ⟨p1, 0, none⟩ = some (fnV 31)) (h2 : w.cell? ⟨p2, 0, none⟩ = some (fnV 40)) (h3 : w.cell? ⟨p3, 0, none⟩ = some (fnV 35))
    (hd : ∀ x y w, Calls Tryd.prog 40 #[.int .i64 x, .int .i64 y] w fun e w' => e = .returned (.int .i64 (q x y)) ∧ w = w')
    (y0 : w.cell? ⟨bq, oq, none⟩ = some (.int .u8 a.1)) (y1 : w.cell? ⟨bq, oq + 1, none⟩ = some (.int .i64 a.2)) (y2 : w.cell? ⟨bq, oq + 2, none⟩ = some (.int .u8 b.1)) (y3 : w.cell? ⟨bq, oq + 2 + 1, none⟩ = some (.int .i64 b.2)) :
    Calls Tryd.prog 54 #[.slice (some ⟨bq, oq, none⟩) 2 c, .pointer (some ⟨p1, 0, none⟩), .pointer (some ⟨p2, 0, none⟩), .pointer (some ⟨p3, 0, none⟩)] w fun e w' => e = .returned (aggV (numV (q a.2 b.2))) ∧ Below w.heap.size w w' := by
  obtain ⟨a1, a2⟩ := a
  obtain ⟨b1, b2⟩ := b
  have B1 := balloc (Below.refl w.heap.size w) (.cells #[.int .u8 0, .int .i64 0] 24)
  have B2 : Below w.heap.size w (w.alloc (.cells #[.int .u8 0, .int .i64 0] 24 (0, 0))).drew := bdraw B1 1
  have KC := Lib.hid (fun (w9 : World) (b9 : Below w.heap.size w w9) =>
    (⟨(b9.cell (World.block_lt_of_cell? _ _ h1)).trans h1, (b9.cell (World.block_lt_of_cell? _ _ h2)).trans h2, (b9.cell (World.block_lt_of_cell? _ _ h3)).trans h3, (b9.cell (World.block_lt_of_cell? _ _ y0)).trans y0, (b9.cell (World.block_lt_of_cell? _ _ y1)).trans y1, (b9.cell (World.block_lt_of_cell? _ _ y2)).trans y2, (b9.cell (World.block_lt_of_cell? _ _ y3)).trans y3⟩ :
      w9.cell? ⟨p1, 0, none⟩ = some (fnV 31) ∧ w9.cell? ⟨p2, 0, none⟩ = some (fnV 40) ∧ w9.cell? ⟨p3, 0, none⟩ = some (fnV 35) ∧ w9.cell? ⟨bq, oq, none⟩ = some (.int .u8 a1) ∧ w9.cell? ⟨bq, oq + 1, none⟩ = some (.int .i64 a2) ∧ w9.cell? ⟨bq, oq + 2, none⟩ = some (.int .u8 b1) ∧ w9.cell? ⟨bq, oq + 2 + 1, none⟩ = some (.int .i64 b2)))
  have E0 := KC.out _ B2
  obtain ⟨x1, x2, x3, x4, x5, x6, x7⟩ := KC.out _ B1
  have HD := Lib.hid hd
  have R1 := Lib.hid (fun w => raw_any (a1, a2) w)
  have R2 := Lib.hid (fun w => raw_any (b1, b2) w)
  have R4 : Hid (∀ (n : Int) w, Calls Tryd.prog 31 #[.int .i64 n] w fun e w' => e = .returned (.agg #[.int .u8 1, .int .i64 (n)]) ∧ Below w.heap.size w w') := Lib.hid (fun n w => number_any n w)
  have A0 := heap_alloc_new w (.cells #[.int .u8 0, .int .i64 0] 24 (0, 0))
  have KA := Lib.hid (fun (w9 : World) (b9 : Below (w.alloc (.cells #[.int .u8 0, .int .i64 0] 24 (0, 0))).drew.heap.size (w.alloc (.cells #[.int .u8 0, .int .i64 0] 24 (0, 0))).drew w9) => (b9.block _ (lt_of_block A0)).trans A0)
  clear A0 h1 h2 h3 y0 y1 y2 y3 hd
  go_enter Tryd.func54, Tryd.ntmps54
  go_wp2_with fail
  go_region_held3 (fun w' => w'.cell? ⟨p1, 0, none⟩ = some (fnV 31) ∧ w'.cell? ⟨p2, 0, none⟩ = some (fnV 40) ∧ w'.cell? ⟨p3, 0, none⟩ = some (fnV 35) ∧ w'.cell? ⟨bq, oq, none⟩ = some (.int .u8 a1) ∧ w'.cell? ⟨bq, oq + 1, none⟩ = some (.int .i64 a2) ∧ w'.cell? ⟨bq, oq + 2, none⟩ = some (.int .u8 b1) ∧ w'.cell? ⟨bq, oq + 2 + 1, none⟩ = some (.int .i64 b2))
    (first | exact E0 | exact E1 | exact E2 | exact E4 | exact E5)
    (first
    | (go_at_call 35; refine Calls.mono (R1.out _) ?_; rintro e w1 ⟨rfl, d1⟩; have E1 := KC.out _ (bnext B2 d1))
    | (go_at_call 35; refine Calls.mono (R2.out _) ?_; rintro e w2 ⟨rfl, d2⟩; have d12 := bnext d1 d2; have E2 := KC.out _ (bnext B2 d12))
    | (go_at_call 40; refine Calls.mono (HD.out _ _ _) ?_; rintro e w3 ⟨rfl, rfl⟩)
    | (go_at_call 31; refine Calls.mono (R4.out _ _) ?_; rintro e w4 ⟨rfl, d4⟩; have d14 := bnext d12 d4; have E4 := KC.out _ (bnext B2 d14); have A4 := KA.out _ d14; have c0 : w4.cell? ⟨w.heap.size, 0, none⟩ = some (.int .u8 0) := cell_of_row _ _ 0 _ _ _ A4; have c1 : w4.cell? ⟨w.heap.size, 1, none⟩ = some (.int .i64 0) := cell_of_row _ _ 1 _ _ _ A4; have z0 := frozen_of_row _ _ 0 _ _ A4; have z1 := frozen_of_row _ _ 1 _ _ A4; have B5 := ((bnext B2 d14).setCell (p := ⟨w.heap.size, 0, none⟩) (Nat.le_refl _) (.int .u8 1)).setCell (p := ⟨w.heap.size, 1, none⟩) (Nat.le_refl _) (.int .i64 (q a2 b2)); have E5 := KC.out _ B5))
  go_wp2_with fail
  exact bodyPost_ret (results_cell_row Tryd.results54 _ _ w.heap.size _ _ _ _ rfl (heap_setCell_same _ _ 1 _ _ _ (heap_setCell_same _ _ 0 _ _ _ A4)) Tryd.underlying24 rfl infoV) rfl ⟨rfl, B5⟩
theorem twoIB_any (o : Int) (f g h : Nat) (w : World) : Calls Tryd.prog 41 #[.int .u8 o, fnV f, fnV g, fnV h] w fun e w' =>
    e = .returned (deedV 2 o (.func (.func 55) #[] #[.pointer (some ⟨w.heap.size + 1, 0, none⟩), .pointer (some ⟨w.heap.size + 1 + 1, 0, none⟩), .pointer (some ⟨w.heap.size, 0, none⟩)])) ∧
    Below w.heap.size w w' ∧ w'.cell? ⟨w.heap.size, 0, none⟩ = some (fnV f) ∧ w'.cell? ⟨w.heap.size + 1, 0, none⟩ = some (fnV g) ∧ w'.cell? ⟨w.heap.size + 1 + 1, 0, none⟩ = some (fnV h) := by
  go_enter Tryd.func41, Tryd.ntmps41
  go_wp2_with fail
  refine bodyPost_ret (results_cell_row Tryd.results41 _ _ (w.heap.size + 1 + 1 + 1) _ _ _ _ rfl (heap_alloc_at _ _ _ (by simp)) Tryd.underlying47 rfl infoD) rfl ⟨rfl, balloc (balloc (balloc (balloc (Below.refl _ _) _) _) _) _, ?_, ?_, ?_⟩
  · exact cell_up (cell_up (cell_up (cell_newAt _ _ _ _ rfl)))
  · exact cell_up (cell_up (cell_newAt _ _ _ _ (by simp)))
  · exact cell_up (cell_newAt _ _ _ _ (by simp))
set_option maxHeartbeats 4000000 in
theorem callIB8_any (q : Int → Int → Bool) (p1 p2 p3 : Nat) (a b : VT) (bq oq c : Nat) (w : World)
    (h1 : w.cell? ⟨p1, 0, none⟩ = some (fnV 33)) (h2 : w.cell? ⟨p2, 0, none⟩ = some (fnV 42)) (h3 : w.cell? ⟨p3, 0, none⟩ = some (fnV 35))
    (hd : ∀ x y w, Calls Tryd.prog 42 #[.int .i64 x, .int .i64 y] w fun e w' => e = .returned (.bool (q x y)) ∧ w = w')
    (y0 : w.cell? ⟨bq, oq, none⟩ = some (.int .u8 a.1)) (y1 : w.cell? ⟨bq, oq + 1, none⟩ = some (.int .i64 a.2)) (y2 : w.cell? ⟨bq, oq + 2, none⟩ = some (.int .u8 b.1)) (y3 : w.cell? ⟨bq, oq + 2 + 1, none⟩ = some (.int .i64 b.2)) :
    Calls Tryd.prog 55 #[.slice (some ⟨bq, oq, none⟩) 2 c, .pointer (some ⟨p1, 0, none⟩), .pointer (some ⟨p2, 0, none⟩), .pointer (some ⟨p3, 0, none⟩)] w fun e w' => e = .returned (aggV (yesV (q a.2 b.2))) ∧ Below w.heap.size w w' := by
  obtain ⟨a1, a2⟩ := a
  obtain ⟨b1, b2⟩ := b
  have B1 := balloc (Below.refl w.heap.size w) (.cells #[.int .u8 0, .int .i64 0] 24)
  have B2 : Below w.heap.size w (w.alloc (.cells #[.int .u8 0, .int .i64 0] 24 (0, 0))).drew := bdraw B1 1
  have KC := Lib.hid (fun (w9 : World) (b9 : Below w.heap.size w w9) =>
    (⟨(b9.cell (World.block_lt_of_cell? _ _ h1)).trans h1, (b9.cell (World.block_lt_of_cell? _ _ h2)).trans h2, (b9.cell (World.block_lt_of_cell? _ _ h3)).trans h3, (b9.cell (World.block_lt_of_cell? _ _ y0)).trans y0, (b9.cell (World.block_lt_of_cell? _ _ y1)).trans y1, (b9.cell (World.block_lt_of_cell? _ _ y2)).trans y2, (b9.cell (World.block_lt_of_cell? _ _ y3)).trans y3⟩ :
      w9.cell? ⟨p1, 0, none⟩ = some (fnV 33) ∧ w9.cell? ⟨p2, 0, none⟩ = some (fnV 42) ∧ w9.cell? ⟨p3, 0, none⟩ = some (fnV 35) ∧ w9.cell? ⟨bq, oq, none⟩ = some (.int .u8 a1) ∧ w9.cell? ⟨bq, oq + 1, none⟩ = some (.int .i64 a2) ∧ w9.cell? ⟨bq, oq + 2, none⟩ = some (.int .u8 b1) ∧ w9.cell? ⟨bq, oq + 2 + 1, none⟩ = some (.int .i64 b2)))
  have E0 := KC.out _ B2
  obtain ⟨x1, x2, x3, x4, x5, x6, x7⟩ := KC.out _ B1
  have HD := Lib.hid hd
  have R1 := Lib.hid (fun w => raw_any (a1, a2) w)
  have R2 := Lib.hid (fun w => raw_any (b1, b2) w)
  have R4 : Hid (∀ (n : Bool) w, Calls Tryd.prog 33 #[.bool n] w fun e w' => e = .returned (.agg #[.int .u8 2, .int .i64 (boolI n)]) ∧ Below w.heap.size w w') := Lib.hid (fun n w => yes_any n w)
  have A0 := heap_alloc_new w (.cells #[.int .u8 0, .int .i64 0] 24 (0, 0))
  have KA := Lib.hid (fun (w9 : World) (b9 : Below (w.alloc (.cells #[.int .u8 0, .int .i64 0] 24 (0, 0))).drew.heap.size (w.alloc (.cells #[.int .u8 0, .int .i64 0] 24 (0, 0))).drew w9) => (b9.block _ (lt_of_block A0)).trans A0)
  clear A0 h1 h2 h3 y0 y1 y2 y3 hd
  go_enter Tryd.func55, Tryd.ntmps55
  go_wp2_with fail
  go_region_held3 (fun w' => w'.cell? ⟨p1, 0, none⟩ = some (fnV 33) ∧ w'.cell? ⟨p2, 0, none⟩ = some (fnV 42) ∧ w'.cell? ⟨p3, 0, none⟩ = some (fnV 35) ∧ w'.cell? ⟨bq, oq, none⟩ = some (.int .u8 a1) ∧ w'.cell? ⟨bq, oq + 1, none⟩ = some (.int .i64 a2) ∧ w'.cell? ⟨bq, oq + 2, none⟩ = some (.int .u8 b1) ∧ w'.cell? ⟨bq, oq + 2 + 1, none⟩ = some (.int .i64 b2))
    (first | exact E0 | exact E1 | exact E2 | exact E4 | exact E5)
    (first
    | (go_at_call 35; refine Calls.mono (R1.out _) ?_; rintro e w1 ⟨rfl, d1⟩; have E1 := KC.out _ (bnext B2 d1))
    | (go_at_call 35; refine Calls.mono (R2.out _) ?_; rintro e w2 ⟨rfl, d2⟩; have d12 := bnext d1 d2; have E2 := KC.out _ (bnext B2 d12))
    | (go_at_call 42; refine Calls.mono (HD.out _ _ _) ?_; rintro e w3 ⟨rfl, rfl⟩)
    | (go_at_call 33; refine Calls.mono (R4.out _ _) ?_; rintro e w4 ⟨rfl, d4⟩; have d14 := bnext d12 d4; have E4 := KC.out _ (bnext B2 d14); have A4 := KA.out _ d14; have c0 : w4.cell? ⟨w.heap.size, 0, none⟩ = some (.int .u8 0) := cell_of_row _ _ 0 _ _ _ A4; have c1 : w4.cell? ⟨w.heap.size, 1, none⟩ = some (.int .i64 0) := cell_of_row _ _ 1 _ _ _ A4; have z0 := frozen_of_row _ _ 0 _ _ A4; have z1 := frozen_of_row _ _ 1 _ _ A4; have B5 := ((bnext B2 d14).setCell (p := ⟨w.heap.size, 0, none⟩) (Nat.le_refl _) (.int .u8 2)).setCell (p := ⟨w.heap.size, 1, none⟩) (Nat.le_refl _) (.int .i64 (boolI (q a2 b2))); have E5 := KC.out _ B5))
  go_wp2_with fail
  exact bodyPost_ret (results_cell_row Tryd.results55 _ _ w.heap.size _ _ _ _ rfl (heap_setCell_same _ _ 1 _ _ _ (heap_setCell_same _ _ 0 _ _ _ A4)) Tryd.underlying24 rfl infoV) rfl ⟨rfl, B5⟩
set_option maxHeartbeats 4000000 in
theorem callIB9_any (q : Int → Int → Bool) (p1 p2 p3 : Nat) (a b : VT) (bq oq c : Nat) (w : World)
    (h1 : w.cell? ⟨p1, 0, none⟩ = some (fnV 33)) (h2 : w.cell? ⟨p2, 0, none⟩ = some (fnV 43)) (h3 : w.cell? ⟨p3, 0, none⟩ = some (fnV 35))
    (hd : ∀ x y w, Calls Tryd.prog 43 #[.int .i64 x, .int .i64 y] w fun e w' => e = .returned (.bool (q x y)) ∧ w = w')
    (y0 : w.cell? ⟨bq, oq, none⟩ = some (.int .u8 a.1)) (y1 : w.cell? ⟨bq, oq + 1, none⟩ = some (.int .i64 a.2)) (y2 : w.cell? ⟨bq, oq + 2, none⟩ = some (.int .u8 b.1)) (y3 : w.cell? ⟨bq, oq + 2 + 1, none⟩ = some (.int .i64 b.2)) :
    Calls Tryd.prog 55 #[.slice (some ⟨bq, oq, none⟩) 2 c, .pointer (some ⟨p1, 0, none⟩), .pointer (some ⟨p2, 0, none⟩), .pointer (some ⟨p3, 0, none⟩)] w fun e w' => e = .returned (aggV (yesV (q a.2 b.2))) ∧ Below w.heap.size w w' := by
  obtain ⟨a1, a2⟩ := a
  obtain ⟨b1, b2⟩ := b
  have B1 := balloc (Below.refl w.heap.size w) (.cells #[.int .u8 0, .int .i64 0] 24)
  have B2 : Below w.heap.size w (w.alloc (.cells #[.int .u8 0, .int .i64 0] 24 (0, 0))).drew := bdraw B1 1
  have KC := Lib.hid (fun (w9 : World) (b9 : Below w.heap.size w w9) =>
    (⟨(b9.cell (World.block_lt_of_cell? _ _ h1)).trans h1, (b9.cell (World.block_lt_of_cell? _ _ h2)).trans h2, (b9.cell (World.block_lt_of_cell? _ _ h3)).trans h3, (b9.cell (World.block_lt_of_cell? _ _ y0)).trans y0, (b9.cell (World.block_lt_of_cell? _ _ y1)).trans y1, (b9.cell (World.block_lt_of_cell? _ _ y2)).trans y2, (b9.cell (World.block_lt_of_cell? _ _ y3)).trans y3⟩ :
      w9.cell? ⟨p1, 0, none⟩ = some (fnV 33) ∧ w9.cell? ⟨p2, 0, none⟩ = some (fnV 43) ∧ w9.cell? ⟨p3, 0, none⟩ = some (fnV 35) ∧ w9.cell? ⟨bq, oq, none⟩ = some (.int .u8 a1) ∧ w9.cell? ⟨bq, oq + 1, none⟩ = some (.int .i64 a2) ∧ w9.cell? ⟨bq, oq + 2, none⟩ = some (.int .u8 b1) ∧ w9.cell? ⟨bq, oq + 2 + 1, none⟩ = some (.int .i64 b2)))
  have E0 := KC.out _ B2
  obtain ⟨x1, x2, x3, x4, x5, x6, x7⟩ := KC.out _ B1
  have HD := Lib.hid hd
  have R1 := Lib.hid (fun w => raw_any (a1, a2) w)
  have R2 := Lib.hid (fun w => raw_any (b1, b2) w)
  have R4 : Hid (∀ (n : Bool) w, Calls Tryd.prog 33 #[.bool n] w fun e w' => e = .returned (.agg #[.int .u8 2, .int .i64 (boolI n)]) ∧ Below w.heap.size w w') := Lib.hid (fun n w => yes_any n w)
  have A0 := heap_alloc_new w (.cells #[.int .u8 0, .int .i64 0] 24 (0, 0))
  have KA := Lib.hid (fun (w9 : World) (b9 : Below (w.alloc (.cells #[.int .u8 0, .int .i64 0] 24 (0, 0))).drew.heap.size (w.alloc (.cells #[.int .u8 0, .int .i64 0] 24 (0, 0))).drew w9) => (b9.block _ (lt_of_block A0)).trans A0)
  clear A0 h1 h2 h3 y0 y1 y2 y3 hd
  go_enter Tryd.func55, Tryd.ntmps55
  go_wp2_with fail
  go_region_held3 (fun w' => w'.cell? ⟨p1, 0, none⟩ = some (fnV 33) ∧ w'.cell? ⟨p2, 0, none⟩ = some (fnV 43) ∧ w'.cell? ⟨p3, 0, none⟩ = some (fnV 35) ∧ w'.cell? ⟨bq, oq, none⟩ = some (.int .u8 a1) ∧ w'.cell? ⟨bq, oq + 1, none⟩ = some (.int .i64 a2) ∧ w'.cell? ⟨bq, oq + 2, none⟩ = some (.int .u8 b1) ∧ w'.cell? ⟨bq, oq + 2 + 1, none⟩ = some (.int .i64 b2))
    (first | exact E0 | exact E1 | exact E2 | exact E4 | exact E5)
    (first
    | (go_at_call 35; refine Calls.mono (R1.out _) ?_; rintro e w1 ⟨rfl, d1⟩; have E1 := KC.out _ (bnext B2 d1))
    | (go_at_call 35; refine Calls.mono (R2.out _) ?_; rintro e w2 ⟨rfl, d2⟩; have d12 := bnext d1 d2; have E2 := KC.out _ (bnext B2 d12))
    | (go_at_call 43; refine Calls.mono (HD.out _ _ _) ?_; rintro e w3 ⟨rfl, rfl⟩)
    | (go_at_call 33; refine Calls.mono (R4.out _ _) ?_; rintro e w4 ⟨rfl, d4⟩; have d14 := bnext d12 d4; have E4 := KC.out _ (bnext B2 d14); have A4 := KA.out _ d14; have c0 : w4.cell? ⟨w.heap.size, 0, none⟩ = some (.int .u8 0) := cell_of_row _ _ 0 _ _ _ A4; have c1 : w4.cell? ⟨w.heap.size, 1, none⟩ = some (.int .i64 0) := cell_of_row _ _ 1 _ _ _ A4; have z0 := frozen_of_row _ _ 0 _ _ A4; have z1 := frozen_of_row _ _ 1 _ _ A4; have B5 := ((bnext B2 d14).setCell (p := ⟨w.heap.size, 0, none⟩) (Nat.le_refl _) (.int .u8 2)).setCell (p := ⟨w.heap.size, 1, none⟩) (Nat.le_refl _) (.int .i64 (boolI (q a2 b2))); have E5 := KC.out _ B5))
  go_wp2_with fail
  exact bodyPost_ret (results_cell_row Tryd.results55 _ _ w.heap.size _ _ _ _ rfl (heap_setCell_same _ _ 1 _ _ _ (heap_setCell_same _ _ 0 _ _ _ A4)) Tryd.underlying24 rfl infoV) rfl ⟨rfl, B5⟩
set_option maxHeartbeats 4000000 in
theorem callIB10_any (q : Int → Int → Bool) (p1 p2 p3 : Nat) (a b : VT) (bq oq c : Nat) (w : World)
    (h1 : w.cell? ⟨p1, 0, none⟩ = some (fnV 33)) (h2 : w.cell? ⟨p2, 0, none⟩ = some (fnV 44)) (h3 : w.cell? ⟨p3, 0, none⟩ = some (fnV 35))
    (hd : ∀ x y w, Calls Tryd.prog 44 #[.int .i64 x, .int .i64 y] w fun e w' => e = .returned (.bool (q x y)) ∧ w = w')
    (y0 : w.cell? ⟨bq, oq, none⟩ = some (.int .u8 a.1)) (y1 : w.cell? ⟨bq, oq + 1, none⟩ = some (.int .i64 a.2)) (y2 : w.cell? ⟨bq, oq + 2, none⟩ = some (.int .u8 b.1)) (y3 : w.cell? ⟨bq, oq + 2 + 1, none⟩ = some (.int .i64 b.2)) :
    Calls Tryd.prog 55 #[.slice (some ⟨bq, oq, none⟩) 2 c, .pointer (some ⟨p1, 0, none⟩), .pointer (some ⟨p2, 0, none⟩), .pointer (some ⟨p3, 0, none⟩)] w fun e w' => e = .returned (aggV (yesV (q a.2 b.2))) ∧ Below w.heap.size w w' := by
  obtain ⟨a1, a2⟩ := a
  obtain ⟨b1, b2⟩ := b
  have B1 := balloc (Below.refl w.heap.size w) (.cells #[.int .u8 0, .int .i64 0] 24)
  have B2 : Below w.heap.size w (w.alloc (.cells #[.int .u8 0, .int .i64 0] 24 (0, 0))).drew := bdraw B1 1
  have KC := Lib.hid (fun (w9 : World) (b9 : Below w.heap.size w w9) =>
    (⟨(b9.cell (World.block_lt_of_cell? _ _ h1)).trans h1, (b9.cell (World.block_lt_of_cell? _ _ h2)).trans h2, (b9.cell (World.block_lt_of_cell? _ _ h3)).trans h3, (b9.cell (World.block_lt_of_cell? _ _ y0)).trans y0, (b9.cell (World.block_lt_of_cell? _ _ y1)).trans y1, (b9.cell (World.block_lt_of_cell? _ _ y2)).trans y2, (b9.cell (World.block_lt_of_cell? _ _ y3)).trans y3⟩ :
      w9.cell? ⟨p1, 0, none⟩ = some (fnV 33) ∧ w9.cell? ⟨p2, 0, none⟩ = some (fnV 44) ∧ w9.cell? ⟨p3, 0, none⟩ = some (fnV 35) ∧ w9.cell? ⟨bq, oq, none⟩ = some (.int .u8 a1) ∧ w9.cell? ⟨bq, oq + 1, none⟩ = some (.int .i64 a2) ∧ w9.cell? ⟨bq, oq + 2, none⟩ = some (.int .u8 b1) ∧ w9.cell? ⟨bq, oq + 2 + 1, none⟩ = some (.int .i64 b2)))
  have E0 := KC.out _ B2
  obtain ⟨x1, x2, x3, x4, x5, x6, x7⟩ := KC.out _ B1
  have HD := Lib.hid hd
  have R1 := Lib.hid (fun w => raw_any (a1, a2) w)
  have R2 := Lib.hid (fun w => raw_any (b1, b2) w)
  have R4 : Hid (∀ (n : Bool) w, Calls Tryd.prog 33 #[.bool n] w fun e w' => e = .returned (.agg #[.int .u8 2, .int .i64 (boolI n)]) ∧ Below w.heap.size w w') := Lib.hid (fun n w => yes_any n w)
  have A0 := heap_alloc_new w (.cells #[.int .u8 0, .int .i64 0] 24 (0, 0))
  have KA := Lib.hid (fun (w9 : World) (b9 : Below (w.alloc (.cells #[.int .u8 0, .int .i64 0] 24 (0, 0))).drew.heap.size (w.alloc (.cells #[.int .u8 0, .int .i64 0] 24 (0, 0))).drew w9) => (b9.block _ (lt_of_block A0)).trans A0)
  clear A0 h1 h2 h3 y0 y1 y2 y3 hd
  go_enter Tryd.func55, Tryd.ntmps55
  go_wp2_with fail
  go_region_held3 (fun w' => w'.cell? ⟨p1, 0, none⟩ = some (fnV 33) ∧ w'.cell? ⟨p2, 0, none⟩ = some (fnV 44) ∧ w'.cell? ⟨p3, 0, none⟩ = some (fnV 35) ∧ w'.cell? ⟨bq, oq, none⟩ = some (.int .u8 a1) ∧ w'.cell? ⟨bq, oq + 1, none⟩ = some (.int .i64 a2) ∧ w'.cell? ⟨bq, oq + 2, none⟩ = some (.int .u8 b1) ∧ w'.cell? ⟨bq, oq + 2 + 1, none⟩ = some (.int .i64 b2))
    (first | exact E0 | exact E1 | exact E2 | exact E4 | exact E5)
    (first
    | (go_at_call 35; refine Calls.mono (R1.out _) ?_; rintro e w1 ⟨rfl, d1⟩; have E1 := KC.out _ (bnext B2 d1))
    | (go_at_call 35; refine Calls.mono (R2.out _) ?_; rintro e w2 ⟨rfl, d2⟩; have d12 := bnext d1 d2; have E2 := KC.out _ (bnext B2 d12))
    | (go_at_call 44; refine Calls.mono (HD.out _ _ _) ?_; rintro e w3 ⟨rfl, rfl⟩)
    | (go_at_call 33; refine Calls.mono (R4.out _ _) ?_; rintro e w4 ⟨rfl, d4⟩; have d14 := bnext d12 d4; have E4 := KC.out _ (bnext B2 d14); have A4 := KA.out _ d14; have c0 : w4.cell? ⟨w.heap.size, 0, none⟩ = some (.int .u8 0) := cell_of_row _ _ 0 _ _ _ A4; have c1 : w4.cell? ⟨w.heap.size, 1, none⟩ = some (.int .i64 0) := cell_of_row _ _ 1 _ _ _ A4; have z0 := frozen_of_row _ _ 0 _ _ A4; have z1 := frozen_of_row _ _ 1 _ _ A4; have B5 := ((bnext B2 d14).setCell (p := ⟨w.heap.size, 0, none⟩) (Nat.le_refl _) (.int .u8 2)).setCell (p := ⟨w.heap.size, 1, none⟩) (Nat.le_refl _) (.int .i64 (boolI (q a2 b2))); have E5 := KC.out _ B5))
  go_wp2_with fail
  exact bodyPost_ret (results_cell_row Tryd.results55 _ _ w.heap.size _ _ _ _ rfl (heap_setCell_same _ _ 1 _ _ _ (heap_setCell_same _ _ 0 _ _ _ A4)) Tryd.underlying24 rfl infoV) rfl ⟨rfl, B5⟩
set_option maxHeartbeats 4000000 in
theorem callIB11_any (q : Int → Int → Bool) (p1 p2 p3 : Nat) (a b : VT) (bq oq c : Nat) (w : World)
    (h1 : w.cell? ⟨p1, 0, none⟩ = some (fnV 33)) (h2 : w.cell? ⟨p2, 0, none⟩ = some (fnV 45)) (h3 : w.cell? ⟨p3, 0, none⟩ = some (fnV 35))
    (hd : ∀ x y w, Calls Tryd.prog 45 #[.int .i64 x, .int .i64 y] w fun e w' => e = .returned (.bool (q x y)) ∧ w = w')
    (y0 : w.cell? ⟨bq, oq, none⟩ = some (.int .u8 a.1)) (y1 : w.cell? ⟨bq, oq + 1, none⟩ = some (.int .i64 a.2)) (y2 : w.cell? ⟨bq, oq + 2, none⟩ = some (.int .u8 b.1)) (y3 : w.cell? ⟨bq, oq + 2 + 1, none⟩ = some (.int .i64 b.2)) :
    Calls Tryd.prog 55 #[.slice (some ⟨bq, oq, none⟩) 2 c, .pointer (some ⟨p1, 0, none⟩), .pointer (some ⟨p2, 0, none⟩), .pointer (some ⟨p3, 0, none⟩)] w fun e w' => e = .returned (aggV (yesV (q a.2 b.2))) ∧ Below w.heap.size w w' := by
  obtain ⟨a1, a2⟩ := a
  obtain ⟨b1, b2⟩ := b
  have B1 := balloc (Below.refl w.heap.size w) (.cells #[.int .u8 0, .int .i64 0] 24)
  have B2 : Below w.heap.size w (w.alloc (.cells #[.int .u8 0, .int .i64 0] 24 (0, 0))).drew := bdraw B1 1
  have KC := Lib.hid (fun (w9 : World) (b9 : Below w.heap.size w w9) =>
    (⟨(b9.cell (World.block_lt_of_cell? _ _ h1)).trans h1, (b9.cell (World.block_lt_of_cell? _ _ h2)).trans h2, (b9.cell (World.block_lt_of_cell? _ _ h3)).trans h3, (b9.cell (World.block_lt_of_cell? _ _ y0)).trans y0, (b9.cell (World.block_lt_of_cell? _ _ y1)).trans y1, (b9.cell (World.block_lt_of_cell? _ _ y2)).trans y2, (b9.cell (World.block_lt_of_cell? _ _ y3)).trans y3⟩ :
      w9.cell? ⟨p1, 0, none⟩ = some (fnV 33) ∧ w9.cell? ⟨p2, 0, none⟩ = some (fnV 45) ∧ w9.cell? ⟨p3, 0, none⟩ = some (fnV 35) ∧ w9.cell? ⟨bq, oq, none⟩ = some (.int .u8 a1) ∧ w9.cell? ⟨bq, oq + 1, none⟩ = some (.int .i64 a2) ∧ w9.cell? ⟨bq, oq + 2, none⟩ = some (.int .u8 b1) ∧ w9.cell? ⟨bq, oq + 2 + 1, none⟩ = some (.int .i64 b2)))
  have E0 := KC.out _ B2
  obtain ⟨x1, x2, x3, x4, x5, x6, x7⟩ := KC.out _ B1
  have HD := Lib.hid hd
  have R1 := Lib.hid (fun w => raw_any (a1, a2) w)
  have R2 := Lib.hid (fun w => raw_any (b1, b2) w)
  have R4 : Hid (∀ (n : Bool) w, Calls Tryd.prog 33 #[.bool n] w fun e w' => e = .returned (.agg #[.int .u8 2, .int .i64 (boolI n)]) ∧ Below w.heap.size w w') := Lib.hid (fun n w => yes_any n w)
  have A0 := heap_alloc_new w (.cells #[.int .u8 0, .int .i64 0] 24 (0, 0))
  have KA := Lib.hid (fun (w9 : World) (b9 : Below (w.alloc (.cells #[.int .u8 0, .int .i64 0] 24 (0, 0))).drew.heap.size (w.alloc (.cells #[.int .u8 0, .int .i64 0] 24 (0, 0))).drew w9) => (b9.block _ (lt_of_block A0)).trans A0)
  clear A0 h1 h2 h3 y0 y1 y2 y3 hd
  go_enter Tryd.func55, Tryd.ntmps55
  go_wp2_with fail
  go_region_held3 (fun w' => w'.cell? ⟨p1, 0, none⟩ = some (fnV 33) ∧ w'.cell? ⟨p2, 0, none⟩ = some (fnV 45) ∧ w'.cell? ⟨p3, 0, none⟩ = some (fnV 35) ∧ w'.cell? ⟨bq, oq, none⟩ = some (.int .u8 a1) ∧ w'.cell? ⟨bq, oq + 1, none⟩ = some (.int .i64 a2) ∧ w'.cell? ⟨bq, oq + 2, none⟩ = some (.int .u8 b1) ∧ w'.cell? ⟨bq, oq + 2 + 1, none⟩ = some (.int .i64 b2))
    (first | exact E0 | exact E1 | exact E2 | exact E4 | exact E5)
    (first
    | (go_at_call 35; refine Calls.mono (R1.out _) ?_; rintro e w1 ⟨rfl, d1⟩; have E1 := KC.out _ (bnext B2 d1))
    | (go_at_call 35; refine Calls.mono (R2.out _) ?_; rintro e w2 ⟨rfl, d2⟩; have d12 := bnext d1 d2; have E2 := KC.out _ (bnext B2 d12))
    | (go_at_call 45; refine Calls.mono (HD.out _ _ _) ?_; rintro e w3 ⟨rfl, rfl⟩)
    | (go_at_call 33; refine Calls.mono (R4.out _ _) ?_; rintro e w4 ⟨rfl, d4⟩; have d14 := bnext d12 d4; have E4 := KC.out _ (bnext B2 d14); have A4 := KA.out _ d14; have c0 : w4.cell? ⟨w.heap.size, 0, none⟩ = some (.int .u8 0) := cell_of_row _ _ 0 _ _ _ A4; have c1 : w4.cell? ⟨w.heap.size, 1, none⟩ = some (.int .i64 0) := cell_of_row _ _ 1 _ _ _ A4; have z0 := frozen_of_row _ _ 0 _ _ A4; have z1 := frozen_of_row _ _ 1 _ _ A4; have B5 := ((bnext B2 d14).setCell (p := ⟨w.heap.size, 0, none⟩) (Nat.le_refl _) (.int .u8 2)).setCell (p := ⟨w.heap.size, 1, none⟩) (Nat.le_refl _) (.int .i64 (boolI (q a2 b2))); have E5 := KC.out _ B5))
  go_wp2_with fail
  exact bodyPost_ret (results_cell_row Tryd.results55 _ _ w.heap.size _ _ _ _ rfl (heap_setCell_same _ _ 1 _ _ _ (heap_setCell_same _ _ 0 _ _ _ A4)) Tryd.underlying24 rfl infoV) rfl ⟨rfl, B5⟩
theorem twoBB_any (o : Int) (f g h : Nat) (w : World) : Calls Tryd.prog 46 #[.int .u8 o, fnV f, fnV g, fnV h] w fun e w' =>
    e = .returned (deedV 2 o (.func (.func 56) #[] #[.pointer (some ⟨w.heap.size + 1, 0, none⟩), .pointer (some ⟨w.heap.size + 1 + 1, 0, none⟩), .pointer (some ⟨w.heap.size, 0, none⟩)])) ∧
    Below w.heap.size w w' ∧ w'.cell? ⟨w.heap.size, 0, none⟩ = some (fnV f) ∧ w'.cell? ⟨w.heap.size + 1, 0, none⟩ = some (fnV g) ∧ w'.cell? ⟨w.heap.size + 1 + 1, 0, none⟩ = some (fnV h) := by
  go_enter Tryd.func46, Tryd.ntmps46
  go_wp2_with fail
  refine bodyPost_ret (results_cell_row Tryd.results46 _ _ (w.heap.size + 1 + 1 + 1) _ _ _ _ rfl (heap_alloc_at _ _ _ (by simp)) Tryd.underlying47 rfl infoD) rfl ⟨rfl, balloc (balloc (balloc (balloc (Below.refl _ _) _) _) _) _, ?_, ?_, ?_⟩
  · exact cell_up (cell_up (cell_up (cell_newAt _ _ _ _ rfl)))
  · exact cell_up (cell_up (cell_newAt _ _ _ _ (by simp)))
  · exact cell_up (cell_newAt _ _ _ _ (by simp))
set_option maxHeartbeats 4000000 in
theorem callBB12_any (q : Bool → Bool → Bool) (p1 p2 p3 : Nat) (a b : VT) (bq oq c : Nat) (w : World)
    (h1 : w.cell? ⟨p1, 0, none⟩ = some (fnV 33)) (h2 : w.cell? ⟨p2, 0, none⟩ = some (fnV 47)) (h3 : w.cell? ⟨p3, 0, none⟩ = some (fnV 20))
    (hd : ∀ x y w, Calls Tryd.prog 47 #[.bool x, .bool y] w fun e w' => e = .returned (.bool (q x y)) ∧ w = w')
    (y0 : w.cell? ⟨bq, oq, none⟩ = some (.int .u8 a.1)) (y1 : w.cell? ⟨bq, oq + 1, none⟩ = some (.int .i64 a.2)) (y2 : w.cell? ⟨bq, oq + 2, none⟩ = some (.int .u8 b.1)) (y3 : w.cell? ⟨bq, oq + 2 + 1, none⟩ = some (.int .i64 b.2)) :
    Calls Tryd.prog 56 #[.slice (some ⟨bq, oq, none⟩) 2 c, .pointer (some ⟨p1, 0, none⟩), .pointer (some ⟨p2, 0, none⟩), .pointer (some ⟨p3, 0, none⟩)] w fun e w' => e = .returned (aggV (yesV (q (a.2 == 1) (b.2 == 1)))) ∧ Below w.heap.size w w' := by
  obtain ⟨a1, a2⟩ := a
  obtain ⟨b1, b2⟩ := b
  have B1 := balloc (Below.refl w.heap.size w) (.cells #[.int .u8 0, .int .i64 0] 24)
  have B2 : Below w.heap.size w (w.alloc (.cells #[.int .u8 0, .int .i64 0] 24 (0, 0))).drew := bdraw B1 1
  have KC := Lib.hid (fun (w9 : World) (b9 : Below w.heap.size w w9) =>
    (⟨(b9.cell (World.block_lt_of_cell? _ _ h1)).trans h1, (b9.cell (World.block_lt_of_cell? _ _ h2)).trans h2, (b9.cell (World.block_lt_of_cell? _ _ h3)).trans h3, (b9.cell (World.block_lt_of_cell? _ _ y0)).trans y0, (b9.cell (World.block_lt_of_cell? _ _ y1)).trans y1, (b9.cell (World.block_lt_of_cell? _ _ y2)).trans y2, (b9.cell (World.block_lt_of_cell? _ _ y3)).trans y3⟩ :
      w9.cell? ⟨p1, 0, none⟩ = some (fnV 33) ∧ w9.cell? ⟨p2, 0, none⟩ = some (fnV 47) ∧ w9.cell? ⟨p3, 0, none⟩ = some (fnV 20) ∧ w9.cell? ⟨bq, oq, none⟩ = some (.int .u8 a1) ∧ w9.cell? ⟨bq, oq + 1, none⟩ = some (.int .i64 a2) ∧ w9.cell? ⟨bq, oq + 2, none⟩ = some (.int .u8 b1) ∧ w9.cell? ⟨bq, oq + 2 + 1, none⟩ = some (.int .i64 b2)))
  have E0 := KC.out _ B2
  obtain ⟨x1, x2, x3, x4, x5, x6, x7⟩ := KC.out _ B1
  have HD := Lib.hid hd
  have R1 := Lib.hid (fun w => is_any (a1, a2) w)
  have R2 := Lib.hid (fun w => is_any (b1, b2) w)
  have R4 : Hid (∀ (n : Bool) w, Calls Tryd.prog 33 #[.bool n] w fun e w' => e = .returned (.agg #[.int .u8 2, .int .i64 (boolI n)]) ∧ Below w.heap.size w w') := Lib.hid (fun n w => yes_any n w)
  have A0 := heap_alloc_new w (.cells #[.int .u8 0, .int .i64 0] 24 (0, 0))
  have KA := Lib.hid (fun (w9 : World) (b9 : Below (w.alloc (.cells #[.int .u8 0, .int .i64 0] 24 (0, 0))).drew.heap.size (w.alloc (.cells #[.int .u8 0, .int .i64 0] 24 (0, 0))).drew w9) => (b9.block _ (lt_of_block A0)).trans A0)
  clear A0 h1 h2 h3 y0 y1 y2 y3 hd
  go_enter Tryd.func56, Tryd.ntmps56
  go_wp2_with fail
  go_region_held3 (fun w' => w'.cell? ⟨p1, 0, none⟩ = some (fnV 33) ∧ w'.cell? ⟨p2, 0, none⟩ = some (fnV 47) ∧ w'.cell? ⟨p3, 0, none⟩ = some (fnV 20) ∧ w'.cell? ⟨bq, oq, none⟩ = some (.int .u8 a1) ∧ w'.cell? ⟨bq, oq + 1, none⟩ = some (.int .i64 a2) ∧ w'.cell? ⟨bq, oq + 2, none⟩ = some (.int .u8 b1) ∧ w'.cell? ⟨bq, oq + 2 + 1, none⟩ = some (.int .i64 b2))
    (first | exact E0 | exact E1 | exact E2 | exact E4 | exact E5)
    (first
    | (go_at_call 20; refine Calls.mono (R1.out _) ?_; rintro e w1 ⟨rfl, d1⟩; have E1 := KC.out _ (bnext B2 d1))
    | (go_at_call 20; refine Calls.mono (R2.out _) ?_; rintro e w2 ⟨rfl, d2⟩; have d12 := bnext d1 d2; have E2 := KC.out _ (bnext B2 d12))
    | (go_at_call 47; refine Calls.mono (HD.out _ _ _) ?_; rintro e w3 ⟨rfl, rfl⟩)
    | (go_at_call 33; refine Calls.mono (R4.out _ _) ?_; rintro e w4 ⟨rfl, d4⟩; have d14 := bnext d12 d4; have E4 := KC.out _ (bnext B2 d14); have A4 := KA.out _ d14; have c0 : w4.cell? ⟨w.heap.size, 0, none⟩ = some (.int .u8 0) := cell_of_row _ _ 0 _ _ _ A4; have c1 : w4.cell? ⟨w.heap.size, 1, none⟩ = some (.int .i64 0) := cell_of_row _ _ 1 _ _ _ A4; have z0 := frozen_of_row _ _ 0 _ _ A4; have z1 := frozen_of_row _ _ 1 _ _ A4; have B5 := ((bnext B2 d14).setCell (p := ⟨w.heap.size, 0, none⟩) (Nat.le_refl _) (.int .u8 2)).setCell (p := ⟨w.heap.size, 1, none⟩) (Nat.le_refl _) (.int .i64 (boolI (q (a2 == 1) (b2 == 1)))); have E5 := KC.out _ B5))
  go_wp2_with fail
  exact bodyPost_ret (results_cell_row Tryd.results56 _ _ w.heap.size _ _ _ _ rfl (heap_setCell_same _ _ 1 _ _ _ (heap_setCell_same _ _ 0 _ _ _ A4)) Tryd.underlying24 rfl infoV) rfl ⟨rfl, B5⟩
set_option maxHeartbeats 4000000 in
theorem callBB13_any (q : Bool → Bool → Bool) (p1 p2 p3 : Nat) (a b : VT) (bq oq c : Nat) (w : World)
    (h1 : w.cell? ⟨p1, 0, none⟩ = some (fnV 33)) (h2 : w.cell? ⟨p2, 0, none⟩ = some (fnV 48)) (h3 : w.cell? ⟨p3, 0, none⟩ = some (fnV 20))
    (hd : ∀ x y w, Calls Tryd.prog 48 #[.bool x, .bool y] w fun e w' => e = .returned (.bool (q x y)) ∧ w = w')
    (y0 : w.cell? ⟨bq, oq, none⟩ = some (.int .u8 a.1)) (y1 : w.cell? ⟨bq, oq + 1, none⟩ = some (.int .i64 a.2)) (y2 : w.cell? ⟨bq, oq + 2, none⟩ = some (.int .u8 b.1)) (y3 : w.cell? ⟨bq, oq + 2 + 1, none⟩ = some (.int .i64 b.2)) :
    Calls Tryd.prog 56 #[.slice (some ⟨bq, oq, none⟩) 2 c, .pointer (some ⟨p1, 0, none⟩), .pointer (some ⟨p2, 0, none⟩), .pointer (some ⟨p3, 0, none⟩)] w fun e w' => e = .returned (aggV (yesV (q (a.2 == 1) (b.2 == 1)))) ∧ Below w.heap.size w w' := by
  obtain ⟨a1, a2⟩ := a
  obtain ⟨b1, b2⟩ := b
  have B1 := balloc (Below.refl w.heap.size w) (.cells #[.int .u8 0, .int .i64 0] 24)
  have B2 : Below w.heap.size w (w.alloc (.cells #[.int .u8 0, .int .i64 0] 24 (0, 0))).drew := bdraw B1 1
  have KC := Lib.hid (fun (w9 : World) (b9 : Below w.heap.size w w9) =>
    (⟨(b9.cell (World.block_lt_of_cell? _ _ h1)).trans h1, (b9.cell (World.block_lt_of_cell? _ _ h2)).trans h2, (b9.cell (World.block_lt_of_cell? _ _ h3)).trans h3, (b9.cell (World.block_lt_of_cell? _ _ y0)).trans y0, (b9.cell (World.block_lt_of_cell? _ _ y1)).trans y1, (b9.cell (World.block_lt_of_cell? _ _ y2)).trans y2, (b9.cell (World.block_lt_of_cell? _ _ y3)).trans y3⟩ :
      w9.cell? ⟨p1, 0, none⟩ = some (fnV 33) ∧ w9.cell? ⟨p2, 0, none⟩ = some (fnV 48) ∧ w9.cell? ⟨p3, 0, none⟩ = some (fnV 20) ∧ w9.cell? ⟨bq, oq, none⟩ = some (.int .u8 a1) ∧ w9.cell? ⟨bq, oq + 1, none⟩ = some (.int .i64 a2) ∧ w9.cell? ⟨bq, oq + 2, none⟩ = some (.int .u8 b1) ∧ w9.cell? ⟨bq, oq + 2 + 1, none⟩ = some (.int .i64 b2)))
  have E0 := KC.out _ B2
  obtain ⟨x1, x2, x3, x4, x5, x6, x7⟩ := KC.out _ B1
  have HD := Lib.hid hd
  have R1 := Lib.hid (fun w => is_any (a1, a2) w)
  have R2 := Lib.hid (fun w => is_any (b1, b2) w)
  have R4 : Hid (∀ (n : Bool) w, Calls Tryd.prog 33 #[.bool n] w fun e w' => e = .returned (.agg #[.int .u8 2, .int .i64 (boolI n)]) ∧ Below w.heap.size w w') := Lib.hid (fun n w => yes_any n w)
  have A0 := heap_alloc_new w (.cells #[.int .u8 0, .int .i64 0] 24 (0, 0))
  have KA := Lib.hid (fun (w9 : World) (b9 : Below (w.alloc (.cells #[.int .u8 0, .int .i64 0] 24 (0, 0))).drew.heap.size (w.alloc (.cells #[.int .u8 0, .int .i64 0] 24 (0, 0))).drew w9) => (b9.block _ (lt_of_block A0)).trans A0)
  clear A0 h1 h2 h3 y0 y1 y2 y3 hd
  go_enter Tryd.func56, Tryd.ntmps56
  go_wp2_with fail
  go_region_held3 (fun w' => w'.cell? ⟨p1, 0, none⟩ = some (fnV 33) ∧ w'.cell? ⟨p2, 0, none⟩ = some (fnV 48) ∧ w'.cell? ⟨p3, 0, none⟩ = some (fnV 20) ∧ w'.cell? ⟨bq, oq, none⟩ = some (.int .u8 a1) ∧ w'.cell? ⟨bq, oq + 1, none⟩ = some (.int .i64 a2) ∧ w'.cell? ⟨bq, oq + 2, none⟩ = some (.int .u8 b1) ∧ w'.cell? ⟨bq, oq + 2 + 1, none⟩ = some (.int .i64 b2))
    (first | exact E0 | exact E1 | exact E2 | exact E4 | exact E5)
    (first
    | (go_at_call 20; refine Calls.mono (R1.out _) ?_; rintro e w1 ⟨rfl, d1⟩; have E1 := KC.out _ (bnext B2 d1))
    | (go_at_call 20; refine Calls.mono (R2.out _) ?_; rintro e w2 ⟨rfl, d2⟩; have d12 := bnext d1 d2; have E2 := KC.out _ (bnext B2 d12))
    | (go_at_call 48; refine Calls.mono (HD.out _ _ _) ?_; rintro e w3 ⟨rfl, rfl⟩)
    | (go_at_call 33; refine Calls.mono (R4.out _ _) ?_; rintro e w4 ⟨rfl, d4⟩; have d14 := bnext d12 d4; have E4 := KC.out _ (bnext B2 d14); have A4 := KA.out _ d14; have c0 : w4.cell? ⟨w.heap.size, 0, none⟩ = some (.int .u8 0) := cell_of_row _ _ 0 _ _ _ A4; have c1 : w4.cell? ⟨w.heap.size, 1, none⟩ = some (.int .i64 0) := cell_of_row _ _ 1 _ _ _ A4; have z0 := frozen_of_row _ _ 0 _ _ A4; have z1 := frozen_of_row _ _ 1 _ _ A4; have B5 := ((bnext B2 d14).setCell (p := ⟨w.heap.size, 0, none⟩) (Nat.le_refl _) (.int .u8 2)).setCell (p := ⟨w.heap.size, 1, none⟩) (Nat.le_refl _) (.int .i64 (boolI (q (a2 == 1) (b2 == 1)))); have E5 := KC.out _ B5))
  go_wp2_with fail
  exact bodyPost_ret (results_cell_row Tryd.results56 _ _ w.heap.size _ _ _ _ rfl (heap_setCell_same _ _ 1 _ _ _ (heap_setCell_same _ _ 0 _ _ _ A4)) Tryd.underlying24 rfl infoV) rfl ⟨rfl, B5⟩
end Go.Proofs.YtphlodafdkpedaaDoor
