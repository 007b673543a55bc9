/-
  The walk of belfrylaw11.ValuesNumbers (printed by wip/gennum.py).
-/
import Derived.Test.YtphlodafdkpedaaDoorValsArgs
import Derived.Test.YtphlodafdkpedaaDoorAnyBox
import Derived.Test.YtphlodafdkpedaaDoorDoLaw
namespace Go.Proofs.YtphlodafdkpedaaDoor
open Go.RowKit
open Go
set_option linter.unusedVariables false

def num6Dl : List Nat := [28, 29, 30, 31, 32, 33, 34, 35, 36, 37, 38, 39, 40, 41, 42, 43, 44, 45, 46, 47, 48, 49, 50, 51, 52, 53, 54, 55, 56, 57, 58, 59, 60, 61, 62, 63, 64]
def num6Ds (g0 g1 g2 g3 g4 : Nat) (a b s d n q r m : Int) : List Dv := [.any, .any, .any, .any, .any, .lit (.pointer (some ⟨g0, 0, none⟩)), .lit (.pointer (some ⟨g1, 0, none⟩)), .lit (.pointer (some ⟨g2, 0, none⟩)), .any, .any, .any, .any, .any, .any, .any, .any, .any, .any, .any, .any, .any, .any, .any, .any, .any, .any, .any, .any, .lit (.agg #[.int .u8 1, .int .i64 s]), .lit (.agg #[.int .u8 1, .int .i64 b]), .vs [(1, s), (1, b)], .lit (.agg #[.int .u8 1, .int .i64 a]), .lit (.agg #[.int .u8 1, .int .i64 a]), .lit (.bool false), .lit (.bool false), .lit (.agg #[.int .u8 1, .int .i64 a]), .lit (.agg #[.int .u8 1, .int .i64 b]), .vs [(1, a), (1, b)], .lit (.agg #[.int .u8 1, .int .i64 d]), .lit (.agg #[.int .u8 1, .int .i64 b]), .vs [(1, d), (1, b)], .lit (.agg #[.int .u8 1, .int .i64 a]), .lit (.agg #[.int .u8 1, .int .i64 a]), .lit (.bool false), .lit (.bool false), .lit (.bool false), .lit (.agg #[.int .u8 1, .int .i64 0]), .lit (.agg #[.int .u8 1, .int .i64 a]), .vs [(1, 0), (1, a)], .lit (.agg #[.int .u8 1, .int .i64 n]), .lit (.agg #[.int .u8 1, .int .i64 a]), .vs [(1, a)], .lit (.agg #[.int .u8 1, .int .i64 n]), .lit (.bool false), .lit (.bool false), .lit (.bool false), .lit (.agg #[.int .u8 1, .int .i64 a]), .lit (.agg #[.int .u8 1, .int .i64 (-1)]), .vs [(1, a), (1, (-1))], .lit (.agg #[.int .u8 1, .int .i64 n]), .lit (.agg #[.int .u8 1, .int .i64 a]), .vs [(1, a)], .lit (.agg #[.int .u8 1, .int .i64 n]), .lit (.bool false), .lit (.bool false), .any, .any, .any, .any, .any, .any, .any, .any, .any, .any, .any, .any, .any, .any, .any, .any, .any, .any, .any, .any, .any, .any, .any, .any, .any, .any, .any, .any, .any, .any, .any, .any, .any, .any, .any, .any, .any, .any, .any, .any, .any, .any, .any, .any, .any, .any, .any, .any, .any, .any, .any, .any, .any, .any, .any, .any, .any, .any, .any, .any, .any, .any, .any, .any, .any, .any, .any, .any, .any, .any, .any, .any, .any, .any, .any, .any, .any, .any, .any, .any, .any, .any, .any, .any, .any, .any, .any, .any, .any, .any]
def num12Dl : List Nat := [140, 141, 142, 143, 144, 145, 146, 147, 148, 149, 150, 151, 152, 153, 154, 4]
def num12Ds (g0 g1 g2 g3 g4 : Nat) (a b s d n q r m : Int) : List Dv := [.any, .any, .any, .any, .lit (.bool true), .lit (.pointer (some ⟨g0, 0, none⟩)), .lit (.pointer (some ⟨g1, 0, none⟩)), .any, .lit (.pointer (some ⟨g3, 0, none⟩)), .lit (.pointer (some ⟨g4, 0, none⟩)), .any, .lit (.bool true), .any, .any, .any, .any, .any, .any, .any, .any, .any, .any, .any, .any, .any, .any, .any, .any, .any, .any, .any, .any, .any, .any, .any, .any, .any, .any, .any, .any, .any, .any, .any, .any, .any, .any, .any, .any, .any, .any, .any, .any, .any, .any, .any, .any, .any, .any, .any, .any, .any, .any, .any, .any, .any, .any, .any, .any, .any, .any, .any, .any, .any, .any, .any, .any, .any, .any, .any, .any, .any, .any, .any, .any, .any, .any, .any, .any, .any, .any, .any, .any, .any, .any, .any, .any, .any, .any, .any, .any, .any, .any, .any, .any, .any, .any, .any, .any, .any, .any, .any, .any, .any, .any, .any, .any, .any, .any, .any, .any, .any, .any, .any, .any, .any, .any, .any, .any, .any, .any, .any, .any, .any, .any, .any, .any, .any, .any, .any, .any, .lit (.bool true), .lit (.bool true), .lit (.agg #[.int .u8 1, .int .i64 q]), .lit (.agg #[.int .u8 1, .int .i64 b]), .vs [(1, q), (1, b)], .lit (.agg #[.int .u8 1, .int .i64 m]), .lit (.agg #[.int .u8 1, .int .i64 r]), .vs [(1, m), (1, r)], .lit (.agg #[.int .u8 1, .int .i64 a]), .lit (.agg #[.int .u8 1, .int .i64 a]), .lit (.bool true), .lit (.bool true), .lit (.bool true), .lit (.bool true), .lit (.bool true)]

set_option maxRecDepth 20000 in
set_option maxHeartbeats 16000000 in
theorem num_walk (a b s d n q r m : Int) (W : World) (ht : Tab W)
    (D1 : Hid (doL 6 [(1, a), (1, b)] = (1, s)))
    (D2 : Hid (doL 9 [(1, a), (1, b)] = (1, q)))
    (D3 : Hid (doL 10 [(1, a), (1, b)] = (1, r)))
    (D4 : Hid (doL 7 [(1, s), (1, b)] = (1, a)))
    (D5 : Hid (doL 7 [(1, a), (1, b)] = (1, d)))
    (D6 : Hid (doL 6 [(1, d), (1, b)] = (1, a)))
    (D7 : Hid (doL 7 [(1, 0), (1, a)] = (1, n)))
    (D8 : Hid (doL 4 [(1, a)] = (1, n)))
    (D9 : Hid (doL 8 [(1, a), (1, (-1))] = (1, n)))
    (DA : Hid (doL 8 [(1, q), (1, b)] = (1, m)))
    (DB : Hid (doL 6 [(1, m), (1, r)] = (1, a)))
    (q1 : (b == 0) = false)
    (key : (r == 0) = true ∨ ((r == 0) = false ∧ decide (0 < r) = true ∧ decide (0 < a) = true ∧ decide (b < 0) = true ∧ (b == -9223372036854775808) = true) ∨ ((r == 0) = false ∧ decide (0 < r) = true ∧ decide (0 < a) = true ∧ decide (b < 0) = true ∧ (b == -9223372036854775808) = false ∧ decide (r < wrap64 (-b)) = true) ∨ ((r == 0) = false ∧ decide (0 < r) = true ∧ decide (0 < a) = true ∧ decide (b < 0) = false ∧ decide (0 < b) = true ∧ decide (r < b) = true) ∨ ((r == 0) = false ∧ decide (0 < r) = false ∧ decide (r < 0) = true ∧ decide (a < 0) = true ∧ decide (0 < b) = true ∧ decide (wrap64 (-b) < r) = true) ∨ ((r == 0) = false ∧ decide (0 < r) = false ∧ decide (r < 0) = true ∧ decide (a < 0) = true ∧ decide (0 < b) = false ∧ decide (b < 0) = true ∧ decide (b < r) = true))
    : Calls Tryd.prog 4 #[.int .i64 a, .int .i64 b] W fun e w' => e = .returned (.bool true) ∧ Below W.heap.size W w' := by
  have N := Lib.hid (fun n w => nums_any n w)
  have HT := Lib.hid ht
  clear ht
  go_enter Tryd.func4, Tryd.ntmps4
  go_wp2_with fail
  refine (N.out _ _).mono ?_
  rintro e w1 ⟨rfl, b1⟩
  have q1 := heap_alloc_new w1 (.cells #[.int .u8 1, .int .i64 a] 24 (0, 0))
  have B := balloc b1 (.cells #[.int .u8 1, .int .i64 a] 24 (0, 0))
  clear  b1
  go_wp2_with fail
  generalize hx : w1.heap.size = g0 at *
  generalize w1.alloc (.cells #[.int .u8 1, .int .i64 a] 24 (0, 0)) = wr at *
  clear hx
  refine (N.out _ _).mono ?_
  rintro e w3 ⟨rfl, b3⟩
  have q2 := (b3.block _ (lt_of_block q1)).trans q1
  have q3 := (Below.heap_alloc w3 (.cells #[.int .u8 1, .int .i64 b] 24 (0, 0)) _ (lt_of_block q2)).trans q2
  have q4 := heap_alloc_new w3 (.cells #[.int .u8 1, .int .i64 b] 24 (0, 0))
  replace B := balloc (bnext B b3) (.cells #[.int .u8 1, .int .i64 b] 24 (0, 0))
  clear q1 q2 b3
  have y0_0 := cell_of_row _ _ 0 _ _ _ q3
  have y0_1 := cell_of_row _ _ 1 _ _ _ q3
  have y1_0 := cell_of_row _ _ 0 _ _ _ q4
  have y1_1 := cell_of_row _ _ 1 _ _ _ q4
  go_wp2_with fail
  refine (do2x_any _ _ _ _ _ _ _ D1.out _ _).mono ?_
  rintro e w4 ⟨rfl, b4⟩
  clear y0_0 y0_1 y1_0 y1_1
  have q5 := (b4.block _ (lt_of_block q3)).trans q3
  clear q3
  have q6 := (b4.block _ (lt_of_block q4)).trans q4
  clear q4
  replace B := bnext B b4
  clear b4
  generalize w3.heap.size = g1 at *
  have b4 := Below.refl w4.heap.size w4
  have q7 := (b4.block _ (lt_of_block q5)).trans q5
  have q8 := (Below.heap_alloc w4 (.cells #[.int .u8 1, .int .i64 s] 24 (0, 0)) _ (lt_of_block q7)).trans q7
  have q9 := (b4.block _ (lt_of_block q6)).trans q6
  have q10 := (Below.heap_alloc w4 (.cells #[.int .u8 1, .int .i64 s] 24 (0, 0)) _ (lt_of_block q9)).trans q9
  have q11 := heap_alloc_new w4 (.cells #[.int .u8 1, .int .i64 s] 24 (0, 0))
  replace B := balloc (bnext B b4) (.cells #[.int .u8 1, .int .i64 s] 24 (0, 0))
  clear q5 q7 q6 q9 b4
  have y0_0 := cell_of_row _ _ 0 _ _ _ q8
  have y0_1 := cell_of_row _ _ 1 _ _ _ q8
  have y1_0 := cell_of_row _ _ 0 _ _ _ q10
  have y1_1 := cell_of_row _ _ 1 _ _ _ q10
  go_wp2_with fail
  refine (do2x_any _ _ _ _ _ _ _ D2.out _ _).mono ?_
  rintro e w5 ⟨rfl, b5⟩
  clear y0_0 y0_1 y1_0 y1_1
  have q12 := (b5.block _ (lt_of_block q8)).trans q8
  clear q8
  have q13 := (b5.block _ (lt_of_block q10)).trans q10
  clear q10
  have q14 := (b5.block _ (lt_of_block q11)).trans q11
  clear q11
  replace B := bnext B b5
  clear b5
  generalize w4.heap.size = g2 at *
  have b5 := Below.refl w5.heap.size w5
  have q15 := (b5.block _ (lt_of_block q12)).trans q12
  have q16 := (Below.heap_alloc w5 (.cells #[.int .u8 1, .int .i64 q] 24 (0, 0)) _ (lt_of_block q15)).trans q15
  have q17 := (b5.block _ (lt_of_block q13)).trans q13
  have q18 := (Below.heap_alloc w5 (.cells #[.int .u8 1, .int .i64 q] 24 (0, 0)) _ (lt_of_block q17)).trans q17
  have q19 := (b5.block _ (lt_of_block q14)).trans q14
  have q20 := (Below.heap_alloc w5 (.cells #[.int .u8 1, .int .i64 q] 24 (0, 0)) _ (lt_of_block q19)).trans q19
  have q21 := heap_alloc_new w5 (.cells #[.int .u8 1, .int .i64 q] 24 (0, 0))
  replace B := balloc (bnext B b5) (.cells #[.int .u8 1, .int .i64 q] 24 (0, 0))
  clear q12 q15 q13 q17 q14 q19 b5
  have y0_0 := cell_of_row _ _ 0 _ _ _ q16
  have y0_1 := cell_of_row _ _ 1 _ _ _ q16
  have y1_0 := cell_of_row _ _ 0 _ _ _ q18
  have y1_1 := cell_of_row _ _ 1 _ _ _ q18
  go_wp2_with fail
  refine (do2x_any _ _ _ _ _ _ _ D3.out _ _).mono ?_
  rintro e w6 ⟨rfl, b6⟩
  clear y0_0 y0_1 y1_0 y1_1
  have q22 := (b6.block _ (lt_of_block q16)).trans q16
  clear q16
  have q23 := (b6.block _ (lt_of_block q18)).trans q18
  clear q18
  have q24 := (b6.block _ (lt_of_block q20)).trans q20
  clear q20
  have q25 := (b6.block _ (lt_of_block q21)).trans q21
  clear q21
  replace B := bnext B b6
  clear b6
  generalize w5.heap.size = g3 at *
  have b6 := Below.refl w6.heap.size w6
  have q26 := (b6.block _ (lt_of_block q22)).trans q22
  have q27 := (Below.heap_alloc w6 (.cells #[.int .u8 1, .int .i64 r] 24 (0, 0)) _ (lt_of_block q26)).trans q26
  have q28 := (b6.block _ (lt_of_block q23)).trans q23
  have q29 := (Below.heap_alloc w6 (.cells #[.int .u8 1, .int .i64 r] 24 (0, 0)) _ (lt_of_block q28)).trans q28
  have q30 := (b6.block _ (lt_of_block q24)).trans q24
  have q31 := (Below.heap_alloc w6 (.cells #[.int .u8 1, .int .i64 r] 24 (0, 0)) _ (lt_of_block q30)).trans q30
  have q32 := (b6.block _ (lt_of_block q25)).trans q25
  have q33 := (Below.heap_alloc w6 (.cells #[.int .u8 1, .int .i64 r] 24 (0, 0)) _ (lt_of_block q32)).trans q32
  have q34 := heap_alloc_new w6 (.cells #[.int .u8 1, .int .i64 r] 24 (0, 0))
  replace B := balloc (bnext B b6) (.cells #[.int .u8 1, .int .i64 r] 24 (0, 0))
  clear q22 q26 q23 q28 q24 q30 q25 q32 b6
  go_wp2_with fail
  generalize hx : w6.heap.size = g4 at *
  generalize w6.alloc (.cells #[.int .u8 1, .int .i64 r] 24 (0, 0)) = wr at *
  clear hx
  replace HT := Lib.hid (HT.out.below B)
  try dsimp only [List.append]
  have H0 := Lib.hid (box_of (wr := wr) q27)
  have H1 := Lib.hid (box_of (wr := wr) q29)
  have H2 := Lib.hid (box_of (wr := wr) q31)
  have H3 := Lib.hid (box_of (wr := wr) q33)
  have H4 := Lib.hid (box_of (wr := wr) q34)
  clear q27 q29 q31 q33 q34
  refine wp_region_vals num6Dl [5, 6, 7] (num6Ds g0 g1 g2 g3 g4 a b s d n q r m) rfl rfl ?_ ?_ ?_ ?_ ?_ ?_
  · kernel_rfl
  · kernel_rfl
  · kernel_rfl
  · exact List.forall_mem_cons.2 ⟨rfl, List.forall_mem_cons.2 ⟨rfl, List.forall_mem_cons.2 ⟨rfl, fun _ h => nomatch h⟩⟩⟩
  · refine StepsOk.cons (st_load H2.out rfl rfl rfl rfl rfl) ?_
    refine StepsOk.cons (st_load H1.out rfl rfl rfl rfl rfl) ?_
    refine StepsOk.cons (st_mk2 rfl rfl rfl rfl rfl rfl) ?_
    refine StepsOk.cons (st_do D4.out rfl rfl rfl rfl rfl) ?_
    refine StepsOk.cons (st_load H0.out rfl rfl rfl rfl rfl) ?_
    refine StepsOk.cons (st_neq (by simp) rfl rfl rfl rfl rfl rfl) ?_
    refine StepsOk.cons (st_move rfl rfl rfl rfl rfl) ?_
    refine StepsOk.cons (st_load H0.out rfl rfl rfl rfl rfl) ?_
    refine StepsOk.cons (st_load H1.out rfl rfl rfl rfl rfl) ?_
    refine StepsOk.cons (st_mk2 rfl rfl rfl rfl rfl rfl) ?_
    refine StepsOk.cons (st_do D5.out rfl rfl rfl rfl rfl) ?_
    refine StepsOk.cons (st_load H1.out rfl rfl rfl rfl rfl) ?_
    refine StepsOk.cons (st_mk2 rfl rfl rfl rfl rfl rfl) ?_
    refine StepsOk.cons (st_do D6.out rfl rfl rfl rfl rfl) ?_
    refine StepsOk.cons (st_load H0.out rfl rfl rfl rfl rfl) ?_
    refine StepsOk.cons (st_neq (by simp) rfl rfl rfl rfl rfl rfl) ?_
    refine StepsOk.cons (st_pick rfl rfl rfl rfl rfl rfl) ?_
    refine StepsOk.cons (st_move rfl rfl rfl rfl rfl) ?_
    refine StepsOk.cons (st_num rfl rfl rfl rfl rfl) ?_
    refine StepsOk.cons (st_load H0.out rfl rfl rfl rfl rfl) ?_
    refine StepsOk.cons (st_mk2 rfl rfl rfl rfl rfl rfl) ?_
    refine StepsOk.cons (st_do D7.out rfl rfl rfl rfl rfl) ?_
    refine StepsOk.cons (st_load H0.out rfl rfl rfl rfl rfl) ?_
    refine StepsOk.cons (st_mk1 rfl rfl rfl rfl rfl) ?_
    refine StepsOk.cons (st_do D8.out rfl rfl rfl rfl rfl) ?_
    refine StepsOk.cons (st_neq (by simp) rfl rfl rfl rfl rfl rfl) ?_
    refine StepsOk.cons (st_pick rfl rfl rfl rfl rfl rfl) ?_
    refine StepsOk.cons (st_move rfl rfl rfl rfl rfl) ?_
    refine StepsOk.cons (st_load H0.out rfl rfl rfl rfl rfl) ?_
    refine StepsOk.cons (st_num rfl rfl rfl rfl rfl) ?_
    refine StepsOk.cons (st_mk2 rfl rfl rfl rfl rfl rfl) ?_
    refine StepsOk.cons (st_do D9.out rfl rfl rfl rfl rfl) ?_
    refine StepsOk.cons (st_load H0.out rfl rfl rfl rfl rfl) ?_
    refine StepsOk.cons (st_mk1 rfl rfl rfl rfl rfl) ?_
    refine StepsOk.cons (st_do D8.out rfl rfl rfl rfl rfl) ?_
    refine StepsOk.cons (st_neq (by simp) rfl rfl rfl rfl rfl rfl) ?_
    refine StepsOk.cons (st_pick rfl rfl rfl rfl rfl rfl) ?_
    exact StepsOk.nil
  intro ac w hb hdf hsz hkeep hv
  obtain ⟨T, dfs⟩ := ac
  dsimp only at hdf hsz hkeep hv
  subst hdf
  obtain ⟨f, hf, hT⟩ := lit_fn T 155 hsz
  have t0 : f 0 = .int .i64 a := (hf 0).symm.trans (hkeep 0 (by kernel_rfl))
  have t1 : f 1 = .int .i64 b := (hf 1).symm.trans (hkeep 1 (by kernel_rfl))
  have t5 : f 5 = .pointer (some ⟨g0, 0, none⟩) := (hf 5).symm.trans (hkeep 5 (by kernel_rfl))
  have t6 : f 6 = .pointer (some ⟨g1, 0, none⟩) := (hf 6).symm.trans (hkeep 6 (by kernel_rfl))
  have t7 : f 7 = .pointer (some ⟨g2, 0, none⟩) := (hf 7).symm.trans (hkeep 7 (by kernel_rfl))
  have t8 : f 8 = .pointer (some ⟨g3, 0, none⟩) := (hf 8).symm.trans (hkeep 8 (by kernel_rfl))
  have t9 : f 9 = .pointer (some ⟨g4, 0, none⟩) := (hf 9).symm.trans (hkeep 9 (by kernel_rfl))
  have t64 : f 64 = .bool false := (hf 64).symm.trans (hv 64 (by decide))
  clear hsz hkeep hv hf
  rw [show (List.range 155).map f = [f 0, f 1, f 2, f 3, f 4, f 5, f 6, f 7, f 8, f 9, f 10, f 11, f 12, f 13, f 14, f 15, f 16, f 17, f 18, f 19, f 20, f 21, f 22, f 23, f 24, f 25, f 26, f 27, f 28, f 29, f 30, f 31, f 32, f 33, f 34, f 35, f 36, f 37, f 38, f 39, f 40, f 41, f 42, f 43, f 44, f 45, f 46, f 47, f 48, f 49, f 50, f 51, f 52, f 53, f 54, f 55, f 56, f 57, f 58, f 59, f 60, f 61, f 62, f 63, f 64, f 65, f 66, f 67, f 68, f 69, f 70, f 71, f 72, f 73, f 74, f 75, f 76, f 77, f 78, f 79, f 80, f 81, f 82, f 83, f 84, f 85, f 86, f 87, f 88, f 89, f 90, f 91, f 92, f 93, f 94, f 95, f 96, f 97, f 98, f 99, f 100, f 101, f 102, f 103, f 104, f 105, f 106, f 107, f 108, f 109, f 110, f 111, f 112, f 113, f 114, f 115, f 116, f 117, f 118, f 119, f 120, f 121, f 122, f 123, f 124, f 125, f 126, f 127, f 128, f 129, f 130, f 131, f 132, f 133, f 134, f 135, f 136, f 137, f 138, f 139, f 140, f 141, f 142, f 143, f 144, f 145, f 146, f 147, f 148, f 149, f 150, f 151, f 152, f 153, f 154] from rfl, t0, t1, t5, t6, t7, t8, t9, t64] at hT
  subst hT
  clear t0 t1 t5 t6 t7 t8 t9 t64
  replace H0 := Lib.hid (H0.out.below hb)
  replace H1 := Lib.hid (H1.out.below hb)
  replace H2 := Lib.hid (H2.out.below hb)
  replace H3 := Lib.hid (H3.out.below hb)
  replace H4 := Lib.hid (H4.out.below hb)
  replace HT := Lib.hid (HT.out.below hb)
  replace B := bnext B hb
  clear hb
  obtain ⟨y0, y1⟩ := H4.out _ (Below.refl _ _)
  rcases key with ⟨k1⟩ | ⟨k1, k2, k3, k4, k5⟩ | ⟨k1, k2, k3, k4, k5, k6⟩ | ⟨k1, k2, k3, k4, k5, k6⟩ | ⟨k1, k2, k3, k4, k5, k6⟩ | ⟨k1, k2, k3, k4, k5, k6, k7⟩
  all_goals
    go_wp2_with fail
    refine wp_region_vals num12Dl [5, 6, 8, 9, 11] (num12Ds g0 g1 g2 g3 g4 a b s d n q r m) rfl rfl ?_ ?_ ?_ ?_ ?_ ?_
    · kernel_rfl
    · kernel_rfl
    · kernel_rfl
    · exact List.forall_mem_cons.2 ⟨rfl, List.forall_mem_cons.2 ⟨rfl, List.forall_mem_cons.2 ⟨rfl, List.forall_mem_cons.2 ⟨rfl, List.forall_mem_cons.2 ⟨rfl, fun _ h => nomatch h⟩⟩⟩⟩⟩
    · refine StepsOk.cons (st_alive HT.out rfl rfl rfl rfl) ?_
      refine StepsOk.cons (st_move rfl rfl rfl rfl rfl) ?_
      refine StepsOk.cons (st_load H3.out rfl rfl rfl rfl rfl) ?_
      refine StepsOk.cons (st_load H1.out rfl rfl rfl rfl rfl) ?_
      refine StepsOk.cons (st_mk2 rfl rfl rfl rfl rfl rfl) ?_
      refine StepsOk.cons (st_do DA.out rfl rfl rfl rfl rfl) ?_
      refine StepsOk.cons (st_load H4.out rfl rfl rfl rfl rfl) ?_
      refine StepsOk.cons (st_mk2 rfl rfl rfl rfl rfl rfl) ?_
      refine StepsOk.cons (st_do DB.out rfl rfl rfl rfl rfl) ?_
      refine StepsOk.cons (st_load H0.out rfl rfl rfl rfl rfl) ?_
      refine StepsOk.cons (st_eql (by simp) rfl rfl rfl rfl rfl rfl) ?_
      refine StepsOk.cons (st_pick rfl rfl rfl rfl rfl rfl) ?_
      refine StepsOk.cons (st_move rfl rfl rfl rfl rfl) ?_
      refine StepsOk.cons (st_move rfl rfl rfl rfl rfl) ?_
      refine StepsOk.cons (st_pick rfl rfl rfl rfl rfl rfl) ?_
      refine StepsOk.cons (st_assign rfl rfl rfl rfl rfl) ?_
      exact StepsOk.nil
    intro ac w hb hdf _ _ hv
    have h4 : ac.tmps.getD 4 undef = .bool true := hv 4 (by decide)
    clear hv
    obtain ⟨T', dfs⟩ := ac
    dsimp only at hdf
    subst hdf
    go_wp2_with fail
    exact ret_slot Tryd.results4 h4 ⟨rfl, bnext B hb⟩
def numz6Dl : List Nat := [28, 29, 30, 31, 32, 33, 34, 35, 36, 37, 38, 39, 40, 41, 42, 43, 44, 45, 46, 47, 48, 49, 50, 51, 52, 53, 54, 55, 56, 57, 58, 59, 60, 61, 62, 63, 64]
def numz6Ds (g0 g1 g2 g3 g4 : Nat) (a b s d n : Int) : List Dv := [.any, .any, .any, .any, .any, .lit (.pointer (some ⟨g0, 0, none⟩)), .lit (.pointer (some ⟨g1, 0, none⟩)), .lit (.pointer (some ⟨g2, 0, none⟩)), .any, .any, .any, .any, .any, .any, .any, .any, .any, .any, .any, .any, .any, .any, .any, .any, .any, .any, .any, .any, .lit (.agg #[.int .u8 1, .int .i64 s]), .lit (.agg #[.int .u8 1, .int .i64 b]), .vs [(1, s), (1, b)], .lit (.agg #[.int .u8 1, .int .i64 a]), .lit (.agg #[.int .u8 1, .int .i64 a]), .lit (.bool false), .lit (.bool false), .lit (.agg #[.int .u8 1, .int .i64 a]), .lit (.agg #[.int .u8 1, .int .i64 b]), .vs [(1, a), (1, b)], .lit (.agg #[.int .u8 1, .int .i64 d]), .lit (.agg #[.int .u8 1, .int .i64 b]), .vs [(1, d), (1, b)], .lit (.agg #[.int .u8 1, .int .i64 a]), .lit (.agg #[.int .u8 1, .int .i64 a]), .lit (.bool false), .lit (.bool false), .lit (.bool false), .lit (.agg #[.int .u8 1, .int .i64 0]), .lit (.agg #[.int .u8 1, .int .i64 a]), .vs [(1, 0), (1, a)], .lit (.agg #[.int .u8 1, .int .i64 n]), .lit (.agg #[.int .u8 1, .int .i64 a]), .vs [(1, a)], .lit (.agg #[.int .u8 1, .int .i64 n]), .lit (.bool false), .lit (.bool false), .lit (.bool false), .lit (.agg #[.int .u8 1, .int .i64 a]), .lit (.agg #[.int .u8 1, .int .i64 (-1)]), .vs [(1, a), (1, (-1))], .lit (.agg #[.int .u8 1, .int .i64 n]), .lit (.agg #[.int .u8 1, .int .i64 a]), .vs [(1, a)], .lit (.agg #[.int .u8 1, .int .i64 n]), .lit (.bool false), .lit (.bool false), .any, .any, .any, .any, .any, .any, .any, .any, .any, .any, .any, .any, .any, .any, .any, .any, .any, .any, .any, .any, .any, .any, .any, .any, .any, .any, .any, .any, .any, .any, .any, .any, .any, .any, .any, .any, .any, .any, .any, .any, .any, .any, .any, .any, .any, .any, .any, .any, .any, .any, .any, .any, .any, .any, .any, .any, .any, .any, .any, .any, .any, .any, .any, .any, .any, .any, .any, .any, .any, .any, .any, .any, .any, .any, .any, .any, .any, .any, .any, .any, .any, .any, .any, .any, .any, .any, .any, .any, .any, .any]
def numz9Dl : List Nat := [67, 68, 69, 70, 71, 72, 73, 74, 75, 76, 77, 4]
def numz9Ds (g0 g1 g2 g3 g4 : Nat) (a b s d n : Int) : List Dv := [.any, .any, .any, .any, .lit (.bool true), .any, .any, .any, .lit (.pointer (some ⟨g3, 0, none⟩)), .lit (.pointer (some ⟨g4, 0, none⟩)), .any, .any, .any, .any, .any, .any, .any, .any, .any, .any, .any, .any, .any, .any, .any, .any, .any, .any, .any, .any, .any, .any, .any, .any, .any, .any, .any, .any, .any, .any, .any, .any, .any, .any, .any, .any, .any, .any, .any, .any, .any, .any, .any, .any, .any, .any, .any, .any, .any, .any, .any, .any, .any, .any, .any, .any, .any, .lit (.bool true), .lit (.bool true), .lit (.agg #[.int .u8 1, .int .i64 0]), .lit (.agg #[.int .u8 1, .int .i64 0]), .lit (.bool true), .lit (.bool true), .lit (.bool true), .lit (.agg #[.int .u8 1, .int .i64 0]), .lit (.agg #[.int .u8 1, .int .i64 0]), .lit (.bool true), .lit (.bool true), .any, .any, .any, .any, .any, .any, .any, .any, .any, .any, .any, .any, .any, .any, .any, .any, .any, .any, .any, .any, .any, .any, .any, .any, .any, .any, .any, .any, .any, .any, .any, .any, .any, .any, .any, .any, .any, .any, .any, .any, .any, .any, .any, .any, .any, .any, .any, .any, .any, .any, .any, .any, .any, .any, .any, .any, .any, .any, .any, .any, .any, .any, .any, .any, .any, .any, .any, .any, .any, .any, .any, .any, .any, .any, .any, .any, .any]

set_option maxRecDepth 20000 in
set_option maxHeartbeats 16000000 in
theorem numz_walk (a b s d n : Int) (W : World) (ht : Tab W)
    (D1 : Hid (doL 6 [(1, a), (1, b)] = (1, s)))
    (D2 : Hid (doL 9 [(1, a), (1, b)] = (1, 0)))
    (D3 : Hid (doL 10 [(1, a), (1, b)] = (1, 0)))
    (D4 : Hid (doL 7 [(1, s), (1, b)] = (1, a)))
    (D5 : Hid (doL 7 [(1, a), (1, b)] = (1, d)))
    (D6 : Hid (doL 6 [(1, d), (1, b)] = (1, a)))
    (D7 : Hid (doL 7 [(1, 0), (1, a)] = (1, n)))
    (D8 : Hid (doL 4 [(1, a)] = (1, n)))
    (D9 : Hid (doL 8 [(1, a), (1, (-1))] = (1, n)))
    (q1 : (b == 0) = true)
    : Calls Tryd.prog 4 #[.int .i64 a, .int .i64 b] W fun e w' => e = .returned (.bool true) ∧ Below W.heap.size W w' := by
  have N := Lib.hid (fun n w => nums_any n w)
  have HT := Lib.hid ht
  clear ht
  go_enter Tryd.func4, Tryd.ntmps4
  go_wp2_with fail
  refine (N.out _ _).mono ?_
  rintro e w1 ⟨rfl, b1⟩
  have q1 := heap_alloc_new w1 (.cells #[.int .u8 1, .int .i64 a] 24 (0, 0))
  have B := balloc b1 (.cells #[.int .u8 1, .int .i64 a] 24 (0, 0))
  clear  b1
  go_wp2_with fail
  generalize hx : w1.heap.size = g0 at *
  generalize w1.alloc (.cells #[.int .u8 1, .int .i64 a] 24 (0, 0)) = wr at *
  clear hx
  refine (N.out _ _).mono ?_
  rintro e w3 ⟨rfl, b3⟩
  have q2 := (b3.block _ (lt_of_block q1)).trans q1
  have q3 := (Below.heap_alloc w3 (.cells #[.int .u8 1, .int .i64 b] 24 (0, 0)) _ (lt_of_block q2)).trans q2
  have q4 := heap_alloc_new w3 (.cells #[.int .u8 1, .int .i64 b] 24 (0, 0))
  replace B := balloc (bnext B b3) (.cells #[.int .u8 1, .int .i64 b] 24 (0, 0))
  clear q1 q2 b3
  have y0_0 := cell_of_row _ _ 0 _ _ _ q3
  have y0_1 := cell_of_row _ _ 1 _ _ _ q3
  have y1_0 := cell_of_row _ _ 0 _ _ _ q4
  have y1_1 := cell_of_row _ _ 1 _ _ _ q4
  go_wp2_with fail
  refine (do2x_any _ _ _ _ _ _ _ D1.out _ _).mono ?_
  rintro e w4 ⟨rfl, b4⟩
  clear y0_0 y0_1 y1_0 y1_1
  have q5 := (b4.block _ (lt_of_block q3)).trans q3
  clear q3
  have q6 := (b4.block _ (lt_of_block q4)).trans q4
  clear q4
  replace B := bnext B b4
  clear b4
  generalize w3.heap.size = g1 at *
  have b4 := Below.refl w4.heap.size w4
  have q7 := (b4.block _ (lt_of_block q5)).trans q5
  have q8 := (Below.heap_alloc w4 (.cells #[.int .u8 1, .int .i64 s] 24 (0, 0)) _ (lt_of_block q7)).trans q7
  have q9 := (b4.block _ (lt_of_block q6)).trans q6
  have q10 := (Below.heap_alloc w4 (.cells #[.int .u8 1, .int .i64 s] 24 (0, 0)) _ (lt_of_block q9)).trans q9
  have q11 := heap_alloc_new w4 (.cells #[.int .u8 1, .int .i64 s] 24 (0, 0))
  replace B := balloc (bnext B b4) (.cells #[.int .u8 1, .int .i64 s] 24 (0, 0))
  clear q5 q7 q6 q9 b4
  have y0_0 := cell_of_row _ _ 0 _ _ _ q8
  have y0_1 := cell_of_row _ _ 1 _ _ _ q8
  have y1_0 := cell_of_row _ _ 0 _ _ _ q10
  have y1_1 := cell_of_row _ _ 1 _ _ _ q10
  go_wp2_with fail
  refine (do2x_any _ _ _ _ _ _ _ D2.out _ _).mono ?_
  rintro e w5 ⟨rfl, b5⟩
  clear y0_0 y0_1 y1_0 y1_1
  have q12 := (b5.block _ (lt_of_block q8)).trans q8
  clear q8
  have q13 := (b5.block _ (lt_of_block q10)).trans q10
  clear q10
  have q14 := (b5.block _ (lt_of_block q11)).trans q11
  clear q11
  replace B := bnext B b5
  clear b5
  generalize w4.heap.size = g2 at *
  have b5 := Below.refl w5.heap.size w5
  have q15 := (b5.block _ (lt_of_block q12)).trans q12
  have q16 := (Below.heap_alloc w5 (.cells #[.int .u8 1, .int .i64 0] 24 (0, 0)) _ (lt_of_block q15)).trans q15
  have q17 := (b5.block _ (lt_of_block q13)).trans q13
  have q18 := (Below.heap_alloc w5 (.cells #[.int .u8 1, .int .i64 0] 24 (0, 0)) _ (lt_of_block q17)).trans q17
  have q19 := (b5.block _ (lt_of_block q14)).trans q14
  have q20 := (Below.heap_alloc w5 (.cells #[.int .u8 1, .int .i64 0] 24 (0, 0)) _ (lt_of_block q19)).trans q19
  have q21 := heap_alloc_new w5 (.cells #[.int .u8 1, .int .i64 0] 24 (0, 0))
  replace B := balloc (bnext B b5) (.cells #[.int .u8 1, .int .i64 0] 24 (0, 0))
  clear q12 q15 q13 q17 q14 q19 b5
  have y0_0 := cell_of_row _ _ 0 _ _ _ q16
  have y0_1 := cell_of_row _ _ 1 _ _ _ q16
  have y1_0 := cell_of_row _ _ 0 _ _ _ q18
  have y1_1 := cell_of_row _ _ 1 _ _ _ q18
  go_wp2_with fail
  refine (do2x_any _ _ _ _ _ _ _ D3.out _ _).mono ?_
  rintro e w6 ⟨rfl, b6⟩
  clear y0_0 y0_1 y1_0 y1_1
  have q22 := (b6.block _ (lt_of_block q16)).trans q16
  clear q16
  have q23 := (b6.block _ (lt_of_block q18)).trans q18
  clear q18
  have q24 := (b6.block _ (lt_of_block q20)).trans q20
  clear q20
  have q25 := (b6.block _ (lt_of_block q21)).trans q21
  clear q21
  replace B := bnext B b6
  clear b6
  generalize w5.heap.size = g3 at *
  have b6 := Below.refl w6.heap.size w6
  have q26 := (b6.block _ (lt_of_block q22)).trans q22
  have q27 := (Below.heap_alloc w6 (.cells #[.int .u8 1, .int .i64 0] 24 (0, 0)) _ (lt_of_block q26)).trans q26
  have q28 := (b6.block _ (lt_of_block q23)).trans q23
  have q29 := (Below.heap_alloc w6 (.cells #[.int .u8 1, .int .i64 0] 24 (0, 0)) _ (lt_of_block q28)).trans q28
  have q30 := (b6.block _ (lt_of_block q24)).trans q24
  have q31 := (Below.heap_alloc w6 (.cells #[.int .u8 1, .int .i64 0] 24 (0, 0)) _ (lt_of_block q30)).trans q30
  have q32 := (b6.block _ (lt_of_block q25)).trans q25
  have q33 := (Below.heap_alloc w6 (.cells #[.int .u8 1, .int .i64 0] 24 (0, 0)) _ (lt_of_block q32)).trans q32
  have q34 := heap_alloc_new w6 (.cells #[.int .u8 1, .int .i64 0] 24 (0, 0))
  replace B := balloc (bnext B b6) (.cells #[.int .u8 1, .int .i64 0] 24 (0, 0))
  clear q22 q26 q23 q28 q24 q30 q25 q32 b6
  go_wp2_with fail
  generalize hx : w6.heap.size = g4 at *
  generalize w6.alloc (.cells #[.int .u8 1, .int .i64 0] 24 (0, 0)) = wr at *
  clear hx
  replace HT := Lib.hid (HT.out.below B)
  try dsimp only [List.append]
  have H0 := Lib.hid (box_of (wr := wr) q27)
  have H1 := Lib.hid (box_of (wr := wr) q29)
  have H2 := Lib.hid (box_of (wr := wr) q31)
  have H3 := Lib.hid (box_of (wr := wr) q33)
  have H4 := Lib.hid (box_of (wr := wr) q34)
  clear q27 q29 q31 q33 q34
  refine wp_region_vals numz6Dl [5, 6, 7] (numz6Ds g0 g1 g2 g3 g4 a b s d n) rfl rfl ?_ ?_ ?_ ?_ ?_ ?_
  · kernel_rfl
  · kernel_rfl
  · kernel_rfl
  · exact List.forall_mem_cons.2 ⟨rfl, List.forall_mem_cons.2 ⟨rfl, List.forall_mem_cons.2 ⟨rfl, fun _ h => nomatch h⟩⟩⟩
  · refine StepsOk.cons (st_load H2.out rfl rfl rfl rfl rfl) ?_
    refine StepsOk.cons (st_load H1.out rfl rfl rfl rfl rfl) ?_
    refine StepsOk.cons (st_mk2 rfl rfl rfl rfl rfl rfl) ?_
    refine StepsOk.cons (st_do D4.out rfl rfl rfl rfl rfl) ?_
    refine StepsOk.cons (st_load H0.out rfl rfl rfl rfl rfl) ?_
    refine StepsOk.cons (st_neq (by simp) rfl rfl rfl rfl rfl rfl) ?_
    refine StepsOk.cons (st_move rfl rfl rfl rfl rfl) ?_
    refine StepsOk.cons (st_load H0.out rfl rfl rfl rfl rfl) ?_
    refine StepsOk.cons (st_load H1.out rfl rfl rfl rfl rfl) ?_
    refine StepsOk.cons (st_mk2 rfl rfl rfl rfl rfl rfl) ?_
    refine StepsOk.cons (st_do D5.out rfl rfl rfl rfl rfl) ?_
    refine StepsOk.cons (st_load H1.out rfl rfl rfl rfl rfl) ?_
    refine StepsOk.cons (st_mk2 rfl rfl rfl rfl rfl rfl) ?_
    refine StepsOk.cons (st_do D6.out rfl rfl rfl rfl rfl) ?_
    refine StepsOk.cons (st_load H0.out rfl rfl rfl rfl rfl) ?_
    refine StepsOk.cons (st_neq (by simp) rfl rfl rfl rfl rfl rfl) ?_
    refine StepsOk.cons (st_pick rfl rfl rfl rfl rfl rfl) ?_
    refine StepsOk.cons (st_move rfl rfl rfl rfl rfl) ?_
    refine StepsOk.cons (st_num rfl rfl rfl rfl rfl) ?_
    refine StepsOk.cons (st_load H0.out rfl rfl rfl rfl rfl) ?_
    refine StepsOk.cons (st_mk2 rfl rfl rfl rfl rfl rfl) ?_
    refine StepsOk.cons (st_do D7.out rfl rfl rfl rfl rfl) ?_
    refine StepsOk.cons (st_load H0.out rfl rfl rfl rfl rfl) ?_
    refine StepsOk.cons (st_mk1 rfl rfl rfl rfl rfl) ?_
    refine StepsOk.cons (st_do D8.out rfl rfl rfl rfl rfl) ?_
    refine StepsOk.cons (st_neq (by simp) rfl rfl rfl rfl rfl rfl) ?_
    refine StepsOk.cons (st_pick rfl rfl rfl rfl rfl rfl) ?_
    refine StepsOk.cons (st_move rfl rfl rfl rfl rfl) ?_
    refine StepsOk.cons (st_load H0.out rfl rfl rfl rfl rfl) ?_
    refine StepsOk.cons (st_num rfl rfl rfl rfl rfl) ?_
    refine StepsOk.cons (st_mk2 rfl rfl rfl rfl rfl rfl) ?_
    refine StepsOk.cons (st_do D9.out rfl rfl rfl rfl rfl) ?_
    refine StepsOk.cons (st_load H0.out rfl rfl rfl rfl rfl) ?_
    refine StepsOk.cons (st_mk1 rfl rfl rfl rfl rfl) ?_
    refine StepsOk.cons (st_do D8.out rfl rfl rfl rfl rfl) ?_
    refine StepsOk.cons (st_neq (by simp) rfl rfl rfl rfl rfl rfl) ?_
    refine StepsOk.cons (st_pick rfl rfl rfl rfl rfl rfl) ?_
    exact StepsOk.nil
  intro ac w hb hdf hsz hkeep hv
  obtain ⟨T, dfs⟩ := ac
  dsimp only at hdf hsz hkeep hv
  subst hdf
  obtain ⟨f, hf, hT⟩ := lit_fn T 155 hsz
  have t0 : f 0 = .int .i64 a := (hf 0).symm.trans (hkeep 0 (by kernel_rfl))
  have t1 : f 1 = .int .i64 b := (hf 1).symm.trans (hkeep 1 (by kernel_rfl))
  have t5 : f 5 = .pointer (some ⟨g0, 0, none⟩) := (hf 5).symm.trans (hkeep 5 (by kernel_rfl))
  have t6 : f 6 = .pointer (some ⟨g1, 0, none⟩) := (hf 6).symm.trans (hkeep 6 (by kernel_rfl))
  have t7 : f 7 = .pointer (some ⟨g2, 0, none⟩) := (hf 7).symm.trans (hkeep 7 (by kernel_rfl))
  have t8 : f 8 = .pointer (some ⟨g3, 0, none⟩) := (hf 8).symm.trans (hkeep 8 (by kernel_rfl))
  have t9 : f 9 = .pointer (some ⟨g4, 0, none⟩) := (hf 9).symm.trans (hkeep 9 (by kernel_rfl))
  have t64 : f 64 = .bool false := (hf 64).symm.trans (hv 64 (by decide))
  clear hsz hkeep hv hf
  rw [show (List.range 155).map f = [f 0, f 1, f 2, f 3, f 4, f 5, f 6, f 7, f 8, f 9, f 10, f 11, f 12, f 13, f 14, f 15, f 16, f 17, f 18, f 19, f 20, f 21, f 22, f 23, f 24, f 25, f 26, f 27, f 28, f 29, f 30, f 31, f 32, f 33, f 34, f 35, f 36, f 37, f 38, f 39, f 40, f 41, f 42, f 43, f 44, f 45, f 46, f 47, f 48, f 49, f 50, f 51, f 52, f 53, f 54, f 55, f 56, f 57, f 58, f 59, f 60, f 61, f 62, f 63, f 64, f 65, f 66, f 67, f 68, f 69, f 70, f 71, f 72, f 73, f 74, f 75, f 76, f 77, f 78, f 79, f 80, f 81, f 82, f 83, f 84, f 85, f 86, f 87, f 88, f 89, f 90, f 91, f 92, f 93, f 94, f 95, f 96, f 97, f 98, f 99, f 100, f 101, f 102, f 103, f 104, f 105, f 106, f 107, f 108, f 109, f 110, f 111, f 112, f 113, f 114, f 115, f 116, f 117, f 118, f 119, f 120, f 121, f 122, f 123, f 124, f 125, f 126, f 127, f 128, f 129, f 130, f 131, f 132, f 133, f 134, f 135, f 136, f 137, f 138, f 139, f 140, f 141, f 142, f 143, f 144, f 145, f 146, f 147, f 148, f 149, f 150, f 151, f 152, f 153, f 154] from rfl, t0, t1, t5, t6, t7, t8, t9, t64] at hT
  subst hT
  clear t0 t1 t5 t6 t7 t8 t9 t64
  replace H0 := Lib.hid (H0.out.below hb)
  replace H1 := Lib.hid (H1.out.below hb)
  replace H2 := Lib.hid (H2.out.below hb)
  replace H3 := Lib.hid (H3.out.below hb)
  replace H4 := Lib.hid (H4.out.below hb)
  replace HT := Lib.hid (HT.out.below hb)
  replace B := bnext B hb
  clear hb
  go_wp2_with fail
  refine wp_region_vals numz9Dl [8, 9] (numz9Ds g0 g1 g2 g3 g4 a b s d n) rfl rfl ?_ ?_ ?_ ?_ ?_ ?_
  · kernel_rfl
  · kernel_rfl
  · kernel_rfl
  · exact List.forall_mem_cons.2 ⟨rfl, List.forall_mem_cons.2 ⟨rfl, fun _ h => nomatch h⟩⟩
  · refine StepsOk.cons (st_alive HT.out rfl rfl rfl rfl) ?_
    refine StepsOk.cons (st_move rfl rfl rfl rfl rfl) ?_
    refine StepsOk.cons (st_load H3.out rfl rfl rfl rfl rfl) ?_
    refine StepsOk.cons (st_num rfl rfl rfl rfl rfl) ?_
    refine StepsOk.cons (st_eql (by simp) rfl rfl rfl rfl rfl rfl) ?_
    refine StepsOk.cons (st_pick rfl rfl rfl rfl rfl rfl) ?_
    refine StepsOk.cons (st_move rfl rfl rfl rfl rfl) ?_
    refine StepsOk.cons (st_load H4.out rfl rfl rfl rfl rfl) ?_
    refine StepsOk.cons (st_num rfl rfl rfl rfl rfl) ?_
    refine StepsOk.cons (st_eql (by simp) rfl rfl rfl rfl rfl rfl) ?_
    refine StepsOk.cons (st_pick rfl rfl rfl rfl rfl rfl) ?_
    refine StepsOk.cons (st_assign rfl rfl rfl rfl rfl) ?_
    exact StepsOk.nil
  intro ac w hb hdf _ _ hv
  have h4 : ac.tmps.getD 4 undef = .bool true := hv 4 (by decide)
  clear hv
  obtain ⟨T', dfs⟩ := ac
  dsimp only at hdf
  subst hdf
  go_wp2_with fail
  exact ret_slot Tryd.results4 h4 ⟨rfl, bnext B hb⟩
theorem wrapN_eq (x : Int) : ∃ k, wrap64 x = x + 18446744073709551616 * k := ⟨-((x + 9223372036854775808) / 18446744073709551616), by unfold wrap64; omega⟩
theorem wrapN_add (x k : Int) : wrap64 (x + 18446744073709551616 * k) = wrap64 x := by unfold wrap64; omega
theorem wrapN_mul (x y : Int) : wrap64 (wrap64 x * y) = wrap64 (x * y) := by
  obtain ⟨k, hk⟩ := wrapN_eq x
  rw [hk, Int.add_mul, Int.mul_assoc, wrapN_add]
theorem wrapN_sum (x y : Int) : wrap64 (wrap64 x + y) = wrap64 (x + y) := by unfold wrap64; omega
theorem tmod_key (a b : Int) : (0 ≤ a → 0 ≤ a.tmod b) ∧ (a ≤ 0 → a.tmod b ≤ 0) ∧ (0 < b → a.tmod b < b ∧ -b < a.tmod b) ∧ (b < 0 → a.tmod b < -b ∧ b < a.tmod b) := by
  refine ⟨fun h => Int.tmod_nonneg b h, fun h => ?_, fun h => ?_, fun h => ?_⟩
  · have := Int.tmod_nonneg b (a := -a) (by omega)
    rw [Int.neg_tmod] at this
    omega
  · have h1 := Int.tmod_lt_of_pos a h
    have h2 := Int.tmod_lt_of_pos (-a) h
    rw [Int.neg_tmod] at h2
    omega
  · have h1 := Int.tmod_lt_of_pos a (b := -b) (by omega)
    have h2 := Int.tmod_lt_of_pos (-a) (b := -b) (by omega)
    rw [Int.neg_tmod, Int.tmod_neg] at h2
    rw [Int.tmod_neg] at h1
    omega
set_option maxHeartbeats 4000000 in
theorem walk_ValuesNumbers (v0 v1 : Value) (W : World) (A0 : Arg Tryd.prog 2 W v0) (A1 : Arg Tryd.prog 2 W v1) (ht : Tab W) :
    Calls Tryd.prog 4 #[v0, v1] W fun e w' => e = .returned (.bool true) ∧ Below W.heap.size W w' := by
  obtain ⟨a, rfl, wa⟩ := A0.int Tryd.underlying2
  obtain ⟨b, rfl, wb⟩ := A1.int Tryd.underlying2
  obtain ⟨a0, a1⟩ := bounds_i64 wa
  obtain ⟨b0, b1⟩ := bounds_i64 wb
  have D4 : doL 7 [(1, wrap64 (a + b)), (1, b)] = (1, a) := by
    rw [doL_sub, show wrap64 (wrap64 (a + b) - b) = a by unfold wrap64; omega]
  have D6 : doL 6 [(1, wrap64 (a - b)), (1, b)] = (1, a) := by
    rw [doL_add', show wrap64 (wrap64 (a - b) + b) = a by unfold wrap64; omega]
  have D7 : doL 7 [(1, 0), (1, a)] = (1, wrap64 (-a)) := by rw [doL_sub, Int.zero_sub]
  have D9 : doL 8 [(1, a), (1, -1)] = (1, wrap64 (-a)) := by rw [doL_mul', Int.mul_neg, Int.mul_one]
  by_cases hz : b = 0
  · subst hz
    exact numz_walk a 0 _ _ _ W ht (Lib.hid (doL_add' _ _)) (Lib.hid (doL_div a 0)) (Lib.hid (doL_mod a 0)) (Lib.hid D4) (Lib.hid (doL_sub _ _)) (Lib.hid D6) (Lib.hid D7) (Lib.hid (doL_neg a)) (Lib.hid D9) rfl
  · have hd : divI a b = wrap64 (a.tdiv b) := by unfold divI; rw [if_neg hz]
    have hm : modI a b = a.tmod b := by unfold modI; rw [if_neg hz]
    have hab := Int.tdiv_mul_add_tmod a b
    obtain ⟨t1, t2, t3, t4⟩ := tmod_key a b
    generalize a.tmod b = r at *
    refine num_walk a b _ _ _ (wrap64 (a.tdiv b)) r (wrap64 (wrap64 (a.tdiv b) * b)) W ht (Lib.hid (doL_add' _ _)) (Lib.hid (by rw [doL_div, hd])) (Lib.hid (by rw [doL_mod, hm])) (Lib.hid D4) (Lib.hid (doL_sub _ _)) (Lib.hid D6) (Lib.hid D7) (Lib.hid (doL_neg a)) (Lib.hid D9)
      (Lib.hid (doL_mul' _ _)) (Lib.hid ?_) (by simpa using hz) ?_
    · rw [doL_add', wrapN_sum, ← wrapN_sum, wrapN_mul, wrapN_sum, hab, show wrap64 a = a by unfold wrap64; omega]
    · clear hab hd hm D4 D6 D7 D9
      have hw : b ≠ -9223372036854775808 → wrap64 (-b) = -b := fun h => by unfold wrap64; omega
      simp only [beq_iff_eq, beq_eq_false_iff_ne, decide_eq_true_eq, decide_eq_false_iff_not]
      by_cases hl : b = -9223372036854775808
      · omega
      · rw [hw hl]
        omega
end Go.Proofs.YtphlodafdkpedaaDoor
