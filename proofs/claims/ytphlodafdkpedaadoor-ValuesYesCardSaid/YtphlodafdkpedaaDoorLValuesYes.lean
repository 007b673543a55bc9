/-
  The walk of belfrylaw11.ValuesYes (printed by wip/genyes.py).
-/
import Derived.Test.YtphlodafdkpedaaDoorValsArgs
import Derived.Test.YtphlodafdkpedaaDoorAnyBox
import Derived.Test.YtphlodafdkpedaaDoorDoLaw
namespace Go.Proofs.YtphlodafdkpedaaDoor
open Go.RowKit
open Go
set_option linter.unusedVariables false

def yesTTDl : List Nat := [25, 26, 27, 28, 29, 30, 31, 32, 33, 34, 35, 36, 37, 38, 39, 40, 41, 42, 43, 44, 45, 46, 47, 48, 49, 50, 51, 52, 53, 54, 55, 56, 57, 58, 59, 60, 61, 62, 63, 64, 65, 66, 67, 68, 69, 70, 71, 72, 73, 74, 75, 76, 77, 78, 79, 80, 81, 82, 83, 84, 85, 86, 87, 88, 89, 90, 91, 92, 93, 94, 95, 96, 97, 98, 99, 100, 101, 102, 103, 104, 105, 106, 107, 6]
def yesTTDs (g1 g2 g3 g4 g5 : Nat) (n0 n1 : Int) : List Dv := [.lit (.bool true), .lit (.bool true), .any, .any, .any, .any, .lit (.bool true), .lit (.pointer (some ⟨g1, 0, none⟩)), .lit (.pointer (some ⟨g2, 0, none⟩)), .lit (.pointer (some ⟨g3, 0, none⟩)), .lit (.pointer (some ⟨g4, 0, none⟩)), .lit (.pointer (some ⟨g5, 0, none⟩)), .any, .any, .any, .any, .any, .any, .any, .any, .any, .any, .any, .any, .any, .lit (.bool true), .lit (.bool true), .lit (.agg #[.int .u8 2, .int .i64 (boolI true)]), .lit (.agg #[.int .u8 2, .int .i64 (boolI true)]), .vs [(2, (boolI true)), (2, (boolI true))], .lit (.agg #[.int .u8 2, .int .i64 (boolI true)]), .lit (.bool true), .lit (.bool true), .lit (.bool true), .lit (.bool true), .lit (.agg #[.int .u8 2, .int .i64 (boolI true)]), .lit (.bool true), .lit (.bool true), .lit (.bool true), .lit (.agg #[.int .u8 2, .int .i64 (boolI true)]), .lit (.agg #[.int .u8 2, .int .i64 (boolI true)]), .vs [(2, (boolI true)), (2, (boolI true))], .lit (.agg #[.int .u8 2, .int .i64 (boolI true)]), .lit (.bool true), .lit (.bool true), .any, .lit (.bool true), .lit (.agg #[.int .u8 2, .int .i64 (boolI true)]), .lit (.bool true), .lit (.bool true), .lit (.bool true), .lit (.agg #[.int .u8 2, .int .i64 (boolI true)]), .vs [(2, (boolI true))], .lit (.agg #[.int .u8 2, .int .i64 (boolI false)]), .lit (.bool true), .lit (.bool false), .lit (.agg #[.int .u8 2, .int .i64 (boolI false)]), .lit (.bool true), .lit (.bool true), .lit (.bool true), .lit (.agg #[.int .u8 2, .int .i64 (boolI true)]), .lit (.agg #[.int .u8 2, .int .i64 (boolI true)]), .vs [(2, (boolI true)), (2, (boolI true))], .lit (.agg #[.int .u8 2, .int .i64 (boolI true)]), .lit (.bool true), .lit (.bool true), .lit (.bool true), .lit (.agg #[.int .u8 2, .int .i64 (boolI true)]), .lit (.bool true), .lit (.bool true), .lit (.bool true), .lit (.agg #[.int .u8 2, .int .i64 (boolI true)]), .lit (.agg #[.int .u8 1, .int .i64 n0]), .lit (.agg #[.int .u8 1, .int .i64 n1]), .vs [(2, (boolI true)), (1, n0), (1, n1)], .lit (.agg #[.int .u8 1, .int .i64 n0]), .lit (.agg #[.int .u8 1, .int .i64 n0]), .lit (.bool true), .lit (.bool true), .lit (.bool true), .lit (.agg #[.int .u8 2, .int .i64 (boolI true)]), .lit (.agg #[.int .u8 2, .int .i64 (boolI true)]), .lit (.agg #[.int .u8 2, .int .i64 (boolI true)]), .vs [(2, (boolI true)), (2, (boolI true)), (2, (boolI true))], .lit (.agg #[.int .u8 2, .int .i64 (boolI true)]), .lit (.agg #[.int .u8 2, .int .i64 (boolI true)]), .lit (.agg #[.int .u8 2, .int .i64 (boolI true)]), .vs [(2, (boolI true)), (2, (boolI true))], .lit (.agg #[.int .u8 2, .int .i64 (boolI true)]), .lit (.bool true), .lit (.bool true), .lit (.bool true), .lit (.agg #[.int .u8 2, .int .i64 (boolI true)]), .lit (.agg #[.int .u8 2, .int .i64 (boolI true)]), .vs [(2, (boolI true)), (2, (boolI true))], .lit (.agg #[.int .u8 2, .int .i64 (boolI true)]), .vs [(2, (boolI true))], .lit (.agg #[.int .u8 2, .int .i64 (boolI false)]), .lit (.agg #[.int .u8 2, .int .i64 (boolI true)]), .vs [(2, (boolI true))], .lit (.agg #[.int .u8 2, .int .i64 (boolI false)]), .lit (.agg #[.int .u8 2, .int .i64 (boolI true)]), .vs [(2, (boolI true))], .lit (.agg #[.int .u8 2, .int .i64 (boolI false)]), .vs [(2, (boolI false)), (2, (boolI false))], .lit (.agg #[.int .u8 2, .int .i64 (boolI false)]), .lit (.bool true), .lit (.bool true)]

set_option maxRecDepth 20000 in
set_option maxHeartbeats 16000000 in
theorem yes_TT (n0 n1 : Int) (W : World) (ht : Tab W) : Calls Tryd.prog 6 #[.bool true, .bool true, .agg #[.int .i64 n0, .int .i64 n1]] W fun e w' => e = .returned (.bool true) ∧ Below W.heap.size W w' := by
  have N := Lib.hid (fun n w => nums_any n w)
  have Y := Lib.hid (fun n w => alive_yes n w)
  have HT := Lib.hid ht
  clear ht
  have B := balloc (Below.refl W.heap.size W) (.cells #[.int .i64 n0, .int .i64 n1] 33 (0, 0))
  have q0 := heap_alloc_new W (.cells #[.int .i64 n0, .int .i64 n1] 33 (0, 0))
  go_enter Tryd.func6, Tryd.ntmps6
  go_wp2_with fail
  generalize W.alloc (.cells #[.int .i64 n0, .int .i64 n1] 33 (0, 0)) = wr at *
  refine (Y.out _ _).mono ?_
  rintro e w1 ⟨rfl, b1⟩
  have q1 := (b1.block _ (lt_of_block q0)).trans q0
  have q2 := (Below.heap_alloc w1 (.cells #[.int .u8 2, .int .i64 (boolI true)] 24 (0, 0)) _ (lt_of_block q1)).trans q1
  have q3 := heap_alloc_new w1 (.cells #[.int .u8 2, .int .i64 (boolI true)] 24 (0, 0))
  replace B := balloc (bnext B b1) (.cells #[.int .u8 2, .int .i64 (boolI true)] 24 (0, 0))
  clear q0 q1 b1
  go_wp2_with fail
  generalize hx : w1.heap.size = g1 at *
  generalize w1.alloc (.cells #[.int .u8 2, .int .i64 (boolI true)] 24 (0, 0)) = wr at *
  clear hx
  refine (Y.out _ _).mono ?_
  rintro e w3 ⟨rfl, b3⟩
  have q4 := (b3.block _ (lt_of_block q2)).trans q2
  have q5 := (Below.heap_alloc w3 (.cells #[.int .u8 2, .int .i64 (boolI true)] 24 (0, 0)) _ (lt_of_block q4)).trans q4
  have q6 := (b3.block _ (lt_of_block q3)).trans q3
  have q7 := (Below.heap_alloc w3 (.cells #[.int .u8 2, .int .i64 (boolI true)] 24 (0, 0)) _ (lt_of_block q6)).trans q6
  have q8 := heap_alloc_new w3 (.cells #[.int .u8 2, .int .i64 (boolI true)] 24 (0, 0))
  replace B := balloc (bnext B b3) (.cells #[.int .u8 2, .int .i64 (boolI true)] 24 (0, 0))
  clear q2 q4 q3 q6 b3
  have y0_0 := cell_of_row _ _ 0 _ _ _ q5
  have y0_1 := cell_of_row _ _ 1 _ _ _ q5
  go_wp2_with fail
  generalize hx : w3.heap.size = g2 at *
  generalize w3.alloc (.cells #[.int .u8 2, .int .i64 (boolI true)] 24 (0, 0)) = wr at *
  clear hx y0_0 y0_1
  refine (N.out _ _).mono ?_
  rintro e w5 ⟨rfl, b5⟩
  have q9 := (b5.block _ (lt_of_block q5)).trans q5
  have q10 := (Below.heap_alloc w5 (.cells #[.int .u8 1, .int .i64 n0] 24 (0, 0)) _ (lt_of_block q9)).trans q9
  have q11 := (b5.block _ (lt_of_block q7)).trans q7
  have q12 := (Below.heap_alloc w5 (.cells #[.int .u8 1, .int .i64 n0] 24 (0, 0)) _ (lt_of_block q11)).trans q11
  have q13 := (b5.block _ (lt_of_block q8)).trans q8
  have q14 := (Below.heap_alloc w5 (.cells #[.int .u8 1, .int .i64 n0] 24 (0, 0)) _ (lt_of_block q13)).trans q13
  have q15 := heap_alloc_new w5 (.cells #[.int .u8 1, .int .i64 n0] 24 (0, 0))
  replace B := balloc (bnext B b5) (.cells #[.int .u8 1, .int .i64 n0] 24 (0, 0))
  clear q5 q9 q7 q11 q8 q13 b5
  have y0_0 := cell_of_row _ _ 0 _ _ _ q10
  have y0_1 := cell_of_row _ _ 1 _ _ _ q10
  go_wp2_with fail
  generalize hx : w5.heap.size = g3 at *
  generalize w5.alloc (.cells #[.int .u8 1, .int .i64 n0] 24 (0, 0)) = wr at *
  clear hx y0_0 y0_1
  refine (N.out _ _).mono ?_
  rintro e w7 ⟨rfl, b7⟩
  have q16 := (b7.block _ (lt_of_block q10)).trans q10
  have q17 := (Below.heap_alloc w7 (.cells #[.int .u8 1, .int .i64 n1] 24 (0, 0)) _ (lt_of_block q16)).trans q16
  have q18 := (b7.block _ (lt_of_block q12)).trans q12
  have q19 := (Below.heap_alloc w7 (.cells #[.int .u8 1, .int .i64 n1] 24 (0, 0)) _ (lt_of_block q18)).trans q18
  have q20 := (b7.block _ (lt_of_block q14)).trans q14
  have q21 := (Below.heap_alloc w7 (.cells #[.int .u8 1, .int .i64 n1] 24 (0, 0)) _ (lt_of_block q20)).trans q20
  have q22 := (b7.block _ (lt_of_block q15)).trans q15
  have q23 := (Below.heap_alloc w7 (.cells #[.int .u8 1, .int .i64 n1] 24 (0, 0)) _ (lt_of_block q22)).trans q22
  have q24 := heap_alloc_new w7 (.cells #[.int .u8 1, .int .i64 n1] 24 (0, 0))
  replace B := balloc (bnext B b7) (.cells #[.int .u8 1, .int .i64 n1] 24 (0, 0))
  clear q10 q16 q12 q18 q14 q20 q15 q22 b7
  have r0 := (Below.heap_alloc (w7.alloc (.cells #[.int .u8 1, .int .i64 n1] 24 (0, 0))) (.cells #[.int .u8 1, .int .i64 n1] 24 (0, 0)) _ (lt_of_block q17)).trans q17
  have r1 := (Below.heap_alloc (w7.alloc (.cells #[.int .u8 1, .int .i64 n1] 24 (0, 0))) (.cells #[.int .u8 1, .int .i64 n1] 24 (0, 0)) _ (lt_of_block q19)).trans q19
  have r2 := (Below.heap_alloc (w7.alloc (.cells #[.int .u8 1, .int .i64 n1] 24 (0, 0))) (.cells #[.int .u8 1, .int .i64 n1] 24 (0, 0)) _ (lt_of_block q21)).trans q21
  have r3 := (Below.heap_alloc (w7.alloc (.cells #[.int .u8 1, .int .i64 n1] 24 (0, 0))) (.cells #[.int .u8 1, .int .i64 n1] 24 (0, 0)) _ (lt_of_block q23)).trans q23
  have r4 := (Below.heap_alloc (w7.alloc (.cells #[.int .u8 1, .int .i64 n1] 24 (0, 0))) (.cells #[.int .u8 1, .int .i64 n1] 24 (0, 0)) _ (lt_of_block q24)).trans q24
  have r5 : ((w7.alloc (.cells #[.int .u8 1, .int .i64 n1] 24 (0, 0))).alloc (.cells #[.int .u8 1, .int .i64 n1] 24 (0, 0))).heap[w7.heap.size + 1]? = _ := (by simp : (w7.alloc (.cells #[.int .u8 1, .int .i64 n1] 24 (0, 0))).heap.size = w7.heap.size + 1) ▸ heap_alloc_new (w7.alloc (.cells #[.int .u8 1, .int .i64 n1] 24 (0, 0))) (.cells #[.int .u8 1, .int .i64 n1] 24 (0, 0))
  have y4_0 := cell_of_row _ _ 0 _ _ _ q24
  have y4_1 := cell_of_row _ _ 1 _ _ _ q24
  have z3_0 := cell_of_row _ _ 0 _ _ _ r3
  have z3_1 := cell_of_row _ _ 1 _ _ _ r3
  go_wp2_with fail
  clear r0 r1 r2 r3 r4 r5 y4_0 y4_1 z3_0 z3_1
  have s0 := (Below.heap_alloc (w7.alloc (.cells #[.int .u8 1, .int .i64 n1] 24 (0, 0))) (.cells #[.int .u8 1, .int .i64 n0] 24 (0, 0)) _ (lt_of_block q17)).trans q17
  have s1 := (Below.heap_alloc (w7.alloc (.cells #[.int .u8 1, .int .i64 n1] 24 (0, 0))) (.cells #[.int .u8 1, .int .i64 n0] 24 (0, 0)) _ (lt_of_block q19)).trans q19
  have s2 := (Below.heap_alloc (w7.alloc (.cells #[.int .u8 1, .int .i64 n1] 24 (0, 0))) (.cells #[.int .u8 1, .int .i64 n0] 24 (0, 0)) _ (lt_of_block q21)).trans q21
  have s3 := (Below.heap_alloc (w7.alloc (.cells #[.int .u8 1, .int .i64 n1] 24 (0, 0))) (.cells #[.int .u8 1, .int .i64 n0] 24 (0, 0)) _ (lt_of_block q23)).trans q23
  have s4 := (Below.heap_alloc (w7.alloc (.cells #[.int .u8 1, .int .i64 n1] 24 (0, 0))) (.cells #[.int .u8 1, .int .i64 n0] 24 (0, 0)) _ (lt_of_block q24)).trans q24
  have s5 : ((w7.alloc (.cells #[.int .u8 1, .int .i64 n1] 24 (0, 0))).alloc (.cells #[.int .u8 1, .int .i64 n0] 24 (0, 0))).heap[w7.heap.size + 1]? = _ := (by simp : (w7.alloc (.cells #[.int .u8 1, .int .i64 n1] 24 (0, 0))).heap.size = w7.heap.size + 1) ▸ heap_alloc_new (w7.alloc (.cells #[.int .u8 1, .int .i64 n1] 24 (0, 0))) (.cells #[.int .u8 1, .int .i64 n0] 24 (0, 0))
  replace B := balloc B (.cells #[.int .u8 1, .int .i64 n0] 24 (0, 0))
  clear q17 q19 q21 q23 q24
  generalize w7.heap.size + 1 = g5 at *
  generalize w7.heap.size = g4 at *
  generalize ((w7.alloc (.cells #[.int .u8 1, .int .i64 n1] 24 (0, 0))).alloc (.cells #[.int .u8 1, .int .i64 n0] 24 (0, 0))) = wr at *
  have H1 := Lib.hid (box_of (wr := wr) s1)
  have H2 := Lib.hid (box_of (wr := wr) s2)
  have H3 := Lib.hid (box_of (wr := wr) s3)
  have H4 := Lib.hid (box_of (wr := wr) s4)
  have H5 := Lib.hid (box_of (wr := wr) s5)
  replace HT := Lib.hid (HT.out.below B)
  clear s0 s1 s2 s3 s4 s5 N Y
  refine wp_region_vals yesTTDl [7, 8, 9, 10, 11, 0, 1] (yesTTDs g1 g2 g3 g4 g5 n0 n1) rfl rfl ?_ ?_ ?_ ?_ ?_ ?_
  · kernel_rfl
  · kernel_rfl
  · kernel_rfl
  · exact List.forall_mem_cons.2 ⟨rfl, List.forall_mem_cons.2 ⟨rfl, List.forall_mem_cons.2 ⟨rfl, List.forall_mem_cons.2 ⟨rfl, List.forall_mem_cons.2 ⟨rfl, List.forall_mem_cons.2 ⟨rfl, List.forall_mem_cons.2 ⟨rfl, fun _ h => nomatch h⟩⟩⟩⟩⟩⟩⟩
  · refine StepsOk.cons (st_alive HT.out rfl rfl rfl rfl) ?_
    refine StepsOk.cons (st_move rfl rfl rfl rfl rfl) ?_
    refine StepsOk.cons (st_load H1.out rfl rfl rfl rfl rfl) ?_
    refine StepsOk.cons (st_load H2.out rfl rfl rfl rfl rfl) ?_
    refine StepsOk.cons (st_mk2 rfl rfl rfl rfl rfl rfl) ?_
    refine StepsOk.cons (st_do (Lib.hid rfl).out rfl rfl rfl rfl rfl) ?_
    refine StepsOk.cons (st_move rfl rfl rfl rfl rfl) ?_
    refine StepsOk.cons (st_move rfl rfl rfl rfl rfl) ?_
    refine StepsOk.cons (st_move rfl rfl rfl rfl rfl) ?_
    refine StepsOk.cons (st_pick rfl rfl rfl rfl rfl rfl) ?_
    refine StepsOk.cons (st_yes rfl rfl rfl rfl rfl) ?_
    refine StepsOk.cons (st_eql (by simp) rfl rfl rfl rfl rfl rfl) ?_
    refine StepsOk.cons (st_pick rfl rfl rfl rfl rfl rfl) ?_
    refine StepsOk.cons (st_move rfl rfl rfl rfl rfl) ?_
    refine StepsOk.cons (st_load H1.out rfl rfl rfl rfl rfl) ?_
    refine StepsOk.cons (st_load H2.out rfl rfl rfl rfl rfl) ?_
    refine StepsOk.cons (st_mk2 rfl rfl rfl rfl rfl rfl) ?_
    refine StepsOk.cons (st_do (Lib.hid rfl).out rfl rfl rfl rfl rfl) ?_
    refine StepsOk.cons (st_move rfl rfl rfl rfl rfl) ?_
    refine StepsOk.cons (st_move rfl rfl rfl rfl rfl) ?_
    refine StepsOk.cons (st_skip rfl _ rfl rfl) ?_
    refine StepsOk.cons (st_pick rfl rfl rfl rfl rfl rfl) ?_
    refine StepsOk.cons (st_yes rfl rfl rfl rfl rfl) ?_
    refine StepsOk.cons (st_eql (by simp) rfl rfl rfl rfl rfl rfl) ?_
    refine StepsOk.cons (st_pick rfl rfl rfl rfl rfl rfl) ?_
    refine StepsOk.cons (st_move rfl rfl rfl rfl rfl) ?_
    refine StepsOk.cons (st_load H1.out rfl rfl rfl rfl rfl) ?_
    refine StepsOk.cons (st_mk1 rfl rfl rfl rfl rfl) ?_
    refine StepsOk.cons (st_do (Lib.hid rfl).out rfl rfl rfl rfl rfl) ?_
    refine StepsOk.cons (st_move rfl rfl rfl rfl rfl) ?_
    refine StepsOk.cons (st_not rfl rfl rfl rfl rfl) ?_
    refine StepsOk.cons (st_yes rfl rfl rfl rfl rfl) ?_
    refine StepsOk.cons (st_eql (by simp) rfl rfl rfl rfl rfl rfl) ?_
    refine StepsOk.cons (st_pick rfl rfl rfl rfl rfl rfl) ?_
    refine StepsOk.cons (st_move rfl rfl rfl rfl rfl) ?_
    refine StepsOk.cons (st_load H1.out rfl rfl rfl rfl rfl) ?_
    refine StepsOk.cons (st_load H2.out rfl rfl rfl rfl rfl) ?_
    refine StepsOk.cons (st_mk2 rfl rfl rfl rfl rfl rfl) ?_
    refine StepsOk.cons (st_do (Lib.hid rfl).out rfl rfl rfl rfl rfl) ?_
    refine StepsOk.cons (st_move rfl rfl rfl rfl rfl) ?_
    refine StepsOk.cons (st_move rfl rfl rfl rfl rfl) ?_
    refine StepsOk.cons (st_bin (grd_eqb _ _ _ _) (bin_eqb _ _) rfl rfl rfl rfl rfl rfl) ?_
    refine StepsOk.cons (st_yes rfl rfl rfl rfl rfl) ?_
    refine StepsOk.cons (st_eql (by simp) rfl rfl rfl rfl rfl rfl) ?_
    refine StepsOk.cons (st_pick rfl rfl rfl rfl rfl rfl) ?_
    refine StepsOk.cons (st_move rfl rfl rfl rfl rfl) ?_
    refine StepsOk.cons (st_load H1.out rfl rfl rfl rfl rfl) ?_
    refine StepsOk.cons (st_load H3.out rfl rfl rfl rfl rfl) ?_
    refine StepsOk.cons (st_load H4.out rfl rfl rfl rfl rfl) ?_
    refine StepsOk.cons (st_mk3 rfl rfl rfl rfl rfl rfl rfl) ?_
    refine StepsOk.cons (st_do (Lib.hid rfl).out rfl rfl rfl rfl rfl) ?_
    refine StepsOk.cons (st_load H5.out rfl rfl rfl rfl rfl) ?_
    refine StepsOk.cons (st_eql (by simp) rfl rfl rfl rfl rfl rfl) ?_
    refine StepsOk.cons (st_pick rfl rfl rfl rfl rfl rfl) ?_
    refine StepsOk.cons (st_move rfl rfl rfl rfl rfl) ?_
    refine StepsOk.cons (st_load H1.out rfl rfl rfl rfl rfl) ?_
    refine StepsOk.cons (st_load H2.out rfl rfl rfl rfl rfl) ?_
    refine StepsOk.cons (st_load H1.out rfl rfl rfl rfl rfl) ?_
    refine StepsOk.cons (st_mk3 rfl rfl rfl rfl rfl rfl rfl) ?_
    refine StepsOk.cons (st_do (Lib.hid rfl).out rfl rfl rfl rfl rfl) ?_
    refine StepsOk.cons (st_load H1.out rfl rfl rfl rfl rfl) ?_
    refine StepsOk.cons (st_load H2.out rfl rfl rfl rfl rfl) ?_
    refine StepsOk.cons (st_mk2 rfl rfl rfl rfl rfl rfl) ?_
    refine StepsOk.cons (st_do (Lib.hid rfl).out rfl rfl rfl rfl rfl) ?_
    refine StepsOk.cons (st_eql (by simp) rfl rfl rfl rfl rfl rfl) ?_
    refine StepsOk.cons (st_pick rfl rfl rfl rfl rfl rfl) ?_
    refine StepsOk.cons (st_move rfl rfl rfl rfl rfl) ?_
    refine StepsOk.cons (st_load H1.out rfl rfl rfl rfl rfl) ?_
    refine StepsOk.cons (st_load H2.out rfl rfl rfl rfl rfl) ?_
    refine StepsOk.cons (st_mk2 rfl rfl rfl rfl rfl rfl) ?_
    refine StepsOk.cons (st_do (Lib.hid rfl).out rfl rfl rfl rfl rfl) ?_
    refine StepsOk.cons (st_mk1 rfl rfl rfl rfl rfl) ?_
    refine StepsOk.cons (st_do (Lib.hid rfl).out rfl rfl rfl rfl rfl) ?_
    refine StepsOk.cons (st_load H1.out rfl rfl rfl rfl rfl) ?_
    refine StepsOk.cons (st_mk1 rfl rfl rfl rfl rfl) ?_
    refine StepsOk.cons (st_do (Lib.hid rfl).out rfl rfl rfl rfl rfl) ?_
    refine StepsOk.cons (st_load H2.out rfl rfl rfl rfl rfl) ?_
    refine StepsOk.cons (st_mk1 rfl rfl rfl rfl rfl) ?_
    refine StepsOk.cons (st_do (Lib.hid rfl).out rfl rfl rfl rfl rfl) ?_
    refine StepsOk.cons (st_mk2 rfl rfl rfl rfl rfl rfl) ?_
    refine StepsOk.cons (st_do (Lib.hid rfl).out rfl rfl rfl rfl rfl) ?_
    refine StepsOk.cons (st_eql (by simp) rfl rfl rfl rfl rfl rfl) ?_
    refine StepsOk.cons (st_pick rfl rfl rfl rfl rfl rfl) ?_
    refine StepsOk.cons (st_assign rfl rfl rfl rfl rfl) ?_
    exact StepsOk.nil
  intro ac w hb hdf _ _ hv
  have h6 : ac.tmps.getD 6 undef = .bool true := hv 6 (by decide)
  clear hv
  obtain ⟨T', dfs⟩ := ac
  dsimp only at hdf
  subst hdf
  go_wp2_with fail
  exact ret_slot Tryd.results6 h6 ⟨rfl, bnext B hb⟩
def yesTFDl : List Nat := [25, 26, 27, 28, 29, 30, 31, 32, 33, 34, 35, 36, 37, 38, 39, 40, 41, 42, 43, 44, 45, 46, 47, 48, 49, 50, 51, 52, 53, 54, 55, 56, 57, 58, 59, 60, 61, 62, 63, 64, 65, 66, 67, 68, 69, 70, 71, 72, 73, 74, 75, 76, 77, 78, 79, 80, 81, 82, 83, 84, 85, 86, 87, 88, 89, 90, 91, 92, 93, 94, 95, 96, 97, 98, 99, 100, 101, 102, 103, 104, 105, 106, 107, 6]
def yesTFDs (g1 g2 g3 g4 g5 : Nat) (n0 n1 : Int) : List Dv := [.lit (.bool true), .lit (.bool false), .any, .any, .any, .any, .lit (.bool true), .lit (.pointer (some ⟨g1, 0, none⟩)), .lit (.pointer (some ⟨g2, 0, none⟩)), .lit (.pointer (some ⟨g3, 0, none⟩)), .lit (.pointer (some ⟨g4, 0, none⟩)), .lit (.pointer (some ⟨g5, 0, none⟩)), .any, .any, .any, .any, .any, .any, .any, .any, .any, .any, .any, .any, .any, .lit (.bool true), .lit (.bool true), .lit (.agg #[.int .u8 2, .int .i64 (boolI true)]), .lit (.agg #[.int .u8 2, .int .i64 (boolI false)]), .vs [(2, (boolI true)), (2, (boolI false))], .lit (.agg #[.int .u8 2, .int .i64 (boolI false)]), .lit (.bool true), .lit (.bool true), .lit (.bool false), .lit (.bool false), .lit (.agg #[.int .u8 2, .int .i64 (boolI false)]), .lit (.bool true), .lit (.bool true), .lit (.bool true), .lit (.agg #[.int .u8 2, .int .i64 (boolI true)]), .lit (.agg #[.int .u8 2, .int .i64 (boolI false)]), .vs [(2, (boolI true)), (2, (boolI false))], .lit (.agg #[.int .u8 2, .int .i64 (boolI true)]), .lit (.bool true), .lit (.bool true), .any, .lit (.bool true), .lit (.agg #[.int .u8 2, .int .i64 (boolI true)]), .lit (.bool true), .lit (.bool true), .lit (.bool true), .lit (.agg #[.int .u8 2, .int .i64 (boolI true)]), .vs [(2, (boolI true))], .lit (.agg #[.int .u8 2, .int .i64 (boolI false)]), .lit (.bool true), .lit (.bool false), .lit (.agg #[.int .u8 2, .int .i64 (boolI false)]), .lit (.bool true), .lit (.bool true), .lit (.bool true), .lit (.agg #[.int .u8 2, .int .i64 (boolI true)]), .lit (.agg #[.int .u8 2, .int .i64 (boolI false)]), .vs [(2, (boolI true)), (2, (boolI false))], .lit (.agg #[.int .u8 2, .int .i64 (boolI false)]), .lit (.bool true), .lit (.bool false), .lit (.bool false), .lit (.agg #[.int .u8 2, .int .i64 (boolI false)]), .lit (.bool true), .lit (.bool true), .lit (.bool true), .lit (.agg #[.int .u8 2, .int .i64 (boolI true)]), .lit (.agg #[.int .u8 1, .int .i64 n0]), .lit (.agg #[.int .u8 1, .int .i64 n1]), .vs [(2, (boolI true)), (1, n0), (1, n1)], .lit (.agg #[.int .u8 1, .int .i64 n0]), .lit (.agg #[.int .u8 1, .int .i64 n0]), .lit (.bool true), .lit (.bool true), .lit (.bool true), .lit (.agg #[.int .u8 2, .int .i64 (boolI true)]), .lit (.agg #[.int .u8 2, .int .i64 (boolI false)]), .lit (.agg #[.int .u8 2, .int .i64 (boolI true)]), .vs [(2, (boolI true)), (2, (boolI false)), (2, (boolI true))], .lit (.agg #[.int .u8 2, .int .i64 (boolI false)]), .lit (.agg #[.int .u8 2, .int .i64 (boolI true)]), .lit (.agg #[.int .u8 2, .int .i64 (boolI false)]), .vs [(2, (boolI true)), (2, (boolI false))], .lit (.agg #[.int .u8 2, .int .i64 (boolI false)]), .lit (.bool true), .lit (.bool true), .lit (.bool true), .lit (.agg #[.int .u8 2, .int .i64 (boolI true)]), .lit (.agg #[.int .u8 2, .int .i64 (boolI false)]), .vs [(2, (boolI true)), (2, (boolI false))], .lit (.agg #[.int .u8 2, .int .i64 (boolI false)]), .vs [(2, (boolI false))], .lit (.agg #[.int .u8 2, .int .i64 (boolI true)]), .lit (.agg #[.int .u8 2, .int .i64 (boolI true)]), .vs [(2, (boolI true))], .lit (.agg #[.int .u8 2, .int .i64 (boolI false)]), .lit (.agg #[.int .u8 2, .int .i64 (boolI false)]), .vs [(2, (boolI false))], .lit (.agg #[.int .u8 2, .int .i64 (boolI true)]), .vs [(2, (boolI false)), (2, (boolI true))], .lit (.agg #[.int .u8 2, .int .i64 (boolI true)]), .lit (.bool true), .lit (.bool true)]

set_option maxRecDepth 20000 in
set_option maxHeartbeats 16000000 in
theorem yes_TF (n0 n1 : Int) (W : World) (ht : Tab W) : Calls Tryd.prog 6 #[.bool true, .bool false, .agg #[.int .i64 n0, .int .i64 n1]] W fun e w' => e = .returned (.bool true) ∧ Below W.heap.size W w' := by
  have N := Lib.hid (fun n w => nums_any n w)
  have Y := Lib.hid (fun n w => alive_yes n w)
  have HT := Lib.hid ht
  clear ht
  have B := balloc (Below.refl W.heap.size W) (.cells #[.int .i64 n0, .int .i64 n1] 33 (0, 0))
  have q0 := heap_alloc_new W (.cells #[.int .i64 n0, .int .i64 n1] 33 (0, 0))
  go_enter Tryd.func6, Tryd.ntmps6
  go_wp2_with fail
  generalize W.alloc (.cells #[.int .i64 n0, .int .i64 n1] 33 (0, 0)) = wr at *
  refine (Y.out _ _).mono ?_
  rintro e w1 ⟨rfl, b1⟩
  have q1 := (b1.block _ (lt_of_block q0)).trans q0
  have q2 := (Below.heap_alloc w1 (.cells #[.int .u8 2, .int .i64 (boolI true)] 24 (0, 0)) _ (lt_of_block q1)).trans q1
  have q3 := heap_alloc_new w1 (.cells #[.int .u8 2, .int .i64 (boolI true)] 24 (0, 0))
  replace B := balloc (bnext B b1) (.cells #[.int .u8 2, .int .i64 (boolI true)] 24 (0, 0))
  clear q0 q1 b1
  go_wp2_with fail
  generalize hx : w1.heap.size = g1 at *
  generalize w1.alloc (.cells #[.int .u8 2, .int .i64 (boolI true)] 24 (0, 0)) = wr at *
  clear hx
  refine (Y.out _ _).mono ?_
  rintro e w3 ⟨rfl, b3⟩
  have q4 := (b3.block _ (lt_of_block q2)).trans q2
  have q5 := (Below.heap_alloc w3 (.cells #[.int .u8 2, .int .i64 (boolI false)] 24 (0, 0)) _ (lt_of_block q4)).trans q4
  have q6 := (b3.block _ (lt_of_block q3)).trans q3
  have q7 := (Below.heap_alloc w3 (.cells #[.int .u8 2, .int .i64 (boolI false)] 24 (0, 0)) _ (lt_of_block q6)).trans q6
  have q8 := heap_alloc_new w3 (.cells #[.int .u8 2, .int .i64 (boolI false)] 24 (0, 0))
  replace B := balloc (bnext B b3) (.cells #[.int .u8 2, .int .i64 (boolI false)] 24 (0, 0))
  clear q2 q4 q3 q6 b3
  have y0_0 := cell_of_row _ _ 0 _ _ _ q5
  have y0_1 := cell_of_row _ _ 1 _ _ _ q5
  go_wp2_with fail
  generalize hx : w3.heap.size = g2 at *
  generalize w3.alloc (.cells #[.int .u8 2, .int .i64 (boolI false)] 24 (0, 0)) = wr at *
  clear hx y0_0 y0_1
  refine (N.out _ _).mono ?_
  rintro e w5 ⟨rfl, b5⟩
  have q9 := (b5.block _ (lt_of_block q5)).trans q5
  have q10 := (Below.heap_alloc w5 (.cells #[.int .u8 1, .int .i64 n0] 24 (0, 0)) _ (lt_of_block q9)).trans q9
  have q11 := (b5.block _ (lt_of_block q7)).trans q7
  have q12 := (Below.heap_alloc w5 (.cells #[.int .u8 1, .int .i64 n0] 24 (0, 0)) _ (lt_of_block q11)).trans q11
  have q13 := (b5.block _ (lt_of_block q8)).trans q8
  have q14 := (Below.heap_alloc w5 (.cells #[.int .u8 1, .int .i64 n0] 24 (0, 0)) _ (lt_of_block q13)).trans q13
  have q15 := heap_alloc_new w5 (.cells #[.int .u8 1, .int .i64 n0] 24 (0, 0))
  replace B := balloc (bnext B b5) (.cells #[.int .u8 1, .int .i64 n0] 24 (0, 0))
  clear q5 q9 q7 q11 q8 q13 b5
  have y0_0 := cell_of_row _ _ 0 _ _ _ q10
  have y0_1 := cell_of_row _ _ 1 _ _ _ q10
  go_wp2_with fail
  generalize hx : w5.heap.size = g3 at *
  generalize w5.alloc (.cells #[.int .u8 1, .int .i64 n0] 24 (0, 0)) = wr at *
  clear hx y0_0 y0_1
  refine (N.out _ _).mono ?_
  rintro e w7 ⟨rfl, b7⟩
  have q16 := (b7.block _ (lt_of_block q10)).trans q10
  have q17 := (Below.heap_alloc w7 (.cells #[.int .u8 1, .int .i64 n1] 24 (0, 0)) _ (lt_of_block q16)).trans q16
  have q18 := (b7.block _ (lt_of_block q12)).trans q12
  have q19 := (Below.heap_alloc w7 (.cells #[.int .u8 1, .int .i64 n1] 24 (0, 0)) _ (lt_of_block q18)).trans q18
  have q20 := (b7.block _ (lt_of_block q14)).trans q14
  have q21 := (Below.heap_alloc w7 (.cells #[.int .u8 1, .int .i64 n1] 24 (0, 0)) _ (lt_of_block q20)).trans q20
  have q22 := (b7.block _ (lt_of_block q15)).trans q15
  have q23 := (Below.heap_alloc w7 (.cells #[.int .u8 1, .int .i64 n1] 24 (0, 0)) _ (lt_of_block q22)).trans q22
  have q24 := heap_alloc_new w7 (.cells #[.int .u8 1, .int .i64 n1] 24 (0, 0))
  replace B := balloc (bnext B b7) (.cells #[.int .u8 1, .int .i64 n1] 24 (0, 0))
  clear q10 q16 q12 q18 q14 q20 q15 q22 b7
  have r0 := (Below.heap_alloc (w7.alloc (.cells #[.int .u8 1, .int .i64 n1] 24 (0, 0))) (.cells #[.int .u8 1, .int .i64 n1] 24 (0, 0)) _ (lt_of_block q17)).trans q17
  have r1 := (Below.heap_alloc (w7.alloc (.cells #[.int .u8 1, .int .i64 n1] 24 (0, 0))) (.cells #[.int .u8 1, .int .i64 n1] 24 (0, 0)) _ (lt_of_block q19)).trans q19
  have r2 := (Below.heap_alloc (w7.alloc (.cells #[.int .u8 1, .int .i64 n1] 24 (0, 0))) (.cells #[.int .u8 1, .int .i64 n1] 24 (0, 0)) _ (lt_of_block q21)).trans q21
  have r3 := (Below.heap_alloc (w7.alloc (.cells #[.int .u8 1, .int .i64 n1] 24 (0, 0))) (.cells #[.int .u8 1, .int .i64 n1] 24 (0, 0)) _ (lt_of_block q23)).trans q23
  have r4 := (Below.heap_alloc (w7.alloc (.cells #[.int .u8 1, .int .i64 n1] 24 (0, 0))) (.cells #[.int .u8 1, .int .i64 n1] 24 (0, 0)) _ (lt_of_block q24)).trans q24
  have r5 : ((w7.alloc (.cells #[.int .u8 1, .int .i64 n1] 24 (0, 0))).alloc (.cells #[.int .u8 1, .int .i64 n1] 24 (0, 0))).heap[w7.heap.size + 1]? = _ := (by simp : (w7.alloc (.cells #[.int .u8 1, .int .i64 n1] 24 (0, 0))).heap.size = w7.heap.size + 1) ▸ heap_alloc_new (w7.alloc (.cells #[.int .u8 1, .int .i64 n1] 24 (0, 0))) (.cells #[.int .u8 1, .int .i64 n1] 24 (0, 0))
  have y4_0 := cell_of_row _ _ 0 _ _ _ q24
  have y4_1 := cell_of_row _ _ 1 _ _ _ q24
  have z3_0 := cell_of_row _ _ 0 _ _ _ r3
  have z3_1 := cell_of_row _ _ 1 _ _ _ r3
  go_wp2_with fail
  clear r0 r1 r2 r3 r4 r5 y4_0 y4_1 z3_0 z3_1
  have s0 := (Below.heap_alloc (w7.alloc (.cells #[.int .u8 1, .int .i64 n1] 24 (0, 0))) (.cells #[.int .u8 1, .int .i64 n0] 24 (0, 0)) _ (lt_of_block q17)).trans q17
  have s1 := (Below.heap_alloc (w7.alloc (.cells #[.int .u8 1, .int .i64 n1] 24 (0, 0))) (.cells #[.int .u8 1, .int .i64 n0] 24 (0, 0)) _ (lt_of_block q19)).trans q19
  have s2 := (Below.heap_alloc (w7.alloc (.cells #[.int .u8 1, .int .i64 n1] 24 (0, 0))) (.cells #[.int .u8 1, .int .i64 n0] 24 (0, 0)) _ (lt_of_block q21)).trans q21
  have s3 := (Below.heap_alloc (w7.alloc (.cells #[.int .u8 1, .int .i64 n1] 24 (0, 0))) (.cells #[.int .u8 1, .int .i64 n0] 24 (0, 0)) _ (lt_of_block q23)).trans q23
  have s4 := (Below.heap_alloc (w7.alloc (.cells #[.int .u8 1, .int .i64 n1] 24 (0, 0))) (.cells #[.int .u8 1, .int .i64 n0] 24 (0, 0)) _ (lt_of_block q24)).trans q24
  have s5 : ((w7.alloc (.cells #[.int .u8 1, .int .i64 n1] 24 (0, 0))).alloc (.cells #[.int .u8 1, .int .i64 n0] 24 (0, 0))).heap[w7.heap.size + 1]? = _ := (by simp : (w7.alloc (.cells #[.int .u8 1, .int .i64 n1] 24 (0, 0))).heap.size = w7.heap.size + 1) ▸ heap_alloc_new (w7.alloc (.cells #[.int .u8 1, .int .i64 n1] 24 (0, 0))) (.cells #[.int .u8 1, .int .i64 n0] 24 (0, 0))
  replace B := balloc B (.cells #[.int .u8 1, .int .i64 n0] 24 (0, 0))
  clear q17 q19 q21 q23 q24
  generalize w7.heap.size + 1 = g5 at *
  generalize w7.heap.size = g4 at *
  generalize ((w7.alloc (.cells #[.int .u8 1, .int .i64 n1] 24 (0, 0))).alloc (.cells #[.int .u8 1, .int .i64 n0] 24 (0, 0))) = wr at *
  have H1 := Lib.hid (box_of (wr := wr) s1)
  have H2 := Lib.hid (box_of (wr := wr) s2)
  have H3 := Lib.hid (box_of (wr := wr) s3)
  have H4 := Lib.hid (box_of (wr := wr) s4)
  have H5 := Lib.hid (box_of (wr := wr) s5)
  replace HT := Lib.hid (HT.out.below B)
  clear s0 s1 s2 s3 s4 s5 N Y
  refine wp_region_vals yesTFDl [7, 8, 9, 10, 11, 0, 1] (yesTFDs g1 g2 g3 g4 g5 n0 n1) rfl rfl ?_ ?_ ?_ ?_ ?_ ?_
  · kernel_rfl
  · kernel_rfl
  · kernel_rfl
  · exact List.forall_mem_cons.2 ⟨rfl, List.forall_mem_cons.2 ⟨rfl, List.forall_mem_cons.2 ⟨rfl, List.forall_mem_cons.2 ⟨rfl, List.forall_mem_cons.2 ⟨rfl, List.forall_mem_cons.2 ⟨rfl, List.forall_mem_cons.2 ⟨rfl, fun _ h => nomatch h⟩⟩⟩⟩⟩⟩⟩
  · refine StepsOk.cons (st_alive HT.out rfl rfl rfl rfl) ?_
    refine StepsOk.cons (st_move rfl rfl rfl rfl rfl) ?_
    refine StepsOk.cons (st_load H1.out rfl rfl rfl rfl rfl) ?_
    refine StepsOk.cons (st_load H2.out rfl rfl rfl rfl rfl) ?_
    refine StepsOk.cons (st_mk2 rfl rfl rfl rfl rfl rfl) ?_
    refine StepsOk.cons (st_do (Lib.hid rfl).out rfl rfl rfl rfl rfl) ?_
    refine StepsOk.cons (st_move rfl rfl rfl rfl rfl) ?_
    refine StepsOk.cons (st_move rfl rfl rfl rfl rfl) ?_
    refine StepsOk.cons (st_move rfl rfl rfl rfl rfl) ?_
    refine StepsOk.cons (st_pick rfl rfl rfl rfl rfl rfl) ?_
    refine StepsOk.cons (st_yes rfl rfl rfl rfl rfl) ?_
    refine StepsOk.cons (st_eql (by simp) rfl rfl rfl rfl rfl rfl) ?_
    refine StepsOk.cons (st_pick rfl rfl rfl rfl rfl rfl) ?_
    refine StepsOk.cons (st_move rfl rfl rfl rfl rfl) ?_
    refine StepsOk.cons (st_load H1.out rfl rfl rfl rfl rfl) ?_
    refine StepsOk.cons (st_load H2.out rfl rfl rfl rfl rfl) ?_
    refine StepsOk.cons (st_mk2 rfl rfl rfl rfl rfl rfl) ?_
    refine StepsOk.cons (st_do (Lib.hid rfl).out rfl rfl rfl rfl rfl) ?_
    refine StepsOk.cons (st_move rfl rfl rfl rfl rfl) ?_
    refine StepsOk.cons (st_move rfl rfl rfl rfl rfl) ?_
    refine StepsOk.cons (st_skip rfl _ rfl rfl) ?_
    refine StepsOk.cons (st_pick rfl rfl rfl rfl rfl rfl) ?_
    refine StepsOk.cons (st_yes rfl rfl rfl rfl rfl) ?_
    refine StepsOk.cons (st_eql (by simp) rfl rfl rfl rfl rfl rfl) ?_
    refine StepsOk.cons (st_pick rfl rfl rfl rfl rfl rfl) ?_
    refine StepsOk.cons (st_move rfl rfl rfl rfl rfl) ?_
    refine StepsOk.cons (st_load H1.out rfl rfl rfl rfl rfl) ?_
    refine StepsOk.cons (st_mk1 rfl rfl rfl rfl rfl) ?_
    refine StepsOk.cons (st_do (Lib.hid rfl).out rfl rfl rfl rfl rfl) ?_
    refine StepsOk.cons (st_move rfl rfl rfl rfl rfl) ?_
    refine StepsOk.cons (st_not rfl rfl rfl rfl rfl) ?_
    refine StepsOk.cons (st_yes rfl rfl rfl rfl rfl) ?_
    refine StepsOk.cons (st_eql (by simp) rfl rfl rfl rfl rfl rfl) ?_
    refine StepsOk.cons (st_pick rfl rfl rfl rfl rfl rfl) ?_
    refine StepsOk.cons (st_move rfl rfl rfl rfl rfl) ?_
    refine StepsOk.cons (st_load H1.out rfl rfl rfl rfl rfl) ?_
    refine StepsOk.cons (st_load H2.out rfl rfl rfl rfl rfl) ?_
    refine StepsOk.cons (st_mk2 rfl rfl rfl rfl rfl rfl) ?_
    refine StepsOk.cons (st_do (Lib.hid rfl).out rfl rfl rfl rfl rfl) ?_
    refine StepsOk.cons (st_move rfl rfl rfl rfl rfl) ?_
    refine StepsOk.cons (st_move rfl rfl rfl rfl rfl) ?_
    refine StepsOk.cons (st_bin (grd_eqb _ _ _ _) (bin_eqb _ _) rfl rfl rfl rfl rfl rfl) ?_
    refine StepsOk.cons (st_yes rfl rfl rfl rfl rfl) ?_
    refine StepsOk.cons (st_eql (by simp) rfl rfl rfl rfl rfl rfl) ?_
    refine StepsOk.cons (st_pick rfl rfl rfl rfl rfl rfl) ?_
    refine StepsOk.cons (st_move rfl rfl rfl rfl rfl) ?_
    refine StepsOk.cons (st_load H1.out rfl rfl rfl rfl rfl) ?_
    refine StepsOk.cons (st_load H3.out rfl rfl rfl rfl rfl) ?_
    refine StepsOk.cons (st_load H4.out rfl rfl rfl rfl rfl) ?_
    refine StepsOk.cons (st_mk3 rfl rfl rfl rfl rfl rfl rfl) ?_
    refine StepsOk.cons (st_do (Lib.hid rfl).out rfl rfl rfl rfl rfl) ?_
    refine StepsOk.cons (st_load H5.out rfl rfl rfl rfl rfl) ?_
    refine StepsOk.cons (st_eql (by simp) rfl rfl rfl rfl rfl rfl) ?_
    refine StepsOk.cons (st_pick rfl rfl rfl rfl rfl rfl) ?_
    refine StepsOk.cons (st_move rfl rfl rfl rfl rfl) ?_
    refine StepsOk.cons (st_load H1.out rfl rfl rfl rfl rfl) ?_
    refine StepsOk.cons (st_load H2.out rfl rfl rfl rfl rfl) ?_
    refine StepsOk.cons (st_load H1.out rfl rfl rfl rfl rfl) ?_
    refine StepsOk.cons (st_mk3 rfl rfl rfl rfl rfl rfl rfl) ?_
    refine StepsOk.cons (st_do (Lib.hid rfl).out rfl rfl rfl rfl rfl) ?_
    refine StepsOk.cons (st_load H1.out rfl rfl rfl rfl rfl) ?_
    refine StepsOk.cons (st_load H2.out rfl rfl rfl rfl rfl) ?_
    refine StepsOk.cons (st_mk2 rfl rfl rfl rfl rfl rfl) ?_
    refine StepsOk.cons (st_do (Lib.hid rfl).out rfl rfl rfl rfl rfl) ?_
    refine StepsOk.cons (st_eql (by simp) rfl rfl rfl rfl rfl rfl) ?_
    refine StepsOk.cons (st_pick rfl rfl rfl rfl rfl rfl) ?_
    refine StepsOk.cons (st_move rfl rfl rfl rfl rfl) ?_
    refine StepsOk.cons (st_load H1.out rfl rfl rfl rfl rfl) ?_
    refine StepsOk.cons (st_load H2.out rfl rfl rfl rfl rfl) ?_
    refine StepsOk.cons (st_mk2 rfl rfl rfl rfl rfl rfl) ?_
    refine StepsOk.cons (st_do (Lib.hid rfl).out rfl rfl rfl rfl rfl) ?_
    refine StepsOk.cons (st_mk1 rfl rfl rfl rfl rfl) ?_
    refine StepsOk.cons (st_do (Lib.hid rfl).out rfl rfl rfl rfl rfl) ?_
    refine StepsOk.cons (st_load H1.out rfl rfl rfl rfl rfl) ?_
    refine StepsOk.cons (st_mk1 rfl rfl rfl rfl rfl) ?_
    refine StepsOk.cons (st_do (Lib.hid rfl).out rfl rfl rfl rfl rfl) ?_
    refine StepsOk.cons (st_load H2.out rfl rfl rfl rfl rfl) ?_
    refine StepsOk.cons (st_mk1 rfl rfl rfl rfl rfl) ?_
    refine StepsOk.cons (st_do (Lib.hid rfl).out rfl rfl rfl rfl rfl) ?_
    refine StepsOk.cons (st_mk2 rfl rfl rfl rfl rfl rfl) ?_
    refine StepsOk.cons (st_do (Lib.hid rfl).out rfl rfl rfl rfl rfl) ?_
    refine StepsOk.cons (st_eql (by simp) rfl rfl rfl rfl rfl rfl) ?_
    refine StepsOk.cons (st_pick rfl rfl rfl rfl rfl rfl) ?_
    refine StepsOk.cons (st_assign rfl rfl rfl rfl rfl) ?_
    exact StepsOk.nil
  intro ac w hb hdf _ _ hv
  have h6 : ac.tmps.getD 6 undef = .bool true := hv 6 (by decide)
  clear hv
  obtain ⟨T', dfs⟩ := ac
  dsimp only at hdf
  subst hdf
  go_wp2_with fail
  exact ret_slot Tryd.results6 h6 ⟨rfl, bnext B hb⟩
def yesFTDl : List Nat := [25, 26, 27, 28, 29, 30, 31, 32, 33, 34, 35, 36, 37, 38, 39, 40, 41, 42, 43, 44, 45, 46, 47, 48, 49, 50, 51, 52, 53, 54, 55, 56, 57, 58, 59, 60, 61, 62, 63, 64, 65, 66, 67, 68, 69, 70, 71, 72, 73, 74, 75, 76, 77, 78, 79, 80, 81, 82, 83, 84, 85, 86, 87, 88, 89, 90, 91, 92, 93, 94, 95, 96, 97, 98, 99, 100, 101, 102, 103, 104, 105, 106, 107, 6]
def yesFTDs (g1 g2 g3 g4 g5 : Nat) (n0 n1 : Int) : List Dv := [.lit (.bool false), .lit (.bool true), .any, .any, .any, .any, .lit (.bool true), .lit (.pointer (some ⟨g1, 0, none⟩)), .lit (.pointer (some ⟨g2, 0, none⟩)), .lit (.pointer (some ⟨g3, 0, none⟩)), .lit (.pointer (some ⟨g4, 0, none⟩)), .lit (.pointer (some ⟨g5, 0, none⟩)), .any, .any, .any, .any, .any, .any, .any, .any, .any, .any, .any, .any, .any, .lit (.bool true), .lit (.bool true), .lit (.agg #[.int .u8 2, .int .i64 (boolI false)]), .lit (.agg #[.int .u8 2, .int .i64 (boolI true)]), .vs [(2, (boolI false)), (2, (boolI true))], .lit (.agg #[.int .u8 2, .int .i64 (boolI false)]), .lit (.bool false), .lit (.bool false), .any, .lit (.bool false), .lit (.agg #[.int .u8 2, .int .i64 (boolI false)]), .lit (.bool true), .lit (.bool true), .lit (.bool true), .lit (.agg #[.int .u8 2, .int .i64 (boolI false)]), .lit (.agg #[.int .u8 2, .int .i64 (boolI true)]), .vs [(2, (boolI false)), (2, (boolI true))], .lit (.agg #[.int .u8 2, .int .i64 (boolI true)]), .lit (.bool false), .lit (.bool false), .lit (.bool true), .lit (.bool true), .lit (.agg #[.int .u8 2, .int .i64 (boolI true)]), .lit (.bool true), .lit (.bool true), .lit (.bool true), .lit (.agg #[.int .u8 2, .int .i64 (boolI false)]), .vs [(2, (boolI false))], .lit (.agg #[.int .u8 2, .int .i64 (boolI true)]), .lit (.bool false), .lit (.bool true), .lit (.agg #[.int .u8 2, .int .i64 (boolI true)]), .lit (.bool true), .lit (.bool true), .lit (.bool true), .lit (.agg #[.int .u8 2, .int .i64 (boolI false)]), .lit (.agg #[.int .u8 2, .int .i64 (boolI true)]), .vs [(2, (boolI false)), (2, (boolI true))], .lit (.agg #[.int .u8 2, .int .i64 (boolI false)]), .lit (.bool false), .lit (.bool true), .lit (.bool false), .lit (.agg #[.int .u8 2, .int .i64 (boolI false)]), .lit (.bool true), .lit (.bool true), .lit (.bool true), .lit (.agg #[.int .u8 2, .int .i64 (boolI false)]), .lit (.agg #[.int .u8 1, .int .i64 n0]), .lit (.agg #[.int .u8 1, .int .i64 n1]), .vs [(2, (boolI false)), (1, n0), (1, n1)], .lit (.agg #[.int .u8 1, .int .i64 n1]), .lit (.agg #[.int .u8 1, .int .i64 n1]), .lit (.bool true), .lit (.bool true), .lit (.bool true), .lit (.agg #[.int .u8 2, .int .i64 (boolI false)]), .lit (.agg #[.int .u8 2, .int .i64 (boolI true)]), .lit (.agg #[.int .u8 2, .int .i64 (boolI false)]), .vs [(2, (boolI false)), (2, (boolI true)), (2, (boolI false))], .lit (.agg #[.int .u8 2, .int .i64 (boolI false)]), .lit (.agg #[.int .u8 2, .int .i64 (boolI false)]), .lit (.agg #[.int .u8 2, .int .i64 (boolI true)]), .vs [(2, (boolI false)), (2, (boolI true))], .lit (.agg #[.int .u8 2, .int .i64 (boolI false)]), .lit (.bool true), .lit (.bool true), .lit (.bool true), .lit (.agg #[.int .u8 2, .int .i64 (boolI false)]), .lit (.agg #[.int .u8 2, .int .i64 (boolI true)]), .vs [(2, (boolI false)), (2, (boolI true))], .lit (.agg #[.int .u8 2, .int .i64 (boolI false)]), .vs [(2, (boolI false))], .lit (.agg #[.int .u8 2, .int .i64 (boolI true)]), .lit (.agg #[.int .u8 2, .int .i64 (boolI false)]), .vs [(2, (boolI false))], .lit (.agg #[.int .u8 2, .int .i64 (boolI true)]), .lit (.agg #[.int .u8 2, .int .i64 (boolI true)]), .vs [(2, (boolI true))], .lit (.agg #[.int .u8 2, .int .i64 (boolI false)]), .vs [(2, (boolI true)), (2, (boolI false))], .lit (.agg #[.int .u8 2, .int .i64 (boolI true)]), .lit (.bool true), .lit (.bool true)]

set_option maxRecDepth 20000 in
set_option maxHeartbeats 16000000 in
theorem yes_FT (n0 n1 : Int) (W : World) (ht : Tab W) : Calls Tryd.prog 6 #[.bool false, .bool true, .agg #[.int .i64 n0, .int .i64 n1]] W fun e w' => e = .returned (.bool true) ∧ Below W.heap.size W w' := by
  have N := Lib.hid (fun n w => nums_any n w)
  have Y := Lib.hid (fun n w => alive_yes n w)
  have HT := Lib.hid ht
  clear ht
  have B := balloc (Below.refl W.heap.size W) (.cells #[.int .i64 n0, .int .i64 n1] 33 (0, 0))
  have q0 := heap_alloc_new W (.cells #[.int .i64 n0, .int .i64 n1] 33 (0, 0))
  go_enter Tryd.func6, Tryd.ntmps6
  go_wp2_with fail
  generalize W.alloc (.cells #[.int .i64 n0, .int .i64 n1] 33 (0, 0)) = wr at *
  refine (Y.out _ _).mono ?_
  rintro e w1 ⟨rfl, b1⟩
  have q1 := (b1.block _ (lt_of_block q0)).trans q0
  have q2 := (Below.heap_alloc w1 (.cells #[.int .u8 2, .int .i64 (boolI false)] 24 (0, 0)) _ (lt_of_block q1)).trans q1
  have q3 := heap_alloc_new w1 (.cells #[.int .u8 2, .int .i64 (boolI false)] 24 (0, 0))
  replace B := balloc (bnext B b1) (.cells #[.int .u8 2, .int .i64 (boolI false)] 24 (0, 0))
  clear q0 q1 b1
  go_wp2_with fail
  generalize hx : w1.heap.size = g1 at *
  generalize w1.alloc (.cells #[.int .u8 2, .int .i64 (boolI false)] 24 (0, 0)) = wr at *
  clear hx
  refine (Y.out _ _).mono ?_
  rintro e w3 ⟨rfl, b3⟩
  have q4 := (b3.block _ (lt_of_block q2)).trans q2
  have q5 := (Below.heap_alloc w3 (.cells #[.int .u8 2, .int .i64 (boolI true)] 24 (0, 0)) _ (lt_of_block q4)).trans q4
  have q6 := (b3.block _ (lt_of_block q3)).trans q3
  have q7 := (Below.heap_alloc w3 (.cells #[.int .u8 2, .int .i64 (boolI true)] 24 (0, 0)) _ (lt_of_block q6)).trans q6
  have q8 := heap_alloc_new w3 (.cells #[.int .u8 2, .int .i64 (boolI true)] 24 (0, 0))
  replace B := balloc (bnext B b3) (.cells #[.int .u8 2, .int .i64 (boolI true)] 24 (0, 0))
  clear q2 q4 q3 q6 b3
  have y0_0 := cell_of_row _ _ 0 _ _ _ q5
  have y0_1 := cell_of_row _ _ 1 _ _ _ q5
  go_wp2_with fail
  generalize hx : w3.heap.size = g2 at *
  generalize w3.alloc (.cells #[.int .u8 2, .int .i64 (boolI true)] 24 (0, 0)) = wr at *
  clear hx y0_0 y0_1
  refine (N.out _ _).mono ?_
  rintro e w5 ⟨rfl, b5⟩
  have q9 := (b5.block _ (lt_of_block q5)).trans q5
  have q10 := (Below.heap_alloc w5 (.cells #[.int .u8 1, .int .i64 n0] 24 (0, 0)) _ (lt_of_block q9)).trans q9
  have q11 := (b5.block _ (lt_of_block q7)).trans q7
  have q12 := (Below.heap_alloc w5 (.cells #[.int .u8 1, .int .i64 n0] 24 (0, 0)) _ (lt_of_block q11)).trans q11
  have q13 := (b5.block _ (lt_of_block q8)).trans q8
  have q14 := (Below.heap_alloc w5 (.cells #[.int .u8 1, .int .i64 n0] 24 (0, 0)) _ (lt_of_block q13)).trans q13
  have q15 := heap_alloc_new w5 (.cells #[.int .u8 1, .int .i64 n0] 24 (0, 0))
  replace B := balloc (bnext B b5) (.cells #[.int .u8 1, .int .i64 n0] 24 (0, 0))
  clear q5 q9 q7 q11 q8 q13 b5
  have y0_0 := cell_of_row _ _ 0 _ _ _ q10
  have y0_1 := cell_of_row _ _ 1 _ _ _ q10
  go_wp2_with fail
  generalize hx : w5.heap.size = g3 at *
  generalize w5.alloc (.cells #[.int .u8 1, .int .i64 n0] 24 (0, 0)) = wr at *
  clear hx y0_0 y0_1
  refine (N.out _ _).mono ?_
  rintro e w7 ⟨rfl, b7⟩
  have q16 := (b7.block _ (lt_of_block q10)).trans q10
  have q17 := (Below.heap_alloc w7 (.cells #[.int .u8 1, .int .i64 n1] 24 (0, 0)) _ (lt_of_block q16)).trans q16
  have q18 := (b7.block _ (lt_of_block q12)).trans q12
  have q19 := (Below.heap_alloc w7 (.cells #[.int .u8 1, .int .i64 n1] 24 (0, 0)) _ (lt_of_block q18)).trans q18
  have q20 := (b7.block _ (lt_of_block q14)).trans q14
  have q21 := (Below.heap_alloc w7 (.cells #[.int .u8 1, .int .i64 n1] 24 (0, 0)) _ (lt_of_block q20)).trans q20
  have q22 := (b7.block _ (lt_of_block q15)).trans q15
  have q23 := (Below.heap_alloc w7 (.cells #[.int .u8 1, .int .i64 n1] 24 (0, 0)) _ (lt_of_block q22)).trans q22
  have q24 := heap_alloc_new w7 (.cells #[.int .u8 1, .int .i64 n1] 24 (0, 0))
  replace B := balloc (bnext B b7) (.cells #[.int .u8 1, .int .i64 n1] 24 (0, 0))
  clear q10 q16 q12 q18 q14 q20 q15 q22 b7
  have r0 := (Below.heap_alloc (w7.alloc (.cells #[.int .u8 1, .int .i64 n1] 24 (0, 0))) (.cells #[.int .u8 1, .int .i64 n1] 24 (0, 0)) _ (lt_of_block q17)).trans q17
  have r1 := (Below.heap_alloc (w7.alloc (.cells #[.int .u8 1, .int .i64 n1] 24 (0, 0))) (.cells #[.int .u8 1, .int .i64 n1] 24 (0, 0)) _ (lt_of_block q19)).trans q19
  have r2 := (Below.heap_alloc (w7.alloc (.cells #[.int .u8 1, .int .i64 n1] 24 (0, 0))) (.cells #[.int .u8 1, .int .i64 n1] 24 (0, 0)) _ (lt_of_block q21)).trans q21
  have r3 := (Below.heap_alloc (w7.alloc (.cells #[.int .u8 1, .int .i64 n1] 24 (0, 0))) (.cells #[.int .u8 1, .int .i64 n1] 24 (0, 0)) _ (lt_of_block q23)).trans q23
  have r4 := (Below.heap_alloc (w7.alloc (.cells #[.int .u8 1, .int .i64 n1] 24 (0, 0))) (.cells #[.int .u8 1, .int .i64 n1] 24 (0, 0)) _ (lt_of_block q24)).trans q24
  have r5 : ((w7.alloc (.cells #[.int .u8 1, .int .i64 n1] 24 (0, 0))).alloc (.cells #[.int .u8 1, .int .i64 n1] 24 (0, 0))).heap[w7.heap.size + 1]? = _ := (by simp : (w7.alloc (.cells #[.int .u8 1, .int .i64 n1] 24 (0, 0))).heap.size = w7.heap.size + 1) ▸ heap_alloc_new (w7.alloc (.cells #[.int .u8 1, .int .i64 n1] 24 (0, 0))) (.cells #[.int .u8 1, .int .i64 n1] 24 (0, 0))
  have y4_0 := cell_of_row _ _ 0 _ _ _ q24
  have y4_1 := cell_of_row _ _ 1 _ _ _ q24
  go_wp2_with fail
  clear r0 r1 r2 r3 r4 r5 y4_0 y4_1
  have s0 := (Below.heap_alloc (w7.alloc (.cells #[.int .u8 1, .int .i64 n1] 24 (0, 0))) (.cells #[.int .u8 1, .int .i64 n1] 24 (0, 0)) _ (lt_of_block q17)).trans q17
  have s1 := (Below.heap_alloc (w7.alloc (.cells #[.int .u8 1, .int .i64 n1] 24 (0, 0))) (.cells #[.int .u8 1, .int .i64 n1] 24 (0, 0)) _ (lt_of_block q19)).trans q19
  have s2 := (Below.heap_alloc (w7.alloc (.cells #[.int .u8 1, .int .i64 n1] 24 (0, 0))) (.cells #[.int .u8 1, .int .i64 n1] 24 (0, 0)) _ (lt_of_block q21)).trans q21
  have s3 := (Below.heap_alloc (w7.alloc (.cells #[.int .u8 1, .int .i64 n1] 24 (0, 0))) (.cells #[.int .u8 1, .int .i64 n1] 24 (0, 0)) _ (lt_of_block q23)).trans q23
  have s4 := (Below.heap_alloc (w7.alloc (.cells #[.int .u8 1, .int .i64 n1] 24 (0, 0))) (.cells #[.int .u8 1, .int .i64 n1] 24 (0, 0)) _ (lt_of_block q24)).trans q24
  have s5 : ((w7.alloc (.cells #[.int .u8 1, .int .i64 n1] 24 (0, 0))).alloc (.cells #[.int .u8 1, .int .i64 n1] 24 (0, 0))).heap[w7.heap.size + 1]? = _ := (by simp : (w7.alloc (.cells #[.int .u8 1, .int .i64 n1] 24 (0, 0))).heap.size = w7.heap.size + 1) ▸ heap_alloc_new (w7.alloc (.cells #[.int .u8 1, .int .i64 n1] 24 (0, 0))) (.cells #[.int .u8 1, .int .i64 n1] 24 (0, 0))
  replace B := balloc B (.cells #[.int .u8 1, .int .i64 n1] 24 (0, 0))
  clear q17 q19 q21 q23 q24
  generalize w7.heap.size + 1 = g5 at *
  generalize w7.heap.size = g4 at *
  generalize ((w7.alloc (.cells #[.int .u8 1, .int .i64 n1] 24 (0, 0))).alloc (.cells #[.int .u8 1, .int .i64 n1] 24 (0, 0))) = wr at *
  have H1 := Lib.hid (box_of (wr := wr) s1)
  have H2 := Lib.hid (box_of (wr := wr) s2)
  have H3 := Lib.hid (box_of (wr := wr) s3)
  have H4 := Lib.hid (box_of (wr := wr) s4)
  have H5 := Lib.hid (box_of (wr := wr) s5)
  replace HT := Lib.hid (HT.out.below B)
  clear s0 s1 s2 s3 s4 s5 N Y
  refine wp_region_vals yesFTDl [7, 8, 9, 10, 11, 0, 1] (yesFTDs g1 g2 g3 g4 g5 n0 n1) rfl rfl ?_ ?_ ?_ ?_ ?_ ?_
  · kernel_rfl
  · kernel_rfl
  · kernel_rfl
  · exact List.forall_mem_cons.2 ⟨rfl, List.forall_mem_cons.2 ⟨rfl, List.forall_mem_cons.2 ⟨rfl, List.forall_mem_cons.2 ⟨rfl, List.forall_mem_cons.2 ⟨rfl, List.forall_mem_cons.2 ⟨rfl, List.forall_mem_cons.2 ⟨rfl, fun _ h => nomatch h⟩⟩⟩⟩⟩⟩⟩
  · refine StepsOk.cons (st_alive HT.out rfl rfl rfl rfl) ?_
    refine StepsOk.cons (st_move rfl rfl rfl rfl rfl) ?_
    refine StepsOk.cons (st_load H1.out rfl rfl rfl rfl rfl) ?_
    refine StepsOk.cons (st_load H2.out rfl rfl rfl rfl rfl) ?_
    refine StepsOk.cons (st_mk2 rfl rfl rfl rfl rfl rfl) ?_
    refine StepsOk.cons (st_do (Lib.hid rfl).out rfl rfl rfl rfl rfl) ?_
    refine StepsOk.cons (st_move rfl rfl rfl rfl rfl) ?_
    refine StepsOk.cons (st_move rfl rfl rfl rfl rfl) ?_
    refine StepsOk.cons (st_skip rfl _ rfl rfl) ?_
    refine StepsOk.cons (st_pick rfl rfl rfl rfl rfl rfl) ?_
    refine StepsOk.cons (st_yes rfl rfl rfl rfl rfl) ?_
    refine StepsOk.cons (st_eql (by simp) rfl rfl rfl rfl rfl rfl) ?_
    refine StepsOk.cons (st_pick rfl rfl rfl rfl rfl rfl) ?_
    refine StepsOk.cons (st_move rfl rfl rfl rfl rfl) ?_
    refine StepsOk.cons (st_load H1.out rfl rfl rfl rfl rfl) ?_
    refine StepsOk.cons (st_load H2.out rfl rfl rfl rfl rfl) ?_
    refine StepsOk.cons (st_mk2 rfl rfl rfl rfl rfl rfl) ?_
    refine StepsOk.cons (st_do (Lib.hid rfl).out rfl rfl rfl rfl rfl) ?_
    refine StepsOk.cons (st_move rfl rfl rfl rfl rfl) ?_
    refine StepsOk.cons (st_move rfl rfl rfl rfl rfl) ?_
    refine StepsOk.cons (st_move rfl rfl rfl rfl rfl) ?_
    refine StepsOk.cons (st_pick rfl rfl rfl rfl rfl rfl) ?_
    refine StepsOk.cons (st_yes rfl rfl rfl rfl rfl) ?_
    refine StepsOk.cons (st_eql (by simp) rfl rfl rfl rfl rfl rfl) ?_
    refine StepsOk.cons (st_pick rfl rfl rfl rfl rfl rfl) ?_
    refine StepsOk.cons (st_move rfl rfl rfl rfl rfl) ?_
    refine StepsOk.cons (st_load H1.out rfl rfl rfl rfl rfl) ?_
    refine StepsOk.cons (st_mk1 rfl rfl rfl rfl rfl) ?_
    refine StepsOk.cons (st_do (Lib.hid rfl).out rfl rfl rfl rfl rfl) ?_
    refine StepsOk.cons (st_move rfl rfl rfl rfl rfl) ?_
    refine StepsOk.cons (st_not rfl rfl rfl rfl rfl) ?_
    refine StepsOk.cons (st_yes rfl rfl rfl rfl rfl) ?_
    refine StepsOk.cons (st_eql (by simp) rfl rfl rfl rfl rfl rfl) ?_
    refine StepsOk.cons (st_pick rfl rfl rfl rfl rfl rfl) ?_
    refine StepsOk.cons (st_move rfl rfl rfl rfl rfl) ?_
    refine StepsOk.cons (st_load H1.out rfl rfl rfl rfl rfl) ?_
    refine StepsOk.cons (st_load H2.out rfl rfl rfl rfl rfl) ?_
    refine StepsOk.cons (st_mk2 rfl rfl rfl rfl rfl rfl) ?_
    refine StepsOk.cons (st_do (Lib.hid rfl).out rfl rfl rfl rfl rfl) ?_
    refine StepsOk.cons (st_move rfl rfl rfl rfl rfl) ?_
    refine StepsOk.cons (st_move rfl rfl rfl rfl rfl) ?_
    refine StepsOk.cons (st_bin (grd_eqb _ _ _ _) (bin_eqb _ _) rfl rfl rfl rfl rfl rfl) ?_
    refine StepsOk.cons (st_yes rfl rfl rfl rfl rfl) ?_
    refine StepsOk.cons (st_eql (by simp) rfl rfl rfl rfl rfl rfl) ?_
    refine StepsOk.cons (st_pick rfl rfl rfl rfl rfl rfl) ?_
    refine StepsOk.cons (st_move rfl rfl rfl rfl rfl) ?_
    refine StepsOk.cons (st_load H1.out rfl rfl rfl rfl rfl) ?_
    refine StepsOk.cons (st_load H3.out rfl rfl rfl rfl rfl) ?_
    refine StepsOk.cons (st_load H4.out rfl rfl rfl rfl rfl) ?_
    refine StepsOk.cons (st_mk3 rfl rfl rfl rfl rfl rfl rfl) ?_
    refine StepsOk.cons (st_do (Lib.hid rfl).out rfl rfl rfl rfl rfl) ?_
    refine StepsOk.cons (st_load H5.out rfl rfl rfl rfl rfl) ?_
    refine StepsOk.cons (st_eql (by simp) rfl rfl rfl rfl rfl rfl) ?_
    refine StepsOk.cons (st_pick rfl rfl rfl rfl rfl rfl) ?_
    refine StepsOk.cons (st_move rfl rfl rfl rfl rfl) ?_
    refine StepsOk.cons (st_load H1.out rfl rfl rfl rfl rfl) ?_
    refine StepsOk.cons (st_load H2.out rfl rfl rfl rfl rfl) ?_
    refine StepsOk.cons (st_load H1.out rfl rfl rfl rfl rfl) ?_
    refine StepsOk.cons (st_mk3 rfl rfl rfl rfl rfl rfl rfl) ?_
    refine StepsOk.cons (st_do (Lib.hid rfl).out rfl rfl rfl rfl rfl) ?_
    refine StepsOk.cons (st_load H1.out rfl rfl rfl rfl rfl) ?_
    refine StepsOk.cons (st_load H2.out rfl rfl rfl rfl rfl) ?_
    refine StepsOk.cons (st_mk2 rfl rfl rfl rfl rfl rfl) ?_
    refine StepsOk.cons (st_do (Lib.hid rfl).out rfl rfl rfl rfl rfl) ?_
    refine StepsOk.cons (st_eql (by simp) rfl rfl rfl rfl rfl rfl) ?_
    refine StepsOk.cons (st_pick rfl rfl rfl rfl rfl rfl) ?_
    refine StepsOk.cons (st_move rfl rfl rfl rfl rfl) ?_
    refine StepsOk.cons (st_load H1.out rfl rfl rfl rfl rfl) ?_
    refine StepsOk.cons (st_load H2.out rfl rfl rfl rfl rfl) ?_
    refine StepsOk.cons (st_mk2 rfl rfl rfl rfl rfl rfl) ?_
    refine StepsOk.cons (st_do (Lib.hid rfl).out rfl rfl rfl rfl rfl) ?_
    refine StepsOk.cons (st_mk1 rfl rfl rfl rfl rfl) ?_
    refine StepsOk.cons (st_do (Lib.hid rfl).out rfl rfl rfl rfl rfl) ?_
    refine StepsOk.cons (st_load H1.out rfl rfl rfl rfl rfl) ?_
    refine StepsOk.cons (st_mk1 rfl rfl rfl rfl rfl) ?_
    refine StepsOk.cons (st_do (Lib.hid rfl).out rfl rfl rfl rfl rfl) ?_
    refine StepsOk.cons (st_load H2.out rfl rfl rfl rfl rfl) ?_
    refine StepsOk.cons (st_mk1 rfl rfl rfl rfl rfl) ?_
    refine StepsOk.cons (st_do (Lib.hid rfl).out rfl rfl rfl rfl rfl) ?_
    refine StepsOk.cons (st_mk2 rfl rfl rfl rfl rfl rfl) ?_
    refine StepsOk.cons (st_do (Lib.hid rfl).out rfl rfl rfl rfl rfl) ?_
    refine StepsOk.cons (st_eql (by simp) rfl rfl rfl rfl rfl rfl) ?_
    refine StepsOk.cons (st_pick rfl rfl rfl rfl rfl rfl) ?_
    refine StepsOk.cons (st_assign rfl rfl rfl rfl rfl) ?_
    exact StepsOk.nil
  intro ac w hb hdf _ _ hv
  have h6 : ac.tmps.getD 6 undef = .bool true := hv 6 (by decide)
  clear hv
  obtain ⟨T', dfs⟩ := ac
  dsimp only at hdf
  subst hdf
  go_wp2_with fail
  exact ret_slot Tryd.results6 h6 ⟨rfl, bnext B hb⟩
def yesFFDl : List Nat := [25, 26, 27, 28, 29, 30, 31, 32, 33, 34, 35, 36, 37, 38, 39, 40, 41, 42, 43, 44, 45, 46, 47, 48, 49, 50, 51, 52, 53, 54, 55, 56, 57, 58, 59, 60, 61, 62, 63, 64, 65, 66, 67, 68, 69, 70, 71, 72, 73, 74, 75, 76, 77, 78, 79, 80, 81, 82, 83, 84, 85, 86, 87, 88, 89, 90, 91, 92, 93, 94, 95, 96, 97, 98, 99, 100, 101, 102, 103, 104, 105, 106, 107, 6]
def yesFFDs (g1 g2 g3 g4 g5 : Nat) (n0 n1 : Int) : List Dv := [.lit (.bool false), .lit (.bool false), .any, .any, .any, .any, .lit (.bool true), .lit (.pointer (some ⟨g1, 0, none⟩)), .lit (.pointer (some ⟨g2, 0, none⟩)), .lit (.pointer (some ⟨g3, 0, none⟩)), .lit (.pointer (some ⟨g4, 0, none⟩)), .lit (.pointer (some ⟨g5, 0, none⟩)), .any, .any, .any, .any, .any, .any, .any, .any, .any, .any, .any, .any, .any, .lit (.bool true), .lit (.bool true), .lit (.agg #[.int .u8 2, .int .i64 (boolI false)]), .lit (.agg #[.int .u8 2, .int .i64 (boolI false)]), .vs [(2, (boolI false)), (2, (boolI false))], .lit (.agg #[.int .u8 2, .int .i64 (boolI false)]), .lit (.bool false), .lit (.bool false), .any, .lit (.bool false), .lit (.agg #[.int .u8 2, .int .i64 (boolI false)]), .lit (.bool true), .lit (.bool true), .lit (.bool true), .lit (.agg #[.int .u8 2, .int .i64 (boolI false)]), .lit (.agg #[.int .u8 2, .int .i64 (boolI false)]), .vs [(2, (boolI false)), (2, (boolI false))], .lit (.agg #[.int .u8 2, .int .i64 (boolI false)]), .lit (.bool false), .lit (.bool false), .lit (.bool false), .lit (.bool false), .lit (.agg #[.int .u8 2, .int .i64 (boolI false)]), .lit (.bool true), .lit (.bool true), .lit (.bool true), .lit (.agg #[.int .u8 2, .int .i64 (boolI false)]), .vs [(2, (boolI false))], .lit (.agg #[.int .u8 2, .int .i64 (boolI true)]), .lit (.bool false), .lit (.bool true), .lit (.agg #[.int .u8 2, .int .i64 (boolI true)]), .lit (.bool true), .lit (.bool true), .lit (.bool true), .lit (.agg #[.int .u8 2, .int .i64 (boolI false)]), .lit (.agg #[.int .u8 2, .int .i64 (boolI false)]), .vs [(2, (boolI false)), (2, (boolI false))], .lit (.agg #[.int .u8 2, .int .i64 (boolI true)]), .lit (.bool false), .lit (.bool false), .lit (.bool true), .lit (.agg #[.int .u8 2, .int .i64 (boolI true)]), .lit (.bool true), .lit (.bool true), .lit (.bool true), .lit (.agg #[.int .u8 2, .int .i64 (boolI false)]), .lit (.agg #[.int .u8 1, .int .i64 n0]), .lit (.agg #[.int .u8 1, .int .i64 n1]), .vs [(2, (boolI false)), (1, n0), (1, n1)], .lit (.agg #[.int .u8 1, .int .i64 n1]), .lit (.agg #[.int .u8 1, .int .i64 n1]), .lit (.bool true), .lit (.bool true), .lit (.bool true), .lit (.agg #[.int .u8 2, .int .i64 (boolI false)]), .lit (.agg #[.int .u8 2, .int .i64 (boolI false)]), .lit (.agg #[.int .u8 2, .int .i64 (boolI false)]), .vs [(2, (boolI false)), (2, (boolI false)), (2, (boolI false))], .lit (.agg #[.int .u8 2, .int .i64 (boolI false)]), .lit (.agg #[.int .u8 2, .int .i64 (boolI false)]), .lit (.agg #[.int .u8 2, .int .i64 (boolI false)]), .vs [(2, (boolI false)), (2, (boolI false))], .lit (.agg #[.int .u8 2, .int .i64 (boolI false)]), .lit (.bool true), .lit (.bool true), .lit (.bool true), .lit (.agg #[.int .u8 2, .int .i64 (boolI false)]), .lit (.agg #[.int .u8 2, .int .i64 (boolI false)]), .vs [(2, (boolI false)), (2, (boolI false))], .lit (.agg #[.int .u8 2, .int .i64 (boolI false)]), .vs [(2, (boolI false))], .lit (.agg #[.int .u8 2, .int .i64 (boolI true)]), .lit (.agg #[.int .u8 2, .int .i64 (boolI false)]), .vs [(2, (boolI false))], .lit (.agg #[.int .u8 2, .int .i64 (boolI true)]), .lit (.agg #[.int .u8 2, .int .i64 (boolI false)]), .vs [(2, (boolI false))], .lit (.agg #[.int .u8 2, .int .i64 (boolI true)]), .vs [(2, (boolI true)), (2, (boolI true))], .lit (.agg #[.int .u8 2, .int .i64 (boolI true)]), .lit (.bool true), .lit (.bool true)]

set_option maxRecDepth 20000 in
set_option maxHeartbeats 16000000 in
theorem yes_FF (n0 n1 : Int) (W : World) (ht : Tab W) : Calls Tryd.prog 6 #[.bool false, .bool false, .agg #[.int .i64 n0, .int .i64 n1]] W fun e w' => e = .returned (.bool true) ∧ Below W.heap.size W w' := by
  have N := Lib.hid (fun n w => nums_any n w)
  have Y := Lib.hid (fun n w => alive_yes n w)
  have HT := Lib.hid ht
  clear ht
  have B := balloc (Below.refl W.heap.size W) (.cells #[.int .i64 n0, .int .i64 n1] 33 (0, 0))
  have q0 := heap_alloc_new W (.cells #[.int .i64 n0, .int .i64 n1] 33 (0, 0))
  go_enter Tryd.func6, Tryd.ntmps6
  go_wp2_with fail
  generalize W.alloc (.cells #[.int .i64 n0, .int .i64 n1] 33 (0, 0)) = wr at *
  refine (Y.out _ _).mono ?_
  rintro e w1 ⟨rfl, b1⟩
  have q1 := (b1.block _ (lt_of_block q0)).trans q0
  have q2 := (Below.heap_alloc w1 (.cells #[.int .u8 2, .int .i64 (boolI false)] 24 (0, 0)) _ (lt_of_block q1)).trans q1
  have q3 := heap_alloc_new w1 (.cells #[.int .u8 2, .int .i64 (boolI false)] 24 (0, 0))
  replace B := balloc (bnext B b1) (.cells #[.int .u8 2, .int .i64 (boolI false)] 24 (0, 0))
  clear q0 q1 b1
  go_wp2_with fail
  generalize hx : w1.heap.size = g1 at *
  generalize w1.alloc (.cells #[.int .u8 2, .int .i64 (boolI false)] 24 (0, 0)) = wr at *
  clear hx
  refine (Y.out _ _).mono ?_
  rintro e w3 ⟨rfl, b3⟩
  have q4 := (b3.block _ (lt_of_block q2)).trans q2
  have q5 := (Below.heap_alloc w3 (.cells #[.int .u8 2, .int .i64 (boolI false)] 24 (0, 0)) _ (lt_of_block q4)).trans q4
  have q6 := (b3.block _ (lt_of_block q3)).trans q3
  have q7 := (Below.heap_alloc w3 (.cells #[.int .u8 2, .int .i64 (boolI false)] 24 (0, 0)) _ (lt_of_block q6)).trans q6
  have q8 := heap_alloc_new w3 (.cells #[.int .u8 2, .int .i64 (boolI false)] 24 (0, 0))
  replace B := balloc (bnext B b3) (.cells #[.int .u8 2, .int .i64 (boolI false)] 24 (0, 0))
  clear q2 q4 q3 q6 b3
  have y0_0 := cell_of_row _ _ 0 _ _ _ q5
  have y0_1 := cell_of_row _ _ 1 _ _ _ q5
  go_wp2_with fail
  generalize hx : w3.heap.size = g2 at *
  generalize w3.alloc (.cells #[.int .u8 2, .int .i64 (boolI false)] 24 (0, 0)) = wr at *
  clear hx y0_0 y0_1
  refine (N.out _ _).mono ?_
  rintro e w5 ⟨rfl, b5⟩
  have q9 := (b5.block _ (lt_of_block q5)).trans q5
  have q10 := (Below.heap_alloc w5 (.cells #[.int .u8 1, .int .i64 n0] 24 (0, 0)) _ (lt_of_block q9)).trans q9
  have q11 := (b5.block _ (lt_of_block q7)).trans q7
  have q12 := (Below.heap_alloc w5 (.cells #[.int .u8 1, .int .i64 n0] 24 (0, 0)) _ (lt_of_block q11)).trans q11
  have q13 := (b5.block _ (lt_of_block q8)).trans q8
  have q14 := (Below.heap_alloc w5 (.cells #[.int .u8 1, .int .i64 n0] 24 (0, 0)) _ (lt_of_block q13)).trans q13
  have q15 := heap_alloc_new w5 (.cells #[.int .u8 1, .int .i64 n0] 24 (0, 0))
  replace B := balloc (bnext B b5) (.cells #[.int .u8 1, .int .i64 n0] 24 (0, 0))
  clear q5 q9 q7 q11 q8 q13 b5
  have y0_0 := cell_of_row _ _ 0 _ _ _ q10
  have y0_1 := cell_of_row _ _ 1 _ _ _ q10
  go_wp2_with fail
  generalize hx : w5.heap.size = g3 at *
  generalize w5.alloc (.cells #[.int .u8 1, .int .i64 n0] 24 (0, 0)) = wr at *
  clear hx y0_0 y0_1
  refine (N.out _ _).mono ?_
  rintro e w7 ⟨rfl, b7⟩
  have q16 := (b7.block _ (lt_of_block q10)).trans q10
  have q17 := (Below.heap_alloc w7 (.cells #[.int .u8 1, .int .i64 n1] 24 (0, 0)) _ (lt_of_block q16)).trans q16
  have q18 := (b7.block _ (lt_of_block q12)).trans q12
  have q19 := (Below.heap_alloc w7 (.cells #[.int .u8 1, .int .i64 n1] 24 (0, 0)) _ (lt_of_block q18)).trans q18
  have q20 := (b7.block _ (lt_of_block q14)).trans q14
  have q21 := (Below.heap_alloc w7 (.cells #[.int .u8 1, .int .i64 n1] 24 (0, 0)) _ (lt_of_block q20)).trans q20
  have q22 := (b7.block _ (lt_of_block q15)).trans q15
  have q23 := (Below.heap_alloc w7 (.cells #[.int .u8 1, .int .i64 n1] 24 (0, 0)) _ (lt_of_block q22)).trans q22
  have q24 := heap_alloc_new w7 (.cells #[.int .u8 1, .int .i64 n1] 24 (0, 0))
  replace B := balloc (bnext B b7) (.cells #[.int .u8 1, .int .i64 n1] 24 (0, 0))
  clear q10 q16 q12 q18 q14 q20 q15 q22 b7
  have r0 := (Below.heap_alloc (w7.alloc (.cells #[.int .u8 1, .int .i64 n1] 24 (0, 0))) (.cells #[.int .u8 1, .int .i64 n1] 24 (0, 0)) _ (lt_of_block q17)).trans q17
  have r1 := (Below.heap_alloc (w7.alloc (.cells #[.int .u8 1, .int .i64 n1] 24 (0, 0))) (.cells #[.int .u8 1, .int .i64 n1] 24 (0, 0)) _ (lt_of_block q19)).trans q19
  have r2 := (Below.heap_alloc (w7.alloc (.cells #[.int .u8 1, .int .i64 n1] 24 (0, 0))) (.cells #[.int .u8 1, .int .i64 n1] 24 (0, 0)) _ (lt_of_block q21)).trans q21
  have r3 := (Below.heap_alloc (w7.alloc (.cells #[.int .u8 1, .int .i64 n1] 24 (0, 0))) (.cells #[.int .u8 1, .int .i64 n1] 24 (0, 0)) _ (lt_of_block q23)).trans q23
  have r4 := (Below.heap_alloc (w7.alloc (.cells #[.int .u8 1, .int .i64 n1] 24 (0, 0))) (.cells #[.int .u8 1, .int .i64 n1] 24 (0, 0)) _ (lt_of_block q24)).trans q24
  have r5 : ((w7.alloc (.cells #[.int .u8 1, .int .i64 n1] 24 (0, 0))).alloc (.cells #[.int .u8 1, .int .i64 n1] 24 (0, 0))).heap[w7.heap.size + 1]? = _ := (by simp : (w7.alloc (.cells #[.int .u8 1, .int .i64 n1] 24 (0, 0))).heap.size = w7.heap.size + 1) ▸ heap_alloc_new (w7.alloc (.cells #[.int .u8 1, .int .i64 n1] 24 (0, 0))) (.cells #[.int .u8 1, .int .i64 n1] 24 (0, 0))
  have y4_0 := cell_of_row _ _ 0 _ _ _ q24
  have y4_1 := cell_of_row _ _ 1 _ _ _ q24
  go_wp2_with fail
  clear r0 r1 r2 r3 r4 r5 y4_0 y4_1
  have s0 := (Below.heap_alloc (w7.alloc (.cells #[.int .u8 1, .int .i64 n1] 24 (0, 0))) (.cells #[.int .u8 1, .int .i64 n1] 24 (0, 0)) _ (lt_of_block q17)).trans q17
  have s1 := (Below.heap_alloc (w7.alloc (.cells #[.int .u8 1, .int .i64 n1] 24 (0, 0))) (.cells #[.int .u8 1, .int .i64 n1] 24 (0, 0)) _ (lt_of_block q19)).trans q19
  have s2 := (Below.heap_alloc (w7.alloc (.cells #[.int .u8 1, .int .i64 n1] 24 (0, 0))) (.cells #[.int .u8 1, .int .i64 n1] 24 (0, 0)) _ (lt_of_block q21)).trans q21
  have s3 := (Below.heap_alloc (w7.alloc (.cells #[.int .u8 1, .int .i64 n1] 24 (0, 0))) (.cells #[.int .u8 1, .int .i64 n1] 24 (0, 0)) _ (lt_of_block q23)).trans q23
  have s4 := (Below.heap_alloc (w7.alloc (.cells #[.int .u8 1, .int .i64 n1] 24 (0, 0))) (.cells #[.int .u8 1, .int .i64 n1] 24 (0, 0)) _ (lt_of_block q24)).trans q24
  have s5 : ((w7.alloc (.cells #[.int .u8 1, .int .i64 n1] 24 (0, 0))).alloc (.cells #[.int .u8 1, .int .i64 n1] 24 (0, 0))).heap[w7.heap.size + 1]? = _ := (by simp : (w7.alloc (.cells #[.int .u8 1, .int .i64 n1] 24 (0, 0))).heap.size = w7.heap.size + 1) ▸ heap_alloc_new (w7.alloc (.cells #[.int .u8 1, .int .i64 n1] 24 (0, 0))) (.cells #[.int .u8 1, .int .i64 n1] 24 (0, 0))
  replace B := balloc B (.cells #[.int .u8 1, .int .i64 n1] 24 (0, 0))
  clear q17 q19 q21 q23 q24
  generalize w7.heap.size + 1 = g5 at *
  generalize w7.heap.size = g4 at *
  generalize ((w7.alloc (.cells #[.int .u8 1, .int .i64 n1] 24 (0, 0))).alloc (.cells #[.int .u8 1, .int .i64 n1] 24 (0, 0))) = wr at *
  have H1 := Lib.hid (box_of (wr := wr) s1)
  have H2 := Lib.hid (box_of (wr := wr) s2)
  have H3 := Lib.hid (box_of (wr := wr) s3)
  have H4 := Lib.hid (box_of (wr := wr) s4)
  have H5 := Lib.hid (box_of (wr := wr) s5)
  replace HT := Lib.hid (HT.out.below B)
  clear s0 s1 s2 s3 s4 s5 N Y
  refine wp_region_vals yesFFDl [7, 8, 9, 10, 11, 0, 1] (yesFFDs g1 g2 g3 g4 g5 n0 n1) rfl rfl ?_ ?_ ?_ ?_ ?_ ?_
  · kernel_rfl
  · kernel_rfl
  · kernel_rfl
  · exact List.forall_mem_cons.2 ⟨rfl, List.forall_mem_cons.2 ⟨rfl, List.forall_mem_cons.2 ⟨rfl, List.forall_mem_cons.2 ⟨rfl, List.forall_mem_cons.2 ⟨rfl, List.forall_mem_cons.2 ⟨rfl, List.forall_mem_cons.2 ⟨rfl, fun _ h => nomatch h⟩⟩⟩⟩⟩⟩⟩
  · refine StepsOk.cons (st_alive HT.out rfl rfl rfl rfl) ?_
    refine StepsOk.cons (st_move rfl rfl rfl rfl rfl) ?_
    refine StepsOk.cons (st_load H1.out rfl rfl rfl rfl rfl) ?_
    refine StepsOk.cons (st_load H2.out rfl rfl rfl rfl rfl) ?_
    refine StepsOk.cons (st_mk2 rfl rfl rfl rfl rfl rfl) ?_
    refine StepsOk.cons (st_do (Lib.hid rfl).out rfl rfl rfl rfl rfl) ?_
    refine StepsOk.cons (st_move rfl rfl rfl rfl rfl) ?_
    refine StepsOk.cons (st_move rfl rfl rfl rfl rfl) ?_
    refine StepsOk.cons (st_skip rfl _ rfl rfl) ?_
    refine StepsOk.cons (st_pick rfl rfl rfl rfl rfl rfl) ?_
    refine StepsOk.cons (st_yes rfl rfl rfl rfl rfl) ?_
    refine StepsOk.cons (st_eql (by simp) rfl rfl rfl rfl rfl rfl) ?_
    refine StepsOk.cons (st_pick rfl rfl rfl rfl rfl rfl) ?_
    refine StepsOk.cons (st_move rfl rfl rfl rfl rfl) ?_
    refine StepsOk.cons (st_load H1.out rfl rfl rfl rfl rfl) ?_
    refine StepsOk.cons (st_load H2.out rfl rfl rfl rfl rfl) ?_
    refine StepsOk.cons (st_mk2 rfl rfl rfl rfl rfl rfl) ?_
    refine StepsOk.cons (st_do (Lib.hid rfl).out rfl rfl rfl rfl rfl) ?_
    refine StepsOk.cons (st_move rfl rfl rfl rfl rfl) ?_
    refine StepsOk.cons (st_move rfl rfl rfl rfl rfl) ?_
    refine StepsOk.cons (st_move rfl rfl rfl rfl rfl) ?_
    refine StepsOk.cons (st_pick rfl rfl rfl rfl rfl rfl) ?_
    refine StepsOk.cons (st_yes rfl rfl rfl rfl rfl) ?_
    refine StepsOk.cons (st_eql (by simp) rfl rfl rfl rfl rfl rfl) ?_
    refine StepsOk.cons (st_pick rfl rfl rfl rfl rfl rfl) ?_
    refine StepsOk.cons (st_move rfl rfl rfl rfl rfl) ?_
    refine StepsOk.cons (st_load H1.out rfl rfl rfl rfl rfl) ?_
    refine StepsOk.cons (st_mk1 rfl rfl rfl rfl rfl) ?_
    refine StepsOk.cons (st_do (Lib.hid rfl).out rfl rfl rfl rfl rfl) ?_
    refine StepsOk.cons (st_move rfl rfl rfl rfl rfl) ?_
    refine StepsOk.cons (st_not rfl rfl rfl rfl rfl) ?_
    refine StepsOk.cons (st_yes rfl rfl rfl rfl rfl) ?_
    refine StepsOk.cons (st_eql (by simp) rfl rfl rfl rfl rfl rfl) ?_
    refine StepsOk.cons (st_pick rfl rfl rfl rfl rfl rfl) ?_
    refine StepsOk.cons (st_move rfl rfl rfl rfl rfl) ?_
    refine StepsOk.cons (st_load H1.out rfl rfl rfl rfl rfl) ?_
    refine StepsOk.cons (st_load H2.out rfl rfl rfl rfl rfl) ?_
    refine StepsOk.cons (st_mk2 rfl rfl rfl rfl rfl rfl) ?_
    refine StepsOk.cons (st_do (Lib.hid rfl).out rfl rfl rfl rfl rfl) ?_
    refine StepsOk.cons (st_move rfl rfl rfl rfl rfl) ?_
    refine StepsOk.cons (st_move rfl rfl rfl rfl rfl) ?_
    refine StepsOk.cons (st_bin (grd_eqb _ _ _ _) (bin_eqb _ _) rfl rfl rfl rfl rfl rfl) ?_
    refine StepsOk.cons (st_yes rfl rfl rfl rfl rfl) ?_
    refine StepsOk.cons (st_eql (by simp) rfl rfl rfl rfl rfl rfl) ?_
    refine StepsOk.cons (st_pick rfl rfl rfl rfl rfl rfl) ?_
    refine StepsOk.cons (st_move rfl rfl rfl rfl rfl) ?_
    refine StepsOk.cons (st_load H1.out rfl rfl rfl rfl rfl) ?_
    refine StepsOk.cons (st_load H3.out rfl rfl rfl rfl rfl) ?_
    refine StepsOk.cons (st_load H4.out rfl rfl rfl rfl rfl) ?_
    refine StepsOk.cons (st_mk3 rfl rfl rfl rfl rfl rfl rfl) ?_
    refine StepsOk.cons (st_do (Lib.hid rfl).out rfl rfl rfl rfl rfl) ?_
    refine StepsOk.cons (st_load H5.out rfl rfl rfl rfl rfl) ?_
    refine StepsOk.cons (st_eql (by simp) rfl rfl rfl rfl rfl rfl) ?_
    refine StepsOk.cons (st_pick rfl rfl rfl rfl rfl rfl) ?_
    refine StepsOk.cons (st_move rfl rfl rfl rfl rfl) ?_
    refine StepsOk.cons (st_load H1.out rfl rfl rfl rfl rfl) ?_
    refine StepsOk.cons (st_load H2.out rfl rfl rfl rfl rfl) ?_
    refine StepsOk.cons (st_load H1.out rfl rfl rfl rfl rfl) ?_
    refine StepsOk.cons (st_mk3 rfl rfl rfl rfl rfl rfl rfl) ?_
    refine StepsOk.cons (st_do (Lib.hid rfl).out rfl rfl rfl rfl rfl) ?_
    refine StepsOk.cons (st_load H1.out rfl rfl rfl rfl rfl) ?_
    refine StepsOk.cons (st_load H2.out rfl rfl rfl rfl rfl) ?_
    refine StepsOk.cons (st_mk2 rfl rfl rfl rfl rfl rfl) ?_
    refine StepsOk.cons (st_do (Lib.hid rfl).out rfl rfl rfl rfl rfl) ?_
    refine StepsOk.cons (st_eql (by simp) rfl rfl rfl rfl rfl rfl) ?_
    refine StepsOk.cons (st_pick rfl rfl rfl rfl rfl rfl) ?_
    refine StepsOk.cons (st_move rfl rfl rfl rfl rfl) ?_
    refine StepsOk.cons (st_load H1.out rfl rfl rfl rfl rfl) ?_
    refine StepsOk.cons (st_load H2.out rfl rfl rfl rfl rfl) ?_
    refine StepsOk.cons (st_mk2 rfl rfl rfl rfl rfl rfl) ?_
    refine StepsOk.cons (st_do (Lib.hid rfl).out rfl rfl rfl rfl rfl) ?_
    refine StepsOk.cons (st_mk1 rfl rfl rfl rfl rfl) ?_
    refine StepsOk.cons (st_do (Lib.hid rfl).out rfl rfl rfl rfl rfl) ?_
    refine StepsOk.cons (st_load H1.out rfl rfl rfl rfl rfl) ?_
    refine StepsOk.cons (st_mk1 rfl rfl rfl rfl rfl) ?_
    refine StepsOk.cons (st_do (Lib.hid rfl).out rfl rfl rfl rfl rfl) ?_
    refine StepsOk.cons (st_load H2.out rfl rfl rfl rfl rfl) ?_
    refine StepsOk.cons (st_mk1 rfl rfl rfl rfl rfl) ?_
    refine StepsOk.cons (st_do (Lib.hid rfl).out rfl rfl rfl rfl rfl) ?_
    refine StepsOk.cons (st_mk2 rfl rfl rfl rfl rfl rfl) ?_
    refine StepsOk.cons (st_do (Lib.hid rfl).out rfl rfl rfl rfl rfl) ?_
    refine StepsOk.cons (st_eql (by simp) rfl rfl rfl rfl rfl rfl) ?_
    refine StepsOk.cons (st_pick rfl rfl rfl rfl rfl rfl) ?_
    refine StepsOk.cons (st_assign rfl rfl rfl rfl rfl) ?_
    exact StepsOk.nil
  intro ac w hb hdf _ _ hv
  have h6 : ac.tmps.getD 6 undef = .bool true := hv 6 (by decide)
  clear hv
  obtain ⟨T', dfs⟩ := ac
  dsimp only at hdf
  subst hdf
  go_wp2_with fail
  exact ret_slot Tryd.results6 h6 ⟨rfl, bnext B hb⟩
theorem walk_ValuesYes (v0 v1 v2 : Value) (W : World) (A0 : Arg Tryd.prog 4 W v0) (A1 : Arg Tryd.prog 4 W v1) (A2 : Arg Tryd.prog 33 W v2) (ht : Tab W) :
    Calls Tryd.prog 6 #[v0, v1, v2] W fun e w' => e = .returned (.bool true) ∧ Below W.heap.size W w' := by
  obtain ⟨x, rfl⟩ := A0.bool Tryd.underlying4
  obtain ⟨y, rfl⟩ := A1.bool Tryd.underlying4
  obtain ⟨ar, rfl⟩ := A2.array Tryd.underlying33
  obtain ⟨zs, hz, hzl, hzw⟩ := A2.cells.arrNums Tryd.underlying33 Tryd.underlying2 (by kernel_rfl) (by kernel_rfl)
  obtain ⟨n0, n1, rfl⟩ := list2 hzl
  obtain rfl : ar = #[.int .i64 n0, .int .i64 n1] := by
    apply Array.ext'
    simpa [Value.cells] using hz
  cases x <;> cases y
  · exact yes_FF n0 n1 W ht
  · exact yes_FT n0 n1 W ht
  · exact yes_TF n0 n1 W ht
  · exact yes_TT n0 n1 W ht
end Go.Proofs.YtphlodafdkpedaaDoor
