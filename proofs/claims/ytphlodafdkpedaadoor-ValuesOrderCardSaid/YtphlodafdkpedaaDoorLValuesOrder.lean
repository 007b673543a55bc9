/-
  The walk of belfrylaw11.ValuesOrder (printed by wip/genorder.py).
-/
import Derived.Test.YtphlodafdkpedaaDoorValsArgs
import Derived.Test.YtphlodafdkpedaaDoorAnyBox
import Derived.Test.YtphlodafdkpedaaDoorDoLaw
namespace Go.Proofs.YtphlodafdkpedaaDoor
open Go.RowKit
open Go
set_option linter.unusedVariables false

def ord6Dl : List Nat := [28, 29, 30, 31, 32, 33, 34, 10]
def ord6Ds (g0 g1 g2 g3 g4 g5 g6 z : Nat) (a b g o le ne : Int) : List Dv := [.any, .any, .any, .any, .any, .any, .any, .lit (.pointer (some ⟨g2, 0, none⟩)), .lit (.pointer (some ⟨g3, 0, none⟩)), .lit (.pointer (some ⟨g4, 0, none⟩)), .new z, .any, .any, .any, .any, .any, .any, .any, .any, .any, .any, .any, .any, .any, .any, .any, .any, .any, .lit (.agg #[.int .u8 2, .int .i64 (boolI (decide (a < b)))]), .lit (.agg #[.int .u8 2, .int .i64 g]), .vs [(2, (boolI (decide (a < b)))), (2, g)], .lit (.agg #[.int .u8 2, .int .i64 (boolI false)]), .lit (.agg #[.int .u8 2, .int .i64 (boolI (a == b))]), .vs [(2, (boolI false)), (2, (boolI (a == b)))], .lit (.agg #[.int .u8 2, .int .i64 (boolI false)]), .any, .any, .any, .any, .any, .any, .any, .any, .any, .any, .any, .any, .any, .any, .any, .any, .any, .any, .any, .any, .any, .any, .any, .any, .any, .any, .any, .any, .any, .any, .any, .any, .any, .any, .any, .any, .any, .any, .any, .any, .any, .any, .any, .any, .any, .any, .any, .any, .any, .any, .any, .any, .any, .any, .any, .any, .any, .any, .any, .any, .any, .any, .any]
def ord7Dl : List Nat := [35, 36, 37, 38, 39, 40, 41, 11]
def ord7Ds (g0 g1 g2 g3 g4 g5 g6 z : Nat) (a b g o le ne : Int) : List Dv := [.any, .any, .any, .any, .any, .any, .any, .lit (.pointer (some ⟨g2, 0, none⟩)), .lit (.pointer (some ⟨g3, 0, none⟩)), .lit (.pointer (some ⟨g4, 0, none⟩)), .any, .new z, .any, .any, .any, .any, .any, .any, .any, .any, .any, .any, .any, .any, .any, .any, .any, .any, .any, .any, .any, .any, .any, .any, .any, .lit (.agg #[.int .u8 2, .int .i64 (boolI (decide (a < b)))]), .lit (.agg #[.int .u8 2, .int .i64 g]), .vs [(2, (boolI (decide (a < b)))), (2, g)], .lit (.agg #[.int .u8 2, .int .i64 o]), .lit (.agg #[.int .u8 2, .int .i64 (boolI (a == b))]), .vs [(2, o), (2, (boolI (a == b)))], .lit (.agg #[.int .u8 2, .int .i64 (boolI true)]), .any, .any, .any, .any, .any, .any, .any, .any, .any, .any, .any, .any, .any, .any, .any, .any, .any, .any, .any, .any, .any, .any, .any, .any, .any, .any, .any, .any, .any, .any, .any, .any, .any, .any, .any, .any, .any, .any, .any, .any, .any, .any, .any, .any, .any, .any, .any, .any, .any, .any, .any, .any, .any, .any, .any, .any]
def ord8Dl : List Nat := [42, 43, 44, 45, 46, 47, 48, 49, 50, 51, 52, 53, 54, 55, 56, 57, 58, 59, 60, 61, 62, 63, 64, 65, 66, 67, 68, 69, 70, 71, 72, 73, 74, 75, 76, 77, 78, 79, 80, 81, 82, 83, 84, 85, 86, 87, 88, 89, 90, 91, 92, 93, 94, 95, 96, 97, 4]
def ord8Ds (g0 g1 g2 g3 g4 g5 g6 z : Nat) (a b g o le ne : Int) : List Dv := [.lit (.int .i64 a), .lit (.int .i64 b), .any, .any, .lit (.bool true), .lit (.pointer (some ⟨g0, 0, none⟩)), .lit (.pointer (some ⟨g1, 0, none⟩)), .lit (.pointer (some ⟨g2, 0, none⟩)), .any, .lit (.pointer (some ⟨g4, 0, none⟩)), .lit (.pointer (some ⟨g5, 0, none⟩)), .lit (.pointer (some ⟨g6, 0, none⟩)), .any, .any, .any, .any, .any, .any, .any, .any, .any, .any, .any, .any, .any, .any, .any, .any, .any, .any, .any, .any, .any, .any, .any, .any, .any, .any, .any, .any, .any, .any, .lit (.bool true), .lit (.bool true), .lit (.agg #[.int .u8 2, .int .i64 (boolI (decide (a < b)))]), .lit (.int .i64 a), .lit (.int .i64 b), .lit (.bool (decide (a < b))), .lit (.agg #[.int .u8 2, .int .i64 (boolI (decide (a < b)))]), .lit (.bool true), .lit (.bool true), .lit (.bool true), .lit (.agg #[.int .u8 2, .int .i64 (boolI (a == b))]), .lit (.int .i64 a), .lit (.int .i64 b), .lit (.bool (a == b)), .lit (.agg #[.int .u8 2, .int .i64 (boolI (a == b))]), .lit (.bool true), .lit (.bool true), .lit (.bool true), .lit (.agg #[.int .u8 1, .int .i64 a]), .lit (.agg #[.int .u8 1, .int .i64 b]), .vs [(1, a), (1, b)], .lit (.agg #[.int .u8 2, .int .i64 le]), .lit (.agg #[.int .u8 2, .int .i64 (boolI (decide (a < b)))]), .lit (.agg #[.int .u8 2, .int .i64 (boolI (a == b))]), .vs [(2, (boolI (decide (a < b)))), (2, (boolI (a == b)))], .lit (.agg #[.int .u8 2, .int .i64 le]), .lit (.bool true), .lit (.bool true), .lit (.bool true), .lit (.agg #[.int .u8 1, .int .i64 a]), .lit (.agg #[.int .u8 1, .int .i64 b]), .vs [(1, a), (1, b)], .lit (.agg #[.int .u8 2, .int .i64 ne]), .lit (.agg #[.int .u8 2, .int .i64 (boolI (a == b))]), .vs [(2, (boolI (a == b)))], .lit (.agg #[.int .u8 2, .int .i64 ne]), .lit (.bool true), .lit (.bool true), .lit (.bool true), .lit (.agg #[.int .u8 2, .int .i64 (boolI false)]), .lit (.agg #[.int .u8 2, .int .i64 (boolI false)]), .lit (.bool true), .lit (.bool true), .lit (.bool true), .lit (.agg #[.int .u8 2, .int .i64 (boolI true)]), .lit (.agg #[.int .u8 2, .int .i64 (boolI true)]), .lit (.bool true), .lit (.bool true), .lit (.bool true), .lit (.agg #[.int .u8 1, .int .i64 a]), .lit (.agg #[.int .u8 1, .int .i64 a]), .vs [(1, a), (1, a)], .lit (.agg #[.int .u8 2, .int .i64 (boolI false)]), .lit (.agg #[.int .u8 2, .int .i64 (boolI false)]), .lit (.bool true), .lit (.bool true)]

set_option maxRecDepth 20000 in
set_option maxHeartbeats 16000000 in
theorem order_walk (a b g o le ne : Int) (W : World) (ht : Tab W)
    (DL : Hid (doL 13 [(1, a), (1, b)] = (2, (boolI (decide (a < b))))))
    (DG : Hid (doL 13 [(1, b), (1, a)] = (2, g)))
    (DS : Hid (doL 11 [(1, a), (1, b)] = (2, (boolI (a == b)))))
    (DA : Hid (doL 15 [(2, (boolI (decide (a < b)))), (2, g)] = (2, (boolI false))))
    (DB : Hid (doL 15 [(2, (boolI false)), (2, (boolI (a == b)))] = (2, (boolI false))))
    (DC : Hid (doL 16 [(2, (boolI (decide (a < b)))), (2, g)] = (2, o)))
    (DD : Hid (doL 16 [(2, o), (2, (boolI (a == b)))] = (2, (boolI true))))
    (DE : Hid (doL 14 [(1, a), (1, b)] = (2, le)))
    (DF : Hid (doL 16 [(2, (boolI (decide (a < b)))), (2, (boolI (a == b)))] = (2, le)))
    (DH : Hid (doL 12 [(1, a), (1, b)] = (2, ne)))
    (DI : Hid (doL 5 [(2, (boolI (a == b)))] = (2, ne)))
    (DJ : Hid (doL 13 [(1, a), (1, a)] = (2, (boolI false))))
    : Calls Tryd.prog 5 #[.int .i64 a, .int .i64 b] W fun e w' => e = .returned (.bool true) ∧ Below W.heap.size W w' := by
  have N := Lib.hid (fun n w => nums_any n w)
  have HT := Lib.hid ht
  clear ht
  go_enter Tryd.func5, Tryd.ntmps5
  go_wp2_with fail
  refine (N.out _ _).mono ?_
  rintro e w1 ⟨rfl, b1⟩
  have q1 := heap_alloc_new w1 (.cells #[.int .u8 1, .int .i64 a] 24 (0, 0))
  have B := balloc b1 (.cells #[.int .u8 1, .int .i64 a] 24 (0, 0))
  clear  b1
  go_wp2_with fail
  generalize hx : w1.heap.size = g0 at *
  generalize w1.alloc (.cells #[.int .u8 1, .int .i64 a] 24 (0, 0)) = wr at *
  clear hx
  refine (N.out _ _).mono ?_
  rintro e w3 ⟨rfl, b3⟩
  have q2 := (b3.block _ (lt_of_block q1)).trans q1
  have q3 := (Below.heap_alloc w3 (.cells #[.int .u8 1, .int .i64 b] 24 (0, 0)) _ (lt_of_block q2)).trans q2
  have q4 := heap_alloc_new w3 (.cells #[.int .u8 1, .int .i64 b] 24 (0, 0))
  replace B := balloc (bnext B b3) (.cells #[.int .u8 1, .int .i64 b] 24 (0, 0))
  clear q1 q2 b3
  have y0_0 := cell_of_row _ _ 0 _ _ _ q3
  have y0_1 := cell_of_row _ _ 1 _ _ _ q3
  have y1_0 := cell_of_row _ _ 0 _ _ _ q4
  have y1_1 := cell_of_row _ _ 1 _ _ _ q4
  go_wp2_with fail
  refine (do2x_any _ _ _ _ _ _ _ DL.out _ _).mono ?_
  rintro e w4 ⟨rfl, b4⟩
  clear y0_0 y0_1 y1_0 y1_1
  have q5 := (b4.block _ (lt_of_block q3)).trans q3
  clear q3
  have q6 := (b4.block _ (lt_of_block q4)).trans q4
  clear q4
  replace B := bnext B b4
  clear b4
  generalize w3.heap.size = g1 at *
  have b4 := Below.refl w4.heap.size w4
  have q7 := (b4.block _ (lt_of_block q5)).trans q5
  have q8 := (Below.heap_alloc w4 (.cells #[.int .u8 2, .int .i64 (boolI (decide (a < b)))] 24 (0, 0)) _ (lt_of_block q7)).trans q7
  have q9 := (b4.block _ (lt_of_block q6)).trans q6
  have q10 := (Below.heap_alloc w4 (.cells #[.int .u8 2, .int .i64 (boolI (decide (a < b)))] 24 (0, 0)) _ (lt_of_block q9)).trans q9
  have q11 := heap_alloc_new w4 (.cells #[.int .u8 2, .int .i64 (boolI (decide (a < b)))] 24 (0, 0))
  replace B := balloc (bnext B b4) (.cells #[.int .u8 2, .int .i64 (boolI (decide (a < b)))] 24 (0, 0))
  clear q5 q7 q6 q9 b4
  have y0_0 := cell_of_row _ _ 0 _ _ _ q8
  have y0_1 := cell_of_row _ _ 1 _ _ _ q8
  have y1_0 := cell_of_row _ _ 0 _ _ _ q10
  have y1_1 := cell_of_row _ _ 1 _ _ _ q10
  go_wp2_with fail
  refine (do2x_any _ _ _ _ _ _ _ DG.out _ _).mono ?_
  rintro e w5 ⟨rfl, b5⟩
  clear y0_0 y0_1 y1_0 y1_1
  have q12 := (b5.block _ (lt_of_block q8)).trans q8
  clear q8
  have q13 := (b5.block _ (lt_of_block q10)).trans q10
  clear q10
  have q14 := (b5.block _ (lt_of_block q11)).trans q11
  clear q11
  replace B := bnext B b5
  clear b5
  generalize w4.heap.size = g2 at *
  have b5 := Below.refl w5.heap.size w5
  have q15 := (b5.block _ (lt_of_block q12)).trans q12
  have q16 := (Below.heap_alloc w5 (.cells #[.int .u8 2, .int .i64 g] 24 (0, 0)) _ (lt_of_block q15)).trans q15
  have q17 := (b5.block _ (lt_of_block q13)).trans q13
  have q18 := (Below.heap_alloc w5 (.cells #[.int .u8 2, .int .i64 g] 24 (0, 0)) _ (lt_of_block q17)).trans q17
  have q19 := (b5.block _ (lt_of_block q14)).trans q14
  have q20 := (Below.heap_alloc w5 (.cells #[.int .u8 2, .int .i64 g] 24 (0, 0)) _ (lt_of_block q19)).trans q19
  have q21 := heap_alloc_new w5 (.cells #[.int .u8 2, .int .i64 g] 24 (0, 0))
  replace B := balloc (bnext B b5) (.cells #[.int .u8 2, .int .i64 g] 24 (0, 0))
  clear q12 q15 q13 q17 q14 q19 b5
  have y0_0 := cell_of_row _ _ 0 _ _ _ q16
  have y0_1 := cell_of_row _ _ 1 _ _ _ q16
  have y1_0 := cell_of_row _ _ 0 _ _ _ q18
  have y1_1 := cell_of_row _ _ 1 _ _ _ q18
  go_wp2_with fail
  refine (do2x_any _ _ _ _ _ _ _ DS.out _ _).mono ?_
  rintro e w6 ⟨rfl, b6⟩
  clear y0_0 y0_1 y1_0 y1_1
  have q22 := (b6.block _ (lt_of_block q16)).trans q16
  clear q16
  have q23 := (b6.block _ (lt_of_block q18)).trans q18
  clear q18
  have q24 := (b6.block _ (lt_of_block q20)).trans q20
  clear q20
  have q25 := (b6.block _ (lt_of_block q21)).trans q21
  clear q21
  replace B := bnext B b6
  clear b6
  generalize w5.heap.size = g3 at *
  have b6 := Below.refl w6.heap.size w6
  have q26 := (b6.block _ (lt_of_block q22)).trans q22
  have q27 := (Below.heap_alloc w6 (.cells #[.int .u8 2, .int .i64 (boolI (a == b))] 24 (0, 0)) _ (lt_of_block q26)).trans q26
  have q28 := (b6.block _ (lt_of_block q23)).trans q23
  have q29 := (Below.heap_alloc w6 (.cells #[.int .u8 2, .int .i64 (boolI (a == b))] 24 (0, 0)) _ (lt_of_block q28)).trans q28
  have q30 := (b6.block _ (lt_of_block q24)).trans q24
  have q31 := (Below.heap_alloc w6 (.cells #[.int .u8 2, .int .i64 (boolI (a == b))] 24 (0, 0)) _ (lt_of_block q30)).trans q30
  have q32 := (b6.block _ (lt_of_block q25)).trans q25
  have q33 := (Below.heap_alloc w6 (.cells #[.int .u8 2, .int .i64 (boolI (a == b))] 24 (0, 0)) _ (lt_of_block q32)).trans q32
  have q34 := heap_alloc_new w6 (.cells #[.int .u8 2, .int .i64 (boolI (a == b))] 24 (0, 0))
  replace B := balloc (bnext B b6) (.cells #[.int .u8 2, .int .i64 (boolI (a == b))] 24 (0, 0))
  clear q22 q26 q23 q28 q24 q30 q25 q32 b6
  go_wp2_with fail
  generalize hx : w6.heap.size = g4 at *
  generalize w6.alloc (.cells #[.int .u8 2, .int .i64 (boolI (a == b))] 24 (0, 0)) = wr at *
  clear hx
  replace HT := Lib.hid (HT.out.below B)
  try dsimp only [List.append]
  have H0 := Lib.hid (box_of (wr := wr) q27)
  have H1 := Lib.hid (box_of (wr := wr) q29)
  have H2 := Lib.hid (box_of (wr := wr) q31)
  have H3 := Lib.hid (box_of (wr := wr) q33)
  have H4 := Lib.hid (box_of (wr := wr) q34)
  clear q27 q29 q31 q33 q34
  refine wp_region_box (n := 8) ord6Dl [7, 8, 9] (ord6Ds g0 g1 g2 g3 g4 g0 g0 wr.heap.size a b g o le ne) (fun a w => ∃ g, a.tmps.getD 10 undef = .pointer (some ⟨g, 0, none⟩) ∧ w.heap[g]? = some (.cells #[.int .u8 2, .int .i64 (boolI false)] 24 (0, 0))) rfl rfl rfl rfl ?_ rfl ?_ ?_ ?_ ?_ ?_ ?_ (fun a w hb hk => st_store rfl rfl rfl rfl a w hb hk) ?_
  · kernel_rfl
  · kernel_rfl
  · kernel_rfl
  · kernel_rfl
  · exact List.forall_mem_cons.2 ⟨rfl, List.forall_mem_cons.2 ⟨rfl, List.forall_mem_cons.2 ⟨rfl, fun _ h => nomatch h⟩⟩⟩
  · refine StepsOk.cons (st_load H2.out rfl rfl rfl rfl rfl) ?_
    refine StepsOk.cons (st_load H3.out rfl rfl rfl rfl rfl) ?_
    refine StepsOk.cons (st_mk2 rfl rfl rfl rfl rfl rfl) ?_
    refine StepsOk.cons (st_do DA.out rfl rfl rfl rfl rfl) ?_
    refine StepsOk.cons (st_load H4.out rfl rfl rfl rfl rfl) ?_
    refine StepsOk.cons (st_mk2 rfl rfl rfl rfl rfl rfl) ?_
    refine StepsOk.cons (st_do DB.out rfl rfl rfl rfl rfl) ?_
    refine StepsOk.cons (st_alloc rfl rfl rfl rfl) ?_
    exact StepsOk.nil
  · kernel_rfl
  intro ac w10 hb hR hdf hsz hkeep
  obtain ⟨g5, u10, k5⟩ := hR
  have t0 : ac.tmps.getD 0 undef = .int .i64 a := hkeep 0 (by kernel_rfl)
  have t1 : ac.tmps.getD 1 undef = .int .i64 b := hkeep 1 (by kernel_rfl)
  have t5 : ac.tmps.getD 5 undef = .pointer (some ⟨g0, 0, none⟩) := hkeep 5 (by kernel_rfl)
  have t6 : ac.tmps.getD 6 undef = .pointer (some ⟨g1, 0, none⟩) := hkeep 6 (by kernel_rfl)
  have t7 : ac.tmps.getD 7 undef = .pointer (some ⟨g2, 0, none⟩) := hkeep 7 (by kernel_rfl)
  have t8 : ac.tmps.getD 8 undef = .pointer (some ⟨g3, 0, none⟩) := hkeep 8 (by kernel_rfl)
  have t9 : ac.tmps.getD 9 undef = .pointer (some ⟨g4, 0, none⟩) := hkeep 9 (by kernel_rfl)
  have t10 := u10
  clear u10
  have hs : ac.tmps.size = 98 := hsz
  replace H0 := Lib.hid (H0.out.below hb)
  replace H1 := Lib.hid (H1.out.below hb)
  replace H2 := Lib.hid (H2.out.below hb)
  replace H3 := Lib.hid (H3.out.below hb)
  replace H4 := Lib.hid (H4.out.below hb)
  have H5 := Lib.hid (box_of k5)
  replace HT := Lib.hid (HT.out.below hb)
  replace B := bnext B hb
  clear hkeep hsz hb k5
  have hsz0 := hs
  clear hs
  obtain ⟨T, dfs⟩ := ac
  dsimp only at hdf hsz0 t0 t1 t5 t6 t7 t8 t9 t10
  subst hdf
  have hsz : T.size = 98 := hsz0
  go_wp2_with fail
  refine wp_region_box (n := 8) ord7Dl [7, 8, 9] (ord7Ds g0 g1 g2 g3 g4 g0 g0 w10.heap.size a b g o le ne) (fun a w => ∃ g, a.tmps.getD 11 undef = .pointer (some ⟨g, 0, none⟩) ∧ w.heap[g]? = some (.cells #[.int .u8 2, .int .i64 (boolI true)] 24 (0, 0))) rfl rfl rfl rfl ?_ rfl ?_ ?_ ?_ ?_ ?_ ?_ (fun a w hb hk => st_store rfl rfl rfl rfl a w hb hk) ?_
  · kernel_rfl
  · rw [show ∀ x, okB ({ tmps := T, defers := x } : Act).tmps.size = okB 98 from fun _ => by rw [hsz]]
    kernel_rfl
  · kernel_rfl
  · kernel_rfl
  · exact List.forall_mem_cons.2 ⟨t7, List.forall_mem_cons.2 ⟨t8, List.forall_mem_cons.2 ⟨t9, fun _ h => nomatch h⟩⟩⟩
  · refine StepsOk.cons (st_load H2.out rfl rfl rfl rfl rfl) ?_
    refine StepsOk.cons (st_load H3.out rfl rfl rfl rfl rfl) ?_
    refine StepsOk.cons (st_mk2 rfl rfl rfl rfl rfl rfl) ?_
    refine StepsOk.cons (st_do DC.out rfl rfl rfl rfl rfl) ?_
    refine StepsOk.cons (st_load H4.out rfl rfl rfl rfl rfl) ?_
    refine StepsOk.cons (st_mk2 rfl rfl rfl rfl rfl rfl) ?_
    refine StepsOk.cons (st_do DD.out rfl rfl rfl rfl rfl) ?_
    refine StepsOk.cons (st_alloc rfl rfl rfl rfl) ?_
    exact StepsOk.nil
  · kernel_rfl
  intro ac w11 hb hR hdf hsz hkeep
  obtain ⟨g6, u11, k6⟩ := hR
  replace t0 : ac.tmps.getD 0 undef = .int .i64 a := (hkeep 0 (by kernel_rfl)).trans t0
  replace t1 : ac.tmps.getD 1 undef = .int .i64 b := (hkeep 1 (by kernel_rfl)).trans t1
  replace t5 : ac.tmps.getD 5 undef = .pointer (some ⟨g0, 0, none⟩) := (hkeep 5 (by kernel_rfl)).trans t5
  replace t6 : ac.tmps.getD 6 undef = .pointer (some ⟨g1, 0, none⟩) := (hkeep 6 (by kernel_rfl)).trans t6
  replace t7 : ac.tmps.getD 7 undef = .pointer (some ⟨g2, 0, none⟩) := (hkeep 7 (by kernel_rfl)).trans t7
  replace t8 : ac.tmps.getD 8 undef = .pointer (some ⟨g3, 0, none⟩) := (hkeep 8 (by kernel_rfl)).trans t8
  replace t9 : ac.tmps.getD 9 undef = .pointer (some ⟨g4, 0, none⟩) := (hkeep 9 (by kernel_rfl)).trans t9
  replace t10 : ac.tmps.getD 10 undef = .pointer (some ⟨g5, 0, none⟩) := (hkeep 10 (by kernel_rfl)).trans t10
  have t11 := u11
  clear u11
  have hs : ac.tmps.size = 98 := hsz.trans hsz0
  replace H0 := Lib.hid (H0.out.below hb)
  replace H1 := Lib.hid (H1.out.below hb)
  replace H2 := Lib.hid (H2.out.below hb)
  replace H3 := Lib.hid (H3.out.below hb)
  replace H4 := Lib.hid (H4.out.below hb)
  replace H5 := Lib.hid (H5.out.below hb)
  have H6 := Lib.hid (box_of k6)
  replace HT := Lib.hid (HT.out.below hb)
  replace B := bnext B hb
  clear hkeep hsz hb k6 hsz0
  have hsz0 := hs
  clear hs
  obtain ⟨T, dfs⟩ := ac
  dsimp only at hdf hsz0 t0 t1 t5 t6 t7 t8 t9 t10 t11
  subst hdf
  have hsz : T.size = 98 := hsz0
  go_wp2_with fail
  refine wp_region_vals ord8Dl [5, 6, 7, 9, 10, 11, 0, 1] (ord8Ds g0 g1 g2 g3 g4 g5 g6 0 a b g o le ne) rfl rfl ?_ ?_ ?_ ?_ ?_ ?_
  · rw [show ∀ x, okB ({ tmps := T, defers := x } : Act).tmps.size = okB 98 from fun _ => by rw [hsz]]
    kernel_rfl
  · kernel_rfl
  · kernel_rfl
  · exact List.forall_mem_cons.2 ⟨t5, List.forall_mem_cons.2 ⟨t6, List.forall_mem_cons.2 ⟨t7, List.forall_mem_cons.2 ⟨t9, List.forall_mem_cons.2 ⟨t10, List.forall_mem_cons.2 ⟨t11, List.forall_mem_cons.2 ⟨t0, List.forall_mem_cons.2 ⟨t1, fun _ h => nomatch h⟩⟩⟩⟩⟩⟩⟩⟩
  · refine StepsOk.cons (st_alive HT.out rfl rfl rfl rfl) ?_
    refine StepsOk.cons (st_move rfl rfl rfl rfl rfl) ?_
    refine StepsOk.cons (st_load H2.out rfl rfl rfl rfl rfl) ?_
    refine StepsOk.cons (st_move rfl rfl rfl rfl rfl) ?_
    refine StepsOk.cons (st_move rfl rfl rfl rfl rfl) ?_
    refine StepsOk.cons (st_bin (grd_lss _ _ _ _) (bin_lss _ _) rfl rfl rfl rfl rfl rfl) ?_
    refine StepsOk.cons (st_yes rfl rfl rfl rfl rfl) ?_
    refine StepsOk.cons (st_eql (by simp) rfl rfl rfl rfl rfl rfl) ?_
    refine StepsOk.cons (st_pick rfl rfl rfl rfl rfl rfl) ?_
    refine StepsOk.cons (st_move rfl rfl rfl rfl rfl) ?_
    refine StepsOk.cons (st_load H4.out rfl rfl rfl rfl rfl) ?_
    refine StepsOk.cons (st_move rfl rfl rfl rfl rfl) ?_
    refine StepsOk.cons (st_move rfl rfl rfl rfl rfl) ?_
    refine StepsOk.cons (st_bin (grd_eql _ _ _ _) (bin_eql _ _) rfl rfl rfl rfl rfl rfl) ?_
    refine StepsOk.cons (st_yes rfl rfl rfl rfl rfl) ?_
    refine StepsOk.cons (st_eql (by simp) rfl rfl rfl rfl rfl rfl) ?_
    refine StepsOk.cons (st_pick rfl rfl rfl rfl rfl rfl) ?_
    refine StepsOk.cons (st_move rfl rfl rfl rfl rfl) ?_
    refine StepsOk.cons (st_load H0.out rfl rfl rfl rfl rfl) ?_
    refine StepsOk.cons (st_load H1.out rfl rfl rfl rfl rfl) ?_
    refine StepsOk.cons (st_mk2 rfl rfl rfl rfl rfl rfl) ?_
    refine StepsOk.cons (st_do DE.out rfl rfl rfl rfl rfl) ?_
    refine StepsOk.cons (st_load H2.out rfl rfl rfl rfl rfl) ?_
    refine StepsOk.cons (st_load H4.out rfl rfl rfl rfl rfl) ?_
    refine StepsOk.cons (st_mk2 rfl rfl rfl rfl rfl rfl) ?_
    refine StepsOk.cons (st_do DF.out rfl rfl rfl rfl rfl) ?_
    refine StepsOk.cons (st_eql (by simp) rfl rfl rfl rfl rfl rfl) ?_
    refine StepsOk.cons (st_pick rfl rfl rfl rfl rfl rfl) ?_
    refine StepsOk.cons (st_move rfl rfl rfl rfl rfl) ?_
    refine StepsOk.cons (st_load H0.out rfl rfl rfl rfl rfl) ?_
    refine StepsOk.cons (st_load H1.out rfl rfl rfl rfl rfl) ?_
    refine StepsOk.cons (st_mk2 rfl rfl rfl rfl rfl rfl) ?_
    refine StepsOk.cons (st_do DH.out rfl rfl rfl rfl rfl) ?_
    refine StepsOk.cons (st_load H4.out rfl rfl rfl rfl rfl) ?_
    refine StepsOk.cons (st_mk1 rfl rfl rfl rfl rfl) ?_
    refine StepsOk.cons (st_do DI.out rfl rfl rfl rfl rfl) ?_
    refine StepsOk.cons (st_eql (by simp) rfl rfl rfl rfl rfl rfl) ?_
    refine StepsOk.cons (st_pick rfl rfl rfl rfl rfl rfl) ?_
    refine StepsOk.cons (st_move rfl rfl rfl rfl rfl) ?_
    refine StepsOk.cons (st_load H5.out rfl rfl rfl rfl rfl) ?_
    refine StepsOk.cons (st_yes rfl rfl rfl rfl rfl) ?_
    refine StepsOk.cons (st_eql (by simp) rfl rfl rfl rfl rfl rfl) ?_
    refine StepsOk.cons (st_pick rfl rfl rfl rfl rfl rfl) ?_
    refine StepsOk.cons (st_move rfl rfl rfl rfl rfl) ?_
    refine StepsOk.cons (st_load H6.out rfl rfl rfl rfl rfl) ?_
    refine StepsOk.cons (st_yes rfl rfl rfl rfl rfl) ?_
    refine StepsOk.cons (st_eql (by simp) rfl rfl rfl rfl rfl rfl) ?_
    refine StepsOk.cons (st_pick rfl rfl rfl rfl rfl rfl) ?_
    refine StepsOk.cons (st_move rfl rfl rfl rfl rfl) ?_
    refine StepsOk.cons (st_load H0.out rfl rfl rfl rfl rfl) ?_
    refine StepsOk.cons (st_load H0.out rfl rfl rfl rfl rfl) ?_
    refine StepsOk.cons (st_mk2 rfl rfl rfl rfl rfl rfl) ?_
    refine StepsOk.cons (st_do DJ.out rfl rfl rfl rfl rfl) ?_
    refine StepsOk.cons (st_yes rfl rfl rfl rfl rfl) ?_
    refine StepsOk.cons (st_eql (by simp) rfl rfl rfl rfl rfl rfl) ?_
    refine StepsOk.cons (st_pick rfl rfl rfl rfl rfl rfl) ?_
    refine StepsOk.cons (st_assign rfl rfl rfl rfl rfl) ?_
    exact StepsOk.nil
  intro ac w hb hdf _ _ hv
  have h4 : ac.tmps.getD 4 undef = .bool true := hv 4 (by decide)
  clear hv
  obtain ⟨T', dfs⟩ := ac
  dsimp only at hdf
  subst hdf
  go_wp2_with fail
  exact ret_slot Tryd.results5 h4 ⟨rfl, bnext B hb⟩
theorem walk_ValuesOrder (v0 v1 : Value) (W : World) (A0 : Arg Tryd.prog 2 W v0) (A1 : Arg Tryd.prog 2 W v1) (ht : Tab W) :
    Calls Tryd.prog 5 #[v0, v1] W fun e w' => e = .returned (.bool true) ∧ Below W.heap.size W w' := by
  obtain ⟨a, rfl, _⟩ := A0.int Tryd.underlying2
  obtain ⟨b, rfl, _⟩ := A1.int Tryd.underlying2
  have e1 : (decide (a < b) && decide (b < a)) = false := by simp only [Bool.and_eq_false_iff, decide_eq_false_iff_not]; omega
  have e2 : (decide (a < b) || decide (b < a) || a == b) = true := by simp only [Bool.or_eq_true, decide_eq_true_eq, beq_iff_eq]; omega
  have e3 : (decide (a < b) || a == b) = decide (a ≤ b) := by
    rw [Bool.eq_iff_iff]
    simp only [Bool.or_eq_true, decide_eq_true_eq, beq_iff_eq]
    omega
  refine order_walk a b (boolI (decide (b < a))) (boolI (decide (a < b) || decide (b < a))) (boolI (decide (a ≤ b))) (boolI (!(a == b))) W ht (Lib.hid (doL_lt a b)) (Lib.hid (doL_lt b a)) (Lib.hid (doL_same a b))
    (Lib.hid (by rw [doL_and, e1])) (Lib.hid (by rw [doL_and]; rfl)) (Lib.hid (doL_or _ _)) (Lib.hid (by rw [doL_or, e2])) (Lib.hid (doL_le a b)) (Lib.hid (by rw [doL_or, e3])) (Lib.hid (doL_else a b)) (Lib.hid (doL_not _)) (Lib.hid (by rw [doL_lt, show decide (a < a) = false from decide_eq_false (by omega)]))

end Go.Proofs.YtphlodafdkpedaaDoor
