/-
  The walk of belfrylaw11.ValuesRing (printed by wip/genring.py).
-/
import Derived.Test.YtphlodafdkpedaaDoorValsArgs
import Derived.Test.YtphlodafdkpedaaDoorValsLive
import Derived.Test.YtphlodafdkpedaaDoorAnyOps
import Derived.Deep.RegionHeld3
namespace Go.Proofs.YtphlodafdkpedaaDoor
open Go.RowKit
open Go

theorem doL_add (a b : Int) : doL 6 [(1, a), (1, b)] = (1, wrap64 (a + b)) := rfl
theorem doL_mul (a b : Int) : doL 8 [(1, a), (1, b)] = (1, wrap64 (a * b)) := rfl
theorem wrap_eq (x : Int) : ∃ k, wrap64 x = x + 18446744073709551616 * k := ⟨-((x + 9223372036854775808) / 18446744073709551616), by unfold wrap64; omega⟩
theorem wrap_add (x k : Int) : wrap64 (x + 18446744073709551616 * k) = wrap64 x := by unfold wrap64; omega
theorem wrap_mul (x y : Int) : wrap64 (wrap64 x * y) = wrap64 (x * y) := by
  obtain ⟨k, hk⟩ := wrap_eq x
  rw [hk, Int.add_mul, Int.mul_assoc, wrap_add]
theorem wrap_mul' (x y : Int) : wrap64 (x * wrap64 y) = wrap64 (x * y) := by rw [Int.mul_comm, wrap_mul, Int.mul_comm]
theorem wrap_sum (x y : Int) : wrap64 (wrap64 x + wrap64 y) = wrap64 (x + y) := by unfold wrap64; omega
theorem wrap_sum1 (x y : Int) : wrap64 (wrap64 x + y) = wrap64 (x + y) := by unfold wrap64; omega
theorem wrap_sum2 (x y : Int) : wrap64 (x + wrap64 y) = wrap64 (x + y) := by unfold wrap64; omega
def ringDl : List Nat := [21, 22, 23, 24, 25, 26, 27, 28, 29, 30, 31, 32, 33, 34, 35, 36, 37, 38, 39, 40, 41, 42, 43, 44, 45, 46, 47, 48, 49, 50, 51, 52, 53, 54, 55, 56, 57, 58, 59, 60, 61, 62, 63, 64, 65, 66, 67, 68, 69, 70, 71, 72, 73, 74, 75, 76, 77, 78, 79, 80, 81, 82, 83, 84, 85, 86, 87, 88, 89, 90, 91, 92, 93, 94, 95, 96, 97, 98, 99, 100, 101, 102, 103, 104, 105, 106, 107, 6]
def ringDs (gx gy gz gs : Nat) (a b c ab bc mab mbc mac s3 m3 d : Int) : List Dv := [.any, .any, .any, .any, .any, .any, .lit (.bool true), .lit (.pointer (some ⟨gx, 0, none⟩)), .lit (.pointer (some ⟨gy, 0, none⟩)), .lit (.pointer (some ⟨gz, 0, none⟩)), .lit (.pointer (some ⟨gs, 0, none⟩)), .any, .any, .any, .any, .any, .any, .any, .any, .any, .any, .lit (.bool true), .lit (.bool true), .lit (.agg #[.int .u8 1, .int .i64 a]), .lit (.agg #[.int .u8 1, .int .i64 b]), .vs [(1, a), (1, b)], .lit (.agg #[.int .u8 1, .int .i64 ab]), .lit (.agg #[.int .u8 1, .int .i64 b]), .lit (.agg #[.int .u8 1, .int .i64 a]), .vs [(1, b), (1, a)], .lit (.agg #[.int .u8 1, .int .i64 ab]), .lit (.bool true), .lit (.bool true), .lit (.bool true), .lit (.agg #[.int .u8 1, .int .i64 a]), .lit (.agg #[.int .u8 1, .int .i64 b]), .vs [(1, a), (1, b)], .lit (.agg #[.int .u8 1, .int .i64 mab]), .lit (.agg #[.int .u8 1, .int .i64 b]), .lit (.agg #[.int .u8 1, .int .i64 a]), .vs [(1, b), (1, a)], .lit (.agg #[.int .u8 1, .int .i64 mab]), .lit (.bool true), .lit (.bool true), .lit (.bool true), .lit (.agg #[.int .u8 1, .int .i64 a]), .lit (.agg #[.int .u8 1, .int .i64 b]), .vs [(1, a), (1, b)], .lit (.agg #[.int .u8 1, .int .i64 ab]), .lit (.agg #[.int .u8 1, .int .i64 c]), .vs [(1, ab), (1, c)], .lit (.agg #[.int .u8 1, .int .i64 s3]), .lit (.agg #[.int .u8 1, .int .i64 a]), .lit (.agg #[.int .u8 1, .int .i64 bc]), .vs [(1, a), (1, bc)], .lit (.agg #[.int .u8 1, .int .i64 s3]), .lit (.bool true), .lit (.bool true), .lit (.bool true), .lit (.agg #[.int .u8 1, .int .i64 a]), .lit (.agg #[.int .u8 1, .int .i64 b]), .vs [(1, a), (1, b)], .lit (.agg #[.int .u8 1, .int .i64 mab]), .lit (.agg #[.int .u8 1, .int .i64 c]), .vs [(1, mab), (1, c)], .lit (.agg #[.int .u8 1, .int .i64 m3]), .lit (.agg #[.int .u8 1, .int .i64 a]), .lit (.agg #[.int .u8 1, .int .i64 b]), .lit (.agg #[.int .u8 1, .int .i64 c]), .vs [(1, b), (1, c)], .lit (.agg #[.int .u8 1, .int .i64 mbc]), .vs [(1, a), (1, mbc)], .lit (.agg #[.int .u8 1, .int .i64 m3]), .lit (.bool true), .lit (.bool true), .lit (.bool true), .lit (.agg #[.int .u8 1, .int .i64 a]), .lit (.agg #[.int .u8 1, .int .i64 bc]), .vs [(1, a), (1, bc)], .lit (.agg #[.int .u8 1, .int .i64 d]), .lit (.agg #[.int .u8 1, .int .i64 a]), .lit (.agg #[.int .u8 1, .int .i64 b]), .vs [(1, a), (1, b)], .lit (.agg #[.int .u8 1, .int .i64 mab]), .lit (.agg #[.int .u8 1, .int .i64 a]), .lit (.agg #[.int .u8 1, .int .i64 c]), .vs [(1, a), (1, c)], .lit (.agg #[.int .u8 1, .int .i64 mac]), .vs [(1, mab), (1, mac)], .lit (.agg #[.int .u8 1, .int .i64 d]), .lit (.bool true), .lit (.bool true), .lit (.bool true), .lit (.agg #[.int .u8 1, .int .i64 a]), .lit (.agg #[.int .u8 1, .int .i64 0]), .vs [(1, a), (1, 0)], .lit (.agg #[.int .u8 1, .int .i64 a]), .lit (.agg #[.int .u8 1, .int .i64 a]), .lit (.bool true), .lit (.bool true), .lit (.bool true), .lit (.agg #[.int .u8 1, .int .i64 a]), .lit (.agg #[.int .u8 1, .int .i64 1]), .vs [(1, a), (1, 1)], .lit (.agg #[.int .u8 1, .int .i64 a]), .lit (.agg #[.int .u8 1, .int .i64 a]), .lit (.bool true), .lit (.bool true)]
set_option maxRecDepth 20000 in
set_option maxHeartbeats 16000000 in
theorem ring_walk (a b c ab bc mab mbc mac s3 m3 d : Int) (W : World) (ht : Tab W) (E0 : ∀ (w : World) (x : Obj), Calls Tryd.prog 15 #[.int .u8 6, .slice (some ⟨w.heap.size + 1, 0, none⟩) 2 2] ((w.alloc x).alloc (.cells #[.int .u8 1, .int .i64 b, .int .u8 1, .int .i64 c] 24 (0, 0))) fun e w' => e = .returned (.agg #[.int .u8 1, .int .i64 bc]) ∧ Below (w.alloc x).heap.size (w.alloc x) w')
    (D0 : Hid (doL 6 [(1, a), (1, b)] = (1, ab)))
    (D1 : Hid (doL 6 [(1, b), (1, a)] = (1, ab)))
    (D2 : Hid (doL 8 [(1, a), (1, b)] = (1, mab)))
    (D3 : Hid (doL 8 [(1, b), (1, a)] = (1, mab)))
    (D4 : Hid (doL 6 [(1, ab), (1, c)] = (1, s3)))
    (D5 : Hid (doL 6 [(1, a), (1, bc)] = (1, s3)))
    (D6 : Hid (doL 8 [(1, mab), (1, c)] = (1, m3)))
    (D7 : Hid (doL 8 [(1, b), (1, c)] = (1, mbc)))
    (D8 : Hid (doL 8 [(1, a), (1, mbc)] = (1, m3)))
    (D9 : Hid (doL 8 [(1, a), (1, bc)] = (1, d)))
    (D10 : Hid (doL 8 [(1, a), (1, c)] = (1, mac)))
    (D11 : Hid (doL 6 [(1, mab), (1, mac)] = (1, d)))
    (D12 : Hid (doL 6 [(1, a), (1, 0)] = (1, a)))
    (D13 : Hid (doL 8 [(1, a), (1, 1)] = (1, a)))
    : Calls Tryd.prog 9 #[.int .i64 a, .int .i64 b, .int .i64 c] W fun e w' => e = .returned (.bool true) ∧ Below W.heap.size W w' := by
  have N := Lib.hid (fun n w => nums_any n w)
  have AL := Lib.hid (fun w h => alive_any w h)
  have HT := Lib.hid ht
  have HE := Lib.hid E0
  clear ht E0
  go_enter Tryd.func9, Tryd.ntmps9
  go_wp2_with fail
  refine (N.out _ _).mono ?_
  rintro e w1 ⟨rfl, b1⟩
  go_wp2_with fail
  have k1 := heap_alloc_new w1 (.cells #[.int .u8 1, .int .i64 a] 24 (0, 0))
  have B1 := balloc b1 (.cells #[.int .u8 1, .int .i64 a] 24 (0, 0))
  generalize hx : w1.heap.size = gx at *
  generalize w1.alloc (.cells #[.int .u8 1, .int .i64 a] 24 (0, 0)) = w2 at *
  clear b1 hx
  refine (N.out _ _).mono ?_
  rintro e w3 ⟨rfl, b3⟩
  go_wp2_with fail
  have k2 := (b3.block _ (lt_of_block k1)).trans k1
  have k3 := heap_alloc_new w3 (.cells #[.int .u8 1, .int .i64 b] 24 (0, 0))
  have k4 := (Below.heap_alloc w3 (.cells #[.int .u8 1, .int .i64 b] 24 (0, 0)) gx (lt_of_block k2)).trans k2
  have B3 := balloc (bnext B1 b3) (.cells #[.int .u8 1, .int .i64 b] 24 (0, 0))
  generalize hy : w3.heap.size = gy at *
  generalize w3.alloc (.cells #[.int .u8 1, .int .i64 b] 24 (0, 0)) = w4 at *
  clear b3 B1 k1 k2 hy
  refine (N.out _ _).mono ?_
  rintro e w5 ⟨rfl, b5⟩
  have k5 := (b5.block _ (lt_of_block k4)).trans k4
  have k6 := (b5.block _ (lt_of_block k3)).trans k3
  have k7 := heap_alloc_new w5 (.cells #[.int .u8 1, .int .i64 c] 24 (0, 0))
  have k8 := (Below.heap_alloc w5 (.cells #[.int .u8 1, .int .i64 c] 24 (0, 0)) gx (lt_of_block k5)).trans k5
  have k9 := (Below.heap_alloc w5 (.cells #[.int .u8 1, .int .i64 c] 24 (0, 0)) gy (lt_of_block k6)).trans k6
  have y0 := cell_of_row _ _ 0 _ _ _ k9
  have y1 := cell_of_row _ _ 1 _ _ _ k9
  have z0 := cell_of_row _ _ 0 _ _ _ k7
  have z1 := cell_of_row _ _ 1 _ _ _ k7
  have B5 := balloc (bnext B3 b5) (.cells #[.int .u8 1, .int .i64 c] 24 (0, 0))
  have HK := Lib.hid (And.intro k7 (And.intro k8 k9))
  clear k3 k4 k5 k6 k7 k8 k9 b5 B3
  go_wp2_with fail
  refine (HE.out _ _).mono ?_
  rintro e w6 ⟨rfl, b6⟩
  obtain ⟨k7, k8, k9⟩ := HK.out
  have j7 := (b6.block _ (lt_of_block k7)).trans k7
  have j8 := (b6.block _ (lt_of_block k8)).trans k8
  have j9 := (b6.block _ (lt_of_block k9)).trans k9
  have B6 := bnext B5 b6
  clear b6 k7 k8 k9 HK y0 y1 z0 z1 B5
  generalize w5.heap.size = gz at *
  go_wp2_with fail
  have i7 := (Below.heap_alloc w6 (.cells #[.int .u8 1, .int .i64 bc] 24 (0, 0)) gz (lt_of_block j7)).trans j7
  have i8 := (Below.heap_alloc w6 (.cells #[.int .u8 1, .int .i64 bc] 24 (0, 0)) gx (lt_of_block j8)).trans j8
  have i9 := (Below.heap_alloc w6 (.cells #[.int .u8 1, .int .i64 bc] 24 (0, 0)) gy (lt_of_block j9)).trans j9
  have i6 := heap_alloc_new w6 (.cells #[.int .u8 1, .int .i64 bc] 24 (0, 0))
  have B7 := balloc B6 (.cells #[.int .u8 1, .int .i64 bc] 24 (0, 0))
  generalize w6.heap.size = gs at *
  generalize w6.alloc (.cells #[.int .u8 1, .int .i64 bc] 24 (0, 0)) = wr at *
  go_wp2_with fail
  have HX := Lib.hid (box_of (wr := wr) i8)
  have HY := Lib.hid (box_of (wr := wr) i9)
  have HZ := Lib.hid (box_of (wr := wr) i7)
  have HS := Lib.hid (box_of (wr := wr) i6)
  replace HT := Lib.hid (HT.out.below B7)
  clear i6 i7 i8 i9 j7 j8 j9 B6 HE N AL
  dsimp only [List.append]
  refine wp_region_vals ringDl [7, 8, 9, 10] (ringDs gx gy gz gs a b c ab bc mab mbc mac s3 m3 d) rfl rfl ?_ ?_ ?_ ?_ ?_ ?_
  · kernel_rfl
  · kernel_rfl
  · kernel_rfl
  · exact List.forall_mem_cons.2 ⟨rfl, List.forall_mem_cons.2 ⟨rfl, List.forall_mem_cons.2 ⟨rfl, List.forall_mem_cons.2 ⟨rfl, fun _ h => nomatch h⟩⟩⟩⟩
  · refine StepsOk.cons (st_alive HT.out rfl rfl rfl rfl) ?_
    refine StepsOk.cons (st_move rfl rfl rfl rfl rfl) ?_
    refine StepsOk.cons (st_load HX.out rfl rfl rfl rfl rfl) ?_
    refine StepsOk.cons (st_load HY.out rfl rfl rfl rfl rfl) ?_
    refine StepsOk.cons (st_mk2 rfl rfl rfl rfl rfl rfl) ?_
    refine StepsOk.cons (st_do D0.out rfl rfl rfl rfl rfl) ?_
    refine StepsOk.cons (st_load HY.out rfl rfl rfl rfl rfl) ?_
    refine StepsOk.cons (st_load HX.out rfl rfl rfl rfl rfl) ?_
    refine StepsOk.cons (st_mk2 rfl rfl rfl rfl rfl rfl) ?_
    refine StepsOk.cons (st_do D1.out rfl rfl rfl rfl rfl) ?_
    refine StepsOk.cons (st_eql (by simp) rfl rfl rfl rfl rfl rfl) ?_
    refine StepsOk.cons (st_pick rfl rfl rfl rfl rfl rfl) ?_
    refine StepsOk.cons (st_move rfl rfl rfl rfl rfl) ?_
    refine StepsOk.cons (st_load HX.out rfl rfl rfl rfl rfl) ?_
    refine StepsOk.cons (st_load HY.out rfl rfl rfl rfl rfl) ?_
    refine StepsOk.cons (st_mk2 rfl rfl rfl rfl rfl rfl) ?_
    refine StepsOk.cons (st_do D2.out rfl rfl rfl rfl rfl) ?_
    refine StepsOk.cons (st_load HY.out rfl rfl rfl rfl rfl) ?_
    refine StepsOk.cons (st_load HX.out rfl rfl rfl rfl rfl) ?_
    refine StepsOk.cons (st_mk2 rfl rfl rfl rfl rfl rfl) ?_
    refine StepsOk.cons (st_do D3.out rfl rfl rfl rfl rfl) ?_
    refine StepsOk.cons (st_eql (by simp) rfl rfl rfl rfl rfl rfl) ?_
    refine StepsOk.cons (st_pick rfl rfl rfl rfl rfl rfl) ?_
    refine StepsOk.cons (st_move rfl rfl rfl rfl rfl) ?_
    refine StepsOk.cons (st_load HX.out rfl rfl rfl rfl rfl) ?_
    refine StepsOk.cons (st_load HY.out rfl rfl rfl rfl rfl) ?_
    refine StepsOk.cons (st_mk2 rfl rfl rfl rfl rfl rfl) ?_
    refine StepsOk.cons (st_do D0.out rfl rfl rfl rfl rfl) ?_
    refine StepsOk.cons (st_load HZ.out rfl rfl rfl rfl rfl) ?_
    refine StepsOk.cons (st_mk2 rfl rfl rfl rfl rfl rfl) ?_
    refine StepsOk.cons (st_do D4.out rfl rfl rfl rfl rfl) ?_
    refine StepsOk.cons (st_load HX.out rfl rfl rfl rfl rfl) ?_
    refine StepsOk.cons (st_load HS.out rfl rfl rfl rfl rfl) ?_
    refine StepsOk.cons (st_mk2 rfl rfl rfl rfl rfl rfl) ?_
    refine StepsOk.cons (st_do D5.out rfl rfl rfl rfl rfl) ?_
    refine StepsOk.cons (st_eql (by simp) rfl rfl rfl rfl rfl rfl) ?_
    refine StepsOk.cons (st_pick rfl rfl rfl rfl rfl rfl) ?_
    refine StepsOk.cons (st_move rfl rfl rfl rfl rfl) ?_
    refine StepsOk.cons (st_load HX.out rfl rfl rfl rfl rfl) ?_
    refine StepsOk.cons (st_load HY.out rfl rfl rfl rfl rfl) ?_
    refine StepsOk.cons (st_mk2 rfl rfl rfl rfl rfl rfl) ?_
    refine StepsOk.cons (st_do D2.out rfl rfl rfl rfl rfl) ?_
    refine StepsOk.cons (st_load HZ.out rfl rfl rfl rfl rfl) ?_
    refine StepsOk.cons (st_mk2 rfl rfl rfl rfl rfl rfl) ?_
    refine StepsOk.cons (st_do D6.out rfl rfl rfl rfl rfl) ?_
    refine StepsOk.cons (st_load HX.out rfl rfl rfl rfl rfl) ?_
    refine StepsOk.cons (st_load HY.out rfl rfl rfl rfl rfl) ?_
    refine StepsOk.cons (st_load HZ.out rfl rfl rfl rfl rfl) ?_
    refine StepsOk.cons (st_mk2 rfl rfl rfl rfl rfl rfl) ?_
    refine StepsOk.cons (st_do D7.out rfl rfl rfl rfl rfl) ?_
    refine StepsOk.cons (st_mk2 rfl rfl rfl rfl rfl rfl) ?_
    refine StepsOk.cons (st_do D8.out rfl rfl rfl rfl rfl) ?_
    refine StepsOk.cons (st_eql (by simp) rfl rfl rfl rfl rfl rfl) ?_
    refine StepsOk.cons (st_pick rfl rfl rfl rfl rfl rfl) ?_
    refine StepsOk.cons (st_move rfl rfl rfl rfl rfl) ?_
    refine StepsOk.cons (st_load HX.out rfl rfl rfl rfl rfl) ?_
    refine StepsOk.cons (st_load HS.out rfl rfl rfl rfl rfl) ?_
    refine StepsOk.cons (st_mk2 rfl rfl rfl rfl rfl rfl) ?_
    refine StepsOk.cons (st_do D9.out rfl rfl rfl rfl rfl) ?_
    refine StepsOk.cons (st_load HX.out rfl rfl rfl rfl rfl) ?_
    refine StepsOk.cons (st_load HY.out rfl rfl rfl rfl rfl) ?_
    refine StepsOk.cons (st_mk2 rfl rfl rfl rfl rfl rfl) ?_
    refine StepsOk.cons (st_do D2.out rfl rfl rfl rfl rfl) ?_
    refine StepsOk.cons (st_load HX.out rfl rfl rfl rfl rfl) ?_
    refine StepsOk.cons (st_load HZ.out rfl rfl rfl rfl rfl) ?_
    refine StepsOk.cons (st_mk2 rfl rfl rfl rfl rfl rfl) ?_
    refine StepsOk.cons (st_do D10.out rfl rfl rfl rfl rfl) ?_
    refine StepsOk.cons (st_mk2 rfl rfl rfl rfl rfl rfl) ?_
    refine StepsOk.cons (st_do D11.out rfl rfl rfl rfl rfl) ?_
    refine StepsOk.cons (st_eql (by simp) rfl rfl rfl rfl rfl rfl) ?_
    refine StepsOk.cons (st_pick rfl rfl rfl rfl rfl rfl) ?_
    refine StepsOk.cons (st_move rfl rfl rfl rfl rfl) ?_
    refine StepsOk.cons (st_load HX.out rfl rfl rfl rfl rfl) ?_
    refine StepsOk.cons (st_num rfl rfl rfl rfl rfl) ?_
    refine StepsOk.cons (st_mk2 rfl rfl rfl rfl rfl rfl) ?_
    refine StepsOk.cons (st_do D12.out rfl rfl rfl rfl rfl) ?_
    refine StepsOk.cons (st_load HX.out rfl rfl rfl rfl rfl) ?_
    refine StepsOk.cons (st_eql (by simp) rfl rfl rfl rfl rfl rfl) ?_
    refine StepsOk.cons (st_pick rfl rfl rfl rfl rfl rfl) ?_
    refine StepsOk.cons (st_move rfl rfl rfl rfl rfl) ?_
    refine StepsOk.cons (st_load HX.out rfl rfl rfl rfl rfl) ?_
    refine StepsOk.cons (st_num rfl rfl rfl rfl rfl) ?_
    refine StepsOk.cons (st_mk2 rfl rfl rfl rfl rfl rfl) ?_
    refine StepsOk.cons (st_do D13.out rfl rfl rfl rfl rfl) ?_
    refine StepsOk.cons (st_load HX.out rfl rfl rfl rfl rfl) ?_
    refine StepsOk.cons (st_eql (by simp) rfl rfl rfl rfl rfl rfl) ?_
    refine StepsOk.cons (st_pick rfl rfl rfl rfl rfl rfl) ?_
    refine StepsOk.cons (st_assign rfl rfl rfl rfl rfl) ?_
    exact StepsOk.nil
  intro ac w hb hdf hsz _ hv
  have h6 : ac.tmps.getD 6 undef = .bool true := hv 6 (by decide)
  clear hv
  obtain ⟨T, dfs⟩ := ac
  dsimp only at hdf
  subst hdf
  go_wp2_with fail
  exact ret_slot Tryd.results9 h6 ⟨rfl, bnext B7 hb⟩
theorem walk_ValuesRing (v0 v1 v2 : Value) (W : World) (A0 : Arg Tryd.prog 2 W v0) (A1 : Arg Tryd.prog 2 W v1) (A2 : Arg Tryd.prog 2 W v2) (ht : Tab W) :
    Calls Tryd.prog 9 #[v0, v1, v2] W fun e w' => e = .returned (.bool true) ∧ Below W.heap.size W w' := by
  obtain ⟨a, rfl, fa⟩ := A0.int Tryd.underlying2
  obtain ⟨b, rfl, _⟩ := A1.int Tryd.underlying2
  obtain ⟨c, rfl, _⟩ := A2.int Tryd.underlying2
  obtain ⟨h0, h1⟩ := bounds_i64 fa
  have wa : wrap64 a = a := (by unfold wrap64; omega)
  refine ring_walk a b c (wrap64 (a + b)) (wrap64 (b + c)) (wrap64 (a * b)) (wrap64 (b * c)) (wrap64 (a * c)) (wrap64 (a + b + c)) (wrap64 (a * b * c)) (wrap64 (a * b + a * c)) W ht ?_
    (Lib.hid ((by rw [doL_add])))
    (Lib.hid ((by rw [doL_add, Int.add_comm])))
    (Lib.hid ((by rw [doL_mul])))
    (Lib.hid ((by rw [doL_mul, Int.mul_comm])))
    (Lib.hid ((by rw [doL_add, wrap_sum1])))
    (Lib.hid ((by rw [doL_add, wrap_sum2, ← Int.add_assoc])))
    (Lib.hid ((by rw [doL_mul, wrap_mul])))
    (Lib.hid ((by rw [doL_mul])))
    (Lib.hid ((by rw [doL_mul, wrap_mul', ← Int.mul_assoc])))
    (Lib.hid ((by rw [doL_mul, wrap_mul', Int.mul_add])))
    (Lib.hid ((by rw [doL_mul])))
    (Lib.hid ((by rw [doL_add, wrap_sum])))
    (Lib.hid ((by rw [doL_add, Int.add_zero, wa])))
    (Lib.hid ((by rw [doL_mul, Int.mul_one, wa])))
  intro w x
  have H := ldo_any 6 _ _ _ (rd_2 1 b 1 c (w.alloc x))
  rw [doL_add, show (w.alloc x).heap.size = w.heap.size + 1 by simp] at H
  exact H.mono fun e w' ⟨he, hb⟩ => ⟨he, bnext (balloc (Below.refl _ _) _) (by simpa using hb)⟩
end Go.Proofs.YtphlodafdkpedaaDoor

