/-
  The walk of lives: the chapter's table.
-/
import Derived.Test.YtppjphelibdlcaaGreatDoorSlotsMake
import Derived.RegionTactic
import Derived.BigRegion
import Derived.BigQuiet
namespace Go.Proofs.YtppjphelibdlcaaGreatDoor
open Go.RowKit
open Go

theorem sum_live (g : Int) : sumS 10 5 g [100, 100, 100, 100] = 8 * g + 4020 := by
  simp [sumS, slot1]
  omega
theorem made_live {w w' : World} {e : Ending} (h : madeBy 10 2 5 100 1 [100, 100, 100, 100] w e w') :
    ∃ b, w.heap.size ≤ b ∧ e = .returned (.tuple #[tblV (.slice (some ⟨b, 0, none⟩) 4 4) 4244 28, .int .i64 0]) ∧
      w'.heap[b]? = some (.cells (rowsC [(0, 28, 1061), (1061, 1089, 2122), (2122, 2150, 3183), (3183, 3211, 4244)]).toArray 64 (0, 0)) := by
  have hm : mayB 10 2 5 100 1 [100, 100, 100, 100] = true := by decide
  have h28 : okG 10 2 5 100 [100, 100, 100, 100] 28 := by unfold okG; rw [sum_live]; decide
  rcases h with ⟨h1, _⟩ | ⟨_, b, G, hb, h0, _, hok, hmin, he, hh⟩ | ⟨_, h2, _⟩
  · rw [hm] at h1; cases h1
  · have h3 := hmin 28 (by decide) h28
    have hG : G = 28 := by
      unfold okG at hok
      rw [sum_live] at hok
      unfold skI at hok
      omega
    subst hG
    exact ⟨b, hb, he, hh⟩
  · have := h2 28 (by decide) h28
    omega
theorem made_few {w w' : World} {e : Ending} (h : madeBy 10 2 5 100 1 [100, 100, 100] w e w') : e = .returned (.tuple #[tblV (.slice none 0 0) 0 0, .int .i64 1]) := by
  have hm : mayB 10 2 5 100 1 [100, 100, 100] = false := by decide
  rcases h with ⟨_, he⟩ | ⟨h1, _⟩ | ⟨h1, _⟩
  · exact he
  · rw [hm] at h1; cases h1
  · rw [hm] at h1; cases h1

theorem rowsC_get (rs : List (Int × Int × Int)) (i j : Nat) (hj : j < 3) (hi : i < rs.length) : (rowsC rs)[i * 3 + j]? = (row3 rs[i])[j]? := by
  induction rs generalizing i with
  | nil => exact absurd hi (by simp)
  | cons x rs ih =>
    simp only [rowsC, List.flatMap_cons] at *
    cases i with
    | zero =>
      rw [Nat.zero_mul, Nat.zero_add, List.getElem?_append_left (by simp [row3]; omega)]
      rfl
    | succ i =>
      rw [List.getElem?_append_right (by simp [row3]; omega), show (i + 1) * 3 + j - (row3 x).length = i * 3 + j by simp [row3]; omega]
      simpa using ih i (by simpa using hi)
theorem rdN_rows {w : World} {b : Nat} {rs : List (Int × Int × Int)} {t : TypeId} (h : w.heap[b]? = some (.cells (rowsC rs).toArray t (0, 0))) (n : Nat) (hn : n = rs.length) (hm : n ≤ maxLen) : RdN 3 w (.slice (some ⟨b, 0, none⟩) n n) (rs.map row3) := by
  subst hn
  refine ⟨_, _, by rw [List.length_map], by simp, hm, by simp, fun r hr => ?_, fun i r hi => ⟨b, 0, rfl, fun j x hx => ?_⟩⟩
  · obtain ⟨x, _, rfl⟩ := List.mem_map.1 hr
    rfl
  · rw [List.getElem?_map] at hi
    obtain ⟨y, hy, rfl⟩ := Option.map_eq_some_iff.1 hi
    obtain ⟨hlt, rfl⟩ := List.getElem?_eq_some_iff.1 hy
    have hj : j < 3 := (List.getElem?_eq_some_iff.1 hx).1
    rw [Nat.zero_add, cell_of_row w b _ _ _ _ h, List.getElem?_toArray, rowsC_get rs i j hj hlt, hx]

set_option maxHeartbeats 4000000 in
theorem lives_any (w : World) : Calls Tryz.prog 4 #[] w fun e w' => e = .returned (.bool true) ∧ Below w.heap.size w w' := by
  go_enter Tryz.func4, Tryz.ntmps4
  go_wp2_with fail
  have B1 := balloc (balloc (Below.refl w.heap.size w) (.cells #[.int .i64 10, .int .i64 2, .int .i64 5, .int .i64 100, .int .i64 1] 23 (0, 0))) (.cells (ints [100, 100, 100, 100]).toArray 3 (0, 0))
  have k0 := heap_alloc2_old w (.cells #[.int .i64 10, .int .i64 2, .int .i64 5, .int .i64 100, .int .i64 1] 23 (0, 0)) (.cells (ints [100, 100, 100, 100]).toArray 3 (0, 0))
  have RD := rd_block (ints [100, 100, 100, 100]) 4 4 (heap_alloc2_new w (.cells #[.int .i64 10, .int .i64 2, .int .i64 5, .int .i64 100, .int .i64 1] 23 (0, 0)) (.cells (ints [100, 100, 100, 100]).toArray 3 (0, 0))) rfl (fun i x hx => by simpa using hx) (by decide) (by decide)
  refine (make_any 10 2 5 100 1 _ [100, 100, 100, 100] _ RD).mono ?_
  rintro e w1 ⟨hm, b1⟩
  obtain ⟨bs, hbs, rfl, hrows⟩ := made_live hm
  have k1 := (b1.block _ (lt_of_block k0)).trans k0
  have B2 := bnext B1 b1
  clear hm b1 k0 B1 RD
  have k2 := (heap_alloc_old (h := lt_of_block k1) w1 (.cells #[.slice (some ⟨bs, 0, none⟩) 4 4, .int .i64 4244, .int .i64 28] 27 (0, 0))).trans k1
  have hr2 := (heap_alloc_old (h := lt_of_block hrows) w1 (.cells #[.slice (some ⟨bs, 0, none⟩) 4 4, .int .i64 4244, .int .i64 28] 27 (0, 0))).trans hrows
  have kt := heap_alloc_new w1 (.cells #[.slice (some ⟨bs, 0, none⟩) 4 4, .int .i64 4244, .int .i64 28] 27 (0, 0))
  have B3 := balloc B2 (.cells #[.slice (some ⟨bs, 0, none⟩) 4 4, .int .i64 4244, .int .i64 28] 27 (0, 0))
  have K2 := Lib.hid k2
  have hs2 : (w1.alloc (.cells #[.slice (some ⟨bs, 0, none⟩) 4 4, .int .i64 4244, .int .i64 28] 27 (0, 0))).heap.size = w1.heap.size + 1 := by simp
  clear k1 hrows B2 k2
  go_wp2_with (refine wpList_load_row rfl 23 _ rfl w.heap.size rfl _ _ _ _ K2.out Tryz.underlying23 rfl info23 ?_)
  have k2 := K2.out
  clear K2
  generalize w1.heap.size = n1 at *
  generalize w1.alloc _ = w2 at *
  have RD2 := rd_block (w := w2.alloc (.cells (ints [100, 100, 100]).toArray 3 (0, 0))) (b := n1 + 1) (ints [100, 100, 100]) 3 3 (by rw [← hs2]; exact heap_alloc_new _ _) rfl (fun i x hx => by simpa using hx) (by decide) (by decide)
  refine (make_any 10 2 5 100 1 _ [100, 100, 100] _ RD2).mono ?_
  rintro e w3 ⟨hm, b3⟩
  obtain rfl := made_few hm
  have b4 := bnext (balloc (Below.refl _ _) _) b3
  have k3 := (b4.block _ (lt_of_block k2)).trans k2
  have hr3 := (b4.block _ (lt_of_block hr2)).trans hr2
  have kt3 := (b4.block _ (lt_of_block kt)).trans kt
  have B4 := bnext B3 b4
  clear hm b3 b4 B3 RD2 hs2 k2 hr2 kt
  have k4 := (heap_alloc_old (h := lt_of_block k3) w3 (.cells #[.slice none 0 0, .int .i64 0, .int .i64 0] 27 (0, 0))).trans k3
  have hr4 := (heap_alloc_old (h := lt_of_block hr3) w3 (.cells #[.slice none 0 0, .int .i64 0, .int .i64 0] 27 (0, 0))).trans hr3
  have kt4 := (heap_alloc_old (h := lt_of_block kt3) w3 (.cells #[.slice none 0 0, .int .i64 0, .int .i64 0] 27 (0, 0))).trans kt3
  have B5 := balloc B4 (.cells #[.slice none 0 0, .int .i64 0, .int .i64 0] 27 (0, 0))
  have K4 := Lib.hid k4
  clear k3 hr3 kt3 k4 B4
  go_wp2_with (refine wpList_load_row rfl 23 _ rfl w.heap.size rfl _ _ _ _ K4.out Tryz.underlying23 rfl info23 ?_)
  have k4 := K4.out
  clear K4
  generalize w3.alloc _ = w4 at *
  refine (skew_any _ _ _ _ _ _ _).mono ?_
  rw [show skewI 10 2 5 100 1 0 = 20 by decide]
  rintro e w5 ⟨rfl, b5⟩
  have K5 := Lib.hid ((b5.block _ (lt_of_block k4)).trans k4)
  have hr5 := (b5.block _ (lt_of_block hr4)).trans hr4
  have kt5 := (b5.block _ (lt_of_block kt4)).trans kt4
  have B6 := bnext B5 b5
  clear b5 k4 hr4 kt4 B5
  obtain ⟨c0, c1, c2, c3, c4⟩ := cells5 K5.out
  go_wp2_with fail
  refine (skew_any _ _ _ _ _ _ _).mono ?_
  rw [show skewI 10 2 5 100 1 1000000 = 820 by decide]
  rintro e w6 ⟨rfl, b6⟩
  have k6 := (b6.block _ (lt_of_block K5.out)).trans K5.out
  have hr6 := (b6.block _ (lt_of_block hr5)).trans hr5
  have kt6 := (b6.block _ (lt_of_block kt5)).trans kt5
  have B7 := bnext B6 b6
  clear b6 K5 hr5 kt5 B6 c0 c1 c2 c3 c4
  obtain ⟨c0, c1, c2⟩ := cells3 kt6
  have s3 : w6.cell? ⟨bs, 3, none⟩ = some (.int .i64 1061) := cell_of_row w6 bs 3 _ _ _ hr6
  have s4 : w6.cell? ⟨bs, 4, none⟩ = some (.int .i64 1089) := cell_of_row w6 bs 4 _ _ _ hr6
  have s5 : w6.cell? ⟨bs, 5, none⟩ = some (.int .i64 2122) := cell_of_row w6 bs 5 _ _ _ hr6
  obtain ⟨d0, d1, d2, d3, d4⟩ := cells5 k6
  have hr7 := (heap_alloc_old (h := lt_of_block hr6) w6 (.cells #[.int .i64 100, .int .i64 100, .int .i64 100, .int .i64 100] 3 (0, 0))).trans hr6
  have kt7 := (heap_alloc_old (h := lt_of_block kt6) w6 (.cells #[.int .i64 100, .int .i64 100, .int .i64 100, .int .i64 100] 3 (0, 0))).trans kt6
  obtain ⟨e0, e1, e2⟩ := cells3 kt7
  have RD := Lib.hid (rd_new w6 (ints [100, 100, 100, 100]) 3 4 4 (0, 0) rfl (by decide) (by decide))
  have RN := Lib.hid (rdN_rows hr7 4 rfl (by decide))
  have B8 := balloc B7 (.cells #[.int .i64 100, .int .i64 100, .int .i64 100, .int .i64 100] 3 (0, 0))
  clear hr6 k6 kt6 hr7 kt7
  go_wp2_with fail
  refine (fits_any _ _ _ _ _ _ [100, 100, 100, 100] _ [(0, 28, 1061), (1061, 1089, 2122), (2122, 2150, 3183), (3183, 3211, 4244)] _ _ _ RD.out RN.out).mono ?_
  rw [show fitsB 10 2 5 100 1 [100, 100, 100, 100] [(0, 28, 1061), (1061, 1089, 2122), (2122, 2150, 3183), (3183, 3211, 4244)] 4244 28 = true by decide]
  rintro e w7 ⟨rfl, b7⟩
  have B9 := bnext B8 b7
  clear b7 e0 e1 e2 c0 c1 c2 s3 s4 s5 d0 d1 d2 d3 d4
  go_wp2_with fail
  go_ret
  exact ⟨rfl, B9⟩
end Go.Proofs.YtppjphelibdlcaaGreatDoor
