/-
  clocks: the chapter's clocks (lives).
-/
import Derived.Test.YtmkphllfignbpaaClkMid
namespace Go.Proofs.Ytmkphllfignbpaa
open Go.RowKit
open Go

theorem srt_is (l s : List Int) (hp : s.Perm l) (hs : s.Pairwise (fun x y => x ≤ y)) : srt l = s := (srt_uniq l s hp hs).symm
theorem m1 : midV [1, 900, 4, 7] 1 = .tuple #[.int .i64 5, .int .i64 0] := by
  have e : srt [1, 900, 4, 7] = [1, 4, 7, 900] := srt_is _ _ (by decide) (by decide)
  have h : mayM [1, 900, 4, 7] 1 = true := by decide
  unfold midV midI
  rw [h, e]
  rfl
theorem m2 : midV [-3] 0 = .tuple #[.int .i64 (-3), .int .i64 0] := by
  have e : srt [-3] = [-3] := srt_is _ _ (by decide) (by decide)
  have h : mayM [-3] 0 = true := by decide
  unfold midV midI
  rw [h, e]
  rfl
theorem m3 : midV [1, 2] 1 = .tuple #[.int .i64 0, .int .i64 1] := by
  have h : mayM [1, 2] 1 = false := by decide
  unfold midV
  rw [h]
  rfl
theorem clkN : ClkN 10 500 0 := ⟨by omega, by omega, by omega, by omega, by omega, by omega⟩
theorem a1 : atV 10 500 0 0 = .tuple #[.int .i64 10, .int .i64 0] := by kernel_rfl
theorem a2 : atV 10 500 0 1999 = .tuple #[.int .i64 2009, .int .i64 0] := by kernel_rfl
theorem a3 : atV 10 500 0 2000 = .tuple #[.int .i64 2011, .int .i64 0] := by kernel_rfl
theorem wh1 : WhenI 10 500 0 2010 2000 := ⟨by omega, by omega, by decide, .inr (by decide)⟩
set_option maxHeartbeats 1000000 in
set_option maxRecDepth 100000 in
theorem lives_any (HS : SortSaid) (w : World) : Calls Try.prog 8 #[] w fun e w' => e = .returned (.bool true) ∧ Below w.heap.size w w' := by
  have HS' := Lib.hid HS
  have M1 := Lib.hid (fun v w h => mid_any HS v [1, 900, 4, 7] 1 w h (by decide))
  have M2 := Lib.hid (fun v w h => mid_any HS v [-3] 0 w h (by decide))
  have M3 := Lib.hid (fun v w h => mid_any HS v [1, 2] 1 w h (by decide))
  rw [m1] at M1
  rw [m2] at M2
  rw [m3] at M3
  clear HS
  go_enter Try.func8, Try.ntmps8
  go_wp2_with fail
  refine (M1.out _ _ (rd_new _ (ints [1, 900, 4, 7]) _ _ _ _ rfl (by decide) (by decide))).mono ?_
  rintro e w1 ⟨rfl, b1⟩
  have B1 := bnext (balloc (Below.refl _ _) _) b1
  clear b1
  go_wp2_with fail
  refine (M2.out _ _ (rd_new _ (ints [-3]) _ _ _ _ rfl (by decide) (by decide))).mono ?_
  rintro e w2 ⟨rfl, b2⟩
  have B2 := bnext (balloc B1 _) b2
  clear b2 B1
  go_wp2_with fail
  refine (M3.out _ _ (rd_new _ (ints [1, 2]) _ _ _ _ rfl (by decide) (by decide))).mono ?_
  rintro e w3 ⟨rfl, b3⟩
  have B3 := bnext (balloc B2 _) b3
  clear b3 B2
  go_wp2_with fail
  refine (new_ok 10 500 _ (by decide) (by omega) (by omega)).mono ?_
  rintro e w4 ⟨rfl, k4, b4⟩
  have K4 := Lib.hid k4
  have B4 := bnext B3 b4
  clear b4 B3 k4
  go_wp2_with fail
  have C := at_any w4 _ _ _ _ 0 K4.out clkN
  rw [a1] at C
  refine C.mono ?_
  clear C
  rintro e w5 ⟨rfl, d5, rfl⟩
  go_wp2_with fail
  have C := at_any (w4.drewN d5) _ _ _ _ 1999 (K4.out.below (bdraw (Below.refl _ _) _)) clkN
  rw [a2] at C
  refine C.mono ?_
  clear C
  rintro e w6 ⟨rfl, d6, rfl⟩
  rw [World.drewN_drewN]
  go_wp2_with fail
  have C := at_any (w4.drewN (d5 + d6)) _ _ _ _ 2000 (K4.out.below (bdraw (Below.refl _ _) _)) clkN
  rw [a3] at C
  refine C.mono ?_
  clear C
  rintro e w7 ⟨rfl, d7, rfl⟩
  rw [World.drewN_drewN]
  go_wp2_with fail
  refine (when_any (w4.drewN (d5 + d6 + d7)) _ _ _ _ 2010 (K4.out.below (bdraw (Below.refl _ _) _)) clkN (by decide) (by decide)).mono ?_
  rintro e w8 ⟨t, ht, rfl, b8⟩
  obtain rfl := ht.one (by omega) (by omega) wh1
  have B8 := bnext (bdraw B4 (d5 + d6 + d7)) b8
  clear b8 B4 ht
  go_wp2_with fail
  refine (at_none 0 _).mono ?_
  rintro e w9 ⟨rfl, rfl⟩
  go_wp2_with fail
  refine (turn_none 0 _).mono ?_
  rintro e w9 ⟨rfl, rfl⟩
  go_wp2_with fail
  go_ret
  exact ⟨rfl, B8⟩
end Go.Proofs.Ytmkphllfignbpaa
