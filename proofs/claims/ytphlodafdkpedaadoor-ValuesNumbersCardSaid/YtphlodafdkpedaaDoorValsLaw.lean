/-
  What the laws of the values call: number, yes, do.
-/
import Derived.Test.YtphlodafdkpedaaDoorValsDo3
import Derived.Test.YtphlodafdkpedaaDoorValsText
namespace Go.Proofs.YtphlodafdkpedaaDoor
open Go.RowKit
open Go

theorem lnumber_any (n : Int) (w : World) : Calls Tryd.prog 14 #[.int .i64 n] w fun e w' => e = .returned (aggV (numV n)) ∧ Below w.heap.size w w' := by
  go_enter Tryd.func14, Tryd.ntmps14
  go_wp2_with fail
  exact bodyPost_ret (results_cell_row Tryd.results14 _ _ w.heap.size _ _ _ _ rfl (heap_alloc_new _ _) Tryd.underlying24 rfl infoV) rfl ⟨rfl, balloc (Below.refl _ _) _⟩
theorem lyes_any (b : Bool) (w : World) : Calls Tryd.prog 17 #[.bool b] w fun e w' => e = .returned (aggV (yesV b)) ∧ Below w.heap.size w w' := by
  cases b
  all_goals
    go_enter Tryd.func17, Tryd.ntmps17
    go_wp2_with fail
    exact bodyPost_ret (results_cell_row Tryd.results17 _ _ w.heap.size _ _ _ _ rfl (heap_alloc_new _ _) Tryd.underlying24 rfl infoV) rfl ⟨rfl, balloc (Below.refl _ _) _⟩
/-- What the law's own operator makes of values. -/
def doL (o : Int) (l : List VT) : VT := if (doV o l).2 = 0 then (doV o l).1 else (0, 0)
set_option maxHeartbeats 1000000 in
theorem ldo_any (o : Int) (v : Value) (l : List VT) (w : World) (hR : RdN 2 w v (l.map rowV)) :
    Calls Tryd.prog 15 #[.int .u8 o, v] w fun e w' => e = .returned (aggV (doL o l)) ∧ Below w.heap.size w w' := by
  have A0 : Hid (ResB w.heap.size (w.alloc (.cells #[.int .u8 0, .int .i64 0] 24 (0, 0)))) := heap_alloc_new _ _
  have B1 := balloc (Below.refl w.heap.size w) (.cells #[.int .u8 0, .int .i64 0] 24 (0, 0))
  have hR1 := hR.below B1
  have D := Lib.hid (do_any o v l _ hR1)
  have hL : doL o l = if (doV o l).2 = 0 then (doV o l).1 else (0, 0) := rfl
  rw [hL]
  clear hL
  generalize doV o l = r at *
  obtain ⟨⟨s1, s2⟩, s3⟩ := r
  obtain ⟨a, c, rfl, hc, hm⟩ := hR.shape
  clear hR hR1
  rw [List.length_map] at *
  unfold aggV at *
  dsimp only at *
  by_cases h0 : s3 = 0
  · subst h0
    rw [if_pos rfl]
    go_enter Tryd.func15, Tryd.ntmps15
    go_wp2_with fail
    refine D.out.mono ?_
    rintro e w2 ⟨rfl, b2⟩
    have A2 := Lib.hid (A0.out.below b2)
    have B2 := bnext B1 b2
    obtain ⟨hz, c0, c1, f0, f1⟩ := A2.out.facts
    clear A0 B1 b2
    go_wp2_with fail
    exact bodyPost_ret (results_cell_row Tryd.results15 _ _ w.heap.size _ _ _ _ rfl ((Below.heap_alloc _ _ _ (by simpa using hz)).trans (heap_setCell_same _ _ 1 _ _ _ (heap_setCell_same _ _ 0 _ _ _ A2.out))) Tryd.underlying24 rfl infoV) rfl ⟨rfl, balloc ((B2.setCell (p := ⟨w.heap.size, 0, none⟩) (Nat.le_refl _) _).setCell (p := ⟨w.heap.size, 1, none⟩) (Nat.le_refl _) _) _⟩
  · have e0 : (s3 == 0) = false := by simpa using h0
    have e1 : (s3 != 0) = true := by simpa using h0
    rw [if_neg h0]
    clear h0
    go_enter Tryd.func15, Tryd.ntmps15
    go_wp2_with fail
    refine D.out.mono ?_
    rintro e w2 ⟨rfl, b2⟩
    have A2 := Lib.hid (A0.out.below b2)
    have B2 := bnext B1 b2
    obtain ⟨hz, c0, c1, f0, f1⟩ := A2.out.facts
    clear A0 B1 b2
    go_wp2_with fail
    exact bodyPost_ret (results_cell_row Tryd.results15 _ _ w.heap.size _ _ _ _ rfl ((Below.heap_alloc _ _ _ (by simpa using hz)).trans (heap_setCell_same _ _ 1 _ _ _ (heap_setCell_same _ _ 0 _ _ _ A2.out))) Tryd.underlying24 rfl infoV) rfl ⟨rfl, balloc ((B2.setCell (p := ⟨w.heap.size, 0, none⟩) (Nat.le_refl _) _).setCell (p := ⟨w.heap.size, 1, none⟩) (Nat.le_refl _) _) _⟩
theorem rd_1 (a b : Int) (w : World) : RdN 2 (w.alloc (.cells #[.int .u8 a, .int .i64 b] 24 (0, 0))) (.slice (some ⟨w.heap.size, 0, none⟩) 1 1) ([(a, b)].map rowV) := by
  have n := heap_alloc_new w (.cells #[.int .u8 a, .int .i64 b] 24 (0, 0))
  refine ⟨_, 1, rfl, by simp, by simp [maxLen], by simp, by simp [rowV], fun i r hr => ⟨_, 0, rfl, fun j x hx => ?_⟩⟩
  match i, hr with
  | 0, hr =>
    obtain rfl := Option.some.inj hr
    match j, hx with
    | 0, hx => exact (cell_of_row _ _ 0 _ _ _ n).trans hx
    | 1, hx => exact (cell_of_row _ _ 1 _ _ _ n).trans hx
theorem rd_2 (a b c d : Int) (w : World) : RdN 2 (w.alloc (.cells #[.int .u8 a, .int .i64 b, .int .u8 c, .int .i64 d] 24 (0, 0))) (.slice (some ⟨w.heap.size, 0, none⟩) 2 2) ([(a, b), (c, d)].map rowV) := by
  have n := heap_alloc_new w (.cells #[.int .u8 a, .int .i64 b, .int .u8 c, .int .i64 d] 24 (0, 0))
  refine ⟨_, 2, rfl, by simp, by simp [maxLen], by simp, by simp [rowV], fun i r hr => ⟨_, 0, rfl, fun j x hx => ?_⟩⟩
  match i, hr with
  | 0, hr =>
    obtain rfl := Option.some.inj hr
    match j, hx with
    | 0, hx => exact (cell_of_row _ _ 0 _ _ _ n).trans hx
    | 1, hx => exact (cell_of_row _ _ 1 _ _ _ n).trans hx
  | 1, hr =>
    obtain rfl := Option.some.inj hr
    match j, hx with
    | 0, hx => exact (cell_of_row _ _ 2 _ _ _ n).trans hx
    | 1, hx => exact (cell_of_row _ _ 3 _ _ _ n).trans hx
theorem rd_3 (a b c d e f : Int) (w : World) : RdN 2 (w.alloc (.cells #[.int .u8 a, .int .i64 b, .int .u8 c, .int .i64 d, .int .u8 e, .int .i64 f] 24 (0, 0))) (.slice (some ⟨w.heap.size, 0, none⟩) 3 3) ([(a, b), (c, d), (e, f)].map rowV) := by
  have n := heap_alloc_new w (.cells #[.int .u8 a, .int .i64 b, .int .u8 c, .int .i64 d, .int .u8 e, .int .i64 f] 24 (0, 0))
  refine ⟨_, 3, rfl, by simp, by simp [maxLen], by simp, by simp [rowV], fun i r hr => ⟨_, 0, rfl, fun j x hx => ?_⟩⟩
  match i, hr with
  | 0, hr =>
    obtain rfl := Option.some.inj hr
    match j, hx with
    | 0, hx => exact (cell_of_row _ _ 0 _ _ _ n).trans hx
    | 1, hx => exact (cell_of_row _ _ 1 _ _ _ n).trans hx
  | 1, hr =>
    obtain rfl := Option.some.inj hr
    match j, hx with
    | 0, hx => exact (cell_of_row _ _ 2 _ _ _ n).trans hx
    | 1, hx => exact (cell_of_row _ _ 3 _ _ _ n).trans hx
  | 2, hr =>
    obtain rfl := Option.some.inj hr
    match j, hx with
    | 0, hx => exact (cell_of_row _ _ 4 _ _ _ n).trans hx
    | 1, hx => exact (cell_of_row _ _ 5 _ _ _ n).trans hx
theorem do1_any (o a b r1 r2 : Int) (w : World) (h : doL o [(a, b)] = (r1, r2)) :
    Calls Tryd.prog 15 #[.int .u8 o, .slice (some ⟨w.heap.size, 0, none⟩) 1 1] (w.alloc (.cells #[.int .u8 a, .int .i64 b] 24 (0, 0))) fun e w' => e = .returned (.agg #[.int .u8 r1, .int .i64 r2]) ∧ Below w.heap.size w w' := by
  have H := ldo_any o _ _ _ (rd_1 a b w)
  rw [h] at H
  exact H.mono fun e w' ⟨he, hb⟩ => ⟨he, bnext (balloc (Below.refl _ _) _) hb⟩
theorem do2_any (o a b c d r1 r2 : Int) (w : World) (h : doL o [(a, b), (c, d)] = (r1, r2)) :
    Calls Tryd.prog 15 #[.int .u8 o, .slice (some ⟨w.heap.size, 0, none⟩) 2 2] (w.alloc (.cells #[.int .u8 a, .int .i64 b, .int .u8 c, .int .i64 d] 24 (0, 0))) fun e w' => e = .returned (.agg #[.int .u8 r1, .int .i64 r2]) ∧ Below w.heap.size w w' := by
  have H := ldo_any o _ _ _ (rd_2 a b c d w)
  rw [h] at H
  exact H.mono fun e w' ⟨he, hb⟩ => ⟨he, bnext (balloc (Below.refl _ _) _) hb⟩
theorem do3_any (o a b c d e f r1 r2 : Int) (w : World) (h : doL o [(a, b), (c, d), (e, f)] = (r1, r2)) :
    Calls Tryd.prog 15 #[.int .u8 o, .slice (some ⟨w.heap.size, 0, none⟩) 3 3] (w.alloc (.cells #[.int .u8 a, .int .i64 b, .int .u8 c, .int .i64 d, .int .u8 e, .int .i64 f] 24 (0, 0))) fun e w' => e = .returned (.agg #[.int .u8 r1, .int .i64 r2]) ∧ Below w.heap.size w w' := by
  have H := ldo_any o _ _ _ (rd_3 a b c d e f w)
  rw [h] at H
  exact H.mono fun e w' ⟨he, hb⟩ => ⟨he, bnext (balloc (Below.refl _ _) _) hb⟩
theorem nums_any (n : Int) (w : World) : Calls Tryd.prog 14 #[.int .i64 n] w fun e w' => e = .returned (.agg #[.int .u8 1, .int .i64 n]) ∧ Below w.heap.size w w' := lnumber_any n w
end Go.Proofs.YtphlodafdkpedaaDoor
