/-
  The walk of SlotsLeast: a table that is made fits; with a guard that is one less none does; where none can be made, none fits.
-/
import Derived.Test.YtppjphelibdlcaaSlotsTight
import Derived.Test.YtppjphelibdlcaaSlotsArgs
import Derived.Test.YtppjphelibdlcaaSlotsFacts
import Derived.Deep.RegionHeld3
import Derived.OpenShut
namespace Go.Proofs.Ytppjphelibdlcaa
open Go.RowKit
open Go

set_option maxHeartbeats 4000000 in
theorem walk_SlotsLeast (v0 v1 v2 : Value) (W : World) (A0 : Arg Try.prog 23 W v0) (A1 : Arg Try.prog 24 W v1) (A2 : Arg Try.prog 25 W v2) :
    Calls Try.prog 3 #[v0, v1, v2] W fun e w' => e = .returned (.bool true) ∧ Below W.heap.size W w' := by
  obtain ⟨bit, near, far, drift, bad, rfl, _⟩ := A0.setup
  obtain ⟨l, hR, hZ⟩ := A1.ints
  obtain ⟨g, rfl, hg⟩ := A2.int Try.underlying25
  clear A0 A1 A2
  obtain ⟨a, c, rfl, hac, hcm⟩ := hR.shape
  unfold maxLen at hcm
  by_cases hbig : 20 < l.length
  · go_enter Try.func3, Try.ntmps3
    go_wp2_with fail
    have B1 := balloc (Below.refl W.heap.size W) (.cells #[.int .i64 bit, .int .i64 near, .int .i64 far, .int .i64 drift, .int .i64 bad] 23 (0, 0))
    refine (lives_any _).mono ?_
    rintro e w1 ⟨rfl, b1⟩
    go_wp2_with fail
    go_ret
    exact ⟨rfl, bnext B1 b1⟩
  · go_enter Try.func3, Try.ntmps3
    go_wp2_with fail
    have B1 := balloc (Below.refl W.heap.size W) (.cells #[.int .i64 bit, .int .i64 near, .int .i64 far, .int .i64 drift, .int .i64 bad] 23 (0, 0))
    have k0 := heap_alloc_new W (.cells #[.int .i64 bit, .int .i64 near, .int .i64 far, .int .i64 drift, .int .i64 bad] 23 (0, 0))
    refine (make_any _ _ _ _ _ _ l _ (hR.below B1)).mono ?_
    rintro e w1 ⟨hm, b1⟩
    have k1 := (b1.block _ (lt_of_block k0)).trans k0
    have B2 := bnext B1 b1
    clear b1 B1 k0
    rcases hm with ⟨h1, rfl⟩ | ⟨h1, b, G, hb, hG0, hG1, hok, hmin, rfl, hrows⟩ | ⟨h1, hno, rfl⟩
    · go_wp2_with fail
      refine (lives_any _).mono ?_
      rintro e w2 ⟨rfl, b2⟩
      go_wp2_with fail
      go_ret
      exact ⟨rfl, bnext (balloc B2 _) b2⟩
    · obtain ⟨hc, ⟨_, h8⟩, hl⟩ := (mayB_iff _ _ _ _ _ _).1 h1
      obtain ⟨⟨hb0, hb1⟩, ⟨hf0, hf1⟩, ⟨hn0, hn1⟩, ⟨hd0, hd1⟩, _⟩ := (chkB_iff bit near far drift bad).1 hc
      have hfit := fits_made h1 hG0 hG1 hok
      obtain ⟨s0, s1⟩ := sum_may h1 hG0 hG1
      have hsk := (skI_in hn0 hn1 hf1 hd0 hd1 s0 (by omega)).1
      have hG8 : 8 ≤ G := Int.le_trans hsk hok
      have hnot : ¬ skI near far drift (sumS bit far (G - 1) l) ≤ G - 1 := fun h => by
        have := hmin (G - 1) (by omega) h
        omega
      have hnf := fits_not h1 (by omega) (by omega) hnot
      have k2 := (heap_alloc_old (h := lt_of_block k1) w1 (.cells #[.slice (some ⟨b, 0, none⟩) l.length l.length, .int .i64 (sumS bit far G l), .int .i64 G] 29 (0, 0))).trans k1
      have r2 := (heap_alloc_old (h := lt_of_block hrows) w1 (.cells #[.slice (some ⟨b, 0, none⟩) l.length l.length, .int .i64 (sumS bit far G l), .int .i64 G] 29 (0, 0))).trans hrows
      have t2 := heap_alloc_new w1 (.cells #[.slice (some ⟨b, 0, none⟩) l.length l.length, .int .i64 (sumS bit far G l), .int .i64 G] 29 (0, 0))
      have B3 := balloc B2 (.cells #[.slice (some ⟨b, 0, none⟩) l.length l.length, .int .i64 (sumS bit far G l), .int .i64 G] 29 (0, 0))
      obtain ⟨c0, c1, c2, c3, c4⟩ := cells5 k2
      obtain ⟨d0, d1, d2⟩ := cells3 t2
      have FIT := Lib.hid hfit
      have NOT := Lib.hid hnf
      have K2 := Lib.hid k2
      have R2 := Lib.hid r2
      have T2 := Lib.hid t2
      have HT := Lib.hid (fun (x : Int) (hx0 : 0 ≤ x) (hx1 : x ≤ 1073741824) => tight_any bit near far drift bad x (.slice a l.length c) l (hb0 := hb0) (hb1 := hb1) (hf0 := hf0) (hf1 := hf1) (hg0 := hx0) (hg1 := hx1) (h8 := by omega) (hl := hl))
      clear k1 k2 hrows r2 t2 B2 hfit hnf hok hmin hnot hsk hc hl
      go_wp2_with fail
      refine (fits_any _ _ _ _ _ _ l _ (rowsS bit far G 0 l) _ _ _ (hR.below B3) (rdN_rows R2.out _ (rowsS_len _ _ _ _ _).symm (by unfold maxLen; omega))).mono ?_
      rw [FIT.out]
      rintro e w3 ⟨rfl, b3⟩
      have k3 := (b3.block _ (lt_of_block K2.out)).trans K2.out
      have t3 := (b3.block _ (lt_of_block T2.out)).trans T2.out
      have B4 := bnext B3 b3
      clear b3 c0 c1 c2 c3 c4 d0 d1 d2 K2 T2 R2 B3
      obtain ⟨c0, c1, c2, c3, c4⟩ := cells5 k3
      obtain ⟨d0, d1, d2⟩ := cells3 t3
      go_wp2_with fail
      have K3 : Hid (w3.drew.heap[W.heap.size]? = some (.cells #[.int .i64 bit, .int .i64 near, .int .i64 far, .int .i64 drift, .int .i64 bad] 23 (0, 0))) := k3
      have T3 : Hid (w3.drew.heap[w1.heap.size]? = some (.cells #[.slice (some ⟨b, 0, none⟩) l.length l.length, .int .i64 (sumS bit far G l), .int .i64 G] 29 (0, 0))) := t3
      have B5 : Below W.heap.size W w3.drew := bdraw B4 1
      have hgt : 0 < G := by omega
      have HWR : Hid (IntKind.i64.wrap (G - 1) = G - 1) := by unfold Hid; rw [IntKind.wrap_i64]; omega
      have TC := Lib.hid (HT.out (G - 1) (by omega) (by omega) _ (hR.below B5))
      have FC := Lib.hid (fun (u : Value) (w9 : World) (b9 : Below w3.drew.heap.size w3.drew w9) (hu : RdN 3 w9 u ((rowsS bit far (G - 1) 0 l).map row3)) => fits_any bit near far drift bad _ l u (rowsS bit far (G - 1) 0 l) (sumS bit far (G - 1) l) (G - 1) w9 (hR.below (bnext B5 b9)) hu)
      have KC := Lib.hid (fun (w9 : World) (b9 : Below w3.drew.heap.size w3.drew w9) => cells5 ((b9.block _ (lt_of_block K3.out)).trans K3.out))
      have KT := Lib.hid (fun (w9 : World) (b9 : Below w3.drew.heap.size w3.drew w9) => (cells3 ((b9.block _ (lt_of_block T3.out)).trans T3.out)).2.2)
      clear k3 t3
      go_region_held3 (fun w' => w'.cell? ⟨W.heap.size, 0, none⟩ = some (.int .i64 bit) ∧ w'.cell? ⟨W.heap.size, 1, none⟩ = some (.int .i64 near) ∧ w'.cell? ⟨W.heap.size, 2, none⟩ = some (.int .i64 far) ∧ w'.cell? ⟨W.heap.size, 3, none⟩ = some (.int .i64 drift) ∧ w'.cell? ⟨W.heap.size, 4, none⟩ = some (.int .i64 bad) ∧ w'.cell? ⟨w1.heap.size, 2, none⟩ = some (.int .i64 G))
        (first | exact ⟨f0, f1, f2, f3, f4, g2⟩ | exact ⟨e0, e1, e2, e3, e4, h2⟩ | exact ⟨c0, c1, c2, c3, c4, d2⟩)
        (first
        | (go_at_call 9; rw [HWR.out]; refine Calls.mono TC.out ?_; rintro e w9 ⟨u, rfl, hu, b9⟩; have ⟨e0, e1, e2, e3, e4⟩ := KC.out _ b9; have h2 := KT.out _ b9)
        | (go_at_call 8; refine Calls.mono (FC.out u w9 b9 hu) ?_; rw [NOT.out]; rintro e w10 ⟨rfl, b10⟩; have b11 := bnext b9 b10; have ⟨f0, f1, f2, f3, f4⟩ := KC.out _ b11; have g2 := KT.out _ b11))
      have B6 := bnext B5 b11
      clear b9 b10 b11 B5 e0 e1 e2 e3 e4 hu c0 c1 c2 c3 c4 d0 d1 d2 f0 f1 f2 f3 f4 g2 h2
      go_wp2_with fail
      refine (lives_any _).mono ?_
      rintro e w11 ⟨rfl, b11⟩
      go_wp2_with fail
      go_ret
      exact ⟨rfl, bnext B6 b11⟩
    · obtain ⟨hc, ⟨_, h8⟩, hl⟩ := (mayB_iff _ _ _ _ _ _).1 h1
      obtain ⟨⟨hb0, hb1⟩, ⟨hf0, hf1⟩, ⟨hn0, hn1⟩, ⟨hd0, hd1⟩, _⟩ := (chkB_iff bit near far drift bad).1 hc
      obtain ⟨hg0, hg1⟩ := bounds_u16 hg
      have hnot : ¬ skI near far drift (sumS bit far (16 * g) l) ≤ 16 * g := fun h => by
        have := hno (16 * g) (by omega) h
        omega
      have hnf := fits_not h1 (by omega) (by omega) hnot
      have k2 := (heap_alloc_old (h := lt_of_block k1) w1 (.cells #[.slice none 0 0, .int .i64 0, .int .i64 0] 29 (0, 0))).trans k1
      have B3 := balloc B2 (.cells #[.slice none 0 0, .int .i64 0, .int .i64 0] 29 (0, 0))
      have NOT := Lib.hid hnf
      have HT := Lib.hid (fun (x : Int) (hx0 : 0 ≤ x) (hx1 : x ≤ 1073741824) => tight_any bit near far drift bad x (.slice a l.length c) l (hb0 := hb0) (hb1 := hb1) (hf0 := hf0) (hf1 := hf1) (hg0 := hx0) (hg1 := hx1) (h8 := by omega) (hl := hl))
      have K2 := Lib.hid k2
      clear k1 B2 hnf hnot hno hc hl k2 hg
      go_wp2_with fail
      generalize w1.alloc _ = w2 at *
      have K3 : Hid (w2.drew.heap[W.heap.size]? = some (.cells #[.int .i64 bit, .int .i64 near, .int .i64 far, .int .i64 drift, .int .i64 bad] 23 (0, 0))) := K2.out
      have B5 : Below W.heap.size W w2.drew := bdraw B3 1
      have HWR : Hid (IntKind.i64.wrap (16 * g) = 16 * g) := by unfold Hid; rw [IntKind.wrap_i64]; omega
      have HWG : Hid (IntKind.i64.wrap g = g) := by unfold Hid; rw [IntKind.wrap_i64]; omega
      have TC := Lib.hid (HT.out (16 * g) (by omega) (by omega) _ (hR.below B5))
      have FC := Lib.hid (fun (u : Value) (w9 : World) (b9 : Below w2.drew.heap.size w2.drew w9) (hu : RdN 3 w9 u ((rowsS bit far (16 * g) 0 l).map row3)) => fits_any bit near far drift bad _ l u (rowsS bit far (16 * g) 0 l) (sumS bit far (16 * g) l) (16 * g) w9 (hR.below (bnext B5 b9)) hu)
      have KC := Lib.hid (fun (w9 : World) (b9 : Below w2.drew.heap.size w2.drew w9) => cells5 ((b9.block _ (lt_of_block K3.out)).trans K3.out))
      have ⟨c0, c1, c2, c3, c4⟩ := KC.out _ (Below.refl _ _)
      go_region_held3 (fun w' => w'.cell? ⟨W.heap.size, 0, none⟩ = some (.int .i64 bit) ∧ w'.cell? ⟨W.heap.size, 1, none⟩ = some (.int .i64 near) ∧ w'.cell? ⟨W.heap.size, 2, none⟩ = some (.int .i64 far) ∧ w'.cell? ⟨W.heap.size, 3, none⟩ = some (.int .i64 drift) ∧ w'.cell? ⟨W.heap.size, 4, none⟩ = some (.int .i64 bad))
        (first | exact ⟨g0, g1, g2, g3, g4⟩ | exact ⟨f0, f1, f2, f3, f4⟩ | exact ⟨e0, e1, e2, e3, e4⟩ | exact ⟨c0, c1, c2, c3, c4⟩)
        (first
        | (go_at_call 9; (try rw [HWG.out]); (try rw [HWR.out]); go_loud (refine Calls.mono TC.out ?_); rintro e w9 ⟨u, rfl, hu, b9⟩; have ⟨e0, e1, e2, e3, e4⟩ := KC.out _ b9)
        | (go_at_call 8; refine Calls.mono (FC.out u w9 b9 hu) ?_; rw [NOT.out]; rintro e w10 ⟨rfl, b10⟩; have b11 := bnext b9 b10; have ⟨f0, f1, f2, f3, f4⟩ := KC.out _ b11)
        | (go_at_call 6; refine (lives_any _).mono ?_; rintro e w11 ⟨rfl, b12⟩; have b13 := bnext b11 b12; have ⟨g0, g1, g2, g3, g4⟩ := KC.out _ b13))
      go_wp2_with fail
      go_ret
      exact ⟨rfl, bnext B5 b13⟩
end Go.Proofs.Ytppjphelibdlcaa
