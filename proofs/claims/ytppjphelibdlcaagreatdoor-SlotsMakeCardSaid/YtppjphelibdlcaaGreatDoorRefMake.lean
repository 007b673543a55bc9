/-
  The walk of belfryref16.Make.
-/
import Derived.Test.YtppjphelibdlcaaGreatDoorRefTab
import Derived.Test.YtppjphelibdlcaaGreatDoorRefMay
import Derived.Test.YtppjphelibdlcaaGreatDoorSlotsFacts
namespace Go.Proofs.YtppjphelibdlcaaGreatDoor
open Go.RowKit
open Go

/-- What the reference's Make answers. -/
def rmadeBy (bit near far drift bad : Int) (l : List Int) (e : Ending) (w' : World) : Prop :=
  (mayB bit near far drift bad l = false ∧ e = .returned (.tuple #[tblV (.slice none 0 0) 0 0, .int .i64 1])) ∨
  (mayB bit near far drift bad l = true ∧ (∃ (u : Value) (G : Int), 0 ≤ G ∧ G ≤ 1073741824 ∧ okG bit near far drift l G ∧ (∀ g, 0 ≤ g → okG bit near far drift l g → G ≤ g) ∧
    e = .returned (.tuple #[tblV u (sumS bit far G l) G, .int .i64 0]) ∧ RdN 3 w' u ((rowsS bit far G 0 l).map row3))) ∨
  (mayB bit near far drift bad l = true ∧ (∀ g, 0 ≤ g → okG bit near far drift l g → 1073741824 < g) ∧ e = .returned (.tuple #[tblV (.slice none 0 0) 0 0, .int .i64 10]))

set_option maxRecDepth 20000 in
set_option maxHeartbeats 4000000 in
theorem rmake_any (bit near far drift bad : Int) (v : Value) (l : List Int) (w : World) (h : Rd w v (ints l)) :
    Calls Tryz.prog 8 #[.agg #[.int .i64 bit, .int .i64 near, .int .i64 far, .int .i64 drift, .int .i64 bad], v] w fun e w' => rmadeBy bit near far drift bad l e w' ∧ Below w.heap.size w w' := by
  obtain ⟨a, c, rfl, hc, hm⟩ := h.shape
  have B1 := balloc (balloc (Below.refl w.heap.size w) (.cells #[.int .i64 bit, .int .i64 near, .int .i64 far, .int .i64 drift, .int .i64 bad] 23 (0, 0))) (.cells #[Value.slice none 0 0, .int .i64 0, .int .i64 0] 27 (0, 0))
  cases h1 : mayB bit near far drift bad l
  · go_enter Tryz.func8, Tryz.ntmps8
    go_wp2_with fail
    refine (rmay_any _ _ _ _ _ _ l _ (h.below B1)).mono ?_
    rw [h1]
    rintro e w1 ⟨rfl, b1⟩
    have k1 := (b1.block (w.heap.size + 1) (by simp)).trans (heap_alloc2_new w _ _)
    have B2 := bnext B1 b1
    have K1 := Lib.hid k1
    clear b1 B1 k1
    go_wp2_with (refine wpList_store_row rfl 27 _ _ rfl (w.heap.size + 1) _ rfl rfl _ _ K1.out info29 rfl (oc_tab _ _ _ rfl) ?_)
    refine bodyPost_ret (results_row_tmp Tryz.results8 _ _ (w.heap.size + 1) _ _ _ _ rfl (setRow_heap w1 _ _ _ _ _ K1.out) Tryz.underlying27 rfl info29) rfl ⟨.inl ⟨h1, rfl⟩, below_setRow B2 (by omega) _⟩
  · go_enter Tryz.func8, Tryz.ntmps8
    go_wp2_with fail
    refine (rmay_any _ _ _ _ _ _ l _ (h.below B1)).mono ?_
    rw [h1]
    rintro e w1 ⟨rfl, b1⟩
    have k0 := (b1.block w.heap.size (by simp; omega)).trans (heap_alloc2_old w _ _)
    have k1 := (b1.block (w.heap.size + 1) (by simp)).trans (heap_alloc2_new w _ _)
    have B2 := bnext B1 b1
    have HV := Lib.hid h
    obtain ⟨hck, ⟨hl1, hl8⟩, hall⟩ := (mayB_iff _ _ _ _ _ _).1 h1
    have hlp : 0 < l.length := by omega
    clear hl1
    obtain ⟨⟨hb0, hb1⟩, ⟨hf0, hf1⟩, ⟨hn0, hn1⟩, ⟨hd0, hd1⟩, _⟩ := (chkB_iff bit near far drift bad).1 hck
    have HALL := Lib.hid hall
    have HCK := Lib.hid hck
    clear b1 B1 h hall hck
    go_wp2_with fail
    go_loopw [6] (fun i wr => ∃ G : Int, i = .int .i64 G ∧ 0 ≤ G ∧ G ≤ 87964934223 ∧ Hid (∀ g, 0 ≤ g → okG bit near far drift l g → G ≤ g) ∧
      wr.heap[w.heap.size]? = some (.cells #[.int .i64 bit, .int .i64 near, .int .i64 far, .int .i64 drift, .int .i64 bad] 23 (0, 0)) ∧
      wr.heap[w.heap.size + 1]? = some (.cells #[.slice none 0 0, .int .i64 0, .int .i64 0] 27 (0, 0)) ∧ Below w.heap.size w wr) (fun i _ => (100000000000 - intOf i).toNat)
    case atStart => exact ⟨0, rfl, by omega, by omega, fun g hg _ => hg, k0, k1, B2⟩
    case round =>
      clear k0 k1 B2
      obtain ⟨G, rfl, hG0, hG1, hmin, s0, r0, B⟩ := hrel
      have hw0 := lt_of_block r0
      have R0 := Lib.hid r0
      have S0 := Lib.hid s0
      clear r0 s0
      by_cases hbig : G ≤ 1073741824
      · have e1 : decide (G ≤ 1073741824) = true := decide_eq_true hbig
        obtain ⟨a0, a1⟩ := sum_8 (bit := bit) (far := far) (g := G) l hb0 hb1 hf0 hf1 hG0 hbig (by omega) HALL.out
        have esk := skew_of HCK.out (sumS bit far G l) a0 (by omega)
        obtain ⟨q0, q1⟩ := skI_in hn0 hn1 hf1 hd0 hd1 a0 (show sumS bit far G l ≤ 1099511627776 by omega)
        have HG : Hid (∀ g, 0 ≤ g → okG bit near far drift l g → skI near far drift (sumS bit far G l) ≤ g) := fun g hg ho => Int.le_trans (skI_mono (Int.le_refl _) hd0 (Int.le_refl _) a0 (sumS_mono l (hmin.out g hg ho))) ho
        have HOK : Hid (okG bit near far drift l G = (skI near far drift (sumS bit far G l) ≤ G)) := rfl
        have HT := Lib.hid (rtable_any bit near far drift bad G (.slice a l.length c) l wr (HV.out.below B) hb0 hb1 hf0 hf1 hG0 hbig (by omega) HALL.out)
        have HESK := Lib.hid esk
        clear esk
        generalize hA : sumS bit far G l = A at *
        have HA := Lib.hid hA
        clear hA
        go_wp2_with (refine wpList_load_row rfl 23 _ rfl w.heap.size rfl _ _ _ _ S0.out Tryz.underlying23 rfl info23 ?_)
        refine Calls.mono HT.out ?_
        rintro e w2 ⟨u, rfl, ru, b2⟩
        obtain ⟨gu, cu, rfl⟩ := own_formT ru hlp
        have hru := ru.alloc (.cells #[.slice (some ⟨gu, 0, none⟩) l.length cu, .int .i64 A, .int .i64 G] 27 (0, 0))
        have B3 := bnext B b2
        have T3 := heap_alloc_new w2 (.cells #[.slice (some ⟨gu, 0, none⟩) l.length cu, .int .i64 A, .int .i64 G] 27 (0, 0))
        have BA := balloc b2 (.cells #[.slice (some ⟨gu, 0, none⟩) l.length cu, .int .i64 A, .int .i64 G] 27 (0, 0))
        have S3 := Lib.hid ((BA.block _ (lt_of_block S0.out)).trans S0.out)
        have R3 := Lib.hid ((BA.block _ (lt_of_block R0.out)).trans R0.out)
        have BB := bnext B BA
        have HRU := Lib.hid hru
        have T3' := Lib.hid T3
        have hs2 := B3.size
        obtain ⟨x0, x1, x2⟩ := cells3 T3
        clear T3 b2 ru hru B3 BA B
        go_wp2_with (refine wpList_load_row rfl 23 _ rfl w.heap.size rfl _ _ _ _ S3.out Tryz.underlying23 rfl info23 ?_)
        generalize w2.alloc (.cells #[.slice (some ⟨gu, 0, none⟩) l.length cu, .int .i64 A, .int .i64 G] 27 (0, 0)) = w3 at *
        generalize w2.heap.size = g3 at *
        refine (rskew_any _ _ _ _ _ _ _).mono ?_
        rw [HESK.out]
        rintro e w4 ⟨rfl, b4⟩
        have S4 := Lib.hid ((b4.block _ (lt_of_block S3.out)).trans S3.out)
        have R4 := Lib.hid ((b4.block _ (lt_of_block R3.out)).trans R3.out)
        have T4 := Lib.hid ((b4.block _ (lt_of_block T3'.out)).trans T3'.out)
        have RU4 := Lib.hid (own_belowT HRU.out b4)
        have B4 := bnext BB b4
        clear x0 x1 x2 b4 BB
        generalize skI near far drift A = S at *
        by_cases hle : S ≤ G
        · have e2 : decide (S ≤ G) = true := decide_eq_true hle
          go_wp2_with (first | (refine wpList_load_row rfl 27 _ rfl g3 rfl _ _ _ _ T4.out Tryz.underlying27 rfl info29 ?_) | (refine wpList_store_row rfl 27 _ _ rfl (w.heap.size + 1) _ rfl rfl _ _ R4.out info29 rfl (oc_tab _ _ _ rfl) ?_))
          have hsz := B4.size
          refine bodyPost_ret (results_row_tmp Tryz.results8 _ _ (w.heap.size + 1) _ _ _ _ rfl (setRow_heap w4 _ _ _ _ _ R4.out) Tryz.underlying27 rfl info29) rfl ⟨.inr (.inl ⟨h1, _, G, hG0, hbig, by rw [HOK.out]; exact hle, hmin.out, ?_, own_rdT (own_setRow_belowT RU4.out (g := w.heap.size + 1) (by omega) _) (rowsS_len bit far G l 0).symm⟩), below_setRow B4 (by omega) _⟩
          rw [HA.out]
          rfl
        · have e2 : decide (S ≤ G) = false := decide_eq_false hle
          go_wp2_with fail
          go_roundw
          case rel => exact ⟨S, rfl, by omega, by omega, HG, S4.out, R4.out, B4⟩
          case measure => simp [intOf]; omega
      · have e1 : decide (G ≤ 1073741824) = false := decide_eq_false hbig
        go_wp2_with (refine wpList_store_row rfl 27 _ _ rfl (w.heap.size + 1) _ rfl rfl _ _ R0.out info29 rfl (oc_tab _ _ _ rfl) ?_)
        refine bodyPost_ret (results_row_tmp Tryz.results8 _ _ (w.heap.size + 1) _ _ _ _ rfl (setRow_heap wr _ _ _ _ _ R0.out) Tryz.underlying27 rfl info29) rfl ⟨.inr (.inr ⟨h1, fun g hg ho => ?_, rfl⟩), below_setRow B (by omega) _⟩
        have := hmin.out g hg ho
        omega
end Go.Proofs.YtppjphelibdlcaaGreatDoor
