/-
  The walk of belfryref16.Fits.
-/
import Derived.Test.YtppjphelibdlcaaGreatDoorSlotsFits
import Derived.Test.YtppjphelibdlcaaGreatDoorRefMay
import Derived.Test.YtppjphelibdlcaaGreatDoorSlotsFacts
namespace Go.Proofs.YtppjphelibdlcaaGreatDoor
open Go.RowKit
open Go

theorem skewI_nonneg (bit near far drift bad r : Int) : 0 ≤ skewI bit near far drift bad r := by
  unfold skewI
  split
  · rename_i h
    simp only [Bool.and_eq_true] at h
    obtain ⟨h1, h2⟩ := h
    obtain ⟨_, ⟨hf0, hf1⟩, ⟨hn0, hn1⟩, ⟨hd0, hd1⟩, _⟩ := (chkB_iff bit near far drift bad).1 h1
    obtain ⟨hr0, hr1⟩ := (wB_iff r 0 1099511627776).1 h2
    have := (skI_in hn0 hn1 hf1 hd0 hd1 hr0 hr1).1
    omega
  · exact Int.le_refl _
set_option maxRecDepth 20000 in
set_option maxHeartbeats 4000000 in
theorem rfits_any (bit near far drift bad : Int) (v : Value) (l : List Int) (u : Value) (rs : List (Int × Int × Int)) (r g : Int) (w : World) (h : Rd w v (ints l)) (hu : RdN 3 w u (rs.map row3)) :
    Calls Tryz.prog 15 #[.agg #[.int .i64 bit, .int .i64 near, .int .i64 far, .int .i64 drift, .int .i64 bad], v, .agg #[u, .int .i64 r, .int .i64 g]] w fun e w' =>
      e = .returned (.bool (fitsB bit near far drift bad l rs r g)) ∧ Below w.heap.size w w' := by
  obtain ⟨a, c, rfl, hc, hm⟩ := h.shape
  obtain ⟨a2, c2, rfl, hc2, hm2⟩ := hu.shape
  rw [List.length_map] at *
  have hS0 := skewI_nonneg bit near far drift bad r
  have key : (mayB bit near far drift bad l = false) ∨ (mayB bit near far drift bad l = true ∧ ¬ rs.length = l.length) ∨
      (mayB bit near far drift bad l = true ∧ rs.length = l.length ∧ wB g 0 1125899906842624 = false) ∨
      (mayB bit near far drift bad l = true ∧ rs.length = l.length ∧ wB g 0 1125899906842624 = true ∧ wB r 0 1125899906842624 = false) ∨
      (mayB bit near far drift bad l = true ∧ rs.length = l.length ∧ wB g 0 1125899906842624 = true ∧ wB r 0 1125899906842624 = true ∧ 1099511627776 < r) ∨
      (mayB bit near far drift bad l = true ∧ rs.length = l.length ∧ wB g 0 1125899906842624 = true ∧ wB r 0 1125899906842624 = true ∧ ¬ 1099511627776 < r ∧ g < skewI bit near far drift bad r) ∨
      (mayB bit near far drift bad l = true ∧ rs.length = l.length ∧ wB g 0 1125899906842624 = true ∧ wB r 0 1125899906842624 = true ∧ ¬ 1099511627776 < r ∧ ¬ g < skewI bit near far drift bad r) := by
    cases mayB bit near far drift bad l <;> cases wB g 0 1125899906842624 <;> cases wB r 0 1125899906842624 <;> by_cases h : rs.length = l.length <;> by_cases h2 : 1099511627776 < r <;> by_cases h3 : g < skewI bit near far drift bad r <;> simp [h, h2, h3]
  go_enter Tryz.func15, Tryz.ntmps15
  go_wp2_with fail
  have k0 := heap_alloc2_old w (.cells #[.int .i64 bit, .int .i64 near, .int .i64 far, .int .i64 drift, .int .i64 bad] 23 (0, 0)) (.cells #[.slice a2 rs.length c2, .int .i64 r, .int .i64 g] 27 (0, 0))
  have k1 := heap_alloc2_new w (.cells #[.int .i64 bit, .int .i64 near, .int .i64 far, .int .i64 drift, .int .i64 bad] 23 (0, 0)) (.cells #[.slice a2 rs.length c2, .int .i64 r, .int .i64 g] 27 (0, 0))
  have B0 := balloc (balloc (Below.refl w.heap.size w) (.cells #[.int .i64 bit, .int .i64 near, .int .i64 far, .int .i64 drift, .int .i64 bad] 23 (0, 0))) (.cells #[.slice a2 rs.length c2, .int .i64 r, .int .i64 g] 27 (0, 0))
  generalize (w.alloc _).alloc _ = wr at *
  have K0 := Lib.hid (fun (w' : World) (hw : Below wr.heap.size wr w') => (hw.block _ (lt_of_block k0)).trans k0)
  have K1 := Lib.hid (fun (w' : World) (hw : Below wr.heap.size wr w') => (hw.block _ (lt_of_block k1)).trans k1)
  have C1 := Lib.hid (fun (w' : World) (hw : Below wr.heap.size wr w') => (rmay_any bit near far drift bad _ l w' (h.below (bnext B0 hw))).mono fun e w'' ⟨he, h⟩ => And.intro he (bnext hw h))
  have C2 := Lib.hid (fun (w' : World) (hw : Below wr.heap.size wr w') => (rtick_any g w').mono fun e w'' ⟨he, h⟩ => And.intro he (h ▸ hw : Below wr.heap.size wr w''))
  have C3 := Lib.hid (fun (w' : World) (hw : Below wr.heap.size wr w') => (rtick_any r w').mono fun e w'' ⟨he, h⟩ => And.intro he (h ▸ hw : Below wr.heap.size wr w''))
  have C4 := Lib.hid (fun (w' : World) (hw : Below wr.heap.size wr w') => (rskew_any bit near far drift bad r w').mono fun e w'' ⟨he, h⟩ => And.intro he (bnext hw h))
  have FB : Hid (fitsB bit near far drift bad l rs r g = (mayB bit near far drift bad l && (decide (rs.length = l.length) && (wB r 0 1099511627776 && (wB g (skewI bit near far drift bad r) 1125899906842624 && (fitL bit far g 0 rs l).any fun a => decide (a ≤ r)))))) := rfl
  have ESK : Hid (chkB bit near far drift bad = true → 0 ≤ r → r ≤ 1099511627776 → skewI bit near far drift bad r = skI near far drift r) := fun h0 h1 h2 => skew_of h0 r h1 h2
  generalize skewI bit near far drift bad r = S at *
  clear k0 k1
  refine wp_region_quietC (fun w' => Below wr.heap.size wr w') (by kernel_rfl) (by kernel_rfl) (bdraw (Below.refl _ _) 1) ?_
  rcases key with h1 | ⟨h1, h2⟩ | ⟨h1, h2, h3⟩ | ⟨h1, h2, h3, h4⟩ | ⟨h1, h2, h3, h4, h5⟩ | ⟨h1, h2, h3, h4, h5, h6⟩ | ⟨h1, h2, h3, h4, h5, h6⟩
  · rw [h1] at C1
    repeat (first
      | go_big_quiet_skip
      | (go_big_quiet_want
         first
          | (refine quiet_load _ _ rfl _ rfl _ (fun w' hw' => run_loadVar_row w' _ _ _ _ _ _ (K0.out w' hw') rfl rfl info23) ?_; go_simp; go_big_quiet_on)
          | (refine quiet_load _ _ rfl _ rfl _ (fun w' hw' => run_loadVar_cell (K1.out w' hw') rfl (agg3 _)) ?_; go_simp; go_big_quiet_on)
          | (refine quiet_load _ _ rfl _ rfl _ (fun w' hw' => run_loadVar_cell (K1.out w' hw') rfl (agg27 _)) ?_; go_simp; go_big_quiet_on)
          | (go_big_quiet_op; go_big_quiet_on)
          | (go_big_quiet_op; apply Exists.intro; refine ⟨fun w' hw' => ?_, ?_⟩; (first | with_reducible exact rfl | with_reducible exact C1.out w' hw' | with_reducible exact C2.out w' hw' | with_reducible exact C3.out w' hw' | with_reducible exact C4.out w' hw'); go_big_quiet_on)))
    refine wpQuiet_nil ?_
    intro w9 hw9
    go_wp2_with fail
    go_ret
    exact ⟨by rw [FB.out]; rw [h1]; rfl, bnext B0 hw9⟩
  · rw [h1] at C1
    have e7 : ((rs.length : Int) != (l.length : Int)) = true := by rw [bne_iff_ne]; omega
    repeat (first
      | go_big_quiet_skip
      | (go_big_quiet_want
         first
          | (refine quiet_load _ _ rfl _ rfl _ (fun w' hw' => run_loadVar_row w' _ _ _ _ _ _ (K0.out w' hw') rfl rfl info23) ?_; go_simp; go_big_quiet_on)
          | (refine quiet_load _ _ rfl _ rfl _ (fun w' hw' => run_loadVar_cell (K1.out w' hw') rfl (agg3 _)) ?_; go_simp; go_big_quiet_on)
          | (refine quiet_load _ _ rfl _ rfl _ (fun w' hw' => run_loadVar_cell (K1.out w' hw') rfl (agg27 _)) ?_; go_simp; go_big_quiet_on)
          | (go_big_quiet_op; go_big_quiet_on)
          | (go_big_quiet_op; apply Exists.intro; refine ⟨fun w' hw' => ?_, ?_⟩; (first | with_reducible exact rfl | with_reducible exact C1.out w' hw' | with_reducible exact C2.out w' hw' | with_reducible exact C3.out w' hw' | with_reducible exact C4.out w' hw'); go_big_quiet_on)))
    refine wpQuiet_nil ?_
    intro w9 hw9
    go_wp2_with fail
    go_ret
    exact ⟨by rw [FB.out]; rw [h1, decide_eq_false h2]; rfl, bnext B0 hw9⟩
  · rw [h1] at C1
    rw [h3] at C2
    have e7 : ((rs.length : Int) != (l.length : Int)) = false := by rw [bne_eq_false_iff_eq]; omega
    repeat (first
      | go_big_quiet_skip
      | (go_big_quiet_want
         first
          | (refine quiet_load _ _ rfl _ rfl _ (fun w' hw' => run_loadVar_row w' _ _ _ _ _ _ (K0.out w' hw') rfl rfl info23) ?_; go_simp; go_big_quiet_on)
          | (refine quiet_load _ _ rfl _ rfl _ (fun w' hw' => run_loadVar_cell (K1.out w' hw') rfl (agg3 _)) ?_; go_simp; go_big_quiet_on)
          | (refine quiet_load _ _ rfl _ rfl _ (fun w' hw' => run_loadVar_cell (K1.out w' hw') rfl (agg27 _)) ?_; go_simp; go_big_quiet_on)
          | (go_big_quiet_op; go_big_quiet_on)
          | (go_big_quiet_op; apply Exists.intro; refine ⟨fun w' hw' => ?_, ?_⟩; (first | with_reducible exact rfl | with_reducible exact C1.out w' hw' | with_reducible exact C2.out w' hw' | with_reducible exact C3.out w' hw' | with_reducible exact C4.out w' hw'); go_big_quiet_on)))
    refine wpQuiet_nil ?_
    intro w9 hw9
    go_wp2_with fail
    go_ret
    exact ⟨by rw [FB.out]; rw [show wB g S 1125899906842624 = false by rw [wB_not] at h3 ⊢; omega]; simp, bnext B0 hw9⟩
  · rw [h1] at C1
    rw [h3] at C2
    rw [h4] at C3
    have e7 : ((rs.length : Int) != (l.length : Int)) = false := by rw [bne_eq_false_iff_eq]; omega
    repeat (first
      | go_big_quiet_skip
      | (go_big_quiet_want
         first
          | (refine quiet_load _ _ rfl _ rfl _ (fun w' hw' => run_loadVar_row w' _ _ _ _ _ _ (K0.out w' hw') rfl rfl info23) ?_; go_simp; go_big_quiet_on)
          | (refine quiet_load _ _ rfl _ rfl _ (fun w' hw' => run_loadVar_cell (K1.out w' hw') rfl (agg3 _)) ?_; go_simp; go_big_quiet_on)
          | (refine quiet_load _ _ rfl _ rfl _ (fun w' hw' => run_loadVar_cell (K1.out w' hw') rfl (agg27 _)) ?_; go_simp; go_big_quiet_on)
          | (go_big_quiet_op; go_big_quiet_on)
          | (go_big_quiet_op; apply Exists.intro; refine ⟨fun w' hw' => ?_, ?_⟩; (first | with_reducible exact rfl | with_reducible exact C1.out w' hw' | with_reducible exact C2.out w' hw' | with_reducible exact C3.out w' hw' | with_reducible exact C4.out w' hw'); go_big_quiet_on)))
    refine wpQuiet_nil ?_
    intro w9 hw9
    go_wp2_with fail
    go_ret
    exact ⟨by rw [FB.out]; rw [show wB r 0 1099511627776 = false by rw [wB_not] at h4 ⊢; omega]; simp, bnext B0 hw9⟩
  · rw [h1] at C1
    rw [h3] at C2
    rw [h4] at C3
    have e7 : ((rs.length : Int) != (l.length : Int)) = false := by rw [bne_eq_false_iff_eq]; omega
    have e8 : decide (1099511627776 < r) = true := decide_eq_true h5
    repeat (first
      | go_big_quiet_skip
      | (go_big_quiet_want
         first
          | (refine quiet_load _ _ rfl _ rfl _ (fun w' hw' => run_loadVar_row w' _ _ _ _ _ _ (K0.out w' hw') rfl rfl info23) ?_; go_simp; go_big_quiet_on)
          | (refine quiet_load _ _ rfl _ rfl _ (fun w' hw' => run_loadVar_cell (K1.out w' hw') rfl (agg3 _)) ?_; go_simp; go_big_quiet_on)
          | (refine quiet_load _ _ rfl _ rfl _ (fun w' hw' => run_loadVar_cell (K1.out w' hw') rfl (agg27 _)) ?_; go_simp; go_big_quiet_on)
          | (go_big_quiet_op; go_big_quiet_on)
          | (go_big_quiet_op; apply Exists.intro; refine ⟨fun w' hw' => ?_, ?_⟩; (first | with_reducible exact rfl | with_reducible exact C1.out w' hw' | with_reducible exact C2.out w' hw' | with_reducible exact C3.out w' hw' | with_reducible exact C4.out w' hw'); go_big_quiet_on)))
    refine wpQuiet_nil ?_
    intro w9 hw9
    go_wp2_with fail
    go_ret
    exact ⟨by rw [FB.out]; rw [show wB r 0 1099511627776 = false by rw [wB_not]; omega]; simp, bnext B0 hw9⟩
  · rw [h1] at C1
    rw [h3] at C2
    rw [h4] at C3
    have e7 : ((rs.length : Int) != (l.length : Int)) = false := by rw [bne_eq_false_iff_eq]; omega
    have e8 : decide (1099511627776 < r) = false := decide_eq_false (by omega)
    have e9 : decide (g < S) = true := decide_eq_true h6
    repeat (first
      | go_big_quiet_skip
      | (go_big_quiet_want
         first
          | (refine quiet_load _ _ rfl _ rfl _ (fun w' hw' => run_loadVar_row w' _ _ _ _ _ _ (K0.out w' hw') rfl rfl info23) ?_; go_simp; go_big_quiet_on)
          | (refine quiet_load _ _ rfl _ rfl _ (fun w' hw' => run_loadVar_cell (K1.out w' hw') rfl (agg3 _)) ?_; go_simp; go_big_quiet_on)
          | (refine quiet_load _ _ rfl _ rfl _ (fun w' hw' => run_loadVar_cell (K1.out w' hw') rfl (agg27 _)) ?_; go_simp; go_big_quiet_on)
          | (go_big_quiet_op; go_big_quiet_on)
          | (go_big_quiet_op; apply Exists.intro; refine ⟨fun w' hw' => ?_, ?_⟩; (first | with_reducible exact rfl | with_reducible exact C1.out w' hw' | with_reducible exact C2.out w' hw' | with_reducible exact C3.out w' hw' | with_reducible exact C4.out w' hw'); go_big_quiet_on)))
    refine wpQuiet_nil ?_
    intro w9 hw9
    go_wp2_with fail
    go_ret
    exact ⟨by rw [FB.out]; rw [show wB g S 1125899906842624 = false by rw [wB_not]; omega]; simp, bnext B0 hw9⟩
  · rw [h1] at C1
    rw [h3] at C2
    rw [h4] at C3
    have e7 : ((rs.length : Int) != (l.length : Int)) = false := by rw [bne_eq_false_iff_eq]; omega
    have e8 : decide (1099511627776 < r) = false := decide_eq_false (by omega)
    have e9 : decide (g < S) = false := decide_eq_false (by omega)
    repeat (first
      | go_big_quiet_skip
      | (go_big_quiet_want
         first
          | (refine quiet_load _ _ rfl _ rfl _ (fun w' hw' => run_loadVar_row w' _ _ _ _ _ _ (K0.out w' hw') rfl rfl info23) ?_; go_simp; go_big_quiet_on)
          | (refine quiet_load _ _ rfl _ rfl _ (fun w' hw' => run_loadVar_cell (K1.out w' hw') rfl (agg3 _)) ?_; go_simp; go_big_quiet_on)
          | (refine quiet_load _ _ rfl _ rfl _ (fun w' hw' => run_loadVar_cell (K1.out w' hw') rfl (agg27 _)) ?_; go_simp; go_big_quiet_on)
          | (go_big_quiet_op; go_big_quiet_on)
          | (go_big_quiet_op; apply Exists.intro; refine ⟨fun w' hw' => ?_, ?_⟩; (first | with_reducible exact rfl | with_reducible exact C1.out w' hw' | with_reducible exact C2.out w' hw' | with_reducible exact C3.out w' hw' | with_reducible exact C4.out w' hw'); go_big_quiet_on)))
    refine wpQuiet_nil ?_
    intro w9 hw9
    clear e7 e8 e9
    have k1 := K1.out w9 hw9
    obtain ⟨hg0, hg1⟩ := (wB_iff g 0 1125899906842624).1 h3
    obtain ⟨hr0, _⟩ := (wB_iff r 0 1125899906842624).1 h4
    have hf : fitsB bit near far drift bad l rs r g = ((fitL bit far g 0 rs l).any fun a => decide (a ≤ r)) := by
      rw [FB.out, h1, decide_eq_true h2, (wB_iff r 0 1099511627776).2 ⟨hr0, by omega⟩, (wB_iff g S 1125899906842624).2 ⟨by omega, hg1⟩]
      simp only [Bool.true_and]
    have HF := Lib.hid hf
    obtain ⟨hck, _, hall⟩ := (mayB_iff _ _ _ _ _ _).1 h1
    obtain ⟨⟨hb0, hb1⟩, ⟨hf0, hf1⟩, ⟨hn0, hn1⟩, ⟨hd0, hd1⟩, _⟩ := (chkB_iff bit near far drift bad).1 hck
    have HALL := Lib.hid (fun n hn => slot1_in hb0 hb1 (hall n hn).1 (hall n hn).2)
    clear hck hall hb0 hb1 hn0 hn1 hd0 hd1 hr0
    clear hf h1 h3 h4 h5 h6 C1 C2 C3 C4 FB ESK hS0
    have k0 := K0.out w9 hw9
    have B1 := bnext B0 hw9
    have H9 := h.below B1
    have U9 := hu.below B1
    have H2 := Lib.hid h2
    obtain ⟨c0, c1, c2', c3, c4⟩ := cells5 k0
    obtain ⟨d0, d1, d2⟩ := cells3 k1
    clear h hu K0 K1 hw9 B0 k0 k1 h2
    go_wp2_with fail
    go_loopw [7, 8] (fun at_ i wr => ∃ k : Nat, k ≤ rs.length ∧ i = .int .i64 k ∧ ∃ A : Int, at_ = .int .i64 A ∧ 0 ≤ A ∧ A ≤ 1125899906842624 ∧ Hid (fitL bit far g 0 (rs.take k) (l.take k) = some A) ∧ Below w9.heap.size w9 wr) (fun _ i _ => rs.length - (intOf i).toNat)
    case atStart => exact ⟨0, by omega, rfl, 0, rfl, by omega, by omega, rfl, Below.refl _ _⟩
    case round =>
      obtain ⟨k, hk, rfl, A, rfl, hA0, hA1, hfit, hb⟩ := hrel
      by_cases hlt : k < rs.length
      · obtain ⟨b, o, rfl, hcl⟩ := U9.get k (by simpa using hlt)
        have hkl : k < l.length := by have := H2.out; omega
        have x0 := (hb.cell (p := ⟨b, o + k * 3, none⟩) (World.block_lt_of_cell? w9 _ (hcl 0 (.int .i64 rs[k].1) (by simp [row3])))).trans (hcl 0 (.int .i64 rs[k].1) (by simp [row3]))
        have x1 := (hb.cell (p := ⟨b, o + k * 3 + 1, none⟩) (World.block_lt_of_cell? w9 _ (hcl 1 (.int .i64 rs[k].2.1) (by simp [row3])))).trans (hcl 1 (.int .i64 rs[k].2.1) (by simp [row3]))
        have x2 := (hb.cell (p := ⟨b, o + k * 3 + 2, none⟩) (World.block_lt_of_cell? w9 _ (hcl 2 (.int .i64 rs[k].2.2) (by simp [row3])))).trans (hcl 2 (.int .i64 rs[k].2.2) (by simp [row3]))
        obtain ⟨b', o', rfl, hcn⟩ := H9.get k hkl
        have x3 := (hb.cell (p := ⟨b', o' + k, none⟩) (World.block_lt_of_cell? w9 _ hcn)).trans hcn
        obtain ⟨hp0, hp1⟩ := HALL.out _ (List.getElem_mem hkl)
        have hsn := fitL_snoc bit far g 0 rs l k H2.out hkl
        rw [hfit.out] at hsn
        simp only [Option.bind_some] at hsn
        have hno : fitL bit far g 0 (rs.take (k + 1)) (l.take (k + 1)) = none → fitsB bit near far drift bad l rs r g = false := fun hn => by
          rw [HF.out, fitL_none bit far g 0 rs l (k + 1) H2.out (by omega) hn]
          rfl
        have HNO := Lib.hid hno
        clear hno
        generalize rs[k] = x at *
        generalize l[k] = n at *
        obtain ⟨y0, y1, y2⟩ := x
        have HSN := Lib.hid hsn
        clear hsn hcl hcn
        have e0 := (hb.cell (World.block_lt_of_cell? w9 _ c0)).trans c0
        have e2 := (hb.cell (World.block_lt_of_cell? w9 _ c2')).trans c2'
        have e3 := (hb.cell (World.block_lt_of_cell? w9 _ d2)).trans d2
        have e5 := (hb.cell (World.block_lt_of_cell? w9 _ d0)).trans d0
        clear c0 c1 c2' c3 c4 d0 d1 d2
        go_wp2_with fail
        have n0 := heap_alloc_new wr (Obj.cells #[Value.int IntKind.i64 y0, Value.int IntKind.i64 y1, Value.int IntKind.i64 y2] 64)
        obtain ⟨z0, z1, z2⟩ := cells3 n0
        have hb8 := hb.alloc hb.size (Obj.cells #[Value.int IntKind.i64 y0, Value.int IntKind.i64 y1, Value.int IntKind.i64 y2] 64)
        have e0' := (World.cell?_alloc_lt wr (Obj.cells #[Value.int IntKind.i64 y0, Value.int IntKind.i64 y1, Value.int IntKind.i64 y2] 64) _ (World.block_lt_of_cell? wr _ e0)).trans e0
        have e2' := (World.cell?_alloc_lt wr (Obj.cells #[Value.int IntKind.i64 y0, Value.int IntKind.i64 y1, Value.int IntKind.i64 y2] 64) _ (World.block_lt_of_cell? wr _ e2)).trans e2
        have e3' := (World.cell?_alloc_lt wr (Obj.cells #[Value.int IntKind.i64 y0, Value.int IntKind.i64 y1, Value.int IntKind.i64 y2] 64) _ (World.block_lt_of_cell? wr _ e3)).trans e3
        have e5' := (World.cell?_alloc_lt wr (Obj.cells #[Value.int IntKind.i64 y0, Value.int IntKind.i64 y1, Value.int IntKind.i64 y2] 64) _ (World.block_lt_of_cell? wr _ e5)).trans e5
        have e4' := (World.cell?_alloc_lt wr (Obj.cells #[Value.int IntKind.i64 y0, Value.int IntKind.i64 y1, Value.int IntKind.i64 y2] 64) _ (World.block_lt_of_cell? wr _ x3)).trans x3
        clear x0 x1 x2 x3 e0 e2 e3 e5 n0
        generalize wr.alloc (Obj.cells #[Value.int IntKind.i64 y0, Value.int IntKind.i64 y1, Value.int IntKind.i64 y2] 64) = w8 at *
        have go : ∀ (x : Int) (bb : Bool), wB x 0 1125899906842624 = bb → Hid (∀ m, Calls Tryz.prog 27 #[.int .i64 x] (w8.drewN m) fun e w' => e = .returned (.bool bb) ∧ ∃ m', w' = w8.drewN m') := fun x bb hbb m =>
          (rtick_any x _).mono fun e w' ⟨he, h⟩ => ⟨hbb ▸ he, m, h.symm⟩
        have OKS : Hid (okS bit far g A n (y0, y1, y2) = (wB y0 A 1125899906842624 && (wB y1 (y0 + g) 1125899906842624 && wB y2 (y1 + n * bit + far + g) 1125899906842624))) := rfl
        cases q1 : wB y0 0 1125899906842624
        · have G1 := go _ _ q1
          clear go
          go_quiet (with_reducible exact G1.out _)
          go_wp2_with fail
          go_ret
          have FIN : Ending.returned (.bool false) = .returned (.bool (fitsB bit near far drift bad l rs r g)) := by rw [HNO.out (by rw [HSN.out, OKS.out, show wB y0 A 1125899906842624 = false by rw [wB_not] at q1 ⊢; omega]; simp)]
          exact ⟨FIN, bdraw (bnext B1 hb8) _⟩
        · obtain ⟨r0, r1⟩ := (wB_iff _ _ _).1 q1
          cases q2 : wB y1 0 1125899906842624
          · have G1 := go _ _ q1
            have G2 := go _ _ q2
            clear go
            go_quiet (first | with_reducible exact G1.out _ | with_reducible exact G2.out _)
            go_wp2_with fail
            go_ret
            have FIN : Ending.returned (.bool false) = .returned (.bool (fitsB bit near far drift bad l rs r g)) := by rw [HNO.out (by rw [HSN.out, OKS.out, show wB y1 (y0 + g) 1125899906842624 = false by rw [wB_not] at q2 ⊢; omega]; simp)]
            exact ⟨FIN, bdraw (bnext B1 hb8) _⟩
          · obtain ⟨r2, r3⟩ := (wB_iff _ _ _).1 q2
            cases q3 : wB y2 0 1125899906842624
            · have G1 := go _ _ q1
              have G2 := go _ _ q2
              have G3 := go _ _ q3
              clear go
              go_quiet (first | with_reducible exact G1.out _ | with_reducible exact G2.out _ | with_reducible exact G3.out _)
              go_wp2_with fail
              go_ret
              have FIN : Ending.returned (.bool false) = .returned (.bool (fitsB bit near far drift bad l rs r g)) := by rw [HNO.out (by rw [HSN.out, OKS.out, show wB y2 (y1 + n * bit + far + g) 1125899906842624 = false by rw [wB_not] at q3 ⊢; omega]; simp)]
              exact ⟨FIN, bdraw (bnext B1 hb8) _⟩
            · obtain ⟨r4, r5⟩ := (wB_iff _ _ _).1 q3
              by_cases q4 : y0 < A
              · have G1 := go _ _ q1
                have G2 := go _ _ q2
                have G3 := go _ _ q3
                have e4 : decide (y0 < A) = true := decide_eq_true q4
                clear go
                go_quiet (first | with_reducible exact G1.out _ | with_reducible exact G2.out _ | with_reducible exact G3.out _)
                go_wp2_with fail
                go_ret
                have FIN : Ending.returned (.bool false) = .returned (.bool (fitsB bit near far drift bad l rs r g)) := by rw [HNO.out (by rw [HSN.out, OKS.out, show wB y0 A 1125899906842624 = false by rw [wB_not]; omega]; simp)]
                exact ⟨FIN, bdraw (bnext B1 hb8) _⟩
              · by_cases q5 : y1 < y0 + g
                · have G1 := go _ _ q1
                  have G2 := go _ _ q2
                  have G3 := go _ _ q3
                  have e4 : decide (y0 < A) = false := decide_eq_false q4
                  have e5 : decide (y1 < y0 + g) = true := decide_eq_true q5
                  clear go
                  go_quiet (first | with_reducible exact G1.out _ | with_reducible exact G2.out _ | with_reducible exact G3.out _)
                  go_wp2_with fail
                  go_ret
                  have FIN : Ending.returned (.bool false) = .returned (.bool (fitsB bit near far drift bad l rs r g)) := by rw [HNO.out (by rw [HSN.out, OKS.out, show wB y1 (y0 + g) 1125899906842624 = false by rw [wB_not]; omega]; simp)]
                  exact ⟨FIN, bdraw (bnext B1 hb8) _⟩
                · by_cases q6 : y2 < y1 + n * bit + far + g
                  · have G1 := go _ _ q1
                    have G2 := go _ _ q2
                    have G3 := go _ _ q3
                    have e4 : decide (y0 < A) = false := decide_eq_false q4
                    have e5 : decide (y1 < y0 + g) = false := decide_eq_false q5
                    have e6 : decide (y2 < y1 + n * bit + far + g) = true := decide_eq_true q6
                    clear go
                    go_quiet (first | with_reducible exact G1.out _ | with_reducible exact G2.out _ | with_reducible exact G3.out _)
                    go_wp2_with fail
                    go_ret
                    have FIN : Ending.returned (.bool false) = .returned (.bool (fitsB bit near far drift bad l rs r g)) := by rw [HNO.out (by rw [HSN.out, OKS.out, show wB y2 (y1 + n * bit + far + g) 1125899906842624 = false by rw [wB_not]; omega]; simp)]
                    exact ⟨FIN, bdraw (bnext B1 hb8) _⟩
                  · have G1 := go _ _ q1
                    have G2 := go _ _ q2
                    have G3 := go _ _ q3
                    have e4 : decide (y0 < A) = false := decide_eq_false q4
                    have e5 : decide (y1 < y0 + g) = false := decide_eq_false q5
                    have e6 : decide (y2 < y1 + n * bit + far + g) = false := decide_eq_false q6
                    clear go
                    go_quiet (first | with_reducible exact G1.out _ | with_reducible exact G2.out _ | with_reducible exact G3.out _)
                    go_wp2_with fail
                    go_roundw
                    case rel => exact ⟨k + 1, by omega, by go_num, y2, rfl, by omega, by omega, by unfold Hid; rw [HSN.out, OKS.out, show wB y0 A 1125899906842624 = true by rw [wB_iff]; omega, show wB y1 (y0 + g) 1125899906842624 = true by rw [wB_iff]; omega, show wB y2 (y1 + n * bit + far + g) 1125899906842624 = true by rw [wB_iff]; omega]; simp, bdraw hb8 _⟩
                    case measure => simp [intOf]; omega
      · obtain rfl : k = rs.length := by omega
        have hfin := hfit.out
        rw [List.take_length, H2.out, List.take_length] at hfin
        have HFIN := Lib.hid hfin
        clear hfin hfit
        have e1 := (hb.cell (World.block_lt_of_cell? w9 _ d1)).trans d1
        have e5 := (hb.cell (World.block_lt_of_cell? w9 _ d0)).trans d0
        clear c0 c1 c2' c3 c4 d0 d1 d2
        by_cases hle : A ≤ r
        all_goals
          go_wp2_with fail
          go_ret
          have FIN : fitsB bit near far drift bad l rs r g = decide (A ≤ r) := by rw [HF.out, HFIN.out]; rfl
          rw [FIN]
          exact ⟨by simp [hle], bnext B1 hb⟩
end Go.Proofs.YtppjphelibdlcaaGreatDoor
