/-
  The walk of slots.Fits.
-/
import Derived.Test.YtppjphelibdlcaaGreatDoorSlots
import Derived.Test.YtppjphelibdlcaaGreatDoorCells
import Derived.Test.YtppjphelibdlcaaGreatDoorQuiet
import Derived.Test.YtppjphelibdlcaaGreatDoorKit3
namespace Go.Proofs.YtppjphelibdlcaaGreatDoor
open Go.RowKit
open Go

/-- Slots, as cells. -/
def row3 (x : Int × Int × Int) : List Value := [.int .i64 x.1, .int .i64 x.2.1, .int .i64 x.2.2]

theorem agg3 (w : World) : (isAgg 3).run Tryz.prog w = .ok false w := by kernel_rfl
theorem agg27 (w : World) : (isAgg 25).run Tryz.prog w = .ok false w := by kernel_rfl
theorem info23 : (Tryz.prog.info? 23).map (·.size) = some 5 := by kernel_rfl

theorem cut_bool (b : Bool) : b = false ∨ b = true := by cases b <;> simp

set_option maxRecDepth 20000 in
set_option maxHeartbeats 4000000 in
theorem fits_any (bit near far drift bad : Int) (v : Value) (l : List Int) (u : Value) (rs : List (Int × Int × Int)) (r g : Int) (w : World) (h : Rd w v (ints l)) (hu : RdN 3 w u (rs.map row3)) :
    Calls Tryz.prog 14 #[.agg #[.int .i64 bit, .int .i64 near, .int .i64 far, .int .i64 drift, .int .i64 bad], v, .agg #[u, .int .i64 r, .int .i64 g]] w fun e w' =>
      e = .returned (.bool (fitsB bit near far drift bad l rs r g)) ∧ Below w.heap.size w w' := by
  obtain ⟨a, c, rfl, hc, hm⟩ := h.shape
  obtain ⟨a2, c2, rfl, hc2, hm2⟩ := hu.shape
  rw [List.length_map] at *
  have key : (mayB bit near far drift bad l = false) ∨ (mayB bit near far drift bad l = true ∧ ¬ rs.length = l.length) ∨
      (mayB bit near far drift bad l = true ∧ rs.length = l.length ∧ wB r 0 1099511627776 = false) ∨
      (mayB bit near far drift bad l = true ∧ rs.length = l.length ∧ wB r 0 1099511627776 = true ∧ wB g (skewI bit near far drift bad r) 1125899906842624 = false) ∨
      (mayB bit near far drift bad l = true ∧ rs.length = l.length ∧ wB r 0 1099511627776 = true ∧ wB g (skewI bit near far drift bad r) 1125899906842624 = true) := by
    cases mayB bit near far drift bad l <;> cases wB r 0 1099511627776 <;> cases wB g (skewI bit near far drift bad r) 1125899906842624 <;> by_cases h : rs.length = l.length <;> simp [h]
  go_enter Tryz.func14, Tryz.ntmps14
  go_wp2_with fail
  have k0 := heap_alloc2_old w (.cells #[.int .i64 bit, .int .i64 near, .int .i64 far, .int .i64 drift, .int .i64 bad] 23 (0, 0)) (.cells #[.slice a2 rs.length c2, .int .i64 r, .int .i64 g] 27 (0, 0))
  have k1 := heap_alloc2_new w (.cells #[.int .i64 bit, .int .i64 near, .int .i64 far, .int .i64 drift, .int .i64 bad] 23 (0, 0)) (.cells #[.slice a2 rs.length c2, .int .i64 r, .int .i64 g] 27 (0, 0))
  have B0 := balloc (balloc (Below.refl w.heap.size w) (.cells #[.int .i64 bit, .int .i64 near, .int .i64 far, .int .i64 drift, .int .i64 bad] 23 (0, 0))) (.cells #[.slice a2 rs.length c2, .int .i64 r, .int .i64 g] 27 (0, 0))
  generalize (w.alloc _).alloc _ = wr at *
  have K0 := Lib.hid (fun (w' : World) (hw : Below wr.heap.size wr w') => (hw.block _ (lt_of_block k0)).trans k0)
  have K1 := Lib.hid (fun (w' : World) (hw : Below wr.heap.size wr w') => (hw.block _ (lt_of_block k1)).trans k1)
  have C1 := Lib.hid (fun (w' : World) (hw : Below wr.heap.size wr w') => (may_any bit near far drift bad _ l w' (h.below (bnext B0 hw))).mono fun e w'' ⟨he, h⟩ => And.intro he (bnext hw h))
  have C2 := Lib.hid (fun (w' : World) (hw : Below wr.heap.size wr w') => (within_any r 0 1099511627776 w').mono fun e w'' ⟨he, h⟩ => And.intro he (h ▸ hw : Below wr.heap.size wr w''))
  have C4 := Lib.hid (fun (w' : World) (hw : Below wr.heap.size wr w') => (within_any g (skewI bit near far drift bad r) 1125899906842624 w').mono fun e w'' ⟨he, h⟩ => And.intro he (h ▸ hw : Below wr.heap.size wr w''))
  have C3 := Lib.hid (fun (w' : World) (hw : Below wr.heap.size wr w') => (skew_any bit near far drift bad r w').mono fun e w'' ⟨he, h⟩ => And.intro he (bnext hw h))
  clear k0 k1
  refine wp_region_quietC (fun w' => Below wr.heap.size wr w') (by kernel_rfl) (by kernel_rfl) (bdraw (Below.refl _ _) 1) ?_
  rcases key with h1 | ⟨h1, h2⟩ | ⟨h1, h2, h3⟩ | ⟨h1, h2, h3, h4⟩ | ⟨h1, h2, h3, h4⟩
  · rw [h1] at C1
    repeat (first
      | go_big_quiet_skip
      | (go_big_quiet_want
         first
          | (refine quiet_load _ _ rfl _ rfl _ (fun w' hw' => run_loadVar_row w' _ _ _ _ _ _ (K0.out w' hw') rfl rfl info23) ?_; go_simp; go_big_quiet_on)
          | (refine quiet_load _ _ rfl _ rfl _ (fun w' hw' => run_loadVar_cell (K1.out w' hw') rfl (agg3 _)) ?_; go_simp; go_big_quiet_on)
          | (refine quiet_load _ _ rfl _ rfl _ (fun w' hw' => run_loadVar_cell (K1.out w' hw') rfl (agg27 _)) ?_; go_simp; go_big_quiet_on)
          | (go_big_quiet_op; go_big_quiet_on)
          | (go_big_quiet_op; apply Exists.intro; refine ⟨fun w' hw' => ?_, ?_⟩; (first | with_reducible exact rfl | with_reducible exact C1.out w' hw' | with_reducible exact C2.out w' hw' | with_reducible exact C3.out w' hw' | with_reducible exact C4.out w' hw'); go_big_quiet_on)))
    refine wpQuiet_nil ?_
    intro w9 hw9
    go_wp2_with fail
    go_ret
    exact ⟨by simp [fitsB, h1], bnext B0 hw9⟩
  · rw [h1] at C1
    have h5 : ((rs.length : Int) != (l.length : Int)) = true := by rw [bne_iff_ne]; omega
    repeat (first
      | go_big_quiet_skip
      | (go_big_quiet_want
         first
          | (refine quiet_load _ _ rfl _ rfl _ (fun w' hw' => run_loadVar_row w' _ _ _ _ _ _ (K0.out w' hw') rfl rfl info23) ?_; go_simp; go_big_quiet_on)
          | (refine quiet_load _ _ rfl _ rfl _ (fun w' hw' => run_loadVar_cell (K1.out w' hw') rfl (agg3 _)) ?_; go_simp; go_big_quiet_on)
          | (refine quiet_load _ _ rfl _ rfl _ (fun w' hw' => run_loadVar_cell (K1.out w' hw') rfl (agg27 _)) ?_; go_simp; go_big_quiet_on)
          | (go_big_quiet_op; go_big_quiet_on)
          | (go_big_quiet_op; apply Exists.intro; refine ⟨fun w' hw' => ?_, ?_⟩; (first | with_reducible exact rfl | with_reducible exact C1.out w' hw' | with_reducible exact C2.out w' hw' | with_reducible exact C3.out w' hw' | with_reducible exact C4.out w' hw'); go_big_quiet_on)))
    refine wpQuiet_nil ?_
    intro w9 hw9
    go_wp2_with fail
    go_ret
    exact ⟨by simp [fitsB, h1, h2], bnext B0 hw9⟩
  · rw [h1] at C1
    rw [h3] at C2
    have h5 : ((rs.length : Int) != (l.length : Int)) = false := by rw [bne_eq_false_iff_eq]; omega
    repeat (first
      | go_big_quiet_skip
      | (go_big_quiet_want
         first
          | (refine quiet_load _ _ rfl _ rfl _ (fun w' hw' => run_loadVar_row w' _ _ _ _ _ _ (K0.out w' hw') rfl rfl info23) ?_; go_simp; go_big_quiet_on)
          | (refine quiet_load _ _ rfl _ rfl _ (fun w' hw' => run_loadVar_cell (K1.out w' hw') rfl (agg3 _)) ?_; go_simp; go_big_quiet_on)
          | (refine quiet_load _ _ rfl _ rfl _ (fun w' hw' => run_loadVar_cell (K1.out w' hw') rfl (agg27 _)) ?_; go_simp; go_big_quiet_on)
          | (go_big_quiet_op; go_big_quiet_on)
          | (go_big_quiet_op; apply Exists.intro; refine ⟨fun w' hw' => ?_, ?_⟩; (first | with_reducible exact rfl | with_reducible exact C1.out w' hw' | with_reducible exact C2.out w' hw' | with_reducible exact C3.out w' hw' | with_reducible exact C4.out w' hw'); go_big_quiet_on)))
    refine wpQuiet_nil ?_
    intro w9 hw9
    go_wp2_with fail
    go_ret
    exact ⟨by simp [fitsB, h1, h2, h3], bnext B0 hw9⟩
  · rw [h1] at C1
    rw [h3] at C2
    have h5 : ((rs.length : Int) != (l.length : Int)) = false := by rw [bne_eq_false_iff_eq]; omega
    rw [h4] at C4
    repeat (first
      | go_big_quiet_skip
      | (go_big_quiet_want
         first
          | (refine quiet_load _ _ rfl _ rfl _ (fun w' hw' => run_loadVar_row w' _ _ _ _ _ _ (K0.out w' hw') rfl rfl info23) ?_; go_simp; go_big_quiet_on)
          | (refine quiet_load _ _ rfl _ rfl _ (fun w' hw' => run_loadVar_cell (K1.out w' hw') rfl (agg3 _)) ?_; go_simp; go_big_quiet_on)
          | (refine quiet_load _ _ rfl _ rfl _ (fun w' hw' => run_loadVar_cell (K1.out w' hw') rfl (agg27 _)) ?_; go_simp; go_big_quiet_on)
          | (go_big_quiet_op; go_big_quiet_on)
          | (go_big_quiet_op; apply Exists.intro; refine ⟨fun w' hw' => ?_, ?_⟩; (first | with_reducible exact rfl | with_reducible exact C1.out w' hw' | with_reducible exact C2.out w' hw' | with_reducible exact C3.out w' hw' | with_reducible exact C4.out w' hw'); go_big_quiet_on)))
    refine wpQuiet_nil ?_
    intro w9 hw9
    go_wp2_with fail
    go_ret
    exact ⟨by simp [fitsB, h1, h2, h3, h4], bnext B0 hw9⟩
  · rw [h1] at C1
    rw [h3] at C2
    have h5 : ((rs.length : Int) != (l.length : Int)) = false := by rw [bne_eq_false_iff_eq]; omega
    rw [h4] at C4
    repeat (first
      | go_big_quiet_skip
      | (go_big_quiet_want
         first
          | (refine quiet_load _ _ rfl _ rfl _ (fun w' hw' => run_loadVar_row w' _ _ _ _ _ _ (K0.out w' hw') rfl rfl info23) ?_; go_simp; go_big_quiet_on)
          | (refine quiet_load _ _ rfl _ rfl _ (fun w' hw' => run_loadVar_cell (K1.out w' hw') rfl (agg3 _)) ?_; go_simp; go_big_quiet_on)
          | (refine quiet_load _ _ rfl _ rfl _ (fun w' hw' => run_loadVar_cell (K1.out w' hw') rfl (agg27 _)) ?_; go_simp; go_big_quiet_on)
          | (go_big_quiet_op; go_big_quiet_on)
          | (go_big_quiet_op; apply Exists.intro; refine ⟨fun w' hw' => ?_, ?_⟩; (first | with_reducible exact rfl | with_reducible exact C1.out w' hw' | with_reducible exact C2.out w' hw' | with_reducible exact C3.out w' hw' | with_reducible exact C4.out w' hw'); go_big_quiet_on)))
    refine wpQuiet_nil ?_
    intro w9 hw9
    have k1 := K1.out w9 hw9
    have hf : fitsB bit near far drift bad l rs r g = ((fitL bit far g 0 rs l).any fun a => decide (a ≤ r)) := by simp only [fitsB, h1, h2, h3, h4, decide_true, Bool.true_and]
    have HF := Lib.hid hf
    obtain ⟨hck, _, hall⟩ := (mayB_iff _ _ _ _ _ _).1 h1
    obtain ⟨⟨hb0, hb1⟩, ⟨hf0, hf1⟩, ⟨hn0, hn1⟩, ⟨hd0, hd1⟩, _⟩ := (chkB_iff bit near far drift bad).1 hck
    obtain ⟨hr0, hr1⟩ := (wB_iff r 0 1099511627776).1 h3
    obtain ⟨hg0, hg1⟩ := (wB_iff g _ 1125899906842624).1 h4
    have hsk := (skI_in hn0 hn1 hf1 hd0 hd1 hr0 hr1).1
    have esk : skewI bit near far drift bad r = skI near far drift r := by simp [skewI, hck, h3]
    rw [esk] at hg0
    replace hg0 : 0 ≤ g := by omega
    have HALL := Lib.hid (fun n hn => slot1_in hb0 hb1 (hall n hn).1 (hall n hn).2)
    clear hck hall hsk esk hb0 hb1 hn0 hn1 hd0 hd1 hr0 hr1
    clear hf h1 h3 h4 C1 C2 C3 C4
    have k0 := K0.out w9 hw9
    have B1 := bnext B0 hw9
    have H9 := h.below B1
    have U9 := hu.below B1
    have H2 := Lib.hid h2
    obtain ⟨c0, c1, c2', c3, c4⟩ := cells5 k0
    obtain ⟨d0, d1, d2⟩ := cells3 k1
    clear h hu K0 K1 hw9 B0 k0 k1 h2 h5
    go_wp2_with fail
    go_loopw [7, 41] (fun at_ i wr => ∃ k : Nat, k ≤ rs.length ∧ i = .int .i64 k ∧ ∃ A : Int, at_ = .int .i64 A ∧ 0 ≤ A ∧ A ≤ 1125899906842624 ∧ Hid (fitL bit far g 0 (rs.take k) (l.take k) = some A) ∧ Below w9.heap.size w9 wr) (fun _ i _ => rs.length - (intOf i).toNat)
    case atStart => exact ⟨0, by omega, rfl, 0, rfl, by omega, by omega, rfl, Below.refl _ _⟩
    case round =>
      obtain ⟨k, hk, rfl, A, rfl, hA0, hA1, hfit, hb⟩ := hrel
      by_cases hlt : k < rs.length
      · obtain ⟨b, o, rfl, hcl⟩ := U9.get k (by simpa using hlt)
        have hkl : k < l.length := by have := H2.out; omega
        have x0 := (hb.cell (p := ⟨b, o + k * 3, none⟩) (World.block_lt_of_cell? w9 _ (hcl 0 (.int .i64 rs[k].1) (by simp [row3])))).trans (hcl 0 (.int .i64 rs[k].1) (by simp [row3]))
        have x1 := (hb.cell (p := ⟨b, o + k * 3 + 1, none⟩) (World.block_lt_of_cell? w9 _ (hcl 1 (.int .i64 rs[k].2.1) (by simp [row3])))).trans (hcl 1 (.int .i64 rs[k].2.1) (by simp [row3]))
        have x2 := (hb.cell (p := ⟨b, o + k * 3 + 2, none⟩) (World.block_lt_of_cell? w9 _ (hcl 2 (.int .i64 rs[k].2.2) (by simp [row3])))).trans (hcl 2 (.int .i64 rs[k].2.2) (by simp [row3]))
        obtain ⟨b', o', rfl, hcn⟩ := H9.get k hkl
        have x3 := (hb.cell (p := ⟨b', o' + k, none⟩) (World.block_lt_of_cell? w9 _ hcn)).trans hcn
        obtain ⟨hp0, hp1⟩ := HALL.out _ (List.getElem_mem hkl)
        have hsn := fitL_snoc bit far g 0 rs l k H2.out hkl
        rw [hfit.out] at hsn
        simp only [Option.bind_some] at hsn
        have hno : fitL bit far g 0 (rs.take (k + 1)) (l.take (k + 1)) = none → fitsB bit near far drift bad l rs r g = false := fun hn => by
          rw [HF.out, fitL_none bit far g 0 rs l (k + 1) H2.out (by omega) hn]
          rfl
        have HNO := Lib.hid hno
        clear hno
        generalize rs[k] = x at *
        generalize l[k] = n at *
        obtain ⟨y0, y1, y2⟩ := x
        have HSN := Lib.hid hsn
        clear hsn hcl hcn
        have e0 := (hb.cell (World.block_lt_of_cell? w9 _ c0)).trans c0
        have e2 := (hb.cell (World.block_lt_of_cell? w9 _ c2')).trans c2'
        have e3 := (hb.cell (World.block_lt_of_cell? w9 _ d2)).trans d2
        clear c0 c1 c2' c3 c4 d0 d1 d2
        go_wp2_with fail
        have n0 := heap_alloc_new wr (Obj.cells #[Value.int IntKind.i64 y0, Value.int IntKind.i64 y1, Value.int IntKind.i64 y2] 64)
        obtain ⟨z0, z1, z2⟩ := cells3 n0
        have hb8 := hb.alloc hb.size (Obj.cells #[Value.int IntKind.i64 y0, Value.int IntKind.i64 y1, Value.int IntKind.i64 y2] 64)
        have e0' := (World.cell?_alloc_lt wr (Obj.cells #[Value.int IntKind.i64 y0, Value.int IntKind.i64 y1, Value.int IntKind.i64 y2] 64) _ (World.block_lt_of_cell? wr _ e0)).trans e0
        have e2' := (World.cell?_alloc_lt wr (Obj.cells #[Value.int IntKind.i64 y0, Value.int IntKind.i64 y1, Value.int IntKind.i64 y2] 64) _ (World.block_lt_of_cell? wr _ e2)).trans e2
        have e3' := (World.cell?_alloc_lt wr (Obj.cells #[Value.int IntKind.i64 y0, Value.int IntKind.i64 y1, Value.int IntKind.i64 y2] 64) _ (World.block_lt_of_cell? wr _ e3)).trans e3
        have e4' := (World.cell?_alloc_lt wr (Obj.cells #[Value.int IntKind.i64 y0, Value.int IntKind.i64 y1, Value.int IntKind.i64 y2] 64) _ (World.block_lt_of_cell? wr _ x3)).trans x3
        clear x0 x1 x2 x3 e0 e2 e3 n0
        generalize wr.alloc (Obj.cells #[Value.int IntKind.i64 y0, Value.int IntKind.i64 y1, Value.int IntKind.i64 y2] 64) = w8 at *
        have go : ∀ (x y z : Int) (bb : Bool), wB x y z = bb → Hid (∀ m, Calls Tryz.prog 26 #[.int .i64 x, .int .i64 y, .int .i64 z] (w8.drewN m) fun e w' => e = .returned (.bool bb) ∧ ∃ m', w' = w8.drewN m') := fun x y z bb hbb m =>
          (within_any x y z _).mono fun e w' ⟨he, h⟩ => ⟨hbb ▸ he, m, h.symm⟩
        cases q1 : wB y0 A 1125899906842624
        · have G1 := go _ _ _ _ q1
          clear go
          go_quiet (with_reducible exact G1.out _)
          go_wp2_with fail
          go_ret
          have FIN : Ending.returned (.bool false) = .returned (.bool (fitsB bit near far drift bad l rs r g)) := by rw [HNO.out (by rw [HSN.out]; simp [okS, q1])]
          exact ⟨FIN, bdraw (bnext B1 hb8) _⟩
        · obtain ⟨r0, r1⟩ := (wB_iff _ _ _).1 q1
          cases q2 : wB y1 (y0 + g) 1125899906842624
          · have G1 := go _ _ _ _ q1
            have G2 := go _ _ _ _ q2
            clear go
            go_quiet (first | with_reducible exact G1.out _ | with_reducible exact G2.out _)
            go_wp2_with fail
            go_ret
            have FIN : Ending.returned (.bool false) = .returned (.bool (fitsB bit near far drift bad l rs r g)) := by rw [HNO.out (by rw [HSN.out]; simp [okS, q1, q2])]
            exact ⟨FIN, bdraw (bnext B1 hb8) _⟩
          · obtain ⟨r2, r3⟩ := (wB_iff _ _ _).1 q2
            cases q3 : wB y2 (y1 + n * bit + far + g) 1125899906842624
            · have G1 := go _ _ _ _ q1
              have G2 := go _ _ _ _ q2
              have G3 := go _ _ _ _ q3
              clear go
              go_quiet (first | with_reducible exact G1.out _ | with_reducible exact G2.out _ | with_reducible exact G3.out _)
              go_wp2_with fail
              go_ret
              have FIN : Ending.returned (.bool false) = .returned (.bool (fitsB bit near far drift bad l rs r g)) := by rw [HNO.out (by rw [HSN.out]; simp [okS, q1, q2, q3])]
              exact ⟨FIN, bdraw (bnext B1 hb8) _⟩
            · obtain ⟨r4, r5⟩ := (wB_iff _ _ _).1 q3
              have G1 := go _ _ _ _ q1
              have G2 := go _ _ _ _ q2
              have G3 := go _ _ _ _ q3
              clear go
              go_quiet (first | with_reducible exact G1.out _ | with_reducible exact G2.out _ | with_reducible exact G3.out _)
              go_wp2_with fail
              go_roundw
              case rel => exact ⟨k + 1, by omega, by go_num, y2, rfl, by omega, by omega, by unfold Hid; rw [HSN.out]; simp [okS, q1, q2, q3], bdraw hb8 _⟩
              case measure => simp [intOf]; omega
      · obtain rfl : k = rs.length := by omega
        have hfin := hfit.out
        rw [List.take_length, H2.out, List.take_length] at hfin
        have HFIN := Lib.hid hfin
        clear hfin hfit
        have e1 := (hb.cell (World.block_lt_of_cell? w9 _ d1)).trans d1
        clear c0 c1 c2' c3 c4 d0 d1 d2
        by_cases hle : A ≤ r
        all_goals
          go_wp2_with fail
          go_ret
          have FIN : fitsB bit near far drift bad l rs r g = decide (A ≤ r) := by rw [HF.out, HFIN.out]; rfl
          rw [FIN]
          exact ⟨by simp [hle], bnext B1 hb⟩
end Go.Proofs.YtppjphelibdlcaaGreatDoor
