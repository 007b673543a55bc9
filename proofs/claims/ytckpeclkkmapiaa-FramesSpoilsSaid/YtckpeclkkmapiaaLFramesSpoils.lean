/-
  The walk of FramesSpoils: up to four bytes of a frame that stand side by side, changed in any way, make bytes of none.
-/
import Derived.Test.YtckpeclkkmapiaaFrmUse
import Derived.Test.YtckpeclkkmapiaaSpMath
import Derived.RegionTactic
import Derived.BigRegion
namespace Go.Proofs.Ytckpeclkkmapiaa
open Go.RowKit
open Go

theorem beq_cast0 (y : Nat) : ((y : Int) == 0) = (y == 0) := by
  rw [Bool.eq_iff_iff]
  simp
theorem arr_cell {w : World} {b : Nat} {t : TypeId} {b0 b1 b2 b3 : Nat} (h : w.heap[b]? = some (.cells #[.int .u8 b0, .int .u8 b1, .int .u8 b2, .int .u8 b3] t (0, 0))) (j : Nat) (hj : j < 4) : w.cell? ⟨b, j, none⟩ = some (.int .u8 (([b0, b1, b2, b3].getD j 0 : Nat) : Int)) := by
  rw [cell_of_row w b j _ _ _ h]
  match j, hj with
  | 0, _ => rfl
  | 1, _ => rfl
  | 2, _ => rfl
  | 3, _ => rfl
set_option maxRecDepth 20000 in
set_option maxHeartbeats 4000000 in
theorem walk_FramesSpoils (v0 v1 v2 : Value) (W : World) (A0 : Arg Try.prog 26 W v0) (A1 : Arg Try.prog 35 W v1) (A2 : Arg Try.prog 23 W v2) :
    Calls Try.prog 4 #[v0, v1, v2] W fun e w' => e = .returned (.bool true) ∧ Below W.heap.size W w' := by
  obtain ⟨st, rd, mem, md, v, pl, rfl, hR, hpl, hplm, hst, hrd, hmem, hmd⟩ := A0.frame
  obtain ⟨ar, rfl⟩ := A1.array Try.underlying35
  obtain ⟨zs, hz, hzl, hzw⟩ := A1.cells.arrNums Try.underlying35 Try.underlying5 (by kernel_rfl) (by kernel_rfl)
  obtain ⟨ws, rfl⟩ := iN_of zs fun z hz' => (bounds_u8 (hzw z hz')).1
  rw [List.length_map] at hzl
  have hws : NB ws := fun n hn => by
    have := (bounds_u8 (hzw n (List.mem_map.2 ⟨n, hn, rfl⟩))).2
    omega
  obtain ⟨b0, b1, b2, b3, rfl⟩ := list4 hzl
  obtain rfl : ar = #[.int .u8 b0, .int .u8 b1, .int .u8 b2, .int .u8 b3] := by
    apply Array.ext'
    simpa [Value.cells] using hz
  obtain ⟨at_, rfl, wat⟩ := A2.int Try.underlying23
  obtain ⟨hat0, hat1⟩ := bounds_u16 wat
  clear A0 A1 A2 wat hz hzl hzw
  have HR := Lib.hid hR
  have HWS := Lib.hid hws
  obtain ⟨a, c, rfl, hac, hcm, _, _⟩ := hR
  have hl : (by8 (iN pl)).length = pl.length := by simp
  rw [hl] at hac HR ⊢
  unfold maxLen at hcm
  clear hl hws
  have X1 : Below W.heap.size W ((W.alloc (.cells #[.int .i64 st, .int .u32 rd, .int .u8 mem, .int .u16 md, .slice a pl.length c] 26 (0, 0))).alloc (.cells #[.int .u8 b0, .int .u8 b1, .int .u8 b2, .int .u8 b3] 35 (0, 0))) := balloc (balloc (Below.refl _ _) _) _
  have k1 := heap_alloc2_old W (.cells #[.int .i64 st, .int .u32 rd, .int .u8 mem, .int .u16 md, .slice a pl.length c] 26 (0, 0)) (.cells #[.int .u8 b0, .int .u8 b1, .int .u8 b2, .int .u8 b3] 35 (0, 0))
  have j1 := heap_alloc2_new W (.cells #[.int .i64 st, .int .u32 rd, .int .u8 mem, .int .u16 md, .slice a pl.length c] 26 (0, 0)) (.cells #[.int .u8 b0, .int .u8 b1, .int .u8 b2, .int .u8 b3] 35 (0, 0))
  by_cases hok : 1 ≤ st ∧ st ≤ 8 ∧ pl.length ≤ 4095
  · obtain ⟨sn, rfl, hF⟩ := fr_mk hok hrd hmem hmd hpl
    have h4 := hok.2.2
    have HF := Lib.hid hF
    have HBL := Lib.hid (Fr.mk sn rd mem md pl).bytes_len
    have s1 := hok.1
    have s8 := hok.2.1
    have q1 : decide (4095 < (pl.length : Int)) = false := by rw [decide_eq_false_iff_not]; omega
    have q2 : decide ((sn : Int) < 1) = false := by rw [decide_eq_false_iff_not]; omega
    have q5 : decide ((13 : Int) + pl.length < 13) = false := by rw [decide_eq_false_iff_not]; omega
    have q3 : decide (8 < (sn : Int)) = false := by rw [decide_eq_false_iff_not]; omega
    clear hok hF hpl
    unfold frV
    go_enter Try.func4, Try.ntmps4
    go_wp2_with fail
    refine (alive3_any _).mono ?_
    rintro e w2 ⟨rfl, b2'⟩
    have k2 := (b2'.block _ (lt_of_block k1)).trans k1
    have j2 := (b2'.block _ (lt_of_block j1)).trans j1
    have B2 := bnext X1 b2'
    clear k1 j1 b2' X1
    have K2 := Lib.hid k2
    obtain ⟨y0, y1, y2, y3, y4⟩ := frame_cells k2
    go_wp2_with fail
    refine (put3 sn rd mem md pl HF.out a c w2 (HR.out.below B2)).mono ?_
    rintro e w3 ⟨gb, cb, rfl, o3, b3', hcb, hcb2, hg1, hg2⟩
    have k3 := (b3'.block _ (lt_of_block K2.out)).trans K2.out
    have j3 := (b3'.block _ (lt_of_block j2)).trans j2
    have hlt2 := lt_of_block K2.out
    have hlt3 := lt_of_block j2
    have B3 := bnext B2 b3'
    clear k2 j2 b3' B2 y0 y1 y2 y3 y4 K2
    obtain ⟨k, hk⟩ : ∃ k : Nat, at_ % (13 + (pl.length : Int)) = (k : Int) := ⟨(at_ % (13 + (pl.length : Int))).toNat, by have := Int.emod_nonneg at_ (b := 13 + (pl.length : Int)) (by omega); omega⟩
    have hkn : k < 13 + pl.length := by have := Int.emod_lt_of_pos at_ (b := 13 + (pl.length : Int)) (by omega); omega
    have hz : ((13 : Int) + pl.length == 0) = false := by simp; omega
    obtain ⟨m, hm4, hkm, hwin, hg⟩ : ∃ m : Nat, m ≤ 4 ∧ k + m ≤ 13 + pl.length ∧ (k + m ≤ 9 + pl.length ∨ 9 + pl.length ≤ k) ∧ (∀ j, j ≤ m → (j < m ↔ (j < 4 ∧ k + j < 13 + pl.length ∧ (9 + pl.length ≤ k ∨ k + j < 9 + pl.length)))) := by
      by_cases h9 : 9 + pl.length ≤ k
      · exact ⟨13 + pl.length - k, by omega, by omega, .inr h9, fun j hj => by omega⟩
      · exact ⟨min 4 (9 + pl.length - k), by omega, by omega, .inl (by omega), fun j hj => by omega⟩
    have HG := Lib.hid hg
    clear hg
    go_wp2_with fail
    rw [hk]
    clear hz hk q1 q2 q3 q5
    go_loopw [11, 12] (fun s i wr => ∃ j : Nat, j ≤ m ∧ i = .int .i64 j ∧ s = .bool (nought [b0, b1, b2, b3] j) ∧ wr.ownsRow w2.heap.size 5 1 (.slice (some ⟨gb, 0, none⟩) (13 + pl.length) cb) (13 + pl.length) (by8 (iN (sp (Fr.mk sn rd mem md pl).bytes k [b0, b1, b2, b3] j))) ∧
        wr.heap[W.heap.size]? = some (.cells #[.int .i64 sn, .int .u32 rd, .int .u8 mem, .int .u16 md, .slice a pl.length c] 26 (0, 0)) ∧ wr.heap[W.heap.size + 1]? = some (.cells #[.int .u8 b0, .int .u8 b1, .int .u8 b2, .int .u8 b3] 35 (0, 0)) ∧ Below W.heap.size W wr) (fun _ i _ => m - (intOf i).toNat)
    case atStart => exact ⟨0, by omega, rfl, rfl, o3, k3, j3, B3⟩
    case round =>
      clear o3 k3 j3 B3
      obtain ⟨j, hj, rfl, rfl, o, kf, ka, hb⟩ := hrel
      by_cases hlt : j < m
      · obtain ⟨g4, gn, gw⟩ := (HG.out j hj).1 hlt
        have c2 := arr_cell ka j g4
        obtain ⟨x, hx⟩ : ∃ x, (Fr.mk sn rd mem md pl).bytes[k + j]? = some x := ⟨_, List.getElem?_eq_getElem (by rw [HBL.out]; omega)⟩
        have hx256 : x < 256 := HF.out.bytes x (List.mem_of_getElem? hx)
        have hw256 : [b0, b1, b2, b3].getD j 0 < 256 := by
          rw [List.getD_eq_getElem?_getD, List.getElem?_eq_getElem (by simpa using g4)]
          exact HWS.out _ (List.getElem_mem _)
        have x0 : wr.cell? ⟨gb, k + j, none⟩ = some (.int .u8 x) := by
          rw [o.cellAt _ (by omega)]
          simp only [by8, iN, List.getElem?_map, sp_same _ _ _ _ _ (Or.inr (Nat.le_refl (k + j)))]
          rw [hx]
          rfl
        have f0 := o.frozenAt (k + j)
        have NS := Lib.hid (nought_succ [b0, b1, b2, b3] j (by simpa using g4))
        have hwj : [b0, b1, b2, b3].getD j 0 = [b0, b1, b2, b3][j]'(by simpa using g4) := by
          rw [List.getD_eq_getElem?_getD, List.getElem?_eq_getElem (by simpa using g4)]
          rfl
        rw [← hwj] at NS
        have hsp : sp (Fr.mk sn rd mem md pl).bytes k [b0, b1, b2, b3] (j + 1) = (sp (Fr.mk sn rd mem md pl).bytes k [b0, b1, b2, b3] j).set (k + j) (x ^^^ [b0, b1, b2, b3].getD j 0) := by
          rw [sp, List.getD_eq_getElem?_getD, hx]
          rfl
        have HSP := Lib.hid hsp
        generalize [b0, b1, b2, b3].getD j 0 = y at *
        have hxy := Lib.hid (u8_xor_nat x y hx256 hw256)
        have ST := Lib.hid (o.stored (k + j) (.int .u8 (bits .xor .u8 (x : Int) (y : Int)))).1
        have KF := Lib.hid ((heap_setCell_other wr ⟨gb, k + j, none⟩ W.heap.size (.int .u8 (bits .xor .u8 (x : Int) (y : Int))) (by simp; omega)).trans kf)
        have KA := Lib.hid ((heap_setCell_other wr ⟨gb, k + j, none⟩ (W.heap.size + 1) (.int .u8 (bits .xor .u8 (x : Int) (y : Int))) (by simp; omega)).trans ka)
        have HB := Lib.hid (hb.setCell (p := ⟨gb, k + j, none⟩) (by show W.heap.size ≤ gb; omega) (.int .u8 (bits .xor .u8 (x : Int) (y : Int))))
        have C3 := Lib.hid ((World.cell?_of_block (w := wr) (a := ⟨W.heap.size + 1, j, none⟩) (heap_setCell_other wr ⟨gb, k + j, none⟩ (W.heap.size + 1) (.int .u8 (bits .xor .u8 (x : Int) (y : Int))) (by simp; omega))).trans c2)
        generalize nought [b0, b1, b2, b3] j = sj at *
        clear hwj hsp hx o kf ka hb
        rcases gw with g9 | g9
        all_goals
          go_wp2_with fail
          go_region
          generalize wr.setCell ⟨gb, k + j, none⟩ (.int .u8 (bits .xor .u8 (x : Int) (y : Int))) = w5 at *
          have c3 := C3.out
          cases sj
          all_goals
            go_wp2_with fail
            go_roundw
            case rel =>
              refine ⟨j + 1, by omega, by go_num, by rw [NS.out]; simp [beq_cast0], ?_, KF.out, KA.out, bdraw HB.out 1⟩
              have h := ST.out
              rw [hxy.out] at h
              have e : (by8 (iN (sp (Fr.mk sn rd mem md pl).bytes k [b0, b1, b2, b3] j))).set (k + j) (.int .u8 ((x ^^^ y : Nat) : Int)) = by8 (iN (sp (Fr.mk sn rd mem md pl).bytes k [b0, b1, b2, b3] (j + 1))) := by
                rw [HSP.out]
                simp only [by8, iN, List.map_set]
              rw [e] at h
              exact h
            case measure => simp [intOf]; omega
      · obtain rfl : j = m := by omega
        have hng : ¬ (j < 4 ∧ k + j < 13 + pl.length ∧ (9 + pl.length ≤ k ∨ k + j < 9 + pl.length)) := fun h => hlt ((HG.out j (Nat.le_refl _)).2 h)
        have key : ¬ j < 4 ∨ (j < 4 ∧ ¬ k + j < 13 + pl.length) ∨ (j < 4 ∧ k + j < 13 + pl.length ∧ ¬ 9 + pl.length ≤ k ∧ ¬ k + j < 9 + pl.length) := by omega
        have hsl := sp_len (Fr.mk sn rd mem md pl).bytes k [b0, b1, b2, b3] j
        rw [HBL.out] at hsl
        have HSL := Lib.hid hsl
        have KF := Lib.hid kf
        clear hng hsl ka kf HG
        cases hn : nought [b0, b1, b2, b3] j
        · have he := err_sp HF.out k [b0, b1, b2, b3] j HWS.out hm4 hkm hwin hn
          have r := own_rd o
          have G := fun q h0 h => bad3 (sp (Fr.mk sn rd mem md pl).bytes k [b0, b1, b2, b3] j) q (sp_lt _ _ _ _ HF.out.bytes HWS.out) (.slice (some ⟨gb, 0, none⟩) (13 + pl.length) cb) wr r (by rw [HSL.out]; omega) h h0
          clear o r hn hwin
          have G2 : (Calls Try.prog 11 #[.slice (some ⟨gb, 0, none⟩) (13 + pl.length) cb] wr fun e w' => e = .returned (.tuple #[.agg #[.int .i64 0, .int .u32 0, .int .u8 0, .int .u16 0, .slice none 0 0], .int .i64 4]) ∧ Below wr.heap.size wr w') ∨
              (Calls Try.prog 11 #[.slice (some ⟨gb, 0, none⟩) (13 + pl.length) cb] wr fun e w' => e = .returned (.tuple #[.agg #[.int .i64 0, .int .u32 0, .int .u8 0, .int .u16 0, .slice none 0 0], .int .i64 5]) ∧ Below wr.heap.size wr w') := by
            rcases he with he | he
            · exact .inl (G 4 (by decide) he)
            · exact .inr (G 5 (by decide) he)
          clear G he
          rcases G2 with G2 | G2 <;> rcases key with q1 | ⟨q1, q2⟩ | ⟨q1, q2, q3, q4⟩
          all_goals
            have HG2 := Lib.hid G2
            clear G2
            go_wp2_with fail
            refine Calls.mono HG2.out ?_
            rintro e w6 ⟨rfl, b6⟩
            go_wp2_with fail
            go_ret
            exact ⟨rfl, balloc (bnext hb b6) _⟩
        · rw [sp_nought hn] at o
          have HG2 := Lib.hid (get3 sn rd mem md pl HF.out _ wr (own_rd o))
          clear o hn hwin
          rcases key with q1 | ⟨q1, q2⟩ | ⟨q1, q2, q3, q4⟩
          all_goals
            go_wp2_with fail
            refine Calls.mono HG2.out ?_
            rintro e w6 ⟨a6, c6, rfl, o6, b6⟩
            have X6 := balloc b6 (.cells #[.int .i64 sn, .int .u32 rd, .int .u8 mem, .int .u16 md, .slice a6 pl.length c6] 26 (0, 0))
            obtain ⟨y0, y1, y2, y3, y4⟩ := frame_cells ((X6.block _ (lt_of_block KF.out)).trans KF.out)
            have p6 := (own_rd o6).below (balloc (Below.refl _ _) (.cells #[.int .i64 sn, .int .u32 rd, .int .u8 mem, .int .u16 md, .slice a6 pl.length c6] 26 (0, 0)))
            have B6 := bnext hb X6
            clear o6
            go_wp2_with fail
            refine (same3 sn rd mem md pl _ _ _ p6 (HR.out.below B6)).mono ?_
            rintro e w7 ⟨rfl, b7⟩
            go_wp2_with fail
            go_ret
            exact ⟨rfl, bnext B6 b7⟩
  · have key : decide (4095 < (pl.length : Int)) = true ∨ (decide (4095 < (pl.length : Int)) = false ∧ decide (st < 1) = true) ∨ (decide (4095 < (pl.length : Int)) = false ∧ decide (st < 1) = false ∧ decide (8 < st) = true) := by
      simp only [decide_eq_true_eq, decide_eq_false_iff_not]
      omega
    clear hok
    unfold frV
    rcases key with q1 | ⟨q1, q2⟩ | ⟨q1, q2, q3⟩
    all_goals
      go_enter Try.func4, Try.ntmps4
      go_wp2_with fail
      refine (alive3_any _).mono ?_
      rintro e w2 ⟨rfl, b2'⟩
      obtain ⟨y0, y1, y2, y3, y4⟩ := frame_cells ((b2'.block _ (lt_of_block k1)).trans k1)
      clear k1 j1
      go_wp2_with fail
      refine (alive3_any _).mono ?_
      rintro e w3 ⟨rfl, b3'⟩
      go_wp2_with fail
      go_ret
      exact ⟨rfl, bnext (bnext X1 b2') b3'⟩
end Go.Proofs.Ytckpeclkkmapiaa
