/-
  The walk of FramesBack: what was put is got; of fewer bytes none is, nor of more.
-/
import Derived.Test.YtckpeclkkmapiaaFrmUse
namespace Go.Proofs.Ytckpeclkkmapiaa
open Go.RowKit
open Go

set_option maxRecDepth 20000 in
set_option maxHeartbeats 4000000 in
theorem walk_FramesBack (v0 v1 : Value) (W : World) (A0 : Arg Try.prog 26 W v0) (A1 : Arg Try.prog 23 W v1) :
    Calls Try.prog 3 #[v0, v1] W fun e w' => e = .returned (.bool true) ∧ Below W.heap.size W w' := by
  obtain ⟨st, rd, mem, md, v, pl, rfl, hR, hpl, hplm, hst, hrd, hmem, hmd⟩ := A0.frame
  obtain ⟨cut, rfl, wc⟩ := A1.int Try.underlying23
  obtain ⟨hc0, hc1⟩ := bounds_u16 wc
  clear A0 A1 wc
  have HR := Lib.hid hR
  obtain ⟨a, c, rfl, hac, hcm, _, _⟩ := hR
  have hl : (by8 (iN pl)).length = pl.length := by simp
  rw [hl] at hac HR ⊢
  unfold maxLen at hcm
  clear hl
  have X1 : Below W.heap.size W (W.alloc (.cells #[.int .i64 st, .int .u32 rd, .int .u8 mem, .int .u16 md, .slice a pl.length c] 26 (0, 0))) := balloc (Below.refl _ _) _
  have k1 := heap_alloc_new W (.cells #[.int .i64 st, .int .u32 rd, .int .u8 mem, .int .u16 md, .slice a pl.length c] 26 (0, 0))
  by_cases hbig : 100000 < pl.length
  · unfold frV
    go_enter Try.func3, Try.ntmps3
    go_wp2_with fail
    refine (alive3_any _).mono ?_
    rintro e w2 ⟨rfl, b2⟩
    obtain ⟨y0, y1, y2, y3, y4⟩ := frame_cells ((b2.block _ (lt_of_block k1)).trans k1)
    clear k1
    go_wp2_with fail
    refine (alive3_any _).mono ?_
    rintro e w3 ⟨rfl, b3⟩
    go_wp2_with fail
    go_ret
    exact ⟨rfl, bnext (bnext X1 b2) b3⟩
  · by_cases hok : 1 ≤ st ∧ st ≤ 8 ∧ pl.length ≤ 4095
    · obtain ⟨sn, rfl, hF⟩ := fr_mk hok hrd hmem hmd hpl
      have HF := Lib.hid hF
      have hbl := (Fr.mk sn rd mem md pl).bytes_len
      have HBL := Lib.hid hbl
      have hsh : ∀ k, k < 13 + pl.length → errOf ((Fr.mk sn rd mem md pl).bytes.take k) = 4 := fun k hk => err_short hF k (by rw [hbl]; exact hk)
      have HSH := Lib.hid hsh
      clear hok hF hpl hbl hsh
      unfold frV
      go_enter Try.func3, Try.ntmps3
      go_wp2_with fail
      refine (alive3_any _).mono ?_
      rintro e w2 ⟨rfl, b2⟩
      have k2 := (b2.block _ (lt_of_block k1)).trans k1
      obtain ⟨y0, y1, y2, y3, y4⟩ := frame_cells k2
      have B2 := bnext X1 b2
      clear k1 b2 X1
      go_wp2_with fail
      refine (put3 sn rd mem md pl HF.out a c w2 (HR.out.below B2)).mono ?_
      rintro e w3 ⟨gb, cb, rfl, o3, b3, hcb, hcb2, hg1, hg2⟩
      have k3 := (b3.block _ (lt_of_block k2)).trans k2
      have hlt2 := lt_of_block k2
      have B3 := bnext B2 b3
      clear k2 b3 B2 y0 y1 y2 y3 y4
      obtain ⟨y0, y1, y2, y3, y4⟩ := frame_cells k3
      go_wp2_with fail
      refine (get3 sn rd mem md pl HF.out _ w3 (own_rd o3)).mono ?_
      rintro e w4 ⟨a4, c4, rfl, o4, b4⟩
      obtain ⟨k, hk⟩ : ∃ k : Nat, cut % (13 + (pl.length : Int)) = (k : Int) := ⟨(cut % (13 + (pl.length : Int))).toNat, by have := Int.emod_nonneg cut (b := 13 + (pl.length : Int)) (by omega); omega⟩
      have hkn : k < 13 + pl.length := by have := Int.emod_lt_of_pos cut (b := 13 + (pl.length : Int)) (by omega); omega
      have hz : ((13 : Int) + pl.length == 0) = false := by simp; omega
      go_wp2_with fail
      clear hz hk y0 y1 y2 y3 y4
      have X5 := balloc b4 (.cells #[.int .i64 sn, .int .u32 rd, .int .u8 mem, .int .u16 md, .slice a4 pl.length c4] 26 (0, 0))
      have k7 := heap_alloc_new w4 (.cells #[.int .i64 sn, .int .u32 rd, .int .u8 mem, .int .u16 md, .slice a4 pl.length c4] 26 (0, 0))
      have o5 := own_grown (o4.alloc (.cells #[.int .i64 sn, .int .u32 rd, .int .u8 mem, .int .u16 md, .slice a4 pl.length c4] 26 (0, 0))) (World.grownBy.refl _ none) (fun g hg => Nat.lt_of_lt_of_le (own_lt o4 g hg) (by simp)) (fun _ _ => by simp)
      have h45 : w4.heap.size < (w4.alloc (.cells #[.int .i64 sn, .int .u32 rd, .int .u8 mem, .int .u16 md, .slice a4 pl.length c4] 26 (0, 0))).heap.size := by simp
      have h34 := b4.size
      clear b4 o4
      generalize hw5 : w4.alloc _ = w5 at *
      generalize w4.heap.size = g7 at *
      clear hw5
      have k5 := (X5.block _ (lt_of_block k3)).trans k3
      have q3 := ownsRow_kept (w' := w5) o3 (fun g hg => X5.block g (own_lt o3 g hg))
      have B5 := bnext B3 X5
      have rk := cut_h (own_rd q3) k (by omega)
      rw [← List.map_take, ← List.map_take] at rk
      refine (bad3 ((Fr.mk sn rd mem md pl).bytes.take k) 4 (HF.out.bytes.take k) _ w5 rk (by rw [List.length_take, HBL.out]; omega) (HSH.out k hkn) (by decide)).mono ?_
      rintro e w6 ⟨rfl, b6⟩
      have X7 := balloc b6 (.cells #[.int .i64 0, .int .u32 0, .int .u8 0, .int .u16 0, .slice none 0 0] 26 (0, 0))
      obtain ⟨i0, hi, hz0, hz1, hz2⟩ := info_parts info5
      have m0 := Int.emod_nonneg cut (b := 256) (by decide)
      have m1 := Int.emod_lt_of_pos cut (b := 256) (by decide)
      have k7b := (X7.block _ (lt_of_block k7)).trans k7
      have k5b := (X7.block _ (lt_of_block k5)).trans k5
      have q7 := ownsRow_kept (w' := w6.alloc (.cells #[.int .i64 0, .int .u32 0, .int .u8 0, .int .u16 0, .slice none 0 0] 26 (0, 0))) q3 (fun g hg => X7.block g (own_lt q3 g hg))
      have o7 := ownsRow_kept (w' := w6.alloc (.cells #[.int .i64 0, .int .u32 0, .int .u8 0, .int .u16 0, .slice none 0 0] 26 (0, 0))) o5 (fun g hg => X7.block g (own_lt o5 g hg))
      have B7 := bnext B5 X7
      have h56 := b6.size
      go_wp2_with (at_builtin; refine wpList_append_own_at _ rfl _ _ 24 rfl w2.heap.size 5 i0 (.int .u8 0) 1 1 Try.underlying24 hi hz0 hz1 hz2 rfl (by decide) (.slice (some ⟨gb, 0, none⟩) (13 + pl.length) cb) _ _ rfl (q7.alloc _) ⟨w6.heap.size + 1, 0, none⟩ 1 1 [.int .u8 (cut % 256)] rfl rfl (cell_one_new2 _ _ _ _) (oc1 _ _) (by unfold maxLen; omega) (by omega) (by simp; omega) ?_; intro v8 w8 o8 g8 n8 s8)
      have b8 : Below W.heap.size W w8 := (balloc B7 _).grown g8 (by have := B7.size; simp at this ⊢; omega) (fun k hk => by simp only [Value.ownBlock, Option.some.injEq] at hk; omega)
      have k58 := (g8.block W.heap.size (by simp; omega) (by simp [Value.ownBlock]; omega)).trans ((heap_alloc_old _ _ (lt_of_block k5b)).trans k5b)
      have k78 := (g8.block g7 (by simp; omega) (by simp [Value.ownBlock]; omega)).trans ((heap_alloc_old _ _ (lt_of_block k7b)).trans k7b)
      have p8 := own_grown (o7.alloc _) g8 (fun g hg => Nat.lt_of_lt_of_le (own_lt o7 g hg) (by simp)) (fun g hg h => by
        have h1 := own_ge o7 g hg
        simp only [Value.ownBlock, Option.some.injEq] at h
        omega)
      have r8 := own_rd o8
      clear o8 g8 n8 s8 q7 o7 k7b k5b q3 o5 k5 k7 rk
      obtain ⟨x, hx⟩ : ∃ x : Nat, cut % 256 = (x : Int) := ⟨(cut % 256).toNat, by omega⟩
      have hx256 : x < 256 := by omega
      have e8 : by8 (iN (Fr.mk sn rd mem md pl).bytes) ++ [Value.int .u8 (cut % 256)] = by8 (iN ((Fr.mk sn rd mem md pl).bytes ++ [x])) := by simp [hx]
      rw [e8] at r8
      clear e8 hx m0 m1
      refine (bad3 ((Fr.mk sn rd mem md pl).bytes ++ [x]) 5 (HF.out.bytes.app (by simpa [NB] using hx256)) _ w8 r8 (by rw [List.length_append, HBL.out]; simp; omega) (err_more HF.out x) (by decide)).mono ?_
      rintro e w9 ⟨rfl, b9⟩
      clear r8
      have X9 := balloc b9 (.cells #[.int .i64 0, .int .u32 0, .int .u8 0, .int .u16 0, .slice none 0 0] 26 (0, 0))
      have k59 := (X9.block _ (lt_of_block k58)).trans k58
      have k79 := (X9.block _ (lt_of_block k78)).trans k78
      have p9 := (own_rd p8).below X9
      have B9 := bnext b8 X9
      obtain ⟨y0, y1, y2, y3, y4⟩ := frame_cells k59
      obtain ⟨z0, z1, z2, z3, z4⟩ := frame_cells k79
      clear k58 k78 p8 b8 X9 k59 k79
      go_wp2_with fail
      refine (same3 sn rd mem md pl _ _ _ p9 (HR.out.below B9)).mono ?_
      rintro e w11 ⟨rfl, b11⟩
      go_wp2_with fail
      go_ret
      exact ⟨rfl, bnext B9 b11⟩
    · have HP := Lib.hid (fun w => put_none st rd mem md a pl.length c w (by omega) hok)
      have key : decide (st < 1) = true ∨ (decide (st < 1) = false ∧ decide (8 < st) = true) ∨ (decide (st < 1) = false ∧ decide (8 < st) = false ∧ decide (4095 < (pl.length : Int)) = true) := by
        simp only [decide_eq_true_eq, decide_eq_false_iff_not]
        omega
      clear hok
      unfold frV at *
      rcases key with q1 | ⟨q1, q2⟩ | ⟨q1, q2, q3⟩
      all_goals
        go_enter Try.func3, Try.ntmps3
        go_wp2_with fail
        refine (alive3_any _).mono ?_
        rintro e w2 ⟨rfl, b2⟩
        have k2 := (b2.block _ (lt_of_block k1)).trans k1
        obtain ⟨y0, y1, y2, y3, y4⟩ := frame_cells k2
        go_wp2_with fail
        refine (HP.out _).mono ?_
        rintro e w3 ⟨rfl, b3⟩
        obtain ⟨z0, z1, z2, z3, z4⟩ := frame_cells ((b3.block _ (lt_of_block k2)).trans k2)
        clear k2 k1 y0 y1 y2 y3 y4
        go_wp2_with fail
        go_ret
        exact ⟨rfl, bnext (bnext X1 b2) b3⟩
end Go.Proofs.Ytckpeclkkmapiaa
