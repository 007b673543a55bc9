/-
  The walk of CrcSpoils: up to four bytes that stand side by side, changed in any way, change the sum.
-/
import Derived.Test.YtlpfkpjojjnbgaaOpenB
import Derived.Test.YtlpfkpjojjnbgaaCells
import Derived.Test.YtlpfkpjojjnbgaaMix2
import Derived.Test.YtlpfkpjojjnbgaaCrc
import Derived.Test.YtlpfkpjojjnbgaaAlive1
import Derived.Test.YtlpfkpjojjnbgaaTwinB
import Derived.Test.YtlpfkpjojjnbgaaQuiet
import Derived.RegionTactic
import Derived.BigRegion
import Derived.BigQuiet
namespace Go.Proofs.Ytlpfkpjojjnbgaa
open Go.RowKit
open Go

set_option maxHeartbeats 1000000 in
theorem walk_CrcSpoils (v0 v1 v2 : Value) (W : World) (A0 : Arg Try.prog 22 W v0) (A1 : Arg Try.prog 32 W v1) (A2 : Arg Try.prog 33 W v2) :
    Calls Try.prog 5 #[v0, v1, v2] W fun e w' => e = .returned (.bool true) ∧ Below W.heap.size W w' := by
  obtain ⟨cs, hR, hB, hL⟩ := A0.bytes
  obtain ⟨ar, rfl⟩ := A1.array Try.underlying32
  obtain ⟨zs, hz, hzl, hzw⟩ := A1.cells.arrNums Try.underlying32 Try.underlying5 (by kernel_rfl) (by kernel_rfl)
  obtain ⟨b0, b1, b2, b3, rfl⟩ := list4 hzl
  obtain rfl : ar = #[.int .u8 b0, .int .u8 b1, .int .u8 b2, .int .u8 b3] := by
    apply Array.ext'
    simpa [Value.cells] using hz
  have hE : IsB [b0, b1, b2, b3] := fun c hc => bounds_u8 (hzw c hc)
  obtain ⟨at_, rfl, wat⟩ := A2.int Try.underlying33
  obtain ⟨hat0, hat1⟩ := bounds_u16 wat
  clear A0 A1 A2 wat hz hzl hzw
  obtain ⟨a, c, rfl, hac, hcm⟩ := hR.shape
  by_cases hbig : (1048576 : Int) < cs.length
  · have e1 : decide (1048576 < sumI [(cs.length : Int)]) = true := by rw [sumI_one]; simpa using hbig
    go_enter Try.func5, Try.ntmps5
    go_wp2_with fail
    refine (alive1_any _).mono ?_
    rintro e w1 ⟨rfl, b1'⟩
    have B1 := bnext (balloc (Below.refl W.heap.size W) _) b1'
    go_wp2_with fail
    refine (beyond_any _ [(cs.length : Int)] _ (rd_new w1 (ints [(cs.length : Int)]) 3 1 1 (0, 0) rfl (by decide) (by decide)) (by simp; omega)).mono ?_
    rw [e1]
    rintro e w2 ⟨rfl, rfl⟩
    have B2 := balloc B1 (.cells (ints [(cs.length : Int)]).toArray 3)
    go_wp2_with fail
    refine (alive1_any _).mono ?_
    rintro e w3 ⟨rfl, B3⟩
    go_wp2_with fail
    go_ret
    exact ⟨rfl, bnext B2 B3⟩
  · have e1 : decide (1048576 < sumI [(cs.length : Int)]) = false := by rw [sumI_one]; simpa using hbig
    by_cases hnil : cs = []
    · subst hnil
      go_enter Try.func5, Try.ntmps5
      go_wp2_with fail
      refine (alive1_any _).mono ?_
      rintro e w1 ⟨rfl, b1'⟩
      have B1 := bnext (balloc (Below.refl W.heap.size W) _) b1'
      go_wp2_with fail
      refine (beyond_any _ [0] _ (rd_new w1 (ints [0]) 3 1 1 (0, 0) rfl (by decide) (by decide)) (by simp)).mono ?_
      rw [show decide (1048576 < sumI [0]) = false from by decide]
      rintro e w2 ⟨rfl, rfl⟩
      have B2 := balloc B1 (.cells (ints [0]).toArray 3)
      go_wp2_with fail
      refine (alive1_any _).mono ?_
      rintro e w3 ⟨rfl, B3⟩
      go_wp2_with fail
      go_ret
      exact ⟨rfl, bnext B2 B3⟩
    · have hpos : 0 < cs.length := List.length_pos_iff.2 hnil
      obtain ⟨k, hk⟩ : ∃ k : Nat, at_ % (cs.length : Int) = (k : Int) := ⟨(at_ % (cs.length : Int)).toNat, by have := Int.emod_nonneg at_ (b := (cs.length : Int)) (by omega); omega⟩
      have hkn : k < cs.length := by have := Int.emod_lt_of_pos at_ (b := (cs.length : Int)) (by omega); omega
      obtain ⟨m, hm⟩ : ∃ m : Nat, m = min 4 (cs.length - k) := ⟨_, rfl⟩
      have hm4 : m ≤ 4 := by omega
      have hmn : k + m ≤ cs.length := by omega
      have hmx : m = 4 ∨ k + m = cs.length := by omega
      obtain ⟨w, hw⟩ : ∃ w, w = [b0, b1, b2, b3].take m := ⟨_, rfl⟩
      have hwl : w.length = m := by rw [hw, List.length_take]; simp; omega
      have hwB : IsB w := by rw [hw]; exact hE.take m
      have hzero : ((cs.length : Int) == 0) = false := by simp; omega
      have HW := Lib.hid hw
      have HWL := Lib.hid hwl
      clear hw hwl hm hnil
      go_enter Try.func5, Try.ntmps5
      go_wp2_with fail
      refine (alive1_any _).mono ?_
      rintro e w1 ⟨rfl, b1'⟩
      have HA := Lib.hid ((b1'.block W.heap.size (by simp)).trans (heap_alloc_new W _))
      have B1 := bnext (balloc (Below.refl W.heap.size W) _) b1'
      have hW1 : W.heap.size < w1.heap.size := by have := b1'.size; simp at this; omega
      clear b1'
      go_wp2_with fail
      refine (beyond_any _ [(cs.length : Int)] _ (rd_new w1 (ints [(cs.length : Int)]) 3 1 1 (0, 0) rfl (by decide) (by decide)) (by simp; omega)).mono ?_
      rw [e1]
      rintro e w2 ⟨rfl, rfl⟩
      have B2 := balloc B1 (.cells (ints [(cs.length : Int)]).toArray 3)
      have HA2 := Lib.hid ((Below.heap_alloc w1 (.cells (ints [(cs.length : Int)]).toArray 3) _ hW1).trans HA.out)
      go_wp2_with fail
      refine (twinB_any _ cs _ (hR.below B2) hL).mono ?_
      rintro e w3 ⟨v', rfl, b3', T3⟩
      have B3 := bnext B2 b3'
      have HA3 := Lib.hid ((b3'.block W.heap.size (by simp; omega)).trans HA2.out)
      have hg1 : W.heap.size < (w1.alloc (.cells (ints [(cs.length : Int)]).toArray 3)).heap.size := by simp; omega
      generalize (w1.alloc (.cells (ints [(cs.length : Int)]).toArray 3)).heap.size = g at *
      obtain ⟨rfl, T3⟩ := T3
      clear b3' B2 B1 HA HA2
      have hhB := HA3.out
      clear HA3 e1 hzero
      obtain ⟨E, hEdef⟩ : ∃ E, E = win cs.length k w := ⟨_, rfl⟩
      have hEl : E.length = cs.length := by rw [hEdef]; exact win_len _ _ _ (by rw [HWL.out]; exact hmn)
      have hst : mixk k cs E = cs := by rw [hEdef]; exact mixk_start cs _ k w rfl (by rw [HWL.out]; exact hmn) hB
      have hEat : ∀ j (h : j < m), E[k + j]? = some ([b0, b1, b2, b3][j]'(by simp; omega)) := by
        intro j h
        have h1 := win_at cs.length k j w (by rw [HWL.out]; exact h)
        rw [← hEdef] at h1
        rw [h1]
        have := HW.out
        subst this
        simp
      have hfin := spoils_fin cs w cs.length k rfl (by rw [HWL.out]; exact hmn) (by rw [HWL.out]; exact hm4) hB hwB
      have hend := mixk_end cs cs.length k w rfl (by rw [HWL.out]; exact hmn) hB
      rw [← hEdef] at hfin hend
      rw [HWL.out] at hfin hend
      have hnw : noughts w m = noughts [b0, b1, b2, b3] m := by
        have := HW.out
        subst this
        simp [noughts, List.take_take]
      rw [hnw] at hfin
      have HE := Lib.hid hEl
      have HF := Lib.hid hfin
      have HN := Lib.hid hend
      have HEA := Lib.hid hEat
      clear hEdef hEl hfin hend hnw hEat
      go_wp2_with fail
      rw [hk]
      clear hk hat0 hat1
      go_loopw [9, 10] (fun s i wr => ∃ j : Nat, j ≤ m ∧ i = .int .i64 j ∧ s = .bool (noughts [b0, b1, b2, b3] j) ∧ wr.heap[g]? = some (.cells (mixC (k + j) cs E) 5 (0, 0)) ∧ wr.heap[W.heap.size]? = some (.cells #[.int .u8 b0, .int .u8 b1, .int .u8 b2, .int .u8 b3] 32 (0, 0)) ∧ Below W.heap.size W wr) (fun _ i _ => m - (intOf i).toNat)
      case atStart => exact ⟨0, by omega, rfl, rfl, by rw [T3]; unfold mixC; rw [Nat.add_zero, hst], hhB, B3⟩
      case round =>
        obtain ⟨j, hj, rfl, rfl, h1, h2, hb⟩ := hrel
        clear T3 hhB hst
        by_cases hlt : j < m
        · have hl4 : j < 4 := by omega
          have hkj : k + j < cs.length := by omega
          have hEl : k + j < E.length := by have := HE.out; omega
          have c1 := (cell_of_row wr g (k + j) _ _ _ h1).trans (mixC_at (k + j) cs E HE.out.symm hkj)
          have c2 : wr.cell? ⟨W.heap.size, j, none⟩ = some (.int .u8 ([b0, b1, b2, b3][j]'(by simp; omega))) := by
            rw [cell_of_row wr W.heap.size j _ _ _ h2]
            match j, hl4 with
            | 0, _ => rfl
            | 1, _ => rfl
            | 2, _ => rfl
            | 3, _ => rfl
          have f1 := frozen_of_row wr g (k + j) _ _ h1
          have eE : E[k + j] = [b0, b1, b2, b3][j]'(by simp; omega) := (List.getElem?_eq_some_iff.1 (HEA.out j hlt)).2
          have s1 : (wr.setCell ⟨g, k + j, none⟩ (.int .u8 (bits .xor .u8 cs[k + j] ([b0, b1, b2, b3][j]'(by simp; omega))))).heap[g]? = some (.cells (mixC (k + (j + 1)) cs E) 5 (0, 0)) := by
            rw [heap_setCell_same wr g (k + j) _ _ _ h1, ← eE, mixC_set (k + j) cs E HE.out.symm hkj]
            rfl
          have s2 : (wr.setCell ⟨g, k + j, none⟩ (.int .u8 (bits .xor .u8 cs[k + j] ([b0, b1, b2, b3][j]'(by simp; omega))))).heap[W.heap.size]? = some (.cells #[.int .u8 b0, .int .u8 b1, .int .u8 b2, .int .u8 b3] 32 (0, 0)) := (heap_setCell_other wr ⟨g, k + j, none⟩ W.heap.size _ (by simp; omega)).trans h2
          have c2' : (wr.setCell ⟨g, k + j, none⟩ (.int .u8 (bits .xor .u8 cs[k + j] ([b0, b1, b2, b3][j]'(by simp; omega))))).cell? ⟨W.heap.size, j, none⟩ = some (.int .u8 ([b0, b1, b2, b3][j]'(by simp; omega))) := by
            rw [World.cell?_of_block (w := wr) (heap_setCell_other wr ⟨g, k + j, none⟩ W.heap.size _ (by simp; omega))]
            exact c2
          have hb' := hb.setCell (p := ⟨g, k + j, none⟩) (Nat.le_of_lt hg1) (.int .u8 (bits .xor .u8 cs[k + j] ([b0, b1, b2, b3][j]'(by simp; omega))))
          have NS := Lib.hid (noughts_succ [b0, b1, b2, b3] j (by simp; omega))
          have S1 := Lib.hid s1
          have S2 := Lib.hid s2
          have C2 := Lib.hid c2'
          have hx : 0 ≤ [b0, b1, b2, b3][j]'(by simp; omega) := (hE.at (by simp; omega)).1
          generalize hbj : [b0, b1, b2, b3][j]'(by simp; omega) = bj at *
          generalize noughts [b0, b1, b2, b3] j = sj at *
          clear hbj h1 h2 s1 s2 c2' eE
          go_wp2_with fail
          go_region
          generalize wr.setCell ⟨g, k + j, none⟩ (.int .u8 (bits .xor .u8 cs[k + j] bj)) = w5 at *
          have c3 := C2.out
          cases sj
          all_goals
            go_wp2_with fail
            go_roundw
            case rel => exact ⟨j + 1, by omega, by go_num, by rw [NS.out]; simp, S1.out, S2.out, bdraw hb' 1⟩
            case measure => simp [intOf]; omega
        · obtain rfl : j = m := by omega
          have hml := mixI_len cs E HE.out.symm
          have R1 : Rd wr (.slice (some ⟨g, 0, none⟩) cs.length (cs.length + 1)) (by8 (mixI cs E)) := by
            refine rd_block _ _ _ h1 (by simp [hml]) (fun i x hi => ?_) (by omega) (by simp only [maxLen]; omega)
            have hik : i < (by8 (mixI cs E)).length := (List.getElem?_eq_some_iff.1 hi).1
            unfold mixC
            rw [HN.out, List.getElem?_toArray, by8_append, List.getElem?_append_left hik]
            exact hi
          have hF := HF.out
          clear h1 h2 hml HEA
          rcases hmx with h4 | hn
          · subst h4
            go_wp2_with fail
            refine (of_any _ _ _ R1).mono ?_
            rintro e w6 ⟨rfl, b6⟩
            have B6 := bnext hb b6
            go_wp2_with fail
            refine (of_any _ _ _ (hR.below B6)).mono ?_
            rintro e w7 ⟨rfl, b7⟩
            have B7 := bnext B6 b7
            go_wp2_with fail
            go_ret
            exact ⟨rfl, B7⟩
          · by_cases hd : (j : Int) < 4
            all_goals
              go_wp2_with fail
              refine (of_any _ _ _ R1).mono ?_
              rintro e w6 ⟨rfl, b6⟩
              have B6 := bnext hb b6
              go_wp2_with fail
              refine (of_any _ _ _ (hR.below B6)).mono ?_
              rintro e w7 ⟨rfl, b7⟩
              have B7 := bnext B6 b7
              go_wp2_with fail
              go_ret
              exact ⟨rfl, B7⟩
end Go.Proofs.Ytlpfkpjojjnbgaa
