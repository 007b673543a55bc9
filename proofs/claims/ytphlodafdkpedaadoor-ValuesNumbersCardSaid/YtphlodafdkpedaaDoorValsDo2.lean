/-
  values.Do: values that may be.
-/
import Derived.Test.YtphlodafdkpedaaDoorValsDo
namespace Go.Proofs.YtphlodafdkpedaaDoor
open Go.RowKit
open Go

theorem deedM_m {o m t : Int} (h : deedM o = some (m, t)) : (m = 1 ∨ m = 2) ∧ 0 ≤ t := by
  unfold deedM at h
  obtain ⟨e, he, h2⟩ := Option.map_eq_some_iff.1 h
  have hm := List.mem_of_find?_eq_some he
  have hall : ∀ e ∈ deedT, (e.2.1 = 1 ∨ e.2.1 = 2) ∧ 0 ≤ e.2.2 := by decide
  have := hall e hm
  rw [h2] at this
  exact this
theorem list2V {l : List VT} (h : l.length = 2) : ∃ a b, l = [a, b] := by
  match l, h with
  | [a, b], _ => exact ⟨a, b, rfl⟩
theorem list1V {l : List VT} (h : l.length = 1) : ∃ a, l = [a] := by
  match l, h with
  | [a], _ => exact ⟨a, rfl⟩
theorem pair_of {w : World} {a : Option Addr} {n c : Nat} {va vb : VT} (h : RdN 2 w (.slice a n c) ([va, vb].map rowV)) : ∃ bq oq, a = some ⟨bq, oq, none⟩ ∧ Pair w bq oq va vb := by
  obtain ⟨b, o, rfl, h0⟩ := h.get 0 (by simp)
  obtain ⟨b', o', e, h1⟩ := h.get 1 (by simp)
  cases e
  exact ⟨b, o, rfl, by simpa using h0 0 _ rfl, by simpa using h0 1 _ rfl, by simpa using h1 0 _ rfl, by simpa using h1 1 _ rfl⟩
theorem one_of {w : World} {a : Option Addr} {n c : Nat} {va : VT} (h : RdN 2 w (.slice a n c) ([va].map rowV)) : ∃ bq oq, a = some ⟨bq, oq, none⟩ ∧ w.cell? ⟨bq, oq, none⟩ = some (.int .u8 va.1) ∧ w.cell? ⟨bq, oq + 1, none⟩ = some (.int .i64 va.2) := by
  obtain ⟨b, o, rfl, h0⟩ := h.get 0 (by simp)
  exact ⟨b, o, rfl, by simpa using h0 0 _ rfl, by simpa using h0 1 _ rfl⟩
set_option maxHeartbeats 4000000 in
theorem do_good (o m t : Int) (v : Value) (l : List VT) (w : World) (hR : RdN 2 w v (l.map rowV)) (h17 : o ≠ 17) (hn : deedM o = some (m, t)) (hlen : (l.length : Int) = m) (hbad : (l.any fun p => !chkV p) = false) :
    Calls Tryd.prog 18 #[.int .u8 o, v] w fun e w' => e = .returned (.tuple #[aggV (doK o m t l).1, .int .i64 (doK o m t l).2]) ∧ Below w.heap.size w w' := by
  obtain ⟨hm12, ht0⟩ := deedM_m hn
  obtain ⟨a, c, rfl, hc, hm⟩ := hR.shape
  rw [List.length_map] at *
  unfold maxLen at hm
  have e17 : (o == 17) = false := by simpa using h17
  have A0 : Hid (ResB w.heap.size (w.alloc (.cells #[.int .u8 0, .int .i64 0] 24 (0, 0)))) := heap_alloc_new _ _
  have B1 := balloc (Below.refl w.heap.size w) (.cells #[.int .u8 0, .int .i64 0] 24 (0, 0))
  have D := Lib.hid (fun w => deeds_any w)
  have HN := Lib.hid hn
  have HR := Lib.hid hR
  have S1 := Lib.hid (fun w h => some1_any (.slice a l.length c) l w h)
  rw [hbad] at S1
  have DK : Hid (doK o m t l = if (l.any fun p => p.1 != (if t = 0 then (l.getD 0 (0, 0)).1 else t)) = true then ((0, 0), 7) else (semD o (l.getD 0 (0, 0)) (lastV l), 0)) := by
    unfold Hid doK
    rw [if_neg (by rw [hbad]; simp [hlen])]
  have hlen' : ((l.length : Int) != m) = false := by simpa using hlen
  have HLN := Lib.hid hlen
  have hpos : 0 < l.length := by omega
  clear hR h17 hn hbad hm12 hlen
  go_enter Tryd.func18, Tryd.ntmps18
  go_wp2_with fail
  refine (D.out _).mono ?_
  rintro e w2 ⟨L, rfl, hL, M⟩
  rcases look_deed o w w2 L hL M with ⟨hs, _⟩ | ⟨m', t', N, cap, hs, hk, look⟩
  · rw [HN.out] at hs
    cases hs
  · rw [HN.out] at hs
    simp only [Option.some.injEq, Prod.mk.injEq] at hs
    obtain ⟨rfl, rfl⟩ := hs
    have B2 := bnext B1 M.bel
    have A2 := Lib.hid (A0.out.below M.bel)
    have HK2 := Lib.hid hk
    obtain ⟨hz, c0, c1, f0, f1⟩ := A2.out.facts
    clear hL M A0 B1 hk
    go_wp2_with fail
    refine (S1.out _ (HR.out.below (balloc B2 _))).mono ?_
    rintro e w3 ⟨rfl, b3⟩
    have B3 := bnext (balloc B2 _) b3
    have A3 := Lib.hid ((A2.out.below (balloc (Below.refl _ _) _)).below b3)
    have D3 := Lib.hid ((b3.block _ (lt_of_block (heap_alloc_new w2 (.cells #[.int .i64 m, .int .u8 t, .func (.func N) #[] cap] 47 (0, 0))))).trans (heap_alloc_new w2 _))
    have HK3 := Lib.hid (HK2.out.mono (below_cells ((balloc (Below.refl _ _) (.cells #[.int .i64 m, .int .u8 t, .func (.func N) #[] cap] 47 (0, 0))).trans (b3.mono (by simp)))))
    have d1 : w3.cell? ⟨w2.heap.size, 1, none⟩ = some (.int .u8 t) := cell_of_row _ _ 1 _ _ _ D3.out
    clear b3 B2 A2 HK2 look c0 c1 f0 f1 hz
    by_cases ht : t = 0
    · subst ht
      rw [if_pos rfl] at DK
      obtain ⟨bq, oq, rfl, hcl⟩ := (HR.out.below B3).get 0 (by simpa using hpos)
      have hg0 : l.getD 0 (0, 0) = l[0] := by simp [List.getD_eq_getElem?_getD, hpos]
      rw [List.getElem_map] at hcl
      have p0 : w3.cell? ⟨bq, oq, none⟩ = some (.int .u8 l[0].1) := by simpa using hcl 0 _ rfl
      rw [← hg0] at p0
      generalize hx1 : (l.getD 0 (0, 0)).1 = x1 at p0 DK
      have p0' : (w3.alloc (.cells #[.int .u8 0] 22 (0, 0))).cell? ⟨bq, oq, none⟩ = some (.int .u8 x1) := cell_up p0
      clear hcl hg0 hx1 p0
      go_wp2_with fail
      have SB := some2_any x1 w3.heap.size (.slice (some ⟨bq, oq, none⟩) l.length c) l (w3.alloc (.cells #[.int .u8 x1] 22 (0, 0))) (HR.out.below (balloc B3 _)) (cell_of_row _ _ 0 _ _ _ (heap_alloc_new _ _))
      refine SB.mono ?_
      clear SB
      rintro e w4 ⟨rfl, b4⟩
      have B4 := bnext (balloc B3 _) b4
      have bb := (balloc (Below.refl w3.heap.size w3) (.cells #[.int .u8 x1] 22 (0, 0))).trans (b4.mono (by simp))
      have A4 := Lib.hid (A3.out.below bb)
      have D4 := Lib.hid ((bb.block _ (lt_of_block D3.out)).trans D3.out)
      have HK4 := Lib.hid (HK3.out.mono (below_cells bb))
      obtain ⟨hz, c0, c1, f0, f1⟩ := A4.out.facts
      have d2 : w4.cell? ⟨w2.heap.size, 2, none⟩ = some (.func (.func N) #[] cap) := cell_of_row _ _ 2 _ _ _ D4.out
      clear b4 bb A3 D3 HK3 B3 d1
      cases hty : (l.any fun p => p.1 != x1)
      · rw [hty] at DK
        have FIN : Hid (doK o m 0 l = (semD o (l.getD 0 (0, 0)) (lastV l), 0)) := by rw [Hid, DK.out]; simp
        clear hty DK
        have HR4 := Lib.hid (HR.out.below B4)
        rcases HK4.out with ⟨N', x, y, z, fo, fd, fi, h3, hf, rfl, hlay, hact⟩ | ⟨hf, rfl, rfl⟩ | ⟨hf, rfl, rfl⟩
        · simp only [cloV, Value.func.injEq, Fn.func.injEq, true_and] at hf
          obtain ⟨rfl, rfl⟩ := hf
          obtain ⟨va, vb, rfl⟩ := list2V (by have := HLN.out; omega : l.length = 2)
          obtain ⟨bq, oq, e', pr⟩ := pair_of HR4.out
          cases e'
          have CA := hact w4 x y z hlay bq oq c va vb pr
          have e3 : semD o ([va, vb].getD 0 (0, 0)) (lastV [va, vb]) = semD o va vb := rfl
          rw [e3] at FIN
          generalize hsv : semD o va vb = sv at *
          obtain ⟨s1, s2⟩ := sv
          unfold aggV at CA
          have HCA := Lib.hid CA
          clear CA hact hlay pr hsv HR HR4 HK4
          rcases h3 with rfl | rfl | rfl
          all_goals
            go_wp2_with fail
            refine HCA.out.mono ?_
            rintro e w5 ⟨rfl, b5⟩
            have B5 := bnext B4 b5
            have A5 := Lib.hid (A4.out.below b5)
            obtain ⟨hz, c0, c1, f0, f1⟩ := A5.out.facts
            clear b5
            go_wp2_with fail
            exact bodyPost_ret (results_row_tmp Tryd.results18 _ _ w.heap.size _ _ _ _ rfl (heap_setCell_same _ _ 1 _ _ _ (heap_setCell_same _ _ 0 _ _ _ A5.out)) Tryd.underlying24 rfl infoV) rfl ⟨by rw [FIN.out]; rfl, ((B5.setCell (p := ⟨w.heap.size, 0, none⟩) (Nat.le_refl _) _).setCell (p := ⟨w.heap.size, 1, none⟩) (Nat.le_refl _) _)⟩
        · simp only [fnV, Value.func.injEq, Fn.func.injEq, true_and] at hf
          obtain ⟨rfl, rfl⟩ := hf
          obtain ⟨va, rfl⟩ := list1V (by have := HLN.out; omega : l.length = 1)
          obtain ⟨bq, oq, e', p0, p1⟩ := one_of HR4.out
          cases e'
          have CA := neg_any va bq oq c w4 p0 p1
          unfold aggV numV at CA
          have HCA := Lib.hid CA
          clear CA p0 p1 HR HR4 HK4
          go_wp2_with fail
          refine HCA.out.mono ?_
          rintro e w5 ⟨rfl, b5⟩
          have B5 := bnext B4 b5
          have A5 := Lib.hid (A4.out.below b5)
          obtain ⟨hz, c0, c1, f0, f1⟩ := A5.out.facts
          clear b5
          go_wp2_with fail
          exact bodyPost_ret (results_row_tmp Tryd.results18 _ _ w.heap.size _ _ _ _ rfl (heap_setCell_same _ _ 1 _ _ _ (heap_setCell_same _ _ 0 _ _ _ A5.out)) Tryd.underlying24 rfl infoV) rfl ⟨by rw [FIN.out]; rfl, ((B5.setCell (p := ⟨w.heap.size, 0, none⟩) (Nat.le_refl _) _).setCell (p := ⟨w.heap.size, 1, none⟩) (Nat.le_refl _) _)⟩
        · simp only [fnV, Value.func.injEq, Fn.func.injEq, true_and] at hf
          obtain ⟨rfl, rfl⟩ := hf
          obtain ⟨va, rfl⟩ := list1V (by have := HLN.out; omega : l.length = 1)
          obtain ⟨bq, oq, e', p0, p1⟩ := one_of HR4.out
          cases e'
          have CA := not_any va bq oq c w4 p0 p1
          have e3 : semD 5 ([va].getD 0 (0, 0)) (lastV [va]) = yesV (!(va.2 == 1)) := rfl
          rw [e3] at FIN
          generalize hsv : yesV (!(va.2 == 1)) = sv at *
          obtain ⟨s1, s2⟩ := sv
          unfold aggV at CA
          have HCA := Lib.hid CA
          clear CA p0 p1 HR HR4 HK4 hsv
          go_wp2_with fail
          refine HCA.out.mono ?_
          rintro e w5 ⟨rfl, b5⟩
          have B5 := bnext B4 b5
          have A5 := Lib.hid (A4.out.below b5)
          obtain ⟨hz, c0, c1, f0, f1⟩ := A5.out.facts
          clear b5
          go_wp2_with fail
          exact bodyPost_ret (results_row_tmp Tryd.results18 _ _ w.heap.size _ _ _ _ rfl (heap_setCell_same _ _ 1 _ _ _ (heap_setCell_same _ _ 0 _ _ _ A5.out)) Tryd.underlying24 rfl infoV) rfl ⟨by rw [FIN.out]; rfl, ((B5.setCell (p := ⟨w.heap.size, 0, none⟩) (Nat.le_refl _) _).setCell (p := ⟨w.heap.size, 1, none⟩) (Nat.le_refl _) _)⟩
      · rw [hty] at DK
        have FIN : Hid (doK o m 0 l = ((0, 0), 7)) := by rw [Hid, DK.out]; simp
        clear hty DK
        go_wp2_with fail
        exact bodyPost_ret (results_row_tmp Tryd.results18 _ _ w.heap.size _ _ _ _ rfl (heap_setCell_same _ _ 1 _ _ _ (heap_setCell_same _ _ 0 _ _ _ A4.out)) Tryd.underlying24 rfl infoV) rfl ⟨by rw [FIN.out]; rfl, ((B4.setCell (p := ⟨w.heap.size, 0, none⟩) (Nat.le_refl _) _).setCell (p := ⟨w.heap.size, 1, none⟩) (Nat.le_refl _) _)⟩
    · have ht' : (t == 0) = false := by simpa using ht
      rw [if_neg ht] at DK
      clear ht
      go_wp2_with fail
      have SB := some2_any t w3.heap.size (.slice a l.length c) l (w3.alloc (.cells #[.int .u8 t] 22 (0, 0))) (HR.out.below (balloc B3 _)) (cell_of_row _ _ 0 _ _ _ (heap_alloc_new _ _))
      refine SB.mono ?_
      clear SB
      rintro e w4 ⟨rfl, b4⟩
      have B4 := bnext (balloc B3 _) b4
      have bb := (balloc (Below.refl w3.heap.size w3) (.cells #[.int .u8 t] 22 (0, 0))).trans (b4.mono (by simp))
      have A4 := Lib.hid (A3.out.below bb)
      have D4 := Lib.hid ((bb.block _ (lt_of_block D3.out)).trans D3.out)
      have HK4 := Lib.hid (HK3.out.mono (below_cells bb))
      obtain ⟨hz, c0, c1, f0, f1⟩ := A4.out.facts
      have d2 : w4.cell? ⟨w2.heap.size, 2, none⟩ = some (.func (.func N) #[] cap) := cell_of_row _ _ 2 _ _ _ D4.out
      clear b4 bb A3 D3 HK3 B3 d1
      cases hty : (l.any fun p => p.1 != t)
      · rw [hty] at DK
        have FIN : Hid (doK o m t l = (semD o (l.getD 0 (0, 0)) (lastV l), 0)) := by rw [Hid, DK.out]; simp
        clear hty DK
        have HR4 := Lib.hid (HR.out.below B4)
        rcases HK4.out with ⟨N', x, y, z, fo, fd, fi, h3, hf, rfl, hlay, hact⟩ | ⟨hf, rfl, rfl⟩ | ⟨hf, rfl, rfl⟩
        · simp only [cloV, Value.func.injEq, Fn.func.injEq, true_and] at hf
          obtain ⟨rfl, rfl⟩ := hf
          obtain ⟨va, vb, rfl⟩ := list2V (by have := HLN.out; omega : l.length = 2)
          obtain ⟨bq, oq, e', pr⟩ := pair_of HR4.out
          cases e'
          have CA := hact w4 x y z hlay bq oq c va vb pr
          have e3 : semD o ([va, vb].getD 0 (0, 0)) (lastV [va, vb]) = semD o va vb := rfl
          rw [e3] at FIN
          generalize hsv : semD o va vb = sv at *
          obtain ⟨s1, s2⟩ := sv
          unfold aggV at CA
          have HCA := Lib.hid CA
          clear CA hact hlay pr hsv HR HR4 HK4
          rcases h3 with rfl | rfl | rfl
          all_goals
            go_wp2_with fail
            refine HCA.out.mono ?_
            rintro e w5 ⟨rfl, b5⟩
            have B5 := bnext B4 b5
            have A5 := Lib.hid (A4.out.below b5)
            obtain ⟨hz, c0, c1, f0, f1⟩ := A5.out.facts
            clear b5
            go_wp2_with fail
            exact bodyPost_ret (results_row_tmp Tryd.results18 _ _ w.heap.size _ _ _ _ rfl (heap_setCell_same _ _ 1 _ _ _ (heap_setCell_same _ _ 0 _ _ _ A5.out)) Tryd.underlying24 rfl infoV) rfl ⟨by rw [FIN.out]; rfl, ((B5.setCell (p := ⟨w.heap.size, 0, none⟩) (Nat.le_refl _) _).setCell (p := ⟨w.heap.size, 1, none⟩) (Nat.le_refl _) _)⟩
        · simp only [fnV, Value.func.injEq, Fn.func.injEq, true_and] at hf
          obtain ⟨rfl, rfl⟩ := hf
          obtain ⟨va, rfl⟩ := list1V (by have := HLN.out; omega : l.length = 1)
          obtain ⟨bq, oq, e', p0, p1⟩ := one_of HR4.out
          cases e'
          have CA := neg_any va bq oq c w4 p0 p1
          unfold aggV numV at CA
          have HCA := Lib.hid CA
          clear CA p0 p1 HR HR4 HK4
          go_wp2_with fail
          refine HCA.out.mono ?_
          rintro e w5 ⟨rfl, b5⟩
          have B5 := bnext B4 b5
          have A5 := Lib.hid (A4.out.below b5)
          obtain ⟨hz, c0, c1, f0, f1⟩ := A5.out.facts
          clear b5
          go_wp2_with fail
          exact bodyPost_ret (results_row_tmp Tryd.results18 _ _ w.heap.size _ _ _ _ rfl (heap_setCell_same _ _ 1 _ _ _ (heap_setCell_same _ _ 0 _ _ _ A5.out)) Tryd.underlying24 rfl infoV) rfl ⟨by rw [FIN.out]; rfl, ((B5.setCell (p := ⟨w.heap.size, 0, none⟩) (Nat.le_refl _) _).setCell (p := ⟨w.heap.size, 1, none⟩) (Nat.le_refl _) _)⟩
        · simp only [fnV, Value.func.injEq, Fn.func.injEq, true_and] at hf
          obtain ⟨rfl, rfl⟩ := hf
          obtain ⟨va, rfl⟩ := list1V (by have := HLN.out; omega : l.length = 1)
          obtain ⟨bq, oq, e', p0, p1⟩ := one_of HR4.out
          cases e'
          have CA := not_any va bq oq c w4 p0 p1
          have e3 : semD 5 ([va].getD 0 (0, 0)) (lastV [va]) = yesV (!(va.2 == 1)) := rfl
          rw [e3] at FIN
          generalize hsv : yesV (!(va.2 == 1)) = sv at *
          obtain ⟨s1, s2⟩ := sv
          unfold aggV at CA
          have HCA := Lib.hid CA
          clear CA p0 p1 HR HR4 HK4 hsv
          go_wp2_with fail
          refine HCA.out.mono ?_
          rintro e w5 ⟨rfl, b5⟩
          have B5 := bnext B4 b5
          have A5 := Lib.hid (A4.out.below b5)
          obtain ⟨hz, c0, c1, f0, f1⟩ := A5.out.facts
          clear b5
          go_wp2_with fail
          exact bodyPost_ret (results_row_tmp Tryd.results18 _ _ w.heap.size _ _ _ _ rfl (heap_setCell_same _ _ 1 _ _ _ (heap_setCell_same _ _ 0 _ _ _ A5.out)) Tryd.underlying24 rfl infoV) rfl ⟨by rw [FIN.out]; rfl, ((B5.setCell (p := ⟨w.heap.size, 0, none⟩) (Nat.le_refl _) _).setCell (p := ⟨w.heap.size, 1, none⟩) (Nat.le_refl _) _)⟩
      · rw [hty] at DK
        have FIN : Hid (doK o m t l = ((0, 0), 7)) := by rw [Hid, DK.out]; simp
        clear hty DK
        go_wp2_with fail
        exact bodyPost_ret (results_row_tmp Tryd.results18 _ _ w.heap.size _ _ _ _ rfl (heap_setCell_same _ _ 1 _ _ _ (heap_setCell_same _ _ 0 _ _ _ A4.out)) Tryd.underlying24 rfl infoV) rfl ⟨by rw [FIN.out]; rfl, ((B4.setCell (p := ⟨w.heap.size, 0, none⟩) (Nat.le_refl _) _).setCell (p := ⟨w.heap.size, 1, none⟩) (Nat.le_refl _) _)⟩
end Go.Proofs.YtphlodafdkpedaaDoor
