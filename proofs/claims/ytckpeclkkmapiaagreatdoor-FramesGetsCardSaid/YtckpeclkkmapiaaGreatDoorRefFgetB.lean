/-
  The walk of belfryref03.Get, of any bytes.
-/
import Derived.Test.YtckpeclkkmapiaaGreatDoorRefFget
namespace Go.Proofs.YtckpeclkkmapiaaGreatDoor
open Go.RowKit
open Go

theorem rfget_any (v : Value) (bs : List Nat) (w : World) (h : Rd w v (by8 (iN bs))) (hb : NB bs) (hm : bs.length ≤ 140737488351232) :
    Calls Tryz.prog 26 #[v] w (RGetP bs w) := by
  by_cases hl : 9 + getN bs 60 12 + 4 ≤ bs.length
  · by_cases h13 : 13 ≤ bs.length
    · exact rfget_long v bs w h hb hl hm
    · omega
  have HV := Lib.hid h
  obtain ⟨a, c, rfl, hc, hcm, hn, hcell⟩ := h
  simp only [List.length_map] at *
  unfold maxLen at hcm
  clear hcell hn
  have B1 := balloc (Below.refl w.heap.size w) zF
  have k1 := heap_alloc_new w zF
  by_cases h13 : bs.length < 13
  · have H4 : Hid (errOf bs = 4) := by unfold Hid errOf; rw [if_pos h13]
    have e1 : decide ((bs.length : Int) < 13) = true := by simp; omega
    clear hl
    go_enter Tryz.func26, Tryz.ntmps26
    go_wp2_with fail
    exact bodyPost_ret (results_row_tmp Tryz.results26 _ _ w.heap.size _ _ _ _ rfl k1 Tryz.underlying65 rfl (infoF _ _ _ _ _)) rfl ⟨B1, .inr ⟨by rw [H4.out]; decide, by rw [H4.out]; rfl⟩⟩
  · have H4 : Hid (errOf bs = 4) := by unfold Hid errOf; rw [if_neg h13, if_pos (by omega)]
    have HN := Lib.hid (rnum_ok (.slice a bs.length c) bs 60 12 _ (HV.out.below B1) hb (by decide) (by omega) hm)
    have hn0 := getN_lt bs 60 12
    generalize getN bs 60 12 = n at *
    simp only [Nat.reducePow] at hn0
    go_enter Tryz.func26, Tryz.ntmps26
    go_wp2_with fail
    refine Calls.mono HN.out ?_
    rintro e w1 ⟨rfl, rfl⟩
    go_wp2_with fail
    exact bodyPost_ret (results_row_tmp Tryz.results26 _ _ w.heap.size _ _ _ _ rfl k1 Tryz.underlying65 rfl (infoF _ _ _ _ _)) rfl ⟨B1, .inr ⟨by rw [H4.out]; decide, by rw [H4.out]; rfl⟩⟩
end Go.Proofs.YtckpeclkkmapiaaGreatDoor
