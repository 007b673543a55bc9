/-
  The walk of belfrylaw01.SameBytes.
-/
import Derived.Test.YtafamnodeliaaaaGreatDoorRows
import Derived.Test.YtafamnodeliaaaaGreatDoorKit
import Derived.Deep.QuietTactic
import Derived.BigQuiet
namespace Go.Proofs.YtafamnodeliaaaaGreatDoor
open Go.RowKit
open Go

set_option maxHeartbeats 400000 in
theorem same_drew (v u : Value) (cs ds : List Int) (w : World) (h : Rd w v (by8 cs)) (h2 : Rd w u (by8 ds)) :
    Calls Tryz.prog 11 #[v, u] w fun e w' => e = .returned (.bool (decide (cs = ds))) ∧ ∃ n, w' = w.drewN n := by
  obtain ⟨a, c, rfl, hc, hm, hn, hcell⟩ := h
  obtain ⟨a2, c2, rfl, hc2, hm2, hn2, hcell2⟩ := h2
  simp only [List.length_map] at *
  unfold maxLen at hm hm2
  have HC := Lib.hid hcell
  have HD := Lib.hid hcell2
  clear hcell hcell2
  by_cases hl : cs.length = ds.length
  · have e1 : ((cs.length : Int) != (ds.length : Int)) = false := by rw [bne_eq_false_iff_eq]; omega
    have HL := Lib.hid hl
    clear hl
    go_enter Tryz.func11, Tryz.ntmps11
    go_wp2_with fail
    clear e1
    go_loopw [5] (fun i wr => ∃ k m : Nat, k ≤ cs.length ∧ i = .int .i64 k ∧ wr = w.drewN m ∧ Hid (cs.take k = ds.take k)) (fun i _ => cs.length - (intOf i).toNat)
    case atStart => exact ⟨0, 0, by omega, rfl, rfl, rfl⟩
    case round =>
      obtain ⟨k, m, hk, rfl, rfl, he⟩ := hrel
      by_cases hlt : k < cs.length
      · have hlt2 : k < ds.length := by have := HL.out; omega
        obtain ⟨b, o, rfl, x0⟩ := HC.out k _ (map_get hlt)
        obtain ⟨b2, o2, rfl, x1⟩ := HD.out k _ (map_get hlt2)
        have h1 := Lib.hid (take_snoc cs k hlt)
        have h2 := Lib.hid (take_snoc ds k hlt2)
        have h3 : Hid (cs[k] ≠ ds[k] → cs ≠ ds) := fun hne e => hne (by subst e; rfl)
        generalize cs[k] = x at *
        generalize ds[k] = y at *
        cases hxy : (x != y)
        · go_wp2_with fail
          go_quiet (fail)
          go_wp2_with fail
          go_roundw
          case rel => exact ⟨k + 1, m + nq, by omega, by go_num, rfl, by unfold Hid; rw [h1.out, h2.out, he.out, bne_eq_false_iff_eq.1 hxy]⟩
          case measure => simp [intOf]; omega
        · go_wp2_with fail
          go_quiet (fail)
          go_wp2_with fail
          go_ret
          have hne := h3.out (bne_iff_ne.1 hxy)
          exact ⟨by rw [decide_eq_false hne]; rfl, m + nq, World.drewN_drewN _ _ _⟩
      · obtain rfl : k = cs.length := by omega
        go_wp2_with fail
        go_ret
        have e1 := he.out
        rw [List.take_length, HL.out, List.take_length] at e1
        exact ⟨by rw [decide_eq_true e1]; rfl, m, rfl⟩
  · have e1 : ((cs.length : Int) != (ds.length : Int)) = true := by rw [bne_iff_ne]; omega
    have hne : cs ≠ ds := fun e => hl (by rw [e])
    have HN := Lib.hid hne
    clear hne hl
    go_enter Tryz.func11, Tryz.ntmps11
    go_wp2_with fail
    go_ret
    exact ⟨by rw [decide_eq_false HN.out]; rfl, 0, rfl⟩
theorem same_any (v u : Value) (cs ds : List Int) (w : World) (h : Rd w v (by8 cs)) (h2 : Rd w u (by8 ds)) :
    Calls Tryz.prog 11 #[v, u] w fun e w' => e = .returned (.bool (decide (cs = ds))) ∧ Below w.heap.size w w' := by
  refine (same_drew v u cs ds w h h2).mono ?_
  rintro e w' ⟨rfl, n, rfl⟩
  exact ⟨rfl, bdraw (Below.refl _ _) n⟩
end Go.Proofs.YtafamnodeliaaaaGreatDoor
