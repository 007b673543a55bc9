/-
  The walk of belfryref16.may.
-/
import Derived.Test.YtppjphelibdlcaaGreatDoorRefSlots
import Derived.Test.YtppjphelibdlcaaGreatDoorKit3
namespace Go.Proofs.YtppjphelibdlcaaGreatDoor
open Go.RowKit
open Go

set_option maxHeartbeats 1000000 in
theorem rmay_any (bit near far drift bad : Int) (v : Value) (l : List Int) (w : World) (h : Rd w v (ints l)) : Calls Tryz.prog 23 #[.agg #[.int .i64 bit, .int .i64 near, .int .i64 far, .int .i64 drift, .int .i64 bad], v] w fun e w' =>
    e = .returned (.bool (mayB bit near far drift bad l)) ∧ Below w.heap.size w w' := by
  obtain ⟨a, c, rfl, hc, hm⟩ := h.shape
  have HV := Lib.hid h
  clear h
  unfold maxLen at hm
  cases h1 : chkB bit near far drift bad
  · go_enter Tryz.func23, Tryz.ntmps23
    go_wp2_with fail
    refine (rcheck_any _ _ _ _ _ _).mono ?_
    rw [h1]
    rintro e w1 ⟨rfl, b1⟩
    go_wp2_with fail
    go_ret
    exact ⟨by simp [mayB, h1], bnext (balloc (Below.refl _ _) _) b1⟩
  obtain ⟨⟨hb0, hb1⟩, ⟨hf0, hf1⟩, ⟨hn0, hn1⟩, ⟨hd0, hd1⟩, ⟨hz0, hz1⟩⟩ := (chkB_iff bit near far drift bad).1 h1
  have HMB : Hid (mayB bit near far drift bad l = (decide (max 1 (3 * bad + 1) ≤ (l.length : Int)) && decide ((l.length : Int) ≤ 8) && l.all fun n => wB n 1 100000)) := by
    unfold Hid
    simp [mayB, h1, wB]
  obtain ⟨n, hn⟩ : ∃ n : Nat, l.length = n := ⟨_, rfl⟩
  have HN := Lib.hid hn
  rw [hn] at HV HMB hc
  rw [hn]
  clear hn
  have HC : Hid (∀ w, Calls Tryz.prog 11 #[.agg #[.int .i64 bit, .int .i64 near, .int .i64 far, .int .i64 drift, .int .i64 bad]] w fun e w' => e = .returned (.bool true) ∧ Below w.heap.size w w') := by
    intro w
    have := rcheck_any bit near far drift bad w
    rw [h1] at this
    exact this
  clear h1
  by_cases k1 : (n : Int) < 1
  · have e1 : decide ((n : Int) < 1) = true := decide_eq_true k1
    have hf : mayB bit near far drift bad l = false := by
      rw [HMB.out, decide_eq_false (by omega)]
      rfl
    rw [hf]
    go_enter Tryz.func23, Tryz.ntmps23
    go_wp2_with fail
    refine Calls.mono (HC.out _) ?_
    rintro e w1 ⟨rfl, b1⟩
    go_wp2_with fail
    go_ret
    exact ⟨rfl, bnext (balloc (Below.refl _ _) _) b1⟩
  have e1 : decide ((n : Int) < 1) = false := decide_eq_false k1
  by_cases k2 : (8 : Int) < n
  · have e2 : decide ((8 : Int) < n) = true := decide_eq_true k2
    have hf : mayB bit near far drift bad l = false := by
      rw [HMB.out, decide_eq_false (show ¬ (n : Int) ≤ 8 by omega), Bool.and_false]
      rfl
    rw [hf]
    go_enter Tryz.func23, Tryz.ntmps23
    go_wp2_with fail
    refine Calls.mono (HC.out _) ?_
    rintro e w1 ⟨rfl, b1⟩
    go_wp2_with fail
    go_ret
    exact ⟨rfl, bnext (balloc (Below.refl _ _) _) b1⟩
  have e2 : decide ((8 : Int) < n) = false := decide_eq_false k2
  by_cases k3 : (n : Int) < 3 * bad + 1
  · have e3 : decide ((n : Int) < 3 * bad + 1) = true := decide_eq_true k3
    have hf : mayB bit near far drift bad l = false := by
      rw [HMB.out, decide_eq_false (show ¬ max 1 (3 * bad + 1) ≤ (n : Int) by omega)]
      rfl
    rw [hf]
    go_enter Tryz.func23, Tryz.ntmps23
    go_wp2_with fail
    refine Calls.mono (HC.out _) ?_
    rintro e w1 ⟨rfl, b1⟩
    obtain ⟨c0, c1, c2, c3, c4⟩ := cells5 (kept_new b1)
    go_wp2_with fail
    go_ret
    exact ⟨rfl, bnext (balloc (Below.refl _ _) _) b1⟩
  have e3 : decide ((n : Int) < 3 * bad + 1) = false := decide_eq_false k3
  have HALL : Hid (mayB bit near far drift bad l = l.all fun n => wB n 1 100000) := by
    unfold Hid
    rw [HMB.out, decide_eq_true (show max 1 (3 * bad + 1) ≤ (n : Int) by omega), decide_eq_true (show (n : Int) ≤ 8 by omega)]
    rfl
  go_enter Tryz.func23, Tryz.ntmps23
  go_wp2_with fail
  refine Calls.mono (HC.out _) ?_
  rintro e w1 ⟨rfl, b1⟩
  obtain ⟨c0, c1, c2, c3, c4⟩ := cells5 (kept_new b1)
  have B1 := bnext (balloc (Below.refl _ _) _) b1
  have HR := Lib.hid (HV.out.below B1)
  clear b1
  go_wp2_with fail
  clear c0 c1 c2 c3 c4 e1 e2 e3
  go_loopw [5] (fun i wr => ∃ k : Nat, k ≤ n ∧ i = .int .i64 k ∧ Hid ((l.take k).all (fun n => wB n 1 100000) = true) ∧ Below w.heap.size w wr) (fun i _ => n - (intOf i).toNat)
  case atStart => exact ⟨0, by omega, rfl, rfl, B1⟩
  case round =>
    obtain ⟨k, hk, rfl, hall, hb⟩ := hrel
    have hln : l.length = n := HN.out
    by_cases hlt : k < n
    · obtain ⟨b, o, rfl, hcl⟩ := (HV.out.below hb).get (cs := l) k (by omega)
      have HNO : Hid (wB (l[k]'(by omega)) 1 100000 = false → mayB bit near far drift bad l = false) := fun h => by
        rw [HALL.out, List.all_eq_false]
        exact ⟨l[k]'(by omega), List.getElem_mem _, by simp [h]⟩
      have HYES : Hid (wB (l[k]'(by omega)) 1 100000 = true → (l.take (k + 1)).all (fun n => wB n 1 100000) = true) := fun h => by
        rw [take_snoc _ _ (by omega), List.all_append, hall.out]
        simp [h]
      generalize l[k]'(by omega) = x at *
      clear hln
      by_cases j1 : x < 1
      · have e1 : decide (x < 1) = true := decide_eq_true j1
        have HF := Lib.hid (HNO.out (by rw [wB_not]; omega))
        go_wp2_with fail
        go_ret
        exact ⟨by rw [HF.out]; rfl, hb⟩
      have e1 : decide (x < 1) = false := decide_eq_false j1
      by_cases j2 : 100000 < x
      · have e2 : decide (100000 < x) = true := decide_eq_true j2
        have HF := Lib.hid (HNO.out (by rw [wB_not]; omega))
        go_wp2_with fail
        go_ret
        exact ⟨by rw [HF.out]; rfl, hb⟩
      have e2 : decide (100000 < x) = false := decide_eq_false j2
      have HY := Lib.hid (HYES.out (by rw [wB_iff]; omega))
      go_wp2_with fail
      go_roundw
      case rel => exact ⟨k + 1, by omega, by go_num, HY.out, hb⟩
      case measure => simp [intOf]; omega
    · obtain rfl : k = n := by omega
      have hf : mayB bit near far drift bad l = true := by
        rw [HALL.out]
        have := hall.out
        rw [← hln, List.take_length] at this
        exact this
      have HF := Lib.hid hf
      clear hln hf
      go_wp2_with fail
      go_ret
      exact ⟨by rw [HF.out]; rfl, hb⟩
end Go.Proofs.YtppjphelibdlcaaGreatDoor
