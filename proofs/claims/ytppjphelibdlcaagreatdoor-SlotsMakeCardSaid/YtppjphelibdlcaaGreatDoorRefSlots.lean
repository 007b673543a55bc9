/-
  The walks of belfryref16: Check, Skew, may, tick.
-/
import Derived.Test.YtppjphelibdlcaaGreatDoorSlots
namespace Go.Proofs.YtppjphelibdlcaaGreatDoor
open Go.RowKit
open Go

theorem rcheck_any (bit near far drift bad : Int) (w : World) : Calls Tryz.prog 11 #[.agg #[.int .i64 bit, .int .i64 near, .int .i64 far, .int .i64 drift, .int .i64 bad]] w fun e w' =>
    e = .returned (.bool (chkB bit near far drift bad)) ∧ Below w.heap.size w w' := by
  obtain ⟨q, hq⟩ : ∃ q, q = chkB bit near far drift bad := ⟨_, rfl⟩
  have HQ := Lib.hid hq
  have HI := Lib.hid (chkB_iff bit near far drift bad)
  rw [← hq]
  clear hq
  by_cases h0 : 1 ≤ bit
  case neg =>
    have e0 : decide (1 ≤ bit) = false := decide_eq_false h0
    have hf : q = false := by
      rw [HQ.out, Bool.eq_false_iff]
      intro h
      have := HI.out.1 h
      omega
    subst hf
    clear h0
    go_enter Tryz.func11, Tryz.ntmps11
    go_wp2_with fail
    go_ret
    exact ⟨rfl, balloc (Below.refl _ _) _⟩
  have e0 : decide (1 ≤ bit) = true := decide_eq_true h0
  by_cases h1 : bit ≤ 1000000
  case neg =>
    have e1 : decide (bit ≤ 1000000) = false := decide_eq_false h1
    have hf : q = false := by
      rw [HQ.out, Bool.eq_false_iff]
      intro h
      have := HI.out.1 h
      omega
    subst hf
    clear h0 h1
    go_enter Tryz.func11, Tryz.ntmps11
    go_wp2_with fail
    go_ret
    exact ⟨rfl, balloc (Below.refl _ _) _⟩
  have e1 : decide (bit ≤ 1000000) = true := decide_eq_true h1
  by_cases h2 : 0 ≤ near
  case neg =>
    have e2 : decide (0 ≤ near) = false := decide_eq_false h2
    have hf : q = false := by
      rw [HQ.out, Bool.eq_false_iff]
      intro h
      have := HI.out.1 h
      omega
    subst hf
    clear h0 h1 h2
    go_enter Tryz.func11, Tryz.ntmps11
    go_wp2_with fail
    go_ret
    exact ⟨rfl, balloc (Below.refl _ _) _⟩
  have e2 : decide (0 ≤ near) = true := decide_eq_true h2
  by_cases h3 : near ≤ far
  case neg =>
    have e3 : decide (near ≤ far) = false := decide_eq_false h3
    have hf : q = false := by
      rw [HQ.out, Bool.eq_false_iff]
      intro h
      have := HI.out.1 h
      omega
    subst hf
    clear h0 h1 h2 h3
    go_enter Tryz.func11, Tryz.ntmps11
    go_wp2_with fail
    go_ret
    exact ⟨rfl, balloc (Below.refl _ _) _⟩
  have e3 : decide (near ≤ far) = true := decide_eq_true h3
  by_cases h4 : far ≤ 1000000
  case neg =>
    have e4 : decide (far ≤ 1000000) = false := decide_eq_false h4
    have hf : q = false := by
      rw [HQ.out, Bool.eq_false_iff]
      intro h
      have := HI.out.1 h
      omega
    subst hf
    clear h0 h1 h2 h3 h4
    go_enter Tryz.func11, Tryz.ntmps11
    go_wp2_with fail
    go_ret
    exact ⟨rfl, balloc (Below.refl _ _) _⟩
  have e4 : decide (far ≤ 1000000) = true := decide_eq_true h4
  by_cases h5 : 0 ≤ drift
  case neg =>
    have e5 : decide (0 ≤ drift) = false := decide_eq_false h5
    have hf : q = false := by
      rw [HQ.out, Bool.eq_false_iff]
      intro h
      have := HI.out.1 h
      omega
    subst hf
    clear h0 h1 h2 h3 h4 h5
    go_enter Tryz.func11, Tryz.ntmps11
    go_wp2_with fail
    go_ret
    exact ⟨rfl, balloc (Below.refl _ _) _⟩
  have e5 : decide (0 ≤ drift) = true := decide_eq_true h5
  by_cases h6 : drift ≤ 10000
  case neg =>
    have e6 : decide (drift ≤ 10000) = false := decide_eq_false h6
    have hf : q = false := by
      rw [HQ.out, Bool.eq_false_iff]
      intro h
      have := HI.out.1 h
      omega
    subst hf
    clear h0 h1 h2 h3 h4 h5 h6
    go_enter Tryz.func11, Tryz.ntmps11
    go_wp2_with fail
    go_ret
    exact ⟨rfl, balloc (Below.refl _ _) _⟩
  have e6 : decide (drift ≤ 10000) = true := decide_eq_true h6
  by_cases h7 : 0 ≤ bad
  case neg =>
    have e7 : decide (0 ≤ bad) = false := decide_eq_false h7
    have hf : q = false := by
      rw [HQ.out, Bool.eq_false_iff]
      intro h
      have := HI.out.1 h
      omega
    subst hf
    clear h0 h1 h2 h3 h4 h5 h6 h7
    go_enter Tryz.func11, Tryz.ntmps11
    go_wp2_with fail
    go_ret
    exact ⟨rfl, balloc (Below.refl _ _) _⟩
  have e7 : decide (0 ≤ bad) = true := decide_eq_true h7
  by_cases h8 : bad ≤ 2
  case neg =>
    have e8 : decide (bad ≤ 2) = false := decide_eq_false h8
    have hf : q = false := by
      rw [HQ.out, Bool.eq_false_iff]
      intro h
      have := HI.out.1 h
      omega
    subst hf
    clear h0 h1 h2 h3 h4 h5 h6 h7 h8
    go_enter Tryz.func11, Tryz.ntmps11
    go_wp2_with fail
    go_ret
    exact ⟨rfl, balloc (Below.refl _ _) _⟩
  have e8 : decide (bad ≤ 2) = true := decide_eq_true h8
  have hf : q = true := by
    rw [HQ.out, HI.out]
    omega
  subst hf
  clear h0 h1 h2 h3 h4 h5 h6 h7 h8
  go_enter Tryz.func11, Tryz.ntmps11
  go_wp2_with fail
  go_ret
  exact ⟨rfl, balloc (Below.refl _ _) _⟩
theorem rtick_any (n : Int) (w : World) : Calls Tryz.prog 27 #[.int .i64 n] w fun e w' => e = .returned (.bool (wB n 0 1125899906842624)) ∧ w = w' := by
  by_cases h : 0 ≤ n
  · have e0 : decide (0 ≤ n) = true := decide_eq_true h
    go_enter Tryz.func27, Tryz.ntmps27
    go_wp2_with fail
    go_ret
    exact ⟨by simp [wB, h], rfl⟩
  · have e0 : decide (0 ≤ n) = false := decide_eq_false h
    go_enter Tryz.func27, Tryz.ntmps27
    go_wp2_with fail
    go_ret
    exact ⟨by rw [show wB n 0 1125899906842624 = false by rw [wB_not]; omega]; rfl, rfl⟩
theorem rskew_any (bit near far drift bad round : Int) (w : World) : Calls Tryz.prog 13 #[.agg #[.int .i64 bit, .int .i64 near, .int .i64 far, .int .i64 drift, .int .i64 bad], .int .i64 round] w fun e w' =>
    e = .returned (.int .i64 (skewI bit near far drift bad round)) ∧ Below w.heap.size w w' := by
  cases h1 : chkB bit near far drift bad
  · go_enter Tryz.func13, Tryz.ntmps13
    go_wp2_with fail
    refine (rcheck_any _ _ _ _ _ _).mono ?_
    rw [h1]
    rintro e w1 ⟨rfl, b1⟩
    go_wp2_with fail
    go_ret
    exact ⟨by simp [skewI, h1], bnext (balloc (Below.refl _ _) _) b1⟩
  · by_cases h2 : round < 0
    · have e2 : decide (round < 0) = true := decide_eq_true h2
      have hf : skewI bit near far drift bad round = 0 := by
        have : wB round 0 1099511627776 = false := by rw [wB_not]; omega
        simp [skewI, this]
      rw [hf]
      go_enter Tryz.func13, Tryz.ntmps13
      go_wp2_with fail
      refine (rcheck_any _ _ _ _ _ _).mono ?_
      rw [h1]
      rintro e w1 ⟨rfl, b1⟩
      go_wp2_with fail
      go_ret
      exact ⟨rfl, bnext (balloc (Below.refl _ _) _) b1⟩
    · have e2 : decide (round < 0) = false := decide_eq_false h2
      by_cases h3 : 1099511627776 < round
      · have e3 : decide (1099511627776 < round) = true := decide_eq_true h3
        have hf : skewI bit near far drift bad round = 0 := by
          have : wB round 0 1099511627776 = false := by rw [wB_not]; omega
          simp [skewI, this]
        rw [hf]
        go_enter Tryz.func13, Tryz.ntmps13
        go_wp2_with fail
        refine (rcheck_any _ _ _ _ _ _).mono ?_
        rw [h1]
        rintro e w1 ⟨rfl, b1⟩
        go_wp2_with fail
        go_ret
        exact ⟨rfl, bnext (balloc (Below.refl _ _) _) b1⟩
      · have e3 : decide (1099511627776 < round) = false := decide_eq_false h3
        obtain ⟨⟨hb0, hb1⟩, ⟨hf0, hf1⟩, ⟨hn0, hn1⟩, ⟨hd0, hd1⟩, _⟩ := (chkB_iff bit near far drift bad).1 h1
        have hr0 : 0 ≤ round := by omega
        have hr1 : round ≤ 1099511627776 := by omega
        obtain ⟨hp0, hp1⟩ := drift_in hd0 hd1 hr0 hr1
        have hw : wB round 0 1099511627776 = true := by rw [wB_iff]; omega
        have FIN := Lib.hid (show skewI bit near far drift bad round = skI near far drift round by simp [skewI, h1, hw])
        go_enter Tryz.func13, Tryz.ntmps13
        go_wp2_with fail
        refine (rcheck_any _ _ _ _ _ _).mono ?_
        rw [h1]
        rintro e w1 ⟨rfl, b1⟩
        obtain ⟨c0, c1, c2, c3, c4⟩ := cells5 (kept_new b1)
        have B1 := bnext (balloc (Below.refl _ _) _) b1
        clear b1
        go_wp2_with fail
        go_ret
        refine ⟨?_, B1⟩
        rw [FIN.out]
        unfold skI
        refine ret_i64 ?_
        generalize drift * round = p at *
        omega
end Go.Proofs.YtppjphelibdlcaaGreatDoor
