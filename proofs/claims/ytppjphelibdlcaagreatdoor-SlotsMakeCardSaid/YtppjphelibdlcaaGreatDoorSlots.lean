/-
  The walks of package slots: within, Check, Skew, may.
-/
import Derived.Test.YtppjphelibdlcaaGreatDoorRows
import Derived.Test.YtppjphelibdlcaaGreatDoorKit
import Derived.Test.YtppjphelibdlcaaGreatDoorSlotsMath
namespace Go.Proofs.YtppjphelibdlcaaGreatDoor
open Go.RowKit
open Go

theorem within_any (n l m : Int) (w : World) : Calls Tryz.prog 26 #[.int .i64 n, .int .i64 l, .int .i64 m] w fun e w' => e = .returned (.bool (wB n l m)) ∧ w = w' := by
  by_cases h1 : l ≤ n
  · by_cases h2 : n ≤ m
    all_goals
      go_enter Tryz.func26, Tryz.ntmps26
      go_wp2
      go_ret
      exact ⟨by simp [wB, *], rfl⟩
  · go_enter Tryz.func26, Tryz.ntmps26
    go_wp2
    go_ret
    exact ⟨by simp [wB]; omega, rfl⟩

set_option maxHeartbeats 1000000 in
theorem check_any (bit near far drift bad : Int) (w : World) : Calls Tryz.prog 10 #[.agg #[.int .i64 bit, .int .i64 near, .int .i64 far, .int .i64 drift, .int .i64 bad]] w fun e w' =>
    e = .returned (.bool (chkB bit near far drift bad)) ∧ Below w.heap.size w w' := by
  have key : (wB bit 1 1000000 = false) ∨ (wB bit 1 1000000 = true ∧ wB far 0 1000000 = false) ∨ (wB bit 1 1000000 = true ∧ wB far 0 1000000 = true ∧ wB near 0 far = false) ∨
      (wB bit 1 1000000 = true ∧ wB far 0 1000000 = true ∧ wB near 0 far = true ∧ wB drift 0 10000 = false) ∨
      (wB bit 1 1000000 = true ∧ wB far 0 1000000 = true ∧ wB near 0 far = true ∧ wB drift 0 10000 = true ∧ wB bad 0 2 = false) ∨
      (wB bit 1 1000000 = true ∧ wB far 0 1000000 = true ∧ wB near 0 far = true ∧ wB drift 0 10000 = true ∧ wB bad 0 2 = true) := by
    cases wB bit 1 1000000 <;> cases wB far 0 1000000 <;> cases wB near 0 far <;> cases wB drift 0 10000 <;> cases wB bad 0 2 <;> simp
  rcases key with h1 | ⟨h1, h2⟩ | ⟨h1, h2, h3⟩ | ⟨h1, h2, h3, h4⟩ | ⟨h1, h2, h3, h4, h5⟩ | ⟨h1, h2, h3, h4, h5⟩
  all_goals
    go_enter Tryz.func10, Tryz.ntmps10
    go_wp2_with (go_at_call 26; refine (within_any _ _ _ _).mono ?_; rintro e w' ⟨rfl, rfl⟩)
    go_ret
    exact ⟨by simp [chkB, *], balloc (Below.refl _ _) _⟩

theorem ret_i64 {a b : Int} (h : a = b) : Ending.returned (.int .i64 a) = .returned (.int .i64 b) := by rw [h]
theorem cells5 {w : World} {b : Nat} {v0 v1 v2 v3 v4 : Value} {t : TypeId} (h : w.heap[b]? = some (.cells #[v0, v1, v2, v3, v4] t (0, 0))) :
    w.cell? ⟨b, 0, none⟩ = some v0 ∧ w.cell? ⟨b, 1, none⟩ = some v1 ∧ w.cell? ⟨b, 2, none⟩ = some v2 ∧ w.cell? ⟨b, 3, none⟩ = some v3 ∧ w.cell? ⟨b, 4, none⟩ = some v4 :=
  ⟨cell_of_row w b 0 _ _ _ h, cell_of_row w b 1 _ _ _ h, cell_of_row w b 2 _ _ _ h, cell_of_row w b 3 _ _ _ h, cell_of_row w b 4 _ _ _ h⟩
theorem cells3 {w : World} {b : Nat} {v0 v1 v2 : Value} {t : TypeId} (h : w.heap[b]? = some (.cells #[v0, v1, v2] t (0, 0))) :
    w.cell? ⟨b, 0, none⟩ = some v0 ∧ w.cell? ⟨b, 1, none⟩ = some v1 ∧ w.cell? ⟨b, 2, none⟩ = some v2 :=
  ⟨cell_of_row w b 0 _ _ _ h, cell_of_row w b 1 _ _ _ h, cell_of_row w b 2 _ _ _ h⟩
/-- A new block, behind a call. -/
theorem kept_new {w w1 : World} {o : Obj} (h : Below (w.alloc o).heap.size (w.alloc o) w1) : w1.heap[w.heap.size]? = some o := (h.block _ (by simp)).trans (heap_alloc_new _ _)

set_option maxHeartbeats 1000000 in
theorem skew_any (bit near far drift bad round : Int) (w : World) : Calls Tryz.prog 12 #[.agg #[.int .i64 bit, .int .i64 near, .int .i64 far, .int .i64 drift, .int .i64 bad], .int .i64 round] w fun e w' =>
    e = .returned (.int .i64 (skewI bit near far drift bad round)) ∧ Below w.heap.size w w' := by
  cases h1 : chkB bit near far drift bad
  · go_enter Tryz.func12, Tryz.ntmps12
    go_wp2_with fail
    refine (check_any _ _ _ _ _ _).mono ?_
    rw [h1]
    rintro e w1 ⟨rfl, b1⟩
    go_wp2_with fail
    go_ret
    exact ⟨by simp [skewI, h1], bnext (balloc (Below.refl _ _) _) b1⟩
  · cases h2 : wB round 0 1099511627776
    · go_enter Tryz.func12, Tryz.ntmps12
      go_wp2_with fail
      refine (check_any _ _ _ _ _ _).mono ?_
      rw [h1]
      rintro e w1 ⟨rfl, b1⟩
      go_wp2_with fail
      refine (within_any _ _ _ _).mono ?_
      rw [h2]
      rintro e w2 ⟨rfl, rfl⟩
      go_wp2_with fail
      go_ret
      exact ⟨by simp [skewI, h1, h2], bnext (balloc (Below.refl _ _) _) b1⟩
    · obtain ⟨⟨hb0, hb1⟩, ⟨hf0, hf1⟩, ⟨hn0, hn1⟩, ⟨hd0, hd1⟩, _⟩ := (chkB_iff bit near far drift bad).1 h1
      obtain ⟨hr0, hr1⟩ := (wB_iff round 0 1099511627776).1 h2
      obtain ⟨hp0, hp1⟩ := drift_in hd0 hd1 hr0 hr1
      go_enter Tryz.func12, Tryz.ntmps12
      go_wp2_with fail
      refine (check_any _ _ _ _ _ _).mono ?_
      rw [h1]
      rintro e w1 ⟨rfl, b1⟩
      obtain ⟨c0, c1, c2, c3, c4⟩ := cells5 (kept_new b1)
      have B1 := bnext (balloc (Below.refl _ _) _) b1
      clear b1
      go_wp2_with fail
      refine (within_any _ _ _ _).mono ?_
      rw [h2]
      rintro e w2 ⟨rfl, rfl⟩
      have fin : skewI bit near far drift bad round = skI near far drift round := by simp [skewI, h1, h2]
      have FIN := Lib.hid fin
      clear fin
      go_wp2_with fail
      all_goals
        go_ret
        refine ⟨?_, B1⟩
        rw [FIN.out]
        unfold skI
        refine ret_i64 ?_
        generalize drift * round = p at *
        omega

set_option maxHeartbeats 1000000 in
theorem may_any (bit near far drift bad : Int) (v : Value) (l : List Int) (w : World) (h : Rd w v (ints l)) : Calls Tryz.prog 22 #[.agg #[.int .i64 bit, .int .i64 near, .int .i64 far, .int .i64 drift, .int .i64 bad], v] w fun e w' =>
    e = .returned (.bool (mayB bit near far drift bad l)) ∧ Below w.heap.size w w' := by
  obtain ⟨a, c, rfl, hc, hm⟩ := h.shape
  cases h1 : chkB bit near far drift bad
  · go_enter Tryz.func22, Tryz.ntmps22
    go_wp2_with fail
    refine (check_any _ _ _ _ _ _).mono ?_
    rw [h1]
    rintro e w1 ⟨rfl, b1⟩
    go_wp2_with fail
    go_ret
    exact ⟨by simp [mayB, h1], bnext (balloc (Below.refl _ _) _) b1⟩
  · obtain ⟨⟨hb0, hb1⟩, ⟨hf0, hf1⟩, ⟨hn0, hn1⟩, ⟨hd0, hd1⟩, ⟨hz0, hz1⟩⟩ := (chkB_iff bit near far drift bad).1 h1
    unfold maxLen at hm
    obtain ⟨mx, hmx⟩ : ∃ mx, mx = max 1 (3 * bad + 1) := ⟨_, rfl⟩
    have hif : (if (1 : Int) < 3 * bad + 1 then 3 * bad + 1 else 1) = mx := by split <;> omega
    have hmb : mayB bit near far drift bad l = (wB l.length mx 8 && l.all fun n => wB n 1 100000) := by simp [mayB, h1, hmx]
    have HMB := Lib.hid hmb
    clear hmx hmb
    cases h2 : wB l.length mx 8
    · go_enter Tryz.func22, Tryz.ntmps22
      go_wp2_with fail
      refine (check_any _ _ _ _ _ _).mono ?_
      rw [h1]
      rintro e w1 ⟨rfl, b1⟩
      obtain ⟨c0, c1, c2, c3, c4⟩ := cells5 (kept_new b1)
      go_wp2_with fail
      refine (within_any _ _ _ _).mono ?_
      rw [h2]
      rintro e w2 ⟨rfl, rfl⟩
      go_wp2_with fail
      go_ret
      exact ⟨by rw [HMB.out, h2]; rfl, bnext (balloc (Below.refl _ _) _) b1⟩
    · go_enter Tryz.func22, Tryz.ntmps22
      go_wp2_with fail
      refine (check_any _ _ _ _ _ _).mono ?_
      rw [h1]
      rintro e w1 ⟨rfl, b1⟩
      obtain ⟨c0, c1, c2, c3, c4⟩ := cells5 (kept_new b1)
      have B1 := bnext (balloc (Below.refl _ _) _) b1
      have R1 := h.below B1
      clear b1
      go_wp2_with fail
      refine (within_any _ _ _ _).mono ?_
      rw [h2]
      rintro e w2 ⟨rfl, rfl⟩
      clear c0 c1 c2 c3 c4 hif
      obtain ⟨_, _, hv, _, _, _, hcell⟩ := R1
      rw [List.length_map] at hv
      simp only [Value.slice.injEq] at hv
      obtain ⟨rfl, _, rfl⟩ := hv
      have HC := Lib.hid hcell
      clear hcell h
      go_wp2_with fail
      go_loop [6, 23] (fun _ i => ∃ k : Nat, k ≤ l.length ∧ i = .int .i64 k ∧ Hid ((l.take k).all (fun n => wB n 1 100000) = true)) (fun _ i => l.length - (intOf i).toNat)
      case atStart => exact ⟨0, by omega, rfl, rfl⟩
      case round =>
        obtain ⟨k, hk, rfl, hall⟩ := hrel
        by_cases hlt : k < l.length
        · obtain ⟨b, o, rfl, hcl⟩ := HC.out k _ (map_get hlt)
          clear HC
          cases h3 : wB l[k] 1 100000
          · go_wp2_with (go_at_call 26; refine (within_any _ _ _ _).mono ?_; rw [h3]; rintro e w' ⟨rfl, rfl⟩)
            go_ret
            refine ⟨?_, B1⟩
            have e : mayB bit near far drift bad l = false := by
              rw [HMB.out, h2, Bool.true_and, List.all_eq_false]
              exact ⟨l[k], List.getElem_mem hlt, by simp [h3]⟩
            rw [e]
            rfl
          · have hall2 : Hid ((l.take (k + 1)).all (fun n => wB n 1 100000) = true) := by
              unfold Hid
              rw [take_snoc _ _ hlt, List.all_append, hall.out]
              simp [h3]
            go_wp2_with (go_at_call 26; refine (within_any _ _ _ _).mono ?_; rw [h3]; rintro e w' ⟨rfl, rfl⟩)
            go_round
            case rel => exact ⟨k + 1, by omega, by go_num, hall2⟩
            case measure => simp [intOf]; omega
        · obtain rfl : k = l.length := by omega
          clear HC
          go_wp2_with fail
          go_ret
          refine ⟨?_, B1⟩
          have e := hall.out
          rw [List.take_length] at e
          rw [HMB.out, h2, e]
          rfl
end Go.Proofs.YtppjphelibdlcaaGreatDoor
