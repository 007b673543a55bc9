/-
  The walk of ClocksRise: a clock never goes backwards; it is asked when it shows something.
-/
import Derived.Test.YtmkphllfignbpaaClkArgs
import Derived.Test.YtmkphllfignbpaaClkNew
import Derived.Test.YtmkphllfignbpaaClkSort
import Derived.Test.YtmkphllfignbpaaKit3
namespace Go.Proofs.Ytmkphllfignbpaa
open Go.RowKit
open Go

set_option maxHeartbeats 4000000 in
set_option maxRecDepth 100000 in
theorem walk_ClocksRise (v0 : Value) (W : World) (A0 : Arg Try.prog 48 W v0) :
    Calls Try.prog 6 #[v0] W fun e w' => e = .returned (.bool true) ∧ Below W.heap.size W w' := by
  obtain ⟨s, g, u, want, ts, rfl, hR, hT, _, _, hw0, hw1⟩ := A0.rising
  clear A0
  obtain ⟨a, c, rfl, hc, hm⟩ := hR.shape
  unfold maxLen at hm
  have L := fun w => lives_any sort_any w
  have HL := Lib.hid L
  clear L
  cases hnew : newB s g
  · have N := fun w => new_no s g w (newB_not s g hnew)
    have HN := Lib.hid N
    clear N hnew hT hR
    go_enter Try.func6, Try.ntmps6
    go_wp2_with fail
    refine (HN.out _).mono ?_
    rintro e w1 ⟨rfl, rfl⟩
    go_wp2_with fail
    refine (HL.out _).mono ?_
    rintro e w2 ⟨rfl, b2⟩
    go_wp2_with fail
    go_ret
    exact ⟨rfl, bnext (balloc (Below.refl _ _) _) b2⟩
  · obtain ⟨n1, n2, n3⟩ := (newB_iff s g).1 hnew
    have N1 := newB_n hnew (u := 0) (by decide)
    have HN := Lib.hid (fun w => new_ok s g w n1 n2 n3)
    have B0 := balloc (Below.refl W.heap.size W) (.cells #[.int .i64 s, .int .i64 g, .slice a ts.length c, .int .i64 want] 48 (0, 0))
    obtain ⟨s0, s1⟩ := (smallB_iff s).1 n1
    clear hnew n1
    by_cases hlen : 100 < ts.length
    · clear hR hT
      go_enter Try.func6, Try.ntmps6
      go_wp2_with fail
      refine (HN.out _).mono ?_
      rintro e w1 ⟨rfl, c1, b1⟩
      go_wp2_with fail
      refine (HL.out _).mono ?_
      rintro e w2 ⟨rfl, b2⟩
      go_wp2_with fail
      go_ret
      exact ⟨rfl, bnext (bnext B0 b1) b2⟩
    · have HT := Lib.hid hT
      have HR := Lib.hid hR
      have A1 := fun w hc => at_any w (W.heap.size + 1) s g 0 0 hc N1
      rw [atV_ok (by omega) (by omega), face_zero, Int.add_zero] at A1
      have HA := Lib.hid A1
      clear hT hR A1
      go_enter Try.func6, Try.ntmps6
      go_wp2_with fail
      refine (HN.out _).mono ?_
      rintro e w1 ⟨rfl, c1, b1⟩
      have C1 : Hid (Clk w1 (W.heap.size + 1) s g 0) := by
        unfold Hid
        simpa using c1
      have B1 := bnext B0 b1
      clear c1 b1 B0 HN
      go_wp2_with fail
      refine (HA.out _ C1.out).mono ?_
      rintro e w2 ⟨rfl, d2, rfl⟩
      have C2 : Hid (Clk (w1.drewN d2) (W.heap.size + 1) s g 0) := C1.out.below (bdraw (Below.refl _ _) _)
      have B2 := bdraw B1 d2
      clear C1 B1 HA
      generalize w1.drewN d2 = w2 at *
      go_wp2_with fail
      go_loopw [9, 10, 12] (fun at_ last i wr => ∃ (n : Nat) (t : Int), n ≤ ts.length ∧ i = .int .i64 n ∧ at_ = .int .i64 t ∧ 0 ≤ t ∧ t ≤ n * 4294967295 ∧ last = .int .i64 (faceI s g 0 t) ∧ Below w2.heap.size w2 wr) (fun _ _ i _ => ts.length - (intOf i).toNat)
      case atStart => exact ⟨0, 0, by omega, rfl, rfl, by omega, by omega, by rw [face_zero, Int.add_zero], Below.refl _ _⟩
      case round =>
        obtain ⟨n, t, hn, rfl, rfl, ht0, ht1, rfl, hb⟩ := hrel
        by_cases hlt : n < ts.length
        · obtain ⟨b, o, rfl, hcl⟩ := (HR.out.below (B2.trans (hb.mono B2.size))).get n hlt
          obtain ⟨t0, t1⟩ := HT.out _ (List.getElem_mem hlt)
          generalize ts[n] = dt at *
          have A1 := at_any wr (W.heap.size + 1) s g 0 (t + dt) (C2.out.below hb) N1
          rw [atV_ok (by omega) (by omega)] at A1
          have hle := face_mono (f := s) (u := 0) n2 n3 (show t ≤ t + dt by omega)
          obtain ⟨y0, y1⟩ := face_in (t := t + dt) N1 ⟨by omega, by omega⟩
          obtain ⟨z0, z1⟩ := face_in (t := t) N1 ⟨by omega, by omega⟩
          have H1 := Lib.hid A1
          clear A1
          generalize hy : faceI s g 0 (t + dt) = y at *
          generalize faceI s g 0 t = z at *
          have HY := Lib.hid hy
          clear hy
          go_wp2_with fail
          refine H1.out.mono ?_
          rintro e w4 ⟨rfl, d4, rfl⟩
          go_wp2_with fail
          go_roundw
          case rel => exact ⟨n + 1, t + dt, by omega, by go_num, rfl, by omega, by omega, by rw [HY.out], bdraw hb _⟩
          case measure => simp [intOf]; omega
        · obtain rfl : n = ts.length := by omega
          have B3 := B2.trans (hb.mono B2.size)
          have C3 : Hid (Clk wr (W.heap.size + 1) s g 0) := C2.out.below hb
          clear hlt B2 hb C2
          generalize faceI s g 0 t = z at *
          go_wp2_with fail
          refine (when_rel wr (W.heap.size + 1) s g 0 want C3.out N1).mono ?_
          rintro e w5 ⟨x, r, R, rfl, b5⟩
          have C5 : Hid (Clk w5 (W.heap.size + 1) s g 0) := C3.out.below b5
          have B5 := bnext B3 b5
          clear b5 B3 C3
          rcases R with ⟨_, rfl, rfl⟩ | ⟨_, _, rfl, rfl⟩ | ⟨q1, q2, q3, rfl⟩
          · go_wp2_with fail
            refine (HL.out _).mono ?_
            rintro e w6 ⟨rfl, b6⟩
            go_wp2_with fail
            go_ret
            exact ⟨rfl, bnext B5 b6⟩
          · go_wp2_with fail
            refine (HL.out _).mono ?_
            rintro e w6 ⟨rfl, b6⟩
            go_wp2_with fail
            go_ret
            exact ⟨rfl, bnext B5 b6⟩
          · obtain ⟨r0, r1, r2, r3⟩ := q3
            have A1 := at_any w5 (W.heap.size + 1) s g 0 x C5.out N1
            rw [atV_ok r0 r1] at A1
            have H1 := Lib.hid A1
            clear q1 q2 A1
            have A2 := fun d => at_any (w5.drewN d) (W.heap.size + 1) s g 0 (x - 1) (C5.out.below (bdraw (Below.refl _ _) d)) N1
            by_cases hx : x = 0
            · subst hx
              have e2 : atV s g 0 (0 - 1) = .tuple #[.int .i64 0, .int .i64 1] := if_neg (by omega)
              rw [e2] at A2
              have H2 := Lib.hid A2
              clear A2 e2 r3
              generalize faceI s g 0 0 = y at *
              go_wp2_with fail
              refine H1.out.mono ?_
              rintro e w6 ⟨rfl, d6, rfl⟩
              go_wp2_with fail
              refine (H2.out _).mono ?_
              rintro e w6 ⟨rfl, d7, rfl⟩
              rw [World.drewN_drewN]
              go_wp2_with fail
              refine (HL.out _).mono ?_
              rintro e w6 ⟨rfl, b6⟩
              go_wp2_with fail
              go_ret
              exact ⟨rfl, bnext (bdraw B5 _) b6⟩
            · have hx2 : (x == 0) = false := beq_eq_false_iff_ne.2 hx
              have r4 : faceI s g 0 (x - 1) < want := by
                rcases r3 with h | h
                · exact absurd h hx
                · exact h
              have hpos : 0 < x := by omega
              rw [atV_ok (by omega) (by omega)] at A2
              have H2 := Lib.hid A2
              clear A2 r3 hx
              generalize faceI s g 0 (x - 1) = y1 at *
              generalize faceI s g 0 x = y at *
              go_wp2_with fail
              refine H1.out.mono ?_
              rintro e w6 ⟨rfl, d6, rfl⟩
              go_wp2_with fail
              refine (H2.out _).mono ?_
              rintro e w6 ⟨rfl, d7, rfl⟩
              rw [World.drewN_drewN]
              go_wp2_with fail
              refine (HL.out _).mono ?_
              rintro e w6 ⟨rfl, b6⟩
              go_wp2_with fail
              go_ret
              exact ⟨rfl, bnext (bdraw B5 _) b6⟩
end Go.Proofs.Ytmkphllfignbpaa
