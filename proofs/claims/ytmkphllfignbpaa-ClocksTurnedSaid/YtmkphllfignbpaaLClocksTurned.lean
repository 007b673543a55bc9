/-
  The walk of ClocksTurned: a clock that is turned shows just so much more; turned back, it is as it was.
-/
import Derived.Test.YtmkphllfignbpaaClkArgs
import Derived.Test.YtmkphllfignbpaaClkLives
import Derived.Test.YtmkphllfignbpaaClkSort
import Derived.Test.YtmkphllfignbpaaKit3
namespace Go.Proofs.Ytmkphllfignbpaa
open Go.RowKit
open Go

/-- May a clock be made? -/
def newB (s g : Int) : Bool := smallB s && (decide (-100000 ≤ g) && decide (g ≤ 100000))
theorem newB_iff (s g : Int) : newB s g = true ↔ smallB s = true ∧ -100000 ≤ g ∧ g ≤ 100000 := by simp [newB]
theorem newB_not (s g : Int) : newB s g = false → smallB s = false ∨ g < -100000 ∨ 100000 < g := by
  unfold newB
  cases smallB s <;> simp <;> omega
theorem newB_n {s g : Int} (h : newB s g = true) {u : Int} (hu : smallB u = true) : ClkN s g u := by
  obtain ⟨h1, h2, h3⟩ := (newB_iff s g).1 h
  obtain ⟨f0, f1⟩ := (smallB_iff s).1 h1
  obtain ⟨u0, u1⟩ := (smallB_iff u).1 hu
  exact ⟨f0, f1, h2, h3, u0, u1⟩
theorem atV_ok {f g u t : Int} (h : 0 ≤ t) (h1 : t ≤ 1099511627776) : atV f g u t = .tuple #[.int .i64 (faceI f g u t), .int .i64 0] := if_pos ⟨h, h1⟩
set_option maxHeartbeats 4000000 in
set_option maxRecDepth 100000 in
theorem walk_ClocksTurned (v0 v1 : Value) (W : World) (A0 : Arg Try.prog 48 W v0) (A1 : Arg Try.prog 3 W v1) :
    Calls Try.prog 7 #[v0, v1] W fun e w' => e = .returned (.bool true) ∧ Below W.heap.size W w' := by
  obtain ⟨s, g, u, want, ts, rfl, hR, hT, _, _, _⟩ := A0.rising
  obtain ⟨k, rfl, hk⟩ := A1.int Try.underlying3
  obtain ⟨k0, k1⟩ := bounds_i64 hk
  clear A0 A1 hk
  obtain ⟨a, c, rfl, hc, hm⟩ := hR.shape
  unfold maxLen at hm
  have L := fun w => lives_any sort_any w
  have HL := Lib.hid L
  clear L
  cases hnew : newB s g
  · have N := fun w => new_no s g w (newB_not s g hnew)
    have HN := Lib.hid N
    clear N hnew hT hR
    go_enter Try.func7, Try.ntmps7
    go_wp2_with fail
    refine (HN.out _).mono ?_
    rintro e w1 ⟨rfl, rfl⟩
    go_wp2_with fail
    refine (HN.out _).mono ?_
    rintro e w1 ⟨rfl, rfl⟩
    go_wp2_with fail
    refine (HL.out _).mono ?_
    rintro e w2 ⟨rfl, b2⟩
    go_wp2_with fail
    go_ret
    exact ⟨rfl, bnext (balloc (Below.refl _ _) _) b2⟩
  · obtain ⟨n1, n2, n3⟩ := (newB_iff s g).1 hnew
    have HN := Lib.hid (fun w => new_ok s g w n1 n2 n3)
    have HC := Lib.hid hnew
    have K0 := heap_alloc_new W (.cells #[.int .i64 s, .int .i64 g, .slice a ts.length c, .int .i64 want] 48 (0, 0))
    have B0 := balloc (Below.refl W.heap.size W) (.cells #[.int .i64 s, .int .i64 g, .slice a ts.length c, .int .i64 want] 48 (0, 0))
    have HK := Lib.hid K0
    clear K0 hnew n1
    go_enter Try.func7, Try.ntmps7
    go_wp2_with fail
    refine (HN.out _).mono ?_
    rintro e w1 ⟨rfl, c1, b1⟩
    have HK1 := Lib.hid ((b1.block _ (lt_of_block HK.out)).trans HK.out)
    have B1 := bnext B0 b1
    have x0 := cell_of_row _ _ 0 _ _ _ HK1.out
    have x1 := cell_of_row _ _ 1 _ _ _ HK1.out
    have p1 : Hid (W.heap.size + 1 < w1.heap.size) := by
      have := lt_of_block c1
      unfold Hid
      simpa using this
    have C1 := Lib.hid c1
    clear b1 B0 HK c1
    go_wp2_with fail
    refine (HN.out _).mono ?_
    rintro e w2 ⟨rfl, c2, b2⟩
    have HK2 := Lib.hid ((b2.block _ (lt_of_block HK1.out)).trans HK1.out)
    have B2 := bnext B1 b2
    have CC1 : Hid (Clk w2 (W.heap.size + 1) s g 0) := by
      have h := C1.out.below b2
      unfold Hid
      simpa using h
    have CC2 := Lib.hid c2
    have x2 := cell_of_row _ _ 2 _ _ _ HK2.out
    have x3 := cell_of_row _ _ 3 _ _ _ HK2.out
    clear b2 B1 HK1 C1 c2 HN
    by_cases hlen : 100 < ts.length
    · clear hR hT
      go_wp2_with fail
      refine (HL.out _).mono ?_
      rintro e w3 ⟨rfl, b3⟩
      go_wp2_with fail
      go_ret
      exact ⟨rfl, bnext B2 b3⟩
    · cases hk : smallB k
      · have T := Lib.hid (turn_arg w2 w1.heap.size s g 0 k CC2.out hk)
        have hk' : ¬ (-1099511627776 ≤ k ∧ k ≤ 1099511627776) := (smallB_not k).1 hk
        clear hk hR hT
        by_cases hk2 : k < -1099511627776
        · clear hk'
          go_wp2_with fail
          refine T.out.mono ?_
          rintro e w3 ⟨rfl, rfl⟩
          go_wp2_with fail
          refine (HL.out _).mono ?_
          rintro e w3 ⟨rfl, b3⟩
          go_wp2_with fail
          go_ret
          exact ⟨rfl, bnext B2 b3⟩
        · have hk3 : 1099511627776 < k := by omega
          clear hk'
          go_wp2_with fail
          refine T.out.mono ?_
          rintro e w3 ⟨rfl, rfl⟩
          go_wp2_with fail
          refine (HL.out _).mono ?_
          rintro e w3 ⟨rfl, b3⟩
          go_wp2_with fail
          go_ret
          exact ⟨rfl, bnext B2 b3⟩
      · have T := turn_ok w2 w1.heap.size s g 0 k CC2.out (newB_n HC.out (by decide)) hk
        rw [Int.zero_add] at T
        simp only [hk, if_true] at T
        have HT' := Lib.hid T
        have HKS := Lib.hid hk
        obtain ⟨kk0, kk1⟩ := (smallB_iff k).1 hk
        clear T hk
        go_wp2_with fail
        refine HT'.out.mono ?_
        rintro e w3 ⟨rfl, hw3⟩
        have B3 : Below W.heap.size W w3 := by rw [hw3]; exact B2.setCell (p := ⟨w1.heap.size, 3, none⟩) (by have := p1.out; show W.heap.size ≤ w1.heap.size; omega) _
        have D1 : Hid (Clk w3 (W.heap.size + 1) s g 0) := by
          rw [hw3]
          exact (Below.heap_setCell _ _ _ _ (by have := p1.out; show W.heap.size + 1 ≠ w1.heap.size; omega)).trans CC1.out
        have D2 : Hid (Clk w3 w1.heap.size s g k) := by
          rw [hw3]
          exact heap_setCell_same _ _ 3 _ _ _ CC2.out
        have HK3 : Hid (w3.heap[W.heap.size]? = some (.cells #[.int .i64 s, .int .i64 g, .slice a ts.length c, .int .i64 want] 48 (0, 0))) := by
          rw [hw3]
          exact (Below.heap_setCell _ _ _ _ (by have := p1.out; show W.heap.size ≠ w1.heap.size; omega)).trans HK2.out
        have N1 := newB_n HC.out (u := 0) (by decide)
        have N2 := newB_n HC.out HKS.out
        have HT := Lib.hid hT
        have HR := Lib.hid hR
        clear hw3 CC1 CC2 HK2 x2 x3 B2 hT hR
        go_wp2_with fail
        go_loopw [10] (fun i wr => ∃ n : Nat, n ≤ ts.length ∧ i = .int .i64 n ∧ Below w3.heap.size w3 wr) (fun i _ => ts.length - (intOf i).toNat)
        case atStart => exact ⟨0, by omega, rfl, Below.refl _ _⟩
        case round =>
          obtain ⟨n, hn, rfl, hb⟩ := hrel
          have x2 := cell_of_row _ _ 2 _ _ _ ((hb.block _ (lt_of_block HK3.out)).trans HK3.out)
          by_cases hlt : n < ts.length
          · obtain ⟨b, o, rfl, hcl⟩ := (HR.out.below (B3.trans (hb.mono B3.size))).get n hlt
            obtain ⟨t0, t1⟩ := HT.out _ (List.getElem_mem hlt)
            have A1 := at_any wr (W.heap.size + 1) s g 0 ts[n] (D1.out.below hb) N1
            have A2 := fun m => at_any (wr.drewN m) w1.heap.size s g k ts[n] (D2.out.below (bdraw hb m)) N2
            rw [atV_ok t0 (by omega)] at A1
            rw [atV_ok t0 (by omega)] at A2
            have hoff : faceI s g k ts[n] = faceI s g 0 ts[n] + k := by
              have := face_off s g 0 k ts[n]
              rwa [Int.zero_add] at this
            rw [hoff] at A2
            obtain ⟨y0, y1⟩ := face_in (t := ts[n]) N1 ⟨by omega, by omega⟩
            clear hoff
            generalize faceI s g 0 ts[n] = y at *
            generalize ts[n] = t at *
            have H1 := Lib.hid A1
            have H2 := Lib.hid A2
            clear A1 A2
            go_wp2_with fail
            refine H1.out.mono ?_
            rintro e w4 ⟨rfl, d4, rfl⟩
            go_wp2_with fail
            refine (H2.out _).mono ?_
            rintro e w5 ⟨rfl, d5, rfl⟩
            rw [World.drewN_drewN]
            go_wp2_with fail
            go_roundw
            case rel => exact ⟨n + 1, by omega, by go_num, bdraw hb _⟩
            case measure => simp [intOf]; omega
          · obtain rfl : n = ts.length := by omega
            have TB := turn_ok wr w1.heap.size s g k (-k) (D2.out.below hb) N2 (by rw [smallB_iff]; omega)
            rw [show k + -k = 0 by omega] at TB
            rw [show smallB 0 = true by decide] at TB
            simp only [if_true] at TB
            have HTB := Lib.hid TB
            clear TB hlt
            go_wp2_with fail
            refine HTB.out.mono ?_
            rintro e w4 ⟨rfl, hw4⟩
            have B3r := B3.trans (hb.mono B3.size)
            have B4 : Below W.heap.size W w4 := by rw [hw4]; exact B3r.setCell (p := ⟨w1.heap.size, 3, none⟩) (by have := p1.out; show W.heap.size ≤ w1.heap.size; omega) _
            have E1 : Hid (Clk w4 (W.heap.size + 1) s g 0) := by
              rw [hw4]
              exact (Below.heap_setCell _ _ _ _ (by have := p1.out; show W.heap.size + 1 ≠ w1.heap.size; omega)).trans (D1.out.below hb)
            have E2 : Hid (Clk w4 w1.heap.size s g 0) := by
              rw [hw4]
              exact heap_setCell_same _ _ 3 _ _ _ (D2.out.below hb)
            have HK4 : Hid (w4.heap[W.heap.size]? = some (.cells #[.int .i64 s, .int .i64 g, .slice a ts.length c, .int .i64 want] 48 (0, 0))) := by
              rw [hw4]
              exact (Below.heap_setCell _ _ _ _ (by have := p1.out; show W.heap.size ≠ w1.heap.size; omega)).trans ((hb.block _ (lt_of_block HK3.out)).trans HK3.out)
            have x3 := cell_of_row _ _ 3 _ _ _ HK4.out
            clear hw4 B3r x2 hb B3
            go_wp2_with fail
            refine (when_rel w4 (W.heap.size + 1) s g 0 want E1.out N1).mono ?_
            rintro e w5 ⟨z1, r1, R1, rfl, b5⟩
            have HR1 := Lib.hid R1
            have E5 := Lib.hid (E2.out.below b5)
            have x3 := cell_of_row _ _ 3 _ _ _ ((b5.block _ (lt_of_block HK4.out)).trans HK4.out)
            have B5 := bnext B4 b5
            clear b5 R1 B4
            go_wp2_with fail
            refine (when_rel w5 w1.heap.size s g 0 want E5.out N1).mono ?_
            rintro e w6 ⟨z2, r2, R2, rfl, b6⟩
            obtain ⟨rfl, rfl⟩ := HR1.out.one n2 n3 R2
            have B6 := bnext B5 b6
            clear b6 R2 B5
            go_wp2_with fail
            refine (HL.out _).mono ?_
            rintro e w7 ⟨rfl, b7⟩
            go_wp2_with fail
            go_ret
            exact ⟨rfl, bnext B6 b7⟩
end Go.Proofs.Ytmkphllfignbpaa
