/-
  The walk of belfrylaw11.ValuesTold.
-/
import Derived.Test.YtphlodafdkpedaaDoorToldMath
import Derived.Test.YtphlodafdkpedaaDoorMayMath
import Derived.Test.YtphlodafdkpedaaDoorValsLive
namespace Go.Proofs.YtphlodafdkpedaaDoor
open Go.RowKit
open Go

set_option maxRecDepth 20000 in
set_option maxHeartbeats 4000000 in
theorem told_walk (a b : Int) (S T : ByteArray) (W : World) (ht : Tab W) (hS : S.size ≤ 21) (hne : S.toList.isEmpty = false) (R : Nat → Int) (hR0 : R 0 = 0) (hR1 : a < 0 → R 0 = R 1)
    (hR : ∀ (k : Nat) (h : k < S.size), 48 ≤ (S[k].toNat : Int) → R (k + 1) = IntKind.u64.wrap (IntKind.u64.wrap (10 * R k) + ((S[k].toNat : Int) - 48))) (hRb : ∀ k, 0 ≤ R k ∧ R k ≤ 18446744073709551615)
    (hneg : a < 0 → ∃ h : 0 < S.size, (S[0].toNat : Int) = 45) (hEnd : IntKind.i64.wrap (if a < 0 then IntKind.u64.wrap (-R S.size) else R S.size) = a) (hEq : (S.toList == T.toList) = (a == b))
    (hcase : ∀ (k : Nat) (h : k < S.size), (k = 0 ∧ a < 0 ∧ (S[k].toNat : Int) = 45) ∨ (48 ≤ (S[k].toNat : Int) ∧ (S[k].toNat : Int) ≤ 57 ∧ ((S[k].toNat : Int) = 48 → S.size ≤ 1 ∨ (k ≠ 0 ∧ (k = 1 → 0 ≤ a)))))
    (TA : ∀ w, Tab w → Calls Tryd.prog 12 #[.agg #[.int .u8 1, .int .i64 a]] w fun e w' => e = .returned (.string S) ∧ Below w.heap.size w w')
    (TB : ∀ w, Tab w → Calls Tryd.prog 12 #[.agg #[.int .u8 1, .int .i64 b]] w fun e w' => e = .returned (.string T) ∧ Below w.heap.size w w') :
    Calls Tryd.prog 8 #[.int .i64 a, .int .i64 b] W fun e w' => e = .returned (.bool true) ∧ Below W.heap.size W w' := by
  have N := Lib.hid (fun n w => nums_any n w)
  have AL := Lib.hid (fun w h => alive_any w h)
  have YT : Hid (∀ w, Calls Tryd.prog 17 #[.bool true] w fun e w' => e = .returned (.agg #[.int .u8 2, .int .i64 1]) ∧ Below w.heap.size w w') := fun w => alive_yes true w
  have YF : Hid (∀ w, Calls Tryd.prog 17 #[.bool false] w fun e w' => e = .returned (.agg #[.int .u8 2, .int .i64 0]) ∧ Below w.heap.size w w') := fun w => alive_yes false w
  have T1 : Hid (∀ w, Tab w → Calls Tryd.prog 12 #[.agg #[.int .u8 2, .int .i64 1]] w fun e w' => e = .returned (.string ⟨#[116, 114, 117, 101]⟩) ∧ Below w.heap.size w w') := fun w h => text_any (2, 1) (by decide) (by decide) w h
  have T0 : Hid (∀ w, Tab w → Calls Tryd.prog 12 #[.agg #[.int .u8 2, .int .i64 0]] w fun e w' => e = .returned (.string ⟨#[102, 97, 108, 115, 101]⟩) ∧ Below w.heap.size w w') := fun w h => text_any (2, 0) (by decide) (by decide) w h
  have T2 : Hid (∀ w, Tab w → Calls Tryd.prog 12 #[.agg #[.int .u8 2, .int .i64 2]] w fun e w' => e = .returned (.string ⟨#[]⟩) ∧ Below w.heap.size w w') := fun w h => text_any (2, 2) (by decide) (by decide) w h
  have HA := Lib.hid TA
  have HB := Lib.hid TB
  have HT := Lib.hid ht
  clear TA TB ht
  go_enter Tryd.func8, Tryd.ntmps8
  go_wp2_with fail
  refine (N.out _ _).mono ?_
  rintro e w1 ⟨rfl, b1⟩
  go_wp2_with fail
  refine (HA.out _ (HT.out.below b1)).mono ?_
  rintro e w2 ⟨rfl, b2⟩
  have B2 := bnext b1 b2
  clear b1 b2
  go_wp2_with fail
  refine (N.out _ _).mono ?_
  rintro e w3 ⟨rfl, b3⟩
  have B3 := bnext B2 b3
  clear b3 B2
  go_wp2_with fail
  refine (HB.out _ (HT.out.below B3)).mono ?_
  rintro e w4 ⟨rfl, b4⟩
  have B4 := bnext B3 b4
  clear b4 B3
  go_wp2_with fail
  go_loop [7, 8] (fun t i => ∃ k : Nat, k ≤ S.size ∧ i = .int .i64 k ∧ t = .int .u64 (R k) ∧ (0 ≤ R k ∧ R k ≤ 18446744073709551615)) (fun _ i => S.size - (intOf i).toNat)
  case atStart => exact ⟨0, by omega, rfl, by rw [hR0], by omega⟩
  case round =>
    obtain ⟨k, hk, rfl, rfl, hr0, hr1⟩ := hrel
    by_cases hlt : k < S.size
    · rcases hcase k hlt with ⟨rfl, ha, hx⟩ | ⟨h48, h57, hx⟩
      · have e0 : decide (a < 0) = true := by simpa using ha
        go_wp2_with fail
        go_round
        case rel => exact ⟨1, by omega, by go_num, by rw [hR1 ha], by rw [← hR1 ha]; omega⟩
        case measure => simp [intOf]; omega
      · have e1 : ((S[k].toNat : Int) == 45) = false := by rw [beq_eq_false_iff_ne]; omega
        have e2 : decide ((S[k].toNat : Int) < 48) = false := by rw [decide_eq_false_iff_not]; omega
        have e3 : decide ((S[k].toNat : Int) > 57) = false := by rw [decide_eq_false_iff_not]; omega
        by_cases h0 : (S[k].toNat : Int) = 48
        · have e4 : ((S[k].toNat : Int) == 48) = true := by rw [beq_iff_eq]; exact h0
          rcases hx h0 with hs | ⟨hk0, hk1⟩
          · have e5 : decide ((S.size : Int) > 1) = false := by rw [decide_eq_false_iff_not]; omega
            clear hcase hx
            go_wp2_with fail
            go_round
            case rel => exact ⟨k + 1, by omega, by go_num, by rw [hR k hlt h48, h0, Int.sub_self, Int.add_zero], hRb _⟩
            case measure => simp [intOf]; omega
          · have e6 : ((k : Int) == 0) = false := by rw [beq_eq_false_iff_ne]; omega
            by_cases k1 : k = 1
            · have e7 : decide (a < 0) = false := by rw [decide_eq_false_iff_not]; have := hk1 k1; omega
              subst k1
              clear hcase hx
              go_wp2_with fail
              go_round
              case rel => exact ⟨1 + 1, by omega, by go_num, by rw [hR 1 hlt h48, h0, Int.sub_self, Int.add_zero], hRb _⟩
              case measure => simp [intOf]; omega
            · have e7 : ((k : Int) == 1) = false := by rw [beq_eq_false_iff_ne]; omega
              clear hcase hx
              go_wp2_with fail
              go_round
              case rel => exact ⟨k + 1, by omega, by go_num, by rw [hR k hlt h48, h0, Int.sub_self, Int.add_zero], hRb _⟩
              case measure => simp [intOf]; omega
        · have e4 : ((S[k].toNat : Int) == 48) = false := by rw [beq_eq_false_iff_ne]; omega
          clear hcase hx
          go_wp2_with fail
          go_round
          case rel => exact ⟨k + 1, by omega, by go_num, by rw [hR k hlt h48], hRb _⟩
          case measure => simp [intOf]; omega
    · obtain rfl : k = S.size := by omega
      clear hcase hR hR1 hR0 hlt hk
      by_cases ha : a < 0
      · obtain ⟨hp, h45⟩ := hneg ha
        have e1 : decide (a < 0) = true := by simpa using ha
        have e2 : ((S[0].toNat : Int) != 45) = false := by simp [h45]
        have e3 : ((S[0].toNat : Int) == 45) = true := by simp [h45]
        have hE := hEnd
        rw [if_pos ha] at hE
        have e4 : (IntKind.i64.wrap (IntKind.u64.wrap (-R S.size)) == a) = true := by rw [hE]; simp
        by_cases hgt : b < a
        · have g1 : decide (a > b) = true := by simpa using hgt
          have g2 : decide (a ≤ b) = false := by rw [decide_eq_false_iff_not]; omega
          go_wp2_with fail
          refine (AL.out _ (HT.out.below B4)).mono ?_
          rintro e w5 ⟨rfl, b5⟩
          have B5 := bnext B4 b5
          clear b5
          go_wp2_with fail
          refine (YT.out _).mono ?_
          rintro e w6 ⟨rfl, b⟩
          have B6 := bnext B5 b
          clear b
          go_wp2_with fail
          refine (T1.out _ (HT.out.below B6)).mono ?_
          rintro e w7 ⟨rfl, b⟩
          have B7 := bnext B6 b
          clear b
          go_wp2_with fail
          refine (YF.out _).mono ?_
          rintro e w8 ⟨rfl, b⟩
          have B8 := bnext B7 b
          clear b
          go_wp2_with fail
          refine (T0.out _ (HT.out.below B8)).mono ?_
          rintro e w9 ⟨rfl, b⟩
          have B9 := bnext B8 b
          clear b
          go_wp2_with fail
          refine (T2.out _ (HT.out.below B9)).mono ?_
          rintro e w10 ⟨rfl, b⟩
          have B10 := bnext B9 b
          clear b
          go_wp2_with fail
          go_ret
          exact ⟨by simp, B10⟩
        · have g1 : decide (a > b) = false := by rw [decide_eq_false_iff_not]; omega
          have g2 : decide (a ≤ b) = true := by rw [decide_eq_true_iff]; omega
          go_wp2_with fail
          refine (AL.out _ (HT.out.below B4)).mono ?_
          rintro e w5 ⟨rfl, b5⟩
          have B5 := bnext B4 b5
          clear b5
          go_wp2_with fail
          refine (YF.out _).mono ?_
          rintro e w6 ⟨rfl, b⟩
          have B6 := bnext B5 b
          clear b
          go_wp2_with fail
          refine (T0.out _ (HT.out.below B6)).mono ?_
          rintro e w7 ⟨rfl, b⟩
          have B7 := bnext B6 b
          clear b
          go_wp2_with fail
          refine (YT.out _).mono ?_
          rintro e w8 ⟨rfl, b⟩
          have B8 := bnext B7 b
          clear b
          go_wp2_with fail
          refine (T1.out _ (HT.out.below B8)).mono ?_
          rintro e w9 ⟨rfl, b⟩
          have B9 := bnext B8 b
          clear b
          go_wp2_with fail
          refine (T2.out _ (HT.out.below B9)).mono ?_
          rintro e w10 ⟨rfl, b⟩
          have B10 := bnext B9 b
          clear b
          go_wp2_with fail
          go_ret
          exact ⟨by simp, B10⟩
      · have e1 : decide (a < 0) = false := by rw [decide_eq_false_iff_not]; omega
        have hE := hEnd
        rw [if_neg ha] at hE
        have e4 : (IntKind.i64.wrap (R S.size) == a) = true := by rw [hE]; simp
        by_cases hgt : b < a
        · have g1 : decide (a > b) = true := by simpa using hgt
          have g2 : decide (a ≤ b) = false := by rw [decide_eq_false_iff_not]; omega
          go_wp2_with fail
          refine (AL.out _ (HT.out.below B4)).mono ?_
          rintro e w5 ⟨rfl, b5⟩
          have B5 := bnext B4 b5
          clear b5
          go_wp2_with fail
          refine (YT.out _).mono ?_
          rintro e w6 ⟨rfl, b⟩
          have B6 := bnext B5 b
          clear b
          go_wp2_with fail
          refine (T1.out _ (HT.out.below B6)).mono ?_
          rintro e w7 ⟨rfl, b⟩
          have B7 := bnext B6 b
          clear b
          go_wp2_with fail
          refine (YF.out _).mono ?_
          rintro e w8 ⟨rfl, b⟩
          have B8 := bnext B7 b
          clear b
          go_wp2_with fail
          refine (T0.out _ (HT.out.below B8)).mono ?_
          rintro e w9 ⟨rfl, b⟩
          have B9 := bnext B8 b
          clear b
          go_wp2_with fail
          refine (T2.out _ (HT.out.below B9)).mono ?_
          rintro e w10 ⟨rfl, b⟩
          have B10 := bnext B9 b
          clear b
          go_wp2_with fail
          go_ret
          exact ⟨by simp, B10⟩
        · have g1 : decide (a > b) = false := by rw [decide_eq_false_iff_not]; omega
          have g2 : decide (a ≤ b) = true := by rw [decide_eq_true_iff]; omega
          go_wp2_with fail
          refine (AL.out _ (HT.out.below B4)).mono ?_
          rintro e w5 ⟨rfl, b5⟩
          have B5 := bnext B4 b5
          clear b5
          go_wp2_with fail
          refine (YF.out _).mono ?_
          rintro e w6 ⟨rfl, b⟩
          have B6 := bnext B5 b
          clear b
          go_wp2_with fail
          refine (T0.out _ (HT.out.below B6)).mono ?_
          rintro e w7 ⟨rfl, b⟩
          have B7 := bnext B6 b
          clear b
          go_wp2_with fail
          refine (YT.out _).mono ?_
          rintro e w8 ⟨rfl, b⟩
          have B8 := bnext B7 b
          clear b
          go_wp2_with fail
          refine (T1.out _ (HT.out.below B8)).mono ?_
          rintro e w9 ⟨rfl, b⟩
          have B9 := bnext B8 b
          clear b
          go_wp2_with fail
          refine (T2.out _ (HT.out.below B9)).mono ?_
          rintro e w10 ⟨rfl, b⟩
          have B10 := bnext B9 b
          clear b
          go_wp2_with fail
          go_ret
          exact ⟨by simp, B10⟩
end Go.Proofs.YtphlodafdkpedaaDoor
