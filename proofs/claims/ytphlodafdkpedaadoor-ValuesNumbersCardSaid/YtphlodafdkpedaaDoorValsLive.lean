/-
  The answers that the document fixes are alive (printed by wip/genlive.py).
-/
import Derived.Test.YtphlodafdkpedaaDoorValsLaw
namespace Go.Proofs.YtphlodafdkpedaaDoor
open Go.RowKit
open Go

theorem tx1 : textV (1, -5) = ⟨#[45, 53]⟩ := by
  have e : Lib.itoa (-((5 : Nat) : Int)) = [45, 53] := by rw [Lib.itoa_neg 5 (by omega), Lib.decDigits_one (by omega)]; rfl
  change ByteArray.mk (Lib.itoa (-((5 : Nat) : Int))).toArray = _
  rw [e]
theorem tx2 : textV (2, 1) = ⟨#[116, 114, 117, 101]⟩ := rfl
theorem alive_yes (b : Bool) (w : World) : Calls Tryd.prog 17 #[.bool b] w fun e w' => e = .returned (.agg #[.int .u8 2, .int .i64 (boolI b)]) ∧ Below w.heap.size w w' := lyes_any b w
set_option maxRecDepth 20000 in
set_option maxHeartbeats 16000000 in
theorem alive_any (w : World) (ht : Tab w) : Calls Tryd.prog 16 #[] w fun e w' => e = .returned (.bool true) ∧ Below w.heap.size w w' := by
  have N := Lib.hid (fun n w => nums_any n w)
  have B := Below.refl w.heap.size w
  have HT := Lib.hid ht
  have YT : Hid (∀ w, Calls Tryd.prog 17 #[.bool true] w fun e w' => e = .returned (.agg #[.int .u8 2, .int .i64 1]) ∧ Below w.heap.size w w') := fun w => alive_yes true w
  have YF : Hid (∀ w, Calls Tryd.prog 17 #[.bool false] w fun e w' => e = .returned (.agg #[.int .u8 2, .int .i64 0]) ∧ Below w.heap.size w w') := fun w => alive_yes false w
  have T1 : Hid (∀ w, Tab w → Calls Tryd.prog 12 #[.agg #[.int .u8 1, .int .i64 (-5)]] w fun e w' => e = .returned (.string ⟨#[45, 53]⟩) ∧ Below w.heap.size w w') := fun w h => tx1 ▸ text_any (1, -5) (by decide) (by decide) w h
  have T2 : Hid (∀ w, Tab w → Calls Tryd.prog 12 #[.agg #[.int .u8 2, .int .i64 1]] w fun e w' => e = .returned (.string ⟨#[116, 114, 117, 101]⟩) ∧ Below w.heap.size w w') := fun w h => tx2 ▸ text_any (2, 1) (by decide) (by decide) w h
  clear ht
  have D1 : Hid (∀ w, Calls Tryd.prog 18 #[.int .u8 6, .slice (some ⟨w.heap.size, 0, none⟩) 1 1] (w.alloc (.cells #[.int .u8 1, .int .i64 (1)] 24 (0, 0))) fun e w' => e = .returned (.tuple #[.agg #[.int .u8 0, .int .i64 0], .int .i64 1]) ∧ Below w.heap.size w w') := by
    intro w
    have H := do_any 6 _ _ _ (rd_1 1 (1) w)
    rw [show doV 6 [(1, (1))] = ((0, 0), 1) by decide +kernel] at H
    exact H.mono fun e w' ⟨he, hb⟩ => ⟨he, bnext (balloc (Below.refl _ _) _) hb⟩
  have D2 : Hid (∀ w, Calls Tryd.prog 18 #[.int .u8 6, .slice (some ⟨w.heap.size, 0, none⟩) 2 2] (w.alloc (.cells #[.int .u8 1, .int .i64 (1), .int .u8 2, .int .i64 (1)] 24 (0, 0))) fun e w' => e = .returned (.tuple #[.agg #[.int .u8 0, .int .i64 0], .int .i64 7]) ∧ Below w.heap.size w w') := by
    intro w
    have H := do_any 6 _ _ _ (rd_2 1 (1) 2 (1) w)
    rw [show doV 6 [(1, (1)), (2, (1))] = ((0, 0), 7) by decide +kernel] at H
    exact H.mono fun e w' ⟨he, hb⟩ => ⟨he, bnext (balloc (Below.refl _ _) _) hb⟩
  have D3 : Hid (∀ w c, Calls Tryd.prog 18 #[.int .u8 5, .slice (some ⟨w.heap.size + 1, 0, none⟩) 1 1] ((w.alloc c).alloc (.cells #[.int .u8 2, .int .i64 (2)] 24 (0, 0))) fun e w' => e = .returned (.tuple #[.agg #[.int .u8 0, .int .i64 0], .int .i64 1]) ∧ Below w.heap.size w w') := by
    intro w c
    have H := do_any 5 _ _ _ (rd_1 2 (2) (w.alloc c))
    rw [show doV 5 [(2, (2))] = ((0, 0), 1) by decide +kernel, show (w.alloc c).heap.size = w.heap.size + 1 by simp] at H
    exact H.mono fun e w' ⟨he, hb⟩ => ⟨he, bnext (balloc (balloc (Below.refl _ _) _) _) (by simpa using hb)⟩
  have D4 := Lib.hid (fun w => do2_any 9 1 (-7) 1 (2) 1 (-3) w (by decide +kernel))
  have D5 := Lib.hid (fun w => do2_any 10 1 (-7) 1 (2) 1 (-1) w (by decide +kernel))
  have D6 := Lib.hid (fun w => do2_any 9 1 (5) 1 (0) 1 (0) w (by decide +kernel))
  have D7 := Lib.hid (fun w => do2_any 9 1 (-9223372036854775808) 1 (-1) 1 (-9223372036854775808) w (by decide +kernel))
  have D8 := Lib.hid (fun w => do3_any 17 2 (1) 1 (1) 1 (2) 1 (1) w (by decide +kernel))
  have D9 := Lib.hid (fun w => do2_any 12 2 (1) 2 (0) 2 (1) w (by decide +kernel))
  go_enter Tryd.func16, Tryd.ntmps16
  go_wp2_with fail
  refine (N.out _ _).mono ?_
  rintro e w1 ⟨rfl, b⟩
  replace B : Below w.heap.size w w1 := by first | with_reducible exact bnext B b | with_reducible exact bnext (balloc B _) b
  clear b
  go_wp2_with fail
  refine (D1.out _).mono ?_
  rintro e w1 ⟨rfl, b⟩
  replace B : Below w.heap.size w w1 := by first | with_reducible exact bnext B b | with_reducible exact bnext (balloc B _) b
  clear b
  go_wp2_with fail
  refine (N.out _ _).mono ?_
  rintro e w1 ⟨rfl, b⟩
  replace B : Below w.heap.size w w1 := by first | with_reducible exact bnext B b | with_reducible exact bnext (balloc B _) b
  clear b
  go_wp2_with fail
  refine (YT.out _).mono ?_
  rintro e w1 ⟨rfl, b⟩
  replace B : Below w.heap.size w w1 := by first | with_reducible exact bnext B b | with_reducible exact bnext (balloc B _) b
  clear b
  go_wp2_with fail
  refine (D2.out _).mono ?_
  rintro e w1 ⟨rfl, b⟩
  replace B : Below w.heap.size w w1 := by first | with_reducible exact bnext B b | with_reducible exact bnext (balloc B _) b
  clear b
  go_wp2_with fail
  refine (D3.out _ _).mono ?_
  rintro e w1 ⟨rfl, b⟩
  replace B : Below w.heap.size w w1 := by first | with_reducible exact bnext B b | with_reducible exact bnext (balloc B _) b
  clear b
  go_wp2_with fail
  refine (N.out _ _).mono ?_
  rintro e w1 ⟨rfl, b⟩
  replace B : Below w.heap.size w w1 := by first | with_reducible exact bnext B b | with_reducible exact bnext (balloc B _) b
  clear b
  go_wp2_with fail
  refine (N.out _ _).mono ?_
  rintro e w1 ⟨rfl, b⟩
  replace B : Below w.heap.size w w1 := by first | with_reducible exact bnext B b | with_reducible exact bnext (balloc B _) b
  clear b
  go_wp2_with fail
  refine (D4.out _).mono ?_
  rintro e w1 ⟨rfl, b⟩
  replace B : Below w.heap.size w w1 := by first | with_reducible exact bnext B b | with_reducible exact bnext (balloc B _) b
  clear b
  go_wp2_with fail
  refine (N.out _ _).mono ?_
  rintro e w1 ⟨rfl, b⟩
  replace B : Below w.heap.size w w1 := by first | with_reducible exact bnext B b | with_reducible exact bnext (balloc B _) b
  clear b
  go_wp2_with fail
  refine (N.out _ _).mono ?_
  rintro e w1 ⟨rfl, b⟩
  replace B : Below w.heap.size w w1 := by first | with_reducible exact bnext B b | with_reducible exact bnext (balloc B _) b
  clear b
  go_wp2_with fail
  refine (N.out _ _).mono ?_
  rintro e w1 ⟨rfl, b⟩
  replace B : Below w.heap.size w w1 := by first | with_reducible exact bnext B b | with_reducible exact bnext (balloc B _) b
  clear b
  go_wp2_with fail
  refine (D5.out _).mono ?_
  rintro e w1 ⟨rfl, b⟩
  replace B : Below w.heap.size w w1 := by first | with_reducible exact bnext B b | with_reducible exact bnext (balloc B _) b
  clear b
  go_wp2_with fail
  refine (N.out _ _).mono ?_
  rintro e w1 ⟨rfl, b⟩
  replace B : Below w.heap.size w w1 := by first | with_reducible exact bnext B b | with_reducible exact bnext (balloc B _) b
  clear b
  go_wp2_with fail
  refine (N.out _ _).mono ?_
  rintro e w1 ⟨rfl, b⟩
  replace B : Below w.heap.size w w1 := by first | with_reducible exact bnext B b | with_reducible exact bnext (balloc B _) b
  clear b
  go_wp2_with fail
  refine (N.out _ _).mono ?_
  rintro e w1 ⟨rfl, b⟩
  replace B : Below w.heap.size w w1 := by first | with_reducible exact bnext B b | with_reducible exact bnext (balloc B _) b
  clear b
  go_wp2_with fail
  refine (D6.out _).mono ?_
  rintro e w1 ⟨rfl, b⟩
  replace B : Below w.heap.size w w1 := by first | with_reducible exact bnext B b | with_reducible exact bnext (balloc B _) b
  clear b
  go_wp2_with fail
  refine (N.out _ _).mono ?_
  rintro e w1 ⟨rfl, b⟩
  replace B : Below w.heap.size w w1 := by first | with_reducible exact bnext B b | with_reducible exact bnext (balloc B _) b
  clear b
  go_wp2_with fail
  refine (N.out _ _).mono ?_
  rintro e w1 ⟨rfl, b⟩
  replace B : Below w.heap.size w w1 := by first | with_reducible exact bnext B b | with_reducible exact bnext (balloc B _) b
  clear b
  go_wp2_with fail
  refine (N.out _ _).mono ?_
  rintro e w1 ⟨rfl, b⟩
  replace B : Below w.heap.size w w1 := by first | with_reducible exact bnext B b | with_reducible exact bnext (balloc B _) b
  clear b
  go_wp2_with fail
  refine (D7.out _).mono ?_
  rintro e w1 ⟨rfl, b⟩
  replace B : Below w.heap.size w w1 := by first | with_reducible exact bnext B b | with_reducible exact bnext (balloc B _) b
  clear b
  go_wp2_with fail
  refine (N.out _ _).mono ?_
  rintro e w1 ⟨rfl, b⟩
  replace B : Below w.heap.size w w1 := by first | with_reducible exact bnext B b | with_reducible exact bnext (balloc B _) b
  clear b
  go_wp2_with fail
  refine (YT.out _).mono ?_
  rintro e w1 ⟨rfl, b⟩
  replace B : Below w.heap.size w w1 := by first | with_reducible exact bnext B b | with_reducible exact bnext (balloc B _) b
  clear b
  go_wp2_with fail
  refine (N.out _ _).mono ?_
  rintro e w1 ⟨rfl, b⟩
  replace B : Below w.heap.size w w1 := by first | with_reducible exact bnext B b | with_reducible exact bnext (balloc B _) b
  clear b
  go_wp2_with fail
  refine (N.out _ _).mono ?_
  rintro e w1 ⟨rfl, b⟩
  replace B : Below w.heap.size w w1 := by first | with_reducible exact bnext B b | with_reducible exact bnext (balloc B _) b
  clear b
  go_wp2_with fail
  refine (D8.out _).mono ?_
  rintro e w1 ⟨rfl, b⟩
  replace B : Below w.heap.size w w1 := by first | with_reducible exact bnext B b | with_reducible exact bnext (balloc B _) b
  clear b
  go_wp2_with fail
  refine (N.out _ _).mono ?_
  rintro e w1 ⟨rfl, b⟩
  replace B : Below w.heap.size w w1 := by first | with_reducible exact bnext B b | with_reducible exact bnext (balloc B _) b
  clear b
  go_wp2_with fail
  refine (YT.out _).mono ?_
  rintro e w1 ⟨rfl, b⟩
  replace B : Below w.heap.size w w1 := by first | with_reducible exact bnext B b | with_reducible exact bnext (balloc B _) b
  clear b
  go_wp2_with fail
  refine (YF.out _).mono ?_
  rintro e w1 ⟨rfl, b⟩
  replace B : Below w.heap.size w w1 := by first | with_reducible exact bnext B b | with_reducible exact bnext (balloc B _) b
  clear b
  go_wp2_with fail
  refine (D9.out _).mono ?_
  rintro e w1 ⟨rfl, b⟩
  replace B : Below w.heap.size w w1 := by first | with_reducible exact bnext B b | with_reducible exact bnext (balloc B _) b
  clear b
  go_wp2_with fail
  refine (YT.out _).mono ?_
  rintro e w1 ⟨rfl, b⟩
  replace B : Below w.heap.size w w1 := by first | with_reducible exact bnext B b | with_reducible exact bnext (balloc B _) b
  clear b
  go_wp2_with fail
  refine (N.out _ _).mono ?_
  rintro e w1 ⟨rfl, b⟩
  replace B : Below w.heap.size w w1 := by first | with_reducible exact bnext B b | with_reducible exact bnext (balloc B _) b
  clear b
  go_wp2_with fail
  refine (T1.out _ (HT.out.below B)).mono ?_
  rintro e w1 ⟨rfl, b⟩
  replace B : Below w.heap.size w w1 := by first | with_reducible exact bnext B b | with_reducible exact bnext (balloc B _) b
  clear b
  go_wp2_with fail
  refine (YT.out _).mono ?_
  rintro e w1 ⟨rfl, b⟩
  replace B : Below w.heap.size w w1 := by first | with_reducible exact bnext B b | with_reducible exact bnext (balloc B _) b
  clear b
  go_wp2_with fail
  refine (T2.out _ (HT.out.below B)).mono ?_
  rintro e w1 ⟨rfl, b⟩
  replace B : Below w.heap.size w w1 := by first | with_reducible exact bnext B b | with_reducible exact bnext (balloc B _) b
  clear b
  go_wp2_with fail
  go_ret
  exact ⟨rfl, B⟩
end Go.Proofs.YtphlodafdkpedaaDoor
