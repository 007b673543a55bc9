/-
  The walk of the Book's Apart, over what fill, grow and look of each kind do (printed by wip/genapart.py).
-/
import Derived.Test.YtafamnodeliaaaaGreatDoorBookNil
namespace Go.Proofs.YtafamnodeliaaaaGreatDoor
open Go.RowKit
open Go
set_option linter.unusedVariables false

/-- A look that says yes, in all that follows. -/
def Looks (wr : World) (f : FuncId) (g : Nat) : Prop := ∀ w, Below wr.heap.size wr w → Calls Tryz.prog f #[.pointer (some ⟨g, 0, none⟩)] w fun e w' => e = .returned (.bool true) ∧ Below w.heap.size w w' 
set_option maxRecDepth 20000 in
set_option maxHeartbeats 16000000 in
theorem apart_any (g : Nat) (W : World) (S : Nat → World → Prop) (h : S 0 W)
    (F1 : Hid (∀ w, S 0 w → Calls Tryz.prog 26 #[.pointer (some ⟨g, 0, none⟩)] w fun e w' => e = .returned (.tuple #[]) ∧ S 1 w'))
    (F2 : Hid (∀ w, S 1 w → Calls Tryz.prog 27 #[.pointer (some ⟨g, 0, none⟩)] w fun e w' => e = .returned (.tuple #[]) ∧ S 2 w'))
    (F3 : Hid (∀ w, S 2 w → Calls Tryz.prog 28 #[.pointer (some ⟨g, 0, none⟩)] w fun e w' => e = .returned (.tuple #[]) ∧ S 3 w'))
    (F4 : Hid (∀ w, S 3 w → Calls Tryz.prog 29 #[.pointer (some ⟨g, 0, none⟩)] w fun e w' => e = .returned (.tuple #[]) ∧ S 4 w'))
    (F5 : Hid (∀ w, S 4 w → Calls Tryz.prog 30 #[.pointer (some ⟨g, 0, none⟩)] w fun e w' => e = .returned (.tuple #[]) ∧ S 5 w'))
    (F6 : Hid (∀ w, S 5 w → Calls Tryz.prog 31 #[.pointer (some ⟨g, 0, none⟩)] w fun e w' => e = .returned (.tuple #[]) ∧ S 6 w'))
    (F7 : Hid (∀ w, S 6 w → Calls Tryz.prog 32 #[.pointer (some ⟨g, 0, none⟩)] w fun e w' => e = .returned (.tuple #[]) ∧ S 7 w'))
    (F8 : Hid (∀ w, S 7 w → Calls Tryz.prog 33 #[.pointer (some ⟨g, 0, none⟩)] w fun e w' => e = .returned (.tuple #[]) ∧ S 8 w'))
    (F9 : Hid (∀ w, S 8 w → Calls Tryz.prog 34 #[.pointer (some ⟨g, 0, none⟩)] w fun e w' => e = .returned (.tuple #[]) ∧ S 9 w'))
    (F10 : Hid (∀ w, S 9 w → Calls Tryz.prog 35 #[.pointer (some ⟨g, 0, none⟩)] w fun e w' => e = .returned (.tuple #[]) ∧ S 10 w'))
    (F11 : Hid (∀ w, S 10 w → Calls Tryz.prog 36 #[.pointer (some ⟨g, 0, none⟩)] w fun e w' => e = .returned (.tuple #[]) ∧ S 11 w'))
    (F12 : Hid (∀ w, S 11 w → Calls Tryz.prog 37 #[.pointer (some ⟨g, 0, none⟩)] w fun e w' => e = .returned (.tuple #[]) ∧ S 12 w'))
    (F13 : Hid (∀ w, S 12 w → Calls Tryz.prog 38 #[.pointer (some ⟨g, 0, none⟩)] w fun e w' => e = .returned (.tuple #[]) ∧ S 13 w'))
    (F14 : Hid (∀ w, S 13 w → Calls Tryz.prog 39 #[.pointer (some ⟨g, 0, none⟩)] w fun e w' => e = .returned (.tuple #[]) ∧ S 14 w'))
    (F15 : Hid (∀ w, S 14 w → Calls Tryz.prog 40 #[.pointer (some ⟨g, 0, none⟩)] w fun e w' => e = .returned (.tuple #[]) ∧ S 15 w'))
    (F16 : Hid (∀ w, S 15 w → Calls Tryz.prog 41 #[.pointer (some ⟨g, 0, none⟩)] w fun e w' => e = .returned (.tuple #[]) ∧ S 16 w'))
    (F17 : Hid (∀ w, S 16 w → Calls Tryz.prog 42 #[.pointer (some ⟨g, 0, none⟩)] w fun e w' => e = .returned (.tuple #[]) ∧ S 17 w'))
    (F18 : Hid (∀ w, S 17 w → Calls Tryz.prog 43 #[.pointer (some ⟨g, 0, none⟩)] w fun e w' => e = .returned (.tuple #[]) ∧ S 18 w'))
    (F19 : Hid (∀ w, S 18 w → Calls Tryz.prog 44 #[.pointer (some ⟨g, 0, none⟩)] w fun e w' => e = .returned (.tuple #[]) ∧ S 19 w'))
    (F20 : Hid (∀ w, S 19 w → Calls Tryz.prog 45 #[.pointer (some ⟨g, 0, none⟩)] w fun e w' => e = .returned (.tuple #[]) ∧ S 20 w'))
    (F21 : Hid (∀ w, S 20 w → Calls Tryz.prog 46 #[.pointer (some ⟨g, 0, none⟩)] w fun e w' => e = .returned (.tuple #[]) ∧ S 21 w'))
    (F22 : Hid (∀ w, S 21 w → Calls Tryz.prog 47 #[.pointer (some ⟨g, 0, none⟩)] w fun e w' => e = .returned (.tuple #[]) ∧ S 22 w'))
    (F23 : Hid (∀ w, S 22 w → Calls Tryz.prog 48 #[.pointer (some ⟨g, 0, none⟩)] w fun e w' => e = .returned (.tuple #[]) ∧ S 23 w'))
    (F24 : Hid (∀ w, S 23 w → Calls Tryz.prog 49 #[.pointer (some ⟨g, 0, none⟩)] w fun e w' => e = .returned (.tuple #[]) ∧ S 24 w'))
    (F25 : Hid (∀ w, S 24 w → Calls Tryz.prog 50 #[.pointer (some ⟨g, 0, none⟩)] w fun e w' => e = .returned (.tuple #[]) ∧ S 25 w'))
    (F26 : Hid (∀ w, S 25 w → Calls Tryz.prog 51 #[.pointer (some ⟨g, 0, none⟩)] w fun e w' => e = .returned (.tuple #[]) ∧ S 26 w'))
    (F27 : Hid (∀ w, S 26 w → Calls Tryz.prog 52 #[.pointer (some ⟨g, 0, none⟩)] w fun e w' => e = .returned (.tuple #[]) ∧ S 27 w'))
    (F28 : Hid (∀ w, S 27 w → Calls Tryz.prog 53 #[.pointer (some ⟨g, 0, none⟩)] w fun e w' => e = .returned (.tuple #[]) ∧ S 28 w'))
    (F29 : Hid (∀ w, S 28 w → Calls Tryz.prog 54 #[.pointer (some ⟨g, 0, none⟩)] w fun e w' => e = .returned (.tuple #[]) ∧ S 29 w'))
    (F30 : Hid (∀ w, S 29 w → Calls Tryz.prog 55 #[.pointer (some ⟨g, 0, none⟩)] w fun e w' => e = .returned (.tuple #[]) ∧ S 30 w'))
    (F31 : Hid (∀ w, S 30 w → Calls Tryz.prog 56 #[.pointer (some ⟨g, 0, none⟩)] w fun e w' => e = .returned (.tuple #[]) ∧ S 31 w'))
    (F32 : Hid (∀ w, S 31 w → Calls Tryz.prog 57 #[.pointer (some ⟨g, 0, none⟩)] w fun e w' => e = .returned (.tuple #[]) ∧ S 32 w'))
    (F33 : Hid (∀ w, S 32 w → Calls Tryz.prog 58 #[.pointer (some ⟨g, 0, none⟩)] w fun e w' => e = .returned (.tuple #[]) ∧ S 33 w'))
    (F34 : Hid (∀ w, S 33 w → Calls Tryz.prog 59 #[.pointer (some ⟨g, 0, none⟩)] w fun e w' => e = .returned (.tuple #[]) ∧ S 34 w'))
    (K1 : ∀ w, S 34 w → Looks w 60 g)
    (K2 : ∀ w, S 34 w → Looks w 61 g)
    (K3 : ∀ w, S 34 w → Looks w 62 g)
    (K4 : ∀ w, S 34 w → Looks w 63 g)
    (K5 : ∀ w, S 34 w → Looks w 64 g)
    (K6 : ∀ w, S 34 w → Looks w 65 g)
    (K7 : ∀ w, S 34 w → Looks w 66 g)
    (K8 : ∀ w, S 34 w → Looks w 67 g)
    (K9 : ∀ w, S 34 w → Looks w 68 g)
    (K10 : ∀ w, S 34 w → Looks w 69 g)
    (K11 : ∀ w, S 34 w → Looks w 70 g)
    (K12 : ∀ w, S 34 w → Looks w 71 g)
    (K13 : ∀ w, S 34 w → Looks w 72 g)
    (K14 : ∀ w, S 34 w → Looks w 73 g)
    (K15 : ∀ w, S 34 w → Looks w 74 g)
    (K16 : ∀ w, S 34 w → Looks w 75 g)
    (K17 : ∀ w, S 34 w → Looks w 76 g)
    : Calls Tryz.prog 16 #[.pointer (some ⟨g, 0, none⟩)] W fun e w' => e = .returned (.bool true) ∧ ∃ w, S 34 w ∧ Below w.heap.size w w' := by
  go_enter Tryz.func16, Tryz.ntmps16
  go_wp2_with fail
  refine Calls.mono (F1.out _ h) ?_
  clear h
  rintro e w1 ⟨rfl, h⟩
  go_wp2_with fail
  refine Calls.mono (F2.out _ h) ?_
  clear h
  rintro e w2 ⟨rfl, h⟩
  go_wp2_with fail
  refine Calls.mono (F3.out _ h) ?_
  clear h
  rintro e w3 ⟨rfl, h⟩
  go_wp2_with fail
  refine Calls.mono (F4.out _ h) ?_
  clear h
  rintro e w4 ⟨rfl, h⟩
  go_wp2_with fail
  refine Calls.mono (F5.out _ h) ?_
  clear h
  rintro e w5 ⟨rfl, h⟩
  go_wp2_with fail
  refine Calls.mono (F6.out _ h) ?_
  clear h
  rintro e w6 ⟨rfl, h⟩
  go_wp2_with fail
  refine Calls.mono (F7.out _ h) ?_
  clear h
  rintro e w7 ⟨rfl, h⟩
  go_wp2_with fail
  refine Calls.mono (F8.out _ h) ?_
  clear h
  rintro e w8 ⟨rfl, h⟩
  go_wp2_with fail
  refine Calls.mono (F9.out _ h) ?_
  clear h
  rintro e w9 ⟨rfl, h⟩
  go_wp2_with fail
  refine Calls.mono (F10.out _ h) ?_
  clear h
  rintro e w10 ⟨rfl, h⟩
  go_wp2_with fail
  refine Calls.mono (F11.out _ h) ?_
  clear h
  rintro e w11 ⟨rfl, h⟩
  go_wp2_with fail
  refine Calls.mono (F12.out _ h) ?_
  clear h
  rintro e w12 ⟨rfl, h⟩
  go_wp2_with fail
  refine Calls.mono (F13.out _ h) ?_
  clear h
  rintro e w13 ⟨rfl, h⟩
  go_wp2_with fail
  refine Calls.mono (F14.out _ h) ?_
  clear h
  rintro e w14 ⟨rfl, h⟩
  go_wp2_with fail
  refine Calls.mono (F15.out _ h) ?_
  clear h
  rintro e w15 ⟨rfl, h⟩
  go_wp2_with fail
  refine Calls.mono (F16.out _ h) ?_
  clear h
  rintro e w16 ⟨rfl, h⟩
  go_wp2_with fail
  refine Calls.mono (F17.out _ h) ?_
  clear h
  rintro e w17 ⟨rfl, h⟩
  go_wp2_with fail
  refine Calls.mono (F18.out _ h) ?_
  clear h
  rintro e w18 ⟨rfl, h⟩
  go_wp2_with fail
  refine Calls.mono (F19.out _ h) ?_
  clear h
  rintro e w19 ⟨rfl, h⟩
  go_wp2_with fail
  refine Calls.mono (F20.out _ h) ?_
  clear h
  rintro e w20 ⟨rfl, h⟩
  go_wp2_with fail
  refine Calls.mono (F21.out _ h) ?_
  clear h
  rintro e w21 ⟨rfl, h⟩
  go_wp2_with fail
  refine Calls.mono (F22.out _ h) ?_
  clear h
  rintro e w22 ⟨rfl, h⟩
  go_wp2_with fail
  refine Calls.mono (F23.out _ h) ?_
  clear h
  rintro e w23 ⟨rfl, h⟩
  go_wp2_with fail
  refine Calls.mono (F24.out _ h) ?_
  clear h
  rintro e w24 ⟨rfl, h⟩
  go_wp2_with fail
  refine Calls.mono (F25.out _ h) ?_
  clear h
  rintro e w25 ⟨rfl, h⟩
  go_wp2_with fail
  refine Calls.mono (F26.out _ h) ?_
  clear h
  rintro e w26 ⟨rfl, h⟩
  go_wp2_with fail
  refine Calls.mono (F27.out _ h) ?_
  clear h
  rintro e w27 ⟨rfl, h⟩
  go_wp2_with fail
  refine Calls.mono (F28.out _ h) ?_
  clear h
  rintro e w28 ⟨rfl, h⟩
  go_wp2_with fail
  refine Calls.mono (F29.out _ h) ?_
  clear h
  rintro e w29 ⟨rfl, h⟩
  go_wp2_with fail
  refine Calls.mono (F30.out _ h) ?_
  clear h
  rintro e w30 ⟨rfl, h⟩
  go_wp2_with fail
  refine Calls.mono (F31.out _ h) ?_
  clear h
  rintro e w31 ⟨rfl, h⟩
  go_wp2_with fail
  refine Calls.mono (F32.out _ h) ?_
  clear h
  rintro e w32 ⟨rfl, h⟩
  go_wp2_with fail
  refine Calls.mono (F33.out _ h) ?_
  clear h
  rintro e w33 ⟨rfl, h⟩
  go_wp2_with fail
  refine Calls.mono (F34.out _ h) ?_
  clear h
  rintro e w34 ⟨rfl, h⟩
  have L1 := Lib.hid (K1 _ h)
  have L2 := Lib.hid (K2 _ h)
  have L3 := Lib.hid (K3 _ h)
  have L4 := Lib.hid (K4 _ h)
  have L5 := Lib.hid (K5 _ h)
  have L6 := Lib.hid (K6 _ h)
  have L7 := Lib.hid (K7 _ h)
  have L8 := Lib.hid (K8 _ h)
  have L9 := Lib.hid (K9 _ h)
  have L10 := Lib.hid (K10 _ h)
  have L11 := Lib.hid (K11 _ h)
  have L12 := Lib.hid (K12 _ h)
  have L13 := Lib.hid (K13 _ h)
  have L14 := Lib.hid (K14 _ h)
  have L15 := Lib.hid (K15 _ h)
  have L16 := Lib.hid (K16 _ h)
  have L17 := Lib.hid (K17 _ h)
  have B := Below.refl w34.heap.size w34
  go_wp2_with fail
  refine Calls.mono (L1.out _ B) ?_
  rintro e v1 ⟨rfl, b⟩
  replace B := bnext B b
  clear b
  go_wp2_with fail
  refine Calls.mono (L2.out _ B) ?_
  rintro e v2 ⟨rfl, b⟩
  replace B := bnext B b
  clear b
  go_wp2_with fail
  refine Calls.mono (L3.out _ B) ?_
  rintro e v3 ⟨rfl, b⟩
  replace B := bnext B b
  clear b
  go_wp2_with fail
  refine Calls.mono (L4.out _ B) ?_
  rintro e v4 ⟨rfl, b⟩
  replace B := bnext B b
  clear b
  go_wp2_with fail
  refine Calls.mono (L5.out _ B) ?_
  rintro e v5 ⟨rfl, b⟩
  replace B := bnext B b
  clear b
  go_wp2_with fail
  refine Calls.mono (L6.out _ B) ?_
  rintro e v6 ⟨rfl, b⟩
  replace B := bnext B b
  clear b
  go_wp2_with fail
  refine Calls.mono (L7.out _ B) ?_
  rintro e v7 ⟨rfl, b⟩
  replace B := bnext B b
  clear b
  go_wp2_with fail
  refine Calls.mono (L8.out _ B) ?_
  rintro e v8 ⟨rfl, b⟩
  replace B := bnext B b
  clear b
  go_wp2_with fail
  refine Calls.mono (L9.out _ B) ?_
  rintro e v9 ⟨rfl, b⟩
  replace B := bnext B b
  clear b
  go_wp2_with fail
  refine Calls.mono (L10.out _ B) ?_
  rintro e v10 ⟨rfl, b⟩
  replace B := bnext B b
  clear b
  go_wp2_with fail
  refine Calls.mono (L11.out _ B) ?_
  rintro e v11 ⟨rfl, b⟩
  replace B := bnext B b
  clear b
  go_wp2_with fail
  refine Calls.mono (L12.out _ B) ?_
  rintro e v12 ⟨rfl, b⟩
  replace B := bnext B b
  clear b
  go_wp2_with fail
  refine Calls.mono (L13.out _ B) ?_
  rintro e v13 ⟨rfl, b⟩
  replace B := bnext B b
  clear b
  go_wp2_with fail
  refine Calls.mono (L14.out _ B) ?_
  rintro e v14 ⟨rfl, b⟩
  replace B := bnext B b
  clear b
  go_wp2_with fail
  refine Calls.mono (L15.out _ B) ?_
  rintro e v15 ⟨rfl, b⟩
  replace B := bnext B b
  clear b
  go_wp2_with fail
  refine Calls.mono (L16.out _ B) ?_
  rintro e v16 ⟨rfl, b⟩
  replace B := bnext B b
  clear b
  go_wp2_with fail
  refine Calls.mono (L17.out _ B) ?_
  rintro e v17 ⟨rfl, b⟩
  replace B := bnext B b
  clear b
  go_wp2_with fail
  go_ret
  exact ⟨rfl, _, h, B⟩
end Go.Proofs.YtafamnodeliaaaaGreatDoor
