/-
  The walk of FramesPayloads: any values are put as the reference puts them, or both refuse them; they stay as they were, and the answers are memory of their own.
-/
import Derived.Test.YtckpeclkkmapiaaGreatDoorPayArgs
import Derived.Test.YtckpeclkkmapiaaGreatDoorRefPay
import Derived.Test.YtckpeclkkmapiaaGreatDoorTwinV
import Derived.Test.YtckpeclkkmapiaaGreatDoorApBV
import Derived.Test.YtckpeclkkmapiaaGreatDoorSame
namespace Go.Proofs.YtckpeclkkmapiaaGreatDoor
open Go.RowKit
open Go

theorem TwinV.own {w : World} {g base : Nat} {v : Value} {l : List VT} (h : TwinV w g v l) (hb : base ≤ g) (hL : l.length ≤ 1048576) : Own w base 82 2 v l.length (cellsV l) := by
  obtain ⟨rfl, h⟩ := h
  have hlen := cellsV_len l
  refine ⟨hlen, .inr ⟨g, l.length + 1, _, rfl, by omega, hb, h, by omega, by unfold maxLen; omega, ?_, ?_⟩⟩
  · rw [List.size_toArray, cellsV_len, List.length_append]
    simp
  · rw [cellsV_append, List.toList_toArray, List.take_append_of_le_length (by omega), List.take_of_length_le (by omega)]
/-- No list that is held shares the room of a new one. -/
theorem ap_of {its : List It} {v : Value} {b : Nat} (h1 : ∀ it ∈ its, ∀ x, it.has x → x < b) (h2 : ∀ x, roomOf v = some x → b ≤ x) : ∀ (i : Nat) (a : It), its[i]? = some a → ∀ x, a.has x → roomOf v ≠ some x := by
  intro i a hi x hx e
  have := h1 a (List.mem_of_getElem? hi) x hx
  have := h2 x e
  omega
theorem owns_room {w : World} {base : Nat} {e : TypeId} {sz : Nat} {v : Value} {n : Nat} {xs : List Value} (h : w.ownsRow base e sz v n xs) {g : Nat} (hg : roomOf v = some g) : base ≤ g ∧ g < w.heap.size := ⟨((Own.of_owns h).room hg).1, (Own.of_owns h).lt hg⟩

/-- What is put, here and by the reference. -/
theorem pay_both (l : List VT) (hm : l.length ≤ 2000) (hi : ∀ p ∈ l, -9223372036854775808 ≤ p.2 ∧ p.2 ≤ 9223372036854775807) : ∃ (out : List Nat) (er : Int), out.length ≤ 100000 ∧
    (∀ (v : Value) (w : World), RdN 2 w v (l.map rowV) → Calls Tryz.prog 21 #[v] w fun e w' => ∃ u, e = .returned (.tuple #[u, .int .i64 er]) ∧ w'.ownsRow w.heap.size 5 1 u out.length (by8 (iN out)) ∧ Below w.heap.size w w') ∧
    (∀ (v : Value) (w : World), RdN 2 w v (l.map rowV) → Calls Tryz.prog 22 #[v] w fun e w' => ∃ u, e = .returned (.tuple #[u, .int .i64 er]) ∧ w'.ownsRow w.heap.size 5 1 u out.length (by8 (iN out)) ∧ Below w.heap.size w w') := by
  have key : ∃ (out : List Nat) (er : Int), out.length ≤ 100000 ∧ ∀ w e w', PayP l w e w' → ∃ u, e = .returned (.tuple #[u, .int .i64 er]) ∧ w'.ownsRow w.heap.size 5 1 u out.length (by8 (iN out)) ∧ Below w.heap.size w w' := by
    by_cases hc : l.all chkV = true
    · by_cases hb : 4095 < (pack (bitsL l)).length
      · refine ⟨[], 3, by simp, ?_⟩
        rintro w e w' ⟨b, ⟨h, _⟩ | ⟨_, _, rfl⟩ | ⟨_, h, _⟩⟩
        · rw [hc] at h; cases h
        · exact ⟨_, rfl, ⟨rfl, .inl ⟨rfl, rfl⟩⟩, b⟩
        · omega
      · refine ⟨pack (bitsL l), 0, by omega, ?_⟩
        rintro w e w' ⟨b, ⟨h, _⟩ | ⟨_, h, _⟩ | ⟨_, _, u, rfl, o⟩⟩
        · rw [hc] at h; cases h
        · omega
        · exact ⟨u, rfl, o, b⟩
    · have hc' : l.all chkV = false := by simpa using hc
      refine ⟨[], 1, by simp, ?_⟩
      rintro w e w' ⟨b, ⟨_, rfl⟩ | ⟨h, _⟩ | ⟨h, _⟩⟩
      · exact ⟨_, rfl, ⟨rfl, .inl ⟨rfl, rfl⟩⟩, b⟩
      · exact absurd h hc
      · exact absurd h hc
  obtain ⟨out, er, ho, k⟩ := key
  exact ⟨out, er, ho, fun v w h => (payload_any v l w h (by omega) hi).mono fun e w' => k w e w', fun v w h => (rpayload_any v l w h (by omega) hi).mono fun e w' => k w e w'⟩

set_option maxRecDepth 20000 in
set_option maxHeartbeats 4000000 in
theorem walk_FramesPayloads (x : Value) (W : World) (A : Arg Tryz.prog 26 W x) : Calls Tryz.prog 4 #[x] W fun e w' => e = .returned (.bool true) ∧ Below W.heap.size W w' := by
  obtain ⟨l, hR, hOk, _⟩ := A.vals
  clear A
  have hl : (l.map rowV).length = l.length := by simp
  have hv0 := hR
  obtain ⟨a, c, rfl, hc, hcm⟩ := hR.shape
  rw [hl] at hv0 hc ⊢
  unfold maxLen at hcm
  have HV := Lib.hid hv0
  have HOK := Lib.hid hOk
  clear hv0 hl hR hOk
  by_cases hbig : 2000 < l.length
  · have e1 : decide (2000 < (l.length : Int)) = true := by simp; omega
    go_enter Tryz.func4, Tryz.ntmps4
    go_wp2_with fail
    go_ret
    exact ⟨rfl, Below.refl _ _⟩
  · have e1 : decide (2000 < (l.length : Int)) = false := by simp; omega
    obtain ⟨out, er, hout, P1, P2⟩ := pay_both l (by omega) (fun p hp => (HOK.out p hp).2)
    have HP1 := Lib.hid P1
    have HP2 := Lib.hid P2
    have hL : l.length ≤ 1048576 := by omega
    clear P1 P2
    go_enter Tryz.func4, Tryz.ntmps4
    go_wp2_with fail
    refine (twinV_any (.slice a l.length c) l W HV.out hL).mono ?_
    rintro e w3 ⟨u, rfl, B3, t3⟩
    go_wp2_with fail
    refine (HP1.out u w3 (t3.rd hL)).mono ?_
    rintro e w4 ⟨ua, rfl, oa, b4⟩
    have t4 := t3.below b4
    go_wp2_with fail
    refine (HP1.out u w4 (t4.rd hL)).mono ?_
    rintro e w5 ⟨ub, rfl, ob, b5⟩
    have B5 := bnext b4 b5
    go_wp2_with fail
    refine (HP2.out (.slice a l.length c) w5 (HV.out.below (bnext B3 B5))).mono ?_
    rintro e w6 ⟨uw, rfl, ow, b6⟩
    have B6 := bnext B5 b6
    go_wp2_with fail
    have S1 := same_any ua uw (iN out) (iN out) w6 ((own_rd oa).below (bnext b5 b6)) (own_rd ow)
    rw [decide_eq_true rfl] at S1
    refine S1.mono ?_
    clear S1
    rintro e w7 ⟨rfl, b7⟩
    go_wp2_with fail
    have S2 := same_any ub uw (iN out) (iN out) w7 ((own_rd ob).below (bnext b6 b7)) ((own_rd ow).below b7)
    rw [decide_eq_true rfl] at S2
    refine S2.mono ?_
    clear S2
    rintro e w8 ⟨rfl, b8⟩
    have B8 := bnext (bnext B6 b7) b8
    go_wp2_with fail
    refine (leftV_any W.heap.size u (.slice a l.length c) l w8 (t3.below B8) (HV.out.below (bnext B3 B8)) hL).mono ?_
    rintro e w9 ⟨rfl, b9⟩
    have B9 := bnext B8 b9
    have BW9 := bnext B3 B9
    have hgt3 := lt_of_block t3.2
    have hroomu : ∀ y, roomOf u = some y → y = W.heap.size := by
      intro y hy
      rw [t3.1] at hy
      exact (Option.some.inj hy).symm
    have s3 := B3.size
    have s4 := b4.size
    have HOU := Lib.hid ((t3.own (Nat.le_refl _) hL).below B9)
    have HOA := Lib.hid (((Own.of_owns oa).below (bnext (bnext (bnext (bnext b5 b6) b7) b8) b9)).mono (base' := W.heap.size) s3)
    have HOB := Lib.hid (((Own.of_owns ob).below (bnext (bnext (bnext b6 b7) b8) b9)).mono (base' := W.heap.size) (Nat.le_trans s3 s4))
    have HRA := Lib.hid (fun g (h : roomOf ua = some g) => owns_room oa h)
    have HRB := Lib.hid (fun g (h : roomOf ub = some g) => owns_room ob h)
    have HRU := Lib.hid hroomu
    clear oa ob ow b4 b5 b6 b7 b8 b9 B5 B6 B8 t3 t4 hroomu
    have BK : BkBV W.heap.size w9.heap.size 0 [] [] (w9.alloc (.cells #[.int .i64 0, .slice none 0 0, .slice none 0 0, .slice none 0 0, .slice none 0 0, .slice none 0 0, .slice none 0 0, .slice none 0 0, .slice none 0 0, .slice none 0 0, .slice none 0 0, .slice none 0 0, .slice none 0 0, .slice none 0 0, .slice none 0 0, .slice none 0 0, .slice none 0 0, .slice none 0 0] 52 (0, 0))) := bkBV_start W.heap.size w9 BW9.size
    have bA := balloc (Below.refl w9.heap.size w9) (.cells #[.int .i64 0, .slice none 0 0, .slice none 0 0, .slice none 0 0, .slice none 0 0, .slice none 0 0, .slice none 0 0, .slice none 0 0, .slice none 0 0, .slice none 0 0, .slice none 0 0, .slice none 0 0, .slice none 0 0, .slice none 0 0, .slice none 0 0, .slice none 0 0, .slice none 0 0, .slice none 0 0] 52 (0, 0))
    have HB := Lib.hid (HOB.out.below bA)
    have HA := Lib.hid (HOA.out.below bA)
    have HU := Lib.hid (HOU.out.below bA)
    have BA := Lib.hid (bnext BW9 bA)
    go_wp2_with fail
    clear bA HOA HOB HOU BW9
    generalize w9.alloc (.cells #[.int .i64 0, .slice none 0 0, .slice none 0 0, .slice none 0 0, .slice none 0 0, .slice none 0 0, .slice none 0 0, .slice none 0 0, .slice none 0 0, .slice none 0 0, .slice none 0 0, .slice none 0 0, .slice none 0 0, .slice none 0 0, .slice none 0 0, .slice none 0 0, .slice none 0 0, .slice none 0 0] 52 (0, 0)) = w10 at *
    generalize w9.heap.size = gb at *
    refine Calls.mono (bkBV_keepValue BK (by decide) (by simp) HU.out (by omega) (by simp)) ?_
    clear BK
    rintro e w11 ⟨rfl, K1, q1⟩
    go_wp2_with fail
    refine Calls.mono (bkBV_keepByte K1 (by decide) (by simp) (HA.out.away q1 (by decide)) (Nat.le_trans hout (by decide)) (by simp)) ?_
    rintro e w12 ⟨rfl, K2, q2⟩
    go_wp2_with fail
    refine Calls.mono (bkBV_keepByte K2 (by decide) (by simp) ((HB.out.away q1 (by decide)).away q2 (by decide)) (Nat.le_trans hout (by decide)) ?_) ?_
    · refine ap_of (b := w4.heap.size) ?_ fun y hy => (HRB.out y hy).1
      intro it hit y hy
      simp at hit
      subst hit
      rcases hy with hy | hy
      · exact (HRA.out y hy).2
      · cases hy
    rintro e w13 ⟨rfl, K3, q3⟩
    go_wp2_with fail
    refine Calls.mono (bkBV_apart K3) ?_
    rintro e w14 ⟨rfl, bZ⟩
    go_wp2_with fail
    go_ret
    have z1 : Below W.heap.size w10 w11 := TnT.toBelow q1 BA.out.size
    have z2 : Below W.heap.size w11 w12 := TnT.toBelow q2 (Nat.le_trans BA.out.size z1.size)
    have z3 : Below W.heap.size w12 w13 := TnT.toBelow q3 (Nat.le_trans BA.out.size (Nat.le_trans z1.size z2.size))
    exact ⟨rfl, (((BA.out.trans z1).trans z2).trans z3).trans bZ⟩
end Go.Proofs.YtckpeclkkmapiaaGreatDoor
