/-
  The walks of belfrylaw01.SameFrame and SameValues (on the same values).
-/
import Derived.Test.YtckpeclkkmapiaaGreatDoorFrmGet
import Derived.Test.YtckpeclkkmapiaaGreatDoorFrvMath
import Derived.Test.YtckpeclkkmapiaaGreatDoorSame
namespace Go.Proofs.YtckpeclkkmapiaaGreatDoor
open Go.RowKit
open Go

set_option maxHeartbeats 1000000 in
theorem same_frame (st1 st2 : Int) (rd1 rd2 mem1 mem2 md1 md2 : Nat) (v u : Value) (p1 p2 : List Int) (w : World) (h1 : Rd w v (by8 p1)) (h2 : Rd w u (by8 p2)) :
    Calls Tryz.prog 27 #[frV st1 rd1 mem1 md1 v, frV st2 rd2 mem2 md2 u] w fun e w' => e = .returned (.bool (decide (st1 = st2 ∧ rd1 = rd2 ∧ mem1 = mem2 ∧ md1 = md2 ∧ p1 = p2))) ∧ Below w.heap.size w w' := by
  have BX : Below w.heap.size w ((w.alloc (.cells #[.int .i64 st1, .int .u32 rd1, .int .u8 mem1, .int .u16 md1, v] 65 (0, 0))).alloc (.cells #[.int .i64 st2, .int .u32 rd2, .int .u8 mem2, .int .u16 md2, u] 65 (0, 0))) := balloc (balloc (Below.refl _ _) _) _
  have HS := Lib.hid (same_any v u p1 p2 _ (h1.below BX) (h2.below BX))
  obtain ⟨a1, n1, c1, rfl⟩ := h1.sl
  obtain ⟨a2, n2, c2, rfl⟩ := h2.sl
  clear h1 h2
  have key : ((st1 == st2) = false ∧ decide (st1 = st2 ∧ rd1 = rd2 ∧ mem1 = mem2 ∧ md1 = md2 ∧ p1 = p2) = false) ∨ ((st1 == st2) = true ∧ ((rd1 : Int) == rd2) = false ∧ decide (st1 = st2 ∧ rd1 = rd2 ∧ mem1 = mem2 ∧ md1 = md2 ∧ p1 = p2) = false) ∨
      ((st1 == st2) = true ∧ ((rd1 : Int) == rd2) = true ∧ ((mem1 : Int) == mem2) = false ∧ decide (st1 = st2 ∧ rd1 = rd2 ∧ mem1 = mem2 ∧ md1 = md2 ∧ p1 = p2) = false) ∨
      ((st1 == st2) = true ∧ ((rd1 : Int) == rd2) = true ∧ ((mem1 : Int) == mem2) = true ∧ ((md1 : Int) == md2) = false ∧ decide (st1 = st2 ∧ rd1 = rd2 ∧ mem1 = mem2 ∧ md1 = md2 ∧ p1 = p2) = false) ∨
      ((st1 == st2) = true ∧ ((rd1 : Int) == rd2) = true ∧ ((mem1 : Int) == mem2) = true ∧ ((md1 : Int) == md2) = true ∧ decide (st1 = st2 ∧ rd1 = rd2 ∧ mem1 = mem2 ∧ md1 = md2 ∧ p1 = p2) = decide (p1 = p2)) := by
    simp only [decide_eq_false_iff_not, beq_iff_eq, beq_eq_false_iff_ne, decide_eq_decide]
    by_cases q1 : st1 = st2
    · by_cases q2 : rd1 = rd2
      · by_cases q3 : mem1 = mem2
        · by_cases q4 : md1 = md2
          · refine .inr (.inr (.inr (.inr ⟨q1, by omega, by omega, by omega, ?_⟩)))
            simp [q1, q2, q3, q4]
          · refine .inr (.inr (.inr (.inl ⟨q1, by omega, by omega, by omega, ?_⟩)))
            rintro ⟨_, _, _, h, _⟩
            exact q4 h
        · refine .inr (.inr (.inl ⟨q1, by omega, by omega, ?_⟩))
          rintro ⟨_, _, h, _, _⟩
          exact q3 h
      · refine .inr (.inl ⟨q1, by omega, ?_⟩)
        rintro ⟨_, h, _, _, _⟩
        exact q2 h
    · refine .inl ⟨q1, ?_⟩
      rintro ⟨h, _⟩
      exact q1 h
  unfold frV
  rcases key with ⟨q1, q⟩ | ⟨q1, q2, q⟩ | ⟨q1, q2, q3, q⟩ | ⟨q1, q2, q3, q4, q⟩ | ⟨q1, q2, q3, q4, q⟩
  iterate 4
    · rw [q]
      clear q HS
      go_enter Tryz.func27, Tryz.ntmps27
      go_wp2_with fail
      go_ret
      exact ⟨rfl, BX⟩
  · rw [q]
    clear q
    go_enter Tryz.func27, Tryz.ntmps27
    go_wp2_with fail
    refine Calls.mono HS.out ?_
    rintro e w1 ⟨rfl, b1⟩
    go_wp2_with fail
    go_ret
    exact ⟨rfl, bnext BX b1⟩
set_option maxHeartbeats 1000000 in
theorem same_vals (v u : Value) (l : List VT) (w : World) (h1 : RdN 2 w v (l.map rowV)) (h2 : RdN 2 w u (l.map rowV)) :
    Calls Tryz.prog 11 #[v, u] w fun e w' => e = .returned (.bool true) ∧ Below w.heap.size w w' := by
  have H1 := Lib.hid h1
  have H2 := Lib.hid h2
  obtain ⟨a, c, rfl, hc, hcm⟩ := h1.shape
  obtain ⟨a2, c2, rfl, hc2, hcm2⟩ := h2.shape
  have hl : (l.map rowV).length = l.length := by simp
  rw [hl] at hc hc2 H1 H2 ⊢
  unfold maxLen at hcm hcm2
  clear hl h1 h2
  go_enter Tryz.func11, Tryz.ntmps11
  go_wp2_with fail
  go_loopw [5] (fun i wr => ∃ k : Nat, k ≤ l.length ∧ i = .int .i64 k ∧ Below w.heap.size w wr) (fun i _ => l.length - (intOf i).toNat)
  case atStart => exact ⟨0, by omega, rfl, Below.refl _ _⟩
  case round =>
    obtain ⟨k, hk, rfl, hb⟩ := hrel
    by_cases hlt : k < l.length
    · obtain ⟨b, o, rfl, hcl⟩ := (H1.out.below hb).get k (by simpa using hlt)
      obtain ⟨b2, o2, rfl, hcl2⟩ := (H2.out.below hb).get k (by simpa using hlt)
      rw [List.getElem_map] at hcl hcl2
      generalize l[k] = p at *
      obtain ⟨t, n⟩ := p
      have x0 : wr.cell? ⟨b, o + k * 2, none⟩ = some (.int .u8 t) := hcl 0 _ rfl
      have x1 : wr.cell? ⟨b, o + k * 2 + 1, none⟩ = some (.int .i64 n) := hcl 1 _ rfl
      have y0 : wr.cell? ⟨b2, o2 + k * 2, none⟩ = some (.int .u8 t) := hcl2 0 _ rfl
      have y1 : wr.cell? ⟨b2, o2 + k * 2 + 1, none⟩ = some (.int .i64 n) := hcl2 1 _ rfl
      clear hcl hcl2
      go_wp2_with fail
      go_quiet (fail)
      go_wp2_with fail
      go_roundw
      case rel => exact ⟨k + 1, by omega, by go_num, bdraw hb _⟩
      case measure => simp [intOf]; omega
    · obtain rfl : k = l.length := by omega
      go_wp2_with fail
      go_ret
      exact ⟨rfl, hb⟩
end Go.Proofs.YtckpeclkkmapiaaGreatDoor
