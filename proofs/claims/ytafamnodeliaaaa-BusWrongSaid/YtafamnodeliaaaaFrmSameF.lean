/-
  The walk of belfrylaw01.SameFrame.
-/
import Derived.Test.YtafamnodeliaaaaFrmGet
import Derived.Test.YtafamnodeliaaaaSame
namespace Go.Proofs.Ytafamnodeliaaaa
open Go.RowKit
open Go

set_option maxHeartbeats 1000000 in
theorem same_frame (st1 st2 : Int) (rd1 rd2 mem1 mem2 md1 md2 : Nat) (v u : Value) (p1 p2 : List Int) (w : World) (h1 : Rd w v (by8 p1)) (h2 : Rd w u (by8 p2)) :
    Calls Try.prog 12 #[frV st1 rd1 mem1 md1 v, frV st2 rd2 mem2 md2 u] w fun e w' => e = .returned (.bool (decide (st1 = st2 ∧ rd1 = rd2 ∧ mem1 = mem2 ∧ md1 = md2 ∧ p1 = p2))) ∧ Below w.heap.size w w' := by
  have BX : Below w.heap.size w ((w.alloc (.cells #[.int .i64 st1, .int .u32 rd1, .int .u8 mem1, .int .u16 md1, v] 38 (0, 0))).alloc (.cells #[.int .i64 st2, .int .u32 rd2, .int .u8 mem2, .int .u16 md2, u] 38 (0, 0))) := balloc (balloc (Below.refl _ _) _) _
  have HS := Lib.hid (same_any v u p1 p2 _ (h1.below BX) (h2.below BX))
  obtain ⟨a1, n1, c1, rfl⟩ := h1.sl
  obtain ⟨a2, n2, c2, rfl⟩ := h2.sl
  clear h1 h2
  have key : ((st1 == st2) = false ∧ decide (st1 = st2 ∧ rd1 = rd2 ∧ mem1 = mem2 ∧ md1 = md2 ∧ p1 = p2) = false) ∨ ((st1 == st2) = true ∧ ((rd1 : Int) == rd2) = false ∧ decide (st1 = st2 ∧ rd1 = rd2 ∧ mem1 = mem2 ∧ md1 = md2 ∧ p1 = p2) = false) ∨
      ((st1 == st2) = true ∧ ((rd1 : Int) == rd2) = true ∧ ((mem1 : Int) == mem2) = false ∧ decide (st1 = st2 ∧ rd1 = rd2 ∧ mem1 = mem2 ∧ md1 = md2 ∧ p1 = p2) = false) ∨
      ((st1 == st2) = true ∧ ((rd1 : Int) == rd2) = true ∧ ((mem1 : Int) == mem2) = true ∧ ((md1 : Int) == md2) = false ∧ decide (st1 = st2 ∧ rd1 = rd2 ∧ mem1 = mem2 ∧ md1 = md2 ∧ p1 = p2) = false) ∨
      ((st1 == st2) = true ∧ ((rd1 : Int) == rd2) = true ∧ ((mem1 : Int) == mem2) = true ∧ ((md1 : Int) == md2) = true ∧ decide (st1 = st2 ∧ rd1 = rd2 ∧ mem1 = mem2 ∧ md1 = md2 ∧ p1 = p2) = decide (p1 = p2)) := by
    simp only [decide_eq_false_iff_not, beq_iff_eq, beq_eq_false_iff_ne, decide_eq_decide]
    by_cases q1 : st1 = st2
    · by_cases q2 : rd1 = rd2
      · by_cases q3 : mem1 = mem2
        · by_cases q4 : md1 = md2
          · refine .inr (.inr (.inr (.inr ⟨q1, by omega, by omega, by omega, ?_⟩)))
            simp [q1, q2, q3, q4]
          · refine .inr (.inr (.inr (.inl ⟨q1, by omega, by omega, by omega, ?_⟩)))
            rintro ⟨_, _, _, h, _⟩
            exact q4 h
        · refine .inr (.inr (.inl ⟨q1, by omega, by omega, ?_⟩))
          rintro ⟨_, _, h, _, _⟩
          exact q3 h
      · refine .inr (.inl ⟨q1, by omega, ?_⟩)
        rintro ⟨_, h, _, _, _⟩
        exact q2 h
    · refine .inl ⟨q1, ?_⟩
      rintro ⟨h, _⟩
      exact q1 h
  unfold frV
  rcases key with ⟨q1, q⟩ | ⟨q1, q2, q⟩ | ⟨q1, q2, q3, q⟩ | ⟨q1, q2, q3, q4, q⟩ | ⟨q1, q2, q3, q4, q⟩
  iterate 4
    · rw [q]
      clear q HS
      go_enter Try.func12, Try.ntmps12
      go_wp2_with fail
      go_ret
      exact ⟨rfl, BX⟩
  · rw [q]
    clear q
    go_enter Try.func12, Try.ntmps12
    go_wp2_with fail
    refine Calls.mono HS.out ?_
    rintro e w1 ⟨rfl, b1⟩
    go_wp2_with fail
    go_ret
    exact ⟨rfl, bnext BX b1⟩
end Go.Proofs.Ytafamnodeliaaaa
