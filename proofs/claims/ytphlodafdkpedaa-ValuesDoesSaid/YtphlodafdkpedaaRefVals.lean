/-
  The document's answer on values (belfryref11): its small functions.
-/
import Derived.Test.YtphlodafdkpedaaValsDo3
import Derived.Test.YtphlodafdkpedaaTwinV
namespace Go.Proofs.Ytphlodafdkpedaa
open Go.RowKit
open Go

theorem rcheck_any (p : VT) (w : World) : Calls Try.prog 16 #[aggV p] w fun e w' => e = .returned (.bool (chkV p)) ∧ Below w.heap.size w w' := by
  obtain ⟨t, n⟩ := p
  unfold aggV chkV
  cases h1 : (t == 1) <;> cases h2 : (t == 2) <;> cases h3 : (n == 0) <;> cases h4 : (n == 1)
  all_goals
    go_enter Try.func16, Try.ntmps16
    go_wp2_with fail
    go_ret
    exact ⟨by simp [*], balloc (Below.refl _ _) _⟩
theorem rnumber_any (n : Int) (w : World) : Calls Try.prog 18 #[.int .i64 n] w fun e w' => e = .returned (aggV (numV n)) ∧ Below w.heap.size w w' := by
  go_enter Try.func18, Try.ntmps18
  go_wp2_with fail
  exact bodyPost_ret (results_cell_row Try.results18 _ _ w.heap.size _ _ _ _ rfl (heap_alloc_new _ _) Try.underlying28 rfl infoV) rfl ⟨rfl, balloc (Below.refl _ _) _⟩
theorem ryes_any (b : Bool) (w : World) : Calls Try.prog 19 #[.bool b] w fun e w' => e = .returned (aggV (yesV b)) ∧ Below w.heap.size w w' := by
  cases b
  all_goals
    go_enter Try.func19, Try.ntmps19
    go_wp2_with fail
    exact bodyPost_ret (results_cell_row Try.results19 _ _ w.heap.size _ _ _ _ rfl (heap_alloc_new _ _) Try.underlying28 rfl infoV) rfl ⟨rfl, balloc (Below.refl _ _) _⟩
/-- Values that an operator is of. -/
def manyI (o : Int) : Int := if o = 4 ∨ o = 5 then 1 else if 6 ≤ o ∧ o ≤ 16 then 2 else if o = 17 then 3 else 0
theorem rmany_any (o : Int) (w : World) : Calls Try.prog 15 #[.int .u8 o] w fun e w' => e = .returned (.int .i64 (manyI o)) ∧ w = w' := by
  have key : (o = 4 ∨ o = 5 ∨ o = 6 ∨ o = 7 ∨ o = 8 ∨ o = 9 ∨ o = 10 ∨ o = 11 ∨ o = 12 ∨ o = 13 ∨ o = 14 ∨ o = 15 ∨ o = 16 ∨ o = 17) ∨ (o < 4 ∨ 17 < o) := by omega
  rcases key with (rfl | rfl | rfl | rfl | rfl | rfl | rfl | rfl | rfl | rfl | rfl | rfl | rfl | rfl) | h
  case inr =>
    have hm : manyI o = 0 := by
      unfold manyI
      rw [if_neg (by omega), if_neg (by omega), if_neg (by omega)]
    rw [hm]
    have n : ∀ k : Int, 4 ≤ k → k ≤ 17 → (o == k) = false := fun k h1 h2 => by rw [beq_eq_false_iff_ne]; omega
    have e4 := n 4 (by omega) (by omega)
    have e5 := n 5 (by omega) (by omega)
    have e6 := n 6 (by omega) (by omega)
    have e7 := n 7 (by omega) (by omega)
    have e8 := n 8 (by omega) (by omega)
    have e9 := n 9 (by omega) (by omega)
    have e10 := n 10 (by omega) (by omega)
    have e11 := n 11 (by omega) (by omega)
    have e12 := n 12 (by omega) (by omega)
    have e13 := n 13 (by omega) (by omega)
    have e14 := n 14 (by omega) (by omega)
    have e15 := n 15 (by omega) (by omega)
    have e16 := n 16 (by omega) (by omega)
    have e17 := n 17 (by omega) (by omega)
    clear h n hm
    go_enter Try.func15, Try.ntmps15
    go_wp2_with fail
    go_ret
    exact ⟨rfl, rfl⟩
  all_goals
    go_enter Try.func15, Try.ntmps15
    go_wp2_with fail
    go_ret
    exact ⟨rfl, rfl⟩
/-- Have values the types that an operator is of? -/
def fitsB (o : Int) (l : List VT) : Bool :=
  if o = 11 ∨ o = 12 then (l.getD 0 (0, 0)).1 == (l.getD 1 (0, 0)).1 else if o = 17 then (l.getD 0 (0, 0)).1 == 2 && (l.getD 1 (0, 0)).1 == (l.getD 2 (0, 0)).1 else
  l.all fun p => p.1 == if o = 5 ∨ o = 15 ∨ o = 16 then 2 else 1
end Go.Proofs.Ytphlodafdkpedaa
