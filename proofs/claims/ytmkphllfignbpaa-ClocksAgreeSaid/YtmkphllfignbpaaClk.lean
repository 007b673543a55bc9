/-
  The walks of package clocks: a clock that drifts.
-/
import Derived.Test.YtmkphllfignbpaaRows
import Derived.Test.YtmkphllfignbpaaKit
import Derived.Test.YtmkphllfignbpaaClocksMath
import Derived.Deep.QuietTactic
import Derived.BigQuiet
namespace Go.Proofs.Ytmkphllfignbpaa
open Go.RowKit
open Go

theorem tdiv_in {a b : Int} (h0 : -4611686018427387904 ≤ a) (h1 : a ≤ 4611686018427387904) : -4611686018427387904 ≤ a.tdiv b ∧ a.tdiv b ≤ 4611686018427387904 := by
  have h := Int.natAbs_tdiv_le_natAbs a b
  omega
theorem small_any (n : Int) (w : World) : Calls Try.prog 23 #[.int .i64 n] w fun e w' => e = .returned (.bool (smallB n)) ∧ w = w' := by
  by_cases h1 : -1099511627776 ≤ n
  · by_cases h2 : n ≤ 1099511627776
    all_goals
      go_enter Try.func23, Try.ntmps23
      go_wp2
      go_ret
      exact ⟨by simp [smallB, *], rfl⟩
  · go_enter Try.func23, Try.ntmps23
    go_wp2
    go_ret
    exact ⟨by simp [smallB]; omega, rfl⟩
theorem by_any (a b : Int) (w : World) (h0 : -4611686018427387904 ≤ a) (h1 : a ≤ 4611686018427387904) (hb : 2 ≤ b) (hb2 : b ≤ 1000000) :
    Calls Try.prog 26 #[.int .i64 a, .int .i64 b] w fun e w' => e = .returned (.int .i64 (byI a b)) ∧ w = w' := by
  obtain ⟨t0, t1⟩ := tdiv_in (b := b) h0 h1
  have hbe : (b == 0) = false := beq_eq_false_iff_ne.2 (by omega)
  have hq := byI_eq a b (by omega)
  unfold byI
  by_cases hs : 0 ≤ a
  · have e1 : a.tdiv b = a / b := Int.tdiv_eq_ediv_of_nonneg hs
    have e2 : a.tmod b = a % b := Int.tmod_eq_emod_of_nonneg hs
    have h3 := Int.emod_nonneg a (show b ≠ 0 by omega)
    rw [e1, e2, if_neg (by omega)]
    have h4 : decide (a % b < 0) = false := by simp; omega
    rw [e1] at t0 t1
    clear e1 e2 hq
    go_enter Try.func26, Try.ntmps26
    go_wp2
    go_ret
    exact ⟨rfl, rfl⟩
  · clear hq
    by_cases h : a.tmod b < 0
    · rw [if_pos h]
      go_enter Try.func26, Try.ntmps26
      go_wp2
      go_ret
      exact ⟨rfl, rfl⟩
    · rw [if_neg h]
      go_enter Try.func26, Try.ntmps26
      go_wp2
      go_ret
      exact ⟨rfl, rfl⟩

/-- A clock that lies at p. -/
def Clk (w : World) (p : Nat) (f g u : Int) : Prop := w.heap[p]? = some (.cells #[.int .i64 1, .int .i64 f, .int .i64 g, .int .i64 u] 57 (0, 0))
theorem Clk.below {w w' : World} {p : Nat} {f g u : Int} (h : Clk w p f g u) (hb : Below w.heap.size w w') : Clk w' p f g u := (hb.block _ (lt_of_block h)).trans h
theorem Clk.cells {w : World} {p : Nat} {f g u : Int} (h : Clk w p f g u) : w.cell? ⟨p, 0, none⟩ = some (.int .i64 1) ∧ w.cell? ⟨p, 1, none⟩ = some (.int .i64 f) ∧ w.cell? ⟨p, 2, none⟩ = some (.int .i64 g) ∧ w.cell? ⟨p, 3, none⟩ = some (.int .i64 u) :=
  ⟨cell_of_row _ _ 0 _ _ _ h, cell_of_row _ _ 1 _ _ _ h, cell_of_row _ _ 2 _ _ _ h, cell_of_row _ _ 3 _ _ _ h⟩
/-- Numbers of a clock. -/
structure ClkN (f g u : Int) : Prop where
  f0 : -1099511627776 ≤ f
  f1 : f ≤ 1099511627776
  g0 : -100000 ≤ g
  g1 : g ≤ 100000
  u0 : -1099511627776 ≤ u
  u1 : u ≤ 1099511627776

theorem there_yes (w : World) (p : Nat) (f g u : Int) (h : Clk w p f g u) : Calls Try.prog 29 #[.pointer (some ⟨p, 0, none⟩)] w fun e w' => e = .returned (.bool true) ∧ w = w' := by
  obtain ⟨c0, c1, c2, c3⟩ := h.cells
  clear h
  go_enter Try.func29, Try.ntmps29
  go_wp2
  go_ret
  exact ⟨rfl, rfl⟩
theorem there_no (w : World) : Calls Try.prog 29 #[.pointer none] w fun e w' => e = .returned (.bool false) ∧ w = w' := by
  go_enter Try.func29, Try.ntmps29
  go_wp2
  go_ret
  exact ⟨rfl, rfl⟩
/-- A tick. -/
structure Tick (t : Int) : Prop where
  lo : -1 ≤ t
  hi : t ≤ 1099511627776
theorem face_in {f g u t : Int} (n : ClkN f g u) (h : Tick t) : -109955561209028609 ≤ faceI f g u t ∧ faceI f g u t ≤ 109955561209028609 := by
  obtain ⟨p0, p1⟩ := prod_in h.lo h.hi n.g0 n.g1
  obtain ⟨q0, q1⟩ := byI_in (b := 1000000) (by omega) p0 p1
  unfold faceI
  have := n.f0; have := n.f1; have := n.u0; have := n.u1; have := h.lo; have := h.hi
  omega
set_option maxHeartbeats 1000000 in
theorem face_any (w : World) (p : Nat) (f g u t : Int) (h : Clk w p f g u) (n : ClkN f g u) (ht : Tick t) :
    Calls Try.prog 30 #[.pointer (some ⟨p, 0, none⟩), .int .i64 t] w fun e w' => e = .returned (.int .i64 (faceI f g u t)) ∧ ∃ m, w' = w.drewN m := by
  obtain ⟨c0, c1, c2, c3⟩ := h.cells
  obtain ⟨p0, p1⟩ := prod_in ht.lo ht.hi n.g0 n.g1
  obtain ⟨q0, q1⟩ := byI_in (b := 1000000) (by omega) p0 p1
  have S1 : Hid (∀ m, Calls Try.prog 26 #[.int .i64 (t * g), .int .i64 1000000] (w.drewN m) fun e w' => e = .returned (.int .i64 (byI (t * g) 1000000)) ∧ ∃ m', w' = w.drewN m') :=
    fun m => (by_any (t * g) 1000000 (w.drewN m) (by omega) (by omega) (by omega) (by omega)).mono fun e w' ⟨he, hw⟩ => ⟨he, m, hw.symm⟩
  obtain ⟨f0, f1, g0, g1, u0, u1⟩ := n
  obtain ⟨t0, t1⟩ := ht
  unfold faceI
  generalize byI (t * g) 1000000 = r at *
  clear h
  go_enter Try.func30, Try.ntmps30
  go_wp2_with fail
  go_quiet (with_reducible exact S1.out _)
  go_wp2_with fail
  go_ret
  exact ⟨rfl, _, rfl⟩
/-- What is told of a clock at a tick. -/
def atV (f g u t : Int) : Value := if 0 ≤ t ∧ t ≤ 1099511627776 then .tuple #[.int .i64 (faceI f g u t), .int .i64 0] else .tuple #[.int .i64 0, .int .i64 1]
theorem at_any (w : World) (p : Nat) (f g u t : Int) (h : Clk w p f g u) (n : ClkN f g u) :
    Calls Try.prog 19 #[.pointer (some ⟨p, 0, none⟩), .int .i64 t] w fun e w' => e = .returned (atV f g u t) ∧ ∃ m, w' = w.drewN m := by
  unfold atV
  by_cases h1 : t < 0
  · rw [if_neg (by omega)]
    go_enter Try.func19, Try.ntmps19
    go_wp2_with (go_at_call 29; refine (there_yes _ _ _ _ _ h).mono ?_; rintro e w' ⟨rfl, rfl⟩)
    go_ret2
    exact ⟨rfl, 0, rfl⟩
  · by_cases h2 : 1099511627776 < t
    · rw [if_neg (by omega)]
      go_enter Try.func19, Try.ntmps19
      go_wp2_with (go_at_call 29; refine (there_yes _ _ _ _ _ h).mono ?_; rintro e w' ⟨rfl, rfl⟩)
      go_ret2
      exact ⟨rfl, 0, rfl⟩
    · rw [if_pos (by omega)]
      have C := face_any w p f g u t h n ⟨by omega, by omega⟩
      go_enter Try.func19, Try.ntmps19
      go_wp2_with (go_at_call 29; refine (there_yes _ _ _ _ _ h).mono ?_; rintro e w' ⟨rfl, rfl⟩)
      refine C.mono ?_
      rintro e w' ⟨rfl, m, rfl⟩
      go_wp2_with fail
      go_ret2
      exact ⟨rfl, m, rfl⟩
theorem at_none (t : Int) (w : World) : Calls Try.prog 19 #[.pointer none, .int .i64 t] w fun e w' => e = .returned (.tuple #[.int .i64 0, .int .i64 2]) ∧ w = w' := by
  go_enter Try.func19, Try.ntmps19
  go_wp2_with (go_at_call 29; refine (there_no _).mono ?_; rintro e w' ⟨rfl, rfl⟩)
  go_ret2
  exact ⟨rfl, rfl⟩
end Go.Proofs.Ytmkphllfignbpaa
