/-
  values: its small functions.
-/
import Derived.Test.YtphlodafdkpedaaMapInt
import Derived.Test.YtphlodafdkpedaaCells
import Derived.Test.YtphlodafdkpedaaKit2
import Derived.Test.YtphlodafdkpedaaKit3
import Derived.Test.YtphlodafdkpedaaRows
import Derived.Deep.QuietTactic
import Derived.BigQuiet
namespace Go.Proofs.Ytphlodafdkpedaa
open Go.RowKit
open Go

/-- A value, as its type and its number. -/
abbrev VT := Int × Int
def rowV (p : VT) : List Value := [.int .u8 p.1, .int .i64 p.2]
def aggV (p : VT) : Value := .agg #[.int .u8 p.1, .int .i64 p.2]
def numV (n : Int) : VT := (1, n)
def boolI (b : Bool) : Int := if b then 1 else 0
def yesV (b : Bool) : VT := (2, boolI b)
def chkV (p : VT) : Bool := p.1 == 1 || (p.1 == 2 && (p.2 == 0 || p.2 == 1))

theorem infoV : (Try.prog.info? 28).map (·.size) = some 2 := by kernel_rfl
theorem number_any (n : Int) (w : World) : Calls Try.prog 21 #[.int .i64 n] w fun e w' => e = .returned (aggV (numV n)) ∧ Below w.heap.size w w' := by
  go_enter Try.func21, Try.ntmps21
  go_wp2_with fail
  exact bodyPost_ret (results_cell_row Try.results21 _ _ w.heap.size _ _ _ _ rfl (heap_alloc_new _ _) Try.underlying28 rfl infoV) rfl ⟨rfl, balloc (Below.refl _ _) _⟩
theorem yes_any (b : Bool) (w : World) : Calls Try.prog 23 #[.bool b] w fun e w' => e = .returned (aggV (yesV b)) ∧ Below w.heap.size w w' := by
  cases b
  all_goals
    go_enter Try.func23, Try.ntmps23
    go_wp2_with fail
    exact bodyPost_ret (results_cell_row Try.results23 _ _ w.heap.size _ _ _ _ rfl (heap_alloc2_old _ _ _) Try.underlying28 rfl infoV) rfl ⟨rfl, balloc (balloc (Below.refl _ _) _) _⟩
theorem is_any (p : VT) (w : World) : Calls Try.prog 24 #[aggV p] w fun e w' => e = .returned (.bool (p.2 == 1)) ∧ Below w.heap.size w w' := by
  obtain ⟨t, n⟩ := p
  unfold aggV
  go_enter Try.func24, Try.ntmps24
  go_wp2_with fail
  go_ret
  exact ⟨rfl, balloc (Below.refl _ _) _⟩
theorem raw_any (p : VT) (w : World) : Calls Try.prog 26 #[aggV p] w fun e w' => e = .returned (.int .i64 p.2) ∧ Below w.heap.size w w' := by
  obtain ⟨t, n⟩ := p
  unfold aggV
  go_enter Try.func26, Try.ntmps26
  go_wp2_with fail
  go_ret
  exact ⟨rfl, balloc (Below.refl _ _) _⟩
theorem check_any (p : VT) (w : World) : Calls Try.prog 12 #[aggV p] w fun e w' => e = .returned (.bool (chkV p)) ∧ Below w.heap.size w w' := by
  obtain ⟨t, n⟩ := p
  unfold aggV chkV
  cases h1 : (t == 1) <;> cases h2 : (t == 2) <;> cases h3 : (n == 0) <;> cases h4 : (n == 1)
  all_goals
    go_enter Try.func12, Try.ntmps12
    go_wp2_with fail
    go_ret
    exact ⟨by simp [*], balloc (Below.refl _ _) _⟩
theorem add_any (a b : Int) (w : World) : Calls Try.prog 27 #[.int .i64 a, .int .i64 b] w fun e w' => e = .returned (.int .i64 (wrap64 (a + b))) ∧ w = w' := by
  go_enter Try.func27, Try.ntmps27
  go_wp2_with fail
  go_ret
  exact ⟨rfl, rfl⟩
theorem sub_any (a b : Int) (w : World) : Calls Try.prog 28 #[.int .i64 a, .int .i64 b] w fun e w' => e = .returned (.int .i64 (wrap64 (a - b))) ∧ w = w' := by
  go_enter Try.func28, Try.ntmps28
  go_wp2_with fail
  go_ret
  exact ⟨rfl, rfl⟩
theorem mul_any (a b : Int) (w : World) : Calls Try.prog 29 #[.int .i64 a, .int .i64 b] w fun e w' => e = .returned (.int .i64 (wrap64 (a * b))) ∧ w = w' := by
  go_enter Try.func29, Try.ntmps29
  go_wp2_with fail
  go_ret
  exact ⟨rfl, rfl⟩
theorem lt_any (a b : Int) (w : World) : Calls Try.prog 33 #[.int .i64 a, .int .i64 b] w fun e w' => e = .returned (.bool (decide (a < b))) ∧ w = w' := by
  go_enter Try.func33, Try.ntmps33
  go_wp2_with fail
  go_ret
  exact ⟨rfl, rfl⟩
theorem le_any (a b : Int) (w : World) : Calls Try.prog 34 #[.int .i64 a, .int .i64 b] w fun e w' => e = .returned (.bool (decide (a ≤ b))) ∧ w = w' := by
  go_enter Try.func34, Try.ntmps34
  go_wp2_with fail
  go_ret
  exact ⟨rfl, rfl⟩
theorem eq_any (a b : Int) (w : World) : Calls Try.prog 35 #[.int .i64 a, .int .i64 b] w fun e w' => e = .returned (.bool (a == b)) ∧ w = w' := by
  go_enter Try.func35, Try.ntmps35
  go_wp2_with fail
  go_ret
  exact ⟨rfl, rfl⟩
theorem ne_any (a b : Int) (w : World) : Calls Try.prog 36 #[.int .i64 a, .int .i64 b] w fun e w' => e = .returned (.bool (!(a == b))) ∧ w = w' := by
  go_enter Try.func36, Try.ntmps36
  go_wp2_with fail
  go_ret
  exact ⟨rfl, rfl⟩
theorem and_any (a b : Bool) (w : World) : Calls Try.prog 38 #[.bool a, .bool b] w fun e w' => e = .returned (.bool (a && b)) ∧ w = w' := by
  cases a <;> cases b
  all_goals
    go_enter Try.func38, Try.ntmps38
    go_wp2_with fail
    go_ret
    exact ⟨rfl, rfl⟩
theorem or_any (a b : Bool) (w : World) : Calls Try.prog 39 #[.bool a, .bool b] w fun e w' => e = .returned (.bool (a || b)) ∧ w = w' := by
  cases a <;> cases b
  all_goals
    go_enter Try.func39, Try.ntmps39
    go_wp2_with fail
    go_ret
    exact ⟨rfl, rfl⟩
/-- What is left where nothing can be parted. -/
def divI (a b : Int) : Int := if b = 0 then 0 else wrap64 (a.tdiv b)
def modI (a b : Int) : Int := if b = 0 then 0 else a.tmod b
theorem div_any (a b : Int) (w : World) : Calls Try.prog 30 #[.int .i64 a, .int .i64 b] w fun e w' => e = .returned (.int .i64 (divI a b)) ∧ w = w' := by
  unfold divI
  by_cases h : b = 0
  · subst h
    go_enter Try.func30, Try.ntmps30
    go_wp2_with fail
    go_ret
    exact ⟨rfl, rfl⟩
  · have hb : (b == 0) = false := beq_eq_false_iff_ne.2 h
    rw [if_neg h]
    go_enter Try.func30, Try.ntmps30
    go_wp2_with fail
    go_ret
    exact ⟨rfl, rfl⟩
theorem mod_any (a b : Int) (w : World) : Calls Try.prog 31 #[.int .i64 a, .int .i64 b] w fun e w' => e = .returned (.int .i64 (modI a b)) ∧ w = w' := by
  unfold modI
  by_cases h : b = 0
  · subst h
    go_enter Try.func31, Try.ntmps31
    go_wp2_with fail
    go_ret
    exact ⟨rfl, rfl⟩
  · have hb : (b == 0) = false := beq_eq_false_iff_ne.2 h
    rw [if_neg h]
    go_enter Try.func31, Try.ntmps31
    go_wp2_with fail
    go_ret
    exact ⟨rfl, rfl⟩
end Go.Proofs.Ytphlodafdkpedaa
