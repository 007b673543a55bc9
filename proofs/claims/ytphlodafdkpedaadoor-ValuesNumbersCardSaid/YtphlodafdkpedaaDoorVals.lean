/-
  values: its small functions.
-/
import Derived.Test.YtphlodafdkpedaaDoorMapInt
import Derived.Test.YtphlodafdkpedaaDoorCells
import Derived.Test.YtphlodafdkpedaaDoorKit2
import Derived.Test.YtphlodafdkpedaaDoorKit3
import Derived.Test.YtphlodafdkpedaaDoorRows
import Derived.Deep.QuietTactic
import Derived.BigQuiet
namespace Go.Proofs.YtphlodafdkpedaaDoor
open Go.RowKit
open Go

/-- A value, as its type and its number. -/
abbrev VT := Int × Int
def rowV (p : VT) : List Value := [.int .u8 p.1, .int .i64 p.2]
def aggV (p : VT) : Value := .agg #[.int .u8 p.1, .int .i64 p.2]
def numV (n : Int) : VT := (1, n)
def boolI (b : Bool) : Int := if b then 1 else 0
def yesV (b : Bool) : VT := (2, boolI b)
def chkV (p : VT) : Bool := p.1 == 1 || (p.1 == 2 && (p.2 == 0 || p.2 == 1))

theorem infoV : (Tryd.prog.info? 24).map (·.size) = some 2 := by kernel_rfl
theorem number_any (n : Int) (w : World) : Calls Tryd.prog 31 #[.int .i64 n] w fun e w' => e = .returned (aggV (numV n)) ∧ Below w.heap.size w w' := by
  go_enter Tryd.func31, Tryd.ntmps31
  go_wp2_with fail
  exact bodyPost_ret (results_cell_row Tryd.results31 _ _ w.heap.size _ _ _ _ rfl (heap_alloc_new _ _) Tryd.underlying24 rfl infoV) rfl ⟨rfl, balloc (Below.refl _ _) _⟩
theorem yes_any (b : Bool) (w : World) : Calls Tryd.prog 33 #[.bool b] w fun e w' => e = .returned (aggV (yesV b)) ∧ Below w.heap.size w w' := by
  cases b
  all_goals
    go_enter Tryd.func33, Tryd.ntmps33
    go_wp2_with fail
    exact bodyPost_ret (results_cell_row Tryd.results33 _ _ w.heap.size _ _ _ _ rfl (heap_alloc2_old _ _ _) Tryd.underlying24 rfl infoV) rfl ⟨rfl, balloc (balloc (Below.refl _ _) _) _⟩
theorem is_any (p : VT) (w : World) : Calls Tryd.prog 20 #[aggV p] w fun e w' => e = .returned (.bool (p.2 == 1)) ∧ Below w.heap.size w w' := by
  obtain ⟨t, n⟩ := p
  unfold aggV
  go_enter Tryd.func20, Tryd.ntmps20
  go_wp2_with fail
  go_ret
  exact ⟨rfl, balloc (Below.refl _ _) _⟩
theorem raw_any (p : VT) (w : World) : Calls Tryd.prog 35 #[aggV p] w fun e w' => e = .returned (.int .i64 p.2) ∧ Below w.heap.size w w' := by
  obtain ⟨t, n⟩ := p
  unfold aggV
  go_enter Tryd.func35, Tryd.ntmps35
  go_wp2_with fail
  go_ret
  exact ⟨rfl, balloc (Below.refl _ _) _⟩
theorem check_any (p : VT) (w : World) : Calls Tryd.prog 10 #[aggV p] w fun e w' => e = .returned (.bool (chkV p)) ∧ Below w.heap.size w w' := by
  obtain ⟨t, n⟩ := p
  unfold aggV chkV
  cases h1 : (t == 1) <;> cases h2 : (t == 2) <;> cases h3 : (n == 0) <;> cases h4 : (n == 1)
  all_goals
    go_enter Tryd.func10, Tryd.ntmps10
    go_wp2_with fail
    go_ret
    exact ⟨by simp [*], balloc (Below.refl _ _) _⟩
theorem add_any (a b : Int) (w : World) : Calls Tryd.prog 36 #[.int .i64 a, .int .i64 b] w fun e w' => e = .returned (.int .i64 (wrap64 (a + b))) ∧ w = w' := by
  go_enter Tryd.func36, Tryd.ntmps36
  go_wp2_with fail
  go_ret
  exact ⟨rfl, rfl⟩
theorem sub_any (a b : Int) (w : World) : Calls Tryd.prog 37 #[.int .i64 a, .int .i64 b] w fun e w' => e = .returned (.int .i64 (wrap64 (a - b))) ∧ w = w' := by
  go_enter Tryd.func37, Tryd.ntmps37
  go_wp2_with fail
  go_ret
  exact ⟨rfl, rfl⟩
theorem mul_any (a b : Int) (w : World) : Calls Tryd.prog 38 #[.int .i64 a, .int .i64 b] w fun e w' => e = .returned (.int .i64 (wrap64 (a * b))) ∧ w = w' := by
  go_enter Tryd.func38, Tryd.ntmps38
  go_wp2_with fail
  go_ret
  exact ⟨rfl, rfl⟩
theorem lt_any (a b : Int) (w : World) : Calls Tryd.prog 42 #[.int .i64 a, .int .i64 b] w fun e w' => e = .returned (.bool (decide (a < b))) ∧ w = w' := by
  go_enter Tryd.func42, Tryd.ntmps42
  go_wp2_with fail
  go_ret
  exact ⟨rfl, rfl⟩
theorem le_any (a b : Int) (w : World) : Calls Tryd.prog 43 #[.int .i64 a, .int .i64 b] w fun e w' => e = .returned (.bool (decide (a ≤ b))) ∧ w = w' := by
  go_enter Tryd.func43, Tryd.ntmps43
  go_wp2_with fail
  go_ret
  exact ⟨rfl, rfl⟩
theorem eq_any (a b : Int) (w : World) : Calls Tryd.prog 44 #[.int .i64 a, .int .i64 b] w fun e w' => e = .returned (.bool (a == b)) ∧ w = w' := by
  go_enter Tryd.func44, Tryd.ntmps44
  go_wp2_with fail
  go_ret
  exact ⟨rfl, rfl⟩
theorem ne_any (a b : Int) (w : World) : Calls Tryd.prog 45 #[.int .i64 a, .int .i64 b] w fun e w' => e = .returned (.bool (!(a == b))) ∧ w = w' := by
  go_enter Tryd.func45, Tryd.ntmps45
  go_wp2_with fail
  go_ret
  exact ⟨rfl, rfl⟩
theorem and_any (a b : Bool) (w : World) : Calls Tryd.prog 47 #[.bool a, .bool b] w fun e w' => e = .returned (.bool (a && b)) ∧ w = w' := by
  cases a <;> cases b
  all_goals
    go_enter Tryd.func47, Tryd.ntmps47
    go_wp2_with fail
    go_ret
    exact ⟨rfl, rfl⟩
theorem or_any (a b : Bool) (w : World) : Calls Tryd.prog 48 #[.bool a, .bool b] w fun e w' => e = .returned (.bool (a || b)) ∧ w = w' := by
  cases a <;> cases b
  all_goals
    go_enter Tryd.func48, Tryd.ntmps48
    go_wp2_with fail
    go_ret
    exact ⟨rfl, rfl⟩
/-- What is left where nothing can be parted. -/
def divI (a b : Int) : Int := if b = 0 then 0 else wrap64 (a.tdiv b)
def modI (a b : Int) : Int := if b = 0 then 0 else a.tmod b
theorem div_any (a b : Int) (w : World) : Calls Tryd.prog 39 #[.int .i64 a, .int .i64 b] w fun e w' => e = .returned (.int .i64 (divI a b)) ∧ w = w' := by
  unfold divI
  by_cases h : b = 0
  · subst h
    go_enter Tryd.func39, Tryd.ntmps39
    go_wp2_with fail
    go_ret
    exact ⟨rfl, rfl⟩
  · have hb : (b == 0) = false := beq_eq_false_iff_ne.2 h
    rw [if_neg h]
    go_enter Tryd.func39, Tryd.ntmps39
    go_wp2_with fail
    go_ret
    exact ⟨rfl, rfl⟩
theorem mod_any (a b : Int) (w : World) : Calls Tryd.prog 40 #[.int .i64 a, .int .i64 b] w fun e w' => e = .returned (.int .i64 (modI a b)) ∧ w = w' := by
  unfold modI
  by_cases h : b = 0
  · subst h
    go_enter Tryd.func40, Tryd.ntmps40
    go_wp2_with fail
    go_ret
    exact ⟨rfl, rfl⟩
  · have hb : (b == 0) = false := beq_eq_false_iff_ne.2 h
    rw [if_neg h]
    go_enter Tryd.func40, Tryd.ntmps40
    go_wp2_with fail
    go_ret
    exact ⟨rfl, rfl⟩
end Go.Proofs.YtphlodafdkpedaaDoor
