/-
  What the laws' own operator makes of numbers, and of yes and no: plain laws.
-/
import Derived.Test.YtphlodafdkpedaaDoorValsLaw
namespace Go.Proofs.YtphlodafdkpedaaDoor
open Go.RowKit
open Go

theorem doL_lt (a b : Int) : doL 13 [(1, a), (1, b)] = (2, boolI (decide (a < b))) := rfl
theorem doL_le (a b : Int) : doL 14 [(1, a), (1, b)] = (2, boolI (decide (a ≤ b))) := rfl
theorem doL_same (a b : Int) : doL 11 [(1, a), (1, b)] = (2, boolI (a == b)) := rfl
theorem doL_else (a b : Int) : doL 12 [(1, a), (1, b)] = (2, boolI (!(a == b))) := rfl
theorem doL_and (x y : Bool) : doL 15 [(2, boolI x), (2, boolI y)] = (2, boolI (x && y)) := by cases x <;> cases y <;> rfl
theorem doL_or (x y : Bool) : doL 16 [(2, boolI x), (2, boolI y)] = (2, boolI (x || y)) := by cases x <;> cases y <;> rfl
theorem doL_not (x : Bool) : doL 5 [(2, boolI x)] = (2, boolI (!x)) := by cases x <;> rfl
theorem doL_sameb (x y : Bool) : doL 11 [(2, boolI x), (2, boolI y)] = (2, boolI (x == y)) := by cases x <;> cases y <;> rfl
theorem doL_neg (a : Int) : doL 4 [(1, a)] = (1, wrap64 (-a)) := rfl
theorem doL_sub (a b : Int) : doL 7 [(1, a), (1, b)] = (1, wrap64 (a - b)) := rfl
theorem doL_add' (a b : Int) : doL 6 [(1, a), (1, b)] = (1, wrap64 (a + b)) := rfl
theorem doL_mul' (a b : Int) : doL 8 [(1, a), (1, b)] = (1, wrap64 (a * b)) := rfl
theorem doL_div (a b : Int) : doL 9 [(1, a), (1, b)] = (1, divI a b) := rfl
theorem doL_mod (a b : Int) : doL 10 [(1, a), (1, b)] = (1, modI a b) := rfl
theorem doL_if (x : Bool) (a b : Int) : doL 17 [(2, boolI x), (1, a), (1, b)] = (1, if x then a else b) := by cases x <;> rfl
theorem doL_ifb (x y z : Bool) : doL 17 [(2, boolI x), (2, boolI y), (2, boolI z)] = (2, boolI (if x then y else z)) := by cases x <;> cases y <;> cases z <;> rfl
end Go.Proofs.YtphlodafdkpedaaDoor
