/-
  Values as bits: plain laws. No program in sight.
-/
import Derived.Test.YtckpeclkkmapiaaGreatDoorFrMath
import Derived.Test.YtckpeclkkmapiaaGreatDoorRowsN
namespace Go.Proofs.YtckpeclkkmapiaaGreatDoor
open Go.RowKit
open Go

/-- A value, as its type and its number. -/
abbrev VT := Int × Int
def rowV (p : VT) : List Value := [.int .u8 p.1, .int .i64 p.2]
def aggV (p : VT) : Value := .agg #[.int .u8 p.1, .int .i64 p.2]
/-- The cells of values. -/
def cellsV (l : List VT) : List Value := (l.map rowV).flatten
theorem cellsV_append (a b : List VT) : cellsV (a ++ b) = cellsV a ++ cellsV b := by simp [cellsV]
theorem cellsV_len (l : List VT) : (cellsV l).length = l.length * 2 := by
  unfold cellsV
  rw [flat_len 2 _ (fun r hr => by obtain ⟨f, _, rfl⟩ := List.mem_map.1 hr; rfl), List.length_map]
theorem cellsV_at (l : List VT) (i : Nat) (h : i < l.length) : (cellsV l)[i * 2]? = some (.int .u8 l[i].1) ∧ (cellsV l)[i * 2 + 1]? = some (.int .i64 l[i].2) := by
  have hs : ∀ r ∈ l.map rowV, r.length = 2 := fun r hr => by obtain ⟨f, _, rfl⟩ := List.mem_map.1 hr; rfl
  have hr : (l.map rowV)[i]? = some (rowV l[i]) := by rw [List.getElem?_map, List.getElem?_eq_getElem h]; rfl
  exact ⟨flat_get 2 _ hs i 0 _ _ hr rfl, flat_get 2 _ hs i 1 _ _ hr rfl⟩
theorem oc_row (p : VT) : ∀ u ∈ rowV p, u.oneCell' = true := by
  intro u hu
  simp [rowV] at hu
  rcases hu with rfl | rfl <;> rfl

def chkV (p : VT) : Bool := p.1 == 1 || (p.1 == 2 && (p.2 == 0 || p.2 == 1))
/-- How many bits a type has. -/
def tyW (t : Int) : Nat := if t = 2 then 1 else if t = 1 then 64 else 0
theorem tyW_le (t : Int) : tyW t ≤ 64 := by unfold tyW; split <;> (try split) <;> omega
/-- A number of 64 bits, without its sign. -/
def un (n : Int) : Nat := (IntKind.u64.wrap n).toNat
theorem un_eq (n : Int) : IntKind.u64.wrap n = (un n : Int) := by
  unfold un
  have : 0 ≤ IntKind.u64.wrap n := by simp [IntKind.wrap, IntKind.bits, IntKind.signed]; omega
  omega
theorem un_lt (n : Int) : un n < 18446744073709551616 := by
  have h := un_eq n
  have : IntKind.u64.wrap n < 18446744073709551616 := by simp [IntKind.wrap, IntKind.bits, IntKind.signed]; omega
  omega
def bitsV (p : VT) : List Bool := nbits (un p.2) (tyW p.1)
theorem bitsV_len (p : VT) : (bitsV p).length = tyW p.1 := nbits_len _ _
def bitsL (l : List VT) : List Bool := l.flatMap bitsV
theorem bitsL_append (a b : List VT) : bitsL (a ++ b) = bitsL a ++ bitsL b := List.flatMap_append
theorem bitsL_snoc (l : List VT) (k : Nat) (h : k < l.length) : bitsL (l.take (k + 1)) = bitsL (l.take k) ++ nbits (un l[k].2) (tyW l[k].1) := by
  rw [take_snoc _ _ h, bitsL_append]
  simp [bitsL, bitsV]
theorem bitsL_len (l : List VT) : (bitsL l).length ≤ 64 * l.length := by
  induction l with
  | nil => simp [bitsL]
  | cons p l ih =>
    have h1 := tyW_le p.1
    have e : bitsL (p :: l) = bitsV p ++ bitsL l := rfl
    rw [e, List.length_append, bitsV_len, List.length_cons]
    omega
/-- How many bits types have. -/
def sizeT : List Int → Nat
  | [] => 0
  | t :: ts => tyW t + sizeT ts
theorem sizeT_append (a b : List Int) : sizeT (a ++ b) = sizeT a + sizeT b := by
  induction a with
  | nil => simp [sizeT]
  | cons t a ih => simp only [List.cons_append, sizeT, ih]; omega
theorem sizeT_snoc (l : List Int) (k : Nat) (h : k < l.length) : sizeT (l.take (k + 1)) = sizeT (l.take k) + tyW l[k] := by
  rw [take_snoc _ _ h, sizeT_append]
  simp [sizeT]
theorem sizeT_le (l : List Int) : sizeT l ≤ 64 * l.length := by
  induction l with
  | nil => simp [sizeT]
  | cons t l ih =>
    have := tyW_le t
    simp only [sizeT, List.length_cons]
    omega
theorem sizeT_take (l : List Int) (k : Nat) : sizeT (l.take k) ≤ sizeT l := by
  have := sizeT_append (l.take k) (l.drop k)
  rw [List.take_append_drop] at this
  omega
theorem bitsL_size (l : List VT) : (bitsL l).length = sizeT (l.map (·.1)) := by
  induction l with
  | nil => rfl
  | cons p l ih =>
    have e : bitsL (p :: l) = bitsV p ++ bitsL l := rfl
    rw [e, List.length_append, bitsV_len, ih]
    rfl
/-- Values of types, out of bytes. -/
def valsAt (bs : List Nat) : Nat → List Int → List VT
  | _, [] => []
  | a, t :: ts => (t, wrap64 (getN bs a (tyW t))) :: valsAt bs (a + tyW t) ts
theorem valsAt_len (bs : List Nat) (a : Nat) (ts : List Int) : (valsAt bs a ts).length = ts.length := by
  induction ts generalizing a with
  | nil => rfl
  | cons t ts ih => simp [valsAt, ih]
theorem valsAt_append (bs : List Nat) (a : Nat) (x y : List Int) : valsAt bs a (x ++ y) = valsAt bs a x ++ valsAt bs (a + sizeT x) y := by
  induction x generalizing a with
  | nil => simp [valsAt, sizeT]
  | cons t x ih =>
    simp only [List.cons_append, valsAt, ih, sizeT]
    rw [Nat.add_assoc]
theorem valsAt_snoc (bs : List Nat) (ts : List Int) (k : Nat) (h : k < ts.length) : valsAt bs 0 (ts.take (k + 1)) = valsAt bs 0 (ts.take k) ++ [(ts[k], wrap64 (getN bs (sizeT (ts.take k)) (tyW ts[k])))] := by
  rw [take_snoc _ _ h, valsAt_append]
  simp [valsAt]
def errV (bs : List Nat) (ts : List Int) : Nat :=
  if ts.any (fun t => tyW t == 0) then 1 else if bs.length ≠ (sizeT ts + 7) / 8 then 5 else if getN bs (sizeT ts) (8 * bs.length - sizeT ts) ≠ 0 then 5 else 0
end Go.Proofs.YtckpeclkkmapiaaGreatDoor
