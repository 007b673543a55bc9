/-
  Runs of cells written into a block that is known whole; 'copy' of elements of several cells, as one step of a region that draws its order.
-/
import Derived.Test.YtppjphelibdlcaaGreatDoorKit
import Derived.Deep.MidRow
import Derived.Deep.RegionLaw
import Derived.Laws.CopyOwn
import Derived.Deep.Upon
import Derived.Laws.ResultCell
import Derived.Laws.MakeOwn
import Derived.Deep.OwnRows
namespace Go.Proofs.YtppjphelibdlcaaGreatDoor
open Go.RowKit
open Go

theorem splice_cons {α : Type} (L : List α) (o : Nat) (v : α) (r : List α) (h : o + (v :: r).length ≤ L.length) : splice (L.set o v) (o + 1) r = splice L o (v :: r) := by
  simp only [List.length_cons] at h
  have ho : o < L.length := by omega
  unfold splice
  rw [List.take_set, List.drop_set_of_lt (by omega)]
  simp only [List.length_cons]
  rw [show o + 1 + r.length = o + (r.length + 1) by omega]
  rw [List.take_succ_eq_append_getElem ho, List.set_append_right _ _ (by rw [List.length_take]; omega)]
  simp [Nat.min_eq_left (Nat.le_of_lt ho)]
theorem splice_nil {α : Type} (L : List α) (o : Nat) : splice L o [] = L := by simp [splice]
theorem splice_all {α : Type} (L cs : List α) (h : cs.length = L.length) : splice L 0 cs = cs := by simp [splice, h]
theorem splice_take {α : Type} (L cs : List α) (o : Nat) (h : o ≤ L.length) : (splice L o cs).take (o + cs.length) = L.take o ++ cs := by
  unfold splice
  rw [← List.append_assoc, List.take_append_of_le_length (by simp; omega)]
  exact List.take_of_length_le (by simp; omega)
theorem splice_get {α : Type} (L cs : List α) (o j : Nat) (h : o ≤ L.length) (hj : j < cs.length) : (splice L o cs)[o + j]? = cs[j]? := by
  unfold splice
  rw [List.getElem?_append_right (by simp; omega), List.getElem?_append_left (by simp; omega)]
  congr 1
  simp
  omega

/-- Cells written into a block. -/
theorem heap_setCells_row (b : Nat) (t : TypeId) (vs : List Value) (o : Nat) (w : World) (cur : List Value) (h : w.heap[b]? = some (.cells cur.toArray t (0, 0))) (hl : o + vs.length ≤ cur.length) :
    (w.setCells b o vs).heap[b]? = some (.cells (splice cur o vs).toArray t (0, 0)) := by
  induction vs generalizing o w cur with
  | nil => rw [splice_nil]; exact h
  | cons v r ih =>
    have h1 := heap_setCell_same w b o _ t v h
    rw [List.setIfInBounds_toArray] at h1
    rw [World.setCells, ih (o + 1) _ _ h1 (by simp at hl ⊢; omega), splice_cons _ _ _ _ hl]
theorem below_setCells {B b : Nat} {w0 : World} (hBg : B ≤ b) (vs : List Value) (o : Nat) (w : World) (hb : Below B w0 w) : Below B w0 (w.setCells b o vs) := by
  induction vs generalizing o w with
  | nil => exact hb
  | cons v r ih => exact ih (o + 1) _ (hb.setCell (p := ⟨b, o, none⟩) hBg v)
theorem there_block {w : World} {b : Nat} {cur : Array Value} {t : TypeId} (h : w.heap[b]? = some (.cells cur t (0, 0))) (o n : Nat) (hl : o + n ≤ cur.size) : w.there b o n := fun j hj => by
  rw [cell_of_row w b (o + j) _ _ _ h, Array.getElem?_eq_getElem (by omega)]
  exact ⟨rfl, frozen_of_row w b (o + j) _ _ h⟩

/-- 'copy' of n elements of sz cells each. -/
theorem run_copyN {P : Program} (w : World) (dT sT ty elem : TypeId) (b o dLen dCap : Nat) (a : Addr) (sLen sCap sz n : Nat) (cs : List Value)
    (hu : P.underlying dT = some (.slice elem)) (hs : (P.info? elem).map (·.size) = some sz) (hn : n = Nat.min sLen dLen) (hl : cs.length = n * sz)
    (hsrc : ∀ j v, cs[j]? = some v → w.cell? (a.add j) = some v) (hth : w.there b o cs.length) (h1 : ∀ v ∈ cs, v.oneCell' = true) :
    (Builtin.copy_ #[dT, sT] ty #[.slice (some ⟨b, o, none⟩) dLen dCap, .slice (some a) sLen sCap]).run P w = .ok (goInt n) (w.setCells b o cs) := by
  have hld := run_loadCells_list (P := P) w a cs hsrc
  have hst := run_storeCells_cells (P := P) b o cs 0 w (fun j hj => by simpa using (hth j hj).1) (fun j hj => by simpa using (hth j hj).2) h1
  subst hn
  cases hq : P.info? elem with
  | none => simp [hq] at hs
  | some i =>
    have hi : i.size = sz := by simpa [hq] using hs
    simp [Builtin.copy_, run_underlying hu, Builtin.lenOf, Builtin.firstCells, sizeOf, typeInfo, hq, hi, ← hl, hld, hst]

theorem step_copyN {P : Program} {ops : Array Oper} {o : Oper} {a : Act} {w : World} {K : Act → World → Prop} {Q : Exit → Act → World → Prop} {E : Prop} (hgd : o.guard = none) (d s : Operand) (dT sT : TypeId)
    (ho : o.op = .call { callee := .builtin .copy, args := #[d, s], argTypes := #[dT, sT] }) (elem : TypeId) (sz n : Nat) (hu : P.underlying dT = some (.slice elem)) (hsz : (P.info? elem).map (·.size) = some sz)
    (ad : Addr) (dLen dCap sLen sCap g off : Nat) (hd : a.eval d = .slice (some ⟨g, off, none⟩) dLen dCap) (hs : a.eval s = .slice (some ad) sLen sCap)
    (cur : List Value) (t : TypeId) (hg : w.heap[g]? = some (.cells cur.toArray t (0, 0))) (cs : List Value) (hn : n = Nat.min sLen dLen) (hl : cs.length = n * sz)
    (hsrc : ∀ j v, cs[j]? = some v → w.cell? (ad.add j) = some v)
    (hfit : off + cs.length ≤ cur.length) (h1 : ∀ v ∈ cs, v.oneCell' = true) (B : Nat) (w0 : World) (hb : Below B w0 w) (hBg : B ≤ g)
    (h : ∀ w', w'.heap[g]? = some (.cells (splice cur off cs).toArray t (0, 0)) → (∀ k, k < w.heap.size → k ≠ g → w'.heap[k]? = w.heap[k]?) → Below B w0 w' → K (a.put o.dst (goInt n)) w') :
    if Region.wanted o (yielded ops a.tmps) = true then Oper.wp P o a w K Q else E := by
  have hw : Region.wanted o (yielded ops a.tmps) = true := by simp [Region.wanted, hgd]
  rw [if_pos hw]
  have hrun := run_copyN (P := P) w dT sT o.type elem g off dLen dCap ad sLen sCap sz n cs hu hsz hn hl hsrc (there_block hg off cs.length (by simpa using hfit)) h1
  unfold Oper.wp
  simp [execOp, ho, resolve, invoke, builtin, hd, hs, hrun, Result.andThen]
  exact h _ (heap_setCells_row g t cs off w cur hg hfit) (fun k hk hne => World.heap_setCells_other w g off cs hk hne) (below_setCells hBg cs off w hb)
theorem wpList_store_midL {P : Program} {ops : Array Oper} {rest : List Oper} {op : Oper} {a : Act} {w : World} {Q : Exit → Act → World → Prop} (hgd : op.guard = none) (ty : TypeId) (x y : Operand) (ho : op.op = .store ty x y)
    (b o : Nat) (cs : List Value) (hx : a.eval x = .pointer (some ⟨b, o, none⟩)) (hy : a.eval y = .agg cs.toArray)
    (ht : w.there b o cs.length) (hi : (P.info? ty).map (·.size) = some cs.length) (h1 : ∀ v ∈ cs, v.oneCell' = true)
    (h : wpList P ops Q rest (a.put op.dst undef) (w.setCells b o cs)) : wpList P ops Q (op :: rest) a w :=
  wpList_store_mid hgd ty x y ho b o cs.toArray hx hy (by simpa using ht) (by simpa using hi) (all_oneCell_toArray h1) (by simpa using h)

/-- make of n elements, n a variable. -/
theorem wpList_make_rowN {P : Program} (w : World) {ops : Array Oper} {rest : List Oper} {o : Oper} {a : Act} {Q : Exit → Act → World → Prop}
    (hg : o.guard = none) (l c : Operand) (t : TypeId) (hop : o.op = Op.makeSlice t l c)
    (e : TypeId) (i : TypeInfo) (z : Value) (sz : Nat) (ht : P.underlying t = some (.slice e)) (hi : P.info? e = some i) (hz : i.zero = some z) (hsize : i.size = sz)
    (kl kc : IntKind) (n : Nat) (hl : a.eval l = .int kl (n : Int)) (hc : a.eval c = .int kc (n : Int)) (hbytes : i.bytes * n ≤ 281474976710656) (h63 : n ≤ 9223372036854775807)
    (hK : ∀ cur : List Value, cur.length = n * sz → wpList P ops Q rest (a.put o.dst (.slice (some ⟨w.heap.size, 0, none⟩) n n)) (w.alloc (.cells cur.toArray e))) :
    wpList P ops Q (o :: rest) a w := by
  refine wpList_plain hg fun K hK' => ?_
  have hb' : (i.bytes : Int) * (n : Int) ≤ 281474976710656 := by
    have h : ((i.bytes * n : Nat) : Int) ≤ 281474976710656 := by omega
    rwa [Int.natCast_mul] at h
  have hr := run_make (P := P) w t e i z ht hi hz kl kc n n (by omega) (Int.le_refl _) hb' (by omega)
  simp only [Int.toNat_natCast, hsize] at hr
  have hk := hK' _ _ (hK (madeCells z.cells (n * sz)).toList (by simp [size_madeCells]))
  simp only [Array.toArray_toList] at hk
  unfold Oper.wp
  simp [execOp, hop, hl, hc, hr, Result.andThen]
  exact hk

/-- Results: a row in memory, and a slot. -/
theorem results_row_tmp {P : Program} {fn : Func} {p u : Tmp} {ty : TypeId} (h : fn.results = #[.cell p ty, .tmp u]) (tmps : Array Value) (w : World) (g : Nat) (t : TypeId) (cs : Array Value) (fr : Nat × Nat) (d : TypeDesc)
    (hp : tmps.getD p undef = .pointer (some ⟨g, 0, none⟩)) (hg : w.heap[g]? = some (.cells cs t fr))
    (hu : P.underlying ty = some d) (hd : (match d with | .struct _ | .array _ _ => true | _ => false) = true) (hi : (P.info? ty).map (·.size) = some cs.size) :
    (results fn tmps).run P w = .ok (.tuple #[.agg cs, tmps.getD u undef]) w := by
  rw [results_cell_tmp h, hp]
  simp [asAddr, Result.andThen, run_loadVar_row w g t ty cs fr d hg hu hd hi]
end Go.Proofs.YtppjphelibdlcaaGreatDoor
