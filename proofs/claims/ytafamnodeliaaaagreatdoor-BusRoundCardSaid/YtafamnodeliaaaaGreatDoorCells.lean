/-
  Arguments of any make, opened from the outside in: what is told of the cells of a value is only that they can be read ('Cells').
-/
import Derived.Test.YtafamnodeliaaaaGreatDoorOpen
namespace Go.Proofs.YtafamnodeliaaaaGreatDoor
open Go.ChangeShapes Go.WideShapes Go.ChangeAt Go.RowKit

/-- These cells can be read as a value of type t in W, within the form's own reach. -/
def Cells (P : Program) (W : World) (t : TypeId) (cs : List Value) : Prop :=
  ∃ (H : Type) (enc : TypeId × Value → H) (fuel : Nat) (d : DataW H) (p : List MemPlace),
    DataW.trod enc P W 0 (fun _ => true) true fuel t cs = some (d, p) ∧ ∀ n ∈ d.weights P t, n ≤ reachBytes

/-- A slice whose elements have sz cells each reads as these rows. -/
def RdN (sz : Nat) (w : World) (v : Value) (rows : List (List Value)) : Prop :=
  ∃ a c, v = .slice a rows.length c ∧ rows.length ≤ c ∧ c ≤ maxLen ∧ (a = none → c = 0) ∧ (∀ r ∈ rows, r.length = sz) ∧
    ∀ i r, rows[i]? = some r → ∃ b o, a = some ⟨b, o, none⟩ ∧ ∀ j x, r[j]? = some x → w.cell? ⟨b, o + i * sz + j, none⟩ = some x

theorem RdN.below {sz : Nat} {w w' : World} {v : Value} {rows : List (List Value)} (h : RdN sz w v rows) (hb : Below w.heap.size w w') : RdN sz w' v rows := by
  obtain ⟨a, c, rfl, h1, h2, h3, h4, h5⟩ := h
  refine ⟨a, c, rfl, h1, h2, h3, h4, fun i r hr => ?_⟩
  obtain ⟨b, o, rfl, hc⟩ := h5 i r hr
  exact ⟨b, o, rfl, fun j x hx => (hb.cell (p := ⟨b, o + i * sz + j, none⟩) (World.block_lt_of_cell? w _ (hc j x hx))).trans (hc j x hx)⟩
theorem RdN.shape {sz : Nat} {w : World} {v : Value} {rows : List (List Value)} (h : RdN sz w v rows) : ∃ a c, v = .slice a rows.length c ∧ rows.length ≤ c ∧ c ≤ maxLen := by
  obtain ⟨a, c, rfl, h1, h2, _⟩ := h
  exact ⟨a, c, rfl, h1, h2⟩
theorem RdN.get {sz : Nat} {w : World} {a : Option Addr} {n c : Nat} {rows : List (List Value)} (h : RdN sz w (.slice a n c) rows) (i : Nat) (hi : i < rows.length) :
    ∃ b o, a = some ⟨b, o, none⟩ ∧ ∀ j x, rows[i][j]? = some x → w.cell? ⟨b, o + i * sz + j, none⟩ = some x := by
  obtain ⟨a', c', hv, h1, h2, h3, h4, h5⟩ := h
  simp only [Value.slice.injEq] at hv
  obtain ⟨rfl, _, rfl⟩ := hv
  exact h5 i _ (List.getElem?_eq_getElem hi)

variable {P : Program} {t e : TypeId} {W : World} {cs : List Value}

theorem Arg.cells {v : Value} (h : Arg P t W v) : Cells P W t v.cells.toList := by
  obtain ⟨H, enc, base, d, p, _, ⟨fuel, hf⟩, hw⟩ := h
  exact ⟨H, enc, fuel, d, p, hf, hw⟩
theorem Arg.struct {fs : Array Field} {v : Value} (ht : P.underlying t = some (.struct fs)) (h : Arg P t W v) : ∃ cs, v = .agg cs := by
  obtain ⟨H, enc, base, d, p, ho, _⟩ := h
  obtain ⟨cs, rfl, _⟩ := okWide_struct ht ho
  exact ⟨cs, rfl⟩
theorem Arg.array {n : Nat} {v : Value} (ht : P.underlying t = some (.array n e)) (h : Arg P t W v) : ∃ cs, v = .agg cs := by
  obtain ⟨H, enc, base, d, p, ho, _⟩ := h
  simp only [Value.okWide, ht] at ho
  obtain ⟨cs, h1, _⟩ := ho
  exact ⟨cs, h1⟩

theorem Cells.int {k : IntKind} (ht : P.underlying t = some (.int k)) (h : Cells P W t cs) : ∃ x : Int, cs = [.int k x] ∧ (Lit.int k x).wf = true := by
  obtain ⟨H, enc, fuel, d, p, hf, _⟩ := h
  obtain ⟨n, h1, _, h3⟩ := DataW.trod_int ht hf
  exact ⟨n, h1, h3⟩
theorem Cells.bool (ht : P.underlying t = some .bool) (h : Cells P W t cs) : ∃ x : Bool, cs = [.bool x] := by
  obtain ⟨H, enc, fuel, d, p, hf, _⟩ := h
  obtain ⟨n, h1, _⟩ := DataW.trod_bool ht hf
  exact ⟨n, h1⟩
theorem Cells.struct {fs : Array Field} (ht : P.underlying t = some (.struct fs)) (h : Cells P W t cs) :
    cs.length = P.cellsOf t ∧ ∀ (i : Nat) (f : Field), fs[i]? = some f → Cells P W f.type ((cs.drop f.offset).take (P.cellsOf f.type)) := by
  obtain ⟨H, enc, fuel, d, p, hf, hw⟩ := h
  obtain ⟨xs, n, _, hx, hl, hxl, hg⟩ := DataW.trod_struct ht hf
  simp only [Prod.mk.injEq] at hx
  obtain ⟨rfl, rfl⟩ := hx
  refine ⟨hl, fun i f hi => ?_⟩
  have hil : i < fs.size := (Array.getElem?_eq_some_iff.1 hi).1
  have hx : xs[i]? = some (xs[i]'(by omega)) := List.getElem?_eq_getElem (by omega)
  refine ⟨H, enc, n, (xs[i]'(by omega)).1, (xs[i]'(by omega)).2, (hg i f hi).trans hx, fun m hm => hw m ?_⟩
  simp only [DataW.weights, ht]
  refine DataW.weights_mem_each (j := i) (t := f.type) ?_ ?_ m hm
  · rw [List.getElem?_map, Array.getElem?_toList, hi]
    rfl
  · rw [List.getElem?_map, hx]
    rfl
theorem weights_all_mem {H : Type} (l : List (DataW H)) (d : DataW H) (hd : d ∈ l) (m : Nat) (hm : m ∈ d.weights P e) : m ∈ DataW.weightsAll P e l := by
  induction l with
  | nil => cases hd
  | cons x l ih =>
    simp only [DataW.weightsAll, List.mem_append]
    cases hd with
    | head => exact .inl hm
    | tail _ h => exact .inr (ih h)
theorem Cells.array {n : Nat} (ht : P.underlying t = some (.array n e)) (h : Cells P W t cs) :
    cs.length = P.cellsOf t ∧ ∀ i, i < n → Cells P W e ((cs.drop (i * P.cellsOf e)).take (P.cellsOf e)) := by
  obtain ⟨H, enc, fuel, d, p, hf, hw⟩ := h
  obtain ⟨xs, m, _, hx, hl, hxl, hg⟩ := DataW.trod_array ht hf
  simp only [Prod.mk.injEq] at hx
  obtain ⟨rfl, rfl⟩ := hx
  refine ⟨hl, fun i hi => ?_⟩
  have hx : xs[i]? = some (xs[i]'(by omega)) := List.getElem?_eq_getElem (by omega)
  refine ⟨H, enc, m, (xs[i]'(by omega)).1, (xs[i]'(by omega)).2, (hg i hi).trans hx, fun q hq => hw q ?_⟩
  simp only [DataW.weights, ht]
  exact weights_all_mem _ _ (List.mem_map_of_mem (List.getElem_mem _)) q hq
theorem Cells.slice (ht : P.underlying t = some (.slice e)) (hpos : 0 < P.cellsOf e) (h : Cells P W t cs) :
    ∃ v rows, cs = [v] ∧ RdN (P.cellsOf e) W v rows ∧ (∀ r ∈ rows, Cells P W e r) ∧ rows.length * P.bytesOf e ≤ reachBytes := by
  obtain ⟨H, enc, fuel, d, p, hf, hw⟩ := h
  rcases DataW.trod_slice ht hf with ⟨rfl, _⟩ | ⟨a, len, cap, elems, rest, n, _, rfl, hx, _, hl, hm, hlen, hel, _, _⟩
  · exact ⟨_, [], rfl, ⟨none, 0, rfl, by simp, by simp [maxLen], by simp, by simp, by simp⟩, by simp, by simp⟩
  · simp only [Prod.mk.injEq] at hx
    obtain ⟨rfl, rfl⟩ := hx
    have each : ∀ i, i < len → ∃ r, W.cells? 0 (a.add (i * P.cellsOf e)) (P.cellsOf e) = some r ∧ Cells P W e r := by
      intro i hi
      have h1 := hel i hi
      have hx : elems[i]? = some (elems[i]'(by omega)) := List.getElem?_eq_getElem (by omega)
      rw [hx] at h1
      cases hc : W.cells? 0 (a.add (i * P.cellsOf e)) (P.cellsOf e) with
      | none => rw [hc] at h1; simp at h1
      | some r =>
        rw [hc] at h1
        refine ⟨r, rfl, H, enc, n, (elems[i]'(by omega)).1, (elems[i]'(by omega)).2, h1, fun q hq => hw q ?_⟩
        simp only [DataW.weights, ht, List.mem_cons, List.mem_append]
        exact .inr (.inl (weights_all_mem _ _ (List.mem_map_of_mem (List.getElem_mem _)) q hq))
    have hr : ∀ i, ∃ r : List Value, i < len → W.cells? 0 (a.add (i * P.cellsOf e)) (P.cellsOf e) = some r ∧ Cells P W e r := by
      intro i
      by_cases hi : i < len
      · obtain ⟨r, h1⟩ := each i hi
        exact ⟨r, fun _ => h1⟩
      · exact ⟨[], fun h => absurd h hi⟩
    let R : Nat → List Value := fun i => Classical.choose (hr i)
    have hR : ∀ i, i < len → W.cells? 0 (a.add (i * P.cellsOf e)) (P.cellsOf e) = some (R i) ∧ Cells P W e (R i) := fun i hi => Classical.choose_spec (hr i) hi
    have hRl : ((List.range len).map R).length = len := by simp
    refine ⟨_, (List.range len).map R, rfl, ⟨some a, cap, by rw [hRl], by omega, hm, by simp, ?_, ?_⟩, ?_, ?_⟩
    · intro r hr
      obtain ⟨i, hi, rfl⟩ := List.mem_map.1 hr
      exact (World.cells?_some (hR i (List.mem_range.1 hi)).1).2.1
    · intro i r hir
      have hi : i < len := by
        have := (List.getElem?_eq_some_iff.1 hir).1
        omega
      have hri : r = R i := by
        rw [List.getElem?_map, List.getElem?_range hi] at hir
        exact (Option.some.inj hir).symm
      subst hri
      obtain ⟨_, hcl, hc⟩ := World.cells?_some (hR i hi).1
      obtain ⟨b, o, spot⟩ := a
      have hspot : spot = none := by
        have h0 := (World.cells?_some (hR 0 (by omega)).1).2
        have h1 := h0.2 0 (by omega)
        have h2 : ((R 0)[0]?).isSome = true := by
          rw [List.getElem?_eq_getElem (by omega)]
          rfl
        cases hv : (R 0)[0]? with
        | none => rw [hv] at h2; cases h2
        | some x =>
          rw [hv] at h1
          have := World.cell?_spot h1
          simpa [Addr.add] using this
      subst hspot
      refine ⟨b, o, rfl, fun j x hx => ?_⟩
      have hj : j < P.cellsOf e := by
        have := (List.getElem?_eq_some_iff.1 hx).1
        omega
      have := hc j hj
      rw [Addr.add_lit, Addr.add_lit] at this
      rw [this, hx]
    · intro r hr
      obtain ⟨i, hi, rfl⟩ := List.mem_map.1 hr
      exact (hR i (List.mem_range.1 hi)).2
    · rw [hRl]
      have := hw (((elems.map (·.1)).length + (rest.map (·.1)).length) * P.bytesOf e) (by simp [DataW.weights, ht])
      refine Nat.le_trans (Nat.mul_le_mul_right _ ?_) this
      simp only [List.length_map]
      omega

/-- Rows of one cell. -/
theorem RdN.one {w : World} {v : Value} {rows : List (List Value)} {xs : List Value} (h : RdN 1 w v rows) (hx : rows = xs.map fun x => [x]) : Rd w v xs := by
  subst hx
  obtain ⟨a, c, rfl, h1, h2, h3, _, h5⟩ := h
  rw [List.length_map] at *
  refine ⟨a, c, rfl, h1, h2, h3, fun i x hi => ?_⟩
  obtain ⟨b, o, rfl, hc⟩ := h5 i [x] (by rw [List.getElem?_map, hi]; rfl)
  exact ⟨b, o, rfl, by simpa using hc 0 x rfl⟩
/-- Rows that are each of a make. -/
theorem rows_of {α : Type} (g : α → List Value) (Q : α → Prop) (rows : List (List Value)) (h : ∀ r ∈ rows, ∃ a, r = g a ∧ Q a) : ∃ as : List α, rows = as.map g ∧ ∀ a ∈ as, Q a := by
  induction rows with
  | nil => exact ⟨[], rfl, by simp⟩
  | cons r rows ih =>
    obtain ⟨as, rfl, h2⟩ := ih fun x hx => h x (by simp [hx])
    obtain ⟨a, rfl, h3⟩ := h r (by simp)
    exact ⟨a :: as, rfl, by simpa using ⟨h3, h2⟩⟩
/-- A slice of whole numbers. -/
theorem Cells.nums {k : IntKind} (ht : P.underlying t = some (.slice e)) (he : P.underlying e = some (.int k)) (hc : P.cellsOf e = 1) (h : Cells P W t cs) :
    ∃ v, ∃ zs : List Int, cs = [v] ∧ Rd W v (zs.map (Value.int k)) ∧ (∀ z ∈ zs, (Lit.int k z).wf = true) ∧ zs.length * P.bytesOf e ≤ reachBytes := by
  obtain ⟨v, rows, rfl, hR, hrows, hw⟩ := h.slice ht (by omega)
  obtain ⟨zs, rfl, hz⟩ := rows_of (fun z : Int => [Value.int k z]) (fun z => (Lit.int k z).wf = true) rows fun r hr => (hrows r hr).int he
  rw [hc] at hR
  exact ⟨v, zs, rfl, hR.one (by simp), hz, by simpa using hw⟩
/-- An array of whole numbers. -/
theorem Cells.arrNums {n : Nat} {k : IntKind} (ht : P.underlying t = some (.array n e)) (he : P.underlying e = some (.int k)) (hc : P.cellsOf e = 1) (hn : P.cellsOf t = n) (h : Cells P W t cs) :
    ∃ zs : List Int, cs = zs.map (Value.int k) ∧ zs.length = n ∧ ∀ z ∈ zs, (Lit.int k z).wf = true := by
  obtain ⟨hl, hi⟩ := h.array ht
  have each : ∀ v ∈ cs, ∃ x : Int, v = Value.int k x ∧ (Lit.int k x).wf = true := by
    intro v hv
    obtain ⟨i, hlt, rfl⟩ := List.getElem_of_mem hv
    have h1 := hi i (by omega)
    have hd : (cs.drop (i * 1)).take 1 = [cs[i]] := by
      rw [Nat.mul_one, List.drop_eq_getElem_cons hlt]
      rfl
    rw [hc, hd] at h1
    obtain ⟨x, hx, hw⟩ := h1.int he
    exact ⟨x, List.head_eq_of_cons_eq hx, hw⟩
  have : ∃ zs : List Int, cs = zs.map (Value.int k) ∧ ∀ z ∈ zs, (Lit.int k z).wf = true := by
    clear hl hi h
    induction cs with
    | nil => exact ⟨[], rfl, by simp⟩
    | cons v cs ih =>
      obtain ⟨zs, rfl, h2⟩ := ih fun x hx => each x (by simp [hx])
      obtain ⟨x, rfl, h3⟩ := each v (by simp)
      exact ⟨x :: zs, rfl, by simpa using ⟨h3, h2⟩⟩
  obtain ⟨zs, rfl, hz⟩ := this
  exact ⟨zs, rfl, by simpa [hn] using hl, hz⟩
theorem list4 {α : Type} {l : List α} (h : l.length = 4) : ∃ a b c d, l = [a, b, c, d] := by
  match l, h with
  | [a, b, c, d], _ => exact ⟨a, b, c, d, rfl⟩
end Go.Proofs.YtafamnodeliaaaaGreatDoor
