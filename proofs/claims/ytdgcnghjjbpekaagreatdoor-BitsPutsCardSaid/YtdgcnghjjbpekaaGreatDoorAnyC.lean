/-
  A region that draws its order: each value told outright; what is told of the world hangs on which of two operations have come up.
-/
import Derived.Test.YtdgcnghjjbpekaaGreatDoorAnyInv
import Derived.KernelRfl
namespace Go.Proofs.YtdgcnghjjbpekaaGreatDoor
open Go.RowKit
open Go
set_option linter.unusedVariables false

/-- What is told of a value: the very value; or a slice's length. -/
inductive Dv where
  | lit (v : Value)
  | len (n : Nat)
  | any
def Dv.Has : Dv → World → Value → Prop
  | .lit u, _, v => v = u
  | .len n, _, v => ∃ a c, v = .slice a n c
  | .any, _, _ => True
theorem Dv.below {d : Dv} {w w' : World} {v : Value} (h : d.Has w v) (hb : Below w.heap.size w w') : d.Has w' v := by
  cases d with
  | lit u => exact h
  | len n => exact h
  | any => trivial
/-- The slots that an operation may lean on: those of before, and those of what it waits for. -/
def srcs (dl bs : List Nat) (o : Oper) : List Nat := bs ++ (o.after.toList.filter (Region.binds .any)).map (fun e => dl.getD e.on 0)
def opV (dl bs : List Nat) (ds : List Dv) (o : Oper) : Operand → Option Value
  | .tmp s => bif (srcs dl bs o).contains s then (match ds.getD s .any with | .lit v => some v | _ => none) else none
  | .const v => some v
  | _ => none
/-- Whether it is wanted, so far as that is told. -/
def wantB (dl bs : List Nat) (ds : List Dv) (o : Oper) : Option Bool :=
  match o.guard with
  | none => some true
  | some (j, b) => bif Nat.blt j dl.length && (srcs dl bs o).contains (dl.getD j 0) then (match ds.getD (dl.getD j 0) .any with | .lit (.bool c) => some (c == b) | _ => none) else none
def Knows (dl bs : List Nat) (ds : List Dv) (o : Oper) (a : Act) (w : World) : Prop := ∀ s ∈ srcs dl bs o, (ds.getD s .any).Has w (a.tmps.getD s undef)
theorem Knows.val {dl bs : List Nat} {ds : List Dv} {o : Oper} {a : Act} {w : World} (h : Knows dl bs ds o a w) {x : Operand} {v : Value} (hx : opV dl bs ds o x = some v) : a.eval x = v := by
  cases x with
  | tmp s =>
    unfold opV at hx
    dsimp only at hx
    cases hc : (srcs dl bs o).contains s with
    | false => rw [hc] at hx; cases hx
    | true =>
      rw [hc] at hx
      have := h s (by simpa using hc)
      cases hd : ds.getD s .any with
      | lit u =>
        rw [hd] at this hx
        simp at hx
        subst hx
        exact this
      | len n => rw [hd] at hx; cases hx
      | any => rw [hd] at hx; cases hx
  | const u => cases hx; rfl
  | global g => cases hx
  | func f => cases hx
/-- Which of the two have come up. -/
abbrev two (C : Bool → Bool → World → Prop) (i1 i2 : Nat) (l : Array Bool) (w : World) : Prop := C (l.getD i1 false) (l.getD i2 false) w
def StepOk (P : Program) (dl bs : List Nat) (ds : List Dv) (imps : List (Nat × Nat)) (C : Bool → Bool → World → Prop) (i1 i2 : Nat) (Q : Exit → Act → World → Prop) (i : Nat) (o : Oper) : Prop :=
  ∀ (l : Array Bool) a w, two C i1 i2 l w → i < l.size → l.getD i true = false → (∀ e ∈ o.after, Region.binds .any e = true → l.getD e.on false = true) → (∀ p ∈ imps, l.getD p.1 false = true → l.getD p.2 false = true) → Knows dl bs ds o a w →
    (wantB dl bs ds o = some true ∧ ∀ K : Act → World → Prop, (∀ v w', two C i1 i2 (l.setIfInBounds i true) w' → (∀ d, o.dst = some d → (ds.getD d .any).Has w' v) → K (a.put o.dst v) w') → o.wp P a w K Q)
    ∨ (wantB dl bs ds o = some false ∧ (∀ d, o.dst = some d → ds.getD d .any = .any) ∧ two C i1 i2 (l.setIfInBounds i true) w)
def StepsOk (P : Program) (dl bs : List Nat) (ds : List Dv) (imps : List (Nat × Nat)) (C : Bool → Bool → World → Prop) (i1 i2 : Nat) (Q : Exit → Act → World → Prop) : Nat → List Oper → Prop
  | _, [] => True
  | i, o :: r => StepOk P dl bs ds imps C i1 i2 Q i o ∧ StepsOk P dl bs ds imps C i1 i2 Q (i + 1) r
theorem StepsOk.at {P : Program} {dl bs : List Nat} {ds : List Dv} {imps : List (Nat × Nat)} {C : Bool → Bool → World → Prop} {i1 i2 : Nat} {Q : Exit → Act → World → Prop} (l : List Oper) (k : Nat) (h : StepsOk P dl bs ds imps C i1 i2 Q k l) (i : Nat) (o : Oper) (hi : l[i]? = some o) : StepOk P dl bs ds imps C i1 i2 Q (k + i) o := by
  induction l generalizing k i with
  | nil => simp at hi
  | cons x l ih =>
    cases i with
    | zero =>
      simp at hi
      subst hi
      exact h.1
    | succ i =>
      have := ih (k + 1) h.2 i (by simpa using hi)
      rwa [show k + 1 + i = k + (i + 1) by omega] at this
def okB (n : Nat) : List Nat → Bool
  | [] => true
  | d :: r => Nat.blt d n && r.all (fun x => !(Nat.beq x d)) && okB n r
def backB : Nat → List Oper → Bool
  | _, [] => true
  | i, o :: r => o.after.all (fun e => Nat.blt e.on i) && backB (i + 1) r
theorem blt_lt {a b : Nat} (h : Nat.blt a b = true) : a < b := by simpa [Nat.blt_eq] using h
theorem okB_lt {n : Nat} {l : List Nat} (h : okB n l = true) (i x : Nat) (hi : l[i]? = some x) : x < n := by
  induction l generalizing i with
  | nil => simp at hi
  | cons y l ih =>
    unfold okB at h
    simp only [Bool.and_eq_true] at h
    cases i with
    | zero =>
      simp at hi
      subst hi
      exact blt_lt h.1.1
    | succ i => exact ih h.2 i (by simpa using hi)
theorem okB_ne {n : Nat} {l : List Nat} (h : okB n l = true) (i j x y : Nat) (hi : l[i]? = some x) (hj : l[j]? = some y) (hij : i < j) : x ≠ y := by
  induction l generalizing i j with
  | nil => simp at hi
  | cons z l ih =>
    unfold okB at h
    simp only [Bool.and_eq_true] at h
    cases j with
    | zero => omega
    | succ j =>
      have hj' : l[j]? = some y := by simpa using hj
      cases i with
      | zero =>
        simp at hi
        subst hi
        have h1 := List.all_eq_true.1 h.1.2 y (List.mem_of_getElem? hj')
        intro e
        subst e
        simp at h1
      | succ i => exact ih h.2 i j (by simpa using hi) hj' (by omega)
theorem backB_at {l : List Oper} {k : Nat} (h : backB k l = true) (i : Nat) (o : Oper) (hi : l[i]? = some o) : ∀ e ∈ o.after, e.on < k + i := by
  induction l generalizing k i with
  | nil => simp at hi
  | cons x l ih =>
    unfold backB at h
    simp only [Bool.and_eq_true] at h
    cases i with
    | zero =>
      simp at hi
      subst hi
      intro e he
      have := Array.all_eq_true_iff_forall_mem.1 h.1 e he
      simpa using blt_lt this
    | succ i =>
      have := ih h.2 i (by simpa using hi)
      intro e he
      have := this e he
      omega
theorem dst_at {dl : List Nat} {ops : List Oper} (h : ops.map (·.dst) = dl.map some) (i : Nat) (o : Oper) (hi : ops[i]? = some o) : o.dst = some (dl.getD i 0) ∧ dl[i]? = some (dl.getD i 0) := by
  have h1 : (ops.map (·.dst))[i]? = some o.dst := by rw [List.getElem?_map, hi]; rfl
  rw [h, List.getElem?_map] at h1
  cases h2 : dl[i]? with
  | none => rw [h2] at h1; cases h1
  | some x =>
    rw [h2] at h1
    have e : dl.getD i 0 = x := by rw [List.getD_eq_getElem?_getD, h2]; rfl
    rw [e]
    exact ⟨(Option.some.inj h1).symm, rfl⟩
theorem put_at (a : Act) (d : Nat) (v : Value) (h : d < a.tmps.size) : (a.put (some d) v).tmps.getD d undef = v := by
  unfold Act.put
  simp [h]
theorem put_ne (a : Act) (d s : Nat) (v : Value) (h : d ≠ s) : (a.put (some d) v).tmps.getD s undef = a.tmps.getD s undef := by
  unfold Act.put
  simp only [Array.getD_eq_getD_getElem?]
  rw [Array.getElem?_setIfInBounds_ne h]
theorem all_listed {ops : List Oper} {l : Array Bool} (hb : backB 0 ops = true) (hl : l.size = ops.length) (hr : Region.ready .any ops.toArray l = []) : ∀ j, j < ops.length → l.getD j false = true := by
  intro j
  induction j using Nat.strongRecOn with
  | ind j ih =>
    intro hj
    cases e : l.getD j false with
    | true => rfl
    | false =>
      exfalso
      have ho : ops[j]? = some ops[j] := List.getElem?_eq_getElem hj
      have hm : j ∈ Region.ready .any ops.toArray l := by
        rw [mem_ready]
        refine ⟨?_, ops[j], by simp [hj], fun d hd _ => ?_⟩
        · have hlt : j < l.size := by omega
          simp [Array.getD, hlt] at e ⊢
          exact e
        · have := backB_at hb j _ ho d hd
          exact ih d.on (by omega) (by omega)
      rw [hr] at hm
      cases hm
theorem want_spec {dl bs : List Nat} {ds : List Dv} {ops : List Oper} {o : Oper} {a : Act} {w : World} (hdl : ops.map (·.dst) = dl.map some) (hk : Knows dl bs ds o a w) {b : Bool} (h : wantB dl bs ds o = some b) : Region.wanted o (yielded ops.toArray a.tmps) = b := by
  unfold wantB at h
  unfold Region.wanted
  cases hg : o.guard with
  | none => rw [hg] at h; simpa using h
  | some p =>
    obtain ⟨j, c⟩ := p
    rw [hg] at h
    simp only at h ⊢
    cases hc : Nat.blt j dl.length && (srcs dl bs o).contains (dl.getD j 0) with
    | false => rw [hc] at h; cases h
    | true =>
      rw [hc] at h
      simp only [Bool.and_eq_true] at hc
      have hj := blt_lt hc.1
      have hm := hk (dl.getD j 0) (by simpa using hc.2)
      cases hd : ds.getD (dl.getD j 0) .any with
      | any => rw [hd] at h; cases h
      | len n => rw [hd] at h; cases h
      | lit v =>
        rw [hd] at h hm
        cases v with
        | bool x =>
          have hx : (x == c) = b := by simpa using h
          have hv : a.tmps.getD (dl.getD j 0) undef = .bool x := hm
          have hol : ops.length = dl.length := by simpa using congrArg List.length hdl
          have ho : ops[j]? = some ops[j] := List.getElem?_eq_getElem (by omega)
          have hy : yielded ops.toArray a.tmps j = some x := by
            unfold yielded
            rw [show (ops.toArray[j]?).bind (·.dst) = some (dl.getD j 0) by
              rw [List.getElem?_toArray, ho]
              exact (dst_at hdl j _ ho).1]
            have e : a.tmps[dl.getD j 0]? = some (.bool x) := by
              rw [Array.getD_eq_getD_getElem?] at hv
              cases h : a.tmps[dl.getD j 0]? with
              | none => rw [h] at hv; cases hv
              | some y => rw [h] at hv; simpa using hv
            show (match a.tmps[dl.getD j 0]? with | some (.bool b) => some b | _ => none) = some x
            rw [e]
          rw [hy, ← hx]
          cases x <;> cases c <;> rfl
        | _ => cases h
theorem getD_set_ne (l : Array Bool) (i j : Nat) (h : i ≠ j) : (l.setIfInBounds i true).getD j false = l.getD j false := by
  rw [Array.getD_eq_getD_getElem?, Array.getD_eq_getD_getElem?, Array.getElem?_setIfInBounds_ne h]
theorem getD_set_eq (l : Array Bool) (i : Nat) (h : i < l.size) : (l.setIfInBounds i true).getD i false = true := by
  rw [Array.getD_eq_getD_getElem?, Array.getElem?_setIfInBounds_self, if_pos h]
  rfl
/-- What waits for what, among a few. -/
def impsB (ops : List Oper) (imps : List (Nat × Nat)) : Bool := imps.all fun p => match ops[p.1]? with | some o => o.after.any (fun e => Nat.beq e.on p.2 && Region.binds .any e) | none => false
/-- The region, by what is told of each value, and of the world. -/
theorem wp_region_two {P : Program} {id : Nat} {ops : List Oper} (dl bs : List Nat) (ds : List Dv) (imps : List (Nat × Nat)) (C : Bool → Bool → World → Prop) (i1 i2 : Nat) {Q : Exit → Act → World → Prop} {a0 : Act} {w0 : World} (hm : P.follows .mixedOrders = true)
    (hdl : ops.map (·.dst) = dl.map some) (hok : okB a0.tmps.size dl = true) (hback : backB 0 ops = true) (hbs : (bs.all fun s => dl.all fun d => !(Nat.beq d s)) = true) (himps : impsB ops imps = true) (hi1 : i1 < ops.length) (hi2 : i2 < ops.length)
    (hbase : ∀ s ∈ bs, (ds.getD s .any).Has w0 (a0.tmps.getD s undef)) (h0 : C false false w0.drew) (hsteps : StepsOk P dl bs ds imps C i1 i2 Q 0 ops)
    (hdone : ∀ a w, C true true w → a.defers = a0.defers → a.tmps.size = a0.tmps.size → (∀ s, (dl.all fun d => !(Nat.beq d s)) = true → a.tmps.getD s undef = a0.tmps.getD s undef) → (∀ d ∈ dl, (ds.getD d .any).Has w (a.tmps.getD d undef)) → Q .normal a w) :
    (Code.region id ops.toArray true).wp P Q a0 w0 := by
  have hol : ops.length = dl.length := by simpa using congrArg List.length hdl
  have hrep : ∀ j, (Array.replicate ops.length false).getD j false = false := by
    intro j
    by_cases hj : j < ops.length <;> simp [Array.getD, hj]
  refine wp_region_inv hm (fun l a w => l.size = ops.length ∧ two C i1 i2 l w ∧ (∀ p ∈ imps, l.getD p.1 false = true → l.getD p.2 false = true) ∧ a.defers = a0.defers ∧ a.tmps.size = a0.tmps.size ∧ (∀ s, (dl.all fun d => !(Nat.beq d s)) = true → a.tmps.getD s undef = a0.tmps.getD s undef) ∧ ∀ j, j < ops.length → l.getD j false = true → ∀ w', (ds.getD (dl.getD j 0) .any).Has w' (a.tmps.getD (dl.getD j 0) undef)) ?_ ?_ ?_
  · refine ⟨by simp, ?_, ?_, rfl, rfl, fun _ _ => rfl, fun j hj h => ?_⟩
    · show C _ _ _
      rw [List.size_toArray, hrep, hrep]
      exact h0
    · intro p _ h
      rw [List.size_toArray, hrep] at h
      cases h
    · rw [List.size_toArray, hrep] at h
      cases h
  · rintro l a w hr ⟨h1, h2, h2', h3, h4, h5, h6⟩
    have hall := all_listed hback h1 hr
    have h2 : C (l.getD i1 false) (l.getD i2 false) w := h2
    rw [hall i1 hi1, hall i2 hi2] at h2
    refine hdone a w h2 h3 h4 h5 fun d hd => ?_
    obtain ⟨j, hj, rfl⟩ := List.mem_iff_getElem.1 hd
    have := h6 j (by omega) (hall j (by omega)) w
    have e : dl.getD j 0 = dl[j] := by rw [List.getD_eq_getElem?_getD, List.getElem?_eq_getElem hj]; rfl
    rwa [e] at this
  · rintro l a w i hi ⟨h1, h2, h2', h3, h4, h5, h6⟩ K hK
    obtain ⟨hun, o, ho, hall⟩ := mem_ready.1 hi
    have ho' : ops[i]? = some o := by simpa using ho
    have hil : i < ops.length := (List.getElem?_eq_some_iff.1 ho').1
    obtain ⟨hd1, hd2⟩ := dst_at hdl i o ho'
    have hd3 := okB_lt hok i _ hd2
    have hw0 : ∀ (d : Dv) (u u' : World) (v : Value), d.Has u v → d.Has u' v := fun d u u' v h => by cases d <;> exact h
    have hkn : Knows dl bs ds o a w := by
      intro s hs
      unfold srcs at hs
      rcases List.mem_append.1 hs with hs | hs
      · rw [h5 s (List.all_eq_true.1 hbs s hs)]
        exact hw0 _ _ _ _ (hbase s hs)
      · obtain ⟨e, he, rfl⟩ := List.mem_map.1 hs
        obtain ⟨he1, he2⟩ := List.mem_filter.1 he
        have he3 : e ∈ o.after := by simpa using he1
        have hlt := backB_at hback i o ho' e he3
        exact h6 e.on (by omega) (hall e he3 he2) w
    have hs := StepsOk.at ops 0 hsteps i o ho'
    rw [Nat.zero_add] at hs
    replace hs := hs l a w h2 (by omega) hun hall h2' hkn
    have hset : ∀ j, j ≠ i → (l.setIfInBounds i true).getD j false = l.getD j false := fun j hj => getD_set_ne l i j fun e => hj e.symm
    have fin : ∀ v w', two C i1 i2 (l.setIfInBounds i true) w' → (ds.getD (dl.getD i 0) .any).Has w' v → K (a.put o.dst v) w' := by
      intro v w' hc' hv
      refine hK _ _ ⟨by simpa using h1, hc', ?_, ?_, ?_, fun s hs' => ?_, ?_⟩
      · intro p hp hl
        by_cases hp2 : p.2 = i
        · rw [hp2]
          exact getD_set_eq l i (by omega)
        · rw [hset _ hp2]
          by_cases hp1 : p.1 = i
          · have hi' := List.all_eq_true.1 himps p hp
            rw [hp1, ho'] at hi'
            simp only [Array.any_eq_true] at hi'
            obtain ⟨q, hq, he⟩ := hi'
            rw [Bool.and_eq_true] at he
            have := hall o.after[q] (Array.getElem_mem _) he.2
            rwa [Nat.eq_of_beq_eq_true he.1] at this
          · rw [hset _ hp1] at hl
            exact h2' p hp hl
      · rw [hd1]; exact h3
      · rw [hd1]
        show (a.tmps.setIfInBounds _ _).size = _
        rw [Array.size_setIfInBounds]
        exact h4
      · rw [hd1, put_ne]
        · exact h5 s hs'
        · intro e
          have := List.all_eq_true.1 hs' _ (List.mem_of_getElem? hd2)
          rw [e] at this
          simp at this
      · intro j hj hl w''
        by_cases hij : i = j
        · subst hij
          rw [hd1, put_at _ _ _ (by rw [h4]; exact hd3)]
          exact hw0 _ _ _ _ hv
        · have hj2 := (dst_at hdl j _ (List.getElem?_eq_getElem hj)).2
          have hne : dl.getD i 0 ≠ dl.getD j 0 := by
            rcases Nat.lt_or_ge i j with hlt | hge
            · exact okB_ne hok i j _ _ hd2 hj2 hlt
            · exact fun e => okB_ne hok j i _ _ hj2 hd2 (by omega) e.symm
          rw [hd1, put_ne _ _ _ _ hne]
          rw [hset j (fun e => hij e.symm)] at hl
          exact h6 j hj hl w''
    unfold wpOp
    rw [ho]
    simp only
    rcases hs with ⟨hw, hs⟩ | ⟨hw, hs, hc⟩
    · rw [want_spec hdl hkn hw, if_pos rfl]
      exact .inl (hs K fun v w' hb' hv => fin v w' hb' (hv _ hd1))
    · rw [want_spec hdl hkn hw]
      simp only [Bool.false_eq_true, if_false]
      refine fin undef w hc ?_
      rw [hs _ hd1]
      trivial
/-- An array, slot by slot. -/
theorem lit_range (T : Array Value) (n : Nat) (h : T.size = n) : T = ((List.range n).map fun i => T.getD i undef).toArray := by
  subst h
  apply Array.ext
  · simp
  · intro i h1 h2
    simp [h1]
theorem lit_fn (T : Array Value) (n : Nat) (h : T.size = n) : ∃ f : Nat → Value, (∀ i, T.getD i undef = f i) ∧ T = ((List.range n).map f).toArray := ⟨fun i => T.getD i undef, fun _ => rfl, lit_range T n h⟩
theorem ret_slot {P : Program} {fn : Func} {T : Array Value} {s : Nat} {v : Value} {w : World} {R : Ending → World → Prop} (hr : fn.results = #[.tmp s]) (h : T.getD s undef = v) (hR : R (.returned v) w) : bodyPost P fn R .ret { tmps := T, defers := [] } w := by
  have h' : T[s]?.getD undef = v := by simpa using h
  exact bodyPost_ret (by simp [results, hr, h']) rfl hR
section
variable {P : Program} {dl bs : List Nat} {ds : List Dv} {imps : List (Nat × Nat)} {C : Bool → Bool → World → Prop} {i1 i2 i : Nat} {Q : Exit → Act → World → Prop} {o : Oper}
theorem two_set {l : Array Bool} {w : World} (h1 : i ≠ i1) (h2 : i ≠ i2) (h : two C i1 i2 l w) : two C i1 i2 (l.setIfInBounds i true) w := by
  have hset : ∀ j, i ≠ j → (l.setIfInBounds i true).getD j false = l.getD j false := fun j hj => getD_set_ne l i j hj
  show C _ _ _
  rw [hset _ h1, hset _ h2]
  exact h
/-- An operation that reads, or less: whatever has come up. -/
theorem sc_val (h1 : i ≠ i1) (h2 : i ≠ i2) (hw : wantB dl bs ds o = some true) (d : Nat) (hd : o.dst = some d) (D : Dv) (he : ds.getD d .any = D)
    (h : ∀ a w b1 b2, C b1 b2 w → Knows dl bs ds o a w → ∃ v, (execOp a.eval o).run P w = .ok (.value v) w ∧ D.Has w v) : StepOk P dl bs ds imps C i1 i2 Q i o := by
  intro l a w hb _ _ _ _ hk
  refine .inl ⟨hw, fun K hK => ?_⟩
  obtain ⟨v, hr, hv⟩ := h a w _ _ hb hk
  unfold Oper.wp
  rw [hr]
  exact hK v w (two_set h1 h2 hb) fun d' hd' => by
    rw [hd] at hd'
    cases hd'
    rw [he]
    exact hv
/-- .. that reads once both have come up. -/
theorem sc_late (h1 : i ≠ i1) (h2 : i ≠ i2) (hw : wantB dl bs ds o = some true) (d : Nat) (hd : o.dst = some d) (D : Dv) (he : ds.getD d .any = D) (g g1 : Nat)
    (ha : (o.after.any fun e => Nat.beq e.on g && Region.binds .any e) = true) (hg : (g, g1) ∈ imps) (hg1 : (g1, i1) ∈ imps) (hg2 : (g1, i2) ∈ imps)
    (h : ∀ a w, C true true w → Knows dl bs ds o a w → ∃ v, (execOp a.eval o).run P w = .ok (.value v) w ∧ D.Has w v) : StepOk P dl bs ds imps C i1 i2 Q i o := by
  intro l a w hb _ _ hall hi hk
  refine .inl ⟨hw, fun K hK => ?_⟩
  have hg0 : l.getD g false = true := by
    simp only [Array.any_eq_true] at ha
    obtain ⟨q, hq, he⟩ := ha
    rw [Bool.and_eq_true] at he
    have := hall o.after[q] (Array.getElem_mem _) he.2
    rwa [Nat.eq_of_beq_eq_true he.1] at this
  have h3 := hi _ hg hg0
  have h4 : l.getD i1 false = true := hi _ hg1 h3
  have h5 : l.getD i2 false = true := hi _ hg2 h3
  have hb' : C (l.getD i1 false) (l.getD i2 false) w := hb
  rw [h4, h5] at hb'
  obtain ⟨v, hr, hv⟩ := h a w hb' hk
  unfold Oper.wp
  rw [hr]
  exact hK v w (two_set h1 h2 hb) fun d' hd' => by
    rw [hd] at hd'
    cases hd'
    rw [he]
    exact hv
theorem sc_late_call (h1 : i ≠ i1) (h2 : i ≠ i2) (hw : wantB dl bs ds o = some true) (d : Nat) (hd : o.dst = some d) (D : Dv) (he : ds.getD d .any = D) (g g1 : Nat)
    (ha : (o.after.any fun e => Nat.beq e.on g && Region.binds .any e) = true) (hg : (g, g1) ∈ imps) (hg1 : (g1, i1) ∈ imps) (hg2 : (g1, i2) ∈ imps)
    (h : ∀ a w, C true true w → Knows dl bs ds o a w → ∃ f args, (execOp a.eval o).run P w = .ok (.enter f args) w ∧ Calls P f args w fun e w' => ∃ v, e = .returned v ∧ w = w' ∧ D.Has w' v) : StepOk P dl bs ds imps C i1 i2 Q i o := by
  intro l a w hb _ _ hall hi hk
  refine .inl ⟨hw, fun K hK => ?_⟩
  have hg0 : l.getD g false = true := by
    simp only [Array.any_eq_true] at ha
    obtain ⟨q, hq, he⟩ := ha
    rw [Bool.and_eq_true] at he
    have := hall o.after[q] (Array.getElem_mem _) he.2
    rwa [Nat.eq_of_beq_eq_true he.1] at this
  have h3 := hi _ hg hg0
  have h4 : l.getD i1 false = true := hi _ hg1 h3
  have h5 : l.getD i2 false = true := hi _ hg2 h3
  have hb' : C (l.getD i1 false) (l.getD i2 false) w := hb
  rw [h4, h5] at hb'
  obtain ⟨f, args, hr, hc⟩ := h a w hb' hk
  unfold Oper.wp
  rw [hr]
  refine Calls.mono hc ?_
  rintro e w' ⟨v, rfl, rfl, hv⟩
  exact hK v w (two_set h1 h2 hb) fun d' hd' => by
    rw [hd] at hd'
    cases hd'
    rw [he]
    exact hv
/-- The first of the two. -/
theorem sc_one (hne : i1 ≠ i2) (hw : wantB dl bs ds o = some true) (d : Nat) (hd : o.dst = some d) (D : Dv) (he : ds.getD d .any = D)
    (h : ∀ a w b2, C false b2 w → Knows dl bs ds o a w → ∃ f args, (execOp a.eval o).run P w = .ok (.enter f args) w ∧ Calls P f args w fun e w' => ∃ v, e = .returned v ∧ C true b2 w' ∧ D.Has w' v) : StepOk P dl bs ds imps C i1 i2 Q i1 o := by
  intro l a w hb hlt hun _ _ hk
  refine .inl ⟨hw, fun K hK => ?_⟩
  have h1 : l.getD i1 false = false := by simp [Array.getD, hlt] at hun ⊢; exact hun
  have hb' : C (l.getD i1 false) (l.getD i2 false) w := hb
  rw [h1] at hb'
  obtain ⟨f, args, hr, hc⟩ := h a w _ hb' hk
  unfold Oper.wp
  rw [hr]
  refine Calls.mono hc ?_
  rintro e w' ⟨v, rfl, hc', hv⟩
  refine hK v w' ?_ fun d' hd' => by
    rw [hd] at hd'
    cases hd'
    rw [he]
    exact hv
  show C _ _ _
  rw [getD_set_eq l i1 hlt, getD_set_ne l i1 i2 hne]
  exact hc'
theorem sc_two (hne : i2 ≠ i1) (hw : wantB dl bs ds o = some true) (d : Nat) (hd : o.dst = some d) (D : Dv) (he : ds.getD d .any = D)
    (h : ∀ a w b1, C b1 false w → Knows dl bs ds o a w → ∃ f args, (execOp a.eval o).run P w = .ok (.enter f args) w ∧ Calls P f args w fun e w' => ∃ v, e = .returned v ∧ C b1 true w' ∧ D.Has w' v) : StepOk P dl bs ds imps C i1 i2 Q i2 o := by
  intro l a w hb hlt hun _ _ hk
  refine .inl ⟨hw, fun K hK => ?_⟩
  have h1 : l.getD i2 false = false := by simp [Array.getD, hlt] at hun ⊢; exact hun
  have hb' : C (l.getD i1 false) (l.getD i2 false) w := hb
  rw [h1] at hb'
  obtain ⟨f, args, hr, hc⟩ := h a w _ hb' hk
  unfold Oper.wp
  rw [hr]
  refine Calls.mono hc ?_
  rintro e w' ⟨v, rfl, hc', hv⟩
  refine hK v w' ?_ fun d' hd' => by
    rw [hd] at hd'
    cases hd'
    rw [he]
    exact hv
  show C _ _ _
  rw [getD_set_eq l i2 hlt, getD_set_ne l i2 i1 hne]
  exact hc'
end
end Go.Proofs.YtdgcnghjjbpekaaGreatDoor
