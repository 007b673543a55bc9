/-
  A region that draws its order, whose operations make memory: what each operation's value is like is told ahead; each operation is shown by itself, in whatever world of those that follow.
-/
import Derived.Test.YtphlodafdkpedaaDoorAnyInv
import Derived.Test.YtphlodafdkpedaaDoorValsLive
import Derived.KernelRfl
namespace Go.Proofs.YtphlodafdkpedaaDoor
open Go.RowKit
open Go

/-- What is told of a value: the very value; or a slice of values. -/
inductive Dv where
  | lit (v : Value)
  | vs (l : List VT)
  | new (b : Nat)
  | any
def Dv.Has : Dv → World → Value → Prop
  | .lit u, _, v => v = u
  | .vs l, w, v => RdN 2 w v (l.map rowV)
  | .new b, w, v => ∃ g, v = .pointer (some ⟨g, 0, none⟩) ∧ b ≤ g ∧ w.heap[g]? = some (.cells #[.int .u8 0, .int .i64 0] 24 (0, 0))
  | .any, _, _ => True
theorem Dv.below {d : Dv} {w w' : World} {v : Value} (h : d.Has w v) (hb : Below w.heap.size w w') : d.Has w' v := by
  cases d with
  | lit u => exact h
  | vs l => exact RdN.below h hb
  | new b =>
    obtain ⟨g, e, h1, hg⟩ := h
    exact ⟨g, e, h1, (hb.block _ (lt_of_block hg)).trans hg⟩
  | any => trivial
/-- The slots that an operation may lean on: those of before, and those of what it waits for. -/
def srcs (dl bs : List Nat) (o : Oper) : List Nat := bs ++ (o.after.toList.filter (Region.binds .any)).map (fun e => dl.getD e.on 0)
def opV (dl bs : List Nat) (ds : List Dv) (o : Oper) : Operand → Option Value
  | .tmp s => bif (srcs dl bs o).contains s then (match ds.getD s .any with | .lit v => some v | _ => none) else none
  | .const v => some v
  | _ => none
def opL (dl bs : List Nat) (ds : List Dv) (o : Oper) : Operand → Option (List VT)
  | .tmp s => bif (srcs dl bs o).contains s then (match ds.getD s .any with | .vs l => some l | _ => none) else none
  | _ => none
/-- Whether it is wanted, so far as that is told. -/
def wantB (dl bs : List Nat) (ds : List Dv) (o : Oper) : Option Bool :=
  match o.guard with
  | none => some true
  | some (j, b) => bif Nat.blt j dl.length && (srcs dl bs o).contains (dl.getD j 0) then (match ds.getD (dl.getD j 0) .any with | .lit (.bool c) => some (c == b) | _ => none) else none
def Knows (dl bs : List Nat) (ds : List Dv) (o : Oper) (a : Act) (w : World) : Prop := ∀ s ∈ srcs dl bs o, (ds.getD s .any).Has w (a.tmps.getD s undef)
theorem Knows.val {dl bs : List Nat} {ds : List Dv} {o : Oper} {a : Act} {w : World} (h : Knows dl bs ds o a w) {x : Operand} {v : Value} (hx : opV dl bs ds o x = some v) : a.eval x = v := by
  cases x with
  | tmp s =>
    unfold opV at hx
    dsimp only at hx
    cases hc : (srcs dl bs o).contains s with
    | false => rw [hc] at hx; cases hx
    | true =>
      rw [hc] at hx
      have := h s (by simpa using hc)
      cases hd : ds.getD s .any with
      | lit u =>
        rw [hd] at this hx
        simp at hx
        subst hx
        exact this
      | vs l => rw [hd] at hx; cases hx
      | any => rw [hd] at hx; cases hx
      | new b => rw [hd] at hx; cases hx
  | const u => cases hx; rfl
  | global g => cases hx
  | func f => cases hx
theorem Knows.list {dl bs : List Nat} {ds : List Dv} {o : Oper} {a : Act} {w : World} (h : Knows dl bs ds o a w) {x : Operand} {l : List VT} (hx : opL dl bs ds o x = some l) : RdN 2 w (a.eval x) (l.map rowV) := by
  cases x with
  | tmp s =>
    unfold opL at hx
    dsimp only at hx
    cases hc : (srcs dl bs o).contains s with
    | false => rw [hc] at hx; cases hx
    | true =>
      rw [hc] at hx
      have := h s (by simpa using hc)
      cases hd : ds.getD s .any with
      | lit u => rw [hd] at hx; cases hx
      | vs l' =>
        rw [hd] at this hx
        simp at hx
        subst hx
        exact this
      | any => rw [hd] at hx; cases hx
      | new b => rw [hd] at hx; cases hx
  | const u => cases hx
  | global g => cases hx
  | func f => cases hx
def StepOk (P : Program) (dl bs : List Nat) (ds : List Dv) (wr : World) (Q : Exit → Act → World → Prop) (o : Oper) : Prop :=
  ∀ a w, Below wr.heap.size wr w → Knows dl bs ds o a w →
    (wantB dl bs ds o = some true ∧ ∀ K : Act → World → Prop, (∀ v w', Below w.heap.size w w' → (∀ d, o.dst = some d → (ds.getD d .any).Has w' v) → K (a.put o.dst v) w') → o.wp P a w K Q)
    ∨ (wantB dl bs ds o = some false ∧ ∀ d, o.dst = some d → ds.getD d .any = .any)
def StepsOk (P : Program) (dl bs : List Nat) (ds : List Dv) (wr : World) (Q : Exit → Act → World → Prop) : List Oper → Prop
  | [] => True
  | o :: r => StepOk P dl bs ds wr Q o ∧ StepsOk P dl bs ds wr Q r
theorem StepsOk.nil {P : Program} {dl bs : List Nat} {ds : List Dv} {wr : World} {Q : Exit → Act → World → Prop} : StepsOk P dl bs ds wr Q [] := trivial
theorem StepsOk.cons {P : Program} {dl bs : List Nat} {ds : List Dv} {wr : World} {Q : Exit → Act → World → Prop} {o : Oper} {r : List Oper} (h : StepOk P dl bs ds wr Q o) (hr : StepsOk P dl bs ds wr Q r) : StepsOk P dl bs ds wr Q (o :: r) := ⟨h, hr⟩
theorem StepsOk.at {P : Program} {dl bs : List Nat} {ds : List Dv} {wr : World} {Q : Exit → Act → World → Prop} (l : List Oper) (h : StepsOk P dl bs ds wr Q l) (i : Nat) (o : Oper) (hi : l[i]? = some o) : StepOk P dl bs ds wr Q o := by
  induction l generalizing i with
  | nil => simp at hi
  | cons x l ih =>
    cases i with
    | zero =>
      simp at hi
      subst hi
      exact h.1
    | succ i => exact ih h.2 i (by simpa using hi)
/-- Each has a slot of its own; each waits for earlier ones alone. -/
def okB (n : Nat) : List Nat → Bool
  | [] => true
  | d :: r => Nat.blt d n && r.all (fun x => !(Nat.beq x d)) && okB n r
def backB : Nat → List Oper → Bool
  | _, [] => true
  | i, o :: r => o.after.all (fun e => Nat.blt e.on i) && backB (i + 1) r
theorem blt_lt {a b : Nat} (h : Nat.blt a b = true) : a < b := by simpa [Nat.blt_eq] using h
theorem okB_lt {n : Nat} {l : List Nat} (h : okB n l = true) (i x : Nat) (hi : l[i]? = some x) : x < n := by
  induction l generalizing i with
  | nil => simp at hi
  | cons y l ih =>
    unfold okB at h
    simp only [Bool.and_eq_true] at h
    cases i with
    | zero =>
      simp at hi
      subst hi
      exact blt_lt h.1.1
    | succ i => exact ih h.2 i (by simpa using hi)
theorem okB_ne {n : Nat} {l : List Nat} (h : okB n l = true) (i j x y : Nat) (hi : l[i]? = some x) (hj : l[j]? = some y) (hij : i < j) : x ≠ y := by
  induction l generalizing i j with
  | nil => simp at hi
  | cons z l ih =>
    unfold okB at h
    simp only [Bool.and_eq_true] at h
    cases j with
    | zero => omega
    | succ j =>
      have hj' : l[j]? = some y := by simpa using hj
      cases i with
      | zero =>
        simp at hi
        subst hi
        have h1 := List.all_eq_true.1 h.1.2 y (List.mem_of_getElem? hj')
        intro e
        subst e
        simp at h1
      | succ i => exact ih h.2 i j (by simpa using hi) hj' (by omega)
theorem backB_at {l : List Oper} {k : Nat} (h : backB k l = true) (i : Nat) (o : Oper) (hi : l[i]? = some o) : ∀ e ∈ o.after, e.on < k + i := by
  induction l generalizing k i with
  | nil => simp at hi
  | cons x l ih =>
    unfold backB at h
    simp only [Bool.and_eq_true] at h
    cases i with
    | zero =>
      simp at hi
      subst hi
      intro e he
      have := Array.all_eq_true_iff_forall_mem.1 h.1 e he
      simpa using blt_lt this
    | succ i =>
      have := ih h.2 i (by simpa using hi)
      intro e he
      have := this e he
      omega
theorem dst_at {dl : List Nat} {ops : List Oper} (h : ops.map (·.dst) = dl.map some) (i : Nat) (o : Oper) (hi : ops[i]? = some o) : o.dst = some (dl.getD i 0) ∧ dl[i]? = some (dl.getD i 0) := by
  have h1 : (ops.map (·.dst))[i]? = some o.dst := by rw [List.getElem?_map, hi]; rfl
  rw [h, List.getElem?_map] at h1
  cases h2 : dl[i]? with
  | none => rw [h2] at h1; cases h1
  | some x =>
    rw [h2] at h1
    have e : dl.getD i 0 = x := by rw [List.getD_eq_getElem?_getD, h2]; rfl
    rw [e]
    exact ⟨(Option.some.inj h1).symm, rfl⟩
theorem put_at (a : Act) (d : Nat) (v : Value) (h : d < a.tmps.size) : (a.put (some d) v).tmps.getD d undef = v := by
  unfold Act.put
  simp [h]
theorem put_ne (a : Act) (d s : Nat) (v : Value) (h : d ≠ s) : (a.put (some d) v).tmps.getD s undef = a.tmps.getD s undef := by
  unfold Act.put
  simp only [Array.getD_eq_getD_getElem?]
  rw [Array.getElem?_setIfInBounds_ne h]
theorem all_listed {ops : List Oper} {l : Array Bool} (hb : backB 0 ops = true) (hl : l.size = ops.length) (hr : Region.ready .any ops.toArray l = []) : ∀ j, j < ops.length → l.getD j false = true := by
  intro j
  induction j using Nat.strongRecOn with
  | ind j ih =>
    intro hj
    cases e : l.getD j false with
    | true => rfl
    | false =>
      exfalso
      have ho : ops[j]? = some ops[j] := List.getElem?_eq_getElem hj
      have hm : j ∈ Region.ready .any ops.toArray l := by
        rw [mem_ready]
        refine ⟨?_, ops[j], by simp [hj], fun d hd _ => ?_⟩
        · have hlt : j < l.size := by omega
          simp [Array.getD, hlt] at e ⊢
          exact e
        · have := backB_at hb j _ ho d hd
          exact ih d.on (by omega) (by omega)
      rw [hr] at hm
      cases hm
theorem want_spec {dl bs : List Nat} {ds : List Dv} {ops : List Oper} {o : Oper} {a : Act} {w : World} (hdl : ops.map (·.dst) = dl.map some) (hk : Knows dl bs ds o a w) {b : Bool} (h : wantB dl bs ds o = some b) : Region.wanted o (yielded ops.toArray a.tmps) = b := by
  unfold wantB at h
  unfold Region.wanted
  cases hg : o.guard with
  | none => rw [hg] at h; simpa using h
  | some p =>
    obtain ⟨j, c⟩ := p
    rw [hg] at h
    simp only at h ⊢
    cases hc : Nat.blt j dl.length && (srcs dl bs o).contains (dl.getD j 0) with
    | false => rw [hc] at h; cases h
    | true =>
      rw [hc] at h
      simp only [Bool.and_eq_true] at hc
      have hj := blt_lt hc.1
      have hm := hk (dl.getD j 0) (by simpa using hc.2)
      cases hd : ds.getD (dl.getD j 0) .any with
      | vs l => rw [hd] at h; cases h
      | any => rw [hd] at h; cases h
      | new b => rw [hd] at h; cases h
      | lit v =>
        rw [hd] at h hm
        cases v with
        | bool x =>
          have hx : (x == c) = b := by simpa using h
          have hv : a.tmps.getD (dl.getD j 0) undef = .bool x := hm
          have hol : ops.length = dl.length := by simpa using congrArg List.length hdl
          have ho : ops[j]? = some ops[j] := List.getElem?_eq_getElem (by omega)
          have hy : yielded ops.toArray a.tmps j = some x := by
            unfold yielded
            rw [show (ops.toArray[j]?).bind (·.dst) = some (dl.getD j 0) by
              rw [List.getElem?_toArray, ho]
              exact (dst_at hdl j _ ho).1]
            have e : a.tmps[dl.getD j 0]? = some (.bool x) := by
              rw [Array.getD_eq_getD_getElem?] at hv
              cases h : a.tmps[dl.getD j 0]? with
              | none => rw [h] at hv; cases hv
              | some y => rw [h] at hv; simpa using hv
            show (match a.tmps[dl.getD j 0]? with | some (.bool b) => some b | _ => none) = some x
            rw [e]
          rw [hy, ← hx]
          cases x <;> cases c <;> rfl
        | _ => cases h
/-- The region, by what is told of each value. -/
theorem wp_region_vals {P : Program} {id : Nat} {ops : List Oper} (dl bs : List Nat) (ds : List Dv) {Q : Exit → Act → World → Prop} {a0 : Act} {w0 : World} (hm : P.follows .mixedOrders = true)
    (hdl : ops.map (·.dst) = dl.map some) (hok : okB a0.tmps.size dl = true) (hback : backB 0 ops = true) (hbs : (bs.all fun s => dl.all fun d => !(Nat.beq d s)) = true)
    (hbase : ∀ s ∈ bs, (ds.getD s .any).Has w0 (a0.tmps.getD s undef)) (hsteps : StepsOk P dl bs ds w0 Q ops)
    (hdone : ∀ a w, Below w0.heap.size w0 w → a.defers = a0.defers → a.tmps.size = a0.tmps.size → (∀ s, (dl.all fun d => !(Nat.beq d s)) = true → a.tmps.getD s undef = a0.tmps.getD s undef) → (∀ d ∈ dl, (ds.getD d .any).Has w (a.tmps.getD d undef)) → Q .normal a w) :
    (Code.region id ops.toArray true).wp P Q a0 w0 := by
  have hol : ops.length = dl.length := by simpa using congrArg List.length hdl
  have hd0 : ∀ w, Below w0.drew.heap.size w0.drew w → Below w0.heap.size w0 w := fun w h => (bdraw (Below.refl w0.heap.size w0) 1).trans h
  refine wp_region_inv hm (fun l a w => l.size = ops.length ∧ Below w0.heap.size w0 w ∧ a.defers = a0.defers ∧ a.tmps.size = a0.tmps.size ∧ (∀ s, (dl.all fun d => !(Nat.beq d s)) = true → a.tmps.getD s undef = a0.tmps.getD s undef) ∧ ∀ j, j < ops.length → l.getD j false = true → (ds.getD (dl.getD j 0) .any).Has w (a.tmps.getD (dl.getD j 0) undef)) ?_ ?_ ?_
  · refine ⟨by simp, bdraw (Below.refl _ _) 1, rfl, rfl, fun _ _ => rfl, fun j hj h => ?_⟩
    simp [Array.getD, hj] at h
  · rintro l a w hr ⟨h1, h2, h3, h4, h5, h6⟩
    refine hdone a w h2 h3 h4 h5 fun d hd => ?_
    obtain ⟨j, hj, rfl⟩ := List.mem_iff_getElem.1 hd
    have := h6 j (by omega) (all_listed hback h1 hr j (by omega))
    have e : dl.getD j 0 = dl[j] := by rw [List.getD_eq_getElem?_getD, List.getElem?_eq_getElem hj]; rfl
    rwa [e] at this
  · rintro l a w i hi ⟨h1, h2, h3, h4, h5, h6⟩ K hK
    obtain ⟨hun, o, ho, hall⟩ := mem_ready.1 hi
    have ho' : ops[i]? = some o := by simpa using ho
    have hil : i < ops.length := (List.getElem?_eq_some_iff.1 ho').1
    obtain ⟨hd1, hd2⟩ := dst_at hdl i o ho'
    have hd3 := okB_lt hok i _ hd2
    have hkn : Knows dl bs ds o a w := by
      intro s hs
      unfold srcs at hs
      rcases List.mem_append.1 hs with hs | hs
      · rw [h5 s (List.all_eq_true.1 hbs s hs)]
        exact Dv.below (hbase s hs) h2
      · obtain ⟨e, he, rfl⟩ := List.mem_map.1 hs
        obtain ⟨he1, he2⟩ := List.mem_filter.1 he
        have he3 : e ∈ o.after := by simpa using he1
        have hlt := backB_at hback i o ho' e he3
        exact h6 e.on (by omega) (hall e he3 he2)
    have hs := StepsOk.at ops hsteps i o ho' a w h2 hkn
    have fin : ∀ v w', Below w.heap.size w w' → (ds.getD (dl.getD i 0) .any).Has w' v → K (a.put o.dst v) w' := by
      intro v w' hb' hv
      refine hK _ _ ⟨by simpa using h1, h2.trans (hb'.mono h2.size), ?_, ?_, fun s hs' => ?_, ?_⟩
      · rw [hd1]; exact h3
      · rw [hd1]
        show (a.tmps.setIfInBounds _ _).size = _
        rw [Array.size_setIfInBounds]
        exact h4
      · rw [hd1, put_ne]
        · exact h5 s hs'
        · intro e
          have := List.all_eq_true.1 hs' _ (List.mem_of_getElem? hd2)
          rw [e] at this
          simp at this
      · intro j hj hl
        by_cases hij : i = j
        · subst hij
          rw [hd1, put_at _ _ _ (by rw [h4]; exact hd3)]
          exact hv
        · have hj2 := (dst_at hdl j _ (List.getElem?_eq_getElem hj)).2
          have hne : dl.getD i 0 ≠ dl.getD j 0 := by
            rcases Nat.lt_or_ge i j with hlt | hge
            · exact okB_ne hok i j _ _ hd2 hj2 hlt
            · exact fun e => okB_ne hok j i _ _ hj2 hd2 (by omega) e.symm
          rw [hd1, put_ne _ _ _ _ hne]
          have hl2 : l.getD j false = true := by
            have hjl : j < l.size := by omega
            have hjl2 : j < (l.setIfInBounds i true).size := by simpa using hjl
            simp [Array.getD, hjl, hij] at hl ⊢
            exact hl
          exact Dv.below (h6 j hj hl2) hb'
    unfold wpOp
    rw [ho]
    simp only
    rcases hs with ⟨hw, hs⟩ | ⟨hw, hs⟩
    · rw [want_spec hdl hkn hw, if_pos rfl]
      exact .inl (hs K fun v w' hb' hv => fin v w' hb' (hv _ hd1))
    · rw [want_spec hdl hkn hw]
      simp only [Bool.false_eq_true, if_false]
      refine fin undef w (Below.refl _ _) ?_
      rw [hs _ hd1]
      trivial
end Go.Proofs.YtphlodafdkpedaaDoor
