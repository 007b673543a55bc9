/-
  The operations of the laws about values, one by one, by what is told of their operands.
-/
import Derived.Test.YtphlodafdkpedaaDoorAnyVals
namespace Go.Proofs.YtphlodafdkpedaaDoor
open Go.RowKit
open Go

/-- An array, slot by slot. -/
theorem lit_range (T : Array Value) (n : Nat) (h : T.size = n) : T = ((List.range n).map fun i => T.getD i undef).toArray := by
  subst h
  apply Array.ext
  · simp
  · intro i h1 h2
    simp [h1]
theorem lit_fn (T : Array Value) (n : Nat) (h : T.size = n) : ∃ f : Nat → Value, (∀ i, T.getD i undef = f i) ∧ T = ((List.range n).map f).toArray := ⟨fun i => T.getD i undef, fun _ => rfl, lit_range T n h⟩
theorem ret_slot {fn : Func} {T : Array Value} {s : Nat} {v : Value} {w : World} {R : Ending → World → Prop} (hr : fn.results = #[.tmp s]) (h : T.getD s undef = v) (hR : R (.returned v) w) : bodyPost Tryd.prog fn R .ret { tmps := T, defers := [] } w := by
  have h' : T[s]?.getD undef = v := by simpa using h
  exact bodyPost_ret (by simp [results, hr, h']) rfl hR
section
variable {dl bs : List Nat} {ds : List Dv} {wr : World} {Q : Exit → Act → World → Prop} {o : Oper}
theorem st_val (hw : wantB dl bs ds o = some true) (d : Nat) (hd : o.dst = some d) (D : Dv) (he : ds.getD d .any = D)
    (h : ∀ a w, Below wr.heap.size wr w → Knows dl bs ds o a w → ∃ v w', (execOp a.eval o).run Tryd.prog w = .ok (.value v) w' ∧ Below w.heap.size w w' ∧ D.Has w' v) : StepOk Tryd.prog dl bs ds wr Q o := by
  intro a w hb hk
  refine .inl ⟨hw, fun K hK => ?_⟩
  obtain ⟨v, w', hr, hb', hv⟩ := h a w hb hk
  unfold Oper.wp
  rw [hr]
  exact hK v w' hb' fun d' hd' => by
    rw [hd] at hd'
    cases hd'
    rw [he]
    exact hv
theorem st_call (hw : wantB dl bs ds o = some true) (d : Nat) (hd : o.dst = some d) (D : Dv) (he : ds.getD d .any = D)
    (h : ∀ a w, Below wr.heap.size wr w → Knows dl bs ds o a w → ∃ f args, (execOp a.eval o).run Tryd.prog w = .ok (.enter f args) w ∧ Calls Tryd.prog f args w fun e w' => ∃ v, e = .returned v ∧ Below w.heap.size w w' ∧ D.Has w' v) : StepOk Tryd.prog dl bs ds wr Q o := by
  intro a w hb hk
  refine .inl ⟨hw, fun K hK => ?_⟩
  obtain ⟨f, args, hr, hc⟩ := h a w hb hk
  unfold Oper.wp
  rw [hr]
  refine Calls.mono hc ?_
  rintro e w' ⟨v, rfl, hb', hv⟩
  exact hK v w' hb' fun d' hd' => by
    rw [hd] at hd'
    cases hd'
    rw [he]
    exact hv
theorem st_skip (hw : wantB dl bs ds o = some false) (d : Nat) (hd : o.dst = some d) (he : ds.getD d .any = .any) : StepOk Tryd.prog dl bs ds wr Q o := by
  intro a w hb hk
  refine .inr ⟨hw, fun d' hd' => ?_⟩
  rw [hd] at hd'
  cases hd'
  exact he
theorem st_move {x : Operand} {v : Value} {d : Nat} (ho : o.op = .move x) (hw : wantB dl bs ds o = some true) (hd : o.dst = some d) (hx : opV dl bs ds o x = some v) (he : ds.getD d .any = .lit v) : StepOk Tryd.prog dl bs ds wr Q o :=
  st_val hw d hd _ he fun a w _ hk => ⟨v, w, by unfold execOp; rw [ho]; simp only [hk.val hx]; rfl, Below.refl _ _, rfl⟩
theorem st_assign {x : Operand} {v : Value} {d : Nat} (ho : o.op = .assign x) (hw : wantB dl bs ds o = some true) (hd : o.dst = some d) (hx : opV dl bs ds o x = some v) (he : ds.getD d .any = .lit v) : StepOk Tryd.prog dl bs ds wr Q o :=
  st_val hw d hd _ he fun a w _ hk => ⟨v, w, by unfold execOp; rw [ho]; simp only [hk.val hx]; rfl, Below.refl _ _, rfl⟩
theorem st_pick {c x y : Operand} {b : Bool} {v : Value} {d : Nat} (ho : o.op = .pick c x y) (hw : wantB dl bs ds o = some true) (hd : o.dst = some d) (hc : opV dl bs ds o c = some (.bool b)) (hx : opV dl bs ds o (bif b then x else y) = some v) (he : ds.getD d .any = .lit v) : StepOk Tryd.prog dl bs ds wr Q o :=
  st_val hw d hd _ he fun a w _ hk => ⟨v, w, by
    unfold execOp
    rw [ho]
    have h1 := hk.val hc
    have h2 := hk.val hx
    cases b
    · simp only [cond_false] at h2
      simp [asBool, h1, h2]
    · simp only [cond_true] at h2
      simp [asBool, h1, h2], Below.refl _ _, rfl⟩
/-- A value's box, in all that follows. -/
def Box (wr : World) (g : Nat) (k n : Int) : Prop := ∀ w', Below wr.heap.size wr w' → w'.cell? ⟨g, 0, none⟩ = some (.int .u8 k) ∧ w'.cell? ⟨g, 1, none⟩ = some (.int .i64 n)
theorem box_of {g : Nat} {k n : Int} (h : wr.heap[g]? = some (.cells #[.int .u8 k, .int .i64 n] 24 (0, 0))) : Box wr g k n := fun _ hb =>
  have q := (hb.block _ (lt_of_block h)).trans h
  ⟨cell_of_row _ _ 0 _ _ _ q, cell_of_row _ _ 1 _ _ _ q⟩
theorem Box.below {wr w : World} {g : Nat} {k n : Int} (h : Box wr g k n) (hb : Below wr.heap.size wr w) : Box w g k n := fun w' h' => h w' (bnext hb h')
theorem st_load {x : Operand} {g : Nat} {k n : Int} {d : Nat} (hb : Box wr g k n) (ho : o.op = .load 24 x) (hw : wantB dl bs ds o = some true) (hd : o.dst = some d) (hx : opV dl bs ds o x = some (.pointer (some ⟨g, 0, none⟩))) (he : ds.getD d .any = .lit (.agg #[.int .u8 k, .int .i64 n])) : StepOk Tryd.prog dl bs ds wr Q o :=
  st_val hw d hd _ he fun a w hbl hk => ⟨_, w, by
    obtain ⟨h0, h1⟩ := hb w hbl
    unfold execOp
    rw [ho]
    simp only [hk.val hx]
    simp [go_sem, h0, h1], Below.refl _ _, rfl⟩
theorem st_mk1 {x : Operand} {p1 p2 : Int} {d : Nat} (ho : o.op = .buildSlice 35 1 #[(0, x)]) (hw : wantB dl bs ds o = some true) (hd : o.dst = some d) (hx : opV dl bs ds o x = some (.agg #[.int .u8 p1, .int .i64 p2])) (he : ds.getD d .any = .vs [(p1, p2)]) : StepOk Tryd.prog dl bs ds wr Q o :=
  st_val hw d hd _ he fun a w hbl hk => ⟨_, _, by
    unfold execOp
    rw [ho]
    have e : (#[(0, x)] : Array (Nat × Operand)).map (fun p => (p.1, a.eval p.2)) = #[(0, .agg #[.int .u8 p1, .int .i64 p2])] := by
      simp only [List.map_toArray, List.map_cons, List.map_nil, hk.val hx]
    dsimp only
    rw [e]
    simp [go_sem], balloc (Below.refl _ _) _, rd_1 p1 p2 w⟩
theorem st_mk2 {x y : Operand} {p1 p2 q1 q2 : Int} {d : Nat} (ho : o.op = .buildSlice 35 2 #[(0, x), (1, y)]) (hw : wantB dl bs ds o = some true) (hd : o.dst = some d) (hx : opV dl bs ds o x = some (.agg #[.int .u8 p1, .int .i64 p2])) (hy : opV dl bs ds o y = some (.agg #[.int .u8 q1, .int .i64 q2])) (he : ds.getD d .any = .vs [(p1, p2), (q1, q2)]) : StepOk Tryd.prog dl bs ds wr Q o :=
  st_val hw d hd _ he fun a w hbl hk => ⟨_, _, by
    unfold execOp
    rw [ho]
    have e : (#[(0, x), (1, y)] : Array (Nat × Operand)).map (fun p => (p.1, a.eval p.2)) = #[(0, .agg #[.int .u8 p1, .int .i64 p2]), (1, .agg #[.int .u8 q1, .int .i64 q2])] := by
      simp only [List.map_toArray, List.map_cons, List.map_nil, hk.val hx, hk.val hy]
    dsimp only
    rw [e]
    simp [go_sem], balloc (Below.refl _ _) _, rd_2 p1 p2 q1 q2 w⟩
theorem st_mk3 {x y z : Operand} {p1 p2 q1 q2 r1 r2 : Int} {d : Nat} (ho : o.op = .buildSlice 35 3 #[(0, x), (1, y), (2, z)]) (hw : wantB dl bs ds o = some true) (hd : o.dst = some d) (hx : opV dl bs ds o x = some (.agg #[.int .u8 p1, .int .i64 p2])) (hy : opV dl bs ds o y = some (.agg #[.int .u8 q1, .int .i64 q2])) (hz : opV dl bs ds o z = some (.agg #[.int .u8 r1, .int .i64 r2])) (he : ds.getD d .any = .vs [(p1, p2), (q1, q2), (r1, r2)]) : StepOk Tryd.prog dl bs ds wr Q o :=
  st_val hw d hd _ he fun a w hbl hk => ⟨_, _, by
    unfold execOp
    rw [ho]
    have e : (#[(0, x), (1, y), (2, z)] : Array (Nat × Operand)).map (fun p => (p.1, a.eval p.2)) = #[(0, .agg #[.int .u8 p1, .int .i64 p2]), (1, .agg #[.int .u8 q1, .int .i64 q2]), (2, .agg #[.int .u8 r1, .int .i64 r2])] := by
      simp only [List.map_toArray, List.map_cons, List.map_nil, hk.val hx, hk.val hy, hk.val hz]
    dsimp only
    rw [e]
    simp [go_sem], balloc (Below.refl _ _) _, rd_3 p1 p2 q1 q2 r1 r2 w⟩
theorem st_do {x : Operand} {ats : Array TypeId} {k r1 r2 : Int} {l : List VT} {d : Nat} (hr : doL k l = (r1, r2)) (ho : o.op = .call { callee := .value (.func 15), args := #[.const (.int .u8 k), x], argTypes := ats }) (hw : wantB dl bs ds o = some true) (hd : o.dst = some d) (hx : opL dl bs ds o x = some l) (he : ds.getD d .any = .lit (.agg #[.int .u8 r1, .int .i64 r2])) : StepOk Tryd.prog dl bs ds wr Q o :=
  st_call hw d hd _ he fun a w hbl hk => ⟨15, #[.int .u8 k, a.eval x], by
    unfold execOp
    rw [ho]
    simp [go_sem], (ldo_any k _ l w (hk.list hx)).mono fun e w' ⟨he, hb⟩ => ⟨_, he, hb, by rw [hr]; rfl⟩⟩
theorem st_eql {x y : Operand} {rt : TypeId} {p1 p2 q1 q2 : Int} {b : Bool} {d : Nat} (hb : (p1 == q1 && p2 == q2) = b) (ho : o.op = .binOp .eql 24 x y rt) (hw : wantB dl bs ds o = some true) (hd : o.dst = some d) (hx : opV dl bs ds o x = some (.agg #[.int .u8 p1, .int .i64 p2])) (hy : opV dl bs ds o y = some (.agg #[.int .u8 q1, .int .i64 q2])) (he : ds.getD d .any = .lit (.bool b)) : StepOk Tryd.prog dl bs ds wr Q o :=
  st_val hw d hd _ he fun a w hbl hk => ⟨.bool ((p1 == q1 && p2 == q2)), w, by
    unfold execOp
    rw [ho]
    simp only [hk.val hx, hk.val hy]
    simp [go_sem]
    by_cases h1 : p1 = q1 <;> by_cases h2 : p2 = q2 <;> simp [h1, h2], Below.refl _ _, by subst hb; rfl⟩
theorem st_neq {x y : Operand} {rt : TypeId} {p1 p2 q1 q2 : Int} {b : Bool} {d : Nat} (hb : (!(p1 == q1 && p2 == q2)) = b) (ho : o.op = .binOp .neq 24 x y rt) (hw : wantB dl bs ds o = some true) (hd : o.dst = some d) (hx : opV dl bs ds o x = some (.agg #[.int .u8 p1, .int .i64 p2])) (hy : opV dl bs ds o y = some (.agg #[.int .u8 q1, .int .i64 q2])) (he : ds.getD d .any = .lit (.bool b)) : StepOk Tryd.prog dl bs ds wr Q o :=
  st_val hw d hd _ he fun a w hbl hk => ⟨.bool (!(p1 == q1 && p2 == q2)), w, by
    unfold execOp
    rw [ho]
    simp only [hk.val hx, hk.val hy]
    simp [go_sem]
    by_cases h1 : p1 = q1 <;> by_cases h2 : p2 = q2 <;> simp [h1, h2], Below.refl _ _, by subst hb; rfl⟩
theorem st_bin {x y : Operand} {op : BinOp} {t rt : TypeId} {u v r : Value} {d : Nat} (hg : ∀ w, (eqGuard op t x y u v).run Tryd.prog w = .ok () w) (hr : ∀ w, (binOp op t u v).run Tryd.prog w = .ok r w) (ho : o.op = .binOp op t x y rt) (hw : wantB dl bs ds o = some true) (hd : o.dst = some d) (hx : opV dl bs ds o x = some u) (hy : opV dl bs ds o y = some v) (he : ds.getD d .any = .lit r) : StepOk Tryd.prog dl bs ds wr Q o :=
  st_val hw d hd _ he fun a w hbl hk => ⟨r, w, by
    unfold execOp
    rw [ho]
    simp only [hk.val hx, hk.val hy]
    simp [Sem.run_bind, hg, hr, Result.andThen], Below.refl _ _, rfl⟩
theorem bin_lss (a b : Int) (w : World) : (binOp .lss 2 (.int .i64 a) (.int .i64 b)).run Tryd.prog w = .ok (.bool (decide (a < b))) w := by simp [go_sem]
theorem bin_eql (a b : Int) (w : World) : (binOp .eql 2 (.int .i64 a) (.int .i64 b)).run Tryd.prog w = .ok (.bool (a == b)) w := by simp [go_sem]
theorem bin_eqb (a b : Bool) (w : World) : (binOp .eql 4 (.bool a) (.bool b)).run Tryd.prog w = .ok (.bool (a == b)) w := by simp [go_sem]
theorem grd_lss (a b : Int) (x y : Operand) (w : World) : (eqGuard .lss 2 x y (.int .i64 a) (.int .i64 b)).run Tryd.prog w = .ok () w := by simp [go_sem]
theorem grd_eql (a b : Int) (x y : Operand) (w : World) : (eqGuard .eql 2 x y (.int .i64 a) (.int .i64 b)).run Tryd.prog w = .ok () w := by simp [go_sem]
theorem grd_eqb (a b : Bool) (x y : Operand) (w : World) : (eqGuard .eql 4 x y (.bool a) (.bool b)).run Tryd.prog w = .ok () w := by simp [go_sem]
theorem st_not {x : Operand} {rt : TypeId} {b : Bool} {d : Nat} (ho : o.op = .unOp .not rt x) (hw : wantB dl bs ds o = some true) (hd : o.dst = some d) (hx : opV dl bs ds o x = some (.bool b)) (he : ds.getD d .any = .lit (.bool (!b))) : StepOk Tryd.prog dl bs ds wr Q o :=
  st_val hw d hd _ he fun a w hbl hk => ⟨_, w, by
    unfold execOp
    rw [ho]
    simp only [hk.val hx]
    simp [go_sem], Below.refl _ _, rfl⟩
theorem st_num {x : Operand} {ats : Array TypeId} {n : Int} {d : Nat} (ho : o.op = .call { callee := .value (.func 14), args := #[x], argTypes := ats }) (hw : wantB dl bs ds o = some true) (hd : o.dst = some d) (hx : opV dl bs ds o x = some (.int .i64 n)) (he : ds.getD d .any = .lit (.agg #[.int .u8 1, .int .i64 n])) : StepOk Tryd.prog dl bs ds wr Q o :=
  st_call hw d hd _ he fun a w hbl hk => ⟨14, #[.int .i64 n], by
    rw [← hk.val hx]
    unfold execOp
    rw [ho]
    simp [go_sem], (nums_any n w).mono fun e w' ⟨he, hb⟩ => ⟨_, he, hb, rfl⟩⟩
theorem st_yes {x : Operand} {ats : Array TypeId} {b : Bool} {d : Nat} (ho : o.op = .call { callee := .value (.func 17), args := #[x], argTypes := ats }) (hw : wantB dl bs ds o = some true) (hd : o.dst = some d) (hx : opV dl bs ds o x = some (.bool b)) (he : ds.getD d .any = .lit (.agg #[.int .u8 2, .int .i64 (boolI b)])) : StepOk Tryd.prog dl bs ds wr Q o :=
  st_call hw d hd _ he fun a w hbl hk => ⟨17, #[.bool b], by
    rw [← hk.val hx]
    unfold execOp
    rw [ho]
    simp [go_sem], (alive_yes b w).mono fun e w' ⟨he, hb⟩ => ⟨_, he, hb, rfl⟩⟩
theorem st_alive {ats : Array TypeId} {d : Nat} (ht : Tab wr) (ho : o.op = .call { callee := .value (.func 16), args := #[], argTypes := ats }) (hw : wantB dl bs ds o = some true) (hd : o.dst = some d) (he : ds.getD d .any = .lit (.bool true)) : StepOk Tryd.prog dl bs ds wr Q o :=
  st_call hw d hd _ he fun a w hbl hk => ⟨16, #[], by
    unfold execOp
    rw [ho]
    simp [go_sem], (alive_any w (ht.below hbl)).mono fun e w' ⟨he, hb⟩ => ⟨_, he, hb, rfl⟩⟩
end
end Go.Proofs.YtphlodafdkpedaaDoor
