/-
  A region that draws its order, and ends in a store into a block that it makes: all else stands by then.
-/
import Derived.Test.YtphlodafdkpedaaDoorAnyOps
namespace Go.Proofs.YtphlodafdkpedaaDoor
open Go.RowKit
open Go

/-- Each but the last is waited for by a later one. -/
def tiedB : List Oper → Nat → Nat → Bool
  | _, _, 0 => true
  | l, j, n + 1 => (l.drop (j + 1)).any (fun o => o.after.any fun e => Nat.beq e.on j && Region.binds .any e) && tiedB l (j + 1) n
theorem tiedB_at {l : List Oper} {k n : Nat} (h : tiedB l k n = true) (j : Nat) (h1 : k ≤ j) (h2 : j < k + n) : ∃ i o, j < i ∧ l[i]? = some o ∧ ∃ e ∈ o.after, e.on = j ∧ Region.binds .any e = true := by
  induction n generalizing k with
  | zero => omega
  | succ n ih =>
    unfold tiedB at h
    simp only [Bool.and_eq_true] at h
    by_cases hj : j = k
    · subst hj
      obtain ⟨o, ho, h3⟩ := List.any_eq_true.1 h.1
      obtain ⟨i, hi, rfl⟩ := List.mem_iff_getElem.1 ho
      obtain ⟨e, he, h4⟩ := Array.any_eq_true'.1 h3
      simp only [Bool.and_eq_true] at h4
      refine ⟨j + 1 + i, _, by omega, ?_, e, he, by simpa using h4.1, h4.2⟩
      rw [← List.getElem?_drop]
      exact List.getElem?_eq_getElem hi
    · exact ih h.2 (by omega) (by omega)
theorem wp_region_box {P : Program} {id n : Nat} {ops : List Oper} {st : Oper} (dl bs : List Nat) (ds : List Dv) (R : Act → World → Prop) {Q : Exit → Act → World → Prop} {a0 : Act} {w0 : World} (hm : P.follows .mixedOrders = true)
    (hn : ops.length = n + 1) (hst : ops[n]? = some st) (hsd : st.dst = none) (htied : tiedB ops 0 n = true)
    (hdl : (ops.take n).map (·.dst) = dl.map some) (hok : okB a0.tmps.size dl = true) (hback : backB 0 ops = true) (hbs : (bs.all fun s => dl.all fun d => !(Nat.beq d s)) = true)
    (hbase : ∀ s ∈ bs, (ds.getD s .any).Has w0 (a0.tmps.getD s undef)) (hsteps : StepsOk P dl bs ds w0 Q (ops.take n)) (hgd : (ops.all fun o => o.guard.isNone) = true)
    (hstore : ∀ a w, Below w0.heap.size w0 w → Knows dl bs ds st a w → ∃ w', (execOp a.eval st).run P w = .ok .skip w' ∧ Below w0.heap.size w0 w' ∧ R a w')
    (hdone : ∀ a w, Below w0.heap.size w0 w → R a w → a.defers = a0.defers → a.tmps.size = a0.tmps.size → (∀ s, (dl.all fun d => !(Nat.beq d s)) = true → a.tmps.getD s undef = a0.tmps.getD s undef) → Q .normal a w) :
    (Code.region id ops.toArray true).wp P Q a0 w0 := by
  have hol : n = dl.length := by
    have := congrArg List.length hdl
    simp only [List.length_map, List.length_take] at this
    omega
  have hsn : ops[n]? = some st := hst
  refine wp_region_inv hm (fun l a w => l.size = ops.length ∧ Below w0.heap.size w0 w ∧ a.defers = a0.defers ∧ a.tmps.size = a0.tmps.size ∧ (∀ s, (dl.all fun d => !(Nat.beq d s)) = true → a.tmps.getD s undef = a0.tmps.getD s undef) ∧
    (∀ i o, ops[i]? = some o → l.getD i false = true → ∀ e ∈ o.after, Region.binds .any e = true → l.getD e.on false = true) ∧
    (l.getD n false = true → R a w) ∧ (l.getD n false = false → ∀ j, j < n → l.getD j false = true → (ds.getD (dl.getD j 0) .any).Has w (a.tmps.getD (dl.getD j 0) undef))) ?_ ?_ ?_
  · refine ⟨by simp, bdraw (Below.refl _ _) 1, rfl, rfl, fun _ _ => rfl, fun i o ho h => ?_, fun h => ?_, fun _ j hj h => ?_⟩
    · have := (List.getElem?_eq_some_iff.1 ho).1
      simp [Array.getD, this] at h
    · simp [Array.getD, hn] at h
    · have : j < ops.length := by omega
      simp [Array.getD, this] at h
  · rintro l a w hr ⟨h1, h2, h3, h4, h5, h6, h7, h8⟩
    exact hdone a w h2 (h7 (all_listed hback h1 hr n (by omega))) h3 h4 h5
  · rintro l a w i hi ⟨h1, h2, h3, h4, h5, h6, h7, h8⟩ K hK
    obtain ⟨hun, o, ho, hall⟩ := mem_ready.1 hi
    have ho' : ops[i]? = some o := by simpa using ho
    have hil : i < ops.length := (List.getElem?_eq_some_iff.1 ho').1
    -- once the last stands, all stands
    have full : l.getD n false = true → ∀ k j, n - j ≤ k → j ≤ n → l.getD j false = true := by
      intro hl k
      induction k with
      | zero => intro j h1 h2; have : j = n := by omega
                subst this; exact hl
      | succ k ih =>
        intro j hj1 hj2
        rcases Nat.lt_or_ge j n with hlt | hge
        · obtain ⟨p, q, hp1, hp2, e, he, heq, hbd⟩ := tiedB_at htied j (by omega) (by omega)
          have hpn : p < ops.length := (List.getElem?_eq_some_iff.1 hp2).1
          have := h6 p q hp2 (ih p (by omega) (by omega)) e he hbd
          rwa [heq] at this
        · have : j = n := by omega
          subst this; exact hl
    have hln : l.getD n false = false := by
      cases e : l.getD n false with
      | false => rfl
      | true =>
        have h9 := full e n i (by omega) (by omega)
        exfalso
        have hs : i < l.size := by omega
        simp [Array.getD, hs] at hun h9
        rw [h9] at hun
        cases hun
    have hset : ∀ j, (l.setIfInBounds i true).getD j false = true → j = i ∨ l.getD j false = true := by
      intro j hj
      by_cases hij : i = j
      · exact .inl hij.symm
      · refine .inr ?_
        by_cases hjl : j < l.size
        · simp [Array.getD, hjl, hij] at hj ⊢
          exact hj
        · simp [Array.getD, hjl] at hj
    have hset2 : ∀ j, l.getD j false = true → (l.setIfInBounds i true).getD j false = true := by
      intro j hj
      by_cases hjl : j < l.size
      · by_cases hij : i = j
        · subst hij
          simp [Array.getD, hjl]
        · simp [Array.getD, hjl, hij] at hj ⊢
          exact hj
      · simp [Array.getD, hjl] at hj
    have hset3 : ∀ j, j ≠ i → (l.setIfInBounds i true).getD j false = l.getD j false := by
      intro j hj
      by_cases hjl : j < l.size
      · simp [Array.getD, hjl, Ne.symm hj]
      · simp [Array.getD, hjl]
    have h6' : ∀ k q, ops[k]? = some q → (l.setIfInBounds i true).getD k false = true → ∀ e ∈ q.after, Region.binds .any e = true → (l.setIfInBounds i true).getD e.on false = true := by
      intro k q hq hk e he hb
      rcases hset k hk with rfl | hk'
      · rw [ho'] at hq
        cases hq
        exact hset2 _ (hall e he hb)
      · exact hset2 _ (h6 k q hq hk' e he hb)
    have hg : o.guard = none := by
      have := List.all_eq_true.1 hgd o (List.mem_of_getElem? ho')
      cases h : o.guard with
      | none => rfl
      | some x => rw [h] at this; cases this
    have hwant : ∀ y, Region.wanted o y = true := fun y => by unfold Region.wanted; rw [hg]
    have hkn : Knows dl bs ds o a w := by
      intro s hs
      unfold srcs at hs
      rcases List.mem_append.1 hs with hs | hs
      · rw [h5 s (List.all_eq_true.1 hbs s hs)]
        exact Dv.below (hbase s hs) h2
      · obtain ⟨e, he, rfl⟩ := List.mem_map.1 hs
        obtain ⟨he1, he2⟩ := List.mem_filter.1 he
        have he3 : e ∈ o.after := by simpa using he1
        have hlt := backB_at hback i o ho' e he3
        exact h8 hln e.on (by omega) (hall e he3 he2)
    unfold wpOp
    rw [ho]
    simp only [hwant, if_true]
    refine .inl ?_
    by_cases hin : i = n
    · subst hin
      rw [hsn] at ho'
      cases ho'
      obtain ⟨w', hr, hb', hR⟩ := hstore a w h2 hkn
      unfold Oper.wp
      rw [hr]
      show K (a.put st.dst undef) w'
      rw [hsd]
      have hput : a.put none undef = a := rfl
      rw [hput]
      refine hK _ _ ⟨by simpa using h1, hb', h3, h4, h5, h6', fun _ => hR, fun h => ?_⟩
      exfalso
      have hs : i < l.size := by omega
      simp [Array.getD, hs] at h
    · have hlt : i < n := by omega
      have ht : (ops.take n)[i]? = some o := by rw [List.getElem?_take_of_lt hlt]; exact ho'
      obtain ⟨hd1, hd2⟩ := dst_at hdl i o ht
      have hd3 := okB_lt hok i _ hd2
      have hs := StepsOk.at _ hsteps i o ht a w h2 hkn
      rcases hs with ⟨hw, hs⟩ | ⟨hw, _⟩
      · refine hs K fun v w' hb' hv => hK _ _ ⟨by simpa using h1, h2.trans (hb'.mono h2.size), ?_, ?_, fun s hs' => ?_, h6', fun h => ?_, fun h j hj hl => ?_⟩
        · rw [hd1]; exact h3
        · rw [hd1]
          show (a.tmps.setIfInBounds _ _).size = _
          rw [Array.size_setIfInBounds]
          exact h4
        · rw [hd1, put_ne]
          · exact h5 s hs'
          · intro e
            have := List.all_eq_true.1 hs' _ (List.mem_of_getElem? hd2)
            rw [e] at this
            simp at this
        · rw [hset3 n (fun e => hin e.symm), hln] at h
          cases h
        · by_cases hij : i = j
          · subst hij
            rw [hd1, put_at _ _ _ (by rw [h4]; exact hd3)]
            exact hv _ hd1
          · have hjt : (ops.take n)[j]? = some (ops[j]'(by omega)) := by rw [List.getElem?_take_of_lt hj]; exact List.getElem?_eq_getElem _
            have hj2 := (dst_at hdl j _ hjt).2
            have hne : dl.getD i 0 ≠ dl.getD j 0 := by
              rcases Nat.lt_or_ge i j with hlt | hge
              · exact okB_ne hok i j _ _ hd2 hj2 hlt
              · exact fun e => okB_ne hok j i _ _ hj2 hd2 (by omega) e.symm
            rw [hd1, put_ne _ _ _ _ hne]
            have hl2 : l.getD j false = true := by
              rcases hset j hl with e | e
              · exact absurd e.symm hij
              · exact e
            exact Dv.below (h8 hln j hj hl2) hb'
      · exfalso
        unfold wantB at hw
        rw [hg] at hw
        cases hw
/-- The operator, behind a block that was laid. -/
theorem do2x_any (o a b c d r1 r2 : Int) (h : doL o [(a, b), (c, d)] = (r1, r2)) (w : World) (x : Obj) :
    Calls Tryd.prog 15 #[.int .u8 o, .slice (some ⟨w.heap.size + 1, 0, none⟩) 2 2] ((w.alloc x).alloc (.cells #[.int .u8 a, .int .i64 b, .int .u8 c, .int .i64 d] 24 (0, 0))) fun e w' => e = .returned (.agg #[.int .u8 r1, .int .i64 r2]) ∧ Below (w.alloc x).heap.size (w.alloc x) w' := by
  have H := ldo_any o _ _ _ (rd_2 a b c d (w.alloc x))
  rw [h, show (w.alloc x).heap.size = w.heap.size + 1 by simp] at H
  exact H.mono fun e w' ⟨he, hb⟩ => ⟨he, bnext (balloc (Below.refl _ _) _) (by simpa using hb)⟩
section
variable {dl bs : List Nat} {ds : List Dv} {wr : World} {Q : Exit → Act → World → Prop} {o : Oper}
theorem st_alloc {d : Nat} (ho : o.op = .alloc 24) (hw : wantB dl bs ds o = some true) (hd : o.dst = some d) (he : ds.getD d .any = .new wr.heap.size) : StepOk Tryd.prog dl bs ds wr Q o :=
  st_val hw d hd _ he fun a w hbl hk => ⟨.pointer (some ⟨w.heap.size, 0, none⟩), _, by
    unfold execOp
    rw [ho]
    simp [go_sem], balloc (Below.refl _ _) (.cells #[.int .u8 0, .int .i64 0] 24 (0, 0)), _, rfl, hbl.size, heap_alloc_new _ _⟩
/-- The store at the end. -/
theorem st_store {x : Operand} {s : Nat} {k n : Int} (ho : o.op = .store 24 (.tmp s) x) (hs : (srcs dl bs o).contains s = true) (hn : ds.getD s .any = .new wr.heap.size) (hx : opV dl bs ds o x = some (.agg #[.int .u8 k, .int .i64 n])) (a : Act) (w : World) (hb : Below wr.heap.size wr w) (hk : Knows dl bs ds o a w) :
    ∃ w', (execOp a.eval o).run Tryd.prog w = .ok .skip w' ∧ Below wr.heap.size wr w' ∧ ∃ g, a.tmps.getD s undef = .pointer (some ⟨g, 0, none⟩) ∧ w'.heap[g]? = some (.cells #[.int .u8 k, .int .i64 n] 24 (0, 0)) := by
  have h1 := hk s (by simpa using hs)
  rw [hn] at h1
  obtain ⟨g, e, hg, hgg⟩ := h1
  refine ⟨(w.setCell ⟨g, 0, none⟩ (.int .u8 k)).setCell ⟨g, 1, none⟩ (.int .i64 n), ?_, (hb.setCell (p := ⟨g, 0, none⟩) hg _).setCell (p := ⟨g, 1, none⟩) hg _, g, e, ?_⟩
  · have e' : a.eval (.tmp s) = .pointer (some ⟨g, 0, none⟩) := e
    have c0 := cell_of_row _ _ 0 _ _ _ hgg
    have c1 := cell_of_row _ _ 1 _ _ _ hgg
    unfold execOp
    rw [ho]
    simp only [e', hk.val hx]
    have f0 : w.frozen? ⟨g, 0, none⟩ = false := by simp [World.frozen?, hgg]
    have f1 : w.frozen? ⟨g, 1, none⟩ = false := by simp [World.frozen?, hgg]
    simp [go_sem, c0, c1, f0, f1]
  · exact heap_setCell_same _ _ 1 _ _ _ (heap_setCell_same _ _ 0 _ _ _ hgg)
end
end Go.Proofs.YtphlodafdkpedaaDoor
