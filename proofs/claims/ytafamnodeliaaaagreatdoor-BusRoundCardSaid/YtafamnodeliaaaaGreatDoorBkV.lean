/-
  A book of lists in memory, further: marks are written, one by one; more is put behind, one by one. No program in sight.
-/
import Derived.Test.YtafamnodeliaaaaGreatDoorBkW
namespace Go.Proofs.YtafamnodeliaaaaGreatDoor
open Go.RowKit
open Go

theorem marks_succ (K : Kd) (m n : Nat) : marks K m (n + 1) = marks K m n ++ K.mark m := by
  unfold marks
  rw [List.replicate_succ', List.flatten_append]
  simp
theorem marks_len (K : Kd) (m n : Nat) (h : (K.mark m).length = K.sz) : (marks K m n).length = n * K.sz := by
  induction n with
  | zero => simp [marks]
  | succ n ih => rw [marks_succ, List.length_append, ih, h, Nat.add_mul, Nat.one_mul]
theorem marks_get (K : Kd) (m n : Nat) (h : (K.mark m).length = K.sz) {k i : Nat} (hk : k < n) (hi : i < K.sz) : (marks K m n)[k * K.sz + i]? = (K.mark m)[i]? := by
  refine (flat_get K.sz (List.replicate n (K.mark m)) (fun r hr => by rw [List.eq_of_mem_replicate hr, h]) k i (K.mark m) ((K.mark m)[i]'(by omega)) ?_ ?_).trans ?_
  · simp [hk]
  · exact List.getElem?_eq_getElem _
  · exact (List.getElem?_eq_getElem _).symm
theorem marks_take (K : Kd) (m n q : Nat) (h : (K.mark m).length = K.sz) : (marks K m (n + q)).take (n * K.sz) = marks K m n := by
  unfold marks
  rw [← List.replicate_append_replicate, List.flatten_append]
  refine List.take_left' ?_
  exact marks_len K m n h

section
variable {K : Kd} {base : Nat} {w0 w w' : World} {it : It} {q : Nat} {u : Value}
/-- A list of which the first q are marked. -/
structure FillAt (K : Kd) (base : Nat) (w0 : World) (it : It) (q : Nat) (w : World) : Prop where
  turn : Tn (fun b => it.has b) w0 w
  own : ∃ xs, Own w base K.e K.sz it.v it.n xs ∧ xs.take (q * K.sz) = marks K it.m q
theorem FillAt.start (h : it.at K base w .kept) : FillAt K base w it 0 w := by
  obtain ⟨_, xs, h⟩ := h
  exact ⟨Tn.refl _ _, xs, h, by simp [marks]⟩
theorem FillAt.done (h : FillAt K base w0 it it.n w) (hu : it.u = .slice none 0 0) : it.at K base w .filled := by
  obtain ⟨xs, h1, h2⟩ := h.own
  rw [List.take_of_length_le (by rw [h1.len]; exact Nat.le_refl _)] at h2
  exact ⟨hu, h2 ▸ h1⟩
/-- A mark of such a list. -/
theorem Own.marked {m n : Nat} {v : Value} (h : Own w base K.e K.sz v n (marks K m n)) {a : Option Addr} {c : Nat} (hv : v = .slice a n c) (hq : q < n) (hm : (K.mark m).length = K.sz := by rfl) (h0 : 0 < K.sz := by decide) :
    ∃ g, a = some ⟨g, 0, none⟩ ∧ ∀ i, i < K.sz → w.cell? ⟨g, q * K.sz + i, none⟩ = (K.mark m)[i]? := by
  have hle : (q + 1) * K.sz ≤ n * K.sz := Nat.mul_le_mul_right _ hq
  rw [Nat.add_mul, Nat.one_mul] at hle
  obtain ⟨g, ha, _⟩ := h.cell hv (j := q * K.sz) (by omega)
  refine ⟨g, ha, fun i hi => ?_⟩
  obtain ⟨g', ha', _, hx, _⟩ := h.cell hv (j := q * K.sz + i) (by omega)
  rw [ha] at ha'
  cases ha'
  rw [hx, marks_get K m n hm hq hi]
/-- Cells written one behind the other. -/
def setsAt (w : World) (g : Nat) : Nat → List Value → World
  | _, [] => w
  | j, y :: ys => setsAt (w.setCell ⟨g, j, none⟩ y) g (j + 1) ys
def lsets (xs : List Value) : Nat → List Value → List Value
  | _, [] => xs
  | j, y :: ys => lsets (xs.set j y) (j + 1) ys
theorem lsets_take (xs : List Value) (j : Nat) (ys : List Value) (h : j + ys.length ≤ xs.length) : (lsets xs j ys).take (j + ys.length) = xs.take j ++ ys := by
  induction ys generalizing xs j with
  | nil => simp [lsets]
  | cons y ys ih =>
    have := ih (xs.set j y) (j + 1) (by simp at h ⊢; omega)
    rw [lsets, show j + (y :: ys).length = j + 1 + ys.length by simp; omega, this]
    have hj : j < xs.length := by simp at h; omega
    rw [List.take_succ_eq_append_getElem (by simpa using hj), List.take_set, List.set_eq_of_length_le (by rw [List.length_take]; omega)]
    simp
theorem Own.sets {e : TypeId} {sz n : Nat} {v : Value} {xs : List Value} (h : Own w base e sz v n xs) {g : Nat} (hg : roomOf v = some g) (j : Nat) (ys : List Value) : Own (setsAt w g j ys) base e sz v n (lsets xs j ys) := by
  induction ys generalizing xs j w with
  | nil => exact h
  | cons y ys ih => exact ih (h.set hg j y) (j + 1)
theorem Tn.sets {S : Nat → Prop} (h : Tn S w0 w) {g : Nat} (hg : S g) (j : Nat) (ys : List Value) : Tn S w0 (setsAt w g j ys) := by
  induction ys generalizing j w with
  | nil => exact h
  | cons y ys ih => exact ih (h.setCell (p := ⟨g, j, none⟩) (fun _ => hg) y) (j + 1)
theorem FillAt.step (h : FillAt K base w0 it q w) (hq : q < it.n) (hm : (K.mark it.m).length = K.sz) {g : Nat} (hg : roomOf it.v = some g) : FillAt K base w0 it (q + 1) (setsAt w g (q * K.sz) (K.mark it.m)) := by
  obtain ⟨xs, h1, h2⟩ := h.own
  refine ⟨h.turn.sets (S := fun b => it.has b) (.inl hg) _ _, _, h1.sets hg _ _, ?_⟩
  have hle : (q + 1) * K.sz ≤ it.n * K.sz := Nat.mul_le_mul_right _ hq
  rw [Nat.add_mul, Nat.one_mul] at hle
  have := lsets_take xs (q * K.sz) (K.mark it.m) (by rw [h1.len, hm]; exact hle)
  rw [hm] at this
  rw [Nat.add_mul, Nat.one_mul, this, h2, marks_succ]
theorem FillAt.below (h : FillAt K base w0 it q w) (hb : Below w.heap.size w w') : FillAt K base w0 it q w' := by
  obtain ⟨xs, h1, h2⟩ := h.own
  exact ⟨Tn.trans h.turn (Below.tn hb fun _ => False) (fun _ _ h => h.elim), xs, h1.below hb, h2⟩
theorem FillAt.drewN (h : FillAt K base w0 it q w) (n : Nat) : FillAt K base w0 it q (w.drewN n) := by
  obtain ⟨xs, h1, h2⟩ := h.own
  exact ⟨h.turn.drewN n, xs, h1.kept fun _ _ => rfl, h2⟩

/-- Blocks of other types do not turn with a list's room. -/
theorem Tn.other {p : Ph} (t : Tn (fun b => it.has b) w0 w) (h : it.at K base w0 p) {k : Nat} {c : Array Value} {ty : TypeId} {fr : Nat × Nat} (hk : w0.heap[k]? = some (.cells c ty fr)) (hne : ty ≠ K.e) : w.heap[k]? = some (.cells c ty fr) := by
  refine (t.block k (Array.getElem?_eq_some_iff.1 hk).1 fun hb => ?_).trans hk
  obtain ⟨_, c', hc'⟩ := h.owns hb
  have := hk.symm.trans hc'
  simp only [Option.some.injEq, Obj.cells.injEq] at this
  exact hne this.2.1
theorem FillAt.cells (h : FillAt K base w0 it q w) {a : Option Addr} {c : Nat} (hv : it.v = .slice a it.n c) (hq : q < it.n) :
    ∃ g, a = some ⟨g, 0, none⟩ ∧ roomOf it.v = some g ∧ ∀ i, i < K.sz → ∃ x, w.cell? ⟨g, q * K.sz + i, none⟩ = some x ∧ w.frozen? ⟨g, q * K.sz + i, none⟩ = false := by
  obtain ⟨xs, h1, _⟩ := h.own
  have hle : (q + 1) * K.sz ≤ it.n * K.sz := Nat.mul_le_mul_right _ hq
  rw [Nat.add_mul, Nat.one_mul] at hle
  rcases Nat.eq_zero_or_pos K.sz with h0 | h0
  · obtain ⟨g, cc, cur, hv', _, _, _, _, _, _, hr⟩ := h1.open (by omega)
    rw [hv'] at hv
    simp only [Value.slice.injEq] at hv
    exact ⟨g, hv.1.symm, hr, fun i hi => by omega⟩
  · obtain ⟨g, ha, hr, _⟩ := h1.cell hv (j := q * K.sz) (by omega)
    refine ⟨g, ha, hr, fun i hi => ?_⟩
    obtain ⟨g', ha', _, hx, hf⟩ := h1.cell hv (j := q * K.sz + i) (by omega)
    rw [ha] at ha'
    cases ha'
    exact ⟨xs[q * K.sz + i]'(by rw [h1.len]; omega), by rw [hx, List.getElem?_eq_getElem], hf⟩
theorem FillAt.cellsAt (h : FillAt K base w0 it q w) {a : Option Addr} {c : Nat} (hv : it.v = .slice a it.n c) (hq : q < it.n) {gl : Nat} (hg : roomOf it.v = some gl) :
    ∀ i, i < K.sz → ∃ x, w.cell? ⟨gl, q * K.sz + i, none⟩ = some x ∧ w.frozen? ⟨gl, q * K.sz + i, none⟩ = false := by
  obtain ⟨g, _, hr, hc⟩ := h.cells hv hq
  rw [hg] at hr
  cases hr
  exact hc

/-- A list behind which q more have been put. -/
structure GrowAt (K : Kd) (base : Nat) (w0 : World) (it : It) (u : Value) (q : Nat) (w : World) : Prop where
  turn : Tn (fun b => it.has b) w0 w
  old : ∀ g, roomOf it.v = some g → g < w0.heap.size
  l : Own w base K.e K.sz it.v it.n (marks K it.m it.n)
  long : Own w base K.e K.sz u (it.n + q) (marks K it.m (it.n + q))
  lies : (∃ g c, it.v = .slice (some ⟨g, 0, none⟩) it.n c ∧ u = .slice (some ⟨g, 0, none⟩) (it.n + q) c) ∨ (∃ g c, u = .slice (some ⟨g, 0, none⟩) (it.n + q) c ∧ w0.heap.size ≤ g) ∨ (q = 0 ∧ u = it.v)
theorem GrowAt.start (h : it.at K base w .filled) : GrowAt K base w it it.v 0 w :=
  ⟨Tn.refl _ _, fun g hg => h.2.lt hg, h.2, by simpa using h.2, .inr (.inr ⟨rfl, rfl⟩)⟩
theorem Own.part {e : TypeId} {sz n n' g c : Nat} {xs : List Value} (h : Own w base e sz (.slice (some ⟨g, 0, none⟩) n' c) n' xs) (hc : 0 < c) (hn : n ≤ n') : Own w base e sz (.slice (some ⟨g, 0, none⟩) n c) n (xs.take (n * sz)) := by
  have hmul : n * sz ≤ n' * sz := Nat.mul_le_mul_right _ hn
  obtain ⟨h1, ⟨a, hv, _⟩ | ⟨g', c', cur, hv, hc', hb, hg, hn', hm, hs, ht⟩⟩ := h
  · simp only [Value.slice.injEq] at hv
    omega
  · simp only [Value.slice.injEq, Option.some.injEq, Addr.mk.injEq] at hv
    obtain ⟨⟨rfl, _⟩, _, rfl⟩ := hv
    refine ⟨by rw [List.length_take, h1]; omega, .inr ⟨_, _, cur, rfl, hc', hb, hg, by omega, hm, hs, ?_⟩⟩
    rw [← ht, List.take_take, Nat.min_eq_left hmul]
theorem GrowAt.below (h : GrowAt K base w0 it u q w) (hb : Below w.heap.size w w') : GrowAt K base w0 it u q w' :=
  ⟨Tn.trans h.turn (Below.tn hb fun _ => False) (fun _ _ h => h.elim), h.old, h.l.below hb, h.long.below hb, h.lies⟩
theorem GrowAt.step (h : GrowAt K base w0 it u q w) (o : Obj) {u' : Value} (hm : (K.mark it.m).length = K.sz) (hg : Grew (it.n + q) (w.alloc o) w' u u') (hown : Own w' base K.e K.sz u' (it.n + q + 1) (marks K it.m (it.n + q) ++ K.mark it.m)) :
    GrowAt K base w0 it u' (q + 1) w' := by
  rw [← marks_succ] at hown
  have hsz := h.turn.size
  have hT := h.turn.alloc o
  rcases hg with ⟨g, c, e1, e2, hc, hgr⟩ | ⟨g, c, e2, hc, hg0, hgr⟩
  · have hinpl : (∃ c', it.v = .slice (some ⟨g, 0, none⟩) it.n c' ∧ c' = c) → GrowAt K base w0 it u' (q + 1) w' := by
      rintro ⟨c', hv, rfl⟩
      have hroom : roomOf it.v = some g := by rw [hv]; exact room_lit _ _ _ (by omega)
      refine ⟨hT.grown hgr fun k hk _ => ?_, h.old, ?_, hown, .inl ⟨g, c', hv, e2⟩⟩
      · cases hk
        exact .inl hroom
      · rw [hv]
        rw [e2] at hown
        have := Own.part (n := it.n) hown (by omega) (by omega)
        rwa [Nat.add_assoc, marks_take K it.m it.n (q + 1) hm] at this
    rcases h.lies with ⟨g', c', hv, hu⟩ | ⟨g', c', hu, hn⟩ | ⟨rfl, hu⟩
    · rw [hu] at e1
      simp only [Value.slice.injEq, Option.some.injEq, Addr.mk.injEq] at e1
      obtain ⟨⟨rfl, _⟩, _, rfl⟩ := e1
      exact hinpl ⟨_, hv, rfl⟩
    · rw [hu] at e1
      simp only [Value.slice.injEq, Option.some.injEq, Addr.mk.injEq] at e1
      obtain ⟨⟨rfl, _⟩, _, rfl⟩ := e1
      refine ⟨hT.grown hgr fun k hk hlt => ?_, h.old, ?_, hown, .inr (.inl ⟨g', c', e2, hn⟩)⟩
      · cases hk
        omega
      · refine (h.l.alloc o).kept fun b hb => ?_
        have := h.old b hb
        exact hgr.block b (by simp; omega) (fun e => by cases e; omega)
    · rw [hu] at e1
      exact hinpl ⟨c, by simpa using e1, rfl⟩
  · have hg0' : w.heap.size + 1 ≤ g := by simpa using hg0
    refine ⟨hT.grown hgr fun k hk _ => (by cases hk), h.old, ?_, hown, .inr (.inl ⟨g, c, e2, by omega⟩)⟩
    refine (h.l.alloc o).kept fun b hb => ?_
    have := h.old b hb
    exact hgr.block b (by simp; omega) (by simp)
end
theorem owns_set {w : World} {base : Nat} {e : TypeId} {sz g c n : Nat} {xs : List Value} (h : w.ownsRow base e sz (.slice (some ⟨g, 0, none⟩) n c) n xs) (j : Nat) (x : Value) : (w.setCell ⟨g, j, none⟩ x).ownsRow base e sz (.slice (some ⟨g, 0, none⟩) n c) n (xs.set j x) := by
  obtain ⟨h1, h2⟩ := h
  rcases h2 with ⟨h2, _⟩ | ⟨g', c', cur, hv, hb, hg, hn, hm, hs, ht⟩
  · cases h2
  · cases hv
    refine ⟨by rw [List.length_set, h1], .inr ⟨g, c, _, rfl, hb, Go.heap_setCell_same w g j cur e x hg, hn, hm, by simpa using hs, ?_⟩⟩
    rw [Array.toList_setIfInBounds, List.take_set, ht]
theorem flat_set (its : List It) (k : Nat) (it : It) (u : Value) (h : its[k]? = some it) : ((its.map It.row).flatten).set (k * 3 + 1) u = ((its.set k { it with u := u }).map It.row).flatten := by
  induction its generalizing k with
  | nil => simp at h
  | cons a its ih =>
    cases k with
    | zero =>
      simp at h
      subst h
      simp [It.row]
    | succ k =>
      have := ih k (by simpa using h)
      simp only [List.map_cons, List.flatten_cons, List.set_cons_succ]
      rw [List.set_append_right _ _ (by simp [It.row]; omega), show (k + 1) * 3 + 1 - a.row.length = k * 3 + 1 by simp [It.row]; omega, this]
section
variable {K : Kd} {base : Nat} {s : Value} {its : List It} {ph : Nat → Ph} {w0 w : World}
theorem KAt.store (h : KAt K base s its ph w0) {k : Nat} {it : It} (hk : its[k]? = some it) {u : Value} (G : GrowAt K base w0 it u 40 w) (hne : K.tH ≠ K.e) {gs c n : Nat} (hs : s = .slice (some ⟨gs, 0, none⟩) n c) {ph' : Nat → Ph} (h1 : ph' k = .grown) (h2 : ∀ i, i ≠ k → ph' i = ph i) :
    KAt K base s (its.set k { it with u := u }) ph' (w.setCell ⟨gs, k * 3 + 1, none⟩ u) ∧ TnT base (fun t => t = K.e ∨ t = K.tH) w0 (w.setCell ⟨gs, k * 3 + 1, none⟩ u) := by
  obtain ⟨a1, a2⟩ := h.each k it hk
  subst hs
  have hrow : w.ownsRow base K.tH 3 (.slice (some ⟨gs, 0, none⟩) n c) its.length (its.map It.row).flatten := by
    refine owns_keep h.row fun g hg => ?_
    obtain ⟨_, c, hc⟩ := owns_at h.row hg
    refine G.turn.block g (Array.getElem?_eq_some_iff.1 hc).1 fun hb => ?_
    obtain ⟨_, c', hc'⟩ := a1.owns hb
    have := hc.symm.trans hc'
    simp only [Option.some.injEq, Obj.cells.injEq] at this
    exact hne this.2.1
  obtain ⟨hgb, cs, hgs⟩ := owns_at hrow (g := gs) rfl
  obtain ⟨_, cs0, hgs0⟩ := owns_at h.row (g := gs) rfl
  have hset : ∀ b, b ≠ gs → (w.setCell ⟨gs, k * 3 + 1, none⟩ u).heap[b]? = w.heap[b]? := fun b hb => Below.heap_setCell w ⟨gs, k * 3 + 1, none⟩ u b hb
  have hnl : n = its.length := by
    rcases hrow.2 with ⟨e, _⟩ | ⟨_, _, _, e, _⟩
    · cases e
    · cases e
      rfl
  subst hnl
  have hnot : ∀ {v : Value} {m : Nat} {xs : List Value}, Own w base K.e K.sz v m xs → Own (w.setCell ⟨gs, k * 3 + 1, none⟩ u) base K.e K.sz v m xs := fun ho => ho.kept fun g hg => hset g (by
    rintro rfl
    obtain ⟨_, c', hc'⟩ := ho.room hg
    have := hgs.symm.trans hc'
    simp only [Option.some.injEq, Obj.cells.injEq] at this
    exact hne this.2.1)
  have hlies : ∀ x, It.has { it with u := u } x → it.has x ∨ w0.heap.size ≤ x := by
    rintro x (hx | hx)
    · exact .inl (.inl hx)
    · rcases G.lies with ⟨g', c', hv, hu⟩ | ⟨g', c', hu, hn⟩ | ⟨h0, _⟩
      · refine .inl (.inl ?_)
        simp only at hx
        rw [hu] at hx
        rw [hv]
        rcases Nat.eq_zero_or_pos c' with rfl | hc
        · rw [room_none] at hx
          cases hx
        · rw [room_lit _ _ _ hc] at hx ⊢
          exact hx
      · simp only at hx
        rw [hu] at hx
        rcases Nat.eq_zero_or_pos c' with rfl | hc
        · rw [room_none] at hx
          cases hx
        · rw [room_lit _ _ _ hc] at hx
          cases hx
          exact .inr hn
      · omega
  refine ⟨⟨?_, fun i jt hi => ?_, ?_⟩, ?_⟩
  · rw [List.length_set, ← flat_set its k it u hk]
    exact owns_set hrow _ _
  · rw [List.getElem?_set] at hi
    split at hi
    · rename_i e
      subst e
      split at hi
      · cases hi
        rw [h1]
        exact ⟨⟨hnot G.l, hnot G.long⟩, a2⟩
      · cases hi
    · rename_i e
      obtain ⟨b1, b2⟩ := h.each i jt hi
      rw [h2 i (fun e' => e e'.symm)]
      refine ⟨b1.keep fun b hb => ?_, b2⟩
      obtain ⟨_, c2, hc⟩ := b1.owns hb
      refine (hset b ?_).trans (G.turn.block b (Array.getElem?_eq_some_iff.1 hc).1 fun hb2 => h.apart k i it jt e hk hi b hb2 hb)
      rintro rfl
      have := hgs0.symm.trans hc
      simp only [Option.some.injEq, Obj.cells.injEq] at this
      exact hne this.2.1
  · have key : ∀ i b, i ≠ k → its[i]? = some b → ∀ x, It.has { it with u := u } x → ¬ b.has x := by
      intro i b hik hi x hx hx2
      rcases hlies x hx with hx | hx
      · exact h.apart k i it b (fun e => hik e.symm) hk hi x hx hx2
      · obtain ⟨_, c2, hc⟩ := (h.each i b hi).1.owns hx2
        have := (Array.getElem?_eq_some_iff.1 hc).1
        omega
    intro i j a b hij hi hj x hx hx2
    rw [List.getElem?_set] at hi hj
    split at hi
    · rename_i e
      subst e
      split at hi
      · cases hi
        split at hj
        · rename_i e
          exact hij e
        · exact key j b (fun e => hij e.symm) hj x hx hx2
      · cases hi
    · split at hj
      · rename_i e1 e2
        subst e2
        split at hj
        · cases hj
          exact key i a hij hi x hx2 hx
        · cases hj
      · exact h.apart i j a b hij hi hj x hx hx2
  · refine (G.turn.mono fun b _ hb => ?_).setCell (p := ⟨gs, k * 3 + 1, none⟩) (fun _ => ⟨hgb, cs0, _, _, hgs0, .inr rfl⟩) u
    obtain ⟨hb1, c, hc⟩ := a1.owns hb
    exact ⟨hb1, c, _, _, hc, .inl rfl⟩
/-- One more list is held. -/
theorem KAt.push (h : KAt K base s its ph w0) {s' : Value} {it : It} (hrow : w.ownsRow base K.tH 3 s' (its.length + 1) ((its.map It.row).flatten ++ it.row)) {T : TypeId → Prop} (t : TnT base T w0 w) (he : ¬ T K.e) {ph' : Nat → Ph} (h1 : ∀ i, i < its.length → ph' i = ph i)
    (hat : it.at K base w (ph' its.length)) (hn : it.n ≤ 1000000) (hm : it.m ≤ 100000) (hap : ∀ (i : Nat) (a : It), its[i]? = some a → ∀ x, a.has x → ¬ it.has x) : KAt K base s' (its ++ [it]) ph' w := by
  refine ⟨?_, fun i jt hi => ?_, ?_⟩
  · simpa using hrow
  · rw [List.getElem?_append] at hi
    split at hi
    · rename_i hlt
      obtain ⟨b1, b2⟩ := h.each i jt hi
      rw [h1 i hlt]
      refine ⟨b1.keep fun b hb => ?_, b2⟩
      obtain ⟨_, c, hc⟩ := b1.owns hb
      exact (t.keep hc he).trans hc.symm
    · rename_i hlt
      have h0 : i - its.length = 0 := by
        have := (List.getElem?_eq_some_iff.1 hi).1
        simp at this
        omega
      rw [h0] at hi
      simp at hi
      subst hi
      obtain rfl : i = its.length := by omega
      exact ⟨hat, hn, hm⟩
  · intro i j a b hij hi hj x hx hx2
    rw [List.getElem?_append] at hi hj
    split at hi
    · split at hj
      · exact h.apart i j a b hij hi hj x hx hx2
      · have := (List.getElem?_eq_some_iff.1 hj).1
        simp at this
        rw [show j - its.length = 0 by omega] at hj
        simp at hj
        subst hj
        exact hap i a hi x hx hx2
    · have := (List.getElem?_eq_some_iff.1 hi).1
      simp at this
      rw [show i - its.length = 0 by omega] at hi
      simp at hi
      subst hi
      split at hj
      · exact hap j b hj x hx2 hx
      · have := (List.getElem?_eq_some_iff.1 hj).1
        simp at this
        omega
end
end Go.Proofs.YtafamnodeliaaaaGreatDoor
