/-
  A book of lists in memory: which lists it holds, what is told of each, and that no two share room. No program in sight.
-/
import Derived.Test.YtafamnodeliaaaaGreatDoorRowsN
import Derived.ArgAppend
namespace Go.Proofs.YtafamnodeliaaaaGreatDoor
open Go.RowKit
open Go

/-- Blocks but those of S are as they were; none has gone. -/
structure Tn (S : Nat → Prop) (w w' : World) : Prop where
  os : w'.os = w.os
  tape : w'.tape = w.tape
  output : w'.output = w.output
  size : w.heap.size ≤ w'.heap.size
  block : ∀ k, k < w.heap.size → ¬ S k → w'.heap[k]? = w.heap[k]?
theorem Tn.refl (S : Nat → Prop) (w : World) : Tn S w w := ⟨rfl, rfl, rfl, Nat.le_refl _, fun _ _ _ => rfl⟩
theorem Tn.trans {S T : Nat → Prop} {a b c : World} (h : Tn S a b) (k : Tn T b c) (hT : ∀ i, i < a.heap.size → T i → S i) : Tn S a c :=
  ⟨k.os.trans h.os, k.tape.trans h.tape, k.output.trans h.output, Nat.le_trans h.size k.size, fun i hi hn => (k.block i (Nat.lt_of_lt_of_le hi h.size) (fun ht => hn (hT i hi ht))).trans (h.block i hi hn)⟩
theorem Tn.mono {S T : Nat → Prop} {a b : World} (h : Tn S a b) (hT : ∀ i, i < a.heap.size → S i → T i) : Tn T a b := ⟨h.os, h.tape, h.output, h.size, fun i hi hn => h.block i hi fun hs => hn (hT i hi hs)⟩
theorem Tn.drewN {S : Nat → Prop} {a w : World} (h : Tn S a w) (n : Nat) : Tn S a (w.drewN n) := ⟨h.os, h.tape, h.output, h.size, h.block⟩
theorem Tn.drew {S : Nat → Prop} {a w : World} (h : Tn S a w) : Tn S a w.drew := ⟨h.os, h.tape, h.output, h.size, h.block⟩
theorem Tn.alloc {S : Nat → Prop} {a w : World} (h : Tn S a w) (o : Obj) : Tn S a (w.alloc o) :=
  ⟨h.os, h.tape, h.output, Nat.le_trans h.size (by simp), fun i hi hn => (Below.heap_alloc w o i (Nat.lt_of_lt_of_le hi h.size)).trans (h.block i hi hn)⟩
theorem Tn.setCell {S : Nat → Prop} {a w : World} (h : Tn S a w) {p : Addr} (hp : p.block < a.heap.size → S p.block) (u : Value) : Tn S a (w.setCell p u) :=
  ⟨h.os, h.tape, h.output, by simpa [World.setCell] using h.size, fun i hi hn => (Below.heap_setCell w p u i (by
    rintro rfl
    exact hn (hp hi))).trans (h.block i hi hn)⟩
theorem Tn.grown {S : Nat → Prop} {a w w' : World} {row : Option Nat} (h : Tn S a w) (hg : w.grownBy w' row) (hr : ∀ k, row = some k → k < a.heap.size → S k) : Tn S a w' :=
  ⟨hg.os.trans h.os, hg.tape.trans h.tape, hg.output.trans h.output, Nat.le_trans h.size hg.size, fun i hi hn => (hg.block i (Nat.lt_of_lt_of_le hi h.size) (fun e => hn (hr i e.symm hi))).trans (h.block i hi hn)⟩
theorem Tn.below {S : Nat → Prop} {B : Nat} {a w : World} (h : Tn S a w) (hB : ∀ k, S k → B ≤ k) (hz : B ≤ a.heap.size) : Below B a w :=
  ⟨h.os, h.tape, h.output, h.size, fun k hk => h.block k (by omega) (fun hs => by have := hB k hs; omega)⟩
theorem Below.tn {a w : World} (h : Below a.heap.size a w) (S : Nat → Prop) : Tn S a w := ⟨h.os, h.tape, h.output, h.size, fun k hk _ => h.block k hk⟩

/-- The blocks of these types, from base on. -/
def OfTy (base : Nat) (T : TypeId → Prop) (w : World) (k : Nat) : Prop := base ≤ k ∧ ∃ c t fr, w.heap[k]? = some (.cells c t fr) ∧ T t
theorem OfTy.lt {base : Nat} {T : TypeId → Prop} {w : World} {k : Nat} (h : OfTy base T w k) : k < w.heap.size := by
  obtain ⟨_, c, t, fr, h, _⟩ := h
  exact (Array.getElem?_eq_some_iff.1 h).1
abbrev TnT (base : Nat) (T : TypeId → Prop) (w w' : World) : Prop := Tn (OfTy base T w) w w'
theorem TnT.trans {base : Nat} {T : TypeId → Prop} {a b c : World} (h : TnT base T a b) (k : TnT base T b c) : TnT base T a c := by
  refine Tn.trans h k fun i hi ht => ?_
  refine Classical.byContradiction fun hn => hn ?_
  obtain ⟨h1, cs, t, fr, h2, h3⟩ := ht
  exact ⟨h1, cs, t, fr, (h.block i hi hn).symm.trans h2, h3⟩
theorem TnT.mono {base : Nat} {T T' : TypeId → Prop} {a b : World} (h : TnT base T a b) (hT : ∀ t, T t → T' t) : TnT base T' a b :=
  Tn.mono h fun _ _ ⟨h1, c, t, fr, h2, h3⟩ => ⟨h1, c, t, fr, h2, hT t h3⟩
theorem TnT.toBelow {base : Nat} {T : TypeId → Prop} {a b : World} (h : TnT base T a b) (hz : base ≤ a.heap.size) : Below base a b := Tn.below h (fun _ hs => hs.1) hz
theorem TnT.keep {base : Nat} {T : TypeId → Prop} {a b : World} (h : TnT base T a b) {k : Nat} {c : Array Value} {t : TypeId} {fr : Nat × Nat} (hk : a.heap[k]? = some (.cells c t fr)) (hT : ¬ T t) : b.heap[k]? = some (.cells c t fr) := by
  refine (h.block k (Array.getElem?_eq_some_iff.1 hk).1 ?_).trans hk
  rintro ⟨_, c', t', fr', h2, h3⟩
  have := hk.symm.trans h2
  simp only [Option.some.injEq, Obj.cells.injEq] at this
  exact hT (this.2.1 ▸ h3)

/-! ### A list of its own -/
/-- A row from a block's head on, the block the call's own; or an empty one without room, wherever it leads. -/
def Own (w : World) (base : Nat) (e : TypeId) (sz : Nat) (v : Value) (n : Nat) (xs : List Value) : Prop :=
  xs.length = n * sz ∧ ((∃ a, v = .slice a 0 0 ∧ n = 0) ∨
    ∃ g c cur, v = .slice (some ⟨g, 0, none⟩) n c ∧ 0 < c ∧ base ≤ g ∧ w.heap[g]? = some (.cells cur e (0, 0)) ∧ n ≤ c ∧ c ≤ maxLen ∧ c * sz ≤ cur.size ∧ cur.toList.take (n * sz) = xs)
/-- The block that a list's room lies in. -/
def roomOf : Value → Option Nat
  | .slice (some a) _ (_ + 1) => some a.block
  | _ => none
theorem room_lit (a : Addr) (n c : Nat) (h : 0 < c) : roomOf (.slice (some a) n c) = some a.block := by
  obtain ⟨c, rfl⟩ : ∃ k, c = k + 1 := ⟨c - 1, by omega⟩
  rfl
theorem room_none (a : Option Addr) (n : Nat) : roomOf (.slice a n 0) = none := by cases a <;> rfl
theorem room_nil (n c : Nat) : roomOf (.slice none n c) = none := rfl
section
variable {w w' : World} {base : Nat} {e : TypeId} {sz n : Nat} {v : Value} {xs : List Value}
theorem Own.of_owns (h : w.ownsRow base e sz v n xs) : Own w base e sz v n xs := by
  obtain ⟨h1, h2⟩ := h
  refine ⟨h1, ?_⟩
  rcases h2 with ⟨rfl, rfl⟩ | ⟨g, c, cur, rfl, hb, hg, hn, hm, hs, ht⟩
  · exact .inl ⟨_, rfl, rfl⟩
  · rcases Nat.eq_zero_or_pos c with rfl | hc
    · obtain rfl := Nat.le_zero.1 hn
      exact .inl ⟨_, rfl, rfl⟩
    · exact .inr ⟨g, c, cur, rfl, hc, hb, hg, hn, hm, by omega, ht⟩
theorem Own.nil (a : Option Addr) : Own w base e sz (.slice a 0 0) 0 [] := ⟨by simp, .inl ⟨a, rfl, rfl⟩⟩
theorem Own.len (h : Own w base e sz v n xs) : xs.length = n * sz := h.1
theorem Own.mono {base' : Nat} (h : Own w base e sz v n xs) (hb : base' ≤ base) : Own w base' e sz v n xs := by
  obtain ⟨h1, h2 | ⟨g, c, cur, hv, hc, hg, r⟩⟩ := h
  · exact ⟨h1, .inl h2⟩
  · exact ⟨h1, .inr ⟨g, c, cur, hv, hc, by omega, r⟩⟩
theorem Own.kept (h : Own w base e sz v n xs) (hk : ∀ g, roomOf v = some g → w'.heap[g]? = w.heap[g]?) : Own w' base e sz v n xs := by
  obtain ⟨h1, h2 | ⟨g, c, cur, rfl, hc, hb, hg, r⟩⟩ := h
  · exact ⟨h1, .inl h2⟩
  · exact ⟨h1, .inr ⟨g, c, cur, rfl, hc, hb, (hk g (room_lit _ _ _ hc)).trans hg, r⟩⟩
theorem Own.room (h : Own w base e sz v n xs) {g : Nat} (hg : roomOf v = some g) : base ≤ g ∧ ∃ c, w.heap[g]? = some (.cells c e (0, 0)) := by
  obtain ⟨h1, ⟨a, rfl, _⟩ | ⟨g', c, cur, rfl, hc, hb, hg', r⟩⟩ := h
  · rw [room_none] at hg
    cases hg
  · rw [room_lit _ _ _ hc] at hg
    cases hg
    exact ⟨hb, _, hg'⟩
theorem Own.lt (h : Own w base e sz v n xs) {g : Nat} (hg : roomOf v = some g) : g < w.heap.size := by
  obtain ⟨_, c, h⟩ := h.room hg
  exact (Array.getElem?_eq_some_iff.1 h).1
theorem Own.open (h : Own w base e sz v n xs) (hn : 0 < n) : ∃ g c cur, v = .slice (some ⟨g, 0, none⟩) n c ∧ base ≤ g ∧ w.heap[g]? = some (.cells cur e (0, 0)) ∧ n ≤ c ∧ c ≤ maxLen ∧ c * sz ≤ cur.size ∧ cur.toList.take (n * sz) = xs ∧ roomOf v = some g := by
  obtain ⟨h1, ⟨a, rfl, rfl⟩ | ⟨g, c, cur, rfl, hc, hb, hg, hn', hm, hs, ht⟩⟩ := h
  · omega
  · exact ⟨g, c, cur, rfl, hb, hg, hn', hm, hs, ht, room_lit _ _ _ hc⟩
theorem Own.shape (h : Own w base e sz v n xs) : ∃ a c, v = .slice a n c ∧ n ≤ c ∧ c ≤ maxLen := by
  obtain ⟨h1, ⟨a, rfl, rfl⟩ | ⟨g, c, cur, rfl, hc, hb, hg, hn', hm, hs, ht⟩⟩ := h
  · exact ⟨a, 0, rfl, by simp, by simp [maxLen]⟩
  · exact ⟨_, c, rfl, hn', hm⟩
/-- Cells of such a list. -/
theorem Own.cell (h : Own w base e sz v n xs) {a : Option Addr} {c : Nat} (hv : v = .slice a n c) {j : Nat} (hj : j < n * sz) :
    ∃ g, a = some ⟨g, 0, none⟩ ∧ roomOf v = some g ∧ w.cell? ⟨g, j, none⟩ = xs[j]? ∧ w.frozen? ⟨g, j, none⟩ = false := by
  have hn : 0 < n := by
    rcases Nat.eq_zero_or_pos n with rfl | h
    · simp at hj
    · exact h
  have hl := h.len
  obtain ⟨g, c', cur, rfl, hb, hg, hc, hm, hs, ht, hr⟩ := h.open hn
  simp only [Value.slice.injEq] at hv
  obtain ⟨rfl, _, rfl⟩ := hv
  refine ⟨g, rfl, hr, ?_, by simp [World.frozen?, hg]⟩
  rw [cell_of_row _ _ _ _ _ _ hg, ← ht, List.getElem?_take, if_pos hj]
  simp
/-- One cell of it is written. -/
theorem Own.set (h : Own w base e sz v n xs) {g : Nat} (hg : roomOf v = some g) (j : Nat) (x : Value) : Own (w.setCell ⟨g, j, none⟩ x) base e sz v n (xs.set j x) := by
  obtain ⟨h1, ⟨a, rfl, _⟩ | ⟨g', c', cur, rfl, hc, hb, hg', hn, hm, hs, ht⟩⟩ := h
  · rw [room_none] at hg
    cases hg
  · rw [room_lit _ _ _ hc] at hg
    cases hg
    refine ⟨by rw [List.length_set, h1], .inr ⟨g', c', _, rfl, hc, hb, Go.heap_setCell_same w g' j cur e x hg', hn, hm, by simpa using hs, ?_⟩⟩
    rw [Array.toList_setIfInBounds, List.take_set, ht]
theorem Own.alloc (h : Own w base e sz v n xs) (o : Obj) : Own (w.alloc o) base e sz v n xs := h.kept fun g hg => Below.heap_alloc w o g (h.lt hg)
theorem Own.below (h : Own w base e sz v n xs) (hb : Below w.heap.size w w') : Own w' base e sz v n xs := h.kept fun g hg => hb.block g (h.lt hg)
theorem Own.rdN {rows : List (List Value)} (h : Own w base e sz v n rows.flatten) (hs : ∀ r ∈ rows, r.length = sz) (hn : n = rows.length) : RdN sz w v rows := by
  subst hn
  obtain ⟨h1, ⟨a, rfl, h0⟩ | ⟨g, c, cur, rfl, hc, hb, hg, hn, hm, hcs, ht⟩⟩ := h
  · obtain rfl := List.eq_nil_of_length_eq_zero h0
    exact ⟨a, 0, rfl, by simp, by simp [maxLen], by simp, by simp, by simp⟩
  · refine ⟨_, c, rfl, hn, hm, by simp, hs, fun i r hr => ⟨g, 0, rfl, fun j x hx => ?_⟩⟩
    have hf := flat_get sz rows hs i j r x hr hx
    rw [cell_of_row _ _ _ _ _ _ hg, Nat.zero_add]
    rw [← ht, List.getElem?_take] at hf
    split at hf
    · simpa using hf
    · cases hf

/-! ### append onto it -/
/-- What an append of one more does: it stays where it is, or it goes to new memory. -/
def Grew (n : Nat) (w w' : World) (v v' : Value) : Prop :=
  (∃ g c, v = .slice (some ⟨g, 0, none⟩) n c ∧ v' = .slice (some ⟨g, 0, none⟩) (n + 1) c ∧ n + 1 ≤ c ∧ w.grownBy w' (some g)) ∨
  (∃ g c, v' = .slice (some ⟨g, 0, none⟩) (n + 1) c ∧ n + 1 ≤ c ∧ w.heap.size ≤ g ∧ w.grownBy w' none)
theorem grew_new {size : Nat} {v' : Value} {ys : List Value} (h : w'.ownsRow w.heap.size e size v' (n + 1) ys) (hg : w.grownBy w' none) : Grew n w w' v v' := by
  rcases h.2 with ⟨_, h0⟩ | ⟨g, c, cur, rfl, hb, _, hc, _⟩
  · omega
  · exact .inr ⟨g, c, rfl, hc, hb, hg⟩
end
section
variable {P : Program} (w : World)
theorem run_append_Own (base : Nat) (t ty e : TypeId) (i : TypeInfo) (z : Value) (size bytes : Nat) (ht : P.underlying t = some (.slice e)) (hi : P.info? e = some i) (hz : i.zero = some z)
    (hsize : i.size = size) (hby : i.bytes = bytes) (hzs : z.cells.size = size) (hsz : 0 < size)
    (v : Value) (n : Nat) (xs : List Value) (hown : Own w base e size v n xs)
    (ad : Addr) (c : Nat) (news : List Value) (hl : news.length = 1 * size) (hnews : ∀ j u, news[j]? = some u → w.cell? (ad.add j) = some u) (h1 : ∀ u ∈ news, u.oneCell' = true)
    (h63 : n + 1 ≤ maxLen) (hbytes : (n + 1) * bytes ≤ 140737488355328) (hbase : base ≤ w.heap.size) :
    ∃ v' w', (Builtin.append_ #[t, t] ty #[v, .slice (some ad) 1 c]).run P w = .ok v' w' ∧ Grew n w w' v v' ∧ Own w' base e size v' (n + 1) (xs ++ news) := by
  obtain ⟨hlen, ⟨a, rfl, rfl⟩ | ⟨g, cap, cur, rfl, hc, hb, hg, hn, hm, hs, htk⟩⟩ := hown
  · obtain rfl := List.eq_nil_of_length_eq_zero (by simpa using hlen)
    cases a with
    | none =>
      obtain ⟨v', w', hr, r1, r2, _⟩ := run_append_own (P := P) w w.heap.size t ty e i z size bytes ht hi hz hsize hby hzs hsz (.slice none 0 0) 0 [] (World.ownsRow_nil w _ e size) ad 1 c news hl hnews h1 h63 hbytes (Nat.le_refl _)
      exact ⟨v', w', hr, grew_new r1 r2, (Own.of_owns r1).mono hbase⟩
    | some b =>
      obtain ⟨v', w', hr, r1, r2⟩ := run_append_arg_grows (P := P) w t ty e i z size bytes ht hi hz hsize hby hzs hsz b 0 0 [] (by simp) (by simp) ad 1 c news hl hnews (by omega) h63 hbytes
      exact ⟨v', w', hr, grew_new r1 r2, (Own.of_owns r1).mono hbase⟩
  · by_cases hroom : n + 1 ≤ cap
    · subst hsize
      have hfit : n * i.size + news.length ≤ cur.size := by
        rw [hl, ← Nat.add_mul]
        exact Nat.le_trans (Nat.mul_le_mul_right _ hroom) hs
      have hr := run_append_room (P := P) w t ty e i ht hi g n cap cur hg ad 1 c news hl hnews h1 hroom hfit
      refine ⟨_, _, hr, .inl ⟨g, cap, rfl, rfl, hroom, ⟨rfl, rfl, rfl, by simp, fun k _ hk => setRow_other w g k _ (fun e => hk (by rw [e]))⟩⟩, ?_, .inr ⟨g, cap, _, rfl, hc, hb, setRow_heap w g cur _ e _ hg, hroom, hm, ?_, ?_⟩⟩
      · rw [List.length_append, hlen, hl, ← Nat.add_mul]
      · simp only [List.size_toArray, List.length_append, List.length_take, List.length_drop, Array.length_toList]
        omega
      · have hlen2 : (xs ++ news).length = (n + 1) * i.size := by rw [List.length_append, hlen, hl, ← Nat.add_mul]
        rw [htk, ← hlen2]
        exact List.take_left
    · obtain ⟨v', w', hr, r1, r2⟩ := run_append_arg_grows (P := P) w t ty e i z size bytes ht hi hz hsize hby hzs hsz ⟨g, 0, none⟩ n cap xs hlen (fun j u hu => by
        rw [Addr.add_lit, Nat.zero_add, cell_of_row _ _ _ _ _ _ hg]
        rw [← htk, List.getElem?_take] at hu
        split at hu
        · simpa using hu
        · cases hu) ad 1 c news hl hnews (by omega) h63 hbytes
      exact ⟨v', w', hr, grew_new r1 r2, (Own.of_owns r1).mono hbase⟩
theorem wpList_append_Own {ops : Array Oper} {rest : List Oper} {o : Oper} {a : Act} {Q : Exit → Act → World → Prop} (hgd : o.guard = none) (s x : Operand) (t : TypeId)
    (ho : o.op = .call { callee := .builtin .append, args := #[s, x], argTypes := #[t, t] })
    (base : Nat) (e : TypeId) (i : TypeInfo) (z : Value) (size bytes : Nat) (ht : P.underlying t = some (.slice e)) (hi : P.info? e = some i) (hz : i.zero = some z)
    (hsize : i.size = size) (hby : i.bytes = bytes) (hzs : z.cells.size = size) (hsz : 0 < size)
    (v : Value) (n : Nat) (xs : List Value) (hs : a.eval s = v) (hown : Own w base e size v n xs)
    (ad : Addr) (c : Nat) (news : List Value) (hx : a.eval x = .slice (some ad) 1 c) (hl : news.length = 1 * size) (hnews : ∀ j u, news[j]? = some u → w.cell? (ad.add j) = some u) (h1 : ∀ u ∈ news, u.oneCell' = true)
    (h63 : n + 1 ≤ maxLen) (hbytes : (n + 1) * bytes ≤ 140737488355328) (hbase : base ≤ w.heap.size)
    (h : ∀ v' w', Grew n w w' v v' → Own w' base e size v' (n + 1) (xs ++ news) → wpList P ops Q rest (a.put o.dst v') w') :
    wpList P ops Q (o :: rest) a w := by
  refine wpList_plain hgd fun K hK => ?_
  obtain ⟨v', w', hr, h2, h3⟩ := run_append_Own (P := P) w base t o.type e i z size bytes ht hi hz hsize hby hzs hsz v n xs hown ad c news hl hnews h1 h63 hbytes hbase
  unfold Oper.wp execOp
  simp only [ho, resolve, invoke, builtin, Sem.run_bind, Sem.run_pure, Result.andThen_ok, List.map_toArray, List.map_cons, List.map_nil, hs, hx, hr]
  exact hK _ _ (h v' w' h2 h3)
end

/-! ### What a Book holds -/
/-- A kind of lists: its elements' type and cells, the type of what the Book holds of a list, where in the Book, and the marks' cells. -/
structure Kd where
  e : TypeId
  sz : Nat
  tH : TypeId
  j : Nat
  mark : Nat → List Value
/-- A list that is held: it, what was put behind it, its length, its number. -/
structure It where
  v : Value
  u : Value
  n : Nat
  m : Nat
def It.row (i : It) : List Value := [i.v, i.u, .int .i64 i.m]
def marks (K : Kd) (m n : Nat) : List Value := (List.replicate n (K.mark m)).flatten
def It.has (i : It) (b : Nat) : Prop := roomOf i.v = some b ∨ roomOf i.u = some b
inductive Ph
  | kept
  | filled
  | grown
def It.at (K : Kd) (base : Nat) (w : World) (i : It) : Ph → Prop
  | .kept => i.u = .slice none 0 0 ∧ ∃ xs, Own w base K.e K.sz i.v i.n xs
  | .filled => i.u = .slice none 0 0 ∧ Own w base K.e K.sz i.v i.n (marks K i.m i.n)
  | .grown => Own w base K.e K.sz i.v i.n (marks K i.m i.n) ∧ Own w base K.e K.sz i.u (i.n + 40) (marks K i.m (i.n + 40))
theorem It.at.owns {K : Kd} {base : Nat} {w : World} {i : It} {p : Ph} (h : i.at K base w p) {b : Nat} (hb : i.has b) : base ≤ b ∧ ∃ c, w.heap[b]? = some (.cells c K.e (0, 0)) := by
  cases p with
  | kept =>
    obtain ⟨hu, xs, h⟩ := h
    rcases hb with hb | hb
    · exact h.room hb
    · rw [hu] at hb
      cases hb
  | filled =>
    obtain ⟨hu, h⟩ := h
    rcases hb with hb | hb
    · exact h.room hb
    · rw [hu] at hb
      cases hb
  | grown =>
    rcases hb with hb | hb
    · exact h.1.room hb
    · exact h.2.room hb
theorem It.at.keep {K : Kd} {base : Nat} {w w' : World} {i : It} {p : Ph} (h : i.at K base w p) (hk : ∀ b, i.has b → w'.heap[b]? = w.heap[b]?) : i.at K base w' p := by
  cases p with
  | kept =>
    obtain ⟨hu, xs, h⟩ := h
    exact ⟨hu, xs, h.kept fun g hg => hk g (.inl hg)⟩
  | filled =>
    obtain ⟨hu, h⟩ := h
    exact ⟨hu, h.kept fun g hg => hk g (.inl hg)⟩
  | grown => exact ⟨h.1.kept fun g hg => hk g (.inl hg), h.2.kept fun g hg => hk g (.inr hg)⟩
/-- What the Book holds of a kind. -/
structure KAt (K : Kd) (base : Nat) (s : Value) (its : List It) (ph : Nat → Ph) (w : World) : Prop where
  row : w.ownsRow base K.tH 3 s its.length (its.map It.row).flatten
  each : ∀ (i : Nat) (it : It), its[i]? = some it → it.at K base w (ph i) ∧ it.n ≤ 1000000 ∧ it.m ≤ 100000
  apart : ∀ (i j : Nat) (a b : It), i ≠ j → its[i]? = some a → its[j]? = some b → ∀ x, a.has x → ¬ b.has x
theorem owns_keep {w w' : World} {base : Nat} {e : TypeId} {sz : Nat} {v : Value} {n : Nat} {xs : List Value} (h : w.ownsRow base e sz v n xs) (hk : ∀ g, v.ownBlock = some g → w'.heap[g]? = w.heap[g]?) : w'.ownsRow base e sz v n xs := by
  obtain ⟨h1, h2⟩ := h
  refine ⟨h1, ?_⟩
  rcases h2 with h2 | ⟨g, cap, cur, hv, hg, hh, r⟩
  · exact .inl h2
  · exact .inr ⟨g, cap, cur, hv, hg, (hk g (by rw [hv]; rfl)).trans hh, r⟩
theorem owns_at {w : World} {base : Nat} {e : TypeId} {sz : Nat} {v : Value} {n : Nat} {xs : List Value} (h : w.ownsRow base e sz v n xs) {g : Nat} (hg : v.ownBlock = some g) : base ≤ g ∧ ∃ c, w.heap[g]? = some (.cells c e (0, 0)) := by
  rcases h.2 with ⟨e', _⟩ | ⟨g', c, cur, e', hb, hb2, _⟩
  · rw [e'] at hg
    cases hg
  · rw [e'] at hg
    cases hg
    exact ⟨hb, _, hb2⟩
section
variable {K : Kd} {base : Nat} {s : Value} {its : List It} {ph : Nat → Ph} {w w' : World}
/-- Blocks of other types turn. -/
theorem KAt.away (h : KAt K base s its ph w) {T : TypeId → Prop} (t : TnT base T w w') (he : ¬ T K.e) (hH : ¬ T K.tH) : KAt K base s its ph w' := by
  refine ⟨owns_keep h.row fun g hg => ?_, fun i it hi => ?_, h.apart⟩
  · obtain ⟨_, c, hc⟩ := owns_at h.row hg
    exact (t.keep hc hH).trans hc.symm
  · obtain ⟨h1, h2⟩ := h.each i it hi
    refine ⟨h1.keep fun b hb => ?_, h2⟩
    obtain ⟨_, c, hc⟩ := h1.owns hb
    exact (t.keep hc he).trans hc.symm
/-- Nothing old turns. -/
theorem KAt.below (h : KAt K base s its ph w) (hb : Below w.heap.size w w') : KAt K base s its ph w' :=
  h.away (T := fun _ => False) (Below.tn hb _) (fun h => h) (fun h => h)
/-- The phases on the way. -/
def stg (p q : Ph) (k i : Nat) : Ph := if i < k then q else p
theorem KAt.phase (h : KAt K base s its ph w) {ph' : Nat → Ph} (hp : ∀ i, i < its.length → ph i = ph' i) : KAt K base s its ph' w :=
  ⟨h.row, fun i it hi => by
    rw [← hp i (List.getElem?_eq_some_iff.1 hi).1]
    exact h.each i it hi, h.apart⟩
/-- One list turns, in its own room. -/
theorem KAt.turn (h : KAt K base s its ph w) {k : Nat} {it : It} (hk : its[k]? = some it) (t : Tn (fun b => it.has b) w w') (hne : K.tH ≠ K.e) {p : Ph} (hat : it.at K base w' p) {ph' : Nat → Ph} (h1 : ph' k = p) (h2 : ∀ i, i ≠ k → ph' i = ph i) : KAt K base s its ph' w' := by
  obtain ⟨a1, a2⟩ := h.each k it hk
  refine ⟨owns_keep h.row fun g hg => ?_, fun i jt hi => ?_, h.apart⟩
  · obtain ⟨_, c, hc⟩ := owns_at h.row hg
    refine t.block g (Array.getElem?_eq_some_iff.1 hc).1 fun hb => ?_
    obtain ⟨_, c', hc'⟩ := a1.owns hb
    have := hc.symm.trans hc'
    simp only [Option.some.injEq, Obj.cells.injEq] at this
    exact hne this.2.1
  · by_cases hik : i = k
    · subst hik
      rw [hk] at hi
      cases hi
      rw [h1]
      exact ⟨hat, a2⟩
    · obtain ⟨b1, b2⟩ := h.each i jt hi
      rw [h2 i hik]
      refine ⟨b1.keep fun b hb => ?_, b2⟩
      obtain ⟨_, c, hc⟩ := b1.owns hb
      exact t.block b (Array.getElem?_eq_some_iff.1 hc).1 fun hb2 => h.apart k i it jt (fun e => hik e.symm) hk hi b hb2 hb
/-- What is held of the k-th list, as cells. -/
theorem KAt.cells (h : KAt K base s its ph w) {k : Nat} {it : It} (hk : its[k]? = some it) :
    ∃ gs c, s = .slice (some ⟨gs, 0, none⟩) its.length c ∧ its.length ≤ c ∧ c ≤ maxLen ∧ w.cell? ⟨gs, k * 3, none⟩ = some it.v ∧ w.cell? ⟨gs, k * 3 + 1, none⟩ = some it.u ∧ w.cell? ⟨gs, k * 3 + 2, none⟩ = some (.int .i64 it.m) ∧ w.frozen? ⟨gs, k * 3 + 1, none⟩ = false ∧ base ≤ gs ∧ (∃ cur, w.heap[gs]? = some (.cells cur K.tH (0, 0))) := by
  have hlt := (List.getElem?_eq_some_iff.1 hk).1
  have hrow : ∀ r ∈ its.map It.row, r.length = 3 := by
    intro r hr
    obtain ⟨i, _, rfl⟩ := List.mem_map.1 hr
    rfl
  have hkr : (its.map It.row)[k]? = some it.row := by rw [List.getElem?_map, hk]; rfl
  have R := own_rdN h.row hrow (by simp)
  rcases h.row.2 with ⟨_, h0⟩ | ⟨g, c, cur, rfl, hb, hg, hn, hm, hs, ht⟩
  · omega
  · obtain ⟨a, c', hv, h1, h2, _, _, h5⟩ := R
    simp only [Value.slice.injEq] at hv
    obtain ⟨rfl, _, rfl⟩ := hv
    obtain ⟨b, o, hbo, hc⟩ := h5 k it.row hkr
    cases hbo
    refine ⟨g, c, rfl, hn, hm, ?_, ?_, ?_, by simp [World.frozen?, hg], hb, ⟨_, hg⟩⟩
    · have := hc 0 it.v rfl
      simpa using this
    · have := hc 1 it.u rfl
      simpa using this
    · have := hc 2 _ rfl
      simpa using this
theorem KAt.shape (h : KAt K base s its ph w) : ∃ a c, s = .slice a its.length c ∧ its.length ≤ c ∧ c ≤ maxLen := by
  rcases h.row.2 with ⟨rfl, h0⟩ | ⟨g, c, cur, rfl, hb, hg, hn, hm, hs, ht⟩
  · exact ⟨none, 0, by rw [h0], by omega, by simp [maxLen]⟩
  · exact ⟨_, c, rfl, hn, hm⟩
end
end Go.Proofs.YtafamnodeliaaaaGreatDoor
