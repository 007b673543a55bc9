/-
  values.deeds: what a deed is; the map of them. (Printed by gendeeds.py.)
-/
import Derived.Test.YtphlodafdkpedaaDoorValsFind
namespace Go.Proofs.YtphlodafdkpedaaDoor
open Go.RowKit
open Go

/-- What an operator makes of two things (of one: the first). -/
def semD (o : Int) (a b : VT) : VT :=
  if o = 4 then numV (wrap64 (-a.2)) else if o = 5 then yesV (!(a.2 == 1)) else if o = 6 then numV (wrap64 (a.2 + b.2)) else if o = 7 then numV (wrap64 (a.2 - b.2)) else if o = 8 then numV (wrap64 (a.2 * b.2)) else
  if o = 9 then numV (divI a.2 b.2) else if o = 10 then numV (modI a.2 b.2) else if o = 13 then yesV (decide (a.2 < b.2)) else if o = 14 then yesV (decide (a.2 ≤ b.2)) else if o = 11 then yesV (a.2 == b.2) else
  if o = 12 then yesV (!(a.2 == b.2)) else if o = 15 then yesV (a.2 == 1 && b.2 == 1) else yesV (a.2 == 1 || b.2 == 1)
def deedT : List (Int × Int × Int) := [(4, 1, 1), (5, 1, 2), (6, 2, 1), (7, 2, 1), (8, 2, 1), (9, 2, 1), (10, 2, 1), (13, 2, 1), (14, 2, 1), (11, 2, 0), (12, 2, 0), (15, 2, 2), (16, 2, 2)]
/-- Two values side by side. -/
def Pair (w : World) (bq oq : Nat) (a b : VT) : Prop := w.cell? ⟨bq, oq, none⟩ = some (.int .u8 a.1) ∧ w.cell? ⟨bq, oq + 1, none⟩ = some (.int .i64 a.2) ∧ w.cell? ⟨bq, oq + 2, none⟩ = some (.int .u8 b.1) ∧ w.cell? ⟨bq, oq + 2 + 1, none⟩ = some (.int .i64 b.2)
/-- Boxes of a closure: what is told, what is done, what is asked. -/
def Lay3 (w : World) (x y z fo fd fi : Nat) : Prop := w.cell? ⟨x, 0, none⟩ = some (fnV fo) ∧ w.cell? ⟨y, 0, none⟩ = some (fnV fd) ∧ w.cell? ⟨z, 0, none⟩ = some (fnV fi)
abbrev cloV (N x y z : Nat) : Value := .func (.func N) #[] #[.pointer (some ⟨x, 0, none⟩), .pointer (some ⟨y, 0, none⟩), .pointer (some ⟨z, 0, none⟩)]
/-- A closure of two things does what its operator should. -/
def Acts (N fo fd fi : Nat) (o : Int) : Prop := ∀ (w : World) (x y z : Nat), Lay3 w x y z fo fd fi → ∀ (bq oq c : Nat) (a b : VT), Pair w bq oq a b →
  Calls Tryd.prog N #[.slice (some ⟨bq, oq, none⟩) 2 c, .pointer (some ⟨x, 0, none⟩), .pointer (some ⟨y, 0, none⟩), .pointer (some ⟨z, 0, none⟩)] w fun e w' => e = .returned (aggV (semD o a b)) ∧ Below w.heap.size w w'
def Three (N : Nat) : Prop := N = 54 ∨ N = 55 ∨ N = 56
def Kind (w : World) (o m : Int) (fv : Value) : Prop :=
  (∃ N x y z fo fd fi, Three N ∧ fv = cloV N x y z ∧ m = 2 ∧ Lay3 w x y z fo fd fi ∧ Acts N fo fd fi o) ∨
  (fv = fnV 30 ∧ m = 1 ∧ o = 4) ∨ (fv = fnV 32 ∧ m = 1 ∧ o = 5)
theorem Lay3.mono {w w' : World} {x y z fo fd fi : Nat} (h : Lay3 w x y z fo fd fi) (hb : ∀ p v, w.cell? p = some v → w'.cell? p = some v) : Lay3 w' x y z fo fd fi := ⟨hb _ _ h.1, hb _ _ h.2.1, hb _ _ h.2.2⟩
theorem Kind.mono {w w' : World} {o m : Int} {fv : Value} (h : Kind w o m fv) (hb : ∀ p v, w.cell? p = some v → w'.cell? p = some v) : Kind w' o m fv := by
  rcases h with ⟨N, x, y, z, fo, fd, fi, h1, h2, h3, h4, h5⟩ | h | h
  · exact .inl ⟨N, x, y, z, fo, fd, fi, h1, h2, h3, h4.mono hb, h5⟩
  · exact .inr (.inl h)
  · exact .inr (.inr h)
theorem below_cells {w w' : World} (hb : Below w.heap.size w w') : ∀ p v, w.cell? p = some v → w'.cell? p = some v := fun _ _ h => (hb.cell (World.block_lt_of_cell? _ _ h)).trans h
theorem acts6 : Acts 54 31 36 35 6 := fun w x y z h bq oq cp a b p =>
  callII3_any (fun x y => wrap64 (x + y)) x y z a b bq oq cp w h.1 h.2.1 h.2.2 (fun x y w => add_any x y w) p.1 p.2.1 p.2.2.1 p.2.2.2
theorem acts7 : Acts 54 31 37 35 7 := fun w x y z h bq oq cp a b p =>
  callII4_any (fun x y => wrap64 (x - y)) x y z a b bq oq cp w h.1 h.2.1 h.2.2 (fun x y w => sub_any x y w) p.1 p.2.1 p.2.2.1 p.2.2.2
theorem acts8 : Acts 54 31 38 35 8 := fun w x y z h bq oq cp a b p =>
  callII5_any (fun x y => wrap64 (x * y)) x y z a b bq oq cp w h.1 h.2.1 h.2.2 (fun x y w => mul_any x y w) p.1 p.2.1 p.2.2.1 p.2.2.2
theorem acts9 : Acts 54 31 39 35 9 := fun w x y z h bq oq cp a b p =>
  callII6_any (divI) x y z a b bq oq cp w h.1 h.2.1 h.2.2 (fun x y w => div_any x y w) p.1 p.2.1 p.2.2.1 p.2.2.2
theorem acts10 : Acts 54 31 40 35 10 := fun w x y z h bq oq cp a b p =>
  callII7_any (modI) x y z a b bq oq cp w h.1 h.2.1 h.2.2 (fun x y w => mod_any x y w) p.1 p.2.1 p.2.2.1 p.2.2.2
theorem acts13 : Acts 55 33 42 35 13 := fun w x y z h bq oq cp a b p =>
  callIB8_any (fun x y => decide (x < y)) x y z a b bq oq cp w h.1 h.2.1 h.2.2 (fun x y w => lt_any x y w) p.1 p.2.1 p.2.2.1 p.2.2.2
theorem acts14 : Acts 55 33 43 35 14 := fun w x y z h bq oq cp a b p =>
  callIB9_any (fun x y => decide (x ≤ y)) x y z a b bq oq cp w h.1 h.2.1 h.2.2 (fun x y w => le_any x y w) p.1 p.2.1 p.2.2.1 p.2.2.2
theorem acts11 : Acts 55 33 44 35 11 := fun w x y z h bq oq cp a b p =>
  callIB10_any (fun x y => x == y) x y z a b bq oq cp w h.1 h.2.1 h.2.2 (fun x y w => eq_any x y w) p.1 p.2.1 p.2.2.1 p.2.2.2
theorem acts12 : Acts 55 33 45 35 12 := fun w x y z h bq oq cp a b p =>
  callIB11_any (fun x y => !(x == y)) x y z a b bq oq cp w h.1 h.2.1 h.2.2 (fun x y w => ne_any x y w) p.1 p.2.1 p.2.2.1 p.2.2.2
theorem acts15 : Acts 56 33 47 20 15 := fun w x y z h bq oq cp a b p =>
  callBB12_any (fun x y => x && y) x y z a b bq oq cp w h.1 h.2.1 h.2.2 (fun x y w => and_any x y w) p.1 p.2.1 p.2.2.1 p.2.2.2
theorem acts16 : Acts 56 33 48 20 16 := fun w x y z h bq oq cp a b p =>
  callBB13_any (fun x y => x || y) x y z a b bq oq cp w h.1 h.2.1 h.2.2 (fun x y w => or_any x y w) p.1 p.2.1 p.2.2.1 p.2.2.2
theorem twoII_kind (of : Int) (f g h : Nat) (o : Int) (ha : Acts 54 g h f o) (w : World) : Calls Tryd.prog 34 #[.int .u8 of, fnV f, fnV g, fnV h] w fun e w' =>
    (∃ x y z, e = .returned (deedV 2 of (cloV 54 x y z)) ∧ Kind w' o 2 (cloV 54 x y z)) ∧ Below w.heap.size w w' :=
  (twoII_any of f g h w).mono fun _ _ ⟨he, hb, h1, h2, h3⟩ => ⟨⟨_, _, _, he, .inl ⟨_, _, _, _, _, _, _, .inl rfl, rfl, rfl, ⟨h2, h3, h1⟩, ha⟩⟩, hb⟩
theorem twoIB_kind (of : Int) (f g h : Nat) (o : Int) (ha : Acts 55 g h f o) (w : World) : Calls Tryd.prog 41 #[.int .u8 of, fnV f, fnV g, fnV h] w fun e w' =>
    (∃ x y z, e = .returned (deedV 2 of (cloV 55 x y z)) ∧ Kind w' o 2 (cloV 55 x y z)) ∧ Below w.heap.size w w' :=
  (twoIB_any of f g h w).mono fun _ _ ⟨he, hb, h1, h2, h3⟩ => ⟨⟨_, _, _, he, .inl ⟨_, _, _, _, _, _, _, .inr (.inl rfl), rfl, rfl, ⟨h2, h3, h1⟩, ha⟩⟩, hb⟩
theorem twoBB_kind (of : Int) (f g h : Nat) (o : Int) (ha : Acts 56 g h f o) (w : World) : Calls Tryd.prog 46 #[.int .u8 of, fnV f, fnV g, fnV h] w fun e w' =>
    (∃ x y z, e = .returned (deedV 2 of (cloV 56 x y z)) ∧ Kind w' o 2 (cloV 56 x y z)) ∧ Below w.heap.size w w' :=
  (twoBB_any of f g h w).mono fun _ _ ⟨he, hb, h1, h2, h3⟩ => ⟨⟨_, _, _, he, .inl ⟨_, _, _, _, _, _, _, .inr (.inr rfl), rfl, rfl, ⟨h2, h3, h1⟩, ha⟩⟩, hb⟩
abbrev Ent := Int × Int × Int × Value
def entV (e : Ent) : Int × Value := (e.1, deedV e.2.1 e.2.2.1 e.2.2.2)
def keyV (e : Ent) : Int × Int × Int := (e.1, e.2.1, e.2.2.1)
structure MapD (w : World) (bm : Nat) (L : List Ent) (wr : World) : Prop where
  bel : Below w.heap.size w wr
  ge : w.heap.size ≤ bm
  map : wr.heap[bm]? = some (mapO .u8 (L.map entV))
  kind : ∀ e ∈ L, Kind wr e.1 e.2.1 e.2.2.2
theorem MapD.below {w : World} {bm : Nat} {L : List Ent} {wr w1 : World} (h : MapD w bm L wr) (hb : Below wr.heap.size wr w1) : MapD w bm L w1 :=
  ⟨bnext h.bel hb, h.ge, (hb.block _ (lt_of_block h.map)).trans h.map, fun e he => (h.kind e he).mono (below_cells hb)⟩
theorem getV_none (L : List Ent) (x : Int) (h : (L.map keyV).all (fun k => k.1 != x) = true) : getV (L.map entV) x = none := by
  unfold getV
  rw [List.find?_eq_none.2 ?_]
  · rfl
  intro e he
  obtain ⟨e', he', rfl⟩ := List.mem_map.1 he
  have := List.all_eq_true.1 h _ (List.mem_map.2 ⟨e', he', rfl⟩)
  simpa [entV, keyV] using this
theorem cell_putMap (w : World) (bm : Nat) (k : IntKind) (l : List (Int × Value)) (o : Obj) (h : w.heap[bm]? = some (mapO k l)) (p : Addr) (v : Value) (hv : w.cell? p = some v) : (w.putObj bm o).cell? p = some v := by
  have hne : p.block ≠ bm := by
    intro e
    obtain ⟨b, off, s⟩ := p
    simp only at e
    subst e
    rw [World.cell?] at hv
    simp [h, mapO] at hv
  rw [← hv]
  refine World.cell?_of_block (w := w) ?_
  simp only [World.putObj]
  rw [Array.getElem?_setIfInBounds_ne (Ne.symm hne)]
theorem MapD.put {w : World} {bm : Nat} {L : List Ent} {wr : World} (h : MapD w bm L wr) (e : Ent) (hn : (L.map keyV).all (fun k => k.1 != e.1) = true) (hk : Kind wr e.1 e.2.1 e.2.2.2) :
    ∃ w2, (Instr.mapUpdate 49 (.map (some bm)) (.int .u8 e.1) (deedV e.2.1 e.2.2.1 e.2.2.2)).run Tryd.prog wr = .ok () w2 ∧ MapD w bm (L ++ [e]) w2 := by
  have h1 := run_insert_int (P := Tryd.prog) wr 49 29 47 .u8 Tryd.underlying49 Tryd.underlying29 bm (L.map entV) h.map e.1 (deedV e.2.1 e.2.2.1 e.2.2.2) (getV_none L e.1 hn)
  have hlt := lt_of_block h.map
  have hsz : ∀ o, (wr.putObj bm o).heap.size = wr.heap.size := fun o => by simp [World.putObj]
  have hc := cell_putMap wr bm .u8 (L.map entV) (mapO .u8 (L.map entV ++ [(e.1, deedV e.2.1 e.2.2.1 e.2.2.2)])) h.map
  refine ⟨_, h1, ⟨h.bel.os, h.bel.tape, h.bel.output, by rw [hsz]; exact h.bel.size, fun k hk => ?_⟩, h.ge, ?_, ?_⟩
  · rw [← h.bel.block k hk]
    simp only [World.putObj]
    have := h.ge
    rw [Array.getElem?_setIfInBounds_ne (by omega)]
  · simp only [World.putObj]
    rw [Array.getElem?_setIfInBounds_self_of_lt hlt]
    simp [entV]
  · intro x hx
    rcases List.mem_append.1 hx with hx | hx
    · exact (h.kind x hx).mono hc
    · obtain rfl := List.mem_singleton.1 hx
      exact hk.mono hc
theorem MapD.start (w : World) : MapD w w.heap.size [] (w.alloc (mapO .u8 [])) :=
  ⟨balloc (Below.refl _ _) _, Nat.le_refl _, heap_alloc_new _ _, by simp⟩
end Go.Proofs.YtphlodafdkpedaaDoor
