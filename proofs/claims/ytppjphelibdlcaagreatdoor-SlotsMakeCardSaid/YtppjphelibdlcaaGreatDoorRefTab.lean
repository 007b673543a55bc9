/-
  The walk of tight: the table of a guard.
-/
import Derived.Test.YtppjphelibdlcaaGreatDoorSlotsLives
import Derived.OwnWalk
namespace Go.Proofs.YtppjphelibdlcaaGreatDoor
open Go.RowKit
open Go

/-- The blocks of a call of tight: setup, answer, table, and the row that the table's slots own. -/
def RTInv (bit near far drift bad g : Int) (w : World) (v : Value) (k : Nat) (rs : List (Int × Int × Int)) (wr : World) : Prop :=
  wr.heap[w.heap.size]? = some (.cells #[.int .i64 bit, .int .i64 near, .int .i64 far, .int .i64 drift, .int .i64 bad] 23 (0, 0)) ∧
  wr.heap[w.heap.size + 1]? = some (.cells #[.slice none 0 0, .int .i64 0, .int .i64 0] 27 (0, 0)) ∧
  wr.heap[w.heap.size + 1 + 1]? = some (.cells #[v, .int .i64 0, .int .i64 g] 27 (0, 0)) ∧
  wr.ownsRow (w.heap.size + 3) 64 3 v k (rowsC rs) ∧ Below w.heap.size w wr

theorem own_setRow_belowT {w : World} {base : Nat} {e : TypeId} {size : Nat} {v : Value} {n : Nat} {xs : List Value} (h : w.ownsRow base e size v n xs) {g : Nat} (hg : g < base) (cs : Array Value) : (w.setRow g cs).ownsRow base e size v n xs := by
  refine ⟨h.1, ?_⟩
  rcases h.2 with h0 | ⟨b, c, cur, hv, hb, hh, hr⟩
  · exact .inl h0
  · exact .inr ⟨b, c, cur, hv, hb, (setRow_other w g b cs (by omega)).trans hh, hr⟩
theorem own_belowT {w w' : World} {base : Nat} {e : TypeId} {size : Nat} {v : Value} {n : Nat} {xs : List Value} (h : w.ownsRow base e size v n xs) (hb : Below w.heap.size w w') : w'.ownsRow base e size v n xs := by
  refine ⟨h.1, ?_⟩
  rcases h.2 with h2 | ⟨g, c, cur, hv, h1, hg, r⟩
  · exact .inl h2
  · exact .inr ⟨g, c, cur, hv, h1, (hb.block g (lt_of_block hg)).trans hg, r⟩
theorem own_rdT {w : World} {base : Nat} {e : TypeId} {v : Value} {n : Nat} {rs : List (Int × Int × Int)} (h : w.ownsRow base e 3 v n (rowsC rs)) (hn : n = rs.length) : RdN 3 w v (rs.map row3) := by
  subst hn
  rcases h.2 with ⟨rfl, h0⟩ | ⟨b, c, cur, rfl, _, hh, hc, hm, hs, ht⟩
  · obtain rfl := List.eq_nil_of_length_eq_zero h0
    exact ⟨none, 0, rfl, by simp, by simp [maxLen], by simp, by simp, by simp⟩
  · refine ⟨_, c, by rw [List.length_map], by simpa using hc, hm, by simp, fun r hr => ?_, fun i r hi => ⟨b, 0, rfl, fun j x hx => ?_⟩⟩
    · obtain ⟨x, _, rfl⟩ := List.mem_map.1 hr
      rfl
    · rw [List.getElem?_map] at hi
      obtain ⟨y, hy, rfl⟩ := Option.map_eq_some_iff.1 hi
      obtain ⟨hlt, rfl⟩ := List.getElem?_eq_some_iff.1 hy
      have hj : j < 3 := (List.getElem?_eq_some_iff.1 hx).1
      have hg := rowsC_get rs i j hj hlt
      rw [hx, ← ht, List.getElem?_take] at hg
      rw [Nat.zero_add, cell_of_row w b _ _ _ _ hh]
      split at hg
      · simpa using hg
      · cases hg
theorem own_formT {w : World} {base : Nat} {e : TypeId} {size : Nat} {v : Value} {n : Nat} {xs : List Value} (h : w.ownsRow base e size v n xs) (hn : 0 < n) : ∃ g c, v = .slice (some ⟨g, 0, none⟩) n c := by
  rcases h.2 with ⟨_, h0⟩ | ⟨g, c, _, rfl, _⟩
  · omega
  · exact ⟨g, c, rfl⟩
theorem cells_newT (w : World) (ys : List Value) (t : TypeId) : ∀ j u, ys[j]? = some u → (w.alloc (.cells ys.toArray t)).cell? (Addr.add ⟨w.heap.size, 0, none⟩ j) = some u := fun j u hu => by
  rw [Addr.add_lit, Nat.zero_add, cell_of_row _ _ j _ _ _ (heap_alloc_new _ _), List.getElem?_toArray, hu]

set_option maxHeartbeats 4000000 in
theorem rtable_any (bit near far drift bad g : Int) (v : Value) (l : List Int) (w : World) (h : Rd w v (ints l)) (hb0 : 1 ≤ bit) (hb1 : bit ≤ 1000000) (hf0 : 0 ≤ far) (hf1 : far ≤ 1000000) (hg0 : 0 ≤ g) (hg1 : g ≤ 1073741824)
    (h8 : l.length ≤ 8) (hl : ∀ n ∈ l, 1 ≤ n ∧ n ≤ 100000) :
    Calls Tryz.prog 24 #[.agg #[.int .i64 bit, .int .i64 near, .int .i64 far, .int .i64 drift, .int .i64 bad], v, .int .i64 g] w fun e w' =>
      ∃ u, e = .returned (tblV u (sumS bit far g l) g) ∧ w'.ownsRow (w.heap.size + 3) 64 3 u l.length (rowsC (rowsS bit far g 0 l)) ∧ Below w.heap.size w w' := by
  obtain ⟨a, c, rfl, hc, hm⟩ := h.shape
  unfold maxLen at hm
  go_enter Tryz.func24, Tryz.ntmps24
  go_wp2_with fail
  have I0 : RTInv bit near far drift bad g w (.slice none 0 0) 0 [] (((w.alloc (Obj.cells #[Value.int IntKind.i64 bit, Value.int IntKind.i64 near, Value.int IntKind.i64 far, Value.int IntKind.i64 drift, Value.int IntKind.i64 bad] 23)).alloc
      (Obj.cells #[Value.slice none 0 0, Value.int IntKind.i64 0, Value.int IntKind.i64 0] 27)).alloc (Obj.cells #[Value.slice none 0 0, Value.int IntKind.i64 0, Value.int IntKind.i64 g] 27)) := by
    refine ⟨?_, ?_, ?_, ⟨by simp, .inl ⟨rfl, rfl⟩⟩, balloc (balloc (balloc (Below.refl _ _) _) _) _⟩
    · rw [heap_alloc_old (h := by simp; omega)]
      exact heap_alloc2_old w _ _
    · rw [heap_alloc_old (h := by simp)]
      exact heap_alloc2_new w _ _
    · exact new_at _ _ _ (by simp)
  generalize ((w.alloc _).alloc _).alloc _ = w3 at *
  obtain ⟨i0, hi, hz0, hz1, hz2⟩ := info_parts info39
  go_loopg [8, 9] l.length (fun gk at_ i wr => ∃ (k : Nat) (v : Value), k + gk = l.length ∧ i = .int .i64 k ∧ at_ = .int .i64 (sumS bit far g (l.take k)) ∧ RTInv bit near far drift bad g w v k (rowsS bit far g 0 (l.take k)) wr)
  case atStart => exact ⟨0, _, by omega, rfl, rfl, I0⟩
  case round =>
    obtain ⟨k, v, hkg, rfl, rfl, s0, r0, t0, own, B⟩ := hrel
    have S0 := Lib.hid s0
    have R0 := Lib.hid r0
    have T0 := Lib.hid t0
    obtain ⟨c0, _, c2, _, _⟩ := cells5 s0
    obtain ⟨d0, d1, d2⟩ := cells3 t0
    cases gk with
    | zero =>
      obtain rfl : k = l.length := by omega
      have f1 := frozen_of_row wr (w.heap.size + 1 + 1) 1 _ _ t0
      have T1 := Lib.hid (heap_setCell_same wr (w.heap.size + 1 + 1) 1 _ _ (.int .i64 (sumS bit far g (l.take l.length))) t0)
      have R1 := Lib.hid ((heap_setCell_other wr ⟨w.heap.size + 1 + 1, 1, none⟩ (w.heap.size + 1) (.int .i64 (sumS bit far g (l.take l.length))) (by simp)).trans r0)
      have ow := own.lt
      obtain ⟨vs, hvs⟩ : ∃ x, x = v := ⟨_, rfl⟩
      have OWN := Lib.hid own
      have OB := Lib.hid ow
      have oc : v.oneCell' = true := by
        rcases own.2 with ⟨rfl, _⟩ | ⟨_, _, _, rfl, _⟩ <;> rfl
      clear own ow s0 r0 t0 c0 c2
      generalize hA : sumS bit far g (l.take l.length) = A at *
      have B2 := B.setCell (p := ⟨w.heap.size + 1 + 1, 1, none⟩) (by show _ ≤ w.heap.size + 1 + 1; omega) (.int .i64 A)
      go_wp2_with (first | (refine wpList_load_row rfl 27 _ rfl (w.heap.size + 1 + 1) rfl _ _ _ _ T1.out Tryz.underlying27 rfl info29 ?_) | (refine wpList_store_row rfl 27 _ _ rfl (w.heap.size + 1) _ rfl rfl _ _ R1.out info29 rfl (oc_tab _ _ _ oc) ?_))
      have hsz := B2.size
      refine bodyPost_ret (results_cell_row Tryz.results24 _ _ (w.heap.size + 1) _ _ _ _ rfl (setRow_heap _ _ _ _ _ _ R1.out) Tryz.underlying27 rfl info29) rfl ⟨v, ?_, ?_, below_setRow B2 (by omega) _⟩
      · rw [List.take_length] at hA
        rw [hA]
        rfl
      · have o1 := ownsRow_setCell_below OWN.out (a := ⟨w.heap.size + 1 + 1, 1, none⟩) (by show w.heap.size + 1 + 1 < w.heap.size + 3; omega) (.int .i64 A)
        have o2 := own_setRow_belowT o1 (g := w.heap.size + 1) (by omega) #[v, .int .i64 A, .int .i64 g]
        rw [List.take_length] at o2
        exact o2
    | succ gk =>
      have hlt : k < l.length := by omega
      obtain ⟨b, o, rfl, hcl⟩ := h.get k hlt
      have x0 := (B.cell (p := ⟨b, o + k, none⟩) (World.block_lt_of_cell? w _ hcl)).trans hcl
      obtain ⟨p0, p1⟩ := slot1_in hb0 hb1 (hl _ (List.getElem_mem hlt)).1 (hl _ (List.getElem_mem hlt)).2
      obtain ⟨a0, a1⟩ := sum_8 (bit := bit) (far := far) (g := g) (l.take k) hb0 hb1 hf0 hf1 hg0 hg1 (by simp; omega) (fun n hn => hl n (List.mem_of_mem_take hn))
      have HSN := Lib.hid (sumS_snoc bit far g l k hlt)
      have HRN := Lib.hid (rowsS_snoc bit far g l k hlt)
      have HL := Lib.hid hl
      clear hl hcl s0 r0 t0
      generalize hA : sumS bit far g (l.take k) = A at *
      generalize l[k] = n at *
      have e0 := (World.cell?_alloc_lt wr (Obj.cells #[Value.int IntKind.i64 0, Value.int IntKind.i64 0, Value.int IntKind.i64 0] 64) _ (World.block_lt_of_cell? wr _ c0)).trans c0
      have e2 := (World.cell?_alloc_lt wr (Obj.cells #[Value.int IntKind.i64 0, Value.int IntKind.i64 0, Value.int IntKind.i64 0] 64) _ (World.block_lt_of_cell? wr _ c2)).trans c2
      have ex := (World.cell?_alloc_lt wr (Obj.cells #[Value.int IntKind.i64 0, Value.int IntKind.i64 0, Value.int IntKind.i64 0] 64) _ (World.block_lt_of_cell? wr _ x0)).trans x0
      go_wp2_with fail
      go_region
      clear e0 e2 ex c0 c2 d0 d1 d2 x0
      have hsl : slot1 bit far g n = g + n * bit + far + g := rfl
      obtain ⟨S, hS⟩ : ∃ S, S = A + g + n * bit + far + g := ⟨_, rfl⟩
      have hS' : A + slot1 bit far g n = S := by omega
      rw [← hS]
      have ob := own.lt
      obtain ⟨ys, hys⟩ : ∃ ys : List Value, ys = [.int .i64 A, .int .i64 (A + g), .int .i64 S] := ⟨_, rfl⟩
      have own5 : (wr.alloc (Obj.cells #[Value.int IntKind.i64 A, Value.int IntKind.i64 (A + g), Value.int IntKind.i64 S] 64)).drew.ownsRow (w.heap.size + 3) 64 3 v k (rowsC (rowsS bit far g 0 (l.take k))) := (own.alloc _).drew
      have s5 : (wr.alloc (Obj.cells #[Value.int IntKind.i64 A, Value.int IntKind.i64 (A + g), Value.int IntKind.i64 S] 64)).drew.heap[w.heap.size]? = _ := (heap_alloc_old (h := lt_of_block S0.out) wr (Obj.cells #[Value.int IntKind.i64 A, Value.int IntKind.i64 (A + g), Value.int IntKind.i64 S] 64)).trans S0.out
      have r5 : (wr.alloc (Obj.cells #[Value.int IntKind.i64 A, Value.int IntKind.i64 (A + g), Value.int IntKind.i64 S] 64)).drew.heap[w.heap.size + 1]? = _ := (heap_alloc_old (h := lt_of_block R0.out) wr (Obj.cells #[Value.int IntKind.i64 A, Value.int IntKind.i64 (A + g), Value.int IntKind.i64 S] 64)).trans R0.out
      have t5 : (wr.alloc (Obj.cells #[Value.int IntKind.i64 A, Value.int IntKind.i64 (A + g), Value.int IntKind.i64 S] 64)).drew.heap[w.heap.size + 1 + 1]? = _ := (heap_alloc_old (h := lt_of_block T0.out) wr (Obj.cells #[Value.int IntKind.i64 A, Value.int IntKind.i64 (A + g), Value.int IntKind.i64 S] 64)).trans T0.out
      have x5 : (wr.alloc (Obj.cells #[Value.int IntKind.i64 A, Value.int IntKind.i64 (A + g), Value.int IntKind.i64 S] 64)).drew.heap[wr.heap.size]? = _ := heap_alloc_new wr (Obj.cells #[Value.int IntKind.i64 A, Value.int IntKind.i64 (A + g), Value.int IntKind.i64 S] 64)
      have B5 := bdraw (balloc B (Obj.cells #[Value.int IntKind.i64 A, Value.int IntKind.i64 (A + g), Value.int IntKind.i64 S] 64)) 1
      replace B5 : Below w.heap.size w (wr.alloc (Obj.cells #[Value.int IntKind.i64 A, Value.int IntKind.i64 (A + g), Value.int IntKind.i64 S] 64)).drew := B5
      have hwr : w.heap.size + 3 ≤ wr.heap.size := by have := lt_of_block T0.out; omega
      generalize (wr.alloc (Obj.cells #[Value.int IntKind.i64 A, Value.int IntKind.i64 (A + g), Value.int IntKind.i64 S] 64)).drew = w5 at *
      have hw5 := lt_of_block x5
      obtain ⟨d0, _, _⟩ := cells3 t5
      obtain ⟨z0, z1, z2⟩ := cells3 x5
      have OWN := Lib.hid (own5.alloc (Obj.cells #[Value.int IntKind.i64 A, Value.int IntKind.i64 (A + g), Value.int IntKind.i64 S] 64))
      have S5 := Lib.hid s5
      have R5 := Lib.hid r5
      have T5 := Lib.hid t5
      have X5 := Lib.hid x5
      have OB := Lib.hid ob
      clear s5 r5 t5 x5 own own5 S0 R0 T0 ob hys ys hS hA
      have KEEP : Hid (∀ w7, (w5.alloc (Obj.cells #[Value.int IntKind.i64 A, Value.int IntKind.i64 (A + g), Value.int IntKind.i64 S] 64)).grownBy w7 v.ownBlock → ∀ k' x, w5.heap[k']? = some x → (k' < w.heap.size + 3 ∨ k' = wr.heap.size) → w7.heap[k']? = some x) := by
        intro w7 g7 k' x hx hk'
        refine (g7.block k' (by have := lt_of_block hx; simp; omega) (fun e => ?_)).trans ((heap_alloc_old (h := lt_of_block hx) w5 _).trans hx)
        have := OB.out k' e.symm
        omega
      go_wp2_with (at_builtin; refine wpList_append_own _ rfl _ _ 25 rfl (w.heap.size + 3) 64 i0 _ 3 24 Tryz.underlying25 hi hz0 hz1 hz2 rfl (by decide) v k _ rfl OWN.out ⟨w5.heap.size, 0, none⟩ 1 1 [.int .i64 A, .int .i64 (A + g), .int .i64 S] rfl rfl (cells_newT _ _ _) oc3 (by unfold maxLen; omega) (by omega) (by simp; omega) ?_; intro v7 w7 own7 g7 _; have ⟨ga, cp, hv7⟩ := own_formT own7 (by omega); subst hv7; have T7 := KEEP.out w7 g7 _ _ T5.out (.inl (by omega)); have ⟨f0, _, _⟩ := cells3 T7; have q0 := frozen_of_row w7 (w.heap.size + 1 + 1) 0 _ _ T7; have X7 := KEEP.out w7 g7 _ _ X5.out (.inr rfl); have G7 := Lib.hid g7; have O7 := Lib.hid own7; have x8 := (heap_setCell_other w7 ⟨w.heap.size + 1 + 1, 0, none⟩ wr.heap.size (.slice (some ⟨ga, 0, none⟩) (k + 1) cp) (by simp; omega)).trans X7; have ⟨_, _, y2⟩ := cells3 x8; clear g7 own7 X7 x8)
      go_roundg gk
      case measure => omega
      case rel =>
        refine ⟨k + 1, .slice (some ⟨ga, 0, none⟩) (k + 1) cp, by omega, by go_num, by rw [HSN.out, hS'], ?_, ?_, ?_, ?_, ?_⟩
        · exact (heap_setCell_other w7 ⟨w.heap.size + 1 + 1, 0, none⟩ w.heap.size _ (by simp; omega)).trans (KEEP.out w7 G7.out _ _ S5.out (.inl (by omega)))
        · exact (heap_setCell_other w7 ⟨w.heap.size + 1 + 1, 0, none⟩ (w.heap.size + 1) _ (by simp)).trans (KEEP.out w7 G7.out _ _ R5.out (.inl (by omega)))
        · exact heap_setCell_same w7 (w.heap.size + 1 + 1) 0 _ _ _ T7
        · have := ownsRow_setCell_below O7.out (a := ⟨w.heap.size + 1 + 1, 0, none⟩) (by show w.heap.size + 1 + 1 < w.heap.size + 3; omega) (.slice (some ⟨ga, 0, none⟩) (k + 1) cp)
          rw [HRN.out, hS']
          simpa [rowsC, row3] using this
        · refine ((balloc B5 _).grown G7.out (by have := B5.size; simp; omega) (fun j hj => ?_)).setCell (p := ⟨w.heap.size + 1 + 1, 0, none⟩) (by show _ ≤ w.heap.size + 1 + 1; omega) _
          have := OB.out j hj
          omega
end Go.Proofs.YtppjphelibdlcaaGreatDoor
