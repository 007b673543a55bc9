/-
  The walk of slots.Make.
-/
import Derived.Test.YtppjphelibdlcaaGreatDoorSlotsFits
import Derived.Test.YtppjphelibdlcaaGreatDoorCopyN
import Derived.WalkMore
import Derived.Deep.LoopGhost
namespace Go.Proofs.YtppjphelibdlcaaGreatDoor
open Go.RowKit
open Go

/-- Does a guard do? -/
abbrev okG (bit near far drift : Int) (l : List Int) (g : Int) : Prop := skI near far drift (sumS bit far g l) ≤ g
/-- A table, as a value; its slots, as cells. -/
abbrev tblV (v : Value) (r g : Int) : Value := .agg #[v, .int .i64 r, .int .i64 g]
abbrev rowsC (rs : List (Int × Int × Int)) : List Value := rs.flatMap row3
/-- What Make answers. -/
def madeBy (bit near far drift bad : Int) (l : List Int) (w : World) (e : Ending) (w' : World) : Prop :=
  (mayB bit near far drift bad l = false ∧ e = .returned (.tuple #[tblV (.slice none 0 0) 0 0, .int .i64 1])) ∨
  (mayB bit near far drift bad l = true ∧ (∃ (b : Nat) (G : Int), w.heap.size ≤ b ∧ 0 ≤ G ∧ G ≤ 1073741824 ∧ okG bit near far drift l G ∧ (∀ g, 0 ≤ g → okG bit near far drift l g → G ≤ g) ∧
    e = .returned (.tuple #[tblV (.slice (some ⟨b, 0, none⟩) l.length l.length) (sumS bit far G l) G, .int .i64 0]) ∧ w'.heap[b]? = some (.cells (rowsC (rowsS bit far G 0 l)).toArray 64 (0, 0)))) ∨
  (mayB bit near far drift bad l = true ∧ (∀ g, 0 ≤ g → okG bit near far drift l g → 1073741824 < g) ∧ e = .returned (.tuple #[tblV (.slice none 0 0) 0 0, .int .i64 10]))

theorem oc_tab (v : Value) (x y : Int) (h : v.oneCell' = true) : (#[v, .int .i64 x, .int .i64 y] : Array Value).all (·.oneCell') = true := by simp [h]; exact ⟨rfl, rfl⟩
theorem info39 : (Tryz.prog.info? 64).map (fun i => (i.zero, i.size, i.bytes)) = some (some (.agg #[.int .i64 0, .int .i64 0, .int .i64 0]), 3, 24) := by kernel_rfl
theorem info39s : (Tryz.prog.info? 64).map (·.size) = some 3 := by kernel_rfl
theorem oc3 {x y z : Int} : ∀ v ∈ [Value.int .i64 x, .int .i64 y, .int .i64 z], v.oneCell' = true := by
  intro v hv
  simp at hv
  rcases hv with rfl | rfl | rfl <;> rfl
theorem info29 : (Tryz.prog.info? 27).map (·.size) = some 3 := by kernel_rfl

/-- The blocks of a call of Make that has come to its loop: setup, answer, row, slots, table. -/
def MInv (bit near far drift bad : Int) (len : Nat) (cs0 : List Value) (w : World) (n1 : Nat) (cur : List Value) (R G : Int) (wr : World) : Prop :=
  wr.heap[w.heap.size]? = some (.cells #[.int .i64 bit, .int .i64 near, .int .i64 far, .int .i64 drift, .int .i64 bad] 23 (0, 0)) ∧
  wr.heap[w.heap.size + 1]? = some (.cells #[.slice none 0 0, .int .i64 0, .int .i64 0] 27 (0, 0)) ∧
  wr.heap[n1]? = some (.cells cur.toArray 67 (0, 0)) ∧ cur.length = 24 ∧
  wr.heap[n1 + 1]? = some (.cells cs0.toArray 64 (0, 0)) ∧
  wr.heap[n1 + 1 + 1]? = some (.cells #[.slice (some ⟨n1 + 1, 0, none⟩) len len, .int .i64 R, .int .i64 G] 27 (0, 0)) ∧
  w.heap.size + 2 ≤ n1 ∧ Below w.heap.size w wr
section
variable {bit near far drift bad : Int} {len : Nat} {cs0 : List Value} {w : World} {n1 : Nat} {cur : List Value} {R G : Int} {wr : World}
theorem MInv.row (h : MInv bit near far drift bad len cs0 w n1 cur R G wr) (o : Nat) (vs : List Value) (hv : o + vs.length ≤ 24) : MInv bit near far drift bad len cs0 w n1 (splice cur o vs) R G (wr.setCells n1 o vs) := by
  obtain ⟨h1, h2, h3, h4, h5, h6, h7, h8⟩ := h
  have o1 : ∀ k x, wr.heap[k]? = some x → k ≠ n1 → (wr.setCells n1 o vs).heap[k]? = some x := fun k x hk hne => (World.heap_setCells_other wr n1 o vs (lt_of_block hk) hne).trans hk
  exact ⟨o1 _ _ h1 (by omega), o1 _ _ h2 (by omega), heap_setCells_row n1 _ vs o wr cur h3 (by omega), by rw [length_splice _ _ _ (by omega)]; exact h4, o1 _ _ h5 (by omega), o1 _ _ h6 (by omega), h7, below_setCells (by omega) vs o wr h8⟩
theorem MInv.tab (h : MInv bit near far drift bad len cs0 w n1 cur R G wr) (j : Nat) (x : Int) (R' G' : Int)
    (hj : (#[.slice (some ⟨n1 + 1, 0, none⟩) len len, .int .i64 R, .int .i64 G] : Array Value).setIfInBounds j (.int .i64 x) = #[.slice (some ⟨n1 + 1, 0, none⟩) len len, .int .i64 R', .int .i64 G']) :
    MInv bit near far drift bad len cs0 w n1 cur R' G' (wr.setCell ⟨n1 + 1 + 1, j, none⟩ (.int .i64 x)) := by
  obtain ⟨h1, h2, h3, h4, h5, h6, h7, h8⟩ := h
  have o1 : ∀ k x', wr.heap[k]? = some x' → k ≠ n1 + 1 + 1 → (wr.setCell ⟨n1 + 1 + 1, j, none⟩ (.int .i64 x)).heap[k]? = some x' := fun k x' hk hne => (heap_setCell_other wr ⟨n1 + 1 + 1, j, none⟩ k _ hne).trans hk
  exact ⟨o1 _ _ h1 (by omega), o1 _ _ h2 (by omega), o1 _ _ h3 (by omega), h4, o1 _ _ h5 (by omega), (heap_setCell_same wr (n1 + 1 + 1) j _ _ _ h6).trans (by rw [hj]), h7, h8.setCell (p := ⟨n1 + 1 + 1, j, none⟩) (by show _ ≤ n1 + 1 + 1; omega) _⟩
theorem MInv.below (h : MInv bit near far drift bad len cs0 w n1 cur R G wr) {w2 : World} (hb : Below wr.heap.size wr w2) : MInv bit near far drift bad len cs0 w n1 cur R G w2 := by
  obtain ⟨h1, h2, h3, h4, h5, h6, h7, h8⟩ := h
  have o1 : ∀ k x, wr.heap[k]? = some x → w2.heap[k]? = some x := fun k x hk => (hb.block k (lt_of_block hk)).trans hk
  exact ⟨o1 _ _ h1, o1 _ _ h2, o1 _ _ h3, h4, o1 _ _ h5, o1 _ _ h6, h7, bnext h8 hb⟩
theorem MInv.setup (h : MInv bit near far drift bad len cs0 w n1 cur R G wr) : wr.heap[w.heap.size]? = some (.cells #[.int .i64 bit, .int .i64 near, .int .i64 far, .int .i64 drift, .int .i64 bad] 23 (0, 0)) := h.1
theorem MInv.ans (h : MInv bit near far drift bad len cs0 w n1 cur R G wr) : wr.heap[w.heap.size + 1]? = some (.cells #[.slice none 0 0, .int .i64 0, .int .i64 0] 27 (0, 0)) := h.2.1
theorem MInv.rows (h : MInv bit near far drift bad len cs0 w n1 cur R G wr) : wr.heap[n1]? = some (.cells cur.toArray 67 (0, 0)) := h.2.2.1
theorem MInv.slots (h : MInv bit near far drift bad len cs0 w n1 cur R G wr) : wr.heap[n1 + 1]? = some (.cells cs0.toArray 64 (0, 0)) := h.2.2.2.2.1
theorem MInv.table (h : MInv bit near far drift bad len cs0 w n1 cur R G wr) : wr.heap[n1 + 1 + 1]? = some (.cells #[.slice (some ⟨n1 + 1, 0, none⟩) len len, .int .i64 R, .int .i64 G] 27 (0, 0)) := h.2.2.2.2.2.1
theorem MInv.size24 (h : MInv bit near far drift bad len cs0 w n1 cur R G wr) : cur.length = 24 := h.2.2.2.1
theorem MInv.at (h : MInv bit near far drift bad len cs0 w n1 cur R G wr) : w.heap.size + 2 ≤ n1 := h.2.2.2.2.2.2.1
theorem MInv.bel (h : MInv bit near far drift bad len cs0 w n1 cur R G wr) : Below w.heap.size w wr := h.2.2.2.2.2.2.2
end

theorem rowsC_len (rs : List (Int × Int × Int)) : (rowsC rs).length = rs.length * 3 := by
  induction rs with
  | nil => rfl
  | cons x rs ih =>
    simp only [rowsC, List.flatMap_cons, List.length_append, List.length_cons] at *
    rw [ih]
    simp [row3]
    omega
theorem rowsC_one (rs : List (Int × Int × Int)) : ∀ v ∈ rowsC rs, v.oneCell' = true := by
  intro v hv
  obtain ⟨x, _, hx⟩ := List.mem_flatMap.1 hv
  exact oc3 v hx
theorem new_at (w : World) (o : Obj) (k : Nat) (h : k = w.heap.size) : (w.alloc o).heap[k]? = some o := by subst h; exact heap_alloc_new _ _

set_option maxHeartbeats 4000000 in
theorem make_any (bit near far drift bad : Int) (v : Value) (l : List Int) (w : World) (h : Rd w v (ints l)) :
    Calls Tryz.prog 7 #[.agg #[.int .i64 bit, .int .i64 near, .int .i64 far, .int .i64 drift, .int .i64 bad], v] w fun e w' => madeBy bit near far drift bad l w e w' ∧ Below w.heap.size w w' := by
  obtain ⟨a, c, rfl, hc, hm⟩ := h.shape
  cases h1 : mayB bit near far drift bad l
  · go_enter Tryz.func7, Tryz.ntmps7
    go_wp2_with fail
    go_step3
    go_wp2_with fail
    have B1 := balloc (balloc (Below.refl w.heap.size w) (.cells #[.int .i64 bit, .int .i64 near, .int .i64 far, .int .i64 drift, .int .i64 bad] 23 (0, 0))) (.cells #[Value.slice none 0 0, .int .i64 0, .int .i64 0] 27 (0, 0))
    refine (may_any _ _ _ _ _ _ l _ (h.below B1)).mono ?_
    rw [h1]
    rintro e w1 ⟨rfl, b1⟩
    have k1 := (b1.block (w.heap.size + 1) (by simp)).trans (heap_alloc2_new w _ _)
    have B2 := bnext B1 b1
    have K1 := Lib.hid k1
    clear b1 B1 k1
    go_wp2_with (refine wpList_store_row rfl 27 _ _ rfl (w.heap.size + 1) _ rfl rfl _ _ K1.out info29 rfl (oc_tab _ _ _ rfl) ?_)
    rw [Exit.noGoto_ret]
    refine bodyPost_ret (results_row_tmp Tryz.results7 _ _ (w.heap.size + 1) _ _ _ _ rfl (setRow_heap w1 _ _ _ _ _ K1.out) Tryz.underlying27 rfl info29) rfl ⟨.inl ⟨h1, rfl⟩, below_setRow B2 (by omega) _⟩
  · go_enter Tryz.func7, Tryz.ntmps7
    go_wp2_with fail
    go_step3
    go_wp2_with fail
    have B1 := balloc (balloc (Below.refl w.heap.size w) (.cells #[.int .i64 bit, .int .i64 near, .int .i64 far, .int .i64 drift, .int .i64 bad] 23 (0, 0))) (.cells #[Value.slice none 0 0, .int .i64 0, .int .i64 0] 27 (0, 0))
    refine (may_any _ _ _ _ _ _ l _ (h.below B1)).mono ?_
    rw [h1]
    rintro e w1 ⟨rfl, b1⟩
    have k0 := (b1.block w.heap.size (by simp; omega)).trans (heap_alloc2_old w _ _)
    have k1 := (b1.block (w.heap.size + 1) (by simp)).trans (heap_alloc2_new w _ _)
    have B2 := bnext B1 b1
    have H2 := h.below B2
    have hsz : w.heap.size + 2 ≤ w1.heap.size := by simpa using b1.size
    have K0 := Lib.hid k0
    have K1 := Lib.hid k1
    clear B1 b1 k0 k1
    obtain ⟨hck, ⟨_, hl8⟩, hall⟩ := (mayB_iff _ _ _ _ _ _).1 h1
    obtain ⟨i0, hi, hz0, hz1, hz2⟩ := info_parts info39
    go_wp2_with (at_make; refine wpList_make_rowN _ rfl _ _ 25 rfl 64 i0 _ 3 Tryz.underlying25 hi hz0 hz1 .i64 .i64 l.length rfl rfl (by rw [hz2]; omega) (by omega) ?_; intro cs0 hcs0)
    have M0 : MInv bit near far drift bad l.length cs0 w w1.heap.size (List.replicate 24 (.int .i64 0)) 0 0 (((w1.alloc (Obj.cells #[Value.int IntKind.i64 0, Value.int IntKind.i64 0, Value.int IntKind.i64 0, Value.int IntKind.i64 0, Value.int IntKind.i64 0, Value.int IntKind.i64 0, Value.int IntKind.i64 0, Value.int IntKind.i64 0, Value.int IntKind.i64 0, Value.int IntKind.i64 0, Value.int IntKind.i64 0, Value.int IntKind.i64 0, Value.int IntKind.i64 0, Value.int IntKind.i64 0, Value.int IntKind.i64 0, Value.int IntKind.i64 0, Value.int IntKind.i64 0, Value.int IntKind.i64 0, Value.int IntKind.i64 0, Value.int IntKind.i64 0, Value.int IntKind.i64 0, Value.int IntKind.i64 0, Value.int IntKind.i64 0, Value.int IntKind.i64 0] 67)).alloc (Obj.cells cs0.toArray 64)).alloc (Obj.cells #[Value.slice (some { block := w1.heap.size + 1, off := 0 }) l.length l.length, Value.int IntKind.i64 0, Value.int IntKind.i64 0] 27)) := by
      refine ⟨?_, ?_, ?_, by simp, ?_, ?_, by omega, balloc (balloc (balloc B2 _) _) _⟩
      · rw [heap_alloc_old (h := by simp; omega), heap_alloc_old (h := by simp; omega), heap_alloc_old (h := by omega)]
        exact K0.out
      · rw [heap_alloc_old (h := by simp; omega), heap_alloc_old (h := by simp; omega), heap_alloc_old (h := by omega)]
        exact K1.out
      · rw [heap_alloc_old (h := by simp; omega), heap_alloc_old (h := by simp)]
        exact heap_alloc_new _ _
      · rw [heap_alloc_old (h := by simp)]
        exact new_at _ _ _ (by simp)
      · exact new_at _ _ _ (by simp)
    generalize w1.heap.size = n1 at *
    generalize World.alloc _ _ = w2 at *
    have hsk := Lib.hid ((chkB_iff bit near far drift bad).1 hck)
    have HR := Lib.hid h
    have HALL := Lib.hid hall
    clear h hall B2 H2 K0 K1 hck hi hz0 hz1 hz2
    go_step3
    go_wp2_with fail
    go_loopg [] 1073741824 (fun gk wr => ∃ (R G : Int) (cur : List Value), 0 ≤ G ∧ G + gk = 1073741824 ∧ Hid (∀ g, 0 ≤ g → okG bit near far drift l g → G ≤ g) ∧ MInv bit near far drift bad l.length cs0 w n1 cur R G wr)
    case atStart => exact ⟨0, 0, _, by omega, by omega, fun g hg _ => hg, M0⟩
    case round =>
      obtain ⟨R, G, cur0, hG0, hGk, hmin, M1⟩ := hrel
      obtain ⟨⟨hb0, hb1⟩, ⟨hf0, hf1⟩, ⟨hn0, hn1⟩, ⟨hd0, hd1⟩, _⟩ := hsk.out
      have hS := fun k => sum_8 (bit := bit) (far := far) (g := G) (l.take k) hb0 hb1 hf0 hf1 hG0 (by omega) (by simp; omega) (fun n hn => HALL.out n (List.mem_of_mem_take hn))
      have hP := fun n hn => slot1_in hb0 hb1 (HALL.out n hn).1 (HALL.out n hn).2
      go_wp2_with fail
      go_loopg [8, 24] l.length (fun gk at_ i wr => ∃ (k : Nat) (cur : List Value), k + gk = l.length ∧ i = .int .i64 k ∧ at_ = .int .i64 (sumS bit far G (l.take k)) ∧ Hid (cur.take (k * 3) = rowsC (rowsS bit far G 0 (l.take k))) ∧ MInv bit near far drift bad l.length cs0 w n1 cur R G wr)
      case atStart => exact ⟨0, cur0, by omega, rfl, rfl, by simp [Hid, rowsS], M1⟩
      case round =>
        obtain ⟨k, cur, hkg, rfl, rfl, hcur, M2⟩ := hrel
        cases gk with
        | zero =>
          obtain rfl : k = l.length := by omega
          obtain ⟨a0, a1⟩ := hS l.length
          have hr := hcur.out
          rw [List.take_length] at *
          obtain ⟨t0, t1, t2⟩ := cells3 M2.table
          have f1 := frozen_of_row wr (n1 + 1 + 1) 1 _ _ M2.table
          have esk : skewI bit near far drift bad (sumS bit far G l) = skI near far drift (sumS bit far G l) := by
            have c1 := (chkB_iff bit near far drift bad).2 hsk.out
            have c2 := (wB_iff (sumS bit far G l) 0 1099511627776).2 ⟨a0, by omega⟩
            simp [skewI, c1, c2]
          have hskm := (skI_in hn0 hn1 hf1 hd0 hd1 a0 (by omega)).1
          have HSK := Lib.hid esk
          have HRR := Lib.hid hr
          have HG : Hid (∀ g, 0 ≤ g → okG bit near far drift l g → skI near far drift (sumS bit far G l) ≤ g) := fun g hg ho => Int.le_trans (skI_mono (Int.le_refl _) hd0 (Int.le_refl _) a0 (sumS_mono l (hmin.out g hg ho))) ho
          have HOK : Hid (okG bit near far drift l G = (skI near far drift (sumS bit far G l) ≤ G)) := rfl
          clear esk hr hS hP hcur
          generalize hA : sumS bit far G l = A at *
          have HA := Lib.hid hA
          clear hA
          have M3 := M2.tab 1 A A G rfl
          go_wp2_with (refine wpList_load_row rfl 23 _ rfl w.heap.size rfl _ _ _ _ M3.setup Tryz.underlying23 rfl info23 ?_)
          refine (skew_any _ _ _ _ _ _ _).mono ?_
          rw [HSK.out]
          rintro e w6 ⟨rfl, b6⟩
          have M4 := M3.below b6
          clear b6 t0 t1 t2 f1 M2 M3
          generalize skI near far drift A = S at *
          obtain ⟨t0, t1, t2⟩ := cells3 M4.table
          have f2 := frozen_of_row w6 (n1 + 1 + 1) 2 _ _ M4.table
          by_cases hle : S ≤ G
          · have hat := M4.at
            have hsz := M4.bel.size
            have hln := rowsS_len bit far G l 0
            generalize hrs : rowsS bit far G 0 l = rs at *
            have hcl : (rowsC rs).length = l.length * 3 := by rw [← hln]; exact rowsC_len rs
            have hsrc : ∀ j v, (rowsC rs)[j]? = some v → w6.cell? (Addr.add ⟨n1, 0, none⟩ j) = some v := fun j v hv => by
              have hj := (List.getElem?_eq_some_iff.1 hv).1
              rw [Addr.add_lit, Nat.zero_add, cell_of_row w6 n1 j _ _ _ M4.rows, List.getElem?_toArray, ← hv, ← HRR.out, List.getElem?_take, if_pos (by omega)]
            have hs24 : cs0.length = (rowsC rs).length := by omega
            have hoc := rowsC_one rs
            have SL := Lib.hid M4.slots
            have TB := Lib.hid M4.table
            have AN := Lib.hid M4.ans
            have HB := Lib.hid M4.bel
            have HSRC := Lib.hid hsrc
            have HOC := Lib.hid hoc
            have HRS := Lib.hid hrs
            have HLT := Lib.hid (lt_of_block M4.table)
            have hnn : l.length = Nat.min 8 l.length := by show l.length = min 8 l.length; omega
            have hfit : 0 + (rowsC rs).length ≤ cs0.length := by omega
            have HN := Lib.hid hnn
            have HCL := Lib.hid hcl
            have HFIT := Lib.hid hfit
            have HS24 := Lib.hid hs24
            clear M4 hsrc hoc hrs HRR f2 t1 hnn hcl hfit hs24 hln hcs0
            go_wp2_with fail
            go_region_law (refine step_copyN rfl (.tmp 73) (.tmp 74) 25 25 rfl 64 3 l.length Tryz.underlying25 info39s ⟨n1, 0, none⟩ l.length l.length 8 8 (n1 + 1) 0 rfl rfl cs0 64 SL.out (rowsC rs) HN.out HCL.out HSRC.out HFIT.out HOC.out w.heap.size w (bdraw HB.out 1) (by omega) ?_; intro w7 hg7 hk7 b7)
            have hne1 : n1 + 1 + 1 ≠ n1 + 1 := by omega
            have T7 := Lib.hid ((hk7 (n1 + 1 + 1) HLT.out (by omega)).trans TB.out)
            have A7 := Lib.hid ((hk7 (w.heap.size + 1) (by have := HLT.out; show _ < w6.heap.size; omega) (by omega)).trans AN.out)
            have G7 := Lib.hid hg7
            clear hg7 hk7
            go_wp2_with (first | (refine wpList_load_row rfl 27 _ rfl (n1 + 1 + 1) rfl _ _ _ _ T7.out Tryz.underlying27 rfl info29 ?_) | (refine wpList_store_row rfl 27 _ _ rfl (w.heap.size + 1) _ rfl rfl _ _ A7.out info29 rfl (oc_tab _ _ _ rfl) ?_))
            rw [Exit.noGoto_ret]
            refine bodyPost_ret (results_row_tmp Tryz.results7 _ _ (w.heap.size + 1) _ _ _ _ rfl (setRow_heap w7 _ _ _ _ _ A7.out) Tryz.underlying27 rfl info29) rfl ⟨.inr (.inl ⟨h1, n1 + 1, G, by omega, hG0, by omega, by rw [HOK.out]; exact hle, hmin.out, ?_, ?_⟩), below_setRow b7 (by omega) _⟩
            · rw [HA.out]
              rfl
            · rw [setRow_other w7 (w.heap.size + 1) (n1 + 1) _ (by omega), HRS.out, G7.out, splice_all _ _ HS24.out.symm]
          · by_cases hbig : 1073741824 < S
            · have K1 := Lib.hid M4.ans
              go_wp2_with (refine wpList_store_row rfl 27 _ _ rfl (w.heap.size + 1) _ rfl rfl _ _ K1.out info29 rfl (oc_tab _ _ _ rfl) ?_)
              rw [Exit.noGoto_ret]
              have hat := M4.bel.size
              refine bodyPost_ret (results_row_tmp Tryz.results7 _ _ (w.heap.size + 1) _ _ _ _ rfl (setRow_heap w6 _ _ _ _ _ K1.out) Tryz.underlying27 rfl info29) rfl ⟨.inr (.inr ⟨h1, fun g hg ho => ?_, rfl⟩), below_setRow M4.bel (by omega) _⟩
              have := HG.out g hg ho
              omega
            · have M5 := M4.tab 2 S A S rfl
              go_wp2_with fail
              go_roundg (1073741824 - S).toNat
              case measure => omega
              case rel => exact ⟨A, S, cur, by omega, by omega, HG, M5⟩
        | succ gk =>
          have hlt : k < l.length := by omega
          obtain ⟨b, o, rfl, hcl⟩ := HR.out.get k hlt
          have x0 := (M2.bel.cell (p := ⟨b, o + k, none⟩) (World.block_lt_of_cell? w _ hcl)).trans hcl
          obtain ⟨s0, _, s2, _, _⟩ := cells5 M2.setup
          obtain ⟨_, t1, t2⟩ := cells3 M2.table
          obtain ⟨p0, p1⟩ := hP _ (List.getElem_mem hlt)
          obtain ⟨a0, a1⟩ := hS k
          have hsn := sumS_snoc bit far G l k hlt
          have hrn := rowsS_snoc bit far G l k hlt
          unfold slot1 at hsn hrn
          have HSN := Lib.hid hsn
          have HRN := Lib.hid hrn
          clear hcl hsn hrn hS hP
          generalize hA : sumS bit far G (l.take k) = A at *
          generalize l[k] = n at *
          have HTH := Lib.hid (there_block M2.rows (k * 3) 3 (by simp [M2.size24]; omega))
          have M3 := M2.row (k * 3) [.int .i64 A, .int .i64 (A + G), .int .i64 (A + G + n * bit + far + G)] (by simp; omega)
          have hc3 : (wr.setCells n1 (k * 3) [.int .i64 A, .int .i64 (A + G), .int .i64 (A + G + n * bit + far + G)]).cell? ⟨n1, k * 3 + 2, none⟩ = some (.int .i64 (A + G + n * bit + far + G)) :=
            (cell_of_row _ n1 (k * 3 + 2) _ _ _ M3.rows).trans (by rw [List.getElem?_toArray]; exact (splice_get cur [.int .i64 A, .int .i64 (A + G), .int .i64 (A + G + n * bit + far + G)] (k * 3) 2 (by rw [M2.size24]; omega) (by simp)))
          have hct := splice_take cur [.int .i64 A, .int .i64 (A + G), .int .i64 (A + G + n * bit + far + G)] (k * 3) (by rw [M2.size24]; omega)
          have HCT := Lib.hid hct
          clear hct
          go_wp2_with (refine wpList_store_midL rfl 64 _ _ rfl n1 (k * 3) [.int .i64 A, .int .i64 (A + G), .int .i64 (A + G + n * bit + far + G)] rfl rfl HTH.out info39s oc3 ?_; generalize wr.setCells n1 (k * 3) [.int .i64 A, .int .i64 (A + G), .int .i64 (A + G + n * bit + far + G)] = w5 at *)
          go_roundg gk
          case measure => omega
          case rel =>
            have e3 : A + (G + n * bit + far + G) = A + G + n * bit + far + G := by omega
            refine ⟨k + 1, _, by omega, by go_num, ?_, ?_, M3⟩
            · rw [HSN.out, e3]
            · unfold Hid
              rw [HRN.out, e3, show (k + 1) * 3 = k * 3 + 3 by omega]
              refine HCT.out.trans ?_
              rw [hcur.out]
              simp [rowsC, row3]
end Go.Proofs.YtppjphelibdlcaaGreatDoor
