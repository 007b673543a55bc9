/-
  Apart of a Book that holds lists of these kinds alone: Int, Slot (printed by wip/genap.py).
-/
import Derived.Test.YtppjphelibdlcaaGreatDoorBkInt
import Derived.Test.YtppjphelibdlcaaGreatDoorBkSlot
import Derived.Test.YtppjphelibdlcaaGreatDoorBookApart
namespace Go.Proofs.YtppjphelibdlcaaGreatDoor
open Go.RowKit
open Go
set_option linter.unusedVariables false

/-- A kind's lists, at the i-th step of Apart. -/
def KPh (K : Kd) (base : Nat) (s : Value) (its : List It) (kk i : Nat) (w : World) : Prop :=
  if i ≤ kk then KAt K base s its (fun _ => .kept) w else if i ≤ 17 + kk then KAt K base s its (fun _ => .filled) w else ∃ jts, KAt K base s jts (fun _ => .grown) w
theorem KPh.next {K : Kd} {base : Nat} {s : Value} {its : List It} {kk i : Nat} {w : World} (h : KPh K base s its kk i w) (h1 : i ≠ kk) (h2 : i ≠ 17 + kk) : KPh K base s its kk (i + 1) w := by
  unfold KPh at *
  by_cases a1 : i ≤ kk
  · rw [if_pos a1] at h
    rw [if_pos (by omega)]
    exact h
  · rw [if_neg a1] at h
    by_cases a2 : i ≤ 17 + kk
    · rw [if_pos a2] at h
      rw [if_neg (by omega), if_pos (by omega)]
      exact h
    · rw [if_neg a2] at h
      rw [if_neg (by omega), if_neg (by omega)]
      exact h
theorem KPh.away {K : Kd} {base : Nat} {s : Value} {its : List It} {kk i : Nat} {w w' : World} (h : KPh K base s its kk i w) {T : TypeId → Prop} (t : TnT base T w w') (he : ¬ T K.e) (hH : ¬ T K.tH) : KPh K base s its kk i w' := by
  unfold KPh at *
  by_cases a1 : i ≤ kk
  · rw [if_pos a1] at h ⊢
    exact h.away t he hH
  · rw [if_neg a1] at h ⊢
    by_cases a2 : i ≤ 17 + kk
    · rw [if_pos a2] at h ⊢
      exact h.away t he hH
    · rw [if_neg a2] at h ⊢
      obtain ⟨jts, h⟩ := h
      exact ⟨jts, h.away t he hH⟩

/-- The Book's cells. -/
def bookIS (m : Nat) (sInt : Value) (sSlot : Value) : Array Value := #[(.int .i64 m), .slice none 0 0, sInt, .slice none 0 0, .slice none 0 0, .slice none 0 0, .slice none 0 0, .slice none 0 0, .slice none 0 0, .slice none 0 0, .slice none 0 0, .slice none 0 0, sSlot, .slice none 0 0, .slice none 0 0, .slice none 0 0, .slice none 0 0, .slice none 0 0]
abbrev tyIS : TypeId → Prop := fun t => t = kInt.e ∨ t = kInt.tH ∨ t = kSlot.e ∨ t = kSlot.tH
/-- The i-th step. -/
structure StIS (base g m : Nat) (sInt : Value) (sSlot : Value) (itsInt : List It) (itsSlot : List It) (W : World) (i : Nat) (w : World) : Prop where
  at_ : w.heap[g]? = some (.cells (bookIS m sInt sSlot) 59 (0, 0))
  kInt : KPh kInt base sInt itsInt 1 i w
  kSlot : KPh kSlot base sSlot itsSlot 11 i w
  low : base ≤ W.heap.size
  turn : TnT base tyIS W w
section
variable {base g m : Nat} {sInt : Value} {sSlot : Value} {itsInt : List It} {itsSlot : List It} {W : World}
theorem StIS.next {i : Nat} {w : World} (h : StIS base g m sInt sSlot itsInt itsSlot W i w) (hInt : i ≠ 1 ∧ i ≠ 18) (hSlot : i ≠ 11 ∧ i ≠ 28) : StIS base g m sInt sSlot itsInt itsSlot W (i + 1) w :=
  ⟨h.at_, h.kInt.next hInt.1 hInt.2, h.kSlot.next hSlot.1 hSlot.2, h.low, h.turn⟩
theorem StIS.cell {i : Nat} {w : World} (h : StIS base g m sInt sSlot itsInt itsSlot W i w) {j : Nat} {v : Value} (hj : (bookIS m sInt sSlot)[j]? = some v) : w.cell? ⟨g, j, none⟩ = some v := (cell_of_row _ _ _ _ _ _ h.at_).trans hj
theorem stIS_fillInt : Hid (∀ w, StIS base g m sInt sSlot itsInt itsSlot W 1 w → Calls Tryz.prog 32 #[.pointer (some ⟨g, 0, none⟩)] w fun e w' => e = .returned (.tuple #[]) ∧ StIS base g m sInt sSlot itsInt itsSlot W 2 w') := by
  refine Lib.hid fun w h => ?_
  have hk := h.kInt
  unfold KPh at hk
  rw [if_pos (by decide)] at hk
  refine (fillInt_any base g _ sInt itsInt w h.at_ rfl hk).mono ?_
  rintro e w' ⟨rfl, k1, t⟩
  exact ⟨rfl, t.keep h.at_ (by decide), (by unfold KPh; rw [if_neg (by decide), if_pos (by decide)]; exact k1), ((h.kSlot.away t (by decide) (by decide)).next (by decide) (by decide)), h.low, TnT.trans h.turn (t.mono fun t ht => by rcases ht with rfl | rfl <;> decide)⟩
theorem stIS_growInt : Hid (∀ w, StIS base g m sInt sSlot itsInt itsSlot W 18 w → Calls Tryz.prog 49 #[.pointer (some ⟨g, 0, none⟩)] w fun e w' => e = .returned (.tuple #[]) ∧ StIS base g m sInt sSlot itsInt itsSlot W 19 w') := by
  refine Lib.hid fun w h => ?_
  have hk := h.kInt
  unfold KPh at hk
  rw [if_neg (by decide), if_pos (by decide)] at hk
  refine (growInt_any base g _ sInt itsInt w h.at_ rfl (Nat.le_trans h.low h.turn.size) hk).mono ?_
  rintro e w' ⟨rfl, k1, t⟩
  exact ⟨rfl, t.keep h.at_ (by decide), (by unfold KPh; rw [if_neg (by decide), if_neg (by decide)]; exact k1), ((h.kSlot.away t (by decide) (by decide)).next (by decide) (by decide)), h.low, TnT.trans h.turn (t.mono fun t ht => by rcases ht with rfl | rfl <;> decide)⟩
theorem stIS_lookInt (w : World) (h : StIS base g m sInt sSlot itsInt itsSlot W 34 w) : Looks w 66 g := by
  intro w' b
  have hk := h.kInt
  unfold KPh at hk
  rw [if_neg (by decide), if_neg (by decide)] at hk
  obtain ⟨jts, hk⟩ := hk
  exact lookInt_any base g _ sInt jts w h.at_ rfl hk w' b
theorem stIS_fillSlot : Hid (∀ w, StIS base g m sInt sSlot itsInt itsSlot W 11 w → Calls Tryz.prog 42 #[.pointer (some ⟨g, 0, none⟩)] w fun e w' => e = .returned (.tuple #[]) ∧ StIS base g m sInt sSlot itsInt itsSlot W 12 w') := by
  refine Lib.hid fun w h => ?_
  have hk := h.kSlot
  unfold KPh at hk
  rw [if_pos (by decide)] at hk
  refine (fillSlot_any base g _ sSlot itsSlot w h.at_ rfl hk).mono ?_
  rintro e w' ⟨rfl, k1, t⟩
  exact ⟨rfl, t.keep h.at_ (by decide), ((h.kInt.away t (by decide) (by decide)).next (by decide) (by decide)), (by unfold KPh; rw [if_neg (by decide), if_pos (by decide)]; exact k1), h.low, TnT.trans h.turn (t.mono fun t ht => by rcases ht with rfl | rfl <;> decide)⟩
theorem stIS_growSlot : Hid (∀ w, StIS base g m sInt sSlot itsInt itsSlot W 28 w → Calls Tryz.prog 59 #[.pointer (some ⟨g, 0, none⟩)] w fun e w' => e = .returned (.tuple #[]) ∧ StIS base g m sInt sSlot itsInt itsSlot W 29 w') := by
  refine Lib.hid fun w h => ?_
  have hk := h.kSlot
  unfold KPh at hk
  rw [if_neg (by decide), if_pos (by decide)] at hk
  refine (growSlot_any base g _ sSlot itsSlot w h.at_ rfl (Nat.le_trans h.low h.turn.size) hk).mono ?_
  rintro e w' ⟨rfl, k1, t⟩
  exact ⟨rfl, t.keep h.at_ (by decide), ((h.kInt.away t (by decide) (by decide)).next (by decide) (by decide)), (by unfold KPh; rw [if_neg (by decide), if_neg (by decide)]; exact k1), h.low, TnT.trans h.turn (t.mono fun t ht => by rcases ht with rfl | rfl <;> decide)⟩
theorem stIS_lookSlot (w : World) (h : StIS base g m sInt sSlot itsInt itsSlot W 34 w) : Looks w 76 g := by
  intro w' b
  have hk := h.kSlot
  unfold KPh at hk
  rw [if_neg (by decide), if_neg (by decide)] at hk
  obtain ⟨jts, hk⟩ := hk
  exact lookSlot_any base g _ sSlot jts w h.at_ rfl hk w' b
theorem stIS_nil (f : FuncId) {j i : Nat} (hf : ∀ (g : Nat) (w : World), w.cell? ⟨g, j, none⟩ = some (.slice none 0 0) → Calls Tryz.prog f #[.pointer (some ⟨g, 0, none⟩)] w fun e w' => e = .returned (.tuple #[]) ∧ w = w') (hj : (bookIS m sInt sSlot)[j]? = some (.slice none 0 0)) (hInt : i ≠ 1 ∧ i ≠ 18) (hSlot : i ≠ 11 ∧ i ≠ 28) :
    Hid (∀ w, StIS base g m sInt sSlot itsInt itsSlot W i w → Calls Tryz.prog f #[.pointer (some ⟨g, 0, none⟩)] w fun e w' => e = .returned (.tuple #[]) ∧ StIS base g m sInt sSlot itsInt itsSlot W (i + 1) w') := by
  refine Lib.hid fun w h => (hf g w (h.cell hj)).mono ?_
  rintro e w' ⟨rfl, rfl⟩
  exact ⟨rfl, h.next hInt hSlot⟩
theorem stIS_lookn (f : FuncId) {j : Nat} (hf : ∀ (g : Nat) (w : World), w.cell? ⟨g, j, none⟩ = some (.slice none 0 0) → Calls Tryz.prog f #[.pointer (some ⟨g, 0, none⟩)] w fun e w' => e = .returned (.bool true) ∧ w = w') (hj : (bookIS m sInt sSlot)[j]? = some (.slice none 0 0))
    (w : World) (h : StIS base g m sInt sSlot itsInt itsSlot W 34 w) : Looks w f g := by
  intro w' b
  refine (hf g w' ((cell_of_row _ _ _ _ _ _ ((b.block _ (lt_of_block h.at_)).trans h.at_)).trans hj)).mono ?_
  rintro e w'' ⟨rfl, rfl⟩
  exact ⟨rfl, Below.refl _ _⟩
end
theorem apartIS_any (base g m : Nat) (sInt : Value) (sSlot : Value) (itsInt : List It) (itsSlot : List It) (W : World) (hz : base ≤ W.heap.size) (hg : W.heap[g]? = some (.cells (bookIS m sInt sSlot) 59 (0, 0))) (hInt : KAt kInt base sInt itsInt (fun _ => .kept) W) (hSlot : KAt kSlot base sSlot itsSlot (fun _ => .kept) W) :
    Calls Tryz.prog 20 #[.pointer (some ⟨g, 0, none⟩)] W fun e w' => e = .returned (.bool true) ∧ Below base W w' := by
  have h0 : StIS base g m sInt sSlot itsInt itsSlot W 0 W := ⟨hg, (by unfold KPh; rw [if_pos (by decide)]; exact hInt), (by unfold KPh; rw [if_pos (by decide)]; exact hSlot), hz, Tn.refl _ _⟩
  refine (apart_any g W (StIS base g m sInt sSlot itsInt itsSlot W) h0
    (stIS_nil _ (j := 1) (i := 0) fillByte_nil rfl (by decide) (by decide))
    stIS_fillInt
    (stIS_nil _ (j := 3) (i := 2) fillLong_nil rfl (by decide) (by decide))
    (stIS_nil _ (j := 4) (i := 3) fillText_nil rfl (by decide) (by decide))
    (stIS_nil _ (j := 5) (i := 4) fillType_nil rfl (by decide) (by decide))
    (stIS_nil _ (j := 6) (i := 5) fillToken_nil rfl (by decide) (by decide))
    (stIS_nil _ (j := 7) (i := 6) fillRef_nil rfl (by decide) (by decide))
    (stIS_nil _ (j := 8) (i := 7) fillValue_nil rfl (by decide) (by decide))
    (stIS_nil _ (j := 9) (i := 8) fillPlace_nil rfl (by decide) (by decide))
    (stIS_nil _ (j := 10) (i := 9) fillInstr_nil rfl (by decide) (by decide))
    (stIS_nil _ (j := 11) (i := 10) fillFail_nil rfl (by decide) (by decide))
    stIS_fillSlot
    (stIS_nil _ (j := 13) (i := 12) fillIn_nil rfl (by decide) (by decide))
    (stIS_nil _ (j := 14) (i := 13) fillExpr_nil rfl (by decide) (by decide))
    (stIS_nil _ (j := 15) (i := 14) fillFlow_nil rfl (by decide) (by decide))
    (stIS_nil _ (j := 16) (i := 15) fillJob_nil rfl (by decide) (by decide))
    (stIS_nil _ (j := 17) (i := 16) fillStation_nil rfl (by decide) (by decide))
    (stIS_nil _ (j := 1) (i := 17) growByte_nil rfl (by decide) (by decide))
    stIS_growInt
    (stIS_nil _ (j := 3) (i := 19) growLong_nil rfl (by decide) (by decide))
    (stIS_nil _ (j := 4) (i := 20) growText_nil rfl (by decide) (by decide))
    (stIS_nil _ (j := 5) (i := 21) growType_nil rfl (by decide) (by decide))
    (stIS_nil _ (j := 6) (i := 22) growToken_nil rfl (by decide) (by decide))
    (stIS_nil _ (j := 7) (i := 23) growRef_nil rfl (by decide) (by decide))
    (stIS_nil _ (j := 8) (i := 24) growValue_nil rfl (by decide) (by decide))
    (stIS_nil _ (j := 9) (i := 25) growPlace_nil rfl (by decide) (by decide))
    (stIS_nil _ (j := 10) (i := 26) growInstr_nil rfl (by decide) (by decide))
    (stIS_nil _ (j := 11) (i := 27) growFail_nil rfl (by decide) (by decide))
    stIS_growSlot
    (stIS_nil _ (j := 13) (i := 29) growIn_nil rfl (by decide) (by decide))
    (stIS_nil _ (j := 14) (i := 30) growExpr_nil rfl (by decide) (by decide))
    (stIS_nil _ (j := 15) (i := 31) growFlow_nil rfl (by decide) (by decide))
    (stIS_nil _ (j := 16) (i := 32) growJob_nil rfl (by decide) (by decide))
    (stIS_nil _ (j := 17) (i := 33) growStation_nil rfl (by decide) (by decide))
    (stIS_lookn _ (j := 1) lookByte_nil rfl)
    stIS_lookInt
    (stIS_lookn _ (j := 3) lookLong_nil rfl)
    (stIS_lookn _ (j := 4) lookText_nil rfl)
    (stIS_lookn _ (j := 5) lookType_nil rfl)
    (stIS_lookn _ (j := 6) lookToken_nil rfl)
    (stIS_lookn _ (j := 7) lookRef_nil rfl)
    (stIS_lookn _ (j := 8) lookValue_nil rfl)
    (stIS_lookn _ (j := 9) lookPlace_nil rfl)
    (stIS_lookn _ (j := 10) lookInstr_nil rfl)
    (stIS_lookn _ (j := 11) lookFail_nil rfl)
    stIS_lookSlot
    (stIS_lookn _ (j := 13) lookIn_nil rfl)
    (stIS_lookn _ (j := 14) lookExpr_nil rfl)
    (stIS_lookn _ (j := 15) lookFlow_nil rfl)
    (stIS_lookn _ (j := 16) lookJob_nil rfl)
    (stIS_lookn _ (j := 17) lookStation_nil rfl)
    ).mono ?_
  rintro e w' ⟨rfl, w, h, b⟩
  exact ⟨rfl, (h.turn.toBelow hz).trans (b.mono (Nat.le_trans hz h.turn.size))⟩

/-- A Book that holds these lists, all of them new since base. -/
structure BkIS (base g m : Nat) (itsInt : List It) (itsSlot : List It) (w : World) : Prop where
  at_ : ∃ sInt sSlot : Value, w.heap[g]? = some (.cells (bookIS m sInt sSlot) 59 (0, 0)) ∧ KAt kInt base sInt itsInt (fun _ => .kept) w ∧ KAt kSlot base sSlot itsSlot (fun _ => .kept) w
  low : base ≤ g
  size : base ≤ w.heap.size
theorem kat_nil (K : Kd) (base : Nat) (w : World) (ph : Nat → Ph) : KAt K base (.slice none 0 0) [] ph w :=
  ⟨⟨rfl, .inl ⟨rfl, rfl⟩⟩, fun i it hi => by simp at hi, fun i j a b _ hi => by simp at hi⟩
theorem bkIS_start (base : Nat) (w : World) (hb : base ≤ w.heap.size) : BkIS base w.heap.size 0 [] [] (w.alloc (.cells (bookIS 0 (.slice none 0 0) (.slice none 0 0)) 59 (0, 0))) :=
  ⟨⟨.slice none 0 0, .slice none 0 0, heap_alloc_new _ _, kat_nil _ _ _ _, kat_nil _ _ _ _⟩, hb, by simp; omega⟩
section
variable {base g m : Nat} {itsInt : List It} {itsSlot : List It} {w w' : World}
theorem BkIS.below (h : BkIS base g m itsInt itsSlot w) (hb : Below w.heap.size w w') : BkIS base g m itsInt itsSlot w' := by
  obtain ⟨⟨sInt, sSlot, h1, qInt, qSlot⟩, h2, h3⟩ := h
  exact ⟨⟨sInt, sSlot, (hb.block g (lt_of_block h1)).trans h1, qInt.below hb, qSlot.below hb⟩, h2, Nat.le_trans h3 hb.size⟩
theorem bkIS_keepInt (h : BkIS base g m itsInt itsSlot w) (hm : m < 100000) (hl : itsInt.length < 1000000) {n : Nat} {v : Value} {xs : List Value} (ho : Own w base kInt.e kInt.sz v n xs) (hn : n ≤ 1000000) (hap : ∀ (i : Nat) (a : It), itsInt[i]? = some a → ∀ x, a.has x → roomOf v ≠ some x) :
    Calls Tryz.prog 18 #[.pointer (some ⟨g, 0, none⟩), v] w fun e w' => e = .returned (.tuple #[]) ∧ BkIS base g (m + 1) (itsInt ++ [⟨v, .slice none 0 0, n, m + 1⟩]) itsSlot w' ∧ TnT base (fun t => t = 59 ∨ t = kInt.tH) w w' := by
  obtain ⟨⟨sInt, sSlot, h1, qInt, qSlot⟩, h2, h3⟩ := h
  obtain ⟨al, cl, hv, _, _⟩ := ho.shape
  have KC := Lib.hid (keepInt_any base g _ sInt itsInt (fun _ => .kept) m n cl al w h1 rfl rfl rfl qInt hm hl h2 h3)
  rw [← hv] at KC
  clear hv
  have HO := Lib.hid ho
  have HAP := Lib.hid hap
  go_enter Tryz.func18, Tryz.ntmps18
  go_wp2_with fail
  refine Calls.mono KC.out ?_
  rintro e w1 ⟨rfl, s', q1, q2, q3⟩
  go_wp2_with fail
  refine ret_none Tryz.results18 ⟨rfl, ⟨⟨s', sSlot, q1, ?_, qSlot.away q3 (by decide) (by decide)⟩, h2, Nat.le_trans h3 q3.size⟩, q3⟩
  refine KAt.push (it := ⟨v, .slice none 0 0, n, m + 1⟩) qInt ?_ q3 (by decide) (fun i _ => rfl) ⟨rfl, xs, HO.out.kept fun b hb => ?_⟩ hn hm ?_
  · exact q2
  · obtain ⟨_, c, hc⟩ := HO.out.room hb
    exact (q3.keep hc (by decide)).trans hc.symm
  · intro i a ha x hx hx2
    rcases hx2 with hx2 | hx2
    · exact HAP.out i a ha x hx hx2
    · cases hx2
theorem bkIS_keepSlot (h : BkIS base g m itsInt itsSlot w) (hm : m < 100000) (hl : itsSlot.length < 1000000) {n : Nat} {v : Value} {xs : List Value} (ho : Own w base kSlot.e kSlot.sz v n xs) (hn : n ≤ 1000000) (hap : ∀ (i : Nat) (a : It), itsSlot[i]? = some a → ∀ x, a.has x → roomOf v ≠ some x) :
    Calls Tryz.prog 30 #[.pointer (some ⟨g, 0, none⟩), v] w fun e w' => e = .returned (.tuple #[]) ∧ BkIS base g (m + 1) itsInt (itsSlot ++ [⟨v, .slice none 0 0, n, m + 1⟩]) w' ∧ TnT base (fun t => t = 59 ∨ t = kSlot.tH) w w' := by
  obtain ⟨⟨sInt, sSlot, h1, qInt, qSlot⟩, h2, h3⟩ := h
  obtain ⟨al, cl, hv, _, _⟩ := ho.shape
  have KC := Lib.hid (keepSlot_any base g _ sSlot itsSlot (fun _ => .kept) m n cl al w h1 rfl rfl rfl qSlot hm hl h2 h3)
  rw [← hv] at KC
  clear hv
  have HO := Lib.hid ho
  have HAP := Lib.hid hap
  go_enter Tryz.func30, Tryz.ntmps30
  go_wp2_with fail
  refine Calls.mono KC.out ?_
  rintro e w1 ⟨rfl, s', q1, q2, q3⟩
  go_wp2_with fail
  refine ret_none Tryz.results30 ⟨rfl, ⟨⟨sInt, s', q1, qInt.away q3 (by decide) (by decide), ?_⟩, h2, Nat.le_trans h3 q3.size⟩, q3⟩
  refine KAt.push (it := ⟨v, .slice none 0 0, n, m + 1⟩) qSlot ?_ q3 (by decide) (fun i _ => rfl) ⟨rfl, xs, HO.out.kept fun b hb => ?_⟩ hn hm ?_
  · exact q2
  · obtain ⟨_, c, hc⟩ := HO.out.room hb
    exact (q3.keep hc (by decide)).trans hc.symm
  · intro i a ha x hx hx2
    rcases hx2 with hx2 | hx2
    · exact HAP.out i a ha x hx hx2
    · cases hx2
/-- .. and nothing else turns but blocks of the kinds' types. -/
theorem bkIS_apart2 (h : BkIS base g m itsInt itsSlot w) : Calls Tryz.prog 20 #[.pointer (some ⟨g, 0, none⟩)] w fun e w' => e = .returned (.bool true) ∧ TnT base tyIS w w' := by
  obtain ⟨⟨sInt, sSlot, h1, qInt, qSlot⟩, h2, h3⟩ := h
  have h0 : StIS base g m sInt sSlot itsInt itsSlot w 0 w := ⟨h1, (by unfold KPh; rw [if_pos (by decide)]; exact qInt), (by unfold KPh; rw [if_pos (by decide)]; exact qSlot), h3, Tn.refl _ _⟩
  refine (apart_any g w (StIS base g m sInt sSlot itsInt itsSlot w) h0
    (stIS_nil _ (j := 1) (i := 0) fillByte_nil rfl (by decide) (by decide))
    stIS_fillInt
    (stIS_nil _ (j := 3) (i := 2) fillLong_nil rfl (by decide) (by decide))
    (stIS_nil _ (j := 4) (i := 3) fillText_nil rfl (by decide) (by decide))
    (stIS_nil _ (j := 5) (i := 4) fillType_nil rfl (by decide) (by decide))
    (stIS_nil _ (j := 6) (i := 5) fillToken_nil rfl (by decide) (by decide))
    (stIS_nil _ (j := 7) (i := 6) fillRef_nil rfl (by decide) (by decide))
    (stIS_nil _ (j := 8) (i := 7) fillValue_nil rfl (by decide) (by decide))
    (stIS_nil _ (j := 9) (i := 8) fillPlace_nil rfl (by decide) (by decide))
    (stIS_nil _ (j := 10) (i := 9) fillInstr_nil rfl (by decide) (by decide))
    (stIS_nil _ (j := 11) (i := 10) fillFail_nil rfl (by decide) (by decide))
    stIS_fillSlot
    (stIS_nil _ (j := 13) (i := 12) fillIn_nil rfl (by decide) (by decide))
    (stIS_nil _ (j := 14) (i := 13) fillExpr_nil rfl (by decide) (by decide))
    (stIS_nil _ (j := 15) (i := 14) fillFlow_nil rfl (by decide) (by decide))
    (stIS_nil _ (j := 16) (i := 15) fillJob_nil rfl (by decide) (by decide))
    (stIS_nil _ (j := 17) (i := 16) fillStation_nil rfl (by decide) (by decide))
    (stIS_nil _ (j := 1) (i := 17) growByte_nil rfl (by decide) (by decide))
    stIS_growInt
    (stIS_nil _ (j := 3) (i := 19) growLong_nil rfl (by decide) (by decide))
    (stIS_nil _ (j := 4) (i := 20) growText_nil rfl (by decide) (by decide))
    (stIS_nil _ (j := 5) (i := 21) growType_nil rfl (by decide) (by decide))
    (stIS_nil _ (j := 6) (i := 22) growToken_nil rfl (by decide) (by decide))
    (stIS_nil _ (j := 7) (i := 23) growRef_nil rfl (by decide) (by decide))
    (stIS_nil _ (j := 8) (i := 24) growValue_nil rfl (by decide) (by decide))
    (stIS_nil _ (j := 9) (i := 25) growPlace_nil rfl (by decide) (by decide))
    (stIS_nil _ (j := 10) (i := 26) growInstr_nil rfl (by decide) (by decide))
    (stIS_nil _ (j := 11) (i := 27) growFail_nil rfl (by decide) (by decide))
    stIS_growSlot
    (stIS_nil _ (j := 13) (i := 29) growIn_nil rfl (by decide) (by decide))
    (stIS_nil _ (j := 14) (i := 30) growExpr_nil rfl (by decide) (by decide))
    (stIS_nil _ (j := 15) (i := 31) growFlow_nil rfl (by decide) (by decide))
    (stIS_nil _ (j := 16) (i := 32) growJob_nil rfl (by decide) (by decide))
    (stIS_nil _ (j := 17) (i := 33) growStation_nil rfl (by decide) (by decide))
    (stIS_lookn _ (j := 1) lookByte_nil rfl)
    stIS_lookInt
    (stIS_lookn _ (j := 3) lookLong_nil rfl)
    (stIS_lookn _ (j := 4) lookText_nil rfl)
    (stIS_lookn _ (j := 5) lookType_nil rfl)
    (stIS_lookn _ (j := 6) lookToken_nil rfl)
    (stIS_lookn _ (j := 7) lookRef_nil rfl)
    (stIS_lookn _ (j := 8) lookValue_nil rfl)
    (stIS_lookn _ (j := 9) lookPlace_nil rfl)
    (stIS_lookn _ (j := 10) lookInstr_nil rfl)
    (stIS_lookn _ (j := 11) lookFail_nil rfl)
    stIS_lookSlot
    (stIS_lookn _ (j := 13) lookIn_nil rfl)
    (stIS_lookn _ (j := 14) lookExpr_nil rfl)
    (stIS_lookn _ (j := 15) lookFlow_nil rfl)
    (stIS_lookn _ (j := 16) lookJob_nil rfl)
    (stIS_lookn _ (j := 17) lookStation_nil rfl)
    ).mono ?_
  rintro e w' ⟨rfl, w, h, b⟩
  exact ⟨rfl, TnT.trans h.turn (Below.tn b _)⟩
theorem bkIS_apart (h : BkIS base g m itsInt itsSlot w) : Calls Tryz.prog 20 #[.pointer (some ⟨g, 0, none⟩)] w fun e w' => e = .returned (.bool true) ∧ Below base w w' := by
  obtain ⟨⟨sInt, sSlot, h1, qInt, qSlot⟩, h2, h3⟩ := h
  exact apartIS_any base g m sInt sSlot itsInt itsSlot w h3 h1 qInt qSlot
end
theorem Own.away {w w' : World} {base : Nat} {e : TypeId} {sz n : Nat} {v : Value} {xs : List Value} (h : Own w base e sz v n xs) {T : TypeId → Prop} (t : TnT base T w w') (he : ¬ T e) : Own w' base e sz v n xs := h.kept fun b hb => by
  obtain ⟨_, c, hc⟩ := h.room hb
  exact (t.keep hc he).trans hc.symm
end Go.Proofs.YtppjphelibdlcaaGreatDoor
