/-
  Apart of a Book that holds lists of these kinds alone: Byte, Type, Value (printed by wip/genap.py).
-/
import Derived.Test.YtckpeclkkmapiaaGreatDoorBkByte
import Derived.Test.YtckpeclkkmapiaaGreatDoorBkType
import Derived.Test.YtckpeclkkmapiaaGreatDoorBkValue
import Derived.Test.YtckpeclkkmapiaaGreatDoorBookApart
namespace Go.Proofs.YtckpeclkkmapiaaGreatDoor
open Go.RowKit
open Go
set_option linter.unusedVariables false

/-- A kind's lists, at the i-th step of Apart. -/
def KPh (K : Kd) (base : Nat) (s : Value) (its : List It) (kk i : Nat) (w : World) : Prop :=
  if i ≤ kk then KAt K base s its (fun _ => .kept) w else if i ≤ 17 + kk then KAt K base s its (fun _ => .filled) w else ∃ jts, KAt K base s jts (fun _ => .grown) w
theorem KPh.next {K : Kd} {base : Nat} {s : Value} {its : List It} {kk i : Nat} {w : World} (h : KPh K base s its kk i w) (h1 : i ≠ kk) (h2 : i ≠ 17 + kk) : KPh K base s its kk (i + 1) w := by
  unfold KPh at *
  by_cases a1 : i ≤ kk
  · rw [if_pos a1] at h
    rw [if_pos (by omega)]
    exact h
  · rw [if_neg a1] at h
    by_cases a2 : i ≤ 17 + kk
    · rw [if_pos a2] at h
      rw [if_neg (by omega), if_pos (by omega)]
      exact h
    · rw [if_neg a2] at h
      rw [if_neg (by omega), if_neg (by omega)]
      exact h
theorem KPh.away {K : Kd} {base : Nat} {s : Value} {its : List It} {kk i : Nat} {w w' : World} (h : KPh K base s its kk i w) {T : TypeId → Prop} (t : TnT base T w w') (he : ¬ T K.e) (hH : ¬ T K.tH) : KPh K base s its kk i w' := by
  unfold KPh at *
  by_cases a1 : i ≤ kk
  · rw [if_pos a1] at h ⊢
    exact h.away t he hH
  · rw [if_neg a1] at h ⊢
    by_cases a2 : i ≤ 17 + kk
    · rw [if_pos a2] at h ⊢
      exact h.away t he hH
    · rw [if_neg a2] at h ⊢
      obtain ⟨jts, h⟩ := h
      exact ⟨jts, h.away t he hH⟩

/-- The Book's cells. -/
def bookBYV (m : Nat) (sByte : Value) (sType : Value) (sValue : Value) : Array Value := #[(.int .i64 m), sByte, .slice none 0 0, .slice none 0 0, .slice none 0 0, sType, .slice none 0 0, .slice none 0 0, sValue, .slice none 0 0, .slice none 0 0, .slice none 0 0, .slice none 0 0, .slice none 0 0, .slice none 0 0, .slice none 0 0, .slice none 0 0, .slice none 0 0]
abbrev tyBYV : TypeId → Prop := fun t => t = kByte.e ∨ t = kByte.tH ∨ t = kType.e ∨ t = kType.tH ∨ t = kValue.e ∨ t = kValue.tH
/-- The i-th step. -/
structure StBYV (base g m : Nat) (sByte : Value) (sType : Value) (sValue : Value) (itsByte : List It) (itsType : List It) (itsValue : List It) (W : World) (i : Nat) (w : World) : Prop where
  at_ : w.heap[g]? = some (.cells (bookBYV m sByte sType sValue) 52 (0, 0))
  kByte : KPh kByte base sByte itsByte 0 i w
  kType : KPh kType base sType itsType 4 i w
  kValue : KPh kValue base sValue itsValue 7 i w
  low : base ≤ W.heap.size
  turn : TnT base tyBYV W w
section
variable {base g m : Nat} {sByte : Value} {sType : Value} {sValue : Value} {itsByte : List It} {itsType : List It} {itsValue : List It} {W : World}
theorem StBYV.next {i : Nat} {w : World} (h : StBYV base g m sByte sType sValue itsByte itsType itsValue W i w) (hByte : i ≠ 0 ∧ i ≠ 17) (hType : i ≠ 4 ∧ i ≠ 21) (hValue : i ≠ 7 ∧ i ≠ 24) : StBYV base g m sByte sType sValue itsByte itsType itsValue W (i + 1) w :=
  ⟨h.at_, h.kByte.next hByte.1 hByte.2, h.kType.next hType.1 hType.2, h.kValue.next hValue.1 hValue.2, h.low, h.turn⟩
theorem StBYV.cell {i : Nat} {w : World} (h : StBYV base g m sByte sType sValue itsByte itsType itsValue W i w) {j : Nat} {v : Value} (hj : (bookBYV m sByte sType sValue)[j]? = some v) : w.cell? ⟨g, j, none⟩ = some v := (cell_of_row _ _ _ _ _ _ h.at_).trans hj
theorem stBYV_fillByte : Hid (∀ w, StBYV base g m sByte sType sValue itsByte itsType itsValue W 0 w → Calls Tryz.prog 43 #[.pointer (some ⟨g, 0, none⟩)] w fun e w' => e = .returned (.tuple #[]) ∧ StBYV base g m sByte sType sValue itsByte itsType itsValue W 1 w') := by
  refine Lib.hid fun w h => ?_
  have hk := h.kByte
  unfold KPh at hk
  rw [if_pos (by decide)] at hk
  refine (fillByte_any base g _ sByte itsByte w h.at_ rfl hk).mono ?_
  rintro e w' ⟨rfl, k1, t⟩
  exact ⟨rfl, t.keep h.at_ (by decide), (by unfold KPh; rw [if_neg (by decide), if_pos (by decide)]; exact k1), ((h.kType.away t (by decide) (by decide)).next (by decide) (by decide)), ((h.kValue.away t (by decide) (by decide)).next (by decide) (by decide)), h.low, TnT.trans h.turn (t.mono fun t ht => by rcases ht with rfl | rfl <;> decide)⟩
theorem stBYV_growByte : Hid (∀ w, StBYV base g m sByte sType sValue itsByte itsType itsValue W 17 w → Calls Tryz.prog 60 #[.pointer (some ⟨g, 0, none⟩)] w fun e w' => e = .returned (.tuple #[]) ∧ StBYV base g m sByte sType sValue itsByte itsType itsValue W 18 w') := by
  refine Lib.hid fun w h => ?_
  have hk := h.kByte
  unfold KPh at hk
  rw [if_neg (by decide), if_pos (by decide)] at hk
  refine (growByte_any base g _ sByte itsByte w h.at_ rfl (Nat.le_trans h.low h.turn.size) hk).mono ?_
  rintro e w' ⟨rfl, k1, t⟩
  exact ⟨rfl, t.keep h.at_ (by decide), (by unfold KPh; rw [if_neg (by decide), if_neg (by decide)]; exact k1), ((h.kType.away t (by decide) (by decide)).next (by decide) (by decide)), ((h.kValue.away t (by decide) (by decide)).next (by decide) (by decide)), h.low, TnT.trans h.turn (t.mono fun t ht => by rcases ht with rfl | rfl <;> decide)⟩
theorem stBYV_lookByte (w : World) (h : StBYV base g m sByte sType sValue itsByte itsType itsValue W 34 w) : Looks w 77 g := by
  intro w' b
  have hk := h.kByte
  unfold KPh at hk
  rw [if_neg (by decide), if_neg (by decide)] at hk
  obtain ⟨jts, hk⟩ := hk
  exact lookByte_any base g _ sByte jts w h.at_ rfl hk w' b
theorem stBYV_fillType : Hid (∀ w, StBYV base g m sByte sType sValue itsByte itsType itsValue W 4 w → Calls Tryz.prog 47 #[.pointer (some ⟨g, 0, none⟩)] w fun e w' => e = .returned (.tuple #[]) ∧ StBYV base g m sByte sType sValue itsByte itsType itsValue W 5 w') := by
  refine Lib.hid fun w h => ?_
  have hk := h.kType
  unfold KPh at hk
  rw [if_pos (by decide)] at hk
  refine (fillType_any base g _ sType itsType w h.at_ rfl hk).mono ?_
  rintro e w' ⟨rfl, k1, t⟩
  exact ⟨rfl, t.keep h.at_ (by decide), ((h.kByte.away t (by decide) (by decide)).next (by decide) (by decide)), (by unfold KPh; rw [if_neg (by decide), if_pos (by decide)]; exact k1), ((h.kValue.away t (by decide) (by decide)).next (by decide) (by decide)), h.low, TnT.trans h.turn (t.mono fun t ht => by rcases ht with rfl | rfl <;> decide)⟩
theorem stBYV_growType : Hid (∀ w, StBYV base g m sByte sType sValue itsByte itsType itsValue W 21 w → Calls Tryz.prog 64 #[.pointer (some ⟨g, 0, none⟩)] w fun e w' => e = .returned (.tuple #[]) ∧ StBYV base g m sByte sType sValue itsByte itsType itsValue W 22 w') := by
  refine Lib.hid fun w h => ?_
  have hk := h.kType
  unfold KPh at hk
  rw [if_neg (by decide), if_pos (by decide)] at hk
  refine (growType_any base g _ sType itsType w h.at_ rfl (Nat.le_trans h.low h.turn.size) hk).mono ?_
  rintro e w' ⟨rfl, k1, t⟩
  exact ⟨rfl, t.keep h.at_ (by decide), ((h.kByte.away t (by decide) (by decide)).next (by decide) (by decide)), (by unfold KPh; rw [if_neg (by decide), if_neg (by decide)]; exact k1), ((h.kValue.away t (by decide) (by decide)).next (by decide) (by decide)), h.low, TnT.trans h.turn (t.mono fun t ht => by rcases ht with rfl | rfl <;> decide)⟩
theorem stBYV_lookType (w : World) (h : StBYV base g m sByte sType sValue itsByte itsType itsValue W 34 w) : Looks w 81 g := by
  intro w' b
  have hk := h.kType
  unfold KPh at hk
  rw [if_neg (by decide), if_neg (by decide)] at hk
  obtain ⟨jts, hk⟩ := hk
  exact lookType_any base g _ sType jts w h.at_ rfl hk w' b
theorem stBYV_fillValue : Hid (∀ w, StBYV base g m sByte sType sValue itsByte itsType itsValue W 7 w → Calls Tryz.prog 50 #[.pointer (some ⟨g, 0, none⟩)] w fun e w' => e = .returned (.tuple #[]) ∧ StBYV base g m sByte sType sValue itsByte itsType itsValue W 8 w') := by
  refine Lib.hid fun w h => ?_
  have hk := h.kValue
  unfold KPh at hk
  rw [if_pos (by decide)] at hk
  refine (fillValue_any base g _ sValue itsValue w h.at_ rfl hk).mono ?_
  rintro e w' ⟨rfl, k1, t⟩
  exact ⟨rfl, t.keep h.at_ (by decide), ((h.kByte.away t (by decide) (by decide)).next (by decide) (by decide)), ((h.kType.away t (by decide) (by decide)).next (by decide) (by decide)), (by unfold KPh; rw [if_neg (by decide), if_pos (by decide)]; exact k1), h.low, TnT.trans h.turn (t.mono fun t ht => by rcases ht with rfl | rfl <;> decide)⟩
theorem stBYV_growValue : Hid (∀ w, StBYV base g m sByte sType sValue itsByte itsType itsValue W 24 w → Calls Tryz.prog 67 #[.pointer (some ⟨g, 0, none⟩)] w fun e w' => e = .returned (.tuple #[]) ∧ StBYV base g m sByte sType sValue itsByte itsType itsValue W 25 w') := by
  refine Lib.hid fun w h => ?_
  have hk := h.kValue
  unfold KPh at hk
  rw [if_neg (by decide), if_pos (by decide)] at hk
  refine (growValue_any base g _ sValue itsValue w h.at_ rfl (Nat.le_trans h.low h.turn.size) hk).mono ?_
  rintro e w' ⟨rfl, k1, t⟩
  exact ⟨rfl, t.keep h.at_ (by decide), ((h.kByte.away t (by decide) (by decide)).next (by decide) (by decide)), ((h.kType.away t (by decide) (by decide)).next (by decide) (by decide)), (by unfold KPh; rw [if_neg (by decide), if_neg (by decide)]; exact k1), h.low, TnT.trans h.turn (t.mono fun t ht => by rcases ht with rfl | rfl <;> decide)⟩
theorem stBYV_lookValue (w : World) (h : StBYV base g m sByte sType sValue itsByte itsType itsValue W 34 w) : Looks w 84 g := by
  intro w' b
  have hk := h.kValue
  unfold KPh at hk
  rw [if_neg (by decide), if_neg (by decide)] at hk
  obtain ⟨jts, hk⟩ := hk
  exact lookValue_any base g _ sValue jts w h.at_ rfl hk w' b
theorem stBYV_nil (f : FuncId) {j i : Nat} (hf : ∀ (g : Nat) (w : World), w.cell? ⟨g, j, none⟩ = some (.slice none 0 0) → Calls Tryz.prog f #[.pointer (some ⟨g, 0, none⟩)] w fun e w' => e = .returned (.tuple #[]) ∧ w = w') (hj : (bookBYV m sByte sType sValue)[j]? = some (.slice none 0 0)) (hByte : i ≠ 0 ∧ i ≠ 17) (hType : i ≠ 4 ∧ i ≠ 21) (hValue : i ≠ 7 ∧ i ≠ 24) :
    Hid (∀ w, StBYV base g m sByte sType sValue itsByte itsType itsValue W i w → Calls Tryz.prog f #[.pointer (some ⟨g, 0, none⟩)] w fun e w' => e = .returned (.tuple #[]) ∧ StBYV base g m sByte sType sValue itsByte itsType itsValue W (i + 1) w') := by
  refine Lib.hid fun w h => (hf g w (h.cell hj)).mono ?_
  rintro e w' ⟨rfl, rfl⟩
  exact ⟨rfl, h.next hByte hType hValue⟩
theorem stBYV_lookn (f : FuncId) {j : Nat} (hf : ∀ (g : Nat) (w : World), w.cell? ⟨g, j, none⟩ = some (.slice none 0 0) → Calls Tryz.prog f #[.pointer (some ⟨g, 0, none⟩)] w fun e w' => e = .returned (.bool true) ∧ w = w') (hj : (bookBYV m sByte sType sValue)[j]? = some (.slice none 0 0))
    (w : World) (h : StBYV base g m sByte sType sValue itsByte itsType itsValue W 34 w) : Looks w f g := by
  intro w' b
  refine (hf g w' ((cell_of_row _ _ _ _ _ _ ((b.block _ (lt_of_block h.at_)).trans h.at_)).trans hj)).mono ?_
  rintro e w'' ⟨rfl, rfl⟩
  exact ⟨rfl, Below.refl _ _⟩
end
theorem apartBYV_any (base g m : Nat) (sByte : Value) (sType : Value) (sValue : Value) (itsByte : List It) (itsType : List It) (itsValue : List It) (W : World) (hz : base ≤ W.heap.size) (hg : W.heap[g]? = some (.cells (bookBYV m sByte sType sValue) 52 (0, 0))) (hByte : KAt kByte base sByte itsByte (fun _ => .kept) W) (hType : KAt kType base sType itsType (fun _ => .kept) W) (hValue : KAt kValue base sValue itsValue (fun _ => .kept) W) :
    Calls Tryz.prog 19 #[.pointer (some ⟨g, 0, none⟩)] W fun e w' => e = .returned (.bool true) ∧ Below base W w' := by
  have h0 : StBYV base g m sByte sType sValue itsByte itsType itsValue W 0 W := ⟨hg, (by unfold KPh; rw [if_pos (by decide)]; exact hByte), (by unfold KPh; rw [if_pos (by decide)]; exact hType), (by unfold KPh; rw [if_pos (by decide)]; exact hValue), hz, Tn.refl _ _⟩
  refine (apart_any g W (StBYV base g m sByte sType sValue itsByte itsType itsValue W) h0
    stBYV_fillByte
    (stBYV_nil _ (j := 2) (i := 1) fillInt_nil rfl (by decide) (by decide) (by decide))
    (stBYV_nil _ (j := 3) (i := 2) fillLong_nil rfl (by decide) (by decide) (by decide))
    (stBYV_nil _ (j := 4) (i := 3) fillText_nil rfl (by decide) (by decide) (by decide))
    stBYV_fillType
    (stBYV_nil _ (j := 6) (i := 5) fillToken_nil rfl (by decide) (by decide) (by decide))
    (stBYV_nil _ (j := 7) (i := 6) fillRef_nil rfl (by decide) (by decide) (by decide))
    stBYV_fillValue
    (stBYV_nil _ (j := 9) (i := 8) fillPlace_nil rfl (by decide) (by decide) (by decide))
    (stBYV_nil _ (j := 10) (i := 9) fillInstr_nil rfl (by decide) (by decide) (by decide))
    (stBYV_nil _ (j := 11) (i := 10) fillFail_nil rfl (by decide) (by decide) (by decide))
    (stBYV_nil _ (j := 12) (i := 11) fillSlot_nil rfl (by decide) (by decide) (by decide))
    (stBYV_nil _ (j := 13) (i := 12) fillIn_nil rfl (by decide) (by decide) (by decide))
    (stBYV_nil _ (j := 14) (i := 13) fillExpr_nil rfl (by decide) (by decide) (by decide))
    (stBYV_nil _ (j := 15) (i := 14) fillFlow_nil rfl (by decide) (by decide) (by decide))
    (stBYV_nil _ (j := 16) (i := 15) fillJob_nil rfl (by decide) (by decide) (by decide))
    (stBYV_nil _ (j := 17) (i := 16) fillStation_nil rfl (by decide) (by decide) (by decide))
    stBYV_growByte
    (stBYV_nil _ (j := 2) (i := 18) growInt_nil rfl (by decide) (by decide) (by decide))
    (stBYV_nil _ (j := 3) (i := 19) growLong_nil rfl (by decide) (by decide) (by decide))
    (stBYV_nil _ (j := 4) (i := 20) growText_nil rfl (by decide) (by decide) (by decide))
    stBYV_growType
    (stBYV_nil _ (j := 6) (i := 22) growToken_nil rfl (by decide) (by decide) (by decide))
    (stBYV_nil _ (j := 7) (i := 23) growRef_nil rfl (by decide) (by decide) (by decide))
    stBYV_growValue
    (stBYV_nil _ (j := 9) (i := 25) growPlace_nil rfl (by decide) (by decide) (by decide))
    (stBYV_nil _ (j := 10) (i := 26) growInstr_nil rfl (by decide) (by decide) (by decide))
    (stBYV_nil _ (j := 11) (i := 27) growFail_nil rfl (by decide) (by decide) (by decide))
    (stBYV_nil _ (j := 12) (i := 28) growSlot_nil rfl (by decide) (by decide) (by decide))
    (stBYV_nil _ (j := 13) (i := 29) growIn_nil rfl (by decide) (by decide) (by decide))
    (stBYV_nil _ (j := 14) (i := 30) growExpr_nil rfl (by decide) (by decide) (by decide))
    (stBYV_nil _ (j := 15) (i := 31) growFlow_nil rfl (by decide) (by decide) (by decide))
    (stBYV_nil _ (j := 16) (i := 32) growJob_nil rfl (by decide) (by decide) (by decide))
    (stBYV_nil _ (j := 17) (i := 33) growStation_nil rfl (by decide) (by decide) (by decide))
    stBYV_lookByte
    (stBYV_lookn _ (j := 2) lookInt_nil rfl)
    (stBYV_lookn _ (j := 3) lookLong_nil rfl)
    (stBYV_lookn _ (j := 4) lookText_nil rfl)
    stBYV_lookType
    (stBYV_lookn _ (j := 6) lookToken_nil rfl)
    (stBYV_lookn _ (j := 7) lookRef_nil rfl)
    stBYV_lookValue
    (stBYV_lookn _ (j := 9) lookPlace_nil rfl)
    (stBYV_lookn _ (j := 10) lookInstr_nil rfl)
    (stBYV_lookn _ (j := 11) lookFail_nil rfl)
    (stBYV_lookn _ (j := 12) lookSlot_nil rfl)
    (stBYV_lookn _ (j := 13) lookIn_nil rfl)
    (stBYV_lookn _ (j := 14) lookExpr_nil rfl)
    (stBYV_lookn _ (j := 15) lookFlow_nil rfl)
    (stBYV_lookn _ (j := 16) lookJob_nil rfl)
    (stBYV_lookn _ (j := 17) lookStation_nil rfl)
    ).mono ?_
  rintro e w' ⟨rfl, w, h, b⟩
  exact ⟨rfl, (h.turn.toBelow hz).trans (b.mono (Nat.le_trans hz h.turn.size))⟩

/-- A Book that holds these lists, all of them new since base. -/
structure BkBYV (base g m : Nat) (itsByte : List It) (itsType : List It) (itsValue : List It) (w : World) : Prop where
  at_ : ∃ sByte sType sValue : Value, w.heap[g]? = some (.cells (bookBYV m sByte sType sValue) 52 (0, 0)) ∧ KAt kByte base sByte itsByte (fun _ => .kept) w ∧ KAt kType base sType itsType (fun _ => .kept) w ∧ KAt kValue base sValue itsValue (fun _ => .kept) w
  low : base ≤ g
  size : base ≤ w.heap.size
theorem kat_nil (K : Kd) (base : Nat) (w : World) (ph : Nat → Ph) : KAt K base (.slice none 0 0) [] ph w :=
  ⟨⟨rfl, .inl ⟨rfl, rfl⟩⟩, fun i it hi => by simp at hi, fun i j a b _ hi => by simp at hi⟩
theorem bkBYV_start (base : Nat) (w : World) (hb : base ≤ w.heap.size) : BkBYV base w.heap.size 0 [] [] [] (w.alloc (.cells (bookBYV 0 (.slice none 0 0) (.slice none 0 0) (.slice none 0 0)) 52 (0, 0))) :=
  ⟨⟨.slice none 0 0, .slice none 0 0, .slice none 0 0, heap_alloc_new _ _, kat_nil _ _ _ _, kat_nil _ _ _ _, kat_nil _ _ _ _⟩, hb, by simp; omega⟩
section
variable {base g m : Nat} {itsByte : List It} {itsType : List It} {itsValue : List It} {w w' : World}
theorem BkBYV.below (h : BkBYV base g m itsByte itsType itsValue w) (hb : Below w.heap.size w w') : BkBYV base g m itsByte itsType itsValue w' := by
  obtain ⟨⟨sByte, sType, sValue, h1, qByte, qType, qValue⟩, h2, h3⟩ := h
  exact ⟨⟨sByte, sType, sValue, (hb.block g (lt_of_block h1)).trans h1, qByte.below hb, qType.below hb, qValue.below hb⟩, h2, Nat.le_trans h3 hb.size⟩
theorem bkBYV_keepByte (h : BkBYV base g m itsByte itsType itsValue w) (hm : m < 100000) (hl : itsByte.length < 1000000) {n : Nat} {v : Value} {xs : List Value} (ho : Own w base kByte.e kByte.sz v n xs) (hn : n ≤ 1000000) (hap : ∀ (i : Nat) (a : It), itsByte[i]? = some a → ∀ x, a.has x → roomOf v ≠ some x) :
    Calls Tryz.prog 16 #[.pointer (some ⟨g, 0, none⟩), v] w fun e w' => e = .returned (.tuple #[]) ∧ BkBYV base g (m + 1) (itsByte ++ [⟨v, .slice none 0 0, n, m + 1⟩]) itsType itsValue w' ∧ TnT base (fun t => t = 52 ∨ t = kByte.tH) w w' := by
  obtain ⟨⟨sByte, sType, sValue, h1, qByte, qType, qValue⟩, h2, h3⟩ := h
  obtain ⟨al, cl, hv, _, _⟩ := ho.shape
  have KC := Lib.hid (keepByte_any base g _ sByte itsByte (fun _ => .kept) m n cl al w h1 rfl rfl rfl qByte hm hl h2 h3)
  rw [← hv] at KC
  clear hv
  have HO := Lib.hid ho
  have HAP := Lib.hid hap
  go_enter Tryz.func16, Tryz.ntmps16
  go_wp2_with fail
  refine Calls.mono KC.out ?_
  rintro e w1 ⟨rfl, s', q1, q2, q3⟩
  go_wp2_with fail
  refine ret_none Tryz.results16 ⟨rfl, ⟨⟨s', sType, sValue, q1, ?_, qType.away q3 (by decide) (by decide), qValue.away q3 (by decide) (by decide)⟩, h2, Nat.le_trans h3 q3.size⟩, q3⟩
  refine KAt.push (it := ⟨v, .slice none 0 0, n, m + 1⟩) qByte ?_ q3 (by decide) (fun i _ => rfl) ⟨rfl, xs, HO.out.kept fun b hb => ?_⟩ hn hm ?_
  · exact q2
  · obtain ⟨_, c, hc⟩ := HO.out.room hb
    exact (q3.keep hc (by decide)).trans hc.symm
  · intro i a ha x hx hx2
    rcases hx2 with hx2 | hx2
    · exact HAP.out i a ha x hx hx2
    · cases hx2
theorem bkBYV_keepType (h : BkBYV base g m itsByte itsType itsValue w) (hm : m < 100000) (hl : itsType.length < 1000000) {n : Nat} {v : Value} {xs : List Value} (ho : Own w base kType.e kType.sz v n xs) (hn : n ≤ 1000000) (hap : ∀ (i : Nat) (a : It), itsType[i]? = some a → ∀ x, a.has x → roomOf v ≠ some x) :
    Calls Tryz.prog 17 #[.pointer (some ⟨g, 0, none⟩), v] w fun e w' => e = .returned (.tuple #[]) ∧ BkBYV base g (m + 1) itsByte (itsType ++ [⟨v, .slice none 0 0, n, m + 1⟩]) itsValue w' ∧ TnT base (fun t => t = 52 ∨ t = kType.tH) w w' := by
  obtain ⟨⟨sByte, sType, sValue, h1, qByte, qType, qValue⟩, h2, h3⟩ := h
  obtain ⟨al, cl, hv, _, _⟩ := ho.shape
  have KC := Lib.hid (keepType_any base g _ sType itsType (fun _ => .kept) m n cl al w h1 rfl rfl rfl qType hm hl h2 h3)
  rw [← hv] at KC
  clear hv
  have HO := Lib.hid ho
  have HAP := Lib.hid hap
  go_enter Tryz.func17, Tryz.ntmps17
  go_wp2_with fail
  refine Calls.mono KC.out ?_
  rintro e w1 ⟨rfl, s', q1, q2, q3⟩
  go_wp2_with fail
  refine ret_none Tryz.results17 ⟨rfl, ⟨⟨sByte, s', sValue, q1, qByte.away q3 (by decide) (by decide), ?_, qValue.away q3 (by decide) (by decide)⟩, h2, Nat.le_trans h3 q3.size⟩, q3⟩
  refine KAt.push (it := ⟨v, .slice none 0 0, n, m + 1⟩) qType ?_ q3 (by decide) (fun i _ => rfl) ⟨rfl, xs, HO.out.kept fun b hb => ?_⟩ hn hm ?_
  · exact q2
  · obtain ⟨_, c, hc⟩ := HO.out.room hb
    exact (q3.keep hc (by decide)).trans hc.symm
  · intro i a ha x hx hx2
    rcases hx2 with hx2 | hx2
    · exact HAP.out i a ha x hx hx2
    · cases hx2
theorem bkBYV_keepValue (h : BkBYV base g m itsByte itsType itsValue w) (hm : m < 100000) (hl : itsValue.length < 1000000) {n : Nat} {v : Value} {xs : List Value} (ho : Own w base kValue.e kValue.sz v n xs) (hn : n ≤ 1000000) (hap : ∀ (i : Nat) (a : It), itsValue[i]? = some a → ∀ x, a.has x → roomOf v ≠ some x) :
    Calls Tryz.prog 18 #[.pointer (some ⟨g, 0, none⟩), v] w fun e w' => e = .returned (.tuple #[]) ∧ BkBYV base g (m + 1) itsByte itsType (itsValue ++ [⟨v, .slice none 0 0, n, m + 1⟩]) w' ∧ TnT base (fun t => t = 52 ∨ t = kValue.tH) w w' := by
  obtain ⟨⟨sByte, sType, sValue, h1, qByte, qType, qValue⟩, h2, h3⟩ := h
  obtain ⟨al, cl, hv, _, _⟩ := ho.shape
  have KC := Lib.hid (keepValue_any base g _ sValue itsValue (fun _ => .kept) m n cl al w h1 rfl rfl rfl qValue hm hl h2 h3)
  rw [← hv] at KC
  clear hv
  have HO := Lib.hid ho
  have HAP := Lib.hid hap
  go_enter Tryz.func18, Tryz.ntmps18
  go_wp2_with fail
  refine Calls.mono KC.out ?_
  rintro e w1 ⟨rfl, s', q1, q2, q3⟩
  go_wp2_with fail
  refine ret_none Tryz.results18 ⟨rfl, ⟨⟨sByte, sType, s', q1, qByte.away q3 (by decide) (by decide), qType.away q3 (by decide) (by decide), ?_⟩, h2, Nat.le_trans h3 q3.size⟩, q3⟩
  refine KAt.push (it := ⟨v, .slice none 0 0, n, m + 1⟩) qValue ?_ q3 (by decide) (fun i _ => rfl) ⟨rfl, xs, HO.out.kept fun b hb => ?_⟩ hn hm ?_
  · exact q2
  · obtain ⟨_, c, hc⟩ := HO.out.room hb
    exact (q3.keep hc (by decide)).trans hc.symm
  · intro i a ha x hx hx2
    rcases hx2 with hx2 | hx2
    · exact HAP.out i a ha x hx hx2
    · cases hx2
/-- .. and nothing else turns but blocks of the kinds' types. -/
theorem bkBYV_apart2 (h : BkBYV base g m itsByte itsType itsValue w) : Calls Tryz.prog 19 #[.pointer (some ⟨g, 0, none⟩)] w fun e w' => e = .returned (.bool true) ∧ TnT base tyBYV w w' := by
  obtain ⟨⟨sByte, sType, sValue, h1, qByte, qType, qValue⟩, h2, h3⟩ := h
  have h0 : StBYV base g m sByte sType sValue itsByte itsType itsValue w 0 w := ⟨h1, (by unfold KPh; rw [if_pos (by decide)]; exact qByte), (by unfold KPh; rw [if_pos (by decide)]; exact qType), (by unfold KPh; rw [if_pos (by decide)]; exact qValue), h3, Tn.refl _ _⟩
  refine (apart_any g w (StBYV base g m sByte sType sValue itsByte itsType itsValue w) h0
    stBYV_fillByte
    (stBYV_nil _ (j := 2) (i := 1) fillInt_nil rfl (by decide) (by decide) (by decide))
    (stBYV_nil _ (j := 3) (i := 2) fillLong_nil rfl (by decide) (by decide) (by decide))
    (stBYV_nil _ (j := 4) (i := 3) fillText_nil rfl (by decide) (by decide) (by decide))
    stBYV_fillType
    (stBYV_nil _ (j := 6) (i := 5) fillToken_nil rfl (by decide) (by decide) (by decide))
    (stBYV_nil _ (j := 7) (i := 6) fillRef_nil rfl (by decide) (by decide) (by decide))
    stBYV_fillValue
    (stBYV_nil _ (j := 9) (i := 8) fillPlace_nil rfl (by decide) (by decide) (by decide))
    (stBYV_nil _ (j := 10) (i := 9) fillInstr_nil rfl (by decide) (by decide) (by decide))
    (stBYV_nil _ (j := 11) (i := 10) fillFail_nil rfl (by decide) (by decide) (by decide))
    (stBYV_nil _ (j := 12) (i := 11) fillSlot_nil rfl (by decide) (by decide) (by decide))
    (stBYV_nil _ (j := 13) (i := 12) fillIn_nil rfl (by decide) (by decide) (by decide))
    (stBYV_nil _ (j := 14) (i := 13) fillExpr_nil rfl (by decide) (by decide) (by decide))
    (stBYV_nil _ (j := 15) (i := 14) fillFlow_nil rfl (by decide) (by decide) (by decide))
    (stBYV_nil _ (j := 16) (i := 15) fillJob_nil rfl (by decide) (by decide) (by decide))
    (stBYV_nil _ (j := 17) (i := 16) fillStation_nil rfl (by decide) (by decide) (by decide))
    stBYV_growByte
    (stBYV_nil _ (j := 2) (i := 18) growInt_nil rfl (by decide) (by decide) (by decide))
    (stBYV_nil _ (j := 3) (i := 19) growLong_nil rfl (by decide) (by decide) (by decide))
    (stBYV_nil _ (j := 4) (i := 20) growText_nil rfl (by decide) (by decide) (by decide))
    stBYV_growType
    (stBYV_nil _ (j := 6) (i := 22) growToken_nil rfl (by decide) (by decide) (by decide))
    (stBYV_nil _ (j := 7) (i := 23) growRef_nil rfl (by decide) (by decide) (by decide))
    stBYV_growValue
    (stBYV_nil _ (j := 9) (i := 25) growPlace_nil rfl (by decide) (by decide) (by decide))
    (stBYV_nil _ (j := 10) (i := 26) growInstr_nil rfl (by decide) (by decide) (by decide))
    (stBYV_nil _ (j := 11) (i := 27) growFail_nil rfl (by decide) (by decide) (by decide))
    (stBYV_nil _ (j := 12) (i := 28) growSlot_nil rfl (by decide) (by decide) (by decide))
    (stBYV_nil _ (j := 13) (i := 29) growIn_nil rfl (by decide) (by decide) (by decide))
    (stBYV_nil _ (j := 14) (i := 30) growExpr_nil rfl (by decide) (by decide) (by decide))
    (stBYV_nil _ (j := 15) (i := 31) growFlow_nil rfl (by decide) (by decide) (by decide))
    (stBYV_nil _ (j := 16) (i := 32) growJob_nil rfl (by decide) (by decide) (by decide))
    (stBYV_nil _ (j := 17) (i := 33) growStation_nil rfl (by decide) (by decide) (by decide))
    stBYV_lookByte
    (stBYV_lookn _ (j := 2) lookInt_nil rfl)
    (stBYV_lookn _ (j := 3) lookLong_nil rfl)
    (stBYV_lookn _ (j := 4) lookText_nil rfl)
    stBYV_lookType
    (stBYV_lookn _ (j := 6) lookToken_nil rfl)
    (stBYV_lookn _ (j := 7) lookRef_nil rfl)
    stBYV_lookValue
    (stBYV_lookn _ (j := 9) lookPlace_nil rfl)
    (stBYV_lookn _ (j := 10) lookInstr_nil rfl)
    (stBYV_lookn _ (j := 11) lookFail_nil rfl)
    (stBYV_lookn _ (j := 12) lookSlot_nil rfl)
    (stBYV_lookn _ (j := 13) lookIn_nil rfl)
    (stBYV_lookn _ (j := 14) lookExpr_nil rfl)
    (stBYV_lookn _ (j := 15) lookFlow_nil rfl)
    (stBYV_lookn _ (j := 16) lookJob_nil rfl)
    (stBYV_lookn _ (j := 17) lookStation_nil rfl)
    ).mono ?_
  rintro e w' ⟨rfl, w, h, b⟩
  exact ⟨rfl, TnT.trans h.turn (Below.tn b _)⟩
theorem bkBYV_apart (h : BkBYV base g m itsByte itsType itsValue w) : Calls Tryz.prog 19 #[.pointer (some ⟨g, 0, none⟩)] w fun e w' => e = .returned (.bool true) ∧ Below base w w' := by
  obtain ⟨⟨sByte, sType, sValue, h1, qByte, qType, qValue⟩, h2, h3⟩ := h
  exact apartBYV_any base g m sByte sType sValue itsByte itsType itsValue w h3 h1 qByte qType qValue
end
theorem Own.away {w w' : World} {base : Nat} {e : TypeId} {sz n : Nat} {v : Value} {xs : List Value} (h : Own w base e sz v n xs) {T : TypeId → Prop} (t : TnT base T w w') (he : ¬ T e) : Own w' base e sz v n xs := h.kept fun b hb => by
  obtain ⟨_, c, hc⟩ := h.room hb
  exact (t.keep hc he).trans hc.symm
end Go.Proofs.YtckpeclkkmapiaaGreatDoor
