/-
  Apart of a Book that holds lists of these kinds alone: Byte (printed by wip/genap.py).
-/
import Derived.Test.YtafamnodeliaaaaGreatDoorBkByte
import Derived.Test.YtafamnodeliaaaaGreatDoorBookApart
namespace Go.Proofs.YtafamnodeliaaaaGreatDoor
open Go.RowKit
open Go
set_option linter.unusedVariables false

/-- A kind's lists, at the i-th step of Apart. -/
def KPh (K : Kd) (base : Nat) (s : Value) (its : List It) (kk i : Nat) (w : World) : Prop :=
  if i ≤ kk then KAt K base s its (fun _ => .kept) w else if i ≤ 17 + kk then KAt K base s its (fun _ => .filled) w else ∃ jts, KAt K base s jts (fun _ => .grown) w
theorem KPh.next {K : Kd} {base : Nat} {s : Value} {its : List It} {kk i : Nat} {w : World} (h : KPh K base s its kk i w) (h1 : i ≠ kk) (h2 : i ≠ 17 + kk) : KPh K base s its kk (i + 1) w := by
  unfold KPh at *
  by_cases a1 : i ≤ kk
  · rw [if_pos a1] at h
    rw [if_pos (by omega)]
    exact h
  · rw [if_neg a1] at h
    by_cases a2 : i ≤ 17 + kk
    · rw [if_pos a2] at h
      rw [if_neg (by omega), if_pos (by omega)]
      exact h
    · rw [if_neg a2] at h
      rw [if_neg (by omega), if_neg (by omega)]
      exact h
theorem KPh.away {K : Kd} {base : Nat} {s : Value} {its : List It} {kk i : Nat} {w w' : World} (h : KPh K base s its kk i w) {T : TypeId → Prop} (t : TnT base T w w') (he : ¬ T K.e) (hH : ¬ T K.tH) : KPh K base s its kk i w' := by
  unfold KPh at *
  by_cases a1 : i ≤ kk
  · rw [if_pos a1] at h ⊢
    exact h.away t he hH
  · rw [if_neg a1] at h ⊢
    by_cases a2 : i ≤ 17 + kk
    · rw [if_pos a2] at h ⊢
      exact h.away t he hH
    · rw [if_neg a2] at h ⊢
      obtain ⟨jts, h⟩ := h
      exact ⟨jts, h.away t he hH⟩

/-- The Book's cells. -/
def bookB (m : Nat) (sByte : Value) : Array Value := #[(.int .i64 m), sByte, .slice none 0 0, .slice none 0 0, .slice none 0 0, .slice none 0 0, .slice none 0 0, .slice none 0 0, .slice none 0 0, .slice none 0 0, .slice none 0 0, .slice none 0 0, .slice none 0 0, .slice none 0 0, .slice none 0 0, .slice none 0 0, .slice none 0 0, .slice none 0 0]
abbrev tyB : TypeId → Prop := fun t => t = kByte.e ∨ t = kByte.tH
/-- The i-th step. -/
structure StB (base g m : Nat) (sByte : Value) (itsByte : List It) (W : World) (i : Nat) (w : World) : Prop where
  at_ : w.heap[g]? = some (.cells (bookB m sByte) 46 (0, 0))
  kByte : KPh kByte base sByte itsByte 0 i w
  low : base ≤ W.heap.size
  turn : TnT base tyB W w
section
variable {base g m : Nat} {sByte : Value} {itsByte : List It} {W : World}
theorem StB.next {i : Nat} {w : World} (h : StB base g m sByte itsByte W i w) (hByte : i ≠ 0 ∧ i ≠ 17) : StB base g m sByte itsByte W (i + 1) w :=
  ⟨h.at_, h.kByte.next hByte.1 hByte.2, h.low, h.turn⟩
theorem StB.cell {i : Nat} {w : World} (h : StB base g m sByte itsByte W i w) {j : Nat} {v : Value} (hj : (bookB m sByte)[j]? = some v) : w.cell? ⟨g, j, none⟩ = some v := (cell_of_row _ _ _ _ _ _ h.at_).trans hj
theorem stB_fillByte : Hid (∀ w, StB base g m sByte itsByte W 0 w → Calls Tryz.prog 26 #[.pointer (some ⟨g, 0, none⟩)] w fun e w' => e = .returned (.tuple #[]) ∧ StB base g m sByte itsByte W 1 w') := by
  refine Lib.hid fun w h => ?_
  have hk := h.kByte
  unfold KPh at hk
  rw [if_pos (by decide)] at hk
  refine (fillByte_any base g _ sByte itsByte w h.at_ rfl hk).mono ?_
  rintro e w' ⟨rfl, k1, t⟩
  exact ⟨rfl, t.keep h.at_ (by decide), (by unfold KPh; rw [if_neg (by decide), if_pos (by decide)]; exact k1), h.low, TnT.trans h.turn (t.mono fun t ht => by rcases ht with rfl | rfl <;> decide)⟩
theorem stB_growByte : Hid (∀ w, StB base g m sByte itsByte W 17 w → Calls Tryz.prog 43 #[.pointer (some ⟨g, 0, none⟩)] w fun e w' => e = .returned (.tuple #[]) ∧ StB base g m sByte itsByte W 18 w') := by
  refine Lib.hid fun w h => ?_
  have hk := h.kByte
  unfold KPh at hk
  rw [if_neg (by decide), if_pos (by decide)] at hk
  refine (growByte_any base g _ sByte itsByte w h.at_ rfl (Nat.le_trans h.low h.turn.size) hk).mono ?_
  rintro e w' ⟨rfl, k1, t⟩
  exact ⟨rfl, t.keep h.at_ (by decide), (by unfold KPh; rw [if_neg (by decide), if_neg (by decide)]; exact k1), h.low, TnT.trans h.turn (t.mono fun t ht => by rcases ht with rfl | rfl <;> decide)⟩
theorem stB_lookByte (w : World) (h : StB base g m sByte itsByte W 34 w) : Looks w 60 g := by
  intro w' b
  have hk := h.kByte
  unfold KPh at hk
  rw [if_neg (by decide), if_neg (by decide)] at hk
  obtain ⟨jts, hk⟩ := hk
  exact lookByte_any base g _ sByte jts w h.at_ rfl hk w' b
theorem stB_nil (f : FuncId) {j i : Nat} (hf : ∀ (g : Nat) (w : World), w.cell? ⟨g, j, none⟩ = some (.slice none 0 0) → Calls Tryz.prog f #[.pointer (some ⟨g, 0, none⟩)] w fun e w' => e = .returned (.tuple #[]) ∧ w = w') (hj : (bookB m sByte)[j]? = some (.slice none 0 0)) (hByte : i ≠ 0 ∧ i ≠ 17) :
    Hid (∀ w, StB base g m sByte itsByte W i w → Calls Tryz.prog f #[.pointer (some ⟨g, 0, none⟩)] w fun e w' => e = .returned (.tuple #[]) ∧ StB base g m sByte itsByte W (i + 1) w') := by
  refine Lib.hid fun w h => (hf g w (h.cell hj)).mono ?_
  rintro e w' ⟨rfl, rfl⟩
  exact ⟨rfl, h.next hByte⟩
theorem stB_lookn (f : FuncId) {j : Nat} (hf : ∀ (g : Nat) (w : World), w.cell? ⟨g, j, none⟩ = some (.slice none 0 0) → Calls Tryz.prog f #[.pointer (some ⟨g, 0, none⟩)] w fun e w' => e = .returned (.bool true) ∧ w = w') (hj : (bookB m sByte)[j]? = some (.slice none 0 0))
    (w : World) (h : StB base g m sByte itsByte W 34 w) : Looks w f g := by
  intro w' b
  refine (hf g w' ((cell_of_row _ _ _ _ _ _ ((b.block _ (lt_of_block h.at_)).trans h.at_)).trans hj)).mono ?_
  rintro e w'' ⟨rfl, rfl⟩
  exact ⟨rfl, Below.refl _ _⟩
end
theorem apartB_any (base g m : Nat) (sByte : Value) (itsByte : List It) (W : World) (hz : base ≤ W.heap.size) (hg : W.heap[g]? = some (.cells (bookB m sByte) 46 (0, 0))) (hByte : KAt kByte base sByte itsByte (fun _ => .kept) W) :
    Calls Tryz.prog 16 #[.pointer (some ⟨g, 0, none⟩)] W fun e w' => e = .returned (.bool true) ∧ Below base W w' := by
  have h0 : StB base g m sByte itsByte W 0 W := ⟨hg, (by unfold KPh; rw [if_pos (by decide)]; exact hByte), hz, Tn.refl _ _⟩
  refine (apart_any g W (StB base g m sByte itsByte W) h0
    stB_fillByte
    (stB_nil _ (j := 2) (i := 1) fillInt_nil rfl (by decide))
    (stB_nil _ (j := 3) (i := 2) fillLong_nil rfl (by decide))
    (stB_nil _ (j := 4) (i := 3) fillText_nil rfl (by decide))
    (stB_nil _ (j := 5) (i := 4) fillType_nil rfl (by decide))
    (stB_nil _ (j := 6) (i := 5) fillToken_nil rfl (by decide))
    (stB_nil _ (j := 7) (i := 6) fillRef_nil rfl (by decide))
    (stB_nil _ (j := 8) (i := 7) fillValue_nil rfl (by decide))
    (stB_nil _ (j := 9) (i := 8) fillPlace_nil rfl (by decide))
    (stB_nil _ (j := 10) (i := 9) fillInstr_nil rfl (by decide))
    (stB_nil _ (j := 11) (i := 10) fillFail_nil rfl (by decide))
    (stB_nil _ (j := 12) (i := 11) fillSlot_nil rfl (by decide))
    (stB_nil _ (j := 13) (i := 12) fillIn_nil rfl (by decide))
    (stB_nil _ (j := 14) (i := 13) fillExpr_nil rfl (by decide))
    (stB_nil _ (j := 15) (i := 14) fillFlow_nil rfl (by decide))
    (stB_nil _ (j := 16) (i := 15) fillJob_nil rfl (by decide))
    (stB_nil _ (j := 17) (i := 16) fillStation_nil rfl (by decide))
    stB_growByte
    (stB_nil _ (j := 2) (i := 18) growInt_nil rfl (by decide))
    (stB_nil _ (j := 3) (i := 19) growLong_nil rfl (by decide))
    (stB_nil _ (j := 4) (i := 20) growText_nil rfl (by decide))
    (stB_nil _ (j := 5) (i := 21) growType_nil rfl (by decide))
    (stB_nil _ (j := 6) (i := 22) growToken_nil rfl (by decide))
    (stB_nil _ (j := 7) (i := 23) growRef_nil rfl (by decide))
    (stB_nil _ (j := 8) (i := 24) growValue_nil rfl (by decide))
    (stB_nil _ (j := 9) (i := 25) growPlace_nil rfl (by decide))
    (stB_nil _ (j := 10) (i := 26) growInstr_nil rfl (by decide))
    (stB_nil _ (j := 11) (i := 27) growFail_nil rfl (by decide))
    (stB_nil _ (j := 12) (i := 28) growSlot_nil rfl (by decide))
    (stB_nil _ (j := 13) (i := 29) growIn_nil rfl (by decide))
    (stB_nil _ (j := 14) (i := 30) growExpr_nil rfl (by decide))
    (stB_nil _ (j := 15) (i := 31) growFlow_nil rfl (by decide))
    (stB_nil _ (j := 16) (i := 32) growJob_nil rfl (by decide))
    (stB_nil _ (j := 17) (i := 33) growStation_nil rfl (by decide))
    stB_lookByte
    (stB_lookn _ (j := 2) lookInt_nil rfl)
    (stB_lookn _ (j := 3) lookLong_nil rfl)
    (stB_lookn _ (j := 4) lookText_nil rfl)
    (stB_lookn _ (j := 5) lookType_nil rfl)
    (stB_lookn _ (j := 6) lookToken_nil rfl)
    (stB_lookn _ (j := 7) lookRef_nil rfl)
    (stB_lookn _ (j := 8) lookValue_nil rfl)
    (stB_lookn _ (j := 9) lookPlace_nil rfl)
    (stB_lookn _ (j := 10) lookInstr_nil rfl)
    (stB_lookn _ (j := 11) lookFail_nil rfl)
    (stB_lookn _ (j := 12) lookSlot_nil rfl)
    (stB_lookn _ (j := 13) lookIn_nil rfl)
    (stB_lookn _ (j := 14) lookExpr_nil rfl)
    (stB_lookn _ (j := 15) lookFlow_nil rfl)
    (stB_lookn _ (j := 16) lookJob_nil rfl)
    (stB_lookn _ (j := 17) lookStation_nil rfl)
    ).mono ?_
  rintro e w' ⟨rfl, w, h, b⟩
  exact ⟨rfl, (h.turn.toBelow hz).trans (b.mono (Nat.le_trans hz h.turn.size))⟩

/-- A Book that holds these lists, all of them new since base. -/
structure BkB (base g m : Nat) (itsByte : List It) (w : World) : Prop where
  at_ : ∃ sByte : Value, w.heap[g]? = some (.cells (bookB m sByte) 46 (0, 0)) ∧ KAt kByte base sByte itsByte (fun _ => .kept) w
  low : base ≤ g
  size : base ≤ w.heap.size
theorem kat_nil (K : Kd) (base : Nat) (w : World) (ph : Nat → Ph) : KAt K base (.slice none 0 0) [] ph w :=
  ⟨⟨rfl, .inl ⟨rfl, rfl⟩⟩, fun i it hi => by simp at hi, fun i j a b _ hi => by simp at hi⟩
theorem bkB_start (base : Nat) (w : World) (hb : base ≤ w.heap.size) : BkB base w.heap.size 0 [] (w.alloc (.cells (bookB 0 (.slice none 0 0)) 46 (0, 0))) :=
  ⟨⟨.slice none 0 0, heap_alloc_new _ _, kat_nil _ _ _ _⟩, hb, by simp; omega⟩
section
variable {base g m : Nat} {itsByte : List It} {w w' : World}
theorem BkB.below (h : BkB base g m itsByte w) (hb : Below w.heap.size w w') : BkB base g m itsByte w' := by
  obtain ⟨⟨sByte, h1, qByte⟩, h2, h3⟩ := h
  exact ⟨⟨sByte, (hb.block g (lt_of_block h1)).trans h1, qByte.below hb⟩, h2, Nat.le_trans h3 hb.size⟩
theorem bkB_keepByte (h : BkB base g m itsByte w) (hm : m < 100000) (hl : itsByte.length < 1000000) {n : Nat} {v : Value} {xs : List Value} (ho : Own w base kByte.e kByte.sz v n xs) (hn : n ≤ 1000000) (hap : ∀ (i : Nat) (a : It), itsByte[i]? = some a → ∀ x, a.has x → roomOf v ≠ some x) :
    Calls Tryz.prog 12 #[.pointer (some ⟨g, 0, none⟩), v] w fun e w' => e = .returned (.tuple #[]) ∧ BkB base g (m + 1) (itsByte ++ [⟨v, .slice none 0 0, n, m + 1⟩]) w' ∧ TnT base (fun t => t = 46 ∨ t = kByte.tH) w w' := by
  obtain ⟨⟨sByte, h1, qByte⟩, h2, h3⟩ := h
  obtain ⟨al, cl, hv, _, _⟩ := ho.shape
  have KC := Lib.hid (keepByte_any base g _ sByte itsByte (fun _ => .kept) m n cl al w h1 rfl rfl rfl qByte hm hl h2 h3)
  rw [← hv] at KC
  clear hv
  have HO := Lib.hid ho
  have HAP := Lib.hid hap
  go_enter Tryz.func12, Tryz.ntmps12
  go_wp2_with fail
  refine Calls.mono KC.out ?_
  rintro e w1 ⟨rfl, s', q1, q2, q3⟩
  go_wp2_with fail
  refine ret_none Tryz.results12 ⟨rfl, ⟨⟨s', q1, ?_⟩, h2, Nat.le_trans h3 q3.size⟩, q3⟩
  refine KAt.push (it := ⟨v, .slice none 0 0, n, m + 1⟩) qByte ?_ q3 (by decide) (fun i _ => rfl) ⟨rfl, xs, HO.out.kept fun b hb => ?_⟩ hn hm ?_
  · exact q2
  · obtain ⟨_, c, hc⟩ := HO.out.room hb
    exact (q3.keep hc (by decide)).trans hc.symm
  · intro i a ha x hx hx2
    rcases hx2 with hx2 | hx2
    · exact HAP.out i a ha x hx hx2
    · cases hx2
/-- .. and nothing else turns but blocks of the kinds' types. -/
theorem bkB_apart2 (h : BkB base g m itsByte w) : Calls Tryz.prog 16 #[.pointer (some ⟨g, 0, none⟩)] w fun e w' => e = .returned (.bool true) ∧ TnT base tyB w w' := by
  obtain ⟨⟨sByte, h1, qByte⟩, h2, h3⟩ := h
  have h0 : StB base g m sByte itsByte w 0 w := ⟨h1, (by unfold KPh; rw [if_pos (by decide)]; exact qByte), h3, Tn.refl _ _⟩
  refine (apart_any g w (StB base g m sByte itsByte w) h0
    stB_fillByte
    (stB_nil _ (j := 2) (i := 1) fillInt_nil rfl (by decide))
    (stB_nil _ (j := 3) (i := 2) fillLong_nil rfl (by decide))
    (stB_nil _ (j := 4) (i := 3) fillText_nil rfl (by decide))
    (stB_nil _ (j := 5) (i := 4) fillType_nil rfl (by decide))
    (stB_nil _ (j := 6) (i := 5) fillToken_nil rfl (by decide))
    (stB_nil _ (j := 7) (i := 6) fillRef_nil rfl (by decide))
    (stB_nil _ (j := 8) (i := 7) fillValue_nil rfl (by decide))
    (stB_nil _ (j := 9) (i := 8) fillPlace_nil rfl (by decide))
    (stB_nil _ (j := 10) (i := 9) fillInstr_nil rfl (by decide))
    (stB_nil _ (j := 11) (i := 10) fillFail_nil rfl (by decide))
    (stB_nil _ (j := 12) (i := 11) fillSlot_nil rfl (by decide))
    (stB_nil _ (j := 13) (i := 12) fillIn_nil rfl (by decide))
    (stB_nil _ (j := 14) (i := 13) fillExpr_nil rfl (by decide))
    (stB_nil _ (j := 15) (i := 14) fillFlow_nil rfl (by decide))
    (stB_nil _ (j := 16) (i := 15) fillJob_nil rfl (by decide))
    (stB_nil _ (j := 17) (i := 16) fillStation_nil rfl (by decide))
    stB_growByte
    (stB_nil _ (j := 2) (i := 18) growInt_nil rfl (by decide))
    (stB_nil _ (j := 3) (i := 19) growLong_nil rfl (by decide))
    (stB_nil _ (j := 4) (i := 20) growText_nil rfl (by decide))
    (stB_nil _ (j := 5) (i := 21) growType_nil rfl (by decide))
    (stB_nil _ (j := 6) (i := 22) growToken_nil rfl (by decide))
    (stB_nil _ (j := 7) (i := 23) growRef_nil rfl (by decide))
    (stB_nil _ (j := 8) (i := 24) growValue_nil rfl (by decide))
    (stB_nil _ (j := 9) (i := 25) growPlace_nil rfl (by decide))
    (stB_nil _ (j := 10) (i := 26) growInstr_nil rfl (by decide))
    (stB_nil _ (j := 11) (i := 27) growFail_nil rfl (by decide))
    (stB_nil _ (j := 12) (i := 28) growSlot_nil rfl (by decide))
    (stB_nil _ (j := 13) (i := 29) growIn_nil rfl (by decide))
    (stB_nil _ (j := 14) (i := 30) growExpr_nil rfl (by decide))
    (stB_nil _ (j := 15) (i := 31) growFlow_nil rfl (by decide))
    (stB_nil _ (j := 16) (i := 32) growJob_nil rfl (by decide))
    (stB_nil _ (j := 17) (i := 33) growStation_nil rfl (by decide))
    stB_lookByte
    (stB_lookn _ (j := 2) lookInt_nil rfl)
    (stB_lookn _ (j := 3) lookLong_nil rfl)
    (stB_lookn _ (j := 4) lookText_nil rfl)
    (stB_lookn _ (j := 5) lookType_nil rfl)
    (stB_lookn _ (j := 6) lookToken_nil rfl)
    (stB_lookn _ (j := 7) lookRef_nil rfl)
    (stB_lookn _ (j := 8) lookValue_nil rfl)
    (stB_lookn _ (j := 9) lookPlace_nil rfl)
    (stB_lookn _ (j := 10) lookInstr_nil rfl)
    (stB_lookn _ (j := 11) lookFail_nil rfl)
    (stB_lookn _ (j := 12) lookSlot_nil rfl)
    (stB_lookn _ (j := 13) lookIn_nil rfl)
    (stB_lookn _ (j := 14) lookExpr_nil rfl)
    (stB_lookn _ (j := 15) lookFlow_nil rfl)
    (stB_lookn _ (j := 16) lookJob_nil rfl)
    (stB_lookn _ (j := 17) lookStation_nil rfl)
    ).mono ?_
  rintro e w' ⟨rfl, w, h, b⟩
  exact ⟨rfl, TnT.trans h.turn (Below.tn b _)⟩
theorem bkB_apart (h : BkB base g m itsByte w) : Calls Tryz.prog 16 #[.pointer (some ⟨g, 0, none⟩)] w fun e w' => e = .returned (.bool true) ∧ Below base w w' := by
  obtain ⟨⟨sByte, h1, qByte⟩, h2, h3⟩ := h
  exact apartB_any base g m sByte itsByte w h3 h1 qByte
end
theorem Own.away {w w' : World} {base : Nat} {e : TypeId} {sz n : Nat} {v : Value} {xs : List Value} (h : Own w base e sz v n xs) {T : TypeId → Prop} (t : TnT base T w w') (he : ¬ T e) : Own w' base e sz v n xs := h.kept fun b hb => by
  obtain ⟨_, c, hc⟩ := h.room hb
  exact (t.keep hc he).trans hc.symm
end Go.Proofs.YtafamnodeliaaaaGreatDoor
