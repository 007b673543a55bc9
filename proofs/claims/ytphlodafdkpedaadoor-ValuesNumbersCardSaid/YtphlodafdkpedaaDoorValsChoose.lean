/-
  values.choose: of three.
-/
import Derived.Test.YtphlodafdkpedaaDoorValsDeeds
namespace Go.Proofs.YtphlodafdkpedaaDoor
open Go.RowKit
open Go

/-- Results: a row in memory, and a slot. -/
theorem results_row_tmp {P : Program} {fn : Func} {p u : Tmp} {ty : TypeId} (h : fn.results = #[.cell p ty, .tmp u]) (tmps : Array Value) (w : World) (g : Nat) (t : TypeId) (cs : Array Value) (fr : Nat × Nat) (d : TypeDesc)
    (hp : tmps.getD p undef = .pointer (some ⟨g, 0, none⟩)) (hg : w.heap[g]? = some (.cells cs t fr))
    (hu : P.underlying ty = some d) (hd : (match d with | .struct _ | .array _ _ => true | _ => false) = true) (hi : (P.info? ty).map (·.size) = some cs.size) :
    (results fn tmps).run P w = .ok (.tuple #[.agg cs, tmps.getD u undef]) w := by
  rw [results_cell_tmp h, hp]
  simp [asAddr, Result.andThen, run_loadVar_row w g t ty cs fr d hg hu hd hi]
/-- Of three, one. -/
def chooseV (a b d : VT) : VT × Int := if a.1 = 2 ∧ b.1 = d.1 then (if a.2 = 1 then b else d, 0) else ((0, 0), 7)
/-- Three values side by side. -/
def Trip (w : World) (bq oq : Nat) (a b d : VT) : Prop := Pair w bq oq a b ∧ w.cell? ⟨bq, oq + 4, none⟩ = some (.int .u8 d.1) ∧ w.cell? ⟨bq, oq + 4 + 1, none⟩ = some (.int .i64 d.2)
theorem Trip.below {w w' : World} {bq oq : Nat} {a b d : VT} (h : Trip w bq oq a b d) (hb : Below w.heap.size w w') : Trip w' bq oq a b d :=
  ⟨⟨below_cells hb _ _ h.1.1, below_cells hb _ _ h.1.2.1, below_cells hb _ _ h.1.2.2.1, below_cells hb _ _ h.1.2.2.2⟩, below_cells hb _ _ h.2.1, below_cells hb _ _ h.2.2⟩
set_option maxHeartbeats 2000000 in
theorem choose_any (a b d : VT) (bq oq c : Nat) (w : World) (h : Trip w bq oq a b d) : Calls Tryd.prog 26 #[.slice (some ⟨bq, oq, none⟩) 3 c] w fun e w' =>
    e = .returned (.tuple #[aggV (chooseV a b d).1, .int .i64 (chooseV a b d).2]) ∧ Below w.heap.size w w' := by
  have B1 := balloc (Below.refl w.heap.size w) (.cells #[.int .u8 0, .int .i64 0] 24 (0, 0))
  have h1 := h.below B1
  have A0 := Lib.hid (heap_alloc_new w (.cells #[.int .u8 0, .int .i64 0] 24 (0, 0)))
  have IS := fun w => is_any a w
  have HI := Lib.hid IS
  obtain ⟨a1, a2⟩ := a
  obtain ⟨b1, b2⟩ := b
  obtain ⟨d1, d2⟩ := d
  obtain ⟨⟨y0, y1, y2, y3⟩, y4, y5⟩ := h1
  clear h IS
  unfold chooseV
  by_cases e1 : a1 = 2
  · have e1' : (a1 != 2) = false := by simpa using e1
    by_cases e2 : b1 = d1
    · subst e1
      subst e2
      rw [if_pos ⟨rfl, rfl⟩]
      have H5 : Hid (∀ w9, Below (w.alloc (.cells #[.int .u8 0, .int .i64 0] 24 (0, 0))).heap.size (w.alloc (.cells #[.int .u8 0, .int .i64 0] 24 (0, 0))) w9 → (w9.cell? ⟨bq, oq + 2, none⟩ = some (.int .u8 b1) ∧ w9.cell? ⟨bq, oq + 2 + 1, none⟩ = some (.int .i64 b2)) ∧ (w9.cell? ⟨bq, oq + 4, none⟩ = some (.int .u8 b1) ∧ w9.cell? ⟨bq, oq + 4 + 1, none⟩ = some (.int .i64 d2)) ∧ w9.heap[w.heap.size]? = some (.cells #[.int .u8 0, .int .i64 0] 24 (0, 0))) :=
        fun w9 b9 => ⟨⟨below_cells b9 _ _ y2, below_cells b9 _ _ y3⟩, ⟨below_cells b9 _ _ y4, below_cells b9 _ _ y5⟩, (b9.block _ (lt_of_block A0.out)).trans A0.out⟩
      have eb : (b1 != b1) = false := by simp
      by_cases e3 : a2 = 1
      · have e3' : (a2 == 1) = true := by simpa using e3
        rw [if_pos e3]
        rw [e3'] at HI
        clear e3 e3'
        go_enter Tryd.func26, Tryd.ntmps26
        go_wp2_with fail
        go_quiet (fail)
        go_wp2_with fail
        refine (HI.out _).mono ?_
        rintro e w8 ⟨rfl, b8⟩
        obtain ⟨⟨z2, z3⟩, ⟨z4, z5⟩, A8⟩ := H5.out w8 ((bdraw (Below.refl _ _) _).trans (b8.mono (Nat.le_refl _)))
        have B8 := bnext (bdraw B1 nq) b8
        have A8 := Lib.hid A8
        have c0 : w8.cell? ⟨w.heap.size, 0, none⟩ = some (.int .u8 0) := cell_of_row _ _ 0 _ _ _ A8.out
        have c1 : w8.cell? ⟨w.heap.size, 1, none⟩ = some (.int .i64 0) := cell_of_row _ _ 1 _ _ _ A8.out
        have f0 := frozen_of_row _ _ 0 _ _ A8.out
        have f1 := frozen_of_row _ _ 1 _ _ A8.out
        clear b8
        go_wp2_with fail
        exact bodyPost_ret (results_row_tmp Tryd.results26 _ _ w.heap.size _ _ _ _ rfl (heap_setCell_same _ _ 1 _ _ _ (heap_setCell_same _ _ 0 _ _ _ A8.out)) Tryd.underlying24 rfl infoV) rfl ⟨rfl, (B8.setCell (p := ⟨w.heap.size, 0, none⟩) (Nat.le_refl _) _).setCell (p := ⟨w.heap.size, 1, none⟩) (Nat.le_refl _) _⟩
      · have e3' : (a2 == 1) = false := by simpa using e3
        rw [if_neg e3]
        rw [e3'] at HI
        clear e3 e3'
        go_enter Tryd.func26, Tryd.ntmps26
        go_wp2_with fail
        go_quiet (fail)
        go_wp2_with fail
        refine (HI.out _).mono ?_
        rintro e w8 ⟨rfl, b8⟩
        obtain ⟨⟨z2, z3⟩, ⟨z4, z5⟩, A8⟩ := H5.out w8 ((bdraw (Below.refl _ _) _).trans (b8.mono (Nat.le_refl _)))
        have B8 := bnext (bdraw B1 nq) b8
        have A8 := Lib.hid A8
        have c0 : w8.cell? ⟨w.heap.size, 0, none⟩ = some (.int .u8 0) := cell_of_row _ _ 0 _ _ _ A8.out
        have c1 : w8.cell? ⟨w.heap.size, 1, none⟩ = some (.int .i64 0) := cell_of_row _ _ 1 _ _ _ A8.out
        have f0 := frozen_of_row _ _ 0 _ _ A8.out
        have f1 := frozen_of_row _ _ 1 _ _ A8.out
        clear b8
        go_wp2_with fail
        exact bodyPost_ret (results_row_tmp Tryd.results26 _ _ w.heap.size _ _ _ _ rfl (heap_setCell_same _ _ 1 _ _ _ (heap_setCell_same _ _ 0 _ _ _ A8.out)) Tryd.underlying24 rfl infoV) rfl ⟨rfl, (B8.setCell (p := ⟨w.heap.size, 0, none⟩) (Nat.le_refl _) _).setCell (p := ⟨w.heap.size, 1, none⟩) (Nat.le_refl _) _⟩
    · have e2' : (b1 != d1) = true := by simpa using e2
      rw [if_neg (fun h => e2 h.2)]
      clear e1 e2
      go_enter Tryd.func26, Tryd.ntmps26
      go_wp2_with fail
      go_quiet (fail)
      go_wp2_with fail
      exact bodyPost_ret (results_row_tmp Tryd.results26 _ _ w.heap.size _ _ _ _ rfl (heap_setCell_same _ _ 1 _ _ _ (heap_setCell_same _ _ 0 _ _ _ A0.out)) Tryd.underlying24 rfl infoV) rfl ⟨rfl, ((bdraw B1 _).setCell (p := ⟨w.heap.size, 0, none⟩) (Nat.le_refl _) _).setCell (p := ⟨w.heap.size, 1, none⟩) (Nat.le_refl _) _⟩
  · have e1' : (a1 != 2) = true := by simpa using e1
    rw [if_neg (fun h => e1 h.1)]
    clear e1
    go_enter Tryd.func26, Tryd.ntmps26
    go_wp2_with fail
    go_quiet (fail)
    go_wp2_with fail
    exact bodyPost_ret (results_row_tmp Tryd.results26 _ _ w.heap.size _ _ _ _ rfl (heap_setCell_same _ _ 1 _ _ _ (heap_setCell_same _ _ 0 _ _ _ A0.out)) Tryd.underlying24 rfl infoV) rfl ⟨rfl, ((bdraw B1 _).setCell (p := ⟨w.heap.size, 0, none⟩) (Nat.le_refl _) _).setCell (p := ⟨w.heap.size, 1, none⟩) (Nat.le_refl _) _⟩
end Go.Proofs.YtphlodafdkpedaaDoor
