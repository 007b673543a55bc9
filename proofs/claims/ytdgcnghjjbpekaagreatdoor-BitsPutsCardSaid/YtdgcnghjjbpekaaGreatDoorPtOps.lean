/-
  The operations of the one region of BitsPuts, a lemma for each kind.
-/
import Derived.Test.YtdgcnghjjbpekaaGreatDoorAnyC
import Derived.Test.YtdgcnghjjbpekaaGreatDoorPtInv
import Derived.RegionTactic
namespace Go.Proofs.YtdgcnghjjbpekaaGreatDoor
open Go.RowKit
open Go

section
variable {dl bs : List Nat} {ds : List Dv} {imps : List (Nat × Nat)} {C : Bool → Bool → World → Prop} {i1 i2 i : Nat} {Q : Exit → Act → World → Prop} {o : Oper}
theorem sc_move {x : Operand} {v : Value} {d : Nat} (h1 : i ≠ i1) (h2 : i ≠ i2) (ho : o.op = .move x) (hw : wantB dl bs ds o = some true) (hd : o.dst = some d) (hx : opV dl bs ds o x = some v) (he : ds.getD d .any = .lit v) : StepOk Tryz.prog dl bs ds imps C i1 i2 Q i o :=
  sc_val h1 h2 hw d hd _ he fun a w _ _ _ hk => ⟨v, by unfold execOp; rw [ho]; simp only [hk.val hx]; rfl, rfl⟩
theorem sc_pick {c x y : Operand} {b : Bool} {v : Value} {d : Nat} (h1 : i ≠ i1) (h2 : i ≠ i2) (ho : o.op = .pick c x y) (hw : wantB dl bs ds o = some true) (hd : o.dst = some d) (hc : opV dl bs ds o c = some (.bool b)) (hx : opV dl bs ds o (bif b then x else y) = some v) (he : ds.getD d .any = .lit v) : StepOk Tryz.prog dl bs ds imps C i1 i2 Q i o :=
  sc_val h1 h2 hw d hd _ he fun a w _ _ _ hk => ⟨v, by
    unfold execOp
    rw [ho]
    have h1 := hk.val hc
    have h2 := hk.val hx
    cases b
    · simp only [cond_false] at h2
      simp only [h1, h2]
      rfl
    · simp only [cond_true] at h2
      simp only [h1, h2]
      rfl, rfl⟩
theorem sc_index {x y : Operand} {b off n c k : Nat} {d : Nat} (h1 : i ≠ i1) (h2 : i ≠ i2) (ho : o.op = .indexAddr 22 x y) (hw : wantB dl bs ds o = some true) (hd : o.dst = some d)
    (hx : opV dl bs ds o x = some (.slice (some ⟨b, off, none⟩) n c)) (hy : opV dl bs ds o y = some (.int .i64 k)) (hkn : k < n) (he : ds.getD d .any = .lit (.pointer (some ⟨b, off + k * 2, none⟩))) : StepOk Tryz.prog dl bs ds imps C i1 i2 Q i o :=
  sc_val h1 h2 hw d hd _ he fun a w _ _ _ hk => ⟨_, by
    have e1 := hk.val hx
    have e2 := hk.val hy
    have e3 : (0 : Int) ≤ k := by omega
    have e4 : (k : Int) < n := by omega
    unfold execOp
    rw [ho]
    simp only [e1, e2]
    go_simp, rfl⟩
theorem sc_fieldN {x : Operand} {b off : Nat} {d : Nat} (h1 : i ≠ i1) (h2 : i ≠ i2) (ho : o.op = .fieldAddr 52 x 0) (hw : wantB dl bs ds o = some true) (hd : o.dst = some d)
    (hx : opV dl bs ds o x = some (.pointer (some ⟨b, off, none⟩))) (he : ds.getD d .any = .lit (.pointer (some ⟨b, off, none⟩))) : StepOk Tryz.prog dl bs ds imps C i1 i2 Q i o :=
  sc_val h1 h2 hw d hd _ he fun a w _ _ _ hk => ⟨_, by
    have e1 := hk.val hx
    unfold execOp
    rw [ho]
    simp only [e1]
    go_simp, rfl⟩
theorem sc_fieldK {x : Operand} {b off : Nat} {d : Nat} (h1 : i ≠ i1) (h2 : i ≠ i2) (ho : o.op = .fieldAddr 52 x 1) (hw : wantB dl bs ds o = some true) (hd : o.dst = some d)
    (hx : opV dl bs ds o x = some (.pointer (some ⟨b, off, none⟩))) (he : ds.getD d .any = .lit (.pointer (some ⟨b, off + 1, none⟩))) : StepOk Tryz.prog dl bs ds imps C i1 i2 Q i o :=
  sc_val h1 h2 hw d hd _ he fun a w _ _ _ hk => ⟨_, by
    have e1 := hk.val hx
    unfold execOp
    rw [ho]
    simp only [e1]
    go_simp, rfl⟩
theorem sc_fieldL {x : Operand} {b off : Nat} {d : Nat} (h1 : i ≠ i1) (h2 : i ≠ i2) (ho : o.op = .fieldAddr 28 x 0) (hw : wantB dl bs ds o = some true) (hd : o.dst = some d)
    (hx : opV dl bs ds o x = some (.pointer (some ⟨b, off, none⟩))) (he : ds.getD d .any = .lit (.pointer (some ⟨b, off, none⟩))) : StepOk Tryz.prog dl bs ds imps C i1 i2 Q i o :=
  sc_val h1 h2 hw d hd _ he fun a w _ _ _ hk => ⟨_, by
    have e1 := hk.val hx
    unfold execOp
    rw [ho]
    simp only [e1]
    go_simp, rfl⟩
theorem sc_nilc {x : Operand} {p : Addr} {d : Nat} (h1 : i ≠ i1) (h2 : i ≠ i2) (ho : o.op = .nilCheck x) (hw : wantB dl bs ds o = some true) (hd : o.dst = some d)
    (hx : opV dl bs ds o x = some (.pointer (some p))) (he : ds.getD d .any = .lit (.pointer (some p))) : StepOk Tryz.prog dl bs ds imps C i1 i2 Q i o :=
  sc_val h1 h2 hw d hd _ he fun a w _ _ _ hk => ⟨_, by
    have e1 := hk.val hx
    unfold execOp
    rw [ho]
    simp only [e1]
    go_simp, rfl⟩
theorem sc_load {x : Operand} {p : Addr} {d : Nat} {v : Value} (t : TypeId) (h1 : i ≠ i1) (h2 : i ≠ i2) (ho : o.op = .load t x) (hw : wantB dl bs ds o = some true) (hd : o.dst = some d)
    (hx : opV dl bs ds o x = some (.pointer (some p))) (ht : ∀ w, (isAgg t).run Tryz.prog w = .ok false w) (hc : ∀ w b1 b2, C b1 b2 w → w.cell? p = some v) (he : ds.getD d .any = .lit v) : StepOk Tryz.prog dl bs ds imps C i1 i2 Q i o :=
  sc_val h1 h2 hw d hd _ he fun a w b1 b2 hC hk => ⟨_, by
    have e1 := hk.val hx
    have e2 := hc w b1 b2 hC
    unfold execOp
    rw [ho]
    simp only [e1, Instr.loadAt, Instr.sureAddr, Sem.run_bind, Sem.run_pure, Result.andThen_ok]
    simp [loadVar, Sem.run_bind, ht, load, Sem.run, e2], rfl⟩
theorem sc_neqE {x y : Operand} {t rt : TypeId} {z : Int} {d : Nat} (h1 : i ≠ i1) (h2 : i ≠ i2) (ho : o.op = .binOp .neq t x y rt) (hw : wantB dl bs ds o = some true) (hd : o.dst = some d)
    (hx : opV dl bs ds o x = some (.int .i64 z)) (hy : opV dl bs ds o y = some (.int .i64 z)) (he : ds.getD d .any = .lit (.bool false)) : StepOk Tryz.prog dl bs ds imps C i1 i2 Q i o :=
  sc_val h1 h2 hw d hd _ he fun a w _ _ _ hk => ⟨_, by
    have e1 := hk.val hx
    have e2 := hk.val hy
    unfold execOp
    rw [ho]
    simp only [e1, e2]
    simp [go_sem], rfl⟩
theorem sc_len {x : Operand} {n : Nat} {d : Nat} (h1 : i ≠ i1) (h2 : i ≠ i2) (ho : o.op = .call { callee := .builtin .len, args := #[x], argTypes := #[26] }) (hw : wantB dl bs ds o = some true) (hd : o.dst = some d)
    (s : Nat) (hx : x = .tmp s) (hs : (srcs dl bs o).contains s = true) (hl : ds.getD s .any = .len n) (he : ds.getD d .any = .lit (.int .i64 n)) : StepOk Tryz.prog dl bs ds imps C i1 i2 Q i o :=
  sc_val h1 h2 hw d hd _ he fun a w _ _ _ hk => ⟨_, by
    have h := hk s (by simpa using hs)
    rw [hl] at h
    obtain ⟨a', c', h⟩ := h
    have e1 : a.eval x = .slice a' n c' := by rw [hx]; exact h
    unfold execOp
    simp only [ho, resolve, invoke, builtin, Sem.run_bind, Sem.run_pure, Result.andThen_ok, List.map_toArray, List.map_cons, List.map_nil, e1]
    simp [go_sem], rfl⟩
end
/-- The frame behind the region: the one ahead of it, with what came up laid in. -/
theorem frame_of (T : Array Value) : ∀ (dl : List Nat) (A : Array Value), A.size = T.size → (∀ s, (dl.all fun d => !(Nat.beq d s)) = true → T.getD s undef = A.getD s undef) → T = dl.foldl (fun X d => X.setIfInBounds d (T.getD d undef)) A := by
  intro dl
  induction dl with
  | nil =>
    intro A hs h
    apply Array.ext
    · exact hs.symm
    · intro i h1 h2
      have := h i (by simp)
      have h2' : i < A.size := h2
      rw [Array.getD_eq_getD_getElem?, Array.getD_eq_getD_getElem?, Array.getElem?_eq_getElem h1, Array.getElem?_eq_getElem h2'] at this
      exact this
  | cons d dl ih =>
    intro A hs h
    rw [List.foldl_cons]
    refine ih _ (by simpa using hs) fun s hd => ?_
    by_cases e : d = s
    · subst e
      by_cases hb : d < A.size
      · rw [Array.getD_eq_getD_getElem? (xs := A.setIfInBounds d (T.getD d undef)), Array.getElem?_setIfInBounds_self, if_pos hb]
        rfl
      · have hb2 : ¬ d < T.size := by omega
        simp [Array.getD, hb, hb2]
    · rw [Array.getD_eq_getD_getElem? (xs := A.setIfInBounds d (T.getD d undef)), Array.getElem?_setIfInBounds_ne e, ← Array.getD_eq_getD_getElem?]
      exact h s (by simp only [List.all_cons, Bool.and_eq_true]; exact ⟨by
        rw [Bool.not_eq_true', Bool.eq_false_iff]
        exact fun h => e (Nat.eq_of_beq_eq_true h), hd⟩)
end Go.Proofs.YtdgcnghjjbpekaaGreatDoor
