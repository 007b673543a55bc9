/-
  Lists of bytes that were answered, kept while a writer goes on.
-/
import Derived.Test.YtdgcnghjjbpekaaBitsAlive
import Derived.Test.YtdgcnghjjbpekaaKit4
import Derived.Test.YtdgcnghjjbpekaaTwinA
namespace Go.Proofs.Ytdgcnghjjbpekaa
open Go.RowKit
open Go

theorem Rd.only {w w' : World} {v : Value} {xs : List Value} (h : Rd w v xs) {S : Nat → Prop} (ho : Only S w w') (hn : ∀ g, v.ownBlock = some g → ¬ S g) : Rd w' v xs := by
  obtain ⟨a, c, rfl, h1, h2, h3, h4⟩ := h
  refine ⟨a, c, rfl, h1, h2, h3, fun i x hx => ?_⟩
  obtain ⟨b, o, rfl, hc⟩ := h4 i x hx
  exact ⟨b, o, rfl, (World.cell?_of_block (w := w) (ho.block b (World.block_lt_of_cell? w _ hc) (hn b rfl))).trans hc⟩
theorem Rd.form {w : World} {v : Value} {xs : List Value} (h : Rd w v xs) : ∃ a n c, v = .slice a n c := by
  obtain ⟨a, c, e, _⟩ := h
  exact ⟨a, _, c, e⟩
/-- Bytes in a block of bytes, out of reach of S. -/
structure Kept1 (S : Nat → Prop) (w : World) (v : Value) (d : List Nat) : Prop where
  rd : Rd w v (by8 (iN d))
  blk : ∀ g, v.ownBlock = some g → ¬ S g ∧ ∃ c fr, w.heap[g]? = some (.cells c 5 fr)
theorem Kept1.step {S T U : Nat → Prop} {w w' : World} {v : Value} {d : List Nat} (h : Kept1 S w v d) (ho : Only U w w') (hu : ∀ g, g < w.heap.size → ¬ S g → (∃ c fr, w.heap[g]? = some (.cells c 5 fr)) → ¬ U g ∧ ¬ T g) : Kept1 T w' v d := by
  refine ⟨h.rd.only ho fun g hg => ?_, fun g hg => ?_⟩
  · obtain ⟨h1, c, fr, h2⟩ := h.blk g hg
    exact (hu g (lt_of_block h2) h1 ⟨c, fr, h2⟩).1
  · obtain ⟨h1, c, fr, h2⟩ := h.blk g hg
    have h3 := hu g (lt_of_block h2) h1 ⟨c, fr, h2⟩
    exact ⟨h3.2, c, fr, (ho.block g (lt_of_block h2) h3.1).trans h2⟩
/-- Such ones, one by one. -/
def KeptN (S : Nat → Prop) (w : World) (vs : List Value) (ds : List (List Nat)) : Prop := vs.length = ds.length ∧ ∀ (j : Nat) (v : Value) (d : List Nat), vs[j]? = some v → ds[j]? = some d → Kept1 S w v d
theorem KeptN.step {S T U : Nat → Prop} {w w' : World} {vs : List Value} {ds : List (List Nat)} (h : KeptN S w vs ds) (ho : Only U w w') (hu : ∀ g, g < w.heap.size → ¬ S g → (∃ c fr, w.heap[g]? = some (.cells c 5 fr)) → ¬ U g ∧ ¬ T g) : KeptN T w' vs ds :=
  ⟨h.1, fun j v d hv hd => (h.2 j v d hv hd).step ho hu⟩
theorem KeptN.snoc {S : Nat → Prop} {w : World} {vs : List Value} {ds : List (List Nat)} (h : KeptN S w vs ds) {v : Value} {d : List Nat} (k : Kept1 S w v d) : KeptN S w (vs ++ [v]) (ds ++ [d]) := by
  refine ⟨by simp [h.1], fun j u e hu he => ?_⟩
  by_cases hj : j < vs.length
  · rw [List.getElem?_append_left hj] at hu
    rw [List.getElem?_append_left (by rw [← h.1]; exact hj)] at he
    exact h.2 j u e hu he
  · have hl := h.1
    have hj2 : j = vs.length := by
      have := (List.getElem?_eq_some_iff.1 hu).1
      simp at this
      omega
    subst hj2
    rw [List.getElem?_append_right (by omega)] at hu
    rw [List.getElem?_append_right (by omega)] at he
    simp at hu
    rw [show vs.length - ds.length = 0 by omega] at he
    simp at he
    subst hu he
    exact k
theorem KeptN.below {S : Nat → Prop} {w w' : World} {vs : List Value} {ds : List (List Nat)} (h : KeptN S w vs ds) (hb : Below w.heap.size w w') : KeptN S w' vs ds :=
  h.step (Below.only hb fun _ => False) fun _ _ hn _ => ⟨fun x => x, hn⟩
theorem infoSB : (Try.prog.info? 23).map (fun i => (i.zero, i.size, i.bytes)) = some (some (.slice none 0 0), 1, 24) := by kernel_rfl
/-- A row of another type is out of reach of a writer, and of bytes. -/
theorem owns_only {w w' : World} {base : Nat} {e : TypeId} {v : Value} {n : Nat} {xs : List Value} (h : w.ownsRow base e 1 v n xs) {S : Nat → Prop} (ho : Only S w w') (hs : ∀ g c fr, w.heap[g]? = some (.cells c e fr) → ¬ S g) : w'.ownsRow base e 1 v n xs := by
  refine ownsRow_kept h fun g hg => ?_
  rcases h.2 with ⟨e', _⟩ | ⟨g', c, cur, e', _, hb, _⟩
  · rw [e'] at hg
    cases hg
  · rw [e'] at hg
    cases hg
    exact ho.block _ (lt_of_block hb) (hs _ cur (0, 0) hb)
theorem owns_block {w : World} {base : Nat} {e : TypeId} {v : Value} {n : Nat} {xs : List Value} (h : w.ownsRow base e 1 v n xs) (g : Nat) (hg : v.ownBlock = some g) : base ≤ g ∧ ∃ c, w.heap[g]? = some (.cells c e (0, 0)) := by
  rcases h.2 with ⟨e', _⟩ | ⟨g', c, cur, e', hb, hb2, _⟩
  · rw [e'] at hg
    cases hg
  · rw [e'] at hg
    cases hg
    exact ⟨hb, _, hb2⟩
theorem Only.of_grown {w w' : World} {row : Option Nat} (hg : w.grownBy w' row) : Only (fun k => row = some k) w w' := ⟨hg.os, hg.tape, hg.output, hg.size, fun k hk hn => hg.block k hk fun e => hn e.symm⟩
theorem not_foot {B pr : Nat} {v : Value} {L : List Bool} {w : World} (h : RowAt B pr v L w) {g : Nat} {c : Array Value} {e : TypeId} {fr : Nat × Nat} (hg : w.heap[g]? = some (.cells c e fr)) (h1 : e ≠ 50) (h2 : e ≠ 5) : ¬ foot pr v g := by
  intro hf
  obtain ⟨c', t, hc, ht⟩ := cells_of_foot h g hf
  rw [hg] at hc
  cases hc
  rcases ht with rfl | rfl
  · exact h1 rfl
  · exact h2 rfl
/-- Of more bits the first whole bytes are the same. -/
theorem pack_first (A C : List Bool) (q : Nat) (h : 8 * q ≤ A.length) : (pack (A ++ C)).take q = (pack A).take q := by
  apply List.ext_getElem?
  intro i
  rw [List.getElem?_take, List.getElem?_take]
  split
  · rename_i hi
    rw [pack_get _ _ (by simp; omega), pack_get _ _ (by omega)]
    congr 2
    apply List.ext_getElem?
    intro j
    by_cases hj : j < 8
    · rw [pad8_get _ _ hj, pad8_get _ _ hj, List.getD_eq_getElem?_getD, List.getD_eq_getElem?_getD, List.getElem?_drop, List.getElem?_drop, List.getElem?_append_left (by omega)]
    · rw [List.getElem?_eq_none (by rw [pad8_len]; omega), List.getElem?_eq_none (by rw [pad8_len]; omega)]
  · rfl
end Go.Proofs.Ytdgcnghjjbpekaa
