/-
  A map of whole numbers that the call makes out of a literal: what it holds, what is found.
-/
import Derived.Test.YtafamnodeliaaaaGreatDoorKit
import Derived.MapKept
import Derived.RangeFuncRecord
import Derived.Carry
namespace Go.Proofs.YtafamnodeliaaaaGreatDoor
open Go.RowKit
open Go

/-- Entries, told as numbers and values. -/
def entsFrom (k : IntKind) (n : Nat) : List (Int × Value) → List MapEntry
  | [] => []
  | (x, v) :: l => { key := .int k x, val := v, born := n } :: entsFrom k (n + 1) l
theorem entsFrom_append (k : IntKind) (l m : List (Int × Value)) (n : Nat) : entsFrom k n (l ++ m) = entsFrom k n l ++ entsFrom k (n + l.length) m := by
  induction l generalizing n with
  | nil => rfl
  | cons x l ih =>
    simp only [List.cons_append, entsFrom, ih, List.length_cons]
    rw [show n + 1 + l.length = n + (l.length + 1) by omega]
def mapO (k : IntKind) (l : List (Int × Value)) : Obj := .map (entsFrom k 0 l).toArray l.length
def getV (l : List (Int × Value)) (x : Int) : Option Value := (l.find? fun e => e.1 == x).map (·.2)
theorem find_ents (k : IntKind) (l : List (Int × Value)) (x : Int) (n i : Nat) : ∃ r, Instr.findNow (.int k) (.int k x) (entsFrom k n l) i = some r ∧ r.map (·.2) = getV l x := by
  induction l generalizing n i with
  | nil => exact ⟨none, rfl, rfl⟩
  | cons y l ih =>
    obtain ⟨a, v⟩ := y
    unfold entsFrom Instr.findNow
    by_cases h : x = a
    · subst h
      exact ⟨some (i, v), by simp [Instr.sameNow], by simp [getV]⟩
    · obtain ⟨r, h1, h2⟩ := ih (n + 1) (i + 1)
      have hxa : (x == a) = false := by rw [beq_eq_false_iff_ne]; exact h
      refine ⟨r, by simpa [Instr.sameNow, hxa] using h1, ?_⟩
      rw [h2]
      have : (a == x) = false := by
        rw [beq_eq_false_iff_ne]
        exact fun e => h e.symm
      simp [getV, this]
theorem run_insert_int {P : Program} (w : World) (T K E : TypeId) (k : IntKind) (hT : P.underlying T = some (.map K E)) (hK : P.underlying K = some (.int k)) (r : Nat) (l : List (Int × Value)) (hh : w.heap[r]? = some (mapO k l)) (x : Int) (v : Value) (hn : getV l x = none) :
    (Instr.mapUpdate T (.map (some r)) (.int k x) v).run P w = .ok () (w.putObj r (mapO k (l ++ [(x, v)]))) := by
  obtain ⟨q, h1, h2⟩ := find_ents k l x 0 0
  rw [hn] at h2
  have hq : q = none := by cases q <;> simp at h2 ⊢
  subst hq
  unfold mapO at hh
  have e : (entsFrom k 0 l).toArray.push { key := Value.int k x, val := v, born := l.length } = (entsFrom k 0 (l ++ [(x, v)])).toArray := by
    rw [entsFrom_append, Nat.zero_add]
    simp [entsFrom]
  have hc : (Instr.checkKey false 10000 K (.int k x)).run P w = .ok () w := MapKept.run_checkKey (k := .int k x) hK (by simp [MapKept.IsKey]) false 9999
  simp [Instr.mapUpdate, run_underlying hT, MapKept.run_getObj_map hh, hc, MapKept.run_findKey hK h1, MapKept.run_setObj_map _ hh, World.putObj, mapO, e, Result.andThen]
theorem run_lookup_int {P : Program} (w : World) (T K E : TypeId) (k : IntKind) (hT : P.underlying T = some (.map K E)) (hK : P.underlying K = some (.int k)) (r : Nat) (l : List (Int × Value)) (hh : w.heap[r]? = some (mapO k l)) (x : Int) (z : Value) (hz : (zeroValue E).run P w = .ok z w) :
    (Instr.lookup T (.map (some r)) (.int k x) false).run P w = .ok ((getV l x).getD z) w := by
  obtain ⟨q, h1, h2⟩ := find_ents k l x 0 0
  unfold mapO at hh
  have hc : ∀ b, (Instr.checkKey b 10000 K (.int k x)).run P w = .ok () w := fun b => MapKept.run_checkKey (k := .int k x) hK (by simp [MapKept.IsKey]) b 9999
  cases q with
  | none =>
    have h3 : getV l x = none := h2.symm
    simp [Instr.lookup, run_underlying hT, MapKept.run_getObj_map hh, hc, MapKept.run_findKey hK h1, h3, hz, Result.andThen]
  | some q =>
    have h3 : getV l x = some q.2 := h2.symm
    simp [Instr.lookup, run_underlying hT, MapKept.run_getObj_map hh, hc, MapKept.run_findKey hK h1, h3, Result.andThen]
theorem putObj_new (w : World) (o o' : Obj) : (w.alloc o).putObj w.heap.size o' = w.alloc o' := by
  show ({ w with heap := (w.heap.push o).setIfInBounds w.heap.size o' } : World) = { w with heap := w.heap.push o' }
  congr 1
  apply Array.ext
  · simp
  · intro i h1 h2
    have hs : i < w.heap.size + 1 := by simpa using h2
    rw [Array.getElem_setIfInBounds (by simpa using hs)]
    by_cases h : w.heap.size = i
    · subst h
      simp
    · have h3 : i < w.heap.size := by omega
      rw [if_neg h, Array.getElem_push, Array.getElem_push, dif_pos h3, dif_pos h3]
end Go.Proofs.YtafamnodeliaaaaGreatDoor
