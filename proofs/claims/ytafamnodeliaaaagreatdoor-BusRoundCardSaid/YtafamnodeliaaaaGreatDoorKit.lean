/-
  Small words on slices of one-cell elements, blocks and worlds, for the walks of this seat. No program in sight.
-/
import Derived.WalkKit
import Derived.WalkSpells
import Derived.WalkLawsBesides
import Derived.Lib.Hide
namespace Go.Proofs.YtafamnodeliaaaaGreatDoor
open Go.RowKit

/-- v reads in w as the elements xs (one cell each), from whatever address; an empty one leads anywhere. -/
def Rd (w : World) (v : Value) (xs : List Value) : Prop :=
  ∃ a c, v = .slice a xs.length c ∧ xs.length ≤ c ∧ c ≤ maxLen ∧ (a = none → c = 0) ∧
    ∀ i x, xs[i]? = some x → ∃ b o, a = some ⟨b, o, none⟩ ∧ w.cell? ⟨b, o + i, none⟩ = some x

theorem Rd.below {w w' : World} {v : Value} {xs : List Value} (h : Rd w v xs) (hb : Below w.heap.size w w') : Rd w' v xs := by
  obtain ⟨a, c, rfl, h1, h2, h3, h4⟩ := h
  refine ⟨a, c, rfl, h1, h2, h3, fun i x hx => ?_⟩
  obtain ⟨b, o, rfl, hc⟩ := h4 i x hx
  exact ⟨b, o, rfl, (hb.cell (p := ⟨b, o + i, none⟩) (World.block_lt_of_cell? w _ hc)).trans hc⟩

theorem Rd.nil (w : World) : Rd w (.slice none 0 0) [] := ⟨none, 0, rfl, by simp, by simp [maxLen], by simp, by simp⟩

/-- A block whose first cells are xs. -/
theorem rd_block {w : World} {b : Nat} {cur : Array Value} {t : TypeId} {fr : Nat × Nat} (xs : List Value) (n c : Nat) (h : w.heap[b]? = some (.cells cur t fr))
    (hn : n = xs.length) (hx : ∀ (i : Nat) (x : Value), xs[i]? = some x → cur[i]? = some x) (hc : n ≤ c) (hm : c ≤ maxLen) : Rd w (.slice (some ⟨b, 0, none⟩) n c) xs := by
  subst hn
  refine ⟨_, c, rfl, hc, hm, by simp, fun i x hi => ⟨b, 0, rfl, ?_⟩⟩
  rw [cell_of_row _ _ _ _ _ _ h, Nat.zero_add]
  exact hx i x hi
/-- A new block that is xs. -/
theorem rd_new (w : World) (xs : List Value) (t : TypeId) (n c : Nat) (fr : Nat × Nat) (hn : n = xs.length) (hc : n ≤ c) (hm : c ≤ maxLen) :
    Rd (w.alloc (.cells xs.toArray t fr)) (.slice (some ⟨w.heap.size, 0, none⟩) n c) xs :=
  rd_block xs n c (heap_alloc_new _ _) hn (fun i x hx => by simpa using hx) hc hm

/-- bytes. -/
abbrev by8 (xs : List Int) : List Value := xs.map (Value.int .u8)
abbrev ints (xs : List Int) : List Value := xs.map (Value.int .i64)

theorem by8_append (a b : List Int) : by8 (a ++ b) = by8 a ++ by8 b := List.map_append
theorem ints_append (a b : List Int) : ints (a ++ b) = ints a ++ ints b := List.map_append
/-- each a byte. -/
def IsB (cs : List Int) : Prop := ∀ c ∈ cs, 0 ≤ c ∧ c ≤ 255
theorem IsB.at {cs : List Int} (h : IsB cs) {k : Nat} (hk : k < cs.length) : 0 ≤ cs[k] ∧ cs[k] ≤ 255 := h _ (List.getElem_mem hk)
theorem IsB.take {cs : List Int} (h : IsB cs) (k : Nat) : IsB (cs.take k) := fun c hc => h c (List.mem_of_mem_take hc)
theorem map_get {f : Int → Value} {xs : List Int} {k : Nat} (h : k < xs.length) : (xs.map f)[k]? = some (f xs[k]) := by simp [h]

theorem setRow_alloc_new (w : World) (old new : Array Value) (t : TypeId) (fr : Nat × Nat) :
    (w.alloc (.cells old t fr)).setRow w.heap.size new = w.alloc (.cells new t fr) := by
  show World.setRow { w with heap := w.heap.push (.cells old t fr) } _ _ = { w with heap := w.heap.push (.cells new t fr) }
  unfold World.setRow
  congr 1
  apply Array.ext
  · simp
  · intro i h1 h2
    simp only [Array.getElem_modify, Array.getElem_push]
    have hi : i < w.heap.size + 1 := by simpa using h2
    by_cases e : w.heap.size = i
    · subst e; simp
    · have : i < w.heap.size := by omega
      simp [e, this]
theorem oc1 (k : IntKind) (x : Int) : ∀ u ∈ [Value.int k x], u.oneCell' = true := by
  intro u hu
  simp at hu
  subst hu
  rfl
/-- A row that is full is its cells. -/
theorem full_row {w : World} {base : Nat} {e : TypeId} {g n : Nat} {xs : List Value} (h : w.ownsRow base e 1 (.slice (some ⟨g, 0, none⟩) n n) n xs) :
    w.heap[g]? = some (.cells xs.toArray e (0, 0)) := by
  obtain ⟨h1, h2⟩ := h
  rcases h2 with ⟨h2, _⟩ | ⟨g', cap, cur, hv, _, hh, h3, _, h5, h6⟩
  · simp at h2
  · simp at hv
    obtain ⟨rfl, rfl⟩ := hv
    rw [hh]
    congr 2
    rw [← h6, List.take_of_length_le (by simp; omega)]
theorem Rd.shape {w : World} {v : Value} {f : Int → Value} {cs : List Int} (h : Rd w v (cs.map f)) : ∃ a c, v = .slice a cs.length c ∧ cs.length ≤ c ∧ c ≤ maxLen := by
  obtain ⟨a, c, rfl, h1, h2, _⟩ := h
  rw [List.length_map] at *
  exact ⟨a, c, rfl, h1, h2⟩
theorem below_new {B : Nat} {w : World} (hB : B ≤ w.heap.size) (o : Obj) : Below B w (w.alloc o) := (Below.refl _ _).alloc hB o
/-- Two steps, the second one told of its own world. -/
theorem bnext {w w1 w2 : World} (h : Below w.heap.size w w1) (h2 : Below w1.heap.size w1 w2) : Below w.heap.size w w2 := h.trans (h2.mono h.size)
/-- A step that lays a block. -/
theorem balloc {w w1 : World} (h : Below w.heap.size w w1) (o : Obj) : Below w.heap.size w (w1.alloc o) := h.alloc h.size o
theorem bdraw {w w1 : World} (h : Below w.heap.size w w1) (n : Nat) : Below w.heap.size w (w1.drewN n) := below_drewN h n
theorem take_snoc {α : Type} (l : List α) (k : Nat) (h : k < l.length) : l.take (k + 1) = l.take k ++ [l[k]] := by
  rw [List.take_succ_eq_append_getElem h]
end Go.Proofs.YtafamnodeliaaaaGreatDoor
