/-
  Bytes that are the call's own, and one of them changed: the walk of bus.wrongs$2; slices.Clip.
-/
import Derived.Test.YtafamnodeliaaaaGreatDoorBusW
import Derived.Test.YtafamnodeliaaaaGreatDoorBitsW
import Derived.RegionTactic
import Derived.ChangeAlike
namespace Go.Proofs.YtafamnodeliaaaaGreatDoor
open Go.RowKit
open Go

/-- Bytes of the call's own, from block base on. -/
def OwnB (w : World) (base : Nat) (v : Value) (cs : List Int) : Prop :=
  (v = .slice none 0 0 ∧ cs = []) ∨ ∃ g c cur, v = .slice (some ⟨g, 0, none⟩) cs.length c ∧ base ≤ g ∧ w.heap[g]? = some (.cells cur 5 (0, 0)) ∧ cs.length ≤ c ∧ c ≤ maxLen ∧ c ≤ cur.size ∧ cur.toList.take cs.length = by8 cs
theorem OwnB.nil (w : World) (base : Nat) : OwnB w base (.slice none 0 0) [] := .inl ⟨rfl, rfl⟩
theorem OwnB.of_owns {w : World} {base : Nat} {v : Value} {n : Nat} {cs : List Int} (h : w.ownsRow base 5 1 v n (by8 cs)) : OwnB w base v cs := by
  have hl : cs.length = n := by have := h.1; simpa using this
  rcases h.2 with ⟨rfl, rfl⟩ | ⟨g, c, cur, rfl, h1, h2, h3, h4, h5, h6⟩
  · exact .inl ⟨rfl, List.eq_nil_of_length_eq_zero hl⟩
  · exact .inr ⟨g, c, cur, by rw [hl], h1, h2, by omega, h4, by omega, by rw [hl]; simpa using h6⟩
theorem OwnB.rd {w : World} {base : Nat} {v : Value} {cs : List Int} (h : OwnB w base v cs) : Rd w v (by8 cs) := by
  rcases h with ⟨rfl, rfl⟩ | ⟨g, c, cur, rfl, h1, h2, h3, h4, h5, h6⟩
  · exact Rd.nil w
  · refine rd_block (by8 cs) _ c h2 (by simp) (fun i x hx => ?_) h3 h4
    rw [← h6, List.getElem?_take] at hx
    split at hx
    · simpa using hx
    · cases hx
theorem OwnB.below {w w' : World} {base : Nat} {v : Value} {cs : List Int} (h : OwnB w base v cs) (hb : Below w.heap.size w w') : OwnB w' base v cs := by
  rcases h with h | ⟨g, c, cur, e, h1, h2, r⟩
  · exact .inl h
  · exact .inr ⟨g, c, cur, e, h1, (hb.block g (lt_of_block h2)).trans h2, r⟩
theorem OwnB.clip {w : World} {base g n c : Nat} {cs : List Int} (h : OwnB w base (.slice (some ⟨g, 0, none⟩) n c) cs) : OwnB w base (.slice (some ⟨g, 0, none⟩) n n) cs := by
  rcases h with ⟨e, _⟩ | ⟨g, c, cur, e, h1, h2, h3, h4, h5, h6⟩
  · cases e
  · cases e
    exact .inr ⟨g, cs.length, cur, rfl, h1, h2, Nat.le_refl _, by omega, by omega, h6⟩
theorem OwnB.form {w : World} {base : Nat} {v : Value} {cs : List Int} (h : OwnB w base v cs) : (v = .slice none 0 0 ∧ cs = []) ∨ ∃ g c, v = .slice (some ⟨g, 0, none⟩) cs.length c ∧ base ≤ g ∧ cs.length ≤ c ∧ c ≤ 9223372036854775807 := by
  rcases h with h | ⟨g, c, cur, e, h1, h2, h3, h4, _⟩
  · exact .inl h
  · exact .inr ⟨g, c, e, h1, h3, h4⟩
/-- A byte of them is written. -/
theorem OwnB.stored {w : World} {base g n c : Nat} {cs : List Int} (h : OwnB w base (.slice (some ⟨g, 0, none⟩) n c) cs) (j : Nat) (x : Int) :
    OwnB (w.setCell ⟨g, j, none⟩ (.int .u8 x)) base (.slice (some ⟨g, 0, none⟩) n c) (cs.set j x) := by
  rcases h with ⟨e, _⟩ | ⟨g, c, cur, e, h1, h2, h3, h4, h5, h6⟩
  · cases e
  · cases e
    refine .inr ⟨g, c, cur.setIfInBounds j (.int .u8 x), by simp, h1, heap_setCell_same w g j _ _ _ h2, by simpa using h3, h4, by simpa using h5, ?_⟩
    rw [List.length_set, Array.toList_setIfInBounds, List.take_set, h6]
    simp [by8, List.map_set]
theorem OwnB.cellAt {w : World} {base g n c : Nat} {cs : List Int} (h : OwnB w base (.slice (some ⟨g, 0, none⟩) n c) cs) (j : Nat) (hj : j < cs.length) : w.cell? ⟨g, j, none⟩ = some (.int .u8 cs[j]) ∧ w.frozen? ⟨g, j, none⟩ = false := by
  rcases h with ⟨e, _⟩ | ⟨g, c, cur, e, h1, h2, h3, h4, h5, h6⟩
  · cases e
  · cases e
    refine ⟨?_, frozen_of_row w g j _ _ h2⟩
    rw [cell_of_row w g j _ _ _ h2]
    have h7 : (by8 cs)[j]? = some (.int .u8 cs[j]) := map_get hj
    rw [← h6, List.getElem?_take, if_pos hj] at h7
    simpa using h7
theorem OwnB.block {w : World} {base g n c : Nat} {cs : List Int} (h : OwnB w base (.slice (some ⟨g, 0, none⟩) n c) cs) : ∃ cur, w.heap[g]? = some (.cells cur 5 (0, 0)) ∧ base ≤ g ∧ n = cs.length := by
  rcases h with ⟨e, _⟩ | ⟨g, c, cur, e, h1, h2, h3, h4, h5, h6⟩
  · cases e
  · cases e
    exact ⟨cur, h2, h1, rfl⟩

/-- One byte is changed. -/
def spoil (f : Fl) (cs : List Int) : List Int := if h : 0 < cs.length then cs.set (f.a.toNat % cs.length) (bits .xor .u8 (cs[f.a.toNat % cs.length]'(Nat.mod_lt _ h)) f.b) else cs
theorem spoil_len (f : Fl) (cs : List Int) : (spoil f cs).length = cs.length := by
  unfold spoil
  split <;> simp
set_option maxHeartbeats 1000000 in
theorem spoil_any (base : Nat) (v : Value) (cs : List Int) (f : Fl) (w : World) (h : OwnB w base v cs) (ha : 0 ≤ f.a) :
    Calls Tryz.prog 79 #[v, aggF f] w fun e w' => e = .returned v ∧ OwnB w' base v (spoil f cs) ∧ Only (fun k => v.ownBlock = some k) w w' := by
  obtain ⟨r, s, hh, a, b⟩ := f
  obtain ⟨a, rfl⟩ := Int.eq_ofNat_of_zero_le (show 0 ≤ a from ha)
  rcases h.form with ⟨rfl, rfl⟩ | ⟨g, c, rfl, hg, hc, hcm⟩
  · unfold aggF
    go_enter Tryz.func79, Tryz.ntmps79
    go_wp2_with fail
    go_ret
    exact ⟨rfl, h.below (balloc (Below.refl _ _) _), (Only.refl _ _).alloc _⟩
  · by_cases hl : 0 < cs.length
    · have hj : a % cs.length < cs.length := Nat.mod_lt _ hl
      obtain ⟨x0, x1⟩ := (h.below (balloc (Below.refl w.heap.size w) (.cells #[.int .i64 r, .int .i64 s, .int .u8 hh, .int .i64 a, .int .u8 b] 58))).cellAt (a % cs.length) hj
      have hs : spoil ⟨r, s, hh, a, b⟩ cs = cs.set (a % cs.length) (bits .xor .u8 cs[a % cs.length] b) := by
        unfold spoil
        rw [dif_pos hl]
        simp
      have HS := Lib.hid hs
      clear hs
      unfold aggF
      generalize cs[a % cs.length] = y at *
      go_enter Tryz.func79, Tryz.ntmps79
      go_wp2_with fail
      go_region
      go_wp2_with fail
      go_ret
      rw [HS.out]
      exact ⟨rfl, (h.below (balloc (Below.refl w.heap.size w) (.cells #[.int .i64 r, .int .i64 s, .int .u8 hh, .int .i64 a, .int .u8 b] 58))).stored (a % cs.length) _, (((Only.refl (fun k => (some g : Option Nat) = some k) w).alloc _).setCell (p := ⟨g, a % cs.length, none⟩) (fun _ => rfl) _).drewN 1⟩
    · have hs : spoil ⟨r, s, hh, a, b⟩ cs = cs := by
        unfold spoil
        rw [dif_neg hl]
      rw [hs]
      unfold aggF
      go_enter Tryz.func79, Tryz.ntmps79
      go_wp2_with fail
      go_ret
      exact ⟨rfl, h.below (balloc (Below.refl _ _) _), (Only.refl _ _).alloc _⟩

theorem clipB_nil (w : World) : Calls Tryz.prog 20 #[.slice none 0 0] w fun e w' => e = .returned (.slice none 0 0) ∧ w = w' := by
  go_enter Tryz.func20, Tryz.ntmps20
  go_wp2_with fail
  go_ret
  exact ⟨rfl, rfl⟩
theorem clipB_some (g n c : Nat) (w : World) (hc : n ≤ c) : Calls Tryz.prog 20 #[.slice (some ⟨g, 0, none⟩) n c] w fun e w' => e = .returned (.slice (some ⟨g, 0, none⟩) n n) ∧ w = w' := by
  go_enter Tryz.func20, Tryz.ntmps20
  go_wp2_with fail
  go_ret
  exact ⟨rfl, rfl⟩
theorem clipS_nil (w : World) : Calls Tryz.prog 22 #[.slice none 0 0] w fun e w' => e = .returned (.slice none 0 0) ∧ w = w' := by
  go_enter Tryz.func22, Tryz.ntmps22
  go_wp2_with fail
  go_ret
  exact ⟨rfl, rfl⟩
theorem clipS_some (g n c : Nat) (w : World) (hc : n ≤ c) : Calls Tryz.prog 22 #[.slice (some ⟨g, 0, none⟩) n c] w fun e w' => e = .returned (.slice (some ⟨g, 0, none⟩) n n) ∧ w = w' := by
  go_enter Tryz.func22, Tryz.ntmps22
  go_wp2_with fail
  go_ret
  exact ⟨rfl, rfl⟩
theorem clipB_own (base : Nat) (v : Value) (cs : List Int) (w : World) (h : OwnB w base v cs) : Calls Tryz.prog 20 #[v] w fun e w' => ∃ v', e = .returned v' ∧ OwnB w base v' cs ∧ v'.ownBlock = v.ownBlock ∧ w = w' := by
  rcases h.form with ⟨rfl, rfl⟩ | ⟨g, c, rfl, hg, hc, hcm⟩
  · refine (clipB_nil w).mono ?_
    rintro e w' ⟨rfl, rfl⟩
    exact ⟨_, rfl, h, rfl, rfl⟩
  · refine (clipB_some g cs.length c w hc).mono ?_
    rintro e w' ⟨rfl, rfl⟩
    exact ⟨_, rfl, h.clip, rfl, rfl⟩
theorem OwnB.mono {w : World} {base base' : Nat} {v : Value} {cs : List Int} (h : OwnB w base v cs) (hb : base' ≤ base) : OwnB w base' v cs := by
  rcases h with h | ⟨g, c, cur, e, h1, r⟩
  · exact .inl h
  · exact .inr ⟨g, c, cur, e, by omega, r⟩
theorem OwnB.only {w w' : World} {base : Nat} {v : Value} {cs : List Int} (h : OwnB w base v cs) {S : Nat → Prop} (ho : Only S w w') (hn : ∀ g, v.ownBlock = some g → ¬ S g) : OwnB w' base v cs := by
  rcases h with h | ⟨g, c, cur, e, h1, h2, r⟩
  · exact .inl h
  · exact .inr ⟨g, c, cur, e, h1, (ho.block g (lt_of_block h2) (hn g (by rw [e]; rfl))).trans h2, r⟩
theorem OwnB.at_ {w : World} {base : Nat} {v : Value} {cs : List Int} (h : OwnB w base v cs) (g : Nat) (hg : v.ownBlock = some g) : base ≤ g ∧ ∃ cur, w.heap[g]? = some (.cells cur 5 (0, 0)) := by
  rcases h with ⟨e, _⟩ | ⟨g', c, cur, e, h1, h2, _⟩
  · rw [e] at hg
    cases hg
  · rw [e] at hg
    cases hg
    exact ⟨h1, cur, h2⟩
end Go.Proofs.YtafamnodeliaaaaGreatDoor
