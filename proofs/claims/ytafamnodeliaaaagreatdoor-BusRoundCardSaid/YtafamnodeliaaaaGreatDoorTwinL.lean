/-
  The walks of belfrylaw01's helpers on bytes: TwinBytes, LeftBytes, SameBytes.
-/
import Derived.Test.YtafamnodeliaaaaGreatDoorRows
import Derived.Test.YtafamnodeliaaaaGreatDoorKit
import Derived.Deep.QuietTactic
import Derived.BigQuiet
namespace Go.Proofs.YtafamnodeliaaaaGreatDoor
open Go.RowKit
open Go

theorem infoB : (Tryz.prog.info? 5).map (fun i => (i.zero, i.size, i.bytes)) = some (some (.int .u8 0), 1, 1) := by kernel_rfl

/-- What TwinBytes leaves: a row of its own at the first new block, the mark 77 behind. -/
def TwinB (w : World) (g : Nat) (v : Value) (cs : List Int) : Prop :=
  v = .slice (some ⟨g, 0, none⟩) cs.length (cs.length + 1) ∧ w.heap[g]? = some (.cells (by8 (cs ++ [77])).toArray 5 (0, 0))

set_option maxHeartbeats 400000 in
theorem twinB_any (v : Value) (cs : List Int) (w : World) (h : Rd w v (by8 cs)) (hL : cs.length ≤ 140737488351232) :
    Calls Tryz.prog 6 #[v] w fun e w' => ∃ v', e = .returned v' ∧ Below w.heap.size w w' ∧ TwinB w' w.heap.size v' cs := by
  obtain ⟨a, c, rfl, hc, hm, hn, hcell⟩ := h
  simp only [List.length_map] at *
  unfold maxLen at hm
  obtain ⟨i0, hi, hz0, hz1, hz2⟩ := info_parts infoB
  go_enter Tryz.func6, Tryz.ntmps6
  go_wp2_with (at_make; refine wpList_make_own _ rfl _ _ 47 rfl w.heap.size 5 i0 (.int .u8 0) 1 Tryz.underlying47 hi hz0 hz1 .i64 .i64 _ (cs.length + 1) rfl rfl (by omega) (by rw [hz2]; omega) (by unfold maxLen; omega) (Nat.le_refl _) ?_; intro w1 hown hgrow)
  have hb1 : Below w.heap.size w w1 := (Below.refl _ _).grown hgrow (Nat.le_refl _) (by simp)
  go_loopw [3, 4] (fun t i wr => ∃ k : Nat, k ≤ cs.length ∧ i = .int .i64 k ∧ t = .slice (some ⟨w.heap.size, 0, none⟩) k (cs.length + 1) ∧ wr.ownsRow w.heap.size 5 1 (.slice (some ⟨w.heap.size, 0, none⟩) k (cs.length + 1)) k (by8 (cs.take k)) ∧ Below w.heap.size w wr) (fun _ i _ => cs.length - (intOf i).toNat)
  case atStart => exact ⟨0, by omega, rfl, rfl, hown, hb1⟩
  case round =>
    obtain ⟨k, hk, rfl, rfl, ho, hb⟩ := hrel
    by_cases hlt : k < cs.length
    · obtain ⟨b, o, rfl, hcl⟩ := hcell k _ (map_get hlt)
      have hcr : wr.cell? ⟨b, o + k, none⟩ = some (.int .u8 cs[k]) := (hb.cell (p := ⟨b, o + k, none⟩) (World.block_lt_of_cell? w _ hcl)).trans hcl
      clear hcell hcl hown hgrow
      go_wp2_with (at_builtin; refine wpList_append_fits _ rfl _ _ 47 rfl w.heap.size 5 i0 1 Tryz.underlying47 hi hz1 w.heap.size k (cs.length + 1) _ rfl (ho.alloc _) ⟨wr.heap.size, 0, none⟩ 1 1 [.int .u8 cs[k]] rfl rfl (cell_one_new _ _ _) (oc1 _ _) (by omega) ?_; intro w2 ho2 hg2)
      go_roundw
      case rel => exact ⟨k + 1, by omega, by go_num, rfl, by rw [take_snoc _ _ hlt, by8_append]; exact ho2, (hb.alloc hb.size _).grown hg2 (by have := hb.size; simp; omega) (by simp)⟩
      case measure => simp [intOf]; omega
    · obtain rfl : k = cs.length := by omega
      clear hcell hown hgrow
      go_wp2_with (at_builtin; refine wpList_append_fits _ rfl _ _ 47 rfl w.heap.size 5 i0 1 Tryz.underlying47 hi hz1 w.heap.size cs.length (cs.length + 1) _ rfl (ho.alloc _) ⟨wr.heap.size, 0, none⟩ 1 1 [.int .u8 77] rfl rfl (cell_one_new _ _ _) (oc1 _ _) (by omega) ?_; intro w2 ho2 hg2)
      go_ret
      refine ⟨_, rfl, (hb.alloc hb.size _).grown hg2 (by have := hb.size; simp; omega) (by simp), rfl, ?_⟩
      rw [List.take_length] at ho2
      have := full_row ho2
      rw [this, by8_append]
      rfl

set_option maxHeartbeats 400000 in
/-- The same bytes, and the mark 77 behind (what TwinBytes leaves is so). -/
theorem leftB_any (g : Nat) (v u : Value) (cs : List Int) (w : World) (ht : TwinB w g v cs) (h : Rd w u (by8 cs)) (hL : cs.length ≤ 140737488351232) :
    Calls Tryz.prog 13 #[v, u] w fun e w' => e = .returned (.bool true) ∧ ∃ n, w' = w.drewN n := by
  obtain ⟨rfl, hg⟩ := ht
  obtain ⟨a, c, rfl, hc, hm, hn, hcell⟩ := h
  simp only [List.length_map] at *
  unfold maxLen at hm
  have hg1 : ∀ i (hi : i < cs.length), w.cell? ⟨g, i, none⟩ = some (.int .u8 cs[i]) := by
    intro i hi
    rw [cell_of_row _ _ _ _ _ _ hg]
    simp [hi, List.getElem?_append]
  have hg2 : w.cell? ⟨g, cs.length, none⟩ = some (.int .u8 77) := by
    rw [cell_of_row _ _ _ _ _ _ hg]
    simp
  clear hg
  go_enter Tryz.func13, Tryz.ntmps13
  go_wp2_with fail
  go_loopw [5] (fun i wr => ∃ k m : Nat, k ≤ cs.length ∧ i = .int .i64 k ∧ wr = w.drewN m) (fun i _ => cs.length - (intOf i).toNat)
  case atStart => exact ⟨0, 0, by omega, rfl, rfl⟩
  case round =>
    obtain ⟨k, m, hk, rfl, rfl⟩ := hrel
    by_cases hlt : k < cs.length
    · obtain ⟨b, o, rfl, hcl⟩ := hcell k _ (map_get hlt)
      have hgk := hg1 k hlt
      clear hcell hg1 hg2
      go_wp2_with fail
      go_quiet (fail)
      go_wp2_with fail
      go_roundw
      case rel => exact ⟨k + 1, m + nq, by omega, by go_num, rfl⟩
      case measure => simp [intOf]; omega
    · clear hcell hg1
      go_wp2_with fail
      go_ret
      exact ⟨rfl, m, rfl⟩

theorem TwinB.rd {w : World} {g : Nat} {v : Value} {cs : List Int} (h : TwinB w g v cs) (hL : cs.length ≤ 140737488351232) : Rd w v (by8 cs) := by
  obtain ⟨rfl, hg⟩ := h
  refine rd_block _ _ _ hg (by simp) (fun i x hx => ?_) (by omega) (by simp only [maxLen]; omega)
  have hi : i < cs.length := by
    have := (List.getElem?_eq_some_iff.1 hx).1
    simpa using this
  rw [← hx]
  simp [hi, List.getElem?_append]
theorem TwinB.below {w w' : World} {g : Nat} {v : Value} {cs : List Int} (h : TwinB w g v cs) (hb : Below w.heap.size w w') : TwinB w' g v cs :=
  ⟨h.1, by rw [hb.block g (lt_of_block h.2)]; exact h.2⟩
end Go.Proofs.YtafamnodeliaaaaGreatDoor
