/-
  The walks of package crc: rests$1, rests, More, Of.
-/
import Derived.Test.YtckpeclkkmapiaaGreatDoorRows
import Derived.Test.YtckpeclkkmapiaaGreatDoorKit
import Derived.Test.YtckpeclkkmapiaaGreatDoorCrcMath
namespace Go.Proofs.YtckpeclkkmapiaaGreatDoor
open Go.RowKit
open Go

theorem stI_in (x : Int) : 0 ≤ stI x ∧ stI x ≤ 4294967295 := ⟨bits_lo_u32 _ _ _, bits_hi_u32 _ _ _⟩

set_option maxHeartbeats 400000 in
theorem rest_any (x : Int) (w : World) :
    Calls Tryz.prog 153 #[.int .u32 x] w fun e w' => e = .returned (.int .u32 (stN 8 x)) ∧ w = w' := by
  go_enter Tryz.func153, Tryz.ntmps153
  go_wp2
  go_loop [0, 3] (fun t i => ∃ k : Nat, k ≤ 8 ∧ i = .int .i64 k ∧ t = .int .u32 (stN k x)) (fun _ i => 8 - (intOf i).toNat)
  case atStart => exact ⟨0, by omega, rfl, rfl⟩
  case round =>
    obtain ⟨k, hk, rfl, rfl⟩ := hrel
    go_wp2
    · go_round
      case rel => exact ⟨k + 1, by omega, by go_num, by simp [stN, stI]⟩
      case measure => simp [intOf]; omega
    · obtain rfl : k = 8 := by omega
      go_ret
      exact ⟨rfl, rfl⟩

theorem tabC_size (k : Nat) : (tabC k).size = 256 := by simp [tabC]
theorem tabC_get (k i : Nat) (h : i < 256) : (tabC k)[i]? = some (.int .u32 (if i < k then stN 8 i else 0)) := by simp [tabC, h]
theorem tabC_set (k : Nat) : (tabC k).setIfInBounds k (.int .u32 (stN 8 k)) = tabC (k + 1) := by
  apply Array.ext
  · simp [tabC]
  · intro i h1 h2
    have hi : i < 256 := by simpa [tabC] using h2
    by_cases e : k = i
    · subst e
      simp [tabC]
    · have e2 : i < k + 1 ↔ i < k := by omega
      simp [tabC, e, e2]
theorem tabC_one (k : Nat) : (tabC k).all (·.oneCell') = true := by
  rw [Array.all_eq_true]
  intro i h
  simp [tabC, Value.oneCell']
theorem zero40 (w : World) : (zeroValue 217).run Tryz.prog w = .ok (.agg (tabC 0)) w := by kernel_rfl
theorem info40 (k : Nat) : (Tryz.prog.info? 217).map (·.size) = some (tabC k).size := by
  rw [tabC_size]
  kernel_rfl
theorem info40' : (Tryz.prog.info? 217).map (·.size) = some 256 := by kernel_rfl

set_option maxHeartbeats 400000 in
set_option maxRecDepth 20000 in
theorem rests_any (w : World) :
    Calls Tryz.prog 150 #[] w fun e w' => e = .returned (.agg (tabC 256)) ∧ Below w.heap.size w w' := by
  have hz := zero40
  go_enter Tryz.func150, Tryz.ntmps150
  go_wp2
  clear hz
  go_loopw [2, 3] (fun _ i wr => ∃ k : Nat, k ≤ 256 ∧ i = .int .i64 k ∧ wr.heap[w.heap.size]? = some (.cells (tabC k) 217 (0, 0)) ∧ Below w.heap.size w wr) (fun _ i _ => 256 - (intOf i).toNat)
  case atStart => exact ⟨0, by omega, rfl, heap_alloc_new _ _, (Below.refl _ _).alloc (Nat.le_refl _) _⟩
  case round =>
    obtain ⟨k, hk, rfl, hh, hb⟩ := hrel
    by_cases hlt : k < 256
    · have hc := (cell_of_row wr w.heap.size k _ _ _ hh).trans (tabC_get k k hlt)
      have hf := frozen_of_row wr w.heap.size k _ _ hh
      have hB := lt_of_block hh
      clear hk
      have HH := Lib.hid hh
      clear hh
      go_wp2_with (go_at_call 153; refine (rest_any _ _).mono ?_; rintro e w' ⟨rfl, rfl⟩)
      go_roundw
      case rel => exact ⟨k + 1, by omega, by go_num, by rw [heap_setCell_same _ _ _ _ _ _ HH.out, tabC_set k], hb.setCell (Nat.le_refl _) _⟩
      case measure => simp [intOf]; omega
    · obtain rfl : k = 256 := by omega
      have HH := Lib.hid hh
      clear hh
      go_wp2_with (first | (refine wpList_load_row rfl 217 _ rfl w.heap.size rfl 217 _ _ _ HH.out Tryz.underlying217 rfl (info40 256) ?_) | (refine wpList_store_row rfl 217 _ _ rfl w.heap.size _ rfl rfl _ _ HH.out (info40 256) rfl (tabC_one _) ?_))
      rw [setRow_self wr _ _ _ _ HH.out]
      exact bodyPost_ret (results_cell_row Tryz.results150 _ wr w.heap.size _ _ _ _ rfl HH.out Tryz.underlying217 rfl (info40 256)) rfl ⟨rfl, hb⟩
theorem runI_snoc (x : Int) (cs : List Int) (k : Nat) (h : k < cs.length) : runI x (cs.take (k + 1)) = updI (runI x (cs.take k)) cs[k] := by
  unfold runI
  rw [take_snoc _ _ h, List.foldl_append]
  rfl

set_option maxHeartbeats 400000 in
set_option maxRecDepth 20000 in
theorem more_any (s : Int) (v : Value) (cs : List Int) (w : World) (h : Rd w v (by8 cs)) :
    Calls Tryz.prog 145 #[.int .u32 s, v] w fun e w' => e = .returned (.int .u32 (moreI s cs)) ∧ Below w.heap.size w w' := by
  obtain ⟨a, c, rfl, hc, hm, hn, hcell⟩ := h
  simp only [List.length_map] at *
  unfold maxLen at hm
  have hz := zero40
  go_enter Tryz.func145, Tryz.ntmps145
  go_wp2_with (first | (go_at_call 150; refine (rests_any _).mono ?_; rintro e w1 ⟨rfl, hb1⟩) | (refine wpList_store_row rfl 217 _ _ rfl w1.heap.size _ rfl rfl _ _ (heap_alloc_new _ _) (info40 256) rfl (tabC_one _) ?_; rw [setRow_alloc_new]))
  clear hz
  have hT := heap_alloc_new w1 (.cells (tabC 256) 217)
  have hbA : Below w.heap.size w (w1.alloc (.cells (tabC 256) 217)) := hb1.alloc hb1.size _
  have hcA : ∀ i (hi : i < cs.length), ∃ b o, a = some ⟨b, o, none⟩ ∧ (w1.alloc (.cells (tabC 256) 217)).cell? ⟨b, o + i, none⟩ = some (.int .u8 cs[i]) := by
    intro i hi
    obtain ⟨b, o, rfl, hcl⟩ := hcell i _ (map_get hi)
    exact ⟨b, o, rfl, (hbA.cell (p := ⟨b, o + i, none⟩) (World.block_lt_of_cell? w _ hcl)).trans hcl⟩
  generalize hW : w1.alloc (.cells (tabC 256) 217) = W at *
  clear hW hcell hb1
  go_loop [0, 13] (fun t i => ∃ k : Nat, k ≤ cs.length ∧ i = .int .i64 k ∧ t = .int .u32 (runI (notI s) (cs.take k))) (fun _ i => cs.length - (intOf i).toNat)
  case atStart => exact ⟨0, by omega, rfl, rfl⟩
  case round =>
    obtain ⟨k, hk, rfl, rfl⟩ := hrel
    by_cases hlt : k < cs.length
    · obtain ⟨b, o, rfl, hcl⟩ := hcA k hlt
      have h1 := bits_lo_u8 .xor (runI (notI s) (cs.take k) % 256) cs[k]
      have h2 := bits_hi_u8 .xor (runI (notI s) (cs.take k) % 256) cs[k]
      have hcT : W.cell? ⟨w1.heap.size, (bits .xor .u8 (runI (notI s) (cs.take k) % 256) cs[k]).toNat, none⟩ = some (.int .u32 (stN 8 (bits .xor .u8 (runI (notI s) (cs.take k) % 256) cs[k]))) := by
        rw [cell_of_row _ _ _ _ _ _ hT, tabC_get 256 _ (by omega), if_pos (by omega), Int.toNat_of_nonneg h1]
      clear hT hcA
      go_wp2
      go_round
      case rel => exact ⟨k + 1, by omega, by go_num, by rw [runI_snoc _ _ _ hlt]; rfl⟩
      case measure => simp [intOf]; omega
    · obtain rfl : k = cs.length := by omega
      clear hT hcA
      go_wp2
      go_ret
      exact ⟨rfl, hbA⟩

theorem of_any (v : Value) (cs : List Int) (w : World) (h : Rd w v (by8 cs)) :
    Calls Tryz.prog 104 #[v] w fun e w' => e = .returned (.int .u32 (moreI 0 cs)) ∧ Below w.heap.size w w' := by
  go_enter Tryz.func104, Tryz.ntmps104
  go_wp2_with (go_at_call 145; refine (more_any 0 v cs _ h).mono ?_; rintro e w1 ⟨rfl, hb1⟩)
  go_ret
  exact ⟨rfl, hb1⟩

end Go.Proofs.YtckpeclkkmapiaaGreatDoor
