/-
  The walks of belfryref01: More, Of.
-/
import Derived.Test.YtckpeclkkmapiaaGreatDoorRows
import Derived.Test.YtckpeclkkmapiaaGreatDoorKit
import Derived.Test.YtckpeclkkmapiaaGreatDoorCrcMath
namespace Go.Proofs.YtckpeclkkmapiaaGreatDoor
open Go.RowKit
open Go

def U32 (x : Int) : Prop := 0 ≤ x ∧ x ≤ 4294967295
theorem rstI_lo (x : Int) (h : U32 x) : U32 (rstI x) := by
  obtain ⟨h0, h1⟩ := h
  unfold rstI
  split
  · exact ⟨bits_lo_u32 _ _ _, bits_hi_u32 _ _ _⟩
  · exact ⟨by omega, by omega⟩
theorem rstN_lo (n : Nat) (x : Int) (h : U32 x) : U32 (rstN n x) := by
  induction n with
  | zero => exact h
  | succ n ih => exact rstI_lo _ ih
theorem rrunI_snoc (x : Int) (cs : List Int) (k : Nat) (h : k < cs.length) : rrunI x (cs.take (k + 1)) = rstN 8 (bits .xor .u32 (rrunI x (cs.take k)) cs[k]) := by
  unfold rrunI
  rw [take_snoc _ _ h, List.foldl_append]
  rfl

set_option maxHeartbeats 400000 in
theorem rmore_any (s : Int) (v : Value) (cs : List Int) (w : World) (h : Rd w v (by8 cs)) (hB : IsB cs) :
    Calls Tryz.prog 151 #[.int .u32 s, v] w fun e w' => e = .returned (.int .u32 (rmoreI s cs)) ∧ w = w' := by
  obtain ⟨a, c, rfl, hc, hm, hn, hcell⟩ := h
  simp only [List.length_map] at *
  unfold maxLen at hm
  go_enter Tryz.func151, Tryz.ntmps151
  go_wp2_with fail
  have H := Lib.hid hcell
  clear hcell
  go_loop [5, 6, 7, 8] (fun t i _ _ => ∃ k : Nat, k ≤ cs.length ∧ i = .int .i64 k ∧ t = .int .u32 (rrunI (notI s) (cs.take k)) ∧ U32 (rrunI (notI s) (cs.take k))) (fun _ i _ _ => cs.length - (intOf i).toNat)
  case atStart => exact ⟨0, by omega, rfl, rfl, (⟨bits_lo_u32 .xor IntKind.u32.max s, bits_hi_u32 _ _ _⟩ : U32 (notI s))⟩
  case round =>
    obtain ⟨k, hk, rfl, rfl, ht⟩ := hrel
    by_cases hlt : k < cs.length
    · obtain ⟨b, o, rfl, hcl⟩ := H.out k _ (map_get hlt)
      obtain ⟨hc0, hc1⟩ := hB.at hlt
      obtain ⟨ht0, ht1⟩ := ht
      clear H
      go_wp2
      have hlo : U32 (bits .xor .u32 (rrunI (notI s) (cs.take k)) cs[k]) := ⟨bits_lo_u32 _ _ _, bits_hi_u32 _ _ _⟩
      have HR := Lib.hid (rrunI_snoc (notI s) cs k hlt)
      generalize hX : bits .xor .u32 (rrunI (notI s) (cs.take k)) cs[k] = X at *
      have HX := Lib.hid hX
      clear hX
      go_loop [5, 7, 8] (fun t j _ => ∃ q : Nat, q ≤ 8 ∧ j = .int .i64 q ∧ t = .int .u32 (rstN q X)) (fun _ j _ => 8 - (intOf j).toNat)
      case atStart => exact ⟨0, by omega, rfl, rfl⟩
      case round =>
        obtain ⟨q, hq, rfl, rfl⟩ := hrel
        obtain ⟨hl0, hl1⟩ := rstN_lo q X hlo
        by_cases hq8 : q < 8
        · by_cases hodd : rstN q X % 2 = 1
          all_goals
            go_wp2
            go_round
            case rel => exact ⟨q + 1, by omega, by go_num, by simp [rstN, rstI, hodd]⟩
            case measure => simp [intOf]; omega
        · obtain rfl : q = 8 := by omega
          go_wp2
          go_round
          case rel => exact ⟨k + 1, by omega, by go_num, by rw [HR.out, ← HX.out], by rw [HR.out]; exact ⟨hl0, hl1⟩⟩
          case measure => simp [intOf]; omega
    · obtain rfl : k = cs.length := by omega
      clear H
      go_wp2
      go_ret
      exact ⟨rfl, rfl⟩

theorem rof_any (v : Value) (cs : List Int) (w : World) (h : Rd w v (by8 cs)) (hB : IsB cs) :
    Calls Tryz.prog 146 #[v] w fun e w' => e = .returned (.int .u32 (rmoreI 0 cs)) ∧ w = w' := by
  go_enter Tryz.func146, Tryz.ntmps146
  go_wp2_with (go_at_call 151; refine (rmore_any 0 v cs _ h hB).mono ?_; rintro e w1 ⟨rfl, rfl⟩)
  go_ret
  exact ⟨rfl, rfl⟩
end Go.Proofs.YtckpeclkkmapiaaGreatDoor
