/-
  The walks of belfryref03: wide, all, Bits.
-/
import Derived.Test.YtckpeclkkmapiaaGreatDoorFrv
namespace Go.Proofs.YtckpeclkkmapiaaGreatDoor
open Go.RowKit
open Go

theorem rwide_any (t : Int) (w : World) : Calls Tryz.prog 37 #[.int .u8 t] w fun e w' => e = .returned (.int .i64 (tyW t)) ∧ w = w' := by
  have key : ((t == 2) = true ∧ tyW t = 1) ∨ ((t == 2) = false ∧ (t == 1) = true ∧ tyW t = 64) ∨ ((t == 2) = false ∧ (t == 1) = false ∧ tyW t = 0) := by
    unfold tyW
    by_cases h2 : t = 2
    · exact .inl ⟨by simp [h2], by rw [if_pos h2]⟩
    · by_cases h1 : t = 1
      · exact .inr (.inl ⟨by simp [h2], by simp [h1], by rw [if_neg h2, if_pos h1]⟩)
      · exact .inr (.inr ⟨by simp [h2], by simp [h1], by rw [if_neg h2, if_neg h1]⟩)
  rcases key with ⟨e1, e2⟩ | ⟨e1, e2, e3⟩ | ⟨e1, e2, e3⟩
  · rw [e2]
    go_enter Tryz.func37, Tryz.ntmps37
    go_wp2_with fail
    go_ret
    exact ⟨rfl, rfl⟩
  · rw [e3]
    go_enter Tryz.func37, Tryz.ntmps37
    go_wp2_with fail
    go_ret
    exact ⟨rfl, rfl⟩
  · rw [e3]
    go_enter Tryz.func37, Tryz.ntmps37
    go_wp2_with fail
    go_ret
    exact ⟨rfl, rfl⟩

set_option maxHeartbeats 1000000 in
theorem rall_any (v : Value) (ts : List Int) (w : World) (h : Rd w v (by8 ts)) (hm : ts.length ≤ 15000) :
    Calls Tryz.prog 38 #[v] w fun e w' => e = .returned (.int .i64 (sizeT ts)) ∧ w = w' := by
  have HV := Lib.hid h
  obtain ⟨a, c, rfl, hc, hcm, _, _⟩ := h
  have hl : (by8 ts).length = ts.length := by simp
  rw [hl] at hc HV ⊢
  unfold maxLen at hcm
  clear hl
  go_enter Tryz.func38, Tryz.ntmps38
  go_wp2_with fail
  go_loop [3, 4] (fun n i => ∃ k : Nat, k ≤ ts.length ∧ i = .int .i64 k ∧ n = .int .i64 (sizeT (ts.take k))) (fun _ i => ts.length - (intOf i).toNat)
  case atStart => exact ⟨0, by omega, rfl, rfl⟩
  case round =>
    obtain ⟨k, hk, rfl, rfl⟩ := hrel
    by_cases hlt : k < ts.length
    · obtain ⟨b, o, rfl, x0⟩ := HV.out.get (cs := ts) k hlt
      have hs := Lib.hid (sizeT_snoc ts k hlt)
      have h1 := sizeT_le (ts.take k)
      have h2 : (ts.take k).length ≤ k := List.length_take_le _ _
      have h3 := tyW_le ts[k]
      generalize ts[k] = t at *
      generalize sizeT (ts.take k) = n at *
      have RW := Lib.hid (rwide_any t w)
      generalize tyW t = m at *
      generalize (ts.take k).length = q at *
      go_wp2_with fail
      refine Calls.mono RW.out ?_
      rintro e w1 ⟨rfl, rfl⟩
      go_wp2_with fail
      go_round
      case rel => exact ⟨k + 1, by omega, by go_num, by rw [hs.out]; go_num⟩
      case measure => simp [intOf]; omega
    · obtain rfl : k = ts.length := by omega
      rw [List.take_length]
      go_wp2_with fail
      go_ret
      exact ⟨rfl, rfl⟩
theorem rbits_any (v : Value) (ts : List Int) (w : World) (h : Rd w v (by8 ts)) (hm : ts.length ≤ 15000) :
    Calls Tryz.prog 13 #[v] w fun e w' => e = .returned (.int .i64 (8 * (13 + (((sizeT ts + 7) / 8 : Nat) : Int)))) ∧ w = w' := by
  have hs := sizeT_le ts
  have S := rall_any v ts w h hm
  generalize sizeT ts = n at *
  have HS := Lib.hid S
  clear S
  go_enter Tryz.func13, Tryz.ntmps13
  go_wp2_with fail
  refine Calls.mono HS.out ?_
  rintro e w1 ⟨rfl, rfl⟩
  go_wp2_with fail
  go_ret
  exact ⟨rfl, rfl⟩
end Go.Proofs.YtckpeclkkmapiaaGreatDoor
