/-
  belfrylaw01.Beyond: is there more than is gone through?
-/
import Derived.Test.YtphlodafdkpedaaRows
import Derived.Test.YtphlodafdkpedaaKit
namespace Go.Proofs.Ytphlodafdkpedaa
open Go.RowKit
open Go

/-- The sizes that Beyond adds up, early end. -/
def sumI (xs : List Int) : Int := xs.foldl (· + ·) 0
theorem sumI_snoc (xs : List Int) (k : Nat) (h : k < xs.length) : sumI (xs.take (k + 1)) = sumI (xs.take k) + xs[k] := by
  unfold sumI
  rw [take_snoc _ _ h, List.foldl_append]
  rfl
theorem foldl_add_le (l : List Int) (x : Int) (h : ∀ y ∈ l, 0 ≤ y) : x ≤ l.foldl (· + ·) x := by
  induction l generalizing x with
  | nil => exact Int.le_refl _
  | cons y l ih =>
    have h1 := ih (x + y) (fun z hz => h z (by simp [hz]))
    have h2 := h y (by simp)
    simp only [List.foldl_cons]
    omega
theorem sumI_take_le (xs : List Int) (k : Nat) (h : ∀ y ∈ xs, 0 ≤ y) : sumI (xs.take k) ≤ sumI xs := by
  have e : sumI xs = (xs.drop k).foldl (· + ·) (sumI (xs.take k)) := by
    unfold sumI
    rw [← List.foldl_append, List.take_append_drop]
  rw [e]
  exact foldl_add_le _ _ fun y hy => h y (List.mem_of_mem_drop hy)

theorem sumI_one (x : Int) : sumI [x] = x := by simp [sumI]
theorem sumI_two (x y : Int) : sumI [x, y] = x + y := by simp [sumI]
theorem sumI_three (x y z : Int) : sumI [x, y, z] = x + y + z := by simp [sumI]
set_option maxHeartbeats 400000 in
theorem beyond_any (v : Value) (xs : List Int) (w : World) (h : Rd w v (ints xs)) (h0 : ∀ x ∈ xs, 0 ≤ x ∧ x ≤ 140737488351232) :
    Calls Try.prog 4 #[v] w fun e w' => e = .returned (.bool (decide (1048576 < sumI xs))) ∧ w = w' := by
  obtain ⟨a, c, rfl, hc, hm, hn, hcell⟩ := h
  simp only [List.length_map] at *
  unfold maxLen at hm
  have hS := fun k => sumI_take_le xs k (fun y hy => (h0 y hy).1)
  go_enter Try.func4, Try.ntmps4
  go_wp2
  go_loop [3, 4] (fun s i => ∃ k : Nat, k ≤ xs.length ∧ i = .int .i64 k ∧ 0 ≤ sumI (xs.take k) ∧ sumI (xs.take k) ≤ 1048576 ∧ s = .int .i64 (sumI (xs.take k))) (fun _ i => xs.length - (intOf i).toNat)
  case atStart => exact ⟨0, by omega, rfl, by simp [sumI], by simp [sumI], by simp [sumI]⟩
  case round =>
    obtain ⟨k, hk, rfl, ht0, ht1, rfl⟩ := hrel
    by_cases hlt : k < xs.length
    · obtain ⟨b, o, rfl, hcl⟩ := hcell k _ (map_get hlt)
      obtain ⟨hx0, hx1⟩ := h0 _ (List.getElem_mem hlt)
      have HS := Lib.hid (sumI_snoc xs k hlt)
      have HT := Lib.hid (hS (k + 1))
      clear hcell h0 hS
      go_wp2
      · go_ret
        refine ⟨?_, rfl⟩
        have h1 := HS.out
        have h2 := HT.out
        have h3 : decide (1048576 < sumI xs) = true := by simp; omega
        rw [h3]
        rfl
      · go_round
        case rel => exact ⟨k + 1, by omega, by go_num, by rw [HS.out]; omega, by rw [HS.out]; omega, by rw [HS.out]⟩
        case measure => simp [intOf]; omega
    · obtain rfl : k = xs.length := by omega
      clear hcell h0 hS
      rw [List.take_length] at *
      go_wp2
      go_ret
      refine ⟨?_, rfl⟩
      have h3 : decide (1048576 < sumI xs) = false := by simp; omega
      rw [h3]
      rfl
end Go.Proofs.Ytphlodafdkpedaa
