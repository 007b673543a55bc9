/-
  clocks.Mid: is there a reading that is none?
-/
import Derived.Test.YtmkphllfignbpaaClk
namespace Go.Proofs.Ytmkphllfignbpaa
open Go.RowKit
open Go

theorem mid1_any (n : Int) (w : World) : Calls Try.prog 22 #[.int .i64 n] w fun e w' => e = .returned (.bool (!smallB n)) ∧ w = w' := by
  have C := fun w => small_any n w
  generalize smallB n = z at *
  go_enter Try.func22, Try.ntmps22
  go_wp2_with (go_at_call 23; refine (C _).mono ?_; rintro e w' ⟨rfl, rfl⟩)
  go_ret
  exact ⟨rfl, rfl⟩
theorem mid2_any (a b : Int) (w : World) : Calls Try.prog 25 #[.int .i64 a, .int .i64 b] w fun e w' => e = .returned (.int .i64 (wrap64 (a - b))) ∧ w = w' := by
  go_enter Try.func25, Try.ntmps25
  go_wp2
  go_ret
  exact ⟨rfl, rfl⟩
set_option maxHeartbeats 1000000 in
theorem index_any (v : Value) (l : List Int) (w : World) (hR : Rd w v (ints l)) :
    Calls Try.prog 32 #[v, .func (.func 22) #[] #[]] w fun e w' => (∃ n : Int, e = .returned (.int .i64 n) ∧ decide (0 ≤ n) = l.any (fun p => !smallB p)) ∧ w = w' := by
  obtain ⟨a, c, rfl, hc, hm, _, hcell⟩ := hR
  rw [List.length_map] at *
  unfold maxLen at hm
  have HC := Lib.hid hcell
  clear hcell
  go_enter Try.func32, Try.ntmps32
  go_wp2_with fail
  go_loop [8] (fun i => ∃ k : Nat, k ≤ l.length ∧ i = .int .i64 k ∧ Hid ((l.take k).any (fun p => !smallB p) = false)) (fun i => l.length - (intOf i).toNat)
  case atStart => exact ⟨0, by omega, rfl, rfl⟩
  case round =>
    obtain ⟨k, hk, rfl, hf⟩ := hrel
    by_cases hlt : k < l.length
    · obtain ⟨b, o, rfl, hcl⟩ := HC.out k _ (map_get hlt)
      have C := fun w => mid1_any l[k] w
      have hs : (l.take (k + 1)).any (fun p => !smallB p) = !smallB l[k] := by
        rw [take_snoc _ _ hlt, List.any_append, hf.out]
        simp
      have hy : (!smallB l[k]) = true → l.any (fun p => !smallB p) = true := fun h => List.any_eq_true.2 ⟨_, List.getElem_mem hlt, h⟩
      have HS := Lib.hid hs
      have HY := Lib.hid hy
      have HM := Lib.hid C
      clear hs hy HC C
      generalize l[k] = f at *
      cases hsv : !smallB f
      · have HF : Hid ((l.take (k + 1)).any (fun p => !smallB p) = false) := by unfold Hid; rw [HS.out, hsv]
        rw [hsv] at HM
        clear hsv HS HY hf
        go_wp2_with fail
        refine (HM.out _).mono ?_
        rintro e w' ⟨rfl, rfl⟩
        go_wp2_with fail
        go_round
        case rel => exact ⟨k + 1, by omega, by go_num, HF⟩
        case measure => simp [intOf]; omega
      · have HT := Lib.hid (HY.out hsv)
        rw [hsv] at HM
        clear hsv HS HY hf
        go_wp2_with fail
        refine (HM.out _).mono ?_
        rintro e w' ⟨rfl, rfl⟩
        go_wp2_with fail
        go_ret
        exact ⟨⟨_, rfl, by rw [HT.out]; simp⟩, rfl⟩
    · obtain rfl : k = l.length := by omega
      have hff := hf.out
      rw [List.take_length] at hff
      have HF := Lib.hid hff
      clear hff HC
      go_wp2_with fail
      go_ret
      exact ⟨⟨_, rfl, by rw [HF.out]; rfl⟩, rfl⟩
theorem some_any (v : Value) (l : List Int) (w : World) (hR : Rd w v (ints l)) :
    Calls Try.prog 21 #[v, .func (.func 22) #[] #[]] w fun e w' => e = .returned (.bool (l.any fun p => !smallB p)) ∧ w = w' := by
  have C := index_any v l w hR
  generalize (l.any fun p => !smallB p) = z at *
  go_enter Try.func21, Try.ntmps21
  have HC := Lib.hid C
  clear C
  go_wp2_with fail
  refine Calls.mono HC.out ?_
  rintro e w1 ⟨⟨n, rfl, hn⟩, rfl⟩
  go_wp2_with fail
  go_ret
  exact ⟨rfl, rfl⟩
/-- What is told of slices.SortFunc (part ClkSort). -/
def SortSaid : Prop := ∀ (base g n cap : Nat) (l : List Int) (w : World), (∀ x ∈ l, smallB x = true) → w.ownsRow base 3 1 (.slice (some ⟨g, 0, none⟩) n cap) n (ints l) → n < 4611686018427387904 →
    Calls Try.prog 24 #[.slice (some ⟨g, 0, none⟩) n cap, .func (.func 25) #[] #[]] w fun e w' =>
      e = .returned (.tuple #[]) ∧ w'.ownsRow base 3 1 (.slice (some ⟨g, 0, none⟩) n cap) n (ints (srt l)) ∧ Below base w w'
end Go.Proofs.Ytmkphllfignbpaa
