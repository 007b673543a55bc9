/-
  The walk of belfryref22.Round.
-/
import Derived.Test.YtafamnodeliaaaaGreatDoorRefRound22
import Derived.RegionTactic
namespace Go.Proofs.YtafamnodeliaaaaGreatDoor
open Go.RowKit
open Go

/-- What it refuses. -/
theorem rbad_any (v u : Value) (css : List (List Int)) (fs : List Fl) (rd : Int) (w : World) (hS : RdB w v css) (hF : RdN 5 w u (fs.map rowF)) (hbad : 8 < css.length ∨ rd < 0 ∨ fs.any (oddB css.length) = true) :
    Calls Tryz.prog 9 #[v, u, .int .i64 rd] w fun e w' => e = .returned (.tuple #[.slice none 0 0, .int .i64 1]) ∧ Below w.heap.size w w' := by
  obtain ⟨vs, hR, hl, _⟩ := hS
  obtain ⟨a, c, rfl, hc, hm⟩ : ∃ a c, v = .slice a css.length c ∧ css.length ≤ c ∧ c ≤ maxLen := by
    obtain ⟨a, c, e, h1, h2, _⟩ := hR
    exact ⟨a, c, by rw [e, hl], by omega, h2⟩
  unfold maxLen at hm
  obtain ⟨a2, c2, rfl, hc2, hm2⟩ := hF.shape
  rw [List.length_map] at *
  unfold maxLen at hm2
  have HR := Lib.hid hF
  have key : decide (8 < (css.length : Int)) = true ∨ (decide (8 < (css.length : Int)) = false ∧ decide (rd < 0) = true) ∨ (decide (8 < (css.length : Int)) = false ∧ decide (rd < 0) = false ∧ Hid (fs.any (oddB css.length) = true)) := by
    simp only [decide_eq_true_eq, decide_eq_false_iff_not]
    rcases hbad with h | h | h
    · exact .inl (by omega)
    · by_cases h8 : 8 < css.length
      · exact .inl (by omega)
      · exact .inr (.inl ⟨by omega, h⟩)
    · by_cases h8 : 8 < css.length
      · exact .inl (by omega)
      · by_cases hr : rd < 0
        · exact .inr (.inl ⟨by omega, hr⟩)
        · exact .inr (.inr ⟨by omega, hr, h⟩)
  clear hbad hF hR hl
  rcases key with q1 | ⟨q1, q2⟩ | ⟨q1, q2, q3⟩
  iterate 2
    · go_enter Tryz.func9, Tryz.ntmps9
      go_wp2_with fail
      go_ret2
      exact ⟨rfl, Below.refl _ _⟩
  · go_enter Tryz.func9, Tryz.ntmps9
    go_wp2_with fail
    go_loopw [8] (fun i wr => ∃ k : Nat, k ≤ fs.length ∧ i = .int .i64 k ∧ Hid ((fs.take k).any (oddB css.length) = false) ∧ Below w.heap.size w wr) (fun i _ => fs.length - (intOf i).toNat)
    case atStart => exact ⟨0, by omega, rfl, rfl, Below.refl _ _⟩
    case round =>
      obtain ⟨k, hk, rfl, hf, hb⟩ := hrel
      by_cases hlt : k < fs.length
      · obtain ⟨b, o, rfl, hcl⟩ := (HR.out.below hb).get k (by simpa using hlt)
        have hs : (fs.take (k + 1)).any (oddB css.length) = oddB css.length fs[k] := by
          rw [take_snoc _ _ hlt, List.any_append, hf.out]
          simp
        rw [List.getElem_map] at hcl
        have HS := Lib.hid hs
        have HM := Lib.hid (rmay22_any css.length fs[k] wr)
        clear hs
        generalize fs[k] = f at *
        cases q : oddB css.length f
        · rw [q] at HM
          have HF : Hid ((fs.take (k + 1)).any (oddB css.length) = false) := by unfold Hid; rw [HS.out, q]
          obtain ⟨r, s, h, x, b'⟩ := f
          have x0 : wr.cell? ⟨b, o + k * 5, none⟩ = some (.int .i64 r) := hcl 0 _ rfl
          have x1 : wr.cell? ⟨b, o + k * 5 + 1, none⟩ = some (.int .i64 s) := hcl 1 _ rfl
          have x2 : wr.cell? ⟨b, o + k * 5 + 2, none⟩ = some (.int .u8 h) := hcl 2 _ rfl
          have x3 : wr.cell? ⟨b, o + k * 5 + 3, none⟩ = some (.int .i64 x) := hcl 3 _ rfl
          have x4 : wr.cell? ⟨b, o + k * 5 + 4, none⟩ = some (.int .u8 b') := hcl 4 _ rfl
          clear hcl q HS hf
          go_wp2_with fail
          refine Calls.mono HM.out ?_
          rintro e w1 ⟨rfl, b1⟩
          go_wp2_with fail
          go_roundw
          case rel => exact ⟨k + 1, by omega, by go_num, HF, bnext hb b1⟩
          case measure => simp [intOf]; omega
        · rw [q] at HM
          obtain ⟨r, s, h, x, b'⟩ := f
          have x0 : wr.cell? ⟨b, o + k * 5, none⟩ = some (.int .i64 r) := hcl 0 _ rfl
          have x1 : wr.cell? ⟨b, o + k * 5 + 1, none⟩ = some (.int .i64 s) := hcl 1 _ rfl
          have x2 : wr.cell? ⟨b, o + k * 5 + 2, none⟩ = some (.int .u8 h) := hcl 2 _ rfl
          have x3 : wr.cell? ⟨b, o + k * 5 + 3, none⟩ = some (.int .i64 x) := hcl 3 _ rfl
          have x4 : wr.cell? ⟨b, o + k * 5 + 4, none⟩ = some (.int .u8 b') := hcl 4 _ rfl
          clear hcl q HS hf
          go_wp2_with fail
          refine Calls.mono HM.out ?_
          rintro e w1 ⟨rfl, b1⟩
          go_wp2_with fail
          go_ret2
          exact ⟨rfl, bnext hb b1⟩
      · obtain rfl : k = fs.length := by omega
        have := hf.out
        rw [List.take_length, q3.out] at this
        cases this
end Go.Proofs.YtafamnodeliaaaaGreatDoor
