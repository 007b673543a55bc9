/-
  The walk of great, told of; a round, here and by the reference.
-/
import Derived.Test.YtafamnodeliaaaaGreatDoorBrdInv
namespace Go.Proofs.YtafamnodeliaaaaGreatDoor
open Go.RowKit
open Go

def sumL (css : List (List Int)) : Nat := (css.map List.length).sum
theorem sumL_snoc (css : List (List Int)) (k : Nat) (h : k < css.length) : sumL (css.take (k + 1)) = sumL (css.take k) + css[k].length := by
  unfold sumL
  rw [take_snoc _ _ h, List.map_append, List.sum_append]
  simp
theorem sumL_le (css : List (List Int)) (B : Nat) (h : ∀ cs ∈ css, cs.length ≤ B) (k : Nat) (hk : k ≤ css.length) : sumL (css.take k) ≤ k * B := by
  induction k with
  | zero => simp [sumL]
  | succ k ih =>
    rw [sumL_snoc _ _ (by omega), Nat.add_mul, Nat.one_mul]
    have := ih (by omega)
    have := h css[k] (List.getElem_mem _)
    omega
theorem le_sumL (css : List (List Int)) : ∀ cs ∈ css, cs.length ≤ sumL css := by
  induction css with
  | nil => simp
  | cons c css ih =>
    intro cs hcs
    have e : sumL (c :: css) = c.length + sumL css := by simp [sumL]
    rcases List.mem_cons.1 hcs with rfl | h
    · omega
    · have := ih cs h
      omega
/-- Yes; or no, and then there are not many. -/
def GreatP (css : List (List Int)) (n : Nat) (e : Ending) : Prop := ∃ b, e = .returned (.bool b) ∧ (b = false → css.length ≤ 100 ∧ (∀ cs ∈ css, cs.length ≤ 20000) ∧ n ≤ 300)
set_option maxHeartbeats 1000000 in
theorem great_le (v u : Value) (css : List (List Int)) (n : Nat) (a2 : Option Addr) (c2 : Nat) (rd : Int) (w : World) (hS : RdB w v css) (hu : u = .slice a2 n c2) :
    Calls Tryz.prog 4 #[.agg #[v, u, .int .i64 rd]] w fun e w' => GreatP css n e ∧ Below w.heap.size w w' := by
  subst hu
  obtain ⟨ws, hR, hl, heach⟩ := hS
  obtain ⟨a, c, rfl, hc, hm⟩ := hR.len
  have B1 := balloc (Below.refl w.heap.size w) (.cells #[.slice a ws.length c, .slice a2 n c2, .int .i64 rd] 25)
  have hmx : ∀ cs ∈ css, cs.length ≤ 140737488351232 := fun cs hcs => by
    obtain ⟨i, hi, rfl⟩ := List.getElem_of_mem hcs
    exact (heach i _ _ (List.getElem?_eq_getElem (by omega)) (List.getElem?_eq_getElem hi)).2
  have HX := Lib.hid (sumL_le css _ hmx)
  have HE := Lib.hid heach
  have HL := Lib.hid hl
  clear heach hl hmx
  by_cases h1 : 100 < ws.length
  · have e1 : decide (100 < (ws.length : Int)) = true := decide_eq_true (by omega)
    go_enter Tryz.func4, Tryz.ntmps4
    go_wp2_with fail
    go_loop [3, 4] (fun s i => ∃ k : Nat, k ≤ ws.length ∧ i = .int .i64 k ∧ ∃ x : Int, s = .int .i64 x) (fun _ i => ws.length - (intOf i).toNat)
    case atStart => exact ⟨0, by omega, rfl, _, rfl⟩
    case round =>
      obtain ⟨k, hk, rfl, x, rfl⟩ := hrel
      by_cases hlt : k < ws.length
      · have hkc : k < css.length := by have := HL.out; omega
        obtain ⟨bq, oq, rfl, z0⟩ := (hR.below B1).at k ws[k] (List.getElem?_eq_getElem hlt)
        obtain ⟨ak, nk, ck, ek⟩ := (HE.out k ws[k] css[k] (List.getElem?_eq_getElem hlt) (List.getElem?_eq_getElem hkc)).1.form
        rw [ek] at z0
        clear ek
        go_wp2_with fail
        go_round
        case rel => exact ⟨k + 1, by omega, by go_num, _, rfl⟩
        case measure => simp [intOf]; omega
      · obtain rfl : k = ws.length := by omega
        by_cases h2 : 20000 < x
        all_goals
          go_wp2_with fail
          go_ret
          exact ⟨⟨true, rfl, fun h => by cases h⟩, B1⟩
  · have e1 : decide (100 < (ws.length : Int)) = false := decide_eq_false (by omega)
    go_enter Tryz.func4, Tryz.ntmps4
    go_wp2_with fail
    go_loop [3, 4] (fun s i => ∃ k : Nat, k ≤ ws.length ∧ i = .int .i64 k ∧ ∃ x : Nat, s = .int .i64 x ∧ x = ws.length + sumL (css.take k)) (fun _ i => ws.length - (intOf i).toNat)
    case atStart => exact ⟨0, by omega, rfl, ws.length, rfl, by simp [sumL]⟩
    case round =>
      obtain ⟨k, hk, rfl, x, rfl, hx⟩ := hrel
      have hxb := HX.out k (by have := HL.out; omega)
      by_cases hlt : k < ws.length
      · have hkc : k < css.length := by have := HL.out; omega
        obtain ⟨bq, oq, rfl, z0⟩ := (hR.below B1).at k ws[k] (List.getElem?_eq_getElem hlt)
        obtain ⟨hrk, hlk⟩ := HE.out k ws[k] css[k] (List.getElem?_eq_getElem hlt) (List.getElem?_eq_getElem hkc)
        obtain ⟨ak, ck, ek, _, _⟩ := hrk.shape
        rw [ek] at z0
        have hsn := Lib.hid (sumL_snoc css k hkc)
        have hx2 := Lib.hid hx
        have hxs : x ≤ 100 + 100 * 140737488351232 := by
          have : k * 140737488351232 ≤ 100 * 140737488351232 := Nat.mul_le_mul_right _ (by omega)
          omega
        clear ek hrk hx hxb
        generalize css[k].length = nk at *
        go_wp2_with fail
        go_round
        case rel => exact ⟨k + 1, by omega, by go_num, x + nk, by go_num, by rw [hsn.out, hx2.out]; omega⟩
        case measure => simp [intOf]; omega
      · obtain rfl : k = ws.length := by omega
        have hx2 := Lib.hid hx
        clear hx hxb
        by_cases h2 : 20000 < x
        · have e2 : decide (20000 < (x : Int)) = true := decide_eq_true (by omega)
          go_wp2_with fail
          go_ret
          exact ⟨⟨true, rfl, fun h => by cases h⟩, B1⟩
        · have e2 : decide (20000 < (x : Int)) = false := decide_eq_false (by omega)
          by_cases h3 : 300 < n
          · have e3 : decide (300 < (n : Int)) = true := decide_eq_true (by omega)
            go_wp2_with fail
            go_ret
            exact ⟨⟨true, rfl, fun h => by cases h⟩, B1⟩
          · have e3 : decide (300 < (n : Int)) = false := decide_eq_false (by omega)
            go_wp2_with fail
            go_ret
            have hx3 := hx2.out
            have hl := HL.out
            rw [List.take_of_length_le (by omega)] at hx3
            exact ⟨⟨false, rfl, fun _ => ⟨by omega, fun cs hcs => by have := le_sumL css cs hcs; omega, by omega⟩⟩, B1⟩
theorem outI_len' (fs : List Fl) (rd : Int) (i : Nat) (cs : List Int) (hh : ∀ f ∈ fs, 0 ≤ f.h ∧ f.h ≤ 2) : (outI fs rd i cs).length ≤ cs.length := by
  rw [outI_ways _ _ _ _ hh]
  split
  · simp
  · rw [spoilS_len]
    exact Nat.le_refl _
/-- A round, here and by the reference. -/
theorem round_both (css : List (List Int)) (fs : List Fl) (rd : Int) (hh : ∀ f ∈ fs, 0 ≤ f.h) (hm : css.length ≤ 100) (hcs : ∀ cs ∈ css, cs.length ≤ 20000) : ∃ (er : Int) (os : List (List Int)), os.length ≤ 100 ∧ (∀ cs ∈ os, cs.length ≤ 20000) ∧
    (∀ (v u : Value) (w : World), RdB w v css → RdN 5 w u (fs.map rowF) → Calls Tryz.prog 8 #[v, u, .int .i64 rd] w fun e w' => ∃ vo vs, e = .returned (.tuple #[vo, .int .i64 er]) ∧ Below w.heap.size w w' ∧ Own w' w.heap.size 47 1 vo vs.length vs ∧ Outs w' w.heap.size vs os) ∧
    (∀ (v u : Value) (w : World), RdB w v css → RdN 5 w u (fs.map rowF) → Calls Tryz.prog 9 #[v, u, .int .i64 rd] w fun e w' => ∃ vo vs, e = .returned (.tuple #[vo, .int .i64 er]) ∧ Below w.heap.size w w' ∧ Own w' w.heap.size 47 1 vo vs.length vs ∧ Outs w' w.heap.size vs os) := by
  by_cases hbad : 8 < css.length ∨ rd < 0 ∨ fs.any (oddB css.length) = true
  · refine ⟨1, [], by simp, by simp, fun v u w hS hF => (bad_any v u css fs rd w hS hF hbad).mono ?_, fun v u w hS hF => (rbad_any v u css fs rd w hS hF hbad).mono ?_⟩
    all_goals
      rintro e w' ⟨rfl, b⟩
      exact ⟨_, [], rfl, b, Own.nil none, Outs.nil _ _⟩
  · simp only [not_or] at hbad
    obtain ⟨h8, hrd, hodd⟩ := hbad
    have hodd' : fs.any (oddB css.length) = false := by simpa using hodd
    have hh2 : ∀ f ∈ fs, 0 ≤ f.h ∧ f.h ≤ 2 := fun f hf => by
      have h1 : oddB css.length f = false := by
        cases hob : oddB css.length f
        · rfl
        · have := List.any_eq_true.2 ⟨_, hf, hob⟩
          rw [hodd'] at this
          cases this
      simp only [oddB, Bool.or_eq_false_iff, decide_eq_false_iff_not] at h1
      exact ⟨hh f hf, by omega⟩
    refine ⟨0, css.mapIdx (outI fs rd), by rw [List.length_mapIdx]; exact hm, fun cs h => ?_, fun v u w hS hF => (round_own v u css fs rd w hS hF (by omega) (by omega) hodd' hh).mono ?_, fun v u w hS hF => (rround_any v u css fs rd w hS hF (by omega) (by omega) hodd' hh).mono ?_⟩
    · obtain ⟨i, hi, rfl⟩ := List.getElem_of_mem h
      rw [List.getElem_mapIdx]
      exact Nat.le_trans (outI_len' _ _ _ _ hh2) (hcs _ (List.getElem_mem _))
    · rintro e w' ⟨vo, vs, he, hb, h1, h2⟩
      exact ⟨vo, vs, he, hb, h1.2, h2⟩
    · rintro e w' ⟨vo, vs, he, hb, h1, h2⟩
      exact ⟨vo, vs, he, hb, Own.of_owns h1, h2⟩
end Go.Proofs.YtafamnodeliaaaaGreatDoor
