/-
  The document's answer on values: Do. (Printed by genrefdo.py.)
-/
import Derived.Test.YtphlodafdkpedaaRefFits
namespace Go.Proofs.Ytphlodafdkpedaa
open Go.RowKit
open Go

theorem any_good {l : List VT} (h : (l.any fun p => !chkV p) = false) (k : Nat) (hk : k < l.length) : chkV l[k] = true := by
  have := List.any_eq_false.1 h _ (List.getElem_mem hk)
  simpa using this
set_option maxHeartbeats 2000000 in
theorem rdo_err1 (o : Int) (v : Value) (l : List VT) (w : World) (hR : RdN 2 w v (l.map rowV)) (h : manyI o = 0 ∨ (l.length : Int) ≠ manyI o ∨ (l.any fun p => !chkV p) = true) :
    Calls Try.prog 7 #[.int .u8 o, v] w fun e w' => e = .returned (.tuple #[aggV (0, 0), .int .i64 1]) ∧ Below w.heap.size w w' := by
  obtain ⟨a, c, rfl, hc, hm⟩ := hR.shape
  rw [List.length_map] at *
  unfold maxLen at hm
  have HR := Lib.hid hR
  have A0 : Hid (ResB w.heap.size (w.alloc (.cells #[.int .u8 0, .int .i64 0] 28 (0, 0)))) := heap_alloc_new _ _
  have B1 := balloc (Below.refl w.heap.size w) (.cells #[.int .u8 0, .int .i64 0] 28 (0, 0))
  have M := fun w => rmany_any o w
  generalize manyI o = mm at *
  have HM := Lib.hid M
  clear hR M
  by_cases h1 : mm = 0
  · subst h1
    clear h
    go_enter Try.func7, Try.ntmps7
    go_wp2_with fail
    refine (HM.out _).mono ?_
    rintro e w1 ⟨rfl, rfl⟩
    go_wp2_with fail
    exact bodyPost_ret (results_row_tmp Try.results7 _ _ w.heap.size _ _ _ _ rfl A0.out Try.underlying28 rfl infoV) rfl ⟨rfl, B1⟩
  · have e1 : (mm == 0) = false := by simpa using h1
    by_cases h2 : (l.length : Int) = mm
    · have e2 : ((l.length : Int) != mm) = false := by simpa using h2
      have h3 : Hid ((l.any fun p => !chkV p) = true) := by
        rcases h with h | h | h
        · exact absurd h h1
        · exact absurd h2 h
        · exact h
      clear h h1 h2
      go_enter Try.func7, Try.ntmps7
      go_wp2_with fail
      refine (HM.out _).mono ?_
      rintro e w1 ⟨rfl, rfl⟩
      go_wp2_with fail
      refine (HM.out _).mono ?_
      rintro e w1 ⟨rfl, rfl⟩
      go_wp2_with fail
      generalize w.alloc (.cells #[.int .u8 0, .int .i64 0] 28 (0, 0)) = w1 at *
      go_loopw [6] (fun i wr => ∃ k : Nat, k ≤ l.length ∧ i = .int .i64 k ∧ Hid ((l.take k).any (fun p => !chkV p) = false) ∧ Below w1.heap.size w1 wr) (fun i _ => l.length - (intOf i).toNat)
      case atStart => exact ⟨0, by omega, rfl, rfl, Below.refl _ _⟩
      case round =>
        obtain ⟨k, hk, rfl, hf, hb⟩ := hrel
        by_cases hlt : k < l.length
        · obtain ⟨b, o, rfl, hcl⟩ := (HR.out.below (bnext B1 hb)).get k (by simpa using hlt)
          rw [List.getElem_map] at hcl
          have C := rcheck_any l[k] wr
          have HS : Hid ((l.take (k + 1)).any (fun p => !chkV p) = !chkV l[k]) := by
            unfold Hid
            rw [take_snoc _ _ hlt, List.any_append, hf.out]
            simp
          generalize l[k] = f at *
          have HC := Lib.hid C
          clear C
          obtain ⟨t, n⟩ := f
          have x0 : wr.cell? ⟨b, o + k * 2, none⟩ = some (.int .u8 t) := hcl 0 _ rfl
          have x1 : wr.cell? ⟨b, o + k * 2 + 1, none⟩ = some (.int .i64 n) := hcl 1 _ rfl
          clear hcl
          cases hsv : chkV (t, n)
          · rw [hsv] at HC
            have A1 := Lib.hid (A0.out.below hb)
            clear hsv HS hf h3
            go_wp2_with fail
            refine Calls.mono HC.out ?_
            rintro e w2 ⟨rfl, b2⟩
            have A2 := Lib.hid (A1.out.below b2)
            obtain ⟨hz, c0, c1, f0, f1⟩ := A2.out.facts
            have B2 := bnext (bnext B1 hb) b2
            clear b2 A1
            go_wp2_with fail
            exact bodyPost_ret (results_row_tmp Try.results7 _ _ w.heap.size _ _ _ _ rfl (heap_setCell_same _ _ 1 _ _ _ (heap_setCell_same _ _ 0 _ _ _ A2.out)) Try.underlying28 rfl infoV) rfl ⟨rfl, ((B2.setCell (p := ⟨w.heap.size, 0, none⟩) (Nat.le_refl _) _).setCell (p := ⟨w.heap.size, 1, none⟩) (Nat.le_refl _) _)⟩
          · rw [hsv] at HC
            have HF : Hid ((l.take (k + 1)).any (fun p => !chkV p) = false) := by unfold Hid; rw [HS.out, hsv]; rfl
            clear hsv HS hf
            go_wp2_with fail
            refine Calls.mono HC.out ?_
            rintro e w2 ⟨rfl, b2⟩
            go_wp2_with fail
            go_roundw
            case rel => exact ⟨k + 1, by omega, by go_num, HF, bnext hb b2⟩
            case measure => simp [intOf]; omega
        · obtain rfl : k = l.length := by omega
          have hh := hf.out
          rw [List.take_length, h3.out] at hh
          cases hh
    · have e2 : ((l.length : Int) != mm) = true := by simpa using h2
      clear h h1 h2
      go_enter Try.func7, Try.ntmps7
      go_wp2_with fail
      refine (HM.out _).mono ?_
      rintro e w1 ⟨rfl, rfl⟩
      go_wp2_with fail
      refine (HM.out _).mono ?_
      rintro e w1 ⟨rfl, rfl⟩
      go_wp2_with fail
      exact bodyPost_ret (results_row_tmp Try.results7 _ _ w.heap.size _ _ _ _ rfl A0.out Try.underlying28 rfl infoV) rfl ⟨rfl, B1⟩
set_option maxHeartbeats 2000000 in
theorem rdo_err7 (o : Int) (v : Value) (l : List VT) (w : World) (hR : RdN 2 w v (l.map rowV)) (h1 : manyI o ≠ 0) (h2 : (l.length : Int) = manyI o) (h3 : (l.any fun p => !chkV p) = false)
    (hfit : ∀ w, RdN 2 w v (l.map rowV) → Calls Try.prog 17 #[.int .u8 o, v] w fun e w' => e = .returned (.bool false) ∧ Below w.heap.size w w') :
    Calls Try.prog 7 #[.int .u8 o, v] w fun e w' => e = .returned (.tuple #[aggV (0, 0), .int .i64 7]) ∧ Below w.heap.size w w' := by
  obtain ⟨a, c, rfl, hc, hm⟩ := hR.shape
  rw [List.length_map] at *
  unfold maxLen at hm
  have HR := Lib.hid hR
  have HG : Hid (∀ k (hk : k < l.length), chkV l[k] = true) := any_good h3
  have HLN : Hid (l.length = l.length) := rfl
  have A0 : Hid (ResB w.heap.size (w.alloc (.cells #[.int .u8 0, .int .i64 0] 28 (0, 0)))) := heap_alloc_new _ _
  have B1 := balloc (Below.refl w.heap.size w) (.cells #[.int .u8 0, .int .i64 0] 28 (0, 0))
  have M := fun w => rmany_any o w
  generalize manyI o = mm at *
  have HM := Lib.hid M
  have HF := Lib.hid hfit
  have e1 : (mm == 0) = false := by simpa using h1
  have e2 : ((l.length : Int) != mm) = false := by simpa using h2
  clear hR M hfit h1 h2 h3
  go_enter Try.func7, Try.ntmps7
  go_wp2_with fail
  refine (HM.out _).mono ?_
  rintro e w1 ⟨rfl, rfl⟩
  go_wp2_with fail
  refine (HM.out _).mono ?_
  rintro e w1 ⟨rfl, rfl⟩
  go_wp2_with fail
  generalize w.alloc (.cells #[.int .u8 0, .int .i64 0] 28 (0, 0)) = w1 at *
  go_loopw [6] (fun i wr => ∃ k : Nat, k ≤ l.length ∧ i = .int .i64 k ∧ Below w1.heap.size w1 wr) (fun i _ => l.length - (intOf i).toNat)
  case atStart => exact ⟨0, by omega, rfl, Below.refl _ _⟩
  case round =>
    obtain ⟨k, hk, rfl, hb⟩ := hrel
    by_cases hlt : k < l.length
    · have hlt2 : k < l.length := by have := HLN.out; omega
      obtain ⟨b, o, e', hcl⟩ := (HR.out.below (bnext B1 hb)).get k (by simpa using hlt2)
      cases e'
      rw [List.getElem_map] at hcl
      have C := rcheck_any l[k] wr
      rw [HG.out k hlt2] at C
      generalize l[k] = f at *
      have HC := Lib.hid C
      clear C
      obtain ⟨t, n⟩ := f
      have x0 := hcl 0 _ rfl
      have x1 := hcl 1 _ rfl
      rw [Nat.add_zero] at x0
      clear hcl
      go_wp2_with fail
      refine Calls.mono HC.out ?_
      rintro e w2 ⟨rfl, b2⟩
      go_wp2_with fail
      go_roundw
      case rel => exact ⟨k + 1, by omega, by go_num, bnext hb b2⟩
      case measure => simp [intOf]; omega
    · obtain rfl : k = l.length := by omega
      have A2 := Lib.hid (A0.out.below hb)
      have B2 := bnext B1 hb
      have R2 := Lib.hid (HR.out.below B2)
      clear A0 hb B1 HR hlt
      go_wp2_with fail
      refine (HF.out _ R2.out).mono ?_
      rintro e w3 ⟨rfl, b3⟩
      have A3 := Lib.hid (A2.out.below b3)
      have B3 := bnext B2 b3
      have R3 := Lib.hid (R2.out.below b3)
      obtain ⟨hz, c0, c1, f0, f1⟩ := A3.out.facts
      clear b3 A2 B2 R2 HF
      go_wp2_with fail
      exact bodyPost_ret (results_row_tmp Try.results7 _ _ w.heap.size _ _ _ _ rfl (heap_setCell_same _ _ 1 _ _ _ (heap_setCell_same _ _ 0 _ _ _ A3.out)) Try.underlying28 rfl infoV) rfl ⟨rfl, ((B3.setCell (p := ⟨w.heap.size, 0, none⟩) (Nat.le_refl _) _).setCell (p := ⟨w.heap.size, 1, none⟩) (Nat.le_refl _) _)⟩
set_option maxHeartbeats 4000000 in
set_option maxRecDepth 20000 in
theorem rdo4 (va : VT) (bq oq c : Nat) (w : World) (l : List VT) (hl : l = [va]) (hR : RdN 2 w (.slice (some ⟨bq, oq, none⟩) 1 c) (l.map rowV)) (h3 : (l.any fun p => !chkV p) = false)
    (hfit : ∀ w, RdN 2 w (.slice (some ⟨bq, oq, none⟩) 1 c) (l.map rowV) → Calls Try.prog 17 #[.int .u8 4, .slice (some ⟨bq, oq, none⟩) 1 c] w fun e w' => e = .returned (.bool true) ∧ Below w.heap.size w w') :
    Calls Try.prog 7 #[.int .u8 4, .slice (some ⟨bq, oq, none⟩) 1 c] w fun e w' => e = .returned (.tuple #[aggV (numV (wrap64 (-va.2))), .int .i64 0]) ∧ Below w.heap.size w w' := by
  have hmx : c ≤ 9223372036854775807 := by
    obtain ⟨_, _, e, _, h, _⟩ := hR
    simp only [Value.slice.injEq] at e
    obtain ⟨_, _, rfl⟩ := e
    exact h
  have HR := Lib.hid hR
  have HG : Hid (∀ k (hk : k < l.length), chkV l[k] = true) := any_good h3
  have HLN : Hid (l.length = 1) := by rw [hl]; rfl
  have A0 : Hid (ResB w.heap.size (w.alloc (.cells #[.int .u8 0, .int .i64 0] 28 (0, 0)))) := heap_alloc_new _ _
  have B1 := balloc (Below.refl w.heap.size w) (.cells #[.int .u8 0, .int .i64 0] 28 (0, 0))
  have M : ∀ w, Calls Try.prog 15 #[.int .u8 4] w fun e w' => e = .returned (.int .i64 1) ∧ w = w' := fun w => rmany_any 4 w
  have HM := Lib.hid M
  have HF := Lib.hid hfit
  have HE := Lib.hid hl
  have CV : Hid (∀ n w, Calls Try.prog 18 #[.int .i64 n] w fun e w' => e = .returned (.agg #[.int .u8 1, .int .i64 n]) ∧ Below w.heap.size w w') := fun n w => rnumber_any n w
  obtain ⟨a1, a2⟩ := va
  clear hR M hfit h3 hl
  go_enter Try.func7, Try.ntmps7
  go_wp2_with fail
  refine (HM.out _).mono ?_
  rintro e w1 ⟨rfl, rfl⟩
  go_wp2_with fail
  refine (HM.out _).mono ?_
  rintro e w1 ⟨rfl, rfl⟩
  go_wp2_with fail
  generalize w.alloc (.cells #[.int .u8 0, .int .i64 0] 28 (0, 0)) = w1 at *
  go_loopw [6] (fun i wr => ∃ k : Nat, k ≤ 1 ∧ i = .int .i64 k ∧ Below w1.heap.size w1 wr) (fun i _ => 1 - (intOf i).toNat)
  case atStart => exact ⟨0, by omega, rfl, Below.refl _ _⟩
  case round =>
    obtain ⟨k, hk, rfl, hb⟩ := hrel
    by_cases hlt : k < 1
    · have hlt2 : k < l.length := by rw [HLN.out]; exact hlt
      obtain ⟨b, o, e', hcl⟩ := (HR.out.below (bnext B1 hb)).get k (by simpa using hlt2)
      cases e'
      rw [List.getElem_map] at hcl
      have C := rcheck_any l[k] wr
      rw [HG.out k hlt2] at C
      generalize l[k] = f at *
      have HC := Lib.hid C
      clear C
      obtain ⟨t, n⟩ := f
      have x0 := hcl 0 _ rfl
      have x1 := hcl 1 _ rfl
      rw [Nat.add_zero] at x0
      clear hcl
      go_wp2_with fail
      refine Calls.mono HC.out ?_
      rintro e w2 ⟨rfl, b2⟩
      go_wp2_with fail
      go_roundw
      case rel => exact ⟨k + 1, by omega, by go_num, bnext hb b2⟩
      case measure => simp [intOf]; omega
    · obtain rfl : k = 1 := by omega
      have A2 := Lib.hid (A0.out.below hb)
      have B2 := bnext B1 hb
      have R2 := Lib.hid (HR.out.below B2)
      clear A0 hb B1 HR hlt
      go_wp2_with fail
      refine (HF.out _ R2.out).mono ?_
      rintro e w3 ⟨rfl, b3⟩
      have A3 := Lib.hid (A2.out.below b3)
      have B3 := bnext B2 b3
      have R3 := Lib.hid (R2.out.below b3)
      obtain ⟨hz, c0, c1, f0, f1⟩ := A3.out.facts
      clear b3 A2 B2 R2 HF
      rw [HE.out] at R3
      obtain ⟨b', o', e', p0, p1⟩ := one_of R3.out
      cases e'
      go_wp2_with fail
      refine (CV.out _ _).mono ?_
      rintro e w5 ⟨rfl, b5⟩
      have B5 := bnext B3 b5
      have A5 := Lib.hid (A3.out.below b5)
      obtain ⟨hz, c0, c1, f0, f1⟩ := A5.out.facts
      clear b5
      go_wp2_with fail
      exact bodyPost_ret (results_row_tmp Try.results7 _ _ w.heap.size _ _ _ _ rfl (heap_setCell_same _ _ 1 _ _ _ (heap_setCell_same _ _ 0 _ _ _ A5.out)) Try.underlying28 rfl infoV) rfl ⟨rfl, ((B5.setCell (p := ⟨w.heap.size, 0, none⟩) (Nat.le_refl _) _).setCell (p := ⟨w.heap.size, 1, none⟩) (Nat.le_refl _) _)⟩
set_option maxHeartbeats 4000000 in
set_option maxRecDepth 20000 in
theorem rdo5 (va : VT) (bq oq c : Nat) (w : World) (l : List VT) (hl : l = [va]) (hR : RdN 2 w (.slice (some ⟨bq, oq, none⟩) 1 c) (l.map rowV)) (h3 : (l.any fun p => !chkV p) = false)
    (hfit : ∀ w, RdN 2 w (.slice (some ⟨bq, oq, none⟩) 1 c) (l.map rowV) → Calls Try.prog 17 #[.int .u8 5, .slice (some ⟨bq, oq, none⟩) 1 c] w fun e w' => e = .returned (.bool true) ∧ Below w.heap.size w w') :
    Calls Try.prog 7 #[.int .u8 5, .slice (some ⟨bq, oq, none⟩) 1 c] w fun e w' => e = .returned (.tuple #[aggV (yesV (va.2 == 0)), .int .i64 0]) ∧ Below w.heap.size w w' := by
  have hmx : c ≤ 9223372036854775807 := by
    obtain ⟨_, _, e, _, h, _⟩ := hR
    simp only [Value.slice.injEq] at e
    obtain ⟨_, _, rfl⟩ := e
    exact h
  have HR := Lib.hid hR
  have HG : Hid (∀ k (hk : k < l.length), chkV l[k] = true) := any_good h3
  have HLN : Hid (l.length = 1) := by rw [hl]; rfl
  have A0 : Hid (ResB w.heap.size (w.alloc (.cells #[.int .u8 0, .int .i64 0] 28 (0, 0)))) := heap_alloc_new _ _
  have B1 := balloc (Below.refl w.heap.size w) (.cells #[.int .u8 0, .int .i64 0] 28 (0, 0))
  have M : ∀ w, Calls Try.prog 15 #[.int .u8 5] w fun e w' => e = .returned (.int .i64 1) ∧ w = w' := fun w => rmany_any 5 w
  have HM := Lib.hid M
  have HF := Lib.hid hfit
  have HE := Lib.hid hl
  have CV : Hid (∀ b w, Calls Try.prog 19 #[.bool b] w fun e w' => e = .returned (.agg #[.int .u8 2, .int .i64 (boolI b)]) ∧ Below w.heap.size w w') := fun b w => ryes_any b w
  obtain ⟨a1, a2⟩ := va
  clear hR M hfit h3 hl
  go_enter Try.func7, Try.ntmps7
  go_wp2_with fail
  refine (HM.out _).mono ?_
  rintro e w1 ⟨rfl, rfl⟩
  go_wp2_with fail
  refine (HM.out _).mono ?_
  rintro e w1 ⟨rfl, rfl⟩
  go_wp2_with fail
  generalize w.alloc (.cells #[.int .u8 0, .int .i64 0] 28 (0, 0)) = w1 at *
  go_loopw [6] (fun i wr => ∃ k : Nat, k ≤ 1 ∧ i = .int .i64 k ∧ Below w1.heap.size w1 wr) (fun i _ => 1 - (intOf i).toNat)
  case atStart => exact ⟨0, by omega, rfl, Below.refl _ _⟩
  case round =>
    obtain ⟨k, hk, rfl, hb⟩ := hrel
    by_cases hlt : k < 1
    · have hlt2 : k < l.length := by rw [HLN.out]; exact hlt
      obtain ⟨b, o, e', hcl⟩ := (HR.out.below (bnext B1 hb)).get k (by simpa using hlt2)
      cases e'
      rw [List.getElem_map] at hcl
      have C := rcheck_any l[k] wr
      rw [HG.out k hlt2] at C
      generalize l[k] = f at *
      have HC := Lib.hid C
      clear C
      obtain ⟨t, n⟩ := f
      have x0 := hcl 0 _ rfl
      have x1 := hcl 1 _ rfl
      rw [Nat.add_zero] at x0
      clear hcl
      go_wp2_with fail
      refine Calls.mono HC.out ?_
      rintro e w2 ⟨rfl, b2⟩
      go_wp2_with fail
      go_roundw
      case rel => exact ⟨k + 1, by omega, by go_num, bnext hb b2⟩
      case measure => simp [intOf]; omega
    · obtain rfl : k = 1 := by omega
      have A2 := Lib.hid (A0.out.below hb)
      have B2 := bnext B1 hb
      have R2 := Lib.hid (HR.out.below B2)
      clear A0 hb B1 HR hlt
      go_wp2_with fail
      refine (HF.out _ R2.out).mono ?_
      rintro e w3 ⟨rfl, b3⟩
      have A3 := Lib.hid (A2.out.below b3)
      have B3 := bnext B2 b3
      have R3 := Lib.hid (R2.out.below b3)
      obtain ⟨hz, c0, c1, f0, f1⟩ := A3.out.facts
      clear b3 A2 B2 R2 HF
      rw [HE.out] at R3
      obtain ⟨b', o', e', p0, p1⟩ := one_of R3.out
      cases e'
      go_wp2_with fail
      refine (CV.out _ _).mono ?_
      rintro e w5 ⟨rfl, b5⟩
      have B5 := bnext B3 b5
      have A5 := Lib.hid (A3.out.below b5)
      obtain ⟨hz, c0, c1, f0, f1⟩ := A5.out.facts
      clear b5
      go_wp2_with fail
      exact bodyPost_ret (results_row_tmp Try.results7 _ _ w.heap.size _ _ _ _ rfl (heap_setCell_same _ _ 1 _ _ _ (heap_setCell_same _ _ 0 _ _ _ A5.out)) Try.underlying28 rfl infoV) rfl ⟨rfl, ((B5.setCell (p := ⟨w.heap.size, 0, none⟩) (Nat.le_refl _) _).setCell (p := ⟨w.heap.size, 1, none⟩) (Nat.le_refl _) _)⟩
set_option maxHeartbeats 4000000 in
set_option maxRecDepth 20000 in
theorem rdo6 (va vb : VT) (bq oq c : Nat) (w : World) (l : List VT) (hl : l = [va, vb]) (hR : RdN 2 w (.slice (some ⟨bq, oq, none⟩) 2 c) (l.map rowV)) (h3 : (l.any fun p => !chkV p) = false)
    (hfit : ∀ w, RdN 2 w (.slice (some ⟨bq, oq, none⟩) 2 c) (l.map rowV) → Calls Try.prog 17 #[.int .u8 6, .slice (some ⟨bq, oq, none⟩) 2 c] w fun e w' => e = .returned (.bool true) ∧ Below w.heap.size w w') :
    Calls Try.prog 7 #[.int .u8 6, .slice (some ⟨bq, oq, none⟩) 2 c] w fun e w' => e = .returned (.tuple #[aggV (numV (wrap64 (va.2 + vb.2))), .int .i64 0]) ∧ Below w.heap.size w w' := by
  have hmx : c ≤ 9223372036854775807 := by
    obtain ⟨_, _, e, _, h, _⟩ := hR
    simp only [Value.slice.injEq] at e
    obtain ⟨_, _, rfl⟩ := e
    exact h
  have HR := Lib.hid hR
  have HG : Hid (∀ k (hk : k < l.length), chkV l[k] = true) := any_good h3
  have HLN : Hid (l.length = 2) := by rw [hl]; rfl
  have A0 : Hid (ResB w.heap.size (w.alloc (.cells #[.int .u8 0, .int .i64 0] 28 (0, 0)))) := heap_alloc_new _ _
  have B1 := balloc (Below.refl w.heap.size w) (.cells #[.int .u8 0, .int .i64 0] 28 (0, 0))
  have M : ∀ w, Calls Try.prog 15 #[.int .u8 6] w fun e w' => e = .returned (.int .i64 2) ∧ w = w' := fun w => rmany_any 6 w
  have HM := Lib.hid M
  have HF := Lib.hid hfit
  have HE := Lib.hid hl
  have CV : Hid (∀ n w, Calls Try.prog 18 #[.int .i64 n] w fun e w' => e = .returned (.agg #[.int .u8 1, .int .i64 n]) ∧ Below w.heap.size w w') := fun n w => rnumber_any n w
  obtain ⟨a1, a2⟩ := va
  obtain ⟨b1, b2⟩ := vb
  clear hR M hfit h3 hl
  go_enter Try.func7, Try.ntmps7
  go_wp2_with fail
  refine (HM.out _).mono ?_
  rintro e w1 ⟨rfl, rfl⟩
  go_wp2_with fail
  refine (HM.out _).mono ?_
  rintro e w1 ⟨rfl, rfl⟩
  go_wp2_with fail
  generalize w.alloc (.cells #[.int .u8 0, .int .i64 0] 28 (0, 0)) = w1 at *
  go_loopw [6] (fun i wr => ∃ k : Nat, k ≤ 2 ∧ i = .int .i64 k ∧ Below w1.heap.size w1 wr) (fun i _ => 2 - (intOf i).toNat)
  case atStart => exact ⟨0, by omega, rfl, Below.refl _ _⟩
  case round =>
    obtain ⟨k, hk, rfl, hb⟩ := hrel
    by_cases hlt : k < 2
    · have hlt2 : k < l.length := by rw [HLN.out]; exact hlt
      obtain ⟨b, o, e', hcl⟩ := (HR.out.below (bnext B1 hb)).get k (by simpa using hlt2)
      cases e'
      rw [List.getElem_map] at hcl
      have C := rcheck_any l[k] wr
      rw [HG.out k hlt2] at C
      generalize l[k] = f at *
      have HC := Lib.hid C
      clear C
      obtain ⟨t, n⟩ := f
      have x0 := hcl 0 _ rfl
      have x1 := hcl 1 _ rfl
      rw [Nat.add_zero] at x0
      clear hcl
      go_wp2_with fail
      refine Calls.mono HC.out ?_
      rintro e w2 ⟨rfl, b2⟩
      go_wp2_with fail
      go_roundw
      case rel => exact ⟨k + 1, by omega, by go_num, bnext hb b2⟩
      case measure => simp [intOf]; omega
    · obtain rfl : k = 2 := by omega
      have A2 := Lib.hid (A0.out.below hb)
      have B2 := bnext B1 hb
      have R2 := Lib.hid (HR.out.below B2)
      clear A0 hb B1 HR hlt
      go_wp2_with fail
      refine (HF.out _ R2.out).mono ?_
      rintro e w3 ⟨rfl, b3⟩
      have A3 := Lib.hid (A2.out.below b3)
      have B3 := bnext B2 b3
      have R3 := Lib.hid (R2.out.below b3)
      obtain ⟨hz, c0, c1, f0, f1⟩ := A3.out.facts
      clear b3 A2 B2 R2 HF
      rw [HE.out] at R3
      obtain ⟨b', o', e', p0, p1, p2, p3⟩ := pair_of R3.out
      cases e'
      go_wp2_with fail
      refine (CV.out _ _).mono ?_
      rintro e w5 ⟨rfl, b5⟩
      have B5 := bnext B3 b5
      have A5 := Lib.hid (A3.out.below b5)
      obtain ⟨hz, c0, c1, f0, f1⟩ := A5.out.facts
      clear b5
      go_wp2_with fail
      exact bodyPost_ret (results_row_tmp Try.results7 _ _ w.heap.size _ _ _ _ rfl (heap_setCell_same _ _ 1 _ _ _ (heap_setCell_same _ _ 0 _ _ _ A5.out)) Try.underlying28 rfl infoV) rfl ⟨rfl, ((B5.setCell (p := ⟨w.heap.size, 0, none⟩) (Nat.le_refl _) _).setCell (p := ⟨w.heap.size, 1, none⟩) (Nat.le_refl _) _)⟩
set_option maxHeartbeats 4000000 in
set_option maxRecDepth 20000 in
theorem rdo7 (va vb : VT) (bq oq c : Nat) (w : World) (l : List VT) (hl : l = [va, vb]) (hR : RdN 2 w (.slice (some ⟨bq, oq, none⟩) 2 c) (l.map rowV)) (h3 : (l.any fun p => !chkV p) = false)
    (hfit : ∀ w, RdN 2 w (.slice (some ⟨bq, oq, none⟩) 2 c) (l.map rowV) → Calls Try.prog 17 #[.int .u8 7, .slice (some ⟨bq, oq, none⟩) 2 c] w fun e w' => e = .returned (.bool true) ∧ Below w.heap.size w w') :
    Calls Try.prog 7 #[.int .u8 7, .slice (some ⟨bq, oq, none⟩) 2 c] w fun e w' => e = .returned (.tuple #[aggV (numV (wrap64 (va.2 - vb.2))), .int .i64 0]) ∧ Below w.heap.size w w' := by
  have hmx : c ≤ 9223372036854775807 := by
    obtain ⟨_, _, e, _, h, _⟩ := hR
    simp only [Value.slice.injEq] at e
    obtain ⟨_, _, rfl⟩ := e
    exact h
  have HR := Lib.hid hR
  have HG : Hid (∀ k (hk : k < l.length), chkV l[k] = true) := any_good h3
  have HLN : Hid (l.length = 2) := by rw [hl]; rfl
  have A0 : Hid (ResB w.heap.size (w.alloc (.cells #[.int .u8 0, .int .i64 0] 28 (0, 0)))) := heap_alloc_new _ _
  have B1 := balloc (Below.refl w.heap.size w) (.cells #[.int .u8 0, .int .i64 0] 28 (0, 0))
  have M : ∀ w, Calls Try.prog 15 #[.int .u8 7] w fun e w' => e = .returned (.int .i64 2) ∧ w = w' := fun w => rmany_any 7 w
  have HM := Lib.hid M
  have HF := Lib.hid hfit
  have HE := Lib.hid hl
  have CV : Hid (∀ n w, Calls Try.prog 18 #[.int .i64 n] w fun e w' => e = .returned (.agg #[.int .u8 1, .int .i64 n]) ∧ Below w.heap.size w w') := fun n w => rnumber_any n w
  obtain ⟨a1, a2⟩ := va
  obtain ⟨b1, b2⟩ := vb
  clear hR M hfit h3 hl
  go_enter Try.func7, Try.ntmps7
  go_wp2_with fail
  refine (HM.out _).mono ?_
  rintro e w1 ⟨rfl, rfl⟩
  go_wp2_with fail
  refine (HM.out _).mono ?_
  rintro e w1 ⟨rfl, rfl⟩
  go_wp2_with fail
  generalize w.alloc (.cells #[.int .u8 0, .int .i64 0] 28 (0, 0)) = w1 at *
  go_loopw [6] (fun i wr => ∃ k : Nat, k ≤ 2 ∧ i = .int .i64 k ∧ Below w1.heap.size w1 wr) (fun i _ => 2 - (intOf i).toNat)
  case atStart => exact ⟨0, by omega, rfl, Below.refl _ _⟩
  case round =>
    obtain ⟨k, hk, rfl, hb⟩ := hrel
    by_cases hlt : k < 2
    · have hlt2 : k < l.length := by rw [HLN.out]; exact hlt
      obtain ⟨b, o, e', hcl⟩ := (HR.out.below (bnext B1 hb)).get k (by simpa using hlt2)
      cases e'
      rw [List.getElem_map] at hcl
      have C := rcheck_any l[k] wr
      rw [HG.out k hlt2] at C
      generalize l[k] = f at *
      have HC := Lib.hid C
      clear C
      obtain ⟨t, n⟩ := f
      have x0 := hcl 0 _ rfl
      have x1 := hcl 1 _ rfl
      rw [Nat.add_zero] at x0
      clear hcl
      go_wp2_with fail
      refine Calls.mono HC.out ?_
      rintro e w2 ⟨rfl, b2⟩
      go_wp2_with fail
      go_roundw
      case rel => exact ⟨k + 1, by omega, by go_num, bnext hb b2⟩
      case measure => simp [intOf]; omega
    · obtain rfl : k = 2 := by omega
      have A2 := Lib.hid (A0.out.below hb)
      have B2 := bnext B1 hb
      have R2 := Lib.hid (HR.out.below B2)
      clear A0 hb B1 HR hlt
      go_wp2_with fail
      refine (HF.out _ R2.out).mono ?_
      rintro e w3 ⟨rfl, b3⟩
      have A3 := Lib.hid (A2.out.below b3)
      have B3 := bnext B2 b3
      have R3 := Lib.hid (R2.out.below b3)
      obtain ⟨hz, c0, c1, f0, f1⟩ := A3.out.facts
      clear b3 A2 B2 R2 HF
      rw [HE.out] at R3
      obtain ⟨b', o', e', p0, p1, p2, p3⟩ := pair_of R3.out
      cases e'
      go_wp2_with fail
      refine (CV.out _ _).mono ?_
      rintro e w5 ⟨rfl, b5⟩
      have B5 := bnext B3 b5
      have A5 := Lib.hid (A3.out.below b5)
      obtain ⟨hz, c0, c1, f0, f1⟩ := A5.out.facts
      clear b5
      go_wp2_with fail
      exact bodyPost_ret (results_row_tmp Try.results7 _ _ w.heap.size _ _ _ _ rfl (heap_setCell_same _ _ 1 _ _ _ (heap_setCell_same _ _ 0 _ _ _ A5.out)) Try.underlying28 rfl infoV) rfl ⟨rfl, ((B5.setCell (p := ⟨w.heap.size, 0, none⟩) (Nat.le_refl _) _).setCell (p := ⟨w.heap.size, 1, none⟩) (Nat.le_refl _) _)⟩
set_option maxHeartbeats 4000000 in
set_option maxRecDepth 20000 in
theorem rdo8 (va vb : VT) (bq oq c : Nat) (w : World) (l : List VT) (hl : l = [va, vb]) (hR : RdN 2 w (.slice (some ⟨bq, oq, none⟩) 2 c) (l.map rowV)) (h3 : (l.any fun p => !chkV p) = false)
    (hfit : ∀ w, RdN 2 w (.slice (some ⟨bq, oq, none⟩) 2 c) (l.map rowV) → Calls Try.prog 17 #[.int .u8 8, .slice (some ⟨bq, oq, none⟩) 2 c] w fun e w' => e = .returned (.bool true) ∧ Below w.heap.size w w') :
    Calls Try.prog 7 #[.int .u8 8, .slice (some ⟨bq, oq, none⟩) 2 c] w fun e w' => e = .returned (.tuple #[aggV (numV (wrap64 (va.2 * vb.2))), .int .i64 0]) ∧ Below w.heap.size w w' := by
  have hmx : c ≤ 9223372036854775807 := by
    obtain ⟨_, _, e, _, h, _⟩ := hR
    simp only [Value.slice.injEq] at e
    obtain ⟨_, _, rfl⟩ := e
    exact h
  have HR := Lib.hid hR
  have HG : Hid (∀ k (hk : k < l.length), chkV l[k] = true) := any_good h3
  have HLN : Hid (l.length = 2) := by rw [hl]; rfl
  have A0 : Hid (ResB w.heap.size (w.alloc (.cells #[.int .u8 0, .int .i64 0] 28 (0, 0)))) := heap_alloc_new _ _
  have B1 := balloc (Below.refl w.heap.size w) (.cells #[.int .u8 0, .int .i64 0] 28 (0, 0))
  have M : ∀ w, Calls Try.prog 15 #[.int .u8 8] w fun e w' => e = .returned (.int .i64 2) ∧ w = w' := fun w => rmany_any 8 w
  have HM := Lib.hid M
  have HF := Lib.hid hfit
  have HE := Lib.hid hl
  have CV : Hid (∀ n w, Calls Try.prog 18 #[.int .i64 n] w fun e w' => e = .returned (.agg #[.int .u8 1, .int .i64 n]) ∧ Below w.heap.size w w') := fun n w => rnumber_any n w
  obtain ⟨a1, a2⟩ := va
  obtain ⟨b1, b2⟩ := vb
  clear hR M hfit h3 hl
  go_enter Try.func7, Try.ntmps7
  go_wp2_with fail
  refine (HM.out _).mono ?_
  rintro e w1 ⟨rfl, rfl⟩
  go_wp2_with fail
  refine (HM.out _).mono ?_
  rintro e w1 ⟨rfl, rfl⟩
  go_wp2_with fail
  generalize w.alloc (.cells #[.int .u8 0, .int .i64 0] 28 (0, 0)) = w1 at *
  go_loopw [6] (fun i wr => ∃ k : Nat, k ≤ 2 ∧ i = .int .i64 k ∧ Below w1.heap.size w1 wr) (fun i _ => 2 - (intOf i).toNat)
  case atStart => exact ⟨0, by omega, rfl, Below.refl _ _⟩
  case round =>
    obtain ⟨k, hk, rfl, hb⟩ := hrel
    by_cases hlt : k < 2
    · have hlt2 : k < l.length := by rw [HLN.out]; exact hlt
      obtain ⟨b, o, e', hcl⟩ := (HR.out.below (bnext B1 hb)).get k (by simpa using hlt2)
      cases e'
      rw [List.getElem_map] at hcl
      have C := rcheck_any l[k] wr
      rw [HG.out k hlt2] at C
      generalize l[k] = f at *
      have HC := Lib.hid C
      clear C
      obtain ⟨t, n⟩ := f
      have x0 := hcl 0 _ rfl
      have x1 := hcl 1 _ rfl
      rw [Nat.add_zero] at x0
      clear hcl
      go_wp2_with fail
      refine Calls.mono HC.out ?_
      rintro e w2 ⟨rfl, b2⟩
      go_wp2_with fail
      go_roundw
      case rel => exact ⟨k + 1, by omega, by go_num, bnext hb b2⟩
      case measure => simp [intOf]; omega
    · obtain rfl : k = 2 := by omega
      have A2 := Lib.hid (A0.out.below hb)
      have B2 := bnext B1 hb
      have R2 := Lib.hid (HR.out.below B2)
      clear A0 hb B1 HR hlt
      go_wp2_with fail
      refine (HF.out _ R2.out).mono ?_
      rintro e w3 ⟨rfl, b3⟩
      have A3 := Lib.hid (A2.out.below b3)
      have B3 := bnext B2 b3
      have R3 := Lib.hid (R2.out.below b3)
      obtain ⟨hz, c0, c1, f0, f1⟩ := A3.out.facts
      clear b3 A2 B2 R2 HF
      rw [HE.out] at R3
      obtain ⟨b', o', e', p0, p1, p2, p3⟩ := pair_of R3.out
      cases e'
      go_wp2_with fail
      refine (CV.out _ _).mono ?_
      rintro e w5 ⟨rfl, b5⟩
      have B5 := bnext B3 b5
      have A5 := Lib.hid (A3.out.below b5)
      obtain ⟨hz, c0, c1, f0, f1⟩ := A5.out.facts
      clear b5
      go_wp2_with fail
      exact bodyPost_ret (results_row_tmp Try.results7 _ _ w.heap.size _ _ _ _ rfl (heap_setCell_same _ _ 1 _ _ _ (heap_setCell_same _ _ 0 _ _ _ A5.out)) Try.underlying28 rfl infoV) rfl ⟨rfl, ((B5.setCell (p := ⟨w.heap.size, 0, none⟩) (Nat.le_refl _) _).setCell (p := ⟨w.heap.size, 1, none⟩) (Nat.le_refl _) _)⟩
set_option maxHeartbeats 4000000 in
set_option maxRecDepth 20000 in
theorem rdo9 (va vb : VT) (bq oq c : Nat) (w : World) (l : List VT) (hl : l = [va, vb]) (hR : RdN 2 w (.slice (some ⟨bq, oq, none⟩) 2 c) (l.map rowV)) (h3 : (l.any fun p => !chkV p) = false)
    (hfit : ∀ w, RdN 2 w (.slice (some ⟨bq, oq, none⟩) 2 c) (l.map rowV) → Calls Try.prog 17 #[.int .u8 9, .slice (some ⟨bq, oq, none⟩) 2 c] w fun e w' => e = .returned (.bool true) ∧ Below w.heap.size w w') :
    Calls Try.prog 7 #[.int .u8 9, .slice (some ⟨bq, oq, none⟩) 2 c] w fun e w' => e = .returned (.tuple #[aggV (numV (divI va.2 vb.2)), .int .i64 0]) ∧ Below w.heap.size w w' := by
  have hmx : c ≤ 9223372036854775807 := by
    obtain ⟨_, _, e, _, h, _⟩ := hR
    simp only [Value.slice.injEq] at e
    obtain ⟨_, _, rfl⟩ := e
    exact h
  have HR := Lib.hid hR
  have HG : Hid (∀ k (hk : k < l.length), chkV l[k] = true) := any_good h3
  have HLN : Hid (l.length = 2) := by rw [hl]; rfl
  have A0 : Hid (ResB w.heap.size (w.alloc (.cells #[.int .u8 0, .int .i64 0] 28 (0, 0)))) := heap_alloc_new _ _
  have B1 := balloc (Below.refl w.heap.size w) (.cells #[.int .u8 0, .int .i64 0] 28 (0, 0))
  have M : ∀ w, Calls Try.prog 15 #[.int .u8 9] w fun e w' => e = .returned (.int .i64 2) ∧ w = w' := fun w => rmany_any 9 w
  have HM := Lib.hid M
  have HF := Lib.hid hfit
  have HE := Lib.hid hl
  have CV : Hid (∀ n w, Calls Try.prog 18 #[.int .i64 n] w fun e w' => e = .returned (.agg #[.int .u8 1, .int .i64 n]) ∧ Below w.heap.size w w') := fun n w => rnumber_any n w
  obtain ⟨a1, a2⟩ := va
  obtain ⟨b1, b2⟩ := vb
  clear hR M hfit h3 hl
  go_enter Try.func7, Try.ntmps7
  go_wp2_with fail
  refine (HM.out _).mono ?_
  rintro e w1 ⟨rfl, rfl⟩
  go_wp2_with fail
  refine (HM.out _).mono ?_
  rintro e w1 ⟨rfl, rfl⟩
  go_wp2_with fail
  generalize w.alloc (.cells #[.int .u8 0, .int .i64 0] 28 (0, 0)) = w1 at *
  go_loopw [6] (fun i wr => ∃ k : Nat, k ≤ 2 ∧ i = .int .i64 k ∧ Below w1.heap.size w1 wr) (fun i _ => 2 - (intOf i).toNat)
  case atStart => exact ⟨0, by omega, rfl, Below.refl _ _⟩
  case round =>
    obtain ⟨k, hk, rfl, hb⟩ := hrel
    by_cases hlt : k < 2
    · have hlt2 : k < l.length := by rw [HLN.out]; exact hlt
      obtain ⟨b, o, e', hcl⟩ := (HR.out.below (bnext B1 hb)).get k (by simpa using hlt2)
      cases e'
      rw [List.getElem_map] at hcl
      have C := rcheck_any l[k] wr
      rw [HG.out k hlt2] at C
      generalize l[k] = f at *
      have HC := Lib.hid C
      clear C
      obtain ⟨t, n⟩ := f
      have x0 := hcl 0 _ rfl
      have x1 := hcl 1 _ rfl
      rw [Nat.add_zero] at x0
      clear hcl
      go_wp2_with fail
      refine Calls.mono HC.out ?_
      rintro e w2 ⟨rfl, b2⟩
      go_wp2_with fail
      go_roundw
      case rel => exact ⟨k + 1, by omega, by go_num, bnext hb b2⟩
      case measure => simp [intOf]; omega
    · obtain rfl : k = 2 := by omega
      have A2 := Lib.hid (A0.out.below hb)
      have B2 := bnext B1 hb
      have R2 := Lib.hid (HR.out.below B2)
      clear A0 hb B1 HR hlt
      go_wp2_with fail
      refine (HF.out _ R2.out).mono ?_
      rintro e w3 ⟨rfl, b3⟩
      have A3 := Lib.hid (A2.out.below b3)
      have B3 := bnext B2 b3
      have R3 := Lib.hid (R2.out.below b3)
      obtain ⟨hz, c0, c1, f0, f1⟩ := A3.out.facts
      clear b3 A2 B2 R2 HF
      rw [HE.out] at R3
      obtain ⟨b', o', e', p0, p1, p2, p3⟩ := pair_of R3.out
      cases e'
      by_cases hz0 : b2 = 0
      · subst hz0
        go_wp2_with fail
        refine (CV.out _ _).mono ?_
        rintro e w5 ⟨rfl, b5⟩
        have B5 := bnext B3 b5
        have A5 := Lib.hid (A3.out.below b5)
        obtain ⟨hz, c0, c1, f0, f1⟩ := A5.out.facts
        clear b5
        go_wp2_with fail
        exact bodyPost_ret (results_row_tmp Try.results7 _ _ w.heap.size _ _ _ _ rfl (heap_setCell_same _ _ 1 _ _ _ (heap_setCell_same _ _ 0 _ _ _ A5.out)) Try.underlying28 rfl infoV) rfl ⟨rfl, ((B5.setCell (p := ⟨w.heap.size, 0, none⟩) (Nat.le_refl _) _).setCell (p := ⟨w.heap.size, 1, none⟩) (Nat.le_refl _) _)⟩
      · have e0 : (b2 == 0) = false := by simpa using hz0
        have HD : Hid (divI a2 b2 = wrap64 (a2.tdiv b2)) := if_neg hz0
        go_wp2_with fail
        refine (CV.out _ _).mono ?_
        rintro e w5 ⟨rfl, b5⟩
        have B5 := bnext B3 b5
        have A5 := Lib.hid (A3.out.below b5)
        obtain ⟨hz, c0, c1, f0, f1⟩ := A5.out.facts
        clear b5
        go_wp2_with fail
        exact bodyPost_ret (results_row_tmp Try.results7 _ _ w.heap.size _ _ _ _ rfl (heap_setCell_same _ _ 1 _ _ _ (heap_setCell_same _ _ 0 _ _ _ A5.out)) Try.underlying28 rfl infoV) rfl ⟨by rw [HD.out]; rfl, ((B5.setCell (p := ⟨w.heap.size, 0, none⟩) (Nat.le_refl _) _).setCell (p := ⟨w.heap.size, 1, none⟩) (Nat.le_refl _) _)⟩
set_option maxHeartbeats 4000000 in
set_option maxRecDepth 20000 in
theorem rdo10 (va vb : VT) (bq oq c : Nat) (w : World) (l : List VT) (hl : l = [va, vb]) (hR : RdN 2 w (.slice (some ⟨bq, oq, none⟩) 2 c) (l.map rowV)) (h3 : (l.any fun p => !chkV p) = false)
    (hfit : ∀ w, RdN 2 w (.slice (some ⟨bq, oq, none⟩) 2 c) (l.map rowV) → Calls Try.prog 17 #[.int .u8 10, .slice (some ⟨bq, oq, none⟩) 2 c] w fun e w' => e = .returned (.bool true) ∧ Below w.heap.size w w') :
    Calls Try.prog 7 #[.int .u8 10, .slice (some ⟨bq, oq, none⟩) 2 c] w fun e w' => e = .returned (.tuple #[aggV (numV (modI va.2 vb.2)), .int .i64 0]) ∧ Below w.heap.size w w' := by
  have hmx : c ≤ 9223372036854775807 := by
    obtain ⟨_, _, e, _, h, _⟩ := hR
    simp only [Value.slice.injEq] at e
    obtain ⟨_, _, rfl⟩ := e
    exact h
  have HR := Lib.hid hR
  have HG : Hid (∀ k (hk : k < l.length), chkV l[k] = true) := any_good h3
  have HLN : Hid (l.length = 2) := by rw [hl]; rfl
  have A0 : Hid (ResB w.heap.size (w.alloc (.cells #[.int .u8 0, .int .i64 0] 28 (0, 0)))) := heap_alloc_new _ _
  have B1 := balloc (Below.refl w.heap.size w) (.cells #[.int .u8 0, .int .i64 0] 28 (0, 0))
  have M : ∀ w, Calls Try.prog 15 #[.int .u8 10] w fun e w' => e = .returned (.int .i64 2) ∧ w = w' := fun w => rmany_any 10 w
  have HM := Lib.hid M
  have HF := Lib.hid hfit
  have HE := Lib.hid hl
  have CV : Hid (∀ n w, Calls Try.prog 18 #[.int .i64 n] w fun e w' => e = .returned (.agg #[.int .u8 1, .int .i64 n]) ∧ Below w.heap.size w w') := fun n w => rnumber_any n w
  obtain ⟨a1, a2⟩ := va
  obtain ⟨b1, b2⟩ := vb
  clear hR M hfit h3 hl
  go_enter Try.func7, Try.ntmps7
  go_wp2_with fail
  refine (HM.out _).mono ?_
  rintro e w1 ⟨rfl, rfl⟩
  go_wp2_with fail
  refine (HM.out _).mono ?_
  rintro e w1 ⟨rfl, rfl⟩
  go_wp2_with fail
  generalize w.alloc (.cells #[.int .u8 0, .int .i64 0] 28 (0, 0)) = w1 at *
  go_loopw [6] (fun i wr => ∃ k : Nat, k ≤ 2 ∧ i = .int .i64 k ∧ Below w1.heap.size w1 wr) (fun i _ => 2 - (intOf i).toNat)
  case atStart => exact ⟨0, by omega, rfl, Below.refl _ _⟩
  case round =>
    obtain ⟨k, hk, rfl, hb⟩ := hrel
    by_cases hlt : k < 2
    · have hlt2 : k < l.length := by rw [HLN.out]; exact hlt
      obtain ⟨b, o, e', hcl⟩ := (HR.out.below (bnext B1 hb)).get k (by simpa using hlt2)
      cases e'
      rw [List.getElem_map] at hcl
      have C := rcheck_any l[k] wr
      rw [HG.out k hlt2] at C
      generalize l[k] = f at *
      have HC := Lib.hid C
      clear C
      obtain ⟨t, n⟩ := f
      have x0 := hcl 0 _ rfl
      have x1 := hcl 1 _ rfl
      rw [Nat.add_zero] at x0
      clear hcl
      go_wp2_with fail
      refine Calls.mono HC.out ?_
      rintro e w2 ⟨rfl, b2⟩
      go_wp2_with fail
      go_roundw
      case rel => exact ⟨k + 1, by omega, by go_num, bnext hb b2⟩
      case measure => simp [intOf]; omega
    · obtain rfl : k = 2 := by omega
      have A2 := Lib.hid (A0.out.below hb)
      have B2 := bnext B1 hb
      have R2 := Lib.hid (HR.out.below B2)
      clear A0 hb B1 HR hlt
      go_wp2_with fail
      refine (HF.out _ R2.out).mono ?_
      rintro e w3 ⟨rfl, b3⟩
      have A3 := Lib.hid (A2.out.below b3)
      have B3 := bnext B2 b3
      have R3 := Lib.hid (R2.out.below b3)
      obtain ⟨hz, c0, c1, f0, f1⟩ := A3.out.facts
      clear b3 A2 B2 R2 HF
      rw [HE.out] at R3
      obtain ⟨b', o', e', p0, p1, p2, p3⟩ := pair_of R3.out
      cases e'
      by_cases hz0 : b2 = 0
      · subst hz0
        go_wp2_with fail
        refine (CV.out _ _).mono ?_
        rintro e w5 ⟨rfl, b5⟩
        have B5 := bnext B3 b5
        have A5 := Lib.hid (A3.out.below b5)
        obtain ⟨hz, c0, c1, f0, f1⟩ := A5.out.facts
        clear b5
        go_wp2_with fail
        exact bodyPost_ret (results_row_tmp Try.results7 _ _ w.heap.size _ _ _ _ rfl (heap_setCell_same _ _ 1 _ _ _ (heap_setCell_same _ _ 0 _ _ _ A5.out)) Try.underlying28 rfl infoV) rfl ⟨rfl, ((B5.setCell (p := ⟨w.heap.size, 0, none⟩) (Nat.le_refl _) _).setCell (p := ⟨w.heap.size, 1, none⟩) (Nat.le_refl _) _)⟩
      · have e0 : (b2 == 0) = false := by simpa using hz0
        have HD : Hid (modI a2 b2 = a2.tmod b2) := if_neg hz0
        go_wp2_with fail
        refine (CV.out _ _).mono ?_
        rintro e w5 ⟨rfl, b5⟩
        have B5 := bnext B3 b5
        have A5 := Lib.hid (A3.out.below b5)
        obtain ⟨hz, c0, c1, f0, f1⟩ := A5.out.facts
        clear b5
        go_wp2_with fail
        exact bodyPost_ret (results_row_tmp Try.results7 _ _ w.heap.size _ _ _ _ rfl (heap_setCell_same _ _ 1 _ _ _ (heap_setCell_same _ _ 0 _ _ _ A5.out)) Try.underlying28 rfl infoV) rfl ⟨by rw [HD.out]; rfl, ((B5.setCell (p := ⟨w.heap.size, 0, none⟩) (Nat.le_refl _) _).setCell (p := ⟨w.heap.size, 1, none⟩) (Nat.le_refl _) _)⟩
set_option maxHeartbeats 4000000 in
set_option maxRecDepth 20000 in
theorem rdo11 (va vb : VT) (bq oq c : Nat) (w : World) (l : List VT) (hl : l = [va, vb]) (hR : RdN 2 w (.slice (some ⟨bq, oq, none⟩) 2 c) (l.map rowV)) (h3 : (l.any fun p => !chkV p) = false)
    (hfit : ∀ w, RdN 2 w (.slice (some ⟨bq, oq, none⟩) 2 c) (l.map rowV) → Calls Try.prog 17 #[.int .u8 11, .slice (some ⟨bq, oq, none⟩) 2 c] w fun e w' => e = .returned (.bool true) ∧ Below w.heap.size w w') :
    Calls Try.prog 7 #[.int .u8 11, .slice (some ⟨bq, oq, none⟩) 2 c] w fun e w' => e = .returned (.tuple #[aggV (yesV (va.2 == vb.2)), .int .i64 0]) ∧ Below w.heap.size w w' := by
  have hmx : c ≤ 9223372036854775807 := by
    obtain ⟨_, _, e, _, h, _⟩ := hR
    simp only [Value.slice.injEq] at e
    obtain ⟨_, _, rfl⟩ := e
    exact h
  have HR := Lib.hid hR
  have HG : Hid (∀ k (hk : k < l.length), chkV l[k] = true) := any_good h3
  have HLN : Hid (l.length = 2) := by rw [hl]; rfl
  have A0 : Hid (ResB w.heap.size (w.alloc (.cells #[.int .u8 0, .int .i64 0] 28 (0, 0)))) := heap_alloc_new _ _
  have B1 := balloc (Below.refl w.heap.size w) (.cells #[.int .u8 0, .int .i64 0] 28 (0, 0))
  have M : ∀ w, Calls Try.prog 15 #[.int .u8 11] w fun e w' => e = .returned (.int .i64 2) ∧ w = w' := fun w => rmany_any 11 w
  have HM := Lib.hid M
  have HF := Lib.hid hfit
  have HE := Lib.hid hl
  have CV : Hid (∀ b w, Calls Try.prog 19 #[.bool b] w fun e w' => e = .returned (.agg #[.int .u8 2, .int .i64 (boolI b)]) ∧ Below w.heap.size w w') := fun b w => ryes_any b w
  obtain ⟨a1, a2⟩ := va
  obtain ⟨b1, b2⟩ := vb
  clear hR M hfit h3 hl
  go_enter Try.func7, Try.ntmps7
  go_wp2_with fail
  refine (HM.out _).mono ?_
  rintro e w1 ⟨rfl, rfl⟩
  go_wp2_with fail
  refine (HM.out _).mono ?_
  rintro e w1 ⟨rfl, rfl⟩
  go_wp2_with fail
  generalize w.alloc (.cells #[.int .u8 0, .int .i64 0] 28 (0, 0)) = w1 at *
  go_loopw [6] (fun i wr => ∃ k : Nat, k ≤ 2 ∧ i = .int .i64 k ∧ Below w1.heap.size w1 wr) (fun i _ => 2 - (intOf i).toNat)
  case atStart => exact ⟨0, by omega, rfl, Below.refl _ _⟩
  case round =>
    obtain ⟨k, hk, rfl, hb⟩ := hrel
    by_cases hlt : k < 2
    · have hlt2 : k < l.length := by rw [HLN.out]; exact hlt
      obtain ⟨b, o, e', hcl⟩ := (HR.out.below (bnext B1 hb)).get k (by simpa using hlt2)
      cases e'
      rw [List.getElem_map] at hcl
      have C := rcheck_any l[k] wr
      rw [HG.out k hlt2] at C
      generalize l[k] = f at *
      have HC := Lib.hid C
      clear C
      obtain ⟨t, n⟩ := f
      have x0 := hcl 0 _ rfl
      have x1 := hcl 1 _ rfl
      rw [Nat.add_zero] at x0
      clear hcl
      go_wp2_with fail
      refine Calls.mono HC.out ?_
      rintro e w2 ⟨rfl, b2⟩
      go_wp2_with fail
      go_roundw
      case rel => exact ⟨k + 1, by omega, by go_num, bnext hb b2⟩
      case measure => simp [intOf]; omega
    · obtain rfl : k = 2 := by omega
      have A2 := Lib.hid (A0.out.below hb)
      have B2 := bnext B1 hb
      have R2 := Lib.hid (HR.out.below B2)
      clear A0 hb B1 HR hlt
      go_wp2_with fail
      refine (HF.out _ R2.out).mono ?_
      rintro e w3 ⟨rfl, b3⟩
      have A3 := Lib.hid (A2.out.below b3)
      have B3 := bnext B2 b3
      have R3 := Lib.hid (R2.out.below b3)
      obtain ⟨hz, c0, c1, f0, f1⟩ := A3.out.facts
      clear b3 A2 B2 R2 HF
      rw [HE.out] at R3
      obtain ⟨b', o', e', p0, p1, p2, p3⟩ := pair_of R3.out
      cases e'
      go_wp2_with fail
      refine (CV.out _ _).mono ?_
      rintro e w5 ⟨rfl, b5⟩
      have B5 := bnext B3 b5
      have A5 := Lib.hid (A3.out.below b5)
      obtain ⟨hz, c0, c1, f0, f1⟩ := A5.out.facts
      clear b5
      go_wp2_with fail
      exact bodyPost_ret (results_row_tmp Try.results7 _ _ w.heap.size _ _ _ _ rfl (heap_setCell_same _ _ 1 _ _ _ (heap_setCell_same _ _ 0 _ _ _ A5.out)) Try.underlying28 rfl infoV) rfl ⟨rfl, ((B5.setCell (p := ⟨w.heap.size, 0, none⟩) (Nat.le_refl _) _).setCell (p := ⟨w.heap.size, 1, none⟩) (Nat.le_refl _) _)⟩
set_option maxHeartbeats 4000000 in
set_option maxRecDepth 20000 in
theorem rdo12 (va vb : VT) (bq oq c : Nat) (w : World) (l : List VT) (hl : l = [va, vb]) (hR : RdN 2 w (.slice (some ⟨bq, oq, none⟩) 2 c) (l.map rowV)) (h3 : (l.any fun p => !chkV p) = false)
    (hfit : ∀ w, RdN 2 w (.slice (some ⟨bq, oq, none⟩) 2 c) (l.map rowV) → Calls Try.prog 17 #[.int .u8 12, .slice (some ⟨bq, oq, none⟩) 2 c] w fun e w' => e = .returned (.bool true) ∧ Below w.heap.size w w') :
    Calls Try.prog 7 #[.int .u8 12, .slice (some ⟨bq, oq, none⟩) 2 c] w fun e w' => e = .returned (.tuple #[aggV (yesV (!(va.2 == vb.2))), .int .i64 0]) ∧ Below w.heap.size w w' := by
  have hmx : c ≤ 9223372036854775807 := by
    obtain ⟨_, _, e, _, h, _⟩ := hR
    simp only [Value.slice.injEq] at e
    obtain ⟨_, _, rfl⟩ := e
    exact h
  have HR := Lib.hid hR
  have HG : Hid (∀ k (hk : k < l.length), chkV l[k] = true) := any_good h3
  have HLN : Hid (l.length = 2) := by rw [hl]; rfl
  have A0 : Hid (ResB w.heap.size (w.alloc (.cells #[.int .u8 0, .int .i64 0] 28 (0, 0)))) := heap_alloc_new _ _
  have B1 := balloc (Below.refl w.heap.size w) (.cells #[.int .u8 0, .int .i64 0] 28 (0, 0))
  have M : ∀ w, Calls Try.prog 15 #[.int .u8 12] w fun e w' => e = .returned (.int .i64 2) ∧ w = w' := fun w => rmany_any 12 w
  have HM := Lib.hid M
  have HF := Lib.hid hfit
  have HE := Lib.hid hl
  have CV : Hid (∀ b w, Calls Try.prog 19 #[.bool b] w fun e w' => e = .returned (.agg #[.int .u8 2, .int .i64 (boolI b)]) ∧ Below w.heap.size w w') := fun b w => ryes_any b w
  obtain ⟨a1, a2⟩ := va
  obtain ⟨b1, b2⟩ := vb
  clear hR M hfit h3 hl
  go_enter Try.func7, Try.ntmps7
  go_wp2_with fail
  refine (HM.out _).mono ?_
  rintro e w1 ⟨rfl, rfl⟩
  go_wp2_with fail
  refine (HM.out _).mono ?_
  rintro e w1 ⟨rfl, rfl⟩
  go_wp2_with fail
  generalize w.alloc (.cells #[.int .u8 0, .int .i64 0] 28 (0, 0)) = w1 at *
  go_loopw [6] (fun i wr => ∃ k : Nat, k ≤ 2 ∧ i = .int .i64 k ∧ Below w1.heap.size w1 wr) (fun i _ => 2 - (intOf i).toNat)
  case atStart => exact ⟨0, by omega, rfl, Below.refl _ _⟩
  case round =>
    obtain ⟨k, hk, rfl, hb⟩ := hrel
    by_cases hlt : k < 2
    · have hlt2 : k < l.length := by rw [HLN.out]; exact hlt
      obtain ⟨b, o, e', hcl⟩ := (HR.out.below (bnext B1 hb)).get k (by simpa using hlt2)
      cases e'
      rw [List.getElem_map] at hcl
      have C := rcheck_any l[k] wr
      rw [HG.out k hlt2] at C
      generalize l[k] = f at *
      have HC := Lib.hid C
      clear C
      obtain ⟨t, n⟩ := f
      have x0 := hcl 0 _ rfl
      have x1 := hcl 1 _ rfl
      rw [Nat.add_zero] at x0
      clear hcl
      go_wp2_with fail
      refine Calls.mono HC.out ?_
      rintro e w2 ⟨rfl, b2⟩
      go_wp2_with fail
      go_roundw
      case rel => exact ⟨k + 1, by omega, by go_num, bnext hb b2⟩
      case measure => simp [intOf]; omega
    · obtain rfl : k = 2 := by omega
      have A2 := Lib.hid (A0.out.below hb)
      have B2 := bnext B1 hb
      have R2 := Lib.hid (HR.out.below B2)
      clear A0 hb B1 HR hlt
      go_wp2_with fail
      refine (HF.out _ R2.out).mono ?_
      rintro e w3 ⟨rfl, b3⟩
      have A3 := Lib.hid (A2.out.below b3)
      have B3 := bnext B2 b3
      have R3 := Lib.hid (R2.out.below b3)
      obtain ⟨hz, c0, c1, f0, f1⟩ := A3.out.facts
      clear b3 A2 B2 R2 HF
      rw [HE.out] at R3
      obtain ⟨b', o', e', p0, p1, p2, p3⟩ := pair_of R3.out
      cases e'
      go_wp2_with fail
      refine (CV.out _ _).mono ?_
      rintro e w5 ⟨rfl, b5⟩
      have B5 := bnext B3 b5
      have A5 := Lib.hid (A3.out.below b5)
      obtain ⟨hz, c0, c1, f0, f1⟩ := A5.out.facts
      clear b5
      go_wp2_with fail
      exact bodyPost_ret (results_row_tmp Try.results7 _ _ w.heap.size _ _ _ _ rfl (heap_setCell_same _ _ 1 _ _ _ (heap_setCell_same _ _ 0 _ _ _ A5.out)) Try.underlying28 rfl infoV) rfl ⟨rfl, ((B5.setCell (p := ⟨w.heap.size, 0, none⟩) (Nat.le_refl _) _).setCell (p := ⟨w.heap.size, 1, none⟩) (Nat.le_refl _) _)⟩
set_option maxHeartbeats 4000000 in
set_option maxRecDepth 20000 in
theorem rdo13 (va vb : VT) (bq oq c : Nat) (w : World) (l : List VT) (hl : l = [va, vb]) (hR : RdN 2 w (.slice (some ⟨bq, oq, none⟩) 2 c) (l.map rowV)) (h3 : (l.any fun p => !chkV p) = false)
    (hfit : ∀ w, RdN 2 w (.slice (some ⟨bq, oq, none⟩) 2 c) (l.map rowV) → Calls Try.prog 17 #[.int .u8 13, .slice (some ⟨bq, oq, none⟩) 2 c] w fun e w' => e = .returned (.bool true) ∧ Below w.heap.size w w') :
    Calls Try.prog 7 #[.int .u8 13, .slice (some ⟨bq, oq, none⟩) 2 c] w fun e w' => e = .returned (.tuple #[aggV (yesV (decide (va.2 < vb.2))), .int .i64 0]) ∧ Below w.heap.size w w' := by
  have hmx : c ≤ 9223372036854775807 := by
    obtain ⟨_, _, e, _, h, _⟩ := hR
    simp only [Value.slice.injEq] at e
    obtain ⟨_, _, rfl⟩ := e
    exact h
  have HR := Lib.hid hR
  have HG : Hid (∀ k (hk : k < l.length), chkV l[k] = true) := any_good h3
  have HLN : Hid (l.length = 2) := by rw [hl]; rfl
  have A0 : Hid (ResB w.heap.size (w.alloc (.cells #[.int .u8 0, .int .i64 0] 28 (0, 0)))) := heap_alloc_new _ _
  have B1 := balloc (Below.refl w.heap.size w) (.cells #[.int .u8 0, .int .i64 0] 28 (0, 0))
  have M : ∀ w, Calls Try.prog 15 #[.int .u8 13] w fun e w' => e = .returned (.int .i64 2) ∧ w = w' := fun w => rmany_any 13 w
  have HM := Lib.hid M
  have HF := Lib.hid hfit
  have HE := Lib.hid hl
  have CV : Hid (∀ b w, Calls Try.prog 19 #[.bool b] w fun e w' => e = .returned (.agg #[.int .u8 2, .int .i64 (boolI b)]) ∧ Below w.heap.size w w') := fun b w => ryes_any b w
  obtain ⟨a1, a2⟩ := va
  obtain ⟨b1, b2⟩ := vb
  clear hR M hfit h3 hl
  go_enter Try.func7, Try.ntmps7
  go_wp2_with fail
  refine (HM.out _).mono ?_
  rintro e w1 ⟨rfl, rfl⟩
  go_wp2_with fail
  refine (HM.out _).mono ?_
  rintro e w1 ⟨rfl, rfl⟩
  go_wp2_with fail
  generalize w.alloc (.cells #[.int .u8 0, .int .i64 0] 28 (0, 0)) = w1 at *
  go_loopw [6] (fun i wr => ∃ k : Nat, k ≤ 2 ∧ i = .int .i64 k ∧ Below w1.heap.size w1 wr) (fun i _ => 2 - (intOf i).toNat)
  case atStart => exact ⟨0, by omega, rfl, Below.refl _ _⟩
  case round =>
    obtain ⟨k, hk, rfl, hb⟩ := hrel
    by_cases hlt : k < 2
    · have hlt2 : k < l.length := by rw [HLN.out]; exact hlt
      obtain ⟨b, o, e', hcl⟩ := (HR.out.below (bnext B1 hb)).get k (by simpa using hlt2)
      cases e'
      rw [List.getElem_map] at hcl
      have C := rcheck_any l[k] wr
      rw [HG.out k hlt2] at C
      generalize l[k] = f at *
      have HC := Lib.hid C
      clear C
      obtain ⟨t, n⟩ := f
      have x0 := hcl 0 _ rfl
      have x1 := hcl 1 _ rfl
      rw [Nat.add_zero] at x0
      clear hcl
      go_wp2_with fail
      refine Calls.mono HC.out ?_
      rintro e w2 ⟨rfl, b2⟩
      go_wp2_with fail
      go_roundw
      case rel => exact ⟨k + 1, by omega, by go_num, bnext hb b2⟩
      case measure => simp [intOf]; omega
    · obtain rfl : k = 2 := by omega
      have A2 := Lib.hid (A0.out.below hb)
      have B2 := bnext B1 hb
      have R2 := Lib.hid (HR.out.below B2)
      clear A0 hb B1 HR hlt
      go_wp2_with fail
      refine (HF.out _ R2.out).mono ?_
      rintro e w3 ⟨rfl, b3⟩
      have A3 := Lib.hid (A2.out.below b3)
      have B3 := bnext B2 b3
      have R3 := Lib.hid (R2.out.below b3)
      obtain ⟨hz, c0, c1, f0, f1⟩ := A3.out.facts
      clear b3 A2 B2 R2 HF
      rw [HE.out] at R3
      obtain ⟨b', o', e', p0, p1, p2, p3⟩ := pair_of R3.out
      cases e'
      go_wp2_with fail
      refine (CV.out _ _).mono ?_
      rintro e w5 ⟨rfl, b5⟩
      have B5 := bnext B3 b5
      have A5 := Lib.hid (A3.out.below b5)
      obtain ⟨hz, c0, c1, f0, f1⟩ := A5.out.facts
      clear b5
      go_wp2_with fail
      exact bodyPost_ret (results_row_tmp Try.results7 _ _ w.heap.size _ _ _ _ rfl (heap_setCell_same _ _ 1 _ _ _ (heap_setCell_same _ _ 0 _ _ _ A5.out)) Try.underlying28 rfl infoV) rfl ⟨rfl, ((B5.setCell (p := ⟨w.heap.size, 0, none⟩) (Nat.le_refl _) _).setCell (p := ⟨w.heap.size, 1, none⟩) (Nat.le_refl _) _)⟩
set_option maxHeartbeats 4000000 in
set_option maxRecDepth 20000 in
theorem rdo14 (va vb : VT) (bq oq c : Nat) (w : World) (l : List VT) (hl : l = [va, vb]) (hR : RdN 2 w (.slice (some ⟨bq, oq, none⟩) 2 c) (l.map rowV)) (h3 : (l.any fun p => !chkV p) = false)
    (hfit : ∀ w, RdN 2 w (.slice (some ⟨bq, oq, none⟩) 2 c) (l.map rowV) → Calls Try.prog 17 #[.int .u8 14, .slice (some ⟨bq, oq, none⟩) 2 c] w fun e w' => e = .returned (.bool true) ∧ Below w.heap.size w w') :
    Calls Try.prog 7 #[.int .u8 14, .slice (some ⟨bq, oq, none⟩) 2 c] w fun e w' => e = .returned (.tuple #[aggV (yesV (decide (va.2 ≤ vb.2))), .int .i64 0]) ∧ Below w.heap.size w w' := by
  have hmx : c ≤ 9223372036854775807 := by
    obtain ⟨_, _, e, _, h, _⟩ := hR
    simp only [Value.slice.injEq] at e
    obtain ⟨_, _, rfl⟩ := e
    exact h
  have HR := Lib.hid hR
  have HG : Hid (∀ k (hk : k < l.length), chkV l[k] = true) := any_good h3
  have HLN : Hid (l.length = 2) := by rw [hl]; rfl
  have A0 : Hid (ResB w.heap.size (w.alloc (.cells #[.int .u8 0, .int .i64 0] 28 (0, 0)))) := heap_alloc_new _ _
  have B1 := balloc (Below.refl w.heap.size w) (.cells #[.int .u8 0, .int .i64 0] 28 (0, 0))
  have M : ∀ w, Calls Try.prog 15 #[.int .u8 14] w fun e w' => e = .returned (.int .i64 2) ∧ w = w' := fun w => rmany_any 14 w
  have HM := Lib.hid M
  have HF := Lib.hid hfit
  have HE := Lib.hid hl
  have CV : Hid (∀ b w, Calls Try.prog 19 #[.bool b] w fun e w' => e = .returned (.agg #[.int .u8 2, .int .i64 (boolI b)]) ∧ Below w.heap.size w w') := fun b w => ryes_any b w
  obtain ⟨a1, a2⟩ := va
  obtain ⟨b1, b2⟩ := vb
  clear hR M hfit h3 hl
  go_enter Try.func7, Try.ntmps7
  go_wp2_with fail
  refine (HM.out _).mono ?_
  rintro e w1 ⟨rfl, rfl⟩
  go_wp2_with fail
  refine (HM.out _).mono ?_
  rintro e w1 ⟨rfl, rfl⟩
  go_wp2_with fail
  generalize w.alloc (.cells #[.int .u8 0, .int .i64 0] 28 (0, 0)) = w1 at *
  go_loopw [6] (fun i wr => ∃ k : Nat, k ≤ 2 ∧ i = .int .i64 k ∧ Below w1.heap.size w1 wr) (fun i _ => 2 - (intOf i).toNat)
  case atStart => exact ⟨0, by omega, rfl, Below.refl _ _⟩
  case round =>
    obtain ⟨k, hk, rfl, hb⟩ := hrel
    by_cases hlt : k < 2
    · have hlt2 : k < l.length := by rw [HLN.out]; exact hlt
      obtain ⟨b, o, e', hcl⟩ := (HR.out.below (bnext B1 hb)).get k (by simpa using hlt2)
      cases e'
      rw [List.getElem_map] at hcl
      have C := rcheck_any l[k] wr
      rw [HG.out k hlt2] at C
      generalize l[k] = f at *
      have HC := Lib.hid C
      clear C
      obtain ⟨t, n⟩ := f
      have x0 := hcl 0 _ rfl
      have x1 := hcl 1 _ rfl
      rw [Nat.add_zero] at x0
      clear hcl
      go_wp2_with fail
      refine Calls.mono HC.out ?_
      rintro e w2 ⟨rfl, b2⟩
      go_wp2_with fail
      go_roundw
      case rel => exact ⟨k + 1, by omega, by go_num, bnext hb b2⟩
      case measure => simp [intOf]; omega
    · obtain rfl : k = 2 := by omega
      have A2 := Lib.hid (A0.out.below hb)
      have B2 := bnext B1 hb
      have R2 := Lib.hid (HR.out.below B2)
      clear A0 hb B1 HR hlt
      go_wp2_with fail
      refine (HF.out _ R2.out).mono ?_
      rintro e w3 ⟨rfl, b3⟩
      have A3 := Lib.hid (A2.out.below b3)
      have B3 := bnext B2 b3
      have R3 := Lib.hid (R2.out.below b3)
      obtain ⟨hz, c0, c1, f0, f1⟩ := A3.out.facts
      clear b3 A2 B2 R2 HF
      rw [HE.out] at R3
      obtain ⟨b', o', e', p0, p1, p2, p3⟩ := pair_of R3.out
      cases e'
      go_wp2_with fail
      refine (CV.out _ _).mono ?_
      rintro e w5 ⟨rfl, b5⟩
      have B5 := bnext B3 b5
      have A5 := Lib.hid (A3.out.below b5)
      obtain ⟨hz, c0, c1, f0, f1⟩ := A5.out.facts
      clear b5
      go_wp2_with fail
      exact bodyPost_ret (results_row_tmp Try.results7 _ _ w.heap.size _ _ _ _ rfl (heap_setCell_same _ _ 1 _ _ _ (heap_setCell_same _ _ 0 _ _ _ A5.out)) Try.underlying28 rfl infoV) rfl ⟨rfl, ((B5.setCell (p := ⟨w.heap.size, 0, none⟩) (Nat.le_refl _) _).setCell (p := ⟨w.heap.size, 1, none⟩) (Nat.le_refl _) _)⟩
set_option maxHeartbeats 4000000 in
set_option maxRecDepth 20000 in
theorem rdo15 (va vb : VT) (bq oq c : Nat) (w : World) (l : List VT) (hl : l = [va, vb]) (hR : RdN 2 w (.slice (some ⟨bq, oq, none⟩) 2 c) (l.map rowV)) (h3 : (l.any fun p => !chkV p) = false)
    (hfit : ∀ w, RdN 2 w (.slice (some ⟨bq, oq, none⟩) 2 c) (l.map rowV) → Calls Try.prog 17 #[.int .u8 15, .slice (some ⟨bq, oq, none⟩) 2 c] w fun e w' => e = .returned (.bool true) ∧ Below w.heap.size w w') :
    Calls Try.prog 7 #[.int .u8 15, .slice (some ⟨bq, oq, none⟩) 2 c] w fun e w' => e = .returned (.tuple #[aggV (yesV (va.2 == 1 && vb.2 == 1)), .int .i64 0]) ∧ Below w.heap.size w w' := by
  have hmx : c ≤ 9223372036854775807 := by
    obtain ⟨_, _, e, _, h, _⟩ := hR
    simp only [Value.slice.injEq] at e
    obtain ⟨_, _, rfl⟩ := e
    exact h
  have HR := Lib.hid hR
  have HG : Hid (∀ k (hk : k < l.length), chkV l[k] = true) := any_good h3
  have HLN : Hid (l.length = 2) := by rw [hl]; rfl
  have A0 : Hid (ResB w.heap.size (w.alloc (.cells #[.int .u8 0, .int .i64 0] 28 (0, 0)))) := heap_alloc_new _ _
  have B1 := balloc (Below.refl w.heap.size w) (.cells #[.int .u8 0, .int .i64 0] 28 (0, 0))
  have M : ∀ w, Calls Try.prog 15 #[.int .u8 15] w fun e w' => e = .returned (.int .i64 2) ∧ w = w' := fun w => rmany_any 15 w
  have HM := Lib.hid M
  have HF := Lib.hid hfit
  have HE := Lib.hid hl
  have CV : Hid (∀ b w, Calls Try.prog 19 #[.bool b] w fun e w' => e = .returned (.agg #[.int .u8 2, .int .i64 (boolI b)]) ∧ Below w.heap.size w w') := fun b w => ryes_any b w
  obtain ⟨a1, a2⟩ := va
  obtain ⟨b1, b2⟩ := vb
  clear hR M hfit h3 hl
  go_enter Try.func7, Try.ntmps7
  go_wp2_with fail
  refine (HM.out _).mono ?_
  rintro e w1 ⟨rfl, rfl⟩
  go_wp2_with fail
  refine (HM.out _).mono ?_
  rintro e w1 ⟨rfl, rfl⟩
  go_wp2_with fail
  generalize w.alloc (.cells #[.int .u8 0, .int .i64 0] 28 (0, 0)) = w1 at *
  go_loopw [6] (fun i wr => ∃ k : Nat, k ≤ 2 ∧ i = .int .i64 k ∧ Below w1.heap.size w1 wr) (fun i _ => 2 - (intOf i).toNat)
  case atStart => exact ⟨0, by omega, rfl, Below.refl _ _⟩
  case round =>
    obtain ⟨k, hk, rfl, hb⟩ := hrel
    by_cases hlt : k < 2
    · have hlt2 : k < l.length := by rw [HLN.out]; exact hlt
      obtain ⟨b, o, e', hcl⟩ := (HR.out.below (bnext B1 hb)).get k (by simpa using hlt2)
      cases e'
      rw [List.getElem_map] at hcl
      have C := rcheck_any l[k] wr
      rw [HG.out k hlt2] at C
      generalize l[k] = f at *
      have HC := Lib.hid C
      clear C
      obtain ⟨t, n⟩ := f
      have x0 := hcl 0 _ rfl
      have x1 := hcl 1 _ rfl
      rw [Nat.add_zero] at x0
      clear hcl
      go_wp2_with fail
      refine Calls.mono HC.out ?_
      rintro e w2 ⟨rfl, b2⟩
      go_wp2_with fail
      go_roundw
      case rel => exact ⟨k + 1, by omega, by go_num, bnext hb b2⟩
      case measure => simp [intOf]; omega
    · obtain rfl : k = 2 := by omega
      have A2 := Lib.hid (A0.out.below hb)
      have B2 := bnext B1 hb
      have R2 := Lib.hid (HR.out.below B2)
      clear A0 hb B1 HR hlt
      go_wp2_with fail
      refine (HF.out _ R2.out).mono ?_
      rintro e w3 ⟨rfl, b3⟩
      have A3 := Lib.hid (A2.out.below b3)
      have B3 := bnext B2 b3
      have R3 := Lib.hid (R2.out.below b3)
      obtain ⟨hz, c0, c1, f0, f1⟩ := A3.out.facts
      clear b3 A2 B2 R2 HF
      rw [HE.out] at R3
      obtain ⟨b', o', e', p0, p1, p2, p3⟩ := pair_of R3.out
      cases e'
      cases q1 : (a2 == 1) <;> cases q2 : (b2 == 1)
      all_goals
        go_wp2_with fail
        refine (CV.out _ _).mono ?_
        rintro e w5 ⟨rfl, b5⟩
        have B5 := bnext B3 b5
        have A5 := Lib.hid (A3.out.below b5)
        obtain ⟨hz, c0, c1, f0, f1⟩ := A5.out.facts
        clear b5
        go_wp2_with fail
        exact bodyPost_ret (results_row_tmp Try.results7 _ _ w.heap.size _ _ _ _ rfl (heap_setCell_same _ _ 1 _ _ _ (heap_setCell_same _ _ 0 _ _ _ A5.out)) Try.underlying28 rfl infoV) rfl ⟨by rw [show aggV (yesV (a2 == 1 && b2 == 1)) = .agg #[.int .u8 2, .int .i64 (boolI _)] from by unfold aggV yesV; rw [q1, q2]]; rfl, ((B5.setCell (p := ⟨w.heap.size, 0, none⟩) (Nat.le_refl _) _).setCell (p := ⟨w.heap.size, 1, none⟩) (Nat.le_refl _) _)⟩
set_option maxHeartbeats 4000000 in
set_option maxRecDepth 20000 in
theorem rdo16 (va vb : VT) (bq oq c : Nat) (w : World) (l : List VT) (hl : l = [va, vb]) (hR : RdN 2 w (.slice (some ⟨bq, oq, none⟩) 2 c) (l.map rowV)) (h3 : (l.any fun p => !chkV p) = false)
    (hfit : ∀ w, RdN 2 w (.slice (some ⟨bq, oq, none⟩) 2 c) (l.map rowV) → Calls Try.prog 17 #[.int .u8 16, .slice (some ⟨bq, oq, none⟩) 2 c] w fun e w' => e = .returned (.bool true) ∧ Below w.heap.size w w') :
    Calls Try.prog 7 #[.int .u8 16, .slice (some ⟨bq, oq, none⟩) 2 c] w fun e w' => e = .returned (.tuple #[aggV (yesV (va.2 == 1 || vb.2 == 1)), .int .i64 0]) ∧ Below w.heap.size w w' := by
  have hmx : c ≤ 9223372036854775807 := by
    obtain ⟨_, _, e, _, h, _⟩ := hR
    simp only [Value.slice.injEq] at e
    obtain ⟨_, _, rfl⟩ := e
    exact h
  have HR := Lib.hid hR
  have HG : Hid (∀ k (hk : k < l.length), chkV l[k] = true) := any_good h3
  have HLN : Hid (l.length = 2) := by rw [hl]; rfl
  have A0 : Hid (ResB w.heap.size (w.alloc (.cells #[.int .u8 0, .int .i64 0] 28 (0, 0)))) := heap_alloc_new _ _
  have B1 := balloc (Below.refl w.heap.size w) (.cells #[.int .u8 0, .int .i64 0] 28 (0, 0))
  have M : ∀ w, Calls Try.prog 15 #[.int .u8 16] w fun e w' => e = .returned (.int .i64 2) ∧ w = w' := fun w => rmany_any 16 w
  have HM := Lib.hid M
  have HF := Lib.hid hfit
  have HE := Lib.hid hl
  have CV : Hid (∀ b w, Calls Try.prog 19 #[.bool b] w fun e w' => e = .returned (.agg #[.int .u8 2, .int .i64 (boolI b)]) ∧ Below w.heap.size w w') := fun b w => ryes_any b w
  obtain ⟨a1, a2⟩ := va
  obtain ⟨b1, b2⟩ := vb
  clear hR M hfit h3 hl
  go_enter Try.func7, Try.ntmps7
  go_wp2_with fail
  refine (HM.out _).mono ?_
  rintro e w1 ⟨rfl, rfl⟩
  go_wp2_with fail
  refine (HM.out _).mono ?_
  rintro e w1 ⟨rfl, rfl⟩
  go_wp2_with fail
  generalize w.alloc (.cells #[.int .u8 0, .int .i64 0] 28 (0, 0)) = w1 at *
  go_loopw [6] (fun i wr => ∃ k : Nat, k ≤ 2 ∧ i = .int .i64 k ∧ Below w1.heap.size w1 wr) (fun i _ => 2 - (intOf i).toNat)
  case atStart => exact ⟨0, by omega, rfl, Below.refl _ _⟩
  case round =>
    obtain ⟨k, hk, rfl, hb⟩ := hrel
    by_cases hlt : k < 2
    · have hlt2 : k < l.length := by rw [HLN.out]; exact hlt
      obtain ⟨b, o, e', hcl⟩ := (HR.out.below (bnext B1 hb)).get k (by simpa using hlt2)
      cases e'
      rw [List.getElem_map] at hcl
      have C := rcheck_any l[k] wr
      rw [HG.out k hlt2] at C
      generalize l[k] = f at *
      have HC := Lib.hid C
      clear C
      obtain ⟨t, n⟩ := f
      have x0 := hcl 0 _ rfl
      have x1 := hcl 1 _ rfl
      rw [Nat.add_zero] at x0
      clear hcl
      go_wp2_with fail
      refine Calls.mono HC.out ?_
      rintro e w2 ⟨rfl, b2⟩
      go_wp2_with fail
      go_roundw
      case rel => exact ⟨k + 1, by omega, by go_num, bnext hb b2⟩
      case measure => simp [intOf]; omega
    · obtain rfl : k = 2 := by omega
      have A2 := Lib.hid (A0.out.below hb)
      have B2 := bnext B1 hb
      have R2 := Lib.hid (HR.out.below B2)
      clear A0 hb B1 HR hlt
      go_wp2_with fail
      refine (HF.out _ R2.out).mono ?_
      rintro e w3 ⟨rfl, b3⟩
      have A3 := Lib.hid (A2.out.below b3)
      have B3 := bnext B2 b3
      have R3 := Lib.hid (R2.out.below b3)
      obtain ⟨hz, c0, c1, f0, f1⟩ := A3.out.facts
      clear b3 A2 B2 R2 HF
      rw [HE.out] at R3
      obtain ⟨b', o', e', p0, p1, p2, p3⟩ := pair_of R3.out
      cases e'
      cases q1 : (a2 == 1) <;> cases q2 : (b2 == 1)
      all_goals
        go_wp2_with fail
        refine (CV.out _ _).mono ?_
        rintro e w5 ⟨rfl, b5⟩
        have B5 := bnext B3 b5
        have A5 := Lib.hid (A3.out.below b5)
        obtain ⟨hz, c0, c1, f0, f1⟩ := A5.out.facts
        clear b5
        go_wp2_with fail
        exact bodyPost_ret (results_row_tmp Try.results7 _ _ w.heap.size _ _ _ _ rfl (heap_setCell_same _ _ 1 _ _ _ (heap_setCell_same _ _ 0 _ _ _ A5.out)) Try.underlying28 rfl infoV) rfl ⟨by rw [show aggV (yesV (a2 == 1 || b2 == 1)) = .agg #[.int .u8 2, .int .i64 (boolI _)] from by unfold aggV yesV; rw [q1, q2]]; rfl, ((B5.setCell (p := ⟨w.heap.size, 0, none⟩) (Nat.le_refl _) _).setCell (p := ⟨w.heap.size, 1, none⟩) (Nat.le_refl _) _)⟩
set_option maxHeartbeats 4000000 in
set_option maxRecDepth 20000 in
theorem rdo17 (va vb vd : VT) (bq oq c : Nat) (w : World) (l : List VT) (hl : l = [va, vb, vd]) (hR : RdN 2 w (.slice (some ⟨bq, oq, none⟩) 3 c) (l.map rowV)) (h3 : (l.any fun p => !chkV p) = false)
    (hfit : ∀ w, RdN 2 w (.slice (some ⟨bq, oq, none⟩) 3 c) (l.map rowV) → Calls Try.prog 17 #[.int .u8 17, .slice (some ⟨bq, oq, none⟩) 3 c] w fun e w' => e = .returned (.bool true) ∧ Below w.heap.size w w') :
    Calls Try.prog 7 #[.int .u8 17, .slice (some ⟨bq, oq, none⟩) 3 c] w fun e w' => e = .returned (.tuple #[aggV ((if va.2 = 1 then vb else vd)), .int .i64 0]) ∧ Below w.heap.size w w' := by
  have hmx : c ≤ 9223372036854775807 := by
    obtain ⟨_, _, e, _, h, _⟩ := hR
    simp only [Value.slice.injEq] at e
    obtain ⟨_, _, rfl⟩ := e
    exact h
  have HR := Lib.hid hR
  have HG : Hid (∀ k (hk : k < l.length), chkV l[k] = true) := any_good h3
  have HLN : Hid (l.length = 3) := by rw [hl]; rfl
  have A0 : Hid (ResB w.heap.size (w.alloc (.cells #[.int .u8 0, .int .i64 0] 28 (0, 0)))) := heap_alloc_new _ _
  have B1 := balloc (Below.refl w.heap.size w) (.cells #[.int .u8 0, .int .i64 0] 28 (0, 0))
  have M : ∀ w, Calls Try.prog 15 #[.int .u8 17] w fun e w' => e = .returned (.int .i64 3) ∧ w = w' := fun w => rmany_any 17 w
  have HM := Lib.hid M
  have HF := Lib.hid hfit
  have HE := Lib.hid hl
  obtain ⟨a1, a2⟩ := va
  obtain ⟨b1, b2⟩ := vb
  obtain ⟨d1, d2⟩ := vd
  clear hR M hfit h3 hl
  go_enter Try.func7, Try.ntmps7
  go_wp2_with fail
  refine (HM.out _).mono ?_
  rintro e w1 ⟨rfl, rfl⟩
  go_wp2_with fail
  refine (HM.out _).mono ?_
  rintro e w1 ⟨rfl, rfl⟩
  go_wp2_with fail
  generalize w.alloc (.cells #[.int .u8 0, .int .i64 0] 28 (0, 0)) = w1 at *
  go_loopw [6] (fun i wr => ∃ k : Nat, k ≤ 3 ∧ i = .int .i64 k ∧ Below w1.heap.size w1 wr) (fun i _ => 3 - (intOf i).toNat)
  case atStart => exact ⟨0, by omega, rfl, Below.refl _ _⟩
  case round =>
    obtain ⟨k, hk, rfl, hb⟩ := hrel
    by_cases hlt : k < 3
    · have hlt2 : k < l.length := by rw [HLN.out]; exact hlt
      obtain ⟨b, o, e', hcl⟩ := (HR.out.below (bnext B1 hb)).get k (by simpa using hlt2)
      cases e'
      rw [List.getElem_map] at hcl
      have C := rcheck_any l[k] wr
      rw [HG.out k hlt2] at C
      generalize l[k] = f at *
      have HC := Lib.hid C
      clear C
      obtain ⟨t, n⟩ := f
      have x0 := hcl 0 _ rfl
      have x1 := hcl 1 _ rfl
      rw [Nat.add_zero] at x0
      clear hcl
      go_wp2_with fail
      refine Calls.mono HC.out ?_
      rintro e w2 ⟨rfl, b2⟩
      go_wp2_with fail
      go_roundw
      case rel => exact ⟨k + 1, by omega, by go_num, bnext hb b2⟩
      case measure => simp [intOf]; omega
    · obtain rfl : k = 3 := by omega
      have A2 := Lib.hid (A0.out.below hb)
      have B2 := bnext B1 hb
      have R2 := Lib.hid (HR.out.below B2)
      clear A0 hb B1 HR hlt
      go_wp2_with fail
      refine (HF.out _ R2.out).mono ?_
      rintro e w3 ⟨rfl, b3⟩
      have A3 := Lib.hid (A2.out.below b3)
      have B3 := bnext B2 b3
      have R3 := Lib.hid (R2.out.below b3)
      obtain ⟨hz, c0, c1, f0, f1⟩ := A3.out.facts
      clear b3 A2 B2 R2 HF
      rw [HE.out] at R3
      obtain ⟨b', o', e', ⟨p0, p1, p2, p3⟩, p4, p5⟩ := trip_of R3.out
      cases e'
      by_cases q1 : a2 = 1
      · subst q1
        go_wp2_with fail
        exact bodyPost_ret (results_row_tmp Try.results7 _ _ w.heap.size _ _ _ _ rfl (heap_setCell_same _ _ 1 _ _ _ (heap_setCell_same _ _ 0 _ _ _ A3.out)) Try.underlying28 rfl infoV) rfl ⟨by first | rfl | (rw [HD.out]; rfl), ((B3.setCell (p := ⟨w.heap.size, 0, none⟩) (Nat.le_refl _) _).setCell (p := ⟨w.heap.size, 1, none⟩) (Nat.le_refl _) _)⟩
      · have e0 : (a2 == 1) = false := by simpa using q1
        have HD : Hid ((if a2 = 1 then ((b1, b2) : VT) else (d1, d2)) = (d1, d2)) := if_neg q1
        clear q1
        go_wp2_with fail
        all_goals first
          | (exfalso; have hne := beq_eq_false_iff_ne.1 e0; omega)
          | skip
        exact bodyPost_ret (results_row_tmp Try.results7 _ _ w.heap.size _ _ _ _ rfl (heap_setCell_same _ _ 1 _ _ _ (heap_setCell_same _ _ 0 _ _ _ A3.out)) Try.underlying28 rfl infoV) rfl ⟨by first | rfl | (rw [HD.out]; rfl), ((B3.setCell (p := ⟨w.heap.size, 0, none⟩) (Nat.le_refl _) _).setCell (p := ⟨w.heap.size, 1, none⟩) (Nat.le_refl _) _)⟩
end Go.Proofs.Ytphlodafdkpedaa
