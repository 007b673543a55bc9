/-
  The document's answer on values: have values the types that an operator is of? (Printed by genrefdo.py.)
-/
import Derived.Test.YtphlodafdkpedaaRefVals
namespace Go.Proofs.Ytphlodafdkpedaa
open Go.RowKit
open Go

set_option maxHeartbeats 1000000 in
theorem fits4 (v : Value) (l : List VT) (w : World) (hR : RdN 2 w v (l.map rowV)) : Calls Try.prog 17 #[.int .u8 4, v] w fun e w' => e = .returned (.bool (fitsB 4 l)) ∧ Below w.heap.size w w' := by
  have hf : fitsB 4 l = l.all fun p => p.1 == 1 := rfl
  rw [hf]
  obtain ⟨a, c, rfl, hc, hm⟩ := hR.shape
  rw [List.length_map] at *
  unfold maxLen at hm
  have HR := Lib.hid hR
  clear hf hR
  go_enter Try.func17, Try.ntmps17
  go_wp2_with fail
  go_loopw [6] (fun i wr => ∃ k : Nat, k ≤ l.length ∧ i = .int .i64 k ∧ Hid ((l.take k).all (fun p => p.1 == 1) = true) ∧ Below w.heap.size w wr) (fun i _ => l.length - (intOf i).toNat)
  case atStart => exact ⟨0, by omega, rfl, rfl, Below.refl _ _⟩
  case round =>
    obtain ⟨k, hk, rfl, hf, hb⟩ := hrel
    by_cases hlt : k < l.length
    · obtain ⟨b, o, rfl, hcl⟩ := (HR.out.below hb).get k (by simpa using hlt)
      rw [List.getElem_map] at hcl
      have HS : Hid ((l.take (k + 1)).all (fun p => p.1 == 1) = (l[k].1 == 1)) := by
        unfold Hid
        rw [take_snoc _ _ hlt, List.all_append, hf.out]
        simp
      have HY : Hid ((l[k].1 == 1) = false → l.all (fun p => p.1 == 1) = false) := fun h => by
        rw [List.all_eq_false]
        exact ⟨_, List.getElem_mem hlt, by simpa using h⟩
      generalize l[k] = f at *
      obtain ⟨t, n⟩ := f
      have x0 : wr.cell? ⟨b, o + k * 2, none⟩ = some (.int .u8 t) := hcl 0 _ rfl
      clear hcl hf
      by_cases ht : t = 1
      · have HF : Hid ((l.take (k + 1)).all (fun p => p.1 == 1) = true) := by unfold Hid; rw [HS.out]; simpa using ht
        have e1 : (t != 1) = false := by simpa using ht
        clear HS HY ht
        go_wp2_with fail
        go_roundw
        case rel => exact ⟨k + 1, by omega, by go_num, HF, hb⟩
        case measure => simp [intOf]; omega
      · have HT : Hid (l.all (fun p => p.1 == 1) = false) := HY.out (by simpa using ht)
        have e1 : (t != 1) = true := by simpa using ht
        clear HS HY ht
        go_wp2_with fail
        go_ret
        exact ⟨by rw [HT.out]; rfl, hb⟩
    · obtain rfl : k = l.length := by omega
      have HF := hf.out
      rw [List.take_length] at HF
      have HF := Lib.hid HF
      clear hf
      go_wp2_with fail
      go_ret
      exact ⟨by rw [HF.out]; rfl, hb⟩
set_option maxHeartbeats 1000000 in
theorem fits5 (v : Value) (l : List VT) (w : World) (hR : RdN 2 w v (l.map rowV)) : Calls Try.prog 17 #[.int .u8 5, v] w fun e w' => e = .returned (.bool (fitsB 5 l)) ∧ Below w.heap.size w w' := by
  have hf : fitsB 5 l = l.all fun p => p.1 == 2 := rfl
  rw [hf]
  obtain ⟨a, c, rfl, hc, hm⟩ := hR.shape
  rw [List.length_map] at *
  unfold maxLen at hm
  have HR := Lib.hid hR
  clear hf hR
  go_enter Try.func17, Try.ntmps17
  go_wp2_with fail
  go_loopw [6] (fun i wr => ∃ k : Nat, k ≤ l.length ∧ i = .int .i64 k ∧ Hid ((l.take k).all (fun p => p.1 == 2) = true) ∧ Below w.heap.size w wr) (fun i _ => l.length - (intOf i).toNat)
  case atStart => exact ⟨0, by omega, rfl, rfl, Below.refl _ _⟩
  case round =>
    obtain ⟨k, hk, rfl, hf, hb⟩ := hrel
    by_cases hlt : k < l.length
    · obtain ⟨b, o, rfl, hcl⟩ := (HR.out.below hb).get k (by simpa using hlt)
      rw [List.getElem_map] at hcl
      have HS : Hid ((l.take (k + 1)).all (fun p => p.1 == 2) = (l[k].1 == 2)) := by
        unfold Hid
        rw [take_snoc _ _ hlt, List.all_append, hf.out]
        simp
      have HY : Hid ((l[k].1 == 2) = false → l.all (fun p => p.1 == 2) = false) := fun h => by
        rw [List.all_eq_false]
        exact ⟨_, List.getElem_mem hlt, by simpa using h⟩
      generalize l[k] = f at *
      obtain ⟨t, n⟩ := f
      have x0 : wr.cell? ⟨b, o + k * 2, none⟩ = some (.int .u8 t) := hcl 0 _ rfl
      clear hcl hf
      by_cases ht : t = 2
      · have HF : Hid ((l.take (k + 1)).all (fun p => p.1 == 2) = true) := by unfold Hid; rw [HS.out]; simpa using ht
        have e1 : (t != 2) = false := by simpa using ht
        clear HS HY ht
        go_wp2_with fail
        go_roundw
        case rel => exact ⟨k + 1, by omega, by go_num, HF, hb⟩
        case measure => simp [intOf]; omega
      · have HT : Hid (l.all (fun p => p.1 == 2) = false) := HY.out (by simpa using ht)
        have e1 : (t != 2) = true := by simpa using ht
        clear HS HY ht
        go_wp2_with fail
        go_ret
        exact ⟨by rw [HT.out]; rfl, hb⟩
    · obtain rfl : k = l.length := by omega
      have HF := hf.out
      rw [List.take_length] at HF
      have HF := Lib.hid HF
      clear hf
      go_wp2_with fail
      go_ret
      exact ⟨by rw [HF.out]; rfl, hb⟩
set_option maxHeartbeats 1000000 in
theorem fits6 (v : Value) (l : List VT) (w : World) (hR : RdN 2 w v (l.map rowV)) : Calls Try.prog 17 #[.int .u8 6, v] w fun e w' => e = .returned (.bool (fitsB 6 l)) ∧ Below w.heap.size w w' := by
  have hf : fitsB 6 l = l.all fun p => p.1 == 1 := rfl
  rw [hf]
  obtain ⟨a, c, rfl, hc, hm⟩ := hR.shape
  rw [List.length_map] at *
  unfold maxLen at hm
  have HR := Lib.hid hR
  clear hf hR
  go_enter Try.func17, Try.ntmps17
  go_wp2_with fail
  go_loopw [6] (fun i wr => ∃ k : Nat, k ≤ l.length ∧ i = .int .i64 k ∧ Hid ((l.take k).all (fun p => p.1 == 1) = true) ∧ Below w.heap.size w wr) (fun i _ => l.length - (intOf i).toNat)
  case atStart => exact ⟨0, by omega, rfl, rfl, Below.refl _ _⟩
  case round =>
    obtain ⟨k, hk, rfl, hf, hb⟩ := hrel
    by_cases hlt : k < l.length
    · obtain ⟨b, o, rfl, hcl⟩ := (HR.out.below hb).get k (by simpa using hlt)
      rw [List.getElem_map] at hcl
      have HS : Hid ((l.take (k + 1)).all (fun p => p.1 == 1) = (l[k].1 == 1)) := by
        unfold Hid
        rw [take_snoc _ _ hlt, List.all_append, hf.out]
        simp
      have HY : Hid ((l[k].1 == 1) = false → l.all (fun p => p.1 == 1) = false) := fun h => by
        rw [List.all_eq_false]
        exact ⟨_, List.getElem_mem hlt, by simpa using h⟩
      generalize l[k] = f at *
      obtain ⟨t, n⟩ := f
      have x0 : wr.cell? ⟨b, o + k * 2, none⟩ = some (.int .u8 t) := hcl 0 _ rfl
      clear hcl hf
      by_cases ht : t = 1
      · have HF : Hid ((l.take (k + 1)).all (fun p => p.1 == 1) = true) := by unfold Hid; rw [HS.out]; simpa using ht
        have e1 : (t != 1) = false := by simpa using ht
        clear HS HY ht
        go_wp2_with fail
        go_roundw
        case rel => exact ⟨k + 1, by omega, by go_num, HF, hb⟩
        case measure => simp [intOf]; omega
      · have HT : Hid (l.all (fun p => p.1 == 1) = false) := HY.out (by simpa using ht)
        have e1 : (t != 1) = true := by simpa using ht
        clear HS HY ht
        go_wp2_with fail
        go_ret
        exact ⟨by rw [HT.out]; rfl, hb⟩
    · obtain rfl : k = l.length := by omega
      have HF := hf.out
      rw [List.take_length] at HF
      have HF := Lib.hid HF
      clear hf
      go_wp2_with fail
      go_ret
      exact ⟨by rw [HF.out]; rfl, hb⟩
set_option maxHeartbeats 1000000 in
theorem fits7 (v : Value) (l : List VT) (w : World) (hR : RdN 2 w v (l.map rowV)) : Calls Try.prog 17 #[.int .u8 7, v] w fun e w' => e = .returned (.bool (fitsB 7 l)) ∧ Below w.heap.size w w' := by
  have hf : fitsB 7 l = l.all fun p => p.1 == 1 := rfl
  rw [hf]
  obtain ⟨a, c, rfl, hc, hm⟩ := hR.shape
  rw [List.length_map] at *
  unfold maxLen at hm
  have HR := Lib.hid hR
  clear hf hR
  go_enter Try.func17, Try.ntmps17
  go_wp2_with fail
  go_loopw [6] (fun i wr => ∃ k : Nat, k ≤ l.length ∧ i = .int .i64 k ∧ Hid ((l.take k).all (fun p => p.1 == 1) = true) ∧ Below w.heap.size w wr) (fun i _ => l.length - (intOf i).toNat)
  case atStart => exact ⟨0, by omega, rfl, rfl, Below.refl _ _⟩
  case round =>
    obtain ⟨k, hk, rfl, hf, hb⟩ := hrel
    by_cases hlt : k < l.length
    · obtain ⟨b, o, rfl, hcl⟩ := (HR.out.below hb).get k (by simpa using hlt)
      rw [List.getElem_map] at hcl
      have HS : Hid ((l.take (k + 1)).all (fun p => p.1 == 1) = (l[k].1 == 1)) := by
        unfold Hid
        rw [take_snoc _ _ hlt, List.all_append, hf.out]
        simp
      have HY : Hid ((l[k].1 == 1) = false → l.all (fun p => p.1 == 1) = false) := fun h => by
        rw [List.all_eq_false]
        exact ⟨_, List.getElem_mem hlt, by simpa using h⟩
      generalize l[k] = f at *
      obtain ⟨t, n⟩ := f
      have x0 : wr.cell? ⟨b, o + k * 2, none⟩ = some (.int .u8 t) := hcl 0 _ rfl
      clear hcl hf
      by_cases ht : t = 1
      · have HF : Hid ((l.take (k + 1)).all (fun p => p.1 == 1) = true) := by unfold Hid; rw [HS.out]; simpa using ht
        have e1 : (t != 1) = false := by simpa using ht
        clear HS HY ht
        go_wp2_with fail
        go_roundw
        case rel => exact ⟨k + 1, by omega, by go_num, HF, hb⟩
        case measure => simp [intOf]; omega
      · have HT : Hid (l.all (fun p => p.1 == 1) = false) := HY.out (by simpa using ht)
        have e1 : (t != 1) = true := by simpa using ht
        clear HS HY ht
        go_wp2_with fail
        go_ret
        exact ⟨by rw [HT.out]; rfl, hb⟩
    · obtain rfl : k = l.length := by omega
      have HF := hf.out
      rw [List.take_length] at HF
      have HF := Lib.hid HF
      clear hf
      go_wp2_with fail
      go_ret
      exact ⟨by rw [HF.out]; rfl, hb⟩
set_option maxHeartbeats 1000000 in
theorem fits8 (v : Value) (l : List VT) (w : World) (hR : RdN 2 w v (l.map rowV)) : Calls Try.prog 17 #[.int .u8 8, v] w fun e w' => e = .returned (.bool (fitsB 8 l)) ∧ Below w.heap.size w w' := by
  have hf : fitsB 8 l = l.all fun p => p.1 == 1 := rfl
  rw [hf]
  obtain ⟨a, c, rfl, hc, hm⟩ := hR.shape
  rw [List.length_map] at *
  unfold maxLen at hm
  have HR := Lib.hid hR
  clear hf hR
  go_enter Try.func17, Try.ntmps17
  go_wp2_with fail
  go_loopw [6] (fun i wr => ∃ k : Nat, k ≤ l.length ∧ i = .int .i64 k ∧ Hid ((l.take k).all (fun p => p.1 == 1) = true) ∧ Below w.heap.size w wr) (fun i _ => l.length - (intOf i).toNat)
  case atStart => exact ⟨0, by omega, rfl, rfl, Below.refl _ _⟩
  case round =>
    obtain ⟨k, hk, rfl, hf, hb⟩ := hrel
    by_cases hlt : k < l.length
    · obtain ⟨b, o, rfl, hcl⟩ := (HR.out.below hb).get k (by simpa using hlt)
      rw [List.getElem_map] at hcl
      have HS : Hid ((l.take (k + 1)).all (fun p => p.1 == 1) = (l[k].1 == 1)) := by
        unfold Hid
        rw [take_snoc _ _ hlt, List.all_append, hf.out]
        simp
      have HY : Hid ((l[k].1 == 1) = false → l.all (fun p => p.1 == 1) = false) := fun h => by
        rw [List.all_eq_false]
        exact ⟨_, List.getElem_mem hlt, by simpa using h⟩
      generalize l[k] = f at *
      obtain ⟨t, n⟩ := f
      have x0 : wr.cell? ⟨b, o + k * 2, none⟩ = some (.int .u8 t) := hcl 0 _ rfl
      clear hcl hf
      by_cases ht : t = 1
      · have HF : Hid ((l.take (k + 1)).all (fun p => p.1 == 1) = true) := by unfold Hid; rw [HS.out]; simpa using ht
        have e1 : (t != 1) = false := by simpa using ht
        clear HS HY ht
        go_wp2_with fail
        go_roundw
        case rel => exact ⟨k + 1, by omega, by go_num, HF, hb⟩
        case measure => simp [intOf]; omega
      · have HT : Hid (l.all (fun p => p.1 == 1) = false) := HY.out (by simpa using ht)
        have e1 : (t != 1) = true := by simpa using ht
        clear HS HY ht
        go_wp2_with fail
        go_ret
        exact ⟨by rw [HT.out]; rfl, hb⟩
    · obtain rfl : k = l.length := by omega
      have HF := hf.out
      rw [List.take_length] at HF
      have HF := Lib.hid HF
      clear hf
      go_wp2_with fail
      go_ret
      exact ⟨by rw [HF.out]; rfl, hb⟩
set_option maxHeartbeats 1000000 in
theorem fits9 (v : Value) (l : List VT) (w : World) (hR : RdN 2 w v (l.map rowV)) : Calls Try.prog 17 #[.int .u8 9, v] w fun e w' => e = .returned (.bool (fitsB 9 l)) ∧ Below w.heap.size w w' := by
  have hf : fitsB 9 l = l.all fun p => p.1 == 1 := rfl
  rw [hf]
  obtain ⟨a, c, rfl, hc, hm⟩ := hR.shape
  rw [List.length_map] at *
  unfold maxLen at hm
  have HR := Lib.hid hR
  clear hf hR
  go_enter Try.func17, Try.ntmps17
  go_wp2_with fail
  go_loopw [6] (fun i wr => ∃ k : Nat, k ≤ l.length ∧ i = .int .i64 k ∧ Hid ((l.take k).all (fun p => p.1 == 1) = true) ∧ Below w.heap.size w wr) (fun i _ => l.length - (intOf i).toNat)
  case atStart => exact ⟨0, by omega, rfl, rfl, Below.refl _ _⟩
  case round =>
    obtain ⟨k, hk, rfl, hf, hb⟩ := hrel
    by_cases hlt : k < l.length
    · obtain ⟨b, o, rfl, hcl⟩ := (HR.out.below hb).get k (by simpa using hlt)
      rw [List.getElem_map] at hcl
      have HS : Hid ((l.take (k + 1)).all (fun p => p.1 == 1) = (l[k].1 == 1)) := by
        unfold Hid
        rw [take_snoc _ _ hlt, List.all_append, hf.out]
        simp
      have HY : Hid ((l[k].1 == 1) = false → l.all (fun p => p.1 == 1) = false) := fun h => by
        rw [List.all_eq_false]
        exact ⟨_, List.getElem_mem hlt, by simpa using h⟩
      generalize l[k] = f at *
      obtain ⟨t, n⟩ := f
      have x0 : wr.cell? ⟨b, o + k * 2, none⟩ = some (.int .u8 t) := hcl 0 _ rfl
      clear hcl hf
      by_cases ht : t = 1
      · have HF : Hid ((l.take (k + 1)).all (fun p => p.1 == 1) = true) := by unfold Hid; rw [HS.out]; simpa using ht
        have e1 : (t != 1) = false := by simpa using ht
        clear HS HY ht
        go_wp2_with fail
        go_roundw
        case rel => exact ⟨k + 1, by omega, by go_num, HF, hb⟩
        case measure => simp [intOf]; omega
      · have HT : Hid (l.all (fun p => p.1 == 1) = false) := HY.out (by simpa using ht)
        have e1 : (t != 1) = true := by simpa using ht
        clear HS HY ht
        go_wp2_with fail
        go_ret
        exact ⟨by rw [HT.out]; rfl, hb⟩
    · obtain rfl : k = l.length := by omega
      have HF := hf.out
      rw [List.take_length] at HF
      have HF := Lib.hid HF
      clear hf
      go_wp2_with fail
      go_ret
      exact ⟨by rw [HF.out]; rfl, hb⟩
set_option maxHeartbeats 1000000 in
theorem fits10 (v : Value) (l : List VT) (w : World) (hR : RdN 2 w v (l.map rowV)) : Calls Try.prog 17 #[.int .u8 10, v] w fun e w' => e = .returned (.bool (fitsB 10 l)) ∧ Below w.heap.size w w' := by
  have hf : fitsB 10 l = l.all fun p => p.1 == 1 := rfl
  rw [hf]
  obtain ⟨a, c, rfl, hc, hm⟩ := hR.shape
  rw [List.length_map] at *
  unfold maxLen at hm
  have HR := Lib.hid hR
  clear hf hR
  go_enter Try.func17, Try.ntmps17
  go_wp2_with fail
  go_loopw [6] (fun i wr => ∃ k : Nat, k ≤ l.length ∧ i = .int .i64 k ∧ Hid ((l.take k).all (fun p => p.1 == 1) = true) ∧ Below w.heap.size w wr) (fun i _ => l.length - (intOf i).toNat)
  case atStart => exact ⟨0, by omega, rfl, rfl, Below.refl _ _⟩
  case round =>
    obtain ⟨k, hk, rfl, hf, hb⟩ := hrel
    by_cases hlt : k < l.length
    · obtain ⟨b, o, rfl, hcl⟩ := (HR.out.below hb).get k (by simpa using hlt)
      rw [List.getElem_map] at hcl
      have HS : Hid ((l.take (k + 1)).all (fun p => p.1 == 1) = (l[k].1 == 1)) := by
        unfold Hid
        rw [take_snoc _ _ hlt, List.all_append, hf.out]
        simp
      have HY : Hid ((l[k].1 == 1) = false → l.all (fun p => p.1 == 1) = false) := fun h => by
        rw [List.all_eq_false]
        exact ⟨_, List.getElem_mem hlt, by simpa using h⟩
      generalize l[k] = f at *
      obtain ⟨t, n⟩ := f
      have x0 : wr.cell? ⟨b, o + k * 2, none⟩ = some (.int .u8 t) := hcl 0 _ rfl
      clear hcl hf
      by_cases ht : t = 1
      · have HF : Hid ((l.take (k + 1)).all (fun p => p.1 == 1) = true) := by unfold Hid; rw [HS.out]; simpa using ht
        have e1 : (t != 1) = false := by simpa using ht
        clear HS HY ht
        go_wp2_with fail
        go_roundw
        case rel => exact ⟨k + 1, by omega, by go_num, HF, hb⟩
        case measure => simp [intOf]; omega
      · have HT : Hid (l.all (fun p => p.1 == 1) = false) := HY.out (by simpa using ht)
        have e1 : (t != 1) = true := by simpa using ht
        clear HS HY ht
        go_wp2_with fail
        go_ret
        exact ⟨by rw [HT.out]; rfl, hb⟩
    · obtain rfl : k = l.length := by omega
      have HF := hf.out
      rw [List.take_length] at HF
      have HF := Lib.hid HF
      clear hf
      go_wp2_with fail
      go_ret
      exact ⟨by rw [HF.out]; rfl, hb⟩
theorem fits11 (a b : VT) (bq oq c : Nat) (w : World) (h : Pair w bq oq a b) : Calls Try.prog 17 #[.int .u8 11, .slice (some ⟨bq, oq, none⟩) 2 c] w fun e w' => e = .returned (.bool (a.1 == b.1)) ∧ Below w.heap.size w w' := by
  obtain ⟨y0, y1, y2, y3⟩ := h
  clear y1 y3
  go_enter Try.func17, Try.ntmps17
  go_wp2_with fail
  go_quiet (fail)
  go_wp2_with fail
  go_ret
  exact ⟨rfl, bdraw (Below.refl _ _) _⟩
theorem fits12 (a b : VT) (bq oq c : Nat) (w : World) (h : Pair w bq oq a b) : Calls Try.prog 17 #[.int .u8 12, .slice (some ⟨bq, oq, none⟩) 2 c] w fun e w' => e = .returned (.bool (a.1 == b.1)) ∧ Below w.heap.size w w' := by
  obtain ⟨y0, y1, y2, y3⟩ := h
  clear y1 y3
  go_enter Try.func17, Try.ntmps17
  go_wp2_with fail
  go_quiet (fail)
  go_wp2_with fail
  go_ret
  exact ⟨rfl, bdraw (Below.refl _ _) _⟩
set_option maxHeartbeats 1000000 in
theorem fits13 (v : Value) (l : List VT) (w : World) (hR : RdN 2 w v (l.map rowV)) : Calls Try.prog 17 #[.int .u8 13, v] w fun e w' => e = .returned (.bool (fitsB 13 l)) ∧ Below w.heap.size w w' := by
  have hf : fitsB 13 l = l.all fun p => p.1 == 1 := rfl
  rw [hf]
  obtain ⟨a, c, rfl, hc, hm⟩ := hR.shape
  rw [List.length_map] at *
  unfold maxLen at hm
  have HR := Lib.hid hR
  clear hf hR
  go_enter Try.func17, Try.ntmps17
  go_wp2_with fail
  go_loopw [6] (fun i wr => ∃ k : Nat, k ≤ l.length ∧ i = .int .i64 k ∧ Hid ((l.take k).all (fun p => p.1 == 1) = true) ∧ Below w.heap.size w wr) (fun i _ => l.length - (intOf i).toNat)
  case atStart => exact ⟨0, by omega, rfl, rfl, Below.refl _ _⟩
  case round =>
    obtain ⟨k, hk, rfl, hf, hb⟩ := hrel
    by_cases hlt : k < l.length
    · obtain ⟨b, o, rfl, hcl⟩ := (HR.out.below hb).get k (by simpa using hlt)
      rw [List.getElem_map] at hcl
      have HS : Hid ((l.take (k + 1)).all (fun p => p.1 == 1) = (l[k].1 == 1)) := by
        unfold Hid
        rw [take_snoc _ _ hlt, List.all_append, hf.out]
        simp
      have HY : Hid ((l[k].1 == 1) = false → l.all (fun p => p.1 == 1) = false) := fun h => by
        rw [List.all_eq_false]
        exact ⟨_, List.getElem_mem hlt, by simpa using h⟩
      generalize l[k] = f at *
      obtain ⟨t, n⟩ := f
      have x0 : wr.cell? ⟨b, o + k * 2, none⟩ = some (.int .u8 t) := hcl 0 _ rfl
      clear hcl hf
      by_cases ht : t = 1
      · have HF : Hid ((l.take (k + 1)).all (fun p => p.1 == 1) = true) := by unfold Hid; rw [HS.out]; simpa using ht
        have e1 : (t != 1) = false := by simpa using ht
        clear HS HY ht
        go_wp2_with fail
        go_roundw
        case rel => exact ⟨k + 1, by omega, by go_num, HF, hb⟩
        case measure => simp [intOf]; omega
      · have HT : Hid (l.all (fun p => p.1 == 1) = false) := HY.out (by simpa using ht)
        have e1 : (t != 1) = true := by simpa using ht
        clear HS HY ht
        go_wp2_with fail
        go_ret
        exact ⟨by rw [HT.out]; rfl, hb⟩
    · obtain rfl : k = l.length := by omega
      have HF := hf.out
      rw [List.take_length] at HF
      have HF := Lib.hid HF
      clear hf
      go_wp2_with fail
      go_ret
      exact ⟨by rw [HF.out]; rfl, hb⟩
set_option maxHeartbeats 1000000 in
theorem fits14 (v : Value) (l : List VT) (w : World) (hR : RdN 2 w v (l.map rowV)) : Calls Try.prog 17 #[.int .u8 14, v] w fun e w' => e = .returned (.bool (fitsB 14 l)) ∧ Below w.heap.size w w' := by
  have hf : fitsB 14 l = l.all fun p => p.1 == 1 := rfl
  rw [hf]
  obtain ⟨a, c, rfl, hc, hm⟩ := hR.shape
  rw [List.length_map] at *
  unfold maxLen at hm
  have HR := Lib.hid hR
  clear hf hR
  go_enter Try.func17, Try.ntmps17
  go_wp2_with fail
  go_loopw [6] (fun i wr => ∃ k : Nat, k ≤ l.length ∧ i = .int .i64 k ∧ Hid ((l.take k).all (fun p => p.1 == 1) = true) ∧ Below w.heap.size w wr) (fun i _ => l.length - (intOf i).toNat)
  case atStart => exact ⟨0, by omega, rfl, rfl, Below.refl _ _⟩
  case round =>
    obtain ⟨k, hk, rfl, hf, hb⟩ := hrel
    by_cases hlt : k < l.length
    · obtain ⟨b, o, rfl, hcl⟩ := (HR.out.below hb).get k (by simpa using hlt)
      rw [List.getElem_map] at hcl
      have HS : Hid ((l.take (k + 1)).all (fun p => p.1 == 1) = (l[k].1 == 1)) := by
        unfold Hid
        rw [take_snoc _ _ hlt, List.all_append, hf.out]
        simp
      have HY : Hid ((l[k].1 == 1) = false → l.all (fun p => p.1 == 1) = false) := fun h => by
        rw [List.all_eq_false]
        exact ⟨_, List.getElem_mem hlt, by simpa using h⟩
      generalize l[k] = f at *
      obtain ⟨t, n⟩ := f
      have x0 : wr.cell? ⟨b, o + k * 2, none⟩ = some (.int .u8 t) := hcl 0 _ rfl
      clear hcl hf
      by_cases ht : t = 1
      · have HF : Hid ((l.take (k + 1)).all (fun p => p.1 == 1) = true) := by unfold Hid; rw [HS.out]; simpa using ht
        have e1 : (t != 1) = false := by simpa using ht
        clear HS HY ht
        go_wp2_with fail
        go_roundw
        case rel => exact ⟨k + 1, by omega, by go_num, HF, hb⟩
        case measure => simp [intOf]; omega
      · have HT : Hid (l.all (fun p => p.1 == 1) = false) := HY.out (by simpa using ht)
        have e1 : (t != 1) = true := by simpa using ht
        clear HS HY ht
        go_wp2_with fail
        go_ret
        exact ⟨by rw [HT.out]; rfl, hb⟩
    · obtain rfl : k = l.length := by omega
      have HF := hf.out
      rw [List.take_length] at HF
      have HF := Lib.hid HF
      clear hf
      go_wp2_with fail
      go_ret
      exact ⟨by rw [HF.out]; rfl, hb⟩
set_option maxHeartbeats 1000000 in
theorem fits15 (v : Value) (l : List VT) (w : World) (hR : RdN 2 w v (l.map rowV)) : Calls Try.prog 17 #[.int .u8 15, v] w fun e w' => e = .returned (.bool (fitsB 15 l)) ∧ Below w.heap.size w w' := by
  have hf : fitsB 15 l = l.all fun p => p.1 == 2 := rfl
  rw [hf]
  obtain ⟨a, c, rfl, hc, hm⟩ := hR.shape
  rw [List.length_map] at *
  unfold maxLen at hm
  have HR := Lib.hid hR
  clear hf hR
  go_enter Try.func17, Try.ntmps17
  go_wp2_with fail
  go_loopw [6] (fun i wr => ∃ k : Nat, k ≤ l.length ∧ i = .int .i64 k ∧ Hid ((l.take k).all (fun p => p.1 == 2) = true) ∧ Below w.heap.size w wr) (fun i _ => l.length - (intOf i).toNat)
  case atStart => exact ⟨0, by omega, rfl, rfl, Below.refl _ _⟩
  case round =>
    obtain ⟨k, hk, rfl, hf, hb⟩ := hrel
    by_cases hlt : k < l.length
    · obtain ⟨b, o, rfl, hcl⟩ := (HR.out.below hb).get k (by simpa using hlt)
      rw [List.getElem_map] at hcl
      have HS : Hid ((l.take (k + 1)).all (fun p => p.1 == 2) = (l[k].1 == 2)) := by
        unfold Hid
        rw [take_snoc _ _ hlt, List.all_append, hf.out]
        simp
      have HY : Hid ((l[k].1 == 2) = false → l.all (fun p => p.1 == 2) = false) := fun h => by
        rw [List.all_eq_false]
        exact ⟨_, List.getElem_mem hlt, by simpa using h⟩
      generalize l[k] = f at *
      obtain ⟨t, n⟩ := f
      have x0 : wr.cell? ⟨b, o + k * 2, none⟩ = some (.int .u8 t) := hcl 0 _ rfl
      clear hcl hf
      by_cases ht : t = 2
      · have HF : Hid ((l.take (k + 1)).all (fun p => p.1 == 2) = true) := by unfold Hid; rw [HS.out]; simpa using ht
        have e1 : (t != 2) = false := by simpa using ht
        clear HS HY ht
        go_wp2_with fail
        go_roundw
        case rel => exact ⟨k + 1, by omega, by go_num, HF, hb⟩
        case measure => simp [intOf]; omega
      · have HT : Hid (l.all (fun p => p.1 == 2) = false) := HY.out (by simpa using ht)
        have e1 : (t != 2) = true := by simpa using ht
        clear HS HY ht
        go_wp2_with fail
        go_ret
        exact ⟨by rw [HT.out]; rfl, hb⟩
    · obtain rfl : k = l.length := by omega
      have HF := hf.out
      rw [List.take_length] at HF
      have HF := Lib.hid HF
      clear hf
      go_wp2_with fail
      go_ret
      exact ⟨by rw [HF.out]; rfl, hb⟩
set_option maxHeartbeats 1000000 in
theorem fits16 (v : Value) (l : List VT) (w : World) (hR : RdN 2 w v (l.map rowV)) : Calls Try.prog 17 #[.int .u8 16, v] w fun e w' => e = .returned (.bool (fitsB 16 l)) ∧ Below w.heap.size w w' := by
  have hf : fitsB 16 l = l.all fun p => p.1 == 2 := rfl
  rw [hf]
  obtain ⟨a, c, rfl, hc, hm⟩ := hR.shape
  rw [List.length_map] at *
  unfold maxLen at hm
  have HR := Lib.hid hR
  clear hf hR
  go_enter Try.func17, Try.ntmps17
  go_wp2_with fail
  go_loopw [6] (fun i wr => ∃ k : Nat, k ≤ l.length ∧ i = .int .i64 k ∧ Hid ((l.take k).all (fun p => p.1 == 2) = true) ∧ Below w.heap.size w wr) (fun i _ => l.length - (intOf i).toNat)
  case atStart => exact ⟨0, by omega, rfl, rfl, Below.refl _ _⟩
  case round =>
    obtain ⟨k, hk, rfl, hf, hb⟩ := hrel
    by_cases hlt : k < l.length
    · obtain ⟨b, o, rfl, hcl⟩ := (HR.out.below hb).get k (by simpa using hlt)
      rw [List.getElem_map] at hcl
      have HS : Hid ((l.take (k + 1)).all (fun p => p.1 == 2) = (l[k].1 == 2)) := by
        unfold Hid
        rw [take_snoc _ _ hlt, List.all_append, hf.out]
        simp
      have HY : Hid ((l[k].1 == 2) = false → l.all (fun p => p.1 == 2) = false) := fun h => by
        rw [List.all_eq_false]
        exact ⟨_, List.getElem_mem hlt, by simpa using h⟩
      generalize l[k] = f at *
      obtain ⟨t, n⟩ := f
      have x0 : wr.cell? ⟨b, o + k * 2, none⟩ = some (.int .u8 t) := hcl 0 _ rfl
      clear hcl hf
      by_cases ht : t = 2
      · have HF : Hid ((l.take (k + 1)).all (fun p => p.1 == 2) = true) := by unfold Hid; rw [HS.out]; simpa using ht
        have e1 : (t != 2) = false := by simpa using ht
        clear HS HY ht
        go_wp2_with fail
        go_roundw
        case rel => exact ⟨k + 1, by omega, by go_num, HF, hb⟩
        case measure => simp [intOf]; omega
      · have HT : Hid (l.all (fun p => p.1 == 2) = false) := HY.out (by simpa using ht)
        have e1 : (t != 2) = true := by simpa using ht
        clear HS HY ht
        go_wp2_with fail
        go_ret
        exact ⟨by rw [HT.out]; rfl, hb⟩
    · obtain rfl : k = l.length := by omega
      have HF := hf.out
      rw [List.take_length] at HF
      have HF := Lib.hid HF
      clear hf
      go_wp2_with fail
      go_ret
      exact ⟨by rw [HF.out]; rfl, hb⟩
theorem fits17 (a b d : VT) (bq oq c : Nat) (w : World) (h : Trip w bq oq a b d) : Calls Try.prog 17 #[.int .u8 17, .slice (some ⟨bq, oq, none⟩) 3 c] w fun e w' => e = .returned (.bool (a.1 == 2 && b.1 == d.1)) ∧ Below w.heap.size w w' := by
  obtain ⟨⟨y0, y1, y2, y3⟩, y4, y5⟩ := h
  clear y1 y3 y5
  cases e1 : (a.1 == 2)
  · go_enter Try.func17, Try.ntmps17
    go_wp2_with fail
    go_quiet (fail)
    go_wp2_with fail
    go_ret
    exact ⟨rfl, bdraw (Below.refl _ _) _⟩
  · go_enter Try.func17, Try.ntmps17
    go_wp2_with fail
    go_quiet (fail)
    go_wp2_with fail
    go_ret
    exact ⟨rfl, bdraw (Below.refl _ _) _⟩
end Go.Proofs.Ytphlodafdkpedaa
