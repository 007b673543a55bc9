/-
  values: is there one that may not be, or is of another type?
-/
import Derived.Test.YtphlodafdkpedaaDoorValsOne
namespace Go.Proofs.YtphlodafdkpedaaDoor
open Go.RowKit
open Go

theorem bad1_any (p : VT) (w : World) : Calls Tryd.prog 25 #[aggV p] w fun e w' => e = .returned (.bool (!chkV p)) ∧ Below w.heap.size w w' := by
  have C := fun w => check_any p w
  have HC := Lib.hid C
  generalize chkV p = z at *
  clear C
  obtain ⟨t, n⟩ := p
  unfold aggV at *
  go_enter Tryd.func25, Tryd.ntmps25
  go_wp2_with fail
  refine Calls.mono (HC.out _) ?_
  rintro e w1 ⟨rfl, b1⟩
  go_wp2_with fail
  go_ret
  exact ⟨rfl, bnext (balloc (Below.refl _ _) _) b1⟩
theorem bad2_any (o : Int) (p : VT) (b : Nat) (w : World) (h : w.cell? ⟨b, 0, none⟩ = some (.int .u8 o)) : Calls Tryd.prog 27 #[aggV p, .pointer (some ⟨b, 0, none⟩)] w fun e w' => e = .returned (.bool (p.1 != o)) ∧ Below w.heap.size w w' := by
  obtain ⟨t, n⟩ := p
  unfold aggV
  have x1 := (World.cell?_alloc_lt w (.cells #[.int .u8 t, .int .i64 n] 24) _ (World.block_lt_of_cell? w _ h)).trans h
  go_enter Tryd.func27, Tryd.ntmps27
  go_wp2_with fail
  go_ret
  exact ⟨rfl, balloc (Below.refl _ _) _⟩
set_option maxHeartbeats 1000000 in
theorem index1_any (v : Value) (l : List VT) (w : World) (hR : RdN 2 w v (l.map rowV)) :
    Calls Tryd.prog 49 #[v, .func (.func 25) #[] #[]] w fun e w' => (∃ n : Int, e = .returned (.int .i64 n) ∧ decide (0 ≤ n) = l.any (fun p => !chkV p)) ∧ Below w.heap.size w w' := by
  obtain ⟨a, c, rfl, hc, hm⟩ := hR.shape
  rw [List.length_map] at *
  unfold maxLen at hm
  go_enter Tryd.func49, Tryd.ntmps49
  go_wp2_with fail
  go_loopw [8] (fun i wr => ∃ k : Nat, k ≤ l.length ∧ i = .int .i64 k ∧ Hid ((l.take k).any (fun p => !chkV p) = false) ∧ Below w.heap.size w wr) (fun i _ => l.length - (intOf i).toNat)
  case atStart => exact ⟨0, by omega, rfl, rfl, Below.refl _ _⟩
  case round =>
    obtain ⟨k, hk, rfl, hf, hb⟩ := hrel
    by_cases hlt : k < l.length
    · obtain ⟨b, o, rfl, hcl⟩ := (hR.below hb).get k (by simpa using hlt)
      have C := bad1_any l[k] wr
      have hs : (l.take (k + 1)).any (fun p => !chkV p) = !chkV l[k] := by
        rw [take_snoc _ _ hlt, List.any_append, hf.out]
        simp
      have hy : (!chkV l[k]) = true → l.any (fun p => !chkV p) = true := fun h => List.any_eq_true.2 ⟨_, List.getElem_mem hlt, h⟩
      rw [List.getElem_map] at hcl
      have HC := Lib.hid C
      have HS := Lib.hid hs
      have HY := Lib.hid hy
      clear C hs hy
      generalize l[k] = f at *
      obtain ⟨t, n⟩ := f
      have x0 : wr.cell? ⟨b, o + k * 2, none⟩ = some (.int .u8 t) := hcl 0 _ rfl
      have x1 : wr.cell? ⟨b, o + k * 2 + 1, none⟩ = some (.int .i64 n) := hcl 1 _ rfl
      clear hcl
      go_wp2_with fail
      refine Calls.mono HC.out ?_
      rintro e w1 ⟨rfl, b8⟩
      cases hsv : !chkV (t, n)
      · have HF : Hid ((l.take (k + 1)).any (fun p => !chkV p) = false) := by unfold Hid; rw [HS.out, hsv]
        clear hsv HS HY hf
        go_wp2_with fail
        go_roundw
        case rel => exact ⟨k + 1, by omega, by go_num, HF, bnext hb b8⟩
        case measure => simp [intOf]; omega
      · have HT := Lib.hid (HY.out hsv)
        clear hsv HS HY hf
        go_wp2_with fail
        go_ret
        exact ⟨⟨_, rfl, by rw [HT.out]; simp⟩, bnext hb b8⟩
    · obtain rfl : k = l.length := by omega
      have hff := hf.out
      rw [List.take_length] at hff
      have HF := Lib.hid hff
      clear hff
      go_wp2_with fail
      go_ret
      exact ⟨⟨_, rfl, by rw [HF.out]; rfl⟩, hb⟩
set_option maxHeartbeats 1000000 in
theorem index2_any (q : Int) (b1 : Nat) (v : Value) (l : List VT) (w : World) (hR : RdN 2 w v (l.map rowV)) (h1 : w.cell? ⟨b1, 0, none⟩ = some (.int .u8 q)) :
    Calls Tryd.prog 49 #[v, .func (.func 27) #[] #[.pointer (some ⟨b1, 0, none⟩)]] w fun e w' => (∃ n : Int, e = .returned (.int .i64 n) ∧ decide (0 ≤ n) = l.any (fun p => p.1 != q)) ∧ Below w.heap.size w w' := by
  obtain ⟨a, c, rfl, hc, hm⟩ := hR.shape
  rw [List.length_map] at *
  unfold maxLen at hm
  go_enter Tryd.func49, Tryd.ntmps49
  go_wp2_with fail
  go_loopw [8] (fun i wr => ∃ k : Nat, k ≤ l.length ∧ i = .int .i64 k ∧ Hid ((l.take k).any (fun p => p.1 != q) = false) ∧ Below w.heap.size w wr) (fun i _ => l.length - (intOf i).toNat)
  case atStart => exact ⟨0, by omega, rfl, rfl, Below.refl _ _⟩
  case round =>
    obtain ⟨k, hk, rfl, hf, hb⟩ := hrel
    by_cases hlt : k < l.length
    · obtain ⟨b, o, rfl, hcl⟩ := (hR.below hb).get k (by simpa using hlt)
      have z1 := (hb.cell (World.block_lt_of_cell? w _ h1)).trans h1
      have C := bad2_any q l[k] b1 wr z1
      have hs : (l.take (k + 1)).any (fun p => p.1 != q) = (l[k].1 != q) := by
        rw [take_snoc _ _ hlt, List.any_append, hf.out]
        simp
      have hy : (l[k].1 != q) = true → l.any (fun p => p.1 != q) = true := fun h => List.any_eq_true.2 ⟨_, List.getElem_mem hlt, h⟩
      rw [List.getElem_map] at hcl
      have HC := Lib.hid C
      have HS := Lib.hid hs
      have HY := Lib.hid hy
      clear C hs hy h1
      generalize l[k] = f at *
      obtain ⟨t, n⟩ := f
      have x0 : wr.cell? ⟨b, o + k * 2, none⟩ = some (.int .u8 t) := hcl 0 _ rfl
      have x1 : wr.cell? ⟨b, o + k * 2 + 1, none⟩ = some (.int .i64 n) := hcl 1 _ rfl
      clear hcl
      go_wp2_with fail
      refine Calls.mono HC.out ?_
      rintro e w1 ⟨rfl, b8⟩
      cases hsv : (t != q)
      · have HF : Hid ((l.take (k + 1)).any (fun p => p.1 != q) = false) := by unfold Hid; rw [HS.out]; exact hsv
        clear HS HY hf
        go_wp2_with fail
        go_roundw
        case rel => exact ⟨k + 1, by omega, by go_num, HF, bnext hb b8⟩
        case measure => simp [intOf]; omega
      · have HT := Lib.hid (HY.out hsv)
        clear HS HY hf
        go_wp2_with fail
        go_ret
        exact ⟨⟨_, rfl, by rw [HT.out]; simp⟩, bnext hb b8⟩
    · obtain rfl : k = l.length := by omega
      have hff := hf.out
      rw [List.take_length] at hff
      have HF := Lib.hid hff
      clear hff
      go_wp2_with fail
      go_ret
      exact ⟨⟨_, rfl, by rw [HF.out]; rfl⟩, hb⟩
theorem some1_any (v : Value) (l : List VT) (w : World) (hR : RdN 2 w v (l.map rowV)) :
    Calls Tryd.prog 24 #[v, .func (.func 25) #[] #[]] w fun e w' => e = .returned (.bool (l.any fun p => !chkV p)) ∧ Below w.heap.size w w' := by
  have C := index1_any v l w hR
  generalize (l.any fun p => !chkV p) = z at *
  go_enter Tryd.func24, Tryd.ntmps24
  have HC := Lib.hid C
  clear C
  go_wp2_with fail
  refine Calls.mono HC.out ?_
  rintro e w1 ⟨⟨n, rfl, hn⟩, b1⟩
  go_wp2_with fail
  go_ret
  exact ⟨rfl, b1⟩
theorem some2_any (q : Int) (b1 : Nat) (v : Value) (l : List VT) (w : World) (hR : RdN 2 w v (l.map rowV)) (h1 : w.cell? ⟨b1, 0, none⟩ = some (.int .u8 q)) :
    Calls Tryd.prog 24 #[v, .func (.func 27) #[] #[.pointer (some ⟨b1, 0, none⟩)]] w fun e w' => e = .returned (.bool (l.any fun p => p.1 != q)) ∧ Below w.heap.size w w' := by
  have C := index2_any q b1 v l w hR h1
  generalize (l.any fun p => p.1 != q) = z at *
  go_enter Tryd.func24, Tryd.ntmps24
  have HC := Lib.hid C
  clear C
  go_wp2_with fail
  refine Calls.mono HC.out ?_
  rintro e w1 ⟨⟨n, rfl, hn⟩, b1⟩
  go_wp2_with fail
  go_ret
  exact ⟨rfl, b1⟩
end Go.Proofs.YtphlodafdkpedaaDoor
