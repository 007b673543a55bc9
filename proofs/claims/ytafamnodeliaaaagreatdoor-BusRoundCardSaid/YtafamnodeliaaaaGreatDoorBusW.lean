/-
  Words on fails; the walks of the small functions of package bus.
-/
import Derived.Test.YtafamnodeliaaaaGreatDoorRows
import Derived.Test.YtafamnodeliaaaaGreatDoorKit
import Derived.Test.YtafamnodeliaaaaGreatDoorCells
import Derived.Test.YtafamnodeliaaaaGreatDoorMapInt
import Derived.Deep.QuietTactic
import Derived.BigQuiet
namespace Go.Proofs.YtafamnodeliaaaaGreatDoor
open Go.RowKit
open Go

/-- What goes wrong. -/
structure Fl where
  r : Int
  s : Int
  h : Int
  a : Int
  b : Int
def rowF (f : Fl) : List Value := [.int .i64 f.r, .int .i64 f.s, .int .u8 f.h, .int .i64 f.a, .int .u8 f.b]
def aggF (f : Fl) : Value := .agg #[.int .i64 f.r, .int .i64 f.s, .int .u8 f.h, .int .i64 f.a, .int .u8 f.b]
/-- Is a station silent, by this? -/
def silB (st rd : Int) (f : Fl) : Bool := f.h == 0 && (f.s == st && decide (f.r ≤ rd))
/-- May it not be, of so many stations? -/
def oddB (n : Int) (f : Fl) : Bool := decide (f.s < 1) || (decide (n < f.s) || (decide (f.r < 0) || (decide (f.a < 0) || decide (2 < f.h))))
theorem cells3 {w : World} {b : Nat} {v0 v1 v2 : Value} {t : TypeId} (h : w.heap[b]? = some (.cells #[v0, v1, v2] t (0, 0))) :
    w.cell? ⟨b, 0, none⟩ = some v0 ∧ w.cell? ⟨b, 1, none⟩ = some v1 ∧ w.cell? ⟨b, 2, none⟩ = some v2 :=
  ⟨cell_of_row w b 0 _ _ _ h, cell_of_row w b 1 _ _ _ h, cell_of_row w b 2 _ _ _ h⟩
theorem cellsF {w : World} {b : Nat} {f : Fl} {t : TypeId} (h : w.heap[b]? = some (.cells #[.int .i64 f.r, .int .i64 f.s, .int .u8 f.h, .int .i64 f.a, .int .u8 f.b] t (0, 0))) :
    w.cell? ⟨b, 0, none⟩ = some (.int .i64 f.r) ∧ w.cell? ⟨b, 1, none⟩ = some (.int .i64 f.s) ∧ w.cell? ⟨b, 2, none⟩ = some (.int .u8 f.h) ∧ w.cell? ⟨b, 3, none⟩ = some (.int .i64 f.a) ∧ w.cell? ⟨b, 4, none⟩ = some (.int .u8 f.b) :=
  ⟨cell_of_row w b 0 _ _ _ h, cell_of_row w b 1 _ _ _ h, cell_of_row w b 2 _ _ _ h, cell_of_row w b 3 _ _ _ h, cell_of_row w b 4 _ _ _ h⟩

set_option maxHeartbeats 1000000 in
theorem sil1_any (st rd : Int) (f : Fl) (w : World) (b1 b2 : Nat) (h1 : w.cell? ⟨b1, 0, none⟩ = some (.int .i64 st)) (h2 : w.cell? ⟨b2, 0, none⟩ = some (.int .i64 rd)) :
    Calls Tryz.prog 25 #[aggF f, .pointer (some ⟨b1, 0, none⟩), .pointer (some ⟨b2, 0, none⟩)] w fun e w' => e = .returned (.bool (silB st rd f)) ∧ Below w.heap.size w w' := by
  obtain ⟨r, s, h, a, b⟩ := f
  have k1 := (World.cell?_alloc_lt w (.cells #[.int .i64 r, .int .i64 s, .int .u8 h, .int .i64 a, .int .u8 b] 58) _ (World.block_lt_of_cell? w _ h1)).trans h1
  have k2 := (World.cell?_alloc_lt w (.cells #[.int .i64 r, .int .i64 s, .int .u8 h, .int .i64 a, .int .u8 b] 58) _ (World.block_lt_of_cell? w _ h2)).trans h2
  unfold aggF silB
  cases q1 : (h == 0) <;> cases q2 : (s == st) <;> cases q3 : decide (r ≤ rd)
  all_goals
    go_enter Tryz.func25, Tryz.ntmps25
    go_wp2_with fail
    go_ret
    exact ⟨rfl, balloc (Below.refl _ _) _⟩
set_option maxHeartbeats 1000000 in
theorem odd1_any (n : Nat) (f : Fl) (w : World) (b1 : Nat) (x : Option Addr) (c : Nat) (h1 : w.cell? ⟨b1, 0, none⟩ = some (.slice x n c)) :
    Calls Tryz.prog 17 #[aggF f, .pointer (some ⟨b1, 0, none⟩)] w fun e w' => e = .returned (.bool (oddB n f)) ∧ Below w.heap.size w w' := by
  obtain ⟨r, s, h, a, b⟩ := f
  have k1 := (World.cell?_alloc_lt w (.cells #[.int .i64 r, .int .i64 s, .int .u8 h, .int .i64 a, .int .u8 b] 58) _ (World.block_lt_of_cell? w _ h1)).trans h1
  unfold aggF oddB
  have key : ∀ p q u v z : Bool, p = true ∨ (p = false ∧ q = true) ∨ (p = false ∧ q = false ∧ u = true) ∨ (p = false ∧ q = false ∧ u = false ∧ v = true) ∨ (p = false ∧ q = false ∧ u = false ∧ v = false) := by decide
  rcases key (decide (s < 1)) (decide ((n : Int) < s)) (decide (r < 0)) (decide (a < 0)) true with q1 | ⟨q1, q2⟩ | ⟨q1, q2, q3⟩ | ⟨q1, q2, q3, q4⟩ | ⟨q1, q2, q3, q4⟩
  all_goals
    clear key
    go_enter Tryz.func17, Tryz.ntmps17
    go_wp2_with fail
    go_ret
    exact ⟨by simp [*], balloc (Below.refl _ _) _⟩

theorem info29f : (Tryz.prog.info? 58).map (·.size) = some 5 := by kernel_rfl
set_option maxHeartbeats 1000000 in
theorem indexSil_any (st rd : Int) (v : Value) (fs : List Fl) (w : World) (b1 b2 : Nat) (hR : RdN 5 w v (fs.map rowF)) (h1 : w.cell? ⟨b1, 0, none⟩ = some (.int .i64 st)) (h2 : w.cell? ⟨b2, 0, none⟩ = some (.int .i64 rd)) :
    Calls Tryz.prog 77 #[v, .func (.func 25) #[] #[.pointer (some ⟨b1, 0, none⟩), .pointer (some ⟨b2, 0, none⟩)]] w fun e w' => (∃ n : Int, e = .returned (.int .i64 n) ∧ decide (0 ≤ n) = fs.any (silB st rd)) ∧ Below w.heap.size w w' := by
  obtain ⟨a, c, rfl, hc, hm⟩ := hR.shape
  rw [List.length_map] at *
  unfold maxLen at hm
  go_enter Tryz.func77, Tryz.ntmps77
  go_wp2_with fail
  go_loopw [8] (fun i wr => ∃ k : Nat, k ≤ fs.length ∧ i = .int .i64 k ∧ Hid ((fs.take k).any (silB st rd) = false) ∧ Below w.heap.size w wr) (fun i _ => fs.length - (intOf i).toNat)
  case atStart => exact ⟨0, by omega, rfl, rfl, Below.refl _ _⟩
  case round =>
    obtain ⟨k, hk, rfl, hf, hb⟩ := hrel
    by_cases hlt : k < fs.length
    · obtain ⟨b, o, rfl, hcl⟩ := (hR.below hb).get k (by simpa using hlt)
      have z1 := (hb.cell (World.block_lt_of_cell? w _ h1)).trans h1
      have z2 := (hb.cell (World.block_lt_of_cell? w _ h2)).trans h2
      have C := sil1_any st rd fs[k] wr b1 b2 z1 z2
      have hs : (fs.take (k + 1)).any (silB st rd) = silB st rd fs[k] := by
        rw [take_snoc _ _ hlt, List.any_append, hf.out]
        simp
      have hy : silB st rd fs[k] = true → fs.any (silB st rd) = true := fun h => List.any_eq_true.2 ⟨_, List.getElem_mem hlt, h⟩
      rw [List.getElem_map] at hcl
      have HC := Lib.hid C
      have HS := Lib.hid hs
      have HY := Lib.hid hy
      clear C hs hy h1 h2
      generalize fs[k] = f at *
      obtain ⟨r, s, h, a, b'⟩ := f
      have x0 : wr.cell? ⟨b, o + k * 5, none⟩ = some (.int .i64 r) := hcl 0 _ rfl
      have x1 := hcl 1 _ rfl
      have x2 := hcl 2 _ rfl
      have x3 := hcl 3 _ rfl
      have x4 := hcl 4 _ rfl
      clear hcl
      go_wp2_with fail
      refine Calls.mono HC.out ?_
      rintro e w1 ⟨rfl, b8⟩
      cases hsv : silB st rd ⟨r, s, h, a, b'⟩
      · have HF : Hid ((fs.take (k + 1)).any (silB st rd) = false) := by unfold Hid; rw [HS.out, hsv]
        clear hsv HS HY hf
        go_wp2_with fail
        go_roundw
        case rel => exact ⟨k + 1, by omega, by go_num, HF, bnext hb b8⟩
        case measure => simp [intOf]; omega
      · have HT := Lib.hid (HY.out hsv)
        clear hsv HS HY hf
        go_wp2_with fail
        go_ret
        exact ⟨⟨_, rfl, by rw [HT.out]; simp⟩, bnext hb b8⟩
    · obtain rfl : k = fs.length := by omega
      have hff := hf.out
      rw [List.take_length] at hff
      have HF := Lib.hid hff
      clear hff
      go_wp2_with fail
      go_ret
      exact ⟨⟨_, rfl, by rw [HF.out]; rfl⟩, hb⟩
set_option maxHeartbeats 1000000 in
theorem indexOdd_any (n : Nat) (x : Option Addr) (cx : Nat) (v : Value) (fs : List Fl) (w : World) (b1 : Nat) (hR : RdN 5 w v (fs.map rowF)) (h1 : w.cell? ⟨b1, 0, none⟩ = some (.slice x n cx)) :
    Calls Tryz.prog 77 #[v, .func (.func 17) #[] #[.pointer (some ⟨b1, 0, none⟩)]] w fun e w' => (∃ q : Int, e = .returned (.int .i64 q) ∧ decide (0 ≤ q) = fs.any (oddB n)) ∧ Below w.heap.size w w' := by
  obtain ⟨a, c, rfl, hc, hm⟩ := hR.shape
  rw [List.length_map] at *
  unfold maxLen at hm
  go_enter Tryz.func77, Tryz.ntmps77
  go_wp2_with fail
  go_loopw [8] (fun i wr => ∃ k : Nat, k ≤ fs.length ∧ i = .int .i64 k ∧ Hid ((fs.take k).any (oddB n) = false) ∧ Below w.heap.size w wr) (fun i _ => fs.length - (intOf i).toNat)
  case atStart => exact ⟨0, by omega, rfl, rfl, Below.refl _ _⟩
  case round =>
    obtain ⟨k, hk, rfl, hf, hb⟩ := hrel
    by_cases hlt : k < fs.length
    · obtain ⟨b, o, rfl, hcl⟩ := (hR.below hb).get k (by simpa using hlt)
      have z1 := (hb.cell (World.block_lt_of_cell? w _ h1)).trans h1
      have C := odd1_any n fs[k] wr b1 x cx z1
      have hs : (fs.take (k + 1)).any (oddB n) = oddB n fs[k] := by
        rw [take_snoc _ _ hlt, List.any_append, hf.out]
        simp
      have hy : oddB n fs[k] = true → fs.any (oddB n) = true := fun h => List.any_eq_true.2 ⟨_, List.getElem_mem hlt, h⟩
      rw [List.getElem_map] at hcl
      have HC := Lib.hid C
      have HS := Lib.hid hs
      have HY := Lib.hid hy
      clear C hs hy h1
      generalize fs[k] = f at *
      obtain ⟨r, s, h, a, b'⟩ := f
      have x0 : wr.cell? ⟨b, o + k * 5, none⟩ = some (.int .i64 r) := hcl 0 _ rfl
      have x1 := hcl 1 _ rfl
      have x2 := hcl 2 _ rfl
      have x3 := hcl 3 _ rfl
      have x4 := hcl 4 _ rfl
      clear hcl
      go_wp2_with fail
      refine Calls.mono HC.out ?_
      rintro e w1 ⟨rfl, b8⟩
      cases hsv : oddB n ⟨r, s, h, a, b'⟩
      · have HF : Hid ((fs.take (k + 1)).any (oddB n) = false) := by unfold Hid; rw [HS.out, hsv]
        clear hsv HS HY hf
        go_wp2_with fail
        go_roundw
        case rel => exact ⟨k + 1, by omega, by go_num, HF, bnext hb b8⟩
        case measure => simp [intOf]; omega
      · have HT := Lib.hid (HY.out hsv)
        clear hsv HS HY hf
        go_wp2_with fail
        go_ret
        exact ⟨⟨_, rfl, by rw [HT.out]; simp⟩, bnext hb b8⟩
    · obtain rfl : k = fs.length := by omega
      have hff := hf.out
      rw [List.take_length] at hff
      have HF := Lib.hid hff
      clear hff
      go_wp2_with fail
      go_ret
      exact ⟨⟨_, rfl, by rw [HF.out]; rfl⟩, hb⟩

theorem geq_of {n : Int} {b : Bool} (h : decide (0 ≤ n) = b) : decide (n ≥ 0) = b := h
theorem containsSil_any (st rd : Int) (v : Value) (fs : List Fl) (w : World) (b1 b2 : Nat) (hR : RdN 5 w v (fs.map rowF)) (h1 : w.cell? ⟨b1, 0, none⟩ = some (.int .i64 st)) (h2 : w.cell? ⟨b2, 0, none⟩ = some (.int .i64 rd)) :
    Calls Tryz.prog 18 #[v, .func (.func 25) #[] #[.pointer (some ⟨b1, 0, none⟩), .pointer (some ⟨b2, 0, none⟩)]] w fun e w' => e = .returned (.bool (fs.any (silB st rd))) ∧ Below w.heap.size w w' := by
  have C := indexSil_any st rd v fs w b1 b2 hR h1 h2
  generalize fs.any (silB st rd) = z at *
  go_enter Tryz.func18, Tryz.ntmps18
  have HC := Lib.hid C
  clear C
  go_wp2_with fail
  refine Calls.mono HC.out ?_
  rintro e w1 ⟨⟨n, rfl, hn⟩, b1⟩
  go_wp2_with fail
  go_ret
  exact ⟨rfl, b1⟩
theorem containsOdd_any (n : Nat) (x : Option Addr) (cx : Nat) (v : Value) (fs : List Fl) (w : World) (b1 : Nat) (hR : RdN 5 w v (fs.map rowF)) (h1 : w.cell? ⟨b1, 0, none⟩ = some (.slice x n cx)) :
    Calls Tryz.prog 18 #[v, .func (.func 17) #[] #[.pointer (some ⟨b1, 0, none⟩)]] w fun e w' => e = .returned (.bool (fs.any (oddB n))) ∧ Below w.heap.size w w' := by
  have C := indexOdd_any n x cx v fs w b1 hR h1
  generalize fs.any (oddB n) = z at *
  go_enter Tryz.func18, Tryz.ntmps18
  have HC := Lib.hid C
  clear C
  go_wp2_with fail
  refine Calls.mono HC.out ?_
  rintro e w1 ⟨⟨n, rfl, hn⟩, b1⟩
  go_wp2_with fail
  go_ret
  exact ⟨rfl, b1⟩
theorem silent_any (st rd : Int) (v : Value) (fs : List Fl) (w : World) (hR : RdN 5 w v (fs.map rowF)) :
    Calls Tryz.prog 14 #[v, .int .i64 st, .int .i64 rd] w fun e w' => e = .returned (.bool (fs.any (silB st rd))) ∧ Below w.heap.size w w' := by
  have B1 := balloc (balloc (Below.refl w.heap.size w) (.cells #[.int .i64 st] 3)) (.cells #[.int .i64 rd] 3)
  have k0 := cell_of_row _ _ 0 _ _ _ (heap_alloc2_old w (.cells #[.int .i64 st] 3 (0, 0)) (.cells #[.int .i64 rd] 3 (0, 0)))
  have k1 := cell_of_row _ _ 0 _ _ _ (heap_alloc2_new w (.cells #[.int .i64 st] 3 (0, 0)) (.cells #[.int .i64 rd] 3 (0, 0)))
  have C := containsSil_any st rd v fs _ _ _ (hR.below B1) k0 k1
  have HC := Lib.hid C
  clear C k0 k1
  go_enter Tryz.func14, Tryz.ntmps14
  go_wp2_with fail
  refine Calls.mono HC.out ?_
  rintro e w1 ⟨rfl, b1⟩
  go_wp2_with fail
  go_ret
  exact ⟨rfl, bnext B1 b1⟩
theorem lost_any (u : Value) (f : Fl) (w : World) : Calls Tryz.prog 78 #[u, aggF f] w fun e w' => e = .returned (.slice none 0 0) ∧ Below w.heap.size w w' := by
  obtain ⟨r, s, h, a, b⟩ := f
  unfold aggF
  go_enter Tryz.func78, Tryz.ntmps78
  go_wp2_with fail
  go_ret
  exact ⟨rfl, balloc (Below.refl _ _) _⟩
/-- What goes wrong, by How. -/
def wrongL : List (Int × Value) := [(1, .func (.func 78) #[] #[]), (2, .func (.func 79) #[] #[])]
theorem wrongs_any (w : World) : Calls Tryz.prog 19 #[] w fun e w' => e = .returned (.map (some w.heap.size)) ∧ w' = w.alloc (mapO .u8 wrongL) := by
  have hmm := @run_makeMap Tryz.prog
  have i1 : (Instr.mapUpdate 61 (.map (some w.heap.size)) (.int .u8 1) (.func (.func 78) #[] #[])).run Tryz.prog (w.alloc (.map #[] 0)) = .ok () (w.alloc (mapO .u8 [(1, .func (.func 78) #[] #[])])) := by
    have := run_insert_int (P := Tryz.prog) (w.alloc (mapO .u8 [])) 61 5 63 .u8 Tryz.underlying61 Tryz.underlying5 w.heap.size [] (heap_alloc_new _ _) 1 (.func (.func 78) #[] #[]) rfl
    rwa [putObj_new] at this
  have i2 : (Instr.mapUpdate 61 (.map (some w.heap.size)) (.int .u8 2) (.func (.func 79) #[] #[])).run Tryz.prog (w.alloc (mapO .u8 [(1, .func (.func 78) #[] #[])])) = .ok () (w.alloc (mapO .u8 wrongL)) := by
    have := run_insert_int (P := Tryz.prog) (w.alloc (mapO .u8 [(1, .func (.func 78) #[] #[])])) 61 5 63 .u8 Tryz.underlying61 Tryz.underlying5 w.heap.size [(1, .func (.func 78) #[] #[])] (heap_alloc_new _ _) 2 (.func (.func 79) #[] #[]) rfl
    rwa [putObj_new] at this
  go_enter Tryz.func19, Tryz.ntmps19
  go_wp2_with fail
  go_ret
  exact ⟨rfl, rfl⟩
end Go.Proofs.YtafamnodeliaaaaGreatDoor
