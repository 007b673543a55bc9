/-
  belfrylaw01.TwinTable, LeftTable, SameTable; Book.Table.
-/
import Derived.Test.YtppjphelibdlcaaGreatDoorTwinS
import Derived.Test.YtppjphelibdlcaaGreatDoorApIS
import Derived.Test.YtppjphelibdlcaaGreatDoorQuiet
import Derived.Deep.RegionHeld3
namespace Go.Proofs.YtppjphelibdlcaaGreatDoor
open Go.RowKit
open Go

def stored3 (w : World) (b : Nat) (c0 c1 c2 : Value) : World := ((w.setCell ⟨b, 0, none⟩ c0).setCell ⟨b, 1, none⟩ c1).setCell ⟨b, 2, none⟩ c2
theorem stored3_at {w : World} {b : Nat} {d0 d1 d2 : Value} {t : TypeId} (h : w.heap[b]? = Option.some (.cells #[d0, d1, d2] t (0, 0))) (c0 c1 c2 : Value) : (stored3 w b c0 c1 c2).heap[b]? = Option.some (.cells #[c0, c1, c2] t (0, 0)) :=
  heap_setCell_same _ b 2 _ _ c2 (heap_setCell_same _ b 1 _ _ c1 (heap_setCell_same _ b 0 _ _ c0 h))
theorem stored3_other {w : World} {b g : Nat} (hg : g ≠ b) (c0 c1 c2 : Value) : (stored3 w b c0 c1 c2).heap[g]? = w.heap[g]? := by
  unfold stored3
  rw [Below.heap_setCell _ _ _ _ hg, Below.heap_setCell _ _ _ _ hg, Below.heap_setCell _ _ _ _ hg]
theorem stored3_below {B : Nat} {a w : World} {b : Nat} (h : Below B a w) (hb : B ≤ b) (c0 c1 c2 : Value) : Below B a (stored3 w b c0 c1 c2) :=
  ((h.setCell (p := ⟨b, 0, none⟩) hb c0).setCell (p := ⟨b, 1, none⟩) hb c1).setCell (p := ⟨b, 2, none⟩) hb c2
set_option maxHeartbeats 4000000 in
theorem twintab_any (u : Value) (l : List SL3) (r g : Int) (w : World) (h : RdN 3 w u (l.map row3)) (hL : l.length ≤ 1048576) :
    Calls Tryz.prog 6 #[.agg #[u, .int .i64 r, .int .i64 g]] w fun e w' => ∃ v gb, e = .returned (.agg #[v, .int .i64 r, .int .i64 g]) ∧ Below w.heap.size w w' ∧ w.heap.size ≤ gb ∧ TwinS w' gb v l := by
  have hv0 := h
  obtain ⟨a, c, rfl, hc, hm⟩ := h.shape
  rw [List.length_map] at *
  unfold maxLen at hm
  have HV := Lib.hid hv0
  clear h hv0
  go_enter Tryz.func6, Tryz.ntmps6
  go_wp2_with fail
  have B1 := balloc (balloc (Below.refl w.heap.size w) (.cells #[.slice a l.length c, .int .i64 r, .int .i64 g] 27 (0, 0))) (.cells #[.slice none 0 0, .int .i64 0, .int .i64 0] 27 (0, 0))
  have kf : ((w.alloc (.cells #[.slice a l.length c, .int .i64 r, .int .i64 g] 27 (0, 0))).alloc (.cells #[.slice none 0 0, .int .i64 0, .int .i64 0] 27 (0, 0))).heap[w.heap.size]? = some (.cells #[.slice a l.length c, .int .i64 r, .int .i64 g] 27 (0, 0)) := heap_alloc2_old w (.cells #[.slice a l.length c, .int .i64 r, .int .i64 g] 27 (0, 0)) (.cells #[.slice none 0 0, .int .i64 0, .int .i64 0] 27 (0, 0))
  have kz : ((w.alloc (.cells #[.slice a l.length c, .int .i64 r, .int .i64 g] 27 (0, 0))).alloc (.cells #[.slice none 0 0, .int .i64 0, .int .i64 0] 27 (0, 0))).heap[w.heap.size + 1]? = some (.cells #[.slice none 0 0, .int .i64 0, .int .i64 0] 27 (0, 0)) := heap_alloc2_new w (.cells #[.slice a l.length c, .int .i64 r, .int .i64 g] 27 (0, 0)) (.cells #[.slice none 0 0, .int .i64 0, .int .i64 0] 27 (0, 0))
  have hsz : ((w.alloc (.cells #[.slice a l.length c, .int .i64 r, .int .i64 g] 27 (0, 0))).alloc (.cells #[.slice none 0 0, .int .i64 0, .int .i64 0] 27 (0, 0))).heap.size = w.heap.size + 2 := by simp
  generalize (w.alloc (.cells #[.slice a l.length c, .int .i64 r, .int .i64 g] 27 (0, 0))).alloc (.cells #[.slice none 0 0, .int .i64 0, .int .i64 0] 27 (0, 0)) = w2 at *
  have KF := Lib.hid kf
  have KZ := Lib.hid kz
  obtain ⟨c0, c1, c2⟩ := cells3 kf
  have HT := Lib.hid (twinS_any (.slice a l.length c) l w2.drew (HV.out.below (bdraw B1 1)) hL)
  have KC := Lib.hid (fun (w9 : World) (b9 : Below w2.drew.heap.size w2.drew w9) => cells3 ((b9.block _ (lt_of_block kf)).trans kf))
  have KD := Lib.hid (fun (w9 : World) (b9 : Below w2.drew.heap.size w2.drew w9) => (b9.block _ (lt_of_block kz)).trans kz)
  have KS := Lib.hid (fun (w9 : World) (b9 : Below w2.drew.heap.size w2.drew w9) (u : Value) => cells3 ((stored3_other (show w.heap.size ≠ w.heap.size + 1 by omega) u (.int .i64 r) (.int .i64 g)).trans ((b9.block _ (lt_of_block kf)).trans kf)))
  unfold stored3 at KS
  clear kf kz
  go_region_held3 (fun w' => w'.cell? ⟨w.heap.size, 0, none⟩ = some (.slice a l.length c) ∧ w'.cell? ⟨w.heap.size, 1, none⟩ = some (.int .i64 r) ∧ w'.cell? ⟨w.heap.size, 2, none⟩ = some (.int .i64 g))
    (first | with_reducible exact ⟨c0, c1, c2⟩ | with_reducible exact E1 | with_reducible exact E6 | go_keep)
    (first
      | (go_at_call 21; refine Calls.mono HT.out ?_; rintro e w4 ⟨u, rfl, b4, t4⟩; have E1 := KC.out _ b4; have F4 := KD.out _ b4; have ⟨y0, y1, y2⟩ := cells3 F4; have z0 := frozen_of_row _ _ 0 _ _ F4; have z1 := frozen_of_row _ _ 1 _ _ F4; have z2 := frozen_of_row _ _ 2 _ _ F4; obtain ⟨rfl, t5⟩ := t4; have E6 := KS.out _ b4 (.slice (some ⟨w2.drew.heap.size, 0, none⟩) l.length (l.length + 1))))
  have F5 := stored3_at F4 (.slice (some ⟨w2.drew.heap.size, 0, none⟩) l.length (l.length + 1)) (.int .i64 r) (.int .i64 g)
  have B5 := stored3_below (bnext B1 (bnext (bdraw (Below.refl w2.heap.size w2) 1) b4)) (show w.heap.size ≤ w.heap.size + 1 by omega) (.slice (some ⟨w2.drew.heap.size, 0, none⟩) l.length (l.length + 1)) (.int .i64 r) (.int .i64 g)
  have hds : w2.drew.heap.size = w.heap.size + 2 := hsz
  have t6 := (stored3_other (w := w4) (b := w.heap.size + 1) (g := w2.drew.heap.size) (by omega) (.slice (some ⟨w2.drew.heap.size, 0, none⟩) l.length (l.length + 1)) (.int .i64 r) (.int .i64 g)).trans t5
  rw [hds] at F5 B5 t6
  have HX := Lib.hid (And.intro F5 (And.intro B5 t6))
  clear F5 B5 t6 E1 F4 y0 y1 y2 z0 z1 z2 t5 E6 b4 c0 c1 c2
  rename_i hx
  clear hx
  go_wp2_with fail
  exact bodyPost_ret (results_cell_row Tryz.results6 _ _ (w.heap.size + 1) _ _ _ _ rfl HX.out.1 Tryz.underlying27 rfl info29) rfl ⟨_, _, rfl, HX.out.2.1, by omega, ⟨rfl, HX.out.2.2⟩⟩
set_option maxHeartbeats 1000000 in
theorem lefttab_any (gb : Nat) (v u : Value) (l : List SL3) (r g : Int) (w : World) (ht : TwinS w gb v l) (h : RdN 3 w u (l.map row3)) (hL : l.length ≤ 1048576) :
    Calls Tryz.prog 17 #[.agg #[v, .int .i64 r, .int .i64 g], .agg #[u, .int .i64 r, .int .i64 g]] w fun e w' => e = .returned (.bool true) ∧ Below w.heap.size w w' := by
  have HS := Lib.hid (fun (w' : World) (b : Below w.heap.size w w') => leftS_any gb v u l w' (ht.below b) (h.below b) hL)
  obtain ⟨a, c, rfl, _, _⟩ := h.shape
  obtain ⟨rfl, _⟩ := ht
  rw [List.length_map] at *
  clear h
  have B1 := balloc (balloc (Below.refl w.heap.size w) (.cells #[.slice (some ⟨gb, 0, none⟩) l.length (l.length + 1), .int .i64 r, .int .i64 g] 27 (0, 0))) (.cells #[.slice a l.length c, .int .i64 r, .int .i64 g] 27 (0, 0))
  have k0 := heap_alloc2_old w (.cells #[.slice (some ⟨gb, 0, none⟩) l.length (l.length + 1), .int .i64 r, .int .i64 g] 27 (0, 0)) (.cells #[.slice a l.length c, .int .i64 r, .int .i64 g] 27 (0, 0))
  have k1 := heap_alloc2_new w (.cells #[.slice (some ⟨gb, 0, none⟩) l.length (l.length + 1), .int .i64 r, .int .i64 g] 27 (0, 0)) (.cells #[.slice a l.length c, .int .i64 r, .int .i64 g] 27 (0, 0))
  have K0 := Lib.hid k0
  have K1 := Lib.hid k1
  clear k0 k1
  go_enter Tryz.func17, Tryz.ntmps17
  go_wp2_with fail
  refine Calls.mono (HS.out _ B1) ?_
  rintro e w3 ⟨rfl, b3⟩
  obtain ⟨c0, c1, c2⟩ := cells3 ((b3.block _ (lt_of_block K0.out)).trans K0.out)
  obtain ⟨d0, d1, d2⟩ := cells3 ((b3.block _ (lt_of_block K1.out)).trans K1.out)
  go_wp2_with fail
  go_ret
  exact ⟨rfl, bnext B1 b3⟩
set_option maxHeartbeats 1000000 in
theorem same_tab (v u : Value) (l : List SL3) (r g : Int) (w : World) (h1 : RdN 3 w v (l.map row3)) (h2 : RdN 3 w u (l.map row3)) :
    Calls Tryz.prog 9 #[.agg #[v, .int .i64 r, .int .i64 g], .agg #[u, .int .i64 r, .int .i64 g]] w fun e w' => e = .returned (.bool true) ∧ Below w.heap.size w w' := by
  have HS := Lib.hid (fun (w' : World) (b : Below w.heap.size w w') => same_slots v u l w' (h1.below b) (h2.below b))
  obtain ⟨a, c, rfl, _, _⟩ := h1.shape
  obtain ⟨a2, c2, rfl, _, _⟩ := h2.shape
  rw [List.length_map] at *
  clear h1 h2
  have B1 := balloc (balloc (Below.refl w.heap.size w) (.cells #[.slice a l.length c, .int .i64 r, .int .i64 g] 27 (0, 0))) (.cells #[.slice a2 l.length c2, .int .i64 r, .int .i64 g] 27 (0, 0))
  have k0 := heap_alloc2_old w (.cells #[.slice a l.length c, .int .i64 r, .int .i64 g] 27 (0, 0)) (.cells #[.slice a2 l.length c2, .int .i64 r, .int .i64 g] 27 (0, 0))
  have k1 := heap_alloc2_new w (.cells #[.slice a l.length c, .int .i64 r, .int .i64 g] 27 (0, 0)) (.cells #[.slice a2 l.length c2, .int .i64 r, .int .i64 g] 27 (0, 0))
  have K0 := Lib.hid k0
  have K1 := Lib.hid k1
  clear k0 k1
  go_enter Tryz.func9, Tryz.ntmps9
  go_wp2_with fail
  refine Calls.mono (HS.out _ B1) ?_
  rintro e w3 ⟨rfl, b3⟩
  obtain ⟨c0, c1, c2⟩ := cells3 ((b3.block _ (lt_of_block K0.out)).trans K0.out)
  obtain ⟨d0, d1, d2⟩ := cells3 ((b3.block _ (lt_of_block K1.out)).trans K1.out)
  go_wp2_with fail
  go_ret
  exact ⟨rfl, bnext B1 b3⟩
theorem bkIS_table {base g m : Nat} {itsInt itsSlot : List It} {w : World} (h : BkIS base g m itsInt itsSlot w) (r q : Int) (hm : m < 100000) (hl : itsSlot.length < 1000000) {n : Nat} {v : Value} {xs : List Value} (ho : Own w base kSlot.e kSlot.sz v n xs) (hn : n ≤ 1000000) (hap : ∀ (i : Nat) (a : It), itsSlot[i]? = some a → ∀ x, a.has x → roomOf v ≠ some x) :
    Calls Tryz.prog 19 #[.pointer (some ⟨g, 0, none⟩), .agg #[v, .int .i64 r, .int .i64 q]] w fun e w' => e = .returned (.tuple #[]) ∧ BkIS base g (m + 1) itsInt (itsSlot ++ [⟨v, .slice none 0 0, n, m + 1⟩]) w' ∧ TnT base (fun t => t = 59 ∨ t = kSlot.tH) w w' := by
  obtain ⟨a, c, hv, _, _⟩ := ho.shape
  have B1 := balloc (Below.refl w.heap.size w) (.cells #[v, .int .i64 r, .int .i64 q] 27 (0, 0))
  have KC := Lib.hid (bkIS_keepSlot (h.below B1) hm hl (ho.below B1) hn hap)
  subst hv
  clear h ho hap
  go_enter Tryz.func19, Tryz.ntmps19
  go_wp2_with fail
  refine Calls.mono KC.out ?_
  rintro e w1 ⟨rfl, q1, q2⟩
  go_wp2_with fail
  exact ret_none Tryz.results19 ⟨rfl, q1, Tn.trans (Below.tn B1 _) q2 fun i hi ⟨h1, c, t, fr, h2, h3⟩ => ⟨h1, c, t, fr, (B1.block i hi).symm.trans h2, h3⟩⟩
end Go.Proofs.YtppjphelibdlcaaGreatDoor
