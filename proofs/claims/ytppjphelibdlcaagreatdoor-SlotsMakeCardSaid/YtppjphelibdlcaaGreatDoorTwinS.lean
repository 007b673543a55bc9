/-
  belfrylaw01.TwinSlots, LeftSlots, SameSlots.
-/
import Derived.Test.YtppjphelibdlcaaGreatDoorSlotsLives
import Derived.Test.YtppjphelibdlcaaGreatDoorRowsN
import Derived.Test.YtppjphelibdlcaaGreatDoorBkW
import Derived.Deep.QuietTactic
import Derived.BigQuiet
namespace Go.Proofs.YtppjphelibdlcaaGreatDoor
open Go.RowKit
open Go

abbrev SL3 : Type := Int × Int × Int
theorem infoSL : (Tryz.prog.info? 64).map (fun i => (i.zero, i.size, i.bytes)) = some (some (.agg #[.int .i64 0, .int .i64 0, .int .i64 0]), 3, 24) := by kernel_rfl
theorem rowsC_append (a b : List SL3) : rowsC (a ++ b) = rowsC a ++ rowsC b := by simp [rowsC]
theorem rowsC_at (l : List SL3) (i : Nat) (h : i < l.length) : (rowsC l)[i * 3]? = some (.int .i64 l[i].1) ∧ (rowsC l)[i * 3 + 1]? = some (.int .i64 l[i].2.1) ∧ (rowsC l)[i * 3 + 2]? = some (.int .i64 l[i].2.2) :=
  ⟨rowsC_get l i 0 (by decide) h, rowsC_get l i 1 (by decide) h, rowsC_get l i 2 (by decide) h⟩
theorem oc_row3 (p : SL3) : ∀ u ∈ row3 p, u.oneCell' = true := fun u hu => oc3 u hu
theorem news3 (w : World) (p : SL3) : ∀ j u, (row3 p)[j]? = some u → (w.alloc (.cells #[.int .i64 p.1, .int .i64 p.2.1, .int .i64 p.2.2] 64 (0, 0))).cell? ((⟨w.heap.size, 0, none⟩ : Addr).add j) = some u :=
  fun j u hu => cells_newN (heap_alloc_new w (.cells (row3 p).toArray 64 (0, 0))) j u hu
/-- What TwinSlots leaves: a row of its own, the mark behind. -/
def TwinS (w : World) (g : Nat) (v : Value) (l : List SL3) : Prop :=
  v = .slice (some ⟨g, 0, none⟩) l.length (l.length + 1) ∧ w.heap[g]? = some (.cells (rowsC (l ++ [(-77, 0, 0)])).toArray 64 (0, 0))
theorem full_rowN {w : World} {base : Nat} {e : TypeId} {sz g n : Nat} {xs : List Value} (h : w.ownsRow base e sz (.slice (some ⟨g, 0, none⟩) n n) n xs) : w.heap[g]? = some (.cells xs.toArray e (0, 0)) := by
  obtain ⟨h1, h2⟩ := h
  rcases h2 with ⟨h2, _⟩ | ⟨g', cap, cur, hv, _, hh, h3, _, h5, h6⟩
  · simp at h2
  · simp at hv
    obtain ⟨rfl, rfl⟩ := hv
    rw [hh]
    congr 2
    rw [← h6, List.take_of_length_le (by simp; omega)]
set_option maxHeartbeats 1000000 in
theorem twinS_any (v : Value) (l : List SL3) (w : World) (h : RdN 3 w v (l.map row3)) (hL : l.length ≤ 1048576) :
    Calls Tryz.prog 21 #[v] w fun e w' => ∃ v', e = .returned v' ∧ Below w.heap.size w w' ∧ TwinS w' w.heap.size v' l := by
  obtain ⟨a, c, rfl, hc, hm⟩ := h.shape
  rw [List.length_map] at *
  unfold maxLen at hm
  have HR := Lib.hid h
  clear h
  obtain ⟨i0, hi, hz0, hz1, hz2⟩ := info_parts infoSL
  go_enter Tryz.func21, Tryz.ntmps21
  go_wp2_with (at_make; refine wpList_make_own _ rfl _ _ 25 rfl w.heap.size 64 i0 (.agg #[.int .i64 0, .int .i64 0, .int .i64 0]) 3 Tryz.underlying25 hi hz0 hz1 .i64 .i64 _ (l.length + 1) rfl rfl (by omega) (by rw [hz2]; omega) (by unfold maxLen; omega) (Nat.le_refl _) ?_; intro w1 hown hgrow)
  have hb1 : Below w.heap.size w w1 := (Below.refl _ _).grown hgrow (Nat.le_refl _) (by simp)
  have Hi := Lib.hid hi
  have H1 := Lib.hid hz1
  clear hi hz0 hz1 hz2 hgrow
  go_loopw [3, 4] (fun t i wr => ∃ k : Nat, k ≤ l.length ∧ i = .int .i64 k ∧ t = .slice (some ⟨w.heap.size, 0, none⟩) k (l.length + 1) ∧ wr.ownsRow w.heap.size 64 3 (.slice (some ⟨w.heap.size, 0, none⟩) k (l.length + 1)) k (rowsC (l.take k)) ∧ Below w.heap.size w wr) (fun _ i _ => l.length - (intOf i).toNat)
  case atStart => exact ⟨0, by omega, rfl, rfl, hown, hb1⟩
  case round =>
    obtain ⟨k, hk, rfl, rfl, ho, hb⟩ := hrel
    clear hown hb1
    by_cases hlt : k < l.length
    · obtain ⟨b, o, rfl, hcl⟩ := (HR.out.below hb).get k (by simpa using hlt)
      rw [List.getElem_map] at hcl
      have hts : Hid (rowsC (l.take (k + 1)) = rowsC (l.take k) ++ row3 l[k]) := by
        unfold Hid
        rw [take_snoc _ _ hlt, rowsC_append]
        simp [rowsC]
      generalize l[k] = p at *
      obtain ⟨y0, y1, y2⟩ := p
      have x0 : wr.cell? ⟨b, o + k * 3, none⟩ = some (.int .i64 y0) := hcl 0 _ rfl
      have x1 : wr.cell? ⟨b, o + k * 3 + 1, none⟩ = some (.int .i64 y1) := hcl 1 _ rfl
      have x2 : wr.cell? ⟨b, o + k * 3 + 2, none⟩ = some (.int .i64 y2) := hcl 2 _ rfl
      clear hcl
      have NEWS := Lib.hid (news3 wr (y0, y1, y2))
      go_wp2_with (at_builtin; refine wpList_append_fits _ rfl _ _ 25 rfl w.heap.size 64 i0 3 Tryz.underlying25 Hi.out H1.out w.heap.size k (l.length + 1) _ rfl (ho.alloc _) ⟨wr.heap.size, 0, none⟩ 1 1 (row3 (y0, y1, y2)) rfl rfl NEWS.out (oc_row3 _) (by omega) ?_; intro w2 ho2 hg2)
      go_roundw
      case rel => exact ⟨k + 1, by omega, by go_num, rfl, by rw [hts.out]; exact ho2, (hb.alloc hb.size _).grown hg2 (by have := hb.size; simp; omega) (by simp)⟩
      case measure => simp [intOf]; omega
    · obtain rfl : k = l.length := by omega
      have NEWS := Lib.hid (news3 wr (-77, 0, 0))
      go_wp2_with (at_builtin; refine wpList_append_fits _ rfl _ _ 25 rfl w.heap.size 64 i0 3 Tryz.underlying25 Hi.out H1.out w.heap.size l.length (l.length + 1) _ rfl (ho.alloc _) ⟨wr.heap.size, 0, none⟩ 1 1 (row3 (-77, 0, 0)) rfl rfl NEWS.out (oc_row3 _) (by omega) ?_; intro w2 ho2 hg2)
      go_ret
      refine ⟨_, rfl, (hb.alloc hb.size _).grown hg2 (by have := hb.size; simp; omega) (by simp), rfl, ?_⟩
      rw [List.take_length] at ho2
      have := full_rowN ho2
      rw [this, rowsC_append]
      rfl
theorem TwinS.below {w w' : World} {g : Nat} {v : Value} {l : List SL3} (h : TwinS w g v l) (hb : Below w.heap.size w w') : TwinS w' g v l :=
  ⟨h.1, by rw [hb.block g (lt_of_block h.2)]; exact h.2⟩
theorem TwinS.cells {w : World} {g : Nat} {v : Value} {l : List SL3} (h : TwinS w g v l) (i : Nat) (hi : i < l.length) : w.cell? ⟨g, i * 3, none⟩ = some (.int .i64 l[i].1) ∧ w.cell? ⟨g, i * 3 + 1, none⟩ = some (.int .i64 l[i].2.1) ∧ w.cell? ⟨g, i * 3 + 2, none⟩ = some (.int .i64 l[i].2.2) := by
  have h2 := rowsC_at (l ++ [(-77, 0, 0)]) i (by simp; omega)
  rw [List.getElem_append_left hi] at h2
  rw [cell_of_row _ _ _ _ _ _ h.2, cell_of_row _ _ _ _ _ _ h.2, cell_of_row _ _ _ _ _ _ h.2]
  simpa using h2
theorem TwinS.mark {w : World} {g : Nat} {v : Value} {l : List SL3} (h : TwinS w g v l) : w.cell? ⟨g, l.length * 3, none⟩ = some (.int .i64 (-77)) ∧ w.cell? ⟨g, l.length * 3 + 1, none⟩ = some (.int .i64 0) ∧ w.cell? ⟨g, l.length * 3 + 2, none⟩ = some (.int .i64 0) := by
  have h2 := rowsC_at (l ++ [(-77, 0, 0)]) l.length (by simp)
  rw [List.getElem_append_right (Nat.le_refl _)] at h2
  rw [cell_of_row _ _ _ _ _ _ h.2, cell_of_row _ _ _ _ _ _ h.2, cell_of_row _ _ _ _ _ _ h.2]
  simpa using h2
theorem TwinS.rd {w : World} {g : Nat} {v : Value} {l : List SL3} (h : TwinS w g v l) (hL : l.length ≤ 1048576) : RdN 3 w v (l.map row3) := by
  obtain ⟨rfl, hg⟩ := h
  refine ⟨_, l.length + 1, by rw [List.length_map], by rw [List.length_map]; omega, by unfold maxLen; omega, by simp, fun r hr => by obtain ⟨f, _, rfl⟩ := List.mem_map.1 hr; rfl, fun i r hr => ⟨g, 0, rfl, fun j x hx => ?_⟩⟩
  have hil : i < l.length := by
    have := (List.getElem?_eq_some_iff.1 hr).1
    simpa using this
  have hc := TwinS.cells (v := .slice (some ⟨g, 0, none⟩) l.length (l.length + 1)) ⟨rfl, hg⟩ i hil
  rw [List.getElem?_map, List.getElem?_eq_getElem hil] at hr
  obtain rfl := Option.some.inj hr
  match j, hx with
  | 0, hx =>
    obtain rfl := Option.some.inj hx
    simpa using hc.1
  | 1, hx =>
    obtain rfl := Option.some.inj hx
    simpa using hc.2.1
  | 2, hx =>
    obtain rfl := Option.some.inj hx
    simpa using hc.2.2
set_option maxHeartbeats 1000000 in
theorem leftS_any (g : Nat) (v u : Value) (l : List SL3) (w : World) (ht : TwinS w g v l) (h : RdN 3 w u (l.map row3)) (hL : l.length ≤ 1048576) :
    Calls Tryz.prog 28 #[v, u] w fun e w' => e = .returned (.bool true) ∧ Below w.heap.size w w' := by
  obtain ⟨a, c, rfl, hc, hm⟩ := h.shape
  rw [List.length_map] at *
  unfold maxLen at hm
  have HR := Lib.hid h
  have HT := Lib.hid ht
  obtain ⟨rfl, _⟩ := ht
  clear h
  go_enter Tryz.func28, Tryz.ntmps28
  go_wp2_with fail
  go_loopw [5] (fun i wr => ∃ k : Nat, k ≤ l.length ∧ i = .int .i64 k ∧ Below w.heap.size w wr) (fun i _ => l.length - (intOf i).toNat)
  case atStart => exact ⟨0, by omega, rfl, Below.refl _ _⟩
  case round =>
    obtain ⟨k, hk, rfl, hb⟩ := hrel
    by_cases hlt : k < l.length
    · obtain ⟨b, o, rfl, hcl⟩ := (HR.out.below hb).get k (by simpa using hlt)
      rw [List.getElem_map] at hcl
      obtain ⟨z0, z1, z2⟩ := (HT.out.below hb).cells k hlt
      generalize l[k] = p at *
      obtain ⟨y0, y1, y2⟩ := p
      have x0 : wr.cell? ⟨b, o + k * 3, none⟩ = some (.int .i64 y0) := hcl 0 _ rfl
      have x1 : wr.cell? ⟨b, o + k * 3 + 1, none⟩ = some (.int .i64 y1) := hcl 1 _ rfl
      have x2 : wr.cell? ⟨b, o + k * 3 + 2, none⟩ = some (.int .i64 y2) := hcl 2 _ rfl
      clear hcl
      go_wp2_with fail
      go_quiet (fail)
      go_wp2_with fail
      go_roundw
      case rel => exact ⟨k + 1, by omega, by go_num, bdraw hb _⟩
      case measure => simp [intOf]; omega
    · obtain rfl : k = l.length := by omega
      obtain ⟨z0, z1, z2⟩ := (HT.out.below hb).mark
      go_wp2_with fail
      go_ret
      exact ⟨rfl, balloc hb _⟩
set_option maxHeartbeats 1000000 in
theorem same_slots (v u : Value) (l : List SL3) (w : World) (h1 : RdN 3 w v (l.map row3)) (h2 : RdN 3 w u (l.map row3)) :
    Calls Tryz.prog 25 #[v, u] w fun e w' => e = .returned (.bool true) ∧ Below w.heap.size w w' := by
  have H1 := Lib.hid h1
  have H2 := Lib.hid h2
  obtain ⟨a, c, rfl, hc, hcm⟩ := h1.shape
  obtain ⟨a2, c2, rfl, hc2, hcm2⟩ := h2.shape
  have hl : (l.map row3).length = l.length := by simp
  rw [hl] at hc hc2 H1 H2 ⊢
  unfold maxLen at hcm hcm2
  clear hl h1 h2
  go_enter Tryz.func25, Tryz.ntmps25
  go_wp2_with fail
  go_loopw [5] (fun i wr => ∃ k : Nat, k ≤ l.length ∧ i = .int .i64 k ∧ Below w.heap.size w wr) (fun i _ => l.length - (intOf i).toNat)
  case atStart => exact ⟨0, by omega, rfl, Below.refl _ _⟩
  case round =>
    obtain ⟨k, hk, rfl, hb⟩ := hrel
    by_cases hlt : k < l.length
    · obtain ⟨b, o, rfl, hcl⟩ := (H1.out.below hb).get k (by simpa using hlt)
      obtain ⟨b2, o2, rfl, hcl2⟩ := (H2.out.below hb).get k (by simpa using hlt)
      rw [List.getElem_map] at hcl hcl2
      generalize l[k] = p at *
      obtain ⟨y0, y1, y2⟩ := p
      have x0 : wr.cell? ⟨b, o + k * 3, none⟩ = some (.int .i64 y0) := hcl 0 _ rfl
      have x1 : wr.cell? ⟨b, o + k * 3 + 1, none⟩ = some (.int .i64 y1) := hcl 1 _ rfl
      have x2 : wr.cell? ⟨b, o + k * 3 + 2, none⟩ = some (.int .i64 y2) := hcl 2 _ rfl
      have z0 : wr.cell? ⟨b2, o2 + k * 3, none⟩ = some (.int .i64 y0) := hcl2 0 _ rfl
      have z1 : wr.cell? ⟨b2, o2 + k * 3 + 1, none⟩ = some (.int .i64 y1) := hcl2 1 _ rfl
      have z2 : wr.cell? ⟨b2, o2 + k * 3 + 2, none⟩ = some (.int .i64 y2) := hcl2 2 _ rfl
      clear hcl hcl2
      go_wp2_with fail
      go_quiet (fail)
      go_wp2_with fail
      go_roundw
      case rel => exact ⟨k + 1, by omega, by go_num, bdraw hb _⟩
      case measure => simp [intOf]; omega
    · obtain rfl : k = l.length := by omega
      go_wp2_with fail
      go_ret
      exact ⟨rfl, hb⟩
theorem TwinS.own {w : World} {g base : Nat} {v : Value} {l : List SL3} (h : TwinS w g v l) (hb : base ≤ g) (hL : l.length ≤ 1048576) : Own w base 64 3 v l.length (rowsC l) := by
  obtain ⟨rfl, h⟩ := h
  have hlen := rowsC_len l
  refine ⟨hlen, .inr ⟨g, l.length + 1, _, rfl, by omega, hb, h, by omega, by unfold maxLen; omega, ?_, ?_⟩⟩
  · rw [List.size_toArray, rowsC_len, List.length_append]
    simp
  · rw [rowsC_append, List.toList_toArray, List.take_append_of_le_length (by omega), List.take_of_length_le (by omega)]
end Go.Proofs.YtppjphelibdlcaaGreatDoor
