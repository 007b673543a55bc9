/-
  belfrylaw01.TwinValues, LeftValues.
-/
import Derived.Test.YtckpeclkkmapiaaGreatDoorFrvVal
import Derived.Test.YtckpeclkkmapiaaGreatDoorFrmSame
import Derived.Test.YtckpeclkkmapiaaGreatDoorRowsN
import Derived.Deep.QuietTactic
import Derived.BigQuiet
namespace Go.Proofs.YtckpeclkkmapiaaGreatDoor
open Go.RowKit
open Go

/-- What TwinValues leaves: a row of its own, the mark behind. -/
def TwinV (w : World) (g : Nat) (v : Value) (l : List VT) : Prop :=
  v = .slice (some ⟨g, 0, none⟩) l.length (l.length + 1) ∧ w.heap[g]? = some (.cells (cellsV (l ++ [(0, -77)])).toArray 82 (0, 0))
theorem full_rowN {w : World} {base : Nat} {e : TypeId} {sz g n : Nat} {xs : List Value} (h : w.ownsRow base e sz (.slice (some ⟨g, 0, none⟩) n n) n xs) : w.heap[g]? = some (.cells xs.toArray e (0, 0)) := by
  obtain ⟨h1, h2⟩ := h
  rcases h2 with ⟨h2, _⟩ | ⟨g', cap, cur, hv, _, hh, h3, _, h5, h6⟩
  · simp at h2
  · simp at hv
    obtain ⟨rfl, rfl⟩ := hv
    rw [hh]
    congr 2
    rw [← h6, List.take_of_length_le (by simp; omega)]
set_option maxHeartbeats 1000000 in
theorem twinV_any (v : Value) (l : List VT) (w : World) (h : RdN 2 w v (l.map rowV)) (hL : l.length ≤ 1048576) :
    Calls Tryz.prog 20 #[v] w fun e w' => ∃ v', e = .returned v' ∧ Below w.heap.size w w' ∧ TwinV w' w.heap.size v' l := by
  obtain ⟨a, c, rfl, hc, hm⟩ := h.shape
  rw [List.length_map] at *
  unfold maxLen at hm
  have HR := Lib.hid h
  clear h
  obtain ⟨i0, hi, hz0, hz1, hz2⟩ := info_parts infoVV
  go_enter Tryz.func20, Tryz.ntmps20
  go_wp2_with (at_make; refine wpList_make_own _ rfl _ _ 26 rfl w.heap.size 82 i0 (.agg #[.int .u8 0, .int .i64 0]) 2 Tryz.underlying26 hi hz0 hz1 .i64 .i64 _ (l.length + 1) rfl rfl (by omega) (by rw [hz2]; omega) (by unfold maxLen; omega) (Nat.le_refl _) ?_; intro w1 hown hgrow)
  have hb1 : Below w.heap.size w w1 := (Below.refl _ _).grown hgrow (Nat.le_refl _) (by simp)
  have Hi := Lib.hid hi
  have H1 := Lib.hid hz1
  clear hi hz0 hz1 hz2 hgrow
  go_loopw [3, 4] (fun t i wr => ∃ k : Nat, k ≤ l.length ∧ i = .int .i64 k ∧ t = .slice (some ⟨w.heap.size, 0, none⟩) k (l.length + 1) ∧ wr.ownsRow w.heap.size 82 2 (.slice (some ⟨w.heap.size, 0, none⟩) k (l.length + 1)) k (cellsV (l.take k)) ∧ Below w.heap.size w wr) (fun _ i _ => l.length - (intOf i).toNat)
  case atStart => exact ⟨0, by omega, rfl, rfl, hown, hb1⟩
  case round =>
    obtain ⟨k, hk, rfl, rfl, ho, hb⟩ := hrel
    clear hown hb1
    by_cases hlt : k < l.length
    · obtain ⟨b, o, rfl, hcl⟩ := (HR.out.below hb).get k (by simpa using hlt)
      rw [List.getElem_map] at hcl
      have hts : Hid (cellsV (l.take (k + 1)) = cellsV (l.take k) ++ rowV l[k]) := by
        unfold Hid
        rw [take_snoc _ _ hlt, cellsV_append]
        rfl
      generalize l[k] = p at *
      obtain ⟨t, n⟩ := p
      have x0 : wr.cell? ⟨b, o + k * 2, none⟩ = some (.int .u8 t) := hcl 0 _ rfl
      have x1 : wr.cell? ⟨b, o + k * 2 + 1, none⟩ = some (.int .i64 n) := hcl 1 _ rfl
      clear hcl
      have NEWS := Lib.hid (news2 wr (t, n))
      go_wp2_with (at_builtin; refine wpList_append_fits _ rfl _ _ 26 rfl w.heap.size 82 i0 2 Tryz.underlying26 Hi.out H1.out w.heap.size k (l.length + 1) _ rfl (ho.alloc _) ⟨wr.heap.size, 0, none⟩ 1 1 (rowV (t, n)) rfl rfl NEWS.out (oc_row _) (by omega) ?_; intro w2 ho2 hg2)
      go_roundw
      case rel => exact ⟨k + 1, by omega, by go_num, rfl, by rw [hts.out]; exact ho2, (hb.alloc hb.size _).grown hg2 (by have := hb.size; simp; omega) (by simp)⟩
      case measure => simp [intOf]; omega
    · obtain rfl : k = l.length := by omega
      have NEWS := Lib.hid (news2 wr (0, -77))
      go_wp2_with (at_builtin; refine wpList_append_fits _ rfl _ _ 26 rfl w.heap.size 82 i0 2 Tryz.underlying26 Hi.out H1.out w.heap.size l.length (l.length + 1) _ rfl (ho.alloc _) ⟨wr.heap.size, 0, none⟩ 1 1 (rowV (0, -77)) rfl rfl NEWS.out (oc_row _) (by omega) ?_; intro w2 ho2 hg2)
      go_ret
      refine ⟨_, rfl, (hb.alloc hb.size _).grown hg2 (by have := hb.size; simp; omega) (by simp), rfl, ?_⟩
      rw [List.take_length] at ho2
      have := full_rowN ho2
      rw [this, cellsV_append]
      rfl
theorem TwinV.below {w w' : World} {g : Nat} {v : Value} {l : List VT} (h : TwinV w g v l) (hb : Below w.heap.size w w') : TwinV w' g v l :=
  ⟨h.1, by rw [hb.block g (lt_of_block h.2)]; exact h.2⟩
theorem TwinV.cells {w : World} {g : Nat} {v : Value} {l : List VT} (h : TwinV w g v l) (i : Nat) (hi : i < l.length) : w.cell? ⟨g, i * 2, none⟩ = some (.int .u8 l[i].1) ∧ w.cell? ⟨g, i * 2 + 1, none⟩ = some (.int .i64 l[i].2) := by
  have h2 := cellsV_at (l ++ [(0, -77)]) i (by simp; omega)
  rw [List.getElem_append_left hi] at h2
  rw [cell_of_row _ _ _ _ _ _ h.2, cell_of_row _ _ _ _ _ _ h.2]
  simpa using h2
theorem TwinV.mark {w : World} {g : Nat} {v : Value} {l : List VT} (h : TwinV w g v l) : w.cell? ⟨g, l.length * 2, none⟩ = some (.int .u8 0) ∧ w.cell? ⟨g, l.length * 2 + 1, none⟩ = some (.int .i64 (-77)) := by
  have h2 := cellsV_at (l ++ [(0, -77)]) l.length (by simp)
  rw [List.getElem_append_right (Nat.le_refl _)] at h2
  rw [cell_of_row _ _ _ _ _ _ h.2, cell_of_row _ _ _ _ _ _ h.2]
  simpa using h2
theorem TwinV.rd {w : World} {g : Nat} {v : Value} {l : List VT} (h : TwinV w g v l) (hL : l.length ≤ 1048576) : RdN 2 w v (l.map rowV) := by
  obtain ⟨rfl, hg⟩ := h
  refine ⟨_, l.length + 1, by rw [List.length_map], by rw [List.length_map]; omega, by unfold maxLen; omega, by simp, fun r hr => by obtain ⟨f, _, rfl⟩ := List.mem_map.1 hr; rfl, fun i r hr => ⟨g, 0, rfl, fun j x hx => ?_⟩⟩
  have hil : i < l.length := by
    have := (List.getElem?_eq_some_iff.1 hr).1
    simpa using this
  have hc := TwinV.cells (v := .slice (some ⟨g, 0, none⟩) l.length (l.length + 1)) ⟨rfl, hg⟩ i hil
  rw [List.getElem?_map, List.getElem?_eq_getElem hil] at hr
  obtain rfl := Option.some.inj hr
  match j, hx with
  | 0, hx =>
    obtain rfl := Option.some.inj hx
    simpa using hc.1
  | 1, hx =>
    obtain rfl := Option.some.inj hx
    simpa using hc.2
set_option maxHeartbeats 1000000 in
theorem leftV_any (g : Nat) (v u : Value) (l : List VT) (w : World) (ht : TwinV w g v l) (h : RdN 2 w u (l.map rowV)) (hL : l.length ≤ 1048576) :
    Calls Tryz.prog 24 #[v, u] w fun e w' => e = .returned (.bool true) ∧ Below w.heap.size w w' := by
  obtain ⟨a, c, rfl, hc, hm⟩ := h.shape
  rw [List.length_map] at *
  unfold maxLen at hm
  have HR := Lib.hid h
  have HT := Lib.hid ht
  obtain ⟨rfl, _⟩ := ht
  clear h
  go_enter Tryz.func24, Tryz.ntmps24
  go_wp2_with fail
  go_loopw [5] (fun i wr => ∃ k : Nat, k ≤ l.length ∧ i = .int .i64 k ∧ Below w.heap.size w wr) (fun i _ => l.length - (intOf i).toNat)
  case atStart => exact ⟨0, by omega, rfl, Below.refl _ _⟩
  case round =>
    obtain ⟨k, hk, rfl, hb⟩ := hrel
    by_cases hlt : k < l.length
    · obtain ⟨b, o, rfl, hcl⟩ := (HR.out.below hb).get k (by simpa using hlt)
      rw [List.getElem_map] at hcl
      obtain ⟨y0, y1⟩ := (HT.out.below hb).cells k hlt
      generalize l[k] = p at *
      obtain ⟨t, n⟩ := p
      have x0 : wr.cell? ⟨b, o + k * 2, none⟩ = some (.int .u8 t) := hcl 0 _ rfl
      have x1 : wr.cell? ⟨b, o + k * 2 + 1, none⟩ = some (.int .i64 n) := hcl 1 _ rfl
      clear hcl
      go_wp2_with fail
      go_quiet (fail)
      go_wp2_with fail
      go_roundw
      case rel => exact ⟨k + 1, by omega, by go_num, bdraw hb _⟩
      case measure => simp [intOf]; omega
    · obtain rfl : k = l.length := by omega
      obtain ⟨y0, y1⟩ := (HT.out.below hb).mark
      go_wp2_with fail
      go_ret
      exact ⟨rfl, balloc hb _⟩
end Go.Proofs.YtckpeclkkmapiaaGreatDoor
