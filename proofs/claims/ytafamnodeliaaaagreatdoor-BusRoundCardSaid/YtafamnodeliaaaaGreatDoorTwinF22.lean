/-
  belfrylaw01.TwinFails, LeftFails.
-/
import Derived.Test.YtafamnodeliaaaaGreatDoorBusArgs
import Derived.Test.YtafamnodeliaaaaGreatDoorRowsN
import Derived.Test.YtafamnodeliaaaaGreatDoorBkW
import Derived.Deep.QuietTactic
import Derived.BigQuiet
namespace Go.Proofs.YtafamnodeliaaaaGreatDoor
open Go.RowKit
open Go

theorem infoFL : (Tryz.prog.info? 58).map (fun i => (i.zero, i.size, i.bytes)) = some (some (.agg #[.int .i64 0, .int .i64 0, .int .u8 0, .int .i64 0, .int .u8 0]), 5, 40) := by kernel_rfl
abbrev rowsF (l : List Fl) : List Value := (l.map rowF).flatten
theorem rowF_all (l : List Fl) : ∀ r ∈ l.map rowF, r.length = 5 := fun r hr => by obtain ⟨x, _, rfl⟩ := List.mem_map.1 hr; rfl
theorem rowsF_len (l : List Fl) : (rowsF l).length = l.length * 5 := by rw [rowsF, flat_len 5 _ (rowF_all l), List.length_map]
theorem rowsF_append (a b : List Fl) : rowsF (a ++ b) = rowsF a ++ rowsF b := by simp [rowsF]
theorem rowsF_get (l : List Fl) (i j : Nat) (hj : j < 5) (h : i < l.length) : (rowsF l)[i * 5 + j]? = (rowF l[i])[j]? := by
  have hx : (rowF l[i])[j]? = some ((rowF l[i])[j]'(by simpa [rowF] using hj)) := List.getElem?_eq_getElem _
  rw [hx]
  exact flat_get 5 _ (rowF_all l) i j (rowF l[i]) _ (by simp [h]) hx
theorem rowsF_at (l : List Fl) (i : Nat) (h : i < l.length) : (rowsF l)[i * 5]? = some (.int .i64 l[i].r) ∧ (rowsF l)[i * 5 + 1]? = some (.int .i64 l[i].s) ∧ (rowsF l)[i * 5 + 2]? = some (.int .u8 l[i].h) ∧ (rowsF l)[i * 5 + 3]? = some (.int .i64 l[i].a) ∧ (rowsF l)[i * 5 + 4]? = some (.int .u8 l[i].b) :=
  ⟨rowsF_get l i 0 (by decide) h, rowsF_get l i 1 (by decide) h, rowsF_get l i 2 (by decide) h, rowsF_get l i 3 (by decide) h, rowsF_get l i 4 (by decide) h⟩
theorem oc_rowF (p : Fl) : ∀ u ∈ rowF p, u.oneCell' = true := by
  intro u hu
  simp [rowF] at hu
  rcases hu with rfl | rfl | rfl | rfl | rfl <;> rfl
theorem news5 (w : World) (p : Fl) : ∀ j u, (rowF p)[j]? = some u → (w.alloc (.cells #[.int .i64 p.r, .int .i64 p.s, .int .u8 p.h, .int .i64 p.a, .int .u8 p.b] 58 (0, 0))).cell? ((⟨w.heap.size, 0, none⟩ : Addr).add j) = some u :=
  fun j u hu => cells_newN (heap_alloc_new w (.cells (rowF p).toArray 58 (0, 0))) j u hu
/-- The mark behind. -/
def markFl : Fl := ⟨-77, 0, 0, 0, 0⟩
/-- What TwinFails leaves: a row of its own, the mark behind. -/
def TwinFl (w : World) (g : Nat) (v : Value) (l : List Fl) : Prop :=
  v = .slice (some ⟨g, 0, none⟩) l.length (l.length + 1) ∧ w.heap[g]? = some (.cells (rowsF (l ++ [markFl])).toArray 58 (0, 0))
theorem full_rowN {w : World} {base : Nat} {e : TypeId} {sz g n : Nat} {xs : List Value} (h : w.ownsRow base e sz (.slice (some ⟨g, 0, none⟩) n n) n xs) : w.heap[g]? = some (.cells xs.toArray e (0, 0)) := by
  obtain ⟨h1, h2⟩ := h
  rcases h2 with ⟨h2, _⟩ | ⟨g', cap, cur, hv, _, hh, h3, _, h5, h6⟩
  · simp at h2
  · simp at hv
    obtain ⟨rfl, rfl⟩ := hv
    rw [hh]
    congr 2
    rw [← h6, List.take_of_length_le (by simp; omega)]
set_option maxHeartbeats 1000000 in
theorem twinFl_any (v : Value) (l : List Fl) (w : World) (h : RdN 5 w v (l.map rowF)) (hL : l.length ≤ 1048576) :
    Calls Tryz.prog 7 #[v] w fun e w' => ∃ v', e = .returned v' ∧ Below w.heap.size w w' ∧ TwinFl w' w.heap.size v' l := by
  obtain ⟨a, c, rfl, hc, hm⟩ := h.shape
  rw [List.length_map] at *
  unfold maxLen at hm
  have HR := Lib.hid h
  clear h
  obtain ⟨i0, hi, hz0, hz1, hz2⟩ := info_parts infoFL
  go_enter Tryz.func7, Tryz.ntmps7
  go_wp2_with (at_make; refine wpList_make_own _ rfl _ _ 23 rfl w.heap.size 58 i0 (.agg #[.int .i64 0, .int .i64 0, .int .u8 0, .int .i64 0, .int .u8 0]) 5 Tryz.underlying23 hi hz0 hz1 .i64 .i64 _ (l.length + 1) rfl rfl (by omega) (by rw [hz2]; omega) (by unfold maxLen; omega) (Nat.le_refl _) ?_; intro w1 hown hgrow)
  have hb1 : Below w.heap.size w w1 := (Below.refl _ _).grown hgrow (Nat.le_refl _) (by simp)
  have Hi := Lib.hid hi
  have H1 := Lib.hid hz1
  clear hi hz0 hz1 hz2 hgrow
  go_loopw [3, 4] (fun t i wr => ∃ k : Nat, k ≤ l.length ∧ i = .int .i64 k ∧ t = .slice (some ⟨w.heap.size, 0, none⟩) k (l.length + 1) ∧ wr.ownsRow w.heap.size 58 5 (.slice (some ⟨w.heap.size, 0, none⟩) k (l.length + 1)) k (rowsF (l.take k)) ∧ Below w.heap.size w wr) (fun _ i _ => l.length - (intOf i).toNat)
  case atStart => exact ⟨0, by omega, rfl, rfl, hown, hb1⟩
  case round =>
    obtain ⟨k, hk, rfl, rfl, ho, hb⟩ := hrel
    clear hown hb1
    by_cases hlt : k < l.length
    · obtain ⟨b, o, rfl, hcl⟩ := (HR.out.below hb).get k (by simpa using hlt)
      rw [List.getElem_map] at hcl
      have hts : Hid (rowsF (l.take (k + 1)) = rowsF (l.take k) ++ rowF l[k]) := by
        unfold Hid
        rw [take_snoc _ _ hlt, rowsF_append]
        simp [rowsF]
      generalize l[k] = p at *
      obtain ⟨y0, y1, y2, y3, y4⟩ := p
      have x0 : wr.cell? ⟨b, o + k * 5, none⟩ = some (.int .i64 y0) := hcl 0 _ rfl
      have x1 : wr.cell? ⟨b, o + k * 5 + 1, none⟩ = some (.int .i64 y1) := hcl 1 _ rfl
      have x2 : wr.cell? ⟨b, o + k * 5 + 2, none⟩ = some (.int .u8 y2) := hcl 2 _ rfl
      have x3 : wr.cell? ⟨b, o + k * 5 + 3, none⟩ = some (.int .i64 y3) := hcl 3 _ rfl
      have x4 : wr.cell? ⟨b, o + k * 5 + 4, none⟩ = some (.int .u8 y4) := hcl 4 _ rfl
      clear hcl
      have NEWS := Lib.hid (news5 wr ⟨y0, y1, y2, y3, y4⟩)
      go_wp2_with (at_builtin; refine wpList_append_fits _ rfl _ _ 23 rfl w.heap.size 58 i0 5 Tryz.underlying23 Hi.out H1.out w.heap.size k (l.length + 1) _ rfl (ho.alloc _) ⟨wr.heap.size, 0, none⟩ 1 1 (rowF ⟨y0, y1, y2, y3, y4⟩) rfl rfl NEWS.out (oc_rowF _) (by omega) ?_; intro w2 ho2 hg2)
      go_roundw
      case rel => exact ⟨k + 1, by omega, by go_num, rfl, by rw [hts.out]; exact ho2, (hb.alloc hb.size _).grown hg2 (by have := hb.size; simp; omega) (by simp)⟩
      case measure => simp [intOf]; omega
    · obtain rfl : k = l.length := by omega
      have NEWS := Lib.hid (news5 wr markFl)
      go_wp2_with (at_builtin; refine wpList_append_fits _ rfl _ _ 23 rfl w.heap.size 58 i0 5 Tryz.underlying23 Hi.out H1.out w.heap.size l.length (l.length + 1) _ rfl (ho.alloc _) ⟨wr.heap.size, 0, none⟩ 1 1 (rowF markFl) rfl rfl NEWS.out (oc_rowF _) (by omega) ?_; intro w2 ho2 hg2)
      go_ret
      refine ⟨_, rfl, (hb.alloc hb.size _).grown hg2 (by have := hb.size; simp; omega) (by simp), rfl, ?_⟩
      rw [List.take_length] at ho2
      have := full_rowN ho2
      rw [this, rowsF_append]
      rfl
theorem TwinFl.below {w w' : World} {g : Nat} {v : Value} {l : List Fl} (h : TwinFl w g v l) (hb : Below w.heap.size w w') : TwinFl w' g v l :=
  ⟨h.1, by rw [hb.block g (lt_of_block h.2)]; exact h.2⟩
theorem TwinFl.cells {w : World} {g : Nat} {v : Value} {l : List Fl} (h : TwinFl w g v l) (i : Nat) (hi : i < l.length) : w.cell? ⟨g, i * 5, none⟩ = some (.int .i64 l[i].r) ∧ w.cell? ⟨g, i * 5 + 1, none⟩ = some (.int .i64 l[i].s) ∧ w.cell? ⟨g, i * 5 + 2, none⟩ = some (.int .u8 l[i].h) ∧ w.cell? ⟨g, i * 5 + 3, none⟩ = some (.int .i64 l[i].a) ∧ w.cell? ⟨g, i * 5 + 4, none⟩ = some (.int .u8 l[i].b) := by
  have h2 := rowsF_at (l ++ [markFl]) i (by simp; omega)
  rw [List.getElem_append_left hi] at h2
  rw [cell_of_row _ _ _ _ _ _ h.2, cell_of_row _ _ _ _ _ _ h.2, cell_of_row _ _ _ _ _ _ h.2, cell_of_row _ _ _ _ _ _ h.2, cell_of_row _ _ _ _ _ _ h.2]
  simpa using h2
theorem TwinFl.mark {w : World} {g : Nat} {v : Value} {l : List Fl} (h : TwinFl w g v l) : w.cell? ⟨g, l.length * 5, none⟩ = some (.int .i64 (-77)) ∧ w.cell? ⟨g, l.length * 5 + 1, none⟩ = some (.int .i64 0) ∧ w.cell? ⟨g, l.length * 5 + 2, none⟩ = some (.int .u8 0) ∧ w.cell? ⟨g, l.length * 5 + 3, none⟩ = some (.int .i64 0) ∧ w.cell? ⟨g, l.length * 5 + 4, none⟩ = some (.int .u8 0) := by
  have h2 := rowsF_at (l ++ [markFl]) l.length (by simp)
  rw [List.getElem_append_right (Nat.le_refl _)] at h2
  rw [cell_of_row _ _ _ _ _ _ h.2, cell_of_row _ _ _ _ _ _ h.2, cell_of_row _ _ _ _ _ _ h.2, cell_of_row _ _ _ _ _ _ h.2, cell_of_row _ _ _ _ _ _ h.2]
  simpa [markFl] using h2
theorem TwinFl.rd {w : World} {g : Nat} {v : Value} {l : List Fl} (h : TwinFl w g v l) (hL : l.length ≤ 1048576) : RdN 5 w v (l.map rowF) := by
  obtain ⟨rfl, hg⟩ := h
  refine ⟨_, l.length + 1, by rw [List.length_map], by rw [List.length_map]; omega, by unfold maxLen; omega, by simp, fun r hr => by obtain ⟨f, _, rfl⟩ := List.mem_map.1 hr; rfl, fun i r hr => ⟨g, 0, rfl, fun j x hx => ?_⟩⟩
  have hil : i < l.length := by
    have := (List.getElem?_eq_some_iff.1 hr).1
    simpa using this
  have hc := TwinFl.cells (v := .slice (some ⟨g, 0, none⟩) l.length (l.length + 1)) ⟨rfl, hg⟩ i hil
  rw [List.getElem?_map, List.getElem?_eq_getElem hil] at hr
  obtain rfl := Option.some.inj hr
  match j, hx with
  | 0, hx =>
    obtain rfl := Option.some.inj hx
    simpa using hc.1
  | 1, hx =>
    obtain rfl := Option.some.inj hx
    simpa using hc.2.1
  | 2, hx =>
    obtain rfl := Option.some.inj hx
    simpa using hc.2.2.1
  | 3, hx =>
    obtain rfl := Option.some.inj hx
    simpa using hc.2.2.2.1
  | 4, hx =>
    obtain rfl := Option.some.inj hx
    simpa using hc.2.2.2.2
set_option maxHeartbeats 1000000 in
theorem leftFl_any (g : Nat) (v u : Value) (l : List Fl) (w : World) (ht : TwinFl w g v l) (h : RdN 5 w u (l.map rowF)) (hL : l.length ≤ 1048576) :
    Calls Tryz.prog 10 #[v, u] w fun e w' => e = .returned (.bool true) ∧ Below w.heap.size w w' := by
  obtain ⟨a, c, rfl, hc, hm⟩ := h.shape
  rw [List.length_map] at *
  unfold maxLen at hm
  have HR := Lib.hid h
  have HT := Lib.hid ht
  obtain ⟨rfl, _⟩ := ht
  clear h
  go_enter Tryz.func10, Tryz.ntmps10
  go_wp2_with fail
  go_loopw [5] (fun i wr => ∃ k : Nat, k ≤ l.length ∧ i = .int .i64 k ∧ Below w.heap.size w wr) (fun i _ => l.length - (intOf i).toNat)
  case atStart => exact ⟨0, by omega, rfl, Below.refl _ _⟩
  case round =>
    obtain ⟨k, hk, rfl, hb⟩ := hrel
    by_cases hlt : k < l.length
    · obtain ⟨b, o, rfl, hcl⟩ := (HR.out.below hb).get k (by simpa using hlt)
      rw [List.getElem_map] at hcl
      obtain ⟨z0, z1, z2, z3, z4⟩ := (HT.out.below hb).cells k hlt
      generalize l[k] = p at *
      obtain ⟨y0, y1, y2, y3, y4⟩ := p
      have x0 : wr.cell? ⟨b, o + k * 5, none⟩ = some (.int .i64 y0) := hcl 0 _ rfl
      have x1 : wr.cell? ⟨b, o + k * 5 + 1, none⟩ = some (.int .i64 y1) := hcl 1 _ rfl
      have x2 : wr.cell? ⟨b, o + k * 5 + 2, none⟩ = some (.int .u8 y2) := hcl 2 _ rfl
      have x3 : wr.cell? ⟨b, o + k * 5 + 3, none⟩ = some (.int .i64 y3) := hcl 3 _ rfl
      have x4 : wr.cell? ⟨b, o + k * 5 + 4, none⟩ = some (.int .u8 y4) := hcl 4 _ rfl
      clear hcl
      go_wp2_with fail
      go_quiet (fail)
      go_wp2_with fail
      go_roundw
      case rel => exact ⟨k + 1, by omega, by go_num, bdraw hb _⟩
      case measure => simp [intOf]; omega
    · obtain rfl : k = l.length := by omega
      obtain ⟨z0, z1, z2, z3, z4⟩ := (HT.out.below hb).mark
      go_wp2_with fail
      go_ret
      exact ⟨rfl, balloc hb _⟩
end Go.Proofs.YtafamnodeliaaaaGreatDoor
