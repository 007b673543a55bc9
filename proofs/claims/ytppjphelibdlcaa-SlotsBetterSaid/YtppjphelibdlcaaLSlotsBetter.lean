/-
  The walk of SlotsBetter: a table that fits fits a better setup, and shorter frames, too.
-/
import Derived.Test.YtppjphelibdlcaaSlotsTight
import Derived.Test.YtppjphelibdlcaaSlotsArgs
import Derived.Test.YtppjphelibdlcaaSlotsFacts
import Derived.Deep.RegionHeld3
import Derived.OpenShut
import Derived.Test.YtppjphelibdlcaaOpenB
import Derived.Test.YtppjphelibdlcaaKit2
namespace Go.Proofs.Ytppjphelibdlcaa
open Go.RowKit
open Go

theorem Cells.slot {W : World} {cs : List Value} (h : Cells Try.prog W 39 cs) : ∃ x : Int × Int × Int, cs = row3 x := by
  obtain ⟨hl, hf⟩ := h.struct Try.underlying39
  rw [show Try.prog.cellsOf 39 = 3 by kernel_rfl] at hl
  obtain ⟨a, b, c, rfl⟩ : ∃ a b c, cs = [a, b, c] := by
    match cs, hl with
    | [a, b, c], _ => exact ⟨a, b, c, rfl⟩
  have c3 : Try.prog.cellsOf 3 = 1 := by kernel_rfl
  have h0 : Cells Try.prog W 3 (([a, b, c].drop 0).take (Try.prog.cellsOf 3)) := hf 0 _ rfl
  have h1 : Cells Try.prog W 3 (([a, b, c].drop 1).take (Try.prog.cellsOf 3)) := hf 1 _ rfl
  have h2 : Cells Try.prog W 3 (([a, b, c].drop 2).take (Try.prog.cellsOf 3)) := hf 2 _ rfl
  rw [c3] at h0 h1 h2
  obtain ⟨x0, e0, _⟩ := h0.int Try.underlying3
  obtain ⟨x1, e1, _⟩ := h1.int Try.underlying3
  obtain ⟨x2, e2, _⟩ := h2.int Try.underlying3
  simp at e0 e1 e2
  subst e0 e1 e2
  exact ⟨(x0, x1, x2), rfl⟩
theorem Cells.table {W : World} {cs : List Value} (h : Cells Try.prog W 29 cs) : ∃ (u : Value) (rs : List (Int × Int × Int)) (r g : Int), cs = [u, .int .i64 r, .int .i64 g] ∧ RdN 3 W u (rs.map row3) := by
  obtain ⟨hl, hf⟩ := h.struct Try.underlying29
  rw [show Try.prog.cellsOf 29 = 3 by kernel_rfl] at hl
  obtain ⟨a, b, c, rfl⟩ : ∃ a b c, cs = [a, b, c] := by
    match cs, hl with
    | [a, b, c], _ => exact ⟨a, b, c, rfl⟩
  have c3 : Try.prog.cellsOf 3 = 1 := by kernel_rfl
  have c1 : Try.prog.cellsOf 27 = 1 := by kernel_rfl
  have cs3 : Try.prog.cellsOf 39 = 3 := by kernel_rfl
  have h0 : Cells Try.prog W 27 (([a, b, c].drop 0).take (Try.prog.cellsOf 27)) := hf 0 _ rfl
  have h1 : Cells Try.prog W 3 (([a, b, c].drop 1).take (Try.prog.cellsOf 3)) := hf 1 _ rfl
  have h2 : Cells Try.prog W 3 (([a, b, c].drop 2).take (Try.prog.cellsOf 3)) := hf 2 _ rfl
  rw [c3] at h1 h2
  rw [c1] at h0
  obtain ⟨x1, e1, _⟩ := h1.int Try.underlying3
  obtain ⟨x2, e2, _⟩ := h2.int Try.underlying3
  obtain ⟨u, rows, e0, hR, hrows, _⟩ := h0.slice Try.underlying27 (by rw [cs3]; decide)
  rw [cs3] at hR
  obtain ⟨rs, rfl, _⟩ := rows_of row3 (fun _ => True) rows fun r hr => by
    obtain ⟨x, hx⟩ := (hrows r hr).slot
    exact ⟨x, hx, trivial⟩
  simp at e0 e1 e2
  subst e0 e1 e2
  exact ⟨a, rs, x1, x2, rfl, hR⟩
theorem Arg.setting {W : World} {x : Value} (h : Arg Try.prog 42 W x) : ∃ (bit near far drift bad : Int) (v : Value) (l : List Int) (u : Value) (rs : List (Int × Int × Int)) (r g q : Int),
    x = .agg #[.int .i64 bit, .int .i64 near, .int .i64 far, .int .i64 drift, .int .i64 bad, v, u, .int .i64 r, .int .i64 g, .int .i64 q] ∧ Rd W v (l.map (Value.int .i64)) ∧ RdN 3 W u (rs.map row3) ∧ (∀ z ∈ l, (Lit.int .i64 z).wf = true) ∧
    (Lit.int .i64 bit).wf = true ∧ (Lit.int .i64 near).wf = true ∧ (Lit.int .i64 far).wf = true ∧ (Lit.int .i64 drift).wf = true ∧ (Lit.int .i64 bad).wf = true := by
  obtain ⟨cs, rfl⟩ := h.struct Try.underlying42
  obtain ⟨hl, hf⟩ := h.cells.struct Try.underlying42
  have hcs : (Value.agg cs).cells.toList = cs.toList := rfl
  rw [hcs] at hl hf
  generalize hc : cs.toList = cl at *
  have hcc : cs = cl.toArray := by rw [← hc]
  subst hcc
  rw [show Try.prog.cellsOf 42 = 10 by kernel_rfl] at hl
  obtain ⟨a0, a1, a2, a3, a4, a5, a6, a7, a8, a9, rfl⟩ : ∃ a0 a1 a2 a3 a4 a5 a6 a7 a8 a9, cl = [a0, a1, a2, a3, a4, a5, a6, a7, a8, a9] := by
    match cl, hl with
    | [a0, a1, a2, a3, a4, a5, a6, a7, a8, a9], _ => exact ⟨a0, a1, a2, a3, a4, a5, a6, a7, a8, a9, rfl⟩
  have n1 : Try.prog.cellsOf 3 = 1 := by kernel_rfl
  have n2 : Try.prog.cellsOf 24 = 1 := by kernel_rfl
  have n3 : Try.prog.cellsOf 23 = 5 := by kernel_rfl
  have n4 : Try.prog.cellsOf 29 = 3 := by kernel_rfl
  have h0 : Cells Try.prog W 23 (([a0, a1, a2, a3, a4, a5, a6, a7, a8, a9].drop 0).take (Try.prog.cellsOf 23)) := hf 0 _ rfl
  have h1 : Cells Try.prog W 24 (([a0, a1, a2, a3, a4, a5, a6, a7, a8, a9].drop 5).take (Try.prog.cellsOf 24)) := hf 1 _ rfl
  have h2 : Cells Try.prog W 29 (([a0, a1, a2, a3, a4, a5, a6, a7, a8, a9].drop 6).take (Try.prog.cellsOf 29)) := hf 2 _ rfl
  have h3 : Cells Try.prog W 3 (([a0, a1, a2, a3, a4, a5, a6, a7, a8, a9].drop 9).take (Try.prog.cellsOf 3)) := hf 3 _ rfl
  rw [n3] at h0
  rw [n2] at h1
  rw [n4] at h2
  rw [n1] at h3
  obtain ⟨bit, near, far, drift, bad, e0, f⟩ := h0.setup
  obtain ⟨v, l, e1, hR, hz, _⟩ := h1.nums Try.underlying24 Try.underlying3 n1
  obtain ⟨u, rs, r, g, e2, hu⟩ := h2.table
  obtain ⟨q, e3, _⟩ := h3.int Try.underlying3
  simp at e0 e1 e2 e3
  obtain ⟨rfl, rfl, rfl, rfl, rfl⟩ := e0
  obtain ⟨rfl, rfl, rfl⟩ := e2
  subst e1 e3
  exact ⟨bit, near, far, drift, bad, _, l, _, rs, r, g, q, rfl, hR, hu, hz, f⟩

theorem info3' : (Try.prog.info? 3).map (fun i => (i.zero, i.size, i.bytes)) = some (some (.int .i64 0), 1, 8) := by kernel_rfl

set_option maxHeartbeats 4000000 in
theorem walk_SlotsBetter (v0 v1 v2 : Value) (W : World) (A0 : Arg Try.prog 42 W v0) (A1 : Arg Try.prog 23 W v1) (A2 : Arg Try.prog 43 W v2) :
    Calls Try.prog 5 #[v0, v1, v2] W fun e w' => e = .returned (.bool true) ∧ Below W.heap.size W w' := by
  obtain ⟨bit, near, far, drift, bad, v, l, u, rs, r, g, q, rfl, hR, hU, hZ, _⟩ := A0.setting
  obtain ⟨bit2, near2, far2, drift2, bad2, rfl, i0, i1, i2, i3, i4⟩ := A1.setup
  obtain ⟨cs, hC, hB, _⟩ := A2.bytes
  clear A0 A1 A2
  obtain ⟨a, c, rfl, hac, hcm⟩ := hR.shape
  obtain ⟨a2, c2, rfl, hac2, hcm2⟩ := hC.shape
  obtain ⟨a3, c3, rfl, hac3, hcm3⟩ := hU.shape
  rw [List.length_map] at *
  have B1 := balloc (balloc (Below.refl W.heap.size W) (.cells #[.int .i64 bit, .int .i64 near, .int .i64 far, .int .i64 drift, .int .i64 bad, .slice a l.length c, .slice a3 rs.length c3, .int .i64 r, .int .i64 g, .int .i64 q] 42 (0, 0))) (.cells #[.int .i64 bit2, .int .i64 near2, .int .i64 far2, .int .i64 drift2, .int .i64 bad2] 23 (0, 0))
  have k0 := heap_alloc2_old W (.cells #[.int .i64 bit, .int .i64 near, .int .i64 far, .int .i64 drift, .int .i64 bad, .slice a l.length c, .slice a3 rs.length c3, .int .i64 r, .int .i64 g, .int .i64 q] 42 (0, 0)) (.cells #[.int .i64 bit2, .int .i64 near2, .int .i64 far2, .int .i64 drift2, .int .i64 bad2] 23 (0, 0))
  have k1 := heap_alloc2_new W (.cells #[.int .i64 bit, .int .i64 near, .int .i64 far, .int .i64 drift, .int .i64 bad, .slice a l.length c, .slice a3 rs.length c3, .int .i64 r, .int .i64 g, .int .i64 q] 42 (0, 0)) (.cells #[.int .i64 bit2, .int .i64 near2, .int .i64 far2, .int .i64 drift2, .int .i64 bad2] 23 (0, 0))
  by_cases h1 : 20 < l.length
  · clear k0 k1
    go_enter Try.func5, Try.ntmps5
    go_wp2_with fail
    refine (lives_any _).mono ?_
    rintro e w1 ⟨rfl, b1⟩
    go_wp2_with fail
    go_ret
    exact ⟨rfl, bnext B1 b1⟩
  by_cases h2 : 20 < rs.length
  · clear k0 k1
    go_enter Try.func5, Try.ntmps5
    go_wp2_with fail
    refine (lives_any _).mono ?_
    rintro e w1 ⟨rfl, b1⟩
    go_wp2_with fail
    go_ret
    exact ⟨rfl, bnext B1 b1⟩
  cases h3 : fitsB bit near far drift bad l rs r g
  · go_enter Try.func5, Try.ntmps5
    go_wp2_with fail
    refine (fits_any _ _ _ _ _ _ l _ rs _ _ _ (hR.below B1) (hU.below B1)).mono ?_
    rw [h3]
    rintro e w2 ⟨rfl, b2⟩
    go_wp2_with fail
    refine (lives_any _).mono ?_
    rintro e w3 ⟨rfl, b3⟩
    go_wp2_with fail
    go_ret
    exact ⟨rfl, bnext (bnext B1 b2) b3⟩
  cases h4 : chkB bit2 near2 far2 drift2 bad2
  · go_enter Try.func5, Try.ntmps5
    go_wp2_with fail
    refine (fits_any _ _ _ _ _ _ l _ rs _ _ _ (hR.below B1) (hU.below B1)).mono ?_
    rw [h3]
    rintro e w2 ⟨rfl, b2⟩
    obtain ⟨c0, c1, c2, c3, c4⟩ := cells5 ((b2.block _ (lt_of_block k1)).trans k1)
    have B2 := bnext B1 b2
    clear k0 k1 b2 B1
    go_wp2_with fail
    refine (check_any _ _ _ _ _ _).mono ?_
    rw [h4]
    rintro e w3 ⟨rfl, b3⟩
    go_wp2_with fail
    refine (lives_any _).mono ?_
    rintro e w4 ⟨rfl, b4⟩
    go_wp2_with fail
    go_ret
    exact ⟨rfl, bnext (bnext B2 b3) b4⟩
  go_enter Try.func5, Try.ntmps5
  go_wp2_with fail
  refine (fits_any _ _ _ _ _ _ l _ rs _ _ _ (hR.below B1) (hU.below B1)).mono ?_
  rw [h3]
  rintro e w2 ⟨rfl, b2⟩
  have k2 := (b2.block _ (lt_of_block k1)).trans k1
  have k3 := (b2.block _ (lt_of_block k0)).trans k0
  obtain ⟨y0, y1, y2, y3, y4⟩ := cells5 k2
  have B2 := bnext B1 b2
  clear k0 k1 b2 B1
  go_wp2_with fail
  refine (check_any _ _ _ _ _ _).mono ?_
  rw [h4]
  rintro e w3 ⟨rfl, b3⟩
  have k4 := (b3.block _ (lt_of_block k2)).trans k2
  have k5 := (b3.block _ (lt_of_block k3)).trans k3
  have B3 := bnext B2 b3
  clear b3 k2 k3 B2 y0 y1 y2 y3 y4
  obtain ⟨y0, y1, y2, y3, y4⟩ := cells5 k4
  have x0 : w3.cell? ⟨W.heap.size, 0, none⟩ = some (.int .i64 bit) := cell_of_row _ _ 0 _ _ _ k5
  have x1 : w3.cell? ⟨W.heap.size, 1, none⟩ = some (.int .i64 near) := cell_of_row _ _ 1 _ _ _ k5
  have x2 : w3.cell? ⟨W.heap.size, 2, none⟩ = some (.int .i64 far) := cell_of_row _ _ 2 _ _ _ k5
  have x3 : w3.cell? ⟨W.heap.size, 3, none⟩ = some (.int .i64 drift) := cell_of_row _ _ 3 _ _ _ k5
  have x4 : w3.cell? ⟨W.heap.size, 4, none⟩ = some (.int .i64 bad) := cell_of_row _ _ 4 _ _ _ k5
  have x5 : w3.cell? ⟨W.heap.size, 5, none⟩ = some (.slice a l.length c) := cell_of_row _ _ 5 _ _ _ k5
  have hm3 : mayB bit near far drift bad l = true := by
    simp only [fitsB, Bool.and_eq_true] at h3
    exact h3.1
  obtain ⟨hc, ⟨hmx, h8⟩, hall⟩ := (mayB_iff _ _ _ _ _ _).1 hm3
  obtain ⟨⟨hb0, hb1⟩, ⟨hf0, hf1⟩, ⟨hn0, hn1⟩, ⟨hd0, hd1⟩, ⟨hz0, hz1⟩⟩ := (chkB_iff bit near far drift bad).1 hc
  obtain ⟨⟨gb0, gb1⟩, ⟨gf0, gf1⟩, ⟨gn0, gn1⟩, ⟨gd0, gd1⟩, ⟨gz0, gz1⟩⟩ := (chkB_iff _ _ _ _ _).1 h4
  have HF := Lib.hid h3
  have HY := Lib.hid h4
  have K4 := Lib.hid k4
  have K5 := Lib.hid k5
  have HALL := Lib.hid hall
  clear h3 h4 k4 k5 hm3 hc hall
  have key : bit < bit2 ∨ (¬ bit < bit2 ∧ far < far2) ∨ (¬ bit < bit2 ∧ ¬ far < far2 ∧ far - near < far2 - near2) ∨ (¬ bit < bit2 ∧ ¬ far < far2 ∧ ¬ far - near < far2 - near2 ∧ drift < drift2) ∨
      (¬ bit < bit2 ∧ ¬ far < far2 ∧ ¬ far - near < far2 - near2 ∧ ¬ drift < drift2 ∧ bad < bad2) ∨ (¬ bit < bit2 ∧ ¬ far < far2 ∧ ¬ far - near < far2 - near2 ∧ ¬ drift < drift2 ∧ ¬ bad < bad2) := by omega
  rcases key with q1 | ⟨q1, q2⟩ | ⟨q1, q2, q3⟩ | ⟨q1, q2, q3, q4⟩ | ⟨q1, q2, q3, q4, q5⟩ | ⟨q1, q2, q3, q4, q5⟩
  iterate 5
    · go_wp2_with fail
      refine (lives_any _).mono ?_
      rintro e w4 ⟨rfl, b4⟩
      go_wp2_with fail
      go_ret
      exact ⟨rfl, bnext B3 b4⟩
  obtain ⟨i0', hi, hz0', hz1', hz2'⟩ := info_parts info3'
  go_wp2_with (at_builtin; refine wpList_append_rd _ rfl _ _ 24 rfl (W.heap.size + 2) 3 i0' (.int .i64 0) 8 Try.underlying24 hi hz0' hz1' hz2' rfl (.slice none 0 0) 0 [] rfl ⟨rfl, .inl ⟨rfl, rfl⟩⟩ _ (ints l) rfl (hR.below B3) (oc8 _ _) (by unfold maxLen; simp; omega) (by simp; omega) (by have := lt_of_block K4.out; omega) ?_; intro v5 w5 own5 g5)
  have B5 : Below W.heap.size W w5 := B3.grown g5 B3.size (fun j hj => by cases hj)
  have k6 := (g5.block _ (lt_of_block K4.out) (fun e => by cases e)).trans K4.out
  have k7 := (g5.block _ (lt_of_block K5.out) (fun e => by cases e)).trans K5.out
  simp only [Nat.zero_add, List.nil_append] at own5
  obtain ⟨gb, cp, rfl⟩ := own_form own5 (by simp; omega)
  rw [List.length_map] at *
  have HL0 : Hid (LessL l l) := ⟨rfl, fun i x y hx hy => by
    rw [hx] at hy
    cases hy
    have := (HALL.out x (List.mem_of_getElem? hx)).1
    omega⟩
  clear K4 K5 x0 x1 x2 x3 x4 x5 y0 y1 y2 y3 y4
  go_loopw [8] (fun i wr => ∃ (k : Nat) (m : List Int), k ≤ l.length ∧ i = .int .i64 k ∧ Hid (LessL m l) ∧ wr.ownsRow (W.heap.size + 2) 3 1 (.slice (some ⟨gb, 0, none⟩) l.length cp) l.length (ints m) ∧
      wr.heap[W.heap.size + 1]? = some (.cells #[.int .i64 bit2, .int .i64 near2, .int .i64 far2, .int .i64 drift2, .int .i64 bad2] 23 (0, 0)) ∧
      wr.heap[W.heap.size]? = some (.cells #[.int .i64 bit, .int .i64 near, .int .i64 far, .int .i64 drift, .int .i64 bad, .slice a l.length c, .slice a3 rs.length c3, .int .i64 r, .int .i64 g, .int .i64 q] 42 (0, 0)) ∧ Below W.heap.size W wr) (fun i _ => l.length - (intOf i).toNat)
  case atStart => exact ⟨0, l, by omega, rfl, HL0, own5, k6, k7, B5⟩
  case round =>
    obtain ⟨k, m, hk, rfl, hles, own, k6, k7, B⟩ := hrel
    have hml : m.length = l.length := hles.out.1
    by_cases hlt : k < l.length ∧ k < cs.length
    · obtain ⟨hlt1, hlt2⟩ := hlt
      have hkm : k < m.length := by omega
      obtain ⟨b, o, rfl, hcl⟩ := hC.get k hlt2
      have c0 := own.cellAt k (by omega)
      rw [map_get hkm] at c0
      have f0 := own.frozenAt k
      have z0 := (B.cell (p := ⟨b, o + k, none⟩) (World.block_lt_of_cell? W _ hcl)).trans hcl
      obtain ⟨u0, u1⟩ := hB.at hlt2
      obtain ⟨p0, p1⟩ := hles.out.2 k m[k] l[k] (List.getElem?_eq_getElem hkm) (List.getElem?_eq_getElem hlt1)
      have hall := (HALL.out _ (List.getElem_mem hlt1)).2
      have OW := Lib.hid (fun (p : Int) => own.stored k (.int .i64 p))
      have OL := own.lt gb rfl
      have LS := Lib.hid (fun (p : Int) (h : ∀ y, l[k]? = some y → 1 ≤ p ∧ p ≤ y) => hles.out.set k p h)
      have LY : Hid (∀ y, l[k]? = some y → y = l[k]) := fun y hy => by rw [List.getElem?_eq_getElem hlt1] at hy; exact (Option.some.inj hy).symm
      clear hcl own hml hles
      generalize m[k] = x at *
      generalize cs[k] = y at *
      obtain ⟨p, hp⟩ : ∃ p, (if (1 : Int) < x - y then x - y else 1) = p := ⟨_, rfl⟩
      have hp2 : 1 ≤ p ∧ p ≤ x := by split at hp <;> omega
      go_wp2_with fail
      go_region
      go_wp2_with fail
      go_roundw
      case rel =>
        obtain ⟨ow, gw⟩ := OW.out p
        refine ⟨k + 1, m.set k p, by omega, by go_num, LS.out p (fun y hy => by have := LY.out y hy; omega), ?_, ?_, ?_, ?_⟩
        · rw [← List.map_set] at ow
          exact ow
        · exact (gw.block _ (lt_of_block k6) (fun e => by cases e; omega)).trans k6
        · exact (gw.block _ (lt_of_block k7) (fun e => by cases e; omega)).trans k7
        · exact bdraw (B.grown gw B.size (fun j hj => by cases hj; omega)) 1
      case measure => simp [intOf]; omega
    · have HF2 := Lib.hid (fits_better HF.out HY.out (by omega) (by omega) (by omega) (by omega) (by omega) hles.out)
      have HRD := Lib.hid (own_rd own)
      obtain ⟨y0, y1, y2, y3, y4⟩ := cells5 k6
      have x6 : wr.cell? ⟨W.heap.size, 6, none⟩ = some (.slice a3 rs.length c3) := cell_of_row _ _ 6 _ _ _ k7
      have x7 : wr.cell? ⟨W.heap.size, 7, none⟩ = some (.int .i64 r) := cell_of_row _ _ 7 _ _ _ k7
      have x8 : wr.cell? ⟨W.heap.size, 8, none⟩ = some (.int .i64 g) := cell_of_row _ _ 8 _ _ _ k7
      clear own hles hml k6 k7
      have hcase : ¬ k < l.length ∨ (k < l.length ∧ ¬ k < cs.length) := by omega
      rcases hcase with hlt2 | ⟨hlt1, hlt2⟩
      all_goals
        clear hlt
        go_wp2_with fail
        refine (fits_any _ _ _ _ _ _ m _ rs _ _ _ HRD.out (hU.below B)).mono ?_
        rw [HF2.out]
        rintro e w7 ⟨rfl, b7⟩
        go_wp2_with fail
        refine (lives_any _).mono ?_
        rintro e w8 ⟨rfl, b8⟩
        go_wp2_with fail
        go_ret
        exact ⟨rfl, bnext (bnext B b7) b8⟩
end Go.Proofs.Ytppjphelibdlcaa
