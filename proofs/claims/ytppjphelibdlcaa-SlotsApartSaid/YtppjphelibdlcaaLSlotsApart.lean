/-
  The walk of SlotsApart: each frame comes within its slot, by each station's clock, and no two meet.
-/
import Derived.Test.YtppjphelibdlcaaSlotsTight
import Derived.Test.YtppjphelibdlcaaSlotsArgs
import Derived.Test.YtppjphelibdlcaaSlotsFacts
import Derived.Deep.RegionHeld3
import Derived.OpenShut
import Derived.Test.YtppjphelibdlcaaLSlotsApartA
namespace Go.Proofs.Ytppjphelibdlcaa
open Go.RowKit
open Go

theorem rowsS_get (bit far g : Int) (l : List Int) (k : Nat) (hk : k < l.length) (a : Int) :
    (rowsS bit far g a l)[k]? = some (a + sumS bit far g (l.take k), a + sumS bit far g (l.take k) + g, a + sumS bit far g (l.take k) + slot1 bit far g l[k]) := by
  induction l generalizing k a with
  | nil => simp at hk
  | cons n l ih =>
    cases k with
    | zero => simp [rowsS, sumS]
    | succ k =>
      have := ih k (by simpa using hk) (a + slot1 bit far g n)
      simp only [rowsS, List.getElem?_cons_succ, this, List.take_succ_cons, sumS, List.getElem_cons_succ]
      simp only [Int.add_assoc]
theorem rows_cells {bit far g : Int} {l : List Int} {w : World} {b : Nat} {t : TypeId} (h : w.heap[b]? = some (.cells (rowsC (rowsS bit far g 0 l)).toArray t (0, 0))) (k : Nat) (hk : k < l.length) (hm : l.length ≤ maxLen) :
    w.cell? ⟨b, k * 3, none⟩ = some (.int .i64 (sumS bit far g (l.take k))) ∧ w.cell? ⟨b, k * 3 + 1, none⟩ = some (.int .i64 (sumS bit far g (l.take k) + g)) ∧ w.cell? ⟨b, k * 3 + 2, none⟩ = some (.int .i64 (sumS bit far g (l.take k) + slot1 bit far g l[k])) := by
  have hl := rowsS_len bit far g l 0
  have h1 := rowsS_get bit far g l k hk 0
  obtain ⟨b', o, hb, hc⟩ := (rdN_rows h l.length hl.symm hm).get k (by simp [hl]; exact hk)
  simp only [Option.some.injEq, Addr.mk.injEq] at hb
  obtain ⟨rfl, rfl, _⟩ := hb
  rw [List.getElem?_eq_getElem (by omega)] at h1
  have h2 := Option.some.inj h1
  simp only [Int.zero_add] at h2
  simp only [List.getElem_map, h2, Nat.zero_add] at hc
  exact ⟨hc 0 _ rfl, hc 1 _ rfl, hc 2 _ rfl⟩

theorem cells8A {w : World} {b : Nat} {v0 v1 v2 v3 v4 v5 v6 v7 : Value} {t : TypeId} (h : w.heap[b]? = some (.cells #[v0, v1, v2, v3, v4, v5, v6, v7] t (0, 0))) :
    w.cell? ⟨b, 0, none⟩ = some v0 ∧ w.cell? ⟨b, 1, none⟩ = some v1 ∧ w.cell? ⟨b, 2, none⟩ = some v2 ∧ w.cell? ⟨b, 5, none⟩ = some v5 ∧ w.cell? ⟨b, 6, none⟩ = some v6 ∧ w.cell? ⟨b, 7, none⟩ = some v7 :=
  ⟨cell_of_row _ _ 0 _ _ _ h, cell_of_row _ _ 1 _ _ _ h, cell_of_row _ _ 2 _ _ _ h, cell_of_row _ _ 5 _ _ _ h, cell_of_row _ _ 6 _ _ _ h, cell_of_row _ _ 7 _ _ _ h⟩
set_option maxRecDepth 20000 in
set_option maxHeartbeats 4000000 in
theorem walk_SlotsApart (v0 : Value) (W : World) (A0 : Arg Try.prog 37 W v0) :
    Calls Try.prog 4 #[v0] W fun e w' => e = .returned (.bool true) ∧ Below W.heap.size W w' := by
  obtain ⟨bit, near, far, drift, bad, v, l, u, os, y, ls, rfl, hR, hO, hL⟩ := A0.sending
  clear A0
  obtain ⟨a, c, rfl, hac, hcm⟩ := hR.shape
  obtain ⟨a2, c2, rfl, hac2, hcm2⟩ := hO.shape
  obtain ⟨a3, c3, rfl, hac3, hcm3⟩ := hL.shape
  have B1 := balloc (Below.refl W.heap.size W) (.cells #[.int .i64 bit, .int .i64 near, .int .i64 far, .int .i64 drift, .int .i64 bad, .slice a l.length c, .slice a2 os.length c2, .slice a3 ls.length c3] 37 (0, 0))
  have k0 := heap_alloc_new W (.cells #[.int .i64 bit, .int .i64 near, .int .i64 far, .int .i64 drift, .int .i64 bad, .slice a l.length c, .slice a2 os.length c2, .slice a3 ls.length c3] 37 (0, 0))
  have key : 20 < l.length ∨ (¬ 20 < l.length ∧ ((os.length : Int) != l.length) = true) ∨ (¬ 20 < l.length ∧ ((os.length : Int) != l.length) = false ∧ ((ls.length : Int) != l.length) = true) ∨ (¬ 20 < l.length ∧ ((os.length : Int) != l.length) = false ∧ ((ls.length : Int) != l.length) = false) := by
    cases ((os.length : Int) != l.length) <;> cases ((ls.length : Int) != l.length) <;> by_cases h : 20 < l.length <;> simp [h]
  rcases key with h1 | ⟨h1, h2⟩ | ⟨h1, h2, h3⟩ | ⟨h1, h2, h3⟩
  iterate 3
    · unfold maxLen at hcm hcm2 hcm3
      exact apart_early bit near far drift bad a a2 a3 l.length c os.length c2 ls.length c3 W (by omega) (by simp only [true_and, true_or, or_true, not_true, not_false_eq_true, *])
  go_enter Try.func4, Try.ntmps4
  go_wp2_with fail
  refine (make_any _ _ _ _ _ _ l _ (hR.below B1)).mono ?_
  rintro e w1 ⟨hm, b1⟩
  have k1 := (b1.block _ (lt_of_block k0)).trans k0
  have B2 := bnext B1 b1
  clear b1 B1 k0
  rcases hm with ⟨h4, rfl⟩ | ⟨h4, b, G, hb, hG0, hG1, hok, hmin, rfl, hrows⟩ | ⟨h4, hno, rfl⟩
  · clear k1
    go_wp2_with fail
    refine (lives_any _).mono ?_
    rintro e w2 ⟨rfl, b2⟩
    go_wp2_with fail
    go_ret
    exact ⟨rfl, bnext (balloc B2 _) b2⟩
  · have tv : Obj := (.cells #[.slice (some ⟨b, 0, none⟩) l.length l.length, .int .i64 (sumS bit far G l), .int .i64 G] 29 (0, 0))
    have k2 := (heap_alloc_old (h := lt_of_block k1) w1 (.cells #[.slice (some ⟨b, 0, none⟩) l.length l.length, .int .i64 (sumS bit far G l), .int .i64 G] 29 (0, 0))).trans k1
    have r2 := (heap_alloc_old (h := lt_of_block hrows) w1 (.cells #[.slice (some ⟨b, 0, none⟩) l.length l.length, .int .i64 (sumS bit far G l), .int .i64 G] 29 (0, 0))).trans hrows
    have t2 := heap_alloc_new w1 (.cells #[.slice (some ⟨b, 0, none⟩) l.length l.length, .int .i64 (sumS bit far G l), .int .i64 G] 29 (0, 0))
    have B3 := balloc B2 (.cells #[.slice (some ⟨b, 0, none⟩) l.length l.length, .int .i64 (sumS bit far G l), .int .i64 G] 29 (0, 0))
    obtain ⟨t0, _, t3⟩ := cells3 t2
    have x0 : (w1.alloc (.cells #[.slice (some ⟨b, 0, none⟩) l.length l.length, .int .i64 (sumS bit far G l), .int .i64 G] 29 (0, 0))).cell? ⟨W.heap.size, 0, none⟩ = some (.int .i64 bit) := cell_of_row _ _ 0 _ _ _ k2
    have x1 : (w1.alloc (.cells #[.slice (some ⟨b, 0, none⟩) l.length l.length, .int .i64 (sumS bit far G l), .int .i64 G] 29 (0, 0))).cell? ⟨W.heap.size, 1, none⟩ = some (.int .i64 near) := cell_of_row _ _ 1 _ _ _ k2
    have x2 : (w1.alloc (.cells #[.slice (some ⟨b, 0, none⟩) l.length l.length, .int .i64 (sumS bit far G l), .int .i64 G] 29 (0, 0))).cell? ⟨W.heap.size, 2, none⟩ = some (.int .i64 far) := cell_of_row _ _ 2 _ _ _ k2
    have x5 : (w1.alloc (.cells #[.slice (some ⟨b, 0, none⟩) l.length l.length, .int .i64 (sumS bit far G l), .int .i64 G] 29 (0, 0))).cell? ⟨W.heap.size, 5, none⟩ = some (.slice a l.length c) := cell_of_row _ _ 5 _ _ _ k2
    have x6 : (w1.alloc (.cells #[.slice (some ⟨b, 0, none⟩) l.length l.length, .int .i64 (sumS bit far G l), .int .i64 G] 29 (0, 0))).cell? ⟨W.heap.size, 6, none⟩ = some (.slice a2 os.length c2) := cell_of_row _ _ 6 _ _ _ k2
    have x7 : (w1.alloc (.cells #[.slice (some ⟨b, 0, none⟩) l.length l.length, .int .i64 (sumS bit far G l), .int .i64 G] 29 (0, 0))).cell? ⟨W.heap.size, 7, none⟩ = some (.slice a3 ls.length c3) := cell_of_row _ _ 7 _ _ _ k2
    have K2 := Lib.hid k2
    have R2 := Lib.hid r2
    have T2 := Lib.hid t2
    clear k1 hrows k2 r2 t2 B2 tv
    have HO : Hid (os.length = l.length) := by
      unfold Hid
      have := bne_eq_false_iff_eq.1 h2
      omega
    have HS : Hid (ls.length = l.length) := by
      unfold Hid
      have := bne_eq_false_iff_eq.1 h3
      omega
    obtain ⟨hc, ⟨_, h8⟩, hl⟩ := (mayB_iff _ _ _ _ _ _).1 h4
    obtain ⟨⟨hb0, hb1⟩, ⟨hf0, hf1⟩, ⟨hn0, hn1⟩, ⟨hd0, hd1⟩, _⟩ := (chkB_iff bit near far drift bad).1 hc
    have HALL := Lib.hid hl
    go_wp2_with fail
    generalize w1.heap.size = n1 at *
    generalize w1.alloc _ = w2 at *
    have CO := Lib.hid (fun (wr : World) (hb : Below w2.heap.size w2 wr) (k : Nat) (hk : k < os.length) => (hO.below (bnext B3 hb)).get k hk)
    have CL := Lib.hid (fun (wr : World) (hb : Below w2.heap.size w2 wr) (k : Nat) (hk : k < ls.length) => (hL.below (bnext B3 hb)).get k hk)
    have CR := Lib.hid (fun (wr : World) (hb : Below w2.heap.size w2 wr) (k : Nat) (hk : k < l.length) => (hR.below (bnext B3 hb)).get k hk)
    have KW := Lib.hid (fun (wr : World) (hb : Below w2.heap.size w2 wr) => cells8A ((hb.block _ (lt_of_block K2.out)).trans K2.out))
    have TW := Lib.hid (fun (wr : World) (hb : Below w2.heap.size w2 wr) => cells3 ((hb.block _ (lt_of_block T2.out)).trans T2.out))
    have RW := Lib.hid (fun (wr : World) (hb : Below w2.heap.size w2 wr) (k : Nat) (hk : k < l.length) (hm : l.length ≤ maxLen) => rows_cells ((hb.block _ (lt_of_block R2.out)).trans R2.out) k hk hm)
    clear x0 x1 x2 x5 x6 x7 t0 t3
    clear h2 h3 hl hc hO hL hR
    go_loopw [6] (fun i wr => ∃ (k : Nat), k ≤ l.length ∧ i = .int .i64 k ∧ Below w2.heap.size w2 wr ∧ Hid (∀ j, j < k → ∀ x y : Int, os[j]? = some x → ls[j]? = some y → (0 ≤ x ∧ x ≤ G) ∧ near ≤ y ∧ y ≤ far)) (fun i _ => l.length - (intOf i).toNat)
    case atStart => exact ⟨0, by omega, rfl, Below.refl _ _, fun j hj => absurd hj (by omega)⟩
    case round =>
      obtain ⟨k, hk, rfl, hbw, hfine⟩ := hrel
      obtain ⟨x0, x1, x2, x5, x6, x7⟩ := KW.out _ hbw
      obtain ⟨t0, _, t3⟩ := TW.out _ hbw
      by_cases hlt : k < l.length
      · have ho : k < os.length := by have := HO.out; omega
        have hs : k < ls.length := by have := HS.out; omega
        obtain ⟨p1, p2, rfl, z1⟩ := CO.out _ hbw k ho
        obtain ⟨p3, p4, rfl, z2⟩ := CL.out _ hbw k hs
        have LO : Hid (∀ x, os[k]? = some x → x = os[k]) := fun x hx => by rw [List.getElem?_eq_getElem ho] at hx; exact (Option.some.inj hx).symm
        have LL : Hid (∀ x, ls[k]? = some x → x = ls[k]) := fun x hx => by rw [List.getElem?_eq_getElem hs] at hx; exact (Option.some.inj hx).symm
        generalize os[k] = p at *
        generalize ls[k] = q at *
        have key : decide (p < 0) = true ∨ (decide (p < 0) = false ∧ decide (G < p) = true) ∨ (decide (p < 0) = false ∧ decide (G < p) = false ∧ decide (q < near) = true) ∨ (decide (p < 0) = false ∧ decide (G < p) = false ∧ decide (q < near) = false ∧ decide (far < q) = true) ∨ (decide (p < 0) = false ∧ decide (G < p) = false ∧ decide (q < near) = false ∧ decide (far < q) = false) := by
          cases decide (p < 0) <;> cases decide (G < p) <;> cases decide (q < near) <;> cases decide (far < q) <;> simp
        rcases key with q1 | ⟨q1, q2⟩ | ⟨q1, q2, q3⟩ | ⟨q1, q2, q3, q4⟩ | ⟨q1, q2, q3, q4⟩
        iterate 4
          · go_wp2_with fail
            go_quiet (fail)
            go_wp2_with fail
            refine (lives_any _).mono ?_
            rintro e w3 ⟨rfl, b3⟩
            have b4 := bnext B3 (bdraw hbw nq)
            go_wp2_with fail
            go_ret
            exact ⟨rfl, bnext b4 b3⟩
        · have Q := Lib.hid (show ¬ p < 0 ∧ ¬ G < p ∧ ¬ q < near ∧ ¬ far < q from ⟨of_decide_eq_false q1, of_decide_eq_false q2, of_decide_eq_false q3, of_decide_eq_false q4⟩)
          go_wp2_with fail
          go_quiet (fail)
          go_wp2_with fail
          go_roundw
          case rel =>
            refine ⟨k + 1, by omega, by go_num, bdraw hbw nq, fun j hj x y hx hy => ?_⟩
            by_cases hjk : j < k
            · exact hfine.out j hjk x y hx hy
            · obtain rfl : j = k := by omega
              have e1 := LO.out x hx
              have e2 := LL.out y hy
              have Q2 := Q.out
              omega
          case measure => simp [intOf]; omega
      · obtain rfl : k = l.length := by omega
        obtain ⟨hb0', hb1', hf0', hf1'⟩ : 1 ≤ bit ∧ bit ≤ 1000000 ∧ 0 ≤ far ∧ far ≤ 1000000 := ⟨hb0, hb1, hf0, hf1⟩
        have HS8 := Lib.hid (fun k => sum_8 (bit := bit) (far := far) (g := G) (l.take k) hb0 hb1 hf0 hf1 hG0 hG1 (by simp; omega) (fun n hn => HALL.out n (List.mem_of_mem_take hn)))
        have HP := Lib.hid (fun n hn => slot1_in hb0 hb1 (HALL.out n hn).1 (HALL.out n hn).2)
        have HSN := Lib.hid (fun k (hk : k < l.length) => sumS_snoc bit far G l k hk)
        clear hok hd0 hd1 hlt hb K2 T2 hk R2
        go_wp2_with fail
        clear x0 x1 x2 x5 x6 x7 t0 t3
        have HBW := Lib.hid hbw
        clear hbw
        go_loopw [7, 8] (fun x i wr => ∃ (k : Nat), k ≤ l.length ∧ i = .int .i64 k ∧ Below w2.heap.size w2 wr ∧ ∃ y : Int, x = .int .i64 y ∧ 0 ≤ y ∧ y ≤ sumS bit far G (l.take k)) (fun _ i _ => l.length - (intOf i).toNat)
        case atStart => exact ⟨0, by omega, rfl, HBW.out, 0, rfl, by omega, by simp [sumS]⟩
        case round =>
          obtain ⟨k, hk, rfl, hbw, y, rfl, hy0, hy1⟩ := hrel
          obtain ⟨x0, x1, x2, x5, x6, x7⟩ := KW.out _ hbw
          obtain ⟨t0, _, t3⟩ := TW.out _ hbw
          by_cases hlt : k < l.length
          · have ho : k < os.length := by have := HO.out; omega
            have hs : k < ls.length := by have := HS.out; omega
            obtain ⟨p1, p2, rfl, z1⟩ := CO.out _ hbw k ho
            obtain ⟨p3, p4, rfl, z2⟩ := CL.out _ hbw k hs
            obtain ⟨p5, p6, rfl, z3⟩ := CR.out _ hbw k hlt
            obtain ⟨⟨o0, o1⟩, g0, g1⟩ := hfine.out k hlt os[k] ls[k] (List.getElem?_eq_getElem ho) (List.getElem?_eq_getElem hs)
            obtain ⟨s0, s1⟩ := HS8.out k
            obtain ⟨q0, q1⟩ := HP.out l[k] (List.getElem_mem hlt)
            obtain ⟨r0, r1, r2⟩ := RW.out _ hbw k hlt (by unfold maxLen; omega)
            have HN := Lib.hid (HSN.out k hlt)
            unfold slot1 at r2
            generalize os[k] = p at *
            generalize hq : ls[k] = q at *
            generalize hn : l[k] = n at *
            generalize hS : sumS bit far G (l.take k) = S at *
            have HQ := Lib.hid hq
            have HNN := Lib.hid hn
            have HSS := Lib.hid hS
            clear hq hn hS
            go_wp2_with fail
            go_quiet (fail)
            go_wp2_with fail
            go_quiet (fail)
            by_cases hk0 : 0 < k
            all_goals
              go_wp2_with fail
              clear z3 x0 x1 x2 x5 x6 x7 t0 t3 z1 z2 r0 r1 r2
              go_loopw [11] (fun i wr => ∃ (m : Nat), m ≤ l.length ∧ i = .int .i64 m ∧ Below w2.heap.size w2 wr) (fun i _ => l.length - (intOf i).toNat)
              case atStart => exact ⟨0, by omega, rfl, bdraw hbw _⟩
              case round =>
                obtain ⟨m, hm, rfl, hbw2⟩ := hrel
                obtain ⟨x0, x1, x2, x5, x6, x7⟩ := KW.out _ hbw2
                obtain ⟨t0, _, t3⟩ := TW.out _ hbw2
                obtain ⟨r0, r1, r2⟩ := RW.out _ hbw2 k hlt (by unfold maxLen; omega)
                unfold slot1 at r2
                rw [HSS.out] at r0 r1 r2
                rw [HNN.out] at r2
                obtain ⟨p9, p10, e9, z2⟩ := CL.out _ hbw2 k hs
                cases e9
                rw [HQ.out] at z2
                by_cases hm2 : m < l.length
                · have ho2 : m < os.length := by have := HO.out; omega
                  obtain ⟨p7, p8, e78, z4⟩ := CO.out _ hbw2 m ho2
                  cases e78
                  obtain ⟨⟨o2, o3⟩, _⟩ := hfine.out m hm2 os[m] (ls[m]'(by have := HS.out; omega)) (List.getElem?_eq_getElem ho2) (List.getElem?_eq_getElem (by have := HS.out; omega))
                  generalize os[m] = u at *
                  go_wp2_with fail
                  go_quiet (fail)
                  go_wp2_with fail
                  go_quiet (fail)
                  go_wp2_with fail
                  go_roundw
                  case rel => exact ⟨m + 1, by omega, by go_num, bdraw hbw2 _⟩
                  case measure => simp [intOf]; omega
                · obtain rfl : m = l.length := by omega
                  go_wp2_with fail
                  go_roundw
                  case rel => exact ⟨k + 1, by omega, by go_num, hbw2, S + G + G - p + n * bit, rfl, by omega, by rw [HN.out]; unfold slot1; omega⟩
                  case measure => simp [intOf]; omega
          · obtain rfl : k = l.length := by omega
            go_wp2_with fail
            refine (lives_any _).mono ?_
            rintro e w3 ⟨rfl, b3⟩
            go_wp2_with fail
            go_ret
            exact ⟨rfl, bnext (bnext B3 hbw) b3⟩
  · clear k1
    go_wp2_with fail
    refine (lives_any _).mono ?_
    rintro e w2 ⟨rfl, b2⟩
    go_wp2_with fail
    go_ret
    exact ⟨rfl, bnext (balloc B2 _) b2⟩
end Go.Proofs.Ytppjphelibdlcaa
