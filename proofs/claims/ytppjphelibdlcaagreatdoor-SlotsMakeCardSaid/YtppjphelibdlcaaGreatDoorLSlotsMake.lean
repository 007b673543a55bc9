/-
  The walk of SlotsMake: of any setup, frames and table what may be, what fits, by how much clocks differ, and the least table, are the reference's answers; nothing is changed, and the table is memory of its own.
-/
import Derived.Test.YtppjphelibdlcaaGreatDoorRefMake
import Derived.Test.YtppjphelibdlcaaGreatDoorRefFits16
import Derived.Test.YtppjphelibdlcaaGreatDoorTwinTab
import Derived.Test.YtppjphelibdlcaaGreatDoorTwinI
import Derived.Test.YtppjphelibdlcaaGreatDoorStArgs
import Derived.Deep.MidRow
namespace Go.Proofs.YtppjphelibdlcaaGreatDoor
open Go.RowKit
open Go

/-- A table that is made, here and by the reference. -/
theorem make_both (bit near far drift bad : Int) (l : List Int) : ∃ (er r g : Int) (rs : List SL3), rs.length ≤ 8 ∧
    (∀ (v : Value) (w : World), Rd w v (ints l) → Calls Tryz.prog 7 #[.agg #[.int .i64 bit, .int .i64 near, .int .i64 far, .int .i64 drift, .int .i64 bad], v] w fun e w' => ∃ t, e = .returned (.tuple #[.agg #[t, .int .i64 r, .int .i64 g], .int .i64 er]) ∧ Own w' w.heap.size 64 3 t rs.length (rowsC rs) ∧ Below w.heap.size w w') ∧
    (∀ (v : Value) (w : World), Rd w v (ints l) → Calls Tryz.prog 8 #[.agg #[.int .i64 bit, .int .i64 near, .int .i64 far, .int .i64 drift, .int .i64 bad], v] w fun e w' => ∃ t, e = .returned (.tuple #[.agg #[t, .int .i64 r, .int .i64 g], .int .i64 er]) ∧ RdN 3 w' t (rs.map row3) ∧ Below w.heap.size w w') := by
  have nilN : ∀ w : World, RdN 3 w (.slice none 0 0) (([] : List SL3).map row3) := fun w => ⟨none, 0, rfl, by simp, by simp [maxLen], by simp, by simp, by simp⟩
  cases hm : mayB bit near far drift bad l
  · refine ⟨1, 0, 0, [], by simp, fun v w h => (make_any bit near far drift bad v l w h).mono ?_, fun v w h => (rmake_any bit near far drift bad v l w h).mono ?_⟩
    · rintro e w' ⟨⟨_, rfl⟩ | ⟨h1, _⟩ | ⟨h1, _⟩, b⟩
      · exact ⟨_, rfl, Own.nil none, b⟩
      · rw [hm] at h1; cases h1
      · rw [hm] at h1; cases h1
    · rintro e w' ⟨⟨_, rfl⟩ | ⟨h1, _⟩ | ⟨h1, _⟩, b⟩
      · exact ⟨_, rfl, nilN w', b⟩
      · rw [hm] at h1; cases h1
      · rw [hm] at h1; cases h1
  · by_cases hex : ∃ G : Int, 0 ≤ G ∧ G ≤ 1073741824 ∧ okG bit near far drift l G ∧ ∀ g, 0 ≤ g → okG bit near far drift l g → G ≤ g
    · obtain ⟨G, h0, h1, hok, hmin⟩ := hex
      obtain ⟨hck, ⟨hl1, hl8⟩, hall⟩ := (mayB_iff _ _ _ _ _ _).1 hm
      refine ⟨0, sumS bit far G l, G, rowsS bit far G 0 l, by rw [rowsS_len]; omega, fun v w h => (make_any bit near far drift bad v l w h).mono ?_, fun v w h => (rmake_any bit near far drift bad v l w h).mono ?_⟩
      · rintro e w' ⟨⟨h2, _⟩ | ⟨_, b0, G', hb, g0, g1, gok, gmin, rfl, hh⟩ | ⟨_, hno, _⟩, b⟩
        · rw [hm] at h2; cases h2
        · obtain rfl : G' = G := by
            have := gmin G h0 hok
            have := hmin G' g0 gok
            omega
          refine ⟨_, rfl, ⟨rowsC_len _, .inr ⟨b0, l.length, _, by rw [rowsS_len], by omega, hb, hh, by rw [rowsS_len]; exact Nat.le_refl _, by unfold maxLen; omega, by rw [List.size_toArray, rowsC_len, rowsS_len]; exact Nat.le_refl _, ?_⟩⟩, b⟩
          rw [List.toList_toArray, List.take_of_length_le (by rw [rowsC_len]; exact Nat.le_refl _)]
        · have := hno G h0 hok
          omega
      · rintro e w' ⟨⟨h2, _⟩ | ⟨_, u, G', g0, g1, gok, gmin, rfl, hu⟩ | ⟨_, hno, _⟩, b⟩
        · rw [hm] at h2; cases h2
        · obtain rfl : G' = G := by
            have := gmin G h0 hok
            have := hmin G' g0 gok
            omega
          exact ⟨_, rfl, hu, b⟩
        · have := hno G h0 hok
          omega
    · refine ⟨10, 0, 0, [], by simp, fun v w h => (make_any bit near far drift bad v l w h).mono ?_, fun v w h => (rmake_any bit near far drift bad v l w h).mono ?_⟩
      · rintro e w' ⟨⟨h2, _⟩ | ⟨_, b0, G', hb, g0, g1, gok, gmin, rfl, hh⟩ | ⟨_, hno, rfl⟩, b⟩
        · rw [hm] at h2; cases h2
        · exact absurd ⟨G', g0, g1, gok, gmin⟩ hex
        · exact ⟨_, rfl, Own.nil none, b⟩
      · rintro e w' ⟨⟨h2, _⟩ | ⟨_, u, G', g0, g1, gok, gmin, rfl, hu⟩ | ⟨_, hno, rfl⟩, b⟩
        · rw [hm] at h2; cases h2
        · exact absurd ⟨G', g0, g1, gok, gmin⟩ hex
        · exact ⟨_, rfl, nilN w', b⟩
theorem TwinI.own {w : World} {g base : Nat} {v : Value} {cs : List Int} (h : TwinI w g v cs) (hb : base ≤ g) (hL : cs.length ≤ 1048576) : Own w base 3 1 v cs.length (ints cs) := by
  obtain ⟨rfl, h⟩ := h
  refine ⟨by simp, .inr ⟨g, cs.length + 1, _, rfl, by omega, hb, h, by omega, by unfold maxLen; omega, by simp, ?_⟩⟩
  simp
theorem Own.rdS {w : World} {base : Nat} {v : Value} {rs : List SL3} (h : Own w base 64 3 v rs.length (rowsC rs)) : RdN 3 w v (rs.map row3) := by
  refine Own.rdN (n := rs.length) (e := 64) (base := base) ?_ (fun r hr => by obtain ⟨x, _, rfl⟩ := List.mem_map.1 hr; rfl) (by simp)
  rw [show (rs.map row3).flatten = rowsC rs by simp [rowsC, List.flatMap]]
  exact h
/-- A part of a block's cells. -/
theorem range_row {w : World} {b : Nat} {cs : Array Value} {t : TypeId} {fr : Nat × Nat} (h : w.heap[b]? = some (.cells cs t fr)) (o : Nat) (xs : List Value) (hx : ∀ (j : Nat) (v : Value), xs[j]? = some v → cs[o + j]? = some v) : w.rangeAt b o xs := fun j v hj => (cell_of_row w b (o + j) _ _ _ h).trans (hx j v hj)
theorem agg24 (w : World) : (isAgg 24).run Tryz.prog w = .ok false w := by kernel_rfl
/-- No list that is held shares the room of a new one. -/
theorem ap_of {its : List It} {v : Value} {b : Nat} (h1 : ∀ it ∈ its, ∀ x, it.has x → x < b) (h2 : ∀ x, roomOf v = some x → b ≤ x) : ∀ (i : Nat) (a : It), its[i]? = some a → ∀ x, a.has x → roomOf v ≠ some x := by
  intro i a hi x hx e
  have := h1 a (List.mem_of_getElem? hi) x hx
  have := h2 x e
  omega

set_option maxRecDepth 40000 in
set_option maxHeartbeats 4000000 in
theorem walk_SlotsMake (x : Value) (W : World) (A : Arg Tryz.prog 29 W x) :
    Calls Tryz.prog 3 #[x] W fun e w' => e = .returned (.bool true) ∧ Below W.heap.size W w' := by
  obtain ⟨bit, near, far, drift, bad, v, l, u, rs, r, g, q, rfl, hR, hU, _⟩ := A.setting
  clear A
  have hR0 : Rd W v (ints l) := hR
  have HRv := Lib.hid hR0
  have HUv := Lib.hid hU
  obtain ⟨a, c, rfl, hac, hcm⟩ := hR.shape
  obtain ⟨a3, c3, rfl, hac3, hcm3⟩ := hU.shape
  rw [List.length_map] at *
  unfold maxLen at hcm hcm3
  have B1 := balloc (Below.refl W.heap.size W) (.cells #[.int .i64 bit, .int .i64 near, .int .i64 far, .int .i64 drift, .int .i64 bad, .slice a l.length c, .slice a3 rs.length c3, .int .i64 r, .int .i64 g, .int .i64 q] 29 (0, 0))
  have k0 := heap_alloc_new W (.cells #[.int .i64 bit, .int .i64 near, .int .i64 far, .int .i64 drift, .int .i64 bad, .slice a l.length c, .slice a3 rs.length c3, .int .i64 r, .int .i64 g, .int .i64 q] 29 (0, 0))
  clear hR hR0 hU
  by_cases h1 : 1000 < l.length
  · clear k0
    go_enter Tryz.func3, Tryz.ntmps3
    go_wp2_with fail
    refine (lives_any _).mono ?_
    rintro e w1 ⟨rfl, b1⟩
    go_wp2_with fail
    go_ret
    exact ⟨rfl, bnext B1 b1⟩
  by_cases h2 : 1000 < rs.length
  · clear k0
    go_enter Tryz.func3, Tryz.ntmps3
    go_wp2_with fail
    refine (lives_any _).mono ?_
    rintro e w1 ⟨rfl, b1⟩
    go_wp2_with fail
    go_ret
    exact ⟨rfl, bnext B1 b1⟩
  obtain ⟨er, r2, g2, ts, hts, M1, M2⟩ := make_both bit near far drift bad l
  have HM1 := Lib.hid M1
  have HM2 := Lib.hid M2
  have hL : l.length ≤ 17592186044416 := by omega
  have hLS : rs.length ≤ 1048576 := by omega
  clear M1 M2
  go_enter Tryz.func3, Tryz.ntmps3
  go_wp2_with fail
  generalize W.alloc (.cells #[.int .i64 bit, .int .i64 near, .int .i64 far, .int .i64 drift, .int .i64 bad, .slice a l.length c, .slice a3 rs.length c3, .int .i64 r, .int .i64 g, .int .i64 q] 29 (0, 0)) = w1 at *
  have K1 := Lib.hid k0
  clear k0
  refine (twinI_any _ l w1 (HRv.out.below B1) hL).mono ?_
  rintro e w2 ⟨vb, rfl, b2, t2⟩
  have B2 := B1.trans (b2.mono B1.size)
  have ht2 := t2
  obtain ⟨rfl, _⟩ := t2
  have HT2 := Lib.hid ht2
  clear ht2
  have k2 := (b2.block _ (lt_of_block K1.out)).trans K1.out
  have K2 := Lib.hid k2
  have x6 : w2.cell? ⟨W.heap.size, 6, none⟩ = some (.slice a3 rs.length c3) := cell_of_row _ _ 6 _ _ _ k2
  have x7 : w2.cell? ⟨W.heap.size, 7, none⟩ = some (.int .i64 r) := cell_of_row _ _ 7 _ _ _ k2
  have x8 : w2.cell? ⟨W.heap.size, 8, none⟩ = some (.int .i64 g) := cell_of_row _ _ 8 _ _ _ k2
  clear k2
  go_wp2_with fail
  refine (twintab_any _ rs r g w2 (HUv.out.below B2) hLS).mono ?_
  rintro e w3 ⟨vu, gu, rfl, b3, hgu, t3⟩
  have ht3 := t3
  obtain ⟨rfl, _⟩ := t3
  have HT3 := Lib.hid ht3
  clear ht3 x6 x7 x8
  have B3 := bnext B2 b3
  have K3 := Lib.hid ((b3.block _ (lt_of_block K2.out)).trans K2.out)
  have BT := balloc (Below.refl w3.heap.size w3) (.cells #[.slice (some ⟨gu, 0, none⟩) rs.length (rs.length + 1), .int .i64 r, .int .i64 g] 27 (0, 0))
  have kx := (BT.block _ (lt_of_block K3.out)).trans K3.out
  have KX := Lib.hid kx
  have KU := Lib.hid (heap_alloc_new w3 (.cells #[.slice (some ⟨gu, 0, none⟩) rs.length (rs.length + 1), .int .i64 r, .int .i64 g] 27 (0, 0)))
  have y0 : (w3.alloc (.cells #[.slice (some ⟨gu, 0, none⟩) rs.length (rs.length + 1), .int .i64 r, .int .i64 g] 27 (0, 0))).cell? ⟨W.heap.size, 0, none⟩ = some (.int .i64 bit) := cell_of_row _ _ 0 _ _ _ kx
  have y1 : (w3.alloc (.cells #[.slice (some ⟨gu, 0, none⟩) rs.length (rs.length + 1), .int .i64 r, .int .i64 g] 27 (0, 0))).cell? ⟨W.heap.size, 1, none⟩ = some (.int .i64 near) := cell_of_row _ _ 1 _ _ _ kx
  have y2 : (w3.alloc (.cells #[.slice (some ⟨gu, 0, none⟩) rs.length (rs.length + 1), .int .i64 r, .int .i64 g] 27 (0, 0))).cell? ⟨W.heap.size, 2, none⟩ = some (.int .i64 far) := cell_of_row _ _ 2 _ _ _ kx
  have y3 : (w3.alloc (.cells #[.slice (some ⟨gu, 0, none⟩) rs.length (rs.length + 1), .int .i64 r, .int .i64 g] 27 (0, 0))).cell? ⟨W.heap.size, 3, none⟩ = some (.int .i64 drift) := cell_of_row _ _ 3 _ _ _ kx
  have y4 : (w3.alloc (.cells #[.slice (some ⟨gu, 0, none⟩) rs.length (rs.length + 1), .int .i64 r, .int .i64 g] 27 (0, 0))).cell? ⟨W.heap.size, 4, none⟩ = some (.int .i64 bad) := cell_of_row _ _ 4 _ _ _ kx
  clear kx
  go_wp2_with fail
  have B4 := bnext B3 BT
  have T24 := HT2.out.below (bnext b3 BT)
  have HT4 := Lib.hid T24
  have HT5 := Lib.hid (HT3.out.below BT)
  have hs2 : w1.heap.size < w2.heap.size := lt_of_block HT2.out.2
  have hgu2 : gu < w3.heap.size := lt_of_block HT3.out.2
  have hs3 := b3.size
  have hg0 := B1.size
  generalize w3.alloc (.cells #[.slice (some ⟨gu, 0, none⟩) rs.length (rs.length + 1), .int .i64 r, .int .i64 g] 27 (0, 0)) = w4 at *
  generalize hg3 : w3.heap.size = g3 at *
  have hg4 : g3 < w4.heap.size := lt_of_block KU.out
  clear y0 y1 y2 y3 y4 BT HT2 HT3
  refine Calls.mono (HM1.out _ w4 (T24.rd hL)) ?_
  rintro e w5 ⟨t, rfl, own5, b5⟩
  obtain ⟨at_, ct, rfl, hct, hcm5⟩ := own5.shape
  have B5 := bnext B4 b5
  have BX := bnext b5 (balloc (Below.refl w5.heap.size w5) (.cells #[.slice at_ ts.length ct, .int .i64 r2, .int .i64 g2] 27 (0, 0)))
  have kx := (BX.block _ (lt_of_block KX.out)).trans KX.out
  have KX5 := Lib.hid kx
  have KU5 := Lib.hid ((BX.block _ (lt_of_block KU.out)).trans KU.out)
  have KT5 := Lib.hid (heap_alloc_new w5 (.cells #[.slice at_ ts.length ct, .int .i64 r2, .int .i64 g2] 27 (0, 0)))
  have y0 : (w5.alloc (.cells #[.slice at_ ts.length ct, .int .i64 r2, .int .i64 g2] 27 (0, 0))).cell? ⟨W.heap.size, 0, none⟩ = some (.int .i64 bit) := cell_of_row _ _ 0 _ _ _ kx
  have y1 : (w5.alloc (.cells #[.slice at_ ts.length ct, .int .i64 r2, .int .i64 g2] 27 (0, 0))).cell? ⟨W.heap.size, 1, none⟩ = some (.int .i64 near) := cell_of_row _ _ 1 _ _ _ kx
  have y2 : (w5.alloc (.cells #[.slice at_ ts.length ct, .int .i64 r2, .int .i64 g2] 27 (0, 0))).cell? ⟨W.heap.size, 2, none⟩ = some (.int .i64 far) := cell_of_row _ _ 2 _ _ _ kx
  have y3 : (w5.alloc (.cells #[.slice at_ ts.length ct, .int .i64 r2, .int .i64 g2] 27 (0, 0))).cell? ⟨W.heap.size, 3, none⟩ = some (.int .i64 drift) := cell_of_row _ _ 3 _ _ _ kx
  have y4 : (w5.alloc (.cells #[.slice at_ ts.length ct, .int .i64 r2, .int .i64 g2] 27 (0, 0))).cell? ⟨W.heap.size, 4, none⟩ = some (.int .i64 bad) := cell_of_row _ _ 4 _ _ _ kx
  have y5 : (w5.alloc (.cells #[.slice at_ ts.length ct, .int .i64 r2, .int .i64 g2] 27 (0, 0))).cell? ⟨W.heap.size, 5, none⟩ = some (.slice a l.length c) := cell_of_row _ _ 5 _ _ _ kx
  clear kx
  go_wp2_with fail
  have B6 := bnext B4 BX
  have HO6 := Lib.hid (own5.alloc (.cells #[.slice at_ ts.length ct, .int .i64 r2, .int .i64 g2] 27 (0, 0)))
  have HR5 := Lib.hid (fun y (h : roomOf (.slice at_ ts.length ct) = some y) => And.intro (own5.room h).1 (own5.lt h))
  have HT6 := Lib.hid (HT4.out.below BX)
  have HT7 := Lib.hid (HT5.out.below BX)
  have hs5 := b5.size
  clear T24 own5 b5 BX B5 HT4 HT5 KX KU y0 y1 y2 y3 y4 y5
  generalize w5.alloc (.cells #[.slice at_ ts.length ct, .int .i64 r2, .int .i64 g2] 27 (0, 0)) = w6 at *
  generalize w5.heap.size = g5 at *
  have hg6 : g5 < w6.heap.size := lt_of_block KT5.out
  refine Calls.mono (HM2.out _ w6 (HRv.out.below B6)) ?_
  rintro e w7 ⟨t2, rfl, rd7, b7⟩
  obtain ⟨av, cv, rfl, hcv, hcm7⟩ := rd7.shape
  rw [List.length_map] at *
  have BX := bnext b7 (balloc (Below.refl w7.heap.size w7) (.cells #[.slice av ts.length cv, .int .i64 r2, .int .i64 g2] 27 (0, 0)))
  have KX7 := Lib.hid ((BX.block _ (lt_of_block KX5.out)).trans KX5.out)
  have KU7 := Lib.hid ((BX.block _ (lt_of_block KU5.out)).trans KU5.out)
  have KT7 := Lib.hid ((BX.block _ (lt_of_block KT5.out)).trans KT5.out)
  have KV7 := Lib.hid (heap_alloc_new w7 (.cells #[.slice av ts.length cv, .int .i64 r2, .int .i64 g2] 27 (0, 0)))
  go_wp2_with fail
  have B8 := bnext B6 BX
  have HO8 := Lib.hid (HO6.out.below BX)
  have HT8 := Lib.hid (HT6.out.below BX)
  have HT9 := Lib.hid (HT7.out.below BX)
  have HV8 := Lib.hid (rd7.below (balloc (Below.refl w7.heap.size w7) (.cells #[.slice av ts.length cv, .int .i64 r2, .int .i64 g2] 27 (0, 0))))
  clear rd7 b7 BX B6 HO6 HT6 HT7 KX5 KU5 KT5
  generalize w7.alloc (.cells #[.slice av ts.length cv, .int .i64 r2, .int .i64 g2] 27 (0, 0)) = wr at *
  generalize w7.heap.size = g7 at *
  have HTI := Lib.hid (HT8.out.rd hL)
  have HTS := Lib.hid (HT9.out.rd hLS)
  obtain ⟨Q, hQ⟩ : ∃ Q, Q = chkB bit near far drift bad := ⟨_, rfl⟩
  obtain ⟨S, hS⟩ : ∃ S, S = skewI bit near far drift bad q := ⟨_, rfl⟩
  obtain ⟨F, hF⟩ : ∃ F, F = fitsB bit near far drift bad l rs r g := ⟨_, rfl⟩
  have L0 := Lib.hid (fun (w' : World) (hw : Below wr.heap.size wr w') => run_loadVar_mid (P := Tryz.prog) w' W.heap.size 0 23 [.int .i64 bit, .int .i64 near, .int .i64 far, .int .i64 drift, .int .i64 bad] _ (range_row ((hw.block _ (lt_of_block KX7.out)).trans KX7.out) 0 _ (by
    intro j v hv
    match j, hv with
    | 0, hv => cases hv; rfl
    | 1, hv => cases hv; rfl
    | 2, hv => cases hv; rfl
    | 3, hv => cases hv; rfl
    | 4, hv => cases hv; rfl)) Tryz.underlying23 rfl info23)
  have L1 := Lib.hid (fun (w' : World) (hw : Below wr.heap.size wr w') => run_loadVar_mid (P := Tryz.prog) w' W.heap.size 6 27 [.slice a3 rs.length c3, .int .i64 r, .int .i64 g] _ (range_row ((hw.block _ (lt_of_block KX7.out)).trans KX7.out) 6 _ (by
    intro j v hv
    match j, hv with
    | 0, hv => cases hv; rfl
    | 1, hv => cases hv; rfl
    | 2, hv => cases hv; rfl)) Tryz.underlying27 rfl info29)
  have L2 := Lib.hid (fun (w' : World) (hw : Below wr.heap.size wr w') => run_loadVar_cell (j := 5) ((hw.block _ (lt_of_block KX7.out)).trans KX7.out) rfl (agg24 w'))
  have L3 := Lib.hid (fun (w' : World) (hw : Below wr.heap.size wr w') => run_loadVar_cell (j := 9) ((hw.block _ (lt_of_block KX7.out)).trans KX7.out) rfl (agg3 w'))
  have L4 := Lib.hid (fun (w' : World) (hw : Below wr.heap.size wr w') => run_loadVar_row w' _ _ _ _ _ _ ((hw.block _ (lt_of_block KU7.out)).trans KU7.out) Tryz.underlying27 rfl info29)
  have L5 := Lib.hid (fun (w' : World) (hw : Below wr.heap.size wr w') => run_loadVar_row w' _ _ _ _ _ _ ((hw.block _ (lt_of_block KT7.out)).trans KT7.out) Tryz.underlying27 rfl info29)
  have L6 := Lib.hid (fun (w' : World) (hw : Below wr.heap.size wr w') => run_loadVar_row w' _ _ _ _ _ _ ((hw.block _ (lt_of_block KV7.out)).trans KV7.out) Tryz.underlying27 rfl info29)
  have C0 := Lib.hid (fun (w' : World) (hw : Below wr.heap.size wr w') => (same_tab _ _ ts r2 g2 w' (Own.rdS (HO8.out.below hw)) (HV8.out.below hw)).mono fun e w'' ⟨he, h⟩ => And.intro he (bnext hw h))
  have C1 := Lib.hid (fun (w' : World) (hw : Below wr.heap.size wr w') => (check_any bit near far drift bad w').mono fun e w'' ⟨he, h⟩ => And.intro (he.trans (by rw [← hQ] : _ = Ending.returned (.bool Q))) (bnext hw h))
  have C2 := Lib.hid (fun (w' : World) (hw : Below wr.heap.size wr w') => (rcheck_any bit near far drift bad w').mono fun e w'' ⟨he, h⟩ => And.intro (he.trans (by rw [← hQ] : _ = Ending.returned (.bool Q))) (bnext hw h))
  have C3 := Lib.hid (fun (w' : World) (hw : Below wr.heap.size wr w') => (skew_any bit near far drift bad q w').mono fun e w'' ⟨he, h⟩ => And.intro (he.trans (by rw [← hS] : _ = Ending.returned (.int .i64 S))) (bnext hw h))
  have C4 := Lib.hid (fun (w' : World) (hw : Below wr.heap.size wr w') => (rskew_any bit near far drift bad q w').mono fun e w'' ⟨he, h⟩ => And.intro (he.trans (by rw [← hS] : _ = Ending.returned (.int .i64 S))) (bnext hw h))
  have C5 := Lib.hid (fun (w' : World) (hw : Below wr.heap.size wr w') => (fits_any bit near far drift bad _ l _ rs r g w' (HTI.out.below hw) (HTS.out.below hw)).mono fun e w'' ⟨he, h⟩ => And.intro (he.trans (by rw [← hF] : _ = Ending.returned (.bool F))) (bnext hw h))
  have C6 := Lib.hid (fun (w' : World) (hw : Below wr.heap.size wr w') => (rfits_any bit near far drift bad _ l _ rs r g w' (HRv.out.below (bnext B8 hw)) (HUv.out.below (bnext B8 hw))).mono fun e w'' ⟨he, h⟩ => And.intro (he.trans (by rw [← hF] : _ = Ending.returned (.bool F))) (bnext hw h))
  have C7 := Lib.hid (fun (w' : World) (hw : Below wr.heap.size wr w') => (leftI_any w1.heap.size _ _ l w' (HT8.out.below hw) (HRv.out.below (bnext B8 hw)) hL).mono fun e w'' ⟨he, n, h⟩ => And.intro he (h ▸ bdraw hw n : Below wr.heap.size wr w''))
  have C8 := Lib.hid (fun (w' : World) (hw : Below wr.heap.size wr w') => (lefttab_any gu _ _ rs r g w' (HT9.out.below hw) (HUv.out.below (bnext B8 hw)) hLS).mono fun e w'' ⟨he, h⟩ => And.intro he (bnext hw h))
  clear hQ hS hF
  refine wp_region_quietC (fun w' => Below wr.heap.size wr w') (by kernel_rfl) (by kernel_rfl) (bdraw (Below.refl _ _) 1) ?_
  repeat (first
    | go_big_quiet_skip
    | (go_big_quiet_want
       first
        | (refine quiet_load _ _ rfl _ rfl _ (L0.out) ?_; go_simp; go_big_quiet_on)
        | (refine quiet_load _ _ rfl _ rfl _ (L1.out) ?_; go_simp; go_big_quiet_on)
        | (refine quiet_load _ _ rfl _ rfl _ (L2.out) ?_; go_simp; go_big_quiet_on)
        | (refine quiet_load _ _ rfl _ rfl _ (L3.out) ?_; go_simp; go_big_quiet_on)
        | (refine quiet_load _ _ rfl _ rfl _ (L4.out) ?_; go_simp; go_big_quiet_on)
        | (refine quiet_load _ _ rfl _ rfl _ (L5.out) ?_; go_simp; go_big_quiet_on)
        | (refine quiet_load _ _ rfl _ rfl _ (L6.out) ?_; go_simp; go_big_quiet_on)
        | (go_big_quiet_op; go_big_quiet_on)
        | (go_big_quiet_op; apply Exists.intro; refine ⟨fun w' hw' => ?_, ?_⟩; (first | with_reducible exact rfl | with_reducible exact C0.out w' hw' | with_reducible exact C1.out w' hw' | with_reducible exact C2.out w' hw' | with_reducible exact C3.out w' hw' | with_reducible exact C4.out w' hw' | with_reducible exact C5.out w' hw' | with_reducible exact C6.out w' hw' | with_reducible exact C7.out w' hw' | with_reducible exact C8.out w' hw'); go_big_quiet_on)))
  refine wpQuiet_nil ?_
  intro w9 hw9
  have KU9 := Lib.hid ((hw9.block _ (lt_of_block KU7.out)).trans KU7.out)
  have KT9 := Lib.hid ((hw9.block _ (lt_of_block KT7.out)).trans KT7.out)
  have B9 := bnext B8 hw9
  have HB9 := Lib.hid ((HT8.out.own (base := W.heap.size) hg0 (by omega)).below hw9)
  have HU9 := Lib.hid ((HT9.out.own (base := W.heap.size) (by omega) hLS).below hw9)
  have HT9' := Lib.hid ((HO8.out.below hw9).mono (base' := W.heap.size) B4.size)
  clear hw9 L0 L1 L2 L3 L4 L5 L6 C0 C1 C2 C3 C4 C5 C6 C7 C8 KU7 KT7 KV7 KX7 HT8 HT9 HO8 HV8 HTI HTS B8
  have BK : BkIS W.heap.size w9.heap.size 0 [] [] (w9.alloc (.cells #[.int .i64 0, .slice none 0 0, .slice none 0 0, .slice none 0 0, .slice none 0 0, .slice none 0 0, .slice none 0 0, .slice none 0 0, .slice none 0 0, .slice none 0 0, .slice none 0 0, .slice none 0 0, .slice none 0 0, .slice none 0 0, .slice none 0 0, .slice none 0 0, .slice none 0 0, .slice none 0 0] 59 (0, 0))) := bkIS_start W.heap.size w9 B9.size
  have bA := balloc (Below.refl w9.heap.size w9) (.cells #[.int .i64 0, .slice none 0 0, .slice none 0 0, .slice none 0 0, .slice none 0 0, .slice none 0 0, .slice none 0 0, .slice none 0 0, .slice none 0 0, .slice none 0 0, .slice none 0 0, .slice none 0 0, .slice none 0 0, .slice none 0 0, .slice none 0 0, .slice none 0 0, .slice none 0 0, .slice none 0 0] 59 (0, 0))
  have HB := Lib.hid (HB9.out.below bA)
  have HU := Lib.hid (HU9.out.below bA)
  have HT := Lib.hid (HT9'.out.below bA)
  have KUA := Lib.hid ((bA.block _ (lt_of_block KU9.out)).trans KU9.out)
  have KTA := Lib.hid ((bA.block _ (lt_of_block KT9.out)).trans KT9.out)
  have BA := Lib.hid (bnext B9 bA)
  go_wp2_with fail
  clear bA HB9 HU9 HT9' KU9 KT9 B9
  generalize w9.alloc (.cells #[.int .i64 0, .slice none 0 0, .slice none 0 0, .slice none 0 0, .slice none 0 0, .slice none 0 0, .slice none 0 0, .slice none 0 0, .slice none 0 0, .slice none 0 0, .slice none 0 0, .slice none 0 0, .slice none 0 0, .slice none 0 0, .slice none 0 0, .slice none 0 0, .slice none 0 0, .slice none 0 0] 59 (0, 0)) = w10 at *
  generalize w9.heap.size = gb at *
  refine Calls.mono (bkIS_keepInt BK (by decide) (by simp) HB.out (by omega) (by simp)) ?_
  clear BK
  rintro e w11 ⟨rfl, K1', q1⟩
  have ku := q1.keep KUA.out (by decide)
  have KT11 := Lib.hid (q1.keep KTA.out (by decide))
  obtain ⟨f0, f1, f2⟩ := cells3 ku
  go_wp2_with fail
  clear f0 f1 f2 ku
  refine Calls.mono (bkIS_table K1' r g (by decide) (by simp) (HU.out.away q1 (by decide)) (by omega) (by simp)) ?_
  rintro e w12 ⟨rfl, K2', q2⟩
  obtain ⟨f0, f1, f2⟩ := cells3 (q2.keep KT11.out (by decide))
  go_wp2_with fail
  clear f0 f1 f2
  refine Calls.mono (bkIS_table K2' r2 g2 (by decide) (by simp) ((HT.out.away q1 (by decide)).away q2 (by decide)) (by omega) ?_) ?_
  · refine ap_of (b := w4.heap.size) ?_ fun y hy => (HR5.out y hy).1
    intro it hit y hy
    simp at hit
    subst hit
    rcases hy with hy | hy
    · rw [room_lit _ _ _ (by omega)] at hy
      cases hy
      show gu < w4.heap.size
      omega
    · cases hy
  rintro e w13 ⟨rfl, K3', q3⟩
  go_wp2_with fail
  refine Calls.mono (bkIS_apart K3') ?_
  rintro e w14 ⟨rfl, bZ⟩
  go_wp2_with fail
  refine (lives_any _).mono ?_
  rintro e w15 ⟨rfl, b15⟩
  go_wp2_with fail
  go_ret
  have z1 : Below W.heap.size w10 w11 := TnT.toBelow q1 BA.out.size
  have z2 : Below W.heap.size w11 w12 := TnT.toBelow q2 (Nat.le_trans BA.out.size z1.size)
  have z3 : Below W.heap.size w12 w13 := TnT.toBelow q3 (Nat.le_trans BA.out.size (Nat.le_trans z1.size z2.size))
  exact ⟨rfl, bnext ((((BA.out.trans z1).trans z2).trans z3).trans bZ) b15⟩
end Go.Proofs.YtppjphelibdlcaaGreatDoor
