/-
  The walk of belfryref03.Get: the frame that bytes are.
-/
import Derived.Test.YtckpeclkkmapiaaGreatDoorRefGet
import Derived.Test.YtckpeclkkmapiaaGreatDoorRefFrm
import Derived.Test.YtckpeclkkmapiaaGreatDoorFrmGet
import Derived.Laws.BytesArg
import Derived.Laws.Strings
namespace Go.Proofs.YtckpeclkkmapiaaGreatDoor
open Go.RowKit
open Go

theorem strOf_inj {a b : List Nat} (ha : NB a) (hb : NB b) (h : strOfNums (iN a) = strOfNums (iN b)) : a = b := by
  have h1 := congrArg (fun s : ByteArray => s.data.toList) h
  simp only [strOfNums_data] at h1
  simp only [iN, List.map_map] at h1
  clear h
  induction a generalizing b with
  | nil =>
    cases b with
    | nil => rfl
    | cons y b => simp at h1
  | cons x a ih =>
    cases b with
    | nil => simp at h1
    | cons y b =>
      simp only [List.map_cons, List.cons.injEq, Function.comp] at h1
      have hx := ha x (by simp)
      have hy := hb y (by simp)
      have e := congrArg UInt8.toNat h1.1
      simp only [Int.toNat_natCast, UInt8.toNat_ofNat'] at e
      rw [Nat.mod_eq_of_lt (by omega), Nat.mod_eq_of_lt (by omega)] at e
      rw [e, ih (fun c hc => ha c (by simp [hc])) (fun c hc => hb c (by simp [hc])) h1.2]
theorem str_beq {a b : List Nat} (ha : NB a) (hb : NB b) : ((strOfNums (iN a)).toList == (strOfNums (iN b)).toList) = decide (a = b) := by
  rw [ByteArray.toList_eq, ByteArray.toList_eq]
  by_cases h : a = b
  · subst h
    simp
  · rw [decide_eq_false h, beq_eq_false_iff_ne]
    intro e
    refine h (strOf_inj ha hb ?_)
    cases hx : strOfNums (iN a)
    cases hy : strOfNums (iN b)
    rw [hx, hy] at e
    simp only at e
    congr 1
    exact Array.toList_inj.1 e
/-- Bytes as a text. -/
theorem conv_rd {w : World} {a : Option Addr} {n c : Nat} {bs : List Nat} (h : Rd w (.slice a n c) (by8 (iN bs))) (hn : 0 < n) (src dst : TypeId) (hs : Tryz.prog.underlying src = some (.slice 5)) (hd : Tryz.prog.underlying dst = some .string) :
    (convert src dst (.slice a n c)).run Tryz.prog w = .ok (.string (strOfNums (iN bs))) w := by
  obtain ⟨b, o, rfl⟩ := h.some hn
  obtain ⟨a', c', hv, _, _, _, hcell⟩ := h
  simp only [Value.slice.injEq, List.length_map] at hv
  obtain ⟨rfl, hn', rfl⟩ := hv
  refine run_convert_bytes_arg w src 5 hs Tryz.underlying5 b o n c (iN bs) (by simp [hn']) (fun i hi => ?_) dst hd
  obtain ⟨b', o', hb, hc⟩ := hcell i (.int .u8 ((iN bs).getD i 0)) (by
    have : i < bs.length := by omega
    simp [by8, iN, this])
  cases hb
  exact hc

/-- What comes of bytes. -/
def RGetP (bs : List Nat) (w : World) (e : Ending) (w' : World) : Prop :=
  Below w.heap.size w w' ∧ ((errOf bs = 0 ∧ ∃ u, e = .returned (.tuple #[frV (frOf bs).st (frOf bs).rd (frOf bs).mem (frOf bs).md u, .int .i64 0]) ∧ Rd w' u (by8 (iN (frOf bs).pl))) ∨
    (errOf bs ≠ 0 ∧ e = .returned (.tuple #[noFr, .int .i64 (errOf bs)])))
set_option maxRecDepth 20000 in
set_option maxHeartbeats 4000000 in
theorem rfget_long (v : Value) (bs : List Nat) (w : World) (h : Rd w v (by8 (iN bs))) (hb : NB bs) (hl : 9 + getN bs 60 12 + 4 ≤ bs.length) (hm : bs.length ≤ 140737488351232) :
    Calls Tryz.prog 26 #[v] w (RGetP bs w) := by
  have HV := Lib.hid h
  obtain ⟨a, c, rfl, hc, hcm, hn, hcell⟩ := h
  simp only [List.length_map] at *
  unfold maxLen at hcm
  clear hcell hn
  have HB := Lib.hid hb
  have HERR := Lib.hid (err_long hl)
  have hn0 := getN_lt bs 60 12
  have hn1 := getN_lt bs 0 4
  have hn2 := getN_lt bs 4 32
  have hn3 := getN_lt bs 36 8
  have hn4 := getN_lt bs 44 16
  have h13 : 13 ≤ bs.length := by omega
  have N0 := Lib.hid (fun w (b : Rd w (.slice a bs.length c) (by8 (iN bs))) => rnum_ok (.slice a bs.length c) bs 60 12 w b hb (by decide) (by omega) hm)
  have N1 := Lib.hid (fun w (b : Rd w (.slice a bs.length c) (by8 (iN bs))) => rnum_ok (.slice a bs.length c) bs 0 4 w b hb (by decide) (by omega) hm)
  have N2 := Lib.hid (fun w (b : Rd w (.slice a bs.length c) (by8 (iN bs))) => rnum_ok (.slice a bs.length c) bs 4 32 w b hb (by decide) (by omega) hm)
  have N3 := Lib.hid (fun w (b : Rd w (.slice a bs.length c) (by8 (iN bs))) => rnum_ok (.slice a bs.length c) bs 36 8 w b hb (by decide) (by omega) hm)
  have N4 := Lib.hid (fun w (b : Rd w (.slice a bs.length c) (by8 (iN bs))) => rnum_ok (.slice a bs.length c) bs 44 16 w b hb (by decide) (by omega) hm)
  have HBODY := Lib.hid (body_fr hb (show 9 + getN bs 60 12 ≤ bs.length by omega))
  have HFR : Hid (frOf bs = ⟨getN bs 0 4, getN bs 4 32, getN bs 36 8, getN bs 44 16, (bs.drop 9).take (getN bs 60 12)⟩) := Lib.hid rfl
  clear hb
  generalize getN bs 60 12 = n at *
  generalize getN bs 0 4 = st at *
  generalize getN bs 4 32 = rd at *
  generalize getN bs 36 8 = mem at *
  generalize getN bs 44 16 = md at *
  simp only [Nat.reducePow] at hn0 hn1 hn2 hn3 hn4
  go_enter Tryz.func26, Tryz.ntmps26
  have B1 := balloc (Below.refl w.heap.size w) zF
  have k1 := heap_alloc_new w zF
  have hs1 : (w.alloc zF).heap.size = w.heap.size + 1 := by simp
  go_wp2_with fail
  generalize w.alloc zF = w1 at *
  refine Calls.mono (N0.out _ (HV.out.below B1)) ?_
  rintro e v0 ⟨rfl, rfl⟩
  go_wp2_with fail
  refine Calls.mono (N1.out _ (HV.out.below B1)) ?_
  rintro e v1 ⟨rfl, rfl⟩
  go_wp2_with fail
  refine Calls.mono (N2.out _ (HV.out.below B1)) ?_
  rintro e v2 ⟨rfl, rfl⟩
  go_wp2_with fail
  refine Calls.mono (N3.out _ (HV.out.below B1)) ?_
  rintro e v3 ⟨rfl, rfl⟩
  go_wp2_with fail
  refine Calls.mono (N4.out _ (HV.out.below B1)) ?_
  rintro e v4 ⟨rfl, rfl⟩
  go_wp2_with fail
  have k2 := (heap_alloc_old (h := lt_of_block k1) w1 (.cells #[.int .i64 st, .int .u32 rd, .int .u8 mem, .int .u16 md, .slice none 0 0] 65 (0, 0))).trans k1
  have f2 := heap_alloc_new w1 (.cells #[.int .i64 st, .int .u32 rd, .int .u8 mem, .int .u16 md, .slice none 0 0] 65 (0, 0))
  have B2 := balloc B1 (.cells #[.int .i64 st, .int .u32 rd, .int .u8 mem, .int .u16 md, .slice none 0 0] 65 (0, 0))
  rw [hs1] at f2
  have hs2 : (w1.alloc (.cells #[.int .i64 st, .int .u32 rd, .int .u8 mem, .int .u16 md, .slice none 0 0] 65 (0, 0))).heap.size = w.heap.size + 2 := by simp [hs1]
  generalize w1.alloc (.cells #[.int .i64 st, .int .u32 rd, .int .u8 mem, .int .u16 md, .slice none 0 0] 65 (0, 0)) = w2 at *
  obtain ⟨b, o, rfl⟩ := HV.out.some (by omega)
  have HSUB := Lib.hid (show Rd w2.drew (.slice (some ⟨b, o + 9, none⟩) n (c - 9)) (by8 (iN ((bs.drop 9).take n))) from by
    have := ((HV.out.below B2).below (bdraw (Below.refl _ _) 1)).sub 9 n (by omega)
    rw [← List.map_drop, ← List.map_take, ← List.map_drop, ← List.map_take] at this
    exact this)
  obtain ⟨i0, hi, hz0, hz1, hz2⟩ := info_parts info5
  have x4 : w2.cell? ⟨w.heap.size + 1, 4, none⟩ = some (.slice none 0 0) := (frame_cells f2).2.2.2.2
  have t0 : (0 : Int) ≤ 9 + n := by omega
  have t1 : 9 + (n : Int) ≤ (c : Int) := by omega
  have t2 : (9 : Int) ≤ 9 + n := by omega
  have t3 : ¬ c = 9 := by omega
  have t4 : (9 + (n : Int)).toNat = 9 + n := by omega
  have tw : IntKind.i64.wrap (9 + (n : Int)) = 9 + n := by rw [IntKind.wrap_i64]; omega
  have HPL : Hid (((bs.drop 9).take n).length = n) := by unfold Hid; rw [List.length_take, List.length_drop]; omega
  have HBB : Hid (w.heap.size ≤ w2.drew.heap.size) := Lib.hid B2.size
  have HLAST : Hid (∀ (w5 : World), w2.drew.grownBy w5 (Value.slice none 0 0).ownBlock → w5.heap[w.heap.size + 1]? = some (.cells #[.int .i64 st, .int .u32 rd, .int .u8 mem, .int .u16 md, .slice none 0 0] 65 (0, 0)) ∧ w5.heap[w.heap.size]? = some zF ∧ Below w.heap.size w w5) := by
    intro w5 g5
    exact ⟨(g5.block _ (lt_of_block f2) (by simp [Value.ownBlock])).trans f2, (g5.block _ (lt_of_block k2) (by simp [Value.ownBlock])).trans k2, (bdraw B2 1).grown g5 B2.size (by simp [Value.ownBlock])⟩
  have HSH : Hid (∀ (v5 : Value) (w5 : World), w5.ownsRow w.heap.size 5 1 v5 (0 + (by8 (iN ((bs.drop 9).take n))).length) ([] ++ by8 (iN ((bs.drop 9).take n))) → w5.ownsRow w.heap.size 5 1 v5 n (by8 (iN ((bs.drop 9).take n)))) := by
    intro v5 w5 h
    have e : (by8 (iN ((bs.drop 9).take n))).length = n := by
      have := HPL.out
      simp only [by8, iN, List.length_map, this]
    rwa [e, Nat.zero_add, List.nil_append] at h
  clear k1 k2 f2 B1
  go_region_law (refine step_append_rd _ (by rfl) _ _ _ (by rfl) w.heap.size 5 i0 (.int .u8 0) 1 Tryz.underlying22 hi hz0 hz1 hz2 rfl (.slice none 0 0) 0 [] (by rfl) (World.ownsRow_nil _ _ _ _) _ (by8 (iN ((bs.drop 9).take n))) (by rfl) HSUB.out (oc8 _ _) (by have := HPL.out; simp only [by8, iN, List.length_map, this]; unfold maxLen; omega) (by have := HPL.out; simp only [by8, iN, List.length_map, this]; omega) HBB.out ?_; intro v5 w5 o5 g5 s5; have o6 := HSH.out v5 w5 o5; obtain ⟨a5, c5, rfl⟩ := owns_shape o6; have E0 := HLAST.out w5 g5; have E1 := (frame_cells E0.1).2.2.2.2; have E2 := frozen_of_row _ _ 4 _ _ E0.1)
  have hgf := Go.heap_setCell_same w5 (w.heap.size + 1) 4 _ _ (.slice a5 n c5) E0.1
  have hgz : (w5.setCell ⟨w.heap.size + 1, 4, none⟩ (.slice a5 n c5)).heap[w.heap.size]? = some zF := (Below.heap_setCell w5 ⟨w.heap.size + 1, 4, none⟩ (.slice a5 n c5) w.heap.size (by simp)).trans E0.2.1
  have hbel : Below w.heap.size w (w5.setCell ⟨w.heap.size + 1, 4, none⟩ (.slice a5 n c5)) := below_put E0.2.2 (by omega) 4 _
  have hown : (w5.setCell ⟨w.heap.size + 1, 4, none⟩ (.slice a5 n c5)).ownsRow w.heap.size 5 1 (.slice a5 n c5) n (by8 (iN ((bs.drop 9).take n))) := ownsRow_kept o6 fun g hg => Below.heap_setCell w5 ⟨w.heap.size + 1, 4, none⟩ _ g (by
    rintro rfl
    obtain ⟨_, c', hc'⟩ := owns_block o6 _ hg
    have := E0.1.symm.trans hc'
    simp at this)
  generalize w5.setCell ⟨w.heap.size + 1, 4, none⟩ (.slice a5 n c5) = w6 at *
  clear E0 E1 E2 o5 o6 g5 s5 HLAST HSH HBB HSUB x4 B2 hs1 hs2 t0 t1 t2 t3 t4 tw
  simp only [List.setIfInBounds_toArray, List.set_cons_succ, List.set_cons_zero] at hgf
  have hst1 : decide ((st : Int) < 1) = true ∨ (decide ((st : Int) < 1) = false ∧ decide (8 < (st : Int)) = true) ∨ (decide ((st : Int) < 1) = false ∧ decide (8 < (st : Int)) = false ∧ (Fr.mk st rd mem md ((bs.drop 9).take n)).Ok) := by
    by_cases h1 : st < 1
    · exact .inl (by simp; omega)
    · by_cases h2 : 8 < st
      · exact .inr (.inl ⟨by simp; omega, by simp; omega⟩)
      · refine .inr (.inr ⟨by simp; omega, by simp; omega, ⟨by show 1 ≤ st; omega, by show st ≤ 8; omega, hn2, hn3, hn4, ?_, (HB.out.drop 9).take n⟩⟩)
        have := HPL.out
        show ((bs.drop 9).take n).length ≤ 4095
        omega
  have K6 := Lib.hid hgf
  have Z6 := Lib.hid hgz
  have B6 := Lib.hid hbel
  have O6 := Lib.hid hown
  obtain ⟨x0, x1, x2, x3, x4⟩ := frame_cells hgf
  have bad : ∀ (W : World), W.heap[w.heap.size]? = some zF → Below w.heap.size w W → errOf bs = 5 → RGetP bs w (.returned (.tuple #[noFr, .int .i64 5])) (stored W w.heap.size (.int .i64 0) (.int .u32 0) (.int .u8 0) (.int .u16 0) (.slice none 0 0)) := by
    intro W hz hb he
    refine ⟨stored_below hb (Nat.le_refl _) _ _ _ _ _, .inr ⟨by rw [he]; decide, by rw [he]; rfl⟩⟩
  have BAD := Lib.hid bad
  clear hgf hgz hbel hown bad
  have herr5 : (st = 0 ∨ 8 < st) → errOf bs = 5 := fun h => by
    rw [HERR.out, if_pos (by rcases h with h | h <;> simp [h])]
  have HE5 := Lib.hid herr5
  clear herr5
  rcases hst1 with e1 | ⟨e1, e2⟩ | ⟨e1, e2, hok⟩
  · have H5 := Lib.hid (HE5.out (.inl (by simp at e1; omega)))
    obtain ⟨d0, d1, d2, d3, d4⟩ := frame_cells Z6.out
    have z0 := frozen_of_row _ _ 0 _ _ Z6.out
    have z1 := frozen_of_row _ _ 1 _ _ Z6.out
    have z2 := frozen_of_row _ _ 2 _ _ Z6.out
    have z3 := frozen_of_row _ _ 3 _ _ Z6.out
    have z4 := frozen_of_row _ _ 4 _ _ Z6.out
    go_wp2_with fail
    go_quiet (fail)
    go_wp2_with fail
    exact bodyPost_ret (results_row_tmp Tryz.results26 _ _ w.heap.size _ _ _ _ rfl (stored_at (show (w6.drewN nq).heap[w.heap.size]? = some zF from Z6.out) (.int .i64 0) (.int .u32 0) (.int .u8 0) (.int .u16 0) (.slice none 0 0)) Tryz.underlying65 rfl (infoF _ _ _ _ _)) rfl (BAD.out (w6.drewN nq) Z6.out (bdraw B6.out nq) H5.out)
  · have H5 := Lib.hid (HE5.out (.inr (by simp at e2; omega)))
    obtain ⟨d0, d1, d2, d3, d4⟩ := frame_cells Z6.out
    have z0 := frozen_of_row _ _ 0 _ _ Z6.out
    have z1 := frozen_of_row _ _ 1 _ _ Z6.out
    have z2 := frozen_of_row _ _ 2 _ _ Z6.out
    have z3 := frozen_of_row _ _ 3 _ _ Z6.out
    have z4 := frozen_of_row _ _ 4 _ _ Z6.out
    go_wp2_with fail
    go_quiet (fail)
    go_wp2_with fail
    exact bodyPost_ret (results_row_tmp Tryz.results26 _ _ w.heap.size _ _ _ _ rfl (stored_at (show (w6.drewN nq).heap[w.heap.size]? = some zF from Z6.out) (.int .i64 0) (.int .u32 0) (.int .u8 0) (.int .u16 0) (.slice none 0 0)) Tryz.underlying65 rfl (infoF _ _ _ _ _)) rfl (BAD.out (w6.drewN nq) Z6.out (bdraw B6.out nq) H5.out)
  · have HO := Lib.hid hok
    have HBY := Lib.hid (rfbytes_any ⟨st, rd, mem, md, (bs.drop 9).take n⟩ hok (.slice a5 n c5) w6.drew (own_rd O6.out))
    unfold frV at HBY
    have HK := Lib.hid (fun (w9 : World) (b9 : Below w6.drew.heap.size w6.drew w9) => frame_cells ((b9.block _ (lt_of_block K6.out)).trans K6.out))
    have HC := Lib.hid (fun (w9 : World) (b9 : Below w.heap.size w w9) => conv_rd (HV.out.below b9) (show 0 < bs.length by omega) 22 9 Tryz.underlying22 Tryz.underlying9)
    have HFL : Hid (0 < (Fr.mk st rd mem md ((bs.drop 9).take n)).bytes.length) := by unfold Hid; rw [Fr.bytes_len]; omega
    have c2 := HC.out w6.drew (bdraw B6.out 1)
    have hq := str_beq hok.bytes HB.out
    have hst : ¬ st = 0 ∧ ¬ 8 < st := by simp at e1 e2; omega
    have hbody : (Fr.mk st rd mem md ((bs.drop 9).take n)).body = bs.take (9 + n) := by rw [← HBODY.out, HFR.out]
    have herr : errOf bs = if (Fr.mk st rd mem md ((bs.drop 9).take n)).bytes = bs then 0 else 5 := by
      rw [HERR.out]
      have e9 : (Fr.mk st rd mem md ((bs.drop 9).take n)).bytes = bs.take (9 + n) ++ sumB (bs.take (9 + n)) := by rw [Fr.bytes, hbody]
      by_cases hd : bs.drop (9 + n) = sumB (bs.take (9 + n))
      · rw [if_neg (by simp [hst, hd]), if_pos (by rw [e9, ← hd, List.take_append_drop])]
      · rw [if_pos (by simp [hd]), if_neg]
        intro e
        rw [e9] at e
        have h2 := congrArg (List.drop (9 + n)) e
        rw [List.drop_left' (by rw [List.length_take]; omega)] at h2
        exact hd h2.symm
    have HERR2 := Lib.hid herr
    have KEY : Hid (∀ w7, Below w6.drew.heap.size w6.drew w7 → w7.heap[w.heap.size]? = some zF ∧ w7.heap[w.heap.size + 1]? = some (.cells #[.int .i64 st, .int .u32 rd, .int .u8 mem, .int .u16 md, .slice a5 n c5] 65 (0, 0)) ∧ Below w.heap.size w w7 ∧ Rd w7 (.slice a5 n c5) (by8 (iN ((bs.drop 9).take n)))) := by
      intro w7 b7
      exact ⟨(b7.block _ (lt_of_block Z6.out)).trans Z6.out, (b7.block _ (lt_of_block K6.out)).trans K6.out, bnext (bdraw B6.out 1) b7, (show Rd w6.drew _ _ from own_rd O6.out).below b7⟩
    clear hok hst hbody herr
    by_cases heq : (Fr.mk st rd mem md ((bs.drop 9).take n)).bytes = bs
    · rw [decide_eq_true heq] at hq
      have H0 : Hid (errOf bs = 0) := by unfold Hid; rw [HERR2.out, if_pos heq]
      clear heq
      go_wp2_with fail
      go_region_with (refine Calls.mono HBY.out ?_; rintro e w7 ⟨u, rfl, o7, b7⟩; have ⟨y0, y1, y2, y3, y4⟩ := HK.out _ b7; obtain ⟨a7, c7, rfl⟩ := owns_shape o7; have C1 := conv_rd (own_rd o7) HFL.out 22 9 Tryz.underlying22 Tryz.underlying9; have C2 := HC.out w7 (bnext (bdraw B6.out 1) b7))
      all_goals
        obtain ⟨p1, p2, p3, p4⟩ := KEY.out w7 b7
        clear x0 x1 x2 x3 x4
        obtain ⟨x0, x1, x2, x3, x4⟩ := frame_cells p2
        obtain ⟨d0, d1, d2, d3, d4⟩ := frame_cells p1
        have z0 := frozen_of_row _ _ 0 _ _ p1
        have z1 := frozen_of_row _ _ 1 _ _ p1
        have z2 := frozen_of_row _ _ 2 _ _ p1
        have z3 := frozen_of_row _ _ 3 _ _ p1
        have z4 := frozen_of_row _ _ 4 _ _ p1
        go_wp2_with fail
        refine bodyPost_ret (results_row_tmp Tryz.results26 _ _ w.heap.size _ _ _ _ rfl (stored_at p1 (.int .i64 st) (.int .u32 rd) (.int .u8 mem) (.int .u16 md) (.slice a5 n c5)) Tryz.underlying65 rfl (infoF _ _ _ _ _)) rfl ?_
        refine ⟨stored_below p3 (Nat.le_refl _) _ _ _ _ _, .inl ⟨H0.out, .slice a5 n c5, ?_, ?_⟩⟩
        · rw [HFR.out]
          rfl
        · rw [HFR.out]
          have hd := fun (g : Nat) (hg : Value.ownBlock (.slice a5 n c5) = some g) => (show g ≠ w.heap.size from fun e => by
            obtain ⟨_, c', hc'⟩ := owns_block O6.out g hg
            have h1 := Z6.out
            rw [e] at hc'
            rw [hc'] at h1
            simp at h1)
          exact p4.only (S := fun k => k = w.heap.size) ⟨rfl, rfl, rfl, by simp [World.setCell], fun k hk hn => stored_other hn _ _ _ _ _⟩ fun g hg => hd g hg
    · rw [decide_eq_false heq] at hq
      have H5 : Hid (errOf bs = 5) := by unfold Hid; rw [HERR2.out, if_neg heq]
      clear heq
      go_wp2_with fail
      go_region_with (refine Calls.mono HBY.out ?_; rintro e w7 ⟨u, rfl, o7, b7⟩; have ⟨y0, y1, y2, y3, y4⟩ := HK.out _ b7; obtain ⟨a7, c7, rfl⟩ := owns_shape o7; have C1 := conv_rd (own_rd o7) HFL.out 22 9 Tryz.underlying22 Tryz.underlying9; have C2 := HC.out w7 (bnext (bdraw B6.out 1) b7))
      all_goals
        obtain ⟨p1, p2, p3, p4⟩ := KEY.out w7 b7
        clear x0 x1 x2 x3 x4
        obtain ⟨d0, d1, d2, d3, d4⟩ := frame_cells p1
        have z0 := frozen_of_row _ _ 0 _ _ p1
        have z1 := frozen_of_row _ _ 1 _ _ p1
        have z2 := frozen_of_row _ _ 2 _ _ p1
        have z3 := frozen_of_row _ _ 3 _ _ p1
        have z4 := frozen_of_row _ _ 4 _ _ p1
        go_wp2_with fail
        exact bodyPost_ret (results_row_tmp Tryz.results26 _ _ w.heap.size _ _ _ _ rfl (stored_at p1 (.int .i64 0) (.int .u32 0) (.int .u8 0) (.int .u16 0) (.slice none 0 0)) Tryz.underlying65 rfl (infoF _ _ _ _ _)) rfl (BAD.out w7 p1 p3 H5.out)
end Go.Proofs.YtckpeclkkmapiaaGreatDoor
