/-
  The walk of FramesTold: values that were put are got of their types; with another bit in the noughts behind they are refused.
-/
import Derived.Test.YtckpeclkkmapiaaFrmUse
import Derived.Test.YtckpeclkkmapiaaToldFr
import Derived.RegionTactic
import Derived.BigRegion
namespace Go.Proofs.Ytckpeclkkmapiaa
open Go.RowKit
open Go

open Go.ChangeShapes Go.WideShapes Go.ChangeAt in
theorem Arg.bools {W : World} {v : Value} (h : Arg Try.prog 44 W v) : ∃ bs : List Bool, Rd W v (bs.map Value.bool) := by
  have ca : Try.prog.cellsOf 4 = 1 := by kernel_rfl
  have hs : ∃ a n c, v = .slice a n c := by
    obtain ⟨H, enc, base, d, p, ho, _⟩ := h
    exact okWide_slice Try.underlying44 ho
  obtain ⟨a, n, c, rfl⟩ := hs
  obtain ⟨v', rows, hv, hR, hrows, hw⟩ := h.cells.slice Try.underlying44 (by rw [ca]; omega)
  have hv' : [Value.slice a n c] = [v'] := hv
  obtain rfl : Value.slice a n c = v' := List.head_eq_of_cons_eq hv'
  rw [ca] at hR
  obtain ⟨l, rfl, hl⟩ := rows_of (fun b : Bool => [Value.bool b]) (fun _ => True) rows fun r hr => by
    obtain ⟨x, hx⟩ := (hrows r hr).bool Try.underlying4
    exact ⟨x, hx, trivial⟩
  exact ⟨l, hR.one (by simp)⟩
theorem rdMapAt {α : Type} {w : World} {a : Option Addr} {n c : Nat} {f : α → Value} {cs : List α} (h : Rd w (.slice a n c) (cs.map f)) (k : Nat) (hk : k < cs.length) :
    ∃ b o, a = some ⟨b, o, none⟩ ∧ w.cell? ⟨b, o + k, none⟩ = some (f cs[k]) := by
  obtain ⟨a', c', hv, h1, h2, h3, h4⟩ := h
  simp only [Value.slice.injEq] at hv
  obtain ⟨rfl, _, rfl⟩ := hv
  exact h4 k _ (by simp [hk])
/-- Rows of unlike elements never share a block. -/
theorem own_ne {w : World} {b1 b2 s1 s2 : Nat} {e1 e2 : TypeId} {v1 v2 : Value} {n1 n2 : Nat} {xs1 xs2 : List Value} (h1 : w.ownsRow b1 e1 s1 v1 n1 xs1) (h2 : w.ownsRow b2 e2 s2 v2 n2 xs2) (he : e1 ≠ e2) :
    ∀ g, v1.ownBlock = some g → v2.ownBlock ≠ some g := by
  intro g hg hg2
  rcases h1.2 with ⟨rfl, _⟩ | ⟨g1, c1, cur1, rfl, _, hb1, _⟩
  · cases hg
  · rcases h2.2 with ⟨rfl, _⟩ | ⟨g2, c2, cur2, rfl, _, hb2, _⟩
    · cases hg2
    · simp only [Value.ownBlock, Option.some.injEq] at hg hg2
      subst hg
      subst hg2
      have := hb1.symm.trans hb2
      simp at this
      exact he this.2
theorem own_ltN {w : World} {base sz : Nat} {e : TypeId} {v : Value} {n : Nat} {xs : List Value} (h : w.ownsRow base e sz v n xs) (g : Nat) (hg : v.ownBlock = some g) : g < w.heap.size := by
  rcases h.2 with ⟨rfl, _⟩ | ⟨g', c, cur, rfl, _, hb, _⟩
  · cases hg
  · simp only [Value.ownBlock, Option.some.injEq] at hg
    subst hg
    exact lt_of_block hb
/-- The values of two lists. -/
def itsL (l : List Int) (b : List Bool) : List VT := List.zipWith itV l b
theorem itsL_len (l : List Int) (b : List Bool) (h : l.length = b.length) : (itsL l b).length = l.length := by simp [itsL, h]
theorem itsL_at (l : List Int) (b : List Bool) (k : Nat) (h1 : k < l.length) (h2 : k < b.length) (h : k < (itsL l b).length) : (itsL l b)[k] = itV l[k] b[k] := by simp [itsL]
theorem typeInfoT : (Try.prog.info? 47).map (fun i => (i.zero, i.size, i.bytes)) = some (some (.int .u8 0), 1, 1) := by kernel_rfl
set_option maxRecDepth 20000 in
set_option maxHeartbeats 4000000 in
theorem walk_FramesTold (v0 v1 : Value) (W : World) (A0 : Arg Try.prog 43 W v0) (A1 : Arg Try.prog 44 W v1) :
    Calls Try.prog 6 #[v0, v1] W fun e w' => e = .returned (.bool true) ∧ Below W.heap.size W w' := by
  obtain ⟨l, hR, hwf, _⟩ := A0.nums Try.underlying43 Try.underlying2 (by kernel_rfl)
  obtain ⟨wh, hS⟩ := A1.bools
  have hin : ∀ n ∈ l, In64 n := fun n hn => bounds_i64 (hwf n hn)
  clear A0 A1 hwf
  have HR := Lib.hid hR
  have HS := Lib.hid hS
  obtain ⟨a, c, rfl, hac, hcm, _, _⟩ := hR
  obtain ⟨a2, c2, rfl, hac2, hcm2, _, _⟩ := hS
  have hl : (l.map (Value.int .i64)).length = l.length := by simp
  have hl2 : (wh.map Value.bool).length = wh.length := by simp
  rw [hl] at hac HR
  rw [hl2] at hac2 HS
  rw [hl, hl2]
  unfold maxLen at hcm hcm2
  clear hl hl2
  have HIN := Lib.hid hin
  clear hin
  have key : decide (400 < (l.length : Int)) = true ∨ (decide (400 < (l.length : Int)) = false ∧ ((wh.length : Int) != l.length) = true) ∨ (decide (400 < (l.length : Int)) = false ∧ ((wh.length : Int) != l.length) = false ∧ l.length ≤ 400 ∧ wh.length = l.length) := by
    simp only [decide_eq_true_eq, decide_eq_false_iff_not, bne_iff_ne, bne_eq_false_iff_eq]
    omega
  rcases key with q1 | ⟨q1, q2⟩ | ⟨q1, q2, q3, q4⟩
  iterate 2
    · go_enter Try.func6, Try.ntmps6
      go_wp2_with fail
      refine (alive3_any _).mono ?_
      rintro e w2 ⟨rfl, b2⟩
      go_wp2_with fail
      refine (alive3_any _).mono ?_
      rintro e w3 ⟨rfl, b3⟩
      go_wp2_with fail
      go_ret
      exact ⟨rfl, bnext b2 b3⟩
  · have HQ := Lib.hid q4
    have hle : wh.length ≤ l.length := by omega
    have hge : l.length ≤ wh.length := by omega
    have hIl := itsL_len l wh (by omega)
    have HIL := Lib.hid hIl
    have HAT := Lib.hid (itsL_at l wh)
    have hchk : ∀ p ∈ itsL l wh, chkV p = true ∧ In64 p.2 := by
      intro p hp
      obtain ⟨i, hi, rfl⟩ := List.getElem_of_mem hp
      rw [hIl] at hi
      rw [itsL_at l wh i hi (by omega) (by omega)]
      exact ⟨itV_chk _ _, itV_in (HIN.out _ (List.getElem_mem _))⟩
    have HCHK := Lib.hid hchk
    clear q4 hIl hchk
    go_enter Try.func6, Try.ntmps6
    go_wp2_with fail
    refine (alive3_any _).mono ?_
    rintro e w2 ⟨rfl, b2⟩
    go_wp2_with fail
    obtain ⟨i0, hi, hz0, hz1, hz2⟩ := info_parts infoVV
    obtain ⟨j0, hj, hy0, hy1, hy2⟩ := info_parts typeInfoT
    have I0 := Lib.hid (And.intro hi (And.intro hz0 (And.intro hz1 hz2)))
    have J0 := Lib.hid (And.intro hj (And.intro hy0 (And.intro hy1 hy2)))
    clear hi hz0 hz1 hz2 hj hy0 hy1 hy2
    go_loopw [5, 6, 7, 8] (fun v t n i wr => ∃ k : Nat, k ≤ l.length ∧ i = .int .i64 k ∧ n = .int .i64 (sizeT (((itsL l wh).take k).map (·.1))) ∧ wr.ownsRow W.heap.size 49 2 v k (cellsV ((itsL l wh).take k)) ∧
        wr.ownsRow W.heap.size 47 1 t k (by8 (((itsL l wh).take k).map (·.1))) ∧ Below W.heap.size W wr) (fun _ _ _ i _ => l.length - (intOf i).toNat)
    case atStart => exact ⟨0, by omega, rfl, rfl, ⟨rfl, .inl ⟨rfl, rfl⟩⟩, ⟨rfl, .inl ⟨rfl, rfl⟩⟩, b2⟩
    case round =>
      clear b2
      obtain ⟨k, hk, rfl, rfl, ov, ot, hb⟩ := hrel
      by_cases hlt : k < l.length
      · obtain ⟨b, o, rfl, x0⟩ := rdMapAt (cs := l) (HR.out.below hb) k hlt
        obtain ⟨b', o', rfl, x1⟩ := rdMapAt (cs := wh) (HS.out.below hb) k (by omega)
        have hki : k < (itsL l wh).length := by rw [HIL.out]; exact hlt
        have hit := HAT.out k hlt (by omega) hki
        have hc1 : Hid (cellsV ((itsL l wh).take (k + 1)) = cellsV ((itsL l wh).take k) ++ rowV (itV l[k] (wh[k]'(by omega)))) := by
          show _ = _
          rw [take_snoc _ _ hki, cellsV_append, hit]
          rfl
        have hc2 : Hid (by8 (((itsL l wh).take (k + 1)).map (·.1)) = by8 (((itsL l wh).take k).map (·.1)) ++ [.int .u8 (itV l[k] (wh[k]'(by omega))).1]) := by
          show _ = _
          rw [take_snoc _ _ hki, hit]
          simp
        have hc3 : Hid (sizeT (((itsL l wh).take (k + 1)).map (·.1)) = sizeT (((itsL l wh).take k).map (·.1)) + tyW (itV l[k] (wh[k]'(by omega))).1) := by
          show _ = _
          rw [take_snoc _ _ hki, hit, List.map_append, sizeT_append]
          rfl
        have hsl : sizeT (((itsL l wh).take k).map (·.1)) ≤ 64 * k := by
          have h := sizeT_le (((itsL l wh).take k).map (·.1))
          rw [List.length_map, List.length_take] at h
          omega
        generalize sizeT (((itsL l wh).take k).map (·.1)) = n at *
        generalize l[k] = x at *
        generalize wh[k]'(by omega) = y at *
        have OV := Lib.hid ov
        have OT := Lib.hid ot
        clear hit ov ot
        obtain ⟨av, cv, rfl⟩ := owns_shapeN OV.out
        obtain ⟨at_, ct, rfl⟩ := owns_shapeN OT.out
        cases y
        · have hfin := Lib.hid (i64_and1 x)
          go_wp2_with (first
            | (at_builtin; refine wpList_append_own_at _ rfl _ _ 45 rfl W.heap.size 49 i0 (.agg #[.int .u8 0, .int .i64 0]) 2 16 Try.underlying45 I0.out.1 I0.out.2.1 I0.out.2.2.1 I0.out.2.2.2 rfl (by decide) (.slice av k cv) k _ rfl (OV.out.alloc _) ⟨wr.heap.size, 0, none⟩ 1 1 (rowV (2, bits .and .i64 x 1)) rfl rfl (news2 wr (2, bits .and .i64 x 1)) (oc_row _) (by unfold maxLen; omega) (by omega) (by have := hb.size; simp; omega) ?_; intro v6 w6 o6 g6 n6 s6; have b6 := (balloc hb (.cells #[.int .u8 2, .int .i64 (bits .and .i64 x 1)] 49 (0, 0))).grown g6 (by have := hb.size; simp; omega) (own_geN OV.out); have t6 := own_grown (OT.out.alloc (.cells #[.int .u8 2, .int .i64 (bits .and .i64 x 1)] 49 (0, 0))) g6 (fun g hg => Nat.lt_of_lt_of_le (own_ltN OT.out g hg) (by simp)) (fun g hg => own_ne OT.out OV.out (by decide) g hg); clear n6 s6 g6)
            | (at_builtin; refine wpList_append_own_at _ rfl _ _ 46 rfl W.heap.size 47 j0 (.int .u8 0) 1 1 Try.underlying46 J0.out.1 J0.out.2.1 J0.out.2.2.1 J0.out.2.2.2 rfl (by decide) (.slice at_ k ct) k _ rfl (t6.alloc _) ⟨w6.heap.size, 0, none⟩ 1 1 [.int .u8 2] rfl rfl (cell_one_new _ _ _) (oc1 _ _) (by unfold maxLen; omega) (by omega) (by have := b6.size; simp; omega) ?_; intro v7 w7 o7 g7 n7 s7; have b7 := (balloc b6 (.cells #[.int .u8 2] 47 (0, 0))).grown g7 (by have := b6.size; simp; omega) (own_geN OT.out); have u7 := own_grown (o6.alloc (.cells #[.int .u8 2] 47 (0, 0))) g7 (fun g hg => Nat.lt_of_lt_of_le (own_ltN o6 g hg) (by simp)) (fun g hg => own_ne o6 t6 (by decide) g hg); clear n7 s7 g7))
          go_roundw
          case rel => exact ⟨k + 1, by omega, by go_num, by rw [hc3.out]; simp [itV, tyW], by rw [hc1.out]; exact u7, by rw [hc2.out]; exact o7, b7⟩
          case measure => simp [intOf]; omega
        · have hfin := Lib.hid (i64_and1 x)
          go_wp2_with (first
            | (at_builtin; refine wpList_append_own_at _ rfl _ _ 45 rfl W.heap.size 49 i0 (.agg #[.int .u8 0, .int .i64 0]) 2 16 Try.underlying45 I0.out.1 I0.out.2.1 I0.out.2.2.1 I0.out.2.2.2 rfl (by decide) (.slice av k cv) k _ rfl (OV.out.alloc _) ⟨wr.heap.size, 0, none⟩ 1 1 (rowV (1, x)) rfl rfl (news2 wr (1, x)) (oc_row _) (by unfold maxLen; omega) (by omega) (by have := hb.size; simp; omega) ?_; intro v6 w6 o6 g6 n6 s6; have b6 := (balloc hb (.cells #[.int .u8 1, .int .i64 (x)] 49 (0, 0))).grown g6 (by have := hb.size; simp; omega) (own_geN OV.out); have t6 := own_grown (OT.out.alloc (.cells #[.int .u8 1, .int .i64 (x)] 49 (0, 0))) g6 (fun g hg => Nat.lt_of_lt_of_le (own_ltN OT.out g hg) (by simp)) (fun g hg => own_ne OT.out OV.out (by decide) g hg); clear n6 s6 g6)
            | (at_builtin; refine wpList_append_own_at _ rfl _ _ 46 rfl W.heap.size 47 j0 (.int .u8 0) 1 1 Try.underlying46 J0.out.1 J0.out.2.1 J0.out.2.2.1 J0.out.2.2.2 rfl (by decide) (.slice at_ k ct) k _ rfl (t6.alloc _) ⟨w6.heap.size, 0, none⟩ 1 1 [.int .u8 1] rfl rfl (cell_one_new _ _ _) (oc1 _ _) (by unfold maxLen; omega) (by omega) (by have := b6.size; simp; omega) ?_; intro v7 w7 o7 g7 n7 s7; have b7 := (balloc b6 (.cells #[.int .u8 1] 47 (0, 0))).grown g7 (by have := b6.size; simp; omega) (own_geN OT.out); have u7 := own_grown (o6.alloc (.cells #[.int .u8 1] 47 (0, 0))) g7 (fun g hg => Nat.lt_of_lt_of_le (own_ltN o6 g hg) (by simp)) (fun g hg => own_ne o6 t6 (by decide) g hg); clear n7 s7 g7))
          go_roundw
          case rel => exact ⟨k + 1, by omega, by go_num, by rw [hc3.out]; simp [itV, tyW], by rw [hc1.out]; exact u7, by rw [hc2.out]; exact o7, b7⟩
          case measure => simp [intOf]; omega
      · obtain rfl : k = l.length := by omega
        have e0 : (itsL l wh).take l.length = itsL l wh := List.take_of_length_le (by rw [HIL.out]; exact Nat.le_refl _)
        rw [e0] at ov ot ⊢
        obtain ⟨av, cv, rfl⟩ := owns_shapeN ov
        obtain ⟨at_, ct, rfl⟩ := owns_shapeN ot
        have hcheck := HCHK.out
        have hlen := HIL.out
        clear HCHK HIL HAT e0 HR HS HIN hle hge
        generalize itsL l wh = V at *
        have hall : ∀ p ∈ V, chkV p = true := fun p hp => (hcheck p hp).1
        have hall2 : V.all chkV = true := List.all_eq_true.2 hall
        have hin : ∀ p ∈ V, In64 p.2 := fun p hp => (hcheck p hp).2
        have hbl := bitsL_len V
        have hpl := pack_len (bitsL V)
        have hbs := bitsL_size V
        have rv := own_rdN (rows := V.map rowV) ov (fun r hr => by obtain ⟨f, _, rfl⟩ := List.mem_map.1 hr; rfl) (by rw [List.length_map]; exact hlen.symm)
        have PO := payload_ok (.slice av l.length cv) V wr rv (by omega) hin hall2 (by rw [hpl]; omega)
        have hvb := vals_back V hall hin
        have hve := errV_back V hall
        have hvm := errV_more V hall 0
        have hvt := errV_turned V hall
        have hNB : NB (pack (bitsL V)) := pack_lt _
        obtain ⟨nb, hnb⟩ : ∃ nb, (bitsL V).length = nb := ⟨_, rfl⟩
        obtain ⟨n8, hn8⟩ : ∃ n8, (pack (bitsL V)).length = n8 := ⟨_, rfl⟩
        rw [hnb] at hpl hbs hvt hbl
        rw [hn8] at hpl PO hvt
        rw [← hbs]
        have hn8' : n8 ≤ 3200 := by omega
        have hnb' : nb ≤ 25600 := by omega
        have T1 := Lib.hid hpl
        have T2 := Lib.hid hn8
        have T3 := Lib.hid hvb
        have T4 := Lib.hid hve
        have T5 := Lib.hid hvm
        have T6 := Lib.hid hvt
        have T7 := Lib.hid hNB
        have T8 := Lib.hid hbs
        have T9 := Lib.hid hlen
        have HPO := Lib.hid PO
        have RV := Lib.hid rv
        have OT := Lib.hid ot
        have RT := Lib.hid (own_rd ot)
        clear hpl hn8 hvb hve hvm hvt hNB hbs hlen PO rv ov ot hall hall2 hin hcheck hnb hbl
        go_wp2_with fail
        refine Calls.mono HPO.out ?_
        rintro e w4 ⟨u, rfl, o4, b4⟩
        have B4 := bnext hb b4
        obtain ⟨a4, c4, rfl⟩ := owns_shape o4
        have R4 := Lib.hid (own_rd o4)
        have O4 := Lib.hid o4
        clear o4
        go_wp2_with fail
        refine (values_ok _ _ (pack (bitsL V)) (V.map (·.1)) w4 R4.out T7.out (RT.out.below b4) (by rw [List.length_map, T9.out]; omega) (by rw [T2.out]; omega) T4.out).mono ?_
        rw [T3.out, List.length_map, T9.out]
        rintro e w5 ⟨x, rfl, o5, b5⟩
        have B5 := bnext B4 b5
        obtain ⟨a5, c5, rfl⟩ := owns_shapeN o5
        have R5 := Lib.hid (own_rdN (rows := V.map rowV) o5 (fun r hr => by obtain ⟨f, _, rfl⟩ := List.mem_map.1 hr; rfl) (by rw [List.length_map]; exact T9.out.symm))
        clear o5
        obtain ⟨m0, hm, hm0, hm1, hm2⟩ := info_parts info5
        have M0 := Lib.hid (And.intro hm (And.intro hm0 (And.intro hm1 hm2)))
        clear hm hm0 hm1 hm2
        have e8 : (by8 (iN (pack (bitsL V)))).length = n8 := by simp [T2.out]
        have E8 := Lib.hid e8
        have RB := Lib.hid (R4.out.below b5)
        clear e8
        go_wp2_with (first
          | (at_builtin; refine wpList_append_rd _ rfl _ _ _ rfl w5.heap.size 5 m0 (.int .u8 0) 1 Try.underlying24 M0.out.1 M0.out.2.1 M0.out.2.2.1 M0.out.2.2.2 rfl (.slice none 0 0) 0 [] rfl ⟨rfl, .inl ⟨rfl, rfl⟩⟩ _ (by8 (iN (pack (bitsL V)))) rfl RB.out (oc8 _ _) (by rw [E8.out]; unfold maxLen; omega) (by rw [E8.out]; omega) (Nat.le_refl _) ?_; intro v6 w6 o6 g6; rw [E8.out, Nat.zero_add, List.nil_append] at o6; obtain ⟨a6, c6, rfl⟩ := owns_shape o6; have b6 : Below w5.heap.size w5 w6 := (Below.refl _ _).grown g6 (Nat.le_refl _) (fun k hk => by cases hk); clear g6; have O6 := Lib.hid o6; clear o6)
          | (at_builtin; refine wpList_append_own_at _ rfl _ _ 24 rfl w5.heap.size 5 m0 (.int .u8 0) 1 1 Try.underlying24 M0.out.1 M0.out.2.1 M0.out.2.2.1 M0.out.2.2.2 rfl (by decide) (.slice a6 n8 c6) n8 _ rfl (O6.out.alloc _) ⟨w6.heap.size, 0, none⟩ 1 1 [.int .u8 0] rfl rfl (cell_one_new _ _ _) (oc1 _ _) (by unfold maxLen; omega) (by omega) (by have := b6.size; simp; omega) ?_; intro v7 w7 o7 g7 n7 s7; have b7 := (balloc b6 (.cells #[.int .u8 0] 5 (0, 0))).grown g7 (by have := b6.size; simp; omega) (own_geN O6.out); clear n7 s7 g7))
        have r7 := own_rd o7
        have e9 : by8 (iN (pack (bitsL V))) ++ [Value.int .u8 0] = by8 (iN (pack (bitsL V) ++ [0])) := by simp
        rw [e9] at r7
        have B57 := b7
        clear o7 b6 O6 e9
        refine (values_bad _ _ (pack (bitsL V) ++ [0]) (V.map (·.1)) 5 w7 r7 (T7.out.app (by simp [NB])) (RT.out.below (bnext b4 (bnext b5 b7))) (by rw [List.length_map, T9.out]; omega) (by rw [List.length_append, T2.out]; simp; omega) T5.out (by decide)).mono ?_
        rintro e w8 ⟨rfl, b8⟩
        have b58 := bnext b7 b8
        have B8 := bnext B5 b58
        have HSV := Lib.hid (same_vals _ _ V w8 (R5.out.below b58) (RV.out.below (bnext (bnext b4 b5) b58)))
        have BI := fun w (hw : Rd w (.slice at_ l.length ct) (by8 (V.map (·.1)))) => bits_any (.slice at_ l.length ct) (V.map (·.1)) w hw (by rw [List.length_map, T9.out]; omega)
        rw [← T8.out, ← T1.out] at BI
        have HBI := Lib.hid BI
        have e1 : ((n8 : Int) != ((nb : Int) + 7) / 8) = false := by have := T1.out; rw [bne_eq_false_iff_eq]; omega
        have RT8 := Lib.hid (RT.out.below (bnext (bnext b4 b5) b58))
        clear r7 b7 b8 BI B57
        go_wp2_with fail
        refine Calls.mono HSV.out ?_
        rintro e w9 ⟨rfl, b9⟩
        go_wp2_with fail
        refine Calls.mono (HBI.out w9 (RT8.out.below b9)) ?_
        rintro e w10 ⟨rfl, b10⟩
        have B10 := bnext B8 (bnext b9 b10)
        have b410 := bnext b5 (bnext b58 (bnext b9 b10))
        have O10 := Lib.hid (ownsRow_kept (w' := w10) O4.out (fun g hg => b410.block g (own_lt O4.out g hg)))
        have OT10 := Lib.hid (ownsRow_kept (w' := w10) OT.out (fun g hg => (bnext b4 b410).block g (own_ltN OT.out g hg)))
        clear HSV HBI RT8 b9 b10 B8 b58 e1 O4
        by_cases h8 : nb % 8 = 0
        · have q8 : ((nb : Int) % 8 == 0) = true := by rw [beq_iff_eq]; omega
          clear h8
          go_wp2_with fail
          go_ret
          exact ⟨rfl, B10⟩
        · have q8 : ((nb : Int) % 8 == 0) = false := by rw [beq_eq_false_iff_ne]; omega
          have n8p : 1 ≤ n8 := by have := T1.out; omega
          obtain ⟨x, hx⟩ : ∃ x, (pack (bitsL V))[n8 - 1]? = some x := ⟨_, List.getElem?_eq_getElem (by rw [T2.out]; omega)⟩
          have hx256 : x < 256 := T7.out x (List.mem_of_getElem? hx)
          have hvt := T6.out h8 x hx
          obtain ⟨g4, cc4, hv4, hge4, hlt4⟩ := O10.out.form (by omega)
          simp only [Value.slice.injEq, true_and] at hv4
          obtain ⟨rfl, rfl⟩ := hv4
          have x0 : w10.cell? ⟨g4, n8 - 1, none⟩ = some (.int .u8 x) := by
            rw [O10.out.cellAt _ (by omega)]
            simp only [by8, iN, List.getElem?_map, hx]
            rfl
          have f0 := O10.out.frozenAt (n8 - 1)
          have hxy := Lib.hid (u8_xor_nat x 1 hx256 (by decide))
          have ST := (O10.out.stored (n8 - 1) (.int .u8 (bits .xor .u8 (x : Int) 1)))
          have RS : Hid (Rd (w10.setCell ⟨g4, n8 - 1, none⟩ (.int .u8 (bits .xor .u8 (x : Int) 1))) (.slice (some ⟨g4, 0, none⟩) n8 c4) (by8 (iN ((pack (bitsL V)).set (n8 - 1) (x ^^^ 1))))) := by
            have r := own_rd ST.1
            have e : (by8 (iN (pack (bitsL V)))).set (n8 - 1) (.int .u8 (bits .xor .u8 (x : Int) 1)) = by8 (iN ((pack (bitsL V)).set (n8 - 1) (x ^^^ 1))) := by
              have := hxy.out
              simp only [Int.natCast_one] at this
              rw [this]
              simp only [by8, iN, List.map_set]
            rw [e] at r
            exact r
          have RTS := Lib.hid (own_rd (ownsRow_kept (w' := w10.setCell ⟨g4, n8 - 1, none⟩ (.int .u8 (bits .xor .u8 (x : Int) 1))) OT10.out (fun g hg => ST.2.block g (own_ltN OT10.out g hg) (fun e => own_ne OT10.out O10.out (by decide) g hg e.symm))))
          have BS := Lib.hid (B10.setCell (p := ⟨g4, n8 - 1, none⟩) (by have := own_geN O10.out g4 rfl; have := hb.size; show W.heap.size ≤ g4; omega) (.int .u8 (bits .xor .u8 (x : Int) 1)))
          have HVT := Lib.hid hvt
          have i1 : ((n8 : Int) - 1).toNat = n8 - 1 := by omega
          have NBS : Hid (NB ((pack (bitsL V)).set (n8 - 1) (x ^^^ 1))) := fun c hc => by
            rcases List.mem_or_eq_of_mem_set hc with h | h
            · exact T7.out c h
            · rw [h]
              exact Nat.xor_lt_two_pow (n := 8) hx256 (by decide)
          clear hx h8 hvt ST
          go_wp2_with fail
          refine (values_bad _ _ ((pack (bitsL V)).set (n8 - 1) (x ^^^ 1)) (V.map (·.1)) 5 _ RS.out NBS.out RTS.out (by rw [List.length_map, T9.out]; omega) (by rw [List.length_set, T2.out]; omega) HVT.out (by decide)).mono ?_
          rintro e w12 ⟨rfl, b12⟩
          go_wp2_with fail
          go_ret
          exact ⟨rfl, bnext BS.out b12⟩
end Go.Proofs.Ytckpeclkkmapiaa
