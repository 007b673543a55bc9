/-
  frames.Payload and Values of more values.
-/
import Derived.Test.YtckpeclkkmapiaaFrvVal
namespace Go.Proofs.Ytckpeclkkmapiaa
open Go.RowKit
open Go

theorem bitsL_take (l : List VT) (k : Nat) : (bitsL (l.take k)).length ≤ (bitsL l).length := by
  have := bitsL_append (l.take k) (l.drop k)
  rw [List.take_append_drop] at this
  rw [this, List.length_append]
  omega
theorem fbytes_big (n : Nat) (w : World) (h : n ≤ 100000000) : Calls Try.prog 33 #[.int .i64 n] w fun e w' => e = .returned (.int .i64 ((n + 7) / 8 : Nat)) ∧ w = w' := by
  go_enter Try.func33, Try.ntmps33
  go_wp2_with fail
  go_ret
  exact ⟨rfl, rfl⟩
set_option maxHeartbeats 1000000 in
theorem sizes_big (v : Value) (ts : List Int) (w : World) (h : Rd w v (by8 ts)) (hm : ts.length ≤ 1000000) :
    Calls Try.prog 34 #[v] w fun e w' => e = .returned (.int .i64 (sizeT ts)) ∧ Below w.heap.size w w' := by
  have HV := Lib.hid h
  obtain ⟨a, c, rfl, hc, hcm, _, _⟩ := h
  have hl : (by8 ts).length = ts.length := by simp
  rw [hl] at hc HV ⊢
  unfold maxLen at hcm
  clear hl
  go_enter Try.func34, Try.ntmps34
  go_wp2_with fail
  refine (widths_any w).mono ?_
  rintro e w1 ⟨rfl, hw1⟩
  have k1 : w1.heap[w.heap.size]? = some (mapO .u8 widL) := by rw [hw1]; exact heap_alloc_new _ _
  have B1 : Below w.heap.size w w1 := by rw [hw1]; exact balloc (Below.refl _ _) _
  clear hw1
  go_wp2_with fail
  go_loop [2, 9] (fun n i => ∃ k : Nat, k ≤ ts.length ∧ i = .int .i64 k ∧ n = .int .i64 (sizeT (ts.take k))) (fun _ i => ts.length - (intOf i).toNat)
  case atStart => exact ⟨0, by omega, rfl, rfl⟩
  case round =>
    obtain ⟨k, hk, rfl, rfl⟩ := hrel
    by_cases hlt : k < ts.length
    · obtain ⟨b, o, rfl, x0⟩ := (HV.out.below B1).get (cs := ts) k hlt
      have hs := Lib.hid (sizeT_snoc ts k hlt)
      have h1 := sizeT_le (ts.take k)
      have h2 : (ts.take k).length ≤ k := List.length_take_le _ _
      have h3 := tyW_le ts[k]
      have hl := look_any w1 _ k1 ts[k]
      generalize ts[k] = t at *
      generalize sizeT (ts.take k) = n at *
      generalize tyW t = m at *
      generalize (ts.take k).length = q at *
      go_wp2_with fail
      go_round
      case rel => exact ⟨k + 1, by omega, by go_num, by rw [hs.out]; go_num⟩
      case measure => simp [intOf]; omega
    · obtain rfl : k = ts.length := by omega
      rw [List.take_length]
      go_wp2_with fail
      go_ret
      exact ⟨rfl, B1⟩
set_option maxHeartbeats 2000000 in
theorem payload_big (v : Value) (l : List VT) (w : World) (h : RdN 2 w v (l.map rowV)) (hm : (bitsL l).length ≤ 900000) (hm2 : l.length ≤ 1000000) (hi : ∀ p ∈ l, -9223372036854775808 ≤ p.2 ∧ p.2 ≤ 9223372036854775807) :
    Calls Try.prog 16 #[v] w (PayP l w) := by
  have HV := Lib.hid h
  obtain ⟨a, c, rfl, hc, hcm⟩ := h.shape
  have hl : (l.map rowV).length = l.length := by simp
  rw [hl] at hc HV ⊢
  unfold maxLen at hcm
  have HI := Lib.hid hi
  clear hl hi h
  go_enter Try.func16, Try.ntmps16
  go_wp2_with fail
  refine (widths_any w).mono ?_
  rintro e w1 ⟨rfl, hw1⟩
  have k1 : w1.heap[w.heap.size]? = some (mapO .u8 widL) := by rw [hw1]; exact heap_alloc_new _ _
  have B1 : Below w.heap.size w w1 := by rw [hw1]; exact balloc (Below.refl _ _) _
  clear hw1
  go_wp2_with fail
  refine (new_mine w1 w1 (Below.refl _ _)).mono ?_
  rintro e w2 ⟨pw, rfl, m2, b2⟩
  go_wp2_with fail
  go_loopw [13] (fun i wr => ∃ k : Nat, k ≤ l.length ∧ i = .int .i64 k ∧ Mine w1 pw (bitsL (l.take k)) wr ∧ (l.take k).all chkV = true) (fun i _ => l.length - (intOf i).toNat)
  case atStart => exact ⟨0, by omega, rfl, m2, rfl⟩
  case round =>
    clear m2 b2
    obtain ⟨k, hk, rfl, m, hch⟩ := hrel
    by_cases hlt : k < l.length
    · obtain ⟨b, o, rfl, hcl⟩ := (HV.out.below (bnext B1 m.bel)).get k (by simpa using hlt)
      rw [List.getElem_map] at hcl
      have hp := HI.out _ (List.getElem_mem hlt)
      have hs := Lib.hid (bitsL_snoc l k hlt)
      have hsl := bitsL_take l k
      have htl : (l.take k).length ≤ k := List.length_take_le _ _
      have HALL : Hid (chkV l[k] = false → l.all chkV = false) := fun h => by
        rw [List.all_eq_false]
        exact ⟨l[k], List.getElem_mem hlt, by simp [h]⟩
      have HSN : Hid (chkV l[k] = true → (l.take (k + 1)).all chkV = true) := fun h => by
        rw [take_snoc _ _ hlt, List.all_append, hch]
        simp [h]
      have HCH := Lib.hid hch
      clear hch
      generalize l[k] = p at *
      obtain ⟨t, n⟩ := p
      have x0 : wr.cell? ⟨b, o + k * 2, none⟩ = some (.int .u8 t) := hcl 0 _ rfl
      have x1 : wr.cell? ⟨b, o + k * 2 + 1, none⟩ = some (.int .i64 n) := hcl 1 _ rfl
      have km : wr.heap[w.heap.size]? = some (mapO .u8 widL) := (m.bel.block _ (lt_of_block k1)).trans k1
      have lk := look_any (wr.alloc (.cells #[.int .u8 t, .int .i64 n] 49 (0, 0))) w.heap.size ((heap_alloc_old _ _ (lt_of_block km)).trans km) t
      clear hcl
      have BX : Below wr.heap.size wr (wr.alloc (.cells #[.int .u8 t, .int .i64 n] 49 (0, 0))) := balloc (Below.refl _ _) _
      go_wp2_with fail
      rw [un_eq n]
      by_cases hfit : un n < 2 ^ tyW t
      · refine (put_mineX w1 pw _ (un n) (tyW t) wr _ m BX hfit (tyW_le t) (by have := tyW_le t; omega)).mono ?_
        rintro e w5 ⟨rfl, m5, old5⟩
        have c5 := (old5 wr.heap.size (Nat.le_refl _) (by simp)).trans (heap_alloc_new wr (.cells #[.int .u8 t, .int .i64 n] 49 (0, 0)))
        have y0 : w5.cell? ⟨wr.heap.size, 0, none⟩ = some (.int .u8 t) := cell_of_row w5 wr.heap.size 0 _ _ _ c5
        have km5 : w5.heap[w.heap.size]? = some (mapO .u8 widL) := (m5.bel.block _ (lt_of_block k1)).trans k1
        have lk5 := look_any w5 w.heap.size km5 t
        clear lk km x0 x1 c5 km5 old5
        by_cases hz : tyW t = 0
        · rw [hz] at lk5 m5
          have hc : chkV (t, n) = false := by
            unfold tyW at hz
            split at hz
            · omega
            · split at hz
              · omega
              · rename_i h2 h1
                have e1 : (t == 1) = false := by rw [beq_eq_false_iff_ne]; exact h1
                have e2 : (t == 2) = false := by rw [beq_eq_false_iff_ne]; exact h2
                simp [chkV, e1, e2]
          have HA := Lib.hid (HALL.out hc)
          clear hz hc hfit
          go_wp2_with fail
          go_ret2
          exact ⟨bnext B1 m5.bel, .inl ⟨HA.out, rfl⟩⟩
        · have hz2 : ((tyW t : Int) == 0) = false := by rw [beq_eq_false_iff_ne]; omega
          have hc : chkV (t, n) = true := by
            unfold tyW at hz hfit
            have hu := un_eq n
            split at hz
            · rename_i h2
              rw [if_pos h2] at hfit
              have h0 : n = 0 ∨ n = 1 := by
                simp [IntKind.wrap, IntKind.bits, IntKind.signed] at hu
                omega
              subst h2
              rcases h0 with rfl | rfl <;> rfl
            · split at hz
              · rename_i h1
                subst h1
                rfl
              · omega
          have HA := Lib.hid (HSN.out hc)
          clear hz hc hfit
          go_wp2_with fail
          go_roundw
          case rel => exact ⟨k + 1, by omega, by go_num, by rw [hs.out]; exact m5, HA.out⟩
          case measure => simp [intOf]; omega
      · have hc : chkV (t, n) = false := by
          unfold tyW at hfit
          have hu := un_eq n
          have hlt64 := un_lt n
          split at hfit
          · rename_i h2
            subst h2
            have e0 : (n == 0) = false := by rw [beq_eq_false_iff_ne]; rintro rfl; simp [IntKind.wrap, IntKind.bits, IntKind.signed] at hu; omega
            have e1 : (n == 1) = false := by rw [beq_eq_false_iff_ne]; rintro rfl; simp [IntKind.wrap, IntKind.bits, IntKind.signed] at hu; omega
            simp [chkV, e0, e1]
          · split at hfit
            · omega
            · rename_i h2 h1
              have e1 : (t == 1) = false := by rw [beq_eq_false_iff_ne]; exact h1
              have e2 : (t == 2) = false := by rw [beq_eq_false_iff_ne]; exact h2
              simp [chkV, e1, e2]
        have HA := Lib.hid (HALL.out hc)
        have hne : ¬ ((un n : Nat) : Int) < 2 ^ ((tyW t : Nat) : Int).toNat := by
          rw [Int.toNat_natCast]
          intro h
          apply hfit
          have e : ((2 ^ tyW t : Nat) : Int) = 2 ^ tyW t := by simp
          omega
        refine (putno_mine w1 pw _ (un n) (tyW t) _ (m.below BX) (.inr (.inr ⟨by omega, by have := tyW_le t; omega, hne⟩))).mono ?_
        rintro e w5 ⟨rfl, m5⟩
        clear hfit hc hne
        go_wp2_with fail
        go_ret2
        exact ⟨bnext B1 m5.bel, .inl ⟨HA.out, rfl⟩⟩
    · obtain rfl : k = l.length := by omega
      rw [List.take_length] at m hch
      have HCH := Lib.hid hch
      clear hch
      go_wp2_with fail
      refine (bytes_mine w1 pw _ _ m).mono ?_
      rintro e w5 ⟨u, rfl, o5, r5, b5⟩
      have BB := bnext (bnext B1 m.bel) b5
      have HO := Lib.hid (own_mono o5 (bnext B1 m.bel).size)
      obtain ⟨a5, c5, rfl⟩ := owns_shape o5
      have hbl : (pack (bitsL l)).length ≤ 1000000 := by
        rw [pack_len]
        omega
      clear o5 r5
      by_cases hbig : 4095 < (pack (bitsL l)).length
      · have H2 := Lib.hid hbig
        generalize hq : (pack (bitsL l)).length = q at *
        go_wp2_with fail
        go_ret2
        exact ⟨BB, .inr (.inl ⟨HCH.out, by rw [hq]; exact hbig, rfl⟩)⟩
      · have H2 := Lib.hid hbig
        generalize hq : (pack (bitsL l)).length = q at *
        have HQ := Lib.hid hq
        clear hq
        go_wp2_with fail
        go_ret2
        exact ⟨BB, .inr (.inr ⟨HCH.out, by rw [HQ.out]; omega, _, rfl, by rw [HQ.out]; exact HO.out⟩)⟩
set_option maxHeartbeats 2000000 in
theorem values_big (v u : Value) (bs : List Nat) (ts : List Int) (w : World) (h : Rd w v (by8 (iN bs))) (hb : NB bs) (hu : Rd w u (by8 ts)) (hm : ts.length ≤ 1000000) (hbm : bs.length ≤ 140737488351232) :
    Calls Try.prog 17 #[v, u] w (ValP bs ts w) := by
  have HV := Lib.hid h
  have HU := Lib.hid hu
  have HB := Lib.hid hb
  obtain ⟨a, c, rfl, hc, hcm, _, _⟩ := h
  obtain ⟨a2, c2, rfl, hc2, hcm2, _, _⟩ := hu
  have hl : (by8 (iN bs)).length = bs.length := by simp
  have hl2 : (by8 ts).length = ts.length := by simp
  rw [hl] at hc HV
  rw [hl2] at hc2 HU
  rw [hl, hl2]
  unfold maxLen at hcm hcm2
  clear hl hl2 hb
  go_enter Try.func17, Try.ntmps17
  go_wp2_with fail
  refine (widths_any w).mono ?_
  rintro e w1 ⟨rfl, hw1⟩
  have k1 : w1.heap[w.heap.size]? = some (mapO .u8 widL) := by rw [hw1]; exact heap_alloc_new _ _
  have B1 : Below w.heap.size w w1 := by rw [hw1]; exact balloc (Below.refl _ _) _
  clear hw1
  go_wp2_with fail
  go_loop [4, 19] (fun l i => ∃ k : Nat, k ≤ ts.length ∧ i = .int .i64 k ∧ l = .slice none 0 0 ∧ (ts.take k).any (fun t => tyW t == 0) = false) (fun _ i => ts.length - (intOf i).toNat)
  case atStart => exact ⟨0, by omega, rfl, rfl, rfl⟩
  case round =>
    obtain ⟨k, hk, rfl, rfl, hany⟩ := hrel
    by_cases hlt : k < ts.length
    · obtain ⟨b, o, rfl, x0⟩ := (HU.out.below B1).get (cs := ts) k hlt
      have HBAD : Hid (tyW ts[k] = 0 → errV bs ts = 1) := fun h => by
        unfold errV
        rw [if_pos]
        rw [List.any_eq_true]
        exact ⟨ts[k], List.getElem_mem hlt, by rw [h]; rfl⟩
      have HGOOD : Hid (tyW ts[k] ≠ 0 → (ts.take (k + 1)).any (fun t => tyW t == 0) = false) := fun h => by
        rw [take_snoc _ _ hlt, List.any_append, hany]
        simp [h]
      have lk := look_any w1 _ k1 ts[k]
      clear hany
      generalize ts[k] = t at *
      by_cases hz : tyW t = 0
      · have hz2 : ((tyW t : Int) == 0) = true := by rw [beq_iff_eq]; omega
        have HE := Lib.hid (HBAD.out hz)
        clear hz
        go_wp2_with fail
        go_ret2
        exact ⟨B1, .inl ⟨by rw [HE.out]; decide, by rw [HE.out]; rfl⟩⟩
      · have hz2 : ((tyW t : Int) == 0) = false := by rw [beq_eq_false_iff_ne]; omega
        have HE := Lib.hid (HGOOD.out hz)
        clear hz
        go_wp2_with fail
        go_round
        case rel => exact ⟨k + 1, by omega, by go_num, rfl, HE.out⟩
        case measure => simp [intOf]; omega
    · obtain rfl : k = ts.length := by omega
      rw [List.take_length] at hany
      have HANY := Lib.hid hany
      clear hany
      have hsz := sizeT_le ts
      go_wp2_with fail
      refine (sizes_big _ ts w1 (HU.out.below B1) hm).mono ?_
      rintro e w2 ⟨rfl, b2⟩
      have k2 := (b2.block _ (lt_of_block k1)).trans k1
      have B2 := bnext B1 b2
      clear b2 B1 k1
      go_wp2_with fail
      refine (fbytes_big _ w2 (by omega)).mono ?_
      rintro e w3 ⟨rfl, rfl⟩
      have HST : Hid (∀ k, sizeT (ts.take k) ≤ sizeT ts) := sizeT_take ts
      have HERR : Hid (errV bs ts = if bs.length ≠ (sizeT ts + 7) / 8 then 5 else if getN bs (sizeT ts) (8 * bs.length - sizeT ts) ≠ 0 then 5 else 0) := by
        show errV bs ts = _
        unfold errV
        rw [if_neg (by rw [HANY.out]; decide)]
      by_cases hlen : bs.length = (sizeT ts + 7) / 8
      · have hn2 : ((bs.length : Int) != ((sizeT ts : Int) + 7) / 8) = false := by rw [bne_eq_false_iff_eq]; omega
        have hle : sizeT ts ≤ 8 * bs.length := by omega
        have hle8 : 8 * bs.length ≤ sizeT ts + 7 := by omega
        have HLEN := Lib.hid hlen
        clear hlen
        obtain ⟨i0, hi, hz0, hz1, hz2⟩ := info_parts infoVV
        have Hi := Lib.hid hi
        have H0 := Lib.hid hz0
        have H1 := Lib.hid hz1
        have H2 := Lib.hid hz2
        clear hi hz0 hz1 hz2
        go_wp2_with fail
        clear hn2
        go_loopw [4, 9, 36] (fun l at_ i wr => ∃ k : Nat, k ≤ ts.length ∧ i = .int .i64 k ∧ at_ = .int .i64 (sizeT (ts.take k)) ∧ wr.ownsRow w2.heap.size 49 2 l k (cellsV (valsAt bs 0 (ts.take k))) ∧ Below w2.heap.size w2 wr) (fun _ _ i _ => ts.length - (intOf i).toNat)
        case atStart => exact ⟨0, by omega, rfl, rfl, ⟨rfl, .inl ⟨rfl, rfl⟩⟩, Below.refl _ _⟩
        case round =>
          obtain ⟨k, hk, rfl, rfl, ho, hb⟩ := hrel
          have BB := bnext B2 hb
          by_cases hlt : k < ts.length
          · obtain ⟨b, o, rfl, x0⟩ := (HU.out.below BB).get (cs := ts) k hlt
            have km := (hb.block _ (lt_of_block k2)).trans k2
            have hs := Lib.hid (sizeT_snoc ts k hlt)
            have h1 := HST.out (k + 1)
            rw [hs.out] at h1
            have hvs := Lib.hid (valsAt_snoc bs ts k hlt)
            have h64 := tyW_le ts[k]
            have lk := look_any wr _ km ts[k]
            generalize ts[k] = t at *
            have CG := Lib.hid (get_ok _ bs (sizeT (ts.take k)) (tyW t) wr (HV.out.below BB) HB.out h64 (by omega) hbm)
            generalize sizeT (ts.take k) = n at *
            have LK : Hid (∀ w9, Below w2.heap.size w2 w9 → (Instr.lookup 71 (.map (some w.heap.size)) (.int .u8 t) false).run Try.prog w9 = .ok (.int .i64 (tyW t)) w9) := fun w9 b9 => look_any w9 _ ((b9.block _ (lt_of_block k2)).trans k2) t
            generalize hm9 : tyW t = m at *
            have HM := Lib.hid hm9
            clear hm9 km
            generalize getN bs n m = x at *
            obtain ⟨a4, c4, rfl⟩ := owns_shapeN ho
            have NEWS := Lib.hid (news2 wr (t, wrap64 x))
            go_wp2_with fail
            refine Calls.mono CG.out ?_
            rintro e w5 ⟨rfl, rfl⟩
            go_wp2_with (at_builtin; refine wpList_append_own_at _ rfl _ _ 45 rfl w2.heap.size 49 i0 (.agg #[.int .u8 0, .int .i64 0]) 2 16 Try.underlying45 Hi.out H0.out H1.out H2.out rfl (by decide) (.slice a4 k c4) k _ rfl (ho.alloc _) ⟨wr.heap.size, 0, none⟩ 1 1 (rowV (t, wrap64 x)) rfl rfl NEWS.out (oc_row _) (by unfold maxLen; omega) (by omega) (by have := hb.size; simp; omega) ?_; intro v6 w6 ho6 hg6 hnil6 hv6; have b6 := (balloc hb (.cells #[.int .u8 t, .int .i64 (wrap64 x)] 49 (0, 0))).grown hg6 (by have := hb.size; simp; omega) (own_geN ho); have lk6 := LK.out _ b6)
            go_roundw
            case rel => exact ⟨k + 1, by omega, by go_num, by rw [hs.out]; go_num, by rw [hvs.out, cellsV_append]; exact ho6, b6⟩
            case measure => simp [intOf]; omega
          · obtain rfl : k = ts.length := by omega
            rw [List.take_length] at ho ⊢
            have CG := Lib.hid (get_ok _ bs (sizeT ts) (8 * bs.length - sizeT ts) wr (HV.out.below BB) HB.out (by omega) (by omega) hbm)
            have HO := Lib.hid (own_monoN ho B2.size)
            clear ho
            obtain ⟨r, hr⟩ : ∃ r : Nat, 8 * bs.length - sizeT ts = r := ⟨_, rfl⟩
            have er : 8 * (bs.length : Int) - (sizeT ts : Int) = (r : Int) := by omega
            rw [hr] at CG HERR
            clear hr
            by_cases hx : getN bs (sizeT ts) r = 0
            · have HE : Hid (errV bs ts = 0) := by
                show errV bs ts = 0
                rw [HERR.out, if_neg (by simpa using HLEN.out), if_neg (by simpa using hx)]
              rw [hx] at CG
              clear hx
              go_wp2_with fail
              refine Calls.mono CG.out ?_
              rintro e w5 ⟨rfl, rfl⟩
              go_wp2_with fail
              go_ret2
              exact ⟨BB, .inr ⟨HE.out, _, rfl, HO.out⟩⟩
            · have HE : Hid (errV bs ts = 5) := by
                show errV bs ts = 5
                rw [HERR.out, if_neg (by simpa using HLEN.out), if_pos hx]
              have hx2 : (((getN bs (sizeT ts) r : Nat) : Int) != 0) = true := by rw [bne_iff_ne]; omega
              generalize getN bs (sizeT ts) r = x at *
              clear hx
              go_wp2_with fail
              refine Calls.mono CG.out ?_
              rintro e w5 ⟨rfl, rfl⟩
              go_wp2_with fail
              go_ret2
              exact ⟨BB, .inl ⟨by rw [HE.out]; decide, by rw [HE.out]; rfl⟩⟩
      · have hn2 : ((bs.length : Int) != ((sizeT ts : Int) + 7) / 8) = true := by rw [bne_iff_ne]; omega
        have HE : Hid (errV bs ts = 5) := by
          show errV bs ts = 5
          rw [HERR.out, if_pos hlen]
        clear hlen
        go_wp2_with fail
        go_ret2
        exact ⟨B2, .inl ⟨by rw [HE.out]; decide, by rw [HE.out]; rfl⟩⟩
end Go.Proofs.Ytckpeclkkmapiaa
