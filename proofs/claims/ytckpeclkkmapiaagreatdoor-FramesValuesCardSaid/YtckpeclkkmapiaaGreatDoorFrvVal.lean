/-
  The walk of frames.Values.
-/
import Derived.Test.YtckpeclkkmapiaaGreatDoorFrv
import Derived.Maps.AppendAt
namespace Go.Proofs.YtckpeclkkmapiaaGreatDoor
open Go.RowKit
open Go

theorem infoVV : (Tryz.prog.info? 82).map (fun i => (i.zero, i.size, i.bytes)) = some (some (.agg #[.int .u8 0, .int .i64 0]), 2, 16) := by kernel_rfl
theorem news2 (w : World) (p : VT) : ∀ j u, (rowV p)[j]? = some u → (w.alloc (.cells #[.int .u8 p.1, .int .i64 p.2] 82 (0, 0))).cell? ((⟨w.heap.size, 0, none⟩ : Addr).add j) = some u :=
  cells_newN (cs := rowV p) (heap_alloc_new w _)
theorem own_geN {w : World} {base sz : Nat} {e : TypeId} {v : Value} {n : Nat} {xs : List Value} (h : w.ownsRow base e sz v n xs) : ∀ k, v.ownBlock = some k → base ≤ k := by
  intro k hk
  rcases h.2 with ⟨rfl, _⟩ | ⟨g, c, cur, rfl, hg, _⟩
  · cases hk
  · simp only [Value.ownBlock, Option.some.injEq] at hk
    omega
theorem owns_shapeN {w : World} {base sz : Nat} {e : TypeId} {v : Value} {n : Nat} {xs : List Value} (h : w.ownsRow base e sz v n xs) : ∃ a c, v = .slice a n c := by
  rcases h.2 with ⟨rfl, rfl⟩ | ⟨g, c, cur, rfl, _⟩
  · exact ⟨none, 0, rfl⟩
  · exact ⟨_, c, rfl⟩
theorem own_monoN {w : World} {base b sz : Nat} {e : TypeId} {v : Value} {n : Nat} {xs : List Value} (h : w.ownsRow base e sz v n xs) (hb : b ≤ base) : w.ownsRow b e sz v n xs := by
  refine ⟨h.1, ?_⟩
  rcases h.2 with h2 | ⟨g, c, cur, hv, hg, r⟩
  · exact .inl h2
  · exact .inr ⟨g, c, cur, hv, by omega, r⟩
/-- What comes of bytes, of types. -/
def ValP (bs : List Nat) (ts : List Int) (w : World) (e : Ending) (w' : World) : Prop :=
  Below w.heap.size w w' ∧ ((errV bs ts ≠ 0 ∧ e = .returned (.tuple #[.slice none 0 0, .int .i64 (errV bs ts)])) ∨
    (errV bs ts = 0 ∧ ∃ u, e = .returned (.tuple #[u, .int .i64 0]) ∧ w'.ownsRow w.heap.size 82 2 u ts.length (cellsV (valsAt bs 0 ts))))
set_option maxHeartbeats 2000000 in
theorem values_any (v u : Value) (bs : List Nat) (ts : List Int) (w : World) (h : Rd w v (by8 (iN bs))) (hb : NB bs) (hu : Rd w u (by8 ts)) (hm : ts.length ≤ 15000) (hbm : bs.length ≤ 140737488351232) :
    Calls Tryz.prog 9 #[v, u] w (ValP bs ts w) := by
  have HV := Lib.hid h
  have HU := Lib.hid hu
  have HB := Lib.hid hb
  obtain ⟨a, c, rfl, hc, hcm, _, _⟩ := h
  obtain ⟨a2, c2, rfl, hc2, hcm2, _, _⟩ := hu
  have hl : (by8 (iN bs)).length = bs.length := by simp
  have hl2 : (by8 ts).length = ts.length := by simp
  rw [hl] at hc HV
  rw [hl2] at hc2 HU
  rw [hl, hl2]
  unfold maxLen at hcm hcm2
  clear hl hl2 hb
  go_enter Tryz.func9, Tryz.ntmps9
  go_wp2_with fail
  refine (widths_any w).mono ?_
  rintro e w1 ⟨rfl, hw1⟩
  have k1 : w1.heap[w.heap.size]? = some (mapO .u8 widL) := by rw [hw1]; exact heap_alloc_new _ _
  have B1 : Below w.heap.size w w1 := by rw [hw1]; exact balloc (Below.refl _ _) _
  clear hw1
  go_wp2_with fail
  go_loop [4, 19] (fun l i => ∃ k : Nat, k ≤ ts.length ∧ i = .int .i64 k ∧ l = .slice none 0 0 ∧ (ts.take k).any (fun t => tyW t == 0) = false) (fun _ i => ts.length - (intOf i).toNat)
  case atStart => exact ⟨0, by omega, rfl, rfl, rfl⟩
  case round =>
    obtain ⟨k, hk, rfl, rfl, hany⟩ := hrel
    by_cases hlt : k < ts.length
    · obtain ⟨b, o, rfl, x0⟩ := (HU.out.below B1).get (cs := ts) k hlt
      have HBAD : Hid (tyW ts[k] = 0 → errV bs ts = 1) := fun h => by
        unfold errV
        rw [if_pos]
        rw [List.any_eq_true]
        exact ⟨ts[k], List.getElem_mem hlt, by rw [h]; rfl⟩
      have HGOOD : Hid (tyW ts[k] ≠ 0 → (ts.take (k + 1)).any (fun t => tyW t == 0) = false) := fun h => by
        rw [take_snoc _ _ hlt, List.any_append, hany]
        simp [h]
      have lk := look_any w1 _ k1 ts[k]
      clear hany
      generalize ts[k] = t at *
      by_cases hz : tyW t = 0
      · have hz2 : ((tyW t : Int) == 0) = true := by rw [beq_iff_eq]; omega
        have HE := Lib.hid (HBAD.out hz)
        clear hz
        go_wp2_with fail
        go_ret2
        exact ⟨B1, .inl ⟨by rw [HE.out]; decide, by rw [HE.out]; rfl⟩⟩
      · have hz2 : ((tyW t : Int) == 0) = false := by rw [beq_eq_false_iff_ne]; omega
        have HE := Lib.hid (HGOOD.out hz)
        clear hz
        go_wp2_with fail
        go_round
        case rel => exact ⟨k + 1, by omega, by go_num, rfl, HE.out⟩
        case measure => simp [intOf]; omega
    · obtain rfl : k = ts.length := by omega
      rw [List.take_length] at hany
      have HANY := Lib.hid hany
      clear hany
      have hsz := sizeT_le ts
      go_wp2_with fail
      refine (sizes_any _ ts w1 (HU.out.below B1) hm).mono ?_
      rintro e w2 ⟨rfl, b2⟩
      have k2 := (b2.block _ (lt_of_block k1)).trans k1
      have B2 := bnext B1 b2
      clear b2 B1 k1
      go_wp2_with fail
      refine (fbytes_any _ w2 (by omega)).mono ?_
      rintro e w3 ⟨rfl, rfl⟩
      have HST : Hid (∀ k, sizeT (ts.take k) ≤ sizeT ts) := sizeT_take ts
      have HERR : Hid (errV bs ts = if bs.length ≠ (sizeT ts + 7) / 8 then 5 else if getN bs (sizeT ts) (8 * bs.length - sizeT ts) ≠ 0 then 5 else 0) := by
        show errV bs ts = _
        unfold errV
        rw [if_neg (by rw [HANY.out]; decide)]
      by_cases hlen : bs.length = (sizeT ts + 7) / 8
      · have hn2 : ((bs.length : Int) != ((sizeT ts : Int) + 7) / 8) = false := by rw [bne_eq_false_iff_eq]; omega
        have hle : sizeT ts ≤ 8 * bs.length := by omega
        have hle8 : 8 * bs.length ≤ sizeT ts + 7 := by omega
        have HLEN := Lib.hid hlen
        clear hlen
        obtain ⟨i0, hi, hz0, hz1, hz2⟩ := info_parts infoVV
        have Hi := Lib.hid hi
        have H0 := Lib.hid hz0
        have H1 := Lib.hid hz1
        have H2 := Lib.hid hz2
        clear hi hz0 hz1 hz2
        go_wp2_with fail
        clear hn2
        go_loopw [4, 9, 36] (fun l at_ i wr => ∃ k : Nat, k ≤ ts.length ∧ i = .int .i64 k ∧ at_ = .int .i64 (sizeT (ts.take k)) ∧ wr.ownsRow w2.heap.size 82 2 l k (cellsV (valsAt bs 0 (ts.take k))) ∧ Below w2.heap.size w2 wr) (fun _ _ i _ => ts.length - (intOf i).toNat)
        case atStart => exact ⟨0, by omega, rfl, rfl, ⟨rfl, .inl ⟨rfl, rfl⟩⟩, Below.refl _ _⟩
        case round =>
          obtain ⟨k, hk, rfl, rfl, ho, hb⟩ := hrel
          have BB := bnext B2 hb
          by_cases hlt : k < ts.length
          · obtain ⟨b, o, rfl, x0⟩ := (HU.out.below BB).get (cs := ts) k hlt
            have km := (hb.block _ (lt_of_block k2)).trans k2
            have hs := Lib.hid (sizeT_snoc ts k hlt)
            have h1 := HST.out (k + 1)
            rw [hs.out] at h1
            have hvs := Lib.hid (valsAt_snoc bs ts k hlt)
            have h64 := tyW_le ts[k]
            have lk := look_any wr _ km ts[k]
            generalize ts[k] = t at *
            have CG := Lib.hid (get_ok _ bs (sizeT (ts.take k)) (tyW t) wr (HV.out.below BB) HB.out h64 (by omega) hbm)
            generalize sizeT (ts.take k) = n at *
            have LK : Hid (∀ w9, Below w2.heap.size w2 w9 → (Instr.lookup 75 (.map (some w.heap.size)) (.int .u8 t) false).run Tryz.prog w9 = .ok (.int .i64 (tyW t)) w9) := fun w9 b9 => look_any w9 _ ((b9.block _ (lt_of_block k2)).trans k2) t
            generalize hm9 : tyW t = m at *
            have HM := Lib.hid hm9
            clear hm9 km
            generalize getN bs n m = x at *
            obtain ⟨a4, c4, rfl⟩ := owns_shapeN ho
            have NEWS := Lib.hid (news2 wr (t, wrap64 x))
            go_wp2_with fail
            refine Calls.mono CG.out ?_
            rintro e w5 ⟨rfl, rfl⟩
            go_wp2_with (at_builtin; refine wpList_append_own_at _ rfl _ _ 26 rfl w2.heap.size 82 i0 (.agg #[.int .u8 0, .int .i64 0]) 2 16 Tryz.underlying26 Hi.out H0.out H1.out H2.out rfl (by decide) (.slice a4 k c4) k _ rfl (ho.alloc _) ⟨wr.heap.size, 0, none⟩ 1 1 (rowV (t, wrap64 x)) rfl rfl NEWS.out (oc_row _) (by unfold maxLen; omega) (by omega) (by have := hb.size; simp; omega) ?_; intro v6 w6 ho6 hg6 hnil6 hv6; have b6 := (balloc hb (.cells #[.int .u8 t, .int .i64 (wrap64 x)] 82 (0, 0))).grown hg6 (by have := hb.size; simp; omega) (own_geN ho); have lk6 := LK.out _ b6)
            go_roundw
            case rel => exact ⟨k + 1, by omega, by go_num, by rw [hs.out]; go_num, by rw [hvs.out, cellsV_append]; exact ho6, b6⟩
            case measure => simp [intOf]; omega
          · obtain rfl : k = ts.length := by omega
            rw [List.take_length] at ho ⊢
            have CG := Lib.hid (get_ok _ bs (sizeT ts) (8 * bs.length - sizeT ts) wr (HV.out.below BB) HB.out (by omega) (by omega) hbm)
            have HO := Lib.hid (own_monoN ho B2.size)
            clear ho
            obtain ⟨r, hr⟩ : ∃ r : Nat, 8 * bs.length - sizeT ts = r := ⟨_, rfl⟩
            have er : 8 * (bs.length : Int) - (sizeT ts : Int) = (r : Int) := by omega
            rw [hr] at CG HERR
            clear hr
            by_cases hx : getN bs (sizeT ts) r = 0
            · have HE : Hid (errV bs ts = 0) := by
                show errV bs ts = 0
                rw [HERR.out, if_neg (by simpa using HLEN.out), if_neg (by simpa using hx)]
              rw [hx] at CG
              clear hx
              go_wp2_with fail
              refine Calls.mono CG.out ?_
              rintro e w5 ⟨rfl, rfl⟩
              go_wp2_with fail
              go_ret2
              exact ⟨BB, .inr ⟨HE.out, _, rfl, HO.out⟩⟩
            · have HE : Hid (errV bs ts = 5) := by
                show errV bs ts = 5
                rw [HERR.out, if_neg (by simpa using HLEN.out), if_pos hx]
              have hx2 : (((getN bs (sizeT ts) r : Nat) : Int) != 0) = true := by rw [bne_iff_ne]; omega
              generalize getN bs (sizeT ts) r = x at *
              clear hx
              go_wp2_with fail
              refine Calls.mono CG.out ?_
              rintro e w5 ⟨rfl, rfl⟩
              go_wp2_with fail
              go_ret2
              exact ⟨BB, .inl ⟨by rw [HE.out]; decide, by rw [HE.out]; rfl⟩⟩
      · have hn2 : ((bs.length : Int) != ((sizeT ts : Int) + 7) / 8) = true := by rw [bne_iff_ne]; omega
        have HE : Hid (errV bs ts = 5) := by
          show errV bs ts = 5
          rw [HERR.out, if_pos hlen]
        clear hlen
        go_wp2_with fail
        go_ret2
        exact ⟨B2, .inl ⟨by rw [HE.out]; decide, by rw [HE.out]; rfl⟩⟩
end Go.Proofs.YtckpeclkkmapiaaGreatDoor
