/-
  The walk of belfryref03.Values.
-/
import Derived.Test.YtckpeclkkmapiaaGreatDoorRefAll
import Derived.Test.YtckpeclkkmapiaaGreatDoorRefGet
import Derived.Test.YtckpeclkkmapiaaGreatDoorFrvVal
import Derived.Deep.RegionHeld3
import Derived.Deep.AppendLies
namespace Go.Proofs.YtckpeclkkmapiaaGreatDoor
open Go.RowKit
open Go

set_option maxRecDepth 20000 in
set_option maxHeartbeats 4000000 in
theorem rvalues_any (v u : Value) (bs : List Nat) (ts : List Int) (w : World) (h : Rd w v (by8 (iN bs))) (hb : NB bs) (hu : Rd w u (by8 ts)) (hm : ts.length ≤ 15000) (hbm : bs.length ≤ 140737488351232) :
    Calls Tryz.prog 10 #[v, u] w (ValP bs ts w) := by
  have HV := Lib.hid h
  have HU := Lib.hid hu
  have HB := Lib.hid hb
  obtain ⟨a, c, rfl, hc, hcm, _, _⟩ := h
  obtain ⟨a2, c2, rfl, hc2, hcm2, _, _⟩ := hu
  have hl : (by8 (iN bs)).length = bs.length := by simp
  have hl2 : (by8 ts).length = ts.length := by simp
  rw [hl] at hc HV
  rw [hl2] at hc2 HU
  rw [hl, hl2]
  unfold maxLen at hcm hcm2
  clear hl hl2 hb
  go_enter Tryz.func10, Tryz.ntmps10
  go_wp2_with fail
  go_loop [6] (fun i => ∃ k : Nat, k ≤ ts.length ∧ i = .int .i64 k ∧ (ts.take k).any (fun t => tyW t == 0) = false) (fun i => ts.length - (intOf i).toNat)
  case atStart => exact ⟨0, by omega, rfl, rfl⟩
  case round =>
    obtain ⟨k, hk, rfl, hany⟩ := hrel
    by_cases hlt : k < ts.length
    · obtain ⟨b, o, rfl, x0⟩ := HU.out.get (cs := ts) k hlt
      have HBAD : Hid (tyW ts[k] = 0 → errV bs ts = 1) := fun h => by
        unfold errV
        rw [if_pos]
        rw [List.any_eq_true]
        exact ⟨ts[k], List.getElem_mem hlt, by rw [h]; rfl⟩
      have HGOOD : Hid (tyW ts[k] ≠ 0 → (ts.take (k + 1)).any (fun t => tyW t == 0) = false) := fun h => by
        rw [take_snoc _ _ hlt, List.any_append, hany]
        simp [h]
      clear hany
      generalize ts[k] = t at *
      have RW := Lib.hid (rwide_any t w)
      generalize tyW t = m at *
      by_cases hz : m = 0
      · have hz2 : ((m : Int) == 0) = true := by rw [beq_iff_eq]; omega
        have HE := Lib.hid (HBAD.out hz)
        clear hz
        go_wp2_with fail
        refine Calls.mono RW.out ?_
        rintro e w1 ⟨rfl, rfl⟩
        go_wp2_with fail
        go_ret2
        exact ⟨Below.refl _ _, .inl ⟨by rw [HE.out]; decide, by rw [HE.out]; rfl⟩⟩
      · have hz2 : ((m : Int) == 0) = false := by rw [beq_eq_false_iff_ne]; omega
        have HE := Lib.hid (HGOOD.out hz)
        clear hz
        go_wp2_with fail
        refine Calls.mono RW.out ?_
        rintro e w1 ⟨rfl, rfl⟩
        go_wp2_with fail
        go_round
        case rel => exact ⟨k + 1, by omega, by go_num, HE.out⟩
        case measure => simp [intOf]; omega
    · obtain rfl : k = ts.length := by omega
      rw [List.take_length] at hany
      have HANY := Lib.hid hany
      clear hany
      have hsz := sizeT_le ts
      go_wp2_with fail
      refine (rall_any _ ts w HU.out hm).mono ?_
      rintro e w2 ⟨rfl, rfl⟩
      have HST : Hid (∀ k, sizeT (ts.take k) ≤ sizeT ts) := sizeT_take ts
      have HERR : Hid (errV bs ts = if bs.length ≠ (sizeT ts + 7) / 8 then 5 else if getN bs (sizeT ts) (8 * bs.length - sizeT ts) ≠ 0 then 5 else 0) := by
        show errV bs ts = _
        unfold errV
        rw [if_neg (by rw [HANY.out]; decide)]
      by_cases hlen : bs.length = (sizeT ts + 7) / 8
      · have hn2 : ((bs.length : Int) != ((sizeT ts : Int) + 7) / 8) = false := by rw [bne_eq_false_iff_eq]; omega
        have hle : sizeT ts ≤ 8 * bs.length := by omega
        have hle8 : 8 * bs.length ≤ sizeT ts + 7 := by omega
        have HLEN := Lib.hid hlen
        clear hlen
        have CG := rnum_ok _ bs (sizeT ts) (8 * bs.length - sizeT ts) w HV.out HB.out (by omega) (by omega) hbm
        obtain ⟨r, hr⟩ : ∃ r : Nat, 8 * bs.length - sizeT ts = r := ⟨_, rfl⟩
        have er : 8 * (bs.length : Int) - (sizeT ts : Int) = (r : Int) := by omega
        rw [hr] at CG HERR
        clear hr
        have HCG := Lib.hid CG
        clear CG
        by_cases hx : getN bs (sizeT ts) r = 0
        · have HE : Hid (errV bs ts = 0) := by
            show errV bs ts = 0
            rw [HERR.out, if_neg (by simpa using HLEN.out), if_neg (by simpa using hx)]
          rw [hx] at HCG
          clear hx
          go_wp2_with fail
          refine Calls.mono HCG.out ?_
          rintro e w5 ⟨rfl, rfl⟩
          go_wp2_with fail
          obtain ⟨i0, hi, hz0, hz1, hz2⟩ := info_parts infoVV
          have Hi := Lib.hid hi
          have H0 := Lib.hid hz0
          have H1 := Lib.hid hz1
          have H2 := Lib.hid hz2
          clear hi hz0 hz1 hz2
          clear hn2
          go_loopw [8, 9, 10] (fun l at_ i wr => ∃ k : Nat, k ≤ ts.length ∧ i = .int .i64 k ∧ at_ = .int .i64 (sizeT (ts.take k)) ∧ wr.ownsRow w.heap.size 82 2 l k (cellsV (valsAt bs 0 (ts.take k))) ∧ Below w.heap.size w wr) (fun _ _ i _ => ts.length - (intOf i).toNat)
          case atStart => exact ⟨0, by omega, rfl, rfl, ⟨rfl, .inl ⟨rfl, rfl⟩⟩, Below.refl _ _⟩
          case round =>
            obtain ⟨k, hk, rfl, rfl, ho, hb⟩ := hrel
            by_cases hlt : k < ts.length
            · obtain ⟨b, o, rfl, xw⟩ := HU.out.get (cs := ts) k hlt
              have xlt := World.block_lt_of_cell? w _ xw
              have x0 := (hb.cell (p := ⟨b, o + k, none⟩) xlt).trans xw
              have hs := Lib.hid (sizeT_snoc ts k hlt)
              have h1 := HST.out (k + 1)
              rw [hs.out] at h1
              have hvs := Lib.hid (valsAt_snoc bs ts k hlt)
              have h64 := tyW_le ts[k]
              generalize ts[k] = t at *
              have hbd := bdraw hb 1
              have CG := Lib.hid (rnum_ok _ bs (sizeT (ts.take k)) (tyW t) wr.drew (HV.out.below hbd) HB.out h64 (by omega) hbm)
              generalize sizeT (ts.take k) = n at *
              have RW := Lib.hid (rwide_any t wr)
              generalize hm9 : tyW t = m at *
              have HM := Lib.hid hm9
              clear hm9
              generalize getN bs n m = x at *
              obtain ⟨a4, c4, rfl⟩ := owns_shapeN ho
              go_wp2_with fail
              refine Calls.mono RW.out ?_
              rintro e w5 ⟨rfl, rfl⟩
              go_wp2_with fail
              have xA : (wr.alloc (.cells #[.int .u8 t, .int .i64 (IntKind.i64.wrap (x : Int))] 82 (0, 0))).drew.cell? ⟨b, o + k, none⟩ = some (.int .u8 t) := ((balloc hb (.cells #[.int .u8 t, .int .i64 (IntKind.i64.wrap (x : Int))] 82 (0, 0))).cell (p := ⟨b, o + k, none⟩) xlt).trans xw
              have x0' : wr.drew.cell? ⟨b, o + k, none⟩ = some (.int .u8 t) := x0
              have HO' : Hid ((wr.alloc (.cells #[.int .u8 t, .int .i64 (IntKind.i64.wrap (x : Int))] 82 (0, 0))).drew.ownsRow w.heap.size 82 2 (.slice a4 k c4) k (cellsV (valsAt bs 0 (ts.take k)))) := ho.alloc _
              have HBA : Hid (Below w.heap.size w (wr.alloc (.cells #[.int .u8 t, .int .i64 (IntKind.i64.wrap (x : Int))] 82 (0, 0))).drew) := bdraw (balloc hb (.cells #[.int .u8 t, .int .i64 (IntKind.i64.wrap (x : Int))] 82 (0, 0))) 1
              have NEWS : Hid (∀ j u, (rowV (t, IntKind.i64.wrap (x : Int)))[j]? = some u → (wr.alloc (.cells #[.int .u8 t, .int .i64 (IntKind.i64.wrap (x : Int))] 82 (0, 0))).drew.cell? ((⟨wr.heap.size, 0, none⟩ : Addr).add j) = some u) := news2 wr (t, IntKind.i64.wrap (x : Int))
              have HGE := Lib.hid (own_geN ho)
              have HSZ := Lib.hid hb.size
              go_region_held3 (fun w' => w'.cell? ⟨b, o + k, none⟩ = some (.int .u8 t))
                (first | with_reducible exact x0' | with_reducible exact xA | with_reducible exact E6)
                (first
                  | (go_at_call 39; refine Calls.mono CG.out ?_; rintro e w5 ⟨rfl, rfl⟩)
                  | (refine step_append_lies _ (by rfl) _ _ _ (by rfl) w.heap.size 82 i0 (.agg #[.int .u8 0, .int .i64 0]) 2 16 Tryz.underlying26 Hi.out H0.out H1.out H2.out rfl (by decide) (.slice a4 k c4) k _ (by rfl) HO'.out ⟨wr.heap.size, 0, none⟩ 1 1 (rowV (t, IntKind.i64.wrap (x : Int))) (by rfl) rfl NEWS.out (oc_row _) (by decide) (by unfold maxLen; omega) (by omega) HBA.out.size _ rfl ?_; intro g6 c6 w6 ho6 hg6 hat6 hlt6; have b6 := HBA.out.grown hg6 HBA.out.size HGE.out; have E6 := (b6.cell (p := ⟨b, o + k, none⟩) xlt).trans xw))
              go_wp2_with fail
              go_roundw
              case rel => exact ⟨k + 1, by omega, by go_num, by rw [hs.out]; go_num, by rw [hvs.out, cellsV_append, ← IntWalk.i64_left]; exact ho6, b6⟩
              case measure => simp [intOf]; omega
            · obtain rfl : k = ts.length := by omega
              rw [List.take_length] at ho
              go_wp2_with fail
              go_ret2
              exact ⟨hb, .inr ⟨HE.out, _, rfl, ho⟩⟩
        · have HE : Hid (errV bs ts = 5) := by
            show errV bs ts = 5
            rw [HERR.out, if_neg (by simpa using HLEN.out), if_pos hx]
          have hx2 : (((getN bs (sizeT ts) r : Nat) : Int) != 0) = true := by rw [bne_iff_ne]; omega
          generalize getN bs (sizeT ts) r = x at *
          clear hx
          go_wp2_with fail
          refine Calls.mono HCG.out ?_
          rintro e w5 ⟨rfl, rfl⟩
          go_wp2_with fail
          go_ret2
          exact ⟨Below.refl _ _, .inl ⟨by rw [HE.out]; decide, by rw [HE.out]; rfl⟩⟩
      · have hn2 : ((bs.length : Int) != ((sizeT ts : Int) + 7) / 8) = true := by rw [bne_iff_ne]; omega
        have HE : Hid (errV bs ts = 5) := by
          show errV bs ts = 5
          rw [HERR.out, if_pos hlen]
        clear hlen
        go_wp2_with fail
        go_ret2
        exact ⟨Below.refl _ _, .inl ⟨by rw [HE.out]; decide, by rw [HE.out]; rfl⟩⟩
end Go.Proofs.YtckpeclkkmapiaaGreatDoor
