/-
  The walk of BusRound: what comes of whatever is sent, with whatever goes wrong, is the reference's answer, in new memory; nothing is changed.
-/
import Derived.Test.YtafamnodeliaaaaGreatDoorBrdBoth
import Derived.Test.YtafamnodeliaaaaGreatDoorSame
import Derived.Test.YtafamnodeliaaaaGreatDoorQuiet
import Derived.Maps.AppendAt
namespace Go.Proofs.YtafamnodeliaaaaGreatDoor
open Go.RowKit
open Go

theorem agg47 (w : World) : (isAgg 47).run Tryz.prog w = .ok false w := by kernel_rfl
theorem agg22 (w : World) : (isAgg 22).run Tryz.prog w = .ok false w := by kernel_rfl
theorem agg23 (w : World) : (isAgg 23).run Tryz.prog w = .ok false w := by kernel_rfl
theorem aggI (w : World) : (isAgg 3).run Tryz.prog w = .ok false w := by kernel_rfl
theorem run_loadVar_one {P : Program} {w : World} {p : Addr} {ty : TypeId} {v : Value} (hc : w.cell? p = some v) (ha : (isAgg ty).run P w = .ok false w) : (loadVar ty p).run P w = .ok v w := by
  simp [loadVar, Sem.run_bind, ha, load, Sem.run, hc]

theorem pool_of {w : World} {base b : Nat} {vs ss : List Value} {os css : List (List Int)} (h1 : Outs w b vs os) (h2 : Outs w base ss css) (hb : base ≤ b) (h3 : ∀ (j : Nat) (u : Value), ss[j]? = some u → ∀ g, u.ownBlock = some g → g < b) : Pool base (vs.zip os ++ ss.zip css) w := by
  have key : ∀ (j : Nat) (p : Value × List Int), (vs.zip os ++ ss.zip css)[j]? = some p → (j < vs.length ∧ vs[j]? = some p.1 ∧ os[j]? = some p.2) ∨ (vs.length ≤ j ∧ ss[j - vs.length]? = some p.1 ∧ css[j - vs.length]? = some p.2) := by
    intro j p hp
    have hl : (vs.zip os).length = vs.length := by rw [List.length_zip, h1.len, Nat.min_self]
    rcases Nat.lt_or_ge j vs.length with hj | hj
    · rw [List.getElem?_append_left (by omega)] at hp
      exact .inl ⟨hj, List.getElem?_zip_eq_some.1 hp⟩
    · rw [List.getElem?_append_right (by omega), hl] at hp
      exact .inr ⟨hj, List.getElem?_zip_eq_some.1 hp⟩
  refine ⟨fun j p hp => ?_, fun i j p q hij hp hq x hx hy => ?_⟩
  · rcases key j p hp with ⟨_, h4, h5⟩ | ⟨_, h4, h5⟩
    · exact (h1.each j _ _ h4 h5).mono hb
    · exact h2.each _ _ _ h4 h5
  · have ex := room_own hx
    have ey := room_own hy
    rcases key i p hp with ⟨_, h4, h5⟩ | ⟨hi, h4, h5⟩
    · rcases key j q hq with ⟨_, h6, h7⟩ | ⟨_, h6, h7⟩
      · exact h1.apart i j _ _ hij h4 h6 x ex ey
      · have := ((h1.each i _ _ h4 h5).at_ x ex).1
        have := h3 _ _ h6 x ey
        omega
    · rcases key j q hq with ⟨_, h6, h7⟩ | ⟨hj, h6, h7⟩
      · have := ((h1.each j _ _ h6 h7).at_ x ey).1
        have := h3 _ _ h4 x ex
        omega
      · exact h2.apart (i - vs.length) (j - vs.length) _ _ (by omega) h4 h6 x ex ey

set_option maxRecDepth 40000 in
set_option maxHeartbeats 4000000 in
theorem walk_BusRound (v0 : Value) (W : World) (A0 : Arg Tryz.prog 25 W v0) :
    Calls Tryz.prog 3 #[v0] W fun e w' => e = .returned (.bool true) ∧ Below W.heap.size W w' := by
  obtain ⟨v, u, css, fs, rd, rfl, hS, hB, hL, hF, hFL, hwf, _⟩ := A0.sending22
  clear A0 hB
  obtain ⟨a, c, rfl, hc, hcm⟩ := hS.len
  obtain ⟨a2, c2, rfl, hc2, hcm2⟩ := hF.shape
  rw [List.length_map] at *
  unfold maxLen at hcm2
  have HS := Lib.hid hS
  have HF := Lib.hid hF
  have hh : ∀ f ∈ fs, 0 ≤ f.h := fun f hf => (bounds_u8 (hwf f hf).2.2.1).1
  have HH := Lib.hid hh
  have B1 := balloc (Below.refl W.heap.size W) (.cells #[.slice a css.length c, .slice a2 fs.length c2, .int .i64 rd] 25)
  have K0 := Lib.hid (heap_alloc_new W (.cells #[.slice a css.length c, .slice a2 fs.length c2, .int .i64 rd] 25 (0, 0)))
  clear hwf hS hF hh
  go_enter Tryz.func3, Tryz.ntmps3
  go_wp2_with fail
  refine (great_le _ _ css fs.length a2 c2 rd _ (HS.out.below B1) rfl).mono ?_
  rintro e w1 ⟨⟨b, rfl, hgr⟩, b1⟩
  have B2 := bnext B1 b1
  have K1 := Lib.hid ((b1.block _ (lt_of_block K0.out)).trans K0.out)
  clear B1 b1 K0
  cases b
  case true =>
    clear hgr
    go_wp2_with fail
    refine (lives22_any _).mono ?_
    rintro e w2 ⟨rfl, b2⟩
    go_wp2_with fail
    go_ret
    exact ⟨rfl, bnext B2 b2⟩
  obtain ⟨hm100, hm2, hf300⟩ := hgr rfl
  obtain ⟨er, os, hos, hos2, R1, R2⟩ := round_both css fs rd HH.out hm100 hm2
  have HR1 := Lib.hid R1
  have HR2 := Lib.hid R2
  have HM2 := Lib.hid hm2
  have HO2 := Lib.hid hos2
  have hm47 : ∀ cs ∈ css, cs.length ≤ 140737488351232 := fun cs hcs => by have := HM2.out cs hcs; omega
  have HM47 := Lib.hid hm47
  obtain ⟨i0, hi, hz0, hz1, hz2⟩ := info_parts infoSB
  have HI := Lib.hid hi
  have HZ := Lib.hid hz0
  have HZ1 := Lib.hid hz1
  have HZ2 := Lib.hid hz2
  have S0 : SJ W w1.heap.size #[.slice a css.length c, .slice a2 fs.length c2, .int .i64 rd] (.slice none 0 0) [] [] (w1.alloc (.cells #[.int .i64 0, .slice none 0 0, .slice none 0 0, .slice none 0 0, .slice none 0 0, .slice none 0 0, .slice none 0 0, .slice none 0 0, .slice none 0 0, .slice none 0 0, .slice none 0 0, .slice none 0 0, .slice none 0 0, .slice none 0 0, .slice none 0 0, .slice none 0 0, .slice none 0 0, .slice none 0 0] 46 (0, 0))) :=
    ⟨⟨balloc B2 _, ⟨rfl, .inl ⟨rfl, rfl⟩⟩, Outs.nil _ _⟩, by simp, bkB_start W.heap.size w1 B2.size, (heap_alloc_old (h := lt_of_block K1.out) w1 (.cells #[.int .i64 0, .slice none 0 0, .slice none 0 0, .slice none 0 0, .slice none 0 0, .slice none 0 0, .slice none 0 0, .slice none 0 0, .slice none 0 0, .slice none 0 0, .slice none 0 0, .slice none 0 0, .slice none 0 0, .slice none 0 0, .slice none 0 0, .slice none 0 0, .slice none 0 0, .slice none 0 0] 46 (0, 0))).trans K1.out⟩
  clear hgr R1 R2 hm2 hos2 hm47 hi hz0 hz1 hz2 K1
  go_wp2_with fail
  generalize w1.alloc (.cells #[.int .i64 0, .slice none 0 0, .slice none 0 0, .slice none 0 0, .slice none 0 0, .slice none 0 0, .slice none 0 0, .slice none 0 0, .slice none 0 0, .slice none 0 0, .slice none 0 0, .slice none 0 0, .slice none 0 0, .slice none 0 0, .slice none 0 0, .slice none 0 0, .slice none 0 0, .slice none 0 0] 46 (0, 0)) = w2 at *
  generalize w1.heap.size = gb at *
  clear B2
  go_loopw [3, 5] (fun vo i wr => ∃ k : Nat, k ≤ css.length ∧ i = .int .i64 k ∧ ∃ ss, Hid (ss.length = k) ∧ SJ W gb #[.slice a css.length c, .slice a2 fs.length c2, .int .i64 rd] vo ss (css.take k) wr) (fun _ i _ => css.length - (intOf i).toNat)
  case atStart => exact ⟨0, by omega, rfl, [], rfl, S0⟩
  case round =>
    clear S0
    obtain ⟨k, hk, rfl, ss, HSL, S1⟩ := hrel
    have kx := S1.kx
    have x0 : wr.cell? ⟨W.heap.size, 0, none⟩ = some (.slice a css.length c) := cell_of_row _ _ 0 _ _ _ kx
    by_cases hlt : k < css.length
    · obtain ⟨bq, oq, zq, yq, rfl, z0, rk, _, _, hlk⟩ := (HS.out.below S1.rj.bel).at k css[k] (List.getElem?_eq_getElem hlt)
      have HT := Lib.hid (fun (w' : World) (h : w' = wr) => twinB_any (.slice zq css[k].length yq) css[k] w' (h ▸ rk) hlk)
      have HTK : Hid (css.take (k + 1) = css.take k ++ [css[k]]) := take_snoc _ _ hlt
      have S2 := Lib.hid S1
      generalize css[k] = cs at *
      clear S1 rk kx
      go_wp2_with fail
      refine Calls.mono (HT.out _ rfl) ?_
      rintro e w5 ⟨vt, rfl, b5, t5⟩
      have R7 := (S2.out.below b5).rj
      obtain ⟨rfl, _⟩ := id t5
      have HST := Lib.hid (fun vo' w' o h1 h2 => S2.out.step (vo' := vo') (w' := w') b5 t5 hlk o h1 h2)
      clear x0 z0 t5
      go_wp2_with (at_builtin; refine wpList_append_own_at _ rfl _ _ 22 rfl W.heap.size 47 i0 (.slice none 0 0) 1 24 Tryz.underlying22 HI.out HZ.out HZ1.out HZ2.out rfl (by decide) _ _ _ rfl (R7.out.alloc _) ⟨w5.heap.size, 0, none⟩ 1 1 [.slice (some ⟨wr.heap.size, 0, none⟩) cs.length (cs.length + 1)] rfl rfl (cell_one_new _ _ _) (by simp [Value.oneCell']) (by rw [HSL.out]; unfold maxLen; omega) (by rw [HSL.out]; omega) (by have := R7.bel.size; simp; omega) ?_; intro vo' w7 hown7 hgrow7 hnil7 hv7; clear hnil7 hv7)
      have S8 := HST.out _ _ _ hown7 hgrow7
      rw [← HTK.out] at S8
      have HV2 : Hid ((ss ++ [Value.slice (some ⟨wr.heap.size, 0, none⟩) cs.length (cs.length + 1)]).length = k + 1) := by unfold Hid; rw [List.length_append, HSL.out]; rfl
      clear R7 hown7 hgrow7
      go_roundw
      case rel => exact ⟨k + 1, by omega, by go_num, _, HV2, S8⟩
      case measure => simp [intOf]; omega
    · obtain rfl : k = css.length := by omega
      rw [List.take_length] at S1
      have x1 : wr.cell? ⟨W.heap.size, 1, none⟩ = some (.slice a2 fs.length c2) := cell_of_row _ _ 1 _ _ _ kx
      have S2 := Lib.hid S1
      clear S1 kx hlt
      go_wp2_with fail
      refine (twinFl_any _ fs wr (HF.out.below S2.out.rj.bel) (by omega)).mono ?_
      rintro e w3 ⟨vf, rfl, b3, t3⟩
      obtain ⟨rfl, _⟩ := id t3
      have HT3 := Lib.hid t3
      have S3 := Lib.hid (S2.out.below b3)
      have hgf := S2.out.rj.bel.size
      generalize wr.heap.size = gf at *
      clear x0 x1 S2 b3 t3
      have kx := S3.out.kx
      have x2 : w3.cell? ⟨W.heap.size, 2, none⟩ = some (.int .i64 rd) := cell_of_row _ _ 2 _ _ _ kx
      clear kx
      go_wp2_with fail
      clear x2
      refine Calls.mono (HR1.out _ _ w3 (S3.out.rj.outs.rdB (own_rd S3.out.rj.out) HM47.out) (HT3.out.rd (by omega))) ?_
      rintro e w4 ⟨va, vs, rfl, b4, oa, po⟩
      obtain ⟨aa, ca, rfl, _, _⟩ := oa.shape
      have K4 := Lib.hid ((b4.block _ (lt_of_block S3.out.kx)).trans S3.out.kx)
      have x0 : w4.cell? ⟨W.heap.size, 0, none⟩ = some (.slice a css.length c) := cell_of_row _ _ 0 _ _ _ K4.out
      have x1 : w4.cell? ⟨W.heap.size, 1, none⟩ = some (.slice a2 fs.length c2) := cell_of_row _ _ 1 _ _ _ K4.out
      have x2 : w4.cell? ⟨W.heap.size, 2, none⟩ = some (.int .i64 rd) := cell_of_row _ _ 2 _ _ _ K4.out
      have HA := Lib.hid oa
      have HP := Lib.hid po
      have B4 := bnext S3.out.rj.bel b4
      clear oa po
      go_wp2_with fail
      clear x0 x1 x2
      refine Calls.mono (HR2.out _ _ w4 (HS.out.below B4) (HF.out.below B4)) ?_
      rintro e w5 ⟨vb, ws, rfl, b5, ob, pb⟩
      obtain ⟨ab, cb, rfl, _, _⟩ := ob.shape
      have K5 := Lib.hid ((b5.block _ (lt_of_block K4.out)).trans K4.out)
      have x1 : w5.cell? ⟨W.heap.size, 1, none⟩ = some (.slice a2 fs.length c2) := cell_of_row _ _ 1 _ _ _ K5.out
      have hvl := HP.out.len
      have hwl := pb.len
      have e9 : ((vs.length : Int) != (ws.length : Int)) = false := by rw [bne_eq_false_iff_eq]; omega
      have HB := Lib.hid ob
      have HQ := Lib.hid pb
      have B5 := bnext B4 b5
      clear ob pb
      go_wp2_with fail
      refine (leftFl_any gf _ _ fs w5 (HT3.out.below (bnext b4 b5)) (HF.out.below B5) (by omega)).mono ?_
      rintro e w6 ⟨rfl, b6⟩
      have Q0 : QJ W gb gf #[.slice a css.length c, .slice a2 fs.length c2, .int .i64 rd] (.slice aa vs.length ca) (.slice ab ws.length cb) u3 (.slice (some ⟨gf, 0, none⟩) fs.length (fs.length + 1)) vs ws ss os css fs 0 w6 := by
        have b46 := bnext b5 b6
        have b36 := bnext b4 b46
        have hg3 := S3.out.rj.bel.size
        refine ⟨bnext B5 b6, (b6.block _ (lt_of_block K5.out)).trans K5.out, S3.out.bk.below b36, ?_, (HA.out.below b46).mono hg3, (HB.out.below b6).mono B4.size, (Own.of_owns S3.out.rj.out).below b36, fun j v c hv hc => ((HQ.out.each j v c hv hc).below b6).mono B4.size, fun j u c hu hc => ?_, HT3.out.below b36, hgf⟩
        · refine pool_of (b := w3.heap.size) ?_ ?_ hg3 ?_
          · exact HP.out.only (Below.only b46 fun _ => False) fun _ _ _ _ _ x => x
          · exact S3.out.rj.outs.only (Below.only b36 fun _ => False) fun _ _ _ _ _ x => x
          · intro j u hu g hg
            exact lt_of_block (S3.out.rj.outs.blocks j u hu g hg).2.choose_spec
        · obtain ⟨g, t⟩ := S3.out.tw j u c hu hc
          refine ⟨g, ?_, t.below b36⟩
          exact ((S3.out.rj.outs.each j u c hu hc).at_ g (by rw [t.1]; rfl)).1
      have HVL := Lib.hid hvl
      have HWL := Lib.hid hwl
      clear S3 HT3 HA HP HB HQ K4 K5 B4 B5 b4 b5 b6 x1 e9 HR1 HR2 hvl hwl
      go_wp2_with fail
      go_loopw [12] (fun i wr => ∃ k : Nat, k ≤ vs.length ∧ i = .int .i64 k ∧ QJ W gb gf #[.slice a css.length c, .slice a2 fs.length c2, .int .i64 rd] (.slice aa vs.length ca) (.slice ab ws.length cb) u3 (.slice (some ⟨gf, 0, none⟩) fs.length (fs.length + 1)) vs ws ss os css fs k wr) (fun i _ => vs.length - (intOf i).toNat)
      case atStart => exact ⟨0, by omega, rfl, Q0⟩
      case round =>
        clear Q0
        obtain ⟨k, hk, rfl, Q1⟩ := hrel
        by_cases hlt : k < vs.length
        · have hko : k < os.length := by have := HVL.out; omega
          have hkw : k < ws.length := by have := HWL.out; omega
          obtain ⟨ba, oa, rfl, y0⟩ := Q1.a.rd.at k vs[k] (List.getElem?_eq_getElem hlt)
          obtain ⟨bb, ob, rfl, y1⟩ := Q1.b.rd.at k ws[k] (List.getElem?_eq_getElem hkw)
          have hpk : (vs.zip os ++ ss.zip css)[k]? = some (vs[k], os[k]) := by
            rw [List.getElem?_append_left (by rw [List.length_zip, HVL.out, Nat.min_self]; exact hko)]
            exact List.getElem?_zip_eq_some.2 ⟨List.getElem?_eq_getElem hlt, List.getElem?_eq_getElem hko⟩
          have S1 : ∀ w', Below wr.heap.size wr w' → _ := fun w' hw => same_any vs[k] ws[k] os[k] os[k] w' ((Q1.pool.each k _ hpk).rd.below hw) ((Q1.bo k _ _ (List.getElem?_eq_getElem hkw) (List.getElem?_eq_getElem hko)).rd.below hw)
          rw [decide_eq_true rfl] at S1
          have hn := HO2.out os[k] (List.getElem_mem hko)
          have VK : Hid (vs[k]? = some vs[k]) := List.getElem?_eq_getElem hlt
          have HPK := Lib.hid hpk
          have HS1 := Lib.hid S1
          have HQ1 := Lib.hid Q1
          clear hpk S1 Q1
          generalize vs[k] = e1 at *
          generalize ws[k] = e2 at *
          generalize os[k] = cs at *
          have L0 := Lib.hid (fun (w' : World) (hw : Below wr.heap.size wr w') => run_loadVar_one (P := Tryz.prog) ((hw.cell (World.block_lt_of_cell? wr _ y0)).trans y0) (agg47 w'))
          have L1 := Lib.hid (fun (w' : World) (hw : Below wr.heap.size wr w') => run_loadVar_one (P := Tryz.prog) ((hw.cell (World.block_lt_of_cell? wr _ y1)).trans y1) (agg47 w'))
          have C0 := Lib.hid (fun (w' : World) (hw : Below wr.heap.size wr w') => (HS1.out w' hw).mono fun e w'' ⟨he, h⟩ => And.intro he (bnext hw h))
          clear y0 y1
          go_wp2_with fail
          refine wp_region_quietC (fun w' => Below wr.heap.size wr w') (by kernel_rfl) (by kernel_rfl) (bdraw (Below.refl _ _) 1) ?_
          repeat (first
            | go_big_quiet_skip
            | (go_big_quiet_want
               first
                | (refine quiet_load _ _ rfl _ rfl _ (L0.out) ?_; go_simp; go_big_quiet_on)
                | (refine quiet_load _ _ rfl _ rfl _ (L1.out) ?_; go_simp; go_big_quiet_on)
                | (go_big_quiet_op; go_big_quiet_on)
                | (go_big_quiet_op; apply Exists.intro; refine ⟨fun w' hw' => ?_, ?_⟩; (first | with_reducible exact rfl | with_reducible exact C0.out w' hw'); go_big_quiet_on)))
          refine wpQuiet_nil ?_
          intro w9 hw9
          have HQ9 := Lib.hid (HQ1.out.below hw9)
          clear HQ1 L0 L1 C0 HS1 hw9
          obtain ⟨ba', oa', haa, y0⟩ := HQ9.out.a.rd.at k e1 VK.out
          cases haa
          go_wp2_with fail
          clear y0
          refine Calls.mono (pool_keep HQ9.out.bk HQ9.out.pool HPK.out (by rw [List.length_append, List.length_zip, List.length_zip, HVL.out, Nat.min_self]; have := Nat.min_le_right ss.length css.length; omega) (by omega)) ?_
          rintro e w8 ⟨rfl, K8, t8⟩
          have Q8 := HQ9.out.away K8 t8
          clear K8 t8 HQ9 HPK
          go_wp2_with fail
          go_roundw
          case rel => exact ⟨k + 1, by omega, by go_num, Q8⟩
          case measure => simp [intOf]; omega
        · obtain rfl : k = vs.length := by omega
          have HQ1 := Lib.hid Q1
          obtain ⟨av, cv, hu3, _, _⟩ := Q1.s.shape
          subst hu3
          have q5 : ¬ vs.length < os.length := by have := HVL.out; omega
          clear Q1
          go_wp2_with fail
          go_loopw [13] (fun i wr => ∃ k : Nat, k ≤ ss.length ∧ i = .int .i64 k ∧ QJ W gb gf #[.slice a css.length c, .slice a2 fs.length c2, .int .i64 rd] (.slice aa vs.length ca) (.slice ab ws.length cb) (.slice av ss.length cv) (.slice (some ⟨gf, 0, none⟩) fs.length (fs.length + 1)) vs ws ss os css fs (vs.length + k) wr) (fun i _ => ss.length - (intOf i).toNat)
          case atStart => exact ⟨0, by omega, rfl, HQ1.out⟩
          case round =>
            clear HQ1
            obtain ⟨k, hk, rfl, Q1⟩ := hrel
            by_cases hlt3 : k < ss.length
            · have hkc : k < css.length := by have := HSL.out; omega
              obtain ⟨bs, bo, rfl, y0⟩ := Q1.s.rd.at k ss[k] (List.getElem?_eq_getElem hlt3)
              obtain ⟨bq, oq, zq, yq, rfl, y1, rk, _, _, hlk⟩ := (HS.out.below Q1.bel).at k css[k] (List.getElem?_eq_getElem hkc)
              obtain ⟨gt, hgt, tk⟩ := Q1.tw k ss[k] css[k] (List.getElem?_eq_getElem hlt3) (List.getElem?_eq_getElem hkc)
              have x0 : wr.cell? ⟨W.heap.size, 0, none⟩ = some (.slice (some ⟨bq, oq, none⟩) css.length c) := cell_of_row _ _ 0 _ _ _ Q1.kx
              have x1 : wr.cell? ⟨W.heap.size, 1, none⟩ = some (.slice a2 fs.length c2) := cell_of_row _ _ 1 _ _ _ Q1.kx
              have x2 : wr.cell? ⟨W.heap.size, 2, none⟩ = some (.int .i64 rd) := cell_of_row _ _ 2 _ _ _ Q1.kx
              have hzl : (vs.zip os).length = vs.length := by rw [List.length_zip, HVL.out, Nat.min_self]
              have hpk : (vs.zip os ++ ss.zip css)[vs.length + k]? = some (ss[k], css[k]) := by
                rw [List.getElem?_append_right (by omega), hzl, Nat.add_sub_cancel_left]
                exact List.getElem?_zip_eq_some.2 ⟨List.getElem?_eq_getElem hlt3, List.getElem?_eq_getElem hkc⟩
              have hn := HM2.out css[k] (List.getElem_mem hkc)
              have VK : Hid (ss[k]? = some ss[k]) := List.getElem?_eq_getElem hlt3
              have HPK := Lib.hid hpk
              have LV := Lib.hid (fun (w' : World) (hw : Below wr.heap.size wr w') => leftB_any gt ss[k] _ css[k] w' (tk.below hw) (rk.below hw) hlk)
              have SV := Lib.hid (fun (w' : World) (hw : Below wr.heap.size wr w') => silent_any ((k : Int) + 1) rd _ fs w' ((Q1.fl.1.rd (by omega)).below hw))
              have RV := Lib.hid (fun (w' : World) (hw : Below wr.heap.size wr w') => rsilent_any ((k : Int) + 1) rd _ fs w' (HF.out.below (bnext Q1.bel hw)))
              have HQ1 := Lib.hid Q1
              clear hpk Q1 tk rk hzl
              generalize ss[k] = e1 at *
              generalize css[k] = cs at *
              generalize fs.any (silB ((k : Int) + 1) rd) = sl at *
              have L0 := Lib.hid (fun (w' : World) (hw : Below wr.heap.size wr w') => run_loadVar_one (P := Tryz.prog) ((hw.cell (World.block_lt_of_cell? wr _ y0)).trans y0) (agg47 w'))
              have L1 := Lib.hid (fun (w' : World) (hw : Below wr.heap.size wr w') => run_loadVar_one (P := Tryz.prog) ((hw.cell (World.block_lt_of_cell? wr _ y1)).trans y1) (agg47 w'))
              have L2 := Lib.hid (fun (w' : World) (hw : Below wr.heap.size wr w') => run_loadVar_one (P := Tryz.prog) ((hw.cell (World.block_lt_of_cell? wr _ x0)).trans x0) (agg22 w'))
              have L3 := Lib.hid (fun (w' : World) (hw : Below wr.heap.size wr w') => run_loadVar_one (P := Tryz.prog) ((hw.cell (World.block_lt_of_cell? wr _ x1)).trans x1) (agg23 w'))
              have L4 := Lib.hid (fun (w' : World) (hw : Below wr.heap.size wr w') => run_loadVar_one (P := Tryz.prog) ((hw.cell (World.block_lt_of_cell? wr _ x2)).trans x2) (aggI w'))
              have C0 := Lib.hid (fun (w' : World) (hw : Below wr.heap.size wr w') => (LV.out w' hw).mono fun e w'' ⟨he, n, h⟩ => And.intro he (h ▸ bdraw hw n : Below wr.heap.size wr w''))
              have C1 := Lib.hid (fun (w' : World) (hw : Below wr.heap.size wr w') => (SV.out w' hw).mono fun e w'' ⟨he, h⟩ => And.intro he (bnext hw h))
              have C2 := Lib.hid (fun (w' : World) (hw : Below wr.heap.size wr w') => (RV.out w' hw).mono fun e w'' ⟨he, h⟩ => And.intro he (bnext hw h))
              clear y0 y1 x0 x1 x2 LV SV RV
              go_wp2_with fail
              refine wp_region_quietC (fun w' => Below wr.heap.size wr w') (by kernel_rfl) (by kernel_rfl) (bdraw (Below.refl _ _) 1) ?_
              repeat (first
                | go_big_quiet_skip
                | (go_big_quiet_want
                   first
                    | (refine quiet_load _ _ rfl _ rfl _ (L0.out) ?_; go_simp; go_big_quiet_on)
                    | (refine quiet_load _ _ rfl _ rfl _ (L1.out) ?_; go_simp; go_big_quiet_on)
                    | (refine quiet_load _ _ rfl _ rfl _ (L2.out) ?_; go_simp; go_big_quiet_on)
                    | (refine quiet_load _ _ rfl _ rfl _ (L3.out) ?_; go_simp; go_big_quiet_on)
                    | (refine quiet_load _ _ rfl _ rfl _ (L4.out) ?_; go_simp; go_big_quiet_on)
                    | (go_big_quiet_op; go_big_quiet_on)
                    | (go_big_quiet_op; apply Exists.intro; refine ⟨fun w' hw' => ?_, ?_⟩; (first | with_reducible exact rfl | with_reducible exact C0.out w' hw' | with_reducible exact C1.out w' hw' | with_reducible exact C2.out w' hw'); go_big_quiet_on)))
              refine wpQuiet_nil ?_
              intro w9 hw9
              have HQ9 := Lib.hid (HQ1.out.below hw9)
              clear HQ1 L0 L1 L2 L3 L4 C0 C1 C2 hw9
              obtain ⟨ba', oa', haa, y0⟩ := HQ9.out.s.rd.at k e1 VK.out
              cases haa
              go_wp2_with fail
              clear y0
              refine Calls.mono (pool_keep HQ9.out.bk HQ9.out.pool HPK.out (by rw [List.length_append, List.length_zip, List.length_zip, HVL.out, Nat.min_self]; have := Nat.min_le_right ss.length css.length; omega) (by omega)) ?_
              rintro e w8 ⟨rfl, K8, t8⟩
              have Q8 := HQ9.out.away K8 t8
              clear K8 t8 HQ9 HPK
              go_wp2_with fail
              go_roundw
              case rel => exact ⟨k + 1, by omega, by go_num, Q8⟩
              case measure => simp [intOf]; omega
            · obtain rfl : k = ss.length := by omega
              have HQ1 := Lib.hid Q1
              clear Q1
              go_wp2_with fail
              refine Calls.mono (bkB_apart HQ1.out.bk) ?_
              rintro e w7 ⟨rfl, bZ⟩
              have BZ := HQ1.out.bel.trans bZ
              clear HQ1 bZ
              go_wp2_with fail
              refine (lives22_any _).mono ?_
              rintro e w8 ⟨rfl, b8⟩
              go_wp2_with fail
              go_ret
              exact ⟨rfl, bnext BZ b8⟩
end Go.Proofs.YtafamnodeliaaaaGreatDoor
