/-
  The walk of FramesGets: the frame that any bytes are is the reference's, or both refuse them; they stay as they were, and the answers are memory of their own.
-/
import Derived.Test.YtckpeclkkmapiaaGreatDoorLFramesPuts
import Derived.Test.YtckpeclkkmapiaaGreatDoorRefFgetB
import Derived.Test.YtckpeclkkmapiaaGreatDoorFrmSame
import Derived.Test.YtckpeclkkmapiaaGreatDoorOpenB
import Derived.Test.YtckpeclkkmapiaaGreatDoorQuiet
namespace Go.Proofs.YtckpeclkkmapiaaGreatDoor
open Go.RowKit
open Go

/-- What is got, here and by the reference. -/
theorem get_both (bs : List Nat) (hb : NB bs) (hm : bs.length ≤ 140737488351232) : ∃ (st : Int) (rd mem md : Nat) (pl : List Nat) (er : Int), pl.length ≤ 100000 ∧ rd < 4294967296 ∧ mem < 256 ∧ md < 65536 ∧
    (∀ (v : Value) (w : World), Rd w v (by8 (iN bs)) → Calls Tryz.prog 25 #[v] w fun e w' => ∃ u, e = .returned (.tuple #[frV st rd mem md u, .int .i64 er]) ∧ w'.ownsRow w.heap.size 5 1 u pl.length (by8 (iN pl)) ∧ Below w.heap.size w w') ∧
    (∀ (v : Value) (w : World), Rd w v (by8 (iN bs)) → Calls Tryz.prog 26 #[v] w fun e w' => ∃ u, e = .returned (.tuple #[frV st rd mem md u, .int .i64 er]) ∧ Rd w' u (by8 (iN pl)) ∧ Below w.heap.size w w') := by
  by_cases he : errOf bs = 0
  · have hok := fr_ok hb he
    refine ⟨(frOf bs).st, (frOf bs).rd, (frOf bs).mem, (frOf bs).md, (frOf bs).pl, 0, Nat.le_trans hok.len (by decide), hok.rd, hok.mem, hok.md, fun v w hv => ?_, fun v w hv => ?_⟩
    · refine (get_any v bs w hv hb hm).mono ?_
      rintro e w' ⟨b, ⟨_, u, rfl, o⟩ | ⟨h, _⟩⟩
      · exact ⟨u, rfl, o, b⟩
      · exact absurd he h
    · refine (rfget_any v bs w hv hb hm).mono ?_
      rintro e w' ⟨b, ⟨_, u, rfl, o⟩ | ⟨h, _⟩⟩
      · exact ⟨u, rfl, o, b⟩
      · exact absurd he h
  · refine ⟨0, 0, 0, 0, [], errOf bs, by simp, by decide, by decide, by decide, fun v w hv => ?_, fun v w hv => ?_⟩
    · refine (get_any v bs w hv hb hm).mono ?_
      rintro e w' ⟨b, ⟨h, _⟩ | ⟨_, rfl⟩⟩
      · exact absurd h he
      · exact ⟨.slice none 0 0, rfl, ⟨rfl, .inl ⟨rfl, rfl⟩⟩, b⟩
    · refine (rfget_any v bs w hv hb hm).mono ?_
      rintro e w' ⟨b, ⟨h, _⟩ | ⟨_, rfl⟩⟩
      · exact absurd h he
      · exact ⟨.slice none 0 0, rfl, Rd.nil _, b⟩

set_option maxRecDepth 20000 in
set_option maxHeartbeats 4000000 in
theorem walk_FramesGets (x : Value) (W : World) (A : Arg Tryz.prog 22 W x) : Calls Tryz.prog 5 #[x] W fun e w' => e = .returned (.bool true) ∧ Below W.heap.size W w' := by
  obtain ⟨zs, hR, hB, hlen⟩ := A.bytes
  obtain ⟨bs, rfl⟩ := iN_of zs fun z hz => (hB z hz).1
  have hNB : NB bs := fun c hc => by
    have := (hB c (List.mem_map.2 ⟨c, hc, rfl⟩)).2
    omega
  rw [iN_len] at hlen
  clear A hB
  obtain ⟨st, rd, mem, md, pl, er, hpl, hrd, hmem, hmd, G1, G2⟩ := get_both bs hNB hlen
  have hl : (by8 (iN bs)).length = bs.length := by simp
  have hv0 := hR
  obtain ⟨a, c, rfl, hc, hcm, _, _⟩ := hR
  rw [hl] at hv0 hc ⊢
  unfold maxLen at hcm
  have HV := Lib.hid hv0
  have HG1 := Lib.hid G1
  have HG2 := Lib.hid G2
  clear hv0 G1 G2 hl
  have hL : (iN bs).length ≤ 140737488351232 := by simpa using hlen
  by_cases hbig : 100000 < bs.length
  · have e1 : decide (100000 < (bs.length : Int)) = true := by simp; omega
    go_enter Tryz.func5, Tryz.ntmps5
    go_wp2_with fail
    go_ret
    exact ⟨rfl, Below.refl _ _⟩
  · have e1 : decide (100000 < (bs.length : Int)) = false := by simp; omega
    go_enter Tryz.func5, Tryz.ntmps5
    go_wp2_with fail
    refine (twinB_any (.slice a bs.length c) (iN bs) W HV.out hL).mono ?_
    rintro e w1 ⟨u, rfl, B1, t1⟩
    have hu : u = .slice (some ⟨W.heap.size, 0, none⟩) bs.length (bs.length + 1) := by rw [t1.1, iN_len]
    subst hu
    go_wp2_with fail
    have P1 := HG1.out _ w1 (t1.rd hL)
    unfold frV at P1
    refine P1.mono ?_
    clear P1
    rintro e w2 ⟨uf, rfl, o2, b2⟩
    obtain ⟨af, cf, rfl⟩ := owns_shape o2
    go_wp2_with fail
    have k3 := heap_alloc_new w2 (.cells #[.int .i64 st, .int .u32 rd, .int .u8 mem, .int .u16 md, .slice af pl.length cf] 65 (0, 0))
    have B3 := balloc b2 (.cells #[.int .i64 st, .int .u32 rd, .int .u8 mem, .int .u16 md, .slice af pl.length cf] 65 (0, 0))
    have o3 := o2.alloc (.cells #[.int .i64 st, .int .u32 rd, .int .u8 mem, .int .u16 md, .slice af pl.length cf] 65 (0, 0))
    generalize w2.alloc (.cells #[.int .i64 st, .int .u32 rd, .int .u8 mem, .int .u16 md, .slice af pl.length cf] 65 (0, 0)) = w3 at *
    generalize w2.heap.size = gf at *
    go_wp2_with fail
    have P1 := HG1.out _ w3 ((t1.below B3).rd hL)
    unfold frV at P1
    refine P1.mono ?_
    clear P1
    rintro e w4 ⟨ug, rfl, o4, b4⟩
    obtain ⟨ag, cg, rfl⟩ := owns_shape o4
    go_wp2_with fail
    have k5 := (((balloc b4 (.cells #[.int .i64 st, .int .u32 rd, .int .u8 mem, .int .u16 md, .slice ag pl.length cg] 65 (0, 0))).block _ (lt_of_block k3))).trans k3
    have l5 := heap_alloc_new w4 (.cells #[.int .i64 st, .int .u32 rd, .int .u8 mem, .int .u16 md, .slice ag pl.length cg] 65 (0, 0))
    have B5 := balloc b4 (.cells #[.int .i64 st, .int .u32 rd, .int .u8 mem, .int .u16 md, .slice ag pl.length cg] 65 (0, 0))
    have o5 := o4.alloc (.cells #[.int .i64 st, .int .u32 rd, .int .u8 mem, .int .u16 md, .slice ag pl.length cg] 65 (0, 0))
    generalize w4.alloc (.cells #[.int .i64 st, .int .u32 rd, .int .u8 mem, .int .u16 md, .slice ag pl.length cg] 65 (0, 0)) = w5 at *
    generalize w4.heap.size = gg at *
    have P1 := HG2.out (.slice a bs.length c) w5 (HV.out.below (bnext (bnext B1 B3) B5))
    unfold frV at P1
    refine P1.mono ?_
    clear P1
    rintro e w6 ⟨uw, rfl, r6, b6⟩
    obtain ⟨aw, nw, cw, rfl⟩ := r6.sl
    have B7 := balloc b6 (.cells #[.int .i64 st, .int .u32 rd, .int .u8 mem, .int .u16 md, .slice aw nw cw] 65 (0, 0))
    have k7 := (B7.block _ (lt_of_block k5)).trans k5
    have l7 := (B7.block _ (lt_of_block l5)).trans l5
    have m7 := heap_alloc_new w6 (.cells #[.int .i64 st, .int .u32 rd, .int .u8 mem, .int .u16 md, .slice aw nw cw] 65 (0, 0))
    have r7 := r6.below (balloc (Below.refl w6.heap.size w6) (.cells #[.int .i64 st, .int .u32 rd, .int .u8 mem, .int .u16 md, .slice aw nw cw] 65 (0, 0)))
    obtain ⟨x0, x1, x2, x3, x4⟩ := frame_cells k7
    go_wp2_with fail
    clear x0 x1 x2 x3 x4
    generalize w6.alloc (.cells #[.int .i64 st, .int .u32 rd, .int .u8 mem, .int .u16 md, .slice aw nw cw] 65 (0, 0)) = w7 at *
    generalize w6.heap.size = gw at *
    have BF := bnext B5 B7
    have BT := bnext B3 BF
    have rf := (own_rd o3).below BF
    have rg := (own_rd o5).below B7
    have C1 := same_frame st st rd rd mem mem md md (.slice af pl.length cf) (.slice aw nw cw) (iN pl) (iN pl) w7 rf r7
    have C2 := Lib.hid (fun (w' : World) (hw : Below w7.heap.size w7 w') => same_frame st st rd rd mem mem md md (.slice ag pl.length cg) (.slice aw nw cw) (iN pl) (iN pl) w' (rg.below hw) (r7.below hw))
    have C3 := Lib.hid (fun (w' : World) (hw : Below w7.heap.size w7 w') => leftB_any W.heap.size (.slice (some ⟨W.heap.size, 0, none⟩) bs.length (bs.length + 1)) (.slice a bs.length c) (iN bs) w' ((t1.below BT).below hw) (HV.out.below (bnext (bnext B1 BT) hw)) hL)
    rw [decide_eq_true (⟨rfl, rfl, rfl, rfl, rfl⟩ : st = st ∧ rd = rd ∧ mem = mem ∧ md = md ∧ iN pl = iN pl)] at C1 C2
    unfold frV at C1 C2
    refine C1.mono ?_
    clear C1
    rintro e w8 ⟨rfl, b8⟩
    have l8 := (b8.block _ (lt_of_block l7)).trans l7
    have m8 := (b8.block _ (lt_of_block m7)).trans m7
    obtain ⟨x0, x1, x2, x3, x4⟩ := frame_cells l8
    obtain ⟨y0, y1, y2, y3, y4⟩ := frame_cells m8
    go_wp2_with fail
    clear x0 x1 x2 x3 x4 y0 y1 y2 y3 y4
    refine Calls.mono (C2.out w8 b8) ?_
    rintro e w9 ⟨rfl, b9⟩
    have B9 := bnext b8 b9
    go_wp2_with fail
    refine Calls.mono (C3.out w9 B9) ?_
    rintro e w10 ⟨rfl, d10, rfl⟩
    have B10 := bdraw B9 d10
    generalize w9.drewN d10 = w10 at *
    have k10 := (B10.block _ (lt_of_block k7)).trans k7
    have l10 := (B10.block _ (lt_of_block l7)).trans l7
    have BA := bnext (bnext B1 BT) B10
    have sB := B1.size
    have sT := b2.size
    have s3 := B3.size
    have s4 := b4.size
    have h0 := lt_of_block t1.2
    have OT := Lib.hid (((t1.own (Nat.le_refl _) hL).below BT).below B10)
    have OF := Lib.hid ((((Own.of_owns o3).mono (base' := W.heap.size) sB).below BF).below B10)
    have OG := Lib.hid ((((Own.of_owns o5).mono (base' := W.heap.size) (Nat.le_trans sB s3)).below B7).below B10)
    have RF := Lib.hid (fun g (h : roomOf (.slice af pl.length cf) = some g) => owns_room o3 h)
    have RG := Lib.hid (fun g (h : roomOf (.slice ag pl.length cg) = some g) => owns_room o5 h)
    clear o2 o3 o4 o5 C2 C3 b8 b9 B9 b6 B7 r6 r7 rf rg k3 k5 k7 l5 l7 l8 m7 m8
    have BK : BkB W.heap.size w10.heap.size 0 [] (w10.alloc (.cells #[.int .i64 0, .slice none 0 0, .slice none 0 0, .slice none 0 0, .slice none 0 0, .slice none 0 0, .slice none 0 0, .slice none 0 0, .slice none 0 0, .slice none 0 0, .slice none 0 0, .slice none 0 0, .slice none 0 0, .slice none 0 0, .slice none 0 0, .slice none 0 0, .slice none 0 0, .slice none 0 0] 52 (0, 0))) := bkB_start W.heap.size w10 BA.size
    have bA := balloc (Below.refl w10.heap.size w10) (.cells #[.int .i64 0, .slice none 0 0, .slice none 0 0, .slice none 0 0, .slice none 0 0, .slice none 0 0, .slice none 0 0, .slice none 0 0, .slice none 0 0, .slice none 0 0, .slice none 0 0, .slice none 0 0, .slice none 0 0, .slice none 0 0, .slice none 0 0, .slice none 0 0, .slice none 0 0, .slice none 0 0] 52 (0, 0))
    have k11 := (bA.block _ (lt_of_block k10)).trans k10
    have l11 := (bA.block _ (lt_of_block l10)).trans l10
    have OT1 := Lib.hid (OT.out.below bA)
    have OF1 := Lib.hid (OF.out.below bA)
    have OG1 := Lib.hid (OG.out.below bA)
    have BA1 := Lib.hid (bnext BA bA)
    go_wp2_with fail
    clear bA k10 l10 OT OF OG BA
    generalize w10.alloc (.cells #[.int .i64 0, .slice none 0 0, .slice none 0 0, .slice none 0 0, .slice none 0 0, .slice none 0 0, .slice none 0 0, .slice none 0 0, .slice none 0 0, .slice none 0 0, .slice none 0 0, .slice none 0 0, .slice none 0 0, .slice none 0 0, .slice none 0 0, .slice none 0 0, .slice none 0 0, .slice none 0 0] 52 (0, 0)) = w11 at *
    generalize w10.heap.size = gb at *
    refine Calls.mono (bkB_keepByte BK (by decide) (by simp) OT1.out (by simp; omega) (by simp)) ?_
    clear BK
    rintro e w12 ⟨rfl, K1, q1⟩
    have k12 := q1.keep k11 (by decide)
    have l12 := q1.keep l11 (by decide)
    have OF2 := Lib.hid (OF1.out.away q1 (by decide))
    have OG2 := Lib.hid (OG1.out.away q1 (by decide))
    obtain ⟨x0, x1, x2, x3, x4⟩ := frame_cells k12
    go_wp2_with fail
    clear x0 x1 x2 x3 x4
    have KF := bkB_frame K1 st rd mem md (by decide) (by simp) OF2.out (Nat.le_trans hpl (by decide)) (ap_of (b := w1.heap.size) (fun it hit y hy => by
      simp at hit
      subst hit
      rcases hy with hy | hy
      · cases hy
        exact h0
      · cases hy) fun y hy => (RF.out y hy).1)
    unfold frV at KF
    refine KF.mono ?_
    clear KF K1
    rintro e w13 ⟨rfl, K2, q2⟩
    have l13 := q2.keep l12 (by decide)
    have OG3 := Lib.hid (OG2.out.away q2 (by decide))
    obtain ⟨x0, x1, x2, x3, x4⟩ := frame_cells l13
    go_wp2_with fail
    clear x0 x1 x2 x3 x4
    have KF := bkB_frame K2 st rd mem md (by decide) (by simp) OG3.out (Nat.le_trans hpl (by decide)) (ap_of (b := w3.heap.size) (fun it hit y hy => by
      simp at hit
      rcases hit with rfl | rfl
      · rcases hy with hy | hy
        · cases hy
          exact Nat.lt_of_lt_of_le h0 s3
        · cases hy
      · rcases hy with hy | hy
        · exact (RF.out y hy).2
        · cases hy) fun y hy => (RG.out y hy).1)
    unfold frV at KF
    refine KF.mono ?_
    clear KF K2
    rintro e w14 ⟨rfl, K3, q3⟩
    go_wp2_with fail
    refine Calls.mono (bkB_apart K3) ?_
    rintro e w15 ⟨rfl, bZ⟩
    go_wp2_with fail
    go_ret
    have z1 : Below W.heap.size w11 w12 := TnT.toBelow q1 BA1.out.size
    have z2 : Below W.heap.size w12 w13 := TnT.toBelow q2 (Nat.le_trans BA1.out.size z1.size)
    have z3 : Below W.heap.size w13 w14 := TnT.toBelow q3 (Nat.le_trans BA1.out.size (Nat.le_trans z1.size z2.size))
    exact ⟨rfl, (((BA1.out.trans z1).trans z2).trans z3).trans bZ⟩
end Go.Proofs.YtckpeclkkmapiaaGreatDoor
