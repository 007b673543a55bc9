/-
  The walk of FramesPuts: any frame is put as the reference puts it, or both refuse it; it stays as it was, and the answers are memory of their own.
-/
import Derived.Test.YtckpeclkkmapiaaGreatDoorTwFrame
import Derived.Test.YtckpeclkkmapiaaGreatDoorRefFrm
import Derived.Test.YtckpeclkkmapiaaGreatDoorFrmArgs
namespace Go.Proofs.YtckpeclkkmapiaaGreatDoor
open Go.RowKit
open Go

theorem TwinB.own {w : World} {g base : Nat} {v : Value} {cs : List Int} (h : TwinB w g v cs) (hb : base ≤ g) (hL : cs.length ≤ 140737488351232) : Own w base 5 1 v cs.length (by8 cs) := by
  obtain ⟨rfl, h⟩ := h
  refine ⟨by simp, .inr ⟨g, cs.length + 1, _, rfl, by omega, hb, h, by omega, by unfold maxLen; omega, by simp, ?_⟩⟩
  simp
theorem TwinB.room {w : World} {g : Nat} {v : Value} {cs : List Int} (h : TwinB w g v cs) : roomOf v = some g := by
  obtain ⟨rfl, h⟩ := h
  rfl
/-- What a list of its own leads to lies among the new blocks. -/
theorem owns_room {w : World} {base : Nat} {e : TypeId} {sz : Nat} {v : Value} {n : Nat} {xs : List Value} (h : w.ownsRow base e sz v n xs) {g : Nat} (hg : roomOf v = some g) : base ≤ g ∧ g < w.heap.size := ⟨((Own.of_owns h).room hg).1, (Own.of_owns h).lt hg⟩

/-- No list that is held shares the room of a new one. -/
theorem ap_of {its : List It} {v : Value} {b : Nat} (h1 : ∀ it ∈ its, ∀ x, it.has x → x < b) (h2 : ∀ x, roomOf v = some x → b ≤ x) : ∀ (i : Nat) (a : It), its[i]? = some a → ∀ x, a.has x → roomOf v ≠ some x := by
  intro i a hi x hx e
  have := h1 a (List.mem_of_getElem? hi) x hx
  have := h2 x e
  omega

/-- What is put, here and by the reference. -/
theorem put_both (st : Int) (rd mem md : Nat) (pl : List Nat) (h1 : rd < 4294967296) (h2 : mem < 256) (h3 : md < 65536) (h4 : NB pl) (h5 : pl.length ≤ 140737488351232) : ∃ (out : List Nat) (er : Int), out.length ≤ 100000 ∧
    (∀ (v : Value) (w : World), Rd w v (by8 (iN pl)) → Calls Tryz.prog 30 #[frV st rd mem md v] w fun e w' => ∃ u, e = .returned (.tuple #[u, .int .i64 er]) ∧ w'.ownsRow w.heap.size 5 1 u out.length (by8 (iN out)) ∧ Below w.heap.size w w') ∧
    (∀ (v : Value) (w : World), Rd w v (by8 (iN pl)) → Calls Tryz.prog 31 #[frV st rd mem md v] w fun e w' => ∃ u, e = .returned (.tuple #[u, .int .i64 er]) ∧ w'.ownsRow w.heap.size 5 1 u out.length (by8 (iN out)) ∧ Below w.heap.size w w') := by
  by_cases hok : 1 ≤ st ∧ st ≤ 8 ∧ pl.length ≤ 4095
  · obtain ⟨n, rfl, hn⟩ := nat_of (show (0 : Int) ≤ st by omega) hok.2.1
    have hf : (Fr.mk n rd mem md pl).Ok := ⟨by have := hok.1; show 1 ≤ n; omega, by show n ≤ 8; omega, h1, h2, h3, hok.2.2, h4⟩
    refine ⟨(Fr.mk n rd mem md pl).bytes, 0, ?_, fun v w hv => put_frame _ hf v w hv, fun v w hv => rfput_yes _ hf v w hv⟩
    have := (Fr.mk n rd mem md pl).bytes_len
    have h6 := hok.2.2
    simp only at this
    omega
  · refine ⟨[], 1, by simp, fun v w hv => ?_, fun v w hv => ?_⟩
    · obtain ⟨a, c, rfl, _⟩ := hv
      refine (put_none st rd mem md a _ c w (by simp; omega) (by simpa using hok)).mono ?_
      rintro e w' ⟨rfl, b⟩
      exact ⟨_, rfl, ⟨rfl, .inl ⟨rfl, rfl⟩⟩, b⟩
    · obtain ⟨a, c, rfl, _⟩ := hv
      refine (rfput_no st rd mem md a _ c w (by simp; omega) (by simpa using hok)).mono ?_
      rintro e w' ⟨rfl, b⟩
      exact ⟨_, rfl, ⟨rfl, .inl ⟨rfl, rfl⟩⟩, b⟩

set_option maxRecDepth 20000 in
set_option maxHeartbeats 4000000 in
theorem walk_FramesPuts (x : Value) (W : World) (A : Arg Tryz.prog 65 W x) : Calls Tryz.prog 6 #[x] W fun e w' => e = .returned (.bool true) ∧ Below W.heap.size W w' := by
  obtain ⟨st, rd, mem, md, v, pl, rfl, hR, hNB, hlen, hst, hrd, hmem, hmd⟩ := A.frame
  clear A
  obtain ⟨out, er, hout, P1, P2⟩ := put_both st rd mem md pl hrd hmem hmd hNB hlen
  have hl : (by8 (iN pl)).length = pl.length := by simp
  have hv0 := hR
  obtain ⟨a, c, rfl, hc, hcm, _, _⟩ := hR
  rw [hl] at hv0 hc ⊢
  unfold maxLen at hcm
  have HV := Lib.hid hv0
  have HP1 := Lib.hid P1
  have HP2 := Lib.hid P2
  clear hv0 P1 P2 hl
  have B1 := balloc (Below.refl W.heap.size W) (.cells #[.int .i64 st, .int .u32 rd, .int .u8 mem, .int .u16 md, .slice a pl.length c] 65 (0, 0))
  by_cases hbig : 100000 < pl.length
  · have e1 : decide (100000 < (pl.length : Int)) = true := by simp; omega
    unfold frV
    go_enter Tryz.func6, Tryz.ntmps6
    go_wp2_with fail
    go_ret
    exact ⟨rfl, B1⟩
  · have e1 : decide (100000 < (pl.length : Int)) = false := by simp; omega
    have k1 := heap_alloc_new W (.cells #[.int .i64 st, .int .u32 rd, .int .u8 mem, .int .u16 md, .slice a pl.length c] 65 (0, 0))
    unfold frV
    go_enter Tryz.func6, Tryz.ntmps6
    go_wp2_with fail
    generalize W.alloc (.cells #[.int .i64 st, .int .u32 rd, .int .u8 mem, .int .u16 md, .slice a pl.length c] 65 (0, 0)) = w1 at *
    have TW := twinF_any st rd mem md (.slice a pl.length c) (iN pl) w1 (HV.out.below B1) (by simpa using hlen)
    unfold frV at TW
    refine TW.mono ?_
    rintro e w2 ⟨gt, u, rfl, b2, t2, hgt⟩
    have B2 := bnext B1 b2
    have k2 := (b2.block _ (lt_of_block k1)).trans k1
    clear TW k1
    have hu : u = .slice (some ⟨gt, 0, none⟩) pl.length (pl.length + 1) := by rw [t2.1, iN_len]
    subst hu
    go_wp2_with fail
    have k3 := (heap_alloc_old (h := lt_of_block k2) w2 (.cells #[.int .i64 st, .int .u32 rd, .int .u8 mem, .int .u16 md, .slice (some ⟨gt, 0, none⟩) pl.length (pl.length + 1)] 65 (0, 0))).trans k2
    have m3 := heap_alloc_new w2 (.cells #[.int .i64 st, .int .u32 rd, .int .u8 mem, .int .u16 md, .slice (some ⟨gt, 0, none⟩) pl.length (pl.length + 1)] 65 (0, 0))
    have t3 := t2.below (balloc (Below.refl w2.heap.size w2) (.cells #[.int .i64 st, .int .u32 rd, .int .u8 mem, .int .u16 md, .slice (some ⟨gt, 0, none⟩) pl.length (pl.length + 1)] 65 (0, 0)))
    have B3 := balloc B2 (.cells #[.int .i64 st, .int .u32 rd, .int .u8 mem, .int .u16 md, .slice (some ⟨gt, 0, none⟩) pl.length (pl.length + 1)] 65 (0, 0))
    have hgt2 : W.heap.size ≤ gt := Nat.le_trans B1.size hgt
    generalize w2.alloc (.cells #[.int .i64 st, .int .u32 rd, .int .u8 mem, .int .u16 md, .slice (some ⟨gt, 0, none⟩) pl.length (pl.length + 1)] 65 (0, 0)) = w3 at *
    generalize w2.heap.size = gf at *
    have hgt3 : gt < w3.heap.size := lt_of_block t3.2
    have hL : (iN pl).length ≤ 140737488351232 := by simpa using hlen
    have PA := HP1.out (.slice (some ⟨gt, 0, none⟩) pl.length (pl.length + 1)) w3 (t3.rd hL)
    have LF := Lib.hid (fun (w' : World) (b : Below w3.heap.size w3 w') => leftF_any st rd mem md gt (.slice (some ⟨gt, 0, none⟩) pl.length (pl.length + 1)) (.slice a pl.length c) (iN pl) w' (t3.below b) (HV.out.below (bnext B3 b)) hL)
    unfold frV at PA LF
    refine PA.mono ?_
    clear PA t2 k2 b2 B2 B1
    rintro e w4 ⟨ua, rfl, oa, b4⟩
    have m4 := (b4.block _ (lt_of_block m3)).trans m3
    have k4 := (b4.block _ (lt_of_block k3)).trans k3
    have t4 := t3.below b4
    obtain ⟨x0, x1, x2, x3, x4⟩ := frame_cells m4
    go_wp2_with fail
    clear x0 x1 x2 x3 x4
    have PB := HP1.out (.slice (some ⟨gt, 0, none⟩) pl.length (pl.length + 1)) w4 (t4.rd hL)
    unfold frV at PB
    refine PB.mono ?_
    clear PB
    rintro e w5 ⟨ub, rfl, ob, b5⟩
    have B5 := bnext b4 b5
    have k5 := (b5.block _ (lt_of_block k4)).trans k4
    obtain ⟨x0, x1, x2, x3, x4⟩ := frame_cells k5
    go_wp2_with fail
    clear x0 x1 x2 x3 x4
    have PC := HP2.out (.slice a pl.length c) w5 (HV.out.below (bnext B3 B5))
    unfold frV at PC
    refine PC.mono ?_
    clear PC
    rintro e w6 ⟨uw, rfl, ow, b6⟩
    have B6 := bnext B5 b6
    go_wp2_with fail
    have S1 := same_any ua uw (iN out) (iN out) w6 ((own_rd oa).below (bnext b5 b6)) (own_rd ow)
    rw [decide_eq_true rfl] at S1
    refine S1.mono ?_
    clear S1
    rintro e w7 ⟨rfl, b7⟩
    go_wp2_with fail
    have S2 := same_any ub uw (iN out) (iN out) w7 ((own_rd ob).below (bnext b6 b7)) ((own_rd ow).below b7)
    rw [decide_eq_true rfl] at S2
    refine S2.mono ?_
    clear S2
    rintro e w8 ⟨rfl, b8⟩
    have B8 := bnext (bnext B6 b7) b8
    have m8 := (B8.block _ (lt_of_block m3)).trans m3
    have k8 := (B8.block _ (lt_of_block k3)).trans k3
    obtain ⟨x0, x1, x2, x3, x4⟩ := frame_cells m8
    obtain ⟨y0, y1, y2, y3, y4⟩ := frame_cells k8
    go_wp2_with fail
    clear x0 x1 x2 x3 x4 y0 y1 y2 y3 y4
    refine Calls.mono (LF.out w8 B8) ?_
    rintro e w9 ⟨rfl, b9⟩
    have B9 := bnext B8 b9
    have m9 := (B9.block _ (lt_of_block m3)).trans m3
    have BW9 := bnext B3 B9
    have OU := (t3.own hgt2 hL).below B9
    have OA := ((Own.of_owns oa).below (bnext (bnext (bnext (bnext b5 b6) b7) b8) b9))
    have OB := ((Own.of_owns ob).below (bnext (bnext (bnext b6 b7) b8) b9))
    have ra := fun g (h : roomOf ua = some g) => owns_room oa h
    have rb := fun g (h : roomOf ub = some g) => owns_room ob h
    have s3 := B3.size
    have s4 := b4.size
    have HOU := Lib.hid OU
    have HOA := Lib.hid (OA.mono (base' := W.heap.size) s3)
    have HOB := Lib.hid (OB.mono (base' := W.heap.size) (Nat.le_trans s3 s4))
    have HRA := Lib.hid ra
    have HRB := Lib.hid rb
    clear OU OA OB ra rb oa ob ow LF b4 b5 b6 b7 b8 b9 B5 B6 B8 k3 k4 k5 k8 m3 m4 m8 t3 t4
    have BK : BkB W.heap.size w9.heap.size 0 [] (w9.alloc (.cells #[.int .i64 0, .slice none 0 0, .slice none 0 0, .slice none 0 0, .slice none 0 0, .slice none 0 0, .slice none 0 0, .slice none 0 0, .slice none 0 0, .slice none 0 0, .slice none 0 0, .slice none 0 0, .slice none 0 0, .slice none 0 0, .slice none 0 0, .slice none 0 0, .slice none 0 0, .slice none 0 0] 52 (0, 0))) := bkB_start W.heap.size w9 BW9.size
    have bA := balloc (Below.refl w9.heap.size w9) (.cells #[.int .i64 0, .slice none 0 0, .slice none 0 0, .slice none 0 0, .slice none 0 0, .slice none 0 0, .slice none 0 0, .slice none 0 0, .slice none 0 0, .slice none 0 0, .slice none 0 0, .slice none 0 0, .slice none 0 0, .slice none 0 0, .slice none 0 0, .slice none 0 0, .slice none 0 0, .slice none 0 0] 52 (0, 0))
    have m10 := (bA.block _ (lt_of_block m9)).trans m9
    obtain ⟨x0, x1, x2, x3, x4⟩ := frame_cells m10
    have HB := Lib.hid (HOB.out.below bA)
    have HA := Lib.hid (HOA.out.below bA)
    have HU := Lib.hid (HOU.out.below bA)
    have BA := Lib.hid (bnext BW9 bA)
    go_wp2_with fail
    clear x0 x1 x2 x3 x4 bA m9 HOA HOB HOU BW9
    generalize w9.alloc (.cells #[.int .i64 0, .slice none 0 0, .slice none 0 0, .slice none 0 0, .slice none 0 0, .slice none 0 0, .slice none 0 0, .slice none 0 0, .slice none 0 0, .slice none 0 0, .slice none 0 0, .slice none 0 0, .slice none 0 0, .slice none 0 0, .slice none 0 0, .slice none 0 0, .slice none 0 0, .slice none 0 0] 52 (0, 0)) = w10 at *
    generalize w9.heap.size = gb at *
    have KF := bkB_frame BK st rd mem md (by decide) (by simp) HU.out (by simpa using Nat.le_trans (Nat.le_of_not_lt hbig) (by decide)) (by simp)
    unfold frV at KF
    refine KF.mono ?_
    clear KF BK m10
    rintro e w11 ⟨rfl, K1, q1⟩
    go_wp2_with fail
    refine Calls.mono (bkB_keepByte K1 (by decide) (by simp) (HA.out.away q1 (by decide)) (Nat.le_trans hout (by decide)) ?_) ?_
    · refine ap_of (b := w3.heap.size) ?_ fun y hy => (HRA.out y hy).1
      intro it hit y hy
      simp at hit
      subst hit
      rcases hy with hy | hy
      · cases hy
        exact hgt3
      · cases hy
    rintro e w12 ⟨rfl, K2, q2⟩
    go_wp2_with fail
    refine Calls.mono (bkB_keepByte K2 (by decide) (by simp) ((HB.out.away q1 (by decide)).away q2 (by decide)) (Nat.le_trans hout (by decide)) ?_) ?_
    · refine ap_of (b := w4.heap.size) ?_ fun y hy => (HRB.out y hy).1
      intro it hit y hy
      simp at hit
      rcases hit with rfl | rfl
      · rcases hy with hy | hy
        · cases hy
          exact Nat.lt_of_lt_of_le hgt3 s4
        · cases hy
      · rcases hy with hy | hy
        · exact (HRA.out y hy).2
        · cases hy
    rintro e w13 ⟨rfl, K3, q3⟩
    go_wp2_with fail
    refine Calls.mono (bkB_apart K3) ?_
    rintro e w14 ⟨rfl, bZ⟩
    go_wp2_with fail
    go_ret
    have z1 : Below W.heap.size w10 w11 := TnT.toBelow q1 BA.out.size
    have z2 : Below W.heap.size w11 w12 := TnT.toBelow q2 (Nat.le_trans BA.out.size z1.size)
    have z3 : Below W.heap.size w12 w13 := TnT.toBelow q3 (Nat.le_trans BA.out.size (Nat.le_trans z1.size z2.size))
    exact ⟨rfl, (((BA.out.trans z1).trans z2).trans z3).trans bZ⟩
end Go.Proofs.YtckpeclkkmapiaaGreatDoor
