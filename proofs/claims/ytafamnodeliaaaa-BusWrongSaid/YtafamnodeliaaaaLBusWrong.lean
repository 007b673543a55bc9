/-
  The walk of BusWrong: a frame of which one byte is changed is told from all frames.
-/
import Derived.Test.YtafamnodeliaaaaFrmUseB
import Derived.Test.YtafamnodeliaaaaBusArgs
import Derived.Test.YtafamnodeliaaaaBusLives
namespace Go.Proofs.Ytafamnodeliaaaa
open Go.RowKit
open Go

theorem rdB_one (w : World) (u : Value) (cs : List Int) (h : Rd w u (by8 cs)) (hm : cs.length ≤ 140737488351232) : RdB (w.alloc (.cells #[u] 34 (0, 0))) (.slice (some ⟨w.heap.size, 0, none⟩) 1 1) [cs] := by
  refine ⟨[u], rd_new w [u] 34 1 1 (0, 0) rfl (by decide) (by decide), rfl, fun i x c hx hc => ?_⟩
  match i, hx, hc with
  | 0, hx, hc =>
    simp at hx hc
    subst hx
    subst hc
    exact ⟨h.below (balloc (Below.refl _ _) _), hm⟩
/-- One byte turned. -/
theorem spoil_nat (B : List Nat) (f : Fl) (y : Nat) (hy : f.b = y) (hy2 : y < 256) (hB : NB B) (h : 0 < B.length) : ∃ k x, k < B.length ∧ B[k]? = some x ∧ spoil f (iN B) = iN (B.set k (x ^^^ y)) := by
  have hl : (iN B).length = B.length := by simp
  have hk : f.a.toNat % B.length < B.length := Nat.mod_lt _ h
  refine ⟨f.a.toNat % B.length, B[f.a.toNat % B.length], hk, List.getElem?_eq_getElem hk, ?_⟩
  unfold spoil
  rw [dif_pos (by rw [hl]; exact h)]
  have e : f.a.toNat % (iN B).length = f.a.toNat % B.length := by rw [hl]
  have e2 : (iN B)[f.a.toNat % (iN B).length]'(by rw [hl]; rw [hl] at e; exact hk) = ((B[f.a.toNat % B.length] : Nat) : Int) := by
    simp [hl]
  rw [e2, hy, u8_xor_nat _ _ (hB _ (List.getElem_mem hk)) hy2, e]
  simp only [iN, List.map_set]
theorem out_one (f : Fl) (cs : List Int) (h : f.h = 2) (hs : f.s = 1) (hr : f.r = 0) : [cs].mapIdx (outI [f] 0) = [spoil f cs] := by
  have e1 : silB 1 0 f = false := by simp [silB, h]
  simp [outI, e1, stepI, h, hs, hr]
theorem err_one {f : Fr} (h : f.Ok) (k x y : Nat) (hk : k < f.bytes.length) (hx : f.bytes[k]? = some x) (hy : y < 256) (h0 : y ≠ 0) : NB (f.bytes.set k (x ^^^ y)) ∧ (errOf (f.bytes.set k (x ^^^ y)) = 4 ∨ errOf (f.bytes.set k (x ^^^ y)) = 5) := by
  have hx256 : x < 256 := h.bytes x (List.mem_of_getElem? hx)
  have hnb : NB (f.bytes.set k (x ^^^ y)) := fun c hc => by
    rcases List.mem_or_eq_of_mem_set hc with h' | h'
    · exact h.bytes c h'
    · rw [h']
      exact Nat.xor_lt_two_pow (n := 8) hx256 hy
  refine ⟨hnb, err_spoiled h _ hnb (List.length_set ..) k 1 (by decide) (by rw [f.bytes_len] at hk; omega) (fun i hi => ?_) (fun e => ?_)⟩
  · rw [List.getElem?_set_ne (by omega)]
  · have h1 : (f.bytes.set k (x ^^^ y))[k]? = some (x ^^^ y) := by rw [List.getElem?_set, if_pos rfl, if_pos hk]
    rw [e, hx] at h1
    have h2 : x = x ^^^ y := Option.some.inj h1
    have h3 := congrArg (fun z => x ^^^ z) h2
    simp only [Nat.xor_self, ← Nat.xor_assoc, Nat.zero_xor] at h3
    exact h0 h3.symm
set_option maxRecDepth 20000 in
set_option maxHeartbeats 4000000 in
theorem walk_BusWrong (v0 v1 v2 : Value) (W : World) (A0 : Arg Try.prog 38 W v0) (A1 : Arg Try.prog 3 W v1) (A2 : Arg Try.prog 5 W v2) :
    Calls Try.prog 5 #[v0, v1, v2] W fun e w' => e = .returned (.bool true) ∧ Below W.heap.size W w' := by
  obtain ⟨st, rd, mem, md, v, pl, rfl, hR, hpl, hplm, hst, hrd, hmem, hmd⟩ := A0.frame
  obtain ⟨at_, rfl, wat⟩ := A1.int Try.underlying3
  obtain ⟨byI, rfl, wby⟩ := A2.int Try.underlying5
  obtain ⟨y, rfl, hy⟩ := nat_of (bounds_u8 wby).1 (bounds_u8 wby).2
  obtain ⟨hat0, hat1⟩ := bounds_i64 wat
  clear A0 A1 A2 wat wby
  have HR := Lib.hid hR
  obtain ⟨a, c, rfl, hac, hcm, _, _⟩ := hR
  have hl : (by8 (iN pl)).length = pl.length := by simp
  rw [hl] at hac HR ⊢
  unfold maxLen at hcm
  clear hl
  have X1 : Below W.heap.size W (W.alloc (.cells #[.int .i64 st, .int .u32 rd, .int .u8 mem, .int .u16 md, .slice a pl.length c] 38 (0, 0))) := balloc (Below.refl _ _) _
  have k1 := heap_alloc_new W (.cells #[.int .i64 st, .int .u32 rd, .int .u8 mem, .int .u16 md, .slice a pl.length c] 38 (0, 0))
  by_cases hok : 1 ≤ st ∧ st ≤ 8 ∧ pl.length ≤ 4095
  · obtain ⟨sn, rfl, hF⟩ := fr_mk hok hrd hmem hmd hpl
    have h4 := hok.2.2
    have HF := Lib.hid hF
    have HBL := Lib.hid (Fr.mk sn rd mem md pl).bytes_len
    have key : ((y : Int) == 0) = true ∨ (((y : Int) == 0) = false ∧ decide (at_ < 0) = true) ∨ (((y : Int) == 0) = false ∧ decide (at_ < 0) = false ∧ y ≠ 0 ∧ 0 ≤ at_) := by
      simp only [beq_iff_eq, beq_eq_false_iff_ne, decide_eq_true_eq, decide_eq_false_iff_not]
      omega
    clear hok hF hpl
    unfold frV
    rcases key with q1 | ⟨q1, q2⟩ | ⟨q1, q2, q3, q4⟩
    iterate 2
      · go_enter Try.func5, Try.ntmps5
        go_wp2_with fail
        refine (put3 sn rd mem md pl HF.out a c _ (HR.out.below X1)).mono ?_
        rintro e w3 ⟨gb, cb, rfl, o3, b3, hcb, hcb2, hg1, hg2⟩
        go_wp2_with fail
        refine (lives22_any _).mono ?_
        rintro e w4 ⟨rfl, b4⟩
        go_wp2_with fail
        go_ret
        exact ⟨rfl, bnext (bnext X1 b3) b4⟩
    · go_enter Try.func5, Try.ntmps5
      go_wp2_with fail
      refine (put3 sn rd mem md pl HF.out a c _ (HR.out.below X1)).mono ?_
      rintro e w3 ⟨gb, cb, rfl, o3, b3, hcb, hcb2, hg1, hg2⟩
      have k3 := (b3.block _ (lt_of_block k1)).trans k1
      have B3 := bnext X1 b3
      have R3 := Lib.hid (own_rd o3)
      obtain ⟨k, x, hk, hx, hsp⟩ := spoil_nat (Fr.mk sn rd mem md pl).bytes ⟨0, 1, 2, at_, y⟩ y rfl (by omega) HF.out.bytes (by rw [HBL.out]; omega)
      obtain ⟨hnb, he⟩ := err_one HF.out k x y hk hx (by omega) q3
      have HNB := Lib.hid hnb
      have hlen : ((Fr.mk sn rd mem md pl).bytes.set k (x ^^^ y)).length = 13 + pl.length := by rw [List.length_set, HBL.out]
      have HLEN := Lib.hid hlen
      have SP := Lib.hid hsp
      clear k1 b3 o3 hk hx hnb hlen hsp X1
      go_wp2_with fail
      have xa := balloc (Below.refl w3.heap.size w3) (.cells #[.slice (some ⟨gb, 0, none⟩) (13 + pl.length) cb] 34 (0, 0))
      have hsB := rdB_one w3 (.slice (some ⟨gb, 0, none⟩) (13 + pl.length) cb) (iN (Fr.mk sn rd mem md pl).bytes) R3.out (by simp [HBL.out]; omega)
      have hsN := hsB.below (balloc (Below.refl _ _) (.cells (rowF ⟨0, 1, 2, at_, y⟩).toArray 29 (0, 0)))
      have hF1 := rdN_fails (w := w3.alloc (.cells #[.slice (some ⟨gb, 0, none⟩) (13 + pl.length) cb] 34 (0, 0))) ⟨0, 1, 2, at_, y⟩
      have xb := balloc xa (.cells (rowF ⟨0, 1, 2, at_, y⟩).toArray 29 (0, 0))
      have C := round_any _ _ _ [⟨0, 1, 2, at_, y⟩] 0 _ hsN hF1 (by simp) (by omega) (by simp only [decide_eq_false_iff_not] at q2; simp [oddB, q4]) (by simp)
      rw [out_one _ _ rfl rfl rfl, SP.out] at C
      have e1 : (w3.alloc (.cells #[.slice (some ⟨gb, 0, none⟩) (13 + pl.length) cb] 34 (0, 0))).heap.size = w3.heap.size + 1 := by simp
      rw [e1] at C
      have HC := Lib.hid C
      have HXB := Lib.hid xb
      clear C xb xa hF1 hsN hsB e1
      refine Calls.mono HC.out ?_
      rintro e w4 ⟨vo, vs, rfl, b4, r4, o4⟩
      have A4 := o4.rdB r4 (fun c hc => by
        obtain rfl := List.mem_singleton.1 hc
        have := HLEN.out
        simp only [iN, List.length_map]
        omega)
      have A4l := A4.len
      obtain ⟨a4, c4, rfl, hc4, hcm4⟩ := A4l
      obtain ⟨p4, o4', z4, y4, rfl, g4, t4, hz1, hz2, _⟩ := A4.at 0 _ rfl
      have B34 := bnext HXB.out b4
      have K4 := Lib.hid ((B34.block _ (lt_of_block k3)).trans k3)
      have R4 := Lib.hid (R3.out.below B34)
      have B4 := bnext B3 B34
      have hl4 : (iN ((Fr.mk sn rd mem md pl).bytes.set k (x ^^^ y))).length = 13 + pl.length := by
        have := HLEN.out
        simp only [iN, List.length_map]
        omega
      rw [hl4] at g4 t4 hz1
      have T4 := Lib.hid t4
      clear A4 r4 o4 HC HXB b4 B34 k3 R3 B3 t4 hl4
      simp only [List.length_cons, List.length_nil, Nat.zero_add, Nat.add_zero] at *
      go_wp2_with fail
      have G := fun q h0 h => bad3 ((Fr.mk sn rd mem md pl).bytes.set k (x ^^^ y)) q HNB.out (.slice z4 (13 + pl.length) y4) w4 T4.out (by rw [HLEN.out]; omega) h h0
      have G2 : (Calls Try.prog 11 #[.slice z4 (13 + pl.length) y4] w4 fun e w' => e = .returned (.tuple #[.agg #[.int .i64 0, .int .u32 0, .int .u8 0, .int .u16 0, .slice none 0 0], .int .i64 4]) ∧ Below w4.heap.size w4 w') ∨
          (Calls Try.prog 11 #[.slice z4 (13 + pl.length) y4] w4 fun e w' => e = .returned (.tuple #[.agg #[.int .i64 0, .int .u32 0, .int .u8 0, .int .u16 0, .slice none 0 0], .int .i64 5]) ∧ Below w4.heap.size w4 w') := by
        rcases he with he | he
        · exact .inl (G 4 (by decide) he)
        · exact .inr (G 5 (by decide) he)
      clear G he
      rcases G2 with G2 | G2
      all_goals
        refine G2.mono ?_
        clear G2
        rintro e w5 ⟨rfl, b5⟩
        go_wp2_with fail
        have X5 := balloc b5 (.cells #[.int .i64 0, .int .u32 0, .int .u8 0, .int .u16 0, .slice none 0 0] 38 (0, 0))
        refine (get3 sn rd mem md pl HF.out _ _ (R4.out.below X5)).mono ?_
        rintro e w6 ⟨a6, c6, rfl, o6, b6⟩
        have X6 := balloc (bnext X5 b6) (.cells #[.int .i64 sn, .int .u32 rd, .int .u8 mem, .int .u16 md, .slice a6 pl.length c6] 38 (0, 0))
        have p6 := (own_rd o6).below (balloc (Below.refl _ _) (.cells #[.int .i64 sn, .int .u32 rd, .int .u8 mem, .int .u16 md, .slice a6 pl.length c6] 38 (0, 0)))
        have P6 := Lib.hid p6
        have B6 := bnext B4 X6
        have j1 := (X6.block _ (lt_of_block K4.out)).trans K4.out
        have j2 := heap_alloc_new w6 (.cells #[.int .i64 sn, .int .u32 rd, .int .u8 mem, .int .u16 md, .slice a6 pl.length c6] 38 (0, 0))
        clear o6 p6 X5 X6 b5 b6
        obtain ⟨y0, y1, y2, y3, y4'⟩ := frame_cells j1
        obtain ⟨z0, z1, z2, z3, z4'⟩ := frame_cells j2
        clear j1 j2
        go_wp2_with fail
        refine (same3 sn rd mem md pl _ _ _ P6.out (HR.out.below B6)).mono ?_
        rintro e w7 ⟨rfl, b7⟩
        go_wp2_with fail
        refine (lives22_any _).mono ?_
        rintro e w8 ⟨rfl, b8⟩
        go_wp2_with fail
        go_ret
        exact ⟨rfl, bnext (bnext B6 b7) b8⟩
  · have HP := Lib.hid (fun w => put_none st rd mem md a pl.length c w (by omega) hok)
    clear hok
    unfold frV at *
    go_enter Try.func5, Try.ntmps5
    go_wp2_with fail
    refine (HP.out _).mono ?_
    rintro e w3 ⟨rfl, b3⟩
    go_wp2_with fail
    refine (lives22_any _).mono ?_
    rintro e w4 ⟨rfl, b4⟩
    go_wp2_with fail
    go_ret
    exact ⟨rfl, bnext (bnext X1 b3) b4⟩
end Go.Proofs.Ytafamnodeliaaaa
