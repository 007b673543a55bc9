/-
  The walk of FramesApart: two frames have the same bytes just if they are the same; unlike ones of one length differ twice at least.
-/
import Derived.Test.YtckpeclkkmapiaaFrmUse
import Derived.Test.YtckpeclkkmapiaaQuiet
namespace Go.Proofs.Ytckpeclkkmapiaa
open Go.RowKit
open Go

/-- At how many of the first k places two lists differ. -/
def diffs (a b : List Nat) : Nat → Nat
  | 0 => 0
  | k + 1 => diffs a b k + if a[k]? = b[k]? then 0 else 1
theorem diffs_zero {a b : List Nat} {k : Nat} (h : diffs a b k = 0) : ∀ i, i < k → a[i]? = b[i]? := by
  induction k with
  | zero => intro i hi; omega
  | succ k ih =>
    intro i hi
    unfold diffs at h
    by_cases hk : a[k]? = b[k]?
    · rw [if_pos hk] at h
      by_cases hik : i = k
      · subst hik; exact hk
      · exact ih (by omega) i (by omega)
    · rw [if_neg hk] at h
      omega
theorem diffs_one {a b : List Nat} {k : Nat} (h : diffs a b k = 1) : ∃ j, ∀ i, i < k → i ≠ j → a[i]? = b[i]? := by
  induction k with
  | zero => simp [diffs] at h
  | succ k ih =>
    unfold diffs at h
    by_cases hk : a[k]? = b[k]?
    · rw [if_pos hk] at h
      obtain ⟨j, hj⟩ := ih (by omega)
      refine ⟨j, fun i hi hij => ?_⟩
      by_cases hik : i = k
      · subst hik; exact hk
      · exact hj i (by omega) hij
    · rw [if_neg hk] at h
      have h0 : diffs a b k = 0 := by omega
      exact ⟨k, fun i hi hik => diffs_zero h0 i (by omega)⟩
theorem diffs_not_one {f g : Fr} (hf : f.Ok) (hg : g.Ok) (hl : f.bytes.length = g.bytes.length) : diffs f.bytes g.bytes f.bytes.length ≠ 1 := by
  intro h
  obtain ⟨j, hj⟩ := diffs_one h
  have e : g.bytes = f.bytes := by
    refine twice_apart hf hg hl j fun i hi => ?_
    by_cases hlt : i < f.bytes.length
    · exact (hj i hlt hi).symm
    · rw [List.getElem?_eq_none (by omega), List.getElem?_eq_none (by omega)]
  rw [e] at h
  have : ∀ k, diffs f.bytes f.bytes k = 0 := by
    intro k
    induction k with
    | zero => rfl
    | succ k ih => unfold diffs; rw [ih, if_pos rfl]
  rw [this] at h
  cases h
theorem diffs_le (a b : List Nat) (k : Nat) : diffs a b k ≤ k := by
  induction k with
  | zero => simp [diffs]
  | succ k ih => unfold diffs; split <;> omega
theorem same_dec {sn rd mem md sn2 rd2 mem2 md2 : Nat} {pl pl2 : List Nat} (hF : (Fr.mk sn rd mem md pl).Ok) (hG : (Fr.mk sn2 rd2 mem2 md2 pl2).Ok) :
    decide (((sn : Int) = (sn2 : Int)) ∧ rd = rd2 ∧ mem = mem2 ∧ md = md2 ∧ iN pl = iN pl2) = decide (iN (Fr.mk sn rd mem md pl).bytes = iN (Fr.mk sn2 rd2 mem2 md2 pl2).bytes) := by
  rw [decide_eq_decide]
  constructor
  · rintro ⟨h1, rfl, rfl, rfl, h2⟩
    obtain rfl : sn = sn2 := by omega
    obtain rfl := iN_inj h2
    rfl
  · intro h
    have := bytes_inj hF hG (iN_inj h)
    simp only [Fr.mk.injEq] at this
    obtain ⟨rfl, rfl, rfl, rfl, rfl⟩ := this
    exact ⟨rfl, rfl, rfl, rfl, rfl⟩
theorem rd_at {w : World} {b c n : Nat} {bs : List Nat} (h : Rd w (.slice (some ⟨b, 0, none⟩) n c) (by8 (iN bs))) (k : Nat) (hk : k < bs.length) : ∃ x : Nat, bs[k]? = some x ∧ w.cell? ⟨b, k, none⟩ = some (.int .u8 x) := by
  obtain ⟨b', o, e, hc⟩ := h.get (cs := iN bs) k (by simpa using hk)
  cases e
  refine ⟨bs[k], List.getElem?_eq_getElem hk, ?_⟩
  rw [Nat.zero_add] at hc
  simpa using hc
theorem agg24 (w : World) : (isAgg 24).run Try.prog w = .ok false w := by kernel_rfl
/-- Put, of whatever has not too many bytes. -/
def PutP (st : Int) (rd mem md : Nat) (pl : List Nat) (w : World) (e : Ending) (w' : World) : Prop :=
  Below w.heap.size w w' ∧ ((¬ (1 ≤ st ∧ st ≤ 8) ∧ e = .returned (.tuple #[.slice none 0 0, .int .i64 1])) ∨
    ∃ sn : Nat, st = sn ∧ (Fr.mk sn rd mem md pl).Ok ∧ ∃ g c', e = .returned (.tuple #[.slice (some ⟨g, 0, none⟩) (13 + pl.length) c', .int .i64 0]) ∧ Rd w' (.slice (some ⟨g, 0, none⟩) (13 + pl.length) c') (by8 (iN (Fr.mk sn rd mem md pl).bytes)) ∧ 13 + pl.length ≤ c' ∧ c' ≤ 9223372036854775807)
theorem putP_any (st : Int) (rd mem md : Nat) (pl : List Nat) (a : Option Addr) (c : Nat) (w : World) (hv : Rd w (.slice a pl.length c) (by8 (iN pl))) (h4 : pl.length ≤ 4095) (h1 : rd < 4294967296) (h2 : mem < 256) (h3 : md < 65536) (hb : NB pl) :
    Calls Try.prog 10 #[.agg #[.int .i64 st, .int .u32 rd, .int .u8 mem, .int .u16 md, .slice a pl.length c]] w (PutP st rd mem md pl w) := by
  by_cases hok : 1 ≤ st ∧ st ≤ 8
  · obtain ⟨sn, rfl, hF⟩ := fr_mk ⟨hok.1, hok.2, h4⟩ h1 h2 h3 hb
    refine (put3 sn rd mem md pl hF a c w hv).mono ?_
    rintro e w' ⟨g, c', rfl, o, b, q1, q2, _⟩
    exact ⟨b, .inr ⟨sn, rfl, hF, g, c', rfl, own_rd o, q1, q2⟩⟩
  · refine (put_none st rd mem md a pl.length c w (by omega) (fun h => hok ⟨h.1, h.2.1⟩)).mono ?_
    rintro e w' ⟨rfl, b⟩
    exact ⟨b, .inl ⟨hok, rfl⟩⟩
set_option maxRecDepth 20000 in
set_option maxHeartbeats 4000000 in
theorem walk_FramesApart (v0 v1 : Value) (W : World) (A0 : Arg Try.prog 26 W v0) (A1 : Arg Try.prog 26 W v1) :
    Calls Try.prog 8 #[v0, v1] W fun e w' => e = .returned (.bool true) ∧ Below W.heap.size W w' := by
  obtain ⟨st, rd, mem, md, v, pl, rfl, hR, hpl, hplm, hst, hrd, hmem, hmd⟩ := A0.frame
  obtain ⟨st2, rd2, mem2, md2, v2, pl2, rfl, hR2, hpl2, hplm2, hst2, hrd2, hmem2, hmd2⟩ := A1.frame
  clear A0 A1
  have HR := Lib.hid hR
  have HR2 := Lib.hid hR2
  obtain ⟨a, c, rfl, hac, hcm, _, _⟩ := hR
  obtain ⟨a2, c2, rfl, hac2, hcm2, _, _⟩ := hR2
  have hl : (by8 (iN pl)).length = pl.length := by simp
  have hl2 : (by8 (iN pl2)).length = pl2.length := by simp
  rw [hl] at hac HR
  rw [hl2] at hac2 HR2
  rw [hl, hl2]
  unfold maxLen at hcm hcm2
  clear hl hl2
  have X1 : Below W.heap.size W ((W.alloc (.cells #[.int .i64 st, .int .u32 rd, .int .u8 mem, .int .u16 md, .slice a pl.length c] 26 (0, 0))).alloc (.cells #[.int .i64 st2, .int .u32 rd2, .int .u8 mem2, .int .u16 md2, .slice a2 pl2.length c2] 26 (0, 0))) := balloc (balloc (Below.refl _ _) _) _
  have k1 := heap_alloc2_old W (.cells #[.int .i64 st, .int .u32 rd, .int .u8 mem, .int .u16 md, .slice a pl.length c] 26 (0, 0)) (.cells #[.int .i64 st2, .int .u32 rd2, .int .u8 mem2, .int .u16 md2, .slice a2 pl2.length c2] 26 (0, 0))
  have j1 := heap_alloc2_new W (.cells #[.int .i64 st, .int .u32 rd, .int .u8 mem, .int .u16 md, .slice a pl.length c] 26 (0, 0)) (.cells #[.int .i64 st2, .int .u32 rd2, .int .u8 mem2, .int .u16 md2, .slice a2 pl2.length c2] 26 (0, 0))
  have key : decide (4095 < (pl.length : Int)) = true ∨ (decide (4095 < (pl.length : Int)) = false ∧ decide (4095 < (pl2.length : Int)) = true) ∨ (decide (4095 < (pl.length : Int)) = false ∧ decide (4095 < (pl2.length : Int)) = false ∧ pl.length ≤ 4095 ∧ pl2.length ≤ 4095) := by
    simp only [decide_eq_true_eq, decide_eq_false_iff_not]
    omega
  unfold frV
  rcases key with q1 | ⟨q1, q2⟩ | ⟨q1, q2, q3, q4⟩
  iterate 2
    · go_enter Try.func8, Try.ntmps8
      go_wp2_with fail
      refine (alive3_any _).mono ?_
      rintro e w2 ⟨rfl, b2⟩
      obtain ⟨y0, y1, y2, y3, y4⟩ := frame_cells ((b2.block _ (lt_of_block k1)).trans k1)
      obtain ⟨z0, z1, z2, z3, z4⟩ := frame_cells ((b2.block _ (lt_of_block j1)).trans j1)
      clear k1 j1
      go_wp2_with fail
      refine (alive3_any _).mono ?_
      rintro e w3 ⟨rfl, b3⟩
      go_wp2_with fail
      go_ret
      exact ⟨rfl, bnext (bnext X1 b2) b3⟩
  · go_enter Try.func8, Try.ntmps8
    go_wp2_with fail
    refine (alive3_any _).mono ?_
    rintro e w2 ⟨rfl, b2⟩
    have k2 := (b2.block _ (lt_of_block k1)).trans k1
    have j2 := (b2.block _ (lt_of_block j1)).trans j1
    have B2 := bnext X1 b2
    clear k1 j1 b2 X1
    have K2 := Lib.hid k2
    obtain ⟨y0, y1, y2, y3, y4⟩ := frame_cells k2
    obtain ⟨z0, z1, z2, z3, z4⟩ := frame_cells j2
    clear k2
    go_wp2_with fail
    refine (putP_any st rd mem md pl a c w2 (HR.out.below B2) q3 hrd hmem hmd hpl).mono ?_
    rintro e w3 ⟨b3, ⟨hno, rfl⟩ | ⟨sn, rfl, hF, ga, ca, rfl, ra, hca, hcam⟩⟩
    · obtain ⟨z0, z1, z2, z3, z4⟩ := frame_cells ((b3.block _ (lt_of_block j2)).trans j2)
      clear j2 y0 y1 y2 y3 y4 hno
      go_wp2_with fail
      refine (putP_any st2 rd2 mem2 md2 pl2 a2 c2 w3 (HR2.out.below (bnext B2 b3)) q4 hrd2 hmem2 hmd2 hpl2).mono ?_
      rintro e w4 ⟨b4, ⟨hno, rfl⟩ | ⟨sn2, rfl, hF2, ga2, ca2, rfl, ra2, hca2, hcam2⟩⟩
      · clear hno
        go_wp2_with fail
        go_ret
        exact ⟨rfl, bnext (bnext B2 b3) b4⟩
      · clear hF2 ra2
        go_wp2_with fail
        go_ret
        exact ⟨rfl, bnext (bnext B2 b3) b4⟩
    · have j3 := (b3.block _ (lt_of_block j2)).trans j2
      have k3 := (b3.block _ (lt_of_block K2.out)).trans K2.out
      have B3 := bnext B2 b3
      clear j2 K2 z0 z1 z2 z3 z4 y0 y1 y2 y3 y4
      obtain ⟨z0, z1, z2, z3, z4⟩ := frame_cells j3
      have HF := Lib.hid hF
      have RA := Lib.hid ra
      clear hF ra
      go_wp2_with fail
      refine (putP_any st2 rd2 mem2 md2 pl2 a2 c2 w3 (HR2.out.below B3) q4 hrd2 hmem2 hmd2 hpl2).mono ?_
      rintro e w4 ⟨b4, ⟨hno, rfl⟩ | ⟨sn2, rfl, hF2, ga2, ca2, rfl, ra2, hca2, hcam2⟩⟩
      · clear hno
        go_wp2_with fail
        go_ret
        exact ⟨rfl, bnext B3 b4⟩
      · have HF2 := Lib.hid hF2
        have RA2 := Lib.hid ra2
        have K4 := Lib.hid ((b4.block _ (lt_of_block k3)).trans k3)
        have J4 := Lib.hid ((b4.block _ (lt_of_block j3)).trans j3)
        have B4 := bnext B3 b4
        have RB := Lib.hid (RA.out.below b4)
        clear hF2 ra2 k3 j3 z0 z1 z2 z3 z4 RA b4
        have SB := fun (w' : World) (b' : Below w4.heap.size w4 w') => (same_any _ _ (iN (Fr.mk sn rd mem md pl).bytes) (iN (Fr.mk sn2 rd2 mem2 md2 pl2).bytes) w' (RB.out.below b') (RA2.out.below b')).mono fun e w'' ⟨he, h⟩ => And.intro he (bnext b' h)
        have SF := fun (w' : World) (b' : Below w4.heap.size w4 w') => (same_frame sn sn2 rd rd2 mem mem2 md md2 (.slice a pl.length c) (.slice a2 pl2.length c2) (iN pl) (iN pl2) w' (HR.out.below (bnext B4 b')) (HR2.out.below (bnext B4 b'))).mono fun e w'' ⟨he, h⟩ => And.intro he (bnext b' h)
        rw [same_dec HF.out HF2.out] at SF
        unfold frV at SF
        generalize decide (iN (Fr.mk sn rd mem md pl).bytes = iN (Fr.mk sn2 rd2 mem2 md2 pl2).bytes) = sm at SB SF
        have HSB := Lib.hid SB
        have HSF := Lib.hid SF
        have KC := Lib.hid (fun (w' : World) (b' : Below w4.heap.size w4 w') => (b'.block _ (lt_of_block K4.out)).trans K4.out)
        have JC := Lib.hid (fun (w' : World) (b' : Below w4.heap.size w4 w') => (b'.block _ (lt_of_block J4.out)).trans J4.out)
        have e1 : ((13 : Int) + pl.length != 13 + pl.length) = false := by simp
        have e2 : ((13 : Int) + pl2.length != 13 + pl2.length) = false := by simp
        have w1 : IntKind.i64.wrap (13 + (pl.length : Int)) = 13 + pl.length := by rw [IntKind.wrap_i64]; omega
        have w2' : IntKind.i64.wrap (13 + (pl2.length : Int)) = 13 + pl2.length := by rw [IntKind.wrap_i64]; omega
        have e3 : (sm != sm) = false := by simp
        clear SB SF
        go_wp2_with fail
        refine wp_region_quietC (fun w' => Below w4.heap.size w4 w') (by kernel_rfl) (by kernel_rfl) (bdraw (Below.refl _ _) 1) ?_
        repeat (first
          | go_big_quiet_skip
          | (go_big_quiet_want
             first
              | (refine quiet_load _ _ rfl _ rfl _ (fun w' hw' => run_loadVar_row w' _ _ _ _ _ _ (KC.out w' hw') Try.underlying26 rfl (infoF _ _ _ _ _)) ?_; go_simp; go_big_quiet_on)
              | (refine quiet_load _ _ rfl _ rfl _ (fun w' hw' => run_loadVar_row w' _ _ _ _ _ _ (JC.out w' hw') Try.underlying26 rfl (infoF _ _ _ _ _)) ?_; go_simp; go_big_quiet_on)
              | (refine quiet_load _ _ rfl _ rfl _ (fun w' hw' => run_loadVar_cell (KC.out w' hw') rfl (agg24 _)) ?_; go_simp; go_big_quiet_on)
              | (refine quiet_load _ _ rfl _ rfl _ (fun w' hw' => run_loadVar_cell (JC.out w' hw') rfl (agg24 _)) ?_; go_simp; go_big_quiet_on)
              | (go_big_quiet_op; go_big_quiet_on)
              | (go_big_quiet_op; apply Exists.intro; refine ⟨fun w' hw' => ?_, ?_⟩; (first | with_reducible exact rfl | with_reducible exact HSB.out w' hw' | with_reducible exact HSF.out w' hw'); go_big_quiet_on)))
        refine wpQuiet_nil ?_
        intro w5 b5
        have B5 := bnext B4 b5
        have P := Lib.hid (fun (w' : World) (b' : Below w5.heap.size w5 w') => And.intro (RB.out.below (bnext b5 b')) (RA2.out.below (bnext b5 b')))
        have L1 := Lib.hid (Fr.mk sn rd mem md pl).bytes_len
        have L2 := Lib.hid (Fr.mk sn2 rd2 mem2 md2 pl2).bytes_len
        have ND := fun h => diffs_not_one HF.out HF2.out h
        rw [L1.out, L2.out] at ND
        have HND := Lib.hid ND
        clear ND e1 e2 e3 w1 w2' HSB HSF KC JC RB RA2 K4 J4
        by_cases hlen : pl.length = pl2.length
        · have HL := Lib.hid hlen
          have e4 : ((13 : Int) + pl.length == 13 + pl2.length) = true := by rw [beq_iff_eq]; omega
          have e5 : ((13 : Int) + pl.length != 13 + pl2.length) = false := by rw [bne_eq_false_iff_eq]; omega
          have hle : pl.length ≤ pl2.length := by omega
          have hge : pl2.length ≤ pl.length := by omega
          clear hlen
          go_wp2_with fail
          go_loopw [9, 10] (fun ap i wr => ∃ k : Nat, k ≤ 13 + pl.length ∧ i = .int .i64 k ∧ ap = .int .i64 (diffs (Fr.mk sn rd mem md pl).bytes (Fr.mk sn2 rd2 mem2 md2 pl2).bytes k) ∧ Below w5.heap.size w5 wr) (fun _ i _ => 13 + pl.length - (intOf i).toNat)
          case atStart => exact ⟨0, by omega, rfl, rfl, Below.refl _ _⟩
          case round =>
            obtain ⟨k, hk, rfl, rfl, hb⟩ := hrel
            by_cases hlt : k < 13 + pl.length
            · obtain ⟨r1, r2⟩ := P.out wr hb
              obtain ⟨x, hx, x0⟩ := rd_at r1 k (by have := L1.out; omega)
              obtain ⟨y, hy, x1⟩ := rd_at r2 k (by have := L2.out; omega)
              have hd : Hid (diffs (Fr.mk sn rd mem md pl).bytes (Fr.mk sn2 rd2 mem2 md2 pl2).bytes (k + 1) = diffs (Fr.mk sn rd mem md pl).bytes (Fr.mk sn2 rd2 mem2 md2 pl2).bytes k + if x = y then 0 else 1) := by
                show diffs _ _ (k + 1) = _
                conv => lhs; unfold diffs
                rw [hx, hy]
                simp
              have hdl := diffs_le (Fr.mk sn rd mem md pl).bytes (Fr.mk sn2 rd2 mem2 md2 pl2).bytes k
              have hk2 : k < 13 + pl2.length := by omega
              clear r1 r2 hx hy
              generalize diffs (Fr.mk sn rd mem md pl).bytes (Fr.mk sn2 rd2 mem2 md2 pl2).bytes k = d at *
              cases hxy : ((x : Int) != y)
              · have hxe : x = y := by have := bne_eq_false_iff_eq.1 hxy; omega
                have HD : Hid (diffs (Fr.mk sn rd mem md pl).bytes (Fr.mk sn2 rd2 mem2 md2 pl2).bytes (k + 1) = d) := by
                  show _ = _
                  rw [hd.out, if_pos hxe, Nat.add_zero]
                clear hxe
                go_wp2_with fail
                go_quiet (fail)
                go_wp2_with fail
                go_roundw
                case rel => exact ⟨k + 1, by omega, by go_num, by rw [HD.out], bdraw hb _⟩
                case measure => simp [intOf]; omega
              · have hxe : ¬ x = y := by have := bne_iff_ne.1 hxy; omega
                have HD : Hid (diffs (Fr.mk sn rd mem md pl).bytes (Fr.mk sn2 rd2 mem2 md2 pl2).bytes (k + 1) = d + 1) := by
                  show _ = _
                  rw [hd.out, if_neg hxe]
                clear hxe
                go_wp2_with fail
                go_quiet (fail)
                go_wp2_with fail
                go_roundw
                case rel => exact ⟨k + 1, by omega, by go_num, by rw [HD.out]; go_num, bdraw hb _⟩
                case measure => simp [intOf]; omega
            · obtain rfl : k = 13 + pl.length := by omega
              have hnd := HND.out (by omega)
              have hdl := diffs_le (Fr.mk sn rd mem md pl).bytes (Fr.mk sn2 rd2 mem2 md2 pl2).bytes (13 + pl.length)
              generalize diffs (Fr.mk sn rd mem md pl).bytes (Fr.mk sn2 rd2 mem2 md2 pl2).bytes (13 + pl.length) = d at *
              by_cases hd0 : d = 0
              · subst hd0
                go_wp2_with fail
                go_ret
                exact ⟨rfl, bnext B5 hb⟩
              · have q0 : ((d : Int) == 0) = false := by rw [beq_eq_false_iff_ne]; omega
                have q1' : decide (1 < (d : Int)) = true := by rw [decide_eq_true_eq]; omega
                clear hd0 hnd
                go_wp2_with fail
                go_ret
                exact ⟨rfl, bnext B5 hb⟩
        · have e4 : ((13 : Int) + pl.length == 13 + pl2.length) = false := by rw [beq_eq_false_iff_ne]; omega
          have e5 : ((13 : Int) + pl.length != 13 + pl2.length) = true := by rw [bne_iff_ne]; omega
          clear hlen
          go_wp2_with fail
          go_loopw [9, 10] (fun ap i wr => i = .int .i64 0 ∧ ap = .int .i64 0 ∧ w5 = wr) (fun _ i _ => 0)
          case atStart => exact ⟨rfl, rfl, rfl⟩
          case round =>
            obtain ⟨rfl, rfl, rfl⟩ := hrel
            go_wp2_with fail
            go_ret
            exact ⟨rfl, B5⟩
end Go.Proofs.Ytckpeclkkmapiaa
