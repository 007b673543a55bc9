/-
  The walks of belfryref03: bytes, Put.
-/
import Derived.Test.YtckpeclkkmapiaaGreatDoorRefBits
import Derived.Test.YtckpeclkkmapiaaGreatDoorFrmPut
import Derived.Test.YtckpeclkkmapiaaGreatDoorRef1
import Derived.Test.YtckpeclkkmapiaaGreatDoorCrcPlain
import Derived.Test.YtckpeclkkmapiaaGreatDoorKit2
import Derived.Test.YtckpeclkkmapiaaGreatDoorAppRd
import Derived.Deep.RegionHeld3
namespace Go.Proofs.YtckpeclkkmapiaaGreatDoor
open Go.RowKit
open Go

/-- The reference's bits, all of them new since w0; nothing older has turned. -/
def RM (w0 : World) (p : Nat) (L : List Bool) (w : World) : Prop := ∃ v, RefAt w0.heap.size p v L w ∧ Below w0.heap.size w0 w
theorem RM.bel {w0 : World} {p : Nat} {L : List Bool} {w : World} (h : RM w0 p L w) : Below w0.heap.size w0 w := by
  obtain ⟨v, _, h⟩ := h
  exact h
theorem RM.below {w0 : World} {p : Nat} {L : List Bool} {w w' : World} (h : RM w0 p L w) (hb : Below w.heap.size w w') : RM w0 p L w' := by
  obtain ⟨v, h1, h2⟩ := h
  exact ⟨v, h1.below hb, bnext h2 hb⟩
theorem new_rm (w0 : World) : RM w0 w0.heap.size [] (w0.alloc (.cells #[.slice none 0 0] 92 (0, 0))) :=
  ⟨.slice none 0 0, ⟨Nat.le_refl _, heap_alloc_new _ _, ⟨rfl, .inl ⟨rfl, rfl⟩⟩, by simp⟩, balloc (Below.refl _ _) _⟩
theorem rput_rm (w0 : World) (p : Nat) (L : List Bool) (n k : Nat) (w : World) (h : RM w0 p L w) (hn : n < 2 ^ k) (hk : k ≤ 64) (hm : L.length + k < 1000000) :
    Calls Tryz.prog 97 #[.pointer (some ⟨p, 0, none⟩), .int .u64 n, .int .i64 k] w fun e w' => e = .returned (.int .i64 0) ∧ RM w0 p (L ++ nbits n k) w' := by
  obtain ⟨v, h1, h2⟩ := h
  refine (rput_ok _ p v L n k w h1 hn hk hm h2.size).mono ?_
  rintro e w' ⟨rfl, v', q1, q2⟩
  exact ⟨rfl, v', q1, h2.trans (q2.only.below (fun k hk => (h1.foot_lt k hk).1) h2.size)⟩
theorem rbytes_rm (w0 : World) (p : Nat) (L : List Bool) (w : World) (h : RM w0 p L w) :
    Calls Tryz.prog 98 #[.pointer (some ⟨p, 0, none⟩)] w fun e w' => ∃ v', e = .returned v' ∧ w'.ownsRow w.heap.size 5 1 v' (pack L).length (by8 (iN (pack L))) ∧ Rd w' v' (by8 (iN (pack L))) ∧ Below w.heap.size w w' := by
  obtain ⟨v, h1, h2⟩ := h
  refine (rbytes_any _ p v L w h1).mono ?_
  rintro e w' ⟨v', rfl, q1, q2⟩
  rw [pack_len]
  exact ⟨v', rfl, q1, own_rd q1, q2⟩

set_option maxRecDepth 20000 in
set_option maxHeartbeats 4000000 in
theorem rfbytes_any (f : Fr) (h : f.Ok) (v : Value) (w : World) (hv : Rd w v (by8 (iN f.pl))) :
    Calls Tryz.prog 105 #[frV f.st f.rd f.mem f.md v] w fun e w' => ∃ u, e = .returned u ∧ w'.ownsRow w.heap.size 5 1 u f.bytes.length (by8 (iN f.bytes)) ∧ Below w.heap.size w w' := by
  have hl : (by8 (iN f.pl)).length = f.pl.length := by simp
  have hv0 := hv
  obtain ⟨a, c, rfl, hc, hcm, _, _⟩ := hv
  rw [hl] at *
  have h8 := h.st8
  have hrd := h.rd
  have hmem := h.mem
  have hmd := h.md
  have hln := h.len
  unfold maxLen at hcm
  clear hl
  unfold frV
  go_enter Tryz.func105, Tryz.ntmps105
  have HV := Lib.hid hv0
  clear hv0
  have B1 := balloc (Below.refl w.heap.size w) (.cells #[.int .i64 f.st, .int .u32 f.rd, .int .u8 f.mem, .int .u16 f.md, .slice a f.pl.length c] 65 (0, 0))
  have k1 := heap_alloc_new w (.cells #[.int .i64 f.st, .int .u32 f.rd, .int .u8 f.mem, .int .u16 f.md, .slice a f.pl.length c] 65 (0, 0))
  have M := new_rm (w.alloc (.cells #[.int .i64 f.st, .int .u32 f.rd, .int .u8 f.mem, .int .u16 f.md, .slice a f.pl.length c] 65 (0, 0)))
  have hsz : (w.alloc (.cells #[.int .i64 f.st, .int .u32 f.rd, .int .u8 f.mem, .int .u16 f.md, .slice a f.pl.length c] 65 (0, 0))).heap.size = w.heap.size + 1 := by simp
  go_wp2_with fail
  rw [hsz] at M
  generalize w.alloc (.cells #[.int .i64 f.st, .int .u32 f.rd, .int .u8 f.mem, .int .u16 f.md, .slice a f.pl.length c] 65 (0, 0)) = w1 at *
  have K1 := Lib.hid k1
  have BB := Lib.hid B1
  clear k1 B1 hsz
  refine (rput_rm w1 _ [] f.st 4 _ M (by omega) (by decide) (by simp)).mono ?_
  clear M
  rintro e v0 ⟨rfl, M⟩
  have kf := (M.bel.block _ (lt_of_block K1.out)).trans K1.out
  obtain ⟨c0, c1, c2, c3, c4⟩ := frame_cells kf
  clear kf
  go_wp2_with fail
  clear c0 c1 c2 c3 c4
  refine (rput_rm w1 _ ([] ++ nbits f.st 4) f.rd 32 _ M (by omega) (by decide) (by simp [nbits_len])).mono ?_
  clear M
  rintro e v1 ⟨rfl, M⟩
  have kf := (M.bel.block _ (lt_of_block K1.out)).trans K1.out
  obtain ⟨c0, c1, c2, c3, c4⟩ := frame_cells kf
  clear kf
  go_wp2_with fail
  clear c0 c1 c2 c3 c4
  refine (rput_rm w1 _ ([] ++ nbits f.st 4 ++ nbits f.rd 32) f.mem 8 _ M (by omega) (by decide) (by simp [nbits_len])).mono ?_
  clear M
  rintro e v2 ⟨rfl, M⟩
  have kf := (M.bel.block _ (lt_of_block K1.out)).trans K1.out
  obtain ⟨c0, c1, c2, c3, c4⟩ := frame_cells kf
  clear kf
  go_wp2_with fail
  clear c0 c1 c2 c3 c4
  refine (rput_rm w1 _ ([] ++ nbits f.st 4 ++ nbits f.rd 32 ++ nbits f.mem 8) f.md 16 _ M (by omega) (by decide) (by simp [nbits_len])).mono ?_
  clear M
  rintro e v3 ⟨rfl, M⟩
  have kf := (M.bel.block _ (lt_of_block K1.out)).trans K1.out
  obtain ⟨c0, c1, c2, c3, c4⟩ := frame_cells kf
  clear kf
  go_wp2_with fail
  clear c0 c1 c2 c3 c4
  refine (rput_rm w1 _ ([] ++ nbits f.st 4 ++ nbits f.rd 32 ++ nbits f.mem 8 ++ nbits f.md 16) f.pl.length 12 _ M (by omega) (by decide) (by simp [nbits_len])).mono ?_
  clear M
  rintro e v4 ⟨rfl, M⟩
  have kf := (M.bel.block _ (lt_of_block K1.out)).trans K1.out
  obtain ⟨c0, c1, c2, c3, c4⟩ := frame_cells kf
  clear kf
  clear c0 c1 c2 c3
  have e0 : [] ++ nbits f.st 4 ++ nbits f.rd 32 ++ nbits f.mem 8 ++ nbits f.md 16 ++ nbits f.pl.length 12 = headBits f.st f.rd f.mem f.md f.pl.length := by simp [headBits]
  rw [e0] at M
  clear e0 c4
  have md : RM w1 (w.heap.size + 1) (headBits f.st f.rd f.mem f.md f.pl.length) v4.drew := M.below (bdraw (Below.refl _ _) 1)
  have HB := Lib.hid (rbytes_rm w1 _ _ _ md)
  obtain ⟨i0, hi, hz0, hz1, hz2⟩ := info_parts info5
  have eh : pack (headBits f.st f.rd f.mem f.md f.pl.length) = f.head := rfl
  rw [eh, f.head_len] at HB
  have kf := (md.bel.block _ (lt_of_block K1.out)).trans K1.out
  have HK := Lib.hid (frame_cells kf).2.2.2.2
  have BW : Below w.heap.size w v4.drew := BB.out.trans (md.bel.mono BB.out.size)
  have KC := Lib.hid (fun (w9 : World) (b9 : Below v4.drew.heap.size v4.drew w9) => (frame_cells ((b9.block _ (lt_of_block kf)).trans kf)).2.2.2.2)
  have HLT := Lib.hid (show w.heap.size < v4.drew.heap.size from lt_of_block kf)
  clear kf md M eh
  go_wp2_with fail
  go_region_held3 (fun w' => w'.cell? ⟨w.heap.size, 4, none⟩ = some (.slice a f.pl.length c))
    (first | exact HK.out | exact E1 | exact E5)
    (first
      | (go_at_call 98; refine Calls.mono HB.out ?_; rintro e w4 ⟨u, rfl, o4, r4, b4⟩; have E1 := KC.out _ b4)
      | (refine step_append_rd _ (by rfl) _ _ _ (by rfl) v4.drew.heap.size 5 i0 (.int .u8 0) 1 Tryz.underlying22 hi hz0 hz1 hz2 rfl u 9 (by8 (iN f.head)) (by rfl) o4 _ (by8 (iN f.pl)) (by rfl) (HV.out.below (bnext BW b4)) (oc8 _ _) (by simp [maxLen]; omega) (by simp; omega) b4.size ?_; intro v5 w5 o5 g5 s5; have E5 := (g5.cell_far ⟨w.heap.size, 4, none⟩ (Nat.lt_of_lt_of_le HLT.out b4.size) (own_far o4 _ HLT.out)).trans E1))
  have b5 : Below v4.drew.heap.size v4.drew w5 := b4.grown g5 b4.size (own_ge o4)
  have B5 := bnext BW b5
  rw [← by8_append, ← iN_append] at o5
  have e5 : 9 + (by8 (iN f.pl)).length = f.body.length := by simp [f.body_len]
  rw [e5] at o5
  replace o5 : w5.ownsRow w.heap.size 5 1 v5 f.body.length (by8 (iN f.body)) := own_base o5 BW.size
  have O5 := Lib.hid o5
  obtain ⟨a5, c5, rfl⟩ := owns_shape o5
  have HBOD := Lib.hid (crcN_lt h.body)
  clear o4 r4 b4 E1 o5 g5 s5 E5 b5 BW HB HK KC HLT e5
  rename_i hx
  clear hx
  go_wp2_with fail
  have RO := rof_any (.slice a5 f.body.length c5) (iN f.body) w5 (own_rd O5.out) h.body.isB
  rw [more_r 0 _ (by decide) (by decide) h.body.isB, crcN_eq h.body] at RO
  refine RO.mono ?_
  clear RO
  rintro e w6 ⟨rfl, rfl⟩
  have hcr := HBOD.out
  generalize hcc : crcN f.body = cc at *
  have HCC := Lib.hid hcc
  have e4 : (#[Value.int .u8 ((cc : Int) / 16777216), .int .u8 ((cc : Int) / 65536 % 256), .int .u8 ((cc : Int) / 256 % 256), .int .u8 ((cc : Int) % 256)] : Array Value) = (by8 (iN (num4 cc))).toArray := by
    simp [num4]
    omega
  have HR := rd_new w5 (by8 (iN (num4 cc))) 5 4 4 (0, 0) rfl (by decide) (by decide)
  rw [← e4] at HR
  have HHR := Lib.hid HR
  have HBL := Lib.hid f.body_len
  have HPL := Lib.hid h.len
  have BS := Lib.hid B5.size
  clear e4 HR hcc
  go_wp2_with (at_builtin; refine wpList_append_rd _ rfl _ _ 22 rfl w.heap.size 5 i0 (.int .u8 0) 1 Tryz.underlying22 hi hz0 hz1 hz2 rfl _ _ _ rfl (O5.out.alloc _) _ (by8 (iN (num4 cc))) rfl HHR.out (oc8 _ _) (by have := HBL.out; have := HPL.out; simp [num4, maxLen]; omega) (by have := HBL.out; have := HPL.out; simp [num4]; omega) (by have := BS.out; simp; omega) ?_; intro v7 w7 o7 g7)
  go_ret
  have B7 := ((balloc B5 (.cells #[Value.int .u8 ((cc : Int) / 16777216), .int .u8 ((cc : Int) / 65536 % 256), .int .u8 ((cc : Int) / 256 % 256), .int .u8 ((cc : Int) % 256)] 5 (0, 0)))).grown g7 (by have := BS.out; simp; omega) (own_ge O5.out)
  refine ⟨v7, rfl, ?_, B7⟩
  rw [← by8_append, ← iN_append] at o7
  have e8 : f.body ++ num4 cc = f.bytes := by rw [← HCC.out]; rfl
  have e9 : f.body.length + (by8 (iN (num4 cc))).length = f.bytes.length := by rw [f.bytes_len, f.body_len]; simp [num4]; omega
  rw [e8, e9] at o7
  exact o7

theorem rfput_yes (f : Fr) (h : f.Ok) (v : Value) (w : World) (hv : Rd w v (by8 (iN f.pl))) :
    Calls Tryz.prog 31 #[frV f.st f.rd f.mem f.md v] w fun e w' => ∃ u, e = .returned (.tuple #[u, .int .i64 0]) ∧ w'.ownsRow w.heap.size 5 1 u f.bytes.length (by8 (iN f.bytes)) ∧ Below w.heap.size w w' := by
  have hl : (by8 (iN f.pl)).length = f.pl.length := by simp
  have h1 := h.st1
  have h8 := h.st8
  have hln := h.len
  have B1 := balloc (Below.refl w.heap.size w) (.cells #[.int .i64 f.st, .int .u32 f.rd, .int .u8 f.mem, .int .u16 f.md, v] 65 (0, 0))
  have HB := Lib.hid (rfbytes_any f h v _ (hv.below B1))
  obtain ⟨a, c, rfl, hc, hcm, _, _⟩ := hv
  rw [hl] at *
  unfold maxLen at hcm
  clear hl h
  have e1 : decide ((f.st : Int) < 1) = false := by simp; omega
  have e2 : decide (8 < (f.st : Int)) = false := by simp; omega
  have e3 : decide (4095 < (f.pl.length : Int)) = false := by simp; omega
  unfold frV at *
  go_enter Tryz.func31, Tryz.ntmps31
  go_wp2_with fail
  refine Calls.mono HB.out ?_
  rintro e w2 ⟨u, rfl, o2, b2⟩
  go_wp2_with fail
  go_ret2
  exact ⟨u, rfl, own_base o2 B1.size, bnext B1 b2⟩
theorem rfput_no (st : Int) (rd mem md : Nat) (a : Option Addr) (n c : Nat) (w : World) (hn : n ≤ 9223372036854775807) (h : ¬ (1 ≤ st ∧ st ≤ 8 ∧ n ≤ 4095)) :
    Calls Tryz.prog 31 #[frV st rd mem md (.slice a n c)] w fun e w' => e = .returned (.tuple #[.slice none 0 0, .int .i64 1]) ∧ Below w.heap.size w w' := by
  have B1 := balloc (Below.refl w.heap.size w) (.cells #[.int .i64 st, .int .u32 rd, .int .u8 mem, .int .u16 md, .slice a n c] 65 (0, 0))
  have hcs : decide (st < 1) = true ∨ (decide (st < 1) = false ∧ decide (8 < st) = true) ∨ (decide (st < 1) = false ∧ decide (8 < st) = false ∧ decide (4095 < (n : Int)) = true) := by
    by_cases h1 : st < 1
    · exact .inl (by simpa using h1)
    · by_cases h2 : 8 < st
      · exact .inr (.inl ⟨by simpa using h1, by simpa using h2⟩)
      · refine .inr (.inr ⟨by simpa using h1, by simpa using h2, ?_⟩)
        have : ¬ n ≤ 4095 := fun h3 => h ⟨by omega, by omega, h3⟩
        simp
        omega
  clear h
  unfold frV
  rcases hcs with e1 | ⟨e1, e2⟩ | ⟨e1, e2, e3⟩
  all_goals
    go_enter Tryz.func31, Tryz.ntmps31
    go_wp2_with fail
    go_ret2
    exact ⟨rfl, B1⟩
end Go.Proofs.YtckpeclkkmapiaaGreatDoor
