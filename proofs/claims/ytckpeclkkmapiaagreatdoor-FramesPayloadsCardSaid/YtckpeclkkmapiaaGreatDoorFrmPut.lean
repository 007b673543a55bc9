/-
  The walk of frames.Put.
-/
import Derived.Test.YtckpeclkkmapiaaGreatDoorFrm
import Derived.Test.YtckpeclkkmapiaaGreatDoorAppRd
import Derived.Test.YtckpeclkkmapiaaGreatDoorFrmCat
namespace Go.Proofs.YtckpeclkkmapiaaGreatDoor
open Go.RowKit
open Go

theorem frame_cells {w : World} {b : Nat} {st rd mem md : Int} {v : Value} {t : TypeId} (h : w.heap[b]? = some (.cells #[.int .i64 st, .int .u32 rd, .int .u8 mem, .int .u16 md, v] t (0, 0))) :
    w.cell? ⟨b, 0, none⟩ = some (.int .i64 st) ∧ w.cell? ⟨b, 1, none⟩ = some (.int .u32 rd) ∧ w.cell? ⟨b, 2, none⟩ = some (.int .u8 mem) ∧ w.cell? ⟨b, 3, none⟩ = some (.int .u16 md) ∧ w.cell? ⟨b, 4, none⟩ = some v :=
  ⟨cell_of_row w b 0 _ _ _ h, cell_of_row w b 1 _ _ _ h, cell_of_row w b 2 _ _ _ h, cell_of_row w b 3 _ _ _ h, cell_of_row w b 4 _ _ _ h⟩
theorem own_base {w : World} {base b : Nat} {e : TypeId} {v : Value} {n : Nat} {xs : List Value} (h : w.ownsRow base e 1 v n xs) (hb : b ≤ base) : w.ownsRow b e 1 v n xs := by
  refine ⟨h.1, ?_⟩
  rcases h.2 with h2 | ⟨g, c, cur, hv, hg, r⟩
  · exact .inl h2
  · exact .inr ⟨g, c, cur, hv, by omega, r⟩
theorem own_far {w : World} {base : Nat} {e : TypeId} {v : Value} {n : Nat} {xs : List Value} (h : w.ownsRow base e 1 v n xs) (k : Nat) (hk : k < base) : some k ≠ v.ownBlock := by
  rcases h.2 with ⟨rfl, _⟩ | ⟨g, c, cur, rfl, hg, _⟩
  · intro e
    cases e
  · intro e
    simp only [Value.ownBlock, Option.some.injEq] at e
    omega
def PutR (f : Fr) (w0 : World) (pw : Nat) (i : Value) (wr : World) : Prop :=
  (i = .int .i64 0 ∧ Mine w0 pw [] wr) ∨ (i = .int .i64 1 ∧ Mine w0 pw (nbits f.st 4) wr) ∨ (i = .int .i64 2 ∧ Mine w0 pw (nbits f.st 4 ++ nbits f.rd 32) wr) ∨ (i = .int .i64 3 ∧ Mine w0 pw (nbits f.st 4 ++ nbits f.rd 32 ++ nbits f.mem 8) wr) ∨
  (i = .int .i64 4 ∧ Mine w0 pw (nbits f.st 4 ++ nbits f.rd 32 ++ nbits f.mem 8 ++ nbits f.md 16) wr) ∨ (i = .int .i64 5 ∧ Mine w0 pw (nbits f.st 4 ++ nbits f.rd 32 ++ nbits f.mem 8 ++ nbits f.md 16 ++ nbits f.pl.length 12) wr)

set_option maxRecDepth 20000 in
set_option maxHeartbeats 1000000 in
theorem put_frame (f : Fr) (h : f.Ok) (v : Value) (w : World) (hv : Rd w v (by8 (iN f.pl))) :
    Calls Tryz.prog 30 #[frV f.st f.rd f.mem f.md v] w fun e w' => ∃ u, e = .returned (.tuple #[u, .int .i64 0]) ∧ w'.ownsRow w.heap.size 5 1 u f.bytes.length (by8 (iN f.bytes)) ∧ Below w.heap.size w w' := by
  have hl : (by8 (iN f.pl)).length = f.pl.length := by simp
  have hv0 := hv
  obtain ⟨a, c, rfl, hc, hcm, _, _⟩ := hv
  rw [hl] at *
  have h8 := h.st8
  have hrd := h.rd
  have hmem := h.mem
  have hmd := h.md
  have hpl := h.len
  unfold frV maxLen at *
  clear hl
  have HV := Lib.hid hv0
  clear hv0
  go_enter Tryz.func30, Tryz.ntmps30
  go_wp2_with fail
  have B1 : Below w.heap.size w (w.alloc (.cells #[.int .i64 f.st, .int .u32 f.rd, .int .u8 f.mem, .int .u16 f.md, .slice a f.pl.length c] 65)) := balloc (Below.refl _ _) _
  refine (may_yes f h _ _ (HV.out.below B1)).mono ?_
  rintro e w2 ⟨rfl, b2⟩
  have k2 : w2.heap[w.heap.size]? = _ := (b2.block _ (by simp)).trans (heap_alloc_new w (.cells #[.int .i64 f.st, .int .u32 f.rd, .int .u8 f.mem, .int .u16 f.md, .slice a f.pl.length c] 65))
  have B2 := bnext B1 b2
  clear B1 b2
  go_wp2_with fail
  refine (new_mine w2 w2 (Below.refl _ _)).mono ?_
  rintro e w3 ⟨pw, rfl, m3, b3⟩
  have k3 := (b3.block _ (lt_of_block k2)).trans k2
  obtain ⟨c0, c1, c2, c3, c4⟩ := frame_cells k3
  clear k3 b3
  go_wp2_with fail
  clear c0 c1 c2 c3 c4
  go_loopw [29] (fun i wr => PutR f w2 pw i wr) (fun i _ => 5 - (intOf i).toNat)
  case atStart => exact .inl ⟨rfl, m3⟩
  case round =>
    clear m3
    unfold PutR at hrel
    rcases hrel with ⟨rfl, m⟩ | ⟨rfl, m⟩ | ⟨rfl, m⟩ | ⟨rfl, m⟩ | ⟨rfl, m⟩ | ⟨rfl, m⟩
    · have x0 := fun W => (ix5u (.int .u64 f.st) (.int .u64 f.rd) (.int .u64 f.mem) (.int .u64 f.md) (.int .u64 f.pl.length) W).1
      have x1 := fun W => (ix5i W).1
      go_wp2_with fail
      refine (wide_any _).mono ?_
      rintro e w4 ⟨rfl, b4⟩
      go_wp2_with fail
      refine (put_mine w2 pw _ f.st 4 _ (m.below b4) (by omega) (by decide) (by decide)).mono ?_
      rintro e w5 ⟨rfl, m5⟩
      go_wp2_with fail
      go_roundw
      case rel => exact .inr (.inl ⟨rfl, m5⟩)
      case measure => simp [intOf]
    · have x0 := fun W => (ix5u (.int .u64 f.st) (.int .u64 f.rd) (.int .u64 f.mem) (.int .u64 f.md) (.int .u64 f.pl.length) W).2.1
      have x1 := fun W => (ix5i W).2.1
      go_wp2_with fail
      refine (wide_any _).mono ?_
      rintro e w4 ⟨rfl, b4⟩
      go_wp2_with fail
      refine (put_mine w2 pw _ f.rd 32 _ (m.below b4) (by omega) (by decide) (by simp [nbits_len])).mono ?_
      rintro e w5 ⟨rfl, m5⟩
      go_wp2_with fail
      go_roundw
      case rel => exact .inr (.inr (.inl ⟨rfl, m5⟩))
      case measure => simp [intOf]
    · have x0 := fun W => (ix5u (.int .u64 f.st) (.int .u64 f.rd) (.int .u64 f.mem) (.int .u64 f.md) (.int .u64 f.pl.length) W).2.2.1
      have x1 := fun W => (ix5i W).2.2.1
      go_wp2_with fail
      refine (wide_any _).mono ?_
      rintro e w4 ⟨rfl, b4⟩
      go_wp2_with fail
      refine (put_mine w2 pw _ f.mem 8 _ (m.below b4) (by omega) (by decide) (by simp [nbits_len])).mono ?_
      rintro e w5 ⟨rfl, m5⟩
      go_wp2_with fail
      go_roundw
      case rel => exact .inr (.inr (.inr (.inl ⟨rfl, m5⟩)))
      case measure => simp [intOf]
    · have x0 := fun W => (ix5u (.int .u64 f.st) (.int .u64 f.rd) (.int .u64 f.mem) (.int .u64 f.md) (.int .u64 f.pl.length) W).2.2.2.1
      have x1 := fun W => (ix5i W).2.2.2.1
      go_wp2_with fail
      refine (wide_any _).mono ?_
      rintro e w4 ⟨rfl, b4⟩
      go_wp2_with fail
      refine (put_mine w2 pw _ f.md 16 _ (m.below b4) (by omega) (by decide) (by simp [nbits_len])).mono ?_
      rintro e w5 ⟨rfl, m5⟩
      go_wp2_with fail
      go_roundw
      case rel => exact .inr (.inr (.inr (.inr (.inl ⟨rfl, m5⟩))))
      case measure => simp [intOf]
    · have x0 := fun W => (ix5u (.int .u64 f.st) (.int .u64 f.rd) (.int .u64 f.mem) (.int .u64 f.md) (.int .u64 f.pl.length) W).2.2.2.2
      have x1 := fun W => (ix5i W).2.2.2.2
      go_wp2_with fail
      refine (wide_any _).mono ?_
      rintro e w4 ⟨rfl, b4⟩
      go_wp2_with fail
      refine (put_mine w2 pw _ f.pl.length 12 _ (m.below b4) (by omega) (by decide) (by simp [nbits_len])).mono ?_
      rintro e w5 ⟨rfl, m5⟩
      go_wp2_with fail
      go_roundw
      case rel => exact .inr (.inr (.inr (.inr (.inr ⟨rfl, m5⟩))))
      case measure => simp [intOf]
    · have k3 := (m.bel.block _ (lt_of_block k2)).trans k2
      have md : Mine w2 pw (nbits f.st 4 ++ nbits f.rd 32 ++ nbits f.mem 8 ++ nbits f.md 16 ++ nbits f.pl.length 12) wr.drew := m.below (bdraw (Below.refl _ _) 1)
      have HB := Lib.hid (bytes_mine w2 pw _ _ md)
      obtain ⟨i0, hi, hz0, hz1, hz2⟩ := info_parts info5
      have e0 : nbits f.st 4 ++ nbits f.rd 32 ++ nbits f.mem 8 ++ nbits f.md 16 ++ nbits f.pl.length 12 = headBits f.st f.rd f.mem f.md f.pl.length := by simp [headBits]
      rw [e0] at HB
      have eh : pack (headBits f.st f.rd f.mem f.md f.pl.length) = f.head := rfl
      rw [eh, f.head_len] at HB
      have HK := Lib.hid (frame_cells k3).2.2.2.2
      have BW : Below w.heap.size w wr.drew := bnext B2 md.bel
      have KC := Lib.hid (fun (w9 : World) (b9 : Below wr.drew.heap.size wr.drew w9) => (frame_cells ((b9.block _ (lt_of_block k3)).trans k3)).2.2.2.2)
      have HLT := Lib.hid (show w.heap.size < wr.drew.heap.size from lt_of_block k3)
      clear e0 k3 md m eh
      go_wp2_with fail
      go_region_held3 (fun w' => w'.cell? ⟨w.heap.size, 4, none⟩ = some (.slice a f.pl.length c))
        (first | exact HK.out | exact E1 | exact E5)
        (first
          | (go_at_call 96; refine Calls.mono HB.out ?_; rintro e w4 ⟨u, rfl, o4, r4, b4⟩; have E1 := KC.out _ b4)
          | (refine step_append_rd _ (by rfl) _ _ _ (by rfl) wr.drew.heap.size 5 i0 (.int .u8 0) 1 Tryz.underlying22 hi hz0 hz1 hz2 rfl u 9 (by8 (iN f.head)) (by rfl) o4 _ (by8 (iN f.pl)) (by rfl) (HV.out.below (bnext BW b4)) (oc8 _ _) (by simp [maxLen]; omega) (by simp; omega) b4.size ?_; intro v5 w5 o5 g5 s5; have E5 := (g5.cell_far ⟨w.heap.size, 4, none⟩ (Nat.lt_of_lt_of_le HLT.out b4.size) (own_far o4 _ HLT.out)).trans E1))
      have b5 : Below wr.drew.heap.size wr.drew w5 := b4.grown g5 b4.size (own_ge o4)
      have r5 := own_rd o5
      have B5 := bnext BW b5
      rw [← by8_append, ← iN_append] at r5
      clear o4 r4 b4 E1 o5 g5 s5 E5 b5 BW HB HK KC HLT
      rename_i hx
      clear hx
      replace r5 : Rd w5 v5 (by8 (iN f.body)) := r5
      go_wp2_with fail
      refine (of_any v5 _ w5 r5).mono ?_
      rw [crcN_eq h.body]
      rintro e w6 ⟨rfl, b6⟩
      go_wp2_with fail
      refine (number_any (crcN f.body) w6 (crcN_lt h.body)).mono ?_
      rintro e w7 ⟨v7, rfl, r7, b7⟩
      obtain ⟨a5, n5, c5, rfl⟩ := r5.sl
      obtain ⟨a7, n7, c7, rfl⟩ := r7.sl
      go_wp2_with fail
      have r5' := r5.below (balloc (bnext b6 b7) (.cells #[.slice a5 n5 c5, .slice a7 n7 c7] 22))
      have r7' := r7.below (balloc (Below.refl w7.heap.size w7) (.cells #[.slice a5 n5 c5, .slice a7 n7 c7] 22))
      have B7 := balloc (bnext (bnext B5 b6) b7) (.cells #[.slice a5 n5 c5, .slice a7 n7 c7] 22)
      refine (concat2_any w7.heap.size _ _ _ _ _ (heap_alloc_new _ _) r5' r7' (by simp [f.body_len]; omega) (by simp [f.body_len, num4]; omega)).mono ?_
      rintro e w8 ⟨v8, rfl, o8, b8⟩
      clear r5 r7 r5' r7'
      go_wp2_with fail
      have o9 := own_base o8 B7.size
      rw [← by8_append, ← iN_append, ← List.length_append, ← iN_append] at o9
      have eb : f.body ++ num4 (crcN f.body) = f.bytes := rfl
      rw [eb, List.length_map] at o9
      go_ret2
      exact ⟨v8, rfl, o9, bnext B7 b8⟩
/-- What may not be put. -/
theorem put_none (st : Int) (rd mem md : Nat) (a : Option Addr) (n c : Nat) (w : World) (hn : n ≤ 9223372036854775807) (h : ¬ (1 ≤ st ∧ st ≤ 8 ∧ n ≤ 4095)) :
    Calls Tryz.prog 30 #[frV st rd mem md (.slice a n c)] w fun e w' => e = .returned (.tuple #[.slice none 0 0, .int .i64 1]) ∧ Below w.heap.size w w' := by
  have M := fun w => may_any st rd mem md a n c w hn
  rw [decide_eq_false h] at M
  have HM := Lib.hid M
  clear M h
  unfold frV at *
  go_enter Tryz.func30, Tryz.ntmps30
  go_wp2_with fail
  refine (HM.out _).mono ?_
  rintro e w2 ⟨rfl, b2⟩
  go_wp2_with fail
  go_ret2
  exact ⟨rfl, bnext (balloc (Below.refl _ _) _) b2⟩
end Go.Proofs.YtckpeclkkmapiaaGreatDoor
