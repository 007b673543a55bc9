/-
  The walk of belfrylaw02.alive: it answers yes.
-/
import Derived.Test.YtdgcnghjjbpekaaBitsPut
import Derived.Test.YtdgcnghjjbpekaaBitsLow
import Derived.Test.YtdgcnghjjbpekaaSame
import Derived.Deep.RegionHeld3
namespace Go.Proofs.Ytdgcnghjjbpekaa
open Go.RowKit
open Go

/-- A writer that is the call's own, all of it new since w0; nothing older has turned. -/
def Mine (w0 : World) (pw : Nat) (L : List Bool) (w : World) : Prop := ∃ pr v, WriAt w0.heap.size pw pr v L w ∧ w0.heap.size ≤ pw ∧ Below w0.heap.size w0 w
theorem Mine.bel {w0 : World} {pw : Nat} {L : List Bool} {w : World} (h : Mine w0 pw L w) : Below w0.heap.size w0 w := by
  obtain ⟨pr, v, _, _, h⟩ := h
  exact h
theorem Mine.below {w0 : World} {pw : Nat} {L : List Bool} {w w' : World} (h : Mine w0 pw L w) (hb : Below w.heap.size w w') : Mine w0 pw L w' := by
  obtain ⟨pr, v, h1, h2, h3⟩ := h
  exact ⟨pr, v, h1.below hb, h2, bnext h3 hb⟩
theorem new_mine (w0 w : World) (hb : Below w0.heap.size w0 w) : Calls Try.prog 10 #[] w fun e w' => ∃ pw, e = .returned (.pointer (some ⟨pw, 0, none⟩)) ∧ Mine w0 pw [] w' ∧ Below w.heap.size w w' := by
  refine (new_any w).mono ?_
  rintro e w' ⟨rfl, ⟨h1, h2⟩, h3⟩
  have hs := hb.size
  exact ⟨_, rfl, ⟨w.heap.size, _, ⟨h1, ⟨by omega, h2.row, ⟨h2.owns.1, .inl ⟨rfl, rfl⟩⟩, h2.most⟩⟩, by omega, bnext hb h3⟩, h3⟩
theorem put_mine (w0 : World) (pw : Nat) (L : List Bool) (n k : Nat) (w : World) (h : Mine w0 pw L w) (hn : n < 2 ^ k) (hk : k ≤ 64) (hm : L.length + k < 1000000) :
    Calls Try.prog 11 #[.pointer (some ⟨pw, 0, none⟩), .int .u64 n, .int .i64 k] w fun e w' => e = .returned (.int .i64 0) ∧ Mine w0 pw (L ++ nbits n k) w' := by
  obtain ⟨pr, v, h1, h2, h3⟩ := h
  refine (put_ok _ pw pr v L n k w h1 hn hk hm h3.size).mono ?_
  rintro e w' ⟨rfl, v', q1, q2⟩
  exact ⟨rfl, pr, v', q1, h2, h3.trans (q2.only.below h1.2.foot_ge h3.size)⟩
theorem putno_mine (w0 : World) (pw : Nat) (L : List Bool) (n k : Int) (w : World) (h : Mine w0 pw L w) (hk : k < 0 ∨ 64 < k ∨ (0 ≤ k ∧ k ≤ 64 ∧ ¬ n < 2 ^ k.toNat)) :
    Calls Try.prog 11 #[.pointer (some ⟨pw, 0, none⟩), .int .u64 n, .int .i64 k] w fun e w' => e = .returned (.int .i64 1) ∧ Mine w0 pw L w' := by
  obtain ⟨pr, v, h1, h2, h3⟩ := h
  refine (put_no _ pw pr v L n k w h1 hk).mono ?_
  rintro e w' ⟨rfl, hb⟩
  exact ⟨rfl, Mine.below ⟨pr, v, h1, h2, h3⟩ hb⟩
theorem len_mine (w0 : World) (pw : Nat) (L : List Bool) (w : World) (h : Mine w0 pw L w) : Calls Try.prog 15 #[.pointer (some ⟨pw, 0, none⟩)] w fun e w' => e = .returned (.int .i64 L.length) ∧ w = w' := by
  obtain ⟨pr, v, h1, h2, h3⟩ := h
  exact len_any _ pw pr v L w h1
theorem bytes_mine (w0 : World) (pw : Nat) (L : List Bool) (w : World) (h : Mine w0 pw L w) :
    Calls Try.prog 13 #[.pointer (some ⟨pw, 0, none⟩)] w fun e w' => ∃ v', e = .returned v' ∧ w'.ownsRow w.heap.size 5 1 v' (pack L).length (by8 (iN (pack L))) ∧ Rd w' v' (by8 (iN (pack L))) ∧ Below w.heap.size w w' := by
  obtain ⟨pr, v, h1, h2, h3⟩ := h
  refine (bytes_any _ pw pr v L w h1).mono ?_
  rintro e w' ⟨v', rfl, q1, q2⟩
  rw [pack_len]
  exact ⟨v', rfl, q1, own_rd q1, q2⟩

set_option maxHeartbeats 1000000 in
theorem alive2_any (w : World) : Calls Try.prog 9 #[] w fun e w' => e = .returned (.bool true) ∧ Below w.heap.size w w' := by
  go_enter Try.func9, Try.ntmps9
  go_wp2_with fail
  refine (new_mine w _ (Below.refl _ _)).mono ?_
  rintro e w1 ⟨pw, rfl, m1, _⟩
  go_wp2_with fail
  refine (put_mine w pw [] 5 3 _ m1 (by decide) (by decide) (by decide)).mono ?_
  rintro e w2 ⟨rfl, m2⟩
  clear m1
  go_wp2_with fail
  refine (put_mine w pw _ 1 2 _ m2 (by decide) (by decide) (by decide)).mono ?_
  rintro e w3 ⟨rfl, m3⟩
  clear m2
  go_wp2_with fail
  refine (putno_mine w pw _ 8 3 _ m3 (by decide)).mono ?_
  rintro e w4 ⟨rfl, m4⟩
  clear m3
  go_wp2_with fail
  have C1 : Calls Try.prog 14 #[.slice (some ⟨w4.heap.size, 0, none⟩) 1 1, .int .i64 0, .int .i64 3] (w4.alloc (.cells #[.int .u8 168] 5)) fun e w' => e = .returned (.tuple #[.int .u64 5, .int .i64 0]) ∧ w4.alloc (.cells #[.int .u8 168] 5) = w' :=
    get_ok _ [168] 0 3 _ (rd_new w4 (by8 (iN [168])) 5 1 1 (0, 0) rfl (by decide) (by decide)) (by decide) (by decide) (by decide) (by decide)
  refine C1.mono ?_
  clear C1
  rintro e w5 ⟨rfl, rfl⟩
  replace m4 := m4.below (balloc (Below.refl _ _) (.cells #[.int .u8 168] 5))
  generalize w4.alloc _ = w5 at *
  go_wp2_with fail
  have C2 : Calls Try.prog 14 #[.slice (some ⟨w5.heap.size, 0, none⟩) 1 1, .int .i64 6, .int .i64 3] (w5.alloc (.cells #[.int .u8 168] 5)) fun e w' => e = .returned (.tuple #[.int .u64 0, .int .i64 4]) ∧ w5.alloc (.cells #[.int .u8 168] 5) = w' :=
    get_short _ [168] 6 3 _ (rd_new w5 (by8 [168]) 5 1 1 (0, 0) rfl (by decide) (by decide)) (by decide) (by decide) (by decide) (by decide)
  refine C2.mono ?_
  clear C2
  rintro e w6 ⟨rfl, rfl⟩
  replace m4 := m4.below (balloc (Below.refl _ _) (.cells #[.int .u8 168] 5))
  generalize w5.alloc _ = w6 at *
  go_wp2_with fail
  refine (len_mine w pw _ _ m4).mono ?_
  rintro e w7 ⟨rfl, rfl⟩
  go_wp2_with fail
  refine (bytes_mine w pw _ _ m4).mono ?_
  rw [show pack ([] ++ nbits 5 3 ++ nbits 1 2) = [168] by decide]
  rintro e w8 ⟨v8, rfl, _, r8, b8⟩
  have m8 := m4.below b8
  clear m4 b8
  go_wp2_with fail
  have C3 : Calls Try.prog 16 #[v8, .slice (some ⟨w8.heap.size, 0, none⟩) 1 1] (w8.alloc (.cells #[.int .u8 168] 5)) fun e w' => e = .returned (.bool true) ∧ Below (w8.alloc (.cells #[.int .u8 168] 5)).heap.size (w8.alloc (.cells #[.int .u8 168] 5)) w' :=
    same_any _ _ [168] [168] _ (r8.below (balloc (Below.refl _ _) _)) (rd_new w8 (by8 [168]) 5 1 1 (0, 0) rfl (by decide) (by decide))
  refine C3.mono ?_
  clear C3
  rintro e w9 ⟨rfl, b9⟩
  go_wp2_with fail
  go_ret
  exact ⟨rfl, bnext (balloc m8.bel _) b9⟩
end Go.Proofs.Ytdgcnghjjbpekaa
