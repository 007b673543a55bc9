/-
  A writer that is the call's own.
-/
import Derived.Test.YtckpeclkkmapiaaGreatDoorBitsPut
import Derived.Test.YtckpeclkkmapiaaGreatDoorBitsShort
import Derived.Test.YtckpeclkkmapiaaGreatDoorBitsGet
import Derived.Test.YtckpeclkkmapiaaGreatDoorSame
import Derived.Deep.RegionHeld3
namespace Go.Proofs.YtckpeclkkmapiaaGreatDoor
open Go.RowKit
open Go

/-- A writer that is the call's own, all of it new since w0; nothing older has turned. -/
def Mine (w0 : World) (pw : Nat) (L : List Bool) (w : World) : Prop := ∃ pr v, WriAt w0.heap.size pw pr v L w ∧ w0.heap.size ≤ pw ∧ Below w0.heap.size w0 w
theorem Mine.bel {w0 : World} {pw : Nat} {L : List Bool} {w : World} (h : Mine w0 pw L w) : Below w0.heap.size w0 w := by
  obtain ⟨pr, v, _, _, h⟩ := h
  exact h
theorem Mine.below {w0 : World} {pw : Nat} {L : List Bool} {w w' : World} (h : Mine w0 pw L w) (hb : Below w.heap.size w w') : Mine w0 pw L w' := by
  obtain ⟨pr, v, h1, h2, h3⟩ := h
  exact ⟨pr, v, h1.below hb, h2, bnext h3 hb⟩
theorem new_mine (w0 w : World) (hb : Below w0.heap.size w0 w) : Calls Tryz.prog 94 #[] w fun e w' => ∃ pw, e = .returned (.pointer (some ⟨pw, 0, none⟩)) ∧ Mine w0 pw [] w' ∧ Below w.heap.size w w' := by
  refine (new_any w).mono ?_
  rintro e w' ⟨rfl, ⟨h1, h2⟩, h3⟩
  have hs := hb.size
  exact ⟨_, rfl, ⟨w.heap.size, _, ⟨h1, ⟨by omega, h2.row, ⟨h2.owns.1, .inl ⟨rfl, rfl⟩⟩, h2.most⟩⟩, by omega, bnext hb h3⟩, h3⟩
theorem put_mine (w0 : World) (pw : Nat) (L : List Bool) (n k : Nat) (w : World) (h : Mine w0 pw L w) (hn : n < 2 ^ k) (hk : k ≤ 64) (hm : L.length + k < 1000000) :
    Calls Tryz.prog 95 #[.pointer (some ⟨pw, 0, none⟩), .int .u64 n, .int .i64 k] w fun e w' => e = .returned (.int .i64 0) ∧ Mine w0 pw (L ++ nbits n k) w' := by
  obtain ⟨pr, v, h1, h2, h3⟩ := h
  refine (put_ok _ pw pr v L n k w h1 hn hk hm h3.size).mono ?_
  rintro e w' ⟨rfl, v', q1, q2⟩
  exact ⟨rfl, pr, v', q1, h2, h3.trans (q2.only.below h1.2.foot_ge h3.size)⟩
theorem putno_mine (w0 : World) (pw : Nat) (L : List Bool) (n k : Int) (w : World) (h : Mine w0 pw L w) (hk : k < 0 ∨ 64 < k ∨ (0 ≤ k ∧ k ≤ 64 ∧ ¬ n < 2 ^ k.toNat)) :
    Calls Tryz.prog 95 #[.pointer (some ⟨pw, 0, none⟩), .int .u64 n, .int .i64 k] w fun e w' => e = .returned (.int .i64 1) ∧ Mine w0 pw L w' := by
  obtain ⟨pr, v, h1, h2, h3⟩ := h
  refine (put_no _ pw pr v L n k w h1 hk).mono ?_
  rintro e w' ⟨rfl, hb⟩
  exact ⟨rfl, Mine.below ⟨pr, v, h1, h2, h3⟩ hb⟩
theorem bytes_mine (w0 : World) (pw : Nat) (L : List Bool) (w : World) (h : Mine w0 pw L w) :
    Calls Tryz.prog 96 #[.pointer (some ⟨pw, 0, none⟩)] w fun e w' => ∃ v', e = .returned v' ∧ w'.ownsRow w.heap.size 5 1 v' (pack L).length (by8 (iN (pack L))) ∧ Rd w' v' (by8 (iN (pack L))) ∧ Below w.heap.size w w' := by
  obtain ⟨pr, v, h1, h2, h3⟩ := h
  refine (bytes_any _ pw pr v L w h1).mono ?_
  rintro e w' ⟨v', rfl, q1, q2⟩
  rw [pack_len]
  exact ⟨v', rfl, q1, own_rd q1, q2⟩

end Go.Proofs.YtckpeclkkmapiaaGreatDoor
