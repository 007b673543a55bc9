/-
  The walk of ValuesDoes: what any operator makes of any values is exactly the documented value, or they are refused.
-/
import Derived.Test.YtphlodafdkpedaaValsArgs
import Derived.Test.YtphlodafdkpedaaRefDoAll
import Derived.Test.YtphlodafdkpedaaBeyond
namespace Go.Proofs.Ytphlodafdkpedaa
open Go.RowKit
open Go

set_option maxHeartbeats 1000000 in
theorem walk_ValuesDoes (v0 v1 : Value) (W : World) (A0 : Arg Try.prog 22 W v0) (A1 : Arg Try.prog 23 W v1) :
    Calls Try.prog 3 #[v0, v1] W fun e w' => e = .returned (.bool true) ∧ Below W.heap.size W w' := by
  obtain ⟨o, rfl, _⟩ := A0.int Try.underlying22
  obtain ⟨l, hR, _, hl⟩ := A1.vals
  clear A0 A1
  obtain ⟨a, c, rfl, hc, hm⟩ := hR.shape
  rw [List.length_map] at *
  unfold maxLen at hm
  have HR := Lib.hid hR
  clear hR
  have BY := beyond_any (.slice (some ⟨W.heap.size, 0, none⟩) 1 1) [(l.length : Int)] (W.alloc (.cells #[.int .i64 l.length] 3 (0, 0))) (rd_new W (ints [(l.length : Int)]) _ _ _ _ rfl (by decide) (by decide)) (by simp; omega)
  rw [sumI_one] at BY
  have B0 := balloc (Below.refl W.heap.size W) (.cells #[.int .i64 l.length] 3 (0, 0))
  by_cases hbig : 1048576 < (l.length : Int)
  · rw [decide_eq_true hbig] at BY
    have HB := Lib.hid BY
    clear BY hbig
    go_enter Try.func3, Try.ntmps3
    go_wp2_with fail
    refine HB.out.mono ?_
    rintro e w1 ⟨rfl, rfl⟩
    go_wp2_with fail
    go_ret
    exact ⟨rfl, B0⟩
  · rw [decide_eq_false hbig] at BY
    have HB := Lib.hid BY
    have hl2 : l.length ≤ 1048576 := by omega
    clear BY hbig
    have D1 := Lib.hid (fun v w h => do_any o v l w h)
    have D2 := Lib.hid (fun v w h => rdo_any o v l w h)
    generalize doV o l = sv at *
    obtain ⟨⟨s1, s2⟩, s3⟩ := sv
    unfold aggV at D1 D2
    go_enter Try.func3, Try.ntmps3
    go_wp2_with fail
    refine HB.out.mono ?_
    rintro e w1 ⟨rfl, rfl⟩
    clear HB
    go_wp2_with fail
    refine (twinV_any _ l _ (HR.out.below B0) hl2).mono ?_
    rintro e w2 ⟨v', rfl, b2, ht⟩
    have HT := Lib.hid ht
    have B2 := bnext B0 b2
    clear ht b2 B0
    go_wp2_with fail
    refine (D1.out _ _ (HT.out.rd hl2)).mono ?_
    rintro e w3 ⟨rfl, b3⟩
    have HT3 := Lib.hid (HT.out.below b3)
    have B3 := bnext B2 b3
    clear b3 B2 HT
    go_wp2_with fail
    have B4 := balloc B3 (.cells #[.int .u8 s1, .int .i64 s2] 28 (0, 0))
    have K4 := Lib.hid (heap_alloc_new w3 (.cells #[.int .u8 s1, .int .i64 s2] 28 (0, 0)))
    have HT4 := Lib.hid (HT3.out.below (balloc (Below.refl _ _) (.cells #[.int .u8 s1, .int .i64 s2] 28 (0, 0))))
    refine (D2.out _ _ (HR.out.below B4)).mono ?_
    rintro e w5 ⟨rfl, b5⟩
    have K5 := (b5.block _ (lt_of_block K4.out)).trans K4.out
    have x0 := cell_of_row _ _ 0 _ _ _ K5
    have x1 := cell_of_row _ _ 1 _ _ _ K5
    have hz := lt_of_block K5
    have HT5 := Lib.hid (HT4.out.below b5)
    have B5 := bnext B4 b5
    clear K5 b5 B4 B3 K4 HT4 HT3
    go_wp2_with fail
    refine (leftV_any _ _ _ l _ (HT5.out.below (balloc (Below.refl _ _) _)) (HR.out.below (balloc B5 _)) hl2).mono ?_
    rintro e w6 ⟨rfl, b6⟩
    go_wp2_with fail
    go_ret
    exact ⟨rfl, bnext (balloc B5 _) b6⟩
end Go.Proofs.Ytphlodafdkpedaa
