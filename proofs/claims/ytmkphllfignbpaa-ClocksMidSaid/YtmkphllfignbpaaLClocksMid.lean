/-
  The walk of ClocksMid: of any readings the middle is the chapter's answer; nothing is changed.
-/
import Derived.Test.YtmkphllfignbpaaClkArgsB
import Derived.Test.YtmkphllfignbpaaClkLives
import Derived.Test.YtmkphllfignbpaaClkSort
import Derived.Test.YtmkphllfignbpaaRefMid
import Derived.Test.YtmkphllfignbpaaTwinI
namespace Go.Proofs.Ytmkphllfignbpaa
open Go.RowKit
open Go

theorem midV_two (l : List Int) (bad : Int) : ∃ x e : Int, midV l bad = .tuple #[.int .i64 x, .int .i64 e] := by
  unfold midV
  split
  · exact ⟨_, _, rfl⟩
  · exact ⟨_, _, rfl⟩
set_option maxHeartbeats 1000000 in
theorem walk_ClocksMid (v0 v1 : Value) (W : World) (A0 : Arg Try.prog 22 W v0) (A1 : Arg Try.prog 3 W v1) :
    Calls Try.prog 3 #[v0, v1] W fun e w' => e = .returned (.bool true) ∧ Below W.heap.size W w' := by
  obtain ⟨l, hR, _, hl⟩ := A0.lints
  obtain ⟨bad, rfl, _⟩ := A1.int Try.underlying3
  clear A0 A1
  have L := fun w => lives_any sort_any w
  have HL := Lib.hid L
  have HR := Lib.hid hR
  obtain ⟨a, c, rfl, hc, hm⟩ := hR.shape
  unfold maxLen at hm
  clear L hR
  by_cases h : 1000 < l.length
  · go_enter Try.func3, Try.ntmps3
    go_wp2_with fail
    refine (HL.out _).mono ?_
    rintro e w1 ⟨rfl, b1⟩
    go_wp2_with fail
    go_ret
    exact ⟨rfl, b1⟩
  · obtain ⟨x, y, hxy⟩ := midV_two l bad
    have M1 := Lib.hid (fun v w h => mid_any sort_any v l bad w h hl)
    have M2 := Lib.hid (fun v w h => rmid_any v l bad w h (by omega))
    rw [hxy] at M1 M2
    clear hxy
    go_enter Try.func3, Try.ntmps3
    go_wp2_with fail
    refine (twinI_any _ l W HR.out (by omega)).mono ?_
    rintro e w1 ⟨t, rfl, b1, ht⟩
    have HT1 := Lib.hid ht
    clear ht
    go_wp2_with fail
    refine (M1.out _ _ (HT1.out.rd (by omega))).mono ?_
    rintro e w2 ⟨rfl, b2⟩
    have HT2 := Lib.hid (HT1.out.below b2)
    have B2 := bnext b1 b2
    clear b2 b1 HT1
    go_wp2_with fail
    refine (M2.out _ _ (HR.out.below B2)).mono ?_
    rintro e w3 ⟨rfl, b3⟩
    have HT3 := Lib.hid (HT2.out.below b3)
    have B3 := bnext B2 b3
    clear b3 B2 HT2
    go_wp2_with fail
    refine (leftI_any _ _ _ _ _ HT3.out (HR.out.below B3) (by omega)).mono ?_
    rintro e w4 ⟨rfl, d, rfl⟩
    go_wp2_with fail
    refine (HL.out _).mono ?_
    rintro e w5 ⟨rfl, b5⟩
    go_wp2_with fail
    go_ret
    exact ⟨rfl, bnext (bdraw B3 d) b5⟩
end Go.Proofs.Ytmkphllfignbpaa
