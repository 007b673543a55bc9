/-
  The walk of CrcTurned: a sum behind which bytes stand, that is changed, changes the sum of all.
-/
import Derived.Test.YtlpfkpjojjnbgaaOpenB
import Derived.Test.YtlpfkpjojjnbgaaCrc
import Derived.Test.YtlpfkpjojjnbgaaAlive1
import Derived.Test.YtlpfkpjojjnbgaaTwinB
import Derived.Test.YtlpfkpjojjnbgaaCrcPlain
namespace Go.Proofs.Ytlpfkpjojjnbgaa
open Go.RowKit
open Go

set_option maxHeartbeats 400000 in
theorem walk_CrcTurned (v0 v1 v2 : Value) (W : World) (A0 : Arg Try.prog 23 W v0) (A1 : Arg Try.prog 23 W v1) (A2 : Arg Try.prog 22 W v2) :
    Calls Try.prog 7 #[v0, v1, v2] W fun e w' => e = .returned (.bool true) ∧ Below W.heap.size W w' := by
  obtain ⟨cs, hR, hB, hL⟩ := A2.bytes
  obtain ⟨x, rfl, wx⟩ := A0.int Try.underlying23
  obtain ⟨y, rfl, wy⟩ := A1.int Try.underlying23
  obtain ⟨hx0, hx1⟩ := bounds_u32 wx
  obtain ⟨hy0, hy1⟩ := bounds_u32 wy
  clear A0 A1 A2 wx wy
  obtain ⟨a, c, rfl, hac, hcm⟩ := hR.shape
  have hT := turnedI x y cs hx0 hx1 hy0 hy1 hB
  by_cases hbig : (1048576 : Int) < cs.length
  · have e1 : decide (1048576 < sumI [(cs.length : Int)]) = true := by rw [sumI_one]; simpa using hbig
    clear hT
    go_enter Try.func7, Try.ntmps7
    go_wp2_with fail
    refine (alive1_any _).mono ?_
    rintro e w1 ⟨rfl, B1⟩
    go_wp2_with fail
    refine (beyond_any _ [(cs.length : Int)] _ (rd_new w1 (ints [(cs.length : Int)]) 3 1 1 (0, 0) rfl (by decide) (by decide)) (by simp; omega)).mono ?_
    rw [e1]
    rintro e w2 ⟨rfl, rfl⟩
    have B2 := balloc B1 (.cells (ints [(cs.length : Int)]).toArray 3)
    go_wp2_with fail
    refine (alive1_any _).mono ?_
    rintro e w3 ⟨rfl, B3⟩
    go_wp2_with fail
    go_ret
    exact ⟨rfl, bnext B2 B3⟩
  · have e1 : decide (1048576 < sumI [(cs.length : Int)]) = false := by rw [sumI_one]; simpa using hbig
    have fin : ((moreI x cs == moreI y cs) == (x == y)) = true := by
      by_cases e : x = y
      · subst e; simp
      · have h1 : (x == y) = false := by simpa using e
        have h2 : (moreI x cs == moreI y cs) = false := by simpa using fun h => e (hT h)
        rw [h1, h2]
        rfl
    clear hT
    go_enter Try.func7, Try.ntmps7
    go_wp2_with fail
    refine (alive1_any _).mono ?_
    rintro e w1 ⟨rfl, B1⟩
    go_wp2_with fail
    refine (beyond_any _ [(cs.length : Int)] _ (rd_new w1 (ints [(cs.length : Int)]) 3 1 1 (0, 0) rfl (by decide) (by decide)) (by simp; omega)).mono ?_
    rw [e1]
    rintro e w2 ⟨rfl, rfl⟩
    have B2 := balloc B1 (.cells (ints [(cs.length : Int)]).toArray 3)
    go_wp2_with fail
    refine (more_any x _ cs _ (hR.below B2)).mono ?_
    rintro e w3 ⟨rfl, b3⟩
    have B3 := bnext B2 b3
    go_wp2_with fail
    refine (more_any y _ cs _ (hR.below B3)).mono ?_
    rintro e w4 ⟨rfl, b4⟩
    have B4 := bnext B3 b4
    go_wp2_with fail
    go_ret
    exact ⟨rfl, B4⟩
end Go.Proofs.Ytlpfkpjojjnbgaa
