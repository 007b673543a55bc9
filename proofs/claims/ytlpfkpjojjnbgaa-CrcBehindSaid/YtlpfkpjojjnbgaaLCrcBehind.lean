/-
  The walk of CrcBehind: bytes with their sum behind them have one sum.
-/
import Derived.Test.YtlpfkpjojjnbgaaOpenB
import Derived.Test.YtlpfkpjojjnbgaaCrc
import Derived.Test.YtlpfkpjojjnbgaaAlive1
import Derived.Test.YtlpfkpjojjnbgaaTwinB
import Derived.Test.YtlpfkpjojjnbgaaCrcPlain
namespace Go.Proofs.Ytlpfkpjojjnbgaa
open Go.RowKit
open Go

set_option maxHeartbeats 400000 in
theorem walk_CrcBehind (v0 : Value) (W : World) (A0 : Arg Try.prog 22 W v0) :
    Calls Try.prog 8 #[v0] W fun e w' => e = .returned (.bool true) ∧ Below W.heap.size W w' := by
  obtain ⟨cs, hR, hB, hL⟩ := A0.bytes
  clear A0
  obtain ⟨a, c, rfl, hac, hcm⟩ := hR.shape
  obtain ⟨hn0, hn1⟩ := more_in 0 cs (by omega) (by omega) hB
  have hT0 := behindI (moreI 0 cs) hn0 hn1
  rw [show moreI 0 cs / 16777216 % 256 = moreI 0 cs / 16777216 from by omega] at hT0
  have hT := Lib.hid hT0
  clear hT0
  by_cases hbig : (1048576 : Int) < cs.length
  · have e1 : decide (1048576 < sumI [(cs.length : Int)]) = true := by rw [sumI_one]; simpa using hbig
    clear hT
    go_enter Try.func8, Try.ntmps8
    go_wp2_with fail
    refine (alive1_any _).mono ?_
    rintro e w1 ⟨rfl, B1⟩
    go_wp2_with fail
    refine (beyond_any _ [(cs.length : Int)] _ (rd_new w1 (ints [(cs.length : Int)]) 3 1 1 (0, 0) rfl (by decide) (by decide)) (by simp; omega)).mono ?_
    rw [e1]
    rintro e w2 ⟨rfl, rfl⟩
    have B2 := balloc B1 (.cells (ints [(cs.length : Int)]).toArray 3)
    go_wp2_with fail
    refine (alive1_any _).mono ?_
    rintro e w3 ⟨rfl, B3⟩
    go_wp2_with fail
    go_ret
    exact ⟨rfl, bnext B2 B3⟩
  · have e1 : decide (1048576 < sumI [(cs.length : Int)]) = false := by rw [sumI_one]; simpa using hbig
    go_enter Try.func8, Try.ntmps8
    go_wp2_with fail
    refine (alive1_any _).mono ?_
    rintro e w1 ⟨rfl, B1⟩
    go_wp2_with fail
    refine (beyond_any _ [(cs.length : Int)] _ (rd_new w1 (ints [(cs.length : Int)]) 3 1 1 (0, 0) rfl (by decide) (by decide)) (by simp; omega)).mono ?_
    rw [e1]
    rintro e w2 ⟨rfl, rfl⟩
    have B2 := balloc B1 (.cells (ints [(cs.length : Int)]).toArray 3)
    go_wp2_with fail
    refine (of_any _ cs _ (hR.below B2)).mono ?_
    rintro e w3 ⟨rfl, b3⟩
    have B3 := bnext B2 b3
    go_wp2_with fail
    refine (more_any (moreI 0 cs) _ [moreI 0 cs % 256, moreI 0 cs / 256 % 256, moreI 0 cs / 65536 % 256, moreI 0 cs / 16777216] _ (rd_new w3 (by8 [moreI 0 cs % 256, moreI 0 cs / 256 % 256, moreI 0 cs / 65536 % 256, moreI 0 cs / 16777216]) 5 4 4 (0, 0) rfl (by decide) (by decide))).mono ?_
    rw [hT.out]
    rintro e w4 ⟨rfl, b4⟩
    have B4 := bnext (balloc B3 _) b4
    go_wp2_with fail
    go_ret
    exact ⟨rfl, B4⟩
end Go.Proofs.Ytlpfkpjojjnbgaa
