/-
  The walk of CrcSums: the sums of any bytes are the reference's.
-/
import Derived.Test.YtlpfkpjojjnbgaaOpen
import Derived.Test.YtlpfkpjojjnbgaaCrc
import Derived.Test.YtlpfkpjojjnbgaaRef1
import Derived.Test.YtlpfkpjojjnbgaaTwinB
import Derived.Test.YtlpfkpjojjnbgaaCrcPlain
namespace Go.Proofs.Ytlpfkpjojjnbgaa
open Go.RowKit
open Go

set_option maxHeartbeats 400000 in
theorem walk_CrcSums (v0 v1 : Value) (W : World) (A0 : Arg Try.prog 22 W v0) (A1 : Arg Try.prog 23 W v1) :
    Calls Try.prog 3 #[v0, v1] W fun e w' => e = .returned (.bool true) ∧ Below W.heap.size W w' := by
  obtain ⟨cs, hR, hwf, hreach⟩ := A0.nums Try.underlying22 Try.underlying5 (by kernel_rfl)
  obtain ⟨s, rfl, ws⟩ := A1.int Try.underlying23
  have hB : IsB cs := fun c hc => bounds_u8 (hwf c hc)
  obtain ⟨hs0, hs1⟩ := bounds_u32 ws
  have hL : cs.length ≤ 140737488351232 := by
    have : Try.prog.bytesOf 5 = 1 := by kernel_rfl
    rw [this] at hreach
    simpa [reachBytes] using hreach
  clear A0 A1 hreach hwf ws
  obtain ⟨a, c, rfl, hac, hcm⟩ := hR.shape
  by_cases hbig : (1048576 : Int) < cs.length
  · have e1 : decide (1048576 < sumI [(cs.length : Int)]) = true := by rw [sumI_one]; simpa using hbig
    go_enter Try.func3, Try.ntmps3
    go_wp2_with fail
    refine (beyond_any _ [(cs.length : Int)] _ (rd_new W (ints [(cs.length : Int)]) 3 1 1 (0, 0) rfl (by decide) (by decide)) (by simp; omega)).mono ?_
    rw [e1]
    rintro e w1 ⟨rfl, rfl⟩
    go_wp2_with fail
    go_ret
    exact ⟨rfl, balloc (Below.refl _ _) _⟩
  · have e1 : decide (1048576 < sumI [(cs.length : Int)]) = false := by rw [sumI_one]; simpa using hbig
    have r1 := more_r 0 cs (by omega) (by omega) hB
    have r2 := more_r s cs hs0 hs1 hB
    go_enter Try.func3, Try.ntmps3
    go_wp2_with fail
    refine (beyond_any _ [(cs.length : Int)] _ (rd_new W (ints [(cs.length : Int)]) 3 1 1 (0, 0) rfl (by decide) (by decide)) (by simp; omega)).mono ?_
    rw [e1]
    rintro e w1 ⟨rfl, rfl⟩
    have b1 := balloc (Below.refl W.heap.size W) (.cells (ints [(cs.length : Int)]).toArray 3)
    have R1 := hR.below b1
    go_wp2_with fail
    refine (twinB_any _ cs _ R1 hL).mono ?_
    rintro e w2 ⟨v', rfl, b2, T2⟩
    have B2 := bnext b1 b2
    have R2 := hR.below B2
    clear b2
    go_wp2_with fail
    refine (of_any _ cs _ (T2.rd hL)).mono ?_
    rintro e w3 ⟨rfl, b3⟩
    have B3 := bnext B2 b3
    have R3 := hR.below B3
    have T3 := T2.below b3
    clear b3 B2 R2 T2
    go_wp2_with fail
    refine (rof_any _ cs _ R3 hB).mono ?_
    rw [r1]
    rintro e w4 ⟨rfl, rfl⟩
    go_wp2_with fail
    refine (more_any s _ cs _ (T3.rd hL)).mono ?_
    rintro e w4 ⟨rfl, b4⟩
    have B4 := bnext B3 b4
    have R4 := hR.below B4
    have T4 := T3.below b4
    clear b4 B3 R3 T3
    go_wp2_with fail
    refine (rmore_any s _ cs _ R4 hB).mono ?_
    rw [r2]
    rintro e w5 ⟨rfl, rfl⟩
    go_wp2_with fail
    refine (leftB_any _ _ _ cs _ T4 R4 hL).mono ?_
    rintro e w5 ⟨rfl, n5, rfl⟩
    go_wp2_with fail
    go_ret
    exact ⟨rfl, bdraw B4 _⟩
end Go.Proofs.Ytlpfkpjojjnbgaa
