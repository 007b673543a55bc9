/-
  The walk of CrcJoins: of two lists, one behind the other, the sum is that of the second one behind the first.
-/
import Derived.Test.YtlpfkpjojjnbgaaOpenB
import Derived.Test.YtlpfkpjojjnbgaaKit2
import Derived.Test.YtlpfkpjojjnbgaaCrc
import Derived.Test.YtlpfkpjojjnbgaaAlive1
import Derived.Test.YtlpfkpjojjnbgaaTwinB
import Derived.Test.YtlpfkpjojjnbgaaCrcPlain
namespace Go.Proofs.Ytlpfkpjojjnbgaa
open Go.RowKit
open Go

set_option maxHeartbeats 400000 in
theorem walk_CrcJoins (v0 v1 v2 : Value) (W : World) (A0 : Arg Try.prog 22 W v0) (A1 : Arg Try.prog 22 W v1) (A2 : Arg Try.prog 23 W v2) :
    Calls Try.prog 4 #[v0, v1, v2] W fun e w' => e = .returned (.bool true) ∧ Below W.heap.size W w' := by
  obtain ⟨cs, hR, hB, hL⟩ := A0.bytes
  obtain ⟨ds, hS, hD, hM⟩ := A1.bytes
  obtain ⟨s, rfl, ws⟩ := A2.int Try.underlying23
  obtain ⟨hs0, hs1⟩ := bounds_u32 ws
  clear A0 A1 A2 ws
  obtain ⟨a, c, rfl, hac, hcm⟩ := hR.shape
  obtain ⟨a2, c2, rfl, hac2, hcm2⟩ := hS.shape
  have hms := more_in s cs hs0 hs1 hB
  have hm0 := more_in 0 cs (by omega) (by omega) hB
  have j0 := moreI_append 0 cs ds (by omega) (by omega) hB hD
  have js := moreI_append s cs ds hs0 hs1 hB hD
  obtain ⟨i0, hi, hz0, hz1, hz2⟩ := info_parts infoB
  by_cases hbig : (1048576 : Int) < cs.length + ds.length
  · have e1 : decide (1048576 < sumI [(cs.length : Int), (ds.length : Int)]) = true := by rw [sumI_two]; simpa using hbig
    clear j0 js
    go_enter Try.func4, Try.ntmps4
    go_wp2_with fail
    refine (alive1_any _).mono ?_
    rintro e w1 ⟨rfl, B1⟩
    go_wp2_with fail
    refine (beyond_any _ [(cs.length : Int), (ds.length : Int)] _ (rd_new w1 (ints [(cs.length : Int), (ds.length : Int)]) 3 2 2 (0, 0) rfl (by decide) (by decide)) (by simp; omega)).mono ?_
    rw [e1]
    rintro e w2 ⟨rfl, rfl⟩
    have B2 := balloc B1 (.cells (ints [(cs.length : Int), (ds.length : Int)]).toArray 3)
    go_wp2_with fail
    refine (alive1_any _).mono ?_
    rintro e w3 ⟨rfl, B3⟩
    go_wp2_with fail
    go_ret
    exact ⟨rfl, bnext B2 B3⟩
  · have e1 : decide (1048576 < sumI [(cs.length : Int), (ds.length : Int)]) = false := by rw [sumI_two]; simpa using hbig
    have hlen : cs.length + ds.length ≤ 1048576 := by omega
    clear hbig
    have J0 := Lib.hid j0
    have JS := Lib.hid js
    clear j0 js
    go_enter Try.func4, Try.ntmps4
    go_wp2_with fail
    refine (alive1_any _).mono ?_
    rintro e w1 ⟨rfl, B1⟩
    go_wp2_with fail
    refine (beyond_any _ [(cs.length : Int), (ds.length : Int)] _ (rd_new w1 (ints [(cs.length : Int), (ds.length : Int)]) 3 2 2 (0, 0) rfl (by decide) (by decide)) (by simp; omega)).mono ?_
    rw [e1]
    rintro e w2 ⟨rfl, rfl⟩
    have B2 := balloc B1 (.cells (ints [(cs.length : Int), (ds.length : Int)]).toArray 3)
    have R2 := hR.below B2
    have S2 := hS.below B2
    clear B1
    generalize hw : w1.alloc (.cells (ints [(cs.length : Int), (ds.length : Int)]).toArray 3) = w2 at *
    clear hw
    have hn8 : (by8 cs).length = cs.length := List.length_map _
    have hm8 : (by8 ds).length = ds.length := List.length_map _
    have tok : True := trivial
    go_wp2_with (first
      | (at_builtin; have _t := tok; refine wpList_append_rd _ rfl _ _ 22 rfl W.heap.size 5 i0 (.int .u8 0) 1 Try.underlying22 hi hz0 hz1 hz2 rfl (.slice none 0 0) 0 [] rfl (World.ownsRow_nil _ _ _ _) _ (by8 cs) rfl R2 (oc8 _ _) (by simp [maxLen]; omega) (by simp; omega) B2.size ?_; intro v' w3 ho hg; have B3 := B2.grown hg B2.size (by simp [Value.ownBlock]); have S3 := hS.below B3; rw [Nat.zero_add, hn8, List.nil_append] at ho; clear hg S2 B2 R2 tok)
      | (at_builtin; refine wpList_append_rd _ rfl _ _ 22 rfl W.heap.size 5 i0 (.int .u8 0) 1 Try.underlying22 hi hz0 hz1 hz2 rfl v' cs.length (by8 cs) rfl ho _ (by8 ds) rfl S3 (oc8 _ _) (by simp [maxLen]; omega) (by simp; omega) B3.size ?_; intro v2 w4 ho2 hg2; have B4 := B3.grown hg2 B3.size (fun k hk => (ho.lt k hk).1); clear hg2 ho B3 S3))
    rw [← by8_append] at ho2
    have RA := own_rd ho2
    refine (of_any _ (cs ++ ds) _ RA).mono ?_
    rw [J0.out]
    rintro e w5 ⟨rfl, b5⟩
    have B5 := bnext B4 b5
    have RA5 := RA.below b5
    clear b5 B4 RA ho2
    go_wp2_with fail
    refine (of_any _ cs _ (hR.below B5)).mono ?_
    rintro e w6 ⟨rfl, b6⟩
    have B6 := bnext B5 b6
    have RA6 := RA5.below b6
    clear b6 B5 RA5
    go_wp2_with fail
    refine (more_any _ _ ds _ (hS.below B6)).mono ?_
    rintro e w7 ⟨rfl, b7⟩
    have B7 := bnext B6 b7
    have RA7 := RA6.below b7
    clear b7 B6 RA6
    go_wp2_with fail
    refine (more_any s _ (cs ++ ds) _ RA7).mono ?_
    rw [JS.out]
    rintro e w8 ⟨rfl, b8⟩
    have B8 := bnext B7 b8
    clear b8 B7 RA7
    go_wp2_with fail
    refine (more_any s _ cs _ (hR.below B8)).mono ?_
    rintro e w9 ⟨rfl, b9⟩
    have B9 := bnext B8 b9
    clear b9 B8
    go_wp2_with fail
    refine (more_any _ _ ds _ (hS.below B9)).mono ?_
    rintro e w10 ⟨rfl, b10⟩
    have B10 := bnext B9 b10
    clear b10 B9
    go_wp2_with fail
    go_ret
    exact ⟨rfl, B10⟩
end Go.Proofs.Ytlpfkpjojjnbgaa
