/-
  The walk of belfrylaw01.alive: it answers yes.
-/
import Derived.Test.YtlpfkpjojjnbgaaCrc
import Derived.Lib.SlBytesConst
namespace Go.Proofs.Ytlpfkpjojjnbgaa
open Go.RowKit
open Go

theorem al1 : moreI 0 [49, 50, 51, 52, 53, 54, 55, 56, 57] = 3421780262 := by decide +kernel
theorem al2 : moreI 0 [] = 0 := by decide +kernel
theorem al3 : moreI 0 [0] = 3523407757 := by decide +kernel
theorem al4 : moreI 5 [] = 5 := by decide +kernel

set_option maxHeartbeats 400000 in
theorem alive1_any (w : World) : Calls Try.prog 16 #[] w fun e w' => e = .returned (.bool true) ∧ Below w.heap.size w w' := by
  have kc := fun (w : World) (C : Array Value) (n c : Nat) => Lib.run_convert_bytes_const (P := Try.prog) w 22 5 C n c Try.underlying22 Try.underlying5
  go_enter Try.func16, Try.ntmps16
  go_wp2_with fail
  refine (of_any _ [49, 50, 51, 52, 53, 54, 55, 56, 57] _ (rd_new w (by8 [49, 50, 51, 52, 53, 54, 55, 56, 57]) 5 9 9 (9, 10) rfl (by decide) (by decide))).mono ?_
  rw [al1]
  rintro e w1 ⟨rfl, hb1⟩
  have hb1' := ((Below.refl w.heap.size w).alloc (Nat.le_refl _) _).trans (hb1.mono (by simp))
  clear hb1
  go_wp2_with fail
  refine (of_any _ [] _ (Rd.nil _)).mono ?_
  rw [al2]
  rintro e w2 ⟨rfl, hb2⟩
  have hb2' := hb1'.trans (hb2.mono hb1'.size)
  clear hb2 hb1'
  go_wp2_with fail
  refine (of_any _ [0] _ (rd_new w2 (by8 [0]) 5 1 1 (0, 0) rfl (by decide) (by decide))).mono ?_
  rw [al3]
  rintro e w3 ⟨rfl, hb3⟩
  have hb3' := (hb2'.alloc hb2'.size _).trans (hb3.mono (by have := hb2'.size; simp; omega))
  clear hb3 hb2'
  go_wp2_with fail
  refine (more_any 5 _ [] _ (Rd.nil _)).mono ?_
  rw [al4]
  rintro e w4 ⟨rfl, hb4⟩
  have hb4' := hb3'.trans (hb4.mono hb3'.size)
  clear hb4 hb3'
  go_wp2_with fail
  go_ret
  exact ⟨rfl, hb4'⟩
end Go.Proofs.Ytlpfkpjojjnbgaa
