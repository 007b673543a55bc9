/-
  The walk of belfrylaw11.ValuesTells.
-/
import Derived.Test.YtphlodafdkpedaaDoorRefText
import Derived.Test.YtphlodafdkpedaaDoorValsArgs
import Derived.Test.YtphlodafdkpedaaDoorQuiet
namespace Go.Proofs.YtphlodafdkpedaaDoor
open Go.RowKit
open Go

set_option maxHeartbeats 4000000 in
theorem walk_ValuesTells (v0 : Value) (W : World) (A0 : Arg Tryd.prog 24 W v0) (ht : Tab W) :
    Calls Tryd.prog 3 #[v0] W fun e w' => e = .returned (.bool true) ∧ Below W.heap.size W w' := by
  obtain ⟨p, rfl, ok⟩ := A0.val
  obtain ⟨h0, h1⟩ : -9223372036854775808 ≤ p.2 ∧ p.2 ≤ 9223372036854775807 := by unfold OkV at ok; omega
  have T0 := Lib.hid (fun w h => text_any p h0 h1 w h)
  have T1 := Lib.hid (fun w => rtext_any p h0 h1 w)
  have T2 := Lib.hid (fun w => check_any p w)
  have T3 := Lib.hid (fun w => rcheckT_any p w)
  generalize textV p = S at *
  generalize chkV p = c at *
  have hS : (c == c) = true := by cases c <;> rfl
  obtain ⟨t, n⟩ := p
  unfold aggV at *
  have k0 := heap_alloc_new W (.cells #[.int .u8 t, .int .i64 n] 24 (0, 0))
  have B0 := balloc (Below.refl W.heap.size W) (.cells #[.int .u8 t, .int .i64 n] 24 (0, 0))
  have ht1 := ht.below B0
  clear ok h0 h1 ht A0
  go_enter Tryd.func3, Tryd.ntmps3
  go_wp2_with fail
  generalize W.alloc _ = wr at *
  have K0 := Lib.hid (fun (w' : World) (hw : Below wr.heap.size wr w') => (hw.block _ (lt_of_block k0)).trans k0)
  have C1 := Lib.hid (fun (w' : World) (hw : Below wr.heap.size wr w') => (T0.out w' (ht1.below hw)).mono fun e w'' ⟨he, h⟩ => And.intro he (bnext hw h))
  have C2 := Lib.hid (fun (w' : World) (hw : Below wr.heap.size wr w') => (T1.out w').mono fun e w'' ⟨he, h⟩ => And.intro he (bnext hw h))
  have C3 := Lib.hid (fun (w' : World) (hw : Below wr.heap.size wr w') => (T2.out w').mono fun e w'' ⟨he, h⟩ => And.intro he (bnext hw h))
  have C4 := Lib.hid (fun (w' : World) (hw : Below wr.heap.size wr w') => (T3.out w').mono fun e w'' ⟨he, h⟩ => And.intro he (bnext hw h))
  clear k0 T0 T1 T2 T3 ht1
  refine wp_region_quietC (fun w' => Below wr.heap.size wr w') (by kernel_rfl) (by kernel_rfl) (bdraw (Below.refl _ _) 1) ?_
  repeat (first
      | go_big_quiet_skip
      | (go_big_quiet_want
         first
          | (refine quiet_load _ _ rfl _ rfl _ (fun w' hw' => run_loadVar_row w' _ _ _ _ _ _ (K0.out w' hw') rfl rfl infoV) ?_; go_simp; go_big_quiet_on)
          | (go_big_quiet_op; go_big_quiet_on)
          | (go_big_quiet_op; apply Exists.intro; refine ⟨fun w' hw' => ?_, ?_⟩; (first | with_reducible exact rfl | with_reducible exact C1.out w' hw' | with_reducible exact C2.out w' hw' | with_reducible exact C3.out w' hw' | with_reducible exact C4.out w' hw'); go_big_quiet_on)))
  refine wpQuiet_nil ?_
  intro w9 hw9
  go_wp2_with fail
  go_ret
  exact ⟨by simp, bnext B0 hw9⟩
end Go.Proofs.YtphlodafdkpedaaDoor
