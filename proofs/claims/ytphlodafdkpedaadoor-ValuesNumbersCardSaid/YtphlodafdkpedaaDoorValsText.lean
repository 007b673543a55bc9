/-
  values.Text: as a value is written.
-/
import Derived.Test.YtphlodafdkpedaaDoorVals
import Derived.Test.YtphlodafdkpedaaDoorValsLay
import Derived.Shelf.Strconv.Itoa4
import Derived.Shelf.Unicode.PredsPay
import Derived.Lib.AppendIntMem
namespace Go.Proofs.YtphlodafdkpedaaDoor
open Go.RowKit
open Go

/-- The table that the library's digits lean on. -/
def Tab (w : World) : Prop := Lib.TabIs Tryd.prog w "internal/strconv.uint64pow10" .u64 Lib.pow10Tab
theorem Tab.below {w w' : World} (h : Tab w) (hb : Below w.heap.size w w') : Tab w' :=
  TabIs_below (g := 0) (by kernel_rfl) h hb
theorem fmtI_any (n : Int) (h0 : -9223372036854775808 ≤ n) (h1 : n ≤ 9223372036854775807) (w : World) (ht : Tab w) :
    Calls Tryd.prog 21 #[.int .i64 n, .int .i64 10] w fun e w' => e = .returned (.string ⟨(Lib.itoa n).toArray⟩) ∧ Below w.heap.size w w' := by
  have h := Any.strconv_FormatInt_10 Tryd.fmtL n h0 h1 w ht
  change Calls Tryd.prog 21 _ _ _ at h
  exact h.mono fun e w' ⟨he, k, os, hw⟩ => ⟨he, by rw [hw]; exact Lib.below_grow _ _ (Nat.le_refl _) k os⟩
def boolT (b : Bool) : ByteArray := if b then ⟨#[116, 114, 117, 101]⟩ else ⟨#[102, 97, 108, 115, 101]⟩
theorem fmtB_any (b : Bool) (w : World) : Calls Tryd.prog 19 #[.bool b] w fun e w' => e = .returned (.string (boolT b)) ∧ Below w.heap.size w w' := by
  cases b
  · go_enter Tryd.func19, Tryd.ntmps19
    go_wp2
    go_ret
    exact ⟨rfl, Below.refl _ _⟩
  · go_enter Tryd.func19, Tryd.ntmps19
    go_wp2
    go_ret
    exact ⟨rfl, Below.refl _ _⟩
/-- As a value is written. -/
def textV (p : VT) : ByteArray := if chkV p then (if p.1 = 2 then boolT (p.2 == 1) else ⟨(Lib.itoa p.2).toArray⟩) else ⟨#[]⟩
set_option maxHeartbeats 1000000 in
theorem text_any (p : VT) (h0 : -9223372036854775808 ≤ p.2) (h1 : p.2 ≤ 9223372036854775807) (w : World) (ht : Tab w) :
    Calls Tryd.prog 12 #[aggV p] w fun e w' => e = .returned (.string (textV p)) ∧ Below w.heap.size w w' := by
  have CK := Lib.hid (fun w => check_any p w)
  have IS := Lib.hid (fun w => is_any p w)
  have HT := Lib.hid ht
  have FI := Lib.hid (fun w h => fmtI_any p.2 h0 h1 w h)
  have FB := Lib.hid (fun b w => fmtB_any b w)
  have B1 := balloc (Below.refl w.heap.size w) (.cells #[.int .u8 p.1, .int .i64 p.2] 24 (0, 0))
  have K1 := Lib.hid (heap_alloc_new w (.cells #[.int .u8 p.1, .int .i64 p.2] 24 (0, 0)))
  unfold textV
  clear ht
  cases hc : chkV p
  · rw [hc] at CK
    obtain ⟨t, n⟩ := p
    unfold aggV at *
    clear hc
    go_enter Tryd.func12, Tryd.ntmps12
    go_wp2_with fail
    refine (CK.out _).mono ?_
    rintro e w1 ⟨rfl, b1⟩
    go_wp2_with fail
    go_ret
    exact ⟨rfl, bnext B1 b1⟩
  · rw [hc] at CK
    by_cases h2 : p.1 = 2
    · rw [if_pos rfl, if_pos h2]
      obtain ⟨t, n⟩ := p
      simp only at h2
      subst h2
      unfold aggV at *
      clear hc
      go_enter Tryd.func12, Tryd.ntmps12
      go_wp2_with fail
      refine (CK.out _).mono ?_
      rintro e w1 ⟨rfl, b1⟩
      have K2 := (b1.block _ (lt_of_block K1.out)).trans K1.out
      have x0 := cell_of_row _ _ 0 _ _ _ K2
      have x1 := cell_of_row _ _ 1 _ _ _ K2
      have B2 := bnext B1 b1
      clear K2 b1
      go_wp2_with fail
      refine (IS.out _).mono ?_
      rintro e w2 ⟨rfl, b2⟩
      have B3 := bnext B2 b2
      clear b2
      go_wp2_with fail
      refine (FB.out _ _).mono ?_
      rintro e w3 ⟨rfl, b3⟩
      go_wp2_with fail
      go_ret
      exact ⟨rfl, bnext B3 b3⟩
    · rw [if_pos rfl, if_neg h2]
      obtain ⟨t, n⟩ := p
      simp only at h2
      have e2 : (t == 2) = false := by simpa using h2
      unfold aggV at *
      clear hc h2
      go_enter Tryd.func12, Tryd.ntmps12
      go_wp2_with fail
      refine (CK.out _).mono ?_
      rintro e w1 ⟨rfl, b1⟩
      have K2 := (b1.block _ (lt_of_block K1.out)).trans K1.out
      have x0 := cell_of_row _ _ 0 _ _ _ K2
      have x1 := cell_of_row _ _ 1 _ _ _ K2
      have B2 := bnext B1 b1
      clear K2 b1
      go_wp2_with fail
      refine (FI.out _ (HT.out.below B2)).mono ?_
      rintro e w3 ⟨rfl, b3⟩
      go_wp2_with fail
      go_ret
      exact ⟨rfl, bnext B2 b3⟩
end Go.Proofs.YtphlodafdkpedaaDoor
