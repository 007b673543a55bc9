/-
  The walk of belfrylaw11.ValuesMay.
-/
import Derived.Test.YtphlodafdkpedaaDoorMayMath
import Derived.Test.YtphlodafdkpedaaDoorValsLive
namespace Go.Proofs.YtphlodafdkpedaaDoor
open Go.RowKit
open Go

theorem take_succ (l : List VT) (k : Nat) (h : k < l.length) : (l.take (k + 1)).all chkV = ((l.take k).all chkV && chkV l[k]) := by
  rw [take_snoc _ _ h, List.all_append]
  simp
set_option maxHeartbeats 8000000 in
theorem walk_ValuesMay (v0 v1 : Value) (W : World) (A0 : Arg Tryd.prog 29 W v0) (A1 : Arg Tryd.prog 35 W v1) (ht : Tab W) :
    Calls Tryd.prog 7 #[v0, v1] W fun e w' => e = .returned (.bool true) ∧ Below W.heap.size W w' := by
  obtain ⟨o, rfl, _⟩ := A0.int Tryd.underlying29
  obtain ⟨l, hR, hok, hl⟩ := A1.vals
  clear A0 A1
  have may := doV_may o l hok
  obtain ⟨a, c, rfl, hc, hm⟩ := hR.shape
  rw [List.length_map] at *
  unfold maxLen at hm
  have HR := Lib.hid hR
  have D := Lib.hid (fun w h => do_any o (.slice a l.length c) l w h)
  have AL := Lib.hid (fun w h => alive_any w h)
  have HT := Lib.hid ht
  have TX := Lib.hid (fun w h0 h1 h => text_any (doV o l).1 h0 h1 w h)
  have CV := Lib.hid (fun w => check_any (doV o l).1 w)
  have TN := Lib.hid (text_ne (doV o l).1)
  generalize doV o l = r at *
  obtain ⟨⟨s1, s2⟩, s3⟩ := r
  have HM := Lib.hid may
  clear hR hok ht may
  unfold aggV at *
  dsimp only at *
  by_cases hbig : 1000 < (l.length : Int)
  · go_enter Tryd.func7, Tryd.ntmps7
    go_wp2_with fail
    refine (AL.out _ HT.out).mono ?_
    rintro e w1 ⟨rfl, b1⟩
    go_wp2_with fail
    refine (AL.out _ (HT.out.below b1)).mono ?_
    rintro e w2 ⟨rfl, b2⟩
    go_wp2_with fail
    go_ret
    exact ⟨rfl, bnext b1 b2⟩
  · have hl2 : l.length ≤ 1000 := by omega
    clear hl
    go_enter Tryd.func7, Tryd.ntmps7
    go_wp2_with fail
    refine (AL.out _ HT.out).mono ?_
    rintro e w1 ⟨rfl, b1⟩
    go_wp2_with fail
    refine (D.out _ (HR.out.below b1)).mono ?_
    rintro e w2 ⟨rfl, b2⟩
    have B2 := bnext b1 b2
    clear b1 b2
    go_wp2_with fail
    have B3 := balloc B2 (.cells #[.int .u8 s1, .int .i64 s2] 24 (0, 0))
    have K3 := Lib.hid (heap_alloc_new w2 (.cells #[.int .u8 s1, .int .i64 s2] 24 (0, 0)))
    have N : w2.heap.size < (w2.alloc (.cells #[.int .u8 s1, .int .i64 s2] 24 (0, 0))).heap.size := lt_of_block K3.out
    generalize w2.alloc (.cells #[.int .u8 s1, .int .i64 s2] 24 (0, 0)) = w3 at *
    go_loopw [7, 8] (fun t i wr => ∃ k : Nat, k ≤ l.length ∧ i = .int .i64 k ∧ t = .bool ((l.take k).all chkV) ∧ Below w3.heap.size w3 wr) (fun _ i _ => l.length - (intOf i).toNat)
    case atStart => exact ⟨0, by omega, rfl, by simp, Below.refl _ _⟩
    case round =>
      obtain ⟨k, hk, rfl, rfl, hb⟩ := hrel
      by_cases hlt : k < l.length
      · obtain ⟨b, q, rfl, hcl⟩ := (HR.out.below (bnext B3 hb)).get k (by simpa using hlt)
        rw [List.getElem_map] at hcl
        have C := check_any l[k] wr
        have HS := Lib.hid (take_succ l k hlt)
        generalize l[k] = f at *
        generalize (l.take k).all chkV = m at *
        have HC := Lib.hid C
        clear C
        obtain ⟨t, n⟩ := f
        have x0 : wr.cell? ⟨b, q + k * 2, none⟩ = some (.int .u8 t) := hcl 0 _ rfl
        have x1 : wr.cell? ⟨b, q + k * 2 + 1, none⟩ = some (.int .i64 n) := hcl 1 _ rfl
        generalize chkV (t, n) = ck at *
        clear hcl
        cases m
        · go_wp2_with fail
          go_roundw
          case rel => exact ⟨k + 1, by omega, by go_num, by rw [HS.out]; rfl, hb⟩
          case measure => simp [intOf]; omega
        · go_wp2_with fail
          refine Calls.mono HC.out ?_
          rintro e w4 ⟨rfl, b4⟩
          go_wp2_with fail
          go_roundw
          case rel => exact ⟨k + 1, by omega, by go_num, by rw [HS.out]; rfl, bnext hb b4⟩
          case measure => simp [intOf]; omega
      · obtain rfl : k = l.length := by omega
        rw [List.take_length] at *
        have K4 := (hb.block _ N).trans K3.out
        have x0 := cell_of_row _ _ 0 _ _ _ K4
        have x1 := cell_of_row _ _ 1 _ _ _ K4
        have B4 := bnext B3 hb
        clear hb N K3 B3 B2
        by_cases h3 : s3 = 0
        · subst h3
          obtain ⟨hall, hck, h0, h1⟩ := HM.out.2 rfl
          rw [hall]
          have NE := TN.out hck
          rw [hck] at CV
          generalize textV (s1, s2) = S at *
          have n1 : S.toList.isEmpty = false := ba_ne S NE
          clear NE HM TN HR D AL hck hall
          go_wp2_with fail
          refine (CV.out _).mono ?_
          rintro e w5 ⟨rfl, b5⟩
          have K5 := (b5.block _ (lt_of_block K4)).trans K4
          have y0 := cell_of_row _ _ 0 _ _ _ K5
          have y1 := cell_of_row _ _ 1 _ _ _ K5
          have B5 := bnext B4 b5
          clear b5 K4 K5 x0 x1 B4
          go_wp2_with fail
          refine (TX.out _ h0 h1 (HT.out.below B5)).mono ?_
          rintro e w6 ⟨rfl, b6⟩
          go_wp2_with fail
          go_ret
          exact ⟨rfl, bnext B5 b6⟩
        · obtain ⟨hz, hw⟩ := HM.out.1 h3
          obtain ⟨rfl, rfl⟩ := Prod.mk.inj hz
          clear HM TN CV TX HR D AL h3 hz
          rcases hw with rfl | ⟨rfl, hall⟩
          · generalize l.all chkV = m at *
            go_wp2_with fail
            go_ret
            exact ⟨rfl, B4⟩
          · rw [hall]
            clear hall
            go_wp2_with fail
            go_ret
            exact ⟨rfl, B4⟩
end Go.Proofs.YtphlodafdkpedaaDoor
