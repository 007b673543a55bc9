/-
  values.Do: a choice of three; and all operators.
-/
import Derived.Test.YtphlodafdkpedaaDoorValsDo2
namespace Go.Proofs.YtphlodafdkpedaaDoor
open Go.RowKit
open Go

theorem trip_of {w : World} {a : Option Addr} {n c : Nat} {va vb vd : VT} (h : RdN 2 w (.slice a n c) ([va, vb, vd].map rowV)) : ∃ bq oq, a = some ⟨bq, oq, none⟩ ∧ Trip w bq oq va vb vd := by
  obtain ⟨b, o, rfl, h0⟩ := h.get 0 (by simp)
  obtain ⟨b', o', e, h1⟩ := h.get 1 (by simp)
  cases e
  obtain ⟨b', o', e, h2⟩ := h.get 2 (by simp)
  cases e
  exact ⟨b, o, rfl, ⟨by simpa using h0 0 _ rfl, by simpa using h0 1 _ rfl, by simpa using h1 0 _ rfl, by simpa using h1 1 _ rfl⟩, by simpa using h2 0 _ rfl, by simpa using h2 1 _ rfl⟩
theorem list3V {l : List VT} (h : l.length = 3) : ∃ a b c, l = [a, b, c] := by
  match l, h with
  | [a, b, c], _ => exact ⟨a, b, c, rfl⟩
set_option maxHeartbeats 4000000 in
theorem do_if (v : Value) (l : List VT) (w : World) (hR : RdN 2 w v (l.map rowV)) :
    Calls Tryd.prog 18 #[.int .u8 17, v] w fun e w' => e = .returned (.tuple #[aggV (doV 17 l).1, .int .i64 (doV 17 l).2]) ∧ Below w.heap.size w w' := by
  obtain ⟨a, c, rfl, hc, hm⟩ := hR.shape
  rw [List.length_map] at *
  unfold maxLen at hm
  have A0 : Hid (ResB w.heap.size (w.alloc (.cells #[.int .u8 0, .int .i64 0] 24 (0, 0)))) := heap_alloc_new _ _
  have B1 := balloc (Below.refl w.heap.size w) (.cells #[.int .u8 0, .int .i64 0] 24 (0, 0))
  have D := Lib.hid (fun w => deeds_any w)
  have HR := Lib.hid hR
  have S1 := Lib.hid (fun w h => some1_any (.slice a l.length c) l w h)
  clear hR
  have DV : Hid (doV 17 l = if (l.length : Int) ≠ 3 ∨ (l.any fun p => !chkV p) = true then ((0, 0), 1) else chooseV (l.getD 0 (0, 0)) (l.getD 1 (0, 0)) (l.getD 2 (0, 0))) := rfl
  by_cases hlen : l.length = 3
  · have hlen' : ((l.length : Int) != 3) = false := by simp [hlen]
    cases hbad : (l.any fun p => !chkV p)
    · have DV2 : Hid (doV 17 l = chooseV (l.getD 0 (0, 0)) (l.getD 1 (0, 0)) (l.getD 2 (0, 0))) := by
        rw [Hid, DV.out, if_neg (by rw [hbad]; simp [hlen])]
      rw [hbad] at S1
      have HL := Lib.hid hlen
      clear hbad DV hlen
      go_enter Tryd.func18, Tryd.ntmps18
      go_wp2_with fail
      refine (D.out _).mono ?_
      rintro e w2 ⟨L, rfl, hL, M⟩
      rcases look_deed 17 w w2 L hL M with ⟨_, look⟩ | ⟨m', t', N, cap, hs, _, look⟩
      · have B2 := bnext B1 M.bel
        have A2 := Lib.hid (A0.out.below M.bel)
        obtain ⟨hz, c0, c1, f0, f1⟩ := A2.out.facts
        clear hL M A0 B1
        go_wp2_with fail
        refine (S1.out _ (HR.out.below (balloc B2 _))).mono ?_
        rintro e w3 ⟨rfl, b3⟩
        have B3 := bnext (balloc B2 _) b3
        have A3 := Lib.hid ((A2.out.below (balloc (Below.refl _ _) _)).below b3)
        obtain ⟨hz, c0, c1, f0, f1⟩ := A3.out.facts
        clear b3 B2 A2
        go_wp2_with fail
        obtain ⟨va, vb, vd, rfl⟩ := list3V HL.out
        obtain ⟨bq, oq, e', tr⟩ := trip_of (HR.out.below B3)
        cases e'
        have CA := choose_any va vb vd bq oq c w3 tr
        have e3 : chooseV ([va, vb, vd].getD 0 (0, 0)) ([va, vb, vd].getD 1 (0, 0)) ([va, vb, vd].getD 2 (0, 0)) = chooseV va vb vd := rfl
        rw [e3] at DV2
        generalize hsv : chooseV va vb vd = sv at *
        obtain ⟨⟨s1, s2⟩, s3⟩ := sv
        unfold aggV at CA
        have HCA := Lib.hid CA
        clear CA hsv tr HR e3
        go_wp2_with fail
        refine HCA.out.mono ?_
        rintro e w5 ⟨rfl, b5⟩
        have B5 := bnext B3 b5
        have A5 := Lib.hid (A3.out.below b5)
        obtain ⟨hz, c0, c1, f0, f1⟩ := A5.out.facts
        clear b5
        go_wp2_with fail
        exact bodyPost_ret (results_row_tmp Tryd.results18 _ _ w.heap.size _ _ _ _ rfl (heap_setCell_same _ _ 1 _ _ _ (heap_setCell_same _ _ 0 _ _ _ A5.out)) Tryd.underlying24 rfl infoV) rfl ⟨by rw [DV2.out]; rfl, ((B5.setCell (p := ⟨w.heap.size, 0, none⟩) (Nat.le_refl _) _).setCell (p := ⟨w.heap.size, 1, none⟩) (Nat.le_refl _) _)⟩
      · rw [show deedM 17 = none by rfl] at hs
        cases hs
    · have DV2 : Hid (doV 17 l = ((0, 0), 1)) := by
        rw [Hid, DV.out, if_pos (.inr hbad)]
      rw [hbad] at S1
      clear hbad DV hlen
      go_enter Tryd.func18, Tryd.ntmps18
      go_wp2_with fail
      refine (D.out _).mono ?_
      rintro e w2 ⟨L, rfl, hL, M⟩
      rcases look_deed 17 w w2 L hL M with ⟨_, look⟩ | ⟨m', t', N, cap, hs, _, look⟩
      · have B2 := bnext B1 M.bel
        have A2 := Lib.hid (A0.out.below M.bel)
        obtain ⟨hz, c0, c1, f0, f1⟩ := A2.out.facts
        clear hL M A0 B1
        go_wp2_with fail
        refine (S1.out _ (HR.out.below (balloc B2 _))).mono ?_
        rintro e w3 ⟨rfl, b3⟩
        have B3 := bnext (balloc B2 _) b3
        have A3 := Lib.hid ((A2.out.below (balloc (Below.refl _ _) _)).below b3)
        obtain ⟨hz, c0, c1, f0, f1⟩ := A3.out.facts
        clear b3 B2 A2
        go_wp2_with fail
        exact bodyPost_ret (results_row_tmp Tryd.results18 _ _ w.heap.size _ _ _ _ rfl (heap_setCell_same _ _ 1 _ _ _ (heap_setCell_same _ _ 0 _ _ _ A3.out)) Tryd.underlying24 rfl infoV) rfl ⟨by rw [DV2.out]; rfl, ((B3.setCell (p := ⟨w.heap.size, 0, none⟩) (Nat.le_refl _) _).setCell (p := ⟨w.heap.size, 1, none⟩) (Nat.le_refl _) _)⟩
      · rw [show deedM 17 = none by rfl] at hs
        cases hs
  · have hlen' : ((l.length : Int) != 3) = true := by
      rw [bne_iff_ne]
      omega
    have DV2 : Hid (doV 17 l = ((0, 0), 1)) := by
      rw [Hid, DV.out, if_pos (.inl (by omega))]
    clear DV hlen
    go_enter Tryd.func18, Tryd.ntmps18
    go_wp2_with fail
    refine (D.out _).mono ?_
    rintro e w2 ⟨L, rfl, hL, M⟩
    rcases look_deed 17 w w2 L hL M with ⟨_, look⟩ | ⟨m', t', N, cap, hs, _, look⟩
    · have B2 := bnext B1 M.bel
      have A2 := Lib.hid (A0.out.below M.bel)
      obtain ⟨hz, c0, c1, f0, f1⟩ := A2.out.facts
      clear hL M A0 B1
      go_wp2_with fail
      exact bodyPost_ret (results_row_tmp Tryd.results18 _ _ w.heap.size _ _ _ _ rfl ((Below.heap_alloc _ _ _ (by simpa using hz)).trans (heap_setCell_same _ _ 1 _ _ _ (heap_setCell_same _ _ 0 _ _ _ A2.out))) Tryd.underlying24 rfl infoV) rfl ⟨by rw [DV2.out]; rfl, balloc ((B2.setCell (p := ⟨w.heap.size, 0, none⟩) (Nat.le_refl _) _).setCell (p := ⟨w.heap.size, 1, none⟩) (Nat.le_refl _) _) _⟩
    · rw [show deedM 17 = none by rfl] at hs
      cases hs
theorem do_any (o : Int) (v : Value) (l : List VT) (w : World) (hR : RdN 2 w v (l.map rowV)) :
    Calls Tryd.prog 18 #[.int .u8 o, v] w fun e w' => e = .returned (.tuple #[aggV (doV o l).1, .int .i64 (doV o l).2]) ∧ Below w.heap.size w w' := by
  by_cases h17 : o = 17
  · subst h17
    exact do_if v l w hR
  · cases hd : deedM o with
    | none =>
      rw [doV_none l h17 hd]
      exact do_none o v l w hR h17 hd
    | some mt =>
      obtain ⟨m, t⟩ := mt
      rw [doV_some l h17 hd]
      by_cases hbad : (l.length : Int) ≠ m ∨ (l.any fun p => !chkV p) = true
      · have e : doK o m t l = ((0, 0), 1) := if_pos hbad
        rw [e]
        exact do_err1 o m t v l w hR h17 hd hbad
      · simp only [not_or, Bool.not_eq_true, ne_eq, Decidable.not_not] at hbad
        exact do_good o m t v l w hR h17 hd hbad.1 hbad.2
end Go.Proofs.YtphlodafdkpedaaDoor
