/-
  The walks of package clocks: New, halve, When, Turn.
-/
import Derived.Test.YtmkphllfignbpaaClk
import Derived.Deep.LoopGhost
namespace Go.Proofs.Ytmkphllfignbpaa
open Go.RowKit
open Go

/-- A search that lies at s. -/
def Srch (w : World) (s p : Nat) (lo hi : Int) : Prop := w.heap[s]? = some (.cells #[.pointer (some ⟨p, 0, none⟩), .int .i64 lo, .int .i64 hi] 63 (0, 0))
theorem cells3 {w : World} {b : Nat} {v0 v1 v2 : Value} {t : TypeId} (h : w.heap[b]? = some (.cells #[v0, v1, v2] t (0, 0))) :
    w.cell? ⟨b, 0, none⟩ = some v0 ∧ w.cell? ⟨b, 1, none⟩ = some v1 ∧ w.cell? ⟨b, 2, none⟩ = some v2 :=
  ⟨cell_of_row w b 0 _ _ _ h, cell_of_row w b 1 _ _ _ h, cell_of_row w b 2 _ _ _ h⟩
def midS (lo hi : Int) : Int := lo + (hi - lo) / 2
theorem new_ok (f g : Int) (w : World) (h1 : smallB f = true) (h2 : -100000 ≤ g) (h3 : g ≤ 100000) : Calls Try.prog 13 #[.int .i64 f, .int .i64 g] w fun e w' =>
    e = .returned (.tuple #[.pointer (some ⟨w.heap.size, 0, none⟩), .int .i64 0]) ∧ Clk w' w.heap.size f g 0 ∧ Below w.heap.size w w' := by
  have C := fun w => small_any f w
  rw [h1] at C
  go_enter Try.func13, Try.ntmps13
  go_wp2_with (go_at_call 23; refine (C _).mono ?_; rintro e w' ⟨rfl, rfl⟩)
  go_ret2
  exact ⟨rfl, heap_alloc_new _ _, balloc (Below.refl _ _) _⟩
theorem new_no (f g : Int) (w : World) (h : smallB f = false ∨ g < -100000 ∨ 100000 < g) : Calls Try.prog 13 #[.int .i64 f, .int .i64 g] w fun e w' =>
    e = .returned (.tuple #[.pointer none, .int .i64 1]) ∧ w = w' := by
  cases h1 : smallB f
  · have C := fun w => small_any f w
    rw [h1] at C
    clear h h1
    go_enter Try.func13, Try.ntmps13
    go_wp2_with (go_at_call 23; refine (C _).mono ?_; rintro e w' ⟨rfl, rfl⟩)
    go_ret2
    exact ⟨rfl, rfl⟩
  · have C := fun w => small_any f w
    rw [h1] at C h
    have hg : g < -100000 ∨ (-100000 ≤ g ∧ 100000 < g) := by simp at h; omega
    clear h h1
    rcases hg with hg | ⟨hg, hg2⟩
    all_goals
      go_enter Try.func13, Try.ntmps13
      go_wp2_with (go_at_call 23; refine (C _).mono ?_; rintro e w' ⟨rfl, rfl⟩)
      go_ret2
      exact ⟨rfl, rfl⟩
set_option maxHeartbeats 1000000 in
theorem halve_any (w : World) (s p : Nat) (f g u lo hi shows : Int) (hs : Srch w s p lo hi) (hp : Clk w p f g u) (n : ClkN f g u) (h0 : -1 ≤ lo) (h1 : lo + 1 < hi) (h2 : hi ≤ 1099511627776) :
    Calls Try.prog 31 #[.pointer (some ⟨s, 0, none⟩), .int .i64 shows] w fun e w' => e = .returned (.tuple #[]) ∧
      (if shows ≤ faceI f g u (midS lo hi) then Srch w' s p lo (midS lo hi) else Srch w' s p (midS lo hi) hi) ∧ Below s w w' := by
  obtain ⟨c0, c1, c2⟩ := cells3 hs
  have F := fun W hW => face_any W p f g u (midS lo hi) hW n ⟨by unfold midS; omega, by unfold midS; omega⟩
  have hF := face_in (t := midS lo hi) n ⟨by unfold midS; omega, by unfold midS; omega⟩
  by_cases hy : shows ≤ faceI f g u (midS lo hi)
  all_goals
    unfold midS at *
    generalize faceI f g u (lo + (hi - lo) / 2) = fm at *
    have HP := Lib.hid hp
    have HF := Lib.hid F
    have HS := Lib.hid hs
    clear F hp hs
    go_enter Try.func31, Try.ntmps31
    go_wp2_with fail
    go_quiet (fail)
    go_wp2_with fail
    refine (HF.out _ (HP.out.below (bdraw (Below.refl _ _) _))).mono ?_
    rintro e w' ⟨rfl, m, rfl⟩
    have c0 := frozen_of_row _ _ 1 _ _ HS.out
    have c1 := frozen_of_row _ _ 2 _ _ HS.out
    go_wp2_with fail
    go_end0
    refine ⟨rfl, ?_, ?_⟩
    · first | exact heap_setCell_same _ _ 2 _ _ _ HS.out | exact heap_setCell_same _ _ 1 _ _ _ HS.out
    · first | exact (below_drewN (Below.refl s w) _).setCell (p := ⟨s, 2, none⟩) (Nat.le_refl _) _ | exact (below_drewN (Below.refl s w) _).setCell (p := ⟨s, 1, none⟩) (Nat.le_refl _) _
set_option maxHeartbeats 1000000 in
theorem when_any (w : World) (p : Nat) (f g u shows : Int) (hp : Clk w p f g u) (n : ClkN f g u) (h1 : smallB shows = true) (h2 : shows ≤ faceI f g u 1099511627776) :
    Calls Try.prog 15 #[.pointer (some ⟨p, 0, none⟩), .int .i64 shows] w fun e w' => ∃ t, WhenI f g u shows t ∧ e = .returned (.tuple #[.int .i64 t, .int .i64 0]) ∧ Below w.heap.size w w' := by
  have C := fun w => small_any shows w
  rw [h1] at C
  have T := fun W hW => there_yes W p f g u hW
  have F := fun W hW => face_any W p f g u 1099511627776 hW n ⟨by omega, by omega⟩
  have HT := Lib.hid T
  have HF := Lib.hid F
  have HP := Lib.hid hp
  have H2 := Lib.hid h2
  have h3 : decide (faceI f g u 1099511627776 < shows) = false := by simpa using h2
  clear T F hp h1 h2
  generalize hlast : faceI f g u 1099511627776 = last at *
  have HL : Hid (shows ≤ faceI f g u 1099511627776) := by rw [hlast]; exact H2.out
  clear hlast H2
  go_enter Try.func15, Try.ntmps15
  go_wp2_with (go_at_call 23; refine (C _).mono ?_; rintro e w' ⟨rfl, rfl⟩)
  refine (HT.out _ HP.out).mono ?_
  rintro e w' ⟨rfl, rfl⟩
  go_wp2_with (go_at_call 23; refine (C _).mono ?_; rintro e w' ⟨rfl, rfl⟩)
  refine (HF.out _ HP.out).mono ?_
  rintro e w' ⟨rfl, m, rfl⟩
  have HH := Lib.hid (fun W lo hi hs hw => halve_any W w.heap.size p f g u lo hi shows hs hw n)
  have B1 : Below w.heap.size w ((w.drewN m).alloc (.cells #[.pointer (some ⟨p, 0, none⟩), .int .i64 (-1), .int .i64 1099511627776] 63 (0, 0))) := balloc (bdraw (Below.refl _ _) m) _
  have K1 := heap_alloc_new (w.drewN m) (.cells #[.pointer (some ⟨p, 0, none⟩), .int .i64 (-1), .int .i64 1099511627776] 63 (0, 0))
  have S1 : Hid (Srch ((w.drewN m).alloc (.cells #[.pointer (some ⟨p, 0, none⟩), .int .i64 (-1), .int .i64 1099511627776] 63 (0, 0))) w.heap.size p (-1) 1099511627776) := K1
  clear K1
  go_wp2_with fail
  go_loopg [] 1099511627777 (fun gk wr => ∃ lo hi : Int, hi - lo = gk ∧ -1 ≤ lo ∧ lo < hi ∧ hi ≤ 1099511627776 ∧ Hid (shows ≤ faceI f g u hi ∧ (lo = -1 ∨ faceI f g u lo < shows)) ∧ Hid (Srch wr w.heap.size p lo hi) ∧ Below w.heap.size w wr)
  case atStart => exact ⟨-1, 1099511627776, by omega, by omega, by omega, by omega, ⟨HL.out, .inl rfl⟩, S1, B1⟩
  case round =>
    obtain ⟨lo, hi, hg, hlo, hlh, hhi, hface, hs, hb⟩ := hrel
    clear S1 B1
    obtain ⟨c0, c1, c2⟩ := cells3 hs.out
    by_cases hlt : lo + 1 < hi
    · have hw : Clk wr p f g u := HP.out.below hb
      have HW := Lib.hid hw
      clear hw
      go_wp2_with fail
      go_quiet (fail)
      go_wp2_with fail
      refine (HH.out _ lo hi (show Srch (wr.drewN _) _ _ _ _ from hs.out) (HW.out.below (bdraw (Below.refl _ _) _)) hlo hlt hhi).mono ?_
      rintro e w' ⟨rfl, hres, hb2⟩
      have hb3 : Below w.heap.size w w' := hb.trans ((bdraw (Below.refl _ _) _).mono hb.size |>.trans hb2)
      by_cases hy : shows ≤ faceI f g u (midS lo hi)
      · rw [if_pos hy] at hres
        have hF : Hid (shows ≤ faceI f g u (midS lo hi) ∧ (lo = -1 ∨ faceI f g u lo < shows)) := ⟨hy, hface.out.2⟩
        have hm : lo < midS lo hi ∧ midS lo hi < hi := by unfold midS; omega
        have HR := Lib.hid hres
        obtain ⟨m0, m1⟩ := hm
        clear hy hres hface hb2 c0 c1 c2
        go_wp2_with fail
        go_roundg (midS lo hi - lo).toNat
        case rel => exact ⟨lo, midS lo hi, by omega, by omega, by omega, by omega, hF, HR, hb3⟩
        case measure => omega
      · rw [if_neg hy] at hres
        have hF : Hid (shows ≤ faceI f g u hi ∧ (midS lo hi = -1 ∨ faceI f g u (midS lo hi) < shows)) := ⟨hface.out.1, .inr (by omega)⟩
        have hm : lo < midS lo hi ∧ midS lo hi < hi := by unfold midS; omega
        have HR := Lib.hid hres
        obtain ⟨m0, m1⟩ := hm
        clear hy hres hface hb2 c0 c1 c2
        go_wp2_with fail
        go_roundg (hi - midS lo hi).toNat
        case rel => exact ⟨midS lo hi, hi, by omega, by omega, by omega, by omega, hF, HR, hb3⟩
        case measure => omega
    · obtain rfl : hi = lo + 1 := by omega
      go_wp2_with fail
      go_quiet (fail)
      go_wp2_with fail
      go_ret2
      refine ⟨lo + 1, ⟨by omega, hhi, hface.out.1, ?_⟩, rfl, bdraw hb _⟩
      rcases hface.out.2 with h | h
      · left; omega
      · right
        rw [show lo + 1 - 1 = lo by omega]
        exact h
theorem when_arg (w : World) (p : Nat) (f g u shows : Int) (hp : Clk w p f g u) (h1 : smallB shows = false) :
    Calls Try.prog 15 #[.pointer (some ⟨p, 0, none⟩), .int .i64 shows] w fun e w' => e = .returned (.tuple #[.int .i64 0, .int .i64 1]) ∧ w = w' := by
  have C := fun w => small_any shows w
  rw [h1] at C
  have T := there_yes w p f g u hp
  clear hp h1
  go_enter Try.func15, Try.ntmps15
  go_wp2_with (go_at_call 23; refine (C _).mono ?_; rintro e w' ⟨rfl, rfl⟩)
  refine T.mono ?_
  rintro e w' ⟨rfl, rfl⟩
  go_wp2_with (go_at_call 23; refine (C _).mono ?_; rintro e w' ⟨rfl, rfl⟩)
  go_ret2
  exact ⟨rfl, rfl⟩
theorem when_tight (w : World) (p : Nat) (f g u shows : Int) (hp : Clk w p f g u) (n : ClkN f g u) (h1 : smallB shows = true) (h2 : faceI f g u 1099511627776 < shows) :
    Calls Try.prog 15 #[.pointer (some ⟨p, 0, none⟩), .int .i64 shows] w fun e w' => e = .returned (.tuple #[.int .i64 0, .int .i64 10]) ∧ Below w.heap.size w w' := by
  have C := fun w => small_any shows w
  rw [h1] at C
  have T := there_yes w p f g u hp
  have F := face_any w p f g u 1099511627776 hp n ⟨by omega, by omega⟩
  clear hp h1
  generalize faceI f g u 1099511627776 = last at *
  go_enter Try.func15, Try.ntmps15
  go_wp2_with (go_at_call 23; refine (C _).mono ?_; rintro e w' ⟨rfl, rfl⟩)
  refine T.mono ?_
  rintro e w' ⟨rfl, rfl⟩
  go_wp2_with (go_at_call 23; refine (C _).mono ?_; rintro e w' ⟨rfl, rfl⟩)
  refine F.mono ?_
  rintro e w' ⟨rfl, m, rfl⟩
  go_wp2_with fail
  go_ret2
  exact ⟨rfl, bdraw (Below.refl _ _) _⟩
/-- What is told of when. -/
def WhenR (f g u shows x e : Int) : Prop := (smallB shows = false ∧ x = 0 ∧ e = 1) ∨ (smallB shows = true ∧ faceI f g u 1099511627776 < shows ∧ x = 0 ∧ e = 10) ∨ (smallB shows = true ∧ shows ≤ faceI f g u 1099511627776 ∧ WhenI f g u shows x ∧ e = 0)
theorem WhenR.one {f g u shows x e y h : Int} (h2 : -100000 ≤ g) (h3 : g ≤ 100000) (a : WhenR f g u shows x e) (b : WhenR f g u shows y h) : x = y ∧ e = h := by
  rcases a with ⟨a1, a2, a3⟩ | ⟨a1, a2, a3, a4⟩ | ⟨a1, a2, a3, a4⟩ <;> rcases b with ⟨b1, b2, b3⟩ | ⟨b1, b2, b3, b4⟩ | ⟨b1, b2, b3, b4⟩
  · exact ⟨by omega, by omega⟩
  · rw [a1] at b1; cases b1
  · rw [a1] at b1; cases b1
  · rw [a1] at b1; cases b1
  · exact ⟨by omega, by omega⟩
  · omega
  · rw [a1] at b1; cases b1
  · omega
  · exact ⟨a3.one h2 h3 b3, by omega⟩
theorem when_rel (w : World) (p : Nat) (f g u shows : Int) (hp : Clk w p f g u) (n : ClkN f g u) :
    Calls Try.prog 15 #[.pointer (some ⟨p, 0, none⟩), .int .i64 shows] w fun e w' => ∃ x er, WhenR f g u shows x er ∧ e = .returned (.tuple #[.int .i64 x, .int .i64 er]) ∧ Below w.heap.size w w' := by
  cases h1 : smallB shows
  · exact (when_arg w p f g u shows hp h1).mono fun e w' ⟨he, hw⟩ => ⟨0, 1, .inl ⟨h1, rfl, rfl⟩, he, by rw [hw]; exact Below.refl _ _⟩
  · by_cases h2 : shows ≤ faceI f g u 1099511627776
    · exact (when_any w p f g u shows hp n h1 h2).mono fun e w' ⟨t, ht, he, hb⟩ => ⟨t, 0, .inr (.inr ⟨h1, h2, ht, rfl⟩), he, hb⟩
    · exact (when_tight w p f g u shows hp n h1 (by omega)).mono fun e w' ⟨he, hb⟩ => ⟨0, 10, .inr (.inl ⟨h1, by omega, rfl, rfl⟩), he, hb⟩
theorem turn_none (k : Int) (w : World) : Calls Try.prog 17 #[.pointer none, .int .i64 k] w fun e w' => e = .returned (.int .i64 2) ∧ w = w' := by
  go_enter Try.func17, Try.ntmps17
  go_wp2_with (go_at_call 29; refine (there_no _).mono ?_; rintro e w' ⟨rfl, rfl⟩)
  go_ret
  exact ⟨rfl, rfl⟩
theorem turn_arg (w : World) (p : Nat) (f g u k : Int) (hp : Clk w p f g u) (h1 : smallB k = false) :
    Calls Try.prog 17 #[.pointer (some ⟨p, 0, none⟩), .int .i64 k] w fun e w' => e = .returned (.int .i64 1) ∧ w = w' := by
  have C := fun w => small_any k w
  rw [h1] at C
  have T := there_yes w p f g u hp
  clear hp h1
  go_enter Try.func17, Try.ntmps17
  go_wp2_with (go_at_call 23; refine (C _).mono ?_; rintro e w' ⟨rfl, rfl⟩)
  refine T.mono ?_
  rintro e w' ⟨rfl, rfl⟩
  go_wp2_with (go_at_call 23; refine (C _).mono ?_; rintro e w' ⟨rfl, rfl⟩)
  go_ret
  exact ⟨rfl, rfl⟩
theorem turn_ok (w : World) (p : Nat) (f g u k : Int) (hp : Clk w p f g u) (n : ClkN f g u) (h1 : smallB k = true) :
    Calls Try.prog 17 #[.pointer (some ⟨p, 0, none⟩), .int .i64 k] w fun e w' => if smallB (u + k) then e = .returned (.int .i64 0) ∧ w' = w.setCell ⟨p, 3, none⟩ (.int .i64 (u + k)) else e = .returned (.int .i64 3) ∧ w = w' := by
  have C := fun w => small_any k w
  rw [h1] at C
  have T := there_yes w p f g u hp
  obtain ⟨k0, k1⟩ := (smallB_iff k).1 h1
  obtain ⟨_, _, _, _, u0, u1⟩ := n
  obtain ⟨c0, c1, c2, c3⟩ := hp.cells
  have z3 := frozen_of_row _ _ 3 _ _ hp
  clear hp h1
  have D := fun w => small_any (u + k) w
  cases h2 : smallB (u + k)
  all_goals
    rw [h2] at D
    simp only [if_true, Bool.false_eq_true, if_false]
    clear h2
    go_enter Try.func17, Try.ntmps17
    go_wp2_with fail
    refine T.mono ?_
    rintro e w' ⟨rfl, rfl⟩
    go_wp2_with fail
    refine (C _).mono ?_
    rintro e w' ⟨rfl, rfl⟩
    go_wp2_with fail
    refine (D _).mono ?_
    rintro e w' ⟨rfl, rfl⟩
    go_wp2_with fail
    go_ret
    exact ⟨rfl, rfl⟩
end Go.Proofs.Ytmkphllfignbpaa
