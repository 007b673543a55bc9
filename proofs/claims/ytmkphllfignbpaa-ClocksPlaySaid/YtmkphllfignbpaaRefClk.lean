/-
  The document's clock (belfryref20.Clock).
-/
import Derived.Test.YtmkphllfignbpaaClkB
import Derived.Test.YtmkphllfignbpaaRefMid
namespace Go.Proofs.Ytmkphllfignbpaa
open Go.RowKit
open Go

def RClk (w : World) (p : Nat) (f g u : Int) : Prop := w.heap[p]? = some (.cells #[.int .i64 f, .int .i64 g, .int .i64 u] 59 (0, 0))
theorem RClk.below {w w' : World} {p : Nat} {f g u : Int} (h : RClk w p f g u) (hb : Below w.heap.size w w') : RClk w' p f g u := (hb.block _ (lt_of_block h)).trans h
theorem rnew_ok (f g : Int) (w : World) (h1 : smallB f = true) (h2 : -100000 ≤ g) (h3 : g ≤ 100000) : Calls Try.prog 14 #[.int .i64 f, .int .i64 g] w fun e w' =>
    e = .returned (.tuple #[.pointer (some ⟨w.heap.size, 0, none⟩), .int .i64 0]) ∧ RClk w' w.heap.size f g 0 ∧ Below w.heap.size w w' := by
  have C := fun w => rsmall_any f w
  rw [h1] at C
  go_enter Try.func14, Try.ntmps14
  go_wp2_with (go_at_call 27; refine (C _).mono ?_; rintro e w' ⟨rfl, rfl⟩)
  go_ret2
  exact ⟨rfl, heap_alloc_new _ _, balloc (Below.refl _ _) _⟩
theorem rnew_no (f g : Int) (w : World) (h : smallB f = false ∨ g < -100000 ∨ 100000 < g) : Calls Try.prog 14 #[.int .i64 f, .int .i64 g] w fun e w' =>
    e = .returned (.tuple #[.pointer none, .int .i64 1]) ∧ w = w' := by
  cases h1 : smallB f
  · have C := fun w => rsmall_any f w
    rw [h1] at C
    clear h h1
    go_enter Try.func14, Try.ntmps14
    go_wp2_with (go_at_call 27; refine (C _).mono ?_; rintro e w' ⟨rfl, rfl⟩)
    go_ret2
    exact ⟨rfl, rfl⟩
  · have C := fun w => rsmall_any f w
    rw [h1] at C h
    have hg : g < -100000 ∨ (-100000 ≤ g ∧ 100000 < g) := by simp at h; omega
    clear h h1
    rcases hg with hg | ⟨hg, hg2⟩
    all_goals
      go_enter Try.func14, Try.ntmps14
      go_wp2_with (go_at_call 27; refine (C _).mono ?_; rintro e w' ⟨rfl, rfl⟩)
      go_ret2
      exact ⟨rfl, rfl⟩
set_option maxHeartbeats 1000000 in
theorem rat_any (w : World) (p : Nat) (f g u t : Int) (h : RClk w p f g u) (n : ClkN f g u) :
    Calls Try.prog 20 #[.pointer (some ⟨p, 0, none⟩), .int .i64 t] w fun e w' => e = .returned (atV f g u t) ∧ ∃ m, w' = w.drewN m := by
  unfold atV
  by_cases h1 : t < 0
  · rw [if_neg (by omega)]
    go_enter Try.func20, Try.ntmps20
    go_wp2_with fail
    go_ret2
    exact ⟨rfl, 0, rfl⟩
  · by_cases h2 : 1099511627776 < t
    · rw [if_neg (by omega)]
      go_enter Try.func20, Try.ntmps20
      go_wp2_with fail
      go_ret2
      exact ⟨rfl, 0, rfl⟩
    · rw [if_pos (by omega)]
      obtain ⟨c0, c1, c2⟩ := cells3 h
      obtain ⟨p0, p1⟩ := prod_in (t := t) (by omega) (by omega) n.g0 n.g1
      obtain ⟨q0, q1⟩ := byI_in (b := 1000000) (by omega) p0 p1
      have S1 : Hid (∀ m, Calls Try.prog 28 #[.int .i64 (t * g), .int .i64 1000000] (w.drewN m) fun e w' => e = .returned (.int .i64 (byI (t * g) 1000000)) ∧ ∃ m', w' = w.drewN m') :=
        fun m => (rby_any (t * g) 1000000 (w.drewN m) (by omega) (by omega) (by omega) (by omega)).mono fun e w' ⟨he, hw⟩ => ⟨he, m, hw.symm⟩
      obtain ⟨f0, f1, g0, g1, u0, u1⟩ := n
      unfold faceI
      generalize byI (t * g) 1000000 = r at *
      clear h
      go_enter Try.func20, Try.ntmps20
      go_wp2_with fail
      go_quiet (with_reducible exact S1.out _)
      go_wp2_with fail
      go_ret2
      exact ⟨rfl, _, rfl⟩
theorem rturn_arg (w : World) (p : Nat) (k : Int) (h1 : smallB k = false) :
    Calls Try.prog 18 #[.pointer (some ⟨p, 0, none⟩), .int .i64 k] w fun e w' => e = .returned (.int .i64 1) ∧ w = w' := by
  have C := fun w => rsmall_any k w
  rw [h1] at C
  clear h1
  go_enter Try.func18, Try.ntmps18
  go_wp2_with (go_at_call 27; refine (C _).mono ?_; rintro e w' ⟨rfl, rfl⟩)
  go_ret
  exact ⟨rfl, rfl⟩
theorem rturn_ok (w : World) (p : Nat) (f g u k : Int) (hp : RClk w p f g u) (n : ClkN f g u) (h1 : smallB k = true) :
    Calls Try.prog 18 #[.pointer (some ⟨p, 0, none⟩), .int .i64 k] w fun e w' => ∃ m, if smallB (u + k) then e = .returned (.int .i64 0) ∧ w' = (w.drewN m).setCell ⟨p, 2, none⟩ (.int .i64 (u + k)) else e = .returned (.int .i64 3) ∧ w' = w.drewN m := by
  have C := fun w => rsmall_any k w
  rw [h1] at C
  obtain ⟨k0, k1⟩ := (smallB_iff k).1 h1
  obtain ⟨_, _, _, _, u0, u1⟩ := n
  obtain ⟨c0, c1, c2⟩ := cells3 hp
  have z3 := frozen_of_row _ _ 2 _ _ hp
  clear hp h1
  have D := fun w => rsmall_any (u + k) w
  cases h2 : smallB (u + k)
  all_goals
    rw [h2] at D
    simp only [if_true, Bool.false_eq_true, if_false]
    clear h2
    go_enter Try.func18, Try.ntmps18
    go_wp2_with fail
    refine (C _).mono ?_
    rintro e w' ⟨rfl, rfl⟩
    go_wp2_with fail
    refine (D _).mono ?_
    rintro e w' ⟨rfl, rfl⟩
    go_wp2_with fail
    go_ret
    exact ⟨0, rfl, rfl⟩
set_option maxHeartbeats 1000000 in
theorem rwhen_rel (w : World) (p : Nat) (f g u shows : Int) (hp : RClk w p f g u) (n : ClkN f g u) :
    Calls Try.prog 16 #[.pointer (some ⟨p, 0, none⟩), .int .i64 shows] w fun e w' => ∃ x er, WhenR f g u shows x er ∧ e = .returned (.tuple #[.int .i64 x, .int .i64 er]) ∧ Below w.heap.size w w' := by
  have C := fun w => rsmall_any shows w
  cases h1 : smallB shows
  · rw [h1] at C
    have R : Hid (WhenR f g u shows 0 1) := .inl ⟨h1, rfl, rfl⟩
    clear h1
    go_enter Try.func16, Try.ntmps16
    go_wp2_with (go_at_call 27; refine (C _).mono ?_; rintro e w' ⟨rfl, rfl⟩)
    go_ret2
    exact ⟨0, 1, R.out, rfl, Below.refl _ _⟩
  · rw [h1] at C
    have A := Lib.hid (fun W t hW => rat_any W p f g u t hW n)
    have aL : atV f g u 1099511627776 = .tuple #[.int .i64 (faceI f g u 1099511627776), .int .i64 0] := if_pos (by omega)
    have AL := Lib.hid (fun W hW => by have := rat_any W p f g u 1099511627776 hW n; rw [aL] at this; exact this)
    have HP := Lib.hid hp
    clear hp aL
    by_cases h2 : faceI f g u 1099511627776 < shows
    · have R : Hid (WhenR f g u shows 0 10) := .inr (.inl ⟨h1, h2, rfl, rfl⟩)
      clear h1
      generalize faceI f g u 1099511627776 = last at *
      go_enter Try.func16, Try.ntmps16
      go_wp2_with fail
      refine (C _).mono ?_
      rintro e w' ⟨rfl, rfl⟩
      go_wp2_with fail
      refine (AL.out _ HP.out).mono ?_
      rintro e w' ⟨rfl, m, rfl⟩
      go_wp2_with fail
      go_ret2
      exact ⟨0, 10, R.out, rfl, bdraw (Below.refl _ _) _⟩
    · have h3 : decide (faceI f g u 1099511627776 < shows) = false := by simpa using h2
      have HS := Lib.hid h1
      have h4 : shows ≤ faceI f g u 1099511627776 := by omega
      have HLL : Hid (shows ≤ faceI f g u 1099511627776) := h4
      clear h1 h2 h4
      generalize faceI f g u 1099511627776 = last at h3 AL
      go_enter Try.func16, Try.ntmps16
      go_wp2_with fail
      refine (C _).mono ?_
      rintro e w' ⟨rfl, rfl⟩
      go_wp2_with fail
      refine (AL.out _ HP.out).mono ?_
      rintro e w' ⟨rfl, m, rfl⟩
      clear AL
      go_wp2_with fail
      go_loopw [8, 9] (fun a b wr => ∃ lo hi : Int, a = .int .i64 lo ∧ b = .int .i64 hi ∧ -1 ≤ lo ∧ lo < hi ∧ hi ≤ 1099511627776 ∧ Hid (shows ≤ faceI f g u hi ∧ (lo = -1 ∨ faceI f g u lo < shows)) ∧ Below w.heap.size w wr) (fun a b _ => (intOf b - intOf a).toNat)
      case atStart => exact ⟨-1, 1099511627776, rfl, rfl, by omega, by omega, by omega, ⟨HLL.out, .inl rfl⟩, bdraw (Below.refl _ _) m⟩
      case round =>
        obtain ⟨lo, hi, rfl, rfl, hlo, hlh, hhi, hface, hb⟩ := hrel
        by_cases hlt : lo + 1 < hi
        · have hm : lo < midS lo hi ∧ midS lo hi < hi := by unfold midS; omega
          have CA := A.out wr (midS lo hi) (HP.out.below hb)
          rw [show atV f g u (midS lo hi) = .tuple #[.int .i64 (faceI f g u (midS lo hi)), .int .i64 0] from if_pos (by omega)] at CA
          have FI := face_in (t := midS lo hi) n ⟨by omega, by omega⟩
          by_cases hy : shows ≤ faceI f g u (midS lo hi)
          · have hF : Hid (shows ≤ faceI f g u (midS lo hi) ∧ (lo = -1 ∨ faceI f g u lo < shows)) := ⟨hy, hface.out.2⟩
            have HCA := Lib.hid CA
            have hms : Hid (midS lo hi = lo + (hi - lo) / 2) := rfl
            obtain ⟨m0, m1⟩ := hm
            clear CA hface A HP
            generalize hfm : faceI f g u (midS lo hi) = fm at HCA FI hy
            clear hfm
            unfold midS at HCA
            go_wp2_with fail
            refine HCA.out.mono ?_
            rintro e w' ⟨rfl, d, rfl⟩
            go_wp2_with fail
            go_roundw
            case rel => exact ⟨lo, midS lo hi, rfl, rfl, by omega, by omega, by omega, hF, bdraw hb _⟩
            case measure => have := hms.out; simp [intOf]; omega
          · have hy' : faceI f g u (midS lo hi) < shows := by omega
            have hF : Hid (shows ≤ faceI f g u hi ∧ (midS lo hi = -1 ∨ faceI f g u (midS lo hi) < shows)) := ⟨hface.out.1, .inr hy'⟩
            have HCA := Lib.hid CA
            have hms : Hid (midS lo hi = lo + (hi - lo) / 2) := rfl
            obtain ⟨m0, m1⟩ := hm
            clear CA hface A HP hy
            generalize hfm : faceI f g u (midS lo hi) = fm at HCA FI hy'
            clear hfm
            unfold midS at HCA
            go_wp2_with fail
            refine HCA.out.mono ?_
            rintro e w' ⟨rfl, d, rfl⟩
            go_wp2_with fail
            go_roundw
            case rel => exact ⟨midS lo hi, hi, rfl, rfl, by omega, by omega, by omega, hF, bdraw hb _⟩
            case measure => have := hms.out; simp [intOf]; omega
        · obtain rfl : hi = lo + 1 := by omega
          clear A HP
          go_wp2_with fail
          go_ret2
          refine ⟨lo + 1, 0, .inr (.inr ⟨HS.out, HLL.out, ⟨by omega, hhi, hface.out.1, ?_⟩, rfl⟩), rfl, hb⟩
          rcases hface.out.2 with h | h
          · left; omega
          · right
            rw [show lo + 1 - 1 = lo by omega]
            exact h
end Go.Proofs.Ytmkphllfignbpaa
