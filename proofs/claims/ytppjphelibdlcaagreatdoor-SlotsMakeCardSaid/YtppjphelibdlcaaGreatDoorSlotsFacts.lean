/-
  Plain laws of slots: a table of a guard fits just if the guard does; no program in sight.
-/
import Derived.Test.YtppjphelibdlcaaGreatDoorSlotsMath
namespace Go.Proofs.YtppjphelibdlcaaGreatDoor
open Go

theorem fitL_rows (bit far g : Int) (l : List Int) (a : Int) (hg : 0 ≤ g) (hf : 0 ≤ far) (hb : 1 ≤ bit) (hb1 : bit ≤ 1000000) (hl : ∀ n ∈ l, 1 ≤ n ∧ n ≤ 100000) (ha : 0 ≤ a) (hs : a + sumS bit far g l ≤ 1125899906842624) :
    fitL bit far g a (rowsS bit far g a l) l = some (a + sumS bit far g l) := by
  induction l generalizing a with
  | nil => simp [rowsS, fitL, sumS]
  | cons n l ih =>
    obtain ⟨h1, h2⟩ := slot1_in hb hb1 (hl n (by simp)).1 (hl n (by simp)).2
    have hpos : 0 ≤ sumS bit far g l := by
      clear ih hs
      induction l with
      | nil => simp [sumS]
      | cons m l ih2 =>
        have := ih2 (fun x hx => hl x (by simp at hx ⊢; rcases hx with h | h <;> simp [h]))
        have h3 := slot1_in hb hb1 (hl m (by simp)).1 (hl m (by simp)).2
        simp only [sumS, slot1]
        omega
    simp only [sumS] at hs
    have hok : okS bit far g a n (a, a + g, a + slot1 bit far g n) = true := by
      simp only [okS, Bool.and_eq_true, wB_iff]
      simp only [slot1] at hs ⊢
      refine ⟨⟨by omega, by omega⟩, ⟨by omega, by omega⟩, by omega, by omega⟩
    simp only [rowsS, fitL, hok, if_true, sumS]
    rw [ih _ (fun x hx => hl x (by simp [hx])) (by simp only [slot1]; omega) (by omega)]
    congr 1
    omega
section
variable {bit near far drift bad : Int} {l : List Int}
theorem skew_of (h : chkB bit near far drift bad = true) (r : Int) (h0 : 0 ≤ r) (h1 : r ≤ 1099511627776) : skewI bit near far drift bad r = skI near far drift r := by
  simp [skewI, h, (wB_iff r 0 1099511627776).2 ⟨h0, h1⟩]
theorem sum_may (hm : mayB bit near far drift bad l = true) {g : Int} (hg0 : 0 ≤ g) (hg1 : g ≤ 1073741824) : 0 ≤ sumS bit far g l ∧ sumS bit far g l ≤ 817187869184 := by
  obtain ⟨hc, ⟨_, h8⟩, hl⟩ := (mayB_iff _ _ _ _ _ _).1 hm
  obtain ⟨⟨hb0, hb1⟩, ⟨hf0, hf1⟩, _⟩ := (chkB_iff bit near far drift bad).1 hc
  exact sum_8 l hb0 hb1 hf0 hf1 hg0 hg1 (by omega) hl
theorem fits_made (hm : mayB bit near far drift bad l = true) {g : Int} (hg0 : 0 ≤ g) (hg1 : g ≤ 1073741824) (hok : skI near far drift (sumS bit far g l) ≤ g) :
    fitsB bit near far drift bad l (rowsS bit far g 0 l) (sumS bit far g l) g = true := by
  obtain ⟨hc, ⟨_, h8⟩, hl⟩ := (mayB_iff _ _ _ _ _ _).1 hm
  obtain ⟨⟨hb0, hb1⟩, ⟨hf0, hf1⟩, _⟩ := (chkB_iff bit near far drift bad).1 hc
  obtain ⟨s0, s1⟩ := sum_may hm hg0 hg1
  have e1 := (wB_iff (sumS bit far g l) 0 1099511627776).2 ⟨s0, by omega⟩
  have e2 := (wB_iff g (skI near far drift (sumS bit far g l)) 1125899906842624).2 ⟨hok, by omega⟩
  have e3 := fitL_rows bit far g l 0 hg0 hf0 hb0 hb1 hl (by omega) (by omega)
  rw [fitsB, hm, rowsS_len, skew_of hc _ s0 (by omega), e1, e2, e3]
  simp
theorem fits_not (hm : mayB bit near far drift bad l = true) {g : Int} (hg0 : 0 ≤ g) (hg1 : g ≤ 1073741824) (hok : ¬ skI near far drift (sumS bit far g l) ≤ g) (rs : List (Int × Int × Int)) :
    fitsB bit near far drift bad l rs (sumS bit far g l) g = false := by
  obtain ⟨hc, _⟩ := (mayB_iff _ _ _ _ _ _).1 hm
  obtain ⟨s0, s1⟩ := sum_may hm hg0 hg1
  have e2 := (wB_not g (skI near far drift (sumS bit far g l)) 1125899906842624).2 (fun h => hok h.1)
  rw [fitsB, skew_of hc _ s0 (by omega), e2]
  simp
end
/-- As long, and each at least 1 and at most as great. -/
def LessL (m l : List Int) : Prop := m.length = l.length ∧ ∀ (i : Nat) (x y : Int), m[i]? = some x → l[i]? = some y → 1 ≤ x ∧ x ≤ y
theorem LessL.set {m l : List Int} (h : LessL m l) (k : Nat) (x : Int) (hx : ∀ y, l[k]? = some y → 1 ≤ x ∧ x ≤ y) : LessL (m.set k x) l := by
  refine ⟨by simpa using h.1, fun i u y hu hy => ?_⟩
  rw [List.getElem?_set] at hu
  split at hu
  · rename_i hk
    subst hk
    split at hu
    · cases hu
      exact hx y hy
    · cases hu
  · exact h.2 i u y hu hy
theorem fitL_less {bit far bit2 far2 g : Int} (hb : bit2 ≤ bit) (hb1 : 1 ≤ bit2) (hf : far2 ≤ far) (rs : List (Int × Int × Int)) (m l : List Int) (hl : LessL m l) (a b : Int) (h : fitL bit far g a rs l = some b) :
    fitL bit2 far2 g a rs m = some b := by
  induction rs generalizing a m l with
  | nil => cases l <;> cases m <;> simpa [fitL] using h
  | cons x rs ih =>
    cases l with
    | nil =>
      have := hl.1
      cases m with
      | nil => simpa [fitL] using h
      | cons _ _ => simp at this
    | cons n l =>
      cases m with
      | nil => have := hl.1; simp at this
      | cons k m =>
        simp only [fitL] at h ⊢
        split at h
        · rename_i hok
          obtain ⟨h1, h2⟩ := hl.2 0 k n rfl rfl
          have h3 := Int.mul_le_mul_of_nonneg_right h2 (show 0 ≤ bit2 by omega)
          have h4 := Int.mul_le_mul_of_nonneg_left hb (show 0 ≤ n by omega)
          have hok2 : okS bit2 far2 g a k x = true := by
            simp only [okS, Bool.and_eq_true, wB_iff] at hok ⊢
            generalize n * bit = p at *
            generalize k * bit2 = q at *
            generalize n * bit2 = s at *
            omega
          rw [if_pos hok2]
          exact ih m l ⟨by simpa using hl.1, fun i x y hx hy => hl.2 (i + 1) x y (by simpa using hx) (by simpa using hy)⟩ _ h
        · cases h
theorem fits_better {bit near far drift bad bit2 near2 far2 drift2 bad2 : Int} {m l : List Int} {rs : List (Int × Int × Int)} {r g : Int} (h : fitsB bit near far drift bad l rs r g = true) (hy : chkB bit2 near2 far2 drift2 bad2 = true)
    (h1 : bit2 ≤ bit) (h2 : far2 ≤ far) (h3 : far2 - near2 ≤ far - near) (h4 : drift2 ≤ drift) (h5 : bad2 ≤ bad) (hl : LessL m l) : fitsB bit2 near2 far2 drift2 bad2 m rs r g = true := by
  simp only [fitsB, Bool.and_eq_true, decide_eq_true_eq] at h
  obtain ⟨hm, hlen, hr, hg, ha⟩ := h
  obtain ⟨hc, ⟨hmx, h8⟩, hall⟩ := (mayB_iff _ _ _ _ _ _).1 hm
  obtain ⟨⟨hb0, hb1⟩, _, _, ⟨hd0, hd1⟩, ⟨hz0, hz1⟩⟩ := (chkB_iff _ _ _ _ _).1 hy
  obtain ⟨hr0, hr1⟩ := (wB_iff _ _ _).1 hr
  obtain ⟨hg0, hg1⟩ := (wB_iff _ _ _).1 hg
  rw [skew_of hc r hr0 hr1] at hg0
  have hsk := skI_mono (near := near2) (far := far2) (drift := drift2) (near' := near) (far' := far) (drift' := drift) (r := r) (r' := r) h3 hd0 h4 hr0 (Int.le_refl r)
  have e0 : mayB bit2 near2 far2 drift2 bad2 m = true := by
    refine (mayB_iff _ _ _ _ _ _).2 ⟨hy, ⟨by rw [hl.1]; omega, by rw [hl.1]; omega⟩, fun n hn => ?_⟩
    obtain ⟨i, hi, rfl⟩ := List.getElem_of_mem hn
    have hi2 : i < l.length := by rw [← hl.1]; exact hi
    obtain ⟨q1, q2⟩ := hl.2 i m[i] l[i] (List.getElem?_eq_getElem hi) (List.getElem?_eq_getElem hi2)
    have := hall l[i] (List.getElem_mem hi2)
    omega
  have e1 := (wB_iff g (skI near2 far2 drift2 r) 1125899906842624).2 ⟨by omega, hg1⟩
  cases hfl : fitL bit far g 0 rs l with
  | none => rw [hfl] at ha; simp at ha
  | some b =>
    rw [hfl] at ha
    rw [fitsB, e0, hl.1, hlen, hr, skew_of hy r hr0 hr1, e1, fitL_less h1 hb0 h2 rs m l hl 0 b hfl]
    simpa using ha
end Go.Proofs.YtppjphelibdlcaaGreatDoor
