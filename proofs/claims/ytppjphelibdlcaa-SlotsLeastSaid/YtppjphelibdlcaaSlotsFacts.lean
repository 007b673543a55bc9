/-
  Plain laws of slots: a table of a guard fits just if the guard does; no program in sight.
-/
import Derived.Test.YtppjphelibdlcaaSlotsMath
namespace Go.Proofs.Ytppjphelibdlcaa
open Go

theorem fitL_rows (bit far g : Int) (l : List Int) (a : Int) (hg : 0 ≤ g) (hf : 0 ≤ far) (hb : 1 ≤ bit) (hb1 : bit ≤ 1000000) (hl : ∀ n ∈ l, 1 ≤ n ∧ n ≤ 100000) (ha : 0 ≤ a) (hs : a + sumS bit far g l ≤ 1125899906842624) :
    fitL bit far g a (rowsS bit far g a l) l = some (a + sumS bit far g l) := by
  induction l generalizing a with
  | nil => simp [rowsS, fitL, sumS]
  | cons n l ih =>
    obtain ⟨h1, h2⟩ := slot1_in hb hb1 (hl n (by simp)).1 (hl n (by simp)).2
    have hpos : 0 ≤ sumS bit far g l := by
      clear ih hs
      induction l with
      | nil => simp [sumS]
      | cons m l ih2 =>
        have := ih2 (fun x hx => hl x (by simp at hx ⊢; rcases hx with h | h <;> simp [h]))
        have h3 := slot1_in hb hb1 (hl m (by simp)).1 (hl m (by simp)).2
        simp only [sumS, slot1]
        omega
    simp only [sumS] at hs
    have hok : okS bit far g a n (a, a + g, a + slot1 bit far g n) = true := by
      simp only [okS, Bool.and_eq_true, wB_iff]
      simp only [slot1] at hs ⊢
      refine ⟨⟨by omega, by omega⟩, ⟨by omega, by omega⟩, by omega, by omega⟩
    simp only [rowsS, fitL, hok, if_true, sumS]
    rw [ih _ (fun x hx => hl x (by simp [hx])) (by simp only [slot1]; omega) (by omega)]
    congr 1
    omega
section
variable {bit near far drift bad : Int} {l : List Int}
theorem skew_of (h : chkB bit near far drift bad = true) (r : Int) (h0 : 0 ≤ r) (h1 : r ≤ 1099511627776) : skewI bit near far drift bad r = skI near far drift r := by
  simp [skewI, h, (wB_iff r 0 1099511627776).2 ⟨h0, h1⟩]
theorem sum_may (hm : mayB bit near far drift bad l = true) {g : Int} (hg0 : 0 ≤ g) (hg1 : g ≤ 1073741824) : 0 ≤ sumS bit far g l ∧ sumS bit far g l ≤ 817187869184 := by
  obtain ⟨hc, ⟨_, h8⟩, hl⟩ := (mayB_iff _ _ _ _ _ _).1 hm
  obtain ⟨⟨hb0, hb1⟩, ⟨hf0, hf1⟩, _⟩ := (chkB_iff bit near far drift bad).1 hc
  exact sum_8 l hb0 hb1 hf0 hf1 hg0 hg1 (by omega) hl
theorem fits_made (hm : mayB bit near far drift bad l = true) {g : Int} (hg0 : 0 ≤ g) (hg1 : g ≤ 1073741824) (hok : skI near far drift (sumS bit far g l) ≤ g) :
    fitsB bit near far drift bad l (rowsS bit far g 0 l) (sumS bit far g l) g = true := by
  obtain ⟨hc, ⟨_, h8⟩, hl⟩ := (mayB_iff _ _ _ _ _ _).1 hm
  obtain ⟨⟨hb0, hb1⟩, ⟨hf0, hf1⟩, _⟩ := (chkB_iff bit near far drift bad).1 hc
  obtain ⟨s0, s1⟩ := sum_may hm hg0 hg1
  have e1 := (wB_iff (sumS bit far g l) 0 1099511627776).2 ⟨s0, by omega⟩
  have e2 := (wB_iff g (skI near far drift (sumS bit far g l)) 1125899906842624).2 ⟨hok, by omega⟩
  have e3 := fitL_rows bit far g l 0 hg0 hf0 hb0 hb1 hl (by omega) (by omega)
  rw [fitsB, hm, rowsS_len, skew_of hc _ s0 (by omega), e1, e2, e3]
  simp
theorem fits_not (hm : mayB bit near far drift bad l = true) {g : Int} (hg0 : 0 ≤ g) (hg1 : g ≤ 1073741824) (hok : ¬ skI near far drift (sumS bit far g l) ≤ g) (rs : List (Int × Int × Int)) :
    fitsB bit near far drift bad l rs (sumS bit far g l) g = false := by
  obtain ⟨hc, _⟩ := (mayB_iff _ _ _ _ _ _).1 hm
  obtain ⟨s0, s1⟩ := sum_may hm hg0 hg1
  have e2 := (wB_not g (skI near far drift (sumS bit far g l)) 1125899906842624).2 (fun h => hok h.1)
  rw [fitsB, skew_of hc _ s0 (by omega), e2]
  simp
end
end Go.Proofs.Ytppjphelibdlcaa
