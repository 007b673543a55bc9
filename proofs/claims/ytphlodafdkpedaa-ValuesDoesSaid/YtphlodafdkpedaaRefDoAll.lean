/-
  The document's Do is the program's. (Printed by genrefdo.py.)
-/
import Derived.Test.YtphlodafdkpedaaRefDo
namespace Go.Proofs.Ytphlodafdkpedaa
open Go.RowKit
open Go

theorem deedM_none {o : Int} (h : o < 4 ∨ 17 < o) : deedM o = none := by
  unfold deedM
  rw [List.find?_eq_none.2 ?_]
  · rfl
  intro e he
  have hall : ∀ e ∈ deedT, 4 ≤ e.1 ∧ e.1 ≤ 16 := by decide
  have := hall e he
  simp
  omega
theorem beq_sym (x y : Int) : (x == y) = (y == x) := by
  rw [Bool.eq_iff_iff]
  simp only [beq_iff_eq]
  exact ⟨Eq.symm, Eq.symm⟩
theorem not_as {x : Int} (h : x = 0 ∨ x = 1) : (x == 0) = !(x == 1) := by
  rcases h with rfl | rfl <;> rfl
theorem chk_bool {p : VT} (h : chkV p = true) (ht : p.1 = 2) : p.2 = 0 ∨ p.2 = 1 := by
  unfold chkV at h
  rw [ht] at h
  simpa using h
theorem ref4 (v : Value) (l : List VT) (w : World) (hR : RdN 2 w v (l.map rowV)) : Calls Try.prog 7 #[.int .u8 4, v] w fun e w' => e = .returned (.tuple #[aggV (doV 4 l).1, .int .i64 (doV 4 l).2]) ∧ Below w.heap.size w w' := by
  rw [doV_some l (by decide) (show deedM 4 = some (1, 1) from rfl)]
  unfold doK
  by_cases hbad : (l.length : Int) ≠ 1 ∨ (l.any fun p => !chkV p) = true
  · rw [if_pos hbad]
    exact rdo_err1 4 v l w hR (.inr hbad)
  · rw [if_neg hbad]
    simp only [not_or, Bool.not_eq_true, ne_eq, Decidable.not_not] at hbad
    obtain ⟨hlen, hgood⟩ := hbad
    obtain ⟨va, rfl⟩ := list1V (l := l) (by omega)
    obtain ⟨a, c, rfl, _⟩ := hR.shape
    obtain ⟨bq, oq, e', pr⟩ := one_of hR
    cases e'
    have hfit : ∀ w, RdN 2 w (.slice (some ⟨bq, oq, none⟩) 1 c) ([va].map rowV) → Calls Try.prog 17 #[.int .u8 4, .slice (some ⟨bq, oq, none⟩) 1 c] w fun e w' => e = .returned (.bool (fitsB 4 [va])) ∧ Below w.heap.size w w' := fun w h => fits4 _ _ w h
    have hq : ([va].any fun p => p.1 != (if (1 : Int) = 0 then ([va].getD 0 (0, 0)).1 else 1)) = !(fitsB 4 [va]) := by
      rw [if_neg (by decide)]
      show _ = !([va].all fun p => p.1 == 1)
      simp only [List.any_cons, List.any_nil, List.all_cons, List.all_nil, bne]
      cases (va.1 == 1) <;> rfl
    cases hf : fitsB 4 [va]
    · rw [hf] at hfit hq
      rw [hq]
      exact rdo_err7 4 _ _ w hR (by decide) rfl hgood hfit
    · rw [hf] at hfit hq
      rw [hq]
      exact rdo4 va bq oq c w _ rfl hR hgood hfit
theorem ref5 (v : Value) (l : List VT) (w : World) (hR : RdN 2 w v (l.map rowV)) : Calls Try.prog 7 #[.int .u8 5, v] w fun e w' => e = .returned (.tuple #[aggV (doV 5 l).1, .int .i64 (doV 5 l).2]) ∧ Below w.heap.size w w' := by
  rw [doV_some l (by decide) (show deedM 5 = some (1, 2) from rfl)]
  unfold doK
  by_cases hbad : (l.length : Int) ≠ 1 ∨ (l.any fun p => !chkV p) = true
  · rw [if_pos hbad]
    exact rdo_err1 5 v l w hR (.inr hbad)
  · rw [if_neg hbad]
    simp only [not_or, Bool.not_eq_true, ne_eq, Decidable.not_not] at hbad
    obtain ⟨hlen, hgood⟩ := hbad
    obtain ⟨va, rfl⟩ := list1V (l := l) (by omega)
    obtain ⟨a, c, rfl, _⟩ := hR.shape
    obtain ⟨bq, oq, e', pr⟩ := one_of hR
    cases e'
    have hfit : ∀ w, RdN 2 w (.slice (some ⟨bq, oq, none⟩) 1 c) ([va].map rowV) → Calls Try.prog 17 #[.int .u8 5, .slice (some ⟨bq, oq, none⟩) 1 c] w fun e w' => e = .returned (.bool (fitsB 5 [va])) ∧ Below w.heap.size w w' := fun w h => fits5 _ _ w h
    have hq : ([va].any fun p => p.1 != (if (2 : Int) = 0 then ([va].getD 0 (0, 0)).1 else 2)) = !(fitsB 5 [va]) := by
      rw [if_neg (by decide)]
      show _ = !([va].all fun p => p.1 == 2)
      simp only [List.any_cons, List.any_nil, List.all_cons, List.all_nil, bne]
      cases (va.1 == 2) <;> rfl
    cases hf : fitsB 5 [va]
    · rw [hf] at hfit hq
      rw [hq]
      exact rdo_err7 5 _ _ w hR (by decide) rfl hgood hfit
    · rw [hf] at hfit hq
      rw [hq]
      have e5 : semD 5 ([va].getD 0 (0, 0)) (lastV [va]) = yesV (va.2 == 0) := by
        have h1 : chkV va = true := by simpa using hgood
        have h2 : va.1 = 2 := by
          have hf' : ([va].all fun p => p.1 == 2) = true := hf
          simpa using hf'
        show yesV (!(va.2 == 1)) = _
        rw [not_as (chk_bool h1 h2)]
      rw [e5]
      exact rdo5 va bq oq c w _ rfl hR hgood hfit
theorem ref6 (v : Value) (l : List VT) (w : World) (hR : RdN 2 w v (l.map rowV)) : Calls Try.prog 7 #[.int .u8 6, v] w fun e w' => e = .returned (.tuple #[aggV (doV 6 l).1, .int .i64 (doV 6 l).2]) ∧ Below w.heap.size w w' := by
  rw [doV_some l (by decide) (show deedM 6 = some (2, 1) from rfl)]
  unfold doK
  by_cases hbad : (l.length : Int) ≠ 2 ∨ (l.any fun p => !chkV p) = true
  · rw [if_pos hbad]
    exact rdo_err1 6 v l w hR (.inr hbad)
  · rw [if_neg hbad]
    simp only [not_or, Bool.not_eq_true, ne_eq, Decidable.not_not] at hbad
    obtain ⟨hlen, hgood⟩ := hbad
    obtain ⟨va, vb, rfl⟩ := list2V (l := l) (by omega)
    obtain ⟨a, c, rfl, _⟩ := hR.shape
    obtain ⟨bq, oq, e', pr⟩ := pair_of hR
    cases e'
    have hfit : ∀ w, RdN 2 w (.slice (some ⟨bq, oq, none⟩) 2 c) ([va, vb].map rowV) → Calls Try.prog 17 #[.int .u8 6, .slice (some ⟨bq, oq, none⟩) 2 c] w fun e w' => e = .returned (.bool (fitsB 6 [va, vb])) ∧ Below w.heap.size w w' := fun w h => fits6 _ _ w h
    have hq : ([va, vb].any fun p => p.1 != (if (1 : Int) = 0 then ([va, vb].getD 0 (0, 0)).1 else 1)) = !(fitsB 6 [va, vb]) := by
      rw [if_neg (by decide)]
      show _ = !([va, vb].all fun p => p.1 == 1)
      simp only [List.any_cons, List.any_nil, List.all_cons, List.all_nil, bne]
      cases (va.1 == 1) <;> cases (vb.1 == 1) <;> rfl
    cases hf : fitsB 6 [va, vb]
    · rw [hf] at hfit hq
      rw [hq]
      exact rdo_err7 6 _ _ w hR (by decide) rfl hgood hfit
    · rw [hf] at hfit hq
      rw [hq]
      exact rdo6 va vb bq oq c w _ rfl hR hgood hfit
theorem ref7 (v : Value) (l : List VT) (w : World) (hR : RdN 2 w v (l.map rowV)) : Calls Try.prog 7 #[.int .u8 7, v] w fun e w' => e = .returned (.tuple #[aggV (doV 7 l).1, .int .i64 (doV 7 l).2]) ∧ Below w.heap.size w w' := by
  rw [doV_some l (by decide) (show deedM 7 = some (2, 1) from rfl)]
  unfold doK
  by_cases hbad : (l.length : Int) ≠ 2 ∨ (l.any fun p => !chkV p) = true
  · rw [if_pos hbad]
    exact rdo_err1 7 v l w hR (.inr hbad)
  · rw [if_neg hbad]
    simp only [not_or, Bool.not_eq_true, ne_eq, Decidable.not_not] at hbad
    obtain ⟨hlen, hgood⟩ := hbad
    obtain ⟨va, vb, rfl⟩ := list2V (l := l) (by omega)
    obtain ⟨a, c, rfl, _⟩ := hR.shape
    obtain ⟨bq, oq, e', pr⟩ := pair_of hR
    cases e'
    have hfit : ∀ w, RdN 2 w (.slice (some ⟨bq, oq, none⟩) 2 c) ([va, vb].map rowV) → Calls Try.prog 17 #[.int .u8 7, .slice (some ⟨bq, oq, none⟩) 2 c] w fun e w' => e = .returned (.bool (fitsB 7 [va, vb])) ∧ Below w.heap.size w w' := fun w h => fits7 _ _ w h
    have hq : ([va, vb].any fun p => p.1 != (if (1 : Int) = 0 then ([va, vb].getD 0 (0, 0)).1 else 1)) = !(fitsB 7 [va, vb]) := by
      rw [if_neg (by decide)]
      show _ = !([va, vb].all fun p => p.1 == 1)
      simp only [List.any_cons, List.any_nil, List.all_cons, List.all_nil, bne]
      cases (va.1 == 1) <;> cases (vb.1 == 1) <;> rfl
    cases hf : fitsB 7 [va, vb]
    · rw [hf] at hfit hq
      rw [hq]
      exact rdo_err7 7 _ _ w hR (by decide) rfl hgood hfit
    · rw [hf] at hfit hq
      rw [hq]
      exact rdo7 va vb bq oq c w _ rfl hR hgood hfit
theorem ref8 (v : Value) (l : List VT) (w : World) (hR : RdN 2 w v (l.map rowV)) : Calls Try.prog 7 #[.int .u8 8, v] w fun e w' => e = .returned (.tuple #[aggV (doV 8 l).1, .int .i64 (doV 8 l).2]) ∧ Below w.heap.size w w' := by
  rw [doV_some l (by decide) (show deedM 8 = some (2, 1) from rfl)]
  unfold doK
  by_cases hbad : (l.length : Int) ≠ 2 ∨ (l.any fun p => !chkV p) = true
  · rw [if_pos hbad]
    exact rdo_err1 8 v l w hR (.inr hbad)
  · rw [if_neg hbad]
    simp only [not_or, Bool.not_eq_true, ne_eq, Decidable.not_not] at hbad
    obtain ⟨hlen, hgood⟩ := hbad
    obtain ⟨va, vb, rfl⟩ := list2V (l := l) (by omega)
    obtain ⟨a, c, rfl, _⟩ := hR.shape
    obtain ⟨bq, oq, e', pr⟩ := pair_of hR
    cases e'
    have hfit : ∀ w, RdN 2 w (.slice (some ⟨bq, oq, none⟩) 2 c) ([va, vb].map rowV) → Calls Try.prog 17 #[.int .u8 8, .slice (some ⟨bq, oq, none⟩) 2 c] w fun e w' => e = .returned (.bool (fitsB 8 [va, vb])) ∧ Below w.heap.size w w' := fun w h => fits8 _ _ w h
    have hq : ([va, vb].any fun p => p.1 != (if (1 : Int) = 0 then ([va, vb].getD 0 (0, 0)).1 else 1)) = !(fitsB 8 [va, vb]) := by
      rw [if_neg (by decide)]
      show _ = !([va, vb].all fun p => p.1 == 1)
      simp only [List.any_cons, List.any_nil, List.all_cons, List.all_nil, bne]
      cases (va.1 == 1) <;> cases (vb.1 == 1) <;> rfl
    cases hf : fitsB 8 [va, vb]
    · rw [hf] at hfit hq
      rw [hq]
      exact rdo_err7 8 _ _ w hR (by decide) rfl hgood hfit
    · rw [hf] at hfit hq
      rw [hq]
      exact rdo8 va vb bq oq c w _ rfl hR hgood hfit
theorem ref9 (v : Value) (l : List VT) (w : World) (hR : RdN 2 w v (l.map rowV)) : Calls Try.prog 7 #[.int .u8 9, v] w fun e w' => e = .returned (.tuple #[aggV (doV 9 l).1, .int .i64 (doV 9 l).2]) ∧ Below w.heap.size w w' := by
  rw [doV_some l (by decide) (show deedM 9 = some (2, 1) from rfl)]
  unfold doK
  by_cases hbad : (l.length : Int) ≠ 2 ∨ (l.any fun p => !chkV p) = true
  · rw [if_pos hbad]
    exact rdo_err1 9 v l w hR (.inr hbad)
  · rw [if_neg hbad]
    simp only [not_or, Bool.not_eq_true, ne_eq, Decidable.not_not] at hbad
    obtain ⟨hlen, hgood⟩ := hbad
    obtain ⟨va, vb, rfl⟩ := list2V (l := l) (by omega)
    obtain ⟨a, c, rfl, _⟩ := hR.shape
    obtain ⟨bq, oq, e', pr⟩ := pair_of hR
    cases e'
    have hfit : ∀ w, RdN 2 w (.slice (some ⟨bq, oq, none⟩) 2 c) ([va, vb].map rowV) → Calls Try.prog 17 #[.int .u8 9, .slice (some ⟨bq, oq, none⟩) 2 c] w fun e w' => e = .returned (.bool (fitsB 9 [va, vb])) ∧ Below w.heap.size w w' := fun w h => fits9 _ _ w h
    have hq : ([va, vb].any fun p => p.1 != (if (1 : Int) = 0 then ([va, vb].getD 0 (0, 0)).1 else 1)) = !(fitsB 9 [va, vb]) := by
      rw [if_neg (by decide)]
      show _ = !([va, vb].all fun p => p.1 == 1)
      simp only [List.any_cons, List.any_nil, List.all_cons, List.all_nil, bne]
      cases (va.1 == 1) <;> cases (vb.1 == 1) <;> rfl
    cases hf : fitsB 9 [va, vb]
    · rw [hf] at hfit hq
      rw [hq]
      exact rdo_err7 9 _ _ w hR (by decide) rfl hgood hfit
    · rw [hf] at hfit hq
      rw [hq]
      exact rdo9 va vb bq oq c w _ rfl hR hgood hfit
theorem ref10 (v : Value) (l : List VT) (w : World) (hR : RdN 2 w v (l.map rowV)) : Calls Try.prog 7 #[.int .u8 10, v] w fun e w' => e = .returned (.tuple #[aggV (doV 10 l).1, .int .i64 (doV 10 l).2]) ∧ Below w.heap.size w w' := by
  rw [doV_some l (by decide) (show deedM 10 = some (2, 1) from rfl)]
  unfold doK
  by_cases hbad : (l.length : Int) ≠ 2 ∨ (l.any fun p => !chkV p) = true
  · rw [if_pos hbad]
    exact rdo_err1 10 v l w hR (.inr hbad)
  · rw [if_neg hbad]
    simp only [not_or, Bool.not_eq_true, ne_eq, Decidable.not_not] at hbad
    obtain ⟨hlen, hgood⟩ := hbad
    obtain ⟨va, vb, rfl⟩ := list2V (l := l) (by omega)
    obtain ⟨a, c, rfl, _⟩ := hR.shape
    obtain ⟨bq, oq, e', pr⟩ := pair_of hR
    cases e'
    have hfit : ∀ w, RdN 2 w (.slice (some ⟨bq, oq, none⟩) 2 c) ([va, vb].map rowV) → Calls Try.prog 17 #[.int .u8 10, .slice (some ⟨bq, oq, none⟩) 2 c] w fun e w' => e = .returned (.bool (fitsB 10 [va, vb])) ∧ Below w.heap.size w w' := fun w h => fits10 _ _ w h
    have hq : ([va, vb].any fun p => p.1 != (if (1 : Int) = 0 then ([va, vb].getD 0 (0, 0)).1 else 1)) = !(fitsB 10 [va, vb]) := by
      rw [if_neg (by decide)]
      show _ = !([va, vb].all fun p => p.1 == 1)
      simp only [List.any_cons, List.any_nil, List.all_cons, List.all_nil, bne]
      cases (va.1 == 1) <;> cases (vb.1 == 1) <;> rfl
    cases hf : fitsB 10 [va, vb]
    · rw [hf] at hfit hq
      rw [hq]
      exact rdo_err7 10 _ _ w hR (by decide) rfl hgood hfit
    · rw [hf] at hfit hq
      rw [hq]
      exact rdo10 va vb bq oq c w _ rfl hR hgood hfit
theorem ref11 (v : Value) (l : List VT) (w : World) (hR : RdN 2 w v (l.map rowV)) : Calls Try.prog 7 #[.int .u8 11, v] w fun e w' => e = .returned (.tuple #[aggV (doV 11 l).1, .int .i64 (doV 11 l).2]) ∧ Below w.heap.size w w' := by
  rw [doV_some l (by decide) (show deedM 11 = some (2, 0) from rfl)]
  unfold doK
  by_cases hbad : (l.length : Int) ≠ 2 ∨ (l.any fun p => !chkV p) = true
  · rw [if_pos hbad]
    exact rdo_err1 11 v l w hR (.inr hbad)
  · rw [if_neg hbad]
    simp only [not_or, Bool.not_eq_true, ne_eq, Decidable.not_not] at hbad
    obtain ⟨hlen, hgood⟩ := hbad
    obtain ⟨va, vb, rfl⟩ := list2V (l := l) (by omega)
    obtain ⟨a, c, rfl, _⟩ := hR.shape
    obtain ⟨bq, oq, e', pr⟩ := pair_of hR
    cases e'
    have hfit : ∀ w, RdN 2 w (.slice (some ⟨bq, oq, none⟩) 2 c) ([va, vb].map rowV) → Calls Try.prog 17 #[.int .u8 11, .slice (some ⟨bq, oq, none⟩) 2 c] w fun e w' => e = .returned (.bool (va.1 == vb.1)) ∧ Below w.heap.size w w' := by
      intro w h
      obtain ⟨_, _, e', pr⟩ := pair_of h
      cases e'
      exact fits11 va vb bq oq c w pr
    have hq : ([va, vb].any fun p => p.1 != (if (0 : Int) = 0 then ([va, vb].getD 0 (0, 0)).1 else 0)) = !(va.1 == vb.1) := by
      rw [if_pos rfl]
      show (va.1 != va.1 || (vb.1 != va.1 || false)) = _
      rw [Bool.or_false]
      unfold bne
      rw [beq_sym vb.1 va.1]
      simp
    cases hf : (va.1 == vb.1)
    · rw [hf] at hfit hq
      rw [hq]
      exact rdo_err7 11 _ _ w hR (by decide) rfl hgood hfit
    · rw [hf] at hfit hq
      rw [hq]
      exact rdo11 va vb bq oq c w _ rfl hR hgood hfit
theorem ref12 (v : Value) (l : List VT) (w : World) (hR : RdN 2 w v (l.map rowV)) : Calls Try.prog 7 #[.int .u8 12, v] w fun e w' => e = .returned (.tuple #[aggV (doV 12 l).1, .int .i64 (doV 12 l).2]) ∧ Below w.heap.size w w' := by
  rw [doV_some l (by decide) (show deedM 12 = some (2, 0) from rfl)]
  unfold doK
  by_cases hbad : (l.length : Int) ≠ 2 ∨ (l.any fun p => !chkV p) = true
  · rw [if_pos hbad]
    exact rdo_err1 12 v l w hR (.inr hbad)
  · rw [if_neg hbad]
    simp only [not_or, Bool.not_eq_true, ne_eq, Decidable.not_not] at hbad
    obtain ⟨hlen, hgood⟩ := hbad
    obtain ⟨va, vb, rfl⟩ := list2V (l := l) (by omega)
    obtain ⟨a, c, rfl, _⟩ := hR.shape
    obtain ⟨bq, oq, e', pr⟩ := pair_of hR
    cases e'
    have hfit : ∀ w, RdN 2 w (.slice (some ⟨bq, oq, none⟩) 2 c) ([va, vb].map rowV) → Calls Try.prog 17 #[.int .u8 12, .slice (some ⟨bq, oq, none⟩) 2 c] w fun e w' => e = .returned (.bool (va.1 == vb.1)) ∧ Below w.heap.size w w' := by
      intro w h
      obtain ⟨_, _, e', pr⟩ := pair_of h
      cases e'
      exact fits12 va vb bq oq c w pr
    have hq : ([va, vb].any fun p => p.1 != (if (0 : Int) = 0 then ([va, vb].getD 0 (0, 0)).1 else 0)) = !(va.1 == vb.1) := by
      rw [if_pos rfl]
      show (va.1 != va.1 || (vb.1 != va.1 || false)) = _
      rw [Bool.or_false]
      unfold bne
      rw [beq_sym vb.1 va.1]
      simp
    cases hf : (va.1 == vb.1)
    · rw [hf] at hfit hq
      rw [hq]
      exact rdo_err7 12 _ _ w hR (by decide) rfl hgood hfit
    · rw [hf] at hfit hq
      rw [hq]
      exact rdo12 va vb bq oq c w _ rfl hR hgood hfit
theorem ref13 (v : Value) (l : List VT) (w : World) (hR : RdN 2 w v (l.map rowV)) : Calls Try.prog 7 #[.int .u8 13, v] w fun e w' => e = .returned (.tuple #[aggV (doV 13 l).1, .int .i64 (doV 13 l).2]) ∧ Below w.heap.size w w' := by
  rw [doV_some l (by decide) (show deedM 13 = some (2, 1) from rfl)]
  unfold doK
  by_cases hbad : (l.length : Int) ≠ 2 ∨ (l.any fun p => !chkV p) = true
  · rw [if_pos hbad]
    exact rdo_err1 13 v l w hR (.inr hbad)
  · rw [if_neg hbad]
    simp only [not_or, Bool.not_eq_true, ne_eq, Decidable.not_not] at hbad
    obtain ⟨hlen, hgood⟩ := hbad
    obtain ⟨va, vb, rfl⟩ := list2V (l := l) (by omega)
    obtain ⟨a, c, rfl, _⟩ := hR.shape
    obtain ⟨bq, oq, e', pr⟩ := pair_of hR
    cases e'
    have hfit : ∀ w, RdN 2 w (.slice (some ⟨bq, oq, none⟩) 2 c) ([va, vb].map rowV) → Calls Try.prog 17 #[.int .u8 13, .slice (some ⟨bq, oq, none⟩) 2 c] w fun e w' => e = .returned (.bool (fitsB 13 [va, vb])) ∧ Below w.heap.size w w' := fun w h => fits13 _ _ w h
    have hq : ([va, vb].any fun p => p.1 != (if (1 : Int) = 0 then ([va, vb].getD 0 (0, 0)).1 else 1)) = !(fitsB 13 [va, vb]) := by
      rw [if_neg (by decide)]
      show _ = !([va, vb].all fun p => p.1 == 1)
      simp only [List.any_cons, List.any_nil, List.all_cons, List.all_nil, bne]
      cases (va.1 == 1) <;> cases (vb.1 == 1) <;> rfl
    cases hf : fitsB 13 [va, vb]
    · rw [hf] at hfit hq
      rw [hq]
      exact rdo_err7 13 _ _ w hR (by decide) rfl hgood hfit
    · rw [hf] at hfit hq
      rw [hq]
      exact rdo13 va vb bq oq c w _ rfl hR hgood hfit
theorem ref14 (v : Value) (l : List VT) (w : World) (hR : RdN 2 w v (l.map rowV)) : Calls Try.prog 7 #[.int .u8 14, v] w fun e w' => e = .returned (.tuple #[aggV (doV 14 l).1, .int .i64 (doV 14 l).2]) ∧ Below w.heap.size w w' := by
  rw [doV_some l (by decide) (show deedM 14 = some (2, 1) from rfl)]
  unfold doK
  by_cases hbad : (l.length : Int) ≠ 2 ∨ (l.any fun p => !chkV p) = true
  · rw [if_pos hbad]
    exact rdo_err1 14 v l w hR (.inr hbad)
  · rw [if_neg hbad]
    simp only [not_or, Bool.not_eq_true, ne_eq, Decidable.not_not] at hbad
    obtain ⟨hlen, hgood⟩ := hbad
    obtain ⟨va, vb, rfl⟩ := list2V (l := l) (by omega)
    obtain ⟨a, c, rfl, _⟩ := hR.shape
    obtain ⟨bq, oq, e', pr⟩ := pair_of hR
    cases e'
    have hfit : ∀ w, RdN 2 w (.slice (some ⟨bq, oq, none⟩) 2 c) ([va, vb].map rowV) → Calls Try.prog 17 #[.int .u8 14, .slice (some ⟨bq, oq, none⟩) 2 c] w fun e w' => e = .returned (.bool (fitsB 14 [va, vb])) ∧ Below w.heap.size w w' := fun w h => fits14 _ _ w h
    have hq : ([va, vb].any fun p => p.1 != (if (1 : Int) = 0 then ([va, vb].getD 0 (0, 0)).1 else 1)) = !(fitsB 14 [va, vb]) := by
      rw [if_neg (by decide)]
      show _ = !([va, vb].all fun p => p.1 == 1)
      simp only [List.any_cons, List.any_nil, List.all_cons, List.all_nil, bne]
      cases (va.1 == 1) <;> cases (vb.1 == 1) <;> rfl
    cases hf : fitsB 14 [va, vb]
    · rw [hf] at hfit hq
      rw [hq]
      exact rdo_err7 14 _ _ w hR (by decide) rfl hgood hfit
    · rw [hf] at hfit hq
      rw [hq]
      exact rdo14 va vb bq oq c w _ rfl hR hgood hfit
theorem ref15 (v : Value) (l : List VT) (w : World) (hR : RdN 2 w v (l.map rowV)) : Calls Try.prog 7 #[.int .u8 15, v] w fun e w' => e = .returned (.tuple #[aggV (doV 15 l).1, .int .i64 (doV 15 l).2]) ∧ Below w.heap.size w w' := by
  rw [doV_some l (by decide) (show deedM 15 = some (2, 2) from rfl)]
  unfold doK
  by_cases hbad : (l.length : Int) ≠ 2 ∨ (l.any fun p => !chkV p) = true
  · rw [if_pos hbad]
    exact rdo_err1 15 v l w hR (.inr hbad)
  · rw [if_neg hbad]
    simp only [not_or, Bool.not_eq_true, ne_eq, Decidable.not_not] at hbad
    obtain ⟨hlen, hgood⟩ := hbad
    obtain ⟨va, vb, rfl⟩ := list2V (l := l) (by omega)
    obtain ⟨a, c, rfl, _⟩ := hR.shape
    obtain ⟨bq, oq, e', pr⟩ := pair_of hR
    cases e'
    have hfit : ∀ w, RdN 2 w (.slice (some ⟨bq, oq, none⟩) 2 c) ([va, vb].map rowV) → Calls Try.prog 17 #[.int .u8 15, .slice (some ⟨bq, oq, none⟩) 2 c] w fun e w' => e = .returned (.bool (fitsB 15 [va, vb])) ∧ Below w.heap.size w w' := fun w h => fits15 _ _ w h
    have hq : ([va, vb].any fun p => p.1 != (if (2 : Int) = 0 then ([va, vb].getD 0 (0, 0)).1 else 2)) = !(fitsB 15 [va, vb]) := by
      rw [if_neg (by decide)]
      show _ = !([va, vb].all fun p => p.1 == 2)
      simp only [List.any_cons, List.any_nil, List.all_cons, List.all_nil, bne]
      cases (va.1 == 2) <;> cases (vb.1 == 2) <;> rfl
    cases hf : fitsB 15 [va, vb]
    · rw [hf] at hfit hq
      rw [hq]
      exact rdo_err7 15 _ _ w hR (by decide) rfl hgood hfit
    · rw [hf] at hfit hq
      rw [hq]
      exact rdo15 va vb bq oq c w _ rfl hR hgood hfit
theorem ref16 (v : Value) (l : List VT) (w : World) (hR : RdN 2 w v (l.map rowV)) : Calls Try.prog 7 #[.int .u8 16, v] w fun e w' => e = .returned (.tuple #[aggV (doV 16 l).1, .int .i64 (doV 16 l).2]) ∧ Below w.heap.size w w' := by
  rw [doV_some l (by decide) (show deedM 16 = some (2, 2) from rfl)]
  unfold doK
  by_cases hbad : (l.length : Int) ≠ 2 ∨ (l.any fun p => !chkV p) = true
  · rw [if_pos hbad]
    exact rdo_err1 16 v l w hR (.inr hbad)
  · rw [if_neg hbad]
    simp only [not_or, Bool.not_eq_true, ne_eq, Decidable.not_not] at hbad
    obtain ⟨hlen, hgood⟩ := hbad
    obtain ⟨va, vb, rfl⟩ := list2V (l := l) (by omega)
    obtain ⟨a, c, rfl, _⟩ := hR.shape
    obtain ⟨bq, oq, e', pr⟩ := pair_of hR
    cases e'
    have hfit : ∀ w, RdN 2 w (.slice (some ⟨bq, oq, none⟩) 2 c) ([va, vb].map rowV) → Calls Try.prog 17 #[.int .u8 16, .slice (some ⟨bq, oq, none⟩) 2 c] w fun e w' => e = .returned (.bool (fitsB 16 [va, vb])) ∧ Below w.heap.size w w' := fun w h => fits16 _ _ w h
    have hq : ([va, vb].any fun p => p.1 != (if (2 : Int) = 0 then ([va, vb].getD 0 (0, 0)).1 else 2)) = !(fitsB 16 [va, vb]) := by
      rw [if_neg (by decide)]
      show _ = !([va, vb].all fun p => p.1 == 2)
      simp only [List.any_cons, List.any_nil, List.all_cons, List.all_nil, bne]
      cases (va.1 == 2) <;> cases (vb.1 == 2) <;> rfl
    cases hf : fitsB 16 [va, vb]
    · rw [hf] at hfit hq
      rw [hq]
      exact rdo_err7 16 _ _ w hR (by decide) rfl hgood hfit
    · rw [hf] at hfit hq
      rw [hq]
      exact rdo16 va vb bq oq c w _ rfl hR hgood hfit
theorem ref17 (v : Value) (l : List VT) (w : World) (hR : RdN 2 w v (l.map rowV)) : Calls Try.prog 7 #[.int .u8 17, v] w fun e w' => e = .returned (.tuple #[aggV (doV 17 l).1, .int .i64 (doV 17 l).2]) ∧ Below w.heap.size w w' := by
  have DV : doV 17 l = if (l.length : Int) ≠ 3 ∨ (l.any fun p => !chkV p) = true then ((0, 0), 1) else chooseV (l.getD 0 (0, 0)) (l.getD 1 (0, 0)) (l.getD 2 (0, 0)) := rfl
  rw [DV]
  by_cases hbad : (l.length : Int) ≠ 3 ∨ (l.any fun p => !chkV p) = true
  · rw [if_pos hbad]
    exact rdo_err1 17 v l w hR (.inr hbad)
  · rw [if_neg hbad]
    simp only [not_or, Bool.not_eq_true, ne_eq, Decidable.not_not] at hbad
    obtain ⟨hlen, hgood⟩ := hbad
    obtain ⟨va, vb, vd, rfl⟩ := list3V (l := l) (by omega)
    obtain ⟨a, c, rfl, _⟩ := hR.shape
    obtain ⟨bq, oq, e', tr⟩ := trip_of hR
    cases e'
    have e3 : chooseV ([va, vb, vd].getD 0 (0, 0)) ([va, vb, vd].getD 1 (0, 0)) ([va, vb, vd].getD 2 (0, 0)) = chooseV va vb vd := rfl
    rw [e3]
    unfold chooseV
    have hfit : ∀ w, RdN 2 w (.slice (some ⟨bq, oq, none⟩) 3 c) ([va, vb, vd].map rowV) → Calls Try.prog 17 #[.int .u8 17, .slice (some ⟨bq, oq, none⟩) 3 c] w fun e w' => e = .returned (.bool (va.1 == 2 && vb.1 == vd.1)) ∧ Below w.heap.size w w' := by
      intro w h
      obtain ⟨_, _, e', tr⟩ := trip_of h
      cases e'
      exact fits17 va vb vd bq oq c w tr
    by_cases hf : va.1 = 2 ∧ vb.1 = vd.1
    · rw [if_pos hf]
      rw [show (va.1 == 2 && vb.1 == vd.1) = true by simp [hf.1, hf.2]] at hfit
      exact rdo17 va vb vd bq oq c w _ rfl hR hgood hfit
    · rw [if_neg hf]
      rw [show (va.1 == 2 && vb.1 == vd.1) = false by
        rw [Bool.eq_false_iff]
        intro h
        simp at h
        exact hf h] at hfit
      exact rdo_err7 17 _ _ w hR (by decide) rfl hgood hfit
theorem rdo_any (o : Int) (v : Value) (l : List VT) (w : World) (hR : RdN 2 w v (l.map rowV)) : Calls Try.prog 7 #[.int .u8 o, v] w fun e w' => e = .returned (.tuple #[aggV (doV o l).1, .int .i64 (doV o l).2]) ∧ Below w.heap.size w w' := by
  have key : (o = 4 ∨ o = 5 ∨ o = 6 ∨ o = 7 ∨ o = 8 ∨ o = 9 ∨ o = 10 ∨ o = 11 ∨ o = 12 ∨ o = 13 ∨ o = 14 ∨ o = 15 ∨ o = 16 ∨ o = 17) ∨ (o < 4 ∨ 17 < o) := by omega
  rcases key with (rfl | rfl | rfl | rfl | rfl | rfl | rfl | rfl | rfl | rfl | rfl | rfl | rfl | rfl) | h
  · exact ref4 v l w hR
  · exact ref5 v l w hR
  · exact ref6 v l w hR
  · exact ref7 v l w hR
  · exact ref8 v l w hR
  · exact ref9 v l w hR
  · exact ref10 v l w hR
  · exact ref11 v l w hR
  · exact ref12 v l w hR
  · exact ref13 v l w hR
  · exact ref14 v l w hR
  · exact ref15 v l w hR
  · exact ref16 v l w hR
  · exact ref17 v l w hR
  · rw [doV_none l (by omega) (deedM_none h)]
    exact rdo_err1 o v l w hR (.inl (by unfold manyI; rw [if_neg (by omega), if_neg (by omega), if_neg (by omega)]))
end Go.Proofs.Ytphlodafdkpedaa
