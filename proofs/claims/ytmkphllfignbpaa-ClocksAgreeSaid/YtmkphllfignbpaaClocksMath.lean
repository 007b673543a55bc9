/-
  Clocks in plain numbers: halves, the middle of readings, how far two middles lie apart. No program in sight.
-/
import Derived.WalkKit
namespace Go.Proofs.Ytmkphllfignbpaa
open Go

/-- Whole, toward the lesser (as the machine writes it). -/
def byI (a b : Int) : Int := if a.tmod b < 0 then a.tdiv b - 1 else a.tdiv b
theorem byI_eq (a b : Int) (hb : 0 < b) : byI a b = a / b := by
  unfold byI
  have h1 := Int.mul_tdiv_add_tmod a b
  have h2 := Int.tmod_lt_of_pos a hb
  by_cases h : a.tmod b < 0
  · rw [if_pos h]
    have h3 : -b < a.tmod b := by
      have := Int.lt_tmod_of_pos a hb
      omega
    symm
    rw [Int.ediv_eq_iff_of_pos hb]
    constructor
    · rw [Int.sub_mul, Int.mul_comm (a.tdiv b) b]; omega
    · rw [Int.sub_mul, Int.mul_comm (a.tdiv b) b]; omega
  · rw [if_neg h]
    symm
    rw [Int.ediv_eq_iff_of_pos hb]
    constructor
    · rw [Int.mul_comm]; omega
    · rw [Int.mul_comm]; omega
def smallB (n : Int) : Bool := decide (-1099511627776 ≤ n) && decide (n ≤ 1099511627776)
theorem smallB_iff (n : Int) : smallB n = true ↔ -1099511627776 ≤ n ∧ n ≤ 1099511627776 := by simp [smallB]
theorem smallB_not (n : Int) : smallB n = false ↔ ¬ (-1099511627776 ≤ n ∧ n ≤ 1099511627776) := by
  rw [← smallB_iff]
  simp

/-- In order, as the machine's sort leaves them. -/
def srt (l : List Int) : List Int := l.mergeSort fun x y => decide (x ≤ y)
theorem srt_len (l : List Int) : (srt l).length = l.length := List.length_mergeSort l
theorem srt_perm (l : List Int) : (srt l).Perm l := List.mergeSort_perm l _
theorem srt_pair (l : List Int) : (srt l).Pairwise (fun x y => x ≤ y) := by
  have h := List.pairwise_mergeSort (le := fun x y : Int => decide (x ≤ y)) (fun a b c h1 h2 => by simp at *; omega) (fun a b => by simp; omega) l
  exact h.imp (by simp)
theorem srt_mem {l : List Int} {x : Int} : x ∈ srt l ↔ x ∈ l := (srt_perm l).mem_iff
/-- There is but one list in order. -/
theorem srt_uniq (l s : List Int) (hp : s.Perm l) (hs : s.Pairwise (fun x y => x ≤ y)) : s = srt l :=
  (hp.trans (srt_perm l).symm).eq_of_pairwise (fun a b _ _ h1 h2 => by omega) hs (srt_pair l)

theorem srt_le (l : List Int) (i j : Nat) (hij : i ≤ j) (hj : j < (srt l).length) : (srt l)[i]'(by omega) ≤ (srt l)[j] := by
  rcases Nat.lt_or_eq_of_le hij with h | h
  · exact List.pairwise_iff_getElem.1 (srt_pair l) i j _ hj h
  · subst h; exact Int.le_refl _
/-- The k-th is at most x just if more than k are. -/
theorem srt_count (l : List Int) (k : Nat) (hk : k < (srt l).length) (x : Int) : (srt l)[k] ≤ x ↔ k < l.countP (fun y => decide (y ≤ x)) := by
  have hc : l.countP (fun y => decide (y ≤ x)) = (srt l).countP (fun y => decide (y ≤ x)) := ((srt_perm l).countP_eq _).symm
  rw [hc]
  constructor
  · intro h
    have h1 : (srt l) = (srt l).take (k + 1) ++ (srt l).drop (k + 1) := (List.take_append_drop _ _).symm
    rw [h1, List.countP_append]
    have h2 : ((srt l).take (k + 1)).countP (fun y => decide (y ≤ x)) = ((srt l).take (k + 1)).length := by
      rw [List.countP_eq_length]
      intro y hy
      obtain ⟨i, hi, rfl⟩ := List.getElem_of_mem hy
      rw [List.length_take] at hi
      rw [List.getElem_take]
      have := srt_le l i k (by omega) hk
      simp
      omega
    rw [h2, List.length_take]
    omega
  · intro h
    by_cases hx : (srt l)[k] ≤ x
    · exact hx
    · exfalso
      have h1 : (srt l) = (srt l).take k ++ (srt l).drop k := (List.take_append_drop _ _).symm
      rw [h1, List.countP_append] at h
      have h2 : ((srt l).drop k).countP (fun y => decide (y ≤ x)) = 0 := by
        rw [List.countP_eq_zero]
        intro y hy
        obtain ⟨i, hi, rfl⟩ := List.getElem_of_mem hy
        rw [List.length_drop] at hi
        rw [List.getElem_drop]
        have := srt_le l k (k + i) (by omega) (by omega)
        simp
        omega
      have h3 : ((srt l).take k).countP (fun y => decide (y ≤ x)) ≤ k := Nat.le_trans List.countP_le_length (List.length_take_le _ _)
      omega

/-- The middle: without so many of the lowest, and of the highest. -/
def midI (l : List Int) (bad : Nat) : Int := ((srt l).getD bad 0 + (srt l).getD (l.length - 1 - bad) 0) / 2

/-- Places in a list that are among a few. -/
theorem countP_or {α : Type} (R : List α) (p q : α → Bool) : R.countP (fun i => p i || q i) ≤ R.countP p + R.countP q := by
  induction R with
  | nil => simp
  | cons a R ih =>
    simp only [List.countP_cons]
    cases p a <;> cases q a <;> simp <;> omega
theorem count_few (W : List Nat) (n : Nat) : (List.range n).countP (fun i => decide (i ∈ W)) ≤ W.length := by
  induction W with
  | nil => simp
  | cons w W ih =>
    have h1 := countP_or (List.range n) (fun i => i == w) (fun i => decide (i ∈ W))
    have h2 : (List.range n).countP (fun i => i == w) ≤ 1 := List.nodup_iff_count.1 List.nodup_range w
    have h3 : (fun i => decide (i ∈ w :: W)) = fun i => (i == w) || decide (i ∈ W) := by
      funext i
      rw [Bool.eq_iff_iff]
      simp
    rw [h3, List.length_cons]
    omega
theorem countP_range (l : List Int) (p : Int → Bool) : l.countP p = (List.range l.length).countP (fun i => p (l.getD i 0)) := by
  have : l = (List.range l.length).map (fun i => l.getD i 0) := by
    apply List.ext_getElem
    · simp
    · intro i h1 h2
      simp [h1]
  conv => lhs; rw [this]
  rw [List.countP_map]
  rfl
/-- What holds at all places but a few. -/
theorem count_most (W : List Nat) (n : Nat) (p : Nat → Bool) (h : ∀ i, i < n → i ∉ W → p i = true) : n ≤ (List.range n).countP p + W.length := by
  have h1 := count_few W n
  have h2 : (List.range n).countP (fun i => !decide (i ∈ W)) ≤ (List.range n).countP p := by
    apply List.countP_mono_left
    intro i hi hw
    exact h i (List.mem_range.1 hi) (by simpa using hw)
  have h3 := List.length_eq_countP_add_countP (fun i => decide (i ∈ W)) (l := List.range n)
  rw [List.length_range] at h3
  simp only [Bool.not_eq_true] at h3
  have h4 : (List.range n).countP (fun a => decide (decide (a ∈ W) = false)) = (List.range n).countP (fun i => !decide (i ∈ W)) := by
    congr 1
    funext a
    by_cases ha : a ∈ W <;> simp [ha]
  omega
theorem count_none (W : List Nat) (n : Nat) (p : Nat → Bool) (h : ∀ i, i < n → i ∉ W → p i = false) : (List.range n).countP p ≤ W.length := by
  refine Nat.le_trans ?_ (count_few W n)
  apply List.countP_mono_left
  intro i hi hp
  by_cases hw : i ∈ W
  · simpa using hw
  · rw [h i (List.mem_range.1 hi) hw] at hp
    cases hp

/-- Two lists, place by place, all but a few of which are right: how far the middles lie apart. -/
theorem mid_agree (A B : List Int) (W : List Nat) (bad : Nat) (low high off : Int) (hl : B.length = A.length) (hb : 3 * bad < A.length) (hw : W.length ≤ bad)
    (h1 : ∀ i, i < A.length → i ∉ W → low ≤ A.getD i 0 ∧ A.getD i 0 ≤ high ∧ A.getD i 0 - B.getD i 0 ≤ off ∧ B.getD i 0 - A.getD i 0 ≤ off) :
    low ≤ midI A bad ∧ midI A bad ≤ high ∧ midI A bad - midI B bad ≤ (high - low) / 2 + off + 1 ∧ midI B bad - midI A bad ≤ (high - low) / 2 + off + 1 := by
  have lA := srt_len A
  have lB := srt_len B
  have e1 : (srt A).getD bad 0 = (srt A)[bad]'(by omega) := by simp [List.getD_eq_getElem?_getD, show bad < (srt A).length by omega]
  have e2 : (srt A).getD (A.length - 1 - bad) 0 = (srt A)[A.length - 1 - bad]'(by omega) := by simp [List.getD_eq_getElem?_getD, show A.length - 1 - bad < (srt A).length by omega]
  have e3 : (srt B).getD bad 0 = (srt B)[bad]'(by omega) := by simp [List.getD_eq_getElem?_getD, show bad < (srt B).length by omega]
  have e4 : (srt B).getD (B.length - 1 - bad) 0 = (srt B)[B.length - 1 - bad]'(by omega) := by simp [List.getD_eq_getElem?_getD, show B.length - 1 - bad < (srt B).length by omega]
  -- counts
  have cle : ∀ (L : List Int), L.length = A.length → ∀ x : Int, (∀ i, i < A.length → i ∉ W → L.getD i 0 ≤ x) → A.length ≤ L.countP (fun y => decide (y ≤ x)) + W.length := by
    intro L hL x hx
    rw [countP_range, hL]
    exact count_most W _ _ fun i hi hw => by simpa using hx i hi hw
  have cgt : ∀ (L : List Int), L.length = A.length → ∀ x : Int, (∀ i, i < A.length → i ∉ W → x < L.getD i 0) → L.countP (fun y => decide (y ≤ x)) ≤ W.length := by
    intro L hL x hx
    rw [countP_range, hL]
    exact count_none W _ _ fun i hi hw => by simpa using hx i hi hw
  have cmv : ∀ (L M : List Int), L.length = A.length → M.length = A.length → (∀ i, i < A.length → i ∉ W → M.getD i 0 ≤ L.getD i 0 + off) → ∀ x : Int, L.countP (fun y => decide (y ≤ x)) ≤ M.countP (fun y => decide (y ≤ x + off)) + W.length := by
    intro L M hL hM hx x
    rw [countP_range L, countP_range M, hL, hM]
    have hf := count_few W A.length
    have : (List.range A.length).countP (fun i => decide (L.getD i 0 ≤ x)) ≤ (List.range A.length).countP (fun i => decide (M.getD i 0 ≤ x + off) || decide (i ∈ W)) := by
      apply List.countP_mono_left
      intro i hi hp
      by_cases hw : i ∈ W
      · simp [hw]
      · have := hx i (List.mem_range.1 hi) hw
        have hp' : L.getD i 0 ≤ x := of_decide_eq_true hp
        have : decide (M.getD i 0 ≤ x + off) = true := decide_eq_true (by omega)
        rw [this]
        rfl
    have h2 := countP_or (List.range A.length) (fun i => decide (M.getD i 0 ≤ x + off)) (fun i => decide (i ∈ W))
    omega
  -- the order statistics
  have lowk : ∀ (L : List Int) (hL : L.length = A.length) (x : Int), (∀ i, i < A.length → i ∉ W → x ≤ L.getD i 0) → ∀ k (hk : k < (srt L).length), bad ≤ k → x ≤ (srt L)[k] := by
    intro L hL x hx k hk hbk
    have hc := cgt L hL (x - 1) fun i hi hw => by have := hx i hi hw; omega
    have := (srt_count L k hk (x - 1)).1
    by_cases h : (srt L)[k] ≤ x - 1
    · have := this h
      omega
    · omega
  have highk : ∀ (L : List Int) (hL : L.length = A.length) (x : Int), (∀ i, i < A.length → i ∉ W → L.getD i 0 ≤ x) → ∀ k (hk : k < (srt L).length), k + bad < A.length → (srt L)[k] ≤ x := by
    intro L hL x hx k hk hbk
    have hc := cle L hL x hx
    exact (srt_count L k hk x).2 (by omega)
  have cross : ∀ (L M : List Int) (hL : L.length = A.length) (hM : M.length = A.length), (∀ i, i < A.length → i ∉ W → M.getD i 0 ≤ L.getD i 0 + off) → ∀ (h1 : bad < (srt M).length) (h2 : A.length - 1 - bad < (srt L).length), (srt M)[bad] ≤ (srt L)[A.length - 1 - bad] + off := by
    intro L M hL hM hx k1 k2
    have hc := cmv L M hL hM hx ((srt L)[A.length - 1 - bad])
    have := (srt_count L (A.length - 1 - bad) k2 _).1 (Int.le_refl _)
    exact (srt_count M bad k1 _).2 (by omega)
  have a1 := lowk A rfl low (fun i hi hw => (h1 i hi hw).1) bad (by omega) (Nat.le_refl _)
  have a2 := lowk A rfl low (fun i hi hw => (h1 i hi hw).1) (A.length - 1 - bad) (by omega) (by omega)
  have a3 := highk A rfl high (fun i hi hw => (h1 i hi hw).2.1) bad (by omega) (by omega)
  have a4 := highk A rfl high (fun i hi hw => (h1 i hi hw).2.1) (A.length - 1 - bad) (by omega) (by omega)
  have b1 := lowk B hl (low - off) (fun i hi hw => by have := h1 i hi hw; omega) bad (by omega) (Nat.le_refl _)
  have b4 := highk B hl (high + off) (fun i hi hw => by have := h1 i hi hw; omega) (A.length - 1 - bad) (by omega) (by omega)
  have c1 := cross B A hl rfl (fun i hi hw => by have := h1 i hi hw; omega) (by omega) (by omega)
  have c2 := cross A B rfl hl (fun i hi hw => by have := h1 i hi hw; omega) (by omega) (by omega)
  unfold midI
  rw [e1, e2, e3, e4]
  simp only [hl]
  omega

/-- What a clock shows. -/
def faceI (f g u t : Int) : Int := f + t + byI (t * g) 1000000 + u
theorem prod_in {t g : Int} (h0 : -1 ≤ t) (h1 : t ≤ 1099511627776) (h2 : -100000 ≤ g) (h3 : g ≤ 100000) : -109951162777600000 ≤ t * g ∧ t * g ≤ 109951162777600000 := by
  have a : t * g ≤ 1099511627776 * 100000 := by
    rcases Int.le_total 0 t with ht | ht
    · exact Int.le_trans (Int.mul_le_mul_of_nonneg_left h3 ht) (Int.mul_le_mul_of_nonneg_right h1 (by omega))
    · have : t * g = (-t) * (-g) := by rw [Int.neg_mul_neg]
      rw [this]
      exact Int.le_trans (Int.mul_le_mul_of_nonneg_left (show -g ≤ 100000 by omega) (by omega)) (Int.mul_le_mul_of_nonneg_right (by omega) (by omega))
  have b : -(t * g) ≤ 1099511627776 * 100000 := by
    rw [← Int.mul_neg]
    rcases Int.le_total 0 t with ht | ht
    · exact Int.le_trans (Int.mul_le_mul_of_nonneg_left (show -g ≤ 100000 by omega) ht) (Int.mul_le_mul_of_nonneg_right h1 (by omega))
    · have : t * -g = (-t) * g := by rw [Int.mul_neg, Int.neg_mul]
      rw [this]
      exact Int.le_trans (Int.mul_le_mul_of_nonneg_left h3 (by omega)) (Int.mul_le_mul_of_nonneg_right (by omega) (by omega))
  omega
theorem byI_in {a b : Int} (hb : 0 < b) (h0 : -109951162777600000 ≤ a) (h1 : a ≤ 109951162777600000) : -109951162777600000 ≤ byI a b ∧ byI a b ≤ 109951162777600000 := by
  rw [byI_eq a b hb]
  constructor
  · rw [Int.le_ediv_iff_mul_le hb]
    have : (-109951162777600000 : Int) * b ≤ -109951162777600000 * 1 := Int.mul_le_mul_of_nonpos_left (by omega) (by omega)
    omega
  · rcases Int.le_total 0 a with h | h
    · exact Int.le_trans (Int.ediv_le_self b h) h1
    · have : a / b ≤ 0 := by
        have := Int.ediv_le_ediv hb h
        simpa using this
      omega
theorem face_mono {f g u s t : Int} (h2 : -100000 ≤ g) (h3 : g ≤ 100000) (h : s ≤ t) : faceI f g u s ≤ faceI f g u t := by
  unfold faceI
  rw [byI_eq _ _ (by omega), byI_eq _ _ (by omega)]
  have e : s * g + (-(t - s)) * 1000000 ≤ t * g := by
    have h4 : (t - s) * (-1000000) ≤ (t - s) * g := Int.mul_le_mul_of_nonneg_left (by omega) (by omega)
    rw [Int.sub_mul t s g] at h4
    omega
  have e2 := Int.ediv_le_ediv (show (0 : Int) < 1000000 by omega) e
  rw [Int.add_mul_ediv_right _ _ (by omega)] at e2
  omega
/-- The first tick at which it shows so much. -/
structure WhenI (f g u shows t : Int) : Prop where
  lo : 0 ≤ t
  hi : t ≤ 1099511627776
  yes : shows ≤ faceI f g u t
  no : t = 0 ∨ faceI f g u (t - 1) < shows
theorem WhenI.one {f g u shows s t : Int} (h2 : -100000 ≤ g) (h3 : g ≤ 100000) (a : WhenI f g u shows s) (b : WhenI f g u shows t) : s = t := by
  have key : ∀ {s t : Int}, WhenI f g u shows s → WhenI f g u shows t → ¬ s < t := by
    intro s t a b h
    rcases b.no with h0 | h0
    · have := a.lo
      omega
    · have := face_mono (f := f) (u := u) h2 h3 (show s ≤ t - 1 by omega)
      have := a.yes
      omega
  have := key a b
  have := key b a
  omega
theorem face_zero (f g u : Int) : faceI f g u 0 = f + u := by simp [faceI, byI]
theorem face_off (f g u v t : Int) : faceI f g (u + v) t = faceI f g u t + v := by unfold faceI; omega
end Go.Proofs.Ytmkphllfignbpaa
