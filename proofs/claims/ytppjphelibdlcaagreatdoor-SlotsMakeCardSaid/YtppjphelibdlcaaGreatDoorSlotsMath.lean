/-
  Slots in plain numbers: what may be, by how much clocks differ, a guard's table. No program in sight.
-/
import Derived.WalkKit
namespace Go.Proofs.YtppjphelibdlcaaGreatDoor
open Go

def wB (n l m : Int) : Bool := decide (l ≤ n) && decide (n ≤ m)
theorem wB_iff (n l m : Int) : wB n l m = true ↔ l ≤ n ∧ n ≤ m := by simp [wB]
theorem wB_not (n l m : Int) : wB n l m = false ↔ ¬ (l ≤ n ∧ n ≤ m) := by
  rw [← wB_iff]
  simp

/-- May a setup be? -/
def chkB (bit near far drift bad : Int) : Bool := wB bit 1 1000000 && (wB far 0 1000000 && (wB near 0 far && (wB drift 0 10000 && wB bad 0 2)))
theorem chkB_iff (bit near far drift bad : Int) : chkB bit near far drift bad = true ↔
    (1 ≤ bit ∧ bit ≤ 1000000) ∧ (0 ≤ far ∧ far ≤ 1000000) ∧ (0 ≤ near ∧ near ≤ far) ∧ (0 ≤ drift ∧ drift ≤ 10000) ∧ (0 ≤ bad ∧ bad ≤ 2) := by
  simp only [chkB, Bool.and_eq_true, wB_iff]

/-- By how much clocks may differ. -/
def skI (near far drift round : Int) : Int := 4 * (far - near) + 8 + 8 * ((drift * round + 999999) / 1000000)
def skewI (bit near far drift bad round : Int) : Int := if chkB bit near far drift bad && wB round 0 1099511627776 then skI near far drift round else 0

/-- May frames be of so many bits? -/
def mayB (bit near far drift bad : Int) (l : List Int) : Bool := chkB bit near far drift bad && (wB l.length (max 1 (3 * bad + 1)) 8 && l.all fun n => wB n 1 100000)
theorem mayB_iff (bit near far drift bad : Int) (l : List Int) : mayB bit near far drift bad l = true ↔
    chkB bit near far drift bad = true ∧ (max 1 (3 * bad + 1) ≤ (l.length : Int) ∧ (l.length : Int) ≤ 8) ∧ ∀ n ∈ l, 1 ≤ n ∧ n ≤ 100000 := by
  simp only [mayB, Bool.and_eq_true, wB_iff, List.all_eq_true]

theorem drift_in {drift round : Int} (h0 : 0 ≤ drift) (h1 : drift ≤ 10000) (h2 : 0 ≤ round) (h3 : round ≤ 1099511627776) : 0 ≤ drift * round ∧ drift * round ≤ 10995116277760000 := by
  refine ⟨Int.mul_nonneg h0 h2, ?_⟩
  have a := Int.mul_le_mul_of_nonneg_right h1 h2
  have b := Int.mul_le_mul_of_nonneg_left h3 (show (0 : Int) ≤ 10000 by decide)
  omega
theorem skI_in {near far drift round : Int} (hn : 0 ≤ near) (hf : near ≤ far) (hm : far ≤ 1000000) (h0 : 0 ≤ drift) (h1 : drift ≤ 10000) (h2 : 0 ≤ round) (h3 : round ≤ 1099511627776) :
    8 ≤ skI near far drift round ∧ skI near far drift round ≤ 87964934223 := by
  have h := drift_in h0 h1 h2 h3
  unfold skI
  generalize drift * round = p at h
  omega
theorem skI_mono {near far drift r r' near' far' drift' : Int} (he : far - near ≤ far' - near') (h0 : 0 ≤ drift) (hd : drift ≤ drift') (h2 : 0 ≤ r) (hr : r ≤ r') : skI near far drift r ≤ skI near' far' drift' r' := by
  have a := Int.mul_le_mul_of_nonneg_right hd h2
  have b := Int.mul_le_mul_of_nonneg_left hr (show 0 ≤ drift' by omega)
  unfold skI
  generalize drift * r = p at *
  generalize drift' * r = q at *
  generalize drift' * r' = s at *
  omega

/-- How long a frame's slot is, by a guard; all slots. -/
def slot1 (bit far g n : Int) : Int := g + n * bit + far + g
def sumS (bit far g : Int) : List Int → Int
  | [] => 0
  | n :: l => slot1 bit far g n + sumS bit far g l
/-- The slots' ticks from at on. -/
def rowsS (bit far g : Int) : Int → List Int → List (Int × Int × Int)
  | _, [] => []
  | a, n :: l => (a, a + g, a + slot1 bit far g n) :: rowsS bit far g (a + slot1 bit far g n) l
theorem rowsS_len (bit far g : Int) (l : List Int) (a : Int) : (rowsS bit far g a l).length = l.length := by
  induction l generalizing a with
  | nil => rfl
  | cons n l ih => simp [rowsS, ih]
theorem sumS_append (bit far g : Int) (l m : List Int) : sumS bit far g (l ++ m) = sumS bit far g l + sumS bit far g m := by
  induction l with
  | nil => simp [sumS]
  | cons n l ih => simp only [List.cons_append, sumS, ih]; omega
theorem rowsS_append (bit far g : Int) (l m : List Int) (a : Int) : rowsS bit far g a (l ++ m) = rowsS bit far g a l ++ rowsS bit far g (a + sumS bit far g l) m := by
  induction l generalizing a with
  | nil => simp [rowsS, sumS]
  | cons n l ih =>
    simp only [List.cons_append, rowsS, sumS, ih]
    rw [Int.add_assoc]
theorem slot1_in {bit n : Int} (hb0 : 1 ≤ bit) (hb1 : bit ≤ 1000000) (hn0 : 1 ≤ n) (hn1 : n ≤ 100000) :
    1 ≤ n * bit ∧ n * bit ≤ 100000000000 := by
  have a := Int.mul_le_mul_of_nonneg_right hn1 (show 0 ≤ bit by omega)
  have b := Int.mul_le_mul_of_nonneg_left hb1 (show (0 : Int) ≤ 100000 by decide)
  have c := Int.mul_le_mul_of_nonneg_right hn0 (show 0 ≤ bit by omega)
  omega
theorem sumS_in {bit far g : Int} (l : List Int) (hb0 : 1 ≤ bit) (hb1 : bit ≤ 1000000) (hf0 : 0 ≤ far) (hf1 : far ≤ 1000000) (hg0 : 0 ≤ g) (hl : ∀ n ∈ l, 1 ≤ n ∧ n ≤ 100000) :
    0 ≤ sumS bit far g l ∧ sumS bit far g l ≤ l.length * (100001000000 + 2 * g) := by
  induction l with
  | nil => simp [sumS]
  | cons n l ih =>
    have h1 := ih fun x hx => hl x (by simp [hx])
    have h2 := hl n (by simp)
    have h3 := slot1_in hb0 hb1 h2.1 h2.2
    have e : ((n :: l).length : Int) * (100001000000 + 2 * g) = l.length * (100001000000 + 2 * g) + (100001000000 + 2 * g) := by
      rw [List.length_cons]
      simp only [Int.natCast_add, Int.add_mul]
      omega
    rw [e]
    simp only [sumS, slot1]
    generalize (l.length : Int) * (100001000000 + 2 * g) = q at *
    omega
theorem sum_8 {bit far g : Int} (l : List Int) (hb0 : 1 ≤ bit) (hb1 : bit ≤ 1000000) (hf0 : 0 ≤ far) (hf1 : far ≤ 1000000) (hg0 : 0 ≤ g) (hg1 : g ≤ 1073741824) (h8 : l.length ≤ 8) (hl : ∀ n ∈ l, 1 ≤ n ∧ n ≤ 100000) :
    0 ≤ sumS bit far g l ∧ sumS bit far g l ≤ 817187869184 := by
  obtain ⟨h1, h2⟩ := sumS_in l hb0 hb1 hf0 hf1 hg0 hl
  have h3 := Int.mul_le_mul_of_nonneg_right (show (l.length : Int) ≤ 8 by omega) (show 0 ≤ 100001000000 + 2 * g by omega)
  generalize (l.length : Int) * (100001000000 + 2 * g) = q at *
  omega
theorem sumS_snoc (bit far g : Int) (l : List Int) (k : Nat) (hk : k < l.length) : sumS bit far g (l.take (k + 1)) = sumS bit far g (l.take k) + slot1 bit far g l[k] := by
  rw [List.take_succ_eq_append_getElem hk, sumS_append]
  simp [sumS]
theorem rowsS_snoc (bit far g : Int) (l : List Int) (k : Nat) (hk : k < l.length) : rowsS bit far g 0 (l.take (k + 1)) = rowsS bit far g 0 (l.take k) ++ [(sumS bit far g (l.take k), sumS bit far g (l.take k) + g, sumS bit far g (l.take k) + slot1 bit far g l[k])] := by
  rw [List.take_succ_eq_append_getElem hk, rowsS_append]
  simp [rowsS]
theorem sumS_mono {bit far g g' : Int} (l : List Int) (h : g ≤ g') : sumS bit far g l ≤ sumS bit far g' l := by
  induction l with
  | nil => simp [sumS]
  | cons n l ih =>
    simp only [sumS, slot1]
    omega
/-- Do slots fit, one behind the other? The tick at which the last one ends. -/
def okS (bit far g a n : Int) (x : Int × Int × Int) : Bool := wB x.1 a 1125899906842624 && (wB x.2.1 (x.1 + g) 1125899906842624 && wB x.2.2 (x.2.1 + n * bit + far + g) 1125899906842624)
def fitL (bit far g : Int) : Int → List (Int × Int × Int) → List Int → Option Int
  | a, x :: rs, n :: l => if okS bit far g a n x then fitL bit far g x.2.2 rs l else none
  | a, _, _ => some a
def fitsB (bit near far drift bad : Int) (l : List Int) (rs : List (Int × Int × Int)) (r g : Int) : Bool :=
  mayB bit near far drift bad l && (decide (rs.length = l.length) && (wB r 0 1099511627776 && (wB g (skewI bit near far drift bad r) 1125899906842624 &&
    (fitL bit far g 0 rs l).any fun a => decide (a ≤ r))))
theorem fitL_append (bit far g : Int) (r1 : List (Int × Int × Int)) (l1 : List Int) (r2 : List (Int × Int × Int)) (l2 : List Int) (h : r1.length = l1.length) (a : Int) :
    fitL bit far g a (r1 ++ r2) (l1 ++ l2) = (fitL bit far g a r1 l1).bind fun b => fitL bit far g b r2 l2 := by
  induction r1 generalizing l1 a with
  | nil =>
    cases l1 with
    | nil => rfl
    | cons n l1 => cases h
  | cons x r1 ih =>
    cases l1 with
    | nil => cases h
    | cons n l1 =>
      simp only [List.cons_append, fitL]
      split
      · exact ih l1 (by simpa using h) _
      · rfl
theorem fitL_snoc (bit far g a : Int) (rs : List (Int × Int × Int)) (l : List Int) (k : Nat) (h : rs.length = l.length) (hk : k < l.length) :
    fitL bit far g a (rs.take (k + 1)) (l.take (k + 1)) = (fitL bit far g a (rs.take k) (l.take k)).bind fun b => if okS bit far g b l[k] (rs[k]'(by omega)) then some (rs[k]'(by omega)).2.2 else none := by
  have e1 : rs.take (k + 1) = rs.take k ++ [rs[k]'(by omega)] := by rw [List.take_succ_eq_append_getElem (by omega)]
  have e2 : l.take (k + 1) = l.take k ++ [l[k]] := by rw [List.take_succ_eq_append_getElem hk]
  rw [e1, e2, fitL_append _ _ _ _ _ _ _ (by rw [List.length_take, List.length_take]; omega)]
  rfl
theorem fitL_none (bit far g a : Int) (rs : List (Int × Int × Int)) (l : List Int) (k : Nat) (h : rs.length = l.length) (hk : k ≤ l.length) (hn : fitL bit far g a (rs.take k) (l.take k) = none) : fitL bit far g a rs l = none := by
  have e := fitL_append bit far g (rs.take k) (l.take k) (rs.drop k) (l.drop k) (by rw [List.length_take, List.length_take]; omega) a
  rw [List.take_append_drop, List.take_append_drop, hn] at e
  exact e
end Go.Proofs.YtppjphelibdlcaaGreatDoor
