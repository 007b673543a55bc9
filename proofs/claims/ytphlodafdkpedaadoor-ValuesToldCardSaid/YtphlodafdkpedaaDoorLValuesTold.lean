/-
  The walk of belfrylaw11.ValuesTold.
-/
import Derived.Test.YtphlodafdkpedaaDoorToldEnd
import Derived.Test.YtphlodafdkpedaaDoorToldWalk
namespace Go.Proofs.YtphlodafdkpedaaDoor
open Go.RowKit
open Go

theorem text_num (n : Int) (h0 : -9223372036854775808 ≤ n) (h1 : n ≤ 9223372036854775807) : ∀ w, Tab w → Calls Tryd.prog 12 #[.agg #[.int .u8 1, .int .i64 n]] w fun e w' => e = .returned (.string (txt n)) ∧ Below w.heap.size w w' :=
  fun w h => text_any (1, n) h0 h1 w h
theorem txt_ne (n : Int) : (txt n).toList.isEmpty = false := by
  rw [toList_txt]
  exact List.isEmpty_eq_false_iff.2 (itoa_ne n)
theorem txt_le (n : Int) (h0 : -9223372036854775808 ≤ n) (h1 : n ≤ 9223372036854775807) : (txt n).size ≤ 21 := by
  rw [txt_size]
  exact Lib.itoa_length_le n h0 h1
theorem get_pos (u k : Nat) (h : k < (txt (u : Int)).size) : ∃ h' : k < (Lib.decDigits u).length, (txt (u : Int))[k] = (Lib.decDigits u)[k] := by
  obtain ⟨h1, e⟩ := txt_get _ k h
  have e2 := Lib.itoa_nonneg u
  refine ⟨by rw [← e2]; exact h1, e.trans ?_⟩
  simp only [e2]
theorem get_neg (u k : Nat) (hu : 1 ≤ u) (h : k + 1 < (txt (-(u : Int))).size) : ∃ h' : k < (Lib.decDigits u).length, (txt (-(u : Int)))[k + 1] = (Lib.decDigits u)[k] := by
  obtain ⟨h1, e⟩ := txt_get _ (k + 1) h
  have e2 := Lib.itoa_neg u hu
  refine ⟨by rw [e2] at h1; simpa using h1, e.trans ?_⟩
  simp only [e2, List.getElem_cons_succ]
theorem get_neg0 (u : Nat) (hu : 1 ≤ u) (h : 0 < (txt (-(u : Int))).size) : (txt (-(u : Int)))[0] = 45 := by
  obtain ⟨h1, e⟩ := txt_get _ 0 h
  have e2 := Lib.itoa_neg u hu
  refine e.trans ?_
  simp only [e2, List.getElem_cons_zero]
theorem walk_ValuesTold (v0 v1 : Value) (W : World) (A0 : Arg Tryd.prog 2 W v0) (A1 : Arg Tryd.prog 2 W v1) (ht : Tab W) :
    Calls Tryd.prog 8 #[v0, v1] W fun e w' => e = .returned (.bool true) ∧ Below W.heap.size W w' := by
  obtain ⟨a, rfl, fa⟩ := A0.int Tryd.underlying2
  obtain ⟨b, rfl, fb⟩ := A1.int Tryd.underlying2
  obtain ⟨a0, a1⟩ := bounds_i64 fa
  obtain ⟨b0, b1⟩ := bounds_i64 fb
  rcases (show a < 0 ∨ 0 ≤ a by omega) with ha | ha
  · obtain ⟨u, hu⟩ := Int.eq_ofNat_of_zero_le (show 0 ≤ -a by omega)
    obtain rfl : a = -(u : Int) := by omega
    have hu1 : 1 ≤ u := by omega
    refine told_walk _ b (txt (-(u : Int))) (txt b) W ht (txt_le _ a0 a1) (txt_ne _) (fun k => runU (Lib.decDigits u) (k - 1)) rfl (fun _ => rfl) ?_ (fun k => runU_b _ _) ?_ ?_ (txt_eq _ _) ?_ (text_num _ a0 a1) (text_num _ b0 b1)
    · intro k h h48
      cases k with
      | zero =>
        rw [get_neg0 u hu1 h] at h48
        exact absurd h48 (by decide)
      | succ k =>
        obtain ⟨h', e⟩ := get_neg u k hu1 h
        rw [e] at h48 ⊢
        exact runU_step _ k h' h48
    · intro _
      have h : 0 < (txt (-(u : Int))).size := by rw [txt_size, Lib.itoa_neg u hu1]; simp
      exact ⟨h, by rw [get_neg0 u hu1 h]; rfl⟩
    · rw [if_pos ha]
      have e : (txt (-(u : Int))).size - 1 = (Lib.decDigits u).length := by rw [txt_size, Lib.itoa_neg u hu1]; simp
      simp only [e]
      rw [runU_all u (by omega), IntKind.wrap_u64, IntKind.wrap_i64]
      omega
    · intro k h
      cases k with
      | zero => exact .inl ⟨rfl, ha, by rw [get_neg0 u hu1 h]; rfl⟩
      | succ k =>
        obtain ⟨h', e⟩ := get_neg u k hu1 h
        rw [e]
        have := dec_at u k h'
        refine .inr ⟨this.1, this.2, fun h48 => .inr ⟨by omega, fun hk => ?_⟩⟩
        obtain rfl : k = 0 := by omega
        exact absurd (show (Lib.decDigits u)[0].toNat = 48 by omega) (dec_first u hu1 h')
  · obtain ⟨u, hu⟩ := Int.eq_ofNat_of_zero_le ha
    obtain rfl : a = (u : Int) := by omega
    have hn : ¬ (u : Int) < 0 := by omega
    refine told_walk _ b (txt (u : Int)) (txt b) W ht (txt_le _ a0 a1) (txt_ne _) (fun k => runU (Lib.decDigits u) k) rfl (fun h => absurd h hn) ?_ (fun k => runU_b _ _) (fun h => absurd h hn) ?_ (txt_eq _ _) ?_ (text_num _ a0 a1) (text_num _ b0 b1)
    · intro k h h48
      obtain ⟨h', e⟩ := get_pos u k h
      exact (runU_step _ k h' (Eq.subst (motive := fun x : UInt8 => 48 ≤ (x.toNat : Int)) e h48)).trans (congrArg (fun x : UInt8 => IntKind.u64.wrap (IntKind.u64.wrap (10 * runU (Lib.decDigits u) k) + ((x.toNat : Int) - 48))) e.symm)
    · rw [if_neg hn]
      have e : (txt (u : Int)).size = (Lib.decDigits u).length := by rw [txt_size, Lib.itoa_nonneg u]
      simp only [e]
      rw [runU_all u (by omega), IntKind.wrap_i64]
      omega
    · intro k h
      obtain ⟨h', e⟩ := get_pos u k h
      have H : ∀ x : UInt8, x = (Lib.decDigits u)[k] → (k = 0 ∧ (u : Int) < 0 ∧ (x.toNat : Int) = 45) ∨ (48 ≤ (x.toNat : Int) ∧ (x.toNat : Int) ≤ 57 ∧ ((x.toNat : Int) = 48 → (txt (u : Int)).size ≤ 1 ∨ (k ≠ 0 ∧ (k = 1 → 0 ≤ (u : Int))))) := by
        intro x hx
        subst hx
        have := dec_at u k h'
        refine .inr ⟨this.1, this.2, fun h48 => ?_⟩
        cases k with
        | zero =>
          rcases (show u = 0 ∨ 1 ≤ u by omega) with rfl | hu1
          · left
            rw [txt_size, Lib.itoa_nonneg, Lib.decDigits_one (by omega)]
            simp
          · exact absurd (show (Lib.decDigits u)[0].toNat = 48 by omega) (dec_first u hu1 h')
        | succ k => exact .inr ⟨by omega, fun _ => ha⟩
      exact H _ e
end Go.Proofs.YtphlodafdkpedaaDoor
