/-
  The document's text of a value (belfryref11.Text, digits).
-/
import Derived.Test.YtphlodafdkpedaaDoorValsText
import Derived.Deep.QuietTactic
import Derived.BigQuiet
import Derived.WalkSpells
import Derived.Lib.ItoaMem
import Derived.Lib.ItoaLen
import Derived.ShutString
namespace Go.Proofs.YtphlodafdkpedaaDoor
open Go.RowKit
open Go

def txt (n : Int) : ByteArray := ⟨(Lib.itoa n).toArray⟩
theorem ext1 (k : Nat) (h : k < 10) : (⟨#[48, 49, 50, 51, 52, 53, 54, 55, 56, 57]⟩ : ByteArray).extract k (k + 1) = ⟨#[UInt8.ofNat (48 + k)]⟩ := by
  have e : k = 0 ∨ k = 1 ∨ k = 2 ∨ k = 3 ∨ k = 4 ∨ k = 5 ∨ k = 6 ∨ k = 7 ∨ k = 8 ∨ k = 9 := by omega
  rcases e with rfl | rfl | rfl | rfl | rfl | rfl | rfl | rfl | rfl | rfl <;> rfl
theorem txt_pos1 (n : Int) (h0 : 0 ≤ n) (h1 : n < 10) : (⟨#[48, 49, 50, 51, 52, 53, 54, 55, 56, 57]⟩ : ByteArray).extract n.toNat (n + 1).toNat = txt n := by
  obtain ⟨k, rfl⟩ := Int.eq_ofNat_of_zero_le h0
  have e : ((k : Int) + 1).toNat = k + 1 := by omega
  rw [e, Int.toNat_natCast, ext1 k (by omega)]
  unfold txt
  rw [Lib.itoa_nonneg, Lib.decDigits_one (by omega)]
theorem txt_neg1 (n : Int) (h0 : -10 < n) (h1 : n < 0) : (⟨#[45]⟩ : ByteArray) ++ (⟨#[48, 49, 50, 51, 52, 53, 54, 55, 56, 57]⟩ : ByteArray).extract (-n).toNat (1 - n).toNat = txt n := by
  obtain ⟨k, hk⟩ := Int.eq_ofNat_of_zero_le (show 0 ≤ -n by omega)
  have en : n = -(k : Int) := by omega
  subst en
  have e1 : (- -(k : Int)).toNat = k := by omega
  have e : ((1 : Int) - -(k : Int)).toNat = k + 1 := by omega
  rw [e, e1, ext1 k (by omega)]
  unfold txt
  rw [Lib.itoa_neg k (by omega), Lib.decDigits_one (by omega)]
  rfl
theorem ba_snoc (l : List UInt8) (b : UInt8) : (⟨l.toArray⟩ : ByteArray) ++ (⟨#[b]⟩ : ByteArray) = ⟨(l ++ [b]).toArray⟩ := by
  apply ByteArray.ext
  simp
theorem dec_big (u : Nat) (h : 10 ≤ u) : Lib.decDigits u = Lib.decDigits (u / 10) ++ [UInt8.ofNat (48 + u % 10)] := by
  rw [Lib.decDigits, dif_neg (by omega)]
theorem txt_pos (u : Nat) (h : 10 ≤ u) : txt ((u / 10 : Nat) : Int) ++ (⟨#[48, 49, 50, 51, 52, 53, 54, 55, 56, 57]⟩ : ByteArray).extract (u % 10) (u % 10 + 1) = txt (u : Int) := by
  rw [ext1 _ (Nat.mod_lt _ (by omega))]
  unfold txt
  rw [ba_snoc, Lib.itoa_nonneg, Lib.itoa_nonneg, dec_big u h]
theorem txt_neg (u : Nat) (h : 10 ≤ u) : txt (-((u / 10 : Nat) : Int)) ++ (⟨#[48, 49, 50, 51, 52, 53, 54, 55, 56, 57]⟩ : ByteArray).extract (u % 10) (u % 10 + 1) = txt (-(u : Int)) := by
  rw [ext1 _ (Nat.mod_lt _ (by omega))]
  unfold txt
  rw [ba_snoc, Lib.itoa_neg _ (by omega), Lib.itoa_neg _ (by omega), dec_big u h]
  rfl

theorem digits_neg1 (n : Int) (h0 : -10 < n) (h1 : n < 0) (w : World) : Calls Tryd.prog 22 #[.int .i64 n] w fun e w' => e = .returned (.string (txt n)) ∧ ∃ m', w' = w.drewN m' := by
  rw [← txt_neg1 n h0 h1]
  go_enter Tryd.func22, Tryd.ntmps22
  go_wp2_with fail
  go_ret
  exact ⟨rfl, 0, rfl⟩
theorem digits_pos1 (n : Int) (h0 : 0 ≤ n) (h1 : n < 10) (w : World) : Calls Tryd.prog 22 #[.int .i64 n] w fun e w' => e = .returned (.string (txt n)) ∧ ∃ m', w' = w.drewN m' := by
  rw [← txt_pos1 n h0 h1]
  go_enter Tryd.func22, Tryd.ntmps22
  go_wp2_with fail
  go_ret
  exact ⟨rfl, 0, rfl⟩
theorem digits_neg (u : Nat) (h0 : 10 ≤ u) (h1 : (u : Int) ≤ 9223372036854775808) (w : World)
    (C : Hid (∀ m, Calls Tryd.prog 22 #[.int .i64 (-((u / 10 : Nat) : Int))] (w.drewN m) fun e w' => e = .returned (.string (txt (-((u / 10 : Nat) : Int)))) ∧ ∃ m', w' = w.drewN m')) :
    Calls Tryd.prog 22 #[.int .i64 (-(u : Int))] w fun e w' => e = .returned (.string (txt (-(u : Int)))) ∧ ∃ m', w' = w.drewN m' := by
  rw [← txt_neg u h0]
  generalize hn : -(u : Int) = n at *
  have hd : n.tdiv 10 = -((u / 10 : Nat) : Int) := by subst hn; rw [Int.neg_tdiv]; rfl
  have hm : n.tmod 10 = -((u % 10 : Nat) : Int) := by subst hn; rw [Int.neg_tmod]; rfl
  have b0 : u % 10 < 10 := Nat.mod_lt _ (by omega)
  have b1 : -922337203685477580 ≤ -(((u / 10 : Nat) : Int)) := by omega
  have b2 : -(((u / 10 : Nat) : Int)) ≤ 0 := by omega
  have n0 : n ≤ -10 := by omega
  have n1 : -9223372036854775808 ≤ n := by omega
  generalize -(((u / 10 : Nat) : Int)) = q at *
  generalize u % 10 = r at *
  clear hn h0 h1
  have D1 : decide (n > -10) = false := by rw [decide_eq_false_iff_not]; omega
  have D2 : decide (n < 0) = true := by rw [decide_eq_true_iff]; omega
  have W : IntKind.i64.wrap q = q := by rw [IntKind.wrap_i64]; omega
  have L1 : IntKind.i64.wrap 1 = 1 := by rw [IntKind.wrap_i64]; rfl
  have L2 : IntKind.i64.wrap 2 = 2 := by rw [IntKind.wrap_i64]; rfl
  have L3 : IntKind.i64.wrap 3 = 3 := by rw [IntKind.wrap_i64]; rfl
  have L4 : IntKind.i64.wrap 4 = 4 := by rw [IntKind.wrap_i64]; rfl
  have L5 : IntKind.i64.wrap 5 = 5 := by rw [IntKind.wrap_i64]; rfl
  have L6 : IntKind.i64.wrap 6 = 6 := by rw [IntKind.wrap_i64]; rfl
  have L7 : IntKind.i64.wrap 7 = 7 := by rw [IntKind.wrap_i64]; rfl
  have L8 : IntKind.i64.wrap 8 = 8 := by rw [IntKind.wrap_i64]; rfl
  have L9 : IntKind.i64.wrap 9 = 9 := by rw [IntKind.wrap_i64]; rfl
  have L10 : IntKind.i64.wrap 10 = 10 := by rw [IntKind.wrap_i64]; rfl
  have Z0 : ((⟨#[48, 49, 50, 51, 52, 53, 54, 55, 56, 57]⟩ : ByteArray).extract 0 1).size = 1 := rfl
  have Z1 : ((⟨#[48, 49, 50, 51, 52, 53, 54, 55, 56, 57]⟩ : ByteArray).extract 1 2).size = 1 := rfl
  have Z2 : ((⟨#[48, 49, 50, 51, 52, 53, 54, 55, 56, 57]⟩ : ByteArray).extract 2 3).size = 1 := rfl
  have Z3 : ((⟨#[48, 49, 50, 51, 52, 53, 54, 55, 56, 57]⟩ : ByteArray).extract 3 4).size = 1 := rfl
  have Z4 : ((⟨#[48, 49, 50, 51, 52, 53, 54, 55, 56, 57]⟩ : ByteArray).extract 4 5).size = 1 := rfl
  have Z5 : ((⟨#[48, 49, 50, 51, 52, 53, 54, 55, 56, 57]⟩ : ByteArray).extract 5 6).size = 1 := rfl
  have Z6 : ((⟨#[48, 49, 50, 51, 52, 53, 54, 55, 56, 57]⟩ : ByteArray).extract 6 7).size = 1 := rfl
  have Z7 : ((⟨#[48, 49, 50, 51, 52, 53, 54, 55, 56, 57]⟩ : ByteArray).extract 7 8).size = 1 := rfl
  have Z8 : ((⟨#[48, 49, 50, 51, 52, 53, 54, 55, 56, 57]⟩ : ByteArray).extract 8 9).size = 1 := rfl
  have Z9 : ((⟨#[48, 49, 50, 51, 52, 53, 54, 55, 56, 57]⟩ : ByteArray).extract 9 10).size = 1 := rfl
  have ZQ : (txt q).size ≤ 21 := by unfold txt; rw [size_of_list]; exact Lib.itoa_length_le q (by omega) (by omega)
  have e : r = 0 ∨ r = 1 ∨ r = 2 ∨ r = 3 ∨ r = 4 ∨ r = 5 ∨ r = 6 ∨ r = 7 ∨ r = 8 ∨ r = 9 := by omega
  rcases e with rfl | rfl | rfl | rfl | rfl | rfl | rfl | rfl | rfl | rfl
  all_goals
    simp at hm
    go_enter Tryd.func22, Tryd.ntmps22
    go_wp2_with fail
    go_quiet (with_reducible exact C.out _)
    go_wp2_with fail
    go_ret
    exact ⟨rfl, nq, rfl⟩
theorem digits_pos (u : Nat) (h0 : 10 ≤ u) (h1 : (u : Int) ≤ 9223372036854775807) (w : World)
    (C : Hid (∀ m, Calls Tryd.prog 22 #[.int .i64 ((u / 10 : Nat) : Int)] (w.drewN m) fun e w' => e = .returned (.string (txt ((u / 10 : Nat) : Int))) ∧ ∃ m', w' = w.drewN m')) :
    Calls Tryd.prog 22 #[.int .i64 (u : Int)] w fun e w' => e = .returned (.string (txt (u : Int))) ∧ ∃ m', w' = w.drewN m' := by
  rw [← txt_pos u h0]
  generalize hn : (u : Int) = n at *
  have hd : n.tdiv 10 = ((u / 10 : Nat) : Int) := by subst hn; rfl
  have hm : n.tmod 10 = ((u % 10 : Nat) : Int) := by subst hn; rfl
  have b0 : u % 10 < 10 := Nat.mod_lt _ (by omega)
  have b1 : (((u / 10 : Nat) : Int)) ≤ 922337203685477580 := by omega
  have b2 : 0 ≤ (((u / 10 : Nat) : Int)) := by omega
  have n0 : 10 ≤ n := by omega
  have n1 : n ≤ 9223372036854775807 := by omega
  generalize (((u / 10 : Nat) : Int)) = q at *
  generalize u % 10 = r at *
  clear hn h0 h1
  have D1 : decide (n > -10) = true := by rw [decide_eq_true_iff]; omega
  have D2 : decide (n < 0) = false := by rw [decide_eq_false_iff_not]; omega
  have D3 : decide (n < 10) = false := by rw [decide_eq_false_iff_not]; omega
  have W : IntKind.i64.wrap q = q := by rw [IntKind.wrap_i64]; omega
  have L1 : IntKind.i64.wrap 1 = 1 := by rw [IntKind.wrap_i64]; rfl
  have L2 : IntKind.i64.wrap 2 = 2 := by rw [IntKind.wrap_i64]; rfl
  have L3 : IntKind.i64.wrap 3 = 3 := by rw [IntKind.wrap_i64]; rfl
  have L4 : IntKind.i64.wrap 4 = 4 := by rw [IntKind.wrap_i64]; rfl
  have L5 : IntKind.i64.wrap 5 = 5 := by rw [IntKind.wrap_i64]; rfl
  have L6 : IntKind.i64.wrap 6 = 6 := by rw [IntKind.wrap_i64]; rfl
  have L7 : IntKind.i64.wrap 7 = 7 := by rw [IntKind.wrap_i64]; rfl
  have L8 : IntKind.i64.wrap 8 = 8 := by rw [IntKind.wrap_i64]; rfl
  have L9 : IntKind.i64.wrap 9 = 9 := by rw [IntKind.wrap_i64]; rfl
  have L10 : IntKind.i64.wrap 10 = 10 := by rw [IntKind.wrap_i64]; rfl
  have Z0 : ((⟨#[48, 49, 50, 51, 52, 53, 54, 55, 56, 57]⟩ : ByteArray).extract 0 1).size = 1 := rfl
  have Z1 : ((⟨#[48, 49, 50, 51, 52, 53, 54, 55, 56, 57]⟩ : ByteArray).extract 1 2).size = 1 := rfl
  have Z2 : ((⟨#[48, 49, 50, 51, 52, 53, 54, 55, 56, 57]⟩ : ByteArray).extract 2 3).size = 1 := rfl
  have Z3 : ((⟨#[48, 49, 50, 51, 52, 53, 54, 55, 56, 57]⟩ : ByteArray).extract 3 4).size = 1 := rfl
  have Z4 : ((⟨#[48, 49, 50, 51, 52, 53, 54, 55, 56, 57]⟩ : ByteArray).extract 4 5).size = 1 := rfl
  have Z5 : ((⟨#[48, 49, 50, 51, 52, 53, 54, 55, 56, 57]⟩ : ByteArray).extract 5 6).size = 1 := rfl
  have Z6 : ((⟨#[48, 49, 50, 51, 52, 53, 54, 55, 56, 57]⟩ : ByteArray).extract 6 7).size = 1 := rfl
  have Z7 : ((⟨#[48, 49, 50, 51, 52, 53, 54, 55, 56, 57]⟩ : ByteArray).extract 7 8).size = 1 := rfl
  have Z8 : ((⟨#[48, 49, 50, 51, 52, 53, 54, 55, 56, 57]⟩ : ByteArray).extract 8 9).size = 1 := rfl
  have Z9 : ((⟨#[48, 49, 50, 51, 52, 53, 54, 55, 56, 57]⟩ : ByteArray).extract 9 10).size = 1 := rfl
  have ZQ : (txt q).size ≤ 21 := by unfold txt; rw [size_of_list]; exact Lib.itoa_length_le q (by omega) (by omega)
  have e : r = 0 ∨ r = 1 ∨ r = 2 ∨ r = 3 ∨ r = 4 ∨ r = 5 ∨ r = 6 ∨ r = 7 ∨ r = 8 ∨ r = 9 := by omega
  rcases e with rfl | rfl | rfl | rfl | rfl | rfl | rfl | rfl | rfl | rfl
  all_goals
    simp at hm
    go_enter Tryd.func22, Tryd.ntmps22
    go_wp2_with fail
    go_quiet (with_reducible exact C.out _)
    go_wp2_with fail
    go_ret
    exact ⟨rfl, nq, rfl⟩
theorem digits_bound (b : Nat) : ∀ n : Int, n.natAbs < b → -9223372036854775808 ≤ n → n ≤ 9223372036854775807 → ∀ w : World,
    Calls Tryd.prog 22 #[.int .i64 n] w fun e w' => e = .returned (.string (txt n)) ∧ ∃ m', w' = w.drewN m' := by
  induction b with
  | zero => intro n h; omega
  | succ b ih =>
    intro n hb h0 h1 w
    by_cases c1 : n ≤ -10
    · obtain ⟨u, hu⟩ := Int.eq_ofNat_of_zero_le (show 0 ≤ -n by omega)
      obtain rfl : n = -(u : Int) := by omega
      refine digits_neg u (by omega) (by omega) w (Lib.hid fun m => ?_)
      refine (ih _ (by omega) (by omega) (by omega) _).mono ?_
      rintro e w' ⟨he, m', rfl⟩
      exact ⟨he, m + m', by rw [World.drewN_drewN]⟩
    · by_cases c2 : n < 0
      · exact digits_neg1 n (by omega) c2 w
      · by_cases c3 : n < 10
        · exact digits_pos1 n (by omega) c3 w
        · obtain ⟨u, rfl⟩ := Int.eq_ofNat_of_zero_le (show 0 ≤ n by omega)
          refine digits_pos u (by omega) (by omega) w (Lib.hid fun m => ?_)
          refine (ih _ (by omega) (by omega) (by omega) _).mono ?_
          rintro e w' ⟨he, m', rfl⟩
          exact ⟨he, m + m', by rw [World.drewN_drewN]⟩
theorem digits_any (n : Int) (h0 : -9223372036854775808 ≤ n) (h1 : n ≤ 9223372036854775807) (w : World) :
    Calls Tryd.prog 22 #[.int .i64 n] w fun e w' => e = .returned (.string (txt n)) ∧ Below w.heap.size w w' :=
  (digits_bound (n.natAbs + 1) n (by omega) h0 h1 w).mono fun e w' ⟨he, m, hm⟩ => ⟨he, hm ▸ bdraw (Below.refl _ _) m⟩
theorem rcheckT_any (p : VT) (w : World) : Calls Tryd.prog 11 #[aggV p] w fun e w' => e = .returned (.bool (chkV p)) ∧ Below w.heap.size w w' := by
  obtain ⟨t, n⟩ := p
  unfold aggV chkV
  cases h1 : (t == 1) <;> cases h2 : (t == 2) <;> cases h3 : (n == 0) <;> cases h4 : (n == 1)
  all_goals
    go_enter Tryd.func11, Tryd.ntmps11
    go_wp2_with fail
    go_ret
    exact ⟨by simp [*], balloc (Below.refl _ _) _⟩
set_option maxHeartbeats 1000000 in
theorem rtext_any (p : VT) (h0 : -9223372036854775808 ≤ p.2) (h1 : p.2 ≤ 9223372036854775807) (w : World) :
    Calls Tryd.prog 13 #[aggV p] w fun e w' => e = .returned (.string (textV p)) ∧ Below w.heap.size w w' := by
  have CK := Lib.hid (fun w => rcheckT_any p w)
  have FI := Lib.hid (fun w => digits_any p.2 h0 h1 w)
  have B1 := balloc (Below.refl w.heap.size w) (.cells #[.int .u8 p.1, .int .i64 p.2] 24 (0, 0))
  have K1 := Lib.hid (heap_alloc_new w (.cells #[.int .u8 p.1, .int .i64 p.2] 24 (0, 0)))
  unfold textV
  change Hid (∀ w, Calls _ _ _ _ fun e w' => e = .returned (.string ⟨(Lib.itoa p.2).toArray⟩) ∧ _) at FI
  generalize (⟨(Lib.itoa p.2).toArray⟩ : ByteArray) = S at *
  cases hc : chkV p
  · rw [hc] at CK
    obtain ⟨t, n⟩ := p
    unfold aggV at *
    clear hc
    go_enter Tryd.func13, Tryd.ntmps13
    go_wp2_with fail
    refine (CK.out _).mono ?_
    rintro e w1 ⟨rfl, b1⟩
    go_wp2_with fail
    go_ret
    exact ⟨rfl, bnext B1 b1⟩
  · rw [hc] at CK
    obtain ⟨t, n⟩ := p
    have key : (t = 2 ∧ (n = 1 ∨ n ≠ 1)) ∨ t = 1 := by
      unfold chkV at hc
      by_cases h1 : t = 1
      · exact .inr h1
      · simp [h1] at hc
        exact .inl ⟨hc.1, by omega⟩
    rcases key with ⟨rfl, hn⟩ | rfl
    · rw [if_pos rfl, if_pos rfl]
      clear hc
      unfold aggV at *
      rcases hn with rfl | hn
      · go_enter Tryd.func13, Tryd.ntmps13
        go_wp2_with fail
        refine (CK.out _).mono ?_
        rintro e w1 ⟨rfl, b1⟩
        have K2 := (b1.block _ (lt_of_block K1.out)).trans K1.out
        have x0 := cell_of_row _ _ 0 _ _ _ K2
        have x1 := cell_of_row _ _ 1 _ _ _ K2
        have B2 := bnext B1 b1
        clear K2 b1
        go_wp2_with fail
        go_ret
        exact ⟨rfl, B2⟩
      · have e1 : (n == 1) = false := by simpa using hn
        rw [e1]
        go_enter Tryd.func13, Tryd.ntmps13
        go_wp2_with fail
        refine (CK.out _).mono ?_
        rintro e w1 ⟨rfl, b1⟩
        have K2 := (b1.block _ (lt_of_block K1.out)).trans K1.out
        have x0 := cell_of_row _ _ 0 _ _ _ K2
        have x1 := cell_of_row _ _ 1 _ _ _ K2
        have B2 := bnext B1 b1
        clear K2 b1
        go_wp2_with fail
        go_ret
        exact ⟨rfl, B2⟩
    · rw [if_pos rfl, if_neg (show ¬ (1 : Int) = 2 by decide)]
      clear hc
      unfold aggV at *
      go_enter Tryd.func13, Tryd.ntmps13
      go_wp2_with fail
      refine (CK.out _).mono ?_
      rintro e w1 ⟨rfl, b1⟩
      have K2 := (b1.block _ (lt_of_block K1.out)).trans K1.out
      have x0 := cell_of_row _ _ 0 _ _ _ K2
      have x1 := cell_of_row _ _ 1 _ _ _ K2
      have B2 := bnext B1 b1
      clear K2 b1
      go_wp2_with fail
      refine (FI.out _).mono ?_
      rintro e w3 ⟨rfl, b3⟩
      go_wp2_with fail
      go_ret
      exact ⟨rfl, bnext B2 b3⟩
end Go.Proofs.YtphlodafdkpedaaDoor
