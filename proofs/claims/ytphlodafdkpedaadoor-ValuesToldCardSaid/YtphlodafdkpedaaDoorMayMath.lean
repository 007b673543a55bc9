/-
  What an operator makes: whether it may be, and that it is told (plain).
-/
import Derived.Test.YtphlodafdkpedaaDoorValsDo3
import Derived.Test.YtphlodafdkpedaaDoorValsText
import Derived.Test.YtphlodafdkpedaaDoorValsArgs
namespace Go.Proofs.YtphlodafdkpedaaDoor
open Go.RowKit
open Go

def In64 (n : Int) : Prop := -9223372036854775808 ≤ n ∧ n ≤ 9223372036854775807
theorem in64_wrap (n : Int) : In64 (wrap64 n) := by unfold wrap64 In64; omega
theorem in64_div (a b : Int) : In64 (divI a b) := by
  unfold divI
  split
  · unfold In64; omega
  · exact in64_wrap _
theorem in64_mod (a b : Int) (h : In64 a) : In64 (modI a b) := by
  unfold modI
  split
  · unfold In64; omega
  · have e := Int.natAbs_tmod a b
    have := Nat.mod_le a.natAbs b.natAbs
    unfold In64 at *
    rcases Int.le_total 0 a with p | p
    · have := Int.tmod_nonneg b p
      omega
    · have := Int.tmod_nonneg b (show 0 ≤ -a by omega)
      rw [Int.neg_tmod] at this
      omega
theorem semD_ok (o : Int) (a b : VT) (h : In64 a.2) : (∃ n, In64 n ∧ semD o a b = numV n) ∨ ∃ c, semD o a b = yesV c := by
  unfold semD
  by_cases h4 : o = 4
  · simp only [if_pos h4]; exact .inl ⟨_, in64_wrap _, rfl⟩
  simp only [if_neg h4]
  by_cases h5 : o = 5
  · simp only [if_pos h5]; exact .inr ⟨_, rfl⟩
  simp only [if_neg h5]
  by_cases h6 : o = 6
  · simp only [if_pos h6]; exact .inl ⟨_, in64_wrap _, rfl⟩
  simp only [if_neg h6]
  by_cases h7 : o = 7
  · simp only [if_pos h7]; exact .inl ⟨_, in64_wrap _, rfl⟩
  simp only [if_neg h7]
  by_cases h8 : o = 8
  · simp only [if_pos h8]; exact .inl ⟨_, in64_wrap _, rfl⟩
  simp only [if_neg h8]
  by_cases h9 : o = 9
  · simp only [if_pos h9]; exact .inl ⟨_, in64_div _ _, rfl⟩
  simp only [if_neg h9]
  by_cases h10 : o = 10
  · simp only [if_pos h10]; exact .inl ⟨_, in64_mod _ _ h, rfl⟩
  simp only [if_neg h10]
  by_cases h13 : o = 13
  · simp only [if_pos h13]; exact .inr ⟨_, rfl⟩
  simp only [if_neg h13]
  by_cases h14 : o = 14
  · simp only [if_pos h14]; exact .inr ⟨_, rfl⟩
  simp only [if_neg h14]
  by_cases h11 : o = 11
  · simp only [if_pos h11]; exact .inr ⟨_, rfl⟩
  simp only [if_neg h11]
  by_cases h12 : o = 12
  · simp only [if_pos h12]; exact .inr ⟨_, rfl⟩
  simp only [if_neg h12]
  by_cases h15 : o = 15
  · simp only [if_pos h15]; exact .inr ⟨_, rfl⟩
  simp only [if_neg h15]
  exact .inr ⟨_, rfl⟩
theorem chk_num (n : Int) : chkV (numV n) = true := rfl
theorem chk_yes (b : Bool) : chkV (yesV b) = true := by cases b <;> rfl
theorem dec_ne (u : Nat) : Lib.decDigits u ≠ [] := by
  rw [Lib.decDigits]
  split <;> simp
theorem itoa_ne (n : Int) : Lib.itoa n ≠ [] := by
  unfold Lib.itoa
  split
  · simp
  · exact dec_ne _
theorem text_ne (p : VT) (h : chkV p = true) : textV p ≠ ⟨#[]⟩ := by
  unfold textV
  rw [if_pos h]
  split
  · unfold boolT
    split <;> decide
  · intro e
    have e1 := congrArg (fun b : ByteArray => b.data.toList) e
    exact itoa_ne p.2 (by simpa using e1)
theorem ba_ne (S : ByteArray) (h : S ≠ ⟨#[]⟩) : S.toList.isEmpty = false := by
  have hs : 0 < S.size := by
    obtain ⟨⟨l⟩⟩ := S
    cases l with
    | nil => exact absurd rfl h
    | cons a t => simp [ByteArray.size]
  have key : ∀ (n i : Nat) (r : List UInt8), S.size - i = n → r ≠ [] → ByteArray.toList.loop S i r ≠ [] := by
    intro n
    induction n with
    | zero =>
      intro i r hn hr
      rw [ByteArray.toList.loop, if_neg (by omega)]
      simpa using hr
    | succ n ih =>
      intro i r hn hr
      rw [ByteArray.toList.loop, if_pos (by omega)]
      exact ih _ _ (by omega) (by simp)
  have : S.toList ≠ [] := by
    unfold ByteArray.toList
    rw [ByteArray.toList.loop, if_pos hs]
    exact key _ _ _ rfl (by simp)
  exact List.isEmpty_eq_false_iff.2 this
/-- What is worked out: the value, what is wrong. -/
theorem doV_may (o : Int) (l : List VT) (hok : ∀ p ∈ l, OkV p) :
    ((doV o l).2 ≠ 0 → (doV o l).1 = (0, 0) ∧ ((doV o l).2 = 1 ∨ ((doV o l).2 = 7 ∧ (l.all chkV) = true))) ∧
    ((doV o l).2 = 0 → (l.all chkV) = true ∧ chkV (doV o l).1 = true ∧ In64 (doV o l).1.2) := by
  unfold doV
  split
  · exact ⟨fun _ => ⟨rfl, .inl rfl⟩, fun h => absurd h (by decide)⟩
  · rename_i m t hm
    by_cases hb : (l.length : Int) ≠ m ∨ (l.any fun p => !chkV p) = true
    · rw [if_pos hb]
      exact ⟨fun _ => ⟨rfl, .inl rfl⟩, fun h => absurd h (by decide)⟩
    · rw [if_neg hb]
      simp only [not_or, Bool.not_eq_true, ne_eq, Decidable.not_not] at hb
      obtain ⟨hl, hc⟩ := hb
      have hall : (l.all chkV) = true := by
        rw [List.all_eq_true]
        intro p hp
        have := List.any_eq_false.1 hc p hp
        simpa using this
      by_cases h17 : o = 17
      · rw [if_pos h17]
        rw [if_pos h17] at hm
        obtain ⟨rfl, rfl⟩ := Prod.mk.inj (Option.some.inj hm)
        obtain ⟨a, b, d, rfl⟩ := list3V (l := l) (by omega)
        change ((chooseV a b d).2 ≠ 0 → (chooseV a b d).1 = (0, 0) ∧ ((chooseV a b d).2 = 1 ∨ ((chooseV a b d).2 = 7 ∧ _))) ∧ ((chooseV a b d).2 = 0 → _ ∧ chkV (chooseV a b d).1 = true ∧ In64 (chooseV a b d).1.2)
        have cb : chkV b = true := List.all_eq_true.1 hall b (by simp)
        have cd : chkV d = true := List.all_eq_true.1 hall d (by simp)
        have ob := (hok b (by simp)).2
        have od := (hok d (by simp)).2
        unfold chooseV
        by_cases h1 : a.1 = 2 ∧ b.1 = d.1
        · rw [if_pos h1]
          refine ⟨fun h => absurd rfl h, fun _ => ⟨hall, ?_⟩⟩
          by_cases h2 : a.2 = 1
          · simp only [if_pos h2]; exact ⟨cb, ob⟩
          · simp only [if_neg h2]; exact ⟨cd, od⟩
        · rw [if_neg h1]
          exact ⟨fun _ => ⟨rfl, .inr ⟨rfl, hall⟩⟩, fun h => absurd h (by decide)⟩
      · rw [if_neg h17]
        by_cases ht : (l.any fun p => p.1 != (if t = 0 then (l.getD 0 (0, 0)).1 else t)) = true
        · rw [if_pos ht]
          exact ⟨fun _ => ⟨rfl, .inr ⟨rfl, hall⟩⟩, fun h => absurd h (by decide)⟩
        · rw [if_neg ht]
          refine ⟨fun h => absurd rfl h, fun _ => ⟨hall, ?_⟩⟩
          have ha : In64 (l.getD 0 (0, 0)).2 := by
            cases l with
            | nil => unfold In64; decide
            | cons p r => exact (hok p (by simp)).2
          rcases semD_ok o (l.getD 0 (0, 0)) (lastV l) ha with ⟨n, hn, e⟩ | ⟨c, e⟩
          · rw [e]; exact ⟨chk_num n, hn⟩
          · rw [e]; exact ⟨chk_yes c, by cases c <;> (unfold In64; decide)⟩
end Go.Proofs.YtphlodafdkpedaaDoor
