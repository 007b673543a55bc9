/-
  What came through a round, sent again through the same: plain lists.
-/
import Derived.Test.YtafamnodeliaaaaBusR
namespace Go.Proofs.Ytafamnodeliaaaa
open Go

theorem x8_of (a : BitVec 8) : BitVec.ofInt 8 (a.toNat : Int) = a := by
  rw [BitVec.ofInt_natCast, BitVec.ofNat_toNat, BitVec.setWidth_eq]
theorem x8_wrap (a : BitVec 8) : IntKind.u8.wrap (a.toNat : Int) = a.toNat := by
  have := a.isLt
  simp [IntKind.wrap, IntKind.bits, IntKind.signed]
  omega
theorem x8 (x b : Int) : bits .xor .u8 x b = ((BitVec.ofInt 8 x ^^^ BitVec.ofInt 8 b).toNat : Int) := by
  unfold bits
  exact x8_wrap _
theorem x8_comm (x a b : Int) : bits .xor .u8 (bits .xor .u8 x a) b = bits .xor .u8 (bits .xor .u8 x b) a := by
  simp only [x8, x8_of]
  rw [BitVec.xor_assoc, BitVec.xor_comm (BitVec.ofInt 8 a), BitVec.xor_assoc]
theorem x8_twice (x a : Int) (h : 0 ≤ x ∧ x ≤ 255) : bits .xor .u8 (bits .xor .u8 x a) a = x := by
  simp only [x8, x8_of]
  rw [BitVec.xor_assoc, BitVec.xor_self, BitVec.xor_zero]
  obtain ⟨n, rfl⟩ := Int.eq_ofNat_of_zero_le h.1
  have : BitVec.ofInt 8 (n : Int) = BitVec.ofNat 8 n := by rw [BitVec.ofInt_natCast]
  rw [this, BitVec.toNat_ofNat, Nat.mod_eq_of_lt (by omega)]
theorem x8_byte (x a : Int) : 0 ≤ bits .xor .u8 x a ∧ bits .xor .u8 x a ≤ 255 := by
  rw [x8]
  have := (BitVec.ofInt 8 x ^^^ BitVec.ofInt 8 a).isLt
  omega
theorem spoil_mod (f : Fl) (cs : List Int) : spoil f cs = cs.modify (f.a.toNat % cs.length) (fun x => bits .xor .u8 x f.b) := by
  unfold spoil
  split
  · next h =>
    apply List.ext_getElem?
    intro j
    rw [List.getElem?_modify, List.getElem?_set]
    split
    · next e =>
      subst e
      rw [if_pos (Nat.mod_lt _ h), List.getElem?_eq_getElem (Nat.mod_lt _ h)]
      simp
    · next e => cases cs[j]? <;> simp
  · next h =>
    obtain rfl : cs = [] := List.eq_nil_of_length_eq_zero (by omega)
    simp
theorem spoil_get (f : Fl) (cs : List Int) (j : Nat) : (spoil f cs)[j]? = (cs[j]?).map (fun x => if f.a.toNat % cs.length = j then bits .xor .u8 x f.b else x) := by
  rw [spoil_mod, List.getElem?_modify]
  cases cs[j]? <;> simp
theorem spoil_comm (f g : Fl) (cs : List Int) : spoil f (spoil g cs) = spoil g (spoil f cs) := by
  apply List.ext_getElem?
  intro j
  rw [spoil_get, spoil_get, spoil_get, spoil_get, spoil_len, spoil_len, Option.map_map, Option.map_map]
  congr 1
  funext x
  simp only [Function.comp]
  split <;> split <;> simp_all [x8_comm]
theorem spoil_isB (f : Fl) (cs : List Int) (h : IsB cs) : IsB (spoil f cs) := by
  intro c hc
  obtain ⟨j, hj⟩ := List.mem_iff_getElem?.1 hc
  rw [spoil_get] at hj
  cases hx : cs[j]? with
  | none => rw [hx] at hj; cases hj
  | some x =>
    rw [hx, Option.map_some] at hj
    cases hj
    split
    · exact x8_byte _ _
    · exact h x (List.mem_iff_getElem?.2 ⟨j, hx⟩)
theorem spoil_twice (f : Fl) (cs : List Int) (h : IsB cs) : spoil f (spoil f cs) = cs := by
  apply List.ext_getElem?
  intro j
  rw [spoil_get, spoil_get, spoil_len, Option.map_map]
  cases hx : cs[j]? with
  | none => rfl
  | some x =>
    rw [Option.map_some]
    congr 1
    simp only [Function.comp]
    split
    · exact x8_twice x _ (h x (List.mem_iff_getElem?.2 ⟨j, hx⟩))
    · rfl
theorem spoil_nil (f : Fl) : spoil f [] = [] := rfl
theorem stepI_nil (st rd : Int) (f : Fl) : stepI st rd [] f = [] := by
  unfold stepI
  split
  · rfl
  · split <;> rfl
theorem foldI_nil (st rd : Int) (fs : List Fl) : fs.foldl (stepI st rd) [] = [] := by
  induction fs with
  | nil => rfl
  | cons f fs ih => rw [List.foldl_cons, stepI_nil, ih]
theorem stepI_comm (st rd : Int) (f g : Fl) (cs : List Int) : stepI st rd (stepI st rd cs f) g = stepI st rd (stepI st rd cs g) f := by
  unfold stepI
  by_cases h1 : f.h = 0 ∨ f.s ≠ st ∨ f.r ≠ rd
  · by_cases h2 : g.h = 0 ∨ g.s ≠ st ∨ g.r ≠ rd
    · simp only [if_pos h1, if_pos h2]
    · simp only [if_pos h1, if_neg h2]
  · by_cases h2 : g.h = 0 ∨ g.s ≠ st ∨ g.r ≠ rd
    · simp only [if_neg h1, if_pos h2]
    · simp only [if_neg h1, if_neg h2]
      by_cases h3 : f.h = 1
      · by_cases h4 : g.h = 1
        · simp only [if_pos h3, if_pos h4]
        · simp only [if_pos h3, if_neg h4, spoil_nil]
      · by_cases h4 : g.h = 1
        · simp only [if_neg h3, if_pos h4, spoil_nil]
        · simp only [if_neg h3, if_neg h4]
          exact spoil_comm g f cs
theorem stepI_isB (st rd : Int) (f : Fl) (cs : List Int) (h : IsB cs) : IsB (stepI st rd cs f) := by
  unfold stepI
  split
  · exact h
  · split
    · intro c hc; cases hc
    · exact spoil_isB f cs h
theorem stepI_twice (st rd : Int) (f : Fl) (cs : List Int) (h : IsB cs) : stepI st rd (stepI st rd cs f) f = cs ∨ (∀ ds, stepI st rd ds f = []) := by
  unfold stepI
  split
  · exact .inl rfl
  · split
    · exact .inr fun _ => rfl
    · exact .inl (spoil_twice f cs h)
theorem foldI_isB (st rd : Int) (fs : List Fl) (cs : List Int) (h : IsB cs) : IsB (fs.foldl (stepI st rd) cs) := by
  induction fs generalizing cs with
  | nil => exact h
  | cons f fs ih => exact ih _ (stepI_isB st rd f cs h)
theorem foldI_comm (st rd : Int) (f : Fl) (fs : List Fl) (cs : List Int) : fs.foldl (stepI st rd) (stepI st rd cs f) = stepI st rd (fs.foldl (stepI st rd) cs) f := by
  induction fs generalizing cs with
  | nil => rfl
  | cons g fs ih => rw [List.foldl_cons, List.foldl_cons, stepI_comm, ih]
theorem foldI_twice (st rd : Int) (fs : List Fl) (cs : List Int) (h : IsB cs) : fs.foldl (stepI st rd) (fs.foldl (stepI st rd) cs) = cs ∨ fs.foldl (stepI st rd) cs = [] := by
  induction fs with
  | nil => exact .inl rfl
  | cons f fs ih =>
    rw [List.foldl_cons, List.foldl_cons, foldI_comm, foldI_comm, foldI_comm]
    rcases stepI_twice st rd f (fs.foldl (stepI st rd) (fs.foldl (stepI st rd) cs)) (foldI_isB _ _ _ _ (foldI_isB _ _ _ _ h)) with e | e
    · rw [e]
      rcases ih with e2 | e2
      · exact .inl e2
      · exact .inr (by rw [e2, stepI_nil])
    · exact .inr (e _)
theorem foldI_len (st rd : Int) (fs : List Fl) (cs : List Int) : (fs.foldl (stepI st rd) cs).length ≤ cs.length := by
  induction fs generalizing cs with
  | nil => exact Nat.le_refl _
  | cons f fs ih =>
    refine Nat.le_trans (ih _) ?_
    unfold stepI
    split
    · exact Nat.le_refl _
    · split
      · exact Nat.zero_le _
      · exact Nat.le_of_eq (spoil_len f cs)
theorem outI_len (fs : List Fl) (rd : Int) (i : Nat) (cs : List Int) : (outI fs rd i cs).length ≤ cs.length := by
  unfold outI
  split
  · exact Nat.zero_le _
  · exact foldI_len _ _ _ _
theorem outI_twice (fs : List Fl) (rd : Int) (i : Nat) (cs : List Int) (h : IsB cs) :
    (outI fs rd i cs = [] ∧ outI fs rd i (outI fs rd i cs) = []) ∨ (outI fs rd i cs ≠ [] ∧ outI fs rd i (outI fs rd i cs) = cs) := by
  by_cases h0 : outI fs rd i cs = []
  · refine .inl ⟨h0, ?_⟩
    rw [h0]
    exact List.eq_nil_of_length_eq_zero (by have := outI_len fs rd i []; simpa using this)
  · refine .inr ⟨h0, ?_⟩
    unfold outI at h0 ⊢
    split
    · next e => rw [if_pos e] at h0; exact absurd rfl h0
    · next e =>
      rw [if_neg e] at h0
      exact (foldI_twice _ _ fs cs h).resolve_right h0
end Go.Proofs.Ytafamnodeliaaaa
