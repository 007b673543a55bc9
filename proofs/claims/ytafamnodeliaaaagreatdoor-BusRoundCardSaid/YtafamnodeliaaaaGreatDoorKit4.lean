/-
  Words on readings and on arguments that are bytes, as natural numbers.
-/
import Derived.Test.YtafamnodeliaaaaGreatDoorBitsFacts
import Derived.Test.YtafamnodeliaaaaGreatDoorOpenB
namespace Go.Proofs.YtafamnodeliaaaaGreatDoor
open Go.RowKit
open Go

theorem Rd.at {w : World} {a : Option Addr} {n c : Nat} {xs : List Value} (h : Rd w (.slice a n c) xs) (k : Nat) (x : Value) (hx : xs[k]? = some x) : ∃ b o, a = some ⟨b, o, none⟩ ∧ w.cell? ⟨b, o + k, none⟩ = some x := by
  obtain ⟨a', c', e, _, _, _, h⟩ := h
  cases e
  exact h k x hx
theorem Rd.len {w : World} {v : Value} {xs : List Value} (h : Rd w v xs) : ∃ a c, v = .slice a xs.length c ∧ xs.length ≤ c ∧ c ≤ 9223372036854775807 := by
  obtain ⟨a, c, e, h1, h2, _⟩ := h
  exact ⟨a, c, e, h1, h2⟩
theorem Rd.form {w : World} {v : Value} {xs : List Value} (h : Rd w v xs) : ∃ a n c, v = .slice a n c := by
  obtain ⟨a, c, e, _⟩ := h
  exact ⟨a, _, c, e⟩
theorem by8_get (bs : List Nat) (i : Nat) (h : i < bs.length) : (by8 (iN bs))[i]? = some (.int .u8 (bs[i] : Nat)) := by simp [by8, h]
theorem by8_len (bs : List Nat) : (by8 (iN bs)).length = bs.length := by simp
theorem Arg.u8s {W : World} {v : Value} (A : Arg Tryz.prog 47 W v) : ∃ ls : List Nat, Rd W v (by8 (iN ls)) ∧ (∀ n ∈ ls, n < 256) ∧ ls.length ≤ 140737488351232 := by
  obtain ⟨cs, hR, hB, hl⟩ := A.bytes
  obtain ⟨ls, rfl⟩ := iN_of cs fun z hz => (hB z hz).1
  refine ⟨ls, hR, fun n hn => ?_, by simpa using hl⟩
  have := (hB n (List.mem_map.2 ⟨n, hn, rfl⟩)).2
  omega
end Go.Proofs.YtafamnodeliaaaaGreatDoor
