/-
  What was put is got.
-/
import Derived.Test.YtafamnodeliaaaaFrmGet
namespace Go.Proofs.Ytafamnodeliaaaa
open Go.RowKit
open Go

/-- Get on what was put. -/
theorem get_put (f : Fr) (h : f.Ok) (v : Value) (w : World) (hv : Rd w v (by8 (iN f.bytes))) : Calls Try.prog 11 #[v] w fun e w' =>
    ∃ u, e = .returned (.tuple #[frV f.st f.rd f.mem f.md u, .int .i64 0]) ∧ w'.ownsRow w.heap.size 5 1 u f.pl.length (by8 (iN f.pl)) ∧ Below w.heap.size w w' := by
  refine (get_any v f.bytes w hv h.bytes (by rw [f.bytes_len]; have := h.len; omega)).mono ?_
  rintro e w' ⟨hb, ⟨_, u, he, ho⟩ | ⟨h0, _⟩⟩
  · rw [fr_bytes h] at he ho
    exact ⟨u, he, ho, hb⟩
  · exact absurd (err_bytes h) h0
/-- Get where it refuses. -/
theorem get_bad (bs : List Nat) (n : Nat) (hb : NB bs) (v : Value) (w : World) (hv : Rd w v (by8 (iN bs))) (hm : bs.length ≤ 140737488351232) (he : errOf bs = n) (hn : n ≠ 0) : Calls Try.prog 11 #[v] w fun e w' =>
    e = .returned (.tuple #[noFr, .int .i64 n]) ∧ Below w.heap.size w w' := by
  refine (get_any v bs w hv hb hm).mono ?_
  rintro e w' ⟨hb, ⟨h0, _⟩ | ⟨_, h1⟩⟩
  · omega
  · rw [he] at h1
    exact ⟨h1, hb⟩
theorem cut_h {w : World} {a : Option Addr} {n c : Nat} {xs : List Value} (h : Rd w (.slice a n c) xs) (k : Nat) (hk : k ≤ n) : Rd w (.slice a k c) (xs.take k) := by
  obtain ⟨a', c', hv, h1, h2, h3, h4⟩ := h
  simp only [Value.slice.injEq] at hv
  obtain ⟨rfl, rfl, rfl⟩ := hv
  have hl : (xs.take k).length = k := by rw [List.length_take]; omega
  refine ⟨a, c, by rw [hl], by rw [hl]; omega, h2, h3, fun i x hx => ?_⟩
  rw [List.getElem?_take] at hx
  split at hx
  · exact h4 i x hx
  · cases hx
end Go.Proofs.Ytafamnodeliaaaa
