/-
  Lists kept, whatever is done elsewhere (of part Held, what stands without the writer of bits).
-/
import Derived.Test.YtckpeclkkmapiaaGreatDoorBitsW
namespace Go.Proofs.YtckpeclkkmapiaaGreatDoor
open Go.RowKit
open Go

theorem Rd.only {w w' : World} {v : Value} {xs : List Value} (h : Rd w v xs) {S : Nat → Prop} (ho : Only S w w') (hn : ∀ g, v.ownBlock = some g → ¬ S g) : Rd w' v xs := by
  obtain ⟨a, c, rfl, h1, h2, h3, h4⟩ := h
  refine ⟨a, c, rfl, h1, h2, h3, fun i x hx => ?_⟩
  obtain ⟨b, o, rfl, hc⟩ := h4 i x hx
  exact ⟨b, o, rfl, (World.cell?_of_block (w := w) (ho.block b (World.block_lt_of_cell? w _ hc) (hn b rfl))).trans hc⟩
theorem owns_only {w w' : World} {base : Nat} {e : TypeId} {v : Value} {n : Nat} {xs : List Value} (h : w.ownsRow base e 1 v n xs) {S : Nat → Prop} (ho : Only S w w') (hs : ∀ g c fr, w.heap[g]? = some (.cells c e fr) → ¬ S g) : w'.ownsRow base e 1 v n xs := by
  refine ownsRow_kept h fun g hg => ?_
  rcases h.2 with ⟨e', _⟩ | ⟨g', c, cur, e', _, hb, _⟩
  · rw [e'] at hg
    cases hg
  · rw [e'] at hg
    cases hg
    exact ho.block _ (lt_of_block hb) (hs _ cur (0, 0) hb)
theorem owns_block {w : World} {base : Nat} {e : TypeId} {v : Value} {n : Nat} {xs : List Value} (h : w.ownsRow base e 1 v n xs) (g : Nat) (hg : v.ownBlock = some g) : base ≤ g ∧ ∃ c, w.heap[g]? = some (.cells c e (0, 0)) := by
  rcases h.2 with ⟨e', _⟩ | ⟨g', c, cur, e', hb, hb2, _⟩
  · rw [e'] at hg
    cases hg
  · rw [e'] at hg
    cases hg
    exact ⟨hb, _, hb2⟩
theorem Only.of_grown {w w' : World} {row : Option Nat} (hg : w.grownBy w' row) : Only (fun k => row = some k) w w' := ⟨hg.os, hg.tape, hg.output, hg.size, fun k hk hn => hg.block k hk fun e => hn e.symm⟩
theorem own_ne {w : World} {b1 b2 s1 s2 : Nat} {e1 e2 : TypeId} {v1 v2 : Value} {n1 n2 : Nat} {xs1 xs2 : List Value} (h1 : w.ownsRow b1 e1 s1 v1 n1 xs1) (h2 : w.ownsRow b2 e2 s2 v2 n2 xs2) (he : e1 ≠ e2) :
    ∀ g, v1.ownBlock = some g → v2.ownBlock ≠ some g := by
  intro g hg hg2
  rcases h1.2 with ⟨rfl, _⟩ | ⟨g1, c1, cur1, rfl, _, hb1, _⟩
  · cases hg
  · rcases h2.2 with ⟨rfl, _⟩ | ⟨g2, c2, cur2, rfl, _, hb2, _⟩
    · cases hg2
    · simp only [Value.ownBlock, Option.some.injEq] at hg hg2
      subst hg
      subst hg2
      have := hb1.symm.trans hb2
      simp at this
      exact he this.2
end Go.Proofs.YtckpeclkkmapiaaGreatDoor
