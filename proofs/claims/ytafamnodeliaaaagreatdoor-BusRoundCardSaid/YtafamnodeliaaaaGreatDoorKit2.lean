/-
  More small words: an append whose source is told by what it reads as; an owned row as a reading.
-/
import Derived.Test.YtafamnodeliaaaaGreatDoorKit
import Derived.Laws.AppendOwnNone
namespace Go.Proofs.YtafamnodeliaaaaGreatDoor
open Go.RowKit

theorem own_rd {w : World} {base : Nat} {e : TypeId} {v : Value} {n : Nat} {xs : List Value} (h : w.ownsRow base e 1 v n xs) : Rd w v xs := by
  have hl : xs.length = n := by rw [h.1, Nat.mul_one]
  have h0 := h
  rcases h.2 with ⟨rfl, rfl⟩ | ⟨g, cap, cur, rfl, _, hg, hn, hm, hs, ht⟩
  · obtain rfl := List.eq_nil_of_length_eq_zero hl
    exact Rd.nil w
  · refine rd_block xs n cap hg hl.symm (fun i x hx => ?_) hn hm
    rw [← ht, Nat.mul_one, List.getElem?_take] at hx
    split at hx
    · simpa using hx
    · cases hx

/-- 'append(out, src...)', out the call's own, src whatever reads as ys. -/
theorem wpList_append_rd {P : Program} (w : World) {ops : Array Oper} {rest : List Oper} {o : Oper} {a : Act} {Q : Exit → Act → World → Prop} (hgd : o.guard = none) (s x : Operand) (t : TypeId)
    (ho : o.op = .call { callee := .builtin .append, args := #[s, x], argTypes := #[t, t] })
    (base : Nat) (e : TypeId) (i : TypeInfo) (z : Value) (bytes : Nat) (ht : P.underlying t = some (.slice e)) (hi : P.info? e = some i) (hz : i.zero = some z)
    (hsize : i.size = 1) (hby : i.bytes = bytes) (hzs : z.cells.size = 1)
    (v : Value) (n : Nat) (xs : List Value) (hs : a.eval s = v) (hown : w.ownsRow base e 1 v n xs)
    (u : Value) (ys : List Value) (hx : a.eval x = u) (hR : Rd w u ys) (h1 : ∀ y ∈ ys, y.oneCell' = true)
    (h63 : n + ys.length ≤ maxLen) (hbytes : (n + ys.length) * bytes ≤ 140737488355328) (hbase : base ≤ w.heap.size)
    (h : ∀ v' w', w'.ownsRow base e 1 v' (n + ys.length) (xs ++ ys) → w.grownBy w' v.ownBlock → wpList P ops Q rest (a.put o.dst v') w') : wpList P ops Q (o :: rest) a w := by
  obtain ⟨ao, c, rfl, hc, hm, hn, hcell⟩ := hR
  cases ao with
  | none =>
    have := hn rfl
    subst this
    obtain rfl := List.eq_nil_of_length_eq_zero (Nat.le_zero.1 hc)
    refine wpList_append_own_none hgd s x t ho base e i 1 ht hi v n xs hs hown hx ?_
    exact h v w (by simpa using hown) (World.grownBy.refl _ _)
  | some p =>
    refine wpList_append_own w hgd s x t ho base e i z 1 bytes ht hi hz hsize hby hzs (by decide) v n xs hs hown p ys.length c ys hx (by simp) (fun j y hy => ?_) h1 h63 hbytes hbase fun v' w' h2 h3 _ => h v' w' h2 h3
    obtain ⟨b, off, hp, hcl⟩ := hcell j y hy
    obtain rfl := Option.some.inj hp
    rw [Addr.add_lit]
    exact hcl

theorem oc8 (cs : List Int) (k : IntKind) : ∀ y ∈ cs.map (Value.int k), y.oneCell' = true := by
  intro y hy
  obtain ⟨x, _, rfl⟩ := List.mem_map.1 hy
  rfl
end Go.Proofs.YtafamnodeliaaaaGreatDoor
