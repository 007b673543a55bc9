/-
  A writer of bits, the reference's bits, and a book of answers, side by side in memory: what each one's turn leaves.
-/
import Derived.Test.YtdgcnghjjbpekaaGreatDoorApB
import Derived.Test.YtdgcnghjjbpekaaGreatDoorRefBits
import Derived.Test.YtdgcnghjjbpekaaGreatDoorBitsLen
import Derived.Test.YtdgcnghjjbpekaaGreatDoorBitsPut
namespace Go.Proofs.YtdgcnghjjbpekaaGreatDoor
open Go.RowKit
open Go

theorem Only.tn {S : Nat → Prop} {w w' : World} (h : Only S w w') : Tn S w w' := ⟨h.os, h.tape, h.output, h.size, h.block⟩
theorem Tn.only {S : Nat → Prop} {w w' : World} (h : Tn S w w') : Only S w w' := ⟨h.os, h.tape, h.output, h.size, h.block⟩
theorem KAt.only {K : Kd} {base : Nat} {s : Value} {its : List It} {ph : Nat → Ph} {w w' : World} (h : KAt K base s its ph w) {S : Nat → Prop} (ho : Tn S w w') (h1 : ∀ it ∈ its, ∀ x, it.has x → ¬ S x) (h2 : ∀ g c, w.heap[g]? = some (.cells c K.tH (0, 0)) → ¬ S g) : KAt K base s its ph w' := by
  refine ⟨owns_keep h.row fun g hg => ?_, fun i it hi => ?_, h.apart⟩
  · obtain ⟨_, c, hc⟩ := owns_at h.row hg
    exact ho.block g (lt_of_block hc) (h2 g c hc)
  · obtain ⟨a1, a2⟩ := h.each i it hi
    refine ⟨a1.keep fun b hb => ?_, a2⟩
    obtain ⟨_, c, hc⟩ := a1.owns hb
    exact ho.block b (lt_of_block hc) (h1 it (List.mem_of_getElem? hi) b hb)
theorem BkB.only {base g m : Nat} {its : List It} {w w' : World} (h : BkB base g m its w) {S : Nat → Prop} (ho : Tn S w w') (h1 : ∀ it ∈ its, ∀ x, it.has x → ¬ S x) (h2 : ∀ g c, w.heap[g]? = some (.cells c kByte.tH (0, 0)) → ¬ S g) (h3 : ∀ g c, w.heap[g]? = some (.cells c 47 (0, 0)) → ¬ S g) : BkB base g m its w' := by
  obtain ⟨⟨s, a1, a2⟩, a3, a4⟩ := h
  exact ⟨⟨s, (ho.block g (lt_of_block a1) (h3 g _ a1)).trans a1, a2.only ho h1 h2⟩, a3, Nat.le_trans a4 ho.size⟩
theorem BkB.held {base g m : Nat} {its : List It} {w : World} (h : BkB base g m its w) {it : It} (hi : it ∈ its) {x : Nat} (hx : it.has x) : x < w.heap.size ∧ ∃ c, w.heap[x]? = some (.cells c 5 (0, 0)) := by
  obtain ⟨⟨s, a1, a2⟩, a3, a4⟩ := h
  obtain ⟨i, hi'⟩ := List.getElem?_of_mem hi
  obtain ⟨_, c, hc⟩ := (a2.each i it hi').1.owns hx
  exact ⟨lt_of_block hc, c, hc⟩
theorem RefAt.types {B p : Nat} {v : Value} {L : List Bool} {w : World} (h : RefAt B p v L w) (k : Nat) (hk : foot p v k) : ∃ c t, w.heap[k]? = some (.cells c t (0, 0)) ∧ (t = 28 ∨ t = 5) := by
  rcases hk with rfl | hk
  · exact ⟨_, _, h.box, .inl rfl⟩
  · obtain ⟨_, c, hc⟩ := owns_block h.owns k hk
    exact ⟨_, _, hc, .inr rfl⟩

structure PIp (W : World) (pw p g : Nat) (L M : List Bool) (i pr : Nat) (v vr : Value) (its : List It) (w : World) : Prop where
  wri : WriAt W.heap.size pw pr v L w
  ref : RefAt W.heap.size p vr M w
  bk : BkB W.heap.size g i its w
  len : its.length = i
  bel : Below W.heap.size W w
  apart : ∀ k, foot pr v k → ¬ foot p vr k
  held : ∀ it ∈ its, ∀ x, it.has x → ¬ foot pr v x ∧ ¬ foot p vr x
/-- What lies between two steps. -/
def PI (W : World) (pw p g : Nat) (L M : List Bool) (i : Nat) (w : World) : Prop := ∃ pr v vr its, PIp W pw p g L M i pr v vr its w
section
variable {W : World} {pw p g : Nat} {L M : List Bool} {i pr : Nat} {v vr : Value} {its : List It} {w w' : World}
theorem PIp.below (h : PIp W pw p g L M i pr v vr its w) (hb : Below w.heap.size w w') : PIp W pw p g L M i pr v vr its w' :=
  ⟨h.wri.below hb, h.ref.below hb, h.bk.below hb, h.len, bnext h.bel hb, h.apart, h.held⟩
theorem PI.below (h : PI W pw p g L M i w) (hb : Below w.heap.size w w') : PI W pw p g L M i w' := by
  obtain ⟨pr, v, vr, its, h⟩ := h
  exact ⟨pr, v, vr, its, h.below hb⟩
theorem PI.bel (h : PI W pw p g L M i w) : Below W.heap.size W w := by
  obtain ⟨pr, v, vr, its, h⟩ := h
  exact h.bel
theorem PIp.stepW (h : PIp W pw p g L M i pr v vr its w) {v' : Value} {L' : List Bool} (hr : WriAt W.heap.size pw pr v' L' w') (s : Step pr v v' w w') : PIp W pw p g L' M i pr v' vr its w' := by
  have key : ∀ k, foot pr v' k → foot pr v k ∨ w.heap.size ≤ k := by
    rintro k (rfl | hk)
    · exact .inl (.inl rfl)
    · rcases s.own with e | ⟨g', e, hg⟩
      · exact .inl (.inr (e ▸ hk))
      · rw [e] at hk
        cases hk
        exact .inr hg
  refine ⟨hr, h.ref.kept s.only fun k hk hk2 => h.apart k hk2 hk, h.bk.only s.only.tn (fun it hi x hx => (h.held it hi x hx).1) ?_ ?_, h.len, h.bel.trans (s.only.below h.wri.2.foot_ge h.bel.size), ?_, ?_⟩
  · intro g c hc hf
    obtain ⟨c', t, hc', ht⟩ := cells_of_foot h.wri.2 g hf
    have := hc.symm.trans hc'
    simp only [Option.some.injEq, Obj.cells.injEq] at this
    rcases ht with rfl | rfl
    · exact absurd this.2.1 (by decide)
    · exact absurd this.2.1 (by decide)
  · intro g c hc hf
    obtain ⟨c', t, hc', ht⟩ := cells_of_foot h.wri.2 g hf
    have := hc.symm.trans hc'
    simp only [Option.some.injEq, Obj.cells.injEq] at this
    rcases ht with rfl | rfl
    · exact absurd this.2.1 (by decide)
    · exact absurd this.2.1 (by decide)
  · intro k hk hk2
    rcases key k hk with hk | hk
    · exact h.apart k hk hk2
    · have := (h.ref.foot_lt k hk2).2
      omega
  · intro it hi x hx
    refine ⟨fun hk => ?_, (h.held it hi x hx).2⟩
    rcases key x hk with hk | hk
    · exact (h.held it hi x hx).1 hk
    · have := (h.bk.held hi hx).1
      omega
theorem PIp.stepR (h : PIp W pw p g L M i pr v vr its w) {vr' : Value} {M' : List Bool} (hr : RefAt W.heap.size p vr' M' w') (s : Step p vr vr' w w') : PIp W pw p g L M' i pr v vr' its w' := by
  have key : ∀ k, foot p vr' k → foot p vr k ∨ w.heap.size ≤ k := by
    rintro k (rfl | hk)
    · exact .inl (.inl rfl)
    · rcases s.own with e | ⟨g', e, hg⟩
      · exact .inl (.inr (e ▸ hk))
      · rw [e] at hk
        cases hk
        exact .inr hg
  refine ⟨h.wri.kept s.only (fun k hk hk2 => h.apart k hk hk2) ?_, hr, h.bk.only s.only.tn (fun it hi x hx => (h.held it hi x hx).2) ?_ ?_, h.len, h.bel.trans (s.only.below (fun k hk => (h.ref.foot_lt k hk).1) h.bel.size), ?_, ?_⟩
  · intro hf
    obtain ⟨c', t, hc', ht⟩ := h.ref.types pw hf
    have := h.wri.1.symm.trans hc'
    simp only [Option.some.injEq, Obj.cells.injEq] at this
    rcases ht with rfl | rfl
    · exact absurd this.2.1 (by decide)
    · exact absurd this.2.1 (by decide)
  · intro g c hc hf
    obtain ⟨c', t, hc', ht⟩ := h.ref.types g hf
    have := hc.symm.trans hc'
    simp only [Option.some.injEq, Obj.cells.injEq] at this
    rcases ht with rfl | rfl
    · exact absurd this.2.1 (by decide)
    · exact absurd this.2.1 (by decide)
  · intro g c hc hf
    obtain ⟨c', t, hc', ht⟩ := h.ref.types g hf
    have := hc.symm.trans hc'
    simp only [Option.some.injEq, Obj.cells.injEq] at this
    rcases ht with rfl | rfl
    · exact absurd this.2.1 (by decide)
    · exact absurd this.2.1 (by decide)
  · intro k hk hk2
    rcases key k hk2 with hk2 | hk2
    · exact h.apart k hk hk2
    · have := h.wri.2.foot_lt k hk
      omega
  · intro it hi x hx
    refine ⟨(h.held it hi x hx).1, fun hk => ?_⟩
    rcases key x hk with hk | hk
    · exact (h.held it hi x hx).2 hk
    · have := (h.bk.held hi hx).1
      omega
/-- An answer is kept. -/
theorem PIp.keep (h : PIp W pw p g L M i pr v vr its w) {it : It} {m : Nat} (hb : BkB W.heap.size g m (its ++ [it]) w') (t : TnT W.heap.size (fun t => t = 47 ∨ t = kByte.tH) w w') (hm : m = i + 1)
    (hn : ∀ x, it.has x → ¬ foot pr v x ∧ ¬ foot p vr x) : PIp W pw p g L M (i + 1) pr v vr (its ++ [it]) w' := by
  subst hm
  have hno : ∀ k c t', w.heap[k]? = some (.cells c t' (0, 0)) → t' ≠ 47 → t' ≠ kByte.tH → ¬ OfTy W.heap.size (fun t => t = 47 ∨ t = kByte.tH) w k := by
    rintro k c t' hc h1 h2 ⟨_, c2, t2, fr2, hc2, ht⟩
    have := hc.symm.trans hc2
    simp only [Option.some.injEq, Obj.cells.injEq] at this
    rcases ht with ht | ht
    · exact h1 (this.2.1.trans ht)
    · exact h2 (this.2.1.trans ht)
  refine ⟨h.wri.kept t.only (fun k hk => ?_) (hno pw _ _ h.wri.1 (by decide) (by decide)), h.ref.kept t.only fun k hk => ?_, hb, by simp [h.len], h.bel.trans (TnT.toBelow t h.bel.size), h.apart, ?_⟩
  · obtain ⟨c, t', hc, ht⟩ := cells_of_foot h.wri.2 k hk
    rcases ht with rfl | rfl
    · exact hno k c _ hc (by decide) (by decide)
    · exact hno k c _ hc (by decide) (by decide)
  · obtain ⟨c, t', hc, ht⟩ := h.ref.types k hk
    rcases ht with rfl | rfl
    · exact hno k c _ hc (by decide) (by decide)
    · exact hno k c _ hc (by decide) (by decide)
  · intro jt hi x hx
    rcases List.mem_append.1 hi with hi | hi
    · exact h.held jt hi x hx
    · simp at hi
      subst hi
      exact hn x hx
end
/-- A number is put, or refused, by both. -/
theorem puts_both (n : Nat) (k : Int) (hn : n < 2 ^ 64) : ∃ (add : List Bool) (er : Int), add.length ≤ 64 ∧
    (∀ (W : World) (pw p g : Nat) (L M : List Bool) (i : Nat) (w : World), PI W pw p g L M i w → L.length ≤ 100000 → Calls Tryz.prog 5 #[.pointer (some ⟨pw, 0, none⟩), .int .u64 n, .int .i64 k] w fun e w' => e = .returned (.int .i64 er) ∧ PI W pw p g (L ++ add) M i w') ∧
    (∀ (W : World) (pw p g : Nat) (L M : List Bool) (i : Nat) (w : World), PI W pw p g L M i w → M.length ≤ 100000 → Calls Tryz.prog 6 #[.pointer (some ⟨p, 0, none⟩), .int .u64 n, .int .i64 k] w fun e w' => e = .returned (.int .i64 er) ∧ PI W pw p g L (M ++ add) i w') := by
  by_cases hk : k < 0 ∨ 64 < k ∨ (0 ≤ k ∧ k ≤ 64 ∧ ¬ (n : Int) < 2 ^ k.toNat)
  · refine ⟨[], 1, by simp, fun W pw p g L M i w h hL => ?_, fun W pw p g L M i w h hL => ?_⟩
    · obtain ⟨pr, v, vr, its, h⟩ := h
      refine (put_no _ pw pr v L n k w h.wri hk).mono ?_
      rintro e w' ⟨rfl, b⟩
      rw [List.append_nil]
      exact ⟨rfl, _, _, _, _, h.below b⟩
    · refine (rput_no p n k w (by omega) (by omega) hk).mono ?_
      rintro e w' ⟨rfl, rfl⟩
      rw [List.append_nil]
      exact ⟨rfl, h⟩
  · obtain ⟨m, rfl⟩ := Int.eq_ofNat_of_zero_le (show 0 ≤ k by omega)
    have hm : m ≤ 64 := by omega
    have hnm : n < 2 ^ m := by
      have : (n : Int) < 2 ^ m := by
        refine Classical.byContradiction fun h => hk (.inr (.inr ⟨by omega, by omega, ?_⟩))
        simpa using h
      exact_mod_cast this
    refine ⟨nbits n m, 0, by rw [nbits_len]; exact hm, fun W pw p g L M i w h hL => ?_, fun W pw p g L M i w h hL => ?_⟩
    · obtain ⟨pr, v, vr, its, h⟩ := h
      refine (put_ok _ pw pr v L n m w h.wri hnm hm (by omega) h.bel.size).mono ?_
      rintro e w' ⟨rfl, v', q1, q2⟩
      exact ⟨rfl, _, _, _, _, h.stepW q1 q2⟩
    · obtain ⟨pr, v, vr, its, h⟩ := h
      refine (rput_ok _ p vr M n m w h.ref hnm hm (by omega) h.bel.size).mono ?_
      rintro e w' ⟨rfl, v', q1, q2⟩
      exact ⟨rfl, _, _, _, _, h.stepR q1 q2⟩
end Go.Proofs.YtdgcnghjjbpekaaGreatDoor
