/-
  A writer that goes on beside two lists of what it answered.
-/
import Derived.Test.YtdgcnghjjbpekaaHeld
namespace Go.Proofs.Ytdgcnghjjbpekaa
open Go.RowKit
open Go

/-- A writer, two rows of lists of bytes, and some more lists, all the call's own. -/
structure KIp (W : World) (pw : Nat) (L : List Bool) (d1 d2 : List (List Nat)) (va vt : Value) (ex : List (Value × List Nat)) (pr : Nat) (v : Value) (vs ts : List Value) (w : World) : Prop where
  wri : WriAt W.heap.size pw pr v L w
  own : W.heap.size ≤ pw
  bel : Below W.heap.size W w
  o1 : w.ownsRow W.heap.size 23 1 va d1.length vs
  o2 : w.ownsRow W.heap.size 23 1 vt d2.length ts
  k1 : KeptN (foot pr v) w vs d1
  k2 : KeptN (foot pr v) w ts d2
  apart : ∀ g, va.ownBlock = some g → vt.ownBlock ≠ some g
  more : ∀ x ∈ ex, Kept1 (foot pr v) w x.1 x.2
def KI (W : World) (pw : Nat) (L : List Bool) (d1 d2 : List (List Nat)) (va vt : Value) (ex : List (Value × List Nat)) (w : World) : Prop := ∃ pr v vs ts, KIp W pw L d1 d2 va vt ex pr v vs ts w
section
variable {W : World} {pw : Nat} {L : List Bool} {d1 d2 : List (List Nat)} {va vt : Value} {ex : List (Value × List Nat)} {w : World}
theorem KI.below (h : KI W pw L d1 d2 va vt ex w) {w' : World} (hb : Below w.heap.size w w') : KI W pw L d1 d2 va vt ex w' := by
  obtain ⟨pr, v, vs, ts, h⟩ := h
  refine ⟨pr, v, vs, ts, h.wri.below hb, h.own, bnext h.bel hb, owns_only h.o1 (Below.only hb fun _ => False) (fun _ _ _ _ x => x), owns_only h.o2 (Below.only hb fun _ => False) (fun _ _ _ _ x => x), h.k1.below hb, h.k2.below hb, h.apart, fun x hx => ?_⟩
  exact (h.more x hx).step (Below.only hb fun _ => False) fun _ _ hn _ => ⟨fun y => y, hn⟩
theorem KI.bl (h : KI W pw L d1 d2 va vt ex w) : Below W.heap.size W w := by
  obtain ⟨_, _, _, _, h⟩ := h
  exact h.bel
theorem KI.drop (h : KI W pw L d1 d2 va vt ex w) : KI W pw L d1 d2 va vt [] w := by
  obtain ⟨pr, v, vs, ts, h⟩ := h
  exact ⟨pr, v, vs, ts, h.wri, h.own, h.bel, h.o1, h.o2, h.k1, h.k2, h.apart, by simp⟩
theorem put_KI (n k : Nat) (h : KI W pw L d1 d2 va vt ex w) (hn : n < 2 ^ k) (hk : k ≤ 64) (hm : L.length + k < 1000000) :
    Calls Try.prog 11 #[.pointer (some ⟨pw, 0, none⟩), .int .u64 n, .int .i64 k] w fun e w' => e = .returned (.int .i64 0) ∧ KI W pw (L ++ nbits n k) d1 d2 va vt ex w' := by
  obtain ⟨pr, v, vs, ts, h⟩ := h
  refine (put_ok _ pw pr v L n k w h.wri hn hk hm h.bel.size).mono ?_
  rintro e w' ⟨rfl, v', q1, q2⟩
  have hu : ∀ g, g < w.heap.size → ¬ foot pr v g → (∃ c fr, w.heap[g]? = some (.cells c 5 fr)) → ¬ foot pr v g ∧ ¬ foot pr v' g := by
    intro g hg hn _
    refine ⟨hn, ?_⟩
    rintro (rfl | e)
    · exact hn (.inl rfl)
    · rcases q2.own with e2 | ⟨g2, e2, hg2⟩
      · exact hn (.inr (e2 ▸ e))
      · rw [e2] at e
        cases e
        omega
  have hs : ∀ (g : Nat) (c : Array Value) (fr : Nat × Nat), w.heap[g]? = some (.cells c 23 fr) → ¬ foot pr v g := fun g c fr hg => not_foot h.wri.2 hg (by decide) (by decide)
  exact ⟨rfl, pr, v', vs, ts, q1, h.own, h.bel.trans (q2.only.below h.wri.2.foot_ge h.bel.size), owns_only h.o1 q2.only hs, owns_only h.o2 q2.only hs, h.k1.step q2.only hu, h.k2.step q2.only hu, h.apart, fun x hx => (h.more x hx).step q2.only hu⟩
/-- A row of bytes that is new is out of reach. -/
theorem kept_new {S : Nat → Prop} {w0 w1 : World} {b : Value} {d : List Nat} {n : Nat} (ho : w1.ownsRow w0.heap.size 5 1 b n (by8 (iN d))) (hs : ∀ k, S k → k < w0.heap.size) : Kept1 S w1 b d := by
  refine ⟨own_rd ho, fun g hg => ?_⟩
  obtain ⟨h1, c, h2⟩ := owns_block ho g hg
  exact ⟨fun h => by have := hs g h; omega, c, _, h2⟩
theorem bytes_KI (h : KI W pw L d1 d2 va vt ex w) :
    Calls Try.prog 13 #[.pointer (some ⟨pw, 0, none⟩)] w fun e w' => ∃ b, e = .returned b ∧ KI W pw L d1 d2 va vt ((b, pack L) :: ex) w' := by
  obtain ⟨pr, v, vs, ts, h⟩ := h
  refine (bytes_any _ pw pr v L w h.wri).mono ?_
  rintro e w' ⟨b, rfl, q1, q2⟩
  obtain ⟨pr', v', vs', ts', h'⟩ := KI.below ⟨pr, v, vs, ts, h⟩ q2
  have hu : ∀ {vs : List Value} {d : List (List Nat)}, KeptN (foot pr v) w vs d → KeptN (foot pr v) w' vs d := fun k => k.below q2
  refine ⟨b, rfl, pr, v, vs, ts, h.wri.below q2, h.own, bnext h.bel q2, owns_only h.o1 (Below.only q2 fun _ => False) (fun _ _ _ _ x => x), owns_only h.o2 (Below.only q2 fun _ => False) (fun _ _ _ _ x => x), hu h.k1, hu h.k2, h.apart, ?_⟩
  intro x hx
  rcases List.mem_cons.1 hx with rfl | hx
  · exact kept_new q1 fun k hk => h.wri.2.foot_lt k hk
  · exact (h.more x hx).step (Below.only q2 fun _ => False) fun _ _ hn _ => ⟨fun y => y, hn⟩
theorem twin_KI (b : Value) (d : List Nat) (h : KI W pw L d1 d2 va vt ((b, d) :: ex) w) (hL : d.length ≤ 140737488351232) :
    Calls Try.prog 17 #[b] w fun e w' => ∃ t, e = .returned t ∧ KI W pw L d1 d2 va vt ((t, d) :: (b, d) :: ex) w' := by
  obtain ⟨pr, v, vs, ts, h⟩ := h
  have hb := h.more (b, d) (by simp)
  refine (twinB_any b (iN d) w hb.rd (by simpa using hL)).mono ?_
  rintro e w' ⟨t, rfl, q2, q3⟩
  have hu : ∀ {vs : List Value} {d : List (List Nat)}, KeptN (foot pr v) w vs d → KeptN (foot pr v) w' vs d := fun k => k.below q2
  refine ⟨t, rfl, pr, v, vs, ts, h.wri.below q2, h.own, bnext h.bel q2, owns_only h.o1 (Below.only q2 fun _ => False) (fun _ _ _ _ x => x), owns_only h.o2 (Below.only q2 fun _ => False) (fun _ _ _ _ x => x), hu h.k1, hu h.k2, h.apart, ?_⟩
  intro x hx
  rcases List.mem_cons.1 hx with rfl | hx
  · refine ⟨q3.rd (by simpa using hL), fun g hg => ?_⟩
    obtain ⟨rfl, q4⟩ := q3
    cases hg
    exact ⟨fun hf => Nat.lt_irrefl w.heap.size (h.wri.2.foot_lt _ hf), _, _, q4⟩
  · exact (h.more x hx).step (Below.only q2 fun _ => False) fun _ _ hn _ => ⟨fun y => y, hn⟩
/-- One list more behind the first row. -/
theorem KIp.app {pr : Nat} {v : Value} {vs ts : List Value} (h : KIp W pw L d1 d2 va vt ex pr v vs ts w) {b : Value} {d : List Nat} (hb : (b, d) ∈ ex) (o : Obj) {va' : Value} {w1 : World}
    (hown : w1.ownsRow W.heap.size 23 1 va' (d1.length + 1) (vs ++ [b])) (hg : (w.alloc o).grownBy w1 va.ownBlock) (hv : va'.ownBlock = va.ownBlock ∨ va'.ownBlock = some (w.alloc o).heap.size) :
    KI W pw L (d1 ++ [d]) d2 va' vt ex w1 := by
  have ho : Only (fun k => va.ownBlock = some k) w w1 := ((Only.refl _ w).alloc o).grown hg fun k e _ => e
  have hty : ∀ g, va.ownBlock = some g → ∃ c, w.heap[g]? = some (.cells c 23 (0, 0)) := fun g e => (owns_block h.o1 g e).2
  have hu : ∀ g, g < w.heap.size → ¬ foot pr v g → (∃ c fr, w.heap[g]? = some (.cells c 5 fr)) → ¬ va.ownBlock = some g ∧ ¬ foot pr v g := by
    rintro g _ hn ⟨c, fr, hc⟩
    refine ⟨fun e => ?_, hn⟩
    obtain ⟨c2, h2⟩ := hty g e
    rw [hc] at h2
    simp at h2
  have hf : ∀ k, foot pr v k → ¬ va.ownBlock = some k := by
    intro k hk e
    obtain ⟨c2, h2⟩ := hty k e
    exact not_foot h.wri.2 h2 (by decide) (by decide) hk
  have hp : ¬ va.ownBlock = some pw := by
    intro e
    obtain ⟨c2, h2⟩ := hty pw e
    have := h.wri.1.symm.trans h2
    simp at this
  refine ⟨pr, v, vs ++ [b], ts, h.wri.kept ho hf hp, h.own, h.bel.trans (ho.below (fun k e => (owns_block h.o1 k e).1) h.bel.size), by simpa using hown, ownsRow_kept h.o2 fun g e => ?_, (h.k1.step ho hu).snoc ((h.more _ hb).step ho hu), h.k2.step ho hu, ?_, fun x hx => (h.more x hx).step ho hu⟩
  · obtain ⟨_, c, hc⟩ := owns_block h.o2 g e
    exact ho.block g (lt_of_block hc) fun e2 => h.apart g e2 e
  · intro g e e2
    rcases hv with hv | hv
    · exact h.apart g (hv ▸ e) e2
    · rw [hv] at e
      cases e
      obtain ⟨_, c, hc⟩ := owns_block h.o2 _ e2
      have := lt_of_block hc
      simp at this
      omega
theorem KI.swap (h : KI W pw L d1 d2 va vt ex w) : KI W pw L d2 d1 vt va ex w := by
  obtain ⟨pr, v, vs, ts, h⟩ := h
  exact ⟨pr, v, ts, vs, h.wri, h.own, h.bel, h.o2, h.o1, h.k2, h.k1, fun g e e2 => h.apart g e2 e, h.more⟩
end
end Go.Proofs.Ytdgcnghjjbpekaa
