/-
  What lies in memory while BusRound goes on: what is sent (twins), what came of it, and the book of lists; all of them apart. Both ways of a round.
-/
import Derived.Test.YtafamnodeliaaaaGreatDoorRefRnd22B
import Derived.Test.YtafamnodeliaaaaGreatDoorTwinF22
import Derived.Test.YtafamnodeliaaaaGreatDoorTwinL
import Derived.Test.YtafamnodeliaaaaGreatDoorApB
import Derived.Test.YtafamnodeliaaaaGreatDoorBusLives
namespace Go.Proofs.YtafamnodeliaaaaGreatDoor
open Go.RowKit
open Go

theorem Only.tn {S : Nat → Prop} {w w' : World} (h : Only S w w') : Tn S w w' := ⟨h.os, h.tape, h.output, h.size, h.block⟩
theorem KAt.only {K : Kd} {base : Nat} {s : Value} {its : List It} {ph : Nat → Ph} {w w' : World} (h : KAt K base s its ph w) {S : Nat → Prop} (ho : Tn S w w') (h1 : ∀ it ∈ its, ∀ x, it.has x → ¬ S x) (h2 : ∀ g c, w.heap[g]? = some (.cells c K.tH (0, 0)) → ¬ S g) : KAt K base s its ph w' := by
  refine ⟨owns_keep h.row fun g hg => ?_, fun i it hi => ?_, h.apart⟩
  · obtain ⟨_, c, hc⟩ := owns_at h.row hg
    exact ho.block g (lt_of_block hc) (h2 g c hc)
  · obtain ⟨a1, a2⟩ := h.each i it hi
    refine ⟨a1.keep fun b hb => ?_, a2⟩
    obtain ⟨_, c, hc⟩ := a1.owns hb
    exact ho.block b (lt_of_block hc) (h1 it (List.mem_of_getElem? hi) b hb)
theorem BkB.only {base g m : Nat} {its : List It} {w w' : World} (h : BkB base g m its w) {S : Nat → Prop} (ho : Tn S w w') (h1 : ∀ it ∈ its, ∀ x, it.has x → ¬ S x) (h2 : ∀ g c, w.heap[g]? = some (.cells c kByte.tH (0, 0)) → ¬ S g) (h3 : ∀ g c, w.heap[g]? = some (.cells c 46 (0, 0)) → ¬ S g) : BkB base g m its w' := by
  obtain ⟨⟨s, a1, a2⟩, a3, a4⟩ := h
  exact ⟨⟨s, (ho.block g (lt_of_block a1) (h3 g _ a1)).trans a1, a2.only ho h1 h2⟩, a3, Nat.le_trans a4 ho.size⟩
theorem Own.rd {w : World} {base : Nat} {e : TypeId} {v : Value} {n : Nat} {xs : List Value} (h : Own w base e 1 v n xs) : Rd w v xs := by
  have hl : xs.length = n := by rw [h.1, Nat.mul_one]
  rcases h.2 with ⟨a, rfl, rfl⟩ | ⟨g, c, cur, rfl, hc, hb, hg, hn, hm, hs, ht⟩
  · obtain rfl := List.eq_nil_of_length_eq_zero hl
    exact ⟨a, 0, rfl, by simp, by simp [maxLen], by simp, by simp⟩
  · refine rd_block xs n c hg hl.symm (fun i x hx => ?_) hn hm
    rw [← ht, Nat.mul_one, List.getElem?_take] at hx
    split at hx
    · simpa using hx
    · cases hx
theorem room_own {v : Value} {x : Nat} (h : roomOf v = some x) : v.ownBlock = some x := by
  unfold roomOf at h
  split at h
  · exact h
  · cases h
theorem OwnB.own {w : World} {base : Nat} {v : Value} {cs : List Int} (h : OwnB w base v cs) : Own w base 5 1 v cs.length (by8 cs) := by
  refine ⟨by simp, ?_⟩
  rcases h with ⟨rfl, rfl⟩ | ⟨g, c, cur, rfl, h1, h2, h3, h4, h5, h6⟩
  · exact .inl ⟨none, rfl, rfl⟩
  · rcases Nat.eq_zero_or_pos c with rfl | hc
    · have : cs.length = 0 := by omega
      exact .inl ⟨_, by rw [this], this⟩
    · exact .inr ⟨g, c, cur, rfl, hc, h1, h2, h3, h4, by omega, by simpa using h6⟩
theorem TwinB.ownB {w : World} {g base : Nat} {v : Value} {cs : List Int} (h : TwinB w g v cs) (hb : base ≤ g) (hL : cs.length ≤ 140737488351232) : OwnB w base v cs := by
  obtain ⟨rfl, h⟩ := h
  exact .inr ⟨g, cs.length + 1, _, rfl, hb, h, by omega, by unfold maxLen; omega, by simp, by simp⟩
theorem OwnB.away {w w' : World} {base : Nat} {v : Value} {cs : List Int} (h : OwnB w base v cs) {T : TypeId → Prop} (t : TnT base T w w') (he : ¬ T 5) : OwnB w' base v cs := by
  rcases h with h | ⟨g, c, cur, e, h1, h2, r⟩
  · exact .inl h
  · exact .inr ⟨g, c, cur, e, h1, t.keep h2 he, r⟩

/-- What is sent, as twins; the book, empty yet. -/
structure SJ (W : World) (gb : Nat) (xc : Array Value) (vo : Value) (ss : List Value) (os : List (List Int)) (w : World) : Prop where
  rj : RJ W vo ss os w
  tw : ∀ (j : Nat) (u : Value) (c : List Int), ss[j]? = some u → os[j]? = some c → ∃ g, TwinB w g u c
  bk : BkB W.heap.size gb 0 [] w
  kx : w.heap[W.heap.size]? = some (.cells xc 25 (0, 0))
section
variable {W : World} {gb : Nat} {xc : Array Value} {vo vo' v : Value} {ss : List Value} {os : List (List Int)} {w w1 w' : World} {c : List Int}
theorem SJ.below (h : SJ W gb xc vo ss os w) (hb : Below w.heap.size w w') : SJ W gb xc vo ss os w' :=
  ⟨h.rj.below hb, fun j u c hu hc => by
    obtain ⟨g, t⟩ := h.tw j u c hu hc
    exact ⟨g, t.below hb⟩, h.bk.below hb, (hb.block _ (lt_of_block h.kx)).trans h.kx⟩
theorem SJ.step (h : SJ W gb xc vo ss os w) (b1 : Below w.heap.size w w1) (t : TwinB w1 w.heap.size v c) (hL : c.length ≤ 140737488351232) (o : Obj)
    (hown : w'.ownsRow W.heap.size 47 1 vo' (ss.length + 1) (ss ++ [v])) (hg : (w1.alloc o).grownBy w' vo.ownBlock) : SJ W gb xc vo' (ss ++ [v]) (os ++ [c]) w' := by
  have h1 := h.below b1
  have hl := h.rj.outs.len
  have hi : InHand W ss w1 v c := ⟨t.ownB h.rj.bel.size hL, fun j u hu g hg e => by
    have := lt_of_block (h.rj.outs.blocks j u hu g hg).2.choose_spec
    rw [t.1] at e
    cases e
    exact Nat.lt_irrefl _ this⟩
  have ho : Only (fun k => vo.ownBlock = some k) w1 w' := ((Only.refl _ w1).alloc o).grown hg fun k e _ => e
  have hty : ∀ k, vo.ownBlock = some k → ∃ cur, w1.heap[k]? = some (.cells cur 47 (0, 0)) := by
    intro k e
    obtain ⟨_, c, hc⟩ := owns_at h1.rj.out e
    exact ⟨c, hc⟩
  have hne : ∀ (g : Nat) (cu : Array Value) (ty : TypeId), w1.heap[g]? = some (.cells cu ty (0, 0)) → ty ≠ 47 → ¬ vo.ownBlock = some g := by
    intro g cu ty hg hty' e
    obtain ⟨c2, h2⟩ := hty g e
    have := hg.symm.trans h2
    simp only [Option.some.injEq, Obj.cells.injEq] at this
    exact hty' this.2.1
  have keepT : ∀ g u c, TwinB w1 g u c → TwinB w' g u c := fun g u c t => ⟨t.1, (ho.block g (lt_of_block t.2) (hne g _ _ t.2 (by decide))).trans t.2⟩
  refine ⟨h1.rj.app hi o hown hg, fun j u d hu hd => ?_, h1.bk.only ho.tn (by simp) (fun g c hc => hne g c _ hc (by decide)) (fun g c hc => hne g c _ hc (by decide)), (ho.block _ (lt_of_block h1.kx) (hne _ _ _ h1.kx (by decide))).trans h1.kx⟩
  by_cases hj : j < ss.length
  · rw [List.getElem?_append_left hj] at hu
    rw [List.getElem?_append_left (by omega)] at hd
    obtain ⟨g, t⟩ := h1.tw j u d hu hd
    exact ⟨g, keepT g u d t⟩
  · have hj2 := (List.getElem?_eq_some_iff.1 hu).1
    simp at hj2
    obtain rfl : j = ss.length := by omega
    simp at hu
    rw [hl] at hd
    simp at hd
    subst hu hd
    exact ⟨_, keepT _ _ _ t⟩
end

/-- Lists of bytes, apart. -/
structure Pool (base : Nat) (ps : List (Value × List Int)) (w : World) : Prop where
  each : ∀ (j : Nat) (p : Value × List Int), ps[j]? = some p → OwnB w base p.1 p.2
  apart : ∀ (i j : Nat) (p q : Value × List Int), i ≠ j → ps[i]? = some p → ps[j]? = some q → ∀ x, roomOf p.1 = some x → roomOf q.1 ≠ some x
theorem Pool.away {base : Nat} {ps : List (Value × List Int)} {w w' : World} (h : Pool base ps w) {T : TypeId → Prop} (t : TnT base T w w') (he : ¬ T 5) : Pool base ps w' :=
  ⟨fun j p hp => (h.each j p hp).away t he, h.apart⟩
theorem Pool.below {base : Nat} {ps : List (Value × List Int)} {w w' : World} (h : Pool base ps w) (hb : Below w.heap.size w w') : Pool base ps w' :=
  ⟨fun j p hp => (h.each j p hp).below hb, h.apart⟩
/-- The book's lists, k of them. -/
def itsOf (ps : List (Value × List Int)) (k : Nat) : List It := (ps.take k).mapIdx fun j p => ⟨p.1, .slice none 0 0, p.2.length, j + 1⟩
theorem itsOf_zero (ps : List (Value × List Int)) : itsOf ps 0 = [] := rfl
theorem itsOf_len (ps : List (Value × List Int)) (k : Nat) (h : k ≤ ps.length) : (itsOf ps k).length = k := by
  unfold itsOf
  rw [List.length_mapIdx, List.length_take]
  omega
theorem itsOf_succ (ps : List (Value × List Int)) (k : Nat) (h : k < ps.length) : itsOf ps (k + 1) = itsOf ps k ++ [⟨ps[k].1, .slice none 0 0, ps[k].2.length, k + 1⟩] := by
  unfold itsOf
  rw [take_snoc _ _ h, List.mapIdx_append]
  simp
  omega
theorem itsOf_get (ps : List (Value × List Int)) (k i : Nat) (a : It) (h : (itsOf ps k)[i]? = some a) : ∃ p, i < k ∧ ps[i]? = some p ∧ a = ⟨p.1, .slice none 0 0, p.2.length, i + 1⟩ := by
  unfold itsOf at h
  rw [List.getElem?_mapIdx, List.getElem?_take] at h
  split at h
  · cases hp : ps[i]? with
    | none => rw [hp] at h; cases h
    | some p =>
      rw [hp] at h
      exact ⟨p, by assumption, rfl, (Option.some.inj h).symm⟩
  · cases h
theorem pool_keep {base gb k : Nat} {ps : List (Value × List Int)} {w : World} (hb : BkB base gb k (itsOf ps k) w) (hp : Pool base ps w) {v : Value} {cs : List Int} (hk : ps[k]? = some (v, cs)) (hm : ps.length ≤ 1000) (hn : cs.length ≤ 1000000) :
    Calls Tryz.prog 12 #[.pointer (some ⟨gb, 0, none⟩), v] w fun e w' => e = .returned (.tuple #[]) ∧ BkB base gb (k + 1) (itsOf ps (k + 1)) w' ∧ TnT base (fun t => t = 46 ∨ t = kByte.tH) w w' := by
  have hlt := (List.getElem?_eq_some_iff.1 hk).1
  have hkv : ps[k] = (v, cs) := (List.getElem?_eq_some_iff.1 hk).2
  have := bkB_keepByte hb (by omega) (by rw [itsOf_len _ _ (by omega)]; omega) (hp.each k _ hk).own hn (fun i a hi x hx => by
    obtain ⟨p, hik, hpi, rfl⟩ := itsOf_get _ _ _ _ hi
    rcases hx with hx | hx
    · exact hp.apart i k p _ (by omega) hpi hk x hx
    · cases hx)
  refine this.mono ?_
  rintro e w' ⟨he, h1, h2⟩
  refine ⟨he, ?_, h2⟩
  rw [itsOf_succ _ _ hlt, hkv]
  exact h1

/-- What lies in memory behind the two rounds: k lists are held. -/
structure QJ (W : World) (gb gf : Nat) (xc : Array Value) (va vb vo vf : Value) (vs ws ss : List Value) (os css : List (List Int)) (fs : List Fl) (k : Nat) (w : World) : Prop where
  bel : Below W.heap.size W w
  kx : w.heap[W.heap.size]? = some (.cells xc 25 (0, 0))
  bk : BkB W.heap.size gb k (itsOf (vs.zip os ++ ss.zip css) k) w
  pool : Pool W.heap.size (vs.zip os ++ ss.zip css) w
  a : Own w W.heap.size 47 1 va vs.length vs
  b : Own w W.heap.size 47 1 vb ws.length ws
  s : Own w W.heap.size 47 1 vo ss.length ss
  bo : ∀ (j : Nat) (v : Value) (c : List Int), ws[j]? = some v → os[j]? = some c → OwnB w W.heap.size v c
  tw : ∀ (j : Nat) (u : Value) (c : List Int), ss[j]? = some u → css[j]? = some c → ∃ g, W.heap.size ≤ g ∧ TwinB w g u c
  fl : TwinFl w gf vf fs ∧ W.heap.size ≤ gf
section
variable {W : World} {gb gf : Nat} {xc : Array Value} {va vb vo vf : Value} {vs ws ss : List Value} {os css : List (List Int)} {fs : List Fl} {k : Nat} {w w' : World}
theorem QJ.below (h : QJ W gb gf xc va vb vo vf vs ws ss os css fs k w) (hb : Below w.heap.size w w') : QJ W gb gf xc va vb vo vf vs ws ss os css fs k w' :=
  ⟨bnext h.bel hb, (hb.block _ (lt_of_block h.kx)).trans h.kx, h.bk.below hb, h.pool.below hb, h.a.below hb, h.b.below hb, h.s.below hb, fun j v c hv hc => (h.bo j v c hv hc).below hb, fun j u c hu hc => by
    obtain ⟨g, hg, t⟩ := h.tw j u c hu hc
    exact ⟨g, hg, t.below hb⟩, h.fl.1.below hb, h.fl.2⟩
theorem QJ.away (h : QJ W gb gf xc va vb vo vf vs ws ss os css fs k w) (hb : BkB W.heap.size gb (k + 1) (itsOf (vs.zip os ++ ss.zip css) (k + 1)) w') (t : TnT W.heap.size (fun t => t = 46 ∨ t = kByte.tH) w w') :
    QJ W gb gf xc va vb vo vf vs ws ss os css fs (k + 1) w' :=
  ⟨h.bel.trans (TnT.toBelow t h.bel.size), t.keep h.kx (by decide), hb, h.pool.away t (by decide), h.a.away t (by decide), h.b.away t (by decide), h.s.away t (by decide), fun j v c hv hc => (h.bo j v c hv hc).away t (by decide), fun j u c hu hc => by
    obtain ⟨g, hg, tw⟩ := h.tw j u c hu hc
    exact ⟨g, hg, tw.1, t.keep tw.2 (by decide)⟩, ⟨h.fl.1.1, t.keep h.fl.1.2 (by decide)⟩, h.fl.2⟩
end
end Go.Proofs.YtafamnodeliaaaaGreatDoor
