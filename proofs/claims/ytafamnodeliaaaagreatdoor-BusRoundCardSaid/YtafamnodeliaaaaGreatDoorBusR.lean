/-
  What a round of the bus answers; what lies in memory while it is made.
-/
import Derived.Test.YtafamnodeliaaaaGreatDoorBusB
import Derived.Test.YtafamnodeliaaaaGreatDoorBitsGet
import Derived.Maps.AppendAt
namespace Go.Proofs.YtafamnodeliaaaaGreatDoor
open Go.RowKit
open Go

/-- One thing that goes wrong, with a station's bytes. -/
def stepI (st rd : Int) (cs : List Int) (f : Fl) : List Int := if f.h = 0 ∨ f.s ≠ st ∨ f.r ≠ rd then cs else if f.h = 1 then [] else spoil f cs
/-- What comes of a station's bytes. -/
def outI (fs : List Fl) (rd : Int) (i : Nat) (cs : List Int) : List Int := if fs.any (silB ((i : Int) + 1) rd) then [] else fs.foldl (stepI ((i : Int) + 1) rd) cs
theorem foldl_snoc {α β : Type} (f : β → α → β) (b : β) (l : List α) (k : Nat) (h : k < l.length) : (l.take (k + 1)).foldl f b = f ((l.take k).foldl f b) l[k] := by
  rw [take_snoc _ _ h, List.foldl_append]
  rfl
/-- A list of lists of bytes. -/
def RdB (w : World) (v : Value) (css : List (List Int)) : Prop := ∃ vs, Rd w v vs ∧ vs.length = css.length ∧ ∀ (i : Nat) (u : Value) (cs : List Int), vs[i]? = some u → css[i]? = some cs → Rd w u (by8 cs) ∧ cs.length ≤ 140737488351232
theorem RdB.below {w w' : World} {v : Value} {css : List (List Int)} (h : RdB w v css) (hb : Below w.heap.size w w') : RdB w' v css := by
  obtain ⟨vs, h1, h2, h3⟩ := h
  exact ⟨vs, h1.below hb, h2, fun i u cs hu hc => ⟨(h3 i u cs hu hc).1.below hb, (h3 i u cs hu hc).2⟩⟩
/-- Lists of bytes of the call's own, apart. -/
structure Outs (w : World) (base : Nat) (vs : List Value) (os : List (List Int)) : Prop where
  len : vs.length = os.length
  each : ∀ (j : Nat) (v : Value) (c : List Int), vs[j]? = some v → os[j]? = some c → OwnB w base v c
  apart : ∀ (i j : Nat) (u v : Value), i ≠ j → vs[i]? = some u → vs[j]? = some v → ∀ g, u.ownBlock = some g → v.ownBlock ≠ some g
theorem Outs.nil (w : World) (base : Nat) : Outs w base [] [] := ⟨rfl, by simp, by simp⟩
theorem Outs.only {w w' : World} {base : Nat} {vs : List Value} {os : List (List Int)} (h : Outs w base vs os) {S : Nat → Prop} (ho : Only S w w') (hn : ∀ (j : Nat) (v : Value), vs[j]? = some v → ∀ g, v.ownBlock = some g → ¬ S g) : Outs w' base vs os :=
  ⟨h.len, fun j v c hv hc => (h.each j v c hv hc).only ho (hn j v hv), h.apart⟩
theorem Outs.blocks {w : World} {base : Nat} {vs : List Value} {os : List (List Int)} (h : Outs w base vs os) (j : Nat) (v : Value) (hv : vs[j]? = some v) (g : Nat) (hg : v.ownBlock = some g) : base ≤ g ∧ ∃ cur, w.heap[g]? = some (.cells cur 5 (0, 0)) := by
  have hj := (List.getElem?_eq_some_iff.1 hv).1
  exact (h.each j v _ hv (List.getElem?_eq_getElem (by rw [← h.len]; exact hj))).at_ g hg
theorem Outs.snoc {w : World} {base : Nat} {vs : List Value} {os : List (List Int)} (h : Outs w base vs os) {v : Value} {c : List Int} (k : OwnB w base v c) (hn : ∀ (j : Nat) (u : Value), vs[j]? = some u → ∀ g, u.ownBlock = some g → v.ownBlock ≠ some g) : Outs w base (vs ++ [v]) (os ++ [c]) := by
  have hl := h.len
  have key : ∀ {α : Type} {l : List α} {x y : α} {j : Nat}, (l ++ [x])[j]? = some y → (j < l.length ∧ l[j]? = some y) ∨ (j = l.length ∧ y = x) := by
    intro α l x y j e
    by_cases hj : j < l.length
    · rw [List.getElem?_append_left hj] at e
      exact .inl ⟨hj, e⟩
    · have hj2 := (List.getElem?_eq_some_iff.1 e).1
      simp at hj2
      obtain rfl : j = l.length := by omega
      simp at e
      exact .inr ⟨rfl, e.symm⟩
  refine ⟨by simp [hl], fun j u d hu hd => ?_, fun i j u x hij hu hx g hg => ?_⟩
  · rcases key hu with ⟨hj, hu⟩ | ⟨rfl, rfl⟩
    · rcases key hd with ⟨_, hd⟩ | ⟨e, _⟩
      · exact h.each j u d hu hd
      · omega
    · rcases key hd with ⟨e, _⟩ | ⟨_, rfl⟩
      · omega
      · exact k
  · rcases key hu with ⟨hi, hu'⟩ | ⟨rfl, rfl⟩
    · rcases key hx with ⟨hj, hx'⟩ | ⟨rfl, rfl⟩
      · exact h.apart i j u x hij hu' hx' g hg
      · exact hn i u hu' g hg
    · rcases key hx with ⟨hj, hx'⟩ | ⟨rfl, rfl⟩
      · exact fun e => hn j x hx' g e hg
      · exact absurd rfl hij
/-- What lies in memory between two rounds of the loop over stations. -/
structure RI (w : World) (bs bm : Nat) (vsent : Value) (vo : Value) (vs : List Value) (os : List (List Int)) (wr : World) : Prop where
  bel : Below w.heap.size w wr
  sent : wr.heap[bs]? = some (.cells #[vsent] 22 (0, 0))
  mp : wr.heap[bm]? = some (mapO .u8 wrongL)
  out : wr.ownsRow w.heap.size 47 1 vo vs.length vs
  outs : Outs wr w.heap.size vs os
theorem RI.below {w : World} {bs bm : Nat} {vsent vo : Value} {vs : List Value} {os : List (List Int)} {wr w' : World} (h : RI w bs bm vsent vo vs os wr) (hb : Below wr.heap.size wr w') : RI w bs bm vsent vo vs os w' :=
  ⟨bnext h.bel hb, (hb.block _ (lt_of_block h.sent)).trans h.sent, (hb.block _ (lt_of_block h.mp)).trans h.mp, ownsRow_kept h.out fun g hg => by
    rcases h.out.2 with ⟨e, _⟩ | ⟨g', c, cur, e, _, h2, _⟩
    · rw [e] at hg
      cases hg
    · rw [e] at hg
      cases hg
      exact hb.block _ (lt_of_block h2), h.outs.only (Below.only hb fun _ => False) fun _ _ _ _ _ x => x⟩
/-- Bytes in hand, apart from those that are out. -/
def InHand (w : World) (vs : List Value) (wr : World) (v : Value) (cs : List Int) : Prop := OwnB wr w.heap.size v cs ∧ ∀ (j : Nat) (u : Value), vs[j]? = some u → ∀ g, u.ownBlock = some g → v.ownBlock ≠ some g
theorem InHand.below {w : World} {vs : List Value} {wr w' : World} {v : Value} {cs : List Int} (h : InHand w vs wr v cs) (hb : Below wr.heap.size wr w') : InHand w vs w' v cs := ⟨h.1.below hb, h.2⟩
/-- The bytes in hand turn. -/
theorem RI.turn {w : World} {bs bm : Nat} {vsent vo : Value} {vs : List Value} {os : List (List Int)} {wr w' : World} {v : Value} {cs ds : List Int} (h : RI w bs bm vsent vo vs os wr) (hi : InHand w vs wr v cs) (h2 : OwnB w' w.heap.size v ds) (ho : Only (fun k => v.ownBlock = some k) wr w') :
    RI w bs bm vsent vo vs os w' ∧ InHand w vs w' v ds := by
  have hb : ∀ k, v.ownBlock = some k → w.heap.size ≤ k ∧ ∃ cur, wr.heap[k]? = some (.cells cur 5 (0, 0)) := fun k e => hi.1.at_ k e
  refine ⟨⟨h.bel.trans (ho.below (fun k e => (hb k e).1) h.bel.size), ?_, ?_, ownsRow_kept h.out fun g hg => ?_, h.outs.only ho fun j u hu g hg e => hi.2 j u hu g hg e⟩, h2, hi.2⟩
  · refine (ho.block _ (lt_of_block h.sent) fun e => ?_).trans h.sent
    obtain ⟨_, cur, hc⟩ := hb _ e
    have := h.sent.symm.trans hc
    simp at this
  · refine (ho.block _ (lt_of_block h.mp) fun e => ?_).trans h.mp
    obtain ⟨_, cur, hc⟩ := hb _ e
    have := h.mp.symm.trans hc
    simp [mapO] at this
  · rcases h.out.2 with ⟨e, _⟩ | ⟨g', c, cur, e, _, h3, _⟩
    · rw [e] at hg
      cases hg
    · rw [e] at hg
      cases hg
      refine ho.block _ (lt_of_block h3) fun e2 => ?_
      obtain ⟨_, cur2, hc⟩ := hb _ e2
      have := h3.symm.trans hc
      simp at this
/-- The bytes in hand go out. -/
theorem RI.app {w : World} {bs bm : Nat} {vsent vo : Value} {vs : List Value} {os : List (List Int)} {wr w' : World} {v vo' : Value} {cs : List Int} (h : RI w bs bm vsent vo vs os wr) (hi : InHand w vs wr v cs) (o : Obj)
    (hown : w'.ownsRow w.heap.size 47 1 vo' (vs.length + 1) (vs ++ [v])) (hg : (wr.alloc o).grownBy w' vo.ownBlock) : RI w bs bm vsent vo' (vs ++ [v]) (os ++ [cs]) w' := by
  have ho : Only (fun k => vo.ownBlock = some k) wr w' := ((Only.refl _ wr).alloc o).grown hg fun k e _ => e
  have hb : ∀ k, vo.ownBlock = some k → w.heap.size ≤ k ∧ ∃ cur, wr.heap[k]? = some (.cells cur 47 (0, 0)) := by
    intro k e
    rcases h.out.2 with ⟨e', _⟩ | ⟨g', c, cur, e', h1, h3, _⟩
    · rw [e'] at e
      cases e
    · rw [e'] at e
      cases e
      exact ⟨h1, cur, h3⟩
  have hu : ∀ g, (∃ cur, wr.heap[g]? = some (.cells cur 5 (0, 0))) → ¬ vo.ownBlock = some g := by
    rintro g ⟨cur, hc⟩ e
    obtain ⟨_, c2, h2⟩ := hb g e
    have := h2.symm.trans hc
    simp at this
  refine ⟨h.bel.trans (ho.below (fun k e => (hb k e).1) h.bel.size), ?_, ?_, by simpa using hown, (h.outs.only ho fun j u hu2 g hg2 => hu g (h.outs.blocks j u hu2 g hg2).2).snoc (hi.1.only ho fun g hg2 => hu g (hi.1.at_ g hg2).2) hi.2⟩
  · refine (ho.block _ (lt_of_block h.sent) fun e => ?_).trans h.sent
    obtain ⟨_, cur, hc⟩ := hb _ e
    have := h.sent.symm.trans hc
    simp at this
  · refine (ho.block _ (lt_of_block h.mp) fun e => ?_).trans h.mp
    obtain ⟨_, cur, hc⟩ := hb _ e
    have := h.mp.symm.trans hc
    simp [mapO] at this
end Go.Proofs.YtafamnodeliaaaaGreatDoor
