/-
  The walks of belfryref22: May, Silent, Round.
-/
import Derived.Test.YtafamnodeliaaaaGreatDoorBusArgs
import Derived.Test.YtafamnodeliaaaaGreatDoorRowsN
namespace Go.Proofs.YtafamnodeliaaaaGreatDoor
open Go.RowKit
open Go

set_option maxHeartbeats 1000000 in
theorem rmay22_any (n : Nat) (f : Fl) (w : World) :
    Calls Tryz.prog 23 #[aggF f, .int .i64 n] w fun e w' => e = .returned (.bool (!oddB n f)) ∧ Below w.heap.size w w' := by
  obtain ⟨r, s, h, a, b⟩ := f
  unfold aggF oddB
  by_cases q1 : 1 ≤ s
  case neg =>
    have e1 : decide (1 ≤ s) = false := decide_eq_false q1
    have e1' : decide (s < 1) = true := decide_eq_true (by omega)
    go_enter Tryz.func23, Tryz.ntmps23
    go_wp2_with fail
    go_ret
    exact ⟨by simp [*], balloc (Below.refl _ _) _⟩
  have e1 : decide (1 ≤ s) = true := decide_eq_true q1
  have e1' : decide (s < 1) = false := decide_eq_false (by omega)
  by_cases q2 : s ≤ (n : Int)
  case neg =>
    have e2 : decide (s ≤ (n : Int)) = false := decide_eq_false q2
    have e2' : decide ((n : Int) < s) = true := decide_eq_true (by omega)
    go_enter Tryz.func23, Tryz.ntmps23
    go_wp2_with fail
    go_ret
    exact ⟨by simp [*], balloc (Below.refl _ _) _⟩
  have e2 : decide (s ≤ (n : Int)) = true := decide_eq_true q2
  have e2' : decide ((n : Int) < s) = false := decide_eq_false (by omega)
  by_cases q3 : 0 ≤ r
  case neg =>
    have e3 : decide (0 ≤ r) = false := decide_eq_false q3
    have e3' : decide (r < 0) = true := decide_eq_true (by omega)
    go_enter Tryz.func23, Tryz.ntmps23
    go_wp2_with fail
    go_ret
    exact ⟨by simp [*], balloc (Below.refl _ _) _⟩
  have e3 : decide (0 ≤ r) = true := decide_eq_true q3
  have e3' : decide (r < 0) = false := decide_eq_false (by omega)
  by_cases q4 : 0 ≤ a
  case neg =>
    have e4 : decide (0 ≤ a) = false := decide_eq_false q4
    have e4' : decide (a < 0) = true := decide_eq_true (by omega)
    go_enter Tryz.func23, Tryz.ntmps23
    go_wp2_with fail
    go_ret
    exact ⟨by simp [*], balloc (Below.refl _ _) _⟩
  have e4 : decide (0 ≤ a) = true := decide_eq_true q4
  have e4' : decide (a < 0) = false := decide_eq_false (by omega)
  by_cases q5 : h ≤ 2
  case neg =>
    have e5 : decide (h ≤ 2) = false := decide_eq_false q5
    have e5' : decide (2 < h) = true := decide_eq_true (by omega)
    go_enter Tryz.func23, Tryz.ntmps23
    go_wp2_with fail
    go_ret
    exact ⟨by simp [*], balloc (Below.refl _ _) _⟩
  have e5 : decide (h ≤ 2) = true := decide_eq_true q5
  have e5' : decide (2 < h) = false := decide_eq_false (by omega)
  go_enter Tryz.func23, Tryz.ntmps23
  go_wp2_with fail
  go_ret
  exact ⟨by simp [*], balloc (Below.refl _ _) _⟩

set_option maxHeartbeats 1000000 in
theorem rsilent_any (st rd : Int) (v : Value) (fs : List Fl) (w : World) (hR : RdN 5 w v (fs.map rowF)) :
    Calls Tryz.prog 15 #[v, .int .i64 st, .int .i64 rd] w fun e w' => e = .returned (.bool (fs.any (silB st rd))) ∧ Below w.heap.size w w' := by
  obtain ⟨a, c, rfl, hc, hm⟩ := hR.shape
  rw [List.length_map] at *
  unfold maxLen at hm
  have HR := Lib.hid hR
  clear hR
  go_enter Tryz.func15, Tryz.ntmps15
  go_wp2_with fail
  go_loopw [7] (fun i wr => ∃ k : Nat, k ≤ fs.length ∧ i = .int .i64 k ∧ Hid ((fs.take k).any (silB st rd) = false) ∧ Below w.heap.size w wr) (fun i _ => fs.length - (intOf i).toNat)
  case atStart => exact ⟨0, by omega, rfl, rfl, Below.refl _ _⟩
  case round =>
    obtain ⟨k, hk, rfl, hf, hb⟩ := hrel
    by_cases hlt : k < fs.length
    · obtain ⟨b, o, rfl, hcl⟩ := (HR.out.below hb).get k (by simpa using hlt)
      have hs : (fs.take (k + 1)).any (silB st rd) = silB st rd fs[k] := by
        rw [take_snoc _ _ hlt, List.any_append, hf.out]
        simp
      have hy : silB st rd fs[k] = true → fs.any (silB st rd) = true := fun h => List.any_eq_true.2 ⟨_, List.getElem_mem hlt, h⟩
      rw [List.getElem_map] at hcl
      have HS := Lib.hid hs
      have HY := Lib.hid hy
      clear hs hy
      generalize fs[k] = f at *
      obtain ⟨r, s, h, a, b'⟩ := f
      have x0 : wr.cell? ⟨b, o + k * 5, none⟩ = some (.int .i64 r) := hcl 0 _ rfl
      have x1 : wr.cell? ⟨b, o + k * 5 + 1, none⟩ = some (.int .i64 s) := hcl 1 _ rfl
      have x2 : wr.cell? ⟨b, o + k * 5 + 2, none⟩ = some (.int .u8 h) := hcl 2 _ rfl
      clear hcl
      have key : ((h == 0) = false ∧ silB st rd ⟨r, s, h, a, b'⟩ = false) ∨ ((h == 0) = true ∧ (s == st) = false ∧ silB st rd ⟨r, s, h, a, b'⟩ = false) ∨
          ((h == 0) = true ∧ (s == st) = true ∧ decide (r ≤ rd) = false ∧ silB st rd ⟨r, s, h, a, b'⟩ = false) ∨ ((h == 0) = true ∧ (s == st) = true ∧ decide (r ≤ rd) = true ∧ silB st rd ⟨r, s, h, a, b'⟩ = true) := by
        unfold silB
        cases (h == 0) <;> cases (s == st) <;> cases decide (r ≤ rd) <;> simp
      rcases key with ⟨q1, q⟩ | ⟨q1, q2, q⟩ | ⟨q1, q2, q3, q⟩ | ⟨q1, q2, q3, q⟩
      iterate 3
        · have HF : Hid ((fs.take (k + 1)).any (silB st rd) = false) := by unfold Hid; rw [HS.out, q]
          clear q HS HY hf
          go_wp2_with fail
          go_roundw
          case rel => exact ⟨k + 1, by omega, by go_num, HF, hb⟩
          case measure => simp [intOf]; omega
      · have HT := Lib.hid (HY.out q)
        clear q HS HY hf
        go_wp2_with fail
        go_ret
        exact ⟨by rw [HT.out]; rfl, hb⟩
    · obtain rfl : k = fs.length := by omega
      have hfin := hf.out
      rw [List.take_length] at hfin
      have HF := Lib.hid hfin
      clear hfin hf
      go_wp2_with fail
      go_ret
      exact ⟨by rw [HF.out]; rfl, hb⟩

/-! ### What a round answers, by the reference's way -/
def hitB (st rd : Int) (f : Fl) : Bool := f.s == st && f.r == rd
def lostB (st rd : Int) (f : Fl) : Bool := hitB st rd f && f.h == 1
def spoilS (st rd : Int) (cs : List Int) (f : Fl) : List Int := if hitB st rd f = true ∧ f.h = 2 then spoil f cs else cs
theorem stepI_nil (st rd : Int) (fs : List Fl) : fs.foldl (stepI st rd) [] = [] := by
  induction fs with
  | nil => rfl
  | cons f fs ih =>
    rw [List.foldl_cons, show stepI st rd [] f = [] by unfold stepI spoil; simp]
    exact ih
theorem fold_ways (st rd : Int) (fs : List Fl) (hh : ∀ f ∈ fs, 0 ≤ f.h ∧ f.h ≤ 2) (cs : List Int) : fs.foldl (stepI st rd) cs = if fs.any (lostB st rd) then [] else fs.foldl (spoilS st rd) cs := by
  induction fs generalizing cs with
  | nil => rfl
  | cons f fs ih =>
    obtain ⟨h0, h2⟩ := hh f (by simp)
    have ih' := ih (fun g hg => hh g (by simp [hg]))
    rw [List.foldl_cons, List.foldl_cons, List.any_cons]
    cases hl : lostB st rd f
    · rw [ih', Bool.false_or]
      have : stepI st rd cs f = spoilS st rd cs f := by
        unfold stepI spoilS hitB
        unfold lostB hitB at hl
        by_cases e1 : f.s = st
        · by_cases e2 : f.r = rd
          · have e3 : ¬ f.h = 1 := by
              intro e
              simp [e1, e2, e] at hl
            rcases (show f.h = 0 ∨ f.h = 2 by omega) with e | e
            · simp [e]
            · simp [e1, e2, e]
          · simp [e2]
        · simp [e1]
      rw [this]
    · rw [Bool.true_or, if_pos rfl]
      have : stepI st rd cs f = [] := by
        unfold lostB hitB at hl
        simp only [Bool.and_eq_true, beq_iff_eq] at hl
        unfold stepI
        simp [hl.1.1, hl.1.2, hl.2]
      rw [this, stepI_nil]
theorem outI_ways (fs : List Fl) (rd : Int) (i : Nat) (cs : List Int) (hh : ∀ f ∈ fs, 0 ≤ f.h ∧ f.h ≤ 2) :
    outI fs rd i cs = if (fs.any (silB ((i : Int) + 1) rd) || fs.any (lostB ((i : Int) + 1) rd)) then [] else fs.foldl (spoilS ((i : Int) + 1) rd) cs := by
  unfold outI
  rw [fold_ways _ _ _ hh]
  cases fs.any (silB ((i : Int) + 1) rd) <;> simp

/-- What lies in memory between two rounds of the reference's loop over stations. -/
structure RJ (w : World) (vo : Value) (vs : List Value) (os : List (List Int)) (wr : World) : Prop where
  bel : Below w.heap.size w wr
  out : wr.ownsRow w.heap.size 47 1 vo vs.length vs
  outs : Outs wr w.heap.size vs os
theorem RJ.below {w : World} {vo : Value} {vs : List Value} {os : List (List Int)} {wr w' : World} (h : RJ w vo vs os wr) (hb : Below wr.heap.size wr w') : RJ w vo vs os w' :=
  ⟨bnext h.bel hb, ownsRow_kept h.out fun g hg => by
    rcases h.out.2 with ⟨e, _⟩ | ⟨g', c, cur, e, _, h2, _⟩
    · rw [e] at hg
      cases hg
    · rw [e] at hg
      cases hg
      exact hb.block _ (lt_of_block h2), h.outs.only (Below.only hb fun _ => False) fun _ _ _ _ _ x => x⟩
/-- The bytes in hand turn. -/
theorem RJ.turn {w : World} {vo : Value} {vs : List Value} {os : List (List Int)} {wr w' : World} {v : Value} {cs ds : List Int} (h : RJ w vo vs os wr) (hi : InHand w vs wr v cs) (h2 : OwnB w' w.heap.size v ds) (ho : Only (fun k => v.ownBlock = some k) wr w') :
    RJ w vo vs os w' ∧ InHand w vs w' v ds := by
  have hb : ∀ k, v.ownBlock = some k → w.heap.size ≤ k ∧ ∃ cur, wr.heap[k]? = some (.cells cur 5 (0, 0)) := fun k e => hi.1.at_ k e
  refine ⟨⟨h.bel.trans (ho.below (fun k e => (hb k e).1) h.bel.size), ownsRow_kept h.out fun g hg => ?_, h.outs.only ho fun j u hu g hg e => hi.2 j u hu g hg e⟩, h2, hi.2⟩
  rcases h.out.2 with ⟨e, _⟩ | ⟨g', c, cur, e, _, h3, _⟩
  · rw [e] at hg
    cases hg
  · rw [e] at hg
    cases hg
    refine ho.block _ (lt_of_block h3) fun e2 => ?_
    obtain ⟨_, cur2, hc⟩ := hb _ e2
    have := h3.symm.trans hc
    simp at this
/-- The bytes in hand go out. -/
theorem RJ.app {w : World} {vo : Value} {vs : List Value} {os : List (List Int)} {wr w' : World} {v vo' : Value} {cs : List Int} (h : RJ w vo vs os wr) (hi : InHand w vs wr v cs) (o : Obj)
    (hown : w'.ownsRow w.heap.size 47 1 vo' (vs.length + 1) (vs ++ [v])) (hg : (wr.alloc o).grownBy w' vo.ownBlock) : RJ w vo' (vs ++ [v]) (os ++ [cs]) w' := by
  have ho : Only (fun k => vo.ownBlock = some k) wr w' := ((Only.refl _ wr).alloc o).grown hg fun k e _ => e
  have hb : ∀ k, vo.ownBlock = some k → w.heap.size ≤ k ∧ ∃ cur, wr.heap[k]? = some (.cells cur 47 (0, 0)) := by
    intro k e
    rcases h.out.2 with ⟨e', _⟩ | ⟨g', c, cur, e', h1, h3, _⟩
    · rw [e'] at e
      cases e
    · rw [e'] at e
      cases e
      exact ⟨h1, cur, h3⟩
  have hu : ∀ g, (∃ cur, wr.heap[g]? = some (.cells cur 5 (0, 0))) → ¬ vo.ownBlock = some g := by
    rintro g ⟨cur, hc⟩ e
    obtain ⟨_, c2, h2⟩ := hb g e
    have := h2.symm.trans hc
    simp at this
  exact ⟨h.bel.trans (ho.below (fun k e => (hb k e).1) h.bel.size), by simpa using hown, (h.outs.only ho fun j u hu2 g hg2 => hu g (h.outs.blocks j u hu2 g hg2).2).snoc (hi.1.only ho fun g hg2 => hu g (hi.1.at_ g hg2).2) hi.2⟩
end Go.Proofs.YtafamnodeliaaaaGreatDoor
