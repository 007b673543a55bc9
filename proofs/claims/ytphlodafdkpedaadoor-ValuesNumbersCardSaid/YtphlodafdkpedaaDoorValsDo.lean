/-
  values.Do: what an operator makes of values.
-/
import Derived.Test.YtphlodafdkpedaaDoorValsChoose
namespace Go.Proofs.YtphlodafdkpedaaDoor
open Go.RowKit
open Go

/-- A look into the map, and whether it is there. -/
theorem run_lookup_int_ok {P : Program} (w : World) (T K E : TypeId) (k : IntKind) (hT : P.underlying T = some (.map K E)) (hK : P.underlying K = some (.int k)) (r : Nat) (l : List (Int × Value)) (hh : w.heap[r]? = some (mapO k l)) (x : Int) (z : Value) (hz : (zeroValue E).run P w = .ok z w) :
    (Instr.lookup T (.map (some r)) (.int k x) true).run P w = .ok (.tuple #[(getV l x).getD z, .bool (getV l x).isSome]) w := by
  obtain ⟨q, h1, h2⟩ := find_ents k l x 0 0
  unfold mapO at hh
  have hc : ∀ b, (Instr.checkKey b 10000 K (.int k x)).run P w = .ok () w := fun b => MapKept.run_checkKey (k := .int k x) hK (by simp [MapKept.IsKey]) b 9999
  cases q with
  | none =>
    have h3 : getV l x = none := h2.symm
    simp [Instr.lookup, run_underlying hT, MapKept.run_getObj_map hh, hc, MapKept.run_findKey hK h1, h3, hz, Result.andThen]
  | some q =>
    have h3 : getV l x = some q.2 := h2.symm
    simp [Instr.lookup, run_underlying hT, MapKept.run_getObj_map hh, hc, MapKept.run_findKey hK h1, h3, Result.andThen]
theorem zeroD (w : World) : (zeroValue 47).run Tryd.prog w = .ok (.agg #[.int .i64 0, .int .u8 0, .nilFunc]) w := by kernel_rfl
def deedM (o : Int) : Option (Int × Int) := (deedT.find? fun e => e.1 == o).map (·.2)
theorem get_deed (L : List Ent) (hL : L.map keyV = deedT) (o : Int) : (deedM o = none ∧ getV (L.map entV) o = none) ∨ ∃ e ∈ L, e.1 = o ∧ deedM o = some (e.2.1, e.2.2.1) ∧ getV (L.map entV) o = some (deedV e.2.1 e.2.2.1 e.2.2.2) := by
  unfold deedM getV
  rw [← hL, List.find?_map, List.find?_map]
  cases h : L.find? (fun e => e.1 == o) with
  | none =>
    left
    have h1 : L.find? ((fun e : Int × Int × Int => e.1 == o) ∘ keyV) = none := h
    have h2 : L.find? ((fun e : Int × Value => e.1 == o) ∘ entV) = none := h
    rw [h1, h2]
    exact ⟨rfl, rfl⟩
  | some e =>
    right
    have h1 : L.find? ((fun e : Int × Int × Int => e.1 == o) ∘ keyV) = some e := h
    have h2 : L.find? ((fun e : Int × Value => e.1 == o) ∘ entV) = some e := h
    rw [h1, h2]
    have h3 := List.find?_some h
    exact ⟨e, List.mem_of_find?_eq_some h, by simpa using h3, rfl, rfl⟩
def lastV (l : List VT) : VT := l.getLastD (0, 0)
/-- What comes of an operator and values: a value, and an error's number. -/
def doV (o : Int) (l : List VT) : VT × Int :=
  match (if o = 17 then some ((3 : Int), (0 : Int)) else deedM o) with
  | none => ((0, 0), 1)
  | some (m, t) =>
    if (l.length : Int) ≠ m ∨ (l.any fun p => !chkV p) = true then ((0, 0), 1)
    else if o = 17 then chooseV (l.getD 0 (0, 0)) (l.getD 1 (0, 0)) (l.getD 2 (0, 0))
    else if (l.any fun p => p.1 != (if t = 0 then (l.getD 0 (0, 0)).1 else t)) = true then ((0, 0), 7)
    else (semD o (l.getD 0 (0, 0)) (lastV l), 0)
/-- The room for what is answered. -/
def ResB (s : Nat) (w : World) : Prop := w.heap[s]? = some (.cells #[.int .u8 0, .int .i64 0] 24 (0, 0))
theorem ResB.facts {s : Nat} {w : World} (h : ResB s w) : s < w.heap.size ∧ w.cell? ⟨s, 0, none⟩ = some (.int .u8 0) ∧ w.cell? ⟨s, 1, none⟩ = some (.int .i64 0) ∧ w.frozen? ⟨s, 0, none⟩ = false ∧ w.frozen? ⟨s, 1, none⟩ = false :=
  ⟨lt_of_block h, cell_of_row _ _ 0 _ _ _ h, cell_of_row _ _ 1 _ _ _ h, frozen_of_row _ _ 0 _ _ h, frozen_of_row _ _ 1 _ _ h⟩
theorem ResB.below {s : Nat} {w w' : World} (h : ResB s w) (hb : Below w.heap.size w w') : ResB s w' := (hb.block _ (lt_of_block h)).trans h
theorem Kind.fn {w : World} {o m : Int} {fv : Value} (h : Kind w o m fv) : ∃ N cap, fv = .func (.func N) #[] cap := by
  rcases h with ⟨N, x, y, z, _, _, _, _, h2, _⟩ | ⟨h, _⟩ | ⟨h, _⟩
  · exact ⟨_, _, h2⟩
  · exact ⟨_, _, h⟩
  · exact ⟨_, _, h⟩
/-- What the map says of an operator. -/
theorem look_deed (o : Int) (w w2 : World) (L : List Ent) (hL : L.map keyV = deedT) (M : MapD (w.alloc (.cells #[.int .u8 0, .int .i64 0] 24 (0, 0))) (w.alloc (.cells #[.int .u8 0, .int .i64 0] 24 (0, 0))).heap.size L w2) :
    (deedM o = none ∧ (Instr.lookup 49 (.map (some (w.heap.size + 1))) (.int .u8 o) true).run Tryd.prog w2 = .ok (.tuple #[.agg #[.int .i64 0, .int .u8 0, .nilFunc], .bool false]) w2) ∨
    ∃ m t N cap, deedM o = some (m, t) ∧ Kind w2 o m (.func (.func N) #[] cap) ∧ (Instr.lookup 49 (.map (some (w.heap.size + 1))) (.int .u8 o) true).run Tryd.prog w2 = .ok (.tuple #[.agg #[.int .i64 m, .int .u8 t, .func (.func N) #[] cap], .bool true]) w2 := by
  have look := run_lookup_int_ok (P := Tryd.prog) w2 49 29 47 .u8 Tryd.underlying49 Tryd.underlying29 _ _ M.map o _ (zeroD w2)
  rw [show (w.alloc (.cells #[.int .u8 0, .int .i64 0] 24 (0, 0))).heap.size = w.heap.size + 1 by simp] at look
  rcases get_deed L hL o with ⟨h1, hg⟩ | ⟨e, he, rfl, h1, hg⟩
  · rw [hg] at look
    exact .inl ⟨h1, look⟩
  · rw [hg] at look
    have hk := M.kind e he
    obtain ⟨N, cap, hf⟩ := hk.fn
    rw [hf] at hk
    have look2 : _ = Result.ok (Value.tuple #[.agg #[.int .i64 e.2.1, .int .u8 e.2.2.1, e.2.2.2], .bool true]) w2 := look
    rw [hf] at look2
    exact .inr ⟨e.2.1, e.2.2.1, N, cap, h1, hk, look2⟩
theorem do_none (o : Int) (v : Value) (l : List VT) (w : World) (hR : RdN 2 w v (l.map rowV)) (h17 : o ≠ 17) (hn : deedM o = none) :
    Calls Tryd.prog 18 #[.int .u8 o, v] w fun e w' => e = .returned (.tuple #[aggV (0, 0), .int .i64 1]) ∧ Below w.heap.size w w' := by
  obtain ⟨a, c, rfl, hc, hm⟩ := hR.shape
  rw [List.length_map] at *
  unfold maxLen at hm
  have e17 : (o == 17) = false := by simpa using h17
  have A0 : Hid (ResB w.heap.size (w.alloc (.cells #[.int .u8 0, .int .i64 0] 24 (0, 0)))) := heap_alloc_new _ _
  have B1 := balloc (Below.refl w.heap.size w) (.cells #[.int .u8 0, .int .i64 0] 24 (0, 0))
  have D := Lib.hid (fun w => deeds_any w)
  have HN := Lib.hid hn
  clear hR h17 hn
  go_enter Tryd.func18, Tryd.ntmps18
  go_wp2_with fail
  refine (D.out _).mono ?_
  rintro e w2 ⟨L, rfl, hL, M⟩
  rcases look_deed o w w2 L hL M with ⟨_, look⟩ | ⟨_, _, _, _, hs, _⟩
  · have B2 := bnext B1 M.bel
    have A2 := Lib.hid (A0.out.below M.bel)
    obtain ⟨hz, c0, c1, f0, f1⟩ := A2.out.facts
    clear hL M A0 B1
    go_wp2_with fail
    exact bodyPost_ret (results_row_tmp Tryd.results18 _ _ w.heap.size _ _ _ _ rfl ((Below.heap_alloc _ _ _ (by simpa using hz)).trans (heap_setCell_same _ _ 1 _ _ _ (heap_setCell_same _ _ 0 _ _ _ A2.out))) Tryd.underlying24 rfl infoV) rfl ⟨rfl, balloc ((B2.setCell (p := ⟨w.heap.size, 0, none⟩) (Nat.le_refl _) _).setCell (p := ⟨w.heap.size, 1, none⟩) (Nat.le_refl _) _) _⟩
  · rw [HN.out] at hs
    cases hs
/-- What a known operator makes of values. -/
def doK (o m t : Int) (l : List VT) : VT × Int :=
  if (l.length : Int) ≠ m ∨ (l.any fun p => !chkV p) = true then ((0, 0), 1)
  else if (l.any fun p => p.1 != (if t = 0 then (l.getD 0 (0, 0)).1 else t)) = true then ((0, 0), 7)
  else (semD o (l.getD 0 (0, 0)) (lastV l), 0)
theorem doV_none {o : Int} (l : List VT) (h17 : o ≠ 17) (h : deedM o = none) : doV o l = ((0, 0), 1) := by
  unfold doV
  rw [if_neg h17, h]
theorem doV_some {o m t : Int} (l : List VT) (h17 : o ≠ 17) (h : deedM o = some (m, t)) : doV o l = doK o m t l := by
  unfold doV doK
  rw [if_neg h17, h]
  simp only [if_neg h17]
set_option maxHeartbeats 4000000 in
theorem do_err1 (o m t : Int) (v : Value) (l : List VT) (w : World) (hR : RdN 2 w v (l.map rowV)) (h17 : o ≠ 17) (hn : deedM o = some (m, t)) (hbad : (l.length : Int) ≠ m ∨ (l.any fun p => !chkV p) = true) :
    Calls Tryd.prog 18 #[.int .u8 o, v] w fun e w' => e = .returned (.tuple #[aggV (0, 0), .int .i64 1]) ∧ Below w.heap.size w w' := by
  obtain ⟨a, c, rfl, hc, hm⟩ := hR.shape
  rw [List.length_map] at *
  unfold maxLen at hm
  have e17 : (o == 17) = false := by simpa using h17
  have A0 : Hid (ResB w.heap.size (w.alloc (.cells #[.int .u8 0, .int .i64 0] 24 (0, 0)))) := heap_alloc_new _ _
  have B1 := balloc (Below.refl w.heap.size w) (.cells #[.int .u8 0, .int .i64 0] 24 (0, 0))
  have D := Lib.hid (fun w => deeds_any w)
  have HN := Lib.hid hn
  have HR := Lib.hid hR
  have S1 := Lib.hid (fun w h => some1_any (.slice a l.length c) l w h)
  clear hR h17 hn
  by_cases hlen : (l.length : Int) = m
  · have hlen' : ((l.length : Int) != m) = false := by simpa using hlen
    have hb2 : (l.any fun p => !chkV p) = true := by
      rcases hbad with h | h
      · exact absurd hlen h
      · exact h
    rw [hb2] at S1
    clear hlen hb2 hbad
    go_enter Tryd.func18, Tryd.ntmps18
    go_wp2_with fail
    refine (D.out _).mono ?_
    rintro e w2 ⟨L, rfl, hL, M⟩
    rcases look_deed o w w2 L hL M with ⟨hs, _⟩ | ⟨m', t', N, cap, hs, _, look⟩
    · rw [HN.out] at hs
      cases hs
    · rw [HN.out] at hs
      simp only [Option.some.injEq, Prod.mk.injEq] at hs
      obtain ⟨rfl, rfl⟩ := hs
      have B2 := bnext B1 M.bel
      have A2 := Lib.hid (A0.out.below M.bel)
      obtain ⟨hz, c0, c1, f0, f1⟩ := A2.out.facts
      clear hL M A0 B1
      go_wp2_with fail
      refine (S1.out _ (HR.out.below (balloc B2 _))).mono ?_
      rintro e w3 ⟨rfl, b3⟩
      have B3 := bnext (balloc B2 _) b3
      have A3 := Lib.hid ((A2.out.below (balloc (Below.refl _ _) _)).below b3)
      obtain ⟨hz, c0, c1, f0, f1⟩ := A3.out.facts
      clear b3 B2 A2
      go_wp2_with fail
      exact bodyPost_ret (results_row_tmp Tryd.results18 _ _ w.heap.size _ _ _ _ rfl (heap_setCell_same _ _ 1 _ _ _ (heap_setCell_same _ _ 0 _ _ _ A3.out)) Tryd.underlying24 rfl infoV) rfl ⟨rfl, ((B3.setCell (p := ⟨w.heap.size, 0, none⟩) (Nat.le_refl _) _).setCell (p := ⟨w.heap.size, 1, none⟩) (Nat.le_refl _) _)⟩
  · have hlen' : ((l.length : Int) != m) = true := by simpa using hlen
    clear hbad hlen
    go_enter Tryd.func18, Tryd.ntmps18
    go_wp2_with fail
    refine (D.out _).mono ?_
    rintro e w2 ⟨L, rfl, hL, M⟩
    rcases look_deed o w w2 L hL M with ⟨hs, _⟩ | ⟨m', t', N, cap, hs, _, look⟩
    · rw [HN.out] at hs
      cases hs
    · rw [HN.out] at hs
      simp only [Option.some.injEq, Prod.mk.injEq] at hs
      obtain ⟨rfl, rfl⟩ := hs
      have B2 := bnext B1 M.bel
      have A2 := Lib.hid (A0.out.below M.bel)
      obtain ⟨hz, c0, c1, f0, f1⟩ := A2.out.facts
      clear hL M A0 B1
      go_wp2_with fail
      exact bodyPost_ret (results_row_tmp Tryd.results18 _ _ w.heap.size _ _ _ _ rfl ((Below.heap_alloc _ _ _ (by simpa using hz)).trans (heap_setCell_same _ _ 1 _ _ _ (heap_setCell_same _ _ 0 _ _ _ A2.out))) Tryd.underlying24 rfl infoV) rfl ⟨rfl, balloc ((B2.setCell (p := ⟨w.heap.size, 0, none⟩) (Nat.le_refl _) _).setCell (p := ⟨w.heap.size, 1, none⟩) (Nat.le_refl _) _) _⟩
end Go.Proofs.YtphlodafdkpedaaDoor
