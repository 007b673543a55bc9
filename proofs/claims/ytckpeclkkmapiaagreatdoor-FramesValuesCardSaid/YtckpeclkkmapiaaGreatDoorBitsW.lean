/-
  A writer of bits in memory, and what turns when bits are put. The walks of bits.there, New, Len.
-/
import Derived.Test.YtckpeclkkmapiaaGreatDoorRows
import Derived.Test.YtckpeclkkmapiaaGreatDoorKit
import Derived.Test.YtckpeclkkmapiaaGreatDoorBitsMath
import Derived.Deep.QuietTactic
import Derived.BigQuiet
import Derived.Maps.AppendAt
import Derived.StillTailTactics
namespace Go.Proofs.YtckpeclkkmapiaaGreatDoor
open Go.RowKit
open Go

/-- Numbers as Lean's whole numbers. -/
abbrev iN (bs : List Nat) : List Int := bs.map fun (c : Nat) => (c : Int)
theorem iN_append (a b : List Nat) : iN (a ++ b) = iN a ++ iN b := List.map_append

/-- Blocks but those of S are as they were; none has gone. -/
structure Only (S : Nat → Prop) (w w' : World) : Prop where
  os : w'.os = w.os
  tape : w'.tape = w.tape
  output : w'.output = w.output
  size : w.heap.size ≤ w'.heap.size
  block : ∀ k, k < w.heap.size → ¬ S k → w'.heap[k]? = w.heap[k]?
theorem Only.refl (S : Nat → Prop) (w : World) : Only S w w := ⟨rfl, rfl, rfl, Nat.le_refl _, fun _ _ _ => rfl⟩
theorem Only.trans {S T : Nat → Prop} {a b c : World} (h : Only S a b) (k : Only T b c) (hT : ∀ i, i < a.heap.size → T i → S i) : Only S a c :=
  ⟨k.os.trans h.os, k.tape.trans h.tape, k.output.trans h.output, Nat.le_trans h.size k.size, fun i hi hn => (k.block i (Nat.lt_of_lt_of_le hi h.size) (fun ht => hn (hT i hi ht))).trans (h.block i hi hn)⟩
theorem Only.drewN {S : Nat → Prop} {a w : World} (h : Only S a w) (n : Nat) : Only S a (w.drewN n) := ⟨h.os, h.tape, h.output, h.size, h.block⟩
theorem Only.alloc {S : Nat → Prop} {a w : World} (h : Only S a w) (o : Obj) : Only S a (w.alloc o) :=
  ⟨h.os, h.tape, h.output, Nat.le_trans h.size (by simp), fun i hi hn => (Below.heap_alloc w o i (Nat.lt_of_lt_of_le hi h.size)).trans (h.block i hi hn)⟩
theorem Only.setCell {S : Nat → Prop} {a w : World} (h : Only S a w) {p : Addr} (hp : p.block < a.heap.size → S p.block) (u : Value) : Only S a (w.setCell p u) :=
  ⟨h.os, h.tape, h.output, by simpa [World.setCell] using h.size, fun i hi hn => (Below.heap_setCell w p u i (by
    rintro rfl
    exact hn (hp hi))).trans (h.block i hi hn)⟩
theorem Only.grown {S : Nat → Prop} {a w w' : World} {row : Option Nat} (h : Only S a w) (hg : w.grownBy w' row) (hr : ∀ k, row = some k → k < a.heap.size → S k) : Only S a w' :=
  ⟨hg.os.trans h.os, hg.tape.trans h.tape, hg.output.trans h.output, Nat.le_trans h.size hg.size, fun i hi hn => (hg.block i (Nat.lt_of_lt_of_le hi h.size) (fun e => hn (hr i e.symm hi))).trans (h.block i hi hn)⟩
theorem Only.below {S : Nat → Prop} {B : Nat} {a w : World} (h : Only S a w) (hB : ∀ k, S k → B ≤ k) (hz : B ≤ a.heap.size) : Below B a w :=
  ⟨h.os, h.tape, h.output, h.size, fun k hk => h.block k (by omega) (fun hs => by have := hB k hs; omega)⟩
theorem Below.only {a w : World} (h : Below a.heap.size a w) (S : Nat → Prop) : Only S a w := ⟨h.os, h.tape, h.output, h.size, fun k hk _ => h.block k hk⟩

/-- A row of bits at pr: its bytes as v. -/
structure RowAt (B pr : Nat) (v : Value) (L : List Bool) (w : World) : Prop where
  base : B ≤ pr
  row : w.heap[pr]? = some (.cells #[v, .int .i64 L.length] 207 (0, 0))
  owns : w.ownsRow B 5 1 v ((L.length + 7) / 8) (by8 (iN (pack L)))
  most : L.length ≤ 1000000
/-- The blocks that may turn when bits are put. -/
def foot (pr : Nat) (v : Value) (k : Nat) : Prop := k = pr ∨ v.ownBlock = some k
/-- What turns: these, and what is new. -/
structure Step (pr : Nat) (v v' : Value) (w w' : World) : Prop where
  only : Only (foot pr v) w w'
  own : v'.ownBlock = v.ownBlock ∨ ∃ g, v'.ownBlock = some g ∧ w.heap.size ≤ g
theorem Step.refl (pr : Nat) (v : Value) (w : World) : Step pr v v w w := ⟨Only.refl _ _, .inl rfl⟩
theorem Step.trans {pr : Nat} {v v' v'' : Value} {w w' w'' : World} (h : Step pr v v' w w') (k : Step pr v' v'' w' w'') : Step pr v v'' w w'' := by
  refine ⟨h.only.trans k.only fun i hi ht => ?_, ?_⟩
  · rcases ht with rfl | ht
    · exact .inl rfl
    · rcases h.own with e | ⟨g, e, hg⟩
      · exact .inr (e ▸ ht)
      · rw [e] at ht
        cases ht
        omega
  · rcases k.own with e | ⟨g, e, hg⟩
    · rw [e]
      exact h.own
    · exact .inr ⟨g, e, Nat.le_trans h.only.size hg⟩
theorem RowAt.foot_ge {B pr : Nat} {v : Value} {L : List Bool} {w : World} (h : RowAt B pr v L w) (k : Nat) (hk : foot pr v k) : B ≤ k := by
  rcases hk with rfl | hk
  · exact h.base
  · rcases h.owns.2 with ⟨e, _⟩ | ⟨g, c, cur, e, hg, _⟩
    · rw [e] at hk
      cases hk
    · rw [e] at hk
      cases hk
      exact hg
theorem RowAt.foot_lt {B pr : Nat} {v : Value} {L : List Bool} {w : World} (h : RowAt B pr v L w) (k : Nat) (hk : foot pr v k) : k < w.heap.size := by
  rcases hk with rfl | hk
  · exact lt_of_block h.row
  · rcases h.owns.2 with ⟨e, _⟩ | ⟨g, c, cur, e, hg, hb, _⟩
    · rw [e] at hk
      cases hk
    · rw [e] at hk
      cases hk
      exact lt_of_block hb
theorem ownsRow_kept {w w' : World} {base : Nat} {e : TypeId} {sz : Nat} {v : Value} {n : Nat} {xs : List Value} (h : w.ownsRow base e sz v n xs) (hk : ∀ g, v.ownBlock = some g → w'.heap[g]? = w.heap[g]?) : w'.ownsRow base e sz v n xs := by
  obtain ⟨h1, h2⟩ := h
  refine ⟨h1, ?_⟩
  rcases h2 with h2 | ⟨g, cap, cur, hv, hg, hh, r⟩
  · exact .inl h2
  · exact .inr ⟨g, cap, cur, hv, hg, (hk g (by rw [hv]; rfl)).trans hh, r⟩
/-- Another writer's turn leaves this one. -/
theorem RowAt.kept {B pr : Nat} {v : Value} {L : List Bool} {w w' : World} (h : RowAt B pr v L w) {S : Nat → Prop} (ho : Only S w w') (hn : ∀ k, foot pr v k → ¬ S k) : RowAt B pr v L w' :=
  ⟨h.base, (ho.block pr (h.foot_lt pr (.inl rfl)) (hn pr (.inl rfl))).trans h.row, ownsRow_kept h.owns fun g hg => ho.block g (h.foot_lt g (.inr hg)) (hn g (.inr hg)), h.most⟩
theorem RowAt.own_ne {B pr : Nat} {v : Value} {L : List Bool} {w : World} (h : RowAt B pr v L w) {g : Nat} (hg : v.ownBlock = some g) : g ≠ pr := by
  rintro rfl
  rcases h.owns.2 with ⟨e, _⟩ | ⟨g', c, cur, e, _, hb, _⟩
  · rw [e] at hg
    cases hg
  · rw [e] at hg
    cases hg
    have := h.row.symm.trans hb
    simp at this
/-- A writer at pw. -/
def WriAt (B pw pr : Nat) (v : Value) (L : List Bool) (w : World) : Prop := w.heap[pw]? = some (.cells #[.pointer (some ⟨pr, 0, none⟩)] 209 (0, 0)) ∧ RowAt B pr v L w
theorem WriAt.kept {B pw pr : Nat} {v : Value} {L : List Bool} {w w' : World} (h : WriAt B pw pr v L w) {S : Nat → Prop} (ho : Only S w w') (hn : ∀ k, foot pr v k → ¬ S k) (hp : ¬ S pw) : WriAt B pw pr v L w' :=
  ⟨(ho.block pw (lt_of_block h.1) hp).trans h.1, h.2.kept ho hn⟩
theorem WriAt.below {B pw pr : Nat} {v : Value} {L : List Bool} {w w' : World} (h : WriAt B pw pr v L w) (hb : Below w.heap.size w w') : WriAt B pw pr v L w' :=
  h.kept (Below.only hb fun _ => False) (fun _ _ h => h) (fun h => h)
theorem WriAt.foot_ne {B pw pr : Nat} {v : Value} {L : List Bool} {w : World} (h : WriAt B pw pr v L w) : ¬ foot pr v pw := by
  rintro (e | e)
  · subst e
    have := h.1.symm.trans h.2.row
    simp at this
  · rcases h.2.owns.2 with ⟨e', _⟩ | ⟨g', c, cur, e', _, hb, _⟩
    · rw [e'] at e
      cases e
    · rw [e'] at e
      cases e
      have := h.1.symm.trans hb
      simp at this

theorem new_any (w : World) : Calls Tryz.prog 94 #[] w fun e w' => e = .returned (.pointer (some ⟨w.heap.size + 1, 0, none⟩)) ∧ WriAt w.heap.size (w.heap.size + 1) w.heap.size (.slice none 0 0) [] w' ∧ Below w.heap.size w w' := by
  go_enter Tryz.func94, Tryz.ntmps94
  go_wp2_with fail
  go_ret
  have k0 := heap_alloc2_old w (.cells #[Value.slice none 0 0, Value.int IntKind.i64 0] 207) (.cells #[Value.pointer (some { block := w.heap.size, off := 0 })] 209)
  have k1 := heap_alloc2_new w (.cells #[Value.slice none 0 0, Value.int IntKind.i64 0] 207) (.cells #[Value.pointer (some { block := w.heap.size, off := 0 })] 209)
  exact ⟨rfl, ⟨k1, Nat.le_refl _, k0, ⟨rfl, .inl ⟨rfl, rfl⟩⟩, by simp⟩, balloc (balloc (Below.refl _ _) _) _⟩
theorem there_yes (B pw pr : Nat) (v : Value) (L : List Bool) (w : World) (h : WriAt B pw pr v L w) : Calls Tryz.prog 142 #[.pointer (some ⟨pw, 0, none⟩)] w fun e w' => e = .returned (.bool true) ∧ w = w' := by
  have c0 : w.cell? ⟨pw, 0, none⟩ = some (.pointer (some ⟨pr, 0, none⟩)) := cell_of_row w pw 0 _ _ _ h.1
  go_enter Tryz.func142, Tryz.ntmps142
  go_wp2_with fail
  go_ret
  exact ⟨rfl, rfl⟩
theorem info5 : (Tryz.prog.info? 5).map (fun i => (i.zero, i.size, i.bytes)) = some (some (.int .u8 0), 1, 1) := by kernel_rfl

/-- A nought has been put behind, the row not told of it yet. -/
structure More (B pr : Nat) (v : Value) (L : List Bool) (b : Bool) (w0 : World) (v0 : Value) (w : World) : Prop where
  base : B ≤ pr
  row : w.heap[pr]? = some (.cells #[v, .int .i64 L.length] 207 (0, 0))
  owns : w.ownsRow B 5 1 v (L.length / 8 + 1) (by8 (iN (pack (L ++ [b]))))
  step : Step pr v0 v w0 w
theorem RowAt.more {B pr : Nat} {v v' : Value} {L : List Bool} {w w1 : World} (h : RowAt B pr v L w) (h8 : L.length % 8 = 0) (o : Obj)
    (hown : w1.ownsRow B 5 1 v' ((L.length + 7) / 8 + 1) (by8 (iN (pack L)) ++ [.int .u8 0])) (hg : (w.alloc o).grownBy w1 v.ownBlock) (hv : v'.ownBlock = v.ownBlock ∨ v'.ownBlock = some (w.alloc o).heap.size) :
    More B pr v' L false w v (w1.setCell ⟨pr, 0, none⟩ v') ∧ w1.cell? ⟨pr, 0, none⟩ = some v ∧ w1.frozen? ⟨pr, 0, none⟩ = false ∧ w1.cell? ⟨pr, 1, none⟩ = some (.int .i64 L.length) ∧ w1.frozen? ⟨pr, 1, none⟩ = false := by
  have hlt := lt_of_block h.row
  have hr : w1.heap[pr]? = some (.cells #[v, .int .i64 L.length] 207 (0, 0)) :=
    (hg.block pr (by simp; omega) (fun e => h.own_ne e.symm rfl)).trans ((Below.heap_alloc w o pr hlt).trans h.row)
  have hne : ∀ g, v'.ownBlock = some g → g ≠ pr := by
    intro g e
    rcases hv with hv | hv
    · exact h.own_ne (hv ▸ e)
    · rw [hv] at e
      cases e
      simp
      omega
  refine ⟨⟨h.base, ?_, ?_, ?_⟩, cell_of_row w1 pr 0 _ _ _ hr, frozen_of_row w1 pr 0 _ _ hr, cell_of_row w1 pr 1 _ _ _ hr, frozen_of_row w1 pr 1 _ _ hr⟩
  · exact heap_setCell_same w1 pr 0 _ _ _ hr
  · have e : pack (L ++ [false]) = pack L ++ [0] := by rw [pack_nought, if_pos h8]
    rw [e, iN_append, by8_append]
    have e2 : L.length / 8 + 1 = (L.length + 7) / 8 + 1 := by omega
    rw [e2]
    exact ownsRow_kept hown fun g hgg => Below.heap_setCell w1 ⟨pr, 0, none⟩ v' g (hne g hgg)
  · refine ⟨(((Only.refl _ w).alloc o).grown hg fun k hk _ => .inr hk).setCell (fun _ => .inl rfl) _, ?_⟩
    rcases hv with hv | hv
    · exact .inl hv
    · exact .inr ⟨_, hv, by simp⟩
theorem RowAt.same {B pr : Nat} {v : Value} {L : List Bool} {w : World} (h : RowAt B pr v L w) (h8 : ¬ L.length % 8 = 0) : More B pr v L false w v w :=
  ⟨h.base, h.row, by
    have e : pack (L ++ [false]) = pack L := by rw [pack_nought, if_neg h8]
    rw [e, show L.length / 8 + 1 = (L.length + 7) / 8 by omega]
    exact h.owns, Step.refl _ _ _⟩
theorem More.own_ne {B pr : Nat} {v v0 : Value} {L : List Bool} {b : Bool} {w w0 : World} (h : More B pr v L b w0 v0 w) {g : Nat} (hg : v.ownBlock = some g) : g ≠ pr := by
  rintro rfl
  rcases h.owns.2 with ⟨e, _⟩ | ⟨g', c, cur, e, _, hb, _⟩
  · rw [e] at hg
    cases hg
  · rw [e] at hg
    cases hg
    have := h.row.symm.trans hb
    simp at this
/-- The row is told. -/
theorem More.told {B pr : Nat} {v v0 : Value} {L : List Bool} {b : Bool} {w w0 : World} (h : More B pr v L b w0 v0 w) (hm : L.length < 1000000) :
    RowAt B pr v (L ++ [b]) (w.setCell ⟨pr, 1, none⟩ (.int .i64 (L.length + 1))) ∧ Step pr v0 v w0 (w.setCell ⟨pr, 1, none⟩ (.int .i64 (L.length + 1))) := by
  refine ⟨⟨h.base, ?_, ?_, by simp; omega⟩, h.step.only.setCell (fun _ => .inl rfl) _, h.step.own⟩
  · rw [heap_setCell_same w pr 1 _ _ _ h.row]
    simp
  · rw [show (L ++ [b]).length = L.length + 1 by simp, show (L.length + 1 + 7) / 8 = L.length / 8 + 1 by omega]
    exact ownsRow_kept h.owns fun g hg => Below.heap_setCell w ⟨pr, 1, none⟩ _ g (h.own_ne hg)
theorem More.shape {B pr : Nat} {v v0 : Value} {L : List Bool} {b : Bool} {w w0 : World} (h : More B pr v L b w0 v0 w) : ∃ g c, v = .slice (some ⟨g, 0, none⟩) (L.length / 8 + 1) c ∧ B ≤ g ∧ g ≠ pr ∧ L.length / 8 + 1 ≤ c ∧ c ≤ maxLen := by
  rcases h.owns.2 with ⟨_, e⟩ | ⟨g, c, cur, e, hg, hb, h1, h2, _⟩
  · omega
  · exact ⟨g, c, e, hg, h.own_ne (by rw [e]; rfl), h1, h2⟩
theorem or_bit : ∀ r : Nat, r < 8 → ∀ x : Nat, x < 256 → x % 2 ^ (8 - r) = 0 → bits .or .u8 (x : Int) (2 ^ (7 - r) % 256) = ((x + 2 ^ (7 - r) : Nat) : Int) := by decide +kernel
/-- The last bit is set. -/
theorem More.set {B pr : Nat} {v0 : Value} {L : List Bool} {w w0 : World} {g n c : Nat} (h : More B pr (.slice (some ⟨g, 0, none⟩) n c) L false w0 v0 w) (x : Nat)
    (hx2 : x % 2 ^ (8 - L.length % 8) = 0) (hx3 : x < 256) (hx4 : pack (L ++ [true]) = (pack (L ++ [false])).set (L.length / 8) (x + 2 ^ (7 - L.length % 8))) :
    More B pr (.slice (some ⟨g, 0, none⟩) n c) L true w0 v0 (w.drew.setCell ⟨g, L.length / 8, none⟩ (.int .u8 (bits .or .u8 (x : Int) (2 ^ (7 - L.length % 8) % 256)))) := by
  obtain ⟨h1, h2, h3, h4⟩ := h
  have hne : g ≠ pr := (More.own_ne ⟨h1, h2, h3, h4⟩) rfl
  have h3' : w.drew.ownsRow B 5 1 (.slice (some ⟨g, 0, none⟩) n c) (L.length / 8 + 1) (by8 (iN (pack (L ++ [false])))) := h3
  obtain ⟨cap, hcc⟩ : ∃ m, n = m := ⟨n, rfl⟩
  have hn : n = L.length / 8 + 1 := by
    rcases h3.2 with ⟨e, _⟩ | ⟨g', c', cur, e, _⟩
    · cases e
    · cases e
      rfl
  subst hn
  rw [or_bit _ (by omega) _ hx3 hx2]
  obtain ⟨s1, s2⟩ := h3'.stored (L.length / 8) (.int .u8 ((x + 2 ^ (7 - L.length % 8) : Nat) : Int))
  refine ⟨h1, (Below.heap_setCell _ _ _ _ (fun e => hne e.symm)).trans h2, ?_, ?_⟩
  · rw [hx4]
    have e : by8 (iN ((pack (L ++ [false])).set (L.length / 8) (x + 2 ^ (7 - L.length % 8)))) = (by8 (iN (pack (L ++ [false])))).set (L.length / 8) (.int .u8 ((x + 2 ^ (7 - L.length % 8) : Nat) : Int)) := by
      simp only [by8, iN, List.map_set]
    rw [e]
    exact s1
  · refine ⟨(h4.only.drewN 1).setCell (p := ⟨g, L.length / 8, none⟩) (fun hlt => ?_) _, h4.own⟩
    rcases h4.own with e | ⟨g', e, hg'⟩
    · exact .inr e.symm
    · cases e
      have hg2 : w0.heap.size ≤ g := hg'
      have hl2 : g < w0.heap.size := hlt
      omega

/-- One bit more. -/
theorem one_no (B pr : Nat) (v : Value) (L : List Bool) (w : World) (h : RowAt B pr v L w) (hm : L.length < 1000000) (hz : B ≤ w.heap.size) :
    Calls Tryz.prog 144 #[.pointer (some ⟨pr, 0, none⟩), .bool false] w fun e w' => e = .returned (.tuple #[]) ∧ ∃ v', RowAt B pr v' (L ++ [false]) w' ∧ Step pr v v' w w' := by
  have c0 : w.cell? ⟨pr, 0, none⟩ = some v := cell_of_row w pr 0 _ _ _ h.row
  have c1 : w.cell? ⟨pr, 1, none⟩ = some (.int .i64 L.length) := cell_of_row w pr 1 _ _ _ h.row
  have f1 : w.frozen? ⟨pr, 1, none⟩ = false := frozen_of_row w pr 1 _ _ h.row
  by_cases h8 : L.length % 8 = 0
  · have e8 : ((L.length : Int) % 8 == 0) = true := by rw [beq_iff_eq]; omega
    obtain ⟨i0, hi, hz0, hz1, hz2⟩ := info_parts info5
    have hpl := pack_len L
    have HPL := Lib.hid hpl
    clear hpl
    go_enter Tryz.func144, Tryz.ntmps144
    go_wp2_with (at_builtin; refine wpList_append_own_at _ rfl _ _ 22 rfl B 5 i0 (.int .u8 0) 1 1 Tryz.underlying22 hi hz0 hz1 hz2 rfl (by decide) v _ _ rfl (h.owns.alloc _) ⟨w.heap.size, 0, none⟩ 1 1 [.int .u8 0] rfl rfl (cell_one_new _ _ _) (oc1 _ _) (by unfold maxLen; omega) (by omega) (by simp; omega) ?_; intro v' w1 hown1 hgrow1 hnil1 hv1; clear hnil1; obtain ⟨M, m0, m1, m2, m3⟩ := h.more h8 _ hown1 hgrow1 hv1; clear hown1 hgrow1 hv1; obtain ⟨g, c, rfl, hg, hgp, hc, hcm⟩ := M.shape)
    go_end0
    obtain ⟨r1, s1⟩ := M.told hm
    exact ⟨rfl, _, r1, s1⟩
  · have e8 : ((L.length : Int) % 8 == 0) = false := by rw [beq_eq_false_iff_ne]; omega
    have M := h.same h8
    go_enter Tryz.func144, Tryz.ntmps144
    go_wp2_with fail
    go_end0
    obtain ⟨r1, s1⟩ := M.told hm
    exact ⟨rfl, v, r1, s1⟩
theorem one_yes (B pr : Nat) (v : Value) (L : List Bool) (w : World) (h : RowAt B pr v L w) (hm : L.length < 1000000) (hz : B ≤ w.heap.size) :
    Calls Tryz.prog 144 #[.pointer (some ⟨pr, 0, none⟩), .bool true] w fun e w' => e = .returned (.tuple #[]) ∧ ∃ v', RowAt B pr v' (L ++ [true]) w' ∧ Step pr v v' w w' := by
  have c0 : w.cell? ⟨pr, 0, none⟩ = some v := cell_of_row w pr 0 _ _ _ h.row
  have c1 : w.cell? ⟨pr, 1, none⟩ = some (.int .i64 L.length) := cell_of_row w pr 1 _ _ _ h.row
  have f1 : w.frozen? ⟨pr, 1, none⟩ = false := frozen_of_row w pr 1 _ _ h.row
  obtain ⟨x, hx, hx2, hx3, hx4⟩ := pack_yes L
  by_cases h8 : L.length % 8 = 0
  · have e8 : ((L.length : Int) % 8 == 0) = true := by rw [beq_iff_eq]; omega
    obtain ⟨i0, hi, hz0, hz1, hz2⟩ := info_parts info5
    have hpl := pack_len L
    have HPL := Lib.hid hpl
    have hx0 : (0 : Int) ≤ x := by omega
    have hxx : x < 256 := by have := Nat.two_pow_pos (7 - L.length % 8); omega
    have hx1 : (x : Int) ≤ 255 := by omega
    have hlt : L.length / 8 < L.length / 8 + 1 := by omega
    have HX := Lib.hid hx
    have HX2 := Lib.hid hx2
    have HX4 := Lib.hid hx4
    clear hpl hx hx2 hx3 hx4
    go_enter Tryz.func144, Tryz.ntmps144
    go_wp2_with (at_builtin; refine wpList_append_own_at _ rfl _ _ 22 rfl B 5 i0 (.int .u8 0) 1 1 Tryz.underlying22 hi hz0 hz1 hz2 rfl (by decide) v _ _ rfl (h.owns.alloc _) ⟨w.heap.size, 0, none⟩ 1 1 [.int .u8 0] rfl rfl (cell_one_new _ _ _) (oc1 _ _) (by unfold maxLen; omega) (by omega) (by simp; omega) ?_; intro v' w1 hown1 hgrow1 hnil1 hv1; clear hnil1; obtain ⟨M, m0, m1, m2, m3⟩ := h.more h8 _ hown1 hgrow1 hv1; clear hown1 hgrow1 hv1; obtain ⟨g, c, rfl, hg, hgp, hc, hcm⟩ := M.shape)
    generalize w1.setCell _ _ = w2 at *
    have x0 : w2.cell? ⟨g, L.length / 8, none⟩ = some (.int .u8 x) := by
      rw [M.owns.cellAt _ (by omega)]
      simp [HX.out]
    have x1 := M.owns.frozenAt (L.length / 8)
    have x2 : w2.cell? ⟨pr, 0, none⟩ = some (.slice (some ⟨g, 0, none⟩) (L.length / 8 + 1) c) := cell_of_row w2 pr 0 _ _ _ M.row
    have x3 : w2.cell? ⟨pr, 1, none⟩ = some (.int .i64 L.length) := cell_of_row w2 pr 1 _ _ _ M.row
    have x4 : w2.frozen? ⟨pr, 1, none⟩ = false := frozen_of_row w2 pr 1 _ _ M.row
    have M2 := M.set x HX2.out hxx HX4.out
    clear m0 m1 m2 m3 c0 c1 f1 HX HX2 HX4 hi hz0 hz1 hz2 h8 e8
    go_region
    go_wp2_with fail
    go_end0
    obtain ⟨r1, s1⟩ := M2.told hm
    exact ⟨rfl, _, r1, s1⟩
  · have e8 : ((L.length : Int) % 8 == 0) = false := by rw [beq_eq_false_iff_ne]; omega
    have M := h.same h8
    obtain ⟨g, c, rfl, hg, hgp, hc, hcm⟩ := M.shape
    have x0 : w.cell? ⟨g, L.length / 8, none⟩ = some (.int .u8 x) := by
      rw [M.owns.cellAt _ (by omega)]
      simp [hx]
    have x1 := M.owns.frozenAt (L.length / 8)
    have hx0 : (0 : Int) ≤ x := by omega
    have hxx : x < 256 := by have := Nat.two_pow_pos (7 - L.length % 8); omega
    have hx1 : (x : Int) ≤ 255 := by omega
    have hlt : L.length / 8 < L.length / 8 + 1 := by omega
    have M2 := M.set x hx2 hxx hx4
    clear hx hx2 hx3 hx4
    go_enter Tryz.func144, Tryz.ntmps144
    go_wp2_with fail
    go_region
    go_wp2_with fail
    go_end0
    obtain ⟨r1, s1⟩ := M2.told hm
    exact ⟨rfl, _, r1, s1⟩
theorem one_any (B pr : Nat) (v : Value) (L : List Bool) (yes : Bool) (w : World) (h : RowAt B pr v L w) (hm : L.length < 1000000) (hz : B ≤ w.heap.size) :
    Calls Tryz.prog 144 #[.pointer (some ⟨pr, 0, none⟩), .bool yes] w fun e w' => e = .returned (.tuple #[]) ∧ ∃ v', RowAt B pr v' (L ++ [yes]) w' ∧ Step pr v v' w w' := by
  cases yes
  · exact one_no B pr v L w h hm hz
  · exact one_yes B pr v L w h hm hz
end Go.Proofs.YtckpeclkkmapiaaGreatDoor
