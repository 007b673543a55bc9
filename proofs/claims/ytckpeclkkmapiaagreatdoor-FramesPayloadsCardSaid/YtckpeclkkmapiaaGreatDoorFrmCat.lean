/-
  slices.Concat of two lists of bytes (by slices.Grow).
-/
import Derived.Test.YtckpeclkkmapiaaGreatDoorFrm
import Derived.Test.YtckpeclkkmapiaaGreatDoorFrmLay
namespace Go.Proofs.YtckpeclkkmapiaaGreatDoor
open Go.RowKit
open Go

theorem grow_nil (n : Nat) (w : World) (hn : 0 < n) (hm : n ≤ 1000000) :
    Calls Tryz.prog 147 #[.slice none 0 0, .int .i64 n] w fun e w' => ∃ v, e = .returned v ∧ w'.ownsRow w.heap.size 5 1 v 0 [] ∧ Below w.heap.size w w' := by
  obtain ⟨i0, hi, hz0, hz1, hz2⟩ := info_parts info5
  have G := Any8.slices_Grow_grow Tryz.growL i0 (.int .u8 0) hi hz0 (by omega) none 0 0 n [] w (by omega) (by omega) (by rw [hz2]; omega) (by omega) (by simp) (by simp) (by simp)
  refine Calls.mono G ?_
  rintro e w' ⟨rfl, rfl⟩
  refine ⟨_, rfl, ⟨rfl, .inr ⟨_, _, _, rfl, Nat.le_refl _, heap_alloc_new w.drew _, Nat.zero_le _, grownCap_le_maxLen _ _ _ _ (by simp [maxLen]; omega), ?_, by simp⟩⟩, balloc (bdraw (Below.refl _ _) 1) _⟩
  have := grownCap_ge w (0 + n) 0 5
  simp [Builtin.zeroCells, Value.cells]
  have t : Tryz.growL_ren.t 25 = 5 := rfl
  rw [t]
  rw [Nat.zero_add] at this
  omega
theorem own_ge {w : World} {base : Nat} {e : TypeId} {v : Value} {n : Nat} {xs : List Value} (h : w.ownsRow base e 1 v n xs) : ∀ k, v.ownBlock = some k → base ≤ k := by
  intro k hk
  rcases h.2 with ⟨rfl, _⟩ | ⟨g, c, cur, rfl, hg, _⟩
  · cases hk
  · simp only [Value.ownBlock, Option.some.injEq] at hk
    omega
def CatA (x y : Nat) (t i : Value) : Prop := (i = .int .i64 0 ∧ t = .int .i64 0) ∨ (i = .int .i64 1 ∧ t = .int .i64 x) ∨ (i = .int .i64 2 ∧ t = .int .i64 (x + y))
def CatB (w : World) (xs ys : List Int) (t i : Value) (wr : World) : Prop :=
  (i = .int .i64 0 ∧ wr.ownsRow w.heap.size 5 1 t 0 [] ∧ Below w.heap.size w wr) ∨ (i = .int .i64 1 ∧ wr.ownsRow w.heap.size 5 1 t xs.length (by8 xs) ∧ Below w.heap.size w wr) ∨
  (i = .int .i64 2 ∧ wr.ownsRow w.heap.size 5 1 t (xs.length + ys.length) (by8 xs ++ by8 ys) ∧ Below w.heap.size w wr)
set_option maxHeartbeats 1000000 in
theorem concat2_any (g : Nat) (v1 v2 : Value) (xs ys : List Int) (w : World) (hg : w.heap[g]? = some (.cells #[v1, v2] 22 (0, 0))) (h1 : Rd w v1 (by8 xs)) (h2 : Rd w v2 (by8 ys)) (hpos : 0 < xs.length + ys.length) (hm : xs.length + ys.length ≤ 1000000) :
    Calls Tryz.prog 106 #[.slice (some ⟨g, 0, none⟩) 2 2] w fun e w' => ∃ u, e = .returned u ∧ w'.ownsRow w.heap.size 5 1 u (xs.length + ys.length) (by8 xs ++ by8 ys) ∧ Below w.heap.size w w' := by
  have r1 := Lib.hid h1
  have r2 := Lib.hid h2
  obtain ⟨a1, k1, rfl, _⟩ := h1
  obtain ⟨a2, k2, rfl, _⟩ := h2
  have l1 : (by8 xs).length = xs.length := by simp
  have l2 : (by8 ys).length = ys.length := by simp
  rw [l1, l2] at hg
  rw [l1] at r1
  rw [l2] at r2
  clear l1 l2
  have c0 : w.cell? ⟨g, 0, none⟩ = some (.slice a1 xs.length k1) := cell_of_row w g 0 _ _ _ hg
  have c1 : w.cell? ⟨g, 1, none⟩ = some (.slice a2 ys.length k2) := cell_of_row w g 1 _ _ _ hg
  have hlt := lt_of_block hg
  have HG := Lib.hid hg
  clear hg
  go_enter Tryz.func106, Tryz.ntmps106
  go_wp2_with fail
  go_loop [3, 11] (fun t i => CatA xs.length ys.length t i) (fun _ i => 2 - (intOf i).toNat)
  case atStart => exact .inl ⟨rfl, rfl⟩
  case round =>
    unfold CatA at hrel
    rcases hrel with ⟨rfl, rfl⟩ | ⟨rfl, rfl⟩ | ⟨rfl, rfl⟩
    · go_wp2_with fail
      go_round
      case rel => exact .inr (.inl ⟨rfl, rfl⟩)
      case measure => simp [intOf]
    · go_wp2_with fail
      go_round
      case rel => exact .inr (.inr ⟨rfl, rfl⟩)
      case measure => simp [intOf]
    · clear c0 c1
      go_wp2_with fail
      have e0 : ((xs.length : Int) + ys.length) = ((xs.length + ys.length : Nat) : Int) := by omega
      rw [e0]
      refine (grow_nil (xs.length + ys.length) w hpos hm).mono ?_
      rintro e w1 ⟨u, rfl, o1, b1⟩
      clear e0
      go_wp2_with fail
      obtain ⟨i0, hi, hz0, hz1, hz2⟩ := info_parts info5
      go_loopw [6, 27] (fun t i wr => CatB w xs ys t i wr) (fun _ i _ => 2 - (intOf i).toNat)
      case atStart => exact .inl ⟨rfl, o1, b1⟩
      case round =>
        clear o1 b1
        unfold CatB at hrel
        have K : Hid (∀ w9, Below w.heap.size w w9 → w9.cell? ⟨g, 0, none⟩ = some (.slice a1 xs.length k1) ∧ w9.cell? ⟨g, 1, none⟩ = some (.slice a2 ys.length k2)) := fun w9 b9 =>
          have h := (b9.block _ hlt).trans HG.out
          ⟨cell_of_row w9 g 0 _ _ _ h, cell_of_row w9 g 1 _ _ _ h⟩
        rcases hrel with ⟨rfl, o, b⟩ | ⟨rfl, o, b⟩ | ⟨rfl, o, b⟩
        · have c0 := (K.out _ b).1
          go_wp2_with (at_builtin; refine wpList_append_rd _ rfl _ _ _ rfl w.heap.size 5 i0 (.int .u8 0) 1 Tryz.underlying22 hi hz0 hz1 hz2 rfl _ 0 [] rfl o _ (by8 xs) rfl (r1.out.below b) (oc8 _ _) (by simp [maxLen]; omega) (by simp; omega) b.size ?_; intro v2 w2 o2 g2)
          go_roundw
          case rel => exact .inr (.inl ⟨rfl, by simpa using o2, b.grown g2 b.size (own_ge o)⟩)
          case measure => simp [intOf]
        · have c1 := (K.out _ b).2
          go_wp2_with (at_builtin; refine wpList_append_rd _ rfl _ _ _ rfl w.heap.size 5 i0 (.int .u8 0) 1 Tryz.underlying22 hi hz0 hz1 hz2 rfl _ xs.length (by8 xs) rfl o _ (by8 ys) rfl (r2.out.below b) (oc8 _ _) (by simp [maxLen]; omega) (by simp; omega) b.size ?_; intro v2 w2 o2 g2)
          go_roundw
          case rel => exact .inr (.inr ⟨rfl, by simpa using o2, b.grown g2 b.size (own_ge o)⟩)
          case measure => simp [intOf]
        · go_wp2_with fail
          go_ret
          exact ⟨_, rfl, o, b⟩
end Go.Proofs.YtckpeclkkmapiaaGreatDoor
