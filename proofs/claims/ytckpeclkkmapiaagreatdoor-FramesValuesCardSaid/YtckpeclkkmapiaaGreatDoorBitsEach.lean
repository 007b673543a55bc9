/-
  The iterator bits.each: each bit of a number, the highest first.
-/
import Derived.Test.YtckpeclkkmapiaaGreatDoorBitsW
import Derived.RangeFuncNested
import Derived.RangeFuncBound
import Derived.RangeFuncCalls
import Derived.RangeFuncLeaves
import Derived.Shelf.Abstract
import Derived.Shelf.RegionOpen
import Derived.OwnWalkIn
import Derived.TacticsInMore
import Derived.LoopNIn
import Derived.LoopIn
import Derived.Laws.BitsAllLaws
namespace Go.Proofs.YtckpeclkkmapiaaGreatDoor
open Go.RowKit Go.Shelf
open Go
attribute [local go_sem] Oper.semAt_some

/-- The number and how many bits, in boxes. -/
def Boxes (bn bk n k : Nat) (W : World) : Prop := W.heap[bn]? = some (.cells #[.int .u64 n] 78 (0, 0)) ∧ W.heap[bk]? = some (.cells #[.int .i64 k] 3 (0, 0))
/-- What a round keeps. -/
def KpB (bn bk n k : Nat) (W W' : World) : Prop := Boxes bn bk n k W → Boxes bn bk n k W'
theorem kpB_t {bn bk n k : Nat} {A B C : World} (h : KpB bn bk n k A B) (q : KpB bn bk n k B C) : KpB bn bk n k A C := fun x => q (h x)
theorem kpB_b {bn bk n k : Nat} (W : World) (l : Nat) (o o' : Obj) (h : W.heap[l]? = some o) (ho : o.isCells = false) : KpB bn bk n k W (W.putObj l o') := by
  rintro ⟨h1, h2⟩
  have e : ∀ {b : Nat} {x : Obj}, W.heap[b]? = some x → x.isCells = true → (W.putObj l o').heap[b]? = some x := by
    intro b x hb hx
    refine (World.putObj_heap_other ?_).trans hb
    rintro rfl
    rw [h] at hb
    cases hb
    rw [ho] at hx
    cases hx
  exact ⟨e h1 rfl, e h2 rfl⟩

theorem bit_of (n i : Nat) (hn : n < 2 ^ 64) : (bits .and .u64 ((n : Int) / 2 ^ i) 1 == 1) = n.testBit i := by
  have h1 : ((n : Int) / 2 ^ i) = ((n / 2 ^ i : Nat) : Int) := by simp
  have h2 : n / 2 ^ i ≤ n := Nat.div_le_self _ _
  have h3 := u64_and_nat (n / 2 ^ i) 1 (by omega) (by decide)
  rw [h1, show (1 : Int) = ((1 : Nat) : Int) from rfl, h3, nat_mask1, testBit_div]
  rw [Bool.eq_iff_iff, beq_iff_eq, decide_eq_true_iff]
  omega

set_option maxHeartbeats 400000 in
theorem each_stops (F : Fence) (m : Nat) (hF : F.fn 149) (hro : F.round = none) (hm : 1 ≤ m) (bn bk n k : Nat) (hn : n < 2 ^ 64) (hk : k ≤ 64) (w : World) (hb : Boxes bn bk n k w) (hlt : bn < w.heap.size ∧ bk < w.heap.size) :
    SeqStopsK F m Tryz.prog 149 #[.pointer (some ⟨bk, 0, none⟩), .pointer (some ⟨bn, 0, none⟩)] (fun x : Bool => #[.bool x]) (KpB bn bk n k) (fun xs => xs = nbits n k) (fun _ => True) k w := by
  intro l J Jx W hW hJ hJx hY h0
  have hB : Boxes bn bk n k W := ⟨(hW.block bn hlt.1).trans hb.1, (hW.block bk hlt.2).trans hb.2⟩
  have c1 : W.cell? ⟨bk, 0, none⟩ = some (.int .i64 k) := cell_of_row W bk 0 _ _ _ hB.2
  have HB := Lib.hid hB
  have HY := Lib.hid hY
  clear hY hb hB
  refine callsIn_of_wp Tryz.func149 rfl hF ?_ hro
  simp only [Tryz.ntmps149, List.size_toArray, List.length_cons, List.length_nil, Nat.reduceAdd, Nat.reduceSub, Array.replicate_succ, Array.replicate_zero, List.push_toArray, List.append_toArray, List.nil_append, List.cons_append]
  gi_wp2
  gi_loopw [4] (fun i wr => ∃ j : Nat, j ≤ k ∧ i = .int .i64 ((j : Int) - 1) ∧ Hid (Boxes bn bk n k wr) ∧ J ((nbits n k).take (k - j)) wr) (fun i _ => (intOf i + 1).toNat)
  case atStart => exact ⟨k, Nat.le_refl _, rfl, HB, by simpa using h0⟩
  case round =>
    obtain ⟨j, hj, rfl, hbx, hJs⟩ := hrel
    by_cases hj0 : 1 ≤ j
    · obtain ⟨i, rfl⟩ : ∃ i, j = i + 1 := ⟨j - 1, by omega⟩
      obtain ⟨fn, tmps, assign, body, hy, hR⟩ := HY.out ((nbits n k).take (k - (i + 1))) (n.testBit i) wr hJs (by rw [List.length_take, nbits_len]; omega)
      have x0 : wr.cell? ⟨bn, 0, none⟩ = some (.int .u64 n) := cell_of_row wr bn 0 _ _ _ hbx.out.1
      have hX := bit_of n i hn
      gi_wp2
      clear hX
      refine hR.mono ?_
      rintro e W' (⟨rfl, hJ', hk'⟩ | ⟨rfl, hJx'⟩)
      · have hbx' := Lib.hid (hk' hbx.out)
        gi_wp2
        go_roundw
        case rel =>
          refine ⟨i, by omega, by go_num, hbx', ?_⟩
          have e1 := nbits_get n k (k - (i + 1)) (by omega)
          rw [show k - i = k - (i + 1) + 1 by omega, List.take_add_one, e1, show k - 1 - (k - (i + 1)) = i by omega]
          exact hJ'
        case measure => simp [intOf]
      · gi_wp2
        refine bodyPost_ret (results_none rfl _ _ _) rfl ?_
        exact ⟨⟨_, rfl⟩, .inr ⟨_, trivial, hJx'⟩⟩
    · obtain rfl : j = 0 := by omega
      gi_wp2
      go_end0
      exact ⟨⟨_, rfl⟩, .inl ⟨_, List.take_of_length_le (by rw [nbits_len]; omega), hJs⟩⟩
end Go.Proofs.YtckpeclkkmapiaaGreatDoor
