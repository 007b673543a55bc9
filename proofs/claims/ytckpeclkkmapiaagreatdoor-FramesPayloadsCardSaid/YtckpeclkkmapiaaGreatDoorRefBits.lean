/-
  The walks of belfryref02: Put and Bytes of its Bits.
-/
import Derived.Test.YtckpeclkkmapiaaGreatDoorBitsEach
import Derived.Test.YtckpeclkkmapiaaGreatDoorBitsGet
import Derived.Test.YtckpeclkkmapiaaGreatDoorHeldG
import Derived.Deep.AppendLies
import Derived.Deep.RegionLaw
namespace Go.Proofs.YtckpeclkkmapiaaGreatDoor
open Go.RowKit
open Go

/-- Bits as bytes, one a byte. -/
abbrev by1 (L : List Bool) : List Value := by8 (iN (L.map Bool.toNat))
/-- The reference's bits at p, as v. -/
structure RefAt (B p : Nat) (v : Value) (L : List Bool) (w : World) : Prop where
  base : B ≤ p
  box : w.heap[p]? = some (.cells #[v] 92 (0, 0))
  owns : w.ownsRow B 5 1 v L.length (by1 L)
  most : L.length ≤ 1000000
theorem RefAt.foot_lt {B p : Nat} {v : Value} {L : List Bool} {w : World} (h : RefAt B p v L w) (k : Nat) (hk : foot p v k) : B ≤ k ∧ k < w.heap.size := by
  rcases hk with rfl | hk
  · exact ⟨h.base, lt_of_block h.box⟩
  · obtain ⟨h1, c, h2⟩ := owns_block h.owns k hk
    exact ⟨h1, lt_of_block h2⟩
theorem RefAt.own_ne {B p : Nat} {v : Value} {L : List Bool} {w : World} (h : RefAt B p v L w) {g : Nat} (hg : v.ownBlock = some g) : g ≠ p := by
  rintro rfl
  obtain ⟨_, c, h2⟩ := owns_block h.owns g hg
  have := h.box.symm.trans h2
  simp at this
theorem RefAt.kept {B p : Nat} {v : Value} {L : List Bool} {w w' : World} (h : RefAt B p v L w) {S : Nat → Prop} (ho : Only S w w') (hn : ∀ k, foot p v k → ¬ S k) : RefAt B p v L w' :=
  ⟨h.base, (ho.block p (h.foot_lt p (.inl rfl)).2 (hn p (.inl rfl))).trans h.box, ownsRow_kept h.owns fun g hg => ho.block g (h.foot_lt g (.inr hg)).2 (hn g (.inr hg)), h.most⟩
theorem RefAt.below {B p : Nat} {v : Value} {L : List Bool} {w w' : World} (h : RefAt B p v L w) (hb : Below w.heap.size w w') : RefAt B p v L w' := h.kept (Below.only hb fun _ => False) (fun _ _ h => h)
/-- One bit more. -/
theorem RefAt.app {B p : Nat} {v : Value} {L : List Bool} {w w1 : World} (h : RefAt B p v L w) (o : Obj) (x : Bool) {g cap : Nat}
    (hown : w1.ownsRow B 5 1 (.slice (some ⟨g, 0, none⟩) (L.length + 1) cap) (L.length + 1) (by1 L ++ [.int .u8 (x.toNat : Nat)])) (hg : (w.alloc o).grownBy w1 v.ownBlock) (hat : v.ownBlock = some g ∨ g = (w.alloc o).heap.size) (hm : L.length < 1000000) :
    RefAt B p (.slice (some ⟨g, 0, none⟩) (L.length + 1) cap) (L ++ [x]) (w1.setCell ⟨p, 0, none⟩ (.slice (some ⟨g, 0, none⟩) (L.length + 1) cap)) ∧ Step p v (.slice (some ⟨g, 0, none⟩) (L.length + 1) cap) w (w1.setCell ⟨p, 0, none⟩ (.slice (some ⟨g, 0, none⟩) (L.length + 1) cap)) ∧
      w1.cell? ⟨p, 0, none⟩ = some v ∧ w1.frozen? ⟨p, 0, none⟩ = false := by
  have hlt := lt_of_block h.box
  have hr : w1.heap[p]? = some (.cells #[v] 92 (0, 0)) :=
    (hg.block p (by simp; omega) (fun e => h.own_ne e.symm rfl)).trans ((Below.heap_alloc w o p hlt).trans h.box)
  have hne : g ≠ p := by
    rcases hat with e | e
    · exact h.own_ne e
    · rw [e]
      simp
      omega
  refine ⟨⟨h.base, ?_, ?_, by simp; omega⟩, ⟨?_, ?_⟩, cell_of_row w1 p 0 _ _ _ hr, frozen_of_row w1 p 0 _ _ hr⟩
  · rw [Go.heap_setCell_same w1 p 0 _ _ _ hr]
    rfl
  · have e : by1 (L ++ [x]) = by1 L ++ [.int .u8 (x.toNat : Nat)] := by simp [by1, by8, iN]
    rw [e, List.length_append]
    exact ownsRow_kept hown fun b hb => by
      cases hb
      exact Below.heap_setCell w1 ⟨p, 0, none⟩ _ g hne
  · refine Only.setCell ?_ (p := ⟨p, 0, none⟩) (fun _ => .inl rfl) _
    exact (((Only.refl _ w).alloc o).grown hg fun k hk _ => .inr hk)
  · rcases hat with e | e
    · exact .inl e.symm
    · exact .inr ⟨g, rfl, by rw [e]; simp⟩
theorem bit_val (n i : Nat) (hn : n < 2 ^ 64) : bits .and .u64 ((n : Int) / 2 ^ i) 1 = ((n.testBit i).toNat : Nat) := by
  have h1 : ((n : Int) / 2 ^ i) = ((n / 2 ^ i : Nat) : Int) := by simp
  have h2 : n / 2 ^ i ≤ n := Nat.div_le_self _ _
  have h3 := u64_and_nat (n / 2 ^ i) 1 (by omega) (by decide)
  rw [h1, show (1 : Int) = ((1 : Nat) : Int) from rfl, h3, nat_mask1, testBit_div]
  by_cases h : n / 2 ^ i % 2 = 1
  · simp [h]
  · have : n / 2 ^ i % 2 = 0 := by omega
    simp [this]

set_option maxHeartbeats 4000000 in
theorem rput_ok (B p : Nat) (v : Value) (L : List Bool) (n k : Nat) (w : World) (h : RefAt B p v L w) (hn : n < 2 ^ k) (hk : k ≤ 64) (hm : L.length + k < 1000000) (hz : B ≤ w.heap.size) :
    Calls Tryz.prog 97 #[.pointer (some ⟨p, 0, none⟩), .int .u64 n, .int .i64 k] w fun e w' => e = .returned (.int .i64 0) ∧ ∃ v', RefAt B p v' (L ++ nbits n k) w' ∧ Step p v v' w w' := by
  have hn64 : n < 2 ^ 64 := Nat.lt_of_lt_of_le hn (Nat.pow_le_pow_right (by decide) hk)
  have e1 : decide ((k : Int) < 0) = false := by simp
  have e2 : decide (64 < (k : Int)) = false := by simp; omega
  have e3 : ((n : Int) / 2 ^ k != 0) = false := by
    have h1 : ((n : Int) / 2 ^ k) = ((n / 2 ^ k : Nat) : Int) := by simp
    rw [h1, Nat.div_eq_of_lt hn]
    rfl
  obtain ⟨i0, hi, hz0, hz1, hz2⟩ := info_parts info5
  have HI := Lib.hid hi
  have HZ := Lib.hid hz0
  have HZ1 := Lib.hid hz1
  have HZ2 := Lib.hid hz2
  have H := Lib.hid h
  have HN := Lib.hid hn64
  have HM := Lib.hid hm
  have HNN := Lib.hid hn
  clear h hi hz0 hz1 hz2 hn64 hm hn
  have e4 : decide ((k : Int) < 64) = true ∨ decide ((k : Int) < 64) = false := by cases decide ((k : Int) < 64) <;> simp
  go_enter Tryz.func97, Tryz.ntmps97
  rcases e4 with e4 | e4
  all_goals
    go_wp2_with fail
    clear e1 e2 e3 e4
    go_loopw [7] (fun i wr => ∃ j : Nat, j ≤ k ∧ i = .int .i64 ((j : Int) - 1) ∧ ∃ v', Hid (RefAt B p v' (L ++ (nbits n k).take (k - j)) wr) ∧ Hid (Step p v v' w wr)) (fun i _ => (intOf i + 1).toNat)
    case atStart => exact ⟨k, Nat.le_refl _, rfl, v, by simpa using H, Lib.hid (Step.refl _ _ _)⟩
    case round =>
      obtain ⟨j, hj, rfl, v', R, S⟩ := hrel
      by_cases hj0 : 1 ≤ j
      · obtain ⟨i, rfl⟩ : ∃ i, j = i + 1 := ⟨j - 1, by omega⟩
        have x0 : wr.cell? ⟨p, 0, none⟩ = some v' := cell_of_row _ _ _ _ _ _ R.out.box
        have hX := bit_val n i HN.out
        have hlen : (L ++ (nbits n k).take (k - (i + 1))).length = L.length + (k - (i + 1)) := by simp [nbits_len]
        have hmx := HM.out
        have hzz := S.out.only.size
        have E1 := Lib.hid (nbits_get n k (k - (i + 1)) (by omega))
        generalize hy : (n.testBit i).toNat = y at *
        have hy1 : (y : Int) ≤ 1 := by rw [← hy]; cases n.testBit i <;> simp
        have HY := Lib.hid hy
        generalize hMM : L ++ (nbits n k).take (k - (i + 1)) = M at *
        have HMM := Lib.hid hMM
        have HLEN := Lib.hid hlen
        obtain ⟨ax, nx, cx, rfl⟩ : ∃ a n c, v' = .slice a n c := by
          obtain ⟨a, c, h⟩ := owns_shape R.out.owns
          exact ⟨_, _, _, h⟩
        clear hy hlen hMM
        go_wp2_with (at_builtin; refine wpList_append_lies _ rfl _ _ 22 rfl B 5 i0 (.int .u8 0) 1 1 Tryz.underlying22 HI.out HZ.out HZ1.out HZ2.out rfl (by decide) _ _ _ rfl (R.out.owns.alloc _) ⟨wr.heap.size, 0, none⟩ 1 1 [.int .u8 y] rfl rfl (cell_one_new _ _ _) (oc1 _ _) (by decide) (by rw [HLEN.out]; unfold maxLen; omega) (by rw [HLEN.out]; omega) (by simp; omega) _ rfl ?_; intro g cap w2 hown hgr hat hlt; obtain ⟨R2, S2, c2, f2⟩ := R.out.app _ (n.testBit i) (by rw [HY.out]; exact hown) hgr hat (by rw [HLEN.out]; omega))
        have RX := Lib.hid R2
        have SX := Lib.hid (S.out.trans S2)
        clear R S R2 S2 hown hgr hat hlt c2 f2 hX x0
        go_roundw
        case rel =>
          refine ⟨i, by omega, by go_num, _, ?_, SX⟩
          have e1 := E1.out
          rw [show k - i = k - (i + 1) + 1 by omega, List.take_add_one, e1, show k - 1 - (k - (i + 1)) = i by omega, Option.toList_some, ← List.append_assoc, HMM.out]
          exact RX
        case measure => simp [intOf]
      · obtain rfl : j = 0 := by omega
        go_wp2_with fail
        go_ret
        refine ⟨rfl, v', ?_, S.out⟩
        have := R.out
        rwa [Nat.sub_zero, List.take_of_length_le (by rw [nbits_len]; exact Nat.le_refl _)] at this

theorem rput_no (p : Nat) (n k : Int) (w : World) (h0 : 0 ≤ n) (h1 : n < 18446744073709551616) (hk : k < 0 ∨ 64 < k ∨ (0 ≤ k ∧ k ≤ 64 ∧ ¬ n < 2 ^ k.toNat)) :
    Calls Tryz.prog 97 #[.pointer (some ⟨p, 0, none⟩), .int .u64 n, .int .i64 k] w fun e w' => e = .returned (.int .i64 1) ∧ w = w' := by
  rcases hk with hk | hk | ⟨h2, h3, h4⟩
  · have e1 : decide (k < 0) = true := by simpa using hk
    go_enter Tryz.func97, Tryz.ntmps97
    go_wp2_with fail
    go_ret
    exact ⟨rfl, rfl⟩
  · have e1 : decide (k < 0) = false := by simp; omega
    have e2 : decide (64 < k) = true := by simpa using hk
    go_enter Tryz.func97, Tryz.ntmps97
    go_wp2_with fail
    go_ret
    exact ⟨rfl, rfl⟩
  · obtain ⟨m, rfl⟩ := Int.eq_ofNat_of_zero_le h2
    rw [Int.toNat_natCast] at h4
    have e1 : decide ((m : Int) < 0) = false := by simp
    have e2 : decide (64 < (m : Int)) = false := by simp; omega
    have e3 : decide ((m : Int) < 64) = true := by
      rcases Nat.lt_or_ge m 64 with h | h
      · simp; omega
      · obtain rfl : m = 64 := by omega
        exact absurd (show n < 2 ^ 64 by omega) h4
    have e4 : (n / 2 ^ m != 0) = true := by
      rw [bne_iff_ne]
      have hp : (0 : Int) < 2 ^ m := Int.pow_pos (by decide)
      have := Int.le_ediv_of_mul_le hp (show 1 * 2 ^ m ≤ n by omega)
      omega
    clear h4
    go_enter Tryz.func97, Tryz.ntmps97
    go_wp2_with fail
    go_ret
    exact ⟨rfl, rfl⟩

/-! ### The bytes -/
theorem pack_noughts (l : List Bool) (r : Nat) : ∃ m, m = (l.length + r + 7) / 8 - (l.length + 7) / 8 ∧ pack (l ++ List.replicate r false) = pack l ++ List.replicate m 0 := by
  refine ⟨_, rfl, ?_⟩
  induction r with
  | zero => simp
  | succ r ih =>
    rw [List.replicate_succ', ← List.append_assoc, pack_nought, ih]
    simp only [List.length_append, List.length_replicate]
    split
    · rw [List.append_assoc, ← List.replicate_succ', show (l.length + r + 7) / 8 - (l.length + 7) / 8 + 1 = (l.length + (r + 1) + 7) / 8 - (l.length + 7) / 8 by omega]
    · rw [show (l.length + r + 7) / 8 - (l.length + 7) / 8 = (l.length + (r + 1) + 7) / 8 - (l.length + 7) / 8 by omega]
/-- The bytes on the way: the first i bits are in. -/
def packTo (L : List Bool) (i : Nat) : List Nat := pack (L.take i ++ List.replicate (L.length - i) false)
theorem packTo_len (L : List Bool) (i : Nat) (h : i ≤ L.length) : (packTo L i).length = (L.length + 7) / 8 := by
  rw [packTo, pack_len]
  simp
  omega
theorem packTo_zero (L : List Bool) : packTo L 0 = List.replicate ((L.length + 7) / 8) 0 := by
  obtain ⟨m, hm, h⟩ := pack_noughts [] L.length
  simp only [List.nil_append] at h
  simp [packTo, h, hm, pack_nil]
theorem packTo_all (L : List Bool) : packTo L L.length = pack L := by simp [packTo]
theorem packTo_lt (L : List Bool) (i : Nat) : ∀ c ∈ packTo L i, c < 256 := pack_lt _
theorem packTo_step (L : List Bool) (i : Nat) (h : i < L.length) : ∃ x, (packTo L i)[i / 8]? = some x ∧ x % 2 ^ (8 - i % 8) = 0 ∧ x < 256 ∧
    packTo L (i + 1) = (packTo L i).set (i / 8) (x + L[i].toNat * 2 ^ (7 - i % 8)) := by
  have hl : (L.take i).length = i := by rw [List.length_take]; omega
  have e0 : L.take i ++ List.replicate (L.length - i) false = (L.take i ++ [false]) ++ List.replicate (L.length - (i + 1)) false := by
    rw [List.append_assoc, List.singleton_append, ← List.replicate_succ, show L.length - (i + 1) + 1 = L.length - i by omega]
  have e1 : L.take (i + 1) ++ List.replicate (L.length - (i + 1)) false = (L.take i ++ [L[i]]) ++ List.replicate (L.length - (i + 1)) false := by rw [List.take_succ_eq_append_getElem h]
  obtain ⟨m, hm, h0⟩ := pack_noughts (L.take i ++ [false]) (L.length - (i + 1))
  obtain ⟨m', hm', h1⟩ := pack_noughts (L.take i ++ [L[i]]) (L.length - (i + 1))
  obtain rfl : m = m' := by rw [hm, hm', List.length_append, List.length_append]; rfl
  obtain ⟨x, hx, hx2, hx3, hx4⟩ := pack_yes (L.take i)
  rw [hl] at hx hx2 hx3 hx4
  have hp : i / 8 < (pack (L.take i ++ [false])).length := (List.getElem?_eq_some_iff.1 hx).1
  unfold packTo
  rw [e0, e1, h0, h1]
  refine ⟨x, by rw [List.getElem?_append_left hp]; exact hx, hx2, by have := Nat.two_pow_pos (7 - i % 8); omega, ?_⟩
  rw [List.set_append_left _ _ hp]
  congr 1
  cases L[i] with
  | true => rw [hx4]; simp
  | false =>
    simp only [Bool.toNat_false, Nat.zero_mul, Nat.add_zero]
    apply List.ext_getElem?
    intro q
    rw [List.getElem?_set]
    split
    · rename_i e
      subst e
      exact hx
    · rfl
theorem or_zero : ∀ x : Nat, x < 256 → bits .or .u8 (x : Int) 0 = (x : Int) := by decide +kernel
theorem below_put {B g : Nat} {a w : World} (h : Below B a w) (hg : B ≤ g) (j : Nat) (u : Value) : Below B a (w.setCell ⟨g, j, none⟩ u) :=
  ⟨h.os, h.tape, h.output, by simpa [World.setCell] using h.size, fun k hk => (Below.heap_setCell w ⟨g, j, none⟩ u k (by simp; omega)).trans (h.block k hk)⟩
theorem own_put {w : World} {base g n c : Nat} {ls : List Nat} (h : w.ownsRow base 5 1 (.slice (some ⟨g, 0, none⟩) n c) n (by8 (iN ls))) (j x : Nat) : (w.setCell ⟨g, j, none⟩ (.int .u8 x)).drew.ownsRow base 5 1 (.slice (some ⟨g, 0, none⟩) n c) n (by8 (iN (ls.set j x))) := by
  have e : by8 (iN (ls.set j x)) = (by8 (iN ls)).set j (.int .u8 x) := by simp only [by8, iN, List.map_set]
  rw [e]
  exact (h.stored j (.int .u8 x)).1
theorem made_noughts (n : Nat) : (madeCells (Value.int .u8 0).cells (n * 1)).toList = by8 (iN (List.replicate n 0)) := by
  apply List.ext_getElem
  · simp [madeCells]
  · intro i h1 h2
    simp [madeCells, Value.cells, Nat.mod_one]

set_option maxRecDepth 20000 in
set_option maxHeartbeats 4000000 in
theorem rbytes_any (B p : Nat) (v : Value) (L : List Bool) (w : World) (h : RefAt B p v L w) :
    Calls Tryz.prog 98 #[.pointer (some ⟨p, 0, none⟩)] w fun e w' => ∃ v', e = .returned v' ∧ w'.ownsRow w.heap.size 5 1 v' ((L.length + 7) / 8) (by8 (iN (pack L))) ∧ Below w.heap.size w w' := by
  obtain ⟨i0, hi, hz0, hz1, hz2⟩ := info_parts info5
  have HI := Lib.hid hi
  have HZ := Lib.hid hz0
  have HZ1 := Lib.hid hz1
  have HZ2 := Lib.hid hz2
  have H := Lib.hid h
  have hm := h.most
  have x0 : w.cell? ⟨p, 0, none⟩ = some v := cell_of_row _ _ _ _ _ _ h.box
  obtain ⟨a, c, rfl⟩ := owns_shape h.owns
  clear h hi hz0 hz1 hz2
  go_enter Tryz.func98, Tryz.ntmps98
  have hq : (((L.length : Int) + 7) / 8) = (((L.length + 7) / 8 : Nat) : Int) := by omega
  have HQ := Lib.hid hq
  have hbig : (L.length + 7) / 8 ≤ 200000 := by omega
  have hzero := packTo_zero L
  have HK8 := Lib.hid (fun (k : Nat) (hk : k < L.length) => show k / 8 < (L.length + 7) / 8 by omega)
  clear hq
  generalize (L.length + 7) / 8 = N8 at *
  have HZR := Lib.hid hzero
  clear hzero
  go_wp2_with (at_make; refine wpList_make_full _ rfl _ _ 22 rfl w.heap.size 5 i0 (.int .u8 0) 1 Tryz.underlying22 HI.out HZ.out HZ1.out .i64 .i64 _ _ N8 rfl rfl HQ.out HQ.out (by rw [HZ2.out]; omega) (by unfold maxLen; omega) (Nat.le_refl _) ?_; intro w1 hown hgrow)
  have B1 : Below w.heap.size w w1 := (Below.refl _ _).grown hgrow (Nat.le_refl _) (by simp)
  rw [made_noughts, ← HZR.out] at hown
  have HOWN := Lib.hid hown
  clear hown hgrow x0
  go_loopw [4] (fun i wr => ∃ k : Nat, k ≤ L.length ∧ i = .int .i64 k ∧ Hid (Below w.heap.size w wr) ∧ Hid (wr.ownsRow w.heap.size 5 1 (.slice (some ⟨w.heap.size, 0, none⟩) N8 N8) N8 (by8 (iN (packTo L k))))) (fun i _ => L.length - (intOf i).toNat)
  case atStart => exact ⟨0, by omega, rfl, Lib.hid B1, HOWN⟩
  case round =>
    clear B1 HOWN
    obtain ⟨k, hk, rfl, B, O⟩ := hrel
    have R := H.out.below B.out
    have x0 : wr.cell? ⟨p, 0, none⟩ = some (.slice a L.length c) := cell_of_row _ _ _ _ _ _ R.box
    by_cases hlt : k < L.length
    · obtain ⟨y, hy, hy2, hy3, hstep⟩ := packTo_step L k hlt
      have hk8 := HK8.out k hlt
      have y0 : wr.cell? ⟨w.heap.size, k / 8, none⟩ = some (.int .u8 y) := by
        rw [O.out.cellAt _ (by omega)]
        simp [hy]
      have y1 := O.out.frozenAt (k / 8)
      have hbit : (by1 L)[k]? = some (.int .u8 (L[k].toNat : Nat)) := by simp [by1, by8, iN, hlt]
      obtain ⟨_, _, hvv, _, _, _, hcell⟩ := own_rd R.owns
      obtain ⟨b, o, rfl, z0⟩ := hcell k _ hbit
      simp only [Value.slice.injEq] at hvv
      obtain ⟨rfl, hd1, hd2⟩ := hvv
      clear hd1 hd2
      have hy0 : (0 : Int) ≤ y := by omega
      have hy256 : (y : Int) ≤ 255 := by omega
      have HS := Lib.hid hstep
      have HB := Lib.hid hbit
      clear hstep hcell hbit
      generalize L[k] = x at *
      have OR := Lib.hid (or_bit (k % 8) (by omega) y hy3 hy2)
      have OZ := Lib.hid (or_zero y hy3)
      clear hy hy2 hy3
      cases x
      · simp only [Bool.toNat_false, Int.ofNat_zero] at z0
        go_wp2_with fail
        go_region
        have O2 := own_put O.out (k / 8) y
        have B2 := bdraw (below_put B.out (Nat.le_refl _) (k / 8) (.int .u8 y)) 1
        have e2 := HS.out
        simp only [Bool.toNat_false, Nat.zero_mul, Nat.add_zero] at e2
        rw [← e2] at O2
        rw [OZ.out]
        have OX := Lib.hid O2
        have BX := Lib.hid B2
        clear O B O2 B2 e2 R x0 y0 y1 z0
        go_wp2_with fail
        go_roundw
        case rel => exact ⟨k + 1, by omega, by go_num, BX, OX⟩
        case measure => simp [intOf]; omega
      · simp only [Bool.toNat_true] at z0
        go_wp2_with fail
        go_region
        have O2 := own_put O.out (k / 8) (y + 2 ^ (7 - k % 8))
        have B2 := bdraw (below_put B.out (Nat.le_refl _) (k / 8) (.int .u8 ((y + 2 ^ (7 - k % 8) : Nat) : Int))) 1
        have e2 := HS.out
        simp only [Bool.toNat_true, Nat.one_mul] at e2
        rw [← e2] at O2
        rw [OR.out]
        have OX := Lib.hid O2
        have BX := Lib.hid B2
        clear O B O2 B2 e2 R x0 y0 y1 z0
        go_wp2_with fail
        go_roundw
        case rel => exact ⟨k + 1, by omega, by go_num, BX, OX⟩
        case measure => simp [intOf]; omega
    · obtain rfl : k = L.length := by omega
      go_wp2_with fail
      go_ret
      have o1 := O.out
      rw [packTo_all] at o1
      exact ⟨_, rfl, o1, B.out⟩
end Go.Proofs.YtckpeclkkmapiaaGreatDoor
