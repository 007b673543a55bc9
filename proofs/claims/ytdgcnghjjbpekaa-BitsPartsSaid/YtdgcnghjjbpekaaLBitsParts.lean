/-
  The walk of BitsParts: bits of bytes are those of their parts.
-/
import Derived.Test.YtdgcnghjjbpekaaBitsAlive
import Derived.Test.YtdgcnghjjbpekaaBitsFacts
import Derived.Test.YtdgcnghjjbpekaaCells
import Derived.Test.YtdgcnghjjbpekaaOpenB
namespace Go.Proofs.Ytdgcnghjjbpekaa
open Go.RowKit
open Go

theorem Arg.u8x3 {W : World} {v : Value} (A : Arg Try.prog 41 W v) : ∃ a b c : Nat, v = .agg #[.int .u8 a, .int .u8 b, .int .u8 c] ∧ a < 256 ∧ b < 256 ∧ c < 256 := by
  obtain ⟨cs, rfl⟩ := A.array Try.underlying41
  obtain ⟨zs, hz, hl, hwf⟩ := A.cells.arrNums Try.underlying41 Try.underlying5 (by kernel_rfl) (by kernel_rfl)
  match zs, hl with
  | [x, y, z], _ =>
    have hx := bounds_u8 (hwf x (by simp))
    have hy := bounds_u8 (hwf y (by simp))
    have hz' := bounds_u8 (hwf z (by simp))
    obtain ⟨a, rfl⟩ := Int.eq_ofNat_of_zero_le hx.1
    obtain ⟨b, rfl⟩ := Int.eq_ofNat_of_zero_le hy.1
    obtain ⟨c, rfl⟩ := Int.eq_ofNat_of_zero_le hz'.1
    refine ⟨a, b, c, ?_, by omega, by omega, by omega⟩
    have : cs.toList = _ := hz
    rw [← Array.toArray_toList (xs := cs), this]
    rfl
theorem u8_nat {W : World} {v : Value} (A : Arg Try.prog 23 W v) : ∃ ls : List Nat, Rd W v (by8 (iN ls)) ∧ (∀ n ∈ ls, n < 256) ∧ ls.length ≤ 140737488351232 := by
  obtain ⟨cs, hR, hB, hl⟩ := A.bytes
  obtain ⟨ls, rfl⟩ := iN_of cs fun z hz => (hB z hz).1
  refine ⟨ls, hR, fun n hn => ?_, by simpa using hl⟩
  have := (hB n (List.mem_map.2 ⟨n, hn, rfl⟩)).2
  omega
theorem getN_parts (bs : List Nat) (at_ k m : Nat) (hk : k ≤ m) (h : at_ + m ≤ 8 * bs.length) : getN bs at_ m = getN bs at_ k * 2 ^ (m - k) + getN bs (at_ + k) (m - k) := by
  unfold getN
  have e : ((unpack bs).drop at_).take m = ((unpack bs).drop at_).take k ++ ((unpack bs).drop (at_ + k)).take (m - k) := by
    rw [← List.drop_drop, ← List.take_add, show k + (m - k) = m by omega]
  rw [e, val_append]
  congr 2
  rw [List.length_take, List.length_drop, unpack_len]
  congr 1
  omega
theorem part_of (p q r k : Nat) (hp : p < 2 ^ k) (hq : q < 2 ^ r) (h : k + r ≤ 64) : bits .or .u64 (IntKind.u64.wrap ((p : Int) * 2 ^ r)) (q : Int) = ((p * 2 ^ r + q : Nat) : Int) := by
  have h3 : (p + 1) * 2 ^ r ≤ 2 ^ k * 2 ^ r := Nat.mul_le_mul_right _ hp
  rw [← Nat.pow_add] at h3
  have h4 : 2 ^ (k + r) ≤ 2 ^ 64 := Nat.pow_le_pow_right (by decide) h
  rw [Nat.add_mul, Nat.one_mul] at h3
  have e1 : (p : Int) * 2 ^ r = ((p * 2 ^ r : Nat) : Int) := by simp
  have e2 := nat_join r (p * 2 ^ r) q (Nat.mul_mod_left _ _) hq
  rw [e1, u64_in _ (by omega) (by omega), u64_or_nat _ _ (by omega) (by omega), e2]
theorem bel_of_eq {w w' : World} (h : w = w') : Below w.heap.size w w' := h ▸ Below.refl _ _

set_option maxRecDepth 20000 in
set_option maxHeartbeats 2000000 in
theorem walk_BitsParts (v0 v1 : Value) (W : World) (A0 : Arg Try.prog 23 W v0) (A1 : Arg Try.prog 41 W v1) :
    Calls Try.prog 5 #[v0, v1] W fun e w' => e = .returned (.bool true) ∧ Below W.heap.size W w' := by
  obtain ⟨bs, hR, hb, hl⟩ := u8_nat A0
  obtain ⟨x, y, z, rfl, hx, hy, hz⟩ := A1.u8x3
  have hR0 := hR
  obtain ⟨a, c, rfl, hc, hcm, _⟩ := hR0
  unfold maxLen at hcm
  simp only [List.length_map] at *
  clear A0 A1
  have B1 := balloc (Below.refl W.heap.size W) (.cells #[.int .u8 x, .int .u8 y, .int .u8 z] 41 (0, 0))
  by_cases hbig : 5000 < bs.length
  · go_enter Try.func5, Try.ntmps5
    go_wp2_with fail
    refine (alive2_any _).mono ?_
    rintro e w1 ⟨rfl, b1⟩
    go_wp2_with fail
    refine (alive2_any _).mono ?_
    rintro e w2 ⟨rfl, b2⟩
    go_wp2_with fail
    go_ret
    exact ⟨rfl, bnext (bnext B1 b1) b2⟩
  have ey : ((y : Int) % 65) = ((y % 65 : Nat) : Int) := by omega
  have hm : y % 65 ≤ 64 := by omega
  generalize y % 65 = m at *
  obtain ⟨k, hk, ek⟩ : ∃ k : Nat, k ≤ m ∧ ((m = 0 ∧ k = 0) ∨ (0 < m ∧ (z : Int) % ((m : Int) + 1) = k)) := by
    by_cases h0 : m = 0
    · exact ⟨0, by omega, .inl ⟨h0, rfl⟩⟩
    · refine ⟨z % (m + 1), by have := Nat.mod_lt z (show 0 < m + 1 by omega); omega, .inr ⟨by omega, ?_⟩⟩
      rw [show (m : Int) + 1 = ((m + 1 : Nat) : Int) by omega]
      exact (Int.natCast_emod z (m + 1)).symm
  have GA : ∀ w : World, Below W.heap.size W w → ∀ (t q : Nat), q ≤ 64 → t ≤ 400 → (t + q ≤ 8 * bs.length → Calls Try.prog 14 #[.slice a bs.length c, .int .i64 t, .int .i64 q] w fun e w' => e = .returned (.tuple #[.int .u64 (getN bs t q), .int .i64 0]) ∧ w = w') ∧
      (¬ t + q ≤ 8 * bs.length → Calls Try.prog 14 #[.slice a bs.length c, .int .i64 t, .int .i64 q] w fun e w' => e = .returned (.tuple #[.int .u64 0, .int .i64 4]) ∧ w = w') := by
    intro w hw t q hq ht
    exact ⟨fun h => get_ok _ bs t q w (hR.below hw) hb hq h hl, fun h => get_short _ (iN bs) t q w (hR.below hw) hq (by simpa using h) (by simpa using hl) (by omega)⟩
  have em : ((m - k : Nat) : Int) = (m : Int) - k := by omega
  have eat : ((x + k : Nat) : Int) = (x : Int) + k := by omega
  by_cases h1 : x + m ≤ 8 * bs.length
  · have C1 := Lib.hid fun w hw => (GA w hw x m hm (by omega)).1 h1
    have C2 := Lib.hid fun w hw => (GA w hw x k (by omega) (by omega)).1 (by omega)
    have c3 := fun w hw => (GA w hw (x + k) (m - k) (by omega) (by omega)).1 (by omega)
    rw [em, eat] at c3
    have C3 := Lib.hid c3
    have HP := getN_parts bs x k m hk h1
    have HQ := part_of _ _ (m - k) k (getN_lt bs x k) (getN_lt bs (x + k) (m - k)) (by omega)
    rw [← HP] at HQ
    generalize getN bs x m = n1 at *
    generalize getN bs x k = n2 at *
    generalize getN bs (x + k) (m - k) = n3 at *
    clear c3 GA em eat HP hb hR
    rcases ek with ⟨e0, e1⟩ | ⟨e0, ek⟩
    · subst e0 e1
      replace HQ : bits .or .u64 (IntKind.u64.wrap (n2 : Int)) (n3 : Int) = (n1 : Int) := by simpa using HQ
      go_enter Try.func5, Try.ntmps5
      go_wp2_with fail
      refine (alive2_any _).mono ?_
      rintro e w1 ⟨rfl, b1⟩
      have B2 := bnext B1 b1
      have k0 := (b1.block W.heap.size (by simp)).trans (heap_alloc_new W (.cells #[.int .u8 x, .int .u8 y, .int .u8 z] 41 (0, 0)))
      have q0 : w1.cell? ⟨W.heap.size, 0, none⟩ = some (.int .u8 x) := cell_of_row w1 _ 0 _ _ _ k0
      have q1 : w1.cell? ⟨W.heap.size, 1, none⟩ = some (.int .u8 y) := cell_of_row w1 _ 1 _ _ _ k0
      clear b1 B1 k0
      go_wp2_with fail
      refine Calls.mono (C1.out _ B2) ?_
      rintro e w2 ⟨rfl, rfl⟩
      go_wp2_with fail
      refine Calls.mono (C2.out _ B2) ?_
      rintro e w2 ⟨rfl, rfl⟩
      go_wp2_with fail
      refine Calls.mono (C3.out _ B2) ?_
      rintro e w2 ⟨rfl, rfl⟩
      go_wp2_with fail
      go_ret
      exact ⟨rfl, B2⟩
    · go_enter Try.func5, Try.ntmps5
      go_wp2_with fail
      refine (alive2_any _).mono ?_
      rintro e w1 ⟨rfl, b1⟩
      have B2 := bnext B1 b1
      have k0 := (b1.block W.heap.size (by simp)).trans (heap_alloc_new W (.cells #[.int .u8 x, .int .u8 y, .int .u8 z] 41 (0, 0)))
      have q0 : w1.cell? ⟨W.heap.size, 0, none⟩ = some (.int .u8 x) := cell_of_row w1 _ 0 _ _ _ k0
      have q1 : w1.cell? ⟨W.heap.size, 1, none⟩ = some (.int .u8 y) := cell_of_row w1 _ 1 _ _ _ k0
      have q2 : w1.cell? ⟨W.heap.size, 2, none⟩ = some (.int .u8 z) := cell_of_row w1 _ 2 _ _ _ k0
      clear b1 B1 k0
      go_wp2_with fail
      refine Calls.mono (C1.out _ B2) ?_
      rintro e w2 ⟨rfl, rfl⟩
      go_wp2_with fail
      refine Calls.mono (C2.out _ B2) ?_
      rintro e w2 ⟨rfl, rfl⟩
      go_wp2_with fail
      refine Calls.mono (C3.out _ B2) ?_
      rintro e w2 ⟨rfl, rfl⟩
      go_wp2_with fail
      go_ret
      exact ⟨rfl, B2⟩
  · by_cases h2 : x + k ≤ 8 * bs.length
    · have C1 := Lib.hid fun w hw => (GA w hw x m hm (by omega)).2 h1
      have C2 := Lib.hid fun w hw => (GA w hw x k (by omega) (by omega)).1 h2
      have c3 := fun w hw => (GA w hw (x + k) (m - k) (by omega) (by omega)).2 (by omega)
      rw [em, eat] at c3
      have C3 := Lib.hid c3
      generalize getN bs x k = n2 at *
      clear c3 GA em eat hb hR
      rcases ek with ⟨e0, e1⟩ | ⟨e0, ek⟩
      · exfalso
        omega
      · go_enter Try.func5, Try.ntmps5
        go_wp2_with fail
        refine (alive2_any _).mono ?_
        rintro e w1 ⟨rfl, b1⟩
        have B2 := bnext B1 b1
        have k0 := (b1.block W.heap.size (by simp)).trans (heap_alloc_new W (.cells #[.int .u8 x, .int .u8 y, .int .u8 z] 41 (0, 0)))
        have q0 : w1.cell? ⟨W.heap.size, 0, none⟩ = some (.int .u8 x) := cell_of_row w1 _ 0 _ _ _ k0
        have q1 : w1.cell? ⟨W.heap.size, 1, none⟩ = some (.int .u8 y) := cell_of_row w1 _ 1 _ _ _ k0
        have q2 : w1.cell? ⟨W.heap.size, 2, none⟩ = some (.int .u8 z) := cell_of_row w1 _ 2 _ _ _ k0
        clear b1 B1 k0
        go_wp2_with fail
        refine Calls.mono (C1.out _ B2) ?_
        rintro e w2 ⟨rfl, rfl⟩
        go_wp2_with fail
        refine Calls.mono (C2.out _ B2) ?_
        rintro e w2 ⟨rfl, rfl⟩
        go_wp2_with fail
        refine Calls.mono (C3.out _ B2) ?_
        rintro e w2 ⟨rfl, rfl⟩
        go_wp2_with fail
        go_ret
        exact ⟨rfl, B2⟩
    · have C1 := Lib.hid fun w hw => (GA w hw x m hm (by omega)).2 h1
      have C2 := Lib.hid fun w hw => (GA w hw x k (by omega) (by omega)).2 h2
      have c3 := fun w hw => (GA w hw (x + k) (m - k) (by omega) (by omega)).2 (by omega)
      rw [em, eat] at c3
      have C3 := Lib.hid c3
      clear c3 GA em eat hb hR
      rcases ek with ⟨e0, e1⟩ | ⟨e0, ek⟩
      · subst e0 e1
        go_enter Try.func5, Try.ntmps5
        go_wp2_with fail
        refine (alive2_any _).mono ?_
        rintro e w1 ⟨rfl, b1⟩
        have B2 := bnext B1 b1
        have k0 := (b1.block W.heap.size (by simp)).trans (heap_alloc_new W (.cells #[.int .u8 x, .int .u8 y, .int .u8 z] 41 (0, 0)))
        have q0 : w1.cell? ⟨W.heap.size, 0, none⟩ = some (.int .u8 x) := cell_of_row w1 _ 0 _ _ _ k0
        have q1 : w1.cell? ⟨W.heap.size, 1, none⟩ = some (.int .u8 y) := cell_of_row w1 _ 1 _ _ _ k0
        clear b1 B1 k0
        go_wp2_with fail
        refine Calls.mono (C1.out _ B2) ?_
        rintro e w2 ⟨rfl, rfl⟩
        go_wp2_with fail
        refine Calls.mono (C2.out _ B2) ?_
        rintro e w2 ⟨rfl, rfl⟩
        go_wp2_with fail
        refine Calls.mono (C3.out _ B2) ?_
        rintro e w2 ⟨rfl, rfl⟩
        go_wp2_with fail
        go_ret
        exact ⟨rfl, B2⟩
      · go_enter Try.func5, Try.ntmps5
        go_wp2_with fail
        refine (alive2_any _).mono ?_
        rintro e w1 ⟨rfl, b1⟩
        have B2 := bnext B1 b1
        have k0 := (b1.block W.heap.size (by simp)).trans (heap_alloc_new W (.cells #[.int .u8 x, .int .u8 y, .int .u8 z] 41 (0, 0)))
        have q0 : w1.cell? ⟨W.heap.size, 0, none⟩ = some (.int .u8 x) := cell_of_row w1 _ 0 _ _ _ k0
        have q1 : w1.cell? ⟨W.heap.size, 1, none⟩ = some (.int .u8 y) := cell_of_row w1 _ 1 _ _ _ k0
        have q2 : w1.cell? ⟨W.heap.size, 2, none⟩ = some (.int .u8 z) := cell_of_row w1 _ 2 _ _ _ k0
        clear b1 B1 k0
        go_wp2_with fail
        refine Calls.mono (C1.out _ B2) ?_
        rintro e w2 ⟨rfl, rfl⟩
        go_wp2_with fail
        refine Calls.mono (C2.out _ B2) ?_
        rintro e w2 ⟨rfl, rfl⟩
        go_wp2_with fail
        refine Calls.mono (C3.out _ B2) ?_
        rintro e w2 ⟨rfl, rfl⟩
        go_wp2_with fail
        go_ret
        exact ⟨rfl, B2⟩
end Go.Proofs.Ytdgcnghjjbpekaa
