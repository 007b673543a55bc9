/-
  The walks of bits.Bytes (slices.Clone) and bits.Get.
-/
import Derived.Test.YtckpeclkkmapiaaGreatDoorBitsW
import Derived.Test.YtckpeclkkmapiaaGreatDoorKit2
import Derived.Laws.BitsAllLaws
import Derived.OpenShut
namespace Go.Proofs.YtckpeclkkmapiaaGreatDoor
open Go.RowKit
open Go

/-- slices.Clone: memory of its own; nil stays nil. -/
theorem clone_any (a : Option Addr) (n c : Nat) (cs : List Int) (w : World) (h : Rd w (.slice a n c) (by8 cs)) (hm : n ≤ 140737488351232) :
    Calls Tryz.prog 100 #[.slice a n c] w fun e w' => ∃ v', e = .returned v' ∧ w'.ownsRow w.heap.size 5 1 v' n (by8 cs) ∧ (v'.ownBlock = none ↔ a = none) ∧ Below w.heap.size w w' := by
  have hl : (by8 cs).length = n := by
    obtain ⟨a, c', e, _⟩ := h
    cases e
    rfl
  have q1 := fun (w : World) => Lib.run_eql_slice_nil w 22 5 a n c 0 0 Tryz.underlying22
  cases a with
  | none =>
    have hn : n = 0 ∧ c = 0 := by
      obtain ⟨a, c', e, h1, _, h3, _⟩ := h
      cases e
      have := h3 rfl
      omega
    obtain ⟨rfl, rfl⟩ := hn
    simp only [Option.isNone_none] at q1
    have hc0 : by8 cs = [] := List.eq_nil_of_length_eq_zero hl
    have HC0 := Lib.hid hc0
    clear hl hc0
    go_enter Tryz.func100, Tryz.ntmps100
    go_wp2_with fail
    go_ret
    exact ⟨_, rfl, ⟨by rw [HC0.out]; rfl, .inl ⟨rfl, rfl⟩⟩, by simp [Value.ownBlock], Below.refl _ _⟩
  | some p =>
    obtain ⟨i0, hi, hz0, hz1, hz2⟩ := info_parts info5
    simp only [Option.isNone_some] at q1
    have HL := Lib.hid hl
    clear hl
    have src : ∀ (j : Nat) (u : Value), (by8 cs)[j]? = some u → (w.alloc (.cells #[] 5)).cell? (p.add j) = some u := by
      intro j u hj
      obtain ⟨a, c', e, _, _, _, hcell⟩ := h.below (balloc (Below.refl w.heap.size w) (.cells #[] 5))
      obtain ⟨b, o, e2, hc⟩ := hcell j u hj
      cases e
      cases e2
      rw [Addr.add_lit]
      exact hc
    have SRC := Lib.hid src
    clear src
    have own0 : (w.alloc (.cells #[] 5)).ownsRow w.heap.size 5 1 (.slice (some ⟨w.heap.size, 0, none⟩) 0 0) 0 [] := ⟨rfl, .inr ⟨_, 0, #[], rfl, Nat.le_refl _, heap_alloc_new _ _, Nat.le_refl _, by simp [maxLen], rfl, rfl⟩⟩
    go_enter Tryz.func100, Tryz.ntmps100
    go_wp2_with (at_builtin; refine wpList_append_own_at _ rfl _ _ 22 rfl w.heap.size 5 i0 (.int .u8 0) 1 1 Tryz.underlying22 hi hz0 hz1 hz2 rfl (by decide) (.slice (some ⟨w.heap.size, 0, none⟩) 0 0) 0 [] rfl own0 p n c (by8 cs) rfl (by rw [HL.out]; simp) SRC.out (oc8 _ _) (by unfold maxLen; omega) (by omega) (by simp) ?_; intro v' w1 hown1 hgrow1 hnil1 hv1)
    go_ret
    have hb : Below w.heap.size w w1 := (balloc (Below.refl w.heap.size w) _).grown hgrow1 (by simp) (fun k e => by
      cases e
      exact Nat.le_refl _)
    refine ⟨_, rfl, by simpa using hown1, ?_, hb⟩
    have hne : v'.ownBlock ≠ none := by
      rcases hv1 with e | e <;> rw [e] <;> exact fun x => by cases x
    exact ⟨fun x => absurd x hne, fun x => by cases x⟩
theorem owns_shape {w : World} {base : Nat} {e : TypeId} {v : Value} {n : Nat} {xs : List Value} (h : w.ownsRow base e 1 v n xs) : ∃ a c, v = .slice a n c := by
  rcases h.2 with ⟨rfl, rfl⟩ | ⟨g, c, cur, rfl, _⟩
  · exact ⟨none, 0, rfl⟩
  · exact ⟨_, c, rfl⟩
/-- The bytes of a writer, memory of their own. -/
theorem bytes_any (B pw pr : Nat) (v : Value) (L : List Bool) (w : World) (h : WriAt B pw pr v L w) :
    Calls Tryz.prog 96 #[.pointer (some ⟨pw, 0, none⟩)] w fun e w' => ∃ v', e = .returned v' ∧ w'.ownsRow w.heap.size 5 1 v' ((L.length + 7) / 8) (by8 (iN (pack L))) ∧ Below w.heap.size w w' := by
  have c0 : w.cell? ⟨pw, 0, none⟩ = some (.pointer (some ⟨pr, 0, none⟩)) := cell_of_row w pw 0 _ _ _ h.1
  have c1 : w.cell? ⟨pr, 0, none⟩ = some v := cell_of_row w pr 0 _ _ _ h.2.row
  obtain ⟨a, c, rfl⟩ := owns_shape h.2.owns
  have hr := own_rd h.2.owns
  have hm := h.2.most
  go_enter Tryz.func96, Tryz.ntmps96
  go_wp2_with fail
  refine (there_yes B pw pr _ L w h).mono ?_
  rintro e w1 ⟨rfl, rfl⟩
  go_wp2_with fail
  refine (clone_any a _ c _ w hr (by omega)).mono ?_
  rintro e w2 ⟨v', rfl, q1, _, q3⟩
  go_wp2_with fail
  go_ret
  exact ⟨_, rfl, q1, q3⟩

/-- A number of bits of bytes. -/
def getN (bs : List Nat) (at_ k : Nat) : Nat := val (((unpack bs).drop at_).take k)
theorem getN_zero (bs : List Nat) (at_ : Nat) : getN bs at_ 0 = 0 := by simp [getN, val]
theorem getN_succ (bs : List Nat) (at_ k : Nat) (h : at_ + k < 8 * bs.length) : ∃ c, bs[(at_ + k) / 8]? = some c ∧ getN bs at_ (k + 1) = 2 * getN bs at_ k + (c.testBit (7 - (at_ + k) % 8)).toNat := by
  have h1 := unpack_get bs (at_ + k)
  have hq : (at_ + k) / 8 < bs.length := by omega
  refine ⟨bs[(at_ + k) / 8], List.getElem?_eq_getElem hq, ?_⟩
  rw [List.getElem?_eq_getElem hq] at h1
  unfold getN
  rw [List.take_add_one, List.getElem?_drop, h1]
  exact val_snoc _ _
theorem getN_lt (bs : List Nat) (at_ k : Nat) : getN bs at_ k < 2 ^ k := by
  have h1 := val_lt (((unpack bs).drop at_).take k)
  have h2 : (((unpack bs).drop at_).take k).length ≤ k := by simp; omega
  exact Nat.lt_of_lt_of_le h1 (Nat.pow_le_pow_right (by decide) h2)

theorem get_step (N x r j : Nat) (hN : N < 2 ^ j) (hj : j < 64) (hx : x < 256) :
    bits .or .u64 (IntKind.u64.wrap ((N : Int) * 2)) (IntKind.u64.wrap (bits .and .u8 ((x : Int) / 2 ^ r) 1)) = ((2 * N + (x.testBit r).toNat : Nat) : Int) := by
  have hw : ∀ n : Int, 0 ≤ n → n < 18446744073709551616 → IntKind.u64.wrap n = n := by
    intro n h0 h1
    simp [IntKind.wrap, IntKind.bits, IntKind.signed]
    omega
  have hp : 2 ^ j ≤ 2 ^ 63 := Nat.pow_le_pow_right (by decide) (by omega)
  have h1 : ((x : Int) / 2 ^ r) = ((x / 2 ^ r : Nat) : Int) := by simp
  have h2 : x / 2 ^ r ≤ x := Nat.div_le_self _ _
  have h3 := u8_and_nat (x / 2 ^ r) 1 (by omega) (by decide)
  rw [h1, show (1 : Int) = ((1 : Nat) : Int) from rfl, h3, nat_mask1, hw _ (by omega) (by omega), hw _ (by omega) (by omega)]
  have h4 := u64_or_nat (2 * N) (x / 2 ^ r % 2) (by omega) (by omega)
  rw [show (N : Int) * 2 = ((2 * N : Nat) : Int) by omega, h4, nat_join 1 _ _ (by omega) (by omega), testBit_div]
  congr 2
  by_cases h : x / 2 ^ r % 2 = 1
  · simp [h]
  · have h0 : x / 2 ^ r % 2 = 0 := by omega
    simp [h0]

set_option maxHeartbeats 400000 in
theorem get_ok (v : Value) (bs : List Nat) (at_ k : Nat) (w : World) (h : Rd w v (by8 (iN bs))) (hb : ∀ c ∈ bs, c < 256) (hk : k ≤ 64) (ha : at_ + k ≤ 8 * bs.length) (hm : bs.length ≤ 140737488351232) :
    Calls Tryz.prog 36 #[v, .int .i64 at_, .int .i64 k] w fun e w' => e = .returned (.tuple #[.int .u64 (getN bs at_ k), .int .i64 0]) ∧ w = w' := by
  obtain ⟨a, c, rfl, hc, hcm, hn, hcell⟩ := h
  simp only [List.length_map] at *
  unfold maxLen at hcm
  have e1 : decide ((at_ : Int) < 0) = false := by simp
  have e2 : decide ((k : Int) < 0) = false := by simp
  have e3 : decide (64 < (k : Int)) = false := by simp; omega
  have HC := Lib.hid hcell
  have HB := Lib.hid hb
  clear hcell hb
  go_enter Tryz.func36, Tryz.ntmps36
  go_wp2_with fail
  clear e1 e2 e3
  go_loop [6, 30] (fun n i => ∃ j : Nat, j ≤ k ∧ i = .int .i64 j ∧ n = .int .u64 (getN bs at_ j)) (fun _ i => k - (intOf i).toNat)
  case atStart => exact ⟨0, by omega, rfl, by rw [getN_zero]; rfl⟩
  case round =>
    obtain ⟨j, hj, rfl, rfl⟩ := hrel
    by_cases hlt : j < k
    · obtain ⟨x, hx, hs⟩ := getN_succ bs at_ j (by omega)
      obtain ⟨b, o, rfl, x0⟩ := HC.out ((at_ + j) / 8) (.int .u8 x) (by simp [by8, iN, hx])
      have hl := getN_lt bs at_ j
      have HX : Hid (x < 256) := HB.out x (List.mem_of_getElem? hx)
      have HS := Lib.hid hs
      clear hs hx
      generalize getN bs at_ j = N at *
      have hx : x < 256 := HX.out
      have HG := Lib.hid (get_step N x (7 - (at_ + j) % 8) j hl (by omega) hx)
      go_wp2_with fail
      go_round
      case rel => exact ⟨j + 1, by omega, by go_num, by rw [HG.out, HS.out]⟩
      case measure => simp [intOf]; omega
    · obtain rfl : j = k := by omega
      go_wp2_with fail
      go_ret2
      exact ⟨rfl, rfl⟩
end Go.Proofs.YtckpeclkkmapiaaGreatDoor
