/-
  The walk of BitsWhole: bytes that are put one by one are those bytes; one bit ahead of them moves all.
-/
import Derived.Test.YtdgcnghjjbpekaaBitsTwo
import Derived.Test.YtdgcnghjjbpekaaKit4
namespace Go.Proofs.Ytdgcnghjjbpekaa
open Go.RowKit
open Go

theorem unpack_snoc (bs : List Nat) (i : Nat) (h : i < bs.length) : unpack (bs.take (i + 1)) = unpack (bs.take i) ++ nbits bs[i] 8 := by
  rw [take_snoc _ _ h, unpack_append]
  simp [unpack]
theorem rest_of (o : Bool) (bs : List Nat) (i : Nat) (h : i ≤ bs.length) : ∃ d, (o :: unpack bs).drop (8 * i) = d :: unpack (bs.drop i) ∧ (i = 0 → d = o) ∧ (∀ (j : Nat) (hj : j < bs.length), i = j + 1 → d = bs[j].testBit 0) := by
  cases i with
  | zero => exact ⟨o, rfl, fun _ => rfl, fun j _ e => by omega⟩
  | succ j =>
    refine ⟨bs[j].testBit 0, ?_, fun e => by omega, fun k hk e => by cases (show j = k by omega); rfl⟩
    rw [show 8 * (j + 1) = (8 * j + 7) + 1 by omega, List.drop_succ_cons, ← List.drop_drop, unpack_drop, List.drop_eq_getElem_cons (show j < bs.length by omega), unpack_cons]
    rw [List.drop_append_of_le_length (by rw [nbits_len]; omega)]
    rfl
theorem val_pad (d : Bool) (l : List Bool) : val (pad8 (d :: l)) = d.toNat * 128 + val (l.take 7 ++ List.replicate (7 - l.length) false) := by
  have h7 : (l.take 7 ++ List.replicate (7 - l.length) false).length = 7 := by simp; omega
  unfold pad8
  rw [List.take_succ_cons, List.cons_append, val_cons, show 8 - (d :: l).length = 7 - l.length by simp, h7]
theorem val7_lt (l : List Bool) (h : l.length = 7) : val l < 128 := by
  have := val_lt l
  rwa [h] at this
theorem moved (o : Bool) (bs : List Nat) (hb : ∀ c ∈ bs, c < 256) : (pack (o :: unpack bs)).length = bs.length + 1 ∧ (∃ x, (pack (o :: unpack bs))[0]? = some x ∧ x < 256 ∧ x / 128 = o.toNat) ∧
    ∀ (i : Nat) (h : i < bs.length), ∃ x y, (pack (o :: unpack bs))[i]? = some x ∧ (pack (o :: unpack bs))[i + 1]? = some y ∧ x < 256 ∧ y < 256 ∧ x * 2 % 256 + y / 128 = bs[i] := by
  have hl : (o :: unpack bs).length = 8 * bs.length + 1 := by simp [unpack_len]
  have q : ∀ i, i ≤ bs.length → ∃ d, (pack (o :: unpack bs))[i]? = some (val (pad8 (d :: unpack (bs.drop i)))) ∧ (i = 0 → d = o) ∧ (∀ (j : Nat) (hj : j < bs.length), i = j + 1 → d = bs[j].testBit 0) := by
    intro i hi
    obtain ⟨d, h1, h2, h3⟩ := rest_of o bs i hi
    refine ⟨d, ?_, h2, h3⟩
    rw [pack_get _ _ (by rw [hl]; omega), h1]
  have t7 : ∀ l : List Bool, (l.take 7 ++ List.replicate (7 - l.length) false).length = 7 := by intro l; simp; omega
  refine ⟨by rw [pack_len, hl]; omega, ?_, fun i hi => ?_⟩
  · obtain ⟨d, h1, h2, _⟩ := q 0 (by omega)
    refine ⟨_, h1, val8_lt _, ?_⟩
    obtain rfl := h2 rfl
    rw [val_pad]
    have := val7_lt _ (t7 (unpack (bs.drop 0)))
    omega
  · obtain ⟨d, h1, _, _⟩ := q i (by omega)
    obtain ⟨d2, h4, _, h5⟩ := q (i + 1) (by omega)
    refine ⟨_, _, h1, h4, val8_lt _, val8_lt _, ?_⟩
    have e2 := h5 i hi rfl
    have hc := hb _ (List.getElem_mem hi)
    rw [List.drop_eq_getElem_cons hi, unpack_cons, val_pad, val_pad]
    have a1 := val7_lt _ (t7 (nbits bs[i] 8 ++ unpack (bs.drop (i + 1))))
    have a2 := val7_lt _ (t7 (unpack (bs.drop (i + 1))))
    have a3 : (nbits bs[i] 8 ++ unpack (bs.drop (i + 1))).take 7 ++ List.replicate (7 - (nbits bs[i] 8 ++ unpack (bs.drop (i + 1))).length) false = nbits (bs[i] / 2) 7 := by
      rw [show 7 - (nbits bs[i] 8 ++ unpack (bs.drop (i + 1))).length = 0 by rw [List.length_append, nbits_len]; omega, List.replicate_zero, List.append_nil, List.take_append_of_le_length (by rw [nbits_len]; omega)]
      simp only [nbits, List.take_succ_cons, List.take_zero, Nat.testBit_div_two]
    have a4 : val (nbits (bs[i] / 2) 7) = bs[i] / 2 := val_nbits_lt _ _ (by omega)
    rw [a3, a4]
    rw [a3, a4] at a1
    have a5 : d2.toNat = bs[i] % 2 := by
      rw [e2, testBit_div]
      by_cases h : bs[i] / 2 ^ 0 % 2 = 1
      · simp at h ⊢
        simp [h]
      · simp at h ⊢
        simp [h]
    rw [a5]
    have : d.toNat ≤ 1 := by cases d <;> simp
    omega
theorem whole_of (x y c : Nat) (hy : y < 256) (h : x * 2 % 256 + y / 128 = c) : bits .or .u8 ((x : Int) * 2 % 256) ((y : Int) / 128) = (c : Int) := by
  have e1 : (x : Int) * 2 % 256 = ((x * 2 % 256 : Nat) : Int) := by omega
  have e2 : (y : Int) / 128 = ((y / 128 : Nat) : Int) := by omega
  rw [e1, e2, u8_or_nat _ _ (by omega) (by omega), nat_join 1 _ _ (by omega) (by omega), h]

set_option maxRecDepth 20000 in
set_option maxHeartbeats 4000000 in
theorem walk_BitsWhole (v0 v1 : Value) (W : World) (A0 : Arg Try.prog 23 W v0) (A1 : Arg Try.prog 4 W v1) :
    Calls Try.prog 6 #[v0, v1] W fun e w' => e = .returned (.bool true) ∧ Below W.heap.size W w' := by
  obtain ⟨bs, hR, hb, hl⟩ := A0.u8s
  obtain ⟨o, rfl⟩ := A1.bool Try.underlying4
  obtain ⟨a, c, rfl, hc, hcm⟩ := hR.len
  rw [by8_len] at *
  clear A0 A1
  by_cases hbig : 3000 < bs.length
  · go_enter Try.func6, Try.ntmps6
    go_wp2_with fail
    refine (alive2_any _).mono ?_
    rintro e w1 ⟨rfl, b1⟩
    go_wp2_with fail
    refine (alive2_any _).mono ?_
    rintro e w2 ⟨rfl, b2⟩
    go_wp2_with fail
    go_ret
    exact ⟨rfl, bnext b1 b2⟩
  obtain ⟨m0, ⟨x0, mx0, mx1, mx2⟩, m2⟩ := moved o bs hb
  have M0 := Lib.hid m0
  have MX := Lib.hid mx0
  have M2 := Lib.hid m2
  have HB := Lib.hid hb
  obtain ⟨O, hO⟩ : ∃ O, o = O := ⟨o, rfl⟩
  have hx0 : ∀ b : Bool, b = O → (x0 : Int) / 128 = if b then 1 else 0 := by
    rintro b rfl
    rw [hO] at mx2
    cases b <;> simp at mx2 ⊢ <;> omega
  rw [hO] at M0 MX M2
  have HX0 := Lib.hid hx0
  have H := Lib.hid hO
  clear m0 mx0 m2 hb hx0 hO mx2
  cases o
  all_goals
    go_enter Try.func6, Try.ntmps6
    go_wp2_with fail
    refine (alive2_any _).mono ?_
    rintro e w1 ⟨rfl, b1⟩
    go_wp2_with fail
    refine (new_mine W _ b1).mono ?_
    rintro e w2 ⟨pw, rfl, k2, _⟩
    clear b1
    go_wp2_with fail
    refine (new_two W pw [] _ k2).mono ?_
    rintro e w3 ⟨qw, rfl, k3⟩
    clear k2
    go_wp2_with fail
    refine (put_two W qw pw [] [] _ 1 _ k3.symm (by decide) (by decide) (by decide)).mono ?_
    rw [show nbits _ 1 = [O] from by rw [← H.out]; rfl]
    rintro e w4 ⟨rfl, k4⟩
    replace k4 := k4.symm
    clear k3
    go_wp2_with fail
    go_loopw [8] (fun i wr => ∃ k : Nat, k ≤ bs.length ∧ i = .int .i64 k ∧ Two W pw (unpack (bs.take k)) qw (O :: unpack (bs.take k)) wr) (fun i _ => bs.length - (intOf i).toNat)
    case atStart => exact ⟨0, by omega, rfl, k4⟩
    case round =>
      obtain ⟨i, hi, rfl, k5⟩ := hrel
      by_cases hlt : i < bs.length
      · have hg := by8_get bs i hlt
        obtain ⟨b, o', rfl, q0⟩ := (hR.below k5.bel).at i _ hg
        have hs := Lib.hid (unpack_snoc bs i hlt)
        have hc8 := Lib.hid (HB.out _ (List.getElem_mem hlt))
        have hL : (unpack (bs.take i)).length ≤ 24000 := by rw [unpack_len]; simp; omega
        have HG := Lib.hid hg
        clear hg
        generalize bs[i] = n at *
        have hc9 : n < 256 := hc8.out
        go_wp2_with fail
        refine (put_two W pw qw _ _ n 8 _ k5 hc8.out (by decide) (by omega)).mono ?_
        rintro e w6 ⟨rfl, k6⟩
        obtain ⟨b', o'', e6, q1⟩ := (hR.below k6.bel).at i _ HG.out
        cases e6
        clear k5 q0
        go_wp2_with fail
        refine (put_two W qw pw _ _ n 8 _ k6.symm hc8.out (by decide) (by simp; omega)).mono ?_
        rintro e w7 ⟨rfl, k7⟩
        clear k6
        go_wp2_with fail
        go_roundw
        case rel => exact ⟨i + 1, by omega, by go_num, by rw [hs.out]; exact k7.symm⟩
        case measure => simp [intOf]; omega
      · obtain rfl : i = bs.length := by omega
        rw [List.take_length] at k5
        go_wp2_with fail
        refine (bytes_two W qw pw _ _ _ k5.symm).mono ?_
        rintro e w6 ⟨v6, rfl, r6, b6⟩
        have k6 := k5.below b6
        obtain ⟨a6, c6, rfl, hc6, hcm6⟩ := r6.len
        have hr0 := r6.at 0 (.int .u8 (x0 : Nat)) (by simp [by8, MX.out])
        rw [by8_len, M0.out] at *
        obtain ⟨b6', o6, rfl, q6⟩ := hr0
        have hx1 := HX0.out _ H.out
        simp only [Bool.false_eq_true, if_true, if_false] at hx1
        rw [Nat.add_zero] at q6
        clear k5 b6
        go_wp2_with fail
        clear q6 hx1
        go_loopw [10] (fun i wr => ∃ k d : Nat, k ≤ bs.length ∧ i = .int .i64 k ∧ wr = w6.drewN d) (fun i _ => bs.length - (intOf i).toNat)
        case atStart => exact ⟨0, 0, by omega, rfl, rfl⟩
        case round =>
          obtain ⟨i, d, hi, rfl, rfl⟩ := hrel
          by_cases hlt : i < bs.length
          · obtain ⟨x, y, g1, g2, g3, g4, g5⟩ := M2.out i hlt
            have hw := whole_of x y bs[i] g4 g5
            obtain ⟨b, o', rfl, q0⟩ := (hR.below k6.bel).at i _ (by8_get bs i hlt)
            obtain ⟨_, _, e1, q1⟩ := r6.at i (.int .u8 (x : Nat)) (by simp [by8, g1])
            cases e1
            obtain ⟨_, _, e1, q2⟩ := r6.at (i + 1) (.int .u8 (y : Nat)) (by simp [by8, g2])
            cases e1
            clear g1 g2 g5
            generalize bs[i] = n at *
            go_wp2_with fail
            go_quiet (fail)
            go_wp2_with fail
            go_roundw
            case rel => exact ⟨i + 1, _, by omega, by go_num, rfl⟩
            case measure => simp [intOf]; omega
          · obtain rfl : i = bs.length := by omega
            have k7 := k6.below (bdraw (Below.refl _ _) d)
            go_wp2_with fail
            refine (bytes_two W pw qw _ _ _ k7).mono ?_
            rintro e w8 ⟨v8, rfl, r8, b8⟩
            rw [pack_unpack _ HB.out] at r8
            have k8 := k7.below b8
            go_wp2_with fail
            have C := same_any v8 _ _ _ _ r8 (hR.below k8.bel)
            rw [decide_eq_true rfl] at C
            refine C.mono ?_
            clear C
            rintro e w9 ⟨rfl, b9⟩
            go_wp2_with fail
            go_ret
            exact ⟨rfl, bnext k8.bel b9⟩
end Go.Proofs.Ytdgcnghjjbpekaa
