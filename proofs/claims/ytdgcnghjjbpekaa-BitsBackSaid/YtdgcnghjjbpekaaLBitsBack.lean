/-
  The walk of BitsBack: what is put is got.
-/
import Derived.Test.YtdgcnghjjbpekaaBitsAlive
import Derived.Test.YtdgcnghjjbpekaaBitsFacts
import Derived.Test.YtdgcnghjjbpekaaOpenB
namespace Go.Proofs.Ytdgcnghjjbpekaa
open Go.RowKit
open Go

theorem Arg.u64s {W : World} {v : Value} (A : Arg Try.prog 22 W v) : ∃ ls : List Nat, Rd W v ((iN ls).map (Value.int .u64)) ∧ ∀ n ∈ ls, n < 2 ^ 64 := by
  obtain ⟨zs, hR, hwf, _⟩ := A.nums Try.underlying22 Try.underlying29 (by kernel_rfl)
  obtain ⟨ls, rfl⟩ := iN_of zs fun z hz => (bounds_u64 (hwf z hz)).1
  refine ⟨ls, hR, fun n hn => ?_⟩
  have := (bounds_u64 (hwf n (List.mem_map.2 ⟨n, hn, rfl⟩))).2
  omega
theorem Arg.u8s {W : World} {v : Value} (A : Arg Try.prog 23 W v) : ∃ ls : List Nat, Rd W v (by8 (iN ls)) ∧ (∀ n ∈ ls, n < 256) ∧ ls.length ≤ 140737488351232 := by
  obtain ⟨cs, hR, hB, hl⟩ := A.bytes
  obtain ⟨ls, rfl⟩ := iN_of cs fun z hz => (hB z hz).1
  refine ⟨ls, hR, fun n hn => ?_, by simpa using hl⟩
  have := (hB n (List.mem_map.2 ⟨n, hn, rfl⟩)).2
  omega
theorem Rd.at {w : World} {a : Option Addr} {n c : Nat} {xs : List Value} (h : Rd w (.slice a n c) xs) (k : Nat) (x : Value) (hx : xs[k]? = some x) : ∃ b o, a = some ⟨b, o, none⟩ ∧ w.cell? ⟨b, o + k, none⟩ = some x := by
  obtain ⟨a', c', e, _, _, _, h⟩ := h
  cases e
  exact h k x hx
theorem Rd.len {w : World} {v : Value} {xs : List Value} (h : Rd w v xs) : ∃ a c, v = .slice a xs.length c ∧ xs.length ≤ c ∧ c ≤ 9223372036854775807 := by
  obtain ⟨a, c, e, h1, h2, _⟩ := h
  exact ⟨a, c, e, h1, h2⟩

set_option maxRecDepth 20000 in
set_option maxHeartbeats 2000000 in
theorem walk_BitsBack (v0 v1 : Value) (W : World) (A0 : Arg Try.prog 22 W v0) (A1 : Arg Try.prog 23 W v1) :
    Calls Try.prog 3 #[v0, v1] W fun e w' => e = .returned (.bool true) ∧ Below W.heap.size W w' := by
  obtain ⟨ls, hR, hn⟩ := A0.u64s
  obtain ⟨ms, hS, hm, _⟩ := A1.u8s
  obtain ⟨a, c, rfl, hc, hcm⟩ := hR.len
  obtain ⟨a2, c2, rfl, hc2, hcm2⟩ := hS.len
  simp only [List.length_map] at *
  clear A0 A1
  have key : 200 < ls.length ∨ (¬ 200 < ls.length ∧ ((ms.length : Int) != ls.length) = true) ∨ (¬ 200 < ls.length ∧ ((ms.length : Int) != ls.length) = false) := by
    cases ((ms.length : Int) != ls.length) <;> by_cases h : 200 < ls.length <;> simp [h]
  rcases key with h1 | ⟨h1, h2⟩ | ⟨h1, h2⟩
  iterate 2
    · go_enter Try.func3, Try.ntmps3
      go_wp2_with fail
      refine (alive2_any _).mono ?_
      rintro e w1 ⟨rfl, b1⟩
      go_wp2_with fail
      refine (alive2_any _).mono ?_
      rintro e w2 ⟨rfl, b2⟩
      go_wp2_with fail
      go_ret
      exact ⟨rfl, bnext b1 b2⟩
  · have hml : ms.length = ls.length := by have := bne_eq_false_iff_eq.1 h2; omega
    have HML := Lib.hid hml
    clear hml
    let p : List (Nat × Nat) := List.zipWith (fun n m => (n, m % 65)) ls ms
    have hpl : p.length = ls.length := by simp [p, HML.out]
    have hp : ∀ (i : Nat) (h1 : i < ls.length) (h2 : i < ms.length) (h3 : i < p.length), p[i] = (ls[i], ms[i] % 65) := by
      intro i h1 h2 h3
      simp [p]
    have hp64 : ∀ x ∈ p, x.2 ≤ 64 := by
      intro x hx
      obtain ⟨i, hi, rfl⟩ := List.getElem_of_mem hx
      have h2 : i < ms.length := by have := HML.out; omega
      rw [hp i (by omega) h2 hi]
      show ms[i] % 65 ≤ 64
      omega
    have HP := Lib.hid hp
    have HPL := Lib.hid hpl
    have H64 := Lib.hid hp64
    have HN := Lib.hid hn
    clear hp hpl hp64 hn hm
    generalize p = p at *
    go_enter Try.func3, Try.ntmps3
    go_wp2_with fail
    refine (alive2_any _).mono ?_
    rintro e w1 ⟨rfl, b1⟩
    go_wp2_with fail
    refine (new_mine W _ b1).mono ?_
    rintro e w2 ⟨pw, rfl, m2, _⟩
    clear b1 h2
    go_wp2_with fail
    go_loopw [6] (fun i wr => ∃ k : Nat, k ≤ ls.length ∧ i = .int .i64 k ∧ Mine W pw (putsL (p.take k)) wr) (fun i _ => ls.length - (intOf i).toNat)
    case atStart => exact ⟨0, by omega, rfl, m2⟩
    case round =>
      obtain ⟨i, hi, rfl, m3⟩ := hrel
      by_cases hlt : i < ls.length
      · have hlm : i < ms.length := by have := HML.out; omega
        have hlp : i < p.length := by have := HPL.out; omega
        obtain ⟨b, o, rfl, x0⟩ := (hR.below m3.bel).at i (.int .u64 ls[i]) (by simp [hlt])
        obtain ⟨b2, o2, rfl, x1⟩ := (hS.below m3.bel).at i (.int .u8 ms[i]) (by simp [by8, hlm])
        have hs := putsL_snoc p i hlp
        rw [HP.out i hlt hlm hlp] at hs
        have hL := putsL_take_len p i H64.out
        rw [HPL.out] at hL
        have hn64 := HN.out _ (List.getElem_mem hlt)
        have HS := Lib.hid hs
        have HL := Lib.hid hL
        have H64 := Lib.hid hn64
        have ek : ((ms[i] : Int) % 65) = ((ms[i] % 65 : Nat) : Int) := by omega
        have hk : ms[i] % 65 ≤ 64 := by omega
        generalize ls[i] = n at *
        generalize hkk : ms[i] % 65 = k at *
        generalize ms[i] = m at *
        clear hs hL hn64 hkk
        go_wp2_with fail
        have C := low_any n k wr H64.out hk
        refine C.mono ?_
        clear C
        rintro e w4 ⟨rfl, rfl⟩
        go_wp2_with fail
        refine (put_mine W pw _ (n % 2 ^ k) k _ m3 (Nat.mod_lt _ (Nat.two_pow_pos k)) hk (by have := HL.out; omega)).mono ?_
        rintro e w5 ⟨rfl, m5⟩
        clear m3
        go_wp2_with fail
        go_roundw
        case rel => exact ⟨i + 1, by omega, by go_num, by rw [HS.out]; exact m5⟩
        case measure => simp [intOf]; omega
      · obtain rfl : i = ls.length := by omega
        rw [List.take_of_length_le (by have := HPL.out; omega)] at m3
        have hL := putsL_len p H64.out
        rw [HPL.out] at hL
        go_wp2_with fail
        refine (bytes_mine W pw _ _ m3).mono ?_
        rintro e w4 ⟨v4, rfl, o4, r4, b4⟩
        have m4 := m3.below b4
        have hpk := pack_len (putsL p)
        obtain ⟨a4, c4, rfl, hc4, hcm4⟩ := r4.len
        simp only [List.length_map, hpk] at *
        go_wp2_with fail
        have GOT : Hid (∀ (i : Nat) (h1 : i < ls.length) (h2 : i < ms.length), getN (pack (putsL p)) (putsL (p.take i)).length (ms[i] % 65) = ls[i] % 2 ^ (ms[i] % 65) ∧ (putsL (p.take i)).length + ms[i] % 65 ≤ (putsL p).length ∧ (putsL (p.take (i + 1))).length = (putsL (p.take i)).length + ms[i] % 65) := by
          intro i h1 h2
          have hlp : i < p.length := by have := HPL.out; omega
          have e1 := putsL_split p i hlp
          have e2 := putsL_snoc p i hlp
          have e3 := congrArg List.length e1
          have e4 := congrArg List.length e2
          rw [HP.out i h1 h2 hlp] at e1 e2 e3 e4
          simp only [List.length_append, nbits_len] at e3 e4
          refine ⟨?_, by omega, e4⟩
          conv => lhs; rw [e1]
          exact got _ _ _ _ (Nat.mod_lt _ (Nat.two_pow_pos _))
        have REST := Lib.hid (got_rest (putsL p))
        have R4 := Lib.hid r4
        have PLT := Lib.hid (pack_lt (putsL p))
        clear hpk r4 o4 b4 m3
        go_loop [9, 10] (fun x i => ∃ k : Nat, k ≤ ls.length ∧ i = .int .i64 k ∧ x = .int .i64 ((putsL (p.take k)).length : Int)) (fun _ i => ls.length - (intOf i).toNat)
        case atStart => exact ⟨0, by omega, rfl, rfl⟩
        case round =>
          obtain ⟨i, hi, rfl, rfl⟩ := hrel
          by_cases hlt : i < ls.length
          · have hlm : i < ms.length := by have := HML.out; omega
            obtain ⟨b, o, rfl, x0⟩ := (hR.below m4.bel).at i (.int .u64 ls[i]) (by simp [hlt])
            obtain ⟨b2, o2, rfl, x1⟩ := (hS.below m4.bel).at i (.int .u8 ms[i]) (by simp [by8, hlm])
            obtain ⟨g1, g2, g3⟩ := GOT.out i hlt hlm
            have hn64 := HN.out _ (List.getElem_mem hlt)
            have hk : ms[i] % 65 ≤ 64 := by omega
            have ek : ((ms[i] : Int) % 65) = ((ms[i] % 65 : Nat) : Int) := by omega
            have CG := get_ok _ (pack (putsL p)) (putsL (p.take i)).length (ms[i] % 65) w4 R4.out PLT.out hk (by have := pack_len (putsL p); omega) (by have := pack_len (putsL p); omega)
            rw [g1] at CG
            have HC := Lib.hid CG
            have HL := Lib.hid (low_any ls[i] (ms[i] % 65) w4 hn64 hk)
            have HG3 := Lib.hid g3
            clear CG g1 g3 hn64
            generalize ls[i] = n at *
            generalize hkk : ms[i] % 65 = k at *
            generalize ms[i] = m at *
            clear hkk
            generalize (putsL (p.take i)).length = t at *
            generalize ((n % 2 ^ k : Nat) : Int) = y at *
            go_wp2_with fail
            refine Calls.mono HC.out ?_
            rintro e w5 ⟨rfl, rfl⟩
            go_wp2_with fail
            refine Calls.mono HL.out ?_
            rintro e w5 ⟨rfl, rfl⟩
            go_wp2_with fail
            refine ⟨⟨i + 1, by omega, by go_num, by rw [HG3.out]; go_num⟩, by simp [intOf]; omega⟩
          · obtain rfl : i = ls.length := by omega
            rw [List.take_of_length_le (by have := HPL.out; omega)]
            have CR := get_ok _ (pack (putsL p)) (putsL p).length (8 * (pack (putsL p)).length - (putsL p).length) w4 R4.out PLT.out (by have := pack_len (putsL p); omega) (by have := pack_len (putsL p); omega) (by have := pack_len (putsL p); omega)
            rw [REST.out, pack_len] at CR
            have HC := Lib.hid CR
            have CL := Lib.hid (len_mine W pw _ _ m4)
            clear CR
            generalize (putsL p).length = t at *
            obtain ⟨r, hr⟩ : ∃ r : Nat, 8 * ((t + 7) / 8) - t = r := ⟨_, rfl⟩
            rw [hr] at HC
            have er : 8 * (((t : Int) + 7) / 8) - t = (r : Int) := by omega
            clear hr
            go_wp2_with fail
            refine Calls.mono HC.out ?_
            rintro e w5 ⟨rfl, rfl⟩
            go_wp2_with fail
            refine Calls.mono CL.out ?_
            rintro e w5 ⟨rfl, rfl⟩
            go_wp2_with fail
            go_ret
            exact ⟨rfl, m4.bel⟩
end Go.Proofs.Ytdgcnghjjbpekaa
