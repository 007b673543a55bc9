/-
  The walk of BitsKept: bytes that were answered stay as they were, whatever is put then.
-/
import Derived.Test.YtdgcnghjjbpekaaHeldB
import Derived.Test.YtdgcnghjjbpekaaKit3
namespace Go.Proofs.Ytdgcnghjjbpekaa
open Go.RowKit
open Go

/-- What was answered so far. -/
def dsK (p : List (Nat × Nat)) (i : Nat) : List (List Nat) := (List.range i).map fun j => pack (putsL (p.take (j + 1)))
theorem dsK_succ (p : List (Nat × Nat)) (i : Nat) : dsK p (i + 1) = dsK p i ++ [pack (putsL (p.take (i + 1)))] := by simp [dsK, List.range_succ]
theorem dsK_len (p : List (Nat × Nat)) (i : Nat) : (dsK p i).length = i := by simp [dsK]
theorem dsK_get (p : List (Nat × Nat)) (i j : Nat) (h : j < i) : (dsK p i)[j]? = some (pack (putsL (p.take (j + 1)))) := by simp [dsK, h]

set_option maxRecDepth 20000 in
set_option maxHeartbeats 4000000 in
theorem walk_BitsKept (v0 : Value) (W : World) (A0 : Arg Try.prog 23 W v0) :
    Calls Try.prog 8 #[v0] W fun e w' => e = .returned (.bool true) ∧ Below W.heap.size W w' := by
  obtain ⟨bs, hR, hb, hl⟩ := A0.u8s
  obtain ⟨a, c, rfl, hc, hcm⟩ := hR.len
  rw [by8_len] at *
  clear A0
  by_cases hbig : 100 < bs.length
  · go_enter Try.func8, Try.ntmps8
    go_wp2_with fail
    refine (alive2_any _).mono ?_
    rintro e w1 ⟨rfl, b1⟩
    go_wp2_with fail
    refine (alive2_any _).mono ?_
    rintro e w2 ⟨rfl, b2⟩
    go_wp2_with fail
    go_ret
    exact ⟨rfl, bnext b1 b2⟩
  let p : List (Nat × Nat) := bs.map fun x => (x / 2, 1 + x % 8)
  have hpl : p.length = bs.length := by simp [p]
  have hp : ∀ (i : Nat) (h1 : i < bs.length) (h2 : i < p.length), p[i] = (bs[i] / 2, 1 + bs[i] % 8) := by
    intro i h1 h2
    simp [p]
  have hp64 : ∀ x ∈ p, x.2 ≤ 64 := by
    intro x hx
    obtain ⟨i, hi, rfl⟩ := List.getElem_of_mem hx
    rw [hp i (by omega) hi]
    show 1 + bs[i] % 8 ≤ 64
    omega
  have HP := Lib.hid hp
  have HPL := Lib.hid hpl
  have H64 := Lib.hid hp64
  have HB := Lib.hid hb
  clear hp hpl hp64 hb
  generalize p = p at *
  obtain ⟨i0, hi, hz0, hz1, hz2⟩ := info_parts infoSB
  have HI := Lib.hid hi
  have HZ := Lib.hid hz0
  have HZ1 := Lib.hid hz1
  have HZ2 := Lib.hid hz2
  clear hi hz0 hz1 hz2
  go_enter Try.func8, Try.ntmps8
  go_wp2_with fail
  refine (alive2_any _).mono ?_
  rintro e w1 ⟨rfl, b1⟩
  go_wp2_with fail
  refine (new_mine W _ b1).mono ?_
  rintro e w2 ⟨pw, rfl, m2, _⟩
  clear b1
  have K0 : KI W pw [] [] [] (.slice none 0 0) (.slice none 0 0) [] w2 := by
    obtain ⟨pr, v, h1, h2, h3⟩ := m2
    exact ⟨pr, v, [], [], h1, h2, h3, ⟨rfl, .inl ⟨rfl, rfl⟩⟩, ⟨rfl, .inl ⟨rfl, rfl⟩⟩, ⟨rfl, by simp⟩, ⟨rfl, by simp⟩, (fun g e => by cases e), by simp⟩
  clear m2
  go_wp2_with fail
  go_loopw [4, 5, 6] (fun va vt i wr => ∃ k : Nat, k ≤ bs.length ∧ i = .int .i64 k ∧ KI W pw (putsL (p.take k)) (dsK p k) (dsK p k) va vt [] wr) (fun _ _ i _ => bs.length - (intOf i).toNat)
  case atStart => exact ⟨0, by omega, rfl, K0⟩
  case round =>
    obtain ⟨i, hi, rfl, K1⟩ := hrel
    by_cases hlt : i < bs.length
    · have hlp : i < p.length := by have := HPL.out; omega
      obtain ⟨b, o, rfl, x0⟩ := (hR.below K1.bl).at i _ (by8_get bs i hlt)
      have hs := putsL_snoc p i hlp
      rw [HP.out i hlt hlp] at hs
      have hL := putsL_take_len p i H64.out
      have hL2 := putsL_take_len p (i + 1) H64.out
      rw [HPL.out] at hL hL2
      have hn := HB.out _ (List.getElem_mem hlt)
      have HS := Lib.hid hs
      have HL := Lib.hid hL
      have HL2 := Lib.hid hL2
      have HDL := Lib.hid (dsK_len p i)
      have HDS := Lib.hid (dsK_succ p i)
      generalize bs[i] = n at *
      have C := fun w => low_any (n / 2) (1 + n % 8) w (by omega) (by omega)
      have HC : Hid (∀ w, Calls Try.prog 12 #[.int .u64 ((n : Int) / 2), .int .i64 (1 + (n : Int) % 8)] w fun e w' => e = .returned (.int .u64 ((n / 2 % 2 ^ (1 + n % 8) : Nat) : Int)) ∧ w = w') := by
        intro w
        have := C w
        rwa [show (((n / 2 : Nat)) : Int) = (n : Int) / 2 by omega, show (((1 + n % 8 : Nat)) : Int) = 1 + (n : Int) % 8 by omega] at this
      have hy : n / 2 % 2 ^ (1 + n % 8) < 2 ^ (1 + n % 8) := Nat.mod_lt _ (Nat.two_pow_pos _)
      generalize n / 2 % 2 ^ (1 + n % 8) = y at *
      have HY := Lib.hid hy
      clear hs hL hL2 C hy
      go_wp2_with fail
      refine Calls.mono (HC.out _) ?_
      rintro e w4 ⟨rfl, rfl⟩
      go_wp2_with fail
      have P := put_KI y (1 + n % 8) K1 HY.out (by omega) (by have := HL.out; omega)
      rw [show (((1 + n % 8 : Nat)) : Int) = 1 + (n : Int) % 8 by omega, ← HS.out] at P
      refine P.mono ?_
      clear P K1
      rintro e w5 ⟨rfl, K2⟩
      go_wp2_with fail
      refine (bytes_KI K2).mono ?_
      clear K2
      rintro e w6 ⟨u, rfl, K3⟩
      obtain ⟨pr, v, vs, ts, Kp⟩ := K3
      obtain ⟨au, nu, cu, rfl⟩ := (Kp.more _ (List.mem_cons_self)).rd.form
      have hlen1 : (dsK p i).length ≤ 100 := by rw [dsK_len]; omega
      go_wp2_with (at_builtin; refine wpList_append_own_at _ rfl _ _ 45 rfl W.heap.size 23 i0 (.slice none 0 0) 1 24 Try.underlying45 HI.out HZ.out HZ1.out HZ2.out rfl (by decide) _ _ _ rfl (Kp.o1.alloc _) ⟨w6.heap.size, 0, none⟩ 1 1 [.slice au nu cu] rfl rfl (cell_one_new _ _ _) (by simp [Value.oneCell']) (by unfold maxLen; omega) (by omega) (by have := Kp.bel.size; simp; omega) ?_; intro va' w7 hown7 hgrow7 hnil7 hv7; clear hnil7)
      have K4 := Kp.app (List.mem_cons_self) _ hown7 hgrow7 hv7
      rw [← HDS.out] at K4
      have hpk := pack_len (putsL (p.take (i + 1)))
      clear Kp hown7 hgrow7 hv7
      refine (twin_KI _ _ K4 (by rw [hpk]; have := HL2.out; omega)).mono ?_
      clear K4 hpk
      rintro e w8 ⟨t, rfl, K5⟩
      obtain ⟨pr, v, vs, ts, Kp⟩ := K5.swap
      obtain ⟨a_t, nt, ct, rfl⟩ := (Kp.more _ (List.mem_cons_self)).rd.form
      clear K5
      go_wp2_with (at_builtin; refine wpList_append_own_at _ rfl _ _ 45 rfl W.heap.size 23 i0 (.slice none 0 0) 1 24 Try.underlying45 HI.out HZ.out HZ1.out HZ2.out rfl (by decide) _ _ _ rfl (Kp.o1.alloc _) ⟨w8.heap.size, 0, none⟩ 1 1 [.slice a_t nt ct] rfl rfl (cell_one_new _ _ _) (by simp [Value.oneCell']) (by unfold maxLen; omega) (by omega) (by have := Kp.bel.size; simp; omega) ?_; intro vt' w9 hown9 hgrow9 hnil9 hv9; clear hnil9)
      have K6 := (Kp.app (List.mem_cons_self) _ hown9 hgrow9 hv9).swap.drop
      rw [← HDS.out] at K6
      clear Kp hown9 hgrow9 hv9
      go_roundw
      case rel => exact ⟨i + 1, by omega, by go_num, K6⟩
      case measure => simp [intOf]; omega
    · obtain rfl : i = bs.length := by omega
      rw [List.take_of_length_le (by have := HPL.out; omega)] at K1
      have hL := putsL_len p H64.out
      rw [HPL.out] at hL
      obtain ⟨a2, c2, e2⟩ : ∃ a c, u5 = .slice a bs.length c := by
        obtain ⟨pr, v, vs, ts, Kp⟩ := K1
        have := owns_shape Kp.o2
        rwa [dsK_len] at this
      subst e2
      obtain ⟨a1, c1, e1⟩ : ∃ a c, u4 = .slice a bs.length c := by
        obtain ⟨pr, v, vs, ts, Kp⟩ := K1
        have := owns_shape Kp.o1
        rwa [dsK_len] at this
      subst e1
      go_wp2_with fail
      refine (bytes_KI K1).mono ?_
      clear K1
      rintro e w4 ⟨u, rfl, K2⟩
      obtain ⟨pr, v, vs, ts, Kp⟩ := K2
      have r4 : Rd w4 u (by8 (iN (pack (putsL p)))) := (Kp.more _ (List.mem_cons_self)).rd
      obtain ⟨a4, c4, rfl, hc4, hcm4⟩ := r4.len
      rw [by8_len] at *
      have hl1 := own_rd Kp.o1
      have hl2 := own_rd Kp.o2
      have hk1 := Kp.k1
      have hk2 := Kp.k2
      have hbl := Kp.bel
      have hl1' : vs.length = bs.length := by rw [hk1.1, dsK_len]
      have hl2' : ts.length = bs.length := by rw [hk2.1, dsK_len]
      have ALL : Hid (∀ (i : Nat) (hi : i < bs.length), ∃ (q : Nat) (x y : Option Addr) (cx cy : Nat), (pack (putsL (p.take (i + 1)))).length = q + 1 ∧ q + 1 ≤ (pack (putsL p)).length ∧ q + 1 ≤ cx ∧ q + 1 ≤ cy ∧ cx ≤ 9223372036854775807 ∧ cy ≤ 9223372036854775807 ∧
          vs[i]? = some (.slice x (q + 1) cx) ∧ ts[i]? = some (.slice y (q + 1) cy) ∧ Rd w4 (.slice x (q + 1) cx) (by8 (iN (pack (putsL (p.take (i + 1)))))) ∧ Rd w4 (.slice y (q + 1) cy) (by8 (iN (pack (putsL (p.take (i + 1)))))) ∧
          Rd w4 (.slice x q cx) (by8 (iN ((pack (putsL p)).take q))) ∧ Rd w4 (.slice a4 q c4) (by8 (iN ((pack (putsL p)).take q)))) := by
        intro i hi
        have hlp : i < p.length := by have := HPL.out; omega
        have e1 := putsL_snoc p i hlp
        have e3 := congrArg List.length e1
        rw [HP.out i hi hlp] at e3
        simp only [List.length_append, nbits_len] at e3
        have e4 : putsL p = putsL (p.take (i + 1)) ++ putsL (p.drop (i + 1)) := by rw [← putsL_append, List.take_append_drop]
        have e5 := congrArg List.length e4
        rw [List.length_append] at e5
        have l1 := pack_len (putsL (p.take (i + 1)))
        have l2 := pack_len (putsL p)
        obtain ⟨q, hq⟩ : ∃ q, (pack (putsL (p.take (i + 1)))).length = q + 1 := ⟨(pack (putsL (p.take (i + 1)))).length - 1, by omega⟩
        have r1 := (hk1.2 i _ _ (List.getElem?_eq_getElem (by omega)) (dsK_get p _ i hi)).rd
        have r2 := (hk2.2 i _ _ (List.getElem?_eq_getElem (by omega)) (dsK_get p _ i hi)).rd
        obtain ⟨x, cx, ex, hx1, hx2⟩ := r1.len
        obtain ⟨y, cy, ey, hy1, hy2⟩ := r2.len
        rw [by8_len, hq] at ex ey hx1 hy1
        have cut : ∀ {z : Option Addr} {n c : Nat} {d : List Nat}, Rd w4 (.slice z n c) (by8 (iN d)) → d.length = n → q ≤ n → Rd w4 (.slice z q c) (by8 (iN (d.take q))) := by
          intro z n c d h hd hq
          subst hd
          have := Rd.cut (cs := iN d) (f := Value.int .u8) (by simpa using h) q (by simpa using hq)
          simpa [List.map_take] using this
        refine ⟨q, x, y, cx, cy, hq, by omega, hx1, hy1, hx2, hy2, by rw [List.getElem?_eq_getElem (by omega), ex], by rw [List.getElem?_eq_getElem (by omega), ey], ex ▸ r1, ey ▸ r2, ?_, cut r4 rfl (by omega)⟩
        have := cut (ex ▸ r1) hq (by omega)
        rwa [show (pack (putsL (p.take (i + 1)))).take q = (pack (putsL p)).take q by rw [e4, pack_first _ _ _ (by omega)]] at this
      clear Kp hk1 hk2 hbig
      generalize (pack (putsL p)).length = N at *
      go_wp2_with fail
      go_loopw [10] (fun i wr => ∃ k : Nat, k ≤ bs.length ∧ i = .int .i64 k ∧ Below w4.heap.size w4 wr) (fun i _ => bs.length - (intOf i).toNat)
      case atStart => exact ⟨0, by omega, rfl, Below.refl _ _⟩
      case round =>
        obtain ⟨i, hi, rfl, hb⟩ := hrel
        by_cases hlt : i < bs.length
        · obtain ⟨q, x, y, cx, cy, g1, g2, g3, g4, g5, g6, g7, g8, g9, g10, g11, g12⟩ := ALL.out i hlt
          obtain ⟨b1, o1, rfl, z1⟩ := (hl1.below hb).at i _ g7
          obtain ⟨b2, o2, rfl, z2⟩ := (hl2.below hb).at i _ g8
          have S1 : Hid (∀ m, Calls Try.prog 16 #[.slice x (q + 1) cx, .slice y (q + 1) cy] (wr.drewN m) fun e w' => e = .returned (.bool true) ∧ ∃ m', w' = wr.drewN m') := by
            intro m
            have := same_drew _ _ _ _ (wr.drewN m) (g9.below (bdraw hb m)) (g10.below (bdraw hb m))
            rw [decide_eq_true rfl] at this
            exact this.mono fun e w' ⟨he, n, hw⟩ => ⟨he, m + n, by rw [hw, World.drewN_drewN]⟩
          have S2 : Hid (∀ m, Calls Try.prog 16 #[.slice x q cx, .slice a4 q c4] (wr.drewN m) fun e w' => e = .returned (.bool true) ∧ ∃ m', w' = wr.drewN m') := by
            intro m
            have := same_drew _ _ _ _ (wr.drewN m) (g11.below (bdraw hb m)) (g12.below (bdraw hb m))
            rw [decide_eq_true rfl] at this
            exact this.mono fun e w' ⟨he, n, hw⟩ => ⟨he, m + n, by rw [hw, World.drewN_drewN]⟩
          clear g7 g8 g9 g10 g11 g12 g1
          have e1 : ((q : Int) + 1 == 0) = false := by rw [beq_eq_false_iff_ne]; omega
          have e2 : decide ((N : Int) < (q : Int) + 1) = false := by simp; omega
          go_wp2_with fail
          go_quiet (first | with_reducible exact S1.out _ | with_reducible exact S2.out _)
          go_wp2_with fail
          go_roundw
          case rel => exact ⟨i + 1, by omega, by go_num, bdraw hb _⟩
          case measure => simp [intOf]; omega
        · obtain rfl : i = bs.length := by omega
          go_wp2_with fail
          go_ret
          exact ⟨rfl, bnext hbl hb⟩
end Go.Proofs.Ytdgcnghjjbpekaa
