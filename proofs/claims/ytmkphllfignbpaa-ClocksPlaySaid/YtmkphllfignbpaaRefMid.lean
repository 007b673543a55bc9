/-
  The document's middle of readings (belfryref20.Mid).
-/
import Derived.Test.YtmkphllfignbpaaClkMid
import Derived.Test.YtmkphllfignbpaaClkIns
import Derived.Test.YtmkphllfignbpaaKit3
import Derived.Deep.LoopGhost
namespace Go.Proofs.Ytmkphllfignbpaa
open Go.RowKit
open Go

theorem rsmall_any (n : Int) (w : World) : Calls Try.prog 27 #[.int .i64 n] w fun e w' => e = .returned (.bool (smallB n)) ∧ w = w' := by
  by_cases h1 : -1099511627776 ≤ n
  · by_cases h2 : n ≤ 1099511627776
    all_goals
      go_enter Try.func27, Try.ntmps27
      go_wp2
      go_ret
      exact ⟨by simp [smallB, *], rfl⟩
  · go_enter Try.func27, Try.ntmps27
    go_wp2
    go_ret
    exact ⟨by simp [smallB]; omega, rfl⟩
theorem rby_any (a b : Int) (w : World) (h0 : -4611686018427387904 ≤ a) (h1 : a ≤ 4611686018427387904) (hb : 2 ≤ b) (hb2 : b ≤ 1000000) :
    Calls Try.prog 28 #[.int .i64 a, .int .i64 b] w fun e w' => e = .returned (.int .i64 (byI a b)) ∧ w = w' := by
  obtain ⟨t0, t1⟩ := tdiv_in (b := b) h0 h1
  have hbe : (b == 0) = false := beq_eq_false_iff_ne.2 (by omega)
  have hq := byI_eq a b (by omega)
  unfold byI
  by_cases hs : 0 ≤ a
  · have e1 : a.tdiv b = a / b := Int.tdiv_eq_ediv_of_nonneg hs
    have e2 : a.tmod b = a % b := Int.tmod_eq_emod_of_nonneg hs
    have h3 := Int.emod_nonneg a (show b ≠ 0 by omega)
    rw [e1, e2, if_neg (by omega)]
    have h4 : decide (a % b < 0) = false := by simp; omega
    rw [e1] at t0 t1
    clear e1 e2 hq
    go_enter Try.func28, Try.ntmps28
    go_wp2
    go_ret
    exact ⟨rfl, rfl⟩
  · clear hq
    by_cases h : a.tmod b < 0
    · rw [if_pos h]
      go_enter Try.func28, Try.ntmps28
      go_wp2
      go_ret
      exact ⟨rfl, rfl⟩
    · rw [if_neg h]
      go_enter Try.func28, Try.ntmps28
      go_wp2
      go_ret
      exact ⟨rfl, rfl⟩


theorem own_form {w : World} {base : Nat} {e : TypeId} {v : Value} {n : Nat} {xs : List Value} (h : w.ownsRow base e 1 v n xs) (hn : 0 < n) : ∃ g cap, v = .slice (some ⟨g, 0, none⟩) n cap ∧ base ≤ g ∧ g < w.heap.size := by
  rcases h.2 with ⟨rfl, h2⟩ | ⟨g, cap, cur, rfl, hb, hg, _⟩
  · have := h.1
    rw [h2] at this
    simp at this
    omega
  · exact ⟨g, cap, rfl, hb, lt_of_block hg⟩
theorem own_len {w : World} {base : Nat} {e : TypeId} {v : Value} {n : Nat} {xs : List Value} (h : w.ownsRow base e 1 v n xs) : ∃ a c, v = .slice a n c := by
  rcases h.2 with ⟨rfl, h2⟩ | ⟨g, cap, cur, rfl, hb, hg, _⟩
  · have h3 : n = 0 := by
      have h1 := h.1
      rw [h2] at h1
      simp at h1
      omega
    rw [h3]
    exact ⟨none, 0, rfl⟩
  · exact ⟨_, cap, rfl⟩
theorem srt_nil : srt [] = [] := List.eq_nil_of_length_eq_zero (by rw [srt_len]; rfl)
theorem ints_at {xs : List Int} {k : Nat} {x : Int} (h : xs[k]? = some x) : (ints xs)[k]? = some (.int .i64 x) := by simp [ints, h]
theorem ints_set (xs : List Int) (k : Nat) (x : Int) : (ints xs).set k (.int .i64 x) = ints (xs.set k x) := by simp [ints, List.map_set]
theorem rmid_no1 (v : Value) (l : List Int) (bad : Int) (w : World) (h : Rd w v (ints l)) (hl : l.length ≤ 140737488351232) (hno : ¬ (0 ≤ bad ∧ 2 * bad < l.length)) :
    Calls Try.prog 11 #[v, .int .i64 bad] w fun e w' => e = .returned (.tuple #[.int .i64 0, .int .i64 1]) ∧ w = w' := by
  obtain ⟨a, c, rfl, hc, hm⟩ := h.shape
  clear h
  by_cases h1 : bad < 0
  · clear hno
    go_enter Try.func11, Try.ntmps11
    go_wp2_with fail
    go_ret2
    exact ⟨rfl, rfl⟩
  · by_cases h2 : l.length < bad
    · clear hno
      go_enter Try.func11, Try.ntmps11
      go_wp2_with fail
      go_ret2
      exact ⟨rfl, rfl⟩
    · have h3 : l.length ≤ 2 * bad := by omega
      clear hno
      go_enter Try.func11, Try.ntmps11
      go_wp2_with fail
      go_ret2
      exact ⟨rfl, rfl⟩
set_option maxHeartbeats 2000000 in
set_option maxRecDepth 100000 in
theorem rmid_yes (v : Value) (l : List Int) (n : Nat) (w : World) (h : Rd w v (ints l)) (hl : l.length ≤ 1000000) (hyes : 2 * n < l.length) :
    Calls Try.prog 11 #[v, .int .i64 n] w fun e w' => e = .returned (midV l n) ∧ Below w.heap.size w w' := by
  obtain ⟨a, c, rfl, hc, hm⟩ := h.shape
  unfold maxLen at hm
  have HR := Lib.hid h
  clear h
  obtain ⟨i0, hi, hz0, hz1, hz2⟩ := info_parts infoI
  have Hi := Lib.hid hi
  have H0 := Lib.hid hz0
  have H1 := Lib.hid hz1
  have H2 := Lib.hid hz2
  clear hi hz0 hz1 hz2
  have hd1 : decide (l.length < n) = false := by simpa using (show n ≤ l.length by omega)
  have hd2 : decide ((n : Int) < 0) = false := decide_eq_false (by omega)
  have hd3 : decide ((l.length : Int) ≤ 2 * n) = false := decide_eq_false (by omega)
  go_enter Try.func11, Try.ntmps11
  go_wp2_with fail
  go_loopw [6, 7] (fun s i wr => ∃ k : Nat, k ≤ l.length ∧ i = .int .i64 k ∧ Hid (∀ x ∈ l.take k, smallB x = true) ∧ wr.ownsRow w.heap.size 3 1 s k (ints (srt (l.take k))) ∧ Below w.heap.size w wr) (fun _ i _ => l.length - (intOf i).toNat)
  case atStart => exact ⟨0, by omega, rfl, by simp [Hid], ⟨by simp [srt_nil], .inl ⟨rfl, rfl⟩⟩, Below.refl _ _⟩
  case round =>
    obtain ⟨k, hk, rfl, hsm, ho, hb⟩ := hrel
    obtain ⟨sa, sc, rfl⟩ := own_len ho
    by_cases hlt : k < l.length
    · obtain ⟨b, o, rfl, hcl⟩ := (HR.out.below hb).get k hlt
      have hmem : l[k] ∈ l := List.getElem_mem hlt
      have htk := take_snoc l k hlt
      have HTK := Lib.hid htk
      have C := fun w => rsmall_any l[k] w
      cases hs : smallB l[k]
      · have HM : Hid (midV l n = .tuple #[.int .i64 0, .int .i64 1]) := by
          unfold Hid midV
          rw [if_neg]
          intro h
          have := ((mayM_iff _ _).1 h).2.2 _ hmem
          rw [hs] at this
          cases this
        rw [hs] at C
        clear hs htk hmem hsm
        generalize l[k] = x at *
        go_wp2_with fail
        refine (C _).mono ?_
        rintro e w' ⟨rfl, rfl⟩
        go_wp2_with fail
        go_ret2
        exact ⟨by rw [HM.out]; rfl, hb⟩
      · rw [hs] at C
        have HSM : Hid (∀ x ∈ l.take (k + 1), smallB x = true) := by
          intro x hx
          rw [htk] at hx
          rcases List.mem_append.1 hx with hx | hx
          · exact hsm.out x hx
          · rw [List.mem_singleton.1 hx]; exact hs
        have hsl : (srt (l.take k)).length = k := by rw [srt_len, List.length_take]; omega
        have HSL := Lib.hid hsl
        have HINS : Hid (∀ j, j ≤ k → (∀ y ∈ (srt (l.take k)).drop j, l[k] ≤ y) → (∀ i, (h : i < (srt (l.take k)).length) → i + 1 = j → (srt (l.take k))[i] ≤ l[k]) → ins (srt (l.take k)) l[k] j = srt (l.take (k + 1))) := by
          intro j hj h1 h2
          rw [htk]
          exact ins_srt _ _ j (by rw [hsl]; exact hj) h1 h2
        clear hs htk hmem hsm hsl HTK
        generalize hS : srt (l.take k) = S at *
        clear hS
        generalize l[k] = x at *
        go_wp2_with (first
          | (go_at_call 27; refine (C _).mono ?_; rintro e w' ⟨rfl, rfl⟩)
          | (at_builtin; refine wpList_append_own _ rfl _ _ 22 rfl w.heap.size 3 i0 (.int .i64 0) 1 8 Try.underlying22 Hi.out H0.out H1.out H2.out rfl (by decide) _ _ _ rfl (ho.alloc _) ⟨wr.heap.size, 0, none⟩ 1 1 [.int .i64 x] rfl rfl (cell_one_new _ _ _) (oc1 _ _) (by unfold maxLen; omega) (by omega) (by have := hb.size; simp; omega) ?_; intro v' w1 ho1 hg1 _; have hb1 := (hb.alloc hb.size (.cells #[.int .i64 x] 3 (0, 0))).grown hg1 (by have := hb.size; simp; omega) (fun g hg => ((ho.alloc (.cells #[.int .i64 x] 3 (0, 0))).lt g hg).1); obtain ⟨g, cap, rfl, hgB, hgl⟩ := own_form ho1 (by omega); clear hg1; have HO : Hid (w1.ownsRow w.heap.size 3 1 (.slice (some ⟨g, 0, none⟩) (k + 1) cap) (k + 1) (ints (ins S x k))) := (by have e : ints S ++ [.int .i64 x] = ints (ins S x k) := (by rw [← HSL.out, ins_last]; simp); rw [← e]; exact ho1); clear ho1))
        clear ho hcl hb HR
        go_loopw [8, 9] (fun j _ w2 => ∃ m : Nat, m ≤ k ∧ j = .int .i64 m ∧ Hid (w2.ownsRow w.heap.size 3 1 (.slice (some ⟨g, 0, none⟩) (k + 1) cap) (k + 1) (ints (ins S x m))) ∧ Hid (∀ y ∈ S.drop m, x ≤ y) ∧ Below w.heap.size w w2) (fun j _ _ => (intOf j).toNat)
        case atStart => exact ⟨k, by omega, by go_num, HO, (by have h : S.drop k = [] := List.drop_of_length_le (by rw [HSL.out]; exact Nat.le_refl _); unfold Hid; rw [h]; simp), hb1⟩
        case round =>
          obtain ⟨m, hmk, rfl, ho2, hgt, hb2⟩ := hrel
          clear HO hb1
          by_cases hm0 : 0 < m
          · obtain ⟨j, rfl⟩ : ∃ j, m = j + 1 := ⟨m - 1, by omega⟩
            have hjS : j + 1 ≤ S.length := by rw [HSL.out]; exact hmk
            have cA : wr.cell? ⟨g, j + 1, none⟩ = some (.int .i64 x) := by rw [ho2.out.cellAt _ (by omega)]; exact ints_at (ins_at _ _ _ hjS)
            have cB : wr.cell? ⟨g, j, none⟩ = some (.int .i64 S[j]) := by rw [ho2.out.cellAt _ (by omega)]; exact ints_at (ins_prev _ _ _ hjS)
            have fA := ho2.out.frozenAt (j + 1)
            have fB := ho2.out.frozenAt j
            by_cases hxs : x < S[j]
            · have HN : Hid (∀ d, ((wr.drewN d).setCell ⟨g, j + 1, none⟩ (.int .i64 S[j])).setCell ⟨g, j, none⟩ (.int .i64 x) |>.ownsRow w.heap.size 3 1 (.slice (some ⟨g, 0, none⟩) (k + 1) cap) (k + 1) (ints (ins S x j))) := by
                intro d
                have h0 : (wr.drewN d).ownsRow w.heap.size 3 1 (.slice (some ⟨g, 0, none⟩) (k + 1) cap) (k + 1) (ints (ins S x (j + 1))) := ho2.out
                have h1 := (h0.stored (j + 1) (.int .i64 S[j])).1
                rw [ints_set] at h1
                have h2 := (h1.stored j (.int .i64 x)).1
                rw [ints_set, ins_swap _ _ _ hjS] at h2
                exact h2
              have HG : Hid (∀ y ∈ S.drop j, x ≤ y) := by
                intro y hy
                rw [List.drop_eq_getElem_cons (by omega)] at hy
                rcases List.mem_cons.1 hy with rfl | hy
                · omega
                · exact hgt.out y hy
              clear ho2 hgt HINS HSM
              generalize S[j] = z at *
              go_wp2_with fail
              go_quiet (fail)
              go_wp2_with fail
              go_roundw
              case rel => exact ⟨j, by omega, by go_num, HN.out _, HG, ((bdraw hb2 _).setCell (p := ⟨g, j + 1, none⟩) hgB _).setCell (p := ⟨g, j, none⟩) hgB _⟩
              case measure => simp [intOf]
            · have HF : Hid (ins S x (j + 1) = srt (l.take (k + 1))) := HINS.out _ hmk hgt.out fun i hi e => by
                have : i = j := by omega
                subst this
                omega
              have hxs2 : decide (x < S[j]) = false := by simpa using hxs
              have HO2 : Hid (∀ d, (wr.drewN d).ownsRow w.heap.size 3 1 (.slice (some ⟨g, 0, none⟩) (k + 1) cap) (k + 1) (ints (srt (l.take (k + 1))))) := by
                intro d
                rw [← HF.out]
                exact ho2.out
              clear ho2 hgt HINS HF hxs
              generalize S[j] = z at *
              go_wp2_with fail
              go_quiet (fail)
              go_wp2_with fail
              go_roundw
              case rel => exact ⟨k + 1, by omega, by go_num, HSM, HO2.out _, bdraw hb2 _⟩
              case measure => simp [intOf]; omega
          · obtain rfl : m = 0 := by omega
            have HF : Hid (ins S x 0 = srt (l.take (k + 1))) := HINS.out _ hmk hgt.out fun i hi e => by omega
            have HO2 : Hid (∀ d, (wr.drewN d).ownsRow w.heap.size 3 1 (.slice (some ⟨g, 0, none⟩) (k + 1) cap) (k + 1) (ints (srt (l.take (k + 1))))) := by
              intro d
              rw [← HF.out]
              exact ho2.out
            clear ho2 hgt HINS HF
            go_wp2_with fail
            go_quiet (fail)
            go_wp2_with fail
            go_roundw
            case rel => exact ⟨k + 1, by omega, by go_num, HSM, HO2.out _, bdraw hb2 _⟩
            case measure => simp [intOf]; omega
    · obtain rfl : k = l.length := by omega
      rw [List.take_length] at ho hsm
      obtain ⟨g, cap, hv, hgB, _⟩ := own_form ho (by omega)
      cases hv
      have hsmall := hsm.out
      have x1 : wr.cell? ⟨g, n, none⟩ = some (.int .i64 ((srt l).getD n 0)) := by
        rw [ho.cellAt _ (by omega)]
        exact ints_at (by rw [List.getD_eq_getElem?_getD, List.getElem?_eq_getElem (by rw [srt_len]; omega)]; rfl)
      have x2 : wr.cell? ⟨g, l.length - 1 - n, none⟩ = some (.int .i64 ((srt l).getD (l.length - 1 - n) 0)) := by
        rw [ho.cellAt _ (by omega)]
        exact ints_at (by rw [List.getD_eq_getElem?_getD, List.getElem?_eq_getElem (by rw [srt_len]; omega)]; rfl)
      obtain ⟨p0, p1⟩ := srt_in hsmall n (by omega)
      obtain ⟨q0, q1⟩ := srt_in hsmall (l.length - 1 - n) (by omega)
      have MV : Hid (midV l n = .tuple #[.int .i64 (byI ((srt l).getD n 0 + (srt l).getD (l.length - 1 - n) 0) 2), .int .i64 0]) := by
        unfold Hid midV midI
        rw [if_pos ((mayM_iff _ _).2 ⟨by omega, by omega, hsmall⟩), byI_eq _ _ (by omega), Int.toNat_natCast]
      clear ho hsm hsmall HR hlt
      generalize (srt l).getD n 0 = p at *
      generalize (srt l).getD (l.length - 1 - n) 0 = q at *
      have S1 : Hid (∀ m, Calls Try.prog 28 #[.int .i64 (p + q), .int .i64 2] (wr.drewN m) fun e w' => e = .returned (.int .i64 (byI (p + q) 2)) ∧ ∃ m', w' = wr.drewN m') :=
        fun m => (rby_any (p + q) 2 (wr.drewN m) (by omega) (by omega) (by omega) (by omega)).mono fun e w' ⟨he, hw⟩ => ⟨he, m, hw.symm⟩
      generalize byI (p + q) 2 = r at *
      go_wp2_with fail
      go_quiet (with_reducible exact S1.out _)
      go_wp2_with fail
      go_ret2
      exact ⟨by rw [MV.out]; rfl, bdraw hb _⟩
theorem rmid_any (v : Value) (l : List Int) (bad : Int) (w : World) (h : Rd w v (ints l)) (hl : l.length ≤ 1000000) :
    Calls Try.prog 11 #[v, .int .i64 bad] w fun e w' => e = .returned (midV l bad) ∧ Below w.heap.size w w' := by
  by_cases hy : 0 ≤ bad ∧ 2 * bad < l.length
  · obtain ⟨n, rfl⟩ := Int.eq_ofNat_of_zero_le hy.1
    exact rmid_yes v l n w h hl (by omega)
  · have e : midV l bad = .tuple #[.int .i64 0, .int .i64 1] := if_neg fun h => hy ⟨((mayM_iff _ _).1 h).1, ((mayM_iff _ _).1 h).2.1⟩
    rw [e]
    exact (rmid_no1 v l bad w h (by omega) hy).mono fun e w' ⟨he, hw⟩ => ⟨he, by rw [hw]; exact Below.refl _ _⟩
end Go.Proofs.Ytmkphllfignbpaa
