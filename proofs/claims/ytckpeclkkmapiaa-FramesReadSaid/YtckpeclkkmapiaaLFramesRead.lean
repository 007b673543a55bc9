/-
  The walk of FramesRead: bytes that are values of types are put as them.
-/
import Derived.Test.YtckpeclkkmapiaaFrmUse
import Derived.Test.YtckpeclkkmapiaaReadFr
import Derived.Test.YtckpeclkkmapiaaFrvBig
namespace Go.Proofs.Ytckpeclkkmapiaa
open Go.RowKit
open Go

theorem typeInfoT : (Try.prog.info? 47).map (fun i => (i.zero, i.size, i.bytes)) = some (some (.int .u8 0), 1, 1) := by kernel_rfl
theorem own_ltN {w : World} {base sz : Nat} {e : TypeId} {v : Value} {n : Nat} {xs : List Value} (h : w.ownsRow base e sz v n xs) (g : Nat) (hg : v.ownBlock = some g) : g < w.heap.size := by
  rcases h.2 with ⟨rfl, _⟩ | ⟨g', c, cur, rfl, _, hb, _⟩
  · cases hg
  · simp only [Value.ownBlock, Option.some.injEq] at hg
    subst hg
    exact lt_of_block hb
/-- The types so far. -/
def TyR (W : World) (k m : Nat) (t : Value) (wr : World) : Prop := wr.ownsRow W.heap.size 47 1 t (k + m) (by8 (tyK k m)) ∧ Below W.heap.size W wr
theorem own_ge8 {w : World} {base sz : Nat} {e : TypeId} {v : Value} {n : Nat} {xs : List Value} (h : w.ownsRow base e sz v n xs) : ∀ k, v.ownBlock = some k → base ≤ k := own_geN h
set_option maxRecDepth 20000 in
set_option maxHeartbeats 4000000 in
theorem walk_FramesRead (v0 v1 : Value) (W : World) (A0 : Arg Try.prog 24 W v0) (A1 : Arg Try.prog 5 W v1) :
    Calls Try.prog 7 #[v0, v1] W fun e w' => e = .returned (.bool true) ∧ Below W.heap.size W w' := by
  obtain ⟨zs, hR, hZ, hlm⟩ := A0.bytes
  obtain ⟨bs, rfl⟩ := iN_of zs fun z hz => (hZ z hz).1
  have hb : NB bs := fun n hn => by
    have := (hZ n (List.mem_map.2 ⟨n, hn, rfl⟩)).2
    omega
  rw [List.length_map] at hlm
  obtain ⟨ins, rfl, wi⟩ := A1.int Try.underlying5
  obtain ⟨hi0, hi1⟩ := bounds_u8 wi
  clear A0 A1 hZ wi
  have HR := Lib.hid hR
  have HB := Lib.hid hb
  obtain ⟨a, c, rfl, hac, hcm, _, _⟩ := hR
  have hl : (by8 (iN bs)).length = bs.length := by simp
  rw [hl] at hac HR ⊢
  unfold maxLen at hcm
  clear hl hb
  by_cases hbig : 2000 < bs.length
  · go_enter Try.func7, Try.ntmps7
    go_wp2_with fail
    refine (alive3_any _).mono ?_
    rintro e w2 ⟨rfl, b2⟩
    go_wp2_with fail
    refine (alive3_any _).mono ?_
    rintro e w3 ⟨rfl, b3⟩
    go_wp2_with fail
    go_ret
    exact ⟨rfl, bnext b2 b3⟩
  · obtain ⟨K, hK⟩ : ∃ K : Nat, min ins ((bs.length : Int) / 8) = (K : Int) := ⟨(min ins ((bs.length : Int) / 8)).toNat, by omega⟩
    have hK8 : 8 * K ≤ bs.length := by omega
    have qb : decide (2000 < (bs.length : Int)) = false := by rw [decide_eq_false_iff_not]; omega
    obtain ⟨j0, hj, hy0, hy1, hy2⟩ := info_parts typeInfoT
    have J0 := Lib.hid (And.intro hj (And.intro hy0 (And.intro hy1 hy2)))
    clear hj hy0 hy1 hy2
    go_enter Try.func7, Try.ntmps7
    go_wp2_with fail
    refine (alive3_any _).mono ?_
    rintro e w2 ⟨rfl, b2⟩
    go_wp2_with fail
    clear hK hi0 hi1 qb
    go_loopw [6, 7] (fun t i wr => ∃ k : Nat, k ≤ K ∧ i = .int .i64 k ∧ TyR W k 0 t wr) (fun _ i _ => K - (intOf i).toNat)
    case atStart => exact ⟨0, by omega, rfl, ⟨rfl, .inl ⟨rfl, rfl⟩⟩, b2⟩
    case round =>
      clear b2
      obtain ⟨k, hk, rfl, ot, hb⟩ := hrel
      by_cases hlt : k < K
      · obtain ⟨at_, ct, rfl⟩ := owns_shapeN ot
        go_wp2_with (at_builtin; refine wpList_append_own_at _ rfl _ _ 46 rfl W.heap.size 47 j0 (.int .u8 0) 1 1 Try.underlying46 J0.out.1 J0.out.2.1 J0.out.2.2.1 J0.out.2.2.2 rfl (by decide) (.slice at_ (k + 0) ct) (k + 0) _ rfl (ot.alloc _) ⟨wr.heap.size, 0, none⟩ 1 1 [.int .u8 1] rfl rfl (cell_one_new _ _ _) (oc1 _ _) (by unfold maxLen; omega) (by omega) (by have := hb.size; simp; omega) ?_; intro v7 w7 o7 g7 n7 s7; have b7 := (balloc hb (.cells #[.int .u8 1] 47 (0, 0))).grown g7 (by have := hb.size; simp; omega) (own_geN ot); clear n7 s7 g7)
        go_roundw
        case rel => exact ⟨k + 1, by omega, by go_num, by rw [tyK_first]; exact o7, b7⟩
        case measure => simp [intOf]; omega
      · obtain rfl : k = K := by omega
        go_wp2_with fail
        go_loopw [6, 8] (fun t i wr => ∃ q : Nat, 8 * k ≤ q ∧ q ≤ bs.length ∧ i = .int .i64 q ∧ TyR W k (8 * (q - 8 * k)) t wr) (fun _ i _ => bs.length - (intOf i).toNat)
        case atStart => exact ⟨8 * k, by omega, by omega, by go_num, by rw [Nat.sub_self]; exact ⟨ot, hb⟩⟩
        case round =>
          clear ot hb
          obtain ⟨q, hq1, hq2, rfl, ot, hb⟩ := hrel
          by_cases hlt2 : q < bs.length
          · go_wp2_with fail
            go_loopw [6, 9] (fun t i wr => ∃ j : Nat, j ≤ 8 ∧ i = .int .i64 j ∧ TyR W k (8 * (q - 8 * k) + j) t wr) (fun _ i _ => 8 - (intOf i).toNat)
            case atStart => exact ⟨0, by omega, rfl, ot, hb⟩
            case round =>
              clear ot hb
              obtain ⟨j, hj, rfl, ot, hb⟩ := hrel
              by_cases hlt3 : j < 8
              · obtain ⟨at_, ct, rfl⟩ := owns_shapeN ot
                go_wp2_with (at_builtin; refine wpList_append_own_at _ rfl _ _ 46 rfl W.heap.size 47 j0 (.int .u8 0) 1 1 Try.underlying46 J0.out.1 J0.out.2.1 J0.out.2.2.1 J0.out.2.2.2 rfl (by decide) (.slice at_ (k + (8 * (q - 8 * k) + j)) ct) (k + (8 * (q - 8 * k) + j)) _ rfl (ot.alloc _) ⟨_, 0, none⟩ 1 1 [.int .u8 2] rfl rfl (cell_one_new _ _ _) (oc1 _ _) (by unfold maxLen; omega) (by omega) (by have := hb.size; simp; omega) ?_; intro v7 w7 o7 g7 n7 s7; have b7 := (balloc hb (.cells #[.int .u8 2] 47 (0, 0))).grown g7 (by have := hb.size; simp; omega) (own_geN ot); clear n7 s7 g7)
                go_roundw
                case rel => exact ⟨j + 1, by omega, by go_num, by have h := o7; rw [← tyK_more] at h; exact h, b7⟩
                case measure => simp [intOf]; omega
              · obtain rfl : j = 8 := by omega
                go_wp2_with fail
                go_roundw
                case rel => exact ⟨q + 1, by omega, by omega, by go_num, by rw [show 8 * (q + 1 - 8 * k) = 8 * (q - 8 * k) + 8 by omega]; exact ⟨ot, hb⟩⟩
                case measure => simp [intOf]; omega
          · obtain rfl : q = bs.length := by omega
            obtain ⟨at_, ct, rfl⟩ := owns_shapeN ot
            have h2000 : bs.length ≤ 2000 := by omega
            have RT := Lib.hid (own_rd ot)
            have hts := tyK_len k (8 * (bs.length - 8 * k))
            have htv := tyK_any k (8 * (bs.length - 8 * k))
            have hev := errV_tyK bs k hK8
            obtain ⟨hpk, hbl⟩ := pack_tyK bs HB.out k hK8
            have hchk := vals_chk bs (tyK k (8 * (bs.length - 8 * k))) 0 (tyK_mem _ _)
            have hin := vals_in bs (tyK k (8 * (bs.length - 8 * k))) 0
            have hvl := valsAt_len bs 0 (tyK k (8 * (bs.length - 8 * k)))
            have hat := fun i (h1 : k ≤ i) (h2 : i < k + 8 * (bs.length - 8 * k)) => valsAt_at bs (tyK k (8 * (bs.length - 8 * k))) 0 i
            have HAT : Hid (∀ i, k ≤ i → i < k + 8 * (bs.length - 8 * k) → (valsAt bs 0 (tyK k (8 * (bs.length - 8 * k))))[i]? = some (2, wrap64 (getN bs (64 * k + (i - k)) 1))) := fun i h1 h2 => by
              obtain ⟨e1, e2⟩ := tyK_at k (8 * (bs.length - 8 * k)) i h1 h2
              rw [hat i h1 h2, e1, e2, Nat.zero_add]
              rfl
            have T1 := Lib.hid hts
            have T2 := Lib.hid hev
            have T3 := Lib.hid hpk
            have T4 := Lib.hid hbl
            have T5 := Lib.hid hchk
            have T6 := Lib.hid hin
            have T7 := Lib.hid hvl
            clear hts htv hev hpk hbl hchk hin hvl hat ot
            obtain ⟨N, hN⟩ : ∃ N, k + 8 * (bs.length - 8 * k) = N := ⟨_, rfl⟩
            rw [hN] at RT T1 HAT ⊢
            have hN1 : N ≤ 16000 := by omega
            have hN2 : N + 63 * k ≤ 8 * bs.length := by omega
            have hN3 : 8 * bs.length ≤ N + 63 * k := by omega
            generalize tyK k (8 * (bs.length - 8 * k)) = ts at *
            clear hN
            go_wp2_with fail
            refine (values_big _ _ bs ts wr (HR.out.below hb) HB.out RT.out (by rw [T1.out]; omega) hlm).mono ?_
            rintro e w5 ⟨b5, ⟨h0, _⟩ | ⟨_, x, rfl, o5⟩⟩
            · exact absurd T2.out h0
            · rw [T1.out] at o5
              obtain ⟨a5, c5, rfl⟩ := owns_shapeN o5
              have R5 := Lib.hid (own_rdN (rows := (valsAt bs 0 ts).map rowV) o5 (fun r hr => by obtain ⟨f, _, rfl⟩ := List.mem_map.1 hr; rfl) (by rw [List.length_map, T7.out, T1.out]))
              have B5 := bnext hb b5
              have T8 : Hid ((valsAt bs 0 ts).length = N) := T7.out.trans T1.out
              have PB := fun h => payload_big (.slice a5 N c5) (valsAt bs 0 ts) w5 R5.out h
              have HPB := Lib.hid (PB (by rw [T4.out]; omega) (by rw [T8.out]; omega) T6.out)
              clear PB o5
              go_wp2_with fail
              refine Calls.mono HPB.out ?_
              rintro e w6 ⟨b6, ⟨h0, _⟩ | ⟨_, h0, _⟩ | ⟨_, _, u, rfl, o6⟩⟩
              · have := List.all_eq_true.2 T5.out
                rw [h0] at this
                cases this
              · rw [T3.out] at h0
                omega
              · rw [T3.out] at o6
                have B6 := bnext B5 b6
                have HS := Lib.hid (same_any _ _ (iN bs) (iN bs) w6 (own_rd o6) (HR.out.below B6))
                rw [decide_eq_true rfl] at HS
                obtain ⟨a6, c6, rfl⟩ := owns_shape o6
                clear o6
                go_wp2_with fail
                refine Calls.mono HS.out ?_
                rintro e w7 ⟨rfl, b7⟩
                have B7 := bnext B6 b7
                have R7 := Lib.hid (R5.out.below (bnext b6 b7))
                have RB := Lib.hid (HR.out.below B7)
                clear HS R5 HPB b5 b6 b7 B5 B6 hb
                go_wp2_with fail
                go_loop [14] (fun i => ∃ q : Nat, 8 * k ≤ q ∧ q ≤ bs.length ∧ i = .int .i64 q) (fun i => bs.length - (intOf i).toNat)
                case atStart => exact ⟨8 * k, by omega, by omega, by go_num⟩
                case round =>
                  obtain ⟨q, hq1, hq2, rfl⟩ := hrel
                  by_cases hltq : q < bs.length
                  · go_wp2_with fail
                    go_loop [15] (fun i => ∃ j : Nat, j ≤ 8 ∧ i = .int .i64 j) (fun i => 8 - (intOf i).toNat)
                    case atStart => exact ⟨0, by omega, rfl⟩
                    case round =>
                      obtain ⟨j, hj, rfl⟩ := hrel
                      by_cases hltj : j < 8
                      · obtain ⟨r, hr⟩ : ∃ r : Nat, (k : Int) + 8 * ((q : Int) - 8 * k) + j = r := ⟨((k : Int) + 8 * ((q : Int) - 8 * k) + j).toNat, by omega⟩
                        have hrN : r < N := by omega
                        have hrk : k ≤ r := by omega
                        have hv := HAT.out r hrk hrN
                        rw [show 64 * k + (r - k) = 8 * q + j by omega] at hv
                        obtain ⟨b', o', rfl, hcl⟩ := R7.out.get r (by rw [List.length_map, T8.out]; exact hrN)
                        rw [List.getElem_map] at hcl
                        have hve : (valsAt bs 0 ts)[r]'(by rw [T8.out]; exact hrN) = (2, wrap64 (getN bs (8 * q + j) 1)) := (List.getElem?_eq_some_iff.1 hv).2
                        rw [hve] at hcl
                        have x1 : w7.cell? ⟨b', o' + r * 2 + 1, none⟩ = some (.int .i64 (wrap64 (getN bs (8 * q + j) 1))) := hcl 1 _ rfl
                        have CG0 := get_ok _ bs (8 * q + j) 1 w7 RB.out HB.out (by decide) (by omega) hlm
                        rw [show ((8 * q + j : Nat) : Int) = 8 * (q : Int) + j by omega, show ((1 : Nat) : Int) = 1 from rfl] at CG0
                        have CG := Lib.hid CG0
                        clear hv hve hcl CG0
                        generalize getN bs (8 * q + j) 1 = g at *
                        go_wp2_with fail
                        refine Calls.mono CG.out ?_
                        rintro e w8 ⟨rfl, rfl⟩
                        go_wp2_with fail
                        go_round
                        case rel => exact ⟨j + 1, by omega, by go_num⟩
                        case measure => simp [intOf]; omega
                      · obtain rfl : j = 8 := by omega
                        go_wp2_with fail
                        go_round
                        case rel => exact ⟨q + 1, by omega, by omega, by go_num⟩
                        case measure => simp [intOf]; omega
                  · obtain rfl : q = bs.length := by omega
                    go_wp2_with fail
                    go_ret
                    exact ⟨rfl, B7⟩
end Go.Proofs.Ytckpeclkkmapiaa
