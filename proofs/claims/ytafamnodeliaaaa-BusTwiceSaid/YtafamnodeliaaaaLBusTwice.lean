/-
  The walk of BusTwice: what came through, sent again through the same.
-/
import Derived.Test.YtafamnodeliaaaaBusArgs
import Derived.Test.YtafamnodeliaaaaBusLives
import Derived.Test.YtafamnodeliaaaaBusTwiceM
import Derived.Test.YtafamnodeliaaaaSame
import Derived.OpenShut
namespace Go.Proofs.Ytafamnodeliaaaa
open Go.RowKit
open Go

set_option maxRecDepth 20000 in
set_option maxHeartbeats 4000000 in
theorem walk_BusTwice (v0 : Value) (W : World) (A0 : Arg Try.prog 25 W v0) :
    Calls Try.prog 4 #[v0] W fun e w' => e = .returned (.bool true) ∧ Below W.heap.size W w' := by
  obtain ⟨v, u, css, fs, rd, rfl, hS, hB, hL, hF, hFL, hwf, _⟩ := A0.sending22
  clear A0
  obtain ⟨a, c, rfl, hc, hcm⟩ := hS.len
  obtain ⟨a2, c2, rfl, hc2, hcm2⟩ := hF.shape
  rw [List.length_map] at *
  unfold maxLen at hcm2
  have B1 := balloc (Below.refl W.heap.size W) (.cells #[.slice a css.length c, .slice a2 fs.length c2, .int .i64 rd] 25)
  have K0 := Lib.hid (heap_alloc_new W (.cells #[.slice a css.length c, .slice a2 fs.length c2, .int .i64 rd] 25 (0, 0)))
  have HW := Lib.hid hwf
  have HB := Lib.hid hB
  clear hwf hB
  go_enter Try.func4, Try.ntmps4
  go_wp2_with fail
  refine (great_any _ _ css fs.length a2 c2 rd _ (hS.below B1) rfl).mono ?_
  rintro e w1 ⟨⟨b, rfl⟩, b1⟩
  have B2 := bnext B1 b1
  have K1 := Lib.hid ((b1.block _ (lt_of_block K0.out)).trans K0.out)
  clear B1 b1 K0
  obtain ⟨x0, x1, x2⟩ := cells3 K1.out
  have key : (b = true ∨ (b = false ∧ decide (8 < (css.length : Int)) = true)) ∨ (b = false ∧ decide (8 < (css.length : Int)) = false) := by
    cases b <;> cases decide (8 < (css.length : Int)) <;> simp
  rcases key with key | ⟨q1, q2⟩
  · rcases key with rfl | ⟨rfl, q2⟩
    all_goals
      go_wp2_with fail
      refine (lives22_any _).mono ?_
      rintro e w2 ⟨rfl, b2⟩
      go_wp2_with fail
      go_ret
      exact ⟨rfl, bnext B2 b2⟩
  · subst q1
    have h8 : css.length ≤ 8 := by simp at q2; omega
    by_cases hbad : rd < 0 ∨ fs.any (oddB css.length) = true
    · have C := bad_any _ _ css fs rd w1 (hS.below B2) (hF.below B2) (.inr hbad)
      have HC := Lib.hid C
      clear C hbad
      go_wp2_with fail
      refine Calls.mono HC.out ?_
      rintro e w2 ⟨rfl, b2⟩
      have B3 := bnext B2 b2
      go_wp2_with fail
      refine (lives22_any _).mono ?_
      rintro e w3 ⟨rfl, b3⟩
      go_wp2_with fail
      go_ret
      exact ⟨rfl, bnext B3 b3⟩
    · have hrd : 0 ≤ rd := by simp only [not_or] at hbad; omega
      have hodd : fs.any (oddB css.length) = false := by
        simp only [not_or] at hbad
        simpa using hbad.2
      have hh : ∀ f ∈ fs, 0 ≤ f.h := fun f hf => (bounds_u8 (HW.out f hf).2.2.1).1
      have C := round_any _ _ css fs rd w1 (hS.below B2) (hF.below B2) h8 hrd hodd hh
      have hos : (css.mapIdx (outI fs rd)).length = css.length := List.length_mapIdx
      have hog : ∀ k (h : k < css.length), (css.mapIdx (outI fs rd))[k]? = some (outI fs rd k css[k]) := fun k h => by
        rw [List.getElem?_mapIdx, List.getElem?_eq_getElem h, Option.map_some]
      have hm47 : ∀ cs ∈ css, cs.length ≤ 140737488351232 := fun cs hcs => by
        obtain ⟨i, hi, rfl⟩ := List.getElem_of_mem hcs
        obtain ⟨_, _, hl, hev⟩ := hS
        exact (hev i _ _ (List.getElem?_eq_getElem (by omega)) (List.getElem?_eq_getElem hi)).2
      have hom : ∀ cs ∈ css.mapIdx (outI fs rd), cs.length ≤ 140737488351232 := fun cs hcs => by
        obtain ⟨i, hi, rfl⟩ := List.getElem_of_mem hcs
        rw [List.getElem_mapIdx]
        exact Nat.le_trans (outI_len _ _ _ _) (hm47 _ (List.getElem_mem _))
      generalize css.mapIdx (outI fs rd) = os at *
      have hps : (os.mapIdx (outI fs rd)).length = css.length := by rw [List.length_mapIdx, hos]
      have hpg : ∀ k (h : k < css.length), (os.mapIdx (outI fs rd))[k]? = some (outI fs rd k (outI fs rd k css[k])) := fun k h => by
        rw [List.getElem?_mapIdx, hog k h, Option.map_some]
      have hpm : ∀ cs ∈ os.mapIdx (outI fs rd), cs.length ≤ 140737488351232 := fun cs hcs => by
        obtain ⟨i, hi, rfl⟩ := List.getElem_of_mem hcs
        rw [List.getElem_mapIdx]
        exact Nat.le_trans (outI_len _ _ _ _) (hom _ (List.getElem_mem _))
      have C2 := fun v w h hf => round_any v (.slice a2 fs.length c2) os fs rd w h hf (by omega) hrd (by rw [hos]; exact hodd) hh
      generalize os.mapIdx (outI fs rd) = ps at *
      have HC := Lib.hid C
      have HC2 := Lib.hid C2
      have HOS := Lib.hid hos
      have HOG := Lib.hid hog
      have HPS := Lib.hid hps
      have HPG := Lib.hid hpg
      have HOM := Lib.hid hom
      have HPM := Lib.hid hpm
      clear C C2 hos hog hps hpg hom hpm hm47 hbad hodd hh hrd
      go_wp2_with fail
      refine Calls.mono HC.out ?_
      rintro e w3 ⟨vo, vs, rfl, b3, r3, o3⟩
      have A3 := o3.rdB r3 HOM.out
      have A3l := A3.len
      rw [HOS.out] at A3l
      obtain ⟨a3, c3, rfl, hc3, hcm3⟩ := A3l
      have k3 := (b3.block _ (lt_of_block K1.out)).trans K1.out
      have B3 := bnext B2 b3
      have K3 := Lib.hid k3
      clear o3 r3 b3 B2 K1 k3 x0 x1 x2 HC
      obtain ⟨x0, x1, x2⟩ := cells3 K3.out
      go_wp2_with fail
      refine Calls.mono (HC2.out _ _ A3 (hF.below B3)) ?_
      rintro e w4 ⟨vo, vs4, rfl, b4, r4, o4⟩
      have A4 := o4.rdB r4 HPM.out
      have A4l := A4.len
      rw [HPS.out] at A4l
      obtain ⟨a4, c4, rfl, hc4, hcm4⟩ := A4l
      have k4 := (b4.block _ (lt_of_block K3.out)).trans K3.out
      have B4 := bnext B3 b4
      have K4 := Lib.hid k4
      have A5 := A3.below b4
      clear o4 r4 b4 B3 K3 k4 x0 x1 x2 HC2 A3
      obtain ⟨x0, x1, x2⟩ := cells3 K4.out
      go_wp2_with fail
      clear x0 x1 x2
      go_loopw [7] (fun i wr => ∃ k : Nat, k ≤ css.length ∧ i = .int .i64 k ∧ Below w4.heap.size w4 wr) (fun i _ => css.length - (intOf i).toNat)
      case atStart => exact ⟨0, by omega, rfl, Below.refl _ _⟩
      case round =>
        obtain ⟨k, hk, rfl, hb⟩ := hrel
        by_cases hlt : k < css.length
        · obtain ⟨x0, x1, x2⟩ := cells3 ((hb.block _ (lt_of_block K4.out)).trans K4.out)
          have key := outI_twice fs rd k css[k] (HB.out _ (List.getElem_mem _))
          have ga := (A5.below hb).at k _ (HOG.out k hlt)
          have gb := (A4.below hb).at k _ (HPG.out k hlt)
          have gs := (hS.below (bnext B4 hb)).at k css[k] (List.getElem?_eq_getElem hlt)
          rcases key with ⟨e1, e2⟩ | ⟨e1, e2⟩
          · rw [e2] at gb
            rw [e1] at ga
            obtain ⟨p1, o1, z1, y1, rfl, g1, t1, _⟩ := ga
            obtain ⟨p2, o2, z2, y2, rfl, g2, t2, _⟩ := gb
            clear e1 e2 gs t1 t2
            go_wp2_with fail
            go_quiet (fail)
            go_wp2_with fail
            go_roundw
            case rel => exact ⟨k + 1, by omega, by go_num, bdraw hb _⟩
            case measure => simp [intOf]; omega
          · rw [e2] at gb
            have hpos : 0 < (outI fs rd k css[k]).length := List.length_pos_iff.2 e1
            clear e1 e2
            generalize outI fs rd k css[k] = o at *
            generalize css[k] = cs at *
            obtain ⟨p1, o1, z1, y1, rfl, g1, t1, _⟩ := ga
            obtain ⟨p2, o2, z2, y2, rfl, g2, t2, _⟩ := gb
            obtain ⟨p3, o3, z3, y3, rfl, g3, t3, _⟩ := gs
            clear t1
            generalize o.length = no at *
            have q3 : ((no : Int) == 0) = false := beq_eq_false_iff_ne.2 (by omega)
            have q4 : decide (0 < no) = true := decide_eq_true (by omega)
            have S1 : Hid (∀ m, Calls Try.prog 9 #[.slice z2 cs.length y2, .slice z3 cs.length y3] (wr.drewN m) fun e w' => e = .returned (.bool true) ∧ ∃ m', w' = wr.drewN m') := by
              intro m
              have := same_drew _ _ _ _ (wr.drewN m) (t2.below (bdraw (Below.refl _ _) m)) (t3.below (bdraw (Below.refl _ _) m))
              rw [decide_eq_true rfl] at this
              exact this.mono fun e w' ⟨he, n, hw⟩ => ⟨he, m + n, by rw [hw, World.drewN_drewN]⟩
            clear t2 t3 hpos
            go_wp2_with fail
            go_quiet (with_reducible exact S1.out _)
            go_wp2_with fail
            go_roundw
            case rel => exact ⟨k + 1, by omega, by go_num, bdraw hb _⟩
            case measure => simp [intOf]; omega
        · obtain rfl : k = css.length := by omega
          go_wp2_with fail
          refine (lives22_any _).mono ?_
          rintro e w5 ⟨rfl, b5⟩
          go_wp2_with fail
          go_ret
          exact ⟨rfl, bnext (bnext B4 hb) b5⟩
end Go.Proofs.Ytafamnodeliaaaa
