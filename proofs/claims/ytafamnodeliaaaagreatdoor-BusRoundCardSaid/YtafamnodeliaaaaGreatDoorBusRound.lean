/-
  The walk of bus.Round.
-/
import Derived.Test.YtafamnodeliaaaaGreatDoorBusR
import Derived.Test.YtafamnodeliaaaaGreatDoorBkW
import Derived.Test.YtafamnodeliaaaaGreatDoorKit4
namespace Go.Proofs.YtafamnodeliaaaaGreatDoor
open Go.RowKit
open Go

theorem infoSB : (Tryz.prog.info? 47).map (fun i => (i.zero, i.size, i.bytes)) = some (some (.slice none 0 0), 1, 24) := by kernel_rfl
theorem zeroFn (w : World) : (zeroValue 63).run Tryz.prog w = .ok .nilFunc w := by kernel_rfl
theorem neq0 (w : World) : (binOp .neq 63 .nilFunc .nilFunc).run Tryz.prog w = .ok (.bool false) w := by kernel_rfl
theorem neq1 (w : World) : (binOp .neq 63 (.func (.func 78) #[] #[]) .nilFunc).run Tryz.prog w = .ok (.bool true) w := by kernel_rfl
theorem neq2 (w : World) : (binOp .neq 63 (.func (.func 79) #[] #[]) .nilFunc).run Tryz.prog w = .ok (.bool true) w := by kernel_rfl
theorem look_any (w : World) (bm : Nat) (h : w.heap[bm]? = some (mapO .u8 wrongL)) (x : Int) : (Instr.lookup 61 (.map (some bm)) (.int .u8 x) false).run Tryz.prog w = .ok ((getV wrongL x).getD .nilFunc) w :=
  run_lookup_int w 61 5 63 .u8 Tryz.underlying61 Tryz.underlying5 bm wrongL h x .nilFunc (zeroFn w)
theorem bad_any (v u : Value) (css : List (List Int)) (fs : List Fl) (rd : Int) (w : World) (hS : RdB w v css) (hF : RdN 5 w u (fs.map rowF)) (hbad : 8 < css.length ∨ rd < 0 ∨ fs.any (oddB css.length) = true) :
    Calls Tryz.prog 8 #[v, u, .int .i64 rd] w fun e w' => e = .returned (.tuple #[.slice none 0 0, .int .i64 1]) ∧ Below w.heap.size w w' := by
  obtain ⟨vs, hR, hl, _⟩ := hS
  obtain ⟨a, c, rfl, hc, hm⟩ : ∃ a c, v = .slice a css.length c ∧ css.length ≤ c ∧ c ≤ maxLen := by
    obtain ⟨a, c, e, h1, h2, _⟩ := hR
    exact ⟨a, c, by rw [e, hl], by omega, h2⟩
  unfold maxLen at hm
  have B1 := balloc (Below.refl w.heap.size w) (.cells #[.slice a css.length c] 22)
  have k0 : (w.alloc (.cells #[.slice a css.length c] 22)).cell? ⟨w.heap.size, 0, none⟩ = some (.slice a css.length c) := cell_of_row _ _ 0 _ _ _ (heap_alloc_new w (.cells #[.slice a css.length c] 22 (0, 0)))
  have C := containsOdd_any css.length a c u fs _ w.heap.size (hF.below B1) k0
  have HC := Lib.hid C
  clear C
  have key : decide (8 < (css.length : Int)) = true ∨ (decide (8 < (css.length : Int)) = false ∧ decide (rd < 0) = true) ∨ (decide (8 < (css.length : Int)) = false ∧ decide (rd < 0) = false ∧ fs.any (oddB css.length) = true) := by
    simp only [decide_eq_true_eq, decide_eq_false_iff_not]
    rcases hbad with h | h | h
    · exact .inl (by omega)
    · by_cases h8 : 8 < css.length
      · exact .inl (by omega)
      · exact .inr (.inl ⟨by omega, h⟩)
    · by_cases h8 : 8 < css.length
      · exact .inl (by omega)
      · by_cases hr : rd < 0
        · exact .inr (.inl ⟨by omega, hr⟩)
        · exact .inr (.inr ⟨by omega, hr, h⟩)
  clear hbad
  rcases key with q1 | ⟨q1, q2⟩ | ⟨q1, q2, q3⟩
  iterate 2
    · go_enter Tryz.func8, Tryz.ntmps8
      go_wp2_with fail
      go_ret2
      exact ⟨rfl, B1⟩
  · rw [q3] at HC
    go_enter Tryz.func8, Tryz.ntmps8
    go_wp2_with fail
    refine Calls.mono HC.out ?_
    rintro e w1 ⟨rfl, b1⟩
    go_wp2_with fail
    go_ret2
    exact ⟨rfl, bnext B1 b1⟩

theorem clipS_own2 (base : Nat) (v : Value) (n : Nat) (xs : List Value) (w : World) (h : w.ownsRow base 47 1 v n xs) : Calls Tryz.prog 22 #[v] w fun e w' => ∃ v', e = .returned v' ∧ (Rd w v' xs ∧ Own w base 47 1 v' n xs) ∧ w = w' := by
  have hl : xs.length = n := by have := h.1; omega
  rcases h.2 with ⟨rfl, rfl⟩ | ⟨g, c, cur, rfl, h1, h2, h3, h4, h5, h6⟩
  · refine (clipS_nil w).mono ?_
    rintro e w' ⟨rfl, rfl⟩
    exact ⟨_, rfl, ⟨own_rd h, Own.of_owns h⟩, rfl⟩
  · refine (clipS_some g n c w h3).mono ?_
    rintro e w' ⟨rfl, rfl⟩
    refine ⟨_, rfl, ⟨rd_block xs n n h2 hl.symm (fun i x hx => ?_) (Nat.le_refl _) (by omega), ?_⟩, rfl⟩
    · rw [← h6, Nat.mul_one, List.getElem?_take] at hx
      split at hx
      · simpa using hx
      · cases hx
    · rcases Nat.eq_zero_or_pos n with rfl | hn
      · exact ⟨by simpa using hl, .inl ⟨_, rfl, rfl⟩⟩
      · exact ⟨by simpa using hl, .inr ⟨g, n, cur, rfl, hn, h1, h2, Nat.le_refl _, by omega, by omega, h6⟩⟩
theorem clipS_own (base : Nat) (v : Value) (n : Nat) (xs : List Value) (w : World) (h : w.ownsRow base 47 1 v n xs) : Calls Tryz.prog 22 #[v] w fun e w' => ∃ v', e = .returned v' ∧ Rd w v' xs ∧ w = w' := by
  have hl : xs.length = n := by have := h.1; omega
  rcases h.2 with ⟨rfl, rfl⟩ | ⟨g, c, cur, rfl, h1, h2, h3, h4, h5, h6⟩
  · refine (clipS_nil w).mono ?_
    rintro e w' ⟨rfl, rfl⟩
    exact ⟨_, rfl, own_rd h, rfl⟩
  · refine (clipS_some g n c w h3).mono ?_
    rintro e w' ⟨rfl, rfl⟩
    refine ⟨_, rfl, rd_block xs n n h2 hl.symm (fun i x hx => ?_) (Nat.le_refl _) (by omega), rfl⟩
    rw [← h6, Nat.mul_one, List.getElem?_take] at hx
    split at hx
    · simpa using hx
    · cases hx

set_option maxRecDepth 20000 in
set_option maxHeartbeats 4000000 in
theorem round_own (v u : Value) (css : List (List Int)) (fs : List Fl) (rd : Int) (w : World) (hS : RdB w v css) (hF : RdN 5 w u (fs.map rowF)) (h8 : css.length ≤ 8) (hrd : 0 ≤ rd) (hodd : fs.any (oddB css.length) = false) (hh : ∀ f ∈ fs, 0 ≤ f.h) :
    Calls Tryz.prog 8 #[v, u, .int .i64 rd] w fun e w' => ∃ vo vs, e = .returned (.tuple #[vo, .int .i64 0]) ∧ Below w.heap.size w w' ∧ (Rd w' vo vs ∧ Own w' w.heap.size 47 1 vo vs.length vs) ∧ Outs w' w.heap.size vs (css.mapIdx (outI fs rd)) := by
  obtain ⟨ws, hR, hl, heach⟩ := hS
  obtain ⟨a, c, rfl, hc, hm⟩ : ∃ a c, v = .slice a css.length c ∧ css.length ≤ c ∧ c ≤ 9223372036854775807 := by
    obtain ⟨a, c, e, h1, h2, _⟩ := hR
    exact ⟨a, c, by rw [e, hl], by omega, h2⟩
  obtain ⟨a2, c2, rfl, hc2, hm2⟩ := hF.shape
  rw [List.length_map] at *
  unfold maxLen at hm2
  have B1 := balloc (Below.refl w.heap.size w) (.cells #[.slice a css.length c] 22)
  have s0 := heap_alloc_new w (.cells #[.slice a css.length c] 22 (0, 0))
  have k0 : (w.alloc (.cells #[.slice a css.length c] 22)).cell? ⟨w.heap.size, 0, none⟩ = some (.slice a css.length c) := cell_of_row _ _ 0 _ _ _ s0
  have C := containsOdd_any css.length a c _ fs _ w.heap.size (hF.below B1) k0
  rw [hodd] at C
  have HC := Lib.hid C
  have S0 := Lib.hid s0
  have HODD := Lib.hid hodd
  have HH := Lib.hid hh
  have q1 : decide (8 < (css.length : Int)) = false := by simp; omega
  have q2 : decide (rd < 0) = false := by simp; omega
  obtain ⟨i0, hi, hz0, hz1, hz2⟩ := info_parts infoSB
  have HI := Lib.hid hi
  have HZ := Lib.hid hz0
  have HZ1 := Lib.hid hz1
  have HZ2 := Lib.hid hz2
  have HL := Lib.hid hl
  have HE := Lib.hid heach
  clear C s0 hodd hh hi hz0 hz1 hz2 hl heach
  go_enter Tryz.func8, Tryz.ntmps8
  go_wp2_with fail
  refine Calls.mono HC.out ?_
  rintro e w1 ⟨rfl, b1⟩
  have S1 := Lib.hid ((b1.block _ (lt_of_block S0.out)).trans S0.out)
  have B2 := bnext B1 b1
  clear k0 B1 b1 S0
  go_wp2_with fail
  refine (wrongs_any w1).mono ?_
  rintro e w2 ⟨rfl, rfl⟩
  have R0 : RI w w.heap.size w1.heap.size (.slice a css.length c) (.slice none 0 0) [] [] (w1.alloc (mapO .u8 wrongL)) :=
    ⟨balloc B2 _, (heap_alloc_old (h := lt_of_block S1.out) w1 (mapO .u8 wrongL)).trans S1.out, heap_alloc_new _ _, ⟨rfl, .inl ⟨rfl, rfl⟩⟩, Outs.nil _ _⟩
  generalize w1.heap.size = bm at *
  generalize w1.alloc _ = w2 at *
  clear S1 B2 HC q1 q2
  have x2 : w2.cell? ⟨w.heap.size, 0, none⟩ = some (.slice a css.length c) := cell_of_row _ _ 0 _ _ _ R0.sent
  go_wp2_with fail
  clear x2
  go_loopw [10, 32] (fun vo i wr => ∃ k : Nat, k ≤ css.length ∧ i = .int .i64 k ∧ ∃ vs, vs.length = k ∧ RI w w.heap.size bm (.slice a css.length c) vo vs ((css.mapIdx (outI fs rd)).take k) wr) (fun _ i _ => css.length - (intOf i).toNat)
  case atStart => exact ⟨0, by omega, rfl, [], rfl, R0⟩
  case round =>
    obtain ⟨k, hk, rfl, vs, hvl, R1⟩ := hrel
    have HVL := Lib.hid hvl
    clear hvl
    by_cases hlt : k < css.length
    · have hkw : k < ws.length := by have := HL.out; omega
      obtain ⟨ru, hu47⟩ := HE.out k ws[k] css[k] (List.getElem?_eq_getElem (by have := HL.out; omega)) (List.getElem?_eq_getElem hlt)
      obtain ⟨bq, oq, rfl, z0⟩ := (hR.below R1.bel).at k ws[k] (List.getElem?_eq_getElem (by have := HL.out; omega))
      obtain ⟨ak, ck, ek, _⟩ := ru
      have ruk := (HE.out k ws[k] css[k] (List.getElem?_eq_getElem (by have := HL.out; omega)) (List.getElem?_eq_getElem hlt)).1.below R1.bel
      rw [ek] at z0 ruk
      have hol : outI fs rd k css[k] = if fs.any (silB ((k : Int) + 1) rd) then [] else fs.foldl (stepI ((k : Int) + 1) rd) css[k] := rfl
      have htk : (css.mapIdx (outI fs rd)).take (k + 1) = (css.mapIdx (outI fs rd)).take k ++ [outI fs rd k css[k]] := by
        rw [take_snoc _ _ (by simpa using hlt)]
        simp
      have HOL := Lib.hid hol
      have HTK := Lib.hid htk
      have RUK := Lib.hid ruk
      rw [List.length_map] at *
      clear hol htk ruk ek
      generalize outI fs rd k css[k] = oo at *
      generalize css[k] = cs at *
      go_wp2_with fail
      refine (clone_any ak _ ck cs wr RUK.out hu47).mono ?_
      rintro e w3 ⟨v3, rfl, o3, _, b3⟩
      have R3 := R1.below b3
      have I3 : InHand w vs w3 v3 cs := ⟨(OwnB.of_owns o3).mono R1.bel.size, fun j x hx g hg e => by
        have h5 := lt_of_block (R1.outs.blocks j x hx g hg).2.choose_spec
        have h6 := ((OwnB.of_owns o3).at_ g e).1
        omega⟩
      clear R1 b3 o3 z0 RUK
      go_wp2_with fail
      refine (clipB_own _ v3 cs w3 I3.1).mono ?_
      rintro e w4 ⟨v4, rfl, o4, e4, rfl⟩
      have I4 : InHand w vs w3 v4 cs := ⟨o4, fun j x hx g hg => by rw [e4]; exact I3.2 j x hx g hg⟩
      clear I3 o4 e4
      go_wp2_with fail
      go_loopw [12, 42] (fun vb i wr => ∃ q : Nat, q ≤ fs.length ∧ i = .int .i64 q ∧ RI w w.heap.size bm (.slice (some ⟨bq, oq, none⟩) css.length c) u10 vs ((css.mapIdx (outI fs rd)).take k) wr ∧ InHand w vs wr vb ((fs.take q).foldl (stepI ((k : Int) + 1) rd) cs)) (fun _ i _ => fs.length - (intOf i).toNat)
      case atStart => exact ⟨0, by omega, rfl, R3, I4⟩
      case round =>
        obtain ⟨q, hq, rfl, R5, I5⟩ := hrel
        by_cases hlt2 : q < fs.length
        · have hmem := List.getElem_mem hlt2
          have hno : oddB css.length fs[q] = false := by
            cases hob : oddB css.length fs[q]
            · rfl
            · have := List.any_eq_true.2 ⟨_, hmem, hob⟩
              rw [HODD.out] at this
              cases this
          have hh0 := HH.out _ hmem
          obtain ⟨b, o, rfl, hcl⟩ := (hF.below R5.bel).get q (by simpa using hlt2)
          rw [List.getElem_map] at hcl
          have hst := Lib.hid (foldl_snoc (stepI ((k : Int) + 1) rd) cs fs q hlt2)
          generalize (fs.take q).foldl (stepI ((k : Int) + 1) rd) cs = ds at *
          generalize fs[q] = f at *
          obtain ⟨r, s, h, ft, fb⟩ := f
          simp only [oddB, Bool.or_eq_false_iff, decide_eq_false_iff_not] at hno
          obtain ⟨_, _, _, hft, hh2⟩ := hno
          have x0 : wr.cell? ⟨b, o + q * 5, none⟩ = some (.int .i64 r) := hcl 0 _ rfl
          have x1 : wr.cell? ⟨b, o + q * 5 + 1, none⟩ = some (.int .i64 s) := hcl 1 _ rfl
          have x2 : wr.cell? ⟨b, o + q * 5 + 2, none⟩ = some (.int .u8 h) := hcl 2 _ rfl
          have x3 : wr.cell? ⟨b, o + q * 5 + 3, none⟩ = some (.int .i64 ft) := hcl 3 _ rfl
          have x4 : wr.cell? ⟨b, o + q * 5 + 4, none⟩ = some (.int .u8 fb) := hcl 4 _ rfl
          have R6 := R5.below (balloc (Below.refl _ _) (.cells #[.int .i64 r, .int .i64 s, .int .u8 h, .int .i64 ft, .int .u8 fb] 58))
          have I6 := I5.below (balloc (Below.refl _ _) (.cells #[.int .i64 r, .int .i64 s, .int .u8 h, .int .i64 ft, .int .u8 fb] 58))
          have LK := look_any _ bm R6.mp h
          clear hcl hmem R5 I5
          have key : h = 0 ∨ h = 1 ∨ h = 2 := by
            have h0 : 0 ≤ h := hh0
            have h1 : ¬ 2 < h := hh2
            omega
          rcases key with rfl | rfl | rfl
          · rw [show (getV wrongL 0).getD .nilFunc = .nilFunc from rfl] at LK
            have HST : Hid ((fs.take (q + 1)).foldl (stepI ((k : Int) + 1) rd) cs = ds) := by unfold Hid; rw [hst.out]; simp [stepI]
            clear hst
            have NQ := neq0
            go_wp2_with fail
            go_roundw
            case rel => exact ⟨q + 1, by omega, by go_num, R6, by rw [HST.out]; exact I6⟩
            case measure => simp [intOf]; omega
          · rw [show (getV wrongL 1).getD .nilFunc = .func (.func 78) #[] #[] from rfl] at LK
            have NQ := neq1
            cases c1 : (s == (k : Int) + 1)
            · have HST : Hid ((fs.take (q + 1)).foldl (stepI ((k : Int) + 1) rd) cs = ds) := by
                unfold Hid
                rw [hst.out]
                exact if_pos (.inr (.inl (beq_eq_false_iff_ne.1 c1)))
              clear hst
              go_wp2_with fail
              go_roundw
              case rel => exact ⟨q + 1, by omega, by go_num, R6, by rw [HST.out]; exact I6⟩
              case measure => simp [intOf]; omega
            · cases c2 : (r == rd)
              · have HST : Hid ((fs.take (q + 1)).foldl (stepI ((k : Int) + 1) rd) cs = ds) := by
                  unfold Hid
                  rw [hst.out]
                  exact if_pos (.inr (.inr (beq_eq_false_iff_ne.1 c2)))
                clear hst
                go_wp2_with fail
                go_roundw
                case rel => exact ⟨q + 1, by omega, by go_num, R6, by rw [HST.out]; exact I6⟩
                case measure => simp [intOf]; omega
              · have HST : Hid ((fs.take (q + 1)).foldl (stepI ((k : Int) + 1) rd) cs = []) := by
                  unfold Hid
                  rw [hst.out]
                  have d1 := beq_iff_eq.1 c1
                  have d2 := beq_iff_eq.1 c2
                  simp [stepI, d1, d2]
                clear hst
                go_wp2_with fail
                refine (lost_any u12 ⟨r, s, 1, ft, fb⟩ _).mono ?_
                rintro e w9 ⟨rfl, b9⟩
                have R9 := R6.below b9
                have I9 : InHand w vs w9 (.slice none 0 0) [] := ⟨.inl ⟨rfl, rfl⟩, fun j x hx g hg e => by cases e⟩
                go_wp2_with fail
                go_roundw
                case rel => exact ⟨q + 1, by omega, by go_num, R9, by rw [HST.out]; exact I9⟩
                case measure => simp [intOf]; omega
          · rw [show (getV wrongL 2).getD .nilFunc = .func (.func 79) #[] #[] from rfl] at LK
            have NQ := neq2
            cases c1 : (s == (k : Int) + 1)
            · have HST : Hid ((fs.take (q + 1)).foldl (stepI ((k : Int) + 1) rd) cs = ds) := by
                unfold Hid
                rw [hst.out]
                exact if_pos (.inr (.inl (beq_eq_false_iff_ne.1 c1)))
              clear hst
              go_wp2_with fail
              go_roundw
              case rel => exact ⟨q + 1, by omega, by go_num, R6, by rw [HST.out]; exact I6⟩
              case measure => simp [intOf]; omega
            · cases c2 : (r == rd)
              · have HST : Hid ((fs.take (q + 1)).foldl (stepI ((k : Int) + 1) rd) cs = ds) := by
                  unfold Hid
                  rw [hst.out]
                  exact if_pos (.inr (.inr (beq_eq_false_iff_ne.1 c2)))
                clear hst
                go_wp2_with fail
                go_roundw
                case rel => exact ⟨q + 1, by omega, by go_num, R6, by rw [HST.out]; exact I6⟩
                case measure => simp [intOf]; omega
              · have HST : Hid ((fs.take (q + 1)).foldl (stepI ((k : Int) + 1) rd) cs = spoil ⟨r, s, 2, ft, fb⟩ ds) := by
                  unfold Hid
                  rw [hst.out]
                  have d1 := beq_iff_eq.1 c1
                  have d2 := beq_iff_eq.1 c2
                  simp [stepI, d1, d2]
                clear hst
                go_wp2_with fail
                refine (spoil_any _ u12 ds ⟨r, s, 2, ft, fb⟩ _ I6.1 (by show 0 ≤ ft; omega)).mono ?_
                rintro e w9 ⟨rfl, o9, n9⟩
                obtain ⟨R9, I9⟩ := R6.turn I6 o9 n9
                go_wp2_with fail
                go_roundw
                case rel => exact ⟨q + 1, by omega, by go_num, R9, by rw [HST.out]; exact I9⟩
                case measure => simp [intOf]; omega
        · obtain rfl : q = fs.length := by omega
          rw [List.take_length] at I5
          have C := silent_any ((k : Int) + 1) rd _ fs wr (hF.below R5.bel)
          obtain ⟨ab, nb, cb, eb⟩ : ∃ a n c, u12 = .slice a n c := I5.1.rd.form
          subst eb
          cases hsl : fs.any (silB ((k : Int) + 1) rd)
          · rw [hsl] at C
            have HC := Lib.hid C
            have HO2 : Hid (oo = fs.foldl (stepI ((k : Int) + 1) rd) cs) := by unfold Hid; rw [HOL.out, hsl]; rfl
            clear C hsl
            go_wp2_with fail
            refine Calls.mono HC.out ?_
            rintro e w5 ⟨rfl, b5⟩
            have R7 := R5.below b5
            have I7 := I5.below b5
            clear R5 I5 b5
            go_wp2_with (at_builtin; refine wpList_append_own_at _ rfl _ _ 22 rfl w.heap.size 47 i0 (.slice none 0 0) 1 24 Tryz.underlying22 HI.out HZ.out HZ1.out HZ2.out rfl (by decide) _ _ _ rfl (R7.out.alloc _) ⟨w5.heap.size, 0, none⟩ 1 1 [.slice ab nb cb] rfl rfl (cell_one_new _ _ _) (by simp [Value.oneCell']) (by rw [HVL.out]; unfold maxLen; omega) (by rw [HVL.out]; omega) (by have := R7.bel.size; simp; omega) ?_; intro vo' w7 hown7 hgrow7 hnil7 hv7; clear hnil7 hv7)
            have R8 := R7.app I7 _ hown7 hgrow7
            rw [← HO2.out, ← HTK.out] at R8
            have HV2 : Hid ((vs ++ [Value.slice ab nb cb]).length = k + 1) := by unfold Hid; rw [List.length_append, HVL.out]; rfl
            clear R7 I7 hown7 hgrow7
            go_roundw
            case rel => exact ⟨k + 1, by omega, by go_num, _, HV2.out, R8⟩
            case measure => simp [intOf]; omega
          · rw [hsl] at C
            have HC := Lib.hid C
            have HO2 : Hid (oo = []) := by unfold Hid; rw [HOL.out, hsl]; rfl
            clear C hsl
            go_wp2_with fail
            refine Calls.mono HC.out ?_
            rintro e w5 ⟨rfl, b5⟩
            have R7 := R5.below b5
            have I7 : InHand w vs w5 (.slice none 0 0) [] := ⟨.inl ⟨rfl, rfl⟩, fun j x hx g hg e => by cases e⟩
            clear R5 I5 b5
            go_wp2_with (at_builtin; refine wpList_append_own_at _ rfl _ _ 22 rfl w.heap.size 47 i0 (.slice none 0 0) 1 24 Tryz.underlying22 HI.out HZ.out HZ1.out HZ2.out rfl (by decide) _ _ _ rfl (R7.out.alloc _) ⟨w5.heap.size, 0, none⟩ 1 1 [.slice none 0 0] rfl rfl (cell_one_new _ _ _) (by simp [Value.oneCell']) (by rw [HVL.out]; unfold maxLen; omega) (by rw [HVL.out]; omega) (by have := R7.bel.size; simp; omega) ?_; intro vo' w7 hown7 hgrow7 hnil7 hv7; clear hnil7 hv7)
            have R8 := R7.app I7 _ hown7 hgrow7
            rw [← HO2.out, ← HTK.out] at R8
            have HV2 : Hid ((vs ++ [Value.slice none 0 0]).length = k + 1) := by unfold Hid; rw [List.length_append, HVL.out]; rfl
            clear R7 I7 hown7 hgrow7
            go_roundw
            case rel => exact ⟨k + 1, by omega, by go_num, _, HV2.out, R8⟩
            case measure => simp [intOf]; omega
    · obtain rfl : k = css.length := by omega
      rcases owns_shape R1.out with ⟨ao, co, e⟩
      have hro := own_rd R1.out
      rw [HVL.out] at e
      subst e
      have HO := Lib.hid R1.out
      go_wp2_with fail
      refine (clipS_own2 _ _ _ _ _ HO.out).mono ?_
      rintro e w3 ⟨v3, rfl, r3, rfl⟩
      have ho := R1.outs
      rw [List.take_of_length_le (by simp)] at ho
      have HOO := Lib.hid ho
      clear ho
      go_wp2_with fail
      go_ret2
      exact ⟨v3, vs, rfl, R1.bel, r3, HOO.out⟩
theorem round_any (v u : Value) (css : List (List Int)) (fs : List Fl) (rd : Int) (w : World) (hS : RdB w v css) (hF : RdN 5 w u (fs.map rowF)) (h8 : css.length ≤ 8) (hrd : 0 ≤ rd) (hodd : fs.any (oddB css.length) = false) (hh : ∀ f ∈ fs, 0 ≤ f.h) :
    Calls Tryz.prog 8 #[v, u, .int .i64 rd] w fun e w' => ∃ vo vs, e = .returned (.tuple #[vo, .int .i64 0]) ∧ Below w.heap.size w w' ∧ Rd w' vo vs ∧ Outs w' w.heap.size vs (css.mapIdx (outI fs rd)) := by
  refine (round_own v u css fs rd w hS hF h8 hrd hodd hh).mono ?_
  rintro e w' ⟨vo, vs, he, hb, h1, h2⟩
  exact ⟨vo, vs, he, hb, h1.1, h2⟩
end Go.Proofs.YtafamnodeliaaaaGreatDoor
