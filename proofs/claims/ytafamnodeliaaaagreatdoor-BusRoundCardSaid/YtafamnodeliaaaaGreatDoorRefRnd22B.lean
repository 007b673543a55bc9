/-
  The walk of belfryref22.Round, where it does not refuse.
-/
import Derived.Test.YtafamnodeliaaaaGreatDoorRefRnd22
import Derived.RegionTactic
import Derived.Maps.AppendAt
namespace Go.Proofs.YtafamnodeliaaaaGreatDoor
open Go.RowKit
open Go

theorem spoilS_len (st rd : Int) (fs : List Fl) (cs : List Int) : (fs.foldl (spoilS st rd) cs).length = cs.length := by
  induction fs generalizing cs with
  | nil => rfl
  | cons f fs ih =>
    rw [List.foldl_cons, ih]
    unfold spoilS
    split
    · exact spoil_len _ _
    · rfl
set_option maxRecDepth 20000 in
set_option maxHeartbeats 4000000 in
theorem rround_any (v u : Value) (css : List (List Int)) (fs : List Fl) (rd : Int) (w : World) (hS : RdB w v css) (hF : RdN 5 w u (fs.map rowF)) (h8 : css.length ≤ 8) (hrd : 0 ≤ rd) (hodd : fs.any (oddB css.length) = false) (hh : ∀ f ∈ fs, 0 ≤ f.h) :
    Calls Tryz.prog 9 #[v, u, .int .i64 rd] w fun e w' => ∃ vo vs, e = .returned (.tuple #[vo, .int .i64 0]) ∧ Below w.heap.size w w' ∧ w'.ownsRow w.heap.size 47 1 vo vs.length vs ∧ Outs w' w.heap.size vs (css.mapIdx (outI fs rd)) := by
  obtain ⟨ws, hR, hl, heach⟩ := hS
  obtain ⟨a, c, rfl, hc, hm⟩ : ∃ a c, v = .slice a css.length c ∧ css.length ≤ c ∧ c ≤ 9223372036854775807 := by
    obtain ⟨a, c, e, h1, h2, _⟩ := hR
    exact ⟨a, c, by rw [e, hl], by omega, h2⟩
  obtain ⟨a2, c2, rfl, hc2, hm2⟩ := hF.shape
  rw [List.length_map] at *
  unfold maxLen at hm2
  have hno : ∀ f ∈ fs, oddB css.length f = false := fun f hf => by
    cases hob : oddB css.length f
    · rfl
    · have := List.any_eq_true.2 ⟨_, hf, hob⟩
      rw [hodd] at this
      cases this
  have hh2 : ∀ f ∈ fs, 0 ≤ f.h ∧ f.h ≤ 2 := fun f hf => by
    have h1 := hno f hf
    simp only [oddB, Bool.or_eq_false_iff, decide_eq_false_iff_not] at h1
    exact ⟨hh f hf, by omega⟩
  have hway := fun i cs => outI_ways fs rd i cs hh2
  have HNO := Lib.hid hno
  have HH2 := Lib.hid hh2
  have HWAY := Lib.hid hway
  have HF := Lib.hid hF
  have q1 : decide (8 < (css.length : Int)) = false := by simp; omega
  have q2 : decide (rd < 0) = false := by simp; omega
  obtain ⟨i0, hi, hz0, hz1, hz2⟩ := info_parts infoSB
  obtain ⟨i1, hi', hz0', hz1', hz2'⟩ := info_parts info5
  have HI := Lib.hid hi
  have HZ := Lib.hid hz0
  have HZ1 := Lib.hid hz1
  have HZ2 := Lib.hid hz2
  have GI := Lib.hid hi'
  have GZ := Lib.hid hz0'
  have GZ1 := Lib.hid hz1'
  have GZ2 := Lib.hid hz2'
  have HL := Lib.hid hl
  have HE := Lib.hid heach
  clear hodd hh hh2 hno hway hi hz0 hz1 hz2 hi' hz0' hz1' hz2' hl heach hF
  go_enter Tryz.func9, Tryz.ntmps9
  go_wp2_with fail
  go_loopw [8] (fun i wr => ∃ k : Nat, k ≤ fs.length ∧ i = .int .i64 k ∧ Below w.heap.size w wr) (fun i _ => fs.length - (intOf i).toNat)
  case atStart => exact ⟨0, by omega, rfl, Below.refl _ _⟩
  case round =>
    obtain ⟨k, hk, rfl, hb⟩ := hrel
    by_cases hlt : k < fs.length
    · obtain ⟨b, o, rfl, hcl⟩ := (HF.out.below hb).get k (by simpa using hlt)
      rw [List.getElem_map] at hcl
      have HM := Lib.hid (rmay22_any css.length fs[k] wr)
      rw [HNO.out _ (List.getElem_mem hlt)] at HM
      generalize fs[k] = f at *
      obtain ⟨r, s, h, x, b'⟩ := f
      have x0 : wr.cell? ⟨b, o + k * 5, none⟩ = some (.int .i64 r) := hcl 0 _ rfl
      have x1 : wr.cell? ⟨b, o + k * 5 + 1, none⟩ = some (.int .i64 s) := hcl 1 _ rfl
      have x2 : wr.cell? ⟨b, o + k * 5 + 2, none⟩ = some (.int .u8 h) := hcl 2 _ rfl
      have x3 : wr.cell? ⟨b, o + k * 5 + 3, none⟩ = some (.int .i64 x) := hcl 3 _ rfl
      have x4 : wr.cell? ⟨b, o + k * 5 + 4, none⟩ = some (.int .u8 b') := hcl 4 _ rfl
      clear hcl
      go_wp2_with fail
      refine Calls.mono HM.out ?_
      rintro e w1 ⟨rfl, b1⟩
      go_wp2_with fail
      go_roundw
      case rel => exact ⟨k + 1, by omega, by go_num, bnext hb b1⟩
      case measure => simp [intOf]; omega
    · obtain rfl : k = fs.length := by omega
      clear hlt
      have R0 : RJ w (.slice none 0 0) [] [] wr := ⟨hb, ⟨rfl, .inl ⟨rfl, rfl⟩⟩, Outs.nil _ _⟩
      go_wp2_with fail
      clear hb
      go_loopw [9, 10] (fun vo i wr => ∃ k : Nat, k ≤ css.length ∧ i = .int .i64 k ∧ ∃ vs, Hid (vs.length = k) ∧ RJ w vo vs ((css.mapIdx (outI fs rd)).take k) wr) (fun _ i _ => css.length - (intOf i).toNat)
      case atStart => exact ⟨0, by omega, rfl, [], rfl, R0⟩
      case round =>
        obtain ⟨k, hk, rfl, vs, HVL, R1⟩ := hrel
        clear R0
        by_cases hlt : k < css.length
        · have hkw : k < ws.length := by have := HL.out; omega
          obtain ⟨ru, hu47⟩ := HE.out k ws[k] css[k] (List.getElem?_eq_getElem (by have := HL.out; omega)) (List.getElem?_eq_getElem hlt)
          obtain ⟨bq, oq, rfl, z0⟩ := (hR.below R1.bel).at k ws[k] (List.getElem?_eq_getElem (by have := HL.out; omega))
          obtain ⟨ak, ck, ek, _⟩ := ru
          have ruk := (HE.out k ws[k] css[k] (List.getElem?_eq_getElem (by have := HL.out; omega)) (List.getElem?_eq_getElem hlt)).1.below R1.bel
          rw [ek] at z0 ruk
          have htk : (css.mapIdx (outI fs rd)).take (k + 1) = (css.mapIdx (outI fs rd)).take k ++ [outI fs rd k css[k]] := by
            rw [take_snoc _ _ (by simpa using hlt)]
            simp
          have HOL := Lib.hid (HWAY.out k css[k])
          have HTK := Lib.hid htk
          have RUK := Lib.hid ruk
          rw [List.length_map] at *
          clear htk ruk ek
          generalize outI fs rd k css[k] = oo at *
          generalize css[k] = cs at *
          go_wp2_with (at_builtin; refine wpList_append_rd _ rfl _ _ 47 rfl wr.heap.size 5 i1 (.int .u8 0) 1 Tryz.underlying47 GI.out GZ.out GZ1.out GZ2.out rfl (.slice none 0 0) 0 [] rfl ⟨rfl, .inl ⟨rfl, rfl⟩⟩ _ (by8 cs) rfl RUK.out (oc8 _ _) (by unfold maxLen; simp; omega) (by simp; omega) (Nat.le_refl _) ?_; intro v5 w5 own5 g5)
          have b5 : Below wr.heap.size wr w5 := (Below.refl _ _).grown g5 (Nat.le_refl _) (fun j hj => by cases hj)
          have R5 := R1.below b5
          rw [List.nil_append] at own5
          obtain ⟨ab, cb, rfl, hcb, hcbm⟩ := (own_rd own5).shape
          have I5 : InHand w vs w5 (.slice ab cs.length cb) cs := ⟨(OwnB.of_owns own5).mono R1.bel.size, fun j x hx g hg e => by
            have h5 := lt_of_block (R1.outs.blocks j x hx g hg).2.choose_spec
            have h6 := ((OwnB.of_owns own5).at_ g e).1
            omega⟩
          clear own5 g5 b5 R1 z0 RUK
          have C := rsilent_any ((k : Int) + 1) rd _ fs w5 (HF.out.below R5.bel)
          generalize fs.any (silB ((k : Int) + 1) rd) = sil at *
          refine C.mono ?_
          rintro e w6 ⟨rfl, b6⟩
          have R6 := R5.below b6
          have I6 := I5.below b6
          clear C R5 I5 b6
          go_wp2_with fail
          go_loopw [12, 13] (fun lo i wr => ∃ q : Nat, q ≤ fs.length ∧ i = .int .i64 q ∧ ∃ lob : Bool, lo = .bool lob ∧ Hid (lob = (sil || (fs.take q).any (lostB ((k : Int) + 1) rd))) ∧ RJ w u9 vs ((css.mapIdx (outI fs rd)).take k) wr ∧ InHand w vs wr (.slice ab cs.length cb) ((fs.take q).foldl (spoilS ((k : Int) + 1) rd) cs)) (fun _ i _ => fs.length - (intOf i).toNat)
          case atStart => exact ⟨0, by omega, rfl, sil, rfl, by simp [Hid], R6, I6⟩
          case round =>
            clear R6 I6
            obtain ⟨q, hq, rfl, lob, rfl, hlo, R7, I7⟩ := hrel
            by_cases hlt2 : q < fs.length
            · have hmem := List.getElem_mem hlt2
              have hno := HNO.out _ hmem
              obtain ⟨hh0, hh2⟩ := HH2.out _ hmem
              obtain ⟨b, o, rfl, hcl⟩ := (HF.out.below R7.bel).get q (by simpa using hlt2)
              rw [List.getElem_map] at hcl
              have hst := Lib.hid (foldl_snoc (spoilS ((k : Int) + 1) rd) cs fs q hlt2)
              have hls : Hid ((sil || (fs.take (q + 1)).any (lostB ((k : Int) + 1) rd)) = (lob || lostB ((k : Int) + 1) rd fs[q])) := by
                unfold Hid
                rw [take_snoc _ _ hlt2, List.any_append, ← Bool.or_assoc, ← hlo.out]
                simp
              have hdl : Hid (((fs.take q).foldl (spoilS ((k : Int) + 1) rd) cs).length = cs.length) := spoilS_len _ _ _ _
              generalize (fs.take q).foldl (spoilS ((k : Int) + 1) rd) cs = ds at *
              generalize fs[q] = f at *
              obtain ⟨r, s, h, x, b'⟩ := f
              simp only [oddB, Bool.or_eq_false_iff, decide_eq_false_iff_not] at hno
              obtain ⟨_, _, _, hft, _⟩ := hno
              have x0 : wr.cell? ⟨b, o + q * 5, none⟩ = some (.int .i64 r) := hcl 0 _ rfl
              have x1 : wr.cell? ⟨b, o + q * 5 + 1, none⟩ = some (.int .i64 s) := hcl 1 _ rfl
              have x2 : wr.cell? ⟨b, o + q * 5 + 2, none⟩ = some (.int .u8 h) := hcl 2 _ rfl
              have x3 : wr.cell? ⟨b, o + q * 5 + 3, none⟩ = some (.int .i64 x) := hcl 3 _ rfl
              have x4 : wr.cell? ⟨b, o + q * 5 + 4, none⟩ = some (.int .u8 b') := hcl 4 _ rfl
              have R8 := R7.below (balloc (Below.refl _ _) (.cells #[.int .i64 r, .int .i64 s, .int .u8 h, .int .i64 x, .int .u8 b'] 58 (0, 0)))
              have I8 := I7.below (balloc (Below.refl _ _) (.cells #[.int .i64 r, .int .i64 s, .int .u8 h, .int .i64 x, .int .u8 b'] 58 (0, 0)))
              clear hcl hmem R7 I7
              by_cases c1 : s = (k : Int) + 1
              case neg =>
                have e1 : (s != (k : Int) + 1) = true := by rw [bne_iff_ne]; exact c1
                have HST : Hid ((fs.take (q + 1)).foldl (spoilS ((k : Int) + 1) rd) cs = ds) := by
                  unfold Hid
                  rw [hst.out]
                  simp [spoilS, hitB, c1]
                have HLS : Hid (lob = (sil || (fs.take (q + 1)).any (lostB ((k : Int) + 1) rd))) := by
                  unfold Hid
                  rw [hls.out]
                  simp [lostB, hitB, c1]
                clear hst hls c1 hlo
                go_wp2_with fail
                go_roundw
                case rel => exact ⟨q + 1, by omega, by go_num, lob, rfl, HLS, R8, by rw [HST.out]; exact I8⟩
                case measure => simp [intOf]; omega
              have e1 : (s != (k : Int) + 1) = false := by rw [bne_eq_false_iff_eq]; exact c1
              by_cases c2 : r = rd
              case neg =>
                have e2 : (r != rd) = true := by rw [bne_iff_ne]; exact c2
                have HST : Hid ((fs.take (q + 1)).foldl (spoilS ((k : Int) + 1) rd) cs = ds) := by
                  unfold Hid
                  rw [hst.out]
                  simp [spoilS, hitB, c2]
                have HLS : Hid (lob = (sil || (fs.take (q + 1)).any (lostB ((k : Int) + 1) rd))) := by
                  unfold Hid
                  rw [hls.out]
                  simp [lostB, hitB, c2]
                clear hst hls c1 c2 hlo
                go_wp2_with fail
                go_roundw
                case rel => exact ⟨q + 1, by omega, by go_num, lob, rfl, HLS, R8, by rw [HST.out]; exact I8⟩
                case measure => simp [intOf]; omega
              have e2 : (r != rd) = false := by rw [bne_eq_false_iff_eq]; exact c2
              have key : h = 0 ∨ h = 1 ∨ h = 2 := by
                have h0 : 0 ≤ h := hh0
                have h1 : h ≤ 2 := hh2
                omega
              rcases key with rfl | rfl | rfl
              · have HST : Hid ((fs.take (q + 1)).foldl (spoilS ((k : Int) + 1) rd) cs = ds) := by unfold Hid; rw [hst.out]; simp [spoilS]
                have HLS : Hid (lob = (sil || (fs.take (q + 1)).any (lostB ((k : Int) + 1) rd))) := by unfold Hid; rw [hls.out]; simp [lostB]
                clear hst hls c1 c2 hlo
                cases lob
                all_goals
                  go_wp2_with fail
                  go_roundw
                  case rel => exact ⟨q + 1, by omega, by go_num, _, rfl, HLS, R8, by rw [HST.out]; exact I8⟩
                  case measure => simp [intOf]; omega
              · have HST : Hid ((fs.take (q + 1)).foldl (spoilS ((k : Int) + 1) rd) cs = ds) := by unfold Hid; rw [hst.out]; simp [spoilS]
                have HLS : Hid (true = (sil || (fs.take (q + 1)).any (lostB ((k : Int) + 1) rd))) := by unfold Hid; rw [hls.out]; simp [lostB, hitB, c1, c2]
                clear hst hls c1 c2 hlo
                cases lob
                all_goals
                  go_wp2_with fail
                  go_roundw
                  case rel => exact ⟨q + 1, by omega, by go_num, true, rfl, HLS, R8, by rw [HST.out]; exact I8⟩
                  case measure => simp [intOf]; omega
              · have HLS : Hid (lob = (sil || (fs.take (q + 1)).any (lostB ((k : Int) + 1) rd))) := by unfold Hid; rw [hls.out]; simp [lostB]
                have HST : Hid ((fs.take (q + 1)).foldl (spoilS ((k : Int) + 1) rd) cs = spoil ⟨r, s, 2, x, b'⟩ ds) := by unfold Hid; rw [hst.out]; simp [spoilS, hitB, c1, c2]
                clear hst hls c1 c2 hlo
                obtain ⟨x, rfl⟩ := Int.eq_ofNat_of_zero_le (show 0 ≤ x by omega)
                by_cases hpos : 0 < ds.length
                · have hj : x % ds.length < ds.length := Nat.mod_lt _ hpos
                  have hsp : spoil ⟨r, s, 2, x, b'⟩ ds = ds.set (x % ds.length) (bits .xor .u8 ds[x % ds.length] b') := by
                    unfold spoil
                    rw [dif_pos hpos]
                    simp
                  rw [hsp] at HST
                  clear hsp
                  rcases I8.1.form with ⟨e, e'⟩ | ⟨g, c', e, _, _, _⟩
                  · rw [e'] at hpos
                    cases hpos
                  · simp only [Value.slice.injEq] at e
                    obtain ⟨rfl, _, rfl⟩ := e
                    obtain ⟨y0, y1⟩ := I8.1.cellAt (x % ds.length) hj
                    have HD := Lib.hid hj
                    have HEQ : Hid (Value.slice (some ⟨g, 0, none⟩) cs.length cb = Value.slice (some ⟨g, 0, none⟩) ds.length cb) := by unfold Hid; rw [hdl.out]
                    have hdl' := hdl.out
                    rw [← hdl'] at *
                    generalize hy : ds[x % ds.length] = y at *
                    clear hy hdl hdl'
                    have q6 : decide (0 < ds.length) = true := decide_eq_true hpos
                    cases lob
                    all_goals
                      go_wp2_with fail
                      go_region
                      go_wp2_with fail
                      obtain ⟨R9, I9⟩ := R8.turn I8 (I8.1.stored (x % ds.length) (bits .xor .u8 y b')) ((Only.refl (fun k => (some g : Option Nat) = some k) _).setCell (p := ⟨g, x % ds.length, none⟩) (fun _ => rfl) _)
                      have R10 := R9.below (bdraw (Below.refl _ _) 1)
                      have I10 := I9.below (bdraw (Below.refl _ _) 1)
                      go_roundw
                      case rel => exact ⟨q + 1, by omega, by go_num, _, rfl, HLS, R10, by rw [HST.out]; exact HEQ.out ▸ I10⟩
                      case measure => simp [intOf]; omega
                · have hsp : spoil ⟨r, s, 2, x, b'⟩ ds = ds := by
                    unfold spoil
                    rw [dif_neg hpos]
                  rw [hsp] at HST
                  have q6 : decide (0 < cs.length) = false := decide_eq_false (by have := hdl.out; omega)
                  clear hsp
                  cases lob
                  all_goals
                    go_wp2_with fail
                    go_roundw
                    case rel => exact ⟨q + 1, by omega, by go_num, _, rfl, HLS, R8, by rw [HST.out]; exact I8⟩
                    case measure => simp [intOf]; omega
            · obtain rfl : q = fs.length := by omega
              have hlo' := hlo.out
              rw [List.take_length] at hlo' I7
              have hol := HOL.out
              rw [← hlo'] at hol
              cases lob
              · rw [if_neg (by simp)] at hol
                rw [← hol] at I7
                clear hol hlo' hlo HOL
                go_wp2_with (at_builtin; refine wpList_append_own_at _ rfl _ _ 22 rfl w.heap.size 47 i0 (.slice none 0 0) 1 24 Tryz.underlying22 HI.out HZ.out HZ1.out HZ2.out rfl (by decide) _ _ _ rfl (R7.out.alloc _) ⟨wr.heap.size, 0, none⟩ 1 1 [.slice ab cs.length cb] rfl rfl (cell_one_new _ _ _) (by simp [Value.oneCell']) (by rw [HVL.out]; unfold maxLen; omega) (by rw [HVL.out]; omega) (by have := R7.bel.size; simp; omega) ?_; intro vo' w7 hown7 hgrow7 hnil7 hv7; clear hnil7 hv7)
                have R8 := R7.app I7 _ hown7 hgrow7
                rw [← HTK.out] at R8
                have HV2 : Hid ((vs ++ [Value.slice ab cs.length cb]).length = k + 1) := by unfold Hid; rw [List.length_append, HVL.out]; rfl
                clear R7 I7 hown7 hgrow7
                go_roundw
                case rel => exact ⟨k + 1, by omega, by go_num, _, HV2, R8⟩
                case measure => simp [intOf]; omega
              · rw [if_pos rfl] at hol
                have I8 : InHand w vs wr (.slice none 0 0) oo := ⟨.inl ⟨rfl, hol⟩, fun j x hx g hg e => by cases e⟩
                clear hol hlo' hlo HOL I7
                go_wp2_with (at_builtin; refine wpList_append_own_at _ rfl _ _ 22 rfl w.heap.size 47 i0 (.slice none 0 0) 1 24 Tryz.underlying22 HI.out HZ.out HZ1.out HZ2.out rfl (by decide) _ _ _ rfl (R7.out.alloc _) ⟨wr.heap.size, 0, none⟩ 1 1 [.slice none 0 0] rfl rfl (cell_one_new _ _ _) (by simp [Value.oneCell']) (by rw [HVL.out]; unfold maxLen; omega) (by rw [HVL.out]; omega) (by have := R7.bel.size; simp; omega) ?_; intro vo' w7 hown7 hgrow7 hnil7 hv7; clear hnil7 hv7)
                have R8 := R7.app I8 _ hown7 hgrow7
                rw [← HTK.out] at R8
                have HV2 : Hid ((vs ++ [Value.slice none 0 0]).length = k + 1) := by unfold Hid; rw [List.length_append, HVL.out]; rfl
                clear R7 I8 hown7 hgrow7
                go_roundw
                case rel => exact ⟨k + 1, by omega, by go_num, _, HV2, R8⟩
                case measure => simp [intOf]; omega
        · obtain rfl : k = css.length := by omega
          have ho := R1.outs
          rw [List.take_of_length_le (by simp)] at ho
          have HO := Lib.hid ho
          have HB := Lib.hid R1.bel
          have HW := Lib.hid R1.out
          clear ho R1 HVL
          go_wp2_with fail
          go_ret2
          exact ⟨_, vs, rfl, HB.out, HW.out, HO.out⟩
end Go.Proofs.YtafamnodeliaaaaGreatDoor
