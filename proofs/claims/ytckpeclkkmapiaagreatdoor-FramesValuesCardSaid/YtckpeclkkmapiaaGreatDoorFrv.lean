/-
  The walks of frames.widths, bytes, sizes, Bits, Payload.
-/
import Derived.Test.YtckpeclkkmapiaaGreatDoorFrvMath
import Derived.Test.YtckpeclkkmapiaaGreatDoorMapInt
import Derived.Test.YtckpeclkkmapiaaGreatDoorMine
import Derived.Test.YtckpeclkkmapiaaGreatDoorKit3
import Derived.Test.YtckpeclkkmapiaaGreatDoorAppRd
import Derived.Deep.QuietTactic
import Derived.BigQuiet
namespace Go.Proofs.YtckpeclkkmapiaaGreatDoor
open Go.RowKit
open Go

def widL : List (Int × Value) := [(2, .int .i64 1), (1, .int .i64 64)]
theorem widths_any (w : World) : Calls Tryz.prog 33 #[] w fun e w' => e = .returned (.map (some w.heap.size)) ∧ w' = w.alloc (mapO .u8 widL) := by
  have hmm := @run_makeMap Tryz.prog
  have i1 : (Instr.mapUpdate 75 (.map (some w.heap.size)) (.int .u8 2) (.int .i64 1)).run Tryz.prog (w.alloc (.map #[] 0)) = .ok () (w.alloc (mapO .u8 [(2, .int .i64 1)])) := by
    have := run_insert_int (P := Tryz.prog) (w.alloc (mapO .u8 [])) 75 74 3 .u8 Tryz.underlying75 Tryz.underlying74 w.heap.size [] (heap_alloc_new _ _) 2 (.int .i64 1) rfl
    rwa [putObj_new] at this
  have i2 : (Instr.mapUpdate 75 (.map (some w.heap.size)) (.int .u8 1) (.int .i64 64)).run Tryz.prog (w.alloc (mapO .u8 [(2, .int .i64 1)])) = .ok () (w.alloc (mapO .u8 widL)) := by
    have := run_insert_int (P := Tryz.prog) (w.alloc (mapO .u8 [(2, .int .i64 1)])) 75 74 3 .u8 Tryz.underlying75 Tryz.underlying74 w.heap.size [(2, .int .i64 1)] (heap_alloc_new _ _) 1 (.int .i64 64) rfl
    rwa [putObj_new] at this
  go_enter Tryz.func33, Tryz.ntmps33
  go_wp2_with fail
  go_ret
  exact ⟨rfl, rfl⟩
theorem zeroI (w : World) : (zeroValue 3).run Tryz.prog w = .ok (.int .i64 0) w := by kernel_rfl
theorem getW (x : Int) : (getV widL x).getD (.int .i64 0) = .int .i64 (tyW x) := by
  unfold getV widL tyW
  by_cases h2 : x = 2
  · subst h2; rfl
  · by_cases h1 : x = 1
    · subst h1; rfl
    · have e2 : ((2 : Int) == x) = false := by rw [beq_eq_false_iff_ne]; omega
      have e1 : ((1 : Int) == x) = false := by rw [beq_eq_false_iff_ne]; omega
      simp [h1, h2, e1, e2]
theorem look_any (w : World) (bm : Nat) (h : w.heap[bm]? = some (mapO .u8 widL)) (x : Int) : (Instr.lookup 75 (.map (some bm)) (.int .u8 x) false).run Tryz.prog w = .ok (.int .i64 (tyW x)) w := by
  rw [run_lookup_int w 75 74 3 .u8 Tryz.underlying75 Tryz.underlying74 bm widL h x (.int .i64 0) (zeroI w), getW]
theorem fbytes_any (n : Nat) (w : World) (h : n ≤ 1000000) : Calls Tryz.prog 34 #[.int .i64 n] w fun e w' => e = .returned (.int .i64 ((n + 7) / 8 : Nat)) ∧ w = w' := by
  go_enter Tryz.func34, Tryz.ntmps34
  go_wp2_with fail
  go_ret
  exact ⟨rfl, rfl⟩
set_option maxHeartbeats 1000000 in
theorem sizes_any (v : Value) (ts : List Int) (w : World) (h : Rd w v (by8 ts)) (hm : ts.length ≤ 15000) :
    Calls Tryz.prog 35 #[v] w fun e w' => e = .returned (.int .i64 (sizeT ts)) ∧ Below w.heap.size w w' := by
  have HV := Lib.hid h
  obtain ⟨a, c, rfl, hc, hcm, _, _⟩ := h
  have hl : (by8 ts).length = ts.length := by simp
  rw [hl] at hc HV ⊢
  unfold maxLen at hcm
  clear hl
  go_enter Tryz.func35, Tryz.ntmps35
  go_wp2_with fail
  refine (widths_any w).mono ?_
  rintro e w1 ⟨rfl, hw1⟩
  have k1 : w1.heap[w.heap.size]? = some (mapO .u8 widL) := by rw [hw1]; exact heap_alloc_new _ _
  have B1 : Below w.heap.size w w1 := by rw [hw1]; exact balloc (Below.refl _ _) _
  clear hw1
  go_wp2_with fail
  go_loop [2, 9] (fun n i => ∃ k : Nat, k ≤ ts.length ∧ i = .int .i64 k ∧ n = .int .i64 (sizeT (ts.take k))) (fun _ i => ts.length - (intOf i).toNat)
  case atStart => exact ⟨0, by omega, rfl, rfl⟩
  case round =>
    obtain ⟨k, hk, rfl, rfl⟩ := hrel
    by_cases hlt : k < ts.length
    · obtain ⟨b, o, rfl, x0⟩ := (HV.out.below B1).get (cs := ts) k hlt
      have hs := Lib.hid (sizeT_snoc ts k hlt)
      have h1 := sizeT_le (ts.take k)
      have h2 : (ts.take k).length ≤ k := List.length_take_le _ _
      have h3 := tyW_le ts[k]
      have hl := look_any w1 _ k1 ts[k]
      generalize ts[k] = t at *
      generalize sizeT (ts.take k) = n at *
      generalize tyW t = m at *
      generalize (ts.take k).length = q at *
      go_wp2_with fail
      go_round
      case rel => exact ⟨k + 1, by omega, by go_num, by rw [hs.out]; go_num⟩
      case measure => simp [intOf]; omega
    · obtain rfl : k = ts.length := by omega
      rw [List.take_length]
      go_wp2_with fail
      go_ret
      exact ⟨rfl, B1⟩
theorem bits_any (v : Value) (ts : List Int) (w : World) (h : Rd w v (by8 ts)) (hm : ts.length ≤ 15000) :
    Calls Tryz.prog 12 #[v] w fun e w' => e = .returned (.int .i64 (8 * (13 + (((sizeT ts + 7) / 8 : Nat) : Int)))) ∧ Below w.heap.size w w' := by
  have hs := sizeT_le ts
  have S := sizes_any v ts w h hm
  generalize sizeT ts = n at *
  have HS := Lib.hid S
  have F := fun w => fbytes_any n w (by omega)
  have hq : (n + 7) / 8 ≤ 1000000 := by omega
  generalize (n + 7) / 8 = q at *
  have HF := Lib.hid F
  clear S F
  go_enter Tryz.func12, Tryz.ntmps12
  go_wp2_with fail
  refine Calls.mono HS.out ?_
  rintro e w1 ⟨rfl, b1⟩
  go_wp2_with fail
  refine (HF.out w1).mono ?_
  rintro e w2 ⟨rfl, rfl⟩
  go_wp2_with fail
  go_ret
  exact ⟨rfl, b1⟩
theorem own_mono {w : World} {base b : Nat} {e : TypeId} {v : Value} {n : Nat} {xs : List Value} (h : w.ownsRow base e 1 v n xs) (hb : b ≤ base) : w.ownsRow b e 1 v n xs := by
  refine ⟨h.1, ?_⟩
  rcases h.2 with h2 | ⟨g, c, cur, hv, hg, r⟩
  · exact .inl h2
  · exact .inr ⟨g, c, cur, hv, by omega, r⟩
/-- A number more; what is newer than the writer, and older than the call, stays. -/
theorem put_mineX (w0 : World) (pw : Nat) (L : List Bool) (n k : Nat) (wr w : World) (h : Mine w0 pw L wr) (hb : Below wr.heap.size wr w) (hn : n < 2 ^ k) (hk : k ≤ 64) (hm : L.length + k < 1000000) :
    Calls Tryz.prog 95 #[.pointer (some ⟨pw, 0, none⟩), .int .u64 n, .int .i64 k] w fun e w' => e = .returned (.int .i64 0) ∧ Mine w0 pw (L ++ nbits n k) w' ∧ ∀ b, wr.heap.size ≤ b → b < w.heap.size → w'.heap[b]? = w.heap[b]? := by
  obtain ⟨pr, v, h1, h2, h3⟩ := h
  have h3' := bnext h3 hb
  refine (put_ok _ pw pr v L n k w (h1.below hb) hn hk hm h3'.size).mono ?_
  rintro e w' ⟨rfl, v', q1, q2⟩
  refine ⟨rfl, ⟨pr, v', q1, h2, h3'.trans (q2.only.below (h1.below hb).2.foot_ge h3'.size)⟩, fun b hb1 hb2 => q2.only.block b hb2 fun hf => ?_⟩
  have := h1.2.foot_lt b hf
  omega
/-- What comes of values. -/
def PayP (l : List VT) (w : World) (e : Ending) (w' : World) : Prop :=
  Below w.heap.size w w' ∧ ((l.all chkV = false ∧ e = .returned (.tuple #[.slice none 0 0, .int .i64 1])) ∨
    (l.all chkV = true ∧ 4095 < (pack (bitsL l)).length ∧ e = .returned (.tuple #[.slice none 0 0, .int .i64 3])) ∨
    (l.all chkV = true ∧ (pack (bitsL l)).length ≤ 4095 ∧ ∃ u, e = .returned (.tuple #[u, .int .i64 0]) ∧ w'.ownsRow w.heap.size 5 1 u (pack (bitsL l)).length (by8 (iN (pack (bitsL l))))))
set_option maxHeartbeats 2000000 in
theorem payload_any (v : Value) (l : List VT) (w : World) (h : RdN 2 w v (l.map rowV)) (hm : l.length ≤ 15000) (hi : ∀ p ∈ l, -9223372036854775808 ≤ p.2 ∧ p.2 ≤ 9223372036854775807) :
    Calls Tryz.prog 21 #[v] w (PayP l w) := by
  have HV := Lib.hid h
  obtain ⟨a, c, rfl, hc, hcm⟩ := h.shape
  have hl : (l.map rowV).length = l.length := by simp
  rw [hl] at hc HV ⊢
  unfold maxLen at hcm
  have HI := Lib.hid hi
  clear hl hi h
  go_enter Tryz.func21, Tryz.ntmps21
  go_wp2_with fail
  refine (widths_any w).mono ?_
  rintro e w1 ⟨rfl, hw1⟩
  have k1 : w1.heap[w.heap.size]? = some (mapO .u8 widL) := by rw [hw1]; exact heap_alloc_new _ _
  have B1 : Below w.heap.size w w1 := by rw [hw1]; exact balloc (Below.refl _ _) _
  clear hw1
  go_wp2_with fail
  refine (new_mine w1 w1 (Below.refl _ _)).mono ?_
  rintro e w2 ⟨pw, rfl, m2, b2⟩
  go_wp2_with fail
  go_loopw [13] (fun i wr => ∃ k : Nat, k ≤ l.length ∧ i = .int .i64 k ∧ Mine w1 pw (bitsL (l.take k)) wr ∧ (l.take k).all chkV = true) (fun i _ => l.length - (intOf i).toNat)
  case atStart => exact ⟨0, by omega, rfl, m2, rfl⟩
  case round =>
    clear m2 b2
    obtain ⟨k, hk, rfl, m, hch⟩ := hrel
    by_cases hlt : k < l.length
    · obtain ⟨b, o, rfl, hcl⟩ := (HV.out.below (bnext B1 m.bel)).get k (by simpa using hlt)
      rw [List.getElem_map] at hcl
      have hp := HI.out _ (List.getElem_mem hlt)
      have hs := Lib.hid (bitsL_snoc l k hlt)
      have hsl := bitsL_len (l.take k)
      have htl : (l.take k).length ≤ k := List.length_take_le _ _
      have HALL : Hid (chkV l[k] = false → l.all chkV = false) := fun h => by
        rw [List.all_eq_false]
        exact ⟨l[k], List.getElem_mem hlt, by simp [h]⟩
      have HSN : Hid (chkV l[k] = true → (l.take (k + 1)).all chkV = true) := fun h => by
        rw [take_snoc _ _ hlt, List.all_append, hch]
        simp [h]
      have HCH := Lib.hid hch
      clear hch
      generalize l[k] = p at *
      obtain ⟨t, n⟩ := p
      have x0 : wr.cell? ⟨b, o + k * 2, none⟩ = some (.int .u8 t) := hcl 0 _ rfl
      have x1 : wr.cell? ⟨b, o + k * 2 + 1, none⟩ = some (.int .i64 n) := hcl 1 _ rfl
      have km : wr.heap[w.heap.size]? = some (mapO .u8 widL) := (m.bel.block _ (lt_of_block k1)).trans k1
      have lk := look_any (wr.alloc (.cells #[.int .u8 t, .int .i64 n] 82 (0, 0))) w.heap.size ((heap_alloc_old _ _ (lt_of_block km)).trans km) t
      clear hcl
      have BX : Below wr.heap.size wr (wr.alloc (.cells #[.int .u8 t, .int .i64 n] 82 (0, 0))) := balloc (Below.refl _ _) _
      go_wp2_with fail
      rw [un_eq n]
      by_cases hfit : un n < 2 ^ tyW t
      · refine (put_mineX w1 pw _ (un n) (tyW t) wr _ m BX hfit (tyW_le t) (by have := tyW_le t; omega)).mono ?_
        rintro e w5 ⟨rfl, m5, old5⟩
        have c5 := (old5 wr.heap.size (Nat.le_refl _) (by simp)).trans (heap_alloc_new wr (.cells #[.int .u8 t, .int .i64 n] 82 (0, 0)))
        have y0 : w5.cell? ⟨wr.heap.size, 0, none⟩ = some (.int .u8 t) := cell_of_row w5 wr.heap.size 0 _ _ _ c5
        have km5 : w5.heap[w.heap.size]? = some (mapO .u8 widL) := (m5.bel.block _ (lt_of_block k1)).trans k1
        have lk5 := look_any w5 w.heap.size km5 t
        clear lk km x0 x1 c5 km5 old5
        by_cases hz : tyW t = 0
        · rw [hz] at lk5 m5
          have hc : chkV (t, n) = false := by
            unfold tyW at hz
            split at hz
            · omega
            · split at hz
              · omega
              · rename_i h2 h1
                have e1 : (t == 1) = false := by rw [beq_eq_false_iff_ne]; exact h1
                have e2 : (t == 2) = false := by rw [beq_eq_false_iff_ne]; exact h2
                simp [chkV, e1, e2]
          have HA := Lib.hid (HALL.out hc)
          clear hz hc hfit
          go_wp2_with fail
          go_ret2
          exact ⟨bnext B1 m5.bel, .inl ⟨HA.out, rfl⟩⟩
        · have hz2 : ((tyW t : Int) == 0) = false := by rw [beq_eq_false_iff_ne]; omega
          have hc : chkV (t, n) = true := by
            unfold tyW at hz hfit
            have hu := un_eq n
            split at hz
            · rename_i h2
              rw [if_pos h2] at hfit
              have h0 : n = 0 ∨ n = 1 := by
                simp [IntKind.wrap, IntKind.bits, IntKind.signed] at hu
                omega
              subst h2
              rcases h0 with rfl | rfl <;> rfl
            · split at hz
              · rename_i h1
                subst h1
                rfl
              · omega
          have HA := Lib.hid (HSN.out hc)
          clear hz hc hfit
          go_wp2_with fail
          go_roundw
          case rel => exact ⟨k + 1, by omega, by go_num, by rw [hs.out]; exact m5, HA.out⟩
          case measure => simp [intOf]; omega
      · have hc : chkV (t, n) = false := by
          unfold tyW at hfit
          have hu := un_eq n
          have hlt64 := un_lt n
          split at hfit
          · rename_i h2
            subst h2
            have e0 : (n == 0) = false := by rw [beq_eq_false_iff_ne]; rintro rfl; simp [IntKind.wrap, IntKind.bits, IntKind.signed] at hu; omega
            have e1 : (n == 1) = false := by rw [beq_eq_false_iff_ne]; rintro rfl; simp [IntKind.wrap, IntKind.bits, IntKind.signed] at hu; omega
            simp [chkV, e0, e1]
          · split at hfit
            · omega
            · rename_i h2 h1
              have e1 : (t == 1) = false := by rw [beq_eq_false_iff_ne]; exact h1
              have e2 : (t == 2) = false := by rw [beq_eq_false_iff_ne]; exact h2
              simp [chkV, e1, e2]
        have HA := Lib.hid (HALL.out hc)
        have hne : ¬ ((un n : Nat) : Int) < 2 ^ ((tyW t : Nat) : Int).toNat := by
          rw [Int.toNat_natCast]
          intro h
          apply hfit
          have e : ((2 ^ tyW t : Nat) : Int) = 2 ^ tyW t := by simp
          omega
        refine (putno_mine w1 pw _ (un n) (tyW t) _ (m.below BX) (.inr (.inr ⟨by omega, by have := tyW_le t; omega, hne⟩))).mono ?_
        rintro e w5 ⟨rfl, m5⟩
        clear hfit hc hne
        go_wp2_with fail
        go_ret2
        exact ⟨bnext B1 m5.bel, .inl ⟨HA.out, rfl⟩⟩
    · obtain rfl : k = l.length := by omega
      rw [List.take_length] at m hch
      have HCH := Lib.hid hch
      clear hch
      go_wp2_with fail
      refine (bytes_mine w1 pw _ _ m).mono ?_
      rintro e w5 ⟨u, rfl, o5, r5, b5⟩
      have BB := bnext (bnext B1 m.bel) b5
      have HO := Lib.hid (own_mono o5 (bnext B1 m.bel).size)
      obtain ⟨a5, c5, rfl⟩ := owns_shape o5
      have hbl : (pack (bitsL l)).length ≤ 1000000 := by
        rw [pack_len]
        have := bitsL_len l
        omega
      clear o5 r5
      by_cases hbig : 4095 < (pack (bitsL l)).length
      · have H2 := Lib.hid hbig
        generalize hq : (pack (bitsL l)).length = q at *
        go_wp2_with fail
        go_ret2
        exact ⟨BB, .inr (.inl ⟨HCH.out, by rw [hq]; exact hbig, rfl⟩)⟩
      · have H2 := Lib.hid hbig
        generalize hq : (pack (bitsL l)).length = q at *
        have HQ := Lib.hid hq
        clear hq
        go_wp2_with fail
        go_ret2
        exact ⟨BB, .inr (.inr ⟨HCH.out, by rw [HQ.out]; omega, _, rfl, by rw [HQ.out]; exact HO.out⟩)⟩
end Go.Proofs.YtckpeclkkmapiaaGreatDoor
