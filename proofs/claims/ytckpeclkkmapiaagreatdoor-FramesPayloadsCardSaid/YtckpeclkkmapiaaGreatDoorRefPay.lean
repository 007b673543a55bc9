/-
  The walks of belfryref03: wide, Payload.
-/
import Derived.Test.YtckpeclkkmapiaaGreatDoorRefFrm
import Derived.Test.YtckpeclkkmapiaaGreatDoorFrv
import Derived.Deep.RegionHeld3
namespace Go.Proofs.YtckpeclkkmapiaaGreatDoor
open Go.RowKit
open Go

theorem rwide_any (t : Int) (w : World) : Calls Tryz.prog 37 #[.int .u8 t] w fun e w' => e = .returned (.int .i64 (tyW t)) ∧ w = w' := by
  have key : ((t == 2) = true ∧ tyW t = 1) ∨ ((t == 2) = false ∧ (t == 1) = true ∧ tyW t = 64) ∨ ((t == 2) = false ∧ (t == 1) = false ∧ tyW t = 0) := by
    unfold tyW
    by_cases h2 : t = 2
    · exact .inl ⟨by simp [h2], by rw [if_pos h2]⟩
    · by_cases h1 : t = 1
      · exact .inr (.inl ⟨by simp [h2], by simp [h1], by rw [if_neg h2, if_pos h1]⟩)
      · exact .inr (.inr ⟨by simp [h2], by simp [h1], by rw [if_neg h2, if_neg h1]⟩)
  rcases key with ⟨e1, e2⟩ | ⟨e1, e2, e3⟩ | ⟨e1, e2, e3⟩
  · rw [e2]
    go_enter Tryz.func37, Tryz.ntmps37
    go_wp2_with fail
    go_ret
    exact ⟨rfl, rfl⟩
  · rw [e3]
    go_enter Tryz.func37, Tryz.ntmps37
    go_wp2_with fail
    go_ret
    exact ⟨rfl, rfl⟩
  · rw [e3]
    go_enter Tryz.func37, Tryz.ntmps37
    go_wp2_with fail
    go_ret
    exact ⟨rfl, rfl⟩

theorem rput_rmK (w0 : World) (p : Nat) (L : List Bool) (n k : Nat) (w : World) (h : RM w0 p L w) (hn : n < 2 ^ k) (hk : k ≤ 64) (hm : L.length + k < 1000000) :
    Calls Tryz.prog 97 #[.pointer (some ⟨p, 0, none⟩), .int .u64 n, .int .i64 k] w fun e w' => e = .returned (.int .i64 0) ∧ RM w0 p (L ++ nbits n k) w' ∧
      ∀ (g : Nat) (c : Array Value) (t : TypeId) (fr : Nat × Nat), w.heap[g]? = some (.cells c t fr) → t ≠ 92 → t ≠ 5 → w'.heap[g]? = some (.cells c t fr) := by
  obtain ⟨v, h1, h2⟩ := h
  refine (rput_ok _ p v L n k w h1 hn hk hm h2.size).mono ?_
  rintro e w' ⟨rfl, v', q1, q2⟩
  refine ⟨rfl, ⟨v', q1, h2.trans (q2.only.below (fun k hk => (h1.foot_lt k hk).1) h2.size)⟩, fun g c t fr hg ht1 ht2 => ?_⟩
  refine (q2.only.block g (lt_of_block hg) ?_).trans hg
  rintro (rfl | hf)
  · have := h1.box.symm.trans hg
    simp only [Option.some.injEq, Obj.cells.injEq] at this
    exact ht1 this.2.1.symm
  · obtain ⟨_, c', hc'⟩ := owns_block h1.owns g hf
    have := hc'.symm.trans hg
    simp only [Option.some.injEq, Obj.cells.injEq] at this
    exact ht2 this.2.1.symm

set_option maxRecDepth 20000 in
set_option maxHeartbeats 4000000 in
theorem rpayload_any (v : Value) (l : List VT) (w : World) (h : RdN 2 w v (l.map rowV)) (hm : l.length ≤ 14000) (hi : ∀ p ∈ l, -9223372036854775808 ≤ p.2 ∧ p.2 ≤ 9223372036854775807) :
    Calls Tryz.prog 22 #[v] w (PayP l w) := by
  have HV := Lib.hid h
  obtain ⟨a, c, rfl, hc, hcm⟩ := h.shape
  have hl : (l.map rowV).length = l.length := by simp
  rw [hl] at hc HV ⊢
  unfold maxLen at hcm
  have HI := Lib.hid hi
  clear hl hi h
  have R0 := new_rm w
  go_enter Tryz.func22, Tryz.ntmps22
  go_wp2_with fail
  go_loopw [5] (fun i wr => ∃ k : Nat, k ≤ l.length ∧ i = .int .i64 k ∧ RM w w.heap.size (bitsL (l.take k)) wr ∧ (l.take k).all chkV = true) (fun i _ => l.length - (intOf i).toNat)
  case atStart => exact ⟨0, by omega, rfl, R0, rfl⟩
  case round =>
    clear R0
    obtain ⟨k, hk, rfl, m, hch⟩ := hrel
    by_cases hlt : k < l.length
    · obtain ⟨b, o, rfl, hcl⟩ := (HV.out.below m.bel).get k (by simpa using hlt)
      rw [List.getElem_map] at hcl
      have hs := Lib.hid (bitsL_snoc l k hlt)
      have hsl := bitsL_len (l.take k)
      have htl : (l.take k).length ≤ k := List.length_take_le _ _
      have HALL : Hid (chkV l[k] = false → l.all chkV = false) := fun h => by
        rw [List.all_eq_false]
        exact ⟨l[k], List.getElem_mem hlt, by simp [h]⟩
      have HSN : Hid (chkV l[k] = true → (l.take (k + 1)).all chkV = true) := fun h => by
        rw [take_snoc _ _ hlt, List.all_append, hch]
        simp [h]
      have HBL : Hid ((bitsL (l.take k)).length + 64 < 1000000) := by unfold Hid; omega
      clear hch hsl htl
      have hpi := HI.out _ (List.getElem_mem hlt)
      generalize l[k] = p at *
      obtain ⟨t, n⟩ := p
      have x0 : wr.cell? ⟨b, o + k * 2, none⟩ = some (.int .u8 t) := hcl 0 _ rfl
      have x1 : wr.cell? ⟨b, o + k * 2 + 1, none⟩ = some (.int .i64 n) := hcl 1 _ rfl
      clear hcl
      have BX : Below wr.heap.size wr (wr.alloc (.cells #[.int .u8 t, .int .i64 n] 82 (0, 0))) := balloc (Below.refl _ _) _
      have c0 : (wr.alloc (.cells #[.int .u8 t, .int .i64 n] 82 (0, 0))).cell? ⟨wr.heap.size, 0, none⟩ = some (.int .u8 t) := cell_of_row _ _ _ _ _ _ (heap_alloc_new _ _)
      have c1 : (wr.alloc (.cells #[.int .u8 t, .int .i64 n] 82 (0, 0))).cell? ⟨wr.heap.size, 1, none⟩ = some (.int .i64 n) := cell_of_row _ _ _ _ _ _ (heap_alloc_new _ _)
      have kx := heap_alloc_new wr (.cells #[.int .u8 t, .int .i64 n] 82 (0, 0))
      have mx := m.below BX
      have hkey : ((t != 1) = false ∧ chkV (t, n) = true ∧ tyW t = 64) ∨ ((t != 1) = true ∧ (t != 2) = true ∧ chkV (t, n) = false) ∨ ((t != 1) = true ∧ (t != 2) = false ∧ (n != 0) = false ∧ chkV (t, n) = true ∧ tyW t = 1) ∨ ((t != 1) = true ∧ (t != 2) = false ∧ (n != 0) = true ∧ (n != 1) = false ∧ chkV (t, n) = true ∧ tyW t = 1) ∨ ((t != 1) = true ∧ (t != 2) = false ∧ (n != 0) = true ∧ (n != 1) = true ∧ chkV (t, n) = false) := by
        unfold chkV tyW
        by_cases h1 : t = 1
        · subst h1; exact .inl ⟨rfl, rfl, rfl⟩
        · by_cases h2 : t = 2
          · subst h2
            by_cases h3 : n = 0
            · subst h3; exact .inr (.inr (.inl ⟨rfl, rfl, rfl, rfl, rfl⟩))
            · by_cases h4 : n = 1
              · subst h4; exact .inr (.inr (.inr (.inl ⟨rfl, rfl, rfl, rfl, rfl, rfl⟩)))
              · exact .inr (.inr (.inr (.inr ⟨rfl, rfl, by simp [h3], by simp [h4], by simp [h3, h4]⟩)))
          · exact .inr (.inl ⟨by simp [h1], by simp [h2], by simp [h1, h2]⟩)
      have hfit : chkV (t, n) = true → un n < 2 ^ tyW t := by
        intro h
        have hu := un_lt n
        rcases hkey with ⟨_, _, e⟩ | ⟨_, _, e⟩ | ⟨_, _, e3, _, e⟩ | ⟨_, _, _, e4, _, e⟩ | ⟨_, _, _, _, e⟩
        · rw [e]; exact hu
        · rw [h] at e; cases e
        · have : n = 0 := by simpa using e3
          subst this
          rw [e]; decide
        · have : n = 1 := by simpa using e4
          subst this
          rw [e]; decide
        · rw [h] at e; cases e
      have HFIT := Lib.hid hfit
      have HKX := Lib.hid kx
      have HMX := Lib.hid mx
      clear hfit mx
      generalize hT : tyW t = T at *
      have HT := Lib.hid hT
      have hT64 : T ≤ 64 := by rw [← hT]; exact tyW_le t
      clear hT
      rcases hkey with ⟨e1, hck, eT⟩ | ⟨e1, e2, hck⟩ | ⟨e1, e2, e3, hck, eT⟩ | ⟨e1, e2, e3, e4, hck, eT⟩ | ⟨e1, e2, e3, e4, hck⟩
      · have HC := Lib.hid hck
        have hput := rput_rmK w w.heap.size (bitsL (l.take k)) (un n) T (wr.alloc (.cells #[.int .u8 t, .int .i64 n] 82 (0, 0))).drew (HMX.out.below (bdraw (Below.refl _ _) 1)) (HFIT.out hck) hT64 (by have := HBL.out; omega)
        rw [← un_eq n] at hput
        have HPUT := Lib.hid hput
        clear hck hput eT
        have c0' : (wr.alloc (.cells #[.int .u8 t, .int .i64 n] 82 (0, 0))).drew.cell? ⟨wr.heap.size, 0, none⟩ = some (.int .u8 t) := c0
        have c1' : (wr.alloc (.cells #[.int .u8 t, .int .i64 n] 82 (0, 0))).drew.cell? ⟨wr.heap.size, 1, none⟩ = some (.int .i64 n) := c1
        go_wp2_with fail
        go_region_held3 (fun w' => w'.cell? ⟨wr.heap.size, 0, none⟩ = some (.int .u8 t) ∧ w'.cell? ⟨wr.heap.size, 1, none⟩ = some (.int .i64 n))
          (first | with_reducible exact ⟨c0', c1'⟩ | with_reducible exact E6)
          (first
            | (go_at_call 37; refine (rwide_any t _).mono ?_; rw [HT.out]; rintro e w4 ⟨rfl, rfl⟩)
            | (go_at_call 97; refine Calls.mono HPUT.out ?_; rintro e w5 ⟨rfl, m5, old5⟩; have c5 := old5 wr.heap.size _ _ _ HKX.out (by decide) (by decide); have E6 : w5.cell? ⟨wr.heap.size, 0, none⟩ = some (.int .u8 t) ∧ w5.cell? ⟨wr.heap.size, 1, none⟩ = some (.int .i64 n) := ⟨cell_of_row _ _ _ _ _ _ c5, cell_of_row _ _ _ _ _ _ c5⟩))
        have M5 := Lib.hid m5
        clear E6 c5 old5 m5 m x0 x1 c0 c1 c0' c1'
        go_wp2_with fail
        go_roundw
        case rel =>
          refine ⟨k + 1, by omega, by go_num, ?_, HSN.out HC.out⟩
          have h5 := M5.out
          rw [hs.out]
          exact h5
        case measure => simp [intOf]; omega
      · have HA := Lib.hid (HALL.out hck)
        clear hck
        go_wp2_with fail
        go_ret2
        exact ⟨bnext m.bel BX, .inl ⟨HA.out, rfl⟩⟩
      · have HC := Lib.hid hck
        have hput := rput_rmK w w.heap.size (bitsL (l.take k)) (un n) T (wr.alloc (.cells #[.int .u8 t, .int .i64 n] 82 (0, 0))).drew (HMX.out.below (bdraw (Below.refl _ _) 1)) (HFIT.out hck) hT64 (by have := HBL.out; omega)
        rw [← un_eq n] at hput
        have HPUT := Lib.hid hput
        clear hck hput eT
        have c0' : (wr.alloc (.cells #[.int .u8 t, .int .i64 n] 82 (0, 0))).drew.cell? ⟨wr.heap.size, 0, none⟩ = some (.int .u8 t) := c0
        have c1' : (wr.alloc (.cells #[.int .u8 t, .int .i64 n] 82 (0, 0))).drew.cell? ⟨wr.heap.size, 1, none⟩ = some (.int .i64 n) := c1
        go_wp2_with fail
        go_region_held3 (fun w' => w'.cell? ⟨wr.heap.size, 0, none⟩ = some (.int .u8 t) ∧ w'.cell? ⟨wr.heap.size, 1, none⟩ = some (.int .i64 n))
          (first | with_reducible exact ⟨c0', c1'⟩ | with_reducible exact E6)
          (first
            | (go_at_call 37; refine (rwide_any t _).mono ?_; rw [HT.out]; rintro e w4 ⟨rfl, rfl⟩)
            | (go_at_call 97; refine Calls.mono HPUT.out ?_; rintro e w5 ⟨rfl, m5, old5⟩; have c5 := old5 wr.heap.size _ _ _ HKX.out (by decide) (by decide); have E6 : w5.cell? ⟨wr.heap.size, 0, none⟩ = some (.int .u8 t) ∧ w5.cell? ⟨wr.heap.size, 1, none⟩ = some (.int .i64 n) := ⟨cell_of_row _ _ _ _ _ _ c5, cell_of_row _ _ _ _ _ _ c5⟩))
        have M5 := Lib.hid m5
        clear E6 c5 old5 m5 m x0 x1 c0 c1 c0' c1'
        go_wp2_with fail
        go_roundw
        case rel =>
          refine ⟨k + 1, by omega, by go_num, ?_, HSN.out HC.out⟩
          have h5 := M5.out
          rw [hs.out]
          exact h5
        case measure => simp [intOf]; omega
      · have HC := Lib.hid hck
        have hput := rput_rmK w w.heap.size (bitsL (l.take k)) (un n) T (wr.alloc (.cells #[.int .u8 t, .int .i64 n] 82 (0, 0))).drew (HMX.out.below (bdraw (Below.refl _ _) 1)) (HFIT.out hck) hT64 (by have := HBL.out; omega)
        rw [← un_eq n] at hput
        have HPUT := Lib.hid hput
        clear hck hput eT
        have c0' : (wr.alloc (.cells #[.int .u8 t, .int .i64 n] 82 (0, 0))).drew.cell? ⟨wr.heap.size, 0, none⟩ = some (.int .u8 t) := c0
        have c1' : (wr.alloc (.cells #[.int .u8 t, .int .i64 n] 82 (0, 0))).drew.cell? ⟨wr.heap.size, 1, none⟩ = some (.int .i64 n) := c1
        go_wp2_with fail
        go_region_held3 (fun w' => w'.cell? ⟨wr.heap.size, 0, none⟩ = some (.int .u8 t) ∧ w'.cell? ⟨wr.heap.size, 1, none⟩ = some (.int .i64 n))
          (first | with_reducible exact ⟨c0', c1'⟩ | with_reducible exact E6)
          (first
            | (go_at_call 37; refine (rwide_any t _).mono ?_; rw [HT.out]; rintro e w4 ⟨rfl, rfl⟩)
            | (go_at_call 97; refine Calls.mono HPUT.out ?_; rintro e w5 ⟨rfl, m5, old5⟩; have c5 := old5 wr.heap.size _ _ _ HKX.out (by decide) (by decide); have E6 : w5.cell? ⟨wr.heap.size, 0, none⟩ = some (.int .u8 t) ∧ w5.cell? ⟨wr.heap.size, 1, none⟩ = some (.int .i64 n) := ⟨cell_of_row _ _ _ _ _ _ c5, cell_of_row _ _ _ _ _ _ c5⟩))
        have M5 := Lib.hid m5
        clear E6 c5 old5 m5 m x0 x1 c0 c1 c0' c1'
        go_wp2_with fail
        go_roundw
        case rel =>
          refine ⟨k + 1, by omega, by go_num, ?_, HSN.out HC.out⟩
          have h5 := M5.out
          rw [hs.out]
          exact h5
        case measure => simp [intOf]; omega
      · have HA := Lib.hid (HALL.out hck)
        clear hck
        go_wp2_with fail
        go_ret2
        exact ⟨bnext m.bel BX, .inl ⟨HA.out, rfl⟩⟩
    · obtain rfl : k = l.length := by omega
      rw [List.take_length] at m hch
      have HCH := Lib.hid hch
      clear hch
      go_wp2_with fail
      refine (rbytes_rm w w.heap.size _ _ m).mono ?_
      rintro e w3 ⟨u, rfl, o3, _, b3⟩
      obtain ⟨au, cu, rfl⟩ := owns_shape o3
      have BW := bnext m.bel b3
      by_cases hb : 4095 < (pack (bitsL l)).length
      · have e1 : decide (4095 < ((pack (bitsL l)).length : Int)) = true := by simp; omega
        have HB := Lib.hid hb
        generalize hN : (pack (bitsL l)).length = N at *
        go_wp2_with fail
        go_ret2
        exact ⟨BW, .inr (.inl ⟨HCH.out, by rw [hN]; exact HB.out, rfl⟩)⟩
      · have e1 : decide (4095 < ((pack (bitsL l)).length : Int)) = false := by simp; omega
        have HB := Lib.hid hb
        generalize hN : (pack (bitsL l)).length = N at *
        go_wp2_with fail
        go_ret2
        have hbs := m.bel.size
        refine ⟨BW, .inr (.inr ⟨HCH.out, by rw [hN]; have := HB.out; omega, _, rfl, ?_⟩)⟩
        rw [hN]
        exact own_base o3 hbs
end Go.Proofs.YtckpeclkkmapiaaGreatDoor
