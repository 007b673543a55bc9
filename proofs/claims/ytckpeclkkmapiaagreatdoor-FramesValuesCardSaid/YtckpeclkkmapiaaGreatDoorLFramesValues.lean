/-
  The walk of FramesValues: the values that any bytes are, of any types, are the reference's, or both refuse them; how many bits they have is the same; all stay as they were, and the answers are memory of their own.
-/
import Derived.Test.YtckpeclkkmapiaaGreatDoorRefVal
import Derived.Test.YtckpeclkkmapiaaGreatDoorQuiet
import Derived.Deep.QuietTactic
import Derived.BigQuiet
import Derived.Test.YtckpeclkkmapiaaGreatDoorOpenB
import Derived.Test.YtckpeclkkmapiaaGreatDoorTwinT
import Derived.Test.YtckpeclkkmapiaaGreatDoorApBYV
namespace Go.Proofs.YtckpeclkkmapiaaGreatDoor
open Go.RowKit
open Go

set_option maxHeartbeats 1000000 in
theorem same_vals (v u : Value) (l : List VT) (w : World) (h1 : RdN 2 w v (l.map rowV)) (h2 : RdN 2 w u (l.map rowV)) :
    Calls Tryz.prog 11 #[v, u] w fun e w' => e = .returned (.bool true) ∧ Below w.heap.size w w' := by
  have H1 := Lib.hid h1
  have H2 := Lib.hid h2
  obtain ⟨a, c, rfl, hc, hcm⟩ := h1.shape
  obtain ⟨a2, c2, rfl, hc2, hcm2⟩ := h2.shape
  have hl : (l.map rowV).length = l.length := by simp
  rw [hl] at hc hc2 H1 H2 ⊢
  unfold maxLen at hcm hcm2
  clear hl h1 h2
  go_enter Tryz.func11, Tryz.ntmps11
  go_wp2_with fail
  go_loopw [5] (fun i wr => ∃ k : Nat, k ≤ l.length ∧ i = .int .i64 k ∧ Below w.heap.size w wr) (fun i _ => l.length - (intOf i).toNat)
  case atStart => exact ⟨0, by omega, rfl, Below.refl _ _⟩
  case round =>
    obtain ⟨k, hk, rfl, hb⟩ := hrel
    by_cases hlt : k < l.length
    · obtain ⟨b, o, rfl, hcl⟩ := (H1.out.below hb).get k (by simpa using hlt)
      obtain ⟨b2, o2, rfl, hcl2⟩ := (H2.out.below hb).get k (by simpa using hlt)
      rw [List.getElem_map] at hcl hcl2
      generalize l[k] = p at *
      obtain ⟨t, n⟩ := p
      have x0 : wr.cell? ⟨b, o + k * 2, none⟩ = some (.int .u8 t) := hcl 0 _ rfl
      have x1 : wr.cell? ⟨b, o + k * 2 + 1, none⟩ = some (.int .i64 n) := hcl 1 _ rfl
      have y0 : wr.cell? ⟨b2, o2 + k * 2, none⟩ = some (.int .u8 t) := hcl2 0 _ rfl
      have y1 : wr.cell? ⟨b2, o2 + k * 2 + 1, none⟩ = some (.int .i64 n) := hcl2 1 _ rfl
      clear hcl hcl2
      go_wp2_with fail
      go_quiet (fail)
      go_wp2_with fail
      go_roundw
      case rel => exact ⟨k + 1, by omega, by go_num, bdraw hb _⟩
      case measure => simp [intOf]; omega
    · obtain rfl : k = l.length := by omega
      go_wp2_with fail
      go_ret
      exact ⟨rfl, hb⟩
theorem TwinB.own {w : World} {g base : Nat} {v : Value} {cs : List Int} (h : TwinB w g v cs) (hb : base ≤ g) (hL : cs.length ≤ 140737488351232) : Own w base 5 1 v cs.length (by8 cs) := by
  obtain ⟨rfl, h⟩ := h
  refine ⟨by simp, .inr ⟨g, cs.length + 1, _, rfl, by omega, hb, h, by omega, by unfold maxLen; omega, by simp, ?_⟩⟩
  simp
/-- What a list of its own leads to lies among the new blocks. -/
theorem owns_room {w : World} {base : Nat} {e : TypeId} {sz : Nat} {v : Value} {n : Nat} {xs : List Value} (h : w.ownsRow base e sz v n xs) {g : Nat} (hg : roomOf v = some g) : base ≤ g ∧ g < w.heap.size := ⟨((Own.of_owns h).room hg).1, (Own.of_owns h).lt hg⟩

/-- No list that is held shares the room of a new one. -/
theorem ap_of {its : List It} {v : Value} {b : Nat} (h1 : ∀ it ∈ its, ∀ x, it.has x → x < b) (h2 : ∀ x, roomOf v = some x → b ≤ x) : ∀ (i : Nat) (a : It), its[i]? = some a → ∀ x, a.has x → roomOf v ≠ some x := by
  intro i a hi x hx e
  have := h1 a (List.mem_of_getElem? hi) x hx
  have := h2 x e
  omega

theorem TwinT.own {w : World} {g base : Nat} {v : Value} {l : List Int} (h : TwinT w g v l) (hb : base ≤ g) (hL : l.length ≤ 1048576) : Own w base 74 1 v l.length (by8 l) := by
  obtain ⟨rfl, h⟩ := h
  refine ⟨by simp, .inr ⟨g, l.length + 1, _, rfl, by omega, hb, h, by omega, by unfold maxLen; omega, ?_, ?_⟩⟩
  · simp
  · rw [by8_append, List.toList_toArray, List.take_append_of_le_length (by simp), List.take_of_length_le (by simp)]
theorem own_rdV {w : World} {base : Nat} {u : Value} {l : List VT} (h : w.ownsRow base 82 2 u l.length (cellsV l)) : RdN 2 w u (l.map rowV) := by
  have h' : w.ownsRow base 82 2 u (l.map rowV).length ((l.map rowV).flatten) := by
    rw [List.length_map]
    exact h
  exact own_rdN h' (fun r hr => by obtain ⟨f, _, rfl⟩ := List.mem_map.1 hr; rfl) rfl

/-- What comes of bytes and types, here and by the reference. -/
theorem val_both (bs : List Nat) (ts : List Int) (hb : NB bs) (hm : ts.length ≤ 2000) (hbm : bs.length ≤ 140737488351232) : ∃ (l : List VT) (er : Int), l.length ≤ 2000 ∧
    (∀ (v u : Value) (w : World), Rd w v (by8 (iN bs)) → Rd w u (by8 ts) → Calls Tryz.prog 9 #[v, u] w fun e w' => ∃ x, e = .returned (.tuple #[x, .int .i64 er]) ∧ w'.ownsRow w.heap.size 82 2 x l.length (cellsV l) ∧ Below w.heap.size w w') ∧
    (∀ (v u : Value) (w : World), Rd w v (by8 (iN bs)) → Rd w u (by8 ts) → Calls Tryz.prog 10 #[v, u] w fun e w' => ∃ x, e = .returned (.tuple #[x, .int .i64 er]) ∧ w'.ownsRow w.heap.size 82 2 x l.length (cellsV l) ∧ Below w.heap.size w w') := by
  have key : ∃ (l : List VT) (er : Int), l.length ≤ 2000 ∧ ∀ w e w', ValP bs ts w e w' → ∃ x, e = .returned (.tuple #[x, .int .i64 er]) ∧ w'.ownsRow w.heap.size 82 2 x l.length (cellsV l) ∧ Below w.heap.size w w' := by
    by_cases he : errV bs ts = 0
    · refine ⟨valsAt bs 0 ts, 0, by rw [valsAt_len]; exact hm, ?_⟩
      rintro w e w' ⟨b, ⟨h, _⟩ | ⟨_, x, rfl, o⟩⟩
      · exact absurd he h
      · exact ⟨x, rfl, by rw [valsAt_len]; exact o, b⟩
    · refine ⟨[], errV bs ts, by simp, ?_⟩
      rintro w e w' ⟨b, ⟨_, rfl⟩ | ⟨h, _⟩⟩
      · exact ⟨_, rfl, ⟨rfl, .inl ⟨rfl, rfl⟩⟩, b⟩
      · exact absurd h he
  obtain ⟨l, er, hl, k⟩ := key
  exact ⟨l, er, hl, fun v u w h h2 => (values_any v u bs ts w h hb h2 (by omega) hbm).mono fun e w' => k w e w', fun v u w h h2 => (rvalues_any v u bs ts w h hb h2 (by omega) hbm).mono fun e w' => k w e w'⟩

set_option maxRecDepth 20000 in
set_option maxHeartbeats 4000000 in
theorem walk_FramesValues (x y : Value) (W : World) (A : Arg Tryz.prog 22 W x) (A2 : Arg Tryz.prog 23 W y) : Calls Tryz.prog 3 #[x, y] W fun e w' => e = .returned (.bool true) ∧ Below W.heap.size W w' := by
  obtain ⟨zs, hR, hB, hlen⟩ := A.bytes
  obtain ⟨bs, rfl⟩ := iN_of zs fun z hz => (hB z hz).1
  have hNB : NB bs := fun c hc => by
    have := (hB c (List.mem_map.2 ⟨c, hc, rfl⟩)).2
    omega
  rw [iN_len] at hlen
  obtain ⟨ts, hR2, _, hlen2⟩ := A2.types
  clear A A2 hB
  have hl : (by8 (iN bs)).length = bs.length := by simp
  have hl2 : (by8 ts).length = ts.length := by simp
  have hv0 := hR
  have hv2 := hR2
  obtain ⟨a, c, rfl, hc, hcm, _, _⟩ := hR
  obtain ⟨a2, c2, rfl, hc2, hcm2, _, _⟩ := hR2
  rw [hl] at hv0 hc
  rw [hl2] at hv2 hc2
  rw [hl, hl2]
  unfold maxLen at hcm hcm2
  have HV := Lib.hid hv0
  have HU := Lib.hid hv2
  clear hv0 hv2 hl hl2
  have hL : (iN bs).length ≤ 140737488351232 := by simpa using hlen
  by_cases hbig : 100000 < bs.length
  · have e1 : decide (100000 < (bs.length : Int)) = true := by simp; omega
    go_enter Tryz.func3, Tryz.ntmps3
    go_wp2_with fail
    go_ret
    exact ⟨rfl, Below.refl _ _⟩
  have e1 : decide (100000 < (bs.length : Int)) = false := by simp; omega
  by_cases hbig2 : 2000 < ts.length
  · have e2 : decide (2000 < (ts.length : Int)) = true := by simp; omega
    go_enter Tryz.func3, Tryz.ntmps3
    go_wp2_with fail
    go_ret
    exact ⟨rfl, Below.refl _ _⟩
  have e2 : decide (2000 < (ts.length : Int)) = false := by simp; omega
  obtain ⟨l, er, hlm, P1, P2⟩ := val_both bs ts hNB (by omega) hlen
  have HP1 := Lib.hid P1
  have HP2 := Lib.hid P2
  have HBT := Lib.hid (fun v w (h : Rd w v (by8 ts)) => bits_any v ts w h (by omega))
  have HRB := Lib.hid (fun v w (h : Rd w v (by8 ts)) => rbits_any v ts w h (by omega))
  generalize sizeT ts = sz at *
  have hLt : ts.length ≤ 140737488351232 := by omega
  have hLv : l.length ≤ 1048576 := by omega
  clear P1 P2 hNB
  go_enter Tryz.func3, Tryz.ntmps3
  go_wp2_with fail
  refine (twinB_any (.slice a bs.length c) (iN bs) W HV.out hL).mono ?_
  rintro e w1 ⟨t, rfl, B1, t1⟩
  have ht : t = .slice (some ⟨W.heap.size, 0, none⟩) bs.length (bs.length + 1) := by rw [t1.1, iN_len]
  subst ht
  go_wp2_with fail
  refine (twinT_any (.slice a2 ts.length c2) ts w1 (HU.out.below B1) hLt).mono ?_
  rintro e w2 ⟨u, rfl, b2, u2⟩
  have hu := u2.1
  subst hu
  have B2 := bnext B1 b2
  have t2 := t1.below b2
  go_wp2_with fail
  refine (HP1.out _ _ w2 (t2.rd hL) (u2.rd hLt)).mono ?_
  rintro e w3 ⟨ua, rfl, oa, b3⟩
  have t3 := t2.below b3
  have u3 := u2.below b3
  go_wp2_with fail
  refine (HP1.out _ _ w3 (t3.rd hL) (u3.rd hLt)).mono ?_
  rintro e w4 ⟨ub, rfl, ob, b4⟩
  have t4 := t3.below b4
  have u4 := u3.below b4
  have B4 := bnext (bnext B2 b3) b4
  go_wp2_with fail
  refine (HP2.out (.slice a bs.length c) (.slice a2 ts.length c2) w4 (HV.out.below B4) (HU.out.below B4)).mono ?_
  rintro e w5 ⟨uw, rfl, ow, b5⟩
  have t5 := t4.below b5
  have u5 := u4.below b5
  have B5 := bnext B4 b5
  have ra := (own_rdV oa).below (bnext b4 b5)
  have rb := (own_rdV ob).below b5
  have rw' := own_rdV ow
  go_wp2_with fail
  refine (same_vals ua uw l w5 ra rw').mono ?_
  rintro e w6 ⟨rfl, b6⟩
  go_wp2_with fail
  refine (same_vals ub uw l w6 (rb.below b6) (rw'.below b6)).mono ?_
  rintro e w7 ⟨rfl, b7⟩
  have B7 := bnext b6 b7
  go_wp2_with fail
  refine (HBT.out _ w7 ((u5.below B7).rd hLt)).mono ?_
  rintro e w8 ⟨rfl, b8⟩
  have B8 := bnext B7 b8
  go_wp2_with fail
  refine (HRB.out (.slice a2 ts.length c2) w8 (HU.out.below (bnext B5 B8))).mono ?_
  rintro e w9 ⟨rfl, rfl⟩
  go_wp2_with fail
  refine (leftB_any W.heap.size (.slice (some ⟨W.heap.size, 0, none⟩) bs.length (bs.length + 1)) (.slice a bs.length c) (iN bs) w8 (t5.below B8) (HV.out.below (bnext B5 B8)) hL).mono ?_
  rintro e w10 ⟨rfl, d10, hd10⟩
  have B10 : Below w5.heap.size w5 w10 := by rw [hd10]; exact bdraw B8 d10
  clear hd10
  go_wp2_with fail
  refine (leftT_any w1.heap.size (.slice (some ⟨w1.heap.size, 0, none⟩) ts.length (ts.length + 1)) (.slice a2 ts.length c2) ts w10 (u5.below B10) (HU.out.below (bnext B5 B10)) hLt).mono ?_
  rintro e w11 ⟨rfl, d11, hd11⟩
  have B11 : Below w5.heap.size w5 w11 := by rw [hd11]; exact bdraw B10 d11
  clear hd11
  have BW := bnext B5 B11
  have s1 := B1.size
  have s2 := b2.size
  have s3 := b3.size
  have HOT := Lib.hid (((t5.below B11).own (Nat.le_refl _) hL))
  have HOU := Lib.hid (((u5.below B11).own (base := W.heap.size) s1 (by omega)))
  have HOA := Lib.hid (((Own.of_owns oa).below (bnext (bnext b4 b5) B11)).mono (base' := W.heap.size) (Nat.le_trans s1 s2))
  have HOB := Lib.hid (((Own.of_owns ob).below (bnext b5 B11)).mono (base' := W.heap.size) (Nat.le_trans (Nat.le_trans s1 s2) s3))
  have HRA := Lib.hid (fun g (h : roomOf ua = some g) => owns_room oa h)
  have HRB2 := Lib.hid (fun g (h : roomOf ub = some g) => owns_room ob h)
  clear oa ob ow b3 b4 b5 b6 b7 b8 B2 B4 B5 B7 B8 B10 B11 t1 t2 t3 t4 t5 u2 u3 u4 u5 ra rb rw'
  have BK : BkBYV W.heap.size w11.heap.size 0 [] [] [] (w11.alloc (.cells #[.int .i64 0, .slice none 0 0, .slice none 0 0, .slice none 0 0, .slice none 0 0, .slice none 0 0, .slice none 0 0, .slice none 0 0, .slice none 0 0, .slice none 0 0, .slice none 0 0, .slice none 0 0, .slice none 0 0, .slice none 0 0, .slice none 0 0, .slice none 0 0, .slice none 0 0, .slice none 0 0] 52 (0, 0))) := bkBYV_start W.heap.size w11 BW.size
  have bA := balloc (Below.refl w11.heap.size w11) (.cells #[.int .i64 0, .slice none 0 0, .slice none 0 0, .slice none 0 0, .slice none 0 0, .slice none 0 0, .slice none 0 0, .slice none 0 0, .slice none 0 0, .slice none 0 0, .slice none 0 0, .slice none 0 0, .slice none 0 0, .slice none 0 0, .slice none 0 0, .slice none 0 0, .slice none 0 0, .slice none 0 0] 52 (0, 0))
  have HT := Lib.hid (HOT.out.below bA)
  have HU2 := Lib.hid (HOU.out.below bA)
  have HA := Lib.hid (HOA.out.below bA)
  have HB := Lib.hid (HOB.out.below bA)
  have BA := Lib.hid (bnext BW bA)
  go_wp2_with fail
  clear bA HOT HOU HOA HOB BW
  generalize w11.alloc (.cells #[.int .i64 0, .slice none 0 0, .slice none 0 0, .slice none 0 0, .slice none 0 0, .slice none 0 0, .slice none 0 0, .slice none 0 0, .slice none 0 0, .slice none 0 0, .slice none 0 0, .slice none 0 0, .slice none 0 0, .slice none 0 0, .slice none 0 0, .slice none 0 0, .slice none 0 0, .slice none 0 0] 52 (0, 0)) = w12 at *
  generalize w11.heap.size = gb at *
  refine Calls.mono (bkBYV_keepByte BK (by decide) (by simp) HT.out (by simp; omega) (by simp)) ?_
  clear BK
  rintro e w13 ⟨rfl, K1, q1⟩
  go_wp2_with fail
  refine Calls.mono (bkBYV_keepType K1 (by decide) (by simp) (HU2.out.away q1 (by decide)) (by omega) (by simp)) ?_
  clear K1
  rintro e w14 ⟨rfl, K2, q2⟩
  go_wp2_with fail
  refine Calls.mono (bkBYV_keepValue K2 (by decide) (by simp) ((HA.out.away q1 (by decide)).away q2 (by decide)) (by omega) (by simp)) ?_
  clear K2
  rintro e w15 ⟨rfl, K3, q3⟩
  go_wp2_with fail
  refine Calls.mono (bkBYV_keepValue K3 (by decide) (by simp) (((HB.out.away q1 (by decide)).away q2 (by decide)).away q3 (by decide)) (by omega) ?_) ?_
  · refine ap_of (b := w3.heap.size) ?_ fun y hy => (HRB2.out y hy).1
    intro it hit y hy
    simp at hit
    subst hit
    rcases hy with hy | hy
    · exact (HRA.out y hy).2
    · cases hy
  clear K3
  rintro e w16 ⟨rfl, K4, q4⟩
  go_wp2_with fail
  refine Calls.mono (bkBYV_apart K4) ?_
  rintro e w17 ⟨rfl, bZ⟩
  go_wp2_with fail
  go_ret
  have z1 : Below W.heap.size w12 w13 := TnT.toBelow q1 BA.out.size
  have z2 : Below W.heap.size w13 w14 := TnT.toBelow q2 (Nat.le_trans BA.out.size z1.size)
  have z3 : Below W.heap.size w14 w15 := TnT.toBelow q3 (Nat.le_trans BA.out.size (Nat.le_trans z1.size z2.size))
  have z4 : Below W.heap.size w15 w16 := TnT.toBelow q4 (Nat.le_trans BA.out.size (Nat.le_trans z1.size (Nat.le_trans z2.size z3.size)))
  exact ⟨rfl, ((((BA.out.trans z1).trans z2).trans z3).trans z4).trans bZ⟩
end Go.Proofs.YtckpeclkkmapiaaGreatDoor
