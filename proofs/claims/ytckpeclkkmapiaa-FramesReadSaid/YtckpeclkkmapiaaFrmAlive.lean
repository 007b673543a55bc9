/-
  The walk of belfrylaw03.alive: it answers yes.
-/
import Derived.Test.YtckpeclkkmapiaaFrmSame
import Derived.Test.YtckpeclkkmapiaaFrvVal
namespace Go.Proofs.Ytckpeclkkmapiaa
open Go.RowKit
open Go

theorem infoV : (Try.prog.info? 49).map (·.size) = some 2 := by kernel_rfl
theorem fyes_any (w : World) : Calls Try.prog 20 #[] w fun e w' => e = .returned (.agg #[.int .u8 2, .int .i64 1]) ∧ Below w.heap.size w w' := by
  go_enter Try.func20, Try.ntmps20
  go_wp2_with fail
  exact bodyPost_ret (results_cell_row Try.results20 _ _ w.heap.size _ _ _ _ rfl (heap_alloc_new _ _) Try.underlying49 rfl infoV) rfl ⟨rfl, balloc (Below.refl _ _) _⟩
theorem fno_any (w : World) : Calls Try.prog 21 #[] w fun e w' => e = .returned (.agg #[.int .u8 2, .int .i64 0]) ∧ Below w.heap.size w w' := by
  go_enter Try.func21, Try.ntmps21
  go_wp2_with fail
  exact bodyPost_ret (results_cell_row Try.results21 _ _ w.heap.size _ _ _ _ rfl (heap_alloc_new _ _) Try.underlying49 rfl infoV) rfl ⟨rfl, balloc (Below.refl _ _) _⟩

def fr0 : Fr := ⟨1, 2, 3, 4, []⟩
theorem fr0_ok : fr0.Ok := ⟨by decide, by decide, by decide, by decide, by decide, by decide, fun c h => by cases h⟩
theorem fr0_head : fr0.head = [16, 0, 0, 0, 32, 48, 0, 64, 0] := by decide +kernel
theorem fr0_len : fr0.bytes.length = 13 := by rw [fr0.bytes_len]; rfl
theorem fr0_take : fr0.bytes.take 9 = [16, 0, 0, 0, 32, 48, 0, 64, 0] := by
  rw [← fr0_head, Fr.bytes, Fr.body, List.append_assoc, List.take_left' fr0.head_len]
/-- Get on what was put. -/
theorem get_put (f : Fr) (h : f.Ok) (v : Value) (w : World) (hv : Rd w v (by8 (iN f.bytes))) : Calls Try.prog 11 #[v] w fun e w' =>
    ∃ u, e = .returned (.tuple #[frV f.st f.rd f.mem f.md u, .int .i64 0]) ∧ w'.ownsRow w.heap.size 5 1 u f.pl.length (by8 (iN f.pl)) ∧ Below w.heap.size w w' := by
  refine (get_any v f.bytes w hv h.bytes (by rw [f.bytes_len]; have := h.len; omega)).mono ?_
  rintro e w' ⟨hb, ⟨_, u, he, ho⟩ | ⟨h0, _⟩⟩
  · rw [fr_bytes h] at he ho
    exact ⟨u, he, ho, hb⟩
  · exact absurd (err_bytes h) h0
/-- Get where it refuses. -/
theorem get_bad (bs : List Nat) (n : Nat) (hb : NB bs) (v : Value) (w : World) (hv : Rd w v (by8 (iN bs))) (hm : bs.length ≤ 140737488351232) (he : errOf bs = n) (hn : n ≠ 0) : Calls Try.prog 11 #[v] w fun e w' =>
    e = .returned (.tuple #[noFr, .int .i64 n]) ∧ Below w.heap.size w w' := by
  refine (get_any v bs w hv hb hm).mono ?_
  rintro e w' ⟨hb, ⟨h0, _⟩ | ⟨_, h1⟩⟩
  · omega
  · rw [he] at h1
    exact ⟨h1, hb⟩
theorem payload_ok (v : Value) (l : List VT) (w : World) (h : RdN 2 w v (l.map rowV)) (hm : l.length ≤ 15000) (hi : ∀ p ∈ l, -9223372036854775808 ≤ p.2 ∧ p.2 ≤ 9223372036854775807) (hc : l.all chkV = true) (h4 : (pack (bitsL l)).length ≤ 4095) :
    Calls Try.prog 16 #[v] w fun e w' => ∃ u, e = .returned (.tuple #[u, .int .i64 0]) ∧ w'.ownsRow w.heap.size 5 1 u (pack (bitsL l)).length (by8 (iN (pack (bitsL l)))) ∧ Below w.heap.size w w' := by
  refine (payload_any v l w h hm hi).mono ?_
  rintro e w' ⟨hb, ⟨h0, _⟩ | ⟨_, h0, _⟩ | ⟨_, _, u, he, ho⟩⟩
  · rw [hc] at h0; cases h0
  · omega
  · exact ⟨u, he, ho, hb⟩
theorem values_ok (v u : Value) (bs : List Nat) (ts : List Int) (w : World) (h : Rd w v (by8 (iN bs))) (hb : NB bs) (hu : Rd w u (by8 ts)) (hm : ts.length ≤ 15000) (hbm : bs.length ≤ 140737488351232) (he : errV bs ts = 0) :
    Calls Try.prog 17 #[v, u] w fun e w' => ∃ x, e = .returned (.tuple #[x, .int .i64 0]) ∧ w'.ownsRow w.heap.size 49 2 x ts.length (cellsV (valsAt bs 0 ts)) ∧ Below w.heap.size w w' := by
  refine (values_any v u bs ts w h hb hu hm hbm).mono ?_
  rintro e w' ⟨hb, ⟨h0, _⟩ | ⟨_, x, h1, h2⟩⟩
  · exact absurd he h0
  · exact ⟨x, h1, h2, hb⟩
theorem values_bad (v u : Value) (bs : List Nat) (ts : List Int) (n : Nat) (w : World) (h : Rd w v (by8 (iN bs))) (hb : NB bs) (hu : Rd w u (by8 ts)) (hm : ts.length ≤ 15000) (hbm : bs.length ≤ 140737488351232) (he : errV bs ts = n) (hn : n ≠ 0) :
    Calls Try.prog 17 #[v, u] w fun e w' => e = .returned (.tuple #[.slice none 0 0, .int .i64 n]) ∧ Below w.heap.size w w' := by
  refine (values_any v u bs ts w h hb hu hm hbm).mono ?_
  rintro e w' ⟨hb, ⟨_, h1⟩ | ⟨h0, _⟩⟩
  · rw [he] at h1
    exact ⟨h1, hb⟩
  · omega
theorem cut_h {w : World} {a : Option Addr} {n c : Nat} {xs : List Value} (h : Rd w (.slice a n c) xs) (k : Nat) (hk : k ≤ n) : Rd w (.slice a k c) (xs.take k) := by
  obtain ⟨a', c', hv, h1, h2, h3, h4⟩ := h
  simp only [Value.slice.injEq] at hv
  obtain ⟨rfl, rfl, rfl⟩ := hv
  have hl : (xs.take k).length = k := by rw [List.length_take]; omega
  refine ⟨a, c, by rw [hl], by rw [hl]; omega, h2, h3, fun i x hx => ?_⟩
  rw [List.getElem?_take] at hx
  split at hx
  · exact h4 i x hx
  · cases hx
theorem get_fr0 (v : Value) (w : World) (hv : Rd w v (by8 (iN fr0.bytes))) : Calls Try.prog 11 #[v] w fun e w' =>
    ∃ a c, e = .returned (.tuple #[.agg #[.int .i64 1, .int .u32 2, .int .u8 3, .int .u16 4, .slice a 0 c], .int .i64 0]) ∧ Below w.heap.size w w' := by
  refine (get_put fr0 fr0_ok v w hv).mono ?_
  rintro e w' ⟨u, rfl, o, b⟩
  obtain ⟨a, c, rfl⟩ := owns_shape o
  exact ⟨a, c, rfl, b⟩
theorem rdN_new2 (w : World) (l : List VT) (t : TypeId) (hm : l.length ≤ 1000000) : RdN 2 (w.alloc (.cells (cellsV l).toArray t (0, 0))) (.slice (some ⟨w.heap.size, 0, none⟩) l.length l.length) (l.map rowV) := by
  refine own_rdN (base := w.heap.size) (e := t) ⟨?_, .inr ⟨_, _, _, rfl, Nat.le_refl _, heap_alloc_new _ _, Nat.le_refl _, by simp [maxLen]; omega, ?_, ?_⟩⟩ (fun r hr => by obtain ⟨f, _, rfl⟩ := List.mem_map.1 hr; rfl) (by simp)
  · exact cellsV_len l
  · simp [cellsV_len]
  · show (cellsV l).take _ = cellsV l
    rw [List.take_of_length_le (by rw [cellsV_len]; omega)]
theorem bits12 (w : World) : Calls Try.prog 19 #[.slice (some ⟨w.heap.size, 0, none⟩) 2 2] (w.alloc (.cells #[.int .u8 1, .int .u8 2] 47 (0, 0))) fun e w' => e = .returned (.int .i64 176) ∧ Below (w.alloc (.cells #[.int .u8 1, .int .u8 2] 47 (0, 0))).heap.size (w.alloc (.cells #[.int .u8 1, .int .u8 2] 47 (0, 0))) w' :=
  bits_any _ [1, 2] _ (rd_new w (by8 [1, 2]) 47 2 2 (0, 0) rfl (by decide) (by decide)) (by decide)
set_option maxRecDepth 100000 in
set_option maxHeartbeats 4000000 in
theorem alive3_any (w : World) : Calls Try.prog 9 #[] w fun e w' => e = .returned (.bool true) ∧ Below w.heap.size w w' := by
  go_enter Try.func9, Try.ntmps9
  go_wp2_with fail
  refine (put_frame fr0 fr0_ok (.slice none 0 0) w (Rd.nil w)).mono ?_
  rintro e w1 ⟨u1, rfl, o1, b1⟩
  have r1 := own_rd o1
  rw [fr0_len] at o1
  obtain ⟨a1, c1, rfl⟩ := owns_shape o1
  have hc1 : 13 ≤ c1 := by
    obtain ⟨a', c', hv, h1, _⟩ := r1
    simp at hv
    rw [List.length_map, List.length_map, fr0_len] at h1
    omega
  have r9 := cut_h r1 9 (by decide)
  rw [← List.map_take, ← List.map_take, fr0_take] at r9
  have r12 := cut_h r1 12 (by decide)
  rw [← List.map_take, ← List.map_take] at r12
  go_wp2_with fail
  have X1 : Below w1.heap.size w1 (w1.alloc (.cells #[.int .u8 16, .int .u8 0, .int .u8 0, .int .u8 0, .int .u8 32, .int .u8 48, .int .u8 0, .int .u8 64, .int .u8 0] 5 (0, 0))) := balloc (Below.refl _ _) _
  have C1 : Calls Try.prog 14 #[.slice a1 9 c1, .slice (some ⟨w1.heap.size, 0, none⟩) 9 9] (w1.alloc (.cells #[.int .u8 16, .int .u8 0, .int .u8 0, .int .u8 0, .int .u8 32, .int .u8 48, .int .u8 0, .int .u8 64, .int .u8 0] 5 (0, 0))) fun e w' => e = .returned (.bool true) ∧ Below (w1.alloc (.cells #[.int .u8 16, .int .u8 0, .int .u8 0, .int .u8 0, .int .u8 32, .int .u8 48, .int .u8 0, .int .u8 64, .int .u8 0] 5 (0, 0))).heap.size (w1.alloc (.cells #[.int .u8 16, .int .u8 0, .int .u8 0, .int .u8 0, .int .u8 32, .int .u8 48, .int .u8 0, .int .u8 64, .int .u8 0] 5 (0, 0))) w' :=
    same_any _ _ [16, 0, 0, 0, 32, 48, 0, 64, 0] [16, 0, 0, 0, 32, 48, 0, 64, 0] _ (r9.below X1) (rd_new w1 (by8 [16, 0, 0, 0, 32, 48, 0, 64, 0]) 5 9 9 (0, 0) rfl (by decide) (by decide))
  refine C1.mono ?_
  clear C1
  rintro e w2 ⟨rfl, b2⟩
  have B2 := bnext b1 (bnext X1 b2)
  replace r1 := r1.below (bnext X1 b2)
  replace r12 := r12.below (bnext X1 b2)
  clear r9 X1 b2 b1 o1
  go_wp2_with fail
  refine (get_fr0 _ w2 r1).mono ?_
  rintro e w3 ⟨a3, c3, rfl, b3⟩
  replace r12 := r12.below b3
  have B3 := bnext B2 b3
  clear r1 B2 b3
  go_wp2_with fail
  have X3 := balloc (Below.refl w3.heap.size w3) (.cells #[.int .i64 1, .int .u32 2, .int .u8 3, .int .u16 4, .slice a3 0 c3] 26 (0, 0))
  have k3 := heap_alloc_new w3 (.cells #[.int .i64 1, .int .u32 2, .int .u8 3, .int .u16 4, .slice a3 0 c3] 26 (0, 0))
  have B4 := bnext B3 X3
  have C2 := get_bad (fr0.bytes.take 12) 4 (fr0_ok.bytes.take 12) (.slice a1 12 c1) _ (r12.below X3) (by rw [List.length_take]; omega) (err_short fr0_ok 12 (by rw [fr0_len]; decide)) (by decide)
  clear r12 X3 B3
  generalize w3.heap.size = g3 at *
  generalize w3.alloc _ = w4 at *
  unfold noFr at C2
  refine C2.mono ?_
  clear C2
  rintro e w5 ⟨rfl, b5⟩
  have k5 := (b5.block _ (lt_of_block k3)).trans k3
  have B5 := bnext B4 b5
  clear k3 b5 B4
  go_wp2_with fail
  have X6 := balloc (Below.refl w5.heap.size w5) (.cells #[.int .i64 0, .int .u32 0, .int .u8 0, .int .u16 0, .slice none 0 0] 26 (0, 0))
  have k6 := (X6.block _ (lt_of_block k5)).trans k5
  have B6 := bnext B5 X6
  clear k5 X6 B5
  have C3 : ∀ w, Calls Try.prog 10 #[.agg #[.int .i64 9, .int .u32 0, .int .u8 0, .int .u16 0, .slice none 0 0]] w fun e w' => e = .returned (.tuple #[.slice none 0 0, .int .i64 1]) ∧ Below w.heap.size w w' := fun w => put_none 9 0 0 0 none 0 0 w (by decide) (by decide)
  generalize w5.heap.size = g5 at *
  generalize w5.alloc _ = w6 at *
  refine (C3 _).mono ?_
  clear C3
  rintro e w7 ⟨rfl, b7⟩
  have k7 := (b7.block _ (lt_of_block k6)).trans k6
  have B7 := bnext B6 b7
  clear k6 b7 B6
  go_wp2_with fail
  refine (fyes_any _).mono ?_
  rintro e w8 ⟨rfl, b8⟩
  go_wp2_with fail
  refine (fno_any _).mono ?_
  rintro e w9 ⟨rfl, b9⟩
  go_wp2_with fail
  refine (fyes_any _).mono ?_
  rintro e w10 ⟨rfl, b10⟩
  have b710 := bnext (bnext b8 b9) b10
  have k10 := (b710.block _ (lt_of_block k7)).trans k7
  have B10 := bnext B7 b710
  clear k7 b710 b8 b9 b10 B7
  go_wp2_with fail
  have X11 := balloc (Below.refl w10.heap.size w10) (.cells #[.int .u8 2, .int .i64 1, .int .u8 2, .int .i64 0, .int .u8 2, .int .i64 1] 49 (0, 0))
  have k11 := (X11.block _ (lt_of_block k10)).trans k10
  have B11 := bnext B10 X11
  have C4 : Calls Try.prog 16 #[.slice (some ⟨w10.heap.size, 0, none⟩) 3 3] (w10.alloc (.cells #[.int .u8 2, .int .i64 1, .int .u8 2, .int .i64 0, .int .u8 2, .int .i64 1] 49 (0, 0))) _ :=
    payload_ok _ [(2, 1), (2, 0), (2, 1)] _ (rdN_new2 w10 [(2, 1), (2, 0), (2, 1)] 49 (by decide)) (by decide) (by decide) (by decide) (by decide)
  clear X11 k10 B10
  generalize w10.heap.size = g10 at *
  generalize w10.alloc _ = w11 at *
  refine C4.mono ?_
  clear C4
  rintro e w12 ⟨u12, rfl, o12, b12⟩
  rw [show pack (bitsL [(2, 1), (2, 0), (2, 1)]) = [160] by decide +kernel] at o12
  have r12 := own_rd o12
  obtain ⟨a12, c12, rfl⟩ := owns_shape o12
  have k12 := (b12.block _ (lt_of_block k11)).trans k11
  have B12 := bnext B11 b12
  clear k11 b12 B11 o12
  go_wp2_with fail
  have X13 := balloc (Below.refl w12.heap.size w12) (.cells #[.int .u8 2, .int .u8 2, .int .u8 2] 47 (0, 0))
  have k13 := (X13.block _ (lt_of_block k12)).trans k12
  have r13 := r12.below X13
  have B13 := bnext B12 X13
  have C5 : Calls Try.prog 17 #[.slice a12 1 c12, .slice (some ⟨w12.heap.size, 0, none⟩) 3 3] (w12.alloc (.cells #[.int .u8 2, .int .u8 2, .int .u8 2] 47 (0, 0))) _ :=
    values_ok _ _ [160] [2, 2, 2] _ r13 (by simp [NB]) (rd_new w12 (by8 [2, 2, 2]) 47 3 3 (0, 0) rfl (by decide) (by decide)) (by decide) (by decide) (by decide +kernel)
  clear X13 k12 B12 r12
  generalize w12.alloc _ = w13 at *
  refine C5.mono ?_
  clear C5
  rintro e w14 ⟨u14, rfl, o14, b14⟩
  rw [show valsAt [160] 0 [2, 2, 2] = [(2, 1), (2, 0), (2, 1)] by decide +kernel] at o14
  have r14 := own_rdN (rows := [(2, 1), (2, 0), (2, 1)].map rowV) o14 (fun r hr => by obtain ⟨f, _, rfl⟩ := List.mem_map.1 hr; rfl) rfl
  obtain ⟨a14, c14, rfl⟩ := owns_shapeN o14
  have p14 := r13.below b14
  have k14 := (b14.block _ (lt_of_block k13)).trans k13
  have B14 := bnext B13 b14
  clear k13 b14 B13 r13 o14
  go_wp2_with fail
  have X15 := balloc (Below.refl w14.heap.size w14) (.cells #[.int .u8 2, .int .u8 2] 47 (0, 0))
  have k15 := (X15.block _ (lt_of_block k14)).trans k14
  have p15 := p14.below X15
  have r15 := r14.below X15
  have B15 := bnext B14 X15
  have C6 : Calls Try.prog 17 #[.slice a12 1 c12, .slice (some ⟨w14.heap.size, 0, none⟩) 2 2] (w14.alloc (.cells #[.int .u8 2, .int .u8 2] 47 (0, 0))) _ :=
    values_bad _ _ [160] [2, 2] 5 _ p15 (by simp [NB]) (rd_new w14 (by8 [2, 2]) 47 2 2 (0, 0) rfl (by decide) (by decide)) (by decide) (by decide) (by decide +kernel) (by decide)
  clear X15 k14 B14 p14 r14
  generalize w14.alloc _ = w15 at *
  refine C6.mono ?_
  clear C6
  rintro e w16 ⟨rfl, b16⟩
  have k16 := (b16.block _ (lt_of_block k15)).trans k15
  have p16 := p15.below b16
  have r16 := r15.below b16
  have B16 := bnext B15 b16
  clear k15 b16 B15 p15 r15
  obtain ⟨b14, o14, rfl⟩ : ∃ b o, a14 = some ⟨b, o, none⟩ := by
    obtain ⟨b, o, e, _⟩ := r16.get 0 (by decide)
    exact ⟨b, o, e⟩
  have KC : Hid (∀ w', Below w16.heap.size w16 w' → w'.cell? ⟨g3, 0, none⟩ = some (.int .i64 1) ∧ w'.cell? ⟨g3, 1, none⟩ = some (.int .u32 2) ∧ w'.cell? ⟨g3, 2, none⟩ = some (.int .u8 3) ∧ w'.cell? ⟨g3, 3, none⟩ = some (.int .u16 4) ∧ w'.cell? ⟨b14, o14, none⟩ = some (.int .u8 2) ∧ w'.cell? ⟨b14, o14 + 1, none⟩ = some (.int .i64 1) ∧ w'.cell? ⟨b14, o14 + 2, none⟩ = some (.int .u8 2) ∧ w'.cell? ⟨b14, o14 + 3, none⟩ = some (.int .i64 0)) := fun w' b' => by
    obtain ⟨y0, y1, y2, y3, y4⟩ := frame_cells ((b'.block _ (lt_of_block k16)).trans k16)
    have r := r16.below b'
    obtain ⟨b, o, e, h0⟩ := r.get 0 (by decide)
    cases e
    obtain ⟨b, o, e, h1⟩ := r.get 1 (by decide)
    cases e
    exact ⟨y0, y1, y2, y3, by have := h0 0 (.int .u8 2) rfl; simpa using this, by have := h0 1 (.int .i64 1) rfl; simpa using this, by have := h1 0 (.int .u8 2) rfl; simpa using this, by have := h1 1 (.int .i64 0) rfl; simpa using this⟩
  have D0 : Below w16.heap.size w16 (w16.alloc (.cells #[.int .u8 160] 5 (0, 0))).drew := bdraw (balloc (Below.refl _ _) _) 1
  have E0 := KC.out _ (Below.refl _ _)
  have HS : Hid (Calls Try.prog 14 #[.slice a12 1 c12, .slice (some ⟨w16.heap.size, 0, none⟩) 1 1] (w16.alloc (.cells #[.int .u8 160] 5 (0, 0))).drew fun e w' => e = .returned (.bool true) ∧ Below (w16.alloc (.cells #[.int .u8 160] 5 (0, 0))).drew.heap.size (w16.alloc (.cells #[.int .u8 160] 5 (0, 0))).drew w') :=
    same_any _ _ [160] [160] _ (p16.below D0) (rd_new w16 (by8 [160]) 5 1 1 (0, 0) rfl (by decide) (by decide))
  clear k16 p16 r16
  obtain ⟨y0, y1, y2, y3, v0, v1, v2, v3⟩ := E0
  go_wp2_with fail

  dsimp only [List.append]
  go_region_held3 (fun w' => w'.cell? ⟨g3, 0, none⟩ = some (.int .i64 1) ∧ w'.cell? ⟨g3, 1, none⟩ = some (.int .u32 2) ∧ w'.cell? ⟨g3, 2, none⟩ = some (.int .u8 3) ∧ w'.cell? ⟨g3, 3, none⟩ = some (.int .u16 4) ∧ w'.cell? ⟨b14, o14, none⟩ = some (.int .u8 2) ∧ w'.cell? ⟨b14, o14 + 1, none⟩ = some (.int .i64 1) ∧ w'.cell? ⟨b14, o14 + 2, none⟩ = some (.int .u8 2) ∧ w'.cell? ⟨b14, o14 + 3, none⟩ = some (.int .i64 0))
    (first | with_reducible exact ⟨y0, y1, y2, y3, v0, v1, v2, v3⟩ | with_reducible exact E20 | with_reducible exact E19 | with_reducible exact E18 | with_reducible exact E17 | go_keep)
    (first
      | (go_at_call 14; refine Calls.mono HS.out ?_; rintro e w17 ⟨rfl, b17⟩; have D17 := bnext D0 b17; have E17 := KC.out _ D17)
      | (go_at_call 20; refine Calls.mono (fyes_any _) ?_; rintro e w18 ⟨rfl, b18⟩; have D18 := bnext D17 b18; have E18 := KC.out _ D18)
      | (go_at_call 21; refine Calls.mono (fno_any _) ?_; rintro e w19 ⟨rfl, b19⟩; have D19 := bnext D18 b19; have E19 := KC.out _ D19)
      | (go_at_call 19; refine Calls.mono (bits12 _) ?_; rintro e w20 ⟨rfl, b20⟩; have D20 := bnext (balloc D19 _) b20; have E20 := KC.out _ D20))
  go_wp2_with fail
  go_ret
  exact ⟨rfl, bnext B16 D20⟩
end Go.Proofs.Ytckpeclkkmapiaa
