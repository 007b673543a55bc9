/-
  The walk of frames.Get.
-/
import Derived.Test.YtckpeclkkmapiaaGreatDoorFrmPut
import Derived.Test.YtckpeclkkmapiaaGreatDoorFrmEq
import Derived.Laws.ResultCell
import Derived.Deep.QuietTactic
import Derived.BigQuiet
import Derived.Test.YtckpeclkkmapiaaGreatDoorQuiet
import Derived.RegionTactic
import Derived.BigRegion
namespace Go.Proofs.YtckpeclkkmapiaaGreatDoor
open Go.RowKit
open Go

/-- Results: a row in memory, and a slot. -/
theorem results_row_tmp {P : Program} {fn : Func} {p u : Tmp} {ty : TypeId} (h : fn.results = #[.cell p ty, .tmp u]) (tmps : Array Value) (w : World) (g : Nat) (t : TypeId) (cs : Array Value) (fr : Nat × Nat) (d : TypeDesc)
    (hp : tmps.getD p undef = .pointer (some ⟨g, 0, none⟩)) (hg : w.heap[g]? = some (.cells cs t fr))
    (hu : P.underlying ty = some d) (hd : (match d with | .struct _ | .array _ _ => true | _ => false) = true) (hi : (P.info? ty).map (·.size) = some cs.size) :
    (results fn tmps).run P w = .ok (.tuple #[.agg cs, tmps.getD u undef]) w := by
  rw [results_cell_tmp h, hp]
  simp [asAddr, Result.andThen, run_loadVar_row w g t ty cs fr d hg hu hd hi]
/-- What lies between the rounds: the result's box, the numbers' box. -/
def GetW (w0 : World) (a b c d e : Nat) (wr : World) : Prop :=
  Below w0.heap.size w0 wr ∧ wr.heap[w0.heap.size]? = some (.cells #[.int .i64 0, .int .u32 0, .int .u8 0, .int .u16 0, .slice none 0 0] 65 (0, 0)) ∧
    wr.heap[w0.heap.size + 1]? = some (.cells #[.int .u64 a, .int .u64 b, .int .u64 c, .int .u64 d, .int .u64 e] 93 (0, 0))
def GetR (bs : List Nat) (w0 : World) (at_ i : Value) (wr : World) : Prop :=
  (i = .int .i64 0 ∧ at_ = .int .i64 0 ∧ GetW w0 0 0 0 0 0 wr) ∨ (i = .int .i64 1 ∧ at_ = .int .i64 4 ∧ GetW w0 (getN bs 0 4) 0 0 0 0 wr) ∨
  (i = .int .i64 2 ∧ at_ = .int .i64 36 ∧ GetW w0 (getN bs 0 4) (getN bs 4 32) 0 0 0 wr) ∨ (i = .int .i64 3 ∧ at_ = .int .i64 44 ∧ GetW w0 (getN bs 0 4) (getN bs 4 32) (getN bs 36 8) 0 0 wr) ∨
  (i = .int .i64 4 ∧ at_ = .int .i64 60 ∧ GetW w0 (getN bs 0 4) (getN bs 4 32) (getN bs 36 8) (getN bs 44 16) 0 wr) ∨
  (i = .int .i64 5 ∧ at_ = .int .i64 72 ∧ GetW w0 (getN bs 0 4) (getN bs 4 32) (getN bs 36 8) (getN bs 44 16) (getN bs 60 12) wr)
def noFr : Value := .agg #[.int .i64 0, .int .u32 0, .int .u8 0, .int .u16 0, .slice none 0 0]
theorem Rd.sub {w : World} {b o n c : Nat} {xs : List Value} (h : Rd w (.slice (some ⟨b, o, none⟩) n c) xs) (i j : Nat) (hj : i + j ≤ n) : Rd w (.slice (some ⟨b, o + i, none⟩) j (c - i)) ((xs.drop i).take j) := by
  obtain ⟨a', c', hv, h1, h2, h3, h4⟩ := h
  simp only [Value.slice.injEq] at hv
  obtain ⟨rfl, rfl, rfl⟩ := hv
  have hl : ((xs.drop i).take j).length = j := by rw [List.length_take, List.length_drop]; omega
  refine ⟨_, c - i, by rw [hl], by rw [hl]; omega, by omega, by simp, fun k x hx => ⟨b, o + i, rfl, ?_⟩⟩
  rw [List.getElem?_take] at hx
  split at hx
  · rw [List.getElem?_drop] at hx
    obtain ⟨b', o', e, hc⟩ := h4 (i + k) x hx
    cases e
    rw [Nat.add_assoc]
    exact hc
  · cases hx
theorem Rd.some {w : World} {a : Option Addr} {n c : Nat} {xs : List Value} (h : Rd w (.slice a n c) xs) (hn : 0 < n) : ∃ b o, a = .some ⟨b, o, none⟩ := by
  obtain ⟨a', c', hv, h1, h2, h3, h4⟩ := h
  simp only [Value.slice.injEq] at hv
  obtain ⟨rfl, rfl, rfl⟩ := hv
  obtain ⟨b, o, e, _⟩ := h4 0 xs[0] (List.getElem?_eq_getElem hn)
  exact ⟨b, o, e⟩
theorem wrap_i64n (n : Nat) (h : n < 9223372036854775808) : IntKind.i64.wrap (n : Int) = n := by rw [IntKind.wrap_i64]; omega
theorem own_lt {w : World} {base : Nat} {e : TypeId} {v : Value} {n : Nat} {xs : List Value} (h : w.ownsRow base e 1 v n xs) (g : Nat) (hg : v.ownBlock = Option.some g) : g < w.heap.size := by
  rcases h.2 with ⟨rfl, _⟩ | ⟨g', c, cur, rfl, _, hb, _⟩
  · cases hg
  · simp only [Value.ownBlock, Option.some.injEq] at hg
    subst hg
    exact lt_of_block hb
/-- A frame stored into a box. -/
def stored (w : World) (b : Nat) (c0 c1 c2 c3 c4 : Value) : World := ((((w.setCell ⟨b, 0, none⟩ c0).setCell ⟨b, 1, none⟩ c1).setCell ⟨b, 2, none⟩ c2).setCell ⟨b, 3, none⟩ c3).setCell ⟨b, 4, none⟩ c4
theorem stored_at {w : World} {b : Nat} {d0 d1 d2 d3 d4 : Value} {t : TypeId} (h : w.heap[b]? = Option.some (.cells #[d0, d1, d2, d3, d4] t (0, 0))) (c0 c1 c2 c3 c4 : Value) : (stored w b c0 c1 c2 c3 c4).heap[b]? = Option.some (.cells #[c0, c1, c2, c3, c4] t (0, 0)) :=
  heap_setCell_same _ b 4 _ _ c4 (heap_setCell_same _ b 3 _ _ c3 (heap_setCell_same _ b 2 _ _ c2 (heap_setCell_same _ b 1 _ _ c1 (heap_setCell_same _ b 0 _ _ c0 h))))
theorem stored_other {w : World} {b g : Nat} (hg : g ≠ b) (c0 c1 c2 c3 c4 : Value) : (stored w b c0 c1 c2 c3 c4).heap[g]? = w.heap[g]? := by
  unfold stored
  rw [Below.heap_setCell _ _ _ _ hg, Below.heap_setCell _ _ _ _ hg, Below.heap_setCell _ _ _ _ hg, Below.heap_setCell _ _ _ _ hg, Below.heap_setCell _ _ _ _ hg]
theorem stored_below {B : Nat} {a w : World} {b : Nat} (h : Below B a w) (hb : B ≤ b) (c0 c1 c2 c3 c4 : Value) : Below B a (stored w b c0 c1 c2 c3 c4) :=
  ((((h.setCell (p := ⟨b, 0, none⟩) hb c0).setCell (p := ⟨b, 1, none⟩) hb c1).setCell (p := ⟨b, 2, none⟩) hb c2).setCell (p := ⟨b, 3, none⟩) hb c3).setCell (p := ⟨b, 4, none⟩) hb c4
abbrev zF : Obj := .cells #[.int .i64 0, .int .u32 0, .int .u8 0, .int .u16 0, .slice none 0 0] 65 (0, 0)
theorem infoF (a b c d e : Value) : (Tryz.prog.info? 65).map (·.size) = some (#[a, b, c, d, e] : Array Value).size := by
  show _ = some 5
  kernel_rfl
theorem get_small (v : Value) (bs : List Nat) (w : World) (h : Rd w v (by8 (iN bs))) (hl : bs.length < 13) :
    Calls Tryz.prog 25 #[v] w fun e w' => e = .returned (.tuple #[noFr, .int .i64 4]) ∧ Below w.heap.size w w' := by
  obtain ⟨a, c, rfl, hc, hcm, hn, hcell⟩ := h
  simp only [List.length_map] at *
  unfold maxLen at hcm
  clear hcell hn
  unfold noFr
  go_enter Tryz.func25, Tryz.ntmps25
  go_wp2_with fail
  exact bodyPost_ret (results_row_tmp Tryz.results25 _ _ w.heap.size _ _ _ _ rfl (heap_alloc_new _ _) Tryz.underlying65 rfl (infoF _ _ _ _ _)) rfl ⟨rfl, balloc (Below.refl _ _) _⟩

/-- What comes of bytes. -/
def GetP (bs : List Nat) (w : World) (e : Ending) (w' : World) : Prop :=
  Below w.heap.size w w' ∧ ((errOf bs = 0 ∧ ∃ u, e = .returned (.tuple #[frV (frOf bs).st (frOf bs).rd (frOf bs).mem (frOf bs).md u, .int .i64 0]) ∧ w'.ownsRow w.heap.size 5 1 u (frOf bs).pl.length (by8 (iN (frOf bs).pl))) ∨
    (errOf bs ≠ 0 ∧ e = .returned (.tuple #[noFr, .int .i64 (errOf bs)])))
theorem err_long {bs : List Nat} (h : 9 + getN bs 60 12 + 4 ≤ bs.length) : errOf bs = if getN bs 0 4 = 0 ∨ 8 < getN bs 0 4 ∨ bs.drop (9 + getN bs 60 12) ≠ sumB (bs.take (9 + getN bs 60 12)) then 5 else 0 := by
  unfold errOf
  rw [if_neg (by omega), if_neg (by omega)]
set_option maxRecDepth 20000 in
set_option maxHeartbeats 4000000 in
theorem get_long (v : Value) (bs : List Nat) (w : World) (h : Rd w v (by8 (iN bs))) (hb : NB bs) (hl : 9 + getN bs 60 12 + 4 ≤ bs.length) (hm : bs.length ≤ 140737488351232) :
    Calls Tryz.prog 25 #[v] w (GetP bs w) := by
  have HV := Lib.hid h
  obtain ⟨a, c, rfl, hc, hcm, hn, hcell⟩ := h
  simp only [List.length_map] at *
  unfold maxLen at hcm
  clear hcell hn
  have HB := Lib.hid hb
  have HERR := Lib.hid (err_long hl)
  have hn0 := getN_lt bs 60 12
  have h13 : 13 ≤ bs.length := by omega
  have HL := Lib.hid hl
  clear hb hl hn0
  go_enter Tryz.func25, Tryz.ntmps25
  go_wp2_with fail
  refine (wide_any _).mono ?_
  rintro e w1 ⟨rfl, b1⟩
  have G0 : GetW w 0 0 0 0 0 w1 := by
    refine ⟨bnext (balloc (balloc (Below.refl _ _) _) _) b1, ?_, ?_⟩
    · rw [b1.block _ (by simp; omega)]
      exact heap_alloc2_old _ _ _
    · rw [b1.block _ (by simp)]
      exact heap_alloc2_new _ _ _
  clear b1
  go_wp2_with fail
  go_loopw [5, 15] (fun at_ i wr => GetR bs w at_ i wr) (fun _ i _ => 5 - (intOf i).toNat)
  case atStart => exact .inl ⟨rfl, rfl, G0⟩
  case round =>
    clear G0
    unfold GetR at hrel
    rcases hrel with ⟨rfl, rfl, g⟩ | ⟨rfl, rfl, g⟩ | ⟨rfl, rfl, g⟩ | ⟨rfl, rfl, g⟩ | ⟨rfl, rfl, g⟩ | ⟨rfl, rfl, g⟩
    · have x1 := fun W => (ix5i W).1
      obtain ⟨g1, g2, g3⟩ := g
      go_wp2_with fail
      refine (get_ok _ bs 0 4 wr (HV.out.below g1) HB.out (by decide) (by omega) hm).mono ?_
      rintro e w5 ⟨rfl, rfl⟩
      clear x1
      have f3 := frozen_of_row wr (w.heap.size + 1) 0 _ _ g3
      have d3 : wr.cell? ⟨w.heap.size + 1, 0, none⟩ = some (.int .u64 0) := cell_of_row wr (w.heap.size + 1) 0 _ _ _ g3
      go_wp2_with fail
      exact ⟨.inr (.inl ⟨rfl, rfl, g1.setCell (p := ⟨w.heap.size + 1, 0, none⟩) (Nat.le_succ _) _, (Below.heap_setCell _ _ _ _ (Nat.ne_of_lt (Nat.lt_succ_self _))).trans g2, by rw [heap_setCell_same _ _ 0 _ _ _ g3]; rfl⟩), by simp [intOf]⟩
    · have x1 := fun W => (ix5i W).2.1
      obtain ⟨g1, g2, g3⟩ := g
      go_wp2_with fail
      refine (get_ok _ bs 4 32 wr (HV.out.below g1) HB.out (by decide) (by omega) hm).mono ?_
      rintro e w5 ⟨rfl, rfl⟩
      clear x1
      have f3 := frozen_of_row wr (w.heap.size + 1) 1 _ _ g3
      have d3 : wr.cell? ⟨w.heap.size + 1, 1, none⟩ = some (.int .u64 0) := cell_of_row wr (w.heap.size + 1) 1 _ _ _ g3
      go_wp2_with fail
      exact ⟨.inr (.inr (.inl ⟨rfl, rfl, g1.setCell (p := ⟨w.heap.size + 1, 1, none⟩) (Nat.le_succ _) _, (Below.heap_setCell _ _ _ _ (Nat.ne_of_lt (Nat.lt_succ_self _))).trans g2, by rw [heap_setCell_same _ _ 1 _ _ _ g3]; rfl⟩)), by simp [intOf]⟩
    · have x1 := fun W => (ix5i W).2.2.1
      obtain ⟨g1, g2, g3⟩ := g
      go_wp2_with fail
      refine (get_ok _ bs 36 8 wr (HV.out.below g1) HB.out (by decide) (by omega) hm).mono ?_
      rintro e w5 ⟨rfl, rfl⟩
      clear x1
      have f3 := frozen_of_row wr (w.heap.size + 1) 2 _ _ g3
      have d3 : wr.cell? ⟨w.heap.size + 1, 2, none⟩ = some (.int .u64 0) := cell_of_row wr (w.heap.size + 1) 2 _ _ _ g3
      go_wp2_with fail
      exact ⟨.inr (.inr (.inr (.inl ⟨rfl, rfl, g1.setCell (p := ⟨w.heap.size + 1, 2, none⟩) (Nat.le_succ _) _, (Below.heap_setCell _ _ _ _ (Nat.ne_of_lt (Nat.lt_succ_self _))).trans g2, by rw [heap_setCell_same _ _ 2 _ _ _ g3]; rfl⟩))), by simp [intOf]⟩
    · have x1 := fun W => (ix5i W).2.2.2.1
      obtain ⟨g1, g2, g3⟩ := g
      go_wp2_with fail
      refine (get_ok _ bs 44 16 wr (HV.out.below g1) HB.out (by decide) (by omega) hm).mono ?_
      rintro e w5 ⟨rfl, rfl⟩
      clear x1
      have f3 := frozen_of_row wr (w.heap.size + 1) 3 _ _ g3
      have d3 : wr.cell? ⟨w.heap.size + 1, 3, none⟩ = some (.int .u64 0) := cell_of_row wr (w.heap.size + 1) 3 _ _ _ g3
      go_wp2_with fail
      exact ⟨.inr (.inr (.inr (.inr (.inl ⟨rfl, rfl, g1.setCell (p := ⟨w.heap.size + 1, 3, none⟩) (Nat.le_succ _) _, (Below.heap_setCell _ _ _ _ (Nat.ne_of_lt (Nat.lt_succ_self _))).trans g2, by rw [heap_setCell_same _ _ 3 _ _ _ g3]; rfl⟩)))), by simp [intOf]⟩
    · have x1 := fun W => (ix5i W).2.2.2.2
      obtain ⟨g1, g2, g3⟩ := g
      go_wp2_with fail
      refine (get_ok _ bs 60 12 wr (HV.out.below g1) HB.out (by decide) (by omega) hm).mono ?_
      rintro e w5 ⟨rfl, rfl⟩
      clear x1
      have f3 := frozen_of_row wr (w.heap.size + 1) 4 _ _ g3
      have d3 : wr.cell? ⟨w.heap.size + 1, 4, none⟩ = some (.int .u64 0) := cell_of_row wr (w.heap.size + 1) 4 _ _ _ g3
      go_wp2_with fail
      exact ⟨.inr (.inr (.inr (.inr (.inr (⟨rfl, rfl, g1.setCell (p := ⟨w.heap.size + 1, 4, none⟩) (Nat.le_succ _) _, (Below.heap_setCell _ _ _ _ (Nat.ne_of_lt (Nat.lt_succ_self _))).trans g2, by rw [heap_setCell_same _ _ 4 _ _ _ g3]; rfl⟩))))), by simp [intOf]⟩
    · obtain ⟨g1, g2, g3⟩ := g
      have e1 := HL.out
      have c0 : wr.cell? ⟨w.heap.size + 1, 0, none⟩ = some (.int .u64 (getN bs 0 4)) := cell_of_row wr (w.heap.size + 1) 0 _ _ _ g3
      have c1 : wr.cell? ⟨w.heap.size + 1, 1, none⟩ = some (.int .u64 (getN bs 4 32)) := cell_of_row wr (w.heap.size + 1) 1 _ _ _ g3
      have c2 : wr.cell? ⟨w.heap.size + 1, 2, none⟩ = some (.int .u64 (getN bs 36 8)) := cell_of_row wr (w.heap.size + 1) 2 _ _ _ g3
      have c3 : wr.cell? ⟨w.heap.size + 1, 3, none⟩ = some (.int .u64 (getN bs 44 16)) := cell_of_row wr (w.heap.size + 1) 3 _ _ _ g3
      have c4 : wr.cell? ⟨w.heap.size + 1, 4, none⟩ = some (.int .u64 (getN bs 60 12)) := cell_of_row wr (w.heap.size + 1) 4 _ _ _ g3
      have hn := getN_lt bs 60 12
      have hst := getN_lt bs 0 4
      have hrd := getN_lt bs 4 32
      have hmem := getN_lt bs 36 8
      have hmd := getN_lt bs 44 16
      have HPL : Hid ((frOf bs).pl = (bs.drop 9).take (getN bs 60 12)) := rfl
      have HST : Hid ((frOf bs).st = getN bs 0 4) := rfl
      have HRD : Hid ((frOf bs).rd = getN bs 4 32) := rfl
      have HMEM : Hid ((frOf bs).mem = getN bs 36 8) := rfl
      have HMD : Hid ((frOf bs).md = getN bs 44 16) := rfl
      clear HL
      generalize getN bs 60 12 = n at *
      generalize getN bs 0 4 = st at *
      generalize getN bs 4 32 = rd at *
      generalize getN bs 36 8 = mem at *
      generalize getN bs 44 16 = md at *
      obtain ⟨b, o, rfl⟩ := HV.out.some (by omega)
      have HC := Lib.hid (fun w9 (b9 : Below w.heap.size w w9) => clone_any (some ⟨b, o + 9, none⟩) n (c - 9) (iN ((bs.drop 9).take n)) w9 (by
        have := (HV.out.below b9).sub 9 n (by omega)
        rw [← List.map_drop, ← List.map_take, ← List.map_drop, ← List.map_take] at this
        exact this) (by omega))
      have s1 := wrap_i64n st (by omega)
      have s2 : IntKind.u32.wrap (rd : Int) = rd := by simp [IntKind.wrap, IntKind.bits, IntKind.signed]; omega
      have s3 : IntKind.u8.wrap (mem : Int) = mem := by simp [IntKind.wrap, IntKind.bits, IntKind.signed]; omega
      have s4 : IntKind.u16.wrap (md : Int) = md := by simp [IntKind.wrap, IntKind.bits, IntKind.signed]; omega
      have t0 : (0 : Int) ≤ 9 + n := by omega
      have t1 : 9 + (n : Int) ≤ (c : Int) := by omega
      have t2 : (9 : Int) ≤ 9 + n := by omega
      have t3 : ¬ c = 9 := by omega
      have t4 : (9 + (n : Int)).toNat = 9 + n := by omega
      have GD : Below w.heap.size w wr.drew := bdraw g1 1
      have KC := Lib.hid (fun (w9 : World) (b9 : Below wr.heap.size wr w9) =>
        have h := (b9.block _ (lt_of_block g3)).trans g3
        (show w9.cell? ⟨w.heap.size + 1, 0, none⟩ = _ ∧ w9.cell? ⟨w.heap.size + 1, 1, none⟩ = _ ∧ w9.cell? ⟨w.heap.size + 1, 2, none⟩ = _ ∧ w9.cell? ⟨w.heap.size + 1, 3, none⟩ = _ from ⟨cell_of_row w9 (w.heap.size + 1) 0 _ _ _ h, cell_of_row w9 (w.heap.size + 1) 1 _ _ _ h, cell_of_row w9 (w.heap.size + 1) 2 _ _ _ h, cell_of_row w9 (w.heap.size + 1) 3 _ _ _ h⟩))
      have GA : Below w.heap.size w (wr.alloc zF).drew := bdraw (balloc g1 _) 1
      have HA := Lib.hid (fun (w9 : World) (b9 : Below (wr.alloc zF).drew.heap.size (wr.alloc zF).drew w9) =>
        (show Below wr.heap.size wr w9 ∧ w9.heap[wr.heap.size]? = some zF from ⟨bnext (bdraw (balloc (Below.refl wr.heap.size wr) _) 1) b9, (b9.block wr.heap.size (by show wr.heap.size < (wr.alloc zF).heap.size; simp)).trans (heap_alloc_new wr _)⟩))
      go_wp2_with fail
      go_region_held3 (fun w' => w'.cell? ⟨w.heap.size + 1, 0, none⟩ = some (.int .u64 st) ∧ w'.cell? ⟨w.heap.size + 1, 1, none⟩ = some (.int .u64 rd) ∧ w'.cell? ⟨w.heap.size + 1, 2, none⟩ = some (.int .u64 mem) ∧ w'.cell? ⟨w.heap.size + 1, 3, none⟩ = some (.int .u64 md))
        (first | with_reducible exact ⟨c0, c1, c2, c3⟩ | with_reducible exact E1 | with_reducible exact E6 | go_keep)
        (first
          | (go_at_call 100; (with_reducible refine Calls.mono (HC.out _ GD) ?_); rintro e w4 ⟨u, rfl, o4, n4, b4⟩; obtain ⟨a4, c4, rfl⟩ := owns_shape o4; have D4 := bnext (bdraw (Below.refl wr.heap.size wr) 1) b4; have E1 := KC.out _ D4)
          | (go_at_call 100; (with_reducible refine Calls.mono (HC.out _ GA) ?_); rintro e w4 ⟨u, rfl, o4, n4, b4⟩; obtain ⟨a4, c4, rfl⟩ := owns_shape o4; obtain ⟨D4, F4⟩ := HA.out _ b4; have E1 := KC.out _ D4; have ⟨y0, y1, y2, y3, y4⟩ := frame_cells F4; have z0 := frozen_of_row _ _ 0 _ _ F4; have z1 := frozen_of_row _ _ 1 _ _ F4; have z2 := frozen_of_row _ _ 2 _ _ F4; have z3 := frozen_of_row _ _ 3 _ _ F4; have z4 := frozen_of_row _ _ 4 _ _ F4; have D6 := ((((D4.setCell (p := ⟨wr.heap.size, 0, none⟩) (Nat.le_refl _) (.int .i64 st)).setCell (p := ⟨wr.heap.size, 1, none⟩) (Nat.le_refl _) (.int .u32 rd)).setCell (p := ⟨wr.heap.size, 2, none⟩) (Nat.le_refl _) (.int .u8 mem)).setCell (p := ⟨wr.heap.size, 3, none⟩) (Nat.le_refl _) (.int .u16 md)).setCell (p := ⟨wr.heap.size, 4, none⟩) (Nat.le_refl _) (.slice a4 n c4); have E6 := KC.out _ D6))
      · have k5 := heap_alloc_new w4 (.cells #[.int .i64 st, .int .u32 rd, .int .u8 mem, .int .u16 md, .slice a4 n c4] 65 (0, 0))
        have B5 : Below wr.heap.size wr (w4.alloc (.cells #[.int .i64 st, .int .u32 rd, .int .u8 mem, .int .u16 md, .slice a4 n c4] 65 (0, 0))) := balloc D4 _
        have o5 := own_base (b := wr.heap.size) (o4.alloc (.cells #[.int .i64 st, .int .u32 rd, .int .u8 mem, .int .u16 md, .slice a4 n c4] 65 (0, 0))) (Nat.le_refl _)
        rename_i hh
        clear hh o4 n4 b4 D4 E1
        generalize w4.alloc _ = W5 at *
        generalize w4.heap.size = gf at *
        have BW5 := bnext g1 B5
        have BD : Below w.heap.size w W5.drew := bdraw BW5 1
        have CD : Below W5.heap.size W5 W5.drew := bdraw (Below.refl _ _) 1
        have K5 := Lib.hid (fun (w9 : World) (b9 : Below W5.heap.size W5 w9) => frame_cells ((b9.block _ (lt_of_block k5)).trans k5))
        obtain ⟨x0, x1, x2, x3, x4⟩ := frame_cells k5
        have u3 : ¬ c = 9 + n := by omega
        have u4 : ¬ c = 0 := by omega
        have u1 : 9 + (n : Int) ≤ (bs.length : Int) := by omega
        have HMAY := Lib.hid (fun (w9 : World) => may_any st rd mem md a4 n c4 w9 (by omega))
        have HOF := Lib.hid (fun (w9 : World) (b9 : Below w.heap.size w w9) => of_any (.slice (some ⟨b, o, none⟩) (9 + n) c) (iN (bs.take (9 + n))) w9 (by
          have := (HV.out.below b9).sub 0 (9 + n) (by omega)
          rw [List.drop_zero, Nat.sub_zero, Nat.add_zero, ← List.map_take, ← List.map_take] at this
          exact this))
        have HNUM := Lib.hid (fun (w9 : World) => number_any (crcN (bs.take (9 + n))) w9 (crcN_lt (NB.take HB.out _)))
        have HEQ := Lib.hid (fun (w9 : World) (u : Value) (b9 : Below w.heap.size w w9) (r9 : Rd w9 u (by8 (iN (num4 (crcN (bs.take (9 + n))))))) => equal_any (.slice (some ⟨b, o + (9 + n), none⟩) (bs.length - (9 + n)) (c - (9 + n))) u (iN (bs.drop (9 + n))) _ w9 (by
          have := (HV.out.below b9).sub (9 + n) (bs.length - (9 + n)) (by omega)
          rw [← List.map_drop, ← List.map_drop, List.take_of_length_le (by simp)] at this
          exact this) r9)
        rw [crcN_eq (NB.take HB.out _)] at HOF
        by_cases hok : 1 ≤ (st : Int) ∧ (st : Int) ≤ 8 ∧ n ≤ 4095
        · rw [decide_eq_true hok] at HMAY
          by_cases heq : iN (bs.drop (9 + n)) = iN (num4 (crcN (bs.take (9 + n))))
          · rw [decide_eq_true heq] at HEQ
            have HOK := Lib.hid hok
            have HQ := Lib.hid (iN_inj heq)
            clear k5 hok heq
            go_wp2_with fail
            go_region_held3 (fun w' => w'.cell? ⟨gf, 0, none⟩ = some (.int .i64 st) ∧ w'.cell? ⟨gf, 1, none⟩ = some (.int .u32 rd) ∧ w'.cell? ⟨gf, 2, none⟩ = some (.int .u8 mem) ∧ w'.cell? ⟨gf, 3, none⟩ = some (.int .u16 md) ∧ w'.cell? ⟨gf, 4, none⟩ = some (.slice a4 n c4))
              (first | with_reducible exact ⟨x0, x1, x2, x3, x4⟩ | with_reducible exact E9 | with_reducible exact E8 | with_reducible exact E7 | with_reducible exact E6 | go_keep)
              (first
                | (go_at_call 101; refine Calls.mono (HMAY.out _) ?_; rintro e w6 ⟨rfl, b6⟩; have B6 := bnext BD b6; have C6 := bnext CD b6; have E6 := K5.out _ C6)
                | (go_at_call 104; refine Calls.mono (HOF.out _ B6) ?_; rintro e w7 ⟨rfl, b7⟩; have B7 := bnext B6 b7; have C7 := bnext C6 b7; have E7 := K5.out _ C7)
                | (go_at_call 103; refine Calls.mono (HNUM.out _) ?_; rintro e w8 ⟨v8, rfl, r8, b8⟩; have B8 := bnext B7 b8; have C8 := bnext C7 b8; have E8 := K5.out _ C8)
                | (go_at_call 102; refine Calls.mono (HEQ.out _ _ B8 r8) ?_; rintro e w9 ⟨rfl, b9⟩; have B9 := bnext B8 b9; have C9 := bnext C8 b9; have E9 := K5.out _ C9))

            have G9 := ((bnext B5 C9).block _ (lt_of_block g2)).trans g2
            obtain ⟨y0, y1, y2, y3, y4⟩ := frame_cells G9
            have z0 := frozen_of_row _ _ 0 _ _ G9
            have z1 := frozen_of_row _ _ 1 _ _ G9
            have z2 := frozen_of_row _ _ 2 _ _ G9
            have z3 := frozen_of_row _ _ 3 _ _ G9
            have z4 := frozen_of_row _ _ 4 _ _ G9
            obtain ⟨e0, e1, e2, e3, e4⟩ := E9
            clear x0 x1 x2 x3 x4
            go_wp2_with fail
            have o9 : w9.ownsRow wr.heap.size 5 1 (.slice a4 n c4) n (by8 (iN ((bs.drop 9).take n))) := ownsRow_kept o5 (fun g hg => C9.block g (own_lt o5 g hg))
            have hne : w.heap.size < wr.heap.size := lt_of_block g2
            have G10 := stored_at G9 (.int .i64 st) (.int .u32 rd) (.int .u8 mem) (.int .u16 md) (.slice a4 n c4)
            refine bodyPost_ret (results_row_tmp Tryz.results25 _ _ w.heap.size _ _ _ _ rfl G10 Tryz.underlying65 rfl (infoF _ _ _ _ _)) rfl ?_
            refine ⟨stored_below B9 (Nat.le_refl _) _ _ _ _ _, .inl ⟨?_, .slice a4 n c4, ?_, ?_⟩⟩
            · rw [HERR.out, if_neg]
              rintro (h | h | h)
              · have := HOK.out.1; omega
              · have := HOK.out.2.1; omega
              · exact h HQ.out
            · rw [HST.out, HRD.out, HMEM.out, HMD.out]
              rfl
            · have hpl : (frOf bs).pl.length = n := by rw [HPL.out, List.length_take, List.length_drop]; omega
              rw [hpl, HPL.out]
              exact own_base (ownsRow_kept o9 (fun g hg => stored_other (by have := own_ge o9 g hg; omega) _ _ _ _ _)) (Nat.le_of_lt hne)
          · rw [decide_eq_false heq] at HEQ
            have HOK := Lib.hid hok
            have HQ := Lib.hid heq
            clear k5 hok heq
            go_wp2_with fail
            go_region_held3 (fun w' => w'.cell? ⟨gf, 0, none⟩ = some (.int .i64 st) ∧ w'.cell? ⟨gf, 1, none⟩ = some (.int .u32 rd) ∧ w'.cell? ⟨gf, 2, none⟩ = some (.int .u8 mem) ∧ w'.cell? ⟨gf, 3, none⟩ = some (.int .u16 md) ∧ w'.cell? ⟨gf, 4, none⟩ = some (.slice a4 n c4))
              (first | with_reducible exact ⟨x0, x1, x2, x3, x4⟩ | with_reducible exact E9 | with_reducible exact E8 | with_reducible exact E7 | with_reducible exact E6 | go_keep)
              (first
                | (go_at_call 101; refine Calls.mono (HMAY.out _) ?_; rintro e w6 ⟨rfl, b6⟩; have B6 := bnext BD b6; have C6 := bnext CD b6; have E6 := K5.out _ C6)
                | (go_at_call 104; refine Calls.mono (HOF.out _ B6) ?_; rintro e w7 ⟨rfl, b7⟩; have B7 := bnext B6 b7; have C7 := bnext C6 b7; have E7 := K5.out _ C7)
                | (go_at_call 103; refine Calls.mono (HNUM.out _) ?_; rintro e w8 ⟨v8, rfl, r8, b8⟩; have B8 := bnext B7 b8; have C8 := bnext C7 b8; have E8 := K5.out _ C8)
                | (go_at_call 102; refine Calls.mono (HEQ.out _ _ B8 r8) ?_; rintro e w9 ⟨rfl, b9⟩; have B9 := bnext B8 b9; have C9 := bnext C8 b9; have E9 := K5.out _ C9))

            have G9 := ((bnext B5 C9).block _ (lt_of_block g2)).trans g2
            obtain ⟨y0, y1, y2, y3, y4⟩ := frame_cells G9
            have z0 := frozen_of_row _ _ 0 _ _ G9
            have z1 := frozen_of_row _ _ 1 _ _ G9
            have z2 := frozen_of_row _ _ 2 _ _ G9
            have z3 := frozen_of_row _ _ 3 _ _ G9
            have z4 := frozen_of_row _ _ 4 _ _ G9
            obtain ⟨e0, e1, e2, e3, e4⟩ := E9
            clear x0 x1 x2 x3 x4
            go_wp2_with fail
            have G10 := stored_at G9 (.int .i64 0) (.int .u32 0) (.int .u8 0) (.int .u16 0) (.slice none 0 0)
            refine bodyPost_ret (results_row_tmp Tryz.results25 _ _ w.heap.size _ _ _ _ rfl G10 Tryz.underlying65 rfl (infoF _ _ _ _ _)) rfl ?_
            have he : errOf bs = 5 := by
              rw [HERR.out, if_pos]
              exact .inr (.inr fun h => HQ.out (by rw [h]; rfl))
            exact ⟨stored_below B9 (Nat.le_refl _) _ _ _ _ _, .inr ⟨by rw [he]; decide, by rw [he]; rfl⟩⟩
        · rw [decide_eq_false hok] at HMAY
          have HOK := Lib.hid hok
          have CM : Hid (∀ w', Below W5.heap.size W5 w' → Calls Tryz.prog 101 #[.agg #[.int .i64 st, .int .u32 rd, .int .u8 mem, .int .u16 md, .slice a4 n c4]] w' fun e w'' => e = .returned (.bool false) ∧ Below W5.heap.size W5 w'') := Lib.hid (fun (w' : World) (hw : Below W5.heap.size W5 w') => (HMAY.out w').mono fun e w'' ⟨he, h⟩ => And.intro he (bnext hw h))
          have KR := Lib.hid (fun (w9 : World) (b9 : Below W5.heap.size W5 w9) => (b9.block _ (lt_of_block k5)).trans k5)
          clear k5 hok
          go_wp2_with fail
          refine wp_region_quietC (fun w' => Below W5.heap.size W5 w') (by kernel_rfl) (by kernel_rfl) CD ?_
          repeat (first
            | go_big_quiet_skip
            | (go_big_quiet_want
               first
                | (refine quiet_load _ _ rfl _ rfl _ (fun w' hw' => run_loadVar_row w' _ _ _ _ _ _ (KR.out w' hw') Tryz.underlying65 rfl (infoF _ _ _ _ _)) ?_; go_simp; go_big_quiet_on)
                | (go_big_quiet_op; go_big_quiet_on)
                | (go_big_quiet_op; apply Exists.intro; refine ⟨fun w' hw' => ?_, ?_⟩; (first | with_reducible exact rfl | with_reducible exact CM.out w' hw'); go_big_quiet_on)))
          refine wpQuiet_nil ?_
          intro w6 C6
          have E6 := K5.out _ C6
          have G9 := ((bnext B5 C6).block _ (lt_of_block g2)).trans g2
          obtain ⟨y0, y1, y2, y3, y4⟩ := frame_cells G9
          have z0 := frozen_of_row _ _ 0 _ _ G9
          have z1 := frozen_of_row _ _ 1 _ _ G9
          have z2 := frozen_of_row _ _ 2 _ _ G9
          have z3 := frozen_of_row _ _ 3 _ _ G9
          have z4 := frozen_of_row _ _ 4 _ _ G9
          obtain ⟨e0, e1, e2, e3, e4⟩ := E6
          clear x0 x1 x2 x3 x4
          go_wp2_with fail
          have G10 := stored_at G9 (.int .i64 0) (.int .u32 0) (.int .u8 0) (.int .u16 0) (.slice none 0 0)
          refine bodyPost_ret (results_row_tmp Tryz.results25 _ _ w.heap.size _ _ _ _ rfl G10 Tryz.underlying65 rfl (infoF _ _ _ _ _)) rfl ?_
          have he : errOf bs = 5 := by
            rw [HERR.out, if_pos]
            have := HOK.out
            omega
          exact ⟨stored_below (bnext BW5 C6) (Nat.le_refl _) _ _ _ _ _, .inr ⟨by rw [he]; decide, by rw [he]; rfl⟩⟩
      · have k5 : (((((w4.setCell ⟨wr.heap.size, 0, none⟩ (.int .i64 st)).setCell ⟨wr.heap.size, 1, none⟩ (.int .u32 rd)).setCell ⟨wr.heap.size, 2, none⟩ (.int .u8 mem)).setCell ⟨wr.heap.size, 3, none⟩ (.int .u16 md)).setCell ⟨wr.heap.size, 4, none⟩ (.slice a4 n c4)).heap[wr.heap.size]? = some (.cells #[.int .i64 st, .int .u32 rd, .int .u8 mem, .int .u16 md, .slice a4 n c4] 65 (0, 0)) := heap_setCell_same _ wr.heap.size 4 _ _ (.slice a4 n c4) (heap_setCell_same _ wr.heap.size 3 _ _ (.int .u16 md) (heap_setCell_same _ wr.heap.size 2 _ _ (.int .u8 mem) (heap_setCell_same _ wr.heap.size 1 _ _ (.int .u32 rd) (heap_setCell_same _ wr.heap.size 0 _ _ (.int .i64 st) F4))))
        have o5 : w4.ownsRow wr.heap.size 5 1 (.slice a4 n c4) n _ := own_base o4 (by show wr.heap.size ≤ (wr.alloc zF).heap.size; simp)
        replace o5 := ownsRow_kept (w' := ((((w4.setCell ⟨wr.heap.size, 0, none⟩ (.int .i64 st)).setCell ⟨wr.heap.size, 1, none⟩ (.int .u32 rd)).setCell ⟨wr.heap.size, 2, none⟩ (.int .u8 mem)).setCell ⟨wr.heap.size, 3, none⟩ (.int .u16 md)).setCell ⟨wr.heap.size, 4, none⟩ (.slice a4 n c4)) o5 (fun g hg => by
          have hne : g ≠ wr.heap.size := by
            have h1 : (wr.alloc zF).drew.heap.size ≤ g := own_ge o4 g hg
            have h2 : (wr.alloc zF).drew.heap.size = wr.heap.size + 1 := by show (wr.alloc zF).heap.size = _; simp
            omega
          rw [Below.heap_setCell _ _ _ _ hne, Below.heap_setCell _ _ _ _ hne, Below.heap_setCell _ _ _ _ hne, Below.heap_setCell _ _ _ _ hne, Below.heap_setCell _ _ _ _ hne])
        have B5 : Below wr.heap.size wr (((((w4.setCell ⟨wr.heap.size, 0, none⟩ (.int .i64 st)).setCell ⟨wr.heap.size, 1, none⟩ (.int .u32 rd)).setCell ⟨wr.heap.size, 2, none⟩ (.int .u8 mem)).setCell ⟨wr.heap.size, 3, none⟩ (.int .u16 md)).setCell ⟨wr.heap.size, 4, none⟩ (.slice a4 n c4)) := D6
        rename_i hh
        clear hh o4 n4 b4 D4 E1 D6 E6 F4 y0 y1 y2 y3 y4 z0 z1 z2 z3 z4
        generalize World.setCell _ ⟨wr.heap.size, 4, none⟩ _ = W5 at *
        generalize wr.heap.size = gf at k5 ⊢
        have BW5 := bnext g1 B5
        have BD : Below w.heap.size w W5.drew := bdraw BW5 1
        have CD : Below W5.heap.size W5 W5.drew := bdraw (Below.refl _ _) 1
        have K5 := Lib.hid (fun (w9 : World) (b9 : Below W5.heap.size W5 w9) => frame_cells ((b9.block _ (lt_of_block k5)).trans k5))
        obtain ⟨x0, x1, x2, x3, x4⟩ := frame_cells k5
        have u3 : ¬ c = 9 + n := by omega
        have u4 : ¬ c = 0 := by omega
        have u1 : 9 + (n : Int) ≤ (bs.length : Int) := by omega
        have HMAY := Lib.hid (fun (w9 : World) => may_any st rd mem md a4 n c4 w9 (by omega))
        have HOF := Lib.hid (fun (w9 : World) (b9 : Below w.heap.size w w9) => of_any (.slice (some ⟨b, o, none⟩) (9 + n) c) (iN (bs.take (9 + n))) w9 (by
          have := (HV.out.below b9).sub 0 (9 + n) (by omega)
          rw [List.drop_zero, Nat.sub_zero, Nat.add_zero, ← List.map_take, ← List.map_take] at this
          exact this))
        have HNUM := Lib.hid (fun (w9 : World) => number_any (crcN (bs.take (9 + n))) w9 (crcN_lt (NB.take HB.out _)))
        have HEQ := Lib.hid (fun (w9 : World) (u : Value) (b9 : Below w.heap.size w w9) (r9 : Rd w9 u (by8 (iN (num4 (crcN (bs.take (9 + n))))))) => equal_any (.slice (some ⟨b, o + (9 + n), none⟩) (bs.length - (9 + n)) (c - (9 + n))) u (iN (bs.drop (9 + n))) _ w9 (by
          have := (HV.out.below b9).sub (9 + n) (bs.length - (9 + n)) (by omega)
          rw [← List.map_drop, ← List.map_drop, List.take_of_length_le (by simp)] at this
          exact this) r9)
        rw [crcN_eq (NB.take HB.out _)] at HOF
        by_cases hok : 1 ≤ (st : Int) ∧ (st : Int) ≤ 8 ∧ n ≤ 4095
        · rw [decide_eq_true hok] at HMAY
          by_cases heq : iN (bs.drop (9 + n)) = iN (num4 (crcN (bs.take (9 + n))))
          · rw [decide_eq_true heq] at HEQ
            have HOK := Lib.hid hok
            have HQ := Lib.hid (iN_inj heq)
            clear k5 hok heq
            go_wp2_with fail
            go_region_held3 (fun w' => w'.cell? ⟨gf, 0, none⟩ = some (.int .i64 st) ∧ w'.cell? ⟨gf, 1, none⟩ = some (.int .u32 rd) ∧ w'.cell? ⟨gf, 2, none⟩ = some (.int .u8 mem) ∧ w'.cell? ⟨gf, 3, none⟩ = some (.int .u16 md) ∧ w'.cell? ⟨gf, 4, none⟩ = some (.slice a4 n c4))
              (first | with_reducible exact ⟨x0, x1, x2, x3, x4⟩ | with_reducible exact E9 | with_reducible exact E8 | with_reducible exact E7 | with_reducible exact E6 | go_keep)
              (first
                | (go_at_call 101; refine Calls.mono (HMAY.out _) ?_; rintro e w6 ⟨rfl, b6⟩; have B6 := bnext BD b6; have C6 := bnext CD b6; have E6 := K5.out _ C6)
                | (go_at_call 104; refine Calls.mono (HOF.out _ B6) ?_; rintro e w7 ⟨rfl, b7⟩; have B7 := bnext B6 b7; have C7 := bnext C6 b7; have E7 := K5.out _ C7)
                | (go_at_call 103; refine Calls.mono (HNUM.out _) ?_; rintro e w8 ⟨v8, rfl, r8, b8⟩; have B8 := bnext B7 b8; have C8 := bnext C7 b8; have E8 := K5.out _ C8)
                | (go_at_call 102; refine Calls.mono (HEQ.out _ _ B8 r8) ?_; rintro e w9 ⟨rfl, b9⟩; have B9 := bnext B8 b9; have C9 := bnext C8 b9; have E9 := K5.out _ C9))

            have G9 := ((bnext B5 C9).block _ (lt_of_block g2)).trans g2
            obtain ⟨y0, y1, y2, y3, y4⟩ := frame_cells G9
            have z0 := frozen_of_row _ _ 0 _ _ G9
            have z1 := frozen_of_row _ _ 1 _ _ G9
            have z2 := frozen_of_row _ _ 2 _ _ G9
            have z3 := frozen_of_row _ _ 3 _ _ G9
            have z4 := frozen_of_row _ _ 4 _ _ G9
            obtain ⟨e0, e1, e2, e3, e4⟩ := E9
            clear x0 x1 x2 x3 x4
            go_wp2_with fail
            have o9 : w9.ownsRow wr.heap.size 5 1 (.slice a4 n c4) n (by8 (iN ((bs.drop 9).take n))) := ownsRow_kept o5 (fun g hg => C9.block g (own_lt o5 g hg))
            have hne : w.heap.size < wr.heap.size := lt_of_block g2
            have G10 := stored_at G9 (.int .i64 st) (.int .u32 rd) (.int .u8 mem) (.int .u16 md) (.slice a4 n c4)
            refine bodyPost_ret (results_row_tmp Tryz.results25 _ _ w.heap.size _ _ _ _ rfl G10 Tryz.underlying65 rfl (infoF _ _ _ _ _)) rfl ?_
            refine ⟨stored_below B9 (Nat.le_refl _) _ _ _ _ _, .inl ⟨?_, .slice a4 n c4, ?_, ?_⟩⟩
            · rw [HERR.out, if_neg]
              rintro (h | h | h)
              · have := HOK.out.1; omega
              · have := HOK.out.2.1; omega
              · exact h HQ.out
            · rw [HST.out, HRD.out, HMEM.out, HMD.out]
              rfl
            · have hpl : (frOf bs).pl.length = n := by rw [HPL.out, List.length_take, List.length_drop]; omega
              rw [hpl, HPL.out]
              exact own_base (ownsRow_kept o9 (fun g hg => stored_other (by have := own_ge o9 g hg; omega) _ _ _ _ _)) (Nat.le_of_lt hne)
          · rw [decide_eq_false heq] at HEQ
            have HOK := Lib.hid hok
            have HQ := Lib.hid heq
            clear k5 hok heq
            go_wp2_with fail
            go_region_held3 (fun w' => w'.cell? ⟨gf, 0, none⟩ = some (.int .i64 st) ∧ w'.cell? ⟨gf, 1, none⟩ = some (.int .u32 rd) ∧ w'.cell? ⟨gf, 2, none⟩ = some (.int .u8 mem) ∧ w'.cell? ⟨gf, 3, none⟩ = some (.int .u16 md) ∧ w'.cell? ⟨gf, 4, none⟩ = some (.slice a4 n c4))
              (first | with_reducible exact ⟨x0, x1, x2, x3, x4⟩ | with_reducible exact E9 | with_reducible exact E8 | with_reducible exact E7 | with_reducible exact E6 | go_keep)
              (first
                | (go_at_call 101; refine Calls.mono (HMAY.out _) ?_; rintro e w6 ⟨rfl, b6⟩; have B6 := bnext BD b6; have C6 := bnext CD b6; have E6 := K5.out _ C6)
                | (go_at_call 104; refine Calls.mono (HOF.out _ B6) ?_; rintro e w7 ⟨rfl, b7⟩; have B7 := bnext B6 b7; have C7 := bnext C6 b7; have E7 := K5.out _ C7)
                | (go_at_call 103; refine Calls.mono (HNUM.out _) ?_; rintro e w8 ⟨v8, rfl, r8, b8⟩; have B8 := bnext B7 b8; have C8 := bnext C7 b8; have E8 := K5.out _ C8)
                | (go_at_call 102; refine Calls.mono (HEQ.out _ _ B8 r8) ?_; rintro e w9 ⟨rfl, b9⟩; have B9 := bnext B8 b9; have C9 := bnext C8 b9; have E9 := K5.out _ C9))

            have G9 := ((bnext B5 C9).block _ (lt_of_block g2)).trans g2
            obtain ⟨y0, y1, y2, y3, y4⟩ := frame_cells G9
            have z0 := frozen_of_row _ _ 0 _ _ G9
            have z1 := frozen_of_row _ _ 1 _ _ G9
            have z2 := frozen_of_row _ _ 2 _ _ G9
            have z3 := frozen_of_row _ _ 3 _ _ G9
            have z4 := frozen_of_row _ _ 4 _ _ G9
            obtain ⟨e0, e1, e2, e3, e4⟩ := E9
            clear x0 x1 x2 x3 x4
            go_wp2_with fail
            have G10 := stored_at G9 (.int .i64 0) (.int .u32 0) (.int .u8 0) (.int .u16 0) (.slice none 0 0)
            refine bodyPost_ret (results_row_tmp Tryz.results25 _ _ w.heap.size _ _ _ _ rfl G10 Tryz.underlying65 rfl (infoF _ _ _ _ _)) rfl ?_
            have he : errOf bs = 5 := by
              rw [HERR.out, if_pos]
              exact .inr (.inr fun h => HQ.out (by rw [h]; rfl))
            exact ⟨stored_below B9 (Nat.le_refl _) _ _ _ _ _, .inr ⟨by rw [he]; decide, by rw [he]; rfl⟩⟩
        · rw [decide_eq_false hok] at HMAY
          have HOK := Lib.hid hok
          have CM : Hid (∀ w', Below W5.heap.size W5 w' → Calls Tryz.prog 101 #[.agg #[.int .i64 st, .int .u32 rd, .int .u8 mem, .int .u16 md, .slice a4 n c4]] w' fun e w'' => e = .returned (.bool false) ∧ Below W5.heap.size W5 w'') := Lib.hid (fun (w' : World) (hw : Below W5.heap.size W5 w') => (HMAY.out w').mono fun e w'' ⟨he, h⟩ => And.intro he (bnext hw h))
          have KR := Lib.hid (fun (w9 : World) (b9 : Below W5.heap.size W5 w9) => (b9.block _ (lt_of_block k5)).trans k5)
          clear k5 hok
          go_wp2_with fail
          refine wp_region_quietC (fun w' => Below W5.heap.size W5 w') (by kernel_rfl) (by kernel_rfl) CD ?_
          repeat (first
            | go_big_quiet_skip
            | (go_big_quiet_want
               first
                | (refine quiet_load _ _ rfl _ rfl _ (fun w' hw' => run_loadVar_row w' _ _ _ _ _ _ (KR.out w' hw') Tryz.underlying65 rfl (infoF _ _ _ _ _)) ?_; go_simp; go_big_quiet_on)
                | (go_big_quiet_op; go_big_quiet_on)
                | (go_big_quiet_op; apply Exists.intro; refine ⟨fun w' hw' => ?_, ?_⟩; (first | with_reducible exact rfl | with_reducible exact CM.out w' hw'); go_big_quiet_on)))
          refine wpQuiet_nil ?_
          intro w6 C6
          have E6 := K5.out _ C6
          have G9 := ((bnext B5 C6).block _ (lt_of_block g2)).trans g2
          obtain ⟨y0, y1, y2, y3, y4⟩ := frame_cells G9
          have z0 := frozen_of_row _ _ 0 _ _ G9
          have z1 := frozen_of_row _ _ 1 _ _ G9
          have z2 := frozen_of_row _ _ 2 _ _ G9
          have z3 := frozen_of_row _ _ 3 _ _ G9
          have z4 := frozen_of_row _ _ 4 _ _ G9
          obtain ⟨e0, e1, e2, e3, e4⟩ := E6
          clear x0 x1 x2 x3 x4
          go_wp2_with fail
          have G10 := stored_at G9 (.int .i64 0) (.int .u32 0) (.int .u8 0) (.int .u16 0) (.slice none 0 0)
          refine bodyPost_ret (results_row_tmp Tryz.results25 _ _ w.heap.size _ _ _ _ rfl G10 Tryz.underlying65 rfl (infoF _ _ _ _ _)) rfl ?_
          have he : errOf bs = 5 := by
            rw [HERR.out, if_pos]
            have := HOK.out
            omega
          exact ⟨stored_below (bnext BW5 C6) (Nat.le_refl _) _ _ _ _ _, .inr ⟨by rw [he]; decide, by rw [he]; rfl⟩⟩
set_option maxRecDepth 20000 in
set_option maxHeartbeats 4000000 in
/-- Fewer bytes than the head says. -/
theorem get_less (v : Value) (bs : List Nat) (w : World) (h : Rd w v (by8 (iN bs))) (hb : NB bs) (h13 : 13 ≤ bs.length) (hl : bs.length < 9 + getN bs 60 12 + 4) (hm : bs.length ≤ 140737488351232) :
    Calls Tryz.prog 25 #[v] w (GetP bs w) := by
  have HV := Lib.hid h
  obtain ⟨a, c, rfl, hc, hcm, hn, hcell⟩ := h
  simp only [List.length_map] at *
  unfold maxLen at hcm
  clear hcell hn
  have HB := Lib.hid hb
  have HERR : Hid (errOf bs = 4) := by
    show errOf bs = 4
    unfold errOf
    rw [if_neg (by omega), if_pos hl]
  have HL := Lib.hid hl
  clear hb hl
  go_enter Tryz.func25, Tryz.ntmps25
  go_wp2_with fail
  refine (wide_any _).mono ?_
  rintro e w1 ⟨rfl, b1⟩
  have G0 : GetW w 0 0 0 0 0 w1 := by
    refine ⟨bnext (balloc (balloc (Below.refl _ _) _) _) b1, ?_, ?_⟩
    · rw [b1.block _ (by simp; omega)]
      exact heap_alloc2_old _ _ _
    · rw [b1.block _ (by simp)]
      exact heap_alloc2_new _ _ _
  clear b1
  go_wp2_with fail
  go_loopw [5, 15] (fun at_ i wr => GetR bs w at_ i wr) (fun _ i _ => 5 - (intOf i).toNat)
  case atStart => exact .inl ⟨rfl, rfl, G0⟩
  case round =>
    clear G0
    unfold GetR at hrel
    rcases hrel with ⟨rfl, rfl, g⟩ | ⟨rfl, rfl, g⟩ | ⟨rfl, rfl, g⟩ | ⟨rfl, rfl, g⟩ | ⟨rfl, rfl, g⟩ | ⟨rfl, rfl, g⟩
    · have x1 := fun W => (ix5i W).1
      obtain ⟨g1, g2, g3⟩ := g
      go_wp2_with fail
      refine (get_ok _ bs 0 4 wr (HV.out.below g1) HB.out (by decide) (by omega) hm).mono ?_
      rintro e w5 ⟨rfl, rfl⟩
      clear x1
      have f3 := frozen_of_row wr (w.heap.size + 1) 0 _ _ g3
      have d3 : wr.cell? ⟨w.heap.size + 1, 0, none⟩ = some (.int .u64 0) := cell_of_row wr (w.heap.size + 1) 0 _ _ _ g3
      go_wp2_with fail
      exact ⟨.inr (.inl ⟨rfl, rfl, g1.setCell (p := ⟨w.heap.size + 1, 0, none⟩) (Nat.le_succ _) _, (Below.heap_setCell _ _ _ _ (Nat.ne_of_lt (Nat.lt_succ_self _))).trans g2, by rw [heap_setCell_same _ _ 0 _ _ _ g3]; rfl⟩), by simp [intOf]⟩
    · have x1 := fun W => (ix5i W).2.1
      obtain ⟨g1, g2, g3⟩ := g
      go_wp2_with fail
      refine (get_ok _ bs 4 32 wr (HV.out.below g1) HB.out (by decide) (by omega) hm).mono ?_
      rintro e w5 ⟨rfl, rfl⟩
      clear x1
      have f3 := frozen_of_row wr (w.heap.size + 1) 1 _ _ g3
      have d3 : wr.cell? ⟨w.heap.size + 1, 1, none⟩ = some (.int .u64 0) := cell_of_row wr (w.heap.size + 1) 1 _ _ _ g3
      go_wp2_with fail
      exact ⟨.inr (.inr (.inl ⟨rfl, rfl, g1.setCell (p := ⟨w.heap.size + 1, 1, none⟩) (Nat.le_succ _) _, (Below.heap_setCell _ _ _ _ (Nat.ne_of_lt (Nat.lt_succ_self _))).trans g2, by rw [heap_setCell_same _ _ 1 _ _ _ g3]; rfl⟩)), by simp [intOf]⟩
    · have x1 := fun W => (ix5i W).2.2.1
      obtain ⟨g1, g2, g3⟩ := g
      go_wp2_with fail
      refine (get_ok _ bs 36 8 wr (HV.out.below g1) HB.out (by decide) (by omega) hm).mono ?_
      rintro e w5 ⟨rfl, rfl⟩
      clear x1
      have f3 := frozen_of_row wr (w.heap.size + 1) 2 _ _ g3
      have d3 : wr.cell? ⟨w.heap.size + 1, 2, none⟩ = some (.int .u64 0) := cell_of_row wr (w.heap.size + 1) 2 _ _ _ g3
      go_wp2_with fail
      exact ⟨.inr (.inr (.inr (.inl ⟨rfl, rfl, g1.setCell (p := ⟨w.heap.size + 1, 2, none⟩) (Nat.le_succ _) _, (Below.heap_setCell _ _ _ _ (Nat.ne_of_lt (Nat.lt_succ_self _))).trans g2, by rw [heap_setCell_same _ _ 2 _ _ _ g3]; rfl⟩))), by simp [intOf]⟩
    · have x1 := fun W => (ix5i W).2.2.2.1
      obtain ⟨g1, g2, g3⟩ := g
      go_wp2_with fail
      refine (get_ok _ bs 44 16 wr (HV.out.below g1) HB.out (by decide) (by omega) hm).mono ?_
      rintro e w5 ⟨rfl, rfl⟩
      clear x1
      have f3 := frozen_of_row wr (w.heap.size + 1) 3 _ _ g3
      have d3 : wr.cell? ⟨w.heap.size + 1, 3, none⟩ = some (.int .u64 0) := cell_of_row wr (w.heap.size + 1) 3 _ _ _ g3
      go_wp2_with fail
      exact ⟨.inr (.inr (.inr (.inr (.inl ⟨rfl, rfl, g1.setCell (p := ⟨w.heap.size + 1, 3, none⟩) (Nat.le_succ _) _, (Below.heap_setCell _ _ _ _ (Nat.ne_of_lt (Nat.lt_succ_self _))).trans g2, by rw [heap_setCell_same _ _ 3 _ _ _ g3]; rfl⟩)))), by simp [intOf]⟩
    · have x1 := fun W => (ix5i W).2.2.2.2
      obtain ⟨g1, g2, g3⟩ := g
      go_wp2_with fail
      refine (get_ok _ bs 60 12 wr (HV.out.below g1) HB.out (by decide) (by omega) hm).mono ?_
      rintro e w5 ⟨rfl, rfl⟩
      clear x1
      have f3 := frozen_of_row wr (w.heap.size + 1) 4 _ _ g3
      have d3 : wr.cell? ⟨w.heap.size + 1, 4, none⟩ = some (.int .u64 0) := cell_of_row wr (w.heap.size + 1) 4 _ _ _ g3
      go_wp2_with fail
      exact ⟨.inr (.inr (.inr (.inr (.inr (⟨rfl, rfl, g1.setCell (p := ⟨w.heap.size + 1, 4, none⟩) (Nat.le_succ _) _, (Below.heap_setCell _ _ _ _ (Nat.ne_of_lt (Nat.lt_succ_self _))).trans g2, by rw [heap_setCell_same _ _ 4 _ _ _ g3]; rfl⟩))))), by simp [intOf]⟩
    · obtain ⟨g1, g2, g3⟩ := g
      have e1 := HL.out
      have c4 : wr.cell? ⟨w.heap.size + 1, 4, none⟩ = some (.int .u64 (getN bs 60 12)) := cell_of_row wr (w.heap.size + 1) 4 _ _ _ g3
      have hn := getN_lt bs 60 12
      clear HL
      generalize getN bs 60 12 = n at *
      generalize getN bs 0 4 = st at *
      generalize getN bs 4 32 = rd at *
      generalize getN bs 36 8 = mem at *
      generalize getN bs 44 16 = md at *
      obtain ⟨y0, y1, y2, y3, y4⟩ := frame_cells g2
      have z0 := frozen_of_row _ _ 0 _ _ g2
      have z1 := frozen_of_row _ _ 1 _ _ g2
      have z2 := frozen_of_row _ _ 2 _ _ g2
      have z3 := frozen_of_row _ _ 3 _ _ g2
      have z4 := frozen_of_row _ _ 4 _ _ g2
      go_wp2_with fail
      have G10 := stored_at g2 (.int .i64 0) (.int .u32 0) (.int .u8 0) (.int .u16 0) (.slice none 0 0)
      refine bodyPost_ret (results_row_tmp Tryz.results25 _ _ w.heap.size _ _ _ _ rfl G10 Tryz.underlying65 rfl (infoF _ _ _ _ _)) rfl ?_
      exact ⟨stored_below g1 (Nat.le_refl _) _ _ _ _ _, .inr ⟨by rw [HERR.out]; decide, by rw [HERR.out]; rfl⟩⟩
theorem get_any (v : Value) (bs : List Nat) (w : World) (h : Rd w v (by8 (iN bs))) (hb : NB bs) (hm : bs.length ≤ 140737488351232) :
    Calls Tryz.prog 25 #[v] w (GetP bs w) := by
  by_cases h13 : bs.length < 13
  · refine (get_small v bs w h h13).mono ?_
    rintro e w' ⟨rfl, hb⟩
    have he : errOf bs = 4 := by unfold errOf; rw [if_pos h13]
    exact ⟨hb, .inr ⟨by rw [he]; decide, by rw [he]; rfl⟩⟩
  · by_cases hl : bs.length < 9 + getN bs 60 12 + 4
    · exact get_less v bs w h hb (by omega) hl hm
    · exact get_long v bs w h hb (by omega) hm
end Go.Proofs.YtckpeclkkmapiaaGreatDoor
