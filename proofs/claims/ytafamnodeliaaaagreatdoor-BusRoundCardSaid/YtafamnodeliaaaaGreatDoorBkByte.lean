/-
  The Book's lists of uint8: marks are written, more is put behind, and all is looked at (printed by wip/genkind.py).
-/
import Derived.Test.YtafamnodeliaaaaGreatDoorBkV
import Derived.Test.YtafamnodeliaaaaGreatDoorBookNil
import Derived.Deep.RegionHeld3
import Derived.Deep.AppendLies
import Derived.Deep.RegionLaw
import Derived.Test.YtafamnodeliaaaaGreatDoorQuiet
namespace Go.Proofs.YtafamnodeliaaaaGreatDoor
open Go.RowKit
open Go
set_option linter.unusedVariables false

/-- The mark of a list. -/
def markNByte (n : Nat) : Int := 1 + (n : Int) % 250
def kByte : Kd := ⟨5, 1, 69, 1, fun n => [.int .u8 (markNByte n)]⟩
theorem kByte_len (n : Nat) : (kByte.mark n).length = kByte.sz := rfl
theorem markByte_any (n : Nat) (h : n ≤ 100000) (w : World) : Calls Tryz.prog 80 #[.int .i64 n] w fun e w' => e = .returned (.int .u8 (markNByte n)) ∧ w = w' := by
  have e0 : markNByte n = 1 + (n : Int) % 250 := rfl
  rw [e0]
  clear e0
  go_enter Tryz.func80, Tryz.ntmps80
  go_wp2_with fail
  go_ret
  exact ⟨rfl, rfl⟩
theorem infoByte : (Tryz.prog.info? 5).map (fun i => (i.zero, i.size, i.bytes)) = some (some (.int .u8 0), 1, 1) := by kernel_rfl

theorem FillAt.nextByte {base : Nat} {w0 w : World} {it : It} {q : Nat} (h : FillAt kByte base w0 it q w) (hq : q < it.n) {gl : Nat} (hg : roomOf it.v = some gl) : FillAt kByte base w0 it (q + 1) ((w.setCell ⟨gl, q, none⟩ (.int .u8 (markNByte it.m))).drew) := by
  have := (h.step hq rfl hg).drewN 1
  show FillAt _ _ _ _ _ (World.drewN _ 1)
  simpa [setsAt, kByte] using this

set_option maxHeartbeats 4000000 in
theorem fillByte_any (base g : Nat) (cs : Array Value) (s : Value) (its : List It) (w : World) (hg : w.heap[g]? = some (.cells cs 46 (0, 0))) (hs : cs[1]? = some s) (h : KAt kByte base s its (fun _ => .kept) w) :
    Calls Tryz.prog 26 #[.pointer (some ⟨g, 0, none⟩)] w fun e w' => e = .returned (.tuple #[]) ∧ KAt kByte base s its (fun _ => .filled) w' ∧ TnT base (fun t => t = kByte.e ∨ t = kByte.tH) w w' := by
  obtain ⟨a, c, rfl, hlc, hcm⟩ := h.shape
  unfold maxLen at hcm
  have HG := Lib.hid hg
  have HS := Lib.hid hs
  have H0 := Lib.hid (h.phase (ph' := stg .kept .filled 0) fun i _ => by simp [stg])
  clear hg hs h
  go_enter Tryz.func26, Tryz.ntmps26
  go_wp2_with fail
  go_loopw [2] (fun i wr => ∃ k : Nat, k ≤ its.length ∧ i = .int .i64 k ∧ Hid (KAt kByte base (.slice a its.length c) its (stg .kept .filled k) wr) ∧ Hid (TnT base (fun t => t = kByte.e ∨ t = kByte.tH) w wr)) (fun i _ => its.length - (intOf i).toNat)
  case atStart => exact ⟨0, by omega, rfl, H0, Lib.hid (Tn.refl _ _)⟩
  case round =>
    clear H0
    obtain ⟨k, hk, rfl, KA, HT⟩ := hrel
    have kg := HT.out.keep HG.out (by decide)
    have x0 : wr.cell? ⟨g, 1, none⟩ = some (.slice a its.length c) := (cell_of_row _ _ _ _ _ _ kg).trans HS.out
    clear kg
    by_cases hlt : k < its.length
    · obtain ⟨it, hit⟩ : ∃ it, its[k]? = some it := ⟨_, List.getElem?_eq_getElem hlt⟩
      obtain ⟨gs, c', hv, _, _, y0, y1, y2, _⟩ := KA.out.cells hit
      simp only [Value.slice.injEq] at hv
      obtain ⟨rfl, _, rfl⟩ := hv
      obtain ⟨hat, hin, him⟩ := KA.out.each k it hit
      rw [show stg Ph.kept Ph.filled k k = .kept by simp [stg]] at hat
      have hu := hat.1
      obtain ⟨xs, hown⟩ := hat.2
      obtain ⟨al, cl, hvl, hln, hlm⟩ := hown.shape
      unfold maxLen at hlm
      clear hown
      obtain ⟨v, u, n, m⟩ := it
      simp only at hu hvl y0 y1 y2 hin him hln
      subst hu
      subst hvl
      have HAT := Lib.hid hat
      have HIT := Lib.hid hit
      clear hat hit
      go_wp2_with fail
      have B1 := balloc (Below.refl wr.heap.size wr) (.cells #[.slice al n cl, .slice none 0 0, .int .i64 m] 69 (0, 0))
      have k0 := heap_alloc_new wr (.cells #[.slice al n cl, .slice none 0 0, .int .i64 m] 69 (0, 0))
      have KB := Lib.hid (KA.out.below B1)
      have hat1 := HAT.out.keep (w' := wr.alloc (.cells #[.slice al n cl, .slice none 0 0, .int .i64 m] 69 (0, 0))) fun b hb => B1.block b (by obtain ⟨_, _, h⟩ := HAT.out.owns hb; exact lt_of_block h)
      have HT1 := Lib.hid (Tn.trans HT.out (Below.tn B1 fun _ => False) (fun _ _ h => h.elim))
      have hlt0 : wr.heap.size < (wr.alloc (.cells #[.slice al n cl, .slice none 0 0, .int .i64 m] 69 (0, 0))).heap.size := by simp
      generalize wr.alloc (.cells #[.slice al n cl, .slice none 0 0, .int .i64 m] 69 (0, 0)) = w1 at *
      generalize wr.heap.size = gh at *
      have K0 := Lib.hid k0
      have HAT1 := Lib.hid hat1
      clear B1 k0 hat1 KA HT HAT x0 y0 y1 y2
      go_loopw [4] (fun i wq => ∃ q : Nat, q ≤ n ∧ i = .int .i64 q ∧ Hid (FillAt kByte base w1 ⟨.slice al n cl, .slice none 0 0, n, m⟩ q wq)) (fun i _ => n - (intOf i).toNat)
      case atStart => exact ⟨0, by omega, rfl, Lib.hid (FillAt.start HAT1.out)⟩
      case round =>
        obtain ⟨q, hq, rfl, FA⟩ := hrel
        have kq := FA.out.turn.other HAT1.out K0.out (by decide)
        have z0 : wr.cell? ⟨gh, 0, none⟩ = some (.slice al n cl) := cell_of_row _ _ _ _ _ _ kq
        have z2 : wr.cell? ⟨gh, 2, none⟩ = some (.int .i64 m) := cell_of_row _ _ _ _ _ _ kq
        clear kq
        by_cases hlq : q < n
        · obtain ⟨gl, rfl, hroom, hcell⟩ := FA.out.cells rfl hlq
          obtain ⟨c0, z0', e0⟩ := hcell 0 (by decide)
          replace z0' : wr.cell? ⟨gl, q, none⟩ = some c0 := by simpa [kByte] using z0'
          replace e0 : wr.frozen? ⟨gl, q, none⟩ = false := by simpa [kByte] using e0
          have NX := Lib.hid (FA.out.nextByte hlq hroom)
          have kq := NX.out.turn.other HAT1.out K0.out (by decide)
          have zz0 : ((wr.setCell ⟨gl, q, none⟩ (.int .u8 (markNByte m))).drew).cell? ⟨gh, 0, none⟩ = some (.slice (some ⟨gl, 0, none⟩) n cl) := cell_of_row _ _ _ _ _ _ kq
          have zz2 : ((wr.setCell ⟨gl, q, none⟩ (.int .u8 (markNByte m))).drew).cell? ⟨gh, 2, none⟩ = some (.int .i64 m) := cell_of_row _ _ _ _ _ _ kq
          clear kq
          have MK := Lib.hid (markByte_any m (by simpa using him))
          clear FA hcell hroom
          go_wp2_with fail
          go_region_held3 (fun w' => w'.cell? ⟨gh, 0, none⟩ = some (.slice (some ⟨gl, 0, none⟩) n cl) ∧ w'.cell? ⟨gh, 2, none⟩ = some (.int .i64 m))
            (first | exact ⟨z0, z2⟩ | exact ⟨zz0, zz2⟩)
            (first | (go_at_call 80; refine Calls.mono (MK.out _) ?_; rintro e w9 ⟨rfl, rfl⟩))
          go_wp2_with fail
          go_roundw
          case rel => exact ⟨q + 1, by omega, by go_num, NX⟩
          case measure => simp [intOf]; omega
        · obtain rfl : q = n := by omega
          have done := FA.out.done rfl
          have T2 := FA.out.turn
          have HX := Lib.hid (KB.out.turn HIT.out T2 (by decide) done (ph' := stg .kept .filled (k + 1)) (by simp [stg]) (fun i hi => by unfold stg; by_cases h1 : i < k <;> simp [h1] <;> omega))
          have HT2 := Lib.hid (TnT.trans HT1.out (T2.mono fun b _ hb => ⟨(HAT1.out.owns hb).1, _, _, _, (HAT1.out.owns hb).2.choose_spec, Or.inl rfl⟩))
          clear FA done T2
          go_wp2_with fail
          go_roundw
          case rel => exact ⟨k + 1, by omega, by go_num, HX, HT2⟩
          case measure => simp [intOf]; omega
    · obtain rfl : k = its.length := by omega
      go_wp2_with fail
      exact ret_none Tryz.results26 ⟨rfl, KA.out.phase fun i hi => by simp [stg, hi], HT.out⟩

theorem GrowAt.nextByte {base : Nat} {w0 w w' : World} {it : It} {u u' : Value} {q : Nat} (h : GrowAt kByte base w0 it u q w) (o : Obj) (hg : Grew (it.n + q) (w.alloc o) w' u u') (hown : Own w' base 5 1 u' (it.n + q + 1) (marks kByte it.m (it.n + q) ++ [.int .u8 (markNByte it.m)])) : GrowAt kByte base w0 it u' (q + 1) w' :=
  h.step o rfl hg hown
set_option maxHeartbeats 4000000 in
set_option maxRecDepth 20000 in
theorem growByte_any (base g : Nat) (cs : Array Value) (s : Value) (its : List It) (w : World) (hg : w.heap[g]? = some (.cells cs 46 (0, 0))) (hs : cs[1]? = some s) (hz : base ≤ w.heap.size) (h : KAt kByte base s its (fun _ => .filled) w) :
    Calls Tryz.prog 43 #[.pointer (some ⟨g, 0, none⟩)] w fun e w' => e = .returned (.tuple #[]) ∧ (∃ jts : List It, KAt kByte base s jts (fun _ => .grown) w') ∧ TnT base (fun t => t = kByte.e ∨ t = kByte.tH) w w' := by
  obtain ⟨a, c, rfl, hlc, hcm⟩ := h.shape
  unfold maxLen at hcm
  obtain ⟨i0, hi, hz0, hz1, hz2⟩ := info_parts infoByte
  have HI := Lib.hid hi
  have HZ := Lib.hid hz0
  have HZ1 := Lib.hid hz1
  have HZ2 := Lib.hid hz2
  have HG := Lib.hid hg
  have HS := Lib.hid hs
  have H0 := Lib.hid (h.phase (ph' := stg .filled .grown 0) fun i _ => by simp [stg])
  generalize hL : its.length = L at *
  clear hg hs h hi hz0 hz1 hz2
  go_enter Tryz.func43, Tryz.ntmps43
  go_wp2_with fail
  go_loopw [2] (fun i wr => ∃ k : Nat, k ≤ L ∧ i = .int .i64 k ∧ (∃ jts : List It, jts.length = L ∧ Hid (KAt kByte base (.slice a L c) jts (stg .filled .grown k) wr)) ∧ Hid (TnT base (fun t => t = kByte.e ∨ t = kByte.tH) w wr)) (fun i _ => L - (intOf i).toNat)
  case atStart => exact ⟨0, by omega, rfl, ⟨its, hL, H0⟩, Lib.hid (Tn.refl _ _)⟩
  case round =>
    clear H0 hL
    obtain ⟨k, hk, rfl, ⟨jts, rfl, KA⟩, HT⟩ := hrel
    have kg := HT.out.keep HG.out (by decide)
    have x0 : wr.cell? ⟨g, 1, none⟩ = some (.slice a jts.length c) := (cell_of_row _ _ _ _ _ _ kg).trans HS.out
    by_cases hlt : k < jts.length
    · obtain ⟨it, hit⟩ : ∃ it, jts[k]? = some it := ⟨_, List.getElem?_eq_getElem hlt⟩
      obtain ⟨gs, c', hv, _, _, y0, y1, y2, y3, _, cur, hgs⟩ := KA.out.cells hit
      simp only [Value.slice.injEq] at hv
      obtain ⟨rfl, _, rfl⟩ := hv
      obtain ⟨hat, hin, him⟩ := KA.out.each k it hit
      rw [show stg Ph.filled Ph.grown k k = .filled by simp [stg]] at hat
      have hu := hat.1
      obtain ⟨al, cl, hvl, hln, hlm⟩ := hat.2.shape
      unfold maxLen at hlm
      obtain ⟨v, u, n, m⟩ := it
      simp only at hu hvl y0 y1 y2 hin him hln
      subst hu
      subst hvl
      have HAT := Lib.hid hat
      have HIT := Lib.hid hit
      clear hat hit
      go_wp2_with fail
      have B1 := balloc (Below.refl wr.heap.size wr) (.cells #[.slice al n cl, .slice none 0 0, .int .i64 m] 69 (0, 0))
      have k0 := heap_alloc_new wr (.cells #[.slice al n cl, .slice none 0 0, .int .i64 m] 69 (0, 0))
      have kg1 := (B1.block _ (lt_of_block kg)).trans kg
      have ks1 := (B1.block _ (lt_of_block hgs)).trans hgs
      have yc := cell_of_row wr gs (k * 3 + 1) _ _ _ hgs
      rw [y1] at yc
      have KB := Lib.hid (KA.out.below B1)
      have hat1 := HAT.out.keep (w' := wr.alloc (.cells #[.slice al n cl, .slice none 0 0, .int .i64 m] 69 (0, 0))) fun b hb => B1.block b (by obtain ⟨_, _, h⟩ := HAT.out.owns hb; exact lt_of_block h)
      have HT1 := Lib.hid (Tn.trans HT.out (Below.tn B1 fun _ => False) (fun _ _ h => h.elim))
      have hzz : base ≤ (wr.alloc (.cells #[.slice al n cl, .slice none 0 0, .int .i64 m] 69 (0, 0))).heap.size := by
        have h1 := HT1.out.size
        omega
      generalize wr.alloc (.cells #[.slice al n cl, .slice none 0 0, .int .i64 m] 69 (0, 0)) = w1 at *
      generalize wr.heap.size = gh at *
      have K0 := Lib.hid k0
      have KG := Lib.hid kg1
      have KS := Lib.hid ks1
      have YC := Lib.hid yc
      have HAT1 := Lib.hid hat1
      have MK := Lib.hid (markByte_any m (by simpa using him))
      clear B1 k0 hat1 KA HT HAT x0 y0 y1 y2 y3 kg kg1 ks1 yc hgs
      go_loopw [4, 5] (fun u i wr => ∃ q : Nat, q ≤ 40 ∧ i = .int .i64 q ∧ Hid (GrowAt kByte base w1 ⟨.slice al n cl, .slice none 0 0, n, m⟩ u q wr)) (fun _ i _ => 40 - (intOf i).toNat)
      case atStart => exact ⟨0, by omega, rfl, Lib.hid (GrowAt.start HAT1.out)⟩
      case round =>
        obtain ⟨q, hq, rfl, G⟩ := hrel
        have kq := G.out.turn.other HAT1.out K0.out (by decide)
        have z2 : wr.cell? ⟨gh, 2, none⟩ = some (.int .i64 m) := cell_of_row _ _ _ _ _ _ kq
        clear kq
        by_cases hlq : q < 40
        · go_wp2_with fail
          refine Calls.mono (MK.out _) ?_
          rintro e w9 ⟨rfl, rfl⟩
          have hb9 : base ≤ wr.heap.size := Nat.le_trans hzz G.out.turn.size
          have NEWS := Lib.hid (cells_newN (w := wr.alloc (.cells #[.int .u8 (markNByte m)] 5 (0, 0))) (cs := [.int .u8 (markNByte m)]) (heap_alloc_new _ _))
          go_wp2_with (at_builtin; refine wpList_append_Own _ rfl _ _ 47 rfl base 5 i0 (.int .u8 0) 1 1 Tryz.underlying47 HI.out HZ.out HZ1.out HZ2.out rfl (by decide) _ (n + q) _ rfl (G.out.long.alloc _) ⟨wr.heap.size, 0, none⟩ 1 ([.int .u8 (markNByte m)]) rfl rfl NEWS.out (by simp [Value.oneCell']) (by unfold maxLen; omega) (by omega) (by simp; omega) ?_; intro u' w2 hgr hown)
          have NX := Lib.hid (G.out.nextByte _ hgr hown)
          clear G hgr hown z2
          go_wp2_with fail
          go_roundw
          case rel => exact ⟨q + 1, by omega, by go_num, NX⟩
          case measure => simp [intOf]; omega
        · obtain rfl : q = 40 := by omega
          have kgq := G.out.turn.other HAT1.out KG.out (by decide)
          have x0 : wr.cell? ⟨g, 1, none⟩ = some (.slice (some ⟨gs, 0, none⟩) jts.length c) := (cell_of_row _ _ _ _ _ _ kgq).trans HS.out
          have ksq := G.out.turn.other HAT1.out KS.out (by decide)
          have y1 : wr.cell? ⟨gs, k * 3 + 1, none⟩ = some (.slice none 0 0) := (cell_of_row _ _ _ _ _ _ ksq).trans YC.out.symm
          have y3 : wr.frozen? ⟨gs, k * 3 + 1, none⟩ = false := frozen_of_row _ _ _ _ _ ksq
          obtain ⟨au, cu, hvu, _, _⟩ := G.out.long.shape
          have ST := KB.out.store HIT.out G.out (by decide) rfl (ph' := stg .filled .grown (k + 1)) (by simp [stg]) (fun i hi => by unfold stg; by_cases h1 : i < k <;> simp [h1] <;> omega)
          simp only at hvu
          subst hvu
          have HX := Lib.hid ST.1
          have HT2 := Lib.hid (TnT.trans HT1.out ST.2)
          clear G kgq ksq ST
          go_wp2_with fail
          go_roundw
          case rel => exact ⟨k + 1, by omega, by go_num, ⟨_, by simp, HX⟩, HT2⟩
          case measure => simp [intOf]; omega
    · obtain rfl : k = jts.length := by omega
      go_wp2_with fail
      exact ret_none Tryz.results43 ⟨rfl, ⟨jts, KA.out.phase fun i hi => by simp [stg, hi]⟩, HT.out⟩

theorem isByte_any (m : Nat) (h : m ≤ 100000) (w : World) : Calls Tryz.prog 97 #[.int .u8 (markNByte m), .int .i64 m] w fun e w' => e = .returned (.bool true) ∧ w = w' := by
  have e0 : markNByte m = 1 + (m : Int) % 250 := rfl
  rw [e0]
  clear e0
  go_enter Tryz.func97, Tryz.ntmps97
  go_wp2_with fail
  go_ret
  exact ⟨rfl, rfl⟩
set_option maxRecDepth 20000 in
set_option maxHeartbeats 4000000 in
theorem lookByte_any (base g : Nat) (cs : Array Value) (s : Value) (its : List It) (W : World) (hg : W.heap[g]? = some (.cells cs 46 (0, 0))) (hs : cs[1]? = some s) (h : KAt kByte base s its (fun _ => .grown) W) (w : World) (hW : Below W.heap.size W w) :
    Calls Tryz.prog 60 #[.pointer (some ⟨g, 0, none⟩)] w fun e w' => e = .returned (.bool true) ∧ Below w.heap.size w w' := by
  obtain ⟨a, c, rfl, hlc, hcm⟩ := h.shape
  unfold maxLen at hcm
  have HG := Lib.hid ((hW.block _ (lt_of_block hg)).trans hg)
  have HS := Lib.hid hs
  have KA := Lib.hid (h.below hW)
  clear hg hs h hW
  go_enter Tryz.func60, Tryz.ntmps60
  go_wp2_with fail
  go_loopw [3] (fun i wr => ∃ k : Nat, k ≤ its.length ∧ i = .int .i64 k ∧ Below w.heap.size w wr) (fun i _ => its.length - (intOf i).toNat)
  case atStart => exact ⟨0, by omega, rfl, Below.refl _ _⟩
  case round =>
    obtain ⟨k, hk, rfl, B⟩ := hrel
    have x0 : wr.cell? ⟨g, 1, none⟩ = some (.slice a its.length c) := (cell_of_row _ _ _ _ _ _ ((B.block _ (lt_of_block HG.out)).trans HG.out)).trans HS.out
    by_cases hlt : k < its.length
    · obtain ⟨it, hit⟩ : ∃ it, its[k]? = some it := ⟨_, List.getElem?_eq_getElem hlt⟩
      obtain ⟨gs, c', hv, _, _, y0, y1, y2, _⟩ := (KA.out.below B).cells hit
      simp only [Value.slice.injEq] at hv
      obtain ⟨rfl, _, rfl⟩ := hv
      obtain ⟨hat, hin, him⟩ := (KA.out.below B).each k it hit
      obtain ⟨al, cl, hvl, hln, hlm⟩ := hat.1.shape
      obtain ⟨au, cu, hvu, hun, hum⟩ := hat.2.shape
      unfold maxLen at hlm hum
      obtain ⟨v, u, n, m⟩ := it
      simp only at hvl hvu y0 y1 y2 hin him hln hun
      subst hvl
      subst hvu
      have B1 := balloc (Below.refl wr.heap.size wr) (.cells #[.slice al n cl, .slice au (n + 40) cu, .int .i64 m] 69 (0, 0))
      have k0 := heap_alloc_new wr (.cells #[.slice al n cl, .slice au (n + 40) cu, .int .i64 m] 69 (0, 0))
      have OL := Lib.hid (hat.1.below B1)
      have OU := Lib.hid (hat.2.below B1)
      have B2 := Lib.hid (bnext B B1)
      have hne : (((n + 40 : Nat) : Int) != (n : Int) + 40) = false := by rw [bne_eq_false_iff_eq]; omega
      clear hat hit B
      go_wp2_with fail
      clear hne
      generalize wr.alloc (.cells #[.slice al n cl, .slice au (n + 40) cu, .int .i64 m] 69 (0, 0)) = w1 at *
      generalize wr.heap.size = gh at *
      have K0 := Lib.hid k0
      have IS := Lib.hid (isByte_any m (by simpa using him))
      clear B1 k0 x0 y0 y1 y2
      go_loopw [5] (fun i wr => ∃ q : Nat, q ≤ n + 40 ∧ i = .int .i64 q ∧ Below w1.heap.size w1 wr) (fun i _ => n + 40 - (intOf i).toNat)
      case atStart => exact ⟨0, by omega, rfl, Below.refl _ _⟩
      case round =>
        obtain ⟨q, hq, rfl, B3⟩ := hrel
        have kq := (B3.block _ (lt_of_block K0.out)).trans K0.out
        have z0 : wr.cell? ⟨gh, 0, none⟩ = some (.slice al n cl) := cell_of_row _ _ _ _ _ _ kq
        have z1 : wr.cell? ⟨gh, 1, none⟩ = some (.slice au (n + 40) cu) := cell_of_row _ _ _ _ _ _ kq
        have z2 : wr.cell? ⟨gh, 2, none⟩ = some (.int .i64 m) := cell_of_row _ _ _ _ _ _ kq
        clear kq
        by_cases hlq : q < n + 40
        · obtain ⟨gu, rfl, hcu⟩ := (OU.out.below B3).marked rfl hlq
          have a0 : wr.cell? ⟨gu, q, none⟩ = some (.int .u8 (markNByte m)) := by simpa [kByte] using hcu 0 (by decide)
          clear hcu
          have S1 : Hid (∀ d, Calls Tryz.prog 97 #[.int .u8 (markNByte m), .int .i64 m] (wr.drewN d) fun e w' => e = .returned (.bool true) ∧ ∃ d', w' = wr.drewN d') :=
            fun d => (IS.out (wr.drewN d)).mono fun e w' ⟨he, hw⟩ => ⟨he, d, hw.symm⟩
          by_cases hln2 : q < n
          · obtain ⟨gl, rfl, hcl⟩ := (OL.out.below B3).marked rfl hln2
            have b0 : wr.cell? ⟨gl, q, none⟩ = some (.int .u8 (markNByte m)) := by simpa [kByte] using hcl 0 (by decide)
            clear hcl
            go_wp2_with fail
            have e9 : decide ((q : Int) < (n : Int)) = true := by simpa using hln2
            go_quiet (with_reducible exact S1.out _)
            go_wp2_with fail
            go_roundw
            case rel => exact ⟨q + 1, by omega, by go_num, bdraw B3 _⟩
            case measure => simp [intOf]; omega
          · go_wp2_with fail
            have e9 : decide ((q : Int) < (n : Int)) = false := by simpa using hln2
            go_quiet (with_reducible exact S1.out _)
            go_wp2_with fail
            go_roundw
            case rel => exact ⟨q + 1, by omega, by go_num, bdraw B3 _⟩
            case measure => simp [intOf]; omega
        · obtain rfl : q = n + 40 := by omega
          have B4 := bnext B2.out B3
          go_wp2_with fail
          go_roundw
          case rel => exact ⟨k + 1, by omega, by go_num, B4⟩
          case measure => simp [intOf]; omega
    · obtain rfl : k = its.length := by omega
      go_wp2_with fail
      go_ret
      exact ⟨rfl, B⟩

theorem infoHByte : (Tryz.prog.info? 69).map (fun i => (i.zero, i.size, i.bytes)) = some (some (.agg #[.slice none 0 0, .slice none 0 0, .int .i64 0]), 3, 56) := by kernel_rfl
set_option maxRecDepth 20000 in
set_option maxHeartbeats 4000000 in
theorem keepByte_any (base g : Nat) (cs : Array Value) (s : Value) (its : List It) (ph : Nat → Ph) (m n cl : Nat) (al : Option Addr) (w : World) (hg : w.heap[g]? = some (.cells cs 46 (0, 0))) (hsz : cs.size = 18) (h0 : cs[0]? = some (.int .i64 m)) (hs : cs[1]? = some s) (h : KAt kByte base s its ph w)
    (hm : m < 100000) (hl : its.length < 1000000) (hb : base ≤ g) (hz : base ≤ w.heap.size) :
    Calls Tryz.prog 24 #[.pointer (some ⟨g, 0, none⟩), .slice al n cl] w fun e w' => e = .returned (.tuple #[]) ∧ ∃ s', w'.heap[g]? = some (.cells ((cs.setIfInBounds 0 (.int .i64 (m + 1))).setIfInBounds 1 s') 46 (0, 0)) ∧
      w'.ownsRow base 69 3 s' (its.length + 1) ((its.map It.row).flatten ++ [.slice al n cl, .slice none 0 0, .int .i64 (m + 1)]) ∧ TnT base (fun t => t = 46 ∨ t = 69) w w' := by
  obtain ⟨a, c, rfl, hlc, hcm⟩ := h.shape
  unfold maxLen at hcm
  obtain ⟨i0, hi, hz0, hz1, hz2⟩ := info_parts infoHByte
  have HI := Lib.hid hi
  have HZ := Lib.hid hz0
  have HZ1 := Lib.hid hz1
  have HZ2 := Lib.hid hz2
  have HROW := Lib.hid h.row
  have x0 : w.cell? ⟨g, 0, none⟩ = some (.int .i64 m) := (cell_of_row _ _ _ _ _ _ hg).trans h0
  have f0 : w.frozen? ⟨g, 0, none⟩ = false := frozen_of_row _ _ _ _ _ hg
  have k1 := Go.heap_setCell_same w g 0 cs 46 (.int .i64 ((m : Int) + 1)) hg
  have hgs : ∀ b, b ≠ g → (w.setCell ⟨g, 0, none⟩ (.int .i64 ((m : Int) + 1))).heap[b]? = w.heap[b]? := fun b hb => Below.heap_setCell w ⟨g, 0, none⟩ _ b hb
  have hrow1 : (w.setCell ⟨g, 0, none⟩ (.int .i64 ((m : Int) + 1))).ownsRow base 69 3 (.slice a its.length c) its.length (its.map It.row).flatten := by
    refine owns_keep h.row fun b hb => hgs b ?_
    rintro rfl
    obtain ⟨_, c', hc'⟩ := owns_at h.row (by assumption)
    have := hg.symm.trans hc'
    simp only [Option.some.injEq, Obj.cells.injEq] at this
    exact absurd this.2.1 (by decide)
  have hT1 : TnT base (fun t => t = 46 ∨ t = 69) w (w.setCell ⟨g, 0, none⟩ (.int .i64 ((m : Int) + 1))) := (Tn.refl _ w).setCell (p := ⟨g, 0, none⟩) (fun _ => ⟨hb, _, _, _, hg, .inl rfl⟩) _
  have hz1 : base ≤ (w.setCell ⟨g, 0, none⟩ (.int .i64 ((m : Int) + 1))).heap.size := by simpa [World.setCell] using hz
  have hj : (cs.setIfInBounds 0 (.int .i64 ((m : Int) + 1)))[1]? = some (.slice a its.length c) := by
    rw [Array.getElem?_setIfInBounds_ne (by decide)]
    exact hs
  have hj0 : (cs.setIfInBounds 0 (.int .i64 ((m : Int) + 1)))[0]? = some (.int .i64 ((m : Int) + 1)) := by
    rw [Array.getElem?_setIfInBounds_self, if_pos (by omega)]
  have KH := Lib.hid h
  have HJ := Lib.hid hj
  have HJ0 := Lib.hid hj0
  have HR1 := Lib.hid hrow1
  have HT1 := Lib.hid hT1
  have K1 := Lib.hid k1
  have HBG := Lib.hid hb
  have HOLD : Hid (∃ c t fr, w.heap[g]? = some (.cells c t fr) ∧ (t = 46 ∨ t = 69)) := ⟨_, _, _, hg, .inl rfl⟩
  clear hg h0 hs h hi hz0 hgs hrow1 hT1 hj hj0 k1 hsz
  go_enter Tryz.func24, Tryz.ntmps24
  go_wp2_with fail
  clear x0 f0
  generalize w.setCell ⟨g, 0, none⟩ (.int .i64 ((m : Int) + 1)) = w1 at *
  have x0 : w1.cell? ⟨g, 0, none⟩ = some (.int .i64 ((m : Int) + 1)) := (cell_of_row _ _ _ _ _ _ K1.out).trans HJ0.out
  have x1 : w1.cell? ⟨g, 1, none⟩ = some (.slice a its.length c) := (cell_of_row _ _ _ _ _ _ K1.out).trans HJ.out
  have x2 : w1.frozen? ⟨g, 1, none⟩ = false := frozen_of_row _ _ _ _ _ K1.out
  have K2 := Lib.hid ((Below.heap_alloc w1 (.cells #[.slice al n cl, .slice none 0 0, .int .i64 ((m : Int) + 1)] 69 (0, 0)) g (lt_of_block K1.out)).trans K1.out)
  have y0 : (w1.alloc (.cells #[.slice al n cl, .slice none 0 0, .int .i64 ((m : Int) + 1)] 69 (0, 0))).cell? ⟨g, 0, none⟩ = some (.int .i64 ((m : Int) + 1)) := (cell_of_row _ _ _ _ _ _ K2.out).trans HJ0.out
  have y1 : (w1.alloc (.cells #[.slice al n cl, .slice none 0 0, .int .i64 ((m : Int) + 1)] 69 (0, 0))).cell? ⟨g, 1, none⟩ = some (.slice a its.length c) := (cell_of_row _ _ _ _ _ _ K2.out).trans HJ.out
  have NEWS := Lib.hid (cells_newN (w := w1.alloc (.cells #[.slice al n cl, .slice none 0 0, .int .i64 ((m : Int) + 1)] 69 (0, 0))) (cs := [.slice al n cl, .slice none 0 0, .int .i64 ((m : Int) + 1)]) (heap_alloc_new _ _))
  have OC : Hid (∀ u ∈ [Value.slice al n cl, .slice none 0 0, .int .i64 ((m : Int) + 1)], u.oneCell' = true) := by unfold Hid; simp [Value.oneCell']
  have HB1 : Hid (its.length + 1 ≤ maxLen) := by unfold Hid maxLen; omega
  have HB2 : Hid ((its.length + 1) * 56 ≤ 140737488355328) := by unfold Hid; omega
  have HB3 : Hid (base ≤ (w1.alloc (.cells #[.slice al n cl, .slice none 0 0, .int .i64 ((m : Int) + 1)] 69 (0, 0))).heap.size) := by unfold Hid; simp; omega
  have LAST : Hid (∀ (g2 cap : Nat) (w2 : World), w2.ownsRow base 69 3 (.slice (some ⟨g2, 0, none⟩) (its.length + 1) cap) (its.length + 1) ((its.map It.row).flatten ++ [.slice al n cl, .slice none 0 0, .int .i64 ((m : Int) + 1)]) → (w1.alloc (.cells #[.slice al n cl, .slice none 0 0, .int .i64 ((m : Int) + 1)] 69 (0, 0))).drew.grownBy w2 (Value.slice a its.length c).ownBlock →
      ((Value.slice a its.length c).ownBlock = some g2 ∨ g2 = (w1.alloc (.cells #[.slice al n cl, .slice none 0 0, .int .i64 ((m : Int) + 1)] 69 (0, 0))).heap.size) → g2 < w2.heap.size → w2.cell? ⟨g, 1, none⟩ = some (.slice a its.length c) ∧ w2.frozen? ⟨g, 1, none⟩ = false) := by
    intro g2 cap w2 hown hgr hat hlt
    have hne : some g ≠ (Value.slice a its.length c).ownBlock := by
      intro e
      obtain ⟨_, c', hc'⟩ := owns_at HR1.out e.symm
      have := K1.out.symm.trans hc'
      simp only [Option.some.injEq, Obj.cells.injEq] at this
      exact absurd this.2.1 (by decide)
    have kk := (hgr.block g (lt_of_block K2.out) hne).trans K2.out
    exact ⟨(cell_of_row _ _ _ _ _ _ kk).trans HJ.out, frozen_of_row _ _ _ _ _ kk⟩
  have FIN : Hid (∀ (g2 cap : Nat) (w2 : World), w2.ownsRow base 69 3 (.slice (some ⟨g2, 0, none⟩) (its.length + 1) cap) (its.length + 1) ((its.map It.row).flatten ++ [.slice al n cl, .slice none 0 0, .int .i64 ((m : Int) + 1)]) → (w1.alloc (.cells #[.slice al n cl, .slice none 0 0, .int .i64 ((m : Int) + 1)] 69 (0, 0))).drew.grownBy w2 (Value.slice a its.length c).ownBlock →
      ∃ s', (w2.setCell ⟨g, 1, none⟩ (.slice (some ⟨g2, 0, none⟩) (its.length + 1) cap)).heap[g]? = some (.cells ((cs.setIfInBounds 0 (.int .i64 (m + 1))).setIfInBounds 1 s') 46 (0, 0)) ∧
      (w2.setCell ⟨g, 1, none⟩ (.slice (some ⟨g2, 0, none⟩) (its.length + 1) cap)).ownsRow base 69 3 s' (its.length + 1) ((its.map It.row).flatten ++ [.slice al n cl, .slice none 0 0, .int .i64 (m + 1)]) ∧ TnT base (fun t => t = 46 ∨ t = 69) w (w2.setCell ⟨g, 1, none⟩ (.slice (some ⟨g2, 0, none⟩) (its.length + 1) cap))) := by
    intro g2 cap w2 hown hgr
    have hne : some g ≠ (Value.slice a its.length c).ownBlock := by
      intro e
      obtain ⟨_, c', hc'⟩ := owns_at HR1.out e.symm
      have := K1.out.symm.trans hc'
      simp only [Option.some.injEq, Obj.cells.injEq] at this
      exact absurd this.2.1 (by decide)
    have kk := (hgr.block g (lt_of_block K2.out) hne).trans K2.out
    refine ⟨_, Go.heap_setCell_same w2 g 1 _ _ _ kk, owns_keep hown fun b hb => Below.heap_setCell w2 ⟨g, 1, none⟩ _ b ?_, ?_⟩
    · rintro rfl
      obtain ⟨_, c', hc'⟩ := owns_at hown (by assumption)
      have := kk.symm.trans hc'
      simp only [Option.some.injEq, Obj.cells.injEq] at this
      exact absurd this.2.1 (by decide)
    · have h2 : TnT base (fun t => t = 46 ∨ t = 69) w1 w2 := by
        refine (((Tn.refl _ w1).alloc _).drew).grown hgr fun k hk _ => ?_
        obtain ⟨h3, c', hc'⟩ := owns_at HR1.out hk
        exact ⟨h3, c', _, _, hc', .inr rfl⟩
      have h3 := TnT.trans HT1.out h2
      refine h3.setCell (p := ⟨g, 1, none⟩) (fun hlt => ?_) _
      have h4 := HT1.out.size
      exact ⟨HBG.out, HOLD.out⟩
  clear hz1
  go_region_law (refine step_append_lies _ (by rfl) _ _ 28 (by rfl) base 69 i0 (.agg #[.slice none 0 0, .slice none 0 0, .int .i64 0]) 3 56 Tryz.underlying28 HI.out HZ.out HZ1.out HZ2.out rfl (by decide) (.slice a its.length c) its.length (its.map It.row).flatten (by rfl) (World.ownsRow.alloc HR1.out (.cells #[.slice al n cl, .slice none 0 0, .int .i64 ((m : Int) + 1)] 69 (0, 0))) ⟨w1.heap.size, 0, none⟩ 1 1 [.slice al n cl, .slice none 0 0, .int .i64 ((m : Int) + 1)] (by rfl) rfl NEWS.out OC.out (by decide) HB1.out HB2.out HB3.out _ rfl ?_; intro g2 cap w2 hown hgr hat hlt; have E0 := LAST.out g2 cap w2 hown hgr hat hlt; have E1 := E0.1; have E2 := E0.2)
  all_goals
    go_wp2_with fail
    exact ret_none Tryz.results24 ⟨rfl, FIN.out _ _ _ hown hgr⟩

end Go.Proofs.YtafamnodeliaaaaGreatDoor
