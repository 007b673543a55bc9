/-
  The walk of CrcDiffers: of lists of one length the sums differ as they do.
-/
import Derived.Test.YtlpfkpjojjnbgaaOpenB
import Derived.Test.YtlpfkpjojjnbgaaMix
import Derived.Test.YtlpfkpjojjnbgaaCrc
import Derived.Test.YtlpfkpjojjnbgaaAlive1
import Derived.Test.YtlpfkpjojjnbgaaTwinB
import Derived.RegionTactic
import Derived.BigRegion
import Derived.Test.YtlpfkpjojjnbgaaQuiet
namespace Go.Proofs.Ytlpfkpjojjnbgaa
open Go.RowKit
open Go

theorem Rd.cut {w : World} {a : Option Addr} {c : Nat} {cs : List Int} {f : Int → Value} (h : Rd w (.slice a cs.length c) (cs.map f)) (k : Nat) (hk : k ≤ cs.length) : Rd w (.slice a k c) ((cs.take k).map f) := by
  obtain ⟨a', c', hv, h1, h2, h3, h4⟩ := h
  rw [List.length_map] at hv h1
  simp only [Value.slice.injEq] at hv
  obtain ⟨rfl, _, rfl⟩ := hv
  refine ⟨a, c, by simp; omega, by simp; omega, h2, h3, fun i x hx => ?_⟩
  rw [List.map_take, List.getElem?_take] at hx
  split at hx
  · exact h4 i x hx
  · cases hx

theorem Rd.get {w : World} {a : Option Addr} {n c : Nat} {cs : List Int} {f : Int → Value} (h : Rd w (.slice a n c) (cs.map f)) (k : Nat) (hk : k < cs.length) :
    ∃ b o, a = some ⟨b, o, none⟩ ∧ w.cell? ⟨b, o + k, none⟩ = some (f cs[k]) := by
  obtain ⟨a', c', hv, h1, h2, h3, h4⟩ := h
  simp only [Value.slice.injEq] at hv
  obtain ⟨rfl, _, rfl⟩ := hv
  exact h4 k _ (map_get hk)

set_option maxHeartbeats 1000000 in
theorem walk_CrcDiffers (v0 v1 v2 : Value) (W : World) (A0 : Arg Try.prog 22 W v0) (A1 : Arg Try.prog 22 W v1) (A2 : Arg Try.prog 22 W v2) :
    Calls Try.prog 6 #[v0, v1, v2] W fun e w' => e = .returned (.bool true) ∧ Below W.heap.size W w' := by
  obtain ⟨cs, hR, hB, hL⟩ := A0.bytes
  obtain ⟨ds, hS, hD, hM⟩ := A1.bytes
  obtain ⟨es, hT, hE, hN⟩ := A2.bytes
  clear A0 A1 A2
  obtain ⟨a, c, rfl, hac, hcm⟩ := hR.shape
  obtain ⟨a2, c2, rfl, hac2, hcm2⟩ := hS.shape
  obtain ⟨a3, c3, rfl, hac3, hcm3⟩ := hT.shape
  by_cases hbig : (1048576 : Int) < cs.length + ds.length + es.length
  · have e1 : decide (1048576 < sumI [(cs.length : Int), (ds.length : Int), (es.length : Int)]) = true := by rw [sumI_three]; simpa using hbig
    go_enter Try.func6, Try.ntmps6
    go_wp2_with fail
    refine (alive1_any _).mono ?_
    rintro e w1 ⟨rfl, B1⟩
    go_wp2_with fail
    refine (beyond_any _ [(cs.length : Int), (ds.length : Int), (es.length : Int)] _ (rd_new w1 (ints [(cs.length : Int), (ds.length : Int), (es.length : Int)]) 3 3 3 (0, 0) rfl (by decide) (by decide)) (by simp; omega)).mono ?_
    rw [e1]
    rintro e w2 ⟨rfl, rfl⟩
    have B2 := balloc B1 (.cells (ints [(cs.length : Int), (ds.length : Int), (es.length : Int)]).toArray 3)
    go_wp2_with fail
    refine (alive1_any _).mono ?_
    rintro e w3 ⟨rfl, B3⟩
    go_wp2_with fail
    go_ret
    exact ⟨rfl, bnext B2 B3⟩
  · have e1 : decide (1048576 < sumI [(cs.length : Int), (ds.length : Int), (es.length : Int)]) = false := by rw [sumI_three]; simpa using hbig
    obtain ⟨p, hp⟩ : ∃ p : Nat, p = min cs.length ds.length := ⟨_, rfl⟩
    obtain ⟨n, hn⟩ : ∃ n : Nat, n = min p es.length := ⟨_, rfl⟩
    have hn1 : n ≤ cs.length := by omega
    have hn2 : n ≤ ds.length := by omega
    have hn3 : n ≤ es.length := by omega
    have hm1 : (if ds.length < cs.length then (ds.length : Int) else (cs.length : Int)) = (p : Int) := by split <;> omega
    have hm2 : (if es.length < p then (es.length : Int) else (p : Int)) = (n : Int) := by split <;> omega
    clear hp hn
    go_enter Try.func6, Try.ntmps6
    go_wp2_with fail
    refine (alive1_any _).mono ?_
    rintro e w1 ⟨rfl, B1⟩
    go_wp2_with fail
    refine (beyond_any _ [(cs.length : Int), (ds.length : Int), (es.length : Int)] _ (rd_new w1 (ints [(cs.length : Int), (ds.length : Int), (es.length : Int)]) 3 3 3 (0, 0) rfl (by decide) (by decide)) (by simp; omega)).mono ?_
    rw [e1]
    rintro e w2 ⟨rfl, rfl⟩
    have B2 := balloc B1 (.cells (ints [(cs.length : Int), (ds.length : Int), (es.length : Int)]).toArray 3)
    go_wp2_with fail
    have hlx : (cs.take n).length = n := by rw [List.length_take]; omega
    have hly : (ds.take n).length = n := by rw [List.length_take]; omega
    have hlz : (es.take n).length = n := by rw [List.length_take]; omega
    refine (twinB_any _ (cs.take n) _ ((hR.below B2).cut n hn1) (by omega)).mono ?_
    rintro e w3 ⟨v', rfl, b3, T3⟩
    have B3 := bnext B2 b3
    clear b3
    have hg1 := B2.size
    generalize (w1.alloc (.cells (ints [(cs.length : Int), (ds.length : Int), (es.length : Int)]).toArray 3)).heap.size = g1 at *
    obtain ⟨hv, T3⟩ := T3
    rw [hlx] at hv
    subst hv
    go_wp2_with fail
    refine (twinB_any _ (ds.take n) _ ((hS.below B3).cut n hn2) (by omega)).mono ?_
    rintro e w4 ⟨v', rfl, b4, T4⟩
    have B4 := bnext B3 b4
    have hg2 := B3.size
    have hg12 := lt_of_block T3
    have T3' := (b4.block g1 hg12).trans T3
    generalize w3.heap.size = g2 at *
    obtain ⟨hv, T4⟩ := T4
    rw [hly] at hv
    subst hv
    clear T3 b4 B3 B2 B1
    have Z := (hT.cut n hn3).get
    generalize hxs : cs.take n = xs at *
    generalize hys : ds.take n = ys at *
    generalize hzs : es.take n = zs at *
    have hX : IsB xs := by rw [← hxs]; exact hB.take n
    have hY : IsB ys := by rw [← hys]; exact hD.take n
    have hZ : IsB zs := by rw [← hzs]; exact hE.take n
    have HX := Lib.hid hlx
    have HY := Lib.hid hly
    have HZ := Lib.hid hlz
    have HXS := Lib.hid hxs
    have HYS := Lib.hid hys
    clear hxs hys hzs hlx hly hlz hm1 hm2 e1
    go_wp2_with fail
    go_loopw [10] (fun i wr => ∃ k : Nat, k ≤ n ∧ i = .int .i64 k ∧ wr.heap[g1]? = some (.cells (mixC k xs zs) 5 (0, 0)) ∧ wr.heap[g2]? = some (.cells (mixC k ys zs) 5 (0, 0)) ∧ Below W.heap.size W wr) (fun i _ => n - (intOf i).toNat)
    case atStart => exact ⟨0, by omega, rfl, by rw [T3']; unfold mixC; rw [mixk_zero], by rw [T4]; unfold mixC; rw [mixk_zero], B4⟩
    case round =>
      obtain ⟨k, hk, rfl, h1, h2, hb⟩ := hrel
      by_cases hlt : k < n
      · have hkx : k < xs.length := by have := HX.out; omega
        have hky : k < ys.length := by have := HY.out; omega
        have hkz : k < zs.length := by have := HZ.out; omega
        have hxz : xs.length = zs.length := by have := HX.out; have := HZ.out; omega
        have hyz : ys.length = zs.length := by have := HY.out; have := HZ.out; omega
        obtain ⟨b, o, rfl, hcl⟩ := Z k hkz
        have c1 := (cell_of_row wr g1 k _ _ _ h1).trans (mixC_at k xs zs hxz hkx)
        have c2 := (cell_of_row wr g2 k _ _ _ h2).trans (mixC_at k ys zs hyz hky)
        have c3 := (hb.cell (p := ⟨b, o + k, none⟩) (World.block_lt_of_cell? W _ hcl)).trans hcl
        have f1 := frozen_of_row wr g1 k _ _ h1
        have s1 : (wr.setCell ⟨g1, k, none⟩ (.int .u8 (bits .xor .u8 xs[k] zs[k]))).heap[g1]? = some (.cells (mixC (k + 1) xs zs) 5 (0, 0)) := (heap_setCell_same wr g1 k _ _ _ h1).trans (by rw [mixC_set k xs zs hxz hkx])
        have s2 : (wr.setCell ⟨g1, k, none⟩ (.int .u8 (bits .xor .u8 xs[k] zs[k]))).heap[g2]? = some (.cells (mixC k ys zs) 5 (0, 0)) := (heap_setCell_other wr ⟨g1, k, none⟩ g2 _ (by simp; omega)).trans h2
        have c3' : (wr.setCell ⟨g1, k, none⟩ (.int .u8 (bits .xor .u8 xs[k] zs[k]))).cell? ⟨b, o + k, none⟩ = some (.int .u8 zs[k]) := ((hb.setCell (p := ⟨g1, k, none⟩) hg1 _).cell (p := ⟨b, o + k, none⟩) (World.block_lt_of_cell? W _ hcl)).trans hcl
        have hb' := hb.setCell (p := ⟨g1, k, none⟩) hg1 (.int .u8 (bits .xor .u8 xs[k] zs[k]))
        have S1 := Lib.hid s1
        have S2 := Lib.hid s2
        have C3 := Lib.hid c3'
        have HXZ := Lib.hid hyz
        clear Z h1 h2 s1 s2 hcl T3' T4 hxz hyz c3' c2
        go_wp2_with fail
        go_region
        generalize wr.setCell ⟨g1, k, none⟩ (.int .u8 (bits .xor .u8 xs[k] zs[k])) = w5 at *
        have c2 := (cell_of_row w5 g2 k _ _ _ S2.out).trans (mixC_at k ys zs HXZ.out hky)
        have f2 := frozen_of_row w5 g2 k _ _ S2.out
        have c3' := C3.out
        go_wp2_with fail
        go_region
        go_wp2_with fail
        go_roundw
        case rel =>
          refine ⟨k + 1, by omega, by go_num, ?_, ?_, ?_⟩
          · exact (heap_setCell_other w5 ⟨g2, k, none⟩ g1 _ (by simp; omega)).trans S1.out
          · exact (heap_setCell_same w5 g2 k _ _ _ S2.out).trans (by rw [mixC_set k ys zs HXZ.out hky])
          · exact bdraw (bdraw (hb'.setCell (p := ⟨g2, k, none⟩) hg2 _) 1) 1
        case measure => simp [intOf]; omega
      · obtain rfl : k = n := by omega
        have hx := HX.out
        have hy := HY.out
        have hz := HZ.out
        have R1 : Rd W (.slice a k c) (by8 xs) := by rw [← HXS.out]; exact hR.cut k hn1
        have R2 : Rd W (.slice a2 k c2) (by8 ys) := by rw [← HYS.out]; exact hS.cut k hn2
        have mk : ∀ (g : Nat) (l : List Int), l.length = k → wr.heap[g]? = some (.cells (mixC k l zs) 5 (0, 0)) → Rd wr (.slice (some ⟨g, 0, none⟩) k (k + 1)) (by8 (mixI l zs)) := by
          intro g l hl hh
          have hm := mixI_len l zs (by omega)
          refine rd_block _ _ _ hh (by simp [hm, hl]) (fun i x hi => ?_) (by omega) (by simp only [maxLen]; omega)
          have hik : i < (by8 (mixI l zs)).length := (List.getElem?_eq_some_iff.1 hi).1
          unfold mixC
          have e : mixk k l zs = mixI l zs := by rw [← hl]; exact mixk_all l zs (by omega)
          rw [e, List.getElem?_toArray, by8_append, List.getElem?_append_left hik]
          exact hi
        have Q1 := mk g1 xs hx h1
        have Q2 := mk g2 ys hy h2
        have go : ∀ (v : Value) (l : List Int) (w' : World), Rd w' v (by8 l) → Below wr.heap.size wr w' → Calls Try.prog 11 #[v] w' fun e w'' => e = .returned (.int .u32 (moreI 0 l)) ∧ Below wr.heap.size wr w'' :=
          fun v l w' hr hb' => (of_any v l w' hr).mono fun e w'' ⟨he, h⟩ => ⟨he, bnext hb' h⟩
        have C1 := Lib.hid (fun (w' : World) (h : Below wr.heap.size wr w') => go _ xs w' (R1.below (bnext hb h)) h)
        have C2 := Lib.hid (fun (w' : World) (h : Below wr.heap.size wr w') => go _ (mixI xs zs) w' (Q1.below h) h)
        have C3 := Lib.hid (fun (w' : World) (h : Below wr.heap.size wr w') => go _ ys w' (R2.below (bnext hb h)) h)
        have C4 := Lib.hid (fun (w' : World) (h : Below wr.heap.size wr w') => go _ (mixI ys zs) w' (Q2.below h) h)
        have FIN := differsI xs ys zs hX hY hZ (by omega) (by omega)
        clear Z h1 h2 T3' T4 hx hy hz mk go Q1 Q2 R1 R2
        go_wp2_with fail
        refine wp_region_quietC (fun w' => Below wr.heap.size wr w') (by kernel_rfl) (by kernel_rfl) (bdraw (Below.refl _ _) 1) ?_
        have hkc : k ≤ c := by omega
        have hkc2 : k ≤ c2 := by omega
        repeat (refine wpQuiet_step (fun K hK => ?_); go_simp; first | (refine hK _ ?_; clear hK K) | (apply Exists.intro; refine ⟨fun w' hw' => ?_, hK _ ?_⟩; (first | with_reducible exact rfl | with_reducible exact C1.out w' hw' | with_reducible exact C2.out w' hw' | with_reducible exact C3.out w' hw' | with_reducible exact C4.out w' hw'); clear hK K))
        refine wpQuiet_nil ?_
        intro w9 hw9
        go_wp2_with fail
        go_ret
        exact ⟨rfl, bnext hb hw9⟩
end Go.Proofs.Ytlpfkpjojjnbgaa
