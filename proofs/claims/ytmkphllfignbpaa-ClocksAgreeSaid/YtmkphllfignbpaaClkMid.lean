/-
  clocks.Mid: the middle of readings.
-/
import Derived.Test.YtmkphllfignbpaaClkB
import Derived.Test.YtmkphllfignbpaaClkFind
import Derived.Test.YtmkphllfignbpaaKit2
import Derived.Laws.CopyOwn
namespace Go.Proofs.Ytmkphllfignbpaa
open Go.RowKit
open Go

/-- May readings be, without so many? -/
def mayM (l : List Int) (bad : Int) : Bool := decide (0 ≤ bad) && (decide (2 * bad < l.length) && l.all smallB)
theorem mayM_iff (l : List Int) (bad : Int) : mayM l bad = true ↔ 0 ≤ bad ∧ 2 * bad < l.length ∧ ∀ x ∈ l, smallB x = true := by simp [mayM]
def midV (l : List Int) (bad : Int) : Value := if mayM l bad then .tuple #[.int .i64 (midI l bad.toNat), .int .i64 0] else .tuple #[.int .i64 0, .int .i64 1]
theorem infoI : (Try.prog.info? 3).map (fun i => (i.zero, i.size, i.bytes)) = some (some (.int .i64 0), 1, 8) := by kernel_rfl
theorem mid_no (v : Value) (l : List Int) (bad : Int) (w : World) (h : Rd w v (ints l)) (hl : l.length ≤ 140737488351232) (hno : mayM l bad = false) :
    Calls Try.prog 10 #[v, .int .i64 bad] w fun e w' => e = .returned (.tuple #[.int .i64 0, .int .i64 1]) ∧ w = w' := by
  have C := some_any v l w h
  obtain ⟨a, c, rfl, hc, hm⟩ := h.shape
  clear h
  by_cases h1 : bad < 0
  · clear hno
    go_enter Try.func10, Try.ntmps10
    go_wp2_with fail
    go_ret2
    exact ⟨rfl, rfl⟩
  · by_cases h2 : l.length < bad
    · clear hno
      go_enter Try.func10, Try.ntmps10
      go_wp2_with fail
      go_ret2
      exact ⟨rfl, rfl⟩
    · by_cases h3 : l.length ≤ 2 * bad
      · clear hno
        go_enter Try.func10, Try.ntmps10
        go_wp2_with fail
        go_ret2
        exact ⟨rfl, rfl⟩
      · have hany : (l.any fun p => !smallB p) = true := by
          simp [mayM, show 0 ≤ bad by omega, show 2 * bad < (l.length : Int) by omega] at hno
          simpa [List.any_eq_true] using hno
        rw [hany] at C
        clear hno hany
        go_enter Try.func10, Try.ntmps10
        go_wp2_with fail
        refine C.mono ?_
        rintro e w' ⟨rfl, rfl⟩
        go_wp2_with fail
        go_ret2
        exact ⟨rfl, rfl⟩
theorem sizeI : (Try.prog.info? 3).map (·.size) = some 1 := by kernel_rfl
theorem made_row {w : World} {base : Nat} {g n : Nat} (h : w.ownsRow base 3 1 (.slice (some ⟨g, 0, none⟩) n n) n (madeCells (Value.int .i64 0).cells (n * 1)).toList) :
    ∃ cur : List Value, Hid (cur.length = n) ∧ w.heap[g]? = some (.cells cur.toArray 3 (0, 0)) := by
  refine ⟨(madeCells (Value.int .i64 0).cells (n * 1)).toList, ?_, full_row h⟩
  show _ = _
  simp [madeCells]
theorem copy_src {w w1 : World} {a : Option Addr} {c n : Nat} {xs : List Value} (h : Rd w (.slice a n c) xs) (hb : Below w.heap.size w w1) (g : Nat) :
    0 < xs.length → some (⟨g, 0, none⟩ : Addr) = some ⟨g, 0, none⟩ ∧ ∃ ad, a = some ad ∧ ∀ j v, xs[j]? = some v → w1.cell? (ad.add j) = some v := by
  intro hpos
  obtain ⟨a', c', hv, h1, h2, h3, h4⟩ := h
  cases hv
  obtain ⟨b, o, rfl, _⟩ := h4 0 _ (List.getElem?_eq_getElem hpos)
  refine ⟨rfl, _, rfl, fun j v hj => ?_⟩
  obtain ⟨b', o', e, hc⟩ := h4 j v hj
  cases e
  rw [Addr.add_lit]
  exact (hb.cell (p := ⟨b, o + j, none⟩) (World.block_lt_of_cell? w _ hc)).trans hc
theorem own_of_row {w : World} {base g n : Nat} {xs : List Value} (h : w.heap[g]? = some (.cells xs.toArray 3 (0, 0))) (hn : xs.length = n) (hb : base ≤ g) (hm : n ≤ maxLen) : w.ownsRow base 3 1 (.slice (some ⟨g, 0, none⟩) n n) n xs := by
  subst hn
  exact ⟨by simp, .inr ⟨g, xs.length, xs.toArray, rfl, hb, h, Nat.le_refl _, hm, by simp, by simp⟩⟩
theorem srt_cell {w : World} {base g n : Nat} {l : List Int} (h : w.ownsRow base 3 1 (.slice (some ⟨g, 0, none⟩) n n) n (ints (srt l))) (hl : l.length = n) (k : Nat) (hk : k < n) : w.cell? ⟨g, k, none⟩ = some (.int .i64 ((srt l).getD k 0)) := by
  have hk2 : k < (srt l).length := by rw [srt_len]; omega
  rw [h.cellAt k (by omega)]
  simp [List.getD_eq_getElem?_getD, hk2]
theorem srt_in {l : List Int} (h : ∀ x ∈ l, smallB x = true) (k : Nat) (hk : k < l.length) : -1099511627776 ≤ (srt l).getD k 0 ∧ (srt l).getD k 0 ≤ 1099511627776 := by
  have hk2 : k < (srt l).length := by rw [srt_len]; omega
  have : (srt l).getD k 0 ∈ l := by
    rw [List.getD_eq_getElem?_getD, List.getElem?_eq_getElem hk2]
    exact srt_mem.1 (List.getElem_mem hk2)
  exact (smallB_iff _).1 (h _ this)
theorem splice_all (cur cs : List Value) (h : cur.length = cs.length) : splice cur 0 cs = cs := by simp [splice, h]
set_option maxHeartbeats 1000000 in
theorem mid_yes (HS : SortSaid) (v : Value) (l : List Int) (bad : Int) (w : World) (h : Rd w v (ints l)) (hl : l.length * 8 ≤ 140737488351232) (hyes : mayM l bad = true) :
    Calls Try.prog 10 #[v, .int .i64 bad] w fun e w' => e = .returned (.tuple #[.int .i64 (midI l bad.toNat), .int .i64 0]) ∧ Below w.heap.size w w' := by
  obtain ⟨hb0, hb1, hsm⟩ := (mayM_iff l bad).1 hyes
  have C := some_any v l w h
  have hany : (l.any fun p => !smallB p) = false := by
    rw [List.any_eq_false]
    intro x hx
    simp [hsm x hx]
  rw [hany] at C
  obtain ⟨a, c, rfl, hc, hm⟩ := h.shape
  have HR := Lib.hid h
  have C1 : Hid ((ints l).length = Nat.min l.length l.length) := by unfold Hid; simp
  clear h
  unfold maxLen at hm
  obtain ⟨n, rfl⟩ := Int.eq_ofNat_of_zero_le hb0
  rw [Int.toNat_natCast]
  have HSM := Lib.hid hsm
  have HS' := Lib.hid HS
  clear hany hyes hsm HS hb0
  obtain ⟨i0, hi, hz0, hz1, hz2⟩ := info_parts infoI
  go_enter Try.func10, Try.ntmps10
  go_wp2_with fail
  refine C.mono ?_
  rintro e w' ⟨rfl, rfl⟩
  clear C
  go_wp2_with (first
    | (at_make; refine wpList_make_full _ rfl _ _ 22 rfl w.heap.size 3 i0 (.int .i64 0) 1 Try.underlying22 hi hz0 hz1 .i64 .i64 _ _ l.length rfl rfl rfl rfl (by rw [hz2]; omega) (by unfold maxLen; omega) (Nat.le_refl _) ?_; intro w1 hown hgrow; obtain ⟨cur, HCU, K1⟩ := made_row hown; have B1 : Below w.heap.size w w1 := (Below.refl _ _).grown hgrow (Nat.le_refl _) (by simp); clear hown hgrow hi hz0 hz1 hz2)
    | (refine wpList_copy_splice (o := ⟨some 31, _, _, _, _, _⟩) rfl (.tmp 29) (.tmp 30) 22 22 rfl 3 Try.underlying22 sizeI _ _ _ _ _ _ rfl rfl w.heap.size 0 cur _ K1 (ints l) C1.out (copy_src HR.out B1 _) (by rw [HCU.out]; simp) (oc8 _ _) w.heap.size w B1 (Nat.le_refl _) ?_; intro w2 K2 B2))
  have HO : Hid (w2.ownsRow w.heap.size 3 1 (.slice (some ⟨w.heap.size, 0, none⟩) l.length l.length) l.length (ints l)) := by
    refine own_of_row ?_ (by simp) (Nat.le_refl _) (by unfold maxLen; omega)
    rw [K2.out, splice_all _ _ (by rw [HCU.out]; simp)]
  clear K1 K2 HCU HR C1
  refine (HS'.out _ _ _ _ _ _ HSM.out HO.out (by omega)).mono ?_
  rintro e w3 ⟨rfl, ho, b3⟩
  have B3 := B2.trans b3
  have x1 := srt_cell ho rfl n (by omega)
  have x2 := srt_cell ho rfl (l.length - 1 - n) (by omega)
  obtain ⟨p0, p1⟩ := srt_in HSM.out n (by omega)
  obtain ⟨q0, q1⟩ := srt_in HSM.out (l.length - 1 - n) (by omega)
  have MI : Hid (midI l n = byI ((srt l).getD n 0 + (srt l).getD (l.length - 1 - n) 0) 2) := by unfold Hid midI; rw [byI_eq _ _ (by omega)]
  clear ho HO HSM HS' B1 B2 b3
  generalize (srt l).getD n 0 = p at *
  generalize (srt l).getD (l.length - 1 - n) 0 = q at *
  have S1 : Hid (∀ m, Calls Try.prog 26 #[.int .i64 (p + q), .int .i64 2] (w3.drewN m) fun e w' => e = .returned (.int .i64 (byI (p + q) 2)) ∧ ∃ m', w' = w3.drewN m') :=
    fun m => (by_any (p + q) 2 (w3.drewN m) (by omega) (by omega) (by omega) (by omega)).mono fun e w' ⟨he, hw⟩ => ⟨he, m, hw.symm⟩
  generalize byI (p + q) 2 = r at *
  go_wp2_with fail
  go_quiet (with_reducible exact S1.out _)
  go_wp2_with fail
  go_ret2
  exact ⟨by rw [MI.out]; rfl, bdraw B3 _⟩
theorem mid_any (HS : SortSaid) (v : Value) (l : List Int) (bad : Int) (w : World) (h : Rd w v (ints l)) (hl : l.length * 8 ≤ 140737488351232) :
    Calls Try.prog 10 #[v, .int .i64 bad] w fun e w' => e = .returned (midV l bad) ∧ Below w.heap.size w w' := by
  unfold midV
  cases hm : mayM l bad
  · exact (mid_no v l bad w h (by omega) hm).mono fun e w' ⟨he, hw⟩ => ⟨he, by rw [hw]; exact Below.refl _ _⟩
  · exact mid_yes HS v l bad w h hl hm
end Go.Proofs.Ytmkphllfignbpaa
