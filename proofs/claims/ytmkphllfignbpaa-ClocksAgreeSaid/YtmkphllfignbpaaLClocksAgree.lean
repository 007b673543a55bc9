/-
  The walk of ClocksAgree: of two lists of readings, all but so many of which are right, the middles lie near.
-/
import Derived.Test.YtmkphllfignbpaaClkArgsB
import Derived.Test.YtmkphllfignbpaaClkNew
import Derived.Test.YtmkphllfignbpaaClkSort
import Derived.Test.YtmkphllfignbpaaKit3
namespace Go.Proofs.Ytmkphllfignbpaa
open Go.RowKit
open Go

/-- What is known behind the first k places. -/
structure AgrI (A B : List Int) (V : List Nat) (k : Nat) (lo hi off : Int) : Prop where
  right : ∀ i, i < k → i ∉ V → lo ≤ A.getD i 0 ∧ A.getD i 0 ≤ hi ∧ A.getD i 0 - B.getD i 0 ≤ off ∧ B.getD i 0 - A.getD i 0 ≤ off
  small : ∀ i, i < k → smallB (A.getD i 0) = true ∧ smallB (B.getD i 0) = true
theorem getD_at {l : List Int} {k : Nat} (h : k < l.length) : l.getD k 0 = l[k] := by simp [List.getD_eq_getElem?_getD, h]
theorem AgrI.wrong {A B : List Int} {V : List Nat} {k : Nat} {lo hi off : Int} (h : AgrI A B V k lo hi off) (hv : k ∈ V) (ha : smallB (A.getD k 0) = true) (hb : smallB (B.getD k 0) = true) : AgrI A B V (k + 1) lo hi off := by
  refine ⟨fun i hi hn => ?_, fun i hi => ?_⟩
  · by_cases e : i = k
    · subst e; exact absurd hv hn
    · exact h.right i (by omega) hn
  · by_cases e : i = k
    · subst e; exact ⟨ha, hb⟩
    · exact h.small i (by omega)
theorem AgrI.more {A B : List Int} {V : List Nat} {k : Nat} {lo hi off lo' hi' off' : Int} (h : AgrI A B V k lo hi off) (ha : smallB (A.getD k 0) = true) (hb : smallB (B.getD k 0) = true)
    (h1 : lo' ≤ lo ∧ lo' ≤ A.getD k 0) (h2 : hi ≤ hi' ∧ A.getD k 0 ≤ hi') (h3 : off ≤ off' ∧ A.getD k 0 - B.getD k 0 ≤ off' ∧ B.getD k 0 - A.getD k 0 ≤ off') : AgrI A B V (k + 1) lo' hi' off' := by
  refine ⟨fun i hi hn => ?_, fun i hi => ?_⟩
  · by_cases e : i = k
    · subst e; exact ⟨h1.2, h2.2, h3.2⟩
    · have := h.right i (by omega) hn
      omega
  · by_cases e : i = k
    · subst e; exact ⟨ha, hb⟩
    · exact h.small i (by omega)
theorem any_mem (V : List Nat) (k : Nat) : (V.any fun n => n == k) = decide (k ∈ V) := by
  rw [Bool.eq_iff_iff]
  simp
theorem max3 (z a b m : Int) (h : m = (if (if z < a then a else z) < b then b else if z < a then a else z)) (h1 : z ≤ 2199023255552) (h2 : a ≤ 2199023255552) (h3 : b ≤ 2199023255552) : Hid (z ≤ m ∧ a ≤ m ∧ b ≤ m ∧ m ≤ 2199023255552) := by
  unfold Hid
  subst h
  by_cases e1 : z < a
  · rw [if_pos e1]
    by_cases e2 : a < b
    · rw [if_pos e2]; omega
    · rw [if_neg e2]; omega
  · rw [if_neg e1]
    by_cases e2 : z < b
    · rw [if_pos e2]; omega
    · rw [if_neg e2]; omega
set_option maxHeartbeats 8000000 in
set_option maxRecDepth 100000 in
theorem walk_ClocksAgree (v0 : Value) (W : World) (A0 : Arg Try.prog 44 W v0) :
    Calls Try.prog 5 #[v0] W fun e w' => e = .returned (.bool true) ∧ Below W.heap.size W w' := by
  obtain ⟨u1, u2, u3, A, B, V, bad, rfl, R1, R2, R3, hV, hbad, hA, hB⟩ := A0.readings
  clear A0
  obtain ⟨a1, c1, rfl, hc1, hm1⟩ := R1.shape
  obtain ⟨a2, c2, rfl, hc2, hm2⟩ := R2.shape
  obtain ⟨a3, c3, rfl, hc3, hm3, _, hcell3⟩ := R3
  rw [List.length_map] at *
  unfold maxLen at hm1 hm2 hm3
  have L := fun w => lives_any sort_any w
  have HL := Lib.hid L
  have M1 := Lib.hid (fun v l w h hl => mid_any sort_any v l bad w h hl)
  have K0 := Lib.hid (heap_alloc_new W (.cells #[.slice a1 A.length c1, .slice a2 B.length c2, .slice a3 V.length c3, .int .u8 bad] 44 (0, 0)))
  have B0 := balloc (Below.refl W.heap.size W) (.cells #[.slice a1 A.length c1, .slice a2 B.length c2, .slice a3 V.length c3, .int .u8 bad] 44 (0, 0))
  have H1 := Lib.hid (R1.below B0)
  have H2 := Lib.hid (R2.below B0)
  have H3 : Hid (∀ i (h : i < V.length), ∃ b o, a3 = some ⟨b, o, none⟩ ∧ (W.alloc (.cells #[.slice a1 A.length c1, .slice a2 B.length c2, .slice a3 V.length c3, .int .u8 bad] 44 (0, 0))).cell? ⟨b, o + i, none⟩ = some (.int .u8 (V[i] : Nat)) ∧ V[i] < 256) := by
    intro i h
    obtain ⟨b, o, e, hc⟩ := hcell3 i _ (by rw [List.getElem?_map, List.getElem?_eq_getElem h]; rfl)
    exact ⟨b, o, e, (B0.cell (World.block_lt_of_cell? _ _ hc)).trans hc, hV _ (List.getElem_mem h)⟩
  have HA := Lib.hid hA
  have HB := Lib.hid hB
  clear L R1 R2 hcell3 hV hA hB
  by_cases e1 : B.length = A.length
  · rw [e1] at K0 B0 H1 H2 H3 hc2 ⊢
    have HE := Lib.hid e1
    clear e1
    by_cases e2 : A.length ≤ 3 * bad
    · go_enter Try.func5, Try.ntmps5
      go_wp2_with fail
      refine (HL.out _).mono ?_
      rintro e w2 ⟨rfl, b2⟩
      go_wp2_with fail
      go_ret
      exact ⟨rfl, bnext B0 b2⟩
    by_cases e3 : bad < V.length
    · go_enter Try.func5, Try.ntmps5
      go_wp2_with fail
      refine (HL.out _).mono ?_
      rintro e w2 ⟨rfl, b2⟩
      go_wp2_with fail
      go_ret
      exact ⟨rfl, bnext B0 b2⟩
    by_cases e4 : 200 < A.length
    · go_enter Try.func5, Try.ntmps5
      go_wp2_with fail
      refine (HL.out _).mono ?_
      rintro e w2 ⟨rfl, b2⟩
      go_wp2_with fail
      go_ret
      exact ⟨rfl, bnext B0 b2⟩
    have r2 : 3 * bad < A.length := by omega
    have r3 : V.length ≤ bad := by omega
    have r4 : A.length ≤ 200 := by omega
    clear e2 e3 e4
    have d1 : decide (bad < V.length) = false := decide_eq_false (by omega)
    have d2 : decide ((A.length : Int) ≤ 3 * bad) = false := decide_eq_false (by omega)
    have d3 : decide ((200 : Int) < A.length) = false := decide_eq_false (by omega)
    go_enter Try.func5, Try.ntmps5
    go_wp2_with fail
    generalize W.alloc (.cells #[.slice a1 A.length c1, .slice a2 A.length c2, .slice a3 V.length c3, .int .u8 bad] 44 (0, 0)) = w1 at *
    go_loopw [5, 6, 7, 8] (fun lo hi off i wr => ∃ (k : Nat) (x y z : Int), k ≤ A.length ∧ i = .int .i64 k ∧ lo = .int .i64 x ∧ hi = .int .i64 y ∧ off = .int .i64 z ∧ (-1099511627776 ≤ x ∧ x ≤ 2199023255552) ∧ (-2199023255552 ≤ y ∧ y ≤ 1099511627776) ∧ (0 ≤ z ∧ z ≤ 2199023255552) ∧ Hid (AgrI A B V k x y z) ∧ Below w1.heap.size w1 wr) (fun _ _ _ i _ => A.length - (intOf i).toNat)
    case atStart => exact ⟨0, _, _, _, by omega, rfl, rfl, rfl, rfl, by omega, by omega, by omega, ⟨fun i hi => by omega, fun i hi => by omega⟩, Below.refl _ _⟩
    case round =>
      obtain ⟨k, x, y, z, hk, rfl, rfl, rfl, rfl, ⟨x0, x1⟩, ⟨y0, y1⟩, ⟨z0, z1⟩, hI, hb⟩ := hrel
      have K1 := (hb.block _ (lt_of_block K0.out)).trans K0.out
      have g0 : wr.cell? ⟨W.heap.size, 0, none⟩ = some (.slice a1 A.length c1) := cell_of_row _ _ 0 _ _ _ K1
      have g1 : wr.cell? ⟨W.heap.size, 1, none⟩ = some (.slice a2 A.length c2) := cell_of_row _ _ 1 _ _ _ K1
      have g2 : wr.cell? ⟨W.heap.size, 2, none⟩ = some (.slice a3 V.length c3) := cell_of_row _ _ 2 _ _ _ K1
      clear K1
      by_cases hlt : k < A.length
      · obtain ⟨b1, o1, rfl, ca⟩ := (H1.out.below hb).get k hlt
        have hltB : k < B.length := by rw [HE.out]; exact hlt
        have R2 := H2.out.below hb
        rw [← HE.out] at R2
        obtain ⟨b2, o2, rfl, cb⟩ := R2.get k hltB
        clear R2
        obtain ⟨wo, hwo⟩ : ∃ wo : World, wo = wr := ⟨_, rfl⟩
        subst hwo
        go_wp2_with fail
        go_loop [9, 10] (fun t j => ∃ n : Nat, n ≤ V.length ∧ j = .int .i64 n ∧ t = .bool ((V.take n).any fun m => m == k)) (fun _ j => V.length - (intOf j).toNat)
        case atStart => exact ⟨0, by omega, rfl, rfl⟩
        case round =>
          obtain ⟨n, hn, rfl, rfl⟩ := hrel
          by_cases hn2 : n < V.length
          · obtain ⟨b3, o3, rfl, cv, hv⟩ := H3.out n hn2
            have cv := (hb.cell (World.block_lt_of_cell? _ _ cv)).trans cv
            have hs : ((V.take (n + 1)).any fun m => m == k) = (((V.take n).any fun m => m == k) || (V[n] == k)) := by
              rw [take_snoc _ _ hn2, List.any_append]
              simp
            have HS := Lib.hid hs
            clear hs hI H1 H2 H3 K0 HA HB HE M1 HL
            generalize V[n] = v at *
            cases hb0 : (V.take n).any fun m => m == k
            · by_cases hvk : v = k
              · subst hvk
                have HT : Hid (((V.take (n + 1)).any fun m => m == v) = true) := by unfold Hid; rw [HS.out]; simp
                clear HS hb0
                go_wp2_with fail
                go_round
                case rel => exact ⟨n + 1, by omega, by go_num, by rw [HT.out]⟩
                case measure => simp [intOf]; omega
              · have HT : Hid (((V.take (n + 1)).any fun m => m == k) = false) := by unfold Hid; rw [HS.out, hb0]; simp [hvk]
                have hne : ((v : Int) == (k : Int)) = false := by rw [beq_eq_false_iff_ne]; omega
                clear HS hb0
                go_wp2_with fail
                go_round
                case rel => exact ⟨n + 1, by omega, by go_num, by rw [HT.out]⟩
                case measure => simp [intOf]; omega
            · have HT : Hid (((V.take (n + 1)).any fun m => m == k) = true) := by unfold Hid; rw [HS.out, hb0]; simp
              clear HS hb0
              go_wp2_with fail
              go_round
              case rel => exact ⟨n + 1, by omega, by go_num, by rw [HT.out]⟩
              case measure => simp [intOf]; omega
          · obtain rfl : n = V.length := by omega
            rw [List.take_length, any_mem]
            have I1 : Hid (k ∈ V → smallB A[k] = true → smallB B[k] = true → AgrI A B V (k + 1) x y z) := by
              intro hv ha hb
              rw [← getD_at hlt] at ha
              rw [← getD_at hltB] at hb
              exact hI.out.wrong hv ha hb
            have I2 : Hid (smallB A[k] = true → smallB B[k] = true → ∀ x' y' z', x' ≤ x ∧ x' ≤ A[k] → y ≤ y' ∧ A[k] ≤ y' → z ≤ z' ∧ A[k] - B[k] ≤ z' ∧ B[k] - A[k] ≤ z' → AgrI A B V (k + 1) x' y' z') := by
              intro ha hb x' y' z' h1 h2 h3
              rw [← getD_at hlt] at ha h1 h2 h3
              rw [← getD_at hltB] at hb h3
              exact hI.out.more ha hb h1 h2 h3
            clear hI H3 HA HB HE M1 H1 H2 K0
            generalize A[k] = p at *
            generalize B[k] = q at *
            by_cases s1 : p < -1099511627776
            · go_wp2_with fail
              refine (HL.out _).mono ?_
              rintro e w2 ⟨rfl, b2⟩
              go_wp2_with fail
              go_ret
              exact ⟨rfl, bnext (B0.trans (hb.mono B0.size)) b2⟩
            by_cases s2 : 1099511627776 < p
            · go_wp2_with fail
              refine (HL.out _).mono ?_
              rintro e w2 ⟨rfl, b2⟩
              go_wp2_with fail
              go_ret
              exact ⟨rfl, bnext (B0.trans (hb.mono B0.size)) b2⟩
            by_cases s3 : q < -1099511627776
            · go_wp2_with fail
              refine (HL.out _).mono ?_
              rintro e w2 ⟨rfl, b2⟩
              go_wp2_with fail
              go_ret
              exact ⟨rfl, bnext (B0.trans (hb.mono B0.size)) b2⟩
            by_cases s4 : 1099511627776 < q
            · go_wp2_with fail
              refine (HL.out _).mono ?_
              rintro e w2 ⟨rfl, b2⟩
              go_wp2_with fail
              go_ret
              exact ⟨rfl, bnext (B0.trans (hb.mono B0.size)) b2⟩
            have sp : smallB p = true := by rw [smallB_iff]; omega
            have sq : smallB q = true := by rw [smallB_iff]; omega
            have J1 := Lib.hid (fun h => I1.out h sp sq)
            have J2 := Lib.hid (I2.out sp sq)
            clear I1 I2 sp sq
            by_cases hv : k ∈ V
            · have J3 := Lib.hid (J1.out hv)
              rw [decide_eq_true hv]
              clear J1 J2 hv
              go_wp2_with fail
              go_roundw
              case rel => exact ⟨k + 1, x, y, z, by omega, by go_num, rfl, rfl, rfl, by omega, by omega, by omega, J3, hb⟩
              case measure => simp [intOf]; omega
            · rw [decide_eq_false hv]
              clear J1 hv
              go_wp2_with fail
              have q1 : -2199023255552 ≤ p - q := by omega
              have q2 : p - q ≤ 2199023255552 := by omega
              have q3 : -2199023255552 ≤ q - p := by omega
              have q4 : q - p ≤ 2199023255552 := by omega
              have hX : Hid (∃ a, a = min x p) := ⟨_, rfl⟩
              obtain ⟨xx, hxx⟩ := hX
              obtain ⟨yy, hyy⟩ : ∃ a, a = max y p := ⟨_, rfl⟩
              rw [← hxx, ← hyy]
              have HXX := Lib.hid hxx
              have HYY := Lib.hid hyy
              clear hxx hyy
              go_quiet (fail)
              obtain ⟨zz, hzz⟩ : ∃ a : Int, a = (if (if z < p - q then p - q else z) < q - p then q - p else if z < p - q then p - q else z) := ⟨_, rfl⟩
              rw [← hzz]
              have HZZ : Hid (z ≤ zz ∧ p - q ≤ zz ∧ q - p ≤ zz ∧ zz ≤ 2199023255552) := max3 z _ _ zz hzz z1 q2 q4
              clear hzz q1 q2 q3 q4
              go_wp2_with fail
              go_roundw
              case rel => exact ⟨k + 1, xx, yy, zz, by omega, by go_num, rfl, rfl, rfl, by have := HXX.out; omega, by have := HYY.out; omega, by have := HZZ.out; omega, J2.out _ _ _ (by have := HXX.out; omega) (by have := HYY.out; omega) (by have := HZZ.out; omega), bdraw hb _⟩
              case measure => simp [intOf]; omega
      · obtain rfl : k = A.length := by omega
        have hag := mid_agree A B V bad x y z HE.out r2 r3 (fun i hi hn => hI.out.right i hi hn)
        have mA : mayM A bad = true := by
          rw [mayM_iff]
          refine ⟨by omega, by omega, fun v hv => ?_⟩
          obtain ⟨i, hi, rfl⟩ := List.getElem_of_mem hv
          rw [← getD_at hi]
          exact (hI.out.small i hi).1
        have mB : mayM B bad = true := by
          rw [mayM_iff]
          refine ⟨by omega, by have := HE.out; omega, fun v hv => ?_⟩
          obtain ⟨i, hi, rfl⟩ := List.getElem_of_mem hv
          rw [← getD_at hi]
          exact (hI.out.small i (by have := HE.out; omega)).2
        have R1 := H1.out.below hb
        have MA := M1.out _ _ wr R1 (by omega)
        have MB := fun w h => M1.out (.slice a2 A.length c2) B w h (by rw [HE.out]; omega)
        have R2 := Lib.hid (H2.out.below hb)
        unfold midV at MA MB
        rw [mA] at MA
        rw [mB] at MB
        simp only [if_true, Int.toNat_natCast] at MA MB
        obtain ⟨j1, j2, j3, j4⟩ := hag
        generalize midI A bad = mA' at *
        generalize midI B bad = mB' at *
        have HMA := Lib.hid MA
        have HMB := Lib.hid MB
        have B3 := B0.trans (hb.mono B0.size)
        have K2 := Lib.hid ((hb.block _ (lt_of_block K0.out)).trans K0.out)
        clear MA MB hI mA mB R1 H1 H2 H3 HA HB HE M1 K0 hb hlt
        go_wp2_with fail
        refine HMA.out.mono ?_
        rintro e w3 ⟨rfl, b3⟩
        have g1 := cell_of_row _ _ 1 _ _ _ ((b3.block _ (lt_of_block K2.out)).trans K2.out)
        have B4 := bnext B3 b3
        have R3 := Lib.hid (R2.out.below b3)
        clear b3 K2 R2 B3 HMA
        go_wp2_with fail
        refine (HMB.out _ R3.out).mono ?_
        rintro e w4 ⟨rfl, b4⟩
        have B5 := bnext B4 b4
        clear b4 B4 R3 HMB g1
        go_wp2_with fail
        refine (HL.out _).mono ?_
        rintro e w5 ⟨rfl, b5⟩
        go_wp2_with fail
        go_ret
        exact ⟨rfl, bnext B5 b5⟩
  · go_enter Try.func5, Try.ntmps5
    go_wp2_with fail
    refine (HL.out _).mono ?_
    rintro e w2 ⟨rfl, b2⟩
    go_wp2_with fail
    go_ret
    exact ⟨rfl, bnext B0 b2⟩
end Go.Proofs.Ytmkphllfignbpaa
