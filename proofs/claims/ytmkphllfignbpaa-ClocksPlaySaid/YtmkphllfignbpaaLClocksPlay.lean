/-
  The walk of ClocksPlay: whatever a clock is asked, and turned by, it tells what the chapter says.
-/
import Derived.Test.YtmkphllfignbpaaClkActs
import Derived.Test.YtmkphllfignbpaaClkNew
import Derived.Test.YtmkphllfignbpaaClkSort
import Derived.Test.YtmkphllfignbpaaRefClk
namespace Go.Proofs.Ytmkphllfignbpaa
open Go.RowKit
open Go

theorem atV_two (f g u t : Int) : ∃ x e : Int, atV f g u t = .tuple #[.int .i64 x, .int .i64 e] := by
  unfold atV
  split
  · exact ⟨_, _, rfl⟩
  · exact ⟨_, _, rfl⟩
/-- Both clocks, side by side. -/
structure TwoC (W : World) (p q : Nat) (f g u : Int) (w : World) : Prop where
  bel : Below W.heap.size W w
  lo : W.heap.size ≤ p
  hi : p < q
  small : smallB u = true
  a : Clk w p f g u
  b : RClk w q f g u
theorem TwoC.below {W w w' : World} {p q : Nat} {f g u : Int} (h : TwoC W p q f g u w) (hb : Below w.heap.size w w') : TwoC W p q f g u w' := ⟨bnext h.bel hb, h.lo, h.hi, h.small, h.a.below hb, h.b.below hb⟩
theorem TwoC.turn {W w : World} {p q : Nat} {f g u k : Int} (h : TwoC W p q f g u w) (hk : smallB (u + k) = true) (d : Nat) :
    TwoC W p q f g (u + k) (((w.setCell ⟨p, 3, none⟩ (.int .i64 (u + k))).drewN d).setCell ⟨q, 2, none⟩ (.int .i64 (u + k))) := by
  have h1 := h.lo
  have h2 := h.hi
  refine ⟨(bdraw (h.bel.setCell (p := ⟨p, 3, none⟩) h1 _) d).setCell (p := ⟨q, 2, none⟩) (by show W.heap.size ≤ q; omega) _, h1, h2, hk, ?_, ?_⟩
  · exact (Below.heap_setCell _ _ _ _ (by show p ≠ q; omega)).trans (heap_setCell_same _ _ 3 _ _ _ h.a)
  · have hq : (w.setCell ⟨p, 3, none⟩ (.int .i64 (u + k))).heap[q]? = some (.cells #[.int .i64 f, .int .i64 g, .int .i64 u] 59 (0, 0)) := (Below.heap_setCell w _ _ _ (by show q ≠ p; omega)).trans h.b
    exact heap_setCell_same _ _ 2 _ _ _ hq
set_option maxHeartbeats 4000000 in
set_option maxRecDepth 100000 in
theorem walk_ClocksPlay (v0 v1 v2 : Value) (W : World) (A0 : Arg Try.prog 3 W v0) (A1 : Arg Try.prog 3 W v1) (A2 : Arg Try.prog 30 W v2) :
    Calls Try.prog 4 #[v0, v1, v2] W fun e w' => e = .returned (.bool true) ∧ Below W.heap.size W w' := by
  obtain ⟨s, rfl, _⟩ := A0.int Try.underlying3
  obtain ⟨g, rfl, _⟩ := A1.int Try.underlying3
  obtain ⟨l, hR, hl⟩ := A2.acts
  clear A0 A1 A2
  obtain ⟨a, c, rfl, hc, hm⟩ := hR.shape
  unfold maxLen at hm
  rw [List.length_map] at *
  have L := fun w => lives_any sort_any w
  have HL := Lib.hid L
  have HR := Lib.hid hR
  have HLB := Lib.hid hl
  clear L hR hl
  by_cases hlen : 200 < l.length
  · go_enter Try.func4, Try.ntmps4
    go_wp2_with fail
    refine (HL.out _).mono ?_
    rintro e w1 ⟨rfl, b1⟩
    go_wp2_with fail
    go_ret
    exact ⟨rfl, b1⟩
  · cases hnew : newB s g
    · have N := fun w => new_no s g w (newB_not s g hnew)
      have N2 := fun w => rnew_no s g w (newB_not s g hnew)
      have HN := Lib.hid N
      have HN2 := Lib.hid N2
      clear N N2 hnew
      go_enter Try.func4, Try.ntmps4
      go_wp2_with fail
      refine (HN.out _).mono ?_
      rintro e w1 ⟨rfl, rfl⟩
      go_wp2_with fail
      refine (HN2.out _).mono ?_
      rintro e w1 ⟨rfl, rfl⟩
      go_wp2_with fail
      refine wp_loop_rounds 1 ?_
      rw [rounds_succ]
      go_wp2_with fail
      all_goals
        refine (HL.out _).mono ?_
        rintro e w1 ⟨rfl, b1⟩
        go_wp2_with fail
        go_ret
        exact ⟨rfl, b1⟩
    · obtain ⟨n1, n2, n3⟩ := (newB_iff s g).1 hnew
      have HN := Lib.hid (fun w => new_ok s g w n1 n2 n3)
      have HN2 := Lib.hid (fun w => rnew_ok s g w n1 n2 n3)
      have HNC : Hid (∀ u, smallB u = true → ClkN s g u) := fun u hu => newB_n hnew hu
      clear hnew n1
      go_enter Try.func4, Try.ntmps4
      go_wp2_with fail
      refine (HN.out _).mono ?_
      rintro e w1 ⟨rfl, c1, b1⟩
      have C1 := Lib.hid c1
      clear c1
      go_wp2_with fail
      refine (HN2.out _).mono ?_
      rintro e w2 ⟨rfl, c2, b2⟩
      have T : Hid (TwoC W W.heap.size w1.heap.size s g 0 w2) := ⟨bnext b1 b2, Nat.le_refl _, lt_of_block C1.out, by decide, C1.out.below b2, c2⟩
      clear c2 b1 b2 C1 HN HN2
      generalize w1.heap.size = q at *
      generalize hp : W.heap.size = p at T
      clear hp
      go_wp2_with fail
      go_loopw [11] (fun i wr => ∃ (n : Nat) (u : Int), n ≤ l.length ∧ i = .int .i64 n ∧ Hid (TwoC W p q s g u wr)) (fun i _ => l.length - (intOf i).toNat)
      case atStart => exact ⟨0, 0, by omega, rfl, T⟩
      case round =>
        obtain ⟨n, u, hn, rfl, T1⟩ := hrel
        clear T
        by_cases hlt : n < l.length
        · obtain ⟨b, o, rfl, hcl⟩ := (HR.out.below T1.out.bel).get n (by simpa using hlt)
          rw [List.getElem_map] at hcl
          obtain ⟨k0, k1, k2⟩ := HLB.out _ (List.getElem_mem hlt)
          generalize l[n] = act at *
          obtain ⟨kind, k⟩ := act
          simp only at k0 k1 k2
          have x0 : wr.cell? ⟨b, o + n * 2, none⟩ = some (.int .u8 kind) := hcl 0 _ rfl
          have x1 : wr.cell? ⟨b, o + n * 2 + 1, none⟩ = some (.int .i64 k) := hcl 1 _ rfl
          have NC := HNC.out u T1.out.small
          clear hcl
          by_cases e2 : kind % 4 = 2
          · have e2' : (((kind : Int) % 4) == 2) = true := by rw [beq_iff_eq]; omega
            go_wp2_with fail
            refine (when_rel wr p s g u k T1.out.a NC).mono ?_
            rintro e w3 ⟨y1, r1, R1, rfl, b3⟩
            have T3 := Lib.hid (T1.out.below b3)
            have HR1 := Lib.hid R1
            clear R1 b3 T1 x0 x1
            go_wp2_with fail
            refine (rwhen_rel w3 q s g u k T3.out.b NC).mono ?_
            rintro e w4 ⟨y2, r2, R2, rfl, b4⟩
            obtain ⟨rfl, rfl⟩ := HR1.out.one n2 n3 R2
            have T4 := Lib.hid (T3.out.below b4)
            clear R2 b4 T3 HR1
            go_wp2_with fail
            go_roundw
            case rel => exact ⟨n + 1, u, by omega, by go_num, T4⟩
            case measure => simp [intOf]; omega
          · have e2' : (((kind : Int) % 4) == 2) = false := by rw [beq_eq_false_iff_ne]; omega
            by_cases e3 : kind % 4 = 3
            · have e3' : (((kind : Int) % 4) == 3) = true := by rw [beq_iff_eq]; omega
              cases hk : smallB k
              · have TA := Lib.hid (turn_arg wr p s g u k T1.out.a hk)
                have TB := Lib.hid (fun w => rturn_arg w q k hk)
                clear hk
                go_wp2_with fail
                refine TA.out.mono ?_
                rintro e w3 ⟨rfl, rfl⟩
                go_wp2_with fail
                refine (TB.out _).mono ?_
                rintro e w3 ⟨rfl, rfl⟩
                go_wp2_with fail
                go_roundw
                case rel => exact ⟨n + 1, u, by omega, by go_num, T1⟩
                case measure => simp [intOf]; omega
              · have TA := turn_ok wr p s g u k T1.out.a NC hk
                have hb3 : ∀ w, RClk w q s g u → _ := fun w h => rturn_ok w q s g u k h NC hk
                cases hs : smallB (u + k)
                · simp only [hs, Bool.false_eq_true, if_false] at TA hb3
                  have HTA := Lib.hid TA
                  have HTB := Lib.hid hb3
                  clear TA hb3 hk hs
                  go_wp2_with fail
                  refine HTA.out.mono ?_
                  rintro e w3 ⟨rfl, rfl⟩
                  go_wp2_with fail
                  refine (HTB.out _ T1.out.b).mono ?_
                  rintro e w3 ⟨d, rfl, rfl⟩
                  go_wp2_with fail
                  go_roundw
                  case rel => exact ⟨n + 1, u, by omega, by go_num, T1.out.below (bdraw (Below.refl _ _) d)⟩
                  case measure => simp [intOf]; omega
                · have HT2 : Hid (∀ d, TwoC W p q s g (u + k) (((wr.setCell ⟨p, 3, none⟩ (.int .i64 (u + k))).drewN d).setCell ⟨q, 2, none⟩ (.int .i64 (u + k)))) := fun d => T1.out.turn hs d
                  have HB3 : Hid (RClk (wr.setCell ⟨p, 3, none⟩ (.int .i64 (u + k))) q s g u) := (Below.heap_setCell wr _ _ _ (by have := T1.out.hi; show q ≠ p; omega)).trans T1.out.b
                  simp only [hs, if_true] at TA hb3
                  have HTA := Lib.hid TA
                  have HTB := Lib.hid hb3
                  clear TA hb3 hk hs
                  go_wp2_with fail
                  refine HTA.out.mono ?_
                  rintro e w3 ⟨rfl, rfl⟩
                  go_wp2_with fail
                  refine (HTB.out _ HB3.out).mono ?_
                  rintro e w3 ⟨d, rfl, rfl⟩
                  go_wp2_with fail
                  go_roundw
                  case rel => exact ⟨n + 1, u + k, by omega, by go_num, HT2.out d⟩
                  case measure => simp [intOf]; omega
            · have e3' : (((kind : Int) % 4) == 3) = false := by rw [beq_eq_false_iff_ne]; omega
              obtain ⟨y1, r1, hy⟩ := atV_two s g u k
              have AA := at_any wr p s g u k T1.out.a NC
              have AB := fun w h => rat_any w q s g u k h NC
              rw [hy] at AA AB
              have HAA := Lib.hid AA
              have HAB := Lib.hid AB
              clear AA AB hy
              go_wp2_with fail
              refine HAA.out.mono ?_
              rintro e w3 ⟨rfl, d3, rfl⟩
              have T3 := Lib.hid (T1.out.below (bdraw (Below.refl _ _) d3))
              clear T1 x0 x1
              go_wp2_with fail
              refine (HAB.out _ T3.out.b).mono ?_
              rintro e w4 ⟨rfl, d4, rfl⟩
              have T4 := Lib.hid (T3.out.below (bdraw (Below.refl _ _) d4))
              clear T3
              rw [World.drewN_drewN] at *
              go_wp2_with fail
              go_roundw
              case rel => exact ⟨n + 1, u, by omega, by go_num, T4⟩
              case measure => simp [intOf]; omega
        · obtain rfl : n = l.length := by omega
          go_wp2_with fail
          refine (HL.out _).mono ?_
          rintro e w3 ⟨rfl, b3⟩
          go_wp2_with fail
          go_ret
          exact ⟨rfl, bnext T1.out.bel b3⟩
end Go.Proofs.Ytmkphllfignbpaa
