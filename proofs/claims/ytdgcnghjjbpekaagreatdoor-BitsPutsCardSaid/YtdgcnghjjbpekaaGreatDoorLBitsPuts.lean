/-
  The walk of BitsPuts: whatever numbers are put, each answer, all bytes, and how many bits there are, are the reference's; the answers are memory of their own; a writer that is not there answers nothing.
-/
import Derived.Test.YtdgcnghjjbpekaaGreatDoorPtInv
import Derived.Test.YtdgcnghjjbpekaaGreatDoorPtOps
import Derived.Test.YtdgcnghjjbpekaaGreatDoorPtArgs
import Derived.Test.YtdgcnghjjbpekaaGreatDoorSame
import Derived.Deep.RegionHeld3
namespace Go.Proofs.YtdgcnghjjbpekaaGreatDoor
open Go.RowKit
open Go

/-- No list that is held shares the room of a new one. -/
theorem ap_of2 {its : List It} {v : Value} {b : Nat} (h1 : ∀ it ∈ its, ∀ x, it.has x → x < b) (h2 : ∀ x, roomOf v = some x → b ≤ x) : ∀ (i : Nat) (a : It), its[i]? = some a → ∀ x, a.has x → roomOf v ≠ some x := by
  intro i a hi x hx e
  have := h1 a (List.mem_of_getElem? hi) x hx
  have := h2 x e
  omega
theorem therenil_any (w : World) : Calls Tryz.prog 13 #[.pointer none] w fun e w' => e = .returned (.bool false) ∧ w = w' := by
  go_enter Tryz.func13, Tryz.ntmps13
  go_wp2_with fail
  go_ret
  exact ⟨rfl, rfl⟩
theorem therezero_any (z : Nat) (w : World) (h : w.heap[z]? = some (.cells #[.pointer none] 59 (0, 0))) : Calls Tryz.prog 13 #[.pointer (some ⟨z, 0, none⟩)] w fun e w' => e = .returned (.bool false) ∧ w = w' := by
  have c0 : w.cell? ⟨z, 0, none⟩ = some (.pointer none) := cell_of_row _ _ _ _ _ _ h
  go_enter Tryz.func13, Tryz.ntmps13
  go_wp2_with fail
  go_ret
  exact ⟨rfl, rfl⟩
theorem putnil_any (w : World) : Calls Tryz.prog 5 #[.pointer none, .int .u64 0, .int .i64 0] w fun e w' => e = .returned (.int .i64 2) ∧ Below w.heap.size w w' := by
  go_enter Tryz.func5, Tryz.ntmps5
  go_wp2_with fail
  refine (therenil_any _).mono ?_
  rintro e w1 ⟨rfl, rfl⟩
  go_wp2_with fail
  go_ret
  exact ⟨rfl, balloc (Below.refl _ _) _⟩
theorem putzero_any (z : Nat) (w : World) (h : w.heap[z]? = some (.cells #[.pointer none] 59 (0, 0))) : Calls Tryz.prog 5 #[.pointer (some ⟨z, 0, none⟩), .int .u64 0, .int .i64 0] w fun e w' => e = .returned (.int .i64 2) ∧ Below w.heap.size w w' := by
  go_enter Tryz.func5, Tryz.ntmps5
  go_wp2_with fail
  refine (therezero_any z _ ((heap_alloc_old (h := lt_of_block h) w _).trans h)).mono ?_
  rintro e w1 ⟨rfl, rfl⟩
  go_wp2_with fail
  go_ret
  exact ⟨rfl, balloc (Below.refl _ _) _⟩
theorem bytesnil_any (w : World) : Calls Tryz.prog 8 #[.pointer none] w fun e w' => e = .returned (.slice none 0 0) ∧ w = w' := by
  go_enter Tryz.func8, Tryz.ntmps8
  go_wp2_with fail
  refine (therenil_any _).mono ?_
  rintro e w1 ⟨rfl, rfl⟩
  go_wp2_with fail
  go_ret
  exact ⟨rfl, rfl⟩
theorem lenzero_any (z : Nat) (w : World) (h : w.heap[z]? = some (.cells #[.pointer none] 59 (0, 0))) : Calls Tryz.prog 7 #[.pointer (some ⟨z, 0, none⟩)] w fun e w' => e = .returned (.int .i64 0) ∧ w = w' := by
  go_enter Tryz.func7, Tryz.ntmps7
  go_wp2_with fail
  refine (therezero_any z _ h).mono ?_
  rintro e w1 ⟨rfl, rfl⟩
  go_wp2_with fail
  go_ret
  exact ⟨rfl, rfl⟩

theorem agg_u64 (w : World) : (isAgg 50).run Tryz.prog w = .ok false w := by kernel_rfl
theorem agg_int (w : World) : (isAgg 3).run Tryz.prog w = .ok false w := by kernel_rfl
theorem StepsOk.cons {P : Program} {dl bs : List Nat} {ds : List Dv} {imps : List (Nat × Nat)} {C : Bool → Bool → World → Prop} {i1 i2 : Nat} {Q : Exit → Act → World → Prop} {i : Nat} {o : Oper} {r : List Oper} (h : StepOk P dl bs ds imps C i1 i2 Q i o) (hr : StepsOk P dl bs ds imps C i1 i2 Q (i + 1) r) : StepsOk P dl bs ds imps C i1 i2 Q i (o :: r) := ⟨h, hr⟩
theorem StepsOk.nil {P : Program} {dl bs : List Nat} {ds : List Dv} {imps : List (Nat × Nat)} {C : Bool → Bool → World → Prop} {i1 i2 : Nat} {Q : Exit → Act → World → Prop} {i : Nat} : StepsOk P dl bs ds imps C i1 i2 Q i [] := trivial
/-- The slots that come up, and what is told of each. -/
def ptDl : List Nat := (List.range 35).map (· + 25)
def ptDs (g p b o n0 c k N : Nat) (K er : Int) (n : Nat) : List Dv := [(.lit (.slice (some ⟨b, o, none⟩) n0 c)), .any, .any, (.lit (.pointer (some ⟨g, 0, none⟩))), (.lit (.pointer (some ⟨p, 0, none⟩))), .any, (.lit (.int .i64 k)), .any, .any, .any, .any, .any, .any, .any, .any, .any, .any, .any, .any, .any, .any, .any, .any, .any, .any, (.lit (.pointer (some ⟨g, 0, none⟩))), (.lit (.slice (some ⟨b, o, none⟩) n0 c)), (.lit (.int .i64 k)), (.lit (.pointer (some ⟨b, o + k * 2, none⟩))), (.lit (.pointer (some ⟨b, o + k * 2, none⟩))), (.lit (.int .u64 N)), (.lit (.slice (some ⟨b, o, none⟩) n0 c)), (.lit (.int .i64 k)), (.lit (.pointer (some ⟨b, o + k * 2, none⟩))), (.lit (.pointer (some ⟨b, o + k * 2 + 1, none⟩))), (.lit (.int .i64 K)), (.lit (.int .i64 er)), (.lit (.pointer (some ⟨p, 0, none⟩))), (.lit (.slice (some ⟨b, o, none⟩) n0 c)), (.lit (.int .i64 k)), (.lit (.pointer (some ⟨b, o + k * 2, none⟩))), (.lit (.pointer (some ⟨b, o + k * 2, none⟩))), (.lit (.int .u64 N)), (.lit (.slice (some ⟨b, o, none⟩) n0 c)), (.lit (.int .i64 k)), (.lit (.pointer (some ⟨b, o + k * 2, none⟩))), (.lit (.pointer (some ⟨b, o + k * 2 + 1, none⟩))), (.lit (.int .i64 K)), (.lit (.int .i64 er)), (.lit (.bool false)), (.lit (.bool false)), (.lit (.pointer (some ⟨g, 0, none⟩))), (.lit (.int .i64 n)), (.lit (.pointer (some ⟨p, 0, none⟩))), (.lit (.pointer (some ⟨p, 0, none⟩))), (.lit (.pointer (some ⟨p, 0, none⟩))), (.len n), (.lit (.int .i64 n)), (.lit (.bool false)), (.lit (.bool false))]

set_option maxRecDepth 20000 in
set_option maxHeartbeats 4000000 in
theorem walk_BitsPuts (x : Value) (W : World) (A : Arg Tryz.prog 22 W x) : Calls Tryz.prog 3 #[x] W fun e w' => e = .returned (.bool true) ∧ Below W.heap.size W w' := by
  obtain ⟨l, hR, hl⟩ := A.steps
  clear A
  obtain ⟨a, c, rfl, hac, hcm⟩ := hR.shape
  have hlen : (l.map rowS).length = l.length := by simp
  rw [hlen] at hR hac ⊢
  unfold maxLen at hcm
  have HR := Lib.hid hR
  have HL := Lib.hid hl
  clear hR hl hlen
  by_cases hbig : 300 < l.length
  · have e1 : decide (300 < (l.length : Int)) = true := by simp; omega
    go_enter Tryz.func3, Tryz.ntmps3
    go_wp2_with fail
    go_ret
    exact ⟨rfl, Below.refl _ _⟩
  · have e1 : decide (300 < (l.length : Int)) = false := by simp; omega
    go_enter Tryz.func3, Tryz.ntmps3
    go_wp2_with fail
    refine (new_any W).mono ?_
    rintro e w1 ⟨rfl, hw1, b1⟩
    go_wp2_with fail
    have BB : Below W.heap.size W ((w1.alloc (.cells #[.slice none 0 0] 28 (0, 0))).alloc (.cells #[.int .i64 0, .slice none 0 0, .slice none 0 0, .slice none 0 0, .slice none 0 0, .slice none 0 0, .slice none 0 0, .slice none 0 0, .slice none 0 0, .slice none 0 0, .slice none 0 0, .slice none 0 0, .slice none 0 0, .slice none 0 0, .slice none 0 0, .slice none 0 0, .slice none 0 0, .slice none 0 0] 47 (0, 0))) := balloc (balloc b1 _) _
    have P0 : PIp W (W.heap.size + 1) w1.heap.size (w1.heap.size + 1) [] [] 0 W.heap.size (.slice none 0 0) (.slice none 0 0) [] ((w1.alloc (.cells #[.slice none 0 0] 28 (0, 0))).alloc (.cells #[.int .i64 0, .slice none 0 0, .slice none 0 0, .slice none 0 0, .slice none 0 0, .slice none 0 0, .slice none 0 0, .slice none 0 0, .slice none 0 0, .slice none 0 0, .slice none 0 0, .slice none 0 0, .slice none 0 0, .slice none 0 0, .slice none 0 0, .slice none 0 0, .slice none 0 0, .slice none 0 0] 47 (0, 0))) := by
      have hs : (w1.alloc (.cells #[.slice none 0 0] 28 (0, 0))).heap.size = w1.heap.size + 1 := by simp
      have hb := bkB_start W.heap.size (w1.alloc (.cells #[.slice none 0 0] 28 (0, 0))) (by have := b1.size; simp; omega)
      rw [hs] at hb
      refine ⟨hw1.below (balloc (balloc (Below.refl _ _) _) _), ⟨b1.size, heap_alloc2_old _ _ _, ⟨rfl, .inl ⟨rfl, rfl⟩⟩, by simp⟩, hb, rfl, BB, ?_, by simp⟩
      rintro k (rfl | hk) (hk2 | hk2)
      · have := lt_of_block hw1.2.row
        omega
      · cases hk2
      · cases hk
      · cases hk
    have I0 : PI W (W.heap.size + 1) w1.heap.size (w1.heap.size + 1) [] [] 0 ((w1.alloc (.cells #[.slice none 0 0] 28 (0, 0))).alloc (.cells #[.int .i64 0, .slice none 0 0, .slice none 0 0, .slice none 0 0, .slice none 0 0, .slice none 0 0, .slice none 0 0, .slice none 0 0, .slice none 0 0, .slice none 0 0, .slice none 0 0, .slice none 0 0, .slice none 0 0, .slice none 0 0, .slice none 0 0, .slice none 0 0, .slice none 0 0, .slice none 0 0] 47 (0, 0))) := ⟨_, _, _, _, P0⟩
    clear P0 BB hw1 b1
    generalize (w1.alloc (.cells #[.slice none 0 0] 28 (0, 0))).alloc (.cells #[.int .i64 0, .slice none 0 0, .slice none 0 0, .slice none 0 0, .slice none 0 0, .slice none 0 0, .slice none 0 0, .slice none 0 0, .slice none 0 0, .slice none 0 0, .slice none 0 0, .slice none 0 0, .slice none 0 0, .slice none 0 0, .slice none 0 0, .slice none 0 0, .slice none 0 0, .slice none 0 0] 47 (0, 0)) = w2 at *
    generalize w1.heap.size + 1 = gb at *
    generalize w1.heap.size = p at *
    go_loopw [6] (fun i wr => ∃ k : Nat, k ≤ l.length ∧ i = .int .i64 k ∧ ∃ L : List Bool, L.length ≤ 64 * k ∧ PI W (W.heap.size + 1) p gb L L k wr) (fun i _ => l.length - (intOf i).toNat)
    case atStart => exact ⟨0, by omega, rfl, [], by simp, I0⟩
    case round =>
      clear I0
      obtain ⟨k, hk, rfl, L, hL, I⟩ := hrel
      by_cases hlt : k < l.length
      · obtain ⟨b, o, rfl, hcl⟩ := HR.out.get k (by simpa using hlt)
        rw [List.getElem_map] at hcl
        have hN := HL.out l[k] (List.getElem_mem hlt)
        generalize l[k] = st at *
        obtain ⟨N, K⟩ := st
        have hcl0 : W.cell? ⟨b, o + k * 2, none⟩ = some (.int .u64 N) := hcl 0 _ rfl
        have hcl1 : W.cell? ⟨b, o + k * 2 + 1, none⟩ = some (.int .i64 K) := hcl 1 _ rfl
        obtain ⟨add, er, hadd, PW, PR⟩ := puts_both N K (by unfold U64 at hN; omega)
        have HPW := Lib.hid PW
        have HPR := Lib.hid PR
        have KC := Lib.hid (fun (L M : List Bool) (w9 : World) (h : PI W (W.heap.size + 1) p gb L M k w9) => (show w9.cell? ⟨b, o + k * 2, none⟩ = some (.int .u64 N) ∧ w9.cell? ⟨b, o + k * 2 + 1, none⟩ = some (.int .i64 K) from
          ⟨(h.bel.cell (p := ⟨b, o + k * 2, none⟩) (World.block_lt_of_cell? W _ hcl0)).trans hcl0, (h.bel.cell (p := ⟨b, o + k * 2 + 1, none⟩) (World.block_lt_of_cell? W _ hcl1)).trans hcl1⟩))
        have J0 : PI W (W.heap.size + 1) p gb L L k wr.drew := I.below (bdraw (Below.refl _ _) 1)
        obtain ⟨x0, x1⟩ := KC.out _ _ _ J0
        have hL2 : L.length ≤ 100000 := by omega
        have HLA : Hid ((L ++ add).length ≤ 64 * (k + 1)) := by unfold Hid; simp; omega
        clear hcl hcl0 hcl1 PW PR hN I
        go_wp2_with fail
        have H1 := Lib.hid (fun (b2 : Bool) (w : World) (h : PI W (W.heap.size + 1) p gb (bif false then L ++ add else L) (bif b2 then L ++ add else L) k w) => HPW.out _ _ _ _ _ _ _ _ h hL2)
        have H2 := Lib.hid (fun (b1 : Bool) (w : World) (h : PI W (W.heap.size + 1) p gb (bif b1 then L ++ add else L) (bif false then L ++ add else L) k w) => HPR.out _ _ _ _ _ _ _ _ h hL2)
        have HLEN : Hid (∀ w, PI W (W.heap.size + 1) p gb (L ++ add) (L ++ add) k w → Calls Tryz.prog 7 #[.pointer (some ⟨W.heap.size + 1, 0, none⟩)] w fun e w' => e = .returned (.int .i64 (L ++ add).length) ∧ w = w') := by
          rintro w ⟨pr, v, vr, its, I3⟩
          exact len_any _ _ _ _ _ _ I3.wri
        have HLL : Hid (∀ w, PI W (W.heap.size + 1) p gb (L ++ add) (L ++ add) k w → ∃ av cv, w.cell? ⟨p, 0, none⟩ = some (.slice av (L ++ add).length cv)) := by
          rintro w ⟨pr, v, vr, its, I3⟩
          obtain ⟨av, cv, hv⟩ := owns_shape I3.ref.owns
          exact ⟨av, cv, hv ▸ cell_of_row _ _ 0 _ _ _ I3.ref.box⟩
        have HCE := Lib.hid (fun (w : World) (b1 b2 : Bool) (h : PI W (W.heap.size + 1) p gb (bif b1 then L ++ add else L) (bif b2 then L ++ add else L) k w) => KC.out _ _ _ h)
        generalize hn : (L ++ add).length = n at *
        clear HPW HPR KC x0 x1
        refine wp_region_two ptDl [0, 3, 4, 6] (ptDs (W.heap.size + 1) p b o l.length c k N K er n) [(25, 24), (24, 11), (24, 23)] (fun b1 b2 w => PI W (W.heap.size + 1) p gb (bif b1 then L ++ add else L) (bif b2 then L ++ add else L) k w) 11 23 rfl rfl ?_ ?_ ?_ ?_ (by decide) (by decide) ?_ J0 ?_ ?_
        · kernel_rfl
        · kernel_rfl
        · kernel_rfl
        · kernel_rfl
        · exact List.forall_mem_cons.2 ⟨rfl, List.forall_mem_cons.2 ⟨rfl, List.forall_mem_cons.2 ⟨rfl, List.forall_mem_cons.2 ⟨rfl, fun _ h => nomatch h⟩⟩⟩⟩
        · refine StepsOk.cons (sc_move (by decide) (by decide) rfl rfl rfl rfl rfl) ?_
          refine StepsOk.cons (sc_move (by decide) (by decide) rfl rfl rfl rfl rfl) ?_
          refine StepsOk.cons (sc_move (by decide) (by decide) rfl rfl rfl rfl rfl) ?_
          refine StepsOk.cons (sc_index (by decide) (by decide) rfl rfl rfl rfl rfl hlt rfl) ?_
          refine StepsOk.cons (sc_fieldN (by decide) (by decide) rfl rfl rfl rfl rfl) ?_
          refine StepsOk.cons (sc_load 50 (by decide) (by decide) rfl rfl rfl rfl agg_u64 (fun w b1 b2 h => (HCE.out w b1 b2 h).1) rfl) ?_
          refine StepsOk.cons (sc_move (by decide) (by decide) rfl rfl rfl rfl rfl) ?_
          refine StepsOk.cons (sc_move (by decide) (by decide) rfl rfl rfl rfl rfl) ?_
          refine StepsOk.cons (sc_index (by decide) (by decide) rfl rfl rfl rfl rfl hlt rfl) ?_
          refine StepsOk.cons (sc_fieldK (by decide) (by decide) rfl rfl rfl rfl rfl) ?_
          refine StepsOk.cons (sc_load 3 (by decide) (by decide) rfl rfl rfl rfl agg_int (fun w b1 b2 h => (HCE.out w b1 b2 h).2) rfl) ?_
          refine StepsOk.cons (sc_one (by decide) rfl _ rfl _ rfl fun a w b2 hC hk => ⟨5, #[.pointer (some ⟨W.heap.size + 1, 0, none⟩), .int .u64 N, .int .i64 K], by
          unfold execOp
          simp only [resolve, invoke, Sem.run_bind, List.map_toArray, List.map_cons, List.map_nil, hk.val (x := .tmp 25) rfl, hk.val (x := .tmp 30) rfl, hk.val (x := .tmp 35) rfl]
          simp [go_sem], (H1.out b2 w hC).mono fun e w' ⟨he, h⟩ => ⟨_, he, h, rfl⟩⟩) ?_
          refine StepsOk.cons (sc_move (by decide) (by decide) rfl rfl rfl rfl rfl) ?_
          refine StepsOk.cons (sc_move (by decide) (by decide) rfl rfl rfl rfl rfl) ?_
          refine StepsOk.cons (sc_move (by decide) (by decide) rfl rfl rfl rfl rfl) ?_
          refine StepsOk.cons (sc_index (by decide) (by decide) rfl rfl rfl rfl rfl hlt rfl) ?_
          refine StepsOk.cons (sc_fieldN (by decide) (by decide) rfl rfl rfl rfl rfl) ?_
          refine StepsOk.cons (sc_load 50 (by decide) (by decide) rfl rfl rfl rfl agg_u64 (fun w b1 b2 h => (HCE.out w b1 b2 h).1) rfl) ?_
          refine StepsOk.cons (sc_move (by decide) (by decide) rfl rfl rfl rfl rfl) ?_
          refine StepsOk.cons (sc_move (by decide) (by decide) rfl rfl rfl rfl rfl) ?_
          refine StepsOk.cons (sc_index (by decide) (by decide) rfl rfl rfl rfl rfl hlt rfl) ?_
          refine StepsOk.cons (sc_fieldK (by decide) (by decide) rfl rfl rfl rfl rfl) ?_
          refine StepsOk.cons (sc_load 3 (by decide) (by decide) rfl rfl rfl rfl agg_int (fun w b1 b2 h => (HCE.out w b1 b2 h).2) rfl) ?_
          refine StepsOk.cons (sc_two (by decide) rfl _ rfl _ rfl fun a w b1 hC hk => ⟨6, #[.pointer (some ⟨p, 0, none⟩), .int .u64 N, .int .i64 K], by
          unfold execOp
          simp only [resolve, invoke, Sem.run_bind, List.map_toArray, List.map_cons, List.map_nil, hk.val (x := .tmp 37) rfl, hk.val (x := .tmp 42) rfl, hk.val (x := .tmp 47) rfl]
          simp [go_sem], (H2.out b1 w hC).mono fun e w' ⟨he, h⟩ => ⟨_, he, h, rfl⟩⟩) ?_
          refine StepsOk.cons (sc_neqE (by decide) (by decide) rfl rfl rfl rfl rfl rfl) ?_
          refine StepsOk.cons (sc_move (by decide) (by decide) rfl rfl rfl rfl rfl) ?_
          refine StepsOk.cons (sc_move (by decide) (by decide) rfl rfl rfl rfl rfl) ?_
          refine StepsOk.cons (sc_late_call (by decide) (by decide) rfl _ rfl _ rfl 25 24 (by kernel_rfl) (by decide) (by decide) (by decide) fun a w hC hk => ⟨7, #[.pointer (some ⟨W.heap.size + 1, 0, none⟩)], by
          unfold execOp
          simp only [resolve, invoke, Sem.run_bind, List.map_toArray, List.map_cons, List.map_nil, hk.val (x := .tmp 51) rfl]
          simp [go_sem], (HLEN.out w hC).mono fun e w' ⟨he, h⟩ => ⟨_, he, h, rfl⟩⟩) ?_
          refine StepsOk.cons (sc_move (by decide) (by decide) rfl rfl rfl rfl rfl) ?_
          refine StepsOk.cons (sc_nilc (by decide) (by decide) rfl rfl rfl rfl rfl) ?_
          refine StepsOk.cons (sc_fieldL (by decide) (by decide) rfl rfl rfl rfl rfl) ?_
          refine StepsOk.cons (sc_late (by decide) (by decide) rfl _ rfl _ rfl 25 24 (by kernel_rfl) (by decide) (by decide) (by decide) fun a w hC hk => by
              obtain ⟨av, cv, hcell⟩ := HLL.out w hC
              refine ⟨.slice av n cv, ?_, av, cv, rfl⟩
              have e1 := hk.val (x := .tmp 55) rfl
              unfold execOp
              simp only [e1, Instr.loadAt, Instr.sureAddr, Sem.run_bind, Sem.run_pure, Result.andThen_ok]
              simp [loadVar, Sem.run_bind, load, Sem.run, hcell]) ?_
          refine StepsOk.cons (sc_len (by decide) (by decide) rfl rfl rfl 56 rfl rfl rfl rfl) ?_
          refine StepsOk.cons (sc_neqE (by decide) (by decide) rfl rfl rfl rfl rfl rfl) ?_
          refine StepsOk.cons (sc_pick (by decide) (by decide) rfl rfl rfl rfl rfl rfl) ?_
          exact StepsOk.nil
        intro ac w hC hdf hsz hkeep hv
        obtain ⟨T, dfs⟩ := ac
        dsimp only at hdf hsz hkeep hv
        subst hdf
        have hT := frame_of T ptDl _ hsz.symm hkeep
        have v36 : T.getD 36 undef = .int .i64 er := hv 36 (by decide)
        have v59 : T.getD 59 undef = .bool false := hv 59 (by decide)
        clear hsz hkeep hv
        simp only [ptDl, List.range, List.range.loop, List.map_cons, List.map_nil, Nat.reduceAdd, List.foldl_cons, List.foldl_nil, List.setIfInBounds_toArray, List.set_cons_zero, List.set_cons_succ] at hT
        rw [v59] at hT
        clear v36 v59
        generalize T.getD 25 undef = q25 at hT
        generalize T.getD 26 undef = q26 at hT
        generalize T.getD 27 undef = q27 at hT
        generalize T.getD 28 undef = q28 at hT
        generalize T.getD 29 undef = q29 at hT
        generalize T.getD 30 undef = q30 at hT
        generalize T.getD 31 undef = q31 at hT
        generalize T.getD 32 undef = q32 at hT
        generalize T.getD 33 undef = q33 at hT
        generalize T.getD 34 undef = q34 at hT
        generalize T.getD 35 undef = q35 at hT
        generalize T.getD 36 undef = q36 at hT
        generalize T.getD 37 undef = q37 at hT
        generalize T.getD 38 undef = q38 at hT
        generalize T.getD 39 undef = q39 at hT
        generalize T.getD 40 undef = q40 at hT
        generalize T.getD 41 undef = q41 at hT
        generalize T.getD 42 undef = q42 at hT
        generalize T.getD 43 undef = q43 at hT
        generalize T.getD 44 undef = q44 at hT
        generalize T.getD 45 undef = q45 at hT
        generalize T.getD 46 undef = q46 at hT
        generalize T.getD 47 undef = q47 at hT
        generalize T.getD 48 undef = q48 at hT
        generalize T.getD 49 undef = q49 at hT
        generalize T.getD 50 undef = q50 at hT
        generalize T.getD 51 undef = q51 at hT
        generalize T.getD 52 undef = q52 at hT
        generalize T.getD 53 undef = q53 at hT
        generalize T.getD 54 undef = q54 at hT
        generalize T.getD 55 undef = q55 at hT
        generalize T.getD 56 undef = q56 at hT
        generalize T.getD 57 undef = q57 at hT
        generalize T.getD 58 undef = q58 at hT
        subst hT
        obtain ⟨pr, vw, vr, its, I3⟩ := (show PI W (W.heap.size + 1) p gb (L ++ add) (L ++ add) k w from hC)
        clear hC J0 H1 H2 HLEN HLL HCE
        have HN := Lib.hid hn
        clear hn
        have hws := I3.bel.size
        go_wp2_with fail
        refine (bytes_any _ _ _ _ _ w I3.wri).mono ?_
        rintro e w3 ⟨ub, rfl, ob, b3⟩
        have I4 := I3.below b3
        go_wp2_with fail
        refine (rbytes_any _ _ _ _ w3 I4.ref).mono ?_
        rintro e w4 ⟨ur, rfl, orr, b4⟩
        have I5 := I4.below b4
        go_wp2_with fail
        have S1 := same_any ub ur (iN (pack (L ++ add))) (iN (pack (L ++ add))) w4 ((own_rd ob).below b4) (own_rd orr)
        rw [decide_eq_true rfl] at S1
        refine S1.mono ?_
        clear S1
        rintro e w5 ⟨rfl, b5⟩
        have I6 := I5.below b5
        go_wp2_with fail
        have hroom := fun x (hx : roomOf ub = some x) => ((Own.of_owns ob).room hx).1
        have hk100 : k < 100000 := by omega
        have hlen6 := I6.len
        have hbig8 : ((L ++ add).length + 7) / 8 ≤ 1000000 := by have h1 := HLA.out; rw [← HN.out] at h1; omega
        have hheld := fun it (hi : it ∈ its) x (hx : it.has x) => (I3.bk.held hi hx).1
        have hfw := fun x (hx : foot pr vw x) => I3.wri.2.foot_lt x hx
        have hfr := fun x (hx : foot p vr x) => (I3.ref.foot_lt x hx).2
        refine Calls.mono (bkB_keepByte I6.bk hk100 (by omega) (((Own.of_owns ob).mono hws).below (bnext b4 b5)) hbig8 (ap_of2 hheld hroom)) ?_
        rintro e w6 ⟨rfl, K1, q1⟩
        have I7 := I6.keep K1 q1 rfl (fun x hx => by
          rcases hx with hx | hx
          · have h1 := hroom x hx
            exact ⟨fun h => by have := hfw x h; omega, fun h => by have := hfr x h; omega⟩
          · cases hx)
        have IX : PI W (W.heap.size + 1) p gb (L ++ add) (L ++ add) (k + 1) w6 := ⟨_, _, _, _, I7⟩
        clear I3 I4 I5 I6 I7 K1 q1 ob orr b3 b4 b5 hroom hheld hfw hfr
        go_wp2_with fail
        go_roundw
        case rel => exact ⟨k + 1, by omega, by go_num, L ++ add, HN.out ▸ HLA.out, IX⟩
        case measure => simp [intOf]; omega
      · obtain rfl : k = l.length := by omega
        obtain ⟨pr, vw, vr, its, I3⟩ := I
        have k0 := heap_alloc_new wr (.cells #[.pointer none] 59 (0, 0))
        have B0 := balloc (Below.refl wr.heap.size wr) (.cells #[.pointer none] 59 (0, 0))
        have I4 := I3.below B0
        have hz : W.heap.size ≤ wr.heap.size := I3.bel.size
        go_wp2_with fail
        generalize wr.alloc (.cells #[.pointer none] 59 (0, 0)) = w3 at *
        generalize wr.heap.size = z at *
        refine Calls.mono (bkB_apart2 I4.bk) ?_
        rintro e w4 ⟨rfl, t4⟩
        have k4 := t4.keep k0 (by decide)
        have B4 := I4.bel.trans (TnT.toBelow t4 I4.bel.size)
        clear I3 I4 B0 k0
        go_wp2_with fail
        refine (putnil_any w4).mono ?_
        rintro e w5 ⟨rfl, b5⟩
        have k5 := (b5.block _ (lt_of_block k4)).trans k4
        go_wp2_with fail
        refine (putzero_any z w5 k5).mono ?_
        rintro e w6 ⟨rfl, b6⟩
        have k6 := (b6.block _ (lt_of_block k5)).trans k5
        go_wp2_with fail
        refine (bytesnil_any w6).mono ?_
        rintro e w7 ⟨rfl, rfl⟩
        go_wp2_with fail
        refine (lenzero_any z w6 k6).mono ?_
        rintro e w8 ⟨rfl, rfl⟩
        go_wp2_with fail
        go_ret
        exact ⟨rfl, bnext (bnext B4 b5) b6⟩
end Go.Proofs.YtdgcnghjjbpekaaGreatDoor
