/-
  The walk of bits.Put: a number's bits are put behind what there is.
-/
import Derived.Test.YtckpeclkkmapiaaGreatDoorBitsEach
namespace Go.Proofs.YtckpeclkkmapiaaGreatDoor
open Go.RowKit Go.Shelf
open Go
attribute [local go_sem] Oper.semAt_some

theorem new_at (w : World) (o : Obj) (k : Nat) (h : k = w.heap.size) : (w.alloc o).heap[k]? = some o := by subst h; exact heap_alloc_new _ _
theorem each_any (n k : Int) (w : World) : Calls Tryz.prog 143 #[.int .u64 n, .int .i64 k] w fun e w' =>
    e = .returned (.func (.func 149) #[] #[.pointer (some ⟨w.heap.size + 1, 0, none⟩), .pointer (some ⟨w.heap.size, 0, none⟩)]) ∧ w' = (w.alloc (.cells #[.int .u64 n] 78)).alloc (.cells #[.int .i64 k] 3) := by
  go_enter Tryz.func143, Tryz.ntmps143
  go_wp2_with fail
  go_ret
  exact ⟨rfl, rfl⟩

/-- What lies between two rounds. -/
structure PutI (B pw pr : Nat) (v : Value) (L : List Bool) (bw n k : Nat) (w : World) (pre : List Bool) (W : World) : Prop where
  row : ∃ v', RowAt B pr v' (L ++ pre) W ∧ Step pr v v' w W
  boxes : Boxes (bw + 1) (bw + 1 + 1) n k W
  box : W.heap[bw]? = some (.cells #[.pointer (some ⟨pw, 0, none⟩)] 86 (0, 0))
  wri : W.heap[pw]? = some (.cells #[.pointer (some ⟨pr, 0, none⟩)] 209 (0, 0))
theorem cells_of_foot {B pr : Nat} {v : Value} {L : List Bool} {W : World} (h : RowAt B pr v L W) (r : Nat) (hf : foot pr v r) : ∃ c t, W.heap[r]? = some (.cells c t (0, 0)) ∧ (t = 207 ∨ t = 5) := by
  rcases hf with rfl | hf
  · exact ⟨_, _, h.row, .inl rfl⟩
  · rcases h.owns.2 with ⟨e, _⟩ | ⟨g, c, cur, e, hg, hb, _⟩
    · rw [e] at hf
      cases hf
    · rw [e] at hf
      cases hf
      exact ⟨_, _, hb, .inr rfl⟩
theorem putI_own (B pw pr : Nat) (v : Value) (L : List Bool) (bw n k : Nat) (w : World) (s : Nat) (hs : w.heap.size ≤ s) : OwnFrom s (PutI B pw pr v L bw n k w) := by
  intro pre X Y row h hg hr
  have key : ∀ {b : Nat} {c : Array Value} {t : TypeId} {fr : Nat × Nat}, X.heap[b]? = some (.cells c t fr) → Y.heap[b]? = some (.cells c t fr) := by
    intro b c t fr hb
    refine (hg.block b (lt_of_block hb) (fun e => ?_)).trans hb
    obtain ⟨_, o, ho, hc⟩ := hr b e.symm
    rw [hb] at ho
    cases ho
    cases hc
  obtain ⟨⟨v', h1, h2⟩, h3, h4, h5⟩ := h
  refine ⟨⟨v', h1.kept (S := fun k => row = some k) ⟨hg.os, hg.tape, hg.output, hg.size, fun k hk hn => hg.block k hk (fun e => hn e.symm)⟩ (fun k hf e => ?_), ⟨h2.only.grown hg fun k e hk => ?_, h2.own⟩⟩, ⟨key h3.1, key h3.2⟩, key h4, key h5⟩
  · obtain ⟨c, t, hb, _⟩ := cells_of_foot h1 k hf
    obtain ⟨_, o, ho, hc⟩ := hr k e
    rw [hb] at ho
    cases ho
    cases hc
  · have := (hr k e).1
    omega
/-- One round. -/
theorem PutI.next {B pw pr : Nat} {v : Value} {L : List Bool} {bw n k : Nat} {w : World} {pre : List Bool} {W : World} (h : PutI B pw pr v L bw n k w pre W) {v1 v2 : Value} {x : Bool} {W2 : World}
    (h1 : RowAt B pr v1 (L ++ pre) W) (h1s : Step pr v v1 w W) (h2 : RowAt B pr v2 (L ++ pre ++ [x]) W2) (hs : Step pr v1 v2 W W2) :
    PutI B pw pr v L bw n k w (pre ++ [x]) W2 ∧ KpB (bw + 1) (bw + 1 + 1) n k W W2 ∧ KeepsOthers W W2 := by
  have key : ∀ {b : Nat} {o : Obj}, W.heap[b]? = some o → (∀ c, o ≠ .cells c 207 (0, 0) ∧ o ≠ .cells c 5 (0, 0)) → W2.heap[b]? = some o := by
    intro b o hb hn
    refine (hs.only.block b (lt_of_block hb) (fun hf => ?_)).trans hb
    obtain ⟨c, t, hc, ht⟩ := cells_of_foot h1 b hf
    rw [hb] at hc
    cases hc
    rcases ht with rfl | rfl
    · exact (hn _).1 rfl
    · exact (hn _).2 rfl
  have kb : KpB (bw + 1) (bw + 1 + 1) n k W W2 := fun hx => ⟨key hx.1 (by simp), key hx.2 (by simp)⟩
  refine ⟨⟨⟨v2, by rw [← List.append_assoc]; exact h2, h1s.trans hs⟩, kb h.boxes, key h.box (by simp), key h.wri (by simp)⟩, kb, ⟨hs.only.size, fun i o hi ho => key hi fun c => ?_⟩⟩
  constructor <;> (rintro rfl; cases ho)

set_option maxHeartbeats 1000000 in
theorem put_ok (B pw pr : Nat) (v : Value) (L : List Bool) (n k : Nat) (w : World) (h : WriAt B pw pr v L w) (hn : n < 2 ^ k) (hk : k ≤ 64) (hm : L.length + k < 1000000) (hz : B ≤ w.heap.size) :
    Calls Tryz.prog 95 #[.pointer (some ⟨pw, 0, none⟩), .int .u64 n, .int .i64 k] w fun e w' => e = .returned (.int .i64 0) ∧ ∃ v', WriAt B pw pr v' (L ++ nbits n k) w' ∧ Step pr v v' w w' := by
  have hq : ((n : Int) / 2 ^ k != 0) = false := by
    have h1 : ((n : Int) / 2 ^ k) = ((n / 2 ^ k : Nat) : Int) := by simp
    rw [h1, Nat.div_eq_of_lt hn]
    rfl
  have e1 : decide ((k : Int) < 0) = false := by simp
  have e2 : decide (64 < (k : Int)) = false := by simp; omega
  refine (callsIn_wide (n := 8)).1 ?_
  refine callsIn_of_wp_marks Tryz.func95 rfl trivial ?_ rfl
  simp only [Tryz.ntmps95, List.size_toArray, List.length_cons, List.length_nil, Nat.reduceAdd, Nat.reduceSub, Array.replicate_succ, Array.replicate_zero, List.push_toArray, List.append_toArray, List.nil_append, List.cons_append]
  have h1 : WriAt B pw pr v L (w.alloc (.cells #[.pointer (some ⟨pw, 0, none⟩)] 86)) := h.below (balloc (Below.refl _ _) _)
  gi_wp2_with (first
    | (refine ⟨trivial, ?_⟩; gi_at_call 142; refine (callsIn_wide.2 (there_yes B pw pr v L _ h1)).mono ?_; rintro e w1 ⟨rfl, rfl⟩)
    | (refine ⟨trivial, ?_⟩; gi_at_call 143; refine (callsIn_wide.2 (each_any _ _ _)).mono ?_; rintro e w1 ⟨rfl, rfl⟩))
  obtain ⟨w3, hw3⟩ : ∃ w3, ((w.alloc (.cells #[.pointer (some ⟨pw, 0, none⟩)] 86)).alloc (.cells #[.int .u64 n] 78)).alloc (.cells #[.int .i64 k] 3) = w3 := ⟨_, rfl⟩
  have hB3 : Below w.heap.size w w3 := by rw [← hw3]; exact balloc (balloc (balloc (Below.refl _ _) _) _) _
  have hbx : Boxes (w.heap.size + 1) (w.heap.size + 1 + 1) n k w3 := by
    rw [← hw3]
    refine ⟨?_, new_at _ _ _ (by simp)⟩
    rw [heap_alloc_old (h := by simp)]
    exact new_at _ _ _ (by simp)
  have hb0 : w3.heap[w.heap.size]? = some (.cells #[.pointer (some ⟨pw, 0, none⟩)] 86 (0, 0)) := by
    rw [← hw3, heap_alloc_old (h := by simp; omega), heap_alloc_old (h := by simp)]
    exact heap_alloc_new _ _
  have hs3 : w3.heap.size = w.heap.size + 3 := by rw [← hw3]; simp
  have h3 := h.below hB3
  have I0 : PutI B pw pr v L w.heap.size n k w [] w3 := ⟨⟨v, by simpa using h3.2, ⟨Below.only hB3 _, .inl rfl⟩⟩, hbx, hb0, h3.1⟩
  rw [hw3]
  clear hw3 h1 hq e1 e2
  refine wpIn_rangeFunc_ownF rfl (by decide) (gf := 149) (lb := #[.pointer (some ⟨w.heap.size + 1 + 1, 0, none⟩), .pointer (some ⟨w.heap.size + 1, 0, none⟩)]) rfl trivial (enters_of Tryz.func149 (by kernel_rfl) rfl)
    (each_stops Fence.wide _ trivial rfl (by decide) (w.heap.size + 1) (w.heap.size + 1 + 1) n k (Nat.lt_of_lt_of_le hn (Nat.pow_le_pow_right (by decide) hk)) hk w3 hbx ⟨by omega, by omega⟩) kpB_t (fun W l o o' _ h1 h2 _ => kpB_b W l o o' h1 h2) (Below.refl _ _) (fun _ => rfl)
    (PutI B pw pr v L w.heap.size n k w) (fun _ _ _ => False) (putI_own _ _ _ _ _ _ _ _ _ _ (by omega)) (fun _ _ _ _ _ hs _ _ => hs) I0
    (fun x => { tmps := #[.pointer (some ⟨pw, 0, none⟩), .int .u64 n, .int .i64 k, .pointer (some ⟨w.heap.size, 0, none⟩), undef, undef, .int .i64 0, .bool x, .bool false, .pointer (some ⟨pw, 0, none⟩), .bool true, .bool false, .bool false, .int .i64 k, .bool false, .bool false, .int .i64 k, .bool false, .bool false, .bool false, .int .u64 n, .int .i64 k, .int .u64 (n / 2 ^ k), .bool false, .bool false, .int .u64 n, .int .i64 k, .func (.func 149) #[] #[.pointer (some ⟨w.heap.size + 1 + 1, 0, none⟩), .pointer (some ⟨w.heap.size + 1, 0, none⟩)], .bool x, undef, undef, undef, undef, undef, undef], defers := [] }) ?assign ?body ?done ?stop
  case assign =>
    intro l x W K hK
    gi_wp2
    exact hK
  case body =>
    rintro l pre x W hI hlen
    obtain ⟨v1, r1, s1⟩ := hI.row
    have x0 : W.cell? ⟨w.heap.size, 0, none⟩ = some (.pointer (some ⟨pw, 0, none⟩)) := cell_of_row W _ 0 _ _ _ hI.box
    have x1 : W.cell? ⟨pw, 0, none⟩ = some (.pointer (some ⟨pr, 0, none⟩)) := cell_of_row W _ 0 _ _ _ hI.wri
    have hsz := s1.only.size
    gi_wp2_with (refine ⟨trivial, ?_⟩; gi_at_call 144; refine (CallsIn.inRound l (callsIn_wide.2 (one_any B pr v1 (L ++ pre) x W r1 (by simp; omega) (by omega)))).mono ?_; rintro e w5 ⟨rfl, v2, r2, s2⟩)
    obtain ⟨q1, q2, q3⟩ := hI.next r1 s1 r2 s2
    exact ⟨q3, q2, q1⟩
  case done =>
    rintro D xs W hD rfl hI hK
    have hI2 := (putI_own B pw pr v L w.heap.size n k w w3.heap.size (by omega)).putObj (.deferred none) hI hD hK rfl
    obtain ⟨v1, r1, s1⟩ := hI2.row
    have x1 := hI2.wri
    gi_wp2
    refine ⟨by simp, .inl ⟨_, _, rfl, run_takeDeferred hK, ?_⟩⟩
    exact ⟨_, results_tmp rfl _ _ _, rfl, v1, ⟨x1, r1⟩, s1⟩
  case stop =>
    rintro D c pre W hD _ h1 _
    exact h1.elim
/-- What may not be put. -/
theorem put_no (B pw pr : Nat) (v : Value) (L : List Bool) (n k : Int) (w : World) (h : WriAt B pw pr v L w) (hk : k < 0 ∨ 64 < k ∨ (0 ≤ k ∧ k ≤ 64 ∧ ¬ n < 2 ^ k.toNat)) :
    Calls Tryz.prog 95 #[.pointer (some ⟨pw, 0, none⟩), .int .u64 n, .int .i64 k] w fun e w' => e = .returned (.int .i64 1) ∧ Below w.heap.size w w' := by
  have h1 : WriAt B pw pr v L (w.alloc (.cells #[.pointer (some ⟨pw, 0, none⟩)] 86)) := h.below (balloc (Below.refl _ _) _)
  rcases hk with hk | hk | ⟨h0, h2, h3⟩
  · have e1 : decide (k < 0) = true := by simpa using hk
    go_enter Tryz.func95, Tryz.ntmps95
    go_wp2_with (go_at_call 142; refine (there_yes B pw pr v L _ h1).mono ?_; rintro e w1 ⟨rfl, rfl⟩)
    go_ret
    exact ⟨rfl, balloc (Below.refl _ _) _⟩
  · have e1 : decide (k < 0) = false := by simp; omega
    have e2 : decide (64 < k) = true := by simpa using hk
    go_enter Tryz.func95, Tryz.ntmps95
    go_wp2_with (go_at_call 142; refine (there_yes B pw pr v L _ h1).mono ?_; rintro e w1 ⟨rfl, rfl⟩)
    go_ret
    exact ⟨rfl, balloc (Below.refl _ _) _⟩
  · obtain ⟨m, rfl⟩ := Int.eq_ofNat_of_zero_le h0
    rw [Int.toNat_natCast] at h3
    have e1 : decide ((m : Int) < 0) = false := by simp
    have e2 : decide (64 < (m : Int)) = false := by simp; omega
    have e3 : (n / 2 ^ m != 0) = true := by
      rw [bne_iff_ne]
      have hp : (0 : Int) < 2 ^ m := Int.pow_pos (by decide)
      have := Int.le_ediv_of_mul_le hp (show 1 * 2 ^ m ≤ n by omega)
      omega
    clear h3
    go_enter Tryz.func95, Tryz.ntmps95
    go_wp2_with (go_at_call 142; refine (there_yes B pw pr v L _ h1).mono ?_; rintro e w1 ⟨rfl, rfl⟩)
    go_ret
    exact ⟨rfl, balloc (Below.refl _ _) _⟩
end Go.Proofs.YtckpeclkkmapiaaGreatDoor
