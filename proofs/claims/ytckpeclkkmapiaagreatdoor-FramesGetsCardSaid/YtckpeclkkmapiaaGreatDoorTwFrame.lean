/-
  The walks of belfrylaw01's TwinFrame, LeftFrame, and of the Book's Frame.
-/
import Derived.Test.YtckpeclkkmapiaaGreatDoorTwinL
import Derived.Test.YtckpeclkkmapiaaGreatDoorFrmPut
import Derived.Test.YtckpeclkkmapiaaGreatDoorFrmGet
import Derived.Test.YtckpeclkkmapiaaGreatDoorSame
import Derived.Test.YtckpeclkkmapiaaGreatDoorApB
import Derived.Deep.RegionHeld3
namespace Go.Proofs.YtckpeclkkmapiaaGreatDoor
open Go.RowKit
open Go

set_option maxHeartbeats 4000000 in
theorem twinF_any (st : Int) (rd mem md : Nat) (v : Value) (cs : List Int) (w : World) (h : Rd w v (by8 cs)) (hL : cs.length ≤ 140737488351232) :
    Calls Tryz.prog 29 #[frV st rd mem md v] w fun e w' => ∃ g u, e = .returned (frV st rd mem md u) ∧ Below w.heap.size w w' ∧ TwinB w' g u cs ∧ w.heap.size ≤ g := by
  have hv0 := h
  obtain ⟨a, c, rfl, _, _, _, _⟩ := h
  have HV := Lib.hid hv0
  clear hv0
  unfold frV
  have hl : (by8 cs).length = cs.length := by simp
  rw [hl] at HV ⊢
  clear hl
  go_enter Tryz.func29, Tryz.ntmps29
  go_wp2_with fail
  have B1 := balloc (balloc (Below.refl w.heap.size w) (.cells #[.int .i64 st, .int .u32 rd, .int .u8 mem, .int .u16 md, .slice a cs.length c] 65 (0, 0))) zF
  have kf : ((w.alloc (.cells #[.int .i64 st, .int .u32 rd, .int .u8 mem, .int .u16 md, .slice a cs.length c] 65 (0, 0))).alloc zF).heap[w.heap.size]? = some (.cells #[.int .i64 st, .int .u32 rd, .int .u8 mem, .int .u16 md, .slice a cs.length c] 65 (0, 0)) := heap_alloc2_old w (.cells #[.int .i64 st, .int .u32 rd, .int .u8 mem, .int .u16 md, .slice a cs.length c] 65 (0, 0)) zF
  have kz : ((w.alloc (.cells #[.int .i64 st, .int .u32 rd, .int .u8 mem, .int .u16 md, .slice a cs.length c] 65 (0, 0))).alloc zF).heap[w.heap.size + 1]? = some zF := heap_alloc2_new w (.cells #[.int .i64 st, .int .u32 rd, .int .u8 mem, .int .u16 md, .slice a cs.length c] 65 (0, 0)) zF
  have hsz : ((w.alloc (.cells #[.int .i64 st, .int .u32 rd, .int .u8 mem, .int .u16 md, .slice a cs.length c] 65 (0, 0))).alloc zF).heap.size = w.heap.size + 2 := by simp
  generalize (w.alloc (.cells #[.int .i64 st, .int .u32 rd, .int .u8 mem, .int .u16 md, .slice a cs.length c] 65 (0, 0))).alloc zF = w2 at *
  have KF := Lib.hid kf
  have KZ := Lib.hid kz
  obtain ⟨c0, c1, c2, c3, c4⟩ := frame_cells kf
  have HT := Lib.hid (twinB_any (.slice a cs.length c) cs w2.drew (HV.out.below (bdraw B1 1)) hL)
  have KC := Lib.hid (fun (w9 : World) (b9 : Below w2.drew.heap.size w2.drew w9) => frame_cells ((b9.block _ (lt_of_block kf)).trans kf))
  have KD := Lib.hid (fun (w9 : World) (b9 : Below w2.drew.heap.size w2.drew w9) => (b9.block _ (lt_of_block kz)).trans kz)
  have KS := Lib.hid (fun (w9 : World) (b9 : Below w2.drew.heap.size w2.drew w9) (u : Value) => frame_cells ((stored_other (show w.heap.size ≠ w.heap.size + 1 by omega) (.int .i64 st) (.int .u32 rd) (.int .u8 mem) (.int .u16 md) u).trans ((b9.block _ (lt_of_block kf)).trans kf)))
  unfold stored at KS
  clear kf kz
  go_region_held3 (fun w' => w'.cell? ⟨w.heap.size, 0, none⟩ = some (.int .i64 st) ∧ w'.cell? ⟨w.heap.size, 1, none⟩ = some (.int .u32 rd) ∧ w'.cell? ⟨w.heap.size, 2, none⟩ = some (.int .u8 mem) ∧ w'.cell? ⟨w.heap.size, 3, none⟩ = some (.int .u16 md) ∧ w'.cell? ⟨w.heap.size, 4, none⟩ = some (.slice a cs.length c))
    (first | with_reducible exact ⟨c0, c1, c2, c3, c4⟩ | with_reducible exact E1 | with_reducible exact E6 | go_keep)
    (first
      | (go_at_call 7; refine Calls.mono HT.out ?_; rintro e w4 ⟨u, rfl, b4, t4⟩; have E1 := KC.out _ b4; have F4 := KD.out _ b4; have ⟨y0, y1, y2, y3, y4⟩ := frame_cells F4; have z0 := frozen_of_row _ _ 0 _ _ F4; have z1 := frozen_of_row _ _ 1 _ _ F4; have z2 := frozen_of_row _ _ 2 _ _ F4; have z3 := frozen_of_row _ _ 3 _ _ F4; have z4 := frozen_of_row _ _ 4 _ _ F4; obtain ⟨rfl, t5⟩ := t4; have E6 := KS.out _ b4 (.slice (some ⟨w2.drew.heap.size, 0, none⟩) cs.length (cs.length + 1))))
  have F5 := stored_at F4 (.int .i64 st) (.int .u32 rd) (.int .u8 mem) (.int .u16 md) (.slice (some ⟨w2.drew.heap.size, 0, none⟩) cs.length (cs.length + 1))
  have B5 := stored_below (bnext B1 (bnext (bdraw (Below.refl w2.heap.size w2) 1) b4)) (show w.heap.size ≤ w.heap.size + 1 by omega) (.int .i64 st) (.int .u32 rd) (.int .u8 mem) (.int .u16 md) (.slice (some ⟨w2.drew.heap.size, 0, none⟩) cs.length (cs.length + 1))
  have hds : w2.drew.heap.size = w.heap.size + 2 := hsz
  have t6 := (stored_other (w := w4) (b := w.heap.size + 1) (g := w2.drew.heap.size) (by omega) (.int .i64 st) (.int .u32 rd) (.int .u8 mem) (.int .u16 md) (.slice (some ⟨w2.drew.heap.size, 0, none⟩) cs.length (cs.length + 1))).trans t5
  rw [hds] at F5 B5 t6
  have HX := Lib.hid (And.intro F5 (And.intro B5 t6))
  clear F5 B5 t6 E1 F4 y0 y1 y2 y3 y4 z0 z1 z2 z3 z4 t5 E6 b4 c0 c1 c2 c3 c4
  rename_i hx
  clear hx
  go_wp2_with fail
  exact bodyPost_ret (results_cell_row Tryz.results29 _ _ (w.heap.size + 1) _ _ _ _ rfl HX.out.1 Tryz.underlying65 rfl (infoF _ _ _ _ _)) rfl ⟨_, _, rfl, HX.out.2.1, ⟨rfl, HX.out.2.2⟩, by omega⟩
set_option maxHeartbeats 4000000 in
theorem leftF_any (st : Int) (rd mem md g : Nat) (u v : Value) (cs : List Int) (w : World) (ht : TwinB w g u cs) (h : Rd w v (by8 cs)) (hL : cs.length ≤ 140737488351232) :
    Calls Tryz.prog 32 #[frV st rd mem md u, frV st rd mem md v] w fun e w' => e = .returned (.bool true) ∧ Below w.heap.size w w' := by
  have LB := Lib.hid (fun (w' : World) (b : Below w.heap.size w w') => leftB_any g u v cs w' (ht.below b) (h.below b) hL)
  obtain ⟨a, n, c, rfl⟩ := h.sl
  obtain ⟨a2, n2, c2, rfl⟩ := (ht.rd hL).sl
  unfold frV
  clear h ht
  have B1 := balloc (balloc (Below.refl w.heap.size w) (.cells #[.int .i64 st, .int .u32 rd, .int .u8 mem, .int .u16 md, .slice a2 n2 c2] 65 (0, 0))) (.cells #[.int .i64 st, .int .u32 rd, .int .u8 mem, .int .u16 md, .slice a n c] 65 (0, 0))
  go_enter Tryz.func32, Tryz.ntmps32
  go_wp2_with fail
  refine Calls.mono (LB.out _ B1) ?_
  rintro e w3 ⟨rfl, n3, rfl⟩
  go_wp2_with fail
  go_ret
  exact ⟨rfl, bdraw B1 n3⟩
theorem bkB_frame {base g m : Nat} {itsByte : List It} {w : World} (h : BkB base g m itsByte w) (st : Int) (rd mem md : Nat) (hm : m < 100000) (hl : itsByte.length < 1000000) {n : Nat} {v : Value} {xs : List Value} (ho : Own w base kByte.e kByte.sz v n xs) (hn : n ≤ 1000000) (hap : ∀ (i : Nat) (a : It), itsByte[i]? = some a → ∀ x, a.has x → roomOf v ≠ some x) :
    Calls Tryz.prog 28 #[.pointer (some ⟨g, 0, none⟩), frV st rd mem md v] w fun e w' => e = .returned (.tuple #[]) ∧ BkB base g (m + 1) (itsByte ++ [⟨v, .slice none 0 0, n, m + 1⟩]) w' ∧ TnT base (fun t => t = 52 ∨ t = kByte.tH) w w' := by
  obtain ⟨a, c, hv, _, _⟩ := ho.shape
  have B1 := balloc (Below.refl w.heap.size w) (.cells #[.int .i64 st, .int .u32 rd, .int .u8 mem, .int .u16 md, v] 65 (0, 0))
  have KC := Lib.hid (bkB_keepByte (h.below B1) hm hl (ho.below B1) hn hap)
  subst hv
  clear h ho hap
  unfold frV
  go_enter Tryz.func28, Tryz.ntmps28
  go_wp2_with fail
  refine Calls.mono KC.out ?_
  rintro e w1 ⟨rfl, q1, q2⟩
  go_wp2_with fail
  exact ret_none Tryz.results28 ⟨rfl, q1, Tn.trans (Below.tn B1 _) q2 fun i hi ⟨h1, c, t, fr, h2, h3⟩ => ⟨h1, c, t, fr, (B1.block i hi).symm.trans h2, h3⟩⟩
end Go.Proofs.YtckpeclkkmapiaaGreatDoor
