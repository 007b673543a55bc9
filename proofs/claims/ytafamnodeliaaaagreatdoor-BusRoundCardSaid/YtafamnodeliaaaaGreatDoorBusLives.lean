/-
  The walk of belfrylaw22.lives: it answers yes.
-/
import Derived.Test.YtafamnodeliaaaaGreatDoorBusRound
import Derived.Test.YtafamnodeliaaaaGreatDoorBitsGet
import Derived.Lib.SlBytesConst
import Derived.Laws.BytesArg
namespace Go.Proofs.YtafamnodeliaaaaGreatDoor
open Go.RowKit
open Go

theorem new_at (w : World) (o : Obj) (k : Nat) (h : k = w.heap.size) : (w.alloc o).heap[k]? = some o := by subst h; exact heap_alloc_new _ _

/-- What a round answered, as lists that read so. -/
theorem Outs.rdB {w : World} {base : Nat} {vo : Value} {vs : List Value} {os : List (List Int)} (h : Outs w base vs os) (hr : Rd w vo vs) (hm : ∀ c ∈ os, c.length ≤ 140737488351232) : RdB w vo os :=
  ⟨vs, hr, h.len, fun i u cs hu hc => ⟨(h.each i u cs hu hc).rd, hm cs (List.mem_of_getElem? hc)⟩⟩
theorem RdB.len {w : World} {v : Value} {css : List (List Int)} (h : RdB w v css) : ∃ a c, v = .slice a css.length c ∧ css.length ≤ c ∧ c ≤ 9223372036854775807 := by
  obtain ⟨vs, hR, hl, _⟩ := h
  obtain ⟨a, c, e, h1, h2, _⟩ := hR
  exact ⟨a, c, by rw [e, hl], by omega, h2⟩
theorem RdB.at {w : World} {a : Option Addr} {n c : Nat} {css : List (List Int)} (h : RdB w (.slice a n c) css) (k : Nat) (cs : List Int) (hc : css[k]? = some cs) :
    ∃ b o x cx, a = some ⟨b, o, none⟩ ∧ w.cell? ⟨b, o + k, none⟩ = some (.slice x cs.length cx) ∧ Rd w (.slice x cs.length cx) (by8 cs) ∧ cs.length ≤ cx ∧ cx ≤ 9223372036854775807 ∧ cs.length ≤ 140737488351232 := by
  obtain ⟨vs, hR, hl, he⟩ := h
  have hk := (List.getElem?_eq_some_iff.1 hc).1
  have hv : vs[k]? = some (vs[k]'(by omega)) := List.getElem?_eq_getElem (by omega)
  obtain ⟨b, o, rfl, hcl⟩ := hR.at k _ hv
  obtain ⟨h1, h2⟩ := he k _ cs hv hc
  obtain ⟨x, cx, ex, h3, h4⟩ := h1.len
  rw [List.length_map] at *
  rw [ex] at hcl h1
  exact ⟨b, o, x, cx, rfl, hcl, h1, h3, h4, h2⟩
theorem rdN_fails {w : World} (f : Fl) : RdN 5 (w.alloc (.cells (rowF f).toArray 58 (0, 0))) (.slice (some ⟨w.heap.size, 0, none⟩) 1 1) ([f].map rowF) := by
  refine ⟨_, 1, rfl, by simp, by simp [maxLen], by simp, by simp [rowF], fun i r hr => ⟨_, 0, rfl, fun j x hx => ?_⟩⟩
  have hi : i = 0 := by
    have := (List.getElem?_eq_some_iff.1 hr).1
    simp at this
    omega
  subst hi
  simp at hr
  subst hr
  rw [cell_of_row _ _ _ _ _ _ (heap_alloc_new w _)]
  simpa using hx

theorem rdB1 {w : World} {v x : Value} {c : List Int} (hR : Rd w v [x]) (h : Rd w x (by8 c)) (hc : c.length ≤ 140737488351232) : RdB w v [c] :=
  ⟨[x], hR, rfl, fun i u cs hu hcs => by
    cases i with
    | zero => simp at hu hcs; subst hu hcs; exact ⟨h, hc⟩
    | succ i => simp at hu⟩
theorem rdB2 {w : World} {v x y : Value} {c d : List Int} (hR : Rd w v [x, y]) (h : Rd w x (by8 c)) (h2 : Rd w y (by8 d)) (hc : c.length ≤ 140737488351232) (hd : d.length ≤ 140737488351232) : RdB w v [c, d] :=
  ⟨[x, y], hR, rfl, fun i u cs hu hcs => by
    match i with
    | 0 => simp at hu hcs; subst hu hcs; exact ⟨h, hc⟩
    | 1 => simp at hu hcs; subst hu hcs; exact ⟨h2, hd⟩
    | i + 2 => simp at hu⟩
/-- A list of one, a byte each. -/
theorem rd1 {w : World} {b : Nat} {x : Int} {fr : Nat × Nat} (h : w.heap[b]? = some (.cells #[.int .u8 x] 5 fr)) : Rd w (.slice (some ⟨b, 0, none⟩) 1 1) (by8 [x]) := rd_block (by8 [x]) 1 1 h rfl (fun i y hy => by simpa using hy) (by decide) (by decide)
/-- A string of bytes that read so. -/
theorem str_of {w : World} {x : Option Addr} {n c : Nat} {cs : List Int} (h : Rd w (.slice x n c) (by8 cs)) (h0 : 0 < n) : (convert 47 9 (.slice x n c)).run Tryz.prog w = .ok (.string (strOfNums cs)) w := by
  obtain ⟨a, c', e, _, _, _, hcl⟩ := h
  cases e
  rw [List.length_map] at *
  obtain ⟨b, o, rfl, _⟩ := hcl 0 (.int .u8 (cs[0]'h0)) (map_get h0)
  refine run_convert_bytes_arg w 47 5 Tryz.underlying47 Tryz.underlying5 b o cs.length c cs rfl (fun i hi => ?_) 9 Tryz.underlying9
  obtain ⟨b', o', e', hc⟩ := hcl i (.int .u8 cs[i]) (map_get hi)
  cases e'
  rw [hc]
  simp [hi]

set_option maxRecDepth 20000 in
set_option maxHeartbeats 4000000 in
theorem lives22_any (w : World) : Calls Tryz.prog 5 #[] w fun e w' => e = .returned (.bool true) ∧ Below w.heap.size w w' := by
  have kc := fun (w : World) (C : Array Value) (n c : Nat) => Lib.run_convert_bytes_const (P := Tryz.prog) w 47 5 C n c Tryz.underlying47 Tryz.underlying5
  have kc2 : (convert 47 47 (.slice (some ⟨w.heap.size + 1, 0, none⟩) 1 1)).run Tryz.prog ((w.alloc (.cells #[.int .u8 97] 5 (1, 2))).alloc (.cells #[.int .u8 98] 5)) = .ok (.slice (some ⟨w.heap.size + 1, 0, none⟩) 1 1) ((w.alloc (.cells #[.int .u8 97] 5 (1, 2))).alloc (.cells #[.int .u8 98] 5 (1, 2))) := by
    have := kc (w.alloc (.cells #[.int .u8 97] 5 (1, 2))) #[.int .u8 98] 1 1
    rwa [World.size_alloc] at this
  go_enter Tryz.func5, Tryz.ntmps5
  go_wp2_with fail
  have k0 : ((((w.alloc (.cells #[.int .u8 97] 5 (1, 2))).alloc (.cells #[.int .u8 98] 5 (1, 2))).alloc (.cells #[.slice (some ⟨w.heap.size, 0, none⟩) 1 1, .slice (some ⟨w.heap.size + 1, 0, none⟩) 1 1] 47))).heap.size = w.heap.size + 1 + 1 + 1 := by simp
  have S1 : RdB ((((w.alloc (.cells #[.int .u8 97] 5 (1, 2))).alloc (.cells #[.int .u8 98] 5 (1, 2))).alloc (.cells #[.slice (some ⟨w.heap.size, 0, none⟩) 1 1, .slice (some ⟨w.heap.size + 1, 0, none⟩) 1 1] 47))) (.slice (some ⟨w.heap.size + 1 + 1, 0, none⟩) 2 2) [[97], [98]] := by
    refine rdB2 (rd_block [.slice (some ⟨w.heap.size, 0, none⟩) 1 1, .slice (some ⟨w.heap.size + 1, 0, none⟩) 1 1] 2 2 (new_at _ _ _ (by simp)) rfl (fun i y hy => by simpa using hy) (by decide) (by decide)) (rd1 (fr := (1, 2)) ?_) (rd1 (fr := (1, 2)) ?_) (by decide) (by decide)
    · rw [heap_alloc_old (h := by simp; omega), heap_alloc_old (h := by simp)]
      exact heap_alloc_new _ _
    · rw [heap_alloc_old (h := by simp)]
      exact new_at _ _ _ (by simp)
  have B1 := balloc (balloc (balloc (Below.refl w.heap.size w) (.cells #[.int .u8 97] 5 (1, 2))) (.cells #[.int .u8 98] 5 (1, 2))) (.cells #[.slice (some ⟨w.heap.size, 0, none⟩) 1 1, .slice (some ⟨w.heap.size + 1, 0, none⟩) 1 1] 47)
  clear kc2
  rw [← k0]
  generalize World.alloc (World.alloc (World.alloc w _) _) _ = w1 at *
  generalize w.heap.size + 1 + 1 = g1 at *
  have F1 := rdN_fails (w := w1) ⟨2, 1, 0, 0, 0⟩
  have B2 := balloc B1 (.cells (rowF ⟨2, 1, 0, 0, 0⟩).toArray 58 (0, 0))
  have S2 := S1.below (balloc (Below.refl _ _) (.cells (rowF ⟨2, 1, 0, 0, 0⟩).toArray 58 (0, 0)))
  have C1 := round_any _ _ _ [⟨2, 1, 0, 0, 0⟩] 1 _ S2 F1 (by decide) (by decide) (by decide) (by simp)
  rw [show ([[97], [98]] : List (List Int)).mapIdx (outI [⟨2, 1, 0, 0, 0⟩] 1) = [[97], [98]] by decide +kernel] at C1
  have C2 := fun w' hb => round_any _ _ _ [⟨2, 1, 0, 0, 0⟩] 2 w' (S2.below hb) (F1.below hb) (by decide) (by decide) (by decide) (by simp)
  rw [show ([[97], [98]] : List (List Int)).mapIdx (outI [⟨2, 1, 0, 0, 0⟩] 2) = [[], [98]] by decide +kernel] at C2
  have S2' := Lib.hid S2
  have F1' := Lib.hid F1
  have HC2 := Lib.hid C2
  clear S1 S2 F1 C2 B1 k0
  refine C1.mono ?_
  clear C1
  rintro e w2 ⟨vo, vs, rfl, b2, r2, o2⟩
  have A1 := o2.rdB r2 (by decide)
  obtain ⟨a1, c1, rfl, _, _⟩ := A1.len
  have B3 := bnext B2 b2
  clear o2 r2 B2
  go_wp2_with fail
  refine (HC2.out w2 b2).mono ?_
  rintro e w3 ⟨vo, vs, rfl, b3, r3, o3⟩
  have A2 := o3.rdB r3 (by decide)
  obtain ⟨a2, c2, rfl, _, _⟩ := A2.len
  have b23 := bnext b2 b3
  have B4 := bnext B3 b3
  have A1' := A1.below b3
  clear o3 r3 B3 A1 b2 b3 HC2
  simp only [List.length_cons, List.length_nil] at A1' A2
  go_wp2_with fail
  have k3 : ((w3.alloc (.cells #[.int .u8 97, .int .u8 98] 5 (2, 3))).alloc (.cells #[.slice (some ⟨w3.heap.size, 0, none⟩) 2 2] 47)).heap.size = w3.heap.size + 1 + 1 := by simp
  have S3 : RdB ((w3.alloc (.cells #[.int .u8 97, .int .u8 98] 5 (2, 3))).alloc (.cells #[.slice (some ⟨w3.heap.size, 0, none⟩) 2 2] 47)) (.slice (some ⟨w3.heap.size + 1, 0, none⟩) 1 1) [[97, 98]] := by
    refine rdB1 (rd_block [.slice (some ⟨w3.heap.size, 0, none⟩) 2 2] 1 1 (new_at _ _ _ (by simp)) rfl (fun i y hy => by simpa using hy) (by decide) (by decide)) (rd_block (cur := #[.int .u8 97, .int .u8 98]) (by8 [97, 98]) 2 2 (t := 5) (fr := (2, 3)) ?_ rfl (fun i y hy => by simpa using hy) (by decide) (by decide)) (by decide)
    rw [heap_alloc_old (h := by simp)]
    exact heap_alloc_new _ _
  have b34 := balloc (balloc (Below.refl w3.heap.size w3) (.cells #[.int .u8 97, .int .u8 98] 5 (2, 3))) (.cells #[.slice (some ⟨w3.heap.size, 0, none⟩) 2 2] 47)
  rw [← k3]
  generalize World.alloc (World.alloc w3 _) _ = w4 at *
  generalize w3.heap.size + 1 = g3 at *
  have F3 := rdN_fails (w := w4) ⟨0, 1, 2, 3, 1⟩
  have b45 := balloc (Below.refl w4.heap.size w4) (.cells (rowF ⟨0, 1, 2, 3, 1⟩).toArray 58 (0, 0))
  have C3 := round_any _ _ _ [⟨0, 1, 2, 3, 1⟩] 0 _ (S3.below b45) F3 (by decide) (by decide) (by decide) (by simp)
  rw [show ([[97, 98]] : List (List Int)).mapIdx (outI [⟨0, 1, 2, 3, 1⟩] 0) = [[97, 99]] by decide +kernel] at C3
  have b35 := bnext b34 b45
  clear k3 S3 F3 b34 b45
  refine C3.mono ?_
  clear C3
  rintro e w5 ⟨vo, vs, rfl, b5, r5, o5⟩
  have A3 := o5.rdB r5 (by decide)
  obtain ⟨a3, c3, rfl, _, _⟩ := A3.len
  simp only [List.length_cons, List.length_nil] at A3
  have b36 := bnext b35 b5
  have A1'' := A1'.below b36
  have A2' := A2.below b36
  have b26 := bnext b23 b36
  have B6 := bnext B4 b36
  clear o5 r5 b5 b35 A1' A2 b23 B4 b36
  go_wp2_with fail
  have F4 := rdN_fails (w := w5) ⟨0, 3, 0, 0, 0⟩
  have b56 := balloc (Below.refl w5.heap.size w5) (.cells (rowF ⟨0, 3, 0, 0, 0⟩).toArray 58 (0, 0))
  have C4 := bad_any _ _ _ [⟨0, 3, 0, 0, 0⟩] 0 _ (S2'.out.below (bnext b26 b56)) F4 (.inr (.inr (by decide)))
  refine C4.mono ?_
  clear C4 F4
  rintro e w6 ⟨rfl, b6⟩
  have b57 := bnext b56 b6
  have A1 := A1''.below b57
  have A2 := A2'.below b57
  have A4 := A3.below b57
  have B7 := bnext B6 b57
  have F7 := F1'.out.below (bnext b26 b57)
  clear b57 b56 b6 A1'' A2' A3 B6 b26 S2' F1' kc
  obtain ⟨p1, o1, x1, y1, rfl, z1, t1, _⟩ := A1.at 0 [97] rfl
  obtain ⟨p2, o2, x2, y2, rfl, z2, t2, _⟩ := A2.at 0 [] rfl
  obtain ⟨p2', o2', x3, y3, e3, z3, t3, _⟩ := A2.at 1 [98] rfl
  cases e3
  obtain ⟨p4, o4, x4, y4, rfl, z4, t4, _⟩ := A4.at 0 [97, 99] rfl
  rw [Nat.add_zero] at z1 z2 z4
  simp only [List.length_cons, List.length_nil, Nat.zero_add, Nat.reduceAdd] at z1 z2 z3 z4 t1 t2 t3 t4
  have q1 := str_of t1 (by decide)
  have q3 := str_of t3 (by decide)
  have q4 := str_of t4 (by decide)
  rw [show strOfNums [97] = ⟨#[97]⟩ by decide +kernel] at q1
  rw [show strOfNums [98] = ⟨#[98]⟩ by decide +kernel] at q3
  rw [show strOfNums [97, 99] = ⟨#[97, 99]⟩ by decide +kernel] at q4
  have C5 := silent_any 1 5 _ _ _ F7
  rw [show List.any [(⟨2, 1, 0, 0, 0⟩ : Fl)] (silB 1 5) = true by decide] at C5
  have HC5 := Lib.hid C5
  clear C5 F7 A1 A2 A4 t1 t2 t3 t4
  go_wp2_with fail
  refine Calls.mono HC5.out ?_
  rintro e w8 ⟨rfl, b8⟩
  go_wp2_with fail
  go_ret
  exact ⟨rfl, bnext B7 b8⟩
end Go.Proofs.YtafamnodeliaaaaGreatDoor
