/-
  values.deeds: the map of what operators do, made. (Printed by gendeeds.py.)
-/
import Derived.Test.YtphlodafdkpedaaDoorValsKind
namespace Go.Proofs.YtphlodafdkpedaaDoor
open Go.RowKit
open Go

set_option maxHeartbeats 4000000 in
set_option maxRecDepth 100000 in
theorem deeds_any (w : World) : Calls Tryd.prog 23 #[] w fun e w' => ∃ L : List Ent, e = .returned (.map (some w.heap.size)) ∧ L.map keyV = deedT ∧ MapD w w.heap.size L w' := by
  have hmm := @run_makeMap Tryd.prog
  obtain ⟨w1, q1, m1⟩ := (MapD.start w).put (4, 1, 1, (fnV 30)) rfl (.inr (.inl ⟨rfl, rfl, rfl⟩))
  have r1 : (Instr.mapUpdate 49 (.map (some w.heap.size)) (.int .u8 4) (.agg #[.int .i64 1, .int .u8 1, (fnV 30)])).run Tryd.prog (w.alloc (.map #[] 0)) = .ok () w1 := q1
  have M1 := Lib.hid m1
  clear q1 m1
  obtain ⟨w2, q2, m2⟩ := M1.out.put (5, 1, 2, (fnV 32)) rfl (.inr (.inr ⟨rfl, rfl, rfl⟩))
  have r2 : (Instr.mapUpdate 49 (.map (some w.heap.size)) (.int .u8 5) (.agg #[.int .i64 1, .int .u8 2, (fnV 32)])).run Tryd.prog w1 = .ok () w2 := q2
  have M2 := Lib.hid m2
  clear q2 m2
  go_enter Tryd.func23, Tryd.ntmps23
  go_wp2_with fail
  clear hmm r1 r2
  refine (twoII_kind 1 35 31 36 6 acts6 _).mono ?_
  rintro e v1 ⟨⟨x1, y1, z1, rfl, k1⟩, b1⟩
  have K1 := Lib.hid k1
  have N1 := Lib.hid (M2.out.below b1)
  clear k1 b1
  obtain ⟨w3, q3, m3⟩ := N1.out.put (6, 2, 1, (cloV 54 x1 y1 z1)) rfl (K1.out)
  have r3 : (Instr.mapUpdate 49 (.map (some w.heap.size)) (.int .u8 6) (deedV 2 1 (cloV 54 x1 y1 z1))).run Tryd.prog v1 = .ok () w3 := q3
  have M3 := Lib.hid m3
  clear q3 m3
  go_wp2_with fail
  clear r3
  refine (twoII_kind 1 35 31 37 7 acts7 _).mono ?_
  rintro e v2 ⟨⟨x2, y2, z2, rfl, k2⟩, b2⟩
  have K2 := Lib.hid k2
  have N2 := Lib.hid (M3.out.below b2)
  clear k2 b2
  obtain ⟨w4, q4, m4⟩ := N2.out.put (7, 2, 1, (cloV 54 x2 y2 z2)) rfl (K2.out)
  have r4 : (Instr.mapUpdate 49 (.map (some w.heap.size)) (.int .u8 7) (deedV 2 1 (cloV 54 x2 y2 z2))).run Tryd.prog v2 = .ok () w4 := q4
  have M4 := Lib.hid m4
  clear q4 m4
  go_wp2_with fail
  clear r4
  refine (twoII_kind 1 35 31 38 8 acts8 _).mono ?_
  rintro e v3 ⟨⟨x3, y3, z3, rfl, k3⟩, b3⟩
  have K3 := Lib.hid k3
  have N3 := Lib.hid (M4.out.below b3)
  clear k3 b3
  obtain ⟨w5, q5, m5⟩ := N3.out.put (8, 2, 1, (cloV 54 x3 y3 z3)) rfl (K3.out)
  have r5 : (Instr.mapUpdate 49 (.map (some w.heap.size)) (.int .u8 8) (deedV 2 1 (cloV 54 x3 y3 z3))).run Tryd.prog v3 = .ok () w5 := q5
  have M5 := Lib.hid m5
  clear q5 m5
  go_wp2_with fail
  clear r5
  refine (twoII_kind 1 35 31 39 9 acts9 _).mono ?_
  rintro e v4 ⟨⟨x4, y4, z4, rfl, k4⟩, b4⟩
  have K4 := Lib.hid k4
  have N4 := Lib.hid (M5.out.below b4)
  clear k4 b4
  obtain ⟨w6, q6, m6⟩ := N4.out.put (9, 2, 1, (cloV 54 x4 y4 z4)) rfl (K4.out)
  have r6 : (Instr.mapUpdate 49 (.map (some w.heap.size)) (.int .u8 9) (deedV 2 1 (cloV 54 x4 y4 z4))).run Tryd.prog v4 = .ok () w6 := q6
  have M6 := Lib.hid m6
  clear q6 m6
  go_wp2_with fail
  clear r6
  refine (twoII_kind 1 35 31 40 10 acts10 _).mono ?_
  rintro e v5 ⟨⟨x5, y5, z5, rfl, k5⟩, b5⟩
  have K5 := Lib.hid k5
  have N5 := Lib.hid (M6.out.below b5)
  clear k5 b5
  obtain ⟨w7, q7, m7⟩ := N5.out.put (10, 2, 1, (cloV 54 x5 y5 z5)) rfl (K5.out)
  have r7 : (Instr.mapUpdate 49 (.map (some w.heap.size)) (.int .u8 10) (deedV 2 1 (cloV 54 x5 y5 z5))).run Tryd.prog v5 = .ok () w7 := q7
  have M7 := Lib.hid m7
  clear q7 m7
  go_wp2_with fail
  clear r7
  refine (twoIB_kind 1 35 33 42 13 acts13 _).mono ?_
  rintro e v6 ⟨⟨x6, y6, z6, rfl, k6⟩, b6⟩
  have K6 := Lib.hid k6
  have N6 := Lib.hid (M7.out.below b6)
  clear k6 b6
  obtain ⟨w8, q8, m8⟩ := N6.out.put (13, 2, 1, (cloV 55 x6 y6 z6)) rfl (K6.out)
  have r8 : (Instr.mapUpdate 49 (.map (some w.heap.size)) (.int .u8 13) (deedV 2 1 (cloV 55 x6 y6 z6))).run Tryd.prog v6 = .ok () w8 := q8
  have M8 := Lib.hid m8
  clear q8 m8
  go_wp2_with fail
  clear r8
  refine (twoIB_kind 1 35 33 43 14 acts14 _).mono ?_
  rintro e v7 ⟨⟨x7, y7, z7, rfl, k7⟩, b7⟩
  have K7 := Lib.hid k7
  have N7 := Lib.hid (M8.out.below b7)
  clear k7 b7
  obtain ⟨w9, q9, m9⟩ := N7.out.put (14, 2, 1, (cloV 55 x7 y7 z7)) rfl (K7.out)
  have r9 : (Instr.mapUpdate 49 (.map (some w.heap.size)) (.int .u8 14) (deedV 2 1 (cloV 55 x7 y7 z7))).run Tryd.prog v7 = .ok () w9 := q9
  have M9 := Lib.hid m9
  clear q9 m9
  go_wp2_with fail
  clear r9
  refine (twoIB_kind 0 35 33 44 11 acts11 _).mono ?_
  rintro e v8 ⟨⟨x8, y8, z8, rfl, k8⟩, b8⟩
  have K8 := Lib.hid k8
  have N8 := Lib.hid (M9.out.below b8)
  clear k8 b8
  obtain ⟨w10, q10, m10⟩ := N8.out.put (11, 2, 0, (cloV 55 x8 y8 z8)) rfl (K8.out)
  have r10 : (Instr.mapUpdate 49 (.map (some w.heap.size)) (.int .u8 11) (deedV 2 0 (cloV 55 x8 y8 z8))).run Tryd.prog v8 = .ok () w10 := q10
  have M10 := Lib.hid m10
  clear q10 m10
  go_wp2_with fail
  clear r10
  refine (twoIB_kind 0 35 33 45 12 acts12 _).mono ?_
  rintro e v9 ⟨⟨x9, y9, z9, rfl, k9⟩, b9⟩
  have K9 := Lib.hid k9
  have N9 := Lib.hid (M10.out.below b9)
  clear k9 b9
  obtain ⟨w11, q11, m11⟩ := N9.out.put (12, 2, 0, (cloV 55 x9 y9 z9)) rfl (K9.out)
  have r11 : (Instr.mapUpdate 49 (.map (some w.heap.size)) (.int .u8 12) (deedV 2 0 (cloV 55 x9 y9 z9))).run Tryd.prog v9 = .ok () w11 := q11
  have M11 := Lib.hid m11
  clear q11 m11
  go_wp2_with fail
  clear r11
  refine (twoBB_kind 2 20 33 47 15 acts15 _).mono ?_
  rintro e v10 ⟨⟨x10, y10, z10, rfl, k10⟩, b10⟩
  have K10 := Lib.hid k10
  have N10 := Lib.hid (M11.out.below b10)
  clear k10 b10
  obtain ⟨w12, q12, m12⟩ := N10.out.put (15, 2, 2, (cloV 56 x10 y10 z10)) rfl (K10.out)
  have r12 : (Instr.mapUpdate 49 (.map (some w.heap.size)) (.int .u8 15) (deedV 2 2 (cloV 56 x10 y10 z10))).run Tryd.prog v10 = .ok () w12 := q12
  have M12 := Lib.hid m12
  clear q12 m12
  go_wp2_with fail
  clear r12
  refine (twoBB_kind 2 20 33 48 16 acts16 _).mono ?_
  rintro e v11 ⟨⟨x11, y11, z11, rfl, k11⟩, b11⟩
  have K11 := Lib.hid k11
  have N11 := Lib.hid (M12.out.below b11)
  clear k11 b11
  obtain ⟨w13, q13, m13⟩ := N11.out.put (16, 2, 2, (cloV 56 x11 y11 z11)) rfl (K11.out)
  have r13 : (Instr.mapUpdate 49 (.map (some w.heap.size)) (.int .u8 16) (deedV 2 2 (cloV 56 x11 y11 z11))).run Tryd.prog v11 = .ok () w13 := q13
  have M13 := Lib.hid m13
  clear q13 m13
  go_wp2_with fail
  clear r13
  go_ret
  exact ⟨_, rfl, rfl, M13.out⟩
end Go.Proofs.YtphlodafdkpedaaDoor
