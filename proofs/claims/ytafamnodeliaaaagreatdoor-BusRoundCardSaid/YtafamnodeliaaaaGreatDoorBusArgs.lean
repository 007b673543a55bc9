/-
  The arguments of the bus's laws, opened; the walk of great.
-/
import Derived.Test.YtafamnodeliaaaaGreatDoorBusRound
import Derived.Test.YtafamnodeliaaaaGreatDoorCells
namespace Go.Proofs.YtafamnodeliaaaaGreatDoor
open Go.ChangeShapes Go.WideShapes Go.ChangeAt Go.RowKit

theorem blist3 {α : Type} {l : List α} (h : l.length = 3) : ∃ a b c, l = [a, b, c] := by
  match l, h with
  | [a, b, c], _ => exact ⟨a, b, c, rfl⟩
theorem blist5 {α : Type} {l : List α} (h : l.length = 5) : ∃ a b c d e, l = [a, b, c, d, e] := by
  match l, h with
  | [a, b, c, d, e], _ => exact ⟨a, b, c, d, e, rfl⟩
theorem Cells.fail {W : World} {cs : List Value} (h : Cells Tryz.prog W 58 cs) : ∃ f : Fl, cs = rowF f ∧ (Lit.int .i64 f.r).wf = true ∧ (Lit.int .i64 f.s).wf = true ∧ (Lit.int .u8 f.h).wf = true ∧ (Lit.int .i64 f.a).wf = true ∧ (Lit.int .u8 f.b).wf = true := by
  obtain ⟨hl, hf⟩ := h.struct Tryz.underlying58
  rw [show Tryz.prog.cellsOf 58 = 5 by kernel_rfl] at hl
  obtain ⟨a, b, c, d, e, rfl⟩ : ∃ a b c d e, cs = [a, b, c, d, e] := blist5 hl
  have c3 : Tryz.prog.cellsOf 3 = 1 := by kernel_rfl
  have c5 : Tryz.prog.cellsOf 5 = 1 := by kernel_rfl
  have h0 : Cells Tryz.prog W 3 (([a, b, c, d, e].drop 0).take (Tryz.prog.cellsOf 3)) := hf 0 _ rfl
  have h1 : Cells Tryz.prog W 3 (([a, b, c, d, e].drop 1).take (Tryz.prog.cellsOf 3)) := hf 1 _ rfl
  have h2 : Cells Tryz.prog W 5 (([a, b, c, d, e].drop 2).take (Tryz.prog.cellsOf 5)) := hf 2 _ rfl
  have h3 : Cells Tryz.prog W 3 (([a, b, c, d, e].drop 3).take (Tryz.prog.cellsOf 3)) := hf 3 _ rfl
  have h4 : Cells Tryz.prog W 5 (([a, b, c, d, e].drop 4).take (Tryz.prog.cellsOf 5)) := hf 4 _ rfl
  rw [c3] at h0 h1 h3
  rw [c5] at h2 h4
  obtain ⟨x0, e0, f0⟩ := h0.int Tryz.underlying3
  obtain ⟨x1, e1, f1⟩ := h1.int Tryz.underlying3
  obtain ⟨x2, e2, f2⟩ := h2.int Tryz.underlying5
  obtain ⟨x3, e3, f3⟩ := h3.int Tryz.underlying3
  obtain ⟨x4, e4, f4⟩ := h4.int Tryz.underlying5
  simp at e0 e1 e2 e3 e4
  subst e0 e1 e2 e3 e4
  exact ⟨⟨x0, x1, x2, x3, x4⟩, rfl, f0, f1, f2, f3, f4⟩
/-- A list of lists of bytes. -/
theorem Cells.lists {W : World} {cs : List Value} (h : Cells Tryz.prog W 22 cs) : ∃ v css, cs = [v] ∧ RdB W v css ∧ (∀ c ∈ css, IsB c) ∧ css.length ≤ 140737488351232 := by
  have c1 : Tryz.prog.cellsOf 47 = 1 := by kernel_rfl
  have c2 : Tryz.prog.cellsOf 5 = 1 := by kernel_rfl
  obtain ⟨v, rows, rfl, hR, hrows, hw⟩ := h.slice Tryz.underlying22 (by rw [c1]; decide)
  have each : ∀ r ∈ rows, ∃ x : Value × List Int, r = [x.1] ∧ (Rd W x.1 (by8 x.2) ∧ IsB x.2 ∧ x.2.length ≤ 140737488351232) := by
    intro r hr
    obtain ⟨u, zs, rfl, hu, hz, hwz⟩ := (hrows r hr).nums Tryz.underlying47 Tryz.underlying5 c2
    refine ⟨(u, zs), rfl, hu, fun c hc => bounds_u8 (hz c hc), ?_⟩
    rw [show Tryz.prog.bytesOf 5 = 1 by kernel_rfl] at hwz
    simpa [reachBytes] using hwz
  obtain ⟨xs, rfl, hxs⟩ := rows_of (fun x : Value × List Int => [x.1]) _ rows each
  rw [c1] at hR
  have hR1 := hR.one (xs := xs.map (·.1)) (by simp)
  refine ⟨v, xs.map (·.2), rfl, ⟨xs.map (·.1), hR1, by simp, fun i u cs hu hc => ?_⟩, fun c hc => ?_, ?_⟩
  · rw [List.getElem?_map] at hu hc
    cases hx : xs[i]? with
    | none => rw [hx] at hu; cases hu
    | some x =>
      rw [hx] at hu hc
      cases hu
      cases hc
      have := hxs x (List.mem_of_getElem? hx)
      exact ⟨this.1, this.2.2⟩
  · obtain ⟨x, hx, rfl⟩ := List.mem_map.1 hc
    exact (hxs x hx).2.1
  · rw [show Tryz.prog.bytesOf 47 = 24 by kernel_rfl] at hw
    simp [reachBytes] at hw ⊢
    omega
theorem Arg.sending22 {W : World} {x : Value} (h : Arg Tryz.prog 25 W x) : ∃ (v u : Value) (css : List (List Int)) (fs : List Fl) (rd : Int),
    x = .agg #[v, u, .int .i64 rd] ∧ RdB W v css ∧ (∀ c ∈ css, IsB c) ∧ css.length ≤ 140737488351232 ∧ RdN 5 W u (fs.map rowF) ∧ fs.length * 40 ≤ 140737488351232 ∧
    (∀ f ∈ fs, (Lit.int .i64 f.r).wf = true ∧ (Lit.int .i64 f.s).wf = true ∧ (Lit.int .u8 f.h).wf = true ∧ (Lit.int .i64 f.a).wf = true ∧ (Lit.int .u8 f.b).wf = true) ∧ (Lit.int .i64 rd).wf = true := by
  obtain ⟨cs, rfl⟩ := h.struct Tryz.underlying25
  obtain ⟨hl, hf⟩ := h.cells.struct Tryz.underlying25
  have hcs : (Value.agg cs).cells.toList = cs.toList := rfl
  rw [hcs] at hl hf
  generalize hc : cs.toList = cl at *
  have hcc : cs = cl.toArray := by rw [← hc]
  subst hcc
  rw [show Tryz.prog.cellsOf 25 = 3 by kernel_rfl] at hl
  obtain ⟨a, b, c, rfl⟩ : ∃ a b c, cl = [a, b, c] := blist3 hl
  have n1 : Tryz.prog.cellsOf 22 = 1 := by kernel_rfl
  have n2 : Tryz.prog.cellsOf 23 = 1 := by kernel_rfl
  have n3 : Tryz.prog.cellsOf 3 = 1 := by kernel_rfl
  have n5 : Tryz.prog.cellsOf 58 = 5 := by kernel_rfl
  have h0 : Cells Tryz.prog W 22 (([a, b, c].drop 0).take (Tryz.prog.cellsOf 22)) := hf 0 _ rfl
  have h1 : Cells Tryz.prog W 23 (([a, b, c].drop 1).take (Tryz.prog.cellsOf 23)) := hf 1 _ rfl
  have h2 : Cells Tryz.prog W 3 (([a, b, c].drop 2).take (Tryz.prog.cellsOf 3)) := hf 2 _ rfl
  rw [n1] at h0
  rw [n2] at h1
  rw [n3] at h2
  obtain ⟨v, css, e0, hR, hB, hL⟩ := h0.lists
  obtain ⟨u, rows, e1, hU, hrows, hw⟩ := h1.slice Tryz.underlying23 (by rw [n5]; decide)
  obtain ⟨rd, e2, frd⟩ := h2.int Tryz.underlying3
  obtain ⟨fs, rfl, hfs⟩ := rows_of rowF _ rows fun r hr => (hrows r hr).fail
  rw [n5] at hU
  rw [show Tryz.prog.bytesOf 58 = 40 by kernel_rfl] at hw
  simp at e0 e1 e2
  subst e0 e1 e2
  exact ⟨_, _, css, fs, rd, rfl, hR, hB, hL, hU, by simpa [reachBytes] using hw, hfs, frd⟩

/-- Yes or no. -/
def AnyB (e : Ending) : Prop := ∃ b, e = .returned (.bool b)

set_option maxHeartbeats 1000000 in
theorem great_any (v u : Value) (css : List (List Int)) (n : Nat) (a2 : Option Addr) (c2 : Nat) (rd : Int) (w : World) (hS : RdB w v css) (hu : u = .slice a2 n c2) :
    Calls Tryz.prog 4 #[.agg #[v, u, .int .i64 rd]] w fun e w' => AnyB e ∧ Below w.heap.size w w' := by
  subst hu
  obtain ⟨ws, hR, hl, heach⟩ := hS
  obtain ⟨a, c, rfl, hc, hm⟩ := hR.len
  have B1 := balloc (Below.refl w.heap.size w) (.cells #[.slice a ws.length c, .slice a2 n c2, .int .i64 rd] 25)
  have HE := Lib.hid heach
  have HL := Lib.hid hl
  clear heach hl
  go_enter Tryz.func4, Tryz.ntmps4
  go_wp2_with fail
  go_loop [3, 4] (fun s i => ∃ k : Nat, k ≤ ws.length ∧ i = .int .i64 k ∧ ∃ x : Int, s = .int .i64 x) (fun _ i => ws.length - (intOf i).toNat)
  case atStart => exact ⟨0, by omega, rfl, _, rfl⟩
  case round =>
    obtain ⟨k, hk, rfl, x, rfl⟩ := hrel
    by_cases hlt : k < ws.length
    · have hkc : k < css.length := by have := HL.out; omega
      obtain ⟨bq, oq, rfl, z0⟩ := (hR.below B1).at k ws[k] (List.getElem?_eq_getElem hlt)
      obtain ⟨ak, nk, ck, ek⟩ := (HE.out k ws[k] css[k] (List.getElem?_eq_getElem hlt) (List.getElem?_eq_getElem hkc)).1.form
      rw [ek] at z0
      clear ek
      go_wp2_with fail
      go_round
      case rel => exact ⟨k + 1, by omega, by go_num, _, rfl⟩
      case measure => simp [intOf]; omega
    · obtain rfl : k = ws.length := by omega
      go_wp2_with fail
      all_goals
        go_ret
        exact ⟨⟨_, rfl⟩, B1⟩
end Go.Proofs.YtafamnodeliaaaaGreatDoor
