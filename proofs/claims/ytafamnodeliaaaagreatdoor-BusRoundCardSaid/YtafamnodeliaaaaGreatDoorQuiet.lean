/-
  A region that draws its order, all of whose operations are quiet in a class of worlds: one walk in the text's order. Loads of cells that lie in every world of the class.
-/
import Derived.Test.YtafamnodeliaaaaGreatDoorKit
import Derived.Deep.QuietTactic
import Derived.BigQuiet
namespace Go.Proofs.YtafamnodeliaaaaGreatDoor
open Go.RowKit
open Go

theorem wp_region_quietC {P : Program} {id : Nat} {Q : Exit → Act → World → Prop} {a : Act} {w : World} {l : List Oper} (C : World → Prop) (hm : P.follows .mixedOrders = true) (hB : Region.lexB .any l.toArray = true) (hC : C w.drew)
    (h : wpQuiet P l.toArray C (fun a' => ∀ w', C w' → Q .normal a' w') l a) : (Code.region id l.toArray true).wp P Q a w :=
  wp_region_quiet (C := C) hm hB hC (by simpa using h)

/-- A cell of a block, as a load. -/
theorem run_loadVar_cell {P : Program} {w : World} {b j : Nat} {cs : Array Value} {t ty : TypeId} {fr : Nat × Nat} {v : Value} (hg : w.heap[b]? = some (.cells cs t fr)) (hj : cs[j]? = some v)
    (ha : (isAgg ty).run P w = .ok false w) : (loadVar ty ⟨b, j, none⟩).run P w = .ok v w := by
  have hc : w.cell? ⟨b, j, none⟩ = some v := (cell_of_row w b j _ _ _ hg).trans hj
  simp [loadVar, Sem.run_bind, ha, load, Sem.run, hc]
theorem quiet_load {P : Program} {C : World → Prop} {o : Oper} {a : Act} {K : Act → Prop} (t : TypeId) (x : Operand) (h : o.op = .load t x) (p : Addr) (hx : a.eval x = .pointer (some p)) (v : Value)
    (hc : ∀ w, C w → (loadVar t p).run P w = .ok v w) (hk : K (a.put o.dst v)) : o.quiet P a C K := by
  refine ⟨v, fun w hw => ?_, hk⟩
  unfold Oper.quietAt execOp
  simp only [h, hx, Instr.loadAt, Instr.sureAddr, Sem.run_bind, Sem.run_pure, Result.andThen_ok, hc w hw]
  exact ⟨rfl, rfl⟩
end Go.Proofs.YtafamnodeliaaaaGreatDoor
