/-
  Arguments that came in, opened: what is told of each is only that it can be read ('Arg').
-/
import Derived.Test.YtafamnodeliaaaaGreatDoorKit
import Derived.ProofKit
import Derived.SizedLaws
import Derived.OpenShut
namespace Go.Proofs.YtafamnodeliaaaaGreatDoor
open Go.ChangeShapes Go.WideShapes Go.ChangeAt Go.RowKit

/-- v is an argument of type t that can be read in W, within the form's own reach. -/
def Arg (P : Program) (t : TypeId) (W : World) (v : Value) : Prop :=
  ∃ (H : Type) (enc : TypeId × Value → H) (base : Nat) (d : DataW H) (p : List MemPlace),
    Value.okWide P W .any base t v ∧ DataW.Trod enc P W 0 (fun _ => true) true t v d p ∧ ∀ n ∈ d.weights P t, n ≤ reachBytes

variable {P : Program} {t e : TypeId} {W : World} {v : Value}

theorem Arg.int {k : IntKind} (ht : P.underlying t = some (.int k)) (h : Arg P t W v) : ∃ x : Int, v = .int k x ∧ (Lit.int k x).wf = true := by
  obtain ⟨H, enc, base, d, p, ho, hd, _⟩ := h
  obtain ⟨x, rfl, rfl, rfl, wx⟩ := open_int ht ho hd
  exact ⟨x, rfl, wx⟩
theorem Arg.bool (ht : P.underlying t = some .bool) (h : Arg P t W v) : ∃ x : Bool, v = .bool x := by
  obtain ⟨H, enc, base, d, p, ho, hd, _⟩ := h
  obtain ⟨x, rfl, rfl, rfl⟩ := open_bool ht ho hd
  exact ⟨x, rfl⟩

/-- A slice of whole numbers. -/
theorem Arg.nums {k : IntKind} (ht : P.underlying t = some (.slice e)) (he : P.underlying e = some (.int k)) (hc : P.cellsOf e = 1) (h : Arg P t W v) :
    ∃ zs : List Int, Rd W v (zs.map (Value.int k)) ∧ (∀ z ∈ zs, (Lit.int k z).wf = true) ∧ zs.length * P.bytesOf e ≤ reachBytes := by
  obtain ⟨H, enc, base, d, p, ho, ⟨fuel, hf⟩, hw⟩ := h
  obtain ⟨a0, len, cap, rfl⟩ := okWide_slice ht ho
  rcases open_ints ht he hc hf with ⟨hcs, _⟩ | ⟨x, l, c, zs, hcs, _, hl, hm, hz, hx, hcell, hwz⟩
  · simp [Value.cells] at hcs
    obtain ⟨rfl, rfl, rfl⟩ := hcs
    exact ⟨[], Rd.nil _, by simp, by simp⟩
  · simp [Value.cells] at hcs
    obtain ⟨rfl, rfl, rfl⟩ := hcs
    simp only [Prod.mk.injEq] at hx
    obtain ⟨rfl, rfl⟩ := hx
    simp only [if_true] at hz
    have hlen : (zs.take len).length = len := by rw [List.length_take]; omega
    have hlen2 : ((zs.take len).map (Value.int k)).length = len := by rw [List.length_map, hlen]
    refine ⟨zs.take len, ⟨some x, cap, by rw [hlen2], by omega, hm, by simp, fun i y hy => ?_⟩, fun z hz => hwz z (List.mem_of_mem_take hz), ?_⟩
    · have hil : i < len := by
        have := (List.getElem?_eq_some_iff.1 hy).1
        omega
      obtain ⟨b, off, rfl, hb⟩ := ints_at hcell (by omega)
      refine ⟨b, off, rfl, ?_⟩
      rw [hb i (by omega), ← hy]
      simp [hil, show i < zs.length by omega]
    · have := hw (((zs.take len).length + (zs.drop len).length) * P.bytesOf e) (by simp [DataW.weights, ht, lits])
      exact Nat.le_trans (Nat.mul_le_mul_right _ (Nat.le_add_right _ _)) this
end Go.Proofs.YtafamnodeliaaaaGreatDoor
