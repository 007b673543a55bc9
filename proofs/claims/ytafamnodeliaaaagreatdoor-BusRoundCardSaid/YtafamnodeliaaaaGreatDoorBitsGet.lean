/-
  The walks of bits.Bytes (slices.Clone) and bits.Get.
-/
import Derived.Test.YtafamnodeliaaaaGreatDoorBitsW
import Derived.Test.YtafamnodeliaaaaGreatDoorKit2
import Derived.Laws.BitsAllLaws
import Derived.OpenShut
namespace Go.Proofs.YtafamnodeliaaaaGreatDoor
open Go.RowKit
open Go

/-- slices.Clone: memory of its own; nil stays nil. -/
theorem clone_any (a : Option Addr) (n c : Nat) (cs : List Int) (w : World) (h : Rd w (.slice a n c) (by8 cs)) (hm : n ≤ 140737488351232) :
    Calls Tryz.prog 21 #[.slice a n c] w fun e w' => ∃ v', e = .returned v' ∧ w'.ownsRow w.heap.size 5 1 v' n (by8 cs) ∧ (v'.ownBlock = none ↔ a = none) ∧ Below w.heap.size w w' := by
  have hl : (by8 cs).length = n := by
    obtain ⟨a, c', e, _⟩ := h
    cases e
    rfl
  have q1 := fun (w : World) => Lib.run_eql_slice_nil w 47 5 a n c 0 0 Tryz.underlying47
  cases a with
  | none =>
    have hn : n = 0 ∧ c = 0 := by
      obtain ⟨a, c', e, h1, _, h3, _⟩ := h
      cases e
      have := h3 rfl
      omega
    obtain ⟨rfl, rfl⟩ := hn
    simp only [Option.isNone_none] at q1
    have hc0 : by8 cs = [] := List.eq_nil_of_length_eq_zero hl
    have HC0 := Lib.hid hc0
    clear hl hc0
    go_enter Tryz.func21, Tryz.ntmps21
    go_wp2_with fail
    go_ret
    exact ⟨_, rfl, ⟨by rw [HC0.out]; rfl, .inl ⟨rfl, rfl⟩⟩, by simp [Value.ownBlock], Below.refl _ _⟩
  | some p =>
    obtain ⟨i0, hi, hz0, hz1, hz2⟩ := info_parts info5
    simp only [Option.isNone_some] at q1
    have HL := Lib.hid hl
    clear hl
    have src : ∀ (j : Nat) (u : Value), (by8 cs)[j]? = some u → (w.alloc (.cells #[] 5)).cell? (p.add j) = some u := by
      intro j u hj
      obtain ⟨a, c', e, _, _, _, hcell⟩ := h.below (balloc (Below.refl w.heap.size w) (.cells #[] 5))
      obtain ⟨b, o, e2, hc⟩ := hcell j u hj
      cases e
      cases e2
      rw [Addr.add_lit]
      exact hc
    have SRC := Lib.hid src
    clear src
    have own0 : (w.alloc (.cells #[] 5)).ownsRow w.heap.size 5 1 (.slice (some ⟨w.heap.size, 0, none⟩) 0 0) 0 [] := ⟨rfl, .inr ⟨_, 0, #[], rfl, Nat.le_refl _, heap_alloc_new _ _, Nat.le_refl _, by simp [maxLen], rfl, rfl⟩⟩
    go_enter Tryz.func21, Tryz.ntmps21
    go_wp2_with (at_builtin; refine wpList_append_own_at _ rfl _ _ 47 rfl w.heap.size 5 i0 (.int .u8 0) 1 1 Tryz.underlying47 hi hz0 hz1 hz2 rfl (by decide) (.slice (some ⟨w.heap.size, 0, none⟩) 0 0) 0 [] rfl own0 p n c (by8 cs) rfl (by rw [HL.out]; simp) SRC.out (oc8 _ _) (by unfold maxLen; omega) (by omega) (by simp) ?_; intro v' w1 hown1 hgrow1 hnil1 hv1)
    go_ret
    have hb : Below w.heap.size w w1 := (balloc (Below.refl w.heap.size w) _).grown hgrow1 (by simp) (fun k e => by
      cases e
      exact Nat.le_refl _)
    refine ⟨_, rfl, by simpa using hown1, ?_, hb⟩
    have hne : v'.ownBlock ≠ none := by
      rcases hv1 with e | e <;> rw [e] <;> exact fun x => by cases x
    exact ⟨fun x => absurd x hne, fun x => by cases x⟩
theorem owns_shape {w : World} {base : Nat} {e : TypeId} {v : Value} {n : Nat} {xs : List Value} (h : w.ownsRow base e 1 v n xs) : ∃ a c, v = .slice a n c := by
  rcases h.2 with ⟨rfl, rfl⟩ | ⟨g, c, cur, rfl, _⟩
  · exact ⟨none, 0, rfl⟩
  · exact ⟨_, c, rfl⟩
end Go.Proofs.YtafamnodeliaaaaGreatDoor
