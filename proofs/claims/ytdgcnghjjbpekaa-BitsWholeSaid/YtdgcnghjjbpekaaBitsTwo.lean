/-
  Two writers of one call.
-/
import Derived.Test.YtdgcnghjjbpekaaBitsAlive
import Derived.Test.YtdgcnghjjbpekaaBitsPut
namespace Go.Proofs.Ytdgcnghjjbpekaa
open Go.RowKit
open Go

theorem WriAt.out {B pw pr qw qr : Nat} {v u : Value} {L M : List Bool} {w : World} (h : WriAt B pw pr v L w) (k : WriAt B qw qr u M w) : ¬ foot pr v qw := by
  intro hf
  obtain ⟨c, t, hc, ht⟩ := cells_of_foot h.2 qw hf
  have := k.1.symm.trans hc
  simp at this
  rcases ht with rfl | rfl <;> simp at this
/-- Two writers apart. -/
def Two (w0 : World) (pw : Nat) (L : List Bool) (qw : Nat) (M : List Bool) (w : World) : Prop :=
  ∃ pr v qr u, WriAt w0.heap.size pw pr v L w ∧ WriAt w0.heap.size qw qr u M w ∧ (∀ k, foot pr v k → ¬ foot qr u k) ∧ Below w0.heap.size w0 w
theorem Two.bel {w0 : World} {pw qw : Nat} {L M : List Bool} {w : World} (h : Two w0 pw L qw M w) : Below w0.heap.size w0 w := by
  obtain ⟨pr, v, qr, u, _, _, _, h⟩ := h
  exact h
theorem Two.symm {w0 : World} {pw qw : Nat} {L M : List Bool} {w : World} (h : Two w0 pw L qw M w) : Two w0 qw M pw L w := by
  obtain ⟨pr, v, qr, u, h1, h2, h3, h4⟩ := h
  exact ⟨qr, u, pr, v, h2, h1, fun k a b => h3 k b a, h4⟩
theorem Two.below {w0 : World} {pw qw : Nat} {L M : List Bool} {w w' : World} (h : Two w0 pw L qw M w) (hb : Below w.heap.size w w') : Two w0 pw L qw M w' := by
  obtain ⟨pr, v, qr, u, h1, h2, h3, h4⟩ := h
  exact ⟨pr, v, qr, u, h1.below hb, h2.below hb, h3, bnext h4 hb⟩
theorem new_two (w0 : World) (pw : Nat) (L : List Bool) (w : World) (h : Mine w0 pw L w) : Calls Try.prog 10 #[] w fun e w' => ∃ qw, e = .returned (.pointer (some ⟨qw, 0, none⟩)) ∧ Two w0 pw L qw [] w' := by
  obtain ⟨pr, v, h1, h2, h3⟩ := h
  refine (new_any w).mono ?_
  rintro e w' ⟨rfl, ⟨q1, q2⟩, q3⟩
  have hs := h3.size
  refine ⟨_, rfl, pr, v, w.heap.size, _, h1.below q3, ⟨q1, ⟨by omega, q2.row, ⟨q2.owns.1, .inl ⟨rfl, rfl⟩⟩, q2.most⟩⟩, fun k hk => ?_, bnext h3 q3⟩
  have := h1.2.foot_lt k hk
  rintro (e | e)
  · omega
  · cases e
theorem put_two (w0 : World) (pw qw : Nat) (L M : List Bool) (n k : Nat) (w : World) (h : Two w0 pw L qw M w) (hn : n < 2 ^ k) (hk : k ≤ 64) (hm : L.length + k < 1000000) :
    Calls Try.prog 11 #[.pointer (some ⟨pw, 0, none⟩), .int .u64 n, .int .i64 k] w fun e w' => e = .returned (.int .i64 0) ∧ Two w0 pw (L ++ nbits n k) qw M w' := by
  obtain ⟨pr, v, qr, u, h1, h2, h3, h4⟩ := h
  refine (put_ok _ pw pr v L n k w h1 hn hk hm h4.size).mono ?_
  rintro e w' ⟨rfl, v', q1, q2⟩
  refine ⟨rfl, pr, v', qr, u, q1, h2.kept q2.only (fun k a b => h3 k b a) (h1.out h2), fun k a b => ?_, h4.trans (q2.only.below h1.2.foot_ge h4.size)⟩
  have hlt := h2.2.foot_lt k b
  rcases a with rfl | a
  · exact h3 k (.inl rfl) b
  · rcases q2.own with e | ⟨g, e, hg⟩
    · exact h3 k (.inr (e ▸ a)) b
    · rw [e] at a
      cases a
      omega
theorem len_two (w0 : World) (pw qw : Nat) (L M : List Bool) (w : World) (h : Two w0 pw L qw M w) : Calls Try.prog 15 #[.pointer (some ⟨pw, 0, none⟩)] w fun e w' => e = .returned (.int .i64 L.length) ∧ w = w' := by
  obtain ⟨pr, v, qr, u, h1, _⟩ := h
  exact len_any _ pw pr v L w h1
theorem bytes_two (w0 : World) (pw qw : Nat) (L M : List Bool) (w : World) (h : Two w0 pw L qw M w) :
    Calls Try.prog 13 #[.pointer (some ⟨pw, 0, none⟩)] w fun e w' => ∃ v', e = .returned v' ∧ Rd w' v' (by8 (iN (pack L))) ∧ Below w.heap.size w w' := by
  obtain ⟨pr, v, qr, u, h1, _⟩ := h
  refine (bytes_any _ pw pr v L w h1).mono ?_
  rintro e w' ⟨v', rfl, q1, q2⟩
  exact ⟨v', rfl, own_rd q1, q2⟩
end Go.Proofs.Ytdgcnghjjbpekaa
