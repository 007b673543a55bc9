/-
  Put and Get in the walk's own spelling.
-/
import Derived.Test.YtafamnodeliaaaaFrmGot
import Derived.Test.YtafamnodeliaaaaFrmSameF
import Derived.Test.YtafamnodeliaaaaFrmArgs
namespace Go.Proofs.Ytafamnodeliaaaa
open Go.RowKit
open Go

theorem put3 (sn rd mem md : Nat) (pl : List Nat) (h : (Fr.mk sn rd mem md pl).Ok) (a : Option Addr) (c : Nat) (w : World) (hv : Rd w (.slice a pl.length c) (by8 (iN pl))) :
    Calls Try.prog 10 #[.agg #[.int .i64 sn, .int .u32 rd, .int .u8 mem, .int .u16 md, .slice a pl.length c]] w fun e w' =>
      ∃ g c', e = .returned (.tuple #[.slice (some ⟨g, 0, none⟩) (13 + pl.length) c', .int .i64 0]) ∧ w'.ownsRow w.heap.size 5 1 (.slice (some ⟨g, 0, none⟩) (13 + pl.length) c') (13 + pl.length) (by8 (iN (Fr.mk sn rd mem md pl).bytes)) ∧ Below w.heap.size w w' ∧
        13 + pl.length ≤ c' ∧ c' ≤ 9223372036854775807 ∧ w.heap.size ≤ g ∧ g < w'.heap.size := by
  refine (put_frame _ h _ w hv).mono ?_
  rintro e w' ⟨u, rfl, o, b⟩
  rw [Fr.bytes_len] at o
  obtain ⟨g, c', rfl, h1, h2⟩ := o.form (by omega)
  rcases o.2 with ⟨e, _⟩ | ⟨g', c'', cur, e, _, _, h3, h4, _⟩
  · cases e
  · cases e
    exact ⟨g, c', rfl, o, b, h3, h4, h1, h2⟩
theorem get3 (sn rd mem md : Nat) (pl : List Nat) (h : (Fr.mk sn rd mem md pl).Ok) (v : Value) (w : World) (hv : Rd w v (by8 (iN (Fr.mk sn rd mem md pl).bytes))) :
    Calls Try.prog 11 #[v] w fun e w' => ∃ a c, e = .returned (.tuple #[.agg #[.int .i64 sn, .int .u32 rd, .int .u8 mem, .int .u16 md, .slice a pl.length c], .int .i64 0]) ∧
      w'.ownsRow w.heap.size 5 1 (.slice a pl.length c) pl.length (by8 (iN pl)) ∧ Below w.heap.size w w' := by
  refine (get_put _ h v w hv).mono ?_
  rintro e w' ⟨u, rfl, o, b⟩
  obtain ⟨a, c, rfl⟩ := owns_shape o
  exact ⟨a, c, rfl, o, b⟩
theorem bad3 (bs : List Nat) (n : Nat) (hb : NB bs) (v : Value) (w : World) (hv : Rd w v (by8 (iN bs))) (hm : bs.length ≤ 140737488351232) (he : errOf bs = n) (hn : n ≠ 0) : Calls Try.prog 11 #[v] w fun e w' =>
    e = .returned (.tuple #[.agg #[.int .i64 0, .int .u32 0, .int .u8 0, .int .u16 0, .slice none 0 0], .int .i64 n]) ∧ Below w.heap.size w w' := get_bad bs n hb v w hv hm he hn
theorem same3 (sn rd mem md : Nat) (pl : List Nat) (v u : Value) (w : World) (h1 : Rd w v (by8 (iN pl))) (h2 : Rd w u (by8 (iN pl))) :
    Calls Try.prog 12 #[.agg #[.int .i64 sn, .int .u32 rd, .int .u8 mem, .int .u16 md, v], .agg #[.int .i64 sn, .int .u32 rd, .int .u8 mem, .int .u16 md, u]] w fun e w' => e = .returned (.bool true) ∧ Below w.heap.size w w' := by
  have := same_frame sn sn rd rd mem mem md md v u (iN pl) (iN pl) w h1 h2
  simpa [frV] using this
theorem fr_mk {st : Int} {rd mem md : Nat} {pl : List Nat} (h : 1 ≤ st ∧ st ≤ 8 ∧ pl.length ≤ 4095) (h1 : rd < 4294967296) (h2 : mem < 256) (h3 : md < 65536) (h4 : NB pl) : ∃ sn : Nat, st = sn ∧ (Fr.mk sn rd mem md pl).Ok :=
  ⟨st.toNat, by omega, ⟨by show 1 ≤ st.toNat; omega, by show st.toNat ≤ 8; omega, h1, h2, h3, h.2.2, h4⟩⟩
theorem cell_one_new2 (w : World) (o : Obj) (x : Value) (t : TypeId) : ∀ j u, [x][j]? = some u → ((w.alloc o).alloc (.cells #[x] t)).cell? ((⟨w.heap.size + 1, 0, none⟩ : Addr).add j) = some u := by
  have h := cell_one_new (w.alloc o) x t
  have e : (w.alloc o).heap.size = w.heap.size + 1 := by simp
  rw [e] at h
  exact h
/-- Kept, but for one block. -/
theorem own_grown {w w' : World} {base sz : Nat} {e : TypeId} {v : Value} {n : Nat} {xs : List Value} {row : Option Nat} (h : w.ownsRow base e sz v n xs) (hg : w.grownBy w' row) (hlt : ∀ g, v.ownBlock = some g → g < w.heap.size) (hn : ∀ g, v.ownBlock = some g → row ≠ some g) : w'.ownsRow base e sz v n xs :=
  ownsRow_kept h fun g hgg => hg.block g (hlt g hgg) (fun e => hn g hgg e.symm)
end Go.Proofs.Ytafamnodeliaaaa
