/-
  The walk of BusFine: where nothing goes wrong in a round, and nobody is silent, all comes as it was sent.
-/
import Derived.Test.YtafamnodeliaaaaBusArgs
import Derived.Test.YtafamnodeliaaaaBusLives
import Derived.Test.YtafamnodeliaaaaRowsN
import Derived.Test.YtafamnodeliaaaaSame
import Derived.OpenShut
namespace Go.Proofs.Ytafamnodeliaaaa
open Go.RowKit
open Go

/-- What goes wrong later. -/
def lateB (rd : Int) (n : Nat) (f : Fl) : Bool := decide (rd < f.r) && (decide (1 ≤ f.s) && (decide (f.s ≤ n) && (decide (0 ≤ f.a) && decide (f.h ≤ 2))))
theorem late_out (rd : Int) (n : Nat) (fs : List Fl) (css : List (List Int)) (h : ∀ f ∈ fs, lateB rd n f = true) : css.mapIdx (outI fs rd) = css := by
  have hany : ∀ st, fs.any (silB st rd) = false := by
    intro st
    rw [List.any_eq_false]
    intro f hf
    have := h f hf
    simp only [lateB, Bool.and_eq_true, decide_eq_true_eq] at this
    simp only [silB, Bool.and_eq_true, decide_eq_true_eq, not_and]
    intro _ _
    omega
  have hfold : ∀ st cs, fs.foldl (stepI st rd) cs = cs := by
    intro st cs
    clear hany
    induction fs generalizing cs with
    | nil => rfl
    | cons f fs ih =>
      have h1 := h f (by simp)
      simp only [lateB, Bool.and_eq_true, decide_eq_true_eq] at h1
      have e : stepI st rd cs f = cs := if_pos (.inr (.inr (by omega)))
      rw [List.foldl_cons, e]
      exact ih (fun g hg => h g (by simp [hg])) cs
  have : ∀ i cs, outI fs rd i cs = cs := by
    intro i cs
    unfold outI
    rw [hany, hfold]
    rfl
  apply List.ext_getElem?
  intro i
  rw [List.getElem?_mapIdx]
  cases css[i]? with
  | none => rfl
  | some c => rw [Option.map_some, this]
theorem late_odd (rd : Int) (n : Nat) (fs : List Fl) (hrd : 0 ≤ rd) (h : ∀ f ∈ fs, lateB rd n f = true) : fs.any (oddB n) = false := by
  rw [List.any_eq_false]
  intro f hf
  have := h f hf
  simp only [lateB, Bool.and_eq_true, decide_eq_true_eq] at this
  simp only [oddB, Bool.or_eq_true, decide_eq_true_eq]
  omega
theorem infoF : (Try.prog.info? 29).map (fun i => (i.zero, i.size, i.bytes)) = some (some (.agg #[.int .i64 0, .int .i64 0, .int .u8 0, .int .i64 0, .int .u8 0]), 5, 40) := by kernel_rfl
theorem ocF (f : Fl) : ∀ v ∈ rowF f, v.oneCell' = true := by
  intro v hv
  simp [rowF] at hv
  rcases hv with rfl | rfl | rfl | rfl | rfl <;> rfl

set_option maxRecDepth 20000 in
set_option maxHeartbeats 4000000 in
theorem walk_BusFine (v0 : Value) (W : World) (A0 : Arg Try.prog 25 W v0) :
    Calls Try.prog 3 #[v0] W fun e w' => e = .returned (.bool true) ∧ Below W.heap.size W w' := by
  obtain ⟨v, u, css, fs, rd, rfl, hS, hB, hL, hF, hFL, hwf, _⟩ := A0.sending22
  clear A0 hB
  obtain ⟨a, c, rfl, hc, hcm⟩ := hS.len
  obtain ⟨a2, c2, rfl, hc2, hcm2⟩ := hF.shape
  rw [List.length_map] at *
  unfold maxLen at hcm2
  have B1 := balloc (Below.refl W.heap.size W) (.cells #[.slice a css.length c, .slice a2 fs.length c2, .int .i64 rd] 25)
  have K0 := Lib.hid (heap_alloc_new W (.cells #[.slice a css.length c, .slice a2 fs.length c2, .int .i64 rd] 25 (0, 0)))
  have HW := Lib.hid hwf
  clear hwf
  go_enter Try.func3, Try.ntmps3
  go_wp2_with fail
  refine (great_any _ _ css fs.length a2 c2 rd _ (hS.below B1) rfl).mono ?_
  rintro e w1 ⟨⟨b, rfl⟩, b1⟩
  have B2 := bnext B1 b1
  have K1 := Lib.hid ((b1.block _ (lt_of_block K0.out)).trans K0.out)
  clear B1 b1 K0
  obtain ⟨x0, x1, x2⟩ := cells3 K1.out
  have key : (b = true ∨ decide (8 < (css.length : Int)) = true ∨ decide (rd < 0) = true) ∨ (b = false ∧ decide (8 < (css.length : Int)) = false ∧ decide (rd < 0) = false) := by
    cases b <;> cases decide (8 < (css.length : Int)) <;> cases decide (rd < 0) <;> simp
  rcases key with key | ⟨q1, q2, q3⟩
  · have key : b = true ∨ (b = false ∧ decide (8 < (css.length : Int)) = true) ∨ (b = false ∧ decide (8 < (css.length : Int)) = false ∧ decide (rd < 0) = true) := by
      cases b <;> cases h1 : decide (8 < (css.length : Int)) <;> cases h2 : decide (rd < 0) <;> simp [h1, h2] at key ⊢
    rcases key with rfl | ⟨rfl, q2⟩ | ⟨rfl, q2, q3⟩
    all_goals
      go_wp2_with fail
      refine (lives22_any _).mono ?_
      rintro e w2 ⟨rfl, b2⟩
      go_wp2_with fail
      go_ret
      exact ⟨rfl, bnext B2 b2⟩
  · subst q1
    have h8 : css.length ≤ 8 := by simp at q2; omega
    have hrd : 0 ≤ rd := by simp at q3; omega
    go_wp2_with fail
    clear q2 q3
    obtain ⟨i0, hi, hz0, hz1, hz2⟩ := info_parts infoF
    have HI := Lib.hid hi
    have HZ := Lib.hid hz0
    have HZ1 := Lib.hid hz1
    have HZ2 := Lib.hid hz2
    clear hi hz0 hz1 hz2 x0 x1 x2
    go_loopw [3, 4] (fun vf i wr => ∃ k : Nat, k ≤ fs.length ∧ i = .int .i64 k ∧ Below w1.heap.size w1 wr ∧ wr.ownsRow w1.heap.size 29 5 vf ((fs.take k).filter (lateB rd css.length)).length (((fs.take k).filter (lateB rd css.length)).map rowF).flatten) (fun _ i _ => fs.length - (intOf i).toNat)
    case atStart => exact ⟨0, by omega, rfl, Below.refl _ _, ⟨rfl, .inl ⟨rfl, rfl⟩⟩⟩
    case round =>
      obtain ⟨k, hk, rfl, hb, ho⟩ := hrel
      have k1 := (hb.block _ (lt_of_block K1.out)).trans K1.out
      obtain ⟨x0, x1, x2⟩ := cells3 k1
      by_cases hlt : k < fs.length
      · obtain ⟨bq, oq, rfl, hcl⟩ := (hF.below (bnext B2 hb)).get k (by simpa using hlt)
        rw [List.getElem_map] at hcl
        have htk := take_snoc fs k hlt
        have HTK := Lib.hid htk
        have hfl : ((fs.take k).filter (lateB rd css.length)).length ≤ fs.length := Nat.le_trans (List.length_filter_le _ _) (by simp; omega)
        have hft : (fs.take (k + 1)).filter (lateB rd css.length) = (fs.take k).filter (lateB rd css.length) ++ if lateB rd css.length fs[k] then [fs[k]] else [] := by
          rw [htk, List.filter_append]
          congr 1
          cases hlb : lateB rd css.length fs[k] <;> simp [hlb]
        have HFT := Lib.hid hft
        clear htk hft
        generalize (fs.take k).filter (lateB rd css.length) = gs at *
        generalize hff : fs[k] = f at *
        clear hff
        obtain ⟨r, s, h, ft, fb⟩ := f
        have y0 : wr.cell? ⟨bq, oq + k * 5, none⟩ = some (.int .i64 r) := hcl 0 _ rfl
        have y1 : wr.cell? ⟨bq, oq + k * 5 + 1, none⟩ = some (.int .i64 s) := hcl 1 _ rfl
        have y2 : wr.cell? ⟨bq, oq + k * 5 + 2, none⟩ = some (.int .u8 h) := hcl 2 _ rfl
        have y3 : wr.cell? ⟨bq, oq + k * 5 + 3, none⟩ = some (.int .i64 ft) := hcl 3 _ rfl
        have y4 : wr.cell? ⟨bq, oq + k * 5 + 4, none⟩ = some (.int .u8 fb) := hcl 4 _ rfl
        have b8 := balloc (Below.refl wr.heap.size wr) (.cells #[.int .i64 r, .int .i64 s, .int .u8 h, .int .i64 ft, .int .u8 fb] 29)
        have k2 := (b8.block _ (lt_of_block k1)).trans k1
        obtain ⟨w0, w1', w2'⟩ := cells3 k2
        have ho2 := ho.alloc (.cells #[.int .i64 r, .int .i64 s, .int .u8 h, .int .i64 ft, .int .u8 fb] 29)
        clear hcl k1 k2
        have key : lateB rd css.length ⟨r, s, h, ft, fb⟩ = true ∨ decide (rd < r) = false ∨ (decide (rd < r) = true ∧ decide (1 ≤ s) = false) ∨ (decide (rd < r) = true ∧ decide (1 ≤ s) = true ∧ decide (s ≤ (css.length : Int)) = false) ∨
            (decide (rd < r) = true ∧ decide (1 ≤ s) = true ∧ decide (s ≤ (css.length : Int)) = true ∧ decide (0 ≤ ft) = false) ∨ (decide (rd < r) = true ∧ decide (1 ≤ s) = true ∧ decide (s ≤ (css.length : Int)) = true ∧ decide (0 ≤ ft) = true ∧ decide (h ≤ 2) = false) := by
          simp only [lateB]
          cases decide (rd < r) <;> cases decide (1 ≤ s) <;> cases decide (s ≤ (css.length : Int)) <;> cases decide (0 ≤ ft) <;> cases decide (h ≤ 2) <;> simp
        rcases key with hl | hno
        · have HYE := Lib.hid hl
          simp only [lateB, Bool.and_eq_true] at hl
          obtain ⟨h1, h2, h3, h4, h5⟩ := hl
          have news := cells_newN (new_at (wr.alloc (.cells #[.int .i64 r, .int .i64 s, .int .u8 h, .int .i64 ft, .int .u8 fb] 29)) (.cells (rowF ⟨r, s, h, ft, fb⟩).toArray 29 (0, 0)) (wr.heap.size + 1) (by simp))
          have NEWS := Lib.hid news
          have HFL := Lib.hid (show fs.length ≤ 3518437208780 by omega)
          have hbz := hb.size
          have B2z := B2.size
          clear news
          go_wp2_with (at_builtin; refine wpList_append_own_at _ rfl _ _ 23 rfl w1.heap.size 29 i0 (.agg #[.int .i64 0, .int .i64 0, .int .u8 0, .int .i64 0, .int .u8 0]) 5 40 Try.underlying23 HI.out HZ.out HZ1.out HZ2.out rfl (by decide) _ _ _ rfl (ho2.alloc _) ⟨wr.heap.size + 1, 0, none⟩ 1 1 (rowF ⟨r, s, h, ft, fb⟩) rfl rfl NEWS.out (ocF _) (by unfold maxLen; omega) (by have := HFL.out; omega) (by simp; omega) ?_; intro vf' w7 hown7 hgrow7 hnil7 hv7; clear hnil7 hv7)
          have hb7 : Below w1.heap.size w1 w7 := by
            refine (bnext hb (balloc b8 _)).grown hgrow7 (by simp; omega) fun j hj => ?_
            exact (ho.lt j hj).1
          go_roundw
          case rel => exact ⟨k + 1, by omega, by go_num, hb7, by rw [HFT.out, HYE.out]; simpa using hown7⟩
          case measure => simp [intOf]; omega
        · have HNO : Hid (lateB rd css.length ⟨r, s, h, ft, fb⟩ = false) := by
            unfold Hid
            rcases hno with h1 | ⟨_, h1⟩ | ⟨_, _, h1⟩ | ⟨_, _, _, h1⟩ | ⟨_, _, _, _, h1⟩ <;> simp only [lateB, h1, Bool.false_and, Bool.and_false]
          rcases hno with h1 | ⟨h1, h2⟩ | ⟨h1, h2, h3⟩ | ⟨h1, h2, h3, h4⟩ | ⟨h1, h2, h3, h4, h5⟩
          all_goals
            go_wp2_with fail
            go_roundw
            case rel => exact ⟨k + 1, by omega, by go_num, bnext hb b8, by rw [HFT.out, HNO.out]; simpa using ho2⟩
            case measure => simp [intOf]; omega
      · obtain rfl : k = fs.length := by omega
        rw [List.take_length] at ho
        go_wp2_with fail
        have hall : ∀ f ∈ fs.filter (lateB rd css.length), lateB rd css.length f = true := fun f hf => (List.mem_filter.1 hf).2
        have hw2 : ∀ f ∈ fs.filter (lateB rd css.length), 0 ≤ f.h := fun f hf => (bounds_u8 (HW.out f (List.mem_filter.1 hf).1).2.2.1).1
        have HR := own_rdN ho (fun r hr => by obtain ⟨f, _, rfl⟩ := List.mem_map.1 hr; rfl) (by simp)
        have C := round_any _ _ css (fs.filter (lateB rd css.length)) rd wr (hS.below (bnext B2 hb)) HR h8 hrd (late_odd rd _ _ hrd hall) hw2
        rw [late_out rd _ _ _ hall] at C
        refine C.mono ?_
        clear C HR hall hw2 ho
        rintro e w3 ⟨vo, vs, rfl, b3, r3, o3⟩
        have A3 := o3.rdB r3 (fun c hc => by
          obtain ⟨i, hi, rfl⟩ := List.getElem_of_mem hc
          obtain ⟨_, _, hl, hev⟩ := hS
          exact (hev i _ _ (List.getElem?_eq_getElem (by omega)) (List.getElem?_eq_getElem hi)).2)
        obtain ⟨a3, c3, rfl, hc3, hcm3⟩ := A3.len
        have k3 := (b3.block _ (lt_of_block k1)).trans k1
        have B4 := bnext (bnext B2 hb) b3
        have K3 := Lib.hid k3
        clear o3 r3 b3 hb B2 k1 k3 x0 x1 x2
        obtain ⟨x0, x1, x2⟩ := cells3 K3.out
        go_wp2_with fail
        clear x0 x1 x2
        go_loopw [8] (fun i wr => ∃ k : Nat, k ≤ css.length ∧ i = .int .i64 k ∧ Below w3.heap.size w3 wr) (fun i _ => css.length - (intOf i).toNat)
        case atStart => exact ⟨0, by omega, rfl, Below.refl _ _⟩
        case round =>
          obtain ⟨k, hk, rfl, hb⟩ := hrel
          by_cases hlt : k < css.length
          · obtain ⟨x0, x1, x2⟩ := cells3 ((hb.block _ (lt_of_block K3.out)).trans K3.out)
            obtain ⟨b1, o1, z1, y1, rfl, g1, t1, _⟩ := (A3.below hb).at k css[k] (List.getElem?_eq_getElem hlt)
            obtain ⟨b2, o2, z2, y2, rfl, g2, t2, _⟩ := (hS.below (bnext B4 hb)).at k css[k] (List.getElem?_eq_getElem hlt)
            generalize css[k] = cs at *
            have S1 : Hid (∀ m, Calls Try.prog 9 #[.slice z1 cs.length y1, .slice z2 cs.length y2] (wr.drewN m) fun e w' => e = .returned (.bool true) ∧ ∃ m', w' = wr.drewN m') := by
              intro m
              have := same_drew _ _ _ _ (wr.drewN m) (t1.below (bdraw (Below.refl _ _) m)) (t2.below (bdraw (Below.refl _ _) m))
              rw [decide_eq_true rfl] at this
              exact this.mono fun e w' ⟨he, n, hw⟩ => ⟨he, m + n, by rw [hw, World.drewN_drewN]⟩
            clear t1 t2
            go_wp2_with fail
            go_quiet (with_reducible exact S1.out _)
            go_wp2_with fail
            go_roundw
            case rel => exact ⟨k + 1, by omega, by go_num, bdraw hb _⟩
            case measure => simp [intOf]; omega
          · obtain rfl : k = css.length := by omega
            go_wp2_with fail
            refine (lives22_any _).mono ?_
            rintro e w4 ⟨rfl, b4⟩
            go_wp2_with fail
            go_ret
            exact ⟨rfl, bnext (bnext B4 hb) b4⟩
end Go.Proofs.Ytafamnodeliaaaa
