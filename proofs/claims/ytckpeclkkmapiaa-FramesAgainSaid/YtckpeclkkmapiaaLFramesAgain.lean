/-
  The walk of FramesAgain: what is got of any bytes is put as these; its last four bytes are the sum of all others.
-/
import Derived.Test.YtckpeclkkmapiaaFrmUse
namespace Go.Proofs.Ytckpeclkkmapiaa
open Go.RowKit
open Go

theorem get_num4 (X : List Nat) (c : Nat) (hc : c < 4294967296) : getN (X ++ num4 c) (8 * X.length) 32 = c := by
  have hl := unpack_len X
  unfold getN
  rw [unpack_append, List.drop_left' hl]
  have e : unpack (num4 c) = nbits (c / 16777216 % 256) 8 ++ (nbits (c / 65536 % 256) 8 ++ (nbits (c / 256 % 256) 8 ++ nbits (c % 256) 8)) := by simp [num4, unpack]
  rw [e, List.take_of_length_le (by simp [nbits_len]), val_append, val_append, val_append, val_nbits, val_nbits, val_nbits, val_nbits]
  simp only [List.length_append, nbits_len]
  omega
theorem get_sum {bs : List Nat} (hb : NB bs) (h : errOf bs = 0) : 13 ≤ bs.length ∧ getN bs (8 * (bs.length - 4)) 32 = crcN (bs.take (bs.length - 4)) := by
  obtain ⟨h1, h2, h3, h4⟩ := err_zero h
  have h5 := congrArg List.length h4
  rw [sumB_len, List.length_drop] at h5
  have hn : 9 + getN bs 60 12 = bs.length - 4 := by omega
  rw [hn] at h4
  refine ⟨by omega, ?_⟩
  have e : bs = bs.take (bs.length - 4) ++ num4 (crcN (bs.take (bs.length - 4))) := by
    conv => lhs; rw [← List.take_append_drop (bs.length - 4) bs, h4]
    rfl
  have := get_num4 (bs.take (bs.length - 4)) (crcN (bs.take (bs.length - 4))) (crcN_lt (hb.take _))
  rw [← e, List.length_take, show min (bs.length - 4) bs.length = bs.length - 4 by omega] at this
  exact this
set_option maxRecDepth 20000 in
set_option maxHeartbeats 4000000 in
theorem walk_FramesAgain (v0 : Value) (W : World) (A0 : Arg Try.prog 24 W v0) :
    Calls Try.prog 5 #[v0] W fun e w' => e = .returned (.bool true) ∧ Below W.heap.size W w' := by
  obtain ⟨zs, hR, hZ, hlm⟩ := A0.bytes
  obtain ⟨bs, rfl⟩ := iN_of zs fun z hz => (hZ z hz).1
  have hb : NB bs := fun n hn => by
    have := (hZ n (List.mem_map.2 ⟨n, hn, rfl⟩)).2
    omega
  rw [List.length_map] at hlm
  clear A0 hZ
  have HR := Lib.hid hR
  have HB := Lib.hid hb
  obtain ⟨a, c, rfl, hac, hcm, _, _⟩ := hR
  have hl : (by8 (iN bs)).length = bs.length := by simp
  rw [hl] at hac HR ⊢
  unfold maxLen at hcm
  clear hl hb
  by_cases hbig : 100000 < bs.length
  · go_enter Try.func5, Try.ntmps5
    go_wp2_with fail
    refine (alive3_any _).mono ?_
    rintro e w2 ⟨rfl, b2⟩
    go_wp2_with fail
    refine (alive3_any _).mono ?_
    rintro e w3 ⟨rfl, b3⟩
    go_wp2_with fail
    go_ret
    exact ⟨rfl, bnext b2 b3⟩
  · by_cases he : errOf bs = 0
    · obtain ⟨h13, hsum⟩ := get_sum HB.out he
      have hF := fr_ok HB.out he
      have hby := bytes_fr HB.out he
      obtain ⟨sn, rd, mem, md, pl, hf⟩ : ∃ sn rd mem md pl, frOf bs = Fr.mk sn rd mem md pl := ⟨_, _, _, _, _, rfl⟩
      rw [hf] at hF hby
      have G : ∀ w, Rd w (.slice a bs.length c) (by8 (iN bs)) → Calls Try.prog 11 #[.slice a bs.length c] w fun e w' => ∃ a c, e = .returned (.tuple #[.agg #[.int .i64 sn, .int .u32 rd, .int .u8 mem, .int .u16 md, .slice a pl.length c], .int .i64 0]) ∧
          w'.ownsRow w.heap.size 5 1 (.slice a pl.length c) pl.length (by8 (iN pl)) ∧ Below w.heap.size w w' := fun w hw => get3 sn rd mem md pl hF _ w (by rw [hby]; exact hw)
      have hbl := (Fr.mk sn rd mem md pl).bytes_len
      rw [hby] at hbl
      have hm : bs.length = 13 + pl.length := hbl
      have HF := Lib.hid hF
      have HBY := Lib.hid hby
      have HG := Lib.hid G
      have HSUM := Lib.hid hsum
      have HM := Lib.hid hm
      have h8 := hF.len
      clear hF hby G hsum hf he hbl hm
      go_enter Try.func5, Try.ntmps5
      go_wp2_with fail
      refine (alive3_any _).mono ?_
      rintro e w2 ⟨rfl, b2⟩
      go_wp2_with fail
      refine Calls.mono (HG.out w2 (HR.out.below b2)) ?_
      rintro e w3 ⟨a3, c3, rfl, o3, b3⟩
      go_wp2_with fail
      have X3 := balloc b3 (.cells #[.int .i64 sn, .int .u32 rd, .int .u8 mem, .int .u16 md, .slice a3 pl.length c3] 26 (0, 0))
      have p3 := (own_rd o3).below (balloc (Below.refl _ _) (.cells #[.int .i64 sn, .int .u32 rd, .int .u8 mem, .int .u16 md, .slice a3 pl.length c3] 26 (0, 0)))
      have B3 := bnext b2 X3
      refine (put3 sn rd mem md pl HF.out a3 c3 _ p3).mono ?_
      rintro e w5 ⟨g5, c5, rfl, o5, b5, _, _, _, _⟩
      have B5 := bnext B3 b5
      have r5 := own_rd o5
      rw [HBY.out] at r5
      clear o5 b5 X3 p3 B3 o3 b3
      obtain ⟨n, hn⟩ : ∃ n : Nat, bs.length - 4 = n := ⟨_, rfl⟩
      have hn2 : (bs.length : Int) - 4 = (n : Int) := by omega
      have hn9 : 9 ≤ n := by omega
      have hnb : n + 4 ≤ bs.length := by omega
      rw [hn] at HSUM
      clear hn
      have CG := Lib.hid (get_ok _ bs (8 * n) 32 w5 (HR.out.below B5) HB.out (by decide) (by omega) hlm)
      rw [HSUM.out, show ((8 * n : Nat) : Int) = 8 * (n : Int) by omega, show ((32 : Nat) : Int) = 32 from rfl] at CG
      have HS := Lib.hid (same_any _ _ (iN bs) (iN bs) w5 r5 (HR.out.below B5))
      rw [decide_eq_true rfl] at HS
      have HOF := Lib.hid (fun (w9 : World) (b9 : Below W.heap.size W w9) => of_any (.slice a n c) (iN (bs.take n)) w9 (by
        have := cut_h (HR.out.below b9) n (by omega)
        rw [← List.map_take, ← List.map_take] at this
        exact this))
      have hcl := crcN_lt (HB.out.take n)
      rw [crcN_eq (HB.out.take n)] at HOF
      clear HSUM r5
      generalize crcN (bs.take n) = x at *
      have u32 : IntKind.u32.wrap (x : Int) = x := by simp [IntKind.wrap, IntKind.bits, IntKind.signed]; omega
      go_wp2_with fail
      refine Calls.mono CG.out ?_
      rintro e w6 ⟨rfl, rfl⟩
      go_wp2_with fail
      refine Calls.mono HS.out ?_
      rintro e w7 ⟨rfl, b7⟩
      have B7 := bnext B5 b7
      go_wp2_with fail
      refine Calls.mono (HOF.out _ B7) ?_
      rintro e w8 ⟨rfl, b8⟩
      go_wp2_with fail
      go_ret
      exact ⟨rfl, bnext B7 b8⟩
    · have G := fun (w : World) (hw : Rd w (.slice a bs.length c) (by8 (iN bs))) => bad3 bs (errOf bs) HB.out _ w hw hlm rfl he
      have HG := Lib.hid G
      clear G
      have h45 : (errOf bs = 4) ∨ (errOf bs = 5) := by
        rcases errOf_cases bs with h | h
        · exact absurd h he
        · exact h
      clear he
      rcases h45 with h | h
      all_goals
        rw [h] at HG
        clear h
        go_enter Try.func5, Try.ntmps5
        go_wp2_with fail
        refine (alive3_any _).mono ?_
        rintro e w2 ⟨rfl, b2⟩
        go_wp2_with fail
        refine Calls.mono (HG.out w2 (HR.out.below b2)) ?_
        rintro e w3 ⟨rfl, b3⟩
        go_wp2_with fail
        go_ret
        exact ⟨rfl, balloc (bnext b2 b3) _⟩
end Go.Proofs.Ytckpeclkkmapiaa
