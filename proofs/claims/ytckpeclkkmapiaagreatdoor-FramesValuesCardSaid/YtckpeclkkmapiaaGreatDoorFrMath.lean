/-
  Frames as bytes: plain laws of what is put, what is got, and what is refused. No program in sight.
-/
import Derived.Test.YtckpeclkkmapiaaGreatDoorBitsFacts
import Derived.Test.YtckpeclkkmapiaaGreatDoorCrcPlain
namespace Go.Proofs.YtckpeclkkmapiaaGreatDoor
open Go.RowKit
open Go

/-- each below 256. -/
def NB (bs : List Nat) : Prop := ∀ c ∈ bs, c < 256
theorem NB.isB {bs : List Nat} (h : NB bs) : ∀ c ∈ iN bs, 0 ≤ c ∧ c ≤ 255 := by
  intro c hc
  obtain ⟨n, hn, rfl⟩ := List.mem_map.1 hc
  have := h n hn
  omega
theorem NB.take {bs : List Nat} (h : NB bs) (k : Nat) : NB (bs.take k) := fun c hc => h c (List.mem_of_mem_take hc)
theorem NB.drop {bs : List Nat} (h : NB bs) (k : Nat) : NB (bs.drop k) := fun c hc => h c (List.mem_of_mem_drop hc)
theorem NB.app {a b : List Nat} (h : NB a) (k : NB b) : NB (a ++ b) := fun c hc => (List.mem_append.1 hc).elim (h c) (k c)
theorem iN_inj {a b : List Nat} (h : iN a = iN b) : a = b := by
  have := congrArg (List.map Int.toNat) h
  simpa [iN, List.map_map, Function.comp_def] using this

/-- The sum, and its bytes, the highest first. -/
def crcN (bs : List Nat) : Nat := (moreI 0 (iN bs)).toNat
theorem crcN_eq {bs : List Nat} (h : NB bs) : moreI 0 (iN bs) = (crcN bs : Int) := (Int.toNat_of_nonneg (more_in 0 (iN bs) (by decide) (by decide) h.isB).1).symm
theorem crcN_lt {bs : List Nat} (h : NB bs) : crcN bs < 4294967296 := by
  have h1 := (more_in 0 (iN bs) (by decide) (by decide) h.isB).2
  rw [crcN_eq h] at h1
  omega
def num4 (c : Nat) : List Nat := [c / 16777216 % 256, c / 65536 % 256, c / 256 % 256, c % 256]
def sumB (bs : List Nat) : List Nat := num4 (crcN bs)
theorem sumB_len (bs : List Nat) : (sumB bs).length = 4 := rfl
theorem num4_lt (c : Nat) : NB (num4 c) := by
  intro x hx
  simp [num4] at hx
  omega
theorem num4_inj {c d : Nat} (hc : c < 4294967296) (hd : d < 4294967296) (h : num4 c = num4 d) : c = d := by
  simp [num4] at h
  omega

def headBits (st rd mem md n : Nat) : List Bool := nbits st 4 ++ (nbits rd 32 ++ (nbits mem 8 ++ (nbits md 16 ++ nbits n 12)))
theorem headBits_len (st rd mem md n : Nat) : (headBits st rd mem md n).length = 72 := by simp [headBits, nbits_len]
def headB (st rd mem md n : Nat) : List Nat := pack (headBits st rd mem md n)
theorem headB_len (st rd mem md n : Nat) : (headB st rd mem md n).length = 9 := by rw [headB, pack_len, headBits_len]
theorem headB_lt (st rd mem md n : Nat) : NB (headB st rd mem md n) := pack_lt _

structure Fr where
  st : Nat
  rd : Nat
  mem : Nat
  md : Nat
  pl : List Nat
structure Fr.Ok (f : Fr) : Prop where
  st1 : 1 ≤ f.st
  st8 : f.st ≤ 8
  rd : f.rd < 4294967296
  mem : f.mem < 256
  md : f.md < 65536
  len : f.pl.length ≤ 4095
  pl : NB f.pl
def Fr.head (f : Fr) : List Nat := headB f.st f.rd f.mem f.md f.pl.length
def Fr.body (f : Fr) : List Nat := f.head ++ f.pl
def Fr.bytes (f : Fr) : List Nat := f.body ++ sumB f.body
theorem Fr.head_len (f : Fr) : f.head.length = 9 := headB_len _ _ _ _ _
theorem Fr.body_len (f : Fr) : f.body.length = 9 + f.pl.length := by rw [Fr.body, List.length_append, Fr.head, headB_len]
theorem Fr.bytes_len (f : Fr) : f.bytes.length = 13 + f.pl.length := by rw [Fr.bytes, List.length_append, f.body_len, sumB_len]; omega
theorem Fr.Ok.body {f : Fr} (h : f.Ok) : NB f.body := (headB_lt _ _ _ _ _).app h.pl
theorem Fr.Ok.bytes {f : Fr} (h : f.Ok) : NB f.bytes := h.body.app (num4_lt _)

/-- What bytes are. -/
def frOf (bs : List Nat) : Fr := ⟨getN bs 0 4, getN bs 4 32, getN bs 36 8, getN bs 44 16, (bs.drop 9).take (getN bs 60 12)⟩
def errOf (bs : List Nat) : Nat :=
  if bs.length < 13 then 4 else if bs.length < 9 + getN bs 60 12 + 4 then 4
  else if getN bs 0 4 = 0 ∨ 8 < getN bs 0 4 ∨ bs.drop (9 + getN bs 60 12) ≠ sumB (bs.take (9 + getN bs 60 12)) then 5 else 0

theorem getN_at {bs : List Nat} {A C : List Bool} {m k at_ : Nat} (h : unpack bs = A ++ (nbits m k ++ C)) (ha : A.length = at_) (hm : m < 2 ^ k) : getN bs at_ k = m := by
  unfold getN
  rw [h, ← ha, List.drop_left, List.take_left' (nbits_len m k), val_nbits_lt _ _ hm]
/-- The fields of a head, whatever is behind. -/
theorem head_get (st rd mem md n : Nat) (X : List Nat) (h1 : st < 16) (h2 : rd < 4294967296) (h3 : mem < 256) (h4 : md < 65536) (h5 : n < 4096) :
    getN (headB st rd mem md n ++ X) 0 4 = st ∧ getN (headB st rd mem md n ++ X) 4 32 = rd ∧ getN (headB st rd mem md n ++ X) 36 8 = mem ∧ getN (headB st rd mem md n ++ X) 44 16 = md ∧ getN (headB st rd mem md n ++ X) 60 12 = n := by
  have e : unpack (headB st rd mem md n ++ X) = nbits st 4 ++ (nbits rd 32 ++ (nbits mem 8 ++ (nbits md 16 ++ (nbits n 12 ++ unpack X)))) := by
    rw [unpack_append, headB, unpack_pack, headBits_len]
    simp [headBits]
  refine ⟨getN_at (A := []) (by rw [e]; rfl) rfl h1, getN_at (A := nbits st 4) e (nbits_len _ _) h2, getN_at (A := nbits st 4 ++ nbits rd 32) (C := nbits md 16 ++ (nbits n 12 ++ unpack X)) (by rw [e]; simp) (by simp [nbits_len]) h3,
    getN_at (A := nbits st 4 ++ nbits rd 32 ++ nbits mem 8) (C := nbits n 12 ++ unpack X) (by rw [e]; simp) (by simp [nbits_len]) h4, getN_at (A := nbits st 4 ++ nbits rd 32 ++ nbits mem 8 ++ nbits md 16) (C := unpack X) (by rw [e]; simp) (by simp [nbits_len]) h5⟩
theorem Fr.Ok.get {f : Fr} (h : f.Ok) (X : List Nat) :
    getN (f.head ++ X) 0 4 = f.st ∧ getN (f.head ++ X) 4 32 = f.rd ∧ getN (f.head ++ X) 36 8 = f.mem ∧ getN (f.head ++ X) 44 16 = f.md ∧ getN (f.head ++ X) 60 12 = f.pl.length :=
  head_get _ _ _ _ _ X (by have := h.st8; omega) h.rd h.mem h.md (by have := h.len; omega)

/-- What was put is got. -/
theorem err_bytes {f : Fr} (h : f.Ok) : errOf f.bytes = 0 := by
  have e : f.bytes = f.head ++ (f.pl ++ sumB f.body) := by simp [Fr.bytes, Fr.body]
  obtain ⟨g1, _, _, _, g5⟩ := h.get (f.pl ++ sumB f.body)
  rw [← e] at g1 g5
  have hl := f.bytes_len
  have hb := f.body_len
  have h1 := h.st1
  have h8 := h.st8
  unfold errOf
  rw [g1, g5, if_neg (by omega), if_neg (by omega), if_neg]
  rintro (h | h | h)
  · omega
  · omega
  · apply h
    rw [← hb, Fr.bytes, List.drop_left, List.take_left]
theorem fr_bytes {f : Fr} (h : f.Ok) : frOf f.bytes = f := by
  have e : f.bytes = f.head ++ (f.pl ++ sumB f.body) := by simp [Fr.bytes, Fr.body]
  obtain ⟨g1, g2, g3, g4, g5⟩ := h.get (f.pl ++ sumB f.body)
  rw [← e] at g1 g2 g3 g4 g5
  unfold frOf
  rw [g1, g2, g3, g4, g5]
  have : (f.bytes.drop 9).take f.pl.length = f.pl := by
    rw [e, List.drop_left' f.head_len, List.take_left]
  rw [this]
/-- Fewer bytes. -/
theorem err_short {f : Fr} (h : f.Ok) (k : Nat) (hk : k < f.bytes.length) : errOf (f.bytes.take k) = 4 := by
  have hl : (f.bytes.take k).length = k := by rw [List.length_take]; omega
  have hn := f.bytes_len
  unfold errOf
  rw [hl]
  by_cases h13 : k < 13
  · rw [if_pos h13]
  · rw [if_neg h13, if_pos]
    have e : f.bytes.take k = f.head ++ (f.pl ++ sumB f.body).take (k - 9) := by
      have : f.bytes = f.head ++ (f.pl ++ sumB f.body) := by simp [Fr.bytes, Fr.body]
      rw [this, List.take_append, f.head_len, List.take_of_length_le (by rw [f.head_len]; omega)]
    rw [e, (h.get _).2.2.2.2]
    omega
/-- More bytes. -/
theorem err_more {f : Fr} (h : f.Ok) (x : Nat) : errOf (f.bytes ++ [x]) = 5 := by
  have e : f.bytes ++ [x] = f.head ++ (f.pl ++ sumB f.body ++ [x]) := by simp [Fr.bytes, Fr.body]
  obtain ⟨g1, _, _, _, g5⟩ := h.get (f.pl ++ sumB f.body ++ [x])
  rw [← e] at g1 g5
  have hl := f.bytes_len
  have hb := f.body_len
  unfold errOf
  rw [g1, g5, List.length_append, hl, if_neg (by simp; omega), if_neg (by simp; omega), if_pos]
  refine .inr (.inr fun h => ?_)
  have := congrArg List.length h
  rw [sumB_len, List.length_drop, List.length_append, hl] at this
  simp at this
  omega
/-- What is got is put as it was. -/
theorem nbits_getN (bs : List Nat) (a k : Nat) (h : a + k ≤ 8 * bs.length) : nbits (getN bs a k) k = ((unpack bs).drop a).take k := by
  have hl : (((unpack bs).drop a).take k).length = k := by rw [List.length_take, List.length_drop, unpack_len]; omega
  have := nbits_val (((unpack bs).drop a).take k)
  rwa [hl] at this
theorem take_more {α : Type} (l : List α) (a b c : Nat) (h : c = a + b) : l.take a ++ (l.drop a).take b = l.take c := by rw [h, List.take_add]
theorem headB_getN (bs : List Nat) (hb : NB bs) (h : 9 ≤ bs.length) : headB (getN bs 0 4) (getN bs 4 32) (getN bs 36 8) (getN bs 44 16) (getN bs 60 12) = bs.take 9 := by
  unfold headB headBits
  rw [nbits_getN _ _ _ (by omega), nbits_getN _ _ _ (by omega), nbits_getN _ _ _ (by omega), nbits_getN _ _ _ (by omega), nbits_getN _ _ _ (by omega), List.drop_zero]
  have e : (unpack bs).take 4 ++ (((unpack bs).drop 4).take 32 ++ (((unpack bs).drop 36).take 8 ++ (((unpack bs).drop 44).take 16 ++ ((unpack bs).drop 60).take 12))) = (unpack bs).take (8 * 9) := by
    rw [← List.append_assoc, ← List.append_assoc, ← List.append_assoc, take_more _ 4 32 36 rfl, take_more _ 36 8 44 rfl, take_more _ 44 16 60 rfl, take_more _ 60 12 (8 * 9) rfl]
  rw [e, unpack_take, pack_unpack _ (hb.take 9)]
theorem errOf_cases (bs : List Nat) : errOf bs = 0 ∨ errOf bs = 4 ∨ errOf bs = 5 := by
  unfold errOf
  split
  · simp
  · split
    · simp
    · split <;> simp
theorem err_zero {bs : List Nat} (h : errOf bs = 0) : 9 + getN bs 60 12 + 4 ≤ bs.length ∧ 1 ≤ getN bs 0 4 ∧ getN bs 0 4 ≤ 8 ∧ bs.drop (9 + getN bs 60 12) = sumB (bs.take (9 + getN bs 60 12)) := by
  unfold errOf at h
  split at h
  · cases h
  · split at h
    · cases h
    · split at h
      · cases h
      · rename_i h1 h2 h3
        simp only [not_or, Decidable.not_not] at h3
        exact ⟨by omega, by omega, by omega, h3.2.2⟩
theorem fr_ok {bs : List Nat} (hb : NB bs) (h : errOf bs = 0) : (frOf bs).Ok := by
  obtain ⟨h1, h2, h3, h4⟩ := err_zero h
  have h12 := getN_lt bs 60 12
  refine ⟨h2, h3, getN_lt bs 4 32, getN_lt bs 36 8, getN_lt bs 44 16, ?_, (hb.drop 9).take _⟩
  show ((bs.drop 9).take _).length ≤ 4095
  rw [List.length_take]
  omega
theorem fr_len {bs : List Nat} (h : 9 + getN bs 60 12 ≤ bs.length) : (frOf bs).pl.length = getN bs 60 12 := by
  show ((bs.drop 9).take _).length = _
  rw [List.length_take, List.length_drop]
  omega
theorem body_fr {bs : List Nat} (hb : NB bs) (h : 9 + getN bs 60 12 ≤ bs.length) : (frOf bs).body = bs.take (9 + getN bs 60 12) := by
  unfold Fr.body Fr.head
  rw [fr_len h]
  show headB (getN bs 0 4) (getN bs 4 32) (getN bs 36 8) (getN bs 44 16) _ ++ (bs.drop 9).take _ = _
  rw [headB_getN bs hb (by omega)]
  exact take_more _ _ _ _ rfl
theorem bytes_fr {bs : List Nat} (hb : NB bs) (h : errOf bs = 0) : (frOf bs).bytes = bs := by
  obtain ⟨h1, h2, h3, h4⟩ := err_zero h
  unfold Fr.bytes
  rw [body_fr hb (by omega), ← h4, List.take_append_drop]
/-- A window of at most four: lists of one sum are the same. -/
theorem sum_win (a b : List Nat) (ha : NB a) (hb : NB b) (hl : b.length = a.length) (k m : Nat) (hm : m ≤ 4) (hk : k + m ≤ a.length) (out : ∀ i, i < k ∨ k + m ≤ i → b[i]? = a[i]?) (he : crcN b = crcN a) : b = a := by
  have he2 : moreI 0 (iN b) = moreI 0 (iN a) := by rw [crcN_eq ha, crcN_eq hb, he]
  apply iN_inj
  have out2 : ∀ i, i < k ∨ k + m ≤ i → (iN b)[i]? = (iN a)[i]? := by
    intro i hi
    simp only [iN, List.getElem?_map, out i hi]
  obtain ⟨x, hx⟩ := bytes_of (iN a) ha.isB
  obtain ⟨y, hy⟩ := bytes_of (iN b) hb.isB
  have lx : x.length = a.length := by have := congrArg List.length hx; simpa [by_] using this.symm
  have ly : y.length = b.length := by have := congrArg List.length hy; simpa [by_] using this.symm
  rw [hx, hy] at he2 out2 ⊢
  have h0 : (0 : Int) = ((0#32 : W32).toNat : Int) := rfl
  rw [h0, moreI_more, moreI_more] at he2
  have he3 : more 0#32 y = more 0#32 x := BitVec.eq_of_toNat_eq (by omega)
  let e := List.zipWith (· ^^^ ·) x y
  have le : e.length = a.length := by simp [e]; omega
  have hye : y = List.zipWith (· ^^^ ·) x e := by
    apply List.ext_getElem?
    intro i
    by_cases hi : i < a.length
    · simp [e, List.getElem?_zipWith, show i < x.length by omega, show i < y.length by omega]
      rw [← BitVec.xor_assoc, BitVec.xor_self, BitVec.zero_xor]
    · rw [List.getElem?_eq_none (by omega), List.getElem?_eq_none (by simp; omega)]
  have hez : ∀ i, i < a.length → (i < k ∨ k + m ≤ i) → e[i]? = some 0#8 := by
    intro i hi ho
    have h1 := out2 i ho
    have h2 : y[i]? = x[i]? := by
      simp only [by_, List.getElem?_map] at h1
      rw [List.getElem?_eq_getElem (by omega), List.getElem?_eq_getElem (by omega)] at h1 ⊢
      simp only [Option.map_some, Option.some.injEq] at h1
      congr 1
      exact BitVec.eq_of_toNat_eq (by omega)
    rw [List.getElem?_eq_getElem (by omega), List.getElem?_eq_getElem (by omega)] at h2
    simp only [Option.some.injEq] at h2
    simp [e, List.getElem?_zipWith, show i < x.length by omega, show i < y.length by omega, h2]
  let w := (e.drop k).take m
  have lw : w.length = m := by simp [w]; omega
  have hew : e = List.replicate k 0#8 ++ w ++ List.replicate (a.length - k - m) 0#8 := by
    apply List.ext_getElem?
    intro i
    by_cases hi : i < a.length
    · by_cases h1 : i < k
      · rw [hez i hi (.inl h1), List.append_assoc, List.getElem?_append_left (by simpa using h1), List.getElem?_replicate, if_pos h1]
      · by_cases h2 : i < k + m
        · rw [List.append_assoc, List.getElem?_append_right (by simp; omega), List.getElem?_append_left (by rw [lw]; simp; omega), List.getElem?_take, if_pos (by simp; omega), List.getElem?_drop]
          congr 1
          simp
          omega
        · rw [hez i hi (.inr (by omega)), List.getElem?_append_right (by simp [lw]; omega), List.getElem?_replicate, if_pos (by simp [lw]; omega)]
    · rw [List.getElem?_eq_none (by omega), List.getElem?_eq_none (by simp [lw]; omega)]
  have hs := more_spoils x k (a.length - k - m) w (by omega) (by omega)
  rw [← hew, ← hye] at hs
  have hw0 := hs.1 he3
  have he0 : ∀ i, i < a.length → e[i]? = some 0#8 := by
    intro i hi
    by_cases h1 : i < k ∨ k + m ≤ i
    · exact hez i hi h1
    · have h2 : e[i]? = w[i - k]? := by
        simp only [w]
        rw [List.getElem?_take, if_pos (by omega), List.getElem?_drop]
        congr 1
        omega
      rw [h2, List.getElem?_eq_getElem (by omega)]
      rw [hw0 _ (List.getElem_mem _)]
  have hyx : y = x := by
    rw [hye]
    apply List.ext_getElem?
    intro i
    by_cases hi : i < a.length
    · rw [List.getElem?_zipWith, he0 i hi, List.getElem?_eq_getElem (by omega)]
      simp
    · rw [List.getElem?_eq_none (by simp; omega), List.getElem?_eq_none (by omega)]
  rw [hyx]
/-- A frame that is changed in a window of at most four, on one side of where the sum begins, is none. -/
theorem err_spoiled {f : Fr} (h : f.Ok) (b : List Nat) (hb : NB b) (hl : b.length = f.bytes.length) (k m : Nat) (hm : m ≤ 4) (hw : k + m ≤ 9 + f.pl.length ∨ 9 + f.pl.length ≤ k)
    (out : ∀ i, i < k ∨ k + m ≤ i → b[i]? = f.bytes[i]?) (hne : b ≠ f.bytes) : errOf b = 4 ∨ errOf b = 5 := by
  rcases errOf_cases b with h0 | h0 | h0
  · exfalso
    obtain ⟨h1, h2, h3, h4⟩ := err_zero h0
    have hbl := f.bytes_len
    have hbo := f.body_len
    have h5 := congrArg List.length h4
    rw [sumB_len, List.length_drop] at h5
    have hn : getN b 60 12 = f.pl.length := by omega
    rw [hn] at h4
    have eb : f.bytes.take (9 + f.pl.length) = f.body := by rw [← hbo, Fr.bytes, List.take_left]
    have es : f.bytes.drop (9 + f.pl.length) = sumB f.body := by rw [← hbo, Fr.bytes, List.drop_left]
    have done : b.take (9 + f.pl.length) = f.body → False := by
      intro e
      apply hne
      rw [← List.take_append_drop (9 + f.pl.length) b, h4, e]
      rfl
    rcases hw with hw | hw
    · have e1 : b.drop (9 + f.pl.length) = f.bytes.drop (9 + f.pl.length) := by
        apply List.ext_getElem?
        intro i
        rw [List.getElem?_drop, List.getElem?_drop]
        exact out _ (.inr (by omega))
      rw [h4, es] at e1
      have e2 := num4_inj (crcN_lt (hb.take _)) (crcN_lt h.body) e1
      refine done (sum_win f.body _ h.body (hb.take _) (by rw [List.length_take]; omega) k m hm (by omega) (fun i hi => ?_) e2)
      rw [← eb, List.getElem?_take, List.getElem?_take]
      split
      · exact out i hi
      · rfl
    · refine done ?_
      rw [← eb]
      apply List.ext_getElem?
      intro i
      rw [List.getElem?_take, List.getElem?_take]
      split
      · exact out i (.inl (by omega))
      · rfl
  · exact .inl h0
  · exact .inr h0
/-- Frames of the same bytes are the same. -/
theorem bytes_inj {f g : Fr} (hf : f.Ok) (hg : g.Ok) (h : f.bytes = g.bytes) : f = g := by rw [← fr_bytes hf, h, fr_bytes hg]
/-- Unlike frames of one length differ twice at least. -/
theorem twice_apart {f g : Fr} (hf : f.Ok) (hg : g.Ok) (hl : f.bytes.length = g.bytes.length) (k : Nat) (out : ∀ i, i ≠ k → g.bytes[i]? = f.bytes[i]?) : g.bytes = f.bytes := by
  by_cases h : g.bytes = f.bytes
  · exact h
  · have := err_spoiled hf g.bytes hg.bytes hl.symm k 1 (by decide) (by omega) (fun i hi => out i (by omega)) h
    rw [err_bytes hg] at this
    omega
end Go.Proofs.YtckpeclkkmapiaaGreatDoor
