/-
  The sum of bytes in plain bits: the table's way is the reference's way; what follows of it (joined lists, changes of four bytes, turned sums, the sum behind). No program in sight.
-/
import Derived.Test.YtckpeclkkmapiaaGreatDoorCrcMath
namespace Go.Proofs.YtckpeclkkmapiaaGreatDoor
open Go

abbrev W32 := BitVec 32
theorem ofInt32 (a : W32) : BitVec.ofInt IntKind.u32.bits (a.toNat : Int) = a := by
  show BitVec.ofInt 32 _ = a
  rw [BitVec.ofInt_natCast, BitVec.ofNat_toNat, BitVec.setWidth_eq]
theorem ofInt8 (a : BitVec 8) : BitVec.ofInt IntKind.u8.bits (a.toNat : Int) = a := by
  show BitVec.ofInt 8 _ = a
  rw [BitVec.ofInt_natCast, BitVec.ofNat_toNat, BitVec.setWidth_eq]
theorem wrap32n (a : W32) : IntKind.u32.wrap (a.toNat : Int) = a.toNat := by
  have := a.isLt
  simp [IntKind.wrap, IntKind.bits, IntKind.signed]
  omega
theorem wrap8n (a : BitVec 8) : IntKind.u8.wrap (a.toNat : Int) = a.toNat := by
  have := a.isLt
  simp [IntKind.wrap, IntKind.bits, IntKind.signed]
  omega
theorem xor32 (a b : W32) : bits .xor .u32 (a.toNat : Int) (b.toNat : Int) = ((a ^^^ b).toNat : Int) := by
  unfold bits
  rw [ofInt32, ofInt32]
  exact wrap32n (a ^^^ b)
theorem and32 (a b : W32) : bits .and .u32 (a.toNat : Int) (b.toNat : Int) = ((a &&& b).toNat : Int) := by
  unfold bits
  rw [ofInt32, ofInt32]
  exact wrap32n (a &&& b)
theorem xor8 (a b : BitVec 8) : bits .xor .u8 (a.toNat : Int) (b.toNat : Int) = ((a ^^^ b).toNat : Int) := by
  unfold bits
  rw [ofInt8, ofInt8]
  exact wrap8n (a ^^^ b)

def poly : W32 := 0xedb88320#32
/-- Its lowest place. -/
def low (x : W32) : Bool := x.getLsbD 0
/-- One place down. -/
def st (x : W32) : W32 := (x >>> 1) ^^^ (if low x then poly else 0#32)
def sts : Nat → W32 → W32
  | 0, x => x
  | n + 1, x => st (sts n x)

theorem half (x : W32) : (x.toNat : Int) / (2 : Int) = ((x >>> 1).toNat : Int) := by
  rw [BitVec.toNat_ushiftRight, Nat.shiftRight_eq_div_pow]
  omega
theorem low_iff (x : W32) : low x = true ↔ x.toNat % 2 = 1 := by
  unfold low
  rw [BitVec.getLsbD, Nat.testBit_zero]
  simp
theorem low_xor (a b : W32) : low (a ^^^ b) = (low a ^^ low b) := by
  unfold low
  exact BitVec.getLsbD_xor
theorem poly_nat : (3988292384 : Int) = (poly.toNat : Int) := by decide
theorem and_one (x : W32) : (x &&& 1#32) = if low x then 1#32 else 0#32 := by
  apply BitVec.eq_of_toNat_eq
  have h := low_iff x
  rw [BitVec.toNat_and, show (1#32 : W32).toNat = 1 from rfl, Nat.and_one_is_mod]
  cases hl : low x
  · rw [if_neg (by simp)]
    rw [hl] at h
    have : ¬ x.toNat % 2 = 1 := fun e => by cases h.2 e
    show _ = 0
    omega
  · rw [if_pos rfl]
    exact h.1 hl
theorem stI_st (x : W32) : stI (x.toNat : Int) = ((st x).toNat : Int) := by
  unfold stI st
  rw [half, show (1 : Int) = ((1#32 : W32).toNat : Int) from by decide, and32, and_one, poly_nat]
  cases low x
  · rw [if_neg (by simp), if_neg (by simp), show (-(((0#32 : W32).toNat : Int))) % 4294967296 = ((0#32 : W32).toNat : Int) from by decide, and32, xor32, BitVec.zero_and]
  · rw [if_pos rfl, if_pos rfl, show (-(((1#32 : W32).toNat : Int))) % 4294967296 = ((0xffffffff#32 : W32).toNat : Int) from by decide, and32, xor32]
    have e : (0xffffffff#32 &&& poly : W32) = poly := by decide
    rw [e]
theorem rstI_st (x : W32) : rstI (x.toNat : Int) = ((st x).toNat : Int) := by
  have h := low_iff x
  unfold rstI st
  rw [half, poly_nat, xor32]
  cases hl : low x
  · have h2 : ¬ ((x.toNat : Int) % 2 = 1) := by
      intro h3
      have := h.2 (by omega)
      rw [hl] at this
      cases this
    rw [if_neg h2, if_neg (by simp), BitVec.xor_zero]
  · have h2 : (x.toNat : Int) % 2 = 1 := by
      have := h.1 hl
      omega
    rw [if_pos h2, if_pos rfl]
theorem stN_sts (n : Nat) (x : W32) : stN n (x.toNat : Int) = ((sts n x).toNat : Int) := by
  induction n with
  | zero => rfl
  | succ n ih =>
    show stI (stN n _) = _
    rw [ih, stI_st]
    rfl
theorem rstN_sts (n : Nat) (x : W32) : rstN n (x.toNat : Int) = ((sts n x).toNat : Int) := by
  induction n with
  | zero => rfl
  | succ n ih =>
    show rstI (rstN n _) = _
    rw [ih, rstI_st]
    rfl

theorem st_xor (a b : W32) : st (a ^^^ b) = st a ^^^ st b := by
  unfold st
  rw [low_xor, BitVec.ushiftRight_xor_distrib]
  have e : ∀ x y z : W32, x ^^^ y ^^^ z = x ^^^ (y ^^^ z) := BitVec.xor_assoc
  have c : ∀ x y : W32, x ^^^ y = y ^^^ x := BitVec.xor_comm
  cases low a <;> cases low b
  · simp
  · simp [e]
  · simp only [Bool.true_xor, Bool.not_false, if_true, Bool.false_eq_true, if_false, BitVec.xor_zero]
    rw [e, c (b >>> 1), ← e]
  · simp only [Bool.true_xor, Bool.not_true, if_true, Bool.false_eq_true, if_false, BitVec.xor_zero]
    rw [e, c poly, e, BitVec.xor_self, BitVec.xor_zero]
theorem sts_xor (n : Nat) (a b : W32) : sts n (a ^^^ b) = sts n a ^^^ sts n b := by
  induction n with
  | zero => rfl
  | succ n ih =>
    show st (sts n _) = st (sts n a) ^^^ st (sts n b)
    rw [ih, st_xor]
theorem sts_add (m n : Nat) (x : W32) : sts (m + n) x = sts m (sts n x) := by
  induction m with
  | zero => simp [sts]
  | succ m ih =>
    rw [show m + 1 + n = (m + n) + 1 from by omega]
    show st (sts (m + n) x) = st (sts m (sts n x))
    rw [ih]
/-- Where the lowest places are nought, a step is a shift. -/
theorem sts_low (n : Nat) (x : W32) (h : ∀ i, i < n → x.getLsbD i = false) : sts n x = x >>> n := by
  induction n with
  | zero => simp [sts]
  | succ n ih =>
    show st (sts n x) = _
    rw [ih fun i hi => h i (by omega)]
    unfold st
    have hl : low (x >>> n) = false := by
      unfold low
      rw [BitVec.getLsbD_ushiftRight]
      exact h n (by omega)
    rw [hl, if_neg (by simp), BitVec.xor_zero, BitVec.shiftRight_add]

/-- A byte among 32 bits. -/
def wid (c : BitVec 8) : W32 := c.setWidth 32
def upd (x : W32) (c : BitVec 8) : W32 := sts 8 (x ^^^ wid c)
theorem split8 (x : W32) (c : BitVec 8) : sts 8 (x ^^^ wid c) = (x >>> 8) ^^^ sts 8 (wid (x.setWidth 8 ^^^ c)) := by
  have e : x ^^^ wid c = (x ^^^ wid (x.setWidth 8)) ^^^ wid (x.setWidth 8 ^^^ c) := by
    apply BitVec.eq_of_getLsbD_eq
    intro i hi
    by_cases h : i < 8
    · simp [wid, h, hi]
    · simp [wid, h]
  rw [e, sts_xor, sts_low 8]
  · congr 1
    apply BitVec.eq_of_getLsbD_eq
    intro i hi
    simp [wid, BitVec.getLsbD_ushiftRight]
  · intro i hi
    simp [wid, hi, show i < 32 by omega]
theorem mod8 (x : W32) : (x.toNat : Int) % (256 : Int) = ((x.setWidth 8).toNat : Int) := by
  rw [BitVec.toNat_setWidth]
  omega
theorem div8 (x : W32) : (x.toNat : Int) / (256 : Int) = ((x >>> 8).toNat : Int) := by
  rw [BitVec.toNat_ushiftRight, Nat.shiftRight_eq_div_pow]
  omega
theorem wid_nat (c : BitVec 8) : ((wid c).toNat : Int) = (c.toNat : Int) := by
  have := c.isLt
  simp only [wid, BitVec.toNat_setWidth]
  omega
theorem updI_upd (x : W32) (c : BitVec 8) : updI (x.toNat : Int) (c.toNat : Int) = ((upd x c).toNat : Int) := by
  unfold updI upd
  rw [mod8, xor8, div8, ← wid_nat, stN_sts, xor32, split8]
theorem rupdI_upd (x : W32) (c : BitVec 8) : rupdI (x.toNat : Int) (c.toNat : Int) = ((upd x c).toNat : Int) := by
  unfold rupdI upd
  rw [← wid_nat, xor32, rstN_sts]

/-- Bytes, as bits. -/
def by_ (cs : List (BitVec 8)) : List Int := cs.map fun c => (c.toNat : Int)
def run (x : W32) (cs : List (BitVec 8)) : W32 := cs.foldl upd x
def more (s : W32) (cs : List (BitVec 8)) : W32 := ~~~ run (~~~ s) cs
theorem runI_run (cs : List (BitVec 8)) (x : W32) : runI (x.toNat : Int) (by_ cs) = ((run x cs).toNat : Int) := by
  induction cs generalizing x with
  | nil => rfl
  | cons c cs ih =>
    show runI (updI _ _) (by_ cs) = _
    rw [updI_upd, ih]
    rfl
theorem rrunI_run (cs : List (BitVec 8)) (x : W32) : rrunI (x.toNat : Int) (by_ cs) = ((run x cs).toNat : Int) := by
  induction cs generalizing x with
  | nil => rfl
  | cons c cs ih =>
    show rrunI (rupdI _ _) (by_ cs) = _
    rw [rupdI_upd, ih]
    rfl
theorem notI_not (x : W32) : notI (x.toNat : Int) = ((~~~ x).toNat : Int) := by
  unfold notI
  rw [show IntKind.u32.max = ((BitVec.allOnes 32).toNat : Int) from by decide, xor32]
  rw [BitVec.xor_comm, BitVec.xor_allOnes]
theorem moreI_more (s : W32) (cs : List (BitVec 8)) : moreI (s.toNat : Int) (by_ cs) = ((more s cs).toNat : Int) := by
  unfold moreI more
  rw [notI_not, runI_run, notI_not]
theorem rmoreI_more (s : W32) (cs : List (BitVec 8)) : rmoreI (s.toNat : Int) (by_ cs) = ((more s cs).toNat : Int) := by
  unfold rmoreI more
  rw [notI_not, rrunI_run, notI_not]

/-! ### What follows -/
theorem bytes_of (cs : List Int) (h : ∀ c ∈ cs, 0 ≤ c ∧ c ≤ 255) : ∃ bs, cs = by_ bs := by
  induction cs with
  | nil => exact ⟨[], rfl⟩
  | cons c cs ih =>
    obtain ⟨bs, rfl⟩ := ih fun x hx => h x (by simp [hx])
    have hc := h c (by simp)
    refine ⟨BitVec.ofNat 8 c.toNat :: bs, ?_⟩
    show c :: by_ bs = ((BitVec.ofNat 8 c.toNat).toNat : Int) :: by_ bs
    rw [BitVec.toNat_ofNat]
    congr 1
    omega
theorem word_of (x : Int) (h0 : 0 ≤ x) (h1 : x ≤ 4294967295) : ∃ b : W32, x = (b.toNat : Int) := by
  refine ⟨BitVec.ofNat 32 x.toNat, ?_⟩
  rw [BitVec.toNat_ofNat]
  omega
theorem more_r (s : Int) (cs : List Int) (h0 : 0 ≤ s) (h1 : s ≤ 4294967295) (h : ∀ c ∈ cs, 0 ≤ c ∧ c ≤ 255) : rmoreI s cs = moreI s cs := by
  obtain ⟨bs, rfl⟩ := bytes_of cs h
  obtain ⟨b, rfl⟩ := word_of s h0 h1
  rw [moreI_more, rmoreI_more]
theorem more_in (s : Int) (cs : List Int) (h0 : 0 ≤ s) (h1 : s ≤ 4294967295) (h : ∀ c ∈ cs, 0 ≤ c ∧ c ≤ 255) : 0 ≤ moreI s cs ∧ moreI s cs ≤ 4294967295 := by
  obtain ⟨bs, rfl⟩ := bytes_of cs h
  obtain ⟨b, rfl⟩ := word_of s h0 h1
  rw [moreI_more]
  have := (more b bs).isLt
  omega
theorem more_append (s : W32) (a b : List (BitVec 8)) : more s (a ++ b) = more (more s a) b := by
  unfold more run
  rw [List.foldl_append, BitVec.not_not]
theorem moreI_append (s : Int) (a b : List Int) (h0 : 0 ≤ s) (h1 : s ≤ 4294967295) (ha : ∀ c ∈ a, 0 ≤ c ∧ c ≤ 255) (hb : ∀ c ∈ b, 0 ≤ c ∧ c ≤ 255) :
    moreI s (a ++ b) = moreI (moreI s a) b := by
  obtain ⟨x, rfl⟩ := bytes_of a ha
  obtain ⟨y, rfl⟩ := bytes_of b hb
  obtain ⟨w, rfl⟩ := word_of s h0 h1
  have e : by_ x ++ by_ y = by_ (x ++ y) := by simp [by_]
  rw [e, moreI_more, moreI_more, moreI_more, more_append]

theorem st_zero : st 0#32 = 0#32 := by decide
theorem sts_zero (n : Nat) : sts n 0#32 = 0#32 := by
  induction n with
  | zero => rfl
  | succ n ih =>
    show st (sts n _) = _
    rw [ih, st_zero]
theorem st_nought (x : W32) (h : st x = 0#32) : x = 0#32 := by
  unfold st at h
  cases hl : low x
  · rw [hl, if_neg (by simp), BitVec.xor_zero] at h
    have h2 := low_iff x
    rw [hl] at h2
    have h3 : ¬ x.toNat % 2 = 1 := fun e => by cases h2.2 e
    have h4 := congrArg BitVec.toNat h
    rw [BitVec.toNat_ushiftRight, Nat.shiftRight_eq_div_pow] at h4
    apply BitVec.eq_of_toNat_eq
    rw [BitVec.toNat_zero] at h4 ⊢
    omega
  · rw [hl, if_pos rfl] at h
    have h2 := congrArg (fun y : W32 => y.getLsbD 31) h
    simp at h2
    have h3 : poly[31] = true := by decide
    rw [h3] at h2
    cases h2
theorem sts_nought (n : Nat) (x : W32) (h : sts n x = 0#32) : x = 0#32 := by
  induction n with
  | zero => exact h
  | succ n ih => exact ih (st_nought _ h)
theorem xor_nought (a b : W32) : a ^^^ b = 0#32 ↔ a = b := BitVec.xor_eq_zero_iff
theorem wid_xor (c d : BitVec 8) : wid (c ^^^ d) = wid c ^^^ wid d := by
  unfold wid
  exact BitVec.setWidth_xor
theorem upd_xor (x y : W32) (c d : BitVec 8) : upd (x ^^^ y) (c ^^^ d) = upd x c ^^^ upd y d := by
  unfold upd
  rw [wid_xor, ← sts_xor]
  congr 1
  rw [BitVec.xor_assoc, BitVec.xor_assoc]
  congr 1
  rw [← BitVec.xor_assoc, BitVec.xor_comm y, BitVec.xor_assoc]
theorem run_xor (a b : List (BitVec 8)) (x y : W32) (h : a.length = b.length) : run (x ^^^ y) (List.zipWith (· ^^^ ·) a b) = run x a ^^^ run y b := by
  induction a generalizing b x y with
  | nil =>
    cases b with
    | nil => rfl
    | cons d b => cases h
  | cons c a ih =>
    cases b with
    | nil => cases h
    | cons d b =>
      show run (upd (x ^^^ y) (c ^^^ d)) (List.zipWith _ a b) = _
      rw [upd_xor, ih b _ _ (by simpa using h)]
      rfl
theorem run_zeros (n : Nat) (x : W32) : run x (List.replicate n 0#8) = sts (8 * n) x := by
  induction n generalizing x with
  | zero => rfl
  | succ n ih =>
    show run (upd x 0#8) (List.replicate n 0#8) = _
    rw [ih, show 8 * (n + 1) = 8 * n + 8 from by omega, sts_add]
    unfold upd
    rw [show wid 0#8 = 0#32 from by decide, BitVec.xor_zero]
theorem not_xor (a b : W32) : ~~~ a ^^^ ~~~ b = a ^^^ b := by
  apply BitVec.eq_of_getLsbD_eq
  intro i hi
  simp [hi]
/-- Of two sums of lists of one length the difference is that of what differs. -/
theorem more_diff (s t : W32) (a e : List (BitVec 8)) (h : a.length = e.length) : more s a ^^^ more t (List.zipWith (· ^^^ ·) a e) = run (s ^^^ t) e := by
  unfold more
  rw [not_xor]
  have h1 := run_xor a e (~~~ s) (s ^^^ t) h
  have h2 : ~~~ s ^^^ (s ^^^ t) = ~~~ t := by
    apply BitVec.eq_of_getLsbD_eq
    intro i hi
    simp [hi]
  rw [h2] at h1
  rw [h1, ← BitVec.xor_assoc, BitVec.xor_self, BitVec.zero_xor]
theorem run_same (e : List (BitVec 8)) (x : W32) : run x e ^^^ run 0#32 e = sts (8 * e.length) x := by
  have h := run_xor e e x 0#32 rfl
  rw [BitVec.xor_zero] at h
  rw [← h, ← run_zeros]
  congr 1
  apply List.ext_getElem
  · simp
  · intro i h1 h2
    simp
theorem more_inj (x y : W32) (b : List (BitVec 8)) : more x b = more y b ↔ x = y := by
  constructor
  · intro h
    unfold more at h
    have h1 : run (~~~ x) b = run (~~~ y) b := by simpa using congrArg (fun z : W32 => ~~~ z) h
    have h2 := run_xor b b (~~~ x) (~~~ y) rfl
    rw [h1, BitVec.xor_self, not_xor] at h2
    have h3 : List.zipWith (· ^^^ ·) b b = List.replicate b.length 0#8 := by
      apply List.ext_getElem
      · simp
      · intro i h1 h2
        simp
    rw [h3, run_zeros] at h2
    exact (xor_nought _ _).1 (sts_nought _ _ h2)
  · rintro rfl
    rfl

/-- At most four bytes as one number, the first one lowest. -/
def pk : List (BitVec 8) → W32
  | [] => 0#32
  | c :: w => wid c ^^^ (pk w <<< 8)
theorem pk_hi (w : List (BitVec 8)) (i : Nat) (h : 8 * w.length ≤ i) : (pk w).getLsbD i = false := by
  induction w generalizing i with
  | nil => simp [pk]
  | cons c w ih =>
    have h1 : 8 * w.length ≤ i - 8 := by simp at h; omega
    have h2 : ¬ i < 8 := by simp at h; omega
    simp only [pk, BitVec.getLsbD_xor, BitVec.getLsbD_shiftLeft, ih _ h1, wid, BitVec.getLsbD_setWidth, BitVec.getLsbD_of_ge c i (by omega)]
    simp
theorem pk_shift (w : List (BitVec 8)) (h : w.length ≤ 3) : (pk w <<< 8) >>> 8 = pk w := by
  apply BitVec.eq_of_getLsbD_eq
  intro i hi
  rw [BitVec.getLsbD_ushiftRight, BitVec.getLsbD_shiftLeft]
  by_cases h2 : 8 + i < 32
  · simp [h2]
  · rw [pk_hi w i (by omega)]
    simp [h2]
theorem run_pk (w : List (BitVec 8)) (h : w.length ≤ 4) (y : W32) : run y w = sts (8 * w.length) (y ^^^ pk w) := by
  induction w generalizing y with
  | nil => simp [run, pk, sts]
  | cons c w ih =>
    have hw : w.length ≤ 3 := by simp at h; omega
    show run (upd y c) w = _
    rw [ih (by omega), List.length_cons, show 8 * (w.length + 1) = 8 * w.length + 8 from by omega, sts_add]
    congr 1
    show sts 8 _ ^^^ _ = sts 8 (y ^^^ (wid c ^^^ (pk w <<< 8)))
    rw [← BitVec.xor_assoc, sts_xor 8 (y ^^^ wid c), sts_low 8 (pk w <<< 8), pk_shift w hw]
    intro i hi
    rw [BitVec.getLsbD_shiftLeft]
    simp [hi]
theorem pk_nought (w : List (BitVec 8)) (h : w.length ≤ 4) (h0 : pk w = 0#32) : ∀ c ∈ w, c = 0#8 := by
  induction w with
  | nil => simp
  | cons c w ih =>
    have hw : w.length ≤ 3 := by simp at h; omega
    have e1 : (pk (c :: w)).setWidth 8 = c := by
      apply BitVec.eq_of_getLsbD_eq
      intro i hi
      simp [pk, wid, hi]
    have e2 : pk (c :: w) >>> 8 = pk w := by
      show (wid c ^^^ (pk w <<< 8)) >>> 8 = pk w
      rw [BitVec.ushiftRight_xor_distrib, pk_shift w hw]
      have : wid c >>> 8 = 0#32 := by
        apply BitVec.eq_of_getLsbD_eq
        intro i hi
        simp [wid, BitVec.getLsbD_ushiftRight]
      rw [this, BitVec.zero_xor]
    rw [h0] at e1 e2
    intro d hd
    cases hd with
    | head => exact e1.symm
    | tail _ hd => exact ih (by omega) (by rw [← e2]; decide) d hd
/-- Up to four bytes side by side, changed, change the sum. -/
theorem more_spoils (a : List (BitVec 8)) (k r : Nat) (w : List (BitVec 8)) (hw : w.length ≤ 4) (ha : a.length = k + w.length + r) :
    more 0#32 (List.zipWith (· ^^^ ·) a (List.replicate k 0#8 ++ w ++ List.replicate r 0#8)) = more 0#32 a ↔ ∀ c ∈ w, c = 0#8 := by
  have h := more_diff 0#32 0#32 a (List.replicate k 0#8 ++ w ++ List.replicate r 0#8) (by simp [ha]; omega)
  rw [BitVec.xor_self] at h
  have e : run 0#32 (List.replicate k 0#8 ++ w ++ List.replicate r 0#8) = sts (8 * r) (sts (8 * w.length) (pk w)) := by
    unfold run
    rw [List.foldl_append, List.foldl_append]
    show run (run (run 0#32 _) w) _ = _
    rw [run_zeros r, run_zeros k, sts_zero, run_pk w hw, BitVec.zero_xor]
  rw [e] at h
  constructor
  · intro h1
    rw [h1, BitVec.xor_self] at h
    exact pk_nought w hw (sts_nought _ _ (sts_nought _ _ h.symm))
  · intro h1
    have h2 : pk w = 0#32 := by
      clear e h hw ha
      induction w with
      | nil => rfl
      | cons c w ih =>
        show wid c ^^^ (pk w <<< 8) = _
        rw [ih fun d hd => h1 d (by simp [hd]), h1 c (by simp)]
        decide
    rw [h2, sts_zero, sts_zero] at h
    exact ((xor_nought _ _).1 h).symm
/-- A sum with itself behind. -/
theorem more_behind (n : W32) : more n [n.setWidth 8, (n >>> 8).setWidth 8, (n >>> 16).setWidth 8, (n >>> 24).setWidth 8] = 0x2144df1c#32 := by
  unfold more
  rw [run_pk _ (by simp)]
  have e : pk [n.setWidth 8, (n >>> 8).setWidth 8, (n >>> 16).setWidth 8, (n >>> 24).setWidth 8] = n := by
    apply BitVec.eq_of_getLsbD_eq
    intro i hi
    simp only [pk, wid, BitVec.getLsbD_xor, BitVec.getLsbD_shiftLeft, BitVec.getLsbD_setWidth, BitVec.getLsbD_ushiftRight]
    by_cases h1 : i < 8
    · simp [h1, hi]
    · by_cases h2 : i < 16
      · simp [h1, hi, show i - 8 < 8 by omega, show i - 8 < 32 by omega, show 8 + (i - 8) = i by omega]
      · by_cases h3 : i < 24
        · simp [h1, hi, show ¬ i - 8 < 8 by omega, show i - 8 < 32 by omega, show i - 8 - 8 < 8 by omega, show i - 8 - 8 < 32 by omega, show 16 + (i - 8 - 8) = i by omega]
        · simp [h1, hi, show ¬ i - 8 < 8 by omega, show i - 8 < 32 by omega, show ¬ i - 8 - 8 < 8 by omega, show i - 8 - 8 < 32 by omega, show i - 8 - 8 - 8 < 8 by omega, show i - 8 - 8 - 8 < 32 by omega, show 24 + (i - 8 - 8 - 8) = i by omega]
  rw [e]
  have e2 : ~~~ n ^^^ n = 0xffffffff#32 := by
    apply BitVec.eq_of_getLsbD_eq
    intro i hi
    rw [BitVec.getLsbD_xor, BitVec.getLsbD_not, show (0xffffffff#32 : W32) = BitVec.allOnes 32 from by decide, BitVec.getLsbD_allOnes]
    cases n.getLsbD i <;> simp [hi]
  rw [e2]
  show ~~~ sts 32 0xffffffff#32 = _
  decide +kernel
theorem div16 (x : W32) : (x.toNat : Int) / (65536 : Int) = ((x >>> 16).toNat : Int) := by
  rw [BitVec.toNat_ushiftRight, Nat.shiftRight_eq_div_pow]
  omega
theorem div24 (x : W32) : (x.toNat : Int) / (16777216 : Int) = ((x >>> 24).toNat : Int) := by
  rw [BitVec.toNat_ushiftRight, Nat.shiftRight_eq_div_pow]
  omega
theorem behindI (n : Int) (h0 : 0 ≤ n) (h1 : n ≤ 4294967295) : moreI n [n % 256, n / 256 % 256, n / 65536 % 256, n / 16777216 % 256] = 558161692 := by
  obtain ⟨b, rfl⟩ := word_of n h0 h1
  rw [div8, div16, div24, mod8, mod8, mod8, mod8]
  have := moreI_more b [b.setWidth 8, (b >>> 8).setWidth 8, (b >>> 16).setWidth 8, (b >>> 24).setWidth 8]
  rw [more_behind] at this
  exact this
theorem turnedI (x y : Int) (cs : List Int) (hx0 : 0 ≤ x) (hx1 : x ≤ 4294967295) (hy0 : 0 ≤ y) (hy1 : y ≤ 4294967295) (h : ∀ c ∈ cs, 0 ≤ c ∧ c ≤ 255) (he : moreI x cs = moreI y cs) : x = y := by
  obtain ⟨bs, rfl⟩ := bytes_of cs h
  obtain ⟨a, rfl⟩ := word_of x hx0 hx1
  obtain ⟨b, rfl⟩ := word_of y hy0 hy1
  rw [moreI_more, moreI_more] at he
  have h2 : more a bs = more b bs := BitVec.eq_of_toNat_eq (by omega)
  rw [(more_inj a b bs).1 h2]
/-- Bytes, one by one taken against others. -/
def mixI (a e : List Int) : List Int := List.zipWith (fun x y => bits .xor .u8 x y) a e
theorem mixI_by (a e : List (BitVec 8)) : mixI (by_ a) (by_ e) = by_ (List.zipWith (· ^^^ ·) a e) := by
  unfold mixI by_
  rw [List.zipWith_map, List.map_zipWith]
  congr 1
  funext x y
  exact xor8 x y
theorem differsI (a b e : List Int) (ha : ∀ c ∈ a, 0 ≤ c ∧ c ≤ 255) (hb : ∀ c ∈ b, 0 ≤ c ∧ c ≤ 255) (he : ∀ c ∈ e, 0 ≤ c ∧ c ≤ 255) (hl : a.length = e.length) (hm : b.length = e.length) :
    bits .xor .u32 (moreI 0 a) (moreI 0 (mixI a e)) = bits .xor .u32 (moreI 0 b) (moreI 0 (mixI b e)) := by
  obtain ⟨x, rfl⟩ := bytes_of a ha
  obtain ⟨y, rfl⟩ := bytes_of b hb
  obtain ⟨z, rfl⟩ := bytes_of e he
  have h1 : x.length = z.length := by simpa [by_] using hl
  have h2 : y.length = z.length := by simpa [by_] using hm
  have h0 : (0 : Int) = ((0#32 : W32).toNat : Int) := rfl
  rw [mixI_by, mixI_by, h0, moreI_more, moreI_more, moreI_more, moreI_more, xor32, xor32, more_diff _ _ _ _ h1, more_diff _ _ _ _ h2]
theorem spoilsI (a w : List Int) (k r : Nat) (ha : ∀ c ∈ a, 0 ≤ c ∧ c ≤ 255) (hw : ∀ c ∈ w, 0 ≤ c ∧ c ≤ 255) (hl : w.length ≤ 4) (hn : a.length = k + w.length + r) :
    moreI 0 (mixI a (List.replicate k 0 ++ w ++ List.replicate r 0)) = moreI 0 a ↔ ∀ c ∈ w, c = 0 := by
  obtain ⟨x, rfl⟩ := bytes_of a ha
  obtain ⟨z, rfl⟩ := bytes_of w hw
  have h1 : z.length ≤ 4 := by simpa [by_] using hl
  have h2 : x.length = k + z.length + r := by simpa [by_] using hn
  have e0 : ∀ n, (List.replicate n (0 : Int)) = by_ (List.replicate n 0#8) := by
    intro n
    simp [by_]
  have e1 : by_ (List.replicate k 0#8) ++ by_ z ++ by_ (List.replicate r 0#8) = by_ (List.replicate k 0#8 ++ z ++ List.replicate r 0#8) := by simp [by_]
  have h0 : (0 : Int) = ((0#32 : W32).toNat : Int) := rfl
  rw [e0, e0, e1, mixI_by, h0, moreI_more, moreI_more]
  have h3 := more_spoils x k r z h1 h2
  constructor
  · intro h c hc
    obtain ⟨d, hd, rfl⟩ := List.mem_map.1 hc
    rw [h3.1 (BitVec.eq_of_toNat_eq (by omega)) d hd]
    rfl
  · intro h
    rw [h3.2 fun d hd => ?_]
    have := h (d.toNat : Int) (List.mem_map.2 ⟨d, hd, rfl⟩)
    apply BitVec.eq_of_toNat_eq
    have h5 : (0#32 : W32).toNat = 0 := rfl
    have h6 : (0#8 : BitVec 8).toNat = 0 := rfl
    rw [h5] at this
    rw [h6]
    omega
end Go.Proofs.YtckpeclkkmapiaaGreatDoor
