/-
  Plain mathematics of the three checksums over BitVec: no program in sight.
-/
import Init
namespace Go.Proofs.Ytoompglghjpapaa.Crc
set_option linter.unusedVariables false
set_option linter.unusedSimpArgs false

def rep {α : Type} (f : α → α) : Nat → α → α
  | 0, x => x
  | k + 1, x => f (rep f k x)

def byteV (n : Nat) (x : UInt8) : BitVec n := BitVec.ofNat n x.toNat

def stepL {n : Nat} (p r : BitVec n) : BitVec n := (r <<< 1) ^^^ (if r.msb then p else 0#n)
def stepR {n : Nat} (p r : BitVec n) : BitVec n := (r >>> 1) ^^^ (if r.getLsbD 0 then p else 0#n)

theorem xor_zero' {n : Nat} (a : BitVec n) : a ^^^ 0#n = a := by simp
theorem xor4 {n : Nat} (a b c d : BitVec n) : (a ^^^ b) ^^^ (c ^^^ d) = (a ^^^ c) ^^^ (b ^^^ d) := by
  rw [BitVec.xor_assoc, BitVec.xor_assoc, ← BitVec.xor_assoc b c d, BitVec.xor_comm b c, BitVec.xor_assoc c b d]
theorem cancel {n : Nat} (a b : BitVec n) : (a ^^^ b) ^^^ b = a := by rw [BitVec.xor_assoc, BitVec.xor_self, xor_zero']
theorem xor_eq_zero {n : Nat} (a b : BitVec n) : a ^^^ b = 0#n ↔ a = b := by
  constructor
  · intro h
    have : (a ^^^ b) ^^^ b = 0#n ^^^ b := by rw [h]
    rw [cancel] at this; simpa using this
  · rintro rfl; exact BitVec.xor_self

theorem pick_xor {n : Nat} (x y : Bool) (p : BitVec n) : (if (x ^^ y) then p else 0#n) = (if x then p else 0#n) ^^^ (if y then p else 0#n) := by
  cases x <;> cases y <;> simp

theorem stepL_xor {n : Nat} (p a b : BitVec n) : stepL p (a ^^^ b) = stepL p a ^^^ stepL p b := by
  unfold stepL
  rw [BitVec.shiftLeft_xor_distrib, BitVec.msb_xor, pick_xor, xor4]
theorem stepR_xor {n : Nat} (p a b : BitVec n) : stepR p (a ^^^ b) = stepR p a ^^^ stepR p b := by
  unfold stepR
  rw [BitVec.ushiftRight_xor_distrib, BitVec.getLsbD_xor, pick_xor, xor4]
theorem rep_xor {n : Nat} (f : BitVec n → BitVec n) (hf : ∀ a b, f (a ^^^ b) = f a ^^^ f b) (k : Nat) (a b : BitVec n) : rep f k (a ^^^ b) = rep f k a ^^^ rep f k b := by
  induction k with
  | zero => rfl
  | succ k ih => simp only [rep, ih, hf]
theorem stepL_zero {n : Nat} (p : BitVec n) : stepL p 0#n = 0#n := by simp [stepL]
theorem stepR_zero {n : Nat} (p : BitVec n) : stepR p 0#n = 0#n := by simp [stepR]
theorem rep_zero {n : Nat} (f : BitVec n → BitVec n) (hf : f 0#n = 0#n) (k : Nat) : rep f k 0#n = 0#n := by
  induction k with
  | zero => rfl
  | succ k ih => simp only [rep, ih, hf]

/-- no bit is lost -/
theorem stepL_inj0 {n : Nat} (hn : 0 < n) (p : BitVec n) (hp : p.getLsbD 0 = true) (r : BitVec n) (h : stepL p r = 0#n) : r = 0#n := by
  have hm : r.msb = false := by
    cases hm : r.msb with
    | false => rfl
    | true =>
      have h0 : (stepL p r).getLsbD 0 = false := by rw [h]; simp
      simp [stepL, hm, hp] at h0
  have h1 : r <<< 1 = 0#n := by simpa [stepL, hm] using h
  apply BitVec.eq_of_getLsbD_eq
  intro i hi
  by_cases hl : i = n - 1
  · subst hl
    have := hm
    rw [BitVec.msb_eq_getLsbD_last] at this
    simpa using this
  · have h2 : (r <<< 1).getLsbD (i + 1) = false := by rw [h1]; simp
    rw [BitVec.getLsbD_shiftLeft] at h2
    have : i + 1 < n := by omega
    simpa [this] using h2
theorem stepR_inj0 {n : Nat} (_hn : 0 < n) (p : BitVec n) (hp : p.msb = true) (r : BitVec n) (h : stepR p r = 0#n) : r = 0#n := by
  have hm : r.getLsbD 0 = false := by
    cases hm : r.getLsbD 0 with
    | false => rfl
    | true =>
      have h0 : (stepR p r).msb = false := by rw [h]; simp
      simp only [stepR, hm, if_true, BitVec.msb_xor, hp] at h0
      have : (r >>> 1).msb = false := by rw [BitVec.msb_ushiftRight]; simp
      rw [this] at h0
      simp at h0
  have h1 : r >>> 1 = 0#n := by simpa [stepR, hm] using h
  apply BitVec.eq_of_getLsbD_eq
  intro i hi
  by_cases hl : i = 0
  · subst hl; simpa using hm
  · have h2 : (r >>> 1).getLsbD (i - 1) = false := by rw [h1]; simp
    rw [BitVec.getLsbD_ushiftRight] at h2
    have : 1 + (i - 1) = i := by omega
    simpa [this] using h2
theorem rep_inj0 {n : Nat} (f : BitVec n → BitVec n) (hf : ∀ r, f r = 0#n → r = 0#n) (k : Nat) (r : BitVec n) (h : rep f k r = 0#n) : r = 0#n := by
  induction k with
  | zero => exact h
  | succ k ih => exact ih (hf _ h)

def byteL {n : Nat} (p : BitVec n) (sh : Nat) (r : BitVec n) (x : UInt8) : BitVec n := rep (stepL p) 8 (r ^^^ (byteV n x <<< sh))
def byteR {n : Nat} (p : BitVec n) (r : BitVec n) (x : UInt8) : BitVec n := rep (stepR p) 8 (r ^^^ byteV n x)
def runL {n : Nat} (p : BitVec n) (sh : Nat) (r : BitVec n) (l : List UInt8) : BitVec n := l.foldl (byteL p sh) r
def runR {n : Nat} (p : BitVec n) (r : BitVec n) (l : List UInt8) : BitVec n := l.foldl (byteR p) r
def crc8 (l : List UInt8) : BitVec 8 := runL 7#8 0 0#8 l
def crc16 (l : List UInt8) : BitVec 16 := runL 0x8005#16 8 0#16 l
def crc32 (l : List UInt8) : BitVec 32 := ~~~ (runR 0xEDB88320#32 0xFFFFFFFF#32 l)

theorem runL_append {n : Nat} (p : BitVec n) (sh : Nat) (r : BitVec n) (a b : List UInt8) : runL p sh r (a ++ b) = runL p sh (runL p sh r a) b := by simp [runL, List.foldl_append]

/-- sums of two lists of one length, with their states: linear -/
def xorB (a b : List UInt8) : List UInt8 := List.zipWith (· ^^^ ·) a b
theorem byteV_xor (n : Nat) (x y : UInt8) : byteV n (x ^^^ y) = byteV n x ^^^ byteV n y := by
  unfold byteV
  rw [UInt8.toNat_xor]
  apply BitVec.eq_of_getLsbD_eq
  intro i hi
  simp [hi]
theorem byteL_xor {n : Nat} (p : BitVec n) (sh : Nat) (r s : BitVec n) (x y : UInt8) : byteL p sh (r ^^^ s) (x ^^^ y) = byteL p sh r x ^^^ byteL p sh s y := by
  unfold byteL
  rw [byteV_xor, BitVec.shiftLeft_xor_distrib, xor4, rep_xor _ (stepL_xor p)]
theorem byteR_xor {n : Nat} (p : BitVec n) (r s : BitVec n) (x y : UInt8) : byteR p (r ^^^ s) (x ^^^ y) = byteR p r x ^^^ byteR p s y := by
  unfold byteR
  rw [byteV_xor, xor4, rep_xor _ (stepR_xor p)]
theorem runL_xor {n : Nat} (p : BitVec n) (sh : Nat) (a : List UInt8) : ∀ (b : List UInt8) (r s : BitVec n), a.length = b.length → runL p sh (r ^^^ s) (xorB a b) = runL p sh r a ^^^ runL p sh s b := by
  induction a with
  | nil => intro b r s h; cases b with
    | nil => rfl
    | cons y b => simp at h
  | cons x a ih => intro b r s h; cases b with
    | nil => simp at h
    | cons y b =>
      simp only [runL, xorB, List.zipWith_cons_cons, List.foldl_cons] at *
      rw [byteL_xor]
      exact ih b _ _ (by simpa using h)
theorem runR_xor {n : Nat} (p : BitVec n) (a : List UInt8) : ∀ (b : List UInt8) (r s : BitVec n), a.length = b.length → runR p (r ^^^ s) (xorB a b) = runR p r a ^^^ runR p s b := by
  induction a with
  | nil => intro b r s h; cases b with
    | nil => rfl
    | cons y b => simp at h
  | cons x a ih => intro b r s h; cases b with
    | nil => simp at h
    | cons y b =>
      simp only [runR, xorB, List.zipWith_cons_cons, List.foldl_cons] at *
      rw [byteR_xor]
      exact ih b _ _ (by simpa using h)

def zeros (n : Nat) : List UInt8 := List.replicate n 0
theorem xorB_zeros (l : List UInt8) : xorB l (zeros l.length) = l := by
  induction l with
  | nil => rfl
  | cons x l ih => simp only [zeros, List.length_cons, List.replicate_succ, xorB, List.zipWith_cons_cons] at *; rw [ih]; simp
theorem byteL_zero {n : Nat} (p : BitVec n) (sh : Nat) : byteL p sh 0#n 0 = 0#n := by
  unfold byteL
  have : (0#n ^^^ byteV n 0 <<< sh) = 0#n := by simp [byteV]
  rw [this, rep_zero _ (stepL_zero p)]
theorem runL_zeros {n : Nat} (p : BitVec n) (sh k : Nat) : runL p sh 0#n (zeros k) = 0#n := by
  induction k with
  | zero => rfl
  | succ k ih => simp only [zeros, List.replicate_succ, runL, List.foldl_cons, byteL_zero] at *; exact ih

/-- SumsParts -/
theorem runL_parts {n : Nat} (p : BitVec n) (sh : Nat) (a b : List UInt8) : runL p sh 0#n (a ++ b) = runL p sh 0#n (a ++ zeros b.length) ^^^ runL p sh 0#n b := by
  have h1 : xorB (a ++ zeros b.length) (zeros a.length ++ b) = a ++ b := by
    unfold xorB
    rw [List.zipWith_append (by simp [zeros])]
    congr 1
    · exact xorB_zeros a
    · have : ∀ b : List UInt8, List.zipWith (· ^^^ ·) (zeros b.length) b = b := by
        intro b; induction b with
        | nil => rfl
        | cons x b ih => simp only [zeros, List.length_cons, List.replicate_succ, List.zipWith_cons_cons] at *; rw [ih]; simp
      exact this b
  have h2 := runL_xor p sh (a ++ zeros b.length) (zeros a.length ++ b) 0#n 0#n (by simp [zeros])
  rw [h1] at h2
  rw [show (0#n ^^^ 0#n) = 0#n by simp] at h2
  rw [h2, runL_append p sh _ (zeros a.length) b, runL_zeros]
theorem runL_ahead {n : Nat} (p : BitVec n) (sh k : Nat) (b : List UInt8) : runL p sh 0#n (zeros k ++ b) = runL p sh 0#n b := by
  rw [runL_append, runL_zeros]

/-- SumsTell: two lists that part at one place alone have two sums -/
theorem xor_ne {n : Nat} {a b : BitVec n} (h : a ≠ b) : a ^^^ b ≠ 0#n := fun e => h ((xor_eq_zero a b).1 e)
theorem byteL_ne {n : Nat} (hn : 0 < n) (p : BitVec n) (hp : p.getLsbD 0 = true) (sh : Nat) (r s : BitVec n) (x : UInt8) (h : r ≠ s) : byteL p sh r x ≠ byteL p sh s x := by
  intro e
  have h1 := byteL_xor p sh r s x x
  rw [e, BitVec.xor_self] at h1
  have h2 := rep_inj0 _ (stepL_inj0 hn p hp) 8 _ h1
  have h3 : byteV n (x ^^^ x) <<< sh = 0#n := by simp [byteV]
  rw [h3, xor_zero'] at h2
  exact xor_ne h h2
theorem byteR_ne {n : Nat} (hn : 0 < n) (p : BitVec n) (hp : p.msb = true) (r s : BitVec n) (x : UInt8) (h : r ≠ s) : byteR p r x ≠ byteR p s x := by
  intro e
  have h1 := byteR_xor p r s x x
  rw [e, BitVec.xor_self] at h1
  have h2 := rep_inj0 _ (stepR_inj0 hn p hp) 8 _ h1
  have h3 : byteV n (x ^^^ x) = 0#n := by simp [byteV]
  rw [h3, xor_zero'] at h2
  exact xor_ne h h2
theorem runL_ne {n : Nat} (hn : 0 < n) (p : BitVec n) (hp : p.getLsbD 0 = true) (sh : Nat) (l : List UInt8) : ∀ (r s : BitVec n), r ≠ s → runL p sh r l ≠ runL p sh s l := by
  induction l with
  | nil => intro r s h; exact h
  | cons x l ih => intro r s h; exact ih _ _ (byteL_ne hn p hp sh r s x h)
theorem runR_ne {n : Nat} (hn : 0 < n) (p : BitVec n) (hp : p.msb = true) (l : List UInt8) : ∀ (r s : BitVec n), r ≠ s → runR p r l ≠ runR p s l := by
  induction l with
  | nil => intro r s h; exact h
  | cons x l ih => intro r s h; exact ih _ _ (byteR_ne hn p hp r s x h)
theorem byteL_ne2 {n : Nat} (hn : 0 < n) (p : BitVec n) (hp : p.getLsbD 0 = true) (sh : Nat) (r : BitVec n) (x y : UInt8) (h : byteV n (x ^^^ y) <<< sh ≠ 0#n) : byteL p sh r x ≠ byteL p sh r y := by
  intro e
  have h1 := byteL_xor p sh r r x y
  rw [e, BitVec.xor_self, BitVec.xor_self] at h1
  have h2 := rep_inj0 _ (stepL_inj0 hn p hp) 8 _ h1
  apply h; simpa using h2
theorem byteR_ne2 {n : Nat} (hn : 0 < n) (p : BitVec n) (hp : p.msb = true) (r : BitVec n) (x y : UInt8) (h : byteV n (x ^^^ y) ≠ 0#n) : byteR p r x ≠ byteR p r y := by
  intro e
  have h1 := byteR_xor p r r x y
  rw [e, BitVec.xor_self, BitVec.xor_self] at h1
  have h2 := rep_inj0 _ (stepR_inj0 hn p hp) 8 _ h1
  apply h; simpa using h2
theorem runL_cons {n : Nat} (p : BitVec n) (sh : Nat) (r : BitVec n) (x : UInt8) (l : List UInt8) : runL p sh r (x :: l) = runL p sh (byteL p sh r x) l := rfl
theorem runR_cons {n : Nat} (p : BitVec n) (r : BitVec n) (x : UInt8) (l : List UInt8) : runR p r (x :: l) = runR p (byteR p r x) l := rfl
theorem split_at (l : List UInt8) (i : Nat) (hi : i < l.length) (y : UInt8) : l = l.take i ++ l[i] :: l.drop (i + 1) ∧ l.set i y = l.take i ++ y :: l.drop (i + 1) := by
  constructor
  · rw [List.getElem_cons_drop, List.take_append_drop]
  · rw [List.set_eq_take_append_cons_drop, if_pos hi]
theorem runL_tell {n : Nat} (hn : 0 < n) (p : BitVec n) (hp : p.getLsbD 0 = true) (sh : Nat) (r : BitVec n) (l : List UInt8) (i : Nat) (hi : i < l.length) (y : UInt8) (h : byteV n (l[i] ^^^ y) <<< sh ≠ 0#n) :
    runL p sh r l ≠ runL p sh r (l.set i y) := by
  obtain ⟨h1, h2⟩ := split_at l i hi y
  rw [h2]
  conv => lhs; rw [h1]
  rw [runL_append, runL_append, runL_cons, runL_cons]
  exact runL_ne hn p hp sh _ _ _ (byteL_ne2 hn p hp sh _ _ _ h)
theorem runR_append {n : Nat} (p : BitVec n) (r : BitVec n) (a b : List UInt8) : runR p r (a ++ b) = runR p (runR p r a) b := by simp [runR, List.foldl_append]
theorem runR_tell {n : Nat} (hn : 0 < n) (p : BitVec n) (hp : p.msb = true) (r : BitVec n) (l : List UInt8) (i : Nat) (hi : i < l.length) (y : UInt8) (h : byteV n (l[i] ^^^ y) ≠ 0#n) :
    runR p r l ≠ runR p r (l.set i y) := by
  obtain ⟨h1, h2⟩ := split_at l i hi y
  rw [h2]
  conv => lhs; rw [h1]
  rw [runR_append, runR_append, runR_cons, runR_cons]
  exact runR_ne hn p hp _ _ _ (byteR_ne2 hn p hp _ _ _ h)
theorem byteV_ne (n : Nat) (hn : 8 ≤ n) (x : UInt8) (h : x ≠ 0) : byteV n x ≠ 0#n := by
  intro e
  apply h
  have : (byteV n x).toNat = 0 := by rw [e]; simp
  unfold byteV at this
  rw [BitVec.toNat_ofNat, Nat.mod_eq_of_lt (by have := x.toNat_lt; have : 2 ^ 8 ≤ 2 ^ n := Nat.pow_le_pow_right (by omega) hn; omega)] at this
  exact UInt8.toNat_inj.1 (by simpa using this)
theorem byteV16_ne (x : UInt8) (h : x ≠ 0) : byteV 16 x <<< 8 ≠ 0#16 := by
  intro e
  apply h
  have : (byteV 16 x <<< 8).toNat = 0 := by rw [e]; simp
  unfold byteV at this
  have hx := x.toNat_lt
  rw [BitVec.toNat_shiftLeft, BitVec.toNat_ofNat, Nat.mod_eq_of_lt (by omega), Nat.shiftLeft_eq] at this
  exact UInt8.toNat_inj.1 (by simp; omega)
theorem crc8_tell (l : List UInt8) (i : Nat) (hi : i < l.length) (y : UInt8) (h : l[i] ^^^ y ≠ 0) : crc8 l ≠ crc8 (l.set i y) :=
  runL_tell (by omega) _ (by decide) _ _ l i hi y (by simpa using byteV_ne 8 (by omega) _ h)
theorem crc16_tell (l : List UInt8) (i : Nat) (hi : i < l.length) (y : UInt8) (h : l[i] ^^^ y ≠ 0) : crc16 l ≠ crc16 (l.set i y) :=
  runL_tell (by omega) _ (by decide) _ _ l i hi y (byteV16_ne _ h)
theorem crc32_tell (l : List UInt8) (i : Nat) (hi : i < l.length) (y : UInt8) (h : l[i] ^^^ y ≠ 0) : crc32 l ≠ crc32 (l.set i y) := by
  intro e
  unfold crc32 at e
  have e := BitVec.not_inj.1 e
  exact runR_tell (by omega) _ (by decide) _ l i hi y (byteV_ne 32 (by omega) _ h) e

/-- SumsSeal -/
theorem crc8_seal (l : List UInt8) (x : UInt8) (hx : byteV 8 x = crc8 l) : crc8 (l ++ [x]) = 0#8 := by
  unfold crc8 at *
  rw [runL_append, ← hx]
  simp [runL, byteL, rep_zero _ (stepL_zero _)]
theorem low8 : ∀ x : Fin 256, rep (stepL 0x8005#16) 8 (BitVec.ofNat 16 x.val) = BitVec.ofNat 16 x.val <<< 8 := by decide +kernel
theorem crc16_seal (l : List UInt8) (x y : UInt8) (hx : byteV 16 x <<< 8 ^^^ byteV 16 y = crc16 l) : crc16 (l ++ [x, y]) = 0#16 := by
  unfold crc16 at *
  rw [runL_append, ← hx]
  simp only [runL, List.foldl_cons, List.foldl_nil, byteL]
  rw [BitVec.xor_comm (byteV 16 x <<< 8) (byteV 16 y), cancel]
  have := low8 ⟨y.toNat, y.toNat_lt⟩
  simp only [byteV] at *
  rw [this, BitVec.xor_self, rep_zero _ (stepL_zero _)]
theorem crcL_sum {n : Nat} (p : BitVec n) (sh : Nat) (a b : List UInt8) (h : a.length = b.length) : runL p sh 0#n (xorB a b) = runL p sh 0#n a ^^^ runL p sh 0#n b := by
  have := runL_xor p sh a b 0#n 0#n h
  rwa [show (0#n ^^^ 0#n) = 0#n by simp] at this
theorem crc32_sum (a b : List UInt8) (h : a.length = b.length) : crc32 (xorB a b) = crc32 a ^^^ crc32 b ^^^ crc32 (zeros a.length) := by
  unfold crc32
  have h1 := runR_xor 0xEDB88320#32 a b 0xFFFFFFFF#32 0#32 h
  have h2 := runR_xor 0xEDB88320#32 b (zeros a.length) 0xFFFFFFFF#32 0xFFFFFFFF#32 (by simp [zeros, h])
  rw [h, xorB_zeros] at h2
  rw [show (0xFFFFFFFF#32 ^^^ 0xFFFFFFFF#32) = 0#32 by decide] at h2
  rw [show (0xFFFFFFFF#32 ^^^ 0#32) = 0xFFFFFFFF#32 by decide] at h1
  rw [h1, h2, h]
  generalize runR 0xEDB88320#32 0xFFFFFFFF#32 a = x
  generalize runR 0xEDB88320#32 0xFFFFFFFF#32 b = y
  generalize runR 0xEDB88320#32 0xFFFFFFFF#32 (zeros b.length) = z
  apply BitVec.eq_of_getLsbD_eq
  intro i hi
  simp [hi]

/-- the document's way, bit by bit -/
def refL {n : Nat} (p : BitVec n) (r : BitVec n) (b : Bool) : BitVec n := (r <<< 1) ^^^ (if (r.msb ^^ b) then p else 0#n)
def refLs {n : Nat} (p : BitVec n) (x : UInt8) : Nat → BitVec n → BitVec n
  | 0, r => r
  | k + 1, r => refL p (refLs p x k r) (x.toNat.testBit (7 - k))
def refR {n : Nat} (p : BitVec n) (r : BitVec n) (b : Bool) : BitVec n := (r >>> 1) ^^^ (if (r.getLsbD 0 ^^ b) then p else 0#n)
def refRs {n : Nat} (p : BitVec n) (x : UInt8) : Nat → BitVec n → BitVec n
  | 0, r => r
  | k + 1, r => refR p (refRs p x k r) (x.toNat.testBit k)

theorem refLs_eq {n : Nat} (hn : 8 ≤ n) (p : BitVec n) (x : UInt8) (r : BitVec n) : ∀ k, k ≤ 8 → rep (stepL p) k (r ^^^ (byteV n x <<< (n - 8))) = refLs p x k r ^^^ (byteV n x <<< (n - 8 + k)) := by
  intro k
  induction k with
  | zero => intro _; rfl
  | succ k ih =>
    intro hk
    simp only [rep, refLs]
    rw [ih (by omega), stepL_xor]
    unfold refL
    have hm : (byteV n x <<< (n - 8 + k)).msb = x.toNat.testBit (7 - k) := by
      rw [BitVec.msb_eq_getLsbD_last, BitVec.getLsbD_shiftLeft, byteV, BitVec.getLsbD_ofNat]
      have e : n - 1 - (n - 8 + k) = 7 - k := by omega
      rw [e]
      have h1 : n - 1 < n := by omega
      have h2 : ¬ (n - 1 < n - 8 + k) := by omega
      have h3 : 7 - k < n := by omega
      simp [h1, h2, h3]
    have hs : stepL p (byteV n x <<< (n - 8 + k)) = (byteV n x <<< (n - 8 + (k + 1))) ^^^ (if x.toNat.testBit (7 - k) then p else 0#n) := by
      unfold stepL
      rw [hm, ← BitVec.shiftLeft_add]; rfl
    rw [hs, pick_xor]
    unfold stepL
    rw [xor4, BitVec.xor_assoc, BitVec.xor_comm (byteV n x <<< (n - 8 + (k + 1))), ← BitVec.xor_assoc]
theorem byteL_ref {n : Nat} (hn : 8 ≤ n) (p : BitVec n) (x : UInt8) (r : BitVec n) : byteL p (n - 8) r x = refLs p x 8 r := by
  unfold byteL
  rw [refLs_eq hn p x r 8 (by omega)]
  have : byteV n x <<< (n - 8 + 8) = 0#n := by
    rw [show n - 8 + 8 = n by omega]
    simp
  rw [this, xor_zero']
theorem refRs_eq {n : Nat} (hn : 8 ≤ n) (p : BitVec n) (x : UInt8) (r : BitVec n) : ∀ k, k ≤ 8 → rep (stepR p) k (r ^^^ byteV n x) = refRs p x k r ^^^ (byteV n x >>> k) := by
  intro k
  induction k with
  | zero => intro _; simp [rep, refRs]
  | succ k ih =>
    intro hk
    simp only [rep, refRs]
    rw [ih (by omega), stepR_xor]
    have hm : (byteV n x >>> k).getLsbD 0 = x.toNat.testBit k := by
      rw [BitVec.getLsbD_ushiftRight, byteV, BitVec.getLsbD_ofNat]
      simp
      intro; omega
    have hs : stepR p (byteV n x >>> k) = (byteV n x >>> (k + 1)) ^^^ (if x.toNat.testBit k then p else 0#n) := by
      unfold stepR
      rw [hm, ← BitVec.shiftRight_add]
    unfold refR
    rw [hs, pick_xor]
    unfold stepR
    rw [xor4, BitVec.xor_assoc, BitVec.xor_comm (byteV n x >>> (k + 1)), ← BitVec.xor_assoc]
theorem byteR_ref {n : Nat} (hn : 8 ≤ n) (p : BitVec n) (x : UInt8) (r : BitVec n) : byteR p r x = refRs p x 8 r := by
  unfold byteR
  rw [refRs_eq hn p x r 8 (by omega)]
  have : byteV n x >>> 8 = 0#n := by
    apply BitVec.eq_of_getLsbD_eq
    intro i hi
    rw [BitVec.getLsbD_ushiftRight, byteV, BitVec.getLsbD_ofNat]
    have hx := x.toNat_lt
    have : x.toNat.testBit (8 + i) = false := Nat.testBit_lt_two_pow (by have : 2 ^ 8 ≤ 2 ^ (8 + i) := Nat.pow_le_pow_right (by omega) (by omega); omega)
    simp [this]
  rw [this, xor_zero']
end Go.Proofs.Ytoompglghjpapaa.Crc
