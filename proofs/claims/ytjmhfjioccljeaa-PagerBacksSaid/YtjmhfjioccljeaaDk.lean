/-
  Plain law of a disk: what is read, what lasts, which sectors are unsynced.
-/
import Derived.Test.YtjmhfjioccljeaaBase
namespace Go.Proofs.Ytjmhfjioccljeaa
set_option linter.unusedVariables false
set_option linter.unusedSimpArgs false

/-- a disk: what is read, what lasts, which sectors are unsynced -/
structure Dk where
  rd : List UInt8
  la : List UInt8
  nw : List Bool
/-- sector s of a row of bytes -/
def sec (l : List UInt8) (s : Nat) : List UInt8 := (l.drop (128 * s)).take 128
/-- b laid over l from off on -/
def putAt (l : List UInt8) (off : Nat) (b : List UInt8) : List UInt8 := l.take off ++ b ++ l.drop (off + b.length)
/-- do n bytes from off on touch sector s -/
def touch (off n s : Nat) : Bool := decide (0 < n ∧ off / 128 ≤ s ∧ 128 * s < off + n)
/-- is sector s unsynced -/
def Dk.new (d : Dk) (s : Nat) : Bool := d.nw.getD s false
structure Dk.Ok (d : Dk) : Prop where
  rd : d.rd.length = 128 * d.nw.length
  la : d.la.length = 128 * d.nw.length
  eq : ∀ s, s < d.nw.length → d.new s = false → sec d.rd s = sec d.la s
def zeroB (n : Nat) : List UInt8 := List.replicate n 0
def Dk.fresh (n : Nat) : Dk := ⟨zeroB (128 * n), zeroB (128 * n), List.replicate n false⟩
def Dk.size (d : Dk) : Nat := d.rd.length
def Dk.write (d : Dk) (off : Nat) (b : List UInt8) : Dk := ⟨putAt d.rd off b, d.la, (List.range d.nw.length).map fun s => d.new s || touch off b.length s⟩
def Dk.sync (d : Dk) : Dk := ⟨d.rd, d.rd, List.replicate d.nw.length false⟩
def xorAt (l : List UInt8) (off : Nat) (m : UInt8) : List UInt8 := l.set off (l.getD off 0 ^^^ m)
def Dk.rot (d : Dk) (off : Nat) (m : UInt8) : Dk := ⟨xorAt d.rd off m, xorAt d.la off m, d.nw⟩
def Dk.uns (d : Dk) : List Nat := (List.range d.nw.length).filter d.new
/-- of each sector a's or b's -/
def blend (n : Nat) (c : Nat → Bool) (a b : List UInt8) : List UInt8 := (List.range n).flatMap fun s => if c s then sec a s else sec b s
/-- is pick k odd -/
def oddAt (picks : List Int) (k : Nat) : Bool := decide (k < picks.length ∧ picks.getD k 0 % 2 ≠ 0)
/-- how many of the first s sectors are unsynced -/
def Dk.cnt (d : Dk) (s : Nat) : Nat := (d.nw.take s).count true
/-- what is there behind a crash, the picks from at on -/
def Dk.crashed (d : Dk) (picks : List Int) (at_ : Nat) : List UInt8 := blend d.nw.length (fun s => d.new s && !oddAt picks (at_ + d.cnt s)) d.la d.rd
def Dk.crash (d : Dk) (picks : List Int) (at_ : Nat) : Dk := ⟨d.crashed picks at_, d.crashed picks at_, List.replicate d.nw.length false⟩
def Dk.all (d : Dk) : Nat := d.nw.count true

theorem zeroB_length (n : Nat) : (zeroB n).length = n := by simp [zeroB]
theorem zeroB_get {n i : Nat} (h : i < n) : (zeroB n)[i]? = some 0 := by simp [zeroB, h]
theorem sec_length {l : List UInt8} {n s : Nat} (h : l.length = 128 * n) (hs : s < n) : (sec l s).length = 128 := by
  simp [sec]; omega
theorem blend_length {n : Nat} {c : Nat → Bool} {a b : List UInt8} {N : Nat} (ha : a.length = 128 * N) (hb : b.length = 128 * N) (hn : n ≤ N) : (blend n c a b).length = 128 * n := by
  induction n with
  | zero => rfl
  | succ n ih =>
    have hl : (if c n = true then sec a n else sec b n).length = 128 := by
      split
      · exact sec_length ha (by omega)
      · exact sec_length hb (by omega)
    unfold blend at ih ⊢
    rw [List.range_succ, List.flatMap_append, List.length_append, ih (by omega)]
    simp only [List.flatMap_cons, List.flatMap_nil, List.append_nil, hl]
    omega
theorem sec_append_left {a b : List UInt8} {n s : Nat} (ha : a.length = 128 * n) (hs : s < n) : sec (a ++ b) s = sec a s := by
  unfold sec
  rw [List.drop_append_of_le_length (by omega), List.take_append_of_le_length (by simp; omega)]
theorem sec_append_at {a b : List UInt8} {n : Nat} (ha : a.length = 128 * n) (hb : b.length = 128) : sec (a ++ b) n = b := by
  unfold sec
  rw [← ha, List.drop_left, List.take_of_length_le (by omega)]
theorem sec_blend {n : Nat} {c : Nat → Bool} {a b : List UInt8} {N : Nat} (ha : a.length = 128 * N) (hb : b.length = 128 * N) (hn : n ≤ N) {s : Nat} (hs : s < n) :
    sec (blend n c a b) s = if c s then sec a s else sec b s := by
  induction n with
  | zero => omega
  | succ n ih =>
    have hl : (if c n = true then sec a n else sec b n).length = 128 := by
      split
      · exact sec_length ha (by omega)
      · exact sec_length hb (by omega)
    have hbl := blend_length (c := c) ha hb (show n ≤ N by omega)
    have e : blend (n + 1) c a b = blend n c a b ++ (if c n = true then sec a n else sec b n) := by
      unfold blend
      rw [List.range_succ, List.flatMap_append]; simp
    rw [e]
    by_cases h : s < n
    · rw [sec_append_left hbl h, ih (by omega) h]
    · have : s = n := by omega
      subst this
      rw [sec_append_at hbl hl]
/-- two rows with the same sectors are one -/
theorem ext_sec {a b : List UInt8} {n : Nat} (ha : a.length = 128 * n) (hb : b.length = 128 * n) (h : ∀ s, s < n → sec a s = sec b s) : a = b := by
  apply List.ext_getElem (by omega)
  intro i h1 h2
  have hq := h (i / 128) (by omega)
  have e : ∀ l : List UInt8, ∀ hl : i < l.length, (sec l (i / 128))[i % 128]? = some l[i] := by
    intro l hl
    unfold sec
    rw [List.getElem?_take, if_pos (by omega), List.getElem?_drop, List.getElem?_eq_getElem (by omega)]
    congr 2; omega
  have e1 := e a h1
  rw [hq, e b h2] at e1
  exact (Option.some.inj e1).symm
theorem blend_false {l m : List UInt8} {n : Nat} (hl : l.length = 128 * n) (hm : m.length = 128 * n) : blend n (fun _ => false) m l = l :=
  ext_sec (blend_length hm hl (Nat.le_refl _)) hl fun s hs => by rw [sec_blend hm hl (Nat.le_refl _) hs]; rfl
theorem blend_congr {n : Nat} {c c' : Nat → Bool} {a b : List UInt8} (h : ∀ s, s < n → c s = c' s) : blend n c a b = blend n c' a b := by
  unfold blend
  rw [List.flatMap_def, List.flatMap_def]
  congr 1
  apply List.map_congr_left
  intro s hs
  rw [h s (List.mem_range.1 hs)]
theorem putAt_length {l b : List UInt8} {off : Nat} (h : off + b.length ≤ l.length) : (putAt l off b).length = l.length := by simp [putAt]; omega
theorem putAt_get {l b : List UInt8} {off i : Nat} (h : off + b.length ≤ l.length) : (putAt l off b)[i]? = if off ≤ i ∧ i < off + b.length then b[i - off]? else l[i]? := by
  unfold putAt
  by_cases h1 : i < off
  · rw [if_neg (by omega), List.append_assoc, List.getElem?_append_left (by simp; omega), List.getElem?_take, if_pos h1]
  · by_cases h2 : i < off + b.length
    · rw [if_pos (by omega), List.append_assoc, List.getElem?_append_right (by simp; omega), List.getElem?_append_left (by simp; omega)]
      congr 1; simp; omega
    · rw [if_neg (by omega), List.getElem?_append_right (by simp; omega), List.getElem?_drop]
      congr 1; simp; omega
theorem sec_get (l : List UInt8) (s i : Nat) (hi : i < 128) : (sec l s)[i]? = l[128 * s + i]? := by
  unfold sec
  rw [List.getElem?_take, if_pos hi, List.getElem?_drop]
theorem sec_ext {a b : List UInt8} {s t : Nat} (h : ∀ i, i < 128 → a[128 * s + i]? = b[128 * t + i]?) : sec a s = sec b t := by
  apply List.ext_getElem?
  intro i
  by_cases hi : i < 128
  · rw [sec_get _ _ _ hi, sec_get _ _ _ hi, h i hi]
  · rw [List.getElem?_eq_none (by simp [sec]; omega), List.getElem?_eq_none (by simp [sec]; omega)]
/-- a sector that isn't touched stays -/
theorem sec_putAt_other {l b : List UInt8} {off s : Nat} (h : off + b.length ≤ l.length) (ht : touch off b.length s = false) : sec (putAt l off b) s = sec l s := by
  refine sec_ext fun i hi => ?_
  rw [putAt_get h, if_neg]
  unfold touch at ht
  simp only [decide_eq_false_iff_not] at ht
  omega
/-- a whole sector laid -/
theorem sec_putAt_sec {l b : List UInt8} {s : Nat} (h : 128 * s + 128 ≤ l.length) (hb : b.length = 128) : sec (putAt l (128 * s) b) s = b := by
  apply List.ext_getElem?
  intro i
  by_cases hi : i < 128
  · rw [sec_get _ _ _ hi, putAt_get (by omega), if_pos (by omega)]
    congr 1; omega
  · rw [List.getElem?_eq_none (by simp [sec]; omega), List.getElem?_eq_none (by omega)]
theorem putAt_sec {l b : List UInt8} {n s t : Nat} (hl : l.length = 128 * n) (hs : s < n) (hb : b.length = 128) (ht : t < n) : sec (putAt l (128 * s) b) t = if t = s then b else sec l t := by
  by_cases h : t = s
  · subst h; rw [if_pos rfl]; exact sec_putAt_sec (by omega) hb
  · rw [if_neg h]
    exact sec_putAt_other (by omega) (by unfold touch; simp only [decide_eq_false_iff_not]; omega)
/-- one sector more -/
theorem blend_put {n : Nat} {c : Nat → Bool} {a b : List UInt8} (ha : a.length = 128 * n) (hb : b.length = 128 * n) {s : Nat} (hs : s < n) :
    putAt (blend n c a b) (128 * s) (sec a s) = blend n (fun t => c t || decide (t = s)) a b := by
  have h1 := blend_length (c := c) ha hb (Nat.le_refl n)
  have h2 := blend_length (c := fun t => c t || decide (t = s)) ha hb (Nat.le_refl n)
  have h3 := sec_length ha hs
  refine ext_sec (n := n) (by rw [putAt_length (by omega)]; omega) h2 fun t ht => ?_
  rw [putAt_sec h1 hs h3 ht, sec_blend ha hb (Nat.le_refl n) ht, sec_blend ha hb (Nat.le_refl n) ht]
  by_cases h : t = s
  · subst h; simp
  · simp [h]
theorem fresh_ok (n : Nat) : (Dk.fresh n).Ok := ⟨by simp [Dk.fresh, zeroB], by simp [Dk.fresh, zeroB], fun _ _ _ => rfl⟩
theorem fresh_size (n : Nat) : (Dk.fresh n).size = 128 * n := by simp [Dk.fresh, zeroB, Dk.size]
theorem write_nw (d : Dk) (off : Nat) (b : List UInt8) : (d.write off b).nw.length = d.nw.length := by simp [Dk.write]
theorem write_new (d : Dk) (off : Nat) (b : List UInt8) (s : Nat) (hs : s < d.nw.length) : (d.write off b).new s = (d.new s || touch off b.length s) := by
  simp [Dk.write, Dk.new, hs]
theorem write_ok {d : Dk} (h : d.Ok) {off : Nat} {b : List UInt8} (hb : off + b.length ≤ d.size) : (d.write off b).Ok := by
  unfold Dk.size at hb
  refine ⟨?_, ?_, fun s hs hn => ?_⟩
  · rw [write_nw, ← h.rd]; exact putAt_length hb
  · rw [write_nw]; exact h.la
  · rw [write_nw] at hs
    rw [write_new _ _ _ _ hs, Bool.or_eq_false_iff] at hn
    show sec (putAt d.rd off b) s = sec d.la s
    rw [sec_putAt_other hb hn.2]
    exact h.eq s hs hn.1
theorem write_size (d : Dk) {off : Nat} {b : List UInt8} (hb : off + b.length ≤ d.size) : (d.write off b).size = d.size := putAt_length hb
theorem sync_ok {d : Dk} (h : d.Ok) : d.sync.Ok := ⟨by simp [Dk.sync, h.rd], by simp [Dk.sync, h.rd], fun _ _ _ => rfl⟩
theorem sync_new (d : Dk) (s : Nat) : d.sync.new s = false := by simp [Dk.sync, Dk.new, List.getD, List.getElem?_replicate]; split <;> simp
theorem xorAt_length (l : List UInt8) (off : Nat) (m : UInt8) : (xorAt l off m).length = l.length := by simp [xorAt]
theorem xorAt_get (l : List UInt8) (off : Nat) (m : UInt8) (i : Nat) : (xorAt l off m)[i]? = if i = off then l[i]?.map (· ^^^ m) else l[i]? := by
  unfold xorAt
  rw [List.getElem?_set]
  by_cases h : i = off
  · subst h
    by_cases hi : i < l.length
    · simp [hi]
    · simp [hi]
  · rw [if_neg h, if_neg (by omega)]
theorem rot_ok {d : Dk} (h : d.Ok) (off : Nat) (m : UInt8) : (d.rot off m).Ok := by
  refine ⟨?_, ?_, fun s hs hn => ?_⟩
  · show (xorAt d.rd off m).length = _; rw [xorAt_length]; exact h.rd
  · show (xorAt d.la off m).length = _; rw [xorAt_length]; exact h.la
  · show sec (xorAt d.rd off m) s = sec (xorAt d.la off m) s
    have he := h.eq s hs hn
    refine sec_ext fun i hi => ?_
    have e : d.rd[128 * s + i]? = d.la[128 * s + i]? := by rw [← sec_get _ _ _ hi, ← sec_get _ _ _ hi, he]
    rw [xorAt_get, xorAt_get, e]
theorem crashed_length {d : Dk} (h : d.Ok) (picks : List Int) (a : Nat) : (d.crashed picks a).length = 128 * d.nw.length := blend_length h.la h.rd (Nat.le_refl _)
theorem crash_ok {d : Dk} (h : d.Ok) (picks : List Int) (a : Nat) : (d.crash picks a).Ok :=
  ⟨by simp [Dk.crash, crashed_length h], by simp [Dk.crash, crashed_length h], fun _ _ _ => rfl⟩
theorem crash_new (d : Dk) (picks : List Int) (a s : Nat) : (d.crash picks a).new s = false := by simp [Dk.crash, Dk.new, List.getD, List.getElem?_replicate]; split <;> simp
theorem cnt_succ (d : Dk) (s : Nat) (hs : s < d.nw.length) : d.cnt (s + 1) = d.cnt s + (if d.new s then 1 else 0) := by
  unfold Dk.cnt Dk.new
  rw [List.take_succ_eq_append_getElem hs, List.count_append, getD_eq _ _ _ hs]
  cases d.nw[s] <;> simp
theorem cnt_all (d : Dk) : d.cnt d.nw.length = d.all := by simp [Dk.cnt, Dk.all]
/-- the reference's way: into what lasts go the sectors with an odd pick -/
theorem crashed_other {d : Dk} (h : d.Ok) (picks : List Int) (a : Nat) : blend d.nw.length (fun s => d.new s && oddAt picks (a + d.cnt s)) d.rd d.la = d.crashed picks a := by
  refine ext_sec (blend_length h.rd h.la (Nat.le_refl _)) (crashed_length h picks a) fun s hs => ?_
  unfold Dk.crashed
  rw [sec_blend h.rd h.la (Nat.le_refl _) hs, sec_blend h.la h.rd (Nat.le_refl _) hs]
  cases hn : d.new s
  · simp [h.eq s hs hn]
  · cases oddAt picks (a + d.cnt s) <;> simp
end Go.Proofs.Ytjmhfjioccljeaa
