/-
  The plain law of rows of items: how an item stands as bytes, and how it is read back.
-/
import Derived.WalkKit
namespace Go.Proofs.Ytikiahonhbpchaa.Fld
set_option linter.unusedVariables false
set_option linter.unusedSimpArgs false

/-- an item: its kind, its number, its text -/
structure It where
  kind : Int
  num : Int
  str : List UInt8

/-- how many bytes a number from 0 on has -/
def bytesN (m : Nat) : Nat := if h : m < 256 then 1 else bytesN (m / 256) + 1
termination_by m
decreasing_by omega
/-- the bytes of a number from 0 on, the highest first -/
def big (m : Nat) : List UInt8 := if h : m < 256 then [UInt8.ofNat m] else big (m / 256) ++ [UInt8.ofNat (m % 256)]
termination_by m
decreasing_by omega
/-- the number without its sign -/
def mag (n : Int) : Nat := if n < 0 then (-n - 1).toNat else n.toNat
def width (n : Int) : Nat := if 0 ≤ n ∧ n < 64 then 0 else bytesN (mag n)
def four (n : Nat) : List UInt8 := [UInt8.ofNat (n / 16777216), UInt8.ofNat (n / 65536), UInt8.ofNat (n / 256), UInt8.ofNat n]
def encNum (n : Int) : List UInt8 :=
  if 0 ≤ n ∧ n < 64 then [UInt8.ofNat n.toNat] else UInt8.ofNat (63 + bytesN (mag n) + (if n < 0 then 8 else 0)) :: big (mag n)
def encStr (s : List UInt8) : List UInt8 :=
  if s.length < 127 then UInt8.ofNat (128 + s.length) :: s else (255 :: four s.length) ++ s
def enc (i : It) : List UInt8 := if i.kind = 2 then encStr i.str else encNum i.num
def encs (l : List It) : List UInt8 := l.flatMap enc
/-- the error of an item -/
def check (i : It) : Int :=
  if i.kind = 2 ∧ 50000 < i.str.length then 14 else if (i.kind = 1 ∧ i.str = []) ∨ (i.kind = 2 ∧ i.num = 0) then 0 else 2
def worst (l : List It) : Int := l.foldl (fun e i => max e (check i)) 0
def none_ : It := ⟨0, 0, []⟩
/-- the number of some bytes -/
def val (l : List UInt8) : Nat := l.foldl (fun n x => n * 256 + x.toNat) 0
def runP (b : List UInt8) (k n : Nat) : It × Nat × Int :=
  if b.length < k + n then (none_, 0, 10) else (⟨2, 0, (b.drop k).take n⟩, k + n, 0)
def wideP (b : List UInt8) (h : Nat) : It × Nat × Int :=
  let k := h % 8 + 1
  if h / 16 % 4 ≠ 0 then (none_, 0, 2)
  else if b.length < 1 + k then (none_, 0, 10)
  else
    let m := val ((b.drop 1).take k)
    if 2 ^ 63 ≤ m then (none_, 0, 2)
    else
      let n : Int := if h / 8 % 2 = 1 then -(m : Int) - 1 else m
      if width n ≠ k then (none_, 0, 2) else (⟨1, n, []⟩, 1 + k, 0)
def firstP : List UInt8 → It × Nat × Int
  | [] => (none_, 0, 10)
  | x :: t =>
    let b := x :: t
    let h := x.toNat
    if h < 64 then (⟨1, h, []⟩, 1, 0)
    else if h < 128 then wideP b h
    else if h < 255 then runP b 1 (h - 128)
    else if b.length < 5 then (none_, 0, 10)
    else
      let n := val ((b.drop 1).take 4)
      if n < 127 ∨ 50000 < n then (none_, 0, 2) else runP b 5 n

theorem bytesN_pos (m : Nat) : 1 ≤ bytesN m := by unfold bytesN; split <;> omega
theorem big_length (m : Nat) : (big m).length = bytesN m := by
  induction m using Nat.strongRecOn with
  | ind m ih =>
    unfold big bytesN
    split
    · rfl
    · rw [List.length_append, ih _ (by omega)]; rfl
theorem val_snoc (l : List UInt8) (x : UInt8) : val (l ++ [x]) = val l * 256 + x.toNat := by simp [val]
theorem val_big (m : Nat) : val (big m) = m := by
  induction m using Nat.strongRecOn with
  | ind m ih =>
    unfold big
    split
    · next h => simp [val]; omega
    · rw [val_snoc, ih _ (by omega)]
      have e : (UInt8.ofNat (m % 256)).toNat = m % 256 := by simp
      rw [e]; omega
theorem bytesN_lt (m : Nat) : m < 256 ^ bytesN m := by
  induction m using Nat.strongRecOn with
  | ind m ih =>
    unfold bytesN
    split
    · next h => simpa using h
    · have := ih (m / 256) (by omega)
      rw [Nat.pow_succ]; omega
theorem bytesN_le {m k : Nat} (hk : 1 ≤ k) (h : m < 256 ^ k) : bytesN m ≤ k := by
  induction m using Nat.strongRecOn generalizing k with
  | ind m ih =>
    unfold bytesN
    split
    · omega
    · next hm =>
      cases k with
      | zero => omega
      | succ k =>
        cases k with
        | zero => simp at h; omega
        | succ k =>
          have := ih (m / 256) (by omega) (k := k + 1) (by omega) (by rw [Nat.pow_succ] at h; omega)
          omega
/-- the last bytes of a number, from its k-th byte from behind on -/
theorem big_of_val (l : List UInt8) (h : bytesN (val l) = l.length) : big (val l) = l := by
  have key : ∀ n (l : List UInt8), l.length = n → bytesN (val l) = l.length → big (val l) = l := by
    intro n
    induction n with
    | zero => intro l hl h; have := bytesN_pos (val l); omega
    | succ n ih =>
      intro l hl h
      obtain ⟨l', x, rfl⟩ : ∃ l' x, l = l' ++ [x] := by
        rcases List.eq_nil_or_concat l with e | ⟨l', x, e⟩
        · subst e; simp at hl
        · exact ⟨l', x, by simpa using e⟩
      rw [val_snoc] at h ⊢
      have hx := x.toNat_lt
      rw [List.length_append] at h hl
      simp only [List.length_singleton] at h hl
      have hm : (val l' * 256 + x.toNat) % 256 = x.toNat := by omega
      have hd : (val l' * 256 + x.toNat) / 256 = val l' := by omega
      rw [big]
      rw [bytesN] at h
      split
      · next hlt =>
        rw [dif_pos hlt] at h
        have h0 : l' = [] := List.eq_nil_of_length_eq_zero (by omega)
        subst h0
        have hv : val ([] : List UInt8) = 0 := rfl
        rw [hv]; simp
      · next hlt =>
        rw [dif_neg hlt, hd] at h
        rw [hd, hm, ih l' (by omega) (by omega)]
        simp
  exact key _ l rfl h

theorem enc_number {i : It} (h : i.kind = 1) : enc i = encNum i.num := by unfold enc; rw [if_neg (by omega)]
theorem mag_lt {n : Int} (h : -9223372036854775808 ≤ n ∧ n < 9223372036854775808) : mag n < 2 ^ 63 := by unfold mag; split <;> omega
theorem bytesN_le8 {m : Nat} (h : m < 2 ^ 64) : bytesN m ≤ 8 := bytesN_le (by omega) (by have e : 256 ^ 8 = 2 ^ 64 := by decide
                                                                                         rw [e]; exact h)
theorem encNum_length (n : Int) : (encNum n).length = 1 + width n := by
  unfold encNum width
  split
  · rfl
  · simp [big_length]; omega
theorem encStr_length (s : List UInt8) : (encStr s).length = if s.length < 127 then 1 + s.length else 5 + s.length := by
  unfold encStr
  split
  · simp; omega
  · simp [four]; omega
theorem enc_pos (i : It) : 0 < (enc i).length := by
  unfold enc
  split
  · rw [encStr_length]; split <;> omega
  · rw [encNum_length]; omega
theorem val_four (n : Nat) (h : n < 2 ^ 32) : val (four n) = n := by
  simp only [val, four, List.foldl, UInt8.toNat_ofNat']; omega
/-- what was laid is read -/
theorem firstP_num (n : Int) (h : -9223372036854775808 ≤ n ∧ n < 9223372036854775808) (t : List UInt8) : firstP (encNum n ++ t) = (⟨1, n, []⟩, (encNum n).length, 0) := by
  rw [encNum_length]
  unfold encNum width
  by_cases h0 : 0 ≤ n ∧ n < 64
  · rw [if_pos h0, if_pos h0]
    have e : (UInt8.ofNat n.toNat).toNat = n.toNat := by simp; omega
    simp only [List.cons_append, List.nil_append, firstP, e]
    rw [if_pos (by omega)]
    have : ((n.toNat : Nat) : Int) = n := by omega
    rw [this]
  · rw [if_neg h0, if_neg h0]
    have hm := mag_lt h
    have h8 := bytesN_le8 (m := mag n) (by omega)
    have h1 := bytesN_pos (mag n)
    have hs : (63 + bytesN (mag n) + (if n < 0 then 8 else 0)) < 128 := by split <;> omega
    have e : (UInt8.ofNat (63 + bytesN (mag n) + (if n < 0 then 8 else 0))).toNat = 63 + bytesN (mag n) + (if n < 0 then 8 else 0) := by
      rw [UInt8.toNat_ofNat']; omega
    simp only [List.cons_append, firstP, e]
    rw [if_neg (by split <;> omega), if_pos hs]
    have hk : (63 + bytesN (mag n) + (if n < 0 then 8 else 0)) % 8 + 1 = bytesN (mag n) := by split <;> omega
    unfold wideP
    simp only [hk]
    rw [if_neg (by split <;> omega), if_neg (by simp [big_length]; omega)]
    have hv : ((UInt8.ofNat (63 + bytesN (mag n) + if n < 0 then 8 else 0) :: (big (mag n) ++ t)).drop 1).take (bytesN (mag n)) = big (mag n) := by
      simp only [List.drop_succ_cons, List.drop_zero]
      rw [List.take_append_of_le_length (by rw [big_length]; exact Nat.le_refl _), List.take_of_length_le (by rw [big_length]; exact Nat.le_refl _)]
    rw [hv, val_big, if_neg (by omega)]
    have hn : (if (63 + bytesN (mag n) + if n < 0 then 8 else 0) / 8 % 2 = 1 then -(mag n : Int) - 1 else (mag n : Int)) = n := by
      unfold mag
      by_cases hneg : n < 0
      · rw [if_pos hneg, if_pos hneg, if_pos (by unfold mag at h8 h1; rw [if_pos hneg] at h8 h1; omega)]; omega
      · rw [if_neg hneg, if_neg hneg, if_neg (by unfold mag at h8 h1; rw [if_neg hneg] at h8 h1; omega)]; omega
    rw [hn]
    have hw : width n = bytesN (mag n) := by unfold width; rw [if_neg h0]
    rw [hw, if_neg (by simp)]
theorem firstP_str (s : List UInt8) (h : s.length ≤ 50000) (t : List UInt8) : firstP (encStr s ++ t) = (⟨2, 0, s⟩, (encStr s).length, 0) := by
  rw [encStr_length]
  unfold encStr
  by_cases h0 : s.length < 127
  · rw [if_pos h0, if_pos h0]
    have e : (UInt8.ofNat (128 + s.length)).toNat = 128 + s.length := by rw [UInt8.toNat_ofNat']; omega
    simp only [List.cons_append, firstP, e]
    rw [if_neg (by omega), if_neg (by omega), if_pos (by omega)]
    unfold runP
    have e2 : 128 + s.length - 128 = s.length := by omega
    rw [e2, if_neg (by simp; omega)]
    simp
  · rw [if_neg h0, if_neg h0]
    have e : (255 : UInt8).toNat = 255 := rfl
    simp only [List.cons_append, List.append_assoc, firstP, e]
    rw [if_neg (by omega), if_neg (by omega), if_neg (by omega), if_neg (by simp [four])]
    have hv : ((255 :: (four s.length ++ (s ++ t))).drop 1).take 4 = four s.length := by simp [four]
    rw [hv, val_four _ (by omega), if_neg (by omega)]
    unfold runP
    rw [if_neg (by simp [four]; omega)]
    have hd : (255 :: (four s.length ++ (s ++ t))).drop 5 = s ++ t := by simp [four]
    rw [hd]; simp
theorem take_cons_append {α : Type} (x : α) (l t : List α) (k : Nat) (h : k ≤ l.length) : ((x :: (l ++ t)).drop 1).take k = l.take k := by simp [List.take_append_of_le_length h]

/-- a beginning of an item's bytes ends too soon -/
theorem firstP_short_num (n : Int) (h : -9223372036854775808 ≤ n ∧ n < 9223372036854775808) (k : Nat) (hk : k < (encNum n).length) : firstP ((encNum n).take k) = (none_, 0, 10) := by
  rw [encNum_length] at hk
  cases k with
  | zero => rfl
  | succ k =>
    unfold width at hk
    unfold encNum
    by_cases h0 : 0 ≤ n ∧ n < 64
    · rw [if_pos h0] at hk; omega
    · rw [if_neg h0] at hk ⊢
      have hm := mag_lt h
      have h8 := bytesN_le8 (m := mag n) (by omega)
      have h1 := bytesN_pos (mag n)
      have hs : (63 + bytesN (mag n) + (if n < 0 then 8 else 0)) < 128 := by split <;> omega
      have e : (UInt8.ofNat (63 + bytesN (mag n) + (if n < 0 then 8 else 0))).toNat = 63 + bytesN (mag n) + (if n < 0 then 8 else 0) := by
        rw [UInt8.toNat_ofNat']; omega
      simp only [List.take_succ_cons, firstP, e]
      rw [if_neg (by split <;> omega), if_pos hs]
      have hk' : (63 + bytesN (mag n) + (if n < 0 then 8 else 0)) % 8 + 1 = bytesN (mag n) := by split <;> omega
      unfold wideP
      simp only [hk']
      rw [if_neg (by split <;> omega), if_pos (by simp [big_length]; omega)]
theorem firstP_short_str (s : List UInt8) (h : s.length ≤ 50000) (k : Nat) (hk : k < (encStr s).length) : firstP ((encStr s).take k) = (none_, 0, 10) := by
  rw [encStr_length] at hk
  cases k with
  | zero => rfl
  | succ k =>
    unfold encStr
    by_cases h0 : s.length < 127
    · rw [if_pos h0] at hk ⊢
      have e : (UInt8.ofNat (128 + s.length)).toNat = 128 + s.length := by rw [UInt8.toNat_ofNat']; omega
      simp only [List.take_succ_cons, firstP, e]
      rw [if_neg (by omega), if_neg (by omega), if_pos (by omega)]
      unfold runP
      rw [if_pos (by simp; omega)]
    · rw [if_neg h0] at hk ⊢
      have e : (255 : UInt8).toNat = 255 := rfl
      simp only [List.cons_append, List.take_succ_cons, firstP, e]
      rw [if_neg (by omega), if_neg (by omega), if_neg (by omega)]
      have hl : (List.take k (four s.length ++ s)).length = k := by simp [four]; omega
      by_cases h5 : k < 4
      · rw [if_pos (by simp [hl]; omega)]
      · rw [if_neg (by simp [hl]; omega)]
        have hv : ((255 :: List.take k (four s.length ++ s)).drop 1).take 4 = four s.length := by
          simp only [List.drop_succ_cons, List.drop_zero, List.take_take]
          rw [Nat.min_eq_left (by omega)]
          simp [four]
        rw [hv, val_four _ (by omega), if_neg (by omega)]
        unfold runP
        rw [if_pos (by simp [hl]; omega)]
/-- an item that Row takes -/
def Good (i : It) : Prop := check i = 0
theorem good_cases {i : It} (h : Good i) : (i.kind = 1 ∧ i.str = []) ∨ (i.kind = 2 ∧ i.num = 0 ∧ i.str.length ≤ 50000) := by
  unfold Good check at h
  split at h
  · omega
  · split at h
    · next h1 h2 =>
      rcases h2 with h2 | h2
      · exact .inl h2
      · exact .inr ⟨h2.1, h2.2, by omega⟩
    · omega
def Ranged (i : It) : Prop := -9223372036854775808 ≤ i.num ∧ i.num < 9223372036854775808
theorem firstP_enc {i : It} (h : Good i) (hr : Ranged i) (t : List UInt8) : firstP (enc i ++ t) = (i, (enc i).length, 0) := by
  rcases good_cases h with ⟨h1, h2⟩ | ⟨h1, h2, h3⟩
  · rw [enc_number h1, firstP_num _ hr]
    obtain ⟨a, b, c⟩ := i; simp only at h1 h2; subst h1 h2; rfl
  · have e : enc i = encStr i.str := by unfold enc; rw [if_pos h1]
    rw [e, firstP_str _ h3]
    obtain ⟨a, b, c⟩ := i; simp only at h1 h2; subst h1 h2; rfl
theorem firstP_short {i : It} (h : Good i) (hr : Ranged i) (k : Nat) (hk : k < (enc i).length) : firstP ((enc i).take k) = (none_, 0, 10) := by
  rcases good_cases h with ⟨h1, h2⟩ | ⟨h1, h2, h3⟩
  · rw [enc_number h1] at hk ⊢
    exact firstP_short_num _ hr _ hk
  · have e : enc i = encStr i.str := by unfold enc; rw [if_pos h1]
    rw [e] at hk ⊢
    exact firstP_short_str _ h3 _ hk
end Go.Proofs.Ytikiahonhbpchaa.Fld
