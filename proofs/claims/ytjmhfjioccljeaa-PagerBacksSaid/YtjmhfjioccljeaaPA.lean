/-
  PA: FieldP FieldQ FieldA FieldB FieldC FieldD FieldE FieldF FieldG FieldH
-/
import Derived.WalkKit
import Derived.Test.YtjmhfjioccljeaaOwn
import Derived.Test.YtjmhfjioccljeaaShelf
import Derived.BigQuiet
import Derived.BigRegion
import Derived.Handy
import Derived.Deep.Cut
import Derived.Test.YtjmhfjioccljeaaOwnS
/-
  The plain law of rows of items: how an item stands as bytes, and how it is read back.
-/
namespace Go.Proofs.Ytjmhfjioccljeaa.Fld
set_option linter.unusedVariables false
set_option linter.unusedSimpArgs false

/-- an item: its kind, its number, its text -/
structure It where
  kind : Int
  num : Int
  str : List UInt8

/-- how many bytes a number from 0 on has -/
def bytesN (m : Nat) : Nat := if h : m < 256 then 1 else bytesN (m / 256) + 1
termination_by m
decreasing_by omega
/-- the bytes of a number from 0 on, the highest first -/
def big (m : Nat) : List UInt8 := if h : m < 256 then [UInt8.ofNat m] else big (m / 256) ++ [UInt8.ofNat (m % 256)]
termination_by m
decreasing_by omega
/-- the number without its sign -/
def mag (n : Int) : Nat := if n < 0 then (-n - 1).toNat else n.toNat
def width (n : Int) : Nat := if 0 ≤ n ∧ n < 64 then 0 else bytesN (mag n)
def four (n : Nat) : List UInt8 := [UInt8.ofNat (n / 16777216), UInt8.ofNat (n / 65536), UInt8.ofNat (n / 256), UInt8.ofNat n]
def encNum (n : Int) : List UInt8 :=
  if 0 ≤ n ∧ n < 64 then [UInt8.ofNat n.toNat] else UInt8.ofNat (63 + bytesN (mag n) + (if n < 0 then 8 else 0)) :: big (mag n)
def encStr (s : List UInt8) : List UInt8 :=
  if s.length < 127 then UInt8.ofNat (128 + s.length) :: s else (255 :: four s.length) ++ s
def enc (i : It) : List UInt8 := if i.kind = 2 then encStr i.str else encNum i.num
def encs (l : List It) : List UInt8 := l.flatMap enc
/-- the error of an item -/
def check (i : It) : Int :=
  if i.kind = 2 ∧ 50000 < i.str.length then 14 else if (i.kind = 1 ∧ i.str = []) ∨ (i.kind = 2 ∧ i.num = 0) then 0 else 2
def worst (l : List It) : Int := l.foldl (fun e i => max e (check i)) 0
def none_ : It := ⟨0, 0, []⟩
/-- the number of some bytes -/
def val (l : List UInt8) : Nat := l.foldl (fun n x => n * 256 + x.toNat) 0
def runP (b : List UInt8) (k n : Nat) : It × Nat × Int :=
  if b.length < k + n then (none_, 0, 10) else (⟨2, 0, (b.drop k).take n⟩, k + n, 0)
def wideP (b : List UInt8) (h : Nat) : It × Nat × Int :=
  let k := h % 8 + 1
  if h / 16 % 4 ≠ 0 then (none_, 0, 2)
  else if b.length < 1 + k then (none_, 0, 10)
  else
    let m := val ((b.drop 1).take k)
    if 2 ^ 63 ≤ m then (none_, 0, 2)
    else
      let n : Int := if h / 8 % 2 = 1 then -(m : Int) - 1 else m
      if width n ≠ k then (none_, 0, 2) else (⟨1, n, []⟩, 1 + k, 0)
def firstP : List UInt8 → It × Nat × Int
  | [] => (none_, 0, 10)
  | x :: t =>
    let b := x :: t
    let h := x.toNat
    if h < 64 then (⟨1, h, []⟩, 1, 0)
    else if h < 128 then wideP b h
    else if h < 255 then runP b 1 (h - 128)
    else if b.length < 5 then (none_, 0, 10)
    else
      let n := val ((b.drop 1).take 4)
      if n < 127 ∨ 50000 < n then (none_, 0, 2) else runP b 5 n

theorem bytesN_pos (m : Nat) : 1 ≤ bytesN m := by unfold bytesN; split <;> omega
theorem big_length (m : Nat) : (big m).length = bytesN m := by
  induction m using Nat.strongRecOn with
  | ind m ih =>
    unfold big bytesN
    split
    · rfl
    · rw [List.length_append, ih _ (by omega)]; rfl
theorem val_snoc (l : List UInt8) (x : UInt8) : val (l ++ [x]) = val l * 256 + x.toNat := by simp [val]
theorem val_big (m : Nat) : val (big m) = m := by
  induction m using Nat.strongRecOn with
  | ind m ih =>
    unfold big
    split
    · next h => simp [val]; omega
    · rw [val_snoc, ih _ (by omega)]
      have e : (UInt8.ofNat (m % 256)).toNat = m % 256 := by simp
      rw [e]; omega
theorem bytesN_lt (m : Nat) : m < 256 ^ bytesN m := by
  induction m using Nat.strongRecOn with
  | ind m ih =>
    unfold bytesN
    split
    · next h => simpa using h
    · have := ih (m / 256) (by omega)
      rw [Nat.pow_succ]; omega
theorem bytesN_le {m k : Nat} (hk : 1 ≤ k) (h : m < 256 ^ k) : bytesN m ≤ k := by
  induction m using Nat.strongRecOn generalizing k with
  | ind m ih =>
    unfold bytesN
    split
    · omega
    · next hm =>
      cases k with
      | zero => omega
      | succ k =>
        cases k with
        | zero => simp at h; omega
        | succ k =>
          have := ih (m / 256) (by omega) (k := k + 1) (by omega) (by rw [Nat.pow_succ] at h; omega)
          omega
/-- the last bytes of a number, from its k-th byte from behind on -/
theorem big_of_val (l : List UInt8) (h : bytesN (val l) = l.length) : big (val l) = l := by
  have key : ∀ n (l : List UInt8), l.length = n → bytesN (val l) = l.length → big (val l) = l := by
    intro n
    induction n with
    | zero => intro l hl h; have := bytesN_pos (val l); omega
    | succ n ih =>
      intro l hl h
      obtain ⟨l', x, rfl⟩ : ∃ l' x, l = l' ++ [x] := by
        rcases List.eq_nil_or_concat l with e | ⟨l', x, e⟩
        · subst e; simp at hl
        · exact ⟨l', x, by simpa using e⟩
      rw [val_snoc] at h ⊢
      have hx := x.toNat_lt
      rw [List.length_append] at h hl
      simp only [List.length_singleton] at h hl
      have hm : (val l' * 256 + x.toNat) % 256 = x.toNat := by omega
      have hd : (val l' * 256 + x.toNat) / 256 = val l' := by omega
      rw [big]
      rw [bytesN] at h
      split
      · next hlt =>
        rw [dif_pos hlt] at h
        have h0 : l' = [] := List.eq_nil_of_length_eq_zero (by omega)
        subst h0
        have hv : val ([] : List UInt8) = 0 := rfl
        rw [hv]; simp
      · next hlt =>
        rw [dif_neg hlt, hd] at h
        rw [hd, hm, ih l' (by omega) (by omega)]
        simp
  exact key _ l rfl h

theorem enc_number {i : It} (h : i.kind = 1) : enc i = encNum i.num := by unfold enc; rw [if_neg (by omega)]
theorem mag_lt {n : Int} (h : -9223372036854775808 ≤ n ∧ n < 9223372036854775808) : mag n < 2 ^ 63 := by unfold mag; split <;> omega
theorem bytesN_le8 {m : Nat} (h : m < 2 ^ 64) : bytesN m ≤ 8 := bytesN_le (by omega) (by have e : 256 ^ 8 = 2 ^ 64 := by decide
                                                                                         rw [e]; exact h)
theorem encNum_length (n : Int) : (encNum n).length = 1 + width n := by
  unfold encNum width
  split
  · rfl
  · simp [big_length]; omega
theorem encStr_length (s : List UInt8) : (encStr s).length = if s.length < 127 then 1 + s.length else 5 + s.length := by
  unfold encStr
  split
  · simp; omega
  · simp [four]; omega
theorem enc_pos (i : It) : 0 < (enc i).length := by
  unfold enc
  split
  · rw [encStr_length]; split <;> omega
  · rw [encNum_length]; omega
theorem val_four (n : Nat) (h : n < 2 ^ 32) : val (four n) = n := by
  simp only [val, four, List.foldl, UInt8.toNat_ofNat']; omega
/-- what was laid is read -/
theorem firstP_num (n : Int) (h : -9223372036854775808 ≤ n ∧ n < 9223372036854775808) (t : List UInt8) : firstP (encNum n ++ t) = (⟨1, n, []⟩, (encNum n).length, 0) := by
  rw [encNum_length]
  unfold encNum width
  by_cases h0 : 0 ≤ n ∧ n < 64
  · rw [if_pos h0, if_pos h0]
    have e : (UInt8.ofNat n.toNat).toNat = n.toNat := by simp; omega
    simp only [List.cons_append, List.nil_append, firstP, e]
    rw [if_pos (by omega)]
    have : ((n.toNat : Nat) : Int) = n := by omega
    rw [this]
  · rw [if_neg h0, if_neg h0]
    have hm := mag_lt h
    have h8 := bytesN_le8 (m := mag n) (by omega)
    have h1 := bytesN_pos (mag n)
    have hs : (63 + bytesN (mag n) + (if n < 0 then 8 else 0)) < 128 := by split <;> omega
    have e : (UInt8.ofNat (63 + bytesN (mag n) + (if n < 0 then 8 else 0))).toNat = 63 + bytesN (mag n) + (if n < 0 then 8 else 0) := by
      rw [UInt8.toNat_ofNat']; omega
    simp only [List.cons_append, firstP, e]
    rw [if_neg (by split <;> omega), if_pos hs]
    have hk : (63 + bytesN (mag n) + (if n < 0 then 8 else 0)) % 8 + 1 = bytesN (mag n) := by split <;> omega
    unfold wideP
    simp only [hk]
    rw [if_neg (by split <;> omega), if_neg (by simp [big_length]; omega)]
    have hv : ((UInt8.ofNat (63 + bytesN (mag n) + if n < 0 then 8 else 0) :: (big (mag n) ++ t)).drop 1).take (bytesN (mag n)) = big (mag n) := by
      simp only [List.drop_succ_cons, List.drop_zero]
      rw [List.take_append_of_le_length (by rw [big_length]; exact Nat.le_refl _), List.take_of_length_le (by rw [big_length]; exact Nat.le_refl _)]
    rw [hv, val_big, if_neg (by omega)]
    have hn : (if (63 + bytesN (mag n) + if n < 0 then 8 else 0) / 8 % 2 = 1 then -(mag n : Int) - 1 else (mag n : Int)) = n := by
      unfold mag
      by_cases hneg : n < 0
      · rw [if_pos hneg, if_pos hneg, if_pos (by unfold mag at h8 h1; rw [if_pos hneg] at h8 h1; omega)]; omega
      · rw [if_neg hneg, if_neg hneg, if_neg (by unfold mag at h8 h1; rw [if_neg hneg] at h8 h1; omega)]; omega
    rw [hn]
    have hw : width n = bytesN (mag n) := by unfold width; rw [if_neg h0]
    rw [hw, if_neg (by simp)]
theorem firstP_str (s : List UInt8) (h : s.length ≤ 50000) (t : List UInt8) : firstP (encStr s ++ t) = (⟨2, 0, s⟩, (encStr s).length, 0) := by
  rw [encStr_length]
  unfold encStr
  by_cases h0 : s.length < 127
  · rw [if_pos h0, if_pos h0]
    have e : (UInt8.ofNat (128 + s.length)).toNat = 128 + s.length := by rw [UInt8.toNat_ofNat']; omega
    simp only [List.cons_append, firstP, e]
    rw [if_neg (by omega), if_neg (by omega), if_pos (by omega)]
    unfold runP
    have e2 : 128 + s.length - 128 = s.length := by omega
    rw [e2, if_neg (by simp; omega)]
    simp
  · rw [if_neg h0, if_neg h0]
    have e : (255 : UInt8).toNat = 255 := rfl
    simp only [List.cons_append, List.append_assoc, firstP, e]
    rw [if_neg (by omega), if_neg (by omega), if_neg (by omega), if_neg (by simp [four])]
    have hv : ((255 :: (four s.length ++ (s ++ t))).drop 1).take 4 = four s.length := by simp [four]
    rw [hv, val_four _ (by omega), if_neg (by omega)]
    unfold runP
    rw [if_neg (by simp [four]; omega)]
    have hd : (255 :: (four s.length ++ (s ++ t))).drop 5 = s ++ t := by simp [four]
    rw [hd]; simp
theorem take_cons_append {α : Type} (x : α) (l t : List α) (k : Nat) (h : k ≤ l.length) : ((x :: (l ++ t)).drop 1).take k = l.take k := by simp [List.take_append_of_le_length h]

/-- a beginning of an item's bytes ends too soon -/
theorem firstP_short_num (n : Int) (h : -9223372036854775808 ≤ n ∧ n < 9223372036854775808) (k : Nat) (hk : k < (encNum n).length) : firstP ((encNum n).take k) = (none_, 0, 10) := by
  rw [encNum_length] at hk
  cases k with
  | zero => rfl
  | succ k =>
    unfold width at hk
    unfold encNum
    by_cases h0 : 0 ≤ n ∧ n < 64
    · rw [if_pos h0] at hk; omega
    · rw [if_neg h0] at hk ⊢
      have hm := mag_lt h
      have h8 := bytesN_le8 (m := mag n) (by omega)
      have h1 := bytesN_pos (mag n)
      have hs : (63 + bytesN (mag n) + (if n < 0 then 8 else 0)) < 128 := by split <;> omega
      have e : (UInt8.ofNat (63 + bytesN (mag n) + (if n < 0 then 8 else 0))).toNat = 63 + bytesN (mag n) + (if n < 0 then 8 else 0) := by
        rw [UInt8.toNat_ofNat']; omega
      simp only [List.take_succ_cons, firstP, e]
      rw [if_neg (by split <;> omega), if_pos hs]
      have hk' : (63 + bytesN (mag n) + (if n < 0 then 8 else 0)) % 8 + 1 = bytesN (mag n) := by split <;> omega
      unfold wideP
      simp only [hk']
      rw [if_neg (by split <;> omega), if_pos (by simp [big_length]; omega)]
theorem firstP_short_str (s : List UInt8) (h : s.length ≤ 50000) (k : Nat) (hk : k < (encStr s).length) : firstP ((encStr s).take k) = (none_, 0, 10) := by
  rw [encStr_length] at hk
  cases k with
  | zero => rfl
  | succ k =>
    unfold encStr
    by_cases h0 : s.length < 127
    · rw [if_pos h0] at hk ⊢
      have e : (UInt8.ofNat (128 + s.length)).toNat = 128 + s.length := by rw [UInt8.toNat_ofNat']; omega
      simp only [List.take_succ_cons, firstP, e]
      rw [if_neg (by omega), if_neg (by omega), if_pos (by omega)]
      unfold runP
      rw [if_pos (by simp; omega)]
    · rw [if_neg h0] at hk ⊢
      have e : (255 : UInt8).toNat = 255 := rfl
      simp only [List.cons_append, List.take_succ_cons, firstP, e]
      rw [if_neg (by omega), if_neg (by omega), if_neg (by omega)]
      have hl : (List.take k (four s.length ++ s)).length = k := by simp [four]; omega
      by_cases h5 : k < 4
      · rw [if_pos (by simp [hl]; omega)]
      · rw [if_neg (by simp [hl]; omega)]
        have hv : ((255 :: List.take k (four s.length ++ s)).drop 1).take 4 = four s.length := by
          simp only [List.drop_succ_cons, List.drop_zero, List.take_take]
          rw [Nat.min_eq_left (by omega)]
          simp [four]
        rw [hv, val_four _ (by omega), if_neg (by omega)]
        unfold runP
        rw [if_pos (by simp [hl]; omega)]
/-- an item that Row takes -/
def Good (i : It) : Prop := check i = 0
theorem good_cases {i : It} (h : Good i) : (i.kind = 1 ∧ i.str = []) ∨ (i.kind = 2 ∧ i.num = 0 ∧ i.str.length ≤ 50000) := by
  unfold Good check at h
  split at h
  · omega
  · split at h
    · next h1 h2 =>
      rcases h2 with h2 | h2
      · exact .inl h2
      · exact .inr ⟨h2.1, h2.2, by omega⟩
    · omega
def Ranged (i : It) : Prop := -9223372036854775808 ≤ i.num ∧ i.num < 9223372036854775808
theorem firstP_enc {i : It} (h : Good i) (hr : Ranged i) (t : List UInt8) : firstP (enc i ++ t) = (i, (enc i).length, 0) := by
  rcases good_cases h with ⟨h1, h2⟩ | ⟨h1, h2, h3⟩
  · rw [enc_number h1, firstP_num _ hr]
    obtain ⟨a, b, c⟩ := i; simp only at h1 h2; subst h1 h2; rfl
  · have e : enc i = encStr i.str := by unfold enc; rw [if_pos h1]
    rw [e, firstP_str _ h3]
    obtain ⟨a, b, c⟩ := i; simp only at h1 h2; subst h1 h2; rfl
theorem firstP_short {i : It} (h : Good i) (hr : Ranged i) (k : Nat) (hk : k < (enc i).length) : firstP ((enc i).take k) = (none_, 0, 10) := by
  rcases good_cases h with ⟨h1, h2⟩ | ⟨h1, h2, h3⟩
  · rw [enc_number h1] at hk ⊢
    exact firstP_short_num _ hr _ hk
  · have e : enc i = encStr i.str := by unfold enc; rw [if_pos h1]
    rw [e] at hk ⊢
    exact firstP_short_str _ h3 _ hk
end Go.Proofs.Ytjmhfjioccljeaa.Fld
/-
  The plain law of rows of items, second part: whole rows; no row has a second form.
-/
namespace Go.Proofs.Ytjmhfjioccljeaa.Fld
set_option linter.unusedVariables false
set_option linter.unusedSimpArgs false

theorem four_of_val (l : List UInt8) (h : l.length = 4) : four (val l) = l := by
  match l, h with
  | [a, b, c, d], _ =>
    have ha := a.toNat_lt
    have hb := b.toNat_lt
    have hc := c.toNat_lt
    have hd := d.toNat_lt
    have hv : val [a, b, c, d] = ((a.toNat * 256 + b.toNat) * 256 + c.toNat) * 256 + d.toNat := by simp [val]
    unfold four
    rw [hv]
    congr 1
    · apply UInt8.toNat_inj.1; rw [UInt8.toNat_ofNat']; omega
    congr 1
    · apply UInt8.toNat_inj.1; rw [UInt8.toNat_ofNat']; omega
    congr 1
    · apply UInt8.toNat_inj.1; rw [UInt8.toNat_ofNat']; omega
    congr 1
    · apply UInt8.toNat_inj.1; rw [UInt8.toNat_ofNat']; omega

theorem val_lt (l : List UInt8) : val l < 256 ^ l.length := by
  have key : ∀ n (l : List UInt8), l.length = n → val l < 256 ^ n := by
    intro n
    induction n with
    | zero => intro l hl; have := List.eq_nil_of_length_eq_zero hl; subst this; simp [val]
    | succ n ih =>
      intro l hl
      obtain ⟨l', x, rfl⟩ : ∃ l' x, l = l' ++ [x] := by
        rcases List.eq_nil_or_concat l with e | ⟨l', x, e⟩
        · subst e; simp at hl
        · exact ⟨l', x, by simpa using e⟩
      have := ih l' (by simpa using hl)
      have hx := x.toNat_lt
      rw [val_snoc, Nat.pow_succ]; omega
  exact key _ l rfl

/-- what is read has just these bytes -/
theorem firstP_canon {b : List UInt8} {i : It} {n : Nat} (h : firstP b = (i, n, 0)) : enc i = b.take n ∧ Good i ∧ Ranged i ∧ 1 ≤ n ∧ n ≤ b.length := by
  cases b with
  | nil => simp [firstP] at h
  | cons x t =>
    have hx := x.toNat_lt
    unfold firstP at h
    simp only at h
    split at h
    · next h0 =>
      simp only [Prod.mk.injEq] at h
      obtain ⟨rfl, rfl, _⟩ := h
      refine ⟨?_, ?_, ?_, by omega, by simp⟩
      · rw [enc_number rfl]
        unfold encNum
        rw [if_pos (by simp only; omega)]
        simp
      · unfold Good check; simp
      · unfold Ranged; simp only; omega
    · next h0 =>
      split at h
      · next h1 =>
        unfold wideP at h
        simp only at h
        split at h
        · simp at h
        · next h2 =>
          split at h
          · simp at h
          · next h3 =>
            split at h
            · simp at h
            · next h4 =>
              generalize hk : x.toNat % 8 + 1 = k at *
              generalize hl : ((x :: t).drop 1).take k = l at *
              have hll : l.length = k := by rw [← hl]; simp at h3 ⊢; omega
              generalize hn : (if x.toNat / 8 % 2 = 1 then -(val l : Int) - 1 else (val l : Int)) = n at *
              split at h
              · simp at h
              · next h5 =>
                simp only [Prod.mk.injEq] at h
                obtain ⟨rfl, rfl, _⟩ := h
                have hmag : mag n = val l := by
                  unfold mag
                  rw [← hn]
                  split <;> split <;> omega
                have hneg : (n < 0) ↔ x.toNat / 8 % 2 = 1 := by
                  rw [← hn]; split <;> omega
                have h6 : width n = k := by simpa using h5
                have h0' : ¬ (0 ≤ n ∧ n < 64) := by
                  intro hc
                  unfold width at h6
                  rw [if_pos hc] at h6; omega
                have hw : bytesN (val l) = l.length := by
                  unfold width at h6
                  rw [if_neg h0', hmag] at h6; omega
                refine ⟨?_, ?_, ?_, by omega, by omega⟩
                · rw [enc_number rfl]
                  unfold encNum
                  rw [if_neg (by simp only; exact h0')]
                  simp only [hmag, big_of_val l hw, hw, hll]
                  have e1 : UInt8.ofNat (63 + k + if n < 0 then 8 else 0) = x := by
                    apply UInt8.toNat_inj.1
                    rw [UInt8.toNat_ofNat']
                    by_cases hng : n < 0
                    · have := hneg.1 hng
                      rw [if_pos hng]; omega
                    · have : ¬ x.toNat / 8 % 2 = 1 := fun h => hng (hneg.2 h)
                      rw [if_neg hng]; omega
                  rw [e1, ← hl]
                  rw [Nat.add_comm 1 k]
                  simp
                · unfold Good check; simp
                · unfold Ranged
                  simp only
                  rw [← hn]; split <;> omega
      · next h1 =>
        split at h
        · next h2 =>
          unfold runP at h
          split at h
          · simp at h
          · next h3 =>
            simp only [Prod.mk.injEq] at h
            obtain ⟨rfl, rfl, _⟩ := h
            simp only [List.length_cons] at h3
            have hlen : ((x :: t).drop 1 |>.take (x.toNat - 128)).length = x.toNat - 128 := by simp; omega
            refine ⟨?_, ?_, ?_, by omega, by simp; omega⟩
            · unfold enc encStr
              rw [if_pos rfl]
              simp only [hlen]
              rw [if_pos (by omega)]
              have e1 : UInt8.ofNat (128 + (x.toNat - 128)) = x := by
                apply UInt8.toNat_inj.1
                rw [UInt8.toNat_ofNat']; omega
              rw [e1, Nat.add_comm 1]
              simp
            · unfold Good check
              rw [if_neg (by simp only [hlen]; omega), if_pos (.inr ⟨rfl, rfl⟩)]
            · unfold Ranged; simp only; omega
        · next h2 =>
          have hx' : x = 255 := by
            apply UInt8.toNat_inj.1
            show x.toNat = 255
            omega
          subst hx'
          split at h
          · simp at h
          · next h3 =>
            split at h
            · simp at h
            · next h4 =>
              unfold runP at h
              split at h
              · simp at h
              · next h5 =>
                simp only [Prod.mk.injEq] at h
                obtain ⟨rfl, rfl, _⟩ := h
                generalize hl : ((255 :: t : List UInt8).drop 1).take 4 = l at *
                generalize hv : val l = v at *
                have hll : l.length = 4 := by rw [← hl]; simp at h3 ⊢; omega
                have hlen : (((255 :: t : List UInt8).drop 5).take v).length = v := by simp at h5 ⊢; omega
                refine ⟨?_, ?_, ?_, by omega, by omega⟩
                · unfold enc encStr
                  rw [if_pos rfl]
                  simp only [hlen]
                  rw [if_neg (by omega), ← hv, four_of_val l hll, hv, ← hl]
                  have e5 : 5 + v = (4 + v) + 1 := by omega
                  rw [e5, List.take_succ_cons]
                  simp only [List.drop_succ_cons, List.drop_zero, List.cons_append]
                  rw [List.take_add]
                · unfold Good check
                  rw [if_neg (by simp only [hlen]; omega), if_pos (.inr ⟨rfl, rfl⟩)]
                · unfold Ranged; simp only; omega

/-- a row of items from bytes; c items came ahead -/
def items (b : List UInt8) (c : Nat) : Option (List It) :=
  if b = [] then some []
  else if h : (firstP b).2.2 = 0 ∧ c ≠ 4000 ∧ 1 ≤ (firstP b).2.1 ∧ (firstP b).2.1 ≤ b.length then (items (b.drop (firstP b).2.1) (c + 1)).map ((firstP b).1 :: ·)
  else none
termination_by b.length
decreasing_by simp only [List.length_drop]; omega
theorem items_nil (c : Nat) : items [] c = some [] := by unfold items; simp
theorem items_step {b : List UInt8} {c : Nat} {i : It} {n : Nat} (hb : b ≠ []) (hf : firstP b = (i, n, 0)) (hc : c ≠ 4000) : items b c = (items (b.drop n) (c + 1)).map (i :: ·) := by
  obtain ⟨_, _, _, h1, h2⟩ := firstP_canon hf
  rw [items, if_neg hb, dif_pos (by rw [hf]; exact ⟨rfl, hc, h1, h2⟩), hf]
theorem items_err {b : List UInt8} {c : Nat} (hb : b ≠ []) (hf : (firstP b).2.2 ≠ 0 ∨ c = 4000) : items b c = none := by
  rw [items, if_neg hb, dif_neg (by rintro ⟨h1, h2, _⟩; rcases hf with hf | hf <;> contradiction)]
theorem items_enc (l : List It) (c : Nat) (hg : ∀ i ∈ l, Good i ∧ Ranged i) (hc : c + l.length ≤ 4000) : items (encs l) c = some l := by
  induction l generalizing c with
  | nil => exact items_nil c
  | cons i l ih =>
    have hp := enc_pos i
    have hi := hg i (by simp)
    have hne : encs (i :: l) ≠ [] := by
      intro h
      have := congrArg List.length h
      simp [encs] at this
      have := this.1
      rw [this] at hp; simp at hp
    have hf : firstP (encs (i :: l)) = (i, (enc i).length, 0) := by
      have : encs (i :: l) = enc i ++ encs l := by simp [encs]
      rw [this]; exact firstP_enc hi.1 hi.2 _
    simp only [List.length_cons] at hc
    rw [items_step hne hf (by omega)]
    have : (encs (i :: l)).drop (enc i).length = encs l := by simp [encs]
    rw [this, ih (c + 1) (fun j hj => hg j (by simp [hj])) (by omega)]
    rfl
theorem items_canon (b : List UInt8) (c : Nat) (hc : c ≤ 4000) (l : List It) (h : items b c = some l) : encs l = b ∧ (∀ i ∈ l, Good i ∧ Ranged i) ∧ c + l.length ≤ 4000 := by
  have key : ∀ n (b : List UInt8) (c : Nat) (hc : c ≤ 4000) (l : List It), b.length ≤ n → items b c = some l → encs l = b ∧ (∀ i ∈ l, Good i ∧ Ranged i) ∧ c + l.length ≤ 4000 := by
    intro n
    induction n with
    | zero =>
      intro b c hc l hb h
      have := List.eq_nil_of_length_eq_zero (Nat.le_zero.1 hb)
      subst this
      rw [items_nil] at h
      cases h
      exact ⟨rfl, by simp, by simpa using hc⟩
    | succ n ih =>
      intro b c hc l hb h
      by_cases hbe : b = []
      · subst hbe
        rw [items_nil] at h
        cases h
        exact ⟨rfl, by simp, by simpa using hc⟩
      · by_cases he : (firstP b).2.2 ≠ 0 ∨ c = 4000
        · rw [items_err hbe he] at h; cases h
        · have he1 : (firstP b).2.2 = 0 := by
            by_cases h0 : (firstP b).2.2 = 0
            · exact h0
            · exact absurd (.inl h0) he
          have he2 : c ≠ 4000 := fun h => he (.inr h)
          obtain ⟨i, k, e, hf⟩ : ∃ i k e, firstP b = (i, k, e) := ⟨_, _, _, rfl⟩
          have he0 : e = 0 := by rw [hf] at he1; exact he1
          subst he0
          obtain ⟨h1, h2, h3, h4, h5⟩ := firstP_canon hf
          rw [items_step hbe hf he2] at h
          cases hr : items (b.drop k) (c + 1) with
          | none => rw [hr] at h; cases h
          | some r =>
            rw [hr] at h
            simp only [Option.map_some, Option.some.injEq] at h
            subst h
            obtain ⟨h6, h7, h8⟩ := ih (b.drop k) (c + 1) (by omega) r (by simp; omega) hr
            refine ⟨?_, ?_, by simp only [List.length_cons]; omega⟩
            · have : encs (i :: r) = enc i ++ encs r := by simp [encs]
              rw [this, h6, h1, List.take_append_drop]
            · intro j hj
              rcases List.mem_cons.1 hj with rfl | hj
              · exact ⟨h2, h3⟩
              · exact h7 j hj
  exact key _ b c hc l (Nat.le_refl _) h
theorem encs_append (a b : List It) : encs (a ++ b) = encs a ++ encs b := by simp [encs]
theorem check_cases (i : It) : check i = 0 ∨ check i = 2 ∨ check i = 14 := by
  unfold check
  split
  · simp
  · split <;> simp
theorem worst_max (l : List It) (e : Int) (he : 0 ≤ e) : l.foldl (fun e i => max e (check i)) e = max e (worst l) := by
  unfold worst
  induction l generalizing e with
  | nil => simp; omega
  | cons i l ih =>
    simp only [List.foldl_cons]
    rcases check_cases i with h | h | h <;> rw [h] <;> rw [ih _ (by omega), ih (max 0 _) (by omega)] <;> omega
theorem worst_cons (i : It) (l : List It) : worst (i :: l) = max (check i) (worst l) := by
  have := worst_max l (max 0 (check i)) (by omega)
  rcases check_cases i with h | h | h <;> rw [h] at this ⊢ <;> (show List.foldl _ _ _ = _) <;> simp only [List.foldl_cons, h] <;> rw [this] <;> omega
theorem worst_nonneg (l : List It) : 0 ≤ worst l := by
  have := worst_max l 0 (by omega)
  unfold worst at this ⊢; omega
theorem worst_zero (l : List It) : worst l = 0 ↔ ∀ i ∈ l, Good i := by
  induction l with
  | nil => simp [worst]
  | cons i l ih =>
    rw [worst_cons]
    have h1 := worst_nonneg l
    have h2 : 0 ≤ check i := by rcases check_cases i with h | h | h <;> omega
    constructor
    · intro h j hj
      rcases List.mem_cons.1 hj with rfl | hj
      · show check j = 0; omega
      · exact ih.1 (by omega) j hj
    · intro h
      have h3 : check i = 0 := h i (by simp)
      have h4 := ih.2 fun j hj => h j (by simp [hj])
      omega
theorem worst_big (l : List It) : worst l = 14 ↔ ∃ i ∈ l, i.kind = 2 ∧ 50000 < i.str.length := by
  induction l with
  | nil => simp [worst]
  | cons i l ih =>
    rw [worst_cons]
    have hw : worst l ≤ 14 := by
      clear ih
      induction l with
      | nil => simp [worst]
      | cons j l ih => rw [worst_cons]; rcases check_cases j with h | h | h <;> omega
    have hi : check i = 14 ↔ i.kind = 2 ∧ 50000 < i.str.length := by
      unfold check
      split
      · next h => simp [h]
      · next h => constructor
                  · intro hc; split at hc <;> omega
                  · intro hc; exact absurd hc h
    constructor
    · intro h
      by_cases hc : check i = 14
      · exact ⟨i, by simp, hi.1 hc⟩
      · obtain ⟨j, hj, hj2⟩ := ih.1 (by rcases check_cases i with h' | h' | h' <;> omega)
        exact ⟨j, by simp [hj], hj2⟩
    · rintro ⟨j, hj, hj2⟩
      rcases List.mem_cons.1 hj with rfl | hj
      · have := hi.2 hj2; omega
      · have := ih.2 ⟨j, hj, hj2⟩
        rcases check_cases i with h' | h' | h' <;> omega
end Go.Proofs.Ytjmhfjioccljeaa.Fld
/-
  Walks of package field: width, check, run.
-/
namespace Go.Proofs.Ytjmhfjioccljeaa
open Go.RowKit Fld
set_option linter.unusedVariables false
set_option linter.unusedSimpArgs false

theorem i64_xor_sign (n : Int) (h : -9223372036854775808 ≤ n ∧ n < 9223372036854775808) : bits .xor .i64 n (n / 9223372036854775808) = (mag n : Int) := by
  unfold mag
  by_cases hn : n < 0
  · rw [if_pos hn]
    have e : n / 9223372036854775808 = -1 := by omega
    rw [e]
    show IntKind.i64.wrap ((BitVec.ofInt 64 n ^^^ BitVec.ofInt 64 (-1)).toNat : Int) = _
    have h1 : BitVec.ofInt 64 (-1) = BitVec.allOnes 64 := by decide
    rw [h1, BitVec.xor_allOnes, BitVec.toNat_not, BitVec.toNat_ofInt, IntKind.wrap_i64]
    omega
  · rw [if_neg hn]
    have e : n / 9223372036854775808 = 0 := by omega
    rw [e]
    obtain ⟨m, rfl⟩ : ∃ m : Nat, n = m := ⟨n.toNat, by omega⟩
    have := i64_xor_nat m 0 (by omega) (by omega)
    simpa using this
theorem bitLen_zero : Lib.bitLen 0 = 0 := by decide
theorem bitLen_byte (m : Nat) (h0 : 0 < m) (h : m < 256) : 1 ≤ Lib.bitLen m ∧ Lib.bitLen m ≤ 8 := by
  have := Lib.bitLen_le8 ⟨m, h⟩
  have h1 := Lib.bitLen_half m (by omega) (by omega)
  exact ⟨by omega, this⟩
theorem width_bits (m : Nat) (h : m < 2 ^ 64) : max ((Lib.bitLen m + 7) / 8) 1 = bytesN m := by
  induction m using Nat.strongRecOn with
  | ind m ih =>
    unfold bytesN
    split
    · next h1 =>
      rcases Nat.eq_zero_or_pos m with h0 | h0
      · subst h0; rw [bitLen_zero]; decide
      · have := bitLen_byte m h0 h1
        omega
    · next h1 =>
      rw [Lib.bitLen_shift8 m (by omega) (by omega), ← ih (m / 256) (by omega) (by omega)]
      have h2 : 1 ≤ Lib.bitLen (m / 256) := by
        rw [Lib.bitLen_half _ (by omega) (by omega)]; omega
      omega
theorem bitLen_le (m : Nat) (h : m < 2 ^ 64) : Lib.bitLen m ≤ 64 := by
  have h1 := width_bits m h
  have h2 := bytesN_le8 h
  omega
theorem max_int (a : Nat) : max (((a : Int) + 7) / 8) 1 = ((max ((a + 7) / 8) 1 : Nat) : Int) := by omega
theorem width_any (n : Int) (h : -9223372036854775808 ≤ n ∧ n < 9223372036854775808) (w : World) :
    Calls Try.prog 136 #[.int .i64 n] w fun e w' => e = .returned (.int .i64 (width n)) ∧ w = w' := by
  have hm := mag_lt h
  have hx := i64_xor_sign n h
  have hw := width_bits (mag n) (by omega)
  have hl := bitLen_le (mag n) (by omega)
  by_cases h0 : 0 ≤ n ∧ n < 64
  · have e : width n = 0 := by unfold width; rw [if_pos h0]
    rw [e]
    clear hx hw hl
    go_enter Try.func136, Try.ntmps136
    go_wp2
    go_ret
    exact ⟨rfl, rfl⟩
  · have e : width n = bytesN (mag n) := by unfold width; rw [if_neg h0]
    rw [e, ← hw]
    clear hw e
    by_cases h1 : 0 ≤ n
    · have h2 : 64 ≤ n := by omega
      clear h0
      go_enter Try.func136, Try.ntmps136
      go_wp2_with fail
      refine (Try.bits_Len64 _ _ (by omega) (by omega)).mono ?_
      rintro e w' ⟨rfl, rfl⟩
      simp only [Int.toNat_natCast]
      go_wp2
      go_ret
      refine ⟨?_, rfl⟩
      (first | rfl | (rw [max_int]; rfl))
    · have h2 : n < 0 := by omega
      clear h0 h1
      go_enter Try.func136, Try.ntmps136
      go_wp2_with fail
      refine (Try.bits_Len64 _ _ (by omega) (by omega)).mono ?_
      rintro e w' ⟨rfl, rfl⟩
      simp only [Int.toNat_natCast]
      go_wp2
      go_ret
      refine ⟨?_, rfl⟩
      (first | rfl | (rw [max_int]; rfl))

/-- an item as a value -/
def It.v (i : It) : Value := .agg #[.int .i64 i.kind, .int .i64 i.num, .string ⟨i.str.toArray⟩]
theorem str_nil_iff (l : List UInt8) : ((⟨l.toArray⟩ : ByteArray) = ⟨#[]⟩) ↔ l = [] := by
  constructor
  · intro h
    have := congrArg ByteArray.size h
    rw [str_size] at this
    exact List.eq_nil_of_length_eq_zero this
  · rintro rfl; rfl
theorem check_any (i : It) (hl : i.str.length ≤ maxLen) (w : World) :
    Calls Try.prog 120 #[It.v i] w fun e w' => e = .returned (.int .i64 (check i)) ∧ Below w.heap.size w w' := by
  unfold maxLen at hl
  obtain ⟨k, n, s⟩ := i
  simp only at hl
  have hs := str_size s
  have hb : Below w.heap.size w (w.alloc (.cells #[.int .i64 k, .int .i64 n, .string ⟨s.toArray⟩] 164)) := (Below.refl _ _).alloc (Nat.le_refl _) _
  unfold It.v check
  simp only
  by_cases hk : k = 2
  · subst hk
    by_cases hc : 50000 < s.length
    · rw [if_pos ⟨rfl, hc⟩]
      go_enter Try.func120, Try.ntmps120
      go_wp2
      go_ret
      exact ⟨rfl, hb⟩
    · rw [if_neg (by omega)]
      by_cases hn : n = 0
      · subst hn
        rw [if_pos (.inr ⟨rfl, rfl⟩)]
        go_enter Try.func120, Try.ntmps120
        go_wp2
        go_ret
        exact ⟨rfl, hb⟩
      · have hn' : ((n : Int) == 0) = false := by simpa using hn
        rw [if_neg (by rintro (h | h); omega; exact hn h.2)]
        go_enter Try.func120, Try.ntmps120
        go_wp2
        go_ret
        exact ⟨rfl, hb⟩
  · have hk2 : ((k : Int) == 2) = false := by simpa using hk
    rw [if_neg (by rintro ⟨h, _⟩; exact hk h)]
    by_cases h1 : k = 1
    · subst h1
      cases s with
      | nil =>
        rw [if_pos (.inl ⟨rfl, rfl⟩)]
        go_enter Try.func120, Try.ntmps120
        go_wp2
        go_ret
        exact ⟨rfl, hb⟩
      | cons x t =>
        have he : ((⟨(x :: t).toArray⟩ : ByteArray)).toList.isEmpty = false := by rw [ByteArray.toList_mk]; rfl
        rw [if_neg (by rintro (h | h); exact absurd h.2 (by simp); omega)]
        generalize (⟨(x :: t).toArray⟩ : ByteArray) = S at *
        go_enter Try.func120, Try.ntmps120
        go_wp2
        go_ret
        exact ⟨rfl, hb⟩
    · have hk1 : ((k : Int) == 1) = false := by simpa using h1
      rw [if_neg (by rintro (h | h); exact h1 h.1; exact hk h.1)]
      go_enter Try.func120, Try.ntmps120
      go_wp2
      go_ret
      exact ⟨rfl, hb⟩

/-- '(item, how many bytes, error)' -/
def tri (r : It × Nat × Int) : Value := .tuple #[It.v r.1, .int .i64 (r.2.1 : Nat), .int .i64 r.2.2]
/-- the variable of a named result, or of '&x' *-/
def Zit : Obj := .cells #[.int .i64 0, .int .i64 0, .string ⟨#[]⟩] 164
theorem below_zit (w : World) : Below w.heap.size w (w.alloc Zit) := (Below.refl _ _).alloc (Nat.le_refl _) _
theorem RdB.map {w : World} {ad : Addr} {l : List UInt8} (h : RdB w (some ad) l) (k : Nat) : RdB w (Option.map (fun x => x.add k) (some ad)) (l.drop k) := h.tail k
theorem RdB.some_ {w : World} {A : Option Addr} {l : List UInt8} (h : RdB w A l) (hl : 0 < l.length) : ∃ ad, A = some ad := by
  obtain ⟨ad, e, _⟩ := h hl
  exact ⟨ad, e⟩
theorem tri_agg (k n : Int) (s : List UInt8) (m : Nat) (e : Int) : tri (⟨k, n, s⟩, m, e) = .tuple #[.agg #[.int .i64 k, .int .i64 n, .string ⟨s.toArray⟩], .int .i64 (m : Nat), .int .i64 e] := rfl
theorem tri_none (e : Int) : tri (none_, 0, e) = .tuple #[.agg #[.int .i64 0, .int .i64 0, .string ⟨#[]⟩], .int .i64 0, .int .i64 e] := rfl
theorem run_any (A : Option Addr) (b : List UInt8) (cap k n : Nat) (w : World) (hb : b.length ≤ maxLen) (hcap : b.length ≤ cap) (hk : 1 ≤ k ∧ k ≤ 5) (hn : n ≤ 50000) (hA : RdB w A b) :
    Calls Try.prog 138 #[.slice A b.length cap, .int .i64 k, .int .i64 n] w fun e w' => e = .returned (tri (runP b k n)) ∧ Below w.heap.size w w' := by
  unfold maxLen at hb
  unfold runP
  by_cases h0 : b.length < k + n
  · rw [if_pos h0, tri_none]
    go_enter Try.func138, Try.ntmps138
    go_wp2
    go_returns
    exact ⟨rfl, below_zit w⟩
  · rw [if_neg h0, tri_agg]
    obtain ⟨ad, rfl⟩ := hA.some_ (by omega)
    have hr := ((hA.below (below_zit w)).map k).take n
    have hr0 := ((hA.below (below_zit w))).take 0
    have hc := fun c => run_str (n := n) c hr (by simp; omega)
    have hc0 := fun c => run_str (n := 0) c hr0 (by simp)
    have hkn : ((k + n : Nat) : Int) = (k : Int) + n := by omega
    rw [hkn]
    unfold Zit at hc hc0
    simp only [Option.map_some] at hc
    generalize hS : (⟨((b.drop k).take n).toArray⟩ : ByteArray) = S at *
    by_cases hck : cap = k
    · subst hck
      have hn0 : n = 0 := by omega
      subst hn0
      have hS' : (⟨(b.take 0).toArray⟩ : ByteArray) = S := by rw [← hS]; simp
      rw [hS'] at hc0
      clear hA hr hr0 hc hS hS'
      go_enter Try.func138, Try.ntmps138
      go_wp2
      go_returns
      exact ⟨rfl, (Below.refl _ _).alloc (Nat.le_refl _) _⟩
    · clear hA hr hr0 hS hc0
      go_enter Try.func138, Try.ntmps138
      go_wp2
      go_returns
      exact ⟨rfl, (Below.refl _ _).alloc (Nat.le_refl _) _⟩
end Go.Proofs.Ytjmhfjioccljeaa
/-
  Walks of package field: wideNumber, First.
-/
namespace Go.Proofs.Ytjmhfjioccljeaa
open Go.RowKit Fld
set_option linter.unusedVariables false
set_option linter.unusedSimpArgs false

theorem and7_ : ∀ n : Fin 256, bits .and .u8 (n.val : Int) 7 = ((n.val % 8 : Nat) : Int) := by decide +kernel
theorem and48_ : ∀ n : Fin 256, (bits .and .u8 (n.val : Int) 48 != 0) = decide (n.val / 16 % 4 ≠ 0) := by decide +kernel
theorem and8_ : ∀ n : Fin 256, (bits .and .u8 (n.val : Int) 8 != 0) = decide (n.val / 8 % 2 = 1) := by decide +kernel
theorem or_low (m x : Nat) (hx : x < 256) : m * 256 ||| x = m * 256 + x := by
  have := Nat.shiftLeft_add_eq_or_of_lt (a := m) (b := x) (i := 8) (by omega)
  rw [Nat.shiftLeft_eq] at this
  exact this.symm
theorem add_nil (a : Addr) : a.add 0 = a := by unfold Addr.add; simp
theorem add_mk (B o j : Nat) : (⟨B, o, none⟩ : Addr).add j = ⟨B, o + j, none⟩ := by unfold Addr.add; split <;> simp_all
theorem or_u64 (m : Nat) (x : UInt8) (h : m * 256 + x.toNat < 18446744073709551616) : bits .or .u64 ((m : Int) * 256) (x.toNat : Int) = ((m * 256 + x.toNat : Nat) : Int) := by
  have hx := x.toNat_lt
  have e : ((m : Int) * 256) = ((m * 256 : Nat) : Int) := by omega
  have h1 : m * 256 < 18446744073709551616 := Nat.lt_of_le_of_lt (Nat.le_add_right _ _) h
  have h2 : x.toNat < 18446744073709551616 := Nat.lt_of_le_of_lt (Nat.le_add_left _ _) h
  rw [e, u64_or_nat (m * 256) x.toNat h1 h2, or_low m _ hx]
theorem val_take_succ (l : List UInt8) (j : Nat) (hj : j < l.length) : val (l.take (j + 1)) = val (l.take j) * 256 + (l.getD j 0).toNat := by
  rw [take_snoc l j hj, val_snoc, getD_eq l j 0 hj]

theorem below_set3 (w : World) (n : Nat) (o : Obj) (u v t : Value) :
    Below w.heap.size w (((((w.alloc o).drewN n).setCell ⟨w.heap.size, 0, none⟩ u).setCell ⟨w.heap.size, 1, none⟩ v).setCell ⟨w.heap.size, 2, none⟩ t) :=
  (((below_drewN ((Below.refl _ _).alloc (Nat.le_refl _) _) _).setCell (Nat.le_refl _) _).setCell (Nat.le_refl _) _).setCell (Nat.le_refl _) _

section
variable {b l : List UInt8} {x k : Nat}
theorem wideP_form (g1 : x / 16 % 4 ≠ 0) : wideP b x = (none_, 0, 2) := by unfold wideP; simp only; rw [if_pos g1]
theorem wideP_tail (g1 : ¬ x / 16 % 4 ≠ 0) (hk : x % 8 + 1 = k) (g2 : b.length < 1 + k) : wideP b x = (none_, 0, 10) := by unfold wideP; simp only; rw [if_neg g1, hk, if_pos g2]
theorem wideP_over (g1 : ¬ x / 16 % 4 ≠ 0) (hk : x % 8 + 1 = k) (g2 : ¬ b.length < 1 + k) (hl : (b.drop 1).take k = l) (g3 : 2 ^ 63 ≤ val l) : wideP b x = (none_, 0, 2) := by
  unfold wideP; simp only; rw [if_neg g1, hk, if_neg g2, hl, if_pos g3]
theorem wideP_width {n : Int} (g1 : ¬ x / 16 % 4 ≠ 0) (hk : x % 8 + 1 = k) (g2 : ¬ b.length < 1 + k) (hl : (b.drop 1).take k = l) (g3 : ¬ 2 ^ 63 ≤ val l)
    (hn : (if x / 8 % 2 = 1 then -(val l : Int) - 1 else (val l : Int)) = n) (g4 : width n ≠ k) : wideP b x = (none_, 0, 2) := by
  unfold wideP; simp only; rw [if_neg g1, hk, if_neg g2, hl, if_neg g3, hn, if_pos g4]
theorem wideP_ok {n : Int} (g1 : ¬ x / 16 % 4 ≠ 0) (hk : x % 8 + 1 = k) (g2 : ¬ b.length < 1 + k) (hl : (b.drop 1).take k = l) (g3 : ¬ 2 ^ 63 ≤ val l)
    (hn : (if x / 8 % 2 = 1 then -(val l : Int) - 1 else (val l : Int)) = n) (g4 : ¬ width n ≠ k) : wideP b x = (⟨1, n, []⟩, 1 + k, 0) := by
  unfold wideP; simp only; rw [if_neg g1, hk, if_neg g2, hl, if_neg g3, hn, if_neg g4]
end

theorem val_step (l : List UInt8) (j k : Nat) (hl : l.length = k) (hj : j < k) (hk : k ≤ 8) : val (l.take j) * 256 + (l.getD j 0).toNat < 18446744073709551616 := by
  rw [← val_take_succ l j (by omega)]
  have hv := val_lt (l.take (j + 1))
  have hlen : (l.take (j + 1)).length = j + 1 := by rw [List.length_take]; omega
  rw [hlen] at hv
  have hp : 256 ^ (j + 1) ≤ 256 ^ 8 := Nat.pow_le_pow_right (by omega) (by omega)
  have e8 : (256 : Nat) ^ 8 = 18446744073709551616 := by decide
  rw [e8] at hp
  exact Nat.lt_of_lt_of_le hv hp

theorem val_lt64 (l : List UInt8) (h : l.length ≤ 8) : val l < 18446744073709551616 := by
  have hv := val_lt l
  have hp : 256 ^ l.length ≤ 256 ^ 8 := Nat.pow_le_pow_right (by omega) h
  have e8 : (256 : Nat) ^ 8 = 18446744073709551616 := by decide
  rw [e8] at hp
  exact Nat.lt_of_lt_of_le hv hp
theorem i64_xor_ones (m : Nat) (h : m < 9223372036854775808) : bits .xor .i64 (-1) (m : Int) = -(m : Int) - 1 := by
  show IntKind.i64.wrap ((BitVec.ofInt 64 (-1) ^^^ BitVec.ofInt 64 (m : Int)).toNat : Int) = _
  have h1 : BitVec.ofInt 64 (-1) = BitVec.allOnes 64 := by decide
  rw [h1, BitVec.xor_comm, BitVec.xor_allOnes, BitVec.toNat_not, BitVec.toNat_ofInt, IntKind.wrap_i64]
  omega
theorem wrap64_nat (m : Nat) (h : m < 9223372036854775808) : wrap64 (m : Int) = m := IntWalk.wrap64_in _ (by omega)
theorem ne_true {a b : Nat} (h : a ≠ b) : ((a : Int) != (b : Int)) = true := by rw [bne_iff_ne]; omega
theorem ne_false {a b : Nat} (h : ¬ a ≠ b) : ((a : Int) != (b : Int)) = false := by rw [bne_eq_false_iff_eq]; omega
theorem one_add_int (j : Nat) : ((1 + j : Nat) : Int) = 1 + (j : Int) := by omega
theorem wrap_u64_shl (m : Nat) (h : m * 256 < 18446744073709551616) : IntKind.u64.wrap ((m : Int) * 256) = (m : Int) * 256 := by
  rw [IntKind.wrap_u64]; omega
set_option maxRecDepth 100000 in
theorem wide_any (A : Option Addr) (b : List UInt8) (cap : Nat) (w : World) (hb : b.length ≤ maxLen) (hcap : b.length ≤ cap) (h0 : 0 < b.length) (hA : RdB w A b) :
    Calls Try.prog 137 #[.slice A b.length cap] w fun e w' => e = .returned (tri (wideP b (b.getD 0 0).toNat)) ∧ Below w.heap.size w w' := by
  unfold maxLen at hb
  obtain ⟨ad, rfl⟩ := hA.some_ h0
  have hA1 := hA.below (below_zit w)
  obtain ⟨_, e, c0⟩ := hA1.at_ h0
  cases e
  have H0 := Lib.hid h0
  have HX := Lib.hid (getD_lt b 0)
  have HA := Lib.hid hA1
  clear hA hA1
  generalize hx : (b.getD 0 0).toNat = x at *
  have hx8 : x < 256 := by have := (b.getD 0 0).toNat_lt; omega
  have h7 := and7_ ⟨x, hx8⟩
  have h48 := and48_ ⟨x, hx8⟩
  have h8 := and8_ ⟨x, hx8⟩
  simp only at h7 h48 h8
  generalize hR : wideP b x = R
  generalize hk : x % 8 + 1 = k at *
  have hk1 : (x : Int) % 8 + 1 = (k : Int) := by omega
  have hk0 : 1 ≤ k ∧ k ≤ 8 := by omega
  rw [add_nil] at c0
  unfold Zit at c0
  go_enter Try.func137, Try.ntmps137
  go_wp2_with fail
  go_quiet (fail)

  clear hk1 h7
  have hfin := below_set3 w nq
  by_cases g1 : x / 16 % 4 ≠ 0
  · rw [decide_eq_true g1] at h48
    go_wp2_with fail
    go_returns
    rw [← hR, wideP_form g1, tri_none]
    exact ⟨rfl, hfin _ _ _ _⟩
  · rw [decide_eq_false g1] at h48
    by_cases g2 : b.length < 1 + k
    · go_wp2_with fail
      go_returns
      rw [← hR, wideP_tail g1 hk g2, tri_none]
      exact ⟨rfl, hfin _ _ _ _⟩
    · have HL := Lib.hid (((HA.out.tail 1).take k).drewN nq)
      generalize hl : (b.drop 1).take k = l at *
      have hll : l.length = k := by rw [← hl]; simp; omega
      have Hl := Lib.hid hl
      clear hl
      rw [add_pos ad 1 (by omega)] at HL
      go_wp2_with fail
      go_loopw [7, 37] (fun m i wr => ∃ j : Nat, m = .int .u64 (val (l.take j) : Nat) ∧ i = .int .i64 j ∧ j ≤ k ∧ wr = (w.alloc (.cells #[.int .i64 0, .int .i64 0, .string ⟨#[]⟩] 164)).drewN nq) (fun _ i _ => k - (intOf i).toNat)
      case atStart => exact ⟨0, rfl, rfl, Nat.zero_le _, rfl⟩
      case round =>
        obtain ⟨j, rfl, rfl, hj, rfl⟩ := hrel
        by_cases hlt : j < k
        · obtain ⟨_, e, cj⟩ := HL.out.at_ (k := j) (by omega)
          cases e
          have hm1 := val_step l j k hll hlt hk0.2
          have hvs := val_take_succ l j (by omega)
          have hor := or_u64 (val (l.take j)) (l.getD j 0) hm1
          have hm2 : IntKind.u64.wrap (((val (l.take j) : Nat) : Int) * 256) = ((val (l.take j) : Nat) : Int) * 256 := wrap_u64_shl _ (Nat.lt_of_le_of_lt (Nat.le_add_right _ _) hm1)
          clear hm1
          have HVS := Lib.hid hvs
          clear hvs
          have hy := getD_lt l j
          unfold Zit at cj
          rw [add_mk] at cj
          generalize hm : val (l.take j) = m at *
          generalize (l.getD j 0) = y at *
          go_wp2_with fail
          refine ⟨⟨j + 1, ?_, by go_num, by omega, by first | trivial | rfl⟩, by simp [intOf]; omega⟩
          rw [HVS.out]; exact int_eq (by omega)
        · have hjk : j = k := by omega
          subst hjk
          rw [List.take_of_length_le (by omega)]
          have h256 := val_lt64 l (by omega)
          clear c0 HL HA HX H0 hx h48
          by_cases g3 : 2 ^ 63 ≤ val l
          · have hR' := wideP_over g1 hk g2 Hl.out g3
            have hq : ((val l : Nat) : Int) / 9223372036854775808 = 1 := by omega
            have hsg : IntKind.i64.signed = true := rfl
            generalize val l = m at *
            clear g3 h256 g1 Hl
            by_cases g4 : x / 8 % 2 = 1
            · rw [decide_eq_true g4] at h8
              clear g4 hk
              go_wp2_with fail
              go_returns
              exact ⟨by rw [← hR, hR', tri_none], hfin _ _ _ _⟩
            · rw [decide_eq_false g4] at h8
              clear g4 hk
              go_wp2_with fail
              go_returns
              exact ⟨by rw [← hR, hR', tri_none], hfin _ _ _ _⟩
          · have hlo : val l < 9223372036854775808 := by omega
            have hr : -9223372036854775808 ≤ -((val l : Nat) : Int) - 1 ∧ -((val l : Nat) : Int) - 1 < 9223372036854775808 := by omega
            have hr' : -9223372036854775808 ≤ ((val l : Nat) : Int) ∧ ((val l : Nat) : Int) < 9223372036854775808 := by omega
            have hq : ((val l : Nat) : Int) / 9223372036854775808 = 0 := by omega
            have hsg : IntKind.i64.signed = true := rfl
            have HR := Lib.hid hr
            have HR' := Lib.hid hr'
            clear hr hr'
            have hw := wrap64_nat (val l) hlo
            have hxo := i64_xor_ones (val l) hlo
            clear hlo
            have RW := Lib.hid (fun n => wideP_width (n := n) g1 hk g2 Hl.out g3)
            have RO := Lib.hid (fun n => wideP_ok (n := n) g1 hk g2 Hl.out g3)
            generalize val l = m at *
            clear g3 h256 g1 Hl
            by_cases g4 : x / 8 % 2 = 1
            · rw [decide_eq_true g4] at h8
              have RW' := Lib.hid (RW.out _ (by rw [if_pos g4]))
              have RO' := Lib.hid (RO.out _ (by rw [if_pos g4]))
              clear g4 hk RW RO HR'
              go_wp2_with fail
              refine (width_any _ HR.out _).mono ?_
              rintro e w' ⟨rfl, rfl⟩
              by_cases g5 : width (-(m : Int) - 1) ≠ j
              · have hne := ne_true g5
                generalize width (-(m : Int) - 1) = wd at *
                go_wp2_with fail
                go_returns
                exact ⟨by rw [← hR, RW'.out g5, tri_none], hfin _ _ _ _⟩
              · have hne := ne_false g5
                generalize width (-(m : Int) - 1) = wd at *
                go_wp2_with fail
                go_returns
                refine ⟨?_, hfin _ _ _ _⟩
                rw [← hR, RO'.out g5, tri_agg]
                rw [one_add_int]
            · rw [decide_eq_false g4] at h8
              have RW' := Lib.hid (RW.out _ (by rw [if_neg g4]))
              have RO' := Lib.hid (RO.out _ (by rw [if_neg g4]))
              clear g4 hk RW RO HR
              go_wp2_with fail
              refine (width_any _ HR'.out _).mono ?_
              rintro e w' ⟨rfl, rfl⟩
              by_cases g5 : width (m : Int) ≠ j
              · have hne := ne_true g5
                generalize width (m : Int) = wd at *
                go_wp2_with fail
                go_returns
                exact ⟨by rw [← hR, RW'.out g5, tri_none], hfin _ _ _ _⟩
              · have hne := ne_false g5
                generalize width (m : Int) = wd at *
                go_wp2_with fail
                go_returns
                refine ⟨?_, hfin _ _ _ _⟩
                rw [← hR, RO'.out g5, tri_agg]
                rw [one_add_int]
end Go.Proofs.Ytjmhfjioccljeaa
/-
  Walks of package field: First.
-/
namespace Go.Proofs.Ytjmhfjioccljeaa
open Go.RowKit Fld
set_option linter.unusedVariables false
set_option linter.unusedSimpArgs false

theorem or_pow (m x k : Nat) (hx : x < 2 ^ k) : m * 2 ^ k ||| x = m * 2 ^ k + x := by
  have := Nat.shiftLeft_add_eq_or_of_lt (a := m) (b := x) (i := k) hx
  rw [Nat.shiftLeft_eq] at this
  exact this.symm
theorem or_four (a b c d : Nat) (ha : a < 256) (hb : b < 256) (hc : c < 256) (hd : d < 256) :
    bits .or .i64 (bits .or .i64 (bits .or .i64 ((a : Int) * 16777216) ((b : Int) * 65536)) ((c : Int) * 256)) (d : Int) = ((((a * 256 + b) * 256 + c) * 256 + d : Nat) : Int) := by
  have e1 : ((a : Int) * 16777216) = ((a * 16777216 : Nat) : Int) := by omega
  have e2 : ((b : Int) * 65536) = ((b * 65536 : Nat) : Int) := by omega
  have e3 : ((c : Int) * 256) = ((c * 256 : Nat) : Int) := by omega
  rw [e1, e2, e3, i64_or_nat (a * 16777216) (b * 65536) (by omega) (by omega)]
  have h1 : a * 16777216 ||| b * 65536 = a * 16777216 + b * 65536 := or_pow a (b * 65536) 24 (by omega)
  rw [h1, i64_or_nat (a * 16777216 + b * 65536) (c * 256) (by omega) (by omega)]
  have h2 : (a * 16777216 + b * 65536) ||| c * 256 = a * 16777216 + b * 65536 + c * 256 := by
    have := or_pow (a * 256 + b) (c * 256) 16 (by omega)
    have e : (a * 256 + b) * 2 ^ 16 = a * 16777216 + b * 65536 := by omega
    rw [e] at this; exact this
  rw [h2, i64_or_nat (a * 16777216 + b * 65536 + c * 256) d (by omega) (by omega)]
  have h3 : (a * 16777216 + b * 65536 + c * 256) ||| d = a * 16777216 + b * 65536 + c * 256 + d := by
    have := or_pow ((a * 256 + b) * 256 + c) d 8 (by omega)
    have e : ((a * 256 + b) * 256 + c) * 2 ^ 8 = a * 16777216 + b * 65536 + c * 256 := by omega
    rw [e] at this; exact this
  rw [h3]; omega
theorem val_four_at (b : List UInt8) (h : 5 ≤ b.length) : val ((b.drop 1).take 4) = (((b.getD 1 0).toNat * 256 + (b.getD 2 0).toNat) * 256 + (b.getD 3 0).toNat) * 256 + (b.getD 4 0).toNat := by
  match b, h with
  | x :: a :: b :: c :: d :: t, _ => simp [val]
section
variable {x : UInt8} {t : List UInt8}
theorem firstP_low (h : x.toNat < 64) : firstP (x :: t) = (⟨1, x.toNat, []⟩, 1, 0) := by unfold firstP; simp only; rw [if_pos h]
theorem firstP_wide (h : ¬ x.toNat < 64) (h1 : x.toNat < 128) : firstP (x :: t) = wideP (x :: t) x.toNat := by unfold firstP; simp only; rw [if_neg h, if_pos h1]
theorem firstP_run (h : ¬ x.toNat < 128) (h1 : x.toNat < 255) : firstP (x :: t) = runP (x :: t) 1 (x.toNat - 128) := by unfold firstP; simp only; rw [if_neg (by omega), if_neg h, if_pos h1]
theorem firstP_tail (h : ¬ x.toNat < 255) (h1 : (x :: t).length < 5) : firstP (x :: t) = (none_, 0, 10) := by unfold firstP; simp only; rw [if_neg (by omega), if_neg (by omega), if_neg h, if_pos h1]
theorem firstP_form (h : ¬ x.toNat < 255) (h1 : ¬ (x :: t).length < 5) {n : Nat} (hn : val (((x :: t).drop 1).take 4) = n) (h2 : n < 127 ∨ 50000 < n) : firstP (x :: t) = (none_, 0, 2) := by
  unfold firstP; simp only; rw [if_neg (by omega), if_neg (by omega), if_neg h, if_neg h1, hn, if_pos h2]
theorem firstP_long (h : ¬ x.toNat < 255) (h1 : ¬ (x :: t).length < 5) {n : Nat} (hn : val (((x :: t).drop 1).take 4) = n) (h2 : ¬ (n < 127 ∨ 50000 < n)) : firstP (x :: t) = runP (x :: t) 5 n := by
  unfold firstP; simp only; rw [if_neg (by omega), if_neg (by omega), if_neg h, if_neg h1, hn, if_neg h2]
end
theorem below_store3 {w w' : World} (h : Below (w.heap.size + 1) (w.alloc Zit) w') (u v t : Value) :
    Below w.heap.size w (((w'.setCell ⟨w.heap.size, 0, none⟩ u).setCell ⟨w.heap.size, 1, none⟩ v).setCell ⟨w.heap.size, 2, none⟩ t) :=
  ((((below_zit w).trans (h.mono (by omega))).setCell (Nat.le_refl _) _).setCell (Nat.le_refl _) _).setCell (Nat.le_refl _) _
theorem blk_zit (w : World) : Blk (w.alloc Zit) w.heap.size 164 #[.int .i64 0, .int .i64 0, .string ⟨#[]⟩] := Blk.new w _ _

theorem blk3 {w : World} {g : Nat} {t : TypeId} {a b c : Value} (h : Blk w g t #[a, b, c]) :
    w.cell? ⟨g, 0, none⟩ = some a ∧ w.cell? ⟨g, 1, none⟩ = some b ∧ w.cell? ⟨g, 2, none⟩ = some c ∧ w.frozen? ⟨g, 0, none⟩ = false ∧ w.frozen? ⟨g, 1, none⟩ = false ∧ w.frozen? ⟨g, 2, none⟩ = false ∧
      (∀ u, (w.setCell ⟨g, 0, none⟩ u).cell? ⟨g, 0, none⟩ = some u) ∧ (∀ W : World, ∀ u v, W = w.setCell ⟨g, 0, none⟩ u → (W.setCell ⟨g, 1, none⟩ v).cell? ⟨g, 1, none⟩ = some v) ∧
      (∀ u v x, (((w.setCell ⟨g, 0, none⟩ u).setCell ⟨g, 1, none⟩ v).setCell ⟨g, 2, none⟩ x).cell? ⟨g, 2, none⟩ = some x) :=
  ⟨h.cell 0, h.cell 1, h.cell 2, h.frozen 0, h.frozen 1, h.frozen 2, fun u => (h.set_ 0 u).cell 0, fun W u v e => by rw [e]; exact ((h.set_ 0 u).set_ 1 v).cell 1, fun u v x => (((h.set_ 0 u).set_ 1 v).set_ 2 x).cell 2⟩
theorem wrap_i64_of (n : Int) (h : -9223372036854775808 ≤ n ∧ n ≤ 9223372036854775807) : IntKind.i64.wrap n = n := IntWalk.i64_in n h
set_option maxRecDepth 100000 in
set_option maxHeartbeats 1000000 in
theorem first_any (A : Option Addr) (b : List UInt8) (cap : Nat) (w : World) (hb : b.length ≤ maxLen) (hcap : b.length ≤ cap) (hA : RdB w A b) :
    Calls Try.prog 122 #[.slice A b.length cap] w fun e w' => e = .returned (tri (firstP b)) ∧ Below w.heap.size w w' := by
  cases b with
  | nil =>
    have hR : tri (firstP []) = .tuple #[.agg #[.int .i64 0, .int .i64 0, .string ⟨#[]⟩], .int .i64 0, .int .i64 10] := rfl
    go_enter Try.func122, Try.ntmps122
    go_wp2
    go_returns
    exact ⟨by rw [hR], below_zit w⟩
  | cons x t =>
    have h0 : 0 < (x :: t).length := by simp
    obtain ⟨ad, rfl⟩ := hA.some_ h0
    have hA1 := hA.below (below_zit w)
    obtain ⟨_, e, c0⟩ := hA1.at_ h0
    cases e
    rw [add_nil] at c0
    have hxe : (x :: t).getD 0 0 = x := rfl
    rw [hxe] at c0
    have hx := x.toNat_lt
    have hx' : (x.toNat : Int) < 256 := by omega
    have HA := Lib.hid hA1
    have HB := Lib.hid hb
    have HC := Lib.hid hcap
    have RL := Lib.hid (fun h => firstP_low (x := x) (t := t) h)
    have RW := Lib.hid (fun h h1 => firstP_wide (x := x) (t := t) h h1)
    have RR := Lib.hid (fun h h1 => firstP_run (x := x) (t := t) h h1)
    have RT := Lib.hid (fun h h1 => firstP_tail (x := x) (t := t) h h1)
    have RF := Lib.hid (fun h h1 n hn h2 => firstP_form (x := x) (t := t) h h1 (n := n) hn h2)
    have RG := Lib.hid (fun h h1 n hn h2 => firstP_long (x := x) (t := t) h h1 (n := n) hn h2)
    generalize hR : firstP (x :: t) = R at *
    generalize hbb : x :: t = b at *
    unfold maxLen at hb
    unfold Zit at c0
    clear hA hA1 hxe hcap
    have hb0 := blk_zit w
    have HBZ := Lib.hid hb0
    clear hb0
    have hl0 : ((b.length : Int) == 0) = false := by rw [beq_eq_false_iff_ne]; omega
    by_cases h64 : x.toNat < 64
    · have hR' := RL.out h64
      subst hR'
      go_enter Try.func122, Try.ntmps122
      go_wp2
      go_returns
      refine ⟨rfl, ?_⟩
      exact (Below.refl _ _).alloc (Nat.le_refl _) _
    · by_cases h128 : x.toNat < 128
      · have hR' := RW.out h64 h128
        have hw := wide_any (some ad) b cap (w.alloc Zit) HB.out HC.out h0 HA.out
        have hgx : b.getD 0 0 = x := by rw [← hbb]; rfl
        rw [hgx, ← hR'] at hw
        unfold Zit at hw
        have HW := Lib.hid hw
        clear hw
        go_enter Try.func122, Try.ntmps122
        go_wp2_with fail
        refine HW.out.mono ?_
        clear HW
        rintro e w' ⟨rfl, hb'⟩
        obtain ⟨c0', c1', c2', f0', f1', f2', r0, r1', r2⟩ := blk3 (HBZ.out.below hb' (by simp [Zit]))
        have HS := Lib.hid (below_store3 (hb'.mono (by simp [Zit])))
        have r1 := fun u v => r1' _ u v rfl
        clear r1'
        clear hb' hR hR' RL RW RR RT RF RG
        obtain ⟨⟨rk, rn, rs⟩, rm, re⟩ := R
        unfold tri It.v
        simp only
        go_wp2_with fail
        refine bodyPost_ret (by simp [results, Try.results122, go_sem, r0, r1, r2]; rfl) rfl ?_
        exact ⟨rfl, HS.out _ _ _⟩
      · by_cases h255 : x.toNat < 255
        · have hR' := RR.out h128 h255
          have hw := run_any (some ad) b cap 1 (x.toNat - 128) (w.alloc Zit) HB.out HC.out (by omega) (by omega) HA.out
          have e1 : ((x.toNat - 128 : Nat) : Int) = (x.toNat : Int) - 128 := by omega
          rw [← hR', e1] at hw
          unfold Zit at hw
          have HW := Lib.hid hw
          clear hw e1
          go_enter Try.func122, Try.ntmps122
          go_wp2_with fail
          refine HW.out.mono ?_
          clear HW
          rintro e w' ⟨rfl, hb'⟩
          obtain ⟨c0', c1', c2', f0', f1', f2', r0, r1', r2⟩ := blk3 (HBZ.out.below hb' (by simp [Zit]))
          have HS := Lib.hid (below_store3 (hb'.mono (by simp [Zit])))
          have r1 := fun u v => r1' _ u v rfl
          clear r1'
          clear hb' hR hR' RL RW RR RT RF RG
          obtain ⟨⟨rk, rn, rs⟩, rm, re⟩ := R
          unfold tri It.v
          simp only
          go_wp2_with fail
          refine bodyPost_ret (by simp [results, Try.results122, go_sem, r0, r1, r2]; rfl) rfl ?_
          exact ⟨rfl, HS.out _ _ _⟩
        · by_cases h5 : b.length < 5
          · have hR' := RT.out h255 h5
            go_enter Try.func122, Try.ntmps122
            go_wp2_with fail
            go_returns
            refine ⟨by rw [hR', tri_none], ?_⟩
            exact (Below.refl _ _).alloc (Nat.le_refl _) _
          · have hv := val_four_at b (by omega)
            have rf := or_four (b.getD 1 0).toNat (b.getD 2 0).toNat (b.getD 3 0).toNat (b.getD 4 0).toNat (b.getD 1 0).toNat_lt (b.getD 2 0).toNat_lt (b.getD 3 0).toNat_lt (b.getD 4 0).toNat_lt
            rw [← hv] at rf
            generalize val ((b.drop 1).take 4) = n at *
            obtain ⟨_, e, c1⟩ := HA.out.at_ (k := 1) (by omega)
            cases e
            obtain ⟨_, e, c2⟩ := HA.out.at_ (k := 2) (by omega)
            cases e
            obtain ⟨_, e, c3⟩ := HA.out.at_ (k := 3) (by omega)
            cases e
            obtain ⟨_, e, c4⟩ := HA.out.at_ (k := 4) (by omega)
            cases e
            have b1 := getD_lt b 1
            have b2 := getD_lt b 2
            have b3 := getD_lt b 3
            have b4 := getD_lt b 4
            rw [add_pos ad 1 (by omega)] at c1
            rw [add_pos ad 2 (by omega)] at c2
            rw [add_pos ad 3 (by omega)] at c3
            rw [add_pos ad 4 (by omega)] at c4
            unfold Zit at c1 c2 c3 c4
            have RF' := Lib.hid (RF.out h255 h5 n rfl)
            have RG' := Lib.hid (RG.out h255 h5 n rfl)
            have HV := Lib.hid hv
            clear hv RL RW RR RT RF RG
            generalize b.getD 1 0 = y1 at *
            generalize b.getD 2 0 = y2 at *
            generalize b.getD 3 0 = y3 at *
            generalize b.getD 4 0 = y4 at *
            go_enter Try.func122, Try.ntmps122
            go_wp2_with fail
            have u1 := wrap_i64_of ((y1.toNat : Int) * 16777216) (by omega)
            have u2 := wrap_i64_of ((y2.toNat : Int) * 65536) (by omega)
            have u3 := wrap_i64_of ((y3.toNat : Int) * 256) (by omega)
            go_quiet (fail)
            clear u1 u2 u3
            clear rf c1 c2 c3 c4 b1 b2 b3 b4 c0 HV
            by_cases g1 : n < 127
            · have hR' := RF'.out (.inl g1)
              clear RF' RG'
              go_wp2_with fail
              go_returns
              exact ⟨by first | (rw [hR', tri_none]) | (rw [tri_none]), below_set3 _ _ _ _ _ _⟩
            · by_cases g2 : 50000 < n
              · have hR' := RF'.out (.inr g2)
                clear RF' RG'
                go_wp2_with fail
                go_returns
                exact ⟨by first | (rw [hR', tri_none]) | (rw [tri_none]), below_set3 _ _ _ _ _ _⟩
              · have hR' := RG'.out (by omega)
                have hw := run_any (some ad) b cap 5 n ((w.alloc Zit).drewN nq) HB.out HC.out (by omega) (by omega) (HA.out.drewN nq)
                rw [← hR'] at hw
                unfold Zit at hw
                have HW := Lib.hid hw
                clear hw RF' RG'
                go_wp2_with fail
                refine HW.out.mono ?_
                clear HW
                rintro e w' ⟨rfl, hb1⟩
                have hb' : Below (w.alloc Zit).heap.size (w.alloc Zit) w' := (below_drewN (Below.refl _ _) nq).trans hb1
                clear hb1
                obtain ⟨c0', c1', c2', f0', f1', f2', r0, r1', r2⟩ := blk3 (HBZ.out.below hb' (by simp [Zit]))
                have HS := Lib.hid (below_store3 (hb'.mono (by simp [Zit])))
                have r1 := fun u v => r1' _ u v rfl
                clear r1' hb' hR hR'
                obtain ⟨⟨rk, rn, rs⟩, rm, re⟩ := R
                unfold tri It.v
                simp only
                go_wp2_with fail
                refine bodyPost_ret (by simp [results, Try.results122, go_sem, r0, r1, r2]; rfl) rfl ?_
                exact ⟨rfl, HS.out _ _ _⟩
end Go.Proofs.Ytjmhfjioccljeaa
/-
  Walks of package field: put.
-/
namespace Go.Proofs.Ytjmhfjioccljeaa
open Go.RowKit Fld
set_option linter.unusedVariables false
set_option linter.unusedSimpArgs false

theorem OwnB.lt_ {w : World} {base : Nat} {A : Option Addr} {c : Nat} {l : List UInt8} (h : OwnB w base A c l) : ∀ k, blk A = some k → base ≤ k ∧ k < w.heap.size := OwnR.lt h
/-- what put does -/
def PutSpec (base : Nat) (A : Option Addr) (l : List UInt8) (w : World) (e : Ending) (w' : World) : Prop :=
  ∃ A' c', e = .returned (.slice A' l.length c') ∧ OwnB w' base A' c' l ∧ Below base w w'

theorem rd_one (w : World) (o : Obj) (n : Nat) (v : Int) (h : n < 256) (hv : v = (n : Int)) : RdB ((w.alloc o).alloc (.cells #[.int .u8 v] 5)).drew (some ⟨w.heap.size + 1, 0, none⟩) [UInt8.ofNat n] := fun _ => by
  refine ⟨_, rfl, fun k hk => ?_⟩
  have hk0 : k = 0 := by simpa using hk
  subst hk0 hv
  have e : (UInt8.ofNat n).toNat = n := by rw [UInt8.toNat_ofNat']; omega
  have hsz : (w.alloc o).heap.size = w.heap.size + 1 := by simp
  have := cells_new (w.alloc o) [.int .u8 (n : Int)] 5 0 _ rfl
  rw [hsz] at this
  simp only [List.getD_cons_zero, e]
  exact this
theorem rd_five (w : World) (o : Obj) (x : UInt8) (l : List UInt8) (a b c d : Int) (h : [Value.int .u8 a, .int .u8 b, .int .u8 c, .int .u8 d] = bc l) (hx : x = 255) :
    RdB ((w.alloc o).alloc (.cells #[.int .u8 255, .int .u8 a, .int .u8 b, .int .u8 c, .int .u8 d] 5)).drew (some ⟨w.heap.size + 1, 0, none⟩) (x :: l) := fun _ => by
  refine ⟨_, rfl, fun k hk => ?_⟩
  subst hx
  have hsz : (w.alloc o).heap.size = w.heap.size + 1 := by simp
  have h2 : (#[.int .u8 255, .int .u8 a, .int .u8 b, .int .u8 c, .int .u8 d] : Array Value) = (bc (255 :: l)).toArray := by
    have : bc (255 :: l) = .int .u8 255 :: bc l := rfl
    rw [this, ← h]
  rw [h2]
  have := cells_new (w.alloc o) (bc (255 :: l)) 5 k _ (bc_get _ k hk)
  rw [hsz] at this
  exact this
theorem byte_of (n : Nat) (v : Int) (hv : v = (n : Int)) : IntKind.u8.wrap v = ((UInt8.ofNat n).toNat : Int) := by
  rw [IntKind.wrap_u8, hv, UInt8.toNat_ofNat']; omega
/-- the boxed item behind an append -/
theorem box_behind {w w1 : World} {A : Option Addr} {base c : Nat} {l : List UInt8} {cs : Array Value} {o : Obj} (hown : OwnB w base A c l)
    (hg : ((w.alloc (.cells cs 164)).alloc o).drew.grownBy w1 (blk A)) : Blk w1 w.heap.size 164 cs :=
  (((Blk.new w _ cs).alloc o).drew).grown hg (fun h => by have := (hown.lt_ _ h.symm).2; omega)
theorem put_below {w w1 w2 : World} {A A1 : Option Addr} {base c c1 : Nat} {l l1 : List UInt8} {o o' : Obj} (hbase : base ≤ w.heap.size) (hown : OwnB w base A c l)
    (hg1 : ((w.alloc o).alloc o').drew.grownBy w1 (blk A)) (hown1 : OwnB w1 base A1 c1 l1) (hg2 : w1.grownBy w2 (blk A1)) : Below base w w2 := by
  have h1 : Below base w ((w.alloc o).alloc o').drew := (((Below.refl _ _).alloc hbase _).alloc (by simp; omega) _).drew
  have hs := hg1.size
  simp at hs
  exact (h1.grown hg1 (by simp; omega) (fun k hk => (hown.lt_ k hk).1)).grown hg2 (by omega) (fun k hk => (hown1.lt_ k hk).1)
theorem slice_len {A : Option Addr} {n m c : Nat} (h : n = m) : Ending.returned (.slice A n c) = .returned (.slice A m c) := by rw [h]
set_option maxRecDepth 100000 in
set_option maxHeartbeats 1000000 in
theorem put_text (base : Nat) (A : Option Addr) (c : Nat) (l : List UInt8) (n : Int) (s : List UInt8) (w : World) (hown : OwnB w base A c l) (hbase : base ≤ w.heap.size) (hs : s.length ≤ 50000) (hlen : l.length + 50005 ≤ 140737488355328) :
    Calls Try.prog 121 #[.slice A l.length c, It.v ⟨2, n, s⟩] w fun e w' => PutSpec base A (l ++ encStr s) w e w' := by
  have hsz := str_size s
  generalize hE : l ++ encStr s = E
  unfold It.v
  simp only
  have HO := Lib.hid hown
  clear hown
  by_cases h0 : s.length < 127
  · go_enter Try.func121, Try.ntmps121
    go_wp2_with fail
    have hv8 : IntKind.u8.wrap (IntKind.i64.wrap (128 + (s.length : Int))) = ((128 + s.length : Nat) : Int) := by
      rw [IntWalk.i64_in _ (by omega), IntWalk.u8_in _ (by omega)]; omega
    have HV8 := Lib.hid hv8
    clear hv8
    go_region_law (first
      | (refine step_appRd rfl (.tmp 17) (.tmp 23) rfl base A l.length c l rfl rfl ?_ (some ⟨w.heap.size + 1, 0, none⟩) 1 1 [UInt8.ofNat (128 + s.length)] rfl rfl ?_ ?_ ?_ ?_
         · exact OwnR.alloc (OwnR.drew (OwnR.alloc HO.out _)) _
         · exact rd_one _ _ _ _ (by omega) HV8.out
         · simp; omega
         · simp; omega
         intro A1 c1 w1 hown1 hg1
         have cS := (box_behind HO.out hg1).cell 2
         simp at cS)
      | (refine step_appS rfl (.tmp 24) (.tmp 26) rfl base A1 (l.length + 1) c1 _ rfl ?_ hown1 s rfl ?_ ?_ ?_
         · simp
         · simp; omega
         · have := hg1.size; simp at this; omega
         intro A2 c2 w2 hown2 hg2))
    all_goals
      have HB := Lib.hid (put_below hbase HO.out hg1 hown1 hg2)
      have HO2 := Lib.hid hown2
      clear hg1 hg2 hown1 hown2 HO cS HV8
      go_wp2_with fail
      go_ret
      refine ⟨A2, c2, ?_, ?_, HB.out⟩
      · rw [← hE]; exact slice_len (by unfold encStr; rw [if_pos h0]; simp; omega)
      · have e : l ++ [UInt8.ofNat (128 + s.length)] ++ s = E := by rw [← hE]; unfold encStr; rw [if_pos h0]; simp
        rw [← e]; exact HO2.out
  · go_enter Try.func121, Try.ntmps121
    go_wp2_with fail
    have hb1 := byte_of (s.length / 16777216) ((s.length : Int) / 16777216) (by omega)
    have hb2 := byte_of (s.length / 65536) ((s.length : Int) / 65536) (by omega)
    have hb3 := byte_of (s.length / 256) ((s.length : Int) / 256) (by omega)
    have hb4 := byte_of s.length (s.length : Int) rfl
    have HV := Lib.hid (show [Value.int .u8 (IntKind.u8.wrap ((s.length : Int) / 16777216)), .int .u8 (IntKind.u8.wrap ((s.length : Int) / 65536)), .int .u8 (IntKind.u8.wrap ((s.length : Int) / 256)), .int .u8 (IntKind.u8.wrap (s.length : Int))] = bc (four s.length) by
      rw [hb1, hb2, hb3, hb4]; rfl)
    clear hb1 hb2 hb3 hb4
    go_region_law (first
      | (refine step_appRd rfl (.tmp 31) (.tmp 43) rfl base A l.length c l rfl rfl ?_ (some ⟨w.heap.size + 1, 0, none⟩) 5 5 (255 :: four s.length) rfl rfl ?_ ?_ ?_ ?_
         · exact OwnR.alloc (OwnR.drew (OwnR.alloc HO.out _)) _
         · exact rd_five _ _ _ _ _ _ _ _ HV.out rfl
         · simp [four]; omega
         · simp; omega
         intro A1 c1 w1 hown1 hg1
         have cS := (box_behind HO.out hg1).cell 2
         simp at cS)
      | (refine step_appS rfl (.tmp 44) (.tmp 46) rfl base A1 (l.length + 5) c1 _ rfl ?_ hown1 s rfl ?_ ?_ ?_
         · simp [four]
         · simp [four]; omega
         · have := hg1.size; simp at this; omega
         intro A2 c2 w2 hown2 hg2))
    all_goals
      have HB := Lib.hid (put_below hbase HO.out hg1 hown1 hg2)
      have HO2 := Lib.hid hown2
      clear hg1 hg2 hown1 hown2 HO cS HV
      go_wp2_with fail
      go_ret
      refine ⟨A2, c2, ?_, ?_, HB.out⟩
      · rw [← hE]; exact slice_len (by unfold encStr; rw [if_neg h0]; simp [four]; omega)
      · have e : l ++ (255 :: four s.length) ++ s = E := by rw [← hE]; unfold encStr; rw [if_neg h0]; simp
        rw [← e]; exact HO2.out
end Go.Proofs.Ytjmhfjioccljeaa
/-
  Walks of package field: put of a number.
-/
namespace Go.Proofs.Ytjmhfjioccljeaa
open Go.RowKit Fld
set_option linter.unusedVariables false
set_option linter.unusedSimpArgs false

/-- the first bytes of a number of k bytes, the highest first -/
def hi (m k j : Nat) : List UInt8 := (List.range j).map fun t => UInt8.ofNat (m / 256 ^ (k - 1 - t))
theorem hi_zero (m k : Nat) : hi m k 0 = [] := rfl
theorem hi_succ (m k j : Nat) : hi m k (j + 1) = hi m k j ++ [UInt8.ofNat (m / 256 ^ (k - 1 - j))] := by simp [hi, List.range_succ]
theorem hi_big (m : Nat) : hi m (bytesN m) (bytesN m) = big m := by
  induction m using Nat.strongRecOn with
  | ind m ih =>
    unfold big
    rw [bytesN]
    split
    · next h => simp [hi]
    · next h =>
      have h1 := bytesN_pos (m / 256)
      rw [hi_succ, ← ih (m / 256) (by omega)]
      have e1 : hi m (bytesN (m / 256) + 1) (bytesN (m / 256)) = hi (m / 256) (bytesN (m / 256)) (bytesN (m / 256)) := by
        unfold hi
        apply List.map_congr_left
        intro t ht
        simp only [List.mem_range] at ht
        have e2 : bytesN (m / 256) + 1 - 1 - t = (bytesN (m / 256) - 1 - t) + 1 := by omega
        rw [e2, Nat.pow_succ, Nat.mul_comm, Nat.div_div_eq_div_mul]
      rw [e1]
      have e3 : bytesN (m / 256) + 1 - 1 - bytesN (m / 256) = 0 := by omega
      rw [e3]
      congr 2
      apply UInt8.toNat_inj.1
      rw [UInt8.toNat_ofNat', UInt8.toNat_ofNat']; omega

theorem slice_val {A : Option Addr} {n m c : Nat} (h : n = m) : Value.slice A n c = .slice A m c := by rw [h]
theorem hi_length (m k j : Nat) : (hi m k j).length = j := by simp [hi]
theorem byte_at (m t : Nat) : (m : Int) / 2 ^ (8 * t) % 256 = ((UInt8.ofNat (m / 256 ^ t)).toNat : Int) := by
  have e : (256 : Nat) ^ t = 2 ^ (8 * t) := by rw [Nat.pow_mul]
  have e2 : ((2 : Int) ^ (8 * t)) = ((2 ^ (8 * t) : Nat) : Int) := (Int.natCast_pow 2 (8 * t)).symm
  rw [UInt8.toNat_ofNat', e, e2, ← Int.natCast_ediv]
  generalize m / 2 ^ (8 * t) = z
  omega
theorem rd_new1 (w : World) (n : Nat) (v : Int) (h : v = ((UInt8.ofNat n).toNat : Int)) : RdB (w.alloc (.cells #[.int .u8 v] 5)) (some ⟨w.heap.size, 0, none⟩) [UInt8.ofNat n] := fun _ => by
  refine ⟨_, rfl, fun k hk => ?_⟩
  subst h
  exact cells_new w (bc [UInt8.ofNat n]) 5 k _ (bc_get _ k hk)
theorem rd_box1 (w : World) (o : Obj) (n : Nat) (v : Int) (h : v = ((UInt8.ofNat n).toNat : Int)) : RdB ((w.alloc o).alloc (.cells #[.int .u8 v] 5)) (some ⟨w.heap.size + 1, 0, none⟩) [UInt8.ofNat n] := by
  have := rd_new1 (w.alloc o) n v h
  have hsz : (w.alloc o).heap.size = w.heap.size + 1 := by simp
  rw [hsz] at this; exact this
theorem box_behind' {w w1 : World} {A : Option Addr} {base c : Nat} {l : List UInt8} {cs : Array Value} {o : Obj} (hown : OwnB w base A c l)
    (hg : ((w.alloc (.cells cs 164)).alloc o).grownBy w1 (blk A)) : Blk w1 w.heap.size 164 cs :=
  ((Blk.new w _ cs).alloc o).grown hg (fun h => by have := (hown.lt_ _ h.symm).2; omega)
set_option maxRecDepth 100000 in
set_option maxHeartbeats 1000000 in
theorem put_num (base : Nat) (A : Option Addr) (c : Nat) (l : List UInt8) (n : Int) (hn : -9223372036854775808 ≤ n ∧ n < 9223372036854775808) (s : List UInt8) (w : World) (hown : OwnB w base A c l) (hbase : base ≤ w.heap.size) (hlen : l.length + 50005 ≤ 140737488355328) :
    Calls Try.prog 121 #[.slice A l.length c, It.v ⟨1, n, s⟩] w fun e w' => PutSpec base A (l ++ encNum n) w e w' := by
  generalize hE : l ++ encNum n = E
  unfold It.v
  simp only
  have HN := Lib.hid hn
  have HO := Lib.hid hown
  clear hown
  by_cases h0 : 0 ≤ n ∧ n < 64
  · have hw0 : width n = 0 := by unfold width; rw [if_pos h0]
    go_enter Try.func121, Try.ntmps121
    go_wp2_with fail
    refine (width_any _ HN.out _).mono ?_
    rintro e w' ⟨rfl, rfl⟩
    rw [hw0]
    have hb0 : n = ((UInt8.ofNat n.toNat).toNat : Int) := by rw [UInt8.toNat_ofNat']; omega
    have HB0 := Lib.hid hb0
    clear hb0
    go_wp2_with (at_builtin; refine wpList_appRd (.inl rfl) (.tmp 53) (.tmp 57) rfl base A l.length c l rfl rfl (OwnR.alloc (OwnR.alloc HO.out _) _) (some ⟨w.heap.size + 1, 0, none⟩) 1 1 [UInt8.ofNat n.toNat] rfl rfl (rd_box1 w _ _ _ HB0.out) (by simp; omega) (by simp; omega) ?_; (intro A1 c1 w1 hown1 hg1 hat1))
    go_ret
    refine ⟨A1, c1, ?_, ?_, ?_⟩
    · rw [← hE]; exact slice_len (by unfold encNum; rw [if_pos h0]; simp)
    · rw [← hE]; unfold encNum; rw [if_pos h0]; exact hown1
    · exact ((((Below.refl _ _).alloc hbase _).alloc (by simp; omega) _)).grown hg1 (by simp; omega) (fun k hk => (HO.out.lt_ k hk).1)
  · have hw0 : width n = bytesN (mag n) := by unfold width; rw [if_neg h0]
    have hm := mag_lt hn
    have hx := i64_xor_sign n hn
    have h8 := bytesN_le8 (m := mag n) (by omega)
    have h1 := bytesN_pos (mag n)
    have HBIG := Lib.hid (hi_big (mag n))
    have hE' : l ++ (UInt8.ofNat (63 + bytesN (mag n) + (if n < 0 then 8 else 0)) :: big (mag n)) = E := by rw [← hE]; unfold encNum; rw [if_neg h0]
    have HE := Lib.hid hE'
    clear hE' hE
    have HX := Lib.hid hx
    clear hx
    by_cases hneg : n < 0
    · rw [if_pos hneg] at HE
      go_enter Try.func121, Try.ntmps121
      go_wp2_with fail
      refine (width_any _ HN.out _).mono ?_
      rintro e w' ⟨rfl, rfl⟩
      rw [hw0]
      clear hw0 h0
      generalize bytesN (mag n) = k at *
      have hk0 : ((k : Int) == 0) = false := by rw [beq_eq_false_iff_ne]; omega
      have HB1 := Lib.hid (show 64 + (k : Int) - 1 + 8 = ((UInt8.ofNat (63 + k + 8)).toNat : Int) by rw [UInt8.toNat_ofNat']; omega)
      have hx := HX.out
      go_wp2_with (at_builtin; go_loud (refine wpList_appRd (.inl rfl) (.tmp 67) (.tmp 70) rfl base A l.length c l rfl rfl (OwnR.alloc (OwnR.alloc HO.out _) _) (some ⟨w.heap.size + 1, 0, none⟩) 1 1 [UInt8.ofNat (63 + k + 8)] rfl rfl (rd_box1 w _ _ _ HB1.out) (by simp; omega) (by simp; omega) ?_; (intro A1 c1 w1 hown1 hg1 hat1; have cS := (box_behind' HO.out hg1).cell 1; simp at cS)))
      have HB := Lib.hid (((((Below.refl base w).alloc hbase _).alloc (by simp; omega) _)).grown hg1 (by simp; omega) (fun k hk => (HO.out.lt_ k hk).1))
      have HO1 := Lib.hid hown1
      clear hown1 hg1 hat1 HB1
      go_loopw [0, 9] (fun b i wr => ∃ (j : Nat) (A2 : Option Addr) (c2 : Nat), b = .slice A2 (l.length + 1 + j) c2 ∧ i = .int .i64 (8 * ((k : Int) - 1 - j)) ∧ j ≤ k ∧ Hid (OwnB wr base A2 c2 (l ++ [UInt8.ofNat (63 + k + 8)] ++ hi (mag n) k j)) ∧ Hid (Below base w wr)) (fun _ i _ => (intOf i + 8).toNat)
      case atStart => exact ⟨0, A1, c1, rfl, by simp, Nat.zero_le _, by rw [hi_zero, List.append_nil]; exact HO1, HB⟩
      case round =>
        obtain ⟨j, A2, c2, rfl, rfl, hj, HO2, HB2⟩ := hrel
        have hHL : (l ++ [UInt8.ofNat (63 + k + 8)] ++ hi (mag n) k j).length = l.length + 1 + j := by simp [hi_length]; omega
        have hHN : l ++ [UInt8.ofNat (63 + k + 8)] ++ hi (mag n) k (j + 1) = l ++ [UInt8.ofNat (63 + k + 8)] ++ hi (mag n) k j ++ [UInt8.ofNat (mag n / 256 ^ (k - 1 - j))] := by rw [hi_succ]; simp
        have HNX := Lib.hid hHN
        clear hHN
        by_cases hlt : j < k
        · have hge : 0 ≤ 8 * ((k : Int) - 1 - j) := by omega
          have HV := Lib.hid (byte_at (mag n) (k - 1 - j))
          have HBs := Lib.hid (Nat.le_trans hbase HB2.out.size)
          generalize l ++ [UInt8.ofNat (63 + k + 8)] ++ hi (mag n) k j = L at *
          have HL := Lib.hid hHL
          clear hHL
          go_wp2_with (at_builtin; refine wpList_appRd (.inl rfl) (.tmp 86) (.tmp 91) rfl base A2 (l.length + 1 + j) c2 L rfl HL.out.symm (OwnR.alloc HO2.out _) (some ⟨wr.heap.size, 0, none⟩) 1 1 [UInt8.ofNat (mag n / 256 ^ (k - 1 - j))] rfl rfl (rd_new1 wr _ _ HV.out) (by rw [HL.out]; simp; omega) (by have := HBs.out; simp; omega) ?_; (intro A3 c3 w3 hown3 hg3 hat3))
          have h3 := HL.out
          refine ⟨⟨j + 1, A3, c3, slice_val (by omega), int_eq (by omega), by omega, ?_, ?_⟩, ?_⟩
          · rw [HNX.out]; exact hown3
          · exact (HB2.out.alloc (HBs.out) _).grown hg3 (by have := HBs.out; simp; omega) (fun k hk => (OwnB.lt_ HO2.out k hk).1)
          · simp [intOf]; omega
        · have hjk : j = k := by omega
          subst hjk
          go_wp2_with fail
          go_ret
          refine ⟨A2, c2, ?_, ?_, HB2.out⟩
          · exact slice_len (by rw [← HE.out, ← HBIG.out]; simp [hi_length]; omega)
          · have h2 := HO2.out
            rw [HBIG.out] at h2
            rw [← HE.out]
            simpa using h2
    · rw [if_neg hneg, Nat.add_zero] at HE
      go_enter Try.func121, Try.ntmps121
      go_wp2_with fail
      refine (width_any _ HN.out _).mono ?_
      rintro e w' ⟨rfl, rfl⟩
      rw [hw0]
      clear hw0 h0
      generalize bytesN (mag n) = k at *
      have hk0 : ((k : Int) == 0) = false := by rw [beq_eq_false_iff_ne]; omega
      have HB1 := Lib.hid (show 64 + (k : Int) - 1 = ((UInt8.ofNat (63 + k)).toNat : Int) by rw [UInt8.toNat_ofNat']; omega)
      have hx := HX.out
      go_wp2_with (at_builtin; go_loud (refine wpList_appRd (.inl rfl) (.tmp 67) (.tmp 70) rfl base A l.length c l rfl rfl (OwnR.alloc (OwnR.alloc HO.out _) _) (some ⟨w.heap.size + 1, 0, none⟩) 1 1 [UInt8.ofNat (63 + k)] rfl rfl (rd_box1 w _ _ _ HB1.out) (by simp; omega) (by simp; omega) ?_; (intro A1 c1 w1 hown1 hg1 hat1; have cS := (box_behind' HO.out hg1).cell 1; simp at cS)))
      have HB := Lib.hid (((((Below.refl base w).alloc hbase _).alloc (by simp; omega) _)).grown hg1 (by simp; omega) (fun k hk => (HO.out.lt_ k hk).1))
      have HO1 := Lib.hid hown1
      clear hown1 hg1 hat1 HB1
      go_loopw [0, 9] (fun b i wr => ∃ (j : Nat) (A2 : Option Addr) (c2 : Nat), b = .slice A2 (l.length + 1 + j) c2 ∧ i = .int .i64 (8 * ((k : Int) - 1 - j)) ∧ j ≤ k ∧ Hid (OwnB wr base A2 c2 (l ++ [UInt8.ofNat (63 + k)] ++ hi (mag n) k j)) ∧ Hid (Below base w wr)) (fun _ i _ => (intOf i + 8).toNat)
      case atStart => exact ⟨0, A1, c1, rfl, by simp, Nat.zero_le _, by rw [hi_zero, List.append_nil]; exact HO1, HB⟩
      case round =>
        obtain ⟨j, A2, c2, rfl, rfl, hj, HO2, HB2⟩ := hrel
        have hHL : (l ++ [UInt8.ofNat (63 + k)] ++ hi (mag n) k j).length = l.length + 1 + j := by simp [hi_length]; omega
        have hHN : l ++ [UInt8.ofNat (63 + k)] ++ hi (mag n) k (j + 1) = l ++ [UInt8.ofNat (63 + k)] ++ hi (mag n) k j ++ [UInt8.ofNat (mag n / 256 ^ (k - 1 - j))] := by rw [hi_succ]; simp
        have HNX := Lib.hid hHN
        clear hHN
        by_cases hlt : j < k
        · have hge : 0 ≤ 8 * ((k : Int) - 1 - j) := by omega
          have HV := Lib.hid (byte_at (mag n) (k - 1 - j))
          have HBs := Lib.hid (Nat.le_trans hbase HB2.out.size)
          generalize l ++ [UInt8.ofNat (63 + k)] ++ hi (mag n) k j = L at *
          have HL := Lib.hid hHL
          clear hHL
          go_wp2_with (at_builtin; refine wpList_appRd (.inl rfl) (.tmp 86) (.tmp 91) rfl base A2 (l.length + 1 + j) c2 L rfl HL.out.symm (OwnR.alloc HO2.out _) (some ⟨wr.heap.size, 0, none⟩) 1 1 [UInt8.ofNat (mag n / 256 ^ (k - 1 - j))] rfl rfl (rd_new1 wr _ _ HV.out) (by rw [HL.out]; simp; omega) (by have := HBs.out; simp; omega) ?_; (intro A3 c3 w3 hown3 hg3 hat3))
          have h3 := HL.out
          refine ⟨⟨j + 1, A3, c3, slice_val (by omega), int_eq (by omega), by omega, ?_, ?_⟩, ?_⟩
          · rw [HNX.out]; exact hown3
          · exact (HB2.out.alloc (HBs.out) _).grown hg3 (by have := HBs.out; simp; omega) (fun k hk => (OwnB.lt_ HO2.out k hk).1)
          · simp [intOf]; omega
        · have hjk : j = k := by omega
          subst hjk
          go_wp2_with fail
          go_ret
          refine ⟨A2, c2, ?_, ?_, HB2.out⟩
          · exact slice_len (by rw [← HE.out, ← HBIG.out]; simp [hi_length]; omega)
          · have h2 := HO2.out
            rw [HBIG.out] at h2
            rw [← HE.out]
            simpa using h2
end Go.Proofs.Ytjmhfjioccljeaa
/-
  Walks of package field: put of any item, Size; words for memory: rows of items.
-/
namespace Go.Proofs.Ytjmhfjioccljeaa
open Go.RowKit Fld
set_option linter.unusedVariables false
set_option linter.unusedSimpArgs false

theorem put_any (base : Nat) (A : Option Addr) (c : Nat) (l : List UInt8) (i : It) (hg : Fld.Good i) (hr : Ranged i) (w : World) (hown : OwnB w base A c l) (hbase : base ≤ w.heap.size) (hlen : l.length + 50005 ≤ 140737488355328) :
    Calls Try.prog 121 #[.slice A l.length c, It.v i] w fun e w' => PutSpec base A (l ++ enc i) w e w' := by
  rcases good_cases hg with ⟨h1, h2⟩ | ⟨h1, h2, h3⟩
  · have e : enc i = encNum i.num := enc_number h1
    obtain ⟨a, b, s⟩ := i
    simp only at h1
    subst h1
    rw [e]
    exact put_num base A c l b hr s w hown hbase hlen
  · have e : enc i = encStr i.str := by unfold enc; rw [if_pos h1]
    obtain ⟨a, b, s⟩ := i
    simp only at h1
    subst h1
    rw [e]
    exact put_text base A c l b s w hown hbase h3 hlen
/-- an item's size, or the error -/
def sizeP (i : It) : Nat × Int := if check i = 0 then ((enc i).length, 0) else (0, check i)
/-- '(how many, error)' -/
def two (r : Nat × Int) : Value := .tuple #[.int .i64 (r.1 : Nat), .int .i64 r.2]
theorem width_le (n : Int) (h : -9223372036854775808 ≤ n ∧ n < 9223372036854775808) : width n ≤ 8 := by
  unfold width
  split
  · omega
  · exact bytesN_le8 (by have := mag_lt h; omega)
theorem boxIt_below (w : World) (a b c : Value) : Below w.heap.size w (w.alloc (.cells #[a, b, c] 164)) := (Below.refl _ _).alloc (Nat.le_refl _) _
/-- the cells cs lie where A points -/
def RdC (w : World) (A : Option Addr) (cs : List Value) : Prop := 0 < cs.length → ∃ ad, A = some ad ∧ ∀ j u, cs[j]? = some u → w.cell? (ad.add j) = some u
/-- the cells of items -/
def icI (l : List It) : List Value := l.flatMap fun i => [.int .i64 i.kind, .int .i64 i.num, .string ⟨i.str.toArray⟩]
theorem icI_nil : icI [] = [] := rfl
theorem icI_cons (i : It) (l : List It) : icI (i :: l) = .int .i64 i.kind :: .int .i64 i.num :: .string ⟨i.str.toArray⟩ :: icI l := by simp [icI]
theorem icI_append (a b : List It) : icI (a ++ b) = icI a ++ icI b := by simp [icI]
theorem icI_length (l : List It) : (icI l).length = l.length * 3 := by
  induction l with
  | nil => rfl
  | cons i l ih => rw [icI_cons]; simp [ih]; omega
theorem icI_one (l : List It) : ∀ u ∈ icI l, u.oneCell' = true := by
  intro u hu
  induction l with
  | nil => simp [icI] at hu
  | cons i l ih =>
    rw [icI_cons] at hu
    rcases List.mem_cons.1 hu with rfl | hu
    · rfl
    rcases List.mem_cons.1 hu with rfl | hu
    · rfl
    rcases List.mem_cons.1 hu with rfl | hu
    · rfl
    exact ih hu
theorem icI_get (l : List It) (k : Nat) (hk : k < l.length) :
    (icI l)[3 * k]? = some (.int .i64 (l.getD k none_).kind) ∧ (icI l)[3 * k + 1]? = some (.int .i64 (l.getD k none_).num) ∧ (icI l)[3 * k + 2]? = some (.string ⟨(l.getD k none_).str.toArray⟩) := by
  induction l generalizing k with
  | nil => simp at hk
  | cons i l ih =>
    cases k with
    | zero => simp [icI_cons]
    | succ k =>
      have := ih k (by simpa using hk)
      have e0 : 3 * (k + 1) = 3 * k + 1 + 1 + 1 := by omega
      rw [e0, icI_cons]
      simp only [List.getElem?_cons_succ, List.getD_cons_succ]
      exact this
def RdI (w : World) (A : Option Addr) (l : List It) : Prop := RdC w A (icI l)
theorem RdI.some_ {w : World} {A : Option Addr} {l : List It} (h : RdI w A l) (hl : 0 < l.length) : ∃ ad, A = some ad := by
  obtain ⟨ad, e, _⟩ := h (by rw [icI_length]; omega)
  exact ⟨ad, e⟩
theorem RdI.at_ {w : World} {A : Option Addr} {l : List It} {k : Nat} (h : RdI w A l) (hk : k < l.length) :
    ∃ ad, A = some ad ∧ w.cell? (ad.add (3 * k)) = some (.int .i64 (l.getD k none_).kind) ∧ w.cell? (ad.add (3 * k + 1)) = some (.int .i64 (l.getD k none_).num) ∧ w.cell? (ad.add (3 * k + 2)) = some (.string ⟨(l.getD k none_).str.toArray⟩) := by
  obtain ⟨ad, e, hc⟩ := h (by rw [icI_length]; omega)
  obtain ⟨h0, h1, h2⟩ := icI_get l k hk
  exact ⟨ad, e, hc _ _ h0, hc _ _ h1, hc _ _ h2⟩
theorem RdC.below {w w' : World} {A : Option Addr} {cs : List Value} (h : RdC w A cs) (hb : Below w.heap.size w w') : RdC w' A cs := fun hl => by
  obtain ⟨ad, e, hc⟩ := h hl
  refine ⟨ad, e, fun j u hu => ?_⟩
  have h1 := hc j u hu
  have h2 := World.block_lt_of_cell? _ _ h1
  rw [hb.cell h2]; exact h1
theorem RdI.below {w w' : World} {A : Option Addr} {l : List It} (h : RdI w A l) (hb : Below w.heap.size w w') : RdI w' A l := RdC.below h hb
theorem RdI.below_ {B : Nat} {w w' : World} {A : Option Addr} {l : List It} (h : RdI w A l) (hb : Below B w w') (hA : ∀ k, blk A = some k → k < B) : RdI w' A l := fun hl => by
  obtain ⟨ad, e, hc⟩ := h hl
  refine ⟨ad, e, fun j u hu => ?_⟩
  rw [hb.cell (by rw [block_of_add]; exact hA _ (by rw [e]; rfl))]; exact hc j u hu
theorem RdI.lt {w : World} {A : Option Addr} {l : List It} (h : RdI w A l) (hl : 0 < l.length) : ∀ k, blk A = some k → k < w.heap.size := by
  obtain ⟨ad, e, hc⟩ := h (by rw [icI_length]; omega)
  intro k hk
  rw [e] at hk
  cases hk
  have := World.block_lt_of_cell? _ _ (hc 0 _ (icI_get l 0 hl).1)
  rwa [block_of_add] at this
end Go.Proofs.Ytjmhfjioccljeaa
/-
  Walks of package field: Row.
-/
namespace Go.Proofs.Ytjmhfjioccljeaa
open Go.RowKit Fld
set_option linter.unusedVariables false
set_option linter.unusedSimpArgs false

/-- Row's error, and her bytes -/
def rowE (l : List It) : Int := if 4000 < l.length then 14 else worst l
def rowB (l : List It) : List UInt8 := if rowE l = 0 then encs l else []
/-- what Row does -/
def RowSpec (base : Nat) (l : List It) (w : World) (e : Ending) (w' : World) : Prop :=
  ∃ A' c', e = .returned (.tuple #[.slice A' (rowB l).length c', .int .i64 (rowE l)]) ∧ OwnB w' base A' c' (rowB l) ∧ Below base w w'
theorem worst_take_succ (l : List It) (j : Nat) (hj : j < l.length) : worst (l.take (j + 1)) = max (worst (l.take j)) (check (l.getD j none_)) := by
  rw [take_snoc l j hj, getD_eq l j none_ hj]
  unfold worst
  rw [List.foldl_append]; rfl
theorem encs_take_succ (l : List It) (j : Nat) (hj : j < l.length) : encs (l.take (j + 1)) = encs (l.take j) ++ enc (l.getD j none_) := by
  rw [take_snoc l j hj, getD_eq l j none_ hj, encs_append]; simp [encs]
theorem worst_cases (l : List It) : worst l = 0 ∨ worst l = 2 ∨ worst l = 14 := by
  induction l with
  | nil => simp [worst]
  | cons i l ih => rw [worst_cons]; rcases check_cases i with h | h | h <;> rcases ih with h' | h' | h' <;> rw [h, h'] <;> decide
theorem enc_le (i : It) (hg : Fld.Good i) (hr : Ranged i) : (enc i).length ≤ 50005 := by
  rcases good_cases hg with ⟨h1, h2⟩ | ⟨h1, h2, h3⟩
  · rw [enc_number h1, encNum_length]; have := width_le i.num hr; omega
  · have : (enc i).length = if i.str.length < 127 then 1 + i.str.length else 5 + i.str.length := by unfold enc; rw [if_pos h1, encStr_length]
    rw [this]; split <;> omega
theorem encs_le (l : List It) (h : ∀ i ∈ l, Fld.Good i ∧ Ranged i) : (encs l).length ≤ 50005 * l.length := by
  induction l with
  | nil => simp [encs]
  | cons i l ih =>
    have h1 := ih fun j hj => h j (by simp [hj])
    have h2 := enc_le i (h i (by simp)).1 (h i (by simp)).2
    have : encs (i :: l) = enc i ++ encs l := by simp [encs]
    rw [this, List.length_append, List.length_cons]; omega
/-- an item's cells as the walk spells them -/
theorem RdI.cells {w : World} {A : Option Addr} {l : List It} {k : Nat} (h : RdI w A l) (hk : k < l.length) :
    ∃ ad, A = some ad ∧ w.cell? (ad.add (k * 3)) = some (.int .i64 (l.getD k none_).kind) ∧ w.cell? ⟨(ad.add (k * 3)).block, (ad.add (k * 3)).off + 1, none⟩ = some (.int .i64 (l.getD k none_).num) ∧
      w.cell? ⟨(ad.add (k * 3)).block, (ad.add (k * 3)).off + 2, none⟩ = some (.string ⟨(l.getD k none_).str.toArray⟩) := by
  obtain ⟨ad, e, h0, h1, h2⟩ := h.at_ hk
  have e1 : ad.add (3 * k + 1) = ⟨(ad.add (k * 3)).block, (ad.add (k * 3)).off + 1, none⟩ := by
    rw [← add_of_add, Nat.mul_comm, add_pos _ 1 (by omega)]
  have e2 : ad.add (3 * k + 2) = ⟨(ad.add (k * 3)).block, (ad.add (k * 3)).off + 2, none⟩ := by
    rw [← add_of_add, Nat.mul_comm, add_pos _ 2 (by omega)]
  rw [e1] at h1
  rw [e2] at h2
  rw [Nat.mul_comm] at h0
  exact ⟨ad, e, h0, h1, h2⟩
theorem max_err (a b : Int) : (if a < b then b else a) = max a b := by omega
set_option maxRecDepth 100000 in
set_option maxHeartbeats 1000000 in
theorem row_any (A : Option Addr) (l : List It) (cap : Nat) (w : World) (hm : l.length ≤ maxLen) (hA : RdI w A l) (hl : ∀ i ∈ l, i.str.length ≤ maxLen ∧ Ranged i) :
    Calls Try.prog 111 #[.slice A l.length cap] w fun e w' => RowSpec w.heap.size l w e w' := by
  unfold maxLen at hm
  have HA := Lib.hid hA
  have HL := Lib.hid hl
  clear hA hl
  by_cases h0 : 4000 < l.length
  · have he : rowE l = 14 := by unfold rowE; rw [if_pos h0]
    have hb : rowB l = [] := by unfold rowB; rw [he]; rfl
    unfold RowSpec
    rw [he, hb]
    go_enter Try.func111, Try.ntmps111
    go_wp2
    go_ret2
    exact ⟨none, 0, rfl, OwnB.nil _ _, Below.refl _ _⟩
  · have he : rowE l = worst l := by unfold rowE; rw [if_neg h0]
    have HE := Lib.hid he
    clear he
    have h0' : l.length ≤ 4000 := by omega
    clear h0
    go_enter Try.func111, Try.ntmps111
    go_wp2
    go_loopw [15, 4] (fun i e wr => ∃ (j : Nat), i = .int .i64 (j : Int) ∧ e = .int .i64 (worst (l.take j)) ∧ j ≤ l.length ∧ Hid (Below w.heap.size w wr)) (fun i _ _ => l.length - (intOf i).toNat)
    case atStart => exact ⟨0, rfl, rfl, Nat.zero_le _, Lib.hid (Below.refl _ _)⟩
    case round =>
      obtain ⟨j, rfl, rfl, hj, HB⟩ := hrel
      by_cases hlt : j < l.length
      · obtain ⟨ad, rfl⟩ := HA.out.some_ (by omega)
        obtain ⟨_, e, c0, c1, c2⟩ := (HA.out.below HB.out).cells hlt
        cases e
        have HI := Lib.hid (HL.out (l.getD j none_) (by rw [getD_eq _ _ _ hlt]; exact List.getElem_mem hlt))
        have HS := Lib.hid (worst_take_succ l j hlt)
        generalize l.getD j none_ = it at *
        generalize worst (l.take j) = e0 at *
        go_wp2_with fail
        refine (check_any it HI.out.1 _).mono ?_
        rintro e w1 ⟨rfl, hb1⟩
        have HB1 := Lib.hid (HB.out.trans (((boxIt_below wr _ _ _).trans (hb1.mono (by simp))).mono HB.out.size))
        clear hb1
        have HX := Lib.hid (max_err e0 (check it))
        generalize check it = ck at *
        go_wp2_with fail
        refine ⟨⟨j + 1, int_eq (by omega), ?_, by omega, HB1⟩, ?_⟩
        · rw [HS.out]
        · simp [intOf]; omega
      · have hjl : j = l.length := by omega
        subst hjl
        have HW := Lib.hid (worst_cases l)
        have HT : Hid (l.take l.length = l) := Lib.hid (List.take_length)
        rw [HT.out]
        have HZ := Lib.hid (worst_zero l)
        generalize worst l = e0 at *
        by_cases hz : e0 = 0
        · subst hz
          have HG := Lib.hid (HZ.out.1 rfl)
          have hb : rowB l = encs l := by unfold rowB; rw [HE.out]; rfl
          have HRB := Lib.hid hb
          clear hb hlt hj HZ HW HT
          go_wp2_with fail
          go_loopw [29, 7] (fun i b w2 => ∃ (j : Nat) (A2 : Option Addr) (c2 : Nat), i = .int .i64 (j : Int) ∧ b = .slice A2 (encs (l.take j)).length c2 ∧ j ≤ l.length ∧ Hid (OwnB w2 w.heap.size A2 c2 (encs (l.take j))) ∧ Hid (Below w.heap.size w w2)) (fun i _ _ => l.length - (intOf i).toNat)
          case atStart => exact ⟨0, none, 0, rfl, rfl, Nat.zero_le _, Lib.hid (OwnB.nil _ _), HB⟩
          case round =>
            clear HB
            obtain ⟨j, A2, c2, rfl, rfl, hj, HO, HB⟩ := hrel
            by_cases hlt : j < l.length
            · obtain ⟨ad, rfl⟩ := HA.out.some_ (by omega)
              obtain ⟨_, e, d0, d1, d2⟩ := (HA.out.below HB.out).cells hlt
              cases e
              have hmem : l.getD j none_ ∈ l := by rw [getD_eq _ _ _ hlt]; exact List.getElem_mem hlt
              have HI := Lib.hid (HL.out _ hmem)
              have HGI := Lib.hid (HG.out _ hmem)
              have HS := Lib.hid (encs_take_succ l j hlt)
              have HLen := Lib.hid (encs_le (l.take j) fun i hi => ⟨HG.out i (List.mem_of_mem_take hi), (HL.out i (List.mem_of_mem_take hi)).2⟩)
              have HTL : Hid ((l.take j).length = j) := Lib.hid (by rw [List.length_take]; omega)
              generalize l.getD j none_ = it at *
              generalize hP : encs (l.take j) = P at *
              clear hmem
              go_wp2_with fail
              refine (put_any w.heap.size A2 c2 P it HGI.out HI.out.2 _ (OwnR.alloc HO.out _) (by simp; have := HB.out.size; omega) (by have h1 := HLen.out; rw [HTL.out] at h1; omega)).mono ?_
              rintro e w3 ⟨A3, c3, rfl, hown, hb⟩
              have HB3 := Lib.hid ((HB.out.alloc HB.out.size (.cells #[.int .i64 it.kind, .int .i64 it.num, .string ⟨it.str.toArray⟩] 164)).trans hb)
              have HO3 := Lib.hid hown
              clear hb hown
              generalize hP2 : P ++ enc it = P2 at *
              go_wp2_with fail
              refine ⟨⟨j + 1, A3, c3, int_eq (by omega), ?_, by omega, ?_, HB3⟩, ?_⟩
              · rw [HS.out]
              · rw [HS.out]; exact HO3
              · simp [intOf]; omega
            · have hjl : j = l.length := by omega
              subst hjl
              have HT : Hid (l.take l.length = l) := Lib.hid (List.take_length)
              rw [HT.out] at HO ⊢
              go_wp2_with fail
              go_ret2
              refine ⟨A2, c2, ?_, ?_, HB.out⟩
              · rw [HRB.out, HE.out]; rfl
              · rw [HRB.out]; exact HO.out
        · have hb : rowB l = [] := by unfold rowB; rw [HE.out, if_neg hz]
          have HRB := Lib.hid hb
          have hz' : (e0 != 0) = true := by simpa using hz
          clear hb HZ HW HT
          go_wp2_with fail
          go_ret2
          refine ⟨none, 0, ?_, ?_, HB.out⟩
          · rw [HRB.out, HE.out]; rfl
          · rw [HRB.out]; exact OwnB.nil _ _
end Go.Proofs.Ytjmhfjioccljeaa
/-
  Walks of package field: Items; words for memory: rows of items of the call's own.
-/
namespace Go.Proofs.Ytjmhfjioccljeaa
open Go.RowKit Fld
set_option linter.unusedVariables false
set_option linter.unusedSimpArgs false

theorem info_item : (Try.prog.info? 164).map (fun i => (i.zero, i.size, i.bytes)) = some (some (.agg #[.int .i64 0, .int .i64 0, .string ⟨#[]⟩]), 3, 32) := by kernel_rfl
/-- items of the call's own -/
def OwnI (w : World) (base : Nat) (A : Option Addr) (c : Nat) (l : List It) : Prop := OwnR w base 164 3 A l.length c (icI l)
theorem OwnI.nil (w : World) (base : Nat) : OwnI w base none 0 [] := OwnR.nil w base _ _
theorem OwnI.rd {w : World} {base : Nat} {A : Option Addr} {c : Nat} {l : List It} (h : OwnI w base A c l) : RdI w A l := by
  intro hl
  have hl' : 0 < l.length := by rw [icI_length] at hl; omega
  obtain ⟨g, rfl⟩ := OwnR.some_ h hl'
  refine ⟨_, rfl, fun k u hu => ?_⟩
  obtain ⟨ad, e, hc⟩ := OwnR.cellAt h k u hu
  cases e; exact hc
theorem OwnI.lt_ {w : World} {base : Nat} {A : Option Addr} {c : Nat} {l : List It} (h : OwnI w base A c l) : ∀ k, blk A = some k → base ≤ k ∧ k < w.heap.size := OwnR.lt h
theorem OwnI.below {w w' : World} {base : Nat} {A : Option Addr} {c : Nat} {l : List It} (h : OwnI w base A c l) (hb : Below w.heap.size w w') : OwnI w' base A c l := OwnR.below' h hb
/-- append of an item onto items of the call's own -/
theorem run_appI (w : World) (ty : TypeId) (base : Nat) (A : Option Addr) (c : Nat) (l : List It) (hown : OwnI w base A c l) (ad : Addr) (c1 : Nat) (i : It)
    (hc : ∀ j u, (icI [i])[j]? = some u → w.cell? (ad.add j) = some u) (hlen : l.length ≤ 100000) (hbase : base ≤ w.heap.size) :
    ∃ A' c' w', (Builtin.append_ #[147, 147] ty #[.slice A l.length c, .slice (some ad) 1 c1]).run Try.prog w = .ok (.slice A' (l.length + 1) c') w' ∧ OwnI w' base A' c' (l ++ [i]) ∧ w.grownBy w' (blk A) := by
  obtain ⟨f, hi0, hz0, hz1, hz2⟩ := info_parts info_item
  obtain ⟨v', w', hrun, h2, h3, _, h5⟩ := run_append_own_at (P := Try.prog) w base 147 ty 164 f _ 3 32 Try.underlying147 hi0 hz0 hz1 hz2 rfl (by decide) _ l.length (icI l) hown ad 1 c1 (icI [i]) (by rw [icI_length]; rfl) hc (icI_one _) (by unfold maxLen; omega) (by omega) hbase
  obtain ⟨A', c', rfl, h6, h7⟩ := own_form h2
  rw [ownBlock_slice] at h3
  refine ⟨A', c', w', hrun, ?_, h3⟩
  unfold OwnI
  rw [icI_append, List.length_append]; exact h6
theorem wp_appI {w : World} {o : Oper} {a : Act} {K : Act → World → Prop} {Q : Exit → Act → World → Prop} (s x : Operand)
    (ho : o.op = .call { callee := .builtin .append, args := #[s, x], argTypes := #[147, 147] })
    (base : Nat) (A : Option Addr) (n c : Nat) (l : List It) (hs : a.eval s = .slice A n c) (hn : n = l.length) (hown : OwnI w base A c l)
    (ad : Addr) (c1 : Nat) (i : It) (hx : a.eval x = .slice (some ad) 1 c1)
    (hc : ∀ j u, (icI [i])[j]? = some u → w.cell? (ad.add j) = some u) (hlen : l.length ≤ 100000) (hbase : base ≤ w.heap.size)
    (h : ∀ A' c' w', OwnI w' base A' c' (l ++ [i]) → w.grownBy w' (blk A) → K (a.put o.dst (.slice A' (l.length + 1) c')) w') : o.wp Try.prog a w K Q := by
  subst hn
  obtain ⟨A', c', w', hrun, h1, h2⟩ := run_appI w o.type base A c l hown ad c1 i hc hlen hbase
  unfold Oper.wp execOp
  simp only [ho, resolve, invoke, builtin, Sem.run_bind, Sem.run_pure, Result.andThen_ok, List.map_toArray, List.map_cons, List.map_nil, hs, hx, hrun]
  exact h A' c' w' h1 h2
theorem step_appI {w : World} {ops : Array Oper} {o : Oper} {a : Act} {K : Act → World → Prop} {Q : Exit → Act → World → Prop} {E : Prop} (hgd : o.guard = none) (s x : Operand)
    (ho : o.op = .call { callee := .builtin .append, args := #[s, x], argTypes := #[147, 147] })
    (base : Nat) (A : Option Addr) (n c : Nat) (l : List It) (hs : a.eval s = .slice A n c) (hn : n = l.length) (hown : OwnI w base A c l)
    (ad : Addr) (c1 : Nat) (i : It) (hx : a.eval x = .slice (some ad) 1 c1)
    (hc : ∀ j u, (icI [i])[j]? = some u → w.cell? (ad.add j) = some u) (hlen : l.length ≤ 100000) (hbase : base ≤ w.heap.size)
    (h : ∀ A' c' w', OwnI w' base A' c' (l ++ [i]) → w.grownBy w' (blk A) → K (a.put o.dst (.slice A' (l.length + 1) c')) w') :
    if Region.wanted o (yielded ops a.tmps) = true then Oper.wp Try.prog o a w K Q else E := by
  have hw : Region.wanted o (yielded ops a.tmps) = true := by simp [Region.wanted, hgd]
  rw [if_pos hw]
  exact wp_appI s x ho base A n c l hs hn hown ad c1 i hx hc hlen hbase h
theorem wpList_appI {w : World} {ops : Array Oper} {rest : List Oper} {o : Oper} {a : Act} {Q : Exit → Act → World → Prop} (hgd : o.guard = none) (s x : Operand)
    (ho : o.op = .call { callee := .builtin .append, args := #[s, x], argTypes := #[147, 147] })
    (base : Nat) (A : Option Addr) (n c : Nat) (l : List It) (hs : a.eval s = .slice A n c) (hn : n = l.length) (hown : OwnI w base A c l)
    (ad : Addr) (c1 : Nat) (i : It) (hx : a.eval x = .slice (some ad) 1 c1)
    (hc : ∀ j u, (icI [i])[j]? = some u → w.cell? (ad.add j) = some u) (hlen : l.length ≤ 100000) (hbase : base ≤ w.heap.size)
    (h : ∀ A' c' w', OwnI w' base A' c' (l ++ [i]) → w.grownBy w' (blk A) → wpList Try.prog ops Q rest (a.put o.dst (.slice A' (l.length + 1) c')) w') : wpList Try.prog ops Q (o :: rest) a w :=
  wpList_plain hgd fun _ hK => wp_appI s x ho base A n c l hs hn hown ad c1 i hx hc hlen hbase fun A' c' w' h1 h2 => hK _ _ (h A' c' w' h1 h2)
theorem lit_item (w : World) (o : Obj) (a b : Int) (s : List UInt8) : ∀ j u, (icI [⟨a, b, s⟩])[j]? = some u → ((w.alloc o).alloc (.cells #[.int .i64 a, .int .i64 b, .string ⟨s.toArray⟩] 164)).cell? ((⟨w.heap.size + 1, 0, none⟩ : Addr).add j) = some u := by
  intro j u hu
  have hsz : (w.alloc o).heap.size = w.heap.size + 1 := by simp
  have := cells_new (w.alloc o) (icI [⟨a, b, s⟩]) 164 j u hu
  rw [hsz] at this
  exact this
/-- how many elements a slice has -/
def sliceN (v : Value) : Nat := match v with | .slice _ n _ => n | _ => 0
theorem sliceN_slice (A : Option Addr) (n c : Nat) : sliceN (.slice A n c) = n := rfl
/-- what Items does -/
def ItemsSpec (base : Nat) (b : List UInt8) (w : World) (e : Ending) (w' : World) : Prop :=
  match items b 0 with
  | some l => ∃ A' c', e = .returned (.tuple #[.slice A' l.length c', .int .i64 0]) ∧ OwnI w' base A' c' l ∧ Below base w w'
  | none => e = .returned (.tuple #[.slice none 0 0, .int .i64 2]) ∧ Below base w w'
set_option maxRecDepth 100000 in
set_option maxHeartbeats 1000000 in
theorem items_any (A : Option Addr) (b : List UInt8) (cap : Nat) (w : World) (hb : b.length ≤ maxLen) (hcap : b.length ≤ cap) (hA : RdB w A b) :
    Calls Try.prog 113 #[.slice A b.length cap] w fun e w' => ItemsSpec w.heap.size b w e w' := by
  have HA := Lib.hid hA
  have HBL := Lib.hid hb
  clear hA
  unfold maxLen at hb
  go_enter Try.func113, Try.ntmps113
  go_wp2_with fail
  go_loopw [0, 4] (fun s o wr => ∃ (b1 : List UInt8) (A1 : Option Addr) (cap1 : Nat) (l : List It) (A2 : Option Addr) (c2 : Nat), s = .slice A1 b1.length cap1 ∧ o = .slice A2 l.length c2 ∧ b1.length ≤ cap1 ∧ b1.length ≤ b.length ∧ l.length ≤ 4000 ∧
      Hid (items b 0 = (items b1 l.length).map (l ++ ·)) ∧ Hid (RdB w A1 b1) ∧ Hid (OwnI wr w.heap.size A2 c2 l) ∧ Hid (Below w.heap.size w wr)) (fun s _ _ => sliceN s)
  case atStart => exact ⟨b, A, cap, [], none, 0, rfl, rfl, hcap, Nat.le_refl _, by simp, Lib.hid (by cases items b 0 <;> rfl), HA, Lib.hid (OwnI.nil _ _), Lib.hid (Below.refl _ _)⟩
  case round =>
    clear HA hcap
    obtain ⟨b1, A1, cap1, l, A2, c2, rfl, rfl, hcap, hb1, hl, HI, HA, HO, HB⟩ := hrel
    have HBL1 : Hid (b1.length ≤ maxLen) := Lib.hid (Nat.le_trans hb1 HBL.out)
    by_cases h0 : 0 < b1.length
    · have HN0 := Lib.hid (show b1 ≠ [] by intro h; rw [h] at h0; simp at h0)
      obtain ⟨ad, rfl⟩ := HA.out.some_ h0
      go_wp2_with fail
      refine (first_any (some ad) b1 cap1 wr HBL1.out hcap (HA.out.below HB.out)).mono ?_
      rintro e w1 ⟨rfl, hbw⟩
      have HO1 := Lib.hid (HO.out.below hbw)
      have HB1 := Lib.hid (HB.out.trans (hbw.mono HB.out.size))
      clear hbw HO HB
      obtain ⟨i, n, er, hf⟩ : ∃ i n e, firstP b1 = (i, n, e) := ⟨_, _, _, rfl⟩
      have HF := Lib.hid hf
      rw [hf]
      clear hf
      obtain ⟨ik, inn, is⟩ := i
      unfold tri It.v
      simp only
      by_cases he : er = 0
      · subst he
        by_cases h4 : l.length = 4000
        · have HR := Lib.hid (show items b 0 = none by rw [HI.out, items_err HN0.out (.inr h4)]; rfl)
          have h4' : ((l.length : Int) == 4000) = true := by rw [h4]; rfl
          go_wp2_with fail
          go_ret2
          unfold ItemsSpec
          rw [HR.out]
          exact ⟨rfl, HB1.out.alloc HB1.out.size _⟩
        · have h4' : ((l.length : Int) == 4000) = false := by rw [beq_eq_false_iff_ne]; omega
          have HCN := Lib.hid (firstP_canon HF.out)
          have HI1 := Lib.hid (show items b 0 = (items (b1.drop n) (l ++ [(⟨ik, inn, is⟩ : It)]).length).map (l ++ [⟨ik, inn, is⟩] ++ ·) by
            rw [HI.out, items_step HN0.out HF.out h4, List.length_append]
            cases items (b1.drop n) (l.length + [(⟨ik, inn, is⟩ : It)].length) with
            | none => simp_all
            | some r => simp_all)
          have hn1 := HCN.out.2.2.2.1
          have hn2 := HCN.out.2.2.2.2
          have HRA := Lib.hid ((HA.out.below (HB1.out)).map n)
          clear HI HF HN0
          have HBS := Lib.hid HB1.out.size
          go_wp2_with fail
          by_cases hcn : cap1 = n
          · have hbl : b1.length = cap1 := by omega
            subst hcn
            go_region_law (first
              | (refine step_appI rfl (.tmp 24) (.tmp 26) rfl w.heap.size A2 l.length c2 l rfl rfl ?_ ⟨w1.heap.size + 1, 0, none⟩ 1 ⟨ik, inn, is⟩ rfl ?_ ?_ ?_ ?_
                 · exact OwnR.alloc (OwnR.drew (OwnR.alloc HO1.out _)) _
                 · exact lit_item w1 _ ik inn is
                 · omega
                 · have := HBS.out; simp; omega
                 intro A3 c3 w3 hown3 hg3))
            all_goals
              have HB3 := Lib.hid (((HB1.out.alloc HBS.out _).alloc (by have := HBS.out; simp; omega) _).drew.grown hg3 (by have := HBS.out; simp; omega) (fun k hk => (HO1.out.lt_ k hk).1))
              have HO3 := Lib.hid hown3
              clear hown3 hg3
              go_simp
              go_wp2_with fail
              refine ⟨⟨b1.drop cap1, some ad, 0, l ++ [⟨ik, inn, is⟩], A3, c3, ?_, ?_, ?_, ?_, ?_, HI1, ?_, HO3, HB3⟩, ?_⟩
              · rw [List.length_drop]
                exact slice_val (by omega)
              · exact slice_val (by simp)
              · rw [List.length_drop]; omega
              · rw [List.length_drop]; omega
              · simp; omega
              · exact Lib.hid fun h => by rw [List.length_drop] at h; omega
              · simp only [sliceN_slice]; omega
          · go_region_law (first
              | (refine step_appI rfl (.tmp 24) (.tmp 26) rfl w.heap.size A2 l.length c2 l rfl rfl ?_ ⟨w1.heap.size + 1, 0, none⟩ 1 ⟨ik, inn, is⟩ rfl ?_ ?_ ?_ ?_
                 · exact OwnR.alloc (OwnR.drew (OwnR.alloc HO1.out _)) _
                 · exact lit_item w1 _ ik inn is
                 · omega
                 · have := HBS.out; simp; omega
                 intro A3 c3 w3 hown3 hg3))
            all_goals
              have HB3 := Lib.hid (((HB1.out.alloc HBS.out _).alloc (by have := HBS.out; simp; omega) _).drew.grown hg3 (by have := HBS.out; simp; omega) (fun k hk => (HO1.out.lt_ k hk).1))
              have HO3 := Lib.hid hown3
              have HA3 := Lib.hid (HA.out.map n)
              clear hown3 hg3
              go_simp
              go_wp2_with fail
              refine ⟨⟨b1.drop n, some (ad.add n), cap1 - n, l ++ [⟨ik, inn, is⟩], A3, c3, ?_, ?_, ?_, ?_, ?_, HI1, HA3, HO3, HB3⟩, ?_⟩
              · rw [List.length_drop]
              · exact slice_val (by simp)
              · rw [List.length_drop]; omega
              · rw [List.length_drop]; omega
              · simp; omega
              · simp only [sliceN_slice]; omega
      · have he' : (er != 0) = true := by simpa using he
        have HR := Lib.hid (show items b 0 = none by rw [HI.out, items_err HN0.out (.inl (by rw [HF.out]; exact he))]; rfl)
        go_wp2_with fail
        go_ret2
        unfold ItemsSpec
        rw [HR.out]
        exact ⟨rfl, HB1.out.alloc HB1.out.size _⟩
    · have hb0 : b1 = [] := List.eq_nil_of_length_eq_zero (by omega)
      have HR := Lib.hid (show items b 0 = some l by rw [HI.out, hb0, items_nil]; simp)
      go_wp2_with fail
      go_ret2
      unfold ItemsSpec
      rw [HR.out]
      exact ⟨A2, c2, rfl, HO.out, HB.out⟩
end Go.Proofs.Ytjmhfjioccljeaa
