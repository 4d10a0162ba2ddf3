/-
  The plain law of rows of items, second part: whole rows; no row has a second form.
-/
import Derived.Test.YtikiahonhbpchaaFieldP
namespace Go.Proofs.Ytikiahonhbpchaa.Fld
set_option linter.unusedVariables false
set_option linter.unusedSimpArgs false

theorem four_of_val (l : List UInt8) (h : l.length = 4) : four (val l) = l := by
  match l, h with
  | [a, b, c, d], _ =>
    have ha := a.toNat_lt
    have hb := b.toNat_lt
    have hc := c.toNat_lt
    have hd := d.toNat_lt
    have hv : val [a, b, c, d] = ((a.toNat * 256 + b.toNat) * 256 + c.toNat) * 256 + d.toNat := by simp [val]
    unfold four
    rw [hv]
    congr 1
    · apply UInt8.toNat_inj.1; rw [UInt8.toNat_ofNat']; omega
    congr 1
    · apply UInt8.toNat_inj.1; rw [UInt8.toNat_ofNat']; omega
    congr 1
    · apply UInt8.toNat_inj.1; rw [UInt8.toNat_ofNat']; omega
    congr 1
    · apply UInt8.toNat_inj.1; rw [UInt8.toNat_ofNat']; omega

theorem val_lt (l : List UInt8) : val l < 256 ^ l.length := by
  have key : ∀ n (l : List UInt8), l.length = n → val l < 256 ^ n := by
    intro n
    induction n with
    | zero => intro l hl; have := List.eq_nil_of_length_eq_zero hl; subst this; simp [val]
    | succ n ih =>
      intro l hl
      obtain ⟨l', x, rfl⟩ : ∃ l' x, l = l' ++ [x] := by
        rcases List.eq_nil_or_concat l with e | ⟨l', x, e⟩
        · subst e; simp at hl
        · exact ⟨l', x, by simpa using e⟩
      have := ih l' (by simpa using hl)
      have hx := x.toNat_lt
      rw [val_snoc, Nat.pow_succ]; omega
  exact key _ l rfl

/-- what is read has just these bytes -/
theorem firstP_canon {b : List UInt8} {i : It} {n : Nat} (h : firstP b = (i, n, 0)) : enc i = b.take n ∧ Good i ∧ Ranged i ∧ 1 ≤ n ∧ n ≤ b.length := by
  cases b with
  | nil => simp [firstP] at h
  | cons x t =>
    have hx := x.toNat_lt
    unfold firstP at h
    simp only at h
    split at h
    · next h0 =>
      simp only [Prod.mk.injEq] at h
      obtain ⟨rfl, rfl, _⟩ := h
      refine ⟨?_, ?_, ?_, by omega, by simp⟩
      · rw [enc_number rfl]
        unfold encNum
        rw [if_pos (by simp only; omega)]
        simp
      · unfold Good check; simp
      · unfold Ranged; simp only; omega
    · next h0 =>
      split at h
      · next h1 =>
        unfold wideP at h
        simp only at h
        split at h
        · simp at h
        · next h2 =>
          split at h
          · simp at h
          · next h3 =>
            split at h
            · simp at h
            · next h4 =>
              generalize hk : x.toNat % 8 + 1 = k at *
              generalize hl : ((x :: t).drop 1).take k = l at *
              have hll : l.length = k := by rw [← hl]; simp at h3 ⊢; omega
              generalize hn : (if x.toNat / 8 % 2 = 1 then -(val l : Int) - 1 else (val l : Int)) = n at *
              split at h
              · simp at h
              · next h5 =>
                simp only [Prod.mk.injEq] at h
                obtain ⟨rfl, rfl, _⟩ := h
                have hmag : mag n = val l := by
                  unfold mag
                  rw [← hn]
                  split <;> split <;> omega
                have hneg : (n < 0) ↔ x.toNat / 8 % 2 = 1 := by
                  rw [← hn]; split <;> omega
                have h6 : width n = k := by simpa using h5
                have h0' : ¬ (0 ≤ n ∧ n < 64) := by
                  intro hc
                  unfold width at h6
                  rw [if_pos hc] at h6; omega
                have hw : bytesN (val l) = l.length := by
                  unfold width at h6
                  rw [if_neg h0', hmag] at h6; omega
                refine ⟨?_, ?_, ?_, by omega, by omega⟩
                · rw [enc_number rfl]
                  unfold encNum
                  rw [if_neg (by simp only; exact h0')]
                  simp only [hmag, big_of_val l hw, hw, hll]
                  have e1 : UInt8.ofNat (63 + k + if n < 0 then 8 else 0) = x := by
                    apply UInt8.toNat_inj.1
                    rw [UInt8.toNat_ofNat']
                    by_cases hng : n < 0
                    · have := hneg.1 hng
                      rw [if_pos hng]; omega
                    · have : ¬ x.toNat / 8 % 2 = 1 := fun h => hng (hneg.2 h)
                      rw [if_neg hng]; omega
                  rw [e1, ← hl]
                  rw [Nat.add_comm 1 k]
                  simp
                · unfold Good check; simp
                · unfold Ranged
                  simp only
                  rw [← hn]; split <;> omega
      · next h1 =>
        split at h
        · next h2 =>
          unfold runP at h
          split at h
          · simp at h
          · next h3 =>
            simp only [Prod.mk.injEq] at h
            obtain ⟨rfl, rfl, _⟩ := h
            simp only [List.length_cons] at h3
            have hlen : ((x :: t).drop 1 |>.take (x.toNat - 128)).length = x.toNat - 128 := by simp; omega
            refine ⟨?_, ?_, ?_, by omega, by simp; omega⟩
            · unfold enc encStr
              rw [if_pos rfl]
              simp only [hlen]
              rw [if_pos (by omega)]
              have e1 : UInt8.ofNat (128 + (x.toNat - 128)) = x := by
                apply UInt8.toNat_inj.1
                rw [UInt8.toNat_ofNat']; omega
              rw [e1, Nat.add_comm 1]
              simp
            · unfold Good check
              rw [if_neg (by simp only [hlen]; omega), if_pos (.inr ⟨rfl, rfl⟩)]
            · unfold Ranged; simp only; omega
        · next h2 =>
          have hx' : x = 255 := by
            apply UInt8.toNat_inj.1
            show x.toNat = 255
            omega
          subst hx'
          split at h
          · simp at h
          · next h3 =>
            split at h
            · simp at h
            · next h4 =>
              unfold runP at h
              split at h
              · simp at h
              · next h5 =>
                simp only [Prod.mk.injEq] at h
                obtain ⟨rfl, rfl, _⟩ := h
                generalize hl : ((255 :: t : List UInt8).drop 1).take 4 = l at *
                generalize hv : val l = v at *
                have hll : l.length = 4 := by rw [← hl]; simp at h3 ⊢; omega
                have hlen : (((255 :: t : List UInt8).drop 5).take v).length = v := by simp at h5 ⊢; omega
                refine ⟨?_, ?_, ?_, by omega, by omega⟩
                · unfold enc encStr
                  rw [if_pos rfl]
                  simp only [hlen]
                  rw [if_neg (by omega), ← hv, four_of_val l hll, hv, ← hl]
                  have e5 : 5 + v = (4 + v) + 1 := by omega
                  rw [e5, List.take_succ_cons]
                  simp only [List.drop_succ_cons, List.drop_zero, List.cons_append]
                  rw [List.take_add]
                · unfold Good check
                  rw [if_neg (by simp only [hlen]; omega), if_pos (.inr ⟨rfl, rfl⟩)]
                · unfold Ranged; simp only; omega

/-- a row of items from bytes; c items came ahead -/
def items (b : List UInt8) (c : Nat) : Option (List It) :=
  if b = [] then some []
  else if h : (firstP b).2.2 = 0 ∧ c ≠ 4000 ∧ 1 ≤ (firstP b).2.1 ∧ (firstP b).2.1 ≤ b.length then (items (b.drop (firstP b).2.1) (c + 1)).map ((firstP b).1 :: ·)
  else none
termination_by b.length
decreasing_by simp only [List.length_drop]; omega
theorem items_nil (c : Nat) : items [] c = some [] := by unfold items; simp
theorem items_step {b : List UInt8} {c : Nat} {i : It} {n : Nat} (hb : b ≠ []) (hf : firstP b = (i, n, 0)) (hc : c ≠ 4000) : items b c = (items (b.drop n) (c + 1)).map (i :: ·) := by
  obtain ⟨_, _, _, h1, h2⟩ := firstP_canon hf
  rw [items, if_neg hb, dif_pos (by rw [hf]; exact ⟨rfl, hc, h1, h2⟩), hf]
theorem items_err {b : List UInt8} {c : Nat} (hb : b ≠ []) (hf : (firstP b).2.2 ≠ 0 ∨ c = 4000) : items b c = none := by
  rw [items, if_neg hb, dif_neg (by rintro ⟨h1, h2, _⟩; rcases hf with hf | hf <;> contradiction)]
theorem items_enc (l : List It) (c : Nat) (hg : ∀ i ∈ l, Good i ∧ Ranged i) (hc : c + l.length ≤ 4000) : items (encs l) c = some l := by
  induction l generalizing c with
  | nil => exact items_nil c
  | cons i l ih =>
    have hp := enc_pos i
    have hi := hg i (by simp)
    have hne : encs (i :: l) ≠ [] := by
      intro h
      have := congrArg List.length h
      simp [encs] at this
      have := this.1
      rw [this] at hp; simp at hp
    have hf : firstP (encs (i :: l)) = (i, (enc i).length, 0) := by
      have : encs (i :: l) = enc i ++ encs l := by simp [encs]
      rw [this]; exact firstP_enc hi.1 hi.2 _
    simp only [List.length_cons] at hc
    rw [items_step hne hf (by omega)]
    have : (encs (i :: l)).drop (enc i).length = encs l := by simp [encs]
    rw [this, ih (c + 1) (fun j hj => hg j (by simp [hj])) (by omega)]
    rfl
theorem items_canon (b : List UInt8) (c : Nat) (hc : c ≤ 4000) (l : List It) (h : items b c = some l) : encs l = b ∧ (∀ i ∈ l, Good i ∧ Ranged i) ∧ c + l.length ≤ 4000 := by
  have key : ∀ n (b : List UInt8) (c : Nat) (hc : c ≤ 4000) (l : List It), b.length ≤ n → items b c = some l → encs l = b ∧ (∀ i ∈ l, Good i ∧ Ranged i) ∧ c + l.length ≤ 4000 := by
    intro n
    induction n with
    | zero =>
      intro b c hc l hb h
      have := List.eq_nil_of_length_eq_zero (Nat.le_zero.1 hb)
      subst this
      rw [items_nil] at h
      cases h
      exact ⟨rfl, by simp, by simpa using hc⟩
    | succ n ih =>
      intro b c hc l hb h
      by_cases hbe : b = []
      · subst hbe
        rw [items_nil] at h
        cases h
        exact ⟨rfl, by simp, by simpa using hc⟩
      · by_cases he : (firstP b).2.2 ≠ 0 ∨ c = 4000
        · rw [items_err hbe he] at h; cases h
        · have he1 : (firstP b).2.2 = 0 := by
            by_cases h0 : (firstP b).2.2 = 0
            · exact h0
            · exact absurd (.inl h0) he
          have he2 : c ≠ 4000 := fun h => he (.inr h)
          obtain ⟨i, k, e, hf⟩ : ∃ i k e, firstP b = (i, k, e) := ⟨_, _, _, rfl⟩
          have he0 : e = 0 := by rw [hf] at he1; exact he1
          subst he0
          obtain ⟨h1, h2, h3, h4, h5⟩ := firstP_canon hf
          rw [items_step hbe hf he2] at h
          cases hr : items (b.drop k) (c + 1) with
          | none => rw [hr] at h; cases h
          | some r =>
            rw [hr] at h
            simp only [Option.map_some, Option.some.injEq] at h
            subst h
            obtain ⟨h6, h7, h8⟩ := ih (b.drop k) (c + 1) (by omega) r (by simp; omega) hr
            refine ⟨?_, ?_, by simp only [List.length_cons]; omega⟩
            · have : encs (i :: r) = enc i ++ encs r := by simp [encs]
              rw [this, h6, h1, List.take_append_drop]
            · intro j hj
              rcases List.mem_cons.1 hj with rfl | hj
              · exact ⟨h2, h3⟩
              · exact h7 j hj
  exact key _ b c hc l (Nat.le_refl _) h
theorem encs_append (a b : List It) : encs (a ++ b) = encs a ++ encs b := by simp [encs]
theorem check_cases (i : It) : check i = 0 ∨ check i = 2 ∨ check i = 14 := by
  unfold check
  split
  · simp
  · split <;> simp
theorem worst_max (l : List It) (e : Int) (he : 0 ≤ e) : l.foldl (fun e i => max e (check i)) e = max e (worst l) := by
  unfold worst
  induction l generalizing e with
  | nil => simp; omega
  | cons i l ih =>
    simp only [List.foldl_cons]
    rcases check_cases i with h | h | h <;> rw [h] <;> rw [ih _ (by omega), ih (max 0 _) (by omega)] <;> omega
theorem worst_cons (i : It) (l : List It) : worst (i :: l) = max (check i) (worst l) := by
  have := worst_max l (max 0 (check i)) (by omega)
  rcases check_cases i with h | h | h <;> rw [h] at this ⊢ <;> (show List.foldl _ _ _ = _) <;> simp only [List.foldl_cons, h] <;> rw [this] <;> omega
theorem worst_nonneg (l : List It) : 0 ≤ worst l := by
  have := worst_max l 0 (by omega)
  unfold worst at this ⊢; omega
theorem worst_zero (l : List It) : worst l = 0 ↔ ∀ i ∈ l, Good i := by
  induction l with
  | nil => simp [worst]
  | cons i l ih =>
    rw [worst_cons]
    have h1 := worst_nonneg l
    have h2 : 0 ≤ check i := by rcases check_cases i with h | h | h <;> omega
    constructor
    · intro h j hj
      rcases List.mem_cons.1 hj with rfl | hj
      · show check j = 0; omega
      · exact ih.1 (by omega) j hj
    · intro h
      have h3 : check i = 0 := h i (by simp)
      have h4 := ih.2 fun j hj => h j (by simp [hj])
      omega
theorem worst_big (l : List It) : worst l = 14 ↔ ∃ i ∈ l, i.kind = 2 ∧ 50000 < i.str.length := by
  induction l with
  | nil => simp [worst]
  | cons i l ih =>
    rw [worst_cons]
    have hw : worst l ≤ 14 := by
      clear ih
      induction l with
      | nil => simp [worst]
      | cons j l ih => rw [worst_cons]; rcases check_cases j with h | h | h <;> omega
    have hi : check i = 14 ↔ i.kind = 2 ∧ 50000 < i.str.length := by
      unfold check
      split
      · next h => simp [h]
      · next h => constructor
                  · intro hc; split at hc <;> omega
                  · intro hc; exact absurd hc h
    constructor
    · intro h
      by_cases hc : check i = 14
      · exact ⟨i, by simp, hi.1 hc⟩
      · obtain ⟨j, hj, hj2⟩ := ih.1 (by rcases check_cases i with h' | h' | h' <;> omega)
        exact ⟨j, by simp [hj], hj2⟩
    · rintro ⟨j, hj, hj2⟩
      rcases List.mem_cons.1 hj with rfl | hj
      · have := hi.2 hj2; omega
      · have := ih.2 ⟨j, hj, hj2⟩
        rcases check_cases i with h' | h' | h' <;> omega
end Go.Proofs.Ytikiahonhbpchaa.Fld
