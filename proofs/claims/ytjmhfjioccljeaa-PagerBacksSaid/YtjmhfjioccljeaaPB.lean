/-
  PB: Pn Pv
-/
import Derived.Test.YtjmhfjioccljeaaDk
import Derived.Test.YtjmhfjioccljeaaPA
import Derived.Test.YtjmhfjioccljeaaJnS
/-
  Plain law of pages: changes that records hold, done one behind the other; what a record of what is changed makes.
-/
namespace Go.Proofs.Ytjmhfjioccljeaa
set_option linter.unusedVariables false
set_option linter.unusedSimpArgs false

/-- a change: which page, from which byte on, the bytes -/
structure Pt where
  page : Nat
  off : Nat
  str : List UInt8
def Pt.Good (N : Nat) (p : Pt) : Prop := p.page < N ∧ p.off + p.str.length ≤ 256
/-- pages: each a row of bytes -/
abbrev Pgs := Nat → List UInt8
def Full (N : Nat) (B : Pgs) : Prop := ∀ q, q < N → (B q).length = 256
def Pt.on (p : Pt) (B : Pgs) : Pgs := fun q => if q = p.page then putAt (B q) p.off p.str else B q
def ptsOn : List Pt → Pgs → Pgs
  | [], B => B
  | p :: ps, B => ptsOn ps (p.on B)
theorem ptsOn_append (a b : List Pt) : ∀ B, ptsOn (a ++ b) B = ptsOn b (ptsOn a B) := by
  induction a with
  | nil => intro B; rfl
  | cons p a ih => intro B; exact ih _
theorem on_get {p : Pt} {B : Pgs} {N q i : Nat} (hp : p.Good N) (hB : Full N B) (hq : q < N) : (p.on B q)[i]? = if q = p.page ∧ p.off ≤ i ∧ i < p.off + p.str.length then p.str[i - p.off]? else (B q)[i]? := by
  have hl := hB q hq
  have h2 := hp.2
  unfold Pt.on
  by_cases h : q = p.page
  · rw [if_pos h, putAt_get (by omega)]
    by_cases h1 : p.off ≤ i ∧ i < p.off + p.str.length
    · rw [if_pos h1, if_pos ⟨h, h1⟩]
    · rw [if_neg h1, if_neg fun e => h1 e.2]
  · rw [if_neg h, if_neg fun e => h e.1]
theorem on_full {p : Pt} {B : Pgs} {N : Nat} (hp : p.Good N) (hB : Full N B) : Full N (p.on B) := fun q hq => by
  have hl := hB q hq
  have h2 := hp.2
  unfold Pt.on
  split
  · rw [putAt_length (by omega)]; exact hl
  · exact hl
theorem ptsOn_full {ps : List Pt} {N : Nat} (hp : ∀ p ∈ ps, p.Good N) : ∀ {B : Pgs}, Full N B → Full N (ptsOn ps B) := by
  induction ps with
  | nil => intro B h; exact h
  | cons p ps ih => intro B h; exact ih (fun x hx => hp x (by simp [hx])) (on_full (hp p (by simp)) h)
theorem ptsOn_congr {ps : List Pt} {N : Nat} : ∀ {B C : Pgs}, (∀ q, q < N → B q = C q) → ∀ q, q < N → ptsOn ps B q = ptsOn ps C q := by
  induction ps with
  | nil => intro B C h; exact h
  | cons p ps ih =>
    intro B C h
    refine ih fun q hq => ?_
    unfold Pt.on
    rw [h q hq]
/-- pages that are partly as the changes leave them: the changes done again make the same -/
theorem ptsOn_mix {ps : List Pt} {N : Nat} (hp : ∀ p ∈ ps, p.Good N) : ∀ {M B : Pgs}, Full N M → Full N B → (∀ (q i : Nat), q < N → (M q)[i]? = (B q)[i]? ∨ (M q)[i]? = (ptsOn ps B q)[i]?) → ∀ q, q < N → ptsOn ps M q = ptsOn ps B q := by
  induction ps with
  | nil =>
    intro M B hM hB h q hq
    apply List.ext_getElem?
    intro i
    rcases h q i hq with e | e <;> exact e
  | cons p ps ih =>
    intro M B hM hB h q hq
    have hg := hp p (by simp)
    refine ih (fun x hx => hp x (by simp [hx])) (on_full hg hM) (on_full hg hB) (fun q i hq => ?_) q hq
    rw [on_get hg hM hq, on_get hg hB hq]
    by_cases h1 : q = p.page ∧ p.off ≤ i ∧ i < p.off + p.str.length
    · rw [if_pos h1, if_pos h1]; exact .inl rfl
    · rw [if_neg h1, if_neg h1]
      exact h q i hq
/-! ### what is changed between two rows of bytes -/
/-- how many of the first bytes are alike -/
def fromN (a b : List UInt8) : Nat := ((a.zip b).takeWhile fun x => x.1 == x.2).length
/-- how many bytes there are ahead of those at the end that are alike -/
def toN (a b : List UInt8) : Nat := a.length - fromN a.reverse b.reverse
theorem from_le (a b : List UInt8) : fromN a b ≤ a.length ∧ fromN a b ≤ b.length := by
  have h : fromN a b ≤ (a.zip b).length := by unfold fromN; exact (List.takeWhile_sublist _).length_le
  rw [List.length_zip] at h
  omega
theorem from_eq : ∀ (a b : List UInt8) (i : Nat), i < fromN a b → a[i]? = b[i]?
  | [], _, i, h => by simp [fromN] at h
  | _ :: _, [], i, h => by simp [fromN] at h
  | x :: a, y :: b, i, h => by
    unfold fromN at h
    rw [List.zip_cons_cons, List.takeWhile_cons] at h
    by_cases e : x = y
    · rw [if_pos (by simpa using e)] at h
      cases i with
      | zero => simp [e]
      | succ i =>
        simp only [List.getElem?_cons_succ]
        exact from_eq a b i (by unfold fromN; simp at h; omega)
    · rw [if_neg (by simpa using e)] at h
      simp at h
theorem from_ne : ∀ (a b : List UInt8), a.length = b.length → a ≠ b → fromN a b < a.length ∧ a[fromN a b]? ≠ b[fromN a b]?
  | [], [], _, h => absurd rfl h
  | [], _ :: _, hl, _ => by simp at hl
  | _ :: _, [], hl, _ => by simp at hl
  | x :: a, y :: b, hl, h => by
    by_cases e : x = y
    · subst e
      have ih := from_ne a b (by simpa using hl) fun e => h (by rw [e])
      have h1 : fromN (x :: a) (x :: b) = fromN a b + 1 := by
        unfold fromN
        rw [List.zip_cons_cons, List.takeWhile_cons, if_pos (by simp)]; rfl
      rw [h1]
      simp only [List.getElem?_cons_succ, List.length_cons]
      exact ⟨by omega, ih.2⟩
    · have h1 : fromN (x :: a) (y :: b) = 0 := by
        unfold fromN
        rw [List.zip_cons_cons, List.takeWhile_cons, if_neg (by simpa using e)]; rfl
      rw [h1]
      simp only [List.getElem?_cons_zero, List.length_cons]
      exact ⟨by omega, fun h2 => e (by simpa using h2)⟩
theorem from_of {a b : List UInt8} {k : Nat} (hk : k < a.length) (hl : a.length = b.length) (h : ∀ i, i < k → a[i]? = b[i]?) (hn : a[k]? ≠ b[k]?) : fromN a b = k := by
  have hab : a ≠ b := fun e => hn (by rw [e])
  obtain ⟨h1, h2⟩ := from_ne a b hl hab
  rcases Nat.lt_trichotomy (fromN a b) k with h3 | h3 | h3
  · exact absurd (h _ h3) h2
  · exact h3
  · exact absurd (from_eq a b k h3) hn
theorem rev_get {a : List UInt8} {i : Nat} (h : i < a.length) : a.reverse[i]? = a[a.length - 1 - i]? := by rw [List.getElem?_reverse h]
theorem to_facts {a b : List UInt8} (hl : a.length = b.length) (h : a ≠ b) : 0 < toN a b ∧ toN a b ≤ a.length ∧ fromN a b < toN a b ∧ a[toN a b - 1]? ≠ b[toN a b - 1]? ∧ ∀ i, toN a b ≤ i → a[i]? = b[i]? := by
  have hrl : a.reverse.length = b.reverse.length := by simpa using hl
  obtain ⟨h1, h2⟩ := from_ne a.reverse b.reverse hrl fun e => h (by simpa using e)
  obtain ⟨k, hk⟩ : ∃ k, fromN a.reverse b.reverse = k := ⟨_, rfl⟩
  have ht : toN a b = a.length - k := by unfold toN; rw [hk]
  rw [hk] at h1 h2
  rw [List.length_reverse] at h1
  rw [rev_get h1, rev_get (by omega)] at h2
  have h3 : a[toN a b - 1]? ≠ b[toN a b - 1]? := by
    rw [ht, show a.length - k - 1 = a.length - 1 - k by omega]
    rw [← hl] at h2; exact h2
  obtain ⟨f1, f2⟩ := from_ne a b hl h
  have h4 : ∀ i, toN a b ≤ i → a[i]? = b[i]? := fun i hi => by
    by_cases hi2 : i < a.length
    · have := from_eq a.reverse b.reverse (a.length - 1 - i) (by rw [hk]; omega)
      rw [rev_get (by omega), rev_get (by omega), ← hl, show a.length - 1 - (a.length - 1 - i) = i by omega] at this
      exact this
    · rw [List.getElem?_eq_none (by omega), List.getElem?_eq_none (by omega)]
  refine ⟨by omega, by omega, ?_, h3, h4⟩
  rcases Nat.lt_or_ge (fromN a b) (toN a b) with h5 | h5
  · exact h5
  · exact absurd (h4 _ h5) f2
theorem to_of {a b : List UInt8} {k : Nat} (hk : k < a.length) (hl : a.length = b.length) (h : ∀ i, k < i → a[i]? = b[i]?) (hn : a[k]? ≠ b[k]?) : toN a b = k + 1 := by
  have hab : a ≠ b := fun e => hn (by rw [e])
  obtain ⟨h1, h2, _, h3, h4⟩ := to_facts hl hab
  rcases Nat.lt_trichotomy (toN a b) (k + 1) with h5 | h5 | h5
  · exact absurd (h4 k (by omega)) hn
  · exact h5
  · exact absurd (h _ (by omega)) h3
/-- the bytes that are changed -/
def diffL (a b : List UInt8) : List UInt8 := (b.drop (fromN a b)).take (toN a b - fromN a b)
theorem diff_put {a b : List UInt8} (hl : a.length = b.length) (h : a ≠ b) : putAt a (fromN a b) (diffL a b) = b ∧ fromN a b + (diffL a b).length = toN a b ∧ diffL a b ≠ [] := by
  obtain ⟨h1, h2, h3, _, h4⟩ := to_facts hl h
  have hd : (diffL a b).length = toN a b - fromN a b := by unfold diffL; rw [List.length_take, List.length_drop]; omega
  refine ⟨?_, by omega, fun e => by rw [e] at hd; simp at hd; omega⟩
  apply List.ext_getElem?
  intro i
  rw [putAt_get (by omega)]
  by_cases hi : fromN a b ≤ i ∧ i < fromN a b + (diffL a b).length
  · rw [if_pos hi]
    unfold diffL
    rw [List.getElem?_take, if_pos (by omega), List.getElem?_drop]
    congr 1; omega
  · rw [if_neg hi]
    by_cases h5 : i < fromN a b
    · exact from_eq a b i h5
    · exact h4 i (by omega)
/-- the pages that are changed -/
def chgL (N : Nat) (A B : Pgs) : List Nat := (List.range N).filter fun q => decide (A q ≠ B q)
def ptOf (A B : Pgs) (q : Nat) : Pt := ⟨q, fromN (A q) (B q), diffL (A q) (B q)⟩
def diffP (N : Nat) (A B : Pgs) : List Pt := (chgL N A B).map (ptOf A B)
theorem chg_mem {N q : Nat} {A B : Pgs} : q ∈ chgL N A B ↔ q < N ∧ A q ≠ B q := by simp [chgL]
theorem diff_good {N : Nat} {A B : Pgs} (hA : Full N A) (hB : Full N B) : ∀ p ∈ diffP N A B, p.Good N := fun p hp => by
  obtain ⟨q, hq, rfl⟩ := List.mem_map.1 hp
  obtain ⟨h1, h2⟩ := chg_mem.1 hq
  have hl := hA q h1
  have hl2 := hB q h1
  obtain ⟨_, h3, _⟩ := diff_put (by omega) h2
  have h4 := to_facts (a := A q) (b := B q) (by omega) h2
  exact ⟨h1, by show fromN (A q) (B q) + (diffL (A q) (B q)).length ≤ 256; omega⟩
theorem map_on {A B : Pgs} (N : Nat) (hA : Full N A) (hB : Full N B) : ∀ (l : List Nat), l.Nodup → (∀ q ∈ l, q < N ∧ A q ≠ B q) → ∀ C : Pgs, (∀ q ∈ l, C q = A q) → ∀ q, ptsOn (l.map (ptOf A B)) C q = if q ∈ l then B q else C q
  | [], _, _, C, _, q => by simp [ptsOn]
  | p :: l, hd, hm, C, hC, q => by
    obtain ⟨h1, h2⟩ := hm p (by simp)
    have hn : p ∉ l := (List.nodup_cons.1 hd).1
    show ptsOn (l.map (ptOf A B)) ((ptOf A B p).on C) q = _
    rw [map_on N hA hB l (List.nodup_cons.1 hd).2 (fun x hx => hm x (by simp [hx])) _ (fun x hx => by
      unfold Pt.on ptOf
      rw [if_neg (fun e => hn (by rw [← show x = p from e]; exact hx))]
      exact hC x (by simp [hx]))]
    by_cases h3 : q ∈ l
    · rw [if_pos h3, if_pos (by simp [h3])]
    · rw [if_neg h3]
      unfold Pt.on ptOf
      by_cases h4 : q = p
      · subst h4
        rw [if_pos rfl, if_pos (by simp), hC q (by simp)]
        exact (diff_put (by rw [hA q h1, hB q h1]) h2).1
      · rw [if_neg h4, if_neg (by simp [h4, h3])]
/-- the record of what is changed makes the one pages of the others -/
theorem diff_on {N : Nat} {A B : Pgs} (hA : Full N A) (hB : Full N B) : ∀ q, q < N → ptsOn (diffP N A B) A q = B q := fun q hq => by
  unfold diffP
  rw [map_on N hA hB (chgL N A B) ((List.nodup_range (n := N)).filter _) (fun x hx => chg_mem.1 hx) A (fun _ _ => rfl) q]
  by_cases h : q ∈ chgL N A B
  · rw [if_pos h]
  · rw [if_neg h]
    by_cases e : A q = B q
    · exact e
    · exact absurd (chg_mem.2 ⟨hq, e⟩) h
theorem diff_nil {N : Nat} {A B : Pgs} : diffP N A B = [] ↔ ∀ q, q < N → A q = B q := by
  constructor
  · intro h q hq
    by_cases e : A q = B q
    · exact e
    · have h1 := chg_mem.2 ⟨hq, e⟩
      have h2 : chgL N A B = [] := by simpa [diffP] using h
      rw [h2] at h1; simp at h1
  · intro h
    have h2 : chgL N A B = [] := List.filter_eq_nil_iff.2 fun q hq => by
      have := h q (List.mem_range.1 hq)
      simp [this]
    unfold diffP; rw [h2]; rfl
theorem chg_congr {N : Nat} {A B A' B' : Pgs} (hA : ∀ q, q < N → A q = A' q) (hB : ∀ q, q < N → B q = B' q) : chgL N A B = chgL N A' B' := by
  unfold chgL
  apply List.filter_congr
  intro q hq
  rw [hA q (List.mem_range.1 hq), hB q (List.mem_range.1 hq)]
theorem diff_congr {N : Nat} {A B A' B' : Pgs} (hA : ∀ q, q < N → A q = A' q) (hB : ∀ q, q < N → B q = B' q) : diffP N A B = diffP N A' B' := by
  unfold diffP
  rw [chg_congr hA hB]
  apply List.map_congr_left
  intro q hq
  obtain ⟨h1, _⟩ := chg_mem.1 hq
  unfold ptOf
  rw [hA q h1, hB q h1]
/-! ### records -/
open Fld in
def Pt.its (p : Pt) : List It := [⟨1, p.page, []⟩, ⟨1, p.off, []⟩, ⟨2, 0, p.str⟩]
def itsL (ps : List Pt) : List Fld.It := ps.flatMap Pt.its
def recL (ps : List Pt) : List UInt8 := Fld.encs (itsL ps)
theorem its_length (ps : List Pt) : (itsL ps).length = 3 * ps.length := by
  unfold itsL
  induction ps with
  | nil => rfl
  | cons p ps ih => rw [List.flatMap_cons, List.length_append, ih, List.length_cons]; simp [Pt.its]; omega
theorem its_good {N : Nat} {ps : List Pt} (hN : N ≤ 4000) (h : ∀ p ∈ ps, p.Good N) : ∀ i ∈ itsL ps, Fld.Good i ∧ Fld.Ranged i := fun i hi => by
  obtain ⟨p, hp, hi⟩ := List.mem_flatMap.1 hi
  obtain ⟨h1, h2⟩ := h p hp
  simp only [Pt.its, List.mem_cons, List.not_mem_nil, or_false] at hi
  rcases hi with rfl | rfl | rfl
  · refine ⟨?_, ?_⟩
    · unfold Fld.Good Fld.check; simp
    · unfold Fld.Ranged; simp; omega
  · refine ⟨?_, ?_⟩
    · unfold Fld.Good Fld.check; simp
    · unfold Fld.Ranged; simp; omega
  · refine ⟨?_, ?_⟩
    · unfold Fld.Good Fld.check; rw [if_neg (by simp; omega)]; simp
    · unfold Fld.Ranged; simp
theorem rec_items {N : Nat} {ps : List Pt} (hN : N ≤ 4000) (h : ∀ p ∈ ps, p.Good N) (hl : 3 * ps.length ≤ 4000) : Fld.items (recL ps) 0 = some (itsL ps) :=
  Fld.items_enc _ _ (its_good hN h) (by rw [its_length]; omega)
theorem rec_pos {ps : List Pt} (h : ps ≠ []) : recL ps ≠ [] := by
  cases ps with
  | nil => exact absurd rfl h
  | cons p ps =>
    intro e
    have h1 := Fld.enc_pos ⟨1, p.page, []⟩
    have h2 : recL (p :: ps) = Fld.enc ⟨1, p.page, []⟩ ++ Fld.encs (⟨1, p.off, []⟩ :: ⟨2, 0, p.str⟩ :: itsL ps) := by simp [recL, itsL, Pt.its, Fld.encs]
    rw [h2] at e
    have := congrArg List.length e
    rw [List.length_append] at this
    simp at this; simp [this.1] at h1
end Go.Proofs.Ytjmhfjioccljeaa
/-
  Plain law of a pager: pages of a disk behind a journal, what each call makes of them, what a crash leaves.
-/
namespace Go.Proofs.Ytjmhfjioccljeaa
set_option linter.unusedVariables false
set_option linter.unusedSimpArgs false

/-- the pages of a disk, L pages behind its beginning -/
def diskP (S : St) (L : Nat) : Pgs := fun q => ((S.at_ 0).rd.drop (256 * (L + q))).take 256
def pgS (f : Nat → List UInt8) (L : Nat) : Pgs := fun q => f (2 * (L + q)) ++ f (2 * (L + q) + 1)
theorem two_sec (l : List UInt8) (k : Nat) : (l.drop (256 * k)).take 256 = sec l (2 * k) ++ sec l (2 * k + 1) := by
  unfold sec
  rw [show 128 * (2 * k) = 256 * k by omega, show 128 * (2 * k + 1) = 256 * k + 128 by omega, ← List.drop_drop]
  exact List.take_add (l := l.drop (256 * k)) (i := 128) (j := 128)
theorem diskP_of {S : St} {n L q : Nat} {f : Nat → List UInt8} (h : HoldsS (S.at_ 0).rd n f) (hq : 2 * (L + q) + 2 ≤ n) : diskP S L q = pgS f L q := by
  unfold diskP pgS
  rw [two_sec, h.2 _ (by omega), h.2 _ (by omega)]
theorem page_two {a : List UInt8} (h : a.length = 256) : sec a 0 ++ sec a 1 = a := by
  have := two_sec a 0
  rw [Nat.mul_zero, List.drop_zero, List.take_of_length_le (by omega)] at this
  exact this.symm
theorem sec_page {a : List UInt8} (h : a.length = 256) {j : Nat} (hj : j < 2) : (sec a j).length = 128 := sec_length (n := 2) (by omega) hj
/-- each sector as it was, or as a page's new bytes make it -/
def MixS (n L N : Nat) (A : Pgs) (f h : Nat → List UInt8) : Prop := ∀ t, t < n → h t = f t ∨ ∃ q j, q < N ∧ j < 2 ∧ t = 2 * (L + q) + j ∧ h t = sec (A q) j
section
variable {n L N : Nat} {A : Pgs} {f h : Nat → List UInt8}
theorem MixS.refl (f : Nat → List UInt8) : MixS n L N A f f := fun _ _ => .inl rfl
theorem MixS.at_ (hm : MixS n L N A f h) (hin : 2 * (L + N) ≤ n) {q j : Nat} (hq : q < N) (hj : j < 2) : h (2 * (L + q) + j) = f (2 * (L + q) + j) ∨ h (2 * (L + q) + j) = sec (A q) j := by
  rcases hm (2 * (L + q) + j) (by omega) with e | ⟨q', j', h1, h2, h3, h4⟩
  · exact .inl e
  · obtain rfl : j' = j := by omega
    obtain rfl : q' = q := by omega
    exact .inr h4
theorem MixS.low (hm : MixS n L N A f h) {t : Nat} (ht : t < n) (h2 : t < 2 * L) : h t = f t := by
  rcases hm t ht with e | ⟨q', j', h1, h2, h3, h4⟩
  · exact e
  · omega
theorem MixS.page (hm : MixS n L N A f h) (hin : 2 * (L + N) ≤ n) (hf : ∀ t, t < n → (f t).length = 128) (hA : Full N A) : Full N (pgS h L) ∧ ∀ (q i : Nat), q < N → (pgS h L q)[i]? = (pgS f L q)[i]? ∨ (pgS h L q)[i]? = (A q)[i]? := by
  have key : ∀ q, q < N → ∀ j, j < 2 → (h (2 * (L + q) + j)).length = 128 := fun q hq j hj => by
    rcases hm.at_ hin hq hj with e | e
    · rw [e]; exact hf _ (by omega)
    · rw [e]; exact sec_page (hA q hq) hj
  refine ⟨fun q hq => ?_, fun q i hq => ?_⟩
  · have h0 := key q hq 0 (by omega)
    have h1 := key q hq 1 (by omega)
    unfold pgS
    rw [List.length_append]
    rw [Nat.add_zero] at h0
    omega
  · have h0 := key q hq 0 (by omega)
    have h1 := key q hq 1 (by omega)
    have f0 := hf (2 * (L + q)) (by omega)
    have e0 := hm.at_ hin hq (j := 0) (by omega)
    have e1 := hm.at_ hin hq (j := 1) (by omega)
    rw [Nat.add_zero] at h0 e0
    unfold pgS
    have ha : A q = sec (A q) 0 ++ sec (A q) 1 := (page_two (hA q hq)).symm
    have s0 := sec_page (hA q hq) (j := 0) (by omega)
    by_cases hi : i < 128
    · rw [List.getElem?_append_left (by omega), List.getElem?_append_left (by omega)]
      rcases e0 with e | e
      · exact .inl (by rw [e])
      · refine .inr ?_
        rw [ha, List.getElem?_append_left (by omega), e]
    · rw [List.getElem?_append_right (by omega), List.getElem?_append_right (by omega), h0, f0]
      rcases e1 with e | e
      · exact .inl (by rw [e])
      · refine .inr ?_
        rw [ha, List.getElem?_append_right (by omega), e, s0]
theorem MixS.put (hm : MixS n L N A f h) {q : Nat} (hq : q < N) : MixS n L N A f (fun i => if 2 * (L + q) ≤ i ∧ i < 2 * (L + q) + 2 then sec (A q) (i - 2 * (L + q)) else h i) := fun t ht => by
  by_cases h1 : 2 * (L + q) ≤ t ∧ t < 2 * (L + q) + 2
  · refine .inr ⟨q, t - 2 * (L + q), hq, by omega, by omega, ?_⟩
    exact if_pos h1
  · rcases hm t ht with e | ⟨q', j', h1', h2, h3, h4⟩
    · exact .inl ((if_neg h1).trans e)
    · exact .inr ⟨q', j', h1', h2, h3, (if_neg h1).trans h4⟩
theorem pg_put {q p : Nat} (hA : (A q).length = 256) : pgS (fun i => if 2 * (L + q) ≤ i ∧ i < 2 * (L + q) + 2 then sec (A q) (i - 2 * (L + q)) else h i) L p = if p = q then A q else pgS h L p := by
  unfold pgS
  simp only []
  by_cases e : p = q
  · subst e
    rw [if_pos rfl, if_pos (by omega), if_pos (by omega), Nat.sub_self, show 2 * (L + p) + 1 - 2 * (L + p) = 1 by omega]
    exact page_two hA
  · rw [if_neg e, if_neg (by omega), if_neg (by omega)]
end
/-- records of changes, all in form -/
def GoodR (N : Nat) (rs : List (List Pt)) : Prop := ∀ ps ∈ rs, (∀ p ∈ ps, p.Good N) ∧ 3 * ps.length ≤ 4000 ∧ ps ≠ []
theorem GoodR.flat {N : Nat} {rs : List (List Pt)} (h : GoodR N rs) : ∀ p ∈ rs.flatten, p.Good N := fun p hp => by
  obtain ⟨ps, h1, h2⟩ := List.mem_flatten.1 hp
  exact (h ps h1).1 p h2
theorem GoodR.take {N : Nat} {rs : List (List Pt)} (h : GoodR N rs) (c : Nat) : GoodR N (rs.take c) := fun ps hp => h ps (List.mem_of_mem_take hp)
/-- what a crash leaves: whichever records are told, the pages are those of A or those of C -/
def PTel (n L N G : Nat) (A C : Pgs) (f : Nat → List UInt8) : Prop :=
  ∃ g rs s, g ≤ G ∧ Fits n 0 L g (rs.map recL) ∧ GoodR N rs ∧ Tells f 0 L g (rs.map recL) s ∧
    ∀ c, s ≤ c → c ≤ rs.length → (∀ q, q < N → ptsOn (rs.take c).flatten (pgS f L) q = A q) ∨ (∀ q, q < N → ptsOn (rs.take c).flatten (pgS f L) q = C q)
theorem PTel.more {n L N G G' : Nat} {A C : Pgs} {f : Nat → List UInt8} (h : PTel n L N G A C f) (hG : G ≤ G') : PTel n L N G' A C f := by
  obtain ⟨g, rs, s, h1, h2⟩ := h
  exact ⟨g, rs, s, by omega, h2⟩
theorem PTel.or {n L N G : Nat} {A C : Pgs} {f : Nat → List UInt8} (h : PTel n L N G A A f) : PTel n L N G A C f := by
  obtain ⟨g, rs, s, h1, h2, h3, h4, h5⟩ := h
  exact ⟨g, rs, s, h1, h2, h3, h4, fun c a b => .inl ((h5 c a b).elim id id)⟩
/-- where the pages lie -/
structure Lay (n L N : Nat) : Prop where
  in_ : 2 * (L + N) ≤ n
  l4 : 4 ≤ L
  n1 : 1 ≤ N
  nm : N ≤ 4000
/-- a disk with its journal, the records in it, the pages as they were committed -/
structure Pd (S : St) (J : Js) (n L N g : Nat) (rs : List (List Pt)) (A : Pgs) : Prop where
  held : Held S J n 0 L g (rs.map recL) []
  lay : Lay n L N
  good : GoodR N rs
  recs : ∀ q, q < N → ptsOn rs.flatten (diskP S L) q = A q
  full : Full N A
section
variable {S T : St} {J : Js} {n L N g : Nat} {rs : List (List Pt)} {A C : Pgs} {f : Nat → List UInt8}
theorem Torn.len {k : Nat} {lo hi : Nat → List UInt8} (h : Torn S k n lo hi) : ∀ t, t < n → (hi t).length = 128 := fun t ht => by
  rw [← h.rd.2 t ht]; exact sec_length h.rd.1 ht
theorem Pd.open_ (h : Pd S J n L N g rs A) : ∃ f, Torn S 0 n f f ∧ Exact f 0 L g (framesL (rs.map recL)) ∧ (∀ q, q < N → diskP S L q = pgS f L q) ∧ ∀ q, q < N → ptsOn rs.flatten (pgS f L) q = A q := by
  obtain ⟨f, ht, he⟩ := h.held.torn
  have hin := h.lay.in_
  have hd : ∀ q, q < N → diskP S L q = pgS f L q := fun q hq => diskP_of ht.rd (by omega)
  refine ⟨f, ht, he, hd, fun q hq => ?_⟩
  rw [← h.recs q hq]
  exact ptsOn_congr (fun x hx => (hd x hx).symm) q hq
theorem Pd.fits (h : Pd S J n L N g rs A) : Fits n 0 L g (rs.map recL) := h.held.fits.left
theorem Pd.off (h : Pd S J n L N g rs A) : S.off = false := h.held.off
theorem pg_full (hf : ∀ t, t < n → (f t).length = 128) (hin : 2 * (L + N) ≤ n) : Full N (pgS f L) := fun q hq => by
  have h0 := hf (2 * (L + q)) (by omega)
  have h1 := hf (2 * (L + q) + 1) (by omega)
  unfold pgS
  rw [List.length_append]; omega
theorem Pd.dfull (h : Pd S J n L N g rs A) : Full N (diskP S L) := fun q hq => by
  obtain ⟨f, ht, _, hd, _⟩ := h.open_
  rw [hd q hq]
  exact pg_full ht.len h.lay.in_ q hq
/-- a disk on which some pages are written already: a crash there leaves the pages as they were committed -/
theorem mix_tel (hlay : Lay n L N) (hF : Fits n 0 L g (rs.map recL)) (hg : GoodR N rs) (he : Exact f 0 L g (framesL (rs.map recL))) (hf : ∀ t, t < n → (f t).length = 128) (hA : Full N A) (hr : ∀ q, q < N → ptsOn rs.flatten (pgS f L) q = A q)
    {h : Nat → List UInt8} (hm : MixS n L N A f h) : PTel n L N g A A h := by
  have hor := ar_or 0 L g
  have hin := hlay.in_
  refine ⟨g, rs, rs.length, Nat.le_refl _, hF, hg, ?_, fun c h1 h2 => .inl fun q hq => ?_⟩
  · have := he.tells
    rw [List.length_map] at this
    have hn := hlay.n1
    refine ⟨this.sl, fun i hi => ?_, ?_⟩
    · rw [hm.low (by omega) (by omega)]; exact this.mix i hi
    · rw [hm.low (by have := hlay.l4; omega) (by have := hlay.l4; omega)]; exact this.eld
  · obtain rfl : c = rs.length := by omega
    rw [List.take_length]
    obtain ⟨p1, p2⟩ := hm.page hin hf hA
    rw [ptsOn_mix hg.flat p1 (pg_full hf hin) (fun q i hq => by
      rcases p2 q i hq with e | e
      · exact .inl e
      · rw [hr q hq]; exact .inr e) q hq]
    exact hr q hq
theorem Pd.tel (h : Pd S J n L N g rs A) : Crashy S 0 n (PTel n L N g A A) := by
  obtain ⟨f, ht, he, hd, hr⟩ := h.open_
  exact ⟨f, f, ht, fun x hx => mix_tel h.lay h.fits h.good he ht.len h.full hr fun t ht => .inl (by rcases hx t ht with e | e <;> exact e)⟩
/-- a checkpoint under way: the pages in l are written -/
def Ck (S T : St) (n L N g : Nat) (rs : List (List Pt)) (A : Pgs) (l : List Nat) : Prop :=
  ∃ f lo hi, Torn T 0 n lo hi ∧ T.off = false ∧ (S.arm = -1 → T.arm = -1) ∧ MixS n L N A f lo ∧ MixS n L N A f hi ∧ (∀ q, q ∈ l → pgS hi L q = A q) ∧
    Exact f 0 L g (framesL (rs.map recL)) ∧ (∀ t, t < n → (f t).length = 128) ∧ (∀ q, q < N → diskP S L q = pgS f L q) ∧ ∀ q, q < N → ptsOn rs.flatten (pgS f L) q = A q
theorem Pd.ck (h : Pd S J n L N g rs A) : Ck S S n L N g rs A [] := by
  obtain ⟨f, ht, he, hd, hr⟩ := h.open_
  exact ⟨f, f, f, ht, h.off, id, .refl _, .refl _, fun q hq => by simp at hq, he, ht.len, hd, hr⟩
theorem Ck.crashy {l : List Nat} {lo hi : Nat → List UInt8} (h : Pd S J n L N g rs A) (ht : Torn T 0 n lo hi) (h1 : MixS n L N A f lo) (h2 : MixS n L N A f hi) (he : Exact f 0 L g (framesL (rs.map recL))) (hf : ∀ t, t < n → (f t).length = 128) (hr : ∀ q, q < N → ptsOn rs.flatten (pgS f L) q = A q) :
    Crashy T 0 n (PTel n L N g A A) :=
  ⟨lo, hi, ht, fun x hx => mix_tel h.lay h.fits h.good he hf h.full hr fun t ht => by
    rcases hx t ht with e | e
    · rw [e]; exact h1 t ht
    · rw [e]; exact h2 t ht⟩
theorem Out.arm {r : Int × St} {ok bad : St → Prop} (h : Out T r ok bad) (ha : S.arm = -1 → T.arm = -1) : Out S r ok bad := by
  rcases h with ⟨a, b, c, d⟩ | ⟨a, b, c⟩
  · exact .inl ⟨a, b, fun e => c (ha e), d⟩
  · exact .inr ⟨a, fun e => b (ha e), c⟩
theorem Ck.write {l : List Nat} (h : Pd S J n L N g rs A) (hc : Ck S T n L N g rs A l) {q : Nat} (hq : q < N) :
    Out S (T.write 0 ((256 * (L + q) : Nat) : Int) (A q)) (fun T' => Ck S T' n L N g rs A (l ++ [q])) (fun T' => Crashy T' 0 n (PTel n L N g A A)) := by
  obtain ⟨f, lo, hi, ht, hoff, harm, m1, m2, hl, he, hf, hd, hr⟩ := hc
  have hin := h.lay.in_
  have hw := ht.write hoff (o := 256 * (L + q)) (b := A q) (s := 2 * (L + q)) (m := 2) (g := fun j => sec (A q) j) (by omega) (by rw [h.full q hq]) (by omega) (fun _ _ => rfl)
  refine Out.arm ?_ harm
  rcases hw with ⟨a, b, c, d⟩ | ⟨a, b, c⟩
  · refine .inl ⟨a, b, c, f, lo, _, d, b, fun e => c (harm e), m1, m2.put hq, fun p hp => ?_, he, hf, hd, hr⟩
    rw [pg_put (h.full q hq)]
    by_cases e : p = q
    · rw [if_pos e, e]
    · rw [if_neg e]
      rcases List.mem_append.1 hp with h1 | h1
      · exact hl p h1
      · exact absurd (by simpa using h1) e
  · exact .inr ⟨a, b, Ck.crashy (l := l) h c m1 m2 he hf hr⟩
/-- all pages are written, and synced -/
def Cs (S T : St) (n L N g : Nat) (rs : List (List Pt)) (A : Pgs) : Prop :=
  ∃ f, Torn T 0 n f f ∧ T.off = false ∧ (S.arm = -1 → T.arm = -1) ∧ Exact f 0 L g (framesL (rs.map recL)) ∧ ∀ q, q < N → pgS f L q = A q
theorem Ck.sync {l : List Nat} (h : Pd S J n L N g rs A) (hc : Ck S T n L N g rs A l) (hall : ∀ q, q < N → q ∉ l → diskP S L q = A q) :
    Out S (T.sync 0) (fun T' => Cs S T' n L N g rs A) (fun T' => Crashy T' 0 n (PTel n L N g A A)) := by
  obtain ⟨f, lo, hi, ht, hoff, harm, m1, m2, hl, he, hf, hd, hr⟩ := hc
  have hin := h.lay.in_
  have h4 := h.lay.l4
  have hn1 := h.lay.n1
  have hor := ar_or 0 L g
  refine Out.arm ?_ harm
  rcases ht.sync hoff with ⟨a, b, c, d⟩ | ⟨a, b, c⟩
  · refine .inl ⟨a, b, c, hi, d, b, fun e => c (harm e), ⟨fun i hi' => ?_, ?_⟩, fun q hq => ?_⟩
    · rw [m2.low (by omega) (by omega)]; exact he.area i hi'
    · rw [m2.low (by omega) (by omega)]; exact he.eld
    · by_cases hq2 : q ∈ l
      · exact hl q hq2
      · have h1 := hall q hq hq2
        rw [hd q hq] at h1
        obtain ⟨p1, p2⟩ := m2.page hin hf h.full
        apply List.ext_getElem?
        intro i
        rcases p2 q i hq with e | e
        · rw [e, h1]
        · exact e
  · exact .inr ⟨a, b, Ck.crashy (l := l) h c m1 m2 he hf hr⟩
theorem ptsOn_done {ps : List Pt} {M B : Pgs} (hp : ∀ p ∈ ps, p.Good N) (hM : Full N M) (hB : Full N B) (h : ∀ q, q < N → M q = ptsOn ps B q) : ∀ q, q < N → ptsOn ps M q = ptsOn ps B q :=
  ptsOn_mix hp hM hB fun q i hq => .inr (by rw [h q hq])
theorem rest_pg {f f' : Nat → List UInt8} (hr : Rest f f' n 0 L) (hin : 2 * (L + N) ≤ n) : ∀ q, q < N → pgS f' L q = pgS f L q := fun q hq => by
  unfold pgS
  rw [hr _ (by omega) (by omega), hr _ (by omega) (by omega)]
theorem Cs.switch (h : Pd S J n L N g rs A) (hg : g + 1 ≤ 8796093022207) (hc : Cs S T n L N g rs A) :
    Out S (switchF J T 0) (fun T' => Pd T' (J.switch T 0) n L N (g + 1) [] A) (fun T' => Crashy T' 0 n (PTel n L N (g + 1) A A)) := by
  obtain ⟨f, ht, hoff, harm, he, hp⟩ := hc
  have hj := h.held.js
  have hin := h.lay.in_
  have hfits := h.fits
  have hsw := switch_mix ht hoff hfits hg he J ⟨by rw [hj], by rw [hj], by rw [hj], by rw [hj]; rfl⟩
  refine Out.arm ?_ harm
  rcases hsw with ⟨a, b, c, f', d, e, hr⟩ | ⟨a, b, c⟩
  · refine .inl ⟨a, b, c, ⟨⟨f', d, e⟩, b, ?_, by rw [List.append_nil]; exact hfits.none_ hg⟩, h.lay, fun ps hps => by simp at hps, fun q hq => ?_, h.full⟩
    · unfold Js.switch
      rw [if_pos a, hj]; rfl
    · show diskP _ L q = A q
      rw [diskP_of d.rd (by omega), rest_pg hr hin q hq, hp q hq]
  · refine .inr ⟨a, b, c.imp fun x hx => ?_⟩
    obtain ⟨hx, hr⟩ := hx
    have hpx : ∀ q, q < N → pgS x L q = A q := fun q hq => by rw [rest_pg hr hin q hq, hp q hq]
    rcases hx with hx | hx
    · refine ⟨g, rs, rs.length, by omega, hfits, h.good, by rw [List.length_map] at hx; exact hx, fun c' h1 h2 => .inl fun q hq => ?_⟩
      obtain rfl : c' = rs.length := by omega
      rw [List.take_length, ptsOn_done h.good.flat (fun q hq => by rw [hpx q hq]; exact h.full q hq) h.dfull (fun q hq => by rw [hpx q hq, h.recs q hq]) q hq]
      exact h.recs q hq
    · refine ⟨g + 1, [], 0, Nat.le_refl _, hfits.none_ hg, fun ps hps => by simp at hps, hx, fun c' h1 h2 => .inl fun q hq => ?_⟩
      simp only [List.take_nil, List.flatten_nil, ptsOn]
      exact hpx q hq
/-- a commit of one record -/
theorem Pd.commit (h : Pd S J n L N g rs A) {ps : List Pt} {J' : Js} (hj : Held S J' n 0 L g (rs.map recL) [recL ps]) (hps : ∀ p ∈ ps, p.Good N) (hlen : 3 * ps.length ≤ 4000) (hne : ps ≠ []) (hC : ∀ q, q < N → ptsOn ps A q = C q) :
    Out S (commitF J' S 0) (fun T => Pd T (J'.commit S 0) n L N g (rs ++ [ps]) C ∧ ∀ q, q < N → diskP T L q = diskP S L q) (fun T => Crashy T 0 n (PTel n L N g A C)) := by
  obtain ⟨f, ht, he⟩ := hj.torn
  have hin := h.lay.in_
  have hj2 := hj.js
  have hfits := hj.fits
  have hmap : rs.map recL ++ [recL ps] = (rs ++ [ps]).map recL := by simp
  have hgood : GoodR N (rs ++ [ps]) := fun x hx => by
    rcases List.mem_append.1 hx with h1 | h1
    · exact h.good x h1
    · have : x = ps := by simpa using h1
      subst this; exact ⟨hps, hlen, hne⟩
  have hd : ∀ q, q < N → diskP S L q = pgS f L q := fun q hq => diskP_of ht.rd (by omega)
  have hA : ∀ q, q < N → ptsOn rs.flatten (pgS f L) q = A q := fun q hq => by
    rw [← h.recs q hq]
    exact ptsOn_congr (fun x hx => (hd x hx).symm) q hq
  have hfl : (rs ++ [ps]).flatten = rs.flatten ++ ps := by simp
  have hCC : ∀ q, q < N → ptsOn (rs ++ [ps]).flatten (pgS f L) q = C q := fun q hq => by
    rw [hfl, ptsOn_append, ← hC q hq]
    exact ptsOn_congr hA q hq
  have hfull : Full N C := fun q hq => by
    rw [← hC q hq]
    exact ptsOn_full hps h.full q hq
  have h1 := commit_mix (w := 1) ht hj.off hfits he
  have hj3 : (⟨128 * 0, L, g, framesL (rs.map recL), framesL [recL ps], 1⟩ : Js) = J' := by rw [hj2]; rfl
  rw [hj3] at h1
  rcases h1 with ⟨a, b, c, f', d, e, hr⟩ | ⟨a, b, c⟩
  · refine .inl ⟨a, b, c, ⟨⟨⟨f', d, by rw [← hmap]; exact e⟩, b, ?_, by rw [List.append_nil, ← hmap]; exact hfits⟩, h.lay, hgood, fun q hq => ?_, hfull⟩, fun q hq => by rw [diskP_of d.rd (by omega), rest_pg hr hin q hq, hd q hq]⟩
    · unfold Js.commit
      rw [if_pos a, hj2, ← hmap, framesL_append]
      rfl
    · rw [← hCC q hq]
      exact ptsOn_congr (fun x hx => by rw [diskP_of d.rd (by omega), rest_pg hr hin x hx]) q hq
  · refine .inr ⟨a, b, c.imp fun x hx => ?_⟩
    obtain ⟨hx, hr⟩ := hx
    rw [hmap, List.length_map] at hx
    refine ⟨g, rs ++ [ps], rs.length, Nat.le_refl _, by rw [← hmap]; exact hfits, hgood, hx, fun c' h1 h2 => ?_⟩
    rw [List.length_append, List.length_singleton] at h2
    rcases Nat.lt_or_ge c' (rs.length + 1) with h3 | h3
    · obtain rfl : c' = rs.length := by omega
      refine .inl fun q hq => ?_
      rw [List.take_left, ← hA q hq]
      exact ptsOn_congr (fun y hy => rest_pg hr hin y hy) q hq
    · refine .inr fun q hq => ?_
      rw [List.take_of_length_le (by rw [List.length_append, List.length_singleton]; omega), ← hCC q hq]
      exact ptsOn_congr (fun y hy => rest_pg hr hin y hy) q hq
/-- a commit of nothing -/
theorem Pd.commit0 (h : Pd S J n L N g rs A) : Out S (commitF J S 0) (fun T => Pd T (J.commit S 0) n L N g rs A ∧ ∀ q, q < N → diskP T L q = diskP S L q) (fun T => Crashy T 0 n (PTel n L N g A A)) := by
  obtain ⟨f, ht, he⟩ := h.held.torn
  have hin := h.lay.in_
  have hj2 := h.held.js
  have hfits := h.held.fits
  have hd : ∀ q, q < N → diskP S L q = pgS f L q := fun q hq => diskP_of ht.rd (by omega)
  have h1 := commit_mix (w := 0) ht h.off hfits he
  have hj3 : (⟨128 * 0, L, g, framesL (rs.map recL), framesL [], 0⟩ : Js) = J := by rw [hj2]; rfl
  rw [hj3, List.append_nil] at h1
  rw [List.append_nil] at hfits
  rcases h1 with ⟨a, b, c, f', d, e, hr⟩ | ⟨a, b, c⟩
  · refine .inl ⟨a, b, c, ⟨⟨⟨f', d, e⟩, b, ?_, by rw [List.append_nil]; exact hfits⟩, h.lay, h.good, fun q hq => ?_, h.full⟩, fun q hq => by rw [diskP_of d.rd (by omega), rest_pg hr hin q hq, hd q hq]⟩
    · unfold Js.commit
      rw [if_pos a, hj2]
      simp [framesL]
    · rw [← h.recs q hq]
      exact ptsOn_congr (fun x hx => by rw [diskP_of d.rd (by omega), rest_pg hr hin x hx, hd x hx]) q hq
  · refine .inr ⟨a, b, c.imp fun x hx => ?_⟩
    obtain ⟨hx, hr⟩ := hx
    rw [List.length_map] at hx
    refine ⟨g, rs, rs.length, Nat.le_refl _, hfits, h.good, hx, fun c' h1 h2 => .inl fun q hq => ?_⟩
    obtain rfl : c' = rs.length := by omega
    rw [List.take_length, ← h.recs q hq]
    exact ptsOn_congr (fun y hy => by rw [rest_pg hr hin y hy, hd y hy]) q hq
theorem Pd.congr (h : Pd S J n L N g rs A) (hC : ∀ q, q < N → A q = C q) : Pd S J n L N g rs C :=
  ⟨h.held, h.lay, h.good, fun q hq => (h.recs q hq).trans (hC q hq), fun q hq => by rw [← hC q hq]; exact h.full q hq⟩
/-- an opening of what a crash left -/
theorem PTel.open_ {G : Nat} (h : PTel n L N G A C f) (hlay : Lay n L N) (ht : Torn S 0 n f f) (hoff : S.off = false) (hA : Full N A) (hC : Full N C) :
    ∃ rs g, g ≤ G ∧ GoodR N rs ∧ openR S 0 0 L = rs.map recL ∧
      Out S (openF S 0 0 L) (fun T => ∃ X, ((∀ q, q < N → X q = A q) ∨ (∀ q, q < N → X q = C q)) ∧ Pd T (openJ S 0 0 L) n L N g rs X) (fun T => Crashy T 0 n (PTel n L N G A C)) := by
  obtain ⟨g, rs, s, h1, h2, h3, h4, h5⟩ := h
  have hin := hlay.in_
  obtain ⟨c, c1, c2, c3, c4, c5⟩ := open_mix ht hoff h2 h4
  rw [Nat.mul_zero] at c3 c4 c5
  rw [List.length_map] at c2
  refine ⟨rs.take c, g, h1, h3.take c, by rw [c4, List.map_take], ?_⟩
  rcases c5 with ⟨a, b, e, f', d, k, hr⟩ | ⟨a, b, k⟩
  · have hd : ∀ q, q < N → diskP (openF S 0 0 L).2 L q = pgS f L q := fun q hq => by rw [diskP_of d.rd (by omega), rest_pg hr hin q hq]
    refine .inl ⟨a, b, e, ptsOn (rs.take c).flatten (pgS f L), h5 c c1 c2, ⟨⟨f', d, by rw [List.map_take]; exact k⟩, b, by rw [c3, List.map_take]; rfl, by rw [List.append_nil, List.map_take]; exact h2.take c⟩, hlay, h3.take c, fun q hq => ptsOn_congr hd q hq, ?_⟩
    exact ptsOn_full (h3.take c).flat (pg_full ht.len hin)
  · refine .inr ⟨a, b, k.imp fun x hx => ?_⟩
    obtain ⟨hx, hr⟩ := hx
    refine ⟨g, rs, s, h1, h2, h3, hx, fun c' a1 a2 => ?_⟩
    have : ∀ q, q < N → ptsOn (rs.take c').flatten (pgS x L) q = ptsOn (rs.take c').flatten (pgS f L) q := ptsOn_congr fun y hy => rest_pg hr hin y hy
    rcases h5 c' a1 a2 with e | e
    · exact .inl fun q hq => by rw [this q hq, e q hq]
    · exact .inr fun q hq => by rw [this q hq, e q hq]
end
end Go.Proofs.Ytjmhfjioccljeaa
