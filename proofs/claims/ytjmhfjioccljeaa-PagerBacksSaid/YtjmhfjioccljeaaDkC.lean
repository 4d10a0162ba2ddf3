/-
  Plain law of a crash: sector by sector.
-/
import Derived.Test.YtjmhfjioccljeaaDk
namespace Go.Proofs.Ytjmhfjioccljeaa
set_option linter.unusedVariables false
set_option linter.unusedSimpArgs false

/-- the unsynced ones of the first n sectors -/
def Dk.unsTo (d : Dk) (n : Nat) : List Nat := (List.range n).filter d.new
theorem unsTo_succ (d : Dk) (n : Nat) : d.unsTo (n + 1) = d.unsTo n ++ (if d.new n then [n] else []) := by
  unfold Dk.unsTo
  rw [List.range_succ, List.filter_append]
  cases h : d.new n <;> simp [h]
theorem unsTo_length (d : Dk) (n : Nat) (hn : n ≤ d.nw.length) : (d.unsTo n).length = d.cnt n := by
  induction n with
  | zero => simp [Dk.unsTo, Dk.cnt]
  | succ n ih =>
    rw [unsTo_succ, List.length_append, ih (by omega), cnt_succ d n (by omega)]
    split <;> simp
theorem cnt_mono (d : Dk) {s t : Nat} (h : s ≤ t) (ht : t ≤ d.nw.length) : d.cnt s ≤ d.cnt t := by
  induction t with
  | zero => have : s = 0 := by omega
            rw [this]; exact Nat.le_refl _
  | succ t ih =>
    by_cases hst : s = t + 1
    · rw [hst]; exact Nat.le_refl _
    · rw [cnt_succ d t (by omega)]
      have := ih (by omega) (by omega)
      omega
theorem cnt_lt (d : Dk) {s t : Nat} (h : s < t) (hn : d.new s = true) (ht : t ≤ d.nw.length) : d.cnt s < d.cnt t := by
  have h1 := cnt_succ d s (by omega)
  rw [if_pos hn] at h1
  have := cnt_mono d (show s + 1 ≤ t by omega) ht
  omega
theorem cnt_inj (d : Dk) {s t : Nat} (hs : d.new s = true) (ht : d.new t = true) (hsl : s < d.nw.length) (htl : t < d.nw.length) (h : d.cnt s = d.cnt t) : s = t := by
  rcases Nat.lt_trichotomy s t with h1 | h1 | h1
  · have := cnt_lt d h1 hs (by omega); omega
  · exact h1
  · have := cnt_lt d h1 ht (by omega); omega
theorem unsTo_at (d : Dk) (n s : Nat) (hn : n ≤ d.nw.length) (hs : s < n) (h : d.new s = true) : (d.unsTo n)[d.cnt s]? = some s := by
  induction n with
  | zero => omega
  | succ n ih =>
    rw [unsTo_succ]
    have hl := unsTo_length d n (by omega)
    by_cases hsn : s = n
    · subst hsn
      rw [List.getElem?_append_right (by omega), hl, if_pos h]
      simp
    · have := cnt_lt d (show s < n by omega) h (by omega)
      rw [List.getElem?_append_left (by omega)]
      exact ih (by omega) (by omega)
theorem uns_length (d : Dk) : d.uns.length = d.all := by
  have := unsTo_length d d.nw.length (Nat.le_refl _)
  rw [cnt_all] at this
  exact this
theorem uns_get (d : Dk) {j : Nat} (hj : j < d.uns.length) : d.new (d.uns.getD j 0) = true ∧ d.uns.getD j 0 < d.nw.length ∧ d.cnt (d.uns.getD j 0) = j := by
  rw [getD_eq _ _ _ hj]
  have hm := List.getElem_mem hj
  have h1 := List.mem_filter.1 hm
  have hlt : d.uns[j] < d.nw.length := List.mem_range.1 h1.1
  refine ⟨h1.2, hlt, ?_⟩
  have h2 := unsTo_at d d.nw.length d.uns[j] (Nat.le_refl _) hlt h1.2
  have h3 : d.uns[d.cnt d.uns[j]]? = some d.uns[j] := h2
  have hnd : d.uns.Nodup := (List.nodup_range).filter _
  obtain ⟨h4, h5⟩ := List.getElem?_eq_some_iff.1 h3
  rcases Nat.lt_trichotomy (d.cnt d.uns[j]) j with h6 | h6 | h6
  · exact absurd h5 (List.pairwise_iff_getElem.1 hnd _ _ h4 hj h6)
  · exact h6
  · exact absurd h5.symm (List.pairwise_iff_getElem.1 hnd _ _ hj h4 h6)
/-- which sectors are back at what lasted, when the first j unsynced ones are gone through -/
def Dk.backTo (d : Dk) (picks : List Int) (a j s : Nat) : Bool := d.new s && decide (d.cnt s < j) && !oddAt picks (a + d.cnt s)
def Dk.mid (d : Dk) (picks : List Int) (a j : Nat) : List UInt8 := blend d.nw.length (d.backTo picks a j) d.la d.rd
theorem mid_zero {d : Dk} (h : d.Ok) (picks : List Int) (a : Nat) : d.mid picks a 0 = d.rd := by
  unfold Dk.mid
  rw [blend_congr (c' := fun _ => false) (fun s _ => by simp [Dk.backTo])]
  exact blend_false h.rd h.la
theorem mid_all {d : Dk} (h : d.Ok) (picks : List Int) (a : Nat) : d.mid picks a d.uns.length = d.crashed picks a := by
  unfold Dk.mid Dk.crashed
  refine blend_congr fun s hs => ?_
  unfold Dk.backTo
  cases hn : d.new s
  · simp
  · have h1 := cnt_lt d hs hn (Nat.le_refl _)
    rw [cnt_all, ← uns_length] at h1
    simp [h1]
theorem mid_length {d : Dk} (h : d.Ok) (picks : List Int) (a j : Nat) : (d.mid picks a j).length = 128 * d.nw.length := blend_length h.la h.rd (Nat.le_refl _)
theorem mid_ok {d : Dk} (h : d.Ok) (picks : List Int) (a j : Nat) : Dk.Ok ⟨d.mid picks a j, d.la, d.nw⟩ :=
  ⟨mid_length h picks a j, h.la, fun s hs hn => by
    have hn' : d.new s = false := hn
    show sec (d.mid picks a j) s = sec d.la s
    unfold Dk.mid
    rw [sec_blend h.la h.rd (Nat.le_refl _) hs]
    have : d.backTo picks a j s = false := by unfold Dk.backTo; rw [hn']; rfl
    rw [this]
    exact h.eq s hs hn'⟩
theorem mid_odd {d : Dk} (h : d.Ok) (picks : List Int) (a : Nat) {j : Nat} (hj : j < d.uns.length) (ho : oddAt picks (a + j) = true) : d.mid picks a (j + 1) = d.mid picks a j := by
  unfold Dk.mid
  refine blend_congr fun s hs => ?_
  unfold Dk.backTo
  cases hn : d.new s
  · simp
  · by_cases h1 : d.cnt s = j
    · rw [h1, ho]; simp
    · have : decide (d.cnt s < j + 1) = decide (d.cnt s < j) := by rw [decide_eq_decide]; omega
      rw [this]
theorem mid_even {d : Dk} (h : d.Ok) (picks : List Int) (a : Nat) {j : Nat} (hj : j < d.uns.length) (ho : oddAt picks (a + j) = false) :
    putAt (d.mid picks a j) (128 * d.uns.getD j 0) (sec d.la (d.uns.getD j 0)) = d.mid picks a (j + 1) := by
  obtain ⟨h1, h2, h3⟩ := uns_get d hj
  unfold Dk.mid
  rw [blend_put h.la h.rd h2]
  refine blend_congr fun s hs => ?_
  unfold Dk.backTo
  by_cases hss : s = d.uns.getD j 0
  · rw [hss, h1, h3, ho]; simp
  · rw [decide_eq_false hss, Bool.or_false]
    cases hn : d.new s
    · simp
    · have hne : d.cnt s ≠ j := fun e => hss (cnt_inj d hn h1 hs h2 (e.trans h3.symm))
      have : decide (d.cnt s < j + 1) = decide (d.cnt s < j) := by rw [decide_eq_decide]; omega
      rw [this]
/-- all disks of a power, one behind the other -/
def crashL (picks : List Int) : Nat → List (Nat × Dk) → List (Nat × Dk)
  | _, [] => []
  | a, x :: r => (x.1, x.2.crash picks a) :: crashL picks (a + x.2.all) r
/-- how many picks the first i disks take -/
def taken (ds : List (Nat × Dk)) (i : Nat) : Nat := ((ds.take i).map fun x => x.2.all).sum
theorem crashL_length (picks : List Int) (a : Nat) (ds : List (Nat × Dk)) : (crashL picks a ds).length = ds.length := by
  induction ds generalizing a with
  | nil => rfl
  | cons x r ih => simp [crashL, ih]
theorem crashL_get (picks : List Int) (a : Nat) (ds : List (Nat × Dk)) (i : Nat) {x : Nat × Dk} (h : ds[i]? = some x) : (crashL picks a ds)[i]? = some (x.1, x.2.crash picks (a + taken ds i)) := by
  induction ds generalizing a i with
  | nil => simp at h
  | cons y r ih =>
    cases i with
    | zero => simp at h; subst h; simp [crashL, taken]
    | succ i =>
      simp only [List.getElem?_cons_succ] at h
      simp only [crashL, List.getElem?_cons_succ]
      rw [ih _ _ h]
      have e : a + y.2.all + taken r i = a + taken (y :: r) (i + 1) := by simp [taken, Nat.add_assoc]
      rw [e]
theorem taken_succ (ds : List (Nat × Dk)) (i : Nat) {x : Nat × Dk} (h : ds[i]? = some x) : taken ds (i + 1) = taken ds i + x.2.all := by
  unfold taken
  obtain ⟨h1, h2⟩ := List.getElem?_eq_some_iff.1 h
  rw [List.take_succ_eq_append_getElem h1, h2]; simp
/-- the first i disks have crashed -/
def crashTo (picks : List Int) (ds : List (Nat × Dk)) (i : Nat) : List (Nat × Dk) := (crashL picks 0 ds).take i ++ ds.drop i
theorem crashTo_zero (picks : List Int) (ds : List (Nat × Dk)) : crashTo picks ds 0 = ds := by simp [crashTo]
theorem crashTo_all (picks : List Int) (ds : List (Nat × Dk)) (i : Nat) (h : ds.length ≤ i) : crashTo picks ds i = crashL picks 0 ds := by
  unfold crashTo
  rw [List.drop_eq_nil_of_le h, List.append_nil, List.take_of_length_le (by rw [crashL_length]; exact h)]
theorem crashTo_length (picks : List Int) (ds : List (Nat × Dk)) (i : Nat) (h : i ≤ ds.length) : (crashTo picks ds i).length = ds.length := by
  simp [crashTo, crashL_length]; omega
theorem crashTo_at (picks : List Int) (ds : List (Nat × Dk)) (i : Nat) (h : i < ds.length) : (crashTo picks ds i)[i]? = ds[i]? := by
  unfold crashTo
  have hl : (List.take i (crashL picks 0 ds)).length = i := by rw [List.length_take, crashL_length]; omega
  rw [List.getElem?_append_right (by omega), List.getElem?_drop, hl]
  congr 1; omega
theorem crashTo_succ (picks : List Int) (ds : List (Nat × Dk)) (i : Nat) {x : Nat × Dk} (h : ds[i]? = some x) : (crashTo picks ds i).set i (x.1, x.2.crash picks (taken ds i)) = crashTo picks ds (i + 1) := by
  obtain ⟨hl, hx⟩ := List.getElem?_eq_some_iff.1 h
  have hg := crashL_get picks 0 ds i h
  rw [Nat.zero_add] at hg
  obtain ⟨h1, h2⟩ := List.getElem?_eq_some_iff.1 hg
  unfold crashTo
  have hl2 : (List.take i (crashL picks 0 ds)).length = i := by rw [List.length_take, crashL_length]; omega
  rw [List.set_append_right _ _ (by omega), List.take_succ_eq_append_getElem h1, h2, List.append_assoc, hl2, Nat.sub_self, List.drop_eq_getElem_cons hl]
  rfl
theorem crashTo_fst (picks : List Int) (ds : List (Nat × Dk)) (i : Nat) : (crashTo picks ds i).map Prod.fst = ds.map Prod.fst := by
  have h : ∀ a, (crashL picks a ds).map Prod.fst = ds.map Prod.fst := by
    intro a
    induction ds generalizing a with
    | nil => rfl
    | cons x r ih => simp [crashL, ih]
  unfold crashTo
  rw [List.map_append, List.map_take, h 0, List.map_drop, List.take_append_drop]
end Go.Proofs.Ytjmhfjioccljeaa
