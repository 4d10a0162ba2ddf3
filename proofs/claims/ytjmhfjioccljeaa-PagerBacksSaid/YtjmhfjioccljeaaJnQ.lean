/-
  Plain law of a journal behind a crash: what Open, Commit, Switch leave, whole or cut off.
-/
import Derived.Test.YtjmhfjioccljeaaJnK
namespace Go.Proofs.Ytjmhfjioccljeaa
set_option linter.unusedVariables false
set_option linter.unusedSimpArgs false

/-- sectors of an area's generation, by perhaps several beginnings of one stream -/
structure Tells (f : Nat → List UInt8) (q m g : Nat) (l : List (List UInt8)) (s : Nat) : Prop where
  sl : s ≤ l.length
  mix : ∀ i, i < m → ∃ τ, (framesL (l.take s)).length ≤ τ ∧ τ ≤ (framesL l).length ∧ f (arA q m g + i) = layS g ((framesL l).take τ) i
  eld : genS (f (arO q m g)) (g % 2) < g
/-- .. by just this stream -/
structure Exact (f : Nat → List UInt8) (q m g : Nat) (st : List UInt8) : Prop where
  area : ∀ i, i < m → f (arA q m g + i) = layS g st i
  eld : genS (f (arO q m g)) (g % 2) < g
/-- how big all is -/
structure Fits (n q m g : Nat) (l : List (List UInt8)) : Prop where
  in_ : q + 2 * m ≤ n
  m1 : 2 ≤ m
  m2 : m ≤ 2000
  g1 : 1 ≤ g
  g2 : g ≤ 8796093022207
  recs : ∀ r ∈ l, r.length < 4294967296
  fill : (framesL l).length ≤ 119 * m
theorem framesL_append (a b : List (List UInt8)) : framesL (a ++ b) = framesL a ++ framesL b := by simp [framesL]
theorem frames_take (l : List (List UInt8)) (s : Nat) : framesL l = framesL (l.take s) ++ framesL (l.drop s) := by rw [← framesL_append, List.take_append_drop]
theorem frames_take_le (l : List (List UInt8)) (s : Nat) : (framesL (l.take s)).length ≤ (framesL l).length := by
  have := congrArg List.length (frames_take l s)
  rw [List.length_append] at this; omega
theorem frames_take_pre (l : List (List UInt8)) (s : Nat) : framesL (l.take s) = (framesL l).take (framesL (l.take s)).length := by
  have := frames_take l s
  have h := congrArg (List.take (framesL (l.take s)).length) this
  rw [List.take_left] at h
  exact h.symm
theorem Fits.take {n q m g : Nat} {l : List (List UInt8)} (h : Fits n q m g l) (s : Nat) : Fits n q m g (l.take s) :=
  ⟨h.in_, h.m1, h.m2, h.g1, h.g2, fun r hr => h.recs r (List.mem_of_mem_take hr), Nat.le_trans (frames_take_le l s) h.fill⟩
theorem Exact.tells {f : Nat → List UInt8} {q m g : Nat} {l : List (List UInt8)} (h : Exact f q m g (framesL l)) : Tells f q m g l l.length :=
  ⟨Nat.le_refl _, fun i hi => ⟨(framesL l).length, by rw [List.take_length]; exact Nat.le_refl _, Nat.le_refl _, by rw [List.take_length]; exact h.area i hi⟩, h.eld⟩
theorem Tells.congr {f f' : Nat → List UInt8} {q m g : Nat} {l : List (List UInt8)} {s n : Nat} (h : Tells f q m g l s) (hn : q + 2 * m ≤ n) (hm : 1 ≤ m) (hf : ∀ i, i < n → f' i = f i) : Tells f' q m g l s := by
  have ho := ar_or q m g
  refine ⟨h.sl, fun i hi => ?_, ?_⟩
  · rw [hf _ (by omega)]; exact h.mix i hi
  · rw [hf _ (by omega)]; exact h.eld
theorem Exact.congr {f f' : Nat → List UInt8} {q m g : Nat} {st : List UInt8} {n : Nat} (h : Exact f q m g st) (hn : q + 2 * m ≤ n) (hm : 1 ≤ m) (hf : ∀ i, i < n → f' i = f i) : Exact f' q m g st := by
  have ho := ar_or q m g
  refine ⟨fun i hi => ?_, ?_⟩
  · rw [hf _ (by omega)]; exact h.area i hi
  · rw [hf _ (by omega)]; exact h.eld
/-- outside both areas all is as it was -/
def Rest (f f' : Nat → List UInt8) (n q m : Nat) : Prop := ∀ i, i < n → (i < q ∨ q + 2 * m ≤ i) → f' i = f i
theorem Rest.refl (f : Nat → List UInt8) (n q m : Nat) : Rest f f n q m := fun _ _ _ => rfl
theorem Rest.trans {f f1 f2 : Nat → List UInt8} {n q m : Nat} (h : Rest f f1 n q m) (k : Rest f1 f2 n q m) : Rest f f2 n q m := fun i a b => (k i a b).trans (h i a b)
theorem area_sec {S : St} {k n q m g : Nat} {f : Nat → List UInt8} (h : HoldsS (S.at_ k).rd n f) (hq : q + 2 * m ≤ n) (which : Nat) (hw : which ≤ 1) :
    (areaL S k (128 * q) m which).length = 128 * m ∧ ∀ i, i < m → sec (areaL S k (128 * q) m which) i = f (q + which * m + i) := by
  have hlen := h.1
  have hwm : which * m ≤ m := by
    have : which = 0 ∨ which = 1 := by omega
    rcases this with e | e <;> subst e <;> omega
  have e1 : 128 * q + which * m * 128 = 128 * (q + which * m) := by rw [Nat.mul_add, Nat.mul_comm 128 (which * m)]
  unfold areaL
  rw [e1, Nat.mul_comm m 128]
  refine ⟨by rw [List.length_take, List.length_drop]; omega, fun i hi => ?_⟩
  rw [sec_area hi, h.2 _ (by omega)]
theorem gen_lay_load {b : List UInt8} {m g : Nat} {st : List UInt8} (hb : b.length = 128 * m) (hm1 : 1 ≤ m) (h0 : sec b 0 = layS g st 0) (hg1 : 1 ≤ g) (hg : g ≤ 8796093022207) : stampN b = g * 1048576 ∧ usedB b ((g + 1) % 2) = true := by
  obtain ⟨r, hr⟩ := sec_drop hb (show 0 < m by omega)
  have hL : layS g st 0 = secL g 0 st := by unfold layS; rw [if_pos (.inl rfl)]
  have hl8 := secL_length g 0 st
  rw [h0, hL, Nat.zero_mul, List.drop_zero] at hr
  have e1 : stampN b = g * 1048576 := by rw [hr, stampN_append (by omega), stampN_sec _ _ _ (by omega), Nat.add_zero]
  have e2 : stampU b ≤ 119 := by rw [hr, stampU_append (by omega), stampU_sec]; exact partL_le _ _
  have e3 : stampN b / 1048576 = g := by omega
  refine ⟨e1, ?_⟩
  unfold usedB
  rw [e3, e1]
  simp; omega
theorem pick_mix {S : St} {k n q m g s : Nat} {f : Nat → List UInt8} {l : List (List UInt8)} (h : HoldsS (S.at_ k).rd n f) (hF : Fits n q m g l) (ht : Tells f q m g l s) :
    ∃ t, (framesL (l.take s)).length ≤ t ∧ t ≤ (framesL l).length ∧ (∀ i, (i + 1) * 119 ≤ t → f (arA q m g + i) = secL g i (framesL l)) ∧ pickF S k (128 * q) m = (g, (framesL l).take t, areaL S k (128 * q) m ((g + 1) % 2)) := by
  obtain ⟨hq, hm1, hm, hg1, hg, hr, hl⟩ := hF
  obtain ⟨hA, hS⟩ := area_sec (g := g) h hq ((g + 1) % 2) (by omega)
  obtain ⟨hO, hT⟩ := area_sec (g := g) h hq (g % 2) (by omega)
  have hS' : ∀ i, i < m → ∃ τ, (framesL (l.take s)).length ≤ τ ∧ τ ≤ (framesL l).length ∧ sec (areaL S k (128 * q) m ((g + 1) % 2)) i = layS g ((framesL l).take τ) i := fun i hi => by
    rw [hS i hi]; exact ht.mix i hi
  obtain ⟨t, t1, t2, t3, t4, t5⟩ := walk_mix hA hS' hg1 (by omega) hm hl (frames_take_le l s) m 0 (by omega) (by omega)
  obtain ⟨τ, _, _, h0⟩ := hS' 0 (by omega)
  obtain ⟨e1, e2⟩ := gen_lay_load hA (by omega) h0 hg1 hg
  have hload : loadL (areaL S k (128 * q) m ((g + 1) % 2)) m ((g + 1) % 2) = (g, (framesL l).take t) := by
    unfold loadL
    rw [if_pos e2, e1, t4, Nat.zero_mul, List.drop_zero]
    congr 1; omega
  have ho : (loadL (areaL S k (128 * q) m (g % 2)) m (g % 2)).1 < g := by
    rw [load_gen hO (by omega), hT 0 (by omega)]
    exact ht.eld
  refine ⟨t, t1, t3, fun i hi => ?_, ?_⟩
  · have him : i < m := by omega
    rw [← t5 i (Nat.zero_le _) hi, hS i him]
    rfl
  · unfold pickF
    have : (g + 1) % 2 = 0 ∧ g % 2 = 1 ∨ (g + 1) % 2 = 1 ∧ g % 2 = 0 := by omega
    rcases this with ⟨e1, e2⟩ | ⟨e1, e2⟩
    · rw [e1] at hload ⊢
      rw [e2] at ho
      rw [hload, if_neg (by show ¬ _ > g; omega)]
    · rw [e1] at hload ⊢
      rw [e2] at ho
      rw [hload, if_pos (by show g > _; omega)]
/-- an opening: of the records the first ones, the sure ones among them; what is behind them is trimmed away, or the power goes -/
theorem open_mix {S : St} {k n q m g s : Nat} {f : Nat → List UInt8} {l : List (List UInt8)} (h : Torn S k n f f) (hoff : S.off = false) (hF : Fits n q m g l) (ht : Tells f q m g l s) :
    ∃ c, s ≤ c ∧ c ≤ l.length ∧ openJ S k (128 * q) m = ⟨128 * q, m, g, framesL (l.take c), [], 0⟩ ∧ openR S k (128 * q) m = l.take c ∧
      Out S (openF S k (128 * q) m) (fun T => ∃ f', Torn T k n f' f' ∧ Exact f' q m g (framesL (l.take c)) ∧ Rest f f' n q m) (fun T => Crashy T k n fun f' => Tells f' q m g l s ∧ Rest f f' n q m) := by
  obtain ⟨t, t1, t2, t3, hp⟩ := pick_mix h.rd hF ht
  obtain ⟨hq, hm1, hm, hg1, hg, hr, hl⟩ := hF
  have hlt : ((framesL l).take t).length = t := by rw [List.length_take]; omega
  obtain ⟨c, c1, c2, c3, c4⟩ := split_take l t t hr (Nat.le_refl _) t2
  have hsp : splitL ((framesL l).take t) = (l.take c, (framesL (l.take c)).length) := by unfold splitL; rw [hlt]; exact c2
  have hst : ((framesL l).take t).take (framesL (l.take c)).length = framesL (l.take c) := by
    rw [List.take_take, Nat.min_eq_left c3]; exact (frames_take_pre l c).symm
  have hsc := c4 s ht.sl t1
  have hJ : openJ S k (128 * q) m = ⟨128 * q, m, g, framesL (l.take c), [], 0⟩ := by unfold openJ; rw [hp]; simp only [hsp, hst]
  have hR : openR S k (128 * q) m = l.take c := by unfold openR; rw [hp]; simp only [hsp]
  refine ⟨c, hsc, c1, hJ, hR, ?_⟩
  obtain ⟨st, hst2⟩ : ∃ st, framesL (l.take c) = st := ⟨_, rfl⟩
  have hstl : st.length ≤ t := by rw [← hst2]; exact c3
  have hpre : st = (framesL l).take st.length := by rw [← hst2]; exact frames_take_pre l c
  have hsle : (framesL (l.take s)).length ≤ st.length := by
    rw [← hst2]
    have e : l.take s = (l.take c).take s := by rw [List.take_take, Nat.min_eq_left hsc]
    rw [e]; exact frames_take_le _ _
  rw [hst2] at hst hsp ⊢
  obtain ⟨hA, hS⟩ := area_sec (g := g) h.rd hq ((g + 1) % 2) (by omega)
  obtain ⟨raw, hraw⟩ : ∃ raw, areaL S k (128 * q) m ((g + 1) % 2) = raw := ⟨_, rfl⟩
  rw [hraw] at hA hS hp
  have hopen : openF S k (128 * q) m = trimF S k (128 * q) m g st raw := by
    unfold openF
    rw [if_neg (by rw [hoff]; simp), hp]
    simp only [hsp, hst]
    rw [if_neg (by omega)]
  rw [hopen]
  have hor := ar_or q m g
  obtain ⟨a, ha⟩ : ∃ a, arA q m g = a := ⟨_, rfl⟩
  have ha2 : q + (g + 1) % 2 * m = a := ha
  rw [ha] at hor t3
  -- the sectors ahead of the last record's end are whole
  have hfull : ∀ i, i < st.length / 119 → f (a + i) = layS g st i := fun i hi => by
    rw [t3 i (by omega)]
    have hss := secL_append (g := g) (i := i) (s := st) (t := (framesL l).drop st.length) (by omega)
    have e : st ++ (framesL l).drop st.length = framesL l := by
      conv => lhs; arg 1; rw [hpre]
      exact List.take_append_drop _ _
    rw [e] at hss
    unfold layS
    rw [hss, if_pos (.inr (by omega))]
  have hmixlen : ∀ x : Nat → List UInt8, (∀ i, i < n → ¬ (a ≤ i ∧ i < a + m) → x i = f i) → (∀ i, i < m → x (a + i) = f (a + i) ∨ x (a + i) = layS g st i) → Tells x q m g l s ∧ Rest f x n q m := fun x hx1 hx2 => by
    refine ⟨⟨ht.sl, fun i hi => ?_, ?_⟩, fun i hi hi2 => hx1 i hi (by omega)⟩
    · rw [ha]
      rcases hx2 i hi with e | e
      · have := ht.mix i hi
        rw [ha] at this
        rw [e]; exact this
      · exact ⟨st.length, hsle, by omega, by rw [e, ← hpre]⟩
    · rw [hx1 _ (by omega) (by omega)]; exact ht.eld
  unfold trimF
  by_cases hw : raw.drop (st.length / 119 * 128) = trimW m g st
  · rw [if_pos hw]
    refine .inl ⟨rfl, hoff, fun e => e, f, h, ⟨fun i hi => ?_, ht.eld⟩, Rest.refl _ _ _ _⟩
    rw [ha]
    by_cases h1 : i < st.length / 119
    · exact hfull i h1
    · have h2 := trimW_sec (m := m) (g := g) (t := i - st.length / 119) (st := st) (by omega) (by omega) (by omega)
      have h3 := hS i hi
      rw [ha2] at h3
      rw [← h3]
      rw [← hw] at h2
      rw [show st.length / 119 + (i - st.length / 119) = i by omega] at h2
      rw [← h2]
      unfold sec
      rw [List.drop_drop]
      congr 2; omega
  · rw [if_neg hw]
    have hWl := trimW_length (m := m) (g := g) (st := st) (by omega) (by omega)
    have ho : areaN (128 * q) m g + st.length / 119 * 128 = 128 * (a + st.length / 119) := by rw [areaN_ar, ha]; omega
    rw [ho]
    have hwr := h.write hoff (o := 128 * (a + st.length / 119)) (b := trimW m g st) (s := a + st.length / 119) (m := m - st.length / 119) (g := fun i => layS g st (st.length / 119 + i)) rfl hWl (by omega) (fun i hi => trimW_sec (by omega) (by omega) hi)
    refine Out.seq hwr rfl (fun T hT h2 => (h2.sync hT).imp (fun T2 h3 => ?_) fun T2 h3 => ?_) fun T h2 => ?_
    · refine ⟨_, h3, ⟨fun i hi => ?_, ?_⟩, fun i hi hi2 => if_neg (by omega)⟩
      · rw [ha]
        by_cases h1 : i < st.length / 119
        · rw [if_neg (by omega)]; exact hfull i h1
        · rw [if_pos (by omega)]; congr 1; omega
      · rw [if_neg (by omega)]; exact ht.eld
    · refine ⟨_, _, h3, fun x hx => hmixlen x (fun i hi hi2 => ?_) fun i hi => ?_⟩
      · rcases hx i hi with e | e
        · exact e
        · rw [if_neg (by omega)] at e; exact e
      · rcases hx (a + i) (by omega) with e | e
        · exact .inl e
        · by_cases h4 : a + st.length / 119 ≤ a + i ∧ a + i < a + st.length / 119 + (m - st.length / 119)
          · rw [if_pos h4] at e
            right; rw [e]; congr 1; omega
          · rw [if_neg h4] at e; exact .inl e
    · exact h2.crashy fun x hx => hmixlen x (fun i hi _ => hx i hi) fun i hi => .inl (hx _ (by omega))
/-- committing from sector i on -/
theorem commit_torn {k n a g : Nat} {s : List UInt8} {lo : Nat → List UInt8} : ∀ (c i : Nat) (S : St) (f : Nat → List UInt8), Torn S k n lo f → S.off = false → a + i + c ≤ n →
    Out S (commitL S k (128 * a) g s c i) (fun T => Torn T k n lo fun t => if a + i ≤ t ∧ t < a + i + c then secL g (t - a) s else f t) (fun T => ∃ hi, Torn T k n lo hi ∧ ∀ t, hi t = f t ∨ (a + i ≤ t ∧ t < a + i + c ∧ hi t = secL g (t - a) s))
  | 0, i, S, f, h, hoff, _ => .inl ⟨rfl, hoff, fun e => e, h.congr (fun _ _ => rfl) fun t ht => by rw [if_neg (by omega)]⟩
  | c + 1, i, S, f, h, hoff, hn => by
    have hw := h.write hoff (o := 128 * a + i * 128) (b := secL g i s) (s := a + i) (m := 1) (g := fun _ => secL g i s) (by omega) (secL_length _ _ _) (by omega) (fun j hj => by
      have : j = 0 := by omega
      subst this; exact sec_one (secL_length _ _ _))
    have hE : commitL S k (128 * a) g s (c + 1) i = if (S.write k ((128 * a + i * 128 : Nat) : Int) (secL g i s)).1 ≠ 0 then S.write k ((128 * a + i * 128 : Nat) : Int) (secL g i s) else commitL (S.write k ((128 * a + i * 128 : Nat) : Int) (secL g i s)).2 k (128 * a) g s c (i + 1) := by
      rw [commitL]
      by_cases e : (S.write k ((128 * a + i * 128 : Nat) : Int) (secL g i s)).1 = 0
      · rw [if_pos e, if_neg (fun h => h e)]
      · rw [if_neg e, if_pos e]
    refine Out.seq hw (g := fun T => commitL T k (128 * a) g s c (i + 1)) hE (fun T hT h2 => (commit_torn c (i + 1) T _ h2 hT (by omega)).imp (fun T2 h3 => h3.congr (fun _ _ => rfl) fun t ht => ?_) fun T2 h3 => ?_) fun T h2 => ⟨_, h2, fun t => .inl rfl⟩
    · by_cases h3 : a + (i + 1) ≤ t ∧ t < a + (i + 1) + c
      · rw [if_pos h3, if_pos (by omega)]
      · rw [if_neg h3]
        by_cases h4 : a + i ≤ t ∧ t < a + i + 1
        · rw [if_pos h4, if_pos (by omega), show t - a = i by omega]
        · rw [if_neg h4, if_neg (by omega)]
    · obtain ⟨hi, h4, h5⟩ := h3
      refine ⟨hi, h4, fun t => ?_⟩
      rcases h5 t with e | ⟨e1, e2, e3⟩
      · by_cases h6 : a + i ≤ t ∧ t < a + i + 1
        · rw [if_pos h6] at e
          exact .inr ⟨by omega, by omega, by rw [e, show t - a = i by omega]⟩
        · rw [if_neg h6] at e; exact .inl e
      · exact .inr ⟨by omega, by omega, e3⟩
/-- a commit: all that waits is told from now on; or the power goes, and of it the first ones are told -/
theorem commit_mix {S : St} {k n q m g w : Nat} {f : Nat → List UInt8} {l r : List (List UInt8)} (h : Torn S k n f f) (hoff : S.off = false) (hF : Fits n q m g (l ++ r)) (he : Exact f q m g (framesL l)) :
    Out S (commitF ⟨128 * q, m, g, framesL l, framesL r, w⟩ S k) (fun T => ∃ f', Torn T k n f' f' ∧ Exact f' q m g (framesL (l ++ r)) ∧ Rest f f' n q m) (fun T => Crashy T k n fun f' => Tells f' q m g (l ++ r) l.length ∧ Rest f f' n q m) := by
  obtain ⟨hq, hm1, hm, hg1, hg, hr, hl⟩ := hF
  have hor := ar_or q m g
  obtain ⟨a, ha⟩ : ∃ a, arA q m g = a := ⟨_, rfl⟩
  rw [ha] at hor
  have hlay := he.area
  rw [ha] at hlay
  obtain ⟨st, hst⟩ : ∃ st, framesL l = st := ⟨_, rfl⟩
  obtain ⟨wt, hwt⟩ : ∃ wt, framesL r = wt := ⟨_, rfl⟩
  have hfr : framesL (l ++ r) = st ++ wt := by rw [framesL_append, hst, hwt]
  rw [hfr, List.length_append] at hl
  rw [hst] at hlay
  rw [hst, hwt]
  obtain ⟨N, hN⟩ : ∃ N, commitN ⟨128 * q, m, g, st, wt, w⟩ = N := ⟨_, rfl⟩
  have hlen : (st ++ wt).length = st.length + wt.length := List.length_append
  have hNN : N = if wt = [] then 0 else (st.length + wt.length + 118) / 119 - st.length / 119 := by rw [← hlen, ← hN]; rfl
  have hc : st.length / 119 + N ≤ m := by
    rw [hNN]
    split <;> omega
  -- what the sectors become
  have hnew : ∀ i, i < m → (if a + st.length / 119 ≤ a + i ∧ a + i < a + st.length / 119 + N then secL g i (st ++ wt) else layS g st i) = layS g (st ++ wt) i := fun i hi => by
    by_cases h3 : a + st.length / 119 ≤ a + i ∧ a + i < a + st.length / 119 + N
    · rw [if_pos h3]
      have h0 : wt ≠ [] := by
        intro e
        rw [hNN, if_pos e] at h3; omega
      rw [hNN, if_neg h0] at h3
      unfold layS
      rw [if_pos (.inr (by omega))]
    · rw [if_neg h3]
      unfold layS
      by_cases h6 : wt = []
      · rw [h6, List.append_nil]
      · have hw : 0 < wt.length := List.length_pos_iff.2 h6
        rw [hNN, if_neg h6] at h3
        by_cases h7 : i < st.length / 119
        · rw [if_pos (.inr (by omega)), if_pos (.inr (by omega)), secL_append (by omega)]
        · rw [if_neg (by omega), if_neg (by omega)]
  have hbad : ∀ x : Nat → List UInt8, (∀ i, i < n → ¬ (a ≤ i ∧ i < a + m) → x i = f i) → (∀ i, i < m → x (a + i) = layS g st i ∨ x (a + i) = layS g (st ++ wt) i) → Tells x q m g (l ++ r) l.length ∧ Rest f x n q m := fun x hx1 hx2 => by
    refine ⟨⟨by simp, fun i hi => ?_, ?_⟩, fun i hi hi2 => hx1 i hi (by omega)⟩
    · rw [ha, List.take_left, hst, hfr, hlen]
      rcases hx2 i hi with e | e
      · exact ⟨st.length, Nat.le_refl _, by omega, by rw [e, List.take_left]⟩
      · exact ⟨(st ++ wt).length, by omega, by omega, by rw [e, List.take_length]⟩
    · rw [hx1 _ (by omega) (by omega)]; exact he.eld
  have h1 := commit_torn (k := k) (n := n) (a := a) (g := g) (s := st ++ wt) (lo := f) N (st.length / 119) S f h hoff (by omega)
  have hE : commitW ⟨128 * q, m, g, st, wt, w⟩ S k = commitL S k (128 * a) g (st ++ wt) N (st.length / 119) := by
    unfold commitW
    rw [hN, areaN_ar, ha]
  unfold commitF
  rw [hE]
  refine Out.seq h1 rfl (fun T hT h2 => (h2.sync hT).imp (fun T2 h3 => ?_) fun T2 h3 => ?_) fun T h2 => ?_
  · refine ⟨_, h3, ⟨fun i hi => ?_, ?_⟩, fun i hi hi2 => if_neg (by omega)⟩
    · rw [ha, hfr, ← hnew i hi, hlay i hi, show a + i - a = i by omega]
    · rw [if_neg (by omega)]; exact he.eld
  · refine ⟨_, _, h3, fun x hx => hbad x (fun i hi hi2 => ?_) fun i hi => ?_⟩
    · rcases hx i hi with e | e
      · exact e
      · rw [if_neg (by omega)] at e; exact e
    · rcases hx (a + i) (by omega) with e | e
      · exact .inl (e.trans (hlay i hi))
      · rw [hlay i hi, show a + i - a = i by omega, hnew i hi] at e
        exact .inr e
  · obtain ⟨hi, h3, h4⟩ := h2
    refine ⟨_, _, h3, fun x hx => hbad x (fun i hi hi2 => ?_) fun i hi => ?_⟩
    · rcases hx i hi with e | e
      · exact e
      · rcases h4 i with e2 | ⟨e1, e2, _⟩
        · rw [e, e2]
        · omega
    · rcases hx (a + i) (by omega) with e | e
      · exact .inl (e.trans (hlay i hi))
      · rcases h4 (a + i) with e2 | ⟨e1, e2, e3⟩
        · exact .inl (e.trans (e2.trans (hlay i hi)))
        · right
          rw [e, e3, show a + i - a = i by omega, ← hnew i hi, if_pos ⟨e1, e2⟩]
/-- a switch: no record any more; or the power goes, and all are there, or none -/
theorem switch_mix {S : St} {k n q m g : Nat} {f : Nat → List UInt8} {l : List (List UInt8)} (h : Torn S k n f f) (hoff : S.off = false) (hF : Fits n q m g l) (hg : g + 1 ≤ 8796093022207) (he : Exact f q m g (framesL l)) (J : Js) (hJ : J.first = 128 * q ∧ J.sectors = m ∧ J.gen = g ∧ J.waiting = 0) :
    Out S (switchF J S k) (fun T => ∃ f', Torn T k n f' f' ∧ Exact f' q m (g + 1) [] ∧ Rest f f' n q m) (fun T => Crashy T k n fun f' => (Tells f' q m g l l.length ∨ Tells f' q m (g + 1) [] 0) ∧ Rest f f' n q m) := by
  obtain ⟨hq, hm1, hm, hg1, _, hr, hl⟩ := hF
  obtain ⟨j1, j2, j3, j4⟩ := hJ
  have hor := ar_or q m g
  obtain ⟨a, ha⟩ : ∃ a, arA q m g = a := ⟨_, rfl⟩
  obtain ⟨b, hb⟩ : ∃ b, arO q m g = b := ⟨_, rfl⟩
  have hE : switchF J S k = blankF S k (128 * b) m (128 * b) (g + 1) := by
    unfold switchF
    rw [if_neg (by omega), j1, j2, j3, areaN_ar, arA_succ, hb]
  have hb2 : arA q m (g + 1) = b := by rw [arA_succ]; exact hb
  have ha2 : arO q m (g + 1) = a := by rw [arO_succ]; exact ha
  have hlay := he.area
  have held := he.eld
  rw [ha, hb] at hor
  rw [ha] at hlay
  rw [hb] at held
  have hold : ∀ x : Nat → List UInt8, (∀ i, i < n → ¬ (b ≤ i ∧ i < b + m) → x i = f i) → (x b = f b ∨ x b = zeroB 128) → Tells x q m g l l.length ∧ Rest f x n q m := fun x hx1 hx2 => by
    refine ⟨⟨Nat.le_refl _, fun i hi => ⟨(framesL l).length, by rw [List.take_length]; exact Nat.le_refl _, Nat.le_refl _, ?_⟩, ?_⟩, fun i hi hi2 => hx1 i hi (by omega)⟩
    · rw [ha, List.take_length, hx1 _ (by omega) (by omega)]; exact hlay i hi
    · rw [hb]
      rcases hx2 with e | e
      · rw [e]; exact held
      · rw [e, genS_zero]; omega
  have hfresh : ∀ x : Nat → List UInt8, (∀ i, i < n → ¬ (b ≤ i ∧ i < b + m) → x i = f i) → (∀ i, i < m → x (b + i) = layS (g + 1) [] i) → Exact x q m (g + 1) [] ∧ Rest f x n q m := fun x hx1 hx2 => by
    refine ⟨⟨fun i hi => by rw [hb2]; exact hx2 i hi, ?_⟩, fun i hi hi2 => hx1 i hi (by omega)⟩
    rw [ha2, hx1 _ (by omega) (by omega)]
    have := hlay 0 (by omega)
    rw [Nat.add_zero] at this
    rw [this]
    have := genS_lay g (framesL l) ((g + 1) % 2) (by omega)
    omega
  rw [hE]
  have hzs : ∀ i, i < m → sec (zeroB (m * 128)) i = zeroB 128 := fun i hi => by rw [Nat.mul_comm]; exact sec_zeroB hi
  have h1 := h.write hoff (o := 128 * b) (b := zeroB (m * 128)) (s := b) (m := m) (g := fun _ => zeroB 128) rfl (by rw [zeroB_length]; omega) (by omega) hzs
  have hz : Exact (fun _ => []) 0 0 0 [] → True := fun _ => trivial
  -- the area of noughts
  obtain ⟨z, hzz⟩ : ∃ z : Nat → List UInt8, z = fun i => if b ≤ i ∧ i < b + m then zeroB 128 else f i := ⟨_, rfl⟩
  have hz1 : ∀ i, ¬ (b ≤ i ∧ i < b + m) → z i = f i := fun i hi => by rw [hzz]; exact if_neg hi
  have hz2 : ∀ i, i < m → z (b + i) = zeroB 128 := fun i hi => by rw [hzz]; exact if_pos ⟨by omega, by omega⟩
  rw [← hzz] at h1
  have hzb : z b = zeroB 128 := hz2 0 (by omega)
  have hone : ∀ i, i < 1 → sec (secL (g + 1) 0 []) i = secL (g + 1) 0 [] := fun i hi => by
    have : i = 0 := by omega
    subst this; exact sec_one (secL_length _ _ _)
  obtain ⟨y, hyy⟩ : ∃ y : Nat → List UInt8, y = fun i => if b ≤ i ∧ i < b + 1 then secL (g + 1) 0 [] else z i := ⟨_, rfl⟩
  have hy1 : ∀ i, ¬ (b ≤ i ∧ i < b + m) → y i = f i := fun i hi => by rw [hyy]; show (if _ then _ else _) = _; rw [if_neg (by omega)]; exact hz1 i hi
  have hy2 : ∀ i, i < m → y (b + i) = layS (g + 1) [] i := fun i hi => by
    rw [hyy]; show (if _ then _ else _) = _
    unfold layS
    by_cases h0 : i = 0
    · subst h0; rw [if_pos (by omega), if_pos (.inl rfl)]
    · rw [if_neg (by omega), if_neg (by simp [h0]), hz2 i hi]
  have hyb : y b = layS (g + 1) [] 0 := hy2 0 (by omega)
  unfold blankF
  refine Out.seq h1 (g := fun T => if (T.sync k).1 ≠ 0 then T.sync k else if ((T.sync k).2.write k ((128 * b : Nat) : Int) (secL (g + 1) 0 [])).1 ≠ 0 then (T.sync k).2.write k ((128 * b : Nat) : Int) (secL (g + 1) 0 []) else ((T.sync k).2.write k ((128 * b : Nat) : Int) (secL (g + 1) 0 [])).2.sync k) rfl (fun T hT h2 => ?_) fun T h2 => ?_
  · refine Out.seq (h2.sync hT) (g := fun T => if (T.write k ((128 * b : Nat) : Int) (secL (g + 1) 0 [])).1 ≠ 0 then T.write k ((128 * b : Nat) : Int) (secL (g + 1) 0 []) else (T.write k ((128 * b : Nat) : Int) (secL (g + 1) 0 [])).2.sync k) rfl (fun T2 hT2 h3 => ?_) fun T2 h3 => ?_
    · have h4 := h3.write hT2 (o := 128 * b) (b := secL (g + 1) 0 []) (s := b) (m := 1) (g := fun _ => secL (g + 1) 0 []) rfl (secL_length _ _ _) (by omega) hone
      rw [← hyy] at h4
      refine Out.seq h4 (g := fun T => T.sync k) rfl (fun T3 hT3 h5 => (h5.sync hT3).imp (fun T4 h6 => ?_) fun T4 h6 => ?_) fun T3 h5 => ?_
      · obtain ⟨r1, r2⟩ := hfresh y (fun i _ hi2 => hy1 i hi2) hy2
        exact ⟨y, h6, r1, r2⟩
      · refine ⟨z, y, h6, fun x hx => ?_⟩
        have hx1 : ∀ i, i < n → ¬ (b ≤ i ∧ i < b + m) → x i = f i := fun i hi hi2 => by
          rcases hx i hi with e | e
          · rw [e, hz1 i hi2]
          · rw [e, hy1 i hi2]
        rcases hx b (by omega) with e | e
        · obtain ⟨r1, r2⟩ := hold x hx1 (.inr (by rw [e, hzb]))
          exact ⟨.inl r1, r2⟩
        · obtain ⟨r1, r2⟩ := hfresh x hx1 fun i hi => by
            by_cases h0 : i = 0
            · subst h0; rw [Nat.add_zero, e, hyb]
            · have hzy : z (b + i) = y (b + i) := by
                rw [hz2 i hi, hy2 i hi]; unfold layS; rw [if_neg (by simp [h0])]
              rcases hx (b + i) (by omega) with e2 | e2
              · rw [e2, hzy, hy2 i hi]
              · rw [e2, hy2 i hi]
          exact ⟨.inr (Exact.tells (l := []) r1), r2⟩
      · refine h5.crashy fun x hx => ?_
        obtain ⟨r1, r2⟩ := hold x (fun i hi hi2 => by rw [hx i hi, hz1 i hi2]) (.inr (by rw [hx b (by omega), hzb]))
        exact ⟨.inl r1, r2⟩
    · refine ⟨f, z, h3, fun x hx => ?_⟩
      obtain ⟨r1, r2⟩ := hold x (fun i hi hi2 => by
        rcases hx i hi with e | e
        · exact e
        · rw [e, hz1 i hi2]) (by
        rcases hx b (by omega) with e | e
        · exact .inl e
        · exact .inr (by rw [e, hzb]))
      exact ⟨.inl r1, r2⟩
  · refine h2.crashy fun x hx => ?_
    obtain ⟨r1, r2⟩ := hold x (fun i hi _ => hx i hi) (.inl (hx b (by omega)))
    exact ⟨.inl r1, r2⟩
end Go.Proofs.Ytjmhfjioccljeaa
