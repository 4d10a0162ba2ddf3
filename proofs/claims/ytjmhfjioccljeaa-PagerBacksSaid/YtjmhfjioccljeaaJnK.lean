/-
  Plain law of a journal behind a crash: of each sector what lasts or what is read; what an opening then tells.
-/
import Derived.Test.YtjmhfjioccljeaaJnL
namespace Go.Proofs.Ytjmhfjioccljeaa
set_option linter.unusedVariables false
set_option linter.unusedSimpArgs false

/-- disk k: of each sector what lasts and what is read -/
structure Torn (S : St) (k n : Nat) (lo hi : Nat → List UInt8) : Prop where
  kl : k < S.ds.length
  ok : (S.at_ k).Ok
  la : HoldsS (S.at_ k).la n lo
  rd : HoldsS (S.at_ k).rd n hi
theorem Torn.of_calm {S : St} {k n : Nat} {f : Nat → List UInt8} (h : Calm S k n f) : Torn S k n f f := by
  have h1 := h.ok.rd
  have h2 := h.ok.la
  have h3 := h.holds.1
  refine ⟨h.kl, h.ok, ⟨by omega, fun i hi => ?_⟩, h.holds⟩
  rw [← h.ok.eq i (by omega) (h.old i)]
  exact h.holds.2 i hi
theorem Torn.wet {S : St} {k n : Nat} {lo hi : Nat → List UInt8} (h : Torn S k n lo hi) (h1 : S.off = false) (h2 : S.arm = -1) : Wet S k n hi := ⟨h1, h2, h.kl, h.ok, h.rd⟩
theorem crashD_get (picks : List Int) (a : Nat) (ds : List Dk) (k : Nat) {x : Dk} (h : ds[k]? = some x) : ∃ b, (crashD picks a ds)[k]? = some (x.crash picks b) := by
  induction ds generalizing a k with
  | nil => simp at h
  | cons y r ih =>
    cases k with
    | zero => simp at h; subst h; exact ⟨a, by simp [crashD]⟩
    | succ k =>
      simp only [List.getElem?_cons_succ] at h
      simp only [crashD, List.getElem?_cons_succ]
      exact ih _ _ h
theorem at_crash (S : St) (picks : List Int) {k : Nat} (hk : k < S.ds.length) : ∃ b, (S.crash picks).at_ k = (S.at_ k).crash picks b := by
  obtain ⟨b, hb⟩ := crashD_get picks 0 S.ds k (List.getElem?_eq_getElem hk)
  refine ⟨b, ?_⟩
  unfold St.at_ St.crash
  simp only [List.getD, hb, List.getElem?_eq_getElem hk, Option.getD_some]
theorem Torn.crash {S : St} {k n : Nat} {lo hi : Nat → List UInt8} (h : Torn S k n lo hi) (picks : List Int) :
    ∃ f, (∀ i, i < n → f i = lo i ∨ f i = hi i) ∧ Torn (S.crash picks) k n f f ∧ (S.crash picks).off = false ∧ (S.crash picks).arm = -1 := by
  obtain ⟨b, hb⟩ := at_crash S picks h.kl
  have h1 := h.ok.rd
  have h2 := h.ok.la
  have h3 := h.rd.1
  have hl := crashed_length h.ok picks b
  refine ⟨fun i => sec ((S.at_ k).crashed picks b) i, fun i hi => ?_, ⟨by simp only [St.crash, crashD_length]; exact h.kl, by rw [hb]; exact crash_ok h.ok _ _, by rw [hb]; exact ⟨by show List.length (Dk.crashed _ _ _) = _; omega, fun i _ => rfl⟩, by rw [hb]; exact ⟨by show List.length (Dk.crashed _ _ _) = _; omega, fun i _ => rfl⟩⟩, rfl, rfl⟩
  show sec ((S.at_ k).crashed picks b) i = _ ∨ sec ((S.at_ k).crashed picks b) i = _
  rw [show sec ((S.at_ k).crashed picks b) i = _ from sec_blend h.ok.la h.ok.rd (Nat.le_refl _) (by omega)]
  split
  · exact .inl (h.la.2 i hi)
  · exact .inr (h.rd.2 i hi)
theorem Torn.congr {S : St} {k n : Nat} {lo hi lo' hi' : Nat → List UInt8} (h : Torn S k n lo hi) (h1 : ∀ i, i < n → lo i = lo' i) (h2 : ∀ i, i < n → hi i = hi' i) : Torn S k n lo' hi' := ⟨h.kl, h.ok, h.la.congr h1, h.rd.congr h2⟩
/-- a call went well, or found the power going off -/
def Out (S : St) (r : Int × St) (ok bad : St → Prop) : Prop :=
  (r.1 = 0 ∧ r.2.off = false ∧ (S.arm = -1 → r.2.arm = -1) ∧ ok r.2) ∨ (r.1 = 4 ∧ S.arm ≠ -1 ∧ bad r.2)
theorem Out.imp {S : St} {r : Int × St} {ok bad ok' bad' : St → Prop} (h : Out S r ok bad) (h1 : ∀ T, ok T → ok' T) (h2 : ∀ T, bad T → bad' T) : Out S r ok' bad' := by
  rcases h with ⟨a, b, c, d⟩ | ⟨a, b, c⟩
  · exact .inl ⟨a, b, c, h1 _ d⟩
  · exact .inr ⟨a, b, h2 _ c⟩
/-- one call behind the other -/
theorem Out.seq {S : St} {r : Int × St} {ok bad ok' bad' : St → Prop} {g : St → Int × St} {F : Int × St} (h : Out S r ok bad) (hF : F = if r.1 ≠ 0 then r else g r.2) (h1 : ∀ T, T.off = false → ok T → Out T (g T) ok' bad') (h2 : ∀ T, bad T → bad' T) : Out S F ok' bad' := by
  subst hF
  rcases h with ⟨a, b, c, d⟩ | ⟨a, b, c⟩
  · rw [if_neg (by rw [a]; simp)]
    rcases h1 _ b d with ⟨a1, b1, c1, d1⟩ | ⟨a1, b1, c1⟩
    · exact .inl ⟨a1, b1, fun e => c1 (c e), d1⟩
    · exact .inr ⟨a1, fun e => b1 (c e), c1⟩
  · rw [if_pos (by rw [a]; decide)]
    exact .inr ⟨a, b, h2 _ c⟩
theorem useP_cases (arm : Int) : (useP false arm = (4, true, arm) ∧ arm ≠ -1) ∨ (∃ a, useP false arm = (0, false, a) ∧ (arm = -1 → a = -1)) := by
  unfold useP
  by_cases h : arm = 0
  · left; rw [if_pos (.inr h)]; exact ⟨rfl, by omega⟩
  · right; rw [if_neg (by simp [h])]
    exact ⟨_, rfl, fun e => by rw [if_neg (by omega)]; exact e⟩
theorem at_self {S : St} {k : Nat} {o : Bool} {a : Int} (hk : k < S.ds.length) : (⟨S.ds.set k (S.at_ k), o, a⟩ : St).at_ k = S.at_ k := at_set_same hk
theorem Torn.write {S : St} {k n : Nat} {lo hi : Nat → List UInt8} (h : Torn S k n lo hi) (hoff : S.off = false) {o : Nat} {b : List UInt8} {s m : Nat} {g : Nat → List UInt8} (ho : o = 128 * s) (hb : b.length = 128 * m) (hs : s + m ≤ n) (hg : ∀ i, i < m → sec b i = g i) :
    Out S (S.write k (o : Int) b) (fun T => Torn T k n lo fun i => if s ≤ i ∧ i < s + m then g (i - s) else hi i) (fun T => Torn T k n lo hi) := by
  subst ho
  have h3 := h.rd.1
  have hsz : 128 * s + b.length ≤ (S.at_ k).size := by unfold Dk.size; omega
  have hin := inB_nat hsz
  have hE : writeE (S.at_ k) S.off S.arm ((128 * s : Nat) : Int) b.length = (useP false S.arm).1 := by unfold writeE; rw [if_pos hin, hoff]
  have hO : writeOff (S.at_ k) S.off S.arm ((128 * s : Nat) : Int) b.length = (useP false S.arm).2.1 := by unfold writeOff; rw [if_pos hin, hoff]
  have hA : writeArm (S.at_ k) S.off S.arm ((128 * s : Nat) : Int) b.length = (useP false S.arm).2.2 := by unfold writeArm; rw [if_pos hin, hoff]
  have hD : writeD (S.at_ k) S.off S.arm ((128 * s : Nat) : Int) b = if (useP false S.arm).1 = 0 then (S.at_ k).write (128 * s) b else S.at_ k := by unfold writeD; rw [hE]; rfl
  unfold St.write
  rw [hE, hO, hA, hD]
  rcases useP_cases S.arm with ⟨hu, hne⟩ | ⟨a, hu, ha⟩
  · rw [hu]
    refine .inr ⟨rfl, hne, ?_⟩
    rw [if_neg (by simp)]
    exact ⟨by simpa using h.kl, by rw [at_self h.kl]; exact h.ok, by rw [at_self h.kl]; exact h.la, by rw [at_self h.kl]; exact h.rd⟩
  · rw [hu]
    refine .inl ⟨rfl, rfl, ha, ?_⟩
    rw [if_pos rfl]
    exact ⟨by simpa using h.kl, by rw [at_set_same h.kl]; exact write_ok h.ok hsz, by rw [at_set_same h.kl]; exact h.la, by rw [at_set_same h.kl]; exact h.rd.put hb hs hg⟩
theorem Torn.sync {S : St} {k n : Nat} {lo hi : Nat → List UInt8} (h : Torn S k n lo hi) (hoff : S.off = false) : Out S (S.sync k) (fun T => Torn T k n hi hi) (fun T => Torn T k n lo hi) := by
  have hD : syncD (S.at_ k) S.off S.arm = if (useP false S.arm).1 = 0 then (S.at_ k).sync else S.at_ k := by unfold syncD; rw [hoff]
  unfold St.sync
  rw [hD, hoff]
  rcases useP_cases S.arm with ⟨hu, hne⟩ | ⟨a, hu, ha⟩
  · rw [hu]
    refine .inr ⟨rfl, hne, ?_⟩
    rw [if_neg (by simp)]
    exact ⟨by simpa using h.kl, by rw [at_self h.kl]; exact h.ok, by rw [at_self h.kl]; exact h.la, by rw [at_self h.kl]; exact h.rd⟩
  · rw [hu]
    refine .inl ⟨rfl, rfl, ha, ?_⟩
    rw [if_pos rfl]
    exact ⟨by simpa using h.kl, by rw [at_set_same h.kl]; exact sync_ok h.ok, by rw [at_set_same h.kl]; exact h.rd, by rw [at_set_same h.kl]; exact h.rd⟩
/-- whatever a crash leaves is as said -/
def Crashy (T : St) (k n : Nat) (P : (Nat → List UInt8) → Prop) : Prop := ∃ lo hi, Torn T k n lo hi ∧ ∀ h, (∀ i, i < n → h i = lo i ∨ h i = hi i) → P h
theorem Crashy.imp {T : St} {k n : Nat} {P R : (Nat → List UInt8) → Prop} (h : Crashy T k n P) (hi : ∀ f, P f → R f) : Crashy T k n R := by
  obtain ⟨lo, hi', h1, h2⟩ := h
  exact ⟨lo, hi', h1, fun f hf => hi f (h2 f hf)⟩
theorem Crashy.crash {T : St} {k n : Nat} {P : (Nat → List UInt8) → Prop} (h : Crashy T k n P) (picks : List Int) : ∃ f, P f ∧ Torn (T.crash picks) k n f f ∧ (T.crash picks).off = false ∧ (T.crash picks).arm = -1 := by
  obtain ⟨lo, hi, h1, h2⟩ := h
  obtain ⟨f, h3, h4⟩ := h1.crash picks
  exact ⟨f, h2 f h3, h4⟩
theorem Torn.crashy {T : St} {k n : Nat} {f : Nat → List UInt8} {P : (Nat → List UInt8) → Prop} (h : Torn T k n f f) (hP : ∀ g, (∀ i, i < n → g i = f i) → P g) : Crashy T k n P :=
  ⟨f, f, h, fun g hg => hP g fun i hi => by rcases hg i hi with e | e <;> exact e⟩
/-! ### an area in use -/
/-- the generation that an area's first sector tells -/
def genS (x : List UInt8) (which : Nat) : Nat := if usedB x which = true then stampN x / 1048576 else 0
theorem load_gen {b : List UInt8} {m which : Nat} (hb : b.length = 128 * m) (hm : 1 ≤ m) : (loadL b m which).1 = genS (sec b 0) which := by
  obtain ⟨r, hr⟩ := sec_drop hb (show 0 < m by omega)
  rw [Nat.zero_mul, List.drop_zero] at hr
  have hl := sec_length hb (show 0 < m by omega)
  have e1 : stampN b = stampN (sec b 0) := by
    have := stampN_append (a := sec b 0) (r := r) (by omega)
    rwa [← hr] at this
  have e2 : stampU b = stampU (sec b 0) := by
    have := stampU_append (a := sec b 0) (r := r) (by omega)
    rwa [← hr] at this
  unfold loadL genS usedB
  rw [e1, e2]
  split <;> rfl
theorem genS_zero (which : Nat) : genS (zeroB 128) which = 0 := by
  have h0 : stampN (zeroB 128) = 0 := by decide +kernel
  unfold genS usedB
  rw [h0, if_neg (by simp)]
theorem genS_lay (g : Nat) (st : List UInt8) (which : Nat) (hg : g ≤ 8796093022208) : genS (layS g st 0) which ≤ g := by
  have hL : layS g st 0 = secL g 0 st := by unfold layS; rw [if_pos (.inl rfl)]
  unfold genS
  rw [hL, stampN_sec _ _ _ (by omega)]
  split <;> omega
def arA (q m g : Nat) : Nat := q + (g + 1) % 2 * m
def arO (q m g : Nat) : Nat := q + g % 2 * m
theorem ar_or (q m g : Nat) : (arA q m g = q ∧ arO q m g = q + m) ∨ (arA q m g = q + m ∧ arO q m g = q) := by
  unfold arA arO
  have : (g + 1) % 2 = 0 ∧ g % 2 = 1 ∨ (g + 1) % 2 = 1 ∧ g % 2 = 0 := by omega
  rcases this with ⟨e1, e2⟩ | ⟨e1, e2⟩ <;> rw [e1, e2] <;> simp
theorem arA_succ (q m g : Nat) : arA q m (g + 1) = arO q m g := by unfold arA arO; rw [show (g + 1 + 1) % 2 = g % 2 by omega]
theorem arO_succ (q m g : Nat) : arO q m (g + 1) = arA q m g := rfl
theorem areaN_ar (q m g : Nat) : areaN (128 * q) m g = 128 * arA q m g := by unfold areaN arA; rw [Nat.mul_add]; congr 1; rw [Nat.mul_comm]
/-- a stream's beginning, sector by sector perhaps an elder one -/
theorem walk_mix {b : List UInt8} {m g lo : Nat} {al : List UInt8} (hb : b.length = 128 * m) (hs : ∀ i, i < m → ∃ τ, lo ≤ τ ∧ τ ≤ al.length ∧ sec b i = layS g (al.take τ) i) (hg1 : 1 ≤ g) (hg : g ≤ 8796093022208) (hm : m ≤ 2000) (hl : al.length ≤ 119 * m) (hlo : lo ≤ al.length) :
    ∀ c i, i + c = m → i * 119 ≤ al.length → ∃ t, lo ≤ t ∧ i * 119 ≤ t ∧ t ≤ al.length ∧ walkL b (g * 1048576) c i = (al.take t).drop (i * 119) ∧ ∀ j, i ≤ j → (j + 1) * 119 ≤ t → sec b j = secL g j al
  | 0, i, hc, h => by
    refine ⟨al.length, hlo, h, Nat.le_refl _, ?_, fun j hj hj2 => by omega⟩
    unfold walkL
    rw [List.drop_of_length_le (by rw [List.length_take]; omega)]
  | c + 1, i, hc, h => by
    obtain ⟨r, hr⟩ := sec_drop hb (show i < m by omega)
    obtain ⟨τ, h1, h2, h3⟩ := hs i (by omega)
    rw [h3] at hr
    have hτ : (al.take τ).length = τ := by rw [List.length_take]; omega
    unfold walkL
    by_cases h4 : i = 0 ∨ i * 119 < τ
    · have hL : layS g (al.take τ) i = secL g i (al.take τ) := by unfold layS; rw [hτ, if_pos h4]
      have hl8 := secL_length g i (al.take τ)
      rw [hL] at hr h3
      rw [hr, stampN_append (by omega), stampU_append (by omega), stampN_sec _ _ _ (by omega), stampU_sec, if_pos ⟨rfl, partL_le i _⟩, body_sec]
      have hp := part_length i (al.take τ)
      rw [hτ] at hp
      by_cases h5 : (partL i (al.take τ)).length < 119
      · rw [if_pos h5, List.append_nil]
        refine ⟨τ, h1, by omega, h2, ?_, fun j hj hj2 => by omega⟩
        unfold partL
        rw [List.take_of_length_le (by rw [List.length_drop, hτ]; omega)]
      · rw [if_neg h5]
        obtain ⟨t, t1, t2, t3, t4, t5⟩ := walk_mix hb hs hg1 hg hm hl hlo c (i + 1) (by omega) (by omega)
        refine ⟨t, t1, by omega, t3, ?_, fun j hj hj2 => ?_⟩
        · rw [t4]
          have e1 : partL i (al.take τ) = ((al.take t).drop (i * 119)).take 119 := by
            unfold partL
            rw [List.drop_take, List.drop_take, List.take_take, List.take_take, Nat.min_eq_left (by omega), Nat.min_eq_left (by omega)]
          have e2 : (al.take t).drop ((i + 1) * 119) = ((al.take t).drop (i * 119)).drop 119 := by rw [List.drop_drop]; congr 1; omega
          rw [e1, e2, List.take_append_drop]
        · by_cases hj3 : j = i
          · subst hj3
            rw [h3]
            have := secL_append (g := g) (i := j) (s := al.take τ) (t := al.drop τ) (by rw [hτ]; omega)
            rw [List.take_append_drop] at this
            exact this.symm
          · exact t5 j (by omega) hj2
    · have hL : layS g (al.take τ) i = zeroB 128 := by unfold layS; rw [hτ, if_neg h4]
      rw [hL] at hr
      rw [hr, stampN_append (by rw [zeroB_length]; omega)]
      have h0 : stampN (zeroB 128) = 0 := by decide +kernel
      rw [h0, if_neg (by omega)]
      refine ⟨i * 119, by omega, Nat.le_refl _, h, ?_, fun j hj hj2 => by omega⟩
      rw [List.drop_of_length_le (by rw [List.length_take]; omega)]
theorem framesL_cons (r : List UInt8) (l : List (List UInt8)) : (framesL (r :: l)).length = 4 + r.length + (framesL l).length := by
  have e : framesL (r :: l) = beN r.length 4 ++ (r ++ framesL l) := by simp [framesL, frameL]
  rw [e]; simp [beN_length]; omega
theorem split_take : ∀ (l : List (List UInt8)) (f t : Nat), (∀ r ∈ l, r.length < 4294967296) → t ≤ f → t ≤ (framesL l).length →
    ∃ q, q ≤ l.length ∧ splitG f ((framesL l).take t) = (l.take q, (framesL (l.take q)).length) ∧ (framesL (l.take q)).length ≤ t ∧ ∀ q', q' ≤ l.length → (framesL (l.take q')).length ≤ t → q' ≤ q
  | [], f, t, _, _, ht => by
    refine ⟨0, Nat.le_refl _, ?_, by simp [framesL], fun q' h _ => by simpa using h⟩
    cases f with
    | zero => rfl
    | succ f => simp [framesL, splitG]
  | r :: l, f, t, hr, hf, ht => by
    have e : framesL (r :: l) = beN r.length 4 ++ (r ++ framesL l) := by simp [framesL, frameL]
    have hlen := framesL_cons r l
    have hb4 := beN_length r.length 4
    have hsl : ((framesL (r :: l)).take t).length = t := by rw [List.length_take]; omega
    by_cases hlt : t < 4 + r.length
    · refine ⟨0, Nat.zero_le _, ?_, by simp [framesL], fun q' h h2 => ?_⟩
      · cases f with
        | zero => rfl
        | succ f =>
          unfold splitG
          rw [if_neg]
          · rfl
          · rw [hsl]
            rintro ⟨h1, h2⟩
            rw [List.take_take, Nat.min_eq_left (by omega), e, beN_take, rdN_beN, Nat.mod_eq_of_lt (hr r (List.mem_cons_self ..))] at h2
            omega
      · cases q' with
        | zero => exact Nat.le_refl _
        | succ q' =>
          rw [List.take_succ_cons, framesL_cons] at h2
          omega
    · obtain ⟨f, rfl⟩ : ∃ f', f = f' + 1 := ⟨f - 1, by omega⟩
      obtain ⟨q, h1, h2, h3, h4⟩ := split_take l f (t - (4 + r.length)) (fun x hx => hr x (List.mem_cons_of_mem _ hx)) (by omega) (by omega)
      have e4 : rdN (((framesL (r :: l)).take t).take 4) = r.length := by
        rw [List.take_take, Nat.min_eq_left (by omega), e, beN_take, rdN_beN]
        exact Nat.mod_eq_of_lt (hr r (List.mem_cons_self ..))
      have d4 : (framesL (r :: l)).drop 4 = r ++ framesL l := by
        rw [e, List.drop_append_of_le_length (by omega), List.drop_of_length_le (by omega), List.nil_append]
      have d5 : (framesL (r :: l)).drop (4 + r.length) = framesL l := by
        rw [← List.drop_drop, d4, List.drop_left]
      refine ⟨q + 1, by simpa using h1, ?_, ?_, fun q' hq hq2 => ?_⟩
      · unfold splitG
        rw [e4, hsl, if_pos ⟨by omega, by omega⟩]
        have d6 : (((framesL (r :: l)).take t).drop 4).take r.length = r := by
          rw [List.drop_take, List.take_take, Nat.min_eq_left (by omega), d4, List.take_left]
        have d7 : ((framesL (r :: l)).take t).drop (4 + r.length) = (framesL l).take (t - (4 + r.length)) := by
          rw [List.drop_take, d5]
        rw [d6, d7, h2, List.take_succ_cons, framesL_cons]
      · rw [List.take_succ_cons, framesL_cons]; omega
      · cases q' with
        | zero => omega
        | succ q' =>
          rw [List.take_succ_cons, framesL_cons] at hq2
          have := h4 q' (by simpa using hq) (by omega)
          omega
/-- the sectors that trimming writes -/
theorem trimW_length {m g : Nat} {st : List UInt8} (hm1 : 1 ≤ m) (hl : st.length ≤ 119 * m) : (trimW m g st).length = 128 * (m - st.length / 119) := by
  unfold trimW
  split
  · rename_i h
    have h1 := secL_length g (st.length / 119) st
    rw [List.length_append, zeroB_length]; omega
  · rw [zeroB_length]; omega
theorem trimW_sec {m g t : Nat} {st : List UInt8} (hm1 : 1 ≤ m) (hl : st.length ≤ 119 * m) (ht : t < m - st.length / 119) : sec (trimW m g st) t = layS g st (st.length / 119 + t) := by
  unfold trimW
  split
  · rename_i h
    have h1 := secL_length g (st.length / 119) st
    by_cases h0 : t = 0
    · subst h0
      rw [sec_append_left (n := 1) h1 (by omega), sec_one h1]
      unfold layS
      rw [if_pos (by omega), Nat.add_zero]
    · unfold layS
      rw [if_neg (by omega)]
      refine sec_is (zeroB_length _) fun j hj => ?_
      rw [List.getElem?_append_right (by omega), zeroB_get (by omega), zeroB_get hj]
  · rename_i h
    rw [Nat.mul_comm, sec_zeroB ht]
    unfold layS
    rw [if_neg (by omega)]
end Go.Proofs.Ytjmhfjioccljeaa
