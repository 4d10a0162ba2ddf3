/-
  Plain law of a journal while the power is on: what a disk holds, sector by sector; formatting, committing, opening.
-/
import Derived.Test.YtjmhfjioccljeaaJn
namespace Go.Proofs.Ytjmhfjioccljeaa
set_option linter.unusedVariables false
set_option linter.unusedSimpArgs false

/-- the disk's n sectors are f's -/
def HoldsS (l : List UInt8) (n : Nat) (f : Nat → List UInt8) : Prop := l.length = 128 * n ∧ ∀ i, i < n → sec l i = f i
theorem sec_is {l b : List UInt8} {s : Nat} (hb : b.length = 128) (h : ∀ i, i < 128 → l[128 * s + i]? = b[i]?) : sec l s = b := by
  apply List.ext_getElem?
  intro i
  by_cases hi : i < 128
  · rw [sec_get _ _ _ hi, h i hi]
  · rw [List.getElem?_eq_none (by simp [sec]; omega), List.getElem?_eq_none (by omega)]
theorem sec_putAt_in {l b : List UInt8} {n s m t : Nat} (hl : l.length = 128 * n) (hb : b.length = 128 * m) (hs : s + m ≤ n) (ht : t < n) :
    sec (putAt l (128 * s) b) t = if s ≤ t ∧ t < s + m then sec b (t - s) else sec l t := by
  by_cases h : s ≤ t ∧ t < s + m
  · rw [if_pos h]
    refine sec_is (sec_length hb (by omega)) fun i hi => ?_
    rw [putAt_get (by omega), if_pos (by omega), sec_get _ _ _ hi]
    congr 1; omega
  · rw [if_neg h]
    refine sec_is (sec_length hl ht) fun i hi => ?_
    rw [putAt_get (by omega), if_neg (by omega), sec_get _ _ _ hi]
theorem HoldsS.put {l b : List UInt8} {n s m : Nat} {f g : Nat → List UInt8} (h : HoldsS l n f) (hb : b.length = 128 * m) (hs : s + m ≤ n) (hg : ∀ i, i < m → sec b i = g i) :
    HoldsS (putAt l (128 * s) b) n (fun i => if s ≤ i ∧ i < s + m then g (i - s) else f i) := by
  have hl := h.1
  refine ⟨by rw [putAt_length (by omega)]; exact h.1, fun i hi => ?_⟩
  rw [sec_putAt_in hl hb hs hi]
  by_cases h1 : s ≤ i ∧ i < s + m
  · rw [if_pos h1, hg _ (by omega)]; exact (if_pos h1).symm
  · rw [if_neg h1, h.2 i hi]; exact (if_neg h1).symm
theorem HoldsS.one {l b : List UInt8} {n s : Nat} {f : Nat → List UInt8} (h : HoldsS l n f) (hb : b.length = 128) (hs : s < n) : HoldsS (putAt l (128 * s) b) n (fun i => if i = s then b else f i) := by
  have hl := h.1
  refine ⟨by rw [putAt_length (by omega)]; exact h.1, fun i hi => ?_⟩
  rw [putAt_sec hl hs hb hi, h.2 i hi]
theorem HoldsS.congr {l : List UInt8} {n : Nat} {f g : Nat → List UInt8} (h : HoldsS l n f) (hg : ∀ i, i < n → f i = g i) : HoldsS l n g := ⟨h.1, fun i hi => (h.2 i hi).trans (hg i hi)⟩
theorem sec_zeroB {n i : Nat} (h : i < n) : sec (zeroB (128 * n)) i = zeroB 128 := by
  refine sec_is (zeroB_length _) fun j hj => ?_
  rw [zeroB_get (by omega), zeroB_get hj]
theorem holds_fresh (n : Nat) : HoldsS (Dk.fresh n).rd n (fun _ => zeroB 128) := ⟨by simp [Dk.fresh, zeroB], fun i hi => sec_zeroB hi⟩
/-- the power on, not armed; disk k as said, all of it synced -/
structure Calm (S : St) (k n : Nat) (f : Nat → List UInt8) : Prop where
  off : S.off = false
  arm : S.arm = -1
  kl : k < S.ds.length
  ok : (S.at_ k).Ok
  holds : HoldsS (S.at_ k).rd n f
  old : ∀ s, (S.at_ k).new s = false
/-- .. perhaps not yet synced -/
structure Wet (S : St) (k n : Nat) (f : Nat → List UInt8) : Prop where
  off : S.off = false
  arm : S.arm = -1
  kl : k < S.ds.length
  ok : (S.at_ k).Ok
  holds : HoldsS (S.at_ k).rd n f
section
variable {S : St} {k n : Nat} {f : Nat → List UInt8}
theorem Calm.wet (h : Calm S k n f) : Wet S k n f := ⟨h.off, h.arm, h.kl, h.ok, h.holds⟩
theorem Wet.size (h : Wet S k n f) : (S.at_ k).size = 128 * n := h.holds.1
theorem Wet.write (h : Wet S k n f) {o : Nat} {b : List UInt8} {s m : Nat} {g : Nat → List UInt8} (ho : o = 128 * s) (hb : b.length = 128 * m) (hs : s + m ≤ n) (hg : ∀ i, i < m → sec b i = g i) :
    (S.write k (o : Int) b).1 = 0 ∧ Wet (S.write k (o : Int) b).2 k n (fun i => if s ≤ i ∧ i < s + m then g (i - s) else f i) := by
  subst ho
  have hin : 128 * s + b.length ≤ (S.at_ k).size := by rw [h.size]; omega
  rw [St.write_on (k := k) h.off h.arm rfl hin]
  refine ⟨rfl, rfl, rfl, by simpa using h.kl, ?_, ?_⟩
  · rw [at_set_same h.kl]; exact write_ok h.ok hin
  · rw [at_set_same h.kl]; exact h.holds.put hb hs hg
theorem Wet.sync (h : Wet S k n f) : (S.sync k).1 = 0 ∧ Calm (S.sync k).2 k n f := by
  rw [St.sync_on (k := k) h.off h.arm]
  refine ⟨rfl, rfl, rfl, by simpa using h.kl, ?_, ?_, ?_⟩
  · rw [at_set_same h.kl]; exact sync_ok h.ok
  · rw [at_set_same h.kl]; exact h.holds
  · rw [at_set_same h.kl]; exact sync_new _
theorem Wet.congr (h : Wet S k n f) {g : Nat → List UInt8} (hg : ∀ i, i < n → f i = g i) : Wet S k n g := ⟨h.off, h.arm, h.kl, h.ok, h.holds.congr hg⟩
theorem Calm.congr (h : Calm S k n f) {g : Nat → List UInt8} (hg : ∀ i, i < n → f i = g i) : Calm S k n g := ⟨h.off, h.arm, h.kl, h.ok, h.holds.congr hg, h.old⟩
end
theorem sec_one {b : List UInt8} (h : b.length = 128) : sec b 0 = b := by unfold sec; rw [Nat.mul_zero, List.drop_zero, List.take_of_length_le (by omega)]
/-- an area with a generation's stream -/
def layS (g : Nat) (st : List UInt8) (i : Nat) : List UInt8 := if i = 0 ∨ i * 119 < st.length then secL g i st else zeroB 128
theorem layS_length (g : Nat) (st : List UInt8) (i : Nat) : (layS g st i).length = 128 := by
  unfold layS; split
  · exact secL_length _ _ _
  · exact zeroB_length _
/-- noughts, then a generation's first sector: an empty area, and noughts elsewhere -/
theorem blank_on {S : St} {k n a m g : Nat} {f : Nat → List UInt8} (h : Wet S k n f) (hm : 1 ≤ m) (hs : a + m ≤ n) :
    (blankF S k (128 * a) m (128 * a) g).1 = 0 ∧ Calm (blankF S k (128 * a) m (128 * a) g).2 k n (fun i => if a ≤ i ∧ i < a + m then layS g [] (i - a) else f i) := by
  obtain ⟨e1, h1⟩ := h.write (o := 128 * a) (b := zeroB (m * 128)) (s := a) (m := m) (g := fun _ => zeroB 128) rfl (by rw [zeroB_length]; omega) hs (fun i hi => by rw [Nat.mul_comm]; exact sec_zeroB hi)
  obtain ⟨e2, h2⟩ := h1.sync
  obtain ⟨e3, h3⟩ := h2.wet.write (o := 128 * a) (b := secL g 0 []) (s := a) (m := 1) (g := fun _ => secL g 0 []) rfl (secL_length _ _ _) (by omega) (fun i hi => by
    have : i = 0 := by omega
    subst this; exact sec_one (secL_length _ _ _))
  obtain ⟨e4, h4⟩ := h3.sync
  unfold blankF
  rw [if_neg (by rw [e1]; simp), if_neg (by rw [e2]; simp), if_neg (by rw [e3]; simp)]
  refine ⟨e4, h4.congr fun i hi => ?_⟩
  by_cases h5 : a ≤ i ∧ i < a + 1
  · have : i = a := by omega
    subst this
    rw [if_pos h5, if_pos (by omega), Nat.sub_self]; rfl
  · rw [if_neg h5]
    by_cases h6 : a ≤ i ∧ i < a + m
    · rw [if_pos h6, if_pos h6]
      unfold layS
      rw [if_neg (by simp; omega)]
    · rw [if_neg h6, if_neg h6]
theorem part_append {i : Nat} {s t : List UInt8} (h : (i + 1) * 119 ≤ s.length) : partL i (s ++ t) = partL i s := by
  unfold partL
  rw [List.drop_append_of_le_length (by omega), List.take_append_of_le_length (by simp; omega)]
theorem secL_append {g i : Nat} {s t : List UInt8} (h : (i + 1) * 119 ≤ s.length) : secL g i (s ++ t) = secL g i s := by
  unfold secL; rw [part_append h]
/-- the sectors from i on -/
theorem commit_loop {k n a g : Nat} {s : List UInt8} : ∀ (c i : Nat) (S : St) (f : Nat → List UInt8), Wet S k n f → a + i + c ≤ n →
    (commitL S k (128 * a) g s c i).1 = 0 ∧ Wet (commitL S k (128 * a) g s c i).2 k n (fun t => if a + i ≤ t ∧ t < a + i + c then secL g (t - a) s else f t)
  | 0, i, S, f, h, _ => ⟨rfl, h.congr fun t ht => by rw [if_neg (by omega)]⟩
  | c + 1, i, S, f, h, hn => by
    obtain ⟨e1, h1⟩ := h.write (o := 128 * a + i * 128) (b := secL g i s) (s := a + i) (m := 1) (g := fun _ => secL g i s) (by omega) (secL_length _ _ _) (by omega) (fun j hj => by
      have : j = 0 := by omega
      subst this; exact sec_one (secL_length _ _ _))
    obtain ⟨e2, h2⟩ := commit_loop (k := k) (n := n) (a := a) (g := g) (s := s) c (i + 1) _ _ h1 (by omega)
    unfold commitL
    rw [if_pos e1]
    refine ⟨e2, h2.congr fun t ht => ?_⟩
    by_cases h3 : a + (i + 1) ≤ t ∧ t < a + (i + 1) + c
    · rw [if_pos h3, if_pos (by omega)]
    · rw [if_neg h3]
      by_cases h4 : a + i ≤ t ∧ t < a + i + 1
      · rw [if_pos h4, if_pos (by omega), show t - a = i by omega]
      · rw [if_neg h4, if_neg (by omega)]
/-- area a of an empty stream or more, then what waits -/
theorem commit_on {J : Js} {S : St} {k n a : Nat} {f : Nat → List UInt8} (h : Wet S k n f) (ha : areaN J.first J.sectors J.gen = 128 * a) (hn : a + J.sectors ≤ n) (hl : J.stream.length + J.wait.length ≤ 119 * J.sectors)
    (hf : ∀ i, i < J.sectors → f (a + i) = layS J.gen J.stream i) :
    (commitF J S k).1 = 0 ∧ Calm (commitF J S k).2 k n (fun t => if a ≤ t ∧ t < a + J.sectors then layS J.gen (J.stream ++ J.wait) (t - a) else f t) := by
  have hlen : (J.stream ++ J.wait).length = J.stream.length + J.wait.length := List.length_append
  have hc : J.stream.length / 119 + commitN J ≤ J.sectors := by
    unfold commitN
    split
    · omega
    · rw [hlen]; omega
  obtain ⟨e1, h1⟩ := commit_loop (k := k) (n := n) (a := a) (g := J.gen) (s := J.stream ++ J.wait) (commitN J) (J.stream.length / 119) S f h (by omega)
  rw [← ha] at e1 h1
  have e1' : (commitW J S k).1 = 0 := e1
  have h1' : Wet (commitW J S k).2 k n _ := h1
  obtain ⟨e2, h2⟩ := h1'.sync
  unfold commitF
  rw [if_neg (by rw [e1']; simp)]
  refine ⟨e2, h2.congr fun t ht => ?_⟩
  by_cases h3 : a + J.stream.length / 119 ≤ t ∧ t < a + J.stream.length / 119 + commitN J
  · rw [if_pos h3, if_pos (by omega)]
    unfold layS
    have h0 : J.wait ≠ [] := by
      intro e
      unfold commitN at h3
      rw [if_pos e] at h3; omega
    unfold commitN at h3
    rw [if_neg h0] at h3
    rw [if_pos (.inr (by omega))]
  · rw [if_neg h3]
    by_cases h4 : a ≤ t ∧ t < a + J.sectors
    · rw [if_pos h4]
      have h5 := hf (t - a) (by omega)
      rw [show a + (t - a) = t by omega] at h5
      rw [h5]
      unfold layS
      by_cases h6 : J.wait = []
      · rw [h6, List.append_nil]
      · have hw : 0 < J.wait.length := List.length_pos_iff.2 h6
        unfold commitN at h3
        rw [if_neg h6] at h3
        by_cases h7 : t - a < J.stream.length / 119
        · rw [if_pos (.inr (by omega)), if_pos (.inr (by omega)), secL_append (by omega)]
        · have h8 : (J.stream ++ J.wait).length ≤ (t - a) * 119 := by omega
          rw [if_neg (by omega), if_neg (by omega)]
    · rw [if_neg h4]
/-! ### what an opening finds -/
theorem rdN_zeroB (n : Nat) : rdN (zeroB n) = 0 := by
  unfold rdN zeroB
  induction n with
  | zero => rfl
  | succ n ih => rw [List.replicate_succ, List.foldl_cons]; simpa using ih
theorem sec_drop {b : List UInt8} {n i : Nat} (h : b.length = 128 * n) (hi : i < n) : ∃ r, b.drop (i * 128) = sec b i ++ r := by
  refine ⟨(b.drop (i * 128)).drop 128, ?_⟩
  unfold sec
  rw [Nat.mul_comm 128 i, List.take_append_drop]
theorem stampN_append {a r : List UInt8} (h : 8 ≤ a.length) : stampN (a ++ r) = stampN a := by unfold stampN; rw [List.take_append_of_le_length h]
theorem stampU_append {a r : List UInt8} (h : 9 ≤ a.length) : stampU (a ++ r) = stampU a := by
  unfold stampU
  rw [getD_eq _ _ _ (by rw [List.length_append]; omega), getD_eq _ _ _ (by omega), List.getElem_append_left (by omega)]
theorem stampN_sec (g i : Nat) (s : List UInt8) (h : g * 1048576 + i < 18446744073709551616) : stampN (secL g i s) = g * 1048576 + i := by
  unfold stampN secL
  rw [beN_take, rdN_beN]
  exact Nat.mod_eq_of_lt h
theorem stampU_sec (g i : Nat) (s : List UInt8) : stampU (secL g i s) = (partL i s).length := by
  unfold stampU secL
  have h1 := partL_le i s
  have e : ∀ (x : UInt8) (r : List UInt8), (beN (g * 1048576 + i) 8 ++ x :: r).getD 8 0 = x := fun x r => by
    have h := beN_length (g * 1048576 + i) 8
    rw [getD_eq _ _ _ (by rw [List.length_append, h]; simp), List.getElem_append_right (by omega)]
    simp [h]
  rw [e]
  simp; omega
theorem body_sec (g i : Nat) (s r : List UInt8) : ((secL g i s ++ r).drop 9).take (partL i s).length = partL i s := by
  have h := beN_length (g * 1048576 + i) 8
  have e : secL g i s ++ r = (beN (g * 1048576 + i) 8 ++ [UInt8.ofNat (partL i s).length]) ++ (partL i s ++ (zeroB (119 - (partL i s).length) ++ r)) := by simp [secL]
  rw [e, List.drop_append_of_le_length (by simp [h]), List.drop_of_length_le (by simp [h]), List.nil_append, List.take_append_of_le_length (Nat.le_refl _), List.take_length]
theorem part_length (i : Nat) (s : List UInt8) : (partL i s).length = min 119 (s.length - i * 119) := by simp [partL]
theorem walk_lay {b : List UInt8} {m g : Nat} {st : List UInt8} (hb : b.length = 128 * m) (hs : ∀ i, i < m → sec b i = layS g st i) (hg1 : 1 ≤ g) (hg : g ≤ 8796093022208) (hm : m ≤ 2000) (hl : st.length ≤ 119 * m) :
    ∀ c i, i + c = m → (i = 0 ∨ i * 119 ≤ st.length) → walkL b (g * 1048576) c i = st.drop (i * 119)
  | 0, i, hc, h => by
    unfold walkL
    rw [List.drop_of_length_le (by omega)]
  | c + 1, i, hc, h => by
    obtain ⟨r, hr⟩ := sec_drop hb (show i < m by omega)
    rw [hs i (by omega)] at hr
    unfold walkL
    by_cases h1 : i = 0 ∨ i * 119 < st.length
    · have hL : layS g st i = secL g i st := by unfold layS; rw [if_pos h1]
      have hl8 := secL_length g i st
      rw [hL] at hr
      rw [hr, stampN_append (by omega), stampU_append (by omega), stampN_sec _ _ _ (by omega), stampU_sec, if_pos ⟨rfl, partL_le i st⟩, body_sec]
      have hp := part_length i st
      by_cases h2 : (partL i st).length < 119
      · rw [if_pos h2, List.append_nil]
        unfold partL
        rw [List.take_of_length_le (by rw [List.length_drop]; omega)]
      · rw [if_neg h2, walk_lay hb hs hg1 hg hm hl c (i + 1) (by omega) (.inr (by omega))]
        unfold partL
        have e : st.drop ((i + 1) * 119) = (st.drop (i * 119)).drop 119 := by rw [List.drop_drop]; congr 1; omega
        rw [e, List.take_append_drop]
    · have hL : layS g st i = zeroB 128 := by unfold layS; rw [if_neg h1]
      rw [hL] at hr
      rw [hr, stampN_append (by rw [zeroB_length]; omega)]
      have h0 : stampN (zeroB 128) = 0 := by decide +kernel
      rw [h0, if_neg (by omega), List.drop_of_length_le (by omega)]
/-- an area with a generation's stream is in use, by this stream -/
theorem load_lay {b : List UInt8} {m g : Nat} {st : List UInt8} (hb : b.length = 128 * m) (hs : ∀ i, i < m → sec b i = layS g st i) (hg1 : 1 ≤ g) (hg : g ≤ 8796093022207) (hm1 : 1 ≤ m) (hm : m ≤ 2000) (hl : st.length ≤ 119 * m) :
    loadL b m ((g + 1) % 2) = (g, st) := by
  obtain ⟨r, hr⟩ := sec_drop hb (show 0 < m by omega)
  rw [hs 0 (by omega)] at hr
  have hL : layS g st 0 = secL g 0 st := by unfold layS; rw [if_pos (.inl rfl)]
  have hl8 := secL_length g 0 st
  rw [hL, Nat.zero_mul, List.drop_zero] at hr
  have e1 : stampN b = g * 1048576 := by rw [hr, stampN_append (by omega), stampN_sec _ _ _ (by omega), Nat.add_zero]
  have e2 : stampU b ≤ 119 := by rw [hr, stampU_append (by omega), stampU_sec]; exact partL_le _ _
  have e3 : stampN b / 1048576 = g := by omega
  unfold loadL usedB
  rw [e3, e1, if_pos (by simp; omega), walk_lay hb hs hg1 (by omega) hm hl m 0 (by omega) (.inl rfl)]
  simp
/-- noughts are no area in use -/
theorem load_zero {b : List UInt8} {m which : Nat} (hb : b.length = 128 * m) (hm1 : 1 ≤ m) (hs : sec b 0 = zeroB 128) : loadL b m which = (0, []) := by
  obtain ⟨r, hr⟩ := sec_drop hb (show 0 < m by omega)
  rw [hs, Nat.zero_mul, List.drop_zero] at hr
  have h0 : stampN (zeroB 128) = 0 := by decide +kernel
  have e1 : stampN b = 0 := by rw [hr, stampN_append (by rw [zeroB_length]; omega), h0]
  unfold loadL usedB
  rw [e1, if_neg (by simp)]
/-- records in a stream -/
def frameL (r : List UInt8) : List UInt8 := beN r.length 4 ++ r
def framesL (l : List (List UInt8)) : List UInt8 := l.flatMap frameL
theorem frameL_length (r : List UInt8) : (frameL r).length = 4 + r.length := by simp [frameL, beN_length]
theorem split_frames : ∀ (l : List (List UInt8)) (f : Nat), (∀ r ∈ l, r.length < 4294967296) → (framesL l).length ≤ f → splitG f (framesL l) = (l, (framesL l).length)
  | [], f, _, _ => by
    cases f with
    | zero => rfl
    | succ f => simp [framesL, splitG]
  | r :: l, f, hr, hf => by
    have e : framesL (r :: l) = beN r.length 4 ++ (r ++ framesL l) := by simp [framesL, frameL]
    have hlen : (framesL (r :: l)).length = 4 + r.length + (framesL l).length := by rw [e]; simp [beN_length]; omega
    obtain ⟨f, rfl⟩ : ∃ f', f = f' + 1 := ⟨f - 1, by omega⟩
    have h4 : rdN ((framesL (r :: l)).take 4) = r.length := by
      rw [e, beN_take, rdN_beN]
      exact Nat.mod_eq_of_lt (hr r (List.mem_cons_self ..))
    unfold splitG
    rw [h4, if_pos ⟨by omega, by omega⟩]
    have d4 : (framesL (r :: l)).drop 4 = r ++ framesL l := by
      rw [e, List.drop_append_of_le_length (by rw [beN_length]; omega), List.drop_of_length_le (by rw [beN_length]; omega), List.nil_append]
    have d5 : (framesL (r :: l)).drop (4 + r.length) = framesL l := by
      rw [← List.drop_drop, d4, List.drop_left]
    rw [d4, d5, List.take_left, split_frames l f (fun x hx => hr x (List.mem_cons_of_mem _ hx)) (by omega), hlen]
theorem split_all (l : List (List UInt8)) (h : ∀ r ∈ l, r.length < 4294967296) : splitL (framesL l) = (l, (framesL l).length) := split_frames l _ h (Nat.le_refl _)
theorem zeroB_append (a b : Nat) : zeroB a ++ zeroB b = zeroB (a + b) := by simp [zeroB]
/-- behind the last whole record there is nothing: nothing is to be trimmed -/
theorem trim_lay {raw : List UInt8} {m g : Nat} {st : List UInt8} (hr : raw.length = 128 * m) (hs : ∀ i, i < m → sec raw i = layS g st i) (hm1 : 1 ≤ m) (hl : st.length ≤ 119 * m) :
    raw.drop (st.length / 119 * 128) = trimW m g st := by
  have hd : ∀ t, t < m - st.length / 119 → sec (raw.drop (st.length / 119 * 128)) t = layS g st (st.length / 119 + t) := fun t ht => by
    rw [← hs _ (by omega)]
    unfold sec
    rw [List.drop_drop]
    congr 2; omega
  unfold trimW
  split
  · rename_i h
    have hq : st.length / 119 < m := by omega
    have h1 := secL_length g (st.length / 119) st
    refine ext_sec (n := m - st.length / 119) (by rw [List.length_drop]; omega) (by rw [List.length_append, zeroB_length]; omega) fun t ht => ?_
    rw [hd t ht]
    by_cases h0 : t = 0
    · subst h0
      rw [sec_append_left (n := 1) h1 (by omega), sec_one h1]
      unfold layS
      rw [if_pos (by omega), Nat.add_zero]
    · unfold layS
      rw [if_neg (by omega)]
      have : sec (secL g (st.length / 119) st ++ zeroB ((m - st.length / 119 - 1) * 128)) t = zeroB 128 := by
        refine sec_is (zeroB_length _) fun j hj => ?_
        rw [List.getElem?_append_right (by omega), zeroB_get (by omega), zeroB_get hj]
      rw [this]
  · rename_i h
    refine ext_sec (n := m - st.length / 119) (by rw [List.length_drop]; omega) (by rw [zeroB_length]; omega) fun t ht => ?_
    rw [hd t ht, Nat.mul_comm, sec_zeroB ht]
    unfold layS
    rw [if_neg (by omega)]
theorem sec_area {l : List UInt8} {a m i : Nat} (hi : i < m) : sec ((l.drop (128 * a)).take (128 * m)) i = sec l (a + i) := by
  unfold sec
  rw [List.drop_take, List.take_take, List.drop_drop, Nat.min_eq_left (by omega)]
  congr 2; omega
/-- a calm disk, one area with a generation's stream, the other not in use or of an elder one -/
theorem open_calm {S : St} {k n q m g : Nat} {f : Nat → List UInt8} {l : List (List UInt8)} (h : Wet S k n f) (hq : q + 2 * m ≤ n) (hm1 : 1 ≤ m) (hm : m ≤ 2000) (hg1 : 1 ≤ g) (hg : g ≤ 8796093022207) (hr : ∀ r ∈ l, r.length < 4294967296)
    (hl : (framesL l).length ≤ 119 * m) (hf : ∀ i, i < m → f (q + (g + 1) % 2 * m + i) = layS g (framesL l) i)
    (ho : (loadL (areaL S k (128 * q) m (g % 2)) m (g % 2)).1 < g) : openF S k (128 * q) m = (0, S) ∧ openJ S k (128 * q) m = ⟨128 * q, m, g, framesL l, [], 0⟩ ∧ openR S k (128 * q) m = l := by
  have hlen := h.holds.1
  have hA : (areaL S k (128 * q) m ((g + 1) % 2)).length = 128 * m := by
    unfold areaL
    have : (g + 1) % 2 = 0 ∨ (g + 1) % 2 = 1 := by omega
    rw [List.length_take, List.length_drop]
    rcases this with e | e <;> rw [e] <;> omega
  have hS : ∀ i, i < m → sec (areaL S k (128 * q) m ((g + 1) % 2)) i = layS g (framesL l) i := fun i hi => by
    unfold areaL
    have h1 : (g + 1) % 2 * m ≤ m := by
      have : (g + 1) % 2 = 0 ∨ (g + 1) % 2 = 1 := by omega
      rcases this with e | e <;> rw [e] <;> omega
    rw [show 128 * q + (g + 1) % 2 * m * 128 = 128 * (q + (g + 1) % 2 * m) by omega, Nat.mul_comm m 128, sec_area hi, h.holds.2 _ (by omega), hf i hi]
  have hload := load_lay hA hS hg1 hg hm1 hm hl
  have hp : pickF S k (128 * q) m = (g, framesL l, areaL S k (128 * q) m ((g + 1) % 2)) := by
    unfold pickF
    have : (g + 1) % 2 = 0 ∧ g % 2 = 1 ∨ (g + 1) % 2 = 1 ∧ g % 2 = 0 := by omega
    rcases this with ⟨e1, e2⟩ | ⟨e1, e2⟩
    · rw [e1] at hload ⊢
      rw [e2] at ho
      rw [hload, if_neg (by show ¬ _ > g; omega)]
    · rw [e1] at hload ⊢
      rw [e2] at ho
      rw [hload, if_pos (by show g > _; omega)]
  have hsp := split_all l hr
  unfold openF openJ openR
  rw [hp, h.off]
  simp only [hsp, List.take_length]
  refine ⟨?_, trivial, trivial⟩
  rw [if_neg (by simp), if_neg (by omega)]
  unfold trimF
  rw [if_pos (trim_lay hA hS hm1 hl)]
end Go.Proofs.Ytjmhfjioccljeaa
