/-
  Plain law of a journal that is held: its records, what waits, and the disk under it.
-/
import Derived.Test.YtjmhfjioccljeaaJnQ
namespace Go.Proofs.Ytjmhfjioccljeaa
set_option linter.unusedVariables false
set_option linter.unusedSimpArgs false

/-- disk 0 holds the records l; the journal has them, and r waits -/
structure Held (S : St) (J : Js) (n q m g : Nat) (l r : List (List UInt8)) : Prop where
  torn : ∃ f, Torn S 0 n f f ∧ Exact f q m g (framesL l)
  off : S.off = false
  js : J = ⟨128 * q, m, g, framesL l, framesL r, r.length⟩
  fits : Fits n q m g (l ++ r)
theorem Fits.left {n q m g : Nat} {l r : List (List UInt8)} (h : Fits n q m g (l ++ r)) : Fits n q m g l := by
  have := h.take l.length
  rwa [List.take_left] at this
theorem Fits.none_ {n q m g : Nat} {l : List (List UInt8)} (h : Fits n q m g l) (hg : g + 1 ≤ 8796093022207) : Fits n q m (g + 1) [] :=
  ⟨h.in_, h.m1, h.m2, by omega, hg, fun r hr => by simp at hr, by simp [framesL]⟩
theorem frames_one (l : List (List UInt8)) (s : List UInt8) : framesL (l ++ [s]) = framesL l ++ (beN s.length 4 ++ s) := by rw [framesL_append]; simp [framesL, frameL]
section
variable {S : St} {J : Js} {n q m g : Nat} {l r : List (List UInt8)}
theorem Held.room (h : Held S J n q m g l r) : J.room = max (119 * (m : Int) - (framesL l).length - (framesL r).length - 4) (-1) := by rw [h.js]; rfl
/-- how an append ends, and what it leaves -/
theorem Held.append (h : Held S J n q m g l r) (s : List UInt8) :
    (J.appE s = 14 ∧ 119 * m < s.length + 4 ∧ J.app s = J) ∨ (J.appE s = 15 ∧ s.length + 4 ≤ 119 * m ∧ 119 * m < (framesL l).length + (framesL r).length + s.length + 4 ∧ J.app s = J) ∨
    (J.appE s = 0 ∧ (framesL l).length + (framesL r).length + s.length + 4 ≤ 119 * m ∧ Held S (J.app s) n q m g l (r ++ [s])) := by
  have hr := h.room
  have hm1 := h.fits.m1
  have hm2 := h.fits.m2
  have hj := h.js
  have hsec : J.sectors = m := by rw [hj]
  unfold Js.app Js.appE
  rw [hsec]
  by_cases h1 : (s.length : Int) > 119 * (m : Int) - 4
  · rw [if_pos h1]
    exact .inl ⟨rfl, by omega, if_neg (by decide)⟩
  · rw [if_neg h1]
    by_cases h2 : (s.length : Int) > J.room
    · rw [if_pos h2]
      exact .inr (.inl ⟨rfl, by omega, by rw [hr] at h2; omega, if_neg (by decide)⟩)
    · rw [if_neg h2]
      have h3 : (framesL l).length + (framesL r).length + s.length + 4 ≤ 119 * m := by rw [hr] at h2; omega
      refine .inr (.inr ⟨rfl, h3, h.torn, h.off, ?_, ?_⟩)
      · rw [if_pos rfl, hj, frames_one]
        simp
      · rw [← List.append_assoc]
        have hf := h.fits
        refine ⟨hf.in_, hf.m1, hf.m2, hf.g1, hf.g2, fun x hx => ?_, ?_⟩
        · rcases List.mem_append.1 hx with hx | hx
          · exact hf.recs x hx
          · have : x = s := by simpa using hx
            subst this; omega
        · rw [frames_one, framesL_append, List.length_append, List.length_append, List.length_append, beN_length]; omega
theorem Held.cancel (h : Held S J n q m g l r) : Held S J.cancel n q m g l [] :=
  ⟨h.torn, h.off, by rw [h.js]; rfl, by rw [List.append_nil]; exact h.fits.left⟩
/-- a commit -/
theorem Held.commit (h : Held S J n q m g l r) :
    Out S (commitF J S 0) (fun T => Held T (J.commit S 0) n q m g (l ++ r) []) (fun T => J.commit S 0 = J ∧ Crashy T 0 n fun f' => Tells f' q m g (l ++ r) l.length) := by
  obtain ⟨f, ht, he⟩ := h.torn
  have hj := h.js
  have h1 := commit_mix (w := r.length) ht h.off h.fits he
  rw [← hj] at h1
  rcases h1 with ⟨a, b, c, f', d, e, _⟩ | ⟨a, b, c⟩
  · refine .inl ⟨a, b, c, ⟨f', d, e⟩, b, ?_, by rw [List.append_nil]; exact h.fits⟩
    unfold Js.commit
    rw [if_pos a, hj, framesL_append]
    rfl
  · refine .inr ⟨a, b, ?_, c.imp fun _ h => h.1⟩
    unfold Js.commit
    rw [if_neg (by rw [a]; decide)]
/-- a switch -/
theorem Held.switch_busy (h : Held S J n q m g l r) (hr : r ≠ []) : switchF J S 0 = (13, S) ∧ J.switch S 0 = J := by
  have h1 : 0 < J.waiting := by rw [h.js]; exact List.length_pos_iff.2 hr
  have h2 : switchF J S 0 = (13, S) := by unfold switchF; rw [if_pos h1]
  exact ⟨h2, by unfold Js.switch; rw [h2, if_neg (by simp)]⟩
theorem Held.switch (h : Held S J n q m g l []) (hg : g + 1 ≤ 8796093022207) :
    Out S (switchF J S 0) (fun T => Held T (J.switch S 0) n q m (g + 1) [] []) (fun T => J.switch S 0 = J ∧ Crashy T 0 n fun f' => Tells f' q m g l l.length ∨ Tells f' q m (g + 1) [] 0) := by
  obtain ⟨f, ht, he⟩ := h.torn
  have hj := h.js
  have hf := h.fits
  rw [List.append_nil] at hf
  have h1 := switch_mix ht h.off hf hg he J ⟨by rw [hj], by rw [hj], by rw [hj], by rw [hj]; rfl⟩
  rcases h1 with ⟨a, b, c, f', d, e, _⟩ | ⟨a, b, c⟩
  · refine .inl ⟨a, b, c, ⟨f', d, e⟩, b, ?_, by rw [List.append_nil]; exact hf.none_ hg⟩
    unfold Js.switch
    rw [if_pos a, hj]; rfl
  · refine .inr ⟨a, b, ?_, c.imp fun _ h => h.1⟩
    unfold Js.switch
    rw [if_neg (by rw [a]; decide)]
/-- an opening of a disk that tells the records l, the first s of them for sure -/
theorem open_tells {f : Nat → List UInt8} {s : Nat} (h : Torn S 0 n f f) (hoff : S.off = false) (hF : Fits n q m g l) (ht : Tells f q m g l s) :
    ∃ c, s ≤ c ∧ c ≤ l.length ∧ openR S 0 (128 * q) m = l.take c ∧
      Out S (openF S 0 (128 * q) m) (fun T => Held T (openJ S 0 (128 * q) m) n q m g (l.take c) []) (fun T => Crashy T 0 n fun f' => Tells f' q m g l s) := by
  obtain ⟨c, h1, h2, h3, h4, h5⟩ := open_mix h hoff hF ht
  refine ⟨c, h1, h2, h4, ?_⟩
  rcases h5 with ⟨a, b, e, f', d, k, _⟩ | ⟨a, b, k⟩
  · exact .inl ⟨a, b, e, ⟨f', d, k⟩, b, by rw [h3]; rfl, by rw [List.append_nil]; exact hF.take c⟩
  · exact .inr ⟨a, b, k.imp fun _ h => h.1⟩
/-- an opening of a disk that is held: all its records -/
theorem Held.open_ (h : Held S J n q m g l r) : openR S 0 (128 * q) m = l ∧ Out S (openF S 0 (128 * q) m) (fun T => Held T (openJ S 0 (128 * q) m) n q m g l []) (fun T => Crashy T 0 n fun f' => Tells f' q m g l l.length) := by
  obtain ⟨f, ht, he⟩ := h.torn
  obtain ⟨c, h1, h2, h3, h4⟩ := open_tells ht h.off h.fits.left he.tells
  have hc : c = l.length := by omega
  subst hc
  rw [List.take_length] at h3 h4
  exact ⟨h3, h4⟩
/-- a crash while nothing is under way -/
theorem Held.crash (h : Held S J n q m g l r) (picks : List Int) : Held (S.crash picks) J n q m g l r ∧ (S.crash picks).arm = -1 := by
  obtain ⟨f, ht, he⟩ := h.torn
  obtain ⟨f', h1, h2, h3, h4⟩ := ht.crash picks
  have hf := h.fits
  refine ⟨⟨⟨f', h2, he.congr hf.in_ (by have := hf.m1; omega) fun i hi => ?_⟩, h3, h.js, hf⟩, h4⟩
  rcases h1 i hi with e | e <;> exact e
theorem Held.armed (h : Held S J n q m g l r) (a : Int) : Held (S.armed a) J n q m g l r := by
  obtain ⟨f, ht, he⟩ := h.torn
  exact ⟨⟨f, ⟨ht.kl, ht.ok, ht.la, ht.rd⟩, he⟩, h.off, h.js, h.fits⟩
/-- while the power is not armed a call goes well -/
theorem Out.calm {r : Int × St} {ok bad : St → Prop} (h : Out S r ok bad) (ha : S.arm = -1) : r.1 = 0 ∧ r.2.off = false ∧ r.2.arm = -1 ∧ ok r.2 := by
  rcases h with ⟨a, b, c, d⟩ | ⟨a, b, c⟩
  · exact ⟨a, b, c ha, d⟩
  · exact absurd ha b
end
/-- a new disk of n sectors, formatted -/
theorem format_new {n q m : Nat} (hq : q + 2 * m ≤ n) (hm1 : 2 ≤ m) (hm2 : m ≤ 2000) :
    checkB ((⟨[Dk.fresh n], false, -1⟩ : St).at_ 0).size ((128 * q : Nat) : Int) (m : Int) = true ∧
    ∃ S1, formatF ⟨[Dk.fresh n], false, -1⟩ 0 ((128 * q : Nat) : Int) (m : Int) = (0, S1) ∧ S1.off = false ∧ S1.arm = -1 ∧ S1.ds.length = 1 ∧ (Calm S1 0 n fun i => if q ≤ i ∧ i < q + 2 * m then layS 1 [] (i - q) else zeroB 128) ∧ ∃ f, Torn S1 0 n f f ∧ Exact f q m 1 (framesL []) := by
  have h0 : (⟨[Dk.fresh n], false, -1⟩ : St).at_ 0 = Dk.fresh n := rfl
  have hc : checkB ((⟨[Dk.fresh n], false, -1⟩ : St).at_ 0).size ((128 * q : Nat) : Int) (m : Int) = true := by
    rw [h0, fresh_size]
    unfold checkB
    simp only [Bool.and_eq_true, decide_eq_true_eq]
    omega
  refine ⟨hc, ?_⟩
  have hw : Wet (⟨[Dk.fresh n], false, -1⟩ : St) 0 n (fun _ => zeroB 128) := ⟨rfl, rfl, by simp, fresh_ok n, holds_fresh n⟩
  obtain ⟨e1, h1⟩ := blank_on (g := 1) hw (a := q) (m := 2 * m) (by omega) (by omega)
  have hf : formatF ⟨[Dk.fresh n], false, -1⟩ 0 ((128 * q : Nat) : Int) (m : Int) = blankF ⟨[Dk.fresh n], false, -1⟩ 0 (128 * q) (2 * m) (128 * q) 1 := by
    unfold formatF
    rw [if_pos hc, Int.toNat_natCast, Int.toNat_natCast]
  refine ⟨(blankF ⟨[Dk.fresh n], false, -1⟩ 0 (128 * q) (2 * m) (128 * q) 1).2, by rw [hf, ← e1], h1.off, h1.arm, ?_, h1, _, Torn.of_calm h1, ?_⟩
  · unfold blankF
    repeat' split
    all_goals simp [St.write, St.sync]
  · have hA : arA q m 1 = q := by simp [arA]
    have hO : arO q m 1 = q + m := by simp [arO]
    refine ⟨fun i hi => ?_, ?_⟩
    · rw [hA, if_pos (by omega), show q + i - q = i by omega]; rfl
    · rw [hO, if_pos (by omega)]
      have : layS 1 [] (q + m - q) = zeroB 128 := by
        unfold layS
        rw [if_neg (by simp; omega)]
      rw [this, genS_zero]; omega
/-- an opening of it turns nothing -/
theorem open_new {S : St} {n q m : Nat} (hq : q + 2 * m ≤ n) (hm1 : 2 ≤ m) (hm2 : m ≤ 2000) (h : Calm S 0 n fun i => if q ≤ i ∧ i < q + 2 * m then layS 1 [] (i - q) else zeroB 128) : openF S 0 (128 * q) m = (0, S) := by
  have := open_calm (S := S) (k := 0) (q := q) (m := m) (g := 1) (l := []) h.wet hq (by omega) hm2 (by omega) (by omega) (fun r hr => by simp at hr) (by simp [framesL]) (fun i hi => by
    rw [show q + (1 + 1) % 2 * m + i = q + i by simp, if_pos (by omega), show q + i - q = i by omega]; rfl) (by
    obtain ⟨hO, hT⟩ := area_sec (S := S) (g := 1) h.holds hq (1 % 2) (by omega)
    rw [load_gen hO (by omega), hT 0 (by omega)]
    rw [show q + 1 % 2 * m + 0 = q + m by simp, if_pos (by omega)]
    have : layS 1 [] (q + m - q) = zeroB 128 := by
      unfold layS
      rw [if_neg (by simp; omega)]
    rw [this, genS_zero]; omega)
  exact this.1
/-- the answer of an append hangs on all that is held and waits -/
theorem Held.appE_sum {S S' : St} {J J' : Js} {n n' q q' m g g' : Nat} {l l' r r' : List (List UInt8)} (h : Held S J n q m g l r) (h' : Held S' J' n' q' m g' l' r') (hs : (framesL l).length + (framesL r).length = (framesL l').length + (framesL r').length) (s : List UInt8) : J.appE s = J'.appE s := by
  have e1 := h.room
  have e2 := h'.room
  have j1 : J.sectors = m := by rw [h.js]
  have j2 : J'.sectors = m := by rw [h'.js]
  have e3 : J.room = J'.room := by rw [e1, e2]; omega
  unfold Js.appE
  rw [j1, j2, e3]
/-- disk 0 of 32 sectors: ten of them the records, the others noughts -/
def neatF (l : List (List UInt8)) (t : Nat) : List UInt8 := if t < 10 then layS 1 (framesL l) t else zeroB 128
def Neat (S : St) (l : List (List UInt8)) : Prop := Calm S 0 32 (neatF l)
theorem neat_new {S : St} (h : Calm S 0 32 fun i => if 0 ≤ i ∧ i < 0 + 2 * 10 then layS 1 [] (i - 0) else zeroB 128) : Neat S [] := h.congr fun i hi => by
  unfold neatF
  by_cases h1 : i < 10
  · rw [if_pos (by omega), if_pos h1]; rfl
  · rw [if_neg h1]
    by_cases h2 : i < 20
    · rw [if_pos (by omega)]
      unfold layS
      rw [if_neg (by simp; omega)]
    · rw [if_neg (by omega)]
theorem Neat.commit {S : St} {J : Js} {l r : List (List UInt8)} (hn : Neat S l) (h : Held S J 32 0 10 1 l r) : Neat (commitF J S 0).2 (l ++ r) := by
  have hf := h.fits.fill
  rw [framesL_append, List.length_append] at hf
  have hj := h.js
  have h1 := commit_on (J := J) (S := S) (k := 0) (n := 32) (a := 0) hn.wet (by rw [hj]; unfold areaN; simp) (by rw [hj]; show 0 + 10 ≤ 32; decide) (by rw [hj]; exact hf) (fun i hi => by
    rw [hj] at hi ⊢
    show neatF l (0 + i) = layS 1 (framesL l) i
    unfold neatF
    rw [if_pos (by have : i < 10 := hi; omega), Nat.zero_add])
  refine h1.2.congr fun t ht => ?_
  rw [hj]
  show (if 0 ≤ t ∧ t < 0 + 10 then layS 1 (framesL l ++ framesL r) (t - 0) else neatF l t) = neatF (l ++ r) t
  unfold neatF
  by_cases h2 : t < 10
  · rw [if_pos (by omega), if_pos h2, framesL_append]; rfl
  · rw [if_neg (by omega), if_neg h2, if_neg h2]
theorem Neat.same {S T : St} {l : List (List UInt8)} (h : Neat S l) (k : Neat T l) : (S.at_ 0).rd = (T.at_ 0).rd :=
  ext_sec (n := 32) h.holds.1 k.holds.1 fun s hs => (h.holds.2 s hs).trans (k.holds.2 s hs).symm
end Go.Proofs.Ytjmhfjioccljeaa
