/-
  Plain law of JournalKeeps: what a crash leaves, and what is then told.
-/
import Derived.Test.YtjmhfjioccljeaaJnR
namespace Go.Proofs.Ytjmhfjioccljeaa
set_option linter.unusedVariables false
set_option linter.unusedSimpArgs false

theorem Tells.more {f : Nat → List UInt8} {q m g : Nat} {l : List (List UInt8)} (h : Tells f q m g l l.length) (r : List (List UInt8)) : Tells f q m g (l ++ r) l.length := by
  refine ⟨by simp, fun i hi => ?_, h.eld⟩
  obtain ⟨τ, h1, h2, h3⟩ := h.mix i hi
  rw [List.take_length] at h1
  refine ⟨τ, by rw [List.take_left]; exact h1, by rw [framesL_append, List.length_append]; omega, ?_⟩
  rw [h3, framesL_append, List.take_append_of_le_length h2]
theorem Exact.more {f : Nat → List UInt8} {q m g c s : Nat} {al : List (List UInt8)} (h : Exact f q m g (framesL (al.take c))) (hs : s ≤ c) (hc : c ≤ al.length) : Tells f q m g al s := by
  refine ⟨by omega, fun i hi => ⟨(framesL (al.take c)).length, ?_, frames_take_le al c, ?_⟩, h.eld⟩
  · have := frames_take_le (al.take c) s
    rwa [List.take_take, Nat.min_eq_left hs] at this
  · rw [h.area i hi, ← frames_take_pre]
/-- what a crash leaves: the records of the generation, or (behind a switch that was cut off) a new one without records -/
def PF (n q m g : Nat) (l r : List (List UInt8)) (fresh : Bool) (f : Nat → List UInt8) : Prop := Tells f q m g (l ++ r) l.length ∨ (fresh = true ∧ Tells f q m (g + 1) [] 0)
theorem Held.pf {S : St} {J : Js} {n q m g : Nat} {l r : List (List UInt8)} (h : Held S J n q m g l r) (b : Bool) : Crashy S 0 n (PF n q m g l r b) := by
  obtain ⟨f, ht, he⟩ := h.torn
  have hf := h.fits
  refine ht.crashy fun x hx => .inl ?_
  have := (he.congr hf.in_ (by have := hf.m1; omega) hx).tells
  exact this.more r
section
variable {S : St} {n q m g : Nat} {l r : List (List UInt8)} {fresh : Bool} {f : Nat → List UInt8}
/-- an opening that the power may cut off -/
theorem open_again (h : Torn S 0 n f f) (hoff : S.off = false) (hF : Fits n q m g (l ++ r)) (hg : g + 1 ≤ 8796093022207) (hp : PF n q m g l r fresh f) : Crashy (openF S 0 (128 * q) m).2 0 n (PF n q m g l r fresh) := by
  rcases hp with hp | ⟨hfr, hp⟩
  · obtain ⟨c, c1, c2, c3, c4⟩ := open_tells h hoff hF hp
    rcases c4 with ⟨_, _, _, hh⟩ | ⟨_, _, hh⟩
    · obtain ⟨f', ht, he⟩ := hh.torn
      refine ht.crashy fun x hx => .inl ?_
      exact (he.congr hF.in_ (by have := hF.m1; omega) hx).more c1 c2
    · exact hh.imp fun _ h => .inl h
  · obtain ⟨c, c1, c2, c3, c4⟩ := open_tells h hoff (hF.none_ hg) hp
    have hc : c = 0 := by simpa using c2
    subst hc
    rcases c4 with ⟨_, _, _, hh⟩ | ⟨_, _, hh⟩
    · obtain ⟨f', ht, he⟩ := hh.torn
      refine ht.crashy fun x hx => .inr ⟨hfr, ?_⟩
      have := (he.congr hF.in_ (by have := hF.m1; omega) hx).tells
      exact this
    · exact hh.imp fun _ h => .inr ⟨hfr, h⟩
/-- the opening behind the crash: it goes well; what it tells -/
theorem open_last (h : Torn S 0 n f f) (hoff : S.off = false) (harm : S.arm = -1) (hF : Fits n q m g (l ++ r)) (hg : g + 1 ≤ 8796093022207) (hp : PF n q m g l r fresh f) :
    ∃ got g', (openF S 0 (128 * q) m).1 = 0 ∧ Held (openF S 0 (128 * q) m).2 (openJ S 0 (128 * q) m) n q m g' got [] ∧ (openF S 0 (128 * q) m).2.arm = -1 ∧ openR S 0 (128 * q) m = got ∧ g' ≤ g + 1 ∧
      ((∃ c, l.length ≤ c ∧ c ≤ (l ++ r).length ∧ got = (l ++ r).take c) ∨ (fresh = true ∧ got = [])) := by
  rcases hp with hp | ⟨hfr, hp⟩
  · obtain ⟨c, c1, c2, c3, c4⟩ := open_tells h hoff hF hp
    obtain ⟨d1, _, d3, d4⟩ := c4.calm harm
    exact ⟨_, g, d1, d4, d3, c3, by omega, .inl ⟨c, c1, c2, rfl⟩⟩
  · obtain ⟨c, c1, c2, c3, c4⟩ := open_tells h hoff (hF.none_ hg) hp
    obtain ⟨d1, _, d3, d4⟩ := c4.calm harm
    exact ⟨_, g + 1, d1, d4, d3, c3, by omega, .inr ⟨hfr, by simp⟩⟩
theorem torn_check (h : Torn S 0 n f f) (hF : Fits n q m g l) : checkB (S.at_ 0).size ((128 * q : Nat) : Int) (m : Int) = true := by
  have h1 := h.rd.1
  have := hF.in_
  have := hF.m1
  have := hF.m2
  unfold checkB Dk.size
  simp only [Bool.and_eq_true, decide_eq_true_eq]
  omega
end
end Go.Proofs.Ytjmhfjioccljeaa
