/-
  The program's disks in memory: a power and its disks.
-/
import Derived.Test.YtjmhfjioccljeaaFr
import Derived.Test.YtjmhfjioccljeaaDk
namespace Go.Proofs.Ytjmhfjioccljeaa
open Go.RowKit
set_option linter.unusedVariables false
set_option linter.unusedSimpArgs false

/-- an object's address -/
abbrev ob (b : Nat) : Value := .pointer (some ⟨b, 0, none⟩)
/-- the place of a sector's old bytes -/
def oldV (og oc : Nat → Nat) (s : Nat) : Value := .slice (some ⟨og s, 0, none⟩) 128 (oc s)
def oldF (D : Dk) (og oc : Nat → Nat) (s : Nat) : Option Value := if D.new s then some (oldV og oc s) else none
/-- a disk of the program's in memory -/
structure DkAt (w : World) (p d : Nat) (D : Dk) (fb mb : Nat) (og oc : Nat → Nat) : Prop where
  ok : D.Ok
  pos : 0 < D.nw.length
  lim : D.nw.length ≤ 16384
  self : Blk w d 120 #[ob p, .slice (some ⟨fb, 0, none⟩) D.size D.size, .map (some mb)]
  data : Blk w fb 5 (bc D.rd).toArray
  map : MapAt w 3 mb D.nw.length (oldF D og oc)
  old : ∀ s, D.new s = true → OwnB w 0 (some ⟨og s, 0, none⟩) (oc s) (sec D.la s)
  inj : ∀ s t, D.new s = true → D.new t = true → og s = og t → s = t
  far : ∀ s, D.new s = true → og s ≠ fb
/-- what a disk owns -/
def dkF (D : Dk) (d fb mb : Nat) (og : Nat → Nat) (i : Nat) : Prop := i = d ∨ i = fb ∨ i = mb ∨ ∃ s, D.new s = true ∧ i = og s
def DkR (w : World) (p d : Nat) (D : Dk) (F : Nat → Prop) : Prop := ∃ fb mb og oc, DkAt w p d D fb mb og oc ∧ F = dkF D d fb mb og
theorem new_lt {D : Dk} {s : Nat} (h : D.new s = true) : s < D.nw.length := by
  rcases Nat.lt_or_ge s D.nw.length with hl | hl
  · exact hl
  · simp [Dk.new, List.getD, List.getElem?_eq_none hl] at h
section
variable {w w' : World} {p d fb mb : Nat} {D : Dk} {og oc : Nat → Nat} {F : Nat → Prop}
theorem DkAt.size (h : DkAt w p d D fb mb og oc) : D.size = 128 * D.nw.length := h.ok.rd
theorem DkAt.lt (h : DkAt w p d D fb mb og oc) : Lt (dkF D d fb mb og) w.heap.size := fun i hi => by
  rcases hi with rfl | rfl | rfl | ⟨s, hs, rfl⟩
  · exact h.self.lt
  · exact h.data.lt
  · exact h.map.lt
  · exact (OwnR.lt (h.old s hs) _ rfl).2
theorem DkAt.keep (h : DkAt w p d D fb mb og oc) (hs : Same (dkF D d fb mb og) w w') (hsz : w.heap.size ≤ w'.heap.size) : DkAt w' p d D fb mb og oc :=
  ⟨h.ok, h.pos, h.lim, h.self.same hs (.inl rfl), h.data.same hs (.inr (.inl rfl)), h.map.keep (hs _ (.inr (.inr (.inl rfl)))),
    fun s hn => OwnR.block (h.old s hn) fun k hk => hs k (.inr (.inr (.inr ⟨s, hn, by simpa [blk] using hk.symm⟩))), h.inj, h.far⟩
theorem DkR.lt (h : DkR w p d D F) : Lt F w.heap.size := by obtain ⟨fb, mb, og, oc, h, rfl⟩ := h; exact h.lt
theorem DkR.keep (h : DkR w p d D F) (hs : Same F w w') (hsz : w.heap.size ≤ w'.heap.size) : DkR w' p d D F := by
  obtain ⟨fb, mb, og, oc, h, rfl⟩ := h
  exact ⟨fb, mb, og, oc, h.keep hs hsz, rfl⟩
end
/-- a power and its disks: each with its place -/
structure PwAt (w : World) (p : Nat) (ds : List (Nat × Dk)) (off : Bool) (arm : Int) (A : Option Addr) (c : Nat) (lf : Int) (Fs : Nat → Nat → Prop) : Prop where
  self : Blk w p 117 #[.slice A ds.length c, .bool off, .bool (decide (0 ≤ arm)), .int .i64 lf]
  left : 0 ≤ arm → lf = arm
  lo : -1 ≤ arm ∧ arm ≤ 9223372036854775807
  row : OwnR w 0 31 1 A ds.length c (ds.map fun x => ob x.1)
  disk : ∀ k x, ds[k]? = some x → DkR w p x.1 x.2 (Fs k)
  apart : ∀ j k, j < ds.length → k < ds.length → j ≠ k → Dis (Fs j) (Fs k)
  notp : ∀ k, k < ds.length → ¬ Fs k p
  nota : ∀ k b, k < ds.length → blk A = some b → ¬ Fs k b
  few : ds.length ≤ 1000
def pwF (p : Nat) (A : Option Addr) (n : Nat) (Fs : Nat → Nat → Prop) (i : Nat) : Prop := i = p ∨ blk A = some i ∨ ∃ k, k < n ∧ Fs k i
def PwR (w : World) (p : Nat) (ds : List (Nat × Dk)) (off : Bool) (arm : Int) (F : Nat → Prop) : Prop :=
  ∃ A c lf Fs, PwAt w p ds off arm A c lf Fs ∧ F = pwF p A ds.length Fs
section
variable {w w' : World} {p c : Nat} {ds : List (Nat × Dk)} {off : Bool} {arm lf : Int} {A : Option Addr} {Fs : Nat → Nat → Prop} {F : Nat → Prop}
theorem PwAt.lt (h : PwAt w p ds off arm A c lf Fs) : Lt (pwF p A ds.length Fs) w.heap.size := fun i hi => by
  rcases hi with rfl | hi | ⟨k, hk, hi⟩
  · exact h.self.lt
  · exact (OwnR.lt h.row _ hi).2
  · exact (h.disk k _ (List.getElem?_eq_getElem hk)).lt i hi
theorem PwAt.keep (h : PwAt w p ds off arm A c lf Fs) (hs : Same (pwF p A ds.length Fs) w w') (hsz : w.heap.size ≤ w'.heap.size) : PwAt w' p ds off arm A c lf Fs :=
  ⟨h.self.same hs (.inl rfl), h.left, h.lo, OwnR.block h.row fun k hk => hs k (.inr (.inl hk)),
    fun k x hx => (h.disk k x hx).keep (hs.sub fun i hi => .inr (.inr ⟨k, (List.getElem?_eq_some_iff.1 hx).1, hi⟩)) hsz, h.apart, h.notp, h.nota, h.few⟩
theorem PwR.lt (h : PwR w p ds off arm F) : Lt F w.heap.size := by obtain ⟨A, c, lf, Fs, h, rfl⟩ := h; exact h.lt
theorem PwR.keep (h : PwR w p ds off arm F) (hs : Same F w w') (hsz : w.heap.size ≤ w'.heap.size) : PwR w' p ds off arm F := by
  obtain ⟨A, c, lf, Fs, h, rfl⟩ := h
  exact ⟨A, c, lf, Fs, h.keep hs hsz, rfl⟩
theorem PwR.below (h : PwR w p ds off arm F) (hb : Below w.heap.size w w') : PwR w' p ds off arm F := h.keep (Same.of_below hb h.lt) hb.size
/-- disk k turns: what is left of it, and a world in which only its blocks and the power's own turned -/
theorem PwAt.turn (h : PwAt w p ds off arm A c lf Fs) {k : Nat} {x : Nat × Dk} (hk : ds[k]? = some x) {off' : Bool} {arm' lf' : Int} {D' : Dk} {G : Nat → Prop} (hs : Step (fun i => i = p ∨ Fs k i) (fun i => i = p ∨ G i) w w')
    (hself : Blk w' p 117 #[.slice A ds.length c, .bool off', .bool (decide (0 ≤ arm')), .int .i64 lf']) (harm : 0 ≤ arm' → lf' = arm') (hlo : -1 ≤ arm' ∧ arm' ≤ 9223372036854775807)
    (hd : DkR w' p x.1 D' G) (hp : ¬ G p) : PwAt w' p (ds.set k (x.1, D')) off' arm' A c lf' (fun j => if j = k then G else Fs j) ∧
      Step (pwF p A ds.length Fs) (pwF p A (ds.set k (x.1, D')).length (fun j => if j = k then G else Fs j)) w w' := by
  have hkl : k < ds.length := (List.getElem?_eq_some_iff.1 hk).1
  have hxk : ds[k] = x := (List.getElem?_eq_some_iff.1 hk).2
  have hrow : (ds.set k (x.1, D')).map (fun x => ob x.1) = ds.map fun x => ob x.1 := by
    rw [List.map_set]
    apply List.ext_getElem (by simp)
    intro i h1 h2
    rw [List.getElem_set]
    split
    · rename_i e; subst e; simp [hxk]
    · rfl
  have hblk : ∀ b, blk A = some b → ¬ (b = p ∨ Fs k b) := fun b hb hn => by
    rcases hn with rfl | hn
    · exact own_blk_ne (w := w) h.row h.self (by decide) (by rw [ownBlock_slice]; exact hb)
    · exact h.nota k b hkl hb hn
  have hG : ∀ i, G i → Fs k i ∨ w.heap.size ≤ i := fun i hi => by
    rcases hs.fresh i (.inr hi) with (e | h1) | h1
    · rw [e] at hi; exact absurd hi hp
    · exact .inl h1
    · exact .inr h1
  refine ⟨⟨by rw [List.length_set]; exact hself, harm, hlo, ?_, ?_, ?_, ?_, ?_, by rw [List.length_set]; exact h.few⟩, ?_⟩
  · rw [hrow, List.length_set]
    exact OwnR.block h.row fun b hb => hs.block b (OwnR.lt h.row b hb).2 (hblk b hb)
  · intro j y hy
    rw [List.getElem?_set] at hy
    by_cases hj : k = j
    · subst hj
      rw [if_pos rfl, if_pos hkl] at hy
      cases hy
      simp only [if_true]
      exact hd
    · rw [if_neg hj] at hy
      have hjl := (List.getElem?_eq_some_iff.1 hy).1
      rw [if_neg (Ne.symm hj)]
      exact (h.disk j y hy).keep (hs.same (fun i hi he => by
        rcases hi with rfl | hi
        · exact h.notp j hjl he
        · exact h.apart k j hkl hjl hj i hi he) (h.disk j y hy).lt) hs.size
  · intro i j hi hj hne
    rw [List.length_set] at hi hj
    by_cases h1 : i = k
    · subst h1
      simp only [if_true, if_neg (Ne.symm hne)]
      intro b hb he
      rcases hG b hb with h2 | h2
      · exact h.apart i j hi hj hne b h2 he
      · have := (h.disk j _ (List.getElem?_eq_getElem hj)).lt b he; omega
    · by_cases h2 : j = k
      · subst h2
        simp only [if_true, if_neg h1]
        intro b he hb
        rcases hG b hb with h3 | h3
        · exact h.apart i j hi hj hne b he h3
        · have := (h.disk i _ (List.getElem?_eq_getElem hi)).lt b he; omega
      · simp only [if_neg h1, if_neg h2]
        exact h.apart i j hi hj hne
  · intro j hj
    rw [List.length_set] at hj
    by_cases h1 : j = k
    · simp only [if_pos h1]; exact hp
    · simp only [if_neg h1]; exact h.notp j hj
  · intro j b hj hb
    rw [List.length_set] at hj
    by_cases h1 : j = k
    · simp only [if_pos h1]
      intro hg
      rcases hG b hg with h2 | h2
      · exact h.nota k b hkl hb h2
      · have := (OwnR.lt h.row b hb).2; omega
    · simp only [if_neg h1]; exact h.nota j b hj hb
  · refine hs.wide (fun i hi => ?_) fun i hi => ?_
    · rcases hi with rfl | hi
      · exact .inl rfl
      · exact .inr (.inr ⟨k, hkl, hi⟩)
    · rw [List.length_set] at hi
      rcases hi with rfl | hi | ⟨j, hj, hi⟩
      · exact .inl (.inl rfl)
      · exact .inr (.inr (.inl hi))
      · by_cases h1 : j = k
        · rw [if_pos h1] at hi; exact .inl (.inr hi)
        · rw [if_neg h1] at hi; exact .inr (.inr (.inr ⟨j, hj, hi⟩))
end
end Go.Proofs.Ytjmhfjioccljeaa
