/-
  The reference's disks in memory: a power and its disks.
-/
import Derived.Test.YtoompglghjpapaaDiskH
namespace Go.Proofs.Ytoompglghjpapaa
open Go.RowKit
set_option linter.unusedVariables false
set_option linter.unusedSimpArgs false

/-- bytes as a text -/
def bs (l : List UInt8) : ByteArray := ⟨l.toArray⟩
/-- truths as cells -/
def boolsL (l : List Bool) : Array Value := (l.map Value.bool).toArray
/-- a disk of the reference's in memory -/
structure RkAt (w : World) (p d : Nat) (D : Dk) (nb : Nat) : Prop where
  ok : D.Ok
  pos : 0 < D.nw.length
  lim : D.nw.length ≤ 16384
  self : Blk w d 84 #[ob p, .string (bs D.rd), .string (bs D.la), .slice (some ⟨nb, 0, none⟩) D.nw.length D.nw.length]
  bits : Blk w nb 4 (boolsL D.nw)
/-- what a disk owns -/
def rkF (d nb : Nat) (i : Nat) : Prop := i = d ∨ i = nb
def RkR (w : World) (p d : Nat) (D : Dk) (F : Nat → Prop) : Prop := ∃ nb, RkAt w p d D nb ∧ F = rkF d nb
section
variable {w w' : World} {p d nb : Nat} {D : Dk} {F : Nat → Prop}
theorem RkAt.size (h : RkAt w p d D nb) : D.size = 128 * D.nw.length := h.ok.rd
theorem RkAt.lt (h : RkAt w p d D nb) : Lt (rkF d nb) w.heap.size := fun i hi => by
  rcases hi with rfl | rfl
  · exact h.self.lt
  · exact h.bits.lt
theorem RkAt.keep (h : RkAt w p d D nb) (hs : Same (rkF d nb) w w') : RkAt w' p d D nb :=
  ⟨h.ok, h.pos, h.lim, h.self.same hs (.inl rfl), h.bits.same hs (.inr rfl)⟩
theorem RkR.lt (h : RkR w p d D F) : Lt F w.heap.size := by obtain ⟨nb, h, rfl⟩ := h; exact h.lt
theorem RkR.keep (h : RkR w p d D F) (hs : Same F w w') (hsz : w.heap.size ≤ w'.heap.size) : RkR w' p d D F := by
  obtain ⟨nb, h, rfl⟩ := h
  exact ⟨nb, h.keep hs, rfl⟩
end
/-- a power and its disks: each with its place -/
structure QwAt (w : World) (p : Nat) (ds : List (Nat × Dk)) (off : Bool) (arm : Int) (A : Option Addr) (c : Nat) (Fs : Nat → Nat → Prop) : Prop where
  self : Blk w p 81 #[.slice A ds.length c, .bool off, .int .i64 arm]
  lo : -1 ≤ arm ∧ arm ≤ 9223372036854775807
  row : OwnR w 0 73 1 A ds.length c (ds.map fun x => ob x.1)
  disk : ∀ k x, ds[k]? = some x → RkR w p x.1 x.2 (Fs k)
  apart : ∀ j k, j < ds.length → k < ds.length → j ≠ k → Dis (Fs j) (Fs k)
  notp : ∀ k, k < ds.length → ¬ Fs k p
  nota : ∀ k b, k < ds.length → blk A = some b → ¬ Fs k b
  few : ds.length ≤ 1000
def QwR (w : World) (p : Nat) (ds : List (Nat × Dk)) (off : Bool) (arm : Int) (F : Nat → Prop) : Prop :=
  ∃ A c Fs, QwAt w p ds off arm A c Fs ∧ F = pwF p A ds.length Fs
section
variable {w w' : World} {p c : Nat} {ds : List (Nat × Dk)} {off : Bool} {arm : Int} {A : Option Addr} {Fs : Nat → Nat → Prop} {F : Nat → Prop}
theorem QwAt.lt (h : QwAt w p ds off arm A c Fs) : Lt (pwF p A ds.length Fs) w.heap.size := fun i hi => by
  rcases hi with rfl | hi | ⟨k, hk, hi⟩
  · exact h.self.lt
  · exact (OwnR.lt h.row _ hi).2
  · exact (h.disk k _ (List.getElem?_eq_getElem hk)).lt i hi
theorem QwAt.keep (h : QwAt w p ds off arm A c Fs) (hs : Same (pwF p A ds.length Fs) w w') (hsz : w.heap.size ≤ w'.heap.size) : QwAt w' p ds off arm A c Fs :=
  ⟨h.self.same hs (.inl rfl), h.lo, OwnR.block h.row fun k hk => hs k (.inr (.inl hk)),
    fun k x hx => (h.disk k x hx).keep (hs.sub fun i hi => .inr (.inr ⟨k, (List.getElem?_eq_some_iff.1 hx).1, hi⟩)) hsz, h.apart, h.notp, h.nota, h.few⟩
theorem QwR.lt (h : QwR w p ds off arm F) : Lt F w.heap.size := by obtain ⟨A, c, Fs, h, rfl⟩ := h; exact h.lt
theorem QwR.keep (h : QwR w p ds off arm F) (hs : Same F w w') (hsz : w.heap.size ≤ w'.heap.size) : QwR w' p ds off arm F := by
  obtain ⟨A, c, Fs, h, rfl⟩ := h
  exact ⟨A, c, Fs, h.keep hs hsz, rfl⟩
theorem QwR.below (h : QwR w p ds off arm F) (hb : Below w.heap.size w w') : QwR w' p ds off arm F := h.keep (Same.of_below hb h.lt) hb.size
/-- disk k turns: what is left of it, and a world in which only its blocks and the power's own turned -/
theorem QwAt.turn (h : QwAt w p ds off arm A c Fs) {k : Nat} {x : Nat × Dk} (hk : ds[k]? = some x) {off' : Bool} {arm' : Int} {D' : Dk} {G : Nat → Prop} (hs : Step (fun i => i = p ∨ Fs k i) (fun i => i = p ∨ G i) w w')
    (hself : Blk w' p 81 #[.slice A ds.length c, .bool off', .int .i64 arm']) (hlo : -1 ≤ arm' ∧ arm' ≤ 9223372036854775807)
    (hd : RkR w' p x.1 D' G) (hp : ¬ G p) : QwAt w' p (ds.set k (x.1, D')) off' arm' A c (fun j => if j = k then G else Fs j) ∧
      Step (pwF p A ds.length Fs) (pwF p A (ds.set k (x.1, D')).length (fun j => if j = k then G else Fs j)) w w' := by
  have hkl : k < ds.length := (List.getElem?_eq_some_iff.1 hk).1
  have hxk : ds[k] = x := (List.getElem?_eq_some_iff.1 hk).2
  have hrow : (ds.set k (x.1, D')).map (fun x => ob x.1) = ds.map fun x => ob x.1 := by
    rw [List.map_set]
    apply List.ext_getElem (by simp)
    intro i h1 h2
    rw [List.getElem_set]
    split
    · rename_i e; subst e; simp [hxk]
    · rfl
  have hblk : ∀ b, blk A = some b → ¬ (b = p ∨ Fs k b) := fun b hb hn => by
    rcases hn with rfl | hn
    · exact own_blk_ne (w := w) h.row h.self (by decide) (by rw [ownBlock_slice]; exact hb)
    · exact h.nota k b hkl hb hn
  have hG : ∀ i, G i → Fs k i ∨ w.heap.size ≤ i := fun i hi => by
    rcases hs.fresh i (.inr hi) with (e | h1) | h1
    · rw [e] at hi; exact absurd hi hp
    · exact .inl h1
    · exact .inr h1
  refine ⟨⟨by rw [List.length_set]; exact hself, hlo, ?_, ?_, ?_, ?_, ?_, by rw [List.length_set]; exact h.few⟩, ?_⟩
  · rw [hrow, List.length_set]
    exact OwnR.block h.row fun b hb => hs.block b (OwnR.lt h.row b hb).2 (hblk b hb)
  · intro j y hy
    rw [List.getElem?_set] at hy
    by_cases hj : k = j
    · subst hj
      rw [if_pos rfl, if_pos hkl] at hy
      cases hy
      simp only [if_true]
      exact hd
    · rw [if_neg hj] at hy
      have hjl := (List.getElem?_eq_some_iff.1 hy).1
      rw [if_neg (Ne.symm hj)]
      exact (h.disk j y hy).keep (hs.same (fun i hi he => by
        rcases hi with rfl | hi
        · exact h.notp j hjl he
        · exact h.apart k j hkl hjl hj i hi he) (h.disk j y hy).lt) hs.size
  · intro i j hi hj hne
    rw [List.length_set] at hi hj
    by_cases h1 : i = k
    · subst h1
      simp only [if_true, if_neg (Ne.symm hne)]
      intro b hb he
      rcases hG b hb with h2 | h2
      · exact h.apart i j hi hj hne b h2 he
      · have := (h.disk j _ (List.getElem?_eq_getElem hj)).lt b he; omega
    · by_cases h2 : j = k
      · subst h2
        simp only [if_true, if_neg h1]
        intro b he hb
        rcases hG b hb with h3 | h3
        · exact h.apart i j hi hj hne b he h3
        · have := (h.disk i _ (List.getElem?_eq_getElem hi)).lt b he; omega
      · simp only [if_neg h1, if_neg h2]
        exact h.apart i j hi hj hne
  · intro j hj
    rw [List.length_set] at hj
    by_cases h1 : j = k
    · simp only [if_pos h1]; exact hp
    · simp only [if_neg h1]; exact h.notp j hj
  · intro j b hj hb
    rw [List.length_set] at hj
    by_cases h1 : j = k
    · simp only [if_pos h1]
      intro hg
      rcases hG b hg with h2 | h2
      · exact h.nota k b hkl hb h2
      · have := (OwnR.lt h.row b hb).2; omega
    · simp only [if_neg h1]; exact h.nota j b hj hb
  · refine hs.wide (fun i hi => ?_) fun i hi => ?_
    · rcases hi with rfl | hi
      · exact .inl rfl
      · exact .inr (.inr ⟨k, hkl, hi⟩)
    · rw [List.length_set] at hi
      rcases hi with rfl | hi | ⟨j, hj, hi⟩
      · exact .inl (.inl rfl)
      · exact .inr (.inr (.inl hi))
      · by_cases h1 : j = k
        · rw [if_pos h1] at hi; exact .inl (.inr hi)
        · rw [if_neg h1] at hi; exact .inr (.inr (.inr ⟨j, hj, hi⟩))
end
/-- a disk more -/
theorem QwAt.push {w w' : World} {p c : Nat} {ds : List (Nat × Dk)} {off : Bool} {arm : Int} {A : Option Addr} {Fs : Nat → Nat → Prop} (h : QwAt w p ds off arm A c Fs) {A' : Option Addr} {c' d : Nat} {D : Dk} {G : Nat → Prop}
    (hs : Step (fun i => i = p ∨ blk A = some i) No w w') (hself : Blk w' p 81 #[.slice A' (ds ++ [(d, D)]).length c', .bool off, .int .i64 arm])
    (hown : OwnR w' 0 73 1 A' (ds ++ [(d, D)]).length c' ((ds ++ [(d, D)]).map fun x => ob x.1)) (hA : ∀ k, blk A' = some k → blk A = some k ∨ (w.heap.size ≤ k ∧ ¬ G k)) (hd : RkR w' p d D G) (hG : Ge G w.heap.size) (hds : ds.length < 1000) :
    QwAt w' p (ds ++ [(d, D)]) off arm A' c' (fun k => if k = ds.length then G else Fs k) ∧
      Step (pwF p A ds.length Fs) (pwF p A' (ds ++ [(d, D)]).length (fun k => if k = ds.length then G else Fs k)) w w' := by
  have hkeep : ∀ k x, ds[k]? = some x → RkR w' p x.1 x.2 (Fs k) := fun k x hx => by
    have hkl := (List.getElem?_eq_some_iff.1 hx).1
    refine (h.disk k x hx).keep (fun i hi => hs.block i ((h.disk k x hx).lt i hi) ?_) hs.size
    rintro (rfl | e)
    · exact h.notp k hkl hi
    · exact h.nota k i hkl e hi
  have hlt : ∀ k, k < ds.length → Lt (Fs k) w.heap.size := fun k hk => (h.disk k _ (List.getElem?_eq_getElem hk)).lt
  have hpl := h.self.lt
  refine ⟨⟨hself, h.lo, hown, fun k x hx => ?_, fun j k hj hk hne => ?_, fun k hk => ?_, fun k b hk hb => ?_, by simp; omega⟩, ⟨hs.os, hs.tape, hs.output, hs.size, fun i hi hn => hs.block i hi fun e => hn ?_, fun i hi => ?_⟩⟩
  · by_cases hk : k = ds.length
    · subst hk
      rw [List.getElem?_append_right (Nat.le_refl _)] at hx
      simp at hx
      subst hx
      simpa using hd
    · have hkl : k < ds.length := by
        have := (List.getElem?_eq_some_iff.1 hx).1
        simp at this; omega
      rw [List.getElem?_append_left hkl] at hx
      simp only [if_neg hk]
      exact hkeep k x hx
  · simp at hj hk
    intro i hi he
    by_cases h1 : j = ds.length <;> by_cases h2 : k = ds.length
    · omega
    · rw [if_pos h1] at hi
      rw [if_neg h2] at he
      have := hG i hi
      have := hlt k (by omega) i he
      omega
    · rw [if_neg h1] at hi
      rw [if_pos h2] at he
      have := hG i he
      have := hlt j (by omega) i hi
      omega
    · rw [if_neg h1] at hi
      rw [if_neg h2] at he
      exact h.apart j k (by omega) (by omega) hne i hi he
  · simp at hk
    by_cases h1 : k = ds.length
    · rw [if_pos h1]; intro hg; have := hG p hg; omega
    · rw [if_neg h1]; exact h.notp k (by omega)
  · simp at hk
    by_cases h1 : k = ds.length
    · rw [if_pos h1]
      intro hg
      rcases hA b hb with h2 | ⟨_, h2⟩
      · have := (OwnR.lt h.row b h2).2
        have := hG b hg
        omega
      · exact h2 hg
    · rw [if_neg h1]
      intro hg
      rcases hA b hb with h2 | ⟨h2, _⟩
      · exact h.nota k b (by omega) h2 hg
      · have := hlt k (by omega) b hg; omega
  · rcases e with e | e
    · exact .inl e
    · exact .inr (.inl e)
  · rcases hi with hi | hi | ⟨k, hk, hi⟩
    · exact .inl (.inl hi)
    · rcases hA i hi with h1 | ⟨h1, _⟩
      · exact .inl (.inr (.inl h1))
      · exact .inr h1
    · by_cases h1 : k = ds.length
      · rw [if_pos h1] at hi; exact .inr (hG i hi)
      · rw [if_neg h1] at hi; simp at hk; exact .inl (.inr (.inr ⟨k, by omega, hi⟩))
/-- the power's own cells turn -/
theorem QwAt.reself {w w' : World} {p c : Nat} {ds : List (Nat × Dk)} {off off' : Bool} {arm arm' : Int} {A : Option Addr} {Fs : Nat → Nat → Prop} (h : QwAt w p ds off arm A c Fs) (hs : Step (one p) (one p) w w')
    (hself : Blk w' p 81 #[.slice A ds.length c, .bool off', .int .i64 arm']) (hlo : -1 ≤ arm' ∧ arm' ≤ 9223372036854775807) :
    QwAt w' p ds off' arm' A c Fs ∧ Step (pwF p A ds.length Fs) (pwF p A ds.length Fs) w w' := by
  refine ⟨⟨hself, hlo, OwnR.block h.row fun b hb => hs.block b (OwnR.lt h.row b hb).2 (fun e => own_blk_ne (w := w) h.row h.self (by decide) (by rw [ownBlock_slice, ← (show b = p from e)]; exact hb)), fun k x hx => ?_, h.apart, h.notp, h.nota, h.few⟩,
    hs.wide (fun i hi => .inl hi) fun i hi => .inr hi⟩
  have hkl := (List.getElem?_eq_some_iff.1 hx).1
  exact (h.disk k x hx).keep (hs.same (fun i hi he => h.notp k hkl (by rw [← (show i = p from hi)]; exact he)) (h.disk k x hx).lt) hs.size
/-- disk k's place in the row -/
theorem QwAt.cellk {w : World} {p c : Nat} {ds : List (Nat × Dk)} {off : Bool} {arm : Int} {A : Option Addr} {Fs : Nat → Nat → Prop} (h : QwAt w p ds off arm A c Fs) {k : Nat} {x : Nat × Dk} (hk : ds[k]? = some x) :
    ∃ ad, A = some ad ∧ w.cell? (ad.add k) = some (ob x.1) := by
  refine OwnR.cellAt h.row k (ob x.1) ?_
  rw [List.getElem?_map, hk]; rfl
/-- the reference's power p, its disks at these places -/
def QwS (w : World) (p : Nat) (as_ : List Nat) (S : St) (F : Nat → Prop) : Prop := as_.length = S.ds.length ∧ QwR w p (as_.zip S.ds) S.off S.arm F
section
variable {w w' : World} {p : Nat} {as_ : List Nat} {S : St} {F : Nat → Prop} {k d : Nat}
theorem QwS.lt (h : QwS w p as_ S F) : Lt F w.heap.size := h.2.lt
theorem QwS.keep (h : QwS w p as_ S F) (hs : Same F w w') (hsz : w.heap.size ≤ w'.heap.size) : QwS w' p as_ S F := ⟨h.1, h.2.keep hs hsz⟩
theorem QwS.below (h : QwS w p as_ S F) (hb : Below w.heap.size w w') : QwS w' p as_ S F := ⟨h.1, h.2.below hb⟩
theorem QwS.open_ (h : QwS w p as_ S F) (hk : as_[k]? = some d) : ∃ A c Fs nb, QwAt w p (as_.zip S.ds) S.off S.arm A c Fs ∧ RkAt w p d (S.at_ k) nb ∧ Fs k = rkF d nb ∧ F = pwF p A (as_.zip S.ds).length Fs ∧
    (as_.zip S.ds)[k]? = some (d, S.at_ k) ∧ ¬ rkF d nb p := by
  obtain ⟨hl, A, c, Fs, h, rfl⟩ := h
  have hz := zip_at hl hk
  obtain ⟨nb, hd, hF⟩ := h.disk k _ hz
  exact ⟨A, c, Fs, nb, h, hd, hF, rfl, hz, by rw [← show Fs k = rkF d nb from hF]; exact h.notp k (List.getElem?_eq_some_iff.1 hz).1⟩
/-- what a call that turns the state leaves -/
def QtSpec (p : Nat) (as_ : List Nat) (F : Nat → Prop) (r : Int × St) (w : World) (e : Ending) (w' : World) : Prop :=
  e = .returned (.int .i64 r.1) ∧ ∃ F', QwS w' p as_ r.2 F' ∧ Step F F' w w'
def QtSpec0 (p : Nat) (as_ : List Nat) (F : Nat → Prop) (S' : St) (w : World) (e : Ending) (w' : World) : Prop :=
  e = .returned (.tuple #[]) ∧ ∃ F', QwS w' p as_ S' F' ∧ Step F F' w w'
end
end Go.Proofs.Ytoompglghjpapaa
