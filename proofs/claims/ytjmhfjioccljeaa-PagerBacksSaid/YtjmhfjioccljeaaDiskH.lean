/-
  The calls of package disk over a power's whole state.
-/
import Derived.Test.YtjmhfjioccljeaaDiskG
namespace Go.Proofs.Ytjmhfjioccljeaa
open Go.RowKit
set_option linter.unusedVariables false
set_option linter.unusedSimpArgs false

/-- a power's state: its disks, is it off, how it is armed -/
structure St where
  ds : List Dk
  off : Bool
  arm : Int
def St.at_ (S : St) (k : Nat) : Dk := S.ds.getD k ⟨[], [], []⟩
def St.write (S : St) (k : Nat) (o : Int) (b : List UInt8) : Int × St :=
  (writeE (S.at_ k) S.off S.arm o b.length, ⟨S.ds.set k (writeD (S.at_ k) S.off S.arm o b), writeOff (S.at_ k) S.off S.arm o b.length, writeArm (S.at_ k) S.off S.arm o b.length⟩)
def St.sync (S : St) (k : Nat) : Int × St := ((useP S.off S.arm).1, ⟨S.ds.set k (syncD (S.at_ k) S.off S.arm), (useP S.off S.arm).2.1, (useP S.off S.arm).2.2⟩)
def St.rot (S : St) (k : Nat) (o : Int) (m : UInt8) : Int × St := (rotE (S.at_ k) S.off o, ⟨S.ds.set k (rotD (S.at_ k) S.off o m), S.off, S.arm⟩)
def St.armed (S : St) (n : Int) : St := ⟨S.ds, S.off, max n (-1)⟩
def crashD (picks : List Int) : Nat → List Dk → List Dk
  | _, [] => []
  | a, x :: r => x.crash picks a :: crashD picks (a + x.all) r
def St.crash (S : St) (picks : List Int) : St := ⟨crashD picks 0 S.ds, false, -1⟩
/-- the power p, its disks at these places -/
def PwS (w : World) (p : Nat) (as_ : List Nat) (S : St) (F : Nat → Prop) : Prop := as_.length = S.ds.length ∧ PwR w p (as_.zip S.ds) S.off S.arm F
theorem zip_at {as_ : List Nat} {ds : List Dk} (h : as_.length = ds.length) {k d : Nat} (hk : as_[k]? = some d) : (as_.zip ds)[k]? = some (d, ds.getD k ⟨[], [], []⟩) := by
  obtain ⟨h1, h2⟩ := List.getElem?_eq_some_iff.1 hk
  rw [List.getElem?_eq_getElem (by simp; omega), List.getElem_zip, h2]
  simp [List.getD, show k < ds.length by omega]
theorem zip_set {as_ : List Nat} {ds : List Dk} {k d : Nat} (hk : as_[k]? = some d) (D : Dk) : (as_.zip ds).set k (d, D) = as_.zip (ds.set k D) := by
  induction as_ generalizing ds k with
  | nil => simp at hk
  | cons a as_ ih =>
    cases ds with
    | nil => simp
    | cons x ds =>
      cases k with
      | zero => simp at hk; subst hk; rfl
      | succ k =>
        simp only [List.getElem?_cons_succ] at hk
        simp only [List.zip_cons_cons, List.set_cons_succ, ih hk]
theorem zip_crash (picks : List Int) (a : Nat) (as_ : List Nat) (ds : List Dk) : crashL picks a (as_.zip ds) = as_.zip (crashD picks a (ds.take as_.length)) := by
  induction as_ generalizing a ds with
  | nil => simp [crashL]
  | cons x as_ ih =>
    cases ds with
    | nil => simp [crashL, crashD]
    | cons y ds => simp [crashL, crashD, ih]
theorem crashD_length (picks : List Int) (a : Nat) (ds : List Dk) : (crashD picks a ds).length = ds.length := by
  induction ds generalizing a with
  | nil => rfl
  | cons x r ih => simp [crashD, ih]
section
variable {w w' : World} {p : Nat} {as_ : List Nat} {S : St} {F : Nat → Prop} {k d : Nat}
theorem PwS.lt (h : PwS w p as_ S F) : Lt F w.heap.size := h.2.lt
theorem PwS.keep (h : PwS w p as_ S F) (hs : Same F w w') (hsz : w.heap.size ≤ w'.heap.size) : PwS w' p as_ S F := ⟨h.1, h.2.keep hs hsz⟩
theorem PwS.below (h : PwS w p as_ S F) (hb : Below w.heap.size w w') : PwS w' p as_ S F := ⟨h.1, h.2.below hb⟩
theorem PwS.open_ (h : PwS w p as_ S F) (hk : as_[k]? = some d) : ∃ A c lf Fs fb mb og oc, PwAt w p (as_.zip S.ds) S.off S.arm A c lf Fs ∧ DkAt w p d (S.at_ k) fb mb og oc ∧ Fs k = dkF (S.at_ k) d fb mb og ∧ F = pwF p A (as_.zip S.ds).length Fs ∧
    (as_.zip S.ds)[k]? = some (d, S.at_ k) ∧ ¬ dkF (S.at_ k) d fb mb og p := by
  obtain ⟨hl, A, c, lf, Fs, h, rfl⟩ := h
  have hz := zip_at hl hk
  obtain ⟨fb, mb, og, oc, hd, hF⟩ := h.disk k _ hz
  exact ⟨A, c, lf, Fs, fb, mb, og, oc, h, hd, hF, rfl, hz, by rw [← show Fs k = dkF (S.at_ k) d fb mb og from hF]; exact h.notp k (List.getElem?_eq_some_iff.1 hz).1⟩
/-- what a call that turns the state leaves -/
def StSpec (p : Nat) (as_ : List Nat) (F : Nat → Prop) (r : Int × St) (w : World) (e : Ending) (w' : World) : Prop :=
  e = .returned (.int .i64 r.1) ∧ ∃ F', PwS w' p as_ r.2 F' ∧ Step F F' w w'
theorem st_read (h : PwS w p as_ S F) (hk : as_[k]? = some d) (o n : Int) (ho : -9223372036854775808 ≤ o ∧ o ≤ 9223372036854775807) (hn : -9223372036854775808 ≤ n ∧ n ≤ 9223372036854775807) :
    Calls Try.prog 16 #[ob d, .int .i64 o, .int .i64 n] w fun e w' => ReadSpec (S.at_ k) S.off o n w e w' := by
  obtain ⟨A, c, lf, Fs, fb, mb, og, oc, h1, h2, _⟩ := h.open_ hk
  exact read_at o n w h2 h1.pself ho hn
theorem st_uns (h : PwS w p as_ S F) (hk : as_[k]? = some d) : Calls Try.prog 43 #[ob d] w fun e w' => UnsSpec (S.at_ k) w e w' := by
  obtain ⟨A, c, lf, Fs, fb, mb, og, oc, h1, h2, _⟩ := h.open_ hk
  exact uns_at w h2
theorem st_size (h : PwS w p as_ S F) (hk : as_[k]? = some d) : Calls Try.prog 102 #[ob d] w fun e w' => e = .returned (.int .i64 ((S.at_ k).size : Int)) ∧ w = w' := by
  obtain ⟨A, c, lf, Fs, fb, mb, og, oc, h1, h2, _⟩ := h.open_ hk
  exact size_at w h2
theorem st_write (h : PwS w p as_ S F) (hk : as_[k]? = some d) (o : Int) (A : Option Addr) (b : List UInt8) (c : Nat) (ho : -9223372036854775808 ≤ o ∧ o ≤ 9223372036854775807) (hb : b.length ≤ maxLen) (hA : RdB w A b) (hAn : ∀ ad, A = some ad → ¬ F ad.block) :
    Calls Try.prog 67 #[ob d, .int .i64 o, .slice A b.length c] w fun e w' => StSpec p as_ F (S.write k o b) w e w' := by
  obtain ⟨A0, c0, lf, Fs, fb, mb, og, oc, h1, h2, h3, rfl, h4, h5⟩ := h.open_ hk
  have hkl := (List.getElem?_eq_some_iff.1 h4).1
  refine (write_at o A b c w h2 h1.pself h1.lo h5 ho hb hA fun ad e => ⟨fun e2 => hAn ad e (.inl e2), fun e2 => hAn ad e (.inr (.inr ⟨k, hkl, by rw [h3]; exact e2⟩))⟩).mono ?_
  rintro e w' ⟨rfl, ⟨lf', hs1, hs2⟩, og', oc', hd, hst⟩
  have hst' : Step (fun i => i = p ∨ Fs k i) (fun i => i = p ∨ dkF (writeD (S.at_ k) S.off S.arm o b) d fb mb og' i) w w' := by rw [h3]; exact hst
  have hlo : -1 ≤ writeArm (S.at_ k) S.off S.arm o b.length ∧ writeArm (S.at_ k) S.off S.arm o b.length ≤ 9223372036854775807 := by
    have := h1.lo
    unfold writeArm useP
    split
    · split
      · exact this
      · simp only; split <;> omega
    · exact this
  have hself : Blk w' p 117 #[.slice A0 (as_.zip S.ds).length c0, .bool (writeOff (S.at_ k) S.off S.arm o b.length), .bool (decide (0 ≤ writeArm (S.at_ k) S.off S.arm o b.length)), .int .i64 lf'] := hs1
  obtain ⟨r1, r2⟩ := h1.turn h4 hst' hself hs2 hlo ⟨fb, mb, og', oc', hd, rfl⟩ (fun hp => by
    rcases hp with e1 | e1 | e1 | ⟨s, _, e1⟩
    · exact h5 (.inl e1)
    · exact h5 (.inr (.inl e1))
    · exact h5 (.inr (.inr (.inl e1)))
    · rcases hst.fresh p (.inr (.inr (.inr (.inr ⟨s, by assumption, e1⟩)))) with e2 | e2
      · exact absurd (hd.old s (by assumption)).2 (fun h0 => by
          rcases h0 with ⟨h0, _⟩ | ⟨g', cap, cur, he, _, hh, _⟩
          · simp at h0
          · have e3 : og' s = g' := by simp at he; exact he.1
            rw [← e3, ← e1] at hh
            exact Blk.ne_ (w := w') (t := 5) hh hself (by decide) rfl)
      · have := h1.self.lt; omega)
  rw [zip_set hk] at r1 r2
  exact ⟨rfl, _, ⟨by simp only [St.write, List.length_set]; exact h.1, A0, c0, lf', _, r1, rfl⟩, r2⟩
theorem st_sync (h : PwS w p as_ S F) (hk : as_[k]? = some d) : Calls Try.prog 70 #[ob d] w fun e w' => StSpec p as_ F (S.sync k) w e w' := by
  obtain ⟨A0, c0, lf, Fs, fb, mb, og, oc, h1, h2, h3, rfl, h4, h5⟩ := h.open_ hk
  have hkl := (List.getElem?_eq_some_iff.1 h4).1
  refine (sync_at w h2 h1.pself h1.lo h5).mono ?_
  rintro e w' ⟨rfl, ⟨lf', hs1, hs2⟩, hd, hst⟩
  have hst' : Step (fun i => i = p ∨ Fs k i) (fun i => i = p ∨ dkF (syncD (S.at_ k) S.off S.arm) d fb mb og i) w w' := by rw [h3]; exact hst
  have hlo : -1 ≤ (useP S.off S.arm).2.2 ∧ (useP S.off S.arm).2.2 ≤ 9223372036854775807 := by
    have := h1.lo
    unfold useP
    split
    · exact this
    · simp only; split <;> omega
  have hself : Blk w' p 117 #[.slice A0 (as_.zip S.ds).length c0, .bool (useP S.off S.arm).2.1, .bool (decide (0 ≤ (useP S.off S.arm).2.2)), .int .i64 lf'] := hs1
  obtain ⟨r1, r2⟩ := h1.turn h4 hst' hself hs2 hlo ⟨fb, mb, og, oc, hd, rfl⟩ (fun hp => by
    rcases hp with e1 | e1 | e1 | ⟨s, hs, e1⟩
    · exact h5 (.inl e1)
    · exact h5 (.inr (.inl e1))
    · exact h5 (.inr (.inr (.inl e1)))
    · rcases (hd.old s hs).2 with ⟨h0, _⟩ | ⟨g', cap, cur, he, _, hh, _⟩
      · simp at h0
      · have e3 : og s = g' := by simp at he; exact he.1
        rw [← e3, ← e1] at hh
        exact Blk.ne_ (w := w') (t := 5) hh hself (by decide) rfl)
  rw [zip_set hk] at r1 r2
  exact ⟨rfl, _, ⟨by simp only [St.sync, List.length_set]; exact h.1, A0, c0, lf', _, r1, rfl⟩, r2⟩
/-- .. the slice's length under a name of its own -/
theorem st_writeN (h : PwS w p as_ S F) (hk : as_[k]? = some d) (o : Int) (A : Option Addr) (b : List UInt8) (n c : Nat) (hn : b.length = n) (ho : -9223372036854775808 ≤ o ∧ o ≤ 9223372036854775807) (hb : n ≤ maxLen) (hA : RdB w A b) (hAn : ∀ ad, A = some ad → ¬ F ad.block) :
    Calls Try.prog 67 #[ob d, .int .i64 o, .slice A n c] w fun e w' => StSpec p as_ F (S.write k o b) w e w' := by
  subst hn
  exact st_write h hk o A b c ho hb hA hAn
/-- what a call without results leaves -/
def StSpec0 (p : Nat) (as_ : List Nat) (F : Nat → Prop) (S' : St) (w : World) (e : Ending) (w' : World) : Prop :=
  e = .returned (.tuple #[]) ∧ ∃ F', PwS w' p as_ S' F' ∧ Step F F' w w'
theorem st_arm (h : PwS w p as_ S F) (n : Int) (hn : -9223372036854775808 ≤ n ∧ n ≤ 9223372036854775807) : Calls Try.prog 22 #[ob p, .int .i64 n] w fun e w' => StSpec0 p as_ F (S.armed n) w e w' := by
  obtain ⟨hl, A, c, lf, Fs, h, rfl⟩ := h
  refine (arm_at n w h.pself hn).mono ?_
  rintro e w' ⟨rfl, ⟨lf', hs1, hs2⟩, hst⟩
  obtain ⟨r1, r2⟩ := h.reself (off' := S.off) (arm' := max n (-1)) hst hs1 hs2 (by omega)
  exact ⟨rfl, _, ⟨hl, A, c, lf', Fs, r1, rfl⟩, r2⟩
theorem st_crash (h : PwS w p as_ S F) (picks : List Int) (v : Value) (hv : PickAt w F picks 0 v) (hp : ∀ x ∈ picks, -9223372036854775808 ≤ x ∧ x ≤ 9223372036854775807) :
    Calls Try.prog 23 #[ob p, v] w fun e w' => StSpec0 p as_ F (S.crash picks) w e w' := by
  refine (crash_any picks v w h.2 hv hp).mono ?_
  rintro e w' ⟨rfl, F', h1, h2⟩
  refine ⟨rfl, F', ⟨?_, ?_⟩, h2⟩
  · simp only [St.crash, crashD_length]; exact h.1
  · rw [zip_crash, h.1, List.take_length] at h1
    exact h1
theorem st_new (h : PwS w p as_ S F) (n : Nat) (hn : 0 < n ∧ n ≤ 16384) (hds : as_.length < 1000) :
    Calls Try.prog 18 #[ob p, .int .i64 ((128 * n : Nat) : Int)] w fun e w' => ∃ d F', e = .returned (.tuple #[ob d, .int .i64 0]) ∧ PwS w' p (as_ ++ [d]) ⟨S.ds ++ [Dk.fresh n], S.off, S.arm⟩ F' ∧ Step F F' w w' ∧ w.heap.size ≤ d := by
  refine (new_ok n w h.2 hn (by simp; omega)).mono ?_
  rintro e w' ⟨d, F', rfl, h1, h2, h3⟩
  refine ⟨d, F', rfl, ⟨by simp [h.1], ?_⟩, h2, h3⟩
  rw [List.zip_append h.1]
  exact h1
end
/-! ### while the power is on and not armed -/
theorem useP_on : useP false (-1) = (0, false, -1) := by decide
theorem inB_nat {size o n : Nat} (h : o + n ≤ size) : inB size (o : Int) (n : Int) = true := by simp [inB]; omega
theorem St.write_on {S : St} {k o : Nat} {oi : Int} {b : List UInt8} (hoff : S.off = false) (harm : S.arm = -1) (ho : oi = (o : Int)) (h : o + b.length ≤ (S.at_ k).size) :
    S.write k oi b = (0, ⟨S.ds.set k ((S.at_ k).write o b), false, -1⟩) := by
  subst ho
  have hin := inB_nat h
  have he : writeE (S.at_ k) S.off S.arm (o : Int) (b.length : Int) = 0 := by unfold writeE; rw [if_pos hin, hoff, harm, useP_on]
  unfold St.write
  rw [he]
  unfold writeD writeOff writeArm
  rw [he, if_pos rfl, if_pos hin, if_pos hin, hoff, harm, useP_on]; rfl
theorem St.sync_on {S : St} {k : Nat} (hoff : S.off = false) (harm : S.arm = -1) : S.sync k = (0, ⟨S.ds.set k (S.at_ k).sync, false, -1⟩) := by
  unfold St.sync syncD
  rw [hoff, harm, useP_on]; rfl
theorem read_on {D : Dk} {off : Bool} {o n : Nat} {oi ni : Int} (hoff : off = false) (ho : oi = (o : Int)) (hn : ni = (n : Int)) (h : o + n ≤ D.size) : readE D off oi ni = 0 ∧ readB D off oi ni = (D.rd.drop o).take n := by
  subst ho; subst hn; subst hoff
  have he : readE D false (o : Int) (n : Int) = 0 := by unfold readE; rw [if_pos (inB_nat h)]; rfl
  refine ⟨he, ?_⟩
  unfold readB
  rw [he, if_pos rfl]; simp
theorem rot_on {S : St} {k o : Nat} {oi : Int} {m : UInt8} (hoff : S.off = false) (ho : oi = (o : Int)) (h : o < (S.at_ k).size) : S.rot k oi m = (0, ⟨S.ds.set k ((S.at_ k).rot o m), S.off, S.arm⟩) := by
  subst ho
  have hin : inB (S.at_ k).size (o : Int) 1 = true := by simp [inB]; omega
  have he : rotE (S.at_ k) S.off (o : Int) = 0 := by unfold rotE; rw [if_pos hin, hoff]; rfl
  unfold St.rot
  rw [he]
  unfold rotD
  rw [he, if_pos rfl]; rfl
theorem at_set_same {S : St} {k : Nat} {D : Dk} {o : Bool} {a : Int} (hk : k < S.ds.length) : (⟨S.ds.set k D, o, a⟩ : St).at_ k = D := by
  simp [St.at_, List.getD, hk]
theorem at_set_other {S : St} {k j : Nat} {D : Dk} {o : Bool} {a : Int} (hk : k ≠ j) : (⟨S.ds.set k D, o, a⟩ : St).at_ j = S.at_ j := by
  simp [St.at_, List.getD, List.getElem?_set, hk]
theorem putAt_take_drop {l b : List UInt8} {o : Nat} (h : o + b.length ≤ l.length) : ((putAt l o b).drop o).take b.length = b := by
  have e : (l.take o).length = o := by simp; omega
  unfold putAt
  rw [List.append_assoc, List.drop_append_of_le_length (by omega), List.drop_eq_nil_of_le (by omega), List.nil_append, List.take_append_of_le_length (Nat.le_refl _), List.take_length]
end Go.Proofs.Ytjmhfjioccljeaa
