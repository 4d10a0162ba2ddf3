/-
  Walks of the laws of layer 1: what a law knows of its disks; known, pair.
-/
import Derived.Test.YtjmhfjioccljeaaDiskH
import Derived.Test.YtjmhfjioccljeaaRefI
import Derived.Test.YtjmhfjioccljeaaConv
namespace Go.Proofs.Ytjmhfjioccljeaa
open Go.RowKit
set_option linter.unusedVariables false
set_option linter.unusedSimpArgs false
attribute [local go_sem ↓] Go.wp_at_zero Go.wp_at_succ

/-- a law that began in w0 stands in w: its power, its disks; of what was there nothing has turned -/
structure LW (w0 w : World) (p : Nat) (as_ : List Nat) (S : St) (F : Nat → Prop) : Prop where
  pw : PwS w p as_ S F
  ge : Ge F w0.heap.size
  be : Below w0.heap.size w0 w
section
variable {w0 w w' : World} {p d k : Nat} {as_ : List Nat} {S : St} {F : Nat → Prop}
theorem LW.size (h : LW w0 w p as_ S F) : w0.heap.size ≤ w.heap.size := h.be.size
theorem LW.below (h : LW w0 w p as_ S F) (hb : Below w.heap.size w w') : LW w0 w' p as_ S F := ⟨h.pw.below hb, h.ge, h.be.trans (hb.mono h.be.size)⟩
theorem LW.step {as' : List Nat} {S' : St} {F' : Nat → Prop} (h : LW w0 w p as_ S F) (hs : Step F F' w w') (hp : PwS w' p as' S' F') : LW w0 w' p as' S' F' :=
  ⟨hp, hs.ge h.ge h.be.size, h.be.trans (hs.below h.ge h.be.size)⟩
theorem LW.alloc (h : LW w0 w p as_ S F) (o : Obj) : LW w0 (w.alloc o) p as_ S F := h.below ((Below.refl _ _).alloc (Nat.le_refl _) _)
theorem LW.drewN (h : LW w0 w p as_ S F) (n : Nat) : LW w0 (w.drewN n) p as_ S F := h.below (below_drewN (Below.refl _ _) n)
theorem LW.drew (h : LW w0 w p as_ S F) : LW w0 w.drew p as_ S F := h.drewN 1
theorem LW.st (h : LW w0 w p as_ S F) {r : Int × St} {e : Ending} (hs : StSpec p as_ F r w e w') : e = .returned (.int .i64 r.1) ∧ ∃ F', LW w0 w' p as_ r.2 F' ∧ Step F F' w w' := by
  obtain ⟨h1, F', h2, h3⟩ := hs
  exact ⟨h1, F', h.step h3 h2, h3⟩
theorem LW.st0 (h : LW w0 w p as_ S F) {S' : St} {e : Ending} (hs : StSpec0 p as_ F S' w e w') : e = .returned (.tuple #[]) ∧ ∃ F', LW w0 w' p as_ S' F' ∧ Step F F' w w' := by
  obtain ⟨h1, F', h2, h3⟩ := hs
  exact ⟨h1, F', h.step h3 h2, h3⟩
theorem LW.notin (h : LW w0 w p as_ S F) {b : Nat} (hb : b < w0.heap.size ∨ w.heap.size ≤ b) : ¬ F b := fun hf => by
  have h1 := h.ge b hf
  have h2 := h.pw.lt b hf
  omega
theorem LW.start (w : World) {w1 : World} {F : Nat → Prop} (h : PwR w1 w.heap.size [] false (-1) F) (hs : Step No F w w1) : LW w w1 w.heap.size [] ⟨[], false, -1⟩ F :=
  ⟨⟨rfl, h⟩, hs.ge (fun i h => absurd h fun h => h) (Nat.le_refl _), hs.none⟩
end
theorem rd_lit (w : World) (l : List UInt8) {cs : Array Value} (h : cs = (bc l).toArray) : RdB (w.alloc (.cells cs 5)) (some ⟨w.heap.size, 0, none⟩) l := by
  subst h; exact rd_blk (Blk.new w _ _) 0
theorem rdz_lit (w : World) (l : List Int) {cs : Array Value} (h : cs = (ic l).toArray) : RdZ (w.alloc (.cells cs 3)) (some ⟨w.heap.size, 0, none⟩) l := by
  subst h
  intro hl
  refine ⟨_, rfl, fun k hk => ?_⟩
  exact cells_new w (ic l) _ k _ (ic_get l k hk)
/-- what Unsynced gave reads as numbers -/
theorem uns_rd {D : Dk} {w w' : World} {A : Option Addr} {c : Nat} (h : OwnR w' w.heap.size 3 1 A D.uns.length c (ic (D.uns.map fun s : Nat => (s : Int)))) : RdZ w' A (D.uns.map fun s : Nat => (s : Int)) :=
  OwnZ.rd (base := w.heap.size) (c := c) (by unfold OwnZ; rw [zip_len]; exact h)
theorem pick_lit {w : World} {F : Nat → Prop} {picks : List Int} {A : Option Addr} {c : Nat} (h : RdZ w A picks) (hc : picks.length ≤ c) (hm : c ≤ maxLen) (hA : ∀ ad, A = some ad → ¬ F ad.block) : PickAt w F picks 0 (.slice A picks.length c) :=
  ⟨A, picks.length, c, rfl, rfl, hc, hm, h, hA⟩
/-- a law's own cells stay while its disks turn -/
def Keep (F F' : Nat → Prop) (w w' : World) : Prop := ∀ x v, w.cell? x = some v → ¬ F x.block → w'.cell? x = some v ∧ ¬ F' x.block
theorem Step.keep {F F' : Nat → Prop} {w w' : World} (h : Step F F' w w') : Keep F F' w w' := fun x v hc hn =>
  have hl := World.block_lt_of_cell? _ _ hc
  ⟨(World.cell?_of_block (h.block _ hl hn)).trans hc, fun hf => by
    rcases h.fresh _ hf with h1 | h1
    · exact hn h1
    · omega⟩
theorem Keep.of_below {F F' : Nat → Prop} {w w1 w2 : World} (hb : Below w.heap.size w w1) (h : Keep F F' w1 w2) : Keep F F' w w2 := fun x v hc hn =>
  h x v ((hb.cell (World.block_lt_of_cell? _ _ hc)).trans hc) hn
theorem Keep.rd {F F' : Nat → Prop} {w w' : World} (h : Keep F F' w w') {A : Option Addr} {l : List UInt8} (hr : RdB w A l) (hA : ∀ ad, A = some ad → ¬ F ad.block) : RdB w' A l := fun hl => by
  obtain ⟨ad, rfl, hc⟩ := hr hl
  exact ⟨ad, rfl, fun k hk => (h _ _ (hc k hk) (by rw [block_of_add]; exact hA ad rfl)).1⟩
/-- a store into a cell of the law's own -/
theorem LW.own {w0 w : World} {p : Nat} {as_ : List Nat} {S : St} {F : Nat → Prop} (h : LW w0 w p as_ S F) {x : Addr} (hx : ¬ F x.block) (hg : w0.heap.size ≤ x.block) (v : Value) : LW w0 (w.setCell x v) p as_ S F :=
  ⟨h.pw.keep (fun i hi => Below.heap_setCell w x v i (by rintro rfl; exact hx hi)) (by simp [World.setCell]), h.ge, h.be.setCell hg v⟩
def LWSpec (w0 w : World) (p : Nat) (as_ : List Nat) (F : Nat → Prop) (r : Int × St) (e : Ending) (w' : World) : Prop :=
  e = .returned (.int .i64 r.1) ∧ ∃ F', LW w0 w' p as_ r.2 F' ∧ Keep F F' w w'
def LWSpec0 (w0 w : World) (p : Nat) (as_ : List Nat) (F : Nat → Prop) (S' : St) (e : Ending) (w' : World) : Prop :=
  e = .returned (.tuple #[]) ∧ ∃ F', LW w0 w' p as_ S' F' ∧ Keep F F' w w'
section
variable {w0 w : World} {p k d : Nat} {as_ : List Nat} {S : St} {F : Nat → Prop}
/-- d.Write(o, []byte(s)) -/
theorem lw_write_conv (h : LW w0 w p as_ S F) (hk : as_[k]? = some d) (o : Int) (s : ByteArray) (n : Nat) (c g : Nat) (hg : g = w.heap.size) (hc : c = convC s w) (hn : s.size = n) (hs : s.size ≤ 70368744177664) (ho : -9223372036854775808 ≤ o ∧ o ≤ 9223372036854775807) :
    Calls Try.prog 67 #[ob d, .int .i64 o, .slice (some ⟨g, 0, none⟩) n c] (convW s w) fun e w' => LWSpec w0 w p as_ F (S.write k o s.data.toList) e w' := by
  subst hc hg
  have h' := h.below (conv_below s w)
  refine (st_writeN h'.pw hk o _ s.data.toList n _ (by rw [str_len]; exact hn) ho (by unfold maxLen; omega) (conv_own s w hs).rd fun ad e => by cases e; exact h.notin (.inr (Nat.le_refl _))).mono ?_
  intro e w' hst
  obtain ⟨h1, F', h2, h3⟩ := h'.st hst
  exact ⟨h1, F', h2, h3.keep.of_below (conv_below s w)⟩
/-- d.Write(o, b), b elsewhere -/
theorem lw_write (h : LW w0 w p as_ S F) (hk : as_[k]? = some d) (o : Int) (A : Option Addr) (b : List UInt8) (n c : Nat) (hn : b.length = n) (hs : n ≤ 70368744177664) (ho : -9223372036854775808 ≤ o ∧ o ≤ 9223372036854775807) (hA : RdB w A b) (hAn : ∀ ad, A = some ad → ¬ F ad.block) :
    Calls Try.prog 67 #[ob d, .int .i64 o, .slice A n c] w fun e w' => LWSpec w0 w p as_ F (S.write k o b) e w' := by
  refine (st_writeN h.pw hk o A b n c hn ho (by unfold maxLen; omega) hA hAn).mono ?_
  intro e w' hst
  obtain ⟨h1, F', h2, h3⟩ := h.st hst
  exact ⟨h1, F', h2, h3.keep⟩
theorem lw_sync (h : LW w0 w p as_ S F) (hk : as_[k]? = some d) :
    Calls Try.prog 70 #[ob d] w fun e w' => LWSpec w0 w p as_ F (S.sync k) e w' := by
  refine (st_sync h.pw hk).mono ?_
  intro e w' hst
  obtain ⟨h1, F', h2, h3⟩ := h.st hst
  exact ⟨h1, F', h2, h3.keep⟩
theorem lw_arm (h : LW w0 w p as_ S F) (n : Int) (hn : -9223372036854775808 ≤ n ∧ n ≤ 9223372036854775807) :
    Calls Try.prog 22 #[ob p, .int .i64 n] w fun e w' => LWSpec0 w0 w p as_ F (S.armed n) e w' := by
  refine (st_arm h.pw n hn).mono ?_
  intro e w' hst
  obtain ⟨h1, F', h2, h3⟩ := h.st0 hst
  exact ⟨h1, F', h2, h3.keep⟩
theorem lw_crash (h : LW w0 w p as_ S F) (picks : List Int) (v : Value) (hv : PickAt w F picks 0 v) (hp : ∀ x ∈ picks, -9223372036854775808 ≤ x ∧ x ≤ 9223372036854775807) :
    Calls Try.prog 23 #[ob p, v] w fun e w' => LWSpec0 w0 w p as_ F (S.crash picks) e w' := by
  refine (st_crash h.pw picks v hv hp).mono ?_
  intro e w' hst
  obtain ⟨h1, F', h2, h3⟩ := h.st0 hst
  exact ⟨h1, F', h2, h3.keep⟩
/-- p.Crash(nil) -/
theorem lw_crash0 (h : LW w0 w p as_ S F) :
    Calls Try.prog 23 #[ob p, .slice none 0 0] w fun e w' => LWSpec0 w0 w p as_ F (S.crash []) e w' :=
  lw_crash h [] _ ⟨none, 0, 0, rfl, rfl, Nat.le_refl _, Nat.zero_le _, RdZ.nil _ _, fun ad e => by cases e⟩ (fun x hx => by simp at hx)
theorem lw_read (h : LW w0 w p as_ S F) (hk : as_[k]? = some d) (o n : Int) (ho : -9223372036854775808 ≤ o ∧ o ≤ 9223372036854775807) (hn : -9223372036854775808 ≤ n ∧ n ≤ 9223372036854775807) :
    Calls Try.prog 16 #[ob d, .int .i64 o, .int .i64 n] w fun e w' => ReadSpec (S.at_ k) S.off o n w e w' := st_read h.pw hk o n ho hn
end
/-- bytes that were read, in new memory -/
def GotSpec (l : List UInt8) (n : Nat) (w : World) (e : Ending) (w' : World) : Prop :=
  ∃ A c, e = .returned (.tuple #[.slice A n c, .int .i64 0]) ∧ OwnB w' w.heap.size A c l ∧ l.length = n ∧ n ≤ c ∧ Below w.heap.size w w'
theorem lw_read_on {w0 w : World} {p k d : Nat} {as_ : List Nat} {S : St} {F : Nat → Prop} (h : LW w0 w p as_ S F) (hk : as_[k]? = some d) (o n : Nat) (oi ni : Int) (hoff : S.off = false) (ho : oi = (o : Int)) (hn : ni = (n : Int)) (hs : o + n ≤ (S.at_ k).size) (hb : (S.at_ k).size ≤ 2097152)
    (l : List UInt8) (hl : ((S.at_ k).rd.drop o).take n = l) :
    Calls Try.prog 16 #[ob d, .int .i64 oi, .int .i64 ni] w fun e w' => GotSpec l n w e w' := by
  obtain ⟨h1, h2⟩ := read_on (D := S.at_ k) hoff ho hn hs
  rw [hl] at h2
  have hln : l.length = n := by
    unfold Dk.size at hs
    rw [← hl, List.length_take, List.length_drop]; omega
  refine (st_read h.pw hk oi ni (by omega) (by omega)).mono ?_
  rintro e w' ⟨A, c, rfl, hown, hb⟩
  rw [h1, h2] at *
  refine ⟨A, c, by rw [hln], hown, hln, ?_, hb⟩
  have := OwnR.cap hown
  omega
/-- one disk, the power on and not armed: each call's answer by the bounds alone -/
theorem solo_write {D : Dk} {n : Nat} (hD : D.size = n) (o : Int) (b : List UInt8) : ∃ D', D'.size = n ∧ (⟨[D], false, -1⟩ : St).write 0 o b = (if inB n o b.length = true then 0 else 1, ⟨[D'], false, -1⟩) := by
  have h0 : (⟨[D], false, -1⟩ : St).at_ 0 = D := rfl
  unfold St.write writeD writeE writeOff writeArm
  rw [h0, hD, useP_on]
  by_cases h : inB n o b.length = true
  · refine ⟨D.write o.toNat b, ?_, by simp [h]⟩
    simp only [inB, decide_eq_true_eq] at h
    rw [write_size _ (by rw [hD]; omega), hD]
  · exact ⟨D, hD, by simp [h]⟩
theorem solo_rot {D : Dk} {n : Nat} (hD : D.size = n) (o : Int) (m : UInt8) : ∃ D', D'.size = n ∧ (⟨[D], false, -1⟩ : St).rot 0 o m = (if inB n o 1 = true then 0 else 1, ⟨[D'], false, -1⟩) := by
  have h0 : (⟨[D], false, -1⟩ : St).at_ 0 = D := rfl
  unfold St.rot rotD rotE
  rw [h0, hD]
  by_cases h : inB n o 1 = true
  · refine ⟨D.rot o.toNat m, ?_, by simp [h]⟩
    show (xorAt D.rd o.toNat m).length = n
    rw [xorAt_length]; exact hD
  · exact ⟨D, hD, by simp [h]⟩
/-- what Read answers, whatever the bounds -/
def GotAny (E : Int) (w : World) (e : Ending) (w' : World) : Prop := ∃ A n c, e = .returned (.tuple #[.slice A n c, .int .i64 E]) ∧ Below w.heap.size w w'
theorem lw_read_any {w0 w : World} {p k d : Nat} {as_ : List Nat} {S : St} {F : Nat → Prop} (h : LW w0 w p as_ S F) (hk : as_[k]? = some d) (o n : Int) (ho : -9223372036854775808 ≤ o ∧ o ≤ 9223372036854775807) (hn : -9223372036854775808 ≤ n ∧ n ≤ 9223372036854775807)
    (E : Int) (hE : readE (S.at_ k) S.off o n = E) : Calls Try.prog 16 #[ob d, .int .i64 o, .int .i64 n] w fun e w' => GotAny E w e w' := by
  refine (st_read h.pw hk o n ho hn).mono ?_
  rintro e w' ⟨A, c, rfl, _, hb⟩
  exact ⟨A, _, c, by rw [hE], hb⟩
theorem cut_mod (cut : Int) (n : Nat) (hn : n ≤ 1048576) : ∃ k : Nat, wrap64 ((IntKind.u64.wrap cut).tmod ((n : Int) + 1)) = (k : Int) ∧ k ≤ n := by
  have h1 : 0 ≤ IntKind.u64.wrap cut := by rw [IntKind.wrap_u64]; omega
  rw [Int.tmod_eq_emod_of_nonneg h1]
  have h2 := Int.emod_nonneg (IntKind.u64.wrap cut) (show (n : Int) + 1 ≠ 0 by omega)
  have h3 := Int.emod_lt_of_pos (IntKind.u64.wrap cut) (show (0 : Int) < (n : Int) + 1 by omega)
  generalize IntKind.u64.wrap cut % ((n : Int) + 1) = m at *
  refine ⟨m.toNat, ?_, by omega⟩
  unfold wrap64
  omega
/-- a cell of the law's own that is none of the disks' -/
theorem step_cell {F F' : Nat → Prop} {w w' : World} {x : Addr} {v : Value} (h : Step F F' w w') (hc : w.cell? x = some v) (hn : ¬ F x.block) : w'.cell? x = some v :=
  (World.cell?_of_block (h.block _ (World.block_lt_of_cell? _ _ hc) hn)).trans hc
theorem below_cell {w w' : World} {x : Addr} {v : Value} (h : Below w.heap.size w w') (hc : w.cell? x = some v) : w'.cell? x = some v :=
  (h.cell (World.block_lt_of_cell? _ _ hc)).trans hc
theorem LW.stay {w0 w w' : World} {p : Nat} {as_ : List Nat} {S S' : St} {F F' : Nat → Prop} (h : LW w0 w p as_ S F) (hs : Step F F' w w') {b : Nat} (hb : b < w.heap.size) (hn : ¬ F b) : ¬ F' b := fun hf => by
  rcases hs.fresh b hf with h1 | h1
  · exact hn h1
  · omega
/-- a crash of a disk without an unsynced sector turns nothing of what is read -/
theorem crashed_synced {D : Dk} (h : D.Ok) (hn : ∀ s, D.new s = false) (picks : List Int) (a : Nat) : D.crashed picks a = D.rd := by
  unfold Dk.crashed
  rw [blend_congr (c' := fun _ => false) (fun s _ => by rw [hn]; rfl)]
  exact blend_false h.rd h.la
theorem uns_synced {D : Dk} (hn : ∀ s, D.new s = false) : D.uns = [] := by
  unfold Dk.uns
  rw [List.filter_eq_nil_iff]
  intro s _
  rw [hn]; simp
theorem xor_twice (l : List UInt8) (o : Nat) (m : UInt8) : xorAt (xorAt l o m) o m = l := by
  apply List.ext_getElem?
  intro i
  rw [xorAt_get, xorAt_get]
  split
  · cases l[i]? <;> simp [UInt8.xor_assoc]
  · rfl
end Go.Proofs.Ytjmhfjioccljeaa
