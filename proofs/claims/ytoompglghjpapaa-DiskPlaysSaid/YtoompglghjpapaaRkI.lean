/-
  The calls of the reference's disks over a power's whole state.
-/
import Derived.Test.YtoompglghjpapaaRkH
namespace Go.Proofs.Ytoompglghjpapaa
open Go.RowKit
set_option linter.unusedVariables false
set_option linter.unusedSimpArgs false

section
variable {w w' : World} {p : Nat} {as_ : List Nat} {S : St} {F : Nat → Prop} {k d : Nat}
theorem turn_in {A : Option Addr} {c nb : Nat} {Fs : Nat → Nat → Prop} {E arm' : Int} {off' : Bool} {D' : Dk} {e : Ending} (hl : as_.length = S.ds.length) (h1 : QwAt w p (as_.zip S.ds) S.off S.arm A c Fs) (h3 : Fs k = rkF d nb) (h4 : (as_.zip S.ds)[k]? = some (d, S.at_ k)) (h5 : ¬ rkF d nb p) (hk : as_[k]? = some d)
    (hs : RtSpec p d nb (.slice A (as_.zip S.ds).length c) E off' arm' D' w e w') (hlo : -1 ≤ arm' ∧ arm' ≤ 9223372036854775807) :
    QtSpec p as_ (pwF p A (as_.zip S.ds).length Fs) (E, ⟨S.ds.set k D', off', arm'⟩) w e w' := by
  obtain ⟨he, hself, nb', hd, hst⟩ := hs
  have hst' : Step (fun i => i = p ∨ Fs k i) (fun i => i = p ∨ rkF d nb' i) w w' := by rw [h3]; exact hst
  obtain ⟨r1, r2⟩ := h1.turn h4 hst' hself hlo ⟨nb', hd, rfl⟩ (fun hp => by
    rcases hp with e1 | e1
    · exact h5 (.inl e1)
    · have hq : Blk w' p 81 _ := hself
      exact Blk.ne_ (w := w') hq hd.bits (by decide) e1)
  rw [zip_set hk] at r1 r2
  exact ⟨he, _, ⟨by simp only [List.length_set]; exact hl, A, c, _, r1, rfl⟩, r2⟩
theorem rt_read (h : QwS w p as_ S F) (hk : as_[k]? = some d) (o n : Int) (ho : -9223372036854775808 ≤ o ∧ o ≤ 9223372036854775807) (hn : -9223372036854775808 ≤ n ∧ n ≤ 9223372036854775807) :
    Calls Try.prog 39 #[ob d, .int .i64 o, .int .i64 n] w fun e w' => e = .returned (.tuple #[.string (bs (readB (S.at_ k) S.off o n)), .int .i64 (readE (S.at_ k) S.off o n)]) ∧ w = w' := by
  obtain ⟨A, c, Fs, nb, h1, h2, _⟩ := h.open_ hk
  exact rread_at o n w h2 h1.self ho hn
theorem rt_uns (h : QwS w p as_ S F) (hk : as_[k]? = some d) : Calls Try.prog 46 #[ob d] w fun e w' => UnsSpec (S.at_ k) w e w' := by
  obtain ⟨A, c, Fs, nb, h1, h2, _⟩ := h.open_ hk
  exact runs_at w h2
theorem useP_lo {off : Bool} {arm : Int} (h : -1 ≤ arm ∧ arm ≤ 9223372036854775807) : -1 ≤ (useP off arm).2.2 ∧ (useP off arm).2.2 ≤ 9223372036854775807 := by
  unfold useP
  split
  · exact h
  · simp only; split <;> omega
theorem rt_write (h : QwS w p as_ S F) (hk : as_[k]? = some d) (o : Int) (B : ByteArray) (ho : -9223372036854775808 ≤ o ∧ o ≤ 9223372036854775807) (hB : B.size ≤ maxLen) :
    Calls Try.prog 40 #[ob d, .int .i64 o, .string B] w fun e w' => QtSpec p as_ F (S.write k o B.data.toList) w e w' := by
  obtain ⟨A, c, Fs, nb, h1, h2, h3, rfl, h4, h5⟩ := h.open_ hk
  refine (rwrite_at o B w h2 h1.self h1.lo h5 ho hB).mono ?_
  intro e w' hs
  refine turn_in h.1 h1 h3 h4 h5 hk hs ?_
  unfold writeArm
  split
  · exact useP_lo h1.lo
  · exact h1.lo
theorem rt_sync (h : QwS w p as_ S F) (hk : as_[k]? = some d) : Calls Try.prog 41 #[ob d] w fun e w' => QtSpec p as_ F (S.sync k) w e w' := by
  obtain ⟨A, c, Fs, nb, h1, h2, h3, rfl, h4, h5⟩ := h.open_ hk
  refine (rsync_at w h2 h1.self h1.lo h5).mono ?_
  intro e w' hs
  exact turn_in h.1 h1 h3 h4 h5 hk hs (useP_lo h1.lo)
theorem rt_rot (h : QwS w p as_ S F) (hk : as_[k]? = some d) (o : Int) (m : UInt8) (mi : Int) (hm : mi = (m.toNat : Int)) (ho : -9223372036854775808 ≤ o ∧ o ≤ 9223372036854775807) :
    Calls Try.prog 42 #[ob d, .int .i64 o, .int .u8 mi] w fun e w' => QtSpec p as_ F (S.rot k o m) w e w' := by
  subst hm
  obtain ⟨A, c, Fs, nb, h1, h2, h3, rfl, h4, h5⟩ := h.open_ hk
  refine (rrot_at o m w h2 h1.self h5 ho).mono ?_
  intro e w' hs
  exact turn_in h.1 h1 h3 h4 h5 hk hs h1.lo
theorem rt_arm (h : QwS w p as_ S F) (n : Int) (hn : -9223372036854775808 ≤ n ∧ n ≤ 9223372036854775807) : Calls Try.prog 43 #[ob p, .int .i64 n] w fun e w' => QtSpec0 p as_ F (S.armed n) w e w' := by
  obtain ⟨hl, A, c, Fs, h, rfl⟩ := h
  refine (rarm_any p _ S.off S.arm n w h.self hn).mono ?_
  rintro e w' ⟨rfl, hs1, hst⟩
  obtain ⟨r1, r2⟩ := h.reself (off' := S.off) (arm' := max n (-1)) hst hs1 (by omega)
  exact ⟨rfl, _, ⟨hl, A, c, Fs, r1, rfl⟩, r2⟩
theorem rt_crash (h : QwS w p as_ S F) (picks : List Int) (B : Option Addr) (n c : Nat) (hn : picks.length = n) (hr : RdZ w B picks) (hB : ∀ x, B = some x → 0 < picks.length → ¬ F x.block) (hl : n ≤ maxLen) :
    Calls Try.prog 44 #[ob p, .slice B n c] w fun e w' => QtSpec0 p as_ F (S.crash picks) w e w' := by
  subst hn
  refine (rcrash_any picks B c w h.2 hr hB hl).mono ?_
  rintro e w' ⟨rfl, F', h1, h2⟩
  refine ⟨rfl, F', ⟨?_, ?_⟩, h2⟩
  · simp only [St.crash, crashD_length]; exact h.1
  · rw [zip_crash, h.1, List.take_length] at h1
    exact h1
theorem rt_put (h : QwS w p as_ S F) (m : Nat) (i : Int) (hi : i = ((128 * m : Nat) : Int)) (hm : 0 < m ∧ m ≤ 16384) (hds : as_.length < 1000) :
    Calls Try.prog 38 #[ob p, .int .i64 i] w fun e w' => ∃ d F', e = .returned (.tuple #[ob d, .int .i64 0]) ∧ QwS w' p (as_ ++ [d]) ⟨S.ds ++ [Dk.fresh m], S.off, S.arm⟩ F' ∧ Step F F' w w' ∧ w.heap.size ≤ d := by
  subst hi
  refine (rput_ok m w h.2 hm (by simp; omega)).mono ?_
  rintro e w' ⟨d, F', rfl, h1, h2, h3⟩
  refine ⟨d, F', rfl, ⟨by simp [h.1], ?_⟩, h2, h3⟩
  rw [List.zip_append h.1]
  exact h1
/-- the power's field Off -/
theorem QwS.off_cell (h : QwS w p as_ S F) : w.cell? ⟨p, 1, none⟩ = some (.bool S.off) := by
  obtain ⟨hl, A, c, Fs, h, rfl⟩ := h
  have := h.self.cell 1
  simpa using this
/-- a disk's field Read -/
theorem QwS.read_cell (h : QwS w p as_ S F) (hk : as_[k]? = some d) : w.cell? ⟨d, 1, none⟩ = some (.string (bs (S.at_ k).rd)) := by
  obtain ⟨A, c, Fs, nb, h1, h2, _⟩ := h.open_ hk
  have := h2.self.cell 1
  simpa using this
end
end Go.Proofs.Ytoompglghjpapaa
