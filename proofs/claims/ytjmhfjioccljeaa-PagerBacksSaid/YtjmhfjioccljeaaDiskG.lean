/-
  Walks of package disk: Crash.
-/
import Derived.Test.YtjmhfjioccljeaaDiskF
import Derived.Test.YtjmhfjioccljeaaDkC
namespace Go.Proofs.Ytjmhfjioccljeaa
open Go.RowKit
set_option linter.unusedVariables false
set_option linter.unusedSimpArgs false
attribute [local go_sem ↓] Go.wp_at_zero Go.wp_at_succ

theorem zip_len (D : Dk) : (D.uns.map fun s : Nat => (s : Int)).length = D.uns.length := by simp
theorem zip_get (D : Dk) (j : Nat) (hj : j < D.uns.length) : (D.uns.map fun s : Nat => (s : Int)).getD j 0 = ((D.uns.getD j 0 : Nat) : Int) := by simp [List.getD, hj]
/-- the picks from a on, as they are cut round after round -/
def PickAt (w : World) (F : Nat → Prop) (picks : List Int) (a : Nat) (v : Value) : Prop :=
  ∃ B L c, v = .slice B L c ∧ (picks.drop a).length = L ∧ L ≤ c ∧ c ≤ maxLen ∧ RdZ w B (picks.drop a) ∧ ∀ ad, B = some ad → ¬ F ad.block
theorem drop_odd (picks : List Int) (a : Nat) : oddAt picks a = decide (0 < (picks.drop a).length ∧ (picks.drop a).getD 0 0 % 2 ≠ 0) := by
  unfold oddAt
  rw [decide_eq_decide]
  have e : (picks.drop a).getD 0 0 = picks.getD a 0 := by simp [List.getD]
  rw [e, List.length_drop]
  omega
theorem drop_more (picks : List Int) (a : Nat) : picks.drop (a + 1) = (picks.drop a).drop 1 := by rw [List.drop_drop]
/-- 'picks[min(1, len(picks)):]', some left -/
theorem PickAt.next {w : World} {F : Nat → Prop} {picks : List Int} {a L c : Nat} {ad : Addr} (hL : (picks.drop a).length = L) (hc : L ≤ c) (hm : c ≤ maxLen) (hr : RdZ w (some ad) (picks.drop a)) (hB : ¬ F ad.block) (h0 : 0 < L) {AD : Option Addr}
    (hAD : (c = 1 ∧ AD = some ad) ∨ (c ≠ 1 ∧ AD = some (ad.add 1))) : PickAt w F picks (a + 1) (.slice AD (L - 1) (c - 1)) := by
  have e := drop_more picks a
  have el : (picks.drop (a + 1)).length = L - 1 := by rw [e, List.length_drop]; omega
  refine ⟨AD, L - 1, c - 1, rfl, el, by omega, by omega, ?_, ?_⟩
  · rcases hAD with ⟨h1, _⟩ | ⟨h1, h2⟩
    · have : picks.drop (a + 1) = [] := List.eq_nil_of_length_eq_zero (by omega)
      rw [this]; exact RdZ.nil _ _
    · rw [h2, e]
      exact hr.tail 1
  · intro ad' he
    rcases hAD with ⟨_, h2⟩ | ⟨_, h2⟩
    · rw [h2] at he; cases he; exact hB
    · rw [h2] at he; cases he; rw [block_of_add]; exact hB
/-- .. none left -/
theorem PickAt.none_ {w : World} {F : Nat → Prop} {picks : List Int} {a c : Nat} {B : Option Addr} (hL : (picks.drop a).length = 0) (hm : c ≤ maxLen) (hB : ∀ ad, B = some ad → ¬ F ad.block) : PickAt w F picks (a + 1) (.slice B 0 c) := by
  have e0 : picks.drop a = [] := List.eq_nil_of_length_eq_zero hL
  have e : picks.drop (a + 1) = [] := by rw [drop_more, e0]; rfl
  exact ⟨B, 0, c, rfl, by rw [e]; rfl, Nat.zero_le _, hm, by rw [e]; exact RdZ.nil _ _, hB⟩
theorem grown_trans {a b c : World} {row : Option Nat} (h : a.grownBy b row) (k : b.grownBy c row) : a.grownBy c row :=
  ⟨k.os.trans h.os, k.tape.trans h.tape, k.output.trans h.output, Nat.le_trans h.size k.size, fun i hi hn => (k.block i (Nat.lt_of_lt_of_le hi h.size) hn).trans (h.block i hi hn)⟩
theorem grown_undrew {a b : World} {row : Option Nat} (h : a.drew.grownBy b row) : a.grownBy b row := ⟨h.os, h.tape, h.output, h.size, h.block⟩
theorem pick_cell {F F' : Nat → Prop} {w w1 wr : World} {fb : Nat} {bd : Addr} {v : Value} (hst : Step F F' w w1) (hfb : F' fb) (hgr : w1.grownBy wr (some fb)) (hn : ¬ F bd.block) (cb : w.cell? bd = some v) : wr.cell? bd = some v := by
  have hlt := World.block_lt_of_cell? _ _ cb
  have hne : bd.block ≠ fb := fun e => by
    rcases hst.fresh fb hfb with h1 | h1
    · exact hn (by rw [e]; exact h1)
    · omega
  exact (World.cell?_of_block (hgr.block _ (Nat.lt_of_lt_of_le hlt hst.size) (by simpa using hne))).trans ((World.cell?_of_block (hst.block _ hlt hn)).trans cb)
theorem pick_if (c : Nat) (bd : Addr) : (c = 1 ∧ (if c = 1 then some bd else some ⟨bd.block, bd.off + 1, none⟩) = some bd) ∨ (c ≠ 1 ∧ (if c = 1 then some bd else some ⟨bd.block, bd.off + 1, none⟩) = some (bd.add 1)) := by
  by_cases h : c = 1
  · exact .inl ⟨h, if_pos h⟩
  · refine .inr ⟨h, ?_⟩
    rw [if_neg h, add_pos bd 1 (by omega)]
theorem addr_add0 (a : Addr) : a.add 0 = a := by unfold Addr.add; simp
theorem cut0 (B : Option Addr) (c : Nat) : Value.slice (if c = (min 1 0 : Int).toNat then B else Option.map (fun x => x.add (min 1 0 : Int).toNat) B) 0 (c - (min 1 0 : Int).toNat) = .slice B 0 c := by
  have e : (min 1 0 : Int).toNat = 0 := rfl
  rw [e]
  have e2 : Option.map (fun x : Addr => x.add 0) B = B := by cases B <;> simp [addr_add0]
  rw [e2, ite_self, Nat.sub_zero]
/-- the power's own cells turn -/
theorem PwAt.reself {w w' : World} {p c : Nat} {ds : List (Nat × Dk)} {off off' : Bool} {arm arm' lf lf' : Int} {A : Option Addr} {Fs : Nat → Nat → Prop} (h : PwAt w p ds off arm A c lf Fs) (hs : Step (one p) (one p) w w')
    (hself : Blk w' p 117 #[.slice A ds.length c, .bool off', .bool (decide (0 ≤ arm')), .int .i64 lf']) (hl : 0 ≤ arm' → lf' = arm') (hlo : -1 ≤ arm' ∧ arm' ≤ 9223372036854775807) :
    PwAt w' p ds off' arm' A c lf' Fs ∧ Step (pwF p A ds.length Fs) (pwF p A ds.length Fs) w w' := by
  refine ⟨⟨hself, hl, hlo, OwnR.block h.row fun b hb => hs.block b (OwnR.lt h.row b hb).2 (fun e => own_blk_ne (w := w) h.row h.self (by decide) (by rw [ownBlock_slice, ← (show b = p from e)]; exact hb)), fun k x hx => ?_, h.apart, h.notp, h.nota, h.few⟩,
    hs.wide (fun i hi => .inl hi) fun i hi => .inr hi⟩
  have hkl := (List.getElem?_eq_some_iff.1 hx).1
  exact (h.disk k x hx).keep (hs.same (fun i hi he => h.notp k hkl (by rw [← (show i = p from hi)]; exact he)) (h.disk k x hx).lt) hs.size
/-- disk k's place in the row -/
theorem PwAt.cellk {w : World} {p c : Nat} {ds : List (Nat × Dk)} {off : Bool} {arm lf : Int} {A : Option Addr} {Fs : Nat → Nat → Prop} (h : PwAt w p ds off arm A c lf Fs) {k : Nat} {x : Nat × Dk} (hk : ds[k]? = some x) :
    ∃ ad, A = some ad ∧ w.cell? (ad.add k) = some (ob x.1) := by
  refine OwnR.cellAt h.row k (ob x.1) ?_
  rw [List.getElem?_map, hk]; rfl
def CrashSpec (p : Nat) (ds : List (Nat × Dk)) (picks : List Int) (F : Nat → Prop) (w : World) (e : Ending) (w' : World) : Prop :=
  e = .returned (.tuple #[]) ∧ ∃ F', PwR w' p (crashL picks 0 ds) false (-1) F' ∧ Step F F' w w'
/-- behind the first k disks -/
def COut (p c : Nat) (ds : List (Nat × Dk)) (off : Bool) (arm lf : Int) (A : Option Addr) (Fs : Nat → Nat → Prop) (picks : List Int) (k : Nat) (w wr : World) : Prop :=
  ∃ Fs', PwAt wr p (crashTo picks ds k) off arm A c lf Fs' ∧ Step (pwF p A ds.length Fs) (pwF p A (crashTo picks ds k).length Fs') w wr
/-- what turns while one disk's sectors are gone through -/
def CIn (fb : Nat) (D : Dk) (picks : List Int) (a j : Nat) (w1 wr : World) : Prop := Blk wr fb 5 (bc (D.mid picks a j)).toArray ∧ w1.grownBy wr (some fb)
/-- disk k has crashed -/
theorem crash_turn {w w1 wr w5 : World} {p c k d fb mb : Nat} {D : Dk} {ds : List (Nat × Dk)} {og oc : Nat → Nat} {off : Bool} {arm lf : Int} {A : Option Addr} {Fs Fs' : Nat → Nat → Prop} {picks : List Int}
    (hst : Step (pwF p A ds.length Fs) (pwF p A (crashTo picks ds k).length Fs') w w1) (hpw : PwAt w1 p (crashTo picks ds k) off arm A c lf Fs') (hx : ds[k]? = some (d, D)) (hd : DkAt w1 p d D fb mb og oc) (hF : Fs' k = dkF D d fb mb og)
    (hc : CIn fb D picks (taken ds k) D.uns.length w1 wr) (hm : MapAt w5 3 mb D.nw.length (fun _ => none)) (hg : wr.grownBy w5 (some mb)) : COut p c ds off arm lf A Fs picks (k + 1) w w5 := by
  obtain ⟨hk, _⟩ := List.getElem?_eq_some_iff.1 hx
  have hat := crashTo_at picks ds k hk
  rw [hx] at hat
  obtain ⟨hb, hgr⟩ := hc
  rw [mid_all hd.ok] at hb
  have hok : Dk.Ok ⟨D.crashed picks (taken ds k), D.la, D.nw⟩ := by
    have := mid_ok hd.ok picks (taken ds k) D.uns.length
    rwa [mid_all hd.ok] at this
  obtain ⟨r1, r2⟩ := hd.setrd hb hgr hok
  obtain ⟨q1, q2⟩ := r1.cleared (D' := D.crash picks (taken ds k)) hm hg rfl rfl (crash_ok hd.ok picks _)
  have hs1 : Step (dkF D d fb mb og) (dkF (D.crash picks (taken ds k)) d fb mb og) w1 w5 := r2.trans q2
  have hpn : ¬ dkF D d fb mb og p := by rw [← hF]; exact hpw.notp k (List.getElem?_eq_some_iff.1 hat).1
  have hself : Blk w5 p 117 _ := (hs1.block p hpw.self.lt hpn).trans hpw.self
  have hstep : Step (fun i => i = p ∨ Fs' k i) (fun i => i = p ∨ dkF (D.crash picks (taken ds k)) d fb mb og i) w1 w5 := by
    rw [hF]; exact hs1.frameL (one p)
  obtain ⟨t1, t2⟩ := hpw.turn hat hstep hself hpw.left hpw.lo ⟨fb, mb, og, oc, q1, rfl⟩ (fun h => by
    rcases hs1.fresh p h with h1 | h1
    · exact hpn h1
    · have := hpw.self.lt; omega)
  rw [crashTo_succ picks ds k hx] at t1 t2
  exact ⟨_, t1, hst.trans t2⟩
set_option maxRecDepth 100000 in
set_option maxHeartbeats 2000000 in
theorem crash_any {p : Nat} {ds : List (Nat × Dk)} {off : Bool} {arm : Int} {F : Nat → Prop} (picks : List Int) (v : Value) (w : World) (h : PwR w p ds off arm F) (hv : PickAt w F picks 0 v) (hp : ∀ x ∈ picks, -9223372036854775808 ≤ x ∧ x ≤ 9223372036854775807) :
    Calls Try.prog 23 #[ob p, v] w fun e w' => CrashSpec p ds picks F w e w' := by
  obtain ⟨A, c, lf, Fs, h, rfl⟩ := h
  have c0 := h.self.cell 0
  simp at c0
  have hn : ds.length ≤ 1000 := h.few
  have HH := Lib.hid h
  have HV := Lib.hid hv
  have HPK := Lib.hid hp
  clear h hv hp
  obtain ⟨n, hnn⟩ : ∃ n, ds.length = n := ⟨_, rfl⟩
  have HN : Hid (ds.length = n) := Lib.hid hnn
  rw [hnn] at c0 hn
  clear hnn
  go_enter Try.func23, Try.ntmps23
  go_wp2_with fail
  go_loopw [1, 15] (fun b i wr => ∃ k : Nat, i = .int .i64 (k : Int) ∧ k ≤ n ∧ Hid (PickAt w (pwF p A ds.length Fs) picks (taken ds k) b) ∧ Hid (COut p c ds off arm lf A Fs picks k w wr)) (fun _ i _ => n - (RowKit.intOf i).toNat)
  case atStart => exact ⟨0, rfl, Nat.zero_le _, HV, Lib.hid ⟨Fs, by rw [crashTo_zero]; exact HH.out, by rw [crashTo_zero]; exact Step.refl _ _⟩⟩
  case round =>
    obtain ⟨k, rfl, hk, HB, HC⟩ := hrel
    by_cases hlt : k < n
    · obtain ⟨Fs', hpw, hst⟩ := HC.out
      have hkl : k < ds.length := by rw [HN.out]; exact hlt
      have hg := crashTo_at picks ds k hkl
      obtain ⟨⟨d, D⟩, hx⟩ : ∃ x, ds[k]? = some x := ⟨_, List.getElem?_eq_getElem hkl⟩
      rw [hx] at hg
      obtain ⟨ad, rfl, cd⟩ := hpw.cellk hg
      obtain ⟨fb, mb, og, oc, hdk, hfk⟩ := hpw.disk k _ hg
      have cd : wr.cell? (ad.add k) = some (ob d) := cd
      have hdk : DkAt wr p d D fb mb og oc := hdk
      have HKL : Hid (k < (crashTo picks ds k).length) := Lib.hid (by rw [crashTo_length _ _ _ (by omega)]; exact hkl)
      have HPW := Lib.hid hpw
      have HST := Lib.hid hst
      have HX := Lib.hid hx
      have HDK := Lib.hid hdk
      have HFK := Lib.hid hfk
      clear hpw hst hkl hg hx hfk HC
      go_wp2_with fail
      refine (uns_at wr HDK.out).mono ?_
      rintro e w1 ⟨UA, uc, rfl, hown, hb⟩
      have HB1 := Lib.hid hb
      have HU : Hid (RdZ w1 UA (D.uns.map fun s : Nat => (s : Int))) := Lib.hid (OwnZ.rd (base := wr.heap.size) (c := uc) (by unfold OwnZ; rw [zip_len]; exact hown))
      have HUG : Hid (∀ x, UA = some x → x.block ≠ fb) := Lib.hid fun x hx => by
        have h1 := (OwnR.lt hown x.block (by rw [hx]; rfl)).1
        have h2 := HDK.out.data.lt
        omega
      have HPW1 : Hid (PwAt w1 p (crashTo picks ds k) off arm (some ad) c lf Fs') := Lib.hid (HPW.out.keep (Same.of_below hb HPW.out.lt) hb.size)
      have HST1 := Lib.hid (HST.out.then_below hb)
      have HD1 : Hid (DkAt w1 p d D fb mb og oc) := Lib.hid (HDK.out.keep (Same.of_below hb HDK.out.lt) hb.size)
      clear hown hb hdk HPW HST HB1 HDK
      go_wp2_with fail
      go_loopw [1, 22] (fun b i wr => ∃ j : Nat, i = .int .i64 (j : Int) ∧ j ≤ D.uns.length ∧ Hid (PickAt w (pwF p (some ad) ds.length Fs) picks (taken ds k + j) b) ∧ Hid (CIn fb D picks (taken ds k) j w1 wr)) (fun _ i _ => D.uns.length - (RowKit.intOf i).toNat)
      case atStart => exact ⟨0, rfl, Nat.zero_le _, HB, Lib.hid ⟨by rw [mid_zero HD1.out.ok]; exact HD1.out.data, ⟨rfl, rfl, rfl, Nat.le_refl _, fun _ _ _ => rfl⟩⟩⟩
      case round =>
        clear HB
        obtain ⟨j, rfl, hj, HB, HC⟩ := hrel
        obtain ⟨hmid, hgr⟩ := HC.out
        by_cases hjl : j < D.uns.length
        · obtain ⟨un1, un2, un3⟩ := uns_get D hjl
          obtain ⟨s, hs⟩ : ∃ s, D.uns.getD j 0 = s := ⟨_, rfl⟩
          have HS : Hid (D.uns.getD j 0 = s) := Lib.hid hs
          rw [hs] at un1 un2 un3
          have hr2 := HD1.out.self.cell 2
          have hself : Blk wr d 120 _ := (hgr.block d HD1.out.self.lt (by
            have := Blk.ne_ HD1.out.self HD1.out.data (by decide)
            simpa using this)).trans HD1.out.self
          have g2 := hself.cell 2
          simp at g2
          have hz : D.size = 128 * D.nw.length := HD1.out.size
          obtain ⟨z, hzz⟩ : ∃ z, D.size = z := ⟨_, rfl⟩
          rw [hzz] at hself hz
          have HSELF : Hid (DkSelf wr p d fb z mb) := Lib.hid hself
          have hs2 : 128 * s + 128 ≤ z := by omega
          have hzl : z ≤ 2097152 := by have := HD1.out.lim; omega
          have HMAP : Hid (MapAt wr 3 mb D.nw.length (oldF D og oc)) := Lib.hid (HD1.out.map.keep (hgr.block mb HD1.out.map.lt (by
            have := Blk.ne_map HD1.out.data HD1.out.map
            simpa using Ne.symm this)))
          have HOLD : Hid (OwnB wr 0 (some ⟨og s, 0, none⟩) (oc s) (sec D.la s)) := Lib.hid (OwnR.block (HD1.out.old s un1) fun q hq => by
            have hq' : q = og s := by simpa [blk] using hq.symm
            subst hq'
            exact hgr.block _ (OwnR.lt (HD1.out.old s un1) _ rfl).2 (by simpa using HD1.out.far s un1))
          have hlk := HMAP.out.look Try.underlying3 Try.underlying118 (zero_bytes _) s (by omega)
          have e1 : oldF D og oc s = some (oldV og oc s) := by unfold oldF; rw [if_pos un1]
          rw [e1] at hlk
          simp only [Option.getD_some] at hlk
          have hlk : (Instr.lookup 118 (.map (some mb)) (.int .i64 (s : Int)) false).run Try.prog wr.drew = .ok (oldV og oc s) wr.drew := by
            have := (show MapAt wr.drew 3 mb D.nw.length (oldF D og oc) from HMAP.out).look Try.underlying3 Try.underlying118 (zero_bytes _) s (by omega)
            rw [e1] at this
            exact this
          unfold oldV at hlk
          have hzl2 : (sec D.la s).length = 128 := sec_length HD1.out.ok.la un2
          have hml := mid_length HD1.out.ok picks (taken ds k) j
          obtain ⟨w4, hcp, hb4, hg4⟩ := run_copyB (w := wr.drew) 3 128 (z - 128 * s) 128 (oc s) fb (128 * s) (D.mid picks (taken ds k) j) (sec D.la s) hmid (by rw [hzl2]; rfl) (by omega) (OwnB.rd HOLD.out) (by omega)
          rw [hzl2] at hcp
          have hcp : ∀ ty, (Builtin.copy_ #[37, 37] ty #[.slice (some ⟨fb, 128 * s, none⟩) 128 (z - 128 * s), .slice (some ⟨og s, 0, none⟩) 128 (oc s)]).run Try.prog wr.drew = .ok (.int .i64 128) w4 := hcp
          have hjU : D.uns.length ≤ 16384 := by
            have h1 := keysOf_le (oldF D og oc) D.nw.length
            rw [keys_uns] at h1
            have := HD1.out.lim
            omega
          have HDL : Hid (d < wr.heap.size) := Lib.hid (Nat.lt_of_lt_of_le HD1.out.self.lt hgr.size)
          have HDF : Hid (d ≠ fb) := Lib.hid (Blk.ne_ HD1.out.self HD1.out.data (by decide))
          have HMIDE := Lib.hid (mid_even HD1.out.ok picks (taken ds k) hjl)
          have HMIDO := Lib.hid (mid_odd HD1.out.ok picks (taken ds k) hjl)
          rw [HS.out] at HMIDE
          obtain ⟨ua, rfl⟩ : ∃ ua, UA = some ua := by
            obtain ⟨x, hx, _⟩ := HU.out (by rw [zip_len]; omega)
            exact ⟨x, hx⟩
          have cu : wr.cell? (ua.add j) = some (.int .i64 (s : Int)) := by
            obtain ⟨x, hx, hc⟩ := (HU.out.grown hgr fun x hx => by have := HUG.out x hx; simpa using this).at_ (k := j) (by rw [zip_len]; exact hjl)
            cases hx
            rw [hc, zip_get D j hjl, HS.out]
          obtain ⟨B, L, cB, rfl, hL, hLc, hcm, hBr, hBn⟩ := HB.out
          have HBR := Lib.hid hBr
          have HBN := Lib.hid hBn
          have HL := Lib.hid hL
          have HB4 := Lib.hid hb4
          have HG4 := Lib.hid hg4
          have HGR := Lib.hid hgr
          have HMID := Lib.hid hmid
          clear hs HB HC hmid hgr hr2 hself hzz hz e1 hzl2 hml hBr hBn hL hb4 hg4 un2 un3 un1
          by_cases hL0 : L = 0
          · subst hL0
            go_wp2_with fail
            go_region_held3 (fun W : World => W.cell? ⟨d, 2, none⟩ = some (.map (some mb))) (first | exact g2 | exact (World.cell?_of_block (a := ⟨d, 2, none⟩) (HG4.out.block d HDL.out (by simpa using HDF.out))).trans g2) (first | (go_at_call 77; refine (sector_any p d fb mb z s _ (Blk.drew HSELF.out) hzl hs2).mono ?_; rintro e w' ⟨rfl, rfl⟩))
            all_goals
              clear hlk hcp
              go_simp
              go_wp2_with fail
              rw [cut0]
              have ho : oddAt picks (taken ds k + j) = false := by rw [drop_odd, HL.out]; simp
              refine ⟨⟨j + 1, int_eq (by omega), by omega, Lib.hid (PickAt.none_ HL.out hcm HBN.out), Lib.hid ⟨by rw [← HMIDE.out ho]; exact HB4.out, grown_trans HGR.out (grown_undrew HG4.out)⟩⟩, by simp [RowKit.intOf]; omega⟩
          · have hL1 : 0 < L := by omega
            obtain ⟨bd, rfl⟩ : ∃ bd, B = some bd := by
              obtain ⟨x, hx, _⟩ := HBR.out (by rw [HL.out]; exact hL1)
              exact ⟨x, hx⟩
            obtain ⟨_, e, cb⟩ := HBR.out.at_ (k := 0) (by rw [HL.out]; exact hL1)
            cases e
            rw [addr_add0] at cb
            have HX2 : Hid ((picks.drop (taken ds k + j)).getD 0 0 ∈ picks) := Lib.hid (by
              rw [getD_eq _ _ _ (by rw [HL.out]; exact hL1)]
              exact List.mem_of_mem_drop (List.getElem_mem _))
            have HO : Hid (oddAt picks (taken ds k + j) = decide ((picks.drop (taken ds k + j)).getD 0 0 % 2 ≠ 0)) := Lib.hid (by
              rw [drop_odd, HL.out, decide_eq_decide]; exact ⟨fun h => h.2, fun h => ⟨hL1, h⟩⟩)
            obtain ⟨x, hx⟩ : ∃ x, (picks.drop (taken ds k + j)).getD 0 0 = x := ⟨_, rfl⟩
            rw [hx] at HX2 HO cb
            have cb := pick_cell HST1.out (.inr (.inr ⟨k, HKL.out, by rw [HFK.out]; exact .inr (.inl rfl)⟩)) HGR.out (HBN.out _ rfl) cb
            have hxr := HPK.out x HX2.out
            have hax := and_one x hxr
            have hLz : ((L : Int) == 0) = false := by rw [beq_eq_false_iff_ne]; omega
            have hmin : (min 1 (L : Int)) = 1 := by omega
            clear hx HX2
            by_cases hev : x % 2 = 0
            · have hevb : (x % 2 == 0) = true := by simpa using hev
              have HEV : Hid (oddAt picks (taken ds k + j) = false) := Lib.hid (by rw [HO.out]; simpa using hev)
              clear HO hev
              go_wp2_with fail
              go_region_held3 (fun W : World => W.cell? ⟨d, 2, none⟩ = some (.map (some mb))) (first | exact g2 | exact (World.cell?_of_block (a := ⟨d, 2, none⟩) (HG4.out.block d HDL.out (by simpa using HDF.out))).trans g2) (first | (go_at_call 77; refine (sector_any p d fb mb z s _ (Blk.drew HSELF.out) hzl hs2).mono ?_; rintro e w' ⟨rfl, rfl⟩))
              all_goals
                clear hlk hcp
                go_simp
                go_wp2_with fail
                refine ⟨⟨j + 1, int_eq (by omega), by omega, Lib.hid (PickAt.next HL.out hLc hcm HBR.out (HBN.out _ rfl) hL1 (pick_if cB bd)), Lib.hid ⟨by rw [← HMIDE.out HEV.out]; exact HB4.out, grown_trans HGR.out (grown_undrew HG4.out)⟩⟩, by simp [RowKit.intOf]; omega⟩
            · have hevb : (x % 2 == 0) = false := by simpa using hev
              have HEV : Hid (oddAt picks (taken ds k + j) = true) := Lib.hid (by rw [HO.out]; simpa using hev)
              clear HO hev
              go_wp2_with fail
              refine ⟨⟨j + 1, int_eq (by omega), by omega, Lib.hid (PickAt.next HL.out hLc hcm HBR.out (HBN.out _ rfl) hL1 (pick_if cB bd)), Lib.hid ⟨by rw [HMIDO.out HEV.out]; exact HMID.out, HGR.out⟩⟩, by simp [RowKit.intOf]; omega⟩
        · have hje : j = D.uns.length := by omega
          subst hje
          have hself : Blk wr d 120 _ := (hgr.block d HD1.out.self.lt (by
            have := Blk.ne_ HD1.out.self HD1.out.data (by decide)
            simpa using this)).trans HD1.out.self
          have g2 := hself.cell 2
          simp at g2
          have hmap : MapAt wr 3 mb D.nw.length (oldF D og oc) := HD1.out.map.keep (hgr.block mb HD1.out.map.lt (by
            have := Blk.ne_map HD1.out.data HD1.out.map
            simpa using Ne.symm this))
          obtain ⟨w5, hcl, hm5, hg5, _⟩ := hmap.clear Try.underlying118
          have HOUT := Lib.hid (crash_turn HST1.out HPW1.out HX.out HD1.out HFK.out HC.out hm5 hg5)
          have HT : Hid (taken ds k + D.uns.length = taken ds (k + 1)) := Lib.hid (by rw [taken_succ ds k HX.out, uns_length])
          rw [HT.out] at HB
          have hkn : k < 1000 := by omega
          clear hself hmap hm5 hg5 hmid hgr HC hjl hj
          go_wp2_with fail
          exact ⟨⟨k + 1, int_eq (by omega), by omega, HB, HOUT⟩, by simp [RowKit.intOf]; omega⟩
    · obtain ⟨Fs', hpw, hst⟩ := HC.out
      have e1 := hpw.self.cell 1
      have e2 := hpw.self.cell 2
      have f1 := hpw.self.frozen 1
      have f2 := hpw.self.frozen 2
      simp at e1 e2
      have HPW := Lib.hid hpw
      have HST := Lib.hid hst
      have HKN : Hid (ds.length ≤ k) := Lib.hid (by rw [HN.out]; omega)
      clear hpw hst HB HC
      go_wp2_with fail
      go_end0
      have hpw := HPW.out
      have hst := HST.out
      rw [crashTo_all _ _ _ HKN.out] at hpw hst
      have hself : Blk ((wr.setCell ⟨p, 1, none⟩ (.bool false)).setCell ⟨p, 2, none⟩ (.bool false)) p 117 #[.slice A (crashL picks 0 ds).length c, .bool false, .bool (decide ((0 : Int) ≤ -1)), .int .i64 lf] := by
        simpa using (hpw.self.set_ 1 (.bool false)).set_ 2 (.bool false)
      obtain ⟨r1, r2⟩ := hpw.reself (Step.setCell (a := ⟨p, 2, none⟩) (Step.setCell (a := ⟨p, 1, none⟩) (Step.refl (one p) _) (.inl rfl) _) (.inl rfl) _) hself (by omega) (by omega)
      exact ⟨rfl, _, ⟨A, c, lf, Fs', r1, rfl⟩, hst.trans r2⟩
end Go.Proofs.Ytjmhfjioccljeaa
