/-
  PD: PgF PgG PgH PgI PgJ RiT PgK PgL
-/
import Derived.Test.YtjmhfjioccljeaaPC
import Derived.Test.YtjmhfjioccljeaaConv
import Derived.Deep.DeepMust
import Derived.Test.YtjmhfjioccljeaaJrC
import Derived.RangeFuncWrites
import Derived.RangeFuncNested
import Derived.RangeFuncLeaves
import Derived.Shelf.Abstract
import Derived.WalkKit
import Derived.OwnWalkIn
import Derived.TacticsInMore
import Derived.LoopNIn
import Derived.LoopIn
import Derived.RangeFuncCalls
import Derived.StillTail
import Derived.CallsIn
import Derived.ControlIn
import Derived.TacticsIn
import Derived.StillTailTactics
/-
  Walk of package pager: Checkpoint.
-/
namespace Go.Proofs.Ytjmhfjioccljeaa
open Go.RowKit
set_option linter.unusedVariables false
set_option linter.unusedSimpArgs false
attribute [local go_sem ↓] Go.wp_at_zero Go.wp_at_succ

section
variable {w w' : World} {p d pg j L N ms mn n g : Nat} {S S' : St} {J J' : Js} {rd : Int} {sure now : Pmap} {H H' K : Nat → Prop} {rs : List (List Pt)} {A C : Pgs}
/-- the journal or the disks under a pager turn -/
theorem PgAt.turn (h : PgAt w p d pg j S J L N rd ms mn sure now H) (h1 : JPs w' p [d] S' 0 d j J' H') (hs : Step H H' w w') : PgAt w' p d pg j S' J' L N rd ms mn sure now H' := by
  have hn : ∀ i, i < w.heap.size → ¬ H i → ¬ H' i := fun i hi hn hf => by
    rcases hs.fresh i hf with h2 | h2
    · exact hn h2
    · omega
  exact ⟨h1, h.self.step hs h.np, h.sure.keep (hs.block _ h.sure.lt h.ns), h.now.keep (hs.block _ h.now.lt h.nn), h.ne, hn _ h.self.lt h.np, hn _ h.sure.lt h.ns, hn _ h.now.lt h.nn⟩
theorem PgAt.write (h : PgAt w p d pg j S J L N rd ms mn sure now H) (o : Int) (A' : Option Addr) (b : List UInt8) (c : Nat) (ho : -9223372036854775808 ≤ o ∧ o ≤ 9223372036854775807) (hb : b.length ≤ maxLen) (hA : RdB w A' b) (hAn : ∀ ad, A' = some ad → ¬ H ad.block) (hsz : ((S.write 0 o b).2.at_ 0).size = (S.at_ 0).size) :
    Calls Try.prog 67 #[ob d, .int .i64 o, .slice A' b.length c] w fun e w' => e = .returned (.int .i64 (S.write 0 o b).1) ∧ ∃ H', PgAt w' p d pg j (S.write 0 o b).2 J L N rd ms mn sure now H' ∧ Step H H' w w' := by
  obtain ⟨h0, hO, F, G, h1, h2, hd, hH⟩ := h.jp
  refine (st_write h1 h0 o A' b c ho hb hA fun ad e hf => hAn ad e (by rw [hH]; exact .inl hf)).mono ?_
  rintro e w' ⟨rfl, F', hp, hst⟩
  obtain ⟨r1, r2⟩ := JPs.disks (J := J) h0 (by rw [hsz]; exact hO) hp h2 hd hst
  rw [← hH] at r2
  exact ⟨rfl, _, h.turn r1 r2, r2⟩
theorem PgAt.sync (h : PgAt w p d pg j S J L N rd ms mn sure now H) (hsz : ((S.sync 0).2.at_ 0).size = (S.at_ 0).size) :
    Calls Try.prog 70 #[ob d] w fun e w' => e = .returned (.int .i64 (S.sync 0).1) ∧ ∃ H', PgAt w' p d pg j (S.sync 0).2 J L N rd ms mn sure now H' ∧ Step H H' w w' := by
  obtain ⟨h0, hO, F, G, h1, h2, hd, hH⟩ := h.jp
  refine (st_sync h1 h0).mono ?_
  rintro e w' ⟨rfl, F', hp, hst⟩
  obtain ⟨r1, r2⟩ := JPs.disks (J := J) h0 (by rw [hsz]; exact hO) hp h2 hd hst
  rw [← hH] at r2
  exact ⟨rfl, _, h.turn r1 r2, r2⟩
theorem PgAt.switch (h : PgAt w p d pg j S J L N rd ms mn sure now H) (hg : J.gen + 1 ≤ 8796093022208) :
    Calls Try.prog 21 #[ob j] w fun e w' => e = .returned (.int .i64 (switchF J S 0).1) ∧ ∃ H', PgAt w' p d pg j (switchF J S 0).2 (J.switch S 0) L N rd ms mn sure now H' ∧ Step H H' w w' := by
  refine (jswitch_any h.jp hg).mono ?_
  rintro e w' ⟨rfl, H', hj, hst⟩
  exact ⟨rfl, H', h.turn hj hst, hst⟩
theorem out_cases {r : Int × St} {ok bad : St → Prop} (h : Out S r ok bad) : (r.1 = 0 ∧ ok r.2 ∧ r.2.off = false ∧ (S.arm = -1 → r.2.arm = -1)) ∨ (r.1 = 4 ∧ S.arm ≠ -1 ∧ bad r.2) := by
  rcases h with ⟨a, b, c, d⟩ | ⟨a, b, c⟩
  · exact .inl ⟨a, d, b, c⟩
  · exact .inr ⟨a, b, c⟩
theorem Crashy.size {T : St} {P : (Nat → List UInt8) → Prop} (h : Crashy T 0 n P) : (T.at_ 0).size = 128 * n := by
  obtain ⟨lo, hi, ht, _⟩ := h
  exact ht.rd.1
theorem Torn.size {T : St} {lo hi : Nat → List UInt8} (h : Torn T 0 n lo hi) : (T.at_ 0).size = 128 * n := h.rd.1
/-- a checkpoint under way, in memory -/
def CkW (w0 : World) (S0 : St) (p d pg j : Nat) (J : Js) (L N n g : Nat) (rd : Int) (ms mn : Nat) (sure now : Pmap) (H0 : Nat → Prop) (rs : List (List Pt)) (A : Pgs) (l : List Nat) (w : World) : Prop :=
  ∃ S H, PgAt w p d pg j S J L N rd ms mn sure now H ∧ Ck S0 S n L N g rs A l ∧ Step H0 H w0 w
/-- what a write of a page leaves -/
def WrQ (w : World) (p d pg j : Nat) (E : Int) (S : St) (J : Js) (L N : Nat) (rd : Int) (ms mn : Nat) (sure now : Pmap) (H : Nat → Prop) (e : Ending) (w' : World) : Prop :=
  e = .returned (.int .i64 E) ∧ ∃ H2, PgAt w' p d pg j S J L N rd ms mn sure now H2 ∧ Step H H2 w w'
/-- what a checkpoint leaves -/
def CkSpec (p d pg j : Nat) (S : St) (J : Js) (L N n g : Nat) (rd : Int) (ms mn : Nat) (sure now : Pmap) (H : Nat → Prop) (A C : Pgs) (w : World) (e : Ending) (w' : World) : Prop :=
  (∃ S' J' H', e = .returned (.int .i64 0) ∧ PgAt w' p d pg j S' J' L N rd ms mn (fun _ => none) now H' ∧ Pg S' J' n L N (g + 1) [] A C (fun _ => none) now ∧ (S.arm = -1 → S'.arm = -1) ∧ Step (pgF H pg ms mn) (pgF H' pg ms mn) w w') ∨
  (∃ S' J' H', e = .returned (.int .i64 4) ∧ PgAt w' p d pg j S' J' L N rd ms mn sure now H' ∧ S.arm ≠ -1 ∧ Crashy S' 0 n (PTel n L N (g + 1) A A) ∧ Step (pgF H pg ms mn) (pgF H' pg ms mn) w w')
theorem Step.pgF_ (hs : Step H H' w w') : Step (pgF H pg ms mn) (pgF H' pg ms mn) w w' :=
  (hs.frame fun i => i = pg ∨ i = ms ∨ i = mn).wide (fun i h => h) (fun i h => .inl h)
set_option maxRecDepth 100000 in
set_option maxHeartbeats 4000000 in
theorem ckpt_at (hP : Pg S J n L N g rs A C sure now) (h : PgAt w p d pg j S J L N rd ms mn sure now H) (hg : g + 1 ≤ 8796093022207) :
    Calls Try.prog 50 #[ob pg] w fun e w' => CkSpec p d pg j S J L N n g rd ms mn sure now H A C w e w' := by
  obtain ⟨c0, c1, c2, c3, c4, c5, c6⟩ := h.cells
  obtain ⟨b1, b2, b3, b4⟩ := hP.pd.bounds
  have HP := Lib.hid hP
  have HH := Lib.hid h
  have HSO := Lib.hid (sortedS_any ms N (mapV sure) w h.sure)
  obtain ⟨ks, hks⟩ : ∃ ks, keysOf (mapV sure) N = ks := ⟨_, rfl⟩
  have hkl := keysOf_le (mapV sure) N
  have HKM : Hid ((∀ q ∈ ks, q < N ∧ ∃ s, sure q = some s) ∧ ∀ q, q < N → q ∉ ks → sure q = none) := Lib.hid (by
    refine ⟨fun q hq => ?_, fun q hq hn => ?_⟩
    · rw [← hks] at hq
      obtain ⟨h1, h2⟩ := List.mem_filter.1 hq
      refine ⟨List.mem_range.1 h1, ?_⟩
      unfold mapV at h2
      cases hn : sure q with
      | none => rw [hn] at h2; simp at h2
      | some s => exact ⟨s, rfl⟩
    · cases hs : sure q with
      | none => rfl
      | some s => exact absurd (by rw [← hks]; exact List.mem_filter.2 ⟨List.mem_range.2 hq, by unfold mapV; rw [hs]; rfl⟩) hn)
  rw [hks] at HSO hkl
  obtain ⟨m, hm⟩ : ∃ m, ks.length = m := ⟨_, rfl⟩
  have HM := Lib.hid hm
  rw [hm] at hkl
  have HG : Hid (g + 1 ≤ 8796093022207) := Lib.hid hg
  clear hks hm c0 c1 c2 c3 c5 c6 h hP hg
  go_enter Try.func50, Try.ntmps50
  go_wp2_with fail
  refine (keysS_any (some ms) w).mono ?_
  rintro e w1 ⟨rfl, rfl⟩
  go_wp2_with fail
  refine HSO.out.mono ?_
  rintro e w2 ⟨A0, k0, rfl, hown0, hb0⟩
  have hlm : (ks.map fun s : Nat => (s : Int)).length = m := by rw [List.length_map]; exact HM.out
  rw [hlm] at hown0
  rw [hlm]
  have HO0 := Lib.hid hown0
  have HB0 : Hid (Below w.heap.size w w2) := Lib.hid (((Below.refl _ w).alloc (Nat.le_refl _) _).trans (hb0.mono (by simp)))
  clear hown0 hb0 HSO hlm c4
  go_wp2_with fail
  go_loopw [17] (fun i wr => ∃ (t : Nat), i = .int .i64 (t : Int) ∧ t ≤ m ∧ Hid (CkW w2 S p d pg j J L N n g rd ms mn sure now H rs A (ks.take t) wr ∧ OwnR wr (w.heap.size + 1) 3 1 A0 m k0 (ic (ks.map fun s : Nat => (s : Int))))) (fun i _ => m - (intOf i).toNat)
  case atStart => exact ⟨0, rfl, Nat.zero_le _, Lib.hid ⟨⟨S, H, HH.out.below HB0.out, by rw [List.take_zero]; exact HP.out.pd.ck, Step.refl H w2⟩, HO0.out⟩⟩
  case round =>
    obtain ⟨t, rfl, ht, HI⟩ := hrel
    by_cases hlt : t < m
    · obtain ⟨q, hq⟩ : ∃ q, ks.getD t 0 = q := ⟨_, rfl⟩
      have htk : t < ks.length := by rw [HM.out]; exact hlt
      have hqm : q ∈ ks := by rw [← hq, getD_eq _ _ _ htk]; exact List.getElem_mem htk
      obtain ⟨hqN, s, hns⟩ := HKM.out.1 q hqm
      have HTK : Hid (ks.take (t + 1) = ks.take t ++ [q]) := Lib.hid (by rw [take_snoc ks t htk, ← hq, getD_eq _ _ _ htk])
      obtain ⟨⟨S1, H1, hpg, hck, hst⟩, hrow⟩ := HI.out
      obtain ⟨g0, rfl⟩ := OwnR.some_ hrow (by omega)
      have hcell := World.ownsRow.cells hrow rfl t (.int .i64 (q : Int)) (by
        have : (ic (ks.map fun s : Nat => (s : Int)))[t]? = some (.int .i64 (q : Int)) := by
          simp [ic, htk, ← hq, List.getD]
        exact this)
      rw [show (⟨g0, 0, none⟩ : Addr).add t = ⟨g0, t, none⟩ by unfold Addr.add; split <;> simp_all] at hcell
      obtain ⟨c0, c1, c2, c3, c4, c5, c6⟩ := hpg.cells
      have hAq : A q = s := by
        have := HP.out.com q hqN
        rw [hns] at this; exact this
      have hAl := HP.out.pd.full q hqN
      have HPG := Lib.hid hpg
      have HCK := Lib.hid hck
      have HST := Lib.hid hst
      have HROW := Lib.hid hrow
      have HRH : Hid (∀ k, blk (some (⟨g0, 0, none⟩ : Addr)) = some k → ¬ H1 k) := Lib.hid (fun k hk hf => by
        have h0 := OwnR.lt HO0.out k hk
        rcases hst.fresh k hf with h1 | h1
        · have h2 := HH.out.jp.lt k h1; omega
        · omega)
      obtain ⟨x, hx⟩ : ∃ x, bs (A q) = x := ⟨_, rfl⟩
      have HX : Hid (x.data.toList = A q ∧ x.size = 256) := Lib.hid ⟨by rw [← hx, data_bs], by rw [← hx, bs_size]; exact hAl⟩
      have HLK : Hid (∀ W, Below wr.heap.size wr W → (Instr.lookup 144 (.map (some ms)) (.int .i64 (q : Int)) false).run Try.prog W = .ok (.string x) W) := Lib.hid fun W hb => by
        have := (look_text (hpg.below hb).sure q (by omega)).2
        rw [hns] at this
        rw [← hx, hAq]; exact this
      have HLP : Hid (∀ W S3 J3 H3, PgAt W p d pg j S3 J3 L N rd ms mn sure now H3 → (Instr.lookup 144 (.map (some ms)) (.int .i64 (q : Int)) false).run Try.prog W = .ok (.string x) W) := Lib.hid fun W S3 J3 H3 hb => by
        have := (look_text hb.sure q (by omega)).2
        rw [hns] at this
        rw [← hx, hAq]; exact this
      obtain ⟨o, ho⟩ : ∃ o, 256 * (L + q) = o := ⟨_, rfl⟩
      have HPL : Hid (∀ W, Calls Try.prog 93 #[cfg L N, .int .i64 (q : Int)] W fun e w' => BelowV (.int .i64 (o : Int)) W e w') := Lib.hid (fun W => by rw [← ho]; exact place_any L N q W (by omega) (by omega))
      have HK : Hid (∀ W, Below wr.heap.size wr W → W.cell? ⟨pg, 0, none⟩ = some (ob d) ∧ W.cell? ⟨pg, 1, none⟩ = some (.int .i64 (L : Int)) ∧ W.cell? ⟨pg, 2, none⟩ = some (.int .i64 (N : Int)) ∧ W.cell? ⟨pg, 4, none⟩ = some (.map (some ms)) ∧ (Instr.lookup 144 (.map (some ms)) (.int .i64 (q : Int)) false).run Try.prog W = .ok (.string x) W) :=
        Lib.hid fun W hb => ⟨below_cell hb c0, below_cell hb c1, below_cell hb c2, below_cell hb c4, HLK.out W hb⟩
      have HKC : Hid (∀ W, Hid (Below wr.heap.size wr W) → (convW x W).cell? ⟨pg, 0, none⟩ = some (ob d) ∧ (convW x W).cell? ⟨pg, 1, none⟩ = some (.int .i64 (L : Int)) ∧ (convW x W).cell? ⟨pg, 2, none⟩ = some (.int .i64 (N : Int)) ∧ (convW x W).cell? ⟨pg, 4, none⟩ = some (.map (some ms)) ∧ (Instr.lookup 144 (.map (some ms)) (.int .i64 (q : Int)) false).run Try.prog (convW x W) = .ok (.string x) (convW x W)) :=
        Lib.hid fun W hb => HK.out _ (hb.out.trans ((conv_below x W).mono hb.out.size))
      have HKT : Hid (∀ W W', Hid (Below wr.heap.size wr W) → Below W.heap.size W W' → Hid (Below wr.heap.size wr W')) := Lib.hid fun W W' hb hb2 => Lib.hid (hb.out.trans (hb2.mono hb.out.size))
      have hwz : ((S1.write 0 (o : Int) (A q)).2.at_ 0).size = (S1.at_ 0).size ∧ ((((S1.write 0 (o : Int) (A q)).1 = 0 ∧ Ck S (S1.write 0 (o : Int) (A q)).2 n L N g rs A (ks.take t ++ [q])) ∨ ((S1.write 0 (o : Int) (A q)).1 = 4 ∧ S.arm ≠ -1 ∧ Crashy (S1.write 0 (o : Int) (A q)).2 0 n (PTel n L N g A A)))) := by
        have h1 := HCK.out.write HP.out.pd hqN
        rw [ho] at h1
        have hz : (S1.at_ 0).size = 128 * n := by
          obtain ⟨f, lo, hi, ht, _⟩ := HCK.out
          exact ht.size
        rcases out_cases h1 with ⟨a, b, _⟩ | ⟨a, b, c⟩
        · refine ⟨?_, .inl ⟨a, b⟩⟩
          obtain ⟨f, lo, hi, ht, _⟩ := b
          rw [hz, ht.size]
        · exact ⟨by rw [hz, c.size], .inr ⟨a, b, c⟩⟩
      obtain ⟨E, hE⟩ : ∃ E, (S1.write 0 (o : Int) (A q)).1 = E := ⟨_, rfl⟩
      obtain ⟨S2, hS2⟩ : ∃ S2, (S1.write 0 (o : Int) (A q)).2 = S2 := ⟨_, rfl⟩
      have HWR : Hid (∀ W1 W2, Hid (Below wr.heap.size wr W1) → Below (convW x W1).heap.size (convW x W1) W2 → Calls Try.prog 67 #[ob d, .int .i64 (o : Int), .slice (some ⟨W1.heap.size, 0, none⟩) 256 (convC x W1)] W2 fun e w' => WrQ wr p d pg j E S2 J L N rd ms mn sure now H1 e w') := Lib.hid fun W1 W2 hb hb2 => by
        have hb3 := (conv_below x W1).trans (hb2.mono (by rw [conv_size]; omega))
        have hbw : Below wr.heap.size wr W2 := hb.out.trans (hb3.mono hb.out.size)
        have hown := (conv_own x W1 (by rw [HX.out.2]; omega)).below hb2
        have hr := hown.rd
        rw [HX.out.1] at hr
        have hc := (hpg.below hbw).write (o : Int) (some ⟨W1.heap.size, 0, none⟩) (A q) (convC x W1) (by omega) (by unfold maxLen; omega) hr (fun ad e hf => by
          cases e
          have h1 := hpg.jp.lt _ hf
          have h2 := hb.out.size
          have h3 : W1.heap.size < wr.heap.size := h1
          omega) hwz.1
        rw [hE, hS2, hAl] at hc
        refine hc.mono ?_
        rintro e w' ⟨rfl, H2, h1, h2⟩
        exact ⟨rfl, H2, h1, (Step.of_below hbw H1).trans h2⟩
      have HOC := Lib.hid hwz.2
      rw [hE, hS2] at HOC
      have HD0 := Lib.hid (HK.out _ ((Below.refl wr.heap.size wr).drew))
      have HD1 : Hid (Below wr.heap.size wr wr.drew) := Lib.hid ((Below.refl wr.heap.size wr).drew)
      have HD2 : Hid (Below wr.heap.size wr (convW x wr.drew)) := Lib.hid (((Below.refl wr.heap.size wr).drew).trans ((conv_below x wr.drew).mono (Nat.le_refl _)))
      have HWR2 : Hid (∀ W2, Below (convW x wr.drew).heap.size (convW x wr.drew) W2 → Calls Try.prog 67 #[ob d, .int .i64 (o : Int), .slice (some ⟨wr.heap.size, 0, none⟩) 256 (convC x wr.drew)] W2 fun e w' => WrQ wr p d pg j E S2 J L N rd ms mn sure now H1 e w') := Lib.hid fun W2 hb => HWR.out wr.drew W2 HD1 hb
      have HWR1 : Hid (∀ W, Hid (Below wr.heap.size wr W) → Calls Try.prog 67 #[ob d, .int .i64 (o : Int), .slice (some ⟨W.heap.size, 0, none⟩) 256 (convC x W)] (convW x W) fun e w' => WrQ wr p d pg j E S2 J L N rd ms mn sure now H1 e w') := Lib.hid fun W hb => HWR.out W _ hb (Below.refl _ _)
      have hcv := fun W => conv_run x W
      have hxs : x.size = 256 := HX.out.2
      rw [hxs] at hcv
      clear hq htk hqm hns hAq hAl hpg hck hst hrow hx ho hxs HI c0 c1 c2 c3 c4 c5 c6 hwz hE hS2
      go_wp2_with fail
      go_region_held (fun W : World => W.cell? ⟨pg, 0, none⟩ = some (ob d) ∧ W.cell? ⟨pg, 1, none⟩ = some (.int .i64 (L : Int)) ∧ W.cell? ⟨pg, 2, none⟩ = some (.int .i64 (N : Int)) ∧ W.cell? ⟨pg, 4, none⟩ = some (.map (some ms)) ∧ (Instr.lookup 144 (.map (some ms)) (.int .i64 (q : Int)) false).run Try.prog W = .ok (.string x) W) (first | (with_reducible exact HD0.out) | (with_reducible exact HK.out _ HB3.out) | (with_reducible exact HKC.out _ HD1) | (with_reducible exact HKC.out _ HB3) | (exact ⟨HK4.1, HK4.2.1, HK4.2.2.1, HK4.2.2.2.2.1, HLK4⟩)) (first | (go_at_call 93; go_must (refine (HPL.out _).mono ?_; rintro e w3 ⟨rfl, hb3⟩; have HB3 : Hid (Below wr.heap.size wr w3) := (by first | (with_reducible exact HKT.out _ _ HD1 hb3) | (with_reducible exact HKT.out _ _ HD2 hb3)))) | (go_at_call 67; go_must ((first | (with_reducible refine (HWR1.out _ HB3).mono ?_) | (with_reducible refine (HWR2.out _ hb3).mono ?_)); rintro e w4 ⟨rfl, H2, hp2, hst2⟩; have HK4 := hp2.cells; have HLK4 := HLP.out _ _ _ _ hp2; have HP2 := Lib.hid hp2; have HST2 := Lib.hid hst2; clear hp2 hst2)))
      all_goals
        clear HK4 HLK4
        rename_i hh
        clear hh
        by_cases hz : E = 0
        · subst hz
          go_wp2_with fail
          refine ⟨⟨t + 1, int_eq (by omega), by omega, Lib.hid ⟨⟨S2, H2, HP2.out, ?_, HST.out.trans HST2.out⟩, ?_⟩⟩, by simp [intOf]; omega⟩
          · rw [HTK.out]
            rcases HOC.out with ⟨_, a⟩ | ⟨a, _⟩
            · exact a
            · exact absurd a (by decide)
          · exact OwnR.block HROW.out fun k hk => HST2.out.block k (OwnR.lt HROW.out k hk).2 (HRH.out k hk)
        · have h4 : E = 4 ∧ S.arm ≠ -1 ∧ Crashy S2 0 n (PTel n L N g A A) := by
            rcases HOC.out with ⟨a, _⟩ | a
            · exact absurd a hz
            · exact a
          have HF := Lib.hid h4.2
          have he := h4.1
          subst he
          clear h4 hz
          go_wp2_with fail
          go_ret
          exact .inr ⟨S2, J, H2, rfl, HP2.out, HF.out.1, HF.out.2.imp fun _ h => h.more (by omega), (((Step.of_below HB0.out H).trans HST.out).trans HST2.out).pgF_⟩
    · have hte : t = m := by omega
      subst hte
      obtain ⟨⟨S1, H1, hpg, hck, hst⟩, _⟩ := HI.out
      rw [List.take_of_length_le (by rw [HM.out]; exact Nat.le_refl _)] at hck
      have hcz : (S1.at_ 0).size = 128 * n := by
        obtain ⟨f, lo, hi, ht, _⟩ := hck
        exact ht.size
      have hsy := out_cases (hck.sync HP.out.pd fun q hq hn => by
        have := HP.out.com q hq
        rw [HKM.out.2 q hq hn] at this
        exact this.symm)
      have hsz : ((S1.sync 0).2.at_ 0).size = (S1.at_ 0).size := by
        rcases hsy with ⟨_, ⟨f, ht, _⟩, _⟩ | ⟨_, _, c⟩
        · rw [hcz, ht.size]
        · rw [hcz, c.size]
      have hsc := hpg.sync hsz
      obtain ⟨E, hE⟩ : ∃ E, (S1.sync 0).1 = E := ⟨_, rfl⟩
      obtain ⟨S2, hS2⟩ : ∃ S2, (S1.sync 0).2 = S2 := ⟨_, rfl⟩
      rw [hE, hS2] at hsy hsc
      have HSY := Lib.hid hsy
      have HSC := Lib.hid hsc
      have HST := Lib.hid ((Step.of_below HB0.out H).trans hst)
      have c0 := hpg.cells.1
      clear hE hS2 hsy hsc hsz hcz hck hpg hst HI
      go_wp2_with fail
      refine HSC.out.mono ?_
      rintro e w3 ⟨rfl, H2, hp2, hst2⟩
      have HP2 := Lib.hid hp2
      have HST2 : Hid (Step H H2 w w3) := Lib.hid (HST.out.trans hst2)
      have c3 := hp2.cells.2.2.2.1
      clear hp2 hst2 c0 HSC HST
      by_cases hz : E = 0
      · subst hz
        have hcs : Cs S S2 n L N g rs A := by
          rcases HSY.out with ⟨_, a, _⟩ | ⟨a, _⟩
          · exact a
          · exact absurd a (by decide)
        have hgn : J.gen = g := by rw [HP.out.pd.held.js]
        have hsw := HP2.out.switch (by rw [hgn]; have := HG.out; omega)
        have how := out_cases (hcs.switch HP.out.pd HG.out)
        obtain ⟨E3, hE3⟩ : ∃ E, (switchF J S2 0).1 = E := ⟨_, rfl⟩
        obtain ⟨S3, hS3⟩ : ∃ S3, (switchF J S2 0).2 = S3 := ⟨_, rfl⟩
        obtain ⟨J3, hJ3⟩ : ∃ J3, J.switch S2 0 = J3 := ⟨_, rfl⟩
        rw [hE3, hS3, hJ3] at hsw
        rw [hE3, hS3, hJ3] at how
        have HSW := Lib.hid hsw
        have HOW := Lib.hid how
        clear hcs hgn hsw how hE3 hS3 hJ3
        go_wp2_with fail
        refine HSW.out.mono ?_
        rintro e w4 ⟨rfl, H3, hp3, hst3⟩
        have HP3 := Lib.hid hp3
        have HST3 : Hid (Step H H3 w w4) := Lib.hid (HST2.out.trans hst3)
        have c4 := hp3.cells.2.2.2.2.1
        clear hp3 hst3 c3 HSW
        by_cases hz3 : E3 = 0
        · subst hz3
          have hpd : Pd S3 J3 n L N (g + 1) [] A ∧ (S.arm = -1 → S3.arm = -1) := by
            rcases HOW.out with ⟨_, a, _, b⟩ | ⟨a, _⟩
            · exact ⟨a, b⟩
            · exact absurd a (by decide)
          have HPD := Lib.hid hpd
          obtain ⟨w5, hr5, hm5, hg5, hz5⟩ := HP3.out.sure.clear (mt := 144) (e := 9) Try.underlying144
          have HM5 := Lib.hid hm5
          have HG5 := Lib.hid hg5
          have HZ5 := Lib.hid hz5
          clear hpd hm5 hg5 hz5
          go_wp2_with fail
          go_ret
          have hp := HP3.out
          have hk : ∀ i, i < w4.heap.size → i ≠ ms → w5.heap[i]? = w4.heap[i]? := fun i hi hn => HG5.out.block i hi (by simpa using hn)
          refine .inl ⟨S3, J3, H3, rfl, ⟨hp.jp.keep (fun i hi => hk i (hp.jp.lt i hi) fun e => hp.ns (by rw [← e]; exact hi)) (by rw [HZ5.out]; exact Nat.le_refl _), (hk pg hp.self.lt hp.pm.1).trans hp.self, HM5.out, hp.now.keep (hk mn hp.now.lt hp.ne.symm), hp.ne, hp.np, hp.ns, hp.nn⟩, ⟨HPD.out.1, fun q hq => ?_, HP.out.cur, HP.out.fullC, HP.out.kn, fun q s hs => by simp at hs⟩, HPD.out.2, ?_⟩
          · have := HPD.out.1.recs q hq
            exact this.symm
          · exact HST3.out.pgF_.grown HG5.out fun k e => .inl (by cases e; exact .inr (.inr (.inl rfl)))
        · have h4 : E3 = 4 ∧ S.arm ≠ -1 ∧ Crashy S3 0 n (PTel n L N (g + 1) A A) := by
            rcases HOW.out with ⟨a, _⟩ | a
            · exact absurd a hz3
            · exact a
          have HF := Lib.hid h4.2
          have he := h4.1
          subst he
          clear h4 hz3
          go_wp2_with fail
          go_ret
          exact .inr ⟨S3, J3, H3, rfl, HP3.out, HF.out.1, HF.out.2, HST3.out.pgF_⟩
      · have h4 : E = 4 ∧ S.arm ≠ -1 ∧ Crashy S2 0 n (PTel n L N g A A) := by
          rcases HSY.out with ⟨a, _⟩ | a
          · exact absurd a hz
          · exact a
        have HF := Lib.hid h4.2
        have he := h4.1
        subst he
        clear h4 hz
        go_wp2_with fail
        go_ret
        exact .inr ⟨S2, J, H2, rfl, HP2.out, HF.out.1, HF.out.2.imp fun _ h => h.more (by omega), HST2.out.pgF_⟩
end
end Go.Proofs.Ytjmhfjioccljeaa
/-
  Walk of package pager: append.
-/
namespace Go.Proofs.Ytjmhfjioccljeaa
open Go.RowKit
set_option linter.unusedVariables false
set_option linter.unusedSimpArgs false
attribute [local go_sem ↓] Go.wp_at_zero Go.wp_at_succ

theorem row_its {N : Nat} {ps : List Pt} (hN : N ≤ 4000) (h : ∀ p ∈ ps, p.Good N) (hl : 3 * ps.length ≤ 4000) : rowE (itsL ps) = 0 ∧ rowB (itsL ps) = recL ps := by
  have hw : Fld.worst (itsL ps) = 0 := (Fld.worst_zero _).2 fun i hi => (its_good hN h i hi).1
  have he : rowE (itsL ps) = 0 := by unfold rowE; rw [if_neg (by rw [its_length]; omega), hw]
  refine ⟨he, ?_⟩
  unfold rowB
  rw [if_pos he]
  rfl
section
variable {w w' : World} {p d pg j L N ms mn n g : Nat} {S S' : St} {J J' : Js} {rd : Int} {sure now : Pmap} {H H' K : Nat → Prop} {rs : List (List Pt)} {A C : Pgs}
theorem PgAt.append (h : PgAt w p d pg j S J L N rd ms mn sure now H) (b : List UInt8) (hb : b.length ≤ 9223372036854775807) :
    Calls Try.prog 14 #[ob j, .string (bs b)] w fun e w' => e = .returned (.int .i64 (J.appE b)) ∧ ∃ H', PgAt w' p d pg j S (J.app b) L N rd ms mn sure now H' ∧ Step H H' w w' := by
  obtain ⟨h0, hO, F, G, h1, h2, hd, hH⟩ := h.jp
  refine (jappend_any hO h2 (bs b) (by rw [bs_size]; exact hb)).mono ?_
  rintro e w' ⟨rfl, G', hj, hst⟩
  obtain ⟨r1, r2⟩ := JPs.turn h0 (hO.app (bs b).data.toList) h1 hd hj hst
  rw [← hH] at r2
  rw [data_bs] at *
  exact ⟨rfl, _, h.turn r1 r2, r2⟩
theorem PgAt.room (h : PgAt w p d pg j S J L N rd ms mn sure now H) : Calls Try.prog 28 #[ob j] w fun e w' => BelowV (.int .i64 J.room) w e w' := by
  obtain ⟨h0, hO, F, G, h1, h2, hd, hH⟩ := h.jp
  exact jroom_any hO h2
/-- how many bytes of the journal's area are used -/
def usedN (rs : List (List Pt)) : Nat := (framesL (rs.map recL)).length
/-- what append leaves -/
def ApSpec (p d pg j : Nat) (S : St) (J : Js) (L N n g : Nat) (rd : Int) (ms mn : Nat) (sure now : Pmap) (H : Nat → Prop) (rs : List (List Pt)) (A C : Pgs) (ps : List Pt) (w : World) (e : Ending) (w' : World) : Prop :=
  (∃ S' J' H' sure', e = .returned (.int .i64 4) ∧ PgAt w' p d pg j S' J' L N rd ms mn sure' now H' ∧ S.arm ≠ -1 ∧ Crashy S' 0 n (PTel n L N (g + 1) A A) ∧ Step (pgF H pg ms mn) (pgF H' pg ms mn) w w') ∨
  (∃ S' J' H', e = .returned (.int .i64 15) ∧ 119 * L < (recL ps).length + 4 ∧ PgAt w' p d pg j S' J' L N rd ms mn (fun _ => none) now H' ∧ Pg S' J' n L N (g + 1) [] A C (fun _ => none) now ∧ (S.arm = -1 → S'.arm = -1) ∧ Step (pgF H pg ms mn) (pgF H' pg ms mn) w w') ∨
  (∃ S' J0 J' H' sure' g', e = .returned (.int .i64 0) ∧ (recL ps).length + 4 ≤ 119 * L ∧ g ≤ g' ∧ g' ≤ g + 1 ∧ PgAt w' p d pg j S' J' L N rd ms mn sure' now H' ∧ Pg S' J0 n L N g' (if 119 * L < usedN rs + 4 + (recL ps).length then [] else rs) A C sure' now ∧
    Held S' J' n 0 L g' ((if 119 * L < usedN rs + 4 + (recL ps).length then [] else rs).map recL) [recL ps] ∧ (S.arm = -1 → S'.arm = -1) ∧ Step (pgF H pg ms mn) (pgF H' pg ms mn) w w')
theorem Step.of_below_pg (hb : Below w.heap.size w w') : Step (pgF H pg ms mn) (pgF H pg ms mn) w w' := Step.of_below hb _
set_option maxRecDepth 100000 in
set_option maxHeartbeats 4000000 in
theorem append_at (hP : Pg S J n L N g rs A C sure now) (h : PgAt w p d pg j S J L N rd ms mn sure now H) (hg : g + 1 ≤ 8796093022207) (ps : List Pt) (hps : ∀ x ∈ ps, x.Good N) (hpl : 3 * ps.length ≤ 4000) (A2 : Option Addr) (k c2 : Nat) (hk : k = 3 * ps.length) (hA : RdI w A2 (itsL ps)) :
    Calls Try.prog 90 #[ob pg, .slice A2 k c2] w fun e w' => ApSpec p d pg j S J L N n g rd ms mn sure now H rs A C ps w e w' := by
  obtain ⟨b1, b2, b3, b4⟩ := hP.pd.bounds
  have hkl : k = (itsL ps).length := by rw [its_length]; exact hk
  have hro := row_any A2 (itsL ps) c2 w (by rw [its_length]; unfold maxLen; omega) hA (fun i hi => ⟨by
    obtain ⟨q, hq, hi⟩ := List.mem_flatMap.1 hi
    have := (hps q hq).2
    simp only [Pt.its, List.mem_cons, List.not_mem_nil, or_false] at hi
    unfold maxLen
    rcases hi with rfl | rfl | rfl <;> simp <;> omega, (its_good b2 hps i hi).2⟩)
  unfold RowSpec at hro
  obtain ⟨r1, r2⟩ := row_its b2 hps hpl
  rw [r1, r2, ← hkl] at hro
  obtain ⟨b, hb⟩ : ∃ b, recL ps = b := ⟨_, rfl⟩
  obtain ⟨m, hm⟩ : ∃ m, b.length = m := ⟨_, rfl⟩
  rw [hb, hm] at hro
  have HRO := Lib.hid hro
  have HP := Lib.hid hP
  have HH := Lib.hid h
  have HB := Lib.hid (And.intro hb hm)
  have HG := Lib.hid hg
  have hml : m ≤ 9223372036854775807 := by
    obtain ⟨f, hf⟩ : ∃ f, (recL ps).length ≤ f := ⟨_, Nat.le_refl _⟩
    have h1 := encs_le (itsL ps) (its_good b2 hps)
    have h2 : (recL ps).length ≤ 50005 * (itsL ps).length := h1
    rw [its_length, hb, hm] at h2
    omega
  have hrm : J.room = max (119 * (L : Int) - (usedN rs : Int) - 4) (-1) := by
    rw [hP.pd.held.room]
    simp [framesL, usedN]
  have HFI : Hid (usedN rs ≤ 119 * L) := Lib.hid hP.pd.fits.fill
  obtain ⟨u, hu⟩ : ∃ u, usedN rs = u := ⟨_, rfl⟩
  have HU := Lib.hid hu
  obtain ⟨R, hR⟩ : ∃ R, J.room = R := ⟨_, rfl⟩
  have HRM : Hid (∀ W, Below w.heap.size w W → Calls Try.prog 28 #[ob j] W fun e w' => BelowV (.int .i64 R) W e w') := Lib.hid fun W hb => by
    rw [← hR]; exact (h.below hb).room
  have HC3 : Hid (∀ W, Below w.heap.size w W → W.cell? ⟨pg, 3, none⟩ = some (ob j)) := Lib.hid fun W hb => (h.below hb).cells.2.2.2.1
  rw [hR, hu] at hrm
  rw [hu] at HFI
  clear hro hP h hb hm hg hA hps hpl hkl hk r1 r2 hu hR
  by_cases hov : 119 * L < u + 4 + m
  · have hrl : R < (m : Int) := by have := HFI.out; omega
    have e1 : decide (R < (m : Int)) = true := decide_eq_true hrl
    have HOV := Lib.hid hov
    clear hrm hov
    go_enter Try.func90, Try.ntmps90
    go_wp2_with fail
    refine HRO.out.mono ?_
    rintro e w1 ⟨A3, c3, rfl, hown, hb1⟩
    have HB1 := Lib.hid hb1
    have HO1 := Lib.hid hown
    have c31 := HC3.out w1 hb1
    clear hb1 hown
    go_wp2_with fail
    refine (HRM.out w1 HB1.out).mono ?_
    rintro e w2 ⟨rfl, hb2⟩
    have HB2 : Hid (Below w.heap.size w w2) := Lib.hid (HB1.out.trans (hb2.mono HB1.out.size))
    have HO2 : Hid (OwnB w2 w.heap.size A3 c3 b) := Lib.hid (OwnR.below' HO1.out hb2)
    clear hb2 c31
    go_wp2_with fail
    refine (ckpt_at HP.out (HH.out.below HB2.out) HG.out).mono ?_
    rintro e w3 (⟨S3, J3, H3, rfl, hp3, hP3, ha3, hst3⟩ | ⟨S3, J3, H3, rfl, hp3, ha3, hcr, hst3⟩)
    · have HP3 := Lib.hid hp3
      have HPP := Lib.hid hP3
      have HA3 := Lib.hid ha3
      have HST : Hid (Step (pgF H pg ms mn) (pgF H3 pg ms mn) w w3) := Lib.hid ((Step.of_below_pg HB2.out).trans hst3)
      have c33 := hp3.cells.2.2.2.1
      have HO3 : Hid (OwnB w3 w.heap.size A3 c3 b) := Lib.hid (OwnR.block HO2.out fun kk hkk => hst3.block kk (OwnR.lt HO2.out kk hkk).2 fun hf => by
        have h1 := HH.out.lt kk hf
        have h2 := (OwnR.lt HO2.out kk hkk).1
        omega)
      have HNA : Hid (∀ kk, blk A3 = some kk → ¬ H3 kk) := Lib.hid fun kk hkk hf => by
        have h0 := OwnR.lt HO2.out kk hkk
        rcases hst3.fresh kk (.inl hf) with h1 | h1
        · have h2 := HH.out.lt kk h1; omega
        · omega
      have hcv2 : (convert 37 9 (.slice A3 m c3)).run Try.prog w3.drew = .ok (.string (bs b)) w3.drew := run_str (w := w3.drew) c3 (OwnB.rd (w := w3.drew) (OwnR.drew HO3.out)) HB.out.2.symm
      have hap := (hp3.below ((Below.refl _ _).drew)).append b (by rw [HB.out.2]; exact hml)
      have hapc := hP3.pd.held.append b
      obtain ⟨E, hE⟩ : ∃ E, J3.appE b = E := ⟨_, rfl⟩
      rw [hE] at hap hapc
      obtain ⟨y, hy⟩ : ∃ y, bs b = y := ⟨_, rfl⟩
      rw [hy] at hap hcv2
      have HAP := Lib.hid hap
      have HAC := Lib.hid hapc
      have HY := Lib.hid hy
      clear hp3 hP3 ha3 hst3 hap hapc hE hy
      go_wp2_with fail
      go_region_held3 (fun W : World => W.cell? ⟨pg, 3, none⟩ = some (ob j) ∧ (convert 37 9 (.slice A3 m c3)).run Try.prog W = .ok (.string y) W) (first | exact ⟨c33, hcv2⟩ | exact ⟨c43, hcv4⟩) (first | (go_at_call 14; refine HAP.out.mono ?_; rintro e w4 ⟨rfl, H4, hp4, hst4⟩; have c43 := hp4.cells.2.2.2.1; have HP4 := Lib.hid hp4; have HST4 : Hid (Step (pgF H pg ms mn) (pgF H4 pg ms mn) w w4) := Lib.hid (HST.out.trans ((Step.of_below_pg ((Below.refl _ _).drew)).trans hst4.pgF_)); have hcv4 : (convert 37 9 (.slice A3 m c3)).run Try.prog w4 = .ok (.string y) w4 := (by { rw [← HY.out]; exact run_str c3 (OwnB.rd (OwnR.block HO3.out fun kk hkk => hst4.block kk (OwnR.lt HO3.out kk hkk).2 (HNA.out kk hkk))) HB.out.2.symm }); clear hp4 hst4))
      rename_i hh
      clear hh c43 hcv4 c33 hcv2
      rcases HAC.out with ⟨rfl, h14, hj⟩ | ⟨rfl, h15, h15b, hj⟩ | ⟨rfl, h0, hh⟩
      · have HX := Lib.hid (And.intro h14 hj)
        clear h14 hj HAC HAP
        go_wp2_with fail
        go_ret
        refine .inr (.inl ⟨S3, J3, H4, rfl, by rw [HB.out.1]; exact HX.out.1, ?_, HPP.out, HA3.out, HST4.out⟩)
        have := HP4.out
        rw [HX.out.2] at this
        exact this
      · simp [framesL] at h15b
        omega
      · have HX := Lib.hid (And.intro h0 hh)
        clear h0 hh HAC HAP
        go_wp2_with fail
        go_ret
        refine .inr (.inr ⟨S3, J3, J3.app b, H4, fun _ => none, g + 1, rfl, ?_, by omega, Nat.le_refl _, HP4.out, ?_, ?_, HA3.out, HST4.out⟩)
        · have := HX.out.1
          simp [framesL] at this
          rw [HB.out.1]; omega
        · rw [HU.out, HB.out.1, HB.out.2, if_pos HOV.out]
          exact HPP.out
        · rw [HU.out, HB.out.1, HB.out.2, if_pos HOV.out]
          exact HX.out.2
    · have HX := Lib.hid (And.intro hp3 (And.intro ha3 (And.intro hcr hst3)))
      clear hp3 ha3 hcr hst3
      go_wp2_with fail
      go_ret
      exact .inl ⟨S3, J3, H3, sure, rfl, HX.out.1, HX.out.2.1, HX.out.2.2.1, (Step.of_below_pg HB2.out).trans HX.out.2.2.2⟩
  · have hrl : (m : Int) ≤ R := by have := HFI.out; omega
    have e1 : decide (R < (m : Int)) = false := decide_eq_false (by omega)
    have HOV := Lib.hid hov
    clear hrm hov
    go_enter Try.func90, Try.ntmps90
    go_wp2_with fail
    refine HRO.out.mono ?_
    rintro e w1 ⟨A3, c3, rfl, hown, hb1⟩
    have HB1 := Lib.hid hb1
    have HO1 := Lib.hid hown
    have c31 := HC3.out w1 hb1
    clear hb1 hown
    go_wp2_with fail
    refine (HRM.out w1 HB1.out).mono ?_
    rintro e w2 ⟨rfl, hb2⟩
    have HB2 : Hid (Below w.heap.size w w2) := Lib.hid (HB1.out.trans (hb2.mono HB1.out.size))
    have HO3 : Hid (OwnB w2 w.heap.size A3 c3 b) := Lib.hid (OwnR.below' HO1.out hb2)
    have c33 := HC3.out w2 HB2.out
    have hp3 := HH.out.below HB2.out
    have HST : Hid (Step (pgF H pg ms mn) (pgF H pg ms mn) w w2) := Lib.hid (Step.of_below_pg HB2.out)
    have HNA : Hid (∀ kk, blk A3 = some kk → ¬ H kk) := Lib.hid fun kk hkk hf => by
      have h0 := OwnR.lt HO3.out kk hkk
      have h2 := HH.out.jp.lt kk hf
      omega
    have hcv2 : (convert 37 9 (.slice A3 m c3)).run Try.prog w2.drew = .ok (.string (bs b)) w2.drew := run_str (w := w2.drew) c3 (OwnB.rd (w := w2.drew) (OwnR.drew HO3.out)) HB.out.2.symm
    have hap := (hp3.below ((Below.refl _ _).drew)).append b (by rw [HB.out.2]; exact hml)
    have hapc := HP.out.pd.held.append b
    obtain ⟨E, hE⟩ : ∃ E, J.appE b = E := ⟨_, rfl⟩
    rw [hE] at hap hapc
    obtain ⟨y, hy⟩ : ∃ y, bs b = y := ⟨_, rfl⟩
    rw [hy] at hap hcv2
    have HAP := Lib.hid hap
    have HAC := Lib.hid hapc
    have HY := Lib.hid hy
    clear hb2 c31 hp3 hap hapc hE hy
    go_wp2_with fail
    go_region_held3 (fun W : World => W.cell? ⟨pg, 3, none⟩ = some (ob j) ∧ (convert 37 9 (.slice A3 m c3)).run Try.prog W = .ok (.string y) W) (first | exact ⟨c33, hcv2⟩ | exact ⟨c43, hcv4⟩) (first | (go_at_call 14; refine HAP.out.mono ?_; rintro e w4 ⟨rfl, H4, hp4, hst4⟩; have c43 := hp4.cells.2.2.2.1; have HP4 := Lib.hid hp4; have HST4 : Hid (Step (pgF H pg ms mn) (pgF H4 pg ms mn) w w4) := Lib.hid (HST.out.trans ((Step.of_below_pg ((Below.refl _ _).drew)).trans hst4.pgF_)); have hcv4 : (convert 37 9 (.slice A3 m c3)).run Try.prog w4 = .ok (.string y) w4 := (by { rw [← HY.out]; exact run_str c3 (OwnB.rd (OwnR.block HO3.out fun kk hkk => hst4.block kk (OwnR.lt HO3.out kk hkk).2 (HNA.out kk hkk))) HB.out.2.symm }); clear hp4 hst4))
    rename_i hh
    clear hh c43 hcv4 c33 hcv2
    have hul : (framesL (List.map recL rs)).length = u := HU.out
    rw [hul] at HAC
    rcases HAC.out with ⟨rfl, h14, hj⟩ | ⟨rfl, h15, h15b, hj⟩ | ⟨rfl, h0, hh⟩
    · exact absurd HOV.out (by rw [HB.out.2] at h14; omega)
    · simp [framesL] at h15b
      exact absurd HOV.out (by rw [HB.out.2] at h15b; omega)
    · have HX := Lib.hid (And.intro h0 hh)
      clear h0 hh HAC HAP hul
      go_wp2_with fail
      go_ret
      refine .inr (.inr ⟨S, J, J.app b, H4, sure, g, rfl, ?_, Nat.le_refl _, by omega, HP4.out, ?_, ?_, id, HST4.out⟩)
      · have := HX.out.1
        simp [framesL] at this
        rw [HB.out.1]; omega
      · rw [HU.out, HB.out.1, HB.out.2, if_neg HOV.out]
        exact HP.out
      · rw [HU.out, HB.out.1, HB.out.2, if_neg HOV.out]
        exact HX.out.2
end
end Go.Proofs.Ytjmhfjioccljeaa
/-
  Walk of package pager: Commit.
-/
namespace Go.Proofs.Ytjmhfjioccljeaa
open Go.RowKit
set_option linter.unusedVariables false
set_option linter.unusedSimpArgs false
attribute [local go_sem ↓] Go.wp_at_zero Go.wp_at_succ

def orM (f g : Pmap) (s : Nat) : Option (List UInt8) := (g s).or (f s)
theorem mapV_or (f g : Pmap) : orF (mapV f) (mapV g) = mapV (orM f g) := by
  funext s
  unfold orF mapV orM
  cases g s <;> rfl
section
variable {w w' : World} {p d pg j L N ms mn n g : Nat} {S S' : St} {J J' : Js} {rd : Int} {sure now sure' now' : Pmap} {H H' K : Nat → Prop} {rs : List (List Pt)} {A C : Pgs}
theorem PgAt.setSure (h : PgAt w p d pg j S J L N rd ms mn sure now H) (hm : MapAt w' 3 ms N (mapV sure')) (hg : w.grownBy w' (some ms)) : PgAt w' p d pg j S J L N rd ms mn sure' now H := by
  have hk : ∀ i, i < w.heap.size → i ≠ ms → w'.heap[i]? = w.heap[i]? := fun i hi hn => hg.block i hi (by simpa using hn)
  exact ⟨h.jp.keep (fun i hi => hk i (h.jp.lt i hi) fun e => h.ns (by rw [← e]; exact hi)) hg.size, (hk pg h.self.lt h.pm.1).trans h.self, hm, h.now.keep (hk mn h.now.lt h.ne.symm), h.ne, h.np, h.ns, h.nn⟩
theorem PgAt.setNow (h : PgAt w p d pg j S J L N rd ms mn sure now H) (hm : MapAt w' 3 mn N (mapV now')) (hg : w.grownBy w' (some mn)) : PgAt w' p d pg j S J L N rd ms mn sure now' H := by
  have hk : ∀ i, i < w.heap.size → i ≠ mn → w'.heap[i]? = w.heap[i]? := fun i hi hn => hg.block i hi (by simpa using hn)
  exact ⟨h.jp.keep (fun i hi => hk i (h.jp.lt i hi) fun e => h.nn (by rw [← e]; exact hi)) hg.size, (hk pg h.self.lt h.pm.2).trans h.self, h.sure.keep (hk ms h.sure.lt h.ne), hm, h.ne, h.np, h.ns, h.nn⟩
theorem PgAt.setRound (h : PgAt w p d pg j S J L N rd ms mn sure now H) (r : Int) : PgAt (w.setCell ⟨pg, 6, none⟩ (.int .i64 r)) p d pg j S J L N r ms mn sure now H := by
  have hk : ∀ i, i ≠ pg → (w.setCell ⟨pg, 6, none⟩ (.int .i64 r)).heap[i]? = w.heap[i]? := fun i hi => Below.heap_setCell w _ _ i hi
  have hsz : (w.setCell ⟨pg, 6, none⟩ (.int .i64 r)).heap.size = w.heap.size := by simp [World.setCell]
  exact ⟨h.jp.keep (fun i hi => hk i fun e => h.np (by rw [← e]; exact hi)) (by omega), h.self.set_ 6 _, h.sure.keep (hk ms h.pm.1.symm), h.now.keep (hk mn h.pm.2.symm), h.ne, h.np, h.ns, h.nn⟩
theorem PgAt.commit (h : PgAt w p d pg j S J L N rd ms mn sure now H) :
    Calls Try.prog 15 #[ob j] w fun e w' => e = .returned (.int .i64 (commitF J S 0).1) ∧ ∃ H', PgAt w' p d pg j (commitF J S 0).2 (J.commit S 0) L N rd ms mn sure now H' ∧ Step H H' w w' := by
  refine (jcommit_any h.jp).mono ?_
  rintro e w' ⟨rfl, H', hj, hst⟩
  exact ⟨rfl, H', h.turn hj hst, hst⟩
/-- what Commit leaves -/
def CmSpec (p d pg j : Nat) (S : St) (J : Js) (L N n g : Nat) (rd : Int) (ms mn : Nat) (sure now : Pmap) (H : Nat → Prop) (rs : List (List Pt)) (A C : Pgs) (w : World) (e : Ending) (w' : World) : Prop :=
  (∃ S' J' H' sure', e = .returned (.int .i64 4) ∧ PgAt w' p d pg j S' J' L N rd ms mn sure' now H' ∧ S.arm ≠ -1 ∧ Crashy S' 0 n (PTel n L N (g + 1) A C) ∧ Step (pgF H pg ms mn) (pgF H' pg ms mn) w w') ∨
  (∃ S' J' H', e = .returned (.int .i64 15) ∧ diffP N A C ≠ [] ∧ 119 * L < (recL (diffP N A C)).length + 4 ∧ PgAt w' p d pg j S' J' L N rd ms mn (fun _ => none) now H' ∧ Pg S' J' n L N (g + 1) [] A C (fun _ => none) now ∧ (S.arm = -1 → S'.arm = -1) ∧ Step (pgF H pg ms mn) (pgF H' pg ms mn) w w') ∨
  (∃ S' J' H' sure' g', e = .returned (.int .i64 0) ∧ (diffP N A C = [] ∨ (recL (diffP N A C)).length + 4 ≤ 119 * L) ∧ g ≤ g' ∧ g' ≤ g + 1 ∧ PgAt w' p d pg j S' J' L N (rd + 1) ms mn sure' (fun _ => none) H' ∧
    Pg S' J' n L N g' (if diffP N A C = [] then rs else (if 119 * L < usedN rs + 4 + (recL (diffP N A C)).length then [] else rs) ++ [diffP N A C]) C C sure' (fun _ => none) ∧ (S.arm = -1 → S'.arm = -1) ∧ Step (pgF H pg ms mn) (pgF H' pg ms mn) w w')
theorem PTel.or2 {G : Nat} (h : Crashy S 0 n (PTel n L N G A A)) : Crashy S 0 n (PTel n L N G A C) := h.imp fun _ h => h.or
set_option maxRecDepth 100000 in
set_option maxHeartbeats 4000000 in
theorem commit_at (hP : Pg S J n L N g rs A C sure now) (h : PgAt w p d pg j S J L N rd ms mn sure now H) (hg : g + 1 ≤ 8796093022207) (hN : 3 * N ≤ 4000) (hrd : 0 ≤ rd ∧ rd ≤ 1000000000) :
    Calls Try.prog 49 #[ob pg] w fun e w' => CmSpec p d pg j S J L N n g rd ms mn sure now H rs A C w e w' := by
  have HCH := Lib.hid (changes_at hP h)
  have HP := Lib.hid hP
  have HH := Lib.hid h
  have HG := Lib.hid hg
  have HDG := Lib.hid (diff_good hP.pd.full hP.fullC)
  obtain ⟨ps, hps⟩ : ∃ ps, diffP N A C = ps := ⟨_, rfl⟩
  have HPS := Lib.hid hps
  obtain ⟨k, hk⟩ : ∃ k, (chgL N A C).length = k := ⟨_, rfl⟩
  have hkl : ps.length = k := by rw [← hps, ← hk]; simp [diffP]
  have hkN : k ≤ N := by
    rw [← hk]
    have := List.length_filter_le (fun q => decide (A q ≠ C q)) (List.range N)
    simpa [chgL] using this
  have HKL : Hid (ps.length = k ∧ k ≤ N ∧ 3 * N ≤ 4000) := Lib.hid ⟨hkl, hkN, hN⟩
  unfold ChgSpec at HCH
  rw [hk, hps] at HCH
  rw [hps] at HDG
  clear hP h hg hps hk hkl
  by_cases h0 : k = 0
  · subst h0
    have hcm := PgAt.commit (HH.out)
    have HD0 : Hid (ps = []) := Lib.hid (List.eq_nil_of_length_eq_zero HKL.out.1)
    have HAC : Hid (∀ q, q < N → A q = C q) := Lib.hid (diff_nil.1 (by rw [HPS.out, HD0.out]))
    have hoc := out_cases HP.out.pd.commit0
    obtain ⟨E, hE⟩ : ∃ E, (commitF J S 0).1 = E := ⟨_, rfl⟩
    obtain ⟨S2, hS2⟩ : ∃ S2, (commitF J S 0).2 = S2 := ⟨_, rfl⟩
    obtain ⟨J2, hJ2⟩ : ∃ J2, J.commit S 0 = J2 := ⟨_, rfl⟩
    have HCM : Hid (∀ W, Below w.heap.size w W → Calls Try.prog 15 #[ob j] W fun e w' => e = .returned (.int .i64 E) ∧ ∃ H', PgAt w' p d pg j S2 J2 L N rd ms mn sure now H' ∧ Step H H' w w') := Lib.hid fun W hb => by
      have := PgAt.commit (HH.out.below hb)
      rw [hE, hS2, hJ2] at this
      refine this.mono ?_
      rintro e w' ⟨rfl, H', a, b⟩
      exact ⟨rfl, H', a, (Step.of_below hb H).trans b⟩
    rw [hE, hS2, hJ2] at hoc
    have HOC := Lib.hid hoc
    clear hcm hoc hE hS2 hJ2
    go_enter Try.func49, Try.ntmps49
    go_wp2_with fail
    refine HCH.out.mono ?_
    rintro e w1 ⟨A1, c1, A2, c2, rfl, _, _, hb1⟩
    have HB1 := Lib.hid hb1
    have c31 := (HH.out.below hb1).cells.2.2.2.1
    clear hb1
    go_wp2_with fail
    refine (HCM.out w1 HB1.out).mono ?_
    rintro e w2 ⟨rfl, H2, hp2, hst2⟩
    have HP2 := Lib.hid hp2
    have HST2 := Lib.hid hst2
    have c25 := hp2.cells.2.2.2.2.2.1
    clear hp2 hst2 c31
    by_cases hz : E = 0
    · subst hz
      have hpd : (Pd S2 J2 n L N g rs A ∧ ∀ q, q < N → diskP S2 L q = diskP S L q) ∧ (S.arm = -1 → S2.arm = -1) := by
        rcases HOC.out with ⟨_, a, _, b⟩ | ⟨a, _⟩
        · exact ⟨a, b⟩
        · exact absurd a (by decide)
      have HPD := Lib.hid hpd
      obtain ⟨w3, hr3, hm3, hg3, hz3⟩ := HP2.out.now.clear (mt := 144) (e := 9) Try.underlying144
      have HP3 := Lib.hid (HP2.out.setNow (now' := fun _ => none) hm3 hg3)
      have HG3 := Lib.hid hg3
      have c36 := HP3.out.cells.2.2.2.2.2.2
      have f36 := HP3.out.self.frozen 6
      have hsum : IntKind.i64.wrap (rd + 1) = rd + 1 := by rw [IntKind.wrap_i64]; omega
      clear hpd hm3 hg3 hz3
      go_wp2_with fail
      go_ret
      refine .inr (.inr ⟨S2, J2, H2, sure, g, rfl, .inl (by rw [HPS.out, HD0.out]), Nat.le_refl _, by omega, HP3.out.setRound _, ?_, HPD.out.2, ?_⟩)
      · rw [HPS.out, HD0.out, if_pos rfl]
        refine ⟨HPD.out.1.1.congr HAC.out, fun q hq => ?_, fun q hq => rfl, HP.out.fullC, fun q s hs => by simp at hs, HP.out.ks⟩
        rw [← HAC.out q hq, HPD.out.1.2 q hq]
        exact HP.out.com q hq
      · exact (HST2.out.pgF_.grown HG3.out fun kk e => .inl (by cases e; exact .inr (.inr (.inr rfl)))).setCell (a := ⟨pg, 6, none⟩) (.inl (.inr (.inl rfl))) _
    · have h4 : E = 4 ∧ S.arm ≠ -1 ∧ Crashy S2 0 n (PTel n L N g A A) := by
        rcases HOC.out with ⟨a, _⟩ | a
        · exact absurd a hz
        · exact a
      have HF := Lib.hid h4.2
      have he := h4.1
      subst he
      clear h4 hz
      go_wp2_with fail
      go_ret
      exact .inl ⟨S2, J2, H2, sure, rfl, HP2.out, HF.out.1, PTel.or2 (HF.out.2.imp fun _ h => h.more (by omega)), HST2.out.pgF_⟩
  · have hkp : (0 : Int) < 3 * (k : Int) := by omega
    have hkp2 : (0 : Int) < ((3 * k : Nat) : Int) := by omega
    have HD0 : Hid (ps ≠ []) := Lib.hid (fun e => h0 (by have := HKL.out.1; rw [e] at this; exact this.symm))
    clear h0
    go_enter Try.func49, Try.ntmps49
    go_wp2_with fail
    refine HCH.out.mono ?_
    rintro e w1 ⟨A1, c1, A2, c2, rfl, _, hi1, hb1⟩
    have HB1 := Lib.hid hb1
    have HI1 := Lib.hid hi1.rd
    clear hb1 hi1
    go_wp2_with fail
    refine (append_at HP.out (HH.out.below HB1.out) HG.out ps HDG.out (by have := HKL.out; omega) A2 (3 * k) c2 (by rw [HKL.out.1]) HI1.out).mono ?_
    rintro e w2 (⟨S2, J2, H2, sure2, rfl, hp2, ha2, hcr2, hst2⟩ | ⟨S2, J2, H2, rfl, hfu2, hp2, hP2, ha2, hst2⟩ | ⟨S2, J0, J2, H2, sure2, g2, rfl, hfit, hg2, hg22, hp2, hP2, hh2, ha2, hst2⟩)
    · have HX := Lib.hid (And.intro hp2 (And.intro ha2 (And.intro hcr2 hst2)))
      clear hp2 ha2 hcr2 hst2
      go_wp2_with fail
      go_ret
      exact .inl ⟨S2, J2, H2, sure2, rfl, HX.out.1, HX.out.2.1, PTel.or2 HX.out.2.2.1, (Step.of_below_pg HB1.out).trans HX.out.2.2.2⟩
    · have HX := Lib.hid (And.intro hp2 (And.intro hP2 (And.intro ha2 (And.intro hst2 hfu2))))
      clear hp2 hP2 ha2 hst2 hfu2
      go_wp2_with fail
      go_ret
      exact .inr (.inl ⟨S2, J2, H2, rfl, by rw [HPS.out]; exact HD0.out, by rw [HPS.out]; exact HX.out.2.2.2.2, HX.out.1, HX.out.2.1, HX.out.2.2.1, (Step.of_below_pg HB1.out).trans HX.out.2.2.2.1⟩)
    · obtain ⟨rs2, hrs2⟩ : ∃ rs2, (if 119 * L < usedN rs + 4 + (recL ps).length then [] else rs) = rs2 := ⟨_, rfl⟩
      rw [hrs2] at hP2 hh2
      have hoc := out_cases (hP2.pd.commit hh2 HDG.out (by have := HKL.out; omega) HD0.out (C := C) (fun q hq => by rw [← HPS.out]; exact diff_on HP.out.pd.full HP.out.fullC q hq))
      have hcm := hp2.commit
      obtain ⟨E, hE⟩ : ∃ E, (commitF J2 S2 0).1 = E := ⟨_, rfl⟩
      obtain ⟨S3, hS3⟩ : ∃ S3, (commitF J2 S2 0).2 = S3 := ⟨_, rfl⟩
      obtain ⟨J3, hJ3⟩ : ∃ J3, J2.commit S2 0 = J3 := ⟨_, rfl⟩
      rw [hE, hS3, hJ3] at hoc hcm
      have HOC := Lib.hid hoc
      have HCM := Lib.hid hcm
      have HX := Lib.hid (And.intro hP2 (And.intro ha2 (And.intro hfit (And.intro hg2 hg22))))
      have HRS := Lib.hid hrs2
      have HST2 : Hid (Step (pgF H pg ms mn) (pgF H2 pg ms mn) w w2) := Lib.hid ((Step.of_below_pg HB1.out).trans hst2)
      have c23 := hp2.cells.2.2.2.1
      clear hP2 hh2 hp2 ha2 hst2 hfit hg2 hg22 hoc hcm hE hS3 hJ3 hrs2
      go_wp2_with fail
      refine HCM.out.mono ?_
      rintro e w3 ⟨rfl, H3, hp3, hst3⟩
      have HP3 := Lib.hid hp3
      have HST3 : Hid (Step (pgF H pg ms mn) (pgF H3 pg ms mn) w w3) := Lib.hid (HST2.out.trans hst3.pgF_)
      have c34 := hp3.cells.2.2.2.2.1
      have c35 := hp3.cells.2.2.2.2.2.1
      clear hp3 hst3 c23 HCM
      by_cases hz : E = 0
      · subst hz
        have hpd : (Pd S3 J3 n L N g2 (rs2 ++ [ps]) C ∧ ∀ q, q < N → diskP S3 L q = diskP S2 L q) ∧ (S2.arm = -1 → S3.arm = -1) := by
          rcases HOC.out with ⟨_, a, _, b⟩ | ⟨a, _⟩
          · exact ⟨a, b⟩
          · exact absurd a (by decide)
        have HPD := Lib.hid hpd
        have hcp := copym_any ms mn N (mapV sure2) (mapV now) w3.drew (HP3.out.sure.keep rfl) (HP3.out.now.keep rfl) HP3.out.ne
        unfold CopyAt at hcp
        rw [mapV_or] at hcp
        have HCP := Lib.hid hcp
        have hsum : IntKind.i64.wrap (rd + 1) = rd + 1 := by rw [IntKind.wrap_i64]; omega
        clear hpd hcp
        go_wp2_with fail
        go_region_held3 (fun W : World => W.cell? ⟨pg, 4, none⟩ = some (.map (some ms)) ∧ W.cell? ⟨pg, 5, none⟩ = some (.map (some mn))) (first | exact ⟨c34, c35⟩ | exact ⟨HP4.out.cells.2.2.2.2.1, HP4.out.cells.2.2.2.2.2.1⟩) (first | (go_at_call 91; refine HCP.out.mono ?_; rintro e w4 ⟨rfl, hm4, _, hg4⟩; have HP4 := Lib.hid ((HP3.out.below ((Below.refl _ _).drew)).setSure hm4 hg4); have HG4 := Lib.hid hg4; clear hm4 hg4))
        rename_i hh
        clear hh c34 c35 HCP
        obtain ⟨w5, hr5, hm5, hg5, hz5⟩ := HP4.out.now.clear (mt := 144) (e := 9) Try.underlying144
        have HP5 := Lib.hid (HP4.out.setNow (now' := fun _ => none) hm5 hg5)
        have HG5 := Lib.hid hg5
        have c45 := HP4.out.cells.2.2.2.2.2.1
        have c56 := HP5.out.cells.2.2.2.2.2.2
        have f56 := HP5.out.self.frozen 6
        clear hm5 hg5 hz5
        go_wp2_with fail
        go_ret
        refine .inr (.inr ⟨S3, J3, H3, orM sure2 now, g2, rfl, .inr (by rw [HPS.out]; exact HX.out.2.2.1), HX.out.2.2.2.1, HX.out.2.2.2.2, HP5.out.setRound _, ?_, fun e => HPD.out.2 (HX.out.2.1 e), ?_⟩)
        · rw [HPS.out, if_neg HD0.out, HRS.out]
          refine ⟨HPD.out.1.1, fun q hq => ?_, fun q hq => rfl, HP.out.fullC, fun q s hs => by simp at hs, fun q s hs => ?_⟩
          · rw [HPD.out.1.2 q hq, HP.out.cur q hq]
            unfold orM
            cases hn : now q with
            | some s => rfl
            | none =>
              have := HX.out.1.com q hq
              exact this
          · unfold orM at hs
            cases hn : now q with
            | some s' => exact HP.out.kn q s' hn
            | none => rw [hn] at hs; exact HX.out.1.ks q s (by simpa using hs)
        · have h1 : Step (pgF H pg ms mn) (pgF H3 pg ms mn) w w4 := (HST3.out.drew).grown HG4.out fun kk e => .inl (by cases e; exact .inr (.inr (.inl rfl)))
          exact (h1.grown HG5.out fun kk e => .inl (by cases e; exact .inr (.inr (.inr rfl)))).setCell (a := ⟨pg, 6, none⟩) (.inl (.inr (.inl rfl))) _
      · have h4 : E = 4 ∧ S2.arm ≠ -1 ∧ Crashy S3 0 n (PTel n L N g2 A C) := by
          rcases HOC.out with ⟨a, _⟩ | a
          · exact absurd a hz
          · exact a
        have HF := Lib.hid h4.2
        have he := h4.1
        subst he
        clear h4 hz
        go_wp2_with fail
        go_ret
        exact .inl ⟨S3, J3, H3, sure2, rfl, HP3.out, fun e => HF.out.1 (HX.out.2.1 e), HF.out.2.imp fun _ h => h.more HX.out.2.2.2.2, HST3.out⟩
end
end Go.Proofs.Ytjmhfjioccljeaa
/-
  Walk of package pager: Format.
-/
namespace Go.Proofs.Ytjmhfjioccljeaa
open Go.RowKit
set_option linter.unusedVariables false
set_option linter.unusedSimpArgs false
attribute [local go_sem ↓] Go.wp_at_zero Go.wp_at_succ

/-- pages of noughts -/
def zeroP : Pgs := fun _ => zeroB 256
theorem zeroP_full (N : Nat) : Full N zeroP := fun _ _ => zeroB_length _
/-- what Format makes of a new disk -/
structure Fmt (S : St) (n L N : Nat) : Prop where
  off : S.off = false
  arm : S.arm = -1
  ds : S.ds.length = 1
  tel : ∃ f, Torn S 0 n f f ∧ Fits n 0 L 1 [] ∧ Tells f 0 L 1 [] 0 ∧ ∀ q, q < N → pgS f L q = zeroB 256
def freshS (n : Nat) : St := ⟨[Dk.fresh n], false, -1⟩
theorem zero_page : sec (zeroB 256) 0 ++ sec (zeroB 256) 1 = zeroB 256 := page_two (zeroB_length _)
/-- the plain part: journal.Format, a write of noughts, a sync -/
theorem fmt_plain {n L N : Nat} (hlay : Lay n L N) (hL : L ≤ 2000) :
    checkB ((freshS n).at_ 0).size (0 : Int) (L : Int) = true ∧ (formatF (freshS n) 0 0 (L : Int)).1 = 0 ∧
    (((formatF (freshS n) 0 0 (L : Int)).2.write 0 ((256 * L : Nat) : Int) (zeroB (256 * N))).1 = 0 ∧
    (((formatF (freshS n) 0 0 (L : Int)).2.write 0 ((256 * L : Nat) : Int) (zeroB (256 * N))).2.sync 0).1 = 0 ∧
    Fmt (((formatF (freshS n) 0 0 (L : Int)).2.write 0 ((256 * L : Nat) : Int) (zeroB (256 * N))).2.sync 0).2 n L N) := by
  have hin := hlay.in_
  have hl4 := hlay.l4
  have hn1 := hlay.n1
  obtain ⟨h1, S1, h2, h3, h4, h5, h6, f, h7, h8⟩ := format_new (n := n) (q := 0) (m := L) (by omega) (by omega) hL
  rw [Nat.mul_zero] at h1 h2
  have h2' : formatF (freshS n) 0 0 (L : Int) = (0, S1) := h2
  rw [h2']
  refine ⟨h1, rfl, ?_⟩
  have hw := h6.wet.write (o := 256 * L) (b := zeroB (256 * N)) (s := 2 * L) (m := 2 * N) (g := fun _ => zeroB 128) (by omega) (by rw [zeroB_length]; omega) (by omega) (fun i hi => by
    rw [show 256 * N = 128 * (2 * N) by omega]; exact sec_zeroB hi)
  have hs := hw.2.sync
  have hc := hs.2.congr (g := fun i => if 0 ≤ i ∧ i < 0 + 2 * L then layS 1 [] (i - 0) else zeroB 128) (fun i hi => by
    by_cases h : 2 * L ≤ i ∧ i < 2 * L + 2 * N
    · rw [if_pos h, if_neg (by omega)]
    · rw [if_neg h])
  refine ⟨hw.1, hs.1, hc.off, hc.arm, ?_, _, Torn.of_calm hc, ⟨by omega, by omega, hL, Nat.le_refl _, by omega, fun r hr => by simp at hr, by simp [framesL]⟩, ?_, fun q hq => ?_⟩
  · show (((S1.write 0 _ _).2.sync 0).2).ds.length = 1
    simp [St.write, St.sync, h5]
  · have hA : arA 0 L 1 = 0 := by simp [arA]
    have hO : arO 0 L 1 = 0 + L := by simp [arO]
    refine ⟨Nat.le_refl _, fun i hi => ⟨0, by simp [framesL], by simp [framesL], ?_⟩, ?_⟩
    · rw [hA, if_pos (by omega), Nat.zero_add, Nat.sub_zero]
      simp [framesL]
    · rw [hO, if_pos (by omega)]
      have : layS 1 [] (0 + L - 0) = zeroB 128 := by
        unfold layS
        rw [if_neg (by simp; omega)]
      rw [this, genS_zero]; omega
  · unfold pgS
    have e0 : ¬ (0 ≤ 2 * (L + q) ∧ 2 * (L + q) < 0 + 2 * L) := by omega
    have e1 : ¬ (0 ≤ 2 * (L + q) + 1 ∧ 2 * (L + q) + 1 < 0 + 2 * L) := by omega
    simp only [e0, e1, if_false]
    exact zeroB_append 128 128
/-- what Format leaves -/
def FmSpec (p d n L N : Nat) (F : Nat → Prop) (w : World) (e : Ending) (w' : World) : Prop :=
  e = .returned (.int .i64 0) ∧ ∃ S' F', PwS w' p [d] S' F' ∧ Fmt S' n L N ∧ Step F F' w w'
section
variable {w w' : World} {p d n : Nat} {F : Nat → Prop}
theorem pcheck_ok {n L N : Nat} (hlay : Lay n L N) (hL : L ≤ 2000) : pcheckB (128 * n) (L : Int) (N : Int) = true := by
  have := hlay.in_
  have := hlay.l4
  have := hlay.n1
  have := hlay.nm
  unfold pcheckB rightB
  simp only [Bool.and_eq_true, decide_eq_true_eq]
  omega
theorem format_bad {as_ : List Nat} {S : St} {k : Nat} (h : PwS w p as_ S F) (hk : as_[k]? = some d) (l m : Int) (hc : pcheckB (S.at_ k).size l m = false) :
    Calls Try.prog 54 #[ob d, cfg l m] w fun e w' => Refused w e w' := by
  have hb0 : Below w.heap.size w (w.alloc (.cells #[.int .i64 l, .int .i64 m] 89)) := (Below.refl _ _).alloc (Nat.le_refl _) _
  have hch := pcheck_any (h.below hb0) hk l m
  rw [hc] at hch
  have HCH := Lib.hid hch
  have HB0 := Lib.hid hb0
  clear hch h hk hc hb0
  go_enter Try.func54, Try.ntmps54
  go_wp2_with fail
  refine HCH.out.mono ?_
  rintro e w1 ⟨rfl, hb1⟩
  have HB1 := Lib.hid (HB0.out.trans (hb1.mono HB0.out.size))
  clear hb1
  have hok : okE false = 1 := rfl
  go_wp2_with fail
  go_ret
  exact ⟨rfl, HB1.out⟩
theorem format_nil (l m : Int) (w : World) : Calls Try.prog 54 #[.pointer none, cfg l m] w fun e w' => Refused w e w' := by
  have hb0 : Below w.heap.size w (w.alloc (.cells #[.int .i64 l, .int .i64 m] 89)) := (Below.refl _ _).alloc (Nat.le_refl _) _
  have HCH := Lib.hid (pcheck_nil l m (w.alloc (.cells #[.int .i64 l, .int .i64 m] 89)))
  have HB0 := Lib.hid hb0
  clear hb0
  go_enter Try.func54, Try.ntmps54
  go_wp2_with fail
  refine HCH.out.mono ?_
  rintro e w1 ⟨rfl, hb1⟩
  have HB1 := Lib.hid (HB0.out.trans (hb1.mono HB0.out.size))
  clear hb1
  go_wp2_with fail
  go_ret
  exact ⟨rfl, HB1.out⟩
set_option maxRecDepth 100000 in
set_option maxHeartbeats 4000000 in
theorem format_at (h : PwS w p [d] (freshS n) F) (L N : Nat) (hlay : Lay n L N) (hL : L ≤ 2000) :
    Calls Try.prog 54 #[ob d, cfg L N] w fun e w' => FmSpec p d n L N F w e w' := by
  have hin := hlay.in_
  have hnm := hlay.nm
  have hz : ((freshS n).at_ 0).size = 128 * n := by
    show (Dk.fresh n).size = _
    exact fresh_size n
  have hlim : n ≤ 16384 := by
    obtain ⟨_, _, _, _, _, _, _, _, _, h2, _⟩ := h.open_ (k := 0) (d := d) rfl
    have h3 := h2.lim
    have h4 := h2.ok.rd
    have h5 : ((freshS n).at_ 0).nw.length = n := by simp [freshS, St.at_, Dk.fresh]
    omega
  obtain ⟨q1, q2, q3, q4, q5⟩ := fmt_plain hlay hL
  have hb0 : Below w.heap.size w (w.alloc (.cells #[.int .i64 (L : Int), .int .i64 (N : Int)] 89)) := (Below.refl _ _).alloc (Nat.le_refl _) _
  obtain ⟨w0, hw0⟩ : ∃ w0, w.alloc (.cells #[.int .i64 (L : Int), .int .i64 (N : Int)] 89) = w0 := ⟨_, rfl⟩
  have e0 : w0.cell? ⟨w.heap.size, 0, none⟩ = some (.int .i64 (L : Int)) := by rw [← hw0]; exact cells_new w #[.int .i64 (L : Int), .int .i64 (N : Int)].toList _ 0 _ rfl
  have e1 : w0.cell? ⟨w.heap.size, 1, none⟩ = some (.int .i64 (N : Int)) := by rw [← hw0]; exact cells_new w #[.int .i64 (L : Int), .int .i64 (N : Int)].toList _ 1 _ rfl
  have hsz0 : w0.heap.size = w.heap.size + 1 := by rw [← hw0]; simp
  have hch := pcheck_any (h.below hb0) (k := 0) rfl (L : Int) (N : Int)
  rw [hz, pcheck_ok hlay hL] at hch
  rw [hw0] at hb0 hch
  have HCH := Lib.hid hch
  have HB0 := Lib.hid hb0
  have HW := Lib.hid h
  have HE := Lib.hid (And.intro e0 (And.intro e1 hsz0))
  obtain ⟨S1, hS1⟩ : ∃ S1, (formatF (freshS n) 0 0 (L : Int)).2 = S1 := ⟨_, rfl⟩
  have HJF : Hid (∀ W, Below w.heap.size w W → Calls Try.prog 33 #[ob d, .int .i64 0, .int .i64 (L : Int)] W fun e w' => StSpec p [d] F (0, S1) W e w') := Lib.hid fun W hb => by
    have := format_any (h.below hb) (k := 0) rfl 0 (L : Int) (by omega) (by omega)
    rw [show formatF (freshS n) 0 0 (L : Int) = (0, S1) from Prod.ext q2 hS1] at this
    exact this
  rw [hS1] at q3 q4 q5
  have HQ := Lib.hid (And.intro q3 (And.intro q4 q5))
  obtain ⟨kz, hkz⟩ : ∃ kz, 256 * N = kz := ⟨_, rfl⟩
  obtain ⟨o, ho⟩ : ∃ o, 256 * L = o := ⟨_, rfl⟩
  rw [hkz, ho] at HQ
  have hkzi : IntKind.i64.wrap (256 * (N : Int)) = (kz : Int) := by rw [IntKind.wrap_i64]; omega
  have HPL : Hid (∀ W, Calls Try.prog 93 #[cfg L N, .int .i64 0] W fun e w' => BelowV (.int .i64 (o : Int)) W e w') := Lib.hid (fun W => by
    have := place_any L N 0 W (by omega) (by omega)
    rw [Nat.add_zero, ho] at this
    exact this)
  have hob : o ≤ 512000 ∧ kz ≤ 1024000 := by omega
  have HOB := Lib.hid hob
  clear hch h q1 q2 q3 q4 q5 hz hb0 hS1 hkz ho hob hsz0 hlim hin hnm hlay
  go_enter Try.func54, Try.ntmps54
  have hok : okE true = 0 := rfl
  go_wp2_with fail
  refine HCH.out.mono ?_
  rintro e w1 ⟨rfl, hb1⟩
  have HB1 : Hid (Below w0.heap.size w0 w1) := Lib.hid hb1
  have HBW : Hid (Below w.heap.size w w1) := Lib.hid (HB0.out.trans (hb1.mono HB0.out.size))
  have e10 := below_cell hb1 HE.out.1
  have e11 := below_cell hb1 HE.out.2.1
  clear hb1 hw0 HCH e0 e1
  go_wp2_with fail
  refine (HJF.out w1 HBW.out).mono ?_
  rintro e w2 ⟨rfl, F2, hp2, hst2⟩
  have HNF : Hid (¬ F w.heap.size) := Lib.hid fun hf => by have := HW.out.lt _ hf; omega
  have hlt1 : w.heap.size < w1.heap.size := by have := HB1.out.size; have := HE.out.2.2; omega
  have hbk := hst2.block w.heap.size hlt1 HNF.out
  have e20 : w2.cell? ⟨w.heap.size, 0, none⟩ = some (.int .i64 (L : Int)) := (World.cell?_of_block hbk).trans e10
  have e21 : w2.cell? ⟨w.heap.size, 1, none⟩ = some (.int .i64 (N : Int)) := (World.cell?_of_block hbk).trans e11
  have HP2 := Lib.hid hp2
  have HST2 : Hid (Step F F2 w w2) := Lib.hid ((Step.of_below HBW.out F).trans hst2)
  have HK : Hid (∀ W, Below w2.heap.size w2 W → W.cell? ⟨w.heap.size, 0, none⟩ = some (.int .i64 (L : Int)) ∧ W.cell? ⟨w.heap.size, 1, none⟩ = some (.int .i64 (N : Int))) := Lib.hid fun W hb => ⟨below_cell hb e20, below_cell hb e21⟩
  have hmk : ∀ W : World, (Instr.makeSlice 37 (.int .i64 (kz : Int)) (.int .i64 (kz : Int))).run Try.prog W = .ok (.slice (some ⟨W.heap.size, 0, none⟩) kz kz) (W.alloc (.cells (madeCells #[.int .u8 0] kz) 5)) := fun W => run_makeB kz (by have := HOB.out; omega) W
  obtain ⟨E3, hE3⟩ : ∃ E, (S1.write 0 (o : Int) (zeroB kz)).1 = E := ⟨_, rfl⟩
  obtain ⟨S3, hS3⟩ : ∃ S3, (S1.write 0 (o : Int) (zeroB kz)).2 = S3 := ⟨_, rfl⟩
  rw [hE3, hS3] at HQ
  have HWR : Hid (∀ (W W2 : World), Below w2.heap.size w2 W → Below (W.alloc (.cells (madeCells #[.int .u8 0] kz) 5)).heap.size (W.alloc (.cells (madeCells #[.int .u8 0] kz) 5)) W2 → Calls Try.prog 67 #[ob d, .int .i64 (o : Int), .slice (some ⟨W.heap.size, 0, none⟩) kz kz] W2 fun e w' => e = .returned (.int .i64 E3) ∧ ∃ F3, PwS w' p [d] S3 F3 ∧ Step F2 F3 w2 w') := Lib.hid fun W W2 hb hb2 => by
    have hal : Below W.heap.size W (W.alloc (.cells (madeCells #[.int .u8 0] kz) 5)) := (Below.refl _ _).alloc (Nat.le_refl _) _
    have hbW : Below w2.heap.size w2 W2 := hb.trans ((hal.trans (hb2.mono hal.size)).mono hb.size)
    have hr := (rd_zero W kz).below hb2
    have hwr := st_write (HP2.out.below hbW) (k := 0) rfl (o : Int) (some ⟨W.heap.size, 0, none⟩) (zeroB kz) kz (by have := HOB.out; omega) (by rw [zeroB_length]; unfold maxLen; have := HOB.out; omega) hr (fun ad e hf => by
      cases e
      have h1 := HP2.out.lt _ hf
      have h2 := hb.size
      have h3 : W.heap.size < w2.heap.size := h1
      omega)
    rw [zeroB_length] at hwr
    refine hwr.mono ?_
    rintro e w' ⟨rfl, F3, a, b⟩
    rw [hS3] at a
    exact ⟨by rw [hE3], F3, a, (Step.of_below hbW F2).trans b⟩
  have HD0 : Hid (Below w2.heap.size w2 w2.drew) := Lib.hid ((Below.refl _ _).drew)
  have HD1 : Hid (Below w2.heap.size w2 ((w2.alloc (.cells (madeCells #[.int .u8 0] kz) 5)).drew)) := Lib.hid (((Below.refl w2.heap.size w2).alloc (Nat.le_refl _) _).drew)
  have HWR1 : Hid (∀ W, Hid (Below w2.heap.size w2 W) → Calls Try.prog 67 #[ob d, .int .i64 (o : Int), .slice (some ⟨W.heap.size, 0, none⟩) kz kz] (W.alloc (.cells (madeCells #[.int .u8 0] kz) 5)) fun e w' => e = .returned (.int .i64 E3) ∧ ∃ F3, PwS w' p [d] S3 F3 ∧ Step F2 F3 w2 w') := Lib.hid fun W hb => HWR.out W _ hb.out (Below.refl _ _)
  have HWR2 : Hid (∀ W, Below ((w2.alloc (.cells (madeCells #[.int .u8 0] kz) 5)).drew).heap.size ((w2.alloc (.cells (madeCells #[.int .u8 0] kz) 5)).drew) W → Calls Try.prog 67 #[ob d, .int .i64 (o : Int), .slice (some ⟨w2.heap.size, 0, none⟩) kz kz] W fun e w' => e = .returned (.int .i64 E3) ∧ ∃ F3, PwS w' p [d] S3 F3 ∧ Step F2 F3 w2 w') := Lib.hid fun W hb => HWR.out w2 W (Below.refl _ _) (undrew hb)
  have HNF2 : Hid (¬ F2 w.heap.size ∧ w.heap.size < w2.heap.size) := Lib.hid ⟨fun hf => by
    rcases hst2.fresh _ hf with h1 | h1
    · exact HNF.out h1
    · omega, by have := hst2.size; omega⟩
  clear hp2 hst2 hbk hlt1 hE3 hS3 e10 e11 HJF
  go_wp2_with fail
  go_region_held (fun W : World => W.cell? ⟨w.heap.size, 0, none⟩ = some (.int .i64 (L : Int)) ∧ W.cell? ⟨w.heap.size, 1, none⟩ = some (.int .i64 (N : Int))) (first | (with_reducible exact HK.out _ HD0.out) | (with_reducible exact HK.out _ HB3.out) | (with_reducible exact HK.out _ (HB3.out.alloc HB3.out.size _)) | (with_reducible exact HK.out _ HD1.out) | exact ⟨e40, e41⟩) (first | (go_at_call 93; go_must (refine (HPL.out _).mono ?_; rintro e w3 ⟨rfl, hb3⟩; have HB3 : Hid (Below w2.heap.size w2 w3) := (by first | exact Lib.hid (HD0.out.trans (hb3.mono HD0.out.size)) | exact Lib.hid (HD1.out.trans (hb3.mono HD1.out.size))))) | (go_at_call 67; go_must ((first | (with_reducible refine (HWR1.out _ HB3).mono ?_) | (with_reducible refine (HWR2.out _ hb3).mono ?_)); rintro e w4 ⟨rfl, F3, hp3, hst3⟩; have hbk4 := hst3.block w.heap.size HNF2.out.2 HNF2.out.1; have e40 := (World.cell?_of_block (a := ⟨w.heap.size, 0, none⟩) hbk4).trans e20; have e41 := (World.cell?_of_block (a := ⟨w.heap.size, 1, none⟩) hbk4).trans e21; have HP3 := Lib.hid hp3; have HST3 : Hid (Step F F3 w w4) := Lib.hid (HST2.out.trans hst3); clear hp3 hst3 hbk4)))
  all_goals
    rename_i hh
    clear hh e40 e41 e20 e21
    have hz3 : E3 = 0 := HQ.out.1
    subst hz3
    have hsy := st_sync HP3.out (k := 0) rfl
    rw [show S3.sync 0 = (0, (S3.sync 0).2) from Prod.ext HQ.out.2.1 rfl] at hsy
    have HSY := Lib.hid hsy
    clear hsy
    go_wp2_with fail
    refine HSY.out.mono ?_
    rintro e w5 ⟨rfl, F5, hp5, hst5⟩
    have HX := Lib.hid (And.intro hp5 (HST3.out.trans hst5))
    clear hp5 hst5
    go_wp2_with fail
    go_ret
    exact ⟨rfl, _, F5, HX.out.1, HQ.out.2.2, HX.out.2⟩
end
end Go.Proofs.Ytjmhfjioccljeaa
/-
  slices.Chunk over a row of items, three at a time: its iterator's contract.
-/
namespace Go.Proofs.Ytjmhfjioccljeaa
open Go.RowKit Go.Shelf
set_option linter.unusedVariables false
set_option linter.unusedSimpArgs false
attribute [local go_sem] Oper.semAt_some

/-- the three items of change x -/
def chunkV (g x : Nat) : Value := .slice (some ⟨g, x * 3 * 3, none⟩) 3 3
/-- what a round keeps: all blocks below B0 but one -/
def KpB (B0 mn : Nat) (W W' : World) : Prop := ∀ i, i < B0 → i ≠ mn → W'.heap[i]? = W.heap[i]?
theorem chunk_any (g k c : Nat) (w : World) : Calls Try.prog 114 #[.slice (some ⟨g, 0, none⟩) k c, .int .i64 3] w fun e w' =>
    e = .returned (.func (.func 123) #[] #[.pointer (some ⟨w.heap.size, 0, none⟩), .pointer (some ⟨w.heap.size + 1, 0, none⟩)]) ∧ (w.alloc (.cells #[.slice (some ⟨g, 0, none⟩) k c] 147)).alloc (.cells #[.int .i64 3] 3) = w' := by
  go_enter Try.func114, Try.ntmps114
  go_wp2_with fail
  go_ret
  exact ⟨rfl, rfl⟩
def firstF (m k : Nat) : List (Fin m) := (List.finRange m).take k
theorem firstF_succ {m k : Nat} (h : k < m) : firstF m (k + 1) = firstF m k ++ [⟨k, h⟩] := by
  unfold firstF
  rw [List.take_succ_eq_append_getElem (by simpa using h)]
  simp
theorem firstF_length {m k : Nat} (h : k ≤ m) : (firstF m k).length = k := by simp [firstF]; omega
theorem firstF_all (m : Nat) : firstF m m = List.finRange m := List.take_of_length_le (by simp)
theorem kpb_cell {B0 mn : Nat} {W W' : World} (h : KpB B0 mn W W') {a : Addr} (ha : a.block < B0) (hn : a.block ≠ mn) {v : Value} (hc : W.cell? a = some v) : W'.cell? a = some v := (World.cell?_of_block (h a.block ha hn)).trans hc
theorem kpb_trans {B0 mn : Nat} {A B C : World} (h : KpB B0 mn A B) (k : KpB B0 mn B C) : KpB B0 mn A C := fun i hi hn => (k i hi hn).trans (h i hi hn)
set_option maxRecDepth 100000 in
set_option maxHeartbeats 2000000 in
theorem chunk1_in (n : Nat) (hn : 1 ≤ n) (l Bs Bn B0 mn g m cap : Nat) (hm : m ≤ 2000) (hcap : 3 * m ≤ cap) (hcm : cap ≤ maxLen) (hs0 : Bs < B0 ∧ Bs ≠ mn) (hn0 : Bn < B0 ∧ Bn ≠ mn) (J Jx : List (Fin m) → World → Prop)
    (hY : ∀ pre x W, J pre W → pre.length < m → YieldAt Fence.wide (n - 1) Try.prog l #[chunkV g x.1] W fun e W' =>
      (e = .returned (.bool true) ∧ J (pre ++ [x]) W' ∧ KpB B0 mn W W') ∨ (e = .returned (.bool false) ∧ Jx (pre ++ [x]) W'))
    (hJd : ∀ pre W, J pre W → J pre W.drew) (W : World) (hBs : W.cell? ⟨Bs, 0, none⟩ = some (.slice (some ⟨g, 0, none⟩) (3 * m) cap)) (hBn : W.cell? ⟨Bn, 0, none⟩ = some (.int .i64 3)) (h0 : J [] W) :
    CallsIn Fence.wide n Try.prog 123 #[.func (.yield l) #[] #[], .pointer (some ⟨Bs, 0, none⟩), .pointer (some ⟨Bn, 0, none⟩)] W fun e W' => (∃ v, e = .returned v) ∧
      ((∃ ys, ys = List.finRange m ∧ J ys W') ∨ (∃ pre, True ∧ Jx pre W')) := by
  refine callsIn_of_wp Try.func123 rfl trivial ?_ rfl
  simp only [Try.ntmps123, List.size_toArray, List.length_cons, List.length_nil, Nat.reduceAdd, Nat.reduceSub, Array.replicate_succ, Array.replicate_zero, List.push_toArray, List.append_toArray, List.nil_append, List.cons_append]
  unfold maxLen at hcm
  obtain ⟨M, hM⟩ : ∃ M, 3 * m = M := ⟨_, rfl⟩
  rw [hM] at hBs
  have HM := Lib.hid hM
  have hM2 : M ≤ 6000 := by omega
  have HBS : Hid (∀ W', KpB B0 mn W W' → W'.cell? ⟨Bs, 0, none⟩ = some (.slice (some ⟨g, 0, none⟩) M cap) ∧ W'.cell? ⟨Bn, 0, none⟩ = some (.int .i64 3)) := Lib.hid fun W' h => ⟨kpb_cell h hs0.1 hs0.2 hBs, kpb_cell h hn0.1 hn0.2 hBn⟩
  have HCP : Hid (M ≤ cap) := Lib.hid (by omega)
  have HY := Lib.hid hY
  clear hM hs0 hn0 hcap hY
  gi_wp2
  gi_loopw [4] (fun i wr => ∃ k : Nat, k ≤ m ∧ i = .int .i64 ((3 * k : Nat) : Int) ∧ Hid (J (firstF m k) wr ∧ KpB B0 mn W wr)) (fun i _ => M - (intOf i).toNat)
  case atStart => exact ⟨0, Nat.zero_le _, rfl, Lib.hid ⟨h0, fun _ _ _ => rfl⟩⟩
  case round =>
    obtain ⟨k, hk, rfl, HJ⟩ := hrel
    obtain ⟨cs, cn⟩ := HBS.out wr HJ.out.2
    obtain ⟨q, hq⟩ : ∃ q, 3 * k = q := ⟨_, rfl⟩
    have HQ := Lib.hid hq
    rw [hq]
    clear hq hBs hBn
    by_cases hlt : q < M
    · have hkm : k < m := by have := HQ.out; have := HM.out; omega
      have hcd : wr.drew.cell? ⟨Bs, 0, none⟩ = some (.slice (some ⟨g, 0, none⟩) M cap) := cs
      have hnd : wr.drew.cell? ⟨Bn, 0, none⟩ = some (.int .i64 3) := cn
      obtain ⟨fn, tmps, assign, body, hy, hR⟩ := HY.out _ ⟨k, hkm⟩ wr.drew (hJd _ _ HJ.out.1) (by rw [firstF_length hk]; exact hkm)
      have HR := Lib.hid hR
      have hmin : min (3 : Int) ((M - q : Nat) : Int) = 3 := by have := HQ.out; have := HM.out; omega
      have hcv : chunkV g k = .slice (some ⟨g, q * 3, none⟩) 3 3 := by unfold chunkV; rw [← HQ.out, Nat.mul_comm k 3]
      rw [hcv] at hy
      have hq3 : (q : Int) + 3 ≤ (M : Int) := by have := HQ.out; have := HM.out; omega
      have hMc : (M : Int) ≤ (cap : Int) := by have := HCP.out; omega
      clear hR
      gi_wp2
      gi_region
      clear hcv
      gi_wp2
      refine HR.out.mono ?_
      rintro e W3 (⟨rfl, hJ3, hk3⟩ | ⟨rfl, hJx3⟩)
      · have HJ3 : Hid (J (firstF m (k + 1)) W3 ∧ KpB B0 mn W W3) := Lib.hid ⟨by rw [firstF_succ hkm]; exact hJ3, kpb_trans HJ.out.2 hk3⟩
        obtain ⟨cs3, cn3⟩ := HBS.out W3 HJ3.out.2
        clear hJ3 hk3
        gi_wp2
        refine ⟨⟨k + 1, by omega, ?_, HJ3⟩, ?_⟩
        · exact int_eq (by have := HQ.out; omega)
        · simp [intOf]; have := HQ.out; omega
      · have HX := Lib.hid hJx3
        clear hJx3
        gi_wp2
        refine bodyPost_ret (results_none rfl _ _ _) rfl ?_
        exact ⟨⟨_, rfl⟩, .inr ⟨_, trivial, HX.out⟩⟩
    · have hke : k = m := by have := HQ.out; have := HM.out; omega
      subst hke
      have HX : Hid (J (List.finRange k) wr) := Lib.hid (by rw [← firstF_all]; exact HJ.out.1)
      gi_wp2
      go_end0
      exact ⟨⟨_, rfl⟩, .inl ⟨_, rfl, HX.out⟩⟩
end Go.Proofs.Ytjmhfjioccljeaa
/-
  A region that draws its order, in a round of a loop over a function: reads, and one operation at its end.
-/
namespace Go.Proofs.Ytjmhfjioccljeaa
set_option linter.unusedVariables false
set_option linter.unusedSimpArgs false

section
variable {P : Program} {l n : Nat} {Q : Exit → Act → World → Prop}
theorem rows_round {row : String} {args : Array Value} {w : World} {R : Value → World → Prop} (h : Rows P row args w R) : RowsIn (Fence.wide.inRound l) n P row args w R := fun c cs _ =>
  let ⟨v, w', r, s⟩ := h c cs
  ⟨v, w', r, stepsIn_wide.2 s⟩
/-- one operation that is no defer statement: as outside a round -/
theorem op_round {o : Oper} {a : Act} {w : World} {next next' : Act → World → Prop} (hd : ∀ c, o.op ≠ .defer c) (hn : ∀ a w, next a w → next' a w) (h : o.wp P a w next Q) : o.wpIn (Fence.wide.inRound l) n P a w next' Q := by
  refine ⟨fun _ _ => trivial, ?_⟩
  unfold Oper.wp at h
  show Oper.uponIn _ n P o a next' Q ((o.semAt (some l) a.eval).run P w)
  rw [Oper.semAt_some l a.eval o hd]
  cases hr : (execOp a.eval o).run P w with
  | ok v w' =>
    rw [hr] at h
    cases v with
    | value v => exact hn _ _ h
    | skip => exact hn _ _ h
    | defer d => exact hn _ _ h
    | enter f args =>
      have h2 : CallsIn (Fence.wide.inRound l) (n - 1) P f args w' (fun
          | .returned v, w'' => next' (a.put o.dst v) w''
          | .panicked chain, w'' => Q (.panic chain) a w''
          | .outgrown, _ => LetsOut Q) := by
        refine CallsIn.inRound l (callsIn_wide.2 (Calls.mono h ?_))
        intro e w'' he
        cases e with
        | returned v => exact hn _ _ he
        | panicked c => exact he
        | outgrown => exact he
      exact ⟨(fun h3 => by simp [Fence.wide] at h3), h2⟩
    | row r x => exact ⟨(fun h3 => by simp [Fence.wide] at h3), rows_round (Rows.mono h fun v w'' he => hn _ _ he)⟩
    | _ => exact h.elim
  | halt h0 w' =>
    rw [hr] at h
    cases h0 <;> exact h
theorem ops_round {ops : Array Oper} (hd : ∀ (i : Nat) (o : Oper), ops[i]? = some o → ∀ c, o.op ≠ .defer c) (hLO : ¬ LetsOut Q) : ∀ (is : List Nat) (a : Act) (w : World), wpOps P ops Q is a w → wpOpsIn (Fence.wide.inRound l) n P ops Q is a w
  | [], a, w, h => h
  | i :: rest, a, w, h => by
    unfold wpOps at h
    unfold wpOpsIn
    cases ho : ops[i]? with
    | none =>
      rw [ho] at h
      exact ops_round hd hLO rest a w h
    | some o =>
      rw [ho] at h
      simp only at h ⊢
      by_cases hw : Region.wanted o (yielded ops a.tmps) = true
      · rw [if_pos hw] at h ⊢
        rcases h with h | h
        · exact op_round (hd i o ho) (fun a w h => ops_round hd hLO rest a w h) h
        · exact absurd h.2 hLO
      · rw [if_neg hw] at h ⊢
        exact ⟨fun _ _ => trivial, ops_round hd hLO rest _ w h⟩
/-- reads in whatever order, then what stands last -/
theorem region_round {id : Nat} {a : Act} {w : World} {ol : List Oper} (k : Nat) (hm : P.follows .mixedOrders = true) (hB : Region.lexTailB .any ol.toArray k = true) (hd : ∀ (i : Nat) (o : Oper), ol.toArray[i]? = some o → ∀ c, o.op ≠ .defer c) (hLO : ¬ LetsOut Q)
    (h : wpStill P ol.toArray w.drew (fun a' => wpList P ol.toArray Q (ol.drop k) a' w.drew) (ol.take k) a) : (Code.region id ol.toArray true).wpIn (Fence.wide.inRound l) n P Q a w := by
  refine wpIn_region_draw fun t => ops_round hd hLO _ _ _ ?_
  simp only [Region.schedule, hm, Bool.true_or, if_true]
  refine wpAny_sound ol.toArray.size t _ a _ ?_
  simp only [Region.lexTailB, Bool.and_eq_true, decide_eq_true_eq] at hB
  obtain ⟨⟨⟨⟨h1, h2⟩, h3⟩, h4⟩, h5⟩ := hB
  have hk : k < ol.length := by simpa using h2
  have htk : (ol.take k).length = k := by rw [List.length_take]; omega
  have hdk : (ol.drop k).length = ol.toArray.size - k := by simp
  have hi : HeadInv .any ol.toArray k (Array.replicate ol.toArray.size false) :=
    ⟨by simp, fun _ _ _ e => (by rw [getD_replicate_false] at e; cases e), fun _ _ e => getD_in (by simpa using e) (getD_replicate_false _ _)⟩
  have hh := wpAny_of_head (Q' := Q) (g := ol.toArray.size - k) (fun listed a' e => by
    have e2 := wpAny_of_seq (md := .any) (Q' := Q) (ol.drop k) k listed a' w.drew (fun j => by simp [List.getElem?_drop]) (by rw [hdk]; exact e.1) e.2
    rwa [hdk] at e2) _ _ _ (wpAnyL_lex (md := .any) (g := ol.toArray.size - k) h1 h3 h4 h2 (ol.take k) 0 _ a (fun j hj => by rw [htk] at hj; simp [hj]) (by simpa using htk) hi (by rw [htk]; exact h5) h)
  rw [htk, show k + (ol.toArray.size - k) = ol.toArray.size by omega] at hh
  exact hh
/-- .. the same, whatever the post says of a world that is outgrown -/
def Inn (Q : Exit → Act → World → Prop) (e : Exit) (a : Act) (w : World) : Prop := e ≠ .outgrown ∧ Q e a w
theorem inn_out : ¬ LetsOut (Inn Q) := fun ⟨_, _, h⟩ => h.1 rfl
theorem inn_normal {a : Act} {w : World} (h : Q .normal a w) : Inn Q .normal a w := ⟨(fun e => by cases e), h⟩
theorem region_round' {id : Nat} {a : Act} {w : World} {ol : List Oper} (k : Nat) (hm : P.follows .mixedOrders = true) (hB : Region.lexTailB .any ol.toArray k = true) (hd : ∀ (i : Nat) (o : Oper), ol.toArray[i]? = some o → ∀ c, o.op ≠ .defer c)
    (h : wpStill P ol.toArray w.drew (fun a' => wpList P ol.toArray (Inn Q) (ol.drop k) a' w.drew) (ol.take k) a) : (Code.region id ol.toArray true).wpIn (Fence.wide.inRound l) n P Q a w :=
  wpIn_mono (region_round k hm hB hd inn_out h) fun _ _ _ h => h.2
end
end Go.Proofs.Ytjmhfjioccljeaa
/-
  Walk of package pager: redo.
-/
namespace Go.Proofs.Ytjmhfjioccljeaa
open Go.RowKit Go.Shelf
set_option linter.unusedVariables false
set_option linter.unusedSimpArgs false
attribute [local go_sem] Oper.semAt_some

theorem chunk_stops (n : Nat) (hn : 1 ≤ n) (Bs Bn B0 mn g m cap : Nat) (hm : m ≤ 2000) (hcap : 3 * m ≤ cap) (hcm : cap ≤ maxLen) (hs0 : Bs < B0 ∧ Bs ≠ mn) (hn0 : Bn < B0 ∧ Bn ≠ mn) (w : World)
    (hBs : w.cell? ⟨Bs, 0, none⟩ = some (.slice (some ⟨g, 0, none⟩) (3 * m) cap)) (hBn : w.cell? ⟨Bn, 0, none⟩ = some (.int .i64 3)) :
    SeqStopsK Fence.wide n Try.prog 123 #[.pointer (some ⟨Bs, 0, none⟩), .pointer (some ⟨Bn, 0, none⟩)] (fun x : Fin m => #[chunkV g x.1]) (KpB B0 mn) (fun ys => ys = List.finRange m) (fun _ => True) m w :=
  fun l J Jx W hW hJ hJx hY h0 => chunk1_in n hn l Bs Bn B0 mn g m cap hm hcap hcm hs0 hn0 J Jx hY
    (fun pre W1 hJW => hJ pre W1 W1.drew none hJW ⟨rfl, rfl, rfl, Nat.le_refl _, fun _ _ _ => rfl⟩ (fun r e => by cases e)) W (below_cell hW hBs) (below_cell hW hBn) h0
theorem kpb_put {B0 mn : Nat} {w : World} (hB : B0 ≤ w.heap.size) : ∀ (W : World) (l : Nat) (o o' : Obj), w.heap.size ≤ l → W.heap[l]? = some o → o.isCells = false → o.isWalk = false → KpB B0 mn W (W.putObj l o') :=
  fun W l o o' hl _ _ _ i hi _ => World.putObj_heap_other (by omega)
section
variable {w w' : World} {p d pg j L N ms mn n g : Nat} {S : St} {J : Js} {rd : Int} {sure now : Pmap} {H K : Nat → Prop} {A C : Pgs}
/-- what redo leaves -/
def RdoSpec (p d pg j : Nat) (S : St) (J : Js) (L N n : Nat) (rd : Int) (ms mn : Nat) (H : Nat → Prop) (A : Pgs) (ps : List Pt) (w : World) (e : Ending) (w' : World) : Prop :=
  e = .returned (.int .i64 0) ∧ ∃ sure' A', PgAt w' p d pg j S J L N rd ms mn sure' (fun _ => none) H ∧ Pq S n L N A' A' sure' (fun _ => none) ∧ (∀ q, q < N → A' q = ptsOn ps A q) ∧ Step (pgF H pg ms mn) (pgF H pg ms mn) w w'
def pt0 : Pt := ⟨0, 0, []⟩
/-- between two rounds -/
def RdoI (p d pg j : Nat) (S : St) (J : Js) (L N n : Nat) (rd : Int) (ms mn : Nat) (sure : Pmap) (H : Nat → Prop) (A : Pgs) (ps : List Pt) (m : Nat) (w0 : World) (pre : List (Fin m)) (W : World) : Prop :=
  ∃ now' C', PgAt W p d pg j S J L N rd ms mn sure now' H ∧ Pq S n L N A C' sure now' ∧ (∀ q, q < N → C' q = ptsOn (pre.map fun x => ps.getD x.1 pt0) A q) ∧ Step (one mn) No w0 W
theorem RdoI.own {ps : List Pt} {m : Nat} {w0 : World} (hl : ∀ i, pgF H pg ms mn i → i < w0.heap.size) : OwnFrom w0.heap.size (RdoI p d pg j S J L N n rd ms mn sure H A ps m w0) := by
  rintro s W W' row ⟨now', C', h1, h2, h3, h4⟩ hg hr
  refine ⟨now', C', h1.keep (fun i hi => hg.block i (h1.lt i hi) fun e => ?_) hg.size, h2, h3, h4.grown hg fun k e => .inr (hr k e).1⟩
  have := (hr i e.symm).1
  have := hl i hi
  omega
theorem own_capm_g {w : World} {base c n size : Nat} {e : TypeId} {A : Option Addr} {xs : List Value} (h : OwnR w base e size A n c xs) : c ≤ maxLen := by
  rcases h.2 with ⟨e0, _⟩ | ⟨g, cap, cur, e0, _, _, _, hcm, _⟩
  · injection e0 with _ _ e1; rw [e1]; exact Nat.zero_le _
  · injection e0 with _ _ e1; rw [e1]; exact hcm
theorem map_fin (ps : List Pt) (m : Nat) (h : ps.length = m) : (List.finRange m).map (fun x => ps.getD x.1 pt0) = ps := by
  subst h
  apply List.ext_getElem
  · simp
  · intro i h1 h2
    simp
theorem its_at (ps : List Pt) (x : Nat) (hx : x < ps.length) : ∀ j, j < 9 → (icI (itsL ps))[9 * x + j]? = (icI (ps.getD x pt0).its)[j]? := by
  induction ps generalizing x with
  | nil => simp at hx
  | cons q ps ih =>
    intro j hj
    have e : icI (itsL (q :: ps)) = icI q.its ++ icI (itsL ps) := by
      show icI (q.its ++ itsL ps) = _
      exact icI_append _ _
    have hl := icI_len3 q
    cases x with
    | zero =>
      rw [e, Nat.mul_zero, Nat.zero_add, List.getElem?_append_left (by omega)]
      rfl
    | succ x =>
      rw [e, List.getElem?_append_right (by omega), hl, show 9 * (x + 1) + j - 9 = 9 * x + j by omega]
      simpa using ih x (by simpa using hx) j hj
set_option maxRecDepth 100000 in
set_option maxHeartbeats 4000000 in
theorem redo_at (hP : Pq S n L N A A sure (fun _ => none)) (h : PgAt w p d pg j S J L N rd ms mn sure (fun _ => none) H) (ps : List Pt) (hps : ∀ x ∈ ps, x.Good N) (hpl : 3 * ps.length ≤ 4000) (hne : ps ≠ []) :
    Calls Try.prog 95 #[ob pg, .string (bs (recL ps))] w fun e w' => RdoSpec p d pg j S J L N n rd ms mn H A ps w e w' := by
  obtain ⟨b1, b2, b3, b4⟩ := hP.dsk.bounds
  obtain ⟨x, hx⟩ : ∃ x, bs (recL ps) = x := ⟨_, rfl⟩
  obtain ⟨m, hm⟩ : ∃ m, ps.length = m := ⟨_, rfl⟩
  have hit := rec_items b2 hps hpl
  have hlen : (recL ps).length ≤ 200020000 := by
    have h1 := encs_le (itsL ps) (its_good b2 hps)
    have h2 : (recL ps).length ≤ 50005 * (itsL ps).length := h1
    rw [its_length] at h2
    omega
  have hxs : x.size = (recL ps).length := by rw [← hx, bs_size]
  obtain ⟨w1, hw1⟩ : ∃ w1, (w.alloc (.cells #[ob pg] 82)).alloc (.cells #[.int .i64 0] 29) = w1 := ⟨_, rfl⟩
  have hb1 : Below w.heap.size w w1 := by rw [← hw1]; exact ((Below.refl _ w).alloc (Nat.le_refl _) _).alloc (by simp) _
  have hz1 : w1.heap.size = w.heap.size + 2 := by rw [← hw1]; simp
  have hitm := items_any (some ⟨w1.heap.size, 0, none⟩) (recL ps) (convC x w1) (convW x w1) (by unfold maxLen; omega) (by rw [← hxs]; exact (conv_cap x w1 (by omega)).1) (by
    have := (conv_own x w1 (by omega)).rd
    rw [← hx, data_bs] at this
    rw [← hx]; exact this)
  have hrl : (itsL ps).length = 3 * m := by rw [its_length, hm]
  obtain ⟨M, hM⟩ : ∃ M, 3 * m = M := ⟨_, rfl⟩
  have hm0 : 0 < m := by rw [← hm]; exact List.length_pos_iff.2 hne
  obtain ⟨bl, hbl⟩ : ∃ bl, (recL ps).length = bl := ⟨_, rfl⟩
  have HIT : Hid (Calls Try.prog 113 #[.slice (some ⟨w1.heap.size, 0, none⟩) bl (convC x w1)] (convW x w1) fun e w' => ∃ A' c', e = .returned (.tuple #[.slice A' M c', .int .i64 0]) ∧ OwnI w' (convW x w1).heap.size A' c' (itsL ps) ∧ Below (convW x w1).heap.size (convW x w1) w') := Lib.hid (by
    unfold ItemsSpec at hitm
    rw [hit] at hitm
    simp only [hrl, hM, hbl] at hitm
    exact hitm)
  have HB2 : Hid (∀ W, Below (convW x w1).heap.size (convW x w1) W → Below w.heap.size w W ∧ Below w1.heap.size w1 W) := Lib.hid fun W hb => by
    have h2 := (conv_below x w1).trans (hb.mono (by rw [conv_size]; omega))
    exact ⟨hb1.trans (h2.mono hb1.size), h2⟩
  have e1 : w1.cell? ⟨w.heap.size, 0, none⟩ = some (ob pg) := by
    rw [← hw1]; exact below_cell ((Below.refl _ _).alloc (Nat.le_refl _) _) (cells_new w #[ob pg].toList _ 0 _ rfl)
  have e2 : w1.cell? ⟨w.heap.size + 1, 0, none⟩ = some (.int .i64 0) := by
    rw [← hw1]
    have := cells_new (w.alloc (.cells #[ob pg] 82)) #[.int .i64 0].toList 29 0 _ rfl
    simp only [World.size_alloc] at this
    exact this
  have f2 : w1.frozen? ⟨w.heap.size + 1, 0, none⟩ = false := by
    rw [← hw1]
    have := World.alloc_heap_new (w.alloc (.cells #[ob pg] 82)) (.cells #[.int .i64 0] 29)
    rw [World.size_alloc] at this
    exact (Blk.frozen (w := (w.alloc (.cells #[ob pg] 82)).alloc (.cells #[.int .i64 0] 29)) (cs := #[.int .i64 0]) this 0)
  have HE := Lib.hid (And.intro e1 (And.intro e2 (And.intro f2 hz1)))
  have HH := Lib.hid h
  have HP := Lib.hid hP
  have HPS := Lib.hid (And.intro hps (And.intro hpl (And.intro hm hM)))
  have HCZ : Hid ((convW x w1).heap.size = w.heap.size + 3) := Lib.hid (by rw [conv_size, hz1])
  rw [hx]
  refine (callsIn_wide (n := 5)).1 ?_
  refine callsIn_of_wp_marks Try.func95 rfl trivial ?_ rfl
  simp only [Try.ntmps95, List.size_toArray, List.length_cons, List.length_nil, Nat.reduceAdd, Nat.reduceSub, Array.replicate_succ, Array.replicate_zero, List.push_toArray, List.append_toArray, List.nil_append, List.cons_append]
  have hcv := fun W => conv_run x W
  rw [hxs, hbl] at hcv
  have ht1 : ((M : Int).tmod 3 != 0) = false := by rw [bne_eq_false_iff_eq, Int.tmod_eq_emod_of_nonneg (by omega)]; omega
  have ht2 : ((M : Int) % 3 != 0) = false := by rw [bne_eq_false_iff_eq]; omega
  have hMb : M ≤ 4000 := by omega
  clear hps hpl hne hx hit hlen hxs hb1 hitm hrl hm hbl hz1 e1 e2 f2 h hP
  gi_wp2
  refine ⟨trivial, ?_⟩
  with_reducible refine (callsIn_wide.2 HIT.out).mono ?_
  rintro e w2 ⟨A2, c2, rfl, hown, hb2⟩
  obtain ⟨hB2, hB21⟩ := HB2.out w2 hb2
  have HB := Lib.hid (And.intro hB2 hB21)
  obtain ⟨g0, rfl⟩ := OwnR.some_ hown (by rw [its_length, HPS.out.2.2.1]; omega)
  have HO := Lib.hid hown
  have e1 : w2.cell? ⟨w.heap.size, 0, none⟩ = some (ob pg) := below_cell hB21 HE.out.1
  have e2 : w2.cell? ⟨w.heap.size + 1, 0, none⟩ = some (.int .i64 0) := below_cell hB21 HE.out.2.1
  clear hown hb2 hB2 hB21 hcv hw1 HIT
  gi_wp2
  refine ⟨trivial, ?_⟩
  with_reducible refine (callsIn_wide.2 (chunk_any g0 M c2 w2)).mono ?_
  rintro e w3 ⟨rfl, hw3⟩
  gi_wp2
  have hcb := OwnR.cap HO.out
  have hB3 : Below w2.heap.size w2 w3 := by rw [← hw3]; exact ((Below.refl _ w2).alloc (Nat.le_refl _) _).alloc (by simp) _
  have hz3 : w3.heap.size = w2.heap.size + 2 := by rw [← hw3]; simp
  have k0 : w3.cell? ⟨w2.heap.size, 0, none⟩ = some (.slice (some ⟨g0, 0, none⟩) M c2) := by
    rw [← hw3]; exact below_cell ((Below.refl _ _).alloc (Nat.le_refl _) _) (cells_new w2 #[.slice (some ⟨g0, 0, none⟩) M c2].toList _ 0 _ rfl)
  have k1 : w3.cell? ⟨w2.heap.size + 1, 0, none⟩ = some (.int .i64 3) := by
    rw [← hw3]
    have := cells_new (w2.alloc (.cells #[.slice (some ⟨g0, 0, none⟩) M c2] 147)) #[.int .i64 3].toList 3 0 _ rfl
    simp only [World.size_alloc] at this
    exact this
  have hw2 : w.heap.size + 3 ≤ w2.heap.size := by
    have h1 := HB.out.2.size
    have h2 := (OwnR.lt HO.out g0 rfl)
    have h3 := HCZ.out
    omega
  have hmn : mn < w.heap.size := HH.out.now.lt
  have hms : ms < w.heap.size := HH.out.sure.lt
  have hst := chunk_stops 4 (by omega) w2.heap.size (w2.heap.size + 1) w3.heap.size mn g0 m c2 (by omega) (by
    rw [its_length, HPS.out.2.2.1] at hcb; exact hcb) (own_capm_g HO.out) ⟨by omega, by omega⟩ ⟨by omega, by omega⟩ w3 (by rw [hM]; exact k0) k1
  refine wpIn_rangeFunc_ownG rfl (by omega) (gf := 123) (lb := #[.pointer (some ⟨w2.heap.size, 0, none⟩), .pointer (some ⟨w2.heap.size + 1, 0, none⟩)]) rfl trivial (enters_of Try.func123 (by kernel_rfl) rfl)
    hst (fun h k => kpb_trans h k) (kpb_put (Nat.le_refl _)) (Below.refl _ _) (fun _ => rfl)
    (RdoI p d pg j S J L N n rd ms mn sure H A ps m w3) (fun _ _ _ => False) (RdoI.own ?own) (fun _ _ _ _ _ hs _ _ => hs) ?start ?a1 ?assign ?body ?done ?stop
  case assign =>
    intro l x W K hK
    gi_wp2
    exact hK
  case own => exact fun i hi => by have := HH.out.lt i hi; omega
  case start => exact ⟨_, A, HH.out.below (HB.out.1.trans (hB3.mono HB.out.1.size)), HP.out, fun _ _ => rfl, (Step.refl (one mn) w3).regroup fun i hi => by cases hi⟩
  case body =>
    rintro l pre xx W ⟨now', C', h1, h2, h3, h4⟩ hpl
    obtain ⟨q, hq⟩ : ∃ q, ps.getD xx.1 pt0 = q := ⟨_, rfl⟩
    have hxl : xx.1 < ps.length := by rw [HPS.out.2.2.1]; exact xx.2
    have hqg : q.Good N := HPS.out.1 q (by rw [← hq, getD_eq _ _ _ hxl]; exact List.getElem_mem hxl)
    have hkw : ∀ i, i < w3.heap.size → i ≠ mn → W.heap[i]? = w3.heap[i]? := fun i hi hn => h4.block i hi hn
    have hg0 := (OwnR.lt HO.out g0 rfl)
    have hg1 : w.heap.size + 3 ≤ g0 := by have := HCZ.out; omega
    have hcell : ∀ jj u, jj < 9 → (icI q.its)[jj]? = some u → W.cell? ⟨g0, xx.1 * 3 * 3 + jj, none⟩ = some u := fun jj u hjj hu => by
      have h5 := World.ownsRow.cells HO.out rfl (9 * xx.1 + jj) u (by rw [its_at ps xx.1 hxl jj hjj, hq]; exact hu)
      rw [show (⟨g0, 0, none⟩ : Addr).add (9 * xx.1 + jj) = ⟨g0, 9 * xx.1 + jj, none⟩ by unfold Addr.add; split <;> simp_all, show 9 * xx.1 + jj = xx.1 * 3 * 3 + jj by omega] at h5
      exact (World.cell?_of_block (a := ⟨g0, xx.1 * 3 * 3 + jj, none⟩) (hkw g0 (by omega) (by omega))).trans (below_cell hB3 h5)
    obtain ⟨o, ho⟩ : ∃ o, xx.1 * 3 * 3 = o := ⟨_, rfl⟩
    rw [ho] at hcell
    obtain ⟨y, hy⟩ : ∃ y, bs q.str = y := ⟨_, rfl⟩
    have i0 : W.cell? ⟨g0, o, none⟩ = some (.int .i64 1) := hcell 0 _ (by omega) rfl
    have i3 : W.cell? ⟨g0, o + 3, none⟩ = some (.int .i64 1) := hcell 3 _ (by omega) rfl
    have i6 : W.cell? ⟨g0, o + 6, none⟩ = some (.int .i64 2) := hcell 6 _ (by omega) rfl
    have i1 : W.cell? ⟨g0, o + 1, none⟩ = some (.int .i64 (q.page : Int)) := hcell 1 _ (by omega) rfl
    have i4 : W.cell? ⟨g0, o + 4, none⟩ = some (.int .i64 (q.off : Int)) := hcell 4 _ (by omega) rfl
    have i8 : W.cell? ⟨g0, o + 8, none⟩ = some (.string y) := by rw [← hy]; exact hcell 8 _ (by omega) rfl
    have i4' : W.cell? ⟨g0, o + 3 + 1, none⟩ = some (.int .i64 (q.off : Int)) := i4
    have i8' : W.cell? ⟨g0, o + 6 + 2, none⟩ = some (.string y) := i8
    have hp0 : W.cell? ⟨w.heap.size, 0, none⟩ = some (ob pg) := (World.cell?_of_block (a := ⟨w.heap.size, 0, none⟩) (hkw w.heap.size (by omega) (by omega))).trans (below_cell hB3 e1)
    have hwb : wrB N (q.page : Int) (q.off : Int) q.str.length = true := by
      have := hqg.1
      have := hqg.2
      unfold wrB
      simp only [Bool.and_eq_true, decide_eq_true_eq]; omega
    have hwr := pwrite_q h2 (h1.below ((Below.refl _ _).drew)) (q.page : Int) (q.off : Int) q.str (by have := hqg.1; omega) (by have := hqg.2; omega) (by have := hqg.2; omega)
    rw [hwb, hy] at hwr
    have HWR : Hid (Calls Try.prog 48 #[ob pg, .int .i64 (q.page : Int), .int .i64 (q.off : Int), .string y] W.drew fun e w' => PWr p d pg j S J L N rd ms mn sure (wrM N C' now' (q.page : Int) (q.off : Int) q.str) H 0 W.drew e w') := Lib.hid hwr
    have HQ5 := Lib.hid (h2.write (q.page : Int) (q.off : Int) q.str)
    have HI5 : Hid (∀ q', q' < N → wrC N C' (q.page : Int) (q.off : Int) q.str q' = ptsOn ((pre ++ [xx]).map fun x => ps.getD x.1 pt0) A q') := Lib.hid fun q' hq' => by
      rw [List.map_append, ptsOn_append]
      unfold wrC
      rw [if_pos hwb, Int.toNat_natCast, Int.toNat_natCast]
      show Pt.on q C' q' = ptsOn [ps.getD xx.1 pt0] _ q'
      rw [hq]
      show Pt.on q C' q' = Pt.on q _ q'
      unfold Pt.on
      rw [h3 q' hq']
    have H4 := Lib.hid h4
    have hmx : Try.prog.follows .mixedOrders = true := by kernel_rfl
    unfold chunkV
    rw [ho]
    clear hcell hq hxl hqg hkw hg0 hg1 ho hy hwb hwr h1 h2 h3 h4 k0 k1 hst hB3 hcb hpl
    gi_wp2
    refine region_round' 13 hmx (by kernel_rfl) (by
      intro i o ho c hc
      have hm := Array.mem_of_getElem? ho
      simp only [List.mem_toArray, List.mem_cons, List.not_mem_nil, or_false] at hm
      rcases hm with rfl | rfl | rfl | rfl | rfl | rfl | rfl | rfl | rfl | rfl | rfl | rfl | rfl | rfl | rfl <;> cases hc) ?_
    simp only [List.take_succ_cons, List.take_zero, List.drop_succ_cons, List.drop_zero]
    repeat still_step
    try refine wpStill_nil ?_
    go_wp2_with fail
    refine HWR.out.mono ?_
    rintro e w5 ⟨rfl, hp5, hst5⟩
    have HP5 := Lib.hid (And.intro hp5 hst5)
    clear hp5 hst5
    go_wp2_with fail
    refine inn_normal ?_
    gi_wp2
    have hst6 : Step (one mn) No W w5 := (((Step.refl (one mn) W).drew).trans (HP5.out.2.wide (fun i h => h) (fun i h => .inl h))).regroup fun i hi => by cases hi
    refine ⟨⟨hst6.size, fun kk oo hB hk _ => ?_⟩, fun i hi hn => hst6.block i (by have := H4.out.size; omega) hn, _, _, HP5.out.1, HQ5.out, HI5.out, ?_⟩
    · have hkl : kk < W.heap.size := (Array.getElem?_eq_some_iff.1 hk).1
      rw [hst6.block kk hkl (fun e => by have e : kk = mn := e; omega)]
      exact hk
    · exact (H4.out.wide (H := one mn) (fun i h => h) (fun i h => .inr h)).trans hst6
  case done =>
    rintro D xs W hD rfl ⟨now', C', h1, h2, h3, h4⟩ hK
    have hkw : ∀ i, i < w3.heap.size → i ≠ mn → W.heap[i]? = w3.heap[i]? := fun i hi hn => h4.block i hi hn
    have hp0 : W.cell? ⟨w.heap.size, 0, none⟩ = some (ob pg) := (World.cell?_of_block (a := ⟨w.heap.size, 0, none⟩) (hkw w.heap.size (by omega) (by omega))).trans (below_cell hB3 e1)
    have c4 := h1.cells.2.2.2.2.1
    have c5 := h1.cells.2.2.2.2.2.1
    have hcp := copym_any ms mn N (mapV sure) (mapV now') W.drew (h1.sure.keep rfl) (h1.now.keep rfl) h1.ne
    unfold CopyAt at hcp
    rw [mapV_or] at hcp
    have HCP := Lib.hid hcp
    have HLT : Hid (w.heap.size < W.drew.heap.size) := Lib.hid (by have := h4.size; show w.heap.size < W.heap.size; omega)
    have H1 := Lib.hid (And.intro h1 (And.intro h2 (And.intro h3 (And.intro h4 (And.intro hD hK)))))
    have hmx : Try.prog.follows .mixedOrders = true := by kernel_rfl
    clear hkw hcp h1 h2 h3 h4 k0 k1 hst hB3 hcb hD hK
    gi_wp2
    refine wpIn_wide.2 ?_
    go_region_held3 (fun W : World => W.cell? ⟨w.heap.size, 0, none⟩ = some (ob pg) ∧ W.cell? ⟨pg, 4, none⟩ = some (.map (some ms)) ∧ W.cell? ⟨pg, 5, none⟩ = some (.map (some mn))) (first | exact ⟨hp0, c4, c5⟩ | exact ⟨hp5, HP5.out.cells.2.2.2.2.1, HP5.out.cells.2.2.2.2.2.1⟩) (first | (go_at_call 91; (with_reducible refine HCP.out.mono ?_); rintro e w5 ⟨rfl, hm5, _, hg5⟩; have hp5 : w5.cell? ⟨w.heap.size, 0, none⟩ = some (ob pg) := (World.cell?_of_block (a := ⟨w.heap.size, 0, none⟩) (hg5.block w.heap.size HLT.out (by simp; omega))).trans hp0; have HP5 := Lib.hid ((H1.out.1.below ((Below.refl _ _).drew)).setSure hm5 hg5); have HG5 := Lib.hid hg5; clear hm5 hg5))
    rename_i hh
    clear hh hp0 c4 c5 HCP
    obtain ⟨w6, hr6, hm6, hg6, hz6⟩ := HP5.out.now.clear (mt := 144) (e := 9) Try.underlying144
    have HP6 := Lib.hid (HP5.out.setNow (now' := fun _ => none) hm6 hg6)
    have HG6 := Lib.hid hg6
    have c55 := HP5.out.cells.2.2.2.2.2.1
    have hbk : ∀ i, i < W.heap.size → i ≠ ms → i ≠ mn → w6.heap[i]? = W.heap[i]? := fun i hi n1 n2 => (hg6.block i (Nat.lt_of_lt_of_le hi HG5.out.size) (by simpa using n2)).trans (HG5.out.block i hi (by simpa using n1))
    have hlt6 : w.heap.size + 1 < w3.heap.size := by omega
    have hwlt : w3.heap.size ≤ W.heap.size := H1.out.2.2.2.1.size
    have hb6 : w6.heap[w.heap.size + 1]? = w1.heap[w.heap.size + 1]? := by
      rw [hbk _ (by omega) (by omega) (by omega), H1.out.2.2.2.1.block _ hlt6 (fun e => by have e : w.heap.size + 1 = mn := e; omega)]
      rw [← hw3, Below.heap_alloc _ _ _ (by simp; omega), Below.heap_alloc _ _ _ (by omega)]
      exact HB.out.2.block _ (by have := HE.out.2.2.2; omega)
    have r6 : w6.cell? ⟨w.heap.size + 1, 0, none⟩ = some (.int .i64 0) := (World.cell?_of_block (a := ⟨w.heap.size + 1, 0, none⟩) hb6).trans HE.out.2.1
    have f6 : w6.frozen? ⟨w.heap.size + 1, 0, none⟩ = false := (World.frozen?_of_block (a := ⟨w.heap.size + 1, 0, none⟩) hb6).trans HE.out.2.2.1
    have HD6 : Hid (w6.heap[D]? = some (.deferred (some []))) := Lib.hid (by
      have hK := H1.out.2.2.2.2.2
      have hD := H1.out.2.2.2.2.1
      rw [hbk D (Array.getElem?_eq_some_iff.1 hK).1 (by omega) (by omega)]
      exact hK)
    clear hm6 hg6 hz6 hbk hb6
    gi_wp2
    have hne : D ≠ w.heap.size + 1 := by have := H1.out.2.2.2.2.1; omega
    have hK7 : (w6.setCell ⟨w.heap.size + 1, 0, none⟩ (.int .i64 0)).heap[D]? = some (.deferred (some [])) := (Below.heap_setCell w6 _ _ D hne).trans HD6.out
    refine ⟨by simp, .inl ⟨_, _, rfl, run_takeDeferred hK7, ?_⟩⟩
    obtain ⟨W7, hW7⟩ : ∃ W7, (w6.setCell ⟨w.heap.size + 1, 0, none⟩ (.int .i64 0)).putObj D (.deferred none) = W7 := ⟨_, rfl⟩
    have hb7 : ∀ i, i ≠ D → i ≠ w.heap.size + 1 → W7.heap[i]? = w6.heap[i]? := fun i h1 h2 => by
      rw [← hW7, World.putObj_heap_other (by first | exact h1 | exact Ne.symm h1)]
      exact Below.heap_setCell w6 _ _ i h2
    have hr7 : W7.cell? ⟨w.heap.size + 1, 0, none⟩ = some (.int .i64 0) := by
      have h0 : (w6.setCell ⟨w.heap.size + 1, 0, none⟩ (.int .i64 0)).cell? ⟨w.heap.size + 1, 0, none⟩ = some (.int .i64 0) := World.cell?_setCell_same' _ _ _ (by rw [r6]; rfl)
      rw [← hW7]
      exact (World.cell?_of_block (a := ⟨w.heap.size + 1, 0, none⟩) (World.putObj_heap_other (by first | exact hne | exact hne.symm))).trans h0
    rw [hW7]
    refine ⟨.int .i64 0, by simp [results, Try.results95, go_sem, hr7], ?_⟩
    have hp := HP6.out
    have hsz7 : W7.heap.size = w6.heap.size := by rw [← hW7]; simp [World.setCell]
    have hDge : w3.heap.size ≤ D := H1.out.2.2.2.2.1
    have hwlt : ∀ i, pgF H pg ms mn i → i ≠ D ∧ i ≠ w.heap.size + 1 := fun i hi => by
      have := HH.out.lt i hi
      exact ⟨by omega, by omega⟩
    have hk : ∀ i, pgF H pg ms mn i → W7.heap[i]? = w6.heap[i]? := fun i hi => hb7 i (hwlt i hi).1 (hwlt i hi).2
    have hmap := map_fin ps m HPS.out.2.2.1
    have hq := H1.out.2.1
    refine ⟨rfl, orM sure now', C', hp.keep hk (by omega), ⟨hq.dsk, fun q hq' => ?_, fun q hq' => rfl, hq.fullC, hq.fullC, fun q s hs => by simp at hs⟩, fun q hq' => ?_, ?_⟩
    · rw [hq.cur q hq']
      unfold orM
      cases hn : now' q with
      | some s => rfl
      | none => exact hq.com q hq'
    · rw [H1.out.2.2.1 q hq', hmap]
    · have hB3 : Below w2.heap.size w2 w3 := by rw [← hw3]; exact ((Below.refl _ w2).alloc (Nat.le_refl _) _).alloc (by simp) _
      have s1 : Step (pgF H pg ms mn) (pgF H pg ms mn) w w3 := Step.of_below (HB.out.1.trans (hB3.mono HB.out.1.size)) _
      have s2 : Step (pgF H pg ms mn) (pgF H pg ms mn) w3 W := H1.out.2.2.2.1.wide (fun i h => by cases h; exact .inr (.inr (.inr rfl))) (fun i h => .inr h)
      have s3 : Step (pgF H pg ms mn) (pgF H pg ms mn) w W.drew := (s1.trans s2).drew
      have s4 := (s3.grown HG5.out fun kk e => .inl (by cases e; exact .inr (.inr (.inl rfl)))).grown HG6.out fun kk e => .inl (by cases e; exact .inr (.inr (.inr rfl)))
      have s5 := s4.setCell (a := ⟨w.heap.size + 1, 0, none⟩) (.inr (by show w.heap.size ≤ w.heap.size + 1; omega)) (.int .i64 0)
      rw [← hW7]
      exact s5.grown (grownBy_putObj' _ D _) fun kk e => .inr (by cases e; omega)
  case stop =>
    rintro D c pre W _ _ h _
    exact h.elim
end
end Go.Proofs.Ytjmhfjioccljeaa
/-
  Walk of package pager: Open.
-/
namespace Go.Proofs.Ytjmhfjioccljeaa
open Go.RowKit
set_option linter.unusedVariables false
set_option linter.unusedSimpArgs false
attribute [local go_sem ↓] Go.wp_at_zero Go.wp_at_succ

section
variable {w w' : World} {p d pg j L N ms mn n g : Nat} {S S' : St} {J J' : Js} {rd : Int} {sure now : Pmap} {F H K : Nat → Prop} {A C : Pgs}
theorem PgAt.ks (h : PgAt w p d pg j S J L N rd ms mn sure now H) : ∀ q s, sure q = some s → q < N := fun q s hs => by
  obtain ⟨D, m, h1, h2, h3, h4, h5⟩ := h.sure
  exact h4 q (.string (bs s)) (by unfold mapV; rw [hs]; rfl)
/-- a refusal -/
def OpRef (e : Int) (w : World) (E : Ending) (w' : World) : Prop := E = .returned (.tuple #[.pointer none, .int .i64 e]) ∧ Below w.heap.size w w'
theorem open_nil (l m : Int) (w : World) : Calls Try.prog 51 #[.pointer none, cfg l m] w fun e w' => OpRef 1 w e w' := by
  have hb0 : Below w.heap.size w (w.alloc (.cells #[.int .i64 l, .int .i64 m] 89)) := (Below.refl _ _).alloc (Nat.le_refl _) _
  have HCH := Lib.hid (pcheck_nil l m (w.alloc (.cells #[.int .i64 l, .int .i64 m] 89)))
  have HB0 := Lib.hid hb0
  clear hb0
  go_enter Try.func51, Try.ntmps51
  go_wp2_with fail
  refine HCH.out.mono ?_
  rintro e w1 ⟨rfl, hb1⟩
  have HB1 := Lib.hid (HB0.out.trans (hb1.mono HB0.out.size))
  clear hb1
  go_wp2_with fail
  go_ret2
  exact ⟨rfl, HB1.out⟩
theorem open_bad {as_ : List Nat} {k : Nat} (h : PwS w p as_ S F) (hk : as_[k]? = some d) (l m : Int) (hc : pcheckB (S.at_ k).size l m = false) :
    Calls Try.prog 51 #[ob d, cfg l m] w fun e w' => OpRef 1 w e w' := by
  have hb0 : Below w.heap.size w (w.alloc (.cells #[.int .i64 l, .int .i64 m] 89)) := (Below.refl _ _).alloc (Nat.le_refl _) _
  have hch := pcheck_any (h.below hb0) hk l m
  rw [hc] at hch
  have HCH := Lib.hid hch
  have HB0 := Lib.hid hb0
  clear hch h hk hc hb0
  go_enter Try.func51, Try.ntmps51
  go_wp2_with fail
  refine HCH.out.mono ?_
  rintro e w1 ⟨rfl, hb1⟩
  have HB1 := Lib.hid (HB0.out.trans (hb1.mono HB0.out.size))
  clear hb1
  have hok : okE false = 1 := rfl
  go_wp2_with fail
  go_ret2
  exact ⟨rfl, HB1.out⟩
/-- what an opening leaves: the power went, or a pager whose pages are A's or C's -/
def OpSpec (p d : Nat) (S : St) (n L N G : Nat) (F : Nat → Prop) (A C : Pgs) (rs : List (List Pt)) (g : Nat) (w : World) (e : Ending) (w' : World) : Prop :=
  (∃ S' F', e = .returned (.tuple #[.pointer none, .int .i64 4]) ∧ PwS w' p [d] S' F' ∧ S.arm ≠ -1 ∧ Crashy S' 0 n (PTel n L N G A C) ∧ Step F F' w w') ∨
  (∃ pg j ms mn H S' J' sure X, e = .returned (.tuple #[ob pg, .int .i64 0]) ∧ PgAt w' p d pg j S' J' L N 0 ms mn sure (fun _ => none) H ∧ Pg S' J' n L N g rs X X sure (fun _ => none) ∧
    ((∀ q, q < N → X q = A q) ∨ (∀ q, q < N → X q = C q)) ∧ (S.arm = -1 → S'.arm = -1) ∧ Step F (pgF H pg ms mn) w w' ∧ w.heap.size ≤ pg)
/-- between two records -/
def OpI (p d pg j : Nat) (S : St) (J : Js) (L N n ms mn : Nat) (H : Nat → Prop) (rs : List (List Pt)) (A2 : Option Addr) (W3 : World) (t : Nat) (wr : World) : Prop :=
  ∃ sure A, PgAt wr p d pg j S J L N 0 ms mn sure (fun _ => none) H ∧ Pq S n L N A A sure (fun _ => none) ∧ (∀ q, q < N → A q = ptsOn (rs.take t).flatten (diskP S L) q) ∧ RdW wr A2 (rs.map recL) ∧ Step (pgF H pg ms mn) (pgF H pg ms mn) W3 wr
set_option maxRecDepth 100000 in
set_option maxHeartbeats 4000000 in
theorem open_core {G : Nat} {rs : List (List Pt)} (h : PwS w p [d] S F) (hlay : Lay n L N) (hL : L ≤ 2000) (hsz : (S.at_ 0).size = 128 * n) (hgr : GoodR N rs) (hor : openR S 0 0 L = rs.map recL)
    (hou : Out S (openF S 0 0 L) (fun T => ∃ X, ((∀ q, q < N → X q = A q) ∨ (∀ q, q < N → X q = C q)) ∧ Pd T (openJ S 0 0 L) n L N g rs X) (fun T => Crashy T 0 n (PTel n L N G A C))) :
    Calls Try.prog 51 #[ob d, cfg L N] w fun e w' => OpSpec p d S n L N G F A C rs g w e w' := by
  have hin := hlay.in_
  have hl4 := hlay.l4
  have hn1 := hlay.n1
  have hnm := hlay.nm
  have hb0 : Below w.heap.size w (w.alloc (.cells #[.int .i64 (L : Int), .int .i64 (N : Int)] 89)) := (Below.refl _ _).alloc (Nat.le_refl _) _
  obtain ⟨w0, hw0⟩ : ∃ w0, w.alloc (.cells #[.int .i64 (L : Int), .int .i64 (N : Int)] 89) = w0 := ⟨_, rfl⟩
  have e0 : w0.cell? ⟨w.heap.size, 0, none⟩ = some (.int .i64 (L : Int)) := by rw [← hw0]; exact cells_new w #[.int .i64 (L : Int), .int .i64 (N : Int)].toList _ 0 _ rfl
  have e1 : w0.cell? ⟨w.heap.size, 1, none⟩ = some (.int .i64 (N : Int)) := by rw [← hw0]; exact cells_new w #[.int .i64 (L : Int), .int .i64 (N : Int)].toList _ 1 _ rfl
  have hsz0 : w0.heap.size = w.heap.size + 1 := by rw [← hw0]; simp
  have hch := pcheck_any (h.below hb0) (k := 0) rfl (L : Int) (N : Int)
  rw [hsz, pcheck_ok hlay hL] at hch
  rw [hw0] at hb0 hch
  have hck : checkB (S.at_ 0).size ((0 : Nat) : Int) (L : Int) = true := by
    rw [hsz]
    unfold checkB
    simp only [Bool.and_eq_true, decide_eq_true_eq]
    omega
  have hoc := out_cases hou
  obtain ⟨R, hR⟩ : ∃ R, openF S 0 0 L = R := ⟨_, rfl⟩
  obtain ⟨J2, hJ2⟩ : ∃ J2, openJ S 0 0 L = J2 := ⟨_, rfl⟩
  have HJO : Hid (∀ W, Below w.heap.size w W → Calls Try.prog 17 #[ob d, .int .i64 0, .int .i64 (L : Int)] W fun e w' => OpenSpec p [d] S 0 d 0 L F R W e w') := Lib.hid fun W hb => by
    have := jopen_any (h.below hb) (k := 0) rfl 0 L hck
    rw [hR] at this
    exact this
  rw [hR, hJ2] at hoc
  have HCH := Lib.hid hch
  have HB0 := Lib.hid hb0
  have HW := Lib.hid h
  have HE := Lib.hid (And.intro e0 (And.intro e1 hsz0))
  have HOC := Lib.hid hoc
  have HRS := Lib.hid (And.intro (Nat.le_refl 0) (And.intro hgr (And.intro hor (And.intro hJ2 hR))))
  clear hch hck hou hoc hb0 h hgr hor hR hJ2 hsz hsz0
  go_enter Try.func51, Try.ntmps51
  have hok : okE true = 0 := rfl
  go_wp2_with fail
  refine HCH.out.mono ?_
  rintro e w1 ⟨rfl, hb1⟩
  have HB1 : Hid (Below w0.heap.size w0 w1) := Lib.hid hb1
  have HBW : Hid (Below w.heap.size w w1) := Lib.hid (HB0.out.trans (hb1.mono HB0.out.size))
  have e10 := below_cell hb1 HE.out.1
  have e11 := below_cell hb1 HE.out.2.1
  clear hb1 hw0 HCH e0 e1
  go_wp2_with fail
  refine (HJO.out w1 HBW.out).mono ?_
  rintro e w2 hs
  rcases hs with ⟨a, rfl, F2, hp2, hst2⟩ | ⟨a, j2, A2, n2, c2, F2, G2, rfl, hn2, hr2, hnc2, hp2, hj2, hdi2, hst2, hA2, hok2, hlen2, hge2⟩
  · have h4 : R.1 = 4 ∧ S.arm ≠ -1 ∧ Crashy R.2 0 n (PTel n L N G A C) := by
      rcases HOC.out with ⟨b, _⟩ | b
      · exact absurd b a
      · exact b
    have HX := Lib.hid (And.intro hp2 (And.intro hst2 h4.2))
    obtain ⟨E, hE⟩ : ∃ E, R.1 = E := ⟨_, rfl⟩
    rw [hE] at h4 ⊢
    have he := h4.1
    subst he
    clear hp2 hst2 h4 a hE
    go_wp2_with fail
    go_ret2
    exact .inl ⟨R.2, F2, rfl, HX.out.1, HX.out.2.2.1, HX.out.2.2.2, (Step.of_below HBW.out F).trans HX.out.2.1⟩
  · have hX : (∃ X, ((∀ q, q < N → X q = A q) ∨ (∀ q, q < N → X q = C q)) ∧ Pd R.2 J2 n L N g rs X) ∧ (S.arm = -1 → R.2.arm = -1) := by
      rcases HOC.out with ⟨_, b, _, c⟩ | ⟨b, _⟩
      · exact ⟨b, c⟩
      · rw [a] at b; exact absurd b (by decide)
    obtain ⟨⟨X, hXA, hpd⟩, harm⟩ := hX
    rw [HRS.out.2.2.1] at hr2 hn2
    rw [HRS.out.2.2.2.1] at hj2 hok2
    have hjp : JPs w2 p [d] R.2 0 d j2 J2 (Un F2 G2) := ⟨rfl, hok2, F2, G2, hp2, hj2, hdi2, rfl⟩
    have HJP := Lib.hid hjp
    have HPD := Lib.hid (And.intro hpd (And.intro hXA harm))
    have HST2 : Hid (Step F (Un F2 G2) w w2) := Lib.hid ((Step.of_below HBW.out F).trans hst2)
    have HOW := Lib.hid hr2
    have HA2 := Lib.hid hA2
    have hbk := hst2.block w.heap.size (by have := HB1.out.size; have := HE.out.2.2; omega) (fun hf => by have := HW.out.lt _ hf; omega)
    have e20 : w2.cell? ⟨w.heap.size, 0, none⟩ = some (.int .i64 (L : Int)) := (World.cell?_of_block hbk).trans e10
    have e21 : w2.cell? ⟨w.heap.size, 1, none⟩ = some (.int .i64 (N : Int)) := (World.cell?_of_block hbk).trans e11
    have hnl : n2 = rs.length := by rw [hn2, List.length_map]
    have HNL := Lib.hid hnl
    have hmm := @run_makeMap Try.prog
    have hN9 : n2 ≤ 60000 := by rw [hn2, ← HRS.out.2.2.1]; exact hlen2
    clear hr2 hn2 hp2 hj2 hdi2 hst2 hA2 hok2 hlen2 hge2 hjp hpd hXA harm hbk e10 e11 HJO hnc2 hnl a HOC
    go_wp2_with fail
    obtain ⟨W3, hW3⟩ : ∃ W3, ((w2.alloc (.map #[] 0)).alloc (.map #[] 0)).alloc (.cells #[ob d, .int .i64 (L : Int), .int .i64 (N : Int), ob j2, .map (some w2.heap.size), .map (some (w2.heap.size + 1)), .int .i64 0] 146) = W3 := ⟨_, rfl⟩
    have hB3 : Below w2.heap.size w2 W3 := by rw [← hW3]; exact (((Below.refl _ w2).alloc (Nat.le_refl _) _).alloc (by simp) _).alloc (by simp; omega) _
    have hz3 : W3.heap.size = w2.heap.size + 3 := by rw [← hW3]; simp
    have hnot : ∀ i, w2.heap.size ≤ i → ¬ Un F2 G2 i := fun i hi hf => by have := HJP.out.lt i hf; omega
    have hpg3 : PgAt W3 p d (w2.heap.size + 2) j2 R.2 J2 L N 0 w2.heap.size (w2.heap.size + 1) (fun _ => none) (fun _ => none) (Un F2 G2) := by
      refine ⟨HJP.out.below hB3, ?_, ?_, ?_, by omega, hnot _ (by omega), hnot _ (by omega), hnot _ (by omega)⟩
      · have h0 := Blk.new ((w2.alloc (.map #[] 0)).alloc (.map #[] 0)) 146 #[ob d, .int .i64 (L : Int), .int .i64 (N : Int), ob j2, .map (some w2.heap.size), .map (some (w2.heap.size + 1)), .int .i64 0]
        have e : ((w2.alloc (.map #[] 0)).alloc (.map #[] 0)).heap.size = w2.heap.size + 2 := by simp
        rw [e, hW3] at h0
        exact h0
      · have h0 := MapAt.made (n := N) w2 3 (by omega)
        have h1 := (h0.keep (w' := W3) (by rw [← hW3, Below.heap_alloc _ _ _ (by simp; omega), Below.heap_alloc _ _ _ (by simp)]))
        exact h1
      · have h0 := MapAt.made (n := N) (w2.alloc (.map #[] 0)) 3 (by omega)
        have e : (w2.alloc (.map #[] 0)).heap.size = w2.heap.size + 1 := by simp
        rw [e] at h0
        have h1 := (h0.keep (w' := W3) (by rw [← hW3, Below.heap_alloc _ _ _ (by simp)]))
        exact h1
    have HPG3 := Lib.hid hpg3
    have hA0 : Full N (diskP R.2 L) := HPD.out.1.dsk.dfull
    have HI0 : Hid (Pq R.2 n L N (diskP R.2 L) (diskP R.2 L) (fun _ => none) (fun _ => none)) := Lib.hid ⟨HPD.out.1.dsk, fun _ _ => rfl, fun _ _ => rfl, hA0, hA0, fun q s hs => by simp at hs⟩
    have HB3 := Lib.hid hB3
    have HZ3 := Lib.hid hz3
    obtain ⟨pg0, hpg0⟩ : ∃ x, w2.heap.size + 2 = x := ⟨_, rfl⟩
    obtain ⟨ms0, hms0⟩ : ∃ x, w2.heap.size = x := ⟨_, rfl⟩
    obtain ⟨mn0, hmn0⟩ : ∃ x, w2.heap.size + 1 = x := ⟨_, rfl⟩
    have HN0 := Lib.hid (And.intro hpg0 (And.intro hms0 hmn0))
    rw [hpg0, hmn0, hms0] at HPG3
    have hp1 : w2.heap.size + 1 + 1 = pg0 := hpg0
    have hrel0 : OpI p d pg0 j2 R.2 J2 L N n ms0 mn0 (Un F2 G2) rs A2 W3 0 W3 :=
      ⟨fun _ => none, diskP R.2 L, HPG3.out, HI0.out, fun _ _ => rfl, HOW.out.rd.below hB3, Step.refl _ _⟩
    have HREL := Lib.hid hrel0
    have hLA : ∀ b, blk A2 = some b → b < w2.heap.size ∧ ¬ Un F2 G2 b := fun b hb => by
      have := HA2.out b hb
      exact ⟨this.2.2.2, fun hf => hf.elim this.2.1 this.2.2.1⟩
    have HLA := Lib.hid hLA
    rw [hW3, hp1]
    clear hrel0 hLA hp1 hB3 hz3 hW3 hpg3 hnot hpg0 hms0 hmn0 hA0 e20 e21 hmm HI0 HPG3
    go_loopw [40] (fun i wr => ∃ (t : Nat), i = .int .i64 (t : Int) ∧ t ≤ n2 ∧ Hid (OpI p d pg0 j2 R.2 J2 L N n ms0 mn0 (Un F2 G2) rs A2 W3 t wr)) (fun i _ => n2 - (intOf i).toNat)
    case atStart => exact ⟨0, rfl, Nat.zero_le _, HREL⟩
    case round =>
      clear HREL
      obtain ⟨t, rfl, ht, HR⟩ := hrel
      by_cases hlt : t < n2
      · have htl : t < rs.length := by rw [← HNL.out]; exact hlt
        obtain ⟨su, At, k1, k2, k3, k4, k5⟩ := HR.out
        obtain ⟨ad, rfl, hc⟩ := k4.at_ (k := t) (by simpa using htl)
        have hgd : (rs.map recL).getD t [] = recL (rs.getD t []) := by
          rw [getD_eq _ _ _ (by simpa using htl), getD_eq _ _ _ htl, List.getElem_map]
        rw [hgd] at hc
        have hgr := HRS.out.2.1 (rs.getD t []) (by rw [getD_eq _ _ _ htl]; exact List.getElem_mem htl)
        have hrd := redo_at k2 k1 (rs.getD t []) hgr.1 hgr.2.1 hgr.2.2
        have hnx : ∀ B : Pgs, ptsOn (rs.getD t []) (ptsOn (rs.take t).flatten B) = ptsOn (rs.take (t + 1)).flatten B := fun B => by
          rw [← ptsOn_append, List.take_add_one, List.flatten_append, List.getElem?_eq_getElem htl, getD_eq _ _ _ htl]
          simp
        have HNX : Hid (∀ q, q < N → ptsOn (rs.getD t []) At q = ptsOn (rs.take (t + 1)).flatten (diskP R.2 L) q) := Lib.hid fun q hq => by
          rw [← hnx]; exact ptsOn_congr k3 q hq
        have HK4 := Lib.hid k4
        have HK5 := Lib.hid k5
        have HRD := Lib.hid hrd
        have HK1 := Lib.hid k1.lt
        clear hgd hgr hrd hnx k1 k2 k3 k4 k5 HR
        generalize recL (rs.getD t []) = rec_ at *
        generalize rs.getD t [] = ps_ at *
        generalize hrv : bs rec_ = rv at *
        clear hrv
        go_wp2_with fail
        refine HRD.out.mono ?_
        rintro e w4 ⟨rfl, su4, A4, k1, k2, k3, k5⟩
        have HQ : Hid (OpI p d pg0 j2 R.2 J2 L N n ms0 mn0 (Un F2 G2) rs (some ad) W3 (t + 1) w4) := Lib.hid
          ⟨su4, A4, k1, k2, fun q hq => (k3 q hq).trans (HNX.out q hq), HK4.out.keep fun a e hl => by
            cases e
            refine k5.at_ hl ?_
            have h1 := HLA.out ad.block rfl
            have h2 := HN0.out
            rintro (hf | hf | hf | hf)
            · exact h1.2 hf
            · omega
            · omega
            · omega, HK5.out.trans k5⟩
        clear k1 k2 k3 k5
        go_wp2_with fail
        refine ⟨⟨t + 1, int_eq (by omega), by omega, HQ⟩, ?_⟩
        simp [intOf]; omega
      · have htl : t = n2 := by omega
        subst htl
        go_wp2_with fail
        go_ret2
        obtain ⟨su, At, k1, k2, k3, k4, k5⟩ := HR.out
        have hT : rs.take t = rs := by rw [HNL.out, List.take_length]
        rw [hT] at k3
        have hpd := HPD.out.1
        refine .inr ⟨pg0, j2, ms0, mn0, Un F2 G2, R.2, J2, su, X, rfl, k1, ⟨hpd, ?_, fun _ _ => rfl, hpd.full, fun q s hs => by simp at hs, k1.ks⟩, HPD.out.2.1, HPD.out.2.2, ?_, ?_⟩
        · intro q hq
          rw [← k2.com q hq, k3 q hq]
          exact (hpd.recs q hq).symm
        · refine HST2.out.trans ?_
          have h0 := HN0.out
          refine ⟨k5.os.trans HB3.out.os, k5.tape.trans HB3.out.tape, k5.output.trans HB3.out.output, Nat.le_trans HB3.out.size k5.size, fun i hi hn => ?_, fun i hi => ?_⟩
          · refine (k5.at_ (Nat.lt_of_lt_of_le hi HB3.out.size) ?_).trans (HB3.out.block i hi)
            rintro (hf | hf | hf | hf)
            · exact hn hf
            · omega
            · omega
            · omega
          · rcases hi with hi | hi | hi | hi
            · exact .inl hi
            · exact .inr (by omega)
            · exact .inr (by omega)
            · exact .inr (by omega)
        · have := HST2.out.size
          have := HN0.out
          omega
/-- an opening behind a crash -/
theorem open_at {G : Nat} {f : Nat → List UInt8} (h : PwS w p [d] S F) (hlay : Lay n L N) (hL : L ≤ 2000) (hoff : S.off = false) (ht : Torn S 0 n f f) (hp : PTel n L N G A C f) (hA : Full N A) (hC : Full N C) :
    ∃ rs g, g ≤ G ∧ Calls Try.prog 51 #[ob d, cfg L N] w fun e w' => OpSpec p d S n L N G F A C rs g w e w' := by
  obtain ⟨rs, g, hg, hgr, hor, hou⟩ := hp.open_ hlay ht hoff hA hC
  exact ⟨rs, g, hg, open_core h hlay hL ht.rd.1 hgr hor hou⟩
/-- an opening of what tells just these records -/
theorem open_just {f : Nat → List UInt8} {rs : List (List Pt)} (ht : Torn S 0 n f f) (hoff : S.off = false) (hlay : Lay n L N) (hfit : Fits n 0 L g (rs.map recL)) (hgd : GoodR N rs) (htl : Tells f 0 L g (rs.map recL) (rs.map recL).length) (hpt : ∀ q, q < N → ptsOn rs.flatten (pgS f L) q = A q) (hfull : Full N A) :
    openR S 0 0 L = rs.map recL ∧
    Out S (openF S 0 0 L) (fun T => ∃ X, ((∀ q, q < N → X q = A q) ∨ (∀ q, q < N → X q = A q)) ∧ Pd T (openJ S 0 0 L) n L N g rs X) (fun T => Crashy T 0 n (PTel n L N g A A)) := by
  have hin := hlay.in_
  obtain ⟨c, c1, c2, c3, c4, c5⟩ := open_mix ht hoff hfit htl
  have hc : c = (rs.map recL).length := by omega
  subst hc
  rw [Nat.mul_zero] at c3 c4 c5
  rw [List.take_length] at c3 c4 c5
  refine ⟨c4, ?_⟩
  rcases c5 with ⟨a, b, e, f', d, k, hr⟩ | ⟨a, b, k⟩
  · have hd : ∀ q, q < N → diskP (openF S 0 0 L).2 L q = pgS f L q := fun q hq => by rw [diskP_of d.rd (by omega), rest_pg hr hin q hq]
    refine .inl ⟨a, b, e, A, .inl fun _ _ => rfl, ⟨⟨f', d, k⟩, b, by rw [c3]; rfl, by rw [List.append_nil]; exact hfit⟩, hlay, hgd, fun q hq => (ptsOn_congr hd q hq).trans (hpt q hq), hfull⟩
  · refine .inr ⟨a, b, k.imp fun x hx => ?_⟩
    obtain ⟨hx, hr⟩ := hx
    refine ⟨g, rs, (rs.map recL).length, Nat.le_refl _, hfit, hgd, hx, fun c' a1 a2 => .inl fun q hq => ?_⟩
    have hc' : c' = rs.length := by rw [List.length_map] at a1; omega
    rw [hc', List.take_length]
    exact (ptsOn_congr (fun y hy => rest_pg hr hin y hy) q hq).trans (hpt q hq)
theorem open_on {rs : List (List Pt)} (h : PwS w p [d] S F) (hp : Pd S J n L N g rs A) :
    Calls Try.prog 51 #[ob d, cfg L N] w fun e w' => OpSpec p d S n L N g F A A rs g w e w' := by
  obtain ⟨f, ht, he, hdk, hpt⟩ := hp.open_
  obtain ⟨hor, hou⟩ := open_just ht hp.off hp.lay hp.fits hp.good he.tells hpt hp.full
  exact open_core h hp.lay hp.fits.m2 hp.size hp.good hor hou
/-- an opening of a new pager's disk -/
theorem open_new_ (h : PwS w p [d] S F) (hlay : Lay n L N) (hL : L ≤ 2000) (hp : Fmt S n L N) :
    Calls Try.prog 51 #[ob d, cfg L N] w fun e w' => OpSpec p d S n L N 1 F zeroP zeroP [] 1 w e w' := by
  obtain ⟨f, ht, h1, h2, h3⟩ := hp.tel
  obtain ⟨hor, hou⟩ := open_just (rs := []) (A := zeroP) ht hp.off hlay h1 (fun ps hps => by simp at hps) h2 h3 (fun q _ => zeroB_length _)
  exact open_core h hlay hL ht.rd.1 (fun ps hps => by simp at hps) hor hou
end
end Go.Proofs.Ytjmhfjioccljeaa
