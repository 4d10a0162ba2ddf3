/-
  Walk of the law JournalKeeps.
-/
import Derived.Test.YtjmhfjioccljeaaJrQ
import Derived.Test.YtjmhfjioccljeaaRecZ
import Derived.Deep.DeepMust
import Derived.Deep.CutBlock
import Derived.Deep.CutRange
namespace Go.Proofs.Ytjmhfjioccljeaa
open Go.RowKit
set_option linter.unusedVariables false
set_option linter.unusedSimpArgs false
attribute [local go_sem ↓] Go.wp_at_zero Go.wp_at_succ

theorem frames_len (l : List (List UInt8)) : 4 * l.length ≤ (framesL l).length := by
  induction l with
  | nil => simp [framesL]
  | cons r l ih => rw [framesL_cons, List.length_cons]; omega
theorem addr_add0_ (a : Addr) : a.add 0 = a := by unfold Addr.add; rw [if_pos rfl]
theorem RecAt.ops2 {w : World} {ad : Addr} {i : Nat} {r : Rec} (h : RecAt 2 w ad i r) : w.cell? (ad.add (i * 4)) = some (.int .i64 (r.at_ 0)) ∧ w.cell? ⟨(ad.add (i * 4)).block, (ad.add (i * 4)).off + 1, none⟩ = some (.int .i64 (r.at_ 1)) ∧
    w.cell? ⟨(ad.add (i * 4)).block, (ad.add (i * 4)).off + 2, none⟩ = some (.string r.data) ∧ w.cell? ⟨(ad.add (i * 4)).block, (ad.add (i * 4)).off + 3, none⟩ = some (.slice r.pa r.picks.length r.pc) := by
  have h0 := h.ints 0 (by omega)
  have h1 := h.ints 1 (by omega)
  have h4 := h.data
  have h5 := h.picks
  rw [addr_add0_] at h0
  rw [add_pos _ _ (by omega)] at h1 h4 h5
  exact ⟨h0, h1, h4, h5⟩
theorem own_capm_ {w : World} {base c n size : Nat} {e : TypeId} {A : Option Addr} {xs : List Value} (h : OwnR w base e size A n c xs) : c ≤ maxLen := by
  rcases h.2 with ⟨e0, _⟩ | ⟨g, cap, cur, e0, _, _, _, hcm, _⟩
  · injection e0 with _ _ e1; rw [e1]; exact Nat.zero_le _
  · injection e0 with _ _ e1; rw [e1]; exact hcm
/-- at a round's head -/
def KInv (w0 : World) (x p d t : Nat) (A : Option Addr) (n c : Nat) (B : Option Addr) (m cb : Nat) (w : World) : Prop :=
  ∃ j S J K g l r, Kp w0 w x p d j S J K A c l B cb r ∧ Held S J 32 2 6 g l r ∧ g ≤ t + 1 ∧ n = l.length ∧ m = r.length
/-- behind a step's own part: all is well, or the power went -/
def KMid (w0 : World) (x p d t h : Nat) (cs : Array Value) (ct fr : Bool) (A : Option Addr) (n c : Nat) (B : Option Addr) (m cb : Nat) (w : World) : Prop :=
  ∃ j S J K g l r, Kv w0 w x p d j S J K A c l B cb r h cs ∧ n = l.length ∧ m = r.length ∧
    ((ct = false ∧ Held S J 32 2 6 g l r ∧ g ≤ t + 2) ∨ (ct = true ∧ Crashy S 0 32 (PF 32 2 6 g l r fr) ∧ Fits 32 2 6 g (l ++ r) ∧ g ≤ t + 1))
theorem fits_len {n q m g : Nat} {l r : List (List UInt8)} (h : Fits n q m g (l ++ r)) : l.length + r.length ≤ 60000 := by
  have h1 := h.fill
  have h2 := frames_len (l ++ r)
  have h3 := h.m2
  rw [List.length_append] at h2
  omega
set_option maxRecDepth 100000 in
set_option maxHeartbeats 8000000 in
theorem keeps_any (w : World) (a0 : Option Addr) (len0 cap0 : Nat) (z0 : List Rec) (w0 : IsRec2 2 w a0 len0 cap0 z0) :
    Calls Try.prog 4 #[.slice a0 len0 cap0] w fun e w' => e = .returned (.bool true) ∧ Below w.heap.size w w' := by
  obtain ⟨hz0, hr0, hm0, _, hp0⟩ := w0
  unfold maxLen at hm0
  have HZ0 := Lib.hid hz0
  have HR0 := Lib.hid hr0
  have HP0 := Lib.hid hp0
  clear hz0 hr0 hp0
  go_enter Try.func4, Try.ntmps4
  go_wp2_with fail
  refine (wakes_any w).mono ?_
  rintro e w2 ⟨rfl, hb2⟩
  have HB2 := Lib.hid hb2
  clear hb2
  go_wp2_with fail
  refine (begin_any w2 2 6 256 rfl (by decide) (by decide)).mono ?_
  rintro e w3 ⟨x, p, d, j, S, J, K, rfl, hd3, hh3, ha3, hg3, hb3, hc3⟩
  have HI : Hid (KInv w x p d 0 none 0 0 none 0 0 w3) := Lib.hid (by
    have hsz : w.heap.size ≤ w2.heap.size := HB2.out.size
    exact ⟨j, S, J, K, 1, [], [], ⟨hd3, fun i a => by have := hg3 i a; omega, HB2.out.trans (hb3.mono hsz), OwnW.nil _ _, OwnW.nil _ _, fun b e => by simp [blk] at e, fun b e => by simp [blk] at e, fun b e => by simp [blk] at e⟩, hh3, by omega, rfl, rfl⟩)
  clear hd3 hh3 ha3 hg3 hb3 hc3
  go_wp2_with fail
  go_loopw [5, 6, 7] (fun v5 v6 i wr => ∃ (t n m : Nat) (A : Option Addr) (c : Nat) (B : Option Addr) (cb : Nat), t ≤ len0 ∧ i = .int .i64 (t : Int) ∧ v5 = .slice A n c ∧ v6 = .slice B m cb ∧ Hid (KInv w x p d t A n c B m cb wr)) (fun _ _ i _ => len0 - (RowKit.intOf i).toNat)
  case atStart => exact ⟨0, 0, 0, none, 0, none, 0, Nat.zero_le _, rfl, rfl, rfl, HI⟩
  case round =>
    obtain ⟨t, n, m, A, c, B, cb, ht, rfl, rfl, rfl, HJ⟩ := hrel
    clear HI
    by_cases hlt : t < len0 ∧ t < 40
    · obtain ⟨hlt, hlt40⟩ := hlt
      obtain ⟨j, S, J, K, g, l, r, hkp, hh, hg, hn, hm⟩ := HJ.out
      obtain ⟨la, rfl, hrec0⟩ := HR0.out t (by rw [HZ0.out]; exact hlt)
      have hrec := hrec0.below hkp.be
      have hpk := HP0.out t (by rw [HZ0.out]; exact hlt)
      obtain ⟨rr, hrr⟩ : ∃ r, z0.getD t rec0 = r := ⟨_, rfl⟩
      rw [hrr] at hrec hrec0 hpk
      obtain ⟨q0, q1, q2, q3⟩ := hrec.ops2
      have HG := Lib.hid hrec.good
      have HPL : Hid (∀ y, rr.pa = some y → 0 < rr.picks.length → y.block < w.heap.size) := Lib.hid fun y e h => hrec0.pick_lt e h
      have HRZ := Lib.hid hrec0.good.rd
      have HKP := Lib.hid hkp
      have HH := Lib.hid hh
      have HN := Lib.hid (And.intro hn hm)
      obtain ⟨x0, hx0⟩ : ∃ x, rr.at_ 0 = x := ⟨_, rfl⟩
      obtain ⟨x1, hx1⟩ : ∃ x, rr.at_ 1 = x := ⟨_, rfl⟩
      obtain ⟨tx, htx⟩ : ∃ y, rr.data = bs y := ⟨rr.data.data.toList, rfl⟩
      obtain ⟨pa, hpa⟩ : ∃ x, rr.pa = x := ⟨_, rfl⟩
      obtain ⟨pc, hpc⟩ : ∃ x, rr.pc = x := ⟨_, rfl⟩
      obtain ⟨pk, hpkk⟩ : ∃ x, rr.picks = x := ⟨_, rfl⟩
      have HXI : Hid (inI64 x0 ∧ inI64 x1 ∧ tx.length ≤ 9223372036854775807) := Lib.hid ⟨hx0 ▸ HG.out.ints 0, hx1 ▸ HG.out.ints 1, by
        have := HG.out.data
        rw [htx, bs_size] at this
        exact this⟩
      have HPK : Hid (RdZ w pa pk ∧ pk.length ≤ pc ∧ pc ≤ maxLen ∧ (∀ y ∈ pk, inI64 y) ∧ pk.length ≤ 17592186044416) := Lib.hid (by
        subst hpa hpc hpkk
        exact ⟨HRZ.out, HG.out.cap, HG.out.top, HG.out.picks, hpk⟩)
      rw [hx0] at q0
      rw [hx1] at q1
      rw [htx] at q2
      rw [hpa, hpc, hpkk] at q3
      clear hx0 hx1 htx hpa hpc hpkk HG hpk HRZ HPL hrr hrec hrec0 hkp hh hn hm HJ
      go_upto_region 12 with fail
      have HV := Lib.hid (HKP.out.born #[.int .i64 x0, .int .i64 x1, .string (bs tx), .slice pa pk.length pc])
      obtain ⟨W, hW⟩ : ∃ W, wr.alloc (.cells #[.int .i64 x0, .int .i64 x1, .string (bs tx), .slice pa pk.length pc] 49) = W := ⟨_, rfl⟩
      obtain ⟨h, hh⟩ : ∃ h, wr.heap.size = h := ⟨_, rfl⟩
      obtain ⟨cs, hcs⟩ : ∃ cs : Array Value, #[.int .i64 x0, .int .i64 x1, .string (bs tx), .slice pa pk.length pc] = cs := ⟨_, rfl⟩
      rw [hcs, hh] at HV
      have HBV : Hid (Blk W h 49 #[.int .i64 x0, .int .i64 x1, .string (bs tx), .slice pa pk.length pc]) := Lib.hid (by rw [hcs, ← hW, ← hh, ← hcs]; exact Blk.new _ _ _)
      have HCS := Lib.hid hcs
      have HVW : Hid (Kv w W x p d j S J K A c l B cb r h cs) := Lib.hid (by rw [← hW, hcs]; exact HV.out)
      rw [hW]
      rw [hh]
      clear hW hh hcs q0 q1 q2 q3 HV HKP
      have o0 : W.cell? ⟨h, 0, none⟩ = some (.int .i64 x0) := HBV.out.cell 0
      have o1 : W.cell? ⟨h, 1, none⟩ = some (.int .i64 x1) := HBV.out.cell 1
      have o2 : W.cell? ⟨h, 2, none⟩ = some (.string (bs tx)) := HBV.out.cell 2
      have o3 : W.cell? ⟨h, 3, none⟩ = some (.slice pa pk.length pc) := HBV.out.cell 3
      go_upto_block 2 with fail
      go_cut [5, 6, 9, 10] from 24 to 194 (fun v5 v6 v9 v10 wx => ∃ (n2 m2 : Nat) (A2 : Option Addr) (c2 : Nat) (B2 : Option Addr) (cb2 : Nat) (ct fr : Bool), v5 = .slice A2 n2 c2 ∧ v6 = .slice B2 m2 cb2 ∧ v9 = .bool ct ∧ v10 = .bool fr ∧ Hid (KMid w x p d t h cs ct fr A2 n2 c2 B2 m2 cb2 wx))
      case first =>
        by_cases t1 : x0 = 1
        · as_aux_lemma =>
          have b1 : (x0 == 1) = true := by simp [t1]
          obtain ⟨s, hs⟩ : ∃ s, tx.take 700 = s := ⟨_, rfl⟩
          have hsl : s.length ≤ 9223372036854775807 := by have := HXI.out.2.2; rw [← hs, List.length_take]; omega
          obtain ⟨E, hE⟩ : ∃ E, J.appE s = E := ⟨_, rfl⟩
          have HE := Lib.hid hE
          have HSH : Hid (∀ W', Calls Try.prog 13 #[.string (bs tx)] W' fun e w' => e = .returned (.string (bs s)) ∧ W' = w') := Lib.hid (fun W' => by rw [← hs]; exact short_any tx W' HXI.out.2.2)
          have HAP := Lib.hid (kv_append (HVW.out.below ((Below.refl _ _).drew)) s hsl E hE)
          have e2 := HVW.out.kp.dx.cells.2.2.1
          clear t1 hs hE o0 o1 o3
          go_wp2_with fail
          go_region_held3 (fun W' : World => W'.cell? ⟨x, 2, none⟩ = some (ob j) ∧ W'.cell? ⟨h, 2, none⟩ = some (.string (bs tx))) (first | exact ⟨e2, o2⟩ | exact ⟨kv4.kp.dx.cells.2.2.1, o24⟩) (first | (go_at_call 13; refine (HSH.out _).mono ?_; rintro e w3' ⟨rfl, rfl⟩) | (go_at_call 14; refine HAP.out.mono ?_; rintro e w4 ⟨rfl, K4, kv4⟩; have o24 : w4.cell? ⟨h, 2, none⟩ = some (.string (bs tx)) := by { have := kv4.bk.cell 2; rw [← HCS.out] at this; exact this }))
          have HK4 := Lib.hid kv4
          have hfl := HH.out.fits
          have hlen := fits_len hfl
          have HLEN : Hid (n + m ≤ 60000) := Lib.hid (by rw [HN.out.1, HN.out.2]; exact hlen)
          have HAPP := Lib.hid (HH.out.append s)
          clear kv4 e2 o2 HAP hfl hlen
          by_cases hz : E = 0
          · subst hz
            have hh2 : Held S (J.app s) 32 2 6 g l (r ++ [s]) := by
              rcases HAPP.out with ⟨a, _⟩ | ⟨a, _⟩ | ⟨_, _, b⟩
              · rw [HE.out] at a; exact absurd a (by decide)
              · rw [HE.out] at a; exact absurd a (by decide)
              · exact b
            have HH2 := Lib.hid hh2
            clear hh2
            go_wp2_with (first | (go_at_call 13; go_must (refine (HSH.out _).mono ?_); rintro e w3' ⟨rfl, rfl⟩) | (at_builtin; go_must (refine wpList_appW (.inl rfl) (.tmp 51) (.tmp 55) rfl w.heap.size B m cb r rfl HN.out.2 (OwnR.alloc HK4.out.kp.r2 _) (some ⟨w4.heap.size, 0, none⟩) 1 1 [s] rfl rfl (rdw_one _ _ _ rfl) (by rw [← HN.out.2]; have := HLEN.out; simp; omega) (by have := HK4.out.kp.be.size; simp; omega) ?_); (intro B3 c3 w5 hown5 hg5 hat5; have hk5 := (HK4.out.below ((Below.refl _ _).alloc (Nat.le_refl _) _)).row2 hown5 hg5 (by rcases hat5 with h1 | h1; exact .inl h1; exact .inr ⟨_, h1, Nat.le_refl _⟩); have HK5 := Lib.hid hk5; clear hk5 hown5 hg5 hat5)))
            go_meet
            exact ⟨n, m + 1, A, c, B3, c3, false, false, rfl, rfl, rfl, rfl, Lib.hid ⟨j, S, J.app s, _, g, l, r ++ [s], HK5.out, HN.out.1, by rw [HN.out.2]; simp, .inl ⟨rfl, HH2.out, by omega⟩⟩⟩
          · have hze : (E == 0) = false := by simpa using hz
            have hh2 : Held S (J.app s) 32 2 6 g l r := by
              rcases HAPP.out with ⟨_, _, a⟩ | ⟨_, _, _, a⟩ | ⟨a, _⟩
              · rw [a]; exact HH.out
              · rw [a]; exact HH.out
              · rw [HE.out] at a; exact absurd a hz
            have HH2 := Lib.hid hh2
            clear hh2 hz
            go_wp2_with fail
            go_meet
            exact ⟨n, m, A, c, B, cb, false, false, rfl, rfl, rfl, rfl, Lib.hid ⟨j, S, J.app s, _, g, l, r, HK4.out, HN.out.1, HN.out.2, .inl ⟨rfl, HH2.out, by omega⟩⟩⟩
        by_cases t2 : x0 = 2
        · as_aux_lemma =>
          have b1 : (x0 == 1) = false := by simp [t1]
          have b2 : (x0 == 2) = true := by simp [t2]
          obtain ⟨E, hE⟩ : ∃ E, (commitF J S 0).1 = E := ⟨_, rfl⟩
          obtain ⟨S2, hS2⟩ : ∃ S2, (commitF J S 0).2 = S2 := ⟨_, rfl⟩
          obtain ⟨J2, hJ2⟩ : ∃ J2, J.commit S 0 = J2 := ⟨_, rfl⟩
          have hcm := kv_commit HVW.out
          have hou := HH.out.commit
          unfold Out at hou
          rw [hE, hS2, hJ2] at hcm hou
          have HCM := Lib.hid hcm
          have HOU := Lib.hid hou
          have HFT := Lib.hid HH.out.fits
          have e2 := HVW.out.kp.dx.cells.2.2.1
          clear t1 t2 hE hS2 hJ2 hcm hou o0 o1 o2 o3
          go_wp2_with fail
          refine HCM.out.mono ?_
          rintro e w4 ⟨rfl, K4, kv4⟩
          have HK4 := Lib.hid kv4
          have HLEN : Hid (n + m ≤ 60000) := Lib.hid (by rw [HN.out.1, HN.out.2]; exact fits_len HFT.out)
          clear kv4 e2 HCM
          by_cases hz : E = 0
          · subst hz
            have hh2 : Held S2 J2 32 2 6 g (l ++ r) [] := by
              rcases HOU.out with ⟨_, _, _, b⟩ | ⟨a, _⟩
              · exact b
              · exact absurd a (by decide)
            have HH2 := Lib.hid hh2
            clear hh2
            go_wp2_with (at_builtin; go_must (refine wpList_appW (.inl rfl) (.tmp 65) (.tmp 66) rfl w.heap.size A n c l rfl HN.out.1 HK4.out.kp.r1 B m cb r rfl HN.out.2 HK4.out.kp.r2.rd (by rw [← HN.out.1, ← HN.out.2]; have := HLEN.out; omega) HK4.out.kp.be.size ?_); (intro A3 c3 w5 hown5 hg5 hat5; have hk5 := (HK4.out.row1 hown5 hg5 (by rcases hat5 with h1 | h1; exact .inl h1; exact .inr ⟨_, h1, Nat.le_refl _⟩)).nil2; have HK5 := Lib.hid hk5; clear hk5 hown5 hg5 hat5))
            go_meet
            exact ⟨n + m, 0, A3, c3, none, 0, false, false, rfl, rfl, rfl, rfl, Lib.hid ⟨j, S2, J2, _, g, l ++ r, [], HK5.out, by rw [HN.out.1, HN.out.2, List.length_append], rfl, .inl ⟨rfl, HH2.out, by omega⟩⟩⟩
          · have hze : (E == 0) = false := by simpa using hz
            have hh2 : J2 = J ∧ Crashy S2 0 32 (fun f' => Tells f' 2 6 g (l ++ r) l.length) := by
              rcases HOU.out with ⟨a, _⟩ | ⟨_, _, b⟩
              · exact absurd a hz
              · exact b
            have HH2 := Lib.hid hh2
            clear hh2 hz
            go_wp2_with fail
            go_meet
            exact ⟨n, m, A, c, B, cb, true, false, rfl, rfl, rfl, rfl, Lib.hid ⟨j, S2, J2, _, g, l, r, HK4.out, HN.out.1, HN.out.2, .inr ⟨rfl, HH2.out.2.imp fun _ h1 => .inl h1, HFT.out, hg⟩⟩⟩
        by_cases t3 : x0 = 3
        · as_aux_lemma =>
          have b1 : (x0 == 1) = false := by simp [t1]
          have b2 : (x0 == 2) = false := by simp [t2]
          have b3 : (x0 == 3) = true := by simp [t3]
          have HCM := Lib.hid (kv_cancel HVW.out)
          have e2 := HVW.out.kp.dx.cells.2.2.1
          clear t1 t2 t3 o0 o1 o2 o3
          go_wp2_with fail
          refine HCM.out.mono ?_
          rintro e w4 ⟨rfl, K4, kv4⟩
          have HK4 := Lib.hid kv4.nil2
          clear kv4 e2 HCM
          go_wp2_with fail
          go_meet
          exact ⟨n, 0, A, c, none, 0, false, false, rfl, rfl, rfl, rfl, Lib.hid ⟨j, S, J.cancel, _, g, l, [], HK4.out, HN.out.1, rfl, .inl ⟨rfl, HH.out.cancel, by omega⟩⟩⟩
        by_cases t4 : x0 = 4
        · as_aux_lemma =>
          have b1 : (x0 == 1) = false := by simp [t1]
          have b2 : (x0 == 2) = false := by simp [t2]
          have b3 : (x0 == 3) = false := by simp [t3]
          have b4 : (x0 == 4) = true := by simp [t4]
          have HFT := Lib.hid HH.out.fits
          have hgm : J.gen + 1 ≤ 8796093022208 := by rw [HH.out.gen]; omega
          have hcm := kv_switch HVW.out hgm
          have e2 := HVW.out.kp.dx.cells.2.2.1
          by_cases hr : r = []
          · subst hr
            have hm0 : m = 0 := HN.out.2
            subst hm0
            obtain ⟨E, hE⟩ : ∃ E, (switchF J S 0).1 = E := ⟨_, rfl⟩
            obtain ⟨S2, hS2⟩ : ∃ S2, (switchF J S 0).2 = S2 := ⟨_, rfl⟩
            obtain ⟨J2, hJ2⟩ : ∃ J2, J.switch S 0 = J2 := ⟨_, rfl⟩
            have hou := HH.out.switch (by omega)
            unfold Out at hou
            rw [hE, hS2, hJ2] at hcm hou
            have HCM := Lib.hid hcm
            have HOU := Lib.hid hou
            clear t1 t2 t3 t4 hE hS2 hJ2 hcm hou o0 o1 o2 o3 hgm
            go_wp2_with fail
            refine HCM.out.mono ?_
            rintro e w4 ⟨rfl, K4, kv4⟩
            have HK4 := Lib.hid kv4
            clear kv4 e2 HCM
            rcases HOU.out with ⟨hz, _, _, hh2⟩ | ⟨hz, _, hh2⟩
            · subst hz
              have HH2 := Lib.hid hh2
              clear hh2
              go_wp2_with fail
              go_meet
              exact ⟨0, 0, none, 0, B, cb, false, false, rfl, rfl, rfl, rfl, Lib.hid ⟨j, S2, J2, _, g + 1, [], [], HK4.out.nil1, rfl, rfl, .inl ⟨rfl, HH2.out, by omega⟩⟩⟩
            · subst hz
              have HH2 := Lib.hid hh2
              clear hh2
              go_wp2_with fail
              go_meet
              exact ⟨n, 0, A, c, B, cb, true, true, rfl, rfl, rfl, rfl, Lib.hid ⟨j, S2, J2, _, g, l, [], HK4.out, HN.out.1, rfl, .inr ⟨rfl, HH2.out.2.imp fun f h1 => by
                rcases h1 with h1 | h1
                · exact .inl (by rw [List.append_nil]; exact h1)
                · exact .inr ⟨rfl, h1⟩, HFT.out, hg⟩⟩⟩
          · obtain ⟨s1, s2⟩ := HH.out.switch_busy hr
            rw [s1, s2] at hcm
            have HCM := Lib.hid hcm
            have hmp : 0 < m := by rw [HN.out.2]; exact List.length_pos_iff.2 hr
            have hmz : ((m : Int) == 0) = false := by rw [beq_eq_false_iff_ne]; omega
            clear t1 t2 t3 t4 hcm o0 o1 o2 o3 hgm hr s1 s2
            go_wp2_with fail
            refine HCM.out.mono ?_
            rintro e w4 ⟨rfl, K4, kv4⟩
            have HK4 := Lib.hid kv4
            clear kv4 e2 HCM
            go_wp2_with fail
            go_meet
            exact ⟨n, m, A, c, B, cb, false, false, rfl, rfl, rfl, rfl, Lib.hid ⟨j, S, J, _, g, l, r, HK4.out, HN.out.1, HN.out.2, .inl ⟨rfl, HH.out, by omega⟩⟩⟩
        by_cases t5 : x0 = 5
        · as_aux_lemma =>
          have b1 : (x0 == 1) = false := by simp [t1]
          have b2 : (x0 == 2) = false := by simp [t2]
          have b3 : (x0 == 3) = false := by simp [t3]
          have b4 : (x0 == 4) = false := by simp [t4]
          have b5 : (x0 == 5) = true := by simp [t5]
          have HAR := Lib.hid (kv_arm (HVW.out.below ((Below.refl _ _).drew)) x1 HXI.out.2.1)
          have e0 := HVW.out.kp.dx.cells.1
          clear t1 t2 t3 t4 t5 o0 o2 o3
          go_wp2_with fail
          go_region_held3 (fun W' : World => W'.cell? ⟨x, 0, none⟩ = some (ob p) ∧ W'.cell? ⟨h, 1, none⟩ = some (.int .i64 x1)) (first | exact ⟨e0, o1⟩ | exact ⟨kv4.kp.dx.cells.1, o24⟩) (first | (go_at_call 22; refine HAR.out.mono ?_; rintro e w4 ⟨rfl, K4, kv4⟩; have o24 : w4.cell? ⟨h, 1, none⟩ = some (.int .i64 x1) := by { have := kv4.bk.cell 1; rw [← HCS.out] at this; exact this }))
          have HK4 := Lib.hid kv4
          clear kv4 e0 o1 HAR o24
          go_wp2_with fail
          go_meet
          exact ⟨n, m, A, c, B, cb, false, false, rfl, rfl, rfl, rfl, Lib.hid ⟨j, S.armed x1, J, _, g, l, r, HK4.out, HN.out.1, HN.out.2, .inl ⟨rfl, HH.out.armed x1, by omega⟩⟩⟩
        have b1 : (x0 == 1) = false := by simp [t1]
        have b2 : (x0 == 2) = false := by simp [t2]
        have b3 : (x0 == 3) = false := by simp [t3]
        have b4 : (x0 == 4) = false := by simp [t4]
        have b5 : (x0 == 5) = false := by simp [t5]
        by_cases t6 : x0 = 6
        · as_aux_lemma =>
          have b6 : (x0 == 6) = true := by simp [t6]
          clear t1 t2 t3 t4 t5 t6 o0 o1 o2 o3
          go_wp2_with fail
          go_meet
          exact ⟨n, m, A, c, B, cb, true, false, rfl, rfl, rfl, rfl, Lib.hid ⟨j, S, J, _, g, l, r, HVW.out, HN.out.1, HN.out.2, .inr ⟨rfl, HH.out.pf _, HH.out.fits, hg⟩⟩⟩
        have b6 : (x0 == 6) = false := by simp [t6]
        clear t1 t2 t3 t4 t5 t6 o0 o1 o2 o3
        go_wp2_with fail
        go_meet
        exact ⟨n, m, A, c, B, cb, false, false, rfl, rfl, rfl, rfl, Lib.hid ⟨j, S, J, _, g, l, r, HVW.out, HN.out.1, HN.out.2, .inl ⟨rfl, HH.out, by omega⟩⟩⟩
      case rest =>
        obtain ⟨n2, m2, A2, c2, B2, cb2, ct, fr, rfl, rfl, rfl, rfl, HM⟩ := hcut
        clear o0 o1 o2 o3 HVW HBV HH HN hg
        obtain ⟨j, S, J, K, g, l, r, hkv, hn, hm, hcase⟩ := HM.out
        have HN := Lib.hid (And.intro hn hm)
        rcases hcase with ⟨rfl, hh, hg⟩ | ⟨rfl, hcr, hft, hg⟩
        · as_aux_lemma =>
          have HKV := Lib.hid hkv
          have HH := Lib.hid hh
          clear hkv hn hm hh HM
          go_wp2_with fail
          refine ⟨⟨t + 1, n2, m2, A2, c2, B2, cb2, by omega, by first | omega | exact int_eq (by omega), rfl, rfl, Lib.hid ⟨j, S, J, K, g, l, r, HKV.out.kp, HH.out, by omega, HN.out.1, HN.out.2⟩⟩, by simp [RowKit.intOf]; omega⟩
        · as_aux_lemma =>
          have HKV := Lib.hid hkv
          have HCR := Lib.hid hcr
          have HFT := Lib.hid hft
          have e0 := hkv.kp.dx.cells.1
          have o3 : wc.cell? ⟨h, 3, none⟩ = some (.slice pa pk.length pc) := by
            have := hkv.bk.cell 3
            rw [← HCS.out] at this; exact this
          have HCRASH : Hid (∀ (W1 W2 : World) (St_ : St) (J_ : Js) (K_ : Nat → Prop) (A6 : Option Addr) (c6 : Nat), Kv w W1 x p d j St_ J_ K_ A2 c2 l B2 cb2 r h cs → Below W1.heap.size W1 W2 → OwnZ W2 W1.heap.size A6 c6 pk → Calls Try.prog 23 #[ob p, .slice A6 pk.length c6] W2 fun e w' => KvS w x p d j (.tuple #[]) (St_.crash pk) J_ A2 c2 l B2 cb2 r h cs e w') := Lib.hid (fun W1 W2 St_ J_ K_ A6 c6 hk hb ho =>
            kv_crash (hk.below hb) pk A6 pk.length c6 rfl (OwnR.cap ho) (own_capm_ ho) (OwnZ.rd ho) (fun ad e hf => by
              have h1 := hk.kp.dx.lt _ hf
              have h2 := (OwnR.lt ho ad.block (by rw [e]; rfl)).1
              omega) HPK.out.2.2.2.1)
          have HPKB : Hid (∀ W, Below w.heap.size w W → RdZ W pa pk) := Lib.hid (fun W hb => HPK.out.1.below hb)
          have hpl : pk.length ≤ 17592186044416 := HPK.out.2.2.2.2
          have HPKL := Lib.hid hpl
          clear hkv hn hm hcr hft HM
          go_wp2_with fail
          have hp0 : ([] : List Int).length + pk.length = pk.length := by simp
          go_region_held3 (fun W' : World => W'.cell? ⟨x, 0, none⟩ = some (ob p) ∧ W'.cell? ⟨h, 3, none⟩ = some (.slice pa pk.length pc)) (first | exact ⟨e0, o3⟩ | exact ⟨below_cell ((Below.refl _ _).drew.alloc (Nat.le_refl _) _) e0, below_cell ((Below.refl _ _).drew.alloc (Nat.le_refl _) _) o3⟩ | exact ⟨below_cell hb6 e0, below_cell hb6 o3⟩ | exact ⟨kv7.kp.dx.cells.1, o73⟩) (first | ((refine step_appZd rfl (.tmp 106) (.tmp 108) rfl wc.heap.size _ 0 0 [] rfl rfl (ownz_empty wc.drew (Nat.le_refl _)) pa pk.length pc pk rfl rfl (HPKB.out _ (HKV.out.kp.be.trans (((Below.refl _ _).drew.alloc (Nat.le_refl _) _).mono HKV.out.kp.be.size))) (by rw [hp0]; exact HPKL.out) (by simp) ?_; intro A6 c6 w6 hown6 hg6; rw [hp0]; rw [List.nil_append] at hown6; have hb6 : Below wc.heap.size wc w6 := (((Below.refl wc.heap.size wc).drew).alloc (Nat.le_refl _) _).grown hg6 (by simp) (fun q hq => by simp [blk] at hq; omega))) | (go_at_call 23; refine (HCRASH.out _ _ _ _ _ A6 c6 HKV.out hb6 hown6).mono ?_; rintro e w7 ⟨rfl, K7, kv7⟩; have o73 : w7.cell? ⟨h, 3, none⟩ = some (.slice pa pk.length pc) := by { have := kv7.bk.cell 3; rw [← HCS.out] at this; exact this }))
          have HK7 := Lib.hid kv7
          have hpf0 := HCR.out.crash pk
          obtain ⟨f, hpf, htn, hof, hra⟩ := hpf0
          have HTF0 := Lib.hid (And.intro htn (And.intro hof (And.intro hra hpf)))
          have o71 : w7.cell? ⟨h, 1, none⟩ = some (.int .i64 x1) := by
            have := kv7.bk.cell 1
            rw [← HCS.out] at this; exact this
          clear kv7 hpf htn hof hra hb6 hown6 hg6 o73 e0 o3
          by_cases hev : x1.tmod 2 = 0
          · have hevb : (x1.tmod 2 == 0) = true := by simpa using hev
            obtain ⟨kw, hkw, hkw1⟩ := cut_mod x1 4 (by omega)
            rw [show ((4 : Nat) : Int) + 1 = 5 from rfl] at hkw
            have hkw2 : IntKind.i64.wrap ((IntKind.u64.wrap x1).tmod 5) = (kw : Int) := by rw [← hkw, IntKind.wrap_i64]; unfold wrap64; rfl
            have e0 := HK7.out.kp.dx.cells.1
            have HAR := Lib.hid (kv_arm (HK7.out.below ((Below.refl _ _).drew)) (kw : Int) (by omega))
            clear hev
            go_wp2_with fail
            go_region_held3 (fun W' : World => W'.cell? ⟨x, 0, none⟩ = some (ob p) ∧ W'.cell? ⟨h, 1, none⟩ = some (.int .i64 x1)) (first | exact ⟨e0, o71⟩ | exact ⟨kv8.kp.dx.cells.1, o81⟩) (first | (go_at_call 22; refine HAR.out.mono ?_; rintro e w8 ⟨rfl, K8, kv8⟩; have o81 : w8.cell? ⟨h, 1, none⟩ = some (.int .i64 x1) := by { have := kv8.bk.cell 1; rw [← HCS.out] at this; exact this }))
            obtain ⟨S8, hS8⟩ : ∃ S8, (S.crash pk).armed (kw : Int) = S8 := ⟨_, rfl⟩
            rw [hS8] at kv8
            have HK8 := Lib.hid kv8
            have ht8 : Torn S8 0 32 f f ∧ S8.off = false := by
              rw [← hS8]
              exact ⟨⟨HTF0.out.1.kl, HTF0.out.1.ok, HTF0.out.1.la, HTF0.out.1.rd⟩, HTF0.out.2.1⟩
            have HT8 := Lib.hid ht8
            obtain ⟨R8, hR8⟩ : ∃ R, openF S8 0 (128 * 2) 6 = R := ⟨_, rfl⟩
            have hop8 := kv_open kv8 (128 * 2) 6 (torn_check ht8.1 HFT.out) R8 hR8
            have hop8 : Calls Try.prog 17 #[ob d, .int .i64 256, .int .i64 6] w8 fun e w' => KvO w w8 x p d j S8 (128 * 2) 6 R8 J A2 c2 l B2 cb2 r h cs e w' := hop8
            have HOP8 := Lib.hid hop8
            have hag := open_again ht8.1 ht8.2 HFT.out (by omega) HTF0.out.2.2.2
            rw [hR8] at hag
            have HAG := Lib.hid hag
            have e1 := kv8.kp.dx.cells.2.1
            clear kv8 o81 ht8 hR8 hop8 hag hS8 hkw hkw2 e0 o71
            go_wp2_with fail
            refine HOP8.out.mono ?_
            rintro e w9 hop
            have hk9 : ∃ v K9, e = .returned v ∧ Kv w w9 x p d j R8.2 J K9 A2 c2 l B2 cb2 r h cs := by
              rcases hop with ⟨_, he, K2, hk⟩ | ⟨_, j2, A3, n3, c3, K2, G, he, _, _, _, hk, _⟩
              · exact ⟨_, K2, he, hk⟩
              · exact ⟨_, K2, he, hk⟩
            obtain ⟨v9, K9, rfl, hk9⟩ := hk9
            have HK9 := Lib.hid hk9
            have e0 := hk9.kp.dx.cells.1
            have o93 : w9.cell? ⟨h, 3, none⟩ = some (.slice pa pk.length pc) := by
              have := hk9.bk.cell 3
              rw [← HCS.out] at this; exact this
            clear hk9 hop e1
            go_wp2_with fail
            go_region_held3 (fun W' : World => W'.cell? ⟨x, 0, none⟩ = some (ob p) ∧ W'.cell? ⟨h, 3, none⟩ = some (.slice pa pk.length pc)) (first | exact ⟨e0, o93⟩ | exact ⟨below_cell ((Below.refl _ _).drew.alloc (Nat.le_refl _) _) e0, below_cell ((Below.refl _ _).drew.alloc (Nat.le_refl _) _) o93⟩ | exact ⟨below_cell hb10 e0, below_cell hb10 o93⟩ | exact ⟨kv11.kp.dx.cells.1, o11⟩) (first | ((refine step_appZd rfl (.tmp 134) (.tmp 136) rfl w9.heap.size _ 0 0 [] rfl rfl (ownz_empty w9.drew (Nat.le_refl _)) pa pk.length pc pk rfl rfl (HPKB.out _ (HK9.out.kp.be.trans (((Below.refl _ _).drew.alloc (Nat.le_refl _) _).mono HK9.out.kp.be.size))) (by rw [hp0]; exact HPKL.out) (by simp) ?_; intro A10 c10 w10 hown10 hg10; rw [hp0]; rw [List.nil_append] at hown10; have hb10 : Below w9.heap.size w9 w10 := (((Below.refl w9.heap.size w9).drew).alloc (Nat.le_refl _) _).grown hg10 (by simp) (fun q hq => by simp [blk] at hq; omega))) | (go_at_call 23; refine (HCRASH.out _ _ _ _ _ A10 c10 HK9.out hb10 hown10).mono ?_; rintro e wx ⟨rfl, K11, kv11⟩; have o11 : wx.cell? ⟨h, 3, none⟩ = some (.slice pa pk.length pc) := by { have := kv11.bk.cell 3; rw [← HCS.out] at this; exact this }))
            obtain ⟨f2, hpf2, htn2, hof2, hra2⟩ := HAG.out.crash pk
            obtain ⟨Sx, hSx⟩ : ∃ Sx, R8.2.crash pk = Sx := ⟨_, rfl⟩
            rw [hSx] at htn2 hof2 hra2 kv11
            have HKX := Lib.hid kv11
            have HTF := Lib.hid (And.intro htn2 (And.intro hof2 (And.intro hra2 hpf2)))
            clear kv11 o11 hb10 hown10 hg10 e0 o93 htn2 hof2 hra2 hpf2 hSx
            obtain ⟨got, g', hR0, hheld, harm2, hor, hg', hgot⟩ := open_last HTF.out.1 HTF.out.2.1 HTF.out.2.2.1 HFT.out (by omega) HTF.out.2.2.2
            obtain ⟨R, hR⟩ : ∃ R, openF Sx 0 (128 * 2) 6 = R := ⟨_, rfl⟩
            have hop0 := kv_open HKX.out (128 * 2) 6 (torn_check HTF.out.1 HFT.out) R hR
            rw [hR] at hR0 hheld
            have hop1 : Calls Try.prog 17 #[ob d, .int .i64 256, .int .i64 6] wx fun e w' => KvO w wx x p d j Sx (128 * 2) 6 R J A2 c2 l B2 cb2 r h cs e w' := hop0
            have HOP := Lib.hid hop1
            have HHD := Lib.hid hheld
            have HR0 := Lib.hid hR0
            have HOR := Lib.hid hor
            have HGG : Hid (g' ≤ g + 1) := Lib.hid hg'
            have HGOT := Lib.hid hgot
            have e1 := HKX.out.kp.dx.cells.2.1
            clear hR0 hheld harm2 hor hg' hgot hR hop0 hop1
            go_wp2_with fail
            refine HOP.out.mono ?_
            rintro e w9 hop
            rcases hop with ⟨h9, _⟩ | ⟨_, j2, A3, n3, c3, K9, G9, rfl, hn3, ho9, hnc3, hk9, hj9, hdi9, hA9, hok9, hln9, hge9⟩
            · exact absurd HR0.out h9
            · rw [HOR.out] at hn3 ho9
              have HK9 := Lib.hid hk9
              have HO9 := Lib.hid ho9
              have HN3 : Hid (n3 = got.length) := Lib.hid hn3
              have HJ9 : Hid (JrR w9 j2 d (openJ Sx 0 (128 * 2) 6) G9 ∧ Dis K9 G9 ∧ (openJ Sx 0 (128 * 2) 6).Ok (R.2.at_ 0).size ∧ Ge G9 w.heap.size ∧ ∀ b, blk A3 = some b → ¬ K9 b ∧ ¬ G9 b) := Lib.hid ⟨hj9, hdi9, hok9, fun i hi => Nat.le_trans HKX.out.kp.be.size (hge9 i hi), fun b hb => ⟨(hA9 b hb).2.1, (hA9 b hb).2.2⟩⟩
              have hlen := fits_len HFT.out
              have HLEN : Hid (n2 + m2 ≤ 60000) := Lib.hid (by rw [HN.out.1, HN.out.2]; exact hlen)
              have hsz9 : w.heap.size ≤ w9.heap.size := HK9.out.kp.be.size
              clear hn3 ho9 hk9 hj9 hdi9 hA9 hok9 hge9 hlen e1 HOP
              have hcase : (fr = true ∧ n3 = 0) ∨ (¬ (fr = true ∧ n3 = 0) ∧ n2 ≤ n3 ∧ n3 ≤ n2 + m2 ∧ got = (l ++ r).take n3) := by
                by_cases hz : fr = true ∧ n3 = 0
                · exact .inl hz
                · refine .inr ⟨hz, ?_⟩
                  rcases HGOT.out with ⟨c', q1, q2, q3⟩ | ⟨q1, q2⟩
                  · have hc : n3 = c' := by rw [HN3.out, q3, List.length_take]; omega
                    rw [List.length_append] at q2
                    refine ⟨by rw [HN.out.1, hc]; exact q1, by rw [HN.out.1, HN.out.2, hc]; exact q2, by rw [hc]; exact q3⟩
                  · exact absurd ⟨q1, by rw [HN3.out, q2]; rfl⟩ hz
              have HAPP1 : Hid (∀ (W : World), Below w9.heap.size w9 W → RdW W A2 l ∧ RdW W B2 r) := Lib.hid (fun W hb => ⟨HK9.out.kp.r1.rd.below hb, HK9.out.kp.r2.rd.below hb⟩)
              rcases hcase with ⟨rfl, hz⟩ | ⟨hz, hz1, hz2, hz3⟩
              · have hzi : ((n3 : Int) == 0) = true := by rw [beq_iff_eq]; omega
                clear hz
                have hb0 : Below w9.heap.size w9 (w9.alloc (.cells #[] 9)) := (Below.refl _ _).alloc (Nat.le_refl _) _
                have HB0 := Lib.hid hb0
                clear hb0
                go_wp2_with (first | (at_builtin; refine wpList_appW (.inl rfl) (.tmp 154) (.tmp 155) rfl w9.heap.size _ 0 0 [] rfl rfl (ownw_empty w9 (Nat.le_refl _)) A2 n2 c2 l rfl HN.out.1 (HAPP1.out _ HB0.out).1 (by rw [← HN.out.1]; have := HLEN.out; simp; omega) HB0.out.size ?_; (rw [Nat.zero_add, List.nil_append]; intro A10 c10 w10 hown10 hg10 hat10; have hb10 : Below w9.heap.size w9 w10 := HB0.out.grown hg10 HB0.out.size (fun q hq => by simp [blk] at hq; omega); have HB10 := Lib.hid hb10; have HO10 := Lib.hid hown10; clear hb10 hown10 hg10 hat10)) | (at_builtin; go_must (refine wpList_appW (.inl rfl) (.tmp 156) (.tmp 157) rfl w9.heap.size A10 n2 c10 l rfl HN.out.1 HO10.out B2 m2 cb2 r rfl HN.out.2 (HAPP1.out _ HB10.out).2 (by rw [← HN.out.1, ← HN.out.2]; have := HLEN.out; omega) HB10.out.size ?_); (intro A11 c11 w11 hown11 hg11 hat11; have hb11 : Below w9.heap.size w9 w11 := HB10.out.grown hg11 HB10.out.size (fun q hq => (OwnR.lt HO10.out q hq).1); have HB911 := Lib.hid hb11; have HO11 := Lib.hid hown11; have HK11 := Lib.hid (HK9.out.below hb11); have hc11 : n2 + m2 ≤ c11 := by { have h1 := OwnR.cap hown11; rw [List.length_append, ← HN.out.1, ← HN.out.2] at h1; exact h1 }; clear hb11 hown11 hg11 hat11 ; have e2 := HK11.out.kp.dx.cells.2.2.1; have f2 := HK11.out.kp.dx.cells.2.2.2)))
                obtain ⟨K12, hkp12⟩ := Kv.adopt (B0 := 0) (n3 := n3) (HK11.out.below (Below.refl w11.heap.size w11)) (HJ9.out.1.below (HB911.out.trans ((Below.refl w11.heap.size w11).mono HB911.out.size))) HJ9.out.2.1 HJ9.out.2.2.1 HJ9.out.2.2.2.1 (OwnR.mono (OwnR.below' (OwnR.below' HO9.out HB911.out) (Below.refl w11.heap.size w11)) HKX.out.kp.be.size) HJ9.out.2.2.2.2
                refine ⟨⟨t + 1, n3, 0, A3, c3, none, 0, by omega, by first | omega | exact int_eq (by omega), rfl, rfl, Lib.hid ⟨j2, R.2, openJ Sx 0 (128 * 2) 6, K12, g', got, [], hkp12, HHD.out, by have := HGG.out; omega, HN3.out, rfl⟩⟩, by simp [RowKit.intOf]; omega⟩
              · have hz4 : (n2 : Int) ≤ (n3 : Int) := by omega
                have hz5 : (n3 : Int) ≤ (n2 : Int) + (m2 : Int) := by omega
                have hz5' : n3 ≤ n2 + m2 := hz2
                have HGT := Lib.hid hz3
                cases fr with
                | false =>
                  clear hz hz1 hz2 hz3
                  have hb0 : Below w9.heap.size w9 (w9.alloc (.cells #[] 9)) := (Below.refl _ _).alloc (Nat.le_refl _) _
                  have HB0 := Lib.hid hb0
                  clear hb0
                  go_wp2_with (first | (at_builtin; refine wpList_appW (.inl rfl) (.tmp 154) (.tmp 155) rfl w9.heap.size _ 0 0 [] rfl rfl (ownw_empty w9 (Nat.le_refl _)) A2 n2 c2 l rfl HN.out.1 (HAPP1.out _ HB0.out).1 (by rw [← HN.out.1]; have := HLEN.out; simp; omega) HB0.out.size ?_; (rw [Nat.zero_add, List.nil_append]; intro A10 c10 w10 hown10 hg10 hat10; have hb10 : Below w9.heap.size w9 w10 := HB0.out.grown hg10 HB0.out.size (fun q hq => by simp [blk] at hq; omega); have HB10 := Lib.hid hb10; have HO10 := Lib.hid hown10; clear hb10 hown10 hg10 hat10)) | (at_builtin; go_must (refine wpList_appW (.inl rfl) (.tmp 156) (.tmp 157) rfl w9.heap.size A10 n2 c10 l rfl HN.out.1 HO10.out B2 m2 cb2 r rfl HN.out.2 (HAPP1.out _ HB10.out).2 (by rw [← HN.out.1, ← HN.out.2]; have := HLEN.out; omega) HB10.out.size ?_); (intro A11 c11 w11 hown11 hg11 hat11; have hb11 : Below w9.heap.size w9 w11 := HB10.out.grown hg11 HB10.out.size (fun q hq => (OwnR.lt HO10.out q hq).1); have HB911 := Lib.hid hb11; have HO11 := Lib.hid hown11; have HK11 := Lib.hid (HK9.out.below hb11); have hc11 : n2 + m2 ≤ c11 := by { have h1 := OwnR.cap hown11; rw [List.length_append, ← HN.out.1, ← HN.out.2] at h1; exact h1 }; clear hb11 hown11 hg11 hat11 )))
                  have HSM : Hid (Calls Try.prog 19 #[.slice A3 n3 c3, .slice A11 n3 c11] w11 fun e w' => QuietB true w11 e w') := Lib.hid (by
                    have htl : ((l ++ r).take n3).length = n3 := by rw [List.length_take, List.length_append, ← HN.out.1, ← HN.out.2]; omega
                    have := same_any A3 A11 got ((l ++ r).take n3) c3 c11 w11 ((OwnW.rd HO9.out).below HB911.out) (HO11.out.rd.take n3) (by unfold maxLen; rw [← HN3.out]; omega) (by unfold maxLen; rw [htl]; omega)
                    rw [decide_eq_true HGT.out, htl, ← HN3.out] at this
                    exact this)
                  go_wp2_with fail
                  refine HSM.out.mono ?_
                  rintro e w12 ⟨rfl, nq, rfl⟩
                  have e2 : (w11.drewN nq).cell? ⟨x, 2, none⟩ = some (ob j) := HK11.out.kp.dx.cells.2.2.1
                  have f2 : (w11.drewN nq).frozen? ⟨x, 2, none⟩ = false := HK11.out.kp.dx.cells.2.2.2
                  go_wp2_with fail
                  obtain ⟨K12, hkp12⟩ := Kv.adopt (B0 := 0) (n3 := n3) (HK11.out.below (below_drewN (Below.refl w11.heap.size w11) nq)) (HJ9.out.1.below (HB911.out.trans ((below_drewN (Below.refl w11.heap.size w11) nq).mono HB911.out.size))) HJ9.out.2.1 HJ9.out.2.2.1 HJ9.out.2.2.2.1 (OwnR.mono (OwnR.below' (OwnR.below' HO9.out HB911.out) (below_drewN (Below.refl w11.heap.size w11) nq)) HKX.out.kp.be.size) HJ9.out.2.2.2.2
                  refine ⟨⟨t + 1, n3, 0, A3, c3, none, 0, by omega, by first | omega | exact int_eq (by omega), rfl, rfl, Lib.hid ⟨j2, R.2, openJ Sx 0 (128 * 2) 6, K12, g', got, [], hkp12, HHD.out, by have := HGG.out; omega, HN3.out, rfl⟩⟩, by simp [RowKit.intOf]; omega⟩
                | true =>
                  have hzi : ((n3 : Int) == 0) = false := by rw [beq_eq_false_iff_ne]; intro h0; exact hz ⟨rfl, by omega⟩
                  clear hz hz1 hz2 hz3
                  have hb0 : Below w9.heap.size w9 (w9.alloc (.cells #[] 9)) := (Below.refl _ _).alloc (Nat.le_refl _) _
                  have HB0 := Lib.hid hb0
                  clear hb0
                  go_wp2_with (first | (at_builtin; refine wpList_appW (.inl rfl) (.tmp 154) (.tmp 155) rfl w9.heap.size _ 0 0 [] rfl rfl (ownw_empty w9 (Nat.le_refl _)) A2 n2 c2 l rfl HN.out.1 (HAPP1.out _ HB0.out).1 (by rw [← HN.out.1]; have := HLEN.out; simp; omega) HB0.out.size ?_; (rw [Nat.zero_add, List.nil_append]; intro A10 c10 w10 hown10 hg10 hat10; have hb10 : Below w9.heap.size w9 w10 := HB0.out.grown hg10 HB0.out.size (fun q hq => by simp [blk] at hq; omega); have HB10 := Lib.hid hb10; have HO10 := Lib.hid hown10; clear hb10 hown10 hg10 hat10)) | (at_builtin; go_must (refine wpList_appW (.inl rfl) (.tmp 156) (.tmp 157) rfl w9.heap.size A10 n2 c10 l rfl HN.out.1 HO10.out B2 m2 cb2 r rfl HN.out.2 (HAPP1.out _ HB10.out).2 (by rw [← HN.out.1, ← HN.out.2]; have := HLEN.out; omega) HB10.out.size ?_); (intro A11 c11 w11 hown11 hg11 hat11; have hb11 : Below w9.heap.size w9 w11 := HB10.out.grown hg11 HB10.out.size (fun q hq => (OwnR.lt HO10.out q hq).1); have HB911 := Lib.hid hb11; have HO11 := Lib.hid hown11; have HK11 := Lib.hid (HK9.out.below hb11); have hc11 : n2 + m2 ≤ c11 := by { have h1 := OwnR.cap hown11; rw [List.length_append, ← HN.out.1, ← HN.out.2] at h1; exact h1 }; clear hb11 hown11 hg11 hat11 )))
                  have HSM : Hid (Calls Try.prog 19 #[.slice A3 n3 c3, .slice A11 n3 c11] w11 fun e w' => QuietB true w11 e w') := Lib.hid (by
                    have htl : ((l ++ r).take n3).length = n3 := by rw [List.length_take, List.length_append, ← HN.out.1, ← HN.out.2]; omega
                    have := same_any A3 A11 got ((l ++ r).take n3) c3 c11 w11 ((OwnW.rd HO9.out).below HB911.out) (HO11.out.rd.take n3) (by unfold maxLen; rw [← HN3.out]; omega) (by unfold maxLen; rw [htl]; omega)
                    rw [decide_eq_true HGT.out, htl, ← HN3.out] at this
                    exact this)
                  go_wp2_with fail
                  refine HSM.out.mono ?_
                  rintro e w12 ⟨rfl, nq, rfl⟩
                  have e2 : (w11.drewN nq).cell? ⟨x, 2, none⟩ = some (ob j) := HK11.out.kp.dx.cells.2.2.1
                  have f2 : (w11.drewN nq).frozen? ⟨x, 2, none⟩ = false := HK11.out.kp.dx.cells.2.2.2
                  go_wp2_with fail
                  obtain ⟨K12, hkp12⟩ := Kv.adopt (B0 := 0) (n3 := n3) (HK11.out.below (below_drewN (Below.refl w11.heap.size w11) nq)) (HJ9.out.1.below (HB911.out.trans ((below_drewN (Below.refl w11.heap.size w11) nq).mono HB911.out.size))) HJ9.out.2.1 HJ9.out.2.2.1 HJ9.out.2.2.2.1 (OwnR.mono (OwnR.below' (OwnR.below' HO9.out HB911.out) (below_drewN (Below.refl w11.heap.size w11) nq)) HKX.out.kp.be.size) HJ9.out.2.2.2.2
                  refine ⟨⟨t + 1, n3, 0, A3, c3, none, 0, by omega, by first | omega | exact int_eq (by omega), rfl, rfl, Lib.hid ⟨j2, R.2, openJ Sx 0 (128 * 2) 6, K12, g', got, [], hkp12, HHD.out, by have := HGG.out; omega, HN3.out, rfl⟩⟩, by simp [RowKit.intOf]; omega⟩
          · have hevb : (x1.tmod 2 == 0) = false := by simpa using hev
            obtain ⟨Sx, hSx⟩ : ∃ Sx, S.crash pk = Sx := ⟨_, rfl⟩
            rw [hSx] at HK7 HTF0
            have HKX := HK7
            have HTF := HTF0
            clear hev hSx
            have hstop : True := trivial
            go_upto_region 41 with fail
            obtain ⟨got, g', hR0, hheld, harm2, hor, hg', hgot⟩ := open_last HTF.out.1 HTF.out.2.1 HTF.out.2.2.1 HFT.out (by omega) HTF.out.2.2.2
            obtain ⟨R, hR⟩ : ∃ R, openF Sx 0 (128 * 2) 6 = R := ⟨_, rfl⟩
            have hop0 := kv_open HKX.out (128 * 2) 6 (torn_check HTF.out.1 HFT.out) R hR
            rw [hR] at hR0 hheld
            have hop1 : Calls Try.prog 17 #[ob d, .int .i64 256, .int .i64 6] w7 fun e w' => KvO w w7 x p d j Sx (128 * 2) 6 R J A2 c2 l B2 cb2 r h cs e w' := hop0
            have HOP := Lib.hid hop1
            have HHD := Lib.hid hheld
            have HR0 := Lib.hid hR0
            have HOR := Lib.hid hor
            have HGG : Hid (g' ≤ g + 1) := Lib.hid hg'
            have HGOT := Lib.hid hgot
            have e1 := HKX.out.kp.dx.cells.2.1
            clear hR0 hheld harm2 hor hg' hgot hR hop0 hop1
            go_wp2_with fail
            refine HOP.out.mono ?_
            rintro e w9 hop
            rcases hop with ⟨h9, _⟩ | ⟨_, j2, A3, n3, c3, K9, G9, rfl, hn3, ho9, hnc3, hk9, hj9, hdi9, hA9, hok9, hln9, hge9⟩
            · exact absurd HR0.out h9
            · rw [HOR.out] at hn3 ho9
              have HK9 := Lib.hid hk9
              have HO9 := Lib.hid ho9
              have HN3 : Hid (n3 = got.length) := Lib.hid hn3
              have HJ9 : Hid (JrR w9 j2 d (openJ Sx 0 (128 * 2) 6) G9 ∧ Dis K9 G9 ∧ (openJ Sx 0 (128 * 2) 6).Ok (R.2.at_ 0).size ∧ Ge G9 w.heap.size ∧ ∀ b, blk A3 = some b → ¬ K9 b ∧ ¬ G9 b) := Lib.hid ⟨hj9, hdi9, hok9, fun i hi => Nat.le_trans HKX.out.kp.be.size (hge9 i hi), fun b hb => ⟨(hA9 b hb).2.1, (hA9 b hb).2.2⟩⟩
              have hlen := fits_len HFT.out
              have HLEN : Hid (n2 + m2 ≤ 60000) := Lib.hid (by rw [HN.out.1, HN.out.2]; exact hlen)
              have hsz9 : w.heap.size ≤ w9.heap.size := HK9.out.kp.be.size
              clear hn3 ho9 hk9 hj9 hdi9 hA9 hok9 hge9 hlen e1 HOP
              have hcase : (fr = true ∧ n3 = 0) ∨ (¬ (fr = true ∧ n3 = 0) ∧ n2 ≤ n3 ∧ n3 ≤ n2 + m2 ∧ got = (l ++ r).take n3) := by
                by_cases hz : fr = true ∧ n3 = 0
                · exact .inl hz
                · refine .inr ⟨hz, ?_⟩
                  rcases HGOT.out with ⟨c', q1, q2, q3⟩ | ⟨q1, q2⟩
                  · have hc : n3 = c' := by rw [HN3.out, q3, List.length_take]; omega
                    rw [List.length_append] at q2
                    refine ⟨by rw [HN.out.1, hc]; exact q1, by rw [HN.out.1, HN.out.2, hc]; exact q2, by rw [hc]; exact q3⟩
                  · exact absurd ⟨q1, by rw [HN3.out, q2]; rfl⟩ hz
              have HAPP1 : Hid (∀ (W : World), Below w9.heap.size w9 W → RdW W A2 l ∧ RdW W B2 r) := Lib.hid (fun W hb => ⟨HK9.out.kp.r1.rd.below hb, HK9.out.kp.r2.rd.below hb⟩)
              rcases hcase with ⟨rfl, hz⟩ | ⟨hz, hz1, hz2, hz3⟩
              · have hzi : ((n3 : Int) == 0) = true := by rw [beq_iff_eq]; omega
                clear hz
                have hb0 : Below w9.heap.size w9 (w9.alloc (.cells #[] 9)) := (Below.refl _ _).alloc (Nat.le_refl _) _
                have HB0 := Lib.hid hb0
                clear hb0
                go_wp2_with (first | (at_builtin; refine wpList_appW (.inl rfl) (.tmp 154) (.tmp 155) rfl w9.heap.size _ 0 0 [] rfl rfl (ownw_empty w9 (Nat.le_refl _)) A2 n2 c2 l rfl HN.out.1 (HAPP1.out _ HB0.out).1 (by rw [← HN.out.1]; have := HLEN.out; simp; omega) HB0.out.size ?_; (rw [Nat.zero_add, List.nil_append]; intro A10 c10 w10 hown10 hg10 hat10; have hb10 : Below w9.heap.size w9 w10 := HB0.out.grown hg10 HB0.out.size (fun q hq => by simp [blk] at hq; omega); have HB10 := Lib.hid hb10; have HO10 := Lib.hid hown10; clear hb10 hown10 hg10 hat10)) | (at_builtin; go_must (refine wpList_appW (.inl rfl) (.tmp 156) (.tmp 157) rfl w9.heap.size A10 n2 c10 l rfl HN.out.1 HO10.out B2 m2 cb2 r rfl HN.out.2 (HAPP1.out _ HB10.out).2 (by rw [← HN.out.1, ← HN.out.2]; have := HLEN.out; omega) HB10.out.size ?_); (intro A11 c11 w11 hown11 hg11 hat11; have hb11 : Below w9.heap.size w9 w11 := HB10.out.grown hg11 HB10.out.size (fun q hq => (OwnR.lt HO10.out q hq).1); have HB911 := Lib.hid hb11; have HO11 := Lib.hid hown11; have HK11 := Lib.hid (HK9.out.below hb11); have hc11 : n2 + m2 ≤ c11 := by { have h1 := OwnR.cap hown11; rw [List.length_append, ← HN.out.1, ← HN.out.2] at h1; exact h1 }; clear hb11 hown11 hg11 hat11 ; have e2 := HK11.out.kp.dx.cells.2.2.1; have f2 := HK11.out.kp.dx.cells.2.2.2)))
                obtain ⟨K12, hkp12⟩ := Kv.adopt (B0 := 0) (n3 := n3) (HK11.out.below (Below.refl w11.heap.size w11)) (HJ9.out.1.below (HB911.out.trans ((Below.refl w11.heap.size w11).mono HB911.out.size))) HJ9.out.2.1 HJ9.out.2.2.1 HJ9.out.2.2.2.1 (OwnR.mono (OwnR.below' (OwnR.below' HO9.out HB911.out) (Below.refl w11.heap.size w11)) HKX.out.kp.be.size) HJ9.out.2.2.2.2
                refine ⟨⟨t + 1, n3, 0, A3, c3, none, 0, by omega, by first | omega | exact int_eq (by omega), rfl, rfl, Lib.hid ⟨j2, R.2, openJ Sx 0 (128 * 2) 6, K12, g', got, [], hkp12, HHD.out, by have := HGG.out; omega, HN3.out, rfl⟩⟩, by simp [RowKit.intOf]; omega⟩
              · have hz4 : (n2 : Int) ≤ (n3 : Int) := by omega
                have hz5 : (n3 : Int) ≤ (n2 : Int) + (m2 : Int) := by omega
                have hz5' : n3 ≤ n2 + m2 := hz2
                have HGT := Lib.hid hz3
                cases fr with
                | false =>
                  clear hz hz1 hz2 hz3
                  have hb0 : Below w9.heap.size w9 (w9.alloc (.cells #[] 9)) := (Below.refl _ _).alloc (Nat.le_refl _) _
                  have HB0 := Lib.hid hb0
                  clear hb0
                  go_wp2_with (first | (at_builtin; refine wpList_appW (.inl rfl) (.tmp 154) (.tmp 155) rfl w9.heap.size _ 0 0 [] rfl rfl (ownw_empty w9 (Nat.le_refl _)) A2 n2 c2 l rfl HN.out.1 (HAPP1.out _ HB0.out).1 (by rw [← HN.out.1]; have := HLEN.out; simp; omega) HB0.out.size ?_; (rw [Nat.zero_add, List.nil_append]; intro A10 c10 w10 hown10 hg10 hat10; have hb10 : Below w9.heap.size w9 w10 := HB0.out.grown hg10 HB0.out.size (fun q hq => by simp [blk] at hq; omega); have HB10 := Lib.hid hb10; have HO10 := Lib.hid hown10; clear hb10 hown10 hg10 hat10)) | (at_builtin; go_must (refine wpList_appW (.inl rfl) (.tmp 156) (.tmp 157) rfl w9.heap.size A10 n2 c10 l rfl HN.out.1 HO10.out B2 m2 cb2 r rfl HN.out.2 (HAPP1.out _ HB10.out).2 (by rw [← HN.out.1, ← HN.out.2]; have := HLEN.out; omega) HB10.out.size ?_); (intro A11 c11 w11 hown11 hg11 hat11; have hb11 : Below w9.heap.size w9 w11 := HB10.out.grown hg11 HB10.out.size (fun q hq => (OwnR.lt HO10.out q hq).1); have HB911 := Lib.hid hb11; have HO11 := Lib.hid hown11; have HK11 := Lib.hid (HK9.out.below hb11); have hc11 : n2 + m2 ≤ c11 := by { have h1 := OwnR.cap hown11; rw [List.length_append, ← HN.out.1, ← HN.out.2] at h1; exact h1 }; clear hb11 hown11 hg11 hat11 )))
                  have HSM : Hid (Calls Try.prog 19 #[.slice A3 n3 c3, .slice A11 n3 c11] w11 fun e w' => QuietB true w11 e w') := Lib.hid (by
                    have htl : ((l ++ r).take n3).length = n3 := by rw [List.length_take, List.length_append, ← HN.out.1, ← HN.out.2]; omega
                    have := same_any A3 A11 got ((l ++ r).take n3) c3 c11 w11 ((OwnW.rd HO9.out).below HB911.out) (HO11.out.rd.take n3) (by unfold maxLen; rw [← HN3.out]; omega) (by unfold maxLen; rw [htl]; omega)
                    rw [decide_eq_true HGT.out, htl, ← HN3.out] at this
                    exact this)
                  go_wp2_with fail
                  refine HSM.out.mono ?_
                  rintro e w12 ⟨rfl, nq, rfl⟩
                  have e2 : (w11.drewN nq).cell? ⟨x, 2, none⟩ = some (ob j) := HK11.out.kp.dx.cells.2.2.1
                  have f2 : (w11.drewN nq).frozen? ⟨x, 2, none⟩ = false := HK11.out.kp.dx.cells.2.2.2
                  go_wp2_with fail
                  obtain ⟨K12, hkp12⟩ := Kv.adopt (B0 := 0) (n3 := n3) (HK11.out.below (below_drewN (Below.refl w11.heap.size w11) nq)) (HJ9.out.1.below (HB911.out.trans ((below_drewN (Below.refl w11.heap.size w11) nq).mono HB911.out.size))) HJ9.out.2.1 HJ9.out.2.2.1 HJ9.out.2.2.2.1 (OwnR.mono (OwnR.below' (OwnR.below' HO9.out HB911.out) (below_drewN (Below.refl w11.heap.size w11) nq)) HKX.out.kp.be.size) HJ9.out.2.2.2.2
                  refine ⟨⟨t + 1, n3, 0, A3, c3, none, 0, by omega, by first | omega | exact int_eq (by omega), rfl, rfl, Lib.hid ⟨j2, R.2, openJ Sx 0 (128 * 2) 6, K12, g', got, [], hkp12, HHD.out, by have := HGG.out; omega, HN3.out, rfl⟩⟩, by simp [RowKit.intOf]; omega⟩
                | true =>
                  have hzi : ((n3 : Int) == 0) = false := by rw [beq_eq_false_iff_ne]; intro h0; exact hz ⟨rfl, by omega⟩
                  clear hz hz1 hz2 hz3
                  have hb0 : Below w9.heap.size w9 (w9.alloc (.cells #[] 9)) := (Below.refl _ _).alloc (Nat.le_refl _) _
                  have HB0 := Lib.hid hb0
                  clear hb0
                  go_wp2_with (first | (at_builtin; refine wpList_appW (.inl rfl) (.tmp 154) (.tmp 155) rfl w9.heap.size _ 0 0 [] rfl rfl (ownw_empty w9 (Nat.le_refl _)) A2 n2 c2 l rfl HN.out.1 (HAPP1.out _ HB0.out).1 (by rw [← HN.out.1]; have := HLEN.out; simp; omega) HB0.out.size ?_; (rw [Nat.zero_add, List.nil_append]; intro A10 c10 w10 hown10 hg10 hat10; have hb10 : Below w9.heap.size w9 w10 := HB0.out.grown hg10 HB0.out.size (fun q hq => by simp [blk] at hq; omega); have HB10 := Lib.hid hb10; have HO10 := Lib.hid hown10; clear hb10 hown10 hg10 hat10)) | (at_builtin; go_must (refine wpList_appW (.inl rfl) (.tmp 156) (.tmp 157) rfl w9.heap.size A10 n2 c10 l rfl HN.out.1 HO10.out B2 m2 cb2 r rfl HN.out.2 (HAPP1.out _ HB10.out).2 (by rw [← HN.out.1, ← HN.out.2]; have := HLEN.out; omega) HB10.out.size ?_); (intro A11 c11 w11 hown11 hg11 hat11; have hb11 : Below w9.heap.size w9 w11 := HB10.out.grown hg11 HB10.out.size (fun q hq => (OwnR.lt HO10.out q hq).1); have HB911 := Lib.hid hb11; have HO11 := Lib.hid hown11; have HK11 := Lib.hid (HK9.out.below hb11); have hc11 : n2 + m2 ≤ c11 := by { have h1 := OwnR.cap hown11; rw [List.length_append, ← HN.out.1, ← HN.out.2] at h1; exact h1 }; clear hb11 hown11 hg11 hat11 )))
                  have HSM : Hid (Calls Try.prog 19 #[.slice A3 n3 c3, .slice A11 n3 c11] w11 fun e w' => QuietB true w11 e w') := Lib.hid (by
                    have htl : ((l ++ r).take n3).length = n3 := by rw [List.length_take, List.length_append, ← HN.out.1, ← HN.out.2]; omega
                    have := same_any A3 A11 got ((l ++ r).take n3) c3 c11 w11 ((OwnW.rd HO9.out).below HB911.out) (HO11.out.rd.take n3) (by unfold maxLen; rw [← HN3.out]; omega) (by unfold maxLen; rw [htl]; omega)
                    rw [decide_eq_true HGT.out, htl, ← HN3.out] at this
                    exact this)
                  go_wp2_with fail
                  refine HSM.out.mono ?_
                  rintro e w12 ⟨rfl, nq, rfl⟩
                  have e2 : (w11.drewN nq).cell? ⟨x, 2, none⟩ = some (ob j) := HK11.out.kp.dx.cells.2.2.1
                  have f2 : (w11.drewN nq).frozen? ⟨x, 2, none⟩ = false := HK11.out.kp.dx.cells.2.2.2
                  go_wp2_with fail
                  obtain ⟨K12, hkp12⟩ := Kv.adopt (B0 := 0) (n3 := n3) (HK11.out.below (below_drewN (Below.refl w11.heap.size w11) nq)) (HJ9.out.1.below (HB911.out.trans ((below_drewN (Below.refl w11.heap.size w11) nq).mono HB911.out.size))) HJ9.out.2.1 HJ9.out.2.2.1 HJ9.out.2.2.2.1 (OwnR.mono (OwnR.below' (OwnR.below' HO9.out HB911.out) (below_drewN (Below.refl w11.heap.size w11) nq)) HKX.out.kp.be.size) HJ9.out.2.2.2.2
                  refine ⟨⟨t + 1, n3, 0, A3, c3, none, 0, by omega, by first | omega | exact int_eq (by omega), rfl, rfl, Lib.hid ⟨j2, R.2, openJ Sx 0 (128 * 2) 6, K12, g', got, [], hkp12, HHD.out, by have := HGG.out; omega, HN3.out, rfl⟩⟩, by simp [RowKit.intOf]; omega⟩
    · obtain ⟨j, S, J, K, g, l, r, hkp, hh, hg, hn, hm⟩ := HJ.out
      have HBE := Lib.hid hkp.be
      clear hkp hh hg hn hm HJ
      by_cases hlt0 : t < len0
      · have h40 : (40 : Int) ≤ (t : Int) := by omega
        go_wp2_with fail
        go_returns
        exact ⟨rfl, HBE.out⟩
      · have hl0 : (len0 : Int) ≤ (t : Int) := by omega
        go_wp2_with fail
        go_returns
        exact ⟨rfl, HBE.out⟩
end Go.Proofs.Ytjmhfjioccljeaa
