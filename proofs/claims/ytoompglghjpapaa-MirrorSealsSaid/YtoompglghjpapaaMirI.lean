/-
  Walk: (*Mirror).Cure.
-/
import Derived.Test.YtoompglghjpapaaMirH
namespace Go.Proofs.Ytoompglghjpapaa
open Go.RowKit Crc
set_option linter.unusedVariables false
set_option linter.unusedSimpArgs false
attribute [local go_sem ↓] Go.wp_at_zero Go.wp_at_succ

def cureG (o : Int) (b : List UInt8) : List Nat → St → Int × St
  | [], S => (0, S)
  | i :: r, S => if (S.write i o b).1 = 0 then cureG o b r (S.write i o b).2 else S.write i o b
def cureR (S : St) (o z cr : Int) (md : ByteArray) (N : Nat) : Int × St :=
  if lookR S o z N ≠ 0 then (lookR S o z N, S) else if whichN S o z cr md N < N then cureG o (readB (S.at_ (whichN S o z cr md N)) S.off o z) (sickN S o z cr md N) S else (17, S)
def CureSpec (w0 : World) (p G : Nat) (as_ : List Nat) (S : St) (m N : Nat) (o z cr : Int) (md : ByteArray) (F : Nat → Prop) (w : World) (e : Ending) (w' : World) : Prop :=
  ∃ v F', e = .returned (.tuple #[v, .int .i64 (cureR S o z cr md N).1]) ∧ Mr w0 w' p G as_ (cureR S o z cr md N).2 m F' ∧ Step F F' w w' ∧ ((cureR S o z cr md N).1 ≠ 0 → v = .slice none 0 0) ∧
    ((cureR S o z cr md N).1 = 0 → ∃ A c, v = .slice A (sickN S o z cr md N).length c ∧ RdZ w' A ((sickN S o z cr md N).map fun k : Nat => (k : Int)))
theorem sickN_lt {S : St} {o z cr : Int} {md : ByteArray} {N k : Nat} (h : k ∈ sickN S o z cr md N) : k < N := by
  unfold sickN at h
  exact List.mem_range.1 (List.mem_filter.1 h).1
theorem lookE_all (S : St) (o z : Int) : ∀ (c k : Nat), lookE S o z c k = 0 → ∀ j, k ≤ j → j < k + c → readE (S.at_ j) S.off o z = 0
  | 0, k, _, j, h1, h2 => by omega
  | c + 1, k, h, j, h1, h2 => by
    unfold lookE at h
    by_cases e : readE (S.at_ k) S.off o z = 0
    · rw [if_pos e] at h
      by_cases hj : j = k
      · subst hj; exact e
      · exact lookE_all S o z c (k + 1) h j (by omega) (by omega)
    · rw [if_neg e] at h
      exact absurd h e
theorem look_ok {S : St} {o z : Int} {N : Nat} (h : lookR S o z N = 0) : 1 ≤ z ∧ ∀ j, j < N → readE (S.at_ j) S.off o z = 0 := by
  unfold lookR at h
  by_cases hz : z < 1
  · rw [if_pos hz] at h; omega
  · rw [if_neg hz] at h
    exact ⟨by omega, fun j hj => lookE_all S o z N 0 h j (by omega) (by omega)⟩
theorem read_len {D : Dk} {off : Bool} {o z : Int} (h : readE D off o z = 0) (hl : D.rd.length = D.size) : (readB D off o z).length = z.toNat ∧ 0 ≤ o ∧ 0 ≤ z ∧ o.toNat + z.toNat ≤ D.size ∧ off = false := by
  unfold readB
  rw [if_pos h]
  unfold readE at h
  by_cases hi : inB D.size o z = true
  · rw [if_pos hi] at h
    unfold inB at hi
    have hi := of_decide_eq_true hi
    refine ⟨by rw [List.length_take, List.length_drop]; omega, hi.1, hi.2.1, by omega, ?_⟩
    cases off with
    | true => simp at h
    | false => rfl
  · rw [if_neg hi] at h; omega
theorem pw_rd {w : World} {p N k : Nat} {as_ : List Nat} {S : St} {F : Nat → Prop} (h : PwS w p as_ S F) (hN : as_.length = N) (hk : k < N) : (S.at_ k).rd.length = (S.at_ k).size := by
  have hd : as_[k]? = some (as_[k]'(by omega)) := List.getElem?_eq_getElem (by omega)
  obtain ⟨_, _, _, _, _, _, _, _, _, h2, _⟩ := h.open_ hd
  have h5 := h2.ok.rd
  have h6 := h2.size
  omega
theorem read_pos {w : World} {p N i : Nat} {as_ : List Nat} {S : St} {F : Nat → Prop} {o z : Int} (h : PwS w p as_ S F) (hN : as_.length = N) (hl : lookR S o z N = 0) (hi : i < N) : 0 < (readB (S.at_ i) S.off o z).length := by
  obtain ⟨hz, ha⟩ := look_ok hl
  rw [(read_len (ha i hi) (pw_rd h hN hi)).1]
  omega
theorem drop_get {l : List Nat} {k : Nat} (h : k < l.length) : l.drop k = l.getD k 0 :: l.drop (k + 1) := by
  rw [List.drop_eq_getElem_cons h]
  simp [List.getD, h]
theorem Mr.list2 {w0 w : World} {p G m N : Nat} {as_ : List Nat} {S : St} {F : Nat → Prop} (h : Mr w0 w p G as_ S m F) (hN : as_.length = N) : ∃ g c, w.cell? ⟨m, 0, none⟩ = some (.slice (some ⟨g, 0, none⟩) N c) ∧ (∀ k, k < N → ∃ d, as_[k]? = some d ∧ w.cell? ⟨g, k, none⟩ = some (ob d)) ∧ ¬ F m ∧ ¬ F g ∧ m < w.heap.size ∧ g < w.heap.size := by
  obtain ⟨g, cm, hm1, hm2, hm3, hm4, hm5⟩ := h.mir
  refine ⟨g, cm, ?_, fun k hk => ?_, hm3, hm4, hm1.lt, hm5⟩
  · have := hm1.cell 0
    simp at this
    rw [hN] at this
    exact this
  · have hkl : k < as_.length := by omega
    refine ⟨as_[k], List.getElem?_eq_getElem hkl, ?_⟩
    have := hm2 k hkl
    rwa [show as_.getD k 0 = as_[k] by simp [List.getD, hkl]] at this
set_option maxRecDepth 100000 in
set_option maxHeartbeats 4000000 in
theorem cure_any {w0 w : World} {p G m N : Nat} {as_ : List Nat} {S : St} {F : Nat → Prop} (h : Mr w0 w p G as_ S m F) (hN : as_.length = N) (hN8 : N ≤ 8) (o z cr : Int) (md : ByteArray) (ho : -9223372036854775808 ≤ o ∧ o ≤ 9223372036854775807) (hz : -9223372036854775808 ≤ z ∧ z ≤ 9223372036854775807) :
    Calls Try.prog 55 #[ob m, .agg #[.int .i64 o, .int .i64 z, .int .i64 cr, .string md]] w fun e w' => CureSpec w0 p G as_ S m N o z cr md F w e w' := by
  have hbx : Below w.heap.size w (w.alloc (.cells #[.int .i64 o, .int .i64 z, .int .i64 cr, .string md] 28)) := (Below.refl _ _).alloc (Nat.le_refl _) _
  have HM := Lib.hid (And.intro h hN)
  have HFE := Lib.hid (fetch_any (h.below hbx) hN hN8 o z cr md ho hz)
  have HLE := Lib.hid (conts_le h.lw.pw hN o z)
  have hbk := Blk.new w 28 #[.int .i64 o, .int .i64 z, .int .i64 cr, .string md]
  have HBK := Lib.hid hbk
  have HBX := Lib.hid hbx
  have HO := Lib.hid (And.intro ho hz)
  obtain ⟨R, hR⟩ : ∃ R, cureR S o z cr md N = R := ⟨_, rfl⟩
  have HR := Lib.hid hR
  clear hbx h hN hbk hR ho hz
  go_enter Try.func55, Try.ntmps55
  go_wp2_with fail
  refine HFE.out.mono ?_
  rintro e w2 ⟨hb2, hres⟩
  have HB2 : Hid (Below w.heap.size w w2) := Lib.hid (HBX.out.trans (hb2.mono HBX.out.size))
  have HBK2 := Lib.hid (HBK.out.below_ hb2)
  clear HFE HBK
  obtain ⟨L, hL⟩ : ∃ L, lookR S o z N = L := ⟨_, rfl⟩
  have HL := Lib.hid hL
  rw [hL] at hres
  clear hL hb2
  rcases hres with ⟨hne, rfl⟩ | ⟨rfl, hnw, rfl⟩ | ⟨rfl, i, hi, hiN, Ab, cb, rfl, hrd, hfr⟩
  · have hne1 : (L != 0) = true := by simpa using hne
    have HNE := Lib.hid hne
    clear hne
    go_wp2_with fail
    go_ret2
    have hr : R = (L, S) := by rw [← HR.out]; unfold cureR; rw [HL.out, if_pos HNE.out]
    unfold CureSpec
    rw [HR.out, hr]
    exact ⟨_, F, rfl, HM.out.1.below HB2.out, Step.of_below HB2.out F, fun _ => rfl, fun h => absurd h HNE.out⟩
  · have HNW := Lib.hid hnw
    clear hnw
    go_wp2_with fail
    go_ret2
    have hr : R = (17, S) := by rw [← HR.out]; unfold cureR; rw [HL.out, if_neg (by simp), if_neg HNW.out]
    unfold CureSpec
    rw [HR.out, hr]
    exact ⟨_, F, rfl, HM.out.1.below HB2.out, Step.of_below HB2.out F, fun _ => rfl, fun h => by simp at h⟩
  · obtain ⟨b, hb⟩ : ∃ b, readB (S.at_ i) S.off o z = b := ⟨_, rfl⟩
    have hble := HLE.out i hiN
    rw [conts_get _ _ _ hiN] at hble
    rw [hb] at hrd hble
    obtain ⟨n, hn⟩ : ∃ n, b.length = n := ⟨_, rfl⟩
    rw [hn] at hble
    obtain ⟨l, hl⟩ : ∃ l, sickN S o z cr md N = l := ⟨_, rfl⟩
    have hr : R = cureG o b l S := by rw [← HR.out]; unfold cureR; rw [HL.out, if_neg (by simp), hi, if_pos hiN, hb, hl]
    have HRR := Lib.hid hr
    have HPOS : Hid (0 < b.length) := Lib.hid (by rw [← hb]; exact read_pos HM.out.1.lw.pw HM.out.2 HL.out hiN)
    have HB := Lib.hid (And.intro hb hn)
    have HLL : Hid (sickN S o z cr md N = l ∧ l.length ≤ N ∧ ∀ k ∈ l, k < N) := Lib.hid ⟨hl, hl ▸ sickN_le S o z cr md N, fun k hk => sickN_lt (hl ▸ hk)⟩
    have HRD := Lib.hid (And.intro hrd hfr)
    have q0 := HBK2.out.cell 0
    have q1 := HBK2.out.cell 1
    have q2 := HBK2.out.cell 2
    have q3 := HBK2.out.cell 3
    simp at q0 q1 q2 q3
    have HSI := Lib.hid (sick_any (HM.out.1.below HB2.out) HM.out.2 hN8 o z cr md HO.out.1 HO.out.2)
    rw [hb, hn]
    clear hrd hfr hb hn hl hr
    go_wp2_with fail
    refine HSI.out.mono ?_
    rintro e w4 ⟨hb4, hres⟩
    rw [HL.out, HLL.out.1] at hres
    rcases hres with ⟨hne, _⟩ | ⟨_, Al, cl, rfl, hrz, hfz⟩
    · exact absurd rfl hne
    · obtain ⟨nl, hnl⟩ : ∃ n, l.length = n := ⟨_, rfl⟩
      have HNL := Lib.hid hnl
      have hnl8 : nl ≤ 8 := by have := HLL.out.2.1; omega
      have HB4 : Hid (Below w.heap.size w w4) := Lib.hid (HB2.out.trans (hb4.mono HB2.out.size))
      have HBK4 := Lib.hid (HBK2.out.below_ hb4)
      have hnot : ∀ x, w.heap.size ≤ x → ¬ F x := fun x hx => HM.out.1.lw.notin (.inr hx)
      have hs2 := HB2.out.size
      have HRD4 : Hid (RdB w4 Ab b ∧ (∀ x, Ab = some x → ¬ F x.block) ∧ RdZ w4 Al (l.map fun k : Nat => (k : Int)) ∧ (∀ x, Al = some x → ¬ F x.block) ∧ ¬ F w.heap.size) := Lib.hid
        ⟨HRD.out.1.below hb4, fun x hx => hnot _ (by have := HRD.out.2 x hx; simp at this; omega), hrz, fun x hx => hnot _ (by have := hfz x hx; omega), hnot _ (Nat.le_refl _)⟩
      obtain ⟨g, cm, mc, hcc, hnm, hng, hlm, hlg⟩ := (HM.out.1.below HB4.out).list2 HM.out.2
      have HNF := Lib.hid (And.intro hnm (And.intro hng (And.intro hlm hlg)))
      have HCC := Lib.hid hcc
      have HMC := Lib.hid mc
      rw [hnl]
      clear hnl hb4 hrz hfz hnot hcc q0 q1 q2 q3 HSI mc hnm hng hlm hlg
      go_wp2_with fail
      obtain ⟨bx, hbx⟩ : ∃ x, w.heap.size = x := ⟨_, rfl⟩
      have HBXW := Lib.hid hbx
      rw [hbx] at HBK4 HRD4 ⊢
      clear hbx HBK2 HBX
      go_loopw [11, 12, 34] (fun _ _ i wr => ∃ k : Nat, i = .int .i64 (k : Int) ∧ k ≤ nl ∧ Hid (∃ S1 F1, cureG o b l S = cureG o b (l.drop k) S1 ∧ PwS wr p as_ S1 F1 ∧ Step F F1 w4 wr)) (fun _ _ i _ => nl - (RowKit.intOf i).toNat)
      case atStart => exact ⟨0, rfl, by omega, Lib.hid ⟨S, F, rfl, HM.out.1.lw.pw.below HB4.out, Step.refl _ _⟩⟩
      case round =>
        obtain ⟨k, rfl, hk, HJ⟩ := hrel
        obtain ⟨S1, F1, hJ, hpw, hst⟩ := HJ.out
        clear HJ
        have HJ := Lib.hid hJ
        have HPW := Lib.hid hpw
        have HST := Lib.hid hst
        by_cases hlt : k < nl
        · have hkn : (k : Int) < (nl : Int) := by omega
          have hkl : k < l.length := by rw [HNL.out]; exact hlt
          obtain ⟨ad, rfl, c1⟩ := (HRD4.out.2.2.1.step hst HRD4.out.2.2.2.1).at_ (k := k) (by rw [List.length_map]; exact hkl)
          obtain ⟨x, hx⟩ : ∃ x, l.getD k 0 = x := ⟨_, rfl⟩
          have hgx : (l.map fun k : Nat => (k : Int)).getD k 0 = (x : Int) := by rw [← hx]; simp [List.getD, hkl]
          rw [hgx] at c1
          have hxN : x < N := HLL.out.2.2 x (by rw [← hx, show l.getD k 0 = l[k] by simp [List.getD, hkl]]; exact List.getElem_mem _)
          have hxN' : (x : Int) < (N : Int) := by omega
          have HDR : Hid (l.drop k = x :: l.drop (k + 1)) := Lib.hid (by rw [drop_get hkl, hx])
          obtain ⟨d, hd, gx⟩ := HCC.out x hxN
          have m1 := step_cell hst HMC.out HNF.out.1
          have g1 := step_cell hst gx HNF.out.2.1
          have b1 : wr.cell? ⟨bx, 0, none⟩ = some (.int .i64 o) := step_cell hst (HBK4.out.cell 0) HRD4.out.2.2.2.2
          have HN1 : Hid (¬ F1 m ∧ ¬ F1 g ∧ ¬ F1 bx) := Lib.hid ⟨step_out hst HNF.out.2.2.1 HNF.out.1, step_out hst HNF.out.2.2.2 HNF.out.2.1, step_out hst HBK4.out.lt HRD4.out.2.2.2.2⟩
          have hrb := HRD4.out.1.step hst HRD4.out.2.1
          have hcall := st_writeN (hpw.below ((Below.refl wr.heap.size wr).drew)) hd o Ab b n cb HB.out.2 HO.out.1 (by unfold maxLen; omega) hrb (fun y hy => by
            by_cases hb0 : 0 < b.length
            · obtain ⟨ay, e, hc⟩ := HRD4.out.1 hb0
              rw [hy] at e; cases e
              have hl := World.block_lt_of_cell? _ _ (hc 0 hb0)
              rw [block_of_add] at hl
              exact step_out hst hl (HRD4.out.2.1 y hy)
            · exact absurd HPOS.out hb0)
          obtain ⟨E, hE⟩ : ∃ E, (S1.write x o b).1 = E := ⟨_, rfl⟩
          unfold StSpec at hcall
          rw [hE] at hcall
          have HCALL := Lib.hid hcall
          have HE := Lib.hid hE
          clear hpw hst hcall hE hd hJ hrb gx hx hgx hkl
          by_cases hE0 : E = 0
          · subst hE0
            go_upto_region 10 with fail
            go_region_held3 (fun W : World => W.cell? ⟨m, 0, none⟩ = some (.slice (some ⟨g, 0, none⟩) N cm) ∧ W.cell? ⟨g, x, none⟩ = some (ob d) ∧ W.cell? ⟨bx, 0, none⟩ = some (.int .i64 o)) (first | exact ⟨m1, g1, b1⟩ | exact ⟨step_cell HS5.out m1 HN1.out.1, step_cell HS5.out g1 HN1.out.2.1, step_cell HS5.out b1 HN1.out.2.2⟩) (first | (go_at_call 28; refine HCALL.out.mono ?_; rintro e w5 ⟨rfl, F5, hl5, hs5⟩; have HS5 : Hid (Step F1 F5 wr w5) := Lib.hid ((Step.refl F1 wr).drew.trans hs5); have HL5 := Lib.hid hl5))
            go_wp2_with fail
            refine ⟨⟨k + 1, int_eq (by omega), by omega, Lib.hid ⟨_, F5, ?_, HL5.out, HST.out.trans HS5.out⟩⟩, by simp [RowKit.intOf]; omega⟩
            rw [HJ.out, HDR.out]
            show (if (S1.write x o b).1 = 0 then _ else _) = _
            rw [if_pos HE.out]
          · have hne : (E != 0) = true := by simpa using hE0
            have HE0 := Lib.hid hE0
            clear hE0
            go_upto_region 10 with fail
            go_region_held3 (fun W : World => W.cell? ⟨m, 0, none⟩ = some (.slice (some ⟨g, 0, none⟩) N cm) ∧ W.cell? ⟨g, x, none⟩ = some (ob d) ∧ W.cell? ⟨bx, 0, none⟩ = some (.int .i64 o)) (first | exact ⟨m1, g1, b1⟩ | exact ⟨step_cell HS5.out m1 HN1.out.1, step_cell HS5.out g1 HN1.out.2.1, step_cell HS5.out b1 HN1.out.2.2⟩) (first | (go_at_call 28; refine HCALL.out.mono ?_; rintro e w5 ⟨rfl, F5, hl5, hs5⟩; have HS5 : Hid (Step F1 F5 wr w5) := Lib.hid ((Step.refl F1 wr).drew.trans hs5); have HL5 := Lib.hid hl5))
            go_wp2_with fail
            go_ret2
            have hr : R = S1.write x o b := by
              rw [HRR.out, HJ.out, HDR.out]
              show (if (S1.write x o b).1 = 0 then _ else _) = _
              rw [if_neg (by rw [HE.out]; exact HE0.out)]
            have hst := (Step.of_below HB4.out F).trans (HST.out.trans HS5.out)
            unfold CureSpec
            rw [HR.out, hr, HE.out]
            exact ⟨_, F5, rfl, HM.out.1.step hst HL5.out, hst, fun _ => rfl, fun h => absurd h HE0.out⟩
        · have hkn : k = nl := by omega
          subst hkn
          clear hpw hst hJ
          go_wp2_with fail
          go_ret2
          have hr : R = (0, S1) := by
            rw [HRR.out, HJ.out, ← HNL.out, List.drop_length]; rfl
          have hst := (Step.of_below HB4.out F).trans HST.out
          unfold CureSpec
          rw [HR.out, hr, HLL.out.1]
          exact ⟨_, F1, rfl, HM.out.1.step hst HPW.out, hst, fun h => absurd rfl h, fun _ => ⟨Al, cl, by rw [HNL.out]; rfl, HRD4.out.2.2.1.step HST.out HRD4.out.2.2.2.1⟩⟩
end Go.Proofs.Ytoompglghjpapaa
