/-
  Walk: the law FieldReturns: a row comes back from its bytes, item by item too; a beginning of an item's bytes ends too soon.
-/
import Derived.Test.YtikiahonhbpchaaFieldLawC
namespace Go.Proofs.Ytikiahonhbpchaa
open Go.RowKit Fld
set_option linter.unusedVariables false
set_option linter.unusedSimpArgs false
attribute [local go_sem ↓] Go.wp_at_zero Go.wp_at_succ

theorem encs_cons (i : It) (l : List It) : encs (i :: l) = enc i ++ encs l := by simp [encs]
theorem encs_drop (l : List It) (j : Nat) (hj : j < l.length) : encs (l.drop j) = enc (l.getD j none_) ++ encs (l.drop (j + 1)) := by
  rw [List.drop_eq_getElem_cons hj, getD_eq _ _ _ hj, encs_cons]
theorem run_eqIn_nil (d : Nat) (A : Option Addr) (n c : Nat) (w : World) : (Op.equalIn (d + 1) 22 (.slice A n c) (.slice none 0 0)).run Try.prog w = .ok A.isNone w := by
  simp only [Op.equalIn, Sem.run_bind, run_underlying Try.underlying22, Result.andThen_ok]
  cases A <;> rfl
theorem run_eql_nil (A : Option Addr) (n c : Nat) (w : World) : (binOp .eql 22 (.slice A n c) (.slice none 0 0)).run Try.prog w = .ok (.bool A.isNone) w := by
  simp only [binOp]
  simp [Op.equal, Op.maxDepth, run_eqIn_nil]
theorem RdB.nil (w : World) (A : Option Addr) : RdB w A [] := fun h => by simp at h
/-- 'b[n:]' -/
theorem RdB.cut {w : World} {A : Option Addr} {l : List UInt8} (h : RdB w A l) (n cap : Nat) (hl : l.length ≤ cap) :
    ∃ AD : Option Addr, (if cap = n then A else Option.map (fun x => x.add n) A) = AD ∧ RdB w AD (l.drop n) := by
  refine ⟨_, rfl, ?_⟩
  by_cases hck : cap = n
  · have : l.drop n = [] := List.drop_eq_nil_of_le (by omega)
    rw [this]; exact RdB.nil _ _
  · rw [if_neg hck]
    by_cases hz : 0 < l.length
    · obtain ⟨ad, rfl⟩ := h.some_ hz
      exact h.map n
    · have : l = [] := List.eq_nil_of_length_eq_zero (by omega)
      subst this
      rw [List.drop_nil]; exact RdB.nil _ _
set_option maxRecDepth 100000 in
set_option maxHeartbeats 2000000 in
theorem FieldReturns_walk (A : Option Addr) (l : List It) (cap : Nat) (w : World) (hm : l.length ≤ maxLen) (hcap : l.length ≤ cap) (hA : RdI w A l) (hl : ∀ i ∈ l, i.str.length ≤ maxLen ∧ Ranged i) :
    Calls Try.prog 4 #[.slice A l.length cap] w fun e w' => e = .returned (.bool true) ∧ Below w.heap.size w w' := by
  have HM := Lib.hid hm
  unfold maxLen at hm
  have HA := Lib.hid hA; clear hA
  have HL := Lib.hid hl; clear hl
  go_enter Try.func4, Try.ntmps4
  go_wp2_with fail
  refine (sound_any w).mono ?_
  rintro e w1 ⟨rfl, hb1⟩
  have HW1 := Lib.hid hb1
  have HA1 := Lib.hid (HA.out.below hb1)
  clear hb1
  go_wp2_with fail
  refine (row_any A l cap w1 HM.out HA1.out HL.out).mono ?_
  rintro e w2 ⟨A2, c2, rfl, hown2, hb2⟩
  have HO2 := Lib.hid hown2
  have HW2 := Lib.hid (HW1.out.trans (hb2.mono HW1.out.size))
  have HA2 := Lib.hid (HA1.out.below hb2)
  clear hown2 hb2 HW1 HA1
  by_cases h0 : rowE l = 0
  · obtain ⟨hl4, hgd⟩ := rowE_zero h0
    have hrb : rowB l = encs l := by unfold rowB; rw [if_pos h0]
    rw [hrb] at HO2 ⊢
    rw [h0]
    have HGD : Hid (∀ i ∈ l, Fld.Good i ∧ Ranged i) := Lib.hid fun i hi => ⟨hgd i hi, (HL.out i hi).2⟩
    have hle := encs_le l HGD.out
    have hitm : itemsL (encs l) = l ∧ itemsE (encs l) = 0 := by
      have := items_enc l 0 HGD.out (by omega)
      unfold itemsL itemsE
      rw [this]; exact ⟨rfl, rfl⟩
    have hcp := OwnR.cap HO2.out
    clear hgd hrb
    go_wp2_with fail
    refine (items_any A2 (encs l) c2 w2 (by unfold maxLen; omega) hcp (OwnB.rd HO2.out)).mono ?_
    intro e w3 hi
    obtain ⟨A3, c3, rfl, hown3, hb3⟩ := items_form hi
    clear hi
    rw [hitm.1] at hown3
    rw [hitm.1, hitm.2]
    have HO3 := Lib.hid hown3
    have HA3 := Lib.hid (HA2.out.below hb3)
    have HB3 := Lib.hid hb3
    clear hown3 hb3 hitm
    go_wp2_with fail
    refine (same_r A3 A l l c3 cap _ HM.out HM.out (OwnI.rd HO3.out) HA3.out true (by simp)).mono ?_
    rintro e w4 ⟨rfl, nd, rfl⟩
    have HB4 := Lib.hid (below_drewN HB3.out nd)
    have HRD := Lib.hid (OwnB.rd HO2.out)
    clear HO3 HA3 HB3 HO2
    go_wp2_with fail
    generalize w3.drewN nd = w4 at *
    go_loopw [3, 6] (fun b i wr => ∃ (j : Nat) (A1 : Option Addr) (c1 : Nat), i = .int .i64 (j : Int) ∧ b = .slice A1 (encs (l.drop j)).length c1 ∧ j ≤ l.length ∧ (encs (l.drop j)).length ≤ c1 ∧ (encs (l.drop j)).length ≤ (encs l).length ∧ Hid (RdB w2 A1 (encs (l.drop j))) ∧ Hid (Below w2.heap.size w2 wr)) (fun _ i _ => l.length - (intOf i).toNat)
    case atStart => exact ⟨0, A2, c2, rfl, rfl, Nat.zero_le _, hcp, Nat.le_refl _, HRD, HB4⟩
    case round =>
      obtain ⟨j, A1, c1, rfl, rfl, hj, hc1, hel, HR, HB⟩ := hrel
      by_cases hlt : j < l.length
      · obtain ⟨ad, rfl⟩ := HA.out.some_ (by omega)
        have hmem : l.getD j none_ ∈ l := by rw [getD_eq _ _ _ hlt]; exact List.getElem_mem hlt
        have HG := Lib.hid (HGD.out _ hmem)
        have HX := Lib.hid (encs_drop l j hlt)
        rw [HX.out] at hc1 hel HR ⊢
        obtain ⟨_, e, d0, d1, d2⟩ := (HA2.out.below HB.out).cells hlt
        cases e
        have hfp := firstP_enc HG.out.1 HG.out.2 (encs (l.drop (j + 1)))
        have hpos := enc_pos (l.getD j none_)
        have hxl := enc_le _ HG.out.1 HG.out.2
        have hsh : ∀ k, k < (enc (l.getD j none_)).length → firstP ((enc (l.getD j none_) ++ encs (l.drop (j + 1))).take k) = (none_, 0, 10) := fun k hk => by
          rw [List.take_append_of_le_length (by omega)]
          exact firstP_short HG.out.1 HG.out.2 k hk
        have hdr : (enc (l.getD j none_) ++ encs (l.drop (j + 1))).drop (enc (l.getD j none_)).length = encs (l.drop (j + 1)) := by simp
        generalize hRR : encs (l.drop (j + 1)) = rest at *
        generalize hEX : enc (l.getD j none_) = ex at *
        generalize hit : l.getD j none_ = x at *
        have hbl : (ex ++ rest).length = ex.length + rest.length := List.length_append
        generalize hBB : ex ++ rest = B at *
        generalize hEL : ex.length = n at *
        have HBM : Hid (B.length ≤ maxLen) := Lib.hid (by unfold maxLen; omega)
        have HBL := Lib.hid hbl
        have HELN : Hid (ex.length = n) := Lib.hid hEL
        clear hbl hEL
        have HSH := Lib.hid hsh
        have HDR := Lib.hid hdr
        have HFP := Lib.hid hfp
        clear hsh hdr hfp hmem
        have HRB := Lib.hid (HR.out.below HB.out)
        go_wp2_with fail
        refine (first_any A1 B c1 wr HBM.out hc1 HRB.out).mono ?_
        rw [HFP.out]
        rintro e w5 ⟨rfl, hb5⟩
        have HB5 := Lib.hid (HB.out.trans (hb5.mono HB.out.size))
        clear hb5 HRB
        obtain ⟨_, e, d0, d1, d2⟩ := (HA2.out.below (HB5.out.alloc HB5.out.size (.cells #[.int .i64 x.kind, .int .i64 x.num, .string ⟨x.str.toArray⟩] 30))).cells hlt
        cases e
        rw [hit] at d0 d1 d2
        have hq := fun W => run_neq_item x x W
        rw [eqI_refl] at hq
        have hgd := guard_item
        have hn1 : ¬ ((n : Int) < 1) := by omega
        clear hit
        unfold tri It.v
        simp only
        go_wp2_with fail
        go_quiet (fail)
        clear hq hgd d0 d1 d2
        have HB6 := Lib.hid (below_drewN (HB5.out.alloc HB5.out.size (.cells #[.int .i64 x.kind, .int .i64 x.num, .string ⟨x.str.toArray⟩] 30)) nq)
        generalize ((w5.alloc (.cells #[.int .i64 x.kind, .int .i64 x.num, .string ⟨x.str.toArray⟩] 30)).drewN nq) = w6 at *
        obtain ⟨p, hp, hpn⟩ : ∃ p : Nat, (n : Int) / 2 = (p : Int) ∧ p < n := ⟨n / 2, by omega, by omega⟩
        obtain ⟨q, hq, hqn⟩ : ∃ q : Nat, (n : Int) - 1 = (q : Int) ∧ q < n := ⟨n - 1, by omega, by omega⟩
        have hnB : n ≤ B.length := by have := HBL.out; omega
        have hpc : (p : Int) ≤ (c1 : Int) := by omega
        have hqc : (q : Int) ≤ (c1 : Int) := by omega
        have hnc : (n : Int) ≤ (c1 : Int) := by omega
        have htp : (B.take p).length = p := by rw [List.length_take]; omega
        have htq : (B.take q).length = q := by rw [List.length_take]; omega
        have hf1 := fun W hW => first_any A1 (B.take p) c1 W (by rw [htp]; unfold maxLen; omega) (by rw [htp]; omega) hW
        have hf2 := fun W hW => first_any A1 (B.take q) c1 W (by rw [htq]; unfold maxLen; omega) (by rw [htq]; omega) hW
        rw [htp, HSH.out p hpn] at hf1
        rw [htq, HSH.out q hqn] at hf2
        have HF1 := Lib.hid hf1
        have HF2 := Lib.hid hf2
        obtain ⟨AD, hAD, hRD⟩ := HR.out.cut n c1 hc1
        rw [HDR.out] at hRD
        have HRDN := Lib.hid hRD
        have HLR : Hid (B.length - n = rest.length) := Lib.hid (by have := HBL.out; omega)
        have HRL : Hid (rest.length ≤ c1 - n ∧ rest.length ≤ (encs l).length) := Lib.hid (by have := HBL.out; omega)
        clear hf1 hf2 htp htq hRD HSH HDR HFP hn1
        go_wp2_with fail
        refine (HF1.out _ ((HR.out.below HB6.out).take p)).mono ?_
        rintro e w7 ⟨rfl, hb7⟩
        rw [tri_none]
        have HB7 := Lib.hid ((HB6.out.trans (hb7.mono HB6.out.size)).alloc (Nat.le_trans HB6.out.size hb7.size) (.cells #[.int .i64 0, .int .i64 0, .string ⟨#[]⟩] 30))
        clear hb7 HF1
        go_wp2_with fail
        refine (HF2.out _ ((HR.out.below HB7.out).take q)).mono ?_
        rintro e w8 ⟨rfl, hb8⟩
        rw [tri_none]
        have HB8 := Lib.hid ((HB7.out.trans (hb8.mono HB7.out.size)).alloc (Nat.le_trans HB7.out.size hb8.size) (.cells #[.int .i64 0, .int .i64 0, .string ⟨#[]⟩] 30))
        clear hb8 HF2
        go_wp2_with fail
        refine ⟨⟨j + 1, AD, c1 - n, int_eq (by omega), ?_, by omega, ?_, ?_, ?_, HB8⟩, by simp [intOf]; omega⟩
        · rw [hRR]; exact slice_val HLR.out
        · rw [hRR]; exact HRL.out.1
        · rw [hRR]; exact HRL.out.2
        · rw [hRR]; exact HRDN
      · have hjl : j = l.length := by omega
        subst hjl
        rw [List.drop_length] at hc1 hel HR ⊢
        have he0 : (encs ([] : List It)).length = 0 := rfl
        rw [he0]
        go_wp2_with fail
        go_ret
        exact ⟨rfl, HW2.out.trans (HB.out.mono HW2.out.size)⟩
  · have h0' : (rowE l != 0) = true := by simpa using h0
    have hrb : rowB l = [] := by unfold rowB; rw [if_neg h0]
    rw [hrb]
    have hz : ([] : List UInt8).length = 0 := rfl
    rw [hz]
    generalize rowE l = er at *
    have hq := fun W => run_eql_nil A2 0 c2 W
    cases A2 with
    | none =>
      go_wp2_with fail
      go_ret
      exact ⟨rfl, HW2.out⟩
    | some ad =>
      go_wp2_with fail
      go_ret
      exact ⟨rfl, HW2.out⟩
end Go.Proofs.Ytikiahonhbpchaa
