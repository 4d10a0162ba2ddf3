/-
  Walk: the law FieldChains: the bytes of two rows, one behind the other, are those of the one row.
-/
import Derived.Test.YtikiahonhbpchaaFieldLawB
namespace Go.Proofs.Ytikiahonhbpchaa
open Go.RowKit Fld
set_option linter.unusedVariables false
set_option linter.unusedSimpArgs false
attribute [local go_sem ↓] Go.wp_at_zero Go.wp_at_succ

theorem ic_take (l : List It) (k : Nat) : ic (l.take k) = (ic l).take (3 * k) := by
  induction l generalizing k with
  | nil => simp [ic]
  | cons i l ih =>
    cases k with
    | zero => simp [ic]
    | succ k =>
      have e : 3 * (k + 1) = 3 * k + 1 + 1 + 1 := by omega
      rw [List.take_succ_cons, ic_cons, ic_cons, ih, e]
      simp only [List.take_succ_cons]
theorem ic_drop (l : List It) (k : Nat) : ic (l.drop k) = (ic l).drop (3 * k) := by
  induction l generalizing k with
  | nil => simp [ic]
  | cons i l ih =>
    cases k with
    | zero => simp [ic]
    | succ k =>
      have e : 3 * (k + 1) = 3 * k + 1 + 1 + 1 := by omega
      rw [List.drop_succ_cons, ic_cons, ih, e]
      simp only [List.drop_succ_cons]
theorem RdI.take {w : World} {A : Option Addr} {l : List It} (h : RdI w A l) (k : Nat) : RdI w A (l.take k) := fun hl => by
  rw [ic_take] at hl
  have hl0 : 0 < (ic l).length := by rw [List.length_take] at hl; omega
  obtain ⟨ad, e, hc⟩ := h hl0
  refine ⟨ad, e, fun j u hu => hc j u ?_⟩
  rw [ic_take, List.getElem?_take] at hu
  split at hu
  · exact hu
  · cases hu
theorem RdI.drop {w : World} {ad : Addr} {l : List It} (h : RdI w (some ad) l) (k : Nat) : RdI w (some (ad.add (k * 3))) (l.drop k) := fun hl => by
  rw [ic_drop, List.length_drop] at hl
  obtain ⟨ad', e, hc⟩ := h (by omega)
  cases e
  refine ⟨_, rfl, fun j u hu => ?_⟩
  rw [ic_drop, List.getElem?_drop] at hu
  rw [add_of_add, Nat.mul_comm k 3]
  exact hc _ _ hu
theorem RdI.nil (w : World) (A : Option Addr) : RdI w A [] := fun h => by simp [ic] at h
theorem rowE_zero {l : List It} (h : rowE l = 0) : l.length ≤ 4000 ∧ ∀ i ∈ l, Fld.Good i := by
  unfold rowE at h
  split at h
  · cases h
  · exact ⟨by omega, (worst_zero l).1 h⟩
/-- 'int(uint64(cut) % uint64(n+1))' *-/
theorem cut_mod (cut : Int) (n : Nat) (hn : n ≤ 4000) : ∃ k : Nat, wrap64 ((IntKind.u64.wrap cut).tmod ((n : Int) + 1)) = (k : Int) ∧ k ≤ n := by
  have h1 : 0 ≤ IntKind.u64.wrap cut := by rw [IntKind.wrap_u64]; omega
  rw [Int.tmod_eq_emod_of_nonneg h1]
  have h2 := Int.emod_nonneg (IntKind.u64.wrap cut) (show (n : Int) + 1 ≠ 0 by omega)
  have h3 := Int.emod_lt_of_pos (IntKind.u64.wrap cut) (show (0 : Int) < (n : Int) + 1 by omega)
  generalize IntKind.u64.wrap cut % ((n : Int) + 1) = m at *
  refine ⟨m.toNat, ?_, by omega⟩
  have h4 : wrap64 m = m := by unfold wrap64; omega
  rw [h4]; omega
set_option maxRecDepth 100000 in
set_option maxHeartbeats 1000000 in
theorem FieldChains_walk (A : Option Addr) (l : List It) (cap : Nat) (cut : Int) (w : World) (hm : l.length ≤ maxLen) (hcap : l.length ≤ cap) (hA : RdI w A l) (hl : ∀ i ∈ l, i.str.length ≤ maxLen ∧ Ranged i) (hcut : -9223372036854775808 ≤ cut ∧ cut ≤ 9223372036854775807) :
    Calls Try.prog 6 #[.slice A l.length cap, .int .i64 cut] w fun e w' => e = .returned (.bool true) ∧ Below w.heap.size w w' := by
  have HM := Lib.hid hm
  unfold maxLen at hm
  have HA := Lib.hid hA; clear hA
  have HL := Lib.hid hl; clear hl
  go_enter Try.func6, Try.ntmps6
  go_wp2_with fail
  refine (sound_any w).mono ?_
  rintro e w1 ⟨rfl, hb1⟩
  have HW1 := Lib.hid hb1
  have HA1 := Lib.hid (HA.out.below hb1)
  clear hb1 HA
  go_wp2_with fail
  refine (row_any A l cap w1 HM.out HA1.out HL.out).mono ?_
  rintro e w2 ⟨A2, c2, rfl, hown2, hb2⟩
  have HO2 := Lib.hid hown2
  have HW2 := Lib.hid (HW1.out.trans (hb2.mono HW1.out.size))
  have HA2 := Lib.hid (HA1.out.below hb2)
  clear hown2 hb2 HW1 HA1
  by_cases h0 : rowE l = 0
  · obtain ⟨hl4, hgd⟩ := rowE_zero h0
    have hrb : rowB l = encs l := by unfold rowB; rw [if_pos h0]
    rw [hrb] at HO2 ⊢
    rw [h0]
    have HGD := Lib.hid hgd
    clear hgd hrb
    obtain ⟨k, hk, hkl⟩ := cut_mod cut l.length hl4
    have hlk : (l.take k).length = k := by rw [List.length_take]; omega
    have hld : (l.drop k).length = l.length - k := List.length_drop
    have hgt : ∀ i ∈ l.take k, Fld.Good i ∧ Ranged i := fun i hi => ⟨HGD.out i (List.mem_of_mem_take hi), (HL.out i (List.mem_of_mem_take hi)).2⟩
    have hgr : ∀ i ∈ l.drop k, Fld.Good i ∧ Ranged i := fun i hi => ⟨HGD.out i (List.mem_of_mem_drop hi), (HL.out i (List.mem_of_mem_drop hi)).2⟩
    obtain ⟨et, bt⟩ := row_of_good hgt (by omega)
    obtain ⟨er, br⟩ := row_of_good hgr (by omega)
    have hr1 := row_any A (l.take k) cap w2 (by unfold maxLen; omega) (HA2.out.take k) (good_str hgt)
    rw [hlk] at hr1
    have HR1 := Lib.hid hr1
    have hRD : ∃ AD : Option Addr, (if cap = k then A else Option.map (fun x => x.add (k * 3)) A) = AD ∧ RdI w2 AD (l.drop k) := by
      refine ⟨_, rfl, ?_⟩
      by_cases hck : cap = k
      · have : l.drop k = [] := List.drop_eq_nil_of_le (by omega)
        rw [this]; exact RdI.nil _ _
      · rw [if_neg hck]
        by_cases hkz : l.drop k = []
        · rw [hkz]; exact RdI.nil _ _
        · have : 0 < l.length := by
            rcases Nat.eq_zero_or_pos l.length with h | h
            · have : l = [] := List.eq_nil_of_length_eq_zero h
              subst this; simp at hkz
            · exact h
          obtain ⟨ad, rfl⟩ := HA2.out.some_ this
          exact HA2.out.drop k
    obtain ⟨AD, hAD, hRD⟩ := hRD
    have HRD := Lib.hid hRD
    have HGR := Lib.hid hgr
    have HX := Lib.hid (show encs (l.take k) ++ encs (l.drop k) = encs l by rw [← encs_append, List.take_append_drop])
    have HBT := Lib.hid (And.intro et bt)
    have HBR := Lib.hid (And.intro er br)
    have HLD := Lib.hid hld
    have hle1 := Lib.hid (encs_le (l.take k) hgt)
    have hle2 := Lib.hid (encs_le (l.drop k) hgr)
    rw [hlk] at hle1
    rw [hld] at hle2
    clear hr1 hRD hgt hgr et bt er br hlk hld
    go_wp2_with fail
    refine HR1.out.mono ?_
    clear HR1
    rintro e w3 ⟨A3, c3, rfl, hown3, hb3⟩
    rw [HBT.out.2] at hown3 ⊢
    rw [HBT.out.1]
    have HO3 := Lib.hid hown3
    have HO2 := Lib.hid (OwnB.below HO2.out hb3)
    have HW3 := Lib.hid (HW2.out.trans (hb3.mono HW2.out.size))
    have hr2 := row_any AD (l.drop k) (cap - k) w3 (by rw [HLD.out]; unfold maxLen; omega) (RdI.below HRD.out hb3) (good_str HGR.out)
    rw [HLD.out] at hr2
    have HR2 := Lib.hid hr2
    clear hown3 hb3 HW2 hr2 HRD HA2
    go_wp2_with fail
    refine HR2.out.mono ?_
    clear HR2
    rintro e w4 ⟨A4, c4, rfl, hown4, hb4⟩
    rw [HBR.out.2] at hown4 ⊢
    rw [HBR.out.1]
    have HO4 := Lib.hid hown4
    have HO3 := Lib.hid (OwnB.below HO3.out hb4)
    have HO2 := Lib.hid (OwnB.below HO2.out hb4)
    have HW4 := Lib.hid (HW3.out.trans (hb4.mono HW3.out.size))
    clear hown4 hb4 HW3
    have hs2 := run_str c2 (OwnB.rd HO2.out) rfl
    have hs3 := run_str c3 (OwnB.rd HO3.out) rfl
    have hs4 := run_str c4 (OwnB.rd HO4.out) rfl
    have hsum : (⟨(encs (l.take k)).toArray⟩ : ByteArray).size + (⟨(encs (l.drop k)).toArray⟩ : ByteArray).size ≤ 9223372036854775807 := by
      rw [str_size, str_size]
      have h1 := hle1.out
      have h2 := hle2.out
      omega
    have hap := str_append (encs (l.take k)) (encs (l.drop k))
    rw [HX.out] at hap
    generalize (⟨(encs (l.take k)).toArray⟩ : ByteArray) = T at *
    generalize (⟨(encs (l.drop k)).toArray⟩ : ByteArray) = U at *
    generalize (⟨(encs l).toArray⟩ : ByteArray) = V at *
    clear hle1 hle2
    go_wp2_with fail
    go_ret
    exact ⟨rfl, HW4.out⟩
  · have h0' : (rowE l != 0) = true := by simpa using h0
    generalize rowE l = er at *
    go_wp2_with fail
    go_ret
    exact ⟨rfl, HW2.out⟩
end Go.Proofs.Ytikiahonhbpchaa
