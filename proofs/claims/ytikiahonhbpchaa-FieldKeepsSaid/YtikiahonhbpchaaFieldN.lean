/-
  Walks of the reference of package field: DocItems; and the example row of the statements ('sound').
-/
import Derived.Test.YtikiahonhbpchaaFieldM
import Derived.Lib.SlBytesConst
namespace Go.Proofs.Ytikiahonhbpchaa
open Go.RowKit Fld
set_option linter.unusedVariables false
set_option linter.unusedSimpArgs false
attribute [local go_sem ↓] Go.wp_at_zero Go.wp_at_succ

/-- how many bytes a text has -/
def strN (v : Value) : Nat := match v with | .string s => s.size | _ => 0
theorem strN_string (s : ByteArray) : strN (.string s) = s.size := rfl
theorem slice_strl (W : World) (b : List UInt8) (j : Int) (k : Nat) (hj : j = k) (hb : k ≤ b.length) :
    (Instr.slice 9 (.string ⟨b.toArray⟩) (some (.int .i64 j)) none none).run Try.prog W = .ok (.string ⟨(b.drop k).toArray⟩) W := by
  subst hj
  have hsz := str_size b
  rw [run_slice_string_l W 9 _ Try.underlying9 .i64 _ (by omega) (by omega), extract_str _ b rfl, hsz]
  have e1 : ((k : Int)).toNat = k := by omega
  rw [e1, List.take_of_length_le (by rw [List.length_drop]; exact Nat.le_refl _)]
set_option maxRecDepth 100000 in
set_option maxHeartbeats 1000000 in
theorem docitems_any (b : List UInt8) (w : World) (hb : b.length ≤ maxLen) :
    Calls Try.prog 11 #[.string ⟨b.toArray⟩] w fun e w' => ItemsSpec w.heap.size b w e w' := by
  have HBL := Lib.hid hb
  unfold maxLen at hb
  go_enter Try.func11, Try.ntmps11
  go_wp2_with fail
  go_loopw [0, 4] (fun s o wr => ∃ (b1 : List UInt8) (l : List It) (A2 : Option Addr) (c2 : Nat), s = .string ⟨b1.toArray⟩ ∧ o = .slice A2 l.length c2 ∧ b1.length ≤ b.length ∧ l.length ≤ 4000 ∧
      Hid (items b 0 = (items b1 l.length).map (l ++ ·)) ∧ Hid (OwnI wr w.heap.size A2 c2 l) ∧ Hid (Below w.heap.size w wr)) (fun s _ _ => strN s)
  case atStart => exact ⟨b, [], none, 0, rfl, rfl, Nat.le_refl _, by simp, Lib.hid (by cases items b 0 <;> rfl), Lib.hid (OwnI.nil _ _), Lib.hid (Below.refl _ _)⟩
  case round =>
    obtain ⟨b1, l, A2, c2, rfl, rfl, hb1, hl, HI, HO, HB⟩ := hrel
    have HBL1 : Hid (b1.length ≤ maxLen) := Lib.hid (Nat.le_trans hb1 HBL.out)
    by_cases h0 : 0 < b1.length
    · have HN0 := Lib.hid (show b1 ≠ [] by intro h; rw [h] at h0; simp at h0)
      have hemp : (⟨b1.toArray⟩ : ByteArray).toList.isEmpty = false := by
        rw [ByteArray.toList_mk]
        cases b1 with
        | nil => simp at h0
        | cons x t => rfl
      have hd := docfirst_any ⟨b1.toArray⟩ wr (by rw [str_size]; exact HBL1.out)
      unfold DFirst at hd
      rw [str_of] at hd
      have HD := Lib.hid hd
      have HSL := Lib.hid (fun W n h => slice_strl W b1 (n : Nat) n rfl h)
      have HSZ := Lib.hid (str_size b1)
      clear hd
      generalize hSB : (⟨b1.toArray⟩ : ByteArray) = SB at *
      go_wp2_with fail
      refine HD.out.mono ?_
      rintro e w1 ⟨rfl, hbw⟩
      have HO1 := Lib.hid (HO.out.below hbw)
      have HB1 := Lib.hid (HB.out.trans (hbw.mono HB.out.size))
      clear hbw HO HB HD
      obtain ⟨i, n, er, hf⟩ : ∃ i n e, firstP b1 = (i, n, e) := ⟨_, _, _, rfl⟩
      have HF := Lib.hid hf
      rw [hf]
      clear hf
      obtain ⟨ik, inn, is⟩ := i
      unfold tri It.v
      simp only
      by_cases he : er = 0
      · subst he
        by_cases h4 : l.length = 4000
        · have HR := Lib.hid (show items b 0 = none by rw [HI.out, items_err HN0.out (.inr h4)]; rfl)
          have h4' : ((l.length : Int) == 4000) = true := by rw [h4]; rfl
          go_wp2_with fail
          go_ret2
          unfold ItemsSpec
          rw [HR.out]
          exact ⟨rfl, HB1.out.alloc HB1.out.size _⟩
        · have h4' : ((l.length : Int) == 4000) = false := by rw [beq_eq_false_iff_ne]; omega
          have HCN := Lib.hid (firstP_canon HF.out)
          have HI1 := Lib.hid (show items b 0 = (items (b1.drop n) (l ++ [(⟨ik, inn, is⟩ : It)]).length).map (l ++ [⟨ik, inn, is⟩] ++ ·) by
            rw [HI.out, items_step HN0.out HF.out h4, List.length_append]
            cases items (b1.drop n) (l.length + [(⟨ik, inn, is⟩ : It)].length) with
            | none => simp_all
            | some r => simp_all)
          have hn1 := HCN.out.2.2.2.1
          have hn2 := HCN.out.2.2.2.2
          have hsl := fun W => HSL.out W n hn2
          clear HI HF HN0 HSL
          have HBS := Lib.hid HB1.out.size
          go_wp2_with (at_builtin; refine wpList_appI rfl (.tmp 23) (.tmp 25) rfl w.heap.size A2 l.length c2 l rfl rfl (OwnR.alloc (OwnR.alloc HO1.out _) _) ⟨w1.heap.size + 1, 0, none⟩ 1 ⟨ik, inn, is⟩ rfl (lit_item w1 _ ik inn is) (by omega) (by have := HBS.out; simp; omega) ?_; (intro A3 c3 w3 hown3 hg3))
          refine ⟨⟨b1.drop n, l ++ [⟨ik, inn, is⟩], A3, c3, rfl, slice_val (by simp), by rw [List.length_drop]; omega, by simp; omega, HI1, Lib.hid hown3, ?_⟩, ?_⟩
          · exact Lib.hid (((HB1.out.alloc HBS.out _).alloc (by have := HBS.out; simp; omega) _).grown hg3 (by have := HBS.out; simp; omega) (fun k hk => (HO1.out.lt_ k hk).1))
          · rw [strN_string, strN_string, HSZ.out, str_size, List.length_drop]; omega
      · have he' : (er != 0) = true := by simpa using he
        have HR := Lib.hid (show items b 0 = none by rw [HI.out, items_err HN0.out (.inl (by rw [HF.out]; exact he))]; rfl)
        go_wp2_with fail
        go_ret2
        unfold ItemsSpec
        rw [HR.out]
        exact ⟨rfl, HB1.out.alloc HB1.out.size _⟩
    · have hb0 : b1 = [] := List.eq_nil_of_length_eq_zero (by omega)
      have HR := Lib.hid (show items b 0 = some l by rw [HI.out, hb0, items_nil]; simp)
      subst hb0
      have hemp : (⟨([] : List UInt8).toArray⟩ : ByteArray).toList.isEmpty = true := by rw [ByteArray.toList_mk]; rfl
      go_wp2_with fail
      go_ret2
      unfold ItemsSpec
      rw [HR.out]
      exact ⟨A2, c2, rfl, HO.out, HB.out⟩
/-- the statements' own row -/
def Lrow : List It := [⟨1, 5, []⟩, ⟨1, 64, []⟩, ⟨1, -1, []⟩, ⟨2, 0, [97, 98]⟩]
def Lbytes : List UInt8 := [5, 64, 64, 72, 0, 130, 97, 98]
theorem encNum_5 : encNum 5 = [5] := by unfold encNum; rw [if_pos (by omega)]; rfl
theorem encNum_64 : encNum 64 = [64, 64] := by
  unfold encNum
  rw [if_neg (by omega)]
  have h : mag 64 = 64 := rfl
  rw [h, big_small (by omega)]
  unfold bytesN
  rw [dif_pos (by omega)]; rfl
theorem encNum_m1 : encNum (-1) = [72, 0] := by
  unfold encNum
  rw [if_neg (by omega)]
  have h : mag (-1) = 0 := rfl
  rw [h, big_small (by omega)]
  unfold bytesN
  rw [dif_pos (by omega)]; rfl
theorem encStr_ab : encStr [97, 98] = [130, 97, 98] := by unfold encStr; rw [if_pos (by decide)]; rfl
theorem encs_row : encs Lrow = Lbytes := by
  unfold Lrow encs
  simp only [List.flatMap_cons, List.flatMap_nil]
  rw [enc_number rfl, enc_number rfl, enc_number rfl]
  have h : enc ⟨2, 0, [97, 98]⟩ = encStr [97, 98] := by unfold enc; rw [if_pos rfl]
  rw [h, encNum_5, encNum_64, encNum_m1, encStr_ab]; rfl
theorem row_good : ∀ i ∈ Lrow, Fld.Good i ∧ Ranged i := by
  unfold Lrow Fld.Good check Ranged
  intro i hi
  simp only [List.mem_cons, List.not_mem_nil, or_false] at hi
  rcases hi with rfl | rfl | rfl | rfl <;> simp
theorem row_E : rowE Lrow = 0 := by
  unfold rowE
  rw [if_neg (by decide)]
  exact (worst_zero _).2 fun i hi => (row_good i hi).1
theorem row_B : rowB Lrow = Lbytes := by unfold rowB; rw [row_E, if_pos rfl, encs_row]
theorem items_row : items Lbytes 0 = some Lrow := by rw [← encs_row]; exact items_enc _ _ row_good (by decide)
/-- bytes in a block just made, whatever its mark -/
theorem rd_mark (w : World) (l : List UInt8) (C : Array Value) (fr : Nat × Nat) (h : C.toList = bc l) : RdB (w.alloc (.cells C 5 fr)) (some ⟨w.heap.size, 0, none⟩) l := fun hl => by
  refine ⟨_, rfl, fun k hk => ?_⟩
  have : (⟨w.heap.size, 0, none⟩ : Addr).add k = ⟨w.heap.size, k, none⟩ := by unfold Addr.add; split <;> simp_all
  rw [this, World.cell?_alloc_mark, ← Array.getElem?_toList, h, bc_get l k hk]
theorem rd_lit {w : World} {cs : List Value} {t : TypeId} : RdC (w.alloc (.cells cs.toArray t)) (some ⟨w.heap.size, 0, none⟩) cs := fun _ => ⟨_, rfl, cells_new w cs t⟩
set_option maxRecDepth 100000 in
set_option maxHeartbeats 1000000 in
theorem sound_any (w : World) : Calls Try.prog 10 #[] w fun e w' => e = .returned (.bool true) ∧ Below w.heap.size w w' := by
  have kc := fun (w : World) (C : Array Value) (n c : Nat) => Lib.run_convert_bytes_const (P := Try.prog) w 22 5 C n c Try.underlying22 Try.underlying5
  go_enter Try.func10, Try.ntmps10
  go_wp2_with fail
  have hL : RdI (w.alloc (.cells (ic Lrow).toArray 30)) (some ⟨w.heap.size, 0, none⟩) Lrow := rd_lit
  have hstr : ∀ i ∈ Lrow, i.str.length ≤ maxLen ∧ Ranged i := fun i hi => ⟨by
    unfold Lrow at hi
    simp only [List.mem_cons, List.not_mem_nil, or_false] at hi
    rcases hi with rfl | rfl | rfl | rfl <;> decide, (row_good i hi).2⟩
  have hb0 := (Below.refl w.heap.size w).alloc (Nat.le_refl _) (.cells (ic Lrow).toArray 30)
  refine (row_any _ Lrow 4 _ (by decide) hL hstr).mono ?_
  rintro e w1 ⟨A1, c1, rfl, hown, hb1⟩
  rw [row_B] at hown
  rw [row_B, row_E]
  have hl8 : Lbytes.length = 8 := rfl
  rw [hl8]
  have HL := Lib.hid (RdI.below hL hb1)
  have HO := Lib.hid hown
  have HB := Lib.hid (hb0.trans (hb1.mono (by simp)))
  clear hL hown hb0 hb1 hstr
  go_wp2_with fail
  have hA := rd_mark w1 Lbytes (bc Lbytes).toArray (8, 9) rfl
  have hb2 := (Below.refl w1.heap.size w1).alloc (Nat.le_refl _) (.cells (bc Lbytes).toArray 5 (8, 9))
  have HO2 := Lib.hid (OwnB.below HO.out hb2)
  have HL2 := Lib.hid (RdI.below HL.out hb2)
  have HB2 := Lib.hid (HB.out.trans (hb2.mono HB.out.size))
  clear hb2 HO HL HB
  change Calls _ _ _ (w1.alloc (.cells (bc Lbytes).toArray 5 (8, 9))) _
  generalize w1.alloc (.cells (bc Lbytes).toArray 5 (8, 9)) = w2 at *
  refine (items_any (some ⟨w1.heap.size, 0, none⟩) Lbytes 8 w2 (by decide) (by decide) hA).mono ?_
  intro e w3 hi
  unfold ItemsSpec at hi
  rw [items_row] at hi
  obtain ⟨A3, c3, rfl, hown3, hb3⟩ := hi
  have HO3 := Lib.hid hown3
  have HRB := Lib.hid (OwnB.rd (OwnB.below HO2.out hb3))
  have HRL := Lib.hid (RdI.below HL2.out hb3)
  have HB3 := Lib.hid (HB2.out.trans (hb3.mono HB2.out.size))
  clear hown3 hb3 HO2 HL2 HB2 hA
  have hst := run_str (n := 8) c1 HRB.out rfl
  have hl4 : Lrow.length = 4 := rfl
  rw [hl4]
  unfold Lbytes at hst
  go_wp2_with fail
  refine (same_any _ _ Lrow Lrow 4 c3 _ (by decide) (by decide) HRL.out (OwnI.rd HO3.out)).mono ?_
  rintro e w4 ⟨r, n, rfl, hr, rfl⟩
  have hr' : r = true := hr.2 rfl
  subst hr'
  go_wp2_with fail
  go_ret
  exact ⟨rfl, below_drewN HB3.out _⟩
end Go.Proofs.Ytikiahonhbpchaa
