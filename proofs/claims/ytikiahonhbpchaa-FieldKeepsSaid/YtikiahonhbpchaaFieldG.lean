/-
  Walks of package field: Row.
-/
import Derived.Test.YtikiahonhbpchaaFieldF
namespace Go.Proofs.Ytikiahonhbpchaa
open Go.RowKit Fld
set_option linter.unusedVariables false
set_option linter.unusedSimpArgs false

/-- Row's error, and her bytes -/
def rowE (l : List It) : Int := if 4000 < l.length then 14 else worst l
def rowB (l : List It) : List UInt8 := if rowE l = 0 then encs l else []
/-- what Row does -/
def RowSpec (base : Nat) (l : List It) (w : World) (e : Ending) (w' : World) : Prop :=
  ∃ A' c', e = .returned (.tuple #[.slice A' (rowB l).length c', .int .i64 (rowE l)]) ∧ OwnB w' base A' c' (rowB l) ∧ Below base w w'
theorem worst_take_succ (l : List It) (j : Nat) (hj : j < l.length) : worst (l.take (j + 1)) = max (worst (l.take j)) (check (l.getD j none_)) := by
  rw [take_snoc l j hj, getD_eq l j none_ hj]
  unfold worst
  rw [List.foldl_append]; rfl
theorem encs_take_succ (l : List It) (j : Nat) (hj : j < l.length) : encs (l.take (j + 1)) = encs (l.take j) ++ enc (l.getD j none_) := by
  rw [take_snoc l j hj, getD_eq l j none_ hj, encs_append]; simp [encs]
theorem worst_cases (l : List It) : worst l = 0 ∨ worst l = 2 ∨ worst l = 14 := by
  induction l with
  | nil => simp [worst]
  | cons i l ih => rw [worst_cons]; rcases check_cases i with h | h | h <;> rcases ih with h' | h' | h' <;> rw [h, h'] <;> decide
theorem enc_le (i : It) (hg : Fld.Good i) (hr : Ranged i) : (enc i).length ≤ 50005 := by
  rcases good_cases hg with ⟨h1, h2⟩ | ⟨h1, h2, h3⟩
  · rw [enc_number h1, encNum_length]; have := width_le i.num hr; omega
  · have : (enc i).length = if i.str.length < 127 then 1 + i.str.length else 5 + i.str.length := by unfold enc; rw [if_pos h1, encStr_length]
    rw [this]; split <;> omega
theorem encs_le (l : List It) (h : ∀ i ∈ l, Fld.Good i ∧ Ranged i) : (encs l).length ≤ 50005 * l.length := by
  induction l with
  | nil => simp [encs]
  | cons i l ih =>
    have h1 := ih fun j hj => h j (by simp [hj])
    have h2 := enc_le i (h i (by simp)).1 (h i (by simp)).2
    have : encs (i :: l) = enc i ++ encs l := by simp [encs]
    rw [this, List.length_append, List.length_cons]; omega
/-- an item's cells as the walk spells them -/
theorem RdI.cells {w : World} {A : Option Addr} {l : List It} {k : Nat} (h : RdI w A l) (hk : k < l.length) :
    ∃ ad, A = some ad ∧ w.cell? (ad.add (k * 3)) = some (.int .i64 (l.getD k none_).kind) ∧ w.cell? ⟨(ad.add (k * 3)).block, (ad.add (k * 3)).off + 1, none⟩ = some (.int .i64 (l.getD k none_).num) ∧
      w.cell? ⟨(ad.add (k * 3)).block, (ad.add (k * 3)).off + 2, none⟩ = some (.string ⟨(l.getD k none_).str.toArray⟩) := by
  obtain ⟨ad, e, h0, h1, h2⟩ := h.at_ hk
  have e1 : ad.add (3 * k + 1) = ⟨(ad.add (k * 3)).block, (ad.add (k * 3)).off + 1, none⟩ := by
    rw [← add_of_add, Nat.mul_comm, add_pos _ 1 (by omega)]
  have e2 : ad.add (3 * k + 2) = ⟨(ad.add (k * 3)).block, (ad.add (k * 3)).off + 2, none⟩ := by
    rw [← add_of_add, Nat.mul_comm, add_pos _ 2 (by omega)]
  rw [e1] at h1
  rw [e2] at h2
  rw [Nat.mul_comm] at h0
  exact ⟨ad, e, h0, h1, h2⟩
theorem max_err (a b : Int) : (if a < b then b else a) = max a b := by omega
set_option maxRecDepth 100000 in
set_option maxHeartbeats 1000000 in
theorem row_any (A : Option Addr) (l : List It) (cap : Nat) (w : World) (hm : l.length ≤ maxLen) (hA : RdI w A l) (hl : ∀ i ∈ l, i.str.length ≤ maxLen ∧ Ranged i) :
    Calls Try.prog 16 #[.slice A l.length cap] w fun e w' => RowSpec w.heap.size l w e w' := by
  unfold maxLen at hm
  have HA := Lib.hid hA
  have HL := Lib.hid hl
  clear hA hl
  by_cases h0 : 4000 < l.length
  · have he : rowE l = 14 := by unfold rowE; rw [if_pos h0]
    have hb : rowB l = [] := by unfold rowB; rw [he]; rfl
    unfold RowSpec
    rw [he, hb]
    go_enter Try.func16, Try.ntmps16
    go_wp2
    go_ret2
    exact ⟨none, 0, rfl, OwnB.nil _ _, Below.refl _ _⟩
  · have he : rowE l = worst l := by unfold rowE; rw [if_neg h0]
    have HE := Lib.hid he
    clear he
    have h0' : l.length ≤ 4000 := by omega
    clear h0
    go_enter Try.func16, Try.ntmps16
    go_wp2
    go_loopw [15, 4] (fun i e wr => ∃ (j : Nat), i = .int .i64 (j : Int) ∧ e = .int .i64 (worst (l.take j)) ∧ j ≤ l.length ∧ Hid (Below w.heap.size w wr)) (fun i _ _ => l.length - (intOf i).toNat)
    case atStart => exact ⟨0, rfl, rfl, Nat.zero_le _, Lib.hid (Below.refl _ _)⟩
    case round =>
      obtain ⟨j, rfl, rfl, hj, HB⟩ := hrel
      by_cases hlt : j < l.length
      · obtain ⟨ad, rfl⟩ := HA.out.some_ (by omega)
        obtain ⟨_, e, c0, c1, c2⟩ := (HA.out.below HB.out).cells hlt
        cases e
        have HI := Lib.hid (HL.out (l.getD j none_) (by rw [getD_eq _ _ _ hlt]; exact List.getElem_mem hlt))
        have HS := Lib.hid (worst_take_succ l j hlt)
        generalize l.getD j none_ = it at *
        generalize worst (l.take j) = e0 at *
        go_wp2_with fail
        refine (check_any it HI.out.1 _).mono ?_
        rintro e w1 ⟨rfl, hb1⟩
        have HB1 := Lib.hid (HB.out.trans (((boxIt_below wr _ _ _).trans (hb1.mono (by simp))).mono HB.out.size))
        clear hb1
        have HX := Lib.hid (max_err e0 (check it))
        generalize check it = ck at *
        go_wp2_with fail
        refine ⟨⟨j + 1, int_eq (by omega), ?_, by omega, HB1⟩, ?_⟩
        · rw [HS.out]
        · simp [intOf]; omega
      · have hjl : j = l.length := by omega
        subst hjl
        have HW := Lib.hid (worst_cases l)
        have HT : Hid (l.take l.length = l) := Lib.hid (List.take_length)
        rw [HT.out]
        have HZ := Lib.hid (worst_zero l)
        generalize worst l = e0 at *
        by_cases hz : e0 = 0
        · subst hz
          have HG := Lib.hid (HZ.out.1 rfl)
          have hb : rowB l = encs l := by unfold rowB; rw [HE.out]; rfl
          have HRB := Lib.hid hb
          clear hb hlt hj HZ HW HT
          go_wp2_with fail
          go_loopw [29, 7] (fun i b w2 => ∃ (j : Nat) (A2 : Option Addr) (c2 : Nat), i = .int .i64 (j : Int) ∧ b = .slice A2 (encs (l.take j)).length c2 ∧ j ≤ l.length ∧ Hid (OwnB w2 w.heap.size A2 c2 (encs (l.take j))) ∧ Hid (Below w.heap.size w w2)) (fun i _ _ => l.length - (intOf i).toNat)
          case atStart => exact ⟨0, none, 0, rfl, rfl, Nat.zero_le _, Lib.hid (OwnB.nil _ _), HB⟩
          case round =>
            clear HB
            obtain ⟨j, A2, c2, rfl, rfl, hj, HO, HB⟩ := hrel
            by_cases hlt : j < l.length
            · obtain ⟨ad, rfl⟩ := HA.out.some_ (by omega)
              obtain ⟨_, e, d0, d1, d2⟩ := (HA.out.below HB.out).cells hlt
              cases e
              have hmem : l.getD j none_ ∈ l := by rw [getD_eq _ _ _ hlt]; exact List.getElem_mem hlt
              have HI := Lib.hid (HL.out _ hmem)
              have HGI := Lib.hid (HG.out _ hmem)
              have HS := Lib.hid (encs_take_succ l j hlt)
              have HLen := Lib.hid (encs_le (l.take j) fun i hi => ⟨HG.out i (List.mem_of_mem_take hi), (HL.out i (List.mem_of_mem_take hi)).2⟩)
              have HTL : Hid ((l.take j).length = j) := Lib.hid (by rw [List.length_take]; omega)
              generalize l.getD j none_ = it at *
              generalize hP : encs (l.take j) = P at *
              clear hmem
              go_wp2_with fail
              refine (put_any w.heap.size A2 c2 P it HGI.out HI.out.2 _ (OwnR.alloc HO.out _) (by simp; have := HB.out.size; omega) (by have h1 := HLen.out; rw [HTL.out] at h1; omega)).mono ?_
              rintro e w3 ⟨A3, c3, rfl, hown, hb⟩
              have HB3 := Lib.hid ((HB.out.alloc HB.out.size (.cells #[.int .i64 it.kind, .int .i64 it.num, .string ⟨it.str.toArray⟩] 30)).trans hb)
              have HO3 := Lib.hid hown
              clear hb hown
              generalize hP2 : P ++ enc it = P2 at *
              go_wp2_with fail
              refine ⟨⟨j + 1, A3, c3, int_eq (by omega), ?_, by omega, ?_, HB3⟩, ?_⟩
              · rw [HS.out]
              · rw [HS.out]; exact HO3
              · simp [intOf]; omega
            · have hjl : j = l.length := by omega
              subst hjl
              have HT : Hid (l.take l.length = l) := Lib.hid (List.take_length)
              rw [HT.out] at HO ⊢
              go_wp2_with fail
              go_ret2
              refine ⟨A2, c2, ?_, ?_, HB.out⟩
              · rw [HRB.out, HE.out]; rfl
              · rw [HRB.out]; exact HO.out
        · have hb : rowB l = [] := by unfold rowB; rw [HE.out, if_neg hz]
          have HRB := Lib.hid hb
          have hz' : (e0 != 0) = true := by simpa using hz
          clear hb HZ HW HT
          go_wp2_with fail
          go_ret2
          refine ⟨none, 0, ?_, ?_, HB.out⟩
          · rw [HRB.out, HE.out]; rfl
          · rw [HRB.out]; exact OwnB.nil _ _
end Go.Proofs.Ytikiahonhbpchaa
