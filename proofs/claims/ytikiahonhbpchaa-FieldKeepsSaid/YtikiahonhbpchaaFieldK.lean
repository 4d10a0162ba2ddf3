/-
  Walks of the reference of package field: DocItems, DocRow, and the example row of the statements.
-/
import Derived.Test.YtikiahonhbpchaaFieldJ
namespace Go.Proofs.Ytikiahonhbpchaa
open Go.RowKit Fld
set_option linter.unusedVariables false
set_option linter.unusedSimpArgs false
attribute [local go_sem ↓] Go.wp_at_zero Go.wp_at_succ

theorem wpList_appS {w : World} {ops : Array Oper} {rest : List Oper} {o : Oper} {a : Act} {Q : Exit → Act → World → Prop} (hgd : o.guard = none) (s x : Operand)
    (ho : o.op = .call { callee := .builtin .append, args := #[s, x], argTypes := #[22, 9] })
    (base : Nat) (A : Option Addr) (n c : Nat) (l : List UInt8) (hs : a.eval s = .slice A n c) (hn : n = l.length) (hown : OwnB w base A c l)
    (news : List UInt8) (hx : a.eval x = .string ⟨news.toArray⟩)
    (hlen : l.length + news.length ≤ 140737488355328) (hbase : base ≤ w.heap.size)
    (h : ∀ A' c' w', OwnB w' base A' c' (l ++ news) → w.grownBy w' (blk A) → wpList Try.prog ops Q rest (a.put o.dst (.slice A' (l.length + news.length) c')) w') : wpList Try.prog ops Q (o :: rest) a w :=
  wpList_plain hgd fun _ hK => wp_appS s x ho base A n c l hs hn hown news hx hlen hbase fun A' c' w' h1 h2 => hK _ _ (h A' c' w' h1 h2)
/-- DocRow's bytes and error are Row's: the big ones first -/
theorem docrow_big {l : List It} {j : Nat} (hj : j < l.length) (h2 : (l.getD j none_).kind = 2 ∧ 50000 < (l.getD j none_).str.length) : worst l = 14 := by
  rw [worst_big]
  exact ⟨l.getD j none_, by rw [getD_eq _ _ _ hj]; exact List.getElem_mem hj, h2⟩
theorem docrow_form {l : List It} (hb : ∀ i ∈ l, ¬ (i.kind = 2 ∧ 50000 < i.str.length)) {i : It} (hi : i ∈ l) (hc : check i ≠ 0) : worst l = 2 ∧ check i = 2 := by
  have hw : ∀ i ∈ l, check i = 0 ∨ check i = 2 := by
    intro i hi
    have := hb i hi
    unfold check
    rw [if_neg this]
    split <;> simp
  have hne : worst l ≠ 0 := fun h => hc ((worst_zero l).1 h i hi)
  have hne' : worst l ≠ 14 := fun h => by
    obtain ⟨j, hj, hj2⟩ := (worst_big l).1 h
    exact hb j hj hj2
  have := worst_cases l
  have := hw i hi
  constructor <;> omega
set_option maxRecDepth 100000 in
set_option maxHeartbeats 1000000 in
theorem docrow_any (A : Option Addr) (l : List It) (cap : Nat) (w : World) (hm : l.length ≤ maxLen) (hA : RdI w A l) (hl : ∀ i ∈ l, i.str.length ≤ maxLen ∧ Ranged i) :
    Calls Try.prog 17 #[.slice A l.length cap] w fun e w' => e = .returned (twoS (rowB l) (rowE l)) ∧ Below w.heap.size w w' := by
  unfold maxLen at hm
  have HA := Lib.hid hA
  have HL := Lib.hid hl
  clear hA hl
  by_cases h0 : 4000 < l.length
  · have he : rowE l = 14 := by unfold rowE; rw [if_pos h0]
    have hb : rowB l = [] := by unfold rowB; rw [he]; rfl
    rw [he, hb]
    go_enter Try.func17, Try.ntmps17
    go_wp2
    go_ret2
    exact ⟨rfl, Below.refl _ _⟩
  · have he : rowE l = worst l := by unfold rowE; rw [if_neg h0]
    have HE := Lib.hid he
    clear he
    have h0' : l.length ≤ 4000 := by omega
    clear h0
    generalize hR : twoS (rowB l) (rowE l) = R
    have HR : Hid (twoS (rowB l) (rowE l) = R) := Lib.hid hR
    clear hR
    go_enter Try.func17, Try.ntmps17
    go_wp2
    go_loop [4] (fun i => ∃ (j : Nat), i = .int .i64 (j : Int) ∧ j ≤ l.length ∧ Hid (∀ k, k < j → ¬ ((l.getD k none_).kind = 2 ∧ 50000 < (l.getD k none_).str.length))) (fun i => l.length - (intOf i).toNat)
    case atStart => exact ⟨0, rfl, Nat.zero_le _, Lib.hid fun k hk => by omega⟩
    case round =>
      obtain ⟨j, rfl, hj, HN⟩ := hrel
      by_cases hlt : j < l.length
      · obtain ⟨ad, rfl⟩ := HA.out.some_ (by omega)
        obtain ⟨_, e, c0, c1, c2⟩ := HA.out.cells hlt
        cases e
        have HI := Lib.hid (HL.out (l.getD j none_) (by rw [getD_eq _ _ _ hlt]; exact List.getElem_mem hlt))
        have HBG := Lib.hid (docrow_big (l := l) hlt)
        have HNN : Hid (¬ ((l.getD j none_).kind = 2 ∧ 50000 < (l.getD j none_).str.length) → ∀ k, k < j + 1 → ¬ ((l.getD k none_).kind = 2 ∧ 50000 < (l.getD k none_).str.length)) := Lib.hid fun h k hk => by
          rcases Nat.lt_or_ge k j with h1 | h1
          · exact HN.out k h1
          · have : k = j := by omega
            subst this; exact h
        generalize l.getD j none_ = it at *
        have hsz := str_size it.str
        have hml := HI.out.1
        unfold maxLen at hml
        by_cases hk : it.kind = 2
        · have hk2 : ((it.kind : Int) == 2) = true := by simpa using hk
          by_cases hlen : 50000 < it.str.length
          · have HW := Lib.hid (HBG.out ⟨hk, hlen⟩)
            go_wp2_with fail
            go_ret2
            refine ⟨?_, Below.refl _ _⟩
            rw [← HR.out]
            have : rowB l = [] := by unfold rowB; rw [HE.out, HW.out]; rfl
            rw [this, HE.out, HW.out]; rfl
          · have HNX := Lib.hid (HNN.out (by rintro ⟨_, h⟩; exact hlen h))
            go_wp2_with fail
            exact ⟨⟨j + 1, int_eq (by omega), by omega, HNX⟩, by simp [intOf]; omega⟩
        · have hk2 : ((it.kind : Int) == 2) = false := by simpa using hk
          have HNX := Lib.hid (HNN.out (by rintro ⟨h, _⟩; exact hk h))
          go_wp2_with fail
          exact ⟨⟨j + 1, int_eq (by omega), by omega, HNX⟩, by simp [intOf]; omega⟩
      · have hjl : j = l.length := by omega
        subst hjl
        have HB := Lib.hid (show ∀ i ∈ l, ¬ (i.kind = 2 ∧ 50000 < i.str.length) from fun i hi => by
          obtain ⟨k, hk, rfl⟩ := List.getElem_of_mem hi
          have := HN.out k hk
          rwa [getD_eq _ _ _ hk] at this)
        clear HN hj hlt
        go_wp2_with fail
        go_loopw [6, 5] (fun i b w2 => ∃ (j : Nat) (A2 : Option Addr) (c2 : Nat), i = .int .i64 (j : Int) ∧ b = .slice A2 (encs (l.take j)).length c2 ∧ j ≤ l.length ∧ Hid (∀ i ∈ l.take j, Fld.Good i) ∧ Hid (OwnB w2 w.heap.size A2 c2 (encs (l.take j))) ∧ Hid (Below w.heap.size w w2)) (fun i _ _ => l.length - (intOf i).toNat)
        case atStart => exact ⟨0, none, 0, rfl, rfl, Nat.zero_le _, Lib.hid (by simp), Lib.hid (OwnB.nil _ _), Lib.hid (Below.refl _ _)⟩
        case round =>
          obtain ⟨j, A2, c2, rfl, rfl, hj, HG, HO, HW⟩ := hrel
          by_cases hlt : j < l.length
          · obtain ⟨ad, rfl⟩ := HA.out.some_ (by omega)
            obtain ⟨_, e, d0, d1, d2⟩ := (HA.out.below HW.out).cells hlt
            cases e
            have hmem : l.getD j none_ ∈ l := by rw [getD_eq _ _ _ hlt]; exact List.getElem_mem hlt
            have HI := Lib.hid (HL.out _ hmem)
            have HF := Lib.hid (docrow_form HB.out hmem)
            have HS := Lib.hid (encs_take_succ l j hlt)
            have HGN : Hid (check (l.getD j none_) = 0 → ∀ i ∈ l.take (j + 1), Fld.Good i) := Lib.hid fun h i hi => by
              rw [take_snoc l j hlt, List.mem_append] at hi
              rcases hi with hi | hi
              · exact HG.out i hi
              · rw [List.mem_singleton] at hi
                subst hi
                rw [getD_eq _ _ _ hlt] at h
                exact h
            have HLen := Lib.hid (encs_le (l.take j) fun i hi => ⟨HG.out i hi, (HL.out i (List.mem_of_mem_take hi)).2⟩)
            have HTL : Hid ((l.take j).length = j) := Lib.hid (by rw [List.length_take]; omega)
            generalize l.getD j none_ = it at *
            generalize hP : encs (l.take j) = P at *
            clear hmem
            go_wp2_with fail
            refine (item_any it HI.out.1 HI.out.2 _).mono ?_
            rintro e w3 ⟨rfl, hb⟩
            have HO3 := Lib.hid (HO.out.below hb)
            have HW3 := Lib.hid (HW.out.trans (hb.mono HW.out.size))
            clear hb
            by_cases hc : check it = 0
            · have hib : itemB it = enc it := by unfold itemB; rw [if_pos hc]
              have hei : Hid ((enc it).length ≤ 50005) := Lib.hid (enc_le it hc HI.out.2)
              have HGX := Lib.hid (HGN.out hc)
              rw [hib, hc]
              clear hc hib HGN HF
              generalize enc it = ib at *
              unfold twoS
              have HBS := Lib.hid HW3.out.size
              go_wp2_with (at_builtin; refine wpList_appS rfl (.tmp 50) (.tmp 51) rfl w.heap.size A2 P.length c2 P rfl rfl HO3.out ib rfl (by have h1 := HLen.out; have h2 := hei.out; rw [HTL.out] at h1; omega) HBS.out ?_; (intro A4 c4 w4 hown4 hg4))
              refine ⟨⟨j + 1, A4, c4, int_eq (by omega), ?_, by omega, HGX, ?_, ?_⟩, ?_⟩
              · rw [HS.out, List.length_append]
              · rw [HS.out]; exact Lib.hid hown4
              · exact Lib.hid (HW3.out.grown hg4 HBS.out (fun k hk => (HO3.out.lt_ k hk).1))
              · simp [intOf]; omega
            · have hf := HF.out hc
              have hce : (check it != 0) = true := by simpa using hc
              have HRE := Lib.hid hf
              have hib : itemB it = [] := by unfold itemB; rw [if_neg hc]
              rw [hib]
              unfold twoS
              clear hf hc HGN
              generalize check it = ck at *
              go_wp2_with fail
              go_ret2
              refine ⟨?_, HW3.out⟩
              rw [← HR.out]
              have : rowB l = [] := by unfold rowB; rw [HE.out, HRE.out.1]; rfl
              rw [this, HE.out, HRE.out.1, HRE.out.2]; rfl
          · have hjl : j = l.length := by omega
            subst hjl
            have HT : Hid (l.take l.length = l) := Lib.hid (List.take_length)
            rw [HT.out] at HG HO ⊢
            have HRE := Lib.hid (show worst l = 0 from (worst_zero l).2 HG.out)
            have hst := run_str c2 (OwnB.rd HO.out) rfl
            go_wp2_with fail
            go_ret2
            refine ⟨?_, HW.out⟩
            rw [← HR.out]
            have : rowB l = encs l := by unfold rowB; rw [HE.out, HRE.out]; rfl
            rw [this, HE.out, HRE.out]; rfl
end Go.Proofs.Ytikiahonhbpchaa
