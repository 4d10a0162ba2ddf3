/-
  Walks of package field: Items; words for memory: rows of items of the call's own.
-/
import Derived.Test.YtikiahonhbpchaaFieldG
namespace Go.Proofs.Ytikiahonhbpchaa
open Go.RowKit Fld
set_option linter.unusedVariables false
set_option linter.unusedSimpArgs false

theorem info_item : (Try.prog.info? 30).map (fun i => (i.zero, i.size, i.bytes)) = some (some (.agg #[.int .i64 0, .int .i64 0, .string ⟨#[]⟩]), 3, 32) := by kernel_rfl
/-- items of the call's own -/
def OwnI (w : World) (base : Nat) (A : Option Addr) (c : Nat) (l : List It) : Prop := OwnR w base 30 3 A l.length c (ic l)
theorem OwnI.nil (w : World) (base : Nat) : OwnI w base none 0 [] := OwnR.nil w base _ _
theorem OwnI.rd {w : World} {base : Nat} {A : Option Addr} {c : Nat} {l : List It} (h : OwnI w base A c l) : RdI w A l := by
  intro hl
  have hl' : 0 < l.length := by rw [ic_length] at hl; omega
  obtain ⟨g, rfl⟩ := OwnR.some_ h hl'
  refine ⟨_, rfl, fun k u hu => ?_⟩
  obtain ⟨ad, e, hc⟩ := OwnR.cellAt h k u hu
  cases e; exact hc
theorem OwnI.lt_ {w : World} {base : Nat} {A : Option Addr} {c : Nat} {l : List It} (h : OwnI w base A c l) : ∀ k, blk A = some k → base ≤ k ∧ k < w.heap.size := OwnR.lt h
theorem OwnI.below {w w' : World} {base : Nat} {A : Option Addr} {c : Nat} {l : List It} (h : OwnI w base A c l) (hb : Below w.heap.size w w') : OwnI w' base A c l := OwnR.below' h hb
/-- append of an item onto items of the call's own -/
theorem run_appI (w : World) (ty : TypeId) (base : Nat) (A : Option Addr) (c : Nat) (l : List It) (hown : OwnI w base A c l) (ad : Addr) (c1 : Nat) (i : It)
    (hc : ∀ j u, (ic [i])[j]? = some u → w.cell? (ad.add j) = some u) (hlen : l.length ≤ 100000) (hbase : base ≤ w.heap.size) :
    ∃ A' c' w', (Builtin.append_ #[24, 24] ty #[.slice A l.length c, .slice (some ad) 1 c1]).run Try.prog w = .ok (.slice A' (l.length + 1) c') w' ∧ OwnI w' base A' c' (l ++ [i]) ∧ w.grownBy w' (blk A) := by
  obtain ⟨f, hi0, hz0, hz1, hz2⟩ := info_parts info_item
  obtain ⟨v', w', hrun, h2, h3, _, h5⟩ := run_append_own_at (P := Try.prog) w base 24 ty 30 f _ 3 32 Try.underlying24 hi0 hz0 hz1 hz2 rfl (by decide) _ l.length (ic l) hown ad 1 c1 (ic [i]) (by rw [ic_length]; rfl) hc (ic_one _) (by unfold maxLen; omega) (by omega) hbase
  obtain ⟨A', c', rfl, h6, h7⟩ := own_form h2
  rw [ownBlock_slice] at h3
  refine ⟨A', c', w', hrun, ?_, h3⟩
  unfold OwnI
  rw [ic_append, List.length_append]; exact h6
theorem wp_appI {w : World} {o : Oper} {a : Act} {K : Act → World → Prop} {Q : Exit → Act → World → Prop} (s x : Operand)
    (ho : o.op = .call { callee := .builtin .append, args := #[s, x], argTypes := #[24, 24] })
    (base : Nat) (A : Option Addr) (n c : Nat) (l : List It) (hs : a.eval s = .slice A n c) (hn : n = l.length) (hown : OwnI w base A c l)
    (ad : Addr) (c1 : Nat) (i : It) (hx : a.eval x = .slice (some ad) 1 c1)
    (hc : ∀ j u, (ic [i])[j]? = some u → w.cell? (ad.add j) = some u) (hlen : l.length ≤ 100000) (hbase : base ≤ w.heap.size)
    (h : ∀ A' c' w', OwnI w' base A' c' (l ++ [i]) → w.grownBy w' (blk A) → K (a.put o.dst (.slice A' (l.length + 1) c')) w') : o.wp Try.prog a w K Q := by
  subst hn
  obtain ⟨A', c', w', hrun, h1, h2⟩ := run_appI w o.type base A c l hown ad c1 i hc hlen hbase
  unfold Oper.wp execOp
  simp only [ho, resolve, invoke, builtin, Sem.run_bind, Sem.run_pure, Result.andThen_ok, List.map_toArray, List.map_cons, List.map_nil, hs, hx, hrun]
  exact h A' c' w' h1 h2
theorem step_appI {w : World} {ops : Array Oper} {o : Oper} {a : Act} {K : Act → World → Prop} {Q : Exit → Act → World → Prop} {E : Prop} (hgd : o.guard = none) (s x : Operand)
    (ho : o.op = .call { callee := .builtin .append, args := #[s, x], argTypes := #[24, 24] })
    (base : Nat) (A : Option Addr) (n c : Nat) (l : List It) (hs : a.eval s = .slice A n c) (hn : n = l.length) (hown : OwnI w base A c l)
    (ad : Addr) (c1 : Nat) (i : It) (hx : a.eval x = .slice (some ad) 1 c1)
    (hc : ∀ j u, (ic [i])[j]? = some u → w.cell? (ad.add j) = some u) (hlen : l.length ≤ 100000) (hbase : base ≤ w.heap.size)
    (h : ∀ A' c' w', OwnI w' base A' c' (l ++ [i]) → w.grownBy w' (blk A) → K (a.put o.dst (.slice A' (l.length + 1) c')) w') :
    if Region.wanted o (yielded ops a.tmps) = true then Oper.wp Try.prog o a w K Q else E := by
  have hw : Region.wanted o (yielded ops a.tmps) = true := by simp [Region.wanted, hgd]
  rw [if_pos hw]
  exact wp_appI s x ho base A n c l hs hn hown ad c1 i hx hc hlen hbase h
theorem wpList_appI {w : World} {ops : Array Oper} {rest : List Oper} {o : Oper} {a : Act} {Q : Exit → Act → World → Prop} (hgd : o.guard = none) (s x : Operand)
    (ho : o.op = .call { callee := .builtin .append, args := #[s, x], argTypes := #[24, 24] })
    (base : Nat) (A : Option Addr) (n c : Nat) (l : List It) (hs : a.eval s = .slice A n c) (hn : n = l.length) (hown : OwnI w base A c l)
    (ad : Addr) (c1 : Nat) (i : It) (hx : a.eval x = .slice (some ad) 1 c1)
    (hc : ∀ j u, (ic [i])[j]? = some u → w.cell? (ad.add j) = some u) (hlen : l.length ≤ 100000) (hbase : base ≤ w.heap.size)
    (h : ∀ A' c' w', OwnI w' base A' c' (l ++ [i]) → w.grownBy w' (blk A) → wpList Try.prog ops Q rest (a.put o.dst (.slice A' (l.length + 1) c')) w') : wpList Try.prog ops Q (o :: rest) a w :=
  wpList_plain hgd fun _ hK => wp_appI s x ho base A n c l hs hn hown ad c1 i hx hc hlen hbase fun A' c' w' h1 h2 => hK _ _ (h A' c' w' h1 h2)
theorem lit_item (w : World) (o : Obj) (a b : Int) (s : List UInt8) : ∀ j u, (ic [⟨a, b, s⟩])[j]? = some u → ((w.alloc o).alloc (.cells #[.int .i64 a, .int .i64 b, .string ⟨s.toArray⟩] 30)).cell? ((⟨w.heap.size + 1, 0, none⟩ : Addr).add j) = some u := by
  intro j u hu
  have hsz : (w.alloc o).heap.size = w.heap.size + 1 := by simp
  have := cells_new (w.alloc o) (ic [⟨a, b, s⟩]) 30 j u hu
  rw [hsz] at this
  exact this
/-- how many elements a slice has -/
def sliceN (v : Value) : Nat := match v with | .slice _ n _ => n | _ => 0
theorem sliceN_slice (A : Option Addr) (n c : Nat) : sliceN (.slice A n c) = n := rfl
/-- what Items does -/
def ItemsSpec (base : Nat) (b : List UInt8) (w : World) (e : Ending) (w' : World) : Prop :=
  match items b 0 with
  | some l => ∃ A' c', e = .returned (.tuple #[.slice A' l.length c', .int .i64 0]) ∧ OwnI w' base A' c' l ∧ Below base w w'
  | none => e = .returned (.tuple #[.slice none 0 0, .int .i64 2]) ∧ Below base w w'
set_option maxRecDepth 100000 in
set_option maxHeartbeats 1000000 in
theorem items_any (A : Option Addr) (b : List UInt8) (cap : Nat) (w : World) (hb : b.length ≤ maxLen) (hcap : b.length ≤ cap) (hA : RdB w A b) :
    Calls Try.prog 12 #[.slice A b.length cap] w fun e w' => ItemsSpec w.heap.size b w e w' := by
  have HA := Lib.hid hA
  have HBL := Lib.hid hb
  clear hA
  unfold maxLen at hb
  go_enter Try.func12, Try.ntmps12
  go_wp2_with fail
  go_loopw [0, 4] (fun s o wr => ∃ (b1 : List UInt8) (A1 : Option Addr) (cap1 : Nat) (l : List It) (A2 : Option Addr) (c2 : Nat), s = .slice A1 b1.length cap1 ∧ o = .slice A2 l.length c2 ∧ b1.length ≤ cap1 ∧ b1.length ≤ b.length ∧ l.length ≤ 4000 ∧
      Hid (items b 0 = (items b1 l.length).map (l ++ ·)) ∧ Hid (RdB w A1 b1) ∧ Hid (OwnI wr w.heap.size A2 c2 l) ∧ Hid (Below w.heap.size w wr)) (fun s _ _ => sliceN s)
  case atStart => exact ⟨b, A, cap, [], none, 0, rfl, rfl, hcap, Nat.le_refl _, by simp, Lib.hid (by cases items b 0 <;> rfl), HA, Lib.hid (OwnI.nil _ _), Lib.hid (Below.refl _ _)⟩
  case round =>
    clear HA hcap
    obtain ⟨b1, A1, cap1, l, A2, c2, rfl, rfl, hcap, hb1, hl, HI, HA, HO, HB⟩ := hrel
    have HBL1 : Hid (b1.length ≤ maxLen) := Lib.hid (Nat.le_trans hb1 HBL.out)
    by_cases h0 : 0 < b1.length
    · have HN0 := Lib.hid (show b1 ≠ [] by intro h; rw [h] at h0; simp at h0)
      obtain ⟨ad, rfl⟩ := HA.out.some_ h0
      go_wp2_with fail
      refine (first_any (some ad) b1 cap1 wr HBL1.out hcap (HA.out.below HB.out)).mono ?_
      rintro e w1 ⟨rfl, hbw⟩
      have HO1 := Lib.hid (HO.out.below hbw)
      have HB1 := Lib.hid (HB.out.trans (hbw.mono HB.out.size))
      clear hbw HO HB
      obtain ⟨i, n, er, hf⟩ : ∃ i n e, firstP b1 = (i, n, e) := ⟨_, _, _, rfl⟩
      have HF := Lib.hid hf
      rw [hf]
      clear hf
      obtain ⟨ik, inn, is⟩ := i
      unfold tri It.v
      simp only
      by_cases he : er = 0
      · subst he
        by_cases h4 : l.length = 4000
        · have HR := Lib.hid (show items b 0 = none by rw [HI.out, items_err HN0.out (.inr h4)]; rfl)
          have h4' : ((l.length : Int) == 4000) = true := by rw [h4]; rfl
          go_wp2_with fail
          go_ret2
          unfold ItemsSpec
          rw [HR.out]
          exact ⟨rfl, HB1.out.alloc HB1.out.size _⟩
        · have h4' : ((l.length : Int) == 4000) = false := by rw [beq_eq_false_iff_ne]; omega
          have HCN := Lib.hid (firstP_canon HF.out)
          have HI1 := Lib.hid (show items b 0 = (items (b1.drop n) (l ++ [(⟨ik, inn, is⟩ : It)]).length).map (l ++ [⟨ik, inn, is⟩] ++ ·) by
            rw [HI.out, items_step HN0.out HF.out h4, List.length_append]
            cases items (b1.drop n) (l.length + [(⟨ik, inn, is⟩ : It)].length) with
            | none => simp_all
            | some r => simp_all)
          have hn1 := HCN.out.2.2.2.1
          have hn2 := HCN.out.2.2.2.2
          have HRA := Lib.hid ((HA.out.below (HB1.out)).map n)
          clear HI HF HN0
          have HBS := Lib.hid HB1.out.size
          go_wp2_with fail
          by_cases hcn : cap1 = n
          · have hbl : b1.length = cap1 := by omega
            subst hcn
            go_region_law (first
              | (refine step_appI rfl (.tmp 24) (.tmp 26) rfl w.heap.size A2 l.length c2 l rfl rfl ?_ ⟨w1.heap.size + 1, 0, none⟩ 1 ⟨ik, inn, is⟩ rfl ?_ ?_ ?_ ?_
                 · exact OwnR.alloc (OwnR.drew (OwnR.alloc HO1.out _)) _
                 · exact lit_item w1 _ ik inn is
                 · omega
                 · have := HBS.out; simp; omega
                 intro A3 c3 w3 hown3 hg3))
            all_goals
              have HB3 := Lib.hid (((HB1.out.alloc HBS.out _).alloc (by have := HBS.out; simp; omega) _).drew.grown hg3 (by have := HBS.out; simp; omega) (fun k hk => (HO1.out.lt_ k hk).1))
              have HO3 := Lib.hid hown3
              clear hown3 hg3
              go_simp
              go_wp2_with fail
              refine ⟨⟨b1.drop cap1, some ad, 0, l ++ [⟨ik, inn, is⟩], A3, c3, ?_, ?_, ?_, ?_, ?_, HI1, ?_, HO3, HB3⟩, ?_⟩
              · rw [List.length_drop]
                exact slice_val (by omega)
              · exact slice_val (by simp)
              · rw [List.length_drop]; omega
              · rw [List.length_drop]; omega
              · simp; omega
              · exact Lib.hid fun h => by rw [List.length_drop] at h; omega
              · simp only [sliceN_slice]; omega
          · go_region_law (first
              | (refine step_appI rfl (.tmp 24) (.tmp 26) rfl w.heap.size A2 l.length c2 l rfl rfl ?_ ⟨w1.heap.size + 1, 0, none⟩ 1 ⟨ik, inn, is⟩ rfl ?_ ?_ ?_ ?_
                 · exact OwnR.alloc (OwnR.drew (OwnR.alloc HO1.out _)) _
                 · exact lit_item w1 _ ik inn is
                 · omega
                 · have := HBS.out; simp; omega
                 intro A3 c3 w3 hown3 hg3))
            all_goals
              have HB3 := Lib.hid (((HB1.out.alloc HBS.out _).alloc (by have := HBS.out; simp; omega) _).drew.grown hg3 (by have := HBS.out; simp; omega) (fun k hk => (HO1.out.lt_ k hk).1))
              have HO3 := Lib.hid hown3
              have HA3 := Lib.hid (HA.out.map n)
              clear hown3 hg3
              go_simp
              go_wp2_with fail
              refine ⟨⟨b1.drop n, some (ad.add n), cap1 - n, l ++ [⟨ik, inn, is⟩], A3, c3, ?_, ?_, ?_, ?_, ?_, HI1, HA3, HO3, HB3⟩, ?_⟩
              · rw [List.length_drop]
              · exact slice_val (by simp)
              · rw [List.length_drop]; omega
              · rw [List.length_drop]; omega
              · simp; omega
              · simp only [sliceN_slice]; omega
      · have he' : (er != 0) = true := by simpa using he
        have HR := Lib.hid (show items b 0 = none by rw [HI.out, items_err HN0.out (.inl (by rw [HF.out]; exact he))]; rfl)
        go_wp2_with fail
        go_ret2
        unfold ItemsSpec
        rw [HR.out]
        exact ⟨rfl, HB1.out.alloc HB1.out.size _⟩
    · have hb0 : b1 = [] := List.eq_nil_of_length_eq_zero (by omega)
      have HR := Lib.hid (show items b 0 = some l by rw [HI.out, hb0, items_nil]; simp)
      go_wp2_with fail
      go_ret2
      unfold ItemsSpec
      rw [HR.out]
      exact ⟨A2, c2, rfl, HO.out, HB.out⟩
end Go.Proofs.Ytikiahonhbpchaa
