/-
  Appends of numbers.
-/
import Derived.Test.YtjmhfjioccljeaaInts
import Derived.Test.YtjmhfjioccljeaaOwn
namespace Go.Proofs.Ytjmhfjioccljeaa
open Go.RowKit
set_option linter.unusedVariables false
set_option linter.unusedSimpArgs false

theorem info_i : (Try.prog.info? 3).map (fun i => (i.zero, i.size, i.bytes)) = some (some (.int .i64 0), 1, 8) := by kernel_rfl
theorem ic_append (a b : List Int) : ic (a ++ b) = ic a ++ ic b := by simp [ic]
theorem ic_one (l : List Int) : ∀ u ∈ ic l, u.oneCell' = true := by
  intro u hu
  simp only [ic, List.mem_map] at hu
  obtain ⟨x, _, rfl⟩ := hu
  rfl
/-- '[]int{}' -/
theorem ownz_empty (w : World) {base : Nat} (hb : base ≤ w.heap.size) : OwnZ (w.alloc (.cells #[] 3)) base (some ⟨w.heap.size, 0, none⟩) 0 [] :=
  World.ownsRow_lit w #[] 0 hb (by simp) rfl
/-- append of numbers that lie anywhere (nil, too) onto numbers of the call's own -/
theorem run_appZd (w : World) (ty : TypeId) (base : Nat) (A : Option Addr) (c : Nat) (l : List Int) (hown : OwnZ w base A c l)
    (A1 : Option Addr) (c1 : Nat) (news : List Int) (hr : RdZ w A1 news) (hlen : l.length + news.length ≤ 17592186044416) (hbase : base ≤ w.heap.size) :
    ∃ A' c' w', (Builtin.append_ #[47, 47] ty #[.slice A l.length c, .slice A1 news.length c1]).run Try.prog w = .ok (.slice A' (l.length + news.length) c') w' ∧ OwnZ w' base A' c' (l ++ news) ∧ w.grownBy w' (blk A) ∧
      (blk A' = blk A ∨ blk A' = some w.heap.size) := by
  obtain ⟨i, hi0, hz0, hz1, hz2⟩ := info_parts info_i
  rcases A1 with _ | ad
  · have h0 : news = [] := by
      cases news with
      | nil => rfl
      | cons x l => obtain ⟨_, e, _⟩ := hr (by simp); cases e
    subst h0
    exact ⟨A, c, w, run_append_of_nil Try.prog w base 47 ty 3 i 1 Try.underlying47 hi0 _ l.length (ic l) hown c1, by simpa using hown, World.grownBy.refl w _, .inl rfl⟩
  · have hcells : ∀ j u, (ic news)[j]? = some u → w.cell? (ad.add j) = some u := by
      intro j u hu
      have hj : j < news.length := by
        have := (List.getElem?_eq_some_iff.1 hu).1
        rwa [ic_length] at this
      obtain ⟨ad', e, hc⟩ := hr (by omega)
      cases e
      rw [ic_get _ _ hj] at hu
      rw [hc j hj]; exact hu
    obtain ⟨v', w', hrun, h2, h3, _, h5⟩ := run_append_own_at (P := Try.prog) w base 47 ty 3 i (.int .i64 0) 1 8 Try.underlying47 hi0 hz0 hz1 hz2 rfl (by decide) _ l.length (ic l) hown ad news.length c1 (ic news) (by rw [ic_length]; omega) hcells (ic_one _) (by unfold maxLen; omega) (by omega) hbase
    obtain ⟨A', c', rfl, h6, h7⟩ := own_form h2
    rw [ownBlock_slice] at h3
    rw [ownBlock_slice, ownBlock_slice] at h5
    refine ⟨A', c', w', hrun, ?_, h3, h5⟩
    unfold OwnZ
    rw [ic_append, List.length_append]; exact h6
theorem wpList_appZd {w : World} {ops : Array Oper} {rest : List Oper} {o : Oper} {a : Act} {Q : Exit → Act → World → Prop} (hgd : o.guard = none ∨ Region.wanted o (yielded ops a.tmps) = true) (s x : Operand)
    (ho : o.op = .call { callee := .builtin .append, args := #[s, x], argTypes := #[47, 47] })
    (base : Nat) (A : Option Addr) (n c : Nat) (l : List Int) (hs : a.eval s = .slice A n c) (hn : n = l.length) (hown : OwnZ w base A c l)
    (A1 : Option Addr) (m c1 : Nat) (news : List Int) (hx : a.eval x = .slice A1 m c1) (hm : m = news.length) (hr : RdZ w A1 news)
    (hlen : l.length + news.length ≤ 17592186044416) (hbase : base ≤ w.heap.size)
    (h : ∀ A' c' w', OwnZ w' base A' c' (l ++ news) → w.grownBy w' (blk A) → (blk A' = blk A ∨ blk A' = some w.heap.size) → wpList Try.prog ops Q rest (a.put o.dst (.slice A' (l.length + news.length) c')) w') :
    wpList Try.prog ops Q (o :: rest) a w := by
  subst hn hm
  obtain ⟨A', c', w', hrun, h1, h2, h3⟩ := run_appZd w o.type base A c l hown A1 c1 news hr hlen hbase
  have hk : ∀ {K : Act → World → Prop}, K (a.put o.dst (.slice A' (l.length + news.length) c')) w' → o.wp Try.prog a w K Q := by
    intro K hK
    unfold Oper.wp execOp
    simp only [ho, resolve, invoke, builtin, Sem.run_bind, Sem.run_pure, Result.andThen_ok, List.map_toArray, List.map_cons, List.map_nil, hs, hx, hrun]
    exact hK
  rcases hgd with hgd | hgd
  · exact wpList_plain hgd fun _ hK => hk (hK _ _ (h A' c' w' h1 h2 h3))
  · refine wpList_step fun K hK => ?_
    rw [if_pos hgd]
    exact hk (hK _ _ (h A' c' w' h1 h2 h3))

end Go.Proofs.Ytjmhfjioccljeaa
