/-
  Words for memory: a slice value '.slice A n c' whose row the call owns; append onto it, in a plain region and in one that draws its order.
-/
import Derived.Test.YtjmhfjioccljeaaBase
import Derived.Maps.AppendAt
import Derived.Deep.AppendLies
import Derived.OwnWalk
import Derived.Laws.IdiomStrings
namespace Go.Proofs.Ytjmhfjioccljeaa
open Go.RowKit
set_option linter.unusedVariables false
set_option linter.unusedSimpArgs false

/-- a row of the call's own, from block 'base' on: n elements of type e -/
def OwnR (w : World) (base : Nat) (e : TypeId) (size : Nat) (A : Option Addr) (n c : Nat) (xs : List Value) : Prop := w.ownsRow base e size (.slice A n c) n xs
def blk (A : Option Addr) : Option Nat := A.map Addr.block

section
variable {w w' : World} {base : Nat} {e : TypeId} {size : Nat} {A : Option Addr} {n c : Nat} {xs : List Value}
theorem own_form {v : Value} (h : w.ownsRow base e size v n xs) : ∃ A c, v = .slice A n c ∧ OwnR w base e size A n c xs ∧ v.ownBlock = blk A := by
  rcases h.2 with ⟨rfl, rfl⟩ | ⟨g, cap, cur, rfl, h'⟩
  · exact ⟨none, 0, rfl, h, rfl⟩
  · exact ⟨some ⟨g, 0, none⟩, cap, rfl, h, rfl⟩
theorem ownBlock_slice (A : Option Addr) (n c : Nat) : (Value.slice A n c).ownBlock = blk A := by cases A <;> rfl
theorem OwnR.nil (w : World) (base : Nat) (e : TypeId) (size : Nat) : OwnR w base e size none 0 0 [] := World.ownsRow_nil w base e size
theorem OwnR.length (h : OwnR w base e size A n c xs) : xs.length = n * size := h.1
theorem OwnR.zero (h : OwnR w base e size none n c xs) : n = 0 := by
  rcases h.2 with ⟨_, h0⟩ | ⟨g, cap, cur, hv, _⟩
  · exact h0
  · cases hv
theorem OwnR.some_ (h : OwnR w base e size A n c xs) (hn : 0 < n) : ∃ g, A = some ⟨g, 0, none⟩ := by
  rcases h.2 with ⟨_, h0⟩ | ⟨g, cap, cur, hv, _⟩
  · omega
  · injection hv with hA
    exact ⟨g, hA⟩
theorem OwnR.lt (h : OwnR w base e size A n c xs) : ∀ k, blk A = some k → base ≤ k ∧ k < w.heap.size := fun k hk => World.ownsRow.lt h k (by rw [ownBlock_slice]; exact hk)
theorem OwnR.cap (h : OwnR w base e size A n c xs) : n ≤ c := by
  rcases h.2 with ⟨hv, h0⟩ | ⟨g, cap, cur, hv, _, _, hc, _⟩
  · omega
  · injection hv with hA hn hc'
    omega
theorem OwnR.kept (h : OwnR w base e size A n c xs) {row : Option Nat} (hg : w.grownBy w' row) (hne : blk A = none ∨ blk A ≠ row) : OwnR w' base e size A n c xs :=
  World.ownsRow.kept h hg (by rw [ownBlock_slice]; exact hne)
theorem OwnR.block (h : OwnR w base e size A n c xs) (hk : ∀ k, blk A = some k → w'.heap[k]? = w.heap[k]?) : OwnR w' base e size A n c xs := by
  refine ⟨h.1, ?_⟩
  rcases h.2 with hv | ⟨g, cap, cur, hv, hb, hgg, rest⟩
  · exact .inl hv
  · refine .inr ⟨g, cap, cur, hv, hb, ?_, rest⟩
    injection hv with hA
    rw [hk g (by rw [hA]; rfl)]; exact hgg
theorem OwnR.alloc (h : OwnR w base e size A n c xs) (o : Obj) : OwnR (w.alloc o) base e size A n c xs := World.ownsRow.alloc h o
theorem OwnR.drew (h : OwnR w base e size A n c xs) : OwnR w.drew base e size A n c xs := h
theorem OwnR.drewN (h : OwnR w base e size A n c xs) (k : Nat) : OwnR (w.drewN k) base e size A n c xs := h
theorem OwnR.below (h : OwnR w base e size A n c xs) {B : Nat} (hb : Below B w w') (hB : ∀ k, blk A = some k → k < B) : OwnR w' base e size A n c xs := h.block fun k hk => hb.block k (hB k hk)
theorem OwnR.below' (h : OwnR w base e size A n c xs) (hb : Below w.heap.size w w') : OwnR w' base e size A n c xs := h.below hb fun k hk => (h.lt k hk).2
theorem OwnR.mono (h : OwnR w base e size A n c xs) {base' : Nat} (hb : base' ≤ base) : OwnR w base' e size A n c xs := by
  refine ⟨h.1, ?_⟩
  rcases h.2 with hv | ⟨g, cap, cur, hv, hb', rest⟩
  · exact .inl hv
  · exact .inr ⟨g, cap, cur, hv, by omega, rest⟩
theorem OwnR.cellAt (h : OwnR w base e size A n c xs) : ∀ j u, xs[j]? = some u → ∃ ad, A = some ad ∧ w.cell? (ad.add j) = some u := by
  intro j u hu
  have hn : 0 < n := by
    have h1 := h.1
    rcases Nat.eq_zero_or_pos n with h0 | h0
    · subst h0
      have : xs = [] := List.eq_nil_of_length_eq_zero (by simpa using h1)
      subst this; simp at hu
    · exact h0
  obtain ⟨g, rfl⟩ := h.some_ hn
  exact ⟨_, rfl, World.ownsRow.cells h rfl j u hu⟩
theorem OwnR.far (h : OwnR w base e size A n c xs) {p : Addr} (hp : blk A ≠ some p.block) (u : Value) : OwnR (w.setCell p u) base e size A n c xs :=
  h.block fun k hk => Below.heap_setCell w p u k (fun e => hp (by rw [hk, e]))
end

section
variable {P : Program} {w : World}
theorem wpList_app {ops : Array Oper} {rest : List Oper} {o : Oper} {a : Act} {Q : Exit → Act → World → Prop} (hgd : o.guard = none) (s x : Operand) (t : TypeId)
    (ho : o.op = .call { callee := .builtin .append, args := #[s, x], argTypes := #[t, t] })
    (base : Nat) (e : TypeId) (z : Value) (size bytes : Nat) (ht : P.underlying t = some (.slice e)) (hi : (P.info? e).map (fun i => (i.zero, i.size, i.bytes)) = some (some z, size, bytes))
    (hzs : z.cells.size = size) (hsz : 0 < size)
    (A : Option Addr) (n c : Nat) (xs : List Value) (hs : a.eval s = .slice A n c) (hown : OwnR w base e size A n c xs)
    (ad : Addr) (m c' : Nat) (news : List Value) (hx : a.eval x = .slice (some ad) m c') (hl : news.length = m * size) (hnews : ∀ j u, news[j]? = some u → w.cell? (ad.add j) = some u) (h1 : ∀ u ∈ news, u.oneCell' = true)
    (h63 : n + m ≤ maxLen) (hbytes : (n + m) * bytes ≤ 140737488355328) (hbase : base ≤ w.heap.size)
    (h : ∀ A' c' w', OwnR w' base e size A' (n + m) c' (xs ++ news) → w.grownBy w' (blk A) → (blk A' = blk A ∨ blk A' = some w.heap.size) → wpList P ops Q rest (a.put o.dst (.slice A' (n + m) c')) w') :
    wpList P ops Q (o :: rest) a w := by
  obtain ⟨i, hi0, hz0, hz1, hz2⟩ := info_parts hi
  refine wpList_append_own_at w hgd s x t ho base e i z size bytes ht hi0 hz0 hz1 hz2 hzs hsz _ n xs hs hown ad m c' news hx hl hnews h1 h63 hbytes hbase ?_
  intro v' w' h2 h3 _ h5
  obtain ⟨A', c'', rfl, h6, h7⟩ := own_form h2
  rw [ownBlock_slice] at h3 h5
  rw [ownBlock_slice] at h5
  exact h A' c'' w' h6 h3 h5
end

/-- bytes as cells -/
def bc (l : List UInt8) : List Value := l.map fun x => .int .u8 (x.toNat : Int)
theorem bc_length (l : List UInt8) : (bc l).length = l.length := by simp [bc]
theorem bc_append (a b : List UInt8) : bc (a ++ b) = bc a ++ bc b := by simp [bc]
theorem bc_get (l : List UInt8) (k : Nat) (h : k < l.length) : (bc l)[k]? = some (.int .u8 ((l.getD k 0).toNat : Int)) := by
  simp [bc, h]
theorem bc_one (l : List UInt8) : ∀ u ∈ bc l, u.oneCell' = true := by
  intro u hu
  simp only [bc, List.mem_map] at hu
  obtain ⟨x, _, rfl⟩ := hu; rfl
theorem info_u8 : (Try.prog.info? 5).map (fun i => (i.zero, i.size, i.bytes)) = some (some (.int .u8 0), 1, 1) := by kernel_rfl
def OwnB (w : World) (base : Nat) (A : Option Addr) (c : Nat) (l : List UInt8) : Prop := OwnR w base 5 1 A l.length c (bc l)
theorem OwnB.rd {w : World} {base : Nat} {A : Option Addr} {c : Nat} {l : List UInt8} (h : OwnB w base A c l) : RdB w A l := by
  intro hl
  obtain ⟨g, rfl⟩ := OwnR.some_ h hl
  refine ⟨_, rfl, fun k hk => ?_⟩
  obtain ⟨ad, e, hc⟩ := OwnR.cellAt h k _ (bc_get l k hk)
  cases e; exact hc
theorem OwnB.nil (w : World) (base : Nat) : OwnB w base none 0 [] := OwnR.nil w base _ _
theorem cells_new (w : World) (cs : List Value) (t : TypeId) : ∀ j u, cs[j]? = some u → (w.alloc (.cells cs.toArray t)).cell? ((⟨w.heap.size, 0, none⟩ : Addr).add j) = some u := by
  intro j u hu
  have : (⟨w.heap.size, 0, none⟩ : Addr).add j = ⟨w.heap.size, j, none⟩ := by unfold Addr.add; split <;> simp_all
  rw [this, World.cell?_alloc_new]
  simpa using hu
theorem appB_below {B : Nat} {w w1 w2 : World} {A : Option Addr} {c : Nat} {l : List UInt8} {o : Obj} (hb : Below B w w1) (hown : OwnB w1 B A c l) (hg : (w1.alloc o).grownBy w2 (blk A)) (hB : B ≤ w1.heap.size) : Below B w w2 :=
  (hb.alloc hB o).grown hg (by simp; omega) (fun k hk => (OwnR.lt hown k hk).1)
/-- append of bytes onto bytes of the call's own -/
theorem wpList_appB {w : World} {ops : Array Oper} {rest : List Oper} {o : Oper} {a : Act} {Q : Exit → Act → World → Prop} (hgd : o.guard = none) (s x : Operand)
    (ho : o.op = .call { callee := .builtin .append, args := #[s, x], argTypes := #[37, 37] })
    (base : Nat) (A : Option Addr) (n c : Nat) (l : List UInt8) (hs : a.eval s = .slice A n c) (hn : n = l.length) (hown : OwnB w base A c l)
    (ad : Addr) (m c' : Nat) (news : List UInt8) (hx : a.eval x = .slice (some ad) m c') (hm : news.length = m) (hnews : ∀ j u, (bc news)[j]? = some u → w.cell? (ad.add j) = some u)
    (hlen : n + m ≤ 140737488355328) (hbase : base ≤ w.heap.size)
    (h : ∀ A' c' w', OwnB w' base A' c' (l ++ news) → w.grownBy w' (blk A) → (blk A' = blk A ∨ blk A' = some w.heap.size) → wpList Try.prog ops Q rest (a.put o.dst (.slice A' (n + m) c')) w') :
    wpList Try.prog ops Q (o :: rest) a w := by
  subst hn
  refine wpList_app hgd s x _ ho base _ _ 1 1 Try.underlying37 info_u8 rfl (by decide) A l.length c (bc l) hs hown ad m c' (bc news) hx (by rw [bc_length]; omega) hnews (bc_one _) (by unfold maxLen; omega) (by omega) hbase ?_
  intro A' c'' w' h1 h2 h3
  refine h A' c'' w' ?_ h2 h3
  unfold OwnB
  rw [bc_append, List.length_append, hm]; exact h1

theorem run_append_of_nil (P : Program) (w : World) (base : Nat) (t ty e : TypeId) (i : TypeInfo) (size : Nat) (ht : P.underlying t = some (.slice e)) (hi : P.info? e = some i)
    (v : Value) (n : Nat) (xs : List Value) (hown : w.ownsRow base e size v n xs) (c : Nat) : (Builtin.append_ #[t, t] ty #[v, .slice none 0 c]).run P w = .ok v w := by
  rcases hown.2 with ⟨rfl, rfl⟩ | ⟨g, cap, cur, rfl, _, _, hnc, _⟩
  · simp [Builtin.append_, run_underlying ht, sizeOf, typeInfo, hi, Builtin.lenOf, Builtin.firstCells]
  · simp [Builtin.append_, run_underlying ht, sizeOf, typeInfo, hi, Builtin.lenOf, Builtin.firstCells, hnc, storeCells]
theorem OwnB.drew {w : World} {base : Nat} {A : Option Addr} {c : Nat} {l : List UInt8} (h : OwnB w base A c l) : OwnB w.drew base A c l := h
theorem OwnB.drewN {w : World} {base : Nat} {A : Option Addr} {c : Nat} {l : List UInt8} (h : OwnB w base A c l) (n : Nat) : OwnB (w.drewN n) base A c l := h
theorem OwnB.below {w w' : World} {base : Nat} {A : Option Addr} {c : Nat} {l : List UInt8} (h : OwnB w base A c l) (hb : Below w.heap.size w w') : OwnB w' base A c l := OwnR.below' h hb
theorem OwnB.set_ {w : World} {base g c : Nat} {l : List UInt8} (h : OwnB w base (some ⟨g, 0, none⟩) c l) (j : Nat) (y : UInt8) :
    OwnB (w.setCell ⟨g, j, none⟩ (.int .u8 (y.toNat : Int))) base (some ⟨g, 0, none⟩) c (l.set j y) := by
  have h1 := (World.ownsRow.stored h j (.int .u8 (y.toNat : Int))).1
  unfold OwnB OwnR
  rw [List.length_set]
  have e : bc (l.set j y) = (bc l).set j (.int .u8 (y.toNat : Int)) := by simp [bc, List.map_set]
  rw [e]; exact h1
theorem OwnB.cell_ {w : World} {base g c : Nat} {l : List UInt8} (h : OwnB w base (some ⟨g, 0, none⟩) c l) (j : Nat) (hj : j < l.length) :
    w.cell? ⟨g, j, none⟩ = some (.int .u8 ((l.getD j 0).toNat : Int)) := by
  rw [World.ownsRow.cellAt h j (by omega), bc_get l j hj]
theorem OwnB.free_ {w : World} {base g c : Nat} {l : List UInt8} (h : OwnB w base (some ⟨g, 0, none⟩) c l) (j : Nat) : w.frozen? ⟨g, j, none⟩ = false := World.ownsRow.frozenAt h j
/-- '[]byte{}' -/
theorem own_empty (w : World) {base : Nat} (hb : base ≤ w.heap.size) : OwnB (w.alloc (.cells #[] 5)) base (some ⟨w.heap.size, 0, none⟩) 0 [] :=
  World.ownsRow_lit w #[] 0 hb (by simp) rfl
/-- append of bytes that lie anywhere (nil, too) onto bytes of the call's own -/
theorem run_appRd (w : World) (ty : TypeId) (base : Nat) (A : Option Addr) (c : Nat) (l : List UInt8) (hown : OwnB w base A c l)
    (A1 : Option Addr) (c1 : Nat) (news : List UInt8) (hr : RdB w A1 news) (hlen : l.length + news.length ≤ 140737488355328) (hbase : base ≤ w.heap.size) :
    ∃ A' c' w', (Builtin.append_ #[37, 37] ty #[.slice A l.length c, .slice A1 news.length c1]).run Try.prog w = .ok (.slice A' (l.length + news.length) c') w' ∧ OwnB w' base A' c' (l ++ news) ∧ w.grownBy w' (blk A) ∧
      (blk A' = blk A ∨ blk A' = some w.heap.size) := by
  obtain ⟨i, hi0, hz0, hz1, hz2⟩ := info_parts info_u8
  rcases A1 with _ | ad
  · have h0 : news = [] := by
      cases news with
      | nil => rfl
      | cons x l => obtain ⟨_, e, _⟩ := hr (by simp); cases e
    subst h0
    exact ⟨A, c, w, run_append_of_nil Try.prog w base 37 ty 5 i 1 Try.underlying37 hi0 _ l.length (bc l) hown c1, by simpa using hown, World.grownBy.refl w _, .inl rfl⟩
  · have hcells : ∀ j u, (bc news)[j]? = some u → w.cell? (ad.add j) = some u := by
      intro j u hu
      have hj : j < news.length := by
        have := (List.getElem?_eq_some_iff.1 hu).1
        rwa [bc_length] at this
      obtain ⟨ad', e, hc⟩ := hr (by omega)
      cases e
      rw [bc_get _ _ hj] at hu
      rw [hc j hj]; exact hu
    obtain ⟨v', w', hrun, h2, h3, _, h5⟩ := run_append_own_at (P := Try.prog) w base 37 ty 5 i (.int .u8 0) 1 1 Try.underlying37 hi0 hz0 hz1 hz2 rfl (by decide) _ l.length (bc l) hown ad news.length c1 (bc news) (by rw [bc_length]; omega) hcells (bc_one _) (by unfold maxLen; omega) (by omega) hbase
    obtain ⟨A', c', rfl, h6, h7⟩ := own_form h2
    rw [ownBlock_slice] at h3
    rw [ownBlock_slice, ownBlock_slice] at h5
    refine ⟨A', c', w', hrun, ?_, h3, h5⟩
    unfold OwnB
    rw [bc_append, List.length_append]; exact h6
theorem wpList_appRd {w : World} {ops : Array Oper} {rest : List Oper} {o : Oper} {a : Act} {Q : Exit → Act → World → Prop} (hgd : o.guard = none ∨ Region.wanted o (yielded ops a.tmps) = true) (s x : Operand)
    (ho : o.op = .call { callee := .builtin .append, args := #[s, x], argTypes := #[37, 37] })
    (base : Nat) (A : Option Addr) (n c : Nat) (l : List UInt8) (hs : a.eval s = .slice A n c) (hn : n = l.length) (hown : OwnB w base A c l)
    (A1 : Option Addr) (m c1 : Nat) (news : List UInt8) (hx : a.eval x = .slice A1 m c1) (hm : m = news.length) (hr : RdB w A1 news)
    (hlen : l.length + news.length ≤ 140737488355328) (hbase : base ≤ w.heap.size)
    (h : ∀ A' c' w', OwnB w' base A' c' (l ++ news) → w.grownBy w' (blk A) → (blk A' = blk A ∨ blk A' = some w.heap.size) → wpList Try.prog ops Q rest (a.put o.dst (.slice A' (l.length + news.length) c')) w') :
    wpList Try.prog ops Q (o :: rest) a w := by
  subst hn hm
  obtain ⟨A', c', w', hrun, h1, h2, h3⟩ := run_appRd w o.type base A c l hown A1 c1 news hr hlen hbase
  have hk : ∀ {K : Act → World → Prop}, K (a.put o.dst (.slice A' (l.length + news.length) c')) w' → o.wp Try.prog a w K Q := by
    intro K hK
    unfold Oper.wp execOp
    simp only [ho, resolve, invoke, builtin, Sem.run_bind, Sem.run_pure, Result.andThen_ok, List.map_toArray, List.map_cons, List.map_nil, hs, hx, hrun]
    exact hK
  rcases hgd with hgd | hgd
  · exact wpList_plain hgd fun _ hK => hk (hK _ _ (h A' c' w' h1 h2 h3))
  · refine wpList_step fun K hK => ?_
    rw [if_pos hgd]
    exact hk (hK _ _ (h A' c' w' h1 h2 h3))

theorem wpList_appB_g {w : World} {ops : Array Oper} {rest : List Oper} {o : Oper} {a : Act} {Q : Exit → Act → World → Prop} (hgd : Region.wanted o (yielded ops a.tmps) = true) (s x : Operand)
    (ho : o.op = .call { callee := .builtin .append, args := #[s, x], argTypes := #[37, 37] })
    (base : Nat) (A : Option Addr) (n c : Nat) (l : List UInt8) (hs : a.eval s = .slice A n c) (hn : n = l.length) (hown : OwnB w base A c l)
    (ad : Addr) (m c' : Nat) (news : List UInt8) (hx : a.eval x = .slice (some ad) m c') (hm : m = news.length) (hnews : ∀ j u, (bc news)[j]? = some u → w.cell? (ad.add j) = some u)
    (hlen : l.length + news.length ≤ 140737488355328) (hbase : base ≤ w.heap.size)
    (h : ∀ A' c' w', OwnB w' base A' c' (l ++ news) → w.grownBy w' (blk A) → (blk A' = blk A ∨ blk A' = some w.heap.size) → wpList Try.prog ops Q rest (a.put o.dst (.slice A' (l.length + news.length) c')) w') :
    wpList Try.prog ops Q (o :: rest) a w := by
  refine wpList_appRd (.inr hgd) s x ho base A n c l hs hn hown (some ad) m c' news hx hm (fun hl => ⟨ad, rfl, fun k hk => hnews k _ (bc_get news k hk)⟩) hlen hbase h

/-- 'string(b)' -/
theorem run_str {w : World} {A : Option Addr} {l : List UInt8} {n : Nat} (cap : Nat) (h : RdB w A l) (hn : n = l.length) : (convert 37 9 (.slice A n cap)).run Try.prog w = .ok (.string ⟨l.toArray⟩) w := by
  subst hn
  rcases l with _ | ⟨x, l⟩
  · show (convert 37 9 (.slice A 0 cap)).run Try.prog w = _
    rw [run_convert_bytes_string w 37 9 5 A 0 cap Try.underlying37 Try.underlying5 Try.underlying9]
    cases A <;> simp [Conv.bytesToString, loadCells, loadCellsFrom] <;> rfl
  · obtain ⟨ad, rfl, hc⟩ := h (by simp)
    exact run_convert_bytes_back w 37 9 5 ad cap (x :: l) Try.underlying37 Try.underlying5 Try.underlying9 (fun j hj => by rw [hc j hj, getD_eq _ _ _ hj])
end Go.Proofs.Ytjmhfjioccljeaa
