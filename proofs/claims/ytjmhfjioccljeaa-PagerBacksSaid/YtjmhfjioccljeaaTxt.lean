/-
  Bytes as texts, texts' parts, rows of texts.
-/
import Derived.Test.YtjmhfjioccljeaaOwnS
import Derived.Lib.AppendZeros
namespace Go.Proofs.Ytjmhfjioccljeaa
open Go.RowKit
set_option linter.unusedVariables false
set_option linter.unusedSimpArgs false

/-- bytes as a text -/
def bs (l : List UInt8) : ByteArray := ⟨l.toArray⟩
theorem bs_size (l : List UInt8) : (bs l).size = l.length := by simp [bs, ByteArray.size]
theorem bs_extract (l : List UInt8) (i j : Nat) : (bs l).extract i j = bs ((l.drop i).take (j - i)) := by
  apply ByteArray.ext
  rw [ByteArray.data_extract]
  apply Array.ext'
  simp [bs]
theorem bs_cat (a b : List UInt8) : bs a ++ bs b = bs (a ++ b) := by
  apply ByteArray.ext
  rw [ByteArray.data_append]
  apply Array.ext'
  simp [bs]
theorem slice_bs (W : World) (b : List UInt8) (i j : Int) (a k : Nat) (hi : i = a) (hj : j = (a : Int) + k) (hb : a + k ≤ b.length) :
    (Instr.slice 9 (.string (bs b)) (some (.int .i64 i)) (some (.int .i64 j)) none).run Try.prog W = .ok (.string (bs ((b.drop a).take k))) W := by
  have hsz := bs_size b
  subst hi hj
  rw [run_slice_string W 9 _ .i64 .i64 _ _ Try.underlying9 (by omega) (by omega) (by omega), bs_extract]
  have e1 : ((a : Int)).toNat = a := by omega
  have e2 : ((a : Int) + (k : Int)).toNat = a + k := by omega
  rw [e1, e2, Nat.add_sub_cancel_left]
theorem slice_bsh (W : World) (b : List UInt8) (j : Int) (k : Nat) (hj : j = k) (hb : k ≤ b.length) :
    (Instr.slice 9 (.string (bs b)) none (some (.int .i64 j)) none).run Try.prog W = .ok (.string (bs (b.take k))) W := by
  have hsz := bs_size b
  subst hj
  rw [run_slice_string_h W 9 _ Try.underlying9 .i64 _ (by omega) (by omega), bs_extract]
  simp
theorem slice_bsl (W : World) (b : List UInt8) (j : Int) (k : Nat) (hj : j = k) (hb : k ≤ b.length) :
    (Instr.slice 9 (.string (bs b)) (some (.int .i64 j)) none none).run Try.prog W = .ok (.string (bs (b.drop k))) W := by
  subst hj
  have hsz := bs_size b
  rw [run_slice_string_l W 9 _ Try.underlying9 .i64 _ (by omega) (by omega), bs_extract, hsz]
  have e1 : ((k : Int)).toNat = k := by omega
  rw [e1, List.take_of_length_le (by rw [List.length_drop]; exact Nat.le_refl _)]
theorem bs_data (s : ByteArray) : bs s.data.toList = s := rfl
theorem data_bs (l : List UInt8) : (bs l).data.toList = l := rfl
theorem bs_inj {a b : List UInt8} (h : bs a = bs b) : a = b := by rw [← data_bs a, ← data_bs b, h]
theorem toList_bs (l : List UInt8) : (bs l).toList = l := ByteArray.toList_mk ..
theorem bs_beq (a b : List UInt8) : ((bs a).toList == (bs b).toList) = decide (a = b) := by
  rw [toList_bs, toList_bs]
  by_cases h : a = b
  · subst h; simp
  · rw [decide_eq_false h, beq_eq_false_iff_ne]; exact h
/-! ### rows of texts -/
def sc (l : List (List UInt8)) : List Value := l.map fun r => .string (bs r)
theorem sc_length (l : List (List UInt8)) : (sc l).length = l.length := by simp [sc]
theorem sc_append (a b : List (List UInt8)) : sc (a ++ b) = sc a ++ sc b := by simp [sc]
theorem sc_get (l : List (List UInt8)) (k : Nat) (h : k < l.length) : (sc l)[k]? = some (.string (bs (l.getD k []))) := by
  unfold sc
  rw [List.getElem?_map, List.getElem?_eq_getElem h, getD_eq _ _ _ h]; rfl
theorem sc_one (l : List (List UInt8)) : ∀ u ∈ sc l, u.oneCell' = true := by
  intro u hu
  simp only [sc, List.mem_map] at hu
  obtain ⟨x, _, rfl⟩ := hu
  rfl
/-- reads as texts -/
def RdW (w : World) (A : Option Addr) (l : List (List UInt8)) : Prop :=
  0 < l.length → ∃ ad, A = some ad ∧ ∀ k, k < l.length → w.cell? (ad.add k) = some (.string (bs (l.getD k [])))
def OwnW (w : World) (base : Nat) (A : Option Addr) (c : Nat) (l : List (List UInt8)) : Prop := OwnR w base 9 1 A l.length c (sc l)
section
variable {w w' : World} {A : Option Addr} {c base : Nat} {l : List (List UInt8)} {F G : Nat → Prop}
theorem RdW.nil (w : World) (A : Option Addr) : RdW w A [] := fun h => by simp at h
theorem RdW.at_ {k : Nat} (h : RdW w A l) (hk : k < l.length) : ∃ ad, A = some ad ∧ w.cell? (ad.add k) = some (.string (bs (l.getD k []))) := by
  obtain ⟨ad, e, hc⟩ := h (by omega)
  exact ⟨ad, e, hc k hk⟩
theorem OwnW.rd (h : OwnW w base A c l) : RdW w A l := fun hl => by
  obtain ⟨g, hg⟩ := OwnR.some_ h hl
  refine ⟨_, hg, fun k hk => ?_⟩
  obtain ⟨ad, e, hc⟩ := OwnR.cellAt h k _ (sc_get l k hk)
  rw [hg] at e
  cases e
  exact hc
theorem OwnW.nil (w : World) (base : Nat) : OwnW w base none 0 [] := OwnR.nil w base _ _
theorem RdW.lt (h : RdW w A l) (hl : 0 < l.length) {ad : Addr} (e : A = some ad) : ad.block < w.heap.size := by
  obtain ⟨ad', e', hc⟩ := h hl
  rw [e] at e'; cases e'
  have := World.block_lt_of_cell? _ _ (hc 0 hl)
  rwa [block_of_add] at this
theorem RdW.keep (h : RdW w A l) (hk : ∀ ad, A = some ad → ad.block < w.heap.size → w'.heap[ad.block]? = w.heap[ad.block]?) : RdW w' A l := fun hl => by
  obtain ⟨ad, e, hc⟩ := h hl
  exact ⟨ad, e, fun k hkl => (World.cell?_of_block (w := w) (by rw [block_of_add]; exact hk ad e (h.lt hl e))).trans (hc k hkl)⟩
theorem RdW.below (h : RdW w A l) (hb : Below w.heap.size w w') : RdW w' A l := h.keep fun ad _ hl => hb.block _ hl
theorem RdW.drew (h : RdW w A l) : RdW w.drew A l := h
theorem RdW.drewN (h : RdW w A l) (n : Nat) : RdW (w.drewN n) A l := h
theorem RdW.take (h : RdW w A l) (k : Nat) : RdW w A (l.take k) := fun hl => by
  rw [List.length_take] at hl
  obtain ⟨ad, e, hc⟩ := h (by omega)
  refine ⟨ad, e, fun j hj => ?_⟩
  rw [List.length_take] at hj
  rw [hc j (by omega), getD_eq _ _ _ (by omega), getD_eq _ _ _ (by rw [List.length_take]; omega), List.getElem_take]
end
theorem info_s : (Try.prog.info? 9).map (fun i => (i.zero, i.size, i.bytes)) = some (some (.string ByteArray.empty), 1, 16) := by kernel_rfl
/-- '[]string{}' -/
theorem ownw_empty (w : World) {base : Nat} (hb : base ≤ w.heap.size) : OwnW (w.alloc (.cells #[] 9)) base (some ⟨w.heap.size, 0, none⟩) 0 [] :=
  World.ownsRow_lit w #[] 0 hb (by simp) rfl
/-- append of texts that lie anywhere (nil, too) onto a row of the call's own -/
theorem run_appW (w : World) (ty : TypeId) (base : Nat) (A : Option Addr) (c : Nat) (l : List (List UInt8)) (hown : OwnW w base A c l)
    (A1 : Option Addr) (c1 : Nat) (news : List (List UInt8)) (hr : RdW w A1 news) (hlen : l.length + news.length ≤ 4398046511104) (hbase : base ≤ w.heap.size) :
    ∃ A' c' w', (Builtin.append_ #[22, 22] ty #[.slice A l.length c, .slice A1 news.length c1]).run Try.prog w = .ok (.slice A' (l.length + news.length) c') w' ∧ OwnW w' base A' c' (l ++ news) ∧ w.grownBy w' (blk A) ∧
      (blk A' = blk A ∨ blk A' = some w.heap.size) := by
  obtain ⟨i, hi0, hz0, hz1, hz2⟩ := info_parts info_s
  rcases A1 with _ | ad
  · have h0 : news = [] := by
      cases news with
      | nil => rfl
      | cons x l => obtain ⟨_, e, _⟩ := hr (by simp); cases e
    subst h0
    exact ⟨A, c, w, run_append_of_nil Try.prog w base 22 ty 9 i 1 Try.underlying22 hi0 _ l.length (sc l) hown c1, by simpa using hown, World.grownBy.refl w _, .inl rfl⟩
  · have hcells : ∀ j u, (sc news)[j]? = some u → w.cell? (ad.add j) = some u := by
      intro j u hu
      have hj : j < news.length := by
        have := (List.getElem?_eq_some_iff.1 hu).1
        rwa [sc_length] at this
      obtain ⟨ad', e, hc⟩ := hr (by omega)
      cases e
      rw [sc_get _ _ hj] at hu
      rw [hc j hj]; exact hu
    obtain ⟨v', w', hrun, h2, h3, _, h5⟩ := run_append_own_at (P := Try.prog) w base 22 ty 9 i (.string ByteArray.empty) 1 16 Try.underlying22 hi0 hz0 hz1 hz2 rfl (by decide) _ l.length (sc l) hown ad news.length c1 (sc news) (by rw [sc_length]; omega) hcells (sc_one _) (by unfold maxLen; omega) (by omega) hbase
    obtain ⟨A', c', rfl, h6, h7⟩ := own_form h2
    rw [ownBlock_slice] at h3
    rw [ownBlock_slice, ownBlock_slice] at h5
    refine ⟨A', c', w', hrun, ?_, h3, h5⟩
    unfold OwnW
    rw [sc_append, List.length_append]; exact h6
theorem wpList_appW {w : World} {ops : Array Oper} {rest : List Oper} {o : Oper} {a : Act} {Q : Exit → Act → World → Prop} (hgd : o.guard = none ∨ Region.wanted o (yielded ops a.tmps) = true) (s x : Operand)
    (ho : o.op = .call { callee := .builtin .append, args := #[s, x], argTypes := #[22, 22] })
    (base : Nat) (A : Option Addr) (n c : Nat) (l : List (List UInt8)) (hs : a.eval s = .slice A n c) (hn : n = l.length) (hown : OwnW w base A c l)
    (A1 : Option Addr) (m c1 : Nat) (news : List (List UInt8)) (hx : a.eval x = .slice A1 m c1) (hm : m = news.length) (hr : RdW w A1 news)
    (hlen : l.length + news.length ≤ 4398046511104) (hbase : base ≤ w.heap.size)
    (h : ∀ A' c' w', OwnW w' base A' c' (l ++ news) → w.grownBy w' (blk A) → (blk A' = blk A ∨ blk A' = some w.heap.size) → wpList Try.prog ops Q rest (a.put o.dst (.slice A' (n + m) c')) w') :
    wpList Try.prog ops Q (o :: rest) a w := by
  subst hn hm
  obtain ⟨A', c', w', hrun, h1, h2, h3⟩ := run_appW w o.type base A c l hown A1 c1 news hr hlen hbase
  have hk : ∀ {K : Act → World → Prop}, K (a.put o.dst (.slice A' (l.length + news.length) c')) w' → o.wp Try.prog a w K Q := by
    intro K hK
    unfold Oper.wp execOp
    simp only [ho, resolve, invoke, builtin, Sem.run_bind, Sem.run_pure, Result.andThen_ok, List.map_toArray, List.map_cons, List.map_nil, hs, hx, hrun]
    exact hK
  rcases hgd with hgd | hgd
  · exact wpList_plain hgd fun _ hK => hk (hK _ _ (h A' c' w' h1 h2 h3))
  · refine wpList_step fun K hK => ?_
    rw [if_pos hgd]
    exact hk (hK _ _ (h A' c' w' h1 h2 h3))

theorem rdw_one (w : World) (r : List UInt8) (v : Value) (hv : v = .string (bs r)) : RdW (w.alloc (.cells #[v] 9)) (some ⟨w.heap.size, 0, none⟩) [r] := fun _ => by
  subst hv
  exact ⟨_, rfl, fun k hk => cells_new w (sc [r]) _ k _ (sc_get [r] k hk)⟩
/-- .. where the new row lies -/
theorem run_appS_at (w : World) (ty : TypeId) (base : Nat) (A : Option Addr) (c : Nat) (l : List UInt8) (hown : OwnB w base A c l) (news : List UInt8)
    (hlen : l.length + news.length ≤ 140737488355328) (hbase : base ≤ w.heap.size) :
    ∃ A' c' w', (Builtin.append_ #[37, 9] ty #[.slice A l.length c, .string ⟨news.toArray⟩]).run Try.prog w = .ok (.slice A' (l.length + news.length) c') w' ∧ OwnB w' base A' c' (l ++ news) ∧ w.grownBy w' (blk A) ∧
      (blk A' = blk A ∨ blk A' = some w.heap.size) := by
  obtain ⟨A', c', w', hrun, h1, h2⟩ := run_appS w ty base A c l hown news hlen hbase
  refine ⟨A', c', w', hrun, h1, h2, ?_⟩
  obtain ⟨i, hi0, hz0, hz1, hz2⟩ := info_u8_parts
  have hsz : (⟨news.toArray⟩ : ByteArray).size = news.length := str_size news
  have hx0 : (bc l).length = l.length := bc_length l
  rcases hown.2 with ⟨e0, e1⟩ | ⟨g, cap, cur, e0, hbg, hg, hnc, hcm, hcs, htake⟩
  · have eA : A = none := by injection e0
    have ec : c = 0 := by injection e0
    have el : l.length = 0 := by injection e0
    subst eA ec
    rw [el] at hrun
    by_cases hm : news.length = 0
    · have hf := Lib.run_firstCells_string (P := Try.prog) (w := w) 1 ⟨news.toArray⟩
      rw [hsz, hm] at hf
      have hr : (Builtin.append_ #[37, 9] ty #[.slice none 0 0, .string ⟨news.toArray⟩]).run Try.prog w = .ok (.slice none 0 0) w := by
        simp [Builtin.append_, run_underlying Try.underlying37, run_underlying Try.underlying9, sizeOf, typeInfo, hi0, hz1, Builtin.lenOf, hsz, hm, hf]
      rw [hr] at hrun
      injection hrun with hv _
      injection hv with hv1 _ _
      rw [← hv1]; exact .inl rfl
    · have hr := run_append_nil_string (P := Try.prog) w 37 9 ty 5 i (.int .u8 0) Try.underlying37 Try.underlying9 hi0 hz0 ⟨news.toArray⟩ (by omega) (by omega) (by rw [hz2]; omega)
      rw [hr] at hrun
      injection hrun with hv _
      injection hv with hv1 _ _
      rw [← hv1]; exact .inr rfl
  · have eA : A = some ⟨g, 0, none⟩ := by injection e0
    have ec : c = cap := by injection e0
    subst eA ec
    have hcs' : cur.size = c := by simpa using hcs
    by_cases hroom : l.length + news.length ≤ c
    · have hr := Lib.run_append_room_string (P := Try.prog) w 37 9 ty 5 i Try.underlying37 Try.underlying9 hi0 hz1 g l.length c cur hg ⟨news.toArray⟩ (by omega) (by omega)
      rw [hr] at hrun
      injection hrun with hv _
      injection hv with hv1 _ _
      rw [← hv1]; exact .inl rfl
    · have holds : ∀ j u, (bc l)[j]? = some u → w.cell? ((⟨g, 0, none⟩ : Addr).add j) = some u := World.ownsRow.cells (g := g) hown rfl
      have hr := Lib.run_append_grow_string (P := Try.prog) w 37 9 ty 5 i (.int .u8 0) Try.underlying37 Try.underlying9 hi0 hz0 ⟨g, 0, none⟩ l.length c (bc l) (by rw [hz1]; simpa using hx0) holds ⟨news.toArray⟩ (by omega) (by omega) (by rw [hz2]; exact growslice_fits (by omega) (by omega))
      rw [hr] at hrun
      injection hrun with hv _
      injection hv with hv1 _ _
      rw [← hv1]; exact .inr rfl
/-- append of a text's bytes -/
theorem wpList_appS {w : World} {ops : Array Oper} {rest : List Oper} {o : Oper} {a : Act} {Q : Exit → Act → World → Prop} (hgd : o.guard = none) (s x : Operand)
    (ho : o.op = .call { callee := .builtin .append, args := #[s, x], argTypes := #[37, 9] })
    (base : Nat) (A : Option Addr) (n c : Nat) (l : List UInt8) (hs : a.eval s = .slice A n c) (hn : n = l.length) (hown : OwnB w base A c l)
    (news : ByteArray) (hx : a.eval x = .string news) (hlen : l.length + news.size ≤ 140737488355328) (hbase : base ≤ w.heap.size)
    (h : ∀ A' c' w', OwnB w' base A' c' (l ++ news.data.toList) → w.grownBy w' (blk A) → (blk A' = blk A ∨ blk A' = some w.heap.size) → wpList Try.prog ops Q rest (a.put o.dst (.slice A' (n + news.size) c')) w') :
    wpList Try.prog ops Q (o :: rest) a w := by
  subst hn
  have hz : news.data.toList.length = news.size := str_len news
  obtain ⟨A', c', w', hrun, h1, h2, h3⟩ := run_appS_at w o.type base A c l hown news.data.toList (by omega) hbase
  rw [hz] at hrun
  exact Lib.wpList_append_run w hgd s x _ _ ho _ _ hs hx _ _ hrun (h A' c' w' h1 h2 h3)
end Go.Proofs.Ytjmhfjioccljeaa
