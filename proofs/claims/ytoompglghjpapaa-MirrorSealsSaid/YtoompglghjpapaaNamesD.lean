/-
  Words for memory: a row of bytes of the call's own that may bear a mark behind its last cell ('[]byte(s)'); append onto it. Walks: the reference's word, turn, sines.
-/
import Derived.Test.YtoompglghjpapaaMd5C
import Derived.Test.YtoompglghjpapaaSumsB
import Derived.Test.YtoompglghjpapaaOwnS
import Derived.Deep.Onto
import Derived.Deep.DrawnRows
import Derived.Deep.RegionHeld3
import Derived.Laws.OwnMore
import Derived.Lib.SlBytesConst
import Derived.Deep.AppendLies
namespace Go.Proofs.Ytoompglghjpapaa.R4
open Go.RowKit Crc
set_option linter.unusedVariables false
set_option linter.unusedSimpArgs false
attribute [local go_sem ↓] Go.wp_at_zero Go.wp_at_succ

theorem slice_val {A : Option Addr} {n m c : Nat} (h : n = m) : Value.slice A n c = .slice A m c := by rw [h]
theorem add_mk (B o j : Nat) : (⟨B, o, none⟩ : Addr).add j = ⟨B, o + j, none⟩ := by unfold Addr.add; split <;> simp_all
/-- bytes of the call's own, no cell of which is frozen -/
def OwnM (w : World) (base : Nat) (A : Option Addr) (c : Nat) (l : List UInt8) : Prop :=
  (A = none ∧ l = [] ∧ c = 0) ∨ ∃ g, A = some ⟨g, 0, none⟩ ∧ base ≤ g ∧ g < w.heap.size ∧ l.length ≤ c ∧ c ≤ maxLen ∧ (∀ j u, (bc l)[j]? = some u → w.cell? ⟨g, j, none⟩ = some u) ∧
    ∀ j, j < c → (w.cell? ⟨g, j, none⟩).isSome = true ∧ w.frozen? ⟨g, j, none⟩ = false
theorem OwnM.of {w : World} {base c : Nat} {A : Option Addr} {l : List UInt8} (h : OwnB w base A c l) : OwnM w base A c l := by
  rcases h.2 with ⟨hv, h0⟩ | ⟨g, cap, cur, hv, hbg, hg, hnc, hcm, hcs, htake⟩
  · injection hv with hA hn hc
    exact .inl ⟨hA, List.eq_nil_of_length_eq_zero h0, hc⟩
  · injection hv with hA hn hc
    subst hA hc
    refine .inr ⟨g, rfl, hbg, (OwnR.lt h g rfl).2, hnc, hcm, fun j u hu => ?_, fun j hj => ⟨?_, ?_⟩⟩
    · have hj : j < (bc l).length := (List.getElem?_eq_some_iff.1 hu).1
      rw [World.ownsRow.cellAt h j (by rw [bc_length] at hj; omega)]; exact hu
    · rw [cell_of_row w g j cur 5 (0, 0) hg]
      have : j < cur.size := by omega
      simp [this]
    · exact World.ownsRow.frozenAt h j
theorem OwnM.lt {w : World} {base c : Nat} {A : Option Addr} {l : List UInt8} (h : OwnM w base A c l) : ∀ k, blk A = some k → base ≤ k ∧ k < w.heap.size := by
  rcases h with ⟨rfl, _⟩ | ⟨g, rfl, h1, h2, _⟩
  · intro k hk; cases hk
  · intro k hk; cases hk; exact ⟨h1, h2⟩
theorem OwnM.rd {w : World} {base c : Nat} {A : Option Addr} {l : List UInt8} (h : OwnM w base A c l) : RdB w A l := by
  rcases h with ⟨rfl, rfl, _⟩ | ⟨g, rfl, _, _, _, _, hc, _⟩
  · intro h; simp at h
  · intro hl
    refine ⟨_, rfl, fun k hk => ?_⟩
    rw [add_mk, Nat.zero_add]
    exact hc k _ (bc_get _ k hk)
theorem OwnM.block {w w' : World} {base c : Nat} {A : Option Addr} {l : List UInt8} (h : OwnM w base A c l) (hs : w.heap.size ≤ w'.heap.size) (hk : ∀ k, blk A = some k → w'.heap[k]? = w.heap[k]?) : OwnM w' base A c l := by
  rcases h with h | ⟨g, rfl, h1, h2, h3, h4, hc, hf⟩
  · exact .inl h
  · have hb := hk g rfl
    refine .inr ⟨g, rfl, h1, by omega, h3, h4, fun j u hu => ?_, fun j hj => ?_⟩
    · rw [World.cell?_of_block (w := w) (w' := w') (a := ⟨g, j, none⟩) hb]; exact hc j u hu
    · rw [World.cell?_of_block (w := w) (w' := w') (a := ⟨g, j, none⟩) hb, World.frozen?_of_block (w := w) (w' := w') (a := ⟨g, j, none⟩) hb]; exact hf j hj
theorem OwnM.below {w w' : World} {base c : Nat} {A : Option Addr} {l : List UInt8} (h : OwnM w base A c l) (hb : Below w.heap.size w w') : OwnM w' base A c l :=
  h.block hb.size fun k hk => hb.block k (h.lt k hk).2
theorem OwnM.alloc {w : World} {base c : Nat} {A : Option Addr} {l : List UInt8} (h : OwnM w base A c l) (o : Obj) : OwnM (w.alloc o) base A c l := h.below ((Below.refl _ _).alloc (Nat.le_refl _) o)
theorem below_setCells {B b : Nat} {w : World} (hb : B ≤ b) : ∀ (vs : List Value) (o : Nat) (w' : World), Below B w w' → Below B w (w'.setCells b o vs)
  | [], _, _, h => h
  | v :: vs, o, w', h => below_setCells hb vs (o + 1) _ (h.setCell (p := ⟨b, o, none⟩) hb v)
theorem size_setCells {b : Nat} : ∀ (vs : List Value) (o : Nat) (w' : World), (w'.setCells b o vs).heap.size = w'.heap.size
  | [], _, _ => rfl
  | v :: vs, o, w' => by
    have := size_setCells (b := b) vs (o + 1) (w'.setCell ⟨b, o, none⟩ v)
    show ((w'.setCell ⟨b, o, none⟩ v).setCells b (o + 1) vs).heap.size = _
    rw [this]; simp [World.setCell]
/-- append of bytes onto such a row -/
theorem run_appM (w : World) (ty : TypeId) (base : Nat) (A : Option Addr) (c : Nat) (l : List UInt8) (hown : OwnM w base A c l)
    (ad : Addr) (c1 : Nat) (news : List UInt8) (hnews : ∀ j u, (bc news)[j]? = some u → w.cell? (ad.add j) = some u) (hn0 : 0 < news.length) (hlen : l.length + news.length ≤ 140737488355328) (hbase : base ≤ w.heap.size) :
    ∃ A' c' w', (Builtin.append_ #[37, 37] ty #[.slice A l.length c, .slice (some ad) news.length c1]).run Try.prog w = .ok (.slice A' (l.length + news.length) c') w' ∧ OwnM w' base A' c' (l ++ news) ∧ Below base w w' := by
  obtain ⟨i, hi0, hz0, hz1, hz2⟩ := info_parts info_u8
  rcases hown with ⟨rfl, rfl, rfl⟩ | ⟨g, rfl, hbg, hgl, hlc, hcm, hcells, hfree⟩
  · obtain ⟨A', c', w', hrun, h1, h2, _⟩ := run_appRd w ty base none 0 [] (OwnB.nil w base) (some ad) c1 news (fun hl => ⟨ad, rfl, fun k hk => hnews k _ (bc_get news k hk)⟩) hlen hbase
    exact ⟨A', c', w', hrun, OwnM.of h1, ((Below.refl base w)).grown h2 hbase (fun k hk => by cases hk)⟩
  · by_cases hroom : l.length + news.length ≤ c
    · have hsome : ∀ j, j < (bc news).length → (w.cell? ⟨g, 0 + l.length * i.size + j, none⟩).isSome = true := fun j hj => by
        rw [hz1]; rw [bc_length] at hj
        have := (hfree (l.length + j) (by omega)).1
        simpa using this
      have hfr : ∀ j, j < (bc news).length → w.frozen? ⟨g, 0 + l.length * i.size + j, none⟩ = false := fun j hj => by
        rw [hz1]; rw [bc_length] at hj
        have := (hfree (l.length + j) (by omega)).2
        simpa using this
      have hrun := run_append_room_cells (P := Try.prog) w 37 ty 5 i Try.underlying37 hi0 g 0 l.length c ad news.length c1 (bc news) (by rw [bc_length, hz1, Nat.mul_one]) hnews (bc_one _) hroom hsome hfr
      rw [hz1, Nat.mul_one, Nat.zero_add] at hrun hsome
      refine ⟨_, _, _, hrun, .inr ⟨g, rfl, hbg, by rw [size_setCells]; exact hgl, by simp; omega, hcm, fun j u hu => ?_, fun j hj => ⟨?_, ?_⟩⟩, below_setCells hbg _ _ _ (Below.refl _ _)⟩
      · have hj : j < l.length + news.length := by
          have := (List.getElem?_eq_some_iff.1 hu).1
          rw [bc_length, List.length_append] at this; exact this
        by_cases hjl : j < l.length
        · rw [World.cell?_setCells_out g _ _ w ⟨g, j, none⟩ (fun _ _ => .inl (by simp; omega))]
          rw [bc_append, List.getElem?_append_left (by rw [bc_length]; omega)] at hu
          exact hcells j u hu
        · have h1 := World.cell?_setCells_in g (bc news) l.length w hsome (j - l.length) (by rw [bc_length]; omega)
          have e : l.length + (j - l.length) = j := by omega
          rw [e] at h1
          rw [h1]
          rw [bc_append, List.getElem?_append_right (by rw [bc_length]; omega), bc_length, List.getElem?_eq_getElem (by rw [bc_length]; omega)] at hu
          exact hu
      · by_cases hin : l.length ≤ j ∧ j < l.length + news.length
        · have h1 := World.cell?_setCells_in g (bc news) l.length w hsome (j - l.length) (by rw [bc_length]; omega)
          have e : l.length + (j - l.length) = j := by omega
          rw [e] at h1
          rw [h1]; rfl
        · rw [World.cell?_setCells_out g _ _ w ⟨g, j, none⟩ (fun _ _ => by simp only [bc_length]; omega)]
          exact (hfree j hj).1
      · rw [World.frozen?_setCells]
        exact (hfree j hj).2
    · have holds : ∀ j u, (bc l)[j]? = some u → w.cell? ((⟨g, 0, none⟩ : Addr).add j) = some u := fun j u hu => by rw [add_mk, Nat.zero_add]; exact hcells j u hu
      obtain ⟨v', w', hrun, r1, r2⟩ := run_append_arg_grows (P := Try.prog) w 37 ty 5 i (.int .u8 0) 1 1 Try.underlying37 hi0 hz0 hz1 hz2 rfl (by decide) ⟨g, 0, none⟩ l.length c (bc l) (by rw [bc_length]; omega) holds ad news.length c1 (bc news) (by rw [bc_length]; omega) hnews (by omega) (by unfold maxLen; omega) (by omega)
      obtain ⟨A', c', rfl, h6, _⟩ := own_form (r1.mono hbase)
      refine ⟨A', c', w', hrun, OwnM.of ?_, (Below.refl base w).grown r2 hbase (fun k hk => by cases hk)⟩
      unfold OwnB
      rw [bc_append, List.length_append]; exact h6
theorem wpList_appM {w : World} {ops : Array Oper} {rest : List Oper} {o : Oper} {a : Act} {Q : Exit → Act → World → Prop} (hgd : o.guard = none) (s x : Operand)
    (ho : o.op = .call { callee := .builtin .append, args := #[s, x], argTypes := #[37, 37] })
    (base : Nat) (A : Option Addr) (n c : Nat) (l : List UInt8) (hs : a.eval s = .slice A n c) (hn : n = l.length) (hown : OwnM w base A c l)
    (ad : Addr) (m c1 : Nat) (news : List UInt8) (hx : a.eval x = .slice (some ad) m c1) (hm : m = news.length) (hnews : ∀ j u, (bc news)[j]? = some u → w.cell? (ad.add j) = some u) (hn0 : 0 < news.length)
    (hlen : l.length + news.length ≤ 140737488355328) (hbase : base ≤ w.heap.size)
    (h : ∀ A' c' w', OwnM w' base A' c' (l ++ news) → Below base w w' → wpList Try.prog ops Q rest (a.put o.dst (.slice A' (l.length + news.length) c')) w') :
    wpList Try.prog ops Q (o :: rest) a w := by
  subst hn hm
  obtain ⟨A', c', w', hrun, h1, h2⟩ := run_appM w o.type base A c l hown ad c1 news hnews hn0 hlen hbase
  refine wpList_plain hgd fun _ hK => ?_
  unfold Oper.wp execOp
  simp only [ho, resolve, invoke, builtin, Sem.run_bind, Sem.run_pure, Result.andThen_ok, List.map_toArray, List.map_cons, List.map_nil, hs, hx, hrun]
  exact hK _ _ (h A' c' w' h1 h2)
/-- '[]byte(s)' *-/
theorem own_conv (s : ByteArray) (w : World) (hm : s.size ≤ 70368744177664) : ∃ c w', (convert 9 37 (.string s)).run Try.prog w = .ok (.slice (some ⟨w.heap.size, 0, none⟩) s.size c) w' ∧ OwnM w' w.heap.size (some ⟨w.heap.size, 0, none⟩) c s.data.toList ∧ Below w.heap.size w w' := by
  have hr := run_bytes_of_string (P := Try.prog) w 9 37 5 s Try.underlying9 Try.underlying37 Try.underlying5
  have hge := grownCap_ge w s.size 0 5
  have hle := grownCap_le_maxLen w s.size 0 5 (by unfold maxLen; omega)
  generalize grownCap w s.size 0 5 = C at *
  have hsz : (bytesRow s C).size = C := by
    have : s.data.size = s.size := rfl
    simp [bytesRow]; omega
  rw [hsz] at hr
  have hcell : ∀ j, (w.drew.alloc (.cells (bytesRow s C) 5 (C, C + 1))).cell? ⟨w.heap.size, j, none⟩ = (bytesRow s C)[j]? := fun j => World.cell?_alloc_mark w.drew _ _ _ j
  refine ⟨C, _, hr, .inr ⟨w.heap.size, rfl, Nat.le_refl _, by simp, by rw [str_len]; exact hge, hle, fun j u hu => ?_, fun j hj => ⟨?_, ?_⟩⟩, (Below.refl _ _).drew.alloc (Nat.le_refl _) _⟩
  · have hj : j < s.data.size := by
      have := (List.getElem?_eq_some_iff.1 hu).1
      rw [bc_length, str_len] at this; exact this
    rw [hcell, bytesRow_at s C j hj, ← hu, bc_get _ _ (by rw [str_len]; exact hj), str_get s j hj]
    rfl
  · rw [hcell]
    have : j < (bytesRow s C).size := by omega
    simp [this]
  · have hh : (w.drew.alloc (.cells (bytesRow s C) 5 (C, C + 1))).heap[w.heap.size]? = some (.cells (bytesRow s C) 5 (C, C + 1)) := heap_alloc_new w.drew _
    unfold World.frozen?
    rw [hh]
    simp
    omega
theorem and32 (n : Int) (h : -9223372036854775808 ≤ n ∧ n ≤ 9223372036854775807) : bits .and .i64 n 4294967295 = n % 4294967296 := by
  show IntKind.i64.wrap ((BitVec.ofInt 64 n &&& BitVec.ofInt 64 4294967295).toNat : Int) = _
  have e : (BitVec.ofInt 64 4294967295).toNat = 2 ^ 32 - 1 := by decide
  rw [BitVec.toNat_and, e, Nat.and_two_pow_sub_one_eq_mod, BitVec.toNat_ofInt, IntKind.wrap_i64]
  omega
theorem word_any (n : Int) (h : -9223372036854775808 ≤ n ∧ n ≤ 9223372036854775807) (w : World) : Calls Try.prog 61 #[.int .i64 n] w fun e w' => e = .returned (.int .i64 (n % 4294967296)) ∧ w = w' := by
  have ha := and32 n h
  go_enter Try.func61, Try.ntmps61
  go_wp2
  go_ret
  exact ⟨rfl, rfl⟩
theorem turn_at (w : World) : ∀ t : Fin 64, True := fun _ => trivial
set_option maxRecDepth 100000 in
set_option maxHeartbeats 1000000 in
theorem turn_any (t : Nat) (ht : t < 64) (w : World) : Calls Try.prog 62 #[.int .i64 (t : Int)] w fun e w' => e = .returned (.int .i64 ((Md5.turn t : Nat) : Int)) ∧ Below w.heap.size w w' := by
  obtain ⟨p, hp, hp4⟩ : ∃ p : Nat, t / 16 = p ∧ p < 4 := ⟨_, rfl, by omega⟩
  obtain ⟨q, hq, hq4⟩ : ∃ q : Nat, t % 4 = q ∧ q < 4 := ⟨_, rfl, by omega⟩
  have hT : Md5.turn t = Md5.turns.getD (p * 4 + q) 0 := by unfold Md5.turn; rw [hp, hq]
  rw [hT]
  have h1 : (t : Int) / 16 = (p : Int) := by omega
  have h2 : (t : Int) % 4 = (q : Int) := by omega
  clear hT hp hq
  rcases (by omega : p = 0 ∨ p = 1 ∨ p = 2 ∨ p = 3) with e | e | e | e <;> subst e <;>
  rcases (by omega : q = 0 ∨ q = 1 ∨ q = 2 ∨ q = 3) with e | e | e | e <;> subst e
  all_goals
    go_enter Try.func62, Try.ntmps62
    go_wp2
    go_ret
    refine ⟨rfl, ?_⟩
    exact (((((Below.refl w.heap.size w).alloc (Nat.le_refl _) _).alloc (by simp) _).alloc (by simp <;> omega) _).alloc (by simp <;> omega) _).alloc (by simp <;> omega) _
/-- the sines' numbers as cells *-/
def stb : Array Value := ((List.range 64).map fun j => Value.int .i64 ((Md5.sine j).toNat : Int)).toArray
theorem stb_get (t : Nat) (h : t < 64) : stb[t]? = some (.int .i64 ((Md5.sine t).toNat : Int)) := by simp [stb, h]
set_option maxRecDepth 100000 in
set_option maxHeartbeats 1000000 in
theorem refsines_any (w : World) : Calls Try.prog 60 #[] w fun e w' => e = .returned (.slice (some ⟨w.heap.size, 0, none⟩) 64 64) ∧ Blk w' w.heap.size 3 stb ∧ Below w.heap.size w w' := by
  go_enter Try.func60, Try.ntmps60
  go_wp2
  go_ret
  refine ⟨rfl, ?_, (Below.refl _ _).alloc (Nat.le_refl _) _⟩
  exact Blk.new w 3 stb
end Go.Proofs.Ytoompglghjpapaa.R4
