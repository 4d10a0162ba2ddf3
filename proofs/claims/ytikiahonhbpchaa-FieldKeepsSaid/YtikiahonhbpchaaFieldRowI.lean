/-
  From what a row's opening tells of a slice of items that came in to 'RdI'.
-/
import Derived.Test.YtikiahonhbpchaaFieldRow
import Derived.Deep.Slices
import Derived.Deep.Fields
import Derived.ChangeSame
import Derived.ChangeArms
namespace Go.Proofs.Ytikiahonhbpchaa
open Go.RowKit Fld Go.ChangeShapes Go.WideShapes Go.Deep
set_option linter.unusedVariables false
set_option linter.unusedSimpArgs false

section
variable {H : Type} {enc : TypeId × Value → H} {P : Program} {w : World} {base : Nat} {spare : Nat → Bool} {held : Bool}
theorem open_slice_fields {t e : TypeId} {fs : Array Field} {fuel : Nat} {cs : List Value} {x : DataW H × List MemPlace} (ht : P.underlying t = some (.slice e)) (he : P.underlying e = some (.struct fs))
    (hone : oneCellFields P fs = true) (hC : P.cellsOf e = fs.size) (h : DataW.trod enc P w base spare held fuel t cs = some x) :
    (cs = [.slice none 0 0] ∧ x = (.nil, [])) ∨
    ∃ (a : Addr) (len cap m : Nat) (D : Nat → DataW H) (Pl : Nat → List MemPlace), cs = [.slice (some a) len cap] ∧ base ≤ a.block ∧ len ≤ cap ∧ cap ≤ maxLen ∧ m = (if spare a.block then cap else len) ∧
      x = (.slice ((List.range len).map D) ((List.range (m - len)).map fun j => D (len + j)), MemPlace.row a (m * fs.size) ++ (List.range m).flatMap Pl) ∧
      ∀ i, i < m → ∃ (ys : List (DataW H × List MemPlace)) (n : Nat), D i = .agg (ys.map (·.1)) ∧ Pl i = ys.flatMap (·.2) ∧ ys.length = fs.size ∧
        ∀ (j : Nat) (f : Field), fs[j]? = some f → ∃ (v : Value) (y : DataW H × List MemPlace), w.cell? (a.add (i * fs.size + j)) = some v ∧ ys[j]? = some y ∧ DataW.trod enc P w base spare held n f.type [v] = some y := by
  rcases open_slice ht h with h0 | ⟨a, len, cap, m, n, D, Pl, hcs, hb, hl, hm, hmm, hx, hi⟩
  · exact .inl h0
  · refine .inr ⟨a, len, cap, m, D, Pl, hcs, hb, hl, hm, hmm, by rw [hC] at hx; exact hx, fun i him => ?_⟩
    obtain ⟨cs', hc, ht'⟩ := hi i him
    rw [hC] at hc
    obtain ⟨ys, n', hn', hy, hlen, hyl, hf⟩ := DataW.trod_struct he ht'
    obtain ⟨_, hcl, hat⟩ := World.cells?_some hc
    simp only [Prod.mk.injEq] at hy
    refine ⟨ys, n', hy.1, hy.2, hyl, fun j f hj => ?_⟩
    obtain ⟨ho, hk⟩ := hone_of hone j f hj
    have hjl : j < fs.size := (Array.getElem?_eq_some_iff.1 hj).1
    have hcell := hat j hjl
    have hv : cs'[j]? = some (cs'[j]'(by omega)) := List.getElem?_eq_getElem (by omega)
    have h1 := hf j f hj
    rw [ho, hk] at h1
    have hone' : (cs'.drop j).take 1 = [cs'[j]'(by omega)] := by
      rw [List.drop_eq_getElem_cons (by omega)]
      rfl
    rw [hone'] at h1
    have hys : ys[j]? = some (ys[j]'(by omega)) := List.getElem?_eq_getElem (by omega)
    refine ⟨_, _, ?_, hys, h1.trans hys⟩
    rw [← Go.Deep.add_add, hcell, hv]
/-- a row of items that came in -/
theorem items_in {W : World} {a : Option Addr} {len cap fuel : Nat} {x : DataW H × List MemPlace} 
    (h : DataW.trod enc Try.prog W base spare held fuel 24 (Value.slice a len cap).cells.toList = some x) :
    ∃ l : List It, l.length = len ∧ RdI W a l ∧ l.length ≤ maxLen ∧ l.length ≤ cap ∧ ∀ i ∈ l, i.str.length ≤ maxLen ∧ Ranged i := by
  obtain ⟨fs, f0, f1, f2, hfs, g0, g1, g2, t0, t1, t2, ho, hC, hfl⟩ : ∃ fs f0 f1 f2, Try.prog.underlying 30 = some (.struct fs) ∧ fs[0]? = some f0 ∧ fs[1]? = some f1 ∧ fs[2]? = some f2 ∧ f0.type = 3 ∧ f1.type = 3 ∧ f2.type = 9 ∧
      oneCellFields Try.prog fs = true ∧ Try.prog.cellsOf 30 = fs.size ∧ fs.size = 3 := ⟨_, _, _, _, Try.underlying30, rfl, rfl, rfl, rfl, rfl, rfl, by kernel_rfl, by kernel_rfl, rfl⟩
  have hcs : (Value.slice a len cap).cells.toList = [.slice a len cap] := by simp [Value.cells]
  rw [hcs] at h
  rcases open_slice_fields Try.underlying24 hfs ho hC h with ⟨h0, _⟩ | ⟨ad, n, c, m, D, Pl, h0, _, hl, hm, hmm, _, hi⟩
  · simp only [List.cons.injEq, Value.slice.injEq, and_true] at h0
    obtain ⟨rfl, rfl, rfl⟩ := h0
    exact ⟨[], rfl, fun h => by simp [ic] at h, by simp, by simp, by simp⟩
  · simp only [List.cons.injEq, Value.slice.injEq, and_true] at h0
    obtain ⟨rfl, rfl, rfl⟩ := h0
    have hnm : len ≤ m := by rw [hmm]; split <;> omega
    have hex : ∀ i, i < len → ∃ it : It, W.cell? (ad.add (3 * i)) = some (.int .i64 it.kind) ∧ W.cell? (ad.add (3 * i + 1)) = some (.int .i64 it.num) ∧ W.cell? (ad.add (3 * i + 2)) = some (.string ⟨it.str.toArray⟩) ∧ it.str.length ≤ maxLen ∧ Ranged it := fun i hil => by
      obtain ⟨ys, fu, _, _, _, hf⟩ := hi i (by omega)
      obtain ⟨v0, y0, c0, _, k0⟩ := hf 0 f0 g0
      obtain ⟨v1, y1, c1, _, k1⟩ := hf 1 f1 g1
      obtain ⟨v2, y2, c2, _, k2⟩ := hf 2 f2 g2
      rw [t0] at k0
      rw [t1] at k1
      rw [t2] at k2
      obtain ⟨n0, e0, _, w0⟩ := DataW.trod_int Try.underlying3 k0
      obtain ⟨n1, e1, _, w1⟩ := DataW.trod_int Try.underlying3 k1
      obtain ⟨s2, e2, _, w2⟩ := DataW.trod_string Try.underlying9 k2
      simp only [List.cons.injEq, and_true] at e0 e1 e2
      subst e0 e1 e2
      rw [hfl, Nat.mul_comm] at c0 c1 c2
      refine ⟨⟨n0, n1, s2.data.toList⟩, by simpa using c0, c1, ?_, ?_, ?_⟩
      · simpa using c2
      · simpa [str_len] using w2
      · have := bounds_i64 w1
        unfold Ranged
        simp only
        omega
    let f : Nat → It := fun i => if h : i < len then Classical.choose (hex i h) else none_
    have hf : ∀ i (h : i < len), f i = Classical.choose (hex i h) := fun i h => dif_pos h
    have hll : ((List.range len).map f).length = len := by simp
    have hget : ∀ k, k < len → ((List.range len).map f).getD k none_ = f k := fun k hk => by
      rw [getD_eq _ _ _ (by rw [hll]; exact hk)]; simp
    refine ⟨(List.range len).map f, hll, fun _ => ⟨ad, rfl, fun j u hu => ?_⟩, by rw [hll]; omega, by rw [hll]; exact hl, ?_⟩
    · have hj : j < len * 3 := by
        have := (List.getElem?_eq_some_iff.1 hu).1
        rwa [ic_length, hll] at this
      have hk : j / 3 < len := by omega
      obtain ⟨q0, q1, q2⟩ := ic_get ((List.range len).map f) (j / 3) (by rw [hll]; exact hk)
      rw [hget _ hk, hf _ hk] at q0 q1 q2
      obtain ⟨p0, p1, p2, _, _⟩ := Classical.choose_spec (hex _ hk)
      rcases (by omega : j = 3 * (j / 3) ∨ j = 3 * (j / 3) + 1 ∨ j = 3 * (j / 3) + 2) with e | e | e
      · rw [e] at hu ⊢
        rw [q0] at hu
        cases hu; exact p0
      · rw [e] at hu ⊢
        rw [q1] at hu
        cases hu; exact p1
      · rw [e] at hu ⊢
        rw [q2] at hu
        cases hu; exact p2
    · intro i hi
      simp only [List.mem_map, List.mem_range] at hi
      obtain ⟨k, hk, rfl⟩ := hi
      rw [hf _ hk]
      obtain ⟨_, _, _, p3, p4⟩ := Classical.choose_spec (hex _ hk)
      exact ⟨p3, p4⟩
/-- and how many elements its reading has -/
theorem items_datum {W : World} {a : Option Addr} {len cap fuel : Nat} {x : DataW H × List MemPlace}
    (h : DataW.trod enc Try.prog W base spare held fuel 24 (Value.slice a len cap).cells.toList = some x) :
    len = 0 ∨ ∃ es sp, x.1 = .slice es sp ∧ es.length = len := by
  obtain ⟨fs, hfs, ho, hC⟩ : ∃ fs, Try.prog.underlying 30 = some (.struct fs) ∧ oneCellFields Try.prog fs = true ∧ Try.prog.cellsOf 30 = fs.size := ⟨_, Try.underlying30, by kernel_rfl, by kernel_rfl⟩
  have hcs : (Value.slice a len cap).cells.toList = [.slice a len cap] := by simp [Value.cells]
  rw [hcs] at h
  rcases open_slice_fields Try.underlying24 hfs ho hC h with ⟨h0, _⟩ | ⟨ad, n, c, m, D, Pl, h0, _, hl, hm, hmm, hx, _⟩
  · simp only [List.cons.injEq, Value.slice.injEq, and_true] at h0
    exact .inl h0.2.1
  · simp only [List.cons.injEq, Value.slice.injEq, and_true] at h0
    obtain ⟨rfl, rfl, rfl⟩ := h0
    exact .inr ⟨_, _, by rw [hx], by simp⟩
end
theorem bytesItem : Try.prog.bytesOf 30 = 32 := by kernel_rfl
/-- what a law's walk is told of a slice of items that came in -/
def IsItems (w : World) (a : Option Addr) (len cap : Nat) (l : List It) : Prop := l.length = len ∧ RdI w a l ∧ l.length ≤ maxLen ∧ l.length ≤ cap ∧ ∀ i ∈ l, i.str.length ≤ maxLen ∧ Ranged i
/-- the same, and the form's own reach -/
def IsItemsR (w : World) (a : Option Addr) (len cap : Nat) (l : List It) : Prop := (l.length = len ∧ RdI w a l ∧ l.length ≤ maxLen ∧ l.length ≤ cap ∧ ∀ i ∈ l, i.str.length ≤ maxLen ∧ Ranged i) ∧ l.length ≤ 4398046511104
end Go.Proofs.Ytikiahonhbpchaa
