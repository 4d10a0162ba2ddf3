/-
  Rows of records that came in: some numbers, a text, a row of numbers.
-/
import Derived.Test.YtjmhfjioccljeaaInts
import Derived.OpenShut
import Derived.Deep.Slices
import Derived.Deep.Fields
import Derived.ChangeSame
import Derived.ChangeArms
import Derived.SizedLaws
namespace Go.Proofs.Ytjmhfjioccljeaa
open Go.RowKit Go.ChangeShapes Go.WideShapes Go.Deep
set_option linter.unusedVariables false
set_option linter.unusedSimpArgs false

structure Rec where
  ints : List Int
  data : ByteArray
  pa : Option Addr
  pc : Nat
  picks : List Int
def rec0 : Rec := ⟨[], ByteArray.empty, none, 0, []⟩
def inI64 (x : Int) : Prop := -9223372036854775808 ≤ x ∧ x ≤ 9223372036854775807
def Rec.at_ (r : Rec) (j : Nat) : Int := r.ints.getD j 0
structure Rec.Good (r : Rec) (w : World) : Prop where
  ints : ∀ j, inI64 (r.at_ j)
  data : r.data.size ≤ maxLen
  rd : RdZ w r.pa r.picks
  cap : r.picks.length ≤ r.pc
  top : r.pc ≤ maxLen
  picks : ∀ x ∈ r.picks, inI64 x
structure RecAt (p : Nat) (w : World) (ad : Addr) (i : Nat) (r : Rec) : Prop where
  ints : ∀ j, j < p → w.cell? ((ad.add (i * (p + 2))).add j) = some (.int .i64 (r.at_ j))
  data : w.cell? ((ad.add (i * (p + 2))).add p) = some (.string r.data)
  picks : w.cell? ((ad.add (i * (p + 2))).add (p + 1)) = some (.slice r.pa r.picks.length r.pc)
  good : r.Good w
/-- records that came in -/
def RdRec (p : Nat) (w : World) (A : Option Addr) (l : List Rec) : Prop := ∀ i, i < l.length → ∃ ad, A = some ad ∧ RecAt p w ad i (l.getD i rec0)
theorem RecAt.below {p : Nat} {w w' : World} {ad : Addr} {i : Nat} {r : Rec} (h : RecAt p w ad i r) (hb : Below w.heap.size w w') : RecAt p w' ad i r :=
  ⟨fun j hj => (hb.cell (World.block_lt_of_cell? _ _ (h.ints j hj))).trans (h.ints j hj), (hb.cell (World.block_lt_of_cell? _ _ h.data)).trans h.data, (hb.cell (World.block_lt_of_cell? _ _ h.picks)).trans h.picks,
    ⟨h.good.ints, h.good.data, h.good.rd.below hb, h.good.cap, h.good.top, h.good.picks⟩⟩
theorem RdRec.below {p : Nat} {w w' : World} {A : Option Addr} {l : List Rec} (h : RdRec p w A l) (hb : Below w.heap.size w w') : RdRec p w' A l := fun i hi => by
  obtain ⟨ad, e, hr⟩ := h i hi
  exact ⟨ad, e, hr.below hb⟩
/-- the picks lie in memory that was there -/
theorem RecAt.pick_lt {p : Nat} {w : World} {ad : Addr} {i : Nat} {r : Rec} (h : RecAt p w ad i r) {x : Addr} (hx : r.pa = some x) (hp : 0 < r.picks.length) : x.block < w.heap.size := by
  obtain ⟨y, e, hc⟩ := h.good.rd hp
  rw [hx] at e; cases e
  have := World.block_lt_of_cell? _ _ (hc 0 hp)
  rwa [block_of_add] at this
section
variable {H : Type} {enc : TypeId × Value → H} {P : Program} {w : World} {base : Nat} {spare : Nat → Bool} {held : Bool}
theorem open_slice_fields {t e : TypeId} {fs : Array Field} {fuel : Nat} {cs : List Value} {x : DataW H × List MemPlace} (ht : P.underlying t = some (.slice e)) (he : P.underlying e = some (.struct fs))
    (hone : oneCellFields P fs = true) (hC : P.cellsOf e = fs.size) (h : DataW.trod enc P w base spare held fuel t cs = some x) :
    (cs = [.slice none 0 0] ∧ x = (.nil, [])) ∨
    ∃ (a : Addr) (len cap m : Nat) (D : Nat → DataW H) (Pl : Nat → List MemPlace), cs = [.slice (some a) len cap] ∧ base ≤ a.block ∧ len ≤ cap ∧ cap ≤ maxLen ∧ m = (if spare a.block then cap else len) ∧
      x = (.slice ((List.range len).map D) ((List.range (m - len)).map fun j => D (len + j)), MemPlace.row a (m * fs.size) ++ (List.range m).flatMap Pl) ∧
      ∀ i, i < m → ∃ (ys : List (DataW H × List MemPlace)) (n : Nat), D i = .agg (ys.map (·.1)) ∧ Pl i = ys.flatMap (·.2) ∧ ys.length = fs.size ∧
        ∀ (j : Nat) (f : Field), fs[j]? = some f → ∃ (v : Value) (y : DataW H × List MemPlace), w.cell? (a.add (i * fs.size + j)) = some v ∧ ys[j]? = some y ∧ DataW.trod enc P w base spare held n f.type [v] = some y := by
  rcases open_slice ht h with h0 | ⟨a, len, cap, m, n, D, Pl, hcs, hb, hl, hm, hmm, hx, hi⟩
  · exact .inl h0
  · refine .inr ⟨a, len, cap, m, D, Pl, hcs, hb, hl, hm, hmm, by rw [hC] at hx; exact hx, fun i him => ?_⟩
    obtain ⟨cs', hc, ht'⟩ := hi i him
    rw [hC] at hc
    obtain ⟨ys, n', hn', hy, hlen, hyl, hf⟩ := DataW.trod_struct he ht'
    obtain ⟨_, hcl, hat⟩ := World.cells?_some hc
    simp only [Prod.mk.injEq] at hy
    refine ⟨ys, n', hy.1, hy.2, hyl, fun j f hj => ?_⟩
    obtain ⟨ho, hk⟩ := hone_of hone j f hj
    have hjl : j < fs.size := (Array.getElem?_eq_some_iff.1 hj).1
    have hcell := hat j hjl
    have hv : cs'[j]? = some (cs'[j]'(by omega)) := List.getElem?_eq_getElem (by omega)
    have h1 := hf j f hj
    rw [ho, hk] at h1
    have hone' : (cs'.drop j).take 1 = [cs'[j]'(by omega)] := by
      rw [List.drop_eq_getElem_cons (by omega)]
      rfl
    rw [hone'] at h1
    have hys : ys[j]? = some (ys[j]'(by omega)) := List.getElem?_eq_getElem (by omega)
    refine ⟨_, _, ?_, hys, h1.trans hys⟩
    rw [← Go.Deep.add_add, hcell, hv]
/-- a slice of numbers that came in -/
theorem ints_in {W : World} {fuel : Nat} {v : Value} {x : DataW H × List MemPlace} (h : DataW.trod enc Try.prog W base spare held fuel 47 [v] = some x) :
    ∃ (pa : Option Addr) (pc : Nat) (picks : List Int), v = .slice pa picks.length pc ∧ RdZ W pa picks ∧ picks.length ≤ pc ∧ pc ≤ maxLen ∧ ∀ x ∈ picks, inI64 x := by
  rcases open_ints Try.underlying47 Try.underlying3 (by kernel_rfl) h with ⟨hcs, _⟩ | ⟨a, l, c, zs, hcs, _, hl, hm, hz, _, hcell, hwz⟩
  · simp at hcs
    subst hcs
    exact ⟨none, 0, [], rfl, RdZ.nil _ _, Nat.le_refl _, Nat.zero_le _, by simp⟩
  · simp at hcs
    subst hcs
    have hzl : l ≤ zs.length := by
      have : zs.length = if spare a.block = true then c else l := by simpa using hz
      rw [this]; split <;> omega
    have hll : (zs.take l).length = l := by rw [List.length_take]; omega
    refine ⟨some a, c, zs.take l, by rw [hll], fun _ => ⟨a, rfl, fun k hk => ?_⟩, by rw [hll]; exact hl, hm, fun y hy => ?_⟩
    · rw [hll] at hk
      rw [hcell k (by omega)]
      simp [List.getD, hk]
    · exact bounds_i64 (hwz y (List.mem_of_mem_take hy))
/-- records that came in: p numbers, a text, a slice of numbers -/
theorem recs_in {W : World} {t e p : Nat} {fs : Array Field} (ht : Try.prog.underlying t = some (.slice e)) (he : Try.prog.underlying e = some (.struct fs)) (ho : oneCellFields Try.prog fs = true) (hC : Try.prog.cellsOf e = fs.size) (hsz : fs.size = p + 2)
    (hi : ∀ j, j < p → ∃ f, fs[j]? = some f ∧ f.type = 3) (hs : ∃ f, fs[p]? = some f ∧ f.type = 9) (hp : ∃ f, fs[p + 1]? = some f ∧ f.type = 47)
    {a : Option Addr} {len cap fuel : Nat} {x : DataW H × List MemPlace} (h : DataW.trod enc Try.prog W base spare held fuel t (Value.slice a len cap).cells.toList = some x) :
    ∃ l : List Rec, l.length = len ∧ RdRec p W a l ∧ len ≤ maxLen ∧ len ≤ cap := by
  have hcs : (Value.slice a len cap).cells.toList = [.slice a len cap] := by simp [Value.cells]
  rw [hcs] at h
  rcases open_slice_fields ht he ho hC h with ⟨h0, _⟩ | ⟨ad, n, c, m, D, Pl, h0, _, hl, hm, hmm, _, hel⟩
  · simp only [List.cons.injEq, Value.slice.injEq, and_true] at h0
    obtain ⟨rfl, rfl, rfl⟩ := h0
    exact ⟨[], rfl, fun i hi => by simp at hi, by simp, by simp⟩
  · simp only [List.cons.injEq, Value.slice.injEq, and_true] at h0
    obtain ⟨rfl, rfl, rfl⟩ := h0
    have hnm : len ≤ m := by rw [hmm]; split <;> omega
    have hex : ∀ i, i < len → ∃ r : Rec, RecAt p W ad i r := fun i hil => by
      obtain ⟨ys, fu, _, _, _, hf⟩ := hel i (by omega)
      obtain ⟨fS, hfS, tS⟩ := hs
      obtain ⟨fP, hfP, tP⟩ := hp
      obtain ⟨vS, yS, cS, _, kS⟩ := hf p fS hfS
      obtain ⟨vP, yP, cP, _, kP⟩ := hf (p + 1) fP hfP
      rw [tS] at kS
      rw [tP] at kP
      obtain ⟨s, eS, _, wS⟩ := DataW.trod_string Try.underlying9 kS
      simp only [List.cons.injEq, and_true] at eS
      subst eS
      obtain ⟨pa, pc, picks, rfl, hrd, hcap, htop, hpk⟩ := ints_in kP
      have hints : ∀ j, j < p → ∃ z : Int, W.cell? (ad.add (i * fs.size + j)) = some (.int .i64 z) ∧ inI64 z := fun j hj => by
        obtain ⟨f, hfj, tf⟩ := hi j hj
        obtain ⟨v, y, cc, _, k⟩ := hf j f hfj
        rw [tf] at k
        obtain ⟨z, ez, _, wz⟩ := DataW.trod_int Try.underlying3 k
        simp only [List.cons.injEq, and_true] at ez
        subst ez
        exact ⟨z, cc, bounds_i64 wz⟩
      let g : Nat → Int := fun j => if h : j < p then Classical.choose (hints j h) else 0
      have hg : ∀ j (h : j < p), g j = Classical.choose (hints j h) := fun j h => dif_pos h
      have hat : ∀ j, j < p → ((List.range p).map g).getD j 0 = g j := fun j hj => by simp [List.getD, hj]
      refine ⟨⟨(List.range p).map g, s, pa, pc, picks⟩, fun j hj => ?_, ?_, ?_, ⟨fun j => ?_, wS, hrd, hcap, htop, hpk⟩⟩
      · have := (Classical.choose_spec (hints j hj)).1
        rw [← hg j hj, hsz] at this
        unfold Rec.at_
        rw [add_of_add, hat j hj]; exact this
      · rw [add_of_add, ← hsz]; exact cS
      · rw [add_of_add, ← hsz]; exact cP
      · unfold Rec.at_
        by_cases hj : j < p
        · rw [hat j hj, hg j hj]; exact (Classical.choose_spec (hints j hj)).2
        · have : ((List.range p).map g).getD j 0 = 0 := by simp [List.getD, hj]
          rw [this]; unfold inI64; omega
    let f : Nat → Rec := fun i => if h : i < len then Classical.choose (hex i h) else rec0
    have hf : ∀ i (h : i < len), f i = Classical.choose (hex i h) := fun i h => dif_pos h
    refine ⟨(List.range len).map f, by simp, fun i hi' => ⟨ad, rfl, ?_⟩, by omega, hl⟩
    have hil : i < len := by simpa using hi'
    have : ((List.range len).map f).getD i rec0 = f i := by simp [List.getD, hil]
    rw [this, hf i hil]
    exact Classical.choose_spec (hex i hil)
end
/-- what a law's walk is told of a slice of records that came in -/
def IsRec (p : Nat) (w : World) (a : Option Addr) (len cap : Nat) (l : List Rec) : Prop := l.length = len ∧ RdRec p w a l ∧ len ≤ maxLen ∧ len ≤ cap
end Go.Proofs.Ytjmhfjioccljeaa
