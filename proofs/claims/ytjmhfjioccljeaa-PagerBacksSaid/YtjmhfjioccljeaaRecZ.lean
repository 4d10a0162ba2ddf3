/-
  Rows of records that came in, with a bound on each record's row of numbers: what the sized form says of them.
-/
import Derived.Test.YtjmhfjioccljeaaRowZ
namespace Go.Proofs.Ytjmhfjioccljeaa
open Go.RowKit Go.ChangeShapes Go.WideShapes Go.Deep
set_option linter.unusedVariables false
set_option linter.unusedSimpArgs false

section
variable {H : Type} {enc : TypeId × Value → H} {P : Program} {w : World} {base : Nat} {spare : Nat → Bool} {held : Bool}
theorem weights_get {P : Program} {e : TypeId} : ∀ {l : List (DataW H)} {d : DataW H}, d ∈ l → ∀ n ∈ d.weights P e, n ∈ DataW.weightsAll P e l
  | x :: r, d, hd, n, hn => by
    simp only [DataW.weightsAll, List.mem_append]
    rcases List.mem_cons.1 hd with rfl | h
    · exact .inl hn
    · exact .inr (weights_get h n hn)
theorem weights_slice {P : Program} {t e : TypeId} {es sp : List (DataW H)} (hu : P.underlying t = some (.slice e)) {d : DataW H} (hd : d ∈ es) : ∀ n ∈ d.weights P e, n ∈ (DataW.slice es sp).weights P t := fun n hn => by
  simp only [DataW.weights, hu, List.mem_cons, List.mem_append]
  exact .inr (.inl (weights_get hd n hn))
theorem weights_len {P : Program} {t e : TypeId} {es sp : List (DataW H)} (hu : P.underlying t = some (.slice e)) : (es.length + sp.length) * P.bytesOf e ∈ (DataW.slice es sp).weights P t := by
  simp [DataW.weights, hu]
theorem weights_agg {P : Program} {t : TypeId} {fs : Array Field} {ds : List (DataW H)} (hu : P.underlying t = some (.struct fs)) {j : Nat} {f : Field} {d : DataW H} (hf : fs[j]? = some f) (hd : ds[j]? = some d) : ∀ n ∈ d.weights P f.type, n ∈ (DataW.agg ds).weights P t := fun n hn => by
  simp only [DataW.weights, hu]
  exact DataW.weights_mem_each (j := j) (t := f.type) (by simp [hf]) hd n hn
/-- a slice of numbers that came in, with its bound -/
theorem ints_in2 {W : World} {fuel : Nat} {v : Value} {x : DataW H × List MemPlace} (h : DataW.trod enc Try.prog W base spare held fuel 47 [v] = some x) (hs : ∀ n ∈ x.1.weights Try.prog 47, n ≤ reachBytes) :
    ∃ (pa : Option Addr) (pc : Nat) (picks : List Int), v = .slice pa picks.length pc ∧ RdZ W pa picks ∧ picks.length ≤ pc ∧ pc ≤ maxLen ∧ (∀ x ∈ picks, inI64 x) ∧ picks.length ≤ 17592186044416 := by
  rcases open_ints Try.underlying47 Try.underlying3 (by kernel_rfl) h with ⟨hcs, _⟩ | ⟨a, l, c, zs, hcs, _, hl, hm, hz, hx, hcell, hwz⟩
  · simp at hcs
    subst hcs
    exact ⟨none, 0, [], rfl, RdZ.nil _ _, Nat.le_refl _, Nat.zero_le _, by simp, by simp⟩
  · simp at hcs
    subst hcs
    have hzl : l ≤ zs.length := by rw [hz]; split <;> omega
    have hll : (zs.take l).length = l := by rw [List.length_take]; omega
    have hx1 := congrArg Prod.fst hx
    simp only at hx1
    rw [hx1] at hs
    have h2 := hs _ (weights_len Try.underlying47)
    have h1 : (lits .i64 (zs.take l) : List (DataW H)).length = l := by simp [lits]; omega
    rw [h1, bytesInt] at h2
    unfold reachBytes at h2
    refine ⟨some a, c, zs.take l, by rw [hll], fun _ => ⟨a, rfl, fun k hk => ?_⟩, by rw [hll]; exact hl, hm, fun y hy => ?_, by omega⟩
    · rw [hll] at hk
      rw [hcell k (by omega)]
      simp [List.getD, hk]
    · exact bounds_i64 (hwz y (List.mem_of_mem_take hy))
/-- records that came in: p numbers, a text, a slice of numbers; no such slice takes more than a machine has -/
theorem recs_in2 {W : World} {t e p : Nat} {fs : Array Field} (ht : Try.prog.underlying t = some (.slice e)) (he : Try.prog.underlying e = some (.struct fs)) (ho : oneCellFields Try.prog fs = true) (hC : Try.prog.cellsOf e = fs.size) (hsz : fs.size = p + 2)
    (hi : ∀ j, j < p → ∃ f, fs[j]? = some f ∧ f.type = 3) (hs : ∃ f, fs[p]? = some f ∧ f.type = 9) (hp : ∃ f, fs[p + 1]? = some f ∧ f.type = 47)
    {a : Option Addr} {len cap fuel : Nat} {x : DataW H × List MemPlace} (h : DataW.trod enc Try.prog W base spare held fuel t (Value.slice a len cap).cells.toList = some x) (hwt : ∀ n ∈ x.1.weights Try.prog t, n ≤ reachBytes) :
    ∃ l : List Rec, l.length = len ∧ RdRec p W a l ∧ len ≤ maxLen ∧ len ≤ cap ∧ ∀ i, i < l.length → (l.getD i rec0).picks.length ≤ 17592186044416 := by
  have hcs : (Value.slice a len cap).cells.toList = [.slice a len cap] := by simp [Value.cells]
  rw [hcs] at h
  rcases open_slice_fields ht he ho hC h with ⟨h0, _⟩ | ⟨ad, n, c, m, D, Pl, h0, _, hl, hm, hmm, hxx, hel⟩
  · simp only [List.cons.injEq, Value.slice.injEq, and_true] at h0
    obtain ⟨rfl, rfl, rfl⟩ := h0
    exact ⟨[], rfl, fun i hi => by simp at hi, by simp, by simp, fun i hi => by simp at hi⟩
  · simp only [List.cons.injEq, Value.slice.injEq, and_true] at h0
    obtain ⟨rfl, rfl, rfl⟩ := h0
    have hnm : len ≤ m := by rw [hmm]; split <;> omega
    have hx1 := congrArg Prod.fst hxx
    simp only at hx1
    rw [hx1] at hwt
    have hex : ∀ i, i < len → ∃ r : Rec, RecAt p W ad i r ∧ r.picks.length ≤ 17592186044416 := fun i hil => by
      obtain ⟨ys, fu, hD, _, _, hf⟩ := hel i (by omega)
      obtain ⟨fS, hfS, tS⟩ := hs
      obtain ⟨fP, hfP, tP⟩ := hp
      obtain ⟨vS, yS, cS, _, kS⟩ := hf p fS hfS
      obtain ⟨vP, yP, cP, hyP, kP⟩ := hf (p + 1) fP hfP
      have hwP : ∀ n ∈ yP.1.weights Try.prog 47, n ≤ reachBytes := fun n hn => hwt n (weights_slice ht (d := D i) (List.mem_map.2 ⟨i, List.mem_range.2 hil, rfl⟩) n (by
        rw [hD]
        exact weights_agg he hfP (d := yP.1) (by simp [hyP]) n (by rw [tP]; exact hn)))
      rw [tS] at kS
      rw [tP] at kP
      obtain ⟨s, eS, _, wS⟩ := DataW.trod_string Try.underlying9 kS
      simp only [List.cons.injEq, and_true] at eS
      subst eS
      obtain ⟨pa, pc, picks, rfl, hrd, hcap, htop, hpk, hpl⟩ := ints_in2 kP hwP
      have hints : ∀ j, j < p → ∃ z : Int, W.cell? (ad.add (i * fs.size + j)) = some (.int .i64 z) ∧ inI64 z := fun j hj => by
        obtain ⟨f, hfj, tf⟩ := hi j hj
        obtain ⟨v, y, cc, _, k⟩ := hf j f hfj
        rw [tf] at k
        obtain ⟨z, ez, _, wz⟩ := DataW.trod_int Try.underlying3 k
        simp only [List.cons.injEq, and_true] at ez
        subst ez
        exact ⟨z, cc, bounds_i64 wz⟩
      let g : Nat → Int := fun j => if h : j < p then Classical.choose (hints j h) else 0
      have hg : ∀ j (h : j < p), g j = Classical.choose (hints j h) := fun j h => dif_pos h
      have hat : ∀ j, j < p → ((List.range p).map g).getD j 0 = g j := fun j hj => by simp [List.getD, hj]
      refine ⟨⟨(List.range p).map g, s, pa, pc, picks⟩, ⟨fun j hj => ?_, ?_, ?_, ⟨fun j => ?_, wS, hrd, hcap, htop, hpk⟩⟩, hpl⟩
      · have := (Classical.choose_spec (hints j hj)).1
        rw [← hg j hj, hsz] at this
        unfold Rec.at_
        rw [add_of_add, hat j hj]; exact this
      · rw [add_of_add, ← hsz]; exact cS
      · rw [add_of_add, ← hsz]; exact cP
      · unfold Rec.at_
        by_cases hj : j < p
        · rw [hat j hj, hg j hj]; exact (Classical.choose_spec (hints j hj)).2
        · have : ((List.range p).map g).getD j 0 = 0 := by simp [List.getD, hj]
          rw [this]; unfold inI64; omega
    let f : Nat → Rec := fun i => if h : i < len then Classical.choose (hex i h) else rec0
    have hf : ∀ i (h : i < len), f i = Classical.choose (hex i h) := fun i h => dif_pos h
    have hget : ∀ i, i < len → ((List.range len).map f).getD i rec0 = f i := fun i hil => by simp [List.getD, hil]
    refine ⟨(List.range len).map f, by simp, fun i hi' => ⟨ad, rfl, ?_⟩, by omega, hl, fun i hi' => ?_⟩
    · have hil : i < len := by simpa using hi'
      rw [hget i hil, hf i hil]
      exact (Classical.choose_spec (hex i hil)).1
    · have hil : i < len := by simpa using hi'
      rw [hget i hil, hf i hil]
      exact (Classical.choose_spec (hex i hil)).2
end
/-- what a law's walk is told of a slice of records that came in, in the sized form -/
def IsRec2 (p : Nat) (w : World) (a : Option Addr) (len cap : Nat) (l : List Rec) : Prop := l.length = len ∧ RdRec p w a l ∧ len ≤ maxLen ∧ len ≤ cap ∧ ∀ i, i < l.length → (l.getD i rec0).picks.length ≤ 17592186044416
end Go.Proofs.Ytjmhfjioccljeaa
