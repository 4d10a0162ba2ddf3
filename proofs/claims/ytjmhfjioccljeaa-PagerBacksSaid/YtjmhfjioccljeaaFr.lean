/-
  Words for memory: what a call may turn ('Step'), rows of bytes with an owner, a map from numbers to whatever values.
-/
import Derived.Test.YtjmhfjioccljeaaOwn
import Derived.Maps.OwnSet
import Derived.Lib.SlKeysI
namespace Go.Proofs.Ytjmhfjioccljeaa
open Go.RowKit
set_option linter.unusedVariables false
set_option linter.unusedSimpArgs false

/-- from w to w' only blocks of F and new ones have turned; what G holds was F's or is new -/
structure Step (F G : Nat → Prop) (w w' : World) : Prop where
  os : w'.os = w.os
  tape : w'.tape = w.tape
  output : w'.output = w.output
  size : w.heap.size ≤ w'.heap.size
  block : ∀ i, i < w.heap.size → ¬ F i → w'.heap[i]? = w.heap[i]?
  fresh : ∀ i, G i → F i ∨ w.heap.size ≤ i
def Dis (F E : Nat → Prop) : Prop := ∀ i, F i → E i → False
def Lt (F : Nat → Prop) (n : Nat) : Prop := ∀ i, F i → i < n
def Ge (F : Nat → Prop) (n : Nat) : Prop := ∀ i, F i → n ≤ i
def Un (F E : Nat → Prop) (i : Nat) : Prop := F i ∨ E i
def No (i : Nat) : Prop := False
/-- what E holds is as it was -/
def Same (E : Nat → Prop) (w w' : World) : Prop := ∀ i, E i → w'.heap[i]? = w.heap[i]?
section
variable {F G H E : Nat → Prop} {w w' w1 w2 : World} {B : Nat}
theorem Step.refl (F : Nat → Prop) (w : World) : Step F F w w := ⟨rfl, rfl, rfl, Nat.le_refl _, fun _ _ _ => rfl, fun _ h => .inl h⟩
theorem Step.trans (h : Step F G w w1) (k : Step G H w1 w2) : Step F H w w2 :=
  ⟨k.os.trans h.os, k.tape.trans h.tape, k.output.trans h.output, Nat.le_trans h.size k.size,
    fun i hi hF => (k.block i (Nat.lt_of_lt_of_le hi h.size) fun hG => by rcases h.fresh i hG with h1 | h1; exact hF h1; omega).trans (h.block i hi hF),
    fun i hi => by
      rcases k.fresh i hi with h1 | h1
      · exact h.fresh i h1
      · exact .inr (Nat.le_trans h.size h1)⟩
theorem Step.of_below (h : Below w.heap.size w w') (F : Nat → Prop) : Step F F w w' := ⟨h.os, h.tape, h.output, h.size, fun i hi _ => h.block i hi, fun _ h => .inl h⟩
theorem Step.below (h : Step F G w w') (hF : Ge F B) (hB : B ≤ w.heap.size) : Below B w w' :=
  ⟨h.os, h.tape, h.output, h.size, fun i hi => h.block i (by omega) fun hf => by have := hF i hf; omega⟩
theorem Step.none (h : Step No G w w') : Below w.heap.size w w' := ⟨h.os, h.tape, h.output, h.size, fun i hi => h.block i hi fun h => h⟩
theorem Step.frame (h : Step F G w w') (E : Nat → Prop) : Step (Un F E) (Un G E) w w' :=
  ⟨h.os, h.tape, h.output, h.size, fun i hi hn => h.block i hi fun hf => hn (.inl hf), fun i hi => by
    rcases hi with hi | hi
    · rcases h.fresh i hi with h1 | h1
      · exact .inl (.inl h1)
      · exact .inr h1
    · exact .inl (.inr hi)⟩
theorem Step.frameL (h : Step F G w w') (E : Nat → Prop) : Step (Un E F) (Un E G) w w' :=
  ⟨h.os, h.tape, h.output, h.size, fun i hi hn => h.block i hi fun hf => hn (.inr hf), fun i hi => by
    rcases hi with hi | hi
    · exact .inl (.inl hi)
    · rcases h.fresh i hi with h1 | h1
      · exact .inl (.inr h1)
      · exact .inr h1⟩
theorem Step.wide (h : Step F G w w') (hF : ∀ i, F i → E i) (hG : ∀ i, H i → G i ∨ E i) : Step E H w w' :=
  ⟨h.os, h.tape, h.output, h.size, fun i hi hn => h.block i hi fun hf => hn (hF i hf), fun i hi => by
    rcases hG i hi with h1 | h1
    · rcases h.fresh i h1 with h2 | h2
      · exact .inl (hF i h2)
      · exact .inr h2
    · exact .inl h1⟩
theorem Step.ge (h : Step F G w w') (hF : Ge F B) (hB : B ≤ w.heap.size) : Ge G B := fun i hi => by
  rcases h.fresh i hi with h1 | h1
  · exact hF i h1
  · omega
theorem Step.dis (h : Step F G w w') (hd : Dis F E) (hl : Lt E w.heap.size) : Dis G E := fun i hi he => by
  rcases h.fresh i hi with h1 | h1
  · exact hd i h1 he
  · have := hl i he; omega
theorem Step.same (h : Step F G w w') (hd : Dis F E) (hl : Lt E w.heap.size) : Same E w w' := fun i hi => h.block i (hl i hi) fun hf => hd i hf hi
theorem Step.lt (h : Step F G w w') (hl : Lt E w.heap.size) : Lt E w'.heap.size := fun i hi => Nat.lt_of_lt_of_le (hl i hi) h.size
theorem Step.at_ (h : Step F G w w') {i : Nat} (hi : i < w.heap.size) (hn : ¬ F i) : w'.heap[i]? = w.heap[i]? := h.block i hi hn
theorem Same.of_below (h : Below w.heap.size w w') (hl : Lt E w.heap.size) : Same E w w' := fun i hi => h.block i (hl i hi)
theorem Same.trans (h : Same E w w1) (k : Same E w1 w2) : Same E w w2 := fun i hi => (k i hi).trans (h i hi)
theorem Same.sub (h : Same E w w') (hs : ∀ i, F i → E i) : Same F w w' := fun i hi => h i (hs i hi)
theorem Dis.symm (h : Dis F E) : Dis E F := fun i a b => h i b a
theorem Dis.un (h : Dis F E) (k : Dis G E) : Dis (Un F G) E := fun i a b => by rcases a with a | a; exact h i a b; exact k i a b
theorem Dis.un_right (h : Dis E F) (k : Dis E G) : Dis E (Un F G) := fun i a b => by rcases b with b | b; exact h i a b; exact k i a b
theorem Lt.un (h : Lt F B) (k : Lt G B) : Lt (Un F G) B := fun i a => by rcases a with a | a; exact h i a; exact k i a
theorem Ge.un (h : Ge F B) (k : Ge G B) : Ge (Un F G) B := fun i a => by rcases a with a | a; exact h i a; exact k i a
theorem dis_of_ge (h : Lt F B) (k : Ge E B) : Dis F E := fun i a b => by have := h i a; have := k i b; omega
theorem same_heap {i : Nat} {o : Option Obj} (h : Same E w w') (hi : E i) (hw : w.heap[i]? = o) : w'.heap[i]? = o := (h i hi).trans hw
theorem Step.alloc (h : Step F G w w1) (o : Obj) : Step F (Un G fun i => i = w1.heap.size) w (w1.alloc o) :=
  ⟨h.os, h.tape, h.output, Nat.le_trans h.size (by simp), fun i hi hn => (Below.heap_alloc w1 o i (Nat.lt_of_lt_of_le hi h.size)).trans (h.block i hi hn), fun i hi => by
    rcases hi with hi | hi
    · exact h.fresh i hi
    · exact .inr (by rw [hi]; exact h.size)⟩
theorem Step.alloc' (h : Step F G w w1) (o : Obj) : Step F G w (w1.alloc o) :=
  ⟨h.os, h.tape, h.output, Nat.le_trans h.size (by simp), fun i hi hn => (Below.heap_alloc w1 o i (Nat.lt_of_lt_of_le hi h.size)).trans (h.block i hi hn), h.fresh⟩
theorem Step.setCell (h : Step F G w w1) {a : Addr} (ha : F a.block ∨ w.heap.size ≤ a.block) (u : Value) : Step F G w (w1.setCell a u) :=
  ⟨h.os, h.tape, h.output, by simpa [World.setCell] using h.size, fun i hi hn => (Below.heap_setCell w1 a u i (by
    rintro rfl
    rcases ha with ha | ha
    · exact hn ha
    · omega)).trans (h.block i hi hn), h.fresh⟩
theorem Step.drewN (h : Step F G w w1) (n : Nat) : Step F G w (w1.drewN n) := ⟨h.os, h.tape, h.output, h.size, h.block, h.fresh⟩
theorem Step.drew (h : Step F G w w1) : Step F G w w1.drew := ⟨h.os, h.tape, h.output, h.size, h.block, h.fresh⟩
theorem Step.grown (h : Step F G w w1) {row : Option Nat} (hg : w1.grownBy w2 row) (hr : ∀ k, row = some k → F k ∨ w.heap.size ≤ k) : Step F G w w2 :=
  ⟨hg.os.trans h.os, hg.tape.trans h.tape, hg.output.trans h.output, Nat.le_trans h.size hg.size, fun i hi hn => (hg.block i (Nat.lt_of_lt_of_le hi h.size) (fun e => by
    rcases hr i e.symm with h1 | h1
    · exact hn h1
    · omega)).trans (h.block i hi hn), h.fresh⟩
theorem Step.then_below (h : Step F G w w1) (hb : Below w1.heap.size w1 w2) : Step F G w w2 := h.trans (Step.of_below hb G)
theorem Step.regroup (h : Step F G w w') (hG : ∀ i, H i → G i ∨ w.heap.size ≤ i) : Step F H w w' :=
  ⟨h.os, h.tape, h.output, h.size, h.block, fun i hi => by
    rcases hG i hi with h1 | h1
    · exact h.fresh i h1
    · exact .inr h1⟩
end
theorem Blk.same {w w' : World} {g : Nat} {t : TypeId} {cs : Array Value} {E : Nat → Prop} (h : Blk w g t cs) (hs : Same E w w') (hg : E g) : Blk w' g t cs := (hs g hg).trans h
theorem Blk.below_ {w w' : World} {g : Nat} {t : TypeId} {cs : Array Value} (h : Blk w g t cs) (hb : Below w.heap.size w w') : Blk w' g t cs := (hb.block g h.lt).trans h
theorem Blk.step {w w' : World} {g : Nat} {t : TypeId} {cs : Array Value} {F G : Nat → Prop} (h : Blk w g t cs) (hs : Step F G w w') (hg : ¬ F g) : Blk w' g t cs := (hs.block g h.lt hg).trans h
theorem RdB.step {w w' : World} {A : Option Addr} {l : List UInt8} {F G : Nat → Prop} (h : RdB w A l) (hs : Step F G w w') (hd : ∀ ad, A = some ad → ¬ F ad.block) : RdB w' A l := fun hl => by
  obtain ⟨ad, rfl, hc⟩ := h hl
  refine ⟨ad, rfl, fun k hk => ?_⟩
  have hlt : ad.block < w.heap.size := by have := World.block_lt_of_cell? _ _ (hc 0 hl); rwa [block_of_add] at this
  exact (World.cell?_of_block (w := w) (by rw [block_of_add]; exact hs.block _ hlt (hd ad rfl))).trans (hc k hk)

/-! ### a map from numbers to whatever values -/
/-- each value reads as itself -/
def Rv (v : Value) : Option (DataW Value × List MemPlace) := some (.held v, [])
/-- the map in block b holds f's values, at the numbers below n -/
def MapAt (w : World) (t : TypeId) (b n : Nat) (f : Nat → Option Value) : Prop :=
  ∃ (D : DataW Value) (m : Nat), w.ownsMap Try.prog t Rv b m D ∧ (∀ k : Int, Maps.has D (.int .i64 k) = true ↔ ∃ s : Nat, k = (s : Int) ∧ (f s).isSome = true) ∧
    (∀ (s : Nat) v, f s = some v → ∀ z, D.atKey (.int .i64 (s : Int)) z = .held v) ∧ (∀ s v, f s = some v → s < n) ∧ n ≤ 1048576
section
variable {w w' : World} {t : TypeId} {b n : Nat} {f : Nat → Option Value}
theorem MapAt.lt (h : MapAt w t b n f) : b < w.heap.size := by obtain ⟨D, m, h, _⟩ := h; exact h.lt
theorem MapAt.keep (h : MapAt w t b n f) (hb : w'.heap[b]? = w.heap[b]?) : MapAt w' t b n f := by
  obtain ⟨D, m, ⟨es, c, h0, h1⟩, h2⟩ := h
  exact ⟨D, m, ⟨es, c, hb.trans h0, h1⟩, h2⟩
theorem MapAt.congr (h : MapAt w t b n f) {g : Nat → Option Value} (hg : ∀ s, f s = g s) : MapAt w t b n g := by
  have : f = g := funext hg
  rwa [← this]
theorem MapAt.made (w : World) (t : TypeId) (hn : n ≤ 1048576) : MapAt (w.alloc (.map #[] 0)) t w.heap.size n fun _ => none :=
  ⟨.map [], 0, World.ownsMap_made w _ _ _, fun k => by simp [Maps.has], fun s v h => by simp at h, fun s v h => by simp at h, hn⟩
theorem i64_wf {k : Nat} (h : k < 9223372036854775808) : (Lit.int .i64 (k : Int)).wf = true := WalkArith.wf_i64 (by omega)
variable {mt e : TypeId}
/-- 'v, ok := m[k]' -/
theorem MapAt.look_ok (h : MapAt w t b n f) (ht : Try.prog.underlying t = some (.int .i64)) (hm : Try.prog.underlying mt = some (.map t e)) {z : Value} (hz : (zeroValue e).run Try.prog w = .ok z w) (s : Nat) (hs : s < 9223372036854775808) :
    (Instr.lookup mt (.map (some b)) (.int .i64 (s : Int)) true).run Try.prog w = .ok (.tuple #[(f s).getD z, .bool (f s).isSome]) w := by
  obtain ⟨D, m, hown, hk, hv, hn, hN⟩ := h
  obtain ⟨v, ps, hr, hR⟩ := hown.look_ok (Maps.int_keyed ht) hm hz (zd := .held z) (zp := []) rfl (Maps.keyOf_int_mk ht (i64_wf hs))
  rw [hr]
  unfold Rv at hR
  cases hf : f s with
  | none =>
    have h0 : Maps.has D (.int .i64 (s : Int)) = false := by
      rw [Bool.eq_false_iff]; intro h1
      obtain ⟨s', e, h2⟩ := (hk _).1 h1
      have : s' = s := by omega
      subst this; rw [hf] at h2; simp at h2
    rw [Maps.atKey_of_not_has h0] at hR
    have : v = z := by simpa using congrArg (fun x => x.map Prod.fst) hR
    rw [h0, this]; rfl
  | some u =>
    have h0 : Maps.has D (.int .i64 (s : Int)) = true := (hk _).2 ⟨s, rfl, by rw [hf]; rfl⟩
    rw [hv s u hf] at hR
    have : v = u := by simpa using congrArg (fun x => x.map Prod.fst) hR
    rw [h0, this]; rfl
/-- 'm[k]' -/
theorem MapAt.look (h : MapAt w t b n f) (ht : Try.prog.underlying t = some (.int .i64)) (hm : Try.prog.underlying mt = some (.map t e)) {z : Value} (hz : (zeroValue e).run Try.prog w = .ok z w) (s : Nat) (hs : s < 9223372036854775808) :
    (Instr.lookup mt (.map (some b)) (.int .i64 (s : Int)) false).run Try.prog w = .ok ((f s).getD z) w := by
  obtain ⟨D, m, hown, hk, hv, hn, hN⟩ := h
  obtain ⟨v, ps, hr, hR⟩ := hown.lookup (Maps.int_keyed ht) hm hz (zd := .held z) (zp := []) rfl (Maps.keyOf_int_mk ht (i64_wf hs))
  rw [hr]
  unfold Rv at hR
  cases hf : f s with
  | none =>
    have h0 : Maps.has D (.int .i64 (s : Int)) = false := by
      rw [Bool.eq_false_iff]; intro h1
      obtain ⟨s', e, h2⟩ := (hk _).1 h1
      have : s' = s := by omega
      subst this; rw [hf] at h2; simp at h2
    rw [Maps.atKey_of_not_has h0] at hR
    have : v = z := by simpa using congrArg (fun x => x.map Prod.fst) hR
    rw [this]; rfl
  | some u =>
    rw [hv s u hf] at hR
    have : v = u := by simpa using congrArg (fun x => x.map Prod.fst) hR
    rw [this]; rfl
/-- the numbers at which f has a value -/
def keysOf (f : Nat → Option Value) (n : Nat) : List Nat := (List.range n).filter fun s => (f s).isSome
theorem keys_perm {D : DataW Value} {m : Nat} (hown : w.ownsMap Try.prog t Rv b m D) (ht : Try.prog.underlying t = some (.int .i64)) (hk : ∀ k : Int, Maps.has D (.int .i64 k) = true ↔ ∃ s : Nat, k = (s : Int) ∧ (f s).isSome = true)
    (hn : ∀ s v, f s = some v → s < n) : ((keysOf f n).map fun s : Nat => (s : Int)).Perm (intKeys D) := by
  obtain ⟨es, hD, hpw, _⟩ := hown.entries (Maps.int_keyed ht)
  obtain ⟨es', hD', hko⟩ := hown.keysOf
  obtain rfl : es = es' := by rw [hD] at hD'; simpa using hD'
  subst hD
  refine perm_intKeys hpw (fun p hp => by obtain ⟨v, hv⟩ := hko p hp; obtain ⟨x, _, hx, _⟩ := Maps.keyOf_i64 ht hv; exact ⟨x, hx⟩) ?_ fun x => ?_
  · refine List.pairwise_map.2 ((List.nodup_range (n := n)).filter _ |>.imp ?_)
    intro a c h e; exact h (by omega)
  · rw [hk x, List.mem_map]
    constructor
    · rintro ⟨s, hs, rfl⟩
      exact ⟨s, rfl, (List.mem_filter.1 hs).2⟩
    · rintro ⟨s, rfl, hs⟩
      refine ⟨s, List.mem_filter.2 ⟨List.mem_range.2 ?_, hs⟩, rfl⟩
      obtain ⟨v, hv⟩ := Option.isSome_iff_exists.1 hs
      exact hn s v hv
theorem size_keys (D : DataW Value) (h : Maps.IsMap D) : (intKeys D).length = Maps.size D := by
  obtain ⟨es, rfl⟩ := h
  simp [intKeys, Maps.size]
theorem keysOf_le (f : Nat → Option Value) (n : Nat) : (keysOf f n).length ≤ n := by
  have := List.length_filter_le (fun s => (f s).isSome) (List.range n)
  simpa [keysOf] using this
theorem own_tight {D : DataW Value} {m : Nat} (h : w.ownsMap Try.prog t Rv b m D) : w.ownsMap Try.prog t Rv b (Maps.size D) D := by
  obtain ⟨es, c, hb, F, hs, rfl⟩ := h
  refine ⟨es, c, hb, F, ?_, rfl⟩
  have e1 : Maps.size (DataW.map ((es.toList.map (WideElems.rg Try.prog t Rv)).foldr DataW.insert [])) = es.size := by simp [Maps.size, length_sorted]
  rw [e1]; exact Nat.le_refl _
/-- what 'slices.Sorted(maps.Keys(m))' asks -/
theorem MapAt.own (h : MapAt w t b n f) (ht : Try.prog.underlying t = some (.int .i64)) : ∃ (D : DataW Value) (m : Nat), w.ownsMap Try.prog t Rv b m D ∧ m ≤ n ∧ Maps.size D ≤ n ∧ ((keysOf f n).map fun s : Nat => (s : Int)).Perm (intKeys D) := by
  obtain ⟨D, m, hown, hk, hv, hn, hN⟩ := h
  have hp := keys_perm hown ht hk hn
  have h1 := hp.length_eq
  rw [size_keys D hown.isMap, List.length_map] at h1
  have h2 := keysOf_le f n
  exact ⟨D, Maps.size D, own_tight hown, by omega, by omega, hp⟩
theorem sorted_keys (f : Nat → Option Value) (n : Nat) {ss : List Int} {D : DataW Value} (hs : ss.Perm (intKeys D)) (hp : ((keysOf f n).map fun s : Nat => (s : Int)).Perm (intKeys D)) :
    ss.mergeSort (fun x y => decide (x ≤ y)) = (keysOf f n).map fun s : Nat => (s : Int) := by
  have h := mergeSort_of_perm_i (hs.trans hp.symm)
  show ss.mergeSort leI = _
  rw [h]
  apply List.mergeSort_of_pairwise
  refine List.pairwise_map.2 ?_
  refine ((List.pairwise_lt_range (n := n)).filter _).imp ?_
  intro a c hlt
  simp only [leI, decide_eq_true_eq]
  omega
/-- 'm[k] = v' -/
theorem MapAt.store (h : MapAt w t b n f) (ht : Try.prog.underlying t = some (.int .i64)) (hm : Try.prog.underlying mt = some (.map t e)) (s : Nat) (hs : s < n) (v : Value) :
    ∃ w', (Instr.mapUpdate mt (.map (some b)) (.int .i64 (s : Int)) v).run Try.prog w = .ok () w' ∧ MapAt w' t b n (fun x => if x = s then some v else f x) ∧ w.grownBy w' (some b) ∧ w'.heap.size = w.heap.size := by
  have hN : n ≤ 1048576 := by obtain ⟨_, _, _, _, _, _, hN⟩ := h; exact hN
  obtain ⟨_, _, hown0, hk, hv, hn, _⟩ := h
  have hp := keys_perm hown0 ht hk hn
  have h1 := hp.length_eq
  rw [size_keys _ hown0.isMap, List.length_map] at h1
  have h2 := keysOf_le f n
  have hown := own_tight hown0
  obtain ⟨w', hr, ho, hg⟩ := hown.store (Maps.int_keyed ht) hm (by unfold maxLen; omega) (Maps.keyOf_int_mk (a := (s : Int)) ht (i64_wf (by omega))) (val := v) (d := .held v) (ps := []) rfl
  have hsz : w'.heap.size = w.heap.size := by
    obtain ⟨es, c, es', c', _, rfl⟩ := hg
    simp [ChangeMaps.setBlock]
  refine ⟨w', hr, ⟨_, _, ho, fun k => ?_, fun x u hx z => ?_, fun x u hx => ?_, hN⟩, hg.grown, hsz⟩
  · by_cases hks : k = (s : Int)
    · subst hks
      rw [Maps.has_put_same hown.isMap (k := .int .i64 (s : Int)) trivial]
      exact ⟨fun _ => ⟨s, rfl, by simp⟩, fun _ => rfl⟩
    · rw [Maps.has_put_other (k := .int .i64 (s : Int)) (by intro e; exact hks (by simpa using e)), hk k]
      constructor
      · rintro ⟨x, rfl, hx⟩
        exact ⟨x, rfl, by show (if x = s then some v else f x).isSome = true; rw [if_neg (by omega)]; exact hx⟩
      · rintro ⟨x, rfl, hx⟩
        exact ⟨x, rfl, by have hx : (if x = s then some v else f x).isSome = true := hx; rw [if_neg (by omega)] at hx; exact hx⟩
  · have hx : (if x = s then some v else f x) = some u := hx
    by_cases hxs : x = s
    · subst hxs
      rw [if_pos rfl] at hx
      cases hx
      exact Maps.atKey_put_same hown.isMap (k := .int .i64 (x : Int)) trivial _ _
    · rw [if_neg hxs] at hx
      have hne : Lit.int .i64 (x : Int) ≠ Lit.int .i64 (s : Int) := fun e => hxs (by
        have : (x : Int) = (s : Int) := by simpa using e
        omega)
      rw [Maps.atKey_put_other hne]
      exact hv x u hx z
  · by_cases hxs : x = s
    · subst hxs; exact hs
    · have hx : (if x = s then some v else f x) = some u := hx
      rw [if_neg hxs] at hx; exact hn x u hx
/-- 'clear(m)' -/
theorem MapAt.clear (h : MapAt w t b n f) (hm : Try.prog.underlying mt = some (.map t e)) :
    ∃ w', (∀ ty, (Builtin.clear_ #[mt] ty #[.map (some b)]).run Try.prog w = .ok (.tuple #[]) w') ∧ MapAt w' t b n (fun _ => none) ∧ w.grownBy w' (some b) ∧ w'.heap.size = w.heap.size := by
  obtain ⟨D, m, ⟨es, c, hb, F, hs, hD⟩, hk, hv, hn, hN⟩ := h
  refine ⟨{ w with heap := w.heap.setIfInBounds b (.map #[] c) }, fun ty => ?_, ⟨.map [], 0, ⟨#[], c, ChangeMaps.heap_setBlock_same hb _, ⟨by simp, MapKept.stamped_empty c, by simp⟩, Nat.le_refl _, rfl⟩, fun k => by simp [Maps.has], fun s v h => by simp at h, fun s v h => by simp at h, hN⟩,
    ⟨rfl, rfl, rfl, by simp, fun i _ hi => ChangeMaps.heap_setBlock_other hb _ (fun e => hi (by rw [e]))⟩, by simp⟩
  simp [Builtin.clear_, run_underlying hm, MapKept.run_getObj_map hb, MapKept.run_setObj_map _ hb, Result.andThen]
end
end Go.Proofs.Ytjmhfjioccljeaa
