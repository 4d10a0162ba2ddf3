/-
  Words for memory: a row of bytes of the call's own that may bear a mark behind its last cell ('[]byte(s)').
-/
import Derived.Test.YtjmhfjioccljeaaOwn
import Derived.Deep.Onto
import Derived.Lib.Hide
namespace Go.Proofs.Ytjmhfjioccljeaa
open Go.RowKit
set_option linter.unusedVariables false
set_option linter.unusedSimpArgs false

/-- bytes of the call's own, no cell of which is frozen -/
def OwnM (w : World) (base : Nat) (A : Option Addr) (c : Nat) (l : List UInt8) : Prop :=
  (A = none ∧ l = [] ∧ c = 0) ∨ ∃ g, A = some ⟨g, 0, none⟩ ∧ base ≤ g ∧ g < w.heap.size ∧ l.length ≤ c ∧ c ≤ maxLen ∧ (∀ j u, (bc l)[j]? = some u → w.cell? ⟨g, j, none⟩ = some u) ∧
    ∀ j, j < c → (w.cell? ⟨g, j, none⟩).isSome = true ∧ w.frozen? ⟨g, j, none⟩ = false
theorem OwnM.of {w : World} {base c : Nat} {A : Option Addr} {l : List UInt8} (h : OwnB w base A c l) : OwnM w base A c l := by
  rcases h.2 with ⟨hv, h0⟩ | ⟨g, cap, cur, hv, hbg, hg, hnc, hcm, hcs, htake⟩
  · injection hv with hA hn hc
    exact .inl ⟨hA, List.eq_nil_of_length_eq_zero h0, hc⟩
  · injection hv with hA hn hc
    subst hA hc
    refine .inr ⟨g, rfl, hbg, (OwnR.lt h g rfl).2, hnc, hcm, fun j u hu => ?_, fun j hj => ⟨?_, ?_⟩⟩
    · have hj : j < (bc l).length := (List.getElem?_eq_some_iff.1 hu).1
      rw [World.ownsRow.cellAt h j (by rw [bc_length] at hj; omega)]; exact hu
    · rw [cell_of_row w g j cur 5 (0, 0) hg]
      have : j < cur.size := by omega
      simp [this]
    · exact World.ownsRow.frozenAt h j
theorem OwnM.lt {w : World} {base c : Nat} {A : Option Addr} {l : List UInt8} (h : OwnM w base A c l) : ∀ k, blk A = some k → base ≤ k ∧ k < w.heap.size := by
  rcases h with ⟨rfl, _⟩ | ⟨g, rfl, h1, h2, _⟩
  · intro k hk; cases hk
  · intro k hk; cases hk; exact ⟨h1, h2⟩
theorem OwnM.rd {w : World} {base c : Nat} {A : Option Addr} {l : List UInt8} (h : OwnM w base A c l) : RdB w A l := by
  rcases h with ⟨rfl, rfl, _⟩ | ⟨g, rfl, _, _, _, _, hc, _⟩
  · intro h; simp at h
  · intro hl
    refine ⟨_, rfl, fun k hk => ?_⟩
    have e0 : (⟨g, 0, none⟩ : Addr).add k = ⟨g, k, none⟩ := by unfold Addr.add; split <;> simp_all
    rw [e0]
    exact hc k _ (bc_get _ k hk)
theorem OwnM.block {w w' : World} {base c : Nat} {A : Option Addr} {l : List UInt8} (h : OwnM w base A c l) (hs : w.heap.size ≤ w'.heap.size) (hk : ∀ k, blk A = some k → w'.heap[k]? = w.heap[k]?) : OwnM w' base A c l := by
  rcases h with h | ⟨g, rfl, h1, h2, h3, h4, hc, hf⟩
  · exact .inl h
  · have hb := hk g rfl
    refine .inr ⟨g, rfl, h1, by omega, h3, h4, fun j u hu => ?_, fun j hj => ?_⟩
    · rw [World.cell?_of_block (w := w) (w' := w') (a := ⟨g, j, none⟩) hb]; exact hc j u hu
    · rw [World.cell?_of_block (w := w) (w' := w') (a := ⟨g, j, none⟩) hb, World.frozen?_of_block (w := w) (w' := w') (a := ⟨g, j, none⟩) hb]; exact hf j hj
theorem OwnM.below {w w' : World} {base c : Nat} {A : Option Addr} {l : List UInt8} (h : OwnM w base A c l) (hb : Below w.heap.size w w') : OwnM w' base A c l :=
  h.block hb.size fun k hk => hb.block k (h.lt k hk).2
theorem OwnM.alloc {w : World} {base c : Nat} {A : Option Addr} {l : List UInt8} (h : OwnM w base A c l) (o : Obj) : OwnM (w.alloc o) base A c l := h.below ((Below.refl _ _).alloc (Nat.le_refl _) o)
/-- '[]byte(s)' *-/
theorem own_conv (s : ByteArray) (w : World) (hm : s.size ≤ 70368744177664) : ∃ c w', (convert 9 37 (.string s)).run Try.prog w = .ok (.slice (some ⟨w.heap.size, 0, none⟩) s.size c) w' ∧ OwnM w' w.heap.size (some ⟨w.heap.size, 0, none⟩) c s.data.toList ∧ Below w.heap.size w w' := by
  have hr := run_bytes_of_string (P := Try.prog) w 9 37 5 s Try.underlying9 Try.underlying37 Try.underlying5
  have hge := grownCap_ge w s.size 0 5
  have hle := grownCap_le_maxLen w s.size 0 5 (by unfold maxLen; omega)
  generalize grownCap w s.size 0 5 = C at *
  have hsz : (bytesRow s C).size = C := by
    have : s.data.size = s.size := rfl
    simp [bytesRow]; omega
  rw [hsz] at hr
  have hcell : ∀ j, (w.drew.alloc (.cells (bytesRow s C) 5 (C, C + 1))).cell? ⟨w.heap.size, j, none⟩ = (bytesRow s C)[j]? := fun j => World.cell?_alloc_mark w.drew _ _ _ j
  refine ⟨C, _, hr, .inr ⟨w.heap.size, rfl, Nat.le_refl _, by simp, by rw [str_len]; exact hge, hle, fun j u hu => ?_, fun j hj => ⟨?_, ?_⟩⟩, (Below.refl _ _).drew.alloc (Nat.le_refl _) _⟩
  · have hj : j < s.data.size := by
      have := (List.getElem?_eq_some_iff.1 hu).1
      rw [bc_length, str_len] at this; exact this
    rw [hcell, bytesRow_at s C j hj, ← hu, bc_get _ _ (by rw [str_len]; exact hj), str_get s j hj]
    rfl
  · rw [hcell]
    have : j < (bytesRow s C).size := by omega
    simp [this]
  · have hh : (w.drew.alloc (.cells (bytesRow s C) 5 (C, C + 1))).heap[w.heap.size]? = some (.cells (bytesRow s C) 5 (C, C + 1)) := heap_alloc_new w.drew _
    unfold World.frozen?
    rw [hh]
    simp
    omega
/-- the capacity that '[]byte(s)' draws, and the world behind it -/
def convC (s : ByteArray) (w : World) : Nat := grownCap w s.size 0 5
def convW (s : ByteArray) (w : World) : World := w.drew.alloc (.cells (bytesRow s (grownCap w s.size 0 5)) 5 ((bytesRow s (grownCap w s.size 0 5)).size, (bytesRow s (grownCap w s.size 0 5)).size + 1))
theorem conv_run (s : ByteArray) (w : World) : (convert 9 37 (.string s)).run Try.prog w = .ok (.slice (some ⟨w.heap.size, 0, none⟩) s.size (convC s w)) (convW s w) :=
  run_bytes_of_string (P := Try.prog) w 9 37 5 s Try.underlying9 Try.underlying37 Try.underlying5
theorem conv_own (s : ByteArray) (w : World) (hm : s.size ≤ 70368744177664) : OwnM (convW s w) w.heap.size (some ⟨w.heap.size, 0, none⟩) (convC s w) s.data.toList := by
  obtain ⟨c, w', h1, h2, _⟩ := own_conv s w hm
  rw [conv_run] at h1
  injection h1 with h3 h4
  injection h3 with _ _ h5
  subst h4; subst h5
  exact h2
theorem conv_below (s : ByteArray) (w : World) : Below w.heap.size w (convW s w) := (Below.refl _ _).drew.alloc (Nat.le_refl _) _
theorem conv_cell {s : ByteArray} {w : World} {x : Addr} {v : Value} (h : w.cell? x = some v) : (convW s w).cell? x = some v :=
  ((conv_below s w).cell (World.block_lt_of_cell? _ _ h)).trans h
theorem conv_size (s : ByteArray) (w : World) : (convW s w).heap.size = w.heap.size + 1 := by simp [convW]
theorem conv_cap (s : ByteArray) (w : World) (hm : s.size ≤ 70368744177664) : s.size ≤ convC s w ∧ convC s w ≤ maxLen := by
  rcases conv_own s w hm with ⟨h, _⟩ | ⟨g, _, _, _, h1, h2, _⟩
  · cases h
  · rw [str_len] at h1; exact ⟨h1, h2⟩
/-- a store into such a row -/
theorem OwnM.set_ {w : World} {base g c : Nat} {l : List UInt8} (h : OwnM w base (some ⟨g, 0, none⟩) c l) (j : Nat) (hj : j < l.length) (y : UInt8) : OwnM (w.setCell ⟨g, j, none⟩ (.int .u8 (y.toNat : Int))) base (some ⟨g, 0, none⟩) c (l.set j y) := by
  rcases h with ⟨h, _⟩ | ⟨g', e, h1, h2, h3, h4, hc, hf⟩
  · cases h
  · have : g' = g := by simpa using e.symm
    subst this
    have hsome : (w.cell? ⟨g', j, none⟩).isSome = true := (hf j (by omega)).1
    refine .inr ⟨g', rfl, h1, by simpa [World.setCell] using h2, by simpa using h3, h4, fun i u hu => ?_, fun i hi => ⟨?_, ?_⟩⟩
    · by_cases hij : i = j
      · subst hij
        rw [World.cell?_setCell_same' _ _ _ hsome]
        have : (bc (l.set i y))[i]? = some (.int .u8 (y.toNat : Int)) := by simp [bc, hj]
        rw [this] at hu; exact hu
      · rw [World.cell?_setCell_other _ _ _ _ (fun e => hij (by have := congrArg Addr.off e; exact this.symm))]
        refine hc i u ?_
        rw [← hu]; simp [bc, List.getElem?_set, Ne.symm hij]
    · by_cases hij : i = j
      · subst hij; rw [World.cell?_setCell_same' _ _ _ hsome]; rfl
      · rw [World.cell?_setCell_other _ _ _ _ (fun e => hij (by have := congrArg Addr.off e; exact this.symm))]; exact (hf i hi).1
    · rw [World.frozen?_setCell]; exact (hf i hi).2
theorem OwnM.cell_ {w : World} {base g c : Nat} {l : List UInt8} (h : OwnM w base (some ⟨g, 0, none⟩) c l) (j : Nat) (hj : j < l.length) : w.cell? ⟨g, j, none⟩ = some (.int .u8 ((l.getD j 0).toNat : Int)) ∧ w.frozen? ⟨g, j, none⟩ = false := by
  rcases h with ⟨h, _⟩ | ⟨g', e, h1, h2, h3, h4, hc, hf⟩
  · cases h
  · have : g' = g := by simpa using e.symm
    subst this
    exact ⟨hc j _ (bc_get l j hj), (hf j (by omega)).2⟩
theorem OwnM.far {w : World} {base c : Nat} {A : Option Addr} {l : List UInt8} (h : OwnM w base A c l) {F G : Nat → Prop} {w' : World} (hs : ∀ b, blk A = some b → w'.heap[b]? = w.heap[b]?) (hsz : w.heap.size ≤ w'.heap.size) : OwnM w' base A c l := h.block hsz hs
end Go.Proofs.Ytjmhfjioccljeaa
