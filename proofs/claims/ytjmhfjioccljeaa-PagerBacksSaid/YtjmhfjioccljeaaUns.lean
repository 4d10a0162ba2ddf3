/-
  Contracts: slices.Sorted(maps.Keys(m)), m keyed by numbers, whatever the values.
-/
import Derived.Test.YtjmhfjioccljeaaInts
import Derived.Test.YtjmhfjioccljeaaIter
namespace Go.Proofs.Ytjmhfjioccljeaa
open Go.RowKit Go.Maps Go.Sort Go.Shelf
set_option linter.unusedVariables false
set_option linter.unusedSimpArgs false

theorem sortsA (m : Nat) : AnyZI.SortsIn Try.prog Try.sortedA_ren Fence.wide m :=
  ⟨fun blk off cap ss W hH hblk hsz => callsIn_wide.2 (AnyM.slices_Sort_int Try.sortA blk off cap ss W hH hblk hsz),
   fun p cap W => callsIn_wide.2 (AnyM.slices_Sort_int_none Try.sortA p cap W)⟩
/-- what 'slices.Sorted' gives -/
def SortedAt (base : Nat) (l : List Int) (e : Ending) (w w' : World) : Prop :=
  ∃ A c, e = .returned (.slice A l.length c) ∧ OwnR w' base 3 1 A l.length c (ic l) ∧ Below base w w'
theorem keys_any (mb : Option Nat) (W : World) : Calls Try.prog 88 #[.map mb] W fun e w' => e = .returned (.func (.func 110) #[] #[.pointer (some ⟨W.heap.size, 0, none⟩)]) ∧ W.alloc (.cells #[.map mb] 118) = w' := by
  have h := (callsIn_wide (n := 5)).1 (AnyZI.keys_in Try.keysA Fence.wide 5 trivial rfl mb W)
  exact h.mono fun e w' ⟨h1, h2⟩ => ⟨h1, h2.symm⟩
set_option maxHeartbeats 1000000 in
theorem sorted_any (b n : Nat) (f : Nat → Option Value) (w : World) (h : MapAt w 3 b n f) :
    Calls Try.prog 87 #[.func (.func 110) #[] #[.pointer (some ⟨w.heap.size, 0, none⟩)]] (w.alloc (.cells #[.map (some b)] 118)) fun e w' =>
      SortedAt (w.heap.size + 1) ((keysOf f n).map fun s : Nat => (s : Int)) e (w.alloc (.cells #[.map (some b)] 118)) w' := by
  have hn : n ≤ 1048576 := by obtain ⟨_, _, _, _, _, _, hN⟩ := h; exact hN
  have hbl := h.lt
  obtain ⟨D0, m, hown, hm, hsz, hp⟩ := h.own Try.underlying3
  have hseq : SeqGives Fence.wide 2 Try.prog 110 #[.pointer (some ⟨w.heap.size, 0, none⟩)] encZ (fun ss => ss.Perm (intKeys D0)) (Maps.size D0) (w.alloc (.cells #[.map (some b)] 118)) :=
    AnyZI.keys_gives (ρ := Try.keysA_ren) { Try.keysA with } Fence.wide _ trivial rfl (by omega) w.heap.size b m D0 _ (by simp) (by simp) (by
      obtain ⟨es, clock, hb, Ft, hs, hD⟩ := hown
      exact ⟨es, clock, (Below.heap_alloc _ _ b hbl).trans hb, Ft, hs, hD⟩)
  have cS := AnyZI.sorted_in Try.sortedA Fence.wide 5 trivial trivial trivial trivial rfl (by omega) (sortsA _) (enters_of Try.func109 (by kernel_rfl) rfl) 110 #[.pointer (some ⟨w.heap.size, 0, none⟩)] trivial (enters_of Try.func110 (by kernel_rfl) rfl) _ _ (by unfold maxLen; omega) (by omega) _ hseq
  have h := (callsIn_wide (n := 5)).1 cS
  refine h.mono ?_
  rintro e w' ⟨v, ss, rfl, hS, hrow, hnil, hb⟩
  have hl : ss.length = ((keysOf f n).map fun s : Nat => (s : Int)).length := (hS.trans hp.symm).length_eq
  rw [sorted_keys f n hS hp, hl] at hrow
  obtain ⟨A, c, rfl, hown', _⟩ := own_form hrow
  have e : (w.alloc (.cells #[.map (some b)] 118)).heap.size = w.heap.size + 1 := by simp
  rw [e] at hown' hb
  exact ⟨A, c, rfl, hown', hb⟩
end Go.Proofs.Ytjmhfjioccljeaa
