/-
  No program in sight: a load may be taken first in a region that draws its order, although a later store of the same region writes its cell: the store waits for it.
-/
import Derived.OrdersHeld
import Derived.StillTail
import Derived.Deep.RegionHeld
namespace Go.Proofs.Ytoompglghjpapaa
open Go
set_option linter.unusedVariables false
set_option linter.unusedSimpArgs false
section
variable {P : Program} {ops : Array Oper} {Q : Exit → Act → World → Prop} {md : Region.Mode} {S S2 : World → Prop} {b : Nat}
/-- Whatever order is picked from here on, and S holds behind every operation that comes ahead of number b. -/
def wpAnyB (P : Program) (md : Region.Mode) (ops : Array Oper) (Q : Exit → Act → World → Prop) (S : World → Prop) (b : Nat) : Nat → Array Bool → Act → World → Prop
  | 0, listed, a, w => Region.ready md ops listed = [] ∧ Q .normal a w
  | fuel + 1, listed, a, w =>
    (Region.ready md ops listed = [] → Q .normal a w) ∧
    ∀ i ∈ Region.ready md ops listed, wpOp P ops Q i (fun a' w' => ((listed.setIfInBounds i true).getD b true = false → S w') ∧ wpAnyB P md ops Q S b fuel (listed.setIfInBounds i true) a' w') a w
theorem wpAny_of_barred : ∀ (fuel : Nat) (listed : Array Bool) (a : Act) (w : World), wpAnyB P md ops Q S b fuel listed a w → wpAny P md ops Q fuel listed a w
  | 0, _, _, _, h => h
  | fuel + 1, _, _, _, h => ⟨h.1, fun i hi => wpOp_mono (fun a' w' h' => wpAny_of_barred fuel _ a' w' h'.2) (h.2 i hi)⟩
theorem wpAnyB_first {i : Nat} {oi : Oper} {v : Value} (hi : ops[i]? = some oi) (hsel : ∀ (j : Nat) (o : Oper) cs b, ops[j]? = some o → o.op ≠ .select cs b)
    (hQ : ∀ c a w, Q (.panic c) (a.put oi.dst v) w → Q (.panic c) a w) (hib : i ≠ b) :
    ∀ (fuel : Nat) (listed : Array Bool) (a : Act) (w : World),
      (∀ j oj, ops[j]? = some oj → j ≠ i → listed.getD j true = false → (∀ e ∈ oj.after, Region.binds md e = true → e.on ≠ i) → oi.apart ops oj = true) →
      i ∈ Region.ready md ops listed → YieldsIf P ops S2 oi v a → ((∀ w, S2 w) ∨ (S2 = S ∧ Region.waitsFor md ops b i = true ∧ listed.getD b true = false)) → S2 w → (listed.getD b true = false → S w) →
      wpAnyB P md ops Q S b fuel (listed.setIfInBounds i true) (a.put oi.dst v) w → wpAnyB P md ops Q S b (fuel + 1) listed a w := by
  intro fuel
  induction fuel with
  | zero =>
    intro listed a w _ hr hy hc hS hB H
    refine ⟨fun h => (by rw [h] at hr; cases hr), fun j hj => ?_⟩
    by_cases hji : j = i
    · subst hji
      exact hy.wpOp hi hS ⟨fun h => hB (by rw [getD_set_ne true hib] at h; exact h), H⟩
    · have := ready_mono hj hji
      rw [H.1] at this
      cases this
  | succ fuel ih =>
    intro listed a w hfree hr hy hc hS hB H
    refine ⟨fun h => (by rw [h] at hr; cases hr), fun j hj => ?_⟩
    by_cases hji : j = i
    · subst hji
      exact hy.wpOp hi hS ⟨fun h => hB (by rw [getD_set_ne true hib] at h; exact h), H⟩
    · have h1 := H.2 j (ready_mono hj hji)
      obtain ⟨hjun, oj, hoj, hall⟩ := mem_ready.1 hj
      have hnot : ∀ e ∈ oj.after, Region.binds md e = true → e.on ≠ i := fun e he hb heq => by
        have h1 := hall e he hb
        have h0 := (mem_ready.1 hr).1
        rw [heq] at h1
        rcases Nat.lt_or_ge i listed.size with h' | h'
        · simp [h'] at h0 h1; rw [h0] at h1; cases h1
        · simp [Array.getElem?_eq_none h'] at h1
      have h2 := wpOp_putIf hoj (hfree j oj hoj hji hjun hnot) (fun cs b => hsel i oi cs b hi) (fun cs b => hsel j oj cs b hoj) hQ hy h1
      have hfree' : ∀ k ok, ops[k]? = some ok → k ≠ i → (listed.setIfInBounds j true).getD k true = false →
          (∀ e ∈ ok.after, Region.binds md e = true → e.on ≠ i) → oi.apart ops ok = true := fun k ok hk hki hun hno => by
        refine hfree k ok hk hki ?_ hno
        by_cases hjk : j = k
        · subst hjk; exact hjun
        · rw [getD_set_ne true hjk] at hun; exact hun
      have hsame : ∀ l : Array Bool, (l.setIfInBounds i true).getD b true = l.getD b true := fun l => getD_set_ne true hib
      refine wpOp_mono (fun a' w' h3 => ?_) h2
      have hX : (listed.setIfInBounds j true).getD b true = false → S w' := fun h => h3.2.1 (by rw [Array.setIfInBounds_comm _ _ (Ne.symm hji), hsame]; exact h)
      refine ⟨hX, ih (listed.setIfInBounds j true) a' w' hfree' (ready_mono hr (Ne.symm hji)) h3.1 ?_ ?_ hX ?_⟩
      · rcases hc with hc | ⟨he, hw, hl⟩
        · exact .inl hc
        · refine .inr ⟨he, hw, ?_⟩
          obtain ⟨ob, hob, e, he', hb', hon⟩ := Region.waitsFor_spec hw
          have hjb : j ≠ b := by
            rintro rfl
            have : ob = oj := Option.some.inj (hob.symm.trans hoj)
            subst this
            exact hnot e he' hb' hon
          rw [getD_set_ne true hjb]; exact hl
      · rcases hc with hc | ⟨he, hw, hl⟩
        · exact hc w'
        · obtain ⟨ob, hob, e, he', hb', hon⟩ := Region.waitsFor_spec hw
          have hjb : j ≠ b := by
            rintro rfl
            have : ob = oj := Option.some.inj (hob.symm.trans hoj)
            subst this
            exact hnot e he' hb' hon
          subst he
          exact hX (by rw [getD_set_ne true hjb]; exact hl)
      · rw [Array.setIfInBounds_comm _ _ hji]
        exact h3.2.2
/-- an operation that yields in every world -/
theorem wpAnyB_take {i : Nat} {oi : Oper} {v : Value} {fuel : Nat} {listed : Array Bool} {a : Act} {w : World} (hi : ops[i]? = some oi)
    (hs : Region.noSelect ops = true) (hf : Region.free md ops listed i = true) (hr : (Region.ready md ops listed).contains i = true)
    (hQ : ∀ c a w, Q (.panic c) (a.put oi.dst v) w → Q (.panic c) a w) (hib : i ≠ b) (hy : YieldsIf P ops (fun _ => True) oi v a) (hS : S w)
    (h : wpAnyB P md ops Q S b fuel (listed.setIfInBounds i true) (a.put oi.dst v) w) : wpAnyB P md ops Q S b (fuel + 1) listed a w :=
  wpAnyB_first (S2 := fun _ => True) hi (Region.noSelect_spec hs) hQ hib fuel listed a w (Region.free_spec hi hf) (by simpa using hr) hy (.inl fun _ => trivial) trivial (fun _ => hS) h
/-- the same, behind the barrier: nothing is known of the world -/
theorem wpAnyB_take' {i : Nat} {oi : Oper} {v : Value} {fuel : Nat} {listed : Array Bool} {a : Act} {w : World} (hi : ops[i]? = some oi)
    (hs : Region.noSelect ops = true) (hf : Region.free md ops listed i = true) (hr : (Region.ready md ops listed).contains i = true)
    (hQ : ∀ c a w, Q (.panic c) (a.put oi.dst v) w → Q (.panic c) a w) (hib : i ≠ b) (hy : YieldsIf P ops (fun _ => True) oi v a) (hl : listed.getD b true = true)
    (h : wpAnyB P md ops Q S b fuel (listed.setIfInBounds i true) (a.put oi.dst v) w) : wpAnyB P md ops Q S b (fuel + 1) listed a w :=
  wpAnyB_first (S2 := fun _ => True) hi (Region.noSelect_spec hs) hQ hib fuel listed a w (Region.free_spec hi hf) (by simpa using hr) hy (.inl fun _ => trivial) trivial (fun h => by rw [hl] at h; cases h) h
/-- a load for which number b waits -/
theorem wpAnyB_load {i : Nat} {oi : Oper} {v : Value} {fuel : Nat} {listed : Array Bool} {a : Act} {w : World} (hi : ops[i]? = some oi)
    (hs : Region.noSelect ops = true) (hf : Region.free md ops listed i = true) (hr : (Region.ready md ops listed).contains i = true)
    (hQ : ∀ c a w, Q (.panic c) (a.put oi.dst v) w → Q (.panic c) a w) (hib : i ≠ b) (hw : Region.waitsFor md ops b i = true) (hl : listed.getD b true = false) (hy : YieldsIf P ops S oi v a) (hS : S w)
    (h : wpAnyB P md ops Q S b fuel (listed.setIfInBounds i true) (a.put oi.dst v) w) : wpAnyB P md ops Q S b (fuel + 1) listed a w :=
  wpAnyB_first (S2 := S) hi (Region.noSelect_spec hs) hQ hib fuel listed a w (Region.free_spec hi hf) (by simpa using hr) hy (.inr ⟨rfl, hw, hl⟩) hS (fun _ => hS) h
/-- the one that may come up now, ahead of the barrier -/
theorem wpAnyB_one {i : Nat} {o : Oper} {fuel : Nat} {listed : Array Bool} {a : Act} {w : World} (hr : Region.ready md ops listed = [i]) (ho : ops[i]? = some o)
    (h : ∀ K' : Act → World → Prop, Shut (∀ a w, ((listed.setIfInBounds i true).getD b true = false → S w) → wpAnyB P md ops Q S b fuel (listed.setIfInBounds i true) a w → K' a w) → if Region.wanted o (yielded ops a.tmps) = true then Oper.wp P o a w K' Q else K' (a.put o.dst undef) w) :
    wpAnyB P md ops Q S b (fuel + 1) listed a w := by
  refine ⟨fun h0 => (by rw [h0] at hr; cases hr), fun j hj => ?_⟩
  rw [hr] at hj
  have : j = i := by simpa using hj
  subst this
  exact wpOp_step ho (fun K' hK => h K' (fun a w h1 h2 => hK a w ⟨h1, h2⟩))
theorem wpAnyB_done {listed : Array Bool} {a : Act} {w : World} (hr : Region.ready md ops listed = []) (h : Q .normal a w) :
    ∀ fuel, wpAnyB P md ops Q S b fuel listed a w
  | 0 => ⟨hr, h⟩
  | _ + 1 => ⟨fun _ => h, by rw [hr]; simp⟩
theorem wp_region_barred {id : Nat} {a : Act} {w : World} (S : World → Prop) (b : Nat) (hm : P.follows .mixedOrders = true)
    (h : wpAnyB P .any ops Q S b ops.size (Array.replicate ops.size false) a w.drew) : (Code.region id ops true).wp P Q a w :=
  wp_region_any hm (wpAny_of_barred _ _ _ _ h)
end
end Go.Proofs.Ytoompglghjpapaa
