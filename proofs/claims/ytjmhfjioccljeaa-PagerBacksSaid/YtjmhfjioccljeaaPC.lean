/-
  PC: PgM PgA PgB PgC PgD PgE
-/
import Derived.Test.YtjmhfjioccljeaaUns
import Derived.Test.YtjmhfjioccljeaaPgIter
import Derived.Test.YtjmhfjioccljeaaTxt
import Derived.Test.YtjmhfjioccljeaaJrK
import Derived.Test.YtjmhfjioccljeaaPB
import Derived.Deep.RegionHeld3
import Derived.Deep.DrawnRows
import Derived.StillTailTactics
import Derived.Test.YtjmhfjioccljeaaPA
import Derived.Test.YtjmhfjioccljeaaZApp
import Derived.Test.YtjmhfjioccljeaaRefI
import Derived.Lib.Builder
/-
  Contracts: maps of texts by numbers: maps.Keys and slices.Sorted, maps.Clone, maps.Copy.
-/
namespace Go.Proofs.Ytjmhfjioccljeaa
open Go.RowKit Go.Maps Go.Sort Go.Shelf
set_option linter.unusedVariables false
set_option linter.unusedSimpArgs false

theorem keysS_any (mb : Option Nat) (W : World) : Calls Try.prog 92 #[.map mb] W fun e w' => e = .returned (.func (.func 112) #[] #[.pointer (some ⟨W.heap.size, 0, none⟩)]) ∧ W.alloc (.cells #[.map mb] 144) = w' := by
  have h := (callsIn_wide (n := 5)).1 (AnyZI.keys_in Try.keysS Fence.wide 5 trivial rfl mb W)
  exact h.mono fun e w' ⟨h1, h2⟩ => ⟨h1, h2.symm⟩
set_option maxHeartbeats 1000000 in
theorem sortedS_any (b n : Nat) (f : Nat → Option Value) (w : World) (h : MapAt w 3 b n f) :
    Calls Try.prog 87 #[.func (.func 112) #[] #[.pointer (some ⟨w.heap.size, 0, none⟩)]] (w.alloc (.cells #[.map (some b)] 144)) fun e w' =>
      SortedAt (w.heap.size + 1) ((keysOf f n).map fun s : Nat => (s : Int)) e (w.alloc (.cells #[.map (some b)] 144)) w' := by
  have hn : n ≤ 1048576 := by obtain ⟨_, _, _, _, _, _, hN⟩ := h; exact hN
  have hbl := h.lt
  obtain ⟨D0, m, hown, hm, hsz, hp⟩ := h.own Try.underlying3
  have hseq : SeqGives Fence.wide 2 Try.prog 112 #[.pointer (some ⟨w.heap.size, 0, none⟩)] encZ (fun ss => ss.Perm (intKeys D0)) (Maps.size D0) (w.alloc (.cells #[.map (some b)] 144)) :=
    AnyZI.keys_gives (ρ := Try.keysS_ren) { Try.keysS with } Fence.wide _ trivial rfl (by omega) w.heap.size b m D0 _ (by simp) (by simp) (by
      obtain ⟨es, clock, hb, Ft, hs, hD⟩ := hown
      exact ⟨es, clock, (Below.heap_alloc _ _ b hbl).trans hb, Ft, hs, hD⟩)
  have cS := AnyZI.sorted_in Try.sortedA Fence.wide 5 trivial trivial trivial trivial rfl (by omega) (sortsA _) (enters_of Try.func109 (by kernel_rfl) rfl) 112 #[.pointer (some ⟨w.heap.size, 0, none⟩)] trivial (enters_of Try.func112 (by kernel_rfl) rfl) _ _ (by unfold maxLen; omega) (by omega) _ hseq
  have h := (callsIn_wide (n := 5)).1 cS
  refine h.mono ?_
  rintro e w' ⟨v, ss, rfl, hS, hrow, hnil, hb⟩
  have hl : ss.length = ((keysOf f n).map fun s : Nat => (s : Int)).length := (hS.trans hp.symm).length_eq
  rw [sorted_keys f n hS hp, hl] at hrow
  obtain ⟨A, c, rfl, hown', _⟩ := own_form hrow
  have e : (w.alloc (.cells #[.map (some b)] 144)).heap.size = w.heap.size + 1 := by simp
  rw [e] at hown' hb
  exact ⟨A, c, rfl, hown', hb⟩
/-- both calls, one behind the other: what the keys are -/
def KeysAt (w : World) (l : List Int) (e : Ending) (w' : World) : Prop :=
  ∃ A c, e = .returned (.slice A l.length c) ∧ OwnR w' w.heap.size 3 1 A l.length c (ic l) ∧ Below w.heap.size w w'
/-- 'maps.Clone(m)' -/
def CloneAt (b n : Nat) (f : Nat → Option Value) (w : World) (e : Ending) (w' : World) : Prop :=
  e = .returned (.map (some w.heap.size)) ∧ MapAt w' 3 w.heap.size n f ∧ Below w.heap.size w w' ∧ w'.heap.size = w.heap.size + 1
theorem clonem_any (b n : Nat) (f : Nat → Option Value) (w : World) (h : MapAt w 3 b n f) :
    Calls Try.prog 100 #[.map (some b)] w fun e w' => CloneAt b n f w e w' := by
  obtain ⟨D, m, ⟨es, clock, hb, F, hs, hD⟩, hr⟩ := h
  refine (AnyW.maps_Clone Try.cloneM b es clock w hb).mono ?_
  rintro e w' ⟨rfl, rfl⟩
  exact ⟨rfl, ⟨D, m, ⟨es, clock, (MapKept.heap_alloc w _).1, F, hs, hD⟩, hr⟩, (Below.refl _ w).alloc (Nat.le_refl _) _, by simp⟩
theorem find_some_has {es : List (Lit × DataW Value)} {k : Lit} : Maps.has (.map es) k = (es.find? fun p => p.1.sameKey k).isSome := by
  rw [Maps.has_eq]
  rw [Bool.eq_iff_iff, List.any_eq_true, List.find?_isSome]
/-- 'maps.Copy(dst, src)' -/
def orF (f g : Nat → Option Value) (s : Nat) : Option Value := (g s).or (f s)
def CopyAt (bd bs n : Nat) (f g : Nat → Option Value) (w : World) (e : Ending) (w' : World) : Prop :=
  e = .returned (.tuple #[]) ∧ MapAt w' 3 bd n (orF f g) ∧ MapAt w' 3 bs n g ∧ w.grownBy w' (some bd)
theorem copym_any (bd bs n : Nat) (f g : Nat → Option Value) (w : World) (hd : MapAt w 3 bd n f) (hs : MapAt w 3 bs n g) (hne : bd ≠ bs) :
    Calls Try.prog 91 #[.map (some bd), .map (some bs)] w fun e w' => CopyAt bd bs n f g w e w' := by
  have hN : n ≤ 1048576 := by obtain ⟨_, _, _, _, _, _, hN⟩ := hd; exact hN
  have hbd := hd.lt
  obtain ⟨Dd, m, od, dk, dv, dn, _⟩ := hd
  obtain ⟨Ds, m2, os, sk, sv, sn, _⟩ := hs
  have pd := keys_perm od Try.underlying3 dk dn
  have ps := keys_perm os Try.underlying3 sk sn
  have ld := pd.length_eq
  have ls := ps.length_eq
  rw [size_keys _ od.isMap, List.length_map] at ld
  rw [size_keys _ os.isMap, List.length_map] at ls
  have kd := keysOf_le f n
  have ks := keysOf_le g n
  have od1 := own_tight od
  have os1 := own_tight os
  refine (AnyX.maps_Copy Try.copyN (Maps.int_keyed Try.underlying3) Rv bd bs (Maps.size Dd) (Maps.size Ds) Dd Ds w od1 os1 hne (by unfold maxLen; omega)).mono ?_
  rintro e w' ⟨rfl, o1, o2, hg⟩
  obtain ⟨es, hD, hpw, hkl⟩ := os1.entries (Maps.int_keyed Try.underlying3)
  have hmd := od1.isMap
  have hkl2 : ∀ p ∈ es, WideAt.IsKeyLit p.1 := by
    obtain ⟨es', hD', hko⟩ := os1.keysOf
    obtain rfl : es = es' := by rw [hD] at hD'; simpa using hD'
    intro p hp
    obtain ⟨v, hv⟩ := hko p hp
    obtain ⟨x, _, hx, _⟩ := Maps.keyOf_i64 Try.underlying3 hv
    rw [hx]; trivial
  have hha : ∀ k, Maps.has (Lib.mergeD Dd Ds) k = (Maps.has Dd k || Maps.has Ds k) := fun k => by
    rw [hD]
    show Maps.has (es.foldl (fun D p => D.put p.1 p.2) Dd) k = _
    rw [Maps.has_foldPut k es Dd hmd hkl2, Maps.has_eq]
  have hat : ∀ k z, (Lib.mergeD Dd Ds).atKey k z = if Maps.has Ds k = true then Ds.atKey k z else Dd.atKey k z := fun k z => by
    rw [hD]
    show (es.foldl (fun D p => D.put p.1 p.2) Dd).atKey k z = _
    rw [Maps.atKey_foldPut k z es Dd hmd hkl2 hpw, find_some_has]
    cases hf : es.find? (fun p => p.1.sameKey k) with
    | none => simp
    | some p =>
      have h2 : (DataW.map es).atKey k z = p.2 := by
        unfold DataW.atKey
        simp only [hf]
      simp [h2]
  refine ⟨rfl, ⟨_, _, o1, fun k => ?_, fun s v hv z => ?_, fun s v hv => ?_, hN⟩, ⟨Ds, _, o2, sk, sv, sn, hN⟩, hg⟩
  · rw [hha (.int .i64 k), Bool.or_eq_true, dk k, sk k]
    constructor
    · rintro (⟨s, rfl, h1⟩ | ⟨s, rfl, h1⟩)
      · refine ⟨s, rfl, ?_⟩
        unfold orF
        cases g s <;> simp [h1]
      · refine ⟨s, rfl, ?_⟩
        unfold orF
        obtain ⟨v, hv⟩ := Option.isSome_iff_exists.1 h1
        rw [hv]; rfl
    · rintro ⟨s, rfl, h1⟩
      unfold orF at h1
      cases hg2 : g s with
      | none => exact .inl ⟨s, rfl, by rw [hg2] at h1; simpa using h1⟩
      | some v => exact .inr ⟨s, rfl, by rw [hg2]; rfl⟩
  · unfold orF at hv
    rw [hat]
    cases hg2 : g s with
    | none =>
      rw [hg2] at hv
      have h0 : Maps.has Ds (.int .i64 (s : Int)) = false := by
        rw [Bool.eq_false_iff]; intro h1
        obtain ⟨s', e, h2⟩ := (sk _).1 h1
        obtain rfl : s' = s := by omega
        rw [hg2] at h2; simp at h2
      rw [h0]
      exact dv s v (by simpa using hv) z
    | some u =>
      rw [hg2] at hv
      have h0 : Maps.has Ds (.int .i64 (s : Int)) = true := (sk _).2 ⟨s, rfl, by rw [hg2]; rfl⟩
      rw [h0, if_pos rfl]
      exact sv s v (by rw [hg2]; simpa using hv) z
  · unfold orF at hv
    cases hg2 : g s with
    | none => rw [hg2] at hv; exact dn s v (by simpa using hv)
    | some u => exact sn s u hg2
end Go.Proofs.Ytjmhfjioccljeaa
/-
  Walks of package pager: Config's right and place, Bytes, check.
-/
namespace Go.Proofs.Ytjmhfjioccljeaa
open Go.RowKit
set_option linter.unusedVariables false
set_option linter.unusedSimpArgs false
attribute [local go_sem ↓] Go.wp_at_zero Go.wp_at_succ

/-- a config by value -/
abbrev cfg (l n : Int) : Value := .agg #[.int .i64 l, .int .i64 n]
def rightB (l n : Int) : Bool := decide (4 ≤ l) && decide (l ≤ 2000) && decide (1 ≤ n) && decide (n ≤ 4000)
def BelowV (v : Value) (w : World) (e : Ending) (w' : World) : Prop := e = .returned v ∧ Below w.heap.size w w'
theorem ret_bool {a b : Bool} (h : a = b) : Ending.returned (.bool a) = .returned (.bool b) := by rw [h]
set_option maxRecDepth 100000 in
set_option maxHeartbeats 1000000 in
theorem right_any (l n : Int) (w : World) : Calls Try.prog 97 #[cfg l n] w fun e w' => BelowV (.bool (rightB l n)) w e w' := by
  obtain ⟨R, hR⟩ : ∃ R, rightB l n = R := ⟨_, rfl⟩
  rw [hR]
  have HR := Lib.hid hR
  clear hR
  have hb := (Below.refl w.heap.size w).alloc (Nat.le_refl _) (.cells #[.int .i64 l, .int .i64 n] 89)
  have HB := Lib.hid hb
  clear hb
  go_enter Try.func97, Try.ntmps97
  by_cases h1 : 4 ≤ l
  · have e1 : decide (4 ≤ l) = true := decide_eq_true h1
    by_cases h2 : l ≤ 2000
    · have e2 : decide (l ≤ 2000) = true := decide_eq_true h2
      by_cases h3 : 1 ≤ n
      · have e3 : decide (1 ≤ n) = true := decide_eq_true h3
        by_cases h4 : n ≤ 4000
        · have e4 : decide (n ≤ 4000) = true := decide_eq_true h4
          go_wp2_with fail
          go_ret
          exact ⟨ret_bool (by rw [← HR.out]; unfold rightB; rw [e1, e2, e3, e4]; rfl), HB.out⟩
        · have e4 : decide (n ≤ 4000) = false := decide_eq_false h4
          go_wp2_with fail
          go_ret
          exact ⟨ret_bool (by rw [← HR.out]; unfold rightB; rw [e4]; simp), HB.out⟩
      · have e3 : decide (1 ≤ n) = false := decide_eq_false h3
        go_wp2_with fail
        go_ret
        exact ⟨ret_bool (by rw [← HR.out]; unfold rightB; rw [e3]; simp), HB.out⟩
    · have e2 : decide (l ≤ 2000) = false := decide_eq_false h2
      go_wp2_with fail
      go_ret
      exact ⟨ret_bool (by rw [← HR.out]; unfold rightB; rw [e2]; simp), HB.out⟩
  · have e1 : decide (4 ≤ l) = false := decide_eq_false h1
    go_wp2_with fail
    go_ret
    exact ⟨ret_bool (by rw [← HR.out]; unfold rightB; rw [e1]; simp), HB.out⟩
/-- how many bytes a config wants -/
def bytesC (l n : Int) : Int := if rightB l n = true then 256 * (l + n) else 0
theorem right_bounds {l n : Int} (h : rightB l n = true) : 4 ≤ l ∧ l ≤ 2000 ∧ 1 ≤ n ∧ n ≤ 4000 := by
  unfold rightB at h
  simpa [and_assoc] using h
set_option maxRecDepth 100000 in
set_option maxHeartbeats 1000000 in
theorem bytes_any (l n : Int) (w : World) : Calls Try.prog 57 #[cfg l n] w fun e w' => BelowV (.int .i64 (bytesC l n)) w e w' := by
  have HRT := Lib.hid (right_any l n (w.alloc (.cells #[.int .i64 l, .int .i64 n] 89)))
  have hb := (Below.refl w.heap.size w).alloc (Nat.le_refl _) (.cells #[.int .i64 l, .int .i64 n] 89)
  have HB := Lib.hid hb
  clear hb
  by_cases hr : rightB l n = true
  · have hv : bytesC l n = 256 * (l + n) := by unfold bytesC; rw [if_pos hr]
    obtain ⟨h1, h2, h3, h4⟩ := right_bounds hr
    rw [hv]
    rw [hr] at HRT
    clear hr hv
    go_enter Try.func57, Try.ntmps57
    go_wp2_with fail
    refine HRT.out.mono ?_
    rintro e w1 ⟨rfl, hb1⟩
    have c0 : w1.cell? ⟨w.heap.size, 0, none⟩ = some (.int .i64 l) := below_cell hb1 (cells_new w #[.int .i64 l, .int .i64 n].toList _ 0 _ rfl)
    have c1 : w1.cell? ⟨w.heap.size, 1, none⟩ = some (.int .i64 n) := below_cell hb1 (cells_new w #[.int .i64 l, .int .i64 n].toList _ 1 _ rfl)
    have HB1 := Lib.hid (HB.out.trans (hb1.mono HB.out.size))
    clear hb1 HRT HB
    go_wp2_with fail
    go_ret
    exact ⟨rfl, HB1.out⟩
  · have hv : bytesC l n = 0 := by unfold bytesC; rw [if_neg hr]
    rw [hv]
    rw [show rightB l n = false by simpa using hr] at HRT
    clear hr hv
    go_enter Try.func57, Try.ntmps57
    go_wp2_with fail
    refine HRT.out.mono ?_
    rintro e w1 ⟨rfl, hb1⟩
    have HB1 := Lib.hid (HB.out.trans (hb1.mono HB.out.size))
    clear hb1 HRT HB
    go_wp2_with fail
    go_ret
    exact ⟨rfl, HB1.out⟩
set_option maxRecDepth 100000 in
set_option maxHeartbeats 1000000 in
theorem place_any (L N q : Nat) (w : World) (hL : L ≤ 2000) (hq : q ≤ 4000) : Calls Try.prog 93 #[cfg L N, .int .i64 (q : Int)] w fun e w' => BelowV (.int .i64 ((256 * (L + q) : Nat) : Int)) w e w' := by
  have hb := (Below.refl w.heap.size w).alloc (Nat.le_refl _) (.cells #[.int .i64 (L : Int), .int .i64 (N : Int)] 89)
  have HB := Lib.hid hb
  clear hb
  go_enter Try.func93, Try.ntmps93
  go_wp2_with fail
  go_ret
  exact ⟨ret_int (by omega), HB.out⟩
/-- does a config fit a disk -/
def pcheckB (size : Nat) (l n : Int) : Bool := rightB l n && decide (256 * (l + n) ≤ size)
def okE (b : Bool) : Int := if b = true then 0 else 1
set_option maxRecDepth 100000 in
set_option maxHeartbeats 1000000 in
theorem pcheck_nil (l n : Int) (w : World) : Calls Try.prog 94 #[.pointer none, cfg l n] w fun e w' => BelowV (.int .i64 1) w e w' := by
  have hb := (Below.refl w.heap.size w).alloc (Nat.le_refl _) (.cells #[.int .i64 l, .int .i64 n] 89)
  have HB := Lib.hid hb
  clear hb
  go_enter Try.func94, Try.ntmps94
  go_wp2_with fail
  go_ret
  exact ⟨rfl, HB.out⟩
set_option maxRecDepth 100000 in
set_option maxHeartbeats 1000000 in
theorem pcheck_any {w : World} {p k d : Nat} {as_ : List Nat} {S : St} {F : Nat → Prop} (h : PwS w p as_ S F) (hk : as_[k]? = some d) (l n : Int) :
    Calls Try.prog 94 #[ob d, cfg l n] w fun e w' => BelowV (.int .i64 (okE (pcheckB (S.at_ k).size l n))) w e w' := by
  have hlim : (S.at_ k).size ≤ 2097152 := by
    obtain ⟨_, _, _, _, _, _, _, _, _, h2, _⟩ := h.open_ hk
    have h3 := h2.lim
    have h4 := h2.ok.rd
    unfold Dk.size
    omega
  have HSZ : Hid (∀ W, Below w.heap.size w W → Calls Try.prog 102 #[ob d] W fun e w' => e = .returned (.int .i64 ((S.at_ k).size : Int)) ∧ W = w') := Lib.hid (fun W hb => st_size (h.below hb) hk)
  obtain ⟨Z, hZ⟩ : ∃ Z, (S.at_ k).size = Z := ⟨_, rfl⟩
  rw [hZ] at HSZ hlim ⊢
  have HRT := Lib.hid (right_any l n (w.alloc (.cells #[.int .i64 l, .int .i64 n] 89)))
  have hb := (Below.refl w.heap.size w).alloc (Nat.le_refl _) (.cells #[.int .i64 l, .int .i64 n] 89)
  have HB := Lib.hid hb
  clear hb hZ h hk
  by_cases hr : rightB l n = true
  · have HBY : Hid (∀ W, Calls Try.prog 57 #[cfg l n] W fun e w' => BelowV (.int .i64 (256 * (l + n))) W e w') := Lib.hid (fun W => by
      have := bytes_any l n W
      unfold bytesC at this
      rw [if_pos hr] at this
      exact this)
    obtain ⟨h1, h2, h3, h4⟩ := right_bounds hr
    have HV : Hid (∀ b : Bool, decide (256 * (l + n) ≤ (Z : Int)) = b → okE (pcheckB Z l n) = okE b) := Lib.hid fun b hb => by unfold pcheckB; rw [hr, hb, Bool.true_and]
    rw [hr] at HRT
    clear hr
    obtain ⟨V, hV⟩ : ∃ V, 256 * (l + n) = V := ⟨_, rfl⟩
    rw [hV] at HBY HV
    clear hV
    generalize okE (pcheckB Z l n) = R at *
    by_cases h5 : (Z : Int) < V
    · have e5 : decide ((Z : Int) < V) = true := decide_eq_true h5
      have HX := Lib.hid (HV.out false (decide_eq_false (by omega)))
      go_enter Try.func94, Try.ntmps94
      go_wp2_with fail
      refine HRT.out.mono ?_
      rintro e w1 ⟨rfl, hb1⟩
      have c0 : w1.cell? ⟨w.heap.size, 0, none⟩ = some (.int .i64 l) := below_cell hb1 (cells_new w #[.int .i64 l, .int .i64 n].toList _ 0 _ rfl)
      have c1 : w1.cell? ⟨w.heap.size, 1, none⟩ = some (.int .i64 n) := below_cell hb1 (cells_new w #[.int .i64 l, .int .i64 n].toList _ 1 _ rfl)
      have HB1 := Lib.hid (HB.out.trans (hb1.mono HB.out.size))
      clear hb1 HRT HB
      go_wp2_with fail
      refine (HBY.out _).mono ?_
      rintro e w2 ⟨rfl, hb2⟩
      have HB2 := Lib.hid (HB1.out.trans (hb2.mono HB1.out.size))
      clear hb2 HB1 c0 c1
      go_wp2_with fail
      refine (HSZ.out _ HB2.out).mono ?_
      rintro e _ ⟨rfl, rfl⟩
      go_wp2_with fail
      go_ret
      exact ⟨ret_int HX.out.symm, HB2.out⟩
    · have e5 : decide ((Z : Int) < V) = false := decide_eq_false h5
      have HX := Lib.hid (HV.out true (decide_eq_true (by omega)))
      go_enter Try.func94, Try.ntmps94
      go_wp2_with fail
      refine HRT.out.mono ?_
      rintro e w1 ⟨rfl, hb1⟩
      have c0 : w1.cell? ⟨w.heap.size, 0, none⟩ = some (.int .i64 l) := below_cell hb1 (cells_new w #[.int .i64 l, .int .i64 n].toList _ 0 _ rfl)
      have c1 : w1.cell? ⟨w.heap.size, 1, none⟩ = some (.int .i64 n) := below_cell hb1 (cells_new w #[.int .i64 l, .int .i64 n].toList _ 1 _ rfl)
      have HB1 := Lib.hid (HB.out.trans (hb1.mono HB.out.size))
      clear hb1 HRT HB
      go_wp2_with fail
      refine (HBY.out _).mono ?_
      rintro e w2 ⟨rfl, hb2⟩
      have HB2 := Lib.hid (HB1.out.trans (hb2.mono HB1.out.size))
      clear hb2 HB1 c0 c1
      go_wp2_with fail
      refine (HSZ.out _ HB2.out).mono ?_
      rintro e _ ⟨rfl, rfl⟩
      go_wp2_with fail
      go_ret
      exact ⟨ret_int HX.out.symm, HB2.out⟩
  · have HV : Hid (okE (pcheckB Z l n) = 1) := Lib.hid (by unfold okE pcheckB; rw [show rightB l n = false by simpa using hr]; simp)
    rw [HV.out]
    rw [show rightB l n = false by simpa using hr] at HRT
    clear hr
    go_enter Try.func94, Try.ntmps94
    go_wp2_with fail
    refine HRT.out.mono ?_
    rintro e w1 ⟨rfl, hb1⟩
    have HB1 := Lib.hid (HB.out.trans (hb1.mono HB.out.size))
    clear hb1 HRT HB
    go_wp2_with fail
    go_ret
    exact ⟨rfl, HB1.out⟩
end Go.Proofs.Ytjmhfjioccljeaa
/-
  A pager in memory; walks: committed, Read, Pages.
-/
namespace Go.Proofs.Ytjmhfjioccljeaa
open Go.RowKit
set_option linter.unusedVariables false
set_option linter.unusedSimpArgs false
attribute [local go_sem ↓] Go.wp_at_zero Go.wp_at_succ

abbrev Pmap := Nat → Option (List UInt8)
/-- a map of texts, as the world's map holds it -/
def mapV (f : Pmap) (s : Nat) : Option Value := (f s).map fun l => .string (bs l)
theorem mapV_none : mapV (fun _ => none) = fun _ => none := rfl
/-- a pager of the program's in memory, on the one disk of a power -/
structure PgAt (w : World) (p d pg j : Nat) (S : St) (J : Js) (L N : Nat) (rd : Int) (ms mn : Nat) (sure now : Pmap) (H : Nat → Prop) : Prop where
  jp : JPs w p [d] S 0 d j J H
  self : Blk w pg 146 #[ob d, .int .i64 (L : Int), .int .i64 (N : Int), ob j, .map (some ms), .map (some mn), .int .i64 rd]
  sure : MapAt w 3 ms N (mapV sure)
  now : MapAt w 3 mn N (mapV now)
  ne : ms ≠ mn
  np : ¬ H pg
  ns : ¬ H ms
  nn : ¬ H mn
def pgF (H : Nat → Prop) (pg ms mn i : Nat) : Prop := H i ∨ i = pg ∨ i = ms ∨ i = mn
def PgR (w : World) (p d pg : Nat) (S : St) (J : Js) (L N : Nat) (rd : Int) (sure now : Pmap) (K : Nat → Prop) : Prop :=
  ∃ j ms mn H, PgAt w p d pg j S J L N rd ms mn sure now H ∧ K = pgF H pg ms mn
section
variable {w w' : World} {p d pg j L N ms mn : Nat} {S : St} {J : Js} {rd : Int} {sure now : Pmap} {H K : Nat → Prop}
theorem PgAt.lt (h : PgAt w p d pg j S J L N rd ms mn sure now H) : Lt (pgF H pg ms mn) w.heap.size := fun i hi => by
  rcases hi with hi | rfl | rfl | rfl
  · exact h.jp.lt i hi
  · exact h.self.lt
  · exact h.sure.lt
  · exact h.now.lt
theorem PgAt.keep (h : PgAt w p d pg j S J L N rd ms mn sure now H) (hs : Same (pgF H pg ms mn) w w') (hsz : w.heap.size ≤ w'.heap.size) : PgAt w' p d pg j S J L N rd ms mn sure now H :=
  ⟨h.jp.keep (hs.sub fun i hi => .inl hi) hsz, h.self.same hs (.inr (.inl rfl)), h.sure.keep (hs ms (.inr (.inr (.inl rfl)))), h.now.keep (hs mn (.inr (.inr (.inr rfl)))), h.ne, h.np, h.ns, h.nn⟩
theorem PgAt.below (h : PgAt w p d pg j S J L N rd ms mn sure now H) (hb : Below w.heap.size w w') : PgAt w' p d pg j S J L N rd ms mn sure now H := h.keep (Same.of_below hb h.lt) hb.size
theorem PgR.lt (h : PgR w p d pg S J L N rd sure now K) : Lt K w.heap.size := by obtain ⟨j, ms, mn, H, h1, rfl⟩ := h; exact h1.lt
theorem PgR.keep (h : PgR w p d pg S J L N rd sure now K) (hs : Same K w w') (hsz : w.heap.size ≤ w'.heap.size) : PgR w' p d pg S J L N rd sure now K := by
  obtain ⟨j, ms, mn, H, h1, rfl⟩ := h; exact ⟨j, ms, mn, H, h1.keep hs hsz, rfl⟩
theorem PgR.below (h : PgR w p d pg S J L N rd sure now K) (hb : Below w.heap.size w w') : PgR w' p d pg S J L N rd sure now K := h.keep (Same.of_below hb h.lt) hb.size
theorem PgAt.cells (h : PgAt w p d pg j S J L N rd ms mn sure now H) : w.cell? ⟨pg, 0, none⟩ = some (ob d) ∧ w.cell? ⟨pg, 1, none⟩ = some (.int .i64 (L : Int)) ∧ w.cell? ⟨pg, 2, none⟩ = some (.int .i64 (N : Int)) ∧ w.cell? ⟨pg, 3, none⟩ = some (ob j) ∧
    w.cell? ⟨pg, 4, none⟩ = some (.map (some ms)) ∧ w.cell? ⟨pg, 5, none⟩ = some (.map (some mn)) ∧ w.cell? ⟨pg, 6, none⟩ = some (.int .i64 rd) :=
  ⟨h.self.cell 0, h.self.cell 1, h.self.cell 2, h.self.cell 3, h.self.cell 4, h.self.cell 5, h.self.cell 6⟩
theorem PgAt.pm (h : PgAt w p d pg j S J L N rd ms mn sure now H) : pg ≠ ms ∧ pg ≠ mn := ⟨h.self.ne_map h.sure, h.self.ne_map h.now⟩
theorem PgAt.dok (h : PgAt w p d pg j S J L N rd ms mn sure now H) : (S.at_ 0).Ok ∧ (S.at_ 0).size ≤ 2097152 := by
  obtain ⟨h0, hO, F, G, h1, h2, hd, rfl⟩ := h.jp
  obtain ⟨_, _, _, _, _, _, _, _, _, h2, _⟩ := h1.open_ h0
  have h3 := h2.lim
  have h4 := h2.ok.rd
  exact ⟨h2.ok, by unfold Dk.size; omega⟩
end
theorem zero_str (w : World) : (zeroValue 9).run Try.prog w = .ok (.string ⟨#[]⟩) w := by kernel_rfl
theorem look_text {w : World} {b n : Nat} {f : Pmap} (h : MapAt w 3 b n (mapV f)) (q : Nat) (hq : q ≤ 1048576) :
    (Instr.lookup 144 (.map (some b)) (.int .i64 (q : Int)) true).run Try.prog w = .ok (.tuple #[.string (bs ((f q).getD [])), .bool (f q).isSome]) w ∧
    (Instr.lookup 144 (.map (some b)) (.int .i64 (q : Int)) false).run Try.prog w = .ok (.string (bs ((f q).getD []))) w := by
  have h1 := h.look_ok Try.underlying3 Try.underlying144 (zero_str w) q (by omega)
  have h2 := h.look Try.underlying3 Try.underlying144 (zero_str w) q (by omega)
  unfold mapV at h1 h2
  cases hf : f q with
  | none => rw [hf] at h1 h2; exact ⟨h1, h2⟩
  | some s => rw [hf] at h1 h2; exact ⟨h1, h2⟩
/-- the pages as they were committed (A), and as they are (C), beside the maps that tell them -/
structure Pg (S : St) (J : Js) (n L N g : Nat) (rs : List (List Pt)) (A C : Pgs) (sure now : Pmap) : Prop where
  pd : Pd S J n L N g rs A
  com : ∀ q, q < N → A q = (sure q).getD (diskP S L q)
  cur : ∀ q, q < N → C q = (now q).getD (A q)
  fullC : Full N C
  kn : ∀ q s, now q = some s → q < N
  ks : ∀ q s, sure q = some s → q < N
section
variable {w w' : World} {p d pg j L N ms mn n g : Nat} {S : St} {J : Js} {rd : Int} {sure now : Pmap} {H K : Nat → Prop} {rs : List (List Pt)} {A C : Pgs}
/-- a disk on which pages lie, the power on -/
structure Dsk (S : St) (n L N : Nat) : Prop where
  off : S.off = false
  size : (S.at_ 0).size = 128 * n
  lay : Lay n L N
  l2 : L ≤ 2000
theorem Dsk.bounds (h : Dsk S n L N) : L ≤ 2000 ∧ N ≤ 4000 ∧ 1 ≤ N ∧ 4 ≤ L := ⟨h.l2, h.lay.nm, h.lay.n1, h.lay.l4⟩
theorem Pd.bounds (h : Pd S J n L N g rs A) : L ≤ 2000 ∧ N ≤ 4000 ∧ 1 ≤ N ∧ 4 ≤ L := ⟨h.fits.m2, h.lay.nm, h.lay.n1, h.lay.l4⟩
theorem Pd.size (h : Pd S J n L N g rs A) : (S.at_ 0).size = 128 * n := by
  obtain ⟨f, ht, _⟩ := h.open_
  exact ht.rd.1
theorem Pd.dsk (h : Pd S J n L N g rs A) : Dsk S n L N := ⟨h.off, h.size, h.lay, h.fits.m2⟩
theorem Dsk.dfull (h : Dsk S n L N) : Full N (diskP S L) := fun q hq => by
  have hsz := h.size
  have hin := h.lay.in_
  unfold Dk.size at hsz
  unfold diskP
  rw [List.length_take, List.length_drop]; omega
/-- what a disk's Read gives of a page -/
theorem Dsk.read (h : Dsk S n L N) {q : Nat} (hq : q < N) : readE (S.at_ 0) S.off ((256 * (L + q) : Nat) : Int) 256 = 0 ∧ readB (S.at_ 0) S.off ((256 * (L + q) : Nat) : Int) 256 = diskP S L q := by
  have hsz := h.size
  have hin := h.lay.in_
  have e : readE (S.at_ 0) S.off ((256 * (L + q) : Nat) : Int) 256 = 0 := by
    unfold readE inB
    rw [if_pos (by rw [decide_eq_true_iff, hsz]; omega), h.off]; rfl
  refine ⟨e, ?_⟩
  unfold readB
  rw [if_pos e]
  unfold diskP
  rw [Int.toNat_natCast]
  rfl
/-- the pages as they were committed (A), and as they are (C), whatever the journal holds -/
structure Pq (S : St) (n L N : Nat) (A C : Pgs) (sure now : Pmap) : Prop where
  dsk : Dsk S n L N
  com : ∀ q, q < N → A q = (sure q).getD (diskP S L q)
  cur : ∀ q, q < N → C q = (now q).getD (A q)
  full : Full N A
  fullC : Full N C
  kn : ∀ q s, now q = some s → q < N
theorem Pg.pq (h : Pg S J n L N g rs A C sure now) : Pq S n L N A C sure now := ⟨h.pd.dsk, h.com, h.cur, h.pd.full, h.fullC, h.kn⟩
set_option maxRecDepth 100000 in
set_option maxHeartbeats 1000000 in
theorem committed_q (hP : Dsk S n L N) (hC : ∀ q, q < N → A q = (sure q).getD (diskP S L q)) (h : PgAt w p d pg j S J L N rd ms mn sure now H) (q : Nat) (hq : q < N) :
    Calls Try.prog 96 #[ob pg, .int .i64 (q : Int)] w fun e w' => BelowV (.tuple #[.string (bs (A q)), .int .i64 0]) w e w' := by
  obtain ⟨b1, b2, b3, b4⟩ := hP.bounds
  obtain ⟨hl, _⟩ := look_text h.sure q (by omega)
  have hAq := hC q hq
  obtain ⟨c0, c1, c2, c3, c4, c5, c6⟩ := h.cells
  cases hs : sure q with
  | some s =>
    rw [hs] at hl hAq
    have hl2 : (Instr.lookup 144 (.map (some ms)) (.int .i64 (q : Int)) true).run Try.prog w = .ok (.tuple #[.string (bs s), .bool true]) w := hl
    rw [show A q = s from hAq]
    generalize bs s = x at *
    clear hl hAq hs h hP hC c0 c1 c2 c3 c5 c6 b1 b2 b3 b4 hq
    go_enter Try.func96, Try.ntmps96
    go_wp2_with fail
    go_ret2
    exact ⟨rfl, Below.refl _ _⟩
  | none =>
    rw [hs] at hl hAq
    have hl2 : (Instr.lookup 144 (.map (some ms)) (.int .i64 (q : Int)) true).run Try.prog w = .ok (.tuple #[.string ⟨#[]⟩, .bool false]) w := hl
    rw [show A q = diskP S L q from hAq]
    obtain ⟨r1, r2⟩ := hP.read hq
    obtain ⟨B, hB⟩ : ∃ B, diskP S L q = B := ⟨_, rfl⟩
    obtain ⟨h0, hO, F, G, h1, h2, hd, rfl⟩ := h.jp
    obtain ⟨o, ho⟩ : ∃ o, 256 * (L + q) = o := ⟨_, rfl⟩
    have HRD : Hid (∀ W, Below w.heap.size w W → Calls Try.prog 16 #[ob d, .int .i64 (o : Int), .int .i64 256] W fun e w' => ∃ A' c', e = .returned (.tuple #[.slice A' B.length c', .int .i64 0]) ∧ OwnB w' W.heap.size A' c' B ∧ Below W.heap.size W w') := Lib.hid (fun W hb => by
      have := st_read (h1.below hb) h0 (o : Int) 256 (by omega) (by omega)
      unfold ReadSpec at this
      rw [← ho, r1, r2, hB] at this
      rw [← ho]
      exact this)
    have HPL : Hid (∀ W, Calls Try.prog 93 #[cfg L N, .int .i64 (q : Int)] W fun e w' => BelowV (.int .i64 (o : Int)) W e w') := Lib.hid (fun W => by rw [← ho]; exact place_any L N q W (by omega) (by omega))
    rw [hB]
    obtain ⟨x, hx⟩ : ∃ x, bs B = x := ⟨_, rfl⟩
    rw [hx]
    have HX := Lib.hid hx
    clear hx
    have HBL : Hid (B.length ≤ 9223372036854775807) := Lib.hid (by
      rw [← hB]
      have := hP.dfull q hq
      omega)
    clear hl hAq hs r1 r2 hB ho h0 hO h1 h2 hd h hP hC b1 b2 b3 b4 hq c3 c5 c6
    go_enter Try.func96, Try.ntmps96
    go_wp2_with fail
    go_region_held3 (fun W : World => W.cell? ⟨pg, 0, none⟩ = some (ob d) ∧ W.cell? ⟨pg, 1, none⟩ = some (.int .i64 (L : Int)) ∧ W.cell? ⟨pg, 2, none⟩ = some (.int .i64 (N : Int))) (first | exact ⟨c0, c1, c2⟩ | exact ⟨below_cell HB1.out c0, below_cell HB1.out c1, below_cell HB1.out c2⟩ | exact ⟨below_cell HB2.out c0, below_cell HB2.out c1, below_cell HB2.out c2⟩) (first | (go_at_call 93; refine (HPL.out _).mono ?_; rintro e w1 ⟨rfl, hb1⟩; have HB1 : Hid (Below w.heap.size w w1) := Lib.hid (((Below.refl _ _).drew).trans hb1); clear hb1) | (go_at_call 16; refine (HRD.out _ HB1.out).mono ?_; rintro e w2 ⟨A', c', rfl, hown, hb2⟩; have HB2 : Hid (Below w.heap.size w w2) := Lib.hid (HB1.out.trans (hb2.mono HB1.out.size)); have HO := Lib.hid hown; clear hb2 hown))
    have hcv := run_str c' (OwnB.rd HO.out) rfl
    generalize B.length = bl at *
    have hcv2 : (convert 37 9 (.slice A' bl c')).run Try.prog w2 = .ok (.string x) w2 := by rw [← HX.out]; exact hcv
    clear hcv
    go_wp2_with fail
    go_ret2
    exact ⟨rfl, HB2.out⟩
theorem committed_any (hP : Pd S J n L N g rs A) (hC : ∀ q, q < N → A q = (sure q).getD (diskP S L q)) (h : PgAt w p d pg j S J L N rd ms mn sure now H) (q : Nat) (hq : q < N) :
    Calls Try.prog 96 #[ob pg, .int .i64 (q : Int)] w fun e w' => BelowV (.tuple #[.string (bs (A q)), .int .i64 0]) w e w' := committed_q hP.dsk hC h q hq
set_option maxRecDepth 100000 in
set_option maxHeartbeats 1000000 in
theorem pages_any (h : PgR w p d pg S J L N rd sure now K) : Calls Try.prog 56 #[ob pg] w fun e w' => e = .returned (.int .i64 (N : Int)) ∧ w = w' := by
  obtain ⟨j, ms, mn, H, h, rfl⟩ := h
  obtain ⟨c0, c1, c2, c3, c4, c5, c6⟩ := h.cells
  clear h c0 c1 c3 c4 c5 c6
  go_enter Try.func56, Try.ntmps56
  go_wp2_with fail
  go_ret
  exact ⟨rfl, rfl⟩
/-- what Read answers -/
def readV (N : Nat) (C : Pgs) (q : Int) : Value := if 0 ≤ q ∧ q < N then .tuple #[.string (bs (C q.toNat)), .int .i64 0] else .tuple #[.string ⟨#[]⟩, .int .i64 1]
set_option maxRecDepth 100000 in
set_option maxHeartbeats 1000000 in
theorem pread_q (hP : Pq S n L N A C sure now) (h : PgAt w p d pg j S J L N rd ms mn sure now H) (q : Int) (hq : -9223372036854775808 ≤ q ∧ q ≤ 9223372036854775807) :
    Calls Try.prog 53 #[ob pg, .int .i64 q] w fun e w' => BelowV (readV N C q) w e w' := by
  obtain ⟨c0, c1, c2, c3, c4, c5, c6⟩ := h.cells
  by_cases h1 : q < 0
  · have hv : readV N C q = .tuple #[.string ⟨#[]⟩, .int .i64 1] := by unfold readV; rw [if_neg (by omega)]
    rw [hv]
    have e1 : decide (q < 0) = true := decide_eq_true h1
    clear h hP hv c0 c1 c2 c3 c4 c5 c6
    go_enter Try.func53, Try.ntmps53
    go_wp2_with fail
    go_ret2
    exact ⟨rfl, Below.refl _ _⟩
  · have e1 : decide (q < 0) = false := decide_eq_false h1
    obtain ⟨k, rfl⟩ : ∃ k : Nat, q = (k : Int) := ⟨q.toNat, by omega⟩
    by_cases h2 : k < N
    · have hv : readV N C (k : Int) = .tuple #[.string (bs (C k)), .int .i64 0] := by unfold readV; rw [if_pos (by omega), Int.toNat_natCast]
      rw [hv]
      have e2 : decide ((N : Int) ≤ (k : Int)) = false := decide_eq_false (by omega)
      have e2' : decide (N ≤ k) = false := decide_eq_false (by omega)
      obtain ⟨b1, b2, b3, b4⟩ := hP.dsk.bounds
      obtain ⟨hl, _⟩ := look_text h.now k (by omega)
      have hc := hP.cur k h2
      cases hs : now k with
      | some s =>
        rw [hs] at hl hc
        have hl2 : (Instr.lookup 144 (.map (some mn)) (.int .i64 (k : Int)) true).run Try.prog w = .ok (.tuple #[.string (bs s), .bool true]) w := hl
        rw [show C k = s from hc]
        generalize bs s = x at *
        clear hl hc hs hv h hP c0 c1 c3 c4 c6 b1 b2 b3 b4 h1 hq
        go_enter Try.func53, Try.ntmps53
        go_wp2_with fail
        go_ret2
        exact ⟨rfl, Below.refl _ _⟩
      | none =>
        rw [hs] at hl hc
        have hl2 : (Instr.lookup 144 (.map (some mn)) (.int .i64 (k : Int)) true).run Try.prog w = .ok (.tuple #[.string ⟨#[]⟩, .bool false]) w := hl
        have HCM := Lib.hid (committed_q hP.dsk hP.com h k h2)
        rw [← show C k = A k from hc] at HCM
        generalize bs (C k) = x at *
        clear hl hc hs hv h hP c0 c1 c3 c4 c6 b1 b2 b3 b4 h1 hq
        go_enter Try.func53, Try.ntmps53
        go_wp2_with fail
        refine HCM.out.mono ?_
        rintro e w1 ⟨rfl, hb1⟩
        have HB1 := Lib.hid hb1
        clear hb1
        go_wp2_with fail
        go_ret2
        exact ⟨rfl, HB1.out⟩
    · have hv : readV N C (k : Int) = .tuple #[.string ⟨#[]⟩, .int .i64 1] := by unfold readV; rw [if_neg (by omega)]
      rw [hv]
      have e2 : decide ((N : Int) ≤ (k : Int)) = true := decide_eq_true (by omega)
      have e2' : decide (N ≤ k) = true := decide_eq_true (by omega)
      clear h hP hv c0 c1 c3 c4 c5 c6
      go_enter Try.func53, Try.ntmps53
      go_wp2_with fail
      go_ret2
      exact ⟨rfl, Below.refl _ _⟩
theorem pread_at (hP : Pg S J n L N g rs A C sure now) (h : PgAt w p d pg j S J L N rd ms mn sure now H) (q : Int) (hq : -9223372036854775808 ≤ q ∧ q ≤ 9223372036854775807) :
    Calls Try.prog 53 #[ob pg, .int .i64 q] w fun e w' => BelowV (readV N C q) w e w' := pread_q hP.pq h q hq
end
end Go.Proofs.Ytjmhfjioccljeaa
/-
  Walk of package pager: Write.
-/
namespace Go.Proofs.Ytjmhfjioccljeaa
open Go.RowKit
set_option linter.unusedVariables false
set_option linter.unusedSimpArgs false
attribute [local go_sem ↓] Go.wp_at_zero Go.wp_at_succ

/-- is a change in form -/
def wrB (N : Nat) (q off : Int) (len : Nat) : Bool := decide (0 ≤ q) && decide (q < N) && decide (0 ≤ off) && decide (off ≤ 256) && decide ((len : Int) ≤ 256 - off)
/-- the pages behind a write -/
def wrC (N : Nat) (C : Pgs) (q off : Int) (s : List UInt8) : Pgs := if wrB N q off s.length = true then (⟨q.toNat, off.toNat, s⟩ : Pt).on C else C
/-- the map behind it -/
def wrM (N : Nat) (C : Pgs) (now : Pmap) (q off : Int) (s : List UInt8) : Pmap :=
  if wrB N q off s.length = true ∧ s ≠ [] then fun t => if t = q.toNat then some (putAt (C q.toNat) off.toNat s) else now t else now
theorem mapV_set (f : Pmap) (k : Nat) (s : List UInt8) : mapV (fun t => if t = k then some s else f t) = fun t => if t = k then some (.string (bs s)) else mapV f t := by
  funext t
  unfold mapV
  simp only []
  by_cases h : t = k
  · rw [if_pos h, if_pos h]; rfl
  · rw [if_neg h, if_neg h]
theorem putAt_nil (l : List UInt8) (o : Nat) : putAt l o [] = l := by simp [putAt]
section
variable {w w' : World} {p d pg j L N ms mn n g : Nat} {S : St} {J : Js} {rd : Int} {sure now : Pmap} {H K : Nat → Prop} {rs : List (List Pt)} {A C : Pgs}
/-- the plain part -/
theorem Pq.write (h : Pq S n L N A C sure now) (q off : Int) (s : List UInt8) : Pq S n L N A (wrC N C q off s) sure (wrM N C now q off s) := by
  unfold wrC wrM
  by_cases hb : wrB N q off s.length = true
  · rw [if_pos hb]
    unfold wrB at hb
    simp only [Bool.and_eq_true, decide_eq_true_eq] at hb
    obtain ⟨⟨⟨⟨b1, b2⟩, b3⟩, b4⟩, b5⟩ := hb
    have hg : (⟨q.toNat, off.toNat, s⟩ : Pt).Good N := ⟨by show q.toNat < N; omega, by show off.toNat + s.length ≤ 256; omega⟩
    have hbt : wrB N q off s.length = true := by
      unfold wrB
      simp only [Bool.and_eq_true, decide_eq_true_eq]
      exact ⟨⟨⟨⟨b1, b2⟩, b3⟩, b4⟩, b5⟩
    by_cases hs : s = []
    · subst hs
      rw [if_neg (by simp)]
      have hC : (⟨q.toNat, off.toNat, []⟩ : Pt).on C = C := by
        funext x
        unfold Pt.on
        show (if _ then _ else _) = _
        split
        · exact putAt_nil _ _
        · rfl
      rw [hC]; exact h
    · rw [if_pos ⟨hbt, hs⟩]
      refine ⟨h.dsk, h.com, fun x hx => ?_, h.full, on_full hg h.fullC, fun x t hx => ?_⟩
      · unfold Pt.on
        show (if x = q.toNat then _ else _) = Option.getD (if x = q.toNat then _ else _) _
        by_cases hxq : x = q.toNat
        · subst hxq; rw [if_pos rfl, if_pos rfl]; rfl
        · rw [if_neg hxq, if_neg hxq]; exact h.cur x hx
      · by_cases hxq : x = q.toNat
        · omega
        · have hx : (if x = q.toNat then some (putAt (C q.toNat) off.toNat s) else now x) = some t := hx
          rw [if_neg hxq] at hx; exact h.kn x t hx
  · rw [if_neg hb, if_neg fun e => hb e.1]; exact h
theorem Pg.write (h : Pg S J n L N g rs A C sure now) (q off : Int) (s : List UInt8) : Pg S J n L N g rs A (wrC N C q off s) sure (wrM N C now q off s) :=
  have := h.pq.write q off s
  ⟨h.pd, this.com, this.cur, this.fullC, this.kn, h.ks⟩
def PWr (p d pg j : Nat) (S : St) (J : Js) (L N : Nat) (rd : Int) (ms mn : Nat) (sure now : Pmap) (H : Nat → Prop) (e : Int) (w : World) (E : Ending) (w' : World) : Prop :=
  E = .returned (.int .i64 e) ∧ PgAt w' p d pg j S J L N rd ms mn sure now H ∧ Step (one mn) No w w'
set_option maxRecDepth 100000 in
set_option maxHeartbeats 2000000 in
theorem pwrite_q (hP : Pq S n L N A C sure now) (h : PgAt w p d pg j S J L N rd ms mn sure now H) (q off : Int) (s : List UInt8) (hq : -9223372036854775808 ≤ q ∧ q ≤ 9223372036854775807) (ho : -9223372036854775808 ≤ off ∧ off ≤ 9223372036854775807) (hsl : s.length ≤ 9223372036854775807) :
    Calls Try.prog 48 #[ob pg, .int .i64 q, .int .i64 off, .string (bs s)] w fun e w' => PWr p d pg j S J L N rd ms mn sure (wrM N C now q off s) H (okE (wrB N q off s.length)) w e w' := by
  obtain ⟨c0, c1, c2, c3, c4, c5, c6⟩ := h.cells
  have hys : (bs s).size = s.length := bs_size s
  have FIN : Hid (wrB N q off s.length = false → PWr p d pg j S J L N rd ms mn sure (wrM N C now q off s) H (okE (wrB N q off s.length)) w (.returned (.int .i64 1)) w) := Lib.hid fun hb => by
    refine ⟨by rw [hb]; rfl, ?_, (Step.refl (one mn) w).regroup fun i hi => by cases hi⟩
    unfold wrM
    rw [hb, if_neg (by simp)]
    exact h
  obtain ⟨m, hm⟩ : ∃ m, s.length = m := ⟨_, rfl⟩
  have HM := Lib.hid hm
  rw [hm] at hys hsl
  obtain ⟨P, hPd⟩ : ∃ P : Ending → World → Prop, (fun e w' => PWr p d pg j S J L N rd ms mn sure (wrM N C now q off s) H (okE (wrB N q off s.length)) w e w') = P := ⟨_, rfl⟩
  have HPD := Lib.hid hPd
  have FIN2 : Hid (wrB N q off m = false → P (.returned (.int .i64 1)) w) := Lib.hid fun hb => by
    rw [← HPD.out]
    exact FIN.out (by rw [HM.out]; exact hb)
  have EXP : Hid (∀ e w', PWr p d pg j S J L N rd ms mn sure (wrM N C now q off s) H (okE (wrB N q off s.length)) w e w' → P e w') := Lib.hid fun e w' hh => by rw [← HPD.out]; exact hh
  rw [hPd]
  clear hPd hm FIN
  by_cases h1 : q < 0
  · have e1 : decide (q < 0) = true := decide_eq_true h1
    have HF := Lib.hid (FIN2.out (by unfold wrB; rw [decide_eq_false (show ¬ 0 ≤ q by omega)]; rfl))
    generalize bs s = y at *
    clear h hP c0 c1 c2 c3 c4 c5 c6
    go_enter Try.func48, Try.ntmps48
    go_wp2_with fail
    exact HF.out
  have e1 : decide (q < 0) = false := decide_eq_false h1
  obtain ⟨k, rfl⟩ : ∃ k : Nat, q = (k : Int) := ⟨q.toNat, by omega⟩
  by_cases h2 : k < N
  case neg =>
    have e2 : decide ((N : Int) ≤ (k : Int)) = true := decide_eq_true (by omega)
    have e2' : decide (N ≤ k) = true := decide_eq_true (by omega)
    have HF := Lib.hid (FIN2.out (by unfold wrB; rw [decide_eq_false (show ¬ (k : Int) < (N : Int) by omega)]; simp))
    generalize bs s = y at *
    clear h hP c0 c1 c3 c4 c5 c6
    go_enter Try.func48, Try.ntmps48
    go_wp2_with fail
    exact HF.out
  have e2 : decide ((N : Int) ≤ (k : Int)) = false := decide_eq_false (by omega)
  have e2' : decide (N ≤ k) = false := decide_eq_false (by omega)
  by_cases h3 : off < 0
  · have e3 : decide (off < 0) = true := decide_eq_true h3
    have HF := Lib.hid (FIN2.out (by unfold wrB; rw [decide_eq_false (show ¬ 0 ≤ off by omega)]; simp))
    generalize bs s = y at *
    clear h hP c0 c1 c3 c4 c5 c6
    go_enter Try.func48, Try.ntmps48
    go_wp2_with fail
    exact HF.out
  have e3 : decide (off < 0) = false := decide_eq_false h3
  obtain ⟨o, rfl⟩ : ∃ o : Nat, off = (o : Int) := ⟨off.toNat, by omega⟩
  by_cases h4 : 256 < o
  · have e4 : decide ((256 : Int) < (o : Int)) = true := decide_eq_true (by omega)
    have e4' : decide (256 < o) = true := decide_eq_true (by omega)
    have HF := Lib.hid (FIN2.out (by unfold wrB; rw [decide_eq_false (show ¬ (o : Int) ≤ 256 by omega)]; simp))
    generalize bs s = y at *
    clear h hP c0 c1 c3 c4 c5 c6
    go_enter Try.func48, Try.ntmps48
    go_wp2_with fail
    exact HF.out
  have e4 : decide ((256 : Int) < (o : Int)) = false := decide_eq_false (by omega)
  have e4' : decide (256 < o) = false := decide_eq_false (by omega)
  by_cases h5 : o + m ≤ 256
  case neg =>
    have e5 : decide ((256 : Int) - (o : Int) < (m : Int)) = true := decide_eq_true (by omega)
    have HF := Lib.hid (FIN2.out (by unfold wrB; rw [decide_eq_false (show ¬ (m : Int) ≤ 256 - (o : Int) by omega)]; simp))
    generalize bs s = y at *
    clear h hP c0 c1 c3 c4 c5 c6
    go_enter Try.func48, Try.ntmps48
    go_wp2_with fail
    exact HF.out
  have e5 : decide ((256 : Int) - (o : Int) < (m : Int)) = false := decide_eq_false (by omega)
  have hwb : wrB N (k : Int) (o : Int) s.length = true := by
    unfold wrB
    simp only [Bool.and_eq_true, decide_eq_true_eq]
    rw [HM.out]; omega
  have hrd := pread_q hP h (k : Int) (by omega)
  have hv : readV N C (k : Int) = .tuple #[.string (bs (C k)), .int .i64 0] := by unfold readV; rw [if_pos (by omega), Int.toNat_natCast]
  rw [hv] at hrd
  have HRD := Lib.hid hrd
  have hCl := hP.fullC k h2
  clear hv hrd
  by_cases hs : s = []
  · subst hs
    have hm0 : m = 0 := by rw [← HM.out]; rfl
    subst hm0
    have HX : Hid (∀ w', Below w.heap.size w w' → P (.returned (.int .i64 0)) w') := Lib.hid fun w' hb => EXP.out _ _ ⟨by rw [hwb]; rfl, by unfold wrM; rw [if_neg (by simp)]; exact h.below hb, (Step.of_below hb (one mn)).regroup fun i hi => by cases hi⟩
    clear h hP c0 c1 c3 c4 c6 hwb
    generalize bs (C k) = x at *
    have hbe : bs [] = (⟨#[]⟩ : ByteArray) := rfl
    rw [hbe] at *
    clear hbe hys
    go_enter Try.func48, Try.ntmps48
    go_wp2_with fail
    refine HRD.out.mono ?_
    rintro e w1 ⟨rfl, hb1⟩
    have HB1 := Lib.hid hb1
    clear hb1
    go_wp2_with fail
    exact HX.out _ HB1.out
  · obtain ⟨X, hX⟩ : ∃ X, bs (C k) = X := ⟨_, rfl⟩
    obtain ⟨y, hy⟩ : ∃ y, bs s = y := ⟨_, rfl⟩
    have hne : y.toList ≠ [] := by rw [← hy, toList_bs]; exact hs
    have hf1 : (y.toList != []) = true := by simpa using hne
    have hf3 : y.toList.isEmpty = false := by simpa using hne
    have hs1 := fun W => slice_bsh W (C k) (o : Int) o rfl (by omega)
    obtain ⟨om, hom⟩ : ∃ om : Nat, o + m = om := ⟨_, rfl⟩
    have hs2 := fun W => slice_bsl W (C k) (om : Int) om rfl (by omega)
    have HOM := Lib.hid hom
    obtain ⟨X1, hX1⟩ : ∃ X1, bs ((C k).take o) = X1 := ⟨_, rfl⟩
    obtain ⟨X2, hX2⟩ : ∃ X2, bs ((C k).drop om) = X2 := ⟨_, rfl⟩
    rw [hX, hX1] at hs1
    rw [hX, hX2] at hs2
    have z1 : X1.size = o := by rw [← hX1, bs_size, List.length_take]; omega
    have z2 : X2.size = 256 - om := by rw [← hX2, bs_size, List.length_drop]; omega
    obtain ⟨X3, hX3⟩ : ∃ X3, X1 ++ y = X3 := ⟨_, rfl⟩
    rw [hy] at hys ⊢
    have z3 : X3.size = om := by rw [← hX3, ByteArray.size_append]; omega
    obtain ⟨X4, hX4⟩ : ∃ X4, X3 ++ X2 = X4 := ⟨_, rfl⟩
    have k1 : ¬ 9223372036854775807 < X1.size + y.size := by omega
    have k2 : ¬ 9223372036854775807 < X3.size + X2.size := by omega
    have k1' : ¬ 9223372036854775807 < X1.size + m := by omega
    have HX4 : Hid (X4 = bs (putAt (C k) o s)) := Lib.hid (by
      rw [← hX4, ← hX3, ← hX1, ← hX2, ← hy, bs_cat, bs_cat]
      unfold putAt
      rw [HM.out, HOM.out])
    have hmE : wrM N C now (k : Int) (o : Int) s = fun t => if t = k then some (putAt (C k) o s) else now t := by
      unfold wrM
      rw [if_pos ⟨hwb, hs⟩, Int.toNat_natCast, Int.toNat_natCast]
    have HX : Hid (∀ w1 w', Below w.heap.size w w1 → MapAt w' 3 mn N (mapV (wrM N C now (k : Int) (o : Int) s)) → w1.grownBy w' (some mn) → P (.returned (.int .i64 0)) w') := Lib.hid fun w1 w' hb hm hg => EXP.out _ _ (by
      have hst : Step (one mn) No w w' := ((Step.of_below hb (one mn)).grown hg (fun i e => .inl (by cases e; rfl))).regroup fun i hi => by cases hi
      refine ⟨by rw [hwb]; rfl, ?_, hst⟩
      have hd : Dis (one mn) (pgF H pg ms (w.heap.size + pg + mn + 1)) := by
        intro i hi hf
        have hi : i = mn := hi
        subst hi
        have hlt := h.now.lt
        rcases hf with hf | hf | hf | hf
        · exact h.nn hf
        · exact h.pm.2 hf.symm
        · exact h.ne hf.symm
        · omega
      have hlt2 : ∀ i, (H i ∨ i = pg ∨ i = ms) → w'.heap[i]? = w.heap[i]? := fun i hi => by
        refine hst.block i ?_ fun e => ?_
        · rcases hi with hi | rfl | rfl
          · exact h.jp.lt i hi
          · exact h.self.lt
          · exact h.sure.lt
        · exact hd i e (by rcases hi with hi | hi | hi; exact .inl hi; exact .inr (.inl hi); exact .inr (.inr (.inl hi)))
      exact ⟨h.jp.keep (fun i hi => hlt2 i (.inl hi)) hst.size, (hlt2 pg (.inr (.inl rfl))).trans h.self, h.sure.keep (hlt2 ms (.inr (.inr rfl))), hm, h.ne, h.np, h.ns, h.nn⟩)
    have HMAP := Lib.hid h.now
    have HC5 : Hid (∀ W, Below w.heap.size w W → W.cell? ⟨pg, 5, none⟩ = some (.map (some mn))) := Lib.hid fun W hb => below_cell hb c5
    rw [hmE, mapV_set] at HX
    rw [hX] at HRD
    rw [← HX4.out] at HX
    have hsum : IntKind.i64.wrap ((o : Int) + (m : Int)) = (om : Int) := by rw [IntKind.wrap_i64]; omega
    clear hom hX hX1 hX2 h hP hs hne hwb hCl hmE HX4 hy c0 c1 c3 c4 c5 c6 z1 z2 z3 FIN2 EXP HPD HM
    go_enter Try.func48, Try.ntmps48
    go_wp2_with fail
    refine HRD.out.mono ?_
    rintro e w1 ⟨rfl, hb1⟩
    have HB1 := Lib.hid hb1
    have c15 := HC5.out w1 hb1
    obtain ⟨w3, hr3, hm3, hg3, hz3⟩ := (HMAP.out.keep (hb1.drew.block mn HMAP.out.lt)).store (w := w1.drew) Try.underlying3 Try.underlying144 k h2 (.string X4)
    have HF := Lib.hid (HX.out _ _ HB1.out.drew hm3 hg3)
    clear hb1 hm3 hg3 hz3 HX
    go_upto_region 5 with (fail)
    go_still_tail 17, (by kernel_rfl)
    change wpList _ _ _ _ _ w1.drew
    go_wp2_with fail
    exact HF.out
theorem pwrite_at (hP : Pg S J n L N g rs A C sure now) (h : PgAt w p d pg j S J L N rd ms mn sure now H) (q off : Int) (s : List UInt8) (hq : -9223372036854775808 ≤ q ∧ q ≤ 9223372036854775807) (ho : -9223372036854775808 ≤ off ∧ off ≤ 9223372036854775807) (hsl : s.length ≤ 9223372036854775807) :
    Calls Try.prog 48 #[ob pg, .int .i64 q, .int .i64 off, .string (bs s)] w fun e w' => PWr p d pg j S J L N rd ms mn sure (wrM N C now q off s) H (okE (wrB N q off s.length)) w e w' := pwrite_q hP.pq h q off s hq ho hsl
end
end Go.Proofs.Ytjmhfjioccljeaa
/-
  Walks of package pager: changes, Changed.
-/
namespace Go.Proofs.Ytjmhfjioccljeaa
open Go.RowKit
set_option linter.unusedVariables false
set_option linter.unusedSimpArgs false
attribute [local go_sem ↓] Go.wp_at_zero Go.wp_at_succ

theorem idx_bs (W : World) (b : List UInt8) (k : Nat) (hb : k < b.length) :
    (Instr.index 9 (.string (bs b)) (.int .i64 (k : Int))).run Try.prog W = .ok (.int .u8 ((b.getD k 0).toNat : Int)) W := by
  have hsz := bs_size b
  rw [run_index_string W 9 (bs b) .i64 (k : Int) Try.underlying9, dif_pos ⟨by omega, by omega⟩]
  simp [bs, List.getD, hb]
  rfl
/-- the three items of a change, as the walk lays them -/
theorem lit_three (w : World) (q f : Nat) (s : List UInt8) (z : ByteArray) (hz : bs s = z) : ∀ (j : Nat) (u : Value), (icI (Pt.its ⟨q, f, s⟩))[j]? = some u →
    (w.alloc (.cells #[.int .i64 1, .int .i64 (q : Int), .string ⟨#[]⟩, .int .i64 1, .int .i64 (f : Int), .string ⟨#[]⟩, .int .i64 2, .int .i64 0, .string z] 164)).cell? ((⟨w.heap.size, 0, none⟩ : Addr).add j) = some u := by
  subst hz
  intro j u hu
  exact cells_new w (icI (Pt.its ⟨q, f, s⟩)) 164 j u hu
theorem its_snoc (l : List Pt) (p : Pt) : itsL (l ++ [p]) = itsL l ++ p.its := by simp [itsL]
theorem icI_len3 (p : Pt) : (icI p.its).length = 9 := by simp [icI_length, Pt.its]
theorem own_own_ne {w : World} {b1 b2 n1 n2 s1 s2 c1 c2 : Nat} {e1 e2 : TypeId} {A1 A2 : Option Addr} {x1 x2 : List Value} (h1 : OwnR w b1 e1 s1 A1 n1 c1 x1) (h2 : OwnR w b2 e2 s2 A2 n2 c2 x2) (hne : e1 ≠ e2) : ∀ k, blk A1 = some k → blk A2 ≠ some k := fun k hk => by
  obtain ⟨cs, hb⟩ : ∃ cs, Blk w k e1 cs := by
    rcases h1.2 with ⟨e0, _⟩ | ⟨g, cap, cur, e0, _, hh, _⟩
    · injection e0 with e0; subst e0; simp [blk] at hk
    · injection e0 with e0
      subst e0
      have : g = k := by simpa [blk] using hk
      subst this
      exact ⟨cur, hh⟩
  rw [← ownBlock_slice]
  exact own_blk_ne h2 hb (Ne.symm hne)
/-- the pages of l that are changed -/
def chgOf (A C : Pgs) (l : List Nat) : List Nat := l.filter fun q => decide (A q ≠ C q)
theorem chgOf_snoc (A C : Pgs) (l : List Nat) (q : Nat) : chgOf A C (l ++ [q]) = if A q = C q then chgOf A C l else chgOf A C l ++ [q] := by
  unfold chgOf
  rw [List.filter_append]
  by_cases h : A q = C q
  · rw [if_pos h]; simp [h]
  · rw [if_neg h]; simp [h]
theorem chgOf_le (A C : Pgs) (l : List Nat) : (chgOf A C l).length ≤ l.length := List.length_filter_le _ _
section
variable {w w' : World} {p d pg j L N ms mn n g : Nat} {S : St} {J : Js} {rd : Int} {sure now : Pmap} {H K : Nat → Prop} {rs : List (List Pt)} {A C : Pgs}
theorem chg_keys (hP : Pg S J n L N g rs A C sure now) : chgOf A C (keysOf (mapV now) N) = chgL N A C := by
  unfold chgOf keysOf chgL
  rw [List.filter_filter]
  apply List.filter_congr
  intro q hq
  have hq := List.mem_range.1 hq
  have hc := hP.cur q hq
  unfold mapV
  cases hn : now q with
  | none =>
    rw [hn] at hc
    have : C q = A q := hc
    simp [this]
  | some s => simp
/-- what changes gives -/
def ChgSpec (N : Nat) (A C : Pgs) (w : World) (e : Ending) (w' : World) : Prop :=
  ∃ A1 c1 A2 c2, e = .returned (.tuple #[.slice A1 (chgL N A C).length c1, .slice A2 (3 * (chgL N A C).length) c2, .int .i64 0]) ∧
    OwnZ w' w.heap.size A1 c1 ((chgL N A C).map fun q : Nat => (q : Int)) ∧ OwnI w' w.heap.size A2 c2 (itsL (diffP N A C)) ∧ Below w.heap.size w w'
/-- at a round's head -/
def ChgInv (w : World) (A C : Pgs) (u : List Nat) (A1 : Option Addr) (c1 : Nat) (A2 : Option Addr) (c2 : Nat) (wr : World) : Prop :=
  OwnZ wr w.heap.size A1 c1 (u.map fun q : Nat => (q : Int)) ∧ OwnI wr w.heap.size A2 c2 (itsL (u.map (ptOf A C))) ∧ Below w.heap.size w wr
set_option maxRecDepth 100000 in
set_option maxHeartbeats 4000000 in
theorem changes_at (hP : Pg S J n L N g rs A C sure now) (h : PgAt w p d pg j S J L N rd ms mn sure now H) :
    Calls Try.prog 89 #[ob pg] w fun e w' => ChgSpec N A C w e w' := by
  obtain ⟨c0, c1, c2, c3, c4, c5, c6⟩ := h.cells
  obtain ⟨b1, b2, b3, b4⟩ := hP.pd.bounds
  have HP := Lib.hid hP
  have HH := Lib.hid h
  have HSO := Lib.hid (sortedS_any mn N (mapV now) w h.now)
  obtain ⟨ks, hks⟩ : ∃ ks, keysOf (mapV now) N = ks := ⟨_, rfl⟩
  have HCK := Lib.hid (chg_keys hP)
  have hkl := keysOf_le (mapV now) N
  have HKM : Hid (∀ q ∈ ks, q < N ∧ ∃ s, now q = some s) := Lib.hid (by
    intro q hq
    rw [← hks] at hq
    obtain ⟨h1, h2⟩ := List.mem_filter.1 hq
    refine ⟨List.mem_range.1 h1, ?_⟩
    unfold mapV at h2
    cases hn : now q with
    | none => rw [hn] at h2; simp at h2
    | some s => exact ⟨s, rfl⟩)
  rw [hks] at HSO HCK hkl
  obtain ⟨m, hm⟩ : ∃ m, ks.length = m := ⟨_, rfl⟩
  have HM := Lib.hid hm
  rw [hm] at hkl
  clear hks hm c0 c1 c2 c3 c4 c6 h hP
  have HC5 : Hid (∀ W, Below w.heap.size w W → W.cell? ⟨pg, 5, none⟩ = some (.map (some mn))) := Lib.hid fun W hb => below_cell hb c5
  go_enter Try.func89, Try.ntmps89
  go_wp2_with fail
  refine (keysS_any (some mn) w).mono ?_
  rintro e w1 ⟨rfl, rfl⟩
  go_wp2_with fail
  refine HSO.out.mono ?_
  rintro e w2 ⟨A0, k0, rfl, hown0, hb0⟩
  have hlm : (ks.map fun s : Nat => (s : Int)).length = m := by rw [List.length_map]; exact HM.out
  rw [hlm] at hown0
  rw [hlm]
  have HO0 := Lib.hid hown0
  have HB0 : Hid (Below w.heap.size w w2) := Lib.hid (((Below.refl _ w).alloc (Nat.le_refl _) _).trans (hb0.mono (by simp)))
  clear hown0 hb0 HSO hlm c5
  go_wp2_with fail
  go_loopw [5, 6, 21] (fun v5 v6 i wr => ∃ (t : Nat) (u : List Nat) (A1 : Option Addr) (c1 : Nat) (A2 : Option Addr) (c2 : Nat) (n5 n6 : Nat), i = .int .i64 (t : Int) ∧ t ≤ m ∧ v5 = .slice A1 n5 c1 ∧ v6 = .slice A2 n6 c2 ∧ Hid (n5 = u.length ∧ n6 = 3 * u.length ∧ u = chgOf A C (ks.take t) ∧ u.length ≤ t) ∧ Hid (ChgInv w2 A C u A1 c1 A2 c2 wr)) (fun _ _ i _ => m - (intOf i).toNat)
  case atStart => exact ⟨0, [], none, 0, none, 0, 0, 0, rfl, Nat.zero_le _, rfl, rfl, Lib.hid ⟨rfl, rfl, by simp [chgOf], Nat.le_refl _⟩, Lib.hid ⟨OwnR.nil _ _ _ _, OwnI.nil _ _, Below.refl _ _⟩⟩
  case round =>
    obtain ⟨t, u, A1, c1, A2, c2, n5, n6, rfl, ht, rfl, rfl, HU, HI⟩ := hrel
    have HIB : Hid (Below w.heap.size w wr) := Lib.hid (HB0.out.trans (HI.out.2.2.mono HB0.out.size))
    by_cases hlt : t < m
    · obtain ⟨q, hq⟩ : ∃ q, ks.getD t 0 = q := ⟨_, rfl⟩
      have htk : t < ks.length := by rw [HM.out]; exact hlt
      have hqm : q ∈ ks := by rw [← hq, getD_eq _ _ _ htk]; exact List.getElem_mem htk
      obtain ⟨hqN, s, hns⟩ := HKM.out q hqm
      have HTK : Hid (ks.take (t + 1) = ks.take t ++ [q]) := Lib.hid (by rw [take_snoc ks t htk, ← hq, getD_eq _ _ _ htk])
      obtain ⟨g0, rfl⟩ := OwnR.some_ HO0.out (by omega)
      have hcell := World.ownsRow.cells (OwnR.below' HO0.out HI.out.2.2) rfl t (.int .i64 (q : Int)) (by
        have : (ic (ks.map fun s : Nat => (s : Int)))[t]? = some (.int .i64 (q : Int)) := by
          simp [ic, htk, ← hq, List.getD]
        exact this)
      rw [show (⟨g0, 0, none⟩ : Addr).add t = ⟨g0, t, none⟩ by unfold Addr.add; split <;> simp_all] at hcell
      have HCM := Lib.hid (committed_any HP.out.pd HP.out.com (HH.out.below HIB.out) q hqN)
      have hAl := HP.out.pd.full q hqN
      have hCl := HP.out.fullC q hqN
      have HNS := Lib.hid hns
      have hcs : C q = s := by
        have := HP.out.cur q hqN
        rw [hns] at this; exact this
      have HCS := Lib.hid hcs
      have HL : Hid ((A q).length = 256 ∧ (C q).length = 256) := Lib.hid ⟨hAl, hCl⟩
      have hqb : q < 4000 := by omega
      clear hq htk hqm hns hcs hAl hCl
      go_wp2_with fail
      refine HCM.out.mono ?_
      rintro e w3 ⟨rfl, hb3⟩
      have HB3 := Lib.hid hb3
      have HBw : Hid (Below w.heap.size w w3) := Lib.hid (HIB.out.trans (hb3.mono HIB.out.size))
      have c35 := HC5.out w3 HBw.out
      have hlk := (look_text (HH.out.below HBw.out).now q (by omega)).2
      rw [HNS.out] at hlk
      have hlk2 : (Instr.lookup 144 (.map (some mn)) (.int .i64 (q : Int)) false).run Try.prog w3 = .ok (.string (bs (C q))) w3 := by rw [HCS.out]; exact hlk
      clear hb3 hlk HCM hcell
      by_cases hAC : A q = C q
      · rw [← hAC] at hlk2
        have HU2 : Hid (chgOf A C (ks.take (t + 1)) = u) := Lib.hid (by rw [HTK.out, chgOf_snoc, if_pos hAC]; exact HU.out.2.2.1.symm)
        generalize bs (A q) = x at *
        clear hAC
        go_wp2_with fail
        refine ⟨⟨t + 1, u, A1, c1, A2, c2, n5, n6, int_eq (by omega), by omega, rfl, rfl, Lib.hid ⟨HU.out.1, HU.out.2.1, HU2.out.symm, by have := HU.out.2.2.2; omega⟩, Lib.hid ⟨OwnR.below' HI.out.1 HB3.out, OwnR.below' HI.out.2.1 HB3.out, HI.out.2.2.trans (HB3.out.mono HI.out.2.2.size)⟩⟩, by simp [intOf]; omega⟩
      · have HU2 : Hid (chgOf A C (ks.take (t + 1)) = u ++ [q]) := Lib.hid (by rw [HTK.out, chgOf_snoc, if_neg hAC, ← HU.out.2.2.1])
        obtain ⟨x, hx⟩ : ∃ x, bs (A q) = x := ⟨_, rfl⟩
        obtain ⟨y, hy⟩ : ∃ y, bs (C q) = y := ⟨_, rfl⟩
        have hne : x.toList ≠ y.toList := by rw [← hx, ← hy, toList_bs, toList_bs]; exact hAC
        have hb1 : (x.toList == y.toList) = false := by simpa using hne
        have hb2 : (x.toList != y.toList) = true := by simpa using hne
        have hix : ∀ W (k : Nat), k < 256 → (Instr.index 9 (.string x) (.int .i64 (k : Int))).run Try.prog W = .ok (.int .u8 (((A q).getD k 0).toNat : Int)) W := fun W k hk => by rw [← hx]; exact idx_bs W (A q) k (by rw [HL.out.1]; exact hk)
        have hiy : ∀ W (k : Nat), k < 256 → (Instr.index 9 (.string y) (.int .i64 (k : Int))).run Try.prog W = .ok (.int .u8 (((C q).getD k 0).toNat : Int)) W := fun W k hk => by rw [← hy]; exact idx_bs W (C q) k (by rw [HL.out.2]; exact hk)
        obtain ⟨f0, hf0⟩ : ∃ f, fromN (A q) (C q) = f := ⟨_, rfl⟩
        obtain ⟨t0, ht0⟩ : ∃ z, toN (A q) (C q) = z := ⟨_, rfl⟩
        have hleq : (A q).length = (C q).length := by rw [HL.out.1, HL.out.2]
        obtain ⟨d1, d2⟩ := from_ne (A q) (C q) hleq hAC
        obtain ⟨d3, d4, d5, d6, d7⟩ := to_facts hleq hAC
        have d8 := from_eq (A q) (C q)
        rw [hf0] at d1 d2 d5 d8
        rw [ht0] at d3 d4 d5 d6 d7
        rw [HL.out.1] at d1 d4
        have hgd : ∀ k, k < 256 → ((A q)[k]? = (C q)[k]? ↔ (A q).getD k 0 = (C q).getD k 0) := fun k hk => by
          rw [List.getElem?_eq_getElem (by rw [HL.out.1]; exact hk), List.getElem?_eq_getElem (by rw [HL.out.2]; exact hk), getD_eq _ _ _ (by rw [HL.out.1]; exact hk), getD_eq _ _ _ (by rw [HL.out.2]; exact hk)]
          simp
        have hbyte : ∀ a b : UInt8, (((a.toNat : Int) == (b.toNat : Int)) = true ↔ a = b) := fun a b => by
          rw [beq_iff_eq]
          constructor
          · intro h; exact UInt8.toNat_inj.1 (by omega)
          · intro h; rw [h]
        have HIX := Lib.hid hix
        have HIY := Lib.hid hiy
        have HEQ : Hid (∀ k, k < 256 → (A q)[k]? = (C q)[k]? → ((((A q).getD k 0).toNat : Int) == (((C q).getD k 0).toNat : Int)) = true) := Lib.hid fun k hk h => (hbyte _ _).2 ((hgd k hk).1 h)
        have HNE : Hid (∀ k, k < 256 → (A q)[k]? ≠ (C q)[k]? → ((((A q).getD k 0).toNat : Int) == (((C q).getD k 0).toNat : Int)) = false) := Lib.hid fun k hk h => by
          rw [Bool.eq_false_iff]; intro h2; exact h ((hgd k hk).2 ((hbyte _ _).1 h2))
        have HD2 := Lib.hid d2
        have HD6 := Lib.hid d6
        have HD7 := Lib.hid d7
        have HD8 := Lib.hid d8
        have hsl := fun W => slice_bs W (C q) (f0 : Int) (t0 : Int) f0 (t0 - f0) rfl (by omega) (by rw [HL.out.2]; omega)
        obtain ⟨z, hz⟩ : ∃ z, bs (diffL (A q) (C q)) = z := ⟨_, rfl⟩
        have hdz : bs (((C q).drop f0).take (t0 - f0)) = z := by rw [← hz]; unfold diffL; rw [hf0, ht0]
        rw [hdz, hy] at hsl
        have HSL := Lib.hid hsl
        have HZ := Lib.hid hz
        have HF0 := Lib.hid hf0
        rw [hy] at hlk2
        rw [hx]
        clear hx hy hne hix hiy hf0 ht0 hleq d2 d6 d7 d8 hgd hbyte hsl hz hdz hAC
        go_wp2_with fail
        go_loopw [12] (fun v wr2 => ∃ (f dn : Nat), v = .int .i64 (f : Int) ∧ f ≤ f0 ∧ Hid (wr2 = w3.drewN dn)) (fun v _ => f0 - (intOf v).toNat)
        case atStart => exact ⟨0, 0, rfl, Nat.zero_le _, Lib.hid rfl⟩
        case round =>
          obtain ⟨f, dn, rfl, hf, HW⟩ := hrel
          have hi1 := fun W => HIX.out W f (by omega)
          have hi2 := fun W => HIY.out W f (by omega)
          by_cases hlf : f < f0
          · have hbb := HEQ.out f (by omega) (HD8.out f hlf)
            generalize (((A q).getD f 0).toNat : Int) = ba at *
            generalize (((C q).getD f 0).toNat : Int) = bb at *
            go_wp2_with fail
            go_quiet (fail)
            go_wp2_with fail
            refine ⟨⟨f + 1, dn + nq, int_eq (by omega), by omega, Lib.hid (by rw [HW.out, World.drewN_drewN])⟩, by simp [intOf]; omega⟩
          · have hfe : f = f0 := by omega
            subst hfe
            have hbb := HNE.out f (by omega) HD2.out
            generalize (((A q).getD f 0).toNat : Int) = ba at *
            generalize (((C q).getD f 0).toNat : Int) = bb at *
            go_wp2_with fail
            go_quiet (fail)
            have HWf : Hid (wr.drewN nq = w3.drewN (dn + nq)) := Lib.hid (by rw [HW.out, World.drewN_drewN])
            clear hi1 hi2 hbb HW
            go_wp2_with fail
            go_loopw [13] (fun v wr3 => ∃ (z1 dz : Nat), v = .int .i64 (z1 : Int) ∧ t0 ≤ z1 ∧ z1 ≤ 256 ∧ Hid (wr3 = w3.drewN dz)) (fun v _ => (intOf v).toNat)
            case atStart => exact ⟨256, dn + nq, rfl, d4, Nat.le_refl _, HWf⟩
            case round =>
              obtain ⟨z1, dz, rfl, hz1, hz2, HW⟩ := hrel
              clear HWf
              obtain ⟨zz, hzz⟩ : ∃ zz : Nat, z1 - 1 = zz := ⟨_, rfl⟩
              have hzi : (z1 : Int) - 1 = (zz : Int) := by omega
              have hzw : IntKind.i64.wrap ((z1 : Int) - 1) = (zz : Int) := by rw [IntKind.wrap_i64]; omega
              have HZZ := Lib.hid hzz
              have hi1 := fun W => HIX.out W zz (by omega)
              have hi2 := fun W => HIY.out W zz (by omega)
              by_cases hlz : t0 < z1
              · have hbb := HEQ.out zz (by omega) (HD7.out zz (by omega))
                generalize (((A q).getD zz 0).toNat : Int) = ba at *
                generalize (((C q).getD zz 0).toNat : Int) = bb at *
                clear hzz
                go_wp2_with fail
                go_quiet (fail)
                go_wp2_with fail
                refine ⟨⟨zz, dz + nq, rfl, by have := HZZ.out; omega, by have := HZZ.out; omega, Lib.hid (by rw [HW.out, World.drewN_drewN])⟩, by simp [intOf]; have := HZZ.out; omega⟩
              · have hze : z1 = t0 := by omega
                subst hze
                have hbb := HNE.out zz (by omega) (by rw [← hzz]; exact HD6.out)
                generalize (((A q).getD zz 0).toNat : Int) = ba at *
                generalize (((C q).getD zz 0).toNat : Int) = bb at *
                clear hzz
                go_wp2_with fail
                go_quiet (fail)
                obtain ⟨W4, hW4⟩ : ∃ W4, wr.drewN nq = W4 := ⟨_, rfl⟩
                have HB4 : Hid (Below w3.heap.size w3 W4) := Lib.hid (by rw [← hW4, HW.out, World.drewN_drewN]; exact below_drewN (Below.refl _ _) _)
                have hsl := HSL.out W4
                have hsl2 := fun W => HSL.out W
                have HO5 : Hid (OwnZ W4 w2.heap.size A1 c1 (u.map fun q : Nat => (q : Int)) ∧ OwnI W4 w2.heap.size A2 c2 (itsL (u.map (ptOf A C))) ∧ Below w2.heap.size w2 W4) := Lib.hid ⟨OwnR.below' (OwnR.below' HI.out.1 HB3.out) HB4.out, OwnR.below' (OwnR.below' HI.out.2.1 HB3.out) HB4.out, (HI.out.2.2.trans (HB3.out.mono HI.out.2.2.size)).trans (HB4.out.mono (Nat.le_trans HI.out.2.2.size HB3.out.size))⟩
                rw [hW4]
                have hul : (u.map fun q : Nat => (q : Int)).length = n5 := by rw [List.length_map]; exact HU.out.1.symm
                have HUL := Lib.hid hul
                have HIL : Hid ((itsL (u.map (ptOf A C))).length = n6) := Lib.hid (by rw [its_length, List.length_map, HU.out.2.1])
                have HIT : Hid (icI (Pt.its ⟨q, f, diffL (A q) (C q)⟩) = icI (Pt.its (ptOf A C q))) := Lib.hid (by unfold ptOf; rw [HF0.out])
                clear hi1 hi2 hbb HW hW4 hsl hul HB4
                have HAP : Hid (∀ k, blk A1 = some k → blk A2 ≠ some k) := Lib.hid (own_own_ne HO5.out.1 HO5.out.2.1 (by decide))
                have hA2l : ∀ k, blk A2 = some k → k < (W4.alloc (.cells #[.int .i64 (q : Int)] 3)).heap.size := fun k hk => by have := (OwnR.lt HO5.out.2.1 k hk).2; simp; omega
                have HA2L := Lib.hid hA2l
                clear hA2l
                go_wp2_with (first | (at_builtin; refine wpList_app rfl (.tmp 67) (.tmp 77) 147 rfl w2.heap.size 164 _ 3 32 Try.underlying147 info_item rfl (by decide) A2 n6 c2 (icI (itsL (u.map (ptOf A C)))) rfl (by rw [← HIL.out]; exact OwnR.alloc HI5.out _) ⟨w5.heap.size, 0, none⟩ 3 3 (icI (Pt.its ⟨q, f, diffL (A q) (C q)⟩)) rfl (by rw [icI_len3]) (lit_three w5 q f _ z HZ.out) (icI_one _) (by unfold maxLen; have h1 := HU.out.2.2.2; have h2 := HU.out.2.1; omega) (by have h1 := HU.out.2.2.2; have h2 := HU.out.2.1; omega) (by have := HB5.out.size; simp; omega) ?_; (intro A4 c4 w6 hown6 hg6 hat6; rw [HIT.out] at hown6; have HI6 := Lib.hid hown6; have HZ6 : Hid (OwnZ w6 w2.heap.size A3 c3 (u.map (fun q : Nat => (q : Int)) ++ [(q : Int)])) := Lib.hid (OwnR.block (OwnR.alloc HZ5.out _) (fun kk hkk => hg6.block kk (OwnR.lt (OwnR.alloc HZ5.out _) kk hkk).2 (fun e => HAP5.out kk hkk e.symm))); have HB6 : Hid (Below w2.heap.size w2 w6) := Lib.hid ((HB5.out.alloc HB5.out.size _).grown hg6 (by have := HB5.out.size; simp; omega) (fun kk e => (OwnR.lt HI5.out kk e).1)); clear hown6 hg6 hat6)) | (at_builtin; go_must (refine wpList_appZd (.inl rfl) (.tmp 63) (.tmp 65) rfl w2.heap.size A1 n5 c1 _ rfl HUL.out.symm (OwnR.alloc HO5.out.1 _) (some ⟨W4.heap.size, 0, none⟩) 1 1 [(q : Int)] rfl rfl (rdz_lit _ [(q : Int)] rfl) (by rw [HUL.out]; have := HU.out.2.2.2; have := HU.out.1; simp; omega) (by have := HO5.out.2.2.size; simp; omega) ?_); (intro A3 c3 w5 hown5 hg5 hat5; rw [HUL.out]; have HZ5 := Lib.hid hown5; have HI5 : Hid (OwnI w5 w2.heap.size A2 c2 (itsL (u.map (ptOf A C)))) := Lib.hid (OwnR.block (OwnR.alloc HO5.out.2.1 _) (fun kk hkk => hg5.block kk (HA2L.out kk hkk) (fun e => HAP.out kk e.symm hkk))); have HB5 : Hid (Below w2.heap.size w2 w5) := Lib.hid ((HO5.out.2.2.alloc HO5.out.2.2.size _).grown hg5 (by have := HO5.out.2.2.size; simp; omega) (fun kk e => (OwnR.lt HO5.out.1 kk e).1)); have HAP5 : Hid (∀ k, blk A3 = some k → blk A2 ≠ some k) := Lib.hid (own_own_ne HZ5.out HI5.out (by decide)); clear hown5 hg5 hat5)))
                refine ⟨⟨t + 1, u ++ [q], A3, c3, A4, c4, n5 + 1, n6 + 3, int_eq (by omega), by omega, rfl, rfl, Lib.hid ⟨?_, ?_, HU2.out.symm, ?_⟩, Lib.hid ⟨?_, ?_, HB6.out⟩⟩, by simp [intOf]; omega⟩
                · rw [List.length_append, ← HU.out.1]; rfl
                · rw [List.length_append, HU.out.2.1]; simp; omega
                · have := HU.out.2.2.2; rw [List.length_append]; simp; omega
                · have := HZ6.out
                  rw [List.map_append]; exact this
                · have := HI6.out
                  unfold OwnI
                  rw [List.map_append, List.map_singleton, its_snoc, icI_append, List.length_append, HIL.out]
                  exact this
    · have hte : t = m := by omega
      subst hte
      have hul : u = chgL N A C := by
        have := HU.out.2.2.1
        rw [List.take_of_length_le (by rw [HM.out]; omega), HCK.out] at this
        exact this
      subst hul
      have HN5 := Lib.hid HU.out.1
      have HN6 := Lib.hid HU.out.2.1
      go_wp2_with fail
      go_ret3
      have h5 := HN5.out
      have h6 := HN6.out
      subst h5 h6
      refine ⟨A1, c1, A2, c2, rfl, OwnR.mono HI.out.1 HB0.out.size, ?_, HIB.out⟩
      exact OwnR.mono HI.out.2.1 HB0.out.size
/-- the pages that are changed -/
def ChangedSpec (N : Nat) (A C : Pgs) (w : World) (e : Ending) (w' : World) : Prop :=
  ∃ A1 c1, e = .returned (.slice A1 (chgL N A C).length c1) ∧ OwnZ w' w.heap.size A1 c1 ((chgL N A C).map fun q : Nat => (q : Int)) ∧ Below w.heap.size w w'
set_option maxRecDepth 100000 in
theorem changed_at (hP : Pg S J n L N g rs A C sure now) (h : PgAt w p d pg j S J L N rd ms mn sure now H) :
    Calls Try.prog 63 #[ob pg] w fun e w' => ChangedSpec N A C w e w' := by
  have HC := Lib.hid (changes_at hP h)
  clear hP h
  go_enter Try.func63, Try.ntmps63
  go_wp2_with fail
  refine HC.out.mono ?_
  rintro e w' ⟨A1, c1, A2, c2, rfl, h1, h2, h3⟩
  have H1 := Lib.hid (And.intro h1 h3)
  clear h1 h2 h3
  go_wp2_with fail
  go_ret
  exact ⟨A1, c1, rfl, H1.out.1, H1.out.2⟩
end
end Go.Proofs.Ytjmhfjioccljeaa
/-
  Walks of package pager: Mark, Back; the calls of no pager.
-/
namespace Go.Proofs.Ytjmhfjioccljeaa
open Go.RowKit
set_option linter.unusedVariables false
set_option linter.unusedSimpArgs false
attribute [local go_sem ↓] Go.wp_at_zero Go.wp_at_succ

theorem info_pager : ∃ i, Try.prog.info? 146 = some i ∧ i.size ≠ 0 := by
  have h : (Try.prog.info? 146).map (·.size) = some 7 := by kernel_rfl
  cases hi : Try.prog.info? 146 with
  | none => rw [hi] at h; simp at h
  | some i => rw [hi] at h; exact ⟨i, rfl, by simp at h; omega⟩
theorem neq_pager_same (w : World) (a : Nat) : (binOp .neq 82 (ob a) (ob a)).run Try.prog w = .ok (.bool false) w := by
  obtain ⟨i, hi, _⟩ := info_pager
  exact Lib.run_neq_ptr_same w ⟨a, 0, none⟩ Try.underlying82 hi
theorem neq_pager_other (w : World) (a b : Nat) {t1 t2 : TypeId} {x y : Array Value} (ha : Blk w a t1 x) (hb : Blk w b t2 y) (hne : a ≠ b) : (binOp .neq 82 (ob a) (ob b)).run Try.prog w = .ok (.bool true) w := by
  obtain ⟨i, hi, hsz⟩ := info_pager
  have hab : (⟨a, 0, none⟩ : Addr) ≠ ⟨b, 0, none⟩ := fun e => hne (by injection e)
  have h : ∀ d : Nat, (Op.equalIn (d + 1) 82 (.pointer (some ⟨a, 0, none⟩)) (.pointer (some ⟨b, 0, none⟩))).run Try.prog w = .ok false w := fun d => by
    simp [Op.equalIn, run_underlying Try.underlying82, sizeOf, typeInfo, hi, hsz, run_sameAddr_other w hab ha hb]
  unfold ob
  simp only [binOp]
  simp [Op.equal, Op.maxDepth, h 9999]
/-- a mark in memory: whose it is, the map it keeps -/
structure MkAt (w : World) (mk pg mm N : Nat) (m : Pmap) (rd : Int) : Prop where
  self : Blk w mk 156 #[ob pg, .map (some mm), .int .i64 rd]
  map : MapAt w 3 mm N (mapV m)
def mkF (mk mm i : Nat) : Prop := i = mk ∨ i = mm
section
variable {w w' : World} {p d pg j L N ms mn n g mk mm : Nat} {S : St} {J : Js} {rd rd' : Int} {sure now m : Pmap} {H K : Nat → Prop} {rs : List (List Pt)} {A C : Pgs}
theorem MkAt.lt (h : MkAt w mk pg mm N m rd) : Lt (mkF mk mm) w.heap.size := fun i hi => by
  rcases hi with rfl | rfl
  · exact h.self.lt
  · exact h.map.lt
theorem MkAt.keep (h : MkAt w mk pg mm N m rd) (hs : Same (mkF mk mm) w w') : MkAt w' mk pg mm N m rd := ⟨h.self.same hs (.inl rfl), h.map.keep (hs mm (.inr rfl))⟩
theorem MkAt.below (h : MkAt w mk pg mm N m rd) (hb : Below w.heap.size w w') : MkAt w' mk pg mm N m rd := h.keep (Same.of_below hb h.lt)
def MarkSpec (pg N : Nat) (now : Pmap) (rd : Int) (w : World) (e : Ending) (w' : World) : Prop :=
  ∃ mk mm, e = .returned (ob mk) ∧ MkAt w' mk pg mm N now rd ∧ Below w.heap.size w w' ∧ Ge (mkF mk mm) w.heap.size
set_option maxRecDepth 100000 in
set_option maxHeartbeats 1000000 in
theorem mark_at (h : PgAt w p d pg j S J L N rd ms mn sure now H) : Calls Try.prog 62 #[ob pg] w fun e w' => MarkSpec pg N now rd w e w' := by
  obtain ⟨c0, c1, c2, c3, c4, c5, c6⟩ := h.cells
  have HCL := Lib.hid (clonem_any mn N (mapV now) w.drew (h.now.keep rfl))
  clear h c0 c1 c2 c3 c4
  go_enter Try.func62, Try.ntmps62
  go_wp2_with fail
  go_region_held3 (fun W : World => W.cell? ⟨pg, 5, none⟩ = some (.map (some mn)) ∧ W.cell? ⟨pg, 6, none⟩ = some (.int .i64 rd)) (first | exact ⟨c5, c6⟩ | exact ⟨below_cell (undrew HB1.out) c5, below_cell (undrew HB1.out) c6⟩ | exact ⟨below_cell HB2.out c5, below_cell HB2.out c6⟩) (first | (go_at_call 100; refine HCL.out.mono ?_; rintro e w1 ⟨rfl, hm1, hb1, hz1⟩; have HB1 := Lib.hid hb1; have HM1 := Lib.hid hm1; have HZ1 := Lib.hid hz1; have HB2 : Hid (Below w.heap.size w (w1.alloc (.cells #[ob pg, .map (some w.heap.size), .int .i64 rd] 156))) := Lib.hid ((undrew hb1).alloc (undrew hb1).size _); clear hb1 hm1 hz1))
  go_wp2_with fail
  go_ret
  refine ⟨w1.heap.size, w.heap.size, rfl, ⟨Blk.new _ _ _, ?_⟩, HB2.out, fun i hi => ?_⟩
  · exact HM1.out.keep (Below.heap_alloc _ _ _ HM1.out.lt)
  · have := HB1.out.size
    have e : w.drew.heap.size = w.heap.size := rfl
    rcases hi with rfl | rfl <;> omega
/-- a mark that is taken back -/
def BackSpec (p d pg j : Nat) (S : St) (J : Js) (L N : Nat) (rd : Int) (ms : Nat) (sure m : Pmap) (H : Nat → Prop) (w : World) (e : Ending) (w' : World) : Prop :=
  e = .returned (.int .i64 0) ∧ ∃ mn', PgAt w' p d pg j S J L N rd ms mn' sure m H ∧ Step (one pg) No w w' ∧ w.heap.size ≤ mn'
set_option maxRecDepth 100000 in
set_option maxHeartbeats 1000000 in
theorem back_at (h : PgAt w p d pg j S J L N rd ms mn sure now H) (hm : MkAt w mk pg mm N m rd) : Calls Try.prog 64 #[ob pg, ob mk] w fun e w' => BackSpec p d pg j S J L N rd ms sure m H w e w' := by
  obtain ⟨c0, c1, c2, c3, c4, c5, c6⟩ := h.cells
  have m0 : w.cell? ⟨mk, 0, none⟩ = some (ob pg) := hm.self.cell 0
  have m1 : w.cell? ⟨mk, 1, none⟩ = some (.map (some mm)) := hm.self.cell 1
  have m2 : w.cell? ⟨mk, 2, none⟩ = some (.int .i64 rd) := hm.self.cell 2
  have HCL : Hid (∀ W, Below w.heap.size w W → Calls Try.prog 100 #[.map (some mm)] W fun e w' => CloneAt mm N (mapV m) W e w') := Lib.hid fun W hb => clonem_any mm N (mapV m) W (hm.below hb).map
  have HH := Lib.hid h
  have HM1 : Hid (∀ W, Below w.heap.size w W → W.cell? ⟨mk, 1, none⟩ = some (.map (some mm))) := Lib.hid fun W hb => below_cell hb m1
  have HF5 : Hid (∀ W, Below w.heap.size w W → W.cell? ⟨pg, 5, none⟩ = some (.map (some mn)) ∧ W.frozen? ⟨pg, 5, none⟩ = false) := Lib.hid fun W hb => ⟨below_cell hb c5, (h.below hb).self.frozen 5⟩
  have hq := fun W => neq_pager_same W pg
  clear h hm c0 c1 c2 c3 c4
  go_enter Try.func64, Try.ntmps64
  go_wp2_with fail
  go_quiet (fail)
  have HBq : Hid (Below w.heap.size w (w.drewN nq)) := Lib.hid (below_drewN (Below.refl _ _) _)
  obtain ⟨W, hW⟩ : ∃ W, w.drewN nq = W := ⟨_, rfl⟩
  rw [hW] at HBq
  rw [hW]
  have n1 := HM1.out W HBq.out
  clear hW m0 m1 m2 c5 c6 hq
  go_wp2_with fail
  refine (HCL.out W HBq.out).mono ?_
  rintro e w1 ⟨rfl, hm1, hb1, hz1⟩
  have HB1 : Hid (Below w.heap.size w w1) := Lib.hid (HBq.out.trans (hb1.mono HBq.out.size))
  have HMM := Lib.hid hm1
  have HWS : Hid (w.heap.size ≤ W.heap.size) := Lib.hid HBq.out.size
  obtain ⟨f1, f2⟩ := HF5.out w1 HB1.out
  clear hm1 hb1 hz1 n1
  go_wp2_with fail
  go_ret
  have h1 := HH.out.below HB1.out
  have hpg := h1.self
  have hlt := HH.out.self.lt
  have hst : Step (one pg) No w (w1.setCell ⟨pg, 5, none⟩ (.map (some W.heap.size))) := ((Step.of_below HB1.out (one pg)).setCell (a := ⟨pg, 5, none⟩) (.inl rfl) _).regroup fun i hi => by cases hi
  have hk : ∀ i, i ≠ pg → (w1.setCell ⟨pg, 5, none⟩ (.map (some W.heap.size))).heap[i]? = w1.heap[i]? := fun i hi => Below.heap_setCell w1 _ _ i hi
  have hsz : (w1.setCell ⟨pg, 5, none⟩ (.map (some W.heap.size))).heap.size = w1.heap.size := by simp [World.setCell]
  refine ⟨rfl, W.heap.size, ⟨h1.jp.keep (fun i hi => hk i fun e => h1.np (by rw [← e]; exact hi)) (by omega), hpg.set_ 5 _, h1.sure.keep (hk ms h1.pm.1.symm), HMM.out.keep (hk _ (by have := HWS.out; omega)), fun e => ?_, h1.np, h1.ns, fun hf => ?_⟩, hst, HWS.out⟩
  · have := HH.out.sure.lt; have := HWS.out; omega
  · have := HH.out.jp.lt _ hf; have := HWS.out; omega
def Refused (w : World) (e : Ending) (w' : World) : Prop := e = .returned (.int .i64 1) ∧ Below w.heap.size w w'
set_option maxRecDepth 100000 in
set_option maxHeartbeats 1000000 in
theorem back_other (h : PgAt w p d pg j S J L N rd ms mn sure now H) {pg2 : Nat} {t2 : TypeId} {y : Array Value} (hm : MkAt w mk pg2 mm N m rd') (h2 : Blk w pg2 t2 y) (hne : pg2 ≠ pg ∨ rd' ≠ rd) : Calls Try.prog 64 #[ob pg, ob mk] w fun e w' => Refused w e w' := by
  obtain ⟨c0, c1, c2, c3, c4, c5, c6⟩ := h.cells
  have m0 : w.cell? ⟨mk, 0, none⟩ = some (ob pg2) := hm.self.cell 0
  have m2 : w.cell? ⟨mk, 2, none⟩ = some (.int .i64 rd') := hm.self.cell 2
  have HO : Hid (∀ W, Below w.heap.size w W → Blk W pg2 t2 y ∧ Blk W pg 146 _) := Lib.hid fun W hb => ⟨h2.below_ hb, h.self.below_ hb⟩
  clear h hm h2 c0 c1 c2 c3 c4 c5
  by_cases hp : pg2 = pg
  · subst hp
    have hr : rd' ≠ rd := hne.resolve_left (by simp)
    have hb1 : (rd' == rd) = false := by simpa using hr
    have hb2 : (rd' != rd) = true := by simpa using hr
    have hq := fun W => neq_pager_same W pg2
    clear hne hr
    go_enter Try.func64, Try.ntmps64
    go_wp2_with fail
    go_quiet (fail)
    go_wp2_with fail
    go_ret
    exact ⟨rfl, below_drewN (Below.refl _ _) _⟩
  · have hq := fun W hW => neq_pager_other W pg2 pg (HO.out W hW).1 (HO.out W hW).2 hp
    have hq1 := hq w (Below.refl _ _)
    have hq2 := fun n => hq (w.drewN n) (below_drewN (Below.refl _ _) n)
    clear hq hne
    go_enter Try.func64, Try.ntmps64
    go_wp2_with fail
    go_quiet (fail)
    go_wp2_with fail
    go_ret
    exact ⟨rfl, below_drewN (Below.refl _ _) _⟩
end
end Go.Proofs.Ytjmhfjioccljeaa
