/-
  Walks of package disk: NewPower, Arm, Off, New, and the calls of a nil power and of a nil disk.
-/
import Derived.Test.YtjmhfjioccljeaaDiskE
namespace Go.Proofs.Ytjmhfjioccljeaa
open Go.RowKit
set_option linter.unusedVariables false
set_option linter.unusedSimpArgs false
attribute [local go_sem ↓] Go.wp_at_zero Go.wp_at_succ

theorem PwAt.pself {w : World} {p c : Nat} {ds : List (Nat × Dk)} {off : Bool} {arm lf : Int} {A : Option Addr} {Fs : Nat → Nat → Prop} (h : PwAt w p ds off arm A c lf Fs) : PwSelf w p (.slice A ds.length c) off arm := ⟨lf, h.self, h.left⟩
def NewPowerSpec (w : World) (e : Ending) (w' : World) : Prop :=
  ∃ F, e = .returned (ob w.heap.size) ∧ PwR w' w.heap.size [] false (-1) F ∧ Step No F w w'
theorem newPower_any (w : World) : Calls Try.prog 30 #[] w fun e w' => NewPowerSpec w e w' := by
  go_enter Try.func30, Try.ntmps30
  go_wp2
  go_ret
  refine ⟨_, rfl, ⟨none, 0, 0, fun _ => No, ⟨Blk.new w _ _, by omega, by omega, OwnR.nil _ _ _ _, fun k x hx => by simp at hx, fun j k hj => by simp at hj, fun k hk => by simp at hk, fun k b hk => by simp at hk, by simp⟩, rfl⟩, ?_⟩
  refine (Step.alloc (Step.refl No w) _).regroup fun i hi => ?_
  rcases hi with rfl | hi | ⟨k, hk, _⟩
  · exact .inr (Nat.le_refl _)
  · simp [blk] at hi
  · simp at hk
def ArmSpec (p : Nat) (sl : Value) (off : Bool) (n : Int) (w : World) (e : Ending) (w' : World) : Prop :=
  e = .returned (.tuple #[]) ∧ PwSelf w' p sl off (max n (-1)) ∧ Step (one p) (one p) w w'
theorem arm_at {p : Nat} {sl : Value} {off : Bool} {arm : Int} (n : Int) (w : World) (h : PwSelf w p sl off arm) (hn : -9223372036854775808 ≤ n ∧ n ≤ 9223372036854775807) : Calls Try.prog 22 #[ob p, .int .i64 n] w fun e w' => ArmSpec p sl off n w e w' := by
  obtain ⟨lf, hb, _⟩ := h
  have f2 := hb.frozen 2
  have f3 := hb.frozen 3
  have c2 := hb.cell 2
  have c3 := hb.cell 3
  simp at c2 c3
  have HB := Lib.hid hb
  clear hb
  go_enter Try.func22, Try.ntmps22
  go_wp2
  go_end0
  refine ⟨rfl, ⟨n, ?_, fun h => by omega⟩, Step.setCell (a := ⟨p, 3, none⟩) (Step.setCell (a := ⟨p, 2, none⟩) (Step.refl (one p) _) (.inl rfl) _) (.inl rfl) _⟩
  have e : decide (0 ≤ max n (-1)) = decide (0 ≤ n) := by rw [decide_eq_decide]; omega
  rw [e]
  simpa using (HB.out.set_ 2 (.bool (decide (0 ≤ n)))).set_ 3 (.int .i64 n)
theorem arm_nil (n : Int) (w : World) : Calls Try.prog 22 #[.pointer none, .int .i64 n] w fun e w' => e = .returned (.tuple #[]) ∧ w = w' := by
  go_enter Try.func22, Try.ntmps22
  go_wp2
  go_end0
  exact ⟨rfl, rfl⟩
theorem crash_nil (A : Option Addr) (n c : Nat) (w : World) : Calls Try.prog 23 #[.pointer none, .slice A n c] w fun e w' => e = .returned (.tuple #[]) ∧ w = w' := by
  go_enter Try.func23, Try.ntmps23
  go_wp2
  go_returns
  exact ⟨rfl, rfl⟩
theorem sync_nil (w : World) : Calls Try.prog 70 #[.pointer none] w fun e w' => e = .returned (.int .i64 1) ∧ w = w' := by
  go_enter Try.func70, Try.ntmps70
  go_wp2
  go_ret
  exact ⟨rfl, rfl⟩
theorem size_nil (w : World) : Calls Try.prog 102 #[.pointer none] w fun e w' => e = .returned (.int .i64 0) ∧ w = w' := by
  go_enter Try.func102, Try.ntmps102
  go_wp2
  go_ret
  exact ⟨rfl, rfl⟩
theorem uns_nil (w : World) : Calls Try.prog 43 #[.pointer none] w fun e w' => e = .returned (.slice none 0 0) ∧ w = w' := by
  go_enter Try.func43, Try.ntmps43
  go_wp2
  go_ret
  exact ⟨rfl, rfl⟩
theorem new_nil (n : Int) (w : World) : Calls Try.prog 18 #[.pointer none, .int .i64 n] w fun e w' => e = .returned (.tuple #[.pointer none, .int .i64 1]) ∧ w = w' := by
  go_enter Try.func18, Try.ntmps18
  go_wp2
  go_ret2
  exact ⟨rfl, rfl⟩
/-- is it a disk's size -/
def sizeB (n : Int) : Bool := decide (128 ≤ n ∧ n ≤ 2097152 ∧ n % 128 = 0)
theorem new_bad (p : Nat) (n : Int) (w : World) (hn : -9223372036854775808 ≤ n ∧ n ≤ 9223372036854775807) (h : sizeB n = false) :
    Calls Try.prog 18 #[ob p, .int .i64 n] w fun e w' => e = .returned (.tuple #[.pointer none, .int .i64 1]) ∧ w = w' := by
  simp only [sizeB, decide_eq_false_iff_not] at h
  by_cases h1 : n < 128
  · go_enter Try.func18, Try.ntmps18
    go_wp2
    go_ret2
    exact ⟨rfl, rfl⟩
  · by_cases h2 : n > 2097152
    · go_enter Try.func18, Try.ntmps18
      go_wp2
      go_ret2
      exact ⟨rfl, rfl⟩
    · have h3 : (n % 128 != 0) = true := by rw [bne_iff_ne]; omega
      go_enter Try.func18, Try.ntmps18
      go_wp2
      go_ret2
      exact ⟨rfl, rfl⟩
theorem run_makeB (n : Nat) (hn : n ≤ 140737488355328) (w : World) :
    (Instr.makeSlice 37 (.int .i64 (n : Int)) (.int .i64 (n : Int))).run Try.prog w = .ok (.slice (some ⟨w.heap.size, 0, none⟩) n n) (w.alloc (.cells (madeCells #[.int .u8 0] n) 5)) := by
  obtain ⟨i, hi0, hz0, hz1, hz2⟩ := info_parts info_u8
  have hr := run_make (P := Try.prog) w 37 5 i (.int .u8 0) Try.underlying37 hi0 hz0 .i64 .i64 n n (by omega) (by omega) (by rw [hz2]; omega) (by omega)
  simp only [Int.toNat_natCast, hz1, Nat.mul_one] at hr
  exact hr
theorem made_zero (n : Nat) : madeCells #[.int .u8 0] n = (bc (zeroB n)).toArray := by
  apply Array.ext'
  rw [toList_madeCells_one]
  simp [bc, zeroB]
/-- a disk more -/
theorem PwAt.push {w w' : World} {p c : Nat} {ds : List (Nat × Dk)} {off : Bool} {arm lf : Int} {A : Option Addr} {Fs : Nat → Nat → Prop} (h : PwAt w p ds off arm A c lf Fs) {A' : Option Addr} {c' d : Nat} {D : Dk} {G : Nat → Prop}
    (hs : Step (fun i => i = p ∨ blk A = some i) No w w') (hself : Blk w' p 117 #[.slice A' (ds ++ [(d, D)]).length c', .bool off, .bool (decide (0 ≤ arm)), .int .i64 lf])
    (hown : OwnR w' 0 31 1 A' (ds ++ [(d, D)]).length c' ((ds ++ [(d, D)]).map fun x => ob x.1)) (hA : ∀ k, blk A' = some k → blk A = some k ∨ (w.heap.size ≤ k ∧ ¬ G k)) (hd : DkR w' p d D G) (hG : Ge G w.heap.size) (hds : ds.length < 1000) :
    PwAt w' p (ds ++ [(d, D)]) off arm A' c' lf (fun k => if k = ds.length then G else Fs k) ∧
      Step (pwF p A ds.length Fs) (pwF p A' (ds ++ [(d, D)]).length (fun k => if k = ds.length then G else Fs k)) w w' := by
  have hkeep : ∀ k x, ds[k]? = some x → DkR w' p x.1 x.2 (Fs k) := fun k x hx => by
    have hkl := (List.getElem?_eq_some_iff.1 hx).1
    refine (h.disk k x hx).keep (fun i hi => hs.block i ((h.disk k x hx).lt i hi) ?_) hs.size
    rintro (rfl | e)
    · exact h.notp k hkl hi
    · exact h.nota k i hkl e hi
  have hlt : ∀ k, k < ds.length → Lt (Fs k) w.heap.size := fun k hk => (h.disk k _ (List.getElem?_eq_getElem hk)).lt
  have hpl := h.self.lt
  refine ⟨⟨hself, h.left, h.lo, hown, fun k x hx => ?_, fun j k hj hk hne => ?_, fun k hk => ?_, fun k b hk hb => ?_, by simp; omega⟩, ⟨hs.os, hs.tape, hs.output, hs.size, fun i hi hn => hs.block i hi fun e => hn ?_, fun i hi => ?_⟩⟩
  · by_cases hk : k = ds.length
    · subst hk
      rw [List.getElem?_append_right (Nat.le_refl _)] at hx
      simp at hx
      subst hx
      simpa using hd
    · have hkl : k < ds.length := by
        have := (List.getElem?_eq_some_iff.1 hx).1
        simp at this; omega
      rw [List.getElem?_append_left hkl] at hx
      simp only [if_neg hk]
      exact hkeep k x hx
  · simp at hj hk
    intro i hi he
    by_cases h1 : j = ds.length <;> by_cases h2 : k = ds.length
    · omega
    · rw [if_pos h1] at hi
      rw [if_neg h2] at he
      have := hG i hi
      have := hlt k (by omega) i he
      omega
    · rw [if_neg h1] at hi
      rw [if_pos h2] at he
      have := hG i he
      have := hlt j (by omega) i hi
      omega
    · rw [if_neg h1] at hi
      rw [if_neg h2] at he
      exact h.apart j k (by omega) (by omega) hne i hi he
  · simp at hk
    by_cases h1 : k = ds.length
    · rw [if_pos h1]; intro hg; have := hG p hg; omega
    · rw [if_neg h1]; exact h.notp k (by omega)
  · simp at hk
    by_cases h1 : k = ds.length
    · rw [if_pos h1]
      intro hg
      rcases hA b hb with h2 | ⟨_, h2⟩
      · have := (OwnR.lt h.row b h2).2
        have := hG b hg
        omega
      · exact h2 hg
    · rw [if_neg h1]
      intro hg
      rcases hA b hb with h2 | ⟨h2, _⟩
      · exact h.nota k b (by omega) h2 hg
      · have := hlt k (by omega) b hg; omega
  · rcases e with e | e
    · exact .inl e
    · exact .inr (.inl e)
  · rcases hi with hi | hi | ⟨k, hk, hi⟩
    · exact .inl (.inl hi)
    · rcases hA i hi with h1 | ⟨h1, _⟩
      · exact .inl (.inr (.inl h1))
      · exact .inr h1
    · by_cases h1 : k = ds.length
      · rw [if_pos h1] at hi; exact .inr (hG i hi)
      · rw [if_neg h1] at hi; simp at hk; exact .inl (.inr (.inr ⟨k, by omega, hi⟩))
/-- a new disk -/
theorem DkAt.born {w' : World} {p n : Nat} {fb mb d : Nat} (hn : 0 < n ∧ n ≤ 16384) (hd : Blk w' d 120 #[ob p, .slice (some ⟨fb, 0, none⟩) (128 * n) (128 * n), .map (some mb)])
    (hb : Blk w' fb 5 (bc (zeroB (128 * n))).toArray) (hm : MapAt w' 3 mb n fun _ => none) : DkAt w' p d (Dk.fresh n) fb mb (fun _ => 0) (fun _ => 0) := by
  have hnew : ∀ s, (Dk.fresh n).new s = false := fun s => by simp [Dk.fresh, Dk.new, List.getD, List.getElem?_replicate]; split <;> simp
  have hl : (Dk.fresh n).nw.length = n := by simp [Dk.fresh]
  have hsz := fresh_size n
  refine ⟨fresh_ok n, by rw [hl]; exact hn.1, by rw [hl]; exact hn.2, by rw [hsz]; exact hd, hb, ?_, fun s hs => ?_, fun s t hs => ?_, fun s hs => ?_⟩
  · rw [hl]; exact hm.congr fun s => by unfold oldF; rw [hnew]; rfl
  · rw [hnew] at hs; cases hs
  · rw [hnew] at hs; cases hs
  · rw [hnew] at hs; cases hs
theorem cells_new_at (W : World) (v : Value) (t : TypeId) (b : Nat) (hb : b = W.heap.size) : ∀ j u, [v][j]? = some u → (W.alloc (.cells #[v] t)).cell? ((⟨b, 0, none⟩ : Addr).add j) = some u := by
  subst hb; exact cells_new W [v] t
theorem info_pd : (Try.prog.info? 31).map (fun i => (i.zero, i.size, i.bytes)) = some (some (.pointer none), 1, 8) := by kernel_rfl
def NewSpec (p : Nat) (ds : List (Nat × Dk)) (off : Bool) (arm : Int) (n : Nat) (F : Nat → Prop) (w : World) (e : Ending) (w' : World) : Prop :=
  ∃ d F', e = .returned (.tuple #[ob d, .int .i64 0]) ∧ PwR w' p (ds ++ [(d, Dk.fresh n)]) off arm F' ∧ Step F F' w w' ∧ w.heap.size ≤ d
theorem pw_after {w w' : World} {p c : Nat} {ds : List (Nat × Dk)} {off : Bool} {arm lf : Int} {A : Option Addr} {Fs : Nat → Nat → Prop} (h : PwAt w p ds off arm A c lf Fs) {o1 o2 o3 o4 : Obj}
    (hg : ((((w.alloc o1).alloc o2).alloc o3).alloc o4).grownBy w' (blk A)) : w'.heap[p]? = w.heap[p]? := by
  have hl := h.self.lt
  have hne : some p ≠ blk A := fun e => own_blk_ne (w := w) h.row h.self (by decide) (by rw [ownBlock_slice]; exact e.symm)
  refine (hg.block p (by simp; omega) hne).trans ?_
  rw [Below.heap_alloc _ _ _ (by simp; omega), Below.heap_alloc _ _ _ (by simp; omega), Below.heap_alloc _ _ _ (by simp; omega), Below.heap_alloc _ _ _ hl]
theorem new_fin {w w' : World} {p c : Nat} {ds : List (Nat × Dk)} {off : Bool} {arm lf : Int} {A A' : Option Addr} {c' : Nat} {Fs : Nat → Nat → Prop} {n N : Nat} (hn : 0 < n ∧ n ≤ 16384) (hds : ds.length < 1000) (h : PwAt w p ds off arm A c lf Fs) {t : TypeId} {o4 : Obj}
    (hown : OwnR w' 0 31 1 A' (ds.length + 1) c' ((ds.map fun x => ob x.1) ++ [ob (w.heap.size + 1 + 1)]))
    (hg : ((((w.alloc (.cells (madeCells #[.int .u8 0] N) 5)).alloc (.map #[] 0)).alloc (.cells #[ob p, .slice (some ⟨w.heap.size, 0, none⟩) N N, .map (some (w.heap.size + 1))] 120)).alloc o4).grownBy w' (blk A))
    (hat : blk A' = blk A ∨ blk A' = some ((((w.alloc (.cells (madeCells #[.int .u8 0] N) 5)).alloc (.map #[] 0)).alloc (.cells #[ob p, .slice (some ⟨w.heap.size, 0, none⟩) N N, .map (some (w.heap.size + 1))] 120)).alloc o4).heap.size)
    (hN : 128 * n = N) : NewSpec p ds off arm n (pwF p A ds.length Fs) w (.returned (.tuple #[ob (w.heap.size + 1 + 1), .int .i64 0])) (w'.setCell ⟨p, 0, none⟩ (.slice A' (ds.length + 1) c')) := by
  subst hN
  have hpa := pw_after h hg
  have hpl := h.self.lt
  have hne : some p ≠ blk A := fun e => own_blk_ne (w := w) h.row h.self (by decide) (by rw [ownBlock_slice]; exact e.symm)
  have hAl : ∀ k, blk A = some k → k < w.heap.size := fun k hk => (OwnR.lt h.row k hk).2
  obtain ⟨w1, e1⟩ : ∃ w1, w1 = w.alloc (.cells (madeCells #[.int .u8 0] (128 * n)) 5) := ⟨_, rfl⟩
  obtain ⟨w2, e2⟩ : ∃ w2, w2 = w1.alloc (.map #[] 0) := ⟨_, rfl⟩
  obtain ⟨w3, e3⟩ : ∃ w3, w3 = w2.alloc (.cells #[ob p, .slice (some ⟨w.heap.size, 0, none⟩) (128 * n) (128 * n), .map (some (w.heap.size + 1))] 120) := ⟨_, rfl⟩
  obtain ⟨w4, e4⟩ : ∃ w4, w4 = w3.alloc o4 := ⟨_, rfl⟩
  have hg4 : w4.grownBy w' (blk A) := by rw [e4, e3, e2, e1]; exact hg
  have hat4 : blk A' = blk A ∨ blk A' = some w4.heap.size := by rw [e4, e3, e2, e1]; exact hat
  clear hg hat
  have z1 : w1.heap.size = w.heap.size + 1 := by rw [e1]; simp
  have z2 : w2.heap.size = w.heap.size + 2 := by rw [e2]; simp [z1]
  have z3 : w3.heap.size = w.heap.size + 3 := by rw [e3]; simp [z2]
  have z4 : w4.heap.size = w.heap.size + 4 := by rw [e4]; simp [z3]
  have b1 : Blk w1 w.heap.size 5 (bc (zeroB (128 * n))).toArray := by rw [e1, ← made_zero]; exact Blk.new w _ _
  have m2 : MapAt w2 3 w1.heap.size n fun _ => none := by rw [e2]; exact MapAt.made w1 _ (by omega)
  have d3 : Blk w3 w2.heap.size 120 #[ob p, .slice (some ⟨w.heap.size, 0, none⟩) (128 * n) (128 * n), .map (some (w.heap.size + 1))] := by rw [e3]; exact Blk.new w2 _ _
  have k1 : ∀ i, i < w.heap.size → w4.heap[i]? = w.heap[i]? := fun i hi => by
    rw [e4, Below.heap_alloc _ _ _ (by omega), e3, Below.heap_alloc _ _ _ (by omega), e2, Below.heap_alloc _ _ _ (by omega), e1, Below.heap_alloc _ _ _ (by omega)]
  have b4 : w4.heap[w.heap.size]? = w1.heap[w.heap.size]? := by
    rw [e4, Below.heap_alloc _ _ _ (by omega), e3, Below.heap_alloc _ _ _ (by omega), e2, Below.heap_alloc _ _ _ (by omega)]
  have m4 : w4.heap[w1.heap.size]? = w2.heap[w1.heap.size]? := by
    rw [e4, Below.heap_alloc _ _ _ (by omega), e3, Below.heap_alloc _ _ _ (by omega)]
  have d4 : w4.heap[w2.heap.size]? = w3.heap[w2.heap.size]? := by
    rw [e4, Below.heap_alloc _ _ _ (by omega)]
  have q : ∀ i, i < w4.heap.size → blk A ≠ some i → i ≠ p → (w'.setCell ⟨p, 0, none⟩ (.slice A' (ds.length + 1) c')).heap[i]? = w4.heap[i]? := fun i hi h1 h2 =>
    (Below.heap_setCell w' ⟨p, 0, none⟩ _ i h2).trans (hg4.block i hi (fun e => h1 e.symm))
  have hbig : ∀ i, w.heap.size ≤ i → blk A ≠ some i ∧ i ≠ p := fun i hi => ⟨fun e => by have := hAl i e; omega, by omega⟩
  have hdk : DkAt (w'.setCell ⟨p, 0, none⟩ (.slice A' (ds.length + 1) c')) p (w.heap.size + 1 + 1) (Dk.fresh n) w.heap.size (w.heap.size + 1) (fun _ => 0) (fun _ => 0) := by
    rw [z1] at m2 m4
    rw [z2] at d3 d4
    refine DkAt.born hn ?_ ?_ ?_
    · exact ((q _ (by omega) (hbig _ (by omega)).1 (hbig _ (by omega)).2).trans d4).trans d3
    · exact ((q _ (by omega) (hbig _ (by omega)).1 (hbig _ (by omega)).2).trans b4).trans b1
    · exact m2.keep ((q _ (by omega) (hbig _ (by omega)).1 (hbig _ (by omega)).2).trans m4)
  have hnew : ∀ s, (Dk.fresh n).new s = false := fun s => by simp [Dk.fresh, Dk.new, List.getD, List.getElem?_replicate]; split <;> simp
  have hst : Step (fun i => i = p ∨ blk A = some i) No w (w'.setCell ⟨p, 0, none⟩ (.slice A' (ds.length + 1) c')) := by
    refine ⟨hg4.os.trans ?_, hg4.tape.trans ?_, hg4.output.trans ?_, ?_, fun i hi hn => (q i (by omega) (fun e => hn (.inr e)) (fun e => hn (.inl e))).trans (k1 i hi), fun i hi => absurd hi fun h => h⟩
    · rw [e4, e3, e2, e1]; rfl
    · rw [e4, e3, e2, e1]; rfl
    · rw [e4, e3, e2, e1]; rfl
    · have := hg4.size; simp [World.setCell]; omega
  have hp1 : Blk (w'.setCell ⟨p, 0, none⟩ (.slice A' (ds.length + 1) c')) p 117 #[.slice A' (ds ++ [(w.heap.size + 1 + 1, Dk.fresh n)]).length c', .bool off, .bool (decide (0 ≤ arm)), .int .i64 lf] := by
    have := (show Blk w' p _ _ from hpa.trans h.self).set_ 0 (.slice A' (ds.length + 1) c')
    simpa using this
  have hp2 : OwnR (w'.setCell ⟨p, 0, none⟩ (.slice A' (ds.length + 1) c')) 0 31 1 A' (ds ++ [(w.heap.size + 1 + 1, Dk.fresh n)]).length c' ((ds ++ [(w.heap.size + 1 + 1, Dk.fresh n)]).map fun x => ob x.1) := by
    have : OwnR (w'.setCell ⟨p, 0, none⟩ (.slice A' (ds.length + 1) c')) 0 31 1 A' (ds.length + 1) c' ((ds.map fun x => ob x.1) ++ [ob (w.heap.size + 1 + 1)]) := OwnR.far hown (by
      rcases hat4 with e | e
      · rw [e]; exact Ne.symm hne
      · rw [e, z4]; simp; omega) _
    simpa using this
  have hp3 : ∀ k, blk A' = some k → blk A = some k ∨ (w.heap.size ≤ k ∧ ¬ dkF (Dk.fresh n) (w.heap.size + 1 + 1) w.heap.size (w.heap.size + 1) (fun _ => 0) k) := by
    intro k hk
    rcases hat4 with e | e
    · exact .inl (by rw [← e]; exact hk)
    · rw [e] at hk
      have hk : w4.heap.size = k := by simpa using hk
      refine .inr ⟨by omega, ?_⟩
      rintro (h1 | h1 | h1 | ⟨s, hs, _⟩)
      · omega
      · omega
      · omega
      · rw [hnew] at hs; cases hs
  have hp4 : Ge (dkF (Dk.fresh n) (w.heap.size + 1 + 1) w.heap.size (w.heap.size + 1) (fun _ => 0)) w.heap.size := by
    rintro i (h1 | h1 | h1 | ⟨s, hs, _⟩)
    · omega
    · omega
    · omega
    · rw [hnew] at hs; cases hs
  obtain ⟨r1, r2⟩ := h.push hst hp1 hp2 hp3 ⟨_, _, _, _, hdk, rfl⟩ hp4 hds
  exact ⟨_, _, rfl, ⟨A', c', lf, _, r1, rfl⟩, r2, by omega⟩
set_option maxRecDepth 100000 in
set_option maxHeartbeats 1000000 in
theorem new_ok {p : Nat} {ds : List (Nat × Dk)} {off : Bool} {arm : Int} {F : Nat → Prop} (n : Nat) (w : World) (h : PwR w p ds off arm F) (hn : 0 < n ∧ n ≤ 16384) (hds : ds.length < 1000) :
    Calls Try.prog 18 #[ob p, .int .i64 ((128 * n : Nat) : Int)] w fun e w' => NewSpec p ds off arm n F w e w' := by
  obtain ⟨A, c, lf, Fs, h, rfl⟩ := h
  have c0 := h.self.cell 0
  have f0 := h.self.frozen 0
  simp at c0
  have HH := Lib.hid h
  clear h
  obtain ⟨N, hN⟩ : ∃ N, 128 * n = N := ⟨_, rfl⟩
  have HN : Hid (128 * n = N) := Lib.hid hN
  have hN1 : 128 ≤ N ∧ N ≤ 2097152 := by omega
  have h3 : ((N : Int) % 128 != 0) = false := by rw [bne_eq_false_iff_eq]; omega
  rw [hN]
  clear hN
  obtain ⟨h1, h2⟩ := hN1
  have hmk := run_makeB N (by omega)
  have hmm := @run_makeMap Try.prog
  have hp0 : p < w.heap.size := HH.out.self.lt
  have hp1 : p < w.heap.size + 1 := by omega
  have hp2 : p < w.heap.size + 1 + 1 := by omega
  have hl1 : decide ((N : Int) < 128) = false := by simp; omega
  have hl2 : decide ((2097152 : Int) < (N : Int)) = false := by simp; omega
  go_enter Try.func18, Try.ntmps18
  have HOW := Lib.hid fun (o1 o2 o3 o4 : Obj) => OwnR.alloc (OwnR.alloc (OwnR.alloc (OwnR.alloc HH.out.row o1) o2) o3) o4
  go_wp2_with (at_builtin; refine wpList_app rfl (.tmp 32) (.tmp 34) 115 rfl 0 31 (.pointer none) 1 8 Try.underlying115 info_pd rfl (by decide) A ds.length c (ds.map fun x => ob x.1) rfl (HOW.out _ _ _ _) ⟨w.heap.size + 1 + 1 + 1, 0, none⟩ 1 1 [ob (w.heap.size + 1 + 1)] rfl rfl (cells_new_at _ _ _ _ (by simp)) (fun u hu => by simp at hu; subst hu; rfl) (by unfold maxLen; omega) (by omega) (Nat.zero_le _) ?_; (intro A' c' w' hown hg hat; have hp' := pw_after HH.out hg; have c0' := (World.cell?_of_block (a := ⟨p, 0, none⟩) hp').trans c0; have f0' := (World.frozen?_of_block (a := ⟨p, 0, none⟩) hp').trans f0))
  go_ret2
  exact new_fin (t := 0) hn hds HH.out hown hg hat HN.out
end Go.Proofs.Ytjmhfjioccljeaa
