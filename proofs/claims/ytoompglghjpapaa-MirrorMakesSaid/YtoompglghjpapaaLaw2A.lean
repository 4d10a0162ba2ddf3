/-
  Walk: the law MirrorMakes: a mirror is made of one to eight disks of one size, none twice.
-/
import Derived.Test.YtoompglghjpapaaMirK
import Derived.Deep.CutBlock
import Derived.Deep.CutRange
import Derived.BigQuiet
namespace Go.Proofs.Ytoompglghjpapaa
open Go.RowKit Crc
set_option linter.unusedVariables false
set_option linter.unusedSimpArgs false
attribute [local go_sem ↓] Go.wp_at_zero Go.wp_at_succ

/-- mirror.New of none, or of more than eight -/
theorem mnew_many (w : World) (A : Option Addr) (n c : Nat) (h : n = 0 ∨ 8 < n) : Calls Try.prog 23 #[.slice A n c] w fun e w' => e = .returned (.tuple #[.pointer none, .int .i64 1]) ∧ Below w.heap.size w w' := by
  have hbe := (Below.refl w.heap.size w).alloc (Nat.le_refl _) (.cells #[.slice A n c] 32)
  rcases h with rfl | h
  · go_enter Try.func23, Try.ntmps23
    go_wp2_with fail
    go_ret2
    exact ⟨rfl, hbe⟩
  · have h1 : decide ((n : Int) < 1) = false := by simp; omega
    have h2 : decide (8 < (n : Int)) = true := by simp; omega
    clear h
    go_enter Try.func23, Try.ntmps23
    go_wp2_with fail
    go_ret2
    exact ⟨rfl, hbe⟩
/-- .. of some, one of which is none -/
theorem mnew_nil (w : World) (A : Option Addr) (l : List (Option Nat)) (n c : Nat) (hn : l.length = n) (hn1 : 1 ≤ n) (hn8 : n ≤ 8) (hr : RdP w A l) (hin : none ∈ l) : Calls Try.prog 23 #[.slice A n c] w fun e w' => e = .returned (.tuple #[.pointer none, .int .i64 1]) ∧ Below w.heap.size w w' := by
  have hbe := (Below.refl w.heap.size w).alloc (Nat.le_refl _) (.cells #[.slice A n c] 32)
  have h1 : decide ((n : Int) < 1) = false := by simp; omega
  have h2 : decide (8 < (n : Int)) = false := by simp; omega
  have HC := Lib.hid (contains_nil A l n c true _ hn (by unfold maxLen; omega) (hr.below hbe) (decide_eq_true hin))
  have HBE := Lib.hid hbe
  clear hbe hr hin hn hn1 hn8
  go_enter Try.func23, Try.ntmps23
  go_wp2_with fail
  refine HC.out.mono ?_
  rintro e _ ⟨rfl, rfl⟩
  go_wp2_with fail
  go_ret2
  exact ⟨rfl, HBE.out⟩
theorem copies_raw (w : World) (m g N c : Nat) (mc : w.cell? ⟨m, 0, none⟩ = some (.slice (some ⟨g, 0, none⟩) N c)) : Calls Try.prog 24 #[ob m] w fun e w' => e = .returned (.int .i64 (N : Int)) ∧ w = w' := by
  go_enter Try.func24, Try.ntmps24
  go_wp2_with fail
  go_ret
  exact ⟨rfl, rfl⟩
theorem msize_raw (w : World) (m g N c d : Nat) (Z : Int) (mc : w.cell? ⟨m, 0, none⟩ = some (.slice (some ⟨g, 0, none⟩) N c)) (c0 : w.cell? ⟨g, 0, none⟩ = some (ob d)) (hN1 : 1 ≤ N)
    (hs : Calls Try.prog 22 #[ob d] w fun e w' => e = .returned (.int .i64 Z) ∧ w = w') : Calls Try.prog 25 #[ob m] w fun e w' => e = .returned (.int .i64 Z) ∧ w = w' := by
  have HS := Lib.hid hs
  have hn0 : (0 : Int) < (N : Int) := by omega
  clear hs
  go_enter Try.func25, Try.ntmps25
  go_wp2_with fail
  refine HS.out.mono ?_
  rintro e _ ⟨rfl, rfl⟩
  go_wp2_with fail
  go_ret
  exact ⟨rfl, rfl⟩
def freshL (ns : List Nat) : St := ⟨ns.map Dk.fresh, false, -1⟩
theorem freshL_snoc (ns : List Nat) (n : Nat) : (⟨(freshL ns).ds ++ [Dk.fresh n], (freshL ns).off, (freshL ns).arm⟩ : St) = freshL (ns ++ [n]) := by simp [freshL]
theorem freshL_at {ns : List Nat} {k : Nat} (h : k < ns.length) : ((freshL ns).at_ k).size = 128 * ns.getD k 0 := by
  have : (freshL ns).at_ k = Dk.fresh (ns.getD k 0) := by simp [freshL, St.at_, List.getD, h]
  rw [this, fresh_size]
def alikeL (ns : List Nat) : Bool := decide (∀ x ∈ ns, x = ns.getD 0 0)
theorem alike_snoc (ns : List Nat) (n : Nat) : alikeL (ns ++ [n]) = (alikeL ns && decide (128 * n = 128 * (ns ++ [n]).getD 0 0)) := by
  unfold alikeL
  cases ns with
  | nil => simp
  | cons x r =>
    rw [Bool.eq_iff_iff]
    simp
    constructor
    · intro h
      exact ⟨fun y hy => h y (.inl hy), by have := h n (.inr rfl); omega⟩
    · rintro ⟨h1, h2⟩ y (hy | hy)
      · exact h1 y hy
      · rw [hy]; omega
/-- the law's list of disks -/
structure Mk (w0 w : World) (p : Nat) (as_ ns : List Nat) (A : Option Addr) (c : Nat) (F : Nat → Prop) : Prop where
  lw : LW w0 w p as_ (freshL ns) F
  len : ns.length = as_.length
  own : OwnR w w0.heap.size 42 1 A as_.length c (as_.map ob)
  na : ∀ b, blk A = some b → ¬ F b
theorem Mk.below {w0 w w' : World} {p c : Nat} {as_ ns : List Nat} {A : Option Addr} {F : Nat → Prop} (h : Mk w0 w p as_ ns A c F) (hb : Below w.heap.size w w') : Mk w0 w' p as_ ns A c F :=
  ⟨h.lw.below hb, h.len, OwnR.below' h.own hb, h.na⟩
theorem Mk.push {w0 w w3 w4 : World} {p c c' d n : Nat} {as_ ns : List Nat} {A A' : Option Addr} {F F' : Nat → Prop} (h : Mk w0 w p as_ ns A c F) (hs : Step F F' w w3) (hp : PwS w3 p (as_ ++ [d]) (freshL (ns ++ [n])) F')
    (hgr : (w3.alloc (.cells #[ob d] 42)).grownBy w4 (blk A)) (hown : OwnR w4 w0.heap.size 42 1 A' (as_.length + 1) c' (as_.map ob ++ [ob d])) (hat : blk A' = blk A ∨ blk A' = some (w3.alloc (.cells #[ob d] 42)).heap.size) :
    Mk w0 w4 p (as_ ++ [d]) (ns ++ [n]) A' c' F' := by
  have hl3 := h.lw.step hs hp
  have hl3b := hl3.alloc (.cells #[ob d] 42)
  have hlt := hl3.pw.lt
  have hna : ∀ b, blk A = some b → ¬ F' b := fun b hb => step_out hs (OwnR.lt h.own b hb).2 (h.na b hb)
  have hsz : (w3.alloc (.cells #[ob d] 42)).heap.size = w3.heap.size + 1 := by simp
  have hgs := hgr.size
  have h0 := hl3.be.size
  refine ⟨hl3b.kept (fun i hi => hgr.block i (by have := hlt i hi; rw [hsz]; omega) (fun e => hna i e.symm hi)) hgs ((Below.refl _ _).grown hgr (by rw [hsz]; omega) (fun k hk => (OwnR.lt h.own k hk).1)), by simp [h.len], ?_, fun b hb => ?_⟩
  · rw [List.length_append, List.map_append]; exact hown
  · rcases hat with e | e
    · exact hna b (e ▸ hb)
    · rw [e, hsz] at hb
      have : w3.heap.size + 1 = b := by simpa using hb
      exact fun hf => by have := hlt b hf; omega
theorem Mk.cell {w0 w : World} {p c k : Nat} {as_ ns : List Nat} {gx : Nat} {F : Nat → Prop} (h : Mk w0 w p as_ ns (some ⟨gx, 0, none⟩) c F) (hk : k < as_.length) : ∃ d, as_[k]? = some d ∧ as_.getD k 0 = d ∧ w.cell? ⟨gx, k, none⟩ = some (ob d) := by
  refine ⟨as_[k], List.getElem?_eq_getElem hk, by simp [List.getD, hk], ?_⟩
  obtain ⟨ad, e, hc⟩ := OwnR.cellAt h.own k (ob as_[k]) (by simp [hk])
  cases e
  have e0 : (⟨gx, 0, none⟩ : Addr).add k = ⟨gx, k, none⟩ := by unfold Addr.add; split <;> simp_all
  rw [e0] at hc
  exact hc
theorem Mk.size {w0 w : World} {p c k d : Nat} {as_ ns : List Nat} {A : Option Addr} {F : Nat → Prop} (h : Mk w0 w p as_ ns A c F) (hd : as_[k]? = some d) : Calls Try.prog 22 #[ob d] w fun e w' => e = .returned (.int .i64 ((128 * ns.getD k 0 : Nat) : Int)) ∧ w = w' := by
  have hk := (List.getElem?_eq_some_iff.1 hd).1
  have := st_size h.lw.pw hd
  rwa [freshL_at (by rw [h.len]; exact hk)] at this
def szOf (as_ ns : List Nat) (d : Nat) : Nat := 128 * ns.getD (as_.idxOf d) 0
theorem szOf_at {as_ ns : List Nat} {k d : Nat} (hn : as_.Nodup) (hd : as_[k]? = some d) : szOf as_ ns d = 128 * ns.getD k 0 := by
  obtain ⟨hk, rfl⟩ := List.getElem?_eq_some_iff.1 hd
  unfold szOf
  rw [List.Nodup.idxOf_getElem hn k hk]
section
variable {w0 w : World} {p c k gx d0 : Nat} {as_ ns : List Nat} {F : Nat → Prop}
theorem Mk.sizeIs {d j : Nat} (h : Mk w0 w p as_ ns (some ⟨gx, 0, none⟩) c F) (hd : as_[j]? = some d) : SizeIs w d (szOf as_ ns d) := fun q => by
  rw [szOf_at (as_nodup h.lw.pw) hd]
  exact (h.below (below_drewN (Below.refl w.heap.size w) q)).size hd
theorem Mk.gx_ge (h : Mk w0 w p as_ ns (some ⟨gx, 0, none⟩) c F) : w0.heap.size ≤ gx ∧ gx < w.heap.size ∧ ¬ F gx := ⟨(OwnR.lt h.own gx rfl).1, (OwnR.lt h.own gx rfl).2, h.na gx rfl⟩
theorem Mk.dsk {d j : Nat} (h : Mk w0 w p as_ ns (some ⟨gx, 0, none⟩) c F) (hd : as_[j]? = some d) : (∃ t cs, Blk w d t cs) ∧ d ≠ gx := by
  obtain ⟨A, c', lf, Fs, fb, mb, og, oc, h1, h2, h3, h4, h5, _⟩ := h.lw.pw.open_ hd
  refine ⟨⟨_, _, h2.self⟩, ?_⟩
  rintro rfl
  refine h.gx_ge.2.2 ?_
  rw [h4]
  exact .inr (.inr ⟨j, (List.getElem?_eq_some_iff.1 h5).1, by rw [h3]; exact .inl rfl⟩)
theorem Mk.new (h : Mk w0 w p as_ ns (some ⟨gx, 0, none⟩) c F) (hlen : as_.length = k) (hk1 : 1 ≤ k) (hk8 : k ≤ 8) : Calls Try.prog 23 #[.slice (some ⟨gx, 0, none⟩) k c] w fun e w' => MNew as_ (szOf as_ ns) w e w' := by
  refine mnew_any w ⟨gx, 0, none⟩ k c as_ (szOf as_ ns) hlen hk1 hk8 (fun j hj => ?_) (fun d hd => ?_) (fun W hW j hj => ?_)
  · obtain ⟨d, hd, e, hc⟩ := h.cell (k := j) (by omega)
    rw [e]
    have e0 : (⟨gx, 0, none⟩ : Addr).add j = ⟨gx, j, none⟩ := by unfold Addr.add; split <;> simp_all
    rw [e0]; exact hc
  · obtain ⟨j, hj⟩ := List.getElem?_of_mem hd
    exact (h.dsk hj).1
  · obtain ⟨d, hd, e, hc⟩ := h.cell (k := j) (by omega)
    rw [e]
    exact (h.below hW).sizeIs hd
theorem set_cell_at {w : World} {g j i : Nat} {v u : Value} (hs : (w.cell? ⟨g, j, none⟩).isSome = true) (hi : i ≠ j → w.cell? ⟨g, i, none⟩ = some u) (he : i = j → u = v) : (w.setCell ⟨g, j, none⟩ v).cell? ⟨g, i, none⟩ = some u := by
  by_cases hij : i = j
  · subst hij
    rw [World.cell?_setCell_same' _ _ _ hs, he rfl]
  · rw [World.cell?_setCell_other _ _ _ _ (fun e => hij (by have := congrArg Addr.off e; exact this.symm))]
    exact hi hij
theorem Mk.gone {j : Nat} (h : Mk w0 w p as_ ns (some ⟨gx, 0, none⟩) c F) (hlen : as_.length = k) (hk1 : 1 ≤ k) (hk8 : k ≤ 8) (hj : j < k) :
    Calls Try.prog 23 #[.slice (some ⟨gx, 0, none⟩) k c] (w.setCell ⟨gx, j, none⟩ (.pointer none)) fun e w' => e = .returned (.tuple #[.pointer none, .int .i64 1]) ∧ Below (w.setCell ⟨gx, j, none⟩ (.pointer none)).heap.size (w.setCell ⟨gx, j, none⟩ (.pointer none)) w' := by
  obtain ⟨dj, _, _, hcj⟩ := h.cell (k := j) (by omega)
  refine mnew_nil _ (some ⟨gx, 0, none⟩) ((as_.map some).set j none) k c (by simp [hlen]) hk1 hk8 (fun hl => ⟨_, rfl, fun i hi => ?_⟩) ?_
  · have hi' : i < k := by simp [hlen] at hi; exact hi
    have e0 : (⟨gx, 0, none⟩ : Addr).add i = ⟨gx, i, none⟩ := by unfold Addr.add; split <;> simp_all
    rw [e0]
    obtain ⟨d, hd, e, hc⟩ := h.cell (k := i) (by omega)
    obtain ⟨hil, hde⟩ := List.getElem?_eq_some_iff.1 hd
    refine set_cell_at (by rw [hcj]; rfl) (fun hne => ?_) (fun he => ?_)
    · rw [hc]
      simp [List.getD, List.getElem?_set, Ne.symm hne, hil, hde, pv]
    · subst he
      simp [List.getD, List.getElem?_set, hil, pv]
  · refine List.mem_iff_getElem.2 ⟨j, by simp [hlen]; exact hj, by simp⟩
theorem Mk.twice {j : Nat} (h : Mk w0 w p as_ ns (some ⟨gx, 0, none⟩) c F) (hlen : as_.length = k) (hk1 : 2 ≤ k) (hk8 : k ≤ 8) (hj : j + 1 = k) (hd0 : as_[0]? = some d0) :
    Calls Try.prog 23 #[.slice (some ⟨gx, 0, none⟩) k c] (w.setCell ⟨gx, j, none⟩ (ob d0)) fun e w' => e = .returned (.tuple #[.pointer none, .int .i64 8]) ∧ Below (w.setCell ⟨gx, j, none⟩ (ob d0)).heap.size (w.setCell ⟨gx, j, none⟩ (ob d0)) w' := by
  obtain ⟨dj, _, _, hcj⟩ := h.cell (k := j) (by omega)
  have hlw := h.lw.own (x := ⟨gx, j, none⟩) h.gx_ge.2.2 h.gx_ge.1 (ob d0)
  have hget : ∀ i, i < k → ∃ d t, as_[t]? = some d ∧ (as_.set j d0).getD i 0 = d ∧ (w.setCell ⟨gx, j, none⟩ (ob d0)).cell? ⟨gx, i, none⟩ = some (ob d) := fun i hi => by
    obtain ⟨d, hd, e, hc⟩ := h.cell (k := i) (by omega)
    obtain ⟨hil, hde⟩ := List.getElem?_eq_some_iff.1 hd
    by_cases hij : i = j
    · subst hij
      exact ⟨d0, 0, hd0, by simp [List.getD, List.getElem?_set, hil], set_cell_at (by rw [hcj]; rfl) (fun hne => absurd rfl hne) (fun _ => rfl)⟩
    · exact ⟨d, i, hd, by simp [List.getD, List.getElem?_set, Ne.symm hij, hil, hde], set_cell_at (by rw [hcj]; rfl) (fun _ => hc) (fun he => absurd he hij)⟩
  refine (mnew_any _ ⟨gx, 0, none⟩ k c (as_.set j d0) (szOf as_ ns) (by simp [hlen]) (by omega) hk8 (fun i hi => ?_) (fun d hd => ?_) (fun W hW i hi => ?_)).mono ?_
  · obtain ⟨d, t, _, e, hc⟩ := hget i hi
    rw [e]
    have e0 : (⟨gx, 0, none⟩ : Addr).add i = ⟨gx, i, none⟩ := by unfold Addr.add; split <;> simp_all
    rw [e0]; exact hc
  · obtain ⟨i, hi⟩ := List.getElem?_of_mem hd
    have hik : i < k := by have := (List.getElem?_eq_some_iff.1 hi).1; simpa [hlen] using this
    obtain ⟨d', t, ht, e, _⟩ := hget i hik
    have : d = d' := by rw [← e]; simp [List.getD, hi]
    subst this
    obtain ⟨⟨t1, cs, h1⟩, h2⟩ := h.dsk ht
    exact ⟨t1, cs, h1.far (p := ⟨gx, j, none⟩) h2 _⟩
  · obtain ⟨d, t, ht, e, _⟩ := hget i hi
    rw [e]
    intro q
    have := st_size ((hlw.below hW).drewN q).pw ht
    rw [freshL_at (by rw [h.len]; exact (List.getElem?_eq_some_iff.1 ht).1)] at this
    rw [szOf_at (as_nodup h.lw.pw) ht]
    exact this
  · rintro e w' ⟨v, i, rfl, hb, hdup, _, _⟩
    obtain ⟨rfl, rfl⟩ := hdup (fun hn => by
      unfold List.Nodup at hn
      rw [List.pairwise_iff_getElem] at hn
      obtain ⟨h0, e0⟩ := List.getElem?_eq_some_iff.1 hd0
      refine hn 0 j (by simp; omega) (by simp; omega) (by omega) ?_
      rw [List.getElem_set, List.getElem_set]
      simp [show ¬ j = 0 by omega, e0])
    exact ⟨rfl, hb⟩
end
theorem Mk.agree {w0 w : World} {p c : Nat} {as_ ns : List Nat} {A : Option Addr} {F : Nat → Prop} (h : Mk w0 w p as_ ns A c F) (hal : alikeL ns = true) : ¬ ∃ j, j < as_.length ∧ szOf as_ ns (as_.getD j 0) ≠ szOf as_ ns (as_.getD 0 0) := by
  rintro ⟨j, hj, hne⟩
  have hn := as_nodup h.lw.pw
  have e : ∀ i, i < as_.length → szOf as_ ns (as_.getD i 0) = 128 * ns.getD i 0 := fun i hi => szOf_at hn (by simp [List.getD, hi])
  rw [e j hj, e 0 (by omega)] at hne
  have h1 := of_decide_eq_true hal
  have hl := h.len
  refine hne ?_
  rw [h1 (ns.getD j 0) (by rw [show ns.getD j 0 = ns[j]'(by omega) by simp [List.getD, show j < ns.length by omega]]; exact List.getElem_mem _)]
theorem Mk.differ {w0 w : World} {p c : Nat} {as_ ns : List Nat} {A : Option Addr} {F : Nat → Prop} (h : Mk w0 w p as_ ns A c F) (hal : alikeL ns = false) : ∃ j, j < as_.length ∧ szOf as_ ns (as_.getD j 0) ≠ szOf as_ ns (as_.getD 0 0) := by
  have hn := as_nodup h.lw.pw
  have e : ∀ i, i < as_.length → szOf as_ ns (as_.getD i 0) = 128 * ns.getD i 0 := fun i hi => szOf_at hn (by simp [List.getD, hi])
  have hl := h.len
  have h1 := of_decide_eq_false hal
  simp only [Classical.not_forall] at h1
  obtain ⟨x, hx, hne⟩ := h1
  obtain ⟨j, hj, rfl⟩ := List.getElem_of_mem hx
  refine ⟨j, by omega, ?_⟩
  rw [e j (by omega), e 0 (by omega), show ns.getD j 0 = ns[j] by simp [List.getD, hj]]
  omega
set_option maxRecDepth 100000 in
set_option maxHeartbeats 4000000 in
theorem MirrorMakes_walk (A : Option Addr) (l : List Int) (c0 : Nat) (tw nn : Bool) (w : World) (hA : RdZ w A l) (hl : l.length ≤ maxLen) :
    Calls Try.prog 4 #[.slice A l.length c0, .bool tw, .bool nn] w fun e w' => e = .returned (.bool true) ∧ Below w.heap.size w w' := by
  unfold maxLen at hl
  have HA := Lib.hid hA
  obtain ⟨m, hm⟩ : ∃ m, l.length = m := ⟨_, rfl⟩
  have HM : Hid (l.length = m) := Lib.hid hm
  rw [hm] at hl ⊢
  clear hm hA
  go_enter Try.func4, Try.ntmps4
  go_wp2_with fail
  refine (bright_any w).mono ?_
  rintro e w1 ⟨rfl, hb1⟩
  have HW1 := Lib.hid hb1
  have HA1 := Lib.hid (HA.out.below hb1)
  clear hb1 HA
  go_wp2_with fail
  refine (newPower_any w1).mono ?_
  rintro e w2 ⟨F, rfl, hp, hs⟩
  have hl2 := LW.start w1 hp hs
  obtain ⟨p, hpp⟩ : ∃ p, w1.heap.size = p := ⟨_, rfl⟩
  rw [hpp] at hl2 ⊢
  have HMK : Hid (Mk w1 w2 p [] [] none 0 F) := Lib.hid ⟨hl2, rfl, OwnR.nil _ _ _ _, fun b hb => by simp [blk] at hb⟩
  clear hl2 hp hs hpp
  go_upto_block 0 with fail
  go_cut [8, 9, 10, 11, 12, 13] from 20 (fun s8 s9 _ _ _ _ wx => ∃ (k : Nat) (A : Option Addr) (c : Nat) (al : Bool), s8 = .slice A k c ∧ s9 = .bool al ∧ k ≤ 10 ∧ Hid (∃ as_ ns F, as_.length = k ∧ alikeL ns = al ∧ Mk w1 wx p as_ ns A c F))
  case first =>
    go_wp2_with fail
    go_loopw [8, 9, 10, 11, 12, 13] (fun s8 s9 s10 _ _ _ wr => ∃ (k : Nat) (A : Option Addr) (c : Nat) (al : Bool), s8 = .slice A k c ∧ s9 = .bool al ∧ s10 = .int .i64 (k : Int) ∧ k ≤ 10 ∧ k ≤ m ∧ Hid (∃ as_ ns F, as_.length = k ∧ alikeL ns = al ∧ Mk w1 wr p as_ ns A c F)) (fun _ _ i _ _ _ _ => 10 - (RowKit.intOf i).toNat)
    case atStart => exact ⟨0, none, 0, true, rfl, rfl, rfl, by omega, by omega, Lib.hid ⟨[], [], F, rfl, by decide, HMK.out⟩⟩
    case round =>
      clear HMK
      obtain ⟨k, A8, c8, al, rfl, rfl, rfl, hk10, hkm, HR⟩ := hrel
      by_cases hgo : k < m ∧ k < 10
      · obtain ⟨hkm2, hk2⟩ := hgo
        obtain ⟨as_, ns, F1, hlen, hal, hmk⟩ := HR.out
        obtain ⟨la, rfl, c1⟩ := (HA1.out.below hmk.lw.be).at_ (k := k) (by rw [HM.out]; exact hkm2)
        obtain ⟨x, hx⟩ : ∃ x, l.getD k 0 = x := ⟨_, rfl⟩
        rw [hx] at c1
        obtain ⟨kw, hkw, hkw1⟩ := cut_mod x 1 (by omega)
        rw [show ((1 : Nat) : Int) + 1 = 2 from rfl] at hkw
        have HMK := Lib.hid hmk
        have HLEN := Lib.hid hlen
        have HAL := Lib.hid hal
        have hkz : ((kw : Int)) ≤ 1 := by omega
        clear HR hmk hlen hal hx
        go_wp2_with fail
        have hcall := st_new HMK.out.lw.pw (1 + kw) (by omega) (by rw [HLEN.out]; omega)
        rw [show ((128 * (1 + kw) : Nat) : Int) = 128 * (1 + (kw : Int)) by push_cast; rfl] at hcall
        refine hcall.mono ?_
        rintro e w3 ⟨d, F3, rfl, hp, hs, hd⟩
        rw [freshL_snoc] at hp
        have HP := Lib.hid hp
        have HS := Lib.hid hs
        have HOW := Lib.hid (OwnR.alloc (OwnR.block HMK.out.own fun b hb => hs.block b (OwnR.lt HMK.out.own b hb).2 (HMK.out.na b hb)) (.cells #[ob d] 42))
        have hb3 := (HMK.out.lw.step hs hp).be.size
        clear hp hs hd hcall c1
        go_wp2_with (at_builtin; refine wpList_app rfl (.tmp 47) (.tmp 49) 32 rfl w1.heap.size 42 (.pointer none) 1 8 Try.underlying32 info_pd rfl (by decide) A8 k c8 (as_.map ob) rfl (by have := HOW.out; rw [HLEN.out] at this; exact this) ⟨w3.heap.size, 0, none⟩ 1 1 [ob d] rfl rfl (cells_new_at _ _ _ _ rfl) (fun u hu => by simp at hu; subst hu; rfl) (by unfold maxLen; omega) (by omega) (by simp; omega) ?_; (intro A' c' w4 hown hgr hat))
        have hpush := HMK.out.push HS.out HP.out hgr (by rw [HLEN.out]; exact hown) hat
        have HPU := Lib.hid hpush
        obtain ⟨gx, rfl⟩ := OwnR.some_ hown (by omega)
        have HLEN2 : Hid ((as_ ++ [d]).length = k + 1) := Lib.hid (by simp [HLEN.out])
        clear hown hgr hat HOW HP HS
        cases al with
        | false =>
          have HAL2 : Hid (alikeL (ns ++ [1 + kw]) = false) := Lib.hid (by rw [alike_snoc, HAL.out]; rfl)
          clear hpush
          go_quiet (fail)
          go_wp2_with fail
          exact ⟨⟨k + 1, some ⟨gx, 0, none⟩, c', false, rfl, rfl, int_eq (by omega), by omega, by omega, Lib.hid ⟨_, _, F3, HLEN2.out, HAL2.out, HPU.out.below (below_drewN (Below.refl _ _) _)⟩⟩, by simp [RowKit.intOf]; omega⟩
        | true =>
          obtain ⟨d0, hd0, _, dc⟩ := hpush.cell (k := 0) (by rw [HLEN2.out]; omega)
          have hdk : (as_ ++ [d])[k]? = some d := by rw [List.getElem?_append_right (by rw [HLEN.out]; exact Nat.le_refl _), HLEN.out, Nat.sub_self]; rfl
          have hnk : (ns ++ [1 + kw]).getD k 0 = 1 + kw := by
            have h1 := hpush.len
            have h2 := HLEN2.out
            have h3 : ns.length = k := by simp at h1 h2; omega
            simp [List.getD, h3]
          obtain ⟨Z1, hZ1⟩ : ∃ Z : Int, ((128 * (ns ++ [1 + kw]).getD k 0 : Nat) : Int) = Z := ⟨_, rfl⟩
          obtain ⟨Z0, hZ0⟩ : ∃ Z : Int, ((128 * (ns ++ [1 + kw]).getD 0 0 : Nat) : Int) = Z := ⟨_, rfl⟩
          have H1 : Hid (∀ q, Calls Try.prog 22 #[ob d] (w4.drewN q) fun e w' => e = .returned (.int .i64 Z1) ∧ w4.drewN q = w') := Lib.hid (fun q => by
            have := (hpush.below (below_drewN (Below.refl w4.heap.size w4) q)).size hdk
            rwa [hZ1] at this)
          have H0 : Hid (∀ q, Calls Try.prog 22 #[ob d0] (w4.drewN q) fun e w' => e = .returned (.int .i64 Z0) ∧ w4.drewN q = w') := Lib.hid (fun q => by
            have := (hpush.below (below_drewN (Below.refl w4.heap.size w4) q)).size hd0
            rwa [hZ0] at this)
          obtain ⟨B, hB⟩ : ∃ B, (Z1 == Z0) = B := ⟨_, rfl⟩
          have HAL2 : Hid (alikeL (ns ++ [1 + kw]) = B) := Lib.hid (by
            rw [alike_snoc, HAL.out, ← hB, ← hZ1, ← hZ0, hnk, Bool.true_and]
            rw [Bool.eq_iff_iff]
            simp only [decide_eq_true_eq, beq_iff_eq]
            omega)
          have hk1 : (0 : Int) < (k : Int) + 1 := by omega
          clear hpush hd0 hdk hnk hZ1 hZ0
          go_quiet ((go_at_call 22; first | with_reducible exact quiet_left (H1.out _) | with_reducible exact quiet_left (H0.out _)))
          go_wp2_with fail
          exact ⟨⟨k + 1, some ⟨gx, 0, none⟩, c', B, rfl, rfl, int_eq (by omega), by omega, by omega, Lib.hid ⟨_, _, F3, HLEN2.out, HAL2.out, HPU.out.below (below_drewN (Below.refl _ _) _)⟩⟩, by simp [RowKit.intOf]; omega⟩
      · rcases (by omega : (¬ k < m) ∨ (k < m ∧ ¬ k < 10)) with h | ⟨h, h2⟩
        · go_wp2_with fail
          go_meet
          exact ⟨k, A8, c8, al, rfl, rfl, hk10, HR⟩
        · go_wp2_with fail
          go_meet
          exact ⟨k, A8, c8, al, rfl, rfl, hk10, HR⟩
  case rest =>
    obtain ⟨k, A8, c8, al, rfl, rfl, hk10, HR⟩ := hcut
    clear HMK HA1
    obtain ⟨as_, ns, F9, hlen, hal, hmk⟩ := HR.out
    have HMK := Lib.hid hmk
    have HLEN := Lib.hid hlen
    have HAL := Lib.hid hal
    clear HR
    by_cases hk0 : k = 0
    · subst hk0
      obtain rfl : al = true := by
        have h1 := hmk.len
        rw [hlen] at h1
        rw [← hal, List.eq_nil_of_length_eq_zero h1]; decide
      clear hlen hal hmk
      go_wp2_with fail
      refine (mnew_many _ A8 0 c8 (.inl rfl)).mono ?_
      rintro e w9 ⟨rfl, hb9⟩
      have HEND : Hid (Below w.heap.size w w9) := Lib.hid (HW1.out.trans ((HMK.out.lw.be.trans (hb9.mono HMK.out.lw.be.size)).mono HW1.out.size))
      clear hb9
      go_wp2_with fail
      go_quiet (fail)
      go_wp2_with fail
      go_ret
      exact ⟨rfl, below_drewN HEND.out _⟩
    · obtain ⟨gx, rfl⟩ := OwnR.some_ hmk.own (by omega)
      have hkp : 1 ≤ k := by omega
      have d0 : decide ((0 : Int) < (k : Int)) = true := by simp; omega
      have d1 : decide ((k : Int) < 1) = false := by simp; omega
      by_cases hk8 : k ≤ 8
      · have d8 : decide (8 < (k : Int)) = false := by simp; omega
        cases nn with
        | true =>
          obtain ⟨j, hj, hjk⟩ : ∃ j : Nat, (k : Int).tdiv 2 = (j : Int) ∧ j < k := ⟨k / 2, by rw [Int.tdiv_eq_ediv_of_nonneg (by omega)]; omega, by omega⟩
          have hji : (j : Int) < (k : Int) := by omega
          obtain ⟨dj, _, _, cj⟩ := hmk.cell (k := j) (by omega)
          have fj : wc.frozen? ⟨gx, j, none⟩ = false := World.ownsRow.frozenAt hmk.own j
          have HCALL := Lib.hid (hmk.gone hlen hkp hk8 hjk)
          clear hlen hal hmk
          go_wp2_with fail
          refine HCALL.out.mono ?_
          rintro e w9 ⟨rfl, hb9⟩
          have HEND : Hid (Below w.heap.size w w9) := Lib.hid (by
            have h1 := HMK.out.lw.be.setCell (p := ⟨gx, j, none⟩) HMK.out.gx_ge.1 (.pointer none)
            exact HW1.out.trans ((h1.trans (hb9.mono h1.size)).mono HW1.out.size))
          clear hb9
          go_wp2_with fail
          go_quiet (fail)
          go_wp2_with fail
          go_ret
          exact ⟨rfl, below_drewN HEND.out _⟩
        | false =>
          by_cases hk2 : 2 ≤ k
          · have d2 : decide (1 < (k : Int)) = true := by simp; omega
            cases tw with
            | true =>
              obtain ⟨j, hj, hjk⟩ : ∃ j : Nat, (k : Int) - 1 = (j : Int) ∧ j + 1 = k := ⟨k - 1, by omega, by omega⟩
              have hji : (j : Int) < (k : Int) := by omega
              obtain ⟨dj, _, _, cj⟩ := hmk.cell (k := j) (by omega)
              obtain ⟨d0, hd0, _, c0⟩ := hmk.cell (k := 0) (by omega)
              have fj : wc.frozen? ⟨gx, j, none⟩ = false := World.ownsRow.frozenAt hmk.own j
              have HCALL := Lib.hid (hmk.twice hlen hk2 hk8 hjk hd0)
              clear hlen hal hmk
              go_wp2_with fail
              refine HCALL.out.mono ?_
              rintro e w9 ⟨rfl, hb9⟩
              have HEND : Hid (Below w.heap.size w w9) := Lib.hid (by
                have h1 := HMK.out.lw.be.setCell (p := ⟨gx, j, none⟩) HMK.out.gx_ge.1 (ob d0)
                exact HW1.out.trans ((h1.trans (hb9.mono h1.size)).mono HW1.out.size))
              clear hb9
              go_wp2_with fail
              go_quiet (fail)
              go_wp2_with fail
              go_ret
              exact ⟨rfl, below_drewN HEND.out _⟩
            | false =>
              have HNEW := Lib.hid (hmk.new hlen hkp hk8)
              cases al with
              | false =>
                have HD := Lib.hid (hmk.differ hal)
                have HND := Lib.hid (as_nodup hmk.lw.pw)
                clear hlen hal hmk
                go_wp2_with fail
                refine HNEW.out.mono ?_
                rintro e w9 ⟨v, i, rfl, hb9, _, hdiff, _⟩
                obtain ⟨rfl, rfl⟩ := hdiff HND.out HD.out
                have HEND : Hid (Below w.heap.size w w9) := Lib.hid (HW1.out.trans ((HMK.out.lw.be.trans (hb9.mono HMK.out.lw.be.size)).mono HW1.out.size))
                clear hb9 hdiff
                go_wp2_with fail
                go_quiet (fail)
                go_wp2_with fail
                go_ret
                exact ⟨rfl, below_drewN HEND.out _⟩
              | true =>
                have HD := Lib.hid (hmk.agree hal)
                have HND := Lib.hid (as_nodup hmk.lw.pw)
                clear hlen hal hmk
                go_wp2_with fail
                refine HNEW.out.mono ?_
                rintro e w9 ⟨v, i, rfl, hb9, _, _, hok⟩
                obtain ⟨rfl, mm, g, cm, rfl, hm1, hm2, hm3, hm4⟩ := hok HND.out HD.out
                have HEND : Hid (Below w.heap.size w w9) := Lib.hid (HW1.out.trans ((HMK.out.lw.be.trans (hb9.mono HMK.out.lw.be.size)).mono HW1.out.size))
                have hmk9 := HMK.out.below hb9
                have mc := hm1.cell 0
                simp at mc
                rw [HLEN.out] at mc
                obtain ⟨d0, hd0, e0, c0⟩ := hmk9.cell (k := 0) (by rw [HLEN.out]; omega)
                have g0 := hm2 0 (by rw [HLEN.out]; omega)
                rw [e0] at g0
                obtain ⟨Z, hZ⟩ : ∃ Z : Int, ((128 * ns.getD 0 0 : Nat) : Int) = Z := ⟨_, rfl⟩
                have HSZ : Hid (∀ q, Calls Try.prog 22 #[ob d0] (w9.drewN q) fun e w' => e = .returned (.int .i64 Z) ∧ w9.drewN q = w') := Lib.hid (fun q => by
                  have := (hmk9.below (below_drewN (Below.refl w9.heap.size w9) q)).size hd0
                  rwa [hZ] at this)
                have HMC : Hid (∀ q, Calls Try.prog 24 #[ob mm] (w9.drewN q) fun e w' => e = .returned (.int .i64 (k : Int)) ∧ w9.drewN q = w') := Lib.hid (fun q => copies_raw (w9.drewN q) mm g k cm mc)
                have HMS : Hid (∀ q, Calls Try.prog 25 #[ob mm] (w9.drewN q) fun e w' => e = .returned (.int .i64 Z) ∧ w9.drewN q = w') := Lib.hid (fun q => msize_raw (w9.drewN q) mm g k cm d0 Z mc g0 (by omega) (HSZ.out q))
                have hkk : ((k : Int) == (k : Int)) = true := beq_self_eq_true _
                have hzz : (Z == Z) = true := beq_self_eq_true _
                have hk0' : (0 : Int) < (k : Int) := by omega
                clear hb9 hok hm1 hm2 hm3 hm4 hmk9 hd0 e0 g0 hZ mc
                go_wp2_with fail
                go_quiet (first | (go_at_call 24; exact quiet_left (HMC.out _)) | (go_at_call 25; exact quiet_left (HMS.out _)) | (go_at_call 22; exact quiet_left (HSZ.out _)))
                go_wp2_with fail
                go_ret
                exact ⟨rfl, below_drewN HEND.out _⟩
          · have d2 : decide (1 < (k : Int)) = false := by simp; omega
            have HNEW := Lib.hid (hmk.new hlen hkp hk8)
            cases al with
            | false =>
              have HD := Lib.hid (hmk.differ hal)
              have HND := Lib.hid (as_nodup hmk.lw.pw)
              clear hlen hal hmk
              go_wp2_with fail
              refine HNEW.out.mono ?_
              rintro e w9 ⟨v, i, rfl, hb9, _, hdiff, _⟩
              obtain ⟨rfl, rfl⟩ := hdiff HND.out HD.out
              have HEND : Hid (Below w.heap.size w w9) := Lib.hid (HW1.out.trans ((HMK.out.lw.be.trans (hb9.mono HMK.out.lw.be.size)).mono HW1.out.size))
              clear hb9 hdiff
              go_wp2_with fail
              go_quiet (fail)
              go_wp2_with fail
              go_ret
              exact ⟨rfl, below_drewN HEND.out _⟩
            | true =>
              have HD := Lib.hid (hmk.agree hal)
              have HND := Lib.hid (as_nodup hmk.lw.pw)
              clear hlen hal hmk
              go_wp2_with fail
              refine HNEW.out.mono ?_
              rintro e w9 ⟨v, i, rfl, hb9, _, _, hok⟩
              obtain ⟨rfl, mm, g, cm, rfl, hm1, hm2, hm3, hm4⟩ := hok HND.out HD.out
              have HEND : Hid (Below w.heap.size w w9) := Lib.hid (HW1.out.trans ((HMK.out.lw.be.trans (hb9.mono HMK.out.lw.be.size)).mono HW1.out.size))
              have hmk9 := HMK.out.below hb9
              have mc := hm1.cell 0
              simp at mc
              rw [HLEN.out] at mc
              obtain ⟨d0, hd0, e0, c0⟩ := hmk9.cell (k := 0) (by rw [HLEN.out]; omega)
              have g0 := hm2 0 (by rw [HLEN.out]; omega)
              rw [e0] at g0
              obtain ⟨Z, hZ⟩ : ∃ Z : Int, ((128 * ns.getD 0 0 : Nat) : Int) = Z := ⟨_, rfl⟩
              have HSZ : Hid (∀ q, Calls Try.prog 22 #[ob d0] (w9.drewN q) fun e w' => e = .returned (.int .i64 Z) ∧ w9.drewN q = w') := Lib.hid (fun q => by
                have := (hmk9.below (below_drewN (Below.refl w9.heap.size w9) q)).size hd0
                rwa [hZ] at this)
              have HMC : Hid (∀ q, Calls Try.prog 24 #[ob mm] (w9.drewN q) fun e w' => e = .returned (.int .i64 (k : Int)) ∧ w9.drewN q = w') := Lib.hid (fun q => copies_raw (w9.drewN q) mm g k cm mc)
              have HMS : Hid (∀ q, Calls Try.prog 25 #[ob mm] (w9.drewN q) fun e w' => e = .returned (.int .i64 Z) ∧ w9.drewN q = w') := Lib.hid (fun q => msize_raw (w9.drewN q) mm g k cm d0 Z mc g0 (by omega) (HSZ.out q))
              have hkk : ((k : Int) == (k : Int)) = true := beq_self_eq_true _
              have hzz : (Z == Z) = true := beq_self_eq_true _
              have hk0' : (0 : Int) < (k : Int) := by omega
              clear hb9 hok hm1 hm2 hm3 hm4 hmk9 hd0 e0 g0 hZ mc
              go_wp2_with fail
              go_quiet (first | (go_at_call 24; exact quiet_left (HMC.out _)) | (go_at_call 25; exact quiet_left (HMS.out _)) | (go_at_call 22; exact quiet_left (HSZ.out _)))
              go_wp2_with fail
              go_ret
              exact ⟨rfl, below_drewN HEND.out _⟩
      · have d8 : decide (8 < (k : Int)) = true := by simp; omega
        have d2 : decide (1 < (k : Int)) = true := by simp; omega
        cases nn with
        | true =>
          obtain ⟨j, hj, hjk⟩ : ∃ j : Nat, (k : Int).tdiv 2 = (j : Int) ∧ j < k := ⟨k / 2, by rw [Int.tdiv_eq_ediv_of_nonneg (by omega)]; omega, by omega⟩
          have hji : (j : Int) < (k : Int) := by omega
          obtain ⟨dj, _, _, cj⟩ := hmk.cell (k := j) (by omega)
          have fj : wc.frozen? ⟨gx, j, none⟩ = false := World.ownsRow.frozenAt hmk.own j
          have HCALL := Lib.hid (mnew_many (wc.setCell ⟨gx, j, none⟩ (.pointer none)) (some ⟨gx, 0, none⟩) k c8 (.inr (by omega)))
          clear hlen hal hmk
          go_wp2_with fail
          refine HCALL.out.mono ?_
          rintro e w9 ⟨rfl, hb9⟩
          have HEND : Hid (Below w.heap.size w w9) := Lib.hid (by
            have h1 := HMK.out.lw.be.setCell (p := ⟨gx, j, none⟩) HMK.out.gx_ge.1 (.pointer none)
            exact HW1.out.trans ((h1.trans (hb9.mono h1.size)).mono HW1.out.size))
          clear hb9
          go_wp2_with fail
          go_quiet (fail)
          go_wp2_with fail
          go_ret
          exact ⟨rfl, below_drewN HEND.out _⟩
        | false =>
          cases tw with
          | true =>
            obtain ⟨j, hj, hjk⟩ : ∃ j : Nat, (k : Int) - 1 = (j : Int) ∧ j + 1 = k := ⟨k - 1, by omega, by omega⟩
            have hji : (j : Int) < (k : Int) := by omega
            obtain ⟨dj, _, _, cj⟩ := hmk.cell (k := j) (by omega)
            obtain ⟨d0, hd0, _, c0⟩ := hmk.cell (k := 0) (by omega)
            have fj : wc.frozen? ⟨gx, j, none⟩ = false := World.ownsRow.frozenAt hmk.own j
            have HCALL := Lib.hid (mnew_many (wc.setCell ⟨gx, j, none⟩ (ob d0)) (some ⟨gx, 0, none⟩) k c8 (.inr (by omega)))
            clear hlen hal hmk
            go_wp2_with fail
            refine HCALL.out.mono ?_
            rintro e w9 ⟨rfl, hb9⟩
            have HEND : Hid (Below w.heap.size w w9) := Lib.hid (by
              have h1 := HMK.out.lw.be.setCell (p := ⟨gx, j, none⟩) HMK.out.gx_ge.1 (ob d0)
              exact HW1.out.trans ((h1.trans (hb9.mono h1.size)).mono HW1.out.size))
            clear hb9
            go_wp2_with fail
            go_quiet (fail)
            go_wp2_with fail
            go_ret
            exact ⟨rfl, below_drewN HEND.out _⟩
          | false =>
            have HCALL := Lib.hid (mnew_many wc (some ⟨gx, 0, none⟩) k c8 (.inr (by omega)))
            cases al with
            | false =>
              clear hlen hal hmk
              go_wp2_with fail
              refine HCALL.out.mono ?_
              rintro e w9 ⟨rfl, hb9⟩
              have HEND : Hid (Below w.heap.size w w9) := Lib.hid (HW1.out.trans ((HMK.out.lw.be.trans (hb9.mono HMK.out.lw.be.size)).mono HW1.out.size))
              clear hb9
              go_wp2_with fail
              go_quiet (fail)
              go_wp2_with fail
              go_ret
              exact ⟨rfl, below_drewN HEND.out _⟩
            | true =>
              clear hlen hal hmk
              go_wp2_with fail
              refine HCALL.out.mono ?_
              rintro e w9 ⟨rfl, hb9⟩
              have HEND : Hid (Below w.heap.size w w9) := Lib.hid (HW1.out.trans ((HMK.out.lw.be.trans (hb9.mono HMK.out.lw.be.size)).mono HW1.out.size))
              clear hb9
              go_wp2_with fail
              go_quiet (fail)
              go_wp2_with fail
              go_ret
              exact ⟨rfl, below_drewN HEND.out _⟩
end Go.Proofs.Ytoompglghjpapaa
