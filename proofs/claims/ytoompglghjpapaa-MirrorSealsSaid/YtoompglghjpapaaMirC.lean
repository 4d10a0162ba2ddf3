/-
  Walk: the laws' mirror: some new disks, their list, their mirror.
-/
import Derived.Test.YtoompglghjpapaaMirB
namespace Go.Proofs.Ytoompglghjpapaa
open Go.RowKit
set_option linter.unusedVariables false
set_option linter.unusedSimpArgs false
attribute [local go_sem ↓] Go.wp_at_zero Go.wp_at_succ

theorem step_out {F F' : Nat → Prop} {w w' : World} (hs : Step F F' w w') {i : Nat} (hi : i < w.heap.size) (hn : ¬ F i) : ¬ F' i := fun hf => by
  rcases hs.fresh i hf with h1 | h1
  · exact hn h1
  · omega
/-- what stays outside F stays -/
theorem LW.kept {w0 w w' : World} {p : Nat} {as_ : List Nat} {S : St} {F : Nat → Prop} (h : LW w0 w p as_ S F) (hs : Same F w w') (hz : w.heap.size ≤ w'.heap.size) (hb : Below w0.heap.size w w') : LW w0 w' p as_ S F :=
  ⟨h.pw.keep hs hz, h.ge, h.be.trans hb⟩
/-- a law's glass G: the power p with the disks as_, the list bs of disks, the mirror's pointer mv -/
structure Gl (w0 w : World) (p G : Nat) (as_ bs : List Nat) (S : St) (A : Option Addr) (c : Nat) (mv : Value) (F : Nat → Prop) : Prop where
  lw : LW w0 w p as_ S F
  gb : Blk w G 35 #[ob p, .slice A bs.length c, mv]
  own : OwnR w w0.heap.size 42 1 A bs.length c (bs.map ob)
  ng : ¬ F G
  na : ∀ b, blk A = some b → ¬ F b ∧ b ≠ G
  hg : w0.heap.size ≤ G
section
variable {w0 w w' : World} {p G c : Nat} {as_ as' bs : List Nat} {S S' : St} {A : Option Addr} {mv : Value} {F F' : Nat → Prop}
theorem Gl.below (h : Gl w0 w p G as_ bs S A c mv F) (hb : Below w.heap.size w w') : Gl w0 w' p G as_ bs S A c mv F :=
  ⟨h.lw.below hb, h.gb.below_ hb, OwnR.below' h.own hb, h.ng, h.na, h.hg⟩
theorem Gl.step (h : Gl w0 w p G as_ bs S A c mv F) (hs : Step F F' w w') (hp : PwS w' p as' S' F') : Gl w0 w' p G as' bs S' A c mv F' :=
  ⟨h.lw.step hs hp, h.gb.step hs h.ng, OwnR.block h.own fun k hk => hs.block k (OwnR.lt h.own k hk).2 (h.na k hk).1, step_out hs h.gb.lt h.ng, fun b hb => ⟨step_out hs (OwnR.lt h.own b hb).2 (h.na b hb).1, (h.na b hb).2⟩, h.hg⟩
/-- a disk more in the list -/
theorem Gl.push (h : Gl w0 w p G as_ bs S A c mv F) {d : Nat} {A' : Option Addr} {c' n : Nat} {w1 : World} (hown : OwnR w1 w0.heap.size 42 1 A' (bs.length + 1) c' (bs.map ob ++ [ob d]))
    (hgr : (w.alloc (.cells #[ob d] 42)).grownBy w1 (blk A)) (hat : blk A' = blk A ∨ blk A' = some (w.alloc (.cells #[ob d] 42)).heap.size) (hn : n = bs.length + 1) :
    Gl w0 (w1.setCell ⟨G, 1, none⟩ (.slice A' n c')) p G as_ (bs ++ [d]) S A' c' mv F := by
  subst hn
  have h1 := h.below ((Below.refl w.heap.size w).alloc (Nat.le_refl _) (.cells #[ob d] 42))
  have hlt := h.lw.pw.lt
  have hG := h.gb.lt
  have hnG : some G ≠ blk A := fun e => (h.na G e.symm).2 rfl
  have hgb1 : Blk w1 G 35 #[ob p, .slice A bs.length c, mv] := h1.gb.grown hgr hnG
  have hgb : Blk (w1.setCell ⟨G, 1, none⟩ (.slice A' (bs.length + 1) c')) G 35 #[ob p, .slice A' (bs.length + 1) c', mv] := hgb1.set_ 1 _
  have hsz : (w.alloc (.cells #[ob d] 42)).heap.size = w.heap.size + 1 := by simp
  have hgs := hgr.size
  have hA : ∀ b, blk A' = some b → ¬ F b ∧ b ≠ G := fun b hb => by
    rcases hat with e | e
    · exact h.na b (e ▸ hb)
    · rw [e, hsz] at hb
      have : w.heap.size + 1 = b := by simpa using hb
      exact ⟨fun hf => by have := hlt b hf; omega, by omega⟩
  have hsame : Same F (w.alloc (.cells #[ob d] 42)) w1 := fun i hi => hgr.block i (by have := hlt i hi; rw [hsz]; omega) (fun e => (h.na i e.symm).1 hi)
  have hb0 := h.lw.be.size
  have hbe : Below w0.heap.size (w.alloc (.cells #[ob d] 42)) w1 := (Below.refl _ _).grown hgr (by rw [hsz]; omega) (fun k hk => (OwnR.lt h.own k hk).1)
  have hlw := h1.lw.kept hsame hgs hbe
  refine ⟨hlw.own h.ng h.hg _, by rw [List.length_append]; exact hgb, ?_, h.ng, hA, h.hg⟩
  rw [List.length_append, List.map_append]
  exact OwnR.far hown (p := ⟨G, 1, none⟩) (fun e => (hA G e).2 rfl) _
theorem as_nodup (h : PwS w p as_ S F) : as_.Nodup := by
  obtain ⟨hl, A, c, lf, Fs, h, _⟩ := h
  unfold List.Nodup
  rw [List.pairwise_iff_getElem]
  intro i j hi' hj hij e
  obtain ⟨d, hd⟩ : ∃ d, as_[i]? = some d := ⟨_, List.getElem?_eq_getElem hi'⟩
  have hd2 : as_[j]? = some d := by rw [List.getElem?_eq_getElem hj, ← e, ← List.getElem?_eq_getElem hi', hd]
  have hz1 := zip_at hl hd
  have hz2 := zip_at hl hd2
  obtain ⟨fb, mb, og, oc, h1, e1⟩ := h.disk i _ hz1
  obtain ⟨fb2, mb2, og2, oc2, h2, e2⟩ := h.disk j _ hz2
  have hlz : (as_.zip S.ds).length = as_.length := by simp [hl]
  exact h.apart i j (by omega) (by omega) (by omega) d (by rw [e1]; exact .inl rfl) (by rw [e2]; exact .inl rfl)
end
theorem Gl.seal {w0 w : World} {p G c : Nat} {as_ bs : List Nat} {S : St} {A : Option Addr} {mv : Value} {F : Nat → Prop} (h : Gl w0 w p G as_ bs S A c mv F) (v : Value) : Gl w0 (w.setCell ⟨G, 2, none⟩ v) p G as_ bs S A c v F :=
  ⟨h.lw.own h.ng h.hg _, h.gb.set_ 2 _, OwnR.far h.own (p := ⟨G, 2, none⟩) (fun e => (h.na G e).2 rfl) _, h.ng, h.na, h.hg⟩
/-- a law's glass whose mirror stands -/
structure Mr (w0 w : World) (p G : Nat) (as_ : List Nat) (S : St) (m : Nat) (F : Nat → Prop) : Prop where
  gl : ∃ A c, Gl w0 w p G as_ as_ S A c (ob m) F
  mir : ∃ g c, Blk w m 108 #[.slice (some ⟨g, 0, none⟩) as_.length c] ∧ (∀ k, k < as_.length → w.cell? ⟨g, k, none⟩ = some (ob (as_.getD k 0))) ∧ ¬ F m ∧ ¬ F g ∧ g < w.heap.size
section
variable {w0 w w' : World} {p G m : Nat} {as_ : List Nat} {S S' : St} {F F' : Nat → Prop}
theorem Mr.lw (h : Mr w0 w p G as_ S m F) : LW w0 w p as_ S F := by obtain ⟨A, c, h1⟩ := h.gl; exact h1.lw
theorem Mr.below (h : Mr w0 w p G as_ S m F) (hb : Below w.heap.size w w') : Mr w0 w' p G as_ S m F := by
  obtain ⟨⟨A, c, h1⟩, g, cm, h2, h3, h4, h5, h6⟩ := h
  exact ⟨⟨A, c, h1.below hb⟩, g, cm, h2.below_ hb, fun k hk => below_cell hb (h3 k hk), h4, h5, by have := hb.size; omega⟩
theorem Mr.step (h : Mr w0 w p G as_ S m F) (hs : Step F F' w w') (hp : PwS w' p as_ S' F') : Mr w0 w' p G as_ S' m F' := by
  have hl := h.lw
  obtain ⟨⟨A, c, h1⟩, g, cm, h2, h3, h4, h5, h6⟩ := h
  exact ⟨⟨A, c, h1.step hs hp⟩, g, cm, h2.step hs h4, fun k hk => step_cell hs (h3 k hk) h5, step_out hs h2.lt h4, step_out hs h6 h5, by have := hs.size; omega⟩
end
def fresh5 (n : Nat) : St := ⟨List.replicate n (Dk.fresh 5), false, -1⟩
theorem fresh5_succ (k : Nat) : (⟨(fresh5 k).ds ++ [Dk.fresh 5], (fresh5 k).off, (fresh5 k).arm⟩ : St) = fresh5 (k + 1) := by
  simp [fresh5, List.replicate_succ']
theorem fresh5_at {j k : Nat} (h : j < k) : ((fresh5 k).at_ j).size = 640 := by
  have : (fresh5 k).at_ j = Dk.fresh 5 := by simp [fresh5, St.at_, List.getD, h]
  rw [this, fresh_size]
set_option maxRecDepth 100000 in
set_option maxHeartbeats 2000000 in
theorem build_any (w : World) (n : Nat) (hn1 : 1 ≤ n) (hn8 : n ≤ 8) :
    Calls Try.prog 14 #[.int .i64 (n : Int)] w fun e w' => ∃ p G as_ m F, e = .returned (.tuple #[ob G, .bool true]) ∧ Mr w w' p G as_ (fresh5 n) m F ∧ as_.length = n := by
  go_enter Try.func14, Try.ntmps14
  go_wp2_with fail
  refine (newPower_any w).mono ?_
  rintro e w1 ⟨F, rfl, hp, hs⟩
  have hl := LW.start w hp hs
  obtain ⟨p, hpp⟩ : ∃ p, w.heap.size = p := ⟨_, rfl⟩
  rw [hpp] at hl ⊢
  have hgl : Gl w (w1.alloc (.cells #[ob p, .slice none 0 0, .pointer none] 35)) p w1.heap.size [] [] (fresh5 0) none 0 (.pointer none) F :=
    ⟨hl.alloc _, Blk.new _ _ _, OwnR.nil _ _ _ _, hl.notin (.inr (Nat.le_refl _)), fun b hb => by simp [blk] at hb, hl.size⟩
  have HGL := Lib.hid hgl
  have HW1 : Hid (w.heap.size ≤ w1.heap.size) := Lib.hid hl.size
  clear hgl hl hp hs hpp
  go_wp2_with fail
  obtain ⟨w2, hw2⟩ : ∃ x, w1.alloc (.cells #[ob p, .slice none 0 0, .pointer none] 35) = x := ⟨_, rfl⟩
  obtain ⟨G, hG⟩ : ∃ x, w1.heap.size = x := ⟨_, rfl⟩
  rw [hw2] at HGL ⊢
  rw [hG] at HGL HW1 ⊢
  clear hw2 hG
  go_loopw [5, 6, 7] (fun i _ _ wr => ∃ k : Nat, i = .int .i64 (k : Int) ∧ k ≤ n ∧ Hid (∃ as_ A c F, as_.length = k ∧ Gl w wr p G as_ as_ (fresh5 k) A c (.pointer none) F)) (fun i _ _ _ => n - (RowKit.intOf i).toNat)
  case atStart => exact ⟨0, rfl, by omega, Lib.hid ⟨[], none, 0, F, rfl, HGL.out⟩⟩
  case round =>
    clear HGL
    obtain ⟨k, rfl, hk, HR⟩ := hrel
    by_cases hlt : k < n
    · obtain ⟨as_, A, c, F1, hlen, hgl⟩ := HR.out
      have g0 := hgl.gb.cell 0
      simp at g0
      have HG1 := Lib.hid hgl
      have HLEN := Lib.hid hlen
      clear HR hgl hlen
      go_wp2_with fail
      refine (st_new HG1.out.lw.pw 5 (by omega) (by rw [HLEN.out]; omega)).mono ?_
      rintro e w3 ⟨d, F3, rfl, hp, hs, hd⟩
      rw [fresh5_succ] at hp
      have hg3 := HG1.out.step hs hp
      have HG3 := Lib.hid hg3
      have g1 := hg3.gb.cell 1
      simp at g1
      rw [HLEN.out] at g1
      have HOW := Lib.hid (fun o : Obj => OwnR.alloc hg3.own o)
      have hGl := hg3.gb.lt
      have e1 := below_cell ((Below.refl w3.heap.size w3).alloc (Nat.le_refl _) (.cells #[ob d] 42)) g1
      clear hp hs hd HG1 g0 hg3
      go_wp2_with (at_builtin; refine wpList_app rfl (.tmp 32) (.tmp 34) 32 rfl w.heap.size 42 (.pointer none) 1 8 Try.underlying32 info_pd rfl (by decide) A k c (as_.map ob) rfl (by have := HOW.out (.cells #[ob d] 42); rw [HLEN.out] at this; exact this) ⟨w3.heap.size, 0, none⟩ 1 1 [ob d] rfl rfl (cells_new_at _ _ _ _ rfl) (fun u hu => by simp at hu; subst hu; rfl) (by unfold maxLen; omega) (by omega) (by have := HG3.out.lw.size; simp; omega) ?_; (intro A' c' w4 hown hgr hat; have hgG := (HG3.out.gb.alloc _).grown hgr (fun e => (HG3.out.na G e.symm).2 rfl); have hq1 := hgG.cell 1; have hf1 := hgG.frozen 1; simp at hq1))
      have hpush := HG3.out.push (n := k + 1) (by rw [HLEN.out]; exact hown) hgr hat (by rw [HLEN.out])
      exact ⟨⟨k + 1, int_eq (by omega), by omega, Lib.hid ⟨as_ ++ [d], A', c', F3, by simp [HLEN.out], hpush⟩⟩, by simp [RowKit.intOf]; omega⟩
    · have hkn : k = n := by omega
      subst hkn
      obtain ⟨as_, A, c, F1, hlen, hgl⟩ := HR.out
      have g1 := hgl.gb.cell 1
      simp at g1
      rw [hlen] at g1
      obtain ⟨gx, rfl⟩ : ∃ gx, A = some ⟨gx, 0, none⟩ := OwnR.some_ hgl.own (by omega)
      have HGL := Lib.hid hgl
      have HLEN := Lib.hid hlen
      have hat : ∀ j, j < k → ∃ d, as_[j]? = some d ∧ as_.getD j 0 = d := fun j hj => ⟨as_[j]'(by omega), List.getElem?_eq_getElem (by omega), by simp [List.getD, show j < as_.length by omega]⟩
      have HNEW := Lib.hid (mnew_any wr ⟨gx, 0, none⟩ k c as_ (fun _ => 640) hlen hn1 hn8 (fun j hj => by
          obtain ⟨d, hd, e⟩ := hat j hj
          obtain ⟨ad, e2, hc⟩ := OwnR.cellAt hgl.own j (ob d) (by simp [hd])
          cases e2
          rw [e]; exact hc) (fun d hd => by
          obtain ⟨j, hj⟩ := List.getElem?_of_mem hd
          obtain ⟨_, _, _, _, _, _, _, _, _, h2, _⟩ := hgl.lw.pw.open_ hj
          exact ⟨_, _, h2.self⟩) (fun W hW j hj q => by
          obtain ⟨d, hd, e⟩ := hat j hj
          rw [e]
          have h1 := st_size ((hgl.lw.below hW).drewN q).pw hd
          rw [fresh5_at hj] at h1
          exact h1))
      have g2 := hgl.gb.cell 2
      simp at g2
      clear HR hgl hlen hat g2
      go_wp2_with fail
      refine HNEW.out.mono ?_
      rintro e w5 ⟨v, i, rfl, hb5, _, _, hok⟩
      obtain ⟨rfl, m, g, cm, rfl, hm1, hm2, hm3, hm4⟩ := hok (as_nodup HGL.out.lw.pw) (by simp)
      have hg5 := HGL.out.below hb5
      have g2 := hg5.gb.cell 2
      have f2 := hg5.gb.frozen 2
      simp at g2
      have HM5 : Hid (Mr w (w5.setCell ⟨G, 2, none⟩ (ob m)) p G as_ (fresh5 k) m F1) := Lib.hid (by
        have hGl := HGL.out.gb.lt
        have hlt := HGL.out.lw.pw.lt
        refine ⟨⟨_, c, hg5.seal (ob m)⟩, g, cm, hm1.far (p := ⟨G, 2, none⟩) (by show m ≠ G; omega) _, fun j hj => ?_, fun hf => by have := hlt m hf; omega, fun hf => by have := hlt g hf; omega, ?_⟩
        · exact (World.cell?_of_block (a := ⟨g, j, none⟩) (Below.heap_setCell w5 ⟨G, 2, none⟩ _ g (by show g ≠ G; omega))).trans (hm2 j hj)
        · have h1 := World.block_lt_of_cell? _ _ (hm2 0 (by rw [HLEN.out]; omega))
          simpa [World.setCell] using h1)
      clear hm1 hm2 hm3 hm4 hok hb5 HNEW hg5
      go_wp2_with fail
      go_ret2
      exact ⟨p, G, as_, m, F1, rfl, HM5.out, HLEN.out⟩
end Go.Proofs.Ytoompglghjpapaa
