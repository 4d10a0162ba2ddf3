/-
  Walks of the reference's disks: Put.
-/
import Derived.Test.YtoompglghjpapaaRkG
import Derived.Deep.Cut
namespace Go.Proofs.Ytoompglghjpapaa
open Go.RowKit
set_option linter.unusedVariables false
set_option linter.unusedSimpArgs false
attribute [local go_sem ↓] Go.wp_at_zero Go.wp_at_succ

theorem info_rpd : (Try.prog.info? 73).map (fun i => (i.zero, i.size, i.bytes)) = some (some (.pointer none), 1, 8) := by kernel_rfl
theorem rd_made (w : World) (n : Nat) : RdB (w.alloc (.cells (madeCells #[.int .u8 0] n) 5)) (some ⟨w.heap.size, 0, none⟩) (zeroB n) := by
  rw [made_zero]; exact rd_blk (Blk.new w _ _) 0
/-- a disk has been made, the power has it not yet -/
def PutMid (w wx : World) (p d nb m : Nat) : Prop :=
  Below w.heap.size w wx ∧ Blk wx d 84 #[ob p, .string (bs (zeroB (128 * m))), .string ByteArray.empty, .slice (some ⟨nb, 0, none⟩) m m] ∧ Blk wx nb 4 (boolsL (List.replicate m false)) ∧ w.heap.size ≤ d ∧ w.heap.size ≤ nb
theorem put_a (w : World) (o1 : Obj) (p m : Nat) {Z : ByteArray} (hZ : bs (zeroB (128 * m)) = Z) :
    PutMid w ((((w.alloc o1).alloc (.cells (boolsL (List.replicate m false)) 4)).alloc (.cells #[ob p, .string Z, .string ⟨#[]⟩, .slice (some ⟨w.heap.size + 1, 0, none⟩) m m] 84)).drew) p (w.heap.size + 1 + 1) (w.heap.size + 1) m := by
  subst hZ
  have h1 := Blk.new (w.alloc o1) 4 (boolsL (List.replicate m false))
  have h2 := Blk.new ((w.alloc o1).alloc (.cells (boolsL (List.replicate m false)) 4)) 84 #[ob p, .string (bs (zeroB (128 * m))), .string ⟨#[]⟩, .slice (some ⟨w.heap.size + 1, 0, none⟩) m m]
  have h3 := h1.alloc (.cells #[ob p, .string (bs (zeroB (128 * m))), .string ⟨#[]⟩, .slice (some ⟨w.heap.size + 1, 0, none⟩) m m] 84)
  simp only [World.size_alloc] at h2 h3
  exact ⟨((((Below.refl _ _).alloc (Nat.le_refl _) _).alloc (by simp) _).alloc (by simp; omega) _).drew, h2, h3, by omega, by omega⟩
theorem put_b (w : World) (o1 : Obj) (p m : Nat) {Z : ByteArray} (hZ : bs (zeroB (128 * m)) = Z) :
    PutMid w ((((w.alloc (.cells (boolsL (List.replicate m false)) 4)).alloc o1).alloc (.cells #[ob p, .string Z, .string ⟨#[]⟩, .slice (some ⟨w.heap.size, 0, none⟩) m m] 84)).drew) p (w.heap.size + 1 + 1) w.heap.size m := by
  subst hZ
  have h1 := Blk.new w 4 (boolsL (List.replicate m false))
  have h2 := Blk.new ((w.alloc (.cells (boolsL (List.replicate m false)) 4)).alloc o1) 84 #[ob p, .string (bs (zeroB (128 * m))), .string ⟨#[]⟩, .slice (some ⟨w.heap.size, 0, none⟩) m m]
  have h3 := (h1.alloc o1).alloc (.cells #[ob p, .string (bs (zeroB (128 * m))), .string ⟨#[]⟩, .slice (some ⟨w.heap.size, 0, none⟩) m m] 84)
  simp only [World.size_alloc] at h2
  exact ⟨((((Below.refl _ _).alloc (Nat.le_refl _) _).alloc (by simp) _).alloc (by simp; omega) _).drew, h2, h3, by omega, by omega⟩
def RPutSpec (p : Nat) (ds : List (Nat × Dk)) (off : Bool) (arm : Int) (m : Nat) (F : Nat → Prop) (w : World) (e : Ending) (w' : World) : Prop :=
  ∃ d F', e = .returned (.tuple #[ob d, .int .i64 0]) ∧ QwR w' p (ds ++ [(d, Dk.fresh m)]) off arm F' ∧ Step F F' w w' ∧ w.heap.size ≤ d
theorem rput_fin {w wx w' : World} {p c d nb m : Nat} {ds : List (Nat × Dk)} {off : Bool} {arm : Int} {A A' : Option Addr} {c' : Nat} {Fs : Nat → Nat → Prop} (hm : 0 < m ∧ m ≤ 16384) (hds : ds.length < 1000) (h : QwAt w p ds off arm A c Fs) (hx : PutMid w wx p d nb m) {o4 : Obj}
    (hown : OwnR w' 0 73 1 A' (ds.length + 1) c' ((ds.map fun x => ob x.1) ++ [ob d]))
    (hg : ((wx.setCell ⟨d, 2, none⟩ (.string (bs (zeroB (128 * m))))).alloc o4).grownBy w' (blk A))
    (hat : blk A' = blk A ∨ blk A' = some ((wx.setCell ⟨d, 2, none⟩ (.string (bs (zeroB (128 * m))))).alloc o4).heap.size) :
    RPutSpec p ds off arm m (pwF p A ds.length Fs) w (.returned (.tuple #[ob d, .int .i64 0])) (w'.setCell ⟨p, 0, none⟩ (.slice A' (ds.length + 1) c')) := by
  obtain ⟨hb, b1, b2, hd, hnb⟩ := hx
  have hdn : nb ≠ d := Ne.symm (Blk.ne_ b1 b2 (by decide))
  have hpl := h.self.lt
  have hne : some p ≠ blk A := fun e => own_blk_ne (w := w) h.row h.self (by decide) (by rw [ownBlock_slice]; exact e.symm)
  have hAl : ∀ k, blk A = some k → k < w.heap.size := fun k hk => (OwnR.lt h.row k hk).2
  have hbs := hb.size
  obtain ⟨w4, e4⟩ : ∃ w4, w4 = (wx.setCell ⟨d, 2, none⟩ (.string (bs (zeroB (128 * m))))).alloc o4 := ⟨_, rfl⟩
  have z4 : w4.heap.size = wx.heap.size + 1 := by rw [e4]; simp [World.setCell]
  rw [← e4] at hg hat
  have d4 : Blk w4 d 84 #[ob p, .string (bs (zeroB (128 * m))), .string (bs (zeroB (128 * m))), .slice (some ⟨nb, 0, none⟩) m m] := by
    rw [e4]
    simpa using (b1.set_ 2 (.string (bs (zeroB (128 * m))))).alloc o4
  have n4 : Blk w4 nb 4 (boolsL (List.replicate m false)) := by
    rw [e4]
    exact (b2.far (p := ⟨d, 2, none⟩) hdn _).alloc o4
  have s4 : Step (fun i => i = p ∨ blk A = some i) (fun i => i = p ∨ blk A = some i) w w4 := by
    rw [e4]
    exact ((Step.of_below hb _).setCell (a := ⟨d, 2, none⟩) (.inr hd) _).alloc' o4
  have p4 : Blk w4 p 81 #[.slice A ds.length c, .bool off, .int .i64 arm] := by
    rw [e4]
    exact ((h.self.below_ hb).far (p := ⟨d, 2, none⟩) (by show p ≠ d; omega) _).alloc o4
  have q : ∀ i, i < w4.heap.size → blk A ≠ some i → i ≠ p → (w'.setCell ⟨p, 0, none⟩ (.slice A' (ds.length + 1) c')).heap[i]? = w4.heap[i]? := fun i hi h1 h2 =>
    (Below.heap_setCell w' ⟨p, 0, none⟩ _ i h2).trans (hg.block i hi (fun e => h1 e.symm))
  have hbig : ∀ i, w.heap.size ≤ i → blk A ≠ some i ∧ i ≠ p := fun i hi => ⟨fun e => by have := hAl i e; omega, by omega⟩
  have hrk : RkAt (w'.setCell ⟨p, 0, none⟩ (.slice A' (ds.length + 1) c')) p d (Dk.fresh m) nb := by
    have hnl : (Dk.fresh m).nw.length = m := by simp [Dk.fresh]
    refine ⟨fresh_ok m, by rw [hnl]; exact hm.1, by rw [hnl]; exact hm.2, ?_, ?_⟩
    · rw [hnl]
      exact (q d d4.lt (hbig d hd).1 (hbig d hd).2).trans d4
    · exact (q nb n4.lt (hbig nb hnb).1 (hbig nb hnb).2).trans n4
  have hst : Step (fun i => i = p ∨ blk A = some i) No w (w'.setCell ⟨p, 0, none⟩ (.slice A' (ds.length + 1) c')) :=
    ((s4.grown hg (fun k hk => .inl (.inr hk))).setCell (a := ⟨p, 0, none⟩) (.inl (.inl rfl)) _).regroup fun i hi => absurd hi fun h => h
  have hp1 : Blk (w'.setCell ⟨p, 0, none⟩ (.slice A' (ds.length + 1) c')) p 81 #[.slice A' (ds ++ [(d, Dk.fresh m)]).length c', .bool off, .int .i64 arm] := by
    have := (show Blk w' p _ _ from (hg.block p p4.lt hne).trans p4).set_ 0 (.slice A' (ds.length + 1) c')
    simpa using this
  have hp2 : OwnR (w'.setCell ⟨p, 0, none⟩ (.slice A' (ds.length + 1) c')) 0 73 1 A' (ds ++ [(d, Dk.fresh m)]).length c' ((ds ++ [(d, Dk.fresh m)]).map fun x => ob x.1) := by
    have : OwnR (w'.setCell ⟨p, 0, none⟩ (.slice A' (ds.length + 1) c')) 0 73 1 A' (ds.length + 1) c' ((ds.map fun x => ob x.1) ++ [ob d]) := OwnR.far hown (by
      rcases hat with e | e
      · rw [e]; exact Ne.symm hne
      · rw [e, z4]; simp; omega) _
    simpa using this
  have hp3 : ∀ k, blk A' = some k → blk A = some k ∨ (w.heap.size ≤ k ∧ ¬ rkF d nb k) := by
    intro k hk
    rcases hat with e | e
    · exact .inl (by rw [← e]; exact hk)
    · rw [e] at hk
      have hk : w4.heap.size = k := by simpa using hk
      have h1 := b1.lt
      have h2 := b2.lt
      refine .inr ⟨by omega, ?_⟩
      rintro (h1 | h1) <;> omega
  have hp4 : Ge (rkF d nb) w.heap.size := by
    rintro i (h1 | h1) <;> omega
  obtain ⟨r1, r2⟩ := h.push hst hp1 hp2 hp3 ⟨_, hrk, rfl⟩ hp4 hds
  exact ⟨d, _, rfl, ⟨A', c', _, r1, rfl⟩, r2, hd⟩
set_option maxRecDepth 100000 in
set_option maxHeartbeats 1000000 in
theorem rput_ok {p : Nat} {ds : List (Nat × Dk)} {off : Bool} {arm : Int} {F : Nat → Prop} (m : Nat) (w : World) (h : QwR w p ds off arm F) (hm : 0 < m ∧ m ≤ 16384) (hds : ds.length < 1000) :
    Calls Try.prog 38 #[ob p, .int .i64 ((128 * m : Nat) : Int)] w fun e w' => RPutSpec p ds off arm m F w e w' := by
  obtain ⟨A, c, Fs, h, rfl⟩ := h
  have HH := Lib.hid h
  have HM := Lib.hid hm
  clear h
  obtain ⟨N, hN⟩ : ∃ N, 128 * m = N := ⟨_, rfl⟩
  have HN : Hid (128 * m = N) := Lib.hid hN
  have hN1 : 128 ≤ N ∧ N ≤ 2097152 := by omega
  have h3 : ((N : Int).tmod 128 != 0) = false := by rw [bne_eq_false_iff_eq, Int.tmod_eq_emod_of_nonneg (by omega)]; omega
  have h3' : ((N : Int) % 128 != 0) = false := by rw [bne_eq_false_iff_eq]; omega
  have hq1 : (N : Int).tdiv 128 = (m : Int) := by rw [Int.tdiv_eq_ediv_of_nonneg (by omega)]; omega
  have hq2 : (N : Int) / 128 = (m : Int) := by omega
  rw [hN]
  clear hN
  obtain ⟨h1, h2⟩ := hN1
  obtain ⟨hm1, hm2⟩ := hm
  have hmk1 := run_makeB N (by omega)
  have hmk2 := fun W => run_makeBools m (m : Int) rfl (by omega) W
  have hl1 : decide ((N : Int) < 128) = false := by simp; omega
  have hl2 : decide ((2097152 : Int) < (N : Int)) = false := by simp; omega
  go_enter Try.func38, Try.ntmps38
  go_upto_region 3 with fail
  go_cut [6] from 18 (fun s6 wx => ∃ d nb, s6 = ob d ∧ Hid (PutMid w wx p d nb m))
  case first =>
    obtain ⟨ZS, hZS⟩ : ∃ Z, bs (zeroB N) = Z := ⟨_, rfl⟩
    have hca : (convert 37 9 (.slice (some ⟨w.heap.size, 0, none⟩) N N)).run Try.prog (w.alloc (.cells (madeCells #[.int .u8 0] N) 5)).drew = .ok (.string ZS) (w.alloc (.cells (madeCells #[.int .u8 0] N) 5)).drew := by
      rw [← hZS]
      exact run_str (w := (w.alloc (.cells (madeCells #[.int .u8 0] N) 5)).drew) (l := zeroB N) (n := N) N (rd_made w N) (zeroB_length N).symm
    have hcb : ∀ o : Obj, (convert 37 9 (.slice (some ⟨w.heap.size, 0, none⟩) N N)).run Try.prog ((w.alloc (.cells (madeCells #[.int .u8 0] N) 5)).alloc o).drew = .ok (.string ZS) ((w.alloc (.cells (madeCells #[.int .u8 0] N) 5)).alloc o).drew := fun o => by
      rw [← hZS]
      exact run_str (w := ((w.alloc (.cells (madeCells #[.int .u8 0] N) 5)).alloc o).drew) (l := zeroB N) (n := N) N ((rd_made w N).below ((Below.refl _ _).alloc (Nat.le_refl _) _).drew) (zeroB_length N).symm
    have hcc : ∀ o : Obj, (convert 37 9 (.slice (some ⟨w.heap.size + 1, 0, none⟩) N N)).run Try.prog ((w.alloc o).alloc (.cells (madeCells #[.int .u8 0] N) 5)).drew = .ok (.string ZS) ((w.alloc o).alloc (.cells (madeCells #[.int .u8 0] N) 5)).drew := fun o => by
      rw [← hZS]
      have := rd_made (w.alloc o) N
      simp only [World.size_alloc] at this
      exact run_str (w := ((w.alloc o).alloc (.cells (madeCells #[.int .u8 0] N) 5)).drew) (l := zeroB N) (n := N) N this (zeroB_length N).symm
    go_region
    all_goals (go_wp2_with fail; go_meet; first | exact ⟨_, _, rfl, Lib.hid (put_a w _ p m (by rw [HN.out]; exact hZS))⟩ | exact ⟨_, _, rfl, Lib.hid (put_b w _ p m (by rw [HN.out]; exact hZS))⟩)
  case rest =>
    obtain ⟨d, nb, rfl, hx⟩ := hcut
    obtain ⟨hb, b1, b2, hd, hnb⟩ := hx.out
    have pl := HH.out.self.lt
    have hpd : p ≠ d := by omega
    obtain ⟨Z, hZ⟩ : ∃ Z, bs (zeroB (128 * m)) = Z := ⟨_, rfl⟩
    have HZ : Hid (bs (zeroB (128 * m)) = Z) := Lib.hid hZ
    rw [hZ] at b1
    have c1 := b1.cell 1
    have c2 := b1.cell 2
    have f2 := b1.frozen 2
    simp at c1 c2
    have P2 := (HH.out.self.below_ hb).far (p := ⟨d, 2, none⟩) hpd (.string Z)
    have p0 := P2.cell 0
    have pf := P2.frozen 0
    simp at p0
    have hwl : (wc.setCell ⟨d, 2, none⟩ (.string Z)).heap.size = wc.heap.size := by simp [World.setCell]
    have HOW : Hid (∀ o, OwnR ((wc.setCell ⟨d, 2, none⟩ (.string Z)).alloc o) 0 73 1 A ds.length c (ds.map fun x => ob x.1)) := Lib.hid fun o => OwnR.block HH.out.row fun k hk => by
      have h1 := (OwnR.lt HH.out.row k hk).2
      have h2 := hb.size
      rw [Below.heap_alloc _ _ _ (by rw [hwl]; omega), Below.heap_setCell _ _ _ _ (by show k ≠ d; omega), hb.block k h1]
    have HX := hx
    have hneA : some p ≠ blk A := fun e => own_blk_ne (w := w) HH.out.row HH.out.self (by decide) (by rw [ownBlock_slice]; exact e.symm)
    have HQ : Hid (∀ (o : Obj) (w' : World), ((wc.setCell ⟨d, 2, none⟩ (.string Z)).alloc o).grownBy w' (blk A) → w'.heap[p]? = ((wc.setCell ⟨d, 2, none⟩ (.string Z)).alloc o).heap[p]?) := Lib.hid fun o w' hg => hg.block p (by
      have := P2.lt
      simp; omega) hneA
    have HP2 := Lib.hid P2
    clear hb b1 b2 hx hZ P2
    go_wp2_with (at_builtin; refine wpList_app rfl (.tmp 38) (.tmp 40) 76 rfl 0 73 (.pointer none) 1 8 Try.underlying76 info_rpd rfl (by decide) A ds.length c (ds.map fun x => ob x.1) rfl (HOW.out _) ⟨wc.heap.size, 0, none⟩ 1 1 [ob d] rfl rfl (cells_new_at _ _ _ _ hwl.symm) (fun u hu => by simp at hu; subst hu; rfl) (by unfold maxLen; omega) (by omega) (Nat.zero_le _) ?_; (intro A' c' w' hown hg hat; have hp' := HQ.out _ _ hg; have c0' := (World.cell?_of_block (a := ⟨p, 0, none⟩) hp').trans ((HP2.out.alloc _).cell 0); have f0' := (World.frozen?_of_block (a := ⟨p, 0, none⟩) hp').trans ((HP2.out.alloc _).frozen 0); simp at c0'))
    go_ret2
    rw [← HZ.out] at hg hat
    exact rput_fin HM.out hds HH.out HX.out hown hg hat
end Go.Proofs.Ytoompglghjpapaa
