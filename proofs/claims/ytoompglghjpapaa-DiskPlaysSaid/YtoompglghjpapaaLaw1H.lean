/-
  Walk: the law DiskPlays: for all scripts two disks of one power answer what the document says.
-/
import Derived.Test.YtoompglghjpapaaLaw1G
import Derived.Deep.CutBlock
import Derived.Deep.CutRange
namespace Go.Proofs.Ytoompglghjpapaa
open Go.RowKit
set_option linter.unusedVariables false
set_option linter.unusedSimpArgs false
attribute [local go_sem ↓] Go.wp_at_zero Go.wp_at_succ

theorem own_len {w : World} {base c : Nat} {A : Option Addr} {l : List UInt8} (h : OwnM w base A c l) : l.length ≤ maxLen := by
  rcases h with ⟨_, rfl, _⟩ | ⟨g, _, _, _, h1, h2, _⟩
  · simp
  · omega
theorem own_some {w : World} {base c : Nat} {A : Option Addr} {l : List UInt8} (h : OwnM w base A c l) (hl : 0 < l.length) : ∃ g, A = some ⟨g, 0, none⟩ ∧ base ≤ g := by
  rcases h with ⟨_, rfl, _⟩ | ⟨g, rfl, h1, _⟩
  · simp at hl
  · exact ⟨g, rfl, h1⟩
theorem own_capm {w : World} {base c n size : Nat} {e : TypeId} {A : Option Addr} {xs : List Value} (h : OwnR w base e size A n c xs) : c ≤ maxLen := by
  rcases h.2 with ⟨hv, _⟩ | ⟨g, cap, cur, hv, _, _, _, hm, _⟩
  · injection hv with _ _ hc
    subst hc; exact Nat.zero_le _
  · injection hv with _ _ hc
    subst hc; exact hm
theorem dark_any (w : World) : Calls Try.prog 35 #[] w fun e w' => e = .returned (.pointer none) ∧ w = w' := by
  go_enter Try.func35, Try.ntmps35
  go_wp2
  go_ret
  exact ⟨rfl, rfl⟩
theorem nobody_any (w : World) : Calls Try.prog 36 #[] w fun e w' => e = .returned (.pointer none) ∧ w = w' := by
  go_enter Try.func36, Try.ntmps36
  go_wp2
  go_ret
  exact ⟨rfl, rfl⟩
/-- the reference's two disks are made behind the program's -/
theorem pl_start {w1 w2 w5 : World} {p a b q c d : Nat} {ad : Addr} {S T : St} {F G : Nat → Prop} (hl : LW w1 w2 p [a, b] S F) (ca : w2.cell? ad = some (ob a)) (cb : w2.cell? ⟨ad.block, ad.off + 1, none⟩ = some (ob b)) (hn : ¬ F ad.block)
    (hq : QwS w5 q [c, d] T G) (hg : Ge G w2.heap.size) (hb : Below w2.heap.size w2 w5) : PLx w1 (w5.alloc (.cells #[ob c, ob d] 73)) p a b ad q c d ⟨w5.heap.size, 0, none⟩ S T [] := by
  have hb6 : Below w2.heap.size w2 (w5.alloc (.cells #[ob c, ob d] 73)) := hb.alloc hb.size _
  have hbk := Blk.new w5 73 #[ob c, ob d]
  have hlt := hl.pw.lt
  have hal := World.block_lt_of_cell? _ _ ca
  have hs := hb.size
  have h1 := hl.be.size
  refine ⟨F, G, ⟨hl.below hb6, hq.below ((Below.refl _ _).alloc (Nat.le_refl _) _), fun i hi hj => by have := hlt i hi; have := hg i hj; omega, fun i hi => by have := hg i hi; omega, below_cell hb6 ca, below_cell hb6 cb, ?_, ?_, hn, fun hf => by have := hlt _ hf; simp at this; omega, fun hf => by have := hg _ hf; omega, fun hf => by have := hq.lt _ hf; simp at this⟩, fun x hx => by cases hx⟩
  · exact hbk.cell 0
  · exact hbk.cell 1
theorem ref_below {w w' : World} {G G' : Nat → Prop} {B : Nat} (hs : Step G G' w w') (hg : Ge G B) (hB : B ≤ w.heap.size) : Below B w w' ∧ Ge G' B := ⟨hs.below hg hB, hs.ge hg hB⟩
/-- a whole disk is read, the power on -/
theorem pl_read_all {w0 w : World} {p a b q c d k e1 n : Nat} {ad bd : Addr} {S T : St} {ks : List (Nat × TypeId × Array Value)} (h : PLx w0 w p a b ad q c d bd S T ks) (hk : [a, b][k]? = some e1) (hoff : S.off = false) (hn : (S.at_ k).size = n) (hl : n ≤ 2097152) :
    Calls Try.prog 29 #[ob e1, .int .i64 0, .int .i64 (n : Int)] w fun e w' => ∃ A cp, e = .returned (.tuple #[.slice A n cp, .int .i64 0]) ∧ RdB w' A (S.at_ k).rd ∧ Below w.heap.size w w' := by
  obtain ⟨F, G, h, _⟩ := h
  refine (lw_read_on h.lw hk 0 n 0 (n : Int) hoff rfl rfl (by omega) (by omega) (S.at_ k).rd (by rw [List.drop_zero, List.take_of_length_le (by unfold Dk.size at hn; omega)])).mono ?_
  rintro e w' ⟨A, cp, rfl, hown, _, _, hb⟩
  exact ⟨A, cp, rfl, OwnB.rd hown, hb⟩
theorem PLx.size_le {w0 w : World} {p a b q c d k e1 : Nat} {ad bd : Addr} {S T : St} {ks : List (Nat × TypeId × Array Value)} (h : PLx w0 w p a b ad q c d bd S T ks) (hk : [a, b][k]? = some e1) : (S.at_ k).size ≤ 2097152 := by
  obtain ⟨F, G, h, _⟩ := h
  obtain ⟨_, _, _, _, _, _, _, _, _, hd, _⟩ := h.lw.pw.open_ hk
  have h1 := hd.lim
  have h2 := hd.size
  omega
/-- two lists of the same unsynced sectors -/
theorem ints_uns {D : Dk} {n : Nat} (hn : D.uns.length = n) (hl : n ≤ maxLen) (A B : Option Addr) (ca cb : Nat) (w : World) (ha : RdZ w A (D.uns.map fun s : Nat => (s : Int))) (hb : RdZ w B (D.uns.map fun s : Nat => (s : Int))) :
    Calls Try.prog 45 #[.slice A n ca, .slice B n cb] w fun e w' => QuietB true w e w' := by
  have h := ints_any A B _ _ ca cb w ha hb (by rw [zip_len, hn]; exact hl) (by rw [zip_len, hn]; exact hl)
  rw [zip_len, hn, decide_eq_true rfl] at h
  exact h
set_option maxRecDepth 100000 in
set_option maxHeartbeats 4000000 in
theorem DiskPlays_walk (A : Option Addr) (l : List Rec) (c0 : Nat) (w : World) (hA : RdRec 4 w A l) (hl : l.length ≤ maxLen) (hpk : ∀ i, i < l.length → (l.getD i rec0).picks.length ≤ 17592186044416) :
    Calls Try.prog 10 #[.slice A l.length c0] w fun e w' => e = .returned (.bool true) ∧ Below w.heap.size w w' := by
  unfold maxLen at hl
  have HA := Lib.hid hA
  have HPK := Lib.hid hpk
  clear hA hpk
  obtain ⟨m, hm⟩ : ∃ m, l.length = m := ⟨_, rfl⟩
  have HM : Hid (l.length = m) := Lib.hid hm
  rw [hm] at hl ⊢
  clear hm
  go_enter Try.func10, Try.ntmps10
  go_wp2_with fail
  refine (dark_any w).mono ?_
  rintro e _ ⟨rfl, rfl⟩
  go_wp2_with fail
  refine (crash_nil none 0 0 w).mono ?_
  rintro e _ ⟨rfl, rfl⟩
  go_wp2_with fail
  refine (dark_any w).mono ?_
  rintro e _ ⟨rfl, rfl⟩
  go_wp2_with fail
  refine (arm_nil 0 w).mono ?_
  rintro e _ ⟨rfl, rfl⟩
  go_wp2_with fail
  refine (known_any w).mono ?_
  rintro e w1 ⟨rfl, hb1⟩
  have HW1 := Lib.hid hb1
  have HA1 := Lib.hid (HA.out.below hb1)
  clear hb1 HA
  go_wp2_with fail
  refine (dark_any w1).mono ?_
  rintro e _ ⟨rfl, rfl⟩
  go_wp2_with fail
  refine (off_nil w1).mono ?_
  rintro e _ ⟨rfl, rfl⟩
  go_wp2_with fail
  refine (nobody_any w1).mono ?_
  rintro e _ ⟨rfl, rfl⟩
  go_wp2_with fail
  refine (sync_nil w1).mono ?_
  rintro e _ ⟨rfl, rfl⟩
  go_wp2_with fail
  refine (nobody_any w1).mono ?_
  rintro e _ ⟨rfl, rfl⟩
  go_wp2_with fail
  refine (size_nil w1).mono ?_
  rintro e _ ⟨rfl, rfl⟩
  go_wp2_with fail
  refine (nobody_any w1).mono ?_
  rintro e _ ⟨rfl, rfl⟩
  go_wp2_with fail
  refine (uns_nil w1).mono ?_
  rintro e _ ⟨rfl, rfl⟩
  go_wp2_with fail
  refine (pair_any w1).mono ?_
  intro e w2 hpr
  obtain ⟨p, a, b, ad, cc, F, rfl, hl2, ca, cb, hn2, hge, hlt⟩ := hpr.open_
  have HL := Lib.hid hl2
  have HC := Lib.hid (And.intro ca (And.intro cb hn2))
  clear hl2 hn2 hpr hge hlt ca cb
  go_wp2_with fail
  refine (rpower_any w2).mono ?_
  rintro e w3 ⟨G3, rfl, hq3, hs3⟩
  obtain ⟨q, hqq⟩ : ∃ q, w2.heap.size = q := ⟨_, rfl⟩
  rw [hqq] at hq3 ⊢
  have HQ3 := Lib.hid hq3
  have HG3 : Hid (Below w2.heap.size w2 w3 ∧ Ge G3 w2.heap.size) := Lib.hid ⟨hs3.none, fun i hi => by
    rcases hs3.fresh i hi with h1 | h1
    · exact absurd h1 fun h => h
    · exact h1⟩
  clear hq3 hs3 hqq
  go_wp2_with fail
  refine (rt_put HQ3.out 4 512 rfl (by omega) (by simp)).mono ?_
  rintro e w4 ⟨c, G4, rfl, hq4, hs4, _⟩
  have HQ4 := Lib.hid hq4
  have HG4 : Hid (Below w2.heap.size w2 w4 ∧ Ge G4 w2.heap.size) := Lib.hid (by
    obtain ⟨r1, r2⟩ := ref_below hs4 HG3.out.2 HG3.out.1.size
    exact ⟨HG3.out.1.trans r1, r2⟩)
  clear hq4 hs4 HQ3 HG3
  go_wp2_with fail
  refine (rt_put HQ4.out 2 256 rfl (by omega) (by simp)).mono ?_
  rintro e w5 ⟨d, G5, rfl, hq5, hs5, _⟩
  have HQ5 : Hid (QwS w5 q [c, d] pair0 G5) := Lib.hid hq5
  have HG5 : Hid (Below w2.heap.size w2 w5 ∧ Ge G5 w2.heap.size) := Lib.hid (by
    obtain ⟨r1, r2⟩ := ref_below hs5 HG4.out.2 HG4.out.1.size
    exact ⟨HG4.out.1.trans r1, r2⟩)
  clear hq5 hs5 HQ4 HG4
  have HP : Hid (PLx w1 (w5.alloc (.cells #[ob c, ob d] 73)) p a b ad q c d ⟨w5.heap.size, 0, none⟩ pair0 pair0 []) := Lib.hid (pl_start HL.out HC.out.1 HC.out.2.1 HC.out.2.2 HQ5.out HG5.out.2 HG5.out.1)
  clear HL HC HQ5 HG5
  go_upto_block 0 with fail
  obtain ⟨w6, hw6⟩ : ∃ w6, w5.alloc (.cells #[ob c, ob d] 73) = w6 := ⟨_, rfl⟩
  rw [hw6] at HP ⊢
  clear hw6
  obtain ⟨g, hgg⟩ : ∃ g, w5.heap.size = g := ⟨_, rfl⟩
  rw [hgg] at HP ⊢
  clear hgg
  go_cut [12, 13, 14, 15, 16, 17, 18, 19, 20, 21, 22] from 81 (fun _ _ _ _ _ _ _ _ _ _ _ wx => Hid (∃ S, PLx w1 wx p a b ad q c d ⟨g, 0, none⟩ S S []))
  case first =>
    go_wp2_with fail
    go_loopw [12, 13, 14, 15, 16, 17, 18, 19, 20, 21, 22] (fun i _ _ _ _ _ _ _ _ _ _ wr => ∃ k : Nat, i = .int .i64 (k : Int) ∧ k ≤ 50 ∧ k ≤ m ∧ Hid (∃ S, PLx w1 wr p a b ad q c d ⟨g, 0, none⟩ S S [])) (fun i _ _ _ _ _ _ _ _ _ _ _ => 50 - (RowKit.intOf i).toNat)
    case atStart => exact ⟨0, rfl, by omega, by omega, Lib.hid ⟨_, HP.out⟩⟩
    case round =>
      clear HP
      obtain ⟨k, rfl, hk50, hkm, HR⟩ := hrel
      by_cases hgo : k < m ∧ k < 50
      · obtain ⟨hkm2, hk2⟩ := hgo
        obtain ⟨S, hS⟩ := HR.out
        obtain ⟨la, rfl, hrec0⟩ := HA1.out k (by rw [HM.out]; exact hkm2)
        have hrec := hrec0.below hS.be
        have hpk := HPK.out k (by rw [HM.out]; exact hkm2)
        obtain ⟨r, hr⟩ : ∃ r, l.getD k rec0 = r := ⟨_, rfl⟩
        rw [hr] at hrec hrec0 hpk
        obtain ⟨q0, q1, q2, q3, q4, q5⟩ := hrec.ops
        have HG := Lib.hid hrec.good
        have HG0 := Lib.hid hrec0.good
        have HPL : Hid (∀ x, r.pa = some x → 0 < r.picks.length → x.block < w1.heap.size) := Lib.hid fun x e h => hrec0.pick_lt e h
        have HP := Lib.hid hS
        clear hr hrec hrec0 hS HR
        obtain ⟨x0, hx0⟩ : ∃ x, r.at_ 0 = x := ⟨_, rfl⟩
        obtain ⟨x1, hx1⟩ : ∃ x, r.at_ 1 = x := ⟨_, rfl⟩
        obtain ⟨x2, hx2⟩ : ∃ x, r.at_ 2 = x := ⟨_, rfl⟩
        obtain ⟨x3, hx3⟩ : ∃ x, r.at_ 3 = x := ⟨_, rfl⟩
        obtain ⟨B, hB⟩ : ∃ x, r.data = x := ⟨_, rfl⟩
        obtain ⟨pa, hpa⟩ : ∃ x, r.pa = x := ⟨_, rfl⟩
        obtain ⟨pc, hpc⟩ : ∃ x, r.pc = x := ⟨_, rfl⟩
        obtain ⟨pk, hpkk⟩ : ∃ x, r.picks = x := ⟨_, rfl⟩
        have HI : Hid (inI64 x0 ∧ inI64 x1 ∧ inI64 x2 ∧ inI64 x3) := Lib.hid ⟨hx0 ▸ HG.out.ints 0, hx1 ▸ HG.out.ints 1, hx2 ▸ HG.out.ints 2, hx3 ▸ HG.out.ints 3⟩
        have HB : Hid (B.size ≤ maxLen) := Lib.hid (hB ▸ HG.out.data)
        have HPK2 : Hid (RdZ wr pa pk ∧ pk.length ≤ pc ∧ pc ≤ maxLen ∧ (∀ x ∈ pk, inI64 x) ∧ pk.length ≤ 17592186044416 ∧ (∀ x, pa = some x → 0 < pk.length → x.block < w1.heap.size)) := Lib.hid (by
          subst hpa hpc hpkk
          exact ⟨HG.out.rd, HG.out.cap, HG.out.top, HG.out.picks, hpk, fun x e h => HPL.out x e h⟩)
        have HPK0 : Hid (RdZ w1 pa pk) := Lib.hid (by subst hpa hpkk; exact HG0.out.rd)
        rw [hx0] at q0
        rw [hx1] at q1
        rw [hx2] at q2
        rw [hx3] at q3
        rw [hB] at q4
        rw [hpa, hpc, hpkk] at q5
        clear hx0 hx1 hx2 hx3 hB hpa hpc hpkk HG HG0 hpk HPL
        go_upto_region 16 with fail
        have HP2 := Lib.hid (HP.out.keep 60 #[.int .i64 x0, .int .i64 x1, .int .i64 x2, .int .i64 x3, .string B, .slice pa pk.length pc])
        have HPK3 : Hid (RdZ (wr.alloc (.cells #[.int .i64 x0, .int .i64 x1, .int .i64 x2, .int .i64 x3, .string B, .slice pa pk.length pc] 60)) pa pk) := Lib.hid (HPK2.out.1.below ((Below.refl _ _).alloc (Nat.le_refl _) _))
        obtain ⟨W, hW⟩ : ∃ W, wr.alloc (.cells #[.int .i64 x0, .int .i64 x1, .int .i64 x2, .int .i64 x3, .string B, .slice pa pk.length pc] 60) = W := ⟨_, rfl⟩
        obtain ⟨h, hh⟩ : ∃ h, wr.heap.size = h := ⟨_, rfl⟩
        rw [hW] at HP2 HPK3 ⊢
        rw [hh] at HP2 ⊢
        clear hW hh q0 q1 q2 q3 q4 q5 HP
        have HBK := HP2.out.kept (List.mem_cons_self)
        have o0 := HBK.cell 0
        have o1 := HBK.cell 1
        have o2 := HBK.cell 2
        have o3 := HBK.cell 3
        have o4 := HBK.cell 4
        have o5 := HBK.cell 5
        simp at o0 o1 o2 o3 o4 o5
        clear HBK
        obtain ⟨cz1, cz2, cz3, cz4⟩ := HP2.out.cells
        obtain ⟨kw, hkw, hkw1⟩ := cut_mod x1 1 (by omega)
        rw [show ((1 : Nat) : Int) + 1 = 2 from rfl] at hkw
        go_upto_region 17 with fail
        rw [hkw]
        clear hkw cz1 cz2 cz3 cz4
        obtain ⟨e1, he1⟩ := two_at a b hkw1
        obtain ⟨e2, he2⟩ := two_at c d hkw1
        have cz1 := HP2.out.c1 he1
        have cz2 := HP2.out.c2 he2
        have hkz : ((kw : Int)) < 2 := by omega
        go_upto_block 2 with fail
        go_cut [15, 16, 17, 18, 19, 20, 21, 22] from 81 to 262 (fun _ _ _ _ _ _ _ _ wx => Hid (∃ S', PLx w1 wx p a b ad q c d ⟨g, 0, none⟩ S' S' []))
        case first =>
          by_cases t1 : x0 = 1
          · as_aux_lemma =>
            have b1 : (x0 == 1) = true := by simp [t1]
            clear t1
            obtain ⟨X, hX⟩ : ∃ X, readB (S.at_ kw) S.off x2 x3 = X := ⟨_, rfl⟩
            obtain ⟨n, hn⟩ : ∃ n, X.length = n := ⟨_, rfl⟩
            obtain ⟨E, hE⟩ : ∃ E, readE (S.at_ kw) S.off x2 x3 = E := ⟨_, rfl⟩
            have HX : Hid (readB (S.at_ kw) S.off x2 x3 = X ∧ X.length = n ∧ readE (S.at_ kw) S.off x2 x3 = E) := Lib.hid ⟨hX, hn, hE⟩
            clear hX hn hE
            go_upto_region 19 with fail
            go_region_held3 (fun W : World => W.cell? (ad.add kw) = some (ob e1) ∧ W.cell? ⟨h, 2, none⟩ = some (.int .i64 x2) ∧ W.cell? ⟨h, 3, none⟩ = some (.int .i64 x3)) (first | exact ⟨cz1, o2, o3⟩ | exact ⟨PLx.c1 HP4.out he1, PLx.kcell HP4.out 2, PLx.kcell HP4.out 3⟩) (first | (go_at_call 29; refine (pl_read2 (HP2.out.below ((Below.refl _ _).drew)) he1 x2 x3 X n E HI.out.2.2.1 HI.out.2.2.2 HX.out.1 HX.out.2.1 HX.out.2.2).mono ?_; rintro e w4 ⟨A4, c4, rfl, hown4, hb4⟩; have HP4 := Lib.hid (HP2.out.below ((Below.refl _ _).drew.trans hb4)); have HB4 : Hid (Below W.heap.size W w4) := Lib.hid ((Below.refl _ _).drew.trans hb4); have HO4 : Hid (OwnM w4 W.heap.size A4 c4 X) := Lib.hid (OwnM.of hown4)))
            have cz5 : w4.cell? ⟨g, kw, none⟩ = some (ob e2) := PLx.c2 HP4.out he2
            have q2 : w4.cell? ⟨h, 2, none⟩ = some (.int .i64 x2) := PLx.kcell HP4.out 2
            have q3 : w4.cell? ⟨h, 3, none⟩ = some (.int .i64 x3) := PLx.kcell HP4.out 3
            rename_i hh
            clear hh
            go_upto_region 20 with fail
            go_region_held3 (fun W : World => W.cell? ⟨g, kw, none⟩ = some (ob e2) ∧ W.cell? ⟨h, 2, none⟩ = some (.int .i64 x2) ∧ W.cell? ⟨h, 3, none⟩ = some (.int .i64 x3)) (first | exact ⟨cz5, q2, q3⟩) (first | (go_at_call 39; refine (pr_read2 (HP4.out.below ((Below.refl _ _).drew)) he2 x2 x3 X E HI.out.2.2.1 HI.out.2.2.2 HX.out.1 HX.out.2.2).mono ?_; rintro e w5 ⟨rfl, rfl⟩))
            have hst : (convert 37 9 (.slice A4 n c4)).run Try.prog w4.drew = .ok (.string (bs X)) w4.drew := run_str c4 (w := w4.drew) (OwnM.rd HO4.out) HX.out.2.1.symm
            have hHR : Hid (Below W.heap.size W w4.drew ∧ ∃ l', l'.length = n ∧ OwnM w4.drew W.heap.size A4 c4 l') := Lib.hid ⟨HB4.out.drew, X, HX.out.2.1, HO4.out⟩
            clear HO4 HX HP4 HB4
            go_wp2_with fail
            obtain ⟨wa, hwa⟩ : ∃ x, w4.drew = x := ⟨_, rfl⟩
            rw [hwa] at hHR ⊢
            have hnm : n ≤ 9223372036854775807 := by
              obtain ⟨_, l', h1, h2⟩ := hHR.out
              have h3 := own_len h2
              unfold maxLen at h3
              omega
            rename_i hh
            clear hst hwa hown4 hb4 cz5 q2 q3 hh
            go_loopw [19] (fun i wr => ∃ j : Nat, i = .int .i64 (j : Int) ∧ j ≤ n ∧ Hid (Below W.heap.size W wr ∧ ∃ l', l'.length = n ∧ OwnM wr W.heap.size A4 c4 l')) (fun i _ => n - (RowKit.intOf i).toNat)
            case atStart => exact ⟨0, rfl, by omega, hHR⟩
            case round =>
              obtain ⟨j, rfl, hj, HJ⟩ := hrel
              by_cases hjn : j < n
              · obtain ⟨hbj, l', hl', hom⟩ := HJ.out
                obtain ⟨gx, rfl, hgx⟩ := own_some hom (by omega)
                obtain ⟨hc1, hc2⟩ := OwnM.cell_ hom j (by omega)
                have hset := OwnM.set_ hom j (by omega) 170
                have HS := Lib.hid (And.intro (hbj.setCell (p := ⟨gx, j, none⟩) hgx (.int .u8 ((170 : UInt8).toNat : Int))) hset)
                have HL := Lib.hid hl'
                clear hset hbj hom hl' HJ
                go_wp2_with fail
                exact ⟨⟨j + 1, int_eq (by omega), by omega, Lib.hid ⟨HS.out.1, l'.set j 170, by rw [List.length_set]; exact HL.out, HS.out.2⟩⟩, by simp [RowKit.intOf]; omega⟩
              · go_wp2_with fail
                go_meet
                exact Lib.hid ⟨S, (HP2.out.below HJ.out.1).forget⟩
          by_cases t2 : x0 = 2
          · as_aux_lemma =>
            have b1 : (x0 == 1) = false := by simp [t1]
            have b2 : (x0 == 2) = true := by simp [t2]
            clear t1 t2
            obtain ⟨T, hT⟩ : ∃ T, B.extract 0 (min (B.size : Int) 600).toNat = T := ⟨_, rfl⟩
            obtain ⟨t, ht⟩ : ∃ t, T.size = t := ⟨_, rfl⟩
            have ht9 : t ≤ 600 := by rw [← ht, ← hT]; simp [ByteArray.size_extract]; omega
            have hcv := fun W => conv_run T W
            have hss := HB.out
            unfold maxLen at hss
            go_upto_region 29 with fail
            have HF5 : Hid (PLf w1 (convW T W) p a b ad q c d ⟨g, 0, none⟩ S S [(h, 60, #[.int .i64 x0, .int .i64 x1, .int .i64 x2, .int .i64 x3, .string B, .slice pa pk.length pc])] W.heap.size) := Lib.hid (PLf.of HP2.out (conv_below T W) (Nat.le_refl W.heap.size) (by rw [conv_size]; omega))
            have HR5 : Hid (OwnM (convW T W) W.heap.size (some ⟨W.heap.size, 0, none⟩) (convC T W) T.data.toList) := Lib.hid (conv_own T W (by omega))
            have HTN : Hid (T.data.toList.length = t) := Lib.hid (by rw [str_len]; exact ht)
            have cz3 : (convW T W).cell? (ad.add kw) = some (ob e1) := conv_cell cz1
            have q2 : (convW T W).cell? ⟨h, 2, none⟩ = some (.int .i64 x2) := conv_cell o2
            obtain ⟨w5, hw5⟩ : ∃ w5, convW T W = w5 := ⟨_, rfl⟩
            obtain ⟨d5, hd5⟩ : ∃ d, convC T W = d := ⟨_, rfl⟩
            obtain ⟨x5, hx5⟩ : ∃ x, W.heap.size = x := ⟨_, rfl⟩
            rw [hw5] at HF5 HR5 cz3 q2 ⊢
            rw [hd5] at HR5 ⊢
            rw [hx5] at HF5 HR5 ⊢
            clear hw5 hd5 hx5 hcv ht hT hss
            obtain ⟨L, hL⟩ : ∃ L, T.data.toList = L := ⟨_, rfl⟩
            rw [hL] at HR5 HTN
            go_region_held3 (fun W : World => W.cell? (ad.add kw) = some (ob e1) ∧ W.cell? ⟨h, 2, none⟩ = some (.int .i64 x2)) (first | exact ⟨cz3, q2⟩ | exact ⟨PLx.c1 HF6.out.plx he1, PLx.kcell HF6.out.plx 2⟩) (first | (go_at_call 28; refine (plf_write (HF5.out.below ((Below.refl _ _).drew)) he1 x2 L t d5 x5 HTN.out (by omega) HI.out.2.2.1 (HR5.out.below ((Below.refl _ _).drew))).mono ?_; rintro e w6 ⟨rfl, hf6, ho6⟩; have HF6 := Lib.hid hf6; have HR6 := Lib.hid ho6))
            obtain ⟨E, hE⟩ : ∃ E, (S.write kw x2 L).1 = E := ⟨_, rfl⟩
            have HE := Lib.hid hE
            rw [hE]
            clear hE
            have hst6 : (convert 37 9 (.slice (some ⟨x5, 0, none⟩) t d5)).run Try.prog w6 = .ok (.string (bs L)) w6 := run_str d5 (w := w6) (OwnM.rd HR6.out) HTN.out.symm
            have hst6d : (convert 37 9 (.slice (some ⟨x5, 0, none⟩) t d5)).run Try.prog w6.drew = .ok (.string (bs L)) w6.drew := run_str d5 (w := w6.drew) (OwnM.rd HR6.out) HTN.out.symm
            have HLM : Hid ((bs L).size ≤ maxLen) := Lib.hid (by unfold maxLen; rw [bs_size, HTN.out]; omega)
            have cz6 : w6.cell? ⟨g, kw, none⟩ = some (ob e2) := PLx.c2 HF6.out.plx he2
            have q6 : w6.cell? ⟨h, 2, none⟩ = some (.int .i64 x2) := PLx.kcell HF6.out.plx 2
            rename_i hh
            clear hh
            go_upto_region 30 with fail
            go_region_held3 (fun W : World => W.cell? ⟨g, kw, none⟩ = some (ob e2) ∧ W.cell? ⟨h, 2, none⟩ = some (.int .i64 x2) ∧ (convert 37 9 (.slice (some ⟨x5, 0, none⟩) t d5)).run Try.prog W = .ok (.string (bs L)) W) (first | exact ⟨cz6, q6, hst6d⟩ | exact ⟨PLx.c2 HF7.out.plx he2, PLx.kcell HF7.out.plx 2, run_str d5 (w := w7) (OwnM.rd HR7.out) HTN.out.symm⟩) (first | (go_at_call 40; refine (prf_write (HF6.out.below ((Below.refl _ _).drew)) he2 x2 (bs L) L d5 x5 rfl HI.out.2.2.1 HLM.out (HR6.out.below ((Below.refl _ _).drew))).mono ?_; rintro e w7 ⟨rfl, hf7, ho7⟩; rw [HE.out]; have HF7 := Lib.hid hf7; have HR7 := Lib.hid ho7))
            go_wp2_with fail
            have hHR : Hid (∃ l', l'.length = t ∧ OwnM w7 x5 (some ⟨x5, 0, none⟩) d5 l' ∧ PLf w1 w7 p a b ad q c d ⟨g, 0, none⟩ (S.write kw x2 L).2 (S.write kw x2 L).2 [] x5) := Lib.hid ⟨L, HTN.out, HR7.out, HF7.out.forget⟩
            clear hst6 hst6d hf6 ho6 hf7 ho7 HF6 HR6 HF7 HR7 HE HF5 HR5 cz6 q6 q2 cz3
            obtain ⟨S2, hS2⟩ : ∃ S2, (S.write kw x2 L).2 = S2 := ⟨_, rfl⟩
            rw [hS2] at hHR
            clear hS2
            go_loopw [22] (fun i wr => ∃ j : Nat, i = .int .i64 (j : Int) ∧ j ≤ t ∧ Hid (∃ l', l'.length = t ∧ OwnM wr x5 (some ⟨x5, 0, none⟩) d5 l' ∧ PLf w1 wr p a b ad q c d ⟨g, 0, none⟩ S2 S2 [] x5)) (fun i _ => t - (RowKit.intOf i).toNat)
            case atStart => exact ⟨0, rfl, by omega, hHR⟩
            case round =>
              obtain ⟨j, rfl, hj, HJ⟩ := hrel
              by_cases hjn : j < t
              · obtain ⟨l', hl', hom, hpf⟩ := HJ.out
                obtain ⟨hc1, hc2⟩ := OwnM.cell_ hom j (by omega)
                have hset := OwnM.set_ hom j (by omega) 85
                have HS := Lib.hid (And.intro hset (hpf.set j (.int .u8 ((85 : UInt8).toNat : Int))))
                have HL := Lib.hid hl'
                clear hset hom hpf hl' HJ
                go_wp2_with fail
                exact ⟨⟨j + 1, int_eq (by omega), by omega, Lib.hid ⟨l'.set j 85, by rw [List.length_set]; exact HL.out, HS.out.1, HS.out.2⟩⟩, by simp [RowKit.intOf]; omega⟩
              · go_wp2_with fail
                go_meet
                obtain ⟨l', _, _, hpf⟩ := HJ.out
                exact Lib.hid ⟨S2, hpf.plx⟩
          by_cases t3 : x0 = 3
          · as_aux_lemma =>
            have b1 : (x0 == 1) = false := by simp [t1]
            have b2 : (x0 == 2) = false := by simp [t2]
            have b3 : (x0 == 3) = true := by simp [t3]
            clear t1 t2 t3
            go_upto_region 37 with fail
            go_region_held3 (fun W : World => W.cell? (ad.add kw) = some (ob e1) ∧ W.cell? ⟨g, kw, none⟩ = some (ob e2)) (first | exact ⟨cz1, cz2⟩ | exact ⟨PLx.c1 HP4.out he1, PLx.c2 HP4.out he2⟩ | exact ⟨PLx.c1 HP5.out he1, PLx.c2 HP5.out he2⟩) (first | (go_at_call 30; refine (pl_sync (HP2.out.below ((Below.refl _ _).drew)) he1).mono ?_; rintro e w4 ⟨rfl, hp4⟩; have HP4 := Lib.hid hp4) | (go_at_call 41; refine (pr_sync HP4.out he2).mono ?_; rintro e w5 ⟨rfl, hp5⟩; have HP5 := Lib.hid hp5))
            go_wp2_with fail
            go_meet
            exact Lib.hid ⟨_, HP5.out.forget⟩
          by_cases t4 : x0 = 4
          · as_aux_lemma =>
            have b1 : (x0 == 1) = false := by simp [t1]
            have b2 : (x0 == 2) = false := by simp [t2]
            have b3 : (x0 == 3) = false := by simp [t3]
            have b4 : (x0 == 4) = true := by simp [t4]
            clear t1 t2 t3 t4
            obtain ⟨mm, hmm⟩ := byte_wrap x3
            have HMM := Lib.hid (show (((mm.toNat : Nat) : Int)) = (mm.toNat : Int) from rfl)
            go_upto_region 40 with fail
            go_region_held3 (fun W : World => W.cell? (ad.add kw) = some (ob e1) ∧ W.cell? ⟨g, kw, none⟩ = some (ob e2) ∧ W.cell? ⟨h, 2, none⟩ = some (.int .i64 x2) ∧ W.cell? ⟨h, 3, none⟩ = some (.int .i64 x3)) (first | exact ⟨cz1, cz2, o2, o3⟩ | exact ⟨PLx.c1 HP4.out he1, PLx.c2 HP4.out he2, PLx.kcell HP4.out 2, PLx.kcell HP4.out 3⟩ | exact ⟨PLx.c1 HP5.out he1, PLx.c2 HP5.out he2, PLx.kcell HP5.out 2, PLx.kcell HP5.out 3⟩) (first | (go_at_call 19; refine (pl_rot (HP2.out.below ((Below.refl _ _).drew)) he1 x2 mm _ rfl HI.out.2.2.1).mono ?_; rintro e w4 ⟨rfl, hp4⟩; have HP4 := Lib.hid hp4) | (go_at_call 42; refine (pr_rot HP4.out he2 x2 mm _ rfl HI.out.2.2.1).mono ?_; rintro e w5 ⟨rfl, hp5⟩; have HP5 := Lib.hid hp5))
            go_wp2_with fail
            go_meet
            exact Lib.hid ⟨_, HP5.out.forget⟩
          by_cases t5 : x0 = 5
          · as_aux_lemma =>
            have b1 : (x0 == 1) = false := by simp [t1]
            have b2 : (x0 == 2) = false := by simp [t2]
            have b3 : (x0 == 3) = false := by simp [t3]
            have b4 : (x0 == 4) = false := by simp [t4]
            have b5 : (x0 == 5) = true := by simp [t5]
            clear t1 t2 t3 t4 t5
            go_wp2_with fail
            refine (pl_arm HP2.out x3 HI.out.2.2.2).mono ?_
            rintro e w4 ⟨rfl, hp4⟩
            have HP4 := Lib.hid hp4
            have o6 : w4.cell? ⟨h, 3, none⟩ = some (.int .i64 x3) := PLx.kcell hp4 3
            clear hp4
            go_wp2_with fail
            refine (pr_arm HP4.out x3 HI.out.2.2.2).mono ?_
            rintro e w5 ⟨rfl, hp5⟩
            have HP5 := Lib.hid hp5
            clear hp5
            go_wp2_with fail
            go_meet
            exact Lib.hid ⟨_, HP5.out.forget⟩
          by_cases t6 : x0 = 6
          · as_aux_lemma =>
            have b1 : (x0 == 1) = false := by simp [t1]
            have b2 : (x0 == 2) = false := by simp [t2]
            have b3 : (x0 == 3) = false := by simp [t3]
            have b4 : (x0 == 4) = false := by simp [t4]
            have b5 : (x0 == 5) = false := by simp [t5]
            have b6 : (x0 == 6) = true := by simp [t6]
            clear t1 t2 t3 t4 t5 t6
            have HPK9 := HPK3.out.below ((Below.refl W.heap.size W).alloc (Nat.le_refl _) (.cells #[] 3))
            have o7 : (W.alloc (.cells #[] 3)).cell? ⟨h, 5, none⟩ = some (.slice pa pk.length pc) := below_cell ((Below.refl W.heap.size W).alloc (Nat.le_refl _) _) o5
            have HPL9 : ([] : List Int).length + pk.length ≤ 17592186044416 := by simp; exact HPK2.out.2.2.2.2.1
            go_wp2_with (at_builtin; refine wpList_appZd (.inl rfl) (.tmp 233) (.tmp 235) rfl W.heap.size _ 0 0 [] rfl rfl (ownz_empty W (Nat.le_refl _)) pa pk.length pc pk rfl rfl HPK9 HPL9 (by simp) ?_; (intro A6 c6 w6 hown6 hg6 hat6))
            have hbe6 : Below W.heap.size W w6 := ((Below.refl _ _).alloc (Nat.le_refl _) _).grown hg6 (by simp) (fun k hk => by simp [blk] at hk; omega)
            have HC6 : Hid (RdZ w6 A6 pk ∧ pk.length ≤ c6 ∧ c6 ≤ maxLen ∧ ∀ x, A6 = some x → W.heap.size ≤ x.block) := Lib.hid ⟨by have := OwnZ.rd hown6; simpa using this, by have := OwnR.cap hown6; simpa using this, own_capm hown6, fun x e => (OwnR.lt hown6 x.block (by rw [e]; rfl)).1⟩
            have HP6 := Lib.hid (HP2.out.below hbe6)
            have HBE6 := Lib.hid hbe6
            clear hown6 hg6 hat6 hbe6
            refine (pl_crash HP6.out pk A6 pk.length c6 rfl HC6.out.2.1 HC6.out.2.2.1 HC6.out.1 HPK2.out.2.2.2.1 (.inr ⟨W, HP2.out, HBE6.out, HC6.out.2.2.2⟩)).mono ?_
            rintro e w7 ⟨rfl, hp7⟩
            have HP7 := Lib.hid hp7
            have o6 : w7.cell? ⟨h, 5, none⟩ = some (.slice pa pk.length pc) := PLx.kcell hp7 5
            have HPK7 : Hid (RdZ w7 pa pk) := Lib.hid (HPK0.out.below HP7.out.be)
            clear hp7
            go_wp2_with fail
            refine (pr_crash HP7.out pk pa pk.length pc rfl (by have := HPK2.out; omega) HPK7.out HPK2.out.2.2.2.2.2).mono ?_
            rintro e w8 ⟨rfl, hp8⟩
            have HP8 := Lib.hid hp8
            clear hp8
            go_wp2_with fail
            go_meet
            exact Lib.hid ⟨_, HP8.out.forget⟩
          have b1 : (x0 == 1) = false := by simp [t1]
          have b2 : (x0 == 2) = false := by simp [t2]
          have b3 : (x0 == 3) = false := by simp [t3]
          have b4 : (x0 == 4) = false := by simp [t4]
          have b5 : (x0 == 5) = false := by simp [t5]
          have b6 : (x0 == 6) = false := by simp [t6]
          clear t1 t2 t3 t4 t5 t6
          go_wp2_with fail
          go_meet
          exact Lib.hid ⟨_, HP2.out.forget⟩
        case rest => as_aux_lemma =>
          obtain ⟨S', hS'⟩ := hcut.out
          have HP3 := Lib.hid hS'
          have cz3 := HP3.out.c1 he1
          have cz4 := HP3.out.c2 he2
          have cz5 := HP3.out.off_cell
          clear hS' hcut cz1 cz2 o0 o1 o2 o3 o4 o5
          have HUL : Hid ((S'.at_ kw).uns.length ≤ maxLen) := Lib.hid (PLx.uns_le HP3.out he1)
          go_upto_region 48 with fail
          go_region_held3 (fun W : World => W.cell? (ad.add kw) = some (ob e1) ∧ W.cell? ⟨g, kw, none⟩ = some (ob e2) ∧ W.cell? ⟨q, 1, none⟩ = some (.bool S'.off)) (first | exact ⟨cz3, cz4, cz5⟩ | exact ⟨PLx.c1 HP4.out he1, PLx.c2 HP4.out he2, PLx.off_cell HP4.out⟩ | exact ⟨PLx.c1 HP5.out he1, PLx.c2 HP5.out he2, PLx.off_cell HP5.out⟩ | exact ⟨PLx.c1 HP6.out he1, PLx.c2 HP6.out he2, PLx.off_cell HP6.out⟩) (first | (go_at_call 33; refine (pl_off (HP3.out.below ((Below.refl _ _).drew))).mono ?_; rintro e w7 ⟨rfl, rfl⟩) | (go_at_call 34; refine (pl_uns (HP3.out.below ((Below.refl _ _).drew)) he1).mono ?_; rintro e w7 ⟨U1, u1, rfl, hu1, hb1⟩; have HP4 := Lib.hid (HP3.out.below ((Below.refl _ _).drew.trans hb1)); have HU1 := Lib.hid (uns_rd hu1)) | (go_at_call 46; refine (pr_uns HP4.out he2).mono ?_; rintro e w8 ⟨U2, u2, rfl, hu2, hb2⟩; have HP5 := Lib.hid (HP4.out.below hb2); have HU2 := Lib.hid (And.intro (HU1.out.below hb2) (uns_rd hu2))) | (go_at_call 45; refine (ints_uns rfl HUL.out _ _ _ _ _ HU2.out.1 HU2.out.2).mono ?_; rintro e w9 ⟨rfl, n9, rfl⟩; have HP6 := Lib.hid (HP5.out.below (below_drewN (Below.refl _ _) n9))))
          go_wp2_with fail
          exact ⟨⟨k + 1, int_eq (by omega), by omega, by omega, Lib.hid ⟨S', HP6.out⟩⟩, by simp [RowKit.intOf]; omega⟩
      · rcases (by omega : (¬ k < m) ∨ (k < m ∧ ¬ k < 50)) with h | ⟨h, h2⟩
        · go_wp2_with fail
          go_meet
          exact HR
        · go_wp2_with fail
          go_meet
          exact HR
  case rest => as_aux_lemma =>
    obtain ⟨S, hS⟩ := hcut.out
    have HPc := Lib.hid hS
    clear hS hcut HP HA1
    go_wp2_with fail
    refine (pl_crash HPc.out [] none 0 0 rfl (by omega) (by unfold maxLen; omega) (RdZ.nil _ _) (fun x hx => by simp at hx) (.inl fun x e => by cases e)).mono ?_
    rintro e w7 ⟨rfl, hp7⟩
    have HP7 := Lib.hid hp7
    clear hp7
    go_wp2_with fail
    refine (pr_crash HP7.out [] none 0 0 rfl (by unfold maxLen; omega) (RdZ.nil _ _) (fun x e => by cases e)).mono ?_
    rintro e w8 ⟨rfl, hp8⟩
    obtain ⟨S8, hS8, hoff⟩ : ∃ S8, PLx w1 w8 p a b ad q c d ⟨g, 0, none⟩ S8 S8 [] ∧ S8.off = false := ⟨_, hp8, rfl⟩
    have HP8 := Lib.hid hS8
    have HOFF := Lib.hid hoff
    clear hp8 hS8 hoff HP7
    go_wp2_with fail
    go_loopw [23, 24, 25] (fun i _ _ wr => ∃ k : Nat, i = .int .i64 (k : Int) ∧ k ≤ 2 ∧ Hid (PLx w1 wr p a b ad q c d ⟨g, 0, none⟩ S8 S8 [])) (fun i _ _ _ => 2 - (RowKit.intOf i).toNat)
    case atStart => exact ⟨0, rfl, by omega, HP8⟩
    case round =>
      clear HP8
      obtain ⟨k, rfl, hk2, HR⟩ := hrel
      by_cases hk : k < 2
      · obtain ⟨e1, he1⟩ := two_at a b (k := k) (by omega)
        obtain ⟨e2, he2⟩ := two_at c d (k := k) (by omega)
        have cz1 := HR.out.c1 he1
        have cz2 := HR.out.c2 he2
        obtain ⟨n, hn⟩ : ∃ n, (S8.at_ k).size = n := ⟨_, rfl⟩
        have HNN : Hid ((S8.at_ k).size = n ∧ n ≤ 2097152) := Lib.hid ⟨hn, hn ▸ HR.out.size_le he1⟩
        clear hn
        go_upto_region 55 with fail
        go_region_held3 (fun W : World => W.cell? (ad.add k) = some (ob e1)) (first | exact cz1 | exact PLx.c1 HP9.out he1) (first | (go_at_call 22; refine (pl_size (HR.out.below ((Below.refl _ _).drew)) he1).mono ?_; rintro e w7 ⟨rfl, rfl⟩; rw [HNN.out.1]) | (go_at_call 29; refine (pl_read_all (HR.out.below ((Below.refl _ _).drew)) he1 HOFF.out HNN.out.1 HNN.out.2).mono ?_; rintro e w9 ⟨R9, c9, rfl, hr9, hb9⟩; have HP9 := Lib.hid (HR.out.below ((Below.refl _ _).drew.trans hb9)); have HR9 := Lib.hid hr9))
        go_wp2_with fail
        have cz3 := HP9.out.c2 he2
        have cz4 := HP9.out.read_cell he2
        obtain ⟨Y, hY⟩ : ∃ Y, (S8.at_ k).rd = Y := ⟨_, rfl⟩
        have HYN : Hid (n = Y.length) := Lib.hid (by rw [← hY]; exact HNN.out.1.symm)
        rw [hY] at HR9 cz4
        have hst : ∀ j : Nat, (convert 37 9 (.slice R9 n c9)).run Try.prog (w9.drewN j) = .ok (.string (bs Y)) (w9.drewN j) := fun j => run_str c9 (w := w9.drewN j) HR9.out HYN.out
        clear hY
        go_quiet (fail)
        go_wp2_with fail
        exact ⟨⟨k + 1, int_eq (by omega), by omega, Lib.hid (HP9.out.below (below_drewN (Below.refl _ _) _))⟩, by simp [RowKit.intOf]; omega⟩
      · go_wp2_with fail
        go_ret
        exact ⟨by simp, HW1.out.trans (HR.out.be.mono HW1.out.size)⟩
end Go.Proofs.Ytoompglghjpapaa
