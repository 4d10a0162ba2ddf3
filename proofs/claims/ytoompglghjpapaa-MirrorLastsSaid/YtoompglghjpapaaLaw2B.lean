/-
  Walk: the law MirrorLasts: what was laid and synced is fetched behind a crash with any picks.
-/
import Derived.Test.YtoompglghjpapaaMirL
import Derived.Test.YtoompglghjpapaaZApp
import Derived.Deep.RegionLaw
namespace Go.Proofs.Ytoompglghjpapaa
open Go.RowKit Crc
set_option linter.unusedVariables false
set_option linter.unusedSimpArgs false
attribute [local go_sem ↓] Go.wp_at_zero Go.wp_at_succ

theorem str_pos {T : ByteArray} (h : 0 < T.size) : T.toList.isEmpty = false := by
  rw [ByteArray.toList_eq]
  have h1 : T.data.toList.length = T.size := str_len T
  cases hd : T.data.toList with
  | nil => rw [hd] at h1; simp at h1; omega
  | cons x l => rfl
theorem str_zero {T : ByteArray} (h : T.size = 0) : T.toList.isEmpty = true := by
  rw [ByteArray.toList_eq]
  have h1 : T.data.toList.length = T.size := str_len T
  rw [List.eq_nil_of_length_eq_zero (l := T.data.toList) (by omega)]; rfl
theorem step_appZd {w : World} {ops : Array Oper} {o : Oper} {a : Act} {K : Act → World → Prop} {Q : Exit → Act → World → Prop} {E : Prop} (hgd : o.guard = none) (s x : Operand)
    (ho : o.op = .call { callee := .builtin .append, args := #[s, x], argTypes := #[45, 45] })
    (base : Nat) (A : Option Addr) (n c : Nat) (l : List Int) (hs : a.eval s = .slice A n c) (hn : n = l.length) (hown : OwnZ w base A c l)
    (A1 : Option Addr) (m c1 : Nat) (news : List Int) (hx : a.eval x = .slice A1 m c1) (hm : m = news.length) (hr : RdZ w A1 news)
    (hlen : l.length + news.length ≤ 17592186044416) (hbase : base ≤ w.heap.size)
    (h : ∀ A' c' w', OwnZ w' base A' c' (l ++ news) → w.grownBy w' (blk A) → K (a.put o.dst (.slice A' (l.length + news.length) c')) w') :
    if Region.wanted o (yielded ops a.tmps) = true then Oper.wp Try.prog o a w K Q else E := by
  have hw : Region.wanted o (yielded ops a.tmps) = true := by simp [Region.wanted, hgd]
  rw [if_pos hw]
  subst hn hm
  obtain ⟨A', c', w', hrun, h1, h2, h3⟩ := run_appZd w o.type base A c l hown A1 c1 news hr hlen hbase
  unfold Oper.wp execOp
  simp only [ho, resolve, invoke, builtin, Sem.run_bind, Sem.run_pure, Result.andThen_ok, List.map_toArray, List.map_cons, List.map_nil, hs, hx, hrun]
  exact h A' c' w' h1 h2
theorem ownz_capm {w : World} {base c n size : Nat} {e : TypeId} {A : Option Addr} {xs : List Value} (h : OwnR w base e size A n c xs) : c ≤ maxLen := by
  rcases h.2 with ⟨hv, _⟩ | ⟨g, cap, cur, hv, _, _, _, hm, _⟩
  · injection hv with _ _ hc
    subst hc; exact Nat.zero_le _
  · injection hv with _ _ hc
    subst hc; exact hm
def lastS (L1 L2 : List UInt8) (picks : List Int) : St := (onN 3 ((((Dk.fresh 5).write 0 L1).sync).write 256 L2)).crash picks
theorem lasts_all {L1 L2 : List UInt8} {picks : List Int} {n : Nat} (h1 : L1.length = n) (hn1 : 1 ≤ n) (hn : n ≤ 256) (h2 : L2.length ≤ 300) :
    lookR (lastS L1 L2 picks) 0 (n : Int) 3 = 0 ∧ ∀ k, k < 3 → readB ((lastS L1 L2 picks).at_ k) (lastS L1 L2 picks).off 0 (n : Int) = L1 :=
  all_look (o := 0) rfl rfl rfl h1 hn1 fun k hk => by
    obtain ⟨a, e⟩ := crash_on (D := (((Dk.fresh 5).write 0 L1).sync).write 256 L2) picks hk
    unfold lastS
    rw [e]
    have := last_rd (T1 := L1) (T2 := L2) picks a (by omega) h2
    rw [h1] at this
    exact this
theorem bytes_back (T : ByteArray) : (⟨T.data.toList.toArray⟩ : ByteArray) = T := by apply ByteArray.ext; simp
set_option maxRecDepth 100000 in
set_option maxHeartbeats 4000000 in
theorem MirrorLasts_walk (B1 B2 : ByteArray) (A : Option Addr) (picks : List Int) (c0 : Nat) (w : World) (h1 : B1.size ≤ maxLen) (h2 : B2.size ≤ maxLen) (hA : RdZ w A picks) (hi : ∀ x ∈ picks, -9223372036854775808 ≤ x ∧ x ≤ 9223372036854775807) (hs : picks.length ≤ 17592186044416) :
    Calls Try.prog 11 #[.string B1, .string B2, .slice A picks.length c0] w fun e w' => e = .returned (.bool true) ∧ Below w.heap.size w w' := by
  unfold maxLen at h1 h2
  obtain ⟨T1, hT1⟩ : ∃ T, B1.extract 0 (min (B1.size : Int) 256).toNat = T := ⟨_, rfl⟩
  obtain ⟨t1, ht1⟩ : ∃ t, T1.size = t := ⟨_, rfl⟩
  have ht19 : t1 ≤ 256 := by rw [← ht1, ← hT1]; simp [ByteArray.size_extract]; omega
  obtain ⟨T2, hT2⟩ : ∃ T, B2.extract 0 (min (B2.size : Int) 300).toNat = T := ⟨_, rfl⟩
  obtain ⟨t2, ht2⟩ : ∃ t, T2.size = t := ⟨_, rfl⟩
  have ht29 : t2 ≤ 300 := by rw [← ht2, ← hT2]; simp [ByteArray.size_extract]; omega
  have HA := Lib.hid hA
  have HI := Lib.hid hi
  obtain ⟨np, hnp⟩ : ∃ n, picks.length = n := ⟨_, rfl⟩
  have HNP := Lib.hid hnp
  rw [hnp] at hs ⊢
  clear hA hi hnp
  go_enter Try.func11, Try.ntmps11
  go_wp2_with fail
  refine (bright_any w).mono ?_
  rintro e w1 ⟨rfl, hb1⟩
  have HW1 := Lib.hid hb1
  have HA1 := Lib.hid (HA.out.below hb1)
  clear hb1 HA
  go_wp2_with fail
  refine (build_any w1 3 (by omega) (by omega)).mono ?_
  rintro e w2 ⟨p, G, as_, m, F, rfl, hm, hlen⟩
  have HM2 : Hid (Mr w1 w2 p G as_ (onN 3 (Dk.fresh 5)) m F) := Lib.hid hm
  have HLEN := Lib.hid hlen
  clear hm hlen
  go_wp2_with fail
  go_quiet (fail)
  have HM3 := Lib.hid (HM2.out.below (below_drewN (Below.refl w2.heap.size w2) nq))
  obtain ⟨w3, hw3⟩ : ∃ x, w2.drewN nq = x := ⟨_, rfl⟩
  rw [hw3] at HM3 ⊢
  have HEND3 : Hid (Below w.heap.size w w3) := Lib.hid (HW1.out.trans (HM3.out.lw.be.mono HW1.out.size))
  clear hw3 HM2
  by_cases z1 : t1 = 0
  · have e1 := str_zero (T := T1) (by omega)
    go_wp2_with fail
    go_ret
    exact ⟨rfl, HEND3.out⟩
  have e1 := str_pos (T := T1) (by omega)
  by_cases z2 : t2 = 0
  · have e2 := str_zero (T := T2) (by omega)
    go_wp2_with fail
    go_ret
    exact ⟨rfl, HEND3.out⟩
  have e2 := str_pos (T := T2) (by omega)
  have HZ : Hid (1 ≤ t1 ∧ 1 ≤ t2) := Lib.hid ⟨by omega, by omega⟩
  have HT1 : Hid (T1.data.toList.length = t1) := Lib.hid (by rw [str_len]; exact ht1)
  have HT2 : Hid (T2.data.toList.length = t2) := Lib.hid (by rw [str_len]; exact ht2)
  have HTS : Hid (T1.size = t1 ∧ T2.size = t2) := Lib.hid ⟨ht1, ht2⟩
  have hcv1 := fun W => conv_run T1 W
  have hcv2 := fun W => conv_run T2 W
  obtain ⟨_, _, _, _, g2, _⟩ := HM3.out.glass HLEN.out (by omega)
  clear z1 z2 hT1 hT2
  go_wp2_with fail
  have hlay := lay_any (HM3.out.below (conv_below T1 w3)) HLEN.out (by omega) 0 (some ⟨w3.heap.size, 0, none⟩) T1.data.toList t1 (convC T1 w3) HT1.out HZ.out.1 (by omega) (by omega) (OwnM.rd (conv_own T1 w3 (by omega))) (fun x e => by cases e; exact HM3.out.lw.notin (.inr (Nat.le_refl _)))
  refine hlay.mono ?_
  intro e w4 hsp
  obtain ⟨X, hX⟩ : ∃ X, crcI T1.data.toList = X := ⟨_, rfl⟩
  obtain ⟨Y, hY⟩ : ∃ Y, md5T T1.data.toList = Y := ⟨_, rfl⟩
  unfold MLaySpec at hsp
  rw [layG_on (n := 3) (o := 0) (oi := 0) rfl (by rw [fresh_size, HT1.out]; omega), if_pos rfl, show sealV 0 T1.data.toList = .agg #[.int .i64 0, .int .i64 (t1 : Int), .int .i64 X, .string Y] by unfold sealV; rw [hX, hY, HT1.out]] at hsp
  obtain ⟨rfl, F4, hm4, hs4⟩ := hsp
  have HXY : Hid (crcI T1.data.toList = X ∧ md5T T1.data.toList = Y) := Lib.hid ⟨hX, hY⟩
  have HM4 : Hid (Mr w1 w4 p G as_ (onN 3 ((Dk.fresh 5).write 0 T1.data.toList)) m F4) := Lib.hid hm4
  clear hX hY hm4 hs4 hlay g2 hcv1
  have hbx : Below w4.heap.size w4 (w4.alloc (.cells #[.int .i64 0, .int .i64 (t1 : Int), .int .i64 X, .string Y] 28)) := (Below.refl _ _).alloc (Nat.le_refl _) _
  have HM5 := Lib.hid (HM4.out.below hbx)
  have HBK5 : Hid (Blk (w4.alloc (.cells #[.int .i64 0, .int .i64 (t1 : Int), .int .i64 X, .string Y] 28)) w4.heap.size 28 #[.int .i64 0, .int .i64 (t1 : Int), .int .i64 X, .string Y] ∧ ¬ F4 w4.heap.size) := Lib.hid ⟨Blk.new _ _ _, HM4.out.lw.notin (.inr (Nat.le_refl _))⟩
  obtain ⟨_, _, _, _, g2, _⟩ := HM5.out.glass HLEN.out (by omega)
  clear hbx
  go_wp2_with fail
  refine (msync_any HM5.out HLEN.out (by omega)).mono ?_
  intro e w6 hsp
  unfold MSyncSpec at hsp
  rw [syncG_on] at hsp
  obtain ⟨rfl, F6, hm6, hs6⟩ := hsp
  have HM6 : Hid (Mr w1 w6 p G as_ (onN 3 (((Dk.fresh 5).write 0 T1.data.toList).sync)) m F6) := Lib.hid hm6
  have HBK6 : Hid (Blk w6 w4.heap.size 28 #[.int .i64 0, .int .i64 (t1 : Int), .int .i64 X, .string Y] ∧ ¬ F6 w4.heap.size) := Lib.hid ⟨HBK5.out.1.step hs6 HBK5.out.2, step_out hs6 HBK5.out.1.lt HBK5.out.2⟩
  clear hm6 hs6 HM5 HM4 HBK5 g2
  obtain ⟨bx, hbx⟩ : ∃ x, w4.heap.size = x := ⟨_, rfl⟩
  rw [hbx] at HBK6 ⊢
  clear hbx
  obtain ⟨_, _, _, _, g2, _⟩ := HM6.out.glass HLEN.out (by omega)
  go_wp2_with fail
  have hlay := lay_any (HM6.out.below (conv_below T2 w6)) HLEN.out (by omega) 256 (some ⟨w6.heap.size, 0, none⟩) T2.data.toList t2 (convC T2 w6) HT2.out HZ.out.2 (by omega) (by omega) (OwnM.rd (conv_own T2 w6 (by omega))) (fun x e => by cases e; exact HM6.out.lw.notin (.inr (Nat.le_refl _)))
  refine hlay.mono ?_
  intro e w7 hsp
  obtain ⟨X2, hX2⟩ : ∃ X, crcI T2.data.toList = X := ⟨_, rfl⟩
  obtain ⟨Y2, hY2⟩ : ∃ Y, md5T T2.data.toList = Y := ⟨_, rfl⟩
  unfold MLaySpec at hsp
  have hsz2 : (((Dk.fresh 5).write 0 T1.data.toList).sync).size = 640 := by
    show ((Dk.fresh 5).write 0 T1.data.toList).size = 640
    rw [write_size _ (by rw [fresh_size, HT1.out]; omega), fresh_size]
  rw [layG_on (n := 3) (o := 256) (oi := 256) rfl (by rw [hsz2, HT2.out]; omega), if_pos rfl, show sealV 256 T2.data.toList = .agg #[.int .i64 256, .int .i64 (t2 : Int), .int .i64 X2, .string Y2] by unfold sealV; rw [hX2, hY2, HT2.out]] at hsp
  obtain ⟨rfl, F7, hm7, hs7⟩ := hsp
  have hs67 := (Step.of_below (conv_below T2 w6) F6).trans hs7
  have hbx : Below w7.heap.size w7 (w7.alloc (.cells #[.int .i64 256, .int .i64 (t2 : Int), .int .i64 X2, .string Y2] 28)) := (Below.refl _ _).alloc (Nat.le_refl _) _
  have HM8 : Hid (Mr w1 (w7.alloc (.cells #[.int .i64 256, .int .i64 (t2 : Int), .int .i64 X2, .string Y2] 28)) p G as_ (onN 3 ((((Dk.fresh 5).write 0 T1.data.toList).sync).write 256 T2.data.toList)) m F7) := Lib.hid (hm7.below hbx)
  have HBK8 : Hid (Blk (w7.alloc (.cells #[.int .i64 256, .int .i64 (t2 : Int), .int .i64 X2, .string Y2] 28)) bx 28 #[.int .i64 0, .int .i64 (t1 : Int), .int .i64 X, .string Y] ∧ ¬ F7 bx) := Lib.hid ⟨(HBK6.out.1.step hs67 HBK6.out.2).below_ hbx, step_out hs67 HBK6.out.1.lt HBK6.out.2⟩
  clear hX2 hY2 hsz2 hs67 hbx hm7 hs7 hlay g2 hcv2 HM6 HBK6 e1 e2
  go_upto_region 13 with fail
  obtain ⟨w8, hw8⟩ : ∃ x, w7.alloc (.cells #[.int .i64 256, .int .i64 (t2 : Int), .int .i64 X2, .string Y2] 28) = x := ⟨_, rfl⟩
  rw [hw8] at HM8 HBK8 ⊢
  clear hw8
  obtain ⟨_, _, g0, _, _, _⟩ := HM8.out.glass HLEN.out (by omega)
  have HA8 := Lib.hid (HA1.out.below HM8.out.lw.be)
  have g0a := below_cell ((Below.refl w8.heap.size w8).alloc (Nat.le_refl _) (.cells #[] 3)) g0
  go_region_law (first
    | (refine step_appZd rfl (.tmp 80) (.tmp 81) rfl w8.heap.size (some ⟨w8.heap.size, 0, none⟩) 0 0 [] rfl rfl ?_ A np c0 picks rfl HNP.out.symm ?_ ?_ ?_ ?_
       · exact ownz_empty w8.drew (Nat.le_refl _)
       · exact HA8.out.below ((Below.refl _ _).drew.alloc (Nat.le_refl _) _)
       · rw [HNP.out]; simp; omega
       · simp
       intro A9 c9 w9 hown9 hg9
       have g09 := below_cell ((((Below.refl w8.heap.size w8).drew).alloc (Nat.le_refl _) _).grown hg9 (by simp) (fun x hx => by simp [blk] at hx; omega)) g0)
    | (go_simp; go_at_call 31
       have hbe9 : Below w8.heap.size w8 w9 := (((Below.refl w8.heap.size w8).drew).alloc (Nat.le_refl _) _).grown hg9 (by simp) (fun x hx => by simp [blk] at hx; omega)
       have hA9 : ∀ x, A9 = some x → w8.heap.size ≤ x.block := fun x e => (OwnR.lt hown9 x.block (by rw [e]; rfl)).1
       have HM9 := Lib.hid (HM8.out.below hbe9)
       have hpk := pick_lit (w := w9) (F := F7) (picks := picks) (A := A9) (c := c9) (by have := OwnZ.rd hown9; simpa using this) (by have := OwnR.cap hown9; simpa using this) (ownz_capm hown9) (fun x e => HM8.out.lw.notin (.inr (hA9 x e)))
       have HBE9 := Lib.hid hbe9
       refine (st_crash HM9.out.lw.pw picks _ hpk HI.out).mono ?_
       rintro e w10 ⟨rfl, F10, hp10, hs10⟩))
  all_goals
    have HM10 : Hid (Mr w1 w10 p G as_ (lastS T1.data.toList T2.data.toList picks) m F10) := Lib.hid (HM9.out.step hs10 hp10)
    have HBK10 : Hid (Blk w10 bx 28 #[.int .i64 0, .int .i64 (t1 : Int), .int .i64 X, .string Y]) := Lib.hid ((HBK8.out.1.below_ HBE9.out).step hs10 HBK8.out.2)
    have HALL := Lib.hid (lasts_all (L2 := T2.data.toList) (picks := picks) HT1.out HZ.out.1 ht19 (by rw [HT2.out]; exact ht29))
    clear hp10 hs10 hpk hown9 hg9 HM8 HBK8 HM9 HBE9 hbe9 hA9 g0 g0a g09 HA8
    go_simp
    obtain ⟨_, _, _, _, g2, _⟩ := HM10.out.glass HLEN.out (by omega)
    have b0 : w10.cell? ⟨bx, 0, none⟩ = some (.int .i64 0) := HBK10.out.cell 0
    have b1 : w10.cell? ⟨bx, 1, none⟩ = some (.int .i64 (t1 : Int)) := HBK10.out.cell 1
    have b2 : w10.cell? ⟨bx, 2, none⟩ = some (.int .i64 X) := HBK10.out.cell 2
    have b3 : w10.cell? ⟨bx, 3, none⟩ = some (.string Y) := HBK10.out.cell 3
    have HFE : Hid (Calls Try.prog 18 #[ob m, .agg #[.int .i64 0, .int .i64 (t1 : Int), .int .i64 X, .string Y]] w10.drew fun e w' => ∃ A c, e = .returned (.tuple #[.slice A t1 c, .int .i64 0, .int .i64 0]) ∧ Below w10.heap.size w10 w' ∧ RdB w' A T1.data.toList) :=
      Lib.hid ((fetch_any (HM10.out.below ((Below.refl w10.heap.size w10).drew)) HLEN.out (by omega) 0 (t1 : Int) X Y (by omega) (by omega)).mono (by
        rintro e w' ⟨hb, hres⟩
        rw [HALL.out.1, ← HXY.out.1, ← HXY.out.2, all_which (by omega) HALL.out.2] at hres
        rcases hres with ⟨h, _⟩ | ⟨_, h, _⟩ | ⟨_, i, rfl, _, A, c, rfl, hrd, hfr⟩
        · exact absurd rfl h
        · exact absurd (by omega) h
        · rw [HALL.out.2 0 (by omega)] at hrd ⊢
          rw [HT1.out]
          exact ⟨A, c, rfl, (Below.refl w10.heap.size w10).drew.trans hb, hrd⟩))
    go_upto_region 14 with fail
    go_region_held3 (fun W : World => W.cell? ⟨G, 2, none⟩ = some (ob m) ∧ W.cell? ⟨bx, 0, none⟩ = some (.int .i64 0) ∧ W.cell? ⟨bx, 1, none⟩ = some (.int .i64 (t1 : Int)) ∧ W.cell? ⟨bx, 2, none⟩ = some (.int .i64 X) ∧ W.cell? ⟨bx, 3, none⟩ = some (.string Y)) (first | exact ⟨g2, b0, b1, b2, b3⟩ | exact ⟨below_cell HB11.out g2, below_cell HB11.out b0, below_cell HB11.out b1, below_cell HB11.out b2, below_cell HB11.out b3⟩) (first | (go_at_call 18; refine HFE.out.mono ?_; rintro e w11 ⟨A11, c11, rfl, hb11, hrd11⟩; have HB11 := Lib.hid hb11; have HR11 := Lib.hid hrd11))
    have g211 := below_cell HB11.out g2
    have b011 := below_cell HB11.out b0
    have b111 := below_cell HB11.out b1
    have b211 := below_cell HB11.out b2
    have b311 := below_cell HB11.out b3
    have HM11 := Lib.hid (HM10.out.below HB11.out)
    have HSK : Hid (Calls Try.prog 48 #[ob m, .agg #[.int .i64 0, .int .i64 (t1 : Int), .int .i64 X, .string Y]] w11.drew fun e w' => ∃ A c, e = .returned (.tuple #[.slice A 0 c, .int .i64 0]) ∧ Below w11.heap.size w11 w') :=
      Lib.hid ((sick_any (HM11.out.below ((Below.refl w11.heap.size w11).drew)) HLEN.out (by omega) 0 (t1 : Int) X Y (by omega) (by omega)).mono (by
        rintro e w' ⟨hb, hres⟩
        rw [HALL.out.1, ← HXY.out.1, ← HXY.out.2, all_well HALL.out.2] at hres
        rcases hres with ⟨h, _⟩ | ⟨_, A, c, rfl, _, _⟩
        · exact absurd rfl h
        · exact ⟨A, c, rfl, (Below.refl w11.heap.size w11).drew.trans hb⟩))
    clear HM10 HBK10 HFE HB11 g2 b0 b1 b2 b3 HALL
    go_upto_region 15 with fail
    go_region_held3 (fun W : World => W.cell? ⟨G, 2, none⟩ = some (ob m) ∧ W.cell? ⟨bx, 0, none⟩ = some (.int .i64 0) ∧ W.cell? ⟨bx, 1, none⟩ = some (.int .i64 (t1 : Int)) ∧ W.cell? ⟨bx, 2, none⟩ = some (.int .i64 X) ∧ W.cell? ⟨bx, 3, none⟩ = some (.string Y)) (first | exact ⟨g211, b011, b111, b211, b311⟩ | exact ⟨below_cell HB12.out g211, below_cell HB12.out b011, below_cell HB12.out b111, below_cell HB12.out b211, below_cell HB12.out b311⟩) (first | (go_at_call 48; refine HSK.out.mono ?_; rintro e w12 ⟨A12, c12, rfl, hb12⟩; have HB12 := Lib.hid hb12))
    have hst : (convert 37 9 (.slice A11 t1 c11)).run Try.prog w12 = .ok (.string T1) w12 := by
      have := run_str c11 (w := w12) (HR11.out.below HB12.out) HT1.out.symm
      rwa [bytes_back] at this
    have HEND : Hid (Below w.heap.size w w12) := Lib.hid (HW1.out.trans ((HM11.out.lw.be.trans (HB12.out.mono HM11.out.lw.be.size)).mono HW1.out.size))
    go_wp2_with fail
    go_ret
    exact ⟨rfl, HEND.out⟩
end Go.Proofs.Ytoompglghjpapaa
