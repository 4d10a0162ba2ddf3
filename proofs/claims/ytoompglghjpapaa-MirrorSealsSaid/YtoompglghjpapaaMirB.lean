/-
  Walk: what mirror.New asks of its disks: are all of one size; the copy of their list.
-/
import Derived.Test.YtoompglghjpapaaMirA
import Derived.BigQuiet
namespace Go.Proofs.Ytoompglghjpapaa
open Go.RowKit
set_option linter.unusedVariables false
set_option linter.unusedSimpArgs false
attribute [local go_sem ↓] Go.wp_at_zero Go.wp_at_succ

/-- disk d has z bytes, as long as nothing is written -/
def SizeIs (w : World) (d z : Nat) : Prop := ∀ q, Calls Try.prog 22 #[ob d] (w.drewN q) fun e w' => e = .returned (.int .i64 (z : Int)) ∧ w.drewN q = w'
set_option maxRecDepth 100000 in
theorem sizes_differ (w : World) (d z d0 z0 bx c n : Nat) (A : Addr) (hd : SizeIs w d z) (h0 : SizeIs w d0 z0) (hc : w.cell? ⟨bx, 0, none⟩ = some (.slice (some A) n c)) (hn : 0 < n) (ha : w.cell? A = some (ob d0)) :
    Calls Try.prog 69 #[ob d, .pointer (some ⟨bx, 0, none⟩)] w fun e w' => QuietB (decide (z ≠ z0)) w e w' := by
  have HD : Hid (∀ q, Calls Try.prog 22 #[ob d] (w.drewN q) fun e w' => e = .returned (.int .i64 (z : Int)) ∧ w.drewN q = w') := Lib.hid hd
  have H0 : Hid (∀ q, Calls Try.prog 22 #[ob d0] (w.drewN q) fun e w' => e = .returned (.int .i64 (z0 : Int)) ∧ w.drewN q = w') := Lib.hid h0
  have hb : ((z : Int) != (z0 : Int)) = decide (z ≠ z0) := by
    by_cases h : z = z0
    · subst h; simp
    · have h2 : (z : Int) ≠ (z0 : Int) := by omega
      simp [h, h2]
  obtain ⟨B, hB⟩ : ∃ B, decide (z ≠ z0) = B := ⟨_, rfl⟩
  rw [hB] at hb ⊢
  have hn0 : (0 : Int) < (n : Int) := by omega
  clear hB hn hd h0
  go_enter Try.func69, Try.ntmps69
  go_wp2
  go_quiet ((go_at_call 22; first | with_reducible exact quiet_left (HD.out _) | with_reducible exact quiet_left (H0.out _)))
  go_wp2
  go_ret
  exact ⟨rfl, nq, rfl⟩
theorem SizeIs.drewN {w : World} {d z : Nat} (h : SizeIs w d z) (q : Nat) : SizeIs (w.drewN q) d z := fun q' => by
  have := h (q + q')
  rw [← World.drewN_drewN] at this
  exact this
set_option maxRecDepth 100000 in
set_option maxHeartbeats 1000000 in
theorem indexFunc_any (w : World) (bx c n : Nat) (A : Addr) (ds : List Nat) (sz : Nat → Nat) (z0 : Nat) (hn : ds.length = n) (hn0 : 0 < n) (hm : n ≤ 8) (hr : ∀ k, k < n → w.cell? (A.add k) = some (ob (ds.getD k 0))) (hs : ∀ k, k < n → SizeIs w (ds.getD k 0) (sz (ds.getD k 0)))
    (hz : sz (ds.getD 0 0) = z0) (hc : w.cell? ⟨bx, 0, none⟩ = some (.slice (some A) n c)) :
    Calls Try.prog 82 #[.slice (some A) n c, .func (.func 69) #[] #[.pointer (some ⟨bx, 0, none⟩)]] w fun e w' =>
      ∃ i : Int, e = .returned (.int .i64 i) ∧ decide (0 ≤ i) = decide (∃ k, k < n ∧ sz (ds.getD k 0) ≠ z0) ∧ ∃ q, w' = w.drewN q := by
  have HR := Lib.hid hr
  have HS := Lib.hid hs
  have HC := Lib.hid hc
  have HZ := Lib.hid hz
  clear hr hs hc hn hz
  go_enter Try.func82, Try.ntmps82
  go_wp2_with fail
  go_loopw [5, 8] (fun _ i wr => ∃ k : Nat, i = .int .i64 (k : Int) ∧ k ≤ n ∧ Hid (∀ j, j < k → sz (ds.getD j 0) = z0) ∧ Hid (∃ q, wr = w.drewN q)) (fun _ i _ => n - (RowKit.intOf i).toNat)
  case atStart => exact ⟨0, rfl, Nat.zero_le _, Lib.hid fun k hk => by omega, Lib.hid ⟨0, rfl⟩⟩
  case round =>
    obtain ⟨k, rfl, hk, HJ, HW⟩ := hrel
    by_cases hlt : k < n
    · have hkn : (k : Int) < (n : Int) := by omega
      obtain ⟨q, hq⟩ := HW.out
      have HQ := Lib.hid hq
      have c1 : wr.cell? (A.add k) = some (ob (ds.getD k 0)) := by rw [hq]; exact HR.out k hlt
      have HK := Lib.hid (HS.out k hlt)
      obtain ⟨d, hd⟩ : ∃ d, ds.getD k 0 = d := ⟨_, rfl⟩
      have HD := Lib.hid hd
      rw [hd] at c1 HK
      have hcall := sizes_differ wr d (sz d) (ds.getD 0 0) z0 bx c n A (by rw [hq]; exact HK.out.drewN q) (by rw [hq, ← HZ.out]; exact (HS.out 0 hn0).drewN q) (by rw [hq]; exact HC.out) hn0 (by rw [hq]; have := HR.out 0 hn0; rwa [addr_add0] at this)
      clear hq hd
      by_cases hzz : sz d = z0
      · rw [decide_eq_false (by simpa using hzz)] at hcall
        have HZZ := Lib.hid hzz
        have HCALL := Lib.hid hcall
        clear hzz hcall
        go_wp2_with (go_at_call 69; refine HCALL.out.mono ?_; rintro e w2 ⟨rfl, q2, hq2⟩; have HQ2 := Lib.hid hq2; clear hq2)
        refine ⟨⟨k + 1, int_eq (by omega), by omega, Lib.hid fun j hj => ?_, Lib.hid ⟨q + q2, by rw [HQ2.out, HQ.out, World.drewN_drewN]⟩⟩, by simp [RowKit.intOf]; omega⟩
        by_cases hjk : j = k
        · subst hjk; rw [HD.out]; exact HZZ.out
        · exact HJ.out j (by omega)
      · rw [decide_eq_true (by simpa using hzz)] at hcall
        have HZZ := Lib.hid hzz
        have HCALL := Lib.hid hcall
        clear hzz hcall
        go_wp2_with (go_at_call 69; refine HCALL.out.mono ?_; rintro e w2 ⟨rfl, q2, hq2⟩; have HQ2 := Lib.hid hq2; clear hq2)
        go_ret
        refine ⟨_, rfl, ?_, q + q2, by rw [HQ2.out, HQ.out, World.drewN_drewN]⟩
        rw [decide_eq_true (show (0 : Int) ≤ (k : Int) by omega), decide_eq_true]
        exact ⟨k, hlt, by rw [HD.out]; exact HZZ.out⟩
    · go_wp2_with fail
      go_ret
      refine ⟨_, rfl, ?_, HW.out⟩
      rw [decide_eq_false, decide_eq_false]
      · rintro ⟨j, hj, hne⟩
        exact hne (HJ.out j (by omega))
      · decide
theorem containsFunc_any (w : World) (bx c n : Nat) (A : Addr) (ds : List Nat) (sz : Nat → Nat) (z0 : Nat) (B : Bool) (hn : ds.length = n) (hn0 : 0 < n) (hm : n ≤ 8) (hr : ∀ k, k < n → w.cell? (A.add k) = some (ob (ds.getD k 0))) (hs : ∀ k, k < n → SizeIs w (ds.getD k 0) (sz (ds.getD k 0)))
    (hz : sz (ds.getD 0 0) = z0) (hc : w.cell? ⟨bx, 0, none⟩ = some (.slice (some A) n c)) (hB : decide (∃ k, k < n ∧ sz (ds.getD k 0) ≠ z0) = B) :
    Calls Try.prog 68 #[.slice (some A) n c, .func (.func 69) #[] #[.pointer (some ⟨bx, 0, none⟩)]] w fun e w' => QuietB B w e w' := by
  have HB := Lib.hid hB
  clear hB
  have hcall := indexFunc_any w bx c n A ds sz z0 hn hn0 hm hr hs hz hc
  rw [HB.out] at hcall
  have HCALL := Lib.hid hcall
  clear hcall hr hs hc hz hn
  go_enter Try.func68, Try.ntmps68
  go_wp2_with fail
  refine HCALL.out.mono ?_
  rintro e w' ⟨i, rfl, hi, q, hq⟩
  have HQ := Lib.hid hq
  clear hq
  go_wp2_with fail
  go_ret
  exact ⟨by rw [← hi]; simp, q, HQ.out⟩
theorem eql_nil_p (w : World) (a : Addr) (n c : Nat) : (binOp .eql 32 (.slice (some a) n c) (.slice none 0 0)).run Try.prog w = .ok (.bool false) w := by
  have h : ∀ d : Nat, (Op.equalIn (d + 1) 32 (.slice (some a) n c) (.slice none 0 0)).run Try.prog w = .ok false w := fun d => by
    simp [Op.equalIn, run_underlying Try.underlying32]
  simp only [binOp]
  simp [Op.equal, Op.maxDepth, h 9999]
def ClonedP (w : World) (n : Nat) (ds : List Nat) (e : Ending) (w' : World) : Prop := ∃ g c', e = .returned (.slice (some ⟨g, 0, none⟩) n c') ∧ (∀ k, k < n → w'.cell? ⟨g, k, none⟩ = some (ob (ds.getD k 0))) ∧ Below w.heap.size w w' ∧ w.heap.size ≤ g
/-- slices.Clone of some disks -/
theorem clonep_any (w : World) (A : Addr) (n c : Nat) (ds : List Nat) (hn : ds.length = n) (hn0 : 0 < n) (hm : n ≤ 1000) (hr : ∀ k, k < n → w.cell? (A.add k) = some (ob (ds.getD k 0))) :
    Calls Try.prog 70 #[.slice (some A) n c] w fun e w' => ClonedP w n ds e w' := by
  have hz : ∀ (W : World) (a : Addr), (binOp .eql 32 (.slice (some a) n c) (.slice none 0 0)).run Try.prog W = .ok (.bool false) W := fun W a => eql_nil_p W a n c
  have HOW := Lib.hid (World.ownsRow_lit w (e := 42) (base := w.heap.size) #[] 0 (Nat.le_refl _) (by simp) rfl : OwnR (w.alloc (.cells #[] 42)) w.heap.size 42 1 (some ⟨w.heap.size, 0, none⟩) 0 0 [])
  have HLN : Hid ((ds.map ob).length = n * 1) := Lib.hid (by rw [List.length_map, hn]; omega)
  have HNEW : Hid (∀ j u, (ds.map ob)[j]? = some u → (w.alloc (.cells #[] 42)).cell? (A.add j) = some u) := Lib.hid (fun j u hu => by
    have hj : j < n := by
      have := (List.getElem?_eq_some_iff.1 hu).1
      rwa [List.length_map, hn] at this
    have hjl : j < ds.length := by omega
    have e : (ds.map ob)[j]? = some (ob (ds.getD j 0)) := by simp [List.getD, hjl]
    rw [e] at hu
    rw [← Option.some.inj hu]
    exact below_cell ((Below.refl w.heap.size w).alloc (Nat.le_refl _) _) (hr j hj))
  have HONE : Hid (∀ u ∈ ds.map ob, u.oneCell' = true) := Lib.hid (fun u hu => by
    obtain ⟨x, _, rfl⟩ := List.mem_map.1 hu
    rfl)
  have HN := Lib.hid hn
  clear hr hn
  go_enter Try.func70, Try.ntmps70
  go_wp2_with (at_builtin; refine wpList_app rfl (.tmp 5) (.tmp 6) 32 rfl w.heap.size 42 (.pointer none) 1 8 Try.underlying32 info_pd rfl (by decide) _ 0 0 [] rfl HOW.out A n c (ds.map ob) rfl HLN.out HNEW.out HONE.out (by unfold maxLen; omega) (by omega) (by simp) ?_; (intro A' c' w' hown hg hat))
  go_ret
  have hbe : Below w.heap.size w w' := ((Below.refl _ _).alloc (Nat.le_refl _) _).grown hg (by simp) (fun k hk => by simp [blk] at hk; omega)
  obtain ⟨g, rfl⟩ := OwnR.some_ hown (by omega)
  refine ⟨g, c', by simp, fun k hk => ?_, hbe, (OwnR.lt hown g rfl).1⟩
  have hkl : k < ds.length := by rw [HN.out]; exact hk
  obtain ⟨ad, e, hc⟩ := OwnR.cellAt hown k (ob (ds.getD k 0)) (by simp [List.getD, hkl])
  cases e
  have e0 : (⟨g, 0, none⟩ : Addr).add k = ⟨g, k, none⟩ := by unfold Addr.add; split <;> simp_all
  rw [e0] at hc
  exact hc
/-- a mirror's own memory -/
def NewP (w w' : World) (ds : List Nat) (v : Value) : Prop := ∃ m g c, v = ob m ∧ Blk w' m 108 #[.slice (some ⟨g, 0, none⟩) ds.length c] ∧ (∀ k, k < ds.length → w'.cell? ⟨g, k, none⟩ = some (ob (ds.getD k 0))) ∧ w.heap.size ≤ m ∧ w.heap.size ≤ g
/-- what New says of one to eight disks -/
def MNew (ds : List Nat) (sz : Nat → Nat) (w : World) (e : Ending) (w' : World) : Prop :=
  ∃ v i, e = .returned (.tuple #[v, .int .i64 i]) ∧ Below w.heap.size w w' ∧ (¬ ds.Nodup → i = 8 ∧ v = .pointer none) ∧ (ds.Nodup → (∃ k, k < ds.length ∧ sz (ds.getD k 0) ≠ sz (ds.getD 0 0)) → i = 2 ∧ v = .pointer none) ∧
    (ds.Nodup → (¬ ∃ k, k < ds.length ∧ sz (ds.getD k 0) ≠ sz (ds.getD 0 0)) → i = 0 ∧ NewP w w' ds v)
theorem take_get {ds : List Nat} {k : Nat} (h : k < ds.length) : ds.take (k + 1) = ds.take k ++ [ds.getD k 0] := by
  rw [List.take_add_one]; simp [List.getD, h]
theorem nodup_snoc {l : List Nat} {x : Nat} (h : l.Nodup) (hx : x ∉ l) : (l ++ [x]).Nodup := by
  rw [List.nodup_append]
  refine ⟨h, by simp, fun a ha b hb => ?_⟩
  simp at hb; subst hb
  rintro rfl; exact hx ha
theorem dup_not {ds : List Nat} {k : Nat} (hk : k < ds.length) (hin : ds.getD k 0 ∈ ds.take k) : ¬ ds.Nodup := fun hn => by
  have h1 : (ds.take (k + 1)).Nodup := List.Nodup.sublist (List.take_sublist _ _) hn
  rw [take_get hk, List.nodup_append] at h1
  exact h1.2.2 _ hin _ (by simp) rfl
set_option maxRecDepth 100000 in
set_option maxHeartbeats 2000000 in
theorem mnew_any (w : World) (ad : Addr) (n c : Nat) (ds : List Nat) (sz : Nat → Nat) (hn : ds.length = n) (hn1 : 1 ≤ n) (hn8 : n ≤ 8) (hr : ∀ k, k < n → w.cell? (ad.add k) = some (ob (ds.getD k 0))) (hb : ∀ d ∈ ds, ∃ t cs, Blk w d t cs)
    (hs : ∀ W, Below w.heap.size w W → ∀ k, k < n → SizeIs W (ds.getD k 0) (sz (ds.getD k 0))) :
    Calls Try.prog 23 #[.slice (some ad) n c] w fun e w' => MNew ds sz w e w' := by
  have HN := Lib.hid hn
  have HR := Lib.hid hr
  have HB := Lib.hid hb
  have HS := Lib.hid hs
  have HP0 : Hid (RdP w (some ad) (ds.map some)) := Lib.hid (fun hl => ⟨ad, rfl, fun k hk => by
    rw [List.length_map, hn] at hk
    have hkl : k < ds.length := by omega
    rw [hr k hk]
    simp [List.getD, hkl, pv]⟩)
  have hn1' : (1 : Int) ≤ (n : Int) := by omega
  have hn8' : (n : Int) ≤ 8 := by omega
  have hmm := @run_makeMap Try.prog
  clear hr hb hs hn
  go_enter Try.func23, Try.ntmps23
  go_wp2_with fail
  refine (contains_nil (some ad) (ds.map some) n c false _ (by rw [List.length_map]; exact HN.out) (by unfold maxLen; omega) (HP0.out.below ((Below.refl _ _).alloc (Nat.le_refl _) _)) (by simp)).mono ?_
  rintro e _ ⟨rfl, rfl⟩
  go_wp2_with fail
  obtain ⟨W, hW⟩ : ∃ W, w.alloc (.cells #[.slice (some ad) n c] 32) = W := ⟨_, rfl⟩
  obtain ⟨mb, hmb⟩ : ∃ x, w.heap.size + 1 = x := ⟨_, rfl⟩
  have hsz : W.heap.size = mb := by rw [← hW, ← hmb]; simp
  have HBK : Hid (Blk W w.heap.size 32 #[.slice (some ad) n c] ∧ Below w.heap.size w W ∧ w.heap.size < mb) := Lib.hid (by subst hW; exact ⟨Blk.new _ _ _, (Below.refl _ _).alloc (Nat.le_refl _) _, by omega⟩)
  have HST : Hid (Below mb W (W.alloc (.map #[] 0)) ∧ SeenAt (W.alloc (.map #[] 0)) mb (ds.take 0) ∧ (ds.take 0).Nodup) := Lib.hid (by
    rw [← hsz]
    exact ⟨(Below.refl _ _).alloc (Nat.le_refl _) _, ⟨#[], 0, heap_alloc_new W _, by simp⟩, by simp⟩)
  rw [hW, hmb]
  clear hW hmb hsz
  go_loopw [6, 22] (fun _ i wr => ∃ k : Nat, i = .int .i64 (k : Int) ∧ k ≤ n ∧ Hid (Below mb W wr ∧ SeenAt wr mb (ds.take k) ∧ (ds.take k).Nodup)) (fun _ i _ => n - (RowKit.intOf i).toNat)
  case atStart => exact ⟨0, rfl, Nat.zero_le _, HST⟩
  case round =>
    clear HST
    obtain ⟨k, rfl, hk, HJ⟩ := hrel
    have hbw : Below w.heap.size w wr := HBK.out.2.1.trans (HJ.out.1.mono (by have := HBK.out.2.2; omega))
    have HBW := Lib.hid hbw
    have hbx := (HBK.out.1.below HJ.out.1 HBK.out.2.2).cell 0
    simp at hbx
    clear hbw
    by_cases hlt : k < n
    · have hkn : (k : Int) < (n : Int) := by omega
      have c1 := below_cell HBW.out (HR.out k hlt)
      have hkl : k < ds.length := by rw [HN.out]; exact hlt
      have hmem : ds.getD k 0 ∈ ds := by rw [show ds.getD k 0 = ds[k] by simp [List.getD, hkl]]; exact List.getElem_mem _
      have hD : ∀ d ∈ ds, ∃ t cs, Blk wr d t cs := fun d hd => by
        obtain ⟨t, cs, h1⟩ := HB.out d hd
        exact ⟨t, cs, h1.below_ HBW.out⟩
      have hT : ∀ d ∈ ds.take k, ∃ t cs, Blk wr d t cs := fun d hd => hD d (List.mem_of_mem_take hd)
      have hlk := seen_look HJ.out.2.1 (hD _ hmem) hT
      by_cases hin : ds.getD k 0 ∈ ds.take k
      · rw [decide_eq_true hin] at hlk
        have HDUP := Lib.hid (dup_not hkl hin)
        obtain ⟨d, hd⟩ : ∃ d, ds.getD k 0 = d := ⟨_, rfl⟩
        rw [hd] at hlk c1
        clear hin hD hT hmem hkl hd
        go_wp2_with fail
        go_ret2
        exact ⟨.pointer none, 8, rfl, HBW.out, fun _ => ⟨rfl, rfl⟩, fun h => absurd h HDUP.out, fun h => absurd h HDUP.out⟩
      · rw [decide_eq_false hin] at hlk
        obtain ⟨w5, hrun, hseen, hbe⟩ := seen_put HJ.out.2.1 (hD _ hmem) hT hin
        have H5 : Hid (Below mb W w5 ∧ SeenAt w5 mb (ds.take (k + 1)) ∧ (ds.take (k + 1)).Nodup) := Lib.hid (by
          rw [take_get hkl]
          exact ⟨HJ.out.1.trans (hbe mb (Nat.le_refl _)), hseen, nodup_snoc HJ.out.2.2 hin⟩)
        obtain ⟨d, hd⟩ : ∃ d, ds.getD k 0 = d := ⟨_, rfl⟩
        rw [hd] at hlk c1 hrun
        clear hin hD hT hmem hkl hd hseen hbe
        go_wp2_with fail
        exact ⟨⟨k + 1, int_eq (by omega), by omega, H5⟩, by simp [RowKit.intOf]; omega⟩
    · have hkn : k = n := by omega
      subst hkn
      have HND : Hid ds.Nodup := Lib.hid (by have := HJ.out.2.2; rwa [← HN.out, List.take_length] at this)
      obtain ⟨B, hB⟩ : ∃ B, decide (∃ j, j < k ∧ sz (ds.getD j 0) ≠ sz (ds.getD 0 0)) = B := ⟨_, rfl⟩
      have HCF := Lib.hid (containsFunc_any wr w.heap.size c k ad ds sz _ B HN.out (by omega) hn8 (fun j hj => below_cell HBW.out (HR.out j hj)) (fun j hj => HS.out wr HBW.out j hj) rfl hbx hB)
      have hmf : ∀ (fn : Fn) (first cap : Array Value) (w : World), (Instr.makeFunc fn first cap).run Try.prog w = .ok (.func fn first cap) w := fun _ _ _ _ => rfl
      clear HJ
      cases B with
      | true =>
        have HX : Hid (∃ j, j < ds.length ∧ sz (ds.getD j 0) ≠ sz (ds.getD 0 0)) := Lib.hid (by rw [HN.out]; exact of_decide_eq_true hB)
        clear hB
        go_wp2_with fail
        refine HCF.out.mono ?_
        rintro e w6 ⟨rfl, q6, hq6⟩
        have HW6 : Hid (Below w.heap.size w w6) := Lib.hid (by rw [hq6]; exact below_drewN HBW.out _)
        clear hq6
        go_wp2_with fail
        go_ret2
        exact ⟨.pointer none, 2, rfl, HW6.out, fun h => absurd HND.out h, fun _ _ => ⟨rfl, rfl⟩, fun _ h => absurd HX.out h⟩
      | false =>
        have HX : Hid (¬ ∃ j, j < ds.length ∧ sz (ds.getD j 0) ≠ sz (ds.getD 0 0)) := Lib.hid (by rw [HN.out]; exact of_decide_eq_false hB)
        clear hB
        go_wp2_with fail
        refine HCF.out.mono ?_
        rintro e w6 ⟨rfl, q6, hq6⟩
        have HW6 : Hid (Below w.heap.size w w6) := Lib.hid (by rw [hq6]; exact below_drewN HBW.out _)
        have hbx6 : w6.cell? ⟨w.heap.size, 0, none⟩ = some (.slice (some ad) k c) := by rw [hq6]; exact hbx
        clear hq6 hbx HCF
        go_wp2_with fail
        refine (clonep_any w6 ad k c ds HN.out (by omega) (by omega) (fun j hj => below_cell HW6.out (HR.out j hj))).mono ?_
        rintro e w7 ⟨g, c7, rfl, hc7, hb7, hg7⟩
        have H7 : Hid ((∀ j, j < k → w7.cell? ⟨g, j, none⟩ = some (ob (ds.getD j 0))) ∧ Below w.heap.size w w7 ∧ w.heap.size ≤ g) := Lib.hid ⟨hc7, HW6.out.trans (hb7.mono HW6.out.size), by have := HW6.out.size; omega⟩
        clear hc7 hb7 hg7
        go_wp2_with fail
        go_ret2
        refine ⟨_, 0, rfl, H7.out.2.1.alloc H7.out.2.1.size _, fun h => absurd HND.out h, fun _ h => absurd h HX.out, fun _ _ => ⟨rfl, w7.heap.size, g, c7, rfl, ?_, fun j hj => ?_, H7.out.2.1.size, H7.out.2.2⟩⟩
        · rw [HN.out]; exact Blk.new _ _ _
        · exact below_cell ((Below.refl _ _).alloc (Nat.le_refl _) _) (H7.out.1 j (by rw [← HN.out]; exact hj))
end Go.Proofs.Ytoompglghjpapaa
