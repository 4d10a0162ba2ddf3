/-
  Walk: (*Mirror).look.
-/
import Derived.Test.YtoompglghjpapaaMirE
namespace Go.Proofs.Ytoompglghjpapaa
open Go.RowKit Crc
set_option linter.unusedVariables false
set_option linter.unusedSimpArgs false
attribute [local go_sem ↓] Go.wp_at_zero Go.wp_at_succ

theorem Rows_.push {S : St} {o z : Int} {B : Nat} {w w3 w4 : World} {A A9 A' : Option Addr} {c c9 c' k n9 : Nat} {cs : List Value} (h : Rows_ S o z B w A c k cs) (hB : B ≤ w.heap.size) (hb : Below w.heap.size w w3) (hn9 : (readB (S.at_ k) S.off o z).length = n9)
    (hown9 : OwnB w3 w.heap.size A9 c9 (readB (S.at_ k) S.off o z)) (hgr : (w3.alloc (.cells #[.slice A9 n9 c9] 37)).grownBy w4 (blk A))
    (hown : OwnR w4 B 37 1 A' (k + 1) c' (cs ++ [.slice A9 n9 c9])) (hat : blk A' = blk A ∨ blk A' = some (w3.alloc (.cells #[.slice A9 n9 c9] 37)).heap.size) :
    Rows_ S o z B w4 A' c' (k + 1) (cs ++ [.slice A9 n9 c9]) := by
  subst hn9
  refine ⟨hown, fun j hj => ?_⟩
  have hcl : cs.length = k := by have := OwnR.length h.own; omega
  have hsz := hgr.size
  simp only [World.size_alloc] at hsz hat
  have hw3 := hb.size
  by_cases hjk : j < k
  · obtain ⟨Aj, cj, h1, h2, h3⟩ := h.row j hjk
    refine ⟨Aj, cj, by rw [List.getElem?_append_left (by omega)]; exact h1, ?_, fun x hx => ?_⟩
    · exact ((h2.below hb).below ((Below.refl _ _).alloc (Nat.le_refl _) _)).grown_ hgr (fun x hx e => (h3 x hx).1 e.symm)
    · obtain ⟨h4, h5, h8⟩ := h3 x hx
      refine ⟨fun e => ?_, by omega, h8⟩
      rcases hat with h6 | h6
      · exact h4 (h6 ▸ e)
      · rw [h6] at e
        have := Option.some.inj e
        omega
  · have : j = k := by omega
    subst this
    refine ⟨A9, c9, by rw [List.getElem?_append_right (by omega), hcl]; simp, ?_, fun x hx => ?_⟩
    · exact ((OwnB.rd hown9).below ((Below.refl _ _).alloc (Nat.le_refl _) _)).grown_ hgr (fun x hx e => by
        have h5 := (OwnR.lt hown9 x.block (by rw [hx]; rfl)).1
        have h6 := (OwnR.lt h.own x.block e.symm).2
        omega)
    · have h5 := OwnR.lt hown9 x.block (by rw [hx]; rfl)
      refine ⟨fun e => ?_, by omega, by omega⟩
      rcases hat with h6 | h6
      · have h7 := (OwnR.lt h.own x.block (h6 ▸ e)).2
        omega
      · rw [h6] at e
        have := Option.some.inj e
        omega
theorem Rows_.rdl {S : St} {o z : Int} {B : Nat} {w : World} {A : Option Addr} {c k : Nat} {cs : List Value} (h : Rows_ S o z B w A c k cs) : RdL w B A (conts S o z k) := fun j hj => by
  rw [conts_len] at hj
  obtain ⟨Aj, cj, h1, h2, h3⟩ := h.row j hj
  obtain ⟨ad, e, hc⟩ := OwnR.cellAt h.own j _ h1
  refine ⟨ad, Aj, cj, e, ?_, ?_, fun x hx => (h3 x hx).2.2⟩
  · rw [conts_get _ _ _ hj]; exact hc
  · rw [conts_get _ _ _ hj]; exact h2
set_option maxRecDepth 100000 in
set_option maxHeartbeats 2000000 in
theorem look_any {w0 w : World} {p G m N : Nat} {as_ : List Nat} {S : St} {F : Nat → Prop} (h : Mr w0 w p G as_ S m F) (hN : as_.length = N) (hN8 : N ≤ 8) (o z cr : Int) (md : ByteArray) (ho : -9223372036854775808 ≤ o ∧ o ≤ 9223372036854775807) (hz : -9223372036854775808 ≤ z ∧ z ≤ 9223372036854775807) :
    Calls Try.prog 63 #[ob m, .agg #[.int .i64 o, .int .i64 z, .int .i64 cr, .string md]] w fun e w' => LookSpec S o z N w e w' := by
  have hbx : Below w.heap.size w (w.alloc (.cells #[.int .i64 o, .int .i64 z, .int .i64 cr, .string md] 28)) := (Below.refl _ _).alloc (Nat.le_refl _) _
  have hbk := Blk.new w 28 #[.int .i64 o, .int .i64 z, .int .i64 cr, .string md]
  have q1 : (w.alloc (.cells #[.int .i64 o, .int .i64 z, .int .i64 cr, .string md] 28)).cell? ⟨w.heap.size, 1, none⟩ = some (.int .i64 z) := hbk.cell 1
  have HBX := Lib.hid hbx
  have HO := Lib.hid (And.intro ho hz)
  by_cases hz1 : z < 1
  · have hd : decide (z < 1) = true := decide_eq_true hz1
    have HZ := Lib.hid hz1
    clear hbk hz1 h ho hz hbx
    go_enter Try.func63, Try.ntmps63
    go_wp2_with fail
    go_ret2
    refine ⟨HBX.out, .inl ?_⟩
    unfold lookR
    rw [if_pos HZ.out]
    exact ⟨by decide, rfl⟩
  · have hd : decide (z < 1) = false := decide_eq_false hz1
    have HZ := Lib.hid hz1
    have HB := Lib.hid hbk
    obtain ⟨g, cm, hm1, hm2, hm3⟩ := h.mir
    have HM := Lib.hid (And.intro (h.below hbx) hN)
    have mc : (w.alloc (.cells #[.int .i64 o, .int .i64 z, .int .i64 cr, .string md] 28)).cell? ⟨m, 0, none⟩ = some (.slice (some ⟨g, 0, none⟩) N cm) := by
      have := (hm1.below_ hbx).cell 0
      simp at this
      rw [hN] at this
      exact this
    have HC : Hid (∀ k, k < N → ∃ d, as_[k]? = some d ∧ (w.alloc (.cells #[.int .i64 o, .int .i64 z, .int .i64 cr, .string md] 28)).cell? ⟨g, k, none⟩ = some (ob d)) := Lib.hid (fun k hk => by
      have hkl : k < as_.length := by omega
      refine ⟨as_[k], List.getElem?_eq_getElem hkl, ?_⟩
      have := below_cell hbx (hm2 k hkl)
      rwa [show as_.getD k 0 = as_[k] by simp [List.getD, hkl]] at this)
    clear hbk hz1 h ho hz hbx hm1 hm2 hm3 hN
    go_enter Try.func63, Try.ntmps63
    go_wp2_with fail
    obtain ⟨W, hW⟩ : ∃ W, w.alloc (.cells #[.int .i64 o, .int .i64 z, .int .i64 cr, .string md] 28) = W := ⟨_, rfl⟩
    obtain ⟨bx, hbx⟩ : ∃ x, w.heap.size = x := ⟨_, rfl⟩
    have HBX2 : Hid (Below w.heap.size w W) := Lib.hid (by rw [← hW]; exact HBX.out)
    rw [hW] at HB HM mc HC q1 ⊢
    rw [hbx] at HB q1 ⊢
    clear hW HBX
    have HBX : Hid (w.heap.size = bx) := Lib.hid hbx
    clear hbx
    go_loopw [6, 8, 9, 10, 23] (fun s6 _ _ _ i wr => ∃ k A c, s6 = .slice A k c ∧ i = .int .i64 (k : Int) ∧ k ≤ N ∧ Hid (Below W.heap.size W wr ∧ (∀ j, j < k → readE (S.at_ j) S.off o z = 0) ∧ ∃ cs, Rows_ S o z W.heap.size wr A c k cs)) (fun _ _ _ _ i _ => N - (RowKit.intOf i).toNat)
    case atStart => exact ⟨0, none, 0, rfl, rfl, by omega, Lib.hid ⟨Below.refl _ _, fun j hj => by omega, [], OwnR.nil _ _ _ _, fun j hj => by omega⟩⟩
    case round =>
      obtain ⟨k, A, c, rfl, rfl, hk, HR⟩ := hrel
      have HBE : Hid (Below w.heap.size w wr) := Lib.hid (HBX2.out.trans (HR.out.1.mono HBX2.out.size))
      by_cases hlt : k < N
      · have hkn : (k : Int) < (N : Int) := by omega
        obtain ⟨d, hd1, hd2⟩ := HC.out k hlt
        have c1 := below_cell HR.out.1 hd2
        have b0 := (HB.out.below_ HR.out.1).cell 0
        have b1 := (HB.out.below_ HR.out.1).cell 1
        simp at b0 b1
        have hrd := lw_read (HM.out.1.lw.below HR.out.1) hd1 o z HO.out.1 HO.out.2
        obtain ⟨cs, hrows⟩ := HR.out.2.2
        have HROW := Lib.hid hrows
        have HERR := Lib.hid HR.out.2.1
        have HBW := Lib.hid HR.out.1
        obtain ⟨X, hX⟩ : ∃ X, readB (S.at_ k) S.off o z = X := ⟨_, rfl⟩
        obtain ⟨n9, hn9⟩ : ∃ n, X.length = n := ⟨_, rfl⟩
        obtain ⟨E, hE⟩ : ∃ E, readE (S.at_ k) S.off o z = E := ⟨_, rfl⟩
        unfold ReadSpec at hrd
        rw [hX, hn9, hE] at hrd
        have HRD := Lib.hid hrd
        have HX : Hid (readB (S.at_ k) S.off o z = X ∧ X.length = n9 ∧ readE (S.at_ k) S.off o z = E) := Lib.hid ⟨hX, hn9, hE⟩
        clear hX hn9 hE hrd hrows HR hd2
        by_cases hE0 : E = 0
        · subst hE0
          go_wp2_with fail
          refine HRD.out.mono ?_
          rintro e w3 ⟨A9, c9, rfl, hown9, hb9⟩
          have HO9 := Lib.hid hown9
          have HB9 := Lib.hid hb9
          have hsz9 := hb9.size
          have HOW := Lib.hid (OwnR.alloc (OwnR.below' HROW.out.own hb9) (.cells #[.slice A9 n9 c9] 37))
          have hWs := HBW.out.size
          clear hown9 hb9 HRD
          go_wp2_with (at_builtin; refine wpList_app rfl (.tmp 39) (.tmp 41) 113 rfl W.heap.size 37 (.slice none 0 0) 1 24 Try.underlying113 info_l rfl (by decide) A k c cs rfl HOW.out ⟨w3.heap.size, 0, none⟩ 1 1 [.slice A9 n9 c9] rfl rfl (cells_new_at _ _ _ _ rfl) (fun u hu => by simp at hu; subst hu; rfl) (by unfold maxLen; omega) (by omega) (by simp; omega) ?_; (intro A' c' w4 hown hgr hat))
          have hpush := HROW.out.push hWs HB9.out (by rw [HX.out.1]; exact HX.out.2.1) (by rw [HX.out.1]; exact HO9.out) hgr hown hat
          have hb4 : Below W.heap.size W w4 := ((HBW.out.trans (HB9.out.mono hWs)).alloc (by omega) _).grown hgr (by simp; omega) (fun x hx => (OwnR.lt HROW.out.own x hx).1)
          exact ⟨⟨k + 1, A', c', rfl, int_eq (by omega), by omega, Lib.hid ⟨hb4, fun j hj => by
            by_cases hjk : j = k
            · subst hjk; exact HX.out.2.2
            · exact HERR.out j (by omega), _, hpush⟩⟩, by simp [RowKit.intOf]; omega⟩
        · have hne : (E != 0) = true := by simpa using hE0
          have HE0 := Lib.hid hE0
          clear hE0
          go_wp2_with fail
          refine HRD.out.mono ?_
          rintro e w3 ⟨A9, c9, rfl, hown9, hb9⟩
          have HB9 : Hid (Below w.heap.size w w3) := Lib.hid (HBE.out.trans (hb9.mono HBE.out.size))
          clear hown9 hb9 HRD
          go_wp2_with fail
          go_ret2
          have hR : lookR S o z N = E := by
            unfold lookR
            rw [if_neg (by have := HZ.out; omega), lookE_hit S o z N 0 k (by omega) (by omega) (fun j _ h2 => HERR.out j h2) (by rw [HX.out.2.2]; exact HE0.out)]
            exact HX.out.2.2
          refine ⟨HB9.out, .inl ?_⟩
          rw [hR]
          exact ⟨HE0.out, rfl⟩
      · have hkn : k = N := by omega
        subst hkn
        go_wp2_with fail
        go_ret2
        have hR : lookR S o z k = 0 := by
          unfold lookR
          rw [if_neg (by have := HZ.out; omega), lookE_none S o z k 0 (fun j _ h2 => HR.out.2.1 j (by omega))]
        obtain ⟨cs, hrows⟩ := HR.out.2.2
        have hBs := HBX2.out.size
        exact ⟨HBE.out, .inr ⟨hR, A, c, rfl, fun j hj => by
          obtain ⟨ad, Ak, ck, h1, h2, h3, h4⟩ := hrows.rdl j hj
          exact ⟨ad, Ak, ck, h1, h2, h3, fun x hx => by have := h4 x hx; omega⟩⟩⟩
end Go.Proofs.Ytoompglghjpapaa
