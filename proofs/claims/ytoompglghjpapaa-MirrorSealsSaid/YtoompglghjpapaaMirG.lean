/-
  Walk: (*Mirror).Fetch, Sick, Copies, Size.
-/
import Derived.Test.YtoompglghjpapaaMirF
import Derived.Test.YtoompglghjpapaaZApp
namespace Go.Proofs.Ytoompglghjpapaa
open Go.RowKit Crc
set_option linter.unusedVariables false
set_option linter.unusedSimpArgs false
attribute [local go_sem ↓] Go.wp_at_zero Go.wp_at_succ

theorem readB_le (D : Dk) (off : Bool) (o n : Int) : (readB D off o n).length ≤ D.rd.length := by
  unfold readB
  split
  · simp
    omega
  · simp
theorem conts_le {w : World} {p N : Nat} {as_ : List Nat} {S : St} {F : Nat → Prop} (h : PwS w p as_ S F) (hN : as_.length = N) (o z : Int) : ∀ k, k < N → ((conts S o z N).getD k []).length ≤ 2097152 := fun k hk => by
  rw [conts_get _ _ _ hk]
  have hd : as_[k]? = some (as_[k]'(by omega)) := List.getElem?_eq_getElem (by omega)
  obtain ⟨_, _, _, _, _, _, _, _, _, h2, _⟩ := h.open_ hd
  have h3 := h2.lim
  have h4 := readB_le (S.at_ k) S.off o z
  have h5 := h2.ok.rd
  omega
/-- which disk has the bytes of a seal -/
def whichN (S : St) (o z cr : Int) (md : ByteArray) (N : Nat) : Nat := (conts S o z N).findIdx (fitsB cr md)
def FetchSpec (S : St) (o z cr : Int) (md : ByteArray) (N : Nat) (w : World) (e : Ending) (w' : World) : Prop :=
  Below w.heap.size w w' ∧ ((lookR S o z N ≠ 0 ∧ e = .returned (.tuple #[.slice none 0 0, .int .i64 0, .int .i64 (lookR S o z N)])) ∨
    (lookR S o z N = 0 ∧ ¬ whichN S o z cr md N < N ∧ e = .returned (.tuple #[.slice none 0 0, .int .i64 0, .int .i64 17])) ∨
    (lookR S o z N = 0 ∧ ∃ i, whichN S o z cr md N = i ∧ i < N ∧ ∃ A c, e = .returned (.tuple #[.slice A (readB (S.at_ i) S.off o z).length c, .int .i64 (i : Int), .int .i64 0]) ∧ RdB w' A (readB (S.at_ i) S.off o z) ∧ ∀ x, A = some x → w.heap.size ≤ x.block))
set_option maxRecDepth 100000 in
set_option maxHeartbeats 2000000 in
theorem fetch_any {w0 w : World} {p G m N : Nat} {as_ : List Nat} {S : St} {F : Nat → Prop} (h : Mr w0 w p G as_ S m F) (hN : as_.length = N) (hN8 : N ≤ 8) (o z cr : Int) (md : ByteArray) (ho : -9223372036854775808 ≤ o ∧ o ≤ 9223372036854775807) (hz : -9223372036854775808 ≤ z ∧ z ≤ 9223372036854775807) :
    Calls Try.prog 18 #[ob m, .agg #[.int .i64 o, .int .i64 z, .int .i64 cr, .string md]] w fun e w' => FetchSpec S o z cr md N w e w' := by
  have hbx : Below w.heap.size w (w.alloc (.cells #[.int .i64 o, .int .i64 z, .int .i64 cr, .string md] 28)) := (Below.refl _ _).alloc (Nat.le_refl _) _
  have HLOOK := Lib.hid (look_any (h.below hbx) hN hN8 o z cr md ho hz)
  have HLE := Lib.hid (conts_le h.lw.pw hN o z)
  have hbk := Blk.new w 28 #[.int .i64 o, .int .i64 z, .int .i64 cr, .string md]
  have hmf : ∀ (fn : Fn) (first cap : Array Value) (w : World), (Instr.makeFunc fn first cap).run Try.prog w = .ok (.func fn first cap) w := fun _ _ _ _ => rfl
  have HBK := Lib.hid hbk
  have HBX := Lib.hid hbx
  clear hbx h hN hbk
  go_enter Try.func18, Try.ntmps18
  go_wp2_with fail
  refine HLOOK.out.mono ?_
  rintro e w2 ⟨hb2, hres⟩
  have HB2 : Hid (Below w.heap.size w w2) := Lib.hid (HBX.out.trans (hb2.mono HBX.out.size))
  have HBK2 := Lib.hid (HBK.out.below_ hb2)
  obtain ⟨R, hR⟩ : ∃ R, lookR S o z N = R := ⟨_, rfl⟩
  have HR := Lib.hid hR
  rw [hR] at hres
  clear hR hb2 HBK HBX
  rcases hres with ⟨hne, rfl⟩ | ⟨rfl, A, c, rfl, hrl⟩
  · have hne1 : (R != 0) = true := by simpa using hne
    have HNE := Lib.hid hne
    clear hne
    go_wp2_with fail
    go_ret3
    unfold FetchSpec
    rw [HR.out]
    exact ⟨HB2.out, .inl ⟨HNE.out, rfl⟩⟩
  · have q0 := HBK2.out.cell 0
    have q1 := HBK2.out.cell 1
    have q2 := HBK2.out.cell 2
    have q3 := HBK2.out.cell 3
    simp at q0 q1 q2 q3
    have HRL := Lib.hid hrl
    have HIX := Lib.hid (indexFit_any o z cr md A (conts S o z N) N c _ w2 (conts_len _ _ _ _) (by omega) HLE.out hrl)
    obtain ⟨I, hI⟩ : ∃ I, idxI (fitsB cr md) (conts S o z N) = I := ⟨_, rfl⟩
    have HII := Lib.hid hI
    rw [hI] at HIX
    clear hI hrl HLOOK
    by_cases hlt : whichN S o z cr md N < N
    · obtain ⟨i, hi⟩ : ∃ i, whichN S o z cr md N = i := ⟨_, rfl⟩
      have hIi : I = (i : Int) := by
        rw [← HII.out]
        unfold idxI
        rw [conts_len]
        unfold whichN at hi hlt
        rw [hi] at hlt ⊢
        rw [if_pos hlt]
      subst hIi
      have HI := Lib.hid hi
      rw [hi] at hlt
      clear hi
      have hi0 : decide ((i : Int) < 0) = false := by simp
      go_wp2_with fail
      refine HIX.out.mono ?_
      rintro e w3 ⟨rfl, hb3⟩
      obtain ⟨ad, Ai, ci, rfl, c1, hrd, hfr⟩ := (HRL.out.below hb3) i (by rw [conts_len]; exact hlt)
      rw [conts_get _ _ _ hlt] at c1 hrd
      obtain ⟨X, hX⟩ : ∃ X, readB (S.at_ i) S.off o z = X := ⟨_, rfl⟩
      have HX := Lib.hid hX
      rw [hX] at c1 hrd
      obtain ⟨n, hn⟩ : ∃ n, X.length = n := ⟨_, rfl⟩
      have HN := Lib.hid hn
      rw [hn] at c1
      have hin : (i : Int) < (N : Int) := by omega
      have HEND : Hid (Below w.heap.size w w3 ∧ RdB w3 Ai X ∧ ∀ x, Ai = some x → w.heap.size ≤ x.block) := Lib.hid ⟨HB2.out.trans (hb3.mono HB2.out.size), hrd, fun x hx => by have := hfr x hx; simp at this; omega⟩
      clear hrd hfr hb3 hX hn HIX HRL
      go_wp2_with fail
      go_ret3
      unfold FetchSpec
      rw [HR.out]
      refine ⟨HEND.out.1, .inr (.inr ⟨rfl, i, HI.out, hlt, Ai, ci, ?_, ?_, HEND.out.2.2⟩)⟩
      · rw [HX.out, HN.out]; rfl
      · rw [HX.out]; exact HEND.out.2.1
    · have hIi : I = -1 := by
        rw [← HII.out]
        unfold idxI
        rw [conts_len]
        unfold whichN at hlt
        rw [if_neg hlt]
      subst hIi
      have HLT := Lib.hid hlt
      clear hlt
      go_wp2_with fail
      refine HIX.out.mono ?_
      rintro e w3 ⟨rfl, hb3⟩
      have HEND : Hid (Below w.heap.size w w3) := Lib.hid (HB2.out.trans (hb3.mono HB2.out.size))
      clear hb3 HIX
      go_wp2_with fail
      go_ret3
      unfold FetchSpec
      rw [HR.out]
      exact ⟨HEND.out, .inr (.inl ⟨rfl, HLT.out, rfl⟩)⟩
def sickN (S : St) (o z cr : Int) (md : ByteArray) (N : Nat) : List Nat := (List.range N).filter fun k => !fitsB cr md (readB (S.at_ k) S.off o z)
theorem sickN_succ (S : St) (o z cr : Int) (md : ByteArray) (k : Nat) : sickN S o z cr md (k + 1) = sickN S o z cr md k ++ (if fitsB cr md (readB (S.at_ k) S.off o z) = true then [] else [k]) := by
  unfold sickN
  rw [List.range_succ, List.filter_append]
  cases h : fitsB cr md (readB (S.at_ k) S.off o z) <;> simp [h]
theorem sickN_le (S : St) (o z cr : Int) (md : ByteArray) (k : Nat) : (sickN S o z cr md k).length ≤ k := by
  unfold sickN
  have := List.length_filter_le (fun k => !fitsB cr md (readB (S.at_ k) S.off o z)) (List.range k)
  simpa using this
def SickSpec (S : St) (o z cr : Int) (md : ByteArray) (N : Nat) (w : World) (e : Ending) (w' : World) : Prop :=
  Below w.heap.size w w' ∧ ((lookR S o z N ≠ 0 ∧ e = .returned (.tuple #[.slice none 0 0, .int .i64 (lookR S o z N)])) ∨
    (lookR S o z N = 0 ∧ ∃ A c, e = .returned (.tuple #[.slice A (sickN S o z cr md N).length c, .int .i64 0]) ∧ RdZ w' A ((sickN S o z cr md N).map fun k : Nat => (k : Int)) ∧ ∀ x, A = some x → w.heap.size ≤ x.block))
set_option maxRecDepth 100000 in
set_option maxHeartbeats 2000000 in
theorem sick_any {w0 w : World} {p G m N : Nat} {as_ : List Nat} {S : St} {F : Nat → Prop} (h : Mr w0 w p G as_ S m F) (hN : as_.length = N) (hN8 : N ≤ 8) (o z cr : Int) (md : ByteArray) (ho : -9223372036854775808 ≤ o ∧ o ≤ 9223372036854775807) (hz : -9223372036854775808 ≤ z ∧ z ≤ 9223372036854775807) :
    Calls Try.prog 48 #[ob m, .agg #[.int .i64 o, .int .i64 z, .int .i64 cr, .string md]] w fun e w' => SickSpec S o z cr md N w e w' := by
  have hbx : Below w.heap.size w (w.alloc (.cells #[.int .i64 o, .int .i64 z, .int .i64 cr, .string md] 28)) := (Below.refl _ _).alloc (Nat.le_refl _) _
  have HLOOK := Lib.hid (look_any (h.below hbx) hN hN8 o z cr md ho hz)
  have HLE := Lib.hid (conts_le h.lw.pw hN o z)
  have hbk := Blk.new w 28 #[.int .i64 o, .int .i64 z, .int .i64 cr, .string md]
  have HBK := Lib.hid hbk
  have HBX := Lib.hid hbx
  clear hbx h hN hbk
  go_enter Try.func48, Try.ntmps48
  go_wp2_with fail
  refine HLOOK.out.mono ?_
  rintro e w2 ⟨hb2, hres⟩
  have HB2 : Hid (Below w.heap.size w w2) := Lib.hid (HBX.out.trans (hb2.mono HBX.out.size))
  have HBK2 := Lib.hid (HBK.out.below_ hb2)
  obtain ⟨R, hR⟩ : ∃ R, lookR S o z N = R := ⟨_, rfl⟩
  have HR := Lib.hid hR
  rw [hR] at hres
  clear hR hb2 HBK HBX HLOOK
  rcases hres with ⟨hne, rfl⟩ | ⟨rfl, A, c, rfl, hrl⟩
  · have HNE := Lib.hid hne
    clear hne
    go_wp2_with fail
    go_loopw [8, 9, 10, 19] (fun s8 _ _ i wr => s8 = .slice none 0 0 ∧ i = .int .i64 0 ∧ Hid (wr = w2)) (fun _ _ _ i _ => 1)
    case atStart => exact ⟨rfl, rfl, Lib.hid rfl⟩
    case round =>
      obtain ⟨rfl, rfl, HW⟩ := hrel
      go_wp2_with fail
      go_ret2
      unfold SickSpec
      rw [HR.out, HW.out]
      exact ⟨HB2.out, .inl ⟨HNE.out, rfl⟩⟩
  · have HRL := Lib.hid hrl
    clear hrl
    go_wp2_with fail
    go_loopw [8, 9, 10, 19] (fun s8 _ _ i wr => ∃ (k : Nat) (A' : Option Addr) (n c' : Nat), s8 = .slice A' n c' ∧ i = .int .i64 (k : Int) ∧ k ≤ N ∧ n ≤ k ∧ Hid (Below w2.heap.size w2 wr ∧ ((sickN S o z cr md k).map fun k : Nat => (k : Int)).length = n ∧ OwnZ wr w2.heap.size A' c' ((sickN S o z cr md k).map fun k : Nat => (k : Int)))) (fun _ _ _ i _ => N - (RowKit.intOf i).toNat)
    case atStart => exact ⟨0, none, 0, 0, rfl, rfl, by omega, by omega, Lib.hid ⟨Below.refl _ _, rfl, OwnR.nil _ _ _ _⟩⟩
    case round =>
      obtain ⟨k, A', n, c', rfl, rfl, hk, hnk, HJ⟩ := hrel
      by_cases hlt : k < N
      · have hkn : (k : Int) < (N : Int) := by omega
        obtain ⟨ad, Ak, ck, rfl, c1, hrd, _⟩ := (HRL.out.below HJ.out.1) k (by rw [conts_len]; exact hlt)
        have hlen := HLE.out k hlt
        rw [conts_get _ _ _ hlt] at c1 hrd hlen
        have q := HBK2.out.below_ HJ.out.1
        have q0 := q.cell 0
        have q1 := q.cell 1
        have q2 := q.cell 2
        have q3 := q.cell 3
        simp at q0 q1 q2 q3
        obtain ⟨x, hx⟩ : ∃ x, readB (S.at_ k) S.off o z = x := ⟨_, rfl⟩
        have HX := Lib.hid hx
        rw [hx] at c1 hrd hlen
        obtain ⟨mm, hm2⟩ : ∃ m, x.length = m := ⟨_, rfl⟩
        rw [hm2] at c1 hlen
        have hcall := fits_any o z cr md Ak x mm ck wr hm2 (by omega) hrd
        clear hx hrd hm2 q
        cases hf : fitsB cr md x with
        | true =>
          rw [hf] at hcall
          have HF := Lib.hid hf
          have HCALL := Lib.hid hcall
          clear hf hcall
          go_wp2_with fail
          refine HCALL.out.mono ?_
          rintro e w3 ⟨rfl, hb3⟩
          have H3 : Hid (Below w2.heap.size w2 w3 ∧ ((sickN S o z cr md (k + 1)).map fun k : Nat => (k : Int)).length = n ∧ OwnZ w3 w2.heap.size A' c' ((sickN S o z cr md (k + 1)).map fun k : Nat => (k : Int))) := Lib.hid (by
            rw [sickN_succ, HX.out, if_pos HF.out, List.append_nil]
            exact ⟨HJ.out.1.trans (hb3.mono HJ.out.1.size), HJ.out.2.1, OwnR.below' HJ.out.2.2 hb3⟩)
          clear hb3 HCALL
          go_wp2_with fail
          exact ⟨⟨k + 1, A', n, c', rfl, int_eq (by omega), by omega, by omega, H3⟩, by simp [RowKit.intOf]; omega⟩
        | false =>
          rw [hf] at hcall
          have HF := Lib.hid hf
          have HCALL := Lib.hid hcall
          clear hf hcall
          go_wp2_with fail
          refine HCALL.out.mono ?_
          rintro e w3 ⟨rfl, hb3⟩
          have HB3 := Lib.hid (HJ.out.1.trans (hb3.mono HJ.out.1.size))
          have HOW := Lib.hid (OwnR.alloc (OwnR.below' HJ.out.2.2 hb3) (.cells #[.int .i64 (k : Int)] 3))
          have hs3 := HB3.out.size
          clear hb3 HCALL
          go_wp2_with (at_builtin; refine wpList_appZd (.inl rfl) (.tmp 28) (.tmp 30) rfl w2.heap.size A' n c' ((sickN S o z cr md k).map fun k : Nat => (k : Int)) rfl HJ.out.2.1.symm HOW.out (some ⟨w3.heap.size, 0, none⟩) 1 1 [(k : Int)] rfl rfl (rdz_lit w3 [(k : Int)] rfl) (by rw [HJ.out.2.1]; simp; omega) (by simp; omega) ?_; (intro A4 c4 w4 hown4 hg4 hat4))
          have hb4 : Below w2.heap.size w2 w4 := (HB3.out.alloc hs3 _).grown hg4 (by simp; omega) (fun x hx => (OwnR.lt HJ.out.2.2 x hx).1)
          refine ⟨⟨k + 1, A4, _, c4, rfl, int_eq (by omega), by omega, ?_, Lib.hid ⟨hb4, ?_, ?_⟩⟩, by simp [RowKit.intOf]; omega⟩
          · have h9 := sickN_le S o z cr md k
            simpa using h9
          · rw [sickN_succ, HX.out, if_neg (by rw [HF.out]; simp)]; simp
          · rw [sickN_succ, HX.out, if_neg (by rw [HF.out]; simp), List.map_append]; exact hown4
      · have hkn : k = N := by omega
        subst hkn
        go_wp2_with fail
        go_ret2
        unfold SickSpec
        rw [HR.out]
        have h1 := HJ.out.2.1
        rw [List.length_map] at h1
        refine ⟨HB2.out.trans (HJ.out.1.mono HB2.out.size), .inr ⟨rfl, A', c', by rw [h1]; rfl, OwnZ.rd HJ.out.2.2, fun x hx => ?_⟩⟩
        have h2 := (OwnR.lt HJ.out.2.2 x.block (by rw [hx]; rfl)).1
        have h3 := HB2.out.size
        omega
end Go.Proofs.Ytoompglghjpapaa
