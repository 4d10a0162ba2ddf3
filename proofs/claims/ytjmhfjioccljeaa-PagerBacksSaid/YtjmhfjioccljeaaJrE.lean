/-
  Walk: package journal's split.
-/
import Derived.Test.YtjmhfjioccljeaaJrD
import Derived.Test.YtjmhfjioccljeaaTxt
namespace Go.Proofs.Ytjmhfjioccljeaa
open Go.RowKit
set_option linter.unusedVariables false
set_option linter.unusedSimpArgs false
attribute [local go_sem ↓] Go.wp_at_zero Go.wp_at_succ

def SplitSpec (l : List (List UInt8)) (n : Nat) (w : World) (e : Ending) (w' : World) : Prop :=
  ∃ A c, e = .returned (.tuple #[.slice A l.length c, .int .i64 (n : Int)]) ∧ OwnW w' w.heap.size A c l ∧ Below w.heap.size w w'
theorem RdB.nil_ (w : World) (A : Option Addr) : RdB w A [] := fun h => by simp at h
theorem splitG_stop {f : Nat} {s : List UInt8} (h : ¬ (4 ≤ s.length ∧ rdN (s.take 4) ≤ s.length - 4)) : splitG f s = ([], 0) := by
  cases f with
  | zero => rfl
  | succ f => unfold splitG; rw [if_neg h]
theorem splitG_go {f : Nat} {s : List UInt8} (hf : s.length ≤ f) (h : 4 ≤ s.length ∧ rdN (s.take 4) ≤ s.length - 4) :
    splitG f s = ((s.drop 4).take (rdN (s.take 4)) :: (splitG (f - 1) (s.drop (4 + rdN (s.take 4)))).1, 4 + rdN (s.take 4) + (splitG (f - 1) (s.drop (4 + rdN (s.take 4)))).2) := by
  obtain ⟨m, rfl⟩ : ∃ m, f = m + 1 := ⟨f - 1, by omega⟩
  conv => lhs; unfold splitG
  rw [if_pos h]; rfl
set_option maxRecDepth 100000 in
set_option maxHeartbeats 2000000 in
theorem jsplit_any (w : World) (g c : Nat) (s : List UInt8) (len : Nat) (hl : s.length = len) (hc : len ≤ c) (hlen : len ≤ 1000000) (hA : RdB w (some ⟨g, 0, none⟩) s) :
    Calls Try.prog 74 #[.slice (some ⟨g, 0, none⟩) len c] w fun e w' => SplitSpec (splitL s).1 (splitL s).2 w e w' := by
  have HA := Lib.hid hA
  have HL := Lib.hid hl
  clear hA hl
  go_enter Try.func74, Try.ntmps74
  go_wp2_with fail
  go_loopw [4, 5] (fun v i wr => ∃ (at_ : Nat) (A1 : Option Addr) (n1 c1 : Nat) (r : List (List UInt8)) (f : Nat), at_ ≤ len ∧ v = .slice A1 n1 c1 ∧ i = .int .i64 (at_ : Int) ∧ n1 ≤ at_ ∧ len - at_ ≤ f ∧
    Hid (n1 = r.length ∧ OwnW wr w.heap.size A1 c1 r ∧ Below w.heap.size w wr ∧ (splitL s).1 = r ++ (splitG f (s.drop at_)).1 ∧ (splitL s).2 = at_ + (splitG f (s.drop at_)).2)) (fun _ i _ => len - (RowKit.intOf i).toNat)
  case atStart => exact ⟨0, none, 0, 0, [], len, by omega, rfl, rfl, by omega, by omega, Lib.hid ⟨rfl, OwnW.nil _ _, Below.refl _ _, by rw [← HL.out]; rfl, by rw [← HL.out, Nat.zero_add]; rfl⟩⟩
  case round =>
    obtain ⟨at_, A1, n1, c1, r, f, hat, rfl, rfl, hn1, hf, HJ⟩ := hrel
    have hFIN : ¬ (4 ≤ len - at_ ∧ rdN ((s.drop at_).take 4) ≤ len - at_ - 4) → SplitSpec (splitL s).1 (splitL s).2 w (.returned (.tuple #[.slice A1 n1 c1, .int .i64 (at_ : Int)])) wr := fun h => by
      obtain ⟨h1, h2, h3, h4, h5⟩ := HJ.out
      rw [splitG_stop (by rw [List.length_drop, HL.out]; exact h)] at h4 h5
      rw [h4, h5, List.append_nil, Nat.add_zero, h1]
      exact ⟨A1, c1, rfl, h2, h3⟩
    have HFIN := Lib.hid hFIN
    have hsz : w.heap.size ≤ wr.heap.size := HJ.out.2.2.1.size
    clear hFIN
    by_cases h4 : 4 ≤ len - at_
    · have hrd := rd_at (k := at_) (HA.out.below HJ.out.2.2.1)
      have HRD := Lib.hid hrd
      have hne : ¬ (c = at_) := by omega
      have hb4 : (at_ : Int) + 4 ≤ (c : Int) := by omega
      clear hrd
      obtain ⟨X, hX⟩ : ∃ X, rdN ((s.drop at_).take 4) = X := ⟨_, rfl⟩
      have hX32 : X < 4294967296 := by
        rw [← hX]
        have := rdN_lt ((s.drop at_).take 4)
        have h5 : ((s.drop at_).take 4).length = 4 := by rw [List.length_take, List.length_drop, HL.out]; omega
        rw [h5] at this
        exact this
      have HJR : Hid (Calls Try.prog 104 #[.slice (some ⟨g, at_, none⟩) 4 (c - at_)] wr fun e w' => e = .returned (.int .u64 (X : Nat)) ∧ wr = w') := Lib.hid (by
        have := jread_any wr (some ⟨g, at_, none⟩) (c - at_) ((s.drop at_).take 4) 4 (by rw [List.length_take, List.length_drop, HL.out]; omega) (by omega) (HRD.out.take 4)
        rw [hX] at this; exact this)
      have HX := Lib.hid hX
      clear hX
      go_wp2_with fail
      refine HJR.out.mono ?_
      rintro e w1 ⟨rfl, rfl⟩
      by_cases hx : X ≤ len - at_ - 4
      · have hxi : (X : Int) ≤ (len : Int) - (at_ : Int) - 4 := by omega
        obtain ⟨T, hT⟩ : ∃ T, ((s.drop at_).drop 4).take X = T := ⟨_, rfl⟩
        have hTl : T.length = X := by rw [← hT, List.length_take, List.length_drop, List.length_drop, HL.out]; omega
        have HGO : Hid ((splitL s).1 = (r ++ [T]) ++ (splitG (f - 1) (s.drop (at_ + (4 + X)))).1 ∧ (splitL s).2 = at_ + (4 + X) + (splitG (f - 1) (s.drop (at_ + (4 + X)))).2) := Lib.hid (by
          obtain ⟨h1, h2, h3, h4, h5⟩ := HJ.out
          rw [splitG_go (by rw [List.length_drop, HL.out]; exact hf) (by rw [List.length_drop, HL.out, HX.out]; omega), HX.out, hT, List.drop_drop] at h4 h5
          rw [h4, h5]
          exact ⟨by simp, by simp only []; omega⟩)
        have HN := Lib.hid HJ.out.1
        by_cases hX0 : X = 0
        · subst hX0
          have hT0 : T = [] := List.eq_nil_of_length_eq_zero hTl
          subst hT0
          have hcv : ∀ (W : World) (B : Option Addr) (c' : Nat), (convert 37 9 (.slice B 0 c')).run Try.prog W = .ok (.string (bs [])) W := fun W B c' => run_str c' (RdB.nil_ W B) rfl
          clear hT hTl hx hxi
          go_wp2_with (at_builtin; go_must (refine wpList_appW (.inl rfl) (.tmp 30) (.tmp 38) rfl w.heap.size A1 n1 c1 r rfl HN.out (OwnR.alloc HJ.out.2.1 _) (some ⟨wr.heap.size, 0, none⟩) 1 1 [[]] rfl rfl (rdw_one _ _ _ rfl) (by rw [← HN.out]; simp; omega) (by simp; omega) ?_); (intro A2 c2 w2 hown2 hg2 hat2))
          all_goals
            have hs2 := hg2.size
            refine ⟨⟨at_ + (4 + 0), A2, n1 + 1, c2, r ++ [[]], f - 1, by omega, rfl, int_eq (by omega), by omega, by omega, Lib.hid ⟨by rw [List.length_append, ← HN.out]; rfl, hown2, (HJ.out.2.2.1.alloc hsz _).grown hg2 (by simp; omega) (fun k hk => (OwnR.lt HJ.out.2.1 k hk).1), HGO.out.1, HGO.out.2⟩⟩, by simp [RowKit.intOf]; omega⟩
        · have hce : ¬ (c = at_ + (4 + X) - X) := by omega
          have hrt : RdB wr (some ⟨g, at_ + (4 + X) - X, none⟩) T := by
            have h1 := (HRD.out.tail 4).take X
            rw [add_pos _ _ (by omega)] at h1
            rw [hT] at h1
            rw [show at_ + (4 + X) - X = at_ + 4 by omega]
            exact h1
          have hcv := run_str (n := at_ + (4 + X) - (at_ + (4 + X) - X)) (c - (at_ + (4 + X) - X)) hrt (by rw [hTl]; omega)
          have hcv : (convert 37 9 (.slice (some ⟨g, at_ + (4 + X) - X, none⟩) (at_ + (4 + X) - (at_ + (4 + X) - X)) (c - (at_ + (4 + X) - X)))).run Try.prog wr = .ok (.string (bs T)) wr := hcv
          clear hT hTl hrt hx
          go_wp2_with (at_builtin; go_must (refine wpList_appW (.inl rfl) (.tmp 30) (.tmp 38) rfl w.heap.size A1 n1 c1 r rfl HN.out (OwnR.alloc HJ.out.2.1 _) (some ⟨wr.heap.size, 0, none⟩) 1 1 [T] rfl rfl (rdw_one _ _ _ rfl) (by rw [← HN.out]; simp; omega) (by simp; omega) ?_); (intro A2 c2 w2 hown2 hg2 hat2))
          have hs2 := hg2.size
          refine ⟨⟨at_ + (4 + X), A2, n1 + 1, c2, r ++ [T], f - 1, by omega, rfl, int_eq (by omega), by omega, by omega, Lib.hid ⟨by rw [List.length_append, ← HN.out]; rfl, hown2, (HJ.out.2.2.1.alloc hsz _).grown hg2 (by simp; omega) (fun k hk => (OwnR.lt HJ.out.2.1 k hk).1), HGO.out.1, HGO.out.2⟩⟩, by simp [RowKit.intOf]; omega⟩
      · have hxi : (len : Int) - (at_ : Int) - 4 < (X : Int) := by omega
        go_wp2_with fail
        go_returns
        exact HFIN.out (fun h => hx (by rw [HX.out] at h; exact h.2))
    · have h4i : (len : Int) - (at_ : Int) < 4 := by omega
      go_wp2_with fail
      go_returns
      exact HFIN.out (fun h => h4 h.1)
end Go.Proofs.Ytjmhfjioccljeaa
