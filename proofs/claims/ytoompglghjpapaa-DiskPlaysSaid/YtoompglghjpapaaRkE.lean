/-
  Walks of the reference's disks: Unsynced.
-/
import Derived.Test.YtoompglghjpapaaRkD
import Derived.Test.YtoompglghjpapaaZApp
namespace Go.Proofs.Ytoompglghjpapaa
open Go.RowKit
set_option linter.unusedVariables false
set_option linter.unusedSimpArgs false
attribute [local go_sem ↓] Go.wp_at_zero Go.wp_at_succ

/-- the first s sectors' numbers -/
def unsZ (D : Dk) (s : Nat) : List Int := (D.unsTo s).map fun s : Nat => (s : Int)
theorem unsZ_succ (D : Dk) (s : Nat) : unsZ D (s + 1) = unsZ D s ++ (if D.new s then [(s : Int)] else []) := by
  unfold unsZ
  rw [unsTo_succ, List.map_append]
  split <;> rfl
theorem unsZ_length (D : Dk) (s : Nat) : (unsZ D s).length ≤ s := by
  unfold unsZ
  rw [List.length_map]
  unfold Dk.unsTo
  exact Nat.le_trans (List.length_filter_le _ _) (by simp)
set_option maxRecDepth 100000 in
theorem runs_at {p d nb : Nat} {D : Dk} (w : World) (h : RkAt w p d D nb) :
    Calls Try.prog 46 #[ob d] w fun e w' => UnsSpec D w e w' := by
  have hlim := h.lim
  have HH := Lib.hid h
  clear h
  obtain ⟨n, hn⟩ : ∃ n, D.nw.length = n := ⟨_, rfl⟩
  have HN : Hid (D.nw.length = n) := Lib.hid hn
  rw [hn] at hlim
  clear hn
  go_enter Try.func46, Try.ntmps46
  go_wp2_with fail
  go_loopw [3, 4] (fun v i wr => ∃ (s : Nat) (A : Option Addr) (L c : Nat), i = .int .i64 (s : Int) ∧ v = .slice A L c ∧ s ≤ n ∧ Hid (L = (unsZ D s).length ∧ OwnZ wr w.heap.size A c (unsZ D s) ∧ Below w.heap.size w wr)) (fun _ i _ => n - (RowKit.intOf i).toNat)
  case atStart => exact ⟨0, none, 0, 0, rfl, rfl, by omega, Lib.hid ⟨rfl, OwnR.nil _ _ _ _, Below.refl _ _⟩⟩
  case round =>
    obtain ⟨s, A, L, c, rfl, rfl, hs, HO⟩ := hrel
    have HW : Hid (RkAt wr p d D nb) := Lib.hid (HH.out.keep (Same.of_below HO.out.2.2 HH.out.lt))
    have c3 := HW.out.self.cell 3
    simp at c3
    rw [HN.out] at c3
    by_cases hlt : s < n
    · have ct := HW.out.bits.cell s
      rw [boolsL_get _ _ (by rw [HN.out]; exact hlt)] at ct
      have HNEW : Hid (D.nw.getD s false = D.new s) := Lib.hid rfl
      rw [HNEW.out] at ct
      cases hnew : D.new s
      · rw [hnew] at ct
        have HS : Hid (unsZ D (s + 1) = unsZ D s) := Lib.hid (by rw [unsZ_succ, hnew]; simp)
        go_wp2_with fail
        exact ⟨⟨s + 1, A, L, c, int_eq (by omega), rfl, by omega, Lib.hid (by rw [HS.out]; exact HO.out)⟩, by simp [RowKit.intOf]; omega⟩
      · rw [hnew] at ct
        have HS : Hid (unsZ D (s + 1) = unsZ D s ++ [(s : Int)]) := Lib.hid (by rw [unsZ_succ, hnew]; simp)
        have hll : (unsZ D s).length ≤ s := unsZ_length D s
        go_wp2_with (at_builtin; refine wpList_appZd (.inl rfl) (.tmp 21) (.tmp 23) rfl w.heap.size A L c (unsZ D s) rfl HO.out.1 (OwnR.alloc HO.out.2.1 _) (some ⟨wr.heap.size, 0, none⟩) 1 1 [(s : Int)] rfl rfl (rdz_lit wr _ rfl) (by show (unsZ D s).length + 1 ≤ _; omega) (by have := HO.out.2.2.size; simp; omega) ?_; (intro A1 c1 w1 hown1 hg1 hat1))
        refine ⟨⟨s + 1, A1, _, c1, int_eq (by omega), rfl, by omega, Lib.hid ⟨by rw [HS.out]; simp, by rw [HS.out]; exact hown1, ?_⟩⟩, by simp [RowKit.intOf]; omega⟩
        have := HO.out.2.2.size
        exact (HO.out.2.2.alloc this _).grown hg1 (by simp; omega) (fun k hk => (OwnR.lt HO.out.2.1 k hk).1)
    · go_wp2_with fail
      go_ret
      obtain rfl : s = n := by omega
      obtain ⟨h1, h2, h3⟩ := HO.out
      have e : unsZ D s = D.uns.map fun s : Nat => (s : Int) := by unfold unsZ Dk.unsTo Dk.uns; rw [HN.out]
      rw [e] at h1 h2
      rw [List.length_map] at h1
      subst h1
      refine ⟨A, c, rfl, ?_, h3⟩
      unfold OwnZ at h2
      rwa [List.length_map] at h2
end Go.Proofs.Ytoompglghjpapaa
