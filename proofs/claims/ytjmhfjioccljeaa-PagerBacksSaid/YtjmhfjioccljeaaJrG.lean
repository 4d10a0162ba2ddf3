/-
  Plain: a disk's size stays; a journal stays in form.
-/
import Derived.Test.YtjmhfjioccljeaaJn
namespace Go.Proofs.Ytjmhfjioccljeaa
set_option linter.unusedVariables false
set_option linter.unusedSimpArgs false

theorem at_set (S : St) (k : Nat) (D : Dk) (o : Bool) (a : Int) : (⟨S.ds.set k D, o, a⟩ : St).at_ k = if k < S.ds.length then D else S.at_ k := by
  by_cases h : k < S.ds.length
  · rw [if_pos h, at_set_same h]
  · rw [if_neg h]; simp [St.at_, List.getD, h]
theorem St.write_size (S : St) (k : Nat) (o : Int) (b : List UInt8) : ((S.write k o b).2.at_ k).size = (S.at_ k).size := by
  unfold St.write
  rw [at_set]
  by_cases h : k < S.ds.length
  · rw [if_pos h]
    unfold writeD
    split
    · rename_i h2
      by_cases hin : inB (S.at_ k).size o b.length = true
      · simp only [inB, decide_eq_true_eq] at hin
        exact Go.Proofs.Ytjmhfjioccljeaa.write_size _ (by omega)
      · unfold writeE at h2
        rw [if_neg hin] at h2
        exact absurd h2 (by decide)
    · rfl
  · rw [if_neg h]
theorem St.sync_size (S : St) (k : Nat) : ((S.sync k).2.at_ k).size = (S.at_ k).size := by
  unfold St.sync
  rw [at_set]
  by_cases h : k < S.ds.length
  · rw [if_pos h]
    unfold syncD
    split <;> rfl
  · rw [if_neg h]
theorem blankF_size (S : St) (k a m f g : Nat) : ((blankF S k a m f g).2.at_ k).size = (S.at_ k).size := by
  unfold blankF
  repeat' split
  all_goals simp only [St.sync_size, St.write_size]
theorem commitL_size : ∀ (n i : Nat) (S : St) (k a g : Nat) (s : List UInt8), ((commitL S k a g s n i).2.at_ k).size = (S.at_ k).size
  | 0, _, _, _, _, _, _ => rfl
  | n + 1, i, S, k, a, g, s => by
    unfold commitL
    split
    · rw [commitL_size n, St.write_size]
    · rw [St.write_size]
theorem commitF_size (J : Js) (S : St) (k : Nat) : ((commitF J S k).2.at_ k).size = (S.at_ k).size := by
  unfold commitF commitW
  split
  · rw [commitL_size]
  · rw [St.sync_size, commitL_size]
theorem switchF_size (J : Js) (S : St) (k : Nat) : ((switchF J S k).2.at_ k).size = (S.at_ k).size := by
  unfold switchF
  split
  · rfl
  · rw [blankF_size]
theorem trimF_size (S : St) (k f m g : Nat) (st raw : List UInt8) : ((trimF S k f m g st raw).2.at_ k).size = (S.at_ k).size := by
  unfold trimF
  repeat' split
  all_goals simp only [St.sync_size, St.write_size]
theorem openF_size (S : St) (k f m : Nat) : ((openF S k f m).2.at_ k).size = (S.at_ k).size := by
  unfold openF
  repeat' split
  all_goals simp only [trimF_size]
theorem Js.Ok.app {J : Js} {n : Nat} (h : J.Ok n) (r : List UInt8) : (J.app r).Ok n := by
  unfold Js.app
  split
  · rename_i h2
    have hr : (r.length : Int) ≤ J.room := by
      unfold Js.appE at h2
      split at h2
      · exact absurd h2 (by decide)
      · split at h2
        · exact absurd h2 (by decide)
        · omega
    unfold Js.room at hr
    have := h.fill; have := h.few
    refine ⟨h.sec2, h.secM, h.place, h.size, h.gen1, h.genM, ?_, ?_, fun e => by simp at e⟩
    · simp only [List.length_append, beN_length]; omega
    · simp only [List.length_append, beN_length]; omega
  · exact h
theorem Js.Ok.cancel {J : Js} {n : Nat} (h : J.Ok n) : J.cancel.Ok n := ⟨h.sec2, h.secM, h.place, h.size, h.gen1, h.genM, by have := h.fill; simp [Js.cancel]; omega, by simp [Js.cancel], fun _ => rfl⟩
theorem Js.Ok.commit {J : Js} {n : Nat} (h : J.Ok n) (S : St) (k : Nat) : (J.commit S k).Ok n := by
  unfold Js.commit
  split
  · exact ⟨h.sec2, h.secM, h.place, h.size, h.gen1, h.genM, by have := h.fill; simp only [List.length_append, List.length_nil]; omega, by simp, fun _ => rfl⟩
  · exact h
theorem Js.Ok.switch {J : Js} {n : Nat} (h : J.Ok n) (S : St) (k : Nat) (hg : J.gen + 1 ≤ 8796093022208) : (J.switch S k).Ok n := by
  unfold Js.switch
  split
  · exact ⟨h.sec2, h.secM, h.place, h.size, by simp, hg, by have := h.fill; simp only [List.length_nil]; omega, h.few, h.some_⟩
  · exact h
theorem trimW_len {m g : Nat} {st : List UInt8} (hm1 : 1 ≤ m) (hl : st.length ≤ 119 * m) : (trimW m g st).length = (m - st.length / 119) * 128 := by
  unfold trimW
  split
  · rename_i h
    have h1 := secL_length g (st.length / 119) st
    rw [List.length_append, zeroB_length]; omega
  · rw [zeroB_length]
end Go.Proofs.Ytjmhfjioccljeaa
