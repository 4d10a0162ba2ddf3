/-
  Mirrors while the power is on: what Lay and Sync of equal disks leave; what is fetched.
-/
import Derived.Test.YtoompglghjpapaaMirK
namespace Go.Proofs.Ytoompglghjpapaa
open Go.RowKit Crc
set_option linter.unusedVariables false
set_option linter.unusedSimpArgs false

/-- n equal disks of one power that is on -/
def onN (n : Nat) (D : Dk) : St := ⟨List.replicate n D, false, -1⟩
theorem fresh5_on (n : Nat) : fresh5 n = onN n (Dk.fresh 5) := rfl
theorem pre_at (pre : List Dk) (D : Dk) (r : List Dk) : (⟨pre ++ D :: r, false, -1⟩ : St).at_ pre.length = D := by simp [St.at_, List.getD]
theorem pre_set (pre : List Dk) (D E : Dk) (r : List Dk) : (pre ++ D :: r).set pre.length E = (pre ++ [E]) ++ r := by simp [List.set_append_right]
theorem layG_pre (o : Nat) (b : List UInt8) (D : Dk) (h : o + b.length ≤ D.size) : ∀ (n : Nat) (pre : List Dk), layG ⟨pre ++ List.replicate n D, false, -1⟩ (o : Int) b n pre.length = (0, ⟨pre ++ List.replicate n (D.write o b), false, -1⟩)
  | 0, pre => rfl
  | n + 1, pre => by
    have hw := St.write_on (S := ⟨pre ++ D :: List.replicate n D, false, -1⟩) (k := pre.length) (o := o) (oi := (o : Int)) (b := b) rfl rfl rfl (by rw [pre_at]; exact h)
    rw [pre_at] at hw
    unfold layG
    rw [List.replicate_succ, hw, if_pos rfl]
    show layG ⟨(pre ++ D :: List.replicate n D).set pre.length (D.write o b), false, -1⟩ _ _ _ _ = _
    rw [pre_set]
    have := layG_pre o b D h n (pre ++ [D.write o b])
    rw [List.length_append] at this
    rw [show pre.length + 1 = pre.length + [D.write o b].length from rfl, this, List.replicate_succ, List.append_assoc]
    rfl
theorem layG_on {n o : Nat} {oi : Int} {b : List UInt8} {D : Dk} (ho : oi = (o : Int)) (h : o + b.length ≤ D.size) : layG (onN n D) oi b n 0 = (0, onN n (D.write o b)) := by
  subst ho
  exact layG_pre o b D h n []
theorem syncG_pre (D : Dk) : ∀ (n : Nat) (pre : List Dk), syncG ⟨pre ++ List.replicate n D, false, -1⟩ n pre.length = (0, ⟨pre ++ List.replicate n D.sync, false, -1⟩)
  | 0, pre => rfl
  | n + 1, pre => by
    have hw := St.sync_on (S := ⟨pre ++ D :: List.replicate n D, false, -1⟩) (k := pre.length) rfl rfl
    rw [pre_at] at hw
    unfold syncG
    rw [List.replicate_succ, hw, if_pos rfl]
    show syncG ⟨(pre ++ D :: List.replicate n D).set pre.length D.sync, false, -1⟩ _ _ = _
    rw [pre_set]
    have := syncG_pre D n (pre ++ [D.sync])
    rw [List.length_append] at this
    rw [show pre.length + 1 = pre.length + [D.sync].length from rfl, this, List.replicate_succ, List.append_assoc]
    rfl
theorem syncG_on (n : Nat) (D : Dk) : syncG (onN n D) n 0 = (0, onN n D.sync) := syncG_pre D n []
theorem crashD_at (picks : List Int) : ∀ (ds : List Dk) (a k : Nat), k < ds.length → ∃ a', (crashD picks a ds).getD k ⟨[], [], []⟩ = (ds.getD k ⟨[], [], []⟩).crash picks a'
  | [], a, k, h => by simp at h
  | D :: r, a, 0, _ => ⟨a, rfl⟩
  | D :: r, a, k + 1, h => by
    obtain ⟨a', e⟩ := crashD_at picks r (a + D.all) k (by simpa using h)
    exact ⟨a', by simpa [crashD] using e⟩
theorem crash_on {n k : Nat} {D : Dk} (picks : List Int) (hk : k < n) : ∃ a, ((onN n D).crash picks).at_ k = D.crash picks a := by
  obtain ⟨a, e⟩ := crashD_at picks (List.replicate n D) 0 k (by simpa using hk)
  refine ⟨a, ?_⟩
  show (crashD picks 0 (List.replicate n D)).getD k _ = _
  rw [e]
  congr 1
  simp [List.getD, hk]
/-- all disks tell b at o: it is fetched off the first, none is sick -/
theorem all_look {S : St} {o n N : Nat} {oi ni : Int} {b : List UInt8} (hoff : S.off = false) (ho : oi = (o : Int)) (hn : ni = (n : Int)) (hb : b.length = n) (hn1 : 1 ≤ n) (h : ∀ k, k < N → o + n ≤ (S.at_ k).size ∧ ((S.at_ k).rd.drop o).take n = b) :
    lookR S oi ni N = 0 ∧ ∀ k, k < N → readB (S.at_ k) S.off oi ni = b := by
  have hr : ∀ k, k < N → readE (S.at_ k) S.off oi ni = 0 ∧ readB (S.at_ k) S.off oi ni = b := fun k hk => by
    have := read_on (D := S.at_ k) (off := S.off) (o := o) (n := n) (oi := oi) (ni := ni) hoff ho hn (h k hk).1
    exact ⟨this.1, this.2.trans (h k hk).2⟩
  refine ⟨?_, fun k hk => (hr k hk).2⟩
  unfold lookR
  rw [if_neg (by omega)]
  exact lookE_none S oi ni N 0 fun j _ hj => (hr j (by omega)).1
theorem all_which {S : St} {oi ni : Int} {N : Nat} {b : List UInt8} (hN : 0 < N) (h : ∀ k, k < N → readB (S.at_ k) S.off oi ni = b) : whichN S oi ni (crcI b) (md5T b) N = 0 := by
  unfold whichN
  exact idx_hit (by rw [conts_len]; exact hN) (fun j hj => by omega) (by rw [conts_get _ _ _ hN, h 0 hN]; exact fits_self b)
theorem all_well {S : St} {oi ni : Int} {N : Nat} {b : List UInt8} (h : ∀ k, k < N → readB (S.at_ k) S.off oi ni = b) : sickN S oi ni (crcI b) (md5T b) N = [] := by
  unfold sickN
  rw [List.filter_eq_nil_iff]
  intro k hk
  rw [h k (List.mem_range.1 hk), fits_self]
  simp
/-- what was synced lasts, whatever was written behind it -/
theorem last_rd {T1 T2 : List UInt8} (picks : List Int) (a : Nat) (h1 : T1.length ≤ 256) (h2 : T2.length ≤ 300) :
    0 + T1.length ≤ (((((Dk.fresh 5).write 0 T1).sync).write 256 T2).crash picks a).size ∧ (((((((Dk.fresh 5).write 0 T1).sync).write 256 T2).crash picks a).rd.drop 0).take T1.length) = T1 := by
  have hF := fresh_size 5
  have hW := write_ok (fresh_ok 5) (off := 0) (b := T1) (by rw [hF]; omega)
  have hWs := write_size (Dk.fresh 5) (off := 0) (b := T1) (by rw [hF]; omega)
  have hY := sync_ok hW
  have hYs : (((Dk.fresh 5).write 0 T1).sync).size = 640 := by
    show ((Dk.fresh 5).write 0 T1).size = 640
    rw [hWs, hF]
  have hV := write_ok hY (off := 256) (b := T2) (by rw [hYs]; omega)
  have hnw : (((((Dk.fresh 5).write 0 T1).sync).write 256 T2)).nw.length = 5 := by simp [Dk.write, Dk.sync, Dk.fresh]
  have hcl := crashed_length hV picks a
  rw [hnw] at hcl
  refine ⟨by show _ ≤ (Dk.crashed _ picks a).length; rw [hcl]; omega, ?_⟩
  apply List.ext_getElem?
  intro i
  rw [List.drop_zero, List.getElem?_take]
  by_cases hi : i < T1.length
  · rw [if_pos hi]
    have hs : i / 128 < 2 := by omega
    have e1 : (Dk.crashed ((((Dk.fresh 5).write 0 T1).sync).write 256 T2) picks a)[i]? = (((((Dk.fresh 5).write 0 T1).sync).write 256 T2)).rd[i]? := by
      have hsec := sec_blend (n := 5) (c := fun s => (((((Dk.fresh 5).write 0 T1).sync).write 256 T2)).new s && !oddAt picks (a + (((((Dk.fresh 5).write 0 T1).sync).write 256 T2)).cnt s)) hV.la hV.rd (by rw [hnw]; omega) (s := i / 128) (by omega)
      have hnew : (((((Dk.fresh 5).write 0 T1).sync).write 256 T2)).new (i / 128) = false := by
        rw [write_new _ _ _ _ (by simp [Dk.sync, Dk.write, Dk.fresh]; omega), sync_new]
        simp [touch]
        omega
      simp only [hnew, Bool.false_and, if_neg Bool.false_ne_true] at hsec
      have h3 := congrArg (fun l : List UInt8 => l[i % 128]?) hsec
      simp only [sec_get _ _ _ (Nat.mod_lt i (by omega : 0 < 128)), Nat.div_add_mod] at h3
      unfold Dk.crashed
      rw [hnw]
      exact h3
    show (Dk.crashed _ picks a)[i]? = _
    rw [e1]
    show (putAt (((Dk.fresh 5).write 0 T1).sync).rd 256 T2)[i]? = _
    rw [putAt_get (by show _ ≤ (((Dk.fresh 5).write 0 T1).sync).size; rw [hYs]; omega), if_neg (by omega)]
    show (putAt (zeroB (128 * 5)) 0 T1)[i]? = _
    rw [putAt_get (by rw [zeroB_length]; omega), if_pos (by omega), Nat.sub_zero]
  · rw [if_neg hi, List.getElem?_eq_none (by omega)]
end Go.Proofs.Ytoompglghjpapaa
