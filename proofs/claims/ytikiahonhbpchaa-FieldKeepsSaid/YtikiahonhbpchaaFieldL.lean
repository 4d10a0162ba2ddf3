/-
  Walks of the reference of package field: DocFirst, but for wide numbers.
-/
import Derived.Test.YtikiahonhbpchaaFieldK
namespace Go.Proofs.Ytikiahonhbpchaa
open Go.RowKit Fld
set_option linter.unusedVariables false
set_option linter.unusedSimpArgs false
attribute [local go_sem ↓] Go.wp_at_zero Go.wp_at_succ

theorem ext_str (S : ByteArray) (b : List UInt8) (h : S.data.toList = b) : S = ⟨b.toArray⟩ := by
  apply ByteArray.ext
  apply Array.toList_inj.1
  simpa using h
theorem size_of_list (S : ByteArray) (b : List UInt8) (h : S.data.toList = b) : S.size = b.length := by rw [← h, str_len]
theorem extract_str (S : ByteArray) (b : List UInt8) (h : S.data.toList = b) (i j : Nat) : S.extract i j = ⟨((b.drop i).take (j - i)).toArray⟩ := by
  apply ByteArray.ext
  apply Array.toList_inj.1
  rw [ByteArray.data_extract]
  subst h
  simp [Array.toList_extract, List.extract]
/-- 's[i:j]' *-/
theorem slice_str (W : World) (S : ByteArray) (b : List UInt8) (h : S.data.toList = b) (i j : Int) (a k : Nat) (hi : i = a) (hj : j = a + k) (hb : a + k ≤ b.length) :
    (Instr.slice 9 (.string S) (some (.int .i64 i)) (some (.int .i64 j)) none).run Try.prog W = .ok (.string ⟨((b.drop a).take k).toArray⟩) W := by
  have hsz := size_of_list S b h
  subst hi hj
  rw [run_slice_string W 9 S .i64 .i64 _ _ Try.underlying9 (by omega) (by omega) (by omega), extract_str S b h]
  have e1 : ((a : Int)).toNat = a := by omega
  have e2 : ((a : Int) + (k : Int)).toNat = a + k := by omega
  rw [e1, e2]
  have e3 : a + k - a = k := by omega
  rw [e3]
def DFirst (S : ByteArray) (w : World) (e : Ending) (w' : World) : Prop := e = .returned (tri (firstP S.data.toList)) ∧ Below w.heap.size w w'
set_option maxRecDepth 100000 in
set_option maxHeartbeats 1000000 in
theorem docfirst_low (S : ByteArray) (w : World) (hm : S.size ≤ maxLen) (x : UInt8) (t : List UInt8) (hS : S.data.toList = x :: t) (hx : x.toNat < 64) :
    Calls Try.prog 14 #[.string S] w fun e w' => DFirst S w e w' := by
  unfold DFirst
  have hR : firstP S.data.toList = (⟨1, x.toNat, []⟩, 1, 0) := by rw [hS, firstP_low hx]
  rw [hR, tri_agg]
  have hsz : S.size = t.length + 1 := size_of_list S _ hS
  have hlen : 0 < S.size := by omega
  have h0 : S[0]'hlen = x := by
    rw [← str_get S 0 hlen, hS]; rfl
  have he : S.toList.isEmpty = false := by
    rw [ext_str S _ hS, ByteArray.toList_mk]; rfl
  clear hR hS hsz
  unfold maxLen at hm
  go_enter Try.func14, Try.ntmps14
  go_wp2_with fail
  go_returns
  exact ⟨rfl, ((Below.refl _ _).alloc (Nat.le_refl _) _).alloc (by simp) _⟩
set_option maxRecDepth 100000 in
set_option maxHeartbeats 1000000 in
theorem docfirst_nil (S : ByteArray) (w : World) (hS : S.data.toList = []) :
    Calls Try.prog 14 #[.string S] w fun e w' => DFirst S w e w' := by
  unfold DFirst
  rw [hS]
  have hE : S = ⟨#[]⟩ := ext_str S [] hS
  subst hE
  have hR : tri (firstP []) = .tuple #[.agg #[.int .i64 0, .int .i64 0, .string ⟨#[]⟩], .int .i64 0, .int .i64 10] := rfl
  rw [hR]
  go_enter Try.func14, Try.ntmps14
  go_wp2_with fail
  go_returns
  exact ⟨rfl, ((Below.refl _ _).alloc (Nat.le_refl _) _).alloc (by simp) _⟩
set_option maxRecDepth 100000 in
set_option maxHeartbeats 1000000 in
theorem docfirst_run (S : ByteArray) (w : World) (hm : S.size ≤ maxLen) (x : UInt8) (t : List UInt8) (hS : S.data.toList = x :: t) (hx1 : 128 ≤ x.toNat) (hx2 : x.toNat < 255) :
    Calls Try.prog 14 #[.string S] w fun e w' => DFirst S w e w' := by
  unfold DFirst
  have hR : firstP S.data.toList = runP (x :: t) 1 (x.toNat - 128) := by rw [hS, firstP_run (by omega) hx2]
  rw [hR]
  have hsz : S.size = t.length + 1 := size_of_list S _ hS
  have hlen : 0 < S.size := by omega
  have h0 : S[0]'hlen = x := by
    rw [← str_get S 0 hlen, hS]; rfl
  have he : S.toList.isEmpty = false := by
    rw [ext_str S _ hS, ByteArray.toList_mk]; rfl
  unfold runP
  have hl : (x :: t).length = t.length + 1 := rfl
  by_cases hc : (x :: t).length < 1 + (x.toNat - 128)
  · rw [if_pos hc, tri_none]
    have hc' : (S.size : Int) < 1 + (x.toNat : Int) - 128 := by omega
    unfold maxLen at hm
    clear hR hS hl hc hsz
    go_enter Try.func14, Try.ntmps14
    go_wp2_with fail
    go_returns
    exact ⟨rfl, ((Below.refl _ _).alloc (Nat.le_refl _) _).alloc (by simp) _⟩
  · rw [if_neg hc, tri_agg]
    have hc' : ¬ (S.size : Int) < 1 + (x.toNat : Int) - 128 := by omega
    have hex := fun W => slice_str W S _ hS 1 (1 + (x.toNat : Int) - 128) 1 (x.toNat - 128) rfl (by omega) (by omega)
    generalize (⟨(((x :: t).drop 1).take (x.toNat - 128)).toArray⟩ : ByteArray) = T at *
    unfold maxLen at hm
    clear hR hS hl hc hsz
    go_enter Try.func14, Try.ntmps14
    go_wp2_with fail
    go_returns
    have hn : 1 + (x.toNat : Int) - 128 = 1 + ((x.toNat - 128 : Nat) : Int) := by omega
    refine ⟨?_, ((Below.refl _ _).alloc (Nat.le_refl _) _).alloc (by simp) _⟩
    rw [hn, ← one_add_int]
theorem plus_four (a b c d : Nat) (ha : a < 256) (hb : b < 256) (hc : c < 256) (hd : d < 256) :
    (a : Int) * 16777216 + (b : Int) * 65536 + (c : Int) * 256 + (d : Int) = ((((a * 256 + b) * 256 + c) * 256 + d : Nat) : Int) := by omega
theorem val_four_str (S : ByteArray) (b : List UInt8) (hS : S.data.toList = b) (h1 : 1 < S.size) (h2 : 2 < S.size) (h3 : 3 < S.size) (h4 : 4 < S.size) :
    ((S[1]'h1).toNat : Int) * (16777216 : Int) + ((S[2]'h2).toNat : Int) * (65536 : Int) + ((S[3]'h3).toNat : Int) * (256 : Int) + ((S[4]'h4).toNat : Int) = ((val ((b.drop 1).take 4) : Nat) : Int) := by
  have hsz := size_of_list S b hS
  rw [val_four_at b (by omega), ← hS, str_get S 1 h1, str_get S 2 h2, str_get S 3 h3, str_get S 4 h4]
  exact plus_four _ _ _ _ (S[1]'h1).toNat_lt (S[2]'h2).toNat_lt (S[3]'h3).toNat_lt (S[4]'h4).toNat_lt
theorem below2_set3 (w : World) (n : Nat) (o o' : Obj) (u v t : Value) :
    Below w.heap.size w ((((((w.alloc o).alloc o').drewN n).setCell ⟨w.heap.size, 0, none⟩ u).setCell ⟨w.heap.size, 1, none⟩ v).setCell ⟨w.heap.size, 2, none⟩ t) :=
  (((below_drewN (((Below.refl _ _).alloc (Nat.le_refl _) _).alloc (by simp) _) _).setCell (Nat.le_refl _) _).setCell (Nat.le_refl _) _).setCell (Nat.le_refl _) _
theorem five_add (n : Nat) : ((5 + n : Nat) : Int) = 5 + (n : Int) := by omega
set_option maxRecDepth 100000 in
set_option maxHeartbeats 1000000 in
theorem docfirst_long (S : ByteArray) (w : World) (hm : S.size ≤ maxLen) (x : UInt8) (t : List UInt8) (hS : S.data.toList = x :: t) (hx : ¬ x.toNat < 255) :
    Calls Try.prog 14 #[.string S] w fun e w' => DFirst S w e w' := by
  unfold DFirst
  have hsz : S.size = t.length + 1 := size_of_list S _ hS
  have hlen : 0 < S.size := by omega
  have h0 : S[0]'hlen = x := by
    rw [← str_get S 0 hlen, hS]; rfl
  have he : S.toList.isEmpty = false := by
    rw [ext_str S _ hS, ByteArray.toList_mk]; rfl
  have hl : (x :: t).length = t.length + 1 := rfl
  have hxl := x.toNat_lt
  have hx' : x.toNat = 255 := by omega
  by_cases h5 : S.size < 5
  · have hR : firstP S.data.toList = (none_, 0, 10) := by rw [hS, firstP_tail hx (by omega)]
    rw [hR, tri_none]
    unfold maxLen at hm
    clear hR hS hl hsz
    go_enter Try.func14, Try.ntmps14
    go_wp2_with fail
    go_returns
    exact ⟨rfl, ((Below.refl _ _).alloc (Nat.le_refl _) _).alloc (by simp) _⟩
  · have h1 : 1 < S.size := by omega
    have h2 : 2 < S.size := by omega
    have h3 : 3 < S.size := by omega
    have h4 : 4 < S.size := by omega
    have hv := val_four_str S _ hS h1 h2 h3 h4
    have HSX := Lib.hid hS
    have RF := Lib.hid (fun n hn h2 => firstP_form (x := x) (t := t) hx (by omega) (n := n) hn h2)
    have RG := Lib.hid (fun n hn h2 => firstP_long (x := x) (t := t) hx (by omega) (n := n) hn h2)
    rw [hS]
    generalize hn : val (((x :: t).drop 1).take 4) = n at *
    have RF' := Lib.hid (RF.out n rfl)
    have RG' := Lib.hid (RG.out n rfl)
    clear hn RF RG
    have b1 : ((S[1]'h1).toNat : Int) < 256 := by have := (S[1]'h1).toNat_lt; omega
    have b2 : ((S[2]'h2).toNat : Int) < 256 := by have := (S[2]'h2).toNat_lt; omega
    have b3 : ((S[3]'h3).toNat : Int) < 256 := by have := (S[3]'h3).toNat_lt; omega
    have b4 : ((S[4]'h4).toNat : Int) < 256 := by have := (S[4]'h4).toNat_lt; omega
    unfold maxLen at hm
    have hszl : (x :: t).length = S.size := by omega
    have HL := Lib.hid hszl
    clear hS hl hsz hszl
    go_enter Try.func14, Try.ntmps14
    go_wp2_with fail
    have i1 : (1 : Int) < (S.size : Int) := by omega
    have i2 : (2 : Int) < (S.size : Int) := by omega
    have i3 : (3 : Int) < (S.size : Int) := by omega
    have i4 : (4 : Int) < (S.size : Int) := by omega
    have u1 := wrap_i64_of (((S[1]'h1).toNat : Int) * 16777216) (by omega)
    have u2 := wrap_i64_of (((S[2]'h2).toNat : Int) * 65536) (by omega)
    have u3 := wrap_i64_of (((S[3]'h3).toNat : Int) * 256) (by omega)
    go_quiet (fail)
    clear hv
    by_cases g1 : n < 127
    · have hR := RF'.out (.inl g1)
      clear RF' RG'
      go_wp2_with fail
      go_returns
      exact ⟨by first | (rw [hR, tri_none]) | (rw [tri_none]), below2_set3 _ _ _ _ _ _ _⟩
    · by_cases g2 : 50000 < n
      · have hR := RF'.out (.inr g2)
        clear RF' RG'
        go_wp2_with fail
        go_returns
        exact ⟨by first | (rw [hR, tri_none]) | (rw [tri_none]), below2_set3 _ _ _ _ _ _ _⟩
      · have hR := RG'.out (by omega)
        clear RF' RG'
        unfold runP at hR
        by_cases g3 : (x :: t).length < 5 + n
        · rw [if_pos g3] at hR
          have g3' : (S.size : Int) < 5 + (n : Int) := by have := HL.out; omega
          clear g3
          go_wp2_with fail
          go_returns
          exact ⟨by first | (rw [hR, tri_none]) | (rw [tri_none]), below2_set3 _ _ _ _ _ _ _⟩
        · rw [if_neg g3] at hR
          have g3' : ¬ (S.size : Int) < 5 + (n : Int) := by have := HL.out; omega
          have hex := fun W => slice_str W S _ HSX.out 5 (5 + (n : Int)) 5 n rfl rfl (by omega)
          have HRR : Hid (_ = _) := Lib.hid hR
          clear g3 hR
          generalize ((x :: t).drop 5).take n = T at *
          go_wp2_with fail
          go_returns
          exact ⟨by rw [HRR.out, tri_agg, five_add], below2_set3 _ _ _ _ _ _ _⟩
end Go.Proofs.Ytikiahonhbpchaa
