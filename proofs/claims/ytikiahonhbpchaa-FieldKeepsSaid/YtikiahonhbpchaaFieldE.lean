/-
  Walks of package field: put of a number.
-/
import Derived.Test.YtikiahonhbpchaaFieldD
namespace Go.Proofs.Ytikiahonhbpchaa
open Go.RowKit Fld
set_option linter.unusedVariables false
set_option linter.unusedSimpArgs false

/-- the first bytes of a number of k bytes, the highest first -/
def hi (m k j : Nat) : List UInt8 := (List.range j).map fun t => UInt8.ofNat (m / 256 ^ (k - 1 - t))
theorem hi_zero (m k : Nat) : hi m k 0 = [] := rfl
theorem hi_succ (m k j : Nat) : hi m k (j + 1) = hi m k j ++ [UInt8.ofNat (m / 256 ^ (k - 1 - j))] := by simp [hi, List.range_succ]
theorem hi_big (m : Nat) : hi m (bytesN m) (bytesN m) = big m := by
  induction m using Nat.strongRecOn with
  | ind m ih =>
    unfold big
    rw [bytesN]
    split
    · next h => simp [hi]
    · next h =>
      have h1 := bytesN_pos (m / 256)
      rw [hi_succ, ← ih (m / 256) (by omega)]
      have e1 : hi m (bytesN (m / 256) + 1) (bytesN (m / 256)) = hi (m / 256) (bytesN (m / 256)) (bytesN (m / 256)) := by
        unfold hi
        apply List.map_congr_left
        intro t ht
        simp only [List.mem_range] at ht
        have e2 : bytesN (m / 256) + 1 - 1 - t = (bytesN (m / 256) - 1 - t) + 1 := by omega
        rw [e2, Nat.pow_succ, Nat.mul_comm, Nat.div_div_eq_div_mul]
      rw [e1]
      have e3 : bytesN (m / 256) + 1 - 1 - bytesN (m / 256) = 0 := by omega
      rw [e3]
      congr 2
      apply UInt8.toNat_inj.1
      rw [UInt8.toNat_ofNat', UInt8.toNat_ofNat']; omega

theorem slice_val {A : Option Addr} {n m c : Nat} (h : n = m) : Value.slice A n c = .slice A m c := by rw [h]
theorem hi_length (m k j : Nat) : (hi m k j).length = j := by simp [hi]
theorem byte_at (m t : Nat) : (m : Int) / 2 ^ (8 * t) % 256 = ((UInt8.ofNat (m / 256 ^ t)).toNat : Int) := by
  have e : (256 : Nat) ^ t = 2 ^ (8 * t) := by rw [Nat.pow_mul]
  have e2 : ((2 : Int) ^ (8 * t)) = ((2 ^ (8 * t) : Nat) : Int) := (Int.natCast_pow 2 (8 * t)).symm
  rw [UInt8.toNat_ofNat', e, e2, ← Int.natCast_ediv]
  generalize m / 2 ^ (8 * t) = z
  omega
theorem rd_new1 (w : World) (n : Nat) (v : Int) (h : v = ((UInt8.ofNat n).toNat : Int)) : RdB (w.alloc (.cells #[.int .u8 v] 5)) (some ⟨w.heap.size, 0, none⟩) [UInt8.ofNat n] := fun _ => by
  refine ⟨_, rfl, fun k hk => ?_⟩
  subst h
  exact cells_new w (bc [UInt8.ofNat n]) 5 k _ (bc_get _ k hk)
theorem rd_box1 (w : World) (o : Obj) (n : Nat) (v : Int) (h : v = ((UInt8.ofNat n).toNat : Int)) : RdB ((w.alloc o).alloc (.cells #[.int .u8 v] 5)) (some ⟨w.heap.size + 1, 0, none⟩) [UInt8.ofNat n] := by
  have := rd_new1 (w.alloc o) n v h
  have hsz : (w.alloc o).heap.size = w.heap.size + 1 := by simp
  rw [hsz] at this; exact this
theorem box_behind' {w w1 : World} {A : Option Addr} {base c : Nat} {l : List UInt8} {cs : Array Value} {o : Obj} (hown : OwnB w base A c l)
    (hg : ((w.alloc (.cells cs 30)).alloc o).grownBy w1 (blk A)) : Blk w1 w.heap.size 30 cs :=
  ((Blk.new w _ cs).alloc o).grown hg (fun h => by have := (hown.lt_ _ h.symm).2; omega)
set_option maxRecDepth 100000 in
set_option maxHeartbeats 1000000 in
theorem put_num (base : Nat) (A : Option Addr) (c : Nat) (l : List UInt8) (n : Int) (hn : -9223372036854775808 ≤ n ∧ n < 9223372036854775808) (s : List UInt8) (w : World) (hown : OwnB w base A c l) (hbase : base ≤ w.heap.size) (hlen : l.length + 50005 ≤ 140737488355328) :
    Calls Try.prog 23 #[.slice A l.length c, It.v ⟨1, n, s⟩] w fun e w' => PutSpec base A (l ++ encNum n) w e w' := by
  generalize hE : l ++ encNum n = E
  unfold It.v
  simp only
  have HN := Lib.hid hn
  have HO := Lib.hid hown
  clear hown
  by_cases h0 : 0 ≤ n ∧ n < 64
  · have hw0 : width n = 0 := by unfold width; rw [if_pos h0]
    go_enter Try.func23, Try.ntmps23
    go_wp2_with fail
    refine (width_any _ HN.out _).mono ?_
    rintro e w' ⟨rfl, rfl⟩
    rw [hw0]
    have hb0 : n = ((UInt8.ofNat n.toNat).toNat : Int) := by rw [UInt8.toNat_ofNat']; omega
    have HB0 := Lib.hid hb0
    clear hb0
    go_wp2_with (at_builtin; refine wpList_appRd (.inl rfl) (.tmp 53) (.tmp 57) rfl base A l.length c l rfl rfl (OwnR.alloc (OwnR.alloc HO.out _) _) (some ⟨w.heap.size + 1, 0, none⟩) 1 1 [UInt8.ofNat n.toNat] rfl rfl (rd_box1 w _ _ _ HB0.out) (by simp; omega) (by simp; omega) ?_; (intro A1 c1 w1 hown1 hg1 hat1))
    go_ret
    refine ⟨A1, c1, ?_, ?_, ?_⟩
    · rw [← hE]; exact slice_len (by unfold encNum; rw [if_pos h0]; simp)
    · rw [← hE]; unfold encNum; rw [if_pos h0]; exact hown1
    · exact ((((Below.refl _ _).alloc hbase _).alloc (by simp; omega) _)).grown hg1 (by simp; omega) (fun k hk => (HO.out.lt_ k hk).1)
  · have hw0 : width n = bytesN (mag n) := by unfold width; rw [if_neg h0]
    have hm := mag_lt hn
    have hx := i64_xor_sign n hn
    have h8 := bytesN_le8 (m := mag n) (by omega)
    have h1 := bytesN_pos (mag n)
    have HBIG := Lib.hid (hi_big (mag n))
    have hE' : l ++ (UInt8.ofNat (63 + bytesN (mag n) + (if n < 0 then 8 else 0)) :: big (mag n)) = E := by rw [← hE]; unfold encNum; rw [if_neg h0]
    have HE := Lib.hid hE'
    clear hE' hE
    have HX := Lib.hid hx
    clear hx
    by_cases hneg : n < 0
    · rw [if_pos hneg] at HE
      go_enter Try.func23, Try.ntmps23
      go_wp2_with fail
      refine (width_any _ HN.out _).mono ?_
      rintro e w' ⟨rfl, rfl⟩
      rw [hw0]
      clear hw0 h0
      generalize bytesN (mag n) = k at *
      have hk0 : ((k : Int) == 0) = false := by rw [beq_eq_false_iff_ne]; omega
      have HB1 := Lib.hid (show 64 + (k : Int) - 1 + 8 = ((UInt8.ofNat (63 + k + 8)).toNat : Int) by rw [UInt8.toNat_ofNat']; omega)
      have hx := HX.out
      go_wp2_with (at_builtin; go_loud (refine wpList_appRd (.inl rfl) (.tmp 67) (.tmp 70) rfl base A l.length c l rfl rfl (OwnR.alloc (OwnR.alloc HO.out _) _) (some ⟨w.heap.size + 1, 0, none⟩) 1 1 [UInt8.ofNat (63 + k + 8)] rfl rfl (rd_box1 w _ _ _ HB1.out) (by simp; omega) (by simp; omega) ?_; (intro A1 c1 w1 hown1 hg1 hat1; have cS := (box_behind' HO.out hg1).cell 1; simp at cS)))
      have HB := Lib.hid (((((Below.refl base w).alloc hbase _).alloc (by simp; omega) _)).grown hg1 (by simp; omega) (fun k hk => (HO.out.lt_ k hk).1))
      have HO1 := Lib.hid hown1
      clear hown1 hg1 hat1 HB1
      go_loopw [0, 9] (fun b i wr => ∃ (j : Nat) (A2 : Option Addr) (c2 : Nat), b = .slice A2 (l.length + 1 + j) c2 ∧ i = .int .i64 (8 * ((k : Int) - 1 - j)) ∧ j ≤ k ∧ Hid (OwnB wr base A2 c2 (l ++ [UInt8.ofNat (63 + k + 8)] ++ hi (mag n) k j)) ∧ Hid (Below base w wr)) (fun _ i _ => (intOf i + 8).toNat)
      case atStart => exact ⟨0, A1, c1, rfl, by simp, Nat.zero_le _, by rw [hi_zero, List.append_nil]; exact HO1, HB⟩
      case round =>
        obtain ⟨j, A2, c2, rfl, rfl, hj, HO2, HB2⟩ := hrel
        have hHL : (l ++ [UInt8.ofNat (63 + k + 8)] ++ hi (mag n) k j).length = l.length + 1 + j := by simp [hi_length]; omega
        have hHN : l ++ [UInt8.ofNat (63 + k + 8)] ++ hi (mag n) k (j + 1) = l ++ [UInt8.ofNat (63 + k + 8)] ++ hi (mag n) k j ++ [UInt8.ofNat (mag n / 256 ^ (k - 1 - j))] := by rw [hi_succ]; simp
        have HNX := Lib.hid hHN
        clear hHN
        by_cases hlt : j < k
        · have hge : 0 ≤ 8 * ((k : Int) - 1 - j) := by omega
          have HV := Lib.hid (byte_at (mag n) (k - 1 - j))
          have HBs := Lib.hid (Nat.le_trans hbase HB2.out.size)
          generalize l ++ [UInt8.ofNat (63 + k + 8)] ++ hi (mag n) k j = L at *
          have HL := Lib.hid hHL
          clear hHL
          go_wp2_with (at_builtin; refine wpList_appRd (.inl rfl) (.tmp 86) (.tmp 91) rfl base A2 (l.length + 1 + j) c2 L rfl HL.out.symm (OwnR.alloc HO2.out _) (some ⟨wr.heap.size, 0, none⟩) 1 1 [UInt8.ofNat (mag n / 256 ^ (k - 1 - j))] rfl rfl (rd_new1 wr _ _ HV.out) (by rw [HL.out]; simp; omega) (by have := HBs.out; simp; omega) ?_; (intro A3 c3 w3 hown3 hg3 hat3))
          have h3 := HL.out
          refine ⟨⟨j + 1, A3, c3, slice_val (by omega), int_eq (by omega), by omega, ?_, ?_⟩, ?_⟩
          · rw [HNX.out]; exact hown3
          · exact (HB2.out.alloc (HBs.out) _).grown hg3 (by have := HBs.out; simp; omega) (fun k hk => (OwnB.lt_ HO2.out k hk).1)
          · simp [intOf]; omega
        · have hjk : j = k := by omega
          subst hjk
          go_wp2_with fail
          go_ret
          refine ⟨A2, c2, ?_, ?_, HB2.out⟩
          · exact slice_len (by rw [← HE.out, ← HBIG.out]; simp [hi_length]; omega)
          · have h2 := HO2.out
            rw [HBIG.out] at h2
            rw [← HE.out]
            simpa using h2
    · rw [if_neg hneg, Nat.add_zero] at HE
      go_enter Try.func23, Try.ntmps23
      go_wp2_with fail
      refine (width_any _ HN.out _).mono ?_
      rintro e w' ⟨rfl, rfl⟩
      rw [hw0]
      clear hw0 h0
      generalize bytesN (mag n) = k at *
      have hk0 : ((k : Int) == 0) = false := by rw [beq_eq_false_iff_ne]; omega
      have HB1 := Lib.hid (show 64 + (k : Int) - 1 = ((UInt8.ofNat (63 + k)).toNat : Int) by rw [UInt8.toNat_ofNat']; omega)
      have hx := HX.out
      go_wp2_with (at_builtin; go_loud (refine wpList_appRd (.inl rfl) (.tmp 67) (.tmp 70) rfl base A l.length c l rfl rfl (OwnR.alloc (OwnR.alloc HO.out _) _) (some ⟨w.heap.size + 1, 0, none⟩) 1 1 [UInt8.ofNat (63 + k)] rfl rfl (rd_box1 w _ _ _ HB1.out) (by simp; omega) (by simp; omega) ?_; (intro A1 c1 w1 hown1 hg1 hat1; have cS := (box_behind' HO.out hg1).cell 1; simp at cS)))
      have HB := Lib.hid (((((Below.refl base w).alloc hbase _).alloc (by simp; omega) _)).grown hg1 (by simp; omega) (fun k hk => (HO.out.lt_ k hk).1))
      have HO1 := Lib.hid hown1
      clear hown1 hg1 hat1 HB1
      go_loopw [0, 9] (fun b i wr => ∃ (j : Nat) (A2 : Option Addr) (c2 : Nat), b = .slice A2 (l.length + 1 + j) c2 ∧ i = .int .i64 (8 * ((k : Int) - 1 - j)) ∧ j ≤ k ∧ Hid (OwnB wr base A2 c2 (l ++ [UInt8.ofNat (63 + k)] ++ hi (mag n) k j)) ∧ Hid (Below base w wr)) (fun _ i _ => (intOf i + 8).toNat)
      case atStart => exact ⟨0, A1, c1, rfl, by simp, Nat.zero_le _, by rw [hi_zero, List.append_nil]; exact HO1, HB⟩
      case round =>
        obtain ⟨j, A2, c2, rfl, rfl, hj, HO2, HB2⟩ := hrel
        have hHL : (l ++ [UInt8.ofNat (63 + k)] ++ hi (mag n) k j).length = l.length + 1 + j := by simp [hi_length]; omega
        have hHN : l ++ [UInt8.ofNat (63 + k)] ++ hi (mag n) k (j + 1) = l ++ [UInt8.ofNat (63 + k)] ++ hi (mag n) k j ++ [UInt8.ofNat (mag n / 256 ^ (k - 1 - j))] := by rw [hi_succ]; simp
        have HNX := Lib.hid hHN
        clear hHN
        by_cases hlt : j < k
        · have hge : 0 ≤ 8 * ((k : Int) - 1 - j) := by omega
          have HV := Lib.hid (byte_at (mag n) (k - 1 - j))
          have HBs := Lib.hid (Nat.le_trans hbase HB2.out.size)
          generalize l ++ [UInt8.ofNat (63 + k)] ++ hi (mag n) k j = L at *
          have HL := Lib.hid hHL
          clear hHL
          go_wp2_with (at_builtin; refine wpList_appRd (.inl rfl) (.tmp 86) (.tmp 91) rfl base A2 (l.length + 1 + j) c2 L rfl HL.out.symm (OwnR.alloc HO2.out _) (some ⟨wr.heap.size, 0, none⟩) 1 1 [UInt8.ofNat (mag n / 256 ^ (k - 1 - j))] rfl rfl (rd_new1 wr _ _ HV.out) (by rw [HL.out]; simp; omega) (by have := HBs.out; simp; omega) ?_; (intro A3 c3 w3 hown3 hg3 hat3))
          have h3 := HL.out
          refine ⟨⟨j + 1, A3, c3, slice_val (by omega), int_eq (by omega), by omega, ?_, ?_⟩, ?_⟩
          · rw [HNX.out]; exact hown3
          · exact (HB2.out.alloc (HBs.out) _).grown hg3 (by have := HBs.out; simp; omega) (fun k hk => (OwnB.lt_ HO2.out k hk).1)
          · simp [intOf]; omega
        · have hjk : j = k := by omega
          subst hjk
          go_wp2_with fail
          go_ret
          refine ⟨A2, c2, ?_, ?_, HB2.out⟩
          · exact slice_len (by rw [← HE.out, ← HBIG.out]; simp [hi_length]; omega)
          · have h2 := HO2.out
            rw [HBIG.out] at h2
            rw [← HE.out]
            simpa using h2
end Go.Proofs.Ytikiahonhbpchaa
