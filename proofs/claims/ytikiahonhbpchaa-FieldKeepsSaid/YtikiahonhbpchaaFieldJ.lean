/-
  Walks of the reference of package field: Item.
-/
import Derived.Test.YtikiahonhbpchaaFieldI
namespace Go.Proofs.Ytikiahonhbpchaa
open Go.RowKit Fld
set_option linter.unusedVariables false
set_option linter.unusedSimpArgs false

/-- an item's bytes, where there is no error -/
def itemB (i : It) : List UInt8 := if check i = 0 then enc i else []
/-- '(text, error)' -/
def twoS (b : List UInt8) (e : Int) : Value := .tuple #[.string ⟨b.toArray⟩, .int .i64 e]
theorem twoS_def (b : List UInt8) (e : Int) : twoS b e = .tuple #[.string ⟨b.toArray⟩, .int .i64 e] := rfl
attribute [local go_sem ↓] Go.wp_at_zero Go.wp_at_succ
theorem str_cells {W : World} {g : Nat} {l : List UInt8} {n : Nat} (h : ∀ j u, (bc l)[j]? = some u → W.cell? ((⟨g, 0, none⟩ : Addr).add j) = some u) (hn : n = l.length) :
    (convert 22 9 (.slice (some ⟨g, 0, none⟩) n n)).run Try.prog W = .ok (.string ⟨l.toArray⟩) W := by
  subst hn
  exact run_str _ (fun _ => ⟨_, rfl, fun k hk => h k _ (bc_get l k hk)⟩) rfl
theorem str_five (w : World) (o : Obj) (n : Nat) (h : n ≤ 50000) :
    (convert 22 9 (.slice (some ⟨w.heap.size + 1, 0, none⟩) 5 5)).run Try.prog ((w.alloc o).alloc (.cells #[.int .u8 255, .int .u8 ((n : Int) / 16777216), .int .u8 ((n : Int) / 65536), .int .u8 ((n : Int) / 256), .int .u8 ((n : Int) % 256)] 5)) =
      .ok (.string ⟨(255 :: four n).toArray⟩) ((w.alloc o).alloc (.cells #[.int .u8 255, .int .u8 ((n : Int) / 16777216), .int .u8 ((n : Int) / 65536), .int .u8 ((n : Int) / 256), .int .u8 ((n : Int) % 256)] 5)) := by
  have h1 : ((n : Int) / 16777216) = ((UInt8.ofNat (n / 16777216)).toNat : Int) := by rw [UInt8.toNat_ofNat']; omega
  have h2 : ((n : Int) / 65536) = ((UInt8.ofNat (n / 65536)).toNat : Int) := by rw [UInt8.toNat_ofNat']; omega
  have h3 : ((n : Int) / 256) = ((UInt8.ofNat (n / 256)).toNat : Int) := by rw [UInt8.toNat_ofNat']; omega
  have h4 : ((n : Int) % 256) = ((UInt8.ofNat n).toNat : Int) := by rw [UInt8.toNat_ofNat']; omega
  rw [h1, h2, h3, h4]
  have hsz : (w.alloc o).heap.size = w.heap.size + 1 := by simp
  refine str_cells (l := 255 :: four n) (fun j u hu => ?_) rfl
  have := cells_new (w.alloc o) (bc (255 :: four n)) 5 j u hu
  rw [hsz] at this
  exact this
set_option maxRecDepth 100000 in
set_option maxHeartbeats 1000000 in
theorem item_num (n : Int) (hr : -9223372036854775808 ≤ n ∧ n < 9223372036854775808) (w : World) :
    Calls Try.prog 18 #[It.v ⟨1, n, []⟩] w fun e w' => e = .returned (twoS (encNum n) 0) ∧ Below w.heap.size w w' := by
  generalize hR : twoS (encNum n) 0 = R
  unfold It.v
  simp only
  by_cases h0 : 0 ≤ n ∧ n < 64
  · have hE : encNum n = [UInt8.ofNat n.toNat] := by unfold encNum; rw [if_pos h0]
    rw [hE, twoS_def] at hR
    have hs := fun (W : World) (g : Nat) (h : W.cell? ⟨g, 0, none⟩ = some (.int .u8 n)) => str_cell (W := W) (g := g) (n := n.toNat) h (by rw [UInt8.toNat_ofNat']; omega)
    generalize (⟨[UInt8.ofNat n.toNat].toArray⟩ : ByteArray) = T at *
    go_enter Try.func18, Try.ntmps18
    go_wp2_with fail
    go_ret2
    refine ⟨?_, ?_⟩
    · rw [← hR]; rfl
    · exact ((Below.refl _ _).alloc (Nat.le_refl _) _).alloc (by simp) _
  · have hE : encNum n = UInt8.ofNat (63 + bytesN (mag n) + (if n < 0 then 8 else 0)) :: big (mag n) := by unfold encNum; rw [if_neg h0]
    have hm := mag_lt hr
    have h8 := bytesN_le8 (m := mag n) (by omega)
    have h1 := bytesN_pos (mag n)
    have hbg := big_length (mag n)
    have hbs : (⟨(big (mag n)).toArray⟩ : ByteArray).size = bytesN (mag n) := by rw [str_size, big_length]
    have BIG := Lib.hid (big_any (mag n) (by omega))
    rw [twoS_def, hE] at hR
    by_cases hneg : n < 0
    · have hmag : ((mag n : Nat) : Int) = -(n + 1) := by unfold mag; rw [if_pos hneg]; omega
      rw [if_pos hneg] at hR
      have hTU := str_append [UInt8.ofNat (63 + bytesN (mag n) + 8)] (big (mag n))
      rw [List.singleton_append] at hTU
      rw [← hTU] at hR
      rw [hmag] at BIG
      have hv : (64 + 8 + ((bytesN (mag n) : Nat) : Int) - 1) = ((UInt8.ofNat (63 + bytesN (mag n) + 8)).toNat : Int) := by rw [UInt8.toNat_ofNat']; omega
      have hs := fun (W : World) (g : Nat) (h : W.cell? ⟨g, 0, none⟩ = some (.int .u8 (64 + 8 + ((bytesN (mag n) : Nat) : Int) - 1))) => str_cell (W := W) (g := g) h hv
      have hT : (⟨[UInt8.ofNat (63 + bytesN (mag n) + 8)].toArray⟩ : ByteArray).size = 1 := str_size _
      clear hv hmag hE hbg hTU
      generalize (⟨(big (mag n)).toArray⟩ : ByteArray) = U at *
      generalize (⟨[UInt8.ofNat (63 + bytesN (mag n) + 8)].toArray⟩ : ByteArray) = T at *
      generalize bytesN (mag n) = k at *
      have hTU : T.size + U.size ≤ 9223372036854775807 := by omega
      clear hT hm h0
      go_enter Try.func18, Try.ntmps18
      go_wp2_with fail
      refine (BIG.out _).mono ?_
      rintro e w1 ⟨rfl, hb1⟩
      have HB := Lib.hid ((boxIt_below w _ _ _).trans (hb1.mono (by simp)))
      clear hb1
      go_wp2_with fail
      go_ret2
      refine ⟨?_, ?_⟩
      · rw [← hR]; rfl
      · exact HB.out.alloc HB.out.size _
    · have hmag : ((mag n : Nat) : Int) = n := by unfold mag; rw [if_neg hneg]; omega
      rw [if_neg hneg, Nat.add_zero] at hR
      have hTU := str_append [UInt8.ofNat (63 + bytesN (mag n))] (big (mag n))
      rw [List.singleton_append] at hTU
      rw [← hTU] at hR
      rw [hmag] at BIG
      have hv : (64 + ((bytesN (mag n) : Nat) : Int) - 1) = ((UInt8.ofNat (63 + bytesN (mag n))).toNat : Int) := by rw [UInt8.toNat_ofNat']; omega
      have hs := fun (W : World) (g : Nat) (h : W.cell? ⟨g, 0, none⟩ = some (.int .u8 (64 + ((bytesN (mag n) : Nat) : Int) - 1))) => str_cell (W := W) (g := g) h hv
      have hT : (⟨[UInt8.ofNat (63 + bytesN (mag n))].toArray⟩ : ByteArray).size = 1 := str_size _
      clear hv hmag hE hbg hTU
      generalize (⟨(big (mag n)).toArray⟩ : ByteArray) = U at *
      generalize (⟨[UInt8.ofNat (63 + bytesN (mag n))].toArray⟩ : ByteArray) = T at *
      generalize bytesN (mag n) = k at *
      have hTU : T.size + U.size ≤ 9223372036854775807 := by omega
      have hge : 64 ≤ n := by omega
      clear hT hm h0
      go_enter Try.func18, Try.ntmps18
      go_wp2_with fail
      refine (BIG.out _).mono ?_
      rintro e w1 ⟨rfl, hb1⟩
      have HB := Lib.hid ((boxIt_below w _ _ _).trans (hb1.mono (by simp)))
      clear hb1
      go_wp2_with fail
      go_ret2
      refine ⟨?_, ?_⟩
      · rw [← hR]; rfl
      · exact HB.out.alloc HB.out.size _
set_option maxRecDepth 100000 in
set_option maxHeartbeats 1000000 in
theorem item_text (s : List UInt8) (hl : s.length ≤ 50000) (w : World) :
    Calls Try.prog 18 #[It.v ⟨2, 0, s⟩] w fun e w' => e = .returned (twoS (encStr s) 0) ∧ Below w.heap.size w w' := by
  generalize hR : twoS (encStr s) 0 = R
  have hsz := str_size s
  unfold It.v
  simp only
  by_cases h0 : s.length < 127
  · have hE : encStr s = UInt8.ofNat (128 + s.length) :: s := by unfold encStr; rw [if_pos h0]
    rw [hE, twoS_def] at hR
    have hTU := str_append [UInt8.ofNat (128 + s.length)] s
    rw [List.singleton_append] at hTU
    rw [← hTU] at hR
    have hv : (128 + (s.length : Int)) = ((UInt8.ofNat (128 + s.length)).toNat : Int) := by rw [UInt8.toNat_ofNat']; omega
    have hs := fun (W : World) (g : Nat) (h : W.cell? ⟨g, 0, none⟩ = some (.int .u8 (128 + (s.length : Int)))) => str_cell (W := W) (g := g) h hv
    have hT : (⟨[UInt8.ofNat (128 + s.length)].toArray⟩ : ByteArray).size = 1 := str_size _
    clear hv hE hTU
    generalize (⟨s.toArray⟩ : ByteArray) = U at *
    generalize (⟨[UInt8.ofNat (128 + s.length)].toArray⟩ : ByteArray) = T at *
    have hTU : T.size + U.size ≤ 9223372036854775807 := by omega
    clear hT
    go_enter Try.func18, Try.ntmps18
    go_wp2_with fail
    go_ret2
    refine ⟨?_, ?_⟩
    · rw [← hR]; rfl
    · exact ((Below.refl _ _).alloc (Nat.le_refl _) _).alloc (by simp) _
  · have hE : encStr s = 255 :: four s.length ++ s := by unfold encStr; rw [if_neg h0]
    rw [hE, twoS_def] at hR
    have hTU := str_append (255 :: four s.length) s
    rw [← hTU] at hR
    have hs := str_five w (.cells #[.int .i64 2, .int .i64 0, .string ⟨s.toArray⟩] 30) s.length (by omega)
    have hT : (⟨(255 :: four s.length).toArray⟩ : ByteArray).size = 5 := str_size _
    clear hE hTU
    generalize (⟨s.toArray⟩ : ByteArray) = U at *
    generalize (⟨(255 :: four s.length).toArray⟩ : ByteArray) = T at *
    have hTU : T.size + U.size ≤ 9223372036854775807 := by omega
    clear hT
    go_enter Try.func18, Try.ntmps18
    go_wp2_with fail
    go_ret2
    refine ⟨?_, ?_⟩
    · rw [← hR]; rfl
    · exact ((Below.refl _ _).alloc (Nat.le_refl _) _).alloc (by simp) _
set_option maxRecDepth 100000 in
set_option maxHeartbeats 1000000 in
theorem item_big (n : Int) (s : List UInt8) (hl : 50000 < s.length) (hm : s.length ≤ maxLen) (w : World) :
    Calls Try.prog 18 #[It.v ⟨2, n, s⟩] w fun e w' => e = .returned (twoS [] 14) ∧ Below w.heap.size w w' := by
  have hsz := str_size s
  unfold maxLen at hm
  unfold It.v
  simp only
  go_enter Try.func18, Try.ntmps18
  go_wp2_with fail
  go_ret2
  exact ⟨rfl, (Below.refl _ _).alloc (Nat.le_refl _) _⟩
set_option maxRecDepth 100000 in
set_option maxHeartbeats 1000000 in
theorem item_form (i : It) (hm : i.str.length ≤ maxLen) (h2 : ¬ (i.kind = 2 ∧ 50000 < i.str.length)) (h1 : ¬ ((i.kind = 1 ∧ i.str = []) ∨ (i.kind = 2 ∧ i.num = 0))) (w : World) :
    Calls Try.prog 18 #[It.v i] w fun e w' => e = .returned (twoS [] 2) ∧ Below w.heap.size w w' := by
  obtain ⟨k, n, s⟩ := i
  simp only at hm h1 h2
  have hsz := str_size s
  unfold maxLen at hm
  unfold It.v
  simp only
  by_cases hk : k = 2
  · subst hk
    have hn' : ((n : Int) == 0) = false := by rw [beq_eq_false_iff_ne]; intro h; exact h1 (.inr ⟨rfl, h⟩)
    have hl : s.length ≤ 50000 := by
      rcases Nat.lt_or_ge 50000 s.length with h | h
      · exact (h2 ⟨rfl, h⟩).elim
      · exact h
    clear h1 h2
    go_enter Try.func18, Try.ntmps18
    go_wp2_with fail
    go_ret2
    exact ⟨rfl, (Below.refl _ _).alloc (Nat.le_refl _) _⟩
  · have hk2 : ((k : Int) == 2) = false := by simpa using hk
    by_cases hk1 : k = 1
    · subst hk1
      cases s with
      | nil => exact (h1 (.inl ⟨rfl, rfl⟩)).elim
      | cons x t =>
        have he : ((⟨(x :: t).toArray⟩ : ByteArray)).toList.isEmpty = false := by rw [ByteArray.toList_mk]; rfl
        generalize (⟨(x :: t).toArray⟩ : ByteArray) = S at *
        clear h1 h2
        go_enter Try.func18, Try.ntmps18
        go_wp2_with fail
        go_ret2
        exact ⟨rfl, (Below.refl _ _).alloc (Nat.le_refl _) _⟩
    · have hk1' : ((k : Int) == 1) = false := by simpa using hk1
      clear h1 h2
      go_enter Try.func18, Try.ntmps18
      go_wp2_with fail
      go_ret2
      exact ⟨rfl, (Below.refl _ _).alloc (Nat.le_refl _) _⟩
theorem item_any (i : It) (hm : i.str.length ≤ maxLen) (hr : Ranged i) (w : World) :
    Calls Try.prog 18 #[It.v i] w fun e w' => e = .returned (twoS (itemB i) (check i)) ∧ Below w.heap.size w w' := by
  by_cases h2 : i.kind = 2 ∧ 50000 < i.str.length
  · have hc : check i = 14 := by unfold check; rw [if_pos h2]
    have hb : itemB i = [] := by unfold itemB; rw [hc]; rfl
    rw [hb, hc]
    obtain ⟨k, n, s⟩ := i
    simp only at h2 hm
    obtain ⟨rfl, h2⟩ := h2
    exact item_big n s h2 hm w
  · by_cases h1 : (i.kind = 1 ∧ i.str = []) ∨ (i.kind = 2 ∧ i.num = 0)
    · have hc : check i = 0 := by unfold check; rw [if_neg h2, if_pos h1]
      have hb : itemB i = enc i := by unfold itemB; rw [if_pos hc]
      rw [hb, hc]
      obtain ⟨k, n, s⟩ := i
      simp only at h1 h2 hm hr
      rcases h1 with ⟨rfl, rfl⟩ | ⟨rfl, rfl⟩
      · rw [enc_number rfl]
        exact item_num n hr w
      · have he : enc ⟨2, 0, s⟩ = encStr s := by unfold enc; rw [if_pos rfl]
        rw [he]
        exact item_text s (by omega) w
    · have hc : check i = 2 := by unfold check; rw [if_neg h2, if_neg h1]
      have hb : itemB i = [] := by unfold itemB; rw [hc]; rfl
      rw [hb, hc]
      exact item_form i hm h2 h1 w
end Go.Proofs.Ytikiahonhbpchaa
