/-
  L4A: PgQ Law4A
-/
import Derived.Test.YtjmhfjioccljeaaPE
/-
  PagerOpens: the walk.
-/
namespace Go.Proofs.Ytjmhfjioccljeaa
open Go.RowKit
set_option linter.unusedVariables false
set_option linter.unusedSimpArgs false
attribute [local go_sem ↓] Go.wp_at_zero Go.wp_at_succ

set_option maxRecDepth 100000 in
set_option maxHeartbeats 1000000 in
theorem rright_any (l n : Int) (m : Nat) (z : Int) (hz : z = ((128 * m : Nat) : Int)) (w : World) : Calls Try.prog 55 #[.int .i64 l, .int .i64 n, .int .i64 z] w fun e w' => e = .returned (.bool (pcheckB (128 * m) l n)) ∧ w = w' := by
  obtain ⟨R, hR⟩ : ∃ R, pcheckB (128 * m) l n = R := ⟨_, rfl⟩
  rw [hR]
  have HR := Lib.hid hR
  have HZ := Lib.hid hz
  have e6 : (z.tmod 128 == 0) = true := by rw [hz, Int.tmod_eq_emod_of_nonneg (by omega), beq_iff_eq]; omega
  have e7 : (z % 128 == 0) = true := by rw [hz, beq_iff_eq]; omega
  clear hR hz
  go_enter Try.func55, Try.ntmps55
  by_cases h1 : 4 ≤ l
  · have e1 : decide (4 ≤ l) = true := decide_eq_true h1
    by_cases h2 : l ≤ 2000
    · have e2 : decide (l ≤ 2000) = true := decide_eq_true h2
      by_cases h3 : 1 ≤ n
      · have e3 : decide (1 ≤ n) = true := decide_eq_true h3
        by_cases h4 : n ≤ 4000
        · have e4 : decide (n ≤ 4000) = true := decide_eq_true h4
          have b1 : -9223372036854775808 ≤ 256 * (l + n) ∧ 256 * (l + n) ≤ 9223372036854775807 := by omega
          have b2 : -9223372036854775808 ≤ l + n ∧ l + n ≤ 9223372036854775807 := by omega
          have i1 : IntKind.i64.wrap (l + n) = l + n := IntWalk.i64_in _ b2
          have i2 : IntKind.i64.wrap (256 * (l + n)) = 256 * (l + n) := IntWalk.i64_in _ b1
          have hx : R = decide (256 * (l + n) ≤ z) := by
            rw [← HR.out, HZ.out]; unfold pcheckB rightB; rw [e1, e2, e3, e4]; rfl
          obtain ⟨V, hV⟩ : ∃ V, 256 * (l + n) = V := ⟨_, rfl⟩
          rw [hV] at hx i2
          have HX := Lib.hid hx
          clear hx
          by_cases h5 : V ≤ z
          · have e5 : decide (V ≤ z) = true := decide_eq_true h5
            go_wp2_with fail
            go_ret
            exact ⟨ret_bool (by rw [HX.out, e5]), rfl⟩
          · have e5 : decide (V ≤ z) = false := decide_eq_false h5
            go_wp2_with fail
            go_ret
            exact ⟨ret_bool (by rw [HX.out, e5]), rfl⟩
        · have e4 : decide (n ≤ 4000) = false := decide_eq_false h4
          go_wp2_with fail
          go_ret
          exact ⟨ret_bool (by rw [← HR.out]; unfold pcheckB rightB; rw [e4]; simp), rfl⟩
      · have e3 : decide (1 ≤ n) = false := decide_eq_false h3
        go_wp2_with fail
        go_ret
        exact ⟨ret_bool (by rw [← HR.out]; unfold pcheckB rightB; rw [e3]; simp), rfl⟩
    · have e2 : decide (l ≤ 2000) = false := decide_eq_false h2
      go_wp2_with fail
      go_ret
      exact ⟨ret_bool (by rw [← HR.out]; unfold pcheckB rightB; rw [e2]; simp), rfl⟩
  · have e1 : decide (4 ≤ l) = false := decide_eq_false h1
    go_wp2_with fail
    go_ret
    exact ⟨ret_bool (by rw [← HR.out]; unfold pcheckB rightB; rw [e1]; simp), rfl⟩
theorem rdN_zero {l : List UInt8} (h : ∀ x ∈ l, x = 0) : rdN l = 0 := by
  have key : ∀ (l : List UInt8), (∀ x ∈ l, x = 0) → l.foldl (fun a x => a * 256 + x.toNat) 0 = 0 := by
    intro l
    induction l with
    | nil => intro _; rfl
    | cons y r ih =>
      intro h
      rw [List.foldl_cons, h y (List.mem_cons_self ..)]
      exact ih fun x hx => h x (List.mem_cons_of_mem _ hx)
  exact key l h
theorem load_zeros {b : List UInt8} (h : ∀ x ∈ b, x = 0) (s k : Nat) : loadL b s k = (0, []) := by
  have hst : stampN b = 0 := rdN_zero fun x hx => h x (List.mem_of_mem_take hx)
  unfold loadL usedB
  rw [hst]
  simp
theorem open_fresh (m L : Nat) : openF (freshS m) 0 0 L = (2, freshS m) := by
  have hz : ∀ k, ∀ x ∈ areaL (freshS m) 0 0 L k, x = 0 := fun k x hx => by
    have h1 := List.mem_of_mem_drop (List.mem_of_mem_take hx)
    have h2 : x ∈ zeroB (128 * m) := h1
    exact (List.mem_replicate.1 h2).2
  have hp : (pickF (freshS m) 0 0 L).1 = 0 := by
    unfold pickF
    rw [load_zeros (hz 1), load_zeros (hz 0)]
    simp
  unfold openF
  rw [if_neg (by simp [freshS]), if_pos hp]
set_option maxRecDepth 100000 in
set_option maxHeartbeats 4000000 in
theorem open_form {w : World} {p d m L N : Nat} {F : Nat → Prop} (h : PwS w p [d] (freshS m) F) (hlay : Lay m L N) (hL : L ≤ 2000) :
    Calls Try.prog 51 #[ob d, cfg L N] w fun e w' => e = .returned (.tuple #[.pointer none, .int .i64 2]) ∧ ∃ F', PwS w' p [d] (freshS m) F' ∧ Step F F' w w' := by
  have hsz : ((freshS m).at_ 0).size = 128 * m := fresh_size m
  have hin := hlay.in_
  have hl4 := hlay.l4
  have hn1 := hlay.n1
  have hb0 : Below w.heap.size w (w.alloc (.cells #[.int .i64 (L : Int), .int .i64 (N : Int)] 89)) := (Below.refl _ _).alloc (Nat.le_refl _) _
  obtain ⟨w0, hw0⟩ : ∃ w0, w.alloc (.cells #[.int .i64 (L : Int), .int .i64 (N : Int)] 89) = w0 := ⟨_, rfl⟩
  have e0 : w0.cell? ⟨w.heap.size, 0, none⟩ = some (.int .i64 (L : Int)) := by rw [← hw0]; exact cells_new w #[.int .i64 (L : Int), .int .i64 (N : Int)].toList _ 0 _ rfl
  have e1 : w0.cell? ⟨w.heap.size, 1, none⟩ = some (.int .i64 (N : Int)) := by rw [← hw0]; exact cells_new w #[.int .i64 (L : Int), .int .i64 (N : Int)].toList _ 1 _ rfl
  have hch := pcheck_any (h.below hb0) (k := 0) rfl (L : Int) (N : Int)
  rw [hsz, pcheck_ok hlay hL] at hch
  rw [hw0] at hb0 hch
  have hck : checkB ((freshS m).at_ 0).size ((0 : Nat) : Int) (L : Int) = true := by
    rw [hsz]
    unfold checkB
    simp only [Bool.and_eq_true, decide_eq_true_eq]
    omega
  have HJO : Hid (∀ W, Below w.heap.size w W → Calls Try.prog 17 #[ob d, .int .i64 0, .int .i64 (L : Int)] W fun e w' => OpenSpec p [d] (freshS m) 0 d 0 L F (2, freshS m) W e w') := Lib.hid fun W hb => by
    have := jopen_any (h.below hb) (k := 0) rfl 0 L hck
    rw [open_fresh] at this
    exact this
  have HCH := Lib.hid hch
  have HB0 := Lib.hid hb0
  have HE := Lib.hid (And.intro e0 e1)
  clear hch hck hb0 h hsz
  go_enter Try.func51, Try.ntmps51
  have hok : okE true = 0 := rfl
  go_wp2_with fail
  refine HCH.out.mono ?_
  rintro e w1 ⟨rfl, hb1⟩
  have HBW : Hid (Below w.heap.size w w1) := Lib.hid (HB0.out.trans (hb1.mono HB0.out.size))
  have e10 := below_cell hb1 HE.out.1
  have e11 := below_cell hb1 HE.out.2
  clear hb1 hw0 HCH e0 e1
  go_wp2_with fail
  refine (HJO.out w1 HBW.out).mono ?_
  rintro e w2 hs
  rcases hs with ⟨a, rfl, F2, hp2, hst2⟩ | ⟨a, _⟩
  · have HX := Lib.hid (And.intro hp2 hst2)
    clear hp2 hst2 a
    go_wp2_with fail
    go_ret2
    exact ⟨rfl, F2, HX.out.1, (Step.of_below HBW.out F).trans HX.out.2⟩
  · exact absurd (show (2 : Int) = 0 from a) (by decide)
end Go.Proofs.Ytjmhfjioccljeaa
/-
  PagerOpens: the walk.
-/
namespace Go.Proofs.Ytjmhfjioccljeaa
open Go.RowKit
set_option linter.unusedVariables false
set_option linter.unusedSimpArgs false
attribute [local go_sem ↓] Go.wp_at_zero Go.wp_at_succ

set_option maxRecDepth 100000 in
set_option maxHeartbeats 4000000 in
theorem opens_any (log count size : Int) (hlog : IntIn log) (hcount : IntIn count) (w : World) : Calls Try.prog 8 #[.int .i64 log, .int .i64 count, .int .i64 size] w fun e w' => BelowV (.bool true) w e w' := by
  obtain ⟨t, ht⟩ : ∃ t : Nat, IntKind.u64.wrap size % 60 = (t : Int) := ⟨(IntKind.u64.wrap size % 60).toNat, by have := Int.emod_nonneg (IntKind.u64.wrap size) (b := 60) (by decide); omega⟩
  have hu0 : 0 ≤ IntKind.u64.wrap size := by rw [IntKind.wrap_u64]; omega
  have ht2 : (IntKind.u64.wrap size).tmod 60 = (t : Int) := by rw [Int.tmod_eq_emod_of_nonneg hu0]; exact ht
  have ht60 : t < 60 := by have := Int.emod_lt_of_pos (IntKind.u64.wrap size) (b := 60) (by decide); omega
  obtain ⟨m, hm⟩ : ∃ m, 1 + t = m := ⟨_, rfl⟩
  have hm1 : 0 < m ∧ m ≤ 16384 := by omega
  obtain ⟨z, hz⟩ : ∃ z : Int, ((128 * m : Nat) : Int) = z := ⟨_, rfl⟩
  have i3 : 128 * (1 + (t : Int)) = z := by omega
  have hzb : -9223372036854775808 ≤ z ∧ z ≤ 9223372036854775807 := by omega
  have htb : -9223372036854775808 ≤ (t : Int) ∧ (t : Int) ≤ 9223372036854775807 := by omega
  have htb1 : -9223372036854775808 ≤ 1 + (t : Int) ∧ 1 + (t : Int) ≤ 9223372036854775807 := by omega
  have HT := Lib.hid (And.intro hlog (And.intro hcount (And.intro hm1 hz)))
  have i1 := IntWalk.i64_in _ htb
  have i2 := IntWalk.i64_in _ htb1
  have i4 := IntWalk.i64_in _ hzb
  clear hlog hcount hm1 hm hz hzb htb htb1 ht60 hu0
  go_enter Try.func8, Try.ntmps8
  go_wp2_with fail
  refine (reads_any _).mono ?_
  rintro e w1 ⟨rfl, hb1⟩
  have HB1 := Lib.hid hb1
  clear hb1
  go_wp2_with fail
  refine (newPower_any _).mono ?_
  rintro e w2 ⟨F2, rfl, hp2, hs2⟩
  have HL2 := Lib.hid (LW.start w1 hp2 hs2)
  clear hp2 hs2
  obtain ⟨p, hp⟩ : ∃ p, w1.heap.size = p := ⟨_, rfl⟩
  rw [hp] at HL2 ⊢
  have hnew := st_new HL2.out.pw m HT.out.2.2.1 (by simp)
  rw [HT.out.2.2.2] at hnew
  have HNEW := Lib.hid hnew
  clear hnew hp
  go_wp2_with fail
  refine HNEW.out.mono ?_
  rintro e w3 ⟨d, F3, rfl, hp3, hs3, hd3⟩
  have HP3 : Hid (PwS w3 p [d] (freshS m) F3) := Lib.hid hp3
  have HO3 : Hid (Own0 w1 w3 F3) := Lib.hid ⟨(HL2.out.step hs3 hp3).ge, (HL2.out.step hs3 hp3).be⟩
  clear hp3 hs3 hd3 HL2 HNEW
  obtain ⟨w4, hw4⟩ : ∃ w4, w3.alloc (.cells #[.int .i64 log, .int .i64 count] 89) = w4 := ⟨_, rfl⟩
  obtain ⟨cx, hcx⟩ : ∃ cx, w3.heap.size = cx := ⟨_, rfl⟩
  have hb4 : Below w3.heap.size w3 w4 := by rw [← hw4]; exact (Below.refl _ _).alloc (Nat.le_refl _) _
  have HO4 := Lib.hid (HO3.out.below hb4)
  have HP4 := Lib.hid (HP3.out.below hb4)
  have HC4 : Hid (Blk w4 cx 89 #[.int .i64 log, .int .i64 count]) := Lib.hid (by rw [← hcx, ← hw4]; exact Blk.new _ _ _)
  have HN4 : Hid (¬ F3 cx) := Lib.hid fun hf => by have := HP3.out.lt cx hf; omega
  have c0 : w4.cell? ⟨cx, 0, none⟩ = some (.int .i64 log) := HC4.out.cell 0
  have c1 : w4.cell? ⟨cx, 1, none⟩ = some (.int .i64 count) := HC4.out.cell 1
  have hsz : ((freshS m).at_ 0).size = 128 * m := fresh_size m
  have HRT : Hid (∀ W, Calls Try.prog 55 #[.int .i64 log, .int .i64 count, .int .i64 z] W fun e w' => e = .returned (.bool (pcheckB (128 * m) log count)) ∧ W = w') := Lib.hid fun W => rright_any log count m z HT.out.2.2.2.symm W
  have HFN : Hid (∀ W, Calls Try.prog 54 #[.pointer none, cfg 8 12] W fun e w' => Refused W e w') := Lib.hid fun W => format_nil 8 12 W
  have HON : Hid (∀ W, Calls Try.prog 51 #[.pointer none, cfg 8 12] W fun e w' => OpRef 1 W e w') := Lib.hid fun W => open_nil 8 12 W
  clear hb4 i1 i2 i3 i4
  by_cases hpc : pcheckB (128 * m) log count = true
  · have hrb : rightB log count = true ∧ 256 * (log + count) ≤ ((128 * m : Nat) : Int) := by
      unfold pcheckB at hpc
      rw [Bool.and_eq_true] at hpc
      exact ⟨hpc.1, of_decide_eq_true hpc.2⟩
    obtain ⟨b1, b2, b3, b4⟩ := right_bounds hrb.1
    obtain ⟨L, rfl⟩ : ∃ L : Nat, log = (L : Int) := ⟨log.toNat, by omega⟩
    obtain ⟨N, rfl⟩ : ∃ N : Nat, count = (N : Int) := ⟨count.toNat, by omega⟩
    have hlay : Lay m L N := ⟨by have := hrb.2; omega, by omega, by omega, by omega⟩
    have hL : L ≤ 2000 := by omega
    have HBY : Hid (∀ W, Calls Try.prog 57 #[cfg (L : Int) (N : Int)] W fun e w' => BelowV (.int .i64 (256 * ((L : Int) + N))) W e w') := Lib.hid (fun W => by
      have := bytes_any (L : Int) (N : Int) W
      unfold bytesC at this
      rw [if_pos hrb.1] at this
      exact this)
    have q1 : -9223372036854775808 ≤ (L : Int) + N ∧ (L : Int) + N ≤ 9223372036854775807 := by omega
    have q2 : -9223372036854775808 ≤ 256 * ((L : Int) + N) ∧ 256 * ((L : Int) + N) ≤ 9223372036854775807 := by omega
    have HLY := Lib.hid (And.intro hlay hL)
    have HOF := Lib.hid (open_form HP4.out hlay hL)
    rw [hpc] at HRT
    obtain ⟨V, hV⟩ : ∃ V, 256 * ((L : Int) + N) = V := ⟨_, rfl⟩
    rw [hV] at HBY q2
    have i5 := IntWalk.i64_in _ q1
    have i6 := IntWalk.i64_in _ q2
    have e5 : (V == V) = true := beq_self_eq_true V
    have e6 : ((N : Int) == (N : Int)) = true := beq_self_eq_true _
    clear hpc hrb b1 b2 b3 b4 hlay hL hsz q1 q2
    go_wp2_with fail
    refine HOF.out.mono ?_
    rintro e w5 ⟨rfl, F5, hp5, hs5⟩
    have HO5 := Lib.hid (HO4.out.step hs5)
    have HC5 := Lib.hid (HC4.out.step hs5 HN4.out)
    have HN5 : Hid (¬ F5 cx) := Lib.hid (hs5.notin HN4.out HC4.out.lt)
    have HFM := Lib.hid (format_at hp5 L N HLY.out.1 HLY.out.2)
    have d0 : w5.cell? ⟨cx, 0, none⟩ = some (.int .i64 (L : Int)) := HC5.out.cell 0
    have d1 : w5.cell? ⟨cx, 1, none⟩ = some (.int .i64 (N : Int)) := HC5.out.cell 1
    clear hp5 hs5 HOF c0 c1
    go_wp2_with fail
    refine HFM.out.mono ?_
    rintro e w6 ⟨rfl, S6, F6, hp6, hf6, hs6⟩
    have HO6 := Lib.hid (HO5.out.step hs6)
    have HC6 := Lib.hid (HC5.out.step hs6 HN5.out)
    have HN6 : Hid (¬ F6 cx) := Lib.hid (hs6.notin HN5.out HC5.out.lt)
    have HP6 := Lib.hid (And.intro hp6 hf6)
    clear hp6 hs6 hf6 HFM d0 d1
    go_wp2_with fail
    refine (config_any _).mono ?_
    rintro e w7 ⟨rfl, hb7⟩
    have HB7 := Lib.hid hb7
    clear hb7
    go_wp2_with fail
    refine (HFN.out _).mono ?_
    rintro e w8 ⟨rfl, hb8⟩
    have HB8 := Lib.hid (HB7.out.trans (hb8.mono HB7.out.size))
    clear hb8
    go_wp2_with fail
    refine (config_any _).mono ?_
    rintro e w9 ⟨rfl, hb9⟩
    have HB9 := Lib.hid (HB8.out.trans (hb9.mono HB8.out.size))
    clear hb9
    go_wp2_with fail
    refine (HON.out _).mono ?_
    rintro e wA ⟨rfl, hbA⟩
    have HBA : Hid (Below w6.heap.size w6 wA) := Lib.hid (HB9.out.trans (hbA.mono HB9.out.size))
    clear hbA
    go_wp2_with fail
    refine (HRT.out _).mono ?_
    rintro e _ ⟨rfl, rfl⟩
    have HCA := Lib.hid (HC6.out.below_ HBA.out)
    have HON2 := Lib.hid (open_new_ (HP6.out.1.below HBA.out) HLY.out.1 HLY.out.2 HP6.out.2)
    have HOA := Lib.hid (HO6.out.below HBA.out)
    have d0 : wA.cell? ⟨cx, 0, none⟩ = some (.int .i64 (L : Int)) := HCA.out.cell 0
    have d1 : wA.cell? ⟨cx, 1, none⟩ = some (.int .i64 (N : Int)) := HCA.out.cell 1
    clear HON HFN HRT HB7 HB8 HB9 HO3 HO4 HO5 HC4 HC5 HP3 HP4 HN4 HN5
    go_wp2_with fail
    refine HON2.out.mono ?_
    intro e wB hop
    obtain ⟨pg, S', X, K, rfl, hpb, _, _, hsB, _⟩ := hop.calm HP6.out.2.arm
    have HOB := Lib.hid (HOA.out.step hsB)
    have HCB := Lib.hid (HCA.out.step hsB HN6.out)
    have HPG := Lib.hid (pb_pages hpb)
    have d0 : wB.cell? ⟨cx, 0, none⟩ = some (.int .i64 (L : Int)) := HCB.out.cell 0
    have d1 : wB.cell? ⟨cx, 1, none⟩ = some (.int .i64 (N : Int)) := HCB.out.cell 1
    clear hop hpb hsB HON2
    go_wp2_with fail
    refine HPG.out.mono ?_
    rintro e _ ⟨rfl, rfl⟩
    go_wp2_with fail
    refine (HBY.out _).mono ?_
    rintro e wC ⟨rfl, hbC⟩
    go_wp2_with fail
    go_ret
    exact ⟨rfl, HB1.out.trans (((HOB.out.below hbC).be).mono HB1.out.size)⟩
  · have hpf : pcheckB (128 * m) log count = false := by simpa using hpc
    have hpf2 : pcheckB ((freshS m).at_ 0).size log count = false := by rw [hsz]; exact hpf
    have HOB : Hid (Calls Try.prog 51 #[ob d, cfg log count] w4 fun e w' => OpRef 1 w4 e w') := Lib.hid (open_bad HP4.out (k := 0) rfl log count hpf2)
    have HFB : Hid (∀ W, Below w4.heap.size w4 W → Calls Try.prog 54 #[ob d, cfg log count] W fun e w' => Refused W e w') := Lib.hid fun W hb => format_bad (HP4.out.below hb) (k := 0) rfl log count hpf2
    rw [hpf] at HRT
    clear hpc hpf hpf2 hsz
    go_wp2_with fail
    refine HOB.out.mono ?_
    rintro e w5 ⟨rfl, hb5⟩
    have HB5 := Lib.hid hb5
    have d0 := below_cell hb5 c0
    have d1 := below_cell hb5 c1
    clear hb5 HOB c0 c1
    go_wp2_with fail
    refine (HFB.out _ HB5.out).mono ?_
    rintro e w6 ⟨rfl, hb6⟩
    have HB6 := Lib.hid (HB5.out.trans (hb6.mono HB5.out.size))
    clear hb6 HFB d0 d1
    go_wp2_with fail
    refine (config_any _).mono ?_
    rintro e w7 ⟨rfl, hb7⟩
    have HB7 := Lib.hid (HB6.out.trans (hb7.mono HB6.out.size))
    clear hb7
    go_wp2_with fail
    refine (HFN.out _).mono ?_
    rintro e w8 ⟨rfl, hb8⟩
    have HB8 := Lib.hid (HB7.out.trans (hb8.mono HB7.out.size))
    clear hb8
    go_wp2_with fail
    refine (config_any _).mono ?_
    rintro e w9 ⟨rfl, hb9⟩
    have HB9 := Lib.hid (HB8.out.trans (hb9.mono HB8.out.size))
    clear hb9
    go_wp2_with fail
    refine (HON.out _).mono ?_
    rintro e wA ⟨rfl, hbA⟩
    have HBA := Lib.hid (HB9.out.trans (hbA.mono HB9.out.size))
    clear hbA
    go_wp2_with fail
    refine (HRT.out _).mono ?_
    rintro e _ ⟨rfl, rfl⟩
    go_wp2_with fail
    go_ret
    exact ⟨rfl, HB1.out.trans (((HO4.out.below HBA.out).be).mono HB1.out.size)⟩
theorem in_wf {n : Int} (h : (Lit.int .i64 n).wf = true) : IntIn n := by
  simp [Lit.wf, IntKind.min, IntKind.max, IntKind.signed, IntKind.bits] at h
  unfold IntIn
  omega
theorem opens_wf (log count size : Int) (w : World) (w0 : (Lit.int .i64 log).wf = true) (w1 : (Lit.int .i64 count).wf = true) : Calls Try.prog 8 #[.int .i64 log, .int .i64 count, .int .i64 size] w fun e w' => e = .returned (.bool true) ∧ Below w.heap.size w w' :=
  opens_any log count size (in_wf w0) (in_wf w1) w
end Go.Proofs.Ytjmhfjioccljeaa
