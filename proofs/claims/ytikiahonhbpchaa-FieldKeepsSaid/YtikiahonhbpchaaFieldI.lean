/-
  Walks of the reference of package field: Same, big, Item.
-/
import Derived.Test.YtikiahonhbpchaaFieldH
import Derived.Laws.StructEq
import Derived.Deep.DrawnRows
import Derived.Deep.RegionHeld3
namespace Go.Proofs.Ytikiahonhbpchaa
open Go.RowKit Fld
set_option linter.unusedVariables false
set_option linter.unusedSimpArgs false

theorem It.ext_ {a b : It} (h1 : a.kind = b.kind) (h2 : a.num = b.num) (h3 : a.str = b.str) : a = b := by cases a; cases b; simp_all
theorem take_eq_succ {a b : List It} {j : Nat} (ha : j < a.length) (hb : j < b.length) (h : a.take j = b.take j) : a.take (j + 1) = b.take (j + 1) ↔ a.getD j none_ = b.getD j none_ := by
  rw [take_snoc a j ha, take_snoc b j hb, getD_eq a j none_ ha, getD_eq b j none_ hb, h]
  constructor
  · intro h1; simpa using List.append_cancel_left h1
  · intro h1; rw [h1]
theorem str_beq (s t : List UInt8) : ((⟨s.toArray⟩ : ByteArray).toList == (⟨t.toArray⟩ : ByteArray).toList) = (s == t) := by rw [ByteArray.toList_mk, ByteArray.toList_mk]
def eqI (x y : It) : Bool := x.kind == y.kind && (x.num == y.num && x.str == y.str)
theorem eqI_iff (x y : It) : eqI x y = true ↔ x = y := by
  unfold eqI
  simp only [Bool.and_eq_true, beq_iff_eq]
  constructor
  · rintro ⟨h1, h2, h3⟩; exact It.ext_ h1 h2 h3
  · rintro rfl; exact ⟨rfl, rfl, rfl⟩
theorem guard_item : Try.prog.eqGuardType Try.prog.depth 30 = false := by kernel_rfl
theorem run_eqIn_item (x y : It) (w : World) : (Op.equalIn 10000 30 (.agg #[.int .i64 x.kind, .int .i64 x.num, .string ⟨x.str.toArray⟩]) (.agg #[.int .i64 y.kind, .int .i64 y.num, .string ⟨y.str.toArray⟩])).run Try.prog w = .ok (eqI x y) w := by
  rw [run_equalIn_struct w 9999 30 _ _ (by kernel_rfl) (by kernel_rfl)]
  simp [Op.eqFields, Program.fieldsOf, Try.underlying30, go_sem]
  unfold eqI
  by_cases h1 : x.kind = y.kind <;> by_cases h2 : x.num = y.num <;> by_cases h3 : x.str = y.str <;> simp [h1, h2, h3]
theorem run_neq_item (x y : It) (w : World) : (binOp .neq 30 (.agg #[.int .i64 x.kind, .int .i64 x.num, .string ⟨x.str.toArray⟩]) (.agg #[.int .i64 y.kind, .int .i64 y.num, .string ⟨y.str.toArray⟩])).run Try.prog w = .ok (.bool (!(eqI x y))) w := by
  rw [run_neq_struct, run_eqIn_item]; rfl
theorem run_eql_item (x y : It) (w : World) : (binOp .eql 30 (.agg #[.int .i64 x.kind, .int .i64 x.num, .string ⟨x.str.toArray⟩]) (.agg #[.int .i64 y.kind, .int .i64 y.num, .string ⟨y.str.toArray⟩])).run Try.prog w = .ok (.bool (eqI x y)) w := by
  rw [run_eql_struct, run_eqIn_item]; rfl
/-- the rows are the same -/
def SameSpec (a b : List It) (w : World) (e : Ending) (w' : World) : Prop := ∃ (r : Bool) (n : Nat), e = .returned (.bool r) ∧ (r = true ↔ a = b) ∧ w' = w.drewN n
set_option maxRecDepth 100000 in
set_option maxHeartbeats 1000000 in
theorem same_any (A B : Option Addr) (a b : List It) (ca cb : Nat) (w : World) (hma : a.length ≤ maxLen) (hmb : b.length ≤ maxLen) (hA : RdI w A a) (hB : RdI w B b) :
    Calls Try.prog 15 #[.slice A a.length ca, .slice B b.length cb] w fun e w' => SameSpec a b w e w' := by
  unfold maxLen at hma hmb
  have HA := Lib.hid hA
  have HB := Lib.hid hB
  clear hA hB
  by_cases hl : a.length = b.length
  · have hl' : ((a.length : Int) != (b.length : Int)) = false := by rw [hl]; simp
    have HL := Lib.hid hl
    clear hl
    go_enter Try.func15, Try.ntmps15
    go_wp2
    go_loopw [5] (fun i wr => ∃ (j n : Nat), i = .int .i64 (j : Int) ∧ j ≤ a.length ∧ Hid (a.take j = b.take j) ∧ Hid (wr = w.drewN n)) (fun i _ => a.length - (intOf i).toNat)
    case atStart => exact ⟨0, 0, rfl, Nat.zero_le _, Lib.hid rfl, Lib.hid rfl⟩
    case round =>
      obtain ⟨j, n, rfl, hj, HT, HW⟩ := hrel
      by_cases hlt : j < a.length
      · have hltb : j < b.length := by have := HL.out; omega
        have hwr := HW.out
        subst hwr
        obtain ⟨ad, rfl⟩ := HA.out.some_ (by omega)
        obtain ⟨bd, rfl⟩ := HB.out.some_ (by omega)
        obtain ⟨_, e, c0, c1, c2⟩ := HA.out.cells hlt
        cases e
        obtain ⟨_, e, d0, d1, d2⟩ := HB.out.cells hltb
        cases e
        have HS := Lib.hid (take_eq_succ hlt hltb HT.out)
        generalize a.getD j none_ = x at *
        generalize b.getD j none_ = y at *
        go_wp2_with fail
        have hq := fun W => run_neq_item x y W
        have hgd := guard_item
        go_quiet (fail)
        have hx := Lib.hid (eqI_iff x y)
        clear hq c0 c1 c2 d0 d1 d2
        cases hr : eqI x y with
        | true =>
          have HTN := Lib.hid (HS.out.2 (hx.out.1 hr))
          clear hr hx
          go_wp2_with fail
          exact ⟨⟨j + 1, n + nq, int_eq (by omega), by omega, HTN, Lib.hid rfl⟩, by simp [intOf]; omega⟩
        | false =>
          have HTN : Hid (a = b → False) := Lib.hid fun h => absurd (hx.out.2 (HS.out.1 (by rw [h]))) (by rw [hr]; simp)
          clear hr hx
          go_wp2_with fail
          go_ret
          refine ⟨false, n + nq, rfl, ?_, World.drewN_drewN w n nq⟩
          constructor
          · intro h; cases h
          · intro h; exact (HTN.out h).elim
      · have hjl : j = a.length := by omega
        subst hjl
        have HE := Lib.hid (show a = b by
          have h := HT.out
          rw [List.take_length, HL.out, List.take_length] at h
          exact h)
        have hwr := HW.out
        subst hwr
        go_wp2_with fail
        go_ret
        exact ⟨true, n, rfl, ⟨fun _ => HE.out, fun _ => rfl⟩, rfl⟩
  · have hl' : ((a.length : Int) != (b.length : Int)) = true := by rw [bne_iff_ne]; omega
    go_enter Try.func15, Try.ntmps15
    go_wp2
    go_ret
    exact ⟨false, 0, rfl, by constructor; (intro h; cases h); (intro h; rw [h] at hl; exact absurd rfl hl), rfl⟩
theorem big_small {m : Nat} (h : m < 256) : big m = [UInt8.ofNat m] := by unfold big; rw [dif_pos h]
theorem big_more {m : Nat} (h : ¬ m < 256) : big m = big (m / 256) ++ [UInt8.ofNat (m % 256)] := by rw [big, dif_neg h]
theorem str_one {w : World} {v : Int} {n : Nat} (h : v = ((UInt8.ofNat n).toNat : Int)) : (convert 22 9 (.slice (some ⟨w.heap.size, 0, none⟩) 1 1)).run Try.prog (w.alloc (.cells #[.int .u8 v] 5)) = .ok (.string ⟨[UInt8.ofNat n].toArray⟩) (w.alloc (.cells #[.int .u8 v] 5)) :=
  run_str 1 (rd_new1 w n v h) rfl
theorem str_append (s t : List UInt8) : (⟨s.toArray⟩ : ByteArray) ++ ⟨t.toArray⟩ = ⟨(s ++ t).toArray⟩ := by
  apply ByteArray.ext
  simp
theorem str_cell {W : World} {g : Nat} {v : Int} {n : Nat} (h : W.cell? ⟨g, 0, none⟩ = some (.int .u8 v)) (hv : v = ((UInt8.ofNat n).toNat : Int)) :
    (convert 22 9 (.slice (some ⟨g, 0, none⟩) 1 1)).run Try.prog W = .ok (.string ⟨[UInt8.ofNat n].toArray⟩) W := by
  refine run_str 1 (fun _ => ⟨_, rfl, fun k hk => ?_⟩) rfl
  have hk0 : k = 0 := by simpa using hk
  subst hk0
  rw [add_nil, h, hv]; rfl
attribute [local go_sem ↓] Go.wp_at_zero Go.wp_at_succ
set_option maxRecDepth 100000 in
set_option maxHeartbeats 1000000 in
theorem big_any (m : Nat) (hm : m < 9223372036854775808) (w : World) :
    Calls Try.prog 24 #[.int .i64 (m : Int)] w fun e w' => e = .returned (.string ⟨(big m).toArray⟩) ∧ Below w.heap.size w w' := by
  induction m using Nat.strongRecOn generalizing w with
  | ind m ih =>
    by_cases h : m < 256
    · rw [big_small h]
      have hs := fun W : World => str_one (w := W) (v := (m : Int)) (n := m) (by rw [UInt8.toNat_ofNat']; omega)
      clear ih
      go_enter Try.func24, Try.ntmps24
      go_wp2_with fail
      go_ret
      exact ⟨rfl, (Below.refl _ _).alloc (Nat.le_refl _) _⟩
    · have hE := big_more h
      generalize big m = E at *
      have IH := ih (m / 256) (by omega) (by omega)
      have hdiv : ((m / 256 : Nat) : Int) = (m : Int) / 256 := by omega
      rw [hdiv] at IH
      have IH := Lib.hid IH
      clear hdiv
      clear ih
      have hv : ((m : Int) % 256) = ((UInt8.ofNat (m % 256)).toNat : Int) := by rw [UInt8.toNat_ofNat']; omega
      have hs := fun (W : World) (g : Nat) (h : W.cell? ⟨g, 0, none⟩ = some (.int .u8 ((m : Int) % 256))) => str_cell (W := W) (g := g) h hv
      have HE : Hid (_ = _) := Lib.hid hE
      clear hE hv
      have HS := Lib.hid (str_append (big (m / 256)) [UInt8.ofNat (m % 256)])
      rw [← HE.out] at HS
      have hT : (⟨(big (m / 256)).toArray⟩ : ByteArray).size ≤ 8 := by rw [str_size, big_length]; exact bytesN_le8 (by omega)
      have hU : (⟨[UInt8.ofNat (m % 256)].toArray⟩ : ByteArray).size = 1 := str_size _
      generalize (⟨(big (m / 256)).toArray⟩ : ByteArray) = T at *
      generalize (⟨[UInt8.ofNat (m % 256)].toArray⟩ : ByteArray) = U at *
      go_enter Try.func24, Try.ntmps24
      go_wp2_with fail
      have hTU : T.size + U.size ≤ 9223372036854775807 := by omega
      clear hT hU
      have u1 : IntKind.i64.wrap ((m : Int) / 256) = (m : Int) / 256 := wrap_i64_of _ (by omega)
      have u2 : (m : Int).tmod 256 = (m : Int) % 256 := Int.tmod_eq_emod_of_nonneg (by omega)
      have u3 : IntKind.u8.wrap ((m : Int) % 256) = (m : Int) % 256 := IntWalk.u8_in _ (by omega)
      go_region_with (go_at_call 24; refine (IH.out _).mono ?_; rintro e w1 ⟨rfl, hb1⟩; (try have hc : w1.cell? ⟨w.heap.size, 0, none⟩ = some (.int .u8 ((m : Int) % 256)) := by rw [hb1.cell (by simp)]; simp [World.cell?_alloc_new]))
      all_goals
        go_simp
        go_wp2_with fail
        go_ret
        refine ⟨by rw [HS.out]; rfl, ?_⟩
        first
          | exact (((Below.refl w.heap.size w).drew.trans hb1).alloc hb1.size _)
          | exact (((Below.refl w.heap.size w).alloc (Nat.le_refl _) _).drew.trans (hb1.mono (by simp)))
end Go.Proofs.Ytikiahonhbpchaa
