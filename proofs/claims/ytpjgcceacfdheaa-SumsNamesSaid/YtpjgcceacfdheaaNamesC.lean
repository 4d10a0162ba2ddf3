/-
  Walk of the reference's DocBytes.
-/
import Derived.Test.YtpjgcceacfdheaaNamesB
namespace Go.Proofs.Ytpjgcceacfdheaa
open Go.RowKit Crc
set_option linter.unusedVariables false
set_option linter.unusedSimpArgs false
attribute [local go_sem ↓] Go.wp_at_zero Go.wp_at_succ

/-- what the inner loop has found among the first n *-/
def fnd (v0 v1 : Int) (n : Nat) : Int := if 0 ≤ v0 ∧ 0 ≤ v1 ∧ 16 * v0 + v1 < (n : Int) then 16 * v0 + v1 else -1
theorem fnd_step (v0 v1 : Int) (n : Nat) (h0 : -1 ≤ v0 ∧ v0 ≤ 15) (h1 : -1 ≤ v1 ∧ v1 ≤ 15) :
    fnd v0 v1 (n + 1) = if v0 = ((n / 16 : Nat) : Int) ∧ v1 = ((n % 16 : Nat) : Int) then (n : Int) else fnd v0 v1 n := by
  unfold fnd
  split <;> split <;> (try split) <;> omega
theorem fnd_end (v0 v1 : Int) (h0 : -1 ≤ v0 ∧ v0 ≤ 15) (h1 : -1 ≤ v1 ∧ v1 ≤ 15) : fnd v0 v1 256 = if v0 < 0 ∨ v1 < 0 then -1 else 16 * v0 + v1 := by
  unfold fnd
  split <;> split <;> omega
theorem beq_dig (p : Nat) (hp : p < 16) (x : UInt8) : (((Hex.dig p).toNat : Int) == (x.toNat : Int)) = decide (und x = (p : Int)) := by
  have h := dig_iff p hp x
  by_cases e : Hex.dig p = x
  · rw [decide_eq_true (h.1 e), e]; simp
  · have h2 : ¬ und x = (p : Int) := fun hc => e (h.2 hc)
    rw [decide_eq_false h2, beq_eq_false_iff_ne]
    intro hc
    exact e (UInt8.toNat_inj.1 (by omega))
set_option maxRecDepth 100000 in
set_option maxHeartbeats 2000000 in
theorem docbytes_any (s : ByteArray) (w : World) (hm : s.size ≤ 70368744177664) :
    Calls Try.prog 18 #[.string s] w fun e w' => e = .returned (.tuple #[.string ⟨(unL s.data.toList).toArray⟩, .int .i64 (unE s.data.toList)]) ∧ Below w.heap.size w w' := by
  have hsl : s.data.toList.length = s.size := str_len s
  have hgs := fun k h => str_get s k h
  generalize hR : (Value.tuple #[.string ⟨(unL s.data.toList).toArray⟩, .int .i64 (unE s.data.toList)]) = R
  have HR : Hid (_ = R) := Lib.hid hR
  have HGS := Lib.hid hgs
  generalize s.data.toList = S at *
  have HSL := Lib.hid hsl
  clear hR hgs
  by_cases hodd : s.size % 2 = 1
  · have hi : (s.size : Int) % 2 = 1 := by omega
    obtain ⟨u1, u2⟩ := un_none (unhex_odd S (by omega))
    rw [u1, u2] at HR
    clear hsl u1 u2
    go_enter Try.func18, Try.ntmps18
    go_wp2_with fail
    go_ret2
    exact ⟨by rw [← HR.out]; rfl, Below.refl _ _⟩
  · have hi : (s.size : Int) % 2 = 0 := by omega
    clear hsl
    go_enter Try.func18, Try.ntmps18
    go_wp2_with fail
    go_loopw [5, 4] (fun i o wr => ∃ (j : Nat) (l : List UInt8) (A2 : Option Addr) (c2 : Nat), i = .int .i64 (2 * (j : Int)) ∧ o = .slice A2 l.length c2 ∧ l.length = j ∧ 2 * j ≤ s.size ∧ Hid (unhex S = (unhex (S.drop (2 * j))).map (l ++ ·)) ∧ Hid (OwnB wr w.heap.size A2 c2 l) ∧ Hid (Below w.heap.size w wr)) (fun i _ _ => s.size - (intOf i).toNat)
    case atStart => exact ⟨0, [], none, 0, rfl, rfl, rfl, by omega, Lib.hid (by simp), OwnB.nil _ _, Below.refl _ _⟩
    case round =>
      clear hi
      obtain ⟨j, l, A2, c2, rfl, rfl, hlj, hj, HU, HO, HB⟩ := hrel
      by_cases hlt : 2 * j < s.size
      · have h0 : 2 * j < s.size := hlt
        have h1 : 2 * j + 1 < s.size := by omega
        have i0 : 2 * (j : Int) < (s.size : Int) := by omega
        have i1 : 2 * (j : Int) + 1 < (s.size : Int) := by omega
        have HDR := Lib.hid (drop_two S (2 * j) (by have := HSL.out; omega))
        have g0 := HGS.out (2 * j) h0
        have g1 := HGS.out (2 * j + 1) h1
        rw [g0, g1] at HDR
        have n0 : (0 : Int) ≤ 2 * (j : Int) := by omega
        have n1 : (0 : Int) ≤ 2 * (j : Int) + 1 := by omega
        have t0 : (2 * (j : Int)).toNat = 2 * j := by omega
        have t1 : (2 * (j : Int) + 1).toNat = 2 * j + 1 := by omega
        have d0 := und_bd s[2 * j]
        have d1 := und_bd s[2 * j + 1]
        have HS0 := Lib.hid (unhex_step (x := s[2 * j]'h0) (y := s[2 * j + 1]'h1) (t := S.drop (2 * j + 2)))
        have HS1 := Lib.hid (unhex_bad (x := s[2 * j]'h0) (y := s[2 * j + 1]'h1) (t := S.drop (2 * j + 2)))
        rw [← HDR.out] at HS0 HS1
        have HQ0 := Lib.hid (fun p hp => beq_dig p hp (s[2 * j]'h0))
        have HQ1 := Lib.hid (fun p hp => beq_dig p hp (s[2 * j + 1]'h1))
        clear g0 g1 HDR
        generalize hx0 : s[2 * j] = x0 at *
        generalize hx1 : s[2 * j + 1] = x1 at *
        generalize und x0 = v0 at *
        generalize und x1 = v1 at *
        have HLJ := Lib.hid hlj
        clear hlj
        go_wp2_with fail
        go_loopw [7, 6] (fun n x w2 => ∃ (k d : Nat), n = .int .i64 (k : Int) ∧ x = .int .i64 (fnd v0 v1 k) ∧ k ≤ 256 ∧ Hid (w2 = wr.drewN d)) (fun n _ _ => 256 - (intOf n).toNat)
        case atStart => exact ⟨0, 0, rfl, by unfold fnd; rw [if_neg (by omega)], by omega, Lib.hid rfl⟩
        case round =>
          obtain ⟨k, d, rfl, rfl, hk, HW⟩ := hrel
          have hwr := HW.out
          subst hwr
          by_cases hkl : k < 256
          · obtain ⟨p, hp, hp16⟩ : ∃ p : Nat, k / 16 = p ∧ p < 16 := ⟨_, rfl, by omega⟩
            obtain ⟨q, hq, hq16⟩ : ∃ q : Nat, k % 16 = q ∧ q < 16 := ⟨_, rfl, by omega⟩
            have HST := Lib.hid (fnd_step v0 v1 k d0 d1)
            rw [hp, hq] at HST
            have hdp := fun h => dig_at p h
            have hdq := fun h => dig_at q h
            have e0 := HQ0.out p hp16
            have e1 := HQ1.out q hq16
            have u1 : IntKind.i64.wrap ((k : Int) / 16) = (p : Int) := by rw [wrap_i64_of _ (by omega)]; omega
            have u2 : (k : Int).tmod 16 = (q : Int) := by rw [Int.tmod_eq_emod_of_nonneg (by omega)]; omega
            have u3 : IntKind.i64.wrap (2 * (j : Int) + 1) = 2 * (j : Int) + 1 := wrap_i64_of _ (by omega)
            have i2 : (p : Int) < 16 := by omega
            have i3 : (q : Int) < 16 := by omega
            generalize fnd v0 v1 k = f0 at *
            by_cases c0 : v0 = (p : Int)
            · rw [decide_eq_true c0] at e0
              by_cases c1 : v1 = (q : Int)
              · rw [decide_eq_true c1] at e1
                rw [if_pos ⟨c0, c1⟩] at HST
                clear c0 c1
                go_wp2_with fail
                go_quiet (fail)
                go_wp2_with fail
                exact ⟨⟨k + 1, d + nq, int_eq (by omega), int_eq (by rw [HST.out]), by omega, Lib.hid rfl⟩, by simp [intOf]; omega⟩
              · rw [decide_eq_false c1] at e1
                rw [if_neg (fun h => c1 h.2)] at HST
                clear c0 c1
                go_wp2_with fail
                go_quiet (fail)
                go_wp2_with fail
                exact ⟨⟨k + 1, d + nq, int_eq (by omega), int_eq (by rw [HST.out]), by omega, Lib.hid rfl⟩, by simp [intOf]; omega⟩
            · rw [decide_eq_false c0] at e0
              rw [if_neg (fun h => c0 h.1)] at HST
              clear c0
              go_wp2_with fail
              go_quiet (fail)
              go_wp2_with fail
              exact ⟨⟨k + 1, d + nq, int_eq (by omega), int_eq (by rw [HST.out]), by omega, Lib.hid rfl⟩, by simp [intOf]; omega⟩
          · have hk6 : k = 256 := by omega
            subst hk6
            rw [fnd_end v0 v1 d0 d1]
            clear HQ0 HQ1 hx0 hx1 n0 n1 t0 t1 i0 i1 h0 h1
            by_cases hb : v0 < 0 ∨ v1 < 0
            · rw [if_pos hb]
              have hn : unhex S = none := by rw [HU.out, HS1.out hb]; rfl
              obtain ⟨r1, r2⟩ := un_none hn
              have HRR := HR
              rw [r1, r2] at HRR
              clear HU HS0 HS1 hn r1 r2
              go_wp2_with fail
              go_ret2
              exact ⟨by rw [← HRR.out]; rfl, below_drewN HB.out _⟩
            · rw [if_neg hb]
              obtain ⟨p, rfl⟩ : ∃ p : Nat, v0 = (p : Int) := ⟨v0.toNat, by omega⟩
              obtain ⟨q, rfl⟩ : ∃ q : Nat, v1 = (q : Int) := ⟨v1.toNat, by omega⟩
              have hpi : 16 * (p : Int) + (q : Int) = ((p * 16 + q : Nat) : Int) := by omega
              rw [hpi]
              have HU2 := Lib.hid (show unhex S = (unhex (S.drop (2 * (j + 1)))).map (l ++ [UInt8.ofNat (p * 16 + q)] ++ ·) by
                rw [HU.out, HS0.out ⟨by omega, by omega⟩]
                have e : 2 * (j + 1) = 2 * j + 2 := by omega
                rw [e]
                cases unhex (S.drop (2 * j + 2)) with
                | none => rfl
                | some r => simp)
              have hv : ((p * 16 + q : Nat) : Int) = ((UInt8.ofNat (p * 16 + q)).toNat : Int) := by rw [UInt8.toNat_ofNat']; omega
              have HV := Lib.hid hv
              have hpq : p * 16 + q < 256 := by omega
              generalize p * 16 + q = pq at *
              have HBS := Lib.hid HB.out.size
              clear HU HS0 HS1 hv hb d0 d1 hpi
              go_wp2_with (at_builtin; refine wpList_appRd (.inl rfl) (.tmp 42) (.tmp 45) rfl w.heap.size A2 l.length c2 l rfl rfl (OwnR.alloc (OwnR.drewN HO.out d) _) (some ⟨wr.heap.size, 0, none⟩) 1 1 [UInt8.ofNat pq] rfl rfl (rd_cells _ [UInt8.ofNat pq] _ (by simp only [bc, List.map_cons, List.map_nil]; rw [HV.out])) (by rw [HLJ.out]; simp; omega) (by have := HBS.out; simp; omega) ?_; (intro A3 c3 w3 hown3 hg3 hat3))
              refine ⟨⟨j + 1, l ++ [UInt8.ofNat pq], A3, c3, int_eq (by omega), slice_val (by simp), by simp [HLJ.out], by omega, HU2, Lib.hid hown3, ?_⟩, by simp [intOf]; omega⟩
              exact Lib.hid (((below_drewN HB.out d).alloc HBS.out _).grown hg3 (by have := HBS.out; simp; omega) (fun k hk => (OwnR.lt HO.out k hk).1))
      · have hjs : 2 * j = s.size := by omega
        have hn : unhex S = some l := by
          rw [HU.out, List.drop_eq_nil_of_le (by have := HSL.out; omega)]
          simp [unhex]
        obtain ⟨r1, r2⟩ := un_some hn
        rw [r1, r2] at HR
        have hst := run_str (n := j) c2 (OwnB.rd HO.out) hlj.symm
        clear hn r1 r2 HU
        go_wp2_with fail
        go_ret2
        exact ⟨by rw [← HR.out]; rfl, HB.out⟩
end Go.Proofs.Ytpjgcceacfdheaa
