/-
  Walks: Bytes, and the reference's DocBytes.
-/
import Derived.Test.YtpjgcceacfdheaaNamesA
namespace Go.Proofs.Ytpjgcceacfdheaa
open Go.RowKit Crc
set_option linter.unusedVariables false
set_option linter.unusedSimpArgs false
attribute [local go_sem ↓] Go.wp_at_zero Go.wp_at_succ

/-- a digit's worth, or -1 -/
def und (x : UInt8) : Int := Lib.indexByte Hex.tab x
theorem wrap_i64_of (n : Int) (h : -9223372036854775808 ≤ n ∧ n ≤ 9223372036854775807) : IntKind.i64.wrap n = n := IntWalk.i64_in n h
theorem und_range : ∀ n : Fin 256, -1 ≤ und (UInt8.ofNat n.val) ∧ und (UInt8.ofNat n.val) ≤ 15 := by decide +kernel
theorem und_bd (x : UInt8) : -1 ≤ und x ∧ und x ≤ 15 := by
  have := und_range ⟨x.toNat, x.toNat_lt⟩
  simpa using this
theorem dig_und : ∀ (p : Fin 16) (n : Fin 256), (Hex.dig p.val = UInt8.ofNat n.val) ↔ und (UInt8.ofNat n.val) = (p.val : Int) := by decide +kernel
theorem dig_iff (p : Nat) (hp : p < 16) (x : UInt8) : Hex.dig p = x ↔ und x = (p : Int) := by
  have := dig_und ⟨p, hp⟩ ⟨x.toNat, x.toNat_lt⟩
  simpa using this
/-- the bytes of digits -/
def unhex : List UInt8 → Option (List UInt8)
  | [] => some []
  | [_] => none
  | x :: y :: t => if und x < 0 ∨ und y < 0 then none else (unhex t).map (UInt8.ofNat ((und x).toNat * 16 + (und y).toNat) :: ·)
theorem unhex_odd (l : List UInt8) (h : l.length % 2 = 1) : unhex l = none := by
  have key : ∀ n (l : List UInt8), l.length ≤ n → l.length % 2 = 1 → unhex l = none := by
    intro n
    induction n with
    | zero => intro l hl h; omega
    | succ n ih =>
      intro l hl h
      match l with
      | [] => simp at h
      | [_] => rfl
      | x :: y :: t =>
        simp only [List.length_cons] at hl h
        unfold unhex
        rw [ih t (by omega) (by omega)]
        split <;> rfl
  exact key _ l (Nat.le_refl _) h
theorem unhex_digits (l : List UInt8) : unhex (Hex.digits l) = some l := by
  induction l with
  | nil => rfl
  | cons x l ih =>
    have hx := x.toNat_lt
    have h1 : und (Hex.dig (x.toNat / 16)) = ((x.toNat / 16 : Nat) : Int) := (dig_iff _ (by omega) _).1 rfl
    have h2 : und (Hex.dig (x.toNat % 16)) = ((x.toNat % 16 : Nat) : Int) := (dig_iff _ (by omega) _).1 rfl
    have e : Hex.digits (x :: l) = Hex.dig (x.toNat / 16) :: Hex.dig (x.toNat % 16) :: Hex.digits l := rfl
    rw [e]
    unfold unhex
    rw [h1, h2, if_neg (by omega), ih]
    have e2 : ((x.toNat / 16 : Nat) : Int).toNat * 16 + ((x.toNat % 16 : Nat) : Int).toNat = x.toNat := by omega
    rw [e2]; simp
def unL (l : List UInt8) : List UInt8 := (unhex l).getD []
def unE (l : List UInt8) : Int := if (unhex l).isSome then 0 else 2
theorem unhex_step {x y : UInt8} {t : List UInt8} (h : 0 ≤ und x ∧ 0 ≤ und y) : unhex (x :: y :: t) = (unhex t).map (UInt8.ofNat ((und x).toNat * 16 + (und y).toNat) :: ·) := by
  rw [unhex, if_neg (by omega)]
theorem unhex_bad {x y : UInt8} {t : List UInt8} (h : und x < 0 ∨ und y < 0) : unhex (x :: y :: t) = none := by rw [unhex, if_pos h]
theorem drop_two (l : List UInt8) (i : Nat) (h : i + 1 < l.length) : l.drop i = l.getD i 0 :: l.getD (i + 1) 0 :: l.drop (i + 2) := by
  rw [List.drop_eq_getElem_cons (by omega), List.drop_eq_getElem_cons (by omega), getD_eq _ _ _ (by omega), getD_eq _ _ _ (by omega)]
theorem un_none {l : List UInt8} (h : unhex l = none) : unL l = [] ∧ unE l = 2 := by unfold unL unE; rw [h]; exact ⟨rfl, rfl⟩
theorem un_some {l o : List UInt8} (h : unhex l = some o) : unL l = o ∧ unE l = 0 := by unfold unL unE; rw [h]; exact ⟨rfl, rfl⟩
theorem shl_or (h l : Nat) (hh : h < 16) (hl : l < 16) : bits .or .i64 ((h : Int) * 16) (l : Int) = ((h * 16 + l : Nat) : Int) := by
  have e : ((h : Int) * 16) = ((h * 16 : Nat) : Int) := by omega
  rw [e, i64_or_nat _ _ (by omega) (by omega)]
  have := Nat.shiftLeft_add_eq_or_of_lt (a := h) (b := l) (i := 4) (by omega)
  rw [Nat.shiftLeft_eq] at this
  have e2 : h * 2 ^ 4 = h * 16 := rfl
  rw [e2] at this
  rw [← this]
theorem idx_any (x : UInt8) (w : World) : Calls Try.prog 29 #[.string ⟨#[48, 49, 50, 51, 52, 53, 54, 55, 56, 57, 97, 98, 99, 100, 101, 102]⟩, .int .u8 (x.toNat : Int)] w fun e w' => e = .returned (.int .i64 (und x)) ∧ w = w' :=
  (Try.strings_IndexByte _ _ w).mono fun e w' ⟨h1, h2⟩ => by
    refine ⟨?_, h2.symm⟩
    rw [h1]
    have : ((x.toNat : Int)).toNat.toUInt8 = x := by simp
    rw [this]; rfl
set_option maxRecDepth 100000 in
set_option maxHeartbeats 1000000 in
theorem bytes_any (s : ByteArray) (w : World) (hm : s.size ≤ 70368744177664) :
    Calls Try.prog 19 #[.string s] w fun e w' => e = .returned (.tuple #[.string ⟨(unL s.data.toList).toArray⟩, .int .i64 (unE s.data.toList)]) ∧ Below w.heap.size w w' := by
  have hsl : s.data.toList.length = s.size := str_len s
  have hgs := fun k h => str_get s k h
  generalize hR : (Value.tuple #[.string ⟨(unL s.data.toList).toArray⟩, .int .i64 (unE s.data.toList)]) = R
  have HR : Hid (_ = R) := Lib.hid hR
  have HGS := Lib.hid hgs
  generalize s.data.toList = S at *
  have HSL := Lib.hid hsl
  clear hR hgs
  by_cases hodd : s.size % 2 = 1
  · have hi : (s.size : Int) % 2 = 1 := by omega
    obtain ⟨u1, u2⟩ := un_none (unhex_odd S (by omega))
    rw [u1, u2] at HR
    clear hsl u1 u2
    go_enter Try.func19, Try.ntmps19
    go_wp2_with fail
    go_ret2
    exact ⟨by rw [← HR.out]; rfl, Below.refl _ _⟩
  · have hi : (s.size : Int) % 2 = 0 := by omega
    clear hsl
    go_enter Try.func19, Try.ntmps19
    go_wp2_with fail
    go_loopw [5, 4] (fun i o wr => ∃ (j : Nat) (l : List UInt8) (A2 : Option Addr) (c2 : Nat), i = .int .i64 (2 * (j : Int)) ∧ o = .slice A2 l.length c2 ∧ l.length = j ∧ 2 * j ≤ s.size ∧ Hid (unhex S = (unhex (S.drop (2 * j))).map (l ++ ·)) ∧ Hid (OwnB wr w.heap.size A2 c2 l) ∧ Hid (Below w.heap.size w wr)) (fun i _ _ => s.size - (intOf i).toNat)
    case atStart => exact ⟨0, [], none, 0, rfl, rfl, rfl, by omega, Lib.hid (by simp), OwnB.nil _ _, Below.refl _ _⟩
    case round =>
      clear hi
      obtain ⟨j, l, A2, c2, rfl, rfl, hlj, hj, HU, HO, HB⟩ := hrel
      by_cases hlt : 2 * j < s.size
      · have h0 : 2 * j < s.size := hlt
        have h1 : 2 * j + 1 < s.size := by omega
        have i0 : 2 * (j : Int) < (s.size : Int) := by omega
        have i1 : 2 * (j : Int) + 1 < (s.size : Int) := by omega
        have HDR := Lib.hid (drop_two S (2 * j) (by have := HSL.out; omega))
        have g0 := HGS.out (2 * j) h0
        have g1 := HGS.out (2 * j + 1) h1
        rw [g0, g1] at HDR
        have n0 : (0 : Int) ≤ 2 * (j : Int) := by omega
        have n1 : (0 : Int) ≤ 2 * (j : Int) + 1 := by omega
        have t0 : (2 * (j : Int)).toNat = 2 * j := by omega
        have t1 : (2 * (j : Int) + 1).toNat = 2 * j + 1 := by omega
        have d0 := und_bd s[2 * j]
        have d1 := und_bd s[2 * j + 1]
        have HI0 := Lib.hid (idx_any s[2 * j])
        have HI1 := Lib.hid (idx_any s[2 * j + 1])
        have HS0 := Lib.hid (unhex_step (x := s[2 * j]'h0) (y := s[2 * j + 1]'h1) (t := S.drop (2 * j + 2)))
        have HS1 := Lib.hid (unhex_bad (x := s[2 * j]'h0) (y := s[2 * j + 1]'h1) (t := S.drop (2 * j + 2)))
        rw [← HDR.out] at HS0 HS1
        clear g0 g1 HDR
        generalize hx0 : s[2 * j] = x0 at *
        generalize hx1 : s[2 * j + 1] = x1 at *
        generalize und x0 = v0 at *
        generalize und x1 = v1 at *
        go_wp2_with fail
        have u1 : IntKind.i64.wrap (2 * (j : Int) + 1) = 2 * (j : Int) + 1 := wrap_i64_of _ (by omega)
        go_region_held3 (fun _ => True) (trivial) (first
          | (go_at_call 29; (first | refine (HI0.out _).mono ?_ | refine (HI1.out _).mono ?_); rintro e w' ⟨rfl, rfl⟩))
        all_goals
          clear u1 n0 n1 t0 t1 hx0 hx1 HI0 HI1
          by_cases hb : v0 < 0 ∨ v1 < 0
          · have hn : unhex S = none := by rw [HU.out, HS1.out hb]; rfl
            obtain ⟨r1, r2⟩ := un_none hn
            have HRR := HR
            rw [r1, r2] at HRR
            clear HU HS0 HS1 hn r1 r2
            by_cases hb0 : v0 < 0
            · go_wp2_with fail
              go_ret2
              exact ⟨by rw [← HRR.out]; rfl, HB.out.drew⟩
            · have hb1 : v1 < 0 := by omega
              go_wp2_with fail
              go_ret2
              exact ⟨by rw [← HRR.out]; rfl, HB.out.drew⟩
          · obtain ⟨p, rfl⟩ : ∃ p : Nat, v0 = (p : Int) := ⟨v0.toNat, by omega⟩
            obtain ⟨q, rfl⟩ : ∃ q : Nat, v1 = (q : Int) := ⟨v1.toNat, by omega⟩
            have hor := shl_or p q (by omega) (by omega)
            have HU2 := Lib.hid (show unhex S = (unhex (S.drop (2 * (j + 1)))).map (l ++ [UInt8.ofNat (p * 16 + q)] ++ ·) by
              rw [HU.out, HS0.out ⟨by omega, by omega⟩]
              have e : 2 * (j + 1) = 2 * j + 2 := by omega
              rw [e]
              cases unhex (S.drop (2 * j + 2)) with
              | none => rfl
              | some r => simp)
            have hv : ((p * 16 + q : Nat) : Int) = ((UInt8.ofNat (p * 16 + q)).toNat : Int) := by rw [UInt8.toNat_ofNat']; omega
            have HV := Lib.hid hv
            have hpq : p * 16 + q < 256 := by omega
            generalize p * 16 + q = pq at *
            have HBS := Lib.hid HB.out.size
            have HLJ := Lib.hid hlj
            clear HU HS0 HS1 hv hlj
            go_wp2_with (at_builtin; refine wpList_appRd (.inl rfl) (.tmp 33) (.tmp 39) rfl w.heap.size A2 j c2 l rfl HLJ.out.symm (OwnR.alloc (OwnR.drew HO.out) _) (some ⟨wr.heap.size, 0, none⟩) 1 1 [UInt8.ofNat pq] rfl rfl (rd_cells _ [UInt8.ofNat pq] _ (by simp only [bc, List.map_cons, List.map_nil]; rw [HV.out])) (by rw [HLJ.out]; simp; omega) (by have := HBS.out; simp; omega) ?_; (intro A3 c3 w3 hown3 hg3 hat3))
            refine ⟨⟨j + 1, l ++ [UInt8.ofNat pq], A3, c3, int_eq (by omega), slice_val (by simp), by simp [HLJ.out], by omega, HU2, Lib.hid hown3, ?_⟩, by simp [intOf]; omega⟩
            exact Lib.hid ((HB.out.drew.alloc HBS.out _).grown hg3 (by have := HBS.out; simp; omega) (fun k hk => (OwnR.lt HO.out k hk).1))
      · have hjs : 2 * j = s.size := by omega
        have hn : unhex S = some l := by
          rw [HU.out, List.drop_eq_nil_of_le (by have := HSL.out; omega)]
          simp [unhex]
        obtain ⟨r1, r2⟩ := un_some hn
        rw [r1, r2] at HR
        have hst := run_str (n := j) c2 (OwnB.rd HO.out) hlj.symm
        clear hn r1 r2 HU
        go_wp2_with fail
        go_ret2
        exact ⟨by rw [← HR.out]; rfl, HB.out⟩
end Go.Proofs.Ytpjgcceacfdheaa
