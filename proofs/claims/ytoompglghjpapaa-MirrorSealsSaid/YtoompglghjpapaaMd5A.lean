/-
  Walks: Md5's parts.
-/
import Derived.Test.YtoompglghjpapaaRot
import Derived.Deep.QuietTactic
import Derived.BigQuiet
import Derived.BigRegion
import Derived.StillTailTactics
namespace Go.Proofs.Ytoompglghjpapaa
open Go.RowKit Crc
set_option linter.unusedVariables false
set_option linter.unusedSimpArgs false


theorem byt_nat (x : UInt8) : (Md5.byt x.toNat).toNat = x.toNat := by
  have := x.toNat_lt
  unfold Md5.byt
  rw [BitVec.toNat_ofNat, Nat.mod_eq_of_lt (by omega)]
theorem or_val (a b : BitVec 32) : bits .or .u32 (a.toNat : Int) (b.toNat : Int) = ((a ||| b).toNat : Int) := by
  have := a.isLt; have := b.isLt
  rw [u32_or_nat _ _ (by omega) (by omega), BitVec.toNat_or]
theorem and_val (a b : BitVec 32) : bits .and .u32 (a.toNat : Int) (b.toNat : Int) = ((a &&& b).toNat : Int) := by
  have := a.isLt; have := b.isLt
  rw [u32_and_nat _ _ (by omega) (by omega), BitVec.toNat_and]
theorem xor_val (a b : BitVec 32) : bits .xor .u32 (a.toNat : Int) (b.toNat : Int) = ((a ^^^ b).toNat : Int) := by
  have := a.isLt; have := b.isLt
  rw [u32_xor_nat _ _ (by omega) (by omega), BitVec.toNat_xor]
theorem not_val (v : BitVec 32) : bits .xor .u32 IntKind.u32.max (v.toNat : Int) = ((~~~ v).toNat : Int) := by
  have h := out32 v
  have hv := v.isLt
  have h2 : bits .xor .u32 IntKind.u32.max (v.toNat : Int) = ((4294967295 ^^^ v.toNat : Nat) : Int) := by
    rw [show IntKind.u32.max = ((4294967295 : Nat) : Int) by rfl, u32_xor_nat _ _ (by omega) (by omega)]
  have h3 : 4294967295 ^^^ v.toNat < 2 ^ 32 := Nat.xor_lt_two_pow (by omega) (by omega)
  rw [h2] at h ⊢
  rw [← h]; unfold wrap64; omega
theorem add_val (a b : BitVec 32) : ((a.toNat : Int) + (b.toNat : Int)) % 4294967296 = ((a + b).toNat : Int) := by
  rw [BitVec.toNat_add]; omega
theorem shl_val (x : UInt8) (i : Nat) (hi : i ≤ 24) : (x.toNat : Int) * ((2 ^ i : Nat) : Int) = ((Md5.byt x.toNat <<< i).toNat : Int) := by
  have hx := x.toNat_lt
  rw [BitVec.toNat_shiftLeft, byt_nat, Nat.shiftLeft_eq, Nat.mod_eq_of_lt]
  · rw [Int.natCast_mul]
  · have : 2 ^ i ≤ 2 ^ 24 := Nat.pow_le_pow_right (by omega) hi
    have : x.toNat * 2 ^ i ≤ 255 * 2 ^ 24 := Nat.mul_le_mul (by omega) this
    omega
theorem word_val (x0 x1 x2 x3 : UInt8) : bits .or .u32 (bits .or .u32 (bits .or .u32 (x0.toNat : Int) ((x1.toNat : Int) * 256)) ((x2.toNat : Int) * 65536)) ((x3.toNat : Int) * 16777216)
    = ((Md5.byt x0.toNat ||| Md5.byt x1.toNat <<< 8 ||| Md5.byt x2.toNat <<< 16 ||| Md5.byt x3.toNat <<< 24).toNat : Int) := by
  have h1 := shl_val x1 8 (by omega)
  have h2 := shl_val x2 16 (by omega)
  have h3 := shl_val x3 24 (by omega)
  have h0 := byt_nat x0
  rw [show ((256 : Int)) = ((2 ^ 8 : Nat) : Int) by rfl, show ((65536 : Int)) = ((2 ^ 16 : Nat) : Int) by rfl, show ((16777216 : Int)) = ((2 ^ 24 : Nat) : Int) by rfl, h1, h2, h3, ← h0, or_val, or_val, or_val, h0]

theorem turn_bd (t : Nat) (h : t < 64) : 1 ≤ Md5.turn t ∧ Md5.turn t ≤ 31 := by
  have : ∀ j : Fin 64, 1 ≤ Md5.turn j.val ∧ Md5.turn j.val ≤ 31 := by decide
  exact this ⟨t, h⟩
theorem b_val (a b f k w : BitVec 32) (n : Nat) : ((b.toNat : Int) + ((Md5.rot (BitVec.ofNat 32 ((a.toNat + f.toNat + k.toNat + w.toNat) % 4294967296)) n).toNat : Int)) % 4294967296 = ((b + Md5.rot (a + f + k + w) n).toNat : Int) := by
  have h : BitVec.ofNat 32 ((a.toNat + f.toNat + k.toNat + w.toNat) % 4294967296) = a + f + k + w := by
    apply BitVec.eq_of_toNat_eq
    rw [BitVec.toNat_ofNat, BitVec.toNat_add, BitVec.toNat_add, BitVec.toNat_add]
    omega
  rw [h, add_val]

/-- the 16 words, the first i of them filled -/
def ws (l : List UInt8) (i : Nat) : Array Value := ((List.range 16).map fun j => Value.int .u32 (if j < i then ((Md5.word l j).toNat : Int) else 0)).toArray
theorem ws_get (l : List UInt8) (i j : Nat) (hj : j < 16) : (ws l i)[j]? = some (.int .u32 (if j < i then ((Md5.word l j).toNat : Int) else 0)) := by
  simp [ws, hj]
theorem ws_set (l : List UInt8) (i : Nat) (hi : i < 16) : (ws l i).setIfInBounds i (.int .u32 ((Md5.word l i).toNat : Int)) = ws l (i + 1) := by
  apply Array.ext_getElem?
  intro j
  rw [Array.getElem?_setIfInBounds]
  by_cases hj : j < 16
  · rw [ws_get l (i + 1) j hj, ws_get l i j hj]
    by_cases e : i = j
    · subst e
      have : i < (ws l i).size := by simp [ws, hi]
      simp [this]
    · have h1 : (j < i + 1) ↔ (j < i) := by omega
      simp [e, h1]
  · have h1 : (ws l i).size ≤ j := by simp [ws]; omega
    have h2 : (ws l (i + 1)).size ≤ j := by simp [ws]; omega
    have h3 : i ≠ j := by omega
    simp [h1, h2, h3, Array.getElem?_eq_none]


theorem ws_next (l : List UInt8) (i : Nat) (hi : i < 16) : (ws l i).setIfInBounds i (.int .u32 (bits .or .u32 (bits .or .u32 (bits .or .u32 ((l.getD (4 * i) 0).toNat : Int) (((l.getD (4 * i + 1) 0).toNat : Int) * 256)) (((l.getD (4 * i + 2) 0).toNat : Int) * 65536)) (((l.getD (4 * i + 3) 0).toNat : Int) * 16777216))) = ws l (i + 1) := by
  rw [word_val]; exact ws_set l i hi

def stv (s : Md5.St) : Array Value := #[.int .u32 (s.a.toNat : Int), .int .u32 (s.b.toNat : Int), .int .u32 (s.c.toNat : Int), .int .u32 (s.d.toNat : Int)]
def tbl : Array Value := ((List.range 64).map fun j => Value.int .u32 ((Md5.sine j).toNat : Int)).toArray
def trn : Array Value := ((List.range 16).map fun j => Value.int .i64 ((Md5.turns.getD j 0 : Nat) : Int)).toArray
theorem tbl_get (t : Nat) (h : t < 64) : tbl[t]? = some (.int .u32 ((Md5.sine t).toNat : Int)) := by simp [tbl, h]
theorem trn_get (t : Nat) (h : t < 64) : trn[t / 16 * 4 + t % 4]? = some (.int .i64 ((Md5.turn t : Nat) : Int)) := by
  have : t / 16 * 4 + t % 4 < 16 := by omega
  simp [trn, Md5.turn, this]

theorem stv_set (st : Md5.St) (a b c d : Int) : ((((stv st).setIfInBounds 0 (.int .u32 a)).setIfInBounds 1 (.int .u32 b)).setIfInBounds 2 (.int .u32 c)).setIfInBounds 3 (.int .u32 d) = #[.int .u32 a, .int .u32 b, .int .u32 c, .int .u32 d] := by
  simp [stv]
theorem mix_end (W1 : World) (s n : Nat) (st r : Md5.St) (h : Blk W1 s 140 (stv st)) :
    Blk (((((W1.drewN n).setCell ⟨s, 0, none⟩ (.int .u32 (((st.a.toNat : Int) + (r.a.toNat : Int)) % 4294967296))).setCell ⟨s, 1, none⟩ (.int .u32 (((st.b.toNat : Int) + (r.b.toNat : Int)) % 4294967296))).setCell ⟨s, 2, none⟩ (.int .u32 (((st.c.toNat : Int) + (r.c.toNat : Int)) % 4294967296))).setCell ⟨s, 3, none⟩ (.int .u32 (((st.d.toNat : Int) + (r.d.toNat : Int)) % 4294967296))) s 140 (stv (Md5.add st r)) := by
  rw [add_val, add_val, add_val, add_val]
  have h2 := ((((h.drewN n).set_ 0 (.int .u32 ((st.a + r.a).toNat : Int))).set_ 1 (.int .u32 ((st.b + r.b).toNat : Int))).set_ 2 (.int .u32 ((st.c + r.c).toNat : Int))).set_ 3 (.int .u32 ((st.d + r.d).toNat : Int))
  rw [stv_set] at h2
  exact h2
theorem mix_kept (w W1 : World) (s n : Nat) (v0 v1 v2 v3 : Value) (h : Below w.heap.size w W1) :
    w.grownBy (((((W1.drewN n).setCell ⟨s, 0, none⟩ v0).setCell ⟨s, 1, none⟩ v1).setCell ⟨s, 2, none⟩ v2).setCell ⟨s, 3, none⟩ v3) (some s) :=
  only_setCell (p := ⟨s, 3, none⟩) (only_setCell (p := ⟨s, 2, none⟩) (only_setCell (p := ⟨s, 1, none⟩) (only_setCell (p := ⟨s, 0, none⟩) (only_drewN (only_of_below h _) n) (.inl rfl) v0) (.inl rfl) v1) (.inl rfl) v2) (.inl rfl) v3

set_option maxRecDepth 100000 in
set_option maxHeartbeats 2000000 in
theorem mix_any (s k : Nat) (st : Md5.St) (pa : Addr) (l : List UInt8) (cap : Nat) (w : World) (hl : l.length = 64) (h : RdB w (some pa) l) (hs : Blk w s 140 (stv st)) (hk : Blk w k 141 tbl) :
    Calls Try.prog 80 #[.pointer (some ⟨s, 0, none⟩), .slice (some pa) 64 cap, .pointer (some ⟨k, 0, none⟩)] w fun e w' => e = .returned (.tuple #[]) ∧
      Blk w' s 140 (stv (Md5.mix l st)) ∧ w.grownBy w' (some s) := by
  have Hl := Lib.hid hl; clear hl
  have H := Lib.hid h; clear h
  have HS := Lib.hid hs; clear hs
  have HK := Lib.hid hk; clear hk
  go_enter Try.func80, Try.ntmps80
  go_wp2
  go_loopw [16] (fun i wr => ∃ k : Nat, k ≤ 16 ∧ i = .int .i64 k ∧ Hid (Blk wr w.heap.size 150 (ws l k)) ∧ Hid (Below w.heap.size w wr)) (fun i _ => 16 - (intOf i).toNat)
  case atStart => exact ⟨0, by omega, rfl, Blk.new _ _ _, (Below.refl _ _).alloc (Nat.le_refl _) _⟩
  case round =>
    obtain ⟨i, hi, rfl, HB, HW⟩ := hrel
    have HR := Lib.hid (H.out.below HW.out)
    by_cases hlt : i < 16
    · obtain ⟨_, e, hc⟩ := HR.out (by have := Hl.out; omega)
      cases e
      have c0 := hc (4 * i) (by have := Hl.out; omega)
      have c1 := hc (4 * i + 1) (by have := Hl.out; omega)
      have c2 := hc (4 * i + 2) (by have := Hl.out; omega)
      have c3 := hc (4 * i + 3) (by have := Hl.out; omega)
      have b0 := getD_lt l (4 * i)
      have b1 := getD_lt l (4 * i + 1)
      have b2 := getD_lt l (4 * i + 2)
      have b3 := getD_lt l (4 * i + 3)
      rw [add_pos _ _ (by omega)] at c1 c2 c3
      clear hc
      have cw := HB.out.cell i
      rw [ws_get l i i hlt, if_neg (by omega)] at cw
      have cf := HB.out.frozen i
      have HE := Lib.hid (ws_next l i hlt)
      generalize l.getD (4 * i) 0 = x0 at *
      generalize l.getD (4 * i + 1) 0 = x1 at *
      generalize l.getD (4 * i + 2) 0 = x2 at *
      generalize l.getD (4 * i + 3) 0 = x3 at *
      go_wp2
      go_region
      go_wp2
      go_roundw
      case rel => exact ⟨i + 1, by omega, by go_num, HE.out ▸ (Blk.set_ HB.out i _).drew, (HW.out.setCell (p := ⟨w.heap.size, i, none⟩) (Nat.le_refl _) _).drew⟩
      case measure => simp [intOf]; omega
    · have HS1 := Lib.hid (HS.out.below HW.out HS.out.lt)
      have s0 := HS1.out.cell 0
      have s1 := HS1.out.cell 1
      have s2 := HS1.out.cell 2
      have s3 := HS1.out.cell 3
      simp [stv] at s0 s1 s2 s3
      have hz : s < wr.heap.size := HS1.out.lt
      go_wp2
      go_quiet (fail)
      go_wp2
      have HI := Lib.hid (show i = 16 by omega)
      have HT := Lib.hid (Blk.new wr 152 trn)
      have HB2 := Lib.hid (HB.out.alloc (.cells trn 152))
      have HK2 := Lib.hid ((HK.out.below HW.out HK.out.lt).alloc (.cells trn 152))
      have HS2 := Lib.hid (HS1.out.alloc (.cells trn 152))
      have HW2 := Lib.hid (HW.out.alloc HW.out.size (.cells trn 152))
      have htb : wr.heap.size < (wr.alloc (.cells trn 152)).heap.size := by simp
      have HW1 : Hid (wr.alloc (.cells trn 152) = wr.alloc (.cells trn 152)) := rfl
      change Code.wp _ _ _ _ ((wr.alloc (.cells trn 152)).drewN nq)
      generalize wr.alloc (.cells trn 152) = W1 at *
      generalize wr.heap.size = tb at *
      clear HR HB HW HS1 s0 s1 s2 s3 hz HW1 HK HS H
      go_loopw [9, 10, 11, 12, 76] (fun a b c d t wr => (∃ n, wr = W1.drewN n) ∧ ∃ k : Nat, k ≤ 64 ∧ t = .int .i64 k ∧ ∃ r : Md5.St, Hid (r = Md5.rounds (Md5.word l) k st) ∧ a = .int .u32 (r.a.toNat : Int) ∧ b = .int .u32 (r.b.toNat : Int) ∧ c = .int .u32 (r.c.toNat : Int) ∧ d = .int .u32 (r.d.toNat : Int)) (fun _ _ _ _ t _ => 64 - (intOf t).toNat)
      case atStart => exact ⟨⟨_, rfl⟩, 0, by omega, rfl, st, rfl, rfl, rfl, rfl, rfl⟩
      case round =>
        obtain ⟨⟨n, rfl⟩, t, ht, rfl, r, Hr, rfl, rfl, rfl, rfl⟩ := hrel
        by_cases hlt : t < 64
        · have ck := HK2.out.cell t
          rw [tbl_get t hlt] at ck
          have ct := HT.out.cell (t / 16 * 4 + t % 4)
          rw [trn_get t hlt] at ct
          have cw := HB2.out.cell (Md5.gg t % 16)
          rw [ws_get l i _ (Nat.mod_lt _ (by omega)), if_pos (by have := HI.out; have := Nat.mod_lt (Md5.gg t) (show 0 < 16 by omega); omega)] at cw
          by_cases h16 : t < 16
          · as_aux_lemma =>
            have HG := Lib.hid (show Md5.gg t = t by unfold Md5.gg; rw [if_pos (by omega)])
            rw [HG.out] at cw
            have hq0 : ((t : Int) / 16 == 0) = true := by rw [beq_iff_eq]; omega
            go_wp2
            simp only [not_val, and_val, or_val, xor_val]
            have HF := Lib.hid (show Md5.ff t r.b r.c r.d = (r.b &&& r.c ||| ~~~r.b &&& r.d) by unfold Md5.ff; rw [if_pos (by omega)])
            generalize (r.b &&& r.c ||| ~~~r.b &&& r.d) = f at *
            have m1 : (t : Int).tmod 16 = (t : Int) % 16 := Int.tmod_eq_emod_of_nonneg (by omega)
            have m2 : (t : Int).tmod 4 = (t : Int) % 4 := Int.tmod_eq_emod_of_nonneg (by omega)
            have m3 : (t : Int).tdiv 16 = (t : Int) / 16 := Int.tdiv_eq_ediv_of_nonneg (by omega)
            have m4 : IntKind.i64.wrap ((t : Int) / 16) = (t : Int) / 16 := IntWalk.i64_in _ (by omega)
            have m5 : (0 : Int) ≤ (t : Int) % 16 := by omega
            have m6 : (t : Int) % 16 < 16 := by omega
            have m7 : (0 : Int) ≤ (t : Int) % 4 := by omega
            have m8 : (t : Int) % 4 < 4 := by omega
            have m9 : (0 : Int) ≤ (t : Int) / 16 := by omega
            have m10 : (t : Int) / 16 < 4 := by omega
            have n1 : ((t : Int) % 16).toNat = (t) % 16 := by omega
            have n2 : ((t : Int) % 4).toNat = t % 4 := by omega
            have n3 : ((t : Int) / 16).toNat = t / 16 := by omega
            have n4 : (1 : Int) ≤ (Md5.turn t : Nat) := by have := turn_bd t hlt; omega
            have n5 : ((Md5.turn t : Nat) : Int) ≤ 31 := by have := turn_bd t hlt; omega
            go_quiet ((go_at_call 86; first | exact quiet_add_left (rotl_any _ _ _ (Int.emod_nonneg _ (by decide)) (Int.emod_lt_of_pos _ (by decide)) n4 n5) | exact quiet_left (rotl_any _ _ _ (Int.emod_nonneg _ (by decide)) (Int.emod_lt_of_pos _ (by decide)) n4 n5)))
            clear m1 m2 m3 m4 m5 m6 m7 m8 m9 m10 n1 n2 n3
            go_wp2
            exact ⟨⟨⟨_, rfl⟩, t + 1, by omega, by go_num, Md5.round (Md5.word l) t r, by rw [Hr.out]; rfl, rfl, int_eq (by rw [b_val]; unfold Md5.round; rw [HF.out, HG.out]), rfl, rfl⟩, by simp [intOf]; omega⟩
          · by_cases h32 : t < 32
            · as_aux_lemma =>
              have HG := Lib.hid (show Md5.gg t = 5 * t + 1 by unfold Md5.gg; rw [if_neg (by omega), if_pos (by omega)])
              rw [HG.out] at cw
              have hq0 : ((t : Int) / 16 == 0) = false := by rw [beq_eq_false_iff_ne]; omega
              have hq1 : ((t : Int) / 16 == 1) = true := by rw [beq_iff_eq]; omega
              go_wp2
              simp only [not_val, and_val, or_val, xor_val]
              have HF := Lib.hid (show Md5.ff t r.b r.c r.d = (r.d &&& r.b ||| ~~~r.d &&& r.c) by unfold Md5.ff; rw [if_neg (by omega), if_pos (by omega)])
              generalize (r.d &&& r.b ||| ~~~r.d &&& r.c) = f at *
              have m1 : (5 * (t : Int) + 1).tmod 16 = (5 * (t : Int) + 1) % 16 := Int.tmod_eq_emod_of_nonneg (by omega)
              have m2 : (t : Int).tmod 4 = (t : Int) % 4 := Int.tmod_eq_emod_of_nonneg (by omega)
              have m3 : (t : Int).tdiv 16 = (t : Int) / 16 := Int.tdiv_eq_ediv_of_nonneg (by omega)
              have m4 : IntKind.i64.wrap ((t : Int) / 16) = (t : Int) / 16 := IntWalk.i64_in _ (by omega)
              have m5 : (0 : Int) ≤ (5 * (t : Int) + 1) % 16 := by omega
              have m6 : (5 * (t : Int) + 1) % 16 < 16 := by omega
              have m7 : (0 : Int) ≤ (t : Int) % 4 := by omega
              have m8 : (t : Int) % 4 < 4 := by omega
              have m9 : (0 : Int) ≤ (t : Int) / 16 := by omega
              have m10 : (t : Int) / 16 < 4 := by omega
              have n1 : ((5 * (t : Int) + 1) % 16).toNat = (5 * t + 1) % 16 := by omega
              have n2 : ((t : Int) % 4).toNat = t % 4 := by omega
              have n3 : ((t : Int) / 16).toNat = t / 16 := by omega
              have n4 : (1 : Int) ≤ (Md5.turn t : Nat) := by have := turn_bd t hlt; omega
              have n5 : ((Md5.turn t : Nat) : Int) ≤ 31 := by have := turn_bd t hlt; omega
              go_quiet ((go_at_call 86; first | exact quiet_add_left (rotl_any _ _ _ (Int.emod_nonneg _ (by decide)) (Int.emod_lt_of_pos _ (by decide)) n4 n5) | exact quiet_left (rotl_any _ _ _ (Int.emod_nonneg _ (by decide)) (Int.emod_lt_of_pos _ (by decide)) n4 n5)))
              clear m1 m2 m3 m4 m5 m6 m7 m8 m9 m10 n1 n2 n3
              go_wp2
              exact ⟨⟨⟨_, rfl⟩, t + 1, by omega, by go_num, Md5.round (Md5.word l) t r, by rw [Hr.out]; rfl, rfl, int_eq (by rw [b_val]; unfold Md5.round; rw [HF.out, HG.out]), rfl, rfl⟩, by simp [intOf]; omega⟩
            · by_cases h48 : t < 48
              · as_aux_lemma =>
                have HG := Lib.hid (show Md5.gg t = 3 * t + 5 by unfold Md5.gg; rw [if_neg (by omega), if_neg (by omega), if_pos (by omega)])
                rw [HG.out] at cw
                have hq0 : ((t : Int) / 16 == 0) = false := by rw [beq_eq_false_iff_ne]; omega
                have hq1 : ((t : Int) / 16 == 1) = false := by rw [beq_eq_false_iff_ne]; omega
                have hq2 : ((t : Int) / 16 == 2) = true := by rw [beq_iff_eq]; omega
                go_wp2
                simp only [not_val, and_val, or_val, xor_val]
                have HF := Lib.hid (show Md5.ff t r.b r.c r.d = (r.b ^^^ r.c ^^^ r.d) by unfold Md5.ff; rw [if_neg (by omega), if_neg (by omega), if_pos (by omega)])
                generalize (r.b ^^^ r.c ^^^ r.d) = f at *
                have m1 : (3 * (t : Int) + 5).tmod 16 = (3 * (t : Int) + 5) % 16 := Int.tmod_eq_emod_of_nonneg (by omega)
                have m2 : (t : Int).tmod 4 = (t : Int) % 4 := Int.tmod_eq_emod_of_nonneg (by omega)
                have m3 : (t : Int).tdiv 16 = (t : Int) / 16 := Int.tdiv_eq_ediv_of_nonneg (by omega)
                have m4 : IntKind.i64.wrap ((t : Int) / 16) = (t : Int) / 16 := IntWalk.i64_in _ (by omega)
                have m5 : (0 : Int) ≤ (3 * (t : Int) + 5) % 16 := by omega
                have m6 : (3 * (t : Int) + 5) % 16 < 16 := by omega
                have m7 : (0 : Int) ≤ (t : Int) % 4 := by omega
                have m8 : (t : Int) % 4 < 4 := by omega
                have m9 : (0 : Int) ≤ (t : Int) / 16 := by omega
                have m10 : (t : Int) / 16 < 4 := by omega
                have n1 : ((3 * (t : Int) + 5) % 16).toNat = (3 * t + 5) % 16 := by omega
                have n2 : ((t : Int) % 4).toNat = t % 4 := by omega
                have n3 : ((t : Int) / 16).toNat = t / 16 := by omega
                have n4 : (1 : Int) ≤ (Md5.turn t : Nat) := by have := turn_bd t hlt; omega
                have n5 : ((Md5.turn t : Nat) : Int) ≤ 31 := by have := turn_bd t hlt; omega
                go_quiet ((go_at_call 86; first | exact quiet_add_left (rotl_any _ _ _ (Int.emod_nonneg _ (by decide)) (Int.emod_lt_of_pos _ (by decide)) n4 n5) | exact quiet_left (rotl_any _ _ _ (Int.emod_nonneg _ (by decide)) (Int.emod_lt_of_pos _ (by decide)) n4 n5)))
                clear m1 m2 m3 m4 m5 m6 m7 m8 m9 m10 n1 n2 n3
                go_wp2
                exact ⟨⟨⟨_, rfl⟩, t + 1, by omega, by go_num, Md5.round (Md5.word l) t r, by rw [Hr.out]; rfl, rfl, int_eq (by rw [b_val]; unfold Md5.round; rw [HF.out, HG.out]), rfl, rfl⟩, by simp [intOf]; omega⟩
              · as_aux_lemma =>
                have HG := Lib.hid (show Md5.gg t = 7 * t by unfold Md5.gg; rw [if_neg (by omega), if_neg (by omega), if_neg (by omega)])
                rw [HG.out] at cw
                have hq0 : ((t : Int) / 16 == 0) = false := by rw [beq_eq_false_iff_ne]; omega
                have hq1 : ((t : Int) / 16 == 1) = false := by rw [beq_eq_false_iff_ne]; omega
                have hq2 : ((t : Int) / 16 == 2) = false := by rw [beq_eq_false_iff_ne]; omega
                go_wp2
                simp only [not_val, and_val, or_val, xor_val]
                have HF := Lib.hid (show Md5.ff t r.b r.c r.d = (r.c ^^^ (r.b ||| ~~~r.d)) by unfold Md5.ff; rw [if_neg (by omega), if_neg (by omega), if_neg (by omega)])
                generalize (r.c ^^^ (r.b ||| ~~~r.d)) = f at *
                have m1 : (7 * (t : Int)).tmod 16 = (7 * (t : Int)) % 16 := Int.tmod_eq_emod_of_nonneg (by omega)
                have m2 : (t : Int).tmod 4 = (t : Int) % 4 := Int.tmod_eq_emod_of_nonneg (by omega)
                have m3 : (t : Int).tdiv 16 = (t : Int) / 16 := Int.tdiv_eq_ediv_of_nonneg (by omega)
                have m4 : IntKind.i64.wrap ((t : Int) / 16) = (t : Int) / 16 := IntWalk.i64_in _ (by omega)
                have m5 : (0 : Int) ≤ (7 * (t : Int)) % 16 := by omega
                have m6 : (7 * (t : Int)) % 16 < 16 := by omega
                have m7 : (0 : Int) ≤ (t : Int) % 4 := by omega
                have m8 : (t : Int) % 4 < 4 := by omega
                have m9 : (0 : Int) ≤ (t : Int) / 16 := by omega
                have m10 : (t : Int) / 16 < 4 := by omega
                have n1 : ((7 * (t : Int)) % 16).toNat = (7 * t) % 16 := by omega
                have n2 : ((t : Int) % 4).toNat = t % 4 := by omega
                have n3 : ((t : Int) / 16).toNat = t / 16 := by omega
                have n4 : (1 : Int) ≤ (Md5.turn t : Nat) := by have := turn_bd t hlt; omega
                have n5 : ((Md5.turn t : Nat) : Int) ≤ 31 := by have := turn_bd t hlt; omega
                go_quiet ((go_at_call 86; first | exact quiet_add_left (rotl_any _ _ _ (Int.emod_nonneg _ (by decide)) (Int.emod_lt_of_pos _ (by decide)) n4 n5) | exact quiet_left (rotl_any _ _ _ (Int.emod_nonneg _ (by decide)) (Int.emod_lt_of_pos _ (by decide)) n4 n5)))
                clear m1 m2 m3 m4 m5 m6 m7 m8 m9 m10 n1 n2 n3
                go_wp2
                exact ⟨⟨⟨_, rfl⟩, t + 1, by omega, by go_num, Md5.round (Md5.word l) t r, by rw [Hr.out]; rfl, rfl, int_eq (by rw [b_val]; unfold Md5.round; rw [HF.out, HG.out]), rfl, rfl⟩, by simp [intOf]; omega⟩
        · have hs0 := HS2.out.cell 0
          have hs1 := HS2.out.cell 1
          have hs2 := HS2.out.cell 2
          have hs3 := HS2.out.cell 3
          simp [stv] at hs0 hs1 hs2 hs3
          have hf0 := HS2.out.frozen 0
          have hf1 := HS2.out.frozen 1
          have hf2 := HS2.out.frozen 2
          have hf3 := HS2.out.frozen 3
          go_wp2
          go_region
          go_wp2
          go_end0
          have er : r = Md5.rounds (Md5.word l) 64 st := by rw [Hr.out, show t = 64 by omega]
          rw [Md5.mix, ← er]
          exact ⟨rfl, mix_end _ _ _ _ _ HS2.out, mix_kept _ _ _ _ _ _ _ _ HW2.out⟩
end Go.Proofs.Ytoompglghjpapaa
