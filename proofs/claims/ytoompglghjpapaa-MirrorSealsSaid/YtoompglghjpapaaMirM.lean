/-
  The plain law of MirrorSeals: bytes on two disks, one of which rots by one bit.
-/
import Derived.Test.YtoompglghjpapaaMirL
namespace Go.Proofs.Ytoompglghjpapaa
open Go.RowKit Crc
set_option linter.unusedVariables false
set_option linter.unusedSimpArgs false

def seal1 (off : Nat) (T : List UInt8) : St := onN 2 ((Dk.fresh 5).write off T)
def seal2 (off : Nat) (T : List UInt8) (k : Nat) : St := ((seal1 off T).rot 0 ((off + k : Nat) : Int) 4).2
def turned (T : List UInt8) (k : Nat) : List UInt8 := T.set k (T.getD k 0 ^^^ 4)
theorem put_mid {l b : List UInt8} {o : Nat} (h : o + b.length ≤ l.length) : ((putAt l o b).drop o).take b.length = b := by
  apply List.ext_getElem?
  intro i
  rw [List.getElem?_take, List.getElem?_drop]
  by_cases hi : i < b.length
  · rw [if_pos hi, putAt_get h, if_pos (by omega)]
    congr 1; omega
  · rw [if_neg hi, List.getElem?_eq_none (by omega)]
theorem xor_mid {l b : List UInt8} {o k : Nat} (h : o + b.length ≤ l.length) (hk : k < b.length) : ((xorAt (putAt l o b) (o + k) 4).drop o).take b.length = turned b k := by
  apply List.ext_getElem?
  intro i
  rw [List.getElem?_take, List.getElem?_drop]
  unfold turned
  by_cases hi : i < b.length
  · by_cases hik : k = i
    · subst hik
      rw [if_pos hi, xorAt_get, if_pos rfl, putAt_get h, if_pos ⟨by omega, by omega⟩, List.getElem?_set_self hk, show o + k - o = k by omega]
      simp [List.getD, hk]
    · rw [if_pos hi, xorAt_get, if_neg (by omega), putAt_get h, if_pos ⟨by omega, by omega⟩, List.getElem?_set_ne hik, show o + i - o = i by omega]
  · rw [if_neg hi, List.getElem?_eq_none (by simp; omega)]
theorem seal1_ok {off : Nat} {T : List UInt8} (h : off + T.length ≤ 640) : ((Dk.fresh 5).write off T).size = 640 ∧ ((((Dk.fresh 5).write off T).rd.drop off).take T.length) = T := by
  refine ⟨by rw [write_size _ (by rw [fresh_size]; omega), fresh_size], ?_⟩
  exact put_mid (by show off + T.length ≤ (zeroB (128 * 5)).length; rw [zeroB_length]; omega)
theorem seal_lay {off : Nat} {oi : Int} {T : List UInt8} (ho : oi = (off : Int)) (h : off + T.length ≤ 640) : layG (onN 2 (Dk.fresh 5)) oi T 2 0 = (0, seal1 off T) := layG_on ho (by rw [fresh_size]; omega)
theorem seal1_at {off k : Nat} {T : List UInt8} (hk : k < 2) : (seal1 off T).at_ k = (Dk.fresh 5).write off T := by
  rcases (by omega : k = 0 ∨ k = 1) with rfl | rfl <;> rfl
theorem seal1_all {off : Nat} {oi ni : Int} {T : List UInt8} {n : Nat} (ho : oi = (off : Int)) (hn : ni = (n : Int)) (hT : T.length = n) (hn1 : 1 ≤ n) (h : off + n ≤ 640) : lookR (seal1 off T) oi ni 2 = 0 ∧ ∀ k, k < 2 → readB ((seal1 off T).at_ k) (seal1 off T).off oi ni = T :=
  all_look rfl ho hn hT hn1 fun k hk => by
    rw [seal1_at hk]
    have := seal1_ok (off := off) (T := T) (by omega)
    rw [hT] at this
    exact ⟨by rw [this.1]; omega, this.2⟩
theorem seal_rot {off k : Nat} {T : List UInt8} (h : off + T.length ≤ 640) (hk : k < T.length) : ((seal1 off T).rot 0 ((off + k : Nat) : Int) 4).1 = 0 ∧ (seal2 off T k).off = false ∧ (seal2 off T k).at_ 0 = ((Dk.fresh 5).write off T).rot (off + k) 4 ∧ (seal2 off T k).at_ 1 = (Dk.fresh 5).write off T := by
  have hs := (seal1_ok h).1
  have hin : inB ((seal1 off T).at_ 0).size ((off + k : Nat) : Int) 1 = true := by
    rw [seal1_at (by omega), hs]; simp [inB]; omega
  have he : rotE ((seal1 off T).at_ 0) (seal1 off T).off ((off + k : Nat) : Int) = 0 := by
    unfold rotE
    rw [if_pos hin]; rfl
  refine ⟨he, rfl, ?_, rfl⟩
  show rotD ((seal1 off T).at_ 0) (seal1 off T).off _ 4 = _
  unfold rotD
  rw [if_pos he, seal1_at (by omega), Int.toNat_natCast]
theorem seal2_look {off k : Nat} {oi ni : Int} {T : List UInt8} {n : Nat} (ho : oi = (off : Int)) (hn : ni = (n : Int)) (hT : T.length = n) (hn1 : 1 ≤ n) (h : off + n ≤ 640) (hk : k < n) :
    lookR (seal2 off T k) oi ni 2 = 0 ∧ readB ((seal2 off T k).at_ 0) (seal2 off T k).off oi ni = turned T k ∧ readB ((seal2 off T k).at_ 1) (seal2 off T k).off oi ni = T := by
  obtain ⟨_, h1, h2, h3⟩ := seal_rot (off := off) (T := T) (by omega) (by omega : k < T.length)
  have hs := seal1_ok (off := off) (T := T) (by omega)
  have hsz : (((Dk.fresh 5).write off T).rot (off + k) 4).size = 640 := by
    rw [← hs.1]
    exact xorAt_length _ _ _
  have r0 := read_on (D := (seal2 off T k).at_ 0) (off := (seal2 off T k).off) (o := off) (n := n) (oi := oi) (ni := ni) h1 ho hn (by rw [h2, hsz]; exact h)
  have r1 := read_on (D := (seal2 off T k).at_ 1) (off := (seal2 off T k).off) (o := off) (n := n) (oi := oi) (ni := ni) h1 ho hn (by rw [h3, hs.1]; exact h)
  refine ⟨?_, ?_, ?_⟩
  · unfold lookR
    rw [if_neg (by omega)]
    refine lookE_none _ oi ni 2 0 fun j _ hj => ?_
    rcases (by omega : j = 0 ∨ j = 1) with rfl | rfl
    · exact r0.1
    · exact r1.1
  · rw [r0.2, h2, ← hT]
    exact xor_mid (by show off + T.length ≤ (zeroB (128 * 5)).length; rw [zeroB_length]; omega) (by omega)
  · rw [r1.2, h3, ← hT]
    exact hs.2
theorem turned_len (T : List UInt8) (k : Nat) : (turned T k).length = T.length := by simp [turned]
theorem turned_crc {T : List UInt8} {k : Nat} (hk : k < T.length) : ¬ crcI (turned T k) = crcI T := fun e => by
  have h1 := crc32_tell T k hk (T.getD k 0 ^^^ 4) (by
    rw [show T[k] = T.getD k 0 by simp [List.getD, hk], ← UInt8.xor_assoc, UInt8.xor_self, UInt8.zero_xor]
    decide)
  refine h1 ?_
  unfold crcI at e
  unfold turned at e
  apply BitVec.eq_of_toNat_eq
  omega
theorem seal2_old {off k : Nat} {oi ni : Int} {T : List UInt8} {n : Nat} (ho : oi = (off : Int)) (hn : ni = (n : Int)) (hT : T.length = n) (hn1 : 1 ≤ n) (h : off + n ≤ 640) (hk : k < n) : whichN (seal2 off T k) oi ni (crcI T) (md5T T) 2 = 1 := by
  obtain ⟨_, h1, h2⟩ := seal2_look (k := k) ho hn hT hn1 h hk
  unfold whichN
  refine idx_hit (by rw [conts_len]; omega) (fun j hj => ?_) (by rw [conts_get _ _ _ (by omega), h2]; exact fits_self T)
  have : j = 0 := by omega
  subst this
  rw [conts_get _ _ _ (by omega), h1]
  unfold fitsB
  rw [decide_eq_false (turned_crc (by omega)), Bool.false_and]
theorem seal2_new {off k : Nat} {oi ni : Int} {T : List UInt8} {n : Nat} (ho : oi = (off : Int)) (hn : ni = (n : Int)) (hT : T.length = n) (hn1 : 1 ≤ n) (h : off + n ≤ 640) (hk : k < n) : whichN (seal2 off T k) oi ni (crcI (turned T k)) (md5T (turned T k)) 2 = 0 := by
  obtain ⟨_, h1, _⟩ := seal2_look (k := k) ho hn hT hn1 h hk
  unfold whichN
  exact idx_hit (by rw [conts_len]; omega) (fun j hj => by omega) (by rw [conts_get _ _ _ (by omega), h1]; exact fits_self _)
end Go.Proofs.Ytoompglghjpapaa
