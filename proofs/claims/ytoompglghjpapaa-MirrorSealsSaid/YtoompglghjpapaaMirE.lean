/-
  Walk: slices.IndexFunc with a seal; (*Mirror).look.
-/
import Derived.Test.YtoompglghjpapaaMirD
namespace Go.Proofs.Ytoompglghjpapaa
open Go.RowKit Crc
set_option linter.unusedVariables false
set_option linter.unusedSimpArgs false
attribute [local go_sem ↓] Go.wp_at_zero Go.wp_at_succ

/-- rows of bytes behind A -/
def RdL (w : World) (B : Nat) (A : Option Addr) (ls : List (List UInt8)) : Prop := ∀ k, k < ls.length → ∃ ad Ak ck, A = some ad ∧ w.cell? (ad.add k) = some (.slice Ak (ls.getD k []).length ck) ∧ RdB w Ak (ls.getD k []) ∧ ∀ x, Ak = some x → B ≤ x.block
theorem RdL.below {w w' : World} {B : Nat} {A : Option Addr} {ls : List (List UInt8)} (h : RdL w B A ls) (hb : Below w.heap.size w w') : RdL w' B A ls := fun k hk => by
  obtain ⟨ad, Ak, ck, h1, h2, h3, h4⟩ := h k hk
  exact ⟨ad, Ak, ck, h1, below_cell hb h2, h3.below hb, h4⟩
def idxI (p : List UInt8 → Bool) (ls : List (List UInt8)) : Int := if ls.findIdx p < ls.length then (ls.findIdx p : Int) else -1
theorem idx_hit {p : List UInt8 → Bool} {ls : List (List UInt8)} {k : Nat} (hk : k < ls.length) (h : ∀ j, j < k → p (ls.getD j []) = false) (hp : p (ls.getD k []) = true) : ls.findIdx p = k := by
  rw [List.findIdx_eq hk]
  have e : ∀ j (hj : j < ls.length), ls.getD j [] = ls[j] := fun j hj => by simp [List.getD, hj]
  exact ⟨by rw [← e k hk]; exact hp, fun j hj => by have := h j hj; rw [e j (by omega)] at this; exact this⟩
theorem idx_none {p : List UInt8 → Bool} {ls : List (List UInt8)} (h : ∀ j, j < ls.length → p (ls.getD j []) = false) : ls.findIdx p = ls.length := by
  rw [List.findIdx_eq_length]
  intro x hx
  obtain ⟨j, hj, rfl⟩ := List.getElem_of_mem hx
  have := h j hj
  rwa [show ls.getD j [] = ls[j] by simp [List.getD, hj]] at this
set_option maxRecDepth 100000 in
set_option maxHeartbeats 1000000 in
theorem indexFit_any (o z cr : Int) (md : ByteArray) (A : Option Addr) (ls : List (List UInt8)) (n c B : Nat) (w : World) (hn : ls.length = n) (hm : n ≤ 1000) (hl : ∀ k, k < n → (ls.getD k []).length ≤ 2097152) (h : RdL w B A ls) :
    Calls Try.prog 64 #[.slice A n c, .func (.func 65) #[.agg #[.int .i64 o, .int .i64 z, .int .i64 cr, .string md]] #[]] w fun e w' => e = .returned (.int .i64 (idxI (fitsB cr md) ls)) ∧ Below w.heap.size w w' := by
  obtain ⟨R, hR⟩ : ∃ R, idxI (fitsB cr md) ls = R := ⟨_, rfl⟩
  have HRR := Lib.hid hR
  have HN := Lib.hid hn
  have HA := Lib.hid h
  have HL := Lib.hid hl
  rw [hR]
  clear hR hn h hl
  go_enter Try.func64, Try.ntmps64
  go_wp2_with fail
  go_loopw [5, 8] (fun _ i wr => ∃ k : Nat, i = .int .i64 (k : Int) ∧ k ≤ n ∧ Hid (∀ j, j < k → fitsB cr md (ls.getD j []) = false) ∧ Hid (Below w.heap.size w wr)) (fun _ i _ => n - (RowKit.intOf i).toNat)
  case atStart => exact ⟨0, rfl, Nat.zero_le _, Lib.hid fun k hk => by omega, Lib.hid (Below.refl _ _)⟩
  case round =>
    obtain ⟨k, rfl, hk, HJ, HW⟩ := hrel
    by_cases hlt : k < n
    · have hkn : (k : Int) < (n : Int) := by omega
      obtain ⟨ad, Ak, ck, rfl, c1, hrd, _⟩ := (HA.out.below HW.out) k (by rw [HN.out]; exact hlt)
      have hlen := HL.out k hlt
      obtain ⟨x, hx⟩ : ∃ x, ls.getD k [] = x := ⟨_, rfl⟩
      have HX := Lib.hid hx
      rw [hx] at c1 hrd hlen
      obtain ⟨m, hm2⟩ : ∃ m, x.length = m := ⟨_, rfl⟩
      have HM2 := Lib.hid hm2
      rw [hm2] at c1 hlen
      have HRD := Lib.hid hrd
      have hcall := fits_any o z cr md Ak x m ck wr hm2 (by omega) hrd
      clear hx hrd hm2
      cases hf : fitsB cr md x with
      | true =>
        rw [hf] at hcall
        have HF := Lib.hid hf
        have HCALL := Lib.hid hcall
        clear hf hcall
        go_wp2_with (go_at_call 65; refine HCALL.out.mono ?_; rintro e w2 ⟨rfl, hb2⟩; have HB2 := Lib.hid hb2; clear hb2)
        go_ret
        refine ⟨?_, HW.out.trans (HB2.out.mono HW.out.size)⟩
        have hi := idx_hit (p := fitsB cr md) (by rw [HN.out]; exact hlt) HJ.out (by rw [HX.out]; exact HF.out)
        rw [← HRR.out]
        unfold idxI
        rw [hi, if_pos (by rw [HN.out]; exact hlt)]
        rfl
      | false =>
        rw [hf] at hcall
        have HF := Lib.hid hf
        have HCALL := Lib.hid hcall
        clear hf hcall
        go_wp2_with (go_at_call 65; refine HCALL.out.mono ?_; rintro e w2 ⟨rfl, hb2⟩; have HB2 := Lib.hid hb2; clear hb2)
        refine ⟨⟨k + 1, int_eq (by omega), by omega, Lib.hid fun j hj => ?_, Lib.hid (HW.out.trans (HB2.out.mono HW.out.size))⟩, by simp [RowKit.intOf]; omega⟩
        by_cases hjk : j = k
        · subst hjk; rw [HX.out]; exact HF.out
        · exact HJ.out j (by omega)
    · go_wp2_with fail
      go_ret
      refine ⟨?_, HW.out⟩
      have hi := idx_none (p := fitsB cr md) (ls := ls) (fun j hj => HJ.out j (by rw [HN.out] at hj; omega))
      rw [← HRR.out]
      unfold idxI
      rw [hi, if_neg (by omega)]
      rfl
/-- the first error of some reads -/
def lookE (S : St) (o n : Int) : Nat → Nat → Int
  | 0, _ => 0
  | c + 1, k => if readE (S.at_ k) S.off o n = 0 then lookE S o n c (k + 1) else readE (S.at_ k) S.off o n
def lookR (S : St) (o z : Int) (N : Nat) : Int := if z < 1 then 1 else lookE S o z N 0
def conts (S : St) (o z : Int) (N : Nat) : List (List UInt8) := (List.range N).map fun k => readB (S.at_ k) S.off o z
theorem conts_len (S : St) (o z : Int) (N : Nat) : (conts S o z N).length = N := by simp [conts]
theorem conts_get (S : St) (o z : Int) {N k : Nat} (h : k < N) : (conts S o z N).getD k [] = readB (S.at_ k) S.off o z := by simp [conts, List.getD, h]
def LookSpec (S : St) (o z : Int) (N : Nat) (w : World) (e : Ending) (w' : World) : Prop :=
  Below w.heap.size w w' ∧ ((lookR S o z N ≠ 0 ∧ e = .returned (.tuple #[.slice none 0 0, .int .i64 (lookR S o z N)])) ∨ (lookR S o z N = 0 ∧ ∃ A c, e = .returned (.tuple #[.slice A N c, .int .i64 0]) ∧ RdL w' w.heap.size A (conts S o z N)))
theorem lookE_none (S : St) (o z : Int) : ∀ (c k : Nat), (∀ j, k ≤ j → j < k + c → readE (S.at_ j) S.off o z = 0) → lookE S o z c k = 0
  | 0, _, _ => rfl
  | c + 1, k, h => by
    unfold lookE
    rw [if_pos (h k (Nat.le_refl _) (by omega))]
    exact lookE_none S o z c (k + 1) fun j h1 h2 => h j (by omega) (by omega)
theorem lookE_hit (S : St) (o z : Int) : ∀ (c k i : Nat), k ≤ i → i < k + c → (∀ j, k ≤ j → j < i → readE (S.at_ j) S.off o z = 0) → readE (S.at_ i) S.off o z ≠ 0 → lookE S o z c k = readE (S.at_ i) S.off o z
  | 0, k, i, h1, h2, _, _ => by omega
  | c + 1, k, i, h1, h2, h, hi => by
    unfold lookE
    by_cases e : k = i
    · subst e; rw [if_neg hi]
    · rw [if_pos (h k (Nat.le_refl _) (by omega))]
      exact lookE_hit S o z c (k + 1) i (by omega) (by omega) (fun j h1 h2 => h j (by omega) h2) hi
theorem info_l : (Try.prog.info? 37).map (fun i => (i.zero, i.size, i.bytes)) = some (some (.slice none 0 0), 1, 24) := by kernel_rfl
theorem RdB.grown_ {w w' : World} {A : Option Addr} {l : List UInt8} {row : Option Nat} (h : RdB w A l) (hs : w.grownBy w' row) (hd : ∀ ad, A = some ad → some ad.block ≠ row) : RdB w' A l := fun hl => by
  obtain ⟨ad, e, hc⟩ := h hl
  refine ⟨ad, e, fun k hk => ?_⟩
  have hlt : ad.block < w.heap.size := by have := World.block_lt_of_cell? _ _ (hc 0 hl); rwa [block_of_add] at this
  exact (World.cell?_of_block (w := w) (by rw [block_of_add]; exact hs.block _ hlt (hd ad e))).trans (hc k hk)
/-- the rows that look has read so far -/
structure Rows_ (S : St) (o z : Int) (B : Nat) (w : World) (A : Option Addr) (c k : Nat) (cs : List Value) : Prop where
  own : OwnR w B 37 1 A k c cs
  row : ∀ j, j < k → ∃ Aj cj, cs[j]? = some (.slice Aj (readB (S.at_ j) S.off o z).length cj) ∧ RdB w Aj (readB (S.at_ j) S.off o z) ∧ ∀ x, Aj = some x → blk A ≠ some x.block ∧ x.block < w.heap.size ∧ B ≤ x.block
end Go.Proofs.Ytoompglghjpapaa
