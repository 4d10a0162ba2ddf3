/-
  Walks of the reference's journal: bytes8, Frame, Sector.
-/
import Derived.Test.YtjmhfjioccljeaaJrO
import Derived.Deep.DeepMust
import Derived.Deep.RegionLaw
import Derived.Deep.RegionHeld
import Derived.Great.BuildSlice
namespace Go.Proofs.Ytjmhfjioccljeaa
open Go.RowKit
set_option linter.unusedVariables false
set_option linter.unusedSimpArgs false
attribute [local go_sem ↓] Go.wp_at_zero Go.wp_at_succ

theorem beN_get (n : Nat) : ∀ (s k : Nat), k < s → (beN n s)[k]? = some (UInt8.ofNat (n / 256 ^ (s - 1 - k)))
  | 0, k, h => by omega
  | s + 1, 0, _ => by simp [beN]
  | s + 1, k + 1, h => by
    rw [beN, List.getElem?_cons_succ, beN_get n s k (by omega)]
    rw [show s + 1 - 1 - (k + 1) = s - 1 - k by omega]
theorem shr8 (n k : Nat) (hk : k < 8) : (n : Int) / ((2 : Int) ^ (56 - 8 * k)) % 256 = ((UInt8.ofNat (n / 256 ^ (8 - 1 - k))).toNat : Int) := by
  have := shr_fact n (7 - k)
  rw [show 8 * (7 - k) = 56 - 8 * k by omega] at this
  rw [this]
theorem put_be (n k : Nat) (hk : k < 8) : (((beN n 8).take k ++ zeroB (8 - k)).set k (UInt8.ofNat (n / 256 ^ (8 - 1 - k)))) = (beN n 8).take (k + 1) ++ zeroB (8 - (k + 1)) := by
  have hl := beN_length n 8
  have h1 : ((beN n 8).take k).length = k := by rw [List.length_take]; omega
  rw [List.take_add_one, beN_get n 8 k hk]
  rw [List.set_append_right _ _ (by omega), h1, Nat.sub_self]
  rw [show 8 - k = (8 - (k + 1)) + 1 by omega]
  simp [zeroB, List.replicate_succ]
/-- a text in new memory's wake -/
def TextSpec (l : List UInt8) (w : World) (e : Ending) (w' : World) : Prop := e = .returned (.string (bs l)) ∧ Below w.heap.size w w'
set_option maxRecDepth 100000 in
set_option maxHeartbeats 1000000 in
theorem bytes8_any (w : World) (n : Nat) (hn : n < 9223372036854775808) : Calls Try.prog 78 #[.int .i64 (n : Int)] w fun e w' => TextSpec (beN n 8) w e w' := by
  have hmk : ∀ w : World, (Instr.makeSlice 37 (.int .i64 8) (.int .i64 8)).run Try.prog w = .ok (.slice (some ⟨w.heap.size, 0, none⟩) 8 8) (w.alloc (.cells (madeCells #[.int .u8 0] 8) 5)) := fun w => run_makeB 8 (by omega) w
  obtain ⟨gb, hgb⟩ : ∃ g, w.heap.size = g := ⟨_, rfl⟩
  have HGB := Lib.hid hgb
  have HBN := Lib.hid (beN_length n 8)
  clear hgb
  go_enter Try.func78, Try.ntmps78
  go_wp2_with fail
  obtain ⟨w1, hw1⟩ : ∃ w1, w1 = w.alloc (.cells (madeCells #[.int .u8 0] 8) 5) := ⟨_, rfl⟩
  have hbk : Blk w1 gb 5 (bc (zeroB 8)).toArray := by rw [hw1, ← HGB.out]; exact made_blk w 8
  have hb1 : Below w.heap.size w w1 := by rw [hw1]; exact (Below.refl _ _).alloc (Nat.le_refl _) _
  have HI : Hid (Blk w1 gb 5 (bc ((beN n 8).take 0 ++ zeroB (8 - 0))).toArray ∧ Below w.heap.size w w1) := Lib.hid ⟨hbk, hb1⟩
  have hge : w.heap.size ≤ gb := Nat.le_of_eq HGB.out
  rw [← hw1]
  rw [HGB.out]
  clear hw1 hbk hb1
  go_loopw [4] (fun i wr => ∃ k : Nat, k ≤ 8 ∧ i = .int .i64 (k : Int) ∧ Hid (Blk wr gb 5 (bc ((beN n 8).take k ++ zeroB (8 - k))).toArray ∧ Below w.heap.size w wr)) (fun i _ => 8 - (RowKit.intOf i).toNat)
  case atStart => exact ⟨0, by omega, rfl, HI⟩
  case round =>
    obtain ⟨k, hk, rfl, HJ⟩ := hrel
    clear HI
    by_cases hlt : k < 8
    · have hki : (k : Int) < 8 := by omega
      obtain ⟨L, hL⟩ : ∃ L, (beN n 8).take k ++ zeroB (8 - k) = L := ⟨_, rfl⟩
      have hLl : L.length = 8 := by rw [← hL, List.length_append, List.length_take, HBN.out, zeroB_length]; omega
      have HB : Hid (Blk wr gb 5 (bc L).toArray) := Lib.hid (by rw [← hL]; exact HJ.out.1)
      have hc : wr.cell? ⟨gb, k, none⟩ = some (.int .u8 ((L.getD k 0).toNat : Int)) := by
        rw [HB.out.cell k]
        simp only [List.getElem?_toArray]
        exact bc_get L k (by omega)
      have hf : wr.frozen? ⟨gb, k, none⟩ = false := HB.out.frozen k
      have HL := Lib.hid hL
      clear hL hLl
      go_wp2_with fail
      refine ⟨⟨k + 1, by omega, by first | omega | exact int_eq (by omega), Lib.hid ⟨?_, HJ.out.2.setCell (p := ⟨gb, k, none⟩) hge _⟩⟩, by simp [RowKit.intOf]; omega⟩
      have h1 := HB.out.set_ k (.int .u8 ((n : Int) / ((2 : Int) ^ (56 - 8 * k)) % 256))
      refine h1.lit ?_
      rw [shr8 n k hlt, ← put_be n k hlt, HL.out]
      apply Array.ext'
      simp [bc, List.map_set]
    · have hk8 : k = 8 := by omega
      subst hk8
      have hrd : RdB wr (some ⟨gb, 0, none⟩) (beN n 8) := by
        have h1 := HJ.out.1
        rw [show (8 : Nat) - 8 = 0 from rfl, List.take_of_length_le (Nat.le_of_eq HBN.out)] at h1
        have h2 := rd_blk h1 0
        simpa [zeroB] using h2
      have hcv : (convert 37 9 (.slice (some ⟨gb, 0, none⟩) 8 8)).run Try.prog wr = .ok (.string (bs (beN n 8))) wr := run_str 8 hrd HBN.out.symm
      clear hrd
      go_wp2_with fail
      go_ret
      exact ⟨rfl, HJ.out.2⟩
theorem be4 (n : Nat) (hn : n < 4294967296) : (#[.int .u8 ((n : Int) / 16777216), .int .u8 ((n : Int) / 65536 % 256), .int .u8 ((n : Int) / 256 % 256), .int .u8 ((n : Int) % 256)] : Array Value) = (bc (beN n 4)).toArray := by
  have h3 : ((UInt8.ofNat (n / 256 ^ 3)).toNat : Int) = (n : Int) / 16777216 := by rw [UInt8.toNat_ofNat', show 256 ^ 3 = 16777216 from rfl]; omega
  have h2 : ((UInt8.ofNat (n / 256 ^ 2)).toNat : Int) = (n : Int) / 65536 % 256 := by rw [UInt8.toNat_ofNat', show 256 ^ 2 = 65536 from rfl]; omega
  have h1 : ((UInt8.ofNat (n / 256 ^ 1)).toNat : Int) = (n : Int) / 256 % 256 := by rw [UInt8.toNat_ofNat', show 256 ^ 1 = 256 from rfl]; omega
  have h0 : ((UInt8.ofNat (n / 256 ^ 0)).toNat : Int) = (n : Int) % 256 := by rw [UInt8.toNat_ofNat', show 256 ^ 0 = 1 from rfl]; omega
  rw [← h3, ← h2, ← h1, ← h0]
  rfl
set_option maxRecDepth 100000 in
set_option maxHeartbeats 1000000 in
theorem frame_any (w : World) (l : List UInt8) (hl : l.length < 4294967296) : Calls Try.prog 26 #[.string (bs l)] w fun e w' => TextSpec (frameL l) w e w' := by
  have hsz : (bs l).size = l.length := bs_size l
  obtain ⟨n, hn⟩ : ∃ n, l.length = n := ⟨_, rfl⟩
  have HF : Hid (frameL l = beN n 4 ++ l) := Lib.hid (by unfold frameL; rw [hn])
  have hcat : ∀ p : List UInt8, bs p ++ bs l = bs (p ++ l) := fun p => bs_cat p l
  have HCAT := Lib.hid hcat
  rw [hn] at hsz hl
  obtain ⟨x, hx⟩ : ∃ x, bs l = x := ⟨_, rfl⟩
  rw [hx] at hsz HCAT ⊢
  unfold TextSpec
  rw [HF.out]
  obtain ⟨y, hy⟩ : ∃ y, bs (beN n 4) = y := ⟨_, rfl⟩
  have hys : y.size = 4 := by rw [← hy, bs_size, beN_length]
  have hcv : (convert 37 9 (.slice (some ⟨w.heap.size, 0, none⟩) 4 4)).run Try.prog (w.alloc (.cells #[.int .u8 ((n : Int) / 16777216), .int .u8 ((n : Int) / 65536 % 256), .int .u8 ((n : Int) / 256 % 256), .int .u8 ((n : Int) % 256)] 5)) = .ok (.string y) (w.alloc (.cells #[.int .u8 ((n : Int) / 16777216), .int .u8 ((n : Int) / 65536 % 256), .int .u8 ((n : Int) / 256 % 256), .int .u8 ((n : Int) % 256)] 5)) := by
    rw [← hy]
    exact run_str 4 (rd_lit w (beN n 4) (be4 n hl)) (beN_length n 4).symm
  have hcc : ¬ (9223372036854775807 < y.size + x.size) := by omega
  have hyx : y ++ x = bs (beN n 4 ++ l) := by rw [← hy]; exact HCAT.out _
  obtain ⟨z, hz⟩ : ∃ z, bs (beN n 4 ++ l) = z := ⟨_, rfl⟩
  rw [hz] at hyx ⊢
  clear hn hx hcat hy hz
  go_enter Try.func26, Try.ntmps26
  go_wp2_with fail
  go_ret
  exact ⟨rfl, (Below.refl _ _).alloc (Nat.le_refl _) _⟩
/-- 'string(b)' as a step of a region that draws its order -/
theorem step_conv {w : World} {ops : Array Oper} {o : Oper} {a : Act} {K : Act → World → Prop} {Q : Exit → Act → World → Prop} {E : Prop} (hgd : o.guard = none) (s : Operand) (ho : o.op = .convert 37 9 s)
    (A : Option Addr) (n c : Nat) (l : List UInt8) (hs : a.eval s = .slice A n c) (hn : n = l.length) (hr : RdB w A l) (x : ByteArray) (hx : bs l = x) (h : K (a.put o.dst (.string x)) w) :
    if Region.wanted o (yielded ops a.tmps) = true then Oper.wp Try.prog o a w K Q else E := by
  have hw : Region.wanted o (yielded ops a.tmps) = true := by simp [Region.wanted, hgd]
  rw [if_pos hw]
  have hc : (convert 37 9 (.slice A n c)).run Try.prog w = .ok (.string x) w := by rw [← hx]; exact run_str c hr hn
  unfold Oper.wp execOp
  simp only [ho, Sem.run_bind, Sem.run_pure, Result.andThen_ok, hs, hc]
  exact h
/-- '[]byte{x}' as such a step -/
theorem step_mk1 {w : World} {ops : Array Oper} {o : Oper} {a : Act} {K : Act → World → Prop} {Q : Exit → Act → World → Prop} {E : Prop} (hgd : o.guard = none) (x : Operand) (ho : o.op = .buildSlice 37 1 #[(0, x)])
    (v : UInt8) (z : Int) (hx : a.eval x = .int .u8 z) (hz : z = (v.toNat : Int)) (h : ∀ w' A, Below w.heap.size w w' → RdB w' A [v] → K (a.put o.dst (.slice A 1 1)) w') :
    if Region.wanted o (yielded ops a.tmps) = true then Oper.wp Try.prog o a w K Q else E := by
  have hw : Region.wanted o (yielded ops a.tmps) = true := by simp [Region.wanted, hgd]
  rw [if_pos hw]
  obtain ⟨i, hi0, hz0, hz1, hz2⟩ := info_parts info_u8
  refine wp_buildSlice 37 5 1 #[(0, x)] ho #[.int .u8 (v.toNat : Int)] i (.int .u8 0) Try.underlying37 hi0 hz0 (by rw [hz1]; decide) (by rw [hz1]; decide) ?_ (h _ _ ((Below.refl _ _).alloc (Nat.le_refl _) _) (rd_lit w [v] rfl))
  rw [hz1]
  simp only [List.map_toArray, List.map_cons, List.map_nil, hx]
  subst hz
  exact Great.fill_flat [.int .u8 (v.toNat : Int)] _ (fun u hu => by simp at hu; subst hu; rfl) (by simp)
/-- 'make([]byte, n)' as such a step -/
theorem step_mkz {w : World} {ops : Array Oper} {o : Oper} {a : Act} {K : Act → World → Prop} {Q : Exit → Act → World → Prop} {E : Prop} (hgd : o.guard = none) (x y : Operand) (ho : o.op = .makeSlice 37 x y)
    (n : Nat) (hn : n ≤ 140737488355328) (hx : a.eval x = .int .i64 (n : Int)) (hy : a.eval y = .int .i64 (n : Int)) (h : ∀ w' A, Below w.heap.size w w' → RdB w' A (zeroB n) → K (a.put o.dst (.slice A n n)) w') :
    if Region.wanted o (yielded ops a.tmps) = true then Oper.wp Try.prog o a w K Q else E := by
  have hw : Region.wanted o (yielded ops a.tmps) = true := by simp [Region.wanted, hgd]
  rw [if_pos hw]
  unfold Oper.wp execOp
  simp only [ho, Sem.run_bind, Sem.run_pure, Result.andThen_ok, hx, hy, run_makeB n hn w]
  exact h _ _ ((Below.refl _ _).alloc (Nat.le_refl _) _) (rd_zero w n)
set_option maxRecDepth 100000 in
set_option maxHeartbeats 8000000 in
theorem refsector_any (w : World) (g i : Nat) (l : List UInt8) (hg : g ≤ 8796093022207) (hi : i ≤ 2000) (hl : l.length ≤ 4294967296) : Calls Try.prog 25 #[.int .i64 (g : Int), .int .i64 (i : Int), .string (bs l)] w fun e w' => TextSpec (secL g i l) w e w' := by
  have hsz : (bs l).size = l.length := bs_size l
  obtain ⟨n, hn⟩ : ∃ n, l.length = n := ⟨_, rfl⟩
  obtain ⟨N, hN⟩ : ∃ N, g * 1048576 + i = N := ⟨_, rfl⟩
  have hNi : (g : Int) * 1048576 + (i : Int) = (N : Int) := by omega
  have hw1 : IntKind.i64.wrap ((g : Int) * 1048576) = (g : Int) * 1048576 := by rw [IntKind.wrap_i64]; omega
  have hw2 : IntKind.i64.wrap ((g : Int) * 1048576 + (i : Int)) = (N : Int) := by rw [hNi, IntKind.wrap_i64]; omega
  have hN63 : N < 9223372036854775808 := by omega
  obtain ⟨pt, hpt⟩ : ∃ pt, partL i l = pt := ⟨_, rfl⟩
  obtain ⟨k, hk⟩ : ∃ k, pt.length = k := ⟨_, rfl⟩
  have hk119 : k ≤ 119 := by rw [← hk, ← hpt]; exact partL_le _ _
  have HB8 : Hid (∀ W, Calls Try.prog 78 #[.int .i64 (N : Int)] W fun e w' => TextSpec (beN N 8) W e w') := Lib.hid (fun W => bytes8_any W N hN63)
  obtain ⟨X, hX⟩ : ∃ X, bs (beN N 8) = X := ⟨_, rfl⟩
  obtain ⟨Y, hY⟩ : ∃ Y, bs pt = Y := ⟨_, rfl⟩
  obtain ⟨Z, hZ⟩ : ∃ Z, bs (zeroB (119 - k)) = Z := ⟨_, rfl⟩
  obtain ⟨O, hO⟩ : ∃ O, bs [UInt8.ofNat k] = O := ⟨_, rfl⟩
  obtain ⟨T1, hT1⟩ : ∃ T, X ++ O = T := ⟨_, rfl⟩
  obtain ⟨T2, hT2⟩ : ∃ T, T1 ++ Y = T := ⟨_, rfl⟩
  obtain ⟨T3, hT3⟩ : ∃ T, T2 ++ Z = T := ⟨_, rfl⟩
  have hT : T3 = bs (secL g i l) := by
    rw [← hT3, ← hT2, ← hT1, ← hX, ← hY, ← hZ, ← hO, bs_cat, bs_cat, bs_cat]
    unfold secL
    rw [hN, hpt, hk]
    simp
  have hXs : X.size = 8 := by rw [← hX, bs_size, beN_length]
  have hOs : O.size = 1 := by rw [← hO, bs_size]; rfl
  have hYs : Y.size = k := by rw [← hY, bs_size, hk]
  have hZs : Z.size = 119 - k := by rw [← hZ, bs_size, zeroB_length]
  have hT1s : T1.size = 9 := by rw [← hT1, ByteArray.size_append]; omega
  have hT2s : T2.size = 9 + k := by rw [← hT2, ByteArray.size_append]; omega
  have q1 : ¬ (9223372036854775807 < X.size + O.size) := by omega
  have q2 : ¬ (9223372036854775807 < T1.size + Y.size) := by omega
  have q3 : ¬ (9223372036854775807 < T2.size + Z.size) := by omega
  have HK : Hid (k ≤ 119 ∧ bs [UInt8.ofNat k] = O ∧ bs (zeroB (119 - k)) = Z) := Lib.hid ⟨hk119, hO, hZ⟩
  have hkm : IntKind.i64.wrap (119 - (k : Int)) = ((119 - k : Nat) : Int) := by rw [IntKind.wrap_i64]; omega
  have hku : IntKind.u8.wrap (k : Int) = ((UInt8.ofNat k).toNat : Int) := by rw [UInt8.toNat_ofNat', IntKind.wrap_u8]; omega
  unfold TextSpec
  rw [← hT]
  clear hT hO hZ hNi hN hg hk119
  have HL := Lib.hid hl
  by_cases hlt : i * 119 < n
  · have hlti : (i : Int) * 119 < (n : Int) := by omega
    have hltb : (decide ((i : Int) * 119 < (n : Int))) = true := by simpa using hlti
    have h1 : IntKind.i64.wrap ((i : Int) * 119) = (i : Int) * 119 := by rw [IntKind.wrap_i64]; omega
    have h2 : IntKind.i64.wrap ((i : Int) + 1) = (i : Int) + 1 := by rw [IntKind.wrap_i64]; omega
    have h3 : IntKind.i64.wrap (((i : Int) + 1) * 119) = ((i : Int) + 1) * 119 := by rw [IntKind.wrap_i64]; omega
    have hkn : k = min 119 (n - i * 119) := by
      rw [← hk, ← hpt]; unfold partL; rw [List.length_take, List.length_drop, hn]
    obtain ⟨m, hm⟩ : ∃ m : Nat, min (((i : Int) + 1) * 119) (n : Int) = (m : Int) := ⟨min ((i + 1) * 119) n, by omega⟩
    have hmk : (m : Int) = ((i * 119 : Nat) : Int) + (k : Nat) := by omega
    have htk : (l.drop (i * 119)).take k = pt := by
      rw [← hpt]; unfold partL
      by_cases h : n - i * 119 ≤ 119
      · rw [List.take_of_length_le (by rw [List.length_drop]; omega), List.take_of_length_le (by rw [List.length_drop]; omega)]
      · rw [show k = 119 by omega]
    have hsl : ∀ W, (Instr.slice 9 (.string (bs l)) (some (.int .i64 ((i : Int) * 119))) (some (.int .i64 (m : Int))) none).run Try.prog W = .ok (.string Y) W := fun W => by
      rw [← hY, ← htk]
      exact slice_bs W l _ _ (i * 119) k (by omega) hmk (by omega)
    obtain ⟨v, hv⟩ : ∃ v, bs l = v := ⟨_, rfl⟩
    rw [hv] at hsz hsl ⊢
    have HW := Lib.hid (And.intro hkm hku)
    clear hv htk hmk hkn hltb HL
    rw [hn] at hsz
    have HB9 : Hid (∀ W, Calls Try.prog 78 #[.int .i64 (N : Int)] W fun e w' => e = .returned (.string X) ∧ Below W.heap.size W w') := Lib.hid (fun W => by rw [← hX]; exact HB8.out W)
    clear HB8
    clear hn hpt hk hX hY hl hi hkm hku hN63
    go_enter Try.func25, Try.ntmps25
    go_upto_region 4 with fail
    clear h1 h2 h3 hm hsl hlti hlt hsz
    obtain ⟨q, hq⟩ : ∃ q : Nat, 119 - k = q := ⟨_, rfl⟩
    have hkm : IntKind.i64.wrap (119 - (k : Int)) = (q : Int) := by rw [← hq]; exact HW.out.1
    obtain ⟨bb, hku⟩ : ∃ b : Int, IntKind.u8.wrap (k : Int) = b := ⟨_, rfl⟩
    have HBB : Hid (bb = ((UInt8.ofNat k).toNat : Int)) := Lib.hid (by rw [← hku]; exact HW.out.2)
    have HQ := Lib.hid hq
    have HZQ : Hid (bs (zeroB q) = Z) := Lib.hid (by rw [← hq]; exact HK.out.2.2)
    clear hq
    have q2' : ¬ (9223372036854775807 < T1.size + k) := by rw [← hYs]; exact q2
    clear q2 hXs hOs hZs hT1s hT2s
    have hc0 : Below w.heap.size w w := Below.refl _ _
    have tr : ∀ W W', Below w.heap.size w W → Below W.heap.size W W' → Below w.heap.size w W' := fun W W' h h2 => h.trans (h2.mono h.size)
    have a0 : ∀ W o, Below w.heap.size w W → Below w.heap.size w (W.alloc o) := fun W o h => h.alloc h.size _
    have ad : ∀ W, Below w.heap.size w W → Below w.heap.size w W.drew := fun W h => h.drew
    have a1 : ∀ (W : World) o, Below W.heap.size W (W.alloc o) := fun W o => (Below.refl _ _).alloc (Nat.le_refl _) _
    have a2 : ∀ (W : World), Below W.heap.size W W.drew := fun W => (Below.refl _ _).drew
    have RB : Hid (∀ W : World, RdB (W.alloc (.cells #[.int .u8 bb] 5)) (some ⟨W.heap.size, 0, none⟩) [UInt8.ofNat k]) := Lib.hid (fun W => rd_lit W _ (by rw [HBB.out]; rfl))
    have RZ : Hid (∀ W : World, RdB (W.alloc (.cells (madeCells #[.int .u8 0] q) 5)) (some ⟨W.heap.size, 0, none⟩) (zeroB q)) := Lib.hid (fun W => rd_zero W q)
    have RB2 : Hid (∀ (W : World) (o : Obj), RdB ((W.alloc o).alloc (.cells #[.int .u8 bb] 5)) (some ⟨W.heap.size + 1, 0, none⟩) [UInt8.ofNat k]) := Lib.hid (fun W o => by have h := RB.out (W.alloc o); rwa [show (W.alloc o).heap.size = W.heap.size + 1 by go_simp] at h)
    have RZ2 : Hid (∀ (W : World) (o : Obj), RdB ((W.alloc o).alloc (.cells (madeCells #[.int .u8 0] q) 5)) (some ⟨W.heap.size + 1, 0, none⟩) (zeroB q)) := Lib.hid (fun W o => by have h := RZ.out (W.alloc o); rwa [show (W.alloc o).heap.size = W.heap.size + 1 by go_simp] at h)
    have HCH := Lib.hid (And.intro hc0 (And.intro tr (And.intro a0 (And.intro a1 (And.intro ad a2)))))
    have hmk : ∀ W : World, (Instr.makeSlice 37 (.int .i64 (q : Int)) (.int .i64 (q : Int))).run Try.prog W = .ok (.slice (some ⟨W.heap.size, 0, none⟩) q q) (W.alloc (.cells (madeCells #[.int .u8 0] q) 5)) := fun W => run_makeB q (by have := HK.out.1; have := HQ.out; omega) W
    have cv : ∀ (W : World) (A : Option Addr) (n : Nat) (t : List UInt8) (y : ByteArray), RdB W A t → n = t.length → bs t = y → (convert 37 9 (.slice A n n)).run Try.prog W = .ok (.string y) W := fun W A n t y hr hn hy => by rw [← hy]; exact run_str n hr hn
    have HCV := Lib.hid cv
    have cB1 : ∀ (W : World) (b : Nat), W.heap.size = b → (convert 37 9 (.slice (some ⟨b, 0, none⟩) 1 1)).run Try.prog (W.alloc (.cells #[.int .u8 bb] 5)) = .ok (.string O) (W.alloc (.cells #[.int .u8 bb] 5)) := fun W b hb => by subst hb; exact cv _ _ _ _ _ (RB.out W) rfl HK.out.2.1
    have cB2 : ∀ (W : World) (b : Nat) (o : Obj), W.heap.size = b → (convert 37 9 (.slice (some ⟨b, 0, none⟩) 1 1)).run Try.prog ((W.alloc (.cells #[.int .u8 bb] 5)).alloc o) = .ok (.string O) ((W.alloc (.cells #[.int .u8 bb] 5)).alloc o) := fun W b o hb => by subst hb; exact cv _ _ _ _ _ ((RB.out W).below (a1 _ _)) rfl HK.out.2.1
    have cZ1 : ∀ (W : World) (b : Nat), W.heap.size = b → (convert 37 9 (.slice (some ⟨b, 0, none⟩) q q)).run Try.prog (W.alloc (.cells (madeCells #[.int .u8 0] q) 5)) = .ok (.string Z) (W.alloc (.cells (madeCells #[.int .u8 0] q) 5)) := fun W b hb => by subst hb; exact cv _ _ _ _ _ (RZ.out W) (zeroB_length _).symm HZQ.out
    have cZ2 : ∀ (W : World) (b : Nat) (o : Obj), W.heap.size = b → (convert 37 9 (.slice (some ⟨b, 0, none⟩) q q)).run Try.prog ((W.alloc (.cells (madeCells #[.int .u8 0] q) 5)).alloc o) = .ok (.string Z) ((W.alloc (.cells (madeCells #[.int .u8 0] q) 5)).alloc o) := fun W b o hb => by subst hb; exact cv _ _ _ _ _ ((RZ.out W).below (a1 _ _)) (zeroB_length _).symm HZQ.out
    have cB3 : ∀ (W : World) (b : Nat), W.heap.size = b → (convert 37 9 (.slice (some ⟨b, 0, none⟩) 1 1)).run Try.prog (W.alloc (.cells #[.int .u8 bb] 5)).drew = .ok (.string O) (W.alloc (.cells #[.int .u8 bb] 5)).drew := fun W b hb => by subst hb; exact cv _ _ _ _ _ ((RB.out W).below (a2 _)) rfl HK.out.2.1
    have cB4 : ∀ (W : World) (b : Nat) (o : Obj), W.heap.size = b → (convert 37 9 (.slice (some ⟨b, 0, none⟩) 1 1)).run Try.prog ((W.alloc (.cells #[.int .u8 bb] 5)).alloc o).drew = .ok (.string O) ((W.alloc (.cells #[.int .u8 bb] 5)).alloc o).drew := fun W b o hb => by subst hb; exact cv _ _ _ _ _ (((RB.out W).below (a1 _ _)).below (a2 _)) rfl HK.out.2.1
    have cZ3 : ∀ (W : World) (b : Nat), W.heap.size = b → (convert 37 9 (.slice (some ⟨b, 0, none⟩) q q)).run Try.prog (W.alloc (.cells (madeCells #[.int .u8 0] q) 5)).drew = .ok (.string Z) (W.alloc (.cells (madeCells #[.int .u8 0] q) 5)).drew := fun W b hb => by subst hb; exact cv _ _ _ _ _ ((RZ.out W).below (a2 _)) (zeroB_length _).symm HZQ.out
    have cZ4 : ∀ (W : World) (b : Nat) (o : Obj), W.heap.size = b → (convert 37 9 (.slice (some ⟨b, 0, none⟩) q q)).run Try.prog ((W.alloc (.cells (madeCells #[.int .u8 0] q) 5)).alloc o).drew = .ok (.string Z) ((W.alloc (.cells (madeCells #[.int .u8 0] q) 5)).alloc o).drew := fun W b o hb => by subst hb; exact cv _ _ _ _ _ (((RZ.out W).below (a1 _ _)).below (a2 _)) (zeroB_length _).symm HZQ.out
    clear hc0 tr a0 a1 ad a2 cv
    go_region_law (first
      | (go_simp; go_at_call 78; go_must (refine (HB9.out _).mono ?_); rintro e wC ⟨rfl, hbC⟩; have HBC := Lib.hid hbC; have HCC : Hid (Below w.heap.size w wC) := Lib.hid (HCH.out.2.1 _ _ (by { first | exact HCH.out.2.2.2.2.1 _ HCH.out.1 | exact HCH.out.2.2.2.2.1 _ (HCH.out.2.2.1 _ _ HCH.out.1) | exact HCH.out.2.2.2.2.1 _ (HCH.out.2.2.1 _ _ (HCH.out.2.2.1 _ _ HCH.out.1)) }) hbC); (try (have r1 : RdB wC (some ⟨w.heap.size, 0, none⟩) [UInt8.ofNat k] := ((RB.out w).below (HCH.out.2.2.2.2.2 _)).below hbC; have d1 := HCV.out _ _ 1 _ _ r1 rfl HK.out.2.1; have d2 := fun o => HCV.out _ _ 1 _ _ (r1.below (HCH.out.2.2.2.1 wC o)) rfl HK.out.2.1; clear r1)); (try (have r1 : RdB wC (some ⟨w.heap.size, 0, none⟩) [UInt8.ofNat k] := (((RB.out w).below (HCH.out.2.2.2.1 _ _)).below (HCH.out.2.2.2.2.2 _)).below hbC; have d3 := HCV.out _ _ 1 _ _ r1 rfl HK.out.2.1; have d4 := fun o => HCV.out _ _ 1 _ _ (r1.below (HCH.out.2.2.2.1 wC o)) rfl HK.out.2.1; clear r1)); (try (have r1 : RdB wC (some ⟨w.heap.size + 1, 0, none⟩) [UInt8.ofNat k] := ((RB2.out w _).below (HCH.out.2.2.2.2.2 _)).below hbC; have d5 := HCV.out _ _ 1 _ _ r1 rfl HK.out.2.1; have d6 := fun o => HCV.out _ _ 1 _ _ (r1.below (HCH.out.2.2.2.1 wC o)) rfl HK.out.2.1; clear r1)); (try (have r1 : RdB wC (some ⟨w.heap.size, 0, none⟩) (zeroB q) := ((RZ.out w).below (HCH.out.2.2.2.2.2 _)).below hbC; have d20 := HCV.out _ _ q _ _ r1 (zeroB_length _).symm HZQ.out; have d21 := fun o => HCV.out _ _ q _ _ (r1.below (HCH.out.2.2.2.1 wC o)) (zeroB_length _).symm HZQ.out; clear r1)); (try (have r1 : RdB wC (some ⟨w.heap.size, 0, none⟩) (zeroB q) := (((RZ.out w).below (HCH.out.2.2.2.1 _ _)).below (HCH.out.2.2.2.2.2 _)).below hbC; have d22 := HCV.out _ _ q _ _ r1 (zeroB_length _).symm HZQ.out; have d23 := fun o => HCV.out _ _ q _ _ (r1.below (HCH.out.2.2.2.1 wC o)) (zeroB_length _).symm HZQ.out; clear r1)); (try (have r1 : RdB wC (some ⟨w.heap.size + 1, 0, none⟩) (zeroB q) := ((RZ2.out w _).below (HCH.out.2.2.2.2.2 _)).below hbC; have d24 := HCV.out _ _ q _ _ r1 (zeroB_length _).symm HZQ.out; have d25 := fun o => HCV.out _ _ q _ _ (r1.below (HCH.out.2.2.2.1 wC o)) (zeroB_length _).symm HZQ.out; clear r1)); clear hbC; skip))
    all_goals go_wp2_with fail
    all_goals go_ret
    all_goals refine ⟨rfl, ?_⟩
    all_goals first | exact HCC.out | exact HCH.out.2.2.1 _ _ HCC.out | exact HCH.out.2.2.1 _ _ (HCH.out.2.2.1 _ _ HCC.out)
  · have hlti : ¬ ((i : Int) * 119 < (n : Int)) := by omega
    have h1 : IntKind.i64.wrap ((i : Int) * 119) = (i : Int) * 119 := by rw [IntKind.wrap_i64]; omega
    have hpt0 : pt = [] := by rw [← hpt]; unfold partL; rw [List.drop_eq_nil_of_le (by omega)]; rfl
    have hYe : (⟨#[]⟩ : ByteArray) = Y := by rw [← hY, hpt0]; rfl
    obtain ⟨v, hv⟩ : ∃ v, bs l = v := ⟨_, rfl⟩
    rw [hv] at hsz ⊢
    have HW := Lib.hid (And.intro hkm hku)
    have HYE := Lib.hid hYe
    rw [hn] at hsz
    have HB9 : Hid (∀ W, Calls Try.prog 78 #[.int .i64 (N : Int)] W fun e w' => e = .returned (.string X) ∧ Below W.heap.size W w') := Lib.hid (fun W => by rw [← hX]; exact HB8.out W)
    clear HB8
    clear hv HL hn hpt hpt0 hk hX hY hYe hl hi hkm hku hN63
    go_enter Try.func25, Try.ntmps25
    go_upto_region 4 with fail
    rw [HYE.out]
    clear h1 hlti hlt hsz
    obtain ⟨q, hq⟩ : ∃ q : Nat, 119 - k = q := ⟨_, rfl⟩
    have hkm : IntKind.i64.wrap (119 - (k : Int)) = (q : Int) := by rw [← hq]; exact HW.out.1
    obtain ⟨bb, hku⟩ : ∃ b : Int, IntKind.u8.wrap (k : Int) = b := ⟨_, rfl⟩
    have HBB : Hid (bb = ((UInt8.ofNat k).toNat : Int)) := Lib.hid (by rw [← hku]; exact HW.out.2)
    have HQ := Lib.hid hq
    have HZQ : Hid (bs (zeroB q) = Z) := Lib.hid (by rw [← hq]; exact HK.out.2.2)
    clear hq
    have q2' : ¬ (9223372036854775807 < T1.size + k) := by rw [← hYs]; exact q2
    clear q2 hXs hOs hZs hT1s hT2s
    have hc0 : Below w.heap.size w w := Below.refl _ _
    have tr : ∀ W W', Below w.heap.size w W → Below W.heap.size W W' → Below w.heap.size w W' := fun W W' h h2 => h.trans (h2.mono h.size)
    have a0 : ∀ W o, Below w.heap.size w W → Below w.heap.size w (W.alloc o) := fun W o h => h.alloc h.size _
    have ad : ∀ W, Below w.heap.size w W → Below w.heap.size w W.drew := fun W h => h.drew
    have a1 : ∀ (W : World) o, Below W.heap.size W (W.alloc o) := fun W o => (Below.refl _ _).alloc (Nat.le_refl _) _
    have a2 : ∀ (W : World), Below W.heap.size W W.drew := fun W => (Below.refl _ _).drew
    have RB : Hid (∀ W : World, RdB (W.alloc (.cells #[.int .u8 bb] 5)) (some ⟨W.heap.size, 0, none⟩) [UInt8.ofNat k]) := Lib.hid (fun W => rd_lit W _ (by rw [HBB.out]; rfl))
    have RZ : Hid (∀ W : World, RdB (W.alloc (.cells (madeCells #[.int .u8 0] q) 5)) (some ⟨W.heap.size, 0, none⟩) (zeroB q)) := Lib.hid (fun W => rd_zero W q)
    have RB2 : Hid (∀ (W : World) (o : Obj), RdB ((W.alloc o).alloc (.cells #[.int .u8 bb] 5)) (some ⟨W.heap.size + 1, 0, none⟩) [UInt8.ofNat k]) := Lib.hid (fun W o => by have h := RB.out (W.alloc o); rwa [show (W.alloc o).heap.size = W.heap.size + 1 by go_simp] at h)
    have RZ2 : Hid (∀ (W : World) (o : Obj), RdB ((W.alloc o).alloc (.cells (madeCells #[.int .u8 0] q) 5)) (some ⟨W.heap.size + 1, 0, none⟩) (zeroB q)) := Lib.hid (fun W o => by have h := RZ.out (W.alloc o); rwa [show (W.alloc o).heap.size = W.heap.size + 1 by go_simp] at h)
    have HCH := Lib.hid (And.intro hc0 (And.intro tr (And.intro a0 (And.intro a1 (And.intro ad a2)))))
    have hmk : ∀ W : World, (Instr.makeSlice 37 (.int .i64 (q : Int)) (.int .i64 (q : Int))).run Try.prog W = .ok (.slice (some ⟨W.heap.size, 0, none⟩) q q) (W.alloc (.cells (madeCells #[.int .u8 0] q) 5)) := fun W => run_makeB q (by have := HK.out.1; have := HQ.out; omega) W
    have cv : ∀ (W : World) (A : Option Addr) (n : Nat) (t : List UInt8) (y : ByteArray), RdB W A t → n = t.length → bs t = y → (convert 37 9 (.slice A n n)).run Try.prog W = .ok (.string y) W := fun W A n t y hr hn hy => by rw [← hy]; exact run_str n hr hn
    have HCV := Lib.hid cv
    have cB1 : ∀ (W : World) (b : Nat), W.heap.size = b → (convert 37 9 (.slice (some ⟨b, 0, none⟩) 1 1)).run Try.prog (W.alloc (.cells #[.int .u8 bb] 5)) = .ok (.string O) (W.alloc (.cells #[.int .u8 bb] 5)) := fun W b hb => by subst hb; exact cv _ _ _ _ _ (RB.out W) rfl HK.out.2.1
    have cB2 : ∀ (W : World) (b : Nat) (o : Obj), W.heap.size = b → (convert 37 9 (.slice (some ⟨b, 0, none⟩) 1 1)).run Try.prog ((W.alloc (.cells #[.int .u8 bb] 5)).alloc o) = .ok (.string O) ((W.alloc (.cells #[.int .u8 bb] 5)).alloc o) := fun W b o hb => by subst hb; exact cv _ _ _ _ _ ((RB.out W).below (a1 _ _)) rfl HK.out.2.1
    have cZ1 : ∀ (W : World) (b : Nat), W.heap.size = b → (convert 37 9 (.slice (some ⟨b, 0, none⟩) q q)).run Try.prog (W.alloc (.cells (madeCells #[.int .u8 0] q) 5)) = .ok (.string Z) (W.alloc (.cells (madeCells #[.int .u8 0] q) 5)) := fun W b hb => by subst hb; exact cv _ _ _ _ _ (RZ.out W) (zeroB_length _).symm HZQ.out
    have cZ2 : ∀ (W : World) (b : Nat) (o : Obj), W.heap.size = b → (convert 37 9 (.slice (some ⟨b, 0, none⟩) q q)).run Try.prog ((W.alloc (.cells (madeCells #[.int .u8 0] q) 5)).alloc o) = .ok (.string Z) ((W.alloc (.cells (madeCells #[.int .u8 0] q) 5)).alloc o) := fun W b o hb => by subst hb; exact cv _ _ _ _ _ ((RZ.out W).below (a1 _ _)) (zeroB_length _).symm HZQ.out
    have cB3 : ∀ (W : World) (b : Nat), W.heap.size = b → (convert 37 9 (.slice (some ⟨b, 0, none⟩) 1 1)).run Try.prog (W.alloc (.cells #[.int .u8 bb] 5)).drew = .ok (.string O) (W.alloc (.cells #[.int .u8 bb] 5)).drew := fun W b hb => by subst hb; exact cv _ _ _ _ _ ((RB.out W).below (a2 _)) rfl HK.out.2.1
    have cB4 : ∀ (W : World) (b : Nat) (o : Obj), W.heap.size = b → (convert 37 9 (.slice (some ⟨b, 0, none⟩) 1 1)).run Try.prog ((W.alloc (.cells #[.int .u8 bb] 5)).alloc o).drew = .ok (.string O) ((W.alloc (.cells #[.int .u8 bb] 5)).alloc o).drew := fun W b o hb => by subst hb; exact cv _ _ _ _ _ (((RB.out W).below (a1 _ _)).below (a2 _)) rfl HK.out.2.1
    have cZ3 : ∀ (W : World) (b : Nat), W.heap.size = b → (convert 37 9 (.slice (some ⟨b, 0, none⟩) q q)).run Try.prog (W.alloc (.cells (madeCells #[.int .u8 0] q) 5)).drew = .ok (.string Z) (W.alloc (.cells (madeCells #[.int .u8 0] q) 5)).drew := fun W b hb => by subst hb; exact cv _ _ _ _ _ ((RZ.out W).below (a2 _)) (zeroB_length _).symm HZQ.out
    have cZ4 : ∀ (W : World) (b : Nat) (o : Obj), W.heap.size = b → (convert 37 9 (.slice (some ⟨b, 0, none⟩) q q)).run Try.prog ((W.alloc (.cells (madeCells #[.int .u8 0] q) 5)).alloc o).drew = .ok (.string Z) ((W.alloc (.cells (madeCells #[.int .u8 0] q) 5)).alloc o).drew := fun W b o hb => by subst hb; exact cv _ _ _ _ _ (((RZ.out W).below (a1 _ _)).below (a2 _)) (zeroB_length _).symm HZQ.out
    clear hc0 tr a0 a1 ad a2 cv
    go_region_law (first
      | (go_simp; go_at_call 78; go_must (refine (HB9.out _).mono ?_); rintro e wC ⟨rfl, hbC⟩; have HBC := Lib.hid hbC; have HCC : Hid (Below w.heap.size w wC) := Lib.hid (HCH.out.2.1 _ _ (by { first | exact HCH.out.2.2.2.2.1 _ HCH.out.1 | exact HCH.out.2.2.2.2.1 _ (HCH.out.2.2.1 _ _ HCH.out.1) | exact HCH.out.2.2.2.2.1 _ (HCH.out.2.2.1 _ _ (HCH.out.2.2.1 _ _ HCH.out.1)) }) hbC); (try (have r1 : RdB wC (some ⟨w.heap.size, 0, none⟩) [UInt8.ofNat k] := ((RB.out w).below (HCH.out.2.2.2.2.2 _)).below hbC; have d1 := HCV.out _ _ 1 _ _ r1 rfl HK.out.2.1; have d2 := fun o => HCV.out _ _ 1 _ _ (r1.below (HCH.out.2.2.2.1 wC o)) rfl HK.out.2.1; clear r1)); (try (have r1 : RdB wC (some ⟨w.heap.size, 0, none⟩) [UInt8.ofNat k] := (((RB.out w).below (HCH.out.2.2.2.1 _ _)).below (HCH.out.2.2.2.2.2 _)).below hbC; have d3 := HCV.out _ _ 1 _ _ r1 rfl HK.out.2.1; have d4 := fun o => HCV.out _ _ 1 _ _ (r1.below (HCH.out.2.2.2.1 wC o)) rfl HK.out.2.1; clear r1)); (try (have r1 : RdB wC (some ⟨w.heap.size + 1, 0, none⟩) [UInt8.ofNat k] := ((RB2.out w _).below (HCH.out.2.2.2.2.2 _)).below hbC; have d5 := HCV.out _ _ 1 _ _ r1 rfl HK.out.2.1; have d6 := fun o => HCV.out _ _ 1 _ _ (r1.below (HCH.out.2.2.2.1 wC o)) rfl HK.out.2.1; clear r1)); (try (have r1 : RdB wC (some ⟨w.heap.size, 0, none⟩) (zeroB q) := ((RZ.out w).below (HCH.out.2.2.2.2.2 _)).below hbC; have d20 := HCV.out _ _ q _ _ r1 (zeroB_length _).symm HZQ.out; have d21 := fun o => HCV.out _ _ q _ _ (r1.below (HCH.out.2.2.2.1 wC o)) (zeroB_length _).symm HZQ.out; clear r1)); (try (have r1 : RdB wC (some ⟨w.heap.size, 0, none⟩) (zeroB q) := (((RZ.out w).below (HCH.out.2.2.2.1 _ _)).below (HCH.out.2.2.2.2.2 _)).below hbC; have d22 := HCV.out _ _ q _ _ r1 (zeroB_length _).symm HZQ.out; have d23 := fun o => HCV.out _ _ q _ _ (r1.below (HCH.out.2.2.2.1 wC o)) (zeroB_length _).symm HZQ.out; clear r1)); (try (have r1 : RdB wC (some ⟨w.heap.size + 1, 0, none⟩) (zeroB q) := ((RZ2.out w _).below (HCH.out.2.2.2.2.2 _)).below hbC; have d24 := HCV.out _ _ q _ _ r1 (zeroB_length _).symm HZQ.out; have d25 := fun o => HCV.out _ _ q _ _ (r1.below (HCH.out.2.2.2.1 wC o)) (zeroB_length _).symm HZQ.out; clear r1)); clear hbC; skip))
    all_goals go_wp2_with fail
    all_goals go_ret
    all_goals refine ⟨rfl, ?_⟩
    all_goals first | exact HCC.out | exact HCH.out.2.2.1 _ _ HCC.out | exact HCH.out.2.2.1 _ _ (HCH.out.2.2.1 _ _ HCC.out)
end Go.Proofs.Ytjmhfjioccljeaa
