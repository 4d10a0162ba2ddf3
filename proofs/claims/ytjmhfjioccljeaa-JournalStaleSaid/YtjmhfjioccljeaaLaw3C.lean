/-
  Walk of the law JournalStale.
-/
import Derived.Test.YtjmhfjioccljeaaJrT
import Derived.Test.YtjmhfjioccljeaaRsA
import Derived.Test.YtjmhfjioccljeaaRowZ
import Derived.Deep.DeepMust
import Derived.Deep.CutBlock
import Derived.Deep.CutRange
namespace Go.Proofs.Ytjmhfjioccljeaa
open Go.RowKit
set_option linter.unusedVariables false
set_option linter.unusedSimpArgs false
attribute [local go_sem ↓] Go.wp_at_zero Go.wp_at_succ

theorem own_capm_3 {w : World} {base c n size : Nat} {e : TypeId} {A : Option Addr} {xs : List Value} (h : OwnR w base e size A n c xs) : c ≤ maxLen := by
  rcases h.2 with ⟨e0, _⟩ | ⟨g, cap, cur, e0, _, _, _, hcm, _⟩
  · injection e0 with _ _ e1; rw [e1]; exact Nat.zero_le _
  · injection e0 with _ _ e1; rw [e1]; exact hcm
theorem frames_len_ (l : List (List UInt8)) : 4 * l.length ≤ (framesL l).length := by
  induction l with
  | nil => simp [framesL]
  | cons r l ih => rw [framesL_cons, List.length_cons]; omega
theorem fits_len_ {n q m g : Nat} {l r : List (List UInt8)} (h : Fits n q m g (l ++ r)) : l.length + r.length ≤ 60000 := by
  have h1 := h.fill
  have h2 := frames_len_ (l ++ r)
  have h3 := h.m2
  rw [List.length_append] at h2
  omega
/-- at a round's head -/
def SInv (w0 : World) (x p d t : Nat) (A : Option Addr) (n c : Nat) (w : World) : Prop :=
  ∃ j S J K g l, Kp w0 w x p d j S J K A c l none 0 [] ∧ Held S J 32 0 8 g l [] ∧ S.arm = -1 ∧ g ≤ t + 1 ∧ n = l.length
set_option maxRecDepth 100000 in
set_option maxHeartbeats 24000000 in
theorem stale_any (w : World) (a0 : Option Addr) (len0 cap0 : Nat) (z0 : List Int) (w0 : IsZ w a0 len0 cap0 z0) (a1 : Option Addr) (len1 cap1 : Nat) (z1 : List Int) (w1 : IsZ w a1 len1 cap1 z1) (a2 : Option Addr) (len2 cap2 : Nat) (z2 : List Int) (w2 : IsZ w a2 len2 cap2 z2) :
    Calls Try.prog 5 #[.slice a0 len0 cap0, .slice a1 len1 cap1, .slice a2 len2 cap2] w fun e w' => e = .returned (.bool true) ∧ Below w.heap.size w w' := by
  have HZ0 := Lib.hid w0
  have HZ1 := Lib.hid w1
  have HZ2 := Lib.hid w2
  have hm0 : len0 ≤ 9223372036854775807 := by have := HZ0.out.2.2.2.2.2; omega
  have hm1 : len1 ≤ 9223372036854775807 := by have := HZ1.out.2.2.2.2.2; omega
  clear w0 w1 w2
  go_enter Try.func5, Try.ntmps5
  go_wp2_with fail
  refine (wakes_any w).mono ?_
  rintro e w2 ⟨rfl, hb2⟩
  have HB2 := Lib.hid hb2
  clear hb2
  go_wp2_with fail
  refine (begin_any w2 0 8 0 rfl (by decide) (by decide)).mono ?_
  rintro e w3 ⟨x, p, d, j, S, J, K, rfl, hd3, hh3, ha3, hg3, hb3, hc3⟩
  have HI : Hid (SInv w x p d 0 none 0 0 w3) := Lib.hid (by
    have hsz : w.heap.size ≤ w2.heap.size := HB2.out.size
    exact ⟨j, S, J, K, 1, [], ⟨hd3, fun i a => by have := hg3 i a; omega, HB2.out.trans (hb3.mono hsz), OwnW.nil _ _, OwnW.nil _ _, fun b e => by simp [blk] at e, fun b e => by simp [blk] at e, fun b e => by simp [blk] at e⟩, hh3, ha3, by omega, rfl⟩)
  clear hd3 hh3 ha3 hg3 hb3 hc3
  go_wp2_with fail
  go_loopw [9, 10] (fun v9 i wr => ∃ (t n : Nat) (A : Option Addr) (c : Nat), t ≤ len0 ∧ i = .int .i64 (t : Int) ∧ v9 = .slice A n c ∧ Hid (SInv w x p d t A n c wr)) (fun _ i _ => len0 - (RowKit.intOf i).toNat)
  case atStart => exact ⟨0, 0, none, 0, Nat.zero_le _, rfl, rfl, HI⟩
  case round =>
    obtain ⟨t, n, A, c, ht, rfl, rfl, HJ⟩ := hrel
    clear HI
    by_cases hlt : t < len0 ∧ t < 25
    · obtain ⟨hlt, hlt25⟩ := hlt
      obtain ⟨j, S, J, K, g, l, hkp, hh, harm, hg, hn⟩ := HJ.out
      have HKP := Lib.hid hkp
      have HH := Lib.hid hh
      have HARM := Lib.hid harm
      have HN := Lib.hid hn
      have HG := Lib.hid hg
      have e2 := hkp.dx.cells.2.2.1
      have hgn : Calls Try.prog 24 #[ob j] wr fun e w' => e = .returned (.int .i64 (g : Int)) ∧ wr = w' := by
        have := desk_gen hkp.dx
        rw [hh.gen] at this
        exact this
      have HGEN := Lib.hid hgn
      obtain ⟨ad0, rfl, q0⟩ := (HZ0.out.2.1.below hkp.be).at_ (k := t) (by rw [HZ0.out.1]; exact hlt)
      obtain ⟨x0, hx0⟩ : ∃ y, z0.getD t 0 = y := ⟨_, rfl⟩
      rw [hx0] at q0
      have q1 : t < len1 → ∃ ad1 x1, a1 = some ad1 ∧ wr.cell? (ad1.add t) = some (.int .i64 x1) := fun h => by
        obtain ⟨ad, h1, h2⟩ := (HZ1.out.2.1.below hkp.be).at_ (k := t) (by rw [HZ1.out.1]; exact h)
        exact ⟨ad, _, h1, h2⟩
      have HQ1 := Lib.hid q1
      have HQ0 := Lib.hid q0
      clear hkp hh harm hn hg hgn HJ hx0 q0 q1
      go_wp2_with fail
      refine HGEN.out.mono ?_
      rintro e w' ⟨rfl, rfl⟩
      go_upto_if 47 with fail
      go_cut [11] from 29 to 173 (fun v11 wx => ∃ G : Nat, v11 = .int .i64 (G : Int) ∧ Hid (wx = wr ∧ G ≤ g + 3))
      case first =>
        by_cases h1 : t < len1
        · have h1i : (t : Int) < (len1 : Int) := by omega
          obtain ⟨ad1, x1, rfl, r1⟩ := HQ1.out h1
          obtain ⟨kw, hkw, hkw1⟩ := cut_mod x1 3 (by omega)
          rw [show ((3 : Nat) : Int) + 1 = 4 from rfl] at hkw
          have hkw2 : IntKind.i64.wrap ((IntKind.u64.wrap x1).tmod 4) = (kw : Int) := by rw [← hkw, IntKind.wrap_i64]; unfold wrap64; rfl
          have hsum : IntKind.i64.wrap ((g : Int) + (kw : Int)) = ((g + kw : Nat) : Int) := by have := HG.out; rw [IntKind.wrap_i64]; omega
          have HK1 : Hid (kw ≤ 3) := Lib.hid hkw1
          clear hkw hkw1 HQ1
          go_wp2_with fail
          go_meet
          exact ⟨g + kw, rfl, Lib.hid ⟨rfl, by have := HK1.out; omega⟩⟩
        · have h1i : ¬ ((t : Int) < (len1 : Int)) := by omega
          go_wp2_with fail
          go_meet
          exact ⟨g, rfl, Lib.hid ⟨rfl, by omega⟩⟩
      case rest =>
        obtain ⟨G, rfl, HW⟩ := hcut
        obtain ⟨hw, hG⟩ := HW.out
        subst hw
        obtain ⟨wr, hwr⟩ : ∃ W, W = wc := ⟨_, rfl⟩
        subst hwr
        obtain ⟨kn, hkn, hkn1⟩ := cut_mod x0 199 (by omega)
        rw [show ((199 : Nat) : Int) + 1 = 200 from rfl] at hkn
        have hkn2 : IntKind.i64.wrap ((IntKind.u64.wrap x0).tmod 200) = (kn : Int) := by rw [← hkn, IntKind.wrap_i64]; unfold wrap64; rfl
        obtain ⟨k9, hk9, hk91⟩ := cut_mod x0 8 (by omega)
        rw [show ((8 : Nat) : Int) + 1 = 9 from rfl] at hk9
        have hk92 : IntKind.i64.wrap ((IntKind.u64.wrap x0).tmod 9) = (k9 : Int) := by rw [← hk9, IntKind.wrap_i64]; unfold wrap64; rfl
        obtain ⟨i8, hi8⟩ : ∃ i8 : Nat, 1 + t % 8 = i8 := ⟨_, rfl⟩
        have hi8w : IntKind.i64.wrap (1 + (t : Int).tmod 8) = (i8 : Int) := by
          rw [Int.tmod_eq_emod_of_nonneg (by omega), IntKind.wrap_i64]; omega
        obtain ⟨G1, hG1⟩ : ∃ G1 : Nat, G + 1 = G1 := ⟨_, rfl⟩
        have hG1w : IntKind.i64.wrap ((G : Int) + 1) = (G1 : Int) := by have := HG.out; rw [IntKind.wrap_i64]; omega
        have HNUM : Hid (G ≤ 30 ∧ G1 ≤ 31 ∧ i8 ≤ 8 ∧ kn ≤ 199 ∧ k9 ≤ 8) := Lib.hid (by have := HG.out; omega)
        clear hkn hkn1 hk9 hk91 hi8 hG1 hG HW HQ1 HGEN
        -- the texts
        obtain ⟨F1, hF1⟩ : ∃ F, bs (frameL [102, 97, 107, 101]) = F := ⟨_, rfl⟩
        obtain ⟨F2, hF2⟩ : ∃ F, bs (frameL [110, 101, 119, 115]) = F := ⟨_, rfl⟩
        obtain ⟨FF, hFF⟩ : ∃ F, F1 ++ F2 = F := ⟨_, rfl⟩
        obtain ⟨X1, hX1⟩ : ∃ F, bs (secL G i8 (frameL [102, 97, 107, 101] ++ frameL [110, 101, 119, 115])) = F := ⟨_, rfl⟩
        obtain ⟨X2, hX2⟩ : ∃ F, bs (secL G1 0 (frameL [102, 97, 107, 101])) = F := ⟨_, rfl⟩
        obtain ⟨Z0, hZ0⟩ : ∃ F, bs (zeroB kn) = F := ⟨_, rfl⟩
        obtain ⟨U1, hU1⟩ : ∃ F, Z0 ++ X1 = F := ⟨_, rfl⟩
        obtain ⟨U2, hU2⟩ : ∃ F, U1 ++ X2 = F := ⟨_, rfl⟩
        obtain ⟨u2, hu2⟩ : ∃ u, zeroB kn ++ secL G i8 (frameL [102, 97, 107, 101] ++ frameL [110, 101, 119, 115]) ++ secL G1 0 (frameL [102, 97, 107, 101]) = u := ⟨_, rfl⟩
        have hUu : U2 = bs u2 := by rw [← hU2, ← hU1, ← hZ0, ← hX1, ← hX2, bs_cat, bs_cat, hu2]
        have hu2l : u2.length = kn + 256 := by rw [← hu2, List.length_append, List.length_append, zeroB_length, secL_length, secL_length]
        have p1 : ¬ (9223372036854775807 < F1.size + F2.size) := by rw [← hF1, ← hF2, bs_size, bs_size]; decide
        have hZ0s : Z0.size = kn := by rw [← hZ0, bs_size, zeroB_length]
        have hX1s : X1.size = 128 := by rw [← hX1, bs_size, secL_length]
        have hX2s : X2.size = 128 := by rw [← hX2, bs_size, secL_length]
        have hU1s : U1.size = kn + 128 := by rw [← hU1, ByteArray.size_append]; omega
        have p2 : ¬ (9223372036854775807 < Z0.size + X1.size) := by have := HNUM.out; omega
        have p3 : ¬ (9223372036854775807 < U1.size + X2.size) := by have := HNUM.out; omega
        have HF1 : Hid (∀ W, Calls Try.prog 26 #[.string ⟨#[102, 97, 107, 101]⟩] W fun e w' => e = .returned (.string F1) ∧ Below W.heap.size W w') := Lib.hid (fun W => by rw [← hF1]; exact frame_any W [102, 97, 107, 101] (by decide))
        have HF2 : Hid (∀ W, Calls Try.prog 26 #[.string ⟨#[110, 101, 119, 115]⟩] W fun e w' => e = .returned (.string F2) ∧ Below W.heap.size W w') := Lib.hid (fun W => by rw [← hF2]; exact frame_any W [110, 101, 119, 115] (by decide))
        have HS1 : Hid (∀ W, Calls Try.prog 25 #[.int .i64 (G : Int), .int .i64 (i8 : Int), .string FF] W fun e w' => e = .returned (.string X1) ∧ Below W.heap.size W w') := Lib.hid (fun W => by
          rw [← hX1, ← hFF, ← hF1, ← hF2, bs_cat]
          exact refsector_any W G i8 _ (by have := HNUM.out; omega) (by have := HNUM.out; omega) (by decide))
        have HS2 : Hid (∀ W, Calls Try.prog 25 #[.int .i64 (G1 : Int), .int .i64 0, .string F1] W fun e w' => e = .returned (.string X2) ∧ Below W.heap.size W w') := Lib.hid (fun W => by
          rw [← hX2, ← hF1]
          exact refsector_any W G1 0 _ (by have := HNUM.out; omega) (by omega) (by decide))
        have HT : Hid (bs (zeroB kn) = Z0 ∧ U2 = bs u2 ∧ u2.length = kn + 256) := Lib.hid ⟨hZ0, hUu, hu2l⟩
        clear hF1 hF2 hX1 hX2 hZ0 hUu hu2l hu2 hZ0s hX1s hX2s hU1s
        have q0 := HQ0.out
        go_upto_region 14 with fail
        go_cut [13] from 29 to 173 (fun v13 wx => v13 = .string U2 ∧ Hid (Below wr.heap.size wr wx))
        case first =>
          as_aux_lemma =>
          clear q0 hkn2 hk92
          have tr : ∀ W W', Below wr.heap.size wr W → Below W.heap.size W W' → Below wr.heap.size wr W' := fun W W' h h2 => h.trans (h2.mono h.size)
          have a0_ : ∀ W o, Below wr.heap.size wr W → Below wr.heap.size wr (W.alloc o) := fun W o h => h.alloc h.size _
          have a1_ : ∀ (W : World) o, Below W.heap.size W (W.alloc o) := fun W o => (Below.refl _ _).alloc (Nat.le_refl _) _
          have ad_ : ∀ W, Below wr.heap.size wr W → Below wr.heap.size wr W.drew := fun W h => h.drew
          have a2_ : ∀ (W : World), Below W.heap.size W W.drew := fun W => (Below.refl _ _).drew
          have HCH := Lib.hid (And.intro tr (And.intro a0_ (And.intro a1_ (And.intro ad_ a2_))))
          have HC : Hid (Below wr.heap.size wr wr) := Lib.hid (Below.refl _ _)
          have RZ : Hid (∀ W : World, RdB (W.alloc (.cells (madeCells #[.int .u8 0] kn) 5)) (some ⟨W.heap.size, 0, none⟩) (zeroB kn)) := Lib.hid (fun W => rd_zero W kn)
          have hmk : ∀ W : World, (Instr.makeSlice 37 (.int .i64 (kn : Int)) (.int .i64 (kn : Int))).run Try.prog W = .ok (.slice (some ⟨W.heap.size, 0, none⟩) kn kn) (W.alloc (.cells (madeCells #[.int .u8 0] kn) 5)) := fun W => run_makeB kn (by have := HNUM.out; omega) W
          have cv : ∀ (W : World) (A : Option Addr) (n : Nat) (t : List UInt8) (y : ByteArray), RdB W A t → n = t.length → bs t = y → (convert 37 9 (.slice A n n)).run Try.prog W = .ok (.string y) W := fun W A n t y hr hn hy => by rw [← hy]; exact run_str n hr hn
          have HCV := Lib.hid cv
          have cZ1 : ∀ (W : World) (b : Nat), W.heap.size = b → (convert 37 9 (.slice (some ⟨b, 0, none⟩) kn kn)).run Try.prog (W.alloc (.cells (madeCells #[.int .u8 0] kn) 5)) = .ok (.string Z0) (W.alloc (.cells (madeCells #[.int .u8 0] kn) 5)) := fun W b hb => by subst hb; exact cv _ _ _ _ _ (RZ.out W) (zeroB_length _).symm HT.out.1
          have cZ3 : ∀ (W : World) (b : Nat), W.heap.size = b → (convert 37 9 (.slice (some ⟨b, 0, none⟩) kn kn)).run Try.prog (W.alloc (.cells (madeCells #[.int .u8 0] kn) 5)).drew = .ok (.string Z0) (W.alloc (.cells (madeCells #[.int .u8 0] kn) 5)).drew := fun W b hb => by subst hb; exact cv _ _ _ _ _ ((RZ.out W).below (a2_ _)) (zeroB_length _).symm HT.out.1
          clear tr a0_ a1_ ad_ a2_ cv
          go_region_law (first
            | (go_simp; go_at_call 26; with_reducible refine (HF1.out _).mono ?_; rintro e wN ⟨rfl, hbN⟩; have HC : Hid (Below wr.heap.size wr wN) := Lib.hid (HCH.out.1 _ _ (by { first | exact HC.out | exact HCH.out.2.2.2.1 _ HC.out | exact HCH.out.2.1 _ _ HC.out | exact HCH.out.2.2.2.1 _ (HCH.out.2.1 _ _ HC.out) }) hbN); (first | (have rz := ((RZ.out wr).below (HCH.out.2.2.2.2 _)).below hbN; have dz := HCV.out _ _ kn _ _ rz (zeroB_length _).symm HT.out.1) | (have rz := (RZ.out _).below hbN; have dz := HCV.out _ _ kn _ _ rz (zeroB_length _).symm HT.out.1) | (have rz := rz.below hbN; have dz := HCV.out _ _ kn _ _ rz (zeroB_length _).symm HT.out.1) | skip); clear hbN)
            | (go_simp; go_at_call 26; with_reducible refine (HF2.out _).mono ?_; rintro e wN ⟨rfl, hbN⟩; have HC : Hid (Below wr.heap.size wr wN) := Lib.hid (HCH.out.1 _ _ (by { first | exact HC.out | exact HCH.out.2.2.2.1 _ HC.out | exact HCH.out.2.1 _ _ HC.out | exact HCH.out.2.2.2.1 _ (HCH.out.2.1 _ _ HC.out) }) hbN); (first | (have rz := ((RZ.out wr).below (HCH.out.2.2.2.2 _)).below hbN; have dz := HCV.out _ _ kn _ _ rz (zeroB_length _).symm HT.out.1) | (have rz := (RZ.out _).below hbN; have dz := HCV.out _ _ kn _ _ rz (zeroB_length _).symm HT.out.1) | (have rz := rz.below hbN; have dz := HCV.out _ _ kn _ _ rz (zeroB_length _).symm HT.out.1) | skip); clear hbN)
            | (go_simp; go_at_call 25; with_reducible refine (HS1.out _).mono ?_; rintro e wN ⟨rfl, hbN⟩; have HC : Hid (Below wr.heap.size wr wN) := Lib.hid (HCH.out.1 _ _ (by { first | exact HC.out | exact HCH.out.2.2.2.1 _ HC.out | exact HCH.out.2.1 _ _ HC.out | exact HCH.out.2.2.2.1 _ (HCH.out.2.1 _ _ HC.out) }) hbN); (first | (have rz := ((RZ.out wr).below (HCH.out.2.2.2.2 _)).below hbN; have dz := HCV.out _ _ kn _ _ rz (zeroB_length _).symm HT.out.1) | (have rz := (RZ.out _).below hbN; have dz := HCV.out _ _ kn _ _ rz (zeroB_length _).symm HT.out.1) | (have rz := rz.below hbN; have dz := HCV.out _ _ kn _ _ rz (zeroB_length _).symm HT.out.1) | skip); clear hbN)
            | (go_simp; go_at_call 25; with_reducible refine (HS2.out _).mono ?_; rintro e wN ⟨rfl, hbN⟩; have HC : Hid (Below wr.heap.size wr wN) := Lib.hid (HCH.out.1 _ _ (by { first | exact HC.out | exact HCH.out.2.2.2.1 _ HC.out | exact HCH.out.2.1 _ _ HC.out | exact HCH.out.2.2.2.1 _ (HCH.out.2.1 _ _ HC.out) }) hbN); (first | (have rz := ((RZ.out wr).below (HCH.out.2.2.2.2 _)).below hbN; have dz := HCV.out _ _ kn _ _ rz (zeroB_length _).symm HT.out.1) | (have rz := (RZ.out _).below hbN; have dz := HCV.out _ _ kn _ _ rz (zeroB_length _).symm HT.out.1) | (have rz := rz.below hbN; have dz := HCV.out _ _ kn _ _ rz (zeroB_length _).symm HT.out.1) | skip); clear hbN))
          all_goals go_wp2_with fail
          all_goals go_meet
          all_goals refine ⟨rfl, Lib.hid ?_⟩
          all_goals first | exact HC.out | exact HCH.out.2.1 _ _ HC.out
        case rest =>
          obtain ⟨rfl, HB⟩ := hcut
          have HKW := Lib.hid (HKP.out.below HB.out)
          have q0' := below_cell HB.out HQ0.out
          have e2' := HKW.out.dx.cells.2.2.1
          obtain ⟨s, hs⟩ : ∃ s, u2.drop k9 = s := ⟨_, rfl⟩
          obtain ⟨y, hy⟩ : ∃ y, bs s = y := ⟨_, rfl⟩
          obtain ⟨E, hE⟩ : ∃ E, J.appE s = E := ⟨_, rfl⟩
          have hsl : ∀ W, (Instr.slice 9 (.string U2) (some (.int .i64 (k9 : Int))) none none).run Try.prog W = .ok (.string y) W := fun W => by
            rw [HT.out.2.1, ← hy, ← hs]
            exact slice_bsl W u2 _ k9 rfl (by have := HT.out.2.2; have := HNUM.out; omega)
          have hslen : s.length ≤ 9223372036854775807 := by rw [← hs, List.length_drop]; have := HT.out.2.2; have := HNUM.out; omega
          have hap := kp_append HKW.out s hslen E hE
          rw [hy] at hap
          have HAP := Lib.hid hap
          have HY := Lib.hid hy
          have HAPP := Lib.hid (HH.out.append s)
          have HE := Lib.hid hE
          clear q0 hap hy hs hE hslen e2 hi8w hG1w hkn2 p1 p2 p3 hFF hU1 hU2
          go_wp2_with fail
          refine HAP.out.mono ?_
          rintro e w4 ⟨rfl, K4, kp4⟩
          clear e2' hsl q0' HAP
          by_cases hz : E = 0
          · subst hz
            have hh2 : Held S (J.app s) 32 0 8 g l [s] := by
              rcases HAPP.out with ⟨a, _⟩ | ⟨a, _⟩ | ⟨_, _, b⟩
              · rw [HE.out] at a; exact absurd a (by decide)
              · rw [HE.out] at a; exact absurd a (by decide)
              · exact b
            have HH2 := Lib.hid hh2
            have HK4 := Lib.hid kp4
            have e40 := kp4.dx.cells.1
            clear kp4 hh2
            go_upto_if 110 with fail
            go_cut [6] from 29 to 173 (fun v6 wx => ∃ (S5 : St) (K5 : Nat → Prop), Hid (Kp w wx x p d j S5 (J.app s) K5 A c l none 0 [] ∧ Held S5 (J.app s) 32 0 8 g l [s]))
            case first =>
              by_cases h3 : t % 3 = 2
              · have h3b : ((t : Int) % 3 == 2) = true := by rw [beq_iff_eq]; omega
                obtain ⟨m4, hm4⟩ : ∃ m4 : Nat, 1 + t % 4 = m4 := ⟨_, rfl⟩
                have hm4w : IntKind.i64.wrap (1 + (t : Int) % 4) = (m4 : Int) := by rw [IntKind.wrap_i64]; omega
                have hm4v : 1 + (t : Int) % 4 = (m4 : Int) := by omega
                have HAR := Lib.hid (kp_arm HK4.out (m4 : Int) (by omega))
                clear h3 hm4
                go_wp2_with fail
                refine HAR.out.mono ?_
                rintro e w5 ⟨rfl, K5, kp5⟩
                have HK5 := Lib.hid kp5
                clear kp5 HAR
                go_wp2_with fail
                go_meet
                exact ⟨_, K5, Lib.hid ⟨HK5.out, HH2.out.armed _⟩⟩
              · have h3b : ((t : Int) % 3 == 2) = false := by rw [beq_eq_false_iff_ne]; omega
                clear h3
                go_wp2_with fail
                go_meet
                exact ⟨_, K4, Lib.hid ⟨HK4.out, HH2.out⟩⟩
            case rest =>
              obtain ⟨S5, K5, HK5⟩ := hcut
              obtain ⟨E2, hE2⟩ : ∃ E, (commitF (J.app s) S5 0).1 = E := ⟨_, rfl⟩
              obtain ⟨S6, hS6⟩ : ∃ S, (commitF (J.app s) S5 0).2 = S := ⟨_, rfl⟩
              obtain ⟨J6, hJ6⟩ : ∃ J_, (J.app s).commit S5 0 = J_ := ⟨_, rfl⟩
              have hcm := kp_commit HK5.out.1
              have hou := HK5.out.2.commit
              unfold Out at hou
              rw [hE2, hS6, hJ6] at hcm hou
              have HCM := Lib.hid hcm
              have HOU := Lib.hid hou
              have HFT := Lib.hid HK5.out.2.fits
              have e52 := HK5.out.1.dx.cells.2.2.1
              clear hcm hou hE2 hS6 hJ6 e40
              go_wp2_with fail
              refine HCM.out.mono ?_
              rintro e w6 ⟨rfl, K6, kp6⟩
              have HK6 := Lib.hid kp6
              have e60 := kp6.dx.cells.1
              clear kp6 e52 HCM
              by_cases hz2 : E2 = 0
              · subst hz2
                have hh3 : S6.off = false ∧ Held S6 J6 32 0 8 g (l ++ [s]) [] := by
                  rcases HOU.out with ⟨_, a, _, b⟩ | ⟨a, _⟩
                  · exact ⟨a, b⟩
                  · exact absurd a (by decide)
                have HH3 := Lib.hid hh3
                have HAR := Lib.hid (kp_arm HK6.out (-1) (by omega))
                clear hh3
                go_wp2_with fail
                refine HAR.out.mono ?_
                rintro e w7 ⟨rfl, K7, kp7⟩
                have HK7 := Lib.hid kp7
                clear kp7 HAR e60
                have hlen := fits_len_ HFT.out
                have HLEN : Hid (n ≤ 60000) := Lib.hid (by rw [HN.out]; omega)
                clear hlen
                go_wp2_with (at_builtin; go_must (refine wpList_appW (.inl rfl) (.tmp 130) (.tmp 132) rfl w.heap.size A n c l rfl HN.out (OwnR.alloc HK7.out.r1 _) (some ⟨w7.heap.size, 0, none⟩) 1 1 [s] rfl rfl (rdw_one _ _ _ (by rw [HY.out])) (by rw [← HN.out]; have := HLEN.out; simp; omega) (by have := HK7.out.be.size; simp; omega) ?_); (intro A3 c3 w8 hown8 hg8 hat8; have hk8 := (HK7.out.below ((Below.refl _ _).alloc (Nat.le_refl _) _)).row1 hown8 hg8 (by rcases hat8 with h1 | h1; exact .inl h1; exact .inr ⟨_, h1, Nat.le_refl _⟩); have HK8 := Lib.hid hk8; clear hk8 hown8 hg8 hat8))
                refine ⟨⟨t + 1, n + 1, A3, c3, by omega, by first | omega | exact int_eq (by omega), rfl, Lib.hid ⟨j, _, _, K7, g, l ++ [s], HK8.out, HH3.out.2.armed _, rfl, by have := HG.out; omega, by rw [HN.out]; simp⟩⟩, by simp [RowKit.intOf]; omega⟩
              · have hze : (E2 == 0) = false := by simpa using hz2
                have hcr : Crashy S6 0 32 (fun f' => PF 32 0 8 g l [s] false f') := by
                  rcases HOU.out with ⟨a, _⟩ | ⟨_, _, _, b⟩
                  · exact absurd a hz2
                  · exact b.imp fun _ h => .inl h
                have HCR := Lib.hid hcr
                have HCRASH : Hid (∀ (W2 : World) (A7 : Option Addr) (c7 : Nat), Below w6.heap.size w6 W2 → OwnZ W2 w6.heap.size A7 c7 z2 → Calls Try.prog 23 #[ob p, .slice A7 len2 c7] W2 fun e w' => KpS w x p d j (.tuple #[]) (S6.crash z2) J6 A c l none 0 [] e w') := Lib.hid (fun W2 A7 c7 hb ho =>
                  kp_crash (HK6.out.below hb) z2 A7 len2 c7 HZ2.out.1.symm (OwnR.cap ho) (own_capm_3 ho) (OwnZ.rd ho) (fun ad e hf => by
                    have h1 := HK6.out.dx.lt _ hf
                    have h2 := (OwnR.lt ho ad.block (by rw [e]; rfl)).1
                    omega) HZ2.out.2.2.2.2.1)
                have hz2l : len2 ≤ 17592186044416 := HZ2.out.2.2.2.2.2
                have HZL := Lib.hid hz2l
                have HPKB : Hid (∀ W, Below w.heap.size w W → RdZ W a2 z2) := Lib.hid (fun W hb => HZ2.out.2.1.below hb)
                clear hcr hz2 hz2l
                go_wp2_with fail
                have hp0 : ([] : List Int).length + z2.length = len2 := by simp; exact HZ2.out.1
                go_region_held3 (fun W' : World => W'.cell? ⟨x, 0, none⟩ = some (ob p)) (first | exact e60 | exact below_cell ((Below.refl _ _).drew.alloc (Nat.le_refl _) _) e60 | exact below_cell hb7 e60 | exact kp8.dx.cells.1) (first | ((refine step_appZd rfl (.tmp 138) (.tmp 139) rfl w6.heap.size _ 0 0 [] rfl rfl (ownz_empty w6.drew (Nat.le_refl _)) a2 len2 cap2 z2 rfl HZ2.out.1.symm (HPKB.out _ (HK6.out.be.trans (((Below.refl _ _).drew.alloc (Nat.le_refl _) _).mono HK6.out.be.size))) (by rw [hp0]; exact HZL.out) (by simp) ?_; intro A7 c7 w7 hown7 hg7; rw [hp0]; rw [List.nil_append] at hown7; have hb7 : Below w6.heap.size w6 w7 := (((Below.refl w6.heap.size w6).drew).alloc (Nat.le_refl _) _).grown hg7 (by simp) (fun q hq => by simp [blk] at hq; omega))) | (go_at_call 23; refine (HCRASH.out _ A7 c7 hb7 hown7).mono ?_; rintro e w8 ⟨rfl, K8, kp8⟩))
                obtain ⟨S8, hS8⟩ : ∃ S_, S6.crash z2 = S_ := ⟨_, rfl⟩
                obtain ⟨f, hpf, htn, hof, hra⟩ := HCR.out.crash z2
                rw [hS8] at htn hof hra kp8
                obtain ⟨got, g', hR0, hheld, harm2, hor, hg', hgot⟩ := open_last htn hof hra HFT.out (by have := HG.out; omega) hpf
                obtain ⟨R, hR⟩ : ∃ R, openF S8 0 (128 * 0) 8 = R := ⟨_, rfl⟩
                have hop0 := kp_open kp8 (128 * 0) 8 (torn_check htn HFT.out) R hR
                rw [hR] at hR0 hheld harm2
                have hop1 : Calls Try.prog 17 #[ob d, .int .i64 0, .int .i64 8] w8 fun e w' => KpO w w8 x p d j S8 (128 * 0) 8 R J6 A c l none 0 [] e w' := hop0
                have HOP := Lib.hid hop1
                have HHD := Lib.hid (And.intro hheld harm2)
                have HR0 := Lib.hid hR0
                have HOR := Lib.hid hor
                have HGG : Hid (g' ≤ g + 1) := Lib.hid hg'
                have hgot2 : got = l ∨ (got ≠ l ∧ got = l ++ [s]) := by
                  rcases hgot with ⟨q, q1, q2, q3⟩ | ⟨q1, _⟩
                  · rw [List.length_append, List.length_singleton] at q2
                    by_cases hq : q = l.length
                    · refine .inl ?_; rw [q3, hq, List.take_left]
                    · have h4 : got = l ++ [s] := by rw [q3, List.take_of_length_le (by rw [List.length_append, List.length_singleton]; omega)]
                      refine .inr ⟨fun e => ?_, h4⟩
                      have := congrArg List.length e
                      rw [h4, List.length_append, List.length_singleton] at this
                      omega
                  · cases q1
                have HGOT := Lib.hid hgot2
                have HK8 := Lib.hid kp8
                have e81 := kp8.dx.cells.2.1
                clear hR0 hheld harm2 hor hg' hgot hgot2 hR hop0 hop1 htn hof hra hpf hS8 kp8 hb7 hown7 hg7 e60
                go_wp2_with fail
                refine HOP.out.mono ?_
                rintro e w9 hop
                rcases hop with ⟨h9, _⟩ | ⟨_, j2, A3, n3, c3, K9, G9, rfl, hn3, ho9, hnc3, hk9, hj9, hdi9, hA9, hok9, hln9, hge9⟩
                · exact absurd HR0.out h9
                · rw [HOR.out] at hn3 ho9
                  have HK9 := Lib.hid hk9
                  have HO9 := Lib.hid ho9
                  have HN3 : Hid (n3 = got.length ∧ n3 ≤ 60000) := Lib.hid ⟨hn3, hln9⟩
                  have HJ9 : Hid (JrR w9 j2 d (openJ S8 0 (128 * 0) 8) G9 ∧ Dis K9 G9 ∧ (openJ S8 0 (128 * 0) 8).Ok (R.2.at_ 0).size ∧ Ge G9 w.heap.size ∧ ∀ b, blk A3 = some b → ¬ K9 b ∧ ¬ G9 b) := Lib.hid ⟨hj9, hdi9, hok9, fun i hi => Nat.le_trans HK8.out.be.size (hge9 i hi), fun b hb => ⟨(hA9 b hb).2.1, (hA9 b hb).2.2⟩⟩
                  have hlen := fits_len_ HFT.out
                  have HLEN : Hid (n ≤ 60000) := Lib.hid (by rw [HN.out]; omega)
                  clear hn3 ho9 hk9 hj9 hdi9 hA9 hok9 hge9 hnc3 hln9 hlen e81 HOP
                  have hsm : Calls Try.prog 19 #[.slice A3 n3 c3, .slice A n c] w9 fun e w' => QuietB (decide (got = l)) w9 e w' := by
                    have := same_any A3 A got l c3 c w9 (OwnW.rd HO9.out) (OwnW.rd HK9.out.r1) (by unfold maxLen; rw [← HN3.out.1]; have := HN3.out.2; omega) (by unfold maxLen; rw [← HN.out]; have := HLEN.out; omega)
                    rw [← HN3.out.1, ← HN.out] at this
                    exact this
                  have HSM := Lib.hid hsm
                  clear hsm
                  have hcase : (got = l) ∨ (got ≠ l ∧ got = l ++ [s]) := HGOT.out
                  rcases hcase with hgl | ⟨hgl, hgl2⟩
                  · have hd : decide (got = l) = true := by simpa using hgl
                    rw [hd] at HSM
                    clear hd hgl
                    go_wp2_with fail
                    refine HSM.out.mono ?_
                    rintro e w12 ⟨rfl, nq, rfl⟩
                    have e2 : (w9.drewN nq).cell? ⟨x, 2, none⟩ = some (ob j) := HK9.out.dx.cells.2.2.1
                    have f2 : (w9.drewN nq).frozen? ⟨x, 2, none⟩ = false := HK9.out.dx.cells.2.2.2
                    go_wp2_with fail
                    obtain ⟨K12, hkp12⟩ := Kp.adopt (HK9.out.below (below_drewN (Below.refl w9.heap.size w9) nq)) (HJ9.out.1.below (below_drewN (Below.refl w9.heap.size w9) nq)) HJ9.out.2.1 HJ9.out.2.2.1 HJ9.out.2.2.2.1 (OwnR.mono (OwnR.below' HO9.out (below_drewN (Below.refl w9.heap.size w9) nq)) HK8.out.be.size) HJ9.out.2.2.2.2
                    refine ⟨⟨t + 1, n3, A3, c3, by omega, by first | omega | exact int_eq (by omega), rfl, Lib.hid ⟨j2, R.2, openJ S8 0 (128 * 0) 8, K12, g', got, hkp12, HHD.out.1, HHD.out.2, by have := HGG.out; have := HG.out; omega, HN3.out.1⟩⟩, by simp [RowKit.intOf]; omega⟩
                  · have hd : decide (got = l) = false := by simpa using hgl
                    rw [hd] at HSM
                    have HGL := Lib.hid hgl2
                    clear hd hgl hgl2
                    go_wp2_with fail
                    refine HSM.out.mono ?_
                    rintro e w10 ⟨rfl, nq, rfl⟩
                    have HBW : Hid (Below w9.heap.size w9 (w9.drewN nq)) := Lib.hid (below_drewN (Below.refl _ _) _)
                    obtain ⟨W0, hW0⟩ : ∃ W, w9.drewN nq = W := ⟨_, rfl⟩
                    rw [hW0] at HBW
                    rw [hW0]
                    clear hW0
                    have HB0 : Hid (Below w9.heap.size w9 (W0.alloc (.cells #[] 9))) := Lib.hid (HBW.out.alloc HBW.out.size _)
                    go_wp2_with (first | (at_builtin; refine wpList_appW (.inr (by simp [Region.wanted, yielded])) (.tmp 159) (.tmp 160) rfl W0.heap.size _ 0 0 [] rfl rfl (ownw_empty W0 (Nat.le_refl _)) A n c l rfl HN.out ((OwnW.rd HK9.out.r1).below HB0.out) (by rw [← HN.out]; have := HLEN.out; simp; omega) (by simp) ?_; (rw [Nat.zero_add, List.nil_append]; intro A10 c10 w10 hown10 hg10 hat10; have hb10 : Below w9.heap.size w9 w10 := HB0.out.grown hg10 HB0.out.size (fun q hq => by simp [blk] at hq; have := HBW.out.size; omega); have HB10 := Lib.hid hb10; have HO10 := Lib.hid (OwnR.mono hown10 HBW.out.size); clear hb10 hown10 hg10 hat10)) | (at_builtin; go_must (refine wpList_appW (.inr (by simp [Region.wanted, yielded])) (.tmp 161) (.tmp 163) rfl w9.heap.size A10 n c10 l rfl HN.out (OwnR.alloc HO10.out _) (some ⟨w10.heap.size, 0, none⟩) 1 1 [s] rfl rfl (rdw_one _ _ _ (by rw [HY.out])) (by rw [← HN.out]; have := HLEN.out; simp; omega) (by have := HB10.out.size; simp; omega) ?_); (intro A11 c11 w11 hown11 hg11 hat11; have hb11 : Below w9.heap.size w9 w11 := (HB10.out.alloc HB10.out.size _).grown hg11 (by have := HB10.out.size; simp; omega) (fun q hq => (OwnR.lt HO10.out q hq).1); have HB911 := Lib.hid hb11; have HO11 := Lib.hid hown11; have HK11 := Lib.hid (HK9.out.below hb11); have hc11 : n + 1 ≤ c11 := by { have h1 := OwnR.cap hown11; rw [List.length_append, ← HN.out] at h1; exact h1 }; clear hb11 hown11 hg11 hat11)))
                    have hn31 : n3 = n + 1 := by rw [HN3.out.1, HGL.out, List.length_append, List.length_singleton, HN.out]
                    have hsm2 : Calls Try.prog 19 #[.slice A3 n3 c3, .slice A11 (n + 1) c11] w11 fun e w' => QuietB true w11 e w' := by
                      have := same_any A3 A11 got (l ++ [s]) c3 c11 w11 ((OwnW.rd HO9.out).below HB911.out) (OwnW.rd HO11.out) (by unfold maxLen; rw [← HN3.out.1]; have := HN3.out.2; omega) (by unfold maxLen; rw [List.length_append, ← HN.out]; have := HLEN.out; simp; omega)
                      rw [decide_eq_true HGL.out, ← HN3.out.1, List.length_append, List.length_singleton, ← HN.out] at this
                      exact this
                    have HSM2 := Lib.hid hsm2
                    have HN31 := Lib.hid hn31
                    clear hsm2 hn31
                    go_wp2_with fail
                    refine HSM2.out.mono ?_
                    rintro e w12 ⟨rfl, nq2, rfl⟩
                    have e2 : (w11.drewN nq2).cell? ⟨x, 2, none⟩ = some (ob j) := HK11.out.dx.cells.2.2.1
                    have f2 : (w11.drewN nq2).frozen? ⟨x, 2, none⟩ = false := HK11.out.dx.cells.2.2.2
                    go_wp2_with fail
                    obtain ⟨K12, hkp12⟩ := Kp.adopt (HK9.out.below (below_drewN HB911.out nq2)) (HJ9.out.1.below (below_drewN HB911.out nq2)) HJ9.out.2.1 HJ9.out.2.2.1 HJ9.out.2.2.2.1 (OwnR.mono (OwnR.below' HO9.out (below_drewN HB911.out nq2)) HK8.out.be.size) HJ9.out.2.2.2.2
                    refine ⟨⟨t + 1, n3, A3, c3, by omega, by first | omega | exact int_eq (by omega), rfl, Lib.hid ⟨j2, R.2, openJ S8 0 (128 * 0) 8, K12, g', got, hkp12, HHD.out.1, HHD.out.2, by have := HGG.out; have := HG.out; omega, HN3.out.1⟩⟩, by simp [RowKit.intOf]; omega⟩
          · have hze : (E == 0) = false := by simpa using hz
            have hzn : (E != 0) = true := by simp [bne, hze]
            have hjs : J.app s = J := by
              rcases HAPP.out with ⟨_, _, a⟩ | ⟨_, _, _, a⟩ | ⟨a, _⟩
              · exact a
              · exact a
              · rw [HE.out] at a; exact absurd a hz
            rw [hjs] at kp4
            have HK4 := Lib.hid kp4
            have HCN := Lib.hid (kp_cancel kp4)
            have e24 := kp4.dx.cells.2.2.1
            clear hjs kp4 hz
            go_wp2_with fail
            refine HCN.out.mono ?_
            rintro e w5 ⟨rfl, K5, kp5⟩
            have hhc := HH.out.cancel
            have hou := (hhc.switch (by have := HG.out; omega)).calm HARM.out
            have hsw := kp_switch kp5 (by rw [hhc.gen]; have := HG.out; omega)
            obtain ⟨r0, _, r2, r3⟩ := hou
            rw [r0] at hsw
            have HSW := Lib.hid hsw
            have HR := Lib.hid (And.intro r2 r3)
            have e25 := kp5.dx.cells.2.2.1
            clear e24 kp5 hhc r0 r2 r3 hsw HCN
            go_wp2_with fail
            refine HSW.out.mono ?_
            rintro e w6 ⟨rfl, K6, kp6⟩
            have HK6 := Lib.hid kp6.nil1
            clear e25 kp6 HSW
            go_wp2_with fail
            refine ⟨⟨t + 1, 0, none, 0, by omega, by first | omega | exact int_eq (by omega), rfl, Lib.hid ⟨j, _, _, K6, g + 1, [], HK6.out, HR.out.2, HR.out.1, by have := HG.out; omega, rfl⟩⟩, by simp [RowKit.intOf]; omega⟩
    · obtain ⟨j, S, J, K, g, l, hkp, hh, harm, hg, hn⟩ := HJ.out
      have HKP := Lib.hid hkp
      have HN := Lib.hid hn
      obtain ⟨hor, hop⟩ := hh.open_
      obtain ⟨o1, _, _, _⟩ := hop.calm harm
      obtain ⟨R, hR⟩ : ∃ R, openF S 0 (128 * 0) 8 = R := ⟨_, rfl⟩
      have hlen := fits_len_ hh.fits
      have HLEN : Hid (n ≤ 60000) := Lib.hid (by rw [hn]; omega)
      have hck : checkB (S.at_ 0).size ((128 * 0 : Nat) : Int) ((8 : Nat) : Int) = true := by
        obtain ⟨f, ht, _⟩ := hh.torn
        exact torn_check ht hh.fits.left
      have hop0 := kp_open hkp (128 * 0) 8 hck R hR
      have hop1 : Calls Try.prog 17 #[ob d, .int .i64 0, .int .i64 8] wr fun e w' => KpO w wr x p d j S (128 * 0) 8 R J A c l none 0 [] e w' := hop0
      have HOP := Lib.hid hop1
      rw [hR] at o1
      have HOR := Lib.hid (And.intro hor o1)
      have e1 := hkp.dx.cells.2.1
      clear hkp hh harm hg hn HJ hor hop o1 hR hlen hck hop0 hop1
      by_cases hlt0 : t < len0
      all_goals
        first | (have h25 : (25 : Int) ≤ (t : Int) := by omega) | (have hl0 : (len0 : Int) ≤ (t : Int) := by omega)
        go_wp2_with fail
        refine HOP.out.mono ?_
        rintro e w9 hop
        rcases hop with ⟨h9, _⟩ | ⟨_, j2, A3, n3, c3, K9, G9, rfl, hn3, ho9, hnc3, hk9, hj9, hdi9, hA9, hok9, hln9, hge9⟩
        · exact absurd HOR.out.2 h9
        · rw [HOR.out.1] at hn3 ho9
          have HK9 := Lib.hid hk9
          have hsm : Calls Try.prog 19 #[.slice A3 n3 c3, .slice A n c] w9 fun e w' => QuietB true w9 e w' := by
            have := same_any A3 A l l c3 c w9 (OwnW.rd ho9) (OwnW.rd hk9.r1) (by unfold maxLen; rw [← HN.out]; have := HLEN.out; omega) (by unfold maxLen; rw [← HN.out]; have := HLEN.out; omega)
            rw [decide_eq_true rfl] at this
            rw [hn3, HN.out]
            exact this
          have HSM := Lib.hid hsm
          clear hn3 ho9 hk9 hj9 hdi9 hA9 hok9 hge9 hnc3 hln9 HOP hsm
          go_wp2_with fail
          refine HSM.out.mono ?_
          rintro e w12 ⟨rfl, nq, rfl⟩
          go_wp2_with fail
          go_ret
          exact ⟨rfl, below_drewN HK9.out.be _⟩
end Go.Proofs.Ytjmhfjioccljeaa
