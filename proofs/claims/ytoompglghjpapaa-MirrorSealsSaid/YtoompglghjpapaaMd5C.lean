/-
  Walk: Md5: the 16 bytes that name a chunk.
-/
import Derived.Test.YtoompglghjpapaaMd5B
import Derived.Maps.RangeWalk
namespace Go.Proofs.Ytoompglghjpapaa
open Go.RowKit Crc
set_option linter.unusedVariables false
set_option linter.unusedSimpArgs false

/-- as many noughts as are wanted -/
theorem noughts_more (n j : Nat) (h : ¬ (n + 1 + j) % 64 = 56) (hj : j ≤ Md5.noughts n) : j < Md5.noughts n := by
  have := Md5.noughts_ok n
  rcases Nat.lt_or_ge j (Md5.noughts n) with h1 | h1
  · exact h1
  · have : j = Md5.noughts n := by omega
    subst this; omega
theorem noughts_done (n j : Nat) (h : (n + 1 + j) % 64 = 56) (hj : j ≤ Md5.noughts n) : j = Md5.noughts n := by
  have := Md5.noughts_ok n
  have := Md5.noughts_lt n
  omega

theorem le_val (n k : Nat) : (n : Int) * 8 / 2 ^ k % 256 = ((UInt8.ofNat ((8 * n) >>> k)).toNat : Int) := by
  have e : (n : Int) * 8 / 2 ^ k = ((n * 8 / 2 ^ k : Nat) : Int) := by rw [Int.natCast_ediv, Int.natCast_mul, Int.natCast_pow]; rfl
  have e2 : (UInt8.ofNat ((8 * n) >>> k)).toNat = (8 * n) >>> k % 256 := by simp
  rw [e, e2, Nat.shiftRight_eq_div_pow, Nat.mul_comm 8 n]; omega
theorem le_cells (w : World) (n k : Nat) : ∀ j u, (bc [UInt8.ofNat ((8 * n) >>> k)])[j]? = some u → (w.alloc (.cells #[.int .u8 ((n : Int) * 8 / 2 ^ k % 256)] 5)).cell? ((⟨w.heap.size, 0, none⟩ : Addr).add j) = some u := by
  rw [le_val]; exact cells_new w _ _
theorem le_succ (n k : Nat) : Md5.le n (k + 1) = Md5.le n k ++ [UInt8.ofNat (n >>> (8 * k))] := by
  simp [Md5.le, List.range_succ]

theorem setRow_kept {w : World} {b : Nat} {o : Obj} (h : w.heap[b]? = some o) (cells : Array Value) {g : Nat} (hg : b ≠ g) : (w.setRow g cells).heap[b]? = some o := (setRow_other w g b _ hg).trans h

def outs (s : Md5.St) (j : Nat) : List UInt8 := (([s.a, s.b, s.c, s.d] : List (BitVec 32)).take j).flatMap fun v => Md5.le v.toNat 4
theorem outs_all (s : Md5.St) : outs s 4 = Md5.out s := by simp [outs, Md5.out]
theorem outs_length (s : Md5.St) (j : Nat) (h : j ≤ 4) : (outs s j).length = 4 * j := by
  rcases (show j = 0 ∨ j = 1 ∨ j = 2 ∨ j = 3 ∨ j = 4 by omega) with rfl | rfl | rfl | rfl | rfl <;> simp [outs, Md5.length_le]
theorem le4_cells (w : World) (x : BitVec 32) : ∀ j u, (bc (Md5.le x.toNat 4))[j]? = some u → (w.alloc (.cells #[.int .u8 ((x.toNat : Int) % 256), .int .u8 ((x.toNat : Int) / 256 % 256), .int .u8 ((x.toNat : Int) / 65536 % 256), .int .u8 ((x.toNat : Int) / 16777216)] 5)).cell? ((⟨w.heap.size, 0, none⟩ : Addr).add j) = some u := by
  have hx := x.isLt
  have h4 : (x.toNat : Int) / 16777216 = (x.toNat : Int) / 16777216 % 256 := by omega
  have e : bc (Md5.le x.toNat 4) = [.int .u8 ((x.toNat : Int) % 256), .int .u8 ((x.toNat : Int) / 256 % 256), .int .u8 ((x.toNat : Int) / 65536 % 256), .int .u8 ((x.toNat : Int) / 16777216)] := by
    rw [h4]
    simp [bc, Md5.le, List.range_succ, Nat.shiftRight_eq_div_pow]
  rw [e]; exact cells_new w _ _

theorem arr_at0 (a b c d : Value) (w : World) : (Instr.index 140 (.agg #[a, b, c, d]) (.int .i64 0)).run Try.prog w = .ok a w := by kernel_rfl
theorem arr_at1 (a b c d : Value) (w : World) : (Instr.index 140 (.agg #[a, b, c, d]) (.int .i64 1)).run Try.prog w = .ok b w := by kernel_rfl
theorem arr_at2 (a b c d : Value) (w : World) : (Instr.index 140 (.agg #[a, b, c, d]) (.int .i64 2)).run Try.prog w = .ok c w := by kernel_rfl
theorem arr_at3 (a b c d : Value) (w : World) : (Instr.index 140 (.agg #[a, b, c, d]) (.int .i64 3)).run Try.prog w = .ok d w := by kernel_rfl

set_option maxRecDepth 100000 in
set_option maxHeartbeats 1000000 in
theorem Md5_any (A : Option Addr) (l : List UInt8) (cap : Nat) (w : World) (hm : l.length ≤ 140737488355000) (h : RdB w A l) :
    Calls Try.prog 59 #[.slice A l.length cap] w fun e w' => e = .returned (.string ⟨(Md5.md5 l).toArray⟩) ∧ Below w.heap.size w w' := by
  have H := Lib.hid h; clear h
  have hs1 : (Try.prog.info? 141).map (·.size) = some tbl.size := by kernel_rfl
  have HS := Lib.hid hs1; clear hs1
  have hs2 : (Try.prog.info? 140).map (·.size) = some (stv Md5.start).size := by kernel_rfl
  have HS4 := Lib.hid hs2; clear hs2
  go_enter Try.func59, Try.ntmps59
  go_wp2_with fail
  refine (mclone_any A l cap w (by omega) H.out).mono ?_
  rintro e w1 ⟨A1, c1, rfl, hown1, hb1⟩
  have HB1 := Lib.hid hb1; clear hb1
  have HO1 := Lib.hid hown1; clear hown1
  go_wp2_with (first
    | (at_builtin
       refine wpList_appB rfl (.tmp 12) (.tmp 13) rfl w.heap.size A1 l.length c1 l rfl rfl (HO1.out.alloc _) ⟨w1.heap.size, 0, none⟩ 1 1 [128] rfl rfl (cells_new w1 (bc [128]) 5) (by omega) (by have := HB1.out.size; simp; omega) ?_
       intro A2 c2 w2 hown2 hg2 hat2))
  have HB2 := Lib.hid (appB_below HB1.out HO1.out hg2 HB1.out.size)
  have HO2 := Lib.hid hown2
  clear hown2 hg2 hat2
  go_loopw [3] (fun m wr => ∃ (A' : Option Addr) (q c' j : Nat), m = .slice A' q c' ∧ q ≤ 140737488355100 ∧ Hid (q = l.length + 1 + j) ∧ j ≤ Md5.noughts l.length ∧ Hid (OwnB wr w.heap.size A' c' (l ++ [128] ++ List.replicate j 0)) ∧ Hid (Below w.heap.size w wr)) (fun m _ => match m with | .slice _ q _ => l.length + 65 - q | _ => 0)
  case atStart => exact ⟨A2, l.length + 1, c2, 0, rfl, by omega, rfl, Nat.zero_le _, by simpa [Hid] using HO2.out, HB2⟩
  case round =>
    obtain ⟨A', q, c', j, rfl, hq, Hq, hj, HO, HB⟩ := hrel
    have hnl := Md5.noughts_lt l.length
    by_cases h56 : q % 64 = 56
    · have ht : ((q : Int) % 64 != 56) = false := by rw [bne_eq_false_iff_eq]; omega
      go_wp2
      have HJ := Lib.hid (noughts_done l.length j (by rw [← Hq.out]; exact h56) hj)
      have HO4 : Hid (OwnB wr w.heap.size A' c' (l ++ [128] ++ List.replicate (Md5.noughts l.length) 0)) := by rw [← HJ.out]; exact HO.out
      clear HO h56 HO2 HO1 HB1 HB2
      go_loopw [3, 5] (fun m i wr => ∃ (A' : Option Addr) (q' c' j k : Nat), m = .slice A' q' c' ∧ i = .int .i64 k ∧ q' ≤ 140737488355200 ∧ k ≤ 64 ∧ Hid (k = 8 * j) ∧ Hid (q' = q + j) ∧ Hid (OwnB wr w.heap.size A' c' (l ++ [128] ++ List.replicate (Md5.noughts l.length) 0 ++ Md5.le (8 * l.length) j)) ∧ Hid (Below w.heap.size w wr)) (fun _ i _ => 64 - (intOf i).toNat)
      case atStart => exact ⟨A', q, c', 0, 0, rfl, rfl, by omega, by omega, rfl, rfl, by simpa [Hid, Md5.le] using HO4.out, HB⟩
      case round =>
        obtain ⟨A', q', c', j, k, rfl, rfl, hq', hk, Hk, Hq2, HO, HB⟩ := hrel
        by_cases hlt : k < 64
        · have E1 := Lib.hid (show q' = (l ++ [128] ++ List.replicate (Md5.noughts l.length) 0 ++ Md5.le (8 * l.length) j).length by rw [Hq2.out, Hq.out, HJ.out]; simp [Md5.length_le]; omega)
          have E2 := Lib.hid (le_cells wr l.length k)
          go_wp2_with (first
            | (at_builtin
               refine wpList_appB rfl (.tmp 30) (.tmp 35) rfl w.heap.size A' q' c' _ rfl E1.out (OwnR.alloc HO.out _) ⟨wr.heap.size, 0, none⟩ 1 1 [UInt8.ofNat ((8 * l.length) >>> k)] rfl rfl E2.out (by omega) (by have := HB.out.size; simp; omega) ?_
               intro A3 c3 w3 hown3 hg3 hat3))
          have HB3 := Lib.hid (appB_below HB.out HO.out hg3 HB.out.size)
          exact ⟨⟨A3, q' + 1, c3, j + 1, k + 8, rfl, by go_num, by have := Hk.out; have := Hq2.out; have := Hq.out; omega, by have := Hk.out; omega, (show k + 8 = 8 * (j + 1) by have := Hk.out; omega), (show q' + 1 = q + (j + 1) by have := Hq2.out; omega), by rw [le_succ, ← Hk.out, ← List.append_assoc]; exact hown3, HB3⟩, by simp [intOf]; omega⟩
        · have HL : Hid (k = 64) := (show k = 64 by omega)
          have HO5 : Hid (OwnB wr w.heap.size A' c' (Md5.pad l)) := by
            have e : j = 8 := by have := Hk.out; have := HL.out; omega
            have := HO.out
            rw [e] at this; exact this
          clear HO HO4
          go_wp2_with fail
          refine (sines_any _).mono ?_
          rintro e w5 ⟨rfl, hb5⟩
          go_wp2_with (first
            | (refine wpList_store_row rfl 141 (.tmp 7) (.tmp 38) rfl (w5.heap.size + 1) tbl rfl rfl 141 _ (heap_alloc2_new w5 _ _) HS.out (by rw [tbl_size]; rfl) tbl_one ?_))
          have hs6 := setRow_kept (heap_alloc2_old w5 (.cells (stv Md5.start) 140) (.cells (Array.replicate 64 (.int .u32 0)) 141)) tbl (g := w5.heap.size + 1) (by omega)
          have hk6 := setRow_block _ _ tbl _ _ (heap_alloc2_new w5 (.cells (stv Md5.start) 140) (.cells (Array.replicate 64 (.int .u32 0)) 141))
          have hb6 := below_setRow (B := wr.heap.size) (g := w5.heap.size + 1) ((hb5.alloc hb5.size (.cells (stv Md5.start) 140)).alloc (by have := hb5.size; simp; omega) (.cells (Array.replicate 64 (.int .u32 0)) 141)) (by have := hb5.size; omega) tbl
          have HLT := Lib.hid (show w.heap.size ≤ wr.heap.size ∧ wr.heap.size ≤ w5.heap.size from ⟨HB.out.size, hb5.size⟩)
          have HR6 := Lib.hid ((OwnB.rd HO5.out).below hb6)
          have HB6 := Lib.hid (HB.out.trans (hb6.mono HLT.out.1))
          have HC6 := Lib.hid (OwnR.cap HO5.out)
          have HS6 := Lib.hid hs6
          have HQ := Lib.hid (show q' + 64 * 0 = (Md5.pad l).length by rw [Md5.length_pad, Hq2.out, Hq.out, HJ.out]; have := Hk.out; have := HL.out; omega)
          have HK6 := Lib.hid hk6
          clear hs6 hk6 hb6 hb5
          change Code.wp _ _ _ _ (((w5.alloc (.cells (stv Md5.start) 140)).alloc (.cells (Array.replicate 64 (.int .u32 0)) 141)).setRow (w5.heap.size + 1) tbl)
          generalize (((w5.alloc (.cells (stv Md5.start) 140)).alloc (.cells (Array.replicate 64 (.int .u32 0)) 141)).setRow (w5.heap.size + 1) tbl) = w6 at *
          go_frame
          have HAB := Lib.hid (show ∀ ad, A' = some ad → ad.block < w5.heap.size from fun ad e => by have := (OwnR.lt HO5.out ad.block (by rw [e]; rfl)).2; have := HLT.out.2; omega)
          have HLS := Lib.hid (show w.heap.size ≤ w5.heap.size by have := HLT.out; omega)
          generalize w5.heap.size = sb at *
          clear HO5 HB HLT
          go_loopw [3] (fun m wr => ∃ (A' : Option Addr) (r c' i : Nat), m = .slice A' r c' ∧ r ≤ c' ∧ r ≤ 140737488355200 ∧ Hid (r + 64 * i = (Md5.pad l).length) ∧ Hid (RdB wr A' ((Md5.pad l).drop (64 * i))) ∧ Hid (Blk wr sb 140 (stv (Md5.blocks (Md5.pad l) i Md5.start))) ∧ Hid (Blk wr (sb + 1) 141 tbl) ∧ Hid (∀ ad, A' = some ad → ad.block < sb) ∧ Hid (Below w.heap.size w wr)) (fun m _ => match m with | .slice _ r _ => r | _ => 0)
          case atStart => exact ⟨A', q', c', 0, rfl, by have := HC6.out; have := HQ.out; omega, by omega, HQ.out, HR6.out, HS6.out, HK6, HAB, HB6⟩
          case round =>
            obtain ⟨A', r, c', i, rfl, hrc, hr, Hr, HR, HSb, HKb, HAd, HB⟩ := hrel
            by_cases h0 : 0 < r
            · have h64 : 64 ≤ r := by have := Hr.out; have := Md5.length_pad64 l; omega
              have HD := Lib.hid (show ((Md5.pad l).drop (64 * i)).length = r by rw [List.length_drop]; have := Hr.out; omega)
              obtain ⟨ad, rfl, _⟩ := HR.out (by rw [HD.out]; exact h0)
              have HR64 := Lib.hid (HR.out.take 64)
              have hlt1 := Lib.hid (RdB.lt HR.out (by rw [HD.out]; exact h0) rfl)
              have hlt2 := Lib.hid (HAd.out ad rfl)
              have HX := Lib.hid (show ((Md5.pad l).drop (64 * i)).drop 64 = (Md5.pad l).drop (64 * (i + 1)) by rw [List.drop_drop]; congr 1)
              by_cases hcap : c' = 64
              · subst hcap
                go_wp2_with fail
                refine (mix_any sb (sb + 1) _ ad _ 64 wr (by rw [List.length_take, HD.out]; omega) HR64.out HSb.out HKb.out).mono ?_
                rintro e w7 ⟨rfl, hs7, hg7⟩
                have HS7 := Lib.hid hs7
                have HG7 := Lib.hid hg7
                clear hs7 hg7
                go_wp2
                exact ⟨⟨some ad, r - 64, 0, i + 1, by go_num, by omega, by omega, by have := Hr.out; show _ = _; omega, by rw [show 64 * (i + 1) = 64 * (i + 1) by rfl]; intro hl; exfalso; rw [← HX.out, List.length_drop, HD.out] at hl; omega, HS7.out, HKb.out.grown HG7.out (by simp), HAd, HB.out.grown HG7.out HB.out.size (fun k hk => by cases hk; exact HLS.out)⟩, by simp; omega⟩
              · go_wp2_with fail
                refine (mix_any sb (sb + 1) _ ad _ c' wr (by rw [List.length_take, HD.out]; omega) HR64.out HSb.out HKb.out).mono ?_
                rintro e w7 ⟨rfl, hs7, hg7⟩
                have HS7 := Lib.hid hs7
                have HG7 := Lib.hid hg7
                clear hs7 hg7
                go_wp2
                exact ⟨⟨some (ad.add 64), r - 64, c' - 64, i + 1, rfl, by omega, by omega, by have := Hr.out; show _ = _; omega, by rw [← HX.out]; exact (RdB.keep HR.out fun ad' e => by cases e; exact HG7.out.block _ hlt1.out (by have := hlt2.out; simp; omega)).tail 64, HS7.out, HKb.out.grown HG7.out (by simp), fun ad' e => by cases e; rw [block_of_add]; exact hlt2.out, HB.out.grown HG7.out HB.out.size (fun k hk => by cases hk; exact HLS.out)⟩, by simp; omega⟩
            · have HF := Lib.hid (show (Md5.pad l).length / 64 = i by have := Hr.out; omega)
              generalize hF : Md5.blocks (Md5.pad l) i Md5.start = F at *
              have HFF := Lib.hid hF; clear hF
              have s0 := HSb.out.cell 0
              have s1 := HSb.out.cell 1
              have s2 := HSb.out.cell 2
              have s3 := HSb.out.cell 3
              simp [stv] at s0 s1 s2 s3
              clear HR HAd HKb
              have hF0 := F.a.isLt
              have hF1 := F.b.isLt
              have hF2 := F.c.isLt
              have hF3 := F.d.isLt
              go_wp2
              clear s0 s1 s2 s3
              go_loopw [8, 48] (fun m i wr => ∃ (A' : Option Addr) (r c' j : Nat), m = .slice A' r c' ∧ i = .int .i64 j ∧ r ≤ 16 ∧ j ≤ 4 ∧ Hid (r = (outs F j).length) ∧ Hid (OwnB wr w.heap.size A' c' (outs F j)) ∧ Hid (Below w.heap.size w wr)) (fun _ i _ => 4 - (intOf i).toNat)
              case atStart => exact ⟨none, 0, 0, 0, rfl, rfl, by omega, by omega, rfl, OwnB.nil _ _, HB⟩
              case round =>
                obtain ⟨A', r', c', j, rfl, rfl, hr', hj, Hr', HO, HB⟩ := hrel
                by_cases h4 : j < 4
                · rcases (show j = 0 ∨ j = 1 ∨ j = 2 ∨ j = 3 by omega) with rfl | rfl | rfl | rfl
                  · have E2 := Lib.hid (le4_cells wr F.a)
                    have i0 := arr_at0 (.int .u32 (F.a.toNat : Int)) (.int .u32 (F.b.toNat : Int)) (.int .u32 (F.c.toNat : Int)) (.int .u32 (F.d.toNat : Int))
                    go_wp2_with (first
                      | (at_builtin
                         refine wpList_appB rfl (.tmp 51) (.tmp 63) rfl w.heap.size A' r' c' _ rfl Hr'.out (OwnR.alloc HO.out _) ⟨wr.heap.size, 0, none⟩ 4 4 (Md5.le F.a.toNat 4) rfl (Md5.length_le _ _) E2.out (by omega) (by have := HB.out.size; simp; omega) ?_
                         intro A3 c3 w3 hown3 hg3 hat3))
                    have HB3 := Lib.hid (appB_below HB.out HO.out hg3 HB.out.size)
                    have e0 := outs_length F 0 (by omega)
                    have e1 := outs_length F 1 (by omega)
                    exact ⟨⟨A3, r' + 4, c3, 1, rfl, rfl, by have := Hr'.out; omega, by omega, by have := Hr'.out; show r' + 4 = (outs F 1).length; omega, (show outs F 0 ++ Md5.le F.a.toNat 4 = outs F 1 by simp [outs]) ▸ hown3, HB3⟩, by simp [intOf]⟩
                  · have E2 := Lib.hid (le4_cells wr F.b)
                    have i0 := arr_at1 (.int .u32 (F.a.toNat : Int)) (.int .u32 (F.b.toNat : Int)) (.int .u32 (F.c.toNat : Int)) (.int .u32 (F.d.toNat : Int))
                    go_wp2_with (first
                      | (at_builtin
                         refine wpList_appB rfl (.tmp 51) (.tmp 63) rfl w.heap.size A' r' c' _ rfl Hr'.out (OwnR.alloc HO.out _) ⟨wr.heap.size, 0, none⟩ 4 4 (Md5.le F.b.toNat 4) rfl (Md5.length_le _ _) E2.out (by omega) (by have := HB.out.size; simp; omega) ?_
                         intro A3 c3 w3 hown3 hg3 hat3))
                    have HB3 := Lib.hid (appB_below HB.out HO.out hg3 HB.out.size)
                    have e0 := outs_length F 1 (by omega)
                    have e1 := outs_length F 2 (by omega)
                    exact ⟨⟨A3, r' + 4, c3, 2, rfl, rfl, by have := Hr'.out; omega, by omega, by have := Hr'.out; show r' + 4 = (outs F 2).length; omega, (show outs F 1 ++ Md5.le F.b.toNat 4 = outs F 2 by simp [outs]) ▸ hown3, HB3⟩, by simp [intOf]⟩
                  · have E2 := Lib.hid (le4_cells wr F.c)
                    have i0 := arr_at2 (.int .u32 (F.a.toNat : Int)) (.int .u32 (F.b.toNat : Int)) (.int .u32 (F.c.toNat : Int)) (.int .u32 (F.d.toNat : Int))
                    go_wp2_with (first
                      | (at_builtin
                         refine wpList_appB rfl (.tmp 51) (.tmp 63) rfl w.heap.size A' r' c' _ rfl Hr'.out (OwnR.alloc HO.out _) ⟨wr.heap.size, 0, none⟩ 4 4 (Md5.le F.c.toNat 4) rfl (Md5.length_le _ _) E2.out (by omega) (by have := HB.out.size; simp; omega) ?_
                         intro A3 c3 w3 hown3 hg3 hat3))
                    have HB3 := Lib.hid (appB_below HB.out HO.out hg3 HB.out.size)
                    have e0 := outs_length F 2 (by omega)
                    have e1 := outs_length F 3 (by omega)
                    exact ⟨⟨A3, r' + 4, c3, 3, rfl, rfl, by have := Hr'.out; omega, by omega, by have := Hr'.out; show r' + 4 = (outs F 3).length; omega, (show outs F 2 ++ Md5.le F.c.toNat 4 = outs F 3 by simp [outs]) ▸ hown3, HB3⟩, by simp [intOf]⟩
                  · have E2 := Lib.hid (le4_cells wr F.d)
                    have i0 := arr_at3 (.int .u32 (F.a.toNat : Int)) (.int .u32 (F.b.toNat : Int)) (.int .u32 (F.c.toNat : Int)) (.int .u32 (F.d.toNat : Int))
                    go_wp2_with (first
                      | (at_builtin
                         refine wpList_appB rfl (.tmp 51) (.tmp 63) rfl w.heap.size A' r' c' _ rfl Hr'.out (OwnR.alloc HO.out _) ⟨wr.heap.size, 0, none⟩ 4 4 (Md5.le F.d.toNat 4) rfl (Md5.length_le _ _) E2.out (by omega) (by have := HB.out.size; simp; omega) ?_
                         intro A3 c3 w3 hown3 hg3 hat3))
                    have HB3 := Lib.hid (appB_below HB.out HO.out hg3 HB.out.size)
                    have e0 := outs_length F 3 (by omega)
                    have e1 := outs_length F 4 (by omega)
                    exact ⟨⟨A3, r' + 4, c3, 4, rfl, rfl, by have := Hr'.out; omega, by omega, by have := Hr'.out; show r' + 4 = (outs F 4).length; omega, (show outs F 3 ++ Md5.le F.d.toNat 4 = outs F 4 by simp [outs]) ▸ hown3, HB3⟩, by simp [intOf]⟩
                · have hst := run_str c' (OwnB.rd HO.out) Hr'.out
                  go_wp2
                  go_ret
                  exact ⟨by rw [show j = 4 by omega, outs_all, ← HFF.out, ← HF.out]; rfl, HB.out⟩
    · have ht : ((q : Int) % 64 != 56) = true := by rw [bne_iff_ne]; omega
      have hj2 : j < Md5.noughts l.length := noughts_more _ _ (by rw [← Hq.out]; exact h56) hj
      go_wp2_with (first
        | (at_builtin
           refine wpList_appB rfl (.tmp 19) (.tmp 20) rfl w.heap.size A' q c' (l ++ [128] ++ List.replicate j 0) rfl (by rw [Hq.out]; simp; omega) (OwnR.alloc HO.out _) ⟨wr.heap.size, 0, none⟩ 1 1 [0] rfl rfl (cells_new wr (bc [0]) 5) (by omega) (by have := HB.out.size; simp; omega) ?_
           intro A3 c3 w3 hown3 hg3 hat3))
      have HB3 := Lib.hid (appB_below HB.out HO.out hg3 HB.out.size)
      exact ⟨⟨A3, q + 1, c3, j + 1, rfl, by have := Hq.out; omega, (show q + 1 = l.length + 1 + (j + 1) by have := Hq.out; omega), hj2, by rw [List.replicate_succ', ← List.append_assoc]; exact hown3, HB3⟩, by have := Hq.out; simp; omega⟩
end Go.Proofs.Ytoompglghjpapaa
