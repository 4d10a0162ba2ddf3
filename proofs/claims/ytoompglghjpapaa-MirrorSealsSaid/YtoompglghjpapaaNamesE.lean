/-
  Walk of the reference's Md5.
-/
import Derived.Test.YtoompglghjpapaaNamesD
import Derived.Test.YtoompglghjpapaaBar
namespace Go.Proofs.Ytoompglghjpapaa.R4
open Go.RowKit Crc
set_option linter.unusedVariables false
set_option linter.unusedSimpArgs false
attribute [local go_sem ↓] Go.wp_at_zero Go.wp_at_succ

theorem byte_cells (w : World) (x : UInt8) (v : Int) (h : v = (x.toNat : Int)) : ∀ j u, (bc [x])[j]? = some u → (w.alloc (.cells #[.int .u8 v] 5)).cell? ((⟨w.heap.size, 0, none⟩ : Addr).add j) = some u := by
  subst h; exact cells_new w (bc [x]) 5
theorem le_at (n k : Nat) : (8 * (n : Int)) / 2 ^ (8 * k) % 256 = ((UInt8.ofNat ((8 * n) >>> (8 * k))).toNat : Int) := by
  have e : ((2 : Int) ^ (8 * k)) = ((2 ^ (8 * k) : Nat) : Int) := (Int.natCast_pow 2 (8 * k)).symm
  have e2 : (8 * (n : Int)) = ((8 * n : Nat) : Int) := by omega
  rw [e, e2, ← Int.natCast_ediv, UInt8.toNat_ofNat', Nat.shiftRight_eq_div_pow]
  generalize 8 * n / 2 ^ (8 * k) = z
  omega
/-- how many elements a slice has -/
def sliceN (v : Value) : Nat := match v with | .slice _ n _ => n | _ => 0
theorem sliceN_slice (A : Option Addr) (n c : Nat) : sliceN (.slice A n c) = n := rfl
theorem wrap_i64_of (n : Int) (h : -9223372036854775808 ≤ n ∧ n ≤ 9223372036854775807) : IntKind.i64.wrap n = n := IntWalk.i64_in n h
theorem new_cell (W : World) (v : Value) (t : TypeId) : (W.alloc (.cells #[v] t)).cell? ⟨W.heap.size, 0, none⟩ = some v := by
  rw [World.cell?_alloc_new]; rfl
theorem info_int : (Try.prog.info? 3).map (fun i => (i.zero, i.size, i.bytes)) = some (some (.int .i64 0), 1, 8) := by kernel_rfl
/-- numbers as cells -/
def icz (l : List Int) : List Value := l.map fun x => .int .i64 x
theorem icz_length (l : List Int) : (icz l).length = l.length := by simp [icz]
theorem icz_one (l : List Int) : ∀ u ∈ icz l, u.oneCell' = true := by
  intro u hu
  simp only [icz, List.mem_map] at hu
  obtain ⟨x, _, rfl⟩ := hu; rfl
def OwnZ (w : World) (base : Nat) (A : Option Addr) (c : Nat) (l : List Int) : Prop := OwnR w base 3 1 A l.length c (icz l)
theorem step_appZ {w : World} {ops : Array Oper} {o : Oper} {a : Act} {K : Act → World → Prop} {Q : Exit → Act → World → Prop} {E : Prop} (hgd : o.guard = none) (s x : Operand)
    (ho : o.op = .call { callee := .builtin .append, args := #[s, x], argTypes := #[45, 45] })
    (base : Nat) (A : Option Addr) (n c : Nat) (l : List Int) (hs : a.eval s = .slice A n c) (hn : n = l.length) (hown : OwnZ w base A c l)
    (ad : Addr) (c1 : Nat) (v : Int) (hx : a.eval x = .slice (some ad) 1 c1) (hc : w.cell? ad = some (.int .i64 v)) (hlen : l.length ≤ 100000) (hbase : base ≤ w.heap.size)
    (h : ∀ A' c' w', OwnZ w' base A' c' (l ++ [v]) → w.grownBy w' (blk A) → K (a.put o.dst (.slice A' (l.length + 1) c')) w') :
    if Region.wanted o (yielded ops a.tmps) = true then Oper.wp Try.prog o a w K Q else E := by
  have hw : Region.wanted o (yielded ops a.tmps) = true := by simp [Region.wanted, hgd]
  rw [if_pos hw]
  subst hn
  obtain ⟨f, hi0, hz0, hz1, hz2⟩ := info_parts info_int
  obtain ⟨v', w', hrun, h2, h3, _, h5⟩ := run_append_own_at (P := Try.prog) w base 45 o.type 3 f _ 1 8 Try.underlying45 hi0 hz0 hz1 hz2 rfl (by decide) _ l.length (icz l) hown ad 1 c1 (icz [v]) rfl
    (fun j u hu => by
      have hj : j = 0 := by have := (List.getElem?_eq_some_iff.1 hu).1; simpa [icz] using this
      subst hj
      have e : ad.add 0 = ad := by unfold Addr.add; simp
      rw [e, hc]; exact hu) (icz_one _) (by unfold maxLen; omega) (by omega) hbase
  obtain ⟨A', c', rfl, h6, h7⟩ := own_form h2
  rw [ownBlock_slice] at h3
  unfold Oper.wp execOp
  simp only [ho, resolve, invoke, builtin, Sem.run_bind, Sem.run_pure, Result.andThen_ok, List.map_toArray, List.map_cons, List.map_nil, hs, hx, hrun]
  refine h A' c' w' ?_ h3
  unfold OwnZ
  have e : icz (l ++ [v]) = icz l ++ icz [v] := by simp [icz]
  rw [e, List.length_append]; exact h6
theorem or_add (a b i : Nat) (h : a < 2 ^ i) : a ||| b * 2 ^ i = a + b * 2 ^ i := by
  have := Nat.shiftLeft_add_eq_or_of_lt (a := b) (b := a) (i := i) h
  rw [Nat.shiftLeft_eq] at this
  rw [Nat.or_comm, ← this]; omega
/-- a word's four bytes -/
def wsum (x0 x1 x2 x3 : UInt8) : Int := (x0.toNat : Int) + (x1.toNat : Int) * 256 + (x2.toNat : Int) * 65536 + (x3.toNat : Int) * 16777216
theorem byt_shl (x : UInt8) (i : Nat) (hi : i ≤ 24) : (Md5.byt x.toNat <<< i).toNat = x.toNat * 2 ^ i := by
  have hx := x.toNat_lt
  rw [BitVec.toNat_shiftLeft, byt_nat, Nat.shiftLeft_eq, Nat.mod_eq_of_lt]
  have : 2 ^ i ≤ 2 ^ 24 := Nat.pow_le_pow_right (by omega) hi
  have : x.toNat * 2 ^ i ≤ 255 * 2 ^ 24 := Nat.mul_le_mul (by omega) this
  omega
theorem word_sum (l : List UInt8) (j : Nat) : ((Md5.word l j).toNat : Int) = wsum (l.getD (4 * j) 0) (l.getD (4 * j + 1) 0) (l.getD (4 * j + 2) 0) (l.getD (4 * j + 3) 0) := by
  unfold Md5.word wsum
  generalize l.getD (4 * j) 0 = x0
  generalize l.getD (4 * j + 1) 0 = x1
  generalize l.getD (4 * j + 2) 0 = x2
  generalize l.getD (4 * j + 3) 0 = x3
  have h0 := x0.toNat_lt
  have h1 := x1.toNat_lt
  have h2 := x2.toNat_lt
  have h3 := x3.toNat_lt
  rw [BitVec.toNat_or, BitVec.toNat_or, BitVec.toNat_or, byt_shl x1 8 (by omega), byt_shl x2 16 (by omega), byt_shl x3 24 (by omega), byt_nat]
  rw [or_add x0.toNat x1.toNat 8 (by omega), or_add _ x2.toNat 16 (by omega), or_add _ x3.toNat 24 (by omega)]
  omega
/-- the first j words -/
def wz (l : List UInt8) (j : Nat) : List Int := (List.range j).map fun i => ((Md5.word l i).toNat : Int)
theorem wz_succ (l : List UInt8) (j : Nat) : wz l (j + 1) = wz l j ++ [((Md5.word l j).toNat : Int)] := by simp [wz, List.range_succ]
theorem wz_length (l : List UInt8) (j : Nat) : (wz l j).length = j := by simp [wz]
theorem block_at (P : List UInt8) (k i : Nat) (hi : i < 64) : ((P.drop (64 * k)).take 64).getD i 0 = P.getD (64 * k + i) 0 := by
  simp [List.getD, List.getElem?_take, hi, List.getElem?_drop]
theorem and_i (a b : BitVec 32) : bits .and .i64 (a.toNat : Int) (b.toNat : Int) = ((a &&& b).toNat : Int) := by
  have := a.isLt; have := b.isLt
  rw [i64_and_nat _ _ (by omega) (by omega), BitVec.toNat_and]
theorem or_i (a b : BitVec 32) : bits .or .i64 (a.toNat : Int) (b.toNat : Int) = ((a ||| b).toNat : Int) := by
  have := a.isLt; have := b.isLt
  rw [i64_or_nat _ _ (by omega) (by omega), BitVec.toNat_or]
theorem xor_i (a b : BitVec 32) : bits .xor .i64 (a.toNat : Int) (b.toNat : Int) = ((a ^^^ b).toNat : Int) := by
  have := a.isLt; have := b.isLt
  rw [i64_xor_nat _ _ (by omega) (by omega), BitVec.toNat_xor]
theorem not_i (b : BitVec 32) : bits .xor .i64 (-1) (b.toNat : Int) = -(b.toNat : Int) - 1 := by
  have hb := b.isLt
  show IntKind.i64.wrap ((BitVec.ofInt 64 (-1) ^^^ BitVec.ofInt 64 (b.toNat : Int)).toNat : Int) = _
  have h1 : BitVec.ofInt 64 (-1) = BitVec.allOnes 64 := by decide
  rw [h1, BitVec.allOnes_xor, BitVec.toNat_not, BitVec.toNat_ofInt, IntKind.wrap_i64]
  omega
theorem word_not (b : BitVec 32) (w : World) : Calls Try.prog 61 #[.int .i64 (bits .xor .i64 (-1) (b.toNat : Int))] w fun e w' => e = .returned (.int .i64 ((~~~b).toNat : Int)) ∧ w = w' := by
  have hb := b.isLt
  have h := not_i b
  refine (word_any _ (by rw [h]; omega) w).mono ?_
  rintro e w' ⟨rfl, rfl⟩
  refine ⟨ret_int ?_, rfl⟩
  rw [h, BitVec.toNat_not]
  omega
theorem rot_sum (b X : BitVec 32) (s : Nat) (h1 : 1 ≤ s) (h2 : s ≤ 31) : ((b.toNat : Int) + ((X.toNat : Int) * 2 ^ s) % 4294967296 + (X.toNat : Int) / 2 ^ (32 - s)) % 4294967296 = ((b + Md5.rot X s).toNat : Int) := by
  have hX := X.isLt
  have e1 : (X.toNat : Int) * 2 ^ s % 4294967296 = ((X.toNat * 2 ^ s % 4294967296 : Nat) : Int) := by rw [Int.natCast_emod, Int.natCast_mul, Int.natCast_pow]; rfl
  have e2 : (X.toNat : Int) / 2 ^ (32 - s) = ((X.toNat / 2 ^ (32 - s) : Nat) : Int) := by rw [Int.natCast_ediv, Int.natCast_pow]; rfl
  have hp : 2 ^ (32 - s) * 2 ^ s = 4294967296 := by
    rw [← Nat.pow_add]
    have : 32 - s + s = 32 := by omega
    rw [this]
  have hm : X.toNat * 2 ^ s % 4294967296 = (X.toNat % 2 ^ (32 - s)) * 2 ^ s := by
    rw [← hp, Nat.mul_mod_mul_right]
  have hd : X.toNat / 2 ^ (32 - s) < 2 ^ s := by
    rw [Nat.div_lt_iff_lt_mul (Nat.two_pow_pos _), Nat.mul_comm, hp]; omega
  have hr : (Md5.rot X s).toNat = X.toNat / 2 ^ (32 - s) + X.toNat * 2 ^ s % 4294967296 := by
    unfold Md5.rot
    rw [BitVec.toNat_or, BitVec.toNat_shiftLeft, BitVec.toNat_ushiftRight, Nat.shiftLeft_eq, Nat.shiftRight_eq_div_pow]
    have e32 : (2 : Nat) ^ 32 = 4294967296 := rfl
    rw [e32, hm, Nat.or_comm, or_add _ _ s hd]
  rw [e1, e2, BitVec.toNat_add, hr]
  have e32 : (2 : Nat) ^ 32 = 4294967296 := rfl
  rw [e32]
  generalize X.toNat * 2 ^ s % 4294967296 = u
  generalize X.toNat / 2 ^ (32 - s) = v
  omega
theorem four_sum (a f k v : BitVec 32) : ((a.toNat : Int) + (f.toNat : Int) + (k.toNat : Int) + (v.toNat : Int)) % 4294967296 = ((a + f + k + v).toNat : Int) := by
  rw [BitVec.toNat_add, BitVec.toNat_add, BitVec.toNat_add]; omega
theorem word_sum4 (a f k v : BitVec 32) (w : World) : Calls Try.prog 61 #[.int .i64 ((a.toNat : Int) + (f.toNat : Int) + (k.toNat : Int) + (v.toNat : Int))] w fun e w' => e = .returned (.int .i64 ((a + f + k + v).toNat : Int)) ∧ w = w' := by
  have := a.isLt; have := f.isLt; have := k.isLt; have := v.isLt
  refine (word_any _ (by omega) w).mono ?_
  rintro e w' ⟨rfl, rfl⟩
  exact ⟨ret_int (four_sum a f k v), rfl⟩
theorem wrap_add (a b : BitVec 32) : IntKind.i64.wrap ((a.toNat : Int) + (b.toNat : Int)) = (a.toNat : Int) + (b.toNat : Int) := by
  have := a.isLt; have := b.isLt
  exact wrap_i64_of _ (by omega)
theorem word_add (a b : BitVec 32) (w : World) : Calls Try.prog 61 #[.int .i64 ((a.toNat : Int) + (b.toNat : Int))] w fun e w' => e = .returned (.int .i64 ((a + b).toNat : Int)) ∧ w = w' := by
  have := a.isLt; have := b.isLt
  refine (word_any _ (by omega) w).mono ?_
  rintro e w' ⟨rfl, rfl⟩
  exact ⟨ret_int (by rw [BitVec.toNat_add]; omega), rfl⟩
theorem word_shl (X : BitVec 32) (s : Nat) (h : s ≤ 31) : ∃ Y : Int, (X.toNat : Int) * 2 ^ s % 4294967296 = Y ∧ 0 ≤ Y ∧ Y < 4294967296 ∧ ∀ w, Calls Try.prog 61 #[.int .i64 (IntKind.i64.wrap ((X.toNat : Int) * 2 ^ s))] w fun e w' => e = .returned (.int .i64 Y) ∧ w = w' := by
  have hX := X.isLt
  have hp : 2 ^ s ≤ 2 ^ 31 := Nat.pow_le_pow_right (by omega) h
  have e0 : (X.toNat : Int) * 2 ^ s = ((X.toNat * 2 ^ s : Nat) : Int) := by rw [Int.natCast_mul, Int.natCast_pow]; rfl
  have hb : X.toNat * 2 ^ s ≤ 4294967295 * 2 ^ 31 := Nat.mul_le_mul (by omega) hp
  have e31 : (2 : Nat) ^ 31 = 2147483648 := by decide
  rw [e31] at hb
  refine ⟨_, rfl, Int.emod_nonneg _ (by decide), Int.emod_lt_of_pos _ (by decide), fun w => ?_⟩
  have hw : IntKind.i64.wrap ((X.toNat : Int) * 2 ^ s) = (X.toNat : Int) * 2 ^ s := wrap_i64_of _ (by rw [e0]; omega)
  rw [hw]
  exact word_any _ (by rw [e0]; omega) w
theorem word_rot (b X : BitVec 32) (s : Nat) (h1 : 1 ≤ s) (h2 : s ≤ 31) (Y : Int) (hY : (X.toNat : Int) * 2 ^ s % 4294967296 = Y) (w : World) :
    Calls Try.prog 61 #[.int .i64 (IntKind.i64.wrap ((b.toNat : Int) + Y + (X.toNat : Int) / 2 ^ (32 - s)))] w fun e w' => e = .returned (.int .i64 ((b + Md5.rot X s).toNat : Int)) ∧ w = w' := by
  have hX := X.isLt
  have hb := b.isLt
  have hr := rot_sum b X s h1 h2
  rw [hY] at hr
  have hY0 : 0 ≤ Y := by rw [← hY]; exact Int.emod_nonneg _ (by decide)
  have hY1 : Y < 4294967296 := by rw [← hY]; exact Int.emod_lt_of_pos _ (by decide)
  have e2 : (X.toNat : Int) / 2 ^ (32 - s) = ((X.toNat / 2 ^ (32 - s) : Nat) : Int) := by rw [Int.natCast_ediv, Int.natCast_pow]; rfl
  have hd : X.toNat / 2 ^ (32 - s) ≤ X.toNat := Nat.div_le_self _ _
  rw [e2] at hr ⊢
  generalize X.toNat / 2 ^ (32 - s) = v at *
  rw [wrap_i64_of _ (by omega)]
  refine (word_any _ (by omega) w).mono ?_
  rintro e w' ⟨rfl, rfl⟩
  exact ⟨ret_int hr, rfl⟩
theorem icz_wz (l : List UInt8) (q : Nat) (h : q < 16) : (icz (wz l 16))[q]? = some (.int .i64 ((Md5.word l q).toNat : Int)) := by simp [icz, wz, h]
/-- the state's four numbers as cells -/
def sthI (s : Md5.St) : Array Value := #[.int .i64 (s.a.toNat : Int), .int .i64 (s.b.toNat : Int), .int .i64 (s.c.toNat : Int), .int .i64 (s.d.toNat : Int)]
/-- word i of the state -/
def sthW (s : Md5.St) (i : Nat) : BitVec 32 := [s.a, s.b, s.c, s.d].getD i 0
theorem sth_at (s : Md5.St) (i : Nat) (h : i < 4) : (sthI s)[i]? = some (.int .i64 ((sthW s i).toNat : Int)) := by
  rcases (show i = 0 ∨ i = 1 ∨ i = 2 ∨ i = 3 by omega) with rfl | rfl | rfl | rfl <;> rfl
theorem outs_succ (s : Md5.St) (i : Nat) (h : i < 4) : outs s (i + 1) = outs s i ++ Md5.le (sthW s i).toNat 4 := by
  rcases (show i = 0 ∨ i = 1 ∨ i = 2 ∨ i = 3 by omega) with rfl | rfl | rfl | rfl <;> simp [outs, sthW]
theorem le_atX (X : BitVec 32) (k : Nat) : (X.toNat : Int) / 2 ^ (8 * k) % 256 = ((UInt8.ofNat (X.toNat >>> (8 * k))).toNat : Int) := by
  have e : ((2 : Int) ^ (8 * k)) = ((2 ^ (8 * k) : Nat) : Int) := (Int.natCast_pow 2 (8 * k)).symm
  rw [e, ← Int.natCast_ediv, UInt8.toNat_ofNat', Nat.shiftRight_eq_div_pow]
  generalize X.toNat / 2 ^ (8 * k) = z
  omega
theorem pad_eq (l : List UInt8) : l ++ [128] ++ List.replicate (Md5.noughts l.length) 0 ++ Md5.le (8 * l.length) 8 = Md5.pad l := rfl
set_option maxRecDepth 100000 in
set_option maxHeartbeats 4000000 in
theorem refmd5_any (s : ByteArray) (w : World) (hm : s.size ≤ 70368744177000) :
    Calls Try.prog 17 #[.string s] w fun e w' => e = .returned (.string ⟨(Md5.md5 s.data.toList).toArray⟩) ∧ Below w.heap.size w w' := by
  obtain ⟨c0, w0, hcv, hm0, hb0⟩ := own_conv s w (by omega)
  have hsl := str_len s
  generalize hMD : (⟨(Md5.md5 s.data.toList).toArray⟩ : ByteArray) = MD
  have HMD := Lib.hid hMD
  clear hMD
  obtain ⟨S, hS⟩ : ∃ S, s.data.toList = S := ⟨_, rfl⟩
  rw [hS] at hm0 hsl HMD
  have HSL := Lib.hid hsl
  have HM0 := Lib.hid hm0
  have HB0 := Lib.hid hb0
  generalize hn : s.size = n at *
  clear hS hsl hm0 hb0
  go_enter Try.func17, Try.ntmps17
  go_wp2_with (at_builtin; refine wpList_appM rfl (.tmp 24) (.tmp 25) rfl w.heap.size (some ⟨w.heap.size, 0, none⟩) n c0 S rfl HSL.out.symm (HM0.out.alloc _) ⟨w0.heap.size, 0, none⟩ 1 1 [128] rfl rfl (byte_cells w0 128 128 rfl) (by decide) (by rw [HSL.out]; simp; omega) (by have := HB0.out.size; simp; omega) ?_; (intro A1 c1 w1 hown1 hb1))
  have HB1 := Lib.hid ((HB0.out.alloc HB0.out.size _).trans hb1)
  have HM1 := Lib.hid hown1
  clear hown1 hb1 HM0 hcv HB0
  rw [HSL.out]
  go_loopw [3] (fun m wr => ∃ (j : Nat) (A2 : Option Addr) (c2 : Nat), m = .slice A2 (n + 1 + j) c2 ∧ j ≤ Md5.noughts n ∧ Hid (OwnM wr w.heap.size A2 c2 (S ++ [128] ++ List.replicate j 0)) ∧ Hid (Below w.heap.size w wr)) (fun m _ => n + 1 + 64 - sliceN m)
  case atStart => exact ⟨0, A1, c1, rfl, Nat.zero_le _, by simpa using HM1, HB1⟩
  case round =>
    clear HM1 HB1
    obtain ⟨j, A2, c2, rfl, hj, HM, HB⟩ := hrel
    have hj64 := Md5.noughts_lt n
    have HBS := Lib.hid HB.out.size
    have HLJ : Hid ((S ++ [128] ++ List.replicate j (0 : UInt8)).length = n + 1 + j) := Lib.hid (by have := HSL.out; simp; omega)
    have HLE : Hid (S ++ [128] ++ List.replicate (j + 1) (0 : UInt8) = S ++ [128] ++ List.replicate j 0 ++ [0]) := Lib.hid (by simp [List.replicate_succ'])
    have HLS : Hid (S ++ [128] ++ List.replicate j (0 : UInt8) = S ++ [128] ++ List.replicate j (0 : UInt8)) := Lib.hid rfl
    generalize hL : S ++ [128] ++ List.replicate j (0 : UInt8) = L at *
    have HL := Lib.hid hL
    clear hL HLS
    by_cases hd : (n + 1 + j) % 64 = 56
    · have hjn := noughts_done n j hd hj
      have hdi : ((n : Int) + 1 + (j : Int)) % 64 = 56 := by omega
      have hdi' : (((n + 1 + j : Nat) : Int)) % 64 = 56 := by omega
      subst hjn
      have HPL := HLJ
      clear hd HLE hj
      generalize hMM : n + 1 + Md5.noughts n = M at *
      have hMb : M ≤ n + 64 := by omega
      have HPAD : Hid (L ++ Md5.le (8 * n) 8 = Md5.pad S) := Lib.hid (by rw [← HL.out, ← pad_eq, HSL.out])
      have HM64 : Hid (M % 64 = 56) := Lib.hid (by omega)
      go_wp2_with fail
      clear hdi hdi' hMM hj64 HLJ
      go_loopw [3, 5] (fun m k wr => ∃ (j : Nat) (A3 : Option Addr) (c3 : Nat), k = .int .i64 (j : Int) ∧ m = .slice A3 (M + j) c3 ∧ j ≤ 8 ∧ Hid (OwnM wr w.heap.size A3 c3 (L ++ Md5.le (8 * n) j)) ∧ Hid (Below w.heap.size w wr)) (fun _ k _ => 8 - (intOf k).toNat)
      case atStart => exact ⟨0, A2, c2, rfl, rfl, by omega, by simpa [Md5.le] using HM, HB⟩
      case round =>
        clear HM HB HBS
        obtain ⟨j, A3, c3, rfl, rfl, hj, HM, HB⟩ := hrel
        have HBS := Lib.hid HB.out.size
        have HLJ : Hid ((L ++ Md5.le (8 * n) j).length = M + j) := Lib.hid (by have := HPL.out; simp [Md5.length_le]; omega)
        have HLE : Hid (L ++ Md5.le (8 * n) (j + 1) = L ++ Md5.le (8 * n) j ++ [UInt8.ofNat ((8 * n) >>> (8 * j))]) := Lib.hid (by rw [le_succ]; simp)
        by_cases hlt : j < 8
        · have hv := le_at n j
          have HV := Lib.hid hv
          clear hv
          generalize hX : UInt8.ofNat ((8 * n) >>> (8 * j)) = X at *
          generalize hL2 : L ++ Md5.le (8 * n) j = L2 at *
          clear hX hL2
          go_wp2_with (at_builtin; (refine wpList_appM rfl (.tmp 41) (.tmp 47) rfl w.heap.size A3 (M + j) c3 _ rfl HLJ.out.symm (HM.out.alloc _) ⟨wr.heap.size, 0, none⟩ 1 1 [X] rfl rfl (byte_cells wr X _ HV.out) (by simp) (by rw [HLJ.out]; simp; omega) (by have := HBS.out; simp; omega) ?_; (intro A4 c4 w4 hown4 hb4)))
          have HB4 := Lib.hid ((HB.out.alloc HBS.out _).trans hb4)
          have HM4 := Lib.hid hown4
          clear hown4 hb4
          have h3 := HLJ.out
          refine ⟨⟨j + 1, A4, c4, int_eq (by omega), slice_val (by omega), by omega, by rw [HLE.out]; exact HM4, HB4⟩, by simp [intOf]; omega⟩
        · have hj8 : j = 8 := by omega
          subst hj8
          have HP := HPAD
          rw [HPAD.out] at HM
          clear hlt hj HLE HPAD
          go_wp2_with fail
          refine (refsines_any wr).mono ?_
          rintro e w5 ⟨rfl, hs5, hb5⟩
          have HK5 := Lib.hid hs5
          have HM5 := Lib.hid (HM.out.below hb5)
          have HB5 := Lib.hid (HB.out.trans (hb5.mono HB.out.size))
          clear hs5 hb5 HM
          obtain ⟨ks, hks⟩ : ∃ ks, wr.heap.size = ks := ⟨_, rfl⟩
          rw [hks] at HK5 ⊢
          clear hks
          obtain ⟨N, hN⟩ : ∃ N, M + 8 = 64 * N := ⟨(M + 8) / 64, by have := HM64.out; omega⟩
          have HNP : Hid ((Md5.pad S).length = 64 * N) := Lib.hid (by rw [← HP.out, HLJ.out, hN])
          have hmv : Value.slice A3 (M + 8) c3 = .slice A3 (64 * N) c3 := by rw [hN]
          rw [hmv]
          have hNb : 64 * N ≤ n + 72 := by omega
          clear hN hmv hMb HLJ HP HL HPL HM64 HBS
          generalize hPP : Md5.pad S = P at *
          have HPP := Lib.hid hPP
          clear hPP
          go_wp2_with fail
          have HH := Lib.hid (Blk.new w5 3 (sthI Md5.start))
          have hbh := (Below.refl w5.heap.size w5).alloc (Nat.le_refl _) (.cells (sthI Md5.start) 3)
          change Code.wp _ _ _ _ (w5.alloc (.cells (sthI Md5.start) 3))
          go_loopw [8] (fun i wr => ∃ (k : Nat), i = .int .i64 (64 * (k : Int)) ∧ k ≤ N ∧ Hid (Blk wr w5.heap.size 3 (sthI (Md5.blocks P k Md5.start))) ∧ Hid (Below w5.heap.size w5 wr)) (fun i _ => 64 * N - (intOf i).toNat)
          case atStart => exact ⟨0, rfl, Nat.zero_le _, HH, Lib.hid hbh⟩
          case round =>
            clear HH hbh
            obtain ⟨k, rfl, hk, HH, HB⟩ := hrel
            by_cases hlt : k < N
            · have hPl := HNP.out
              have HM6 := Lib.hid (HM5.out.below HB.out)
              obtain ⟨g3, rfl⟩ : ∃ g, A3 = some ⟨g, 0, none⟩ := by
                rcases HM5.out with ⟨_, h, _⟩ | ⟨g, h, _⟩
                · rw [h] at hPl; simp at hPl; omega
                · exact ⟨g, h⟩
              clear hPl
              go_wp2_with fail
              go_loopw [9, 10] (fun ws i w7 => ∃ (j : Nat) (A4 : Option Addr) (c4 : Nat), i = .int .i64 (64 * (k : Int) + 4 * (j : Int)) ∧ ws = .slice A4 j c4 ∧ j ≤ 16 ∧ Hid (OwnZ w7 wr.heap.size A4 c4 (wz ((P.drop (64 * k)).take 64) j)) ∧ Hid (Below wr.heap.size wr w7)) (fun _ i _ => 64 * k + 64 - (intOf i).toNat)
              case atStart => exact ⟨0, none, 0, by simp, rfl, by omega, Lib.hid (OwnR.nil _ _ _ _), Lib.hid (Below.refl _ _)⟩
              case round =>
                obtain ⟨j, A4, c4, rfl, rfl, hj, HZ, HB7⟩ := hrel
                by_cases hj16 : j < 16
                · obtain ⟨t, ht⟩ : ∃ t : Nat, 64 * (k : Int) + 4 * (j : Int) = (t : Int) := ⟨64 * k + 4 * j, by omega⟩
                  have htn : 64 * k + 4 * j = t := by omega
                  have htl : t + 3 < 64 * N := by omega
                  rw [ht]
                  have HRB := Lib.hid (OwnM.rd (HM6.out.below HB7.out))
                  obtain ⟨_, e, q0⟩ := HRB.out.at_ (k := t) (by have := HNP.out; omega)
                  cases e
                  obtain ⟨_, e, q1⟩ := HRB.out.at_ (k := t + 1) (by have := HNP.out; omega)
                  cases e
                  obtain ⟨_, e, q2⟩ := HRB.out.at_ (k := t + 2) (by have := HNP.out; omega)
                  cases e
                  obtain ⟨_, e, q3⟩ := HRB.out.at_ (k := t + 3) (by have := HNP.out; omega)
                  cases e
                  rw [add_mk, Nat.zero_add] at q0 q1 q2 q3
                  have HWS := Lib.hid (word_sum ((P.drop (64 * k)).take 64) j)
                  rw [block_at P k _ (by omega), block_at P k _ (by omega), block_at P k _ (by omega), block_at P k _ (by omega), htn] at HWS
                  have b0 := getD_lt P t
                  have b1 := getD_lt P (t + 1)
                  have b2 := getD_lt P (t + 2)
                  have b3 := getD_lt P (t + 3)
                  have e1 : 64 * k + (4 * j + 1) = t + 1 := by omega
                  have e2 : 64 * k + (4 * j + 2) = t + 2 := by omega
                  have e3 : 64 * k + (4 * j + 3) = t + 3 := by omega
                  rw [e1, e2, e3] at HWS
                  clear e1 e2 e3
                  generalize P.getD t 0 = x0 at *
                  generalize P.getD (t + 1) 0 = x1 at *
                  generalize P.getD (t + 2) 0 = x2 at *
                  generalize P.getD (t + 3) 0 = x3 at *
                  have HBS7 := Lib.hid HB7.out.size
                  have HZL : Hid ((wz ((P.drop (64 * k)).take 64) j).length = j) := Lib.hid (wz_length _ _)
                  have HZS := Lib.hid (wz_succ ((P.drop (64 * k)).take 64) j)
                  rw [HWS.out] at HZS
                  generalize hZ : wz ((P.drop (64 * k)).take 64) j = Z at *
                  have i0 : (t : Int) < 64 * (N : Int) := by omega
                  have i1 : (t : Int) + 1 < 64 * (N : Int) := by omega
                  have i2 : (t : Int) + 2 < 64 * (N : Int) := by omega
                  have i3 : (t : Int) + 3 < 64 * (N : Int) := by omega
                  have p1 : (0 : Int) ≤ (t : Int) + 1 := by omega
                  have p2 : (0 : Int) ≤ (t : Int) + 2 := by omega
                  have p3 : (0 : Int) ≤ (t : Int) + 3 := by omega
                  have hws : (x0.toNat : Int) + (x1.toNat : Int) * 256 + (x2.toNat : Int) * 65536 + (x3.toNat : Int) * 16777216 = wsum x0 x1 x2 x3 := rfl
                  have v0 : IntKind.i64.wrap (x0.toNat : Int) = (x0.toNat : Int) := wrap_i64_of _ (by omega)
                  have v1 : IntKind.i64.wrap (x1.toNat : Int) = (x1.toNat : Int) := wrap_i64_of _ (by omega)
                  have v2 : IntKind.i64.wrap (x2.toNat : Int) = (x2.toNat : Int) := wrap_i64_of _ (by omega)
                  have v3 : IntKind.i64.wrap (x3.toNat : Int) = (x3.toNat : Int) := wrap_i64_of _ (by omega)
                  have hg3lt : g3 < wr.heap.size := Nat.lt_of_lt_of_le (HM6.out.lt g3 rfl).2 HB7.out.size
                  have hg3ne : some g3 ≠ blk A4 := fun h => by
                    have h1 := (OwnR.lt HZ.out g3 h.symm).1
                    have h2 := (HM6.out.lt g3 rfl).2
                    omega
                  have y1 : IntKind.i64.wrap ((x1.toNat : Int) * 256) = (x1.toNat : Int) * 256 := wrap_i64_of _ (by omega)
                  have y2 : IntKind.i64.wrap ((x2.toNat : Int) * 65536) = (x2.toNat : Int) * 65536 := wrap_i64_of _ (by omega)
                  have y3 : IntKind.i64.wrap ((x3.toNat : Int) * 16777216) = (x3.toNat : Int) * 16777216 := wrap_i64_of _ (by omega)
                  have z1 : IntKind.i64.wrap ((x0.toNat : Int) + (x1.toNat : Int) * 256) = (x0.toNat : Int) + (x1.toNat : Int) * 256 := wrap_i64_of _ (by omega)
                  have z2 : IntKind.i64.wrap ((x0.toNat : Int) + (x1.toNat : Int) * 256 + (x2.toNat : Int) * 65536) = (x0.toNat : Int) + (x1.toNat : Int) * 256 + (x2.toNat : Int) * 65536 := wrap_i64_of _ (by omega)
                  have z3 : IntKind.i64.wrap (wsum x0 x1 x2 x3) = wsum x0 x1 x2 x3 := wrap_i64_of _ (by unfold wsum; omega)
                  have w1' : IntKind.i64.wrap ((t : Int) + 1) = (t : Int) + 1 := wrap_i64_of _ (by omega)
                  have w2' : IntKind.i64.wrap ((t : Int) + 2) = (t : Int) + 2 := wrap_i64_of _ (by omega)
                  have w3' : IntKind.i64.wrap ((t : Int) + 3) = (t : Int) + 3 := wrap_i64_of _ (by omega)
                  have t1' : ((t : Int) + 1).toNat = t + 1 := by omega
                  have t2' : ((t : Int) + 2).toNat = t + 2 := by omega
                  have t3' : ((t : Int) + 3).toNat = t + 3 := by omega
                  have hin : (t : Int) < 64 * (k : Int) + 64 := by omega
                  have HT := Lib.hid ht
                  clear b0 b1 b2 b3 ht htn htl hZ HWS
                  go_wp2_with fail
                  go_region_held3 (fun (W : World) => W.cell? ⟨g3, t, none⟩ = some (.int .u8 (x0.toNat : Int)) ∧ W.cell? ⟨g3, t + 1, none⟩ = some (.int .u8 (x1.toNat : Int)) ∧ W.cell? ⟨g3, t + 2, none⟩ = some (.int .u8 (x2.toNat : Int)) ∧ W.cell? ⟨g3, t + 3, none⟩ = some (.int .u8 (x3.toNat : Int)))
                    (first | exact ⟨q0, q1, q2, q3⟩ | exact ⟨Lib.cell?_alloc_marked _ q0, Lib.cell?_alloc_marked _ q1, Lib.cell?_alloc_marked _ q2, Lib.cell?_alloc_marked _ q3⟩ | exact ⟨(hg8.cell_far ⟨g3, t, none⟩ (by simp; omega) hg3ne).trans (Lib.cell?_alloc_marked _ q0), (hg8.cell_far ⟨g3, t + 1, none⟩ (by simp; omega) hg3ne).trans (Lib.cell?_alloc_marked _ q1), (hg8.cell_far ⟨g3, t + 2, none⟩ (by simp; omega) hg3ne).trans (Lib.cell?_alloc_marked _ q2), (hg8.cell_far ⟨g3, t + 3, none⟩ (by simp; omega) hg3ne).trans (Lib.cell?_alloc_marked _ q3)⟩)
                    ((refine step_appZ rfl (.tmp 64) (.tmp 94) rfl _ A4 j c4 Z rfl HZL.out.symm (OwnR.drew (OwnR.alloc HZ.out _)) ⟨wr.heap.size, 0, none⟩ 1 (wsum x0 x1 x2 x3) rfl (new_cell wr _ _) (by rw [HZL.out]; omega) (by have := HBS7.out; simp; omega) ?_; intro A5 c5 w8 hown8 hg8))
                  have HB9 := Lib.hid (((HB7.out.alloc HBS7.out _).drew).grown hg8 (by have := HBS7.out; simp; omega) (fun k hk => (OwnR.lt HZ.out k hk).1))
                  have HZ9 := Lib.hid hown8
                  have hzl := HZL.out
                  have htt := HT.out
                  clear hown8 hg8 q0 q1 q2 q3 i0 i1 i2 i3 p1 p2 p3 hws y1 y2 y3 z1 z2 z3 w1' w2' w3' t1' t2' t3' v0 v1 v2 v3 hin
                  go_simp
                  go_wp2_with fail
                  refine ⟨⟨j + 1, A5, c5, int_eq (by omega), slice_val (by omega), by omega, by rw [HZS.out]; exact HZ9, HB9⟩, by simp [intOf]; omega⟩
                · have hj6 : j = 16 := by omega
                  subst hj6
                  clear hj hj16
                  have e16 : 64 * (k : Int) + 4 * ((16 : Nat) : Int) = 64 * (k : Int) + 64 := by omega
                  rw [e16]
                  clear e16
                  have HH7 := Lib.hid (HH.out.below HB7.out HH.out.lt)
                  have HK7 := Lib.hid ((HK5.out.below HB.out HK5.out.lt).below HB7.out (Nat.lt_of_lt_of_le HK5.out.lt HB.out.size))
                  obtain ⟨g4, rfl⟩ := OwnR.some_ HZ.out (by rw [wz_length]; omega)
                  generalize hBK : (P.drop (64 * k)).take 64 = blk64 at *
                  generalize hST : Md5.blocks P k Md5.start = st at *
                  have k0 := HH7.out.cell 0
                  have k1 := HH7.out.cell 1
                  have k2 := HH7.out.cell 2
                  have k3 := HH7.out.cell 3
                  simp [sthI] at k0 k1 k2 k3
                  go_wp2_with fail
                  go_quiet (fail)
                  clear k0 k1 k2 k3
                  go_wp2_with fail
                  have hbq := below_drewN (Below.refl wr.heap.size wr) nq
                  go_loopw [11, 12, 13, 14, 15] (fun a b c d t w8 => ∃ (tt : Nat) (r : Md5.St), t = .int .i64 (tt : Int) ∧ tt ≤ 64 ∧ a = .int .i64 (r.a.toNat : Int) ∧ b = .int .i64 (r.b.toNat : Int) ∧ c = .int .i64 (r.c.toNat : Int) ∧ d = .int .i64 (r.d.toNat : Int) ∧ Hid (r = Md5.rounds (Md5.word blk64) tt st) ∧ Hid (Below wr.heap.size wr w8)) (fun _ _ _ _ t _ => 64 - (intOf t).toNat)
                  case atStart => exact ⟨0, st, rfl, by omega, rfl, rfl, rfl, rfl, Lib.hid rfl, Lib.hid hbq⟩
                  case round =>
                    clear hbq
                    obtain ⟨tt, r, rfl, htt, rfl, rfl, rfl, rfl, HR, HB8⟩ := hrel
                    by_cases ht64 : tt < 64
                    · have HRN := Lib.hid (show Md5.rounds (Md5.word blk64) (tt + 1) st = ⟨r.d, r.b + Md5.rot (r.a + Md5.ff tt r.b r.c r.d + Md5.sine tt + Md5.word blk64 (Md5.gg tt % 16)) (Md5.turn tt), r.b, r.c⟩ by rw [Md5.rounds, ← HR.out]; rfl)
                      have kc := (HK7.out.below HB8.out HK7.out.lt).cell tt
                      rw [stb_get tt ht64] at kc
                      have KC := Lib.hid kc
                      have htb := turn_bd tt ht64
                      have HTN := Lib.hid (turn_any tt ht64)
                      clear kc
                      obtain ⟨pp, hpp, hp4⟩ : ∃ p : Nat, (tt : Int) / 16 = (p : Int) ∧ p < 4 := ⟨tt / 16, by omega, by omega⟩
                      rcases (by omega : pp = 0 ∨ pp = 1 ∨ pp = 2 ∨ pp = 3) with e | e | e | e <;> subst e
                      · as_aux_lemma =>
                        have hff : Md5.ff tt r.b r.c r.d = (r.b &&& r.c) ||| (~~~r.b &&& r.d) := by unfold Md5.ff; rw [if_pos (by omega)]
                        have hgg : Md5.gg tt = tt := by unfold Md5.gg; rw [if_pos (by omega)]
                        have WN := Lib.hid (word_not r.b)
                        have h1 := and_i r.b r.c
                        have h2 := and_i (~~~r.b) r.d
                        have h3 := or_i (r.b &&& r.c) (~~~r.b &&& r.d)
                        rw [← hff] at h3
                        clear hff
                        generalize Md5.ff tt r.b r.c r.d = F at *
                        generalize r.b &&& r.c = U1 at *
                        generalize ~~~r.b &&& r.d = U2 at *
                        generalize ~~~r.b = NB at *
                        go_wp2_with fail
                        refine (WN.out _).mono ?_
                        rintro e w' ⟨rfl, rfl⟩
                        go_wp2_with fail
                        obtain ⟨qq, hqq, hq16⟩ : ∃ q : Nat, Md5.gg tt % 16 = q ∧ q < 16 := ⟨_, rfl, by omega⟩
                        have hgi : ((tt : Int)).tmod 16 = (qq : Int) := by rw [Int.tmod_eq_emod_of_nonneg (by omega)]; omega
                        rw [hqq] at HRN
                        have zc := (World.ownsRow.cellAt (OwnR.below' HZ.out HB8.out) qq (by rw [wz_length]; omega)).trans (icz_wz blk64 qq hq16)
                        have kc := KC.out
                        generalize Md5.sine tt = SN at *
                        generalize Md5.word blk64 qq = WD at *
                        generalize Md5.turn tt = TN at *
                        have HX := Lib.hid (fun W => word_sum4 r.a F SN WD W)
                        generalize r.a + F + SN + WD = X at *
                        have la := r.a.isLt
                        have lf := F.isLt
                        have ls := SN.isLt
                        have lw := WD.isLt
                        have z1 : IntKind.i64.wrap ((r.a.toNat : Int) + (F.toNat : Int)) = (r.a.toNat : Int) + (F.toNat : Int) := wrap_i64_of _ (by omega)
                        have z2 : IntKind.i64.wrap ((r.a.toNat : Int) + (F.toNat : Int) + (SN.toNat : Int)) = (r.a.toNat : Int) + (F.toNat : Int) + (SN.toNat : Int) := wrap_i64_of _ (by omega)
                        have z3 : IntKind.i64.wrap ((r.a.toNat : Int) + (F.toNat : Int) + (SN.toNat : Int) + (WD.toNat : Int)) = (r.a.toNat : Int) + (F.toNat : Int) + (SN.toNat : Int) + (WD.toNat : Int) := wrap_i64_of _ (by omega)
                        have j0 : (0 : Int) ≤ (tt : Int) := by omega
                        have j1 : (tt : Int) < 64 := by omega
                        have j2 : (0 : Int) ≤ (qq : Int) := by omega
                        have j3 : (qq : Int) < 16 := by omega
                        go_region_held3 (fun (W : World) => W.cell? ⟨ks, tt, none⟩ = some (.int .i64 (SN.toNat : Int)) ∧ W.cell? ⟨g4, qq, none⟩ = some (.int .i64 (WD.toNat : Int))) (exact ⟨kc, zc⟩) (first | (go_at_call 61; refine (HX.out _).mono ?_; rintro e w' ⟨rfl, rfl⟩))
                        clear z1 z2 z3 kc zc hgi HX la lf ls lw
                        go_wp2_with fail
                        refine (HTN.out _).mono ?_
                        rintro e w9 ⟨rfl, hb9⟩
                        have HB9 := Lib.hid (HB8.out.drew.trans (hb9.mono (by have := HB8.out.size; simpa using this)))
                        clear hb9
                        go_wp2_with fail
                        obtain ⟨Y, hY, hY0, hY1, hYC⟩ := word_shl X TN htb.2
                        have HZC := Lib.hid (word_rot r.b X TN htb.1 htb.2 Y hY)
                        have HYC := Lib.hid hYC
                        generalize r.b + Md5.rot X TN = NB2 at *
                        have lx := X.isLt
                        have lb := r.b.isLt
                        have g1 : IntKind.i64.wrap (32 - (TN : Int)) = 32 - (TN : Int) := wrap_i64_of _ (by omega)
                        have g2 : (32 - (TN : Int)).toNat = 32 - TN := by omega
                        have g3' : IntKind.i64.wrap ((r.b.toNat : Int) + Y) = (r.b.toNat : Int) + Y := wrap_i64_of _ (by omega)
                        clear hY hYC
                        go_region_held3 (fun _ => True) (trivial) (first | (go_at_call 61; (first | refine (HYC.out _).mono ?_ | refine (HZC.out _).mono ?_); rintro e w' ⟨rfl, rfl⟩))
                        clear g1 g2 g3' lx lb
                        go_wp2_with fail
                        refine ⟨⟨tt + 1, ⟨r.d, NB2, r.b, r.c⟩, int_eq (by omega), by omega, rfl, rfl, rfl, rfl, Lib.hid HRN.out.symm, Lib.hid HB9.out.drew⟩, by simp [intOf]; omega⟩
                      · as_aux_lemma =>
                        have hff : Md5.ff tt r.b r.c r.d = (r.d &&& r.b) ||| (~~~r.d &&& r.c) := by unfold Md5.ff; rw [if_neg (by omega), if_pos (by omega)]
                        have hgg : Md5.gg tt = 5 * tt + 1 := by unfold Md5.gg; rw [if_neg (by omega), if_pos (by omega)]
                        have WN := Lib.hid (word_not r.d)
                        have h1 := and_i r.d r.b
                        have h2 := and_i (~~~r.d) r.c
                        have h3 := or_i (r.d &&& r.b) (~~~r.d &&& r.c)
                        rw [← hff] at h3
                        clear hff
                        generalize Md5.ff tt r.b r.c r.d = F at *
                        generalize r.d &&& r.b = U1 at *
                        generalize ~~~r.d &&& r.c = U2 at *
                        generalize ~~~r.d = NB at *
                        go_wp2_with fail
                        refine (WN.out _).mono ?_
                        rintro e w' ⟨rfl, rfl⟩
                        go_wp2_with fail
                        obtain ⟨qq, hqq, hq16⟩ : ∃ q : Nat, Md5.gg tt % 16 = q ∧ q < 16 := ⟨_, rfl, by omega⟩
                        have hgi : (5 * (tt : Int) + 1).tmod 16 = (qq : Int) := by rw [Int.tmod_eq_emod_of_nonneg (by omega)]; omega
                        rw [hqq] at HRN
                        have zc := (World.ownsRow.cellAt (OwnR.below' HZ.out HB8.out) qq (by rw [wz_length]; omega)).trans (icz_wz blk64 qq hq16)
                        have kc := KC.out
                        generalize Md5.sine tt = SN at *
                        generalize Md5.word blk64 qq = WD at *
                        generalize Md5.turn tt = TN at *
                        have HX := Lib.hid (fun W => word_sum4 r.a F SN WD W)
                        generalize r.a + F + SN + WD = X at *
                        have la := r.a.isLt
                        have lf := F.isLt
                        have ls := SN.isLt
                        have lw := WD.isLt
                        have z1 : IntKind.i64.wrap ((r.a.toNat : Int) + (F.toNat : Int)) = (r.a.toNat : Int) + (F.toNat : Int) := wrap_i64_of _ (by omega)
                        have z2 : IntKind.i64.wrap ((r.a.toNat : Int) + (F.toNat : Int) + (SN.toNat : Int)) = (r.a.toNat : Int) + (F.toNat : Int) + (SN.toNat : Int) := wrap_i64_of _ (by omega)
                        have z3 : IntKind.i64.wrap ((r.a.toNat : Int) + (F.toNat : Int) + (SN.toNat : Int) + (WD.toNat : Int)) = (r.a.toNat : Int) + (F.toNat : Int) + (SN.toNat : Int) + (WD.toNat : Int) := wrap_i64_of _ (by omega)
                        have j0 : (0 : Int) ≤ (tt : Int) := by omega
                        have j1 : (tt : Int) < 64 := by omega
                        have j2 : (0 : Int) ≤ (qq : Int) := by omega
                        have j3 : (qq : Int) < 16 := by omega
                        go_region_held3 (fun (W : World) => W.cell? ⟨ks, tt, none⟩ = some (.int .i64 (SN.toNat : Int)) ∧ W.cell? ⟨g4, qq, none⟩ = some (.int .i64 (WD.toNat : Int))) (exact ⟨kc, zc⟩) (first | (go_at_call 61; refine (HX.out _).mono ?_; rintro e w' ⟨rfl, rfl⟩))
                        clear z1 z2 z3 kc zc hgi HX la lf ls lw
                        go_wp2_with fail
                        refine (HTN.out _).mono ?_
                        rintro e w9 ⟨rfl, hb9⟩
                        have HB9 := Lib.hid (HB8.out.drew.trans (hb9.mono (by have := HB8.out.size; simpa using this)))
                        clear hb9
                        go_wp2_with fail
                        obtain ⟨Y, hY, hY0, hY1, hYC⟩ := word_shl X TN htb.2
                        have HZC := Lib.hid (word_rot r.b X TN htb.1 htb.2 Y hY)
                        have HYC := Lib.hid hYC
                        generalize r.b + Md5.rot X TN = NB2 at *
                        have lx := X.isLt
                        have lb := r.b.isLt
                        have g1 : IntKind.i64.wrap (32 - (TN : Int)) = 32 - (TN : Int) := wrap_i64_of _ (by omega)
                        have g2 : (32 - (TN : Int)).toNat = 32 - TN := by omega
                        have g3' : IntKind.i64.wrap ((r.b.toNat : Int) + Y) = (r.b.toNat : Int) + Y := wrap_i64_of _ (by omega)
                        clear hY hYC
                        go_region_held3 (fun _ => True) (trivial) (first | (go_at_call 61; (first | refine (HYC.out _).mono ?_ | refine (HZC.out _).mono ?_); rintro e w' ⟨rfl, rfl⟩))
                        clear g1 g2 g3' lx lb
                        go_wp2_with fail
                        refine ⟨⟨tt + 1, ⟨r.d, NB2, r.b, r.c⟩, int_eq (by omega), by omega, rfl, rfl, rfl, rfl, Lib.hid HRN.out.symm, Lib.hid HB9.out.drew⟩, by simp [intOf]; omega⟩
                      · as_aux_lemma =>
                        have hff : Md5.ff tt r.b r.c r.d = (r.b ^^^ r.c) ^^^ r.d := by unfold Md5.ff; rw [if_neg (by omega), if_neg (by omega), if_pos (by omega)]
                        have hgg : Md5.gg tt = 3 * tt + 5 := by unfold Md5.gg; rw [if_neg (by omega), if_neg (by omega), if_pos (by omega)]
                        have h1 := xor_i r.b r.c
                        have h3 := xor_i (r.b ^^^ r.c) r.d
                        rw [← hff] at h3
                        clear hff
                        generalize Md5.ff tt r.b r.c r.d = F at *
                        generalize r.b ^^^ r.c = U1 at *
                        go_wp2_with fail
                        obtain ⟨qq, hqq, hq16⟩ : ∃ q : Nat, Md5.gg tt % 16 = q ∧ q < 16 := ⟨_, rfl, by omega⟩
                        have hgi : (3 * (tt : Int) + 5).tmod 16 = (qq : Int) := by rw [Int.tmod_eq_emod_of_nonneg (by omega)]; omega
                        rw [hqq] at HRN
                        have zc := (World.ownsRow.cellAt (OwnR.below' HZ.out HB8.out) qq (by rw [wz_length]; omega)).trans (icz_wz blk64 qq hq16)
                        have kc := KC.out
                        generalize Md5.sine tt = SN at *
                        generalize Md5.word blk64 qq = WD at *
                        generalize Md5.turn tt = TN at *
                        have HX := Lib.hid (fun W => word_sum4 r.a F SN WD W)
                        generalize r.a + F + SN + WD = X at *
                        have la := r.a.isLt
                        have lf := F.isLt
                        have ls := SN.isLt
                        have lw := WD.isLt
                        have z1 : IntKind.i64.wrap ((r.a.toNat : Int) + (F.toNat : Int)) = (r.a.toNat : Int) + (F.toNat : Int) := wrap_i64_of _ (by omega)
                        have z2 : IntKind.i64.wrap ((r.a.toNat : Int) + (F.toNat : Int) + (SN.toNat : Int)) = (r.a.toNat : Int) + (F.toNat : Int) + (SN.toNat : Int) := wrap_i64_of _ (by omega)
                        have z3 : IntKind.i64.wrap ((r.a.toNat : Int) + (F.toNat : Int) + (SN.toNat : Int) + (WD.toNat : Int)) = (r.a.toNat : Int) + (F.toNat : Int) + (SN.toNat : Int) + (WD.toNat : Int) := wrap_i64_of _ (by omega)
                        have j0 : (0 : Int) ≤ (tt : Int) := by omega
                        have j1 : (tt : Int) < 64 := by omega
                        have j2 : (0 : Int) ≤ (qq : Int) := by omega
                        have j3 : (qq : Int) < 16 := by omega
                        go_region_held3 (fun (W : World) => W.cell? ⟨ks, tt, none⟩ = some (.int .i64 (SN.toNat : Int)) ∧ W.cell? ⟨g4, qq, none⟩ = some (.int .i64 (WD.toNat : Int))) (exact ⟨kc, zc⟩) (first | (go_at_call 61; refine (HX.out _).mono ?_; rintro e w' ⟨rfl, rfl⟩))
                        clear z1 z2 z3 kc zc hgi HX la lf ls lw
                        go_wp2_with fail
                        refine (HTN.out _).mono ?_
                        rintro e w9 ⟨rfl, hb9⟩
                        have HB9 := Lib.hid (HB8.out.drew.trans (hb9.mono (by have := HB8.out.size; simpa using this)))
                        clear hb9
                        go_wp2_with fail
                        obtain ⟨Y, hY, hY0, hY1, hYC⟩ := word_shl X TN htb.2
                        have HZC := Lib.hid (word_rot r.b X TN htb.1 htb.2 Y hY)
                        have HYC := Lib.hid hYC
                        generalize r.b + Md5.rot X TN = NB2 at *
                        have lx := X.isLt
                        have lb := r.b.isLt
                        have g1 : IntKind.i64.wrap (32 - (TN : Int)) = 32 - (TN : Int) := wrap_i64_of _ (by omega)
                        have g2 : (32 - (TN : Int)).toNat = 32 - TN := by omega
                        have g3' : IntKind.i64.wrap ((r.b.toNat : Int) + Y) = (r.b.toNat : Int) + Y := wrap_i64_of _ (by omega)
                        clear hY hYC
                        go_region_held3 (fun _ => True) (trivial) (first | (go_at_call 61; (first | refine (HYC.out _).mono ?_ | refine (HZC.out _).mono ?_); rintro e w' ⟨rfl, rfl⟩))
                        clear g1 g2 g3' lx lb
                        go_wp2_with fail
                        refine ⟨⟨tt + 1, ⟨r.d, NB2, r.b, r.c⟩, int_eq (by omega), by omega, rfl, rfl, rfl, rfl, Lib.hid HRN.out.symm, Lib.hid HB9.out.drew⟩, by simp [intOf]; omega⟩
                      · as_aux_lemma =>
                        have hff : Md5.ff tt r.b r.c r.d = r.c ^^^ (r.b ||| ~~~r.d) := by unfold Md5.ff; rw [if_neg (by omega), if_neg (by omega), if_neg (by omega)]
                        have hgg : Md5.gg tt = 7 * tt := by unfold Md5.gg; rw [if_neg (by omega), if_neg (by omega), if_neg (by omega)]
                        have WN := Lib.hid (word_not r.d)
                        have h1 := or_i r.b (~~~r.d)
                        have h3 := xor_i r.c (r.b ||| ~~~r.d)
                        rw [← hff] at h3
                        clear hff
                        generalize Md5.ff tt r.b r.c r.d = F at *
                        generalize r.b ||| ~~~r.d = U1 at *
                        generalize ~~~r.d = NB at *
                        go_wp2_with fail
                        refine (WN.out _).mono ?_
                        rintro e w' ⟨rfl, rfl⟩
                        go_wp2_with fail
                        obtain ⟨qq, hqq, hq16⟩ : ∃ q : Nat, Md5.gg tt % 16 = q ∧ q < 16 := ⟨_, rfl, by omega⟩
                        have hgi : (7 * (tt : Int)).tmod 16 = (qq : Int) := by rw [Int.tmod_eq_emod_of_nonneg (by omega)]; omega
                        rw [hqq] at HRN
                        have zc := (World.ownsRow.cellAt (OwnR.below' HZ.out HB8.out) qq (by rw [wz_length]; omega)).trans (icz_wz blk64 qq hq16)
                        have kc := KC.out
                        generalize Md5.sine tt = SN at *
                        generalize Md5.word blk64 qq = WD at *
                        generalize Md5.turn tt = TN at *
                        have HX := Lib.hid (fun W => word_sum4 r.a F SN WD W)
                        generalize r.a + F + SN + WD = X at *
                        have la := r.a.isLt
                        have lf := F.isLt
                        have ls := SN.isLt
                        have lw := WD.isLt
                        have z1 : IntKind.i64.wrap ((r.a.toNat : Int) + (F.toNat : Int)) = (r.a.toNat : Int) + (F.toNat : Int) := wrap_i64_of _ (by omega)
                        have z2 : IntKind.i64.wrap ((r.a.toNat : Int) + (F.toNat : Int) + (SN.toNat : Int)) = (r.a.toNat : Int) + (F.toNat : Int) + (SN.toNat : Int) := wrap_i64_of _ (by omega)
                        have z3 : IntKind.i64.wrap ((r.a.toNat : Int) + (F.toNat : Int) + (SN.toNat : Int) + (WD.toNat : Int)) = (r.a.toNat : Int) + (F.toNat : Int) + (SN.toNat : Int) + (WD.toNat : Int) := wrap_i64_of _ (by omega)
                        have j0 : (0 : Int) ≤ (tt : Int) := by omega
                        have j1 : (tt : Int) < 64 := by omega
                        have j2 : (0 : Int) ≤ (qq : Int) := by omega
                        have j3 : (qq : Int) < 16 := by omega
                        go_region_held3 (fun (W : World) => W.cell? ⟨ks, tt, none⟩ = some (.int .i64 (SN.toNat : Int)) ∧ W.cell? ⟨g4, qq, none⟩ = some (.int .i64 (WD.toNat : Int))) (exact ⟨kc, zc⟩) (first | (go_at_call 61; refine (HX.out _).mono ?_; rintro e w' ⟨rfl, rfl⟩))
                        clear z1 z2 z3 kc zc hgi HX la lf ls lw
                        go_wp2_with fail
                        refine (HTN.out _).mono ?_
                        rintro e w9 ⟨rfl, hb9⟩
                        have HB9 := Lib.hid (HB8.out.drew.trans (hb9.mono (by have := HB8.out.size; simpa using this)))
                        clear hb9
                        go_wp2_with fail
                        obtain ⟨Y, hY, hY0, hY1, hYC⟩ := word_shl X TN htb.2
                        have HZC := Lib.hid (word_rot r.b X TN htb.1 htb.2 Y hY)
                        have HYC := Lib.hid hYC
                        generalize r.b + Md5.rot X TN = NB2 at *
                        have lx := X.isLt
                        have lb := r.b.isLt
                        have g1 : IntKind.i64.wrap (32 - (TN : Int)) = 32 - (TN : Int) := wrap_i64_of _ (by omega)
                        have g2 : (32 - (TN : Int)).toNat = 32 - TN := by omega
                        have g3' : IntKind.i64.wrap ((r.b.toNat : Int) + Y) = (r.b.toNat : Int) + Y := wrap_i64_of _ (by omega)
                        clear hY hYC
                        go_region_held3 (fun _ => True) (trivial) (first | (go_at_call 61; (first | refine (HYC.out _).mono ?_ | refine (HZC.out _).mono ?_); rintro e w' ⟨rfl, rfl⟩))
                        clear g1 g2 g3' lx lb
                        go_wp2_with fail
                        refine ⟨⟨tt + 1, ⟨r.d, NB2, r.b, r.c⟩, int_eq (by omega), by omega, rfl, rfl, rfl, rfl, Lib.hid HRN.out.symm, Lib.hid HB9.out.drew⟩, by simp [intOf]; omega⟩
                    · have e64 : tt = 64 := by omega
                      subst e64
                      clear ht64 htt
                      have HBN := Lib.hid (show Md5.blocks P (k + 1) Md5.start = Md5.add st r by rw [Md5.blocks, hBK, hST, Md5.mix, HR.out])
                      have HH8 := Lib.hid (HH7.out.below HB8.out HH7.out.lt)
                      have k0 := HH8.out.cell 0
                      have k1 := HH8.out.cell 1
                      have k2 := HH8.out.cell 2
                      have k3 := HH8.out.cell 3
                      simp [sthI] at k0 k1 k2 k3
                      obtain ⟨sa, sb, sc, sd⟩ := st
                      obtain ⟨ra, rb, rc, rd⟩ := r
                      dsimp only [Md5.add] at *
                      have WA := Lib.hid (fun W => word_add sa ra W)
                      have WB := Lib.hid (fun W => word_add sb rb W)
                      have WC := Lib.hid (fun W => word_add sc rc W)
                      have WD := Lib.hid (fun W => word_add sd rd W)
                      have z0 := wrap_add sa ra
                      have z1 := wrap_add sb rb
                      have z2 := wrap_add sc rc
                      have z3 := wrap_add sd rd
                      generalize sa + ra = NA at *
                      generalize sb + rb = NB at *
                      generalize sc + rc = NC at *
                      generalize sd + rd = ND at *
                      go_wp2_with fail
                      refine wp_region_barred (fun (W : World) => W.cell? ⟨w5.heap.size, 0, none⟩ = some (.int .i64 (sa.toNat : Int)) ∧ W.cell? ⟨w5.heap.size, 1, none⟩ = some (.int .i64 (sb.toNat : Int)) ∧ W.cell? ⟨w5.heap.size, 2, none⟩ = some (.int .i64 (sc.toNat : Int)) ∧ W.cell? ⟨w5.heap.size, 3, none⟩ = some (.int .i64 (sd.toNat : Int))) 29 (by kernel_rfl) ?_
                      have hS : wr.drew.cell? ⟨w5.heap.size, 0, none⟩ = some (.int .i64 (sa.toNat : Int)) ∧ wr.drew.cell? ⟨w5.heap.size, 1, none⟩ = some (.int .i64 (sb.toNat : Int)) ∧ wr.drew.cell? ⟨w5.heap.size, 2, none⟩ = some (.int .i64 (sc.toNat : Int)) ∧ wr.drew.cell? ⟨w5.heap.size, 3, none⟩ = some (.int .i64 (sd.toNat : Int)) := ⟨k0, k1, k2, k3⟩
                      change wpAnyB _ _ _ _ _ _ 36 #[false, false, false, false, false, false, false, false, false, false, false, false, false, false, false, false, false, false, false, false, false, false, false, false, false, false, false, false, false, false, false, false, false, false, false, false] _ _
                      refine wpAnyB_take (i := 0) (v := ?v0) rfl (by kernel_rfl) (by kernel_rfl) (by kernel_rfl) (fun _ _ _ h => h) (by decide) (Or.inl ⟨by rfl, ?hy0⟩) hS ?rest0
                      case hy0 => (intro W hSw; go_simp; (try with_reducible rfl))
                      (try simp only [Act.put, List.setIfInBounds_toArray, List.set_cons_zero, List.set_cons_succ, List.getElem_toArray, List.getElem_cons_zero, List.getElem_cons_succ])
                      refine wpAnyB_take (i := 1) (v := ?v1) rfl (by kernel_rfl) (by kernel_rfl) (by kernel_rfl) (fun _ _ _ h => h) (by decide) (Or.inl ⟨by rfl, ?hy1⟩) hS ?rest1
                      case hy1 => (intro W hSw; go_simp; (try with_reducible rfl))
                      (try simp only [Act.put, List.setIfInBounds_toArray, List.set_cons_zero, List.set_cons_succ, List.getElem_toArray, List.getElem_cons_zero, List.getElem_cons_succ])
                      refine wpAnyB_take (i := 2) (v := ?v2) rfl (by kernel_rfl) (by kernel_rfl) (by kernel_rfl) (fun _ _ _ h => h) (by decide) (Or.inl ⟨by rfl, ?hy2⟩) hS ?rest2
                      case hy2 => (intro W hSw; go_simp; (try with_reducible rfl))
                      (try simp only [Act.put, List.setIfInBounds_toArray, List.set_cons_zero, List.set_cons_succ, List.getElem_toArray, List.getElem_cons_zero, List.getElem_cons_succ])
                      refine wpAnyB_take (i := 3) (v := ?v3) rfl (by kernel_rfl) (by kernel_rfl) (by kernel_rfl) (fun _ _ _ h => h) (by decide) (Or.inl ⟨by rfl, ?hy3⟩) hS ?rest3
                      case hy3 => (intro W hSw; go_simp; (try with_reducible rfl))
                      (try simp only [Act.put, List.setIfInBounds_toArray, List.set_cons_zero, List.set_cons_succ, List.getElem_toArray, List.getElem_cons_zero, List.getElem_cons_succ])
                      refine wpAnyB_take (i := 4) (v := ?v4) rfl (by kernel_rfl) (by kernel_rfl) (by kernel_rfl) (fun _ _ _ h => h) (by decide) (Or.inl ⟨by rfl, ?hy4⟩) hS ?rest4
                      case hy4 => (intro W hSw; go_simp; (try with_reducible rfl))
                      (try simp only [Act.put, List.setIfInBounds_toArray, List.set_cons_zero, List.set_cons_succ, List.getElem_toArray, List.getElem_cons_zero, List.getElem_cons_succ])
                      refine wpAnyB_take (i := 5) (v := ?v5) rfl (by kernel_rfl) (by kernel_rfl) (by kernel_rfl) (fun _ _ _ h => h) (by decide) (Or.inl ⟨by rfl, ?hy5⟩) hS ?rest5
                      case hy5 => (intro W hSw; go_simp; (try with_reducible rfl))
                      (try simp only [Act.put, List.setIfInBounds_toArray, List.set_cons_zero, List.set_cons_succ, List.getElem_toArray, List.getElem_cons_zero, List.getElem_cons_succ])
                      refine wpAnyB_load (i := 6) (v := ?v6) rfl (by kernel_rfl) (by kernel_rfl) (by kernel_rfl) (fun _ _ _ h => h) (by decide) (by kernel_rfl) (by kernel_rfl) (Or.inl ⟨by rfl, ?hy6⟩) hS ?rest6
                      case hy6 => (intro W hSw; (try dsimp only at hSw); go_split_ands; go_simp; (try with_reducible rfl))
                      (try simp only [Act.put, List.setIfInBounds_toArray, List.set_cons_zero, List.set_cons_succ, List.getElem_toArray, List.getElem_cons_zero, List.getElem_cons_succ])
                      refine wpAnyB_take (i := 7) (v := ?v7) rfl (by kernel_rfl) (by kernel_rfl) (by kernel_rfl) (fun _ _ _ h => h) (by decide) (Or.inl ⟨by rfl, ?hy7⟩) hS ?rest7
                      case hy7 => (intro W hSw; go_simp; (try with_reducible rfl))
                      (try simp only [Act.put, List.setIfInBounds_toArray, List.set_cons_zero, List.set_cons_succ, List.getElem_toArray, List.getElem_cons_zero, List.getElem_cons_succ])
                      refine wpAnyB_take (i := 8) (v := ?v8) rfl (by kernel_rfl) (by kernel_rfl) (by kernel_rfl) (fun _ _ _ h => h) (by decide) (Or.inl ⟨by rfl, ?hy8⟩) hS ?rest8
                      case hy8 => (intro W hSw; go_simp; (try with_reducible rfl))
                      (try simp only [Act.put, List.setIfInBounds_toArray, List.set_cons_zero, List.set_cons_succ, List.getElem_toArray, List.getElem_cons_zero, List.getElem_cons_succ])
                      refine wpAnyB_take (i := 10) (v := ?v10) rfl (by kernel_rfl) (by kernel_rfl) (by kernel_rfl) (fun _ _ _ h => h) (by decide) (Or.inl ⟨by rfl, ?hy10⟩) hS ?rest10
                      case hy10 => (intro W hSw; go_simp; (try with_reducible rfl))
                      (try simp only [Act.put, List.setIfInBounds_toArray, List.set_cons_zero, List.set_cons_succ, List.getElem_toArray, List.getElem_cons_zero, List.getElem_cons_succ])
                      refine wpAnyB_take (i := 11) (v := ?v11) rfl (by kernel_rfl) (by kernel_rfl) (by kernel_rfl) (fun _ _ _ h => h) (by decide) (Or.inl ⟨by rfl, ?hy11⟩) hS ?rest11
                      case hy11 => (intro W hSw; go_simp; (try with_reducible rfl))
                      (try simp only [Act.put, List.setIfInBounds_toArray, List.set_cons_zero, List.set_cons_succ, List.getElem_toArray, List.getElem_cons_zero, List.getElem_cons_succ])
                      refine wpAnyB_load (i := 12) (v := ?v12) rfl (by kernel_rfl) (by kernel_rfl) (by kernel_rfl) (fun _ _ _ h => h) (by decide) (by kernel_rfl) (by kernel_rfl) (Or.inl ⟨by rfl, ?hy12⟩) hS ?rest12
                      case hy12 => (intro W hSw; (try dsimp only at hSw); go_split_ands; go_simp; (try with_reducible rfl))
                      (try simp only [Act.put, List.setIfInBounds_toArray, List.set_cons_zero, List.set_cons_succ, List.getElem_toArray, List.getElem_cons_zero, List.getElem_cons_succ])
                      refine wpAnyB_take (i := 13) (v := ?v13) rfl (by kernel_rfl) (by kernel_rfl) (by kernel_rfl) (fun _ _ _ h => h) (by decide) (Or.inl ⟨by rfl, ?hy13⟩) hS ?rest13
                      case hy13 => (intro W hSw; go_simp; (try with_reducible rfl))
                      (try simp only [Act.put, List.setIfInBounds_toArray, List.set_cons_zero, List.set_cons_succ, List.getElem_toArray, List.getElem_cons_zero, List.getElem_cons_succ])
                      refine wpAnyB_take (i := 14) (v := ?v14) rfl (by kernel_rfl) (by kernel_rfl) (by kernel_rfl) (fun _ _ _ h => h) (by decide) (Or.inl ⟨by rfl, ?hy14⟩) hS ?rest14
                      case hy14 => (intro W hSw; go_simp; (try with_reducible rfl))
                      (try simp only [Act.put, List.setIfInBounds_toArray, List.set_cons_zero, List.set_cons_succ, List.getElem_toArray, List.getElem_cons_zero, List.getElem_cons_succ])
                      refine wpAnyB_take (i := 16) (v := ?v16) rfl (by kernel_rfl) (by kernel_rfl) (by kernel_rfl) (fun _ _ _ h => h) (by decide) (Or.inl ⟨by rfl, ?hy16⟩) hS ?rest16
                      case hy16 => (intro W hSw; go_simp; (try with_reducible rfl))
                      (try simp only [Act.put, List.setIfInBounds_toArray, List.set_cons_zero, List.set_cons_succ, List.getElem_toArray, List.getElem_cons_zero, List.getElem_cons_succ])
                      refine wpAnyB_take (i := 17) (v := ?v17) rfl (by kernel_rfl) (by kernel_rfl) (by kernel_rfl) (fun _ _ _ h => h) (by decide) (Or.inl ⟨by rfl, ?hy17⟩) hS ?rest17
                      case hy17 => (intro W hSw; go_simp; (try with_reducible rfl))
                      (try simp only [Act.put, List.setIfInBounds_toArray, List.set_cons_zero, List.set_cons_succ, List.getElem_toArray, List.getElem_cons_zero, List.getElem_cons_succ])
                      refine wpAnyB_load (i := 18) (v := ?v18) rfl (by kernel_rfl) (by kernel_rfl) (by kernel_rfl) (fun _ _ _ h => h) (by decide) (by kernel_rfl) (by kernel_rfl) (Or.inl ⟨by rfl, ?hy18⟩) hS ?rest18
                      case hy18 => (intro W hSw; (try dsimp only at hSw); go_split_ands; go_simp; (try with_reducible rfl))
                      (try simp only [Act.put, List.setIfInBounds_toArray, List.set_cons_zero, List.set_cons_succ, List.getElem_toArray, List.getElem_cons_zero, List.getElem_cons_succ])
                      refine wpAnyB_take (i := 19) (v := ?v19) rfl (by kernel_rfl) (by kernel_rfl) (by kernel_rfl) (fun _ _ _ h => h) (by decide) (Or.inl ⟨by rfl, ?hy19⟩) hS ?rest19
                      case hy19 => (intro W hSw; go_simp; (try with_reducible rfl))
                      (try simp only [Act.put, List.setIfInBounds_toArray, List.set_cons_zero, List.set_cons_succ, List.getElem_toArray, List.getElem_cons_zero, List.getElem_cons_succ])
                      refine wpAnyB_take (i := 20) (v := ?v20) rfl (by kernel_rfl) (by kernel_rfl) (by kernel_rfl) (fun _ _ _ h => h) (by decide) (Or.inl ⟨by rfl, ?hy20⟩) hS ?rest20
                      case hy20 => (intro W hSw; go_simp; (try with_reducible rfl))
                      (try simp only [Act.put, List.setIfInBounds_toArray, List.set_cons_zero, List.set_cons_succ, List.getElem_toArray, List.getElem_cons_zero, List.getElem_cons_succ])
                      refine wpAnyB_take (i := 22) (v := ?v22) rfl (by kernel_rfl) (by kernel_rfl) (by kernel_rfl) (fun _ _ _ h => h) (by decide) (Or.inl ⟨by rfl, ?hy22⟩) hS ?rest22
                      case hy22 => (intro W hSw; go_simp; (try with_reducible rfl))
                      (try simp only [Act.put, List.setIfInBounds_toArray, List.set_cons_zero, List.set_cons_succ, List.getElem_toArray, List.getElem_cons_zero, List.getElem_cons_succ])
                      refine wpAnyB_take (i := 23) (v := ?v23) rfl (by kernel_rfl) (by kernel_rfl) (by kernel_rfl) (fun _ _ _ h => h) (by decide) (Or.inl ⟨by rfl, ?hy23⟩) hS ?rest23
                      case hy23 => (intro W hSw; go_simp; (try with_reducible rfl))
                      (try simp only [Act.put, List.setIfInBounds_toArray, List.set_cons_zero, List.set_cons_succ, List.getElem_toArray, List.getElem_cons_zero, List.getElem_cons_succ])
                      refine wpAnyB_load (i := 24) (v := ?v24) rfl (by kernel_rfl) (by kernel_rfl) (by kernel_rfl) (fun _ _ _ h => h) (by decide) (by kernel_rfl) (by kernel_rfl) (Or.inl ⟨by rfl, ?hy24⟩) hS ?rest24
                      case hy24 => (intro W hSw; (try dsimp only at hSw); go_split_ands; go_simp; (try with_reducible rfl))
                      (try simp only [Act.put, List.setIfInBounds_toArray, List.set_cons_zero, List.set_cons_succ, List.getElem_toArray, List.getElem_cons_zero, List.getElem_cons_succ])
                      refine wpAnyB_take (i := 25) (v := ?v25) rfl (by kernel_rfl) (by kernel_rfl) (by kernel_rfl) (fun _ _ _ h => h) (by decide) (Or.inl ⟨by rfl, ?hy25⟩) hS ?rest25
                      case hy25 => (intro W hSw; go_simp; (try with_reducible rfl))
                      (try simp only [Act.put, List.setIfInBounds_toArray, List.set_cons_zero, List.set_cons_succ, List.getElem_toArray, List.getElem_cons_zero, List.getElem_cons_succ])
                      refine wpAnyB_take (i := 26) (v := ?v26) rfl (by kernel_rfl) (by kernel_rfl) (by kernel_rfl) (fun _ _ _ h => h) (by decide) (Or.inl ⟨by rfl, ?hy26⟩) hS ?rest26
                      case hy26 => (intro W hSw; go_simp; (try with_reducible rfl))
                      (try simp only [Act.put, List.setIfInBounds_toArray, List.set_cons_zero, List.set_cons_succ, List.getElem_toArray, List.getElem_cons_zero, List.getElem_cons_succ])
                      refine wpAnyB_one (i := 9) (by kernel_rfl) rfl (fun K hK => ?_)
                      (try simp only [List.getElem_toArray, List.getElem_cons_zero, List.getElem_cons_succ])
                      go_simp
                      go_at_call 61
                      refine (WA.out _).mono ?_
                      rintro e w' ⟨rfl, rfl⟩
                      refine hK.out _ _ (fun _ => hS) ?_
                      clear hK K
                      (try simp only [Act.put, List.setIfInBounds_toArray, List.set_cons_zero, List.set_cons_succ, List.getElem_toArray, List.getElem_cons_zero, List.getElem_cons_succ])
                      refine wpAnyB_one (i := 15) (by kernel_rfl) rfl (fun K hK => ?_)
                      (try simp only [List.getElem_toArray, List.getElem_cons_zero, List.getElem_cons_succ])
                      go_simp
                      go_at_call 61
                      refine (WB.out _).mono ?_
                      rintro e w' ⟨rfl, rfl⟩
                      refine hK.out _ _ (fun _ => hS) ?_
                      clear hK K
                      (try simp only [Act.put, List.setIfInBounds_toArray, List.set_cons_zero, List.set_cons_succ, List.getElem_toArray, List.getElem_cons_zero, List.getElem_cons_succ])
                      refine wpAnyB_one (i := 21) (by kernel_rfl) rfl (fun K hK => ?_)
                      (try simp only [List.getElem_toArray, List.getElem_cons_zero, List.getElem_cons_succ])
                      go_simp
                      go_at_call 61
                      refine (WC.out _).mono ?_
                      rintro e w' ⟨rfl, rfl⟩
                      refine hK.out _ _ (fun _ => hS) ?_
                      clear hK K
                      (try simp only [Act.put, List.setIfInBounds_toArray, List.set_cons_zero, List.set_cons_succ, List.getElem_toArray, List.getElem_cons_zero, List.getElem_cons_succ])
                      refine wpAnyB_one (i := 27) (by kernel_rfl) rfl (fun K hK => ?_)
                      (try simp only [List.getElem_toArray, List.getElem_cons_zero, List.getElem_cons_succ])
                      go_simp
                      go_at_call 61
                      refine (WD.out _).mono ?_
                      rintro e w' ⟨rfl, rfl⟩
                      refine hK.out _ _ (fun _ => hS) ?_
                      clear hK K
                      (try simp only [Act.put, List.setIfInBounds_toArray, List.set_cons_zero, List.set_cons_succ, List.getElem_toArray, List.getElem_cons_zero, List.getElem_cons_succ])
                      refine wpAnyB_take (i := 28) (v := ?v28) rfl (by kernel_rfl) (by kernel_rfl) (by kernel_rfl) (fun _ _ _ h => h) (by decide) (Or.inl ⟨by rfl, ?hy28⟩) hS ?rest28
                      case hy28 => (intro W hSw; go_simp; (try with_reducible rfl))
                      (try simp only [Act.put, List.setIfInBounds_toArray, List.set_cons_zero, List.set_cons_succ, List.getElem_toArray, List.getElem_cons_zero, List.getElem_cons_succ])
                      have HBW := Lib.hid (((HB7.out.trans (HB8.out.mono HB7.out.size)).mono (HB.out.size)).drew)
                      have HS0 := Lib.hid (HH8.out.drew)
                      clear hS k0 k1 k2 k3
                      generalize hW0 : wr.drew = W0 at *
                      clear hW0
                      have hc0 := HS0.out.cell 0
                      have hf0 := HS0.out.frozen 0
                      simp [sthI] at hc0
                      refine wpAnyB_one (i := 29) (by kernel_rfl) rfl (fun K hK => ?_)
                      (try simp only [List.getElem_toArray, List.getElem_cons_zero, List.getElem_cons_succ])
                      go_simp
                      refine hK.out _ _ (fun h => absurd h (by decide)) ?_
                      clear hK K hc0 hf0
                      (try simp only [Act.put, List.setIfInBounds_toArray, List.set_cons_zero, List.set_cons_succ, List.getElem_toArray, List.getElem_cons_zero, List.getElem_cons_succ])
                      have HS1 := Lib.hid (HS0.out.set_ 0 (.int .i64 ((NA).toNat : Int)))
                      have HW1 := Lib.hid (HBW.out.setCell (p := ⟨w5.heap.size, 0, none⟩) (Nat.le_refl _) (.int .i64 ((NA).toNat : Int)))
                      generalize W0.setCell ⟨w5.heap.size, 0, none⟩ (.int .i64 ((NA).toNat : Int)) = W1 at *
                      refine wpAnyB_take' (i := 30) (v := ?v30) rfl (by kernel_rfl) (by kernel_rfl) (by kernel_rfl) (fun _ _ _ h => h) (by decide) (Or.inl ⟨by rfl, ?hy30⟩) (by kernel_rfl) ?rest30
                      case hy30 => (intro W hSw; go_simp; (try with_reducible rfl))
                      (try simp only [Act.put, List.setIfInBounds_toArray, List.set_cons_zero, List.set_cons_succ, List.getElem_toArray, List.getElem_cons_zero, List.getElem_cons_succ])
                      have hc1 := HS1.out.cell 1
                      have hf1 := HS1.out.frozen 1
                      simp [sthI] at hc1
                      refine wpAnyB_one (i := 31) (by kernel_rfl) rfl (fun K hK => ?_)
                      (try simp only [List.getElem_toArray, List.getElem_cons_zero, List.getElem_cons_succ])
                      go_simp
                      refine hK.out _ _ (fun h => absurd h (by decide)) ?_
                      clear hK K hc1 hf1
                      (try simp only [Act.put, List.setIfInBounds_toArray, List.set_cons_zero, List.set_cons_succ, List.getElem_toArray, List.getElem_cons_zero, List.getElem_cons_succ])
                      have HS2 := Lib.hid (HS1.out.set_ 1 (.int .i64 ((NB).toNat : Int)))
                      have HW2 := Lib.hid (HW1.out.setCell (p := ⟨w5.heap.size, 1, none⟩) (Nat.le_refl _) (.int .i64 ((NB).toNat : Int)))
                      generalize W1.setCell ⟨w5.heap.size, 1, none⟩ (.int .i64 ((NB).toNat : Int)) = W2 at *
                      refine wpAnyB_take' (i := 32) (v := ?v32) rfl (by kernel_rfl) (by kernel_rfl) (by kernel_rfl) (fun _ _ _ h => h) (by decide) (Or.inl ⟨by rfl, ?hy32⟩) (by kernel_rfl) ?rest32
                      case hy32 => (intro W hSw; go_simp; (try with_reducible rfl))
                      (try simp only [Act.put, List.setIfInBounds_toArray, List.set_cons_zero, List.set_cons_succ, List.getElem_toArray, List.getElem_cons_zero, List.getElem_cons_succ])
                      have hc2 := HS2.out.cell 2
                      have hf2 := HS2.out.frozen 2
                      simp [sthI] at hc2
                      refine wpAnyB_one (i := 33) (by kernel_rfl) rfl (fun K hK => ?_)
                      (try simp only [List.getElem_toArray, List.getElem_cons_zero, List.getElem_cons_succ])
                      go_simp
                      refine hK.out _ _ (fun h => absurd h (by decide)) ?_
                      clear hK K hc2 hf2
                      (try simp only [Act.put, List.setIfInBounds_toArray, List.set_cons_zero, List.set_cons_succ, List.getElem_toArray, List.getElem_cons_zero, List.getElem_cons_succ])
                      have HS3 := Lib.hid (HS2.out.set_ 2 (.int .i64 ((NC).toNat : Int)))
                      have HW3 := Lib.hid (HW2.out.setCell (p := ⟨w5.heap.size, 2, none⟩) (Nat.le_refl _) (.int .i64 ((NC).toNat : Int)))
                      generalize W2.setCell ⟨w5.heap.size, 2, none⟩ (.int .i64 ((NC).toNat : Int)) = W3 at *
                      refine wpAnyB_take' (i := 34) (v := ?v34) rfl (by kernel_rfl) (by kernel_rfl) (by kernel_rfl) (fun _ _ _ h => h) (by decide) (Or.inl ⟨by rfl, ?hy34⟩) (by kernel_rfl) ?rest34
                      case hy34 => (intro W hSw; go_simp; (try with_reducible rfl))
                      (try simp only [Act.put, List.setIfInBounds_toArray, List.set_cons_zero, List.set_cons_succ, List.getElem_toArray, List.getElem_cons_zero, List.getElem_cons_succ])
                      have hc3 := HS3.out.cell 3
                      have hf3 := HS3.out.frozen 3
                      simp [sthI] at hc3
                      refine wpAnyB_one (i := 35) (by kernel_rfl) rfl (fun K hK => ?_)
                      (try simp only [List.getElem_toArray, List.getElem_cons_zero, List.getElem_cons_succ])
                      go_simp
                      refine hK.out _ _ (fun h => absurd h (by decide)) ?_
                      clear hK K hc3 hf3
                      (try simp only [Act.put, List.setIfInBounds_toArray, List.set_cons_zero, List.set_cons_succ, List.getElem_toArray, List.getElem_cons_zero, List.getElem_cons_succ])
                      have HS4 := Lib.hid (HS3.out.set_ 3 (.int .i64 ((ND).toNat : Int)))
                      have HW4 := Lib.hid (HW3.out.setCell (p := ⟨w5.heap.size, 3, none⟩) (Nat.le_refl _) (.int .i64 ((ND).toNat : Int)))
                      generalize W3.setCell ⟨w5.heap.size, 3, none⟩ (.int .i64 ((ND).toNat : Int)) = W4 at *
                      refine wpAnyB_done (by kernel_rfl) ?_ _
                      have HF := Lib.hid (show Blk W4 w5.heap.size 3 (sthI ⟨NA, NB, NC, ND⟩) from HS4.out)
                      have HBF := Lib.hid (HB.out.trans HW4.out)
                      clear HS0 HS1 HS2 HS3 HS4 HW1 HW2 HW3 HW4 HBW
                      go_wp2_with fail
                      refine ⟨⟨k + 1, int_eq (by omega), by omega, by rw [HBN.out]; exact HF, HBF⟩, by simp [intOf]; omega⟩
            · have hkN : k = N := by omega
              subst hkN
              obtain ⟨F, hF⟩ : ∃ F, Md5.blocks P k Md5.start = F := ⟨_, rfl⟩
              have HMF := Lib.hid (show (⟨(Md5.out F).toArray⟩ : ByteArray) = MD by rw [← HMD.out, Md5.md5, HPP.out, HNP.out, ← hF, Nat.mul_div_cancel_left k (by omega)])
              rw [hF] at HH
              clear hF hlt hk
              have HBA := Lib.hid (HB5.out.trans (HB.out.mono HB5.out.size))
              clear HM5 HK5 HB HB5 HPP HNP HMD
              go_wp2_with fail
              obtain ⟨w6, hw6⟩ : ∃ w6, w6 = wr := ⟨_, rfl⟩
              subst hw6
              go_loopw [20, 21] (fun o i wr => ∃ (j : Nat) (A6 : Option Addr) (c6 : Nat), i = .int .i64 (j : Int) ∧ j ≤ 4 ∧ o = .slice A6 (4 * j) c6 ∧ Hid (OwnB wr w6.heap.size A6 c6 (outs F j)) ∧ Hid (Below w6.heap.size w6 wr)) (fun _ i _ => 4 - (intOf i).toNat)
              case atStart => exact ⟨0, none, 0, rfl, by omega, rfl, Lib.hid (OwnB.nil _ _), Lib.hid (Below.refl _ _)⟩
              case round =>
                obtain ⟨j, A6, c6, rfl, hj, rfl, HO, HBo⟩ := hrel
                by_cases hj4 : j < 4
                · obtain ⟨X, hX⟩ : ∃ X, sthW F j = X := ⟨_, rfl⟩
                  have HOS := Lib.hid (outs_succ F j hj4)
                  rw [hX] at HOS
                  have HCX := Lib.hid (fun W (hb : Below w6.heap.size w6 W) => ((HH.out.below hb HH.out.lt).cell j).trans (sth_at F j hj4))
                  rw [hX] at HCX
                  have HLO := Lib.hid (outs_length F j hj)
                  clear hX
                  have hd : decide ((j : Int) < 4) = true := by simp; omega
                  go_wp2_with fail
                  clear hd
                  go_loopw [20, 22] (fun o i wr => ∃ (q : Nat) (A7 : Option Addr) (c7 : Nat), i = .int .i64 (q : Int) ∧ q ≤ 4 ∧ o = .slice A7 (4 * j + q) c7 ∧ Hid (OwnB wr w6.heap.size A7 c7 (outs F j ++ Md5.le X.toNat q)) ∧ Hid (Below w6.heap.size w6 wr)) (fun _ i _ => 4 - (intOf i).toNat)
                  case atStart => exact ⟨0, A6, c6, rfl, by omega, rfl, by simpa [Md5.le] using HO, HBo⟩
                  case round =>
                    obtain ⟨q, A7, c7, rfl, hq, rfl, HO7, HB7⟩ := hrel
                    by_cases hq4 : q < 4
                    · have hc := HCX.out wr HB7.out
                      have HL7 := Lib.hid (show 4 * j + q = (outs F j ++ Md5.le X.toNat q).length by rw [List.length_append, HLO.out, Md5.length_le])
                      have HLE := Lib.hid (show outs F j ++ Md5.le X.toNat (q + 1) = outs F j ++ Md5.le X.toNat q ++ [UInt8.ofNat (X.toNat >>> (8 * q))] by rw [le_succ, List.append_assoc])
                      have HV := Lib.hid (le_atX X q)
                      generalize UInt8.ofNat (X.toNat >>> (8 * q)) = U at *
                      generalize outs F j ++ Md5.le X.toNat q = L7 at *
                      have HBS := Lib.hid HB7.out.size
                      have hXl := X.isLt
                      go_wp2_with (at_builtin; (refine wpList_appB rfl (.tmp 231) (.tmp 240) rfl w6.heap.size A7 (4 * j + q) c7 L7 rfl HL7.out (OwnR.alloc HO7.out _) ⟨wr.heap.size, 0, none⟩ 1 1 [U] rfl rfl (byte_cells wr U _ HV.out) (by omega) (by have := HBS.out; simp; omega) ?_; (intro A8 c8 w8 hown8 hg8 hat8)))
                      have HB8 := Lib.hid (appB_below HB7.out HO7.out hg8 HB7.out.size)
                      have HO8 := Lib.hid hown8
                      clear hown8 hg8 hat8 hc
                      refine ⟨⟨q + 1, A8, c8, int_eq (by omega), by omega, slice_val (by omega), by rw [HLE.out]; exact HO8, HB8⟩, by simp [intOf]; omega⟩
                    · have hq4' : q = 4 := by omega
                      subst hq4'
                      go_wp2_with fail
                      refine ⟨⟨j + 1, A7, c7, int_eq (by omega), by omega, slice_val (by omega), by rw [HOS.out]; exact HO7, HB7⟩, by simp [intOf]; omega⟩
                · have hj4' : j = 4 := by omega
                  subst hj4'
                  rw [outs_all] at HO
                  have hst := run_str c6 (OwnB.rd HO.out) (show 4 * 4 = (Md5.out F).length by simp [Md5.out, Md5.length_le])
                  rw [HMF.out] at hst
                  have HBZ := Lib.hid (HBA.out.trans (HBo.out.mono HBA.out.size))
                  go_wp2_with fail
                  go_ret
                  exact ⟨rfl, HBZ.out⟩
    · have hjn := noughts_more n j hd hj
      have hne : ((((n + 1 + j : Nat) : Int)) % 64 != 56) = true := by rw [bne_iff_ne]; omega
      have hne2 : (((n : Int) + 1 + (j : Int)) % 64 != 56) = true := by rw [bne_iff_ne]; omega
      clear hd
      go_wp2_with (at_builtin; refine wpList_appM rfl (.tmp 31) (.tmp 32) rfl w.heap.size A2 (n + 1 + j) c2 _ rfl HLJ.out.symm (HM.out.alloc _) ⟨wr.heap.size, 0, none⟩ 1 1 [0] rfl rfl (byte_cells wr 0 0 rfl) (by decide) (by rw [HLJ.out]; simp; omega) (by have := HBS.out; simp; omega) ?_; (intro A3 c3 w3 hown3 hb3))
      have HB3 := Lib.hid ((HB.out.alloc HBS.out _).trans hb3)
      have HM3 := Lib.hid hown3
      clear hown3 hb3
      have h3 := HLJ.out
      refine ⟨⟨j + 1, A3, c3, slice_val (by omega), by omega, by rw [HLE.out]; exact HM3, HB3⟩, by simp only [sliceN_slice]; omega⟩
end Go.Proofs.Ytoompglghjpapaa.R4
