/-
  Walk: the law SumsApart: what is handed in stays as it is, spare room too.
-/
import Derived.Test.YtpjgcceacfdheaaLawC
import Derived.Test.YtpjgcceacfdheaaLawB
import Derived.Laws.OwnMore
namespace Go.Proofs.Ytpjgcceacfdheaa
open Go.RowKit Crc
set_option linter.unusedVariables false
set_option linter.unusedSimpArgs false

theorem made_bc (n : Nat) : madeCells #[.int .u8 0] n = (bc (zeros n)).toArray := by
  apply Array.ext_getElem?
  intro j
  rw [← Array.getElem?_toList, toList_madeCells_one]
  by_cases h : j < n <;> simp [zeros, bc, h]
theorem run_make_cap (n : Nat) (hn : n ≤ 140737488355328) (w : World) :
    (Instr.makeSlice 22 (.int .i64 0) (.int .i64 (n : Int))).run Try.prog w = .ok (.slice (some ⟨w.heap.size, 0, none⟩) 0 n) (w.alloc (.cells (bc (zeros n)).toArray 5)) := by
  obtain ⟨i, hi0, hz0, hz1, hz2⟩ := info_parts info_u8
  have hr := run_make (P := Try.prog) w 22 5 i (.int .u8 0) Try.underlying22 hi0 hz0 .i64 .i64 0 n (by omega) (by omega) (by rw [hz2]; omega) (by omega)
  simp only [Int.toNat_natCast, hz1, Nat.mul_one] at hr
  have e : madeCells (Value.int .u8 0).cells n = (bc (zeros n)).toArray := made_bc n
  rw [e] at hr
  exact hr
/-- append into the room of a row of noughts -/
theorem wpList_appRoom {w : World} {ops : Array Oper} {rest : List Oper} {o : Oper} {a : Act} {Q : Exit → Act → World → Prop} (hgd : o.guard = none) (s x : Operand)
    (ho : o.op = .call { callee := .builtin .append, args := #[s, x], argTypes := #[22, 22] })
    (g cap : Nat) (hs : a.eval s = .slice (some ⟨g, 0, none⟩) 0 cap) (hg : Blk w g 5 (bc (zeros cap)).toArray)
    (A1 : Option Addr) (n c1 : Nat) (l : List UInt8) (hx : a.eval x = .slice A1 n c1) (hn : n = l.length) (hr : RdB w A1 l) (hcap : l.length ≤ cap) (hcm : cap ≤ maxLen)
    (h : ∀ w', Blk w' g 5 (bc (l ++ zeros (cap - l.length))).toArray → w.grownBy w' (some g) → wpList Try.prog ops Q rest (a.put o.dst (.slice (some ⟨g, 0, none⟩) l.length cap)) w') :
    wpList Try.prog ops Q (o :: rest) a w := by
  subst hn
  obtain ⟨i, hi0, hz0, hz1, hz2⟩ := info_parts info_u8
  have hrun : ∃ w', (Builtin.append_ #[22, 22] o.type #[.slice (some ⟨g, 0, none⟩) 0 cap, .slice A1 l.length c1]).run Try.prog w = .ok (.slice (some ⟨g, 0, none⟩) l.length cap) w' ∧ Blk w' g 5 (bc (l ++ zeros (cap - l.length))).toArray ∧ w.grownBy w' (some g) := by
    rcases A1 with _ | ad
    · have h0 : l = [] := by
        cases l with
        | nil => rfl
        | cons x l => obtain ⟨_, e, _⟩ := hr (by simp); cases e
      subst h0
      have hown : w.ownsRow 0 5 1 (.slice (some ⟨g, 0, none⟩) 0 cap) 0 [] := ⟨rfl, .inr ⟨g, cap, _, rfl, Nat.zero_le _, hg, Nat.zero_le _, hcm, by simp [bc_length, zeros], by simp⟩⟩
      exact ⟨w, run_append_of_nil Try.prog w 0 22 o.type 5 i 1 Try.underlying22 hi0 _ 0 [] hown c1, by simpa using hg, World.grownBy.refl w _⟩
    · have hcells : ∀ j u, (bc l)[j]? = some u → w.cell? (ad.add j) = some u := by
        intro j u hu
        have hj : j < l.length := by
          have := (List.getElem?_eq_some_iff.1 hu).1
          rwa [bc_length] at this
        obtain ⟨ad', e, hc⟩ := hr (by omega)
        cases e
        rw [bc_get _ _ hj] at hu
        rw [hc j hj]; exact hu
      have hrr := run_append_room (P := Try.prog) w 22 o.type 5 i Try.underlying22 hi0 g 0 cap _ hg ad l.length c1 (bc l) (by rw [bc_length, hz1, Nat.mul_one]) hcells (bc_one _) (by omega) (by rw [hz1]; simp [bc_length, zeros]; omega)
      have he : ((bc (zeros cap)).toArray.toList.take (0 * i.size) ++ bc l ++ (bc (zeros cap)).toArray.toList.drop (0 * i.size + (bc l).length)).toArray = (bc (l ++ zeros (cap - l.length))).toArray := by
        simp [bc, zeros]
      rw [he, Nat.zero_add] at hrr
      exact ⟨_, hrr, setRow_heap w g _ _ 5 _ hg, ⟨rfl, rfl, rfl, by simp, fun k _ hk => setRow_other w g k _ (fun e => hk (by simp [e]))⟩⟩
  obtain ⟨w', hrun, h1, h2⟩ := hrun
  refine wpList_plain hgd fun _ hK => ?_
  unfold Oper.wp execOp
  simp only [ho, resolve, invoke, builtin, Sem.run_bind, Sem.run_pure, Result.andThen_ok, List.map_toArray, List.map_cons, List.map_nil, hs, hx, hrun]
  exact hK _ _ (h w' h1 h2)
theorem bytes_x (w : World) : Calls Try.prog 19 #[.string ⟨#[120]⟩] w fun e w' => e = .returned (.tuple #[.string ⟨#[]⟩, .int .i64 2]) ∧ w = w' := by
  go_enter Try.func19, Try.ntmps19
  go_wp2
  go_ret2
  exact ⟨rfl, rfl⟩
theorem rd_blk {w : World} {g : Nat} {l r : List UInt8} (h : Blk w g 5 (bc (l ++ r)).toArray) : RdB w (some ⟨g, 0, none⟩) l := fun hl => by
  refine ⟨_, rfl, fun k hk => ?_⟩
  have e : (⟨g, 0, none⟩ : Addr).add k = ⟨g, k, none⟩ := by unfold Addr.add; split <;> simp_all
  rw [e, h.cell k]
  simp [bc, List.getElem?_append_left, hk]
theorem zero_blk {w : World} {g : Nat} {l : List UInt8} {n k : Nat} (h : Blk w g 5 (bc (l ++ zeros n)).toArray) (hk1 : l.length ≤ k) (hk2 : k < l.length + n) : w.cell? ⟨g, k, none⟩ = some (.int .u8 0) := by
  rw [h.cell k]
  have : k - l.length < n := by omega
  simp [bc, zeros, List.getElem?_append_right, hk1, this]
set_option maxRecDepth 100000 in
set_option maxHeartbeats 1000000 in
theorem SumsApart_walk (A : Option Addr) (b : List UInt8) (ca : Nat) (w : World) (hm : b.length ≤ maxLen) (ha : RdB w A b) :
    Calls Try.prog 8 #[.slice A b.length ca] w fun e w' => e = .returned (.bool true) ∧ Below w.heap.size w w' := by
  unfold maxLen at hm
  have HA := Lib.hid ha; clear ha
  go_enter Try.func8, Try.ntmps8
  go_wp2_with fail
  refine (known_any w).mono ?_
  rintro e w1 ⟨rfl, hb1⟩
  have HW1 := Lib.hid hb1
  have HA1 := Lib.hid (HA.out.below hb1)
  clear hb1
  by_cases hl : 5000 < b.length
  · go_wp2_with fail
    refine (known_any w1).mono ?_
    rintro e w2 ⟨rfl, hb2⟩
    have HB2 := Lib.hid (HW1.out.trans (hb2.mono HW1.out.size))
    clear hb2
    go_wp2
    go_ret
    exact ⟨rfl, HB2.out⟩
  obtain ⟨n, hn⟩ : ∃ n, b.length = n := ⟨_, rfl⟩
  have hmk := fun W => run_make_cap (n + 80) (by omega) W
  have hcast : ((n + 80 : Nat) : Int) = (n : Int) + 80 := by omega
  rw [hcast] at hmk
  have hA2 := HA1.out.below ((Below.refl w1.heap.size w1).alloc (Nat.le_refl _) (.cells (bc (zeros (n + 80))).toArray 5))
  have HA2 := Lib.hid hA2
  have HBK := Lib.hid (Blk.new w1 5 (bc (zeros (n + 80))).toArray)
  have HLN : Hid (b.length = n) := Lib.hid hn
  have hn5 : n ≤ 5000 := by omega
  rw [hn]
  clear hn hl hm hA2 hcast
  go_wp2_with (at_builtin; refine wpList_appRoom rfl (.tmp 21) (.tmp 22) rfl w1.heap.size (n + 80) rfl HBK.out A n ca b rfl HLN.out.symm HA2.out (by have := HLN.out; omega) (by unfold maxLen; omega) ?_; (intro w2 hbk2 hg2))
  rw [HLN.out] at hbk2 ⊢
  have e80 : n + 80 - n = 80 := by omega
  rw [e80] at hbk2
  have HW2 := Lib.hid (show Below w1.heap.size w1 w2 from ((Below.refl w1.heap.size w1).alloc (Nat.le_refl _) _).grown hg2 (by simp) (fun k hk => by cases hk; exact Nat.le_refl _))
  have HK2 := Lib.hid hbk2
  clear hbk2 hg2 HA2 HBK hmk e80
  have HSZ : Hid (w1.heap.size < w2.heap.size) := Lib.hid HK2.out.lt
  have hmd := fun W (h : Blk W w1.heap.size 5 (bc (b ++ zeros 80)).toArray) => Md5_any (some ⟨w1.heap.size, 0, none⟩) b (n + 80) W (by have := HLN.out; omega) (rd_blk h)
  rw [HLN.out] at hmd
  refine (hmd _ HK2.out).mono ?_
  clear hmd
  rintro e w3 ⟨rfl, hb3⟩
  have HK3 := Lib.hid (HK2.out.below hb3 HSZ.out)
  have HW3 := Lib.hid (HW2.out.trans (hb3.mono HW2.out.size))
  clear hb3 HW2
  have hc32 := fun W (h : Blk W w1.heap.size 5 (bc (b ++ zeros 80)).toArray) => Crc32_any (some ⟨w1.heap.size, 0, none⟩) b (n + 80) W (by have := HLN.out; unfold maxLen; omega) (rd_blk h)
  have hc8 := fun W (h : Blk W w1.heap.size 5 (bc (b ++ zeros 80)).toArray) => Crc8_any (some ⟨w1.heap.size, 0, none⟩) b (n + 80) W (by have := HLN.out; unfold maxLen; omega) (rd_blk h)
  have hc16 := fun W (h : Blk W w1.heap.size 5 (bc (b ++ zeros 80)).toArray) => Crc16_any (some ⟨w1.heap.size, 0, none⟩) b (n + 80) W (by have := HLN.out; unfold maxLen; omega) (rd_blk h)
  rw [HLN.out] at hc32 hc8 hc16
  have HC32 := Lib.hid hc32
  have HC8 := Lib.hid hc8
  have HC16 := Lib.hid hc16
  clear hc32 hc8 hc16
  generalize hMD : (⟨(Md5.md5 b).toArray⟩ : ByteArray) = MD at *
  go_wp2_with fail
  refine (HC32.out _ HK3.out).mono ?_
  rintro e w' ⟨rfl, rfl⟩
  go_wp2_with fail
  refine (HC8.out _ HK3.out).mono ?_
  rintro e w' ⟨rfl, rfl⟩
  go_wp2_with fail
  refine (HC16.out _ HK3.out).mono ?_
  rintro e w' ⟨rfl, rfl⟩
  clear HC32 HC8 HC16
  go_wp2_with fail
  go_loop [7] (fun i => ∃ (j : Nat), i = .int .i64 (j : Int) ∧ n ≤ j ∧ j ≤ n + 80) (fun i => n + 80 - (intOf i).toNat)
  case atStart => exact ⟨n, rfl, Nat.le_refl _, by omega⟩
  case round =>
    obtain ⟨j, rfl, hj1, hj2⟩ := hrel
    by_cases hlt : j < n + 80
    · have cj := zero_blk HK3.out (k := j) (by have := HLN.out; omega) (by have := HLN.out; omega)
      go_wp2_with fail
      exact ⟨⟨j + 1, int_eq (by omega), by omega, by omega⟩, by simp [intOf]; omega⟩
    · have hjn : j = n + 80 := by omega
      subst hjn
      go_wp2_with fail
      refine (bytes_x _).mono ?_
      rintro e w' ⟨rfl, rfl⟩
      have hs1 := run_str (n := n) (n + 80) (rd_blk HK3.out) HLN.out.symm
      have hs2 := run_str (n := n) ca (HA1.out.below HW3.out) HLN.out.symm
      have hmd2 := Md5_any A b ca w3 (by have := HLN.out; omega) (HA1.out.below HW3.out)
      rw [HLN.out, hMD] at hmd2
      have HM2 := Lib.hid hmd2
      clear hmd2
      go_wp2_with fail
      refine HM2.out.mono ?_
      rintro e w4 ⟨rfl, hb4⟩
      have HW4 := Lib.hid (HW3.out.trans (hb4.mono HW3.out.size))
      clear hb4 HM2 hs1 hs2
      have hc := Crc32_any A b ca w4 (by have := HLN.out; unfold maxLen; omega) (HA1.out.below HW4.out)
      rw [HLN.out] at hc
      have HCC := Lib.hid hc
      clear hc
      go_wp2_with fail
      refine HCC.out.mono ?_
      rintro e w' ⟨rfl, rfl⟩
      go_wp2_with fail
      go_ret
      exact ⟨rfl, HW1.out.trans (HW4.out.mono HW1.out.size)⟩
end Go.Proofs.Ytpjgcceacfdheaa
