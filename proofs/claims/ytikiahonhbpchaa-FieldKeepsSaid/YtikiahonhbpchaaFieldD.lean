/-
  Walks of package field: put.
-/
import Derived.Test.YtikiahonhbpchaaFieldC
import Derived.Test.YtikiahonhbpchaaOwnS
namespace Go.Proofs.Ytikiahonhbpchaa
open Go.RowKit Fld
set_option linter.unusedVariables false
set_option linter.unusedSimpArgs false

theorem OwnB.lt_ {w : World} {base : Nat} {A : Option Addr} {c : Nat} {l : List UInt8} (h : OwnB w base A c l) : ∀ k, blk A = some k → base ≤ k ∧ k < w.heap.size := OwnR.lt h
/-- what put does -/
def PutSpec (base : Nat) (A : Option Addr) (l : List UInt8) (w : World) (e : Ending) (w' : World) : Prop :=
  ∃ A' c', e = .returned (.slice A' l.length c') ∧ OwnB w' base A' c' l ∧ Below base w w'

theorem rd_one (w : World) (o : Obj) (n : Nat) (v : Int) (h : n < 256) (hv : v = (n : Int)) : RdB ((w.alloc o).alloc (.cells #[.int .u8 v] 5)).drew (some ⟨w.heap.size + 1, 0, none⟩) [UInt8.ofNat n] := fun _ => by
  refine ⟨_, rfl, fun k hk => ?_⟩
  have hk0 : k = 0 := by simpa using hk
  subst hk0 hv
  have e : (UInt8.ofNat n).toNat = n := by rw [UInt8.toNat_ofNat']; omega
  have hsz : (w.alloc o).heap.size = w.heap.size + 1 := by simp
  have := cells_new (w.alloc o) [.int .u8 (n : Int)] 5 0 _ rfl
  rw [hsz] at this
  simp only [List.getD_cons_zero, e]
  exact this
theorem rd_five (w : World) (o : Obj) (x : UInt8) (l : List UInt8) (a b c d : Int) (h : [Value.int .u8 a, .int .u8 b, .int .u8 c, .int .u8 d] = bc l) (hx : x = 255) :
    RdB ((w.alloc o).alloc (.cells #[.int .u8 255, .int .u8 a, .int .u8 b, .int .u8 c, .int .u8 d] 5)).drew (some ⟨w.heap.size + 1, 0, none⟩) (x :: l) := fun _ => by
  refine ⟨_, rfl, fun k hk => ?_⟩
  subst hx
  have hsz : (w.alloc o).heap.size = w.heap.size + 1 := by simp
  have h2 : (#[.int .u8 255, .int .u8 a, .int .u8 b, .int .u8 c, .int .u8 d] : Array Value) = (bc (255 :: l)).toArray := by
    have : bc (255 :: l) = .int .u8 255 :: bc l := rfl
    rw [this, ← h]
  rw [h2]
  have := cells_new (w.alloc o) (bc (255 :: l)) 5 k _ (bc_get _ k hk)
  rw [hsz] at this
  exact this
theorem byte_of (n : Nat) (v : Int) (hv : v = (n : Int)) : IntKind.u8.wrap v = ((UInt8.ofNat n).toNat : Int) := by
  rw [IntKind.wrap_u8, hv, UInt8.toNat_ofNat']; omega
/-- the boxed item behind an append -/
theorem box_behind {w w1 : World} {A : Option Addr} {base c : Nat} {l : List UInt8} {cs : Array Value} {o : Obj} (hown : OwnB w base A c l)
    (hg : ((w.alloc (.cells cs 30)).alloc o).drew.grownBy w1 (blk A)) : Blk w1 w.heap.size 30 cs :=
  (((Blk.new w _ cs).alloc o).drew).grown hg (fun h => by have := (hown.lt_ _ h.symm).2; omega)
theorem put_below {w w1 w2 : World} {A A1 : Option Addr} {base c c1 : Nat} {l l1 : List UInt8} {o o' : Obj} (hbase : base ≤ w.heap.size) (hown : OwnB w base A c l)
    (hg1 : ((w.alloc o).alloc o').drew.grownBy w1 (blk A)) (hown1 : OwnB w1 base A1 c1 l1) (hg2 : w1.grownBy w2 (blk A1)) : Below base w w2 := by
  have h1 : Below base w ((w.alloc o).alloc o').drew := (((Below.refl _ _).alloc hbase _).alloc (by simp; omega) _).drew
  have hs := hg1.size
  simp at hs
  exact (h1.grown hg1 (by simp; omega) (fun k hk => (hown.lt_ k hk).1)).grown hg2 (by omega) (fun k hk => (hown1.lt_ k hk).1)
theorem slice_len {A : Option Addr} {n m c : Nat} (h : n = m) : Ending.returned (.slice A n c) = .returned (.slice A m c) := by rw [h]
set_option maxRecDepth 100000 in
set_option maxHeartbeats 1000000 in
theorem put_text (base : Nat) (A : Option Addr) (c : Nat) (l : List UInt8) (n : Int) (s : List UInt8) (w : World) (hown : OwnB w base A c l) (hbase : base ≤ w.heap.size) (hs : s.length ≤ 50000) (hlen : l.length + 50005 ≤ 140737488355328) :
    Calls Try.prog 23 #[.slice A l.length c, It.v ⟨2, n, s⟩] w fun e w' => PutSpec base A (l ++ encStr s) w e w' := by
  have hsz := str_size s
  generalize hE : l ++ encStr s = E
  unfold It.v
  simp only
  have HO := Lib.hid hown
  clear hown
  by_cases h0 : s.length < 127
  · go_enter Try.func23, Try.ntmps23
    go_wp2_with fail
    have hv8 : IntKind.u8.wrap (IntKind.i64.wrap (128 + (s.length : Int))) = ((128 + s.length : Nat) : Int) := by
      rw [IntWalk.i64_in _ (by omega), IntWalk.u8_in _ (by omega)]; omega
    have HV8 := Lib.hid hv8
    clear hv8
    go_region_law (first
      | (refine step_appRd rfl (.tmp 17) (.tmp 23) rfl base A l.length c l rfl rfl ?_ (some ⟨w.heap.size + 1, 0, none⟩) 1 1 [UInt8.ofNat (128 + s.length)] rfl rfl ?_ ?_ ?_ ?_
         · exact OwnR.alloc (OwnR.drew (OwnR.alloc HO.out _)) _
         · exact rd_one _ _ _ _ (by omega) HV8.out
         · simp; omega
         · simp; omega
         intro A1 c1 w1 hown1 hg1
         have cS := (box_behind HO.out hg1).cell 2
         simp at cS)
      | (refine step_appS rfl (.tmp 24) (.tmp 26) rfl base A1 (l.length + 1) c1 _ rfl ?_ hown1 s rfl ?_ ?_ ?_
         · simp
         · simp; omega
         · have := hg1.size; simp at this; omega
         intro A2 c2 w2 hown2 hg2))
    all_goals
      have HB := Lib.hid (put_below hbase HO.out hg1 hown1 hg2)
      have HO2 := Lib.hid hown2
      clear hg1 hg2 hown1 hown2 HO cS HV8
      go_wp2_with fail
      go_ret
      refine ⟨A2, c2, ?_, ?_, HB.out⟩
      · rw [← hE]; exact slice_len (by unfold encStr; rw [if_pos h0]; simp; omega)
      · have e : l ++ [UInt8.ofNat (128 + s.length)] ++ s = E := by rw [← hE]; unfold encStr; rw [if_pos h0]; simp
        rw [← e]; exact HO2.out
  · go_enter Try.func23, Try.ntmps23
    go_wp2_with fail
    have hb1 := byte_of (s.length / 16777216) ((s.length : Int) / 16777216) (by omega)
    have hb2 := byte_of (s.length / 65536) ((s.length : Int) / 65536) (by omega)
    have hb3 := byte_of (s.length / 256) ((s.length : Int) / 256) (by omega)
    have hb4 := byte_of s.length (s.length : Int) rfl
    have HV := Lib.hid (show [Value.int .u8 (IntKind.u8.wrap ((s.length : Int) / 16777216)), .int .u8 (IntKind.u8.wrap ((s.length : Int) / 65536)), .int .u8 (IntKind.u8.wrap ((s.length : Int) / 256)), .int .u8 (IntKind.u8.wrap (s.length : Int))] = bc (four s.length) by
      rw [hb1, hb2, hb3, hb4]; rfl)
    clear hb1 hb2 hb3 hb4
    go_region_law (first
      | (refine step_appRd rfl (.tmp 31) (.tmp 43) rfl base A l.length c l rfl rfl ?_ (some ⟨w.heap.size + 1, 0, none⟩) 5 5 (255 :: four s.length) rfl rfl ?_ ?_ ?_ ?_
         · exact OwnR.alloc (OwnR.drew (OwnR.alloc HO.out _)) _
         · exact rd_five _ _ _ _ _ _ _ _ HV.out rfl
         · simp [four]; omega
         · simp; omega
         intro A1 c1 w1 hown1 hg1
         have cS := (box_behind HO.out hg1).cell 2
         simp at cS)
      | (refine step_appS rfl (.tmp 44) (.tmp 46) rfl base A1 (l.length + 5) c1 _ rfl ?_ hown1 s rfl ?_ ?_ ?_
         · simp [four]
         · simp [four]; omega
         · have := hg1.size; simp at this; omega
         intro A2 c2 w2 hown2 hg2))
    all_goals
      have HB := Lib.hid (put_below hbase HO.out hg1 hown1 hg2)
      have HO2 := Lib.hid hown2
      clear hg1 hg2 hown1 hown2 HO cS HV
      go_wp2_with fail
      go_ret
      refine ⟨A2, c2, ?_, ?_, HB.out⟩
      · rw [← hE]; exact slice_len (by unfold encStr; rw [if_neg h0]; simp [four]; omega)
      · have e : l ++ (255 :: four s.length) ++ s = E := by rw [← hE]; unfold encStr; rw [if_neg h0]; simp
        rw [← e]; exact HO2.out
end Go.Proofs.Ytikiahonhbpchaa
