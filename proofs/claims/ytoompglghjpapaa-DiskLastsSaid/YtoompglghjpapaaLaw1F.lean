/-
  Walk: the law DiskLasts: what was synced is read behind a crash with any picks; what wasn't written since, too.
-/
import Derived.Test.YtoompglghjpapaaLaw1E
import Derived.Test.YtoompglghjpapaaZApp
import Derived.Deep.CutBlock
import Derived.Deep.CutRange
namespace Go.Proofs.Ytoompglghjpapaa
open Go.RowKit
set_option linter.unusedVariables false
set_option linter.unusedSimpArgs false
attribute [local go_sem ↓] Go.wp_at_zero Go.wp_at_succ

/-- two disks, the power on and not armed; the first one's state -/
def LS (w0 w : World) (p a b : Nat) (ad : Addr) (D : Dk) (F : Nat → Prop) : Prop :=
  (∃ E, LW w0 w p [a, b] ⟨[D, E], false, -1⟩ F) ∧ D.Ok ∧ D.size = 512 ∧ w.cell? ad = some (ob a) ∧ ¬ F ad.block
section
variable {w0 w w' : World} {p a b : Nat} {ad : Addr} {D : Dk} {F : Nat → Prop}
theorem LS.below (h : LS w0 w p a b ad D F) (hb : Below w.heap.size w w') : LS w0 w' p a b ad D F := by
  obtain ⟨⟨E, h1⟩, h2, h3, h4, h5⟩ := h
  exact ⟨⟨E, h1.below hb⟩, h2, h3, below_cell hb h4, h5⟩
theorem LS.be (h : LS w0 w p a b ad D F) : Below w0.heap.size w0 w := by obtain ⟨⟨E, h1⟩, _⟩ := h; exact h1.be
theorem LS.ca (h : LS w0 w p a b ad D F) : w.cell? ad = some (ob a) := h.2.2.2.1
theorem LS.notin (h : LS w0 w p a b ad D F) {i : Nat} (hi : i < w0.heap.size ∨ w.heap.size ≤ i) : ¬ F i := by obtain ⟨⟨E, h1⟩, _⟩ := h; exact h1.notin hi
theorem LS.four (h : LS w0 w p a b ad D F) : D.nw.length = 4 := by
  have h1 := h.2.1.rd
  have h2 : D.rd.length = 512 := h.2.2.1
  omega
theorem step_stay {F' : Nat → Prop} (hs : Step F F' w w') {i : Nat} (hi : i < w.heap.size) (hn : ¬ F i) : ¬ F' i := fun hf => by
  rcases hs.fresh i hf with h1 | h1
  · exact hn h1
  · omega
theorem LS.old (h : LS w0 w p a b ad D F) {x : Addr} {v : Value} (hx : w0.cell? x = some v) : w.cell? x = some v := below_cell h.be hx
theorem LS.own (h : LS w0 w p a b ad D F) {x : Addr} (hx : ¬ F x.block) (hg : w0.heap.size ≤ x.block) (hne : ad.block ≠ x.block) (v : Value) : LS w0 (w.setCell x v) p a b ad D F := by
  obtain ⟨⟨E, h1⟩, h2, h3, h4, h5⟩ := h
  exact ⟨⟨E, h1.own hx hg v⟩, h2, h3, (World.cell?_of_block (a := ad) (Below.heap_setCell w x v ad.block hne)).trans h4, h5⟩
end
/-- a write: its error, the disk behind it -/
def lasE (ko n : Nat) : Int := if ko + n ≤ 512 then 0 else 1
def lasD (D : Dk) (ko : Nat) (b : List UInt8) : Dk := if ko + b.length ≤ 512 then D.write ko b else D
theorem las_duo {D E : Dk} (hD : D.size = 512) (ko : Nat) (b : List UInt8) : (⟨[D, E], false, -1⟩ : St).write 0 (ko : Int) b = (lasE ko b.length, ⟨[lasD D ko b, E], false, -1⟩) := by
  have h0 : (⟨[D, E], false, -1⟩ : St).at_ 0 = D := rfl
  unfold St.write writeD writeE writeOff writeArm
  rw [h0, hD, useP_on]
  unfold lasE lasD
  by_cases h : ko + b.length ≤ 512
  · have hin : inB 512 (ko : Int) (b.length : Int) = true := inB_nat h
    simp [h, hin]
  · have hin : inB 512 (ko : Int) (b.length : Int) = false := by
      simp only [inB, decide_eq_false_iff_not]; omega
    simp [h, hin]
theorem las_ok {D : Dk} (h : D.Ok) (hs : D.size = 512) (ko : Nat) (b : List UInt8) : (lasD D ko b).Ok ∧ (lasD D ko b).size = 512 := by
  unfold lasD
  split
  · exact ⟨write_ok h (by omega), by rw [write_size _ (by omega)]; exact hs⟩
  · exact ⟨h, hs⟩
theorem las_write {w0 w : World} {p a b : Nat} {ad : Addr} {D : Dk} {F : Nat → Prop} (h : LS w0 w p a b ad D F) (ko : Nat) (hko : ko ≤ 511) (A : Option Addr) (l : List UInt8) (n c : Nat) (hn : l.length = n) (hnn : n ≤ 300) (hA : RdB w A l) (hAn : ∀ x, A = some x → ¬ F x.block) :
    Calls Try.prog 28 #[ob a, .int .i64 (ko : Int), .slice A n c] w fun e w' => e = .returned (.int .i64 (lasE ko n)) ∧ ∃ F', LS w0 w' p a b ad (lasD D ko l) F' ∧ Step F F' w w' := by
  obtain ⟨⟨E, h1⟩, h2, h3, h4, h5⟩ := h
  refine (st_writeN h1.pw (k := 0) rfl (ko : Int) A l n c hn (by omega) (by unfold maxLen; omega) hA hAn).mono ?_
  intro e w' hst
  obtain ⟨rfl, F', hl, hs⟩ := h1.st hst
  rw [las_duo h3] at hl ⊢
  rw [hn]
  exact ⟨rfl, F', ⟨⟨E, hl⟩, (las_ok h2 h3 ko l).1, (las_ok h2 h3 ko l).2, step_cell hs h4 h5, step_stay hs (World.block_lt_of_cell? _ _ h4) h5⟩, hs⟩
theorem las_write_conv {w0 w : World} {p a b : Nat} {ad : Addr} {D : Dk} {F : Nat → Prop} (h : LS w0 w p a b ad D F) (ko : Nat) (hko : ko ≤ 511) (T : ByteArray) (n : Nat) (hn : T.size = n) (hnn : n ≤ 300) :
    Calls Try.prog 28 #[ob a, .int .i64 (ko : Int), .slice (some ⟨w.heap.size, 0, none⟩) n (convC T w)] (convW T w) fun e w' => e = .returned (.int .i64 (lasE ko n)) ∧ ∃ F', LS w0 w' p a b ad (lasD D ko T.data.toList) F' := by
  refine (las_write (h.below (conv_below T w)) ko hko _ T.data.toList n _ (by rw [str_len]; exact hn) hnn (conv_own T w (by omega)).rd (fun x e => by cases e; exact h.notin (.inr (Nat.le_refl _)))).mono ?_
  rintro e w' ⟨rfl, F', h1, _⟩
  exact ⟨rfl, F', h1⟩
/-- the sectors that were touched, as cells -/
def boolB (f : Nat → Bool) : Array Value := #[.bool (f 0), .bool (f 1), .bool (f 2), .bool (f 3)]
theorem boolB_congr {f g : Nat → Bool} (h : ∀ s, s < 4 → f s = g s) : boolB f = boolB g := by
  unfold boolB
  rw [h 0 (by omega), h 1 (by omega), h 2 (by omega), h 3 (by omega)]
theorem boolB_get (f : Nat → Bool) {s : Nat} (hs : s < 4) : (boolB f)[s]? = some (.bool (f s)) := by
  rcases (by omega : s = 0 ∨ s = 1 ∨ s = 2 ∨ s = 3) with rfl | rfl | rfl | rfl <;> rfl
theorem boolB_set (f : Nat → Bool) {j : Nat} (hj : j < 4) : (boolB f).setIfInBounds j (.bool true) = boolB (fun s => f s || decide (s = j)) := by
  rcases (by omega : j = 0 ∨ j = 1 ∨ j = 2 ∨ j = 3) with rfl | rfl | rfl | rfl <;> simp [boolB]
theorem touch_zero (o s : Nat) : touch o 0 s = false := by simp [touch]
theorem touch_succ (o j s : Nat) : touch o (j + 1) s = (touch o j s || decide (s = (o + j) / 128)) := by
  unfold touch
  by_cases h : s = (o + j) / 128
  · have h1 : 0 < j + 1 ∧ o / 128 ≤ s ∧ 128 * s < o + (j + 1) := ⟨by omega, by omega, by omega⟩
    rw [decide_eq_true h1, decide_eq_true h, Bool.or_true]
  · have h2 : decide (s = (o + j) / 128) = false := decide_eq_false h
    rw [h2, Bool.or_false, decide_eq_decide]
    constructor <;> intro ⟨x, y, z⟩ <;> refine ⟨by omega, by omega, by omega⟩
/-- sectors behind a crash -/
theorem las_sec {D : Dk} (h : D.Ok) (picks : List Int) {s : Nat} (hs : s < D.nw.length) : sec (D.crashed picks 0) s = if D.new s = true ∧ oddAt picks (D.cnt s) = true then sec D.rd s else sec D.la s := by
  unfold Dk.crashed
  rw [sec_blend h.la h.rd (Nat.le_refl _) hs, Nat.zero_add]
  cases hn : D.new s
  · simp [h.eq s hs hn]
  · cases ho : oddAt picks (D.cnt s) <;> simp

theorem las_sync {w0 w : World} {p a b : Nat} {ad : Addr} {D : Dk} {F : Nat → Prop} (h : LS w0 w p a b ad D F) :
    Calls Try.prog 30 #[ob a] w fun e w' => e = .returned (.int .i64 0) ∧ ∃ F', LS w0 w' p a b ad D.sync F' ∧ Step F F' w w' := by
  obtain ⟨⟨E, h1⟩, h2, h3, h4, h5⟩ := h
  refine (st_sync h1.pw (k := 0) rfl).mono ?_
  intro e w' hst
  obtain ⟨rfl, F', hl, hs⟩ := h1.st hst
  rw [St.sync_on rfl rfl] at hl ⊢
  exact ⟨rfl, F', ⟨⟨E, hl⟩, sync_ok h2, h3, step_cell hs h4 h5, step_stay hs (World.block_lt_of_cell? _ _ h4) h5⟩, hs⟩
theorem las_read {w0 w : World} {p a b : Nat} {ad : Addr} {D : Dk} {F : Nat → Prop} (h : LS w0 w p a b ad D F) :
    Calls Try.prog 29 #[ob a, .int .i64 0, .int .i64 512] w fun e w' => GotSpec D.rd 512 w e w' := by
  obtain ⟨⟨E, h1⟩, h2, h3, h4, h5⟩ := h
  have h6 : D.rd.length = 512 := h3
  exact lw_read_on h1 (k := 0) rfl 0 512 0 512 rfl rfl rfl (by show 0 + 512 ≤ D.size; omega) (by show D.size ≤ _; omega) D.rd (by show (D.rd.drop 0).take 512 = D.rd; rw [List.drop_zero, List.take_of_length_le (by omega)])
theorem las_crash {w0 w : World} {p a b : Nat} {ad : Addr} {D : Dk} {F : Nat → Prop} (h : LS w0 w p a b ad D F) (picks : List Int) (v : Value) (hv : PickAt w F picks 0 v) (hp : ∀ x ∈ picks, -9223372036854775808 ≤ x ∧ x ≤ 9223372036854775807) :
    Calls Try.prog 31 #[ob p, v] w fun e w' => e = .returned (.tuple #[]) ∧ ∃ F', LS w0 w' p a b ad (D.crash picks 0) F' ∧ Step F F' w w' := by
  obtain ⟨⟨E, h1⟩, h2, h3, h4, h5⟩ := h
  refine (st_crash h1.pw picks v hv hp).mono ?_
  intro e w' hst
  obtain ⟨rfl, F', hl, hs⟩ := h1.st0 hst
  exact ⟨rfl, F', ⟨⟨_, hl⟩, crash_ok h2 picks 0, by rw [crash_size h2]; exact h3, step_cell hs h4 h5, step_stay hs (World.block_lt_of_cell? _ _ h4) h5⟩, hs⟩
theorem OwnR.capm {w : World} {base size n c : Nat} {e : TypeId} {A : Option Addr} {xs : List Value} (h : OwnR w base e size A n c xs) : c ≤ maxLen := by
  rcases h.2 with ⟨hv, h0⟩ | ⟨g, cap, cur, hv, _, _, _, hm, _⟩
  · injection hv with _ _ hc'
    omega
  · injection hv with _ _ hc'
    omega
theorem RdB.cut {w : World} {x : Addr} {l : List UInt8} (h : RdB w (some x) l) (o n : Nat) (ho : o + n ≤ l.length) : RdB w (some (x.add o)) ((l.drop o).take n) := fun hl => by
  simp only [List.length_take, List.length_drop] at hl
  obtain ⟨y, e, hc⟩ := h (by omega)
  cases e
  refine ⟨_, rfl, fun k hk => ?_⟩
  simp only [List.length_take, List.length_drop] at hk
  rw [add_of_add, hc (o + k) (by omega)]
  have h1 : ((l.drop o).take n)[k]? = l[o + k]? := by rw [List.getElem?_take, if_pos (by omega), List.getElem?_drop]
  simp only [List.getD]
  rw [h1]
theorem tmod_two {x : Int} : x.tmod 2 = 0 ↔ x % 2 = 0 := by rw [← Int.dvd_iff_tmod_eq_zero, Int.dvd_iff_emod_eq_zero]
theorem info_bool : (Try.prog.info? 4).map (fun i => (i.zero, i.size, i.bytes)) = some (some (.bool false), 1, 1) := by kernel_rfl
theorem run_makeBool (w : World) :
    (Instr.makeSlice 62 (.int .i64 4) (.int .i64 4)).run Try.prog w = .ok (.slice (some ⟨w.heap.size, 0, none⟩) 4 4) (w.alloc (.cells (boolB fun _ => false) 4)) := by
  obtain ⟨i, hi0, hz0, hz1, hz2⟩ := info_parts info_bool
  have hr := run_make (P := Try.prog) w 62 4 i (.bool false) Try.underlying62 hi0 hz0 .i64 .i64 4 4 (by omega) (by omega) (by rw [hz2]; omega) (by omega)
  rw [hz1] at hr
  have e : madeCells (Value.bool false).cells (Int.toNat 4 * 1) = boolB fun _ => false := by
    apply Array.ext'
    show (madeCells #[Value.bool false] 4).toList = _
    rw [toList_madeCells_one]; rfl
  rw [e] at hr
  exact hr
/-- in the second loop: what was read first, the sectors that were touched -/
structure LM (w0 w : World) (p a b : Nat) (ad : Addr) (D : Dk) (F : Nat → Prop) (L : List UInt8) (A : Option Addr) (tb : Nat) (f : Nat → Bool) : Prop where
  ls : LS w0 w p a b ad D F
  la : D.la = L
  rd : RdB w A L
  far : ∀ x, A = some x → ¬ F x.block
  ne : ∀ x, A = some x → x.block ≠ tb
  blk : Blk w tb 4 (boolB f)
  ftb : ¬ F tb
  gtb : w0.heap.size ≤ tb
  nad : ad.block ≠ tb
section
variable {w0 w w' : World} {p a b tb : Nat} {ad : Addr} {D : Dk} {F : Nat → Prop} {L : List UInt8} {A : Option Addr} {f : Nat → Bool}
theorem LM.below (h : LM w0 w p a b ad D F L A tb f) (hb : Below w.heap.size w w') : LM w0 w' p a b ad D F L A tb f :=
  ⟨h.ls.below hb, h.la, h.rd.below hb, h.far, h.ne, h.blk.below_ hb, h.ftb, h.gtb, h.nad⟩
theorem LM.congr (h : LM w0 w p a b ad D F L A tb f) {g : Nat → Bool} (hg : ∀ s, s < 4 → f s = g s) : LM w0 w p a b ad D F L A tb g := by
  obtain ⟨h1, h2, h3, h4, h5, h6, h7, h8, h9⟩ := h
  rw [boolB_congr hg] at h6
  exact ⟨h1, h2, h3, h4, h5, h6, h7, h8, h9⟩
theorem LM.step {D' : Dk} {F' : Nat → Prop} (h : LM w0 w p a b ad D F L A tb f) (hL : 0 < L.length) (hla : D'.la = L) (hl : LS w0 w' p a b ad D' F') (hs : Step F F' w w') : LM w0 w' p a b ad D' F' L A tb f :=
  ⟨hl, hla, h.rd.step hs h.far, fun x e => step_stay hs (h.rd.lt hL e) (h.far x e), h.ne, h.blk.step hs h.ftb, step_stay hs h.blk.lt h.ftb, h.gtb, h.nad⟩
theorem LM.set_ (h : LM w0 w p a b ad D F L A tb f) {j : Nat} (hj : j < 4) : LM w0 (w.setCell ⟨tb, j, none⟩ (.bool true)) p a b ad D F L A tb (fun s => f s || decide (s = j)) := by
  refine ⟨h.ls.own h.ftb h.gtb h.nad _, h.la, fun hl => ?_, h.far, h.ne, ?_, h.ftb, h.gtb, h.nad⟩
  · obtain ⟨x, e, hc⟩ := h.rd hl
    refine ⟨x, e, fun k hk => ?_⟩
    have hb : (x.add k).block ≠ tb := by rw [block_of_add]; exact h.ne x e
    exact (World.cell?_of_block (a := x.add k) (Below.heap_setCell w ⟨tb, j, none⟩ (.bool true) (x.add k).block hb)).trans (hc k hk)
  · rw [← boolB_set f hj]
    exact h.blk.set_ j _
end
theorem lm_write {w0 w : World} {p a b tb : Nat} {ad : Addr} {D : Dk} {F : Nat → Prop} {L : List UInt8} {A : Option Addr} (h : LM w0 w p a b ad D F L A tb D.new) (hL : 0 < L.length) (ko : Nat) (hko : ko ≤ 511) (B : Option Addr) (l : List UInt8) (n c : Nat) (hn : l.length = n) (hnn : n ≤ 300) (hB : RdB w B l) (hBn : ∀ x, B = some x → ¬ F x.block) :
    Calls Try.prog 28 #[ob a, .int .i64 (ko : Int), .slice B n c] w fun e w' => e = .returned (.int .i64 (lasE ko n)) ∧ ∃ F', LM w0 w' p a b ad (lasD D ko l) F' L A tb D.new := by
  refine (las_write h.ls ko hko B l n c hn hnn hB hBn).mono ?_
  rintro e w' ⟨rfl, F', h1, hs⟩
  refine ⟨rfl, F', h.step hL ?_ h1 hs⟩
  unfold lasD
  split <;> exact h.la
/-- behind the marks of a write -/
theorem lm_marked {D : Dk} (h4 : D.nw.length = 4) {ko n : Nat} {l : List UInt8} (hn : l.length = n) (hk : ko + n ≤ 512) : ∀ s, s < 4 → (D.new s || touch ko n s) = (lasD D ko l).new s := fun s hs => by
  unfold lasD
  rw [if_pos (by omega), write_new _ _ _ _ (by omega), hn]

/-- in the first loop -/
def LasR (w0 : World) (p a b : Nat) (ad : Addr) (w : World) : Prop := ∃ D F, LS w0 w p a b ad D F
theorem cut_i (x : Int) (n : Nat) (hn : n ≤ 1048576) : ∃ k : Nat, IntKind.i64.wrap ((IntKind.u64.wrap x).tmod ((n : Int) + 1)) = (k : Int) ∧ wrap64 ((IntKind.u64.wrap x).tmod ((n : Int) + 1)) = (k : Int) ∧ k ≤ n := by
  obtain ⟨k, h1, h2⟩ := cut_mod x n hn
  exact ⟨k, cut_i64 x n k hn h1, h1, h2⟩
theorem LasR.ca {w0 w : World} {p a b : Nat} {ad : Addr} (h : LasR w0 p a b ad w) : w.cell? ad = some (ob a) := by obtain ⟨D, F, h⟩ := h; exact h.ca
theorem LasR.be {w0 w : World} {p a b : Nat} {ad : Addr} (h : LasR w0 p a b ad w) : Below w0.heap.size w0 w := by obtain ⟨D, F, h⟩ := h; exact h.be
theorem LasR.drew {w0 w : World} {p a b : Nat} {ad : Addr} (h : LasR w0 p a b ad w) : LasR w0 p a b ad w.drew := by obtain ⟨D, F, h⟩ := h; exact ⟨D, F, h.below (below_drewN (Below.refl _ _) 1)⟩
theorem lasR_write {w0 w : World} {p a b : Nat} {ad : Addr} (h : LasR w0 p a b ad w) (ko : Nat) (hko : ko ≤ 511) (T : ByteArray) (n : Nat) (hn : T.size = n) (hnn : n ≤ 300) :
    Calls Try.prog 28 #[ob a, .int .i64 (ko : Int), .slice (some ⟨w.heap.size, 0, none⟩) n (convC T w)] (convW T w) fun e w' => (∃ E : Int, e = .returned (.int .i64 E)) ∧ LasR w0 p a b ad w' := by
  obtain ⟨D, F, h⟩ := h
  refine (las_write_conv h ko hko T n hn hnn).mono ?_
  rintro e w' ⟨rfl, F', h1⟩
  exact ⟨⟨_, rfl⟩, _, F', h1⟩
theorem lasR_write_drew {w0 w : World} {p a b : Nat} {ad : Addr} (h : LasR w0 p a b ad w) (ko : Nat) (hko : ko ≤ 511) (T : ByteArray) (n : Nat) (hn : T.size = n) (hnn : n ≤ 300) :
    Calls Try.prog 28 #[ob a, .int .i64 (ko : Int), .slice (some ⟨w.heap.size, 0, none⟩) n (convC T w.drew)] (convW T w.drew) fun e w' => (∃ E : Int, e = .returned (.int .i64 E)) ∧ LasR w0 p a b ad w' :=
  lasR_write h.drew ko hko T n hn hnn
set_option maxRecDepth 100000 in
set_option maxHeartbeats 4000000 in
theorem DiskLasts_walk (A0 : Option Addr) (l0 : List Rec) (c0 : Nat) (A1 : Option Addr) (l1 : List Rec) (c1 : Nat) (A2 : Option Addr) (picks : List Int) (c2 : Nat) (w : World) (hA0 : RdRec 4 w A0 l0) (hl0 : l0.length ≤ maxLen) (hA1 : RdRec 4 w A1 l1) (hl1 : l1.length ≤ maxLen)
    (hA2 : RdZ w A2 picks) (hl2 : picks.length ≤ 17592186044416) (hc2 : picks.length ≤ c2) (hp2 : ∀ x ∈ picks, -9223372036854775808 ≤ x ∧ x ≤ 9223372036854775807) :
    Calls Try.prog 6 #[.slice A0 l0.length c0, .slice A1 l1.length c1, .slice A2 picks.length c2] w fun e w' => e = .returned (.bool true) ∧ Below w.heap.size w w' := by
  unfold maxLen at hl0 hl1
  have HA0 := Lib.hid hA0
  have HA1 := Lib.hid hA1
  have HA2 := Lib.hid hA2
  have HP2 := Lib.hid hp2
  clear hA0 hA1 hA2 hp2
  obtain ⟨m0, hm0⟩ : ∃ m, l0.length = m := ⟨_, rfl⟩
  obtain ⟨m1, hm1⟩ : ∃ m, l1.length = m := ⟨_, rfl⟩
  obtain ⟨m2, hm2⟩ : ∃ m, picks.length = m := ⟨_, rfl⟩
  have HM0 : Hid (l0.length = m0) := Lib.hid hm0
  have HM1 : Hid (l1.length = m1) := Lib.hid hm1
  have HM2 : Hid (picks.length = m2) := Lib.hid hm2
  rw [hm0] at hl0
  rw [hm1] at hl1
  rw [hm2] at hl2 hc2
  rw [hm0, hm1, hm2]
  clear hm0 hm1 hm2
  go_enter Try.func6, Try.ntmps6
  go_wp2_with fail
  refine (known_any w).mono ?_
  rintro e w1 ⟨rfl, hb1⟩
  have HW1 := Lib.hid hb1
  have HB0 := Lib.hid (HA0.out.below hb1)
  have HB1 := Lib.hid (HA1.out.below hb1)
  have HB2 := Lib.hid (HA2.out.below hb1)
  clear hb1 HA0 HA1 HA2
  go_wp2_with fail
  refine (pair_any w1).mono ?_
  intro e w2 hpr
  obtain ⟨p, a, b, ad, cc, F, rfl, hl2', ca, cb, hn2, hge, hlt⟩ := hpr.open_
  have HR : Hid (LasR w1 p a b ad w2) := Lib.hid ⟨Dk.fresh 4, F, ⟨_, hl2'⟩, fresh_ok 4, fresh_size 4, ca, hn2⟩
  clear hl2' hn2 hpr ca cb hge hlt
  go_upto_block 0 with fail
  go_cut [10] from 37 (fun i wx => Hid (LasR w1 p a b ad wx))
  case first =>
    go_wp2_with fail
    go_loopw [10] (fun i wr => ∃ k : Nat, i = .int .i64 (k : Int) ∧ k ≤ 50 ∧ k ≤ m0 ∧ Hid (LasR w1 p a b ad wr)) (fun i _ => 50 - (RowKit.intOf i).toNat)
    case atStart => exact ⟨0, rfl, by omega, by omega, HR⟩
    case round =>
      clear HR
      obtain ⟨k, rfl, hk50, hkm, HR⟩ := hrel
      by_cases hgo : k < m0 ∧ k < 50
      · obtain ⟨hkm2, hk2⟩ := hgo
        obtain ⟨la, rfl, hrec0⟩ := HB0.out k (by rw [HM0.out]; exact hkm2)
        obtain ⟨r, hr⟩ : ∃ r, l0.getD k rec0 = r := ⟨_, rfl⟩
        rw [hr] at hrec0
        obtain ⟨_, _, o2, _, o4, _⟩ := hrec0.ops
        have HG := Lib.hid hrec0.good
        have ca := HR.out.ca
        have q2 := below_cell HR.out.be o2
        have q4 := below_cell HR.out.be o4
        obtain ⟨x2, hx2⟩ : ∃ x, r.at_ 2 = x := ⟨_, rfl⟩
        obtain ⟨s, hs⟩ : ∃ s, r.data = s := ⟨_, rfl⟩
        have HS : Hid (s.size ≤ maxLen) := Lib.hid (by rw [← hs]; exact HG.out.data)
        rw [hx2] at o2 q2
        rw [hs] at o4 q4
        clear hr hrec0 hx2 hs HG
        obtain ⟨ko, hko, _, hko1⟩ := cut_i x2 511 (by omega)
        rw [show ((511 : Nat) : Int) + 1 = 512 from rfl] at hko
        obtain ⟨T, hT⟩ : ∃ T, s.extract 0 (min (s.size : Int) 9).toNat = T := ⟨_, rfl⟩
        obtain ⟨t, ht⟩ : ∃ t, T.size = t := ⟨_, rfl⟩
        have ht9 : t ≤ 9 := by rw [← ht, ← hT]; simp [ByteArray.size_extract]; omega
        have hcv := fun W => conv_run T W
        have hcw := lasR_write_drew HR.out ko hko1 T t ht (by omega)
        have hss := HS.out
        unfold maxLen at hss
        go_upto_region 9 with (fail)
        go_region_held (fun W : World => W.cell? ad = some (ob a) ∧ W.cell? ⟨(la.add (k * 6)).block, (la.add (k * 6)).off + 2, none⟩ = some (.int .i64 x2) ∧ W.cell? ⟨(la.add (k * 6)).block, (la.add (k * 6)).off + 4, none⟩ = some (.string s)) (first | exact ⟨ca, q2, q4⟩ | exact ⟨conv_cell (w := wr.drew) ca, conv_cell (w := wr.drew) q2, conv_cell (w := wr.drew) q4⟩ | exact ⟨LasR.ca hr2, below_cell (LasR.be hr2) o2, below_cell (LasR.be hr2) o4⟩) (first | (refine hcw.mono ?_; rintro e w4 ⟨⟨E4, rfl⟩, hr2⟩))
        have HR2 := Lib.hid hr2
        go_wp2_with fail
        exact ⟨⟨k + 1, int_eq (by omega), by omega, by omega, HR2⟩, by simp [RowKit.intOf]; omega⟩
      · rcases (by omega : (¬ k < m0) ∨ (k < m0 ∧ ¬ k < 50)) with h | ⟨h, h2⟩
        · go_wp2_with fail
          go_meet
          exact HR
        · go_wp2_with fail
          go_meet
          exact HR
  case rest =>
    clear HR
    have HR := hcut
    clear HB0 HR
    obtain ⟨D, F2, hls⟩ := hcut.out
    have ca := hls.ca
    have HL := Lib.hid hls
    clear hcut hls
    go_wp2_with fail
    refine (las_sync HL.out).mono ?_
    rintro e w3 ⟨rfl, F3, hl3, hs3⟩
    have ca3 := hl3.ca
    have HL3 := Lib.hid hl3
    clear hl3 hs3 HL ca
    go_wp2_with fail
    refine (las_read HL3.out).mono ?_
    rintro e w4 ⟨B1, d1, rfl, hown, hlen, hcap, hb⟩
    have hmk := fun W => run_makeBool W
    obtain ⟨E, hE⟩ : ∃ E, D.sync = E := ⟨_, rfl⟩
    obtain ⟨L, hL⟩ : ∃ L, E.rd = L := ⟨_, rfl⟩
    have hEn : ∀ s, E.new s = false := fun s => by rw [← hE]; exact sync_new D s
    have hEl : E.la = L := by rw [← hL, ← hE]; rfl
    have HLL : Hid (L.length = 512) := Lib.hid (by rw [← hL, ← hE]; exact hlen)
    rw [hE] at HL3 hown
    rw [hL] at hown
    have HM : Hid (LM w1 (w4.alloc (.cells (boolB fun _ => false) 4)) p a b ad E F3 L B1 w4.heap.size E.new) := Lib.hid (by
      have h1 := (HL3.out.below hb)
      have hlt : ∀ x, B1 = some x → w3.heap.size ≤ x.block ∧ x.block < w4.heap.size := fun x e => OwnR.lt hown x.block (by rw [e]; rfl)
      refine ⟨h1.below ((Below.refl _ _).alloc (Nat.le_refl _) _), hEl, (OwnB.rd hown).below ((Below.refl _ _).alloc (Nat.le_refl _) _), fun x e => HL3.out.notin (.inr (hlt x e).1), fun x e => by have := (hlt x e).2; omega, ?_, h1.notin (.inr (Nat.le_refl _)), h1.be.size, ?_⟩
      · rw [boolB_congr (f := E.new) (g := fun _ => false) (fun s _ => hEn s)]
        exact Blk.new w4 _ _
      · have := World.block_lt_of_cell? _ _ h1.ca; omega)
    obtain ⟨tb, htb⟩ : ∃ tb, w4.heap.size = tb := ⟨_, rfl⟩
    have HTB : Hid (w4.heap.size = tb) := Lib.hid htb
    rw [htb] at HM
    clear hown hb hE hL hEn hEl htb ca3 HL3
    clear hlen
    go_upto_block 2 with fail
    rw [HTB.out]
    clear hmk
    go_cut [14, 15, 16, 17] from 37 (fun s14 s15 s16 s17 wx => Hid (∃ D F, LM w1 wx p a b ad D F L B1 tb D.new))
    case first =>
      go_wp2_with fail
      go_loopw [14, 15, 16, 17] (fun i s15 s16 s17 wr => ∃ k : Nat, i = .int .i64 (k : Int) ∧ k ≤ 50 ∧ k ≤ m1 ∧ Hid (∃ D F, LM w1 wr p a b ad D F L B1 tb D.new)) (fun i _ _ _ _ => 50 - (RowKit.intOf i).toNat)
      case atStart => exact ⟨0, rfl, by omega, by omega, Lib.hid ⟨_, _, HM.out⟩⟩
      case round =>
        clear HM
        obtain ⟨k, rfl, hk50, hkm, HR⟩ := hrel
        by_cases hgo : k < m1 ∧ k < 50
        · obtain ⟨hkm2, hk2⟩ := hgo
          obtain ⟨D1, F1, hlm⟩ := HR.out
          have HM := Lib.hid hlm
          clear hlm HR
          obtain ⟨la, rfl, hrec0⟩ := HB1.out k (by rw [HM1.out]; exact hkm2)
          obtain ⟨r, hr⟩ : ∃ r, l1.getD k rec0 = r := ⟨_, rfl⟩
          rw [hr] at hrec0
          obtain ⟨_, _, o2, _, o4, _⟩ := hrec0.ops
          have HG := Lib.hid hrec0.good
          have ca := HM.out.ls.ca
          have q2 := below_cell HM.out.ls.be o2
          have q4 := below_cell HM.out.ls.be o4
          obtain ⟨x2, hx2⟩ : ∃ x, r.at_ 2 = x := ⟨_, rfl⟩
          obtain ⟨s, hs⟩ : ∃ s, r.data = s := ⟨_, rfl⟩
          have HS : Hid (s.size ≤ maxLen) := Lib.hid (by rw [← hs]; exact HG.out.data)
          rw [hx2] at o2 q2
          rw [hs] at o4 q4
          clear hr hrec0 hx2 hs HG
          obtain ⟨ko, _, hko, hko1⟩ := cut_i x2 511 (by omega)
          rw [show ((511 : Nat) : Int) + 1 = 512 from rfl] at hko
          obtain ⟨T, hT⟩ : ∃ T, s.extract 0 (min (s.size : Int) 300).toNat = T := ⟨_, rfl⟩
          obtain ⟨t, ht⟩ : ∃ t, T.size = t := ⟨_, rfl⟩
          have ht9 : t ≤ 300 := by rw [← ht, ← hT]; simp [ByteArray.size_extract]; omega
          have hcv := fun W => conv_run T W
          have hss := HS.out
          unfold maxLen at hss
          go_upto_region 17 with (fail)
          go_region_held (fun W : World => W.cell? ⟨(la.add (k * 6)).block, (la.add (k * 6)).off + 4, none⟩ = some (.string s)) (first | exact q4 | exact conv_cell (w := wr.drew) q4) (first | fail)
          have HL5 := Lib.hid (HM.out.below ((Below.refl _ _).drew.trans (conv_below T wr.drew)))
          have HR5 : Hid (RdB (convW T wr.drew) (some ⟨wr.heap.size, 0, none⟩) T.data.toList ∧ ∀ x, (some ⟨wr.heap.size, 0, none⟩ : Option Addr) = some x → ¬ F1 x.block) := Lib.hid ⟨(conv_own T wr.drew (by omega)).rd, fun x e => by cases e; exact HM.out.ls.notin (.inr (Nat.le_refl _))⟩
          have HTN : Hid (T.data.toList.length = t) := Lib.hid (by rw [str_len]; exact ht)
          have ca5 : (convW T wr.drew).cell? ad = some (ob a) := conv_cell (w := wr.drew) ca
          have q25 : (convW T wr.drew).cell? ⟨(la.add (k * 6)).block, (la.add (k * 6)).off + 2, none⟩ = some (.int .i64 x2) := conv_cell (w := wr.drew) q2
          obtain ⟨w5, hw5⟩ : ∃ w5, convW T wr.drew = w5 := ⟨_, rfl⟩
          obtain ⟨d5, hd5⟩ : ∃ d, convC T wr.drew = d := ⟨_, rfl⟩
          rw [hw5] at HL5 HR5 ca5 q25 ⊢
          rw [hd5]
          clear hw5 hd5 hcv ht hT hss o2 o4 q2 q4 ca
          go_wp2_with fail
          refine (lm_write HL5.out (by rw [HLL.out]; omega) ko hko1 _ T.data.toList t d5 HTN.out ht9 HR5.out.1 HR5.out.2).mono ?_
          rintro e w6 ⟨rfl, F6, hlm6⟩
          have HL6 := Lib.hid hlm6
          clear hlm6 ca5 q25
          by_cases hfit : ko + t ≤ 512
          · rw [show lasE ko t = 0 from if_pos hfit]
            go_wp2_with fail
            go_loopw [17] (fun s17 wz => ∃ j : Nat, s17 = .int .i64 ((ko : Int) + (j : Int)) ∧ j ≤ t ∧ Hid (LM w1 wz p a b ad (lasD D1 ko T.data.toList) F6 L B1 tb (fun s => D1.new s || touch ko j s))) (fun s _ => 1024 - (RowKit.intOf s).toNat)
            case atStart => exact ⟨0, int_eq (by omega), by omega, Lib.hid (HL6.out.congr fun s _ => by rw [touch_zero, Bool.or_false])⟩
            case round =>
              obtain ⟨j, rfl, hj, HJ⟩ := hrel
              by_cases hjt : j < t
              · have hcell := HJ.out.blk.cell ((ko + j) / 128)
                rw [boolB_get _ (by omega)] at hcell
                have hfz := HJ.out.blk.frozen ((ko + j) / 128)
                go_wp2_with fail
                exact ⟨⟨j + 1, int_eq (by omega), by omega, Lib.hid ((HJ.out.set_ (j := (ko + j) / 128) (by omega)).congr fun s _ => by rw [touch_succ, Bool.or_assoc])⟩, by simp [RowKit.intOf]; omega⟩
              · go_wp2_with fail
                obtain rfl : j = t := by omega
                exact ⟨⟨k + 1, int_eq (by omega), by omega, by omega, Lib.hid ⟨_, _, HJ.out.congr (lm_marked HL5.out.ls.four HTN.out hfit)⟩⟩, by simp [RowKit.intOf]; omega⟩
          · rw [show lasE ko t = 1 from if_neg hfit]
            have hun : lasD D1 ko T.data.toList = D1 := if_neg (by rw [HTN.out]; exact hfit)
            rw [hun] at HL6
            go_wp2_with fail
            exact ⟨⟨k + 1, int_eq (by omega), by omega, by omega, Lib.hid ⟨_, _, HL6.out⟩⟩, by simp [RowKit.intOf]; omega⟩
        · rcases (by omega : (¬ k < m1) ∨ (k < m1 ∧ ¬ k < 50)) with h | ⟨h, h2⟩
          · go_wp2_with fail
            go_meet
            exact HR
          · go_wp2_with fail
            go_meet
            exact HR
    case rest =>
      clear HM HTB HB1
      obtain ⟨D1, F1, hlm⟩ := hcut.out
      have ca := hlm.ls.ca
      have HM := Lib.hid hlm
      clear hcut hlm
      go_wp2_with fail
      refine (las_read HM.out.ls).mono ?_
      rintro e w5 ⟨B3, d3, rfl, hown3, hlen3, hcap3, hb3⟩
      have HM5 := Lib.hid (HM.out.below hb3)
      have HO3 : Hid (RdB w5 B3 D1.rd ∧ ∀ x, B3 = some x → ¬ F1 x.block) := Lib.hid ⟨OwnB.rd hown3, fun x e => HM.out.ls.notin (.inr (OwnR.lt hown3 x.block (by rw [e]; rfl)).1)⟩
      have ca5 := below_cell hb3 ca
      have HP5 := Lib.hid (HB2.out.below HM5.out.ls.be)
      clear hown3 hb3 HM ca
      go_wp2_with (at_builtin; refine wpList_appZd (.inl rfl) (.tmp 146) (.tmp 147) rfl w5.heap.size _ 0 0 [] rfl rfl (ownz_empty w5 (Nat.le_refl _)) A2 m2 c2 picks rfl HM2.out.symm (HP5.out.below ((Below.refl _ _).alloc (Nat.le_refl _) _)) (by simp; rw [HM2.out]; omega) (by simp) ?_; (intro A6 c6 w6 hown6 hg6 hat6))
      obtain ⟨P6, hP6⟩ : ∃ P, [] ++ picks = P := ⟨_, rfl⟩
      have hbe6 : Below w5.heap.size w5 w6 := ((Below.refl _ _).alloc (Nat.le_refl _) _).grown hg6 (by simp) (fun k hk => by simp [blk] at hk; omega)
      have hA6 : ∀ x, A6 = some x → w5.heap.size ≤ x.block := fun x e => (OwnR.lt hown6 x.block (by rw [e]; rfl)).1
      have HK : Hid (PickAt w6 F1 picks 0 (.slice A6 picks.length c6)) := Lib.hid (pick_lit (by have := OwnZ.rd hown6; simpa using this) (by have := OwnR.cap hown6; simpa using this) (OwnR.capm hown6) (fun x e => HM5.out.ls.notin (.inr (hA6 x e))))
      have HM6 := Lib.hid (HM5.out.below hbe6)
      have HO6 : Hid (RdB w6 B3 D1.rd) := Lib.hid (HO3.out.1.below hbe6)
      have ca6 := below_cell hbe6 ca5
      clear hown6 hg6 hat6 hbe6 hA6 HM5 ca5 HP5
      refine (las_crash HM6.out.ls picks _ HK.out HP2.out).mono ?_
      rintro e w7 ⟨rfl, F7, hl7, hs7⟩
      have HM7 : Hid (LS w1 w7 p a b ad (D1.crash picks 0) F7 ∧ D1.Ok ∧ D1.nw.length = 4 ∧ D1.la = L) := Lib.hid ⟨hl7, HM6.out.ls.2.1, HM6.out.ls.four, HM6.out.la⟩
      have ca7 := hl7.ca
      have HR7 : Hid (RdB w7 B1 L ∧ RdB w7 B3 D1.rd ∧ Blk w7 tb 4 (boolB D1.new)) := Lib.hid ⟨HM6.out.rd.step hs7 HM6.out.far, HO6.out.step hs7 HO3.out.2, HM6.out.blk.step hs7 HM6.out.ftb⟩
      clear hl7 hs7 HM6 HO6 HO3 HK ca6
      go_wp2_with fail
      refine (las_read HM7.out.1).mono ?_
      rintro e w8 ⟨B5, d5, rfl, hown5, hlen5, hcap5, hb5⟩
      have HR8 : Hid (RdB w8 B1 L ∧ RdB w8 B3 D1.rd ∧ RdB w8 B5 (D1.crashed picks 0) ∧ Blk w8 tb 4 (boolB D1.new) ∧ RdZ w8 A2 picks) :=
        Lib.hid ⟨HR7.out.1.below hb5, HR7.out.2.1.below hb5, OwnB.rd hown5, HR7.out.2.2.below_ hb5, HB2.out.below (HM7.out.1.be.trans (hb5.mono HM7.out.1.be.size))⟩
      have HEND : Hid (Below w.heap.size w w8) := Lib.hid (HW1.out.trans ((HM7.out.1.be.trans (hb5.mono HM7.out.1.be.size)).mono HW1.out.size))
      clear hown5 hb5 HR7 hlen5 ca7
      obtain ⟨x1, rfl, _⟩ := HR8.out.1 (by rw [HLL.out]; omega)
      obtain ⟨x3, rfl, _⟩ := HR8.out.2.1 (by rw [hlen3]; omega)
      obtain ⟨x5, rfl, _⟩ := HR8.out.2.2.1 (by rw [crashed_length HM7.out.2.1, HM7.out.2.2.1]; omega)
      go_wp2_with fail
      go_loopw [22, 23, 24, 25, 26, 27] (fun s22 s23 s24 s25 s26 s27 wr => ∃ s : Nat, s22 = .int .i64 (D1.cnt s : Int) ∧ s23 = .int .i64 (s : Int) ∧ s ≤ 4 ∧ Hid (Below w8.heap.size w8 wr)) (fun _ s _ _ _ _ _ => 4 - (RowKit.intOf s).toNat)
      case atStart => exact ⟨0, rfl, rfl, by omega, Lib.hid (Below.refl _ _)⟩
      case round =>
        obtain ⟨s, rfl, rfl, hs4, HB⟩ := hrel
        by_cases hs : s < 4
        · have hr1 := RdB.cut (HR8.out.1.below HB.out) (128 * s) 128 (by rw [HLL.out]; omega)
          have hr3 := RdB.cut (HR8.out.2.1.below HB.out) (128 * s) 128 (by rw [hlen3]; omega)
          have hr5 := RdB.cut (HR8.out.2.2.1.below HB.out) (128 * s) 128 (by rw [crashed_length HM7.out.2.1, HM7.out.2.2.1]; omega)
          have hc1 := fun cap => run_str (n := 128) cap hr1.drew (by simp [HLL.out]; omega)
          have hc3 := fun cap => run_str (n := 128) cap hr3.drew (by simp [hlen3]; omega)
          have hc5 := fun cap => run_str (n := 128) cap hr5.drew (by simp [crashed_length HM7.out.2.1, HM7.out.2.2.1]; omega)
          obtain ⟨lo, hlo⟩ : ∃ lo, 128 * s = lo := ⟨_, rfl⟩
          obtain ⟨hi, hhi⟩ : ∃ hi, lo + 128 = hi := ⟨_, rfl⟩
          have hi1 : IntKind.i64.wrap ((s : Int) * 128) = (lo : Int) := by rw [IntWalk.i64_in _ (by omega)]; omega
          have hi2 : IntKind.i64.wrap ((lo : Int) + 128) = (hi : Int) := by rw [IntWalk.i64_in _ (by omega)]; omega
          have b0 : lo ≤ hi := by omega
          have b1 : hi ≤ d1 := by omega
          have b3 : hi ≤ d3 := by omega
          have b5 : hi ≤ d5 := by omega
          have b6 : hi - lo = 128 := by omega
          rw [hlo] at hc1 hc3 hc5
          go_upto_region 33 with (fail)
          have ht := (HR8.out.2.2.2.1.below_ HB.out).cell s
          rw [boolB_get _ hs] at ht
          go_cut [24, 25, 26] from 167 to 217 (fun s24 s25 s26 wx => s24 = .string ⟨(List.take 128 (List.drop lo L)).toArray⟩ ∧ s25 = .string ⟨(List.take 128 (List.drop lo D1.rd)).toArray⟩ ∧ s26 = .string ⟨(List.take 128 (List.drop lo (D1.crashed picks 0))).toArray⟩ ∧ wx = wr.drew)
          case first =>
            go_region_held (fun W : World => W.cell? ⟨tb, s, none⟩ = some (.bool (D1.new s))) (first | exact ht) (first | fail)
            all_goals (go_wp2_with fail; go_meet; exact ⟨rfl, rfl, rfl, rfl⟩)
          case rest =>
            obtain ⟨rfl, rfl, rfl, rfl⟩ := hcut
            clear hc1 hc3 hc5 hr1 hr3 hr5 hi1 hi2 b0 b1 b3 b5 b6 hhi
            have hsec := las_sec HM7.out.2.1 picks (s := s) (by rw [HM7.out.2.2.1]; exact hs)
            rw [HM7.out.2.2.2] at hsec
            unfold sec at hsec
            rw [hlo] at hsec
            have HCS : Hid (D1.cnt (s + 1) = D1.cnt s + (if D1.new s then 1 else 0)) := Lib.hid (cnt_succ D1 s (by rw [HM7.out.2.2.1]; exact hs))
            have hcs4 : D1.cnt s ≤ 4 := by
              have := cnt_mono D1 (s := s) (t := D1.nw.length) (by rw [HM7.out.2.2.1]; omega) (Nat.le_refl _)
              have h2 : D1.cnt D1.nw.length ≤ D1.nw.length := by unfold Dk.cnt; rw [List.take_length]; exact List.count_le_length
              rw [HM7.out.2.2.1] at h2 this; omega
            obtain ⟨lx, hlx⟩ : ∃ l, List.take 128 (List.drop lo L) = l := ⟨_, rfl⟩
            obtain ⟨ly, hly⟩ : ∃ l, List.take 128 (List.drop lo D1.rd) = l := ⟨_, rfl⟩
            obtain ⟨lz, hlz⟩ : ∃ l, List.take 128 (List.drop lo (D1.crashed picks 0)) = l := ⟨_, rfl⟩
            rw [hlx, hly, hlz] at hsec
            rw [hlx, hly, hlz]
            have HSEC := Lib.hid hsec
            have HB' : Hid (Below w8.heap.size w8 wr.drew) := Lib.hid HB.out.drew
            have htd : wr.drew.cell? ⟨tb, s, none⟩ = some (.bool (D1.new s)) := ht
            obtain ⟨cn, hcn⟩ : ∃ n, D1.cnt s = n := ⟨_, rfl⟩
            have HCN : Hid (D1.cnt s = cn) := Lib.hid hcn
            rw [hcn] at hcs4
            rw [hcn]
            clear hsec hlx hly hlz hcn ht hlo
            cases hnew : D1.new s
            · rw [hnew] at htd
              have hzx : lz = lx := by rw [HSEC.out, hnew]; simp
              rw [hzx]
              go_wp2_with fail
              exact ⟨⟨s + 1, int_eq (by rw [HCS.out, hnew, HCN.out]; simp), int_eq (by omega), by omega, HB'⟩, by simp [RowKit.intOf]; omega⟩
            · rw [hnew] at htd
              by_cases hat : cn < m2
              · obtain ⟨xp, rfl, hcp⟩ := RdZ.at_ (HR8.out.2.2.2.2) (k := cn) (by rw [HM2.out]; exact hat)
                have hcp' : wr.drew.cell? (xp.add cn) = some (.int .i64 (picks.getD cn 0)) := below_cell HB'.out hcp
                obtain ⟨pv, hpv⟩ : ∃ v, picks.getD cn 0 = v := ⟨_, rfl⟩
                have HPV : Hid (picks.getD cn 0 = pv) := Lib.hid hpv
                rw [hpv] at hcp'
                clear hcp hpv
                by_cases hodd : pv.tmod 2 = 0
                · have hzx : lz = lx := by rw [HSEC.out, if_neg]; rintro ⟨_, h⟩; unfold oddAt at h; simp only [decide_eq_true_eq] at h; rw [HCN.out, HPV.out] at h; exact h.2 (tmod_two.1 hodd)
                  have hb1 : (pv.tmod 2 != 0) = false := by simp [hodd]
                  rw [hzx]
                  go_wp2_with fail
                  exact ⟨⟨s + 1, int_eq (by rw [HCS.out, hnew, HCN.out]; simp), int_eq (by omega), by omega, HB'⟩, by simp [RowKit.intOf]; omega⟩
                · have hzx : lz = ly := by rw [HSEC.out, if_pos]; refine ⟨hnew, ?_⟩; unfold oddAt; simp only [decide_eq_true_eq]; rw [HCN.out, HPV.out, HM2.out]; exact ⟨hat, fun h => hodd (tmod_two.2 h)⟩
                  have hb1 : (pv.tmod 2 != 0) = true := by simp [hodd]
                  rw [hzx]
                  go_wp2_with fail
                  exact ⟨⟨s + 1, int_eq (by rw [HCS.out, hnew, HCN.out]; simp), int_eq (by omega), by omega, HB'⟩, by simp [RowKit.intOf]; omega⟩
              · have hzx : lz = lx := by rw [HSEC.out, if_neg]; rintro ⟨_, h⟩; unfold oddAt at h; simp only [decide_eq_true_eq] at h; rw [HCN.out, HM2.out] at h; exact hat h.1
                rw [hzx]
                go_wp2_with fail
                exact ⟨⟨s + 1, int_eq (by rw [HCS.out, hnew, HCN.out]; simp), int_eq (by omega), by omega, HB'⟩, by simp [RowKit.intOf]; omega⟩
        · go_wp2_with fail
          go_ret
          exact ⟨by simp, HEND.out.trans (HB.out.mono HEND.out.size)⟩
end Go.Proofs.Ytoompglghjpapaa
