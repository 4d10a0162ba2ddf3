/-
  The program's journal in memory; walks: Gen, Waiting, Room, Cancel, Append.
-/
import Derived.Test.YtjmhfjioccljeaaJrE
namespace Go.Proofs.Ytjmhfjioccljeaa
open Go.RowKit
set_option linter.unusedVariables false
set_option linter.unusedSimpArgs false
attribute [local go_sem ↓] Go.wp_at_zero Go.wp_at_succ

/-- a journal of the program's in memory -/
structure JrAt (w : World) (j d : Nat) (J : Js) (A : Option Addr) (c : Nat) (B : Option Addr) (cB : Nat) : Prop where
  self : Blk w j 108 #[ob d, .int .i64 (J.first : Int), .int .i64 (J.sectors : Int), .int .i64 (J.gen : Int), .slice A J.stream.length c, .slice B J.wait.length cB, .int .i64 (J.waiting : Int)]
  st : RdB w A J.stream
  cap : J.stream.length ≤ c
  lt : ∀ b, blk A = some b → b < w.heap.size
  wt : OwnB w 0 B cB J.wait
  nj : blk A ≠ some j
  apart : ∀ b, blk A = some b → blk B ≠ some b
def jrF (j : Nat) (A B : Option Addr) (i : Nat) : Prop := i = j ∨ blk A = some i ∨ blk B = some i
def JrR (w : World) (j d : Nat) (J : Js) (G : Nat → Prop) : Prop := ∃ A c B cB, JrAt w j d J A c B cB ∧ G = jrF j A B
section
variable {w w' : World} {j d c cB : Nat} {J : Js} {A B : Option Addr} {G : Nat → Prop}
theorem JrAt.nb (h : JrAt w j d J A c B cB) : blk B ≠ some j := fun e => own_blk_ne (w := w) h.wt h.self (by decide) (by rw [ownBlock_slice]; exact e)
theorem JrAt.lt_ (h : JrAt w j d J A c B cB) : Lt (jrF j A B) w.heap.size := fun i hi => by
  rcases hi with rfl | hi | hi
  · exact h.self.lt
  · exact h.lt i hi
  · exact (OwnR.lt h.wt i hi).2
theorem JrAt.keep (h : JrAt w j d J A c B cB) (hs : Same (jrF j A B) w w') (hsz : w.heap.size ≤ w'.heap.size) : JrAt w' j d J A c B cB :=
  ⟨h.self.same hs (.inl rfl), h.st.keep fun ad e => hs _ (.inr (.inl (by rw [e]; rfl))), h.cap, fun b hb => Nat.lt_of_lt_of_le (h.lt b hb) hsz, OwnR.block h.wt fun k hk => hs k (.inr (.inr hk)), h.nj, h.apart⟩
theorem JrR.lt (h : JrR w j d J G) : Lt G w.heap.size := by obtain ⟨A, c, B, cB, h, rfl⟩ := h; exact h.lt_
theorem JrR.keep (h : JrR w j d J G) (hs : Same G w w') (hsz : w.heap.size ≤ w'.heap.size) : JrR w' j d J G := by
  obtain ⟨A, c, B, cB, h, rfl⟩ := h
  exact ⟨A, c, B, cB, h.keep hs hsz, rfl⟩
theorem JrR.below (h : JrR w j d J G) (hb : Below w.heap.size w w') : JrR w' j d J G := h.keep (Same.of_below hb h.lt) hb.size
theorem JrR.step {F F' : Nat → Prop} (h : JrR w j d J G) (hs : Step F F' w w') (hd : Dis F G) : JrR w' j d J G := h.keep (hs.same hd h.lt) hs.size
theorem JrAt.cells (h : JrAt w j d J A c B cB) : w.cell? ⟨j, 0, none⟩ = some (ob d) ∧ w.cell? ⟨j, 1, none⟩ = some (.int .i64 (J.first : Int)) ∧ w.cell? ⟨j, 2, none⟩ = some (.int .i64 (J.sectors : Int)) ∧ w.cell? ⟨j, 3, none⟩ = some (.int .i64 (J.gen : Int)) ∧
    w.cell? ⟨j, 4, none⟩ = some (.slice A J.stream.length c) ∧ w.cell? ⟨j, 5, none⟩ = some (.slice B J.wait.length cB) ∧ w.cell? ⟨j, 6, none⟩ = some (.int .i64 (J.waiting : Int)) :=
  ⟨h.self.cell 0, h.self.cell 1, h.self.cell 2, h.self.cell 3, h.self.cell 4, h.self.cell 5, h.self.cell 6⟩
/-- what is kept of a world that only drew -/
def DrewSpec (v : Value) (w : World) (e : Ending) (w' : World) : Prop := e = .returned v ∧ Below w.heap.size w w'
theorem jgen_any (h : JrR w j d J G) : Calls Try.prog 24 #[ob j] w fun e w' => e = .returned (.int .i64 (J.gen : Int)) ∧ w = w' := by
  obtain ⟨A, c, B, cB, h, rfl⟩ := h
  obtain ⟨c0, c1, c2, c3, c4, c5, c6⟩ := h.cells
  clear h c0 c1 c2 c4 c5 c6
  go_enter Try.func24, Try.ntmps24
  go_wp2_with fail
  go_ret
  exact ⟨rfl, rfl⟩
theorem jwaiting_any (h : JrR w j d J G) : Calls Try.prog 29 #[ob j] w fun e w' => e = .returned (.int .i64 (J.waiting : Int)) ∧ w = w' := by
  obtain ⟨A, c, B, cB, h, rfl⟩ := h
  obtain ⟨c0, c1, c2, c3, c4, c5, c6⟩ := h.cells
  clear h c0 c1 c2 c3 c4 c5
  go_enter Try.func29, Try.ntmps29
  go_wp2_with fail
  go_ret
  exact ⟨rfl, rfl⟩
theorem jroom_any {size : Nat} (hO : J.Ok size) (h : JrR w j d J G) : Calls Try.prog 28 #[ob j] w fun e w' => DrewSpec (.int .i64 J.room) w e w' := by
  obtain ⟨A, c, B, cB, h, rfl⟩ := h
  obtain ⟨c0, c1, c2, c3, c4, c5, c6⟩ := h.cells
  have h1 := hO.secM
  have h2 := hO.fill
  have h3 := hO.size
  obtain ⟨R, hR⟩ : ∃ R, J.room = R := ⟨_, rfl⟩
  have HR : Hid (max (119 * (J.sectors : Int) - J.stream.length - J.wait.length - 4) (-1) = R) := Lib.hid hR
  rw [hR]
  generalize J.stream.length = a at *
  generalize J.wait.length = b at *
  generalize J.sectors = m at *
  clear h c0 c1 c3 c6 hR hO
  go_enter Try.func28, Try.ntmps28
  go_wp2_with fail
  go_quiet (fail)
  go_wp2_with fail
  go_ret
  refine ⟨?_, below_drewN (Below.refl _ _) _⟩
  rw [HR.out]; rfl
theorem Step.of_one {F : Nat → Prop} {j : Nat} {w w' : World} (h : Step (one j) (one j) w w') (hj : F j) : Step F F w w' :=
  h.wide (fun i e => by rw [show i = j from e]; exact hj) (fun i hi => .inr hi)
theorem Blk.lit {w : World} {g : Nat} {t : TypeId} {cs cs' : Array Value} (h : Blk w g t cs) (e : cs = cs') : Blk w g t cs' := e ▸ h
theorem OwnB.far_ {w : World} {base c g : Nat} {A : Option Addr} {l : List UInt8} (h : OwnB w base A c l) (hn : blk A ≠ some g) (k : Nat) (v : Value) : OwnB (w.setCell ⟨g, k, none⟩ v) base A c l := OwnR.far h (p := ⟨g, k, none⟩) hn v
def J0Spec (j d : Nat) (J : Js) (G : Nat → Prop) (w : World) (e : Ending) (w' : World) : Prop := e = .returned (.tuple #[]) ∧ ∃ G', JrR w' j d J G' ∧ Step G G' w w'
theorem jcancel_any (h : JrR w j d J G) : Calls Try.prog 20 #[ob j] w fun e w' => J0Spec j d J.cancel G w e w' := by
  obtain ⟨A, c, B, cB, h, rfl⟩ := h
  obtain ⟨c0, c1, c2, c3, c4, c5, c6⟩ := h.cells
  have f5 := h.self.frozen 5
  have f6 := h.self.frozen 6
  have H := Lib.hid h
  clear h c0 c1 c2 c3 c4
  go_enter Try.func20, Try.ntmps20
  go_wp2_with fail
  go_returns
  have hst : Step (one j) (one j) w ((w.setCell ⟨j, 5, none⟩ (.slice none 0 0)).setCell ⟨j, 6, none⟩ (.int .i64 0)) := Step.setCell (a := ⟨j, 6, none⟩) (Step.setCell (a := ⟨j, 5, none⟩) (Step.refl (one j) _) (.inl rfl) _) (.inl rfl) _
  have hb := (H.out.self.set_ 5 (.slice none 0 0)).set_ 6 (.int .i64 0)
  have hother : ∀ i, i ≠ j → i < w.heap.size → ((w.setCell ⟨j, 5, none⟩ (.slice none 0 0)).setCell ⟨j, 6, none⟩ (.int .i64 0)).heap[i]? = w.heap[i]? := fun i hi hl => hst.block i hl hi
  refine ⟨rfl, jrF j A none, ⟨A, c, none, 0, ⟨hb, H.out.st.keep fun ad e => ?_, H.out.cap, fun b hb => Nat.lt_of_lt_of_le (H.out.lt b hb) hst.size, OwnB.nil _ _, H.out.nj, fun b _ e => by cases e⟩, rfl⟩, ?_⟩
  · by_cases hl : ad.block < w.heap.size
    · exact hother _ (fun e2 => H.out.nj (by rw [e]; exact congrArg some e2)) hl
    · exact absurd (H.out.lt ad.block (by rw [e]; rfl)) hl
  · exact (Step.of_one hst (.inl rfl)).regroup fun i hi => .inl (by
      rcases hi with hi | hi | hi
      · exact .inl hi
      · exact .inr (.inl hi)
      · cases hi)
def JSpec (j d : Nat) (J : Js) (E : Int) (G : Nat → Prop) (w : World) (e : Ending) (w' : World) : Prop := e = .returned (.int .i64 E) ∧ ∃ G', JrR w' j d J G' ∧ Step G G' w w'
set_option maxRecDepth 100000 in
set_option maxHeartbeats 1000000 in
theorem jappend_any {size : Nat} (hO : J.Ok size) (h : JrR w j d J G) (s : ByteArray) (hs : s.size ≤ 9223372036854775807) :
    Calls Try.prog 14 #[ob j, .string s] w fun e w' => JSpec j d (J.app s.data.toList) (J.appE s.data.toList) G w e w' := by
  have HROOM := Lib.hid (jroom_any hO h)
  have hG := Lib.hid h
  obtain ⟨A, c, B, cB, h, rfl⟩ := h
  obtain ⟨c0, c1, c2, c3, c4, c5, c6⟩ := h.cells
  have h1 := hO.secM
  have h2 := hO.fill
  have h3 := hO.few
  have h5 := hO.sec2
  have hlen : s.data.toList.length = s.size := str_len s
  have hE : J.appE s.data.toList = if (s.size : Int) > 119 * (J.sectors : Int) - 4 then 14 else if (s.size : Int) > J.room then 15 else 0 := by unfold Js.appE; rw [hlen]
  by_cases hbig : (s.size : Int) > 119 * (J.sectors : Int) - 4
  · rw [if_pos hbig] at hE
    have hA : J.app s.data.toList = J := by unfold Js.app; rw [hE, if_neg (by decide)]
    rw [hE, hA]
    clear hA hE h c0 c1 c3 c4 c5 c6 HROOM hO hlen
    go_enter Try.func14, Try.ntmps14
    go_wp2_with fail
    go_returns
    exact ⟨rfl, _, hG.out, Step.refl _ _⟩
  · rw [if_neg hbig] at hE
    by_cases hful : (s.size : Int) > J.room
    · rw [if_pos hful] at hE
      have hA : J.app s.data.toList = J := by unfold Js.app; rw [hE, if_neg (by decide)]
      rw [hE, hA]
      clear hA hE h c0 c1 c3 c4 c5 c6 hO hlen
      go_enter Try.func14, Try.ntmps14
      go_wp2_with fail
      refine HROOM.out.mono ?_
      rintro e w1 ⟨rfl, hb1⟩
      go_wp2_with fail
      go_returns
      exact ⟨rfl, _, hG.out.below hb1, Step.of_below hb1 _⟩
    · rw [if_neg hful] at hE
      have hrm : (s.size : Int) ≤ J.room := by omega
      have hfill : J.stream.length + J.wait.length + 4 + s.size ≤ 119 * J.sectors := by unfold Js.room at hrm; omega
      have hA : J.app s.data.toList = ⟨J.first, J.sectors, J.gen, J.stream, J.wait ++ (beN s.size 4 ++ s.data.toList), J.waiting + 1⟩ := by unfold Js.app; rw [hE, if_pos rfl, hlen]
      rw [hE, hA]
      have HNUM : Hid (∀ w1, OwnB w1 0 B cB J.wait → Calls Try.prog 65 #[.slice B J.wait.length cB, .int .u64 (s.size : Int), .int .i64 4] w1 fun e w' => NumSpec 0 B J.wait s.size 4 w1 e w') :=
        Lib.hid (fun w1 hw1 => number_any w1 0 B cB J.wait s.size 4 J.wait.length rfl (by omega) (by omega) (by omega) (by omega) hw1 (Nat.zero_le _))
      have hwt : J.waiting ≤ 300000 := by omega
      have H := Lib.hid h
      have HF := Lib.hid hfill
      have hm2 : (s.size : Int) ≤ 300000 := by omega
      obtain ⟨wl, hwl⟩ : ∃ wl, J.wait.length = wl := ⟨_, rfl⟩
      have hwl2 : wl ≤ 300000 := by omega
      have HWL := Lib.hid hwl
      rw [hwl] at HNUM c5
      clear hA hE h c0 c1 c3 c4 hO hlen hfill hwl
      go_enter Try.func14, Try.ntmps14
      go_wp2_with fail
      refine HROOM.out.mono ?_
      rintro e w1 ⟨rfl, hb1⟩
      have HB1 := Lib.hid hb1
      have c5w := below_cell hb1 c5
      clear hb1
      go_wp2_with fail
      refine (HNUM.out _ (H.out.wt.below HB1.out)).mono ?_
      rintro e w2 ⟨A2, c2', rfl, hown2, hg2, hat2⟩
      have HO2 := Lib.hid hown2
      have HG2 := Lib.hid hg2
      have HA2 := Lib.hid hat2
      have HL2 : Hid (wl + 4 = (J.wait ++ beN s.size 4).length) := Lib.hid (by rw [List.length_append, beN_length, HWL.out])
      clear hown2 hg2 hat2
      have HBK2 : Hid (Blk w2 j 108 #[ob d, .int .i64 (J.first : Int), .int .i64 (J.sectors : Int), .int .i64 (J.gen : Int), .slice A J.stream.length c, .slice B J.wait.length cB, .int .i64 (J.waiting : Int)]) :=
        Lib.hid ((H.out.self.below_ HB1.out).grown HG2.out (Ne.symm H.out.nb))
      have HNJ2 : Hid (blk A2 ≠ some j) := Lib.hid (fun e => by
        rcases HA2.out with e2 | ⟨k, e2, hk⟩
        · exact H.out.nb (by rw [← e2]; exact e)
        · rw [e] at e2
          have h8 : j = k := by simpa using e2
          have h9 := H.out.self.lt
          have h10 := HB1.out.size
          omega)
      rw [HWL.out]
      go_wp2_with (at_builtin; go_must (refine wpList_appS rfl (.tmp 32) (.tmp 33) rfl 0 A2 (wl + 4) c2' (J.wait ++ beN s.size 4) rfl HL2.out HO2.out s rfl (by rw [← HL2.out]; omega) (Nat.zero_le _) ?_); (intro A3 c3' w3 hown3 hg3 hat3; have hbk3 := HBK2.out.grown hg3 (Ne.symm HNJ2.out); have f5 := hbk3.frozen 5; have f6 := hbk3.frozen 6; have d6 := hbk3.cell 6; have HBK3 := Lib.hid hbk3; have d5 : w3.cell? ⟨j, 5, none⟩ = some (.slice B J.wait.length cB) := hbk3.cell 5; clear hbk3))
      go_returns
      have hst : Step (one j) (one j) w3 ((w3.setCell ⟨j, 5, none⟩ (.slice A3 (wl + 4 + s.size) c3')).setCell ⟨j, 6, none⟩ (.int .i64 ((J.waiting : Int) + 1))) := Step.setCell (a := ⟨j, 6, none⟩) (Step.setCell (a := ⟨j, 5, none⟩) (Step.refl (one j) _) (.inl rfl) _) (.inl rfl) _
      have hb := (HBK3.out.set_ 5 (.slice A3 (wl + 4 + s.size) c3')).set_ 6 (.int .i64 ((J.waiting : Int) + 1))
      have hlw : wl + 4 + s.size = (J.wait ++ (beN s.size 4 ++ s.data.toList)).length := by rw [List.length_append, List.length_append, beN_length, HWL.out, str_len]; omega
      have hb2 : w.heap.size ≤ w2.heap.size := Nat.le_trans HB1.out.size HG2.out.size
      have hat2 : blk A2 = blk B ∨ ∃ k, blk A2 = some k ∧ w.heap.size ≤ k := by
        rcases HA2.out with e | ⟨k, e, hk⟩
        · exact .inl e
        · exact .inr ⟨k, e, Nat.le_trans HB1.out.size hk⟩
      have hat3' : blk A3 = blk B ∨ ∃ k, blk A3 = some k ∧ w.heap.size ≤ k := by
        rcases hat3 with e | e
        · rw [e]; exact hat2
        · exact .inr ⟨_, e, hb2⟩
      have hnj3 : blk A3 ≠ some j := fun e => by
        rcases hat3' with e2 | ⟨k, e2, hk⟩
        · exact H.out.nb (by rw [← e2]; exact e)
        · rw [e] at e2
          have h8 : j = k := by simpa using e2
          have h9 := H.out.self.lt
          omega
      have hst2 : Step (jrF j A B) (jrF j A B) w w3 :=
        ((Step.of_below HB1.out _).grown HG2.out (fun k hk => .inl (.inr (.inr hk)))).grown hg3 (fun k hk => by
          rcases hat2 with e | ⟨k', e, hk'⟩
          · exact .inl (.inr (.inr (by rw [← e]; exact hk)))
          · rw [hk] at e
            have : k = k' := by simpa using e
            exact .inr (by omega))
      have hA3 : ∀ b, blk A = some b → w3.heap[b]? = w.heap[b]? := fun b hb => by
        have hl := H.out.lt b hb
        have hl1 := HB1.out.size
        refine (hg3.block b (by omega) fun e => ?_).trans ((HG2.out.block b (by omega) fun e => H.out.apart b hb e.symm).trans (HB1.out.block b hl))
        rcases hat2 with e2 | ⟨k, e2, hk⟩
        · exact H.out.apart b hb (by rw [← e2]; exact e.symm)
        · rw [← e] at e2
          have : b = k := by simpa using e2
          omega
      have hAw : ∀ b, blk A = some b → ((w3.setCell ⟨j, 5, none⟩ (.slice A3 (wl + 4 + s.size) c3')).setCell ⟨j, 6, none⟩ (.int .i64 ((J.waiting : Int) + 1))).heap[b]? = w.heap[b]? := fun b hb =>
        (hst.block b (by have := H.out.lt b hb; have := hg3.size; omega) (fun e => H.out.nj (by rw [hb, show b = j from e]))).trans (hA3 b hb)
      refine ⟨rfl, jrF j A A3, ⟨A, c, A3, c3', ⟨?_, H.out.st.keep fun ad e => hAw _ (by rw [e]; rfl), H.out.cap, fun b hb => ?_, ?_, H.out.nj, fun b hb e => ?_⟩, rfl⟩, ?_⟩
      · refine hb.lit ?_
        rw [← hlw]; rfl
      · have := H.out.lt b hb; have := hg3.size; have := hst.size; omega
      · have := (OwnB.far_ hown3 hnj3 5 (.slice A3 (wl + 4 + s.size) c3'))
        have := OwnB.far_ this hnj3 6 (.int .i64 ((J.waiting : Int) + 1))
        rw [List.append_assoc] at this
        exact this
      · rcases hat3' with e2 | ⟨k, e2, hk⟩
        · exact H.out.apart b hb (by rw [← e2]; exact e)
        · rw [e] at e2
          have h8 : b = k := by simpa using e2
          have h9 := H.out.lt b hb
          omega
      · refine (hst2.trans (Step.of_one hst (.inl rfl))).regroup fun i hi => ?_
        rcases hi with hi | hi | hi
        · exact .inl (.inl hi)
        · exact .inl (.inr (.inl hi))
        · rcases hat3' with e2 | ⟨k, e2, hk⟩
          · exact .inl (.inr (.inr (by rw [← e2]; exact hi)))
          · rw [hi] at e2
            have : i = k := by simpa using e2
            exact .inr (by omega)
end
end Go.Proofs.Ytjmhfjioccljeaa
