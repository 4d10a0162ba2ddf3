/-
  L4C: PgR PgS Law4C
-/
import Derived.Test.YtjmhfjioccljeaaPE
import Derived.Test.YtjmhfjioccljeaaRecZ
/-
  Walks of the laws of layer 14: text; two books side by side.
-/
namespace Go.Proofs.Ytjmhfjioccljeaa
open Go.RowKit
set_option linter.unusedVariables false
set_option linter.unusedSimpArgs false
attribute [local go_sem ↓] Go.wp_at_zero Go.wp_at_succ

theorem text_any (l : List UInt8) (w : World) (hl : l.length ≤ 9223372036854775807) :
    Calls Try.prog 47 #[.string (bs l)] w fun e w' => e = .returned (.string (bs (l.take 260))) ∧ w = w' := by
  obtain ⟨k, hk⟩ : ∃ k : Nat, min (l.length : Int) 260 = (k : Int) := ⟨min l.length 260, by omega⟩
  have hkl : k ≤ l.length := by omega
  have hsl := fun W => slice_bsh W l (k : Int) k rfl hkl
  have htk : l.take k = l.take 260 := by
    by_cases h : l.length ≤ 260
    · rw [List.take_of_length_le (by omega), List.take_of_length_le h]
    · rw [show k = 260 by omega]
  have hsz : (bs l).size = l.length := bs_size l
  have HK := Lib.hid hkl
  rw [htk] at hsl
  obtain ⟨y, hy⟩ : ∃ y, bs (l.take 260) = y := ⟨_, rfl⟩
  rw [hy] at hsl
  rw [hy]
  generalize bs l = z at *
  clear hy htk hkl hl
  go_enter Try.func47, Try.ntmps47
  go_wp2_with fail
  go_ret
  exact ⟨rfl, rfl⟩
theorem RecAt.ops3 {w : World} {ad : Addr} {i : Nat} {r : Rec} (h : RecAt 3 w ad i r) : w.cell? (ad.add (i * 5)) = some (.int .i64 (r.at_ 0)) ∧ w.cell? ⟨(ad.add (i * 5)).block, (ad.add (i * 5)).off + 1, none⟩ = some (.int .i64 (r.at_ 1)) ∧
    w.cell? ⟨(ad.add (i * 5)).block, (ad.add (i * 5)).off + 2, none⟩ = some (.int .i64 (r.at_ 2)) ∧
    w.cell? ⟨(ad.add (i * 5)).block, (ad.add (i * 5)).off + 3, none⟩ = some (.string r.data) ∧ w.cell? ⟨(ad.add (i * 5)).block, (ad.add (i * 5)).off + 4, none⟩ = some (.slice r.pa r.picks.length r.pc) := by
  have h0 := h.ints 0 (by omega)
  have h1 := h.ints 1 (by omega)
  have h2 := h.ints 2 (by omega)
  have h4 := h.data
  have h5 := h.picks
  rw [addr_add0] at h0
  rw [add_pos _ _ (by omega)] at h1 h2 h4 h5
  exact ⟨h0, h1, h2, h4, h5⟩
theorem two_x {w0 w w' : World} {K1 K1' K2 : Nat → Prop} (ho : Own0 w0 w (Un K1 K2)) (hd : Dis K1 K2) (hl : Lt K2 w.heap.size) (hs : Step K1 K1' w w') : Own0 w0 w' (Un K1' K2) ∧ Dis K1' K2 := ⟨ho.step (hs.frame K2), hs.dis hd hl⟩
theorem two_y {w0 w w' : World} {K1 K2 K2' : Nat → Prop} (ho : Own0 w0 w (Un K1 K2)) (hd : Dis K1 K2) (hl : Lt K1 w.heap.size) (hs : Step K2 K2' w w') : Own0 w0 w' (Un K1 K2') ∧ Dis K1 K2' := ⟨ho.step (hs.frameL K1), (hs.dis hd.symm hl).symm⟩
end Go.Proofs.Ytjmhfjioccljeaa
/-
  Walks of the laws of layer 14: holds; a book's marks.
-/
namespace Go.Proofs.Ytjmhfjioccljeaa
open Go.RowKit
set_option linter.unusedVariables false
set_option linter.unusedSimpArgs false
attribute [local go_sem ↓] Go.wp_at_zero Go.wp_at_succ

section
variable {w w' : World} {x p d pg n L N g : Nat} {S : St} {rs : List (List Pt)} {rd : Int} {A C : Pgs} {now : Pmap} {K F : Nat → Prop}
set_option maxRecDepth 100000 in
set_option maxHeartbeats 2000000 in
theorem holds_any (h : PgB w p d pg S n L N g rs rd A C now K) (a : Option Addr) (c : Nat) (l : List (List UInt8)) (hl : RdW w a l) (hn : l.length = N) (hs : ∀ s ∈ l, s.length ≤ 9223372036854775807) (hf : Full N C) (hN : N ≤ 4000) :
    Calls Try.prog 61 #[ob pg, .slice a N c] w fun e w' => BelowV (.bool (decide (∀ q, q < N → l.getD q [] = C q))) w e w' := by
  obtain ⟨R, hR⟩ : ∃ R, decide (∀ q, q < N → l.getD q [] = C q) = R := ⟨_, rfl⟩
  rw [hR]
  have HR := Lib.hid hR
  have HH := Lib.hid h
  have HL := Lib.hid (And.intro hl (And.intro hn hf))
  have HPG := Lib.hid fun W (hb : Below w.heap.size w W) => pb_pages (h.below hb)
  clear h hl hn hR hf hs
  go_enter Try.func61, Try.ntmps61
  go_wp2_with fail
  go_loopw [5] (fun i wr => ∃ (k : Nat), i = .int .i64 (k : Int) ∧ k ≤ N ∧ Hid (Below w.heap.size w wr ∧ ∀ q, q < k → l.getD q [] = C q)) (fun i _ => N - (intOf i).toNat)
  case atStart => exact ⟨0, rfl, Nat.zero_le _, Lib.hid ⟨Below.refl _ _, fun q hq => by omega⟩⟩
  case round =>
    obtain ⟨k, rfl, hk, HI⟩ := hrel
    by_cases hlt : k < N
    · obtain ⟨ad, rfl, hc⟩ := HL.out.1.at_ (k := k) (by rw [HL.out.2.1]; exact hlt)
      have hc' := below_cell HI.out.1 hc
      have hrd := pb_read (HH.out.below HI.out.1) (k : Int) (by unfold IntIn; omega)
      have hv : readV N C (k : Int) = .tuple #[.string (bs (C k)), .int .i64 0] := by unfold readV; rw [if_pos (by omega)]; rfl
      rw [hv] at hrd
      have HRD := Lib.hid hrd
      have hbq := bs_beq (C k) (l.getD k [])
      have HEQ : Hid (∀ b : Bool, decide (C k = l.getD k []) = b → ((bs (C k)).toList == (bs (l.getD k [])).toList) = b) := Lib.hid fun b hb => by rw [hbq]; exact hb
      by_cases heq : C k = l.getD k []
      · have hbe : ((bs (C k)).toList == (bs (l.getD k [])).toList) = true := HEQ.out true (decide_eq_true heq)
        have HQ := Lib.hid heq
        generalize bs (C k) = u at *
        generalize bs (l.getD k []) = v at *
        clear hrd hc hv hbq heq HEQ
        go_wp2_with fail
        refine HRD.out.mono ?_
        rintro e w2 ⟨rfl, hb2⟩
        have HB2 := Lib.hid (HI.out.1.trans (hb2.mono HI.out.1.size))
        have hc2 := below_cell hb2 hc'
        clear hb2
        go_wp2_with fail
        refine ⟨⟨k + 1, int_eq (by omega), by omega, Lib.hid ⟨HB2.out, fun q hq => ?_⟩⟩, ?_⟩
        · rcases Nat.lt_succ_iff_lt_or_eq.1 hq with h | h
          · exact HI.out.2 q h
          · rw [h]; exact HQ.out.symm
        · simp [intOf]; omega
      · have hbe : ((bs (C k)).toList == (bs (l.getD k [])).toList) = false := HEQ.out false (decide_eq_false heq)
        have HQ := Lib.hid heq
        generalize bs (C k) = u at *
        generalize bs (l.getD k []) = v at *
        clear hrd hc hv hbq heq HEQ
        go_wp2_with fail
        refine HRD.out.mono ?_
        rintro e w2 ⟨rfl, hb2⟩
        have HB2 := Lib.hid (HI.out.1.trans (hb2.mono HI.out.1.size))
        have hc2 := below_cell hb2 hc'
        clear hb2
        go_wp2_with fail
        go_ret
        exact ⟨ret_bool (by rw [← HR.out]; exact (decide_eq_false fun h => HQ.out (h k hlt).symm).symm), HB2.out⟩
    · have hkn : k = N := by omega
      subst hkn
      have e1 : ((k : Int) == (k : Int)) = true := beq_self_eq_true _
      go_wp2_with fail
      refine (HPG.out _ HI.out.1).mono ?_
      rintro e _ ⟨rfl, rfl⟩
      go_wp2_with fail
      go_ret
      exact ⟨ret_bool (by rw [← HR.out]; exact (decide_eq_true HI.out.2).symm), HI.out.1⟩
/-- a mark of a book's pager -/
def MkB (w : World) (mk pg N : Nat) (m : Pmap) (rd : Int) (Q : Nat → Prop) : Prop := ∃ mm, MkAt w mk pg mm N m rd ∧ Q = mkF mk mm
theorem MkB.lt {mk : Nat} {m : Pmap} {Q : Nat → Prop} (h : MkB w mk pg N m rd Q) : Lt Q w.heap.size := by obtain ⟨mm, h1, rfl⟩ := h; exact h1.lt
theorem MkB.keep {mk : Nat} {m : Pmap} {Q : Nat → Prop} (h : MkB w mk pg N m rd Q) (hs : Same Q w w') : MkB w' mk pg N m rd Q := by obtain ⟨mm, h1, rfl⟩ := h; exact ⟨mm, h1.keep hs, rfl⟩
theorem MkB.below {mk : Nat} {m : Pmap} {Q : Nat → Prop} (h : MkB w mk pg N m rd Q) (hb : Below w.heap.size w w') : MkB w' mk pg N m rd Q := h.keep (Same.of_below hb h.lt)
theorem bk_mark (h : BkR w x p d pg S n L N g rs rd A C now K) : Calls Try.prog 62 #[ob pg] w fun e w' => ∃ mk Q, e = .returned (ob mk) ∧ MkB w' mk pg N now rd Q ∧ Below w.heap.size w w' ∧ Ge Q w.heap.size := by
  obtain ⟨K1, ⟨j, J, ms, mn, sure, H, h1, h2, rfl⟩, h3, h4, rfl⟩ := h
  exact (mark_at h1).mono fun e w' ⟨mk, mm, k1, k2, k3, k4⟩ => ⟨mk, _, k1, ⟨mm, k2, rfl⟩, k3, k4⟩
theorem bk_changed (h : BkR w x p d pg S n L N g rs rd A C now K) : Calls Try.prog 63 #[ob pg] w fun e w' => ChangedSpec N A C w e w' := by
  obtain ⟨K1, ⟨j, J, ms, mn, sure, H, h1, h2, rfl⟩, h3, h4, rfl⟩ := h
  exact changed_at h2 h1
/-- Back to one's own mark: the pages are what the mark's map makes of what is committed -/
theorem bk_back {mk : Nat} {m : Pmap} {Q : Nat → Prop} {C2 : Pgs} (h : BkR w x p d pg S n L N g rs rd A C now K) (hm : MkB w mk pg N m rd Q) (hc : ∀ q, q < N → C2 q = (m q).getD (A q)) (hf : Full N C2) (hk : ∀ q s, m q = some s → q < N) :
    Calls Try.prog 64 #[ob pg, ob mk] w fun e w' => e = .returned (.int .i64 0) ∧ ∃ K', BkR w' x p d pg S n L N g rs rd A C2 m K' ∧ Step K K' w w' := by
  obtain ⟨K1, ⟨j, J, ms, mn, sure, H, h1, h2, rfl⟩, h3, h4, rfl⟩ := h
  obtain ⟨mm, hm, rfl⟩ := hm
  refine (back_at h1 hm).mono ?_
  rintro e w' ⟨rfl, mn', k1, k2, k3⟩
  have hst : Step (pgF H pg ms mn) (pgF H pg ms mn') w w' := by
    refine ⟨k2.os, k2.tape, k2.output, k2.size, fun i hi hn => k2.at_ hi fun e => hn (.inr (.inl e)), fun i hi => ?_⟩
    rcases hi with hi | hi | hi | hi
    · exact .inl (.inl hi)
    · exact .inl (.inr (.inl hi))
    · exact .inl (.inr (.inr (.inl hi)))
    · exact .inr (by omega)
  obtain ⟨r1, r2⟩ := BkR.turn h3 h4 ⟨j, J, ms, mn', sure, H, k1, ⟨h2.pd, h2.com, hc, hf, hk, h2.ks⟩, rfl⟩ hst
  exact ⟨rfl, _, r1, r2⟩
/-- .. to another's, or an elder one -/
theorem bk_back_no {mk pg2 : Nat} {m : Pmap} {rd2 : Int} {Q : Nat → Prop} (h : BkR w x p d pg S n L N g rs rd A C now K) (hm : MkB w mk pg2 N m rd2 Q) {t2 : TypeId} {y : Array Value} (h2 : Blk w pg2 t2 y) (hne : pg2 ≠ pg ∨ rd2 ≠ rd) :
    Calls Try.prog 64 #[ob pg, ob mk] w fun e w' => Refused w e w' := by
  obtain ⟨K1, ⟨j, J, ms, mn, sure, H, h1, h3, rfl⟩, _⟩ := h
  obtain ⟨mm, hm, rfl⟩ := hm
  exact back_other h1 hm h2 hne
theorem BkR.self (h : BkR w x p d pg S n L N g rs rd A C now K) : (∃ t y, Blk w pg t y) ∧ K pg := by
  obtain ⟨K1, ⟨j, J, ms, mn, sure, H, h1, h3, rfl⟩, _, _, rfl⟩ := h
  exact ⟨⟨_, _, h1.self⟩, .inl (.inr (.inl rfl))⟩
theorem BkR.now_ (h : BkR w x p d pg S n L N g rs rd A C now K) : (∀ q, q < N → C q = (now q).getD (A q)) ∧ (∀ q s, now q = some s → q < N) := by
  obtain ⟨K1, ⟨j, J, ms, mn, sure, H, h1, h3, rfl⟩, _⟩ := h
  exact ⟨h3.cur, h3.kn⟩
end
set_option maxRecDepth 100000 in
set_option maxHeartbeats 2000000 in
theorem back_nil (w : World) (a : Nat) : Calls Try.prog 64 #[ob a, .pointer none] w fun e w' => Refused w e w' := by
  go_enter Try.func64, Try.ntmps64
  go_wp2_with fail
  go_quiet (fail)
  go_wp2_with fail
  go_ret
  exact ⟨rfl, below_drewN (Below.refl _ _) _⟩
end Go.Proofs.Ytjmhfjioccljeaa
/-
  PagerBacks: the walk.
-/
namespace Go.Proofs.Ytjmhfjioccljeaa
open Go.RowKit
set_option linter.unusedVariables false
set_option linter.unusedSimpArgs false
attribute [local go_sem ↓] Go.wp_at_zero Go.wp_at_succ

/-- a mark, two rows -/
def Ex (Q : Nat → Prop) (Aw Ac : Option Addr) (i : Nat) : Prop := Q i ∨ (∃ ad, Aw = some ad ∧ ad.block = i) ∨ (∃ ad, Ac = some ad ∧ ad.block = i)
/-- all but the book that turns: another book, a mark, two rows -/
def RestI (w W : World) (y p2 d2 pg2 : Nat) (S2 : St) (mk pg1 : Nat) (now0 : Pmap) (Aw : Option Addr) (lw : List (List UInt8)) (Ac : Option Addr) (lc : List Int) (K1 : Nat → Prop) : Prop :=
  ∃ K2 Q, BkR W y p2 d2 pg2 S2 40 8 12 1 [] 0 zeroP zeroP (fun _ => none) K2 ∧ MkB W mk pg1 12 now0 0 Q ∧ RdW W Aw lw ∧ RdZ W Ac lc ∧ Dis K1 K2 ∧ Dis K1 (Ex Q Aw Ac) ∧ Lt (Ex Q Aw Ac) W.heap.size ∧ Own0 w W (Un K1 K2)
section
variable {w W W' : World} {y p2 d2 pg2 mk pg1 : Nat} {S2 : St} {now0 : Pmap} {Aw Ac : Option Addr} {lw : List (List UInt8)} {lc : List Int} {K1 K1' : Nat → Prop}
theorem RestI.step (h : RestI w W y p2 d2 pg2 S2 mk pg1 now0 Aw lw Ac lc K1) (hs : Step K1 K1' W W') : RestI w W' y p2 d2 pg2 S2 mk pg1 now0 Aw lw Ac lc K1' := by
  obtain ⟨K2, Q, h1, h2, h3, h4, h5, h6, h7, h8⟩ := h
  have hsame : Same (Ex Q Aw Ac) W W' := hs.same h6 h7
  have ht := two_x h8 h5 h1.lt hs
  refine ⟨K2, Q, h1.step hs h5, h2.keep (hsame.sub fun i hi => .inl hi), h3.keep fun ad e hl => hsame _ (.inr (.inl ⟨ad, e, rfl⟩)), h4.step hs fun ad e hk => h6 _ hk (.inr (.inr ⟨ad, e, rfl⟩)), ht.2, hs.dis h6 h7, fun i hi => Nat.lt_of_lt_of_le (h7 i hi) hs.size, ht.1⟩
theorem RestI.below (h : RestI w W y p2 d2 pg2 S2 mk pg1 now0 Aw lw Ac lc K1) (hb : Below W.heap.size W W') : RestI w W' y p2 d2 pg2 S2 mk pg1 now0 Aw lw Ac lc K1 := h.step (Step.of_below hb K1)
end
set_option maxRecDepth 100000 in
set_option maxHeartbeats 4000000 in
theorem backs_any (w : World) (a0 : Option Addr) (len0 cap0 : Nat) (z0 : List Rec) (w0 : IsRec2 3 w a0 len0 cap0 z0) (a1 : Option Addr) (len1 cap1 : Nat) (z1 : List Rec) (w1 : IsRec2 3 w a1 len1 cap1 z1) :
    Calls Try.prog 10 #[.slice a0 len0 cap0, .slice a1 len1 cap1] w fun e w' => e = .returned (.bool true) ∧ Below w.heap.size w w' := by
  have HL := Lib.hid w0
  have HL1 := Lib.hid w1
  have hm0 : len0 ≤ 9223372036854775807 := by have := w0.2.2.1; unfold maxLen at this; omega
  have hm1 : len1 ≤ 9223372036854775807 := by have := w1.2.2.1; unfold maxLen at this; omega
  clear w0 w1
  go_enter Try.func10, Try.ntmps10
  go_wp2_with fail
  refine (reads_any _).mono ?_
  rintro e w1 ⟨rfl, hb1⟩
  have HB1 := Lib.hid hb1
  clear hb1
  go_wp2_with fail
  refine (bound_any _).mono ?_
  rintro e w2 ⟨x, p1, d1, pg1, S1, K1, rfl, hx, ha1, hge1, hbe1⟩
  have HX := Lib.hid (And.intro hx (And.intro ha1 (And.intro hge1 hbe1)))
  clear hx ha1 hge1 hbe1
  go_wp2_with fail
  refine (bound_any _).mono ?_
  rintro e w3 ⟨y, p2, d2, pg2, S2, K2, rfl, hy, ha2, hge2, hbe2⟩
  have HB0 : Hid (Below w.heap.size w w3) := Lib.hid (HB1.out.trans ((HX.out.2.2.2.trans (hbe2.mono HX.out.2.2.2.size)).mono HB1.out.size))
  have HD : Hid (Dis K1 K2 ∧ Own0 w w3 (Un K1 K2) ∧ S1.arm = -1) := Lib.hid ⟨fun i h1 h2 => by
    have e1 := HX.out.1.lt i h1
    have e2 := hge2 i h2
    omega, ⟨Ge.un (fun i hi => Nat.le_trans HB1.out.size (HX.out.2.2.1 i hi)) (fun i hi => Nat.le_trans (Nat.le_trans HB1.out.size HX.out.2.2.2.size) (hge2 i hi)), HB0.out⟩, HX.out.2.1⟩
  have HI0 : Hid (∃ C now, BkR w3 x p1 d1 pg1 S1 40 8 12 1 [] 0 zeroP C now K1) := Lib.hid ⟨_, _, HX.out.1.below hbe2⟩
  have HY : Hid (BkR w3 y p2 d2 pg2 S2 40 8 12 1 [] 0 zeroP zeroP (fun _ => none) K2) := Lib.hid hy
  clear hy ha2 hge2 hbe2 HX HB1
  go_wp2_with fail
  go_loopw [9] (fun i wr => ∃ (k : Nat), i = .int .i64 (k : Int) ∧ k ≤ 50 ∧ Hid ((∃ C now, BkR wr x p1 d1 pg1 S1 40 8 12 1 [] 0 zeroP C now K1) ∧ Step K1 K1 w3 wr)) (fun i _ => 50 - (intOf i).toNat)
  case atStart => exact ⟨0, rfl, by omega, Lib.hid ⟨HI0.out, Step.refl _ _⟩⟩
  case round =>
    clear HI0
    obtain ⟨k, rfl, hk, HI⟩ := hrel
    by_cases hend : k < len0 ∧ k < 50
    · obtain ⟨hlt, h50⟩ := hend
      obtain ⟨ad, rfl, hrec⟩ := HL.out.2.1 k (by rw [HL.out.1]; exact hlt)
      obtain ⟨⟨C, now, hx⟩, hst⟩ := HI.out
      obtain ⟨rec, hrc⟩ : ∃ rec, z0.getD k rec0 = rec := ⟨_, rfl⟩
      rw [hrc] at hrec
      have HGD := Lib.hid hrec.good
      have hbw : Below w.heap.size w wr := (HD.out.2.1.step (hst.frame K2)).be
      have hrb := hrec.below hbw
      obtain ⟨_, c1, c2, c3, _⟩ := hrb.ops3
      have HAL : Hid (ad.block < w.heap.size) := Lib.hid (by
        have := World.block_lt_of_cell? _ _ hrec.ops3.1
        rwa [block_of_add] at this)
      obtain ⟨tx, htx⟩ : ∃ tx : List UInt8, rec.data.data.toList = tx := ⟨_, rfl⟩
      have hdt : rec.data = bs tx := by rw [← htx]; rfl
      have htl : tx.length ≤ 9223372036854775807 := by
        have := HGD.out.data
        rw [hdt, bs_size] at this
        unfold maxLen at this; omega
      obtain ⟨pq, hpq⟩ : ∃ v, rec.at_ 1 = v := ⟨_, rfl⟩
      obtain ⟨of_, hof⟩ : ∃ v, rec.at_ 2 = v := ⟨_, rfl⟩
      have hqi : IntIn pq := by rw [← hpq]; exact HGD.out.ints 1
      have hoi : IntIn of_ := by rw [← hof]; exact HGD.out.ints 2
      have hKa : ¬ K1 ad.block := fun h => by have := HD.out.2.1.ge _ (.inl h); have := HAL.out; omega
      have hn1 : ∀ n : Nat, ¬ K1 (⟨(ad.add (k * 5)).block, (ad.add (k * 5)).off + n, none⟩ : Addr).block := fun n => by
        have : (⟨(ad.add (k * 5)).block, (ad.add (k * 5)).off + n, none⟩ : Addr).block = ad.block := block_of_add _ _
        rw [this]; exact hKa
      have HN1 := Lib.hid hn1
      rw [hpq] at c1
      rw [hof] at c2
      rw [hdt] at c3
      obtain ⟨tv, htv⟩ : ∃ tv, bs tx = tv := ⟨_, rfl⟩
      obtain ⟨sv, hsv⟩ : ∃ sv, bs (tx.take 260) = sv := ⟨_, rfl⟩
      have HTX : Hid (∀ W, Calls Try.prog 47 #[.string tv] W fun e w' => e = .returned (.string sv) ∧ W = w') := Lib.hid fun W => by rw [← htv, ← hsv]; exact text_any tx W htl
      have HWX : Hid (∀ W, Below wr.heap.size wr W → Calls Try.prog 48 #[ob pg1, .int .i64 pq, .int .i64 of_, .string sv] W fun e w' =>
          ∃ E, e = .returned (.int .i64 E) ∧ (∃ C now, BkR w' x p1 d1 pg1 S1 40 8 12 1 [] 0 zeroP C now K1) ∧ Step K1 K1 wr w') := Lib.hid fun W hb => by
        have h := bk_write (hx.below hb) pq of_ (tx.take 260) hqi hoi (by rw [List.length_take]; omega)
        rw [hsv] at h
        exact h.mono fun e w' ⟨h1, h2, h3⟩ => ⟨_, h1, ⟨_, _, h2⟩, (Step.of_below hb K1).trans h3⟩
      have x2 : wr.cell? ⟨x, 2, none⟩ = some (ob pg1) := hx.cells.2.2.1
      have HBd : Hid (Below wr.heap.size wr wr.drew) := Lib.hid (Below.refl _ _).drew
      have HST : Hid (Step K1 K1 w3 wr) := Lib.hid hst
      rw [htv] at c3
      clear hrec hrb hx hst hdt htl hpq hof htx hrc HI hqi hoi hKa hn1 htv hsv hbw HGD HAL
      have e1 : decide ((k : Int) < (len0 : Int)) = true := decide_eq_true (by omega)
      have e2 : decide ((k : Int) < 50) = true := decide_eq_true (by omega)
      go_wp2_with fail
      go_region_held3 (fun W : World => W.cell? ⟨x, 2, none⟩ = some (ob pg1) ∧ W.cell? ⟨(ad.add (k * 5)).block, (ad.add (k * 5)).off + 1, none⟩ = some (.int .i64 pq) ∧ W.cell? ⟨(ad.add (k * 5)).block, (ad.add (k * 5)).off + 2, none⟩ = some (.int .i64 of_) ∧ W.cell? ⟨(ad.add (k * 5)).block, (ad.add (k * 5)).off + 3, none⟩ = some (.string tv)) (first | exact ⟨x2, c1, c2, c3⟩ | exact ⟨f1_, f2_, f3_, f4_⟩) (first | (go_at_call 47; refine (HTX.out _).mono ?_; rintro e wt ⟨rfl, rfl⟩) | (go_at_call 48; refine (HWX.out _ HBd.out).mono ?_; rintro e w5 ⟨E5, rfl, hx5, hs5⟩; have f1_ : w5.cell? ⟨x, 2, none⟩ = some (ob pg1) := by { obtain ⟨_, _, hx5'⟩ := hx5; exact hx5'.cells.2.2.1 }; have f2_ := step_cell hs5 c1 (HN1.out 1); have f3_ := step_cell hs5 c2 (HN1.out 2); have f4_ := step_cell hs5 c3 (HN1.out 3)))
      have HR5 : Hid ((∃ C now, BkR w5 x p1 d1 pg1 S1 40 8 12 1 [] 0 zeroP C now K1) ∧ Step K1 K1 w3 w5) := Lib.hid ⟨hx5, HST.out.trans hs5⟩
      clear hx5 hs5 f1_ f2_ f3_ f4_ HST HBd HWX HTX x2 c1 c2 c3 HN1 e1 e2
      go_wp2_with fail
      refine ⟨⟨k + 1, int_eq (by omega), by omega, HR5⟩, ?_⟩
      simp [intOf]; omega
    · go_upto_region 8 with fail
      go_cut [43] from 36 to 66 (fun v43 wx => v43 = .bool false ∧ Hid (wx = wr))
      case first =>
        by_cases h1 : k < len0
        · have e1 : decide ((k : Int) < (len0 : Int)) = true := decide_eq_true (by omega)
          have e2 : decide ((k : Int) < 50) = false := decide_eq_false (by omega)
          go_wp2_with fail
          go_meet
          case rel => exact ⟨rfl, Lib.hid rfl⟩
        · have e1 : decide ((k : Int) < (len0 : Int)) = false := decide_eq_false (by omega)
          go_wp2_with fail
          go_meet
          case rel => exact ⟨rfl, Lib.hid rfl⟩
      case rest =>
        obtain ⟨rfl, HC⟩ := hcut
        obtain ⟨⟨C0, now0, hx⟩, hst⟩ := HI.out
        have hcw := HC.out
        subst hcw
        have x2 := hx.cells.2.2.1
        have HXW := Lib.hid hx
        have HST : Hid (Step K1 K1 w3 wc) := Lib.hid hst
        have HMK := Lib.hid (bk_mark hx)
        clear hx hst HI HC
        go_wp2_with fail
        refine HMK.out.mono ?_
        rintro e w4 ⟨mk, Q, rfl, hmk, hb4, hge4⟩
        have HMQ := Lib.hid (And.intro hmk (And.intro hb4 hge4))
        have hx4 := HXW.out.below hb4
        have HX4 := Lib.hid hx4
        have x24 := hx4.cells.2.2.1
        clear hmk hb4 hge4 hx4 x2 HMK
        go_wp2_with fail
        go_loopw [11, 12] (fun b i wr => ∃ (q : Nat) (A : Option Addr) (c : Nat), b = .slice A q c ∧ i = .int .i64 (q : Int) ∧ q ≤ 12 ∧ Hid (OwnW wr w4.heap.size A c ((List.range q).map C0)) ∧ Hid (Below w4.heap.size w4 wr)) (fun _ i _ => 12 - (intOf i).toNat)
        case atStart => exact ⟨0, none, 0, rfl, rfl, by omega, Lib.hid (OwnW.nil _ _), Lib.hid (Below.refl _ _)⟩
        case round =>
          obtain ⟨q, A, c, rfl, rfl, hq, HOW, HBE⟩ := hrel
          have x2 := below_cell HBE.out x24
          have hxr := HX4.out.below HBE.out
          by_cases hlt : q < 12
          · have hrd := bk_read hxr (q : Int) (by unfold IntIn; omega)
            have hv : readV 12 C0 (q : Int) = .tuple #[.string (bs (C0 q)), .int .i64 0] := by unfold readV; rw [if_pos (by omega)]; rfl
            rw [hv] at hrd
            have HRD := Lib.hid hrd
            have HLN : Hid (q = ((List.range q).map C0).length) := Lib.hid (by simp)
            have hsucc : (List.range q).map C0 ++ [C0 q] = (List.range (q + 1)).map C0 := by rw [List.range_succ, List.map_append]; rfl
            have HSU := Lib.hid hsucc
            clear hrd hv hsucc hxr
            go_wp2_with fail
            refine HRD.out.mono ?_
            rintro e w5 ⟨rfl, hb5⟩
            have HBE5 := Lib.hid (HBE.out.trans (hb5.mono HBE.out.size))
            have HOW5 : Hid (OwnW w5 w4.heap.size A c ((List.range q).map C0)) := Lib.hid (OwnR.below HOW.out hb5 fun k hk => (OwnR.lt HOW.out k hk).2)
            clear hb5 HRD
            go_wp2_with (at_builtin; go_must (refine wpList_appW (.inl rfl) (.tmp 87) (.tmp 89) rfl w4.heap.size A q c ((List.range q).map C0) rfl HLN.out (OwnR.alloc HOW5.out _) (some ⟨w5.heap.size, 0, none⟩) 1 1 [C0 q] rfl rfl (rdw_one _ _ _ rfl) (by rw [← HLN.out]; simp; omega) (by have := HBE5.out.size; simp; omega) ?_); (intro A2 c2 w6 hown2 hg2 hat2))
            have HB6 : Hid (Below w4.heap.size w4 w6) := Lib.hid ((HBE5.out.alloc HBE5.out.size _).grown hg2 (by have := HBE5.out.size; simp; omega) (fun b hb => (OwnR.lt HOW5.out b hb).1))
            rw [HSU.out] at hown2
            have HO6 := Lib.hid hown2
            clear hown2 hg2 hat2
            go_wp2_with fail
            refine ⟨⟨q + 1, A2, c2, rfl, int_eq (by omega), by omega, HO6, HB6⟩, ?_⟩
            simp [intOf]; omega
          · have hq12 : q = 12 := by omega
            subst hq12
            have HCH := Lib.hid (bk_changed hxr)
            have HXR := Lib.hid hxr
            clear hxr
            go_wp2_with fail
            refine HCH.out.mono ?_
            rintro e w6 ⟨Ac, cc, rfl, hoz, hb6⟩
            have HB46 := Lib.hid (HBE.out.trans (hb6.mono HBE.out.size))
            have hfull : Full 12 C0 := HXW.out.fullC
            have hnow := HXW.out.now_
            have HN0 := Lib.hid (And.intro hfull hnow)
            obtain ⟨lw, hlw⟩ : ∃ lw, (List.range 12).map C0 = lw := ⟨_, rfl⟩
            have HLW : Hid (lw.length = 12 ∧ (∀ q, q < 12 → lw.getD q [] = C0 q) ∧ ∀ s ∈ lw, s.length ≤ 9223372036854775807) := Lib.hid ⟨by rw [← hlw]; simp, fun q hq => by rw [← hlw]; simp [List.getD, hq], fun s hs => by
              rw [← hlw] at hs
              obtain ⟨q, hq, rfl⟩ := List.mem_map.1 hs
              rw [hfull q (List.mem_range.1 hq)]; decide⟩
            obtain ⟨lc, hlc⟩ : ∃ lc : List Int, (chgL 12 zeroP C0).map (fun q : Nat => (q : Int)) = lc := ⟨_, rfl⟩
            have HLC : Hid (lc.length ≤ 12 ∧ (chgL 12 zeroP C0).length = lc.length) := Lib.hid ⟨by
              rw [← hlc, List.length_map]
              have := List.length_filter_le (fun q => decide (zeroP q ≠ C0 q)) (List.range 12)
              rw [List.length_range] at this
              exact this, by rw [← hlc, List.length_map]⟩
            have HCL : Hid ((chgL 12 zeroP C0).map (fun q : Nat => (q : Int)) = lc) := Lib.hid hlc
            rw [hlw] at HOW
            rw [hlc] at hoz
            have hrest : RestI w w6 y p2 d2 pg2 S2 mk pg1 now0 A lw Ac lc K1 := by
              have s1 := HB46.out.size
              have s2 := HMQ.out.2.1.size
              have s3 := hb6.size
              have s4 := HBE.out.size
              refine ⟨K2, Q, ((HY.out.step HST.out HD.out.1).below HMQ.out.2.1).below HB46.out, HMQ.out.1.below HB46.out, (OwnW.rd HOW.out).below hb6, OwnZ.rd hoz, HD.out.1, fun i hi he => ?_, fun i he => ?_, ((HD.out.2.1.step (HST.out.frame K2)).below HMQ.out.2.1).below HB46.out⟩
              · have h1 := HXW.out.lt i hi
                rcases he with he | ⟨ad, e, rfl⟩ | ⟨ad, e, rfl⟩
                · have := HMQ.out.2.2 i he; omega
                · have := (OwnR.lt HOW.out ad.block (by rw [e]; rfl)).1; omega
                · have := (OwnR.lt hoz ad.block (by rw [e]; rfl)).1; omega
              · rcases he with he | ⟨ad, e, rfl⟩ | ⟨ad, e, rfl⟩
                · have := HMQ.out.1.lt i he; omega
                · have := (OwnR.lt HOW.out ad.block (by rw [e]; rfl)).2; omega
                · exact (OwnR.lt hoz ad.block (by rw [e]; rfl)).2
            have HR0 : Hid (∃ K1, BkR w6 x p1 d1 pg1 S1 40 8 12 1 [] 0 zeroP C0 now0 K1 ∧ RestI w w6 y p2 d2 pg2 S2 mk pg1 now0 A lw Ac lc K1) := Lib.hid ⟨K1, HX4.out.below HB46.out, hrest⟩
            have HARM := Lib.hid HD.out.2.2
            rw [HLC.out.2]
            clear hfull hnow hlw hlc hoz hrest hb6 HB46 HOW HBE HX4 HXR HXW HMQ HST HY HD HB0 HCH HL x24 x2
            go_wp2_with fail
            go_loopw [16] (fun i wr => ∃ (k : Nat), i = .int .i64 (k : Int) ∧ k ≤ 2 ∧ Hid (∃ K1, BkR wr x p1 d1 pg1 S1 40 8 12 1 [] 0 zeroP C0 now0 K1 ∧ RestI w wr y p2 d2 pg2 S2 mk pg1 now0 A lw Ac lc K1)) (fun i _ => 2 - (intOf i).toNat)
            case atStart => exact ⟨0, rfl, by omega, HR0⟩
            case round =>
              clear HR0
              obtain ⟨k, rfl, hk, HI⟩ := hrel
              by_cases hlt : k < 2
              · have HI2 : Hid (∃ K1 C now, BkR wr x p1 d1 pg1 S1 40 8 12 1 [] 0 zeroP C now K1 ∧ RestI w wr y p2 d2 pg2 S2 mk pg1 now0 A lw Ac lc K1) := Lib.hid (by
                  obtain ⟨K, h1, h2⟩ := HI.out
                  exact ⟨K, C0, now0, h1, h2⟩)
                have e3 : decide ((k : Int) < 2) = true := decide_eq_true (by omega)
                go_wp2_with fail
                go_loopw [17] (fun i wr => ∃ (j : Nat), i = .int .i64 (j : Int) ∧ j ≤ 50 ∧ Hid (∃ K1 C now, BkR wr x p1 d1 pg1 S1 40 8 12 1 [] 0 zeroP C now K1 ∧ RestI w wr y p2 d2 pg2 S2 mk pg1 now0 A lw Ac lc K1)) (fun i _ => 50 - (intOf i).toNat)
                case atStart => exact ⟨0, rfl, by omega, HI2⟩
                case round =>
                  clear HI2 HI
                  obtain ⟨j, rfl, hj, HJ⟩ := hrel
                  by_cases hend : j < len1 ∧ j < 50
                  · obtain ⟨hlt, h50⟩ := hend
                    obtain ⟨ad, rfl, hrec⟩ := HL1.out.2.1 j (by rw [HL1.out.1]; exact hlt)
                    obtain ⟨K1, C, now, hx, hrs⟩ := HJ.out
                    obtain ⟨rec, hrc⟩ : ∃ rec, z1.getD j rec0 = rec := ⟨_, rfl⟩
                    rw [hrc] at hrec
                    have HGD := Lib.hid hrec.good
                    have ho : Ge K1 w.heap.size ∧ Below w.heap.size w wr := by
                      obtain ⟨_, _, _, _, _, _, _, _, _, q8⟩ := hrs
                      exact ⟨fun i hi => q8.ge i (.inl hi), q8.be⟩
                    have hbw := ho.2
                    have hrb := hrec.below hbw
                    obtain ⟨_, c1, c2, c3, _⟩ := hrb.ops3
                    have HAL : Hid (ad.block < w.heap.size) := Lib.hid (by
                      have := World.block_lt_of_cell? _ _ hrec.ops3.1
                      rwa [block_of_add] at this)
                    obtain ⟨tx, htx⟩ : ∃ tx : List UInt8, rec.data.data.toList = tx := ⟨_, rfl⟩
                    have hdt : rec.data = bs tx := by rw [← htx]; rfl
                    have htl : tx.length ≤ 9223372036854775807 := by
                      have := HGD.out.data
                      rw [hdt, bs_size] at this
                      unfold maxLen at this; omega
                    obtain ⟨pq, hpq⟩ : ∃ v, rec.at_ 1 = v := ⟨_, rfl⟩
                    obtain ⟨of_, hof⟩ : ∃ v, rec.at_ 2 = v := ⟨_, rfl⟩
                    have hqi : IntIn pq := by rw [← hpq]; exact HGD.out.ints 1
                    have hoi : IntIn of_ := by rw [← hof]; exact HGD.out.ints 2
                    have hKa : ¬ K1 ad.block := fun h => by have := ho.1 _ h; have := HAL.out; omega
                    have hn1 : ∀ n : Nat, ¬ K1 (⟨(ad.add (j * 5)).block, (ad.add (j * 5)).off + n, none⟩ : Addr).block := fun n => by
                      have : (⟨(ad.add (j * 5)).block, (ad.add (j * 5)).off + n, none⟩ : Addr).block = ad.block := block_of_add _ _
                      rw [this]; exact hKa
                    have HN1 := Lib.hid hn1
                    rw [hpq] at c1
                    rw [hof] at c2
                    rw [hdt] at c3
                    obtain ⟨tv, htv⟩ : ∃ tv, bs tx = tv := ⟨_, rfl⟩
                    obtain ⟨sv, hsv⟩ : ∃ sv, bs (tx.take 260) = sv := ⟨_, rfl⟩
                    have HTX : Hid (∀ W, Calls Try.prog 47 #[.string tv] W fun e w' => e = .returned (.string sv) ∧ W = w') := Lib.hid fun W => by rw [← htv, ← hsv]; exact text_any tx W htl
                    have HWX : Hid (∀ W, Below wr.heap.size wr W → Calls Try.prog 48 #[ob pg1, .int .i64 pq, .int .i64 of_, .string sv] W fun e w' =>
                        ∃ E, e = .returned (.int .i64 E) ∧ (∃ C now, BkR w' x p1 d1 pg1 S1 40 8 12 1 [] 0 zeroP C now K1) ∧ Step K1 K1 wr w') := Lib.hid fun W hb => by
                      have h := bk_write (hx.below hb) pq of_ (tx.take 260) hqi hoi (by rw [List.length_take]; omega)
                      rw [hsv] at h
                      exact h.mono fun e w' ⟨h1, h2, h3⟩ => ⟨_, h1, ⟨_, _, h2⟩, (Step.of_below hb K1).trans h3⟩
                    have x2 : wr.cell? ⟨x, 2, none⟩ = some (ob pg1) := hx.cells.2.2.1
                    have HBd : Hid (Below wr.heap.size wr wr.drew) := Lib.hid (Below.refl _ _).drew
                    have HRS := Lib.hid hrs
                    rw [htv] at c3
                    clear hrec hrb hx hrs ho hdt htl hpq hof htx hrc HJ hqi hoi hKa hn1 htv hsv hbw HGD HAL
                    have e1 : decide ((j : Int) < (len1 : Int)) = true := decide_eq_true (by omega)
                    have e2 : decide ((j : Int) < 50) = true := decide_eq_true (by omega)
                    go_wp2_with fail
                    go_region_held3 (fun W : World => W.cell? ⟨x, 2, none⟩ = some (ob pg1) ∧ W.cell? ⟨(ad.add (j * 5)).block, (ad.add (j * 5)).off + 1, none⟩ = some (.int .i64 pq) ∧ W.cell? ⟨(ad.add (j * 5)).block, (ad.add (j * 5)).off + 2, none⟩ = some (.int .i64 of_) ∧ W.cell? ⟨(ad.add (j * 5)).block, (ad.add (j * 5)).off + 3, none⟩ = some (.string tv)) (first | exact ⟨x2, c1, c2, c3⟩ | exact ⟨f1_, f2_, f3_, f4_⟩) (first | (go_at_call 47; refine (HTX.out _).mono ?_; rintro e wt ⟨rfl, rfl⟩) | (go_at_call 48; refine (HWX.out _ HBd.out).mono ?_; rintro e w5 ⟨E5, rfl, hx5, hs5⟩; have f1_ : w5.cell? ⟨x, 2, none⟩ = some (ob pg1) := by { obtain ⟨_, _, hx5'⟩ := hx5; exact hx5'.cells.2.2.1 }; have f2_ := step_cell hs5 c1 (HN1.out 1); have f3_ := step_cell hs5 c2 (HN1.out 2); have f4_ := step_cell hs5 c3 (HN1.out 3)))
                    have HR5 : Hid (∃ K1 C now, BkR w5 x p1 d1 pg1 S1 40 8 12 1 [] 0 zeroP C now K1 ∧ RestI w w5 y p2 d2 pg2 S2 mk pg1 now0 A lw Ac lc K1) := Lib.hid (by
                      obtain ⟨C5, now5, h5⟩ := hx5
                      exact ⟨K1, C5, now5, h5, HRS.out.step hs5⟩)
                    clear hx5 hs5 f1_ f2_ f3_ f4_ HRS HBd HWX HTX x2 c1 c2 c3 HN1 e1 e2
                    go_wp2_with fail
                    go_roundw
                    case rel => exact ⟨j + 1, int_eq (by omega), by omega, HR5⟩
                    case measure => simp [intOf]; omega
                  · go_upto_region 25 with fail
                    go_cut [107] from 100 to 130 (fun v107 wx => v107 = .bool false ∧ Hid (wx = wr))
                    case first =>
                      by_cases h1 : j < len1
                      · have e1 : decide ((j : Int) < (len1 : Int)) = true := decide_eq_true (by omega)
                        have e2 : decide ((j : Int) < 50) = false := decide_eq_false (by omega)
                        go_wp2_with fail
                        go_meet
                        case rel => exact ⟨rfl, Lib.hid rfl⟩
                      · have e1 : decide ((j : Int) < (len1 : Int)) = false := decide_eq_false (by omega)
                        go_wp2_with fail
                        go_meet
                        case rel => exact ⟨rfl, Lib.hid rfl⟩
                    case rest =>
                      obtain ⟨rfl, HC⟩ := hcut
                      have hcw := HC.out
                      subst hcw
                      obtain ⟨K1, C, now, hx, hrs⟩ := HJ.out
                      obtain ⟨K2, Q, q1, q2, q3, q4, q5, q6, q7, q8⟩ := id hrs
                      have x2 := hx.cells.2.2.1
                      have HBK := Lib.hid (bk_back hx q2 HN0.out.2.1 HN0.out.1 HN0.out.2.2)
                      have HRS := Lib.hid hrs
                      clear hx hrs q1 q2 q3 q4 q5 q6 q7 q8 HJ HC
                      go_wp2_with fail
                      refine HBK.out.mono ?_
                      rintro e w7 ⟨rfl, K7, hx7, hs7⟩
                      have hrs7 := HRS.out.step hs7
                      obtain ⟨K2', Q', q1, q2, q3, q4, q5, q6, q7, q8⟩ := id hrs7
                      obtain ⟨KB, hpb⟩ := hx7.pb
                      have hho := holds_any hpb A c lw q3 HLW.out.1 HLW.out.2.2 HN0.out.1 (by decide)
                      rw [decide_eq_true HLW.out.2.1] at hho
                      have HHO := Lib.hid hho
                      have x27 := hx7.cells.2.2.1
                      have HX7 := Lib.hid (And.intro hx7 hrs7)
                      clear hx7 hrs7 hs7 hho hpb q1 q2 q3 q4 q5 q6 q7 q8 HBK HRS x2
                      go_wp2_with fail
                      refine HHO.out.mono ?_
                      rintro e w8 ⟨rfl, hb8⟩
                      have hx8 := HX7.out.1.below hb8
                      have x28 := hx8.cells.2.2.1
                      have HCH := Lib.hid (bk_changed hx8)
                      have HX8 := Lib.hid (And.intro hx8 (HX7.out.2.below hb8))
                      clear hb8 hx8 x27 HX7 HHO
                      go_wp2_with fail
                      refine HCH.out.mono ?_
                      rintro e w9 ⟨A9, c9, rfl, hoz, hb9⟩
                      rw [HCL.out] at hoz
                      rw [HLC.out.2]
                      have hrs9 := HX8.out.2.below hb9
                      obtain ⟨K2', Q', q1, q2, q3, q4, q5, q6, q7, q8⟩ := id hrs9
                      have hin := ints_any A9 Ac lc lc c9 cc w9 (OwnZ.rd hoz) q4 (by have := HLC.out.1; unfold maxLen; omega) (by have := HLC.out.1; unfold maxLen; omega)
                      rw [decide_eq_true rfl] at hin
                      have HIN := Lib.hid hin
                      have HX9 := Lib.hid (And.intro (HX8.out.1.below hb9) hrs9)
                      clear hoz hb9 hrs9 q1 q2 q3 q4 q5 q6 q7 q8 HCH HX8 x28 hin
                      go_wp2_with fail
                      refine HIN.out.mono ?_
                      rintro e wA ⟨rfl, nA, rfl⟩
                      have HN : Hid (∃ K1, BkR (w9.drewN nA) x p1 d1 pg1 S1 40 8 12 1 [] 0 zeroP C0 now0 K1 ∧ RestI w (w9.drewN nA) y p2 d2 pg2 S2 mk pg1 now0 A lw Ac lc K1) := Lib.hid ⟨K7, HX9.out.1.below (below_drewN (Below.refl _ _) _), HX9.out.2.below (below_drewN (Below.refl _ _) _)⟩
                      clear HX9 HIN
                      generalize w9.drewN nA = wA at *
                      go_wp2_with fail
                      go_roundw
                      case rel => exact ⟨k + 1, int_eq (by omega), by omega, HN⟩
                      case measure => simp [intOf]; omega
              · obtain ⟨K1, hx, hrs⟩ := HI.out
                obtain ⟨K2, Q, hy, hmk, q3, q4, hd, q6, q7, q8⟩ := id hrs
                have hne : pg1 ≠ pg2 := fun e => hd pg1 hx.self.2 (by rw [e]; exact hy.self.2)
                obtain ⟨⟨t1, y1, hb1⟩, _⟩ := hx.self
                obtain ⟨⟨t2, y2_, hb2⟩, _⟩ := hy.self
                have HC1 : Hid (∀ W, Below wr.heap.size wr W → Calls Try.prog 64 #[ob pg2, ob mk] W fun e w' => Refused W e w') := Lib.hid fun W hb => bk_back_no (hy.below hb) (hmk.below hb) (hb1.below_ hb) (.inl hne)
                have HC2 : Hid (∀ W, Below wr.heap.size wr W → Calls Try.prog 62 #[ob pg2] W fun e w' => ∃ mk2 Q2, e = .returned (ob mk2) ∧ MkB w' mk2 pg2 12 (fun _ => none) 0 Q2 ∧ Below W.heap.size W w' ∧ Ge Q2 W.heap.size) := Lib.hid fun W hb => bk_mark (hy.below hb)
                have HC3 : Hid (∀ W mk2 Q2, Below wr.heap.size wr W → MkB W mk2 pg2 12 (fun _ => none) 0 Q2 → Calls Try.prog 64 #[ob pg1, ob mk2] W fun e w' => Refused W e w') := Lib.hid fun W mk2 Q2 hb hm => bk_back_no (hx.below hb) hm (hb2.below_ hb) (.inl (Ne.symm hne))
                have x2 := hx.cells.2.2.1
                have y2 := hy.cells.2.2.1
                have HXR := Lib.hid (And.intro hx hrs)
                have HBd : Hid (Below wr.heap.size wr wr.drew) := Lib.hid (Below.refl _ _).drew
                clear hx hrs hy hmk q3 q4 hd q6 q7 q8 hne hb1 hb2 HI
                go_wp2_with fail
                go_region_held3 (fun W : World => W.cell? ⟨x, 2, none⟩ = some (ob pg1) ∧ W.cell? ⟨y, 2, none⟩ = some (ob pg2)) (first | exact ⟨x2, y2⟩ | exact ⟨below_cell hbp x2, below_cell hbp y2⟩ | exact ⟨below_cell hbq x2, below_cell hbq y2⟩ | exact ⟨below_cell hbr x2, below_cell hbr y2⟩ | exact ⟨below_cell hbs x2, below_cell hbs y2⟩) (first | (go_at_call 64; (with_reducible refine (HC1.out _ HBd.out).mono ?_); rintro e wp ⟨rfl, hbp'⟩; have hbp : Below wr.heap.size wr wp := HBd.out.trans hbp') | (go_at_call 62; (with_reducible refine (HC2.out _ hbp).mono ?_); rintro e wq ⟨mk2, Q2, rfl, hmk2, hbq', _⟩; have hbq : Below wr.heap.size wr wq := hbp.trans (hbq'.mono hbp.size)) | (go_at_call 64; (with_reducible refine (HC3.out _ _ _ hbq hmk2).mono ?_); rintro e wrr ⟨rfl, hbr'⟩; have hbr : Below wr.heap.size wr wrr := hbq.trans (hbr'.mono hbq.size)) | (go_at_call 64; (with_reducible refine (back_nil _ _).mono ?_); rintro e wss ⟨rfl, hbs'⟩; have hbs : Below wr.heap.size wr wss := hbr.trans (hbs'.mono hbr.size)))
                have hxz := HXR.out.1.below hbs
                have x2z := hxz.cells.2.2.1
                have HCM := Lib.hid (bk_commit hxz (by decide) (by decide) (by decide))
                have HRZ := Lib.hid (HXR.out.2.below hbs)
                clear hxz hbs hbs' hbr hbr' hbq hbq' hbp hbp' hmk2 HC1 HC2 HC3 HXR HBd x2 y2
                go_wp2_with fail
                refine HCM.out.mono ?_
                rintro e wC (⟨_, _, _, _, q1, _⟩ | ⟨SC, KC, rfl, _, _, hxC, haC, hsC⟩ | ⟨SC, KC, gC, rfl, _, _, hxC, haC, hsC⟩)
                · exact absurd HARM.out q1
                · have hrC := HRZ.out.step hsC
                  obtain ⟨K2', Q', q1, q2, q3, q4, q5, q6, q7, q8⟩ := id hrC
                  have HBK := Lib.hid (bk_back hxC q2 HN0.out.2.1 HN0.out.1 HN0.out.2.2)
                  have x2C := hxC.cells.2.2.1
                  have HRC := Lib.hid hrC
                  clear hxC hrC hsC haC q1 q2 q3 q4 q5 q6 q7 q8 HCM HRZ x2z
                  go_wp2_with fail
                  refine HBK.out.mono ?_
                  rintro e wD ⟨rfl, KD, hxD, hsD⟩
                  obtain ⟨K3', Q3', q1, q2, q3, q4, q5, q6, q7, q8⟩ := HRC.out.step hsD
                  obtain ⟨KB, hpb⟩ := hxD.pb
                  have hho := holds_any hpb A c lw q3 HLW.out.1 HLW.out.2.2 HN0.out.1 (by decide)
                  rw [decide_eq_true HLW.out.2.1] at hho
                  have HHO := Lib.hid hho
                  have x2D := hxD.cells.2.2.1
                  have HBE := Lib.hid q8.be
                  clear hxD hsD hho hpb q1 q2 q3 q4 q5 q6 q7 q8 HBK HRC x2C
                  go_wp2_with fail
                  refine HHO.out.mono ?_
                  rintro e wE ⟨rfl, hbE⟩
                  go_wp2_with fail
                  go_ret
                  exact ⟨rfl, HBE.out.trans (hbE.mono HBE.out.size)⟩
                · have hrC := HRZ.out.step hsC
                  obtain ⟨K2', Q', q1, q2, q3, q4, q5, q6, q7, q8⟩ := hrC
                  obtain ⟨⟨tC, yC, hbC⟩, _⟩ := hxC.self
                  have HBK := Lib.hid (bk_back_no hxC q2 hbC (.inr (by decide)))
                  have x2C := hxC.cells.2.2.1
                  have HXC := Lib.hid (And.intro hxC (And.intro q3 q8.be))
                  clear hxC hsC haC q1 q2 q3 q4 q5 q6 q7 q8 HCM HRZ x2z hbC
                  go_wp2_with fail
                  refine HBK.out.mono ?_
                  rintro e wD ⟨rfl, hbD⟩
                  have hxD := HXC.out.1.below hbD
                  obtain ⟨KB, hpb⟩ := hxD.pb
                  have hho := holds_any hpb A c lw (HXC.out.2.1.below hbD) HLW.out.1 HLW.out.2.2 HN0.out.1 (by decide)
                  rw [decide_eq_true HLW.out.2.1] at hho
                  have HHO := Lib.hid hho
                  have x2D := hxD.cells.2.2.1
                  have HBE := Lib.hid (HXC.out.2.2.trans (hbD.mono HXC.out.2.2.size))
                  clear hxD hho hpb hbD HBK HXC x2C
                  go_wp2_with fail
                  refine HHO.out.mono ?_
                  rintro e wE ⟨rfl, hbE⟩
                  go_wp2_with fail
                  go_ret
                  exact ⟨rfl, HBE.out.trans (hbE.mono HBE.out.size)⟩
end Go.Proofs.Ytjmhfjioccljeaa
