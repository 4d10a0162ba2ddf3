/-
  Walks of package disk: Write.
-/
import Derived.Test.YtjmhfjioccljeaaDiskB
import Derived.Deep.RegionHeld3
import Derived.Deep.DrawnRows
import Derived.Laws.CopyOwn
namespace Go.Proofs.Ytjmhfjioccljeaa
open Go.RowKit
set_option linter.unusedVariables false
set_option linter.unusedSimpArgs false
attribute [local go_sem ↓] Go.wp_at_zero Go.wp_at_succ

theorem PwSelf.keep {w w' : World} {p : Nat} {sl : Value} {off : Bool} {arm : Int} (h : PwSelf w p sl off arm) (hp : w'.heap[p]? = w.heap[p]?) : PwSelf w' p sl off arm := by
  obtain ⟨lf, hb, hl⟩ := h
  exact ⟨lf, hp.trans hb, hl⟩
theorem PwSelf.lt {w : World} {p : Nat} {sl : Value} {off : Bool} {arm : Int} (h : PwSelf w p sl off arm) : p < w.heap.size := by
  obtain ⟨lf, hb, hl⟩ := h
  exact hb.lt
theorem Blk.ne_map {w : World} {g b n : Nat} {t kt : TypeId} {cs : Array Value} {f : Nat → Option Value} (h : Blk w g t cs) (hm : MapAt w kt b n f) : g ≠ b := by
  rintro rfl
  obtain ⟨_, _, ⟨es, cl, hmm, _⟩, _⟩ := hm
  unfold Blk at h
  rw [hmm] at h; cases h
theorem PwSelf.ne_map {w : World} {p b n : Nat} {sl : Value} {off : Bool} {arm : Int} {kt : TypeId} {f : Nat → Option Value} (h : PwSelf w p sl off arm) (hm : MapAt w kt b n f) : p ≠ b := by
  obtain ⟨lf, hb, _⟩ := h
  exact hb.ne_map hm
/-- one sector more is unsynced -/
theorem DkAt.add {w1 w2 w3 : World} {p d fb mb : Nat} {D : Dk} {og oc : Nat → Nat} (h : DkAt w1 p d D fb mb og oc) {s : Nat} (hs : s < D.nw.length) (hn : D.new s = false) {g c : Nat}
    (hb : Below w1.heap.size w1 w2) (ho : OwnB w2 w1.heap.size (some ⟨g, 0, none⟩) c (sec D.rd s)) (hm : MapAt w3 3 mb D.nw.length (fun x => if x = s then some (.slice (some ⟨g, 0, none⟩) 128 c) else oldF D og oc x))
    (hg : w2.grownBy w3 (some mb)) : DkAt w3 p d ⟨D.rd, D.la, D.nw.set s true⟩ fb mb (fun x => if x = s then g else og x) (fun x => if x = s then c else oc x) ∧
      Step (dkF D d fb mb og) (dkF ⟨D.rd, D.la, D.nw.set s true⟩ d fb mb (fun x => if x = s then g else og x)) w1 w3 ∧ w1.heap.size ≤ g := by
  have hgl := OwnR.lt ho g rfl
  have hnew : ∀ x, (⟨D.rd, D.la, D.nw.set s true⟩ : Dk).new x = (D.new x || decide (x = s)) := fun x => by
    unfold Dk.new
    by_cases hx : x = s
    · subst hx; simp [List.getD, hs]
    · simp [List.getD, List.getElem?_set, Ne.symm hx, hx]
  have hsame : ∀ i, i < w1.heap.size → i ≠ mb → w3.heap[i]? = w1.heap[i]? := fun i hi hne => (hg.block i (Nat.lt_of_lt_of_le hi hb.size) (by simpa using hne)).trans (hb.block i hi)
  have hmb := h.map.lt
  refine ⟨⟨⟨?_, ?_, fun x hx hnx => ?_⟩, ?_, ?_, ?_, ?_, ?_, fun x hx => ?_, fun x y hx hy e => ?_, fun x hx => ?_⟩, ?_, hgl.1⟩
  · simpa using h.ok.rd
  · simpa using h.ok.la
  · rw [hnew, Bool.or_eq_false_iff] at hnx
    exact h.ok.eq x (by simpa using hx) hnx.1
  · simpa using h.pos
  · simpa using h.lim
  · exact (hsame d h.self.lt (by rintro rfl; obtain ⟨_, _, ⟨es, cl, hmm, _⟩, _⟩ := h.map; have := h.self; unfold Blk at this; rw [hmm] at this; cases this)).trans h.self
  · exact (hsame fb h.data.lt (by rintro rfl; obtain ⟨_, _, ⟨es, cl, hmm, _⟩, _⟩ := h.map; have := h.data; unfold Blk at this; rw [hmm] at this; cases this)).trans h.data
  · have e : (⟨D.rd, D.la, D.nw.set s true⟩ : Dk).nw.length = D.nw.length := by simp
    rw [e]
    refine hm.congr fun x => ?_
    unfold oldF oldV
    rw [hnew]
    by_cases hx : x = s
    · subst hx; simp
    · simp [hx]
  · rw [hnew] at hx
    by_cases hxs : x = s
    · subst hxs
      simp only [if_true]
      have e : sec D.la x = sec D.rd x := (h.ok.eq x hs hn).symm
      show OwnB w3 0 (some ⟨g, 0, none⟩) c (sec D.la x)
      rw [e]
      exact OwnR.mono (OwnR.block ho fun k hk => by
        have : k = g := by simpa [blk] using hk.symm
        subst this
        exact hg.block k hgl.2 (by simp; omega)) (Nat.zero_le _)
    · simp only [if_neg hxs]
      have hx' : D.new x = true := by simpa [hxs] using hx
      refine OwnR.block (h.old x hx') fun k hk => ?_
      have hk' : k = og x := by simpa [blk] using hk.symm
      subst hk'
      refine hsame _ (OwnR.lt (h.old x hx') _ rfl).2 fun e => ?_
      obtain ⟨_, _, ⟨es, cl, hmm, _⟩, _⟩ := h.map
      rcases (h.old x hx').2 with ⟨h0, _⟩ | ⟨g', cap, cur, he, _, hh, _⟩
      · simp at h0
      · have : og x = g' := by simp at he; exact he.1
        rw [← this, e, hmm] at hh; cases hh
  · rw [hnew] at hx hy
    by_cases hxs : x = s <;> by_cases hys : y = s
    · rw [hxs, hys]
    · have hy' : D.new y = true := by simpa [hys] using hy
      have : og y < w1.heap.size := (OwnR.lt (h.old y hy') _ rfl).2
      simp only [if_pos hxs, if_neg hys] at e
      omega
    · have hx' : D.new x = true := by simpa [hxs] using hx
      have : og x < w1.heap.size := (OwnR.lt (h.old x hx') _ rfl).2
      simp only [if_neg hxs, if_pos hys] at e
      omega
    · simp only [if_neg hxs, if_neg hys] at e
      exact h.inj x y (by simpa [hxs] using hx) (by simpa [hys] using hy) e
  · rw [hnew] at hx
    by_cases hxs : x = s
    · simp only [if_pos hxs]
      have := h.data.lt
      omega
    · simp only [if_neg hxs]
      exact h.far x (by simpa [hxs] using hx)
  · refine ⟨hg.os.trans hb.os, hg.tape.trans hb.tape, hg.output.trans hb.output, Nat.le_trans hb.size hg.size, fun i hi hF => hsame i hi fun e => hF (.inr (.inr (.inl e))), fun i hi => ?_⟩
    rcases hi with rfl | rfl | rfl | ⟨x, hx, rfl⟩
    · exact .inl (.inl rfl)
    · exact .inl (.inr (.inl rfl))
    · exact .inl (.inr (.inr (.inl rfl)))
    · rw [hnew] at hx
      by_cases hxs : x = s
      · simp only [if_pos hxs]; exact .inr hgl.1
      · simp only [if_neg hxs]; exact .inl (.inr (.inr (.inr ⟨x, by simpa [hxs] using hx, rfl⟩)))
/-- what is read turns -/
theorem DkAt.setrd {w w' : World} {p d fb mb : Nat} {D : Dk} {og oc : Nat → Nat} (h : DkAt w p d D fb mb og oc) {rd' : List UInt8} (hb : Blk w' fb 5 (bc rd').toArray) (hg : w.grownBy w' (some fb)) (hok : Dk.Ok ⟨rd', D.la, D.nw⟩) :
    DkAt w' p d ⟨rd', D.la, D.nw⟩ fb mb og oc ∧ Step (dkF D d fb mb og) (dkF ⟨rd', D.la, D.nw⟩ d fb mb og) w w' := by
  have hd : d ≠ fb := Blk.ne_ h.self h.data (by decide)
  have hm : fb ≠ mb := h.data.ne_map h.map
  have hsz : (⟨rd', D.la, D.nw⟩ : Dk).size = D.size := by
    have h1 := hok.rd
    have h2 := h.ok.rd
    show rd'.length = D.rd.length
    exact h1.trans h2.symm
  refine ⟨⟨hok, h.pos, h.lim, ?_, hb, h.map.keep (hg.block mb h.map.lt (by simpa using Ne.symm hm)), fun s hs => ?_, h.inj, h.far⟩, ⟨hg.os, hg.tape, hg.output, hg.size, fun i hi hF => hg.block i hi (by
    intro e
    have : i = fb := by simpa using e
    exact hF (.inr (.inl this))), fun i hi => .inl hi⟩⟩
  · rw [hsz]
    exact (hg.block d h.self.lt (by simpa using hd)).trans h.self
  · have hs' : D.new s = true := hs
    refine OwnR.block (h.old s hs') fun k hk => ?_
    have hk' : k = og s := by simpa [blk] using hk.symm
    subst hk'
    exact hg.block _ (OwnR.lt (h.old s hs') _ rfl).2 (by simpa using h.far s hs')
theorem nw_end {D : Dk} {nw' : List Bool} {o k : Nat} {b : List UInt8} (hl : nw'.length = D.nw.length) (h : ∀ s, s < D.nw.length → nw'.getD s false = (D.new s || decide (0 < b.length ∧ o / 128 ≤ s ∧ s < k)))
    (hk : ¬ 0 < b.length ∨ ¬ k * 128 < o + b.length) (hk2 : k = o / 128 ∨ (k - 1) * 128 < o + b.length) (hk3 : o / 128 ≤ k) : nw' = (D.write o b).nw := by
  apply List.ext_getElem (by rw [write_nw, hl])
  intro s h1 h2
  have e1 : nw'[s] = nw'.getD s false := (getD_eq _ _ _ h1).symm
  have e2 : (D.write o b).nw[s] = (D.write o b).new s := (getD_eq _ _ _ h2).symm
  rw [e1, e2, h s (by omega), write_new _ _ _ _ (by omega)]
  congr 1
  unfold touch
  rw [decide_eq_decide]
  omega
/-- what Write leaves -/
def writeE (D : Dk) (off : Bool) (arm o n : Int) : Int := if inB D.size o n = true then (useP off arm).1 else 1
def writeOff (D : Dk) (off : Bool) (arm o n : Int) : Bool := if inB D.size o n = true then (useP off arm).2.1 else off
def writeArm (D : Dk) (off : Bool) (arm o n : Int) : Int := if inB D.size o n = true then (useP off arm).2.2 else arm
def writeD (D : Dk) (off : Bool) (arm o : Int) (b : List UInt8) : Dk := if writeE D off arm o b.length = 0 then D.write o.toNat b else D
def WriteSpec (p d : Nat) (D : Dk) (fb mb : Nat) (og : Nat → Nat) (sl : Value) (off : Bool) (arm o : Int) (b : List UInt8) (w : World) (e : Ending) (w' : World) : Prop :=
  e = .returned (.int .i64 (writeE D off arm o b.length)) ∧ PwSelf w' p sl (writeOff D off arm o b.length) (writeArm D off arm o b.length) ∧
    ∃ og' oc', DkAt w' p d (writeD D off arm o b) fb mb og' oc' ∧ Step (Un (one p) (dkF D d fb mb og)) (Un (one p) (dkF (writeD D off arm o b) d fb mb og')) w w'
theorem useP_err (off : Bool) (arm : Int) : (useP off arm).1 = 0 ∨ (useP off arm).1 = 4 := by
  unfold useP; split <;> simp
/-- behind some rounds: the sectors from o's up to k are unsynced -/
def WLoop (p d : Nat) (D : Dk) (fb mb : Nat) (og : Nat → Nat) (sl : Value) (off : Bool) (arm : Int) (o n k : Nat) (w wr : World) : Prop :=
  ∃ nw' og' oc', nw'.length = D.nw.length ∧ (∀ s, s < D.nw.length → nw'.getD s false = (D.new s || decide (0 < n ∧ o / 128 ≤ s ∧ s < k))) ∧ DkAt wr p d ⟨D.rd, D.la, nw'⟩ fb mb og' oc' ∧ PwSelf wr p sl off arm ∧
    Step (Un (one p) (dkF D d fb mb og)) (Un (one p) (dkF ⟨D.rd, D.la, nw'⟩ d fb mb og')) w wr
theorem wloop_start {p d fb mb : Nat} {D : Dk} {og oc : Nat → Nat} {sl : Value} {off : Bool} {arm : Int} {o n : Nat} {w w1 : World} (h : DkAt w p d D fb mb og oc) (hs : Step (one p) (one p) w w1) (hp : PwSelf w1 p sl off arm) (hpn : ¬ dkF D d fb mb og p) :
    WLoop p d D fb mb og sl off arm o n (o / 128) w w1 :=
  ⟨D.nw, og, oc, rfl, fun s hs => by
    have e : decide (0 < n ∧ o / 128 ≤ s ∧ s < o / 128) = false := by rw [decide_eq_false_iff_not]; omega
    rw [e, Bool.or_false]; rfl, h.keep (hs.same (fun i h1 h2 => hpn (by unfold one at h1; rwa [h1] at h2)) h.lt) hs.size, hp, hs.frame _⟩
theorem nw_skip {D : Dk} {nw' : List Bool} {o n k : Nat} (hn : 0 < n) (hk : o / 128 ≤ k) (h : ∀ s, s < D.nw.length → nw'.getD s false = (D.new s || decide (0 < n ∧ o / 128 ≤ s ∧ s < k))) (hq : k < D.nw.length) (ht : nw'.getD k false = true) :
    ∀ s, s < D.nw.length → nw'.getD s false = (D.new s || decide (0 < n ∧ o / 128 ≤ s ∧ s < k + 1)) := fun s hs => by
  by_cases e : s = k
  · subst e
    have h1 := h s hs
    rw [ht] at h1 ⊢
    have e2 : decide (0 < n ∧ o / 128 ≤ s ∧ s < s + 1) = true := by simp; omega
    rw [e2, Bool.or_true]
  · rw [h s hs]
    have e2 : decide (0 < n ∧ o / 128 ≤ s ∧ s < k) = decide (0 < n ∧ o / 128 ≤ s ∧ s < k + 1) := by
      rw [decide_eq_decide]; omega
    rw [e2]
theorem nw_add {D : Dk} {nw' : List Bool} {o n k : Nat} (hn : 0 < n) (hk : o / 128 ≤ k) (hl : nw'.length = D.nw.length) (h : ∀ s, s < D.nw.length → nw'.getD s false = (D.new s || decide (0 < n ∧ o / 128 ≤ s ∧ s < k))) (hq : k < D.nw.length) :
    ∀ s, s < D.nw.length → (nw'.set k true).getD s false = (D.new s || decide (0 < n ∧ o / 128 ≤ s ∧ s < k + 1)) := fun s hs => by
  by_cases e : s = k
  · subst e
    have e2 : decide (0 < n ∧ o / 128 ≤ s ∧ s < s + 1) = true := by simp; omega
    rw [e2, Bool.or_true]
    simp [List.getD, hl, hq]
  · have e3 : (nw'.set k true).getD s false = nw'.getD s false := by simp [List.getD, List.getElem?_set, Ne.symm e]
    rw [e3, h s hs]
    have e2 : decide (0 < n ∧ o / 128 ≤ s ∧ s < k) = decide (0 < n ∧ o / 128 ≤ s ∧ s < k + 1) := by
      rw [decide_eq_decide]; omega
    rw [e2]
theorem store_old {w w2 : World} {mb N k : Nat} {f : Nat → Option Value} (h : MapAt w 3 mb N f) (hb : Below w.heap.size w w2) (hk : k < N) (v : Value) :
    ∃ w3, (Instr.mapUpdate 118 (.map (some mb)) (.int .i64 (k : Int)) v).run Try.prog w2 = .ok () w3 ∧ MapAt w3 3 mb N (fun x => if x = k then some v else f x) ∧ w2.grownBy w3 (some mb) := by
  obtain ⟨w3, h1, h2, h3, _⟩ := (h.keep (hb.block mb h.lt)).store Try.underlying3 Try.underlying118 k hk v
  exact ⟨w3, h1, h2, h3⟩
theorem undrew {w w2 : World} (h : Below w.drew.heap.size w.drew w2) : Below w.heap.size w w2 := ⟨h.os, h.tape, h.output, h.size, h.block⟩
theorem cell_after {wr w2 w3 : World} {d mb j : Nat} {v : Value} (hc : wr.cell? ⟨d, j, none⟩ = some v) (hb : Below wr.heap.size wr w2) (hg : w2.grownBy w3 (some mb)) (hd : d < wr.heap.size) (hne : d ≠ mb) : w3.cell? ⟨d, j, none⟩ = some v :=
  (World.cell?_of_block (a := ⟨d, j, none⟩) (hg.block d (Nat.lt_of_lt_of_le hd hb.size) (by simpa using hne))).trans ((hb.cell (p := ⟨d, j, none⟩) hd).trans hc)
theorem splice_bc (l b : List UInt8) (o : Nat) : (bc l).take o ++ bc b ++ (bc l).drop (o + (bc b).length) = bc (putAt l o b) := by
  unfold putAt
  rw [bc_append, bc_append, bc_length]
  simp [bc]
theorem info_u8_size : (Try.prog.info? 5).map (·.size) = some 1 := by kernel_rfl
theorem grown_setRow (w : World) (g : Nat) (cs : Array Value) : w.grownBy (w.setRow g cs) (some g) := ⟨rfl, rfl, rfl, by simp [World.setRow], fun k _ hk => setRow_other w g k cs (by simpa using hk)⟩
/-- 'copy' of bytes into a block of bytes -/
theorem run_copyB {w : World} (ty : TypeId) {sp : Option Addr} (dLen dCap sLen sCap : Nat) (g off : Nat) (l src : List UInt8) (hg : Blk w g 5 (bc l).toArray) (hn : src.length = Nat.min sLen dLen)
    (h0 : 0 < src.length) (hsrc : RdB w sp src) (hfit : off + src.length ≤ l.length) :
    ∃ w', (∀ ty, (Builtin.copy_ #[37, 37] ty #[.slice (some ⟨g, off, none⟩) dLen dCap, .slice sp sLen sCap]).run Try.prog w = .ok (.int .i64 (src.length : Int)) w') ∧ Blk w' g 5 (bc (putAt l off src)).toArray ∧ w.grownBy w' (some g) := by
  obtain ⟨ad, rfl, hc⟩ := hsrc h0
  have e : ((bc l).toArray.toList.take off ++ bc src ++ (bc l).toArray.toList.drop (off + (bc src).length)) = bc (putAt l off src) := by
    rw [← splice_bc]
  refine ⟨w.setRow g (bc (putAt l off src)).toArray, fun ty => ?_, setRow_heap w g _ _ _ _ hg, grown_setRow w g _⟩
  have hr := run_copy_row (P := Try.prog) w 37 37 ty 5 g off dLen dCap ad sLen sCap (bc l).toArray 5 (bc src) Try.underlying37 info_u8_size hg (by rw [bc_length]; exact hn) (fun j v hj => by
    have hj' : j < src.length := by have := (List.getElem?_eq_some_iff.1 hj).1; rwa [bc_length] at this
    rw [bc_get src j hj'] at hj
    rw [hc j hj']; exact hj) (by simp [bc_length]; omega) (bc_one src)
  rw [e, bc_length] at hr
  exact hr
theorem run_copy0 (w : World) (ty : TypeId) (dp sp : Option Addr) (dLen dCap sCap : Nat) : (Builtin.copy_ #[37, 37] ty #[.slice dp dLen dCap, .slice sp 0 sCap]).run Try.prog w = .ok (.int .i64 0) w :=
  run_copy_none (P := Try.prog) w 37 37 ty 5 dp sp dLen dCap 0 sCap Try.underlying37 info_u8_size (by simp)
theorem zero_bytes (w : World) : (zeroValue 37).run Try.prog w = .ok (.slice none 0 0) w := by kernel_rfl
set_option maxRecDepth 100000 in
set_option maxHeartbeats 2000000 in
theorem write_at {p d fb mb : Nat} {D : Dk} {og oc : Nat → Nat} {sl : Value} {off : Bool} {arm : Int} (o : Int) (A : Option Addr) (b : List UInt8) (c : Nat) (w : World) (h : DkAt w p d D fb mb og oc) (hp : PwSelf w p sl off arm)
    (hlo : -1 ≤ arm ∧ arm ≤ 9223372036854775807) (hpn : ¬ dkF D d fb mb og p) (ho : -9223372036854775808 ≤ o ∧ o ≤ 9223372036854775807) (hbl : b.length ≤ maxLen)
    (hA : RdB w A b) (hAn : ∀ ad, A = some ad → ad.block ≠ p ∧ ¬ dkF D d fb mb og ad.block) :
    Calls Try.prog 67 #[ob d, .int .i64 o, .slice A b.length c] w fun e w' => WriteSpec p d D fb mb og sl off arm o b w e w' := by
  unfold maxLen at hbl
  have hsz := h.size
  have hlim := h.lim
  have hi := in_any p d fb mb D.size o b.length w h.self (by omega) ho (by omega)
  have hu := use_any p sl off arm w hp hlo
  have c0 := h.self.cell 0
  have c1 := h.self.cell 1
  have c2 := h.self.cell 2
  simp at c0 c1 c2
  have HI := Lib.hid hi
  have HU := Lib.hid hu
  have HD := Lib.hid h
  have HP := Lib.hid hp
  have HS := Lib.hid hsz
  have hs2 : D.size ≤ 2097152 := by omega
  have HA := Lib.hid hA
  have HAN := Lib.hid hAn
  have HNF : Hid (∀ ad, A = some ad → ¬ Un (one p) (dkF D d fb mb og) ad.block) := Lib.hid fun ad e h => by
    rcases h with h | h
    · exact (hAn ad e).1 h
    · exact (hAn ad e).2 h
  have HPN := Lib.hid hpn
  obtain ⟨n, hn⟩ : ∃ n, b.length = n := ⟨_, rfl⟩
  have HN : Hid (b.length = n) := Lib.hid hn
  rw [hn] at HI hbl
  rw [hn]
  clear h hp hi hu hsz hlim hn hA hAn hpn hlo
  by_cases hin : inB D.size o n = true
  · rw [hin] at HI
    have hin' := hin
    simp only [inB, decide_eq_true_eq] at hin'
    obtain ⟨o, rfl⟩ := Int.eq_ofNat_of_zero_le hin'.1
    have hle : o + n ≤ D.size := by omega
    by_cases hz : (useP off arm).1 = 0
    · have HX : Hid (writeE D off arm o n = 0 ∧ writeOff D off arm o n = (useP off arm).2.1 ∧ writeArm D off arm o n = (useP off arm).2.2 ∧ writeD D off arm o b = D.write o b) := Lib.hid (by
        have := HN.out
        simp [writeE, writeOff, writeArm, writeD, hin, this, hz])
      have HZ := Lib.hid hz
      clear hin hin' hz
      obtain ⟨N, hNn⟩ : ∃ N, D.nw.length = N := ⟨_, rfl⟩
      have HNn : Hid (D.nw.length = N) := Lib.hid hNn
      have hsN : D.size = 128 * N := by rw [← hNn]; exact HS.out
      have hN : N ≤ 16384 := by have := HD.out.lim; omega
      obtain ⟨z, hz⟩ : ∃ z, D.size = z := ⟨_, rfl⟩
      have HSZ : Hid (D.size = z) := Lib.hid hz
      have hzN : z ≤ 2097152 ∧ o + n ≤ z := by omega
      have HZN : Hid (z = 128 * N) := Lib.hid (by omega)
      rw [hz] at c1
      clear hz hNn hsN hs2 hle
      obtain ⟨hzl, hon⟩ := hzN
      go_enter Try.func67, Try.ntmps67
      go_wp2_with fail
      refine HI.out.mono ?_
      rintro e w1 ⟨rfl, rfl⟩
      go_wp2_with fail
      refine HU.out.mono ?_
      rintro e w1 ⟨rfl, hps, hst⟩
      rw [HZ.out]
      have HPS := Lib.hid hps
      have HST := Lib.hid hst
      clear hps hst HU HI
      go_wp2_with fail
      have hq : ((o / 128 : Nat) : Int) = (o : Int) / 128 := by omega
      go_loopw [8] (fun s wr => ∃ (k : Nat), s = .int .i64 (k : Int) ∧ k ≤ N ∧ o / 128 ≤ k ∧ (k = o / 128 ∨ (k - 1) * 128 < o + n) ∧ Hid (WLoop p d D fb mb og sl (useP off arm).2.1 (useP off arm).2.2 o n k w wr)) (fun s _ => N - (RowKit.intOf s).toNat)
      case atStart =>
        exact ⟨o / 128, by rw [hq], by have := HZN.out; omega, Nat.le_refl _, .inl rfl, Lib.hid (wloop_start HD.out HST.out HPS.out HPN.out)⟩
      case round =>
        obtain ⟨k, rfl, hk, hok, hkb, HW⟩ := hrel
        obtain ⟨nw', og', oc', hnl, hnw, hdk, hps, hst⟩ := HW.out
        have g0 := hdk.self.cell 0
        have g1 := hdk.self.cell 1
        have g2 := hdk.self.cell 2
        simp at g0 g1 g2
        have eS : (⟨D.rd, D.la, nw'⟩ : Dk).size = z := HSZ.out
        rw [eS] at g1
        by_cases hgo : 0 < n ∧ k * 128 < o + n
        · obtain ⟨hn0, hlt⟩ := hgo
          all_goals
            have hkN : k < N := by have := HZN.out; omega
            have hlk := hdk.map.look_ok Try.underlying3 Try.underlying118 (zero_bytes wr) k (by omega)
            have HDK := Lib.hid hdk
            have HNL := Lib.hid hnl
            have HNW := Lib.hid hnw
            have HST2 := Lib.hid hst
            have HPS2 := Lib.hid hps
            have eS' := Lib.hid eS
            clear hnl hnw hdk hps hst HST HPS eS hq
            have hc1 : (k : Int) * 128 < (o : Int) + n := by omega
            by_cases hnew : (⟨D.rd, D.la, nw'⟩ : Dk).new k = true
            · have e1 : oldF ⟨D.rd, D.la, nw'⟩ og' oc' k = some (oldV og' oc' k) := by unfold oldF; rw [if_pos hnew]
              rw [e1] at hlk
              simp only [Option.getD_some, Option.isSome_some] at hlk
              have HT := Lib.hid hnew
              clear hnew
              go_wp2_with fail
              exact ⟨⟨k + 1, int_eq (by omega), by omega, by omega, .inr (by simpa using hlt), Lib.hid ⟨nw', og', oc', HNL.out, nw_skip hn0 hok HNW.out (by rw [HNn.out]; exact hkN) HT.out, HDK.out, HPS2.out, HST2.out⟩⟩, by simp [RowKit.intOf]; omega⟩
            · have hnew' : (⟨D.rd, D.la, nw'⟩ : Dk).new k = false := by simpa using hnew
              have e1 : oldF ⟨D.rd, D.la, nw'⟩ og' oc' k = none := by unfold oldF; rw [if_neg hnew]
              rw [e1] at hlk
              simp only [Option.getD_none, Option.isSome_none] at hlk
              have HT := Lib.hid hnew'
              clear hnew hnew'
              have HSELF : Hid (DkSelf wr p d fb z mb) := Lib.hid (by have := HDK.out.self; rw [eS'.out] at this; exact this)
              have HRD : Hid (RdB wr (some ⟨fb, 128 * k, none⟩) (sec D.rd k)) := Lib.hid ((rd_blk HDK.out.data (128 * k)).take 128)
              have HL : Hid (128 = (sec D.rd k).length) := Lib.hid (by
                have h1 := HZN.out
                have h2 : D.rd.length = z := HSZ.out
                simp [sec]; omega)
              have HDL : Hid (d < wr.heap.size) := Lib.hid HDK.out.self.lt
              have HDM : Hid (d ≠ mb) := Lib.hid (HDK.out.self.ne_map HDK.out.map)
              have HKN : Hid (k < (⟨D.rd, D.la, nw'⟩ : Dk).nw.length) := Lib.hid (by show k < nw'.length; rw [HNL.out, HNn.out]; exact hkN)
              have HMAP := Lib.hid HDK.out.map
              have hkz : 128 * k + 128 ≤ z := by have := HZN.out; omega
              go_wp2_with fail
              go_region_held3 (fun W : World => W.cell? ⟨d, 2, none⟩ = some (.map (some mb))) (first | exact g2 | exact ((undrew hb).cell (p := ⟨d, 2, none⟩) HDL.out).trans g2 | exact cell_after g2 hb2 hg3 HDL.out HDM.out) (first | (go_at_call 77; refine (sector_any p d fb mb z k _ (Blk.drew HSELF.out) hzl hkz).mono ?_; rintro e w' ⟨rfl, rfl⟩) | (go_at_call 66; refine (clone_any ⟨fb, 128 * k, none⟩ (sec D.rd k) 128 (z - 128 * k) _ HL.out (by rw [← HL.out]; omega) HRD.out.drew).mono ?_; rintro e w2 ⟨A2, c2, rfl, hown, hb⟩; obtain ⟨gg, rfl⟩ := OwnR.some_ hown (by rw [← HL.out]; omega); obtain ⟨w3, hmu, hm3, hg3⟩ := store_old HMAP.out (undrew hb) HKN.out (.slice (some ⟨gg, 0, none⟩) 128 c2); have hb2 := undrew hb))
              have HADD := Lib.hid (HDK.out.add HKN.out HT.out hb2 hown hm3 hg3)
              have HP3 : Hid (PwSelf w3 p sl (useP off arm).2.1 (useP off arm).2.2) := Lib.hid (HPS2.out.keep ((hg3.block p (Nat.lt_of_lt_of_le HPS2.out.lt hb2.size) (by
                have := HPS2.out.ne_map HDK.out.map
                simpa using this)).trans (hb2.block p HPS2.out.lt)))
              clear hmu hm3 hg3 hown hb hb2
              go_simp
              go_wp2_with fail
              obtain ⟨a1, a2, a3⟩ := HADD.out
              refine ⟨⟨k + 1, int_eq (by omega), by omega, by omega, .inr (by simpa using hlt), Lib.hid ⟨nw'.set k true, _, _, by simp [HNL.out], nw_add hn0 hok HNL.out HNW.out (by rw [HNn.out]; exact hkN), a1, HP3.out, HST2.out.trans (a2.frameL _)⟩⟩, by simp [RowKit.intOf]; omega⟩
        · have hc0 : 0 < n → ¬ k * 128 < o + n := fun h1 h2 => hgo ⟨h1, h2⟩
          have HDK := Lib.hid hdk
          have HNL := Lib.hid hnl
          have HNW := Lib.hid hnw
          have HST2 := Lib.hid hst
          have HPS2 := Lib.hid hps
          clear hnl hnw hdk hps hst HST HPS eS hq
          have HEND : Hid (∀ w4, Blk w4 fb 5 (bc (putAt D.rd o b)).toArray → wr.grownBy w4 (some fb) → WriteSpec p d D fb mb og sl off arm (o : Int) b w (.returned (.int .i64 0)) w4) := Lib.hid fun w4 hb4 hg4 => by
            obtain ⟨x1, x2, x3, x4⟩ := HX.out
            unfold WriteSpec
            rw [HN.out, x1, x2, x3, x4]
            have hbz : o + b.length ≤ D.size := by rw [HN.out, HSZ.out]; exact hon
            have hnwe := nw_end HNL.out (b := b) (by rw [HN.out]; exact HNW.out) (by rw [HN.out]; by_cases h0 : 0 < n; exact .inr (hc0 h0); exact .inl h0) (by rw [HN.out]; exact hkb) hok
            have hdk' := HDK.out
            have hst' := HST2.out
            rw [hnwe] at hdk' hst'
            obtain ⟨r1, r2⟩ := hdk'.setrd hb4 hg4 (write_ok HD.out.ok hbz)
            have hne := HPS2.out
            refine ⟨rfl, HPS2.out.keep (hg4.block p HPS2.out.lt ?_), og', oc', r1, hst'.trans (r2.frameL _)⟩
            obtain ⟨lf, hpb, _⟩ := HPS2.out
            have := Blk.ne_ hpb hdk'.data (by decide)
            simpa using this
          clear HW
          by_cases hn0 : 0 < n
          · have hoz : ¬ z = o := by omega
            have hc1 : ¬ (k : Int) * 128 < (o : Int) + n := by have := hc0 hn0; omega
            obtain ⟨w4, hcp, hb4, hg4⟩ := run_copyB 3 (z - o) (z - o) n c fb o D.rd b HDK.out.data (by rw [HN.out]; show n = min n (z - o); omega) (by rw [HN.out]; exact hn0) (HA.out.step HST2.out fun ad e => HNF.out ad e) (by rw [HN.out]; have : D.rd.length = z := HSZ.out; omega)
            rw [HN.out] at hcp
            have HB4 := Lib.hid hb4
            have HG4 := Lib.hid hg4
            clear hb4 hg4
            go_wp2_with fail
            go_ret
            exact HEND.out w4 HB4.out HG4.out
          · obtain rfl : n = 0 := by omega
            have hcp := fun ty dp dLen dCap => run_copy0 wr ty dp A dLen dCap c
            have HB4 : Hid (Blk wr fb 5 (bc (putAt D.rd o b)).toArray) := Lib.hid (by
              have hb0 : b = [] := List.eq_nil_of_length_eq_zero HN.out
              subst hb0
              simpa [putAt] using HDK.out.data)
            go_wp2_with fail
            all_goals
              go_ret
              exact HEND.out wr HB4.out ⟨rfl, rfl, rfl, Nat.le_refl _, fun _ _ _ => rfl⟩
    · have h4 : (useP off arm).1 = 4 := by rcases useP_err off arm with h | h; exact absurd h hz; exact h
      have HX : Hid (writeE D off arm o n = 4 ∧ writeOff D off arm o n = (useP off arm).2.1 ∧ writeArm D off arm o n = (useP off arm).2.2 ∧ writeD D off arm o b = D) := Lib.hid (by
        have := HN.out
        simp [writeE, writeOff, writeArm, writeD, hin, this, h4])
      have H4 := Lib.hid h4
      clear hin hin' hz h4
      go_enter Try.func67, Try.ntmps67
      go_wp2_with fail
      refine HI.out.mono ?_
      rintro e w1 ⟨rfl, rfl⟩
      go_wp2_with fail
      refine HU.out.mono ?_
      rintro e w1 ⟨rfl, hps, hst⟩
      rw [H4.out]
      have HPS := Lib.hid hps
      have HST := Lib.hid hst
      clear hps hst HU HI
      go_wp2_with fail
      go_ret
      unfold WriteSpec
      obtain ⟨x1, x2, x3, x4⟩ := HX.out
      rw [HN.out, x1, x2, x3, x4]
      exact ⟨rfl, HPS.out, og, oc, HD.out.keep (HST.out.same (fun i h1 h2 => HPN.out (by unfold one at h1; rwa [h1] at h2)) HD.out.lt) HST.out.size, HST.out.frame _⟩
  · have hin' : inB D.size o n = false := by simpa using hin
    rw [hin'] at HI
    have HX : Hid (writeE D off arm o n = 1 ∧ writeOff D off arm o n = off ∧ writeArm D off arm o n = arm ∧ writeD D off arm o b = D) := Lib.hid (by
      have := HN.out
      simp [writeE, writeOff, writeArm, writeD, hin', this])
    clear hin hin'
    go_enter Try.func67, Try.ntmps67
    go_wp2_with fail
    refine HI.out.mono ?_
    rintro e w1 ⟨rfl, rfl⟩
    go_wp2_with fail
    go_ret
    unfold WriteSpec
    obtain ⟨x1, x2, x3, x4⟩ := HX.out
    rw [HN.out, x1, x2, x3, x4]
    exact ⟨rfl, HP.out, og, oc, HD.out, Step.refl _ _⟩
end Go.Proofs.Ytjmhfjioccljeaa
