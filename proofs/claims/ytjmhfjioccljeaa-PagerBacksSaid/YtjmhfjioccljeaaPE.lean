/-
  PE: PgN PgO PgP
-/
import Derived.Test.YtjmhfjioccljeaaPD
import Derived.Test.YtjmhfjioccljeaaLaw1A
import Derived.Deep.RegionHeld3
import Derived.Deep.DrawnRows
import Derived.Test.YtjmhfjioccljeaaTxt
/-
  Walks of the laws of layer 14: config, bound.
-/
namespace Go.Proofs.Ytjmhfjioccljeaa
open Go.RowKit
set_option linter.unusedVariables false
set_option linter.unusedSimpArgs false
attribute [local go_sem ↓] Go.wp_at_zero Go.wp_at_succ

theorem config_any (w : World) : Calls Try.prog 52 #[] w fun e w' => BelowV (cfg 8 12) w e w' := by
  have hb : Below w.heap.size w (w.alloc (.cells #[.int .i64 8, .int .i64 12] 89)) := (Below.refl _ _).alloc (Nat.le_refl _) _
  go_enter Try.func52, Try.ntmps52
  go_wp2_with fail
  go_returns
  exact ⟨rfl, hb⟩
/-- a pager, and what lies on its disk -/
def PgB (w : World) (p d pg : Nat) (S : St) (n L N g : Nat) (rs : List (List Pt)) (rd : Int) (A C : Pgs) (now : Pmap) (K : Nat → Prop) : Prop :=
  ∃ j J ms mn sure H, PgAt w p d pg j S J L N rd ms mn sure now H ∧ Pg S J n L N g rs A C sure now ∧ K = pgF H pg ms mn
/-- a law's book: a power, its disk, a pager -/
def BkR (w : World) (x p d pg : Nat) (S : St) (n L N g : Nat) (rs : List (List Pt)) (rd : Int) (A C : Pgs) (now : Pmap) (K : Nat → Prop) : Prop :=
  ∃ K1, PgB w p d pg S n L N g rs rd A C now K1 ∧ Blk w x 84 #[ob p, ob d, ob pg] ∧ ¬ K1 x ∧ K = Un K1 (one x)
section
variable {w w' : World} {x p d pg n L N g : Nat} {S : St} {rs : List (List Pt)} {rd : Int} {A C : Pgs} {now : Pmap} {K : Nat → Prop}
theorem PgB.lt (h : PgB w p d pg S n L N g rs rd A C now K) : Lt K w.heap.size := by obtain ⟨j, J, ms, mn, sure, H, h1, h2, rfl⟩ := h; exact h1.lt
theorem PgB.keep (h : PgB w p d pg S n L N g rs rd A C now K) (hs : Same K w w') (hsz : w.heap.size ≤ w'.heap.size) : PgB w' p d pg S n L N g rs rd A C now K := by
  obtain ⟨j, J, ms, mn, sure, H, h1, h2, rfl⟩ := h; exact ⟨j, J, ms, mn, sure, H, h1.keep hs hsz, h2, rfl⟩
theorem PgB.below (h : PgB w p d pg S n L N g rs rd A C now K) (hb : Below w.heap.size w w') : PgB w' p d pg S n L N g rs rd A C now K := h.keep (Same.of_below hb h.lt) hb.size
theorem BkR.lt (h : BkR w x p d pg S n L N g rs rd A C now K) : Lt K w.heap.size := by
  obtain ⟨K1, h1, h2, h3, rfl⟩ := h
  exact h1.lt.un fun i e => by rw [show i = x from e]; exact h2.lt
theorem BkR.keep (h : BkR w x p d pg S n L N g rs rd A C now K) (hs : Same K w w') (hsz : w.heap.size ≤ w'.heap.size) : BkR w' x p d pg S n L N g rs rd A C now K := by
  obtain ⟨K1, h1, h2, h3, rfl⟩ := h
  exact ⟨K1, h1.keep (hs.sub fun i hi => .inl hi) hsz, h2.same hs (.inr rfl), h3, rfl⟩
theorem BkR.below (h : BkR w x p d pg S n L N g rs rd A C now K) (hb : Below w.heap.size w w') : BkR w' x p d pg S n L N g rs rd A C now K := h.keep (Same.of_below hb h.lt) hb.size
theorem BkR.step {F F' : Nat → Prop} (h : BkR w x p d pg S n L N g rs rd A C now K) (hs : Step F F' w w') (hd : Dis F K) : BkR w' x p d pg S n L N g rs rd A C now K := h.keep (hs.same hd h.lt) hs.size
theorem BkR.cells (h : BkR w x p d pg S n L N g rs rd A C now K) : w.cell? ⟨x, 0, none⟩ = some (ob p) ∧ w.cell? ⟨x, 1, none⟩ = some (ob d) ∧ w.cell? ⟨x, 2, none⟩ = some (ob pg) ∧ w.frozen? ⟨x, 2, none⟩ = false := by
  obtain ⟨K1, h1, h2, h3, rfl⟩ := h
  exact ⟨h2.cell 0, h2.cell 1, h2.cell 2, h2.frozen 2⟩
theorem Pg.congr {J : Js} {sure : Pmap} {A' C' : Pgs} (h : Pg S J n L N g rs A C sure now) (hA : ∀ q, q < N → A q = A' q) (hC : ∀ q, q < N → C q = C' q) : Pg S J n L N g rs A' C' sure now :=
  ⟨h.pd.congr hA, fun q hq => by rw [← hA q hq]; exact h.com q hq, fun q hq => by rw [← hA q hq, ← hC q hq]; exact h.cur q hq, fun q hq => by rw [← hC q hq]; exact h.fullC q hq, h.kn, h.ks⟩
/-- an opening that stands -/
def OpOk (p d : Nat) (n L N : Nat) (F : Nat → Prop) (A C : Pgs) (rs : List (List Pt)) (g : Nat) (w : World) (e : Ending) (w' : World) : Prop :=
  ∃ pg S' X K, e = .returned (.tuple #[ob pg, .int .i64 0]) ∧ PgB w' p d pg S' n L N g rs 0 X X (fun _ => none) K ∧ S'.arm = -1 ∧ ((∀ q, q < N → X q = A q) ∨ (∀ q, q < N → X q = C q)) ∧ Step F K w w' ∧ w.heap.size ≤ pg
theorem OpSpec.calm {G : Nat} {F : Nat → Prop} {e : Ending} (h : OpSpec p d S n L N G F A C rs g w e w') (ha : S.arm = -1) : OpOk p d n L N F A C rs g w e w' := by
  rcases h with ⟨_, _, _, _, h1, _⟩ | ⟨pg, j, ms, mn, H, S', J', sure, X, rfl, h1, h2, h3, h4, h5, h6⟩
  · exact absurd ha h1
  · exact ⟨pg, S', X, _, rfl, ⟨j, J', ms, mn, sure, H, h1, h2, rfl⟩, h4 ha, h3, h5, h6⟩
end
theorem lay8 : Lay 40 8 12 := by
  refine ⟨?_, ?_, ?_, ?_⟩ <;> decide
def BoundSpec (w : World) (e : Ending) (w' : World) : Prop :=
  ∃ x p d pg S K, e = .returned (.tuple #[ob x, .bool true]) ∧ BkR w' x p d pg S 40 8 12 1 [] 0 zeroP zeroP (fun _ => none) K ∧ S.arm = -1 ∧ Ge K w.heap.size ∧ Below w.heap.size w w'
set_option maxRecDepth 100000 in
set_option maxHeartbeats 2000000 in
theorem bound_any (w : World) : Calls Try.prog 46 #[] w fun e w' => BoundSpec w e w' := by
  go_enter Try.func46, Try.ntmps46
  go_wp2_with fail
  refine (newPower_any _).mono ?_
  rintro e w1 ⟨F1, rfl, hp1, hs1⟩
  have HL1 := Lib.hid (LW.start w hp1 hs1)
  clear hp1 hs1
  obtain ⟨p, hp⟩ : ∃ p, w.heap.size = p := ⟨_, rfl⟩
  have HPP := Lib.hid hp
  rw [hp]
  rw [hp] at HL1
  obtain ⟨w2, hw2⟩ : ∃ w2, w1.alloc (.cells #[ob p, .pointer none, .pointer none] 84) = w2 := ⟨_, rfl⟩
  have HL2 : Hid (LW w w2 p [] ⟨[], false, -1⟩ F1) := Lib.hid (by rw [← hw2]; exact HL1.out.alloc _)
  obtain ⟨x, hx⟩ : ∃ x, w1.heap.size = x := ⟨_, rfl⟩
  have HBX : Hid (Blk w2 x 84 #[ob p, .pointer none, .pointer none]) := Lib.hid (by rw [← hx, ← hw2]; exact Blk.new _ _ _)
  have HNX : Hid (¬ F1 x) := Lib.hid (by rw [← hx]; exact HL1.out.notin (.inr (Nat.le_refl _)))
  have HX := Lib.hid hx
  have hc0 : w2.cell? ⟨x, 0, none⟩ = some (ob p) := HBX.out.cell 0
  have HBY : Hid (∀ W, Calls Try.prog 57 #[cfg 8 12] W fun e w' => BelowV (.int .i64 5120) W e w') := Lib.hid fun W => bytes_any 8 12 W
  have HNEW : Hid (∀ W, Below w2.heap.size w2 W → Calls Try.prog 18 #[ob p, .int .i64 5120] W fun e w' => ∃ d F', e = .returned (.tuple #[ob d, .int .i64 0]) ∧ PwS w' p [d] (freshS 40) F' ∧ Step F1 F' w2 w') := Lib.hid fun W hb =>
    (st_new (HL2.out.pw.below hb) 40 (by decide) (by simp)).mono fun e w' ⟨d, F', h1, h2, h3, h4⟩ => ⟨d, F', h1, h2, (Step.of_below hb F1).trans h3⟩
  have HB2 : Hid (Below w2.heap.size w2 w2.drew) := Lib.hid (Below.refl _ _).drew
  go_wp2_with fail
  clear hp hx hw2
  go_region_held3 (fun W : World => W.cell? ⟨x, 0, none⟩ = some (ob p)) (first | exact hc0 | exact step_cell hs5 hc0 HNX.out | exact below_cell hb3' hc0 | exact below_cell hb4' hc0) (first | (go_at_call 52; refine (config_any _).mono ?_; rintro e w3 ⟨rfl, hb3⟩; have hb3' : Below w2.heap.size w2 w3 := HB2.out.trans hb3) | (go_at_call 57; refine (HBY.out _).mono ?_; rintro e w4 ⟨rfl, hb4⟩; have hb4' : Below w2.heap.size w2 w4 := hb3'.trans (hb4.mono hb3'.size)) | (go_at_call 18; refine (HNEW.out _ hb4').mono ?_; rintro e w5 ⟨d, F5, rfl, hp5, hs5⟩))
  have HP5 := Lib.hid hp5
  have HS5 : Hid (Step F1 F5 w2 w5) := Lib.hid hs5
  have HB5 := Lib.hid (HBX.out.step hs5 HNX.out)
  have HN5 : Hid (¬ F5 x) := Lib.hid (fun hf => by
    rcases hs5.fresh x hf with h | h
    · exact HNX.out h
    · have := HBX.out.lt; omega)
  clear hp5 hs5 hb3 hb3' hb4 hb4' HBY HNEW HB2 hc0
  go_wp2_with fail
  refine (config_any _).mono ?_
  rintro e w6 ⟨rfl, hb6⟩
  have HB6 := Lib.hid hb6
  have HFM : Hid (Calls Try.prog 54 #[ob d, cfg 8 12] w6 fun e w' => FmSpec p d 40 8 12 F5 w6 e w') := Lib.hid (format_at (HP5.out.below hb6) 8 12 lay8 (by decide))
  clear hb6
  go_wp2_with fail
  refine HFM.out.mono ?_
  rintro e w7 ⟨rfl, S7, F7, hp7, hf7, hs7⟩
  have hs7' : Step F5 F7 w5 w7 := (Step.of_below HB6.out F5).trans hs7
  have HP7 := Lib.hid hp7
  have HF7 := Lib.hid hf7
  have HS7 := Lib.hid hs7'
  have HB7 := Lib.hid (HB5.out.step hs7' HN5.out)
  have HN7 : Hid (¬ F7 x) := Lib.hid (fun hf => by
    rcases hs7'.fresh x hf with h | h
    · exact HN5.out h
    · have := HB5.out.lt; omega)
  clear hp7 hf7 hs7 hs7' HFM
  go_wp2_with fail
  refine (config_any _).mono ?_
  rintro e w8 ⟨rfl, hb8⟩
  have HB8 := Lib.hid hb8
  have HOP : Hid (Calls Try.prog 51 #[ob d, cfg 8 12] w8 fun e w' => OpSpec p d S7 40 8 12 1 F7 zeroP zeroP [] 1 w8 e w') := Lib.hid (open_new_ (HP7.out.below hb8) lay8 (by decide) HF7.out)
  clear hb8
  go_wp2_with fail
  refine HOP.out.mono ?_
  intro e w9 hop
  obtain ⟨pg, S9, X, K, rfl, hpb, harm, hX, hs9, hpg⟩ := hop.calm HF7.out.arm
  have hs9' : Step F7 K w7 w9 := (Step.of_below HB8.out F7).trans hs9
  have hb9 := HB7.out.step hs9' HN7.out
  have hnK : ¬ K x := fun hf => by
    rcases hs9'.fresh x hf with h | h
    · exact HN7.out h
    · have := HB7.out.lt; omega
  have HPB := Lib.hid (And.intro hpb (And.intro harm (And.intro hX hs9')))
  have HB9 := Lib.hid hb9
  have HNK := Lib.hid hnK
  have f1 := hb9.frozen 1
  have f2 := hb9.frozen 2
  have e1 : w9.cell? ⟨x, 1, none⟩ = some (.pointer none) := hb9.cell 1
  have e2 : w9.cell? ⟨x, 2, none⟩ = some (.pointer none) := hb9.cell 2
  clear hop hpb harm hX hs9 hs9' hb9 hnK hpg HOP
  go_wp2_with fail
  go_ret2
  obtain ⟨hpb, harm, hX, hs9⟩ := HPB.out
  have ho : ∀ i, i ≠ x → ((w9.setCell ⟨x, 1, none⟩ (ob d)).setCell ⟨x, 2, none⟩ (ob pg)).heap[i]? = w9.heap[i]? := fun i hi => (Below.heap_setCell _ _ _ i hi).trans (Below.heap_setCell _ _ _ i hi)
  have hsz : ((w9.setCell ⟨x, 1, none⟩ (ob d)).setCell ⟨x, 2, none⟩ (ob pg)).heap.size = w9.heap.size := by simp [World.setCell]
  have hl7 := ((HL2.out.step HS5.out HP5.out).step HS7.out HP7.out)
  have hge : Ge K w.heap.size := hs9.ge hl7.ge hl7.size
  have hbw : Below w.heap.size w w9 := hl7.be.trans (hs9.below hl7.ge hl7.size)
  have hxw : w.heap.size ≤ x := by rw [← HX.out]; exact HL1.out.size
  have hX' : ∀ q, q < 12 → X q = zeroP q := hX.elim id id
  obtain ⟨j, J, ms, mn, sure, H, g1, g2, rfl⟩ := hpb
  refine ⟨x, p, d, pg, S9, _, rfl, ⟨_, PgB.keep ⟨j, J, ms, mn, sure, H, g1, g2.congr hX' hX', rfl⟩ (fun i hi => ho i fun e => HNK.out (by rw [← e]; exact hi)) (Nat.le_of_eq hsz.symm), (HB9.out.set_ 1 (ob d)).set_ 2 (ob pg), HNK.out, rfl⟩, harm, hge.un (fun i hi => by rw [show i = x from hi]; exact hxw), ?_⟩
  exact (hbw.setCell (p := ⟨x, 1, none⟩) hxw _).setCell (p := ⟨x, 2, none⟩) hxw _
end Go.Proofs.Ytjmhfjioccljeaa
/-
  A law's book: what each call makes of it.
-/
namespace Go.Proofs.Ytjmhfjioccljeaa
open Go.RowKit
set_option linter.unusedVariables false
set_option linter.unusedSimpArgs false
attribute [local go_sem ↓] Go.wp_at_zero Go.wp_at_succ

/-- a book whose pager is out of use -/
def BdR (w : World) (x p d : Nat) (S : St) (K : Nat → Prop) : Prop :=
  ∃ F v, PwS w p [d] S F ∧ Blk w x 84 #[ob p, ob d, v] ∧ ¬ F x ∧ K = Un F (one x)
/-- a book, and a pager that it does not name yet -/
def BoR (w : World) (x p d pg : Nat) (S : St) (n L N g : Nat) (rs : List (List Pt)) (rd : Int) (A C : Pgs) (now : Pmap) (K : Nat → Prop) : Prop :=
  ∃ K1 v, PgB w p d pg S n L N g rs rd A C now K1 ∧ Blk w x 84 #[ob p, ob d, v] ∧ ¬ K1 x ∧ K = Un K1 (one x)
section
variable {w w' : World} {x p d pg n L N g : Nat} {S : St} {rs : List (List Pt)} {rd : Int} {A C : Pgs} {now : Pmap} {K F : Nat → Prop}
theorem PgB.pw (h : PgB w p d pg S n L N g rs rd A C now K) : ∃ F, PwS w p [d] S F ∧ ∀ i, F i → K i := by
  obtain ⟨j, J, ms, mn, sure, H, ⟨⟨_, _, F, G, h1, _, _, rfl⟩, _⟩, _, rfl⟩ := h
  exact ⟨F, h1, fun i hi => .inl (.inl hi)⟩
theorem PgB.pd (h : PgB w p d pg S n L N g rs rd A C now K) : ∃ J, Pd S J n L N g rs A := by
  obtain ⟨j, J, ms, mn, sure, H, _, h2, rfl⟩ := h
  exact ⟨J, h2.pd⟩
theorem BkR.pd (h : BkR w x p d pg S n L N g rs rd A C now K) : ∃ J, Pd S J n L N g rs A := by
  obtain ⟨K1, h1, _⟩ := h
  exact h1.pd
theorem BkR.fullC (h : BkR w x p d pg S n L N g rs rd A C now K) : Full N C := by
  obtain ⟨K1, ⟨j, J, ms, mn, sure, H, _, h2, rfl⟩, _⟩ := h
  exact h2.fullC
theorem BkR.drop (h : BkR w x p d pg S n L N g rs rd A C now K) : ∃ K', BdR w x p d S K' ∧ ∀ i, K' i → K i := by
  obtain ⟨K1, h1, h2, h3, rfl⟩ := h
  obtain ⟨F, hp, hF⟩ := h1.pw
  exact ⟨_, ⟨F, _, hp, h2, fun hx => h3 (hF x hx), rfl⟩, fun i hi => hi.elim (fun h => .inl (hF i h)) .inr⟩
theorem BoR.drop (h : BoR w x p d pg S n L N g rs rd A C now K) : ∃ K', BdR w x p d S K' ∧ ∀ i, K' i → K i := by
  obtain ⟨K1, v, h1, h2, h3, rfl⟩ := h
  obtain ⟨F, hp, hF⟩ := h1.pw
  exact ⟨_, ⟨F, _, hp, h2, fun hx => h3 (hF x hx), rfl⟩, fun i hi => hi.elim (fun h => .inl (hF i h)) .inr⟩
theorem BdR.lt (h : BdR w x p d S K) : Lt K w.heap.size := by
  obtain ⟨F, v, h1, h2, h3, rfl⟩ := h
  exact h1.lt.un fun i e => by rw [show i = x from e]; exact h2.lt
theorem BdR.keep (h : BdR w x p d S K) (hs : Same K w w') (hsz : w.heap.size ≤ w'.heap.size) : BdR w' x p d S K := by
  obtain ⟨F, v, h1, h2, h3, rfl⟩ := h
  exact ⟨F, v, h1.keep (hs.sub fun i hi => .inl hi) hsz, h2.same hs (.inr rfl), h3, rfl⟩
theorem BdR.below (h : BdR w x p d S K) (hb : Below w.heap.size w w') : BdR w' x p d S K := h.keep (Same.of_below hb h.lt) hb.size
theorem BdR.cells (h : BdR w x p d S K) : w.cell? ⟨x, 0, none⟩ = some (ob p) ∧ w.cell? ⟨x, 1, none⟩ = some (ob d) := by
  obtain ⟨F, v, h1, h2, h3, rfl⟩ := h
  exact ⟨h2.cell 0, h2.cell 1⟩
theorem Step.notin {F G : Nat → Prop} (hs : Step F G w w') (hx : ¬ F x) (hl : x < w.heap.size) : ¬ G x := fun hf => by
  rcases hs.fresh x hf with h | h
  · exact hx h
  · omega
theorem Step.narrow {F G H : Nat → Prop} (hs : Step F G w w') (h : ∀ i, H i → G i) : Step F H w w' := hs.regroup fun i hi => .inl (h i hi)
theorem BkR.turn {K1 K2 : Nat → Prop} {S' : St} {g' : Nat} {rs' : List (List Pt)} {rd' : Int} {A' C' : Pgs} {now' : Pmap} (h2 : Blk w x 84 #[ob p, ob d, ob pg]) (h3 : ¬ K1 x) (h1 : PgB w' p d pg S' n L N g' rs' rd' A' C' now' K2) (hs : Step K1 K2 w w') :
    BkR w' x p d pg S' n L N g' rs' rd' A' C' now' (Un K2 (one x)) ∧ Step (Un K1 (one x)) (Un K2 (one x)) w w' :=
  ⟨⟨K2, h1, h2.step hs h3, hs.notin h3 h2.lt, rfl⟩, hs.frame _⟩
theorem BdR.turn {F1 F2 : Nat → Prop} {S' : St} {v : Value} (h2 : Blk w x 84 #[ob p, ob d, v]) (h3 : ¬ F1 x) (h1 : PwS w' p [d] S' F2) (hs : Step F1 F2 w w') :
    BdR w' x p d S' (Un F2 (one x)) ∧ Step (Un F1 (one x)) (Un F2 (one x)) w w' :=
  ⟨⟨F2, v, h1, h2.step hs h3, hs.notin h3 h2.lt, rfl⟩, hs.frame _⟩
def IntIn (q : Int) : Prop := -9223372036854775808 ≤ q ∧ q ≤ 9223372036854775807
theorem bk_write (h : BkR w x p d pg S n L N g rs rd A C now K) (q off : Int) (s : List UInt8) (hq : IntIn q) (ho : IntIn off) (hsl : s.length ≤ 9223372036854775807) :
    Calls Try.prog 48 #[ob pg, .int .i64 q, .int .i64 off, .string (bs s)] w fun e w' =>
      e = .returned (.int .i64 (okE (wrB N q off s.length))) ∧ BkR w' x p d pg S n L N g rs rd A (wrC N C q off s) (wrM N C now q off s) K ∧ Step K K w w' := by
  obtain ⟨K1, ⟨j, J, ms, mn, sure, H, h1, h2, rfl⟩, h3, h4, rfl⟩ := h
  refine (pwrite_at h2 h1 q off s hq ho hsl).mono ?_
  rintro e w' ⟨rfl, h5, hs⟩
  have hs' : Step (pgF H pg ms mn) (pgF H pg ms mn) w w' := Step.wide (hs.regroup (H := No) fun i hi => by cases hi) (fun i hi => .inr (.inr (.inr hi))) (fun i hi => .inr hi)
  exact ⟨rfl, BkR.turn h3 h4 ⟨j, J, ms, mn, sure, H, h5, h2.write q off s, rfl⟩ hs'⟩
theorem bk_read (h : BkR w x p d pg S n L N g rs rd A C now K) (q : Int) (hq : IntIn q) :
    Calls Try.prog 53 #[ob pg, .int .i64 q] w fun e w' => BelowV (readV N C q) w e w' := by
  obtain ⟨K1, ⟨j, J, ms, mn, sure, H, h1, h2, rfl⟩, h3, h4, rfl⟩ := h
  exact pread_at h2 h1 q hq
theorem pb_read (h : PgB w p d pg S n L N g rs rd A C now K) (q : Int) (hq : IntIn q) :
    Calls Try.prog 53 #[ob pg, .int .i64 q] w fun e w' => BelowV (readV N C q) w e w' := by
  obtain ⟨j, J, ms, mn, sure, H, h1, h2, rfl⟩ := h
  exact pread_at h2 h1 q hq
theorem pb_pages (h : PgB w p d pg S n L N g rs rd A C now K) : Calls Try.prog 56 #[ob pg] w fun e w' => e = .returned (.int .i64 (N : Int)) ∧ w = w' := by
  obtain ⟨j, J, ms, mn, sure, H, h1, h2, rfl⟩ := h
  exact pages_any ⟨j, ms, mn, H, h1, rfl⟩
theorem BkR.pb (h : BkR w x p d pg S n L N g rs rd A C now K) : ∃ K1, PgB w p d pg S n L N g rs rd A C now K1 := by
  obtain ⟨K1, h1, _⟩ := h
  exact ⟨K1, h1⟩
def BkCm (x p d pg : Nat) (S : St) (n L N g : Nat) (rs : List (List Pt)) (rd : Int) (A C : Pgs) (now : Pmap) (K : Nat → Prop) (w : World) (e : Ending) (w' : World) : Prop :=
  (∃ S' K', e = .returned (.int .i64 4) ∧ BdR w' x p d S' K' ∧ S.arm ≠ -1 ∧ Crashy S' 0 n (PTel n L N (g + 1) A C) ∧ Step K K' w w') ∨
  (∃ S' K', e = .returned (.int .i64 15) ∧ diffP N A C ≠ [] ∧ 119 * L < (recL (diffP N A C)).length + 4 ∧ BkR w' x p d pg S' n L N (g + 1) [] rd A C now K' ∧ (S.arm = -1 → S'.arm = -1) ∧ Step K K' w w') ∨
  (∃ S' K' g', e = .returned (.int .i64 0) ∧ (diffP N A C = [] ∨ (recL (diffP N A C)).length + 4 ≤ 119 * L) ∧ g' ≤ g + 1 ∧
    BkR w' x p d pg S' n L N g' (if diffP N A C = [] then rs else (if 119 * L < usedN rs + 4 + (recL (diffP N A C)).length then [] else rs) ++ [diffP N A C]) (rd + 1) C C (fun _ => none) K' ∧ (S.arm = -1 → S'.arm = -1) ∧ Step K K' w w')
theorem bk_commit (h : BkR w x p d pg S n L N g rs rd A C now K) (hg : g + 1 ≤ 8796093022207) (hN : 3 * N ≤ 4000) (hrd : 0 ≤ rd ∧ rd ≤ 1000000000) :
    Calls Try.prog 49 #[ob pg] w fun e w' => BkCm x p d pg S n L N g rs rd A C now K w e w' := by
  obtain ⟨K1, ⟨j, J, ms, mn, sure, H, h1, h2, rfl⟩, h3, h4, rfl⟩ := h
  refine (commit_at h2 h1 hg hN hrd).mono ?_
  rintro e w' (⟨S', J', H', sure', rfl, k1, k2, k3, k4⟩ | ⟨S', J', H', rfl, k0, k1, k2, k3, k4, k5⟩ | ⟨S', J', H', sure', g', rfl, k0, k1, k2, k3, k4, k5, k6⟩)
  · obtain ⟨⟨_, _, F, G, f1, _, _, rfl⟩, _⟩ := k1
    have hsub : ∀ i, F i → pgF (Un F G) pg ms mn i := fun i hi => .inl (.inl hi)
    obtain ⟨r1, r2⟩ := BdR.turn h3 h4 f1 (k4.narrow hsub)
    exact .inl ⟨S', _, rfl, r1, k2, k3, r2⟩
  · obtain ⟨r1, r2⟩ := BkR.turn h3 h4 ⟨j, J', ms, mn, _, H', k2, k3, rfl⟩ k5
    exact .inr (.inl ⟨S', _, rfl, k0, k1, r1, k4, r2⟩)
  · obtain ⟨r1, r2⟩ := BkR.turn h3 h4 ⟨j, J', ms, mn, _, H', k3, k4, rfl⟩ k6
    exact .inr (.inr ⟨S', _, g', rfl, k0, k2, r1, k5, r2⟩)
def BkCk (x p d pg : Nat) (S : St) (n L N g : Nat) (rs : List (List Pt)) (rd : Int) (A C : Pgs) (now : Pmap) (K : Nat → Prop) (w : World) (e : Ending) (w' : World) : Prop :=
  (∃ S' K', e = .returned (.int .i64 4) ∧ BdR w' x p d S' K' ∧ S.arm ≠ -1 ∧ Crashy S' 0 n (PTel n L N (g + 1) A A) ∧ Step K K' w w') ∨
  (∃ S' K', e = .returned (.int .i64 0) ∧ BkR w' x p d pg S' n L N (g + 1) [] rd A C now K' ∧ (S.arm = -1 → S'.arm = -1) ∧ Step K K' w w')
theorem bk_ckpt (h : BkR w x p d pg S n L N g rs rd A C now K) (hg : g + 1 ≤ 8796093022207) :
    Calls Try.prog 50 #[ob pg] w fun e w' => BkCk x p d pg S n L N g rs rd A C now K w e w' := by
  obtain ⟨K1, ⟨j, J, ms, mn, sure, H, h1, h2, rfl⟩, h3, h4, rfl⟩ := h
  refine (ckpt_at h2 h1 hg).mono ?_
  rintro e w' (⟨S', J', H', rfl, k1, k2, k3, k4⟩ | ⟨S', J', H', rfl, k1, k2, k3, k4⟩)
  · obtain ⟨r1, r2⟩ := BkR.turn h3 h4 ⟨j, J', ms, mn, _, H', k1, k2, rfl⟩ k4
    exact .inr ⟨S', _, rfl, r1, k3, r2⟩
  · obtain ⟨⟨_, _, F, G, f1, _, _, rfl⟩, _⟩ := k1
    have hsub : ∀ i, F i → pgF (Un F G) pg ms mn i := fun i hi => .inl (.inl hi)
    obtain ⟨r1, r2⟩ := BdR.turn h3 h4 f1 (k4.narrow hsub)
    exact .inl ⟨S', _, rfl, r1, k2, k3, r2⟩
/-- a crash -/
theorem bd_crash (h : BdR w x p d S K) (picks : List Int) (v : Value) (hv : PickAt w K picks 0 v) (hp : ∀ x ∈ picks, -9223372036854775808 ≤ x ∧ x ≤ 9223372036854775807) :
    Calls Try.prog 23 #[ob p, v] w fun e w' => e = .returned (.tuple #[]) ∧ ∃ K', BdR w' x p d (S.crash picks) K' ∧ Step K K' w w' := by
  obtain ⟨F, v', h1, h2, h3, rfl⟩ := h
  obtain ⟨A', n', c', rfl, a2, a3, a4, a5, a6⟩ := hv
  refine (st_crash h1 picks _ ⟨A', n', c', rfl, a2, a3, a4, a5, fun ad e hf => a6 ad e (.inl hf)⟩ hp).mono ?_
  rintro e w' ⟨rfl, F', k1, k2⟩
  exact ⟨rfl, _, BdR.turn h2 h3 k1 k2⟩
theorem bd_crash0 (h : BdR w x p d S K) :
    Calls Try.prog 23 #[ob p, .slice none 0 0] w fun e w' => e = .returned (.tuple #[]) ∧ ∃ K', BdR w' x p d (S.crash []) K' ∧ Step K K' w w' :=
  bd_crash h [] _ ⟨none, 0, 0, rfl, rfl, Nat.le_refl _, Nat.zero_le _, RdZ.nil _ _, fun ad e => by cases e⟩ (fun x hx => by simp at hx)
theorem bk_crash (h : BkR w x p d pg S n L N g rs rd A C now K) (picks : List Int) (v : Value) (hv : PickAt w K picks 0 v) (hp : ∀ x ∈ picks, -9223372036854775808 ≤ x ∧ x ≤ 9223372036854775807) :
    Calls Try.prog 23 #[ob p, v] w fun e w' => e = .returned (.tuple #[]) ∧ ∃ K', BdR w' x p d (S.crash picks) K' ∧ Step K K' w w' := by
  obtain ⟨K', h1, hk⟩ := h.drop
  obtain ⟨A', n', c', rfl, a2, a3, a4, a5, a6⟩ := hv
  refine (bd_crash h1 picks _ ⟨A', n', c', rfl, a2, a3, a4, a5, fun ad e hf => a6 ad e (hk _ hf)⟩ hp).mono ?_
  rintro e w' ⟨rfl, K2, k1, k2⟩
  exact ⟨rfl, K2, k1, Step.wide k2 hk (fun i hi => .inl hi)⟩
theorem bk_crash0 (h : BkR w x p d pg S n L N g rs rd A C now K) :
    Calls Try.prog 23 #[ob p, .slice none 0 0] w fun e w' => e = .returned (.tuple #[]) ∧ ∃ K', BdR w' x p d (S.crash []) K' ∧ Step K K' w w' :=
  bk_crash h [] _ ⟨none, 0, 0, rfl, rfl, Nat.le_refl _, Nat.zero_le _, RdZ.nil _ _, fun ad e => by cases e⟩ (fun x hx => by simp at hx)
/-- an opening from a book -/
def BdOp (x p d n L N : Nat) (S : St) (rs : List (List Pt)) (g : Nat) (A C : Pgs) (K : Nat → Prop) (w : World) (e : Ending) (w' : World) : Prop :=
  ∃ pg S' X K', e = .returned (.tuple #[ob pg, .int .i64 0]) ∧ BoR w' x p d pg S' n L N g rs 0 X X (fun _ => none) K' ∧ S'.arm = -1 ∧ ((∀ q, q < N → X q = A q) ∨ (∀ q, q < N → X q = C q)) ∧ Step K K' w w'
theorem bd_open {f : Nat → List UInt8} {G : Nat} (h : BdR w x p d S K) (hlay : Lay n L N) (hL : L ≤ 2000) (hoff : S.off = false) (harm : S.arm = -1) (ht : Torn S 0 n f f) (hp : PTel n L N G A C f) (hA : Full N A) (hC : Full N C) :
    ∃ rs g, g ≤ G ∧ Calls Try.prog 51 #[ob d, cfg L N] w fun e w' => BdOp x p d n L N S rs g A C K w e w' := by
  obtain ⟨F, v, h1, h2, h3, rfl⟩ := h
  obtain ⟨rs, g, hg, hc⟩ := open_at h1 hlay hL hoff ht hp hA hC
  refine ⟨rs, g, hg, hc.mono ?_⟩
  intro e w' hop
  obtain ⟨pg, S', X, K1, rfl, k1, k2, k3, k4, k5⟩ := hop.calm harm
  exact ⟨pg, S', X, _, rfl, ⟨K1, v, k1, h2.step k4 h3, k4.notin h3 h2.lt, rfl⟩, k2, k3, k4.frame _⟩
/-- an opening of a book's own disk, the power on -/
theorem bk_open (h : BkR w x p d pg S n L N g rs rd A C now K) (harm : S.arm = -1) :
    Calls Try.prog 51 #[ob d, cfg L N] w fun e w' => BdOp x p d n L N S rs g A A K w e w' := by
  obtain ⟨J, hpd⟩ := h.pd
  obtain ⟨K1, ⟨F, v, h1, h2, h3, rfl⟩, hk⟩ := h.drop
  refine (open_on h1 hpd).mono ?_
  intro e w' hop
  obtain ⟨pg, S', X, K1, rfl, k1, k2, k3, k4, k5⟩ := hop.calm harm
  exact ⟨pg, S', X, _, rfl, ⟨K1, v, k1, h2.step k4 h3, k4.notin h3 h2.lt, rfl⟩, k2, k3, Step.wide (k4.frame (one x)) hk (fun i hi => .inl hi)⟩
/-- the book takes the pager -/
theorem BoR.adopt (h : BoR w x p d pg S n L N g rs rd A C now K) : BkR (w.setCell ⟨x, 2, none⟩ (ob pg)) x p d pg S n L N g rs rd A C now K ∧ Step K K w (w.setCell ⟨x, 2, none⟩ (ob pg)) := by
  obtain ⟨K1, v, h1, h2, h3, rfl⟩ := h
  refine ⟨⟨K1, h1.keep (fun i hi => Below.heap_setCell _ _ _ i fun e => h3 (by have e2 : i = x := e; rw [← e2]; exact hi)) (by simp [World.setCell]), h2.set_ 2 (ob pg), h3, rfl⟩, ?_⟩
  exact (Step.refl _ w).setCell (a := ⟨x, 2, none⟩) (.inl (.inr rfl)) _
theorem BoR.cells (h : BoR w x p d pg S n L N g rs rd A C now K) : w.cell? ⟨x, 0, none⟩ = some (ob p) ∧ w.cell? ⟨x, 1, none⟩ = some (ob d) ∧ (∃ v, w.cell? ⟨x, 2, none⟩ = some v) ∧ w.frozen? ⟨x, 2, none⟩ = false := by
  obtain ⟨K1, v, h1, h2, h3, rfl⟩ := h
  exact ⟨h2.cell 0, h2.cell 1, ⟨v, h2.cell 2⟩, h2.frozen 2⟩
theorem BoR.pb (h : BoR w x p d pg S n L N g rs rd A C now K) : ∃ K1, PgB w p d pg S n L N g rs rd A C now K1 := by
  obtain ⟨K1, v, h1, _⟩ := h
  exact ⟨K1, h1⟩
theorem PgB.congr {A' C' : Pgs} (h : PgB w p d pg S n L N g rs rd A C now K) (hA : ∀ q, q < N → A q = A' q) (hC : ∀ q, q < N → C q = C' q) : PgB w p d pg S n L N g rs rd A' C' now K := by
  obtain ⟨j, J, ms, mn, sure, H, h1, h2, rfl⟩ := h
  exact ⟨j, J, ms, mn, sure, H, h1, h2.congr hA hC, rfl⟩
theorem BoR.congr {A' C' : Pgs} (h : BoR w x p d pg S n L N g rs rd A C now K) (hA : ∀ q, q < N → A q = A' q) (hC : ∀ q, q < N → C q = C' q) : BoR w x p d pg S n L N g rs rd A' C' now K := by
  obtain ⟨K1, v, h1, h2, h3, rfl⟩ := h
  exact ⟨K1, v, h1.congr hA hC, h2, h3, rfl⟩
/-- the power is armed -/
theorem bk_arm (h : BkR w x p d pg S n L N g rs rd A C now K) (a : Int) (ha : IntIn a) :
    Calls Try.prog 22 #[ob p, .int .i64 a] w fun e w' => e = .returned (.tuple #[]) ∧ ∃ K', BkR w' x p d pg (S.armed a) n L N g rs rd A C now K' ∧ Step K K' w w' := by
  obtain ⟨K1, ⟨j, J, ms, mn, sure, H, h1, h2, rfl⟩, h3, h4, rfl⟩ := h
  obtain ⟨⟨z0, z1, F, G, z2, z3, z4, rfl⟩, y1, y2, y3, y4, y5, y6, y7⟩ := h1
  refine (st_arm z2 a ha).mono ?_
  rintro e w' ⟨rfl, F', k1, k2⟩
  obtain ⟨r1, r2⟩ := JPs.disks z0 (S' := S.armed a) z1 k1 z3 z4 k2
  have hn : ∀ {i : Nat}, ¬ Un F G i → i < w.heap.size → ¬ Un F' G i := fun hi hl hf => hi (hf.elim (fun hf => .inl (by
    rcases k2.fresh _ hf with q | q
    · exact q
    · omega)) .inr)
  have hs' : Step (pgF (Un F G) pg ms mn) (pgF (Un F' G) pg ms mn) w w' := r2.pgF_
  have hat : PgAt w' p d pg j (S.armed a) J L N rd ms mn sure now (Un F' G) :=
    ⟨r1, y1.step r2 y5, y2.keep (r2.at_ y2.lt y6), y3.keep (r2.at_ y3.lt y7), y4, hn y5 y1.lt, hn y6 y2.lt, hn y7 y3.lt⟩
  have hpg : Pg (S.armed a) J n L N g rs A C sure now := ⟨⟨h2.pd.held.armed a, h2.pd.lay, h2.pd.good, h2.pd.recs, h2.pd.full⟩, h2.com, h2.cur, h2.fullC, h2.kn, h2.ks⟩
  exact ⟨rfl, _, BkR.turn h3 h4 ⟨j, J, ms, mn, sure, _, hat, hpg, rfl⟩ hs'⟩
end
end Go.Proofs.Ytjmhfjioccljeaa
/-
  Walks of the laws of layer 14: reads.
-/
namespace Go.Proofs.Ytjmhfjioccljeaa
open Go.RowKit
set_option linter.unusedVariables false
set_option linter.unusedSimpArgs false
attribute [local go_sem ↓] Go.wp_at_zero Go.wp_at_succ

/-- a law's own blocks, since it began -/
structure Own0 (w0 w : World) (K : Nat → Prop) : Prop where
  ge : Ge K w0.heap.size
  be : Below w0.heap.size w0 w
theorem Own0.step {w0 w w' : World} {K K' : Nat → Prop} (h : Own0 w0 w K) (hs : Step K K' w w') : Own0 w0 w' K' := ⟨hs.ge h.ge h.be.size, h.be.trans (hs.below h.ge h.be.size)⟩
theorem Own0.below {w0 w w' : World} {K : Nat → Prop} (h : Own0 w0 w K) (hb : Below w.heap.size w w') : Own0 w0 w' K := ⟨h.ge, h.be.trans (hb.mono h.be.size)⟩
def abcP : Pgs := wrC 12 zeroP 1 5 [97, 98, 99]
theorem abc_fit : (recL (diffP 12 zeroP abcP)).length + 4 ≤ 952 := by decide +kernel
theorem abc_one : ((abcP 1).drop 4).take 5 = [0, 97, 98, 99, 0] := by decide +kernel
theorem abc_len : (abcP 1).length = 256 := by decide +kernel
theorem zero_full : Full 12 zeroP := fun q _ => zeroB_length _
set_option maxRecDepth 100000 in
set_option maxHeartbeats 2000000 in
theorem reads_any (w : World) : Calls Try.prog 45 #[] w fun e w' => BelowV (.bool true) w e w' := by
  go_enter Try.func45, Try.ntmps45
  go_wp2_with fail
  refine (bound_any _).mono ?_
  rintro e w1 ⟨x, p, d, pg, S1, K1, rfl, hb, ha, hge, hbe⟩
  have HO1 : Hid (Own0 w w1 K1) := Lib.hid ⟨hge, hbe⟩
  obtain ⟨c0, c1, c2, _⟩ := hb.cells
  have HA1 := Lib.hid ha
  have HW1 : Hid (Calls Try.prog 48 #[ob pg, .int .i64 1, .int .i64 5, .string ⟨#[97, 98, 99]⟩] w1 fun e w' =>
      e = .returned (.int .i64 0) ∧ (∃ now, BkR w' x p d pg S1 40 8 12 1 [] 0 zeroP abcP now K1) ∧ Step K1 K1 w1 w') := Lib.hid
    ((bk_write hb 1 5 [97, 98, 99] ⟨by decide, by decide⟩ ⟨by decide, by decide⟩ (by decide)).mono fun e w' ⟨h1, h2, h3⟩ => ⟨h1, ⟨_, h2⟩, h3⟩)
  clear hb hge hbe ha
  go_wp2_with fail
  refine HW1.out.mono ?_
  rintro e w2 ⟨rfl, ⟨now2, hb⟩, hs2⟩
  have HO2 := Lib.hid (HO1.out.step hs2)
  obtain ⟨c0, c1, c2, _⟩ := hb.cells
  have hcm := bk_commit hb (by decide) (by decide) (by decide)
  have HCM := Lib.hid hcm
  clear hb hs2 hcm HW1
  go_wp2_with fail
  refine HCM.out.mono ?_
  rintro e w3 (⟨_, _, _, _, h1, _⟩ | ⟨_, _, _, _, h1, _⟩ | ⟨S3, K3, g3, rfl, _, _, hb, ha, hs3⟩)
  · exact absurd HA1.out h1
  · have := abc_fit; omega
  have HO3 := Lib.hid (HO2.out.step hs3)
  have HA3 := Lib.hid (ha HA1.out)
  obtain ⟨c0, c1, c2, _⟩ := hb.cells
  have hwr := bk_write hb 1 6 [120] ⟨by decide, by decide⟩ ⟨by decide, by decide⟩ (by decide)
  generalize (if diffP 12 zeroP abcP = [] then ([] : List (List Pt)) else _) = rs3 at hb hwr
  have HW3 : Hid (Calls Try.prog 48 #[ob pg, .int .i64 1, .int .i64 6, .string ⟨#[120]⟩] w3 fun e w' =>
      e = .returned (.int .i64 0) ∧ (∃ now C, BkR w' x p d pg S3 40 8 12 g3 rs3 (0 + 1) abcP C now K3) ∧ Step K3 K3 w3 w') := Lib.hid
    (hwr.mono fun e w' ⟨h1, h2, h3⟩ => ⟨h1, ⟨_, _, h2⟩, h3⟩)
  clear hb hs3 ha HCM hwr
  go_wp2_with fail
  refine HW3.out.mono ?_
  rintro e w4 ⟨rfl, ⟨now4, C4, hb⟩, hs4⟩
  have HO4 := Lib.hid (HO3.out.step hs4)
  obtain ⟨c0, c1, c2, _⟩ := hb.cells
  obtain ⟨J4, hpd4⟩ := hb.pd
  obtain ⟨f, hp4, ht4, hoff4, harm4⟩ := hpd4.tel.crash []
  have HCR := Lib.hid (bk_crash0 hb)
  have HT4 := Lib.hid (And.intro hp4 (And.intro ht4 (And.intro hoff4 (And.intro harm4 hpd4.full))))
  clear hb hs4 HW3 hpd4 hp4 ht4 hoff4 harm4
  go_wp2_with fail
  refine HCR.out.mono ?_
  rintro e w5 ⟨rfl, K5, hb, hs5⟩
  have HO5 := Lib.hid (HO4.out.step hs5)
  obtain ⟨c0, c1⟩ := hb.cells
  have HOP : Hid (∀ W, Below w5.heap.size w5 W → Calls Try.prog 51 #[ob d, cfg 8 12] W fun e w' => ∃ pg S' X K' rs g, e = .returned (.tuple #[ob pg, .int .i64 0]) ∧ PgB w' p d pg S' 40 8 12 g rs 0 X X (fun _ => none) K' ∧ X 1 = abcP 1 ∧ Below w.heap.size w w' ∧ w'.cell? ⟨x, 1, none⟩ = some (ob d)) := Lib.hid fun W hbW => by
    obtain ⟨rs, g, hg, hc⟩ := bd_open (hb.below hbW) lay8 (by decide) HT4.out.2.2.1 HT4.out.2.2.2.1 HT4.out.2.1 HT4.out.1 HT4.out.2.2.2.2 HT4.out.2.2.2.2
    refine hc.mono ?_
    rintro e w' ⟨pg', S', X, K', rfl, hbo, _, hX, hs⟩
    obtain ⟨K1, hpb⟩ := hbo.pb
    exact ⟨pg', S', X, K1, rs, g, rfl, hpb, hX.elim (fun h => h 1 (by decide)) (fun h => h 1 (by decide)), ((HO5.out.below hbW).step hs).be, hbo.cells.2.1⟩
  have HB5 : Hid (Below w5.heap.size w5 w5.drew) := Lib.hid (Below.refl _ _).drew
  clear hb hs5 HCR
  go_wp2_with fail
  go_region_held3 (fun W : World => W.cell? ⟨x, 1, none⟩ = some (ob d)) (first | exact c1 | exact below_cell hb6 c1 | exact cX) (first | (go_at_call 52; refine (config_any _).mono ?_; rintro e w6 ⟨rfl, hb6'⟩; have hb6 : Below w5.heap.size w5 w6 := HB5.out.trans hb6') | (go_at_call 51; refine (HOP.out _ hb6).mono ?_; rintro e w7 ⟨pg7, S7, X7, K7, rs7, g7, rfl, hpb7, hX7, hbe7, cX⟩))
  have HX7 := Lib.hid (And.intro hX7 hbe7)
  obtain ⟨y, hy⟩ : ∃ y, bs (X7 1) = y := ⟨_, rfl⟩
  have HRD : Hid (Calls Try.prog 53 #[ob pg7, .int .i64 1] w7 fun e w' => BelowV (.tuple #[.string y, .int .i64 0]) w7 e w') := Lib.hid (by
    have h := pb_read hpb7 1 ⟨by decide, by decide⟩
    rw [← hy]
    exact h)
  have hys : y.size = 256 := by rw [← hy, bs_size, hX7]; exact abc_len
  have hsl : ∀ W, (Instr.slice 9 (.string y) (some (.int .i64 4)) (some (.int .i64 9)) none).run Try.prog W = .ok (.string (bs [0, 97, 98, 99, 0])) W := fun W => by
    rw [← hy, hX7, ← abc_one]
    exact slice_bs W (abcP 1) 4 9 4 5 rfl (by decide) (by rw [abc_len]; decide)
  clear hpb7 hX7 hbe7 hb6 hb6' hy c0 c1 c2
  go_wp2_with fail
  refine HRD.out.mono ?_
  rintro e w8 ⟨rfl, hb8⟩
  go_wp2_with fail
  go_ret
  have ht : ((bs [0, 97, 98, 99, 0]).toList == [0, 97, 98, 99, 0]) = true := by rw [toList_bs]; rfl
  exact ⟨ret_bool ht, HX7.out.2.trans (hb8.mono HX7.out.2.size)⟩
end Go.Proofs.Ytjmhfjioccljeaa
