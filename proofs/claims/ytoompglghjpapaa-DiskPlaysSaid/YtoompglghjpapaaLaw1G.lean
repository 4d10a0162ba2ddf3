/-
  The law DiskPlays: the program's disks beside the reference's.
-/
import Derived.Test.YtoompglghjpapaaLaw1E
import Derived.Test.YtoompglghjpapaaZApp
import Derived.Test.YtoompglghjpapaaRkI
import Derived.Test.YtoompglghjpapaaRefI
namespace Go.Proofs.Ytoompglghjpapaa
open Go.RowKit
set_option linter.unusedVariables false
set_option linter.unusedSimpArgs false

/-- the program's power in state S, the reference's in state T, each with two disks; the law's two lists of them -/
structure PL (w0 w : World) (p a b : Nat) (ad : Addr) (q c d : Nat) (bd : Addr) (S T : St) (F G : Nat → Prop) : Prop where
  lw : LW w0 w p [a, b] S F
  qw : QwS w q [c, d] T G
  dis : Dis F G
  ge : Ge G w0.heap.size
  ca : w.cell? ad = some (ob a)
  cb : w.cell? ⟨ad.block, ad.off + 1, none⟩ = some (ob b)
  cc : w.cell? bd = some (ob c)
  cd : w.cell? ⟨bd.block, bd.off + 1, none⟩ = some (ob d)
  fa : ¬ F ad.block
  fb : ¬ F bd.block
  ga : ¬ G ad.block
  gb : ¬ G bd.block
theorem dis_symm {F G : Nat → Prop} (h : Dis F G) : Dis G F := fun i h1 h2 => h i h2 h1
theorem stay_out {F F' : Nat → Prop} {w w' : World} (hs : Step F F' w w') {i : Nat} (hi : i < w.heap.size) (hn : ¬ F i) : ¬ F' i := fun hf => by
  rcases hs.fresh i hf with h1 | h1
  · exact hn h1
  · omega
section
variable {w0 w w' : World} {p a b q c d : Nat} {ad bd : Addr} {S T S' T' : St} {F G F' G' : Nat → Prop}
theorem PL.below (h : PL w0 w p a b ad q c d bd S T F G) (hb : Below w.heap.size w w') : PL w0 w' p a b ad q c d bd S T F G :=
  ⟨h.lw.below hb, h.qw.below hb, h.dis, h.ge, below_cell hb h.ca, below_cell hb h.cb, below_cell hb h.cc, below_cell hb h.cd, h.fa, h.fb, h.ga, h.gb⟩
theorem PL.prog (h : PL w0 w p a b ad q c d bd S T F G) (hl : LW w0 w' p [a, b] S' F') (hs : Step F F' w w') : PL w0 w' p a b ad q c d bd S' T F' G := by
  have hlt := h.qw.lt
  exact ⟨hl, h.qw.keep (hs.same h.dis hlt) hs.size, hs.dis h.dis hlt, h.ge, step_cell hs h.ca h.fa, step_cell hs h.cb h.fa, step_cell hs h.cc h.fb, step_cell hs h.cd h.fb,
    stay_out hs (World.block_lt_of_cell? _ _ h.ca) h.fa, stay_out hs (World.block_lt_of_cell? _ _ h.cc) h.fb, h.ga, h.gb⟩
theorem PL.ref (h : PL w0 w p a b ad q c d bd S T F G) (hl : QwS w' q [c, d] T' G') (hs : Step G G' w w') : PL w0 w' p a b ad q c d bd S T' F G' := by
  have hlt := h.lw.pw.lt
  have hbe : Below w0.heap.size w w' := hs.below h.ge h.lw.be.size
  refine ⟨⟨h.lw.pw.keep (hs.same (dis_symm h.dis) hlt) hs.size, h.lw.ge, h.lw.be.trans hbe⟩, hl, dis_symm (hs.dis (dis_symm h.dis) hlt), hs.ge h.ge h.lw.be.size, step_cell hs h.ca h.ga, step_cell hs h.cb h.ga, step_cell hs h.cc h.gb, step_cell hs h.cd h.gb,
    h.fa, h.fb, stay_out hs (World.block_lt_of_cell? _ _ h.ca) h.ga, stay_out hs (World.block_lt_of_cell? _ _ h.cc) h.gb⟩
theorem PL.notF (h : PL w0 w p a b ad q c d bd S T F G) {i : Nat} (hi : i < w0.heap.size ∨ w.heap.size ≤ i) : ¬ F i := h.lw.notin hi
theorem PL.notG (h : PL w0 w p a b ad q c d bd S T F G) {i : Nat} (hi : i < w0.heap.size ∨ w.heap.size ≤ i) : ¬ G i := fun hg => by
  have h1 := h.ge i hg
  have h2 := h.qw.lt i hg
  omega
/-- the law's own memory, not the disks': the two powers stay where a cell of it turns -/
theorem PL.own (h : PL w0 w p a b ad q c d bd S T F G) {x : Addr} (hF : ¬ F x.block) (hG : ¬ G x.block) (hg : w0.heap.size ≤ x.block) (ha : ad.block ≠ x.block) (hb : bd.block ≠ x.block) (v : Value) : PL w0 (w.setCell x v) p a b ad q c d bd S T F G := by
  have k : ∀ {y : Addr} {u : Value}, y.block ≠ x.block → w.cell? y = some u → (w.setCell x v).cell? y = some u := fun hy hc => (World.cell?_of_block (Below.heap_setCell w x v _ hy)).trans hc
  refine ⟨h.lw.own hF hg v, h.qw.keep (fun i hi => Below.heap_setCell w x v i (fun e => hG (by rw [← e]; exact hi))) (by simp [World.setCell]), h.dis, h.ge, k ha h.ca, k ha h.cb, k hb h.cc, k hb h.cd, h.fa, h.fb, h.ga, h.gb⟩
end
/-- memory of the law's own that stays -/
def Kps (ks : List (Nat × TypeId × Array Value)) (w : World) (F G : Nat → Prop) : Prop := ∀ x ∈ ks, Blk w x.1 x.2.1 x.2.2 ∧ ¬ F x.1 ∧ ¬ G x.1
theorem Kps.below {ks : List (Nat × TypeId × Array Value)} {w w' : World} {F G : Nat → Prop} (h : Kps ks w F G) (hb : Below w.heap.size w w') : Kps ks w' F G := fun x hx => ⟨(h x hx).1.below_ hb, (h x hx).2⟩
theorem Kps.prog {ks : List (Nat × TypeId × Array Value)} {w w' : World} {F F' G : Nat → Prop} (h : Kps ks w F G) (hs : Step F F' w w') : Kps ks w' F' G := fun x hx =>
  ⟨(h x hx).1.step hs (h x hx).2.1, stay_out hs (h x hx).1.lt (h x hx).2.1, (h x hx).2.2⟩
theorem Kps.ref {ks : List (Nat × TypeId × Array Value)} {w w' : World} {F G G' : Nat → Prop} (h : Kps ks w F G) (hs : Step G G' w w') : Kps ks w' F G' := fun x hx =>
  ⟨(h x hx).1.step hs (h x hx).2.2, (h x hx).2.1, stay_out hs (h x hx).1.lt (h x hx).2.2⟩
/-- .. somewhere -/
def PLx (w0 w : World) (p a b : Nat) (ad : Addr) (q c d : Nat) (bd : Addr) (S T : St) (ks : List (Nat × TypeId × Array Value)) : Prop := ∃ F G, PL w0 w p a b ad q c d bd S T F G ∧ Kps ks w F G
section
variable {w0 w w' : World} {p a b q c d k e1 e2 : Nat} {ad bd : Addr} {S T S' T' : St} {ks : List (Nat × TypeId × Array Value)}
theorem PLx.below (h : PLx w0 w p a b ad q c d bd S T ks) (hb : Below w.heap.size w w') : PLx w0 w' p a b ad q c d bd S T ks := by
  obtain ⟨F, G, h, hk⟩ := h; exact ⟨F, G, h.below hb, hk.below hb⟩
theorem PLx.be (h : PLx w0 w p a b ad q c d bd S T ks) : Below w0.heap.size w0 w := by obtain ⟨F, G, h, hks⟩ := h; exact h.lw.be
/-- the list's cells: disk k of each -/
theorem PLx.cells (h : PLx w0 w p a b ad q c d bd S T ks) : w.cell? ad = some (ob a) ∧ w.cell? ⟨ad.block, ad.off + 1, none⟩ = some (ob b) ∧ w.cell? bd = some (ob c) ∧ w.cell? ⟨bd.block, bd.off + 1, none⟩ = some (ob d) := by
  obtain ⟨F, G, h, hks⟩ := h; exact ⟨h.ca, h.cb, h.cc, h.cd⟩
theorem PLx.c1 (h : PLx w0 w p a b ad q c d bd S T ks) (hk : [a, b][k]? = some e1) : w.cell? (ad.add k) = some (ob e1) := by
  obtain ⟨h1, h2, _⟩ := h.cells
  rcases k with _ | _ | k
  · cases hk; rw [addr_add0]; exact h1
  · cases hk; rw [add_pos _ _ (by omega)]; exact h2
  · simp at hk
theorem PLx.c2 {g : Nat} (h : PLx w0 w p a b ad q c d ⟨g, 0, none⟩ S T ks) (hk : [c, d][k]? = some e1) : w.cell? ⟨g, k, none⟩ = some (ob e1) := by
  obtain ⟨_, _, h1, h2⟩ := h.cells
  rcases k with _ | _ | k
  · cases hk; exact h1
  · cases hk; exact h2
  · simp at hk
theorem two_at (a b : Nat) {k : Nat} (hk : k ≤ 1) : ∃ e, [a, b][k]? = some e := by
  rcases (by omega : k = 0 ∨ k = 1) with rfl | rfl
  · exact ⟨a, rfl⟩
  · exact ⟨b, rfl⟩
theorem PLx.uns_le (h : PLx w0 w p a b ad q c d bd S T ks) (hk : [a, b][k]? = some e1) : (S.at_ k).uns.length ≤ maxLen := by
  obtain ⟨F, G, h, _⟩ := h
  obtain ⟨_, _, _, _, _, _, _, _, _, hd, _⟩ := h.lw.pw.open_ hk
  have h1 := hd.lim
  rw [uns_length]
  have h2 : (S.at_ k).all ≤ (S.at_ k).nw.length := all_le _
  unfold maxLen
  omega
theorem PLx.kept (h : PLx w0 w p a b ad q c d bd S T ks) {x : Nat × TypeId × Array Value} (hx : x ∈ ks) : Blk w x.1 x.2.1 x.2.2 := by obtain ⟨F, G, _, hk⟩ := h; exact (hk x hx).1
theorem PLx.kcell {hb : Nat} {t : TypeId} {cs : Array Value} (h : PLx w0 w p a b ad q c d bd S T ((hb, t, cs) :: ks)) (j : Nat) : w.cell? ⟨hb, j, none⟩ = cs[j]? := (h.kept List.mem_cons_self).cell j
theorem PLx.forget (h : PLx w0 w p a b ad q c d bd S T ks) : PLx w0 w p a b ad q c d bd S T [] := by obtain ⟨F, G, h, hk⟩ := h; exact ⟨F, G, h, fun x hx => by cases hx⟩
/-- a block just made is kept from now on -/
theorem PLx.keep (h : PLx w0 w p a b ad q c d bd S T ks) (t : TypeId) (cs : Array Value) : PLx w0 (w.alloc (.cells cs t)) p a b ad q c d bd S T ((w.heap.size, t, cs) :: ks) := by
  obtain ⟨F, G, h, hk⟩ := h
  have hb : Below w.heap.size w (w.alloc (.cells cs t)) := (Below.refl _ _).alloc (Nat.le_refl _) _
  refine ⟨F, G, h.below hb, fun x hx => ?_⟩
  rcases List.mem_cons.1 hx with rfl | hx
  · exact ⟨Blk.new w t cs, h.notF (.inr (Nat.le_refl _)), h.notG (.inr (Nat.le_refl _))⟩
  · exact hk.below hb x hx
theorem pl_read (h : PLx w0 w p a b ad q c d bd S T ks) (hk : [a, b][k]? = some e1) (o n : Int) (ho : -9223372036854775808 ≤ o ∧ o ≤ 9223372036854775807) (hn : -9223372036854775808 ≤ n ∧ n ≤ 9223372036854775807) :
    Calls Try.prog 29 #[ob e1, .int .i64 o, .int .i64 n] w fun e w' => ReadSpec (S.at_ k) S.off o n w e w' := by
  obtain ⟨F, G, h, hks⟩ := h
  exact lw_read h.lw hk o n ho hn
theorem pr_read (h : PLx w0 w p a b ad q c d bd S T ks) (hk : [c, d][k]? = some e1) (o n : Int) (ho : -9223372036854775808 ≤ o ∧ o ≤ 9223372036854775807) (hn : -9223372036854775808 ≤ n ∧ n ≤ 9223372036854775807) :
    Calls Try.prog 39 #[ob e1, .int .i64 o, .int .i64 n] w fun e w' => e = .returned (.tuple #[.string (bs (readB (T.at_ k) T.off o n)), .int .i64 (readE (T.at_ k) T.off o n)]) ∧ w = w' := by
  obtain ⟨F, G, h, hks⟩ := h
  exact rt_read h.qw hk o n ho hn
theorem pl_read2 (h : PLx w0 w p a b ad q c d bd S T ks) (hk : [a, b][k]? = some e1) (o n : Int) (X : List UInt8) (m : Nat) (E : Int) (ho : -9223372036854775808 ≤ o ∧ o ≤ 9223372036854775807) (hn : -9223372036854775808 ≤ n ∧ n ≤ 9223372036854775807) (hX : readB (S.at_ k) S.off o n = X) (hm : X.length = m) (hE : readE (S.at_ k) S.off o n = E) :
    Calls Try.prog 29 #[ob e1, .int .i64 o, .int .i64 n] w fun e w' => ∃ A c, e = .returned (.tuple #[.slice A m c, .int .i64 E]) ∧ OwnB w' w.heap.size A c X ∧ Below w.heap.size w w' := by
  subst hX hm hE
  exact pl_read h hk o n ho hn
theorem pr_read2 (h : PLx w0 w p a b ad q c d bd S T ks) (hk : [c, d][k]? = some e1) (o n : Int) (X : List UInt8) (E : Int) (ho : -9223372036854775808 ≤ o ∧ o ≤ 9223372036854775807) (hn : -9223372036854775808 ≤ n ∧ n ≤ 9223372036854775807) (hX : readB (T.at_ k) T.off o n = X) (hE : readE (T.at_ k) T.off o n = E) :
    Calls Try.prog 39 #[ob e1, .int .i64 o, .int .i64 n] w fun e w' => e = .returned (.tuple #[.string (bs X), .int .i64 E]) ∧ w = w' := by
  subst hX hE
  exact pr_read h hk o n ho hn
theorem byte_wrap (x : Int) : ∃ m : UInt8, IntKind.u8.wrap x = (m.toNat : Int) := ⟨UInt8.ofNat (x % 256).toNat, by rw [IntKind.wrap_u8, UInt8.toNat_ofNat']; omega⟩
theorem pl_write (h : PLx w0 w p a b ad q c d bd S T ks) (hk : [a, b][k]? = some e1) (o : Int) (A : Option Addr) (l : List UInt8) (n cp : Nat) (hn : l.length = n) (hs : n ≤ 70368744177664) (ho : -9223372036854775808 ≤ o ∧ o ≤ 9223372036854775807) (hA : RdB w A l)
    (hg : ∃ wz : World, wz.heap.size ≤ w.heap.size ∧ PLx w0 wz p a b ad q c d bd S T ks ∧ Below wz.heap.size wz w ∧ ∀ x, A = some x → wz.heap.size ≤ x.block) :
    Calls Try.prog 28 #[ob e1, .int .i64 o, .slice A n cp] w fun e w' => e = .returned (.int .i64 (S.write k o l).1) ∧ PLx w0 w' p a b ad q c d bd (S.write k o l).2 T ks ∧ (∀ x, A = some x → RdB w' A l) := by
  obtain ⟨wz, hz, ⟨F, G, hz2, hzk⟩, hzb, hzA⟩ := hg
  have h' := hz2.below hzb
  have hAn : ∀ x, A = some x → ¬ F x.block := fun x e => hz2.notF (.inr (hzA x e))
  refine (st_writeN h'.lw.pw hk o A l n cp hn ho (by unfold maxLen; omega) hA hAn).mono ?_
  intro e w' hst
  obtain ⟨rfl, F', hl, hst2⟩ := h'.lw.st hst
  exact ⟨rfl, ⟨F', G, h'.prog hl hst2, (hzk.below hzb).prog hst2⟩, fun x e => hA.step hst2 hAn⟩
theorem pr_write (h : PLx w0 w p a b ad q c d bd S T ks) (hk : [c, d][k]? = some e1) (o : Int) (B : ByteArray) (ho : -9223372036854775808 ≤ o ∧ o ≤ 9223372036854775807) (hB : B.size ≤ maxLen) :
    Calls Try.prog 40 #[ob e1, .int .i64 o, .string B] w fun e w' => e = .returned (.int .i64 (T.write k o B.data.toList).1) ∧ PLx w0 w' p a b ad q c d bd S (T.write k o B.data.toList).2 ks := by
  obtain ⟨F, G, h, hks⟩ := h
  refine (rt_write h.qw hk o B ho hB).mono ?_
  rintro e w' ⟨rfl, G', hl, hs⟩
  exact ⟨rfl, F, G', h.ref hl hs, hks.ref hs⟩
theorem pl_sync (h : PLx w0 w p a b ad q c d bd S T ks) (hk : [a, b][k]? = some e1) :
    Calls Try.prog 30 #[ob e1] w fun e w' => e = .returned (.int .i64 (S.sync k).1) ∧ PLx w0 w' p a b ad q c d bd (S.sync k).2 T ks := by
  obtain ⟨F, G, h, hks⟩ := h
  refine (st_sync h.lw.pw hk).mono ?_
  intro e w' hst
  obtain ⟨rfl, F', hl, hs⟩ := h.lw.st hst
  exact ⟨rfl, F', G, h.prog hl hs, hks.prog hs⟩
theorem pr_sync (h : PLx w0 w p a b ad q c d bd S T ks) (hk : [c, d][k]? = some e1) :
    Calls Try.prog 41 #[ob e1] w fun e w' => e = .returned (.int .i64 (T.sync k).1) ∧ PLx w0 w' p a b ad q c d bd S (T.sync k).2 ks := by
  obtain ⟨F, G, h, hks⟩ := h
  refine (rt_sync h.qw hk).mono ?_
  rintro e w' ⟨rfl, G', hl, hs⟩
  exact ⟨rfl, F, G', h.ref hl hs, hks.ref hs⟩
theorem pl_rot (h : PLx w0 w p a b ad q c d bd S T ks) (hk : [a, b][k]? = some e1) (o : Int) (m : UInt8) (mi : Int) (hm : mi = (m.toNat : Int)) (ho : -9223372036854775808 ≤ o ∧ o ≤ 9223372036854775807) :
    Calls Try.prog 19 #[ob e1, .int .i64 o, .int .u8 mi] w fun e w' => e = .returned (.int .i64 (S.rot k o m).1) ∧ PLx w0 w' p a b ad q c d bd (S.rot k o m).2 T ks := by
  subst hm
  obtain ⟨F, G, h, hks⟩ := h
  refine (st_rot h.lw.pw hk o m ho).mono ?_
  intro e w' hst
  obtain ⟨rfl, F', hl, hs⟩ := h.lw.st hst
  exact ⟨rfl, F', G, h.prog hl hs, hks.prog hs⟩
theorem pr_rot (h : PLx w0 w p a b ad q c d bd S T ks) (hk : [c, d][k]? = some e1) (o : Int) (m : UInt8) (mi : Int) (hm : mi = (m.toNat : Int)) (ho : -9223372036854775808 ≤ o ∧ o ≤ 9223372036854775807) :
    Calls Try.prog 42 #[ob e1, .int .i64 o, .int .u8 mi] w fun e w' => e = .returned (.int .i64 (T.rot k o m).1) ∧ PLx w0 w' p a b ad q c d bd S (T.rot k o m).2 ks := by
  obtain ⟨F, G, h, hks⟩ := h
  refine (rt_rot h.qw hk o m mi hm ho).mono ?_
  rintro e w' ⟨rfl, G', hl, hs⟩
  exact ⟨rfl, F, G', h.ref hl hs, hks.ref hs⟩
theorem pl_arm (h : PLx w0 w p a b ad q c d bd S T ks) (n : Int) (hn : -9223372036854775808 ≤ n ∧ n ≤ 9223372036854775807) :
    Calls Try.prog 32 #[ob p, .int .i64 n] w fun e w' => e = .returned (.tuple #[]) ∧ PLx w0 w' p a b ad q c d bd (S.armed n) T ks := by
  obtain ⟨F, G, h, hks⟩ := h
  refine (st_arm h.lw.pw n hn).mono ?_
  intro e w' hst
  obtain ⟨rfl, F', hl, hs⟩ := h.lw.st0 hst
  exact ⟨rfl, F', G, h.prog hl hs, hks.prog hs⟩
theorem pr_arm (h : PLx w0 w p a b ad q c d bd S T ks) (n : Int) (hn : -9223372036854775808 ≤ n ∧ n ≤ 9223372036854775807) :
    Calls Try.prog 43 #[ob q, .int .i64 n] w fun e w' => e = .returned (.tuple #[]) ∧ PLx w0 w' p a b ad q c d bd S (T.armed n) ks := by
  obtain ⟨F, G, h, hks⟩ := h
  refine (rt_arm h.qw n hn).mono ?_
  rintro e w' ⟨rfl, G', hl, hs⟩
  exact ⟨rfl, F, G', h.ref hl hs, hks.ref hs⟩
/-- Crash, the picks in memory that came in or was made since wz -/
theorem pl_crash (h : PLx w0 w p a b ad q c d bd S T ks) (picks : List Int) (A : Option Addr) (n cp : Nat) (hn : picks.length = n) (hcp : n ≤ cp) (hm : cp ≤ maxLen) (hr : RdZ w A picks) (hp : ∀ x ∈ picks, -9223372036854775808 ≤ x ∧ x ≤ 9223372036854775807)
    (hg : (∀ x, A = some x → x.block < w0.heap.size) ∨ ∃ wz : World, PLx w0 wz p a b ad q c d bd S T ks ∧ Below wz.heap.size wz w ∧ ∀ x, A = some x → wz.heap.size ≤ x.block) :
    Calls Try.prog 31 #[ob p, .slice A n cp] w fun e w' => e = .returned (.tuple #[]) ∧ PLx w0 w' p a b ad q c d bd (S.crash picks) T ks := by
  subst hn
  have key : ∃ F G, PL w0 w p a b ad q c d bd S T F G ∧ Kps ks w F G ∧ ∀ x, A = some x → ¬ F x.block := by
    rcases hg with hg | ⟨wz, ⟨F, G, hz, hzk⟩, hzb, hzA⟩
    · obtain ⟨F, G, h, hks⟩ := h
      exact ⟨F, G, h, hks, fun x e => h.notF (.inl (hg x e))⟩
    · exact ⟨F, G, hz.below hzb, hzk.below hzb, fun x e => hz.notF (.inr (hzA x e))⟩
  obtain ⟨F, G, h, hks, hA⟩ := key
  refine (st_crash h.lw.pw picks _ (pick_lit hr hcp hm hA) hp).mono ?_
  intro e w' hst
  obtain ⟨rfl, F', hl, hs⟩ := h.lw.st0 hst
  exact ⟨rfl, F', G, h.prog hl hs, hks.prog hs⟩
theorem pr_crash (h : PLx w0 w p a b ad q c d bd S T ks) (picks : List Int) (A : Option Addr) (n cp : Nat) (hn : picks.length = n) (hm : n ≤ maxLen) (hr : RdZ w A picks) (hg : ∀ x, A = some x → 0 < picks.length → x.block < w0.heap.size) :
    Calls Try.prog 44 #[ob q, .slice A n cp] w fun e w' => e = .returned (.tuple #[]) ∧ PLx w0 w' p a b ad q c d bd S (T.crash picks) ks := by
  obtain ⟨F, G, h, hks⟩ := h
  refine (rt_crash h.qw picks A n cp hn hr (fun x e h0 => h.notG (.inl (hg x e h0))) hm).mono ?_
  rintro e w' ⟨rfl, G', hl, hs⟩
  exact ⟨rfl, F, G', h.ref hl hs, hks.ref hs⟩
theorem pl_uns (h : PLx w0 w p a b ad q c d bd S T ks) (hk : [a, b][k]? = some e1) : Calls Try.prog 34 #[ob e1] w fun e w' => UnsSpec (S.at_ k) w e w' := by
  obtain ⟨F, G, h, hks⟩ := h; exact st_uns h.lw.pw hk
theorem pr_uns (h : PLx w0 w p a b ad q c d bd S T ks) (hk : [c, d][k]? = some e1) : Calls Try.prog 46 #[ob e1] w fun e w' => UnsSpec (T.at_ k) w e w' := by
  obtain ⟨F, G, h, hks⟩ := h; exact rt_uns h.qw hk
theorem pl_off (h : PLx w0 w p a b ad q c d bd S T ks) : Calls Try.prog 33 #[ob p] w fun e w' => e = .returned (.bool S.off) ∧ w = w' := by
  obtain ⟨F, G, h, hks⟩ := h; exact st_off h.lw.pw
theorem pl_size (h : PLx w0 w p a b ad q c d bd S T ks) (hk : [a, b][k]? = some e1) : Calls Try.prog 22 #[ob e1] w fun e w' => e = .returned (.int .i64 ((S.at_ k).size : Int)) ∧ w = w' := by
  obtain ⟨F, G, h, hks⟩ := h; exact st_size h.lw.pw hk
theorem PLx.off_cell (h : PLx w0 w p a b ad q c d bd S T ks) : w.cell? ⟨q, 1, none⟩ = some (.bool T.off) := by obtain ⟨F, G, h, hks⟩ := h; exact h.qw.off_cell
theorem PLx.read_cell (h : PLx w0 w p a b ad q c d bd S T ks) (hk : [c, d][k]? = some e1) : w.cell? ⟨e1, 1, none⟩ = some (.string (bs (T.at_ k).rd)) := by obtain ⟨F, G, h, hks⟩ := h; exact h.qw.read_cell hk
end
/-- .. and a block x of the law's own, no power's -/
def PLf (w0 w : World) (p a b : Nat) (ad : Addr) (q c d : Nat) (bd : Addr) (S T : St) (ks : List (Nat × TypeId × Array Value)) (x : Nat) : Prop := ∃ F G, PL w0 w p a b ad q c d bd S T F G ∧ Kps ks w F G ∧ ¬ F x ∧ ¬ G x ∧ w0.heap.size ≤ x ∧ ad.block ≠ x ∧ bd.block ≠ x ∧ x < w.heap.size
section
variable {w0 w w' wz : World} {p a b q c d k e1 x : Nat} {ad bd : Addr} {S T : St} {ks : List (Nat × TypeId × Array Value)}
theorem PLf.plx (h : PLf w0 w p a b ad q c d bd S T ks x) : PLx w0 w p a b ad q c d bd S T ks := by obtain ⟨F, G, h, hk, _⟩ := h; exact ⟨F, G, h, hk⟩
theorem PLf.of (h : PLx w0 wz p a b ad q c d bd S T ks) (hb : Below wz.heap.size wz w) (hx : wz.heap.size ≤ x) (hl : x < w.heap.size) : PLf w0 w p a b ad q c d bd S T ks x := by
  obtain ⟨F, G, h, hk⟩ := h
  have h1 := World.block_lt_of_cell? _ _ h.ca
  have h2 := World.block_lt_of_cell? _ _ h.cc
  have h3 := h.lw.be.size
  exact ⟨F, G, h.below hb, hk.below hb, h.notF (.inr hx), h.notG (.inr hx), by omega, by omega, by omega, hl⟩
theorem PLf.below (h : PLf w0 w p a b ad q c d bd S T ks x) (hb : Below w.heap.size w w') : PLf w0 w' p a b ad q c d bd S T ks x := by
  obtain ⟨F, G, h, hk, hF, hG, h0, h1, h2, h3⟩ := h
  exact ⟨F, G, h.below hb, hk.below hb, hF, hG, h0, h1, h2, by have := hb.size; omega⟩
theorem PLf.set (h : PLf w0 w p a b ad q c d bd S T ks x) (j : Nat) (v : Value) : PLf w0 (w.setCell ⟨x, j, none⟩ v) p a b ad q c d bd S T [] x := by
  obtain ⟨F, G, h, hk, hF, hG, h0, h1, h2, h3⟩ := h
  exact ⟨F, G, h.own hF hG h0 h1 h2 v, (fun _ hx => by cases hx), hF, hG, h0, h1, h2, by simpa [World.setCell] using h3⟩
theorem PLf.forget (h : PLf w0 w p a b ad q c d bd S T ks x) : PLf w0 w p a b ad q c d bd S T [] x := by
  obtain ⟨F, G, h, hk, hF, hG, h0, h1, h2, h3⟩ := h
  exact ⟨F, G, h, (fun _ hx => by cases hx), hF, hG, h0, h1, h2, h3⟩
theorem plf_write (h : PLf w0 w p a b ad q c d bd S T ks x) (hk : [a, b][k]? = some e1) (o : Int) (l : List UInt8) (n cp base : Nat) (hn : l.length = n) (hs : n ≤ 70368744177664) (ho : -9223372036854775808 ≤ o ∧ o ≤ 9223372036854775807) (hA : OwnM w base (some ⟨x, 0, none⟩) cp l) :
    Calls Try.prog 28 #[ob e1, .int .i64 o, .slice (some ⟨x, 0, none⟩) n cp] w fun e w' => e = .returned (.int .i64 (S.write k o l).1) ∧ PLf w0 w' p a b ad q c d bd (S.write k o l).2 T ks x ∧ OwnM w' base (some ⟨x, 0, none⟩) cp l := by
  obtain ⟨F, G, h, hks, hF, hG, h0, h1, h2, h3⟩ := h
  refine (st_writeN h.lw.pw hk o _ l n cp hn ho (by unfold maxLen; omega) hA.rd (fun ad e => by cases e; exact hF)).mono ?_
  intro e w' hst
  obtain ⟨rfl, F', hl, hst2⟩ := h.lw.st hst
  exact ⟨rfl, ⟨F', G, h.prog hl hst2, hks.prog hst2, stay_out hst2 h3 hF, hG, h0, h1, h2, by have := hst2.size; omega⟩, hA.block hst2.size fun k hk => by cases hk; exact hst2.block x h3 hF⟩
theorem prf_write (h : PLf w0 w p a b ad q c d bd S T ks x) (hk : [c, d][k]? = some e1) (o : Int) (B : ByteArray) (l : List UInt8) (cp base : Nat) (hBl : B.data.toList = l) (ho : -9223372036854775808 ≤ o ∧ o ≤ 9223372036854775807) (hB : B.size ≤ maxLen) (hA : OwnM w base (some ⟨x, 0, none⟩) cp l) :
    Calls Try.prog 40 #[ob e1, .int .i64 o, .string B] w fun e w' => e = .returned (.int .i64 (T.write k o l).1) ∧ PLf w0 w' p a b ad q c d bd S (T.write k o l).2 ks x ∧ OwnM w' base (some ⟨x, 0, none⟩) cp l := by
  subst hBl
  obtain ⟨F, G, h, hks, hF, hG, h0, h1, h2, h3⟩ := h
  refine (rt_write h.qw hk o B ho hB).mono ?_
  rintro e w' ⟨rfl, G', hl, hst2⟩
  exact ⟨rfl, ⟨F, G', h.ref hl hst2, hks.ref hst2, hF, stay_out hst2 h3 hG, h0, h1, h2, by have := hst2.size; omega⟩, hA.block hst2.size fun k hk => by cases hk; exact hst2.block x h3 hG⟩
end
end Go.Proofs.Ytoompglghjpapaa
