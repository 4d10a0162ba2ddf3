/-
  Two desks beside a row of texts: what each call keeps of them.
-/
import Derived.Test.YtjmhfjioccljeaaJrO
namespace Go.Proofs.Ytjmhfjioccljeaa
open Go.RowKit
set_option linter.unusedVariables false
set_option linter.unusedSimpArgs false
attribute [local go_sem ↓] Go.wp_at_zero Go.wp_at_succ

theorem jopen_nil (w : World) (first sectors : Int) :
    Calls Try.prog 17 #[.pointer none, .int .i64 first, .int .i64 sectors] w fun e w' => e = .returned (.tuple #[.pointer none, .slice none 0 0, .int .i64 1]) ∧ w = w' := by
  have HCH : Hid (Calls Try.prog 72 #[.pointer none, .int .i64 first, .int .i64 sectors] w fun e w' => e = .returned (.int .i64 1) ∧ w = w') := Lib.hid (by
    go_enter Try.func72, Try.ntmps72
    go_wp2_with fail
    go_ret
    exact ⟨rfl, rfl⟩)
  go_enter Try.func17, Try.ntmps17
  go_wp2_with fail
  refine HCH.out.mono ?_
  rintro e _ ⟨rfl, rfl⟩
  go_wp2_with fail
  go_returns
  exact ⟨rfl, rfl⟩
/-- a law that began in w0: two desks, a row of texts of its own, all apart -/
structure Tg (w0 w : World) (x p d j : Nat) (S : St) (J : Js) (K : Nat → Prop) (y p' d' j' : Nat) (S' : St) (J' : Js) (K' : Nat → Prop) (A : Option Addr) (c : Nat) (want : List (List UInt8)) : Prop where
  dx : DeskR w x p d j S J K
  dy : DeskR w y p' d' j' S' J' K'
  dis : Dis K K'
  gx : Ge K w0.heap.size
  gy : Ge K' w0.heap.size
  be : Below w0.heap.size w0 w
  row : OwnW w w0.heap.size A c want
  ax : ∀ b, blk A = some b → ¬ K b
  ay : ∀ b, blk A = some b → ¬ K' b
section
variable {w0 w w' : World} {x p d j y p' d' j' c : Nat} {S S' S2 : St} {J J' J2 : Js} {K K' K2 : Nat → Prop} {A : Option Addr} {want : List (List UInt8)}
theorem Tg.stepx (h : Tg w0 w x p d j S J K y p' d' j' S' J' K' A c want) (hd : DeskR w' x p d j S2 J2 K2) (hs : Step K K2 w w') : Tg w0 w' x p d j S2 J2 K2 y p' d' j' S' J' K' A c want :=
  ⟨hd, h.dy.step hs h.dis, hs.dis h.dis h.dy.lt, hs.ge h.gx h.be.size, h.gy, h.be.trans (hs.below h.gx h.be.size), OwnR.block h.row fun b hb => hs.block b (OwnR.lt h.row b hb).2 (h.ax b hb), fun b hb hk => by
    rcases hs.fresh b hk with h1 | h1
    · exact h.ax b hb h1
    · have := (OwnR.lt h.row b hb).2; omega, h.ay⟩
theorem Tg.stepy (h : Tg w0 w x p d j S J K y p' d' j' S' J' K' A c want) (hd : DeskR w' y p' d' j' S2 J2 K2) (hs : Step K' K2 w w') : Tg w0 w' x p d j S J K y p' d' j' S2 J2 K2 A c want :=
  ⟨h.dx.step hs h.dis.symm, hd, (hs.dis h.dis.symm h.dx.lt).symm, h.gx, hs.ge h.gy h.be.size, h.be.trans (hs.below h.gy h.be.size), OwnR.block h.row fun b hb => hs.block b (OwnR.lt h.row b hb).2 (h.ay b hb), h.ax, fun b hb hk => by
    rcases hs.fresh b hk with h1 | h1
    · exact h.ay b hb h1
    · have := (OwnR.lt h.row b hb).2; omega⟩
theorem Tg.below (h : Tg w0 w x p d j S J K y p' d' j' S' J' K' A c want) (hb : Below w.heap.size w w') : Tg w0 w' x p d j S J K y p' d' j' S' J' K' A c want :=
  ⟨h.dx.below hb, h.dy.below hb, h.dis, h.gx, h.gy, h.be.trans (hb.mono h.be.size), OwnR.below' h.row hb, h.ax, h.ay⟩
/-- a text more -/
theorem Tg.more {A2 : Option Addr} {c2 : Nat} {want2 : List (List UInt8)} (h : Tg w0 w x p d j S J K y p' d' j' S' J' K' A c want) (hown : OwnW w' w0.heap.size A2 c2 want2) (hg : w.grownBy w' (blk A)) (hat : blk A2 = blk A ∨ ∃ k, blk A2 = some k ∧ w.heap.size ≤ k) : Tg w0 w' x p d j S J K y p' d' j' S' J' K' A2 c2 want2 := by
  have hk : ∀ (E : Nat → Prop), Lt E w.heap.size → (∀ b, blk A = some b → ¬ E b) → Same E w w' := fun E hl ha i hi => hg.block i (hl i hi) fun e => ha i e.symm hi
  have ha : ∀ (E : Nat → Prop), Lt E w.heap.size → (∀ b, blk A = some b → ¬ E b) → ∀ b, blk A2 = some b → ¬ E b := fun E hl ha b hb hE => by
    rcases hat with e | ⟨k, e, hk⟩
    · exact ha b (by rw [← e]; exact hb) hE
    · rw [hb] at e
      have : b = k := by simpa using e
      have := hl b hE
      omega
  exact ⟨h.dx.keep (hk K h.dx.lt h.ax) hg.size, h.dy.keep (hk K' h.dy.lt h.ay) hg.size, h.dis, h.gx, h.gy, h.be.grown hg h.be.size (fun q hq => (OwnR.lt h.row q hq).1), hown, ha K h.dx.lt h.ax, ha K' h.dy.lt h.ay⟩
def TgX (w0 : World) (x p d j : Nat) (v : Value) (S : St) (J : Js) (y p' d' j' : Nat) (S' : St) (J' : Js) (K' : Nat → Prop) (A : Option Addr) (c : Nat) (want : List (List UInt8)) (e : Ending) (w' : World) : Prop :=
  e = .returned v ∧ ∃ K2, Tg w0 w' x p d j S J K2 y p' d' j' S' J' K' A c want
def TgY (w0 : World) (x p d j : Nat) (S : St) (J : Js) (K : Nat → Prop) (y p' d' j' : Nat) (v : Value) (S' : St) (J' : Js) (A : Option Addr) (c : Nat) (want : List (List UInt8)) (e : Ending) (w' : World) : Prop :=
  e = .returned v ∧ ∃ K2, Tg w0 w' x p d j S J K y p' d' j' S' J' K2 A c want
theorem tg_appx (h : Tg w0 w x p d j S J K y p' d' j' S' J' K' A c want) (s : List UInt8) (hs : s.length ≤ 9223372036854775807) (E : Int) (hE : J.appE s = E) :
    Calls Try.prog 14 #[ob j, .string (bs s)] w fun e w' => TgX w0 x p d j (.int .i64 E) S (J.app s) y p' d' j' S' J' K' A c want e w' := by
  refine (desk_append h.dx (bs s) (by rw [bs_size]; exact hs)).mono ?_
  rintro e w' ⟨rfl, K2, hd, hst⟩
  rw [data_bs] at *
  exact ⟨by rw [hE], K2, h.stepx hd hst⟩
theorem tg_appy (h : Tg w0 w x p d j S J K y p' d' j' S' J' K' A c want) (s : List UInt8) (hs : s.length ≤ 9223372036854775807) (E : Int) (hE : J'.appE s = E) :
    Calls Try.prog 14 #[ob j', .string (bs s)] w fun e w' => TgY w0 x p d j S J K y p' d' j' (.int .i64 E) S' (J'.app s) A c want e w' := by
  refine (desk_append h.dy (bs s) (by rw [bs_size]; exact hs)).mono ?_
  rintro e w' ⟨rfl, K2, hd, hst⟩
  rw [data_bs] at *
  exact ⟨by rw [hE], K2, h.stepy hd hst⟩
theorem tg_commitx (h : Tg w0 w x p d j S J K y p' d' j' S' J' K' A c want) (E : Int) (hE : (commitF J S 0).1 = E) :
    Calls Try.prog 15 #[ob j] w fun e w' => TgX w0 x p d j (.int .i64 E) (commitF J S 0).2 (J.commit S 0) y p' d' j' S' J' K' A c want e w' := by
  refine (desk_commit h.dx).mono ?_
  rintro e w' ⟨rfl, K2, hd, hst⟩
  exact ⟨by rw [hE], K2, h.stepx hd hst⟩
theorem tg_commity (h : Tg w0 w x p d j S J K y p' d' j' S' J' K' A c want) (E : Int) (hE : (commitF J' S' 0).1 = E) :
    Calls Try.prog 15 #[ob j'] w fun e w' => TgY w0 x p d j S J K y p' d' j' (.int .i64 E) (commitF J' S' 0).2 (J'.commit S' 0) A c want e w' := by
  refine (desk_commit h.dy).mono ?_
  rintro e w' ⟨rfl, K2, hd, hst⟩
  exact ⟨by rw [hE], K2, h.stepy hd hst⟩
end
end Go.Proofs.Ytjmhfjioccljeaa
