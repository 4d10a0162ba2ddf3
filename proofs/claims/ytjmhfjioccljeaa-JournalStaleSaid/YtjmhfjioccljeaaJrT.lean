/-
  A desk beside two rows of texts, with no record of a step's own: what each call keeps of them.
-/
import Derived.Test.YtjmhfjioccljeaaJrQ
namespace Go.Proofs.Ytjmhfjioccljeaa
open Go.RowKit
set_option linter.unusedVariables false
set_option linter.unusedSimpArgs false
attribute [local go_sem ↓] Go.wp_at_zero Go.wp_at_succ

section
variable {w0 w w' : World} {x p d j c cb : Nat} {S S2 : St} {J J2 : Js} {K K2 : Nat → Prop} {A B : Option Addr} {l r : List (List UInt8)}
def KpS (w0 : World) (x p d j : Nat) (v : Value) (S : St) (J : Js) (A : Option Addr) (c : Nat) (l : List (List UInt8)) (B : Option Addr) (cb : Nat) (r : List (List UInt8)) (e : Ending) (w' : World) : Prop :=
  e = .returned v ∧ ∃ K2, Kp w0 w' x p d j S J K2 A c l B cb r
theorem kp_of {v : Value} {w' : World} {e : Ending} (k : Kp w0 w x p d j S J K A c l B cb r) (hs : DSpec x p d j v S2 J2 K w e w') : KpS w0 x p d j v S2 J2 A c l B cb r e w' := by
  obtain ⟨rfl, K2, hd, hst⟩ := hs
  exact ⟨rfl, K2, k.step hd hst⟩
theorem kp_append (k : Kp w0 w x p d j S J K A c l B cb r) (s : List UInt8) (hs : s.length ≤ 9223372036854775807) (E : Int) (hE : J.appE s = E) :
    Calls Try.prog 14 #[ob j, .string (bs s)] w fun e w' => KpS w0 x p d j (.int .i64 E) S (J.app s) A c l B cb r e w' := by
  refine (desk_append k.dx (bs s) (by rw [bs_size]; exact hs)).mono fun e w' hh => ?_
  rw [data_bs, hE] at hh
  exact kp_of k hh
theorem kp_commit (k : Kp w0 w x p d j S J K A c l B cb r) : Calls Try.prog 15 #[ob j] w fun e w' => KpS w0 x p d j (.int .i64 (commitF J S 0).1) (commitF J S 0).2 (J.commit S 0) A c l B cb r e w' :=
  (desk_commit k.dx).mono fun e w' hh => kp_of k hh
theorem kp_switch (k : Kp w0 w x p d j S J K A c l B cb r) (hg : J.gen + 1 ≤ 8796093022208) : Calls Try.prog 21 #[ob j] w fun e w' => KpS w0 x p d j (.int .i64 (switchF J S 0).1) (switchF J S 0).2 (J.switch S 0) A c l B cb r e w' :=
  (desk_switch k.dx hg).mono fun e w' hh => kp_of k hh
theorem kp_cancel (k : Kp w0 w x p d j S J K A c l B cb r) : Calls Try.prog 20 #[ob j] w fun e w' => KpS w0 x p d j (.tuple #[]) S J.cancel A c l B cb r e w' :=
  (desk_cancel k.dx).mono fun e w' hh => kp_of k hh
theorem kp_arm (k : Kp w0 w x p d j S J K A c l B cb r) (n : Int) (hn : -9223372036854775808 ≤ n ∧ n ≤ 9223372036854775807) : Calls Try.prog 22 #[ob p, .int .i64 n] w fun e w' => KpS w0 x p d j (.tuple #[]) (S.armed n) J A c l B cb r e w' :=
  (desk_arm k.dx n hn).mono fun e w' hh => kp_of k hh
theorem kp_crash (k : Kp w0 w x p d j S J K A c l B cb r) (picks : List Int) (P : Option Addr) (n cp : Nat) (hn : n = picks.length) (hcp : picks.length ≤ cp) (hcm : cp ≤ maxLen) (hr : RdZ w P picks) (hP : ∀ ad, P = some ad → ¬ K ad.block) (hpk : ∀ q ∈ picks, -9223372036854775808 ≤ q ∧ q ≤ 9223372036854775807) :
    Calls Try.prog 23 #[ob p, .slice P n cp] w fun e w' => KpS w0 x p d j (.tuple #[]) (S.crash picks) J A c l B cb r e w' := by
  subst hn
  exact (desk_crash k.dx picks _ (fun F hF => pick_lit hr hcp hcm fun ad e hf => hP ad e (hF _ hf)) hpk).mono fun e w' hh => kp_of k hh
/-- an opening beside it -/
def KpO (w0 w : World) (x p d j : Nat) (S : St) (first sectors : Nat) (R : Int × St) (J : Js) (A : Option Addr) (c : Nat) (l : List (List UInt8)) (B : Option Addr) (cb : Nat) (r : List (List UInt8)) (e : Ending) (w' : World) : Prop :=
  (R.1 ≠ 0 ∧ e = .returned (.tuple #[.pointer none, .slice none 0 0, .int .i64 R.1]) ∧ ∃ K2, Kp w0 w' x p d j R.2 J K2 A c l B cb r) ∨
  (R.1 = 0 ∧ ∃ j2 A3 n3 c3 K2 G, e = .returned (.tuple #[ob j2, .slice A3 n3 c3, .int .i64 0]) ∧ n3 = (openR S 0 first sectors).length ∧ OwnW w' w.heap.size A3 c3 (openR S 0 first sectors) ∧ n3 ≤ c3 ∧ Kp w0 w' x p d j R.2 J K2 A c l B cb r ∧ JrR w' j2 d (openJ S 0 first sectors) G ∧
    Dis K2 G ∧ (∀ b, blk A3 = some b → w.heap.size ≤ b ∧ ¬ K2 b ∧ ¬ G b) ∧ (openJ S 0 first sectors).Ok (R.2.at_ 0).size ∧ n3 ≤ 60000 ∧ Ge G w.heap.size)
theorem kp_open (k : Kp w0 w x p d j S J K A c l B cb r) (first sectors : Nat) (hc : checkB (S.at_ 0).size (first : Int) (sectors : Int) = true) (R : Int × St) (hR : openF S 0 first sectors = R) :
    Calls Try.prog 17 #[ob d, .int .i64 (first : Int), .int .i64 (sectors : Int)] w fun e w' => KpO w0 w x p d j S first sectors R J A c l B cb r e w' := by
  subst hR
  refine (desk_open k.dx first sectors hc).mono ?_
  rintro e w' hs
  rcases hs with ⟨a, rfl, K', hd, hst⟩ | ⟨a, j2, A3, n3, c3, K', G, rfl, hn, hr, hnc, hd, hj, hdi, hst, hA, hok, hlen, hge⟩
  · exact .inl ⟨a, rfl, K', k.step hd hst⟩
  · exact .inr ⟨a, j2, A3, n3, c3, K', G, rfl, hn, hr, hnc, k.step hd (hst.regroup fun i hi => .inl (.inl hi)), hj, hdi, fun b hb => ⟨(hA b hb).1, (hA b hb).2.1, (hA b hb).2.2.1⟩, hok, hlen, hge⟩
/-- 'x.l, have = j, got' -/
theorem Kp.adopt {j2 c3 : Nat} {J2 : Js} {G : Nat → Prop} {A3 : Option Addr} {got : List (List UInt8)} (k : Kp w0 w x p d j S J K A c l B cb r) (hj : JrR w j2 d J2 G) (hd : Dis K G) (hO : J2.Ok (S.at_ 0).size) (hge : Ge G w0.heap.size) (hown : OwnW w w0.heap.size A3 c3 got) (hA : ∀ b, blk A3 = some b → ¬ K b ∧ ¬ G b) :
    ∃ K2, Kp w0 (w.setCell ⟨x, 2, none⟩ (ob j2)) x p d j2 S J2 K2 A3 c3 got none 0 [] := by
  obtain ⟨K2, h1, h2⟩ := k.dx.adopt hj hd hO
  have hKx : K x := by
    obtain ⟨H, _, _, _, rfl⟩ := k.dx
    exact .inr rfl
  have hx : w0.heap.size ≤ x := k.gx x hKx
  refine ⟨K2, h1, ?_, k.be.setCell (p := ⟨x, 2, none⟩) hx _, OwnR.far hown (p := ⟨x, 2, none⟩) (fun e => (hA x e).1 hKx) _, OwnW.nil _ _, fun b hb h3 => ?_, fun b e => by simp [blk] at e, fun b _ e => by simp [blk] at e⟩
  · intro i hi
    rcases h2.fresh i hi with h3 | h3
    · rcases h3 with h3 | h3
      · exact k.gx i h3
      · exact hge i h3
    · exact Nat.le_trans k.be.size h3
  · rcases h2.fresh b h3 with h4 | h4
    · rcases h4 with h4 | h4
      · exact (hA b hb).1 h4
      · exact (hA b hb).2 h4
    · have := (OwnR.lt hown b hb).2; omega
end
end Go.Proofs.Ytjmhfjioccljeaa
