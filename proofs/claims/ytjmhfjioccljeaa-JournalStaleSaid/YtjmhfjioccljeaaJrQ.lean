/-
  A desk beside two rows of texts and a step's own record: what each call keeps of them.
-/
import Derived.Test.YtjmhfjioccljeaaJrP
import Derived.Test.YtjmhfjioccljeaaJnS
import Derived.Test.YtjmhfjioccljeaaZApp
namespace Go.Proofs.Ytjmhfjioccljeaa
open Go.RowKit
set_option linter.unusedVariables false
set_option linter.unusedSimpArgs false
attribute [local go_sem ↓] Go.wp_at_zero Go.wp_at_succ

theorem step_appZd {w : World} {ops : Array Oper} {o : Oper} {a : Act} {K : Act → World → Prop} {Q : Exit → Act → World → Prop} {E : Prop} (hgd : o.guard = none) (s x : Operand)
    (ho : o.op = .call { callee := .builtin .append, args := #[s, x], argTypes := #[47, 47] })
    (base : Nat) (A : Option Addr) (n c : Nat) (l : List Int) (hs : a.eval s = .slice A n c) (hn : n = l.length) (hown : OwnZ w base A c l)
    (A1 : Option Addr) (m c1 : Nat) (news : List Int) (hx : a.eval x = .slice A1 m c1) (hm : m = news.length) (hr : RdZ w A1 news)
    (hlen : l.length + news.length ≤ 17592186044416) (hbase : base ≤ w.heap.size)
    (h : ∀ A' c' w', OwnZ w' base A' c' (l ++ news) → w.grownBy w' (blk A) → K (a.put o.dst (.slice A' (l.length + news.length) c')) w') :
    if Region.wanted o (yielded ops a.tmps) = true then Oper.wp Try.prog o a w K Q else E := by
  have hw : Region.wanted o (yielded ops a.tmps) = true := by simp [Region.wanted, hgd]
  rw [if_pos hw]
  subst hn hm
  obtain ⟨A', c', w', hrun, h1, h2, _⟩ := run_appZd w o.type base A c l hown A1 c1 news hr hlen hbase
  unfold Oper.wp execOp
  simp only [ho, resolve, invoke, builtin, Sem.run_bind, Sem.run_pure, Result.andThen_ok, List.map_toArray, List.map_cons, List.map_nil, hs, hx, hrun]
  exact h A' c' w' h1 h2
/-- a law that began in w0: a desk, two rows of texts of its own, all apart -/
structure Kp (w0 w : World) (x p d j : Nat) (S : St) (J : Js) (K : Nat → Prop) (A : Option Addr) (c : Nat) (l : List (List UInt8)) (B : Option Addr) (cb : Nat) (r : List (List UInt8)) : Prop where
  dx : DeskR w x p d j S J K
  gx : Ge K w0.heap.size
  be : Below w0.heap.size w0 w
  r1 : OwnW w w0.heap.size A c l
  r2 : OwnW w w0.heap.size B cb r
  a1 : ∀ b, blk A = some b → ¬ K b
  a2 : ∀ b, blk B = some b → ¬ K b
  ab : ∀ b, blk A = some b → blk B ≠ some b
/-- .. and the step's own record in block h -/
structure Kv (w0 w : World) (x p d j : Nat) (S : St) (J : Js) (K : Nat → Prop) (A : Option Addr) (c : Nat) (l : List (List UInt8)) (B : Option Addr) (cb : Nat) (r : List (List UInt8)) (h : Nat) (cs : Array Value) : Prop where
  kp : Kp w0 w x p d j S J K A c l B cb r
  bk : Blk w h 49 cs
  nk : ¬ K h
  gh : w0.heap.size ≤ h
section
variable {w0 w w' : World} {x p d j c cb h : Nat} {S S2 : St} {J J2 : Js} {K K2 : Nat → Prop} {A B : Option Addr} {l r : List (List UInt8)} {cs : Array Value}
theorem Kp.step (k : Kp w0 w x p d j S J K A c l B cb r) (hd : DeskR w' x p d j S2 J2 K2) (hs : Step K K2 w w') : Kp w0 w' x p d j S2 J2 K2 A c l B cb r := by
  have hf : ∀ b, b < w.heap.size → ¬ K b → ¬ K2 b := fun b hb hn h2 => by
    rcases hs.fresh b h2 with h1 | h1
    · exact hn h1
    · omega
  exact ⟨hd, hs.ge k.gx k.be.size, k.be.trans (hs.below k.gx k.be.size), OwnR.block k.r1 fun b hb => hs.block b (OwnR.lt k.r1 b hb).2 (k.a1 b hb), OwnR.block k.r2 fun b hb => hs.block b (OwnR.lt k.r2 b hb).2 (k.a2 b hb),
    fun b hb => hf b (OwnR.lt k.r1 b hb).2 (k.a1 b hb), fun b hb => hf b (OwnR.lt k.r2 b hb).2 (k.a2 b hb), k.ab⟩
theorem Kp.below (k : Kp w0 w x p d j S J K A c l B cb r) (hb : Below w.heap.size w w') : Kp w0 w' x p d j S J K A c l B cb r :=
  ⟨k.dx.below hb, k.gx, k.be.trans (hb.mono k.be.size), OwnR.below' k.r1 hb, OwnR.below' k.r2 hb, k.a1, k.a2, k.ab⟩
theorem Kv.step (k : Kv w0 w x p d j S J K A c l B cb r h cs) (hd : DeskR w' x p d j S2 J2 K2) (hs : Step K K2 w w') : Kv w0 w' x p d j S2 J2 K2 A c l B cb r h cs :=
  ⟨k.kp.step hd hs, k.bk.step hs k.nk, fun h2 => by
    rcases hs.fresh _ h2 with h1 | h1
    · exact k.nk h1
    · have := k.bk.lt; omega, k.gh⟩
theorem Kv.below (k : Kv w0 w x p d j S J K A c l B cb r h cs) (hb : Below w.heap.size w w') : Kv w0 w' x p d j S J K A c l B cb r h cs := ⟨k.kp.below hb, k.bk.below_ hb, k.nk, k.gh⟩
theorem Kp.born (k : Kp w0 w x p d j S J K A c l B cb r) (cs : Array Value) : Kv w0 (w.alloc (.cells cs 49)) x p d j S J K A c l B cb r w.heap.size cs :=
  ⟨k.below ((Below.refl _ _).alloc (Nat.le_refl _) _), Blk.new _ _ _, fun hk => by have := k.dx.lt _ hk; omega, k.be.size⟩
/-- the first row turns -/
theorem Kp.row1 {A2 : Option Addr} {c2 : Nat} {l2 : List (List UInt8)} (k : Kp w0 w x p d j S J K A c l B cb r) (hown : OwnW w' w0.heap.size A2 c2 l2) (hg : w.grownBy w' (blk A)) (hat : blk A2 = blk A ∨ ∃ k, blk A2 = some k ∧ w.heap.size ≤ k) : Kp w0 w' x p d j S J K A2 c2 l2 B cb r := by
  refine ⟨k.dx.keep (fun i hi => hg.block i (k.dx.lt i hi) fun e => k.a1 i e.symm hi) hg.size, k.gx, k.be.grown hg k.be.size (fun q hq => (OwnR.lt k.r1 q hq).1), hown, OwnR.block k.r2 fun b hb => hg.block b (OwnR.lt k.r2 b hb).2 fun e => k.ab b e.symm hb, fun b hb hK => ?_, k.a2, fun b hb e => ?_⟩
  · rcases hat with h1 | ⟨q, h1, h2⟩
    · exact k.a1 b (by rw [← h1]; exact hb) hK
    · rw [hb] at h1
      have : b = q := by simpa using h1
      have := k.dx.lt b hK
      omega
  · rcases hat with h1 | ⟨q, h1, h2⟩
    · exact k.ab b (by rw [← h1]; exact hb) e
    · rw [hb] at h1
      have : b = q := by simpa using h1
      have := (OwnR.lt k.r2 b e).2
      omega
/-- the second row turns -/
theorem Kp.row2 {B2 : Option Addr} {c2 : Nat} {r2 : List (List UInt8)} (k : Kp w0 w x p d j S J K A c l B cb r) (hown : OwnW w' w0.heap.size B2 c2 r2) (hg : w.grownBy w' (blk B)) (hat : blk B2 = blk B ∨ ∃ k, blk B2 = some k ∧ w.heap.size ≤ k) : Kp w0 w' x p d j S J K A c l B2 c2 r2 := by
  refine ⟨k.dx.keep (fun i hi => hg.block i (k.dx.lt i hi) fun e => k.a2 i e.symm hi) hg.size, k.gx, k.be.grown hg k.be.size (fun q hq => (OwnR.lt k.r2 q hq).1), OwnR.block k.r1 fun b hb => hg.block b (OwnR.lt k.r1 b hb).2 fun e => k.ab b hb e.symm, hown, k.a1, fun b hb hK => ?_, fun b hb e => ?_⟩
  · rcases hat with h1 | ⟨q, h1, h2⟩
    · exact k.a2 b (by rw [← h1]; exact hb) hK
    · rw [hb] at h1
      have : b = q := by simpa using h1
      have := k.dx.lt b hK
      omega
  · rcases hat with h1 | ⟨q, h1, h2⟩
    · exact k.ab b hb (by rw [← h1]; exact e)
    · rw [e] at h1
      have : b = q := by simpa using h1
      have := (OwnR.lt k.r1 b hb).2
      omega
theorem Kp.nil2 (k : Kp w0 w x p d j S J K A c l B cb r) : Kp w0 w x p d j S J K A c l none 0 [] := ⟨k.dx, k.gx, k.be, k.r1, OwnW.nil _ _, k.a1, fun b e => by simp [blk] at e, fun b _ e => by simp [blk] at e⟩
theorem Kp.nil1 (k : Kp w0 w x p d j S J K A c l B cb r) : Kp w0 w x p d j S J K none 0 [] B cb r := ⟨k.dx, k.gx, k.be, OwnW.nil _ _, k.r2, fun b e => by simp [blk] at e, k.a2, fun b e => by simp [blk] at e⟩
theorem Kv.row1 {A2 : Option Addr} {c2 : Nat} {l2 : List (List UInt8)} (k : Kv w0 w x p d j S J K A c l B cb r h cs) (hown : OwnW w' w0.heap.size A2 c2 l2) (hg : w.grownBy w' (blk A)) (hat : blk A2 = blk A ∨ ∃ k, blk A2 = some k ∧ w.heap.size ≤ k) : Kv w0 w' x p d j S J K A2 c2 l2 B cb r h cs :=
  ⟨k.kp.row1 hown hg hat, k.bk.grown hg fun e => own_blk_ne (w := w) k.kp.r1 k.bk (by decide) (by rw [ownBlock_slice]; exact e.symm), k.nk, k.gh⟩
theorem Kv.row2 {B2 : Option Addr} {c2 : Nat} {r2 : List (List UInt8)} (k : Kv w0 w x p d j S J K A c l B cb r h cs) (hown : OwnW w' w0.heap.size B2 c2 r2) (hg : w.grownBy w' (blk B)) (hat : blk B2 = blk B ∨ ∃ k, blk B2 = some k ∧ w.heap.size ≤ k) : Kv w0 w' x p d j S J K A c l B2 c2 r2 h cs :=
  ⟨k.kp.row2 hown hg hat, k.bk.grown hg fun e => own_blk_ne (w := w) k.kp.r2 k.bk (by decide) (by rw [ownBlock_slice]; exact e.symm), k.nk, k.gh⟩
theorem Kv.nil2 (k : Kv w0 w x p d j S J K A c l B cb r h cs) : Kv w0 w x p d j S J K A c l none 0 [] h cs := ⟨k.kp.nil2, k.bk, k.nk, k.gh⟩
theorem Kv.nil1 (k : Kv w0 w x p d j S J K A c l B cb r h cs) : Kv w0 w x p d j S J K none 0 [] B cb r h cs := ⟨k.kp.nil1, k.bk, k.nk, k.gh⟩
def KvS (w0 : World) (x p d j : Nat) (v : Value) (S : St) (J : Js) (A : Option Addr) (c : Nat) (l : List (List UInt8)) (B : Option Addr) (cb : Nat) (r : List (List UInt8)) (h : Nat) (cs : Array Value) (e : Ending) (w' : World) : Prop :=
  e = .returned v ∧ ∃ K2, Kv w0 w' x p d j S J K2 A c l B cb r h cs
theorem kv_of {v : Value} {w' : World} {e : Ending} (k : Kv w0 w x p d j S J K A c l B cb r h cs) (hs : DSpec x p d j v S2 J2 K w e w') : KvS w0 x p d j v S2 J2 A c l B cb r h cs e w' := by
  obtain ⟨rfl, K2, hd, hst⟩ := hs
  exact ⟨rfl, K2, k.step hd hst⟩
theorem kv_append (k : Kv w0 w x p d j S J K A c l B cb r h cs) (s : List UInt8) (hs : s.length ≤ 9223372036854775807) (E : Int) (hE : J.appE s = E) :
    Calls Try.prog 14 #[ob j, .string (bs s)] w fun e w' => KvS w0 x p d j (.int .i64 E) S (J.app s) A c l B cb r h cs e w' := by
  refine (desk_append k.kp.dx (bs s) (by rw [bs_size]; exact hs)).mono fun e w' hh => ?_
  rw [data_bs, hE] at hh
  exact kv_of k hh
theorem kv_commit (k : Kv w0 w x p d j S J K A c l B cb r h cs) : Calls Try.prog 15 #[ob j] w fun e w' => KvS w0 x p d j (.int .i64 (commitF J S 0).1) (commitF J S 0).2 (J.commit S 0) A c l B cb r h cs e w' :=
  (desk_commit k.kp.dx).mono fun e w' hh => kv_of k hh
theorem kv_switch (k : Kv w0 w x p d j S J K A c l B cb r h cs) (hg : J.gen + 1 ≤ 8796093022208) : Calls Try.prog 21 #[ob j] w fun e w' => KvS w0 x p d j (.int .i64 (switchF J S 0).1) (switchF J S 0).2 (J.switch S 0) A c l B cb r h cs e w' :=
  (desk_switch k.kp.dx hg).mono fun e w' hh => kv_of k hh
theorem kv_cancel (k : Kv w0 w x p d j S J K A c l B cb r h cs) : Calls Try.prog 20 #[ob j] w fun e w' => KvS w0 x p d j (.tuple #[]) S J.cancel A c l B cb r h cs e w' :=
  (desk_cancel k.kp.dx).mono fun e w' hh => kv_of k hh
theorem kv_arm (k : Kv w0 w x p d j S J K A c l B cb r h cs) (n : Int) (hn : -9223372036854775808 ≤ n ∧ n ≤ 9223372036854775807) : Calls Try.prog 22 #[ob p, .int .i64 n] w fun e w' => KvS w0 x p d j (.tuple #[]) (S.armed n) J A c l B cb r h cs e w' :=
  (desk_arm k.kp.dx n hn).mono fun e w' hh => kv_of k hh
/-- 'x.p.Crash(append([]int{}, picks...))': the row made in new memory -/
theorem kv_crash (k : Kv w0 w x p d j S J K A c l B cb r h cs) (picks : List Int) (P : Option Addr) (n cp : Nat) (hn : n = picks.length) (hcp : picks.length ≤ cp) (hcm : cp ≤ maxLen) (hr : RdZ w P picks) (hP : ∀ ad, P = some ad → ¬ K ad.block) (hpk : ∀ q ∈ picks, -9223372036854775808 ≤ q ∧ q ≤ 9223372036854775807) :
    Calls Try.prog 23 #[ob p, .slice P n cp] w fun e w' => KvS w0 x p d j (.tuple #[]) (S.crash picks) J A c l B cb r h cs e w' := by
  subst hn
  exact (desk_crash k.kp.dx picks _ (fun F hF => pick_lit hr hcp hcm fun ad e hf => hP ad e (hF _ hf)) hpk).mono fun e w' hh => kv_of k hh
/-- an opening beside it -/
def KvO (w0 w : World) (x p d j : Nat) (S : St) (first sectors : Nat) (R : Int × St) (J : Js) (A : Option Addr) (c : Nat) (l : List (List UInt8)) (B : Option Addr) (cb : Nat) (r : List (List UInt8)) (h : Nat) (cs : Array Value) (e : Ending) (w' : World) : Prop :=
  (R.1 ≠ 0 ∧ e = .returned (.tuple #[.pointer none, .slice none 0 0, .int .i64 R.1]) ∧ ∃ K2, Kv w0 w' x p d j R.2 J K2 A c l B cb r h cs) ∨
  (R.1 = 0 ∧ ∃ j2 A3 n3 c3 K2 G, e = .returned (.tuple #[ob j2, .slice A3 n3 c3, .int .i64 0]) ∧ n3 = (openR S 0 first sectors).length ∧ OwnW w' w.heap.size A3 c3 (openR S 0 first sectors) ∧ n3 ≤ c3 ∧ Kv w0 w' x p d j R.2 J K2 A c l B cb r h cs ∧ JrR w' j2 d (openJ S 0 first sectors) G ∧
    Dis K2 G ∧ (∀ b, blk A3 = some b → w.heap.size ≤ b ∧ ¬ K2 b ∧ ¬ G b) ∧ (openJ S 0 first sectors).Ok (R.2.at_ 0).size ∧ n3 ≤ 60000 ∧ Ge G w.heap.size)
theorem kv_open (k : Kv w0 w x p d j S J K A c l B cb r h cs) (first sectors : Nat) (hc : checkB (S.at_ 0).size (first : Int) (sectors : Int) = true) (R : Int × St) (hR : openF S 0 first sectors = R) :
    Calls Try.prog 17 #[ob d, .int .i64 (first : Int), .int .i64 (sectors : Int)] w fun e w' => KvO w0 w x p d j S first sectors R J A c l B cb r h cs e w' := by
  subst hR
  refine (desk_open k.kp.dx first sectors hc).mono ?_
  rintro e w' hs
  rcases hs with ⟨a, rfl, K', hd, hst⟩ | ⟨a, j2, A3, n3, c3, K', G, rfl, hn, hr, hnc, hd, hj, hdi, hst, hA, hok, hlen, hge⟩
  · exact .inl ⟨a, rfl, K', k.step hd hst⟩
  · exact .inr ⟨a, j2, A3, n3, c3, K', G, rfl, hn, hr, hnc, k.step hd (hst.regroup fun i hi => .inl (.inl hi)), hj, hdi, fun b hb => ⟨(hA b hb).1, (hA b hb).2.1, (hA b hb).2.2.1⟩, hok, hlen, hge⟩
/-- 'x.l, sure, wait = j, got, nil' -/
theorem Kv.adopt {j2 n3 c3 B0 : Nat} {J2 : Js} {G : Nat → Prop} {A3 : Option Addr} {got : List (List UInt8)} (k : Kv w0 w x p d j S J K A c l B cb r h cs) (hj : JrR w j2 d J2 G) (hd : Dis K G) (hO : J2.Ok (S.at_ 0).size) (hge : Ge G w0.heap.size) (hown : OwnW w w0.heap.size A3 c3 got) (hA : ∀ b, blk A3 = some b → ¬ K b ∧ ¬ G b) :
    ∃ K2, Kp w0 (w.setCell ⟨x, 2, none⟩ (ob j2)) x p d j2 S J2 K2 A3 c3 got none 0 [] := by
  obtain ⟨K2, h1, h2⟩ := k.kp.dx.adopt hj hd hO
  have hKx : K x := by
    obtain ⟨H, _, _, _, rfl⟩ := k.kp.dx
    exact .inr rfl
  have hx : w0.heap.size ≤ x := k.kp.gx x hKx
  refine ⟨K2, h1, ?_, k.kp.be.setCell (p := ⟨x, 2, none⟩) hx _, OwnR.far hown (p := ⟨x, 2, none⟩) (fun e => (hA x e).1 hKx) _, OwnW.nil _ _, fun b hb h3 => ?_, fun b e => by simp [blk] at e, fun b _ e => by simp [blk] at e⟩
  · intro i hi
    rcases h2.fresh i hi with h3 | h3
    · rcases h3 with h3 | h3
      · exact k.kp.gx i h3
      · exact hge i h3
    · exact Nat.le_trans k.kp.be.size h3
  · rcases h2.fresh b h3 with h4 | h4
    · rcases h4 with h4 | h4
      · exact (hA b hb).1 h4
      · exact (hA b hb).2 h4
    · have := (OwnR.lt hown b hb).2; omega
end
end Go.Proofs.Ytjmhfjioccljeaa
