/-
  A law's desk: a power, its one disk, a journal on it; what each call makes of it.
-/
import Derived.Test.YtjmhfjioccljeaaJrK
import Derived.Test.YtjmhfjioccljeaaLaw1A
namespace Go.Proofs.Ytjmhfjioccljeaa
open Go.RowKit
set_option linter.unusedVariables false
set_option linter.unusedSimpArgs false
attribute [local go_sem ↓] Go.wp_at_zero Go.wp_at_succ

/-- a desk in memory -/
def DeskR (w : World) (x p d j : Nat) (S : St) (J : Js) (K : Nat → Prop) : Prop :=
  ∃ H, JPs w p [d] S 0 d j J H ∧ Blk w x 34 #[ob p, ob d, ob j] ∧ ¬ H x ∧ K = Un H (one x)
section
variable {w w' : World} {x p d j : Nat} {S : St} {J : Js} {K : Nat → Prop}
theorem DeskR.lt (h : DeskR w x p d j S J K) : Lt K w.heap.size := by
  obtain ⟨H, h1, h2, h3, rfl⟩ := h
  exact h1.lt.un fun i e => by rw [show i = x from e]; exact h2.lt
theorem DeskR.keep (h : DeskR w x p d j S J K) (hs : Same K w w') (hsz : w.heap.size ≤ w'.heap.size) : DeskR w' x p d j S J K := by
  obtain ⟨H, h1, h2, h3, rfl⟩ := h
  exact ⟨H, h1.keep (hs.sub fun i hi => .inl hi) hsz, h2.same hs (.inr rfl), h3, rfl⟩
theorem DeskR.below (h : DeskR w x p d j S J K) (hb : Below w.heap.size w w') : DeskR w' x p d j S J K := h.keep (Same.of_below hb h.lt) hb.size
theorem DeskR.step {F F' : Nat → Prop} (h : DeskR w x p d j S J K) (hs : Step F F' w w') (hd : Dis F K) : DeskR w' x p d j S J K := h.keep (hs.same hd h.lt) hs.size
theorem DeskR.cells (h : DeskR w x p d j S J K) : w.cell? ⟨x, 0, none⟩ = some (ob p) ∧ w.cell? ⟨x, 1, none⟩ = some (ob d) ∧ w.cell? ⟨x, 2, none⟩ = some (ob j) ∧ w.frozen? ⟨x, 2, none⟩ = false := by
  obtain ⟨H, h1, h2, h3, rfl⟩ := h
  exact ⟨h2.cell 0, h2.cell 1, h2.cell 2, h2.frozen 2⟩
theorem DeskR.ok (h : DeskR w x p d j S J K) : J.Ok (S.at_ 0).size := by obtain ⟨H, h1, _⟩ := h; exact h1.2.1
/-- the journal's or the disks' call -/
theorem DeskR.turn {S' : St} {J' : Js} {H H' : Nat → Prop} (h2 : Blk w x 34 #[ob p, ob d, ob j]) (h3 : ¬ H x) (h1 : JPs w' p [d] S' 0 d j J' H') (hs : Step H H' w w') :
    ∃ K', DeskR w' x p d j S' J' K' ∧ Step (Un H (one x)) K' w w' :=
  ⟨_, ⟨H', h1, h2.step hs h3, fun hx => by
    rcases hs.fresh x hx with h | h
    · exact h3 h
    · have := h2.lt; omega, rfl⟩, hs.frame _⟩
/-- what a call leaves of a desk -/
def DSpec (x p d j : Nat) (v : Value) (S' : St) (J' : Js) (K : Nat → Prop) (w : World) (e : Ending) (w' : World) : Prop :=
  e = .returned v ∧ ∃ K', DeskR w' x p d j S' J' K' ∧ Step K K' w w'
theorem desk_append (h : DeskR w x p d j S J K) (s : ByteArray) (hs : s.size ≤ 9223372036854775807) :
    Calls Try.prog 14 #[ob j, .string s] w fun e w' => DSpec x p d j (.int .i64 (J.appE s.data.toList)) S (J.app s.data.toList) K w e w' := by
  obtain ⟨H, ⟨h0, hO, F, G, h1, h2, hd, rfl⟩, h4, h3, rfl⟩ := h
  refine (jappend_any hO h2 s hs).mono ?_
  rintro e w' ⟨rfl, G', hj, hst⟩
  obtain ⟨r1, r2⟩ := JPs.turn h0 (hO.app s.data.toList) h1 hd hj hst
  exact ⟨rfl, DeskR.turn h4 h3 r1 r2⟩
theorem desk_cancel (h : DeskR w x p d j S J K) : Calls Try.prog 20 #[ob j] w fun e w' => DSpec x p d j (.tuple #[]) S J.cancel K w e w' := by
  obtain ⟨H, ⟨h0, hO, F, G, h1, h2, hd, rfl⟩, h4, h3, rfl⟩ := h
  refine (jcancel_any h2).mono ?_
  rintro e w' ⟨rfl, G', hj, hst⟩
  obtain ⟨r1, r2⟩ := JPs.turn h0 hO.cancel h1 hd hj hst
  exact ⟨rfl, DeskR.turn h4 h3 r1 r2⟩
theorem desk_commit (h : DeskR w x p d j S J K) : Calls Try.prog 15 #[ob j] w fun e w' => DSpec x p d j (.int .i64 (commitF J S 0).1) (commitF J S 0).2 (J.commit S 0) K w e w' := by
  obtain ⟨H, h1, h4, h3, rfl⟩ := h
  refine (jcommit_any h1).mono ?_
  rintro e w' ⟨rfl, H', hj, hst⟩
  exact ⟨rfl, DeskR.turn h4 h3 hj hst⟩
theorem desk_switch (h : DeskR w x p d j S J K) (hg : J.gen + 1 ≤ 8796093022208) : Calls Try.prog 21 #[ob j] w fun e w' => DSpec x p d j (.int .i64 (switchF J S 0).1) (switchF J S 0).2 (J.switch S 0) K w e w' := by
  obtain ⟨H, h1, h4, h3, rfl⟩ := h
  refine (jswitch_any h1 hg).mono ?_
  rintro e w' ⟨rfl, H', hj, hst⟩
  exact ⟨rfl, DeskR.turn h4 h3 hj hst⟩
theorem desk_room (h : DeskR w x p d j S J K) : Calls Try.prog 28 #[ob j] w fun e w' => DrewSpec (.int .i64 J.room) w e w' := by
  obtain ⟨H, ⟨h0, hO, F, G, h1, h2, hd, rfl⟩, h4, h3, rfl⟩ := h
  exact jroom_any hO h2
theorem desk_gen (h : DeskR w x p d j S J K) : Calls Try.prog 24 #[ob j] w fun e w' => e = .returned (.int .i64 (J.gen : Int)) ∧ w = w' := by
  obtain ⟨H, ⟨h0, hO, F, G, h1, h2, hd, rfl⟩, h4, h3, rfl⟩ := h
  exact jgen_any h2
theorem desk_waiting (h : DeskR w x p d j S J K) : Calls Try.prog 29 #[ob j] w fun e w' => e = .returned (.int .i64 (J.waiting : Int)) ∧ w = w' := by
  obtain ⟨H, ⟨h0, hO, F, G, h1, h2, hd, rfl⟩, h4, h3, rfl⟩ := h
  exact jwaiting_any h2
theorem desk_read (h : DeskR w x p d j S J K) (o n : Int) (ho : -9223372036854775808 ≤ o ∧ o ≤ 9223372036854775807) (hn : -9223372036854775808 ≤ n ∧ n ≤ 9223372036854775807) :
    Calls Try.prog 16 #[ob d, .int .i64 o, .int .i64 n] w fun e w' => ReadSpec (S.at_ 0) S.off o n w e w' := by
  obtain ⟨H, ⟨h0, hO, F, G, h1, h2, hd, rfl⟩, h4, h3, rfl⟩ := h
  exact st_read h1 h0 o n ho hn
theorem crash_size (S : St) (picks : List Int) {k : Nat} (hk : k < S.ds.length) (hok : (S.at_ k).Ok) : ((S.crash picks).at_ k).size = (S.at_ k).size := by
  have hz : ∀ (a : Nat) (ds : List Dk) (i : Nat) (D : Dk), ds[i]? = some D → ∃ b, (crashD picks a ds)[i]? = some (D.crash picks b) := by
    intro a ds
    induction ds generalizing a with
    | nil => intro i D h; simp at h
    | cons y r ih =>
      intro i D h
      cases i with
      | zero => simp at h; subst h; exact ⟨a, by simp [crashD]⟩
      | succ i =>
        simp only [List.getElem?_cons_succ] at h
        simp only [crashD, List.getElem?_cons_succ]
        exact ih _ _ _ h
  obtain ⟨b, hb⟩ := hz 0 S.ds k _ (List.getElem?_eq_getElem hk)
  have : (S.crash picks).at_ k = (S.at_ k).crash picks b := by
    unfold St.at_ St.crash
    simp only [List.getD, hb, List.getElem?_eq_getElem hk, Option.getD_some]
  rw [this]
  have h1 := crashed_length hok picks b
  have h2 := hok.rd
  show ((S.at_ k).crashed picks b).length = (S.at_ k).rd.length
  omega
theorem DeskR.dok (h : DeskR w x p d j S J K) : 0 < S.ds.length ∧ (S.at_ 0).Ok := by
  obtain ⟨H, ⟨h0, hO, F, G, h1, h2, hd, rfl⟩, h4, h3, rfl⟩ := h
  have hl := h1.1
  obtain ⟨_, _, _, _, _, _, _, _, _, hdk, _⟩ := h1.open_ h0
  exact ⟨by rw [← hl]; simp, hdk.ok⟩
theorem desk_crash (h : DeskR w x p d j S J K) (picks : List Int) (v : Value) (hv : ∀ F, (∀ i, F i → K i) → PickAt w F picks 0 v) (hp : ∀ q ∈ picks, -9223372036854775808 ≤ q ∧ q ≤ 9223372036854775807) :
    Calls Try.prog 23 #[ob p, v] w fun e w' => DSpec x p d j (.tuple #[]) (S.crash picks) J K w e w' := by
  obtain ⟨hd1, hd2⟩ := h.dok
  obtain ⟨H, ⟨h0, hO, F, G, h1, h2, hd, rfl⟩, h4, h3, rfl⟩ := h
  refine (st_crash h1 picks v (hv F fun i hi => .inl (.inl hi)) hp).mono ?_
  rintro e w' ⟨rfl, F', hp', hst⟩
  obtain ⟨r1, r2⟩ := JPs.disks (J := J) h0 (by rw [crash_size S picks hd1 hd2]; exact hO) hp' h2 hd hst
  exact ⟨rfl, DeskR.turn h4 h3 r1 r2⟩
theorem desk_crash0 (h : DeskR w x p d j S J K) : Calls Try.prog 23 #[ob p, .slice none 0 0] w fun e w' => DSpec x p d j (.tuple #[]) (S.crash []) J K w e w' :=
  desk_crash h [] _ (fun F _ => ⟨none, 0, 0, rfl, rfl, Nat.le_refl _, Nat.zero_le _, RdZ.nil _ _, fun ad e => by cases e⟩) (fun x hx => by simp at hx)
theorem desk_arm (h : DeskR w x p d j S J K) (n : Int) (hn : -9223372036854775808 ≤ n ∧ n ≤ 9223372036854775807) :
    Calls Try.prog 22 #[ob p, .int .i64 n] w fun e w' => DSpec x p d j (.tuple #[]) (S.armed n) J K w e w' := by
  obtain ⟨H, ⟨h0, hO, F, G, h1, h2, hd, rfl⟩, h4, h3, rfl⟩ := h
  refine (st_arm h1 n hn).mono ?_
  rintro e w' ⟨rfl, F', hp', hst⟩
  obtain ⟨r1, r2⟩ := JPs.disks (J := J) (S' := S.armed n) h0 hO hp' h2 hd hst
  exact ⟨rfl, DeskR.turn h4 h3 r1 r2⟩
/-- what an opening beside the desk's own journal leaves -/
def DOpen (x p d j : Nat) (S : St) (first sectors : Nat) (R : Int × St) (J : Js) (K : Nat → Prop) (w : World) (e : Ending) (w' : World) : Prop :=
  (R.1 ≠ 0 ∧ e = .returned (.tuple #[.pointer none, .slice none 0 0, .int .i64 R.1]) ∧ ∃ K', DeskR w' x p d j R.2 J K' ∧ Step K K' w w') ∨
  (R.1 = 0 ∧ ∃ j2 A n c K' G, e = .returned (.tuple #[ob j2, .slice A n c, .int .i64 0]) ∧ n = (openR S 0 first sectors).length ∧ OwnW w' w.heap.size A c (openR S 0 first sectors) ∧ n ≤ c ∧ DeskR w' x p d j R.2 J K' ∧ JrR w' j2 d (openJ S 0 first sectors) G ∧
    Dis K' G ∧ Step K (Un K' G) w w' ∧ (∀ b, blk A = some b → w.heap.size ≤ b ∧ ¬ K' b ∧ ¬ G b ∧ b < w'.heap.size) ∧ (openJ S 0 first sectors).Ok (R.2.at_ 0).size ∧ n ≤ 60000 ∧ Ge G w.heap.size)
theorem desk_open (h : DeskR w x p d j S J K) (first sectors : Nat) (hc : checkB (S.at_ 0).size (first : Int) (sectors : Int) = true) :
    Calls Try.prog 17 #[ob d, .int .i64 (first : Int), .int .i64 (sectors : Int)] w fun e w' => DOpen x p d j S first sectors (openF S 0 first sectors) J K w e w' := by
  obtain ⟨H, ⟨h0, hO, F, G, h1, h2, hd, rfl⟩, h4, h3, rfl⟩ := h
  refine (jopen_any h1 h0 first sectors hc).mono ?_
  rintro e w' hs
  rcases hs with ⟨a, rfl, F', hp, hst⟩ | ⟨a, j2, A, n, c, F', G2, rfl, hn, hr, hnc, hp, hj, hdi, hst, hA, hok, hlen, hge⟩
  · obtain ⟨r1, r2⟩ := JPs.disks (J := J) h0 (by rw [openF_size]; exact hO) hp h2 hd hst
    exact .inl ⟨a, rfl, DeskR.turn h4 h3 r1 r2⟩
  · have hst1 : Step F F' w w' := hst.regroup fun i hi => .inl (.inl hi)
    obtain ⟨r1, r2⟩ := JPs.disks (J := J) h0 (by rw [openF_size]; exact hO) hp h2 hd hst1
    have hG := h2.lt
    have hx := h4.lt
    have hx2 : ¬ (Un F' G) x := fun hf => by
      rcases r2.fresh x hf with h | h
      · exact h3 h
      · omega
    refine .inr ⟨a, j2, A, n, c, Un (Un F' G) (one x), G2, rfl, hn, hr, hnc, ⟨_, r1, h4.step r2 h3, hx2, rfl⟩, hj, ?_, ?_, ?_, hok, by rw [hn]; exact hlen, hge⟩
    · intro i hi hg
      have := hge i hg
      rcases hi with (hi | hi) | hi
      · exact hdi i hi hg
      · have := hG i hi; omega
      · have : i = x := hi
        omega
    · refine ((hst.frame G).frame (one x)).regroup fun i hi => ?_
      rcases hi with ((hi | hi) | hi) | hi
      · exact .inl (.inl (.inl (.inl hi)))
      · exact .inl (.inl (.inr hi))
      · exact .inl (.inr hi)
      · exact .inl (.inl (.inl (.inr hi)))
    · intro b hb
      obtain ⟨b1, b2, b3, b4⟩ := hA b hb
      refine ⟨b1, fun hf => ?_, b3, b4⟩
      rcases hf with (hf | hf) | hf
      · exact b2 hf
      · have := hG b hf; omega
      · have : b = x := hf
        omega
/-- 'x.l = j2' -/
theorem DeskR.adopt {j2 : Nat} {J2 : Js} {G : Nat → Prop} (h : DeskR w x p d j S J K) (hj : JrR w j2 d J2 G) (hd : Dis K G) (hO : J2.Ok (S.at_ 0).size) :
    ∃ K', DeskR (w.setCell ⟨x, 2, none⟩ (ob j2)) x p d j2 S J2 K' ∧ Step (Un K G) K' w (w.setCell ⟨x, 2, none⟩ (ob j2)) := by
  obtain ⟨H, ⟨h0, _, F, G0, h1, h2, hd0, rfl⟩, h4, h3, rfl⟩ := h
  have hs : ∀ i, i ≠ x → (w.setCell ⟨x, 2, none⟩ (ob j2)).heap[i]? = w.heap[i]? := fun i hi => Below.heap_setCell w _ _ i hi
  have hsz : (w.setCell ⟨x, 2, none⟩ (ob j2)).heap.size = w.heap.size := by simp [World.setCell]
  have hFx : ∀ i, F i → i ≠ x := fun i hi e => h3 (.inl (by rw [← e]; exact hi))
  have hGx : ∀ i, G i → i ≠ x := fun i hi e => hd i (.inr e) hi
  refine ⟨Un (Un F G) (one x), ⟨Un F G, ⟨h0, hO, F, G, h1.keep (fun i hi => hs i (hFx i hi)) (by omega), hj.keep (fun i hi => hs i (hGx i hi)) (by omega), fun i a b => hd i (.inl (.inl a)) b, rfl⟩, h4.set_ 2 (ob j2), fun hx => ?_, rfl⟩, ?_⟩
  · rcases hx with hx | hx
    · exact hFx x hx rfl
    · exact hGx x hx rfl
  · refine (Step.setCell (a := ⟨x, 2, none⟩) (Step.refl (Un (Un (Un F G0) (one x)) G) w) (.inl (.inl (.inr rfl))) _).regroup fun i hi => .inl ?_
    rcases hi with (hi | hi) | hi
    · exact .inl (.inl (.inl hi))
    · exact .inr hi
    · exact .inl (.inr hi)
end
end Go.Proofs.Ytjmhfjioccljeaa
