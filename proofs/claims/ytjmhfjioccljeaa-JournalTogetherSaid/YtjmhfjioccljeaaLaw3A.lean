/-
  Walk of the law JournalTogether.
-/
import Derived.Test.YtjmhfjioccljeaaJrP
import Derived.Test.YtjmhfjioccljeaaRowW
import Derived.Deep.DeepMust
namespace Go.Proofs.Ytjmhfjioccljeaa
open Go.RowKit
set_option linter.unusedVariables false
set_option linter.unusedSimpArgs false
attribute [local go_sem ↓] Go.wp_at_zero Go.wp_at_succ

/-- what stands when t records are gone through -/
def TgInv (w0 : World) (x p d j y p' d' j' : Nat) (A : Option Addr) (n c t : Nat) (w : World) : Prop :=
  ∃ S J K S' J' K' l r, Tg w0 w x p d j S J K y p' d' j' S' J' K' A c (l ++ r) ∧ Held S J 32 0 10 1 l r ∧ Held S' J' 32 0 10 1 [] (l ++ r) ∧ Neat S l ∧ Neat S' [] ∧ S.arm = -1 ∧ S'.arm = -1 ∧ n = (l ++ r).length ∧ n ≤ t
theorem RdT.cell {w : World} {bd : Addr} {l : List Bool} {t : Nat} (h : RdT w (some bd) l) (ht : t < l.length) : w.cell? (bd.add t) = some (.bool (l.getD t false)) := by
  obtain ⟨ad, e, hc⟩ := h t ht
  cases e; exact hc
theorem Neat.read {S : St} {l : List (List UInt8)} (h : Neat S l) : readE (S.at_ 0) S.off 0 4096 = 0 ∧ readB (S.at_ 0) S.off 0 4096 = (S.at_ 0).rd := by
  have hl := h.holds.1
  obtain ⟨h1, h2⟩ := read_on (D := S.at_ 0) (off := S.off) (o := 0) (n := 4096) (oi := 0) (ni := 4096) h.off rfl rfl (by unfold Dk.size; omega)
  refine ⟨h1, h2.trans ?_⟩
  rw [List.drop_zero, List.take_of_length_le (by omega)]
theorem held_check {S : St} {J : Js} {n q m g : Nat} {l r : List (List UInt8)} (h : Held S J n q m g l r) : checkB (S.at_ 0).size ((128 * q : Nat) : Int) (m : Int) = true := by
  obtain ⟨f, ht, _⟩ := h.torn
  have h1 := ht.rd.1
  have hf := h.fits
  have := hf.in_
  have := hf.m1
  have := hf.m2
  unfold checkB Dk.size
  simp only [Bool.and_eq_true, decide_eq_true_eq]
  omega
set_option maxRecDepth 100000 in
set_option maxHeartbeats 8000000 in
theorem together_any (w : World) (a0 : Option Addr) (len0 cap0 : Nat) (z0 : List (List UInt8)) (a1 : Option Addr) (len1 cap1 : Nat) (z1 : List Bool) (w0 : IsW w a0 len0 cap0 z0) (w1 : IsT w a1 len1 cap1 z1) :
    Calls Try.prog 3 #[.slice a0 len0 cap0, .slice a1 len1 cap1] w fun e w' => e = .returned (.bool true) ∧ Below w.heap.size w w' := by
  obtain ⟨hz0, hr0, hm0, _, hs0⟩ := w0
  obtain ⟨hz1, hr1, hm1, _⟩ := w1
  unfold maxLen at hm0 hm1
  have HZ0 := Lib.hid hz0
  have HR0 := Lib.hid hr0
  have HS0 := Lib.hid hs0
  have HZ1 := Lib.hid hz1
  have HR1 := Lib.hid hr1
  clear hz0 hr0 hs0 hz1 hr1
  go_enter Try.func3, Try.ntmps3
  go_wp2_with fail
  refine (wakes_any w).mono ?_
  rintro e w2 ⟨rfl, hb2⟩
  have HB2 := Lib.hid hb2
  clear hb2
  go_wp2_with fail
  refine (begin_any w2 0 10 0 rfl (by decide) (by decide)).mono ?_
  rintro e w3 ⟨x, p, d, j, S, J, K, rfl, hd3, hh3, ha3, hg3, hb3, hc3⟩
  have H3 := Lib.hid (And.intro hd3 (And.intro hh3 (And.intro ha3 (And.intro hg3 (And.intro hb3 hc3)))))
  clear hd3 hh3 ha3 hg3 hb3 hc3
  go_wp2_with fail
  refine (begin_any w3 0 10 0 rfl (by decide) (by decide)).mono ?_
  rintro e w4 ⟨y, p', d', j', S', J', K', rfl, hd4, hh4, ha4, hg4, hb4, hc4⟩
  have HI : Hid (TgInv w x p d j y p' d' j' none 0 0 0 w4) := Lib.hid (by
    obtain ⟨hd3, hh3, ha3, hg3, hb3, hc3⟩ := H3.out
    have hsz : w.heap.size ≤ w2.heap.size := HB2.out.size
    have hsz3 : w2.heap.size ≤ w3.heap.size := hb3.size
    have hx := hd3.lt
    refine ⟨S, J, K, S', J', K', [], [], ⟨hd3.below hb4, hd4, fun i a b => by have := hx i a; have := hg4 i b; omega, fun i a => by have := hg3 i a; omega, fun i a => by have := hg4 i a; omega, (HB2.out.trans (hb3.mono hsz)).trans (hb4.mono (by omega)), OwnR.nil _ _ _ _, fun b e => by simp [blk] at e, fun b e => by simp [blk] at e⟩, hh3, hh4, neat_new hc3, neat_new hc4, ha3, ha4, rfl, Nat.le_refl _⟩)
  clear hd4 hh4 ha4 hg4 hb4 hc4
  go_wp2_with fail
  go_loopw [9, 10] (fun v i wr => ∃ (t n : Nat) (A : Option Addr) (c : Nat), t ≤ len0 ∧ i = .int .i64 (t : Int) ∧ v = .slice A n c ∧ Hid (TgInv w x p d j y p' d' j' A n c t wr)) (fun _ i _ => len0 - (RowKit.intOf i).toNat)
  case atStart => exact ⟨0, 0, none, 0, Nat.zero_le _, rfl, rfl, HI⟩
  case round =>
    obtain ⟨t, n, A, c, ht, rfl, rfl, HJ⟩ := hrel
    by_cases hlt : t < len0 ∧ t < 20
    · obtain ⟨hlt, hlt20⟩ := hlt
      obtain ⟨S, J, K, S', J', K', l, r, htg, hhx, hhy, hnx, hny, hax, hay, hn, hnt⟩ := HJ.out
      have HTG := Lib.hid htg
      have HHX := Lib.hid hhx
      have HHY := Lib.hid hhy
      have HNX := Lib.hid (And.intro hnx (And.intro hny (And.intro hax hay)))
      have HN := Lib.hid hn
      obtain ⟨q, hq⟩ : ∃ q, z0.getD t [] = q := ⟨_, rfl⟩
      obtain ⟨ad, rfl, hcl⟩ := (HR0.out.below htg.be).at_ (k := t) (by rw [HZ0.out]; exact hlt)
      rw [hq] at hcl
      have hql : q.length ≤ 9223372036854775807 := by
        rw [← hq, getD_eq z0 t [] (by rw [HZ0.out]; exact hlt)]
        exact HS0.out _ (List.getElem_mem _)
      have HSH := Lib.hid (short_any q wr hql)
      obtain ⟨s, hs⟩ : ∃ s, q.take 700 = s := ⟨_, rfl⟩
      have hsl : s.length ≤ 9223372036854775807 := by rw [← hs, List.length_take]; omega
      rw [hs] at HSH
      have hti : (t : Int) < (len0 : Int) := by omega
      have hti2 : (t : Int) < 20 := by omega
      obtain ⟨E, hE⟩ : ∃ E, J.appE s = E := ⟨_, rfl⟩
      have hE' : J'.appE s = E := by
        rw [← hE]
        exact (Held.appE_sum hhx hhy (by rw [framesL_append, List.length_append]; simp [framesL]) s).symm
      have HE := Lib.hid (And.intro hE hE')
      clear htg hhx hhy hnx hny hax hay hn hq hs hE hE' HJ
      go_wp2_with fail
      refine HSH.out.mono ?_
      rintro e w1 ⟨rfl, rfl⟩
      have e1 := HTG.out.dx.cells.2.2.1
      have e2 := HTG.out.dy.cells.2.2.1
      have HAX : Hid (∀ W S' J' K', Tg w W x p d j S J K y p' d' j' S' J' K' A c (l ++ r) → Calls Try.prog 14 #[ob j, .string (bs s)] W fun e w' => TgX w x p d j (.int .i64 E) S (J.app s) y p' d' j' S' J' K' A c (l ++ r) e w') := Lib.hid (fun W S' J' K' h => tg_appx h s hsl E HE.out.1)
      have HAY : Hid (∀ W S J K, Tg w W x p d j S J K y p' d' j' S' J' K' A c (l ++ r) → Calls Try.prog 14 #[ob j', .string (bs s)] W fun e w' => TgY w x p d j S J K y p' d' j' (.int .i64 E) S' (J'.app s) A c (l ++ r) e w') := Lib.hid (fun W S J K h => tg_appy h s hsl E HE.out.2)
      go_wp2_with fail
      go_region_held3 (fun W : World => W.cell? ⟨x, 2, none⟩ = some (ob j) ∧ W.cell? ⟨y, 2, none⟩ = some (ob j')) (first | exact ⟨e1, e2⟩ | exact ⟨htX.dx.cells.2.2.1, htX.dy.cells.2.2.1⟩ | exact ⟨htY.dx.cells.2.2.1, htY.dy.cells.2.2.1⟩) (first | (go_at_call 14; (with_reducible refine (HAX.out _ _ _ _ (by first | exact htY | exact HTG.out.below ((Below.refl _ _).drew))).mono ?_); rintro e wX ⟨rfl, KX, htX⟩) | (go_at_call 14; (with_reducible refine (HAY.out _ _ _ _ (by first | exact htX | exact HTG.out.below ((Below.refl _ _).drew))).mono ?_); rintro e wY ⟨rfl, KY, htY⟩))
      have HTY := Lib.hid htY
      have HSL := Lib.hid hsl
      clear htX htY e1 e2 hcl hsl
      by_cases hz : E = 0
      · subst hz
        have hap : Hid ((framesL l).length + (framesL r).length + s.length + 4 ≤ 119 * 10 ∧ Held S (J.app s) 32 0 10 1 l (r ++ [s])) := Lib.hid (by
          rcases HHX.out.append s with ⟨a, _⟩ | ⟨a, _⟩ | ⟨_, a, b⟩
          · rw [HE.out.1] at a; exact absurd a (by decide)
          · rw [HE.out.1] at a; exact absurd a (by decide)
          · exact ⟨a, b⟩)
        have HX2 := Lib.hid hap.out.2
        have HY2 : Hid (Held S' (J'.app s) 32 0 10 1 [] (l ++ (r ++ [s]))) := Lib.hid (by
          rcases HHY.out.append s with ⟨a, _⟩ | ⟨a, _⟩ | ⟨_, a, b⟩
          · rw [HE.out.2] at a; exact absurd a (by decide)
          · rw [HE.out.2] at a; exact absurd a (by decide)
          · rw [← List.append_assoc]; exact b)
        have HN2 : Hid (n + 1 = (l ++ (r ++ [s])).length) := Lib.hid (by rw [HN.out]; simp; omega)
        have hst2 := HTY.out.be.size
        skip
        by_cases hcut : t < len1
        · obtain ⟨bd, e, hc⟩ := (HR1.out.below HTY.out.be) t (by rw [HZ1.out]; exact hcut)
          subst e
          have hti3 : (t : Int) < (len1 : Int) := by omega
          have HCUT := Lib.hid hcut
          cases hbz : z1.getD t false with
          | true =>
            rw [hbz] at hc
            have HBZ := Lib.hid hbz
            clear hbz
            go_wp2_with (at_builtin; go_must (refine wpList_appW (.inl rfl) (.tmp 74) (.tmp 76) rfl w.heap.size A n c (l ++ r) rfl HN.out (OwnR.alloc HTY.out.row _) (some ⟨wY.heap.size, 0, none⟩) 1 1 [s] rfl rfl (rdw_one _ _ _ rfl) (by rw [← HN.out]; simp; omega) (by simp; omega) ?_); (intro A3 c3 w3 hown3 hg3 hat3; have ht3 := (HTY.out.below ((Below.refl _ _).alloc (Nat.le_refl _) _)).more hown3 hg3 (by rcases hat3 with h | h; exact .inl h; exact .inr ⟨_, h, Nat.le_refl _⟩); rw [List.append_assoc] at ht3; have HT := Lib.hid ht3; have g1 := ht3.dx.cells.2.2.1; have hc3 := RdT.cell (HR1.out.below ht3.be) (by rw [HZ1.out]; exact HCUT.out); rw [HBZ.out] at hc3; clear ht3 hown3 hg3 hat3))
            have hbz := HBZ.out
            obtain ⟨k1, _, k3, k4⟩ := HX2.out.commit.calm HNX.out.2.2.1
            have HCM := Lib.hid (tg_commitx HT.out 0 k1)
            have HK := Lib.hid (And.intro k3 k4)
            have HNN := Lib.hid (HNX.out.1.commit HX2.out)
            clear k1 k3 k4 hbz
            go_wp2_with fail
            refine HCM.out.mono ?_
            rintro e w5 ⟨rfl, K5, ht5⟩
            have HT5 := Lib.hid ht5
            clear ht5 g1 hc
            go_wp2_with fail
            refine ⟨⟨t + 1, (n + 1), A3, c3, by omega, by first | omega | exact int_eq (by omega), rfl, Lib.hid ⟨_, _, _, _, _, _, l ++ (r ++ [s]), [], by rw [List.append_nil]; exact HT5.out, HK.out.2, by rw [List.append_nil]; exact HY2.out, HNN.out, HNX.out.2.1, HK.out.1, HNX.out.2.2.2, by rw [List.append_nil]; exact HN2.out, by omega⟩⟩, by simp [RowKit.intOf]; omega⟩
          | false =>
            rw [hbz] at hc
            have HBZ := Lib.hid hbz
            clear hbz
            go_wp2_with (at_builtin; go_must (refine wpList_appW (.inl rfl) (.tmp 74) (.tmp 76) rfl w.heap.size A n c (l ++ r) rfl HN.out (OwnR.alloc HTY.out.row _) (some ⟨wY.heap.size, 0, none⟩) 1 1 [s] rfl rfl (rdw_one _ _ _ rfl) (by rw [← HN.out]; simp; omega) (by simp; omega) ?_); (intro A3 c3 w3 hown3 hg3 hat3; have ht3 := (HTY.out.below ((Below.refl _ _).alloc (Nat.le_refl _) _)).more hown3 hg3 (by rcases hat3 with h | h; exact .inl h; exact .inr ⟨_, h, Nat.le_refl _⟩); rw [List.append_assoc] at ht3; have HT := Lib.hid ht3; have g1 := ht3.dx.cells.2.2.1; have hc3 := RdT.cell (HR1.out.below ht3.be) (by rw [HZ1.out]; exact HCUT.out); rw [HBZ.out] at hc3; clear ht3 hown3 hg3 hat3))
            refine ⟨⟨t + 1, (n + 1), A3, c3, by omega, by first | omega | exact int_eq (by omega), rfl, Lib.hid ⟨_, _, _, _, _, _, l, (r ++ [s]), HT.out, HX2.out, HY2.out, HNX.out.1, HNX.out.2.1, HNX.out.2.2.1, HNX.out.2.2.2, HN2.out, by omega⟩⟩, by simp [RowKit.intOf]; omega⟩
        · have hti3 : (len1 : Int) ≤ (t : Int) := by omega
          go_wp2_with (at_builtin; go_must (refine wpList_appW (.inl rfl) (.tmp 74) (.tmp 76) rfl w.heap.size A n c (l ++ r) rfl HN.out (OwnR.alloc HTY.out.row _) (some ⟨wY.heap.size, 0, none⟩) 1 1 [s] rfl rfl (rdw_one _ _ _ rfl) (by rw [← HN.out]; simp; omega) (by simp; omega) ?_); (intro A3 c3 w3 hown3 hg3 hat3; have ht3 := (HTY.out.below ((Below.refl _ _).alloc (Nat.le_refl _) _)).more hown3 hg3 (by rcases hat3 with h | h; exact .inl h; exact .inr ⟨_, h, Nat.le_refl _⟩); rw [List.append_assoc] at ht3; have HT := Lib.hid ht3; have g1 := ht3.dx.cells.2.2.1;  clear ht3 hown3 hg3 hat3))
          refine ⟨⟨t + 1, (n + 1), A3, c3, by omega, by first | omega | exact int_eq (by omega), rfl, Lib.hid ⟨_, _, _, _, _, _, l, (r ++ [s]), HT.out, HX2.out, HY2.out, HNX.out.1, HNX.out.2.1, HNX.out.2.2.1, HNX.out.2.2.2, HN2.out, by omega⟩⟩, by simp [RowKit.intOf]; omega⟩
      · have hze : (E == 0) = false := by simpa using hz
        have HZE := Lib.hid hz
        clear hz
        have HX2 : Hid (Held S (J.app s) 32 0 10 1 l r) := Lib.hid (by
          rcases HHX.out.append s with ⟨_, _, a⟩ | ⟨_, _, _, a⟩ | ⟨a, _⟩
          · rw [a]; exact HHX.out
          · rw [a]; exact HHX.out
          · rw [HE.out.1] at a; exact absurd a HZE.out)
        have HY2 : Hid (Held S' (J'.app s) 32 0 10 1 [] (l ++ r)) := Lib.hid (by
          rcases HHY.out.append s with ⟨_, _, a⟩ | ⟨_, _, _, a⟩ | ⟨a, _⟩
          · rw [a]; exact HHY.out
          · rw [a]; exact HHY.out
          · rw [HE.out.2] at a; exact absurd a HZE.out)
        have HT := HTY
        have HN2 := HN
        have g1 := HT.out.dx.cells.2.2.1
        by_cases hcut : t < len1
        · obtain ⟨bd, e, hc⟩ := (HR1.out.below HT.out.be) t (by rw [HZ1.out]; exact hcut)
          subst e
          have hti3 : (t : Int) < (len1 : Int) := by omega
          have HCUT := Lib.hid hcut
          cases hbz : z1.getD t false with
          | true =>
            rw [hbz] at hc
            have HBZ := Lib.hid hbz

            obtain ⟨k1, _, k3, k4⟩ := HX2.out.commit.calm HNX.out.2.2.1
            have HCM := Lib.hid (tg_commitx HT.out 0 k1)
            have HK := Lib.hid (And.intro k3 k4)
            have HNN := Lib.hid (HNX.out.1.commit HX2.out)
            clear k1 k3 k4 hbz
            go_wp2_with fail
            refine HCM.out.mono ?_
            rintro e w5 ⟨rfl, K5, ht5⟩
            have HT5 := Lib.hid ht5
            clear ht5 g1 hc
            go_wp2_with fail
            refine ⟨⟨t + 1, n, A, c, by omega, by first | omega | exact int_eq (by omega), rfl, Lib.hid ⟨_, _, _, _, _, _, l ++ r, [], by rw [List.append_nil]; exact HT5.out, HK.out.2, by rw [List.append_nil]; exact HY2.out, HNN.out, HNX.out.2.1, HK.out.1, HNX.out.2.2.2, by rw [List.append_nil]; exact HN2.out, by omega⟩⟩, by simp [RowKit.intOf]; omega⟩
          | false =>
            rw [hbz] at hc
            have HBZ := Lib.hid hbz
            clear hbz
            go_wp2_with fail
            refine ⟨⟨t + 1, n, A, c, by omega, by first | omega | exact int_eq (by omega), rfl, Lib.hid ⟨_, _, _, _, _, _, l, r, HT.out, HX2.out, HY2.out, HNX.out.1, HNX.out.2.1, HNX.out.2.2.1, HNX.out.2.2.2, HN2.out, by omega⟩⟩, by simp [RowKit.intOf]; omega⟩
        · have hti3 : (len1 : Int) ≤ (t : Int) := by omega
          go_wp2_with fail
          refine ⟨⟨t + 1, n, A, c, by omega, by first | omega | exact int_eq (by omega), rfl, Lib.hid ⟨_, _, _, _, _, _, l, r, HT.out, HX2.out, HY2.out, HNX.out.1, HNX.out.2.1, HNX.out.2.2.1, HNX.out.2.2.2, HN2.out, by omega⟩⟩, by simp [RowKit.intOf]; omega⟩
    · obtain ⟨S, J, K, S', J', K', l, r, htg, hhx, hhy, hnx, hny, hax, hay, hn, hnt⟩ := HJ.out
      have HTG := Lib.hid htg
      have HN := Lib.hid hn
      have htb : (len0 : Int) ≤ (t : Int) ∨ (20 : Int) ≤ (t : Int) := by omega
      obtain ⟨k1, _, k3, k4⟩ := hhx.commit.calm hax
      obtain ⟨m1, _, m3, m4⟩ := hhy.commit.calm hay
      have hnx2 := hnx.commit hhx
      have hny2 := hny.commit hhy
      rw [List.nil_append] at hny2 m4
      obtain ⟨S2, hS2⟩ : ∃ S2, (commitF J S 0).2 = S2 := ⟨_, rfl⟩
      obtain ⟨J2, hJ2⟩ : ∃ J2, J.commit S 0 = J2 := ⟨_, rfl⟩
      obtain ⟨S3, hS3⟩ : ∃ S3, (commitF J' S' 0).2 = S3 := ⟨_, rfl⟩
      obtain ⟨J3, hJ3⟩ : ∃ J3, J'.commit S' 0 = J3 := ⟨_, rfl⟩
      obtain ⟨wt, hwt⟩ : ∃ wt, l ++ r = wt := ⟨_, rfl⟩
      rw [hwt] at HTG HN hnx2 hny2 k4 m4
      rw [hS2] at k3 k4 hnx2
      rw [hJ2] at k4
      rw [hS3] at m3 m4 hny2
      rw [hJ3] at m4
      have HC1 : Hid (Calls Try.prog 15 #[ob j] wr fun e w' => TgX w x p d j (.int .i64 0) S2 J2 y p' d' j' S' J' K' A c wt e w') := Lib.hid (by
        have := tg_commitx HTG.out 0 k1
        rw [hS2, hJ2] at this; exact this)
      have HC2 : Hid (∀ W K2, Tg w W x p d j S2 J2 K2 y p' d' j' S' J' K' A c wt → Calls Try.prog 15 #[ob j'] W fun e w' => TgY w x p d j S2 J2 K2 y p' d' j' (.int .i64 0) S3 J3 A c wt e w') := Lib.hid (fun W K2 h => by
        have := tg_commity h 0 m1
        rw [hS3, hJ3] at this; exact this)
      have HX := Lib.hid (And.intro k3 (And.intro k4 hnx2))
      have HY := Lib.hid (And.intro m3 (And.intro m4 hny2))
      have g1 := HTG.out.dx.cells.2.2.1
      clear htg hhx hhy hnx hny hax hay hn HJ k1 k3 k4 m1 m3 m4 hnx2 hny2 hS2 hJ2 hS3 hJ3 hwt
      have hexit : (decide ((t : Int) < (len0 : Int)) && decide ((t : Int) < 20)) = false := by
        rw [Bool.and_eq_false_iff, decide_eq_false_iff_not, decide_eq_false_iff_not]; omega
      by_cases hlt0 : t < len0
      all_goals
        go_wp2_with fail
        refine HC1.out.mono ?_
        rintro e wa ⟨rfl, Ka, hta⟩
        have HTA := Lib.hid hta
        have g2 := hta.dy.cells.2.2.1
        clear hta g1
        go_wp2_with fail
        refine (HC2.out _ _ HTA.out).mono ?_
        rintro e wb ⟨rfl, Kb, htb2⟩
        have HTB := Lib.hid htb2
        have g1 := htb2.dx.cells.2.1
        obtain ⟨ra, rb⟩ := HX.out.2.2.read
        have hrd := desk_read htb2.dx 0 4096 (by omega) (by omega)
        unfold ReadSpec at hrd
        rw [ra, rb] at hrd
        have HRD := Lib.hid hrd
        clear htb2 g2 ra rb hrd
        go_wp2_with fail
        refine HRD.out.mono ?_
        rintro e wc ⟨A1, c1, rfl, ho1, hbc⟩
        have HO1 := Lib.hid ho1
        have HBC := Lib.hid hbc
        have HTC := Lib.hid (HTB.out.below hbc)
        have g2 := HTC.out.dy.cells.2.1
        obtain ⟨ra, rb⟩ := HY.out.2.2.read
        have hrd := desk_read HTC.out.dy 0 4096 (by omega) (by omega)
        unfold ReadSpec at hrd
        rw [ra, rb] at hrd
        have HRD := Lib.hid hrd
        clear g1 ra rb hrd ho1 hbc
        go_wp2_with fail
        refine HRD.out.mono ?_
        rintro e wd ⟨A2, c2, rfl, ho2, hbd⟩
        have HO2 := Lib.hid ho2
        have HO1D := Lib.hid (HO1.out.below hbd)
        have HTD := Lib.hid (HTC.out.below hbd)
        have g1 := HTD.out.dx.cells.2.1
        obtain ⟨hor, hop⟩ := HX.out.2.1.open_
        obtain ⟨o1, _, _, _⟩ := hop.calm HX.out.1
        have hopn := desk_open HTD.out.dx (128 * 0) 10 (held_check HX.out.2.1)
        obtain ⟨R, hR⟩ : ∃ R, openF S2 0 (128 * 0) 10 = R := ⟨_, rfl⟩
        rw [hR] at hopn o1
        have hopn : Calls Try.prog 17 #[ob d, .int .i64 0, .int .i64 10] wd fun e w' => DOpen x p d j S2 (128 * 0) 10 R J2 Ka wd e w' := hopn
        have HOP := Lib.hid hopn
        have HOR := Lib.hid (And.intro hor o1)
        clear g2 hor o1 hop hopn hR ho2 hbd
        go_wp2_with fail
        refine HOP.out.mono ?_
        rintro e we hop
        rcases hop with ⟨h9, _⟩ | ⟨_, j2, A3, n3, c3, K7, G, rfl, hn3, hr3, hnc3, hd7, hj7, hdi, hs7, _⟩
        · exact absurd HOR.out.2 h9
        · rw [HOR.out.1] at hn3 hr3
          have HN3 := Lib.hid hn3
          have HR3 := Lib.hid hr3
          have HS7 := Lib.hid hs7
          have HTE : Hid (RdB we A1 (S2.at_ 0).rd ∧ RdB we A2 (S3.at_ 0).rd ∧ RdW we A wt ∧ Below w.heap.size w we) := Lib.hid (by
            have hKa := HTB.out.dx.lt
            have hsz := HBC.out.size
            refine ⟨HO1D.out.rd.step HS7.out fun ad e hf => ?_, HO2.out.rd.step HS7.out fun ad e hf => ?_, HTD.out.row.rd.keep fun ad e hl => HS7.out.block _ hl (HTD.out.ax _ (by rw [e]; rfl)), HTD.out.be.trans (HS7.out.below HTD.out.gx HTD.out.be.size)⟩
            · have h1 := hKa _ hf
              have h2 := (OwnR.lt HO1.out ad.block (by rw [e]; rfl)).1
              omega
            · have h1 := hKa _ hf
              have h2 := (OwnR.lt HO2.out ad.block (by rw [e]; rfl)).1
              omega)
          clear hn3 hr3 hnc3 hd7 hj7 hdi hs7 g1
          go_wp2_with fail
          refine (jopen_nil we 0 10).mono ?_
          rintro e _ ⟨rfl, rfl⟩
          go_wp2_with fail
          refine (new_nil 128 we).mono ?_
          rintro e _ ⟨rfl, rfl⟩
          have hcv1 := fun n hn => run_str (n := n) c1 HTE.out.1 hn
          have hcv2 := fun n hn => run_str (n := n) c2 HTE.out.2.1 hn
          have hcva : (convert 37 9 (.slice A1 (S2.at_ 0).rd.length c1)).run Try.prog we = .ok (.string (bs (S2.at_ 0).rd)) we := hcv1 _ rfl
          have hcvb : (convert 37 9 (.slice A2 (S3.at_ 0).rd.length c2)).run Try.prog we = .ok (.string (bs (S3.at_ 0).rd)) we := hcv2 _ rfl
          have heq : ((bs (S2.at_ 0).rd).toList == (bs (S3.at_ 0).rd).toList) = true := by rw [bs_beq, decide_eq_true_iff]; exact HX.out.2.2.same HY.out.2.2
          clear hcv1 hcv2
          have HSM : Hid (Calls Try.prog 19 #[.slice A3 n3 c3, .slice A n c] we fun e w' => QuietB true we e w') := Lib.hid (by
            have := same_any A3 A wt wt c3 c we HR3.out HTE.out.2.2.1 (by unfold maxLen; rw [← HN.out]; omega) (by unfold maxLen; rw [← HN.out]; omega)
            rw [decide_eq_true rfl, ← HN.out] at this
            rw [HN3.out, ← HN.out]
            exact this)
          go_wp2_with fail
          refine HSM.out.mono ?_
          rintro e w8 ⟨rfl, nq, rfl⟩
          go_wp2_with fail
          go_returns
          exact ⟨rfl, below_drewN HTE.out.2.2.2 _⟩
end Go.Proofs.Ytjmhfjioccljeaa
