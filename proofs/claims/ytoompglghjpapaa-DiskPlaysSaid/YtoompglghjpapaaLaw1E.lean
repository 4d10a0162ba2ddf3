/-
  Walk: the law DiskArms: armed with n, just n writes and syncs of all disks are answered OK; then all are dark, till a crash.
-/
import Derived.Test.YtoompglghjpapaaLaw1B
import Derived.Test.YtoompglghjpapaaRec
import Derived.Deep.Cut
import Derived.Lib.SlBytesConst
namespace Go.Proofs.Ytoompglghjpapaa
open Go.RowKit
set_option linter.unusedVariables false
set_option linter.unusedSimpArgs false
attribute [local go_sem ↓] Go.wp_at_zero Go.wp_at_succ

/-- bytes in a block just made, whatever its mark -/
theorem rd_mark (w : World) (l : List UInt8) (C : Array Value) (fr : Nat × Nat) (h : C.toList = bc l) : RdB (w.alloc (.cells C 5 fr)) (some ⟨w.heap.size, 0, none⟩) l := fun hl => by
  refine ⟨_, rfl, fun k hk => ?_⟩
  have : (⟨w.heap.size, 0, none⟩ : Addr).add k = ⟨w.heap.size, k, none⟩ := by unfold Addr.add; split <;> simp_all
  rw [this, World.cell?_alloc_mark, ← Array.getElem?_toList, h, bc_get l k hk]
theorem RecAt.ops {w : World} {ad : Addr} {i : Nat} {r : Rec} (h : RecAt 4 w ad i r) : w.cell? (ad.add (i * 6)) = some (.int .i64 (r.at_ 0)) ∧ w.cell? ⟨(ad.add (i * 6)).block, (ad.add (i * 6)).off + 1, none⟩ = some (.int .i64 (r.at_ 1)) ∧
    w.cell? ⟨(ad.add (i * 6)).block, (ad.add (i * 6)).off + 2, none⟩ = some (.int .i64 (r.at_ 2)) ∧ w.cell? ⟨(ad.add (i * 6)).block, (ad.add (i * 6)).off + 3, none⟩ = some (.int .i64 (r.at_ 3)) ∧
    w.cell? ⟨(ad.add (i * 6)).block, (ad.add (i * 6)).off + 4, none⟩ = some (.string r.data) ∧ w.cell? ⟨(ad.add (i * 6)).block, (ad.add (i * 6)).off + 5, none⟩ = some (.slice r.pa r.picks.length r.pc) := by
  have h0 := h.ints 0 (by omega)
  have h1 := h.ints 1 (by omega)
  have h2 := h.ints 2 (by omega)
  have h3 := h.ints 3 (by omega)
  have h4 := h.data
  have h5 := h.picks
  rw [addr_add0] at h0
  rw [add_pos _ _ (by omega)] at h1 h2 h3 h4 h5
  exact ⟨h0, h1, h2, h3, h4, h5⟩
/-- the two disks, armed with n, behind i calls -/
def armsSt (D0 D1 : Dk) (n i : Nat) : St := ⟨[D0, D1], decide (n < i), (n : Int) - ((min i n : Nat) : Int)⟩
theorem use_arms (n i : Nat) : useP (decide (n < i)) ((n : Int) - ((min i n : Nat) : Int)) = (if i < n then 0 else 4, decide (n < i + 1), (n : Int) - ((min (i + 1) n : Nat) : Int)) := by
  unfold useP
  by_cases h : i < n
  · have h1 : min i n = i := by omega
    have h2 : min (i + 1) n = i + 1 := by omega
    have h3 : ¬ (decide (n < i) = true ∨ (n : Int) - (i : Int) = 0) := by simp; omega
    have h4 : decide (n < i + 1) = false := by simp; omega
    rw [h1, h2, if_neg h3, if_pos h, if_pos (by omega), h4]
    simp; omega
  · have h1 : min i n = n := by omega
    have h2 : min (i + 1) n = n := by omega
    have h3 : (decide (n < i) = true ∨ (n : Int) - (n : Int) = 0) := .inr (by omega)
    have h4 : decide (n < i + 1) = true := by simp; omega
    rw [h1, h2, if_pos h3, if_neg h, h4]
theorem arms_sync {D0 D1 : Dk} {n i k : Nat} (hk : k < 2) (h0 : D0.size = 512) (h1 : D1.size = 256) : ∃ E0 E1, E0.size = 512 ∧ E1.size = 256 ∧ (armsSt D0 D1 n i).sync k = (if i < n then 0 else 4, armsSt E0 E1 n (i + 1)) := by
  unfold St.sync syncD
  have ho : (armsSt D0 D1 n i).off = decide (n < i) := rfl
  have ha : (armsSt D0 D1 n i).arm = (n : Int) - ((min i n : Nat) : Int) := rfl
  rw [ho, ha, use_arms]
  have hs : ∀ (D : Dk) (c : Prop) [Decidable c], (if c then D.sync else D).size = D.size := fun D c _ => by split <;> rfl
  rcases (by omega : k = 0 ∨ k = 1) with rfl | rfl
  · exact ⟨_, D1, by rw [hs]; exact h0, h1, rfl⟩
  · exact ⟨D0, _, h0, by rw [hs]; exact h1, rfl⟩
theorem arms_write {D0 D1 : Dk} {n i k o : Nat} {b : List UInt8} (hk : k < 2) (h0 : D0.size = 512) (h1 : D1.size = 256) (hb : o + b.length ≤ 256) :
    ∃ E0 E1, E0.size = 512 ∧ E1.size = 256 ∧ (armsSt D0 D1 n i).write k (o : Int) b = (if i < n then 0 else 4, armsSt E0 E1 n (i + 1)) := by
  have ho : (armsSt D0 D1 n i).off = decide (n < i) := rfl
  have ha : (armsSt D0 D1 n i).arm = (n : Int) - ((min i n : Nat) : Int) := rfl
  have hs : ∀ (D : Dk) (x : Int), 256 ≤ D.size → (writeD D (decide (n < i)) ((n : Int) - ((min i n : Nat) : Int)) (o : Int) b).size = D.size := fun D x hD => by
    unfold writeD
    split
    · rw [Int.toNat_natCast, write_size _ (by omega)]
    · rfl
  rcases (by omega : k = 0 ∨ k = 1) with rfl | rfl
  · have ht : (armsSt D0 D1 n i).at_ 0 = D0 := rfl
    have hin : inB D0.size (o : Int) (b.length : Int) = true := inB_nat (by omega)
    unfold St.write
    rw [ht, ho, ha]
    refine ⟨_, D1, (hs D0 0 (by omega)).trans h0, h1, ?_⟩
    unfold writeE writeOff writeArm
    rw [if_pos hin, if_pos hin, if_pos hin, use_arms]; rfl
  · have ht : (armsSt D0 D1 n i).at_ 1 = D1 := rfl
    have hin : inB D1.size (o : Int) (b.length : Int) = true := inB_nat (by omega)
    unfold St.write
    rw [ht, ho, ha]
    refine ⟨D0, _, h0, (hs D1 0 (by omega)).trans h1, ?_⟩
    unfold writeE writeOff writeArm
    rw [if_pos hin, if_pos hin, if_pos hin, use_arms]; rfl
theorem arms_read {D0 D1 : Dk} {n i k : Nat} (hk : k < 2) (h0 : D0.size = 512) (h1 : D1.size = 256) : readE ((armsSt D0 D1 n i).at_ k) (armsSt D0 D1 n i).off 0 1 = if n < i then 4 else 0 := by
  have ho : (armsSt D0 D1 n i).off = decide (n < i) := rfl
  have hin : inB ((armsSt D0 D1 n i).at_ k).size 0 1 = true := by
    rcases (by omega : k = 0 ∨ k = 1) with rfl | rfl
    · show inB D0.size 0 1 = true; rw [h0]; decide
    · show inB D1.size 0 1 = true; rw [h1]; decide
  unfold readE
  rw [if_pos hin, ho]
  by_cases h : n < i <;> simp [h]
/-- behind i calls -/
def ArmsR (w0 : World) (p a b : Nat) (ad : Addr) (n i : Nat) (wr : World) : Prop :=
  ∃ D0 D1 F, LW w0 wr p [a, b] (armsSt D0 D1 n i) F ∧ D0.size = 512 ∧ D1.size = 256 ∧ wr.cell? ad = some (ob a) ∧ wr.cell? ⟨ad.block, ad.off + 1, none⟩ = some (ob b) ∧ ¬ F ad.block
theorem alloc_cell {w : World} {x : Addr} {v : Value} {o : Obj} (h : w.cell? x = some v) : (w.alloc o).cell? x = some v := below_cell ((Below.refl _ _).alloc (Nat.le_refl _) o) h
theorem ArmsR.below {w0 w w' : World} {p a b n i : Nat} {ad : Addr} (h : ArmsR w0 p a b ad n i w) (hb : Below w.heap.size w w') : ArmsR w0 p a b ad n i w' := by
  obtain ⟨D0, D1, F, h1, h2, h3, h4, h5, h6⟩ := h
  exact ⟨D0, D1, F, h1.below hb, h2, h3, below_cell hb h4, below_cell hb h5, h6⟩
theorem arms_call_sync {w0 w : World} {p a b n i d k : Nat} {ad : Addr} (h : ArmsR w0 p a b ad n i w) (hk : [a, b][k]? = some d) :
    Calls Try.prog 30 #[ob d] w fun e w' => e = .returned (.int .i64 (if i < n then 0 else 4)) ∧ ArmsR w0 p a b ad n (i + 1) w' := by
  obtain ⟨D0, D1, F, h1, h2, h3, h4, h5, h6⟩ := h
  have hk2 : k < 2 := (List.getElem?_eq_some_iff.1 hk).1
  obtain ⟨E0, E1, e0, e1, he⟩ := arms_sync (n := n) (i := i) hk2 h2 h3
  refine (lw_sync h1 hk).mono ?_
  rintro e w' ⟨rfl, F', hl, hkp⟩
  rw [he] at hl ⊢
  exact ⟨rfl, E0, E1, F', hl, e0, e1, (hkp _ _ h4 h6).1, (hkp _ _ h5 h6).1, (hkp _ _ h4 h6).2⟩
theorem arms_call_write {w0 w : World} {p a b n i d k o : Nat} {ad : Addr} {oi : Int} (h : ArmsR w0 p a b ad n i w) (hk : [a, b][k]? = some d) (ho : oi = (o : Int)) (ho2 : o ≤ 99) (A : Option Addr) (c g : Nat) (hg : g = w.heap.size) (x y : UInt8) {cs : Array Value} {fr : Nat × Nat} (hcs : cs.toList = bc [x, y]) :
    Calls Try.prog 28 #[ob d, .int .i64 oi, .slice (some ⟨g, 0, none⟩) 2 c] (w.alloc (.cells cs 5 fr)) fun e w' => e = .returned (.int .i64 (if i < n then 0 else 4)) ∧ ArmsR w0 p a b ad n (i + 1) w' := by
  subst hg; subst ho
  obtain ⟨D0, D1, F, h1, h2, h3, h4, h5, h6⟩ := h
  have hk2 : k < 2 := (List.getElem?_eq_some_iff.1 hk).1
  obtain ⟨E0, E1, e0, e1, he⟩ := arms_write (n := n) (i := i) (o := o) (b := [x, y]) hk2 h2 h3 (by simp; omega)
  refine (lw_write (h1.alloc _) hk (o : Int) _ [x, y] 2 c rfl (by omega) (by omega) (rd_mark w [x, y] cs fr hcs) (fun ad e => by cases e; exact h1.notin (.inr (Nat.le_refl _)))).mono ?_
  rintro e w' ⟨rfl, F', hl, hkp⟩
  rw [he] at hl ⊢
  exact ⟨rfl, E0, E1, F', hl, e0, e1, (hkp _ _ (alloc_cell h4) h6).1, (hkp _ _ (alloc_cell h5) h6).1, (hkp _ _ (alloc_cell h4) h6).2⟩
theorem arms_call_read {w0 w : World} {p a b n i d k : Nat} {ad : Addr} (h : ArmsR w0 p a b ad n i w) (hk : [a, b][k]? = some d) :
    Calls Try.prog 29 #[ob d, .int .i64 0, .int .i64 1] w fun e w' => (∃ A m c, e = .returned (.tuple #[.slice A m c, .int .i64 (if n < i then 4 else 0)])) ∧ ArmsR w0 p a b ad n i w' := by
  have h' := h
  obtain ⟨D0, D1, F, h1, h2, h3, h4, h5, h6⟩ := h
  have hk2 : k < 2 := (List.getElem?_eq_some_iff.1 hk).1
  refine (lw_read_any h1 hk 0 1 (by omega) (by omega) _ (arms_read hk2 h2 h3)).mono ?_
  rintro e w' ⟨A, m, c, rfl, hb⟩
  exact ⟨⟨A, m, c, rfl⟩, h'.below hb⟩
theorem arms_call_off {w0 w : World} {p a b n i : Nat} {ad : Addr} (h : ArmsR w0 p a b ad n i w) : Calls Try.prog 33 #[ob p] w fun e w' => e = .returned (.bool (decide (n < i))) ∧ w = w' := by
  obtain ⟨D0, D1, F, h1, _⟩ := h
  exact st_off h1.pw
theorem conv_ab (w : World) : (convert 37 37 (.slice (some ⟨w.heap.size, 0, none⟩) 2 2)).run Try.prog (w.alloc (.cells #[.int .u8 97, .int .u8 98] 5)).drew = .ok (.slice (some ⟨w.heap.size, 0, none⟩) 2 2) (w.alloc (.cells #[.int .u8 97, .int .u8 98] 5 (2, 3))).drew :=
  Lib.run_convert_bytes_const (P := Try.prog) w.drew 37 5 #[.int .u8 97, .int .u8 98] 2 2 Try.underlying37 Try.underlying5
theorem cut_i64 (cut : Int) (n k : Nat) (hn : n ≤ 1048576) (h : wrap64 ((IntKind.u64.wrap cut).tmod ((n : Int) + 1)) = (k : Int)) : IntKind.i64.wrap ((IntKind.u64.wrap cut).tmod ((n : Int) + 1)) = (k : Int) := by
  have h1 : 0 ≤ IntKind.u64.wrap cut := by rw [IntKind.wrap_u64]; omega
  rw [Int.tmod_eq_emod_of_nonneg h1] at h ⊢
  have h2 := Int.emod_nonneg (IntKind.u64.wrap cut) (show (n : Int) + 1 ≠ 0 by omega)
  have h3 := Int.emod_lt_of_pos (IntKind.u64.wrap cut) (show (0 : Int) < (n : Int) + 1 by omega)
  generalize IntKind.u64.wrap cut % ((n : Int) + 1) = m at *
  rw [IntWalk.i64_in _ (by omega)]
  unfold wrap64 at h
  omega
theorem conv_x (w : World) : (convert 37 37 (.slice (some ⟨w.heap.size, 0, none⟩) 1 1)).run Try.prog (w.alloc (.cells #[.int .u8 120] 5)) = .ok (.slice (some ⟨w.heap.size, 0, none⟩) 1 1) (w.alloc (.cells #[.int .u8 120] 5 (1, 2))) :=
  Lib.run_convert_bytes_const (P := Try.prog) w 37 5 #[.int .u8 120] 1 1 Try.underlying37 Try.underlying5
theorem arms_old {w0 w : World} {p a b n i : Nat} {ad : Addr} (h : ArmsR w0 p a b ad n i w) {x : Addr} {v : Value} (hx : w0.cell? x = some v) : w.cell? x = some v := by
  obtain ⟨_, _, _, h1, _⟩ := h
  exact below_cell h1.be hx
theorem arms_write_drew {w0 w : World} {p a b n i d k o : Nat} {ad : Addr} {oi E : Int} (h : ArmsR w0 p a b ad n i w) (hk : [a, b][k]? = some d) (ho : oi = (o : Int)) (ho2 : o ≤ 99) (g : Nat) (hE : (if i < n then (0 : Int) else 4) = E) :
    Calls Try.prog 28 #[ob d, .int .i64 oi, .slice (some ⟨w.heap.size, 0, none⟩) 2 2] (w.alloc (.cells #[.int .u8 97, .int .u8 98] 5 (2, 3))).drew fun e w' => e = .returned (.int .i64 E) ∧ ArmsR w0 p a b ad n (i + 1) w' := by
  subst hE
  exact arms_call_write (w := w.drew) (h.below (below_drewN (Below.refl _ _) 1)) hk ho ho2 none 2 _ rfl 97 98 rfl
theorem crash_size {D : Dk} (h : D.Ok) (picks : List Int) (a : Nat) : (D.crash picks a).size = D.size := by
  show (D.crashed picks a).length = D.rd.length
  unfold Dk.crashed
  rw [blend_length h.la h.rd (Nat.le_refl _), h.rd]
theorem arms_ca {w0 w : World} {p a b n i : Nat} {ad : Addr} (h : ArmsR w0 p a b ad n i w) : w.cell? ad = some (ob a) := by obtain ⟨_, _, _, _, _, _, h, _, _⟩ := h; exact h
theorem arms_cb {w0 w : World} {p a b n i : Nat} {ad : Addr} (h : ArmsR w0 p a b ad n i w) : w.cell? ⟨ad.block, ad.off + 1, none⟩ = some (ob b) := by obtain ⟨_, _, _, _, _, _, _, h, _⟩ := h; exact h
/-- behind a crash -/
theorem arms_crash {w0 w : World} {p a b n i : Nat} {ad : Addr} (h : ArmsR w0 p a b ad n i w) :
    Calls Try.prog 31 #[ob p, .slice none 0 0] w fun e w' => e = .returned (.tuple #[]) ∧ ∃ E0 E1 F, LW w0 w' p [a, b] ⟨[E0, E1], false, -1⟩ F ∧ E0.size = 512 ∧ E1.size = 256 ∧ w'.cell? ad = some (ob a) ∧ w'.cell? ⟨ad.block, ad.off + 1, none⟩ = some (ob b) ∧ ¬ F ad.block := by
  obtain ⟨D0, D1, F, h1, h2, h3, h4, h5, h6⟩ := h
  refine (lw_crash0 h1).mono ?_
  rintro e w' ⟨rfl, F', hl, hk⟩
  have g0 : D0.Ok := by
    obtain ⟨_, _, _, _, _, _, _, _, _, hd, _⟩ := h1.pw.open_ (k := 0) rfl
    exact hd.ok
  have g1 : D1.Ok := by
    obtain ⟨_, _, _, _, _, _, _, _, _, hd, _⟩ := h1.pw.open_ (k := 1) rfl
    exact hd.ok
  refine ⟨rfl, D0.crash [] 0, D1.crash [] (0 + D0.all), F', hl, ?_, ?_, (hk _ _ h4 h6).1, (hk _ _ h5 h6).1, (hk _ _ h4 h6).2⟩
  · rw [crash_size g0, h2]
  · rw [crash_size g1, h3]
set_option maxRecDepth 100000 in
set_option maxHeartbeats 1000000 in
theorem DiskArms_walk (nn : Int) (A : Option Addr) (l : List Rec) (c : Nat) (w : World) (hn : -9223372036854775808 ≤ nn ∧ nn ≤ 9223372036854775807) (hA : RdRec 4 w A l) (hl : l.length ≤ maxLen) :
    Calls Try.prog 7 #[.int .i64 nn, .slice A l.length c] w fun e w' => e = .returned (.bool true) ∧ Below w.heap.size w w' := by
  unfold maxLen at hl
  have HA := Lib.hid hA
  clear hA
  obtain ⟨m, hm⟩ : ∃ m, l.length = m := ⟨_, rfl⟩
  have HM : Hid (l.length = m) := Lib.hid hm
  rw [hm] at hl ⊢
  clear hm
  go_enter Try.func7, Try.ntmps7
  go_wp2_with fail
  refine (known_any w).mono ?_
  rintro e w1 ⟨rfl, hb1⟩
  have HW1 := Lib.hid hb1
  have HA1 := Lib.hid (HA.out.below hb1)
  clear hb1
  go_wp2_with fail
  refine (pair_any w1).mono ?_
  intro e w2 hpr
  obtain ⟨p, a, b, ad, cc, F, rfl, hl2, ca, cb, hn2, hge, hlt⟩ := hpr.open_
  have HL := Lib.hid hl2
  have HN := Lib.hid hn2
  clear hl2 hn2 hpr
  obtain ⟨n, hnn, hn59⟩ := cut_mod nn 59 (by omega)
  rw [show ((59 : Nat) : Int) + 1 = 60 from rfl] at hnn
  go_wp2_with fail
  rw [hnn]
  clear hnn
  refine (lw_arm HL.out (n : Int) (by omega)).mono ?_
  rintro e w3 ⟨rfl, F3, hl3, hk3⟩
  have hst : pair0.armed (n : Int) = armsSt (Dk.fresh 4) (Dk.fresh 2) n 0 := by
    unfold St.armed armsSt pair0
    have e1 : decide (n < 0) = false := by simp
    have e2 : max (n : Int) (-1) = (n : Int) - ((min 0 n : Nat) : Int) := by omega
    rw [e1, e2]
  rw [hst] at hl3
  have HR : Hid (ArmsR w1 p a b ad n 0 w3) := Lib.hid ⟨_, _, F3, hl3, fresh_size 4, fresh_size 2, (hk3 _ _ ca HN.out).1, (hk3 _ _ cb HN.out).1, (hk3 _ _ ca HN.out).2⟩
  clear hl3 hk3 hst ca cb HL HN hge hlt
  go_wp2_with fail
  go_loopw [8, 9] (fun dn i wr => ∃ k : Nat, dn = .int .i64 (k : Int) ∧ i = .int .i64 (k : Int) ∧ k ≤ 50 ∧ k ≤ m ∧ Hid (ArmsR w1 p a b ad n k wr)) (fun _ i _ => 50 - (RowKit.intOf i).toNat)
  case atStart => exact ⟨0, rfl, rfl, by omega, by omega, HR⟩
  case round =>
    clear HR
    obtain ⟨k, rfl, rfl, hk50, hkm, HR⟩ := hrel
    by_cases hgo : k < m ∧ k < 50
    · obtain ⟨hkm2, hk2⟩ := hgo
      obtain ⟨D0, D1, F, hl, hs0, hs1, ca, cb, hnf⟩ := HR.out
      obtain ⟨la, rfl, hrec0⟩ := HA1.out k (by rw [HM.out]; exact hkm2)
      have hrec := hrec0.below hl.be
      have q2o := hrec0.ops.2.2.1
      obtain ⟨r, hr⟩ : ∃ r, l.getD k rec0 = r := ⟨_, rfl⟩
      rw [hr] at hrec q2o
      obtain ⟨q0, q1, q2, _⟩ := hrec.ops
      have HG := Lib.hid hrec.good
      have HL := Lib.hid hl
      have HNF := Lib.hid hnf
      have HS := Lib.hid (And.intro hs0 hs1)
      obtain ⟨kw, hkw, hkw1⟩ := cut_mod (r.at_ 1) 1 (by omega)
      rw [show ((1 : Nat) : Int) + 1 = 2 from rfl] at hkw
      obtain ⟨ko, hko, hko1⟩ := cut_mod (r.at_ 2) 99 (by omega)
      rw [show ((99 : Nat) : Int) + 1 = 100 from rfl] at hko
      have hr0 := hrec.good.ints 0
      obtain ⟨x0, hx0⟩ : ∃ x, r.at_ 0 = x := ⟨_, rfl⟩
      obtain ⟨x1, hx1⟩ : ∃ x, r.at_ 1 = x := ⟨_, rfl⟩
      obtain ⟨x2, hx2⟩ : ∃ x, r.at_ 2 = x := ⟨_, rfl⟩
      rw [hx0] at q0 hr0
      rw [hx1] at q1 hkw
      rw [hx2] at q2 hko q2o
      clear hr hrec hrec0 hl hnf hs0 hs1 hx0 hx1 hx2
      rcases (by omega : kw = 0 ∨ kw = 1) with rfl | rfl
      · go_upto_region 13 with (fail)
        rw [hkw]
        clear hkw
        by_cases hkn : k < n
        · have hE1 : (if k < n then (0 : Int) else 4) = 0 := if_pos hkn
          have hE2 : (if n < k + 1 then (4 : Int) else 0) = 0 := if_neg (by omega)
          have hE3 : decide (n < k + 1) = false := by simp; omega
          have hE4 : decide ((k : Int) + 1 ≤ (n : Int)) = true := by simp; omega
          have hE5 : decide ((n : Int) < (k : Int) + 1) = false := by simp; omega
          clear hkn
          by_cases hpar : (x0.tmod 2 == 0) = true
          · go_wp2_with fail
            refine (arms_call_sync HR.out (k := 0) rfl).mono ?_
            rintro e w4 ⟨rfl, hr2⟩
            rw [hE1]
            have c2 := arms_cb hr2
            have HR2 := Lib.hid hr2
            clear hr2
            go_wp2_with fail
            refine (arms_call_read HR2.out (k := 1) rfl).mono ?_
            rintro e w5 ⟨⟨A5, m5, c5, rfl⟩, hr5⟩
            have HR5 := Lib.hid hr5
            clear hr5
            rw [hE2]
            go_wp2_with fail
            refine (arms_call_off HR5.out).mono ?_
            rintro e w6 ⟨rfl, rfl⟩
            rw [hE3]
            go_wp2_with fail
            exact ⟨⟨k + 1, int_eq (by omega), int_eq (by omega), by omega, by omega, HR5⟩, by simp [RowKit.intOf]; omega⟩
          · have hpar' : (x0.tmod 2 == 0) = false := by simpa using hpar
            clear hpar
            have kcv := conv_ab wr
            have hkz := cut_i64 x2 99 ko (by omega) (by rw [show ((99 : Nat) : Int) + 1 = 100 from rfl]; exact hko)
            rw [show ((99 : Nat) : Int) + 1 = 100 from rfl] at hkz
            have hcw := arms_write_drew HR.out (k := 0) (d := a) (oi := (ko : Int)) rfl rfl hko1 0 hE1
            clear hko
            go_wp2_with fail
            go_region_held (fun W : World => W.cell? ad = some (ob a) ∧ W.cell? ⟨(la.add (k * 6)).block, (la.add (k * 6)).off + 2, none⟩ = some (.int .i64 x2)) (first | exact ⟨ca, q2⟩ | exact ⟨alloc_cell (o := .cells #[.int .u8 97, .int .u8 98] 5) ca, alloc_cell q2⟩ | exact ⟨alloc_cell ca, alloc_cell q2⟩ | exact ⟨arms_ca hr2, arms_old hr2 q2o⟩) (first | (with_reducible refine hcw.mono ?_; rintro e w4 ⟨rfl, hr2⟩))
            have c2 := arms_cb hr2
            have HR2 := Lib.hid hr2
            clear hr2
            go_wp2_with fail
            refine (arms_call_read HR2.out (k := 1) rfl).mono ?_
            rintro e w5 ⟨⟨A5, m5, c5, rfl⟩, hr5⟩
            have HR5 := Lib.hid hr5
            clear hr5
            rw [hE2]
            go_wp2_with fail
            refine (arms_call_off HR5.out).mono ?_
            rintro e w6 ⟨rfl, rfl⟩
            rw [hE3]
            go_wp2_with fail
            exact ⟨⟨k + 1, int_eq (by omega), int_eq (by omega), by omega, by omega, HR5⟩, by simp [RowKit.intOf]; omega⟩
        · have hE1 : (if k < n then (0 : Int) else 4) = 4 := if_neg hkn
          have hE2 : (if n < k + 1 then (4 : Int) else 0) = 4 := if_pos (by omega)
          have hE3 : decide (n < k + 1) = true := by simp; omega
          have hE4 : decide ((k : Int) + 1 ≤ (n : Int)) = false := by simp; omega
          have hE5 : decide ((n : Int) < (k : Int) + 1) = true := by simp; omega
          clear hkn
          by_cases hpar : (x0.tmod 2 == 0) = true
          · go_wp2_with fail
            refine (arms_call_sync HR.out (k := 0) rfl).mono ?_
            rintro e w4 ⟨rfl, hr2⟩
            rw [hE1]
            have c2 := arms_cb hr2
            have HR2 := Lib.hid hr2
            clear hr2
            go_wp2_with fail
            refine (arms_call_read HR2.out (k := 1) rfl).mono ?_
            rintro e w5 ⟨⟨A5, m5, c5, rfl⟩, hr5⟩
            have HR5 := Lib.hid hr5
            clear hr5
            rw [hE2]
            go_wp2_with fail
            refine (arms_call_off HR5.out).mono ?_
            rintro e w6 ⟨rfl, rfl⟩
            rw [hE3]
            go_wp2_with fail
            exact ⟨⟨k + 1, int_eq (by omega), int_eq (by omega), by omega, by omega, HR5⟩, by simp [RowKit.intOf]; omega⟩
          · have hpar' : (x0.tmod 2 == 0) = false := by simpa using hpar
            clear hpar
            have kcv := conv_ab wr
            have hkz := cut_i64 x2 99 ko (by omega) (by rw [show ((99 : Nat) : Int) + 1 = 100 from rfl]; exact hko)
            rw [show ((99 : Nat) : Int) + 1 = 100 from rfl] at hkz
            have hcw := arms_write_drew HR.out (k := 0) (d := a) (oi := (ko : Int)) rfl rfl hko1 0 hE1
            clear hko
            go_wp2_with fail
            go_region_held (fun W : World => W.cell? ad = some (ob a) ∧ W.cell? ⟨(la.add (k * 6)).block, (la.add (k * 6)).off + 2, none⟩ = some (.int .i64 x2)) (first | exact ⟨ca, q2⟩ | exact ⟨alloc_cell (o := .cells #[.int .u8 97, .int .u8 98] 5) ca, alloc_cell q2⟩ | exact ⟨alloc_cell ca, alloc_cell q2⟩ | exact ⟨arms_ca hr2, arms_old hr2 q2o⟩) (first | (with_reducible refine hcw.mono ?_; rintro e w4 ⟨rfl, hr2⟩))
            have c2 := arms_cb hr2
            have HR2 := Lib.hid hr2
            clear hr2
            go_wp2_with fail
            refine (arms_call_read HR2.out (k := 1) rfl).mono ?_
            rintro e w5 ⟨⟨A5, m5, c5, rfl⟩, hr5⟩
            have HR5 := Lib.hid hr5
            clear hr5
            rw [hE2]
            go_wp2_with fail
            refine (arms_call_off HR5.out).mono ?_
            rintro e w6 ⟨rfl, rfl⟩
            rw [hE3]
            go_wp2_with fail
            exact ⟨⟨k + 1, int_eq (by omega), int_eq (by omega), by omega, by omega, HR5⟩, by simp [RowKit.intOf]; omega⟩
      · go_upto_region 13 with (fail)
        rw [hkw]
        clear hkw
        by_cases hkn : k < n
        · have hE1 : (if k < n then (0 : Int) else 4) = 0 := if_pos hkn
          have hE2 : (if n < k + 1 then (4 : Int) else 0) = 0 := if_neg (by omega)
          have hE3 : decide (n < k + 1) = false := by simp; omega
          have hE4 : decide ((k : Int) + 1 ≤ (n : Int)) = true := by simp; omega
          have hE5 : decide ((n : Int) < (k : Int) + 1) = false := by simp; omega
          clear hkn
          by_cases hpar : (x0.tmod 2 == 0) = true
          · go_wp2_with fail
            refine (arms_call_sync HR.out (k := 1) rfl).mono ?_
            rintro e w4 ⟨rfl, hr2⟩
            rw [hE1]
            have c2 := arms_ca hr2
            have HR2 := Lib.hid hr2
            clear hr2
            go_wp2_with fail
            refine (arms_call_read HR2.out (k := 0) rfl).mono ?_
            rintro e w5 ⟨⟨A5, m5, c5, rfl⟩, hr5⟩
            have HR5 := Lib.hid hr5
            clear hr5
            rw [hE2]
            go_wp2_with fail
            refine (arms_call_off HR5.out).mono ?_
            rintro e w6 ⟨rfl, rfl⟩
            rw [hE3]
            go_wp2_with fail
            exact ⟨⟨k + 1, int_eq (by omega), int_eq (by omega), by omega, by omega, HR5⟩, by simp [RowKit.intOf]; omega⟩
          · have hpar' : (x0.tmod 2 == 0) = false := by simpa using hpar
            clear hpar
            have kcv := conv_ab wr
            have hkz := cut_i64 x2 99 ko (by omega) (by rw [show ((99 : Nat) : Int) + 1 = 100 from rfl]; exact hko)
            rw [show ((99 : Nat) : Int) + 1 = 100 from rfl] at hkz
            have hcw := arms_write_drew HR.out (k := 1) (d := b) (oi := (ko : Int)) rfl rfl hko1 0 hE1
            clear hko
            go_wp2_with fail
            go_region_held (fun W : World => W.cell? ⟨ad.block, ad.off + 1, none⟩ = some (ob b) ∧ W.cell? ⟨(la.add (k * 6)).block, (la.add (k * 6)).off + 2, none⟩ = some (.int .i64 x2)) (first | exact ⟨cb, q2⟩ | exact ⟨alloc_cell (o := .cells #[.int .u8 97, .int .u8 98] 5) cb, alloc_cell q2⟩ | exact ⟨alloc_cell cb, alloc_cell q2⟩ | exact ⟨arms_cb hr2, arms_old hr2 q2o⟩) (first | (with_reducible refine hcw.mono ?_; rintro e w4 ⟨rfl, hr2⟩))
            have c2 := arms_ca hr2
            have HR2 := Lib.hid hr2
            clear hr2
            go_wp2_with fail
            refine (arms_call_read HR2.out (k := 0) rfl).mono ?_
            rintro e w5 ⟨⟨A5, m5, c5, rfl⟩, hr5⟩
            have HR5 := Lib.hid hr5
            clear hr5
            rw [hE2]
            go_wp2_with fail
            refine (arms_call_off HR5.out).mono ?_
            rintro e w6 ⟨rfl, rfl⟩
            rw [hE3]
            go_wp2_with fail
            exact ⟨⟨k + 1, int_eq (by omega), int_eq (by omega), by omega, by omega, HR5⟩, by simp [RowKit.intOf]; omega⟩
        · have hE1 : (if k < n then (0 : Int) else 4) = 4 := if_neg hkn
          have hE2 : (if n < k + 1 then (4 : Int) else 0) = 4 := if_pos (by omega)
          have hE3 : decide (n < k + 1) = true := by simp; omega
          have hE4 : decide ((k : Int) + 1 ≤ (n : Int)) = false := by simp; omega
          have hE5 : decide ((n : Int) < (k : Int) + 1) = true := by simp; omega
          clear hkn
          by_cases hpar : (x0.tmod 2 == 0) = true
          · go_wp2_with fail
            refine (arms_call_sync HR.out (k := 1) rfl).mono ?_
            rintro e w4 ⟨rfl, hr2⟩
            rw [hE1]
            have c2 := arms_ca hr2
            have HR2 := Lib.hid hr2
            clear hr2
            go_wp2_with fail
            refine (arms_call_read HR2.out (k := 0) rfl).mono ?_
            rintro e w5 ⟨⟨A5, m5, c5, rfl⟩, hr5⟩
            have HR5 := Lib.hid hr5
            clear hr5
            rw [hE2]
            go_wp2_with fail
            refine (arms_call_off HR5.out).mono ?_
            rintro e w6 ⟨rfl, rfl⟩
            rw [hE3]
            go_wp2_with fail
            exact ⟨⟨k + 1, int_eq (by omega), int_eq (by omega), by omega, by omega, HR5⟩, by simp [RowKit.intOf]; omega⟩
          · have hpar' : (x0.tmod 2 == 0) = false := by simpa using hpar
            clear hpar
            have kcv := conv_ab wr
            have hkz := cut_i64 x2 99 ko (by omega) (by rw [show ((99 : Nat) : Int) + 1 = 100 from rfl]; exact hko)
            rw [show ((99 : Nat) : Int) + 1 = 100 from rfl] at hkz
            have hcw := arms_write_drew HR.out (k := 1) (d := b) (oi := (ko : Int)) rfl rfl hko1 0 hE1
            clear hko
            go_wp2_with fail
            go_region_held (fun W : World => W.cell? ⟨ad.block, ad.off + 1, none⟩ = some (ob b) ∧ W.cell? ⟨(la.add (k * 6)).block, (la.add (k * 6)).off + 2, none⟩ = some (.int .i64 x2)) (first | exact ⟨cb, q2⟩ | exact ⟨alloc_cell (o := .cells #[.int .u8 97, .int .u8 98] 5) cb, alloc_cell q2⟩ | exact ⟨alloc_cell cb, alloc_cell q2⟩ | exact ⟨arms_cb hr2, arms_old hr2 q2o⟩) (first | (with_reducible refine hcw.mono ?_; rintro e w4 ⟨rfl, hr2⟩))
            have c2 := arms_ca hr2
            have HR2 := Lib.hid hr2
            clear hr2
            go_wp2_with fail
            refine (arms_call_read HR2.out (k := 0) rfl).mono ?_
            rintro e w5 ⟨⟨A5, m5, c5, rfl⟩, hr5⟩
            have HR5 := Lib.hid hr5
            clear hr5
            rw [hE2]
            go_wp2_with fail
            refine (arms_call_off HR5.out).mono ?_
            rintro e w6 ⟨rfl, rfl⟩
            rw [hE3]
            go_wp2_with fail
            exact ⟨⟨k + 1, int_eq (by omega), int_eq (by omega), by omega, by omega, HR5⟩, by simp [RowKit.intOf]; omega⟩
    · clear HA HA1
      have kcv := conv_x
      rcases (by omega : ¬ k < m ∨ k < m ∧ ¬ k < 50) with h | ⟨h, h2⟩
      · go_wp2_with fail
        refine (arms_crash HR.out).mono ?_
        rintro e w4 ⟨rfl, E0, E1, F4, hl4, s0, s1, ca, cb, hnf⟩
        have HL4 := Lib.hid hl4
        clear hl4
        go_wp2_with fail
        refine (st_off HL4.out.pw).mono ?_
        rintro e w5 ⟨rfl, rfl⟩
        go_wp2_with fail
        have hwr := St.write_on (S := ⟨[E0, E1], false, -1⟩) (k := 0) (o := 0) (oi := 0) (b := [120]) rfl rfl rfl (by show 0 + 1 ≤ E0.size; omega)
        refine (lw_write (HL4.out.alloc (.cells #[.int .u8 120] 5 (1, 2))) (k := 0) rfl 0 _ [120] 1 1 rfl (by omega) (by omega) (rd_mark w4 [120] _ _ rfl) (fun ad e => by cases e; exact HL4.out.notin (.inr (Nat.le_refl _)))).mono ?_
        rintro e w6 ⟨rfl, F6, hl6, hk6⟩
        rw [hwr] at hl6 ⊢
        have cb6 := (hk6 _ _ (alloc_cell cb) hnf).1
        obtain ⟨S6, hl6', ho6, ha6⟩ : ∃ S6, LW w1 w6 p [a, b] S6 F6 ∧ S6.off = false ∧ S6.arm = -1 := ⟨_, hl6, rfl, rfl⟩
        have HL6 := Lib.hid hl6'
        have hsy := St.sync_on (k := 1) ho6 ha6
        clear hl6 hl6' hk6 hwr ho6 ha6
        go_wp2_with fail
        refine (lw_sync HL6.out (k := 1) rfl).mono ?_
        rintro e w7 ⟨rfl, F7, hl7, hk7⟩
        rw [hsy]
        have HEND := Lib.hid (HW1.out.trans (hl7.be.mono HW1.out.size))
        clear hl7 hk7 hsy
        go_wp2_with fail
        go_ret
        exact ⟨by simp, HEND.out⟩
      · go_wp2_with fail
        refine (arms_crash HR.out).mono ?_
        rintro e w4 ⟨rfl, E0, E1, F4, hl4, s0, s1, ca, cb, hnf⟩
        have HL4 := Lib.hid hl4
        clear hl4
        go_wp2_with fail
        refine (st_off HL4.out.pw).mono ?_
        rintro e w5 ⟨rfl, rfl⟩
        go_wp2_with fail
        have hwr := St.write_on (S := ⟨[E0, E1], false, -1⟩) (k := 0) (o := 0) (oi := 0) (b := [120]) rfl rfl rfl (by show 0 + 1 ≤ E0.size; omega)
        refine (lw_write (HL4.out.alloc (.cells #[.int .u8 120] 5 (1, 2))) (k := 0) rfl 0 _ [120] 1 1 rfl (by omega) (by omega) (rd_mark w4 [120] _ _ rfl) (fun ad e => by cases e; exact HL4.out.notin (.inr (Nat.le_refl _)))).mono ?_
        rintro e w6 ⟨rfl, F6, hl6, hk6⟩
        rw [hwr] at hl6 ⊢
        have cb6 := (hk6 _ _ (alloc_cell cb) hnf).1
        obtain ⟨S6, hl6', ho6, ha6⟩ : ∃ S6, LW w1 w6 p [a, b] S6 F6 ∧ S6.off = false ∧ S6.arm = -1 := ⟨_, hl6, rfl, rfl⟩
        have HL6 := Lib.hid hl6'
        have hsy := St.sync_on (k := 1) ho6 ha6
        clear hl6 hl6' hk6 hwr ho6 ha6
        go_wp2_with fail
        refine (lw_sync HL6.out (k := 1) rfl).mono ?_
        rintro e w7 ⟨rfl, F7, hl7, hk7⟩
        rw [hsy]
        have HEND := Lib.hid (HW1.out.trans (hl7.be.mono HW1.out.size))
        clear hl7 hk7 hsy
        go_wp2_with fail
        go_ret
        exact ⟨by simp, HEND.out⟩
end Go.Proofs.Ytoompglghjpapaa
