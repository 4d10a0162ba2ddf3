/-
  Walks of package disk: Read.
-/
import Derived.Test.YtjmhfjioccljeaaDiskA
namespace Go.Proofs.Ytjmhfjioccljeaa
open Go.RowKit
set_option linter.unusedVariables false
set_option linter.unusedSimpArgs false

/-- what bytes.Clone gives -/
def CloneSpec (l : List UInt8) (n : Nat) (w : World) (e : Ending) (w' : World) : Prop :=
  ∃ A c, e = .returned (.slice A n c) ∧ OwnB w' w.heap.size A c l ∧ Below w.heap.size w w'
theorem bc_ints (l : List UInt8) : (l.map fun x : UInt8 => (x.toNat : Int)).map (Value.int .u8) = bc l := by simp [bc]
theorem clone_any (ad : Addr) (l : List UInt8) (n c : Nat) (w : World) (hn : n = l.length) (hl : l.length ≤ 140737488355328) (h : RdB w (some ad) l) :
    Calls Try.prog 66 #[.slice (some ad) n c] w fun e w' => CloneSpec l n w e w' := by
  subst hn
  refine (Try.bytes_Clone_at ad l.length c (l.map fun x : UInt8 => (x.toNat : Int)) w (by simp) hl fun i hi => ?_).mono ?_
  · obtain ⟨ad', e, hc⟩ := h (by omega)
    cases e
    rw [hc i hi]
    congr 2
    simp [List.getD, hi]
  · rintro e w' ⟨v, rfl, hown, hne, hb⟩
    rw [bc_ints] at hown
    obtain ⟨A, c', rfl, hown', _⟩ := own_form hown
    exact ⟨A, c', rfl, hown', hb⟩
def readE (D : Dk) (off : Bool) (o n : Int) : Int := if inB D.size o n = true then (if off = true then 4 else 0) else 1
def readB (D : Dk) (off : Bool) (o n : Int) : List UInt8 := if readE D off o n = 0 then (D.rd.drop o.toNat).take n.toNat else []
/-- what Read gives: new memory -/
def ReadSpec (D : Dk) (off : Bool) (o n : Int) (w : World) (e : Ending) (w' : World) : Prop :=
  ∃ A c, e = .returned (.tuple #[.slice A (readB D off o n).length c, .int .i64 (readE D off o n)]) ∧ OwnB w' w.heap.size A c (readB D off o n) ∧ Below w.heap.size w w'
theorem rd_blk {w : World} {fb : Nat} {l : List UInt8} (h : Blk w fb 5 (bc l).toArray) (o : Nat) : RdB w (some ⟨fb, o, none⟩) (l.drop o) := fun hl => by
  refine ⟨_, rfl, fun k hk => ?_⟩
  simp only [List.length_drop] at hk hl
  have e : (⟨fb, o, none⟩ : Addr).add k = ⟨fb, o + k, none⟩ := by unfold Addr.add; split <;> simp_all
  rw [e, h.cell]
  have := bc_get l (o + k) (by omega)
  simp only [List.getElem?_toArray]
  rw [this]
  congr 3
  simp [List.getD]
set_option maxRecDepth 100000 in
set_option maxHeartbeats 1000000 in
theorem read_at {p d fb mb : Nat} {D : Dk} {og oc : Nat → Nat} {sl : Value} {off : Bool} {arm : Int} (o n : Int) (w : World) (h : DkAt w p d D fb mb og oc) (hp : PwSelf w p sl off arm)
    (ho : -9223372036854775808 ≤ o ∧ o ≤ 9223372036854775807) (hn : -9223372036854775808 ≤ n ∧ n ≤ 9223372036854775807) :
    Calls Try.prog 16 #[ob d, .int .i64 o, .int .i64 n] w fun e w' => ReadSpec D off o n w e w' := by
  have hsz := h.size
  have hlim := h.lim
  have hi := in_any p d fb mb D.size o n w h.self (by omega) ho hn
  have c0 := h.self.cell 0
  have c1 := h.self.cell 1
  simp at c0 c1
  obtain ⟨lf, hpb, _⟩ := hp
  have p1 := hpb.cell 1
  simp at p1
  have HI := Lib.hid hi
  have HD := Lib.hid h.data
  have HS := Lib.hid hsz
  have hs2 : D.size ≤ 2097152 := by omega
  clear h hpb hi hsz hlim
  by_cases hin : inB D.size o n = true
  · rw [hin] at HI
    have hin' := hin
    simp only [inB, decide_eq_true_eq] at hin'
    obtain ⟨o, rfl⟩ := Int.eq_ofNat_of_zero_le hin'.1
    obtain ⟨n, rfl⟩ := Int.eq_ofNat_of_zero_le hin'.2.1
    have hle : o + n ≤ D.size := by omega
    cases off
    · have HE : Hid (readE D false o n = 0) := Lib.hid (by simp [readE, hin])
      have HB : Hid (readB D false o n = (D.rd.drop o).take n) := Lib.hid (by simp [readB, HE.out])
      have HL : Hid (((D.rd.drop o).take n).length = n) := Lib.hid (by unfold Dk.size at hle; simp; omega)
      clear hin hin'
      go_enter Try.func16, Try.ntmps16
      go_wp2_with fail
      refine HI.out.mono ?_
      rintro e w1 ⟨rfl, rfl⟩
      go_wp2_with fail
      all_goals
        refine (clone_any _ ((D.rd.drop o).take n) n _ _ HL.out.symm (by rw [HL.out]; omega) ?_).mono ?_
        · first | exact (rd_blk HD.out o).take n | exact fun hl => by (rw [HL.out] at hl; omega)
        rintro e w2 ⟨A, c, rfl, hown, hb⟩
        have HO := Lib.hid hown
        have HBL := Lib.hid hb
        clear hown hb
        generalize hX : (D.rd.drop o).take n = X at *
        go_wp2_with fail
        go_ret2
        unfold ReadSpec
        rw [HE.out, HB.out]
        exact ⟨A, c, by rw [HL.out]; rfl, HO.out, HBL.out⟩
    · have HE : Hid (readE D true o n = 4) := Lib.hid (by simp [readE, hin])
      have HB : Hid (readB D true o n = []) := Lib.hid (by simp [readB, HE.out])
      clear hin hin'
      go_enter Try.func16, Try.ntmps16
      go_wp2_with fail
      refine HI.out.mono ?_
      rintro e w1 ⟨rfl, rfl⟩
      go_wp2_with fail
      go_ret2
      unfold ReadSpec
      rw [HE.out, HB.out]
      exact ⟨none, 0, rfl, OwnB.nil _ _, Below.refl _ _⟩
  · have hin' : inB D.size o n = false := by simpa using hin
    rw [hin'] at HI
    have HE : Hid (readE D off o n = 1) := Lib.hid (by simp [readE, hin'])
    have HB : Hid (readB D off o n = []) := Lib.hid (by simp [readB, HE.out])
    clear hin hin'
    go_enter Try.func16, Try.ntmps16
    go_wp2_with fail
    refine HI.out.mono ?_
    rintro e w1 ⟨rfl, rfl⟩
    go_wp2_with fail
    go_ret2
    unfold ReadSpec
    rw [HE.out, HB.out]
    exact ⟨none, 0, rfl, OwnB.nil _ _, Below.refl _ _⟩
end Go.Proofs.Ytjmhfjioccljeaa
