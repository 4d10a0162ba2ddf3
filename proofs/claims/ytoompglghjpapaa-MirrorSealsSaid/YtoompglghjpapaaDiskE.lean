/-
  Walks of package disk: Rot.
-/
import Derived.Test.YtoompglghjpapaaDiskD
namespace Go.Proofs.Ytoompglghjpapaa
open Go.RowKit
set_option linter.unusedVariables false
set_option linter.unusedSimpArgs false
attribute [local go_sem ↓] Go.wp_at_zero Go.wp_at_succ

theorem sec_xor_other (l : List UInt8) (o : Nat) (m : UInt8) {s : Nat} (h : s ≠ o / 128) : sec (xorAt l o m) s = sec l s := by
  refine sec_ext fun i hi => ?_
  rw [xorAt_get, if_neg (by omega)]
theorem sec_xor_at (l : List UInt8) (o : Nat) (m : UInt8) : sec (xorAt l o m) (o / 128) = xorAt (sec l (o / 128)) (o % 128) m := by
  apply List.ext_getElem?
  intro i
  by_cases hi : i < 128
  · rw [sec_get _ _ _ hi, xorAt_get, xorAt_get, sec_get _ _ _ hi]
    by_cases h : i = o % 128
    · rw [if_pos (by omega), if_pos h]
    · rw [if_neg (by omega), if_neg h]
  · rw [List.getElem?_eq_none (by simp [sec]; omega), List.getElem?_eq_none (by simp [xorAt_length, sec]; omega)]
theorem u8xor (x y : UInt8) : bits .xor .u8 (x.toNat : Int) (y.toNat : Int) = ((x ^^^ y).toNat : Int) := by
  have hx := x.toNat_lt
  have hy := y.toNat_lt
  have hz : x.toNat ^^^ y.toNat < 2 ^ 8 := Nat.xor_lt_two_pow (by omega) (by omega)
  show IntKind.u8.wrap ((BitVec.ofInt 8 (x.toNat : Int) ^^^ BitVec.ofInt 8 (y.toNat : Int)).toNat : Int) = _
  rw [BitVec.toNat_xor, BitVec.ofInt_natCast, BitVec.ofInt_natCast, BitVec.toNat_ofNat, BitVec.toNat_ofNat, UInt8.toNat_xor, Nat.mod_eq_of_lt (by omega), Nat.mod_eq_of_lt (by omega)]
  rw [IntKind.wrap_u8]
  omega
theorem bc_setArr (l : List UInt8) (o : Nat) (v : UInt8) : (bc l).toArray.setIfInBounds o (.int .u8 (v.toNat : Int)) = (bc (l.set o v)).toArray := by
  simp [bc, List.map_set]
/-- a bit of what is read and of what lasts turns -/
theorem DkAt.rot_ {w w' : World} {p d fb mb : Nat} {D : Dk} {og oc : Nat → Nat} {o : Nat} {m : UInt8} (h : DkAt w p d D fb mb og oc) (hb : Blk w' fb 5 (bc (xorAt D.rd o m)).toArray)
    (hold : D.new (o / 128) = true → OwnB w' 0 (some ⟨og (o / 128), 0, none⟩) (oc (o / 128)) (xorAt (sec D.la (o / 128)) (o % 128) m))
    (hs : Step (fun i => i = fb ∨ (D.new (o / 128) = true ∧ i = og (o / 128))) No w w') : DkAt w' p d (D.rot o m) fb mb og oc ∧ Step (dkF D d fb mb og) (dkF (D.rot o m) d fb mb og) w w' := by
  have hd : d ≠ fb := Blk.ne_ h.self h.data (by decide)
  have hdm : d ≠ mb := Blk.ne_map h.self h.map
  have hfm : fb ≠ mb := Blk.ne_map h.data h.map
  have hne : ∀ s, D.new s = true → og s ≠ d ∧ og s ≠ mb := fun s hn => by
    rcases (h.old s hn).2 with ⟨h0, _⟩ | ⟨g', cap, cur, he, _, hh, _⟩
    · simp at h0
    · have e : og s = g' := by simp at he; exact he.1
      rw [← e] at hh
      exact ⟨fun e => Blk.ne_ (w := w) (t := 5) hh (by have := h.self; rwa [← e] at this) (by decide) rfl, Blk.ne_map (w := w) (t := 5) hh h.map⟩
  have hsz : (D.rot o m).size = D.size := xorAt_length _ _ _
  have hkeep : ∀ i, i < w.heap.size → i ≠ fb → (D.new (o / 128) = true → i ≠ og (o / 128)) → w'.heap[i]? = w.heap[i]? := fun i hi h1 h2 => hs.block i hi fun e => by
    rcases e with e | ⟨e1, e2⟩
    · exact h1 e
    · exact h2 e1 e2
  refine ⟨⟨rot_ok h.ok o m, h.pos, h.lim, ?_, hb, ?_, fun s hn => ?_, h.inj, h.far⟩, hs.wide (fun i hi => ?_) fun i hi => .inr hi⟩
  · rw [hsz]
    exact (hkeep d h.self.lt hd fun hn e => (hne _ hn).1 e.symm).trans h.self
  · exact h.map.keep (hkeep mb h.map.lt (Ne.symm hfm) fun hn e => (hne _ hn).2 e.symm)
  · have hn' : D.new s = true := hn
    by_cases hso : s = o / 128
    · subst hso
      show OwnB w' 0 _ _ (sec (xorAt D.la o m) (o / 128))
      rw [sec_xor_at]
      exact hold hn'
    · show OwnB w' 0 _ _ (sec (xorAt D.la o m) s)
      rw [sec_xor_other _ _ _ hso]
      refine OwnR.block (h.old s hn') fun k hk => ?_
      have hk' : k = og s := by simpa [blk] using hk.symm
      subst hk'
      exact hkeep _ (OwnR.lt (h.old s hn') _ rfl).2 (h.far s hn') fun h1 e => hso (h.inj s _ hn' h1 e)
  · rcases hi with hi | ⟨h1, h2⟩
    · exact .inr (.inl hi)
    · exact .inr (.inr (.inr ⟨_, h1, h2⟩))
def rotE (D : Dk) (off : Bool) (o : Int) : Int := if inB D.size o 1 = true then (if off = true then 4 else 0) else 1
def rotD (D : Dk) (off : Bool) (o : Int) (m : UInt8) : Dk := if rotE D off o = 0 then D.rot o.toNat m else D
def RotSpec (p d : Nat) (D : Dk) (fb mb : Nat) (og oc : Nat → Nat) (off : Bool) (o : Int) (m : UInt8) (w : World) (e : Ending) (w' : World) : Prop :=
  e = .returned (.int .i64 (rotE D off o)) ∧ DkAt w' p d (rotD D off o m) fb mb og oc ∧ Step (dkF D d fb mb og) (dkF (rotD D off o m) d fb mb og) w w'
set_option maxRecDepth 100000 in
set_option maxHeartbeats 1000000 in
theorem rot_at {p d fb mb : Nat} {D : Dk} {og oc : Nat → Nat} {sl : Value} {off : Bool} {arm : Int} (o : Int) (m : UInt8) (w : World) (h : DkAt w p d D fb mb og oc) (hp : PwSelf w p sl off arm)
    (ho : -9223372036854775808 ≤ o ∧ o ≤ 9223372036854775807) :
    Calls Try.prog 19 #[ob d, .int .i64 o, .int .u8 (m.toNat : Int)] w fun e w' => RotSpec p d D fb mb og oc off o m w e w' := by
  have hsz := h.size
  have hlim := h.lim
  have hi := in_any p d fb mb D.size o 1 w h.self (by omega) ho (by omega)
  have c0 := h.self.cell 0
  have c1 := h.self.cell 1
  have c2 := h.self.cell 2
  simp at c0 c1 c2
  obtain ⟨lf, hpb, _⟩ := hp
  have p1 := hpb.cell 1
  simp at p1
  have HI := Lib.hid hi
  have HD := Lib.hid h
  have HS := Lib.hid hsz
  have hs2 : D.size ≤ 2097152 := by omega
  clear h hpb hi hsz hlim
  by_cases hin : inB D.size o 1 = true
  · rw [hin] at HI
    have hin' := hin
    simp only [inB, decide_eq_true_eq] at hin'
    obtain ⟨o, rfl⟩ := Int.eq_ofNat_of_zero_le hin'.1
    have hlt : o < D.size := by omega
    cases off
    · have HE : Hid (rotE D false o = 0) := Lib.hid (by simp [rotE, hin])
      have HR : Hid (rotD D false o m = D.rot o m) := Lib.hid (by simp [rotD, HE.out])
      have hol : o < D.rd.length := hlt
      have dc : w.cell? ⟨fb, o, none⟩ = some (.int .u8 ((D.rd.getD o 0).toNat : Int)) := by
        rw [HD.out.data.cell]; simp only [List.getElem?_toArray]; exact bc_get _ _ hol
      have df := HD.out.data.frozen o
      obtain ⟨x, hx⟩ : ∃ x, D.rd.getD o 0 = x := ⟨_, rfl⟩
      have HXV : Hid (D.rd.getD o 0 = x) := Lib.hid hx
      rw [hx] at dc
      clear hx
      have hdf : d ≠ fb := Blk.ne_ HD.out.self HD.out.data (by decide)
      have s2 : ∀ v, (w.setCell ⟨fb, o, none⟩ v).cell? ⟨d, 2, none⟩ = some (.map (some mb)) := fun v => (World.cell?_of_block (a := ⟨d, 2, none⟩) (Below.heap_setCell w ⟨fb, o, none⟩ v d hdf)).trans c2
      obtain ⟨z, hz⟩ : ∃ z, D.size = z := ⟨_, rfl⟩
      have HZ : Hid (D.size = z) := Lib.hid hz
      rw [hz] at c1 hlt
      clear hin hin' hol hs2 hz
      have hmf : ∀ v, MapAt (w.setCell ⟨fb, o, none⟩ v) 3 mb D.nw.length (oldF D og oc) := fun v => HD.out.map.keep (Below.heap_setCell _ _ _ _ (Ne.symm (Blk.ne_map HD.out.data HD.out.map)))
      have HMF := Lib.hid hmf
      clear hmf
      have hlk := fun v => (HMF.out v).look_ok Try.underlying3 Try.underlying121 (zero_bytes _) (o / 128) (by omega)
      have hq : ((o / 128 : Nat) : Int) = (o : Int) / 128 := by omega
      rw [hq] at hlk
      clear hq
      by_cases hnew : D.new (o / 128) = true
      · have e1 : oldF D og oc (o / 128) = some (oldV og oc (o / 128)) := by unfold oldF; rw [if_pos hnew]
        rw [e1] at hlk
        simp only [Option.getD_some, Option.isSome_some] at hlk
        unfold oldV at hlk
        have hoj : o % 128 < (sec D.la (o / 128)).length := by
          have h1 : D.la.length = 128 * D.nw.length := HD.out.ok.la
          have h2 := HS.out
          have h3 := HZ.out
          simp [sec]; omega
        have HOLD := Lib.hid (HD.out.old (o / 128) hnew)
        have ec := HOLD.out.cell_ (o % 128) hoj
        have ef := HOLD.out.free_ (o % 128)
        obtain ⟨y, hy⟩ : ∃ y, (sec D.la (o / 128)).getD (o % 128) 0 = y := ⟨_, rfl⟩
        have HYV : Hid ((sec D.la (o / 128)).getD (o % 128) 0 = y) := Lib.hid hy
        rw [hy] at ec
        clear hy
        have hgf : og (o / 128) ≠ fb := HD.out.far _ hnew
        have HNEW := Lib.hid hnew
        clear hnew
        obtain ⟨g, hg⟩ : ∃ g, og (o / 128) = g := ⟨_, rfl⟩
        have HG : Hid (og (o / 128) = g) := Lib.hid hg
        rw [hg] at hlk ec ef hgf
        rw [hg] at HOLD
        clear hg
        obtain ⟨cc, hcc⟩ : ∃ cc, oc (o / 128) = cc := ⟨_, rfl⟩
        have HCC : Hid (oc (o / 128) = cc) := Lib.hid hcc
        rw [hcc] at hlk HOLD
        clear hcc
        have s4 : ∀ v, (w.setCell ⟨fb, o, none⟩ v).cell? ⟨g, o % 128, none⟩ = some (.int .u8 (y.toNat : Int)) := fun v => (World.cell?_of_block (a := ⟨g, o % 128, none⟩) (Below.heap_setCell w ⟨fb, o, none⟩ v g hgf)).trans ec
        have HGF := Lib.hid hgf
        have HDF := Lib.hid hdf
        clear e1 hoj hgf hdf ec
        go_enter Try.func19, Try.ntmps19
        go_wp2_with fail
        refine HI.out.mono ?_
        rintro e w1 ⟨rfl, rfl⟩
        go_wp2_with fail
        go_ret
        rw [u8xor, u8xor]
        unfold RotSpec
        rw [HE.out, HR.out]
        have hb1 : Blk (w.setCell ⟨fb, o, none⟩ (.int .u8 ((x ^^^ m).toNat : Int))) fb 5 (bc (xorAt D.rd o m)).toArray := by
          have := HD.out.data.set_ o (.int .u8 ((x ^^^ m).toNat : Int))
          rw [bc_setArr] at this
          unfold xorAt
          rw [HXV.out]; exact this
        refine ⟨rfl, HD.out.rot_ (hb1.far (p := ⟨g, o % 128, none⟩) (Ne.symm HGF.out) _) (fun _ => ?_) ?_⟩
        · rw [HG.out, HCC.out]
          have := (OwnR.far HOLD.out (p := ⟨fb, o, none⟩) (by simpa [blk] using HGF.out) (.int .u8 ((x ^^^ m).toNat : Int)))
          unfold xorAt
          rw [HYV.out]
          exact OwnB.set_ this _ _
        · exact Step.setCell (a := ⟨g, o % 128, none⟩) (Step.setCell (a := ⟨fb, o, none⟩) ((Step.refl _ w).regroup fun i h => absurd h (fun h => h)) (.inl (.inl rfl)) _) (.inl (.inr ⟨HNEW.out, HG.out.symm⟩)) _
      · have e1 : oldF D og oc (o / 128) = none := by unfold oldF; rw [if_neg hnew]
        rw [e1] at hlk
        simp only [Option.getD_none, Option.isSome_none] at hlk
        have HDF := Lib.hid hdf
        have HNEW := Lib.hid hnew
        clear e1 hdf hnew
        go_enter Try.func19, Try.ntmps19
        go_wp2_with fail
        refine HI.out.mono ?_
        rintro e w1 ⟨rfl, rfl⟩
        go_wp2_with fail
        go_ret
        rw [u8xor]
        unfold RotSpec
        rw [HE.out, HR.out]
        have hb1 : Blk (w.setCell ⟨fb, o, none⟩ (.int .u8 ((x ^^^ m).toNat : Int))) fb 5 (bc (xorAt D.rd o m)).toArray := by
          have := HD.out.data.set_ o (.int .u8 ((x ^^^ m).toNat : Int))
          rw [bc_setArr] at this
          unfold xorAt
          rw [HXV.out]; exact this
        exact ⟨rfl, HD.out.rot_ hb1 (fun h => absurd h HNEW.out) (Step.setCell (a := ⟨fb, o, none⟩) ((Step.refl _ w).regroup fun i h => absurd h (fun h => h)) (.inl (.inl rfl)) _)⟩
    · have HE : Hid (rotE D true o = 4) := Lib.hid (by simp [rotE, hin])
      have HR : Hid (rotD D true o m = D) := Lib.hid (by simp [rotD, HE.out])
      clear hin hin'
      go_enter Try.func19, Try.ntmps19
      go_wp2_with fail
      refine HI.out.mono ?_
      rintro e w1 ⟨rfl, rfl⟩
      go_wp2_with fail
      go_ret
      unfold RotSpec
      rw [HE.out, HR.out]
      exact ⟨rfl, HD.out, Step.refl _ _⟩
  · have hin' : inB D.size o 1 = false := by simpa using hin
    rw [hin'] at HI
    have HE : Hid (rotE D off o = 1) := Lib.hid (by simp [rotE, hin'])
    have HR : Hid (rotD D off o m = D) := Lib.hid (by simp [rotD, HE.out])
    clear hin hin'
    go_enter Try.func19, Try.ntmps19
    go_wp2_with fail
    refine HI.out.mono ?_
    rintro e w1 ⟨rfl, rfl⟩
    go_wp2_with fail
    go_ret
    unfold RotSpec
    rw [HE.out, HR.out]
    exact ⟨rfl, HD.out, Step.refl _ _⟩
end Go.Proofs.Ytoompglghjpapaa
