/-
  Walks of package disk: Rot.
-/
import Derived.Test.YtjmhfjioccljeaaDiskD
namespace Go.Proofs.Ytjmhfjioccljeaa
open Go.RowKit
set_option linter.unusedVariables false
set_option linter.unusedSimpArgs false
attribute [local go_sem ↓] Go.wp_at_zero Go.wp_at_succ

theorem sec_xor_other (l : List UInt8) (o : Nat) (m : UInt8) {s : Nat} (h : s ≠ o / 128) : sec (xorAt l o m) s = sec l s := by
  refine sec_ext fun i hi => ?_
  rw [xorAt_get, if_neg (by omega)]
theorem sec_xor_at (l : List UInt8) (o : Nat) (m : UInt8) : sec (xorAt l o m) (o / 128) = xorAt (sec l (o / 128)) (o % 128) m := by
  apply List.ext_getElem?
  intro i
  by_cases hi : i < 128
  · rw [sec_get _ _ _ hi, xorAt_get, xorAt_get, sec_get _ _ _ hi]
    by_cases h : i = o % 128
    · rw [if_pos (by omega), if_pos h]
    · rw [if_neg (by omega), if_neg h]
  · rw [List.getElem?_eq_none (by simp [sec]; omega), List.getElem?_eq_none (by simp [xorAt_length, sec]; omega)]
theorem u8xor (x y : UInt8) : bits .xor .u8 (x.toNat : Int) (y.toNat : Int) = ((x ^^^ y).toNat : Int) := by
  have hx := x.toNat_lt
  have hy := y.toNat_lt
  have hz : x.toNat ^^^ y.toNat < 2 ^ 8 := Nat.xor_lt_two_pow (by omega) (by omega)
  show IntKind.u8.wrap ((BitVec.ofInt 8 (x.toNat : Int) ^^^ BitVec.ofInt 8 (y.toNat : Int)).toNat : Int) = _
  rw [BitVec.toNat_xor, BitVec.ofInt_natCast, BitVec.ofInt_natCast, BitVec.toNat_ofNat, BitVec.toNat_ofNat, UInt8.toNat_xor, Nat.mod_eq_of_lt (by omega), Nat.mod_eq_of_lt (by omega)]
  rw [IntKind.wrap_u8]
  omega
theorem bc_setArr (l : List UInt8) (o : Nat) (v : UInt8) : (bc l).toArray.setIfInBounds o (.int .u8 (v.toNat : Int)) = (bc (l.set o v)).toArray := by
  simp [bc, List.map_set]
/-- a bit of what is read and of what lasts turns -/
theorem DkAt.rot_ {w w' : World} {p d fb mb : Nat} {D : Dk} {og oc : Nat → Nat} {o : Nat} {m : UInt8} (h : DkAt w p d D fb mb og oc) (hb : Blk w' fb 5 (bc (xorAt D.rd o m)).toArray)
    (hold : D.new (o / 128) = true → OwnB w' 0 (some ⟨og (o / 128), 0, none⟩) (oc (o / 128)) (xorAt (sec D.la (o / 128)) (o % 128) m))
    (hs : Step (fun i => i = fb ∨ (D.new (o / 128) = true ∧ i = og (o / 128))) No w w') : DkAt w' p d (D.rot o m) fb mb og oc ∧ Step (dkF D d fb mb og) (dkF (D.rot o m) d fb mb og) w w' := by
  have hd : d ≠ fb := Blk.ne_ h.self h.data (by decide)
  have hdm : d ≠ mb := Blk.ne_map h.self h.map
  have hfm : fb ≠ mb := Blk.ne_map h.data h.map
  have hne : ∀ s, D.new s = true → og s ≠ d ∧ og s ≠ mb := fun s hn => by
    rcases (h.old s hn).2 with ⟨h0, _⟩ | ⟨g', cap, cur, he, _, hh, _⟩
    · simp at h0
    · have e : og s = g' := by simp at he; exact he.1
      rw [← e] at hh
      exact ⟨fun e => Blk.ne_ (w := w) (t := 5) hh (by have := h.self; rwa [← e] at this) (by decide) rfl, Blk.ne_map (w := w) (t := 5) hh h.map⟩
  have hsz : (D.rot o m).size = D.size := xorAt_length _ _ _
  have hkeep : ∀ i, i < w.heap.size → i ≠ fb → (D.new (o / 128) = true → i ≠ og (o / 128)) → w'.heap[i]? = w.heap[i]? := fun i hi h1 h2 => hs.block i hi fun e => by
    rcases e with e | ⟨e1, e2⟩
    · exact h1 e
    · exact h2 e1 e2
  refine ⟨⟨rot_ok h.ok o m, h.pos, h.lim, ?_, hb, ?_, fun s hn => ?_, h.inj, h.far⟩, hs.wide (fun i hi => ?_) fun i hi => .inr hi⟩
  · rw [hsz]
    exact (hkeep d h.self.lt hd fun hn e => (hne _ hn).1 e.symm).trans h.self
  · exact h.map.keep (hkeep mb h.map.lt (Ne.symm hfm) fun hn e => (hne _ hn).2 e.symm)
  · have hn' : D.new s = true := hn
    by_cases hso : s = o / 128
    · subst hso
      show OwnB w' 0 _ _ (sec (xorAt D.la o m) (o / 128))
      rw [sec_xor_at]
      exact hold hn'
    · show OwnB w' 0 _ _ (sec (xorAt D.la o m) s)
      rw [sec_xor_other _ _ _ hso]
      refine OwnR.block (h.old s hn') fun k hk => ?_
      have hk' : k = og s := by simpa [blk] using hk.symm
      subst hk'
      exact hkeep _ (OwnR.lt (h.old s hn') _ rfl).2 (h.far s hn') fun h1 e => hso (h.inj s _ hn' h1 e)
  · rcases hi with hi | ⟨h1, h2⟩
    · exact .inr (.inl hi)
    · exact .inr (.inr (.inr ⟨_, h1, h2⟩))
def rotE (D : Dk) (off : Bool) (o : Int) : Int := if inB D.size o 1 = true then (if off = true then 4 else 0) else 1
def rotD (D : Dk) (off : Bool) (o : Int) (m : UInt8) : Dk := if rotE D off o = 0 then D.rot o.toNat m else D
def RotSpec (p d : Nat) (D : Dk) (fb mb : Nat) (og oc : Nat → Nat) (off : Bool) (o : Int) (m : UInt8) (w : World) (e : Ending) (w' : World) : Prop :=
  e = .returned (.int .i64 (rotE D off o)) ∧ DkAt w' p d (rotD D off o m) fb mb og oc ∧ Step (dkF D d fb mb og) (dkF (rotD D off o m) d fb mb og) w w'
end Go.Proofs.Ytjmhfjioccljeaa
