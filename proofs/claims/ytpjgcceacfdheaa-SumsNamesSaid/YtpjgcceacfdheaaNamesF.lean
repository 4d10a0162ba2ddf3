/-
  Walk: the law SumsNames: Md5, Digits and Bytes answer what the document says; digits come back.
-/
import Derived.Test.YtpjgcceacfdheaaNamesE
import Derived.Test.YtpjgcceacfdheaaNamesC
import Derived.Test.YtpjgcceacfdheaaNamesA
import Derived.Test.YtpjgcceacfdheaaKnown
namespace Go.Proofs.Ytpjgcceacfdheaa
open Go.RowKit Crc
set_option linter.unusedVariables false
set_option linter.unusedSimpArgs false
theorem un_digits (l : List UInt8) : unL (Hex.digits l) = l ∧ unE (Hex.digits l) = 0 := un_some (unhex_digits l)
theorem digits_len (l : List UInt8) : (Hex.digits l).length = 2 * l.length := by
  induction l with
  | nil => rfl
  | cons x l ih =>
    have h1 : (Hex.one x).length = 2 := rfl
    simp [Hex.digits, List.flatMap_cons] at ih ⊢; omega
set_option maxRecDepth 100000 in
set_option maxHeartbeats 1000000 in
theorem SumsNames_walk (A : Option Addr) (b : List UInt8) (ca : Nat) (s : ByteArray) (w : World) (hm : b.length ≤ maxLen) (ha : RdB w A b) :
    Calls Try.prog 7 #[.slice A b.length ca, .string s] w fun e w' => e = .returned (.bool true) ∧ Below w.heap.size w w' := by
  unfold maxLen at hm
  have HA := Lib.hid ha; clear ha
  obtain ⟨n, hn⟩ : ∃ n, b.length = n := ⟨_, rfl⟩
  have HLN : Hid (b.length = n) := Lib.hid hn
  rw [hn] at hm
  rw [hn]
  clear hn
  go_enter Try.func7, Try.ntmps7
  go_wp2_with fail
  refine (known_any w).mono ?_
  rintro e w1 ⟨rfl, hb1⟩
  have HW1 := Lib.hid hb1
  have HA1 := Lib.hid (HA.out.below hb1)
  clear hb1
  by_cases hl : 5000 < n
  · go_wp2_with fail
    refine (known_any w1).mono ?_
    rintro e w2 ⟨rfl, hb2⟩
    have HB2 := Lib.hid (HW1.out.trans (hb2.mono HW1.out.size))
    clear hb2
    go_wp2
    go_ret
    exact ⟨rfl, HB2.out⟩
  by_cases hs : 5000 < s.size
  · go_wp2_with fail
    refine (known_any w1).mono ?_
    rintro e w2 ⟨rfl, hb2⟩
    have HB2 := Lib.hid (HW1.out.trans (hb2.mono HW1.out.size))
    clear hb2
    go_wp2
    go_ret
    exact ⟨rfl, HB2.out⟩
  have hmd := Md5_any A b ca w1 (by have := HLN.out; omega) HA1.out
  rw [HLN.out] at hmd
  obtain ⟨MD, hMD⟩ : ∃ MD : ByteArray, (⟨(Md5.md5 b).toArray⟩ : ByteArray) = MD := ⟨_, rfl⟩
  obtain ⟨SB, hSB⟩ : ∃ SB : ByteArray, (⟨b.toArray⟩ : ByteArray) = SB := ⟨_, rfl⟩
  obtain ⟨DG, hDG⟩ : ∃ DG : ByteArray, (⟨(Hex.digits b).toArray⟩ : ByteArray) = DG := ⟨_, rfl⟩
  obtain ⟨X, hX⟩ : ∃ X : ByteArray, (⟨(unL s.data.toList).toArray⟩ : ByteArray) = X := ⟨_, rfl⟩
  obtain ⟨E, hE⟩ : ∃ E, unE s.data.toList = E := ⟨_, rfl⟩
  have hSBl : SB.data.toList = b := by rw [← hSB]
  have hDGl : DG.data.toList = Hex.digits b := by rw [← hDG]
  have hSBs : SB.size = n := by rw [← HLN.out, ← hSB]; rfl
  have hDGs : DG.size = 2 * n := by rw [← HLN.out, ← digits_len, ← hDG]; rfl
  have hMDs : MD.size = 16 := by rw [← hMD, ← Md5.length_md5 b]; rfl
  have HST := Lib.hid (fun W (h : RdB W A b) => run_str (n := n) ca h HLN.out.symm)
  rw [hSB] at HST
  rw [hMD] at hmd
  have HMD := Lib.hid hmd
  have HDI := Lib.hid (fun W => Digits_any SB W (by omega))
  rw [hSBl, hDG] at HDI
  have HDO := Lib.hid (fun W => docbytes_any s W (by omega))
  have HBY := Lib.hid (fun W => bytes_any s W (by omega))
  rw [hX, hE] at HDO HBY
  have HBD := Lib.hid (fun W => bytes_any DG W (by omega))
  rw [hDGl, (un_digits b).1, (un_digits b).2, hSB] at HBD
  have HRM := Lib.hid (fun W => refmd5_any SB W (by omega))
  rw [hSBl, hMD] at HRM
  have HRD := Lib.hid (fun W => docdigits_any SB W (by omega))
  rw [hSBl, hDG] at HRD
  have h16 : ((MD.size : Int) == 16) = true := by rw [beq_iff_eq]; omega
  clear hMD hSB hDG hX hE hSBl hDGl hSBs hDGs hMDs hmd
  go_wp2_with fail
  refine HMD.out.mono ?_
  rintro e w2 ⟨rfl, hb⟩
  have HW2 := Lib.hid (HW1.out.trans (hb.mono HW1.out.size))
  have hst := HST.out w2 (HA.out.below HW2.out)
  clear hb
  go_wp2_with fail
  refine (HDI.out _).mono ?_
  rintro e w3 ⟨rfl, hb⟩
  have HW3 := Lib.hid (HW2.out.trans (hb.mono HW2.out.size))
  clear hb hst
  go_wp2_with fail
  refine (HDO.out _).mono ?_
  rintro e w4 ⟨rfl, hb⟩
  have HW4 := Lib.hid (HW3.out.trans (hb.mono HW3.out.size))
  clear hb
  go_wp2_with fail
  refine (HBY.out _).mono ?_
  rintro e w5 ⟨rfl, hb⟩
  have HW5 := Lib.hid (HW4.out.trans (hb.mono HW4.out.size))
  clear hb
  go_wp2_with fail
  refine (HBD.out _).mono ?_
  rintro e w6 ⟨rfl, hb⟩
  have HW6 := Lib.hid (HW5.out.trans (hb.mono HW5.out.size))
  clear hb
  have hst := HST.out w6 (HA.out.below HW6.out)
  go_wp2_with fail
  refine (HRM.out _).mono ?_
  rintro e w7 ⟨rfl, hb⟩
  have HW7 := Lib.hid (HW6.out.trans (hb.mono HW6.out.size))
  clear hb hst
  have hst := HST.out w7 (HA.out.below HW7.out)
  go_wp2_with fail
  refine (HRD.out _).mono ?_
  rintro e w8 ⟨rfl, hb⟩
  have HW8 := Lib.hid (HW7.out.trans (hb.mono HW7.out.size))
  clear hb hst
  have hst := HST.out w8 (HA.out.below HW8.out)
  go_wp2_with fail
  go_ret
  exact ⟨rfl, HW8.out⟩
end Go.Proofs.Ytpjgcceacfdheaa
