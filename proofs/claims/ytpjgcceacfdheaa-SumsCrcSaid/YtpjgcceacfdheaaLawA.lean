/-
  Walk: the law SumsCrc: for all bytes the three sums are what the document says.
-/
import Derived.Test.YtpjgcceacfdheaaKnown
import Derived.Test.YtpjgcceacfdheaaSumsB
namespace Go.Proofs.Ytpjgcceacfdheaa
open Go.RowKit Crc

set_option maxRecDepth 100000 in
set_option maxHeartbeats 400000 in
theorem SumsCrc_walk (A : Option Addr) (l : List UInt8) (cap : Nat) (w : World) (hm : l.length ≤ maxLen) (h : RdB w A l) :
    Calls Try.prog 3 #[.slice A l.length cap] w fun e w' => e = .returned (.bool true) ∧ Below w.heap.size w w' := by
  unfold maxLen at hm
  have H := Lib.hid h; clear h
  go_enter Try.func3, Try.ntmps3
  go_wp2_with fail
  refine (known_any w).mono ?_
  rintro e w1 ⟨rfl, hb1⟩
  have HB := Lib.hid hb1
  have HR := Lib.hid (H.out.below hb1)
  clear hb1
  by_cases hl : 5000 < l.length
  · go_wp2_with fail
    refine (known_any w1).mono ?_
    rintro e w2 ⟨rfl, hb2⟩
    have HB2 := Lib.hid (HB.out.trans (hb2.mono HB.out.size))
    clear hb2
    go_wp2
    go_ret
    exact ⟨rfl, HB2.out⟩
  · have hst := run_str cap HR.out rfl
    have hsz : (⟨l.toArray⟩ : ByteArray).size ≤ maxLen := by show l.toArray.size ≤ _; rw [List.size_toArray]; unfold maxLen; omega
    have HZ := Lib.hid hsz; clear hsz
    go_wp2_with fail
    clear hst
    refine (Crc8_any A l cap w1 (by unfold maxLen; omega) HR.out).mono ?_
    rintro e w' ⟨rfl, rfl⟩
    go_wp2_with fail
    refine (refCrc8_any ⟨l.toArray⟩ _ HZ.out).mono ?_
    rintro e w' ⟨rfl, n1, rfl⟩
    rw [str_of]
    go_wp2_with fail
    refine (Crc16_any A l cap _ (by unfold maxLen; omega) (HR.out.drewN _)).mono ?_
    rintro e w' ⟨rfl, rfl⟩
    go_wp2_with fail
    refine (refCrc16_any ⟨l.toArray⟩ _ HZ.out).mono ?_
    rintro e w' ⟨rfl, n2, rfl⟩
    rw [str_of]
    go_wp2_with fail
    refine (Crc32_any A l cap _ (by unfold maxLen; omega) (HR.out.drewN _)).mono ?_
    rintro e w' ⟨rfl, rfl⟩
    go_wp2_with fail
    refine (refCrc32_any ⟨l.toArray⟩ _ HZ.out).mono ?_
    rintro e w' ⟨rfl, n3, rfl⟩
    rw [str_of]
    go_wp2
    go_ret
    exact ⟨rfl, below_drewN HB.out _⟩
end Go.Proofs.Ytpjgcceacfdheaa
