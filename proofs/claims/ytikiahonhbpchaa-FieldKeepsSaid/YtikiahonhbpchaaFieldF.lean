/-
  Walks of package field: put of any item, Size; words for memory: rows of items.
-/
import Derived.Test.YtikiahonhbpchaaFieldE
namespace Go.Proofs.Ytikiahonhbpchaa
open Go.RowKit Fld
set_option linter.unusedVariables false
set_option linter.unusedSimpArgs false

theorem put_any (base : Nat) (A : Option Addr) (c : Nat) (l : List UInt8) (i : It) (hg : Fld.Good i) (hr : Ranged i) (w : World) (hown : OwnB w base A c l) (hbase : base ≤ w.heap.size) (hlen : l.length + 50005 ≤ 140737488355328) :
    Calls Try.prog 23 #[.slice A l.length c, It.v i] w fun e w' => PutSpec base A (l ++ enc i) w e w' := by
  rcases good_cases hg with ⟨h1, h2⟩ | ⟨h1, h2, h3⟩
  · have e : enc i = encNum i.num := enc_number h1
    obtain ⟨a, b, s⟩ := i
    simp only at h1
    subst h1
    rw [e]
    exact put_num base A c l b hr s w hown hbase hlen
  · have e : enc i = encStr i.str := by unfold enc; rw [if_pos h1]
    obtain ⟨a, b, s⟩ := i
    simp only at h1
    subst h1
    rw [e]
    exact put_text base A c l b s w hown hbase h3 hlen
/-- an item's size, or the error -/
def sizeP (i : It) : Nat × Int := if check i = 0 then ((enc i).length, 0) else (0, check i)
/-- '(how many, error)' -/
def two (r : Nat × Int) : Value := .tuple #[.int .i64 (r.1 : Nat), .int .i64 r.2]
theorem width_le (n : Int) (h : -9223372036854775808 ≤ n ∧ n < 9223372036854775808) : width n ≤ 8 := by
  unfold width
  split
  · omega
  · exact bytesN_le8 (by have := mag_lt h; omega)
theorem boxIt_below (w : World) (a b c : Value) : Below w.heap.size w (w.alloc (.cells #[a, b, c] 30)) := (Below.refl _ _).alloc (Nat.le_refl _) _
set_option maxRecDepth 100000 in
set_option maxHeartbeats 400000 in
theorem size_any (i : It) (hl : i.str.length ≤ maxLen) (hr : Ranged i) (w : World) :
    Calls Try.prog 19 #[It.v i] w fun e w' => e = .returned (two (sizeP i)) ∧ Below w.heap.size w w' := by
  have hs := str_size i.str
  have hck := check_cases i
  have hc := check_any i hl (w.alloc (.cells #[.int .i64 i.kind, .int .i64 i.num, .string ⟨i.str.toArray⟩] 30))
  unfold It.v at hc
  have HC := Lib.hid hc
  have HB := Blk.new w 30 #[.int .i64 i.kind, .int .i64 i.num, .string ⟨i.str.toArray⟩]
  clear hc
  unfold maxLen at hl
  generalize hR : two (sizeP i) = R
  have HR : Hid (_ = _) := Lib.hid hR
  clear hR
  unfold It.v
  go_enter Try.func19, Try.ntmps19
  go_wp2_with fail
  refine HC.out.mono ?_
  clear HC
  rintro e w1 ⟨rfl, hb1⟩
  have HB1 := HB.below hb1 (by simp)
  have c0 := HB1.cell 0
  have c1 := HB1.cell 1
  have c2 := HB1.cell 2
  have HF := Lib.hid ((boxIt_below w _ _ _).trans (hb1.mono (by simp)))
  clear HB HB1 hb1
  simp at c0 c1 c2
  by_cases h0 : check i = 0
  · have hg := good_cases h0
    have he : sizeP i = ((enc i).length, 0) := by unfold sizeP; rw [if_pos h0]
    rcases hg with ⟨h1, h2⟩ | ⟨h1, h2, h3⟩
    · have hlen : (enc i).length = 1 + width i.num := by rw [enc_number h1, encNum_length]
      have hw := width_le i.num hr
      rw [h0]
      rw [h1] at c0
      rw [he, hlen] at HR
      go_wp2_with fail
      refine (width_any i.num hr _).mono ?_
      rintro e w' ⟨rfl, rfl⟩
      go_wp2_with fail
      go_ret2
      refine ⟨?_, HF.out⟩
      rw [← HR.out]; unfold two; simp [one_add_int]
    · have hlen : (enc i).length = if i.str.length < 127 then 1 + i.str.length else 5 + i.str.length := by unfold enc; rw [if_pos h1, encStr_length]
      rw [h0]
      rw [h1] at c0
      rw [he, hlen] at HR
      by_cases h4 : i.str.length < 127
      · rw [if_pos h4] at HR
        go_wp2_with fail
        go_ret2
        refine ⟨?_, HF.out⟩
        rw [← HR.out]; unfold two; simp
      · rw [if_neg h4] at HR
        go_wp2_with fail
        go_ret2
        refine ⟨?_, HF.out⟩
        rw [← HR.out]; unfold two; simp
  · have he : sizeP i = (0, check i) := by unfold sizeP; rw [if_neg h0]
    have h0' : (check i != 0) = true := by simpa using h0
    rw [he] at HR
    generalize check i = ck at *
    go_wp2_with fail
    go_ret2
    refine ⟨?_, HF.out⟩
    rw [← HR.out]; rfl

/-- the cells cs lie where A points -/
def RdC (w : World) (A : Option Addr) (cs : List Value) : Prop := 0 < cs.length → ∃ ad, A = some ad ∧ ∀ j u, cs[j]? = some u → w.cell? (ad.add j) = some u
/-- the cells of items -/
def ic (l : List It) : List Value := l.flatMap fun i => [.int .i64 i.kind, .int .i64 i.num, .string ⟨i.str.toArray⟩]
theorem ic_nil : ic [] = [] := rfl
theorem ic_cons (i : It) (l : List It) : ic (i :: l) = .int .i64 i.kind :: .int .i64 i.num :: .string ⟨i.str.toArray⟩ :: ic l := by simp [ic]
theorem ic_append (a b : List It) : ic (a ++ b) = ic a ++ ic b := by simp [ic]
theorem ic_length (l : List It) : (ic l).length = l.length * 3 := by
  induction l with
  | nil => rfl
  | cons i l ih => rw [ic_cons]; simp [ih]; omega
theorem ic_one (l : List It) : ∀ u ∈ ic l, u.oneCell' = true := by
  intro u hu
  induction l with
  | nil => simp [ic] at hu
  | cons i l ih =>
    rw [ic_cons] at hu
    rcases List.mem_cons.1 hu with rfl | hu
    · rfl
    rcases List.mem_cons.1 hu with rfl | hu
    · rfl
    rcases List.mem_cons.1 hu with rfl | hu
    · rfl
    exact ih hu
theorem ic_get (l : List It) (k : Nat) (hk : k < l.length) :
    (ic l)[3 * k]? = some (.int .i64 (l.getD k none_).kind) ∧ (ic l)[3 * k + 1]? = some (.int .i64 (l.getD k none_).num) ∧ (ic l)[3 * k + 2]? = some (.string ⟨(l.getD k none_).str.toArray⟩) := by
  induction l generalizing k with
  | nil => simp at hk
  | cons i l ih =>
    cases k with
    | zero => simp [ic_cons]
    | succ k =>
      have := ih k (by simpa using hk)
      have e0 : 3 * (k + 1) = 3 * k + 1 + 1 + 1 := by omega
      rw [e0, ic_cons]
      simp only [List.getElem?_cons_succ, List.getD_cons_succ]
      exact this
def RdI (w : World) (A : Option Addr) (l : List It) : Prop := RdC w A (ic l)
theorem RdI.some_ {w : World} {A : Option Addr} {l : List It} (h : RdI w A l) (hl : 0 < l.length) : ∃ ad, A = some ad := by
  obtain ⟨ad, e, _⟩ := h (by rw [ic_length]; omega)
  exact ⟨ad, e⟩
theorem RdI.at_ {w : World} {A : Option Addr} {l : List It} {k : Nat} (h : RdI w A l) (hk : k < l.length) :
    ∃ ad, A = some ad ∧ w.cell? (ad.add (3 * k)) = some (.int .i64 (l.getD k none_).kind) ∧ w.cell? (ad.add (3 * k + 1)) = some (.int .i64 (l.getD k none_).num) ∧ w.cell? (ad.add (3 * k + 2)) = some (.string ⟨(l.getD k none_).str.toArray⟩) := by
  obtain ⟨ad, e, hc⟩ := h (by rw [ic_length]; omega)
  obtain ⟨h0, h1, h2⟩ := ic_get l k hk
  exact ⟨ad, e, hc _ _ h0, hc _ _ h1, hc _ _ h2⟩
theorem RdC.below {w w' : World} {A : Option Addr} {cs : List Value} (h : RdC w A cs) (hb : Below w.heap.size w w') : RdC w' A cs := fun hl => by
  obtain ⟨ad, e, hc⟩ := h hl
  refine ⟨ad, e, fun j u hu => ?_⟩
  have h1 := hc j u hu
  have h2 := World.block_lt_of_cell? _ _ h1
  rw [hb.cell h2]; exact h1
theorem RdI.below {w w' : World} {A : Option Addr} {l : List It} (h : RdI w A l) (hb : Below w.heap.size w w') : RdI w' A l := RdC.below h hb
theorem RdI.below_ {B : Nat} {w w' : World} {A : Option Addr} {l : List It} (h : RdI w A l) (hb : Below B w w') (hA : ∀ k, blk A = some k → k < B) : RdI w' A l := fun hl => by
  obtain ⟨ad, e, hc⟩ := h hl
  refine ⟨ad, e, fun j u hu => ?_⟩
  rw [hb.cell (by rw [block_of_add]; exact hA _ (by rw [e]; rfl))]; exact hc j u hu
theorem RdI.lt {w : World} {A : Option Addr} {l : List It} (h : RdI w A l) (hl : 0 < l.length) : ∀ k, blk A = some k → k < w.heap.size := by
  obtain ⟨ad, e, hc⟩ := h (by rw [ic_length]; omega)
  intro k hk
  rw [e] at hk
  cases hk
  have := World.block_lt_of_cell? _ _ (hc 0 _ (ic_get l 0 hl).1)
  rwa [block_of_add] at this
end Go.Proofs.Ytikiahonhbpchaa
