/-
  Plain law of a journal: numbers in bytes, sectors, streams, records; what each call makes of a power's state.
-/
import Derived.Test.YtjmhfjioccljeaaDiskH
namespace Go.Proofs.Ytjmhfjioccljeaa
set_option linter.unusedVariables false
set_option linter.unusedSimpArgs false

/-- a number in so many bytes, the highest first -/
def beN (n : Nat) : Nat → List UInt8
  | 0 => []
  | s + 1 => UInt8.ofNat (n / 256 ^ s) :: beN n s
/-- the number that bytes are -/
def rdN (l : List UInt8) : Nat := l.foldl (fun a x => a * 256 + x.toNat) 0
theorem beN_length (n : Nat) : ∀ s, (beN n s).length = s
  | 0 => rfl
  | s + 1 => by simp [beN, beN_length n s]
theorem rdN_snoc (l : List UInt8) (x : UInt8) : rdN (l ++ [x]) = rdN l * 256 + x.toNat := by simp [rdN]
theorem rd_from (l : List UInt8) : ∀ a, l.foldl (fun a x => a * 256 + UInt8.toNat x) a = a * 256 ^ l.length + rdN l := by
  unfold rdN
  induction l with
  | nil => intro a; simp
  | cons x l ih =>
    intro a
    rw [List.foldl_cons, List.foldl_cons, ih, ih (0 * 256 + x.toNat), List.length_cons, Nat.pow_succ, Nat.zero_mul, Nat.zero_add, Nat.add_mul, Nat.mul_assoc, Nat.mul_comm 256, Nat.add_assoc]
theorem rdN_cons (x : UInt8) (l : List UInt8) : rdN (x :: l) = x.toNat * 256 ^ l.length + rdN l := by
  show List.foldl _ _ _ = _
  rw [List.foldl_cons, rd_from, Nat.zero_mul, Nat.zero_add]
theorem rdN_lt : ∀ l : List UInt8, rdN l < 256 ^ l.length
  | [] => by simp [rdN]
  | x :: l => by
    rw [rdN_cons, List.length_cons, Nat.pow_succ]
    have h1 := rdN_lt l
    have h2 := x.toNat_lt
    have h3 : (x.toNat + 1) * 256 ^ l.length ≤ 256 * 256 ^ l.length := Nat.mul_le_mul_right _ (by omega)
    rw [Nat.add_mul] at h3
    omega
theorem rdN_beN (n : Nat) : ∀ s, rdN (beN n s) = n % 256 ^ s
  | 0 => by simp [rdN, beN, Nat.mod_one]
  | s + 1 => by
    show rdN (_ :: _) = _
    rw [rdN_cons, beN_length, rdN_beN n s, Nat.pow_succ, Nat.mod_mul]
    have : (UInt8.ofNat (n / 256 ^ s)).toNat = n / 256 ^ s % 256 := by simp
    rw [this, Nat.mul_comm, Nat.add_comm]
theorem beN_take {n s : Nat} {r : List UInt8} : (beN n s ++ r).take s = beN n s := by
  have := beN_length n s
  rw [List.take_append_of_le_length (by omega), List.take_of_length_le (by omega)]

/-- what sector i holds of a stream -/
def partL (i : Nat) (s : List UInt8) : List UInt8 := (s.drop (i * 119)).take 119
theorem partL_le (i : Nat) (s : List UInt8) : (partL i s).length ≤ 119 := by simp [partL]; omega
/-- sector i of a generation -/
def secL (g i : Nat) (s : List UInt8) : List UInt8 := beN (g * 1048576 + i) 8 ++ UInt8.ofNat (partL i s).length :: (partL i s ++ zeroB (119 - (partL i s).length))
theorem secL_length (g i : Nat) (s : List UInt8) : (secL g i s).length = 128 := by
  have := partL_le i s
  simp [secL, beN_length, zeroB_length]; omega
/-- a sector's stamp, and how many of its bytes count -/
def stampN (b : List UInt8) : Nat := rdN (b.take 8)
def stampU (b : List UInt8) : Nat := (b.getD 8 0).toNat
/-- an area's stream -/
def walkL (b : List UInt8) (g : Nat) : Nat → Nat → List UInt8
  | 0, _ => []
  | n + 1, i => if stampN (b.drop (i * 128)) = g + i ∧ stampU (b.drop (i * 128)) ≤ 119 then
      ((b.drop (i * 128)).drop 9).take (stampU (b.drop (i * 128))) ++ (if stampU (b.drop (i * 128)) < 119 then [] else walkL b g n (i + 1)) else []
theorem walkL_le (b : List UInt8) (g : Nat) : ∀ n i, (walkL b g n i).length ≤ 119 * n
  | 0, i => by simp [walkL]
  | n + 1, i => by
    unfold walkL
    split
    · rename_i h
      have := walkL_le b g n (i + 1)
      split
      · simp; omega
      · rw [List.length_append, List.length_take]; omega
    · simp
/-- is an area in use -/
def usedB (b : List UInt8) (which : Nat) : Bool :=
  decide (stampN b < 9223372036854775808) && decide (stampN b % 1048576 = 0) && decide (1 ≤ stampN b / 1048576) && decide ((stampN b / 1048576 + 1) % 2 = which) && decide (stampU b ≤ 119)
/-- an area's generation and stream -/
def loadL (b : List UInt8) (sectors which : Nat) : Nat × List UInt8 := if usedB b which = true then (stampN b / 1048576, walkL b (stampN b) sectors 0) else (0, [])
/-- a stream's whole records, and how many bytes they are -/
def splitG : Nat → List UInt8 → List (List UInt8) × Nat
  | 0, _ => ([], 0)
  | f + 1, s => if 4 ≤ s.length ∧ rdN (s.take 4) ≤ s.length - 4 then
      ((s.drop 4).take (rdN (s.take 4)) :: (splitG f (s.drop (4 + rdN (s.take 4)))).1, 4 + rdN (s.take 4) + (splitG f (s.drop (4 + rdN (s.take 4)))).2) else ([], 0)
def splitL (s : List UInt8) : List (List UInt8) × Nat := splitG s.length s
theorem splitG_le : ∀ f s, (splitG f s).2 ≤ s.length ∧ 4 * (splitG f s).1.length ≤ (splitG f s).2
  | 0, s => by simp [splitG]
  | f + 1, s => by
    unfold splitG
    split
    · rename_i h
      have := splitG_le f (s.drop (4 + rdN (s.take 4)))
      simp only [List.length_cons]
      rw [List.length_drop] at this
      omega
    · simp
/-- where a journal may be -/
def checkB (size : Nat) (first sectors : Int) : Bool := decide (2 ≤ sectors) && decide (sectors ≤ 2000) && decide (0 ≤ first) && decide (first % 128 = 0) && decide (first ≤ (size : Int) - 2 * sectors * 128)
def blankF (S : St) (k at_ sectors first gen : Nat) : Int × St :=
  if (S.write k (at_ : Int) (zeroB (sectors * 128))).1 ≠ 0 then S.write k (at_ : Int) (zeroB (sectors * 128)) else
  if ((S.write k (at_ : Int) (zeroB (sectors * 128))).2.sync k).1 ≠ 0 then (S.write k (at_ : Int) (zeroB (sectors * 128))).2.sync k else
  if (((S.write k (at_ : Int) (zeroB (sectors * 128))).2.sync k).2.write k (first : Int) (secL gen 0 [])).1 ≠ 0 then ((S.write k (at_ : Int) (zeroB (sectors * 128))).2.sync k).2.write k (first : Int) (secL gen 0 []) else
  (((S.write k (at_ : Int) (zeroB (sectors * 128))).2.sync k).2.write k (first : Int) (secL gen 0 [])).2.sync k
def formatF (S : St) (k : Nat) (first sectors : Int) : Int × St :=
  if checkB (S.at_ k).size first sectors = true then blankF S k first.toNat (2 * sectors.toNat) first.toNat 1 else (1, S)
/-- a journal: where it lies, its generation, its stream, what waits, how many records wait -/
structure Js where
  first : Nat
  sectors : Nat
  gen : Nat
  stream : List UInt8
  wait : List UInt8
  waiting : Nat
def areaN (first sectors gen : Nat) : Nat := first + (gen + 1) % 2 * sectors * 128
def trimW (sectors gen : Nat) (st : List UInt8) : List UInt8 :=
  if st.length % 119 ≠ 0 ∨ st.length = 0 then secL gen (st.length / 119) st ++ zeroB ((sectors - st.length / 119 - 1) * 128) else zeroB ((sectors - st.length / 119) * 128)
def trimF (S : St) (k first sectors gen : Nat) (st raw : List UInt8) : Int × St :=
  if raw.drop (st.length / 119 * 128) = trimW sectors gen st then (0, S) else
  if (S.write k ((areaN first sectors gen + st.length / 119 * 128 : Nat) : Int) (trimW sectors gen st)).1 ≠ 0 then S.write k ((areaN first sectors gen + st.length / 119 * 128 : Nat) : Int) (trimW sectors gen st) else
  (S.write k ((areaN first sectors gen + st.length / 119 * 128 : Nat) : Int) (trimW sectors gen st)).2.sync k
/-- the bytes of an area -/
def areaL (S : St) (k first sectors which : Nat) : List UInt8 := ((S.at_ k).rd.drop (first + which * sectors * 128)).take (sectors * 128)
/-- which area is in use: its generation, its stream, its bytes -/
def pickF (S : St) (k first sectors : Nat) : Nat × List UInt8 × List UInt8 :=
  if (loadL (areaL S k first sectors 1) sectors 1).1 > (loadL (areaL S k first sectors 0) sectors 0).1 then
    ((loadL (areaL S k first sectors 1) sectors 1).1, (loadL (areaL S k first sectors 1) sectors 1).2, areaL S k first sectors 1)
  else ((loadL (areaL S k first sectors 0) sectors 0).1, (loadL (areaL S k first sectors 0) sectors 0).2, areaL S k first sectors 0)
/-- what Open answers, and makes of the state -/
def openF (S : St) (k first sectors : Nat) : Int × St :=
  if S.off = true then (4, S) else if (pickF S k first sectors).1 = 0 then (2, S) else
  trimF S k first sectors (pickF S k first sectors).1 ((pickF S k first sectors).2.1.take (splitL (pickF S k first sectors).2.1).2) (pickF S k first sectors).2.2
/-- .. the journal, and the records -/
def openJ (S : St) (k first sectors : Nat) : Js := ⟨first, sectors, (pickF S k first sectors).1, (pickF S k first sectors).2.1.take (splitL (pickF S k first sectors).2.1).2, [], 0⟩
def openR (S : St) (k first sectors : Nat) : List (List UInt8) := (splitL (pickF S k first sectors).2.1).1
def Js.room (J : Js) : Int := max (119 * (J.sectors : Int) - J.stream.length - J.wait.length - 4) (-1)
def Js.appE (J : Js) (r : List UInt8) : Int := if (r.length : Int) > 119 * (J.sectors : Int) - 4 then 14 else if (r.length : Int) > J.room then 15 else 0
def Js.app (J : Js) (r : List UInt8) : Js := if J.appE r = 0 then ⟨J.first, J.sectors, J.gen, J.stream, J.wait ++ (beN r.length 4 ++ r), J.waiting + 1⟩ else J
def Js.cancel (J : Js) : Js := ⟨J.first, J.sectors, J.gen, J.stream, [], 0⟩
/-- the sectors from i on are written -/
def commitL (S : St) (k at_ gen : Nat) (s : List UInt8) : Nat → Nat → Int × St
  | 0, _ => (0, S)
  | n + 1, i => if (S.write k ((at_ + i * 128 : Nat) : Int) (secL gen i s)).1 = 0 then commitL (S.write k ((at_ + i * 128 : Nat) : Int) (secL gen i s)).2 k at_ gen s n (i + 1) else S.write k ((at_ + i * 128 : Nat) : Int) (secL gen i s)
/-- how many sectors a commit writes -/
def commitN (J : Js) : Nat := if J.wait = [] then 0 else ((J.stream ++ J.wait).length + 118) / 119 - J.stream.length / 119
def commitW (J : Js) (S : St) (k : Nat) : Int × St := commitL S k (areaN J.first J.sectors J.gen) J.gen (J.stream ++ J.wait) (commitN J) (J.stream.length / 119)
def commitF (J : Js) (S : St) (k : Nat) : Int × St := if (commitW J S k).1 ≠ 0 then commitW J S k else (commitW J S k).2.sync k
def Js.commit (J : Js) (S : St) (k : Nat) : Js := if (commitF J S k).1 = 0 then ⟨J.first, J.sectors, J.gen, J.stream ++ J.wait, [], 0⟩ else J
def switchF (J : Js) (S : St) (k : Nat) : Int × St := if 0 < J.waiting then (13, S) else blankF S k (areaN J.first J.sectors (J.gen + 1)) J.sectors (areaN J.first J.sectors (J.gen + 1)) (J.gen + 1)
def Js.switch (J : Js) (S : St) (k : Nat) : Js := if (switchF J S k).1 = 0 then ⟨J.first, J.sectors, J.gen + 1, [], J.wait, J.waiting⟩ else J
/-- a journal in form -/
structure Js.Ok (J : Js) (size : Nat) : Prop where
  sec2 : 2 ≤ J.sectors
  secM : J.sectors ≤ 2000
  place : J.first + 2 * J.sectors * 128 ≤ size
  size : size ≤ 2097152
  gen1 : 1 ≤ J.gen
  genM : J.gen ≤ 8796093022208
  fill : J.stream.length + J.wait.length ≤ 119 * J.sectors
  few : 4 * J.waiting ≤ J.wait.length
  some_ : J.waiting = 0 → J.wait = []
end Go.Proofs.Ytjmhfjioccljeaa
