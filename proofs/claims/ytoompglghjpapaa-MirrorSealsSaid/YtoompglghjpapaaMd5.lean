/-
  Plain mathematics: the 16 bytes that name a chunk. No program in sight.
-/
import Init
namespace Go.Proofs.Ytoompglghjpapaa.Md5
set_option linter.unusedVariables false
set_option linter.unusedSimpArgs false

def table : List Nat := [
  0xd76aa478, 0xe8c7b756, 0x242070db, 0xc1bdceee, 0xf57c0faf, 0x4787c62a, 0xa8304613, 0xfd469501,
  0x698098d8, 0x8b44f7af, 0xffff5bb1, 0x895cd7be, 0x6b901122, 0xfd987193, 0xa679438e, 0x49b40821,
  0xf61e2562, 0xc040b340, 0x265e5a51, 0xe9b6c7aa, 0xd62f105d, 0x02441453, 0xd8a1e681, 0xe7d3fbc8,
  0x21e1cde6, 0xc33707d6, 0xf4d50d87, 0x455a14ed, 0xa9e3e905, 0xfcefa3f8, 0x676f02d9, 0x8d2a4c8a,
  0xfffa3942, 0x8771f681, 0x6d9d6122, 0xfde5380c, 0xa4beea44, 0x4bdecfa9, 0xf6bb4b60, 0xbebfbc70,
  0x289b7ec6, 0xeaa127fa, 0xd4ef3085, 0x04881d05, 0xd9d4d039, 0xe6db99e5, 0x1fa27cf8, 0xc4ac5665,
  0xf4292244, 0x432aff97, 0xab9423a7, 0xfc93a039, 0x655b59c3, 0x8f0ccc92, 0xffeff47d, 0x85845dd1,
  0x6fa87e4f, 0xfe2ce6e0, 0xa3014314, 0x4e0811a1, 0xf7537e82, 0xbd3af235, 0x2ad7d2bb, 0xeb86d391]
def turns : List Nat := [7, 12, 17, 22, 5, 9, 14, 20, 4, 11, 16, 23, 6, 10, 15, 21]
def sine (t : Nat) : BitVec 32 := BitVec.ofNat 32 (table.getD t 0)
def turn (t : Nat) : Nat := turns.getD (t / 16 * 4 + t % 4) 0
def byt (n : Nat) : BitVec 32 := BitVec.ofNat 32 n

structure St where
  a : BitVec 32
  b : BitVec 32
  c : BitVec 32
  d : BitVec 32

def ff (t : Nat) (b c d : BitVec 32) : BitVec 32 :=
  if t < 16 then (b &&& c) ||| (~~~b &&& d) else if t < 32 then (d &&& b) ||| (~~~d &&& c) else if t < 48 then (b ^^^ c) ^^^ d else c ^^^ (b ||| ~~~d)
def gg (t : Nat) : Nat := if t < 16 then t else if t < 32 then 5 * t + 1 else if t < 48 then 3 * t + 5 else 7 * t
def rot (x : BitVec 32) (s : Nat) : BitVec 32 := (x <<< s) ||| (x >>> (32 - s))
def round (w : Nat → BitVec 32) (t : Nat) (s : St) : St :=
  ⟨s.d, s.b + rot (s.a + ff t s.b s.c s.d + sine t + w (gg t % 16)) (turn t), s.b, s.c⟩
def rounds (w : Nat → BitVec 32) : Nat → St → St
  | 0, s => s
  | k + 1, s => round w k (rounds w k s)
/-- word i of 64 bytes -/
def word (l : List UInt8) (i : Nat) : BitVec 32 :=
  byt (l.getD (4 * i) 0).toNat ||| byt (l.getD (4 * i + 1) 0).toNat <<< 8 ||| byt (l.getD (4 * i + 2) 0).toNat <<< 16 ||| byt (l.getD (4 * i + 3) 0).toNat <<< 24
def add (s r : St) : St := ⟨s.a + r.a, s.b + r.b, s.c + r.c, s.d + r.d⟩
def mix (l : List UInt8) (s : St) : St := add s (rounds (word l) 64 s)
def start : St := ⟨0x67452301#32, 0xEFCDAB89#32, 0x98BADCFE#32, 0x10325476#32⟩
def noughts (n : Nat) : Nat := (119 - n % 64) % 64
def le (n : Nat) (k : Nat) : List UInt8 := (List.range k).map fun i => UInt8.ofNat (n >>> (8 * i))
def pad (l : List UInt8) : List UInt8 := l ++ [128] ++ List.replicate (noughts l.length) 0 ++ le (8 * l.length) 8
/-- the first k blocks of 64 bytes -/
def blocks (m : List UInt8) : Nat → St → St
  | 0, s => s
  | k + 1, s => mix ((m.drop (64 * k)).take 64) (blocks m k s)
def out (s : St) : List UInt8 := le s.a.toNat 4 ++ le s.b.toNat 4 ++ le s.c.toNat 4 ++ le s.d.toNat 4
def md5 (l : List UInt8) : List UInt8 := out (blocks (pad l) ((pad l).length / 64) start)

theorem noughts_lt (n : Nat) : noughts n < 64 := by unfold noughts; omega
theorem noughts_ok (n : Nat) : (n + 1 + noughts n) % 64 = 56 := by unfold noughts; omega
theorem length_le (n k : Nat) : (le n k).length = k := by simp [le]
theorem length_pad (l : List UInt8) : (pad l).length = l.length + 1 + noughts l.length + 8 := by simp [pad, length_le]; omega
theorem length_pad64 (l : List UInt8) : (pad l).length % 64 = 0 := by rw [length_pad]; have := noughts_ok l.length; omega
theorem length_md5 (l : List UInt8) : (md5 l).length = 16 := by simp [md5, out, length_le]
theorem abc : md5 [97, 98, 99] = [0x90, 0x01, 0x50, 0x98, 0x3c, 0xd2, 0x4f, 0xb0, 0xd6, 0x96, 0x3f, 0x7d, 0x28, 0xe1, 0x7f, 0x72] := by decide +kernel
end Go.Proofs.Ytoompglghjpapaa.Md5
