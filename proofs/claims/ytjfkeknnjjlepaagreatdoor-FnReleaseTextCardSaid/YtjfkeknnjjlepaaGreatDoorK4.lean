import Derived.Test.YtjfkeknnjjlepaaGreatDoorK3
import Derived.Sort.LotA
import Derived.Sort.Walk0
import Derived.Laws.Entries

section
/- What the program computes, told plainly: words, affixes, entries, books, deltas. Nothing of any program. -/
namespace Go.Proofs.YtjfkeknnjjlepaaGreatDoor.Rf
open Go Go.RowKit
def Sm (n : Nat) : Prop := n ≤ 4611686018427387904
def smA (a : Aff) : Prop := Sm a.1.size ∧ Sm a.2.2.1.size ∧ Sm a.2.2.2.1.size ∧ Sm a.2.2.2.2.size
def smE (e : En) : Prop := Sm e.1.size ∧ Sm e.2.size
def smB (b : Book) : Prop := (b.1.length ≤ 1099511627776 ∧ ∀ a ∈ b.1, smA a) ∧ b.2.length ≤ 1099511627776 ∧ ∀ e ∈ b.2, smE e
def smD (d : Delta) : Prop := (d.1.length ≤ 1099511627776 ∧ ∀ s ∈ d.1, Sm s.size) ∧ (d.2.1.length ≤ 1099511627776 ∧ ∀ e ∈ d.2.1, smE e) ∧ d.2.2.2.length ≤ 1099511627776 ∧ ∀ a ∈ d.2.2.2, smA a
def qpf (n : Nat) : Bool := decide (97 ≤ n) && decide (n ≤ 122)
def upB (n : Nat) : Bool := decide (65 ≤ n) && decide (n ≤ 90)
def qcr (s : ByteArray) : Bool := q7m s.size fun i => qpf (bN s i)
def q3r (s : ByteArray) (m : Nat) : Bool := qcr s && decide (s.size ≤ m)
def q5m (s : ByteArray) : Bool := decide (0 < s.size) && q3r s 12
def qcs (s : ByteArray) : Bool := decide (s.size = 1) && upB (bN s 0)
def qh1 (s w : ByteArray) : Bool := decide (w.size ≤ s.size) && decide (s.extract 0 w.size = w)
def qpg (s w : ByteArray) : Bool := decide (w.size ≤ s.size) && decide (s.extract (s.size - w.size) s.size = w)
def qd7 (a : Aff) : Bool := qcs a.1 && (q3r a.2.2.1 4 && (q3r a.2.2.2.1 4 && (q3r a.2.2.2.2 4 && if a.2.1 then qh1 a.2.2.2.2 a.2.2.1 else qpg a.2.2.2.2 a.2.2.1)))
def ltS (s t : ByteArray) : Bool := Op.bytesLess s.toList t.toList
def q7u (e : En) : Bool := (q7m e.2.size fun i => upB (bN e.2 i) && (decide (i = 0) || decide (bN e.2 (i - 1) < bN e.2 i))) && (q5m e.1 && decide (e.2.size ≤ 4))
def q6t (l : List Aff) : Bool := (q7m l.length fun i => qd7 (l.getD i zA) && q7m i fun j => !decide (l.getD j zA = l.getD i zA)) && decide (l.length ≤ 8)
def q69 (l : List En) : Bool := (q7m l.length fun i => q7u (l.getD i zE) && (decide (i = 0) || ltS (l.getD (i - 1) zE).1 (l.getD i zE).1)) && decide (l.length ≤ 24)
def q8g (l : List ByteArray) : Bool := (q7m l.length fun i => q5m (l.getD i bz) && (decide (i = 0) || ltS (l.getD (i - 1) bz) (l.getD i bz))) && decide (l.length ≤ 24)
def q5n (b : Book) : Bool := q6t b.1 && q69 b.2
def qd8 (l : List En) (s : ByteArray) : Bool := l.any fun e => decide (e.1 = s)
def q47 (d : Delta) : Bool := q8g d.1 && (q69 d.2.1 && (q6t d.2.2.2 && ((d.2.2.1 || decide (d.2.2.2.length = 0)) && d.1.all fun s => !qd8 d.2.1 s)))
end Go.Proofs.YtjfkeknnjjlepaaGreatDoor.Rf
end

section
/- Entries put in one by one by their stems: the one sorted order. Plain. -/
namespace Go.Proofs.YtjfkeknnjjlepaaGreatDoor.Rf
open Go Go.RowKit
set_option linter.unusedVariables false
set_option linter.unusedSimpArgs false
def ltE (a b : (ByteArray × ByteArray)) : Bool := Op.bytesLess a.1.toList b.1.toList
def qtc (e : (ByteArray × ByteArray)) : List (ByteArray × ByteArray) → List (ByteArray × ByteArray)
  | [] => [e]
  | x :: xs => if ltE x e = true then x :: qtc e xs else e :: x :: xs
def sortE (xs : List (ByteArray × ByteArray)) : List (ByteArray × ByteArray) := xs.foldl (fun l e => qtc e l) []
end Go.Proofs.YtjfkeknnjjlepaaGreatDoor.Rf
end

section
/- SHA-256 and HMAC, plain: of whole numbers and lists alone. -/
namespace Go.Proofs.YtjfkeknnjjlepaaGreatDoor.Sha
open Go.RowKit
set_option linter.unusedVariables false
def shl (k : IntKind) (x y : Int) : Int := k.wrap (x * 2 ^ min y.toNat k.bits)
def shr (k : IntKind) (x y : Int) : Int := x / 2 ^ min y.toNat k.bits
def rot (x n : Int) : Int := Go.bits .or .u32 (shr .u32 x n) (shl .u32 x (32 - n))
def add (x y : Int) : Int := (x + y) % 4294967296
def xor (x y : Int) : Int := Go.bits .xor .u32 x y
def and (x y : Int) : Int := Go.bits .and .u32 x y
def be (a b c d : Int) : Int := Go.bits .or .u32 (Go.bits .or .u32 (Go.bits .or .u32 (a * 16777216) (b * 65536)) (c * 256)) d
def s0 (x : Int) : Int := xor (xor (rot x 7) (rot x 18)) (x / 8)
def s1 (x : Int) : Int := xor (xor (rot x 17) (rot x 19)) (x / 1024)
def qg5 (b : List Int) (w : List Int) (k : Nat) : Int :=
  if k < 16 then be (b.getD (4 * k) 0) (b.getD (4 * k + 1) 0) (b.getD (4 * k + 2) 0) (b.getD (4 * k + 3) 0)
  else (w.getD (k - 16) 0 + w.getD (k - 7) 0 + s0 (w.getD (k - 15) 0) + s1 (w.getD (k - 2) 0)) % 4294967296
def q91 (b : List Int) : Nat → List Int
  | 0 => []
  | k + 1 => q91 b k ++ [qg5 b (q91 b k) k]
def S1 (e : Int) : Int := xor (xor (rot e 6) (rot e 11)) (rot e 25)
def S0 (a : Int) : Int := xor (xor (rot a 2) (rot a 13)) (rot a 22)
def ch (e f g : Int) : Int := xor (and e f) (and (xor IntKind.u32.max e) g)
def maj (a b c : Int) : Int := xor (xor (and a b) (and a c)) (and b c)
def one (k w e f g h : Int) : Int := h + S1 e + ch e f g + k + w
def two (a b c : Int) : Int := S0 a + maj a b c
def rnd (k w : Int) : List Int → List Int
  | [a, b, c, d, e, f, g, h] => [add (one k w e f g h) (two a b c), a, b, c, add d (one k w e f g h), e, f, g]
  | _ => []
def qqa (ks ws h : List Int) : Nat → List Int
  | 0 => h
  | n + 1 => rnd (ks.getD n 0) (ws.getD n 0) (qqa ks ws h n)
def block (ks h b : List Int) : List Int := List.zipWith add h (qqa ks (q91 b 64) h 64)
def blocks (ks : List Int) : Nat → List Int → List Int → List Int
  | 0, h, _ => h
  | n + 1, h, b => blocks ks n (block ks h (b.take 64)) (b.drop 64)
def out (h : List Int) : List Int := h.flatMap fun x => [x / 16777216 % 256, x / 65536 % 256, x / 256 % 256, x % 256]
def qc0 (m : Int) (i : Nat) : Int := m / 2 ^ (8 * i) % 256
def q5w (m : Int) : List Int := [qc0 m 7, qc0 m 6, qc0 m 5, qc0 m 4, qc0 m 3, qc0 m 2, qc0 m 1, qc0 m 0]
def zeros (n : Nat) : Nat := (119 - n % 64) % 64
def padded (xs : List Int) : List Int := (xs ++ [128]) ++ List.replicate (zeros xs.length) 0 ++ q5w ((xs.length : Int) * 8)
def H0 : List Int := [1779033703, 3144134277, 1013904242, 2773480762, 1359893119, 2600822924, 528734635, 1541459225]
def sumOf (ks : List Int) (xs : List Int) : List Int := out (blocks ks ((padded xs).length / 64) H0 (padded xs))
end Go.Proofs.YtjfkeknnjjlepaaGreatDoor.Sha
namespace Go.Proofs.YtjfkeknnjjlepaaGreatDoor.M
open Go.Proofs.YtjfkeknnjjlepaaGreatDoor.Rf Go.Proofs.YtjfkeknnjjlepaaGreatDoor.Sha
set_option linter.unusedVariables false
end Go.Proofs.YtjfkeknnjjlepaaGreatDoor.M
namespace Go.Proofs.YtjfkeknnjjlepaaGreatDoor.Rf
end Go.Proofs.YtjfkeknnjjlepaaGreatDoor.Rf
end
