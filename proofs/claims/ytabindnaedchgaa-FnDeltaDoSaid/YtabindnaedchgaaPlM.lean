/- What the program computes, told plainly: words, affixes, entries, books, deltas. Nothing of any program. -/
import Derived.Test.YtabindnaedchgaaPl0
namespace Go.Proofs.Ytabindnaedchgaa.Rf
open Go Go.RowKit
def Sm (n : Nat) : Prop := n ≤ 4611686018427387904
def smA (a : Aff) : Prop := Sm a.1.size ∧ Sm a.2.2.1.size ∧ Sm a.2.2.2.1.size ∧ Sm a.2.2.2.2.size
def smE (e : En) : Prop := Sm e.1.size ∧ Sm e.2.size
def smB (b : Book) : Prop := (b.1.length ≤ 1099511627776 ∧ ∀ a ∈ b.1, smA a) ∧ b.2.length ≤ 1099511627776 ∧ ∀ e ∈ b.2, smE e
def smD (d : Delta) : Prop := (d.1.length ≤ 1099511627776 ∧ ∀ s ∈ d.1, Sm s.size) ∧ (d.2.1.length ≤ 1099511627776 ∧ ∀ e ∈ d.2.1, smE e) ∧ d.2.2.2.length ≤ 1099511627776 ∧ ∀ a ∈ d.2.2.2, smA a
def lowB (n : Nat) : Bool := decide (97 ≤ n) && decide (n ≤ 122)
def upB (n : Nat) : Bool := decide (65 ≤ n) && decide (n ≤ 90)
def lowsB (s : ByteArray) : Bool := allN s.size fun i => lowB (bN s i)
def lettersB (s : ByteArray) (m : Nat) : Bool := lowsB s && decide (s.size ≤ m)
def wordB (s : ByteArray) : Bool := decide (0 < s.size) && lettersB s 12
def flagB (s : ByteArray) : Bool := decide (s.size = 1) && upB (bN s 0)
def begB (s w : ByteArray) : Bool := decide (w.size ≤ s.size) && decide (s.extract 0 w.size = w)
def endB (s w : ByteArray) : Bool := decide (w.size ≤ s.size) && decide (s.extract (s.size - w.size) s.size = w)
def affB (a : Aff) : Bool := flagB a.1 && (lettersB a.2.2.1 4 && (lettersB a.2.2.2.1 4 && (lettersB a.2.2.2.2 4 && if a.2.1 then begB a.2.2.2.2 a.2.2.1 else endB a.2.2.2.2 a.2.2.1)))
def ltS (s t : ByteArray) : Bool := Op.bytesLess s.toList t.toList
def entB (e : En) : Bool := (allN e.2.size fun i => upB (bN e.2 i) && (decide (i = 0) || decide (bN e.2 (i - 1) < bN e.2 i))) && (wordB e.1 && decide (e.2.size ≤ 4))
def affsB (l : List Aff) : Bool := (allN l.length fun i => affB (l.getD i zA) && allN i fun j => !decide (l.getD j zA = l.getD i zA)) && decide (l.length ≤ 8)
def entsB (l : List En) : Bool := (allN l.length fun i => entB (l.getD i zE) && (decide (i = 0) || ltS (l.getD (i - 1) zE).1 (l.getD i zE).1)) && decide (l.length ≤ 24)
def wordsB (l : List ByteArray) : Bool := (allN l.length fun i => wordB (l.getD i bz) && (decide (i = 0) || ltS (l.getD (i - 1) bz) (l.getD i bz))) && decide (l.length ≤ 24)
def bookB (b : Book) : Bool := affsB b.1 && entsB b.2
/-- a stem is one of a list's -/
def hasE (l : List En) (s : ByteArray) : Bool := l.any fun e => decide (e.1 = s)
def deltaB (d : Delta) : Bool := wordsB d.1 && (entsB d.2.1 && (affsB d.2.2.2 && ((d.2.2.1 || decide (d.2.2.2.length = 0)) && d.1.all fun s => !hasE d.2.1 s)))
end Go.Proofs.Ytabindnaedchgaa.Rf
