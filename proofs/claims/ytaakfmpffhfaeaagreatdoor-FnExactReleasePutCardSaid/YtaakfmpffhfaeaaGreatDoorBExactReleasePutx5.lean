import Derived.Test.YtaakfmpffhfaeaaGreatDoorBExactReleasePutx4
import Derived.Test.YtaakfmpffhfaeaaGreatDoorBExactReleasePutx2
import Derived.Lib.SplitLaws
import Derived.Test.YtaakfmpffhfaeaaGreatDoorBExactReleasePutx3

section
/- Words, affixes, entries, books, deltas: what is ok, plain; the program's tests are the reference's. -/
namespace Go.Proofs.YtaakfmpffhfaeaaGreatDoor.M
open Go.RowKit Go.Proofs.YtaakfmpffhfaeaaGreatDoorW.PrintWords Go.Proofs.YtaakfmpffhfaeaaGreatDoor.Pu
set_option linter.unusedVariables false
set_option linter.unusedSimpArgs false
abbrev En := S100
abbrev Af := S103
abbrev eAt (l : List En) (i : Int) : En := rd_T100 l i
abbrev aAt (l : List Af) (i : Int) : Af := rd_T103 l i
theorem eAt_nat (l : List En) (i : Nat) (h : i < l.length) : eAt l (i : Int) = l[i] := by simp [eAt, rd_T100, h]
theorem aAt_nat (l : List Af) (i : Nat) (h : i < l.length) : aAt l (i : Int) = l[i] := by simp [aAt, rd_T103, h]
theorem sAt_nat (l : List ByteArray) (i : Nat) (h : i < l.length) : rdOf ByteArray.empty l (i : Int) = l[i] := by simp [rdOf, h]
def lowP (s : ByteArray) (j : Nat) : Prop := 97 ≤ bt s (j : Int) ∧ bt s (j : Int) ≤ 122
instance (s : ByteArray) (j : Nat) : Decidable (lowP s j) := inferInstanceAs (Decidable (_ ∧ _))
def lowB (s : ByteArray) : Bool := if ∀ j, j < s.size → lowP s j then true else false
abbrev Small (n : Nat) : Prop := n ≤ 9223372036854775000
theorem impl_lower_ev (s : ByteArray) (hs : Small s.size) : Ev (fun k => impl_lower.f k s) (lowB s) := by
 unfold impl_lower.f
 refine all_loop (g := fun k x => impl_lower.l0 k s (s.size : Int) x) s.size (lowP s) false true ?_ ?_ ?_
 ·intro i r hi hp hr
  have c1 : (i : Int) < (s.size : Int) := by omega
  have c2 : (0 : Int) ≤ (i : Int) := by omega
  have c3 : ¬ bt s (i : Int) < 97 := by have := hp.1; omega
  have c4 : ¬ bt s (i : Int) > 122 := by have := hp.2; omega
  have w1 : Aside0 (wrap64 ((i : Int) + 1) = (i : Int) + 1) := ⟨wid (by omega) (by simp [Small] at hs; omega)⟩
  apply Ev.succ
  simp only [impl_lower.l0, c1, c2, c3, c4, w1.out, if_true, if_false]
  exact hr
 ·intro i hi hp
  have c1 : (i : Int) < (s.size : Int) := by omega
  have c2 : (0 : Int) ≤ (i : Int) := by omega
  apply Ev.succ
  simp only [impl_lower.l0, c1, c2, if_true]
  by_cases c3 : bt s (i : Int) < 97
  ·exact Ev.ifp c3 (Ev.now _)
  ·refine Ev.ifn c3 (Ev.ifp ?_ (Ev.now _))
   by_cases c4 : bt s (i : Int) > 122
   ·exact c4
   ·exact absurd ⟨by omega, by omega⟩ hp
 ·apply Ev.succ
  simp only [impl_lower.l0, Int.lt_irrefl, if_false]
  exact Ev.now _
theorem spec_l1Letters_ev (s : ByteArray) (m : Int) (hs : Small s.size) : Ev (fun k => spec_l1Letters.f k s m) (lowB s && decide ((s.size : Int) ≤ m)) := by
 unfold spec_l1Letters.f
 have key := all_loop (g := fun k x => spec_l1Letters.l0 k s m x) s.size (lowP s) false (decide ((s.size : Int) ≤ m)) ?_ ?_ ?_
 ·refine Ev.cast key ?_
  unfold lowB
  split <;> simp_all
 ·intro i r hi hp hr
  have c1 : (i : Int) < (s.size : Int) := by omega
  have c2 : (0 : Int) ≤ (i : Int) := by omega
  have c3 : ¬ bt s (i : Int) < 97 := by have := hp.1; omega
  have c4 : ¬ bt s (i : Int) > 122 := by have := hp.2; omega
  have w1 : Aside0 (wrap64 ((i : Int) + 1) = (i : Int) + 1) := ⟨wid (by omega) (by simp [Small] at hs; omega)⟩
  apply Ev.succ
  simp only [spec_l1Letters.l0, c1, c2, c3, c4, w1.out, if_true, if_false]
  exact hr
 ·intro i hi hp
  have c1 : (i : Int) < (s.size : Int) := by omega
  have c2 : (0 : Int) ≤ (i : Int) := by omega
  apply Ev.succ
  simp only [spec_l1Letters.l0, c1, c2, if_true]
  by_cases c3 : bt s (i : Int) < 97
  ·exact Ev.ifp c3 (Ev.now _)
  ·refine Ev.ifn c3 (Ev.ifp ?_ (Ev.now _))
   by_cases c4 : bt s (i : Int) > 122
   ·exact c4
   ·exact absurd ⟨by omega, by omega⟩ hp
 ·apply Ev.succ
  simp only [spec_l1Letters.l0, Int.lt_irrefl, if_false]
  exact Ev.now _
def wordB (s : ByteArray) : Bool := decide (1 ≤ s.size) && (decide (s.size ≤ 12) && lowB s)
theorem impl_WordOk_ev (s : ByteArray) (hs : Small s.size) : Ev (fun k => impl_WordOk.f k s) (wordB s) := by
 unfold impl_WordOk.f impl_within.f
 by_cases c1 : (s.size : Int) ≥ 1
 ·simp only [c1, if_true, Option.bind_some]
  by_cases c2 : (s.size : Int) ≤ 12
  ·simp only [c2, decide_true, if_true]
   refine Ev.bind (impl_lower_ev s hs) (Ev.cast (Ev.now _) ?_)
   unfold wordB
   have a1 : 1 ≤ s.size := by omega
   have a2 : s.size ≤ 12 := by omega
   simp [a1, a2]
  ·simp only [c2, decide_false, Bool.false_eq_true, if_false]
   refine Ev.cast (Ev.now _) ?_
   unfold wordB
   have a2 : ¬ s.size ≤ 12 := by omega
   simp [a2]
 ·simp only [c1, if_false, Option.bind_some, Bool.false_eq_true]
  refine Ev.cast (Ev.now _) ?_
  unfold wordB
  have a1 : ¬ 1 ≤ s.size := by omega
  simp [a1]
theorem spec_l1Word_ev (s : ByteArray) (hs : Small s.size) : Ev (fun k => spec_l1Word.f k s) (wordB s) := by
 unfold spec_l1Word.f
 by_cases c1 : (s.size : Int) > 0
 ·refine Ev.ifp c1 (Ev.bind (spec_l1Letters_ev s 12 hs) (Ev.cast (Ev.now _) ?_))
  unfold wordB
  have a1 : 1 ≤ s.size := by omega
  have a2 : ((s.size : Int) ≤ 12) ↔ s.size ≤ 12 := by omega
  simp [a1, a2, Bool.and_comm]
 ·refine Ev.ifn c1 (Ev.cast (Ev.now _) ?_)
  unfold wordB
  have a1 : ¬ 1 ≤ s.size := by omega
  simp [a1]
def upB (c : Int) : Bool := decide (65 ≤ c) && decide (c ≤ 90)
theorem impl_upper_eq (c : Int) : impl_upper.f c = some (upB c) := by
 unfold impl_upper.f upB
 by_cases h : c ≥ 65
 ·have h' : 65 ≤ c := h
  rw [if_pos h]
  simp [h']
 ·have h' : ¬ 65 ≤ c := h
  rw [if_neg h]
  simp [h']
def flagB (s : ByteArray) : Bool := decide (s.size = 1) && upB (bt s 0)
theorem spec_l2Flag_eq (s : ByteArray) : spec_l2Flag.f s = some (flagB s) := by
 unfold spec_l2Flag.f flagB upB
 by_cases h : s.size = 1
 ·have h1 : (s.size : Int) = 1 := by omega
  have h2 : (0 : Int) < (s.size : Int) := by omega
  rw [if_pos h1, if_pos h2]
  by_cases h3 : bt s 0 ≥ 65
  ·have h' : 65 ≤ bt s 0 := h3
   rw [if_pos h3]
   simp [h, h']
  ·have h' : ¬ 65 ≤ bt s 0 := h3
   rw [if_neg h3]
   simp [h, h']
 ·have h1 : ¬ (s.size : Int) = 1 := by omega
  rw [if_neg h1]
  simp [h]
def begB (s p : ByteArray) : Bool := if p.size ≤ s.size then (s.extract 0 p.size).toList == p.toList else false
def endB (s p : ByteArray) : Bool := if p.size ≤ s.size then (s.extract (s.size - p.size) s.size).toList == p.toList else false
theorem pre_eq (s p : ByteArray) : (if (s.size : Int) ≥ (p.size : Int) then (if 0 ≤ (p.size : Int) then (if (p.size : Int) ≤ (s.size : Int) then (some ((s.extract 0 ((p.size : Int) : Int).toNat).toList == p.toList)) else (none)) else (none)) else (some false)) = some (begB s p) := by
 unfold begB
 by_cases h : p.size ≤ s.size
 ·have h1 : (s.size : Int) ≥ (p.size : Int) := by omega
  have h2 : (0 : Int) ≤ (p.size : Int) := by omega
  have h3 : (p.size : Int) ≤ (s.size : Int) := by omega
  rw [if_pos h1, if_pos h2, if_pos h3, if_pos h, Int.toNat_natCast]
 ·have h1 : ¬ (s.size : Int) ≥ (p.size : Int) := by omega
  rw [if_neg h1, if_neg h]
theorem suf_eq (s p : ByteArray) (hs : Small s.size) : (if (s.size : Int) ≥ (p.size : Int) then (if 0 ≤ (wrap64 ((s.size : Int) - (p.size : Int))) then (if (wrap64 ((s.size : Int) - (p.size : Int))) ≤ (s.size : Int) then (some ((s.extract ((wrap64 ((s.size : Int) - (p.size : Int))) : Int).toNat s.size).toList == p.toList)) else (none)) else (none)) else (some false)) = some (endB s p) := by
 unfold endB
 by_cases h : p.size ≤ s.size
 ·have h1 : (s.size : Int) ≥ (p.size : Int) := by omega
  have w : wrap64 ((s.size : Int) - (p.size : Int)) = ((s.size - p.size : Nat) : Int) := by rw [wid (by omega) (by simp [Small] at hs; omega)]; omega
  have h2 : (0 : Int) ≤ ((s.size - p.size : Nat) : Int) := by omega
  have h3 : ((s.size - p.size : Nat) : Int) ≤ (s.size : Int) := by omega
  rw [if_pos h1, w, if_pos h2, if_pos h3, if_pos h, Int.toNat_natCast]
 ·have h1 : ¬ (s.size : Int) ≥ (p.size : Int) := by omega
  rw [if_neg h1, if_neg h]
theorem hasPrefix_beg (s p : ByteArray) : strings_HasPrefix.f s p = some (begB s p) := by
 unfold strings_HasPrefix.f stringslite_HasPrefix.f
 rw [pre_eq]
 rfl
theorem hasSuffix_end (s p : ByteArray) (hs : Small s.size) : strings_HasSuffix.f s p = some (endB s p) := by
 unfold strings_HasSuffix.f stringslite_HasSuffix.f
 rw [suf_eq s p hs]
 rfl
theorem spec_l2Begins_eq (s p : ByteArray) : spec_l2Begins.f s p = some (begB s p) := by
 unfold spec_l2Begins.f
 exact pre_eq s p
theorem spec_l2Ends_eq (s p : ByteArray) (hs : Small s.size) : spec_l2Ends.f s p = some (endB s p) := by
 unfold spec_l2Ends.f
 exact suf_eq s p hs
def partB (s : ByteArray) : Bool := lowB s && decide (s.size ≤ 4)
def affB (a : Af) : Bool := flagB a.f0 && (partB a.f2 && (partB a.f3 && (partB a.f4 && (if a.f1 = true then begB a.f4 a.f2 else endB a.f4 a.f2))))
def SmallA (a : Af) : Prop := Small a.f0.size ∧ Small a.f2.size ∧ Small a.f3.size ∧ Small a.f4.size
theorem part_cast (s : ByteArray) : (lowB s && decide ((s.size : Int) ≤ 4)) = partB s := by
 unfold partB
 have a2 : ((s.size : Int) ≤ 4) ↔ s.size ≤ 4 := by omega
 simp [a2]
theorem spec_AffixOk_ev (a : Af) (h : SmallA a) : Ev (fun k => spec_AffixOk.f k a.f0 a.f1 a.f2 a.f3 a.f4) (affB a) := by
 obtain ⟨h0, h2, h3, h4⟩ := h
 have no : ∀ u v x y z, Ev (fun k => spec_AffixOk.j0 k true u v x y z) false := fun u v x y z => by
  apply Ev.succ
  simp only [spec_AffixOk.j0, if_true]
  exact Ev.now _
 have yes : Ev (fun k => spec_AffixOk.j0 k false a.f0 a.f1 a.f2 a.f3 a.f4) (if a.f1 = true then begB a.f4 a.f2 else endB a.f4 a.f2) := by
  apply Ev.succ
  simp only [spec_AffixOk.j0, Bool.false_eq_true, if_false, spec_l2Begins_eq, spec_l2Ends_eq _ _ h4, Option.bind_some]
  cases a.f1
  ·simp only [Bool.false_eq_true, if_false]; exact Ev.now _
  ·simp only [if_true]; exact Ev.now _
 unfold spec_AffixOk.f affB
 simp only [spec_l2Flag_eq, Option.bind_some]
 cases flagB a.f0
 ·simp only [Bool.false_eq_true, if_false, Bool.false_and]; exact no _ _ _ _ _
 simp only [if_true, Bool.true_and]
 refine Ev.bind (Ev.cast (spec_l1Letters_ev a.f2 4 h2) (part_cast _)) ?_
 cases partB a.f2
 ·simp only [Bool.false_eq_true, if_false, Bool.false_and]; exact no _ _ _ _ _
 simp only [if_true, Bool.true_and]
 refine Ev.bind (Ev.cast (spec_l1Letters_ev a.f3 4 h3) (part_cast _)) ?_
 cases partB a.f3
 ·simp only [Bool.false_eq_true, if_false, Bool.false_and]; exact no _ _ _ _ _
 simp only [if_true, Bool.true_and]
 refine Ev.bind (Ev.cast (spec_l1Letters_ev a.f4 4 h4) (part_cast _)) ?_
 cases partB a.f4
 ·simp only [Bool.not_false, Bool.false_and]; exact no _ _ _ _ _
 simp only [Bool.not_true, Bool.true_and]
 exact yes
theorem impl_AffixOk_ev (a : Af) (h : SmallA a) : Ev (fun k => impl_AffixOk.f k a.f0 a.f1 a.f2 a.f3 a.f4) (affB a) := by
 obtain ⟨h0, h2, h3, h4⟩ := h
 have no : ∀ u v x y z, Ev (fun k => impl_AffixOk.j0 k true u v x y z) false := fun u v x y z => by
  apply Ev.succ
  simp only [impl_AffixOk.j0, if_true]
  exact Ev.now _
 have one : ∀ (s : ByteArray) (hs : Small s.size) (r : Bool) (f : Nat → Option Bool), Ev f r → Ev (fun k => if (s.size : Int) > 4 then some false else ((impl_lower.f k s).bind fun t107 => if t107 = true then f k else some false)) (partB s && r) := by
  intro s hs r f hf
  by_cases c : (s.size : Int) > 4
  ·refine Ev.ifp c (Ev.cast (Ev.now _) ?_)
   have a2 : ¬ s.size ≤ 4 := by omega
   simp [partB, a2]
  ·refine Ev.ifn c (Ev.bind (impl_lower_ev s hs) ?_)
   have a2 : s.size ≤ 4 := by omega
   cases hl : lowB s
   ·simp only [Bool.false_eq_true, if_false]
    refine Ev.cast (Ev.now _) ?_
    simp [partB, hl]
   ·simp only [if_true]
    refine Ev.cast hf ?_
    simp [partB, hl, a2]
 have last : Ev (fun k => impl_AffixOk.l0 k [a.f2, a.f3, a.f4] 3 3 a.f0 a.f1 a.f2 a.f3 a.f4) (if a.f1 = true then begB a.f4 a.f2 else endB a.f4 a.f2) := by
  apply Ev.succ
  simp only [impl_AffixOk.l0, Int.lt_irrefl, if_false, hasPrefix_beg, hasSuffix_end _ _ h4, Option.bind_some]
  cases a.f1
  ·simp only [Bool.false_eq_true, if_false]; exact Ev.now _
  ·simp only [if_true]; exact Ev.now _
 have w2 : wrap64 (2 + 1) = 3 := wid (by omega) (by omega)
 have w1 : wrap64 (1 + 1) = 2 := wid (by omega) (by omega)
 have w0 : wrap64 (0 + 1) = 1 := wid (by omega) (by omega)
 have l2 : Ev (fun k => impl_AffixOk.l0 k [a.f2, a.f3, a.f4] 3 2 a.f0 a.f1 a.f2 a.f3 a.f4) (partB a.f4 && (if a.f1 = true then begB a.f4 a.f2 else endB a.f4 a.f2)) := by
  apply Ev.succ
  have e : rdOf ByteArray.empty [a.f2, a.f3, a.f4] 2 = a.f4 := rfl
  simp only [impl_AffixOk.l0, e, w2, show ((2 : Int) < 3) from by decide, show ((0 : Int) ≤ 2) from by decide, show ((2 : Int) < (([a.f2, a.f3, a.f4] : List ByteArray).length : Int)) from by simp, if_true]
  exact one a.f4 h4 _ _ last
 have l1 : Ev (fun k => impl_AffixOk.l0 k [a.f2, a.f3, a.f4] 3 1 a.f0 a.f1 a.f2 a.f3 a.f4) (partB a.f3 && (partB a.f4 && (if a.f1 = true then begB a.f4 a.f2 else endB a.f4 a.f2))) := by
  apply Ev.succ
  have e : rdOf ByteArray.empty [a.f2, a.f3, a.f4] 1 = a.f3 := rfl
  simp only [impl_AffixOk.l0, e, w1, show ((1 : Int) < 3) from by decide, show ((0 : Int) ≤ 1) from by decide, show ((1 : Int) < (([a.f2, a.f3, a.f4] : List ByteArray).length : Int)) from by simp, if_true]
  exact one a.f3 h3 _ _ l2
 have l0 : Ev (fun k => impl_AffixOk.l0 k [a.f2, a.f3, a.f4] 3 0 a.f0 a.f1 a.f2 a.f3 a.f4) (partB a.f2 && (partB a.f3 && (partB a.f4 && (if a.f1 = true then begB a.f4 a.f2 else endB a.f4 a.f2)))) := by
  apply Ev.succ
  have e : rdOf ByteArray.empty [a.f2, a.f3, a.f4] 0 = a.f2 := rfl
  simp only [impl_AffixOk.l0, e, w0, show ((0 : Int) < 3) from by decide, show ((0 : Int) ≤ 0) from by decide, show ((0 : Int) < (([a.f2, a.f3, a.f4] : List ByteArray).length : Int)) from by simp, if_true]
  exact one a.f2 h2 _ _ l1
 have yes : Ev (fun k => impl_AffixOk.j0 k false a.f0 a.f1 a.f2 a.f3 a.f4) (partB a.f2 && (partB a.f3 && (partB a.f4 && (if a.f1 = true then begB a.f4 a.f2 else endB a.f4 a.f2)))) := by
  apply Ev.succ
  simp only [impl_AffixOk.j0, Bool.false_eq_true, if_false, Option.bind_some]
  exact l0
 unfold impl_AffixOk.f affB flagB
 by_cases c : a.f0.size = 1
 ·have c1 : (a.f0.size : Int) = 1 := by omega
  have c2 : (0 : Int) < (a.f0.size : Int) := by omega
  simp only [c1, if_true, impl_upper_eq, Option.bind_some, c, decide_true, Bool.true_and, show ((0 : Int) < 1) from by decide]
  cases upB (bt a.f0 0)
  ·simp only [Bool.not_false, Bool.false_and]; exact no _ _ _ _ _
  ·simp only [Bool.not_true, Bool.true_and]; exact yes
 ·have c1 : ¬ (a.f0.size : Int) = 1 := by omega
  simp only [c1, if_false, c, decide_false, Bool.false_and]
  exact no _ _ _ _ _
end Go.Proofs.YtaakfmpffhfaeaaGreatDoor.M
end

section
/- Lists of words, entries and affixes, deltas: what is ok, plain. -/
namespace Go.Proofs.YtaakfmpffhfaeaaGreatDoor.M
open Go.RowKit Go.Proofs.YtaakfmpffhfaeaaGreatDoorW.PrintWords Go.Proofs.YtaakfmpffhfaeaaGreatDoor.Pu
set_option linter.unusedVariables false
set_option linter.unusedSimpArgs false
theorem find_from {α : Type} {g : Nat → Int → Option α} (n : Nat) (P : Nat → Prop) [DecidablePred P] (fin : α) (S : α → Prop)
  (step : ∀ (i : Nat) (r : α), i < n → P i → Ev (fun k => g k ((i : Int) + 1)) r → Ev (fun k => g k (i : Int)) r)
  (fail : ∀ i : Nat, i < n → ¬ P i → ∃ r, Ev (fun k => g k (i : Int)) r ∧ S r)
  (done : Ev (fun k => g k (n : Int)) fin) (d : Nat) : ∀ i : Nat, n - i = d → i ≤ n → ((∀ j, j < n → i ≤ j → P j) ∧ Ev (fun k => g k (i : Int)) fin) ∨ ((∃ j, j < n ∧ i ≤ j ∧ ¬ P j) ∧ ∃ r, Ev (fun k => g k (i : Int)) r ∧ S r) := by
 induction d with
 | zero =>
  intro i hd hi
  obtain rfl : i = n := by omega
  exact .inl ⟨fun j h1 h2 => absurd h1 (by omega), done⟩
 | succ d ih =>
  intro i hd hi
  by_cases hp : P i
  ·rcases ih (i + 1) (by omega) (by omega) with ⟨h1, h2⟩ | ⟨⟨j, h1, h2, h3⟩, r, h4, h5⟩
   ·refine .inl ⟨fun j a b => ?_, step i _ (by omega) hp (by exact_mod_cast h2)⟩
    rcases Nat.eq_or_lt_of_le b with rfl | c
    ·exact hp
    ·exact h1 j a c
   ·exact .inr ⟨⟨j, h1, by omega, h3⟩, r, step i _ (by omega) hp (by exact_mod_cast h4), h5⟩
  ·exact .inr ⟨⟨i, by omega, Nat.le_refl _, hp⟩, fail i (by omega) hp⟩
theorem stop_loop {α : Type} {g : Nat → Int → Option α} (n : Nat) (P : Nat → Prop) (stop : α) (j : Nat) (hj : j < n) (hP : ¬ P j)
  (step : ∀ (i : Nat) (r : α), i < n → P i → Ev (fun k => g k ((i : Int) + 1)) r → Ev (fun k => g k (i : Int)) r)
  (fail : ∀ i : Nat, i < n → ¬ P i → Ev (fun k => g k (i : Int)) stop) : Ev (fun k => g k 0) stop := by
 have key : ∀ d i : Nat, j - i = d → i ≤ j → Ev (fun k => g k (i : Int)) stop := by
  intro d
  induction d with
  | zero =>
   intro i hd hi
   obtain rfl : i = j := by omega
   exact fail i hj hP
  | succ d ih =>
   intro i hd hi
   by_cases hp : P i
   ·exact step i _ (by omega) hp (by exact_mod_cast ih (i + 1) (by omega) (by omega))
   ·exact fail i (by omega) hp
 exact_mod_cast key j 0 (by omega) (by omega)
def entP (s : ByteArray) (j : Nat) : Prop := upB (bt s (j : Int)) = true ∧ (0 < j → bt s (((j - 1 : Nat)) : Int) < bt s (j : Int))
instance (s : ByteArray) (j : Nat) : Decidable (entP s j) := inferInstanceAs (Decidable (_ ∧ _))
def entB (e : En) : Bool := if ∀ j, j < e.f1.size → entP e.f1 j then (wordB e.f0 && decide (e.f1.size ≤ 4)) else false
def SmallE (e : En) : Prop := Small e.f0.size ∧ Small e.f1.size
theorem tail_cast (b : Bool) (n m : Nat) : (if b = true then some (decide ((n : Int) ≤ (m : Int))) else some false) = some (b && decide (n ≤ m)) := by
 have a2 : ((n : Int) ≤ (m : Int)) ↔ n ≤ m := by omega
 cases b <;> simp [a2]
theorem impl_entryOk_ev (e : En) (h : SmallE e) : Ev (fun k => impl_entryOk.f k e.f0 e.f1) (entB e) := by
 obtain ⟨h0, h1⟩ := h
 unfold impl_entryOk.f
 refine all_loop (g := fun k x => impl_entryOk.l0 k (e.f1.size : Int) x e.f0 e.f1) e.f1.size (entP e.f1) false _ ?_ ?_ ?_
 ·intro i r hi hp hr
  have c1 : (i : Int) < (e.f1.size : Int) := by omega
  have c2 : (0 : Int) ≤ (i : Int) := by omega
  have w1 : Aside0 (wrap64 ((i : Int) + 1) = (i : Int) + 1) := ⟨wid (by omega) (by simp [Small] at h1; omega)⟩
  apply Ev.succ
  simp only [impl_entryOk.l0, c1, c2, impl_upper_eq, hp.1, Option.bind_some, w1.out, if_true]
  by_cases c3 : (i : Int) > 0
  ·have w2 : Aside0 (wrap64 ((i : Int) - 1) = ((i - 1 : Nat) : Int)) := ⟨by rw [wid (by omega) (by simp [Small] at h1; omega)]; omega⟩
   have c4 : (0 : Int) ≤ ((i - 1 : Nat) : Int) := by omega
   have c5 : ((i - 1 : Nat) : Int) < (e.f1.size : Int) := by omega
   have c6 : ¬ bt e.f1 ((i - 1 : Nat) : Int) ≥ bt e.f1 (i : Int) := by have := hp.2 (by omega); omega
   simp only [c3, w2.out, c4, c5, c6, if_true, if_false]
   exact hr
  ·simp only [c3, if_false]
   exact hr
 ·intro i hi hp
  have c1 : (i : Int) < (e.f1.size : Int) := by omega
  have c2 : (0 : Int) ≤ (i : Int) := by omega
  apply Ev.succ
  simp only [impl_entryOk.l0, c1, c2, impl_upper_eq, Option.bind_some, if_true]
  cases hu : upB (bt e.f1 (i : Int))
  ·simp only [Bool.false_eq_true, if_false]
   exact Ev.now _
  ·simp only [if_true]
   have c3 : (i : Int) > 0 := by
    by_cases c : (i : Int) > 0
    ·exact c
    ·exact absurd ⟨hu, fun h => absurd h (by omega)⟩ hp
   have w2 : Aside0 (wrap64 ((i : Int) - 1) = ((i - 1 : Nat) : Int)) := ⟨by rw [wid (by omega) (by simp [Small] at h1; omega)]; omega⟩
   have c4 : (0 : Int) ≤ ((i - 1 : Nat) : Int) := by omega
   have c5 : ((i - 1 : Nat) : Int) < (e.f1.size : Int) := by omega
   have c6 : bt e.f1 ((i - 1 : Nat) : Int) ≥ bt e.f1 (i : Int) := by
    by_cases c : bt e.f1 ((i - 1 : Nat) : Int) < bt e.f1 (i : Int)
    ·exact absurd ⟨hu, fun _ => c⟩ hp
    ·omega
   simp only [c3, w2.out, c4, c5, c6, if_true]
   exact Ev.now _
 ·apply Ev.succ
  simp only [impl_entryOk.l0, Int.lt_irrefl, if_false]
  refine Ev.bind (impl_WordOk_ev e.f0 h0) ?_
  exact Ev.congr (fun _ => tail_cast _ _ 4) (Ev.now _)
theorem bt_one (s : ByteArray) (i : Nat) (h : i < s.size) : bt (s.extract i (i + 1)) 0 = bt s (i : Int) := by
 have e0 := bt_nat (s.extract i (i + 1)) 0
 rw [bt_nat s i, dif_pos h]
 have hz : (s.extract i (i + 1)).size = 1 := by rw [ByteArray.size_extract]; omega
 have e1 : bt (s.extract i (i + 1)) 0 = bt (s.extract i (i + 1)) ((0 : Nat) : Int) := rfl
 rw [e1, e0, dif_pos (by omega)]
 simp [ByteArray.getElem_extract]
theorem spec_l2Entry_ev (e : En) (h : SmallE e) : Ev (fun k => spec_l2Entry.f k e.f0 e.f1) (entB e) := by
 obtain ⟨h0, h1⟩ := h
 unfold spec_l2Entry.f
 have fl : ∀ i : Nat, i < e.f1.size → spec_l2Flag.f (e.f1.extract i (i + 1)) = some (upB (bt e.f1 (i : Int))) := by
  intro i hi
  rw [spec_l2Flag_eq]
  unfold flagB
  have hz : (e.f1.extract i (i + 1)).size = 1 := by rw [ByteArray.size_extract]; omega
  rw [hz, bt_one _ _ hi]
  simp
 refine all_loop (g := fun k x => spec_l2Entry.l0 k x e.f0 e.f1) e.f1.size (entP e.f1) false _ ?_ ?_ ?_
 ·intro i r hi hp hr
  have c1 : (i : Int) < (e.f1.size : Int) := by omega
  have c2 : (0 : Int) ≤ (i : Int) := by omega
  have w1 : Aside0 (wrap64 ((i : Int) + 1) = (i : Int) + 1) := ⟨wid (by omega) (by simp [Small] at h1; omega)⟩
  have c7 : (i : Int) ≤ (i : Int) + 1 := by omega
  have c8 : (i : Int) + 1 ≤ (e.f1.size : Int) := by omega
  have e0 : (i : Int).toNat = i := by omega
  have e1 : ((i : Int) + 1).toNat = i + 1 := by omega
  apply Ev.succ
  simp only [spec_l2Entry.l0, c1, c2, w1.out, c7, c8, e0, e1, fl i hi, hp.1, Option.bind_some, if_true]
  by_cases c3 : (i : Int) > 0
  ·have w2 : Aside0 (wrap64 ((i : Int) - 1) = ((i - 1 : Nat) : Int)) := ⟨by rw [wid (by omega) (by simp [Small] at h1; omega)]; omega⟩
   have c4 : (0 : Int) ≤ ((i - 1 : Nat) : Int) := by omega
   have c5 : ((i - 1 : Nat) : Int) < (e.f1.size : Int) := by omega
   have c6 : ¬ bt e.f1 ((i - 1 : Nat) : Int) ≥ bt e.f1 (i : Int) := by have := hp.2 (by omega); omega
   simp only [c3, w2.out, c4, c5, c6, if_true, if_false]
   exact hr
  ·simp only [c3, if_false]
   exact hr
 ·intro i hi hp
  have c1 : (i : Int) < (e.f1.size : Int) := by omega
  have c2 : (0 : Int) ≤ (i : Int) := by omega
  have w1 : Aside0 (wrap64 ((i : Int) + 1) = (i : Int) + 1) := ⟨wid (by omega) (by simp [Small] at h1; omega)⟩
  have c7 : (i : Int) ≤ (i : Int) + 1 := by omega
  have c8 : (i : Int) + 1 ≤ (e.f1.size : Int) := by omega
  have e0 : (i : Int).toNat = i := by omega
  have e1 : ((i : Int) + 1).toNat = i + 1 := by omega
  apply Ev.succ
  simp only [spec_l2Entry.l0, c1, c2, w1.out, c7, c8, e0, e1, fl i hi, Option.bind_some, if_true]
  cases hu : upB (bt e.f1 (i : Int))
  ·simp only [Bool.false_eq_true, if_false]
   exact Ev.now _
  ·simp only [if_true]
   have c3 : (i : Int) > 0 := by
    by_cases c : (i : Int) > 0
    ·exact c
    ·exact absurd ⟨hu, fun h => absurd h (by omega)⟩ hp
   have w2 : Aside0 (wrap64 ((i : Int) - 1) = ((i - 1 : Nat) : Int)) := ⟨by rw [wid (by omega) (by simp [Small] at h1; omega)]; omega⟩
   have c4 : (0 : Int) ≤ ((i - 1 : Nat) : Int) := by omega
   have c5 : ((i - 1 : Nat) : Int) < (e.f1.size : Int) := by omega
   have c6 : bt e.f1 ((i - 1 : Nat) : Int) ≥ bt e.f1 (i : Int) := by
    by_cases c : bt e.f1 ((i - 1 : Nat) : Int) < bt e.f1 (i : Int)
    ·exact absurd ⟨hu, fun _ => c⟩ hp
    ·omega
   simp only [c3, w2.out, c4, c5, c6, if_true]
   exact Ev.now _
 ·apply Ev.succ
  simp only [spec_l2Entry.l0, Int.lt_irrefl, if_false]
  refine Ev.bind (spec_l1Word_ev e.f0 h0) ?_
  exact Ev.congr (fun _ => tail_cast _ _ 4) (Ev.now _)
def less (a b : ByteArray) : Bool := Op.bytesLess a.toList b.toList
def wsP (l : List ByteArray) (j : Nat) : Prop := wordB (rdOf ByteArray.empty l (j : Int)) = true ∧ (0 < j → less (rdOf ByteArray.empty l ((j - 1 : Nat) : Int)) (rdOf ByteArray.empty l (j : Int)) = true)
instance (l : List ByteArray) (j : Nat) : Decidable (wsP l j) := inferInstanceAs (Decidable (_ ∧ _))
def wsB (l : List ByteArray) (m : Nat) : Bool := if ∀ j, j < l.length → wsP l j then decide (l.length ≤ m) else false
theorem impl_wordsOk_ev (l : List ByteArray) (m : Nat) (hl : Small l.length) (h : ∀ s ∈ l, Small s.size) : Ev (fun k => impl_wordsOk.f k l (m : Int)) (wsB l m) := by
 unfold impl_wordsOk.f
 have sm : ∀ i : Nat, i < l.length → Small (rdOf ByteArray.empty l (i : Int)).size := fun i hi => by rw [sAt_nat l i hi]; exact h _ (List.getElem_mem hi)
 refine all_loop (g := fun k x => impl_wordsOk.l0 k l (m : Int) l (l.length : Int) x) l.length (wsP l) false _ ?_ ?_ ?_
 ·intro i r hi hp hr
  have c1 : (i : Int) < (l.length : Int) := by omega
  have c2 : (0 : Int) ≤ (i : Int) := by omega
  have w1 : Aside0 (wrap64 ((i : Int) + 1) = (i : Int) + 1) := ⟨wid (by omega) (by simp [Small] at hl; omega)⟩
  apply Ev.succ
  simp only [impl_wordsOk.l0, c1, c2, w1.out, if_true]
  refine Ev.bind (Ev.cast (impl_WordOk_ev _ (sm i hi)) hp.1) ?_
  simp only [if_true]
  by_cases c3 : (i : Int) > 0
  ·have w2 : Aside0 (wrap64 ((i : Int) - 1) = ((i - 1 : Nat) : Int)) := ⟨by rw [wid (by omega) (by simp [Small] at hl; omega)]; omega⟩
   have c4 : (0 : Int) ≤ ((i - 1 : Nat) : Int) := by omega
   have c5 : ((i - 1 : Nat) : Int) < (l.length : Int) := by omega
   have c6 : Op.bytesLess (rdOf ByteArray.empty l ((i - 1 : Nat) : Int)).toList (rdOf ByteArray.empty l (i : Int)).toList = true := hp.2 (by omega)
   simp only [c3, w2.out, c4, c5, c6, if_true]
   exact hr
  ·simp only [c3, if_false]
   exact hr
 ·intro i hi hp
  have c1 : (i : Int) < (l.length : Int) := by omega
  have c2 : (0 : Int) ≤ (i : Int) := by omega
  apply Ev.succ
  simp only [impl_wordsOk.l0, c1, c2, if_true]
  refine Ev.bind (impl_WordOk_ev _ (sm i hi)) ?_
  cases hu : wordB (rdOf ByteArray.empty l (i : Int))
  ·simp only [Bool.false_eq_true, if_false]
   exact Ev.now _
  ·simp only [if_true]
   have c3 : (i : Int) > 0 := by
    by_cases c : (i : Int) > 0
    ·exact c
    ·exact absurd ⟨hu, fun h => absurd h (by omega)⟩ hp
   have w2 : Aside0 (wrap64 ((i : Int) - 1) = ((i - 1 : Nat) : Int)) := ⟨by rw [wid (by omega) (by simp [Small] at hl; omega)]; omega⟩
   have c4 : (0 : Int) ≤ ((i - 1 : Nat) : Int) := by omega
   have c5 : ((i - 1 : Nat) : Int) < (l.length : Int) := by omega
   have c6 : ¬ Op.bytesLess (rdOf ByteArray.empty l ((i - 1 : Nat) : Int)).toList (rdOf ByteArray.empty l (i : Int)).toList = true := fun c => hp ⟨hu, fun _ => c⟩
   simp only [c3, w2.out, c4, c5, c6, if_true, if_false]
   exact Ev.now _
 ·apply Ev.succ
  simp only [impl_wordsOk.l0, Int.lt_irrefl, if_false]
  refine Ev.cast (Ev.now _) ?_
  have a2 : ((l.length : Int) ≤ (m : Int)) ↔ l.length ≤ m := by omega
  simp [a2]
def esP (l : List En) (j : Nat) : Prop := entB (eAt l (j : Int)) = true ∧ (0 < j → less (eAt l ((j - 1 : Nat) : Int)).f0 (eAt l (j : Int)).f0 = true)
instance (l : List En) (j : Nat) : Decidable (esP l j) := inferInstanceAs (Decidable (_ ∧ _))
def esB (l : List En) : Bool := if ∀ j, j < l.length → esP l j then decide (l.length ≤ 24) else false
theorem impl_entriesOk_ev (l : List En) (hl : Small l.length) (h : ∀ e ∈ l, SmallE e) : Ev (fun k => impl_entriesOk.f k l) (esB l) := by
 unfold impl_entriesOk.f
 have sm : ∀ i : Nat, i < l.length → SmallE (eAt l (i : Int)) := fun i hi => by rw [eAt_nat l i hi]; exact h _ (List.getElem_mem hi)
 refine all_loop (g := fun k x => impl_entriesOk.l0 k l l (l.length : Int) x) l.length (esP l) false _ ?_ ?_ ?_
 ·intro i r hi hp hr
  have c1 : (i : Int) < (l.length : Int) := by omega
  have c2 : (0 : Int) ≤ (i : Int) := by omega
  have w1 : Aside0 (wrap64 ((i : Int) + 1) = (i : Int) + 1) := ⟨wid (by omega) (by simp [Small] at hl; omega)⟩
  apply Ev.succ
  simp only [impl_entriesOk.l0, c1, c2, w1.out, if_true]
  refine Ev.bind (Ev.cast (impl_entryOk_ev _ (sm i hi)) hp.1) ?_
  simp only [if_true]
  by_cases c3 : (i : Int) > 0
  ·have w2 : Aside0 (wrap64 ((i : Int) - 1) = ((i - 1 : Nat) : Int)) := ⟨by rw [wid (by omega) (by simp [Small] at hl; omega)]; omega⟩
   have c4 : (0 : Int) ≤ ((i - 1 : Nat) : Int) := by omega
   have c5 : ((i - 1 : Nat) : Int) < (l.length : Int) := by omega
   have c6 : Op.bytesLess (eAt l ((i - 1 : Nat) : Int)).f0.toList (eAt l (i : Int)).f0.toList = true := hp.2 (by omega)
   simp only [c3, w2.out, c4, c5, c6, if_true]
   exact hr
  ·simp only [c3, if_false]
   exact hr
 ·intro i hi hp
  have c1 : (i : Int) < (l.length : Int) := by omega
  have c2 : (0 : Int) ≤ (i : Int) := by omega
  apply Ev.succ
  simp only [impl_entriesOk.l0, c1, c2, if_true]
  refine Ev.bind (impl_entryOk_ev _ (sm i hi)) ?_
  cases hu : entB (eAt l (i : Int))
  ·simp only [Bool.false_eq_true, if_false]
   exact Ev.now _
  ·simp only [if_true]
   have c3 : (i : Int) > 0 := by
    by_cases c : (i : Int) > 0
    ·exact c
    ·exact absurd ⟨hu, fun h => absurd h (by omega)⟩ hp
   have w2 : Aside0 (wrap64 ((i : Int) - 1) = ((i - 1 : Nat) : Int)) := ⟨by rw [wid (by omega) (by simp [Small] at hl; omega)]; omega⟩
   have c4 : (0 : Int) ≤ ((i - 1 : Nat) : Int) := by omega
   have c5 : ((i - 1 : Nat) : Int) < (l.length : Int) := by omega
   have c6 : ¬ Op.bytesLess (eAt l ((i - 1 : Nat) : Int)).f0.toList (eAt l (i : Int)).f0.toList = true := fun c => hp ⟨hu, fun _ => c⟩
   simp only [c3, w2.out, c4, c5, c6, if_true, if_false]
   exact Ev.now _
 ·apply Ev.succ
  simp only [impl_entriesOk.l0, Int.lt_irrefl, if_false]
  refine Ev.cast (Ev.now _) ?_
  have a2 : ((l.length : Int) ≤ 24) ↔ l.length ≤ 24 := by omega
  simp [a2]
theorem same_iff (a b : Af) : ((a.f0.toList == b.f0.toList && (a.f1 == b.f1 && (a.f2.toList == b.f2.toList && (a.f3.toList == b.f3.toList && (a.f4.toList == b.f4.toList))))) = true) ↔ a = b := by
 simp only [Bool.and_eq_true, beq_iff_eq, toList_inj]
 constructor
 ·rintro ⟨h0, h1, h2, h3, h4⟩
  obtain ⟨_, _, _, _, _⟩ := a
  obtain ⟨_, _, _, _, _⟩ := b
  simp_all
 ·rintro rfl
  exact ⟨rfl, rfl, rfl, rfl, rfl⟩
def sameB (a b : Af) : Bool := (a.f0.toList == b.f0.toList && (a.f1 == b.f1 && (a.f2.toList == b.f2.toList && (a.f3.toList == b.f3.toList && (a.f4.toList == b.f4.toList)))))
theorem sameB_iff (a b : Af) : sameB a b = true ↔ a = b := same_iff a b
theorem sameB_comm (a b : Af) : sameB a b = sameB b a := by
 have h : sameB a b = true ↔ sameB b a = true := by rw [sameB_iff, sameB_iff]; exact eq_comm
 cases h1 : sameB a b <;> cases h2 : sameB b a
 ·rfl
 ·exact absurd (h.2 h2) (by rw [h1]; decide)
 ·exact absurd (h.1 h1) (by rw [h2]; decide)
 ·rfl
def noneP (l : List Af) (a : Af) (j : Nat) : Prop := sameB (aAt l (j : Int)) a = false
instance (l : List Af) (a : Af) (j : Nat) : Decidable (noneP l a j) := inferInstanceAs (Decidable (_ = _))
def hasA (l : List Af) (a : Af) : Bool := if ∀ j, j < l.length → noneP l a j then false else true
theorem contains_ev (l : List Af) (a : Af) (hl : Small l.length) : Ev (fun k => impl_Affix_134.f k l a.f0 a.f1 a.f2 a.f3 a.f4) (hasA l a) := by
 unfold impl_Affix_134.f impl_Affix_167.f
 have key := find_from (g := fun k x => impl_Affix_167.l0 k l (l.length : Int) x a.f0 a.f1 a.f2 a.f3 a.f4) l.length (noneP l a) (-1) (fun r => 0 ≤ r) ?_ ?_ ?_ l.length 0 (by omega) (by omega)
 ·rcases key with ⟨h1, h2⟩ | ⟨⟨j, h1, _, h3⟩, r, h4, h5⟩
  ·refine Ev.bind h2 (Ev.cast (Ev.now _) ?_)
   unfold hasA
   rw [if_pos (fun j hj => h1 j hj (Nat.zero_le _))]
   rfl
  ·refine Ev.bind h4 (Ev.cast (Ev.now _) ?_)
   unfold hasA
   rw [if_neg (fun h => h3 (h j h1))]
   exact decide_eq_true h5
 ·intro i r hi hp hr
  have c1 : (i : Int) < (l.length : Int) := by omega
  have c2 : (0 : Int) ≤ (i : Int) := by omega
  have w1 : Aside0 (wrap64 ((i : Int) + 1) = (i : Int) + 1) := ⟨wid (by omega) (by simp [Small] at hl; omega)⟩
  have c3 : ¬ sameB a (aAt l (i : Int)) = true := by rw [sameB_comm]; simp only [noneP] at hp; simp [hp]
  unfold sameB at c3
  apply Ev.succ
  simp only [impl_Affix_167.l0, c1, c2, w1.out, if_true]
  exact Ev.ifn c3 hr
 ·intro i hi hp
  have c1 : (i : Int) < (l.length : Int) := by omega
  have c2 : (0 : Int) ≤ (i : Int) := by omega
  have c3 : sameB a (aAt l (i : Int)) = true := by rw [sameB_comm]; simp only [noneP] at hp; simpa using hp
  unfold sameB at c3
  refine ⟨(i : Int), ?_, c2⟩
  apply Ev.succ
  simp only [impl_Affix_167.l0, c1, c2, if_true]
  exact Ev.ifp c3 (Ev.now _)
 ·apply Ev.succ
  simp only [impl_Affix_167.l0, Int.lt_irrefl, if_false]
  exact Ev.now _
def asP (l : List Af) (i : Nat) : Prop := affB (aAt l (i : Int)) = true ∧ ∀ j, j < i → sameB (aAt l (j : Int)) (aAt l (i : Int)) = false
instance (l : List Af) (j : Nat) : Decidable (asP l j) := inferInstanceAs (Decidable (_ ∧ _))
def asB (l : List Af) : Bool := if ∀ j, j < l.length → asP l j then decide (l.length ≤ 8) else false
theorem aAt_take (l : List Af) (i j : Nat) (h : j < i) : aAt (l.take i) (j : Int) = aAt l (j : Int) := by
 simp [aAt, rd_T103, List.getElem?_take, h]
theorem impl_affixesOk_ev (l : List Af) (hl : Small l.length) (h : ∀ a ∈ l, SmallA a) : Ev (fun k => impl_affixesOk.f k l) (asB l) := by
 unfold impl_affixesOk.f
 have sm : ∀ i : Nat, i < l.length → SmallA (aAt l (i : Int)) := fun i hi => by rw [aAt_nat l i hi]; exact h _ (List.getElem_mem hi)
 have hs : ∀ i : Nat, i ≤ l.length → hasA (l.take i) (aAt l (i : Int)) = (if ∀ j, j < i → sameB (aAt l (j : Int)) (aAt l (i : Int)) = false then false else true) := by
  intro i hi
  unfold hasA noneP
  have hz : (l.take i).length = i := by rw [List.length_take]; omega
  rw [hz]
  have e : (∀ j, j < i → sameB (aAt (l.take i) (j : Int)) (aAt l (i : Int)) = false) ↔ (∀ j, j < i → sameB (aAt l (j : Int)) (aAt l (i : Int)) = false) := ⟨fun h j hj => by rw [← aAt_take l i j hj]; exact h j hj, fun h j hj => by rw [aAt_take l i j hj]; exact h j hj⟩
  simp only [e]
 refine all_loop (g := fun k x => impl_affixesOk.l0 k l l (l.length : Int) x) l.length (asP l) false _ ?_ ?_ ?_
 ·intro i r hi hp hr
  have c1 : (i : Int) < (l.length : Int) := by omega
  have c2 : (0 : Int) ≤ (i : Int) := by omega
  have c3 : (i : Int) ≤ (l.length : Int) := by omega
  have e0 : (i : Int).toNat = i := by omega
  have w1 : Aside0 (wrap64 ((i : Int) + 1) = (i : Int) + 1) := ⟨wid (by omega) (by simp [Small] at hl; omega)⟩
  apply Ev.succ
  simp only [impl_affixesOk.l0, c1, c2, w1.out, if_true]
  refine Ev.bind (Ev.cast (impl_AffixOk_ev _ (sm i hi)) hp.1) ?_
  simp only [if_true, c3, e0]
  have hh := hs i (by omega)
  rw [if_pos hp.2] at hh
  refine Ev.bind (Ev.cast (contains_ev (l.take i) _ (by rw [List.length_take]; simp [Small] at hl ⊢; omega)) hh) ?_
  simp only [Bool.false_eq_true, if_false]
  exact hr
 ·intro i hi hp
  have c1 : (i : Int) < (l.length : Int) := by omega
  have c2 : (0 : Int) ≤ (i : Int) := by omega
  have c3 : (i : Int) ≤ (l.length : Int) := by omega
  have e0 : (i : Int).toNat = i := by omega
  apply Ev.succ
  simp only [impl_affixesOk.l0, c1, c2, if_true]
  refine Ev.bind (impl_AffixOk_ev _ (sm i hi)) ?_
  cases hu : affB (aAt l (i : Int))
  ·simp only [Bool.false_eq_true, if_false]
   exact Ev.now _
  ·simp only [if_true, c3, e0]
   have hh := hs i (by omega)
   rw [if_neg (fun c => hp ⟨hu, c⟩)] at hh
   refine Ev.bind (Ev.cast (contains_ev (l.take i) _ (by rw [List.length_take]; simp [Small] at hl ⊢; omega)) hh) ?_
   simp only [if_true]
   exact Ev.now _
 ·apply Ev.succ
  simp only [impl_affixesOk.l0, Int.lt_irrefl, if_false]
  refine Ev.cast (Ev.now _) ?_
  have a2 : ((l.length : Int) ≤ 8) ↔ l.length ≤ 8 := by omega
  simp [a2]
theorem spec_l2Affixes_ev (l : List Af) (hl : Small l.length) (h : ∀ a ∈ l, SmallA a) : Ev (fun k => spec_l2Affixes.f k l) (asB l) := by
 unfold spec_l2Affixes.f
 have sm : ∀ i : Nat, i < l.length → SmallA (aAt l (i : Int)) := fun i hi => by rw [aAt_nat l i hi]; exact h _ (List.getElem_mem hi)
 have inner : ∀ (i : Nat) (r : Bool), i < l.length → Ev (fun k => spec_l2Affixes.l0 k l ((i : Int) + 1)) r → Ev (fun k => spec_l2Affixes.l1 k l (i : Int) 0) (if ∀ j, j < i → sameB (aAt l (j : Int)) (aAt l (i : Int)) = false then r else false) := by
  intro i r hi hr
  have d1 : (i : Int) < (l.length : Int) := by omega
  have d2 : (0 : Int) ≤ (i : Int) := by omega
  refine all_loop (g := fun k x => spec_l2Affixes.l1 k l (i : Int) x) i (fun j => sameB (aAt l (j : Int)) (aAt l (i : Int)) = false) false r ?_ ?_ ?_
  ·intro j r hj hp hr
   have c1 : (j : Int) < (i : Int) := by omega
   have c2 : (0 : Int) ≤ (j : Int) := by omega
   have c3 : (j : Int) < (l.length : Int) := by omega
   have w1 : Aside0 (wrap64 ((j : Int) + 1) = (j : Int) + 1) := ⟨wid (by omega) (by simp [Small] at hl; omega)⟩
   have c4 : ¬ sameB (aAt l (j : Int)) (aAt l (i : Int)) = true := by simp [hp]
   unfold sameB at c4
   apply Ev.succ
   simp only [spec_l2Affixes.l1, c1, c2, c3, d1, d2, w1.out, if_true]
   exact Ev.ifn c4 hr
  ·intro j hj hp
   have c1 : (j : Int) < (i : Int) := by omega
   have c2 : (0 : Int) ≤ (j : Int) := by omega
   have c3 : (j : Int) < (l.length : Int) := by omega
   have c4 : sameB (aAt l (j : Int)) (aAt l (i : Int)) = true := by simpa using hp
   unfold sameB at c4
   apply Ev.succ
   simp only [spec_l2Affixes.l1, c1, c2, c3, d1, d2, if_true]
   exact Ev.ifp c4 (Ev.now _)
  ·have w1 : Aside0 (wrap64 ((i : Int) + 1) = (i : Int) + 1) := ⟨wid (by omega) (by simp [Small] at hl; omega)⟩
   apply Ev.succ
   simp only [spec_l2Affixes.l1, Int.lt_irrefl, w1.out, if_false]
   exact hr
 refine all_loop (g := fun k x => spec_l2Affixes.l0 k l x) l.length (asP l) false _ ?_ ?_ ?_
 ·intro i r hi hp hr
  have c1 : (i : Int) < (l.length : Int) := by omega
  have c2 : (0 : Int) ≤ (i : Int) := by omega
  apply Ev.succ
  simp only [spec_l2Affixes.l0, c1, c2, if_true]
  refine Ev.bind (Ev.cast (spec_AffixOk_ev _ (sm i hi)) hp.1) ?_
  simp only [if_true]
  refine Ev.cast (inner i r hi hr) ?_
  rw [if_pos hp.2]
 ·intro i hi hp
  have c1 : (i : Int) < (l.length : Int) := by omega
  have c2 : (0 : Int) ≤ (i : Int) := by omega
  apply Ev.succ
  simp only [spec_l2Affixes.l0, c1, c2, if_true]
  refine Ev.bind (spec_AffixOk_ev _ (sm i hi)) ?_
  cases hu : affB (aAt l (i : Int))
  ·simp only [Bool.false_eq_true, if_false]
   exact Ev.now _
  ·simp only [if_true]
   obtain ⟨j, hj, hs⟩ : ∃ j, j < i ∧ sameB (aAt l (j : Int)) (aAt l (i : Int)) = true := by
    by_cases c : ∃ j, j < i ∧ sameB (aAt l (j : Int)) (aAt l (i : Int)) = true
    ·exact c
    ·refine absurd ⟨hu, fun j hj => ?_⟩ hp
     cases hs : sameB (aAt l (j : Int)) (aAt l (i : Int))
     ·rfl
     ·exact absurd ⟨j, hj, hs⟩ c
   have d1 : (i : Int) < (l.length : Int) := by omega
   have d2 : (0 : Int) ≤ (i : Int) := by omega
   refine stop_loop (g := fun k x => spec_l2Affixes.l1 k l (i : Int) x) i (fun j => sameB (aAt l (j : Int)) (aAt l (i : Int)) = false) false j hj (by simp [hs]) ?_ ?_
   ·intro j r hj hp hr
    have c1 : (j : Int) < (i : Int) := by omega
    have c2 : (0 : Int) ≤ (j : Int) := by omega
    have c3 : (j : Int) < (l.length : Int) := by omega
    have w1 : Aside0 (wrap64 ((j : Int) + 1) = (j : Int) + 1) := ⟨wid (by omega) (by simp [Small] at hl; omega)⟩
    have c4 : ¬ sameB (aAt l (j : Int)) (aAt l (i : Int)) = true := by simp [hp]
    unfold sameB at c4
    apply Ev.succ
    simp only [spec_l2Affixes.l1, c1, c2, c3, d1, d2, w1.out, if_true]
    exact Ev.ifn c4 hr
   ·intro j hj hp
    have c1 : (j : Int) < (i : Int) := by omega
    have c2 : (0 : Int) ≤ (j : Int) := by omega
    have c3 : (j : Int) < (l.length : Int) := by omega
    have c4 : sameB (aAt l (j : Int)) (aAt l (i : Int)) = true := by simpa using hp
    unfold sameB at c4
    apply Ev.succ
    simp only [spec_l2Affixes.l1, c1, c2, c3, d1, d2, if_true]
    exact Ev.ifp c4 (Ev.now _)
 ·apply Ev.succ
  simp only [spec_l2Affixes.l0, Int.lt_irrefl, if_false]
  refine Ev.cast (Ev.now _) ?_
  have a2 : ((l.length : Int) ≤ 8) ↔ l.length ≤ 8 := by omega
  simp [a2]
theorem spec_BookOk_ev (la : List Af) (l : List En) (ha : Small la.length) (ha' : ∀ a ∈ la, SmallA a) (hl : Small l.length) (h : ∀ e ∈ l, SmallE e) : Ev (fun k => spec_BookOk.f k la l) (esB l && asB la) := by
 unfold spec_BookOk.f
 have sm : ∀ i : Nat, i < l.length → SmallE (eAt l (i : Int)) := fun i hi => by rw [eAt_nat l i hi]; exact h _ (List.getElem_mem hi)
 have key := all_loop (g := fun k x => spec_BookOk.l0 k x la l) l.length (esP l) false (asB la && decide (l.length ≤ 24)) ?_ ?_ ?_
 ·refine Ev.cast key ?_
  unfold esB
  split
  ·rw [Bool.and_comm]
  ·rfl
 ·intro i r hi hp hr
  have c1 : (i : Int) < (l.length : Int) := by omega
  have c2 : (0 : Int) ≤ (i : Int) := by omega
  have w1 : Aside0 (wrap64 ((i : Int) + 1) = (i : Int) + 1) := ⟨wid (by omega) (by simp [Small] at hl; omega)⟩
  apply Ev.succ
  simp only [spec_BookOk.l0, c1, c2, w1.out, if_true]
  refine Ev.bind (Ev.cast (spec_l2Entry_ev _ (sm i hi)) hp.1) ?_
  simp only [if_true]
  by_cases c3 : (i : Int) > 0
  ·have w2 : Aside0 (wrap64 ((i : Int) - 1) = ((i - 1 : Nat) : Int)) := ⟨by rw [wid (by omega) (by simp [Small] at hl; omega)]; omega⟩
   have c4 : (0 : Int) ≤ ((i - 1 : Nat) : Int) := by omega
   have c5 : ((i - 1 : Nat) : Int) < (l.length : Int) := by omega
   have c6 : Op.bytesLess (eAt l ((i - 1 : Nat) : Int)).f0.toList (eAt l (i : Int)).f0.toList = true := hp.2 (by omega)
   simp only [c3, w2.out, c4, c5, c6, if_true]
   exact hr
  ·simp only [c3, if_false]
   exact hr
 ·intro i hi hp
  have c1 : (i : Int) < (l.length : Int) := by omega
  have c2 : (0 : Int) ≤ (i : Int) := by omega
  apply Ev.succ
  simp only [spec_BookOk.l0, c1, c2, if_true]
  refine Ev.bind (spec_l2Entry_ev _ (sm i hi)) ?_
  cases hu : entB (eAt l (i : Int))
  ·simp only [Bool.false_eq_true, if_false]
   exact Ev.now _
  ·simp only [if_true]
   have c3 : (i : Int) > 0 := by
    by_cases c : (i : Int) > 0
    ·exact c
    ·exact absurd ⟨hu, fun h => absurd h (by omega)⟩ hp
   have w2 : Aside0 (wrap64 ((i : Int) - 1) = ((i - 1 : Nat) : Int)) := ⟨by rw [wid (by omega) (by simp [Small] at hl; omega)]; omega⟩
   have c4 : (0 : Int) ≤ ((i - 1 : Nat) : Int) := by omega
   have c5 : ((i - 1 : Nat) : Int) < (l.length : Int) := by omega
   have c6 : ¬ Op.bytesLess (eAt l ((i - 1 : Nat) : Int)).f0.toList (eAt l (i : Int)).f0.toList = true := fun c => hp ⟨hu, fun _ => c⟩
   simp only [c3, w2.out, c4, c5, c6, if_true, if_false]
   exact Ev.now _
 ·apply Ev.succ
  simp only [spec_BookOk.l0, Int.lt_irrefl, if_false]
  refine Ev.bind (spec_l2Affixes_ev la ha ha') ?_
  exact Ev.congr (fun _ => tail_cast _ _ 24) (Ev.now _)
theorem asB_nil : asB [] = true := rfl
theorem spec_l5Entries_ev (l : List En) (hl : Small l.length) (h : ∀ e ∈ l, SmallE e) : Ev (fun k => spec_l5Entries.f k l) (esB l) := by
 unfold spec_l5Entries.f
 refine Ev.bind (spec_BookOk_ev [] l (by decide) (fun a ha => by cases ha) hl h) (Ev.cast (Ev.now _) ?_)
 rw [asB_nil, Bool.and_true]
def freeP (c : List En) (s : ByteArray) : Prop := ∀ j, j < c.length → ¬ (eAt c (j : Int)).f0.toList = s.toList
instance (c : List En) (s : ByteArray) : Decidable (freeP c s) := inferInstanceAs (Decidable (∀ _, _ → _))
def goP (g : List ByteArray) (c : List En) (i : Nat) : Prop := freeP c (rdOf ByteArray.empty g (i : Int))
instance (g : List ByteArray) (c : List En) (i : Nat) : Decidable (goP g c i) := inferInstanceAs (Decidable (freeP _ _))
def dB (g : List ByteArray) (c : List En) (a : Bool) (l : List Af) : Bool := wsB g 24 && (esB c && (asB l && ((a || decide (l.length = 0)) && (if ∀ i, i < g.length → goP g c i then true else false))))
structure SmallD (g : List ByteArray) (c : List En) (l : List Af) : Prop where
 g1 : Small g.length
 g2 : ∀ s ∈ g, Small s.size
 c1 : Small c.length
 c2 : ∀ e ∈ c, SmallE e
 l1 : Small l.length
 l2 : ∀ a ∈ l, SmallA a
theorem idxFrom_free (s : ByteArray) : ∀ (c : List En) (m : Nat), 0 ≤ Lib.idxByFrom (fun _ y => y.f0.toList == s.toList) (default : En) c m ↔ ∃ e ∈ c, e.f0.toList = s.toList
 | [], m => by simp [Lib.idxByFrom]
 | e :: c, m => by
  unfold Lib.idxByFrom
  by_cases h : e.f0.toList = s.toList
  ·rw [if_pos (by simpa using h)]
   exact ⟨fun _ => ⟨e, List.mem_cons_self, h⟩, fun _ => by omega⟩
  ·rw [if_neg (by simpa using h), idxFrom_free s c (m + 1)]
   simp [h]
theorem idxE_free (c : List En) (s : ByteArray) : ¬ idxE c s ≥ 0 ↔ freeP c s := by
 have h := idxFrom_free s c 0
 unfold idxE Lib.idxBy freeP
 constructor
 ·intro hn j hj he
  rw [eAt_nat c j hj] at he
  exact hn (h.2 ⟨c[j], List.getElem_mem hj, he⟩)
 ·intro hf hg
  obtain ⟨e, he, hs⟩ := h.1 hg
  obtain ⟨j, hj, rfl⟩ := List.getElem_of_mem he
  exact hf j hj (by rw [eAt_nat c j hj]; exact hs)
theorem impl_DeltaOk_ev (g : List ByteArray) (c : List En) (a : Bool) (l : List Af) (h : SmallD g c l) : Ev (fun k => impl_DeltaOk.f k g c a l) (dB g c a l) := by
 have no : Ev (fun k => impl_DeltaOk.j0 k true g c a l) false := by
  apply Ev.succ
  simp only [impl_DeltaOk.j0, if_true]
  exact Ev.now _
 have yes : Ev (fun k => impl_DeltaOk.j0 k false g c a l) (if ∀ i, i < g.length → goP g c i then true else false) := by
  apply Ev.succ
  simp only [impl_DeltaOk.j0, Bool.false_eq_true, if_false]
  refine all_loop (g := fun k x => impl_DeltaOk.l0 k g (g.length : Int) x g c a l) g.length (goP g c) false true ?_ ?_ ?_
  ·intro i r hi hp hr
   have c1 : (i : Int) < (g.length : Int) := by omega
   have c2 : (0 : Int) ≤ (i : Int) := by omega
   have w1 : Aside0 (wrap64 ((i : Int) + 1) = (i : Int) + 1) := ⟨wid (by omega) (by have := h.g1; simp [Small] at this; omega)⟩
   apply Ev.succ
   simp only [impl_DeltaOk.l0, c1, c2, w1.out, impl_entryAt.f, Option.bind_some, if_true]
   exact Ev.ifn ((idxE_free _ _).2 hp) hr
  ·intro i hi hp
   have c1 : (i : Int) < (g.length : Int) := by omega
   have c2 : (0 : Int) ≤ (i : Int) := by omega
   apply Ev.succ
   simp only [impl_DeltaOk.l0, c1, c2, impl_entryAt.f, Option.bind_some, if_true]
   exact Ev.ifp (Decidable.of_not_not (fun hn => hp ((idxE_free _ _).1 hn))) (Ev.now _)
  ·apply Ev.succ
   simp only [impl_DeltaOk.l0, Int.lt_irrefl, if_false]
   exact Ev.now _
 unfold impl_DeltaOk.f dB
 refine Ev.bind (impl_wordsOk_ev g 24 h.g1 h.g2) ?_
 cases wsB g 24
 ·simp only [Bool.false_eq_true, if_false, Bool.false_and]; exact no
 simp only [if_true, Bool.true_and]
 refine Ev.bind (impl_entriesOk_ev c h.c1 h.c2) ?_
 cases esB c
 ·simp only [Bool.false_eq_true, if_false, Bool.false_and]; exact no
 simp only [if_true, Bool.true_and]
 refine Ev.bind (impl_affixesOk_ev l h.l1 h.l2) ?_
 cases asB l
 ·simp only [Bool.false_eq_true, if_false, Bool.false_and]; exact no
 simp only [if_true, Bool.true_and]
 cases a
 ·simp only [Bool.false_eq_true, if_false, Bool.false_or]
  by_cases hz : l.length = 0
  ·have hz' : ¬ (l.length : Int) > 0 := by omega
   simp only [hz, hz', decide_true, decide_false, Bool.true_and]
   exact yes
  ·have hz' : (l.length : Int) > 0 := by omega
   simp only [hz, hz', decide_true, decide_false, Bool.false_and]
   exact no
 ·simp only [if_true, Bool.true_or, Bool.true_and]
  exact yes
theorem spec_DeltaOk_ev (g : List ByteArray) (c : List En) (a : Bool) (l : List Af) (h : SmallD g c l) : Ev (fun k => spec_DeltaOk.f k g c a l) (dB g c a l) := by
 have hg := h.g1
 have hc := h.c1
 have sm : ∀ i : Nat, i < g.length → Small (rdOf ByteArray.empty g (i : Int)).size := fun i hi => by rw [sAt_nat g i hi]; exact h.g2 _ (List.getElem_mem hi)
 have no : ∀ x : Int, Ev (fun k => spec_DeltaOk.j1 k x true g c a l) false := fun x => by
  apply Ev.succ
  simp only [spec_DeltaOk.j1, if_true]
  exact Ev.now _
 have inY : ∀ (i : Nat) (r : Bool), i < g.length → goP g c i → Ev (fun k => spec_DeltaOk.l0 k ((i : Int) + 1) g c a l) r → Ev (fun k => spec_DeltaOk.j1 k (i : Int) false g c a l) r := by
  intro i r hi hp hr
  have d1 : (i : Int) < (g.length : Int) := by omega
  have d2 : (0 : Int) ≤ (i : Int) := by omega
  apply Ev.succ
  simp only [spec_DeltaOk.j1, Bool.false_eq_true, if_false]
  have key := all_loop (g := fun k x => spec_DeltaOk.l1 k (i : Int) x g c a l) c.length (fun j => ¬ (eAt c (j : Int)).f0.toList = (rdOf ByteArray.empty g (i : Int)).toList) false r ?_ ?_ ?_
  ·have hp' : ∀ j, j < c.length → ¬ (eAt c (j : Int)).f0.toList = (rdOf ByteArray.empty g (i : Int)).toList := hp
   rwa [if_pos hp'] at key
  ·intro j r hj hq hr
   have c1 : (j : Int) < (c.length : Int) := by omega
   have c2 : (0 : Int) ≤ (j : Int) := by omega
   have w1 : Aside0 (wrap64 ((j : Int) + 1) = (j : Int) + 1) := ⟨wid (by omega) (by simp [Small] at hc; omega)⟩
   apply Ev.succ
   simp only [spec_DeltaOk.l1, c1, c2, d1, d2, w1.out, if_true]
   exact Ev.ifn hq hr
  ·intro j hj hq
   have c1 : (j : Int) < (c.length : Int) := by omega
   have c2 : (0 : Int) ≤ (j : Int) := by omega
   apply Ev.succ
   simp only [spec_DeltaOk.l1, c1, c2, d1, d2, if_true]
   exact Ev.ifp (Decidable.of_not_not hq) (Ev.now _)
  ·have w1 : Aside0 (wrap64 ((i : Int) + 1) = (i : Int) + 1) := ⟨wid (by omega) (by simp [Small] at hg; omega)⟩
   apply Ev.succ
   simp only [spec_DeltaOk.l1, Int.lt_irrefl, w1.out, if_false]
   exact hr
 have inN : ∀ (i : Nat), i < g.length → ¬ goP g c i → Ev (fun k => spec_DeltaOk.j1 k (i : Int) false g c a l) false := by
  intro i hi hp
  have d1 : (i : Int) < (g.length : Int) := by omega
  have d2 : (0 : Int) ≤ (i : Int) := by omega
  obtain ⟨j, hj, he⟩ : ∃ j, j < c.length ∧ (eAt c (j : Int)).f0.toList = (rdOf ByteArray.empty g (i : Int)).toList := by
   by_cases z : ∃ j, j < c.length ∧ (eAt c (j : Int)).f0.toList = (rdOf ByteArray.empty g (i : Int)).toList
   ·exact z
   ·exact absurd (fun j hj he => z ⟨j, hj, he⟩) hp
  apply Ev.succ
  simp only [spec_DeltaOk.j1, Bool.false_eq_true, if_false]
  refine stop_loop (g := fun k x => spec_DeltaOk.l1 k (i : Int) x g c a l) c.length (fun j => ¬ (eAt c (j : Int)).f0.toList = (rdOf ByteArray.empty g (i : Int)).toList) false j hj (fun hn => hn he) ?_ ?_
  ·intro j r hj hq hr
   have c1 : (j : Int) < (c.length : Int) := by omega
   have c2 : (0 : Int) ≤ (j : Int) := by omega
   have w1 : Aside0 (wrap64 ((j : Int) + 1) = (j : Int) + 1) := ⟨wid (by omega) (by simp [Small] at hc; omega)⟩
   apply Ev.succ
   simp only [spec_DeltaOk.l1, c1, c2, d1, d2, w1.out, if_true]
   exact Ev.ifn hq hr
  ·intro j hj hq
   have c1 : (j : Int) < (c.length : Int) := by omega
   have c2 : (0 : Int) ≤ (j : Int) := by omega
   apply Ev.succ
   simp only [spec_DeltaOk.l1, c1, c2, d1, d2, if_true]
   exact Ev.ifp (Decidable.of_not_not hq) (Ev.now _)
 have key := all_loop (g := fun k x => spec_DeltaOk.l0 k x g c a l) g.length (fun i => wsP g i ∧ goP g c i) false (decide (g.length ≤ 24) && (esB c && (asB l && (a || decide (l.length = 0))))) ?_ ?_ ?_
 ·unfold spec_DeltaOk.f
  refine Ev.cast key ?_
  unfold dB wsB
  by_cases h1 : ∀ i, i < g.length → wsP g i
  ·by_cases h2 : ∀ i, i < g.length → goP g c i
   ·rw [if_pos (fun i hi => ⟨h1 i hi, h2 i hi⟩), if_pos h1, if_pos h2, Bool.and_true]
   ·rw [if_neg (fun z => h2 (fun i hi => (z i hi).2)), if_neg h2]
    simp
  ·rw [if_neg (fun z => h1 (fun i hi => (z i hi).1)), if_neg h1]
   rfl
 ·intro i r hi hp hr
  have c1 : (i : Int) < (g.length : Int) := by omega
  have c2 : (0 : Int) ≤ (i : Int) := by omega
  apply Ev.succ
  simp only [spec_DeltaOk.l0, c1, c2, if_true]
  refine Ev.bind (Ev.cast (spec_l1Word_ev _ (sm i hi)) hp.1.1) ?_
  simp only [if_true]
  by_cases c3 : (i : Int) > 0
  ·have w2 : Aside0 (wrap64 ((i : Int) - 1) = ((i - 1 : Nat) : Int)) := ⟨by rw [wid (by omega) (by simp [Small] at hg; omega)]; omega⟩
   have c4 : (0 : Int) ≤ ((i - 1 : Nat) : Int) := by omega
   have c5 : ((i - 1 : Nat) : Int) < (g.length : Int) := by omega
   have c6 : Op.bytesLess (rdOf ByteArray.empty g ((i - 1 : Nat) : Int)).toList (rdOf ByteArray.empty g (i : Int)).toList = true := hp.1.2 (by omega)
   simp only [c3, w2.out, c4, c5, c6, if_true, Bool.not_true]
   exact inY i r hi hp.2 hr
  ·simp only [c3, if_false]
   exact inY i r hi hp.2 hr
 ·intro i hi hp
  have c1 : (i : Int) < (g.length : Int) := by omega
  have c2 : (0 : Int) ≤ (i : Int) := by omega
  apply Ev.succ
  simp only [spec_DeltaOk.l0, c1, c2, if_true]
  refine Ev.bind (spec_l1Word_ev _ (sm i hi)) ?_
  cases hu : wordB (rdOf ByteArray.empty g (i : Int))
  ·simp only [Bool.false_eq_true, if_false]
   exact no _
  ·simp only [if_true]
   by_cases c3 : (i : Int) > 0
   ·have w2 : Aside0 (wrap64 ((i : Int) - 1) = ((i - 1 : Nat) : Int)) := ⟨by rw [wid (by omega) (by simp [Small] at hg; omega)]; omega⟩
    have c4 : (0 : Int) ≤ ((i - 1 : Nat) : Int) := by omega
    have c5 : ((i - 1 : Nat) : Int) < (g.length : Int) := by omega
    simp only [c3, w2.out, c4, c5, if_true]
    cases c6 : Op.bytesLess (rdOf ByteArray.empty g ((i - 1 : Nat) : Int)).toList (rdOf ByteArray.empty g (i : Int)).toList
    ·simp only [Bool.not_false]
     exact no _
    ·simp only [Bool.not_true]
     exact inN i hi (fun hq => hp ⟨⟨hu, fun _ => c6⟩, hq⟩)
   ·simp only [c3, if_false]
    exact inN i hi (fun hq => hp ⟨⟨hu, fun h => absurd h (by omega)⟩, hq⟩)
 ·apply Ev.succ
  simp only [spec_DeltaOk.l0, Int.lt_irrefl, if_false]
  by_cases c1 : (g.length : Int) ≤ 24
  ·have c2 : g.length ≤ 24 := by omega
   simp only [c1, if_true, c2, decide_true, Bool.true_and]
   refine Ev.bind (spec_l5Entries_ev c h.c1 h.c2) ?_
   cases esB c
   ·simp only [Bool.false_eq_true, if_false, Bool.false_and]; exact Ev.now _
   simp only [if_true, Bool.true_and]
   refine Ev.bind (spec_l2Affixes_ev l h.l1 h.l2) ?_
   cases asB l
   ·simp only [Bool.false_eq_true, if_false, Bool.false_and]; exact Ev.now _
   simp only [if_true, Bool.true_and]
   cases a
   ·simp only [Bool.false_eq_true, if_false, Bool.false_or]
    refine Ev.cast (Ev.now _) ?_
    have : ((l.length : Int) == 0) = decide (l.length = 0) := by
     by_cases z : l.length = 0 <;> simp [z]
    exact this
   ·simp only [if_true, Bool.true_or]
    exact Ev.now _
  ·have c2 : ¬ g.length ≤ 24 := by omega
   simp only [c1, if_false, c2, decide_false, Bool.false_and]
   exact Ev.now _
end Go.Proofs.YtaakfmpffhfaeaaGreatDoor.M
end

section
/- Bytes as lists, and a text cut at each of a byte: lists alone. -/
namespace Go.Proofs.YtaakfmpffhfaeaaGreatDoor.M
open Go.RowKit Go.Proofs.YtaakfmpffhfaeaaGreatDoorW.PrintWords Go.Proofs.YtaakfmpffhfaeaaGreatDoor.Pu
set_option linter.unusedVariables false
set_option linter.unusedSimpArgs false
abbrev By := List UInt8
abbrev L (s : ByteArray) : By := s.data.toList
abbrev mk (l : By) : ByteArray := ⟨l.toArray⟩
theorem mk_L (s : ByteArray) : mk (L s) = s := Lib.mk_data s
theorem L_mk (l : By) : L (mk l) = l := rfl
theorem toList_L (s : ByteArray) : s.toList = L s := ByteArray.toList_eq s
theorem L_inj {a b : ByteArray} : L a = L b ↔ a = b := by rw [← toList_L, ← toList_L, toList_inj]
theorem size_L (s : ByteArray) : s.size = (L s).length := Lib.size_eq s
theorem L_append (a b : ByteArray) : L (a ++ b) = L a ++ L b := by simp [L, ByteArray.data_append]
theorem bt_L (s : ByteArray) (i : Nat) (h : i < (L s).length) : bt s (i : Int) = (((L s)[i]).toNat : Int) := by
 rw [bt_nat, dif_pos (by rw [size_L]; exact h)]
 rfl
def pre (p : By) : List By → List By
 | [] => [p]
 | q :: qs => (p ++ q) :: qs
def cut (c : UInt8) : By → List By
 | [] => [[]]
 | b :: l => if b = c then [] :: cut c l else pre [b] (cut c l)
end Go.Proofs.YtaakfmpffhfaeaaGreatDoor.M
end

section
/- How much the arguments hold, and what they are turned into, plain. -/
namespace Go.Proofs.YtaakfmpffhfaeaaGreatDoor.M
open Go.RowKit Go.Proofs.YtaakfmpffhfaeaaGreatDoorW.PrintWords Go.Proofs.YtaakfmpffhfaeaaGreatDoor.Pu
set_option linter.unusedVariables false
set_option linter.unusedSimpArgs false
abbrev LE := S108
abbrev LA := S106
abbrev Sz (n : Nat) : Prop := n ≤ 1048576
theorem sz_loop {α : Type} {g : Nat → Int → Int → Option Int} (l : List α) (Q : α → Prop)
  (step : ∀ (i : Nat) (hi : i < l.length) (a : Int), 0 ≤ a → a ≤ 1048576 → (Ev (fun k => g k a (i : Int)) (-1)) ∨ ∃ t : Int, 0 ≤ t ∧ t ≤ a ∧ Q l[i] ∧ ∀ r, Ev (fun k => g k t ((i : Int) + 1)) r → Ev (fun k => g k a (i : Int)) r)
  (done : ∀ a : Int, Ev (fun k => g k a (l.length : Int)) a) (d : Nat) : ∀ (i : Nat) (a : Int), l.length - i = d → i ≤ l.length → 0 ≤ a → a ≤ 1048576 →
  ∃ r : Int, Ev (fun k => g k a (i : Int)) r ∧ (r = -1 ∨ (0 ≤ r ∧ r ≤ a ∧ ∀ j (hj : j < l.length), i ≤ j → Q l[j])) := by
 induction d with
 | zero =>
  intro i a hd hi h0 h1
  obtain rfl : i = l.length := by omega
  exact ⟨a, done a, .inr ⟨h0, Int.le_refl _, fun j h1 h2 => absurd h1 (by omega)⟩⟩
 | succ d ih =>
  intro i a hd hi h0 h1
  rcases step i (by omega) a h0 h1 with h | ⟨t, t0, t1, hq, h⟩
  ·exact ⟨-1, h, .inl rfl⟩
  ·obtain ⟨r, hr, hc⟩ := ih (i + 1) t (by omega) (by omega) t0 (by omega)
   refine ⟨r, h r (by exact_mod_cast hr), hc.imp id fun ⟨r0, r1, hz⟩ => ⟨r0, by omega, fun j hj hij => ?_⟩⟩
   rcases Nat.eq_or_lt_of_le hij with rfl | c
   ·exact hq
   ·exact hz j hj c
theorem szS_ev (l : List ByteArray) (hl : l.length ≤ 9223372036854775807) (hg : ∀ y ∈ l, y.size ≤ 9223372036854775807) (a : Int) (h0 : 0 ≤ a) (h1 : a ≤ 1048576) :
  ∃ r : Int, Ev (fun k => laws_szStringS.f k l a) r ∧ (r = -1 ∨ (0 ≤ r ∧ r ≤ a ∧ Sz l.length ∧ ∀ y ∈ l, Sz y.size)) := by
 unfold laws_szStringS.f
 have w0 : wrap64 (a - (l.length : Int)) = a - (l.length : Int) := wid (by omega) (by omega)
 rw [w0]
 by_cases c : a - (l.length : Int) < 0
 ·exact ⟨-1, Ev.ifp c (Ev.now _), .inl rfl⟩
 have key := sz_loop (g := fun k x y => laws_szStringS.l0 k l x y) l (fun y => Sz y.size) ?_ ?_ l.length 0 (a - (l.length : Int)) (by omega) (by omega) (by omega) (by omega)
 ·obtain ⟨r, hr, hc⟩ := key
  refine ⟨r, Ev.ifn c hr, hc.imp id fun ⟨r0, r1, hz⟩ => ⟨r0, by omega, by simp only [Sz]; omega, fun y hy => ?_⟩⟩
  obtain ⟨j, hj, rfl⟩ := List.mem_iff_getElem.1 hy
  exact hz j hj (Nat.zero_le _)
 ·intro i hi b b0 b1
  have e : rdOf ByteArray.empty l (i : Int) = l[i] := by simp [rdOf, hi]
  have hy := hg _ (List.getElem_mem hi)
  have c1 : (i : Int) < (l.length : Int) := by omega
  have c2 : (0 : Int) ≤ (i : Int) := by omega
  have w1 : wrap64 ((i : Int) + 1) = (i : Int) + 1 := wid (by omega) (by omega)
  have w2 : wrap64 (b - (l[i].size : Int)) = b - (l[i].size : Int) := wid (by omega) (by omega)
  by_cases c3 : b - (l[i].size : Int) < 0
  ·refine .inl (Ev.succ ?_)
   simp only [laws_szStringS.l0, e, w2, c1, c2, c3, if_true]
   exact Ev.now _
  ·refine .inr ⟨b - (l[i].size : Int), by omega, by omega, by simp only [Sz]; omega, fun r hr => Ev.succ ?_⟩
   simp only [laws_szStringS.l0, e, w1, w2, c1, c2, c3, if_true, if_false]
   exact hr
 ·intro b
  apply Ev.succ
  simp only [laws_szStringS.l0, Int.lt_irrefl, if_false]
  exact Ev.now _
theorem szE_ev (l : List LE) (hl : l.length ≤ 9223372036854775807) (hg : ∀ y ∈ l, y.f0.size ≤ 9223372036854775807 ∧ y.f1.size ≤ 9223372036854775807) (a : Int) (h0 : 0 ≤ a) (h1 : a ≤ 1048576) :
  ∃ r : Int, Ev (fun k => laws_szEntryS.f k l a) r ∧ (r = -1 ∨ (0 ≤ r ∧ r ≤ a ∧ Sz l.length ∧ ∀ y ∈ l, Sz y.f0.size ∧ Sz y.f1.size)) := by
 unfold laws_szEntryS.f
 have w0 : wrap64 (a - (l.length : Int)) = a - (l.length : Int) := wid (by omega) (by omega)
 rw [w0]
 by_cases c : a - (l.length : Int) < 0
 ·exact ⟨-1, Ev.ifp c (Ev.now _), .inl rfl⟩
 have key := sz_loop (g := fun k x y => laws_szEntryS.l0 k l x y) l (fun y => Sz y.f0.size ∧ Sz y.f1.size) ?_ ?_ l.length 0 (a - (l.length : Int)) (by omega) (by omega) (by omega) (by omega)
 ·obtain ⟨r, hr, hc⟩ := key
  refine ⟨r, Ev.ifn c hr, hc.imp id fun ⟨r0, r1, hz⟩ => ⟨r0, by omega, by simp only [Sz]; omega, fun y hy => ?_⟩⟩
  obtain ⟨j, hj, rfl⟩ := List.mem_iff_getElem.1 hy
  exact hz j hj (Nat.zero_le _)
 ·intro i hi b b0 b1
  have e : rd_T108 l (i : Int) = l[i] := by simp [rd_T108, hi]
  have hy := hg _ (List.getElem_mem hi)
  have c1 : (i : Int) < (l.length : Int) := by omega
  have c2 : (0 : Int) ≤ (i : Int) := by omega
  have w1 : wrap64 ((i : Int) + 1) = (i : Int) + 1 := wid (by omega) (by omega)
  have w2 : wrap64 (b - (l[i].f0.size : Int)) = b - (l[i].f0.size : Int) := wid (by omega) (by omega)
  by_cases c3 : b - (l[i].f0.size : Int) < 0
  ·refine .inl (Ev.succ ?_)
   simp only [laws_szEntryS.l0, laws_szEntry.f, e, w2, c1, c2, c3, if_true, Option.bind_some, show ((-1 : Int) < 0) from by decide]
   exact Ev.now _
  have w3 : wrap64 (b - (l[i].f0.size : Int) - (l[i].f1.size : Int)) = b - (l[i].f0.size : Int) - (l[i].f1.size : Int) := wid (by omega) (by omega)
  by_cases c4 : b - (l[i].f0.size : Int) - (l[i].f1.size : Int) < 0
  ·refine .inl (Ev.succ ?_)
   simp only [laws_szEntryS.l0, laws_szEntry.f, e, w2, w3, c1, c2, c3, c4, if_true, if_false, Option.bind_some, show ((-1 : Int) < 0) from by decide]
   exact Ev.now _
  ·refine .inr ⟨b - (l[i].f0.size : Int) - (l[i].f1.size : Int), by omega, by omega, ⟨by simp only [Sz]; omega, by simp only [Sz]; omega⟩, fun r hr => Ev.succ ?_⟩
   simp only [laws_szEntryS.l0, laws_szEntry.f, e, w1, w2, w3, c1, c2, c3, c4, if_true, if_false, Option.bind_some]
   exact hr
 ·intro b
  apply Ev.succ
  simp only [laws_szEntryS.l0, Int.lt_irrefl, if_false]
  exact Ev.now _
theorem szA_one (y : LA) (hy : y.f0.size ≤ 9223372036854775807 ∧ y.f2.size ≤ 9223372036854775807 ∧ y.f3.size ≤ 9223372036854775807 ∧ y.f4.size ≤ 9223372036854775807) (b : Int) (b0 : 0 ≤ b) (b1 : b ≤ 1048576) :
  laws_szAffix.f y.f0 y.f1 y.f2 y.f3 y.f4 b = some (-1) ∨ ∃ t : Int, laws_szAffix.f y.f0 y.f1 y.f2 y.f3 y.f4 b = some t ∧ 0 ≤ t ∧ t ≤ b ∧ Sz y.f0.size ∧ Sz y.f2.size ∧ Sz y.f3.size ∧ Sz y.f4.size := by
 unfold laws_szAffix.f
 obtain ⟨h1, h2, h3, h4⟩ := hy
 have w1 : wrap64 (b - (y.f0.size : Int)) = b - (y.f0.size : Int) := wid (by omega) (by omega)
 rw [w1]
 by_cases c1 : b - (y.f0.size : Int) < 0
 ·exact .inl (if_pos c1)
 have w2 : wrap64 (b - (y.f0.size : Int) - (y.f2.size : Int)) = b - (y.f0.size : Int) - (y.f2.size : Int) := wid (by omega) (by omega)
 rw [if_neg c1, w2]
 by_cases c2 : b - (y.f0.size : Int) - (y.f2.size : Int) < 0
 ·exact .inl (if_pos c2)
 have w3 : wrap64 (b - (y.f0.size : Int) - (y.f2.size : Int) - (y.f3.size : Int)) = b - (y.f0.size : Int) - (y.f2.size : Int) - (y.f3.size : Int) := wid (by omega) (by omega)
 rw [if_neg c2, w3]
 by_cases c3 : b - (y.f0.size : Int) - (y.f2.size : Int) - (y.f3.size : Int) < 0
 ·exact .inl (if_pos c3)
 have w4 : wrap64 (b - (y.f0.size : Int) - (y.f2.size : Int) - (y.f3.size : Int) - (y.f4.size : Int)) = b - (y.f0.size : Int) - (y.f2.size : Int) - (y.f3.size : Int) - (y.f4.size : Int) := wid (by omega) (by omega)
 rw [if_neg c3, w4]
 by_cases c4 : b - (y.f0.size : Int) - (y.f2.size : Int) - (y.f3.size : Int) - (y.f4.size : Int) < 0
 ·exact .inl (if_pos c4)
 ·exact .inr ⟨_, if_neg c4, by omega, by omega, by simp only [Sz]; omega, by simp only [Sz]; omega, by simp only [Sz]; omega, by simp only [Sz]; omega⟩
theorem szA_ev (l : List LA) (hl : l.length ≤ 9223372036854775807) (hg : ∀ y ∈ l, y.f0.size ≤ 9223372036854775807 ∧ y.f2.size ≤ 9223372036854775807 ∧ y.f3.size ≤ 9223372036854775807 ∧ y.f4.size ≤ 9223372036854775807) (a : Int) (h0 : 0 ≤ a) (h1 : a ≤ 1048576) :
  ∃ r : Int, Ev (fun k => laws_szAffixS.f k l a) r ∧ (r = -1 ∨ (0 ≤ r ∧ r ≤ a ∧ Sz l.length ∧ ∀ y ∈ l, Sz y.f0.size ∧ Sz y.f2.size ∧ Sz y.f3.size ∧ Sz y.f4.size)) := by
 unfold laws_szAffixS.f
 have w0 : wrap64 (a - (l.length : Int)) = a - (l.length : Int) := wid (by omega) (by omega)
 rw [w0]
 by_cases c : a - (l.length : Int) < 0
 ·exact ⟨-1, Ev.ifp c (Ev.now _), .inl rfl⟩
 have key := sz_loop (g := fun k x y => laws_szAffixS.l0 k l x y) l (fun y => Sz y.f0.size ∧ Sz y.f2.size ∧ Sz y.f3.size ∧ Sz y.f4.size) ?_ ?_ l.length 0 (a - (l.length : Int)) (by omega) (by omega) (by omega) (by omega)
 ·obtain ⟨r, hr, hc⟩ := key
  refine ⟨r, Ev.ifn c hr, hc.imp id fun ⟨r0, r1, hz⟩ => ⟨r0, by omega, by simp only [Sz]; omega, fun y hy => ?_⟩⟩
  obtain ⟨j, hj, rfl⟩ := List.mem_iff_getElem.1 hy
  exact hz j hj (Nat.zero_le _)
 ·intro i hi b b0 b1
  have e : rd_T106 l (i : Int) = l[i] := by simp [rd_T106, hi]
  have hy := hg _ (List.getElem_mem hi)
  have c1 : (i : Int) < (l.length : Int) := by omega
  have c2 : (0 : Int) ≤ (i : Int) := by omega
  have w1 : wrap64 ((i : Int) + 1) = (i : Int) + 1 := wid (by omega) (by omega)
  rcases szA_one l[i] hy b b0 b1 with h | ⟨t, h, t0, t1, hq⟩
  ·refine .inl (Ev.succ ?_)
   simp only [laws_szAffixS.l0, e, h, c1, c2, if_true, Option.bind_some, show ((-1 : Int) < 0) from by decide]
   exact Ev.now _
  ·have c3 : ¬ t < 0 := by omega
   refine .inr ⟨t, t0, t1, hq, fun r hr => Ev.succ ?_⟩
   simp only [laws_szAffixS.l0, e, h, w1, c1, c2, c3, if_true, if_false, Option.bind_some]
   exact hr
 ·intro b
  apply Ev.succ
  simp only [laws_szAffixS.l0, Int.lt_irrefl, if_false]
  exact Ev.now _
structure SzD (g : List ByteArray) (c : List LE) (l : List LA) : Prop where
 g1 : Sz g.length
 g2 : ∀ y ∈ g, Sz y.size
 c1 : Sz c.length
 c2 : ∀ y ∈ c, Sz y.f0.size ∧ Sz y.f1.size
 l1 : Sz l.length
 l2 : ∀ y ∈ l, Sz y.f0.size ∧ Sz y.f2.size ∧ Sz y.f3.size ∧ Sz y.f4.size
theorem szD_ev (g : List ByteArray) (c : List LE) (b : Bool) (l : List LA) (hg : g.length ≤ 9223372036854775807) (hg2 : ∀ y ∈ g, y.size ≤ 9223372036854775807)
  (hc : c.length ≤ 9223372036854775807) (hc2 : ∀ y ∈ c, y.f0.size ≤ 9223372036854775807 ∧ y.f1.size ≤ 9223372036854775807)
  (hl : l.length ≤ 9223372036854775807) (hl2 : ∀ y ∈ l, y.f0.size ≤ 9223372036854775807 ∧ y.f2.size ≤ 9223372036854775807 ∧ y.f3.size ≤ 9223372036854775807 ∧ y.f4.size ≤ 9223372036854775807)
  (a : Int) (h0 : 0 ≤ a) (h1 : a ≤ 1048576) : ∃ r : Int, Ev (fun k => laws_szDelta.f k g c b l a) r ∧ (r = -1 ∨ (0 ≤ r ∧ r ≤ a ∧ SzD g c l)) := by
 unfold laws_szDelta.f
 obtain ⟨r, e, h⟩ := szS_ev g hg hg2 a h0 h1
 by_cases z : r < 0
 ·exact ⟨-1, Ev.bind e (Ev.ifp z (Ev.now _)), .inl rfl⟩
 obtain ⟨r0, r1, p1, p2⟩ := h.resolve_left (by omega)
 obtain ⟨s, e2, h2⟩ := szE_ev c hc hc2 r r0 (by omega)
 by_cases z2 : s < 0
 ·exact ⟨-1, Ev.bind e (Ev.ifn z (Ev.bind e2 (Ev.ifp z2 (Ev.now _)))), .inl rfl⟩
 obtain ⟨s0, s1, p3, p4⟩ := h2.resolve_left (by omega)
 obtain ⟨t, e3, h3⟩ := szA_ev l hl hl2 s s0 (by omega)
 by_cases z3 : t < 0
 ·exact ⟨-1, Ev.bind e (Ev.ifn z (Ev.bind e2 (Ev.ifn z2 (Ev.bind e3 (Ev.ifp z3 (Ev.now _)))))), .inl rfl⟩
 obtain ⟨t0, t1, p5, p6⟩ := h3.resolve_left (by omega)
 exact ⟨t, Ev.bind e (Ev.ifn z (Ev.bind e2 (Ev.ifn z2 (Ev.bind e3 (Ev.ifn z3 (Ev.now _)))))), .inr ⟨t0, by omega, p1, p2, p3, p4, p5, p6⟩⟩
def cE (y : LE) : En := ⟨y.f0, y.f1⟩
def cA (y : LA) : Af := ⟨y.f0, y.f1, y.f2, y.f3, y.f4⟩
theorem take_set {α : Type} (ys xs : List α) (h : xs.length = ys.length) (i : Nat) (hi : i < ys.length) : (ys.take i ++ xs.drop i).set i ys[i] = ys.take (i + 1) ++ xs.drop (i + 1) := by
 have hl : (ys.take i).length = i := by simp; omega
 rw [List.set_append_right _ _ (by omega), hl, Nat.sub_self, List.drop_eq_getElem_cons (by omega), List.set_cons_zero, List.take_succ_eq_append_getElem hi, List.append_assoc]
 rfl
theorem take_len {α : Type} (ys xs : List α) (h : xs.length = ys.length) (i : Nat) (hi : i ≤ ys.length) : (ys.take i ++ xs.drop i).length = ys.length := by
 simp
 omega
theorem to_loop {α β : Type} {g : Nat → List β → Int → Option (List β)} (ys : List β)
  (step : ∀ (i : Nat) (hi : i < ys.length) (zs : List β) (r : List β), zs.length = ys.length → Ev (fun k => g k (zs.set i ys[i]) ((i : Int) + 1)) r → Ev (fun k => g k zs (i : Int)) r)
  (done : ∀ zs : List β, Ev (fun k => g k zs (ys.length : Int)) zs) (d : Nat) : ∀ (i : Nat) (xs : List β), xs.length = ys.length → ys.length - i = d → i ≤ ys.length → Ev (fun k => g k (ys.take i ++ xs.drop i) (i : Int)) ys := by
 induction d with
 | zero =>
  intro i xs hx hd hi
  obtain rfl : i = ys.length := by omega
  exact Ev.cast (done _) (by simp [hx])
 | succ d ih =>
  intro i xs hx hd hi
  refine step i (by omega) _ _ (take_len ys xs hx i hi) ?_
  rw [take_set ys xs hx i (by omega)]
  have h := ih (i + 1) xs hx (by omega) (by omega)
  exact_mod_cast h
theorem toS_ev (l : List ByteArray) (h : Sz l.length) : Ev (fun k => laws_toStringS.f k l) l := by
 unfold laws_toStringS.f
 simp only [Sz] at h
 refine Ev.ifp (by omega) (Ev.ifp (by omega) ?_)
 have hr : (List.replicate ((l.length : Int)).toNat (⟨#[]⟩ : ByteArray)).length = l.length := by simp
 have key := to_loop (α := Nat) (g := fun k zs x => laws_toStringS.l0 k l zs x) l ?_ ?_ l.length 0 _ hr (by omega) (by omega)
 ·exact key
 ·intro i hi zs r hz hr
  have e : rdOf ByteArray.empty l (i : Int) = l[i] := by simp [rdOf, hi]
  have c1 : (i : Int) < (l.length : Int) := by omega
  have c2 : (0 : Int) ≤ (i : Int) := by omega
  have c3 : (i : Int) < (zs.length : Int) := by omega
  have w1 : wrap64 ((i : Int) + 1) = (i : Int) + 1 := wid (by omega) (by omega)
  apply Ev.succ
  simp only [laws_toStringS.l0, e, w1, c1, c2, c3, if_true, Int.toNat_natCast]
  exact hr
 ·intro zs
  apply Ev.succ
  simp only [laws_toStringS.l0, Int.lt_irrefl, if_false]
  exact Ev.now _
theorem toE_ev (l : List LE) (h : Sz l.length) : Ev (fun k => laws_toEntryS.f k l) (l.map cE) := by
 unfold laws_toEntryS.f
 simp only [Sz] at h
 refine Ev.ifp (by omega) (Ev.ifp (by omega) ?_)
 have hr : (List.replicate ((l.length : Int)).toNat z100).length = (l.map cE).length := by simp
 have key := to_loop (α := Nat) (g := fun k zs x => laws_toEntryS.l0 k l zs x) (l.map cE) ?_ ?_ (l.map cE).length 0 _ hr (by omega) (by omega)
 ·exact key
 ·intro i hi zs r hz hr
  have hi' : i < l.length := by simpa using hi
  have e : rd_T108 l (i : Int) = l[i] := by simp [rd_T108, hi']
  rw [List.length_map] at hz
  have c1 : (i : Int) < (l.length : Int) := by omega
  have c2 : (0 : Int) ≤ (i : Int) := by omega
  have c3 : (i : Int) < (zs.length : Int) := by omega
  have w1 : wrap64 ((i : Int) + 1) = (i : Int) + 1 := wid (by omega) (by omega)
  apply Ev.succ
  simp only [laws_toEntryS.l0, laws_toEntry.f, e, w1, c1, c2, c3, if_true, Int.toNat_natCast, Option.bind_some]
  simpa [cE] using hr
 ·intro zs
  apply Ev.succ
  simp only [laws_toEntryS.l0, List.length_map, Int.lt_irrefl, if_false]
  exact Ev.now _
theorem toA_ev (l : List LA) (h : Sz l.length) : Ev (fun k => laws_toAffixS.f k l) (l.map cA) := by
 unfold laws_toAffixS.f
 simp only [Sz] at h
 refine Ev.ifp (by omega) (Ev.ifp (by omega) ?_)
 have hr : (List.replicate ((l.length : Int)).toNat z103).length = (l.map cA).length := by simp
 have key := to_loop (α := Nat) (g := fun k zs x => laws_toAffixS.l0 k l zs x) (l.map cA) ?_ ?_ (l.map cA).length 0 _ hr (by omega) (by omega)
 ·exact key
 ·intro i hi zs r hz hr
  have hi' : i < l.length := by simpa using hi
  have e : rd_T106 l (i : Int) = l[i] := by simp [rd_T106, hi']
  rw [List.length_map] at hz
  have c1 : (i : Int) < (l.length : Int) := by omega
  have c2 : (0 : Int) ≤ (i : Int) := by omega
  have c3 : (i : Int) < (zs.length : Int) := by omega
  have w1 : wrap64 ((i : Int) + 1) = (i : Int) + 1 := wid (by omega) (by omega)
  apply Ev.succ
  simp only [laws_toAffixS.l0, laws_toAffix.f, e, w1, c1, c2, c3, if_true, Int.toNat_natCast, Option.bind_some]
  simpa [cA] using hr
 ·intro zs
  apply Ev.succ
  simp only [laws_toAffixS.l0, List.length_map, Int.lt_irrefl, if_false]
  exact Ev.now _
theorem toD_ev (g : List ByteArray) (c : List LE) (b : Bool) (l : List LA) (h : SzD g c l) : Ev (fun k => laws_toDelta.f k g c b l) (g, c.map cE, b, l.map cA) := by
 unfold laws_toDelta.f
 exact Ev.bind (toS_ev g h.g1) (Ev.bind (toE_ev c h.c1) (Ev.bind (toA_ev l h.l1) (Ev.now _)))
end Go.Proofs.YtaakfmpffhfaeaaGreatDoor.M
end
