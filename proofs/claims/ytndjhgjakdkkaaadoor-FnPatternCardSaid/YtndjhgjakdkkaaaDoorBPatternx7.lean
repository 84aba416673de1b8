import Derived.Test.YtndjhgjakdkkaaaDoorBPatternx4
import Derived.Test.YtndjhgjakdkkaaaDoorBPatternx5
import Derived.Test.YtndjhgjakdkkaaaDoorBPatternx3
import Derived.Lib.Itoa
import Derived.Test.YtndjhgjakdkkaaaDoorBPatternx6
import Derived.Below
import Derived.Carry
import Derived.ChangeOld
import Derived.Lib.LaidTab
import Derived.ChangeShapes
import Derived.Test.YtndjhgjakdkkaaaDoorRows
import Derived.Test.YtndjhgjakdkkaaaDoorCards
import Derived.Test.YtndjhgjakdkkaaaDoorTie
import Derived.WalkKit
import Derived.ProofKit
import Derived.OpenShut
import Derived.ShutString
import Derived.SizedLaws
import Derived.Deep.DeepHandedRow

section
/- PatternPut and PatternGet, plain: the program's are the reference's; what is marked is held. -/
namespace Go.Proofs.YtndjhgjakdkkaaaDoor.M
open Go.RowKit Go.Proofs.YtndjhgjakdkkaaaDoorW.PrintWords Go.Proofs.YtndjhgjakdkkaaaDoor.Pu
set_option linter.unusedVariables false
set_option linter.unusedSimpArgs false
def figB (n : Int) : ByteArray := strOfNums [(48 + n) % 256]
theorem figB_size (n : Int) : (figB n).size = 1 := rfl
theorem l1Dec_fig (n : Int) (h0 : 0 < n) (h1 : n ≤ 9) : Ev (fun k => spec_l1Dec.f k n) (figB n) := by
  have c1 : ¬ n < -9223372036854775807 := by omega
  have c2 : ¬ n < 0 := by omega
  have c3 : n < 10 := by omega
  have w1 : Aside0 (wrap64 (48 + n) = 48 + n) := ⟨wid (by omega) (by omega)⟩
  apply Ev.succ
  simp only [spec_l1Dec.f, c1, c2, c3, w1.out, if_true, if_false]
  exact Ev.now _
theorem itoa_fig (n : Int) (h0 : 0 < n) (h1 : n ≤ 9) : strconv_Itoa.f n = some (figB n) := by
  have e : n = 1 ∨ n = 2 ∨ n = 3 ∨ n = 4 ∨ n = 5 ∨ n = 6 ∨ n = 7 ∨ n = 8 ∨ n = 9 := by omega
  rcases e with rfl | rfl | rfl | rfl | rfl | rfl | rfl | rfl | rfl <;> decide +kernel
def putP (s : ByteArray) (ns : List Int) : Nat → ByteArray
  | 0 => (⟨#[]⟩ : ByteArray)
  | i + 1 => putP s ns i ++ (if rd ns (i : Int) > 0 then figB (rd ns (i : Int)) else ByteArray.empty) ++ (if i < s.size then s.extract i (i + 1) else ByteArray.empty)
theorem putP_size (s : ByteArray) (ns : List Int) : ∀ i, (putP s ns i).size ≤ 2 * i
  | 0 => Nat.le_refl _
  | i + 1 => by
    have ih := putP_size s ns i
    have h1 : (if rd ns (i : Int) > 0 then figB (rd ns (i : Int)) else ByteArray.empty).size ≤ 1 := by
      split
      · rw [figB_size]; omega
      · exact Nat.zero_le _
    have h2 : (if i < s.size then s.extract i (i + 1) else ByteArray.empty).size ≤ 1 := by
      split
      · rw [ByteArray.size_extract]; omega
      · exact Nat.zero_le _
    unfold putP
    rw [ByteArray.size_append, ByteArray.size_append]
    omega
theorem figs_of {s : ByteArray} {ns : List Int} (h : patOk s ns = true) : s.size ≤ 8 ∧ ns.length = s.size + 1 ∧ ∀ i, i < ns.length → 0 ≤ rd ns (i : Int) ∧ rd ns (i : Int) ≤ 9 := by
  unfold patOk at h
  simp only [Bool.and_eq_true, decide_eq_true_eq] at h
  exact ⟨h.2.2.1.2, h.2.2.2, fun i hi => h.2.1 i hi⟩
theorem spec_l9Put_ev (s : ByteArray) (ns : List Int) (h : patOk s ns = true) : Ev (fun k => spec_l9Put.f k s ns) (putP s ns ns.length) := by
  obtain ⟨h8, hl, hf⟩ := figs_of h
  unfold spec_l9Put.f
  refine fold_loop (g := fun k b x => spec_l9Put.l0 k b x s ns) ns.length (putP s ns) _ ?_ ?_
  · intro i hi hr
    have hz := putP_size s ns i
    obtain ⟨f0, f1⟩ := hf i hi
    have c1 : (i : Int) < (ns.length : Int) := by omega
    have c2 : (0 : Int) ≤ (i : Int) := by omega
    have w1 : Aside0 (wrap64 ((i : Int) + 1) = (i : Int) + 1) := ⟨wid (by omega) (by omega)⟩
    have c3 : (i : Int) ≤ (i : Int) + 1 := by omega
    have e0 : (i : Int).toNat = i := by omega
    have e1 : ((i : Int) + 1).toNat = i + 1 := by omega
    apply Ev.succ
    by_cases p : rd ns (i : Int) > 0
    · have c4 : (putP s ns i).size + (figB (rd ns (i : Int))).size ≤ 9223372036854775807 := by rw [figB_size]; omega
      by_cases q : i < s.size
      · have c5 : (i : Int) < (s.size : Int) := by omega
        have c6 : (i : Int) + 1 ≤ (s.size : Int) := by omega
        have c7 : (putP s ns i ++ figB (rd ns (i : Int))).size + (s.extract i (i + 1)).size ≤ 9223372036854775807 := by rw [ByteArray.size_append, figB_size, ByteArray.size_extract]; omega
        simp only [spec_l9Put.l0, c1, c2, p, if_true]
        refine Ev.bind (l1Dec_fig _ p f1) ?_
        simp only [c4, c5, c3, w1.out, c6, e0, e1, c7, if_true]
        simp only [putP, p, q, if_true] at hr
        exact hr
      · have c5 : ¬ (i : Int) < (s.size : Int) := by omega
        simp only [spec_l9Put.l0, c1, c2, p, if_true]
        refine Ev.bind (l1Dec_fig _ p f1) ?_
        simp only [c4, c5, w1.out, if_true, if_false]
        simp only [putP, p, q, if_true, if_false, ByteArray.append_empty] at hr
        exact hr
    · by_cases q : i < s.size
      · have c5 : (i : Int) < (s.size : Int) := by omega
        have c6 : (i : Int) + 1 ≤ (s.size : Int) := by omega
        have c7 : (putP s ns i).size + (s.extract i (i + 1)).size ≤ 9223372036854775807 := by rw [ByteArray.size_extract]; omega
        simp only [spec_l9Put.l0, c1, c2, p, c5, c3, w1.out, c6, e0, e1, c7, if_true, if_false]
        simp only [putP, p, q, if_true, if_false, ByteArray.append_empty] at hr
        exact hr
      · have c5 : ¬ (i : Int) < (s.size : Int) := by omega
        simp only [spec_l9Put.l0, c1, c2, p, c5, w1.out, if_true, if_false]
        simp only [putP, p, q, if_false, ByteArray.append_empty] at hr
        exact hr
  · apply Ev.succ
    simp only [spec_l9Put.l0, Int.lt_irrefl, if_false]
    exact Ev.now _
def patText (s : ByteArray) (ns : List Int) : ByteArray := if patOk s ns = true then putP s ns ns.length else (⟨#[]⟩ : ByteArray)
theorem spec_PatternPut_ev (s : ByteArray) (ns : List Int) (hs : s.size ≤ 9223372036854775800) (hn : ns.length ≤ 9223372036854775800) : Ev (fun k => spec_PatternPut.f k s ns) (patText s ns) := by
  unfold spec_PatternPut.f
  refine Ev.bind (spec_PatternOk_ev s ns hs hn) ?_
  cases hp : patOk s ns with
  | false =>
    simp only [Bool.false_eq_true, if_false]
    refine Ev.cast (Ev.now _) ?_
    simp [patText, hp]
  | true =>
    simp only [if_true]
    refine Ev.bind (spec_l9Put_ev s ns hp) (Ev.cast (Ev.now _) ?_)
    simp [patText, hp]
theorem impl_PatternPut_ev (s : ByteArray) (ns : List Int) (hs : s.size ≤ 9223372036854775800) (hn : ns.length ≤ 9223372036854775800) : Ev (fun k => impl_PatternPut.f k s ns) (patText s ns) := by
  unfold impl_PatternPut.f
  refine Ev.bind (impl_PatternOk_ev s ns hs hn) ?_
  cases hp : patOk s ns with
  | false =>
    simp only [Bool.false_eq_true, if_false]
    refine Ev.cast (Ev.now _) ?_
    simp [patText, hp]
  | true =>
    obtain ⟨h8, hl, hf⟩ := figs_of hp
    simp only [if_true]
    have e : patText s ns = putP s ns ns.length := by simp [patText, hp]
    rw [e]
    refine fold_loop (g := fun k b x => impl_PatternPut.l0 k b ns (ns.length : Int) x s ns) ns.length (putP s ns) _ ?_ ?_
    · intro i hi hr
      have hz := putP_size s ns i
      obtain ⟨f0, f1⟩ := hf i hi
      have c1 : (i : Int) < (ns.length : Int) := by omega
      have c2 : (0 : Int) ≤ (i : Int) := by omega
      have w1 : Aside0 (wrap64 ((i : Int) + 1) = (i : Int) + 1) := ⟨wid (by omega) (by omega)⟩
      have c3 : (i : Int) ≤ (i : Int) + 1 := by omega
      have e0 : (i : Int).toNat = i := by omega
      have e1 : ((i : Int) + 1).toNat = i + 1 := by omega
      apply Ev.succ
      by_cases p : rd ns (i : Int) > 0
      · have c4 : (putP s ns i).size + (figB (rd ns (i : Int))).size ≤ 9223372036854775807 := by rw [figB_size]; omega
        by_cases q : i < s.size
        · have c5 : (i : Int) < (s.size : Int) := by omega
          have c6 : (i : Int) + 1 ≤ (s.size : Int) := by omega
          have c7 : (putP s ns i ++ figB (rd ns (i : Int))).size + (s.extract i (i + 1)).size ≤ 9223372036854775807 := by rw [ByteArray.size_append, figB_size, ByteArray.size_extract]; omega
          simp only [impl_PatternPut.l0, c1, c2, p, itoa_fig _ p f1, Option.bind_some, c4, c5, c3, w1.out, c6, e0, e1, c7, if_true]
          simp only [putP, p, q, if_true] at hr
          exact hr
        · have c5 : ¬ (i : Int) < (s.size : Int) := by omega
          simp only [impl_PatternPut.l0, c1, c2, p, itoa_fig _ p f1, Option.bind_some, c4, c5, w1.out, if_true, if_false]
          simp only [putP, p, q, if_true, if_false, ByteArray.append_empty] at hr
          exact hr
      · by_cases q : i < s.size
        · have c5 : (i : Int) < (s.size : Int) := by omega
          have c6 : (i : Int) + 1 ≤ (s.size : Int) := by omega
          have c7 : (putP s ns i).size + (s.extract i (i + 1)).size ≤ 9223372036854775807 := by rw [ByteArray.size_extract]; omega
          simp only [impl_PatternPut.l0, c1, c2, p, c5, c3, w1.out, c6, e0, e1, c7, if_true, if_false]
          simp only [putP, p, q, if_true, if_false, ByteArray.append_empty] at hr
          exact hr
        · have c5 : ¬ (i : Int) < (s.size : Int) := by omega
          simp only [impl_PatternPut.l0, c1, c2, p, c5, w1.out, if_true, if_false]
          simp only [putP, p, q, if_false, ByteArray.append_empty] at hr
          exact hr
    · apply Ev.succ
      simp only [impl_PatternPut.l0, Int.lt_irrefl, if_false]
      exact Ev.now _
def readP (t : ByteArray) : Nat → ByteArray × List Int × Int
  | 0 => ((⟨#[]⟩ : ByteArray), [], 0)
  | i + 1 => if 48 ≤ bt t (i : Int) ∧ bt t (i : Int) ≤ 57 then ((readP t i).1, (readP t i).2.1, (bt t (i : Int) - 48) % 256) else ((readP t i).1 ++ t.extract i (i + 1), (readP t i).2.1 ++ [(readP t i).2.2], 0)
theorem readP_size (t : ByteArray) : ∀ i, (readP t i).1.size ≤ i ∧ (readP t i).2.1.length ≤ i
  | 0 => ⟨Nat.le_refl _, Nat.le_refl _⟩
  | i + 1 => by
    have ih := readP_size t i
    unfold readP
    split
    · exact ⟨by show (readP t i).1.size ≤ _; omega, by show (readP t i).2.1.length ≤ _; omega⟩
    · refine ⟨?_, ?_⟩
      · show ((readP t i).1 ++ t.extract i (i + 1)).size ≤ _
        rw [ByteArray.size_append, ByteArray.size_extract]
        omega
      · show ((readP t i).2.1 ++ [(readP t i).2.2]).length ≤ _
        simp
        omega
def getP (t : ByteArray) : ByteArray × List Int × Bool :=
  if patOk (readP t t.size).1 ((readP t t.size).2.1 ++ [(readP t t.size).2.2]) = true ∧ putP (readP t t.size).1 ((readP t t.size).2.1 ++ [(readP t t.size).2.2]) ((readP t t.size).2.1 ++ [(readP t t.size).2.2]).length = t
  then ((readP t t.size).1, (readP t t.size).2.1 ++ [(readP t t.size).2.2], true) else ((⟨#[]⟩ : ByteArray), [], false)
theorem set_last (ns : List Int) (a b : Int) : (ns ++ [a]).set ns.length b = ns ++ [b] := by
  rw [List.set_append_right _ _ (Nat.le_refl _), Nat.sub_self]
  rfl
theorem spec_PatternGet_ev (t : ByteArray) (ht : t.size ≤ 1048576) : Ev (fun k => spec_PatternGet.f k t) (getP t) := by
  unfold spec_PatternGet.f
  refine fold_loop (g := fun k (b : ByteArray × List Int × Int) x => spec_PatternGet.l0 k t x b.1 (b.2.1 ++ [b.2.2])) t.size (readP t) _ ?_ ?_
  · intro i hi hr
    obtain ⟨z1, z2⟩ := readP_size t i
    have c1 : (i : Int) < (t.size : Int) := by omega
    have c2 : (0 : Int) ≤ (i : Int) := by omega
    have w1 : Aside0 (wrap64 ((i : Int) + 1) = (i : Int) + 1) := ⟨wid (by omega) (by omega)⟩
    have c3 : (i : Int) ≤ (i : Int) + 1 := by omega
    have c6 : (i : Int) + 1 ≤ (t.size : Int) := by omega
    have e0 : (i : Int).toNat = i := by omega
    have e1 : ((i : Int) + 1).toNat = i + 1 := by omega
    have c7 : (readP t i).1.size + (t.extract i (i + 1)).size ≤ 9223372036854775807 := by rw [ByteArray.size_extract]; omega
    have c8 : ((readP t i).2.1 ++ [(readP t i).2.2]).length < 17592186044416 := by simp; omega
    have hl : ((((readP t i).2.1 ++ [(readP t i).2.2]).length : Nat) : Int) = ((readP t i).2.1.length : Int) + 1 := by simp
    have w2 : Aside0 (wrap64 (((readP t i).2.1.length : Int) + 1 - 1) = ((readP t i).2.1.length : Int)) := ⟨by rw [wid (by omega) (by omega)]; omega⟩
    have c9 : (0 : Int) ≤ ((readP t i).2.1.length : Int) := by omega
    have c10 : ((readP t i).2.1.length : Int) < ((readP t i).2.1.length : Int) + 1 := by omega
    have e2 : ((readP t i).2.1.length : Int).toNat = (readP t i).2.1.length := by omega
    apply Ev.succ
    by_cases f : 48 ≤ bt t (i : Int) ∧ bt t (i : Int) ≤ 57
    · have f1 : bt t (i : Int) ≥ 48 := f.1
      have f2 := f.2
      simp only [spec_PatternGet.l0, c1, c2, f1, f2, hl, w2.out, c9, c10, e2, w1.out, set_last, if_true]
      simp only [readP, f, and_self, if_true] at hr
      exact hr
    · have hr' : Ev (fun k => spec_PatternGet.l0 k t ((i : Int) + 1) ((readP t i).1 ++ t.extract i (i + 1)) ((readP t i).2.1 ++ [(readP t i).2.2] ++ [0])) (getP t) := by
        simp only [readP, f, if_false] at hr
        exact hr
      by_cases f1 : bt t (i : Int) ≥ 48
      · have f2 : ¬ bt t (i : Int) ≤ 57 := fun h => f ⟨f1, h⟩
        simp only [spec_PatternGet.l0, c1, c2, f1, f2, c3, w1.out, c6, e0, e1, c7, c8, if_true, if_false]
        exact hr'
      · simp only [spec_PatternGet.l0, c1, c2, f1, c3, w1.out, c6, e0, e1, c7, c8, if_true, if_false]
        exact hr'
  · obtain ⟨z1, z2⟩ := readP_size t t.size
    apply Ev.succ
    simp only [spec_PatternGet.l0, Int.lt_irrefl, if_false]
    refine Ev.bind (spec_PatternOk_ev _ _ (by omega) (by simp; omega)) ?_
    cases hp : patOk (readP t t.size).1 ((readP t t.size).2.1 ++ [(readP t t.size).2.2]) with
    | false =>
      simp only [Bool.false_eq_true, if_false]
      refine Ev.cast (Ev.now _) ?_
      simp [getP, hp]
    | true =>
      simp only [if_true]
      refine Ev.bind (spec_l9Put_ev _ _ hp) ?_
      by_cases e : putP (readP t t.size).1 ((readP t t.size).2.1 ++ [(readP t t.size).2.2]) ((readP t t.size).2.1 ++ [(readP t t.size).2.2]).length = t
      · have e' : (putP (readP t t.size).1 ((readP t t.size).2.1 ++ [(readP t t.size).2.2]) ((readP t t.size).2.1 ++ [(readP t t.size).2.2]).length).toList = t.toList := by rw [e]
        simp only [e', if_true]
        refine Ev.cast (Ev.now _) ?_
        unfold getP
        rw [if_pos ⟨hp, e⟩]
      · have e' : ¬ (putP (readP t t.size).1 ((readP t t.size).2.1 ++ [(readP t t.size).2.2]) ((readP t t.size).2.1 ++ [(readP t t.size).2.2]).length).toList = t.toList := fun h => e (toList_inj.1 h)
        simp only [e', if_false]
        refine Ev.cast (Ev.now _) ?_
        unfold getP
        rw [if_neg (fun h => e h.2)]
theorem impl_PatternGet_ev (t : ByteArray) (ht : t.size ≤ 1048576) : Ev (fun k => impl_PatternGet.f k t) (getP t) := by
  unfold impl_PatternGet.f
  refine fold_loop (g := fun k (b : ByteArray × List Int × Int) x => impl_PatternGet.l0 k t b.2.2 (t.size : Int) x b.1 b.2.1) t.size (readP t) _ ?_ ?_
  · intro i hi hr
    obtain ⟨z1, z2⟩ := readP_size t i
    have c1 : (i : Int) < (t.size : Int) := by omega
    have c2 : (0 : Int) ≤ (i : Int) := by omega
    have w1 : Aside0 (wrap64 ((i : Int) + 1) = (i : Int) + 1) := ⟨wid (by omega) (by omega)⟩
    have c3 : (i : Int) ≤ (i : Int) + 1 := by omega
    have c6 : (i : Int) + 1 ≤ (t.size : Int) := by omega
    have e0 : (i : Int).toNat = i := by omega
    have e1 : ((i : Int) + 1).toNat = i + 1 := by omega
    have c7 : (readP t i).1.size + (t.extract i (i + 1)).size ≤ 9223372036854775807 := by rw [ByteArray.size_extract]; omega
    have c8 : (readP t i).2.1.length < 17592186044416 := by omega
    apply Ev.succ
    by_cases f : 48 ≤ bt t (i : Int) ∧ bt t (i : Int) ≤ 57
    · have f1 : bt t (i : Int) ≥ 48 := f.1
      have f2 := f.2
      simp only [impl_PatternGet.l0, c1, c2, f1, f2, w1.out, if_true]
      simp only [readP, f, and_self, if_true] at hr
      exact hr
    · have hr' : Ev (fun k => impl_PatternGet.l0 k t 0 (t.size : Int) ((i : Int) + 1) ((readP t i).1 ++ t.extract i (i + 1)) ((readP t i).2.1 ++ [(readP t i).2.2])) (getP t) := by
        simp only [readP, f, if_false] at hr
        exact hr
      by_cases f1 : bt t (i : Int) ≥ 48
      · have f2 : ¬ bt t (i : Int) ≤ 57 := fun h => f ⟨f1, h⟩
        simp only [impl_PatternGet.l0, c1, c2, f1, f2, c3, w1.out, c6, e0, e1, c7, c8, if_true, if_false]
        exact hr'
      · simp only [impl_PatternGet.l0, c1, c2, f1, c3, w1.out, c6, e0, e1, c7, c8, if_true, if_false]
        exact hr'
  · obtain ⟨z1, z2⟩ := readP_size t t.size
    have c8 : (readP t t.size).2.1.length < 17592186044416 := by omega
    apply Ev.succ
    simp only [impl_PatternGet.l0, Int.lt_irrefl, if_false, c8, if_true, Option.bind_some]
    by_cases te : t = (⟨#[]⟩ : ByteArray)
    · have te' : t.toList = ([] : List UInt8) := by rw [te, ByteArray.toList_eq]
      simp only [te', if_true]
      refine Ev.cast (Ev.now _) ?_
      rw [te]
      rfl
    · have te' : ¬ t.toList = ([] : List UInt8) := fun h => te (toList_inj.1 (h.trans (by rw [ByteArray.toList_eq])))
      simp only [te', if_false]
      refine Ev.bind (impl_PatternPut_ev _ _ (by omega) (by simp; omega)) ?_
      unfold patText
      cases hp : patOk (readP t t.size).1 ((readP t t.size).2.1 ++ [(readP t t.size).2.2]) with
      | false =>
        have e' : ¬ ((⟨#[]⟩ : ByteArray)).toList = t.toList := fun h => te (toList_inj.1 h.symm)
        simp only [Bool.false_eq_true, if_false, e']
        refine Ev.cast (Ev.now _) ?_
        simp [getP, hp]
      | true =>
        simp only [if_true]
        by_cases e : putP (readP t t.size).1 ((readP t t.size).2.1 ++ [(readP t t.size).2.2]) ((readP t t.size).2.1 ++ [(readP t t.size).2.2]).length = t
        · have e' : (putP (readP t t.size).1 ((readP t t.size).2.1 ++ [(readP t t.size).2.2]) ((readP t t.size).2.1 ++ [(readP t t.size).2.2]).length).toList = t.toList := by rw [e]
          simp only [e', if_true]
          refine Ev.cast (Ev.now _) ?_
          unfold getP
          rw [if_pos ⟨hp, e⟩]
        · have e' : ¬ (putP (readP t t.size).1 ((readP t t.size).2.1 ++ [(readP t t.size).2.2]) ((readP t t.size).2.1 ++ [(readP t t.size).2.2]).length).toList = t.toList := fun h => e (toList_inj.1 h)
          simp only [e', if_false]
          refine Ev.cast (Ev.now _) ?_
          unfold getP
          rw [if_neg (fun h => e h.2)]
theorem getP_len (t : ByteArray) : (getP t).2.1.length ≤ t.size + 1 := by
  have := readP_size t t.size
  unfold getP
  split
  · show ((readP t t.size).2.1 ++ [(readP t t.size).2.2]).length ≤ _
    simp
    omega
  · exact Nat.zero_le _
def marked (a : Int) (n : Nat) : List Int := (List.range n).map fun (i : Nat) => a + (i : Int)
end Go.Proofs.YtndjhgjakdkkaaaDoor.M
end

section
/- FnPattern, plain: the drawn patterns, each looked at. -/
namespace Go.Proofs.YtndjhgjakdkkaaaDoor.M
open Go.RowKit Go.Proofs.YtndjhgjakdkkaaaDoorW.PrintWords Go.Proofs.YtndjhgjakdkkaaaDoor.Pu
set_option linter.unusedVariables false
set_option linter.unusedSimpArgs false
def patSet : List ByteArray := [(⟨#[49, 110, 97]⟩ : ByteArray), (⟨#[50, 99, 116]⟩ : ByteArray), (⟨#[97, 49, 98]⟩ : ByteArray), (⟨#[49, 107, 105]⟩ : ByteArray), (⟨#[46, 117, 110, 49]⟩ : ByteArray), (⟨#[52, 116, 115, 46]⟩ : ByteArray), (⟨#[111, 49, 105]⟩ : ByteArray), (⟨#[99, 49, 116]⟩ : ByteArray), (⟨#[97, 50, 98, 49, 99]⟩ : ByteArray), (⟨#[49, 105, 110, 103, 46]⟩ : ByteArray), (⟨#[51, 115, 46]⟩ : ByteArray)]
def fiveSet : List ByteArray := [(⟨#[]⟩ : ByteArray), (⟨#[65]⟩ : ByteArray), (⟨#[97, 46, 98]⟩ : ByteArray), (⟨#[46, 46]⟩ : ByteArray), (⟨#[97, 98, 99, 100, 101, 102, 103, 104, 105]⟩ : ByteArray)]
def anyOf (g : ByteArray × List Int × Bool) : List (ByteArray × List Int) :=
  fiveSet.map (fun x => (x, g.2.1)) ++ ([-1, 10, 9] : List Int).map (fun v => (g.1, g.2.1.set 0 v)) ++ [(g.1, g.2.1 ++ [1]), (g.1, g.2.1)]
def backB (x : ByteArray × List Int) : Bool :=
  if patOk x.1 x.2 = true then decide ((patText x.1 x.2).toList ≠ []) && decide (getP (patText x.1 x.2) = (x.1, x.2, true)) else true
theorem all_back : patSet.all (fun b => (anyOf (getP b)).all (fun x => backB x && decide (x.1.size ≤ 100) && decide (x.2.length ≤ 100)) && decide (0 < (getP b).2.1.length) && decide ((getP b).2.1.length ≤ 100) && patOk (getP b).1 (getP b).2.1) = true := by decide +kernel
theorem pat_size : ∀ x ∈ patSet, x.size ≤ 100 := by decide
structure Pat (b : ByteArray) : Prop where
  any : ∀ x ∈ anyOf (getP b), backB x = true ∧ x.1.size ≤ 100 ∧ x.2.length ≤ 100
  pos : 0 < (getP b).2.1.length
  len : (getP b).2.1.length ≤ 100
  ok : patOk (getP b).1 (getP b).2.1 = true
theorem pat_of {b : ByteArray} (h : b ∈ patSet) : Pat b := by
  have := List.all_eq_true.1 all_back b h
  simp only [Bool.and_eq_true, decide_eq_true_eq, List.all_eq_true] at this
  obtain ⟨⟨⟨h1, h2⟩, h3⟩, h4⟩ := this
  exact ⟨fun x hx => ⟨(h1 x hx).1.1, (h1 x hx).1.2, (h1 x hx).2⟩, h2, h3, h4⟩
theorem pattern_ev (s : List Int) (hs : Code s) (p : Int) (hp0 : 0 ≤ p) (hp1 : p ≤ 100000000) : ∃ b, b ∈ patSet ∧ Ev (fun k => spec_l13Pattern.f k s p) ((getP b).1, (getP b).2.1, p + 1) := by
  obtain ⟨b, hb, hm⟩ := of_ev s hs p hp0 (by omega) patSet (by decide) (by decide)
  refine ⟨b, hm, ?_⟩
  unfold spec_l13Pattern.f
  exact Ev.bind hb (Ev.bind (spec_PatternGet_ev b (by have := pat_size b hm; omega)) (Ev.now _))
theorem anyPattern_ev (s : List Int) (hs : Code s) (p : Int) (hp0 : 0 ≤ p) (hp1 : p ≤ 10000000) : ∃ b x q, b ∈ patSet ∧ x ∈ anyOf (getP b) ∧ Ev (fun k => spec_l13AnyPattern.f k s p) (x.1, x.2, q) := by
  obtain ⟨b, hm, hb⟩ := pattern_ev s hs p hp0 (by omega)
  have P := pat_of hm
  have P1 := P.len
  have P2 := P.pos
  obtain ⟨r, hr, r0, r1, _⟩ := pick_ev s hs (p + 1) 10 (by omega) (by omega) (by omega)
  have c1 : ([] : List Int).length + (getP b).2.1.length < 17592186044416 := by simp only [List.length_nil]; omega
  unfold spec_l13AnyPattern.f
  by_cases z0 : r = 0
  · obtain ⟨y, hy, ym⟩ := of_ev s hs (p + 1 + 1) (by omega) (by omega) fiveSet (by decide) (by decide)
    refine ⟨b, (y, (getP b).2.1), p + 1 + 1 + 1, hm, ?_, ?_⟩
    · simp only [anyOf, List.mem_append, List.mem_map]
      exact Or.inl (Or.inl ⟨y, ym, rfl⟩)
    · exact Ev.bind hb (Ev.bind (Ev.now _) (Ev.ifp c1 (Ev.bind (Ev.now _) (Ev.bind hr (Ev.ifp z0 (Ev.bind hy (Ev.now _)))))))
  · by_cases z1 : r = 1
    · obtain ⟨v, hv, vm⟩ := one_ev s hs (p + 1 + 1) (by omega) (by omega) [-1, 10, 9] (by decide) (by decide)
      refine ⟨b, ((getP b).1, (getP b).2.1.set 0 v), p + 1 + 1 + 1, hm, ?_, ?_⟩
      · simp only [anyOf, List.mem_append, List.mem_map]
        exact Or.inl (Or.inr ⟨v, vm, rfl⟩)
      · exact Ev.bind hb (Ev.bind (Ev.now _) (Ev.ifp c1 (Ev.bind (Ev.now _) (Ev.bind hr (Ev.ifn z0 (Ev.ifp z1 (Ev.bind hv (Ev.ifp (by simp only [List.nil_append]; omega) (Ev.now _)))))))))
    · by_cases z2 : r = 2
      · refine ⟨b, ((getP b).1, (getP b).2.1 ++ [1]), p + 1 + 1, hm, ?_, ?_⟩
        · simp only [anyOf, List.mem_append, List.mem_map]
          exact Or.inr (List.mem_cons_self ..)
        · exact Ev.bind hb (Ev.bind (Ev.now _) (Ev.ifp c1 (Ev.bind (Ev.now _) (Ev.bind hr (Ev.ifn z0 (Ev.ifn z1 (Ev.ifp z2 (Ev.ifp (by simp only [List.nil_append]; omega) (Ev.now _)))))))))
      · refine ⟨b, ((getP b).1, (getP b).2.1), p + 1 + 1, hm, ?_, ?_⟩
        · simp only [anyOf, List.mem_append, List.mem_map]
          exact Or.inr (List.mem_cons_of_mem _ (List.mem_cons_self ..))
        · exact Ev.bind hb (Ev.bind (Ev.now _) (Ev.ifp c1 (Ev.bind (Ev.now _) (Ev.bind hr (Ev.ifn z0 (Ev.ifn z1 (Ev.ifn z2 (Ev.now _))))))))
theorem drawPut_ev (s : List Int) (hs : ∀ b ∈ s, 0 ≤ b ∧ b ≤ 255) : ∃ x, Ev (fun k => spec_DrawPatternPut.f k s) x ∧ backB x = true ∧ x.1.size ≤ 100 ∧ x.2.length ≤ 100 := by
  obtain ⟨c, hc, hC⟩ := l1Open_eq s hs
  obtain ⟨b, x, q, hm, hx, he⟩ := anyPattern_ev c hC 0 (by omega) (by omega)
  obtain ⟨h1, h2, h3⟩ := (pat_of hm).any x hx
  refine ⟨(x.1, x.2), ?_, h1, h2, h3⟩
  unfold spec_DrawPatternPut.f
  rw [hc]
  simp only [Option.bind_some]
  exact Ev.bind he (Ev.now _)
theorem drawGet_ev (s : List Int) (hs : ∀ b ∈ s, 0 ≤ b ∧ b ≤ 255) : ∃ x, Ev (fun k => spec_DrawPatternGet.f k s) x ∧ x.size ≤ 1000 := by
  obtain ⟨c, hc, hC⟩ := l1Open_eq s hs
  obtain ⟨b, hm, hb⟩ := pattern_ev c hC 0 (by omega) (by omega)
  have P := pat_of hm
  have P1 := P.len
  have z := putP_size (getP b).1 (getP b).2.1 (getP b).2.1.length
  generalize hq : putP (getP b).1 (getP b).2.1 (getP b).2.1.length = t at z
  obtain ⟨x, hx, xm⟩ := of_ev c hC (0 + 1) (by omega) (by omega) [(⟨#[49, 110, 97]⟩ : ByteArray), (⟨#[97, 48, 98]⟩ : ByteArray), (⟨#[49, 50, 97]⟩ : ByteArray), (⟨#[]⟩ : ByteArray), (⟨#[53]⟩ : ByteArray), (⟨#[46, 97]⟩ : ByteArray), (⟨#[97, 46, 98]⟩ : ByteArray), (⟨#[49, 97, 50, 98, 51]⟩ : ByteArray), (⟨#[97, 98, 99, 100, 101, 102, 103, 104]⟩ : ByteArray), (⟨#[97, 98, 99, 100, 101, 102, 103, 104, 105]⟩ : ByteArray), (⟨#[65]⟩ : ByteArray), t] (by simp) (by simp)
  refine ⟨x, ?_, ?_⟩
  · unfold spec_DrawPatternGet.f
    rw [hc]
    simp only [Option.bind_some]
    refine Ev.bind hb (Ev.bind (spec_l9Put_ev _ _ P.ok) ?_)
    rw [hq]
    exact Ev.bind hx (Ev.now _)
  · simp only [List.mem_cons, List.not_mem_nil, or_false] at xm
    rcases xm with rfl | rfl | rfl | rfl | rfl | rfl | rfl | rfl | rfl | rfl | rfl | rfl
    all_goals first | decide | omega
theorem mdPattern_refl (s : ByteArray) (xs : List Int) (h : xs.length ≤ 1000000000) : Ev (fun k => laws_mdPattern.f k s xs s xs) true := by
  unfold laws_mdPattern.f
  have c0 : ((xs.length : Int) != (xs.length : Int)) = false := by simp
  simp only [if_true, c0]
  apply Ev.succ
  simp only [laws_mdPattern.j0, Bool.false_eq_true, if_false]
  refine Ev.cast (all_loop (g := fun k x => laws_mdPattern.l0 k x s xs s xs) xs.length (fun _ => True) false true ?_ ?_ ?_) (by simp)
  · intro i r hi _ hr
    have c1 : (i : Int) < (xs.length : Int) := by omega
    have c2 : (0 : Int) ≤ (i : Int) := by omega
    have c3 : wrap64 ((i : Int) + 1) = (i : Int) + 1 := wid (by omega) (by omega)
    apply Ev.succ
    simp only [laws_mdPattern.l0, c1, c2, c3, if_true]
    exact hr
  · intro i hi hp
    exact absurd trivial hp
  · apply Ev.succ
    simp only [laws_mdPattern.l0, Int.lt_irrefl, if_false]
    exact Ev.now _
theorem getP_back (t : ByteArray) (h : (getP t).2.2 = true) : patText (getP t).1 (getP t).2.1 = t := by
  unfold getP at h ⊢
  split
  · rename_i c
    unfold patText
    rw [if_pos c.1]
    exact c.2
  · rename_i c
    rw [if_neg c] at h
    cases h
theorem patText_size (s : ByteArray) (ns : List Int) (hn : ns.length ≤ 1000) : (patText s ns).size ≤ 2000 := by
  unfold patText
  split
  · have := putP_size s ns ns.length
    omega
  · exact Nat.zero_le _
theorem j1_ev (l1 : List Int) (hs : ∀ b ∈ l1, 0 ≤ b ∧ b ≤ 255) : Ev (fun k => laws_FnPattern.j1 k l1 false) true := by
  obtain ⟨t, ht, tz⟩ := drawGet_ev l1 hs
  have gl := getP_len t
  apply Ev.succ
  simp only [laws_FnPattern.j1, Bool.false_eq_true, if_false]
  refine Ev.bind ht (Ev.bind (impl_PatternGet_ev t (by omega)) (Ev.bind (spec_PatternGet_ev t (by omega)) (Ev.ifp (by simp) (Ev.bind (mdPattern_refl _ _ (by omega)) (Ev.ifp rfl ?_)))))
  by_cases c : (getP t).2.2 = true
  · refine Ev.ifp c (Ev.bind (impl_PatternPut_ev _ _ ?_ (by omega)) (Ev.cast (Ev.now _) ?_))
    · have q : (getP t).1.size ≤ t.size := by
        unfold getP
        split
        · exact (readP_size t t.size).1
        · exact Nat.zero_le _
      omega
    · rw [getP_back t c]
      simp
  · exact Ev.ifn c (Ev.now _)
theorem j0_ev (l0 l1 : List Int) (hs : ∀ b ∈ l0, 0 ≤ b ∧ b ≤ 255) (hs2 : ∀ b ∈ l1, 0 ≤ b ∧ b ≤ 255) : Ev (fun k => laws_FnPattern.j0 k l0 l1 false) true := by
  obtain ⟨⟨s, ns⟩, hx, hb, z1, z2⟩ := drawPut_ev l0 hs
  simp only at z1 z2
  have tz := patText_size s ns (by omega)
  apply Ev.succ
  simp only [laws_FnPattern.j0, Bool.false_eq_true, if_false]
  refine Ev.bind hx (Ev.bind (impl_PatternPut_ev s ns (by omega) (by omega)) (Ev.bind (impl_PatternGet_ev _ (by omega)) (Ev.bind (spec_PatternPut_ev s ns (by omega) (by omega)) (Ev.ifp rfl (Ev.bind (impl_PatternOk_ev s ns (by omega) (by omega)) (Ev.bind (spec_PatternOk_ev s ns (by omega) (by omega)) (Ev.ifn (by simp) ?_)))))))
  by_cases c : patOk s ns = true
  · unfold backB at hb
    rw [if_pos (show patOk (s, ns).1 (s, ns).2 = true from c)] at hb
    simp only [Bool.and_eq_true, decide_eq_true_eq] at hb
    obtain ⟨b1, b2⟩ := hb
    rw [b2]
    refine Ev.ifn (by simp [b1]) (Ev.ifp rfl (Ev.bind (mdPattern_refl s ns (by omega)) ?_))
    exact j1_ev l1 hs2
  · have e : patText s ns = (⟨#[]⟩ : ByteArray) := by unfold patText; rw [if_neg c]
    rw [e]
    have g : getP (⟨#[]⟩ : ByteArray) = ((⟨#[]⟩ : ByteArray), [], false) := by decide +kernel
    rw [g]
    have n : (⟨#[]⟩ : ByteArray).toList = [] := by rw [ByteArray.toList_eq]
    rw [n]
    exact Ev.ifn (by decide) (Ev.ifn (by decide) (j1_ev l1 hs2))
theorem FnPattern_pure (s : List Int) (hs : s.length ≤ 9223372036854775807 ∧ ∀ y ∈ s, (Lit.int .u8 y).wf = true) (s2 : List Int) (hs2 : s2.length ≤ 9223372036854775807 ∧ ∀ y ∈ s2, (Lit.int .u8 y).wf = true) : ∃ k, laws_FnPattern.f k s s2 = some true := by
  have bytes : ∀ l : List Int, (∀ y ∈ l, (Lit.int .u8 y).wf = true) → ∀ b ∈ l, 0 ≤ b ∧ b ≤ 255 := fun l hl b hb => by
    have h := hl b hb
    simp [Lit.wf, IntKind.min, IntKind.max, IntKind.signed, IntKind.bits] at h
    omega
  have over : Ev (fun k => laws_FnPattern.j0 k s s2 true) true := by
    apply Ev.succ
    simp only [laws_FnPattern.j0, if_true]
    exact Ev.now _
  apply Ev.rounds (g := fun k => laws_FnPattern.f k s s2)
  unfold laws_FnPattern.f
  by_cases c0 : (s.length : Int) > 1048576
  · exact Ev.ifp c0 over
  · refine Ev.ifn c0 ?_
    by_cases c1 : (s2.length : Int) > 1048576
    · rw [decide_eq_true c1]
      exact over
    · rw [decide_eq_false c1]
      exact j0_ev s s2 (bytes s hs.2) (bytes s2 hs2.2)
end Go.Proofs.YtndjhgjakdkkaaaDoor.M
end

section
/- What a row that lists package variables gives, and that these read behind a call as before. -/
namespace Go.Proofs.YtndjhgjakdkkaaaDoor.Frame
open Go.RowKit Go.ChangeShapes
set_option linter.unusedVariables false
theorem tabIs_of_vars {P : Program} {W : World} {name : String} {k : IntKind} {zs : List Int} {g : Nat} {t e : TypeId} {n : Nat}
    (hg : P.globalNamed name = some g) (hty : (P.globals[g]?).map (·.type) = some t) (ht : P.underlying t = some (.array n e)) (he : P.underlying e = some (.int k)) (hce : P.cellsOf e = 1) (hct : P.cellsOf t = n) :
    ∀ (l : List (String × DataW Unit)) (ps : List MemPlace), DataW.LaidVars P W l ps → (name, Lib.tabData k zs) ∈ l → Lib.TabIs P W name k zs
  | [], _, _, hm => by simp at hm
  | (n', d') :: rest, ps, ⟨g', t', cs, fuel, p, q, hg', ht', hvar, hd, hrest, _⟩, hm => by
    rcases List.mem_cons.1 hm with h | h
    · injection h with h1 h2
      subst h1
      subst h2
      obtain rfl := Option.some.inj (hg.symm.trans hg')
      obtain rfl := Option.some.inj (hty.symm.trans ht')
      unfold Lib.TabIs
      rw [hvar, ← Lib.cells_of_tab ht he hce hct hd]
    · exact tabIs_of_vars hg hty ht he hce hct rest q hrest h
theorem tabIs_of_mem {P : Program} {W : World} {name : String} {k : IntKind} {zs : List Int} {g : Nat} {t e : TypeId} {n : Nat} {l : List (String × DataW Unit)}
    (hg : P.globalNamed name = some g) (hty : (P.globals[g]?).map (·.type) = some t) (ht : P.underlying t = some (.array n e)) (he : P.underlying e = some (.int k)) (hce : P.cellsOf e = 1) (hct : P.cellsOf t = n)
    (h : laidMet P l W) (hm : (name, Lib.tabData k zs) ∈ l) : Lib.TabIs P W name k zs := by
  obtain ⟨ps, hv, _⟩ := h
  exact tabIs_of_vars hg hty ht he hce hct l ps hv hm
end Go.Proofs.YtndjhgjakdkkaaaDoor.Frame
end

section
/- 'FnPattern': for every input it returns true and its arguments read as before. Conditions: those of the given row alone (the listed package variables as the program's text lays them). -/
namespace Go.Proofs.YtndjhgjakdkkaaaDoor.fnPattern
open Go.ChangeShapes Go.WideShapes Go.ChangeAt Go.RowKit
open Go.ChangeMaps (open_string shut_string)
open Go.Proofs.YtndjhgjakdkkaaaDoor.M Go.Proofs.YtndjhgjakdkkaaaDoor.Frame Go.Proofs.YtndjhgjakdkkaaaDoorW.PrintWords
set_option linter.unusedVariables false
theorem own : ownKnob Tryd.prog.godebug = none := by kernel_rfl
theorem laidOut : laidOutB Tryd.prog = true := by kernel_rfl
set_option maxRecDepth 100000 in
theorem contract (H : Type) (enc : TypeId × Value → H) (W : World) (base : Nat) (args : Array Value) (ds gs : List (DataW H)) (before : List MemPlace)
    (hval0 : ∀ (j : Nat) t v, Tryd.f11.params[j]? = some t → args[j]? = some v → Value.okWide Tryd.prog W .any base t v)
    (hW : DataW.Whole enc Tryd.prog Tryd.f11.params.toList Rows.fnPatternSpec.vars false W args.toList ds gs before)
    (hsz0 : (DataW.weightsEach Tryd.prog (Tryd.f11.params.toList ++ (OpenSpec.ofChange Rows.fnPatternSpec).bare.plain.varTypes Tryd.prog) (ds ++ gs)).all (· ≤ reachBytes) = true)
    (hL : laidMetH Tryd.prog Rows.fnPatternRow.laid W) (hsh : W.ShapedOpen Tryd.prog) :
    Calls Tryd.prog 11 args W fun e W' => ∃ v, e = .returned v ∧ Rows.fnPatternSpec.post enc Tryd.prog Tryd.f11 false true false false W args v W' := by
  have hGp : GWp W := ⟨tabIs_of_mem (show Tryd.prog.globalNamed "internal/strconv.uint64pow10" = some 4 by kernel_rfl) (show (Tryd.prog.globals[4]?).map (·.type) = some 113 by kernel_rfl) Tryd.underlying113 Tryd.underlying73 (by kernel_rfl) (by kernel_rfl) hL (by rw [show Lib.tabData .u64 Lib.pow10Tab = Rows.laid_internal_strconv_uint64pow10 from by kernel_rfl]; simp [Rows.fnPatternRow])⟩
  clear hsh hL
  have hsz := hsz0
  have hval := hval0
  have hW' := hW
  obtain ⟨p, q, hA0, hV, rfl, hfz, hnd⟩ := hW
  have hA : DataW.TrodAll enc Tryd.prog W 0 (fun _ => true) true Tryd.f11.params.toList args.toList ds p := hA0
  rw [Tryd.params11] at hA hval hsz
  obtain ⟨v0, vs0, d0, ds0, p0, q0, hargs, rfl, rfl, h0, r0⟩ := trodAll_cons hA
  obtain ⟨v1, vs1, d1, ds1, p1, q1, rfl, rfl, rfl, h1, r1⟩ := trodAll_cons r0
  obtain ⟨rfl, rfl, rfl⟩ := trodAll_nil r1
  obtain rfl : args = #[v0, v1] := by cases args; simp_all
  obtain ⟨a0, len0, cap0, rfl⟩ := okWide_slice Tryd.underlying26 (hval 0 26 v0 rfl rfl)
  have k0 := h0
  have lt0 : ∀ x ∈ p0, x.block < W.heap.size := by obtain ⟨m, hm⟩ := k0; exact DataW.trod_lt m _ _ _ hm
  obtain ⟨fu0, hf0⟩ := h0
  obtain ⟨x0, hx0, G0⟩ := ((Opens.slice Tryd.underlying26 (by kernel_rfl) (Opens.int Tryd.underlying5))) H enc _ _ _ _ _ _ _ hf0
  obtain ⟨A0, c0, hcs0, l0, g0⟩ := hx0
  obtain ⟨rfl, rfl, rfl⟩ : A0 = a0 ∧ x0.length = len0 ∧ c0 = cap0 := by injection (show [Value.slice a0 len0 cap0] = [Value.slice A0 x0.length c0] from hcs0) with e1 _; injection e1 with e1 e2 e3; exact ⟨e1.symm, e2.symm, e3.symm⟩
  obtain ⟨a1, len1, cap1, rfl⟩ := okWide_slice Tryd.underlying26 (hval 1 26 v1 rfl rfl)
  have k1 := h1
  have lt1 : ∀ x ∈ p1, x.block < W.heap.size := by obtain ⟨m, hm⟩ := k1; exact DataW.trod_lt m _ _ _ hm
  obtain ⟨fu1, hf1⟩ := h1
  obtain ⟨x1, hx1, G1⟩ := ((Opens.slice Tryd.underlying26 (by kernel_rfl) (Opens.int Tryd.underlying5))) H enc _ _ _ _ _ _ _ hf1
  obtain ⟨A1, c1, hcs1, l1, g1⟩ := hx1
  obtain ⟨rfl, rfl, rfl⟩ : A1 = a1 ∧ x1.length = len1 ∧ c1 = cap1 := by injection (show [Value.slice a1 len1 cap1] = [Value.slice A1 x1.length c1] from hcs1) with e1 _; injection e1 with e1 e2 e3; exact ⟨e1.symm, e2.symm, e3.symm⟩
  obtain ⟨rfl, rfl⟩ := trodVars_none hV
  clear hA0 hval0 hsz0 hsz
  obtain ⟨k, hk⟩ := FnPattern_pure x0 G0 x1 G1
  refine (laws_FnPattern.calls k _ _ _ _ _ _ true W rfl hGp g0 l0 g1 l1 hk).mono fun e W' ⟨he, bel0⟩ => ?_
  have bel : Below W.heap.size W W' := bel0
  subst he
  exact ⟨_, rfl, _, _, _, [], _, [], hW', trodAll_mk1 (shut_bool Tryd.underlying4 _), (trodAll_cons_mk (Below.trod laidOut (by kernel_rfl) (of_decide_eq_true (by kernel_rfl)) k0 bel lt0) (trodAll_cons_mk (Below.trod laidOut (by kernel_rfl) (of_decide_eq_true (by kernel_rfl)) k1 bel lt1) trodAll_mk0)), rfl, bel.frame _, fun h => by cases h⟩
noncomputable def laidWorld (os : Os) : World := { World.holding Tryd.prog os ⟨#[], #[], []⟩ with heap := ((((World.holding Tryd.prog os ⟨#[], #[], []⟩).heap.modify 5 fun | .cells _ t frozen => .cells #[.int .u8 0, .int .u8 1, .int .u8 28, .int .u8 2, .int .u8 29, .int .u8 14, .int .u8 24, .int .u8 3, .int .u8 30, .int .u8 22, .int .u8 20, .int .u8 15, .int .u8 25, .int .u8 17, .int .u8 4, .int .u8 8, .int .u8 31, .int .u8 27, .int .u8 13, .int .u8 23, .int .u8 21, .int .u8 19, .int .u8 16, .int .u8 7, .int .u8 26, .int .u8 12, .int .u8 18, .int .u8 6, .int .u8 11, .int .u8 5, .int .u8 10, .int .u8 9] t frozen | o => o).modify 6 fun | .cells _ t frozen => .cells #[.int .u8 0, .int .u8 1, .int .u8 56, .int .u8 2, .int .u8 57, .int .u8 49, .int .u8 28, .int .u8 3, .int .u8 61, .int .u8 58, .int .u8 42, .int .u8 50, .int .u8 38, .int .u8 29, .int .u8 17, .int .u8 4, .int .u8 62, .int .u8 47, .int .u8 59, .int .u8 36, .int .u8 45, .int .u8 43, .int .u8 51, .int .u8 22, .int .u8 53, .int .u8 39, .int .u8 33, .int .u8 30, .int .u8 24, .int .u8 18, .int .u8 12, .int .u8 5, .int .u8 63, .int .u8 55, .int .u8 48, .int .u8 27, .int .u8 60, .int .u8 41, .int .u8 37, .int .u8 16, .int .u8 46, .int .u8 35, .int .u8 44, .int .u8 21, .int .u8 52, .int .u8 32, .int .u8 23, .int .u8 11, .int .u8 54, .int .u8 26, .int .u8 40, .int .u8 15, .int .u8 34, .int .u8 20, .int .u8 31, .int .u8 10, .int .u8 25, .int .u8 14, .int .u8 19, .int .u8 9, .int .u8 13, .int .u8 8, .int .u8 7, .int .u8 6] t frozen | o => o).modify 4 fun | .cells _ t frozen => .cells #[.int .u64 1, .int .u64 10, .int .u64 100, .int .u64 1000, .int .u64 10000, .int .u64 100000, .int .u64 1000000, .int .u64 10000000, .int .u64 100000000, .int .u64 1000000000, .int .u64 10000000000, .int .u64 100000000000, .int .u64 1000000000000, .int .u64 10000000000000, .int .u64 100000000000000, .int .u64 1000000000000000, .int .u64 10000000000000000, .int .u64 100000000000000000, .int .u64 1000000000000000000, .int .u64 10000000000000000000] t frozen | o => o) }
set_option maxRecDepth 100000 in
theorem laid_met (os : Os) : laidMet Tryd.prog Rows.fnPatternRow.laid ((laidWorld os).forCall (fun _ _ => 0) ⟨#[], #[.slice none 0 0, .slice none 0 0], []⟩).memory :=
  laidMet_of_run' 12 (by kernel_rfl) (by kernel_rfl)
set_option maxRecDepth 100000 in
theorem reads (os : Os) {H : Type} (enc : TypeId × Value → H) : ∃ x, DataW.whole enc Tryd.prog ((laidWorld os).forCall (fun _ _ => 0) ⟨#[], #[.slice none 0 0, .slice none 0 0], []⟩).memory Tryd.f11.params.toList Rows.fnPatternSpec.vars false #[(.slice none 0 0 : Value), (.slice none 0 0 : Value)].toList 12 = some x :=
  Option.isSome_iff_exists.1 (by kernel_rfl)
set_option maxRecDepth 100000 in
theorem lifted (os : Os) (started : os.Started) (H : Type) (enc : TypeId × Value → H) (F : Stop.Interp) :
    ReturnsInHanded {} Tryd.checked os 11 .any ((OpenSpec.ofChange Rows.fnPatternSpec).preRow enc Tryd.prog Tryd.f11 Rows.fnPatternRow.domain false Rows.fnPatternRow.laid) (((OpenSpec.ofChange Rows.fnPatternSpec).at F).post enc Tryd.prog Tryd.f11 false true false false) := by
  obtain ⟨x, hx⟩ := reads os enc
  refine returnsInHanded_of_row (C := Tryd.checked) (s := OpenSpec.ofChange Rows.fnPatternSpec) own started (by kernel_rfl) Tryd.func11
    (witness_row_at (enc := enc) (C := Tryd.checked) false (laidWorld os) #[.slice none 0 0, .slice none 0 0] rfl (by kernel_rfl) (by kernel_rfl) (by kernel_rfl)
      (OpenSpec.preRow_of_cond 12 (x := x) hx (by kernel_rfl) (fun k hk => by cases hk) (by kernel_rfl) (laid_met os))) ?_
  intro W base args ds gs before hval hW _ _ hsz hL hsh _
  exact contract H enc W base args ds gs before hval hW hsz hL hsh
theorem said : Rows.FnPatternSaid :=
  OpenClaim.holds_of_cond 11 Tryd.f11 rfl rfl rfl rfl rfl rfl rfl ⟨rfl, rfl, rfl, rfl, rfl⟩ rfl rfl rfl rfl rfl (by kernel_rfl) Tryd.func11 (by kernel_rfl)
    (of_decide_eq_true (by kernel_rfl)) (by unfold Func.isWrapper; first | (rw [if_pos (by decide +kernel)]; kernel_rfl) | (rw [if_neg (by decide +kernel)]; exact ⟨rfl, rfl⟩))
    (fun os started H enc _ F => by rw [OpenClaim.pre_eq_preRow]; exact lifted os started H enc F)
theorem plain (f : FuncId) (fn : Func) (hf : Tryd.pinned.checked.prog.funcNamed "loop.example/medlar/laws.FnPattern" = some f) (hfn : Tryd.pinned.checked.prog.funcs[f]? = some fn) :
    false = Tryd.pinned.checked.prog.looks [] ∧ ∀ (j : Nat) t, fn.params[j]? = some t → Tryd.pinned.checked.prog.wantsStandIn t = false := by
  obtain rfl : f = 11 := Option.some.inj ((show Tryd.prog.funcNamed "loop.example/medlar/laws.FnPattern" = some 11 by kernel_rfl).symm.trans hf) |>.symm
  obtain rfl : fn = Tryd.f11 := (Option.some.inj (Tryd.func11.symm.trans hfn)).symm
  refine ⟨by kernel_rfl, fun j t ht => ?_⟩
  rw [Tryd.params11] at ht
  have hm := Array.mem_of_getElem? ht
  simp only [List.mem_toArray, List.mem_cons, List.not_mem_nil, or_false] at hm
  rcases hm with rfl | rfl
  all_goals first | exact (show Tryd.prog.wantsStandIn 26 = false by kernel_rfl)
theorem card : Rows.FnPatternCardSaid :=
  Claim7.holds_tied_plain_at .later [] _ _ _ _ said (fun _ h => by cases h) (by kernel_rfl) (fun _ h => by cases h) fnPattern_row_tie rfl ⟨rfl, rfl⟩ (by kernel_rfl) rfl plain (by kernel_rfl)
end Go.Proofs.YtndjhgjakdkkaaaDoor.fnPattern
namespace Go.Proofs.YtndjhgjakdkkaaaDoor
theorem fnPattern_holds : Rows.FnPatternCardSaid := fnPattern.card
end Go.Proofs.YtndjhgjakdkkaaaDoor
end
