/- PatternPut and PatternGet, plain: the program's are the reference's; what is marked is held. -/
import Derived.Test.YtndjhgjakdkkaaaDoorPuPattern
import Derived.Test.YtndjhgjakdkkaaaDoorMspecPatternPut
import Derived.Test.YtndjhgjakdkkaaaDoorMimplPatternPut
import Derived.Test.YtndjhgjakdkkaaaDoorMspecPatternGet
import Derived.Test.YtndjhgjakdkkaaaDoorMimplPatternGet
import Derived.Test.YtndjhgjakdkkaaaDoorMlawsmarkPattern
import Derived.Test.YtndjhgjakdkkaaaDoorMlawsheldPattern
import Derived.Lib.Itoa
namespace Go.Proofs.YtndjhgjakdkkaaaDoor.M
open Go.RowKit Go.Proofs.YtndjhgjakdkkaaaDoorW.PrintWords Go.Proofs.YtndjhgjakdkkaaaDoor.Pu
set_option linter.unusedVariables false
set_option linter.unusedSimpArgs false

/-- One figure. -/
def figB (n : Int) : ByteArray := strOfNums [(48 + n) % 256]
theorem figB_size (n : Int) : (figB n).size = 1 := rfl
theorem l1Dec_fig (n : Int) (h0 : 0 < n) (h1 : n ≤ 9) : Ev (fun k => spec_l1Dec.f k n) (figB n) := by
  have c1 : ¬ n < -9223372036854775807 := by omega
  have c2 : ¬ n < 0 := by omega
  have c3 : n < 10 := by omega
  have w1 : Aside0 (wrap64 (48 + n) = 48 + n) := ⟨wid (by omega) (by omega)⟩
  apply Ev.succ
  simp only [spec_l1Dec.f, c1, c2, c3, w1.out, if_true, if_false]
  exact Ev.now _
theorem itoa_fig (n : Int) (h0 : 0 < n) (h1 : n ≤ 9) : strconv_Itoa.f n = some (figB n) := by
  have e : n = 1 ∨ n = 2 ∨ n = 3 ∨ n = 4 ∨ n = 5 ∨ n = 6 ∨ n = 7 ∨ n = 8 ∨ n = 9 := by omega
  rcases e with rfl | rfl | rfl | rfl | rfl | rfl | rfl | rfl | rfl <;> decide +kernel
/-- The text of a pattern, up to its number i. -/
def putP (s : ByteArray) (ns : List Int) : Nat → ByteArray
  | 0 => (⟨#[]⟩ : ByteArray)
  | i + 1 => putP s ns i ++ (if rd ns (i : Int) > 0 then figB (rd ns (i : Int)) else ByteArray.empty) ++ (if i < s.size then s.extract i (i + 1) else ByteArray.empty)
theorem putP_size (s : ByteArray) (ns : List Int) : ∀ i, (putP s ns i).size ≤ 2 * i
  | 0 => Nat.le_refl _
  | i + 1 => by
    have ih := putP_size s ns i
    have h1 : (if rd ns (i : Int) > 0 then figB (rd ns (i : Int)) else ByteArray.empty).size ≤ 1 := by
      split
      · rw [figB_size]; omega
      · exact Nat.zero_le _
    have h2 : (if i < s.size then s.extract i (i + 1) else ByteArray.empty).size ≤ 1 := by
      split
      · rw [ByteArray.size_extract]; omega
      · exact Nat.zero_le _
    unfold putP
    rw [ByteArray.size_append, ByteArray.size_append]
    omega
theorem figs_of {s : ByteArray} {ns : List Int} (h : patOk s ns = true) : s.size ≤ 8 ∧ ns.length = s.size + 1 ∧ ∀ i, i < ns.length → 0 ≤ rd ns (i : Int) ∧ rd ns (i : Int) ≤ 9 := by
  unfold patOk at h
  simp only [Bool.and_eq_true, decide_eq_true_eq] at h
  exact ⟨h.2.2.1.2, h.2.2.2, fun i hi => h.2.1 i hi⟩
theorem spec_l9Put_ev (s : ByteArray) (ns : List Int) (h : patOk s ns = true) : Ev (fun k => spec_l9Put.f k s ns) (putP s ns ns.length) := by
  obtain ⟨h8, hl, hf⟩ := figs_of h
  unfold spec_l9Put.f
  refine fold_loop (g := fun k b x => spec_l9Put.l0 k b x s ns) ns.length (putP s ns) _ ?_ ?_
  · intro i hi hr
    have hz := putP_size s ns i
    obtain ⟨f0, f1⟩ := hf i hi
    have c1 : (i : Int) < (ns.length : Int) := by omega
    have c2 : (0 : Int) ≤ (i : Int) := by omega
    have w1 : Aside0 (wrap64 ((i : Int) + 1) = (i : Int) + 1) := ⟨wid (by omega) (by omega)⟩
    have c3 : (i : Int) ≤ (i : Int) + 1 := by omega
    have e0 : (i : Int).toNat = i := by omega
    have e1 : ((i : Int) + 1).toNat = i + 1 := by omega
    apply Ev.succ
    by_cases p : rd ns (i : Int) > 0
    · have c4 : (putP s ns i).size + (figB (rd ns (i : Int))).size ≤ 9223372036854775807 := by rw [figB_size]; omega
      by_cases q : i < s.size
      · have c5 : (i : Int) < (s.size : Int) := by omega
        have c6 : (i : Int) + 1 ≤ (s.size : Int) := by omega
        have c7 : (putP s ns i ++ figB (rd ns (i : Int))).size + (s.extract i (i + 1)).size ≤ 9223372036854775807 := by rw [ByteArray.size_append, figB_size, ByteArray.size_extract]; omega
        simp only [spec_l9Put.l0, c1, c2, p, if_true]
        refine Ev.bind (l1Dec_fig _ p f1) ?_
        simp only [c4, c5, c3, w1.out, c6, e0, e1, c7, if_true]
        simp only [putP, p, q, if_true] at hr
        exact hr
      · have c5 : ¬ (i : Int) < (s.size : Int) := by omega
        simp only [spec_l9Put.l0, c1, c2, p, if_true]
        refine Ev.bind (l1Dec_fig _ p f1) ?_
        simp only [c4, c5, w1.out, if_true, if_false]
        simp only [putP, p, q, if_true, if_false, ByteArray.append_empty] at hr
        exact hr
    · by_cases q : i < s.size
      · have c5 : (i : Int) < (s.size : Int) := by omega
        have c6 : (i : Int) + 1 ≤ (s.size : Int) := by omega
        have c7 : (putP s ns i).size + (s.extract i (i + 1)).size ≤ 9223372036854775807 := by rw [ByteArray.size_extract]; omega
        simp only [spec_l9Put.l0, c1, c2, p, c5, c3, w1.out, c6, e0, e1, c7, if_true, if_false]
        simp only [putP, p, q, if_true, if_false, ByteArray.append_empty] at hr
        exact hr
      · have c5 : ¬ (i : Int) < (s.size : Int) := by omega
        simp only [spec_l9Put.l0, c1, c2, p, c5, w1.out, if_true, if_false]
        simp only [putP, p, q, if_false, ByteArray.append_empty] at hr
        exact hr
  · apply Ev.succ
    simp only [spec_l9Put.l0, Int.lt_irrefl, if_false]
    exact Ev.now _
def patText (s : ByteArray) (ns : List Int) : ByteArray := if patOk s ns = true then putP s ns ns.length else (⟨#[]⟩ : ByteArray)
theorem spec_PatternPut_ev (s : ByteArray) (ns : List Int) (hs : s.size ≤ 9223372036854775800) (hn : ns.length ≤ 9223372036854775800) : Ev (fun k => spec_PatternPut.f k s ns) (patText s ns) := by
  unfold spec_PatternPut.f
  refine Ev.bind (spec_PatternOk_ev s ns hs hn) ?_
  cases hp : patOk s ns with
  | false =>
    simp only [Bool.false_eq_true, if_false]
    refine Ev.cast (Ev.now _) ?_
    simp [patText, hp]
  | true =>
    simp only [if_true]
    refine Ev.bind (spec_l9Put_ev s ns hp) (Ev.cast (Ev.now _) ?_)
    simp [patText, hp]
theorem impl_PatternPut_ev (s : ByteArray) (ns : List Int) (hs : s.size ≤ 9223372036854775800) (hn : ns.length ≤ 9223372036854775800) : Ev (fun k => impl_PatternPut.f k s ns) (patText s ns) := by
  unfold impl_PatternPut.f
  refine Ev.bind (impl_PatternOk_ev s ns hs hn) ?_
  cases hp : patOk s ns with
  | false =>
    simp only [Bool.false_eq_true, if_false]
    refine Ev.cast (Ev.now _) ?_
    simp [patText, hp]
  | true =>
    obtain ⟨h8, hl, hf⟩ := figs_of hp
    simp only [if_true]
    have e : patText s ns = putP s ns ns.length := by simp [patText, hp]
    rw [e]
    refine fold_loop (g := fun k b x => impl_PatternPut.l0 k b ns (ns.length : Int) x s ns) ns.length (putP s ns) _ ?_ ?_
    · intro i hi hr
      have hz := putP_size s ns i
      obtain ⟨f0, f1⟩ := hf i hi
      have c1 : (i : Int) < (ns.length : Int) := by omega
      have c2 : (0 : Int) ≤ (i : Int) := by omega
      have w1 : Aside0 (wrap64 ((i : Int) + 1) = (i : Int) + 1) := ⟨wid (by omega) (by omega)⟩
      have c3 : (i : Int) ≤ (i : Int) + 1 := by omega
      have e0 : (i : Int).toNat = i := by omega
      have e1 : ((i : Int) + 1).toNat = i + 1 := by omega
      apply Ev.succ
      by_cases p : rd ns (i : Int) > 0
      · have c4 : (putP s ns i).size + (figB (rd ns (i : Int))).size ≤ 9223372036854775807 := by rw [figB_size]; omega
        by_cases q : i < s.size
        · have c5 : (i : Int) < (s.size : Int) := by omega
          have c6 : (i : Int) + 1 ≤ (s.size : Int) := by omega
          have c7 : (putP s ns i ++ figB (rd ns (i : Int))).size + (s.extract i (i + 1)).size ≤ 9223372036854775807 := by rw [ByteArray.size_append, figB_size, ByteArray.size_extract]; omega
          simp only [impl_PatternPut.l0, c1, c2, p, itoa_fig _ p f1, Option.bind_some, c4, c5, c3, w1.out, c6, e0, e1, c7, if_true]
          simp only [putP, p, q, if_true] at hr
          exact hr
        · have c5 : ¬ (i : Int) < (s.size : Int) := by omega
          simp only [impl_PatternPut.l0, c1, c2, p, itoa_fig _ p f1, Option.bind_some, c4, c5, w1.out, if_true, if_false]
          simp only [putP, p, q, if_true, if_false, ByteArray.append_empty] at hr
          exact hr
      · by_cases q : i < s.size
        · have c5 : (i : Int) < (s.size : Int) := by omega
          have c6 : (i : Int) + 1 ≤ (s.size : Int) := by omega
          have c7 : (putP s ns i).size + (s.extract i (i + 1)).size ≤ 9223372036854775807 := by rw [ByteArray.size_extract]; omega
          simp only [impl_PatternPut.l0, c1, c2, p, c5, c3, w1.out, c6, e0, e1, c7, if_true, if_false]
          simp only [putP, p, q, if_true, if_false, ByteArray.append_empty] at hr
          exact hr
        · have c5 : ¬ (i : Int) < (s.size : Int) := by omega
          simp only [impl_PatternPut.l0, c1, c2, p, c5, w1.out, if_true, if_false]
          simp only [putP, p, q, if_false, ByteArray.append_empty] at hr
          exact hr
    · apply Ev.succ
      simp only [impl_PatternPut.l0, Int.lt_irrefl, if_false]
      exact Ev.now _

/-! ### reading -/
/-- What has been read up to byte i: letters, numbers, the number that is pending. -/
def readP (t : ByteArray) : Nat → ByteArray × List Int × Int
  | 0 => ((⟨#[]⟩ : ByteArray), [], 0)
  | i + 1 => if 48 ≤ bt t (i : Int) ∧ bt t (i : Int) ≤ 57 then ((readP t i).1, (readP t i).2.1, (bt t (i : Int) - 48) % 256) else ((readP t i).1 ++ t.extract i (i + 1), (readP t i).2.1 ++ [(readP t i).2.2], 0)
theorem readP_size (t : ByteArray) : ∀ i, (readP t i).1.size ≤ i ∧ (readP t i).2.1.length ≤ i
  | 0 => ⟨Nat.le_refl _, Nat.le_refl _⟩
  | i + 1 => by
    have ih := readP_size t i
    unfold readP
    split
    · exact ⟨by show (readP t i).1.size ≤ _; omega, by show (readP t i).2.1.length ≤ _; omega⟩
    · refine ⟨?_, ?_⟩
      · show ((readP t i).1 ++ t.extract i (i + 1)).size ≤ _
        rw [ByteArray.size_append, ByteArray.size_extract]
        omega
      · show ((readP t i).2.1 ++ [(readP t i).2.2]).length ≤ _
        simp
        omega
def getP (t : ByteArray) : ByteArray × List Int × Bool :=
  if patOk (readP t t.size).1 ((readP t t.size).2.1 ++ [(readP t t.size).2.2]) = true ∧ putP (readP t t.size).1 ((readP t t.size).2.1 ++ [(readP t t.size).2.2]) ((readP t t.size).2.1 ++ [(readP t t.size).2.2]).length = t
  then ((readP t t.size).1, (readP t t.size).2.1 ++ [(readP t t.size).2.2], true) else ((⟨#[]⟩ : ByteArray), [], false)
theorem set_last (ns : List Int) (a b : Int) : (ns ++ [a]).set ns.length b = ns ++ [b] := by
  rw [List.set_append_right _ _ (Nat.le_refl _), Nat.sub_self]
  rfl
theorem spec_PatternGet_ev (t : ByteArray) (ht : t.size ≤ 1048576) : Ev (fun k => spec_PatternGet.f k t) (getP t) := by
  unfold spec_PatternGet.f
  refine fold_loop (g := fun k (b : ByteArray × List Int × Int) x => spec_PatternGet.l0 k t x b.1 (b.2.1 ++ [b.2.2])) t.size (readP t) _ ?_ ?_
  · intro i hi hr
    obtain ⟨z1, z2⟩ := readP_size t i
    have c1 : (i : Int) < (t.size : Int) := by omega
    have c2 : (0 : Int) ≤ (i : Int) := by omega
    have w1 : Aside0 (wrap64 ((i : Int) + 1) = (i : Int) + 1) := ⟨wid (by omega) (by omega)⟩
    have c3 : (i : Int) ≤ (i : Int) + 1 := by omega
    have c6 : (i : Int) + 1 ≤ (t.size : Int) := by omega
    have e0 : (i : Int).toNat = i := by omega
    have e1 : ((i : Int) + 1).toNat = i + 1 := by omega
    have c7 : (readP t i).1.size + (t.extract i (i + 1)).size ≤ 9223372036854775807 := by rw [ByteArray.size_extract]; omega
    have c8 : ((readP t i).2.1 ++ [(readP t i).2.2]).length < 17592186044416 := by simp; omega
    have hl : ((((readP t i).2.1 ++ [(readP t i).2.2]).length : Nat) : Int) = ((readP t i).2.1.length : Int) + 1 := by simp
    have w2 : Aside0 (wrap64 (((readP t i).2.1.length : Int) + 1 - 1) = ((readP t i).2.1.length : Int)) := ⟨by rw [wid (by omega) (by omega)]; omega⟩
    have c9 : (0 : Int) ≤ ((readP t i).2.1.length : Int) := by omega
    have c10 : ((readP t i).2.1.length : Int) < ((readP t i).2.1.length : Int) + 1 := by omega
    have e2 : ((readP t i).2.1.length : Int).toNat = (readP t i).2.1.length := by omega
    apply Ev.succ
    by_cases f : 48 ≤ bt t (i : Int) ∧ bt t (i : Int) ≤ 57
    · have f1 : bt t (i : Int) ≥ 48 := f.1
      have f2 := f.2
      simp only [spec_PatternGet.l0, c1, c2, f1, f2, hl, w2.out, c9, c10, e2, w1.out, set_last, if_true]
      simp only [readP, f, and_self, if_true] at hr
      exact hr
    · have hr' : Ev (fun k => spec_PatternGet.l0 k t ((i : Int) + 1) ((readP t i).1 ++ t.extract i (i + 1)) ((readP t i).2.1 ++ [(readP t i).2.2] ++ [0])) (getP t) := by
        simp only [readP, f, if_false] at hr
        exact hr
      by_cases f1 : bt t (i : Int) ≥ 48
      · have f2 : ¬ bt t (i : Int) ≤ 57 := fun h => f ⟨f1, h⟩
        simp only [spec_PatternGet.l0, c1, c2, f1, f2, c3, w1.out, c6, e0, e1, c7, c8, if_true, if_false]
        exact hr'
      · simp only [spec_PatternGet.l0, c1, c2, f1, c3, w1.out, c6, e0, e1, c7, c8, if_true, if_false]
        exact hr'
  · obtain ⟨z1, z2⟩ := readP_size t t.size
    apply Ev.succ
    simp only [spec_PatternGet.l0, Int.lt_irrefl, if_false]
    refine Ev.bind (spec_PatternOk_ev _ _ (by omega) (by simp; omega)) ?_
    cases hp : patOk (readP t t.size).1 ((readP t t.size).2.1 ++ [(readP t t.size).2.2]) with
    | false =>
      simp only [Bool.false_eq_true, if_false]
      refine Ev.cast (Ev.now _) ?_
      simp [getP, hp]
    | true =>
      simp only [if_true]
      refine Ev.bind (spec_l9Put_ev _ _ hp) ?_
      by_cases e : putP (readP t t.size).1 ((readP t t.size).2.1 ++ [(readP t t.size).2.2]) ((readP t t.size).2.1 ++ [(readP t t.size).2.2]).length = t
      · have e' : (putP (readP t t.size).1 ((readP t t.size).2.1 ++ [(readP t t.size).2.2]) ((readP t t.size).2.1 ++ [(readP t t.size).2.2]).length).toList = t.toList := by rw [e]
        simp only [e', if_true]
        refine Ev.cast (Ev.now _) ?_
        unfold getP
        rw [if_pos ⟨hp, e⟩]
      · have e' : ¬ (putP (readP t t.size).1 ((readP t t.size).2.1 ++ [(readP t t.size).2.2]) ((readP t t.size).2.1 ++ [(readP t t.size).2.2]).length).toList = t.toList := fun h => e (toList_inj.1 h)
        simp only [e', if_false]
        refine Ev.cast (Ev.now _) ?_
        unfold getP
        rw [if_neg (fun h => e h.2)]
theorem impl_PatternGet_ev (t : ByteArray) (ht : t.size ≤ 1048576) : Ev (fun k => impl_PatternGet.f k t) (getP t) := by
  unfold impl_PatternGet.f
  refine fold_loop (g := fun k (b : ByteArray × List Int × Int) x => impl_PatternGet.l0 k t b.2.2 (t.size : Int) x b.1 b.2.1) t.size (readP t) _ ?_ ?_
  · intro i hi hr
    obtain ⟨z1, z2⟩ := readP_size t i
    have c1 : (i : Int) < (t.size : Int) := by omega
    have c2 : (0 : Int) ≤ (i : Int) := by omega
    have w1 : Aside0 (wrap64 ((i : Int) + 1) = (i : Int) + 1) := ⟨wid (by omega) (by omega)⟩
    have c3 : (i : Int) ≤ (i : Int) + 1 := by omega
    have c6 : (i : Int) + 1 ≤ (t.size : Int) := by omega
    have e0 : (i : Int).toNat = i := by omega
    have e1 : ((i : Int) + 1).toNat = i + 1 := by omega
    have c7 : (readP t i).1.size + (t.extract i (i + 1)).size ≤ 9223372036854775807 := by rw [ByteArray.size_extract]; omega
    have c8 : (readP t i).2.1.length < 17592186044416 := by omega
    apply Ev.succ
    by_cases f : 48 ≤ bt t (i : Int) ∧ bt t (i : Int) ≤ 57
    · have f1 : bt t (i : Int) ≥ 48 := f.1
      have f2 := f.2
      simp only [impl_PatternGet.l0, c1, c2, f1, f2, w1.out, if_true]
      simp only [readP, f, and_self, if_true] at hr
      exact hr
    · have hr' : Ev (fun k => impl_PatternGet.l0 k t 0 (t.size : Int) ((i : Int) + 1) ((readP t i).1 ++ t.extract i (i + 1)) ((readP t i).2.1 ++ [(readP t i).2.2])) (getP t) := by
        simp only [readP, f, if_false] at hr
        exact hr
      by_cases f1 : bt t (i : Int) ≥ 48
      · have f2 : ¬ bt t (i : Int) ≤ 57 := fun h => f ⟨f1, h⟩
        simp only [impl_PatternGet.l0, c1, c2, f1, f2, c3, w1.out, c6, e0, e1, c7, c8, if_true, if_false]
        exact hr'
      · simp only [impl_PatternGet.l0, c1, c2, f1, c3, w1.out, c6, e0, e1, c7, c8, if_true, if_false]
        exact hr'
  · obtain ⟨z1, z2⟩ := readP_size t t.size
    have c8 : (readP t t.size).2.1.length < 17592186044416 := by omega
    apply Ev.succ
    simp only [impl_PatternGet.l0, Int.lt_irrefl, if_false, c8, if_true, Option.bind_some]
    by_cases te : t = (⟨#[]⟩ : ByteArray)
    · have te' : t.toList = ([] : List UInt8) := by rw [te, ByteArray.toList_eq]
      simp only [te', if_true]
      refine Ev.cast (Ev.now _) ?_
      rw [te]
      rfl
    · have te' : ¬ t.toList = ([] : List UInt8) := fun h => te (toList_inj.1 (h.trans (by rw [ByteArray.toList_eq])))
      simp only [te', if_false]
      refine Ev.bind (impl_PatternPut_ev _ _ (by omega) (by simp; omega)) ?_
      unfold patText
      cases hp : patOk (readP t t.size).1 ((readP t t.size).2.1 ++ [(readP t t.size).2.2]) with
      | false =>
        have e' : ¬ ((⟨#[]⟩ : ByteArray)).toList = t.toList := fun h => te (toList_inj.1 h.symm)
        simp only [Bool.false_eq_true, if_false, e']
        refine Ev.cast (Ev.now _) ?_
        simp [getP, hp]
      | true =>
        simp only [if_true]
        by_cases e : putP (readP t t.size).1 ((readP t t.size).2.1 ++ [(readP t t.size).2.2]) ((readP t t.size).2.1 ++ [(readP t t.size).2.2]).length = t
        · have e' : (putP (readP t t.size).1 ((readP t t.size).2.1 ++ [(readP t t.size).2.2]) ((readP t t.size).2.1 ++ [(readP t t.size).2.2]).length).toList = t.toList := by rw [e]
          simp only [e', if_true]
          refine Ev.cast (Ev.now _) ?_
          unfold getP
          rw [if_pos ⟨hp, e⟩]
        · have e' : ¬ (putP (readP t t.size).1 ((readP t t.size).2.1 ++ [(readP t t.size).2.2]) ((readP t t.size).2.1 ++ [(readP t t.size).2.2]).length).toList = t.toList := fun h => e (toList_inj.1 h)
          simp only [e', if_false]
          refine Ev.cast (Ev.now _) ?_
          unfold getP
          rw [if_neg (fun h => e h.2)]
theorem getP_len (t : ByteArray) : (getP t).2.1.length ≤ t.size + 1 := by
  have := readP_size t t.size
  unfold getP
  split
  · show ((readP t t.size).2.1 ++ [(readP t t.size).2.2]).length ≤ _
    simp
    omega
  · exact Nat.zero_le _

/-! ### marks -/
def marked (a : Int) (n : Nat) : List Int := (List.range n).map fun (i : Nat) => a + (i : Int)
theorem marked_length (a : Int) (n : Nat) : (marked a n).length = n := by simp [marked]
theorem markIntS_ev (xs : List Int) (a : Int) (h0 : 0 ≤ a) (h1 : a ≤ 1000000000) (hl : xs.length ≤ 1000000000) : Ev (fun k => laws_markIntS.f k xs a) (a + (xs.length : Int), marked a xs.length) := by
  unfold laws_markIntS.f
  have z : xs = marked a 0 ++ xs.drop 0 := by simp [marked]
  have z2 : a = a + ((0 : Nat) : Int) := by omega
  have key : Ev (fun k => laws_markIntS.l0 k (marked a 0 ++ xs.drop 0) (a + ((0 : Nat) : Int)) 0) (a + (xs.length : Int), marked a xs.length) := by
    refine fold_loop (g := fun k (b : List Int × Int) x => laws_markIntS.l0 k b.1 b.2 x) xs.length (fun i => (marked a i ++ xs.drop i, a + (i : Int))) _ ?_ ?_
    · intro i hi hr
      have c1 : (i : Int) < ((marked a i ++ xs.drop i).length : Int) := by simp [marked_length]; omega
      have c2 : (0 : Int) ≤ (i : Int) := by omega
      have w1 : Aside0 (wrap64 ((i : Int) + 1) = (i : Int) + 1) := ⟨wid (by omega) (by omega)⟩
      have w2 : Aside0 (wrap64 (a + (i : Int) + 1) = a + ((i + 1 : Nat) : Int)) := ⟨by rw [wid (by omega) (by omega)]; omega⟩
      have e0 : (i : Int).toNat = i := by omega
      have s1 : (marked a i ++ xs.drop i).set i (a + (i : Int)) = marked a (i + 1) ++ xs.drop (i + 1) := by
        rw [List.set_append_right _ _ (by rw [marked_length]; omega), marked_length, Nat.sub_self, List.drop_eq_getElem_cons hi, List.set_cons_zero]
        simp [marked, List.range_succ]
      apply Ev.succ
      simp only [laws_markIntS.l0, c1, c2, w1.out, w2.out, e0, s1, if_true]
      exact hr
    · have c1 : ¬ (xs.length : Int) < ((marked a xs.length ++ xs.drop xs.length).length : Int) := by simp [marked_length]
      apply Ev.succ
      simp only [laws_markIntS.l0, c1, if_false]
      refine Ev.cast (Ev.now _) ?_
      simp
  rw [← z, ← z2] at key
  exact key
theorem heldIntS_ev (n : Nat) (a : Int) (h0 : 0 ≤ a) (h1 : a ≤ 1000000000) (hl : n ≤ 1000000000) : Ev (fun k => laws_heldIntS.f k (marked a n) a) (a + (n : Int)) := by
  unfold laws_heldIntS.f
  have z2 : a = a + ((0 : Nat) : Int) := by omega
  have key : Ev (fun k => laws_heldIntS.l0 k (marked a n) (a + ((0 : Nat) : Int)) 0) (a + (n : Int)) := by
    refine fold_loop (g := fun k b x => laws_heldIntS.l0 k (marked a n) b x) n (fun i => a + (i : Int)) _ ?_ ?_
    · intro i hi hr
      have c1 : (i : Int) < ((marked a n).length : Int) := by rw [marked_length]; omega
      have c2 : (0 : Int) ≤ (i : Int) := by omega
      have w1 : Aside0 (wrap64 ((i : Int) + 1) = (i : Int) + 1) := ⟨wid (by omega) (by omega)⟩
      have w2 : Aside0 (wrap64 (a + (i : Int) + 1) = a + ((i + 1 : Nat) : Int)) := ⟨by rw [wid (by omega) (by omega)]; omega⟩
      have r1 : rd (marked a n) (i : Int) = a + (i : Int) := by simp [rd, marked, hi]
      apply Ev.succ
      simp only [laws_heldIntS.l0, c1, c2, r1, w1.out, w2.out, if_true]
      exact hr
    · have c1 : ¬ (n : Int) < ((marked a n).length : Int) := by rw [marked_length]; omega
      apply Ev.succ
      simp only [laws_heldIntS.l0, c1, if_false]
      exact Ev.now _
  rw [← z2] at key
  exact key
theorem markPattern_ev (s : ByteArray) (xs : List Int) (hl : xs.length ≤ 1000000000) : Ev (fun k => laws_markPattern.f k s xs 1) (1 + (xs.length : Int), marked 1 xs.length) := by
  unfold laws_markPattern.f
  exact Ev.bind (markIntS_ev xs 1 (by omega) (by omega) hl) (Ev.now _)
theorem heldPattern_ev (s : ByteArray) (n : Nat) (hl : n ≤ 1000000000) : Ev (fun k => laws_heldPattern.f k s (marked 1 n) 1) (1 + (n : Int)) := by
  unfold laws_heldPattern.f
  refine Ev.bind (heldIntS_ev n 1 (by omega) (by omega) hl) ?_
  have c : ¬ (1 + (n : Int)) < 0 := by omega
  simp only [c, if_false]
  exact Ev.now _
end Go.Proofs.YtndjhgjakdkkaaaDoor.M
