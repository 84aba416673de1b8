/- FnExactPatternGet, plain. -/
import Derived.Test.YtndjhgjakdkkaaaDoorPuPatternText
import Derived.Test.YtndjhgjakdkkaaaDoorMlawsFnExactPatternGet
namespace Go.Proofs.YtndjhgjakdkkaaaDoor.M
open Go.RowKit Go.Proofs.YtndjhgjakdkkaaaDoorW.PrintWords Go.Proofs.YtndjhgjakdkkaaaDoor.Pu
set_option linter.unusedVariables false
theorem FnExactPatternGet_pure (t : ByteArray) (ht : t.size ≤ 140737488351232) : ∃ k, laws_FnExactPatternGet.f k t = some true := by
  apply Ev.rounds (g := fun k => laws_FnExactPatternGet.f k t)
  unfold laws_FnExactPatternGet.f
  by_cases c0 : (t.size : Int) > 1048576
  · simp only [c0, if_true]
    exact Ev.now _
  · simp only [c0, if_false]
    have hl := getP_len t
    refine Ev.bind (spec_PatternGet_ev t (by omega)) ?_
    refine Ev.bind (impl_PatternGet_ev t (by omega)) ?_
    refine Ev.bind (eqPattern_refl _ _ (by omega)) ?_
    simp only [if_true, bne_self_eq_false]
    apply Ev.succ
    simp only [laws_FnExactPatternGet.j0, Bool.false_eq_true, if_false]
    refine Ev.bind (markPattern_ev _ _ (by omega)) ?_
    refine Ev.bind (heldPattern_ev _ _ (by omega)) ?_
    have c1 : ¬ (1 + ((getP t).2.1.length : Int)) < 0 := by omega
    simp only [c1, if_false, if_true]
    refine Ev.bind (impl_PatternGet_ev t (by omega)) ?_
    refine Ev.bind (eqPattern_refl _ _ (by omega)) ?_
    simp only [if_true, bne_self_eq_false]
    apply Ev.succ
    simp only [laws_FnExactPatternGet.j1, Bool.false_eq_true, if_false]
    refine Ev.bind (heldPattern_ev _ _ (by omega)) ?_
    simp only [c1, if_false, if_true]
    exact Ev.now _
end Go.Proofs.YtndjhgjakdkkaaaDoor.M
