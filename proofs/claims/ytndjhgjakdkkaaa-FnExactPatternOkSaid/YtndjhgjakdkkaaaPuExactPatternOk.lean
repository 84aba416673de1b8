/- FnExactPatternOk, plain. -/
import Derived.Test.YtndjhgjakdkkaaaPuPattern
import Derived.Test.YtndjhgjakdkkaaaMlawsFnExactPatternOk
import Derived.Test.YtndjhgjakdkkaaaOpFnExactPatternOk
namespace Go.Proofs.Ytndjhgjakdkkaaa.M
open Go.RowKit Go.Proofs.YtndjhgjakdkkaaaW.PrintWords Go.Proofs.Ytndjhgjakdkkaaa.Pu
set_option linter.unusedVariables false
theorem FnExactPatternOk_pure (x : S24) (hx : good24 x) : ∃ k, laws_FnExactPatternOk.f k x.f0 x.f1 = some true := by
  apply Ev.rounds (g := fun k => laws_FnExactPatternOk.f k x.f0 x.f1)
  unfold laws_FnExactPatternOk.f
  obtain ⟨r, hr, h1, h2, h3⟩ := szPattern_small x.f0 x.f1 hx.1 hx.2.1 1048576 (by omega) (by omega)
  simp only [hr, Option.bind_some]
  by_cases c : r < 0
  · simp only [c, if_true]
    exact Ev.now _
  · simp only [c, if_false]
    have := h3 (by omega)
    refine Ev.bind (toPattern_ev x.f0 x.f1 (by omega)) ?_
    refine Ev.bind (spec_PatternOk_ev x.f0 x.f1 (by omega) (by omega)) ?_
    refine Ev.bind (toPattern_ev x.f0 x.f1 (by omega)) ?_
    refine Ev.bind (impl_PatternOk_ev x.f0 x.f1 (by omega) (by omega)) ?_
    simp only [bne_self_eq_false, Bool.false_eq_true, if_false]
    refine Ev.bind (toPattern_ev x.f0 x.f1 (by omega)) ?_
    refine Ev.bind (eqPattern_refl x.f0 x.f1 (by omega)) ?_
    simp only [if_true]
    exact Ev.now _
end Go.Proofs.Ytndjhgjakdkkaaa.M
