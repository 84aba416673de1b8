/- FnExactPatternPut, plain. -/
import Derived.Test.YtndjhgjakdkkaaaDoorPuPatternText
import Derived.Test.YtndjhgjakdkkaaaDoorMlawsFnExactPatternPut
import Derived.Test.YtndjhgjakdkkaaaDoorOpFnExactPatternPut
namespace Go.Proofs.YtndjhgjakdkkaaaDoor.M
open Go.RowKit Go.Proofs.YtndjhgjakdkkaaaDoorW.PrintWords Go.Proofs.YtndjhgjakdkkaaaDoor.Pu
set_option linter.unusedVariables false
theorem FnExactPatternPut_pure (x : S37) (hx : good37 x) : ∃ k, laws_FnExactPatternPut.f k x.f0 x.f1 = some true := by
  apply Ev.rounds (g := fun k => laws_FnExactPatternPut.f k x.f0 x.f1)
  unfold laws_FnExactPatternPut.f
  obtain ⟨r, hr, h1, h2, h3⟩ := szPattern_small x.f0 x.f1 hx.1 hx.2.1 1048576 (by omega) (by omega)
  simp only [hr, Option.bind_some]
  by_cases c : r < 0
  · simp only [c, if_true]
    exact Ev.now _
  · simp only [c, if_false]
    have := h3 (by omega)
    refine Ev.bind (toPattern_ev x.f0 x.f1 (by omega)) ?_
    refine Ev.bind (spec_PatternPut_ev x.f0 x.f1 (by omega) (by omega)) ?_
    refine Ev.bind (toPattern_ev x.f0 x.f1 (by omega)) ?_
    refine Ev.bind (impl_PatternPut_ev x.f0 x.f1 (by omega) (by omega)) ?_
    simp only [if_true]
    refine Ev.bind (toPattern_ev x.f0 x.f1 (by omega)) ?_
    refine Ev.bind (eqPattern_refl x.f0 x.f1 (by omega)) ?_
    simp only [if_true]
    exact Ev.now _
end Go.Proofs.YtndjhgjakdkkaaaDoor.M
