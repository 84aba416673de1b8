/- How the parameters' types are opened. -/
import Derived.Test.YtndjhgjakdkkaaaDoorM0
import Derived.Test.YtndjhgjakdkkaaaDoorFOpens
import Derived.KernelRfl
namespace Go.Proofs.YtndjhgjakdkkaaaDoor.M
open Go.RowKit Go.Proofs.YtndjhgjakdkkaaaDoorW.PrintWords Go.Proofs.YtndjhgjakdkkaaaDoor.Frame
set_option linter.unusedVariables false
structure S37 where
  f0 : ByteArray
  f1 : (List Int)
def k37 : Kd S37 := Kd.iso (Kd.pair Kd.string (Kd.slice 3 (Kd.int .i64))) (fun x : S37 => (x.f0, x.f1))
theorem k37_open {w : World} {x : S37} {cs : List Value} (h : k37.K w x cs) : ∃ A1 c1, cs = [.string x.f0, .slice A1 x.f1.length c1] ∧ x.f1.length ≤ c1 ∧ (Kd.int .i64).C w A1 x.f1.length x.f1 := by
  obtain ⟨_, _, rfl, rfl, ⟨A1, c1, rfl, l1, g1⟩⟩ := h
  exact ⟨A1, c1, rfl, l1, g1⟩
def good37 (x : S37) : Prop := x.f0.size ≤ 9223372036854775807 ∧ (x.f1.length ≤ 9223372036854775807 ∧ ∀ y ∈ x.f1, (Lit.int .i64 y).wf = true)
theorem opens37 : Opens Tryd.prog 37 k37 good37 := Opens.struct (g := fun p => (⟨p.1, p.2⟩ : S37)) (fun _ => rfl) Tryd.underlying37 (by kernel_rfl) (OpensF.cons rfl (by kernel_rfl) (Opens.string Tryd.underlying9) (OpensF.one rfl (by kernel_rfl) (Opens.slice Tryd.underlying35 (by kernel_rfl) (Opens.int Tryd.underlying3))))
end Go.Proofs.YtndjhgjakdkkaaaDoor.M
