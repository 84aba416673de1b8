/- How the parameters' types are opened. -/
import Derived.Test.YtndjhgjakdkkaaaM0
import Derived.Test.YtndjhgjakdkkaaaFOpens
import Derived.KernelRfl
namespace Go.Proofs.Ytndjhgjakdkkaaa.M
open Go.RowKit Go.Proofs.YtndjhgjakdkkaaaW.PrintWords Go.Proofs.Ytndjhgjakdkkaaa.Frame
set_option linter.unusedVariables false
def good24 (x : S24) : Prop := x.f0.size ≤ 9223372036854775807 ∧ (x.f1.length ≤ 9223372036854775807 ∧ ∀ y ∈ x.f1, (Lit.int .i64 y).wf = true)
theorem opens24 : Opens Try.prog 24 k24 good24 := Opens.struct (g := fun p => (⟨p.1, p.2⟩ : S24)) (fun _ => rfl) Try.underlying24 (by kernel_rfl) (OpensF.cons rfl (by kernel_rfl) (Opens.string Try.underlying9) (OpensF.one rfl (by kernel_rfl) (Opens.slice Try.underlying22 (by kernel_rfl) (Opens.int Try.underlying3))))
end Go.Proofs.Ytndjhgjakdkkaaa.M
