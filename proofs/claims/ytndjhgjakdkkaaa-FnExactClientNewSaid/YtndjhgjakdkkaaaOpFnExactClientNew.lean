/- How the parameters' types are opened. -/
import Derived.Test.YtndjhgjakdkkaaaM0
import Derived.Test.YtndjhgjakdkkaaaFOpens
import Derived.KernelRfl
namespace Go.Proofs.Ytndjhgjakdkkaaa.M
open Go.RowKit Go.Proofs.YtndjhgjakdkkaaaW.PrintWords Go.Proofs.Ytndjhgjakdkkaaa.Frame
set_option linter.unusedVariables false
end Go.Proofs.Ytndjhgjakdkkaaa.M
