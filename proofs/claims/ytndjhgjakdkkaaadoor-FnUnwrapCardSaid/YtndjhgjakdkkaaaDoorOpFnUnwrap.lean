/- How the parameters' types are opened. -/
import Derived.Test.YtndjhgjakdkkaaaDoorM0
import Derived.Test.YtndjhgjakdkkaaaDoorFOpens
import Derived.KernelRfl
namespace Go.Proofs.YtndjhgjakdkkaaaDoor.M
open Go.RowKit Go.Proofs.YtndjhgjakdkkaaaDoorW.PrintWords Go.Proofs.YtndjhgjakdkkaaaDoor.Frame
set_option linter.unusedVariables false
end Go.Proofs.YtndjhgjakdkkaaaDoor.M
