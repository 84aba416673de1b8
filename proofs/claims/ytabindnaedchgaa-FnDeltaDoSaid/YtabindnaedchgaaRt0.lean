/- The program's types, and what its package variables hold. -/
import Derived.Test.YtabindnaedchgaaPl0
import Derived.Test.YtabindnaedchgaaProg
namespace Go.Proofs.Ytabindnaedchgaa.Rf
open Go Go.RowKit
set_option linter.unusedVariables false
abbrev t22 : Ty := (.row (.int .u8))
abbrev t37 : Ty := (.st (.pair .str .str))
abbrev t24 : Ty := (.row t37)
abbrev t91 : Ty := (.st (.pair t22 (.int .i64)))
abbrev t71 : Ty := (.st (.pair .str (.pair .bool (.pair .str (.pair .str .str)))))
abbrev t23 : Ty := (.row t71)
abbrev t7 : Ty := (.st (.pair (.int .i64) (.pair (.int .i64) (.pair .bool (.int .u8)))))
abbrev t25 : Ty := (.st (.pair t23 t24))
abbrev t28 : Ty := (.st (.pair (.row .str) (.pair t24 (.pair .bool t23))))
def E : TyOf := [(2, (.int .i64)), (3, (.int .i64)), (4, .bool), (5, (.int .u8)), (6, (.int .u8)), (7, t7), (8, t7), (9, .str), (10, .str), (11, .str), (12, (.int .u64)), (21, (.int .i32)), (22, t22), (23, t23), (24, t24), (25, t25), (26, t25), (27, (.row .str)), (28, t28), (29, t28), (37, t37), (38, t37), (41, t23), (42, t24), (43, t25), (44, t25), (45, t28), (46, t28), (71, t71), (72, t71), (91, t91), (92, t91), (108, t71), (110, t37), (119, (.int .u64)), (127, (.int .i64)), (134, (.int .u32)), (136, (.int .u64)), (142, (.int .u64)), (161, (.int .u8)), (162, (.int .u8)), (165, (.int .i32)), (166, (.int .i32))]
theorem E_ok : EOk Try.prog E := .of (by kernel_rfl)
theorem mixed : Try.prog.follows .mixedOrders = true := by kernel_rfl
end Go.Proofs.Ytabindnaedchgaa.Rf
