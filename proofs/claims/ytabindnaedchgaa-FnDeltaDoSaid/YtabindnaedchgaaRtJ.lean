/- No package variable counts here. -/
import Derived.Test.YtabindnaedchgaaRt0
namespace Go.Proofs.Ytabindnaedchgaa.Rf
open Go Go.RowKit
def Jp : Jd Try.prog := ⟨0, fun _ => True, fun _ _ _ _ => trivial⟩
end Go.Proofs.Ytabindnaedchgaa.Rf
