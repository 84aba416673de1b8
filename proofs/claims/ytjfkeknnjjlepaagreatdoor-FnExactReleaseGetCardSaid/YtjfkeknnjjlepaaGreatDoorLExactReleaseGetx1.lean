import Derived.Test.YtjfkeknnjjlepaaGreatDoorK4

section
namespace Go.Proofs.YtjfkeknnjjlepaaGreatDoor.Rf
open Go Go.RowKit
set_option linter.unusedVariables false
set_option linter.unusedSimpArgs false
theorem Al.thd {p : Nat → Prop} (h : Al p) : Al3 fun _ _ c => p c := h.imp fun _ h _ _ c _ _ hc => h c hc
end Go.Proofs.YtjfkeknnjjlepaaGreatDoor.Rf
end
