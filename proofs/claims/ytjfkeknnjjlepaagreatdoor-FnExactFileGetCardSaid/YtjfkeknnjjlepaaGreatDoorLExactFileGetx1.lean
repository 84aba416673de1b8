import Derived.Test.YtjfkeknnjjlepaaGreatDoorE1

section
namespace Go.Proofs.YtjfkeknnjjlepaaGreatDoor.Rf
open Go Go.RowKit
set_option linter.unusedVariables false
set_option linter.unusedSimpArgs false
theorem qw7 {α : Type} (b : Bool) (x y : Option α) : ifb b x y = Decidable.rec (motive := fun _ => Option α) (fun _ => y) (fun _ => x) (instDecidableEqBool b true) := by kernel_rfl
end Go.Proofs.YtjfkeknnjjlepaaGreatDoor.Rf
end
