/-
  No cell of these rows narrows 'for every input' (looked for: loops, veiled, ifaces, maps, wideKeys, modest, calm, conditions, laid).
  DERIVED. THE GIVEN ROWS OF THIS SEAT. 3 by the template 'for every input the law returns true; each argument reads behind the call as it read before'; 0 by the template 'total and deterministic' (their statements: YtabindnaedchgaaGreatTotals.lean).
  GIVEN WITH THE SEED: the statements are not yours to turn. If you find one false, say at which input.
  Laid BY PROGRAM, IN A SANDBOX (cutbox-rows.mjs): the forced cells as the released guide's own fill.sh prints them over the translation b6623b88ee3d3797… (all of the seat's roots in one cut). By AI agents, Wed Nov 11 2026. No macro, syntax, notation, axiom, sorry.
-/
import Derived.Test.YtabindnaedchgaaGreatChecked
import GoSem.Claim
import GoSem.ClaimJoined
import GoSem.ClaimMapViews
import Derived.JoinedTies
import Derived.KernelRfl
namespace Go.Proofs.YtabindnaedchgaaGreat
/- THE CELL 'sum', in the pinned program and in every row, IS THE sha256 OF THE DUMP (.gsa) THAT YtabindnaedchgaaGreatProg.lean LOADS. Nothing in Lean hashes anything: it is a label: what it is worth is what the hold of that sum in a sandbox is worth. -/
noncomputable def Tryz.pinned : Pinned := { name := "ytabindnaedchgaagreat", sum := "b6623b88ee3d37971ecd902b322ad8485575b865220f4f66e99d43287fc9e8ba", checked := Tryz.checked }
namespace Rows
def none {H : Type} : Left H := { results := [], args := [] }

/-- 'laws.FnDeltaChain': WHATEVER THE INPUT: true; the input reads as it did. -/
def fnDeltaChainSpec : ChangeSpec := { name := "fnDeltaChain", fn := fun _ => fun
  | [d1, d2] => { results := [.lit (.bool true)], args := [d1, d2] }
  | _ => none }
def fnDeltaChainRow : OpenClaim := { program := "ytabindnaedchgaagreat", sum := "b6623b88ee3d37971ecd902b322ad8485575b865220f4f66e99d43287fc9e8ba", func := "loop.example/medlar/laws.FnDeltaChain", spec := "fnDeltaChain", unfollowed := true, recurses := true, apart := false }
def FnDeltaChainSaid : Prop := fnDeltaChainRow.holds Tryz.pinned (OpenSpec.ofChange fnDeltaChainSpec)

/-- ITS FALSE NEIGHBOUR: 'it returns false'. Refute it at one input. -/
def fnDeltaChainWrong : ChangeSpec := { name := "fnDeltaChain", fn := fun _ => fun
  | [d1, d2] => { results := [.lit (.bool false)], args := [d1, d2] }
  | _ => none }
def FnDeltaChainWrongFalsely : Prop := fnDeltaChainRow.holds Tryz.pinned (OpenSpec.ofChange fnDeltaChainWrong)

/-- 'laws.FnDeltaBoth': WHATEVER THE INPUT: true; the input reads as it did. -/
def fnDeltaBothSpec : ChangeSpec := { name := "fnDeltaBoth", fn := fun _ => fun
  | [d1, d2] => { results := [.lit (.bool true)], args := [d1, d2] }
  | _ => none }
def fnDeltaBothRow : OpenClaim := { program := "ytabindnaedchgaagreat", sum := "b6623b88ee3d37971ecd902b322ad8485575b865220f4f66e99d43287fc9e8ba", func := "loop.example/medlar/laws.FnDeltaBoth", spec := "fnDeltaBoth", unfollowed := true, recurses := true, apart := false }
def FnDeltaBothSaid : Prop := fnDeltaBothRow.holds Tryz.pinned (OpenSpec.ofChange fnDeltaBothSpec)

/-- ITS FALSE NEIGHBOUR: 'it returns false'. Refute it at one input. -/
def fnDeltaBothWrong : ChangeSpec := { name := "fnDeltaBoth", fn := fun _ => fun
  | [d1, d2] => { results := [.lit (.bool false)], args := [d1, d2] }
  | _ => none }
def FnDeltaBothWrongFalsely : Prop := fnDeltaBothRow.holds Tryz.pinned (OpenSpec.ofChange fnDeltaBothWrong)

/-- 'laws.FnExactDeltaBoth': WHATEVER THE INPUT: true; the input reads as it did. -/
def fnExactDeltaBothSpec : ChangeSpec := { name := "fnExactDeltaBoth", fn := fun _ => fun
  | [d1, d2] => { results := [.lit (.bool true)], args := [d1, d2] }
  | _ => none }
def fnExactDeltaBothRow : OpenClaim := { program := "ytabindnaedchgaagreat", sum := "b6623b88ee3d37971ecd902b322ad8485575b865220f4f66e99d43287fc9e8ba", func := "loop.example/medlar/laws.FnExactDeltaBoth", spec := "fnExactDeltaBoth", unfollowed := true, recurses := true, apart := false }
def FnExactDeltaBothSaid : Prop := fnExactDeltaBothRow.holds Tryz.pinned (OpenSpec.ofChange fnExactDeltaBothSpec)

/-- ITS FALSE NEIGHBOUR: 'it returns false'. Refute it at one input. -/
def fnExactDeltaBothWrong : ChangeSpec := { name := "fnExactDeltaBoth", fn := fun _ => fun
  | [d1, d2] => { results := [.lit (.bool false)], args := [d1, d2] }
  | _ => none }
def FnExactDeltaBothWrongFalsely : Prop := fnExactDeltaBothRow.holds Tryz.pinned (OpenSpec.ofChange fnExactDeltaBothWrong)

/- THE SECOND FORM. 'bulk': how many values and letters a reading holds, each counted each time it is reached (what is shared counts as often as it is met; a slice's spare places count too). A statement '..UptoSaid' is the law's where the arguments, and the package variables that the reading takes, are together of bulk at most 1048576: NARROWER than '..Said'. Prove '..Said' where nothing that the law and all that it calls make is longer than what came in: it says more and counts as full. Else prove '..UptoSaid'. A law counts once. -/
mutual
def uptoBulk {H : Type} : DataW H → Nat
  | .lit (.string bytes) => bytes.length + 1
  | .lit _ => 1
  | .nil => 1
  | .ptr d => uptoBulk d + 1
  | .slice elems spare => uptoBulkAll elems + uptoBulkAll spare + 1
  | .agg parts => uptoBulkAll parts + 1
  | .iface _ d => uptoBulk d + 1
  | .map entries => uptoBulkEntries entries + 1
  | .held _ => 1
def uptoBulkAll {H : Type} : List (DataW H) → Nat
  | [] => 0
  | d :: r => uptoBulk d + uptoBulkAll r
def uptoBulkEntries {H : Type} : List (Lit × DataW H) → Nat
  | [] => 0
  | x :: r => uptoBulkEntry x + uptoBulkEntries r
def uptoBulkEntry {H : Type} : Lit × DataW H → Nat
  | (.string bytes, d) => bytes.length + uptoBulk d + 1
  | (_, d) => uptoBulk d + 1
 end
def uptoSmall : (H : Type) → List (DataW H) → Bool := fun _ ds => decide (uptoBulkAll ds ≤ 1048576)
def OpenSpec.upto (s : _root_.Go.ChangeSpec) : _root_.Go.OpenSpec := { _root_.Go.OpenSpec.ofChange s with cond := some uptoSmall }

/-- 'laws.FnDeltaChain', WHERE WHAT IT READS IS OF BULK AT MOST 1048576: true; the input reads as it did. -/
def fnDeltaChainUptoRow : OpenClaim := { program := "ytabindnaedchgaagreat", sum := "b6623b88ee3d37971ecd902b322ad8485575b865220f4f66e99d43287fc9e8ba", func := "loop.example/medlar/laws.FnDeltaChain", spec := "fnDeltaChain", unfollowed := true, recurses := true, apart := false, narrowed := true }
def FnDeltaChainUptoSaid : Prop := fnDeltaChainUptoRow.holds Tryz.pinned (OpenSpec.upto fnDeltaChainSpec)

/-- 'laws.FnDeltaBoth', WHERE WHAT IT READS IS OF BULK AT MOST 1048576: true; the input reads as it did. -/
def fnDeltaBothUptoRow : OpenClaim := { program := "ytabindnaedchgaagreat", sum := "b6623b88ee3d37971ecd902b322ad8485575b865220f4f66e99d43287fc9e8ba", func := "loop.example/medlar/laws.FnDeltaBoth", spec := "fnDeltaBoth", unfollowed := true, recurses := true, apart := false, narrowed := true }
def FnDeltaBothUptoSaid : Prop := fnDeltaBothUptoRow.holds Tryz.pinned (OpenSpec.upto fnDeltaBothSpec)

/-- 'laws.FnExactDeltaBoth', WHERE WHAT IT READS IS OF BULK AT MOST 1048576: true; the input reads as it did. -/
def fnExactDeltaBothUptoRow : OpenClaim := { program := "ytabindnaedchgaagreat", sum := "b6623b88ee3d37971ecd902b322ad8485575b865220f4f66e99d43287fc9e8ba", func := "loop.example/medlar/laws.FnExactDeltaBoth", spec := "fnExactDeltaBoth", unfollowed := true, recurses := true, apart := false, narrowed := true }
def FnExactDeltaBothUptoSaid : Prop := fnExactDeltaBothUptoRow.holds Tryz.pinned (OpenSpec.upto fnExactDeltaBothSpec)

end Rows
end Go.Proofs.YtabindnaedchgaaGreat
