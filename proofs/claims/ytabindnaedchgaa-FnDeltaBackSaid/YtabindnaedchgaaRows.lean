/-
  No cell of these rows narrows 'for every input' (looked for: loops, veiled, ifaces, maps, wideKeys, modest, calm, conditions, laid).
  DERIVED. THE GIVEN ROWS OF THIS SEAT. 3 by the template 'for every input the law returns true; each argument reads behind the call as it read before'; 0 by the template 'total and deterministic' (their statements: YtabindnaedchgaaTotals.lean).
  GIVEN WITH THE SEED: the statements are not yours to turn. If you find one false, say at which input.
  Laid BY PROGRAM, IN A SANDBOX (cutbox-rows.mjs): the forced cells as the released guide's own fill.sh prints them over the translation de8b86c6fb49b81b… (all of the seat's roots in one cut). By AI agents, Wed Nov 11 2026. No macro, syntax, notation, axiom, sorry.
-/
import Derived.Test.YtabindnaedchgaaChecked
import GoSem.Claim
import GoSem.ClaimJoined
import GoSem.ClaimMapViews
import Derived.JoinedTies
import Derived.KernelRfl
namespace Go.Proofs.Ytabindnaedchgaa
/- THE CELL 'sum', in the pinned program and in every row, IS THE sha256 OF THE DUMP (.gsa) THAT YtabindnaedchgaaProg.lean LOADS. Nothing in Lean hashes anything: it is a label: what it is worth is what the hold of that sum in a sandbox is worth. -/
noncomputable def Try.pinned : Pinned := { name := "ytabindnaedchgaa", sum := "de8b86c6fb49b81bb536f183dc5edbea1a1f7e881450223f4e754b9f69a98ff0", checked := Try.checked }
namespace Rows
def none {H : Type} : Left H := { results := [], args := [] }

/-- 'laws.FnDeltaDo': WHATEVER THE INPUT: true; the input reads as it did. -/
def fnDeltaDoSpec : ChangeSpec := { name := "fnDeltaDo", fn := fun _ => fun
  | [d] => { results := [.lit (.bool true)], args := [d] }
  | _ => none }
def fnDeltaDoRow : OpenClaim := { program := "ytabindnaedchgaa", sum := "de8b86c6fb49b81bb536f183dc5edbea1a1f7e881450223f4e754b9f69a98ff0", func := "loop.example/medlar/laws.FnDeltaDo", spec := "fnDeltaDo", unfollowed := true, recurses := true, apart := false }
def FnDeltaDoSaid : Prop := fnDeltaDoRow.holds Try.pinned (OpenSpec.ofChange fnDeltaDoSpec)

/-- ITS FALSE NEIGHBOUR: 'it returns false'. Refute it at one input. -/
def fnDeltaDoWrong : ChangeSpec := { name := "fnDeltaDo", fn := fun _ => fun
  | [d] => { results := [.lit (.bool false)], args := [d] }
  | _ => none }
def FnDeltaDoWrongFalsely : Prop := fnDeltaDoRow.holds Try.pinned (OpenSpec.ofChange fnDeltaDoWrong)

/-- 'laws.FnExactDeltaDo': WHATEVER THE INPUT: true; the input reads as it did. -/
def fnExactDeltaDoSpec : ChangeSpec := { name := "fnExactDeltaDo", fn := fun _ => fun
  | [d1, d2] => { results := [.lit (.bool true)], args := [d1, d2] }
  | _ => none }
def fnExactDeltaDoRow : OpenClaim := { program := "ytabindnaedchgaa", sum := "de8b86c6fb49b81bb536f183dc5edbea1a1f7e881450223f4e754b9f69a98ff0", func := "loop.example/medlar/laws.FnExactDeltaDo", spec := "fnExactDeltaDo", unfollowed := true, recurses := true, apart := false }
def FnExactDeltaDoSaid : Prop := fnExactDeltaDoRow.holds Try.pinned (OpenSpec.ofChange fnExactDeltaDoSpec)

/-- ITS FALSE NEIGHBOUR: 'it returns false'. Refute it at one input. -/
def fnExactDeltaDoWrong : ChangeSpec := { name := "fnExactDeltaDo", fn := fun _ => fun
  | [d1, d2] => { results := [.lit (.bool false)], args := [d1, d2] }
  | _ => none }
def FnExactDeltaDoWrongFalsely : Prop := fnExactDeltaDoRow.holds Try.pinned (OpenSpec.ofChange fnExactDeltaDoWrong)

/-- 'laws.FnDeltaBack': WHATEVER THE INPUT: true; the input reads as it did. -/
def fnDeltaBackSpec : ChangeSpec := { name := "fnDeltaBack", fn := fun _ => fun
  | [d] => { results := [.lit (.bool true)], args := [d] }
  | _ => none }
def fnDeltaBackRow : OpenClaim := { program := "ytabindnaedchgaa", sum := "de8b86c6fb49b81bb536f183dc5edbea1a1f7e881450223f4e754b9f69a98ff0", func := "loop.example/medlar/laws.FnDeltaBack", spec := "fnDeltaBack", unfollowed := true, recurses := true, apart := false }
def FnDeltaBackSaid : Prop := fnDeltaBackRow.holds Try.pinned (OpenSpec.ofChange fnDeltaBackSpec)

/-- ITS FALSE NEIGHBOUR: 'it returns false'. Refute it at one input. -/
def fnDeltaBackWrong : ChangeSpec := { name := "fnDeltaBack", fn := fun _ => fun
  | [d] => { results := [.lit (.bool false)], args := [d] }
  | _ => none }
def FnDeltaBackWrongFalsely : Prop := fnDeltaBackRow.holds Try.pinned (OpenSpec.ofChange fnDeltaBackWrong)

/- THE SECOND FORM. 'bulk': how many values and letters a reading holds, each counted each time it is reached (what is shared counts as often as it is met; a slice's spare places count too). A statement '..UptoSaid' is the law's where the arguments, and the package variables that the reading takes, are together of bulk at most 1048576: NARROWER than '..Said'. Prove '..Said' where nothing that the law and all that it calls make is longer than what came in: it says more and counts as full. Else prove '..UptoSaid'. A law counts once. -/
mutual
def uptoBulk {H : Type} : DataW H → Nat
  | .lit (.string bytes) => bytes.length + 1
  | .lit _ => 1
  | .nil => 1
  | .ptr d => uptoBulk d + 1
  | .slice elems spare => uptoBulkAll elems + uptoBulkAll spare + 1
  | .agg parts => uptoBulkAll parts + 1
  | .iface _ d => uptoBulk d + 1
  | .map entries => uptoBulkEntries entries + 1
  | .held _ => 1
def uptoBulkAll {H : Type} : List (DataW H) → Nat
  | [] => 0
  | d :: r => uptoBulk d + uptoBulkAll r
def uptoBulkEntries {H : Type} : List (Lit × DataW H) → Nat
  | [] => 0
  | x :: r => uptoBulkEntry x + uptoBulkEntries r
def uptoBulkEntry {H : Type} : Lit × DataW H → Nat
  | (.string bytes, d) => bytes.length + uptoBulk d + 1
  | (_, d) => uptoBulk d + 1
 end
def uptoSmall : (H : Type) → List (DataW H) → Bool := fun _ ds => decide (uptoBulkAll ds ≤ 1048576)
def OpenSpec.upto (s : _root_.Go.ChangeSpec) : _root_.Go.OpenSpec := { _root_.Go.OpenSpec.ofChange s with cond := some uptoSmall }

/-- 'laws.FnDeltaDo', WHERE WHAT IT READS IS OF BULK AT MOST 1048576: true; the input reads as it did. -/
def fnDeltaDoUptoRow : OpenClaim := { program := "ytabindnaedchgaa", sum := "de8b86c6fb49b81bb536f183dc5edbea1a1f7e881450223f4e754b9f69a98ff0", func := "loop.example/medlar/laws.FnDeltaDo", spec := "fnDeltaDo", unfollowed := true, recurses := true, apart := false, narrowed := true }
def FnDeltaDoUptoSaid : Prop := fnDeltaDoUptoRow.holds Try.pinned (OpenSpec.upto fnDeltaDoSpec)

/-- 'laws.FnExactDeltaDo', WHERE WHAT IT READS IS OF BULK AT MOST 1048576: true; the input reads as it did. -/
def fnExactDeltaDoUptoRow : OpenClaim := { program := "ytabindnaedchgaa", sum := "de8b86c6fb49b81bb536f183dc5edbea1a1f7e881450223f4e754b9f69a98ff0", func := "loop.example/medlar/laws.FnExactDeltaDo", spec := "fnExactDeltaDo", unfollowed := true, recurses := true, apart := false, narrowed := true }
def FnExactDeltaDoUptoSaid : Prop := fnExactDeltaDoUptoRow.holds Try.pinned (OpenSpec.upto fnExactDeltaDoSpec)

/-- 'laws.FnDeltaBack', WHERE WHAT IT READS IS OF BULK AT MOST 1048576: true; the input reads as it did. -/
def fnDeltaBackUptoRow : OpenClaim := { program := "ytabindnaedchgaa", sum := "de8b86c6fb49b81bb536f183dc5edbea1a1f7e881450223f4e754b9f69a98ff0", func := "loop.example/medlar/laws.FnDeltaBack", spec := "fnDeltaBack", unfollowed := true, recurses := true, apart := false, narrowed := true }
def FnDeltaBackUptoSaid : Prop := fnDeltaBackUptoRow.holds Try.pinned (OpenSpec.upto fnDeltaBackSpec)

end Rows
end Go.Proofs.Ytabindnaedchgaa
