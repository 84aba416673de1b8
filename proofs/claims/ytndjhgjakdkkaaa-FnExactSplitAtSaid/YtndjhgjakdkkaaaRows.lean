/-
  No cell of these rows narrows 'for every input' (looked for: loops, veiled, ifaces, maps, wideKeys, modest, calm, conditions, laid).
  DERIVED. THE GIVEN ROWS OF THIS SEAT. 7 by the template 'for every input the law returns true; each argument reads behind the call as it read before'; 0 by the template 'total and deterministic' (their statements: YtndjhgjakdkkaaaTotals.lean).
  GIVEN WITH THE SEED: the statements are not yours to turn. If you find one false, say at which input.
  Laid BY PROGRAM, IN A SANDBOX (cutbox-rows.mjs): the forced cells as the released guide's own fill.sh prints them over the translation c30daeab1466da3a… (all of the seat's roots in one cut). By AI agents, Wed Nov 11 2026. No macro, syntax, notation, axiom, sorry.
-/
import Derived.Test.YtndjhgjakdkkaaaChecked
import GoSem.Claim
import GoSem.ClaimJoined
import GoSem.ClaimMapViews
import Derived.JoinedTies
import Derived.KernelRfl
namespace Go.Proofs.Ytndjhgjakdkkaaa
/- THE CELL 'sum', in the pinned program and in every row, IS THE sha256 OF THE DUMP (.gsa) THAT YtndjhgjakdkkaaaProg.lean LOADS. Nothing in Lean hashes anything: it is a label: what it is worth is what the hold of that sum in a sandbox is worth. -/
noncomputable def Try.pinned : Pinned := { name := "ytndjhgjakdkkaaa", sum := "c30daeab1466da3a3df66378e5f5edb50d75a4f0fc4a6c6a4cbaa4354171fac9", checked := Try.checked }
namespace Rows
def none {H : Type} : Left H := { results := [], args := [] }

/-- 'laws.FnExactPatternOk': WHATEVER THE INPUT: true; the input reads as it did. -/
def fnExactPatternOkSpec : ChangeSpec := { name := "fnExactPatternOk", fn := fun _ => fun
  | [d] => { results := [.lit (.bool true)], args := [d] }
  | _ => none }
def fnExactPatternOkRow : OpenClaim := { program := "ytndjhgjakdkkaaa", sum := "c30daeab1466da3a3df66378e5f5edb50d75a4f0fc4a6c6a4cbaa4354171fac9", func := "loop.example/medlar/laws.FnExactPatternOk", spec := "fnExactPatternOk", apart := false }
def FnExactPatternOkSaid : Prop := fnExactPatternOkRow.holds Try.pinned (OpenSpec.ofChange fnExactPatternOkSpec)

/-- ITS FALSE NEIGHBOUR: 'it returns false'. Refute it at one input. -/
def fnExactPatternOkWrong : ChangeSpec := { name := "fnExactPatternOk", fn := fun _ => fun
  | [d] => { results := [.lit (.bool false)], args := [d] }
  | _ => none }
def FnExactPatternOkWrongFalsely : Prop := fnExactPatternOkRow.holds Try.pinned (OpenSpec.ofChange fnExactPatternOkWrong)

/-- 'laws.FnExactClientNew': WHATEVER THE INPUT: true; the input reads as it did. -/
def fnExactClientNewSpec : ChangeSpec := { name := "fnExactClientNew", fn := fun _ => fun
  | [d] => { results := [.lit (.bool true)], args := [d] }
  | _ => none }
def fnExactClientNewRow : OpenClaim := { program := "ytndjhgjakdkkaaa", sum := "c30daeab1466da3a3df66378e5f5edb50d75a4f0fc4a6c6a4cbaa4354171fac9", func := "loop.example/medlar/laws.FnExactClientNew", spec := "fnExactClientNew", apart := false }
def FnExactClientNewSaid : Prop := fnExactClientNewRow.holds Try.pinned (OpenSpec.ofChange fnExactClientNewSpec)

/-- ITS FALSE NEIGHBOUR: 'it returns false'. Refute it at one input. -/
def fnExactClientNewWrong : ChangeSpec := { name := "fnExactClientNew", fn := fun _ => fun
  | [d] => { results := [.lit (.bool false)], args := [d] }
  | _ => none }
def FnExactClientNewWrongFalsely : Prop := fnExactClientNewRow.holds Try.pinned (OpenSpec.ofChange fnExactClientNewWrong)

/-- 'laws.FnExactSplitText': WHATEVER THE INPUT: true; the input reads as it did. -/
def fnExactSplitTextSpec : ChangeSpec := { name := "fnExactSplitText", fn := fun _ => fun
  | [d1, d2] => { results := [.lit (.bool true)], args := [d1, d2] }
  | _ => none }
def fnExactSplitTextRow : OpenClaim := { program := "ytndjhgjakdkkaaa", sum := "c30daeab1466da3a3df66378e5f5edb50d75a4f0fc4a6c6a4cbaa4354171fac9", func := "loop.example/medlar/laws.FnExactSplitText", spec := "fnExactSplitText", apart := false }
def FnExactSplitTextSaid : Prop := fnExactSplitTextRow.holds Try.pinned (OpenSpec.ofChange fnExactSplitTextSpec)

/-- ITS FALSE NEIGHBOUR: 'it returns false'. Refute it at one input. -/
def fnExactSplitTextWrong : ChangeSpec := { name := "fnExactSplitText", fn := fun _ => fun
  | [d1, d2] => { results := [.lit (.bool false)], args := [d1, d2] }
  | _ => none }
def FnExactSplitTextWrongFalsely : Prop := fnExactSplitTextRow.holds Try.pinned (OpenSpec.ofChange fnExactSplitTextWrong)

/-- 'laws.FnExactSplitAt': WHATEVER THE INPUT: true; the input reads as it did. -/
def fnExactSplitAtSpec : ChangeSpec := { name := "fnExactSplitAt", fn := fun _ => fun
  | [d1, d2] => { results := [.lit (.bool true)], args := [d1, d2] }
  | _ => none }
def fnExactSplitAtRow : OpenClaim := { program := "ytndjhgjakdkkaaa", sum := "c30daeab1466da3a3df66378e5f5edb50d75a4f0fc4a6c6a4cbaa4354171fac9", func := "loop.example/medlar/laws.FnExactSplitAt", spec := "fnExactSplitAt", apart := false }
def FnExactSplitAtSaid : Prop := fnExactSplitAtRow.holds Try.pinned (OpenSpec.ofChange fnExactSplitAtSpec)

/-- ITS FALSE NEIGHBOUR: 'it returns false'. Refute it at one input. -/
def fnExactSplitAtWrong : ChangeSpec := { name := "fnExactSplitAt", fn := fun _ => fun
  | [d1, d2] => { results := [.lit (.bool false)], args := [d1, d2] }
  | _ => none }
def FnExactSplitAtWrongFalsely : Prop := fnExactSplitAtRow.holds Try.pinned (OpenSpec.ofChange fnExactSplitAtWrong)

/-- 'laws.FnSplitAt': WHATEVER THE INPUT: true; the input reads as it did. -/
def fnSplitAtSpec : ChangeSpec := { name := "fnSplitAt", fn := fun _ => fun
  | [d] => { results := [.lit (.bool true)], args := [d] }
  | _ => none }
def fnSplitAtRow : OpenClaim := { program := "ytndjhgjakdkkaaa", sum := "c30daeab1466da3a3df66378e5f5edb50d75a4f0fc4a6c6a4cbaa4354171fac9", func := "loop.example/medlar/laws.FnSplitAt", spec := "fnSplitAt", recurses := true, apart := false }
def FnSplitAtSaid : Prop := fnSplitAtRow.holds Try.pinned (OpenSpec.ofChange fnSplitAtSpec)

/-- ITS FALSE NEIGHBOUR: 'it returns false'. Refute it at one input. -/
def fnSplitAtWrong : ChangeSpec := { name := "fnSplitAt", fn := fun _ => fun
  | [d] => { results := [.lit (.bool false)], args := [d] }
  | _ => none }
def FnSplitAtWrongFalsely : Prop := fnSplitAtRow.holds Try.pinned (OpenSpec.ofChange fnSplitAtWrong)

/-- 'laws.FnExactWorldNew': WHATEVER THE INPUT: true; the input reads as it did. -/
def fnExactWorldNewSpec : ChangeSpec := { name := "fnExactWorldNew", fn := fun _ => fun
  | [d1, d2] => { results := [.lit (.bool true)], args := [d1, d2] }
  | _ => none }
def fnExactWorldNewRow : OpenClaim := { program := "ytndjhgjakdkkaaa", sum := "c30daeab1466da3a3df66378e5f5edb50d75a4f0fc4a6c6a4cbaa4354171fac9", func := "loop.example/medlar/laws.FnExactWorldNew", spec := "fnExactWorldNew", apart := false }
def FnExactWorldNewSaid : Prop := fnExactWorldNewRow.holds Try.pinned (OpenSpec.ofChange fnExactWorldNewSpec)

/-- ITS FALSE NEIGHBOUR: 'it returns false'. Refute it at one input. -/
def fnExactWorldNewWrong : ChangeSpec := { name := "fnExactWorldNew", fn := fun _ => fun
  | [d1, d2] => { results := [.lit (.bool false)], args := [d1, d2] }
  | _ => none }
def FnExactWorldNewWrongFalsely : Prop := fnExactWorldNewRow.holds Try.pinned (OpenSpec.ofChange fnExactWorldNewWrong)

/-- 'laws.FnExactWrap': WHATEVER THE INPUT: true; the input reads as it did. -/
def fnExactWrapSpec : ChangeSpec := { name := "fnExactWrap", fn := fun _ => fun
  | [d1, d2, d3] => { results := [.lit (.bool true)], args := [d1, d2, d3] }
  | _ => none }
def fnExactWrapRow : OpenClaim := { program := "ytndjhgjakdkkaaa", sum := "c30daeab1466da3a3df66378e5f5edb50d75a4f0fc4a6c6a4cbaa4354171fac9", func := "loop.example/medlar/laws.FnExactWrap", spec := "fnExactWrap", apart := false }
def FnExactWrapSaid : Prop := fnExactWrapRow.holds Try.pinned (OpenSpec.ofChange fnExactWrapSpec)

/-- ITS FALSE NEIGHBOUR: 'it returns false'. Refute it at one input. -/
def fnExactWrapWrong : ChangeSpec := { name := "fnExactWrap", fn := fun _ => fun
  | [d1, d2, d3] => { results := [.lit (.bool false)], args := [d1, d2, d3] }
  | _ => none }
def FnExactWrapWrongFalsely : Prop := fnExactWrapRow.holds Try.pinned (OpenSpec.ofChange fnExactWrapWrong)

/- THE SECOND FORM. 'bulk': how many values and letters a reading holds, each counted each time it is reached (what is shared counts as often as it is met; a slice's spare places count too). A statement '..UptoSaid' is the law's where the arguments, and the package variables that the reading takes, are together of bulk at most 1048576: NARROWER than '..Said'. Prove '..Said' where nothing that the law and all that it calls make is longer than what came in: it says more and counts as full. Else prove '..UptoSaid'. A law counts once. -/
mutual
def uptoBulk {H : Type} : DataW H → Nat
  | .lit (.string bytes) => bytes.length + 1
  | .lit _ => 1
  | .nil => 1
  | .ptr d => uptoBulk d + 1
  | .slice elems spare => uptoBulkAll elems + uptoBulkAll spare + 1
  | .agg parts => uptoBulkAll parts + 1
  | .iface _ d => uptoBulk d + 1
  | .map entries => uptoBulkEntries entries + 1
  | .held _ => 1
def uptoBulkAll {H : Type} : List (DataW H) → Nat
  | [] => 0
  | d :: r => uptoBulk d + uptoBulkAll r
def uptoBulkEntries {H : Type} : List (Lit × DataW H) → Nat
  | [] => 0
  | x :: r => uptoBulkEntry x + uptoBulkEntries r
def uptoBulkEntry {H : Type} : Lit × DataW H → Nat
  | (.string bytes, d) => bytes.length + uptoBulk d + 1
  | (_, d) => uptoBulk d + 1
 end
def uptoSmall : (H : Type) → List (DataW H) → Bool := fun _ ds => decide (uptoBulkAll ds ≤ 1048576)
def OpenSpec.upto (s : _root_.Go.ChangeSpec) : _root_.Go.OpenSpec := { _root_.Go.OpenSpec.ofChange s with cond := some uptoSmall }

/-- 'laws.FnExactPatternOk', WHERE WHAT IT READS IS OF BULK AT MOST 1048576: true; the input reads as it did. -/
def fnExactPatternOkUptoRow : OpenClaim := { program := "ytndjhgjakdkkaaa", sum := "c30daeab1466da3a3df66378e5f5edb50d75a4f0fc4a6c6a4cbaa4354171fac9", func := "loop.example/medlar/laws.FnExactPatternOk", spec := "fnExactPatternOk", apart := false, narrowed := true }
def FnExactPatternOkUptoSaid : Prop := fnExactPatternOkUptoRow.holds Try.pinned (OpenSpec.upto fnExactPatternOkSpec)

/-- 'laws.FnExactClientNew', WHERE WHAT IT READS IS OF BULK AT MOST 1048576: true; the input reads as it did. -/
def fnExactClientNewUptoRow : OpenClaim := { program := "ytndjhgjakdkkaaa", sum := "c30daeab1466da3a3df66378e5f5edb50d75a4f0fc4a6c6a4cbaa4354171fac9", func := "loop.example/medlar/laws.FnExactClientNew", spec := "fnExactClientNew", apart := false, narrowed := true }
def FnExactClientNewUptoSaid : Prop := fnExactClientNewUptoRow.holds Try.pinned (OpenSpec.upto fnExactClientNewSpec)

/-- 'laws.FnExactSplitText', WHERE WHAT IT READS IS OF BULK AT MOST 1048576: true; the input reads as it did. -/
def fnExactSplitTextUptoRow : OpenClaim := { program := "ytndjhgjakdkkaaa", sum := "c30daeab1466da3a3df66378e5f5edb50d75a4f0fc4a6c6a4cbaa4354171fac9", func := "loop.example/medlar/laws.FnExactSplitText", spec := "fnExactSplitText", apart := false, narrowed := true }
def FnExactSplitTextUptoSaid : Prop := fnExactSplitTextUptoRow.holds Try.pinned (OpenSpec.upto fnExactSplitTextSpec)

/-- 'laws.FnExactSplitAt', WHERE WHAT IT READS IS OF BULK AT MOST 1048576: true; the input reads as it did. -/
def fnExactSplitAtUptoRow : OpenClaim := { program := "ytndjhgjakdkkaaa", sum := "c30daeab1466da3a3df66378e5f5edb50d75a4f0fc4a6c6a4cbaa4354171fac9", func := "loop.example/medlar/laws.FnExactSplitAt", spec := "fnExactSplitAt", apart := false, narrowed := true }
def FnExactSplitAtUptoSaid : Prop := fnExactSplitAtUptoRow.holds Try.pinned (OpenSpec.upto fnExactSplitAtSpec)

/-- 'laws.FnSplitAt', WHERE WHAT IT READS IS OF BULK AT MOST 1048576: true; the input reads as it did. -/
def fnSplitAtUptoRow : OpenClaim := { program := "ytndjhgjakdkkaaa", sum := "c30daeab1466da3a3df66378e5f5edb50d75a4f0fc4a6c6a4cbaa4354171fac9", func := "loop.example/medlar/laws.FnSplitAt", spec := "fnSplitAt", recurses := true, apart := false, narrowed := true }
def FnSplitAtUptoSaid : Prop := fnSplitAtUptoRow.holds Try.pinned (OpenSpec.upto fnSplitAtSpec)

/-- 'laws.FnExactWorldNew', WHERE WHAT IT READS IS OF BULK AT MOST 1048576: true; the input reads as it did. -/
def fnExactWorldNewUptoRow : OpenClaim := { program := "ytndjhgjakdkkaaa", sum := "c30daeab1466da3a3df66378e5f5edb50d75a4f0fc4a6c6a4cbaa4354171fac9", func := "loop.example/medlar/laws.FnExactWorldNew", spec := "fnExactWorldNew", apart := false, narrowed := true }
def FnExactWorldNewUptoSaid : Prop := fnExactWorldNewUptoRow.holds Try.pinned (OpenSpec.upto fnExactWorldNewSpec)

/-- 'laws.FnExactWrap', WHERE WHAT IT READS IS OF BULK AT MOST 1048576: true; the input reads as it did. -/
def fnExactWrapUptoRow : OpenClaim := { program := "ytndjhgjakdkkaaa", sum := "c30daeab1466da3a3df66378e5f5edb50d75a4f0fc4a6c6a4cbaa4354171fac9", func := "loop.example/medlar/laws.FnExactWrap", spec := "fnExactWrap", apart := false, narrowed := true }
def FnExactWrapUptoSaid : Prop := fnExactWrapUptoRow.holds Try.pinned (OpenSpec.upto fnExactWrapSpec)

end Rows
end Go.Proofs.Ytndjhgjakdkkaaa
