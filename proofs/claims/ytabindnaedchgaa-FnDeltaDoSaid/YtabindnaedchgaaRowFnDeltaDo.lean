/- 'FnDeltaDo': for every input it returns true and its arguments read as before. Conditions: those of the given row alone. -/
import Derived.Test.YtabindnaedchgaaRows
import Derived.Test.YtabindnaedchgaaRf27
import Derived.Test.YtabindnaedchgaaRtA3
import Derived.Test.YtabindnaedchgaaPlDeltaDo
import Derived.WalkKit
import Derived.ProofKit
import Derived.OpenShut
import Derived.ShutString
import Derived.ChangeOld
import Derived.Below
import Derived.Carry
import Derived.SizedLaws
namespace Go.Proofs.Ytabindnaedchgaa.fnDeltaDo
open Go.ChangeShapes Go.WideShapes Go.ChangeAt Go.RowKit
open Go.Proofs.Ytabindnaedchgaa.Rf
set_option linter.unusedVariables false
theorem own : ownKnob Try.prog.godebug = none := by kernel_rfl
theorem laidOut : laidOutB Try.prog = true := by kernel_rfl
set_option maxRecDepth 100000 in
theorem lifted (os : Os) (started : os.Started) (H : Type) (enc : TypeId × Value → H) :
    ReturnsInHanded {} Try.checked os 3 .any (Rows.fnDeltaDoSpec.pre6 enc Try.prog Try.f3 Rows.fnDeltaDoRow.domain false) (Rows.fnDeltaDoSpec.post enc Try.prog Try.f3 false true false false) := by
  refine returnsInHanded_of_change_sized (C := Try.checked) own started (by kernel_rfl) Try.func3
    (ChangeSpec.witness6 (enc := enc) (C := Try.checked) false ⟨#[], #[.slice none 0 0], []⟩ 8 (by kernel_rfl) (by kernel_rfl) (by kernel_rfl) (by kernel_rfl)) ?_
  intro W base args ds gs before hval0 hW hcnd hsz0 _
  have hval : ∀ (j : Nat) t v, Try.f3.params[j]? = some t → args[j]? = some v → Value.okWide Try.prog W .any base t v := hval0
  have hW' := hW
  obtain ⟨p, q, hA0, hV, rfl, hfz, hnd⟩ := hW
  have hA : DataW.TrodAll enc Try.prog W 0 (fun _ => true) true Try.f3.params.toList args.toList ds p := hA0
  rw [Try.params3] at hA hval
  obtain ⟨v0, vs0, d0, ds0, p0, q0, hargs, rfl, rfl, h0, r0⟩ := trodAll_cons hA
  obtain ⟨rfl, rfl, rfl⟩ := trodAll_nil r0
  obtain rfl : args = #[v0] := by cases args; simp_all
  have lt0 : ∀ x ∈ p0, x.block < W.heap.size := by obtain ⟨m, hm⟩ := h0; exact DataW.trod_lt m _ _ _ hm
  obtain ⟨x0, o0, G0⟩ := open_arg (τ := t22) (show tokB Try.prog t22 (.inl 22) = true by kernel_rfl) (hval 0 22 v0 rfl rfl) h0
  obtain ⟨rfl, rfl⟩ := trodVars_none hV
  clear hA0 hval0 hsz0
  obtain ⟨k, hk⟩ := FnDeltaDo_pure x0 G0
  refine (row_of (laws_FnDeltaDo.snd k) rfl (x := x0) (r := true) hk rfl (Nat.zero_le _) trivial rfl ?_).mono fun e W' ⟨he, bel⟩ => ?_
  · intro i p s hp hs
    match i, hp, hs with
    | 0, _, hs => obtain rfl := Option.some.inj (show some (⟨t22, x0⟩ : Sv) = some s from hs); exact o0
    | i + 1, hp, _ => simp at hp
  subst he
  exact ⟨_, rfl, _, _, _, [], _, [], hW', trodAll_mk1 (shut_bool Try.underlying4 _), (trodAll_cons_mk (Below.trod laidOut (by kernel_rfl) (of_decide_eq_true (by kernel_rfl)) h0 bel lt0) trodAll_mk0), rfl, bel.frame _, fun h => by cases h⟩
theorem over : Rows.fnDeltaDoRow.holds Try.pinned (OpenSpec.ofChange Rows.fnDeltaDoSpec) :=
  OpenClaim.holds_of_wide 3 Try.f3 rfl rfl rfl rfl rfl rfl rfl ⟨rfl, rfl, rfl, rfl, rfl⟩ rfl rfl rfl rfl rfl (by kernel_rfl) Try.func3 (by kernel_rfl)
    (of_decide_eq_true (by kernel_rfl)) (by unfold Func.isWrapper; first | (rw [if_pos (by decide +kernel)]; kernel_rfl) | (rw [if_neg (by decide +kernel)]; exact ⟨rfl, rfl⟩))
    (fun os started H enc _ => lifted os started H enc)
theorem proved : Rows.FnDeltaDoSaid := over
end Go.Proofs.Ytabindnaedchgaa.fnDeltaDo
namespace Go.Proofs.Ytabindnaedchgaa
/-- The statement. -/
theorem fnDeltaDo_holds : Rows.FnDeltaDoSaid := fnDeltaDo.proved
end Go.Proofs.Ytabindnaedchgaa
