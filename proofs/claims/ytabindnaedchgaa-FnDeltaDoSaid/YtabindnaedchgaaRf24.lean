/- How a function's contract is had. Nothing of any program. -/
import Derived.Test.YtabindnaedchgaaRf23
namespace Go.Proofs.Ytabindnaedchgaa.Rf
open Go Go.RowKit
set_option linter.unusedVariables false
theorem CsOk.nil {P : Program} {J : Jd P} : CsOk P J [] := fun f ce h => by cases h
theorem CsOk.cons {P : Program} {J : Jd P} {f : FuncId} {ce : CE} {l : CEs} (h : Snd P J f ce) (c : Can P f) (k : CsOk P J l) : CsOk P J ((f, ce) :: l) := by
  intro g cg hg
  simp only [List.lookup_cons] at hg
  split at hg
  · rename_i e
    have e := eq_of_beq e
    subst e
    cases hg
    exact ⟨h, c⟩
  · exact k g cg hg
theorem lookup_mem {α β : Type} [BEq α] [LawfulBEq α] : ∀ {l : List (α × β)} {a : α} {b : β}, l.lookup a = some b → (a, b) ∈ l
  | [], a, b, h => by cases h
  | (c, d) :: l, a, b, h => by
    simp only [List.lookup_cons] at h
    split at h
    · rename_i e
      have e := eq_of_beq e
      subst e
      cases h
      exact List.mem_cons_self ..
    · exact List.mem_cons_of_mem _ (lookup_mem h)
theorem EOk.of {P : Program} {E : TyOf} (h : (E.all fun p => tokB P p.2 (.inl p.1)) = true) : EOk P E := fun t τ ht => List.all_eq_true.1 h (t, τ) (lookup_mem ht)
theorem snd_of {P : Program} {J : Jd P} {E : TyOf} {C : Nat → CEs} {H : Heads} (he : EOk P E) (hC : ∀ k, CsOk P J (C k)) (hm : P.follows .mixedOrders = true) {n : FuncId} {fn : Func} (hf : P.funcs[n]? = some fn) (hb : fn.body.isSome = true) {ps : List Par} {rs : List Res} (hp : inB (bodyOf fn) ps = true) (k : Nat) :
    Snd P J n ⟨ps, rs, evFn E C H fn ps rs k⟩ := by
  obtain ⟨c, hc⟩ := Option.isSome_iff_exists.1 hb
  have hp' : inB c ps = true := by rw [bodyOf, hc] at hp; exact hp
  exact fn_ok he hC hm hf hc hp' _ fun x r h => ⟨k, h⟩
theorem can_of {P : Program} {n : FuncId} {fn : Func} (hf : P.funcs[n]? = some fn) (hn : (fn.name == "runtime.NumGoroutine") = false) (hb : fn.body.isSome = true) : Can P n := ⟨fn, hf, hn, hb⟩
end Go.Proofs.Ytabindnaedchgaa.Rf
