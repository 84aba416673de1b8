/- FnExactClientNew, plain. -/
import Derived.Test.YtndjhgjakdkkaaaPuBase
import Derived.Test.YtndjhgjakdkkaaaMlawsFnExactClientNew
import Derived.Test.YtndjhgjakdkkaaaOpFnExactClientNew
namespace Go.Proofs.Ytndjhgjakdkkaaa.M
open Go.RowKit Go.Proofs.YtndjhgjakdkkaaaW.PrintWords Go.Proofs.Ytndjhgjakdkkaaa.Pu
set_option linter.unusedVariables false
set_option linter.unusedSimpArgs false
theorem cn_within (a b c : Int) : impl_within.f a b c = some (decide (b ≤ a ∧ a ≤ c)) := by
  unfold impl_within.f
  by_cases h : a ≥ b
  · have h' : b ≤ a := h
    simp [h']
  · have h' : ¬ b ≤ a := h
    simp [h']
theorem cn_l1In (a b c : Int) : spec_l1In.f a b c = some (decide (b ≤ a ∧ a ≤ c)) := by
  unfold spec_l1In.f
  by_cases h : a ≥ b
  · have h' : b ≤ a := h
    simp [h']
  · have h' : ¬ b ≤ a := h
    simp [h']
theorem keyOk_ex (a : ByteArray) (w : a.size ≤ 9223372036854775800) : ∃ b, impl_keyOk.f a = some b ∧ spec_l6Key.f a = some b := by
  unfold impl_keyOk.f spec_l6Key.f
  rw [cn_within, cn_l1In]
  simp only [Option.bind_some]
  by_cases h : (1 : Int) ≤ (a.size : Int) ∧ (a.size : Int) ≤ 64
  · have e : wrap64 ((a.size : Int) - 1) = (a.size : Int) - 1 := wid (by omega) (by omega)
    have c0 : (0 : Int) ≤ (a.size : Int) - 1 := by omega
    have c1 : (a.size : Int) - 1 < (a.size : Int) := by omega
    simp only [e, h, c0, c1, and_self, decide_true, if_true]
    exact ⟨_, rfl⟩
  · simp only [h, decide_false, Bool.false_eq_true, if_false]
    first | exact ⟨false, rfl, rfl⟩ | exact ⟨false, rfl⟩
/-- What ClientNew answers: a client with an empty book. -/
theorem clientNew_ex (a : ByteArray) (w : a.size ≤ 9223372036854775800) : ∃ s u n f, impl_ClientNew.f a = some (s, u, n, [], [], f) ∧ spec_ClientNew.f a = some (s, u, n, [], [], f) := by
  obtain ⟨b, h1, h2⟩ := keyOk_ex a w
  unfold impl_ClientNew.f spec_ClientNew.f
  rw [h1, h2]
  cases b
  · exact ⟨_, _, _, _, rfl, rfl⟩
  · exact ⟨_, _, _, _, rfl, rfl⟩
theorem eqClient_empty (k : Nat) (s : ByteArray) (u : Bool) (n : Int) (f : ByteArray) : laws_eqClient.f (k + 1) s u n [] [] f s u n [] [] f = some true := by
  simp [laws_eqClient.f, laws_eqBook.f, laws_eqAffixS.f, laws_eqEntryS.f, laws_eqAffixS.l0, laws_eqEntryS.l0]
theorem markClient_empty (k : Nat) (s : ByteArray) (u : Bool) (n : Int) (f : ByteArray) (m : Int) : laws_markClient.f (k + 1) s u n [] [] f m = some (m, [], []) := by
  simp [laws_markClient.f, laws_markBook.f, laws_markAffixS.f, laws_markEntryS.f, laws_markAffixS.l0, laws_markEntryS.l0]
theorem heldClient_empty (k : Nat) (s : ByteArray) (u : Bool) (n : Int) (f : ByteArray) : laws_heldClient.f (k + 1) s u n [] [] f 1 = some 1 := by
  simp [laws_heldClient.f, laws_heldBook.f, laws_heldAffixS.f, laws_heldEntryS.f, laws_heldAffixS.l0, laws_heldEntryS.l0]
theorem FnExactClientNew_pure (a : ByteArray) (w : a.size ≤ 140737488351232) : ∃ k, laws_FnExactClientNew.f k a = some true := by
  refine ⟨1, ?_⟩
  obtain ⟨s, u, n, f, h1, h2⟩ := clientNew_ex a (by omega)
  unfold laws_FnExactClientNew.f
  by_cases c : (a.size : Int) > 1048576
  · rw [if_pos c]
  · rw [if_neg c]
    simp [h1, h2, eqClient_empty, markClient_empty, heldClient_empty]
end Go.Proofs.Ytndjhgjakdkkaaa.M
