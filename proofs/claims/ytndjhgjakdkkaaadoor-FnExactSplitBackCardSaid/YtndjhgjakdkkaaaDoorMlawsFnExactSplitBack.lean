-- Printed for this claim by a program (mprint.py) that uses the kit's print; Lean checks it.
import Derived.Test.YtndjhgjakdkkaaaDoorM0
import Derived.Test.YtndjhgjakdkkaaaDoorMimplSplitBack
import Derived.Test.YtndjhgjakdkkaaaDoorMspecSplitBack
namespace Go.Proofs.YtndjhgjakdkkaaaDoor.M
open Go.RowKit Go.Proofs.YtndjhgjakdkkaaaDoorW.PrintWords Go.Proofs.YtndjhgjakdkkaaaDoorW.PrintLast Go.Proofs.YtndjhgjakdkkaaaDoorW.PrintMore
attribute [local go_sem] max2_int min2_int max_two min_two max_three min_three max_four min_four   -- for this text's walks alone
set_option linter.unusedVariables false
set_option linter.unusedSimpArgs false

/-! ### laws_FnExactSplitBack: function 7 -/
def laws_FnExactSplitBack.f (k : Nat) (a0 : ByteArray) : Option (Bool) := if (a0.size : Int) > 1048576 then (some true) else ((spec_SplitBack.f k a0).bind fun t101 => ((impl_SplitBack.f a0).bind fun t102 => (if t102.toList = t101.toList then (some true) else (some false))))
theorem laws_FnExactSplitBack.mono : ∀ a0 k, LeO (laws_FnExactSplitBack.f k a0) (laws_FnExactSplitBack.f (k + 1) a0) := by
  intro a0 k
  unfold laws_FnExactSplitBack.f
  repeat' first
      | (with_reducible exact spec_SplitBack.mono _ _)
      | (with_reducible exact LeO.refl _)
      | (with_reducible exact LeO.none _)
      | (with_reducible refine LeO.ite ?_ ?_)
      | (with_reducible refine LeO.bind ?_ (fun _ => ?_))
      | exact spec_SplitBack.mono _ _
      | exact LeO.none _
      | refine LeO.ite ?_ ?_
      | refine LeO.bind ?_ (fun _ => ?_)
set_option maxHeartbeats 8000000 in
set_option maxRecDepth 100000 in
theorem laws_FnExactSplitBack.calls (k : Nat) (a0 : ByteArray) (r : Bool) (w : World) (hT : r = true) (hGm : GWm w) (h : laws_FnExactSplitBack.f k a0 = some r) :
    Calls Tryd.prog 7 #[.string a0] w fun e w' => e = .returned (.bool r) ∧ Below w.heap.size w w' := by
  have HT := Aside0.mk hT
  clear hT
  have HGWm := Aside0.mk hGm
  clear hGm
  have HB := Aside0.mk (Below.refl w.heap.size w)
  have H : (if (a0.size : Int) > 1048576 then (some true) else ((spec_SplitBack.f k a0).bind fun t101 => ((impl_SplitBack.f a0).bind fun t102 => (if t102.toList = t101.toList then (some true) else (some false))))) = some r := h
  clear h
  by_cases c2 : (a0.size : Int) > 1048576
  · rw [if_pos c2] at H
    have c2b0 : decide (1048576 < (a0.size : Int)) = true := decide_eq_true c2
    have c2b1 : decide (1048576 < a0.size) = true := decide_eq_true (by omega)
    clear c2
    obtain rfl := Option.some.inj H
    go_enter Tryd.func7, Tryd.ntmps7
    go_wp2
    go_ret
    exact ⟨by first | rfl | (simp [errW_none, errW_some] <;> rfl) | (simp [*, errW_none, errW_some] <;> rfl), by repeat (first | (with_reducible first | exact HB.out | apply below_alloc | apply pw_below_drewN | apply below_drew1) | exact HB.out)⟩
  · rw [if_neg c2] at H
    have c2b0 : decide (1048576 < (a0.size : Int)) = false := decide_eq_false c2
    have c2b1 : decide (1048576 < a0.size) = false := decide_eq_false (by omega)
    clear c2
    replace H := Option.bind_eq_some_iff.mp H
    obtain ⟨t101, A30, H⟩ := H
    replace H : ((impl_SplitBack.f a0).bind fun t102 => (if t102.toList = t101.toList then (some true) else (some false))) = some r := H
    have A3 := Aside0.mk A30
    clear A30
    replace H := Option.bind_eq_some_iff.mp H
    obtain ⟨t102, A40, H⟩ := H
    replace H : (if t102.toList = t101.toList then (some true) else (some false)) = some r := H
    have A4 := Aside0.mk A40
    clear A40
    by_cases c5 : t102.toList = t101.toList
    · rw [if_pos c5] at H
      have c5b0 : (t102.toList == t101.toList) = true := beq_iff_eq.mpr c5
      have c5b1 : (t102.toList != t101.toList) = false := bne_eq_false_iff_eq.mpr c5
      clear c5
      obtain rfl := Option.some.inj H
      go_enter Tryd.func7, Tryd.ntmps7
      go_wp2_with (first | ((with_reducible refine gate_callee (f := 18) rfl ?_); refine goesL_ (some 9) rfl rfl Tryd.func18 (by kernel_rfl) rfl #[.string a0] rfl (by (try simp only [List.map_toArray, List.map_cons, List.map_nil]); first | done | rfl | (simp only [List.length_drop, List.length_take]; rfl)) ?_; (with_reducible refine (spec_SplitBack.calls k a0 t101 _ A3.out).mono ?_); rintro e w' ⟨rfl, ⟨nd, rfl⟩⟩; refine ⟨_, rfl, ?_⟩) | ((with_reducible refine gate_callee (f := 19) rfl ?_); refine goesL_ (some 11) rfl rfl Tryd.func19 (by kernel_rfl) rfl #[.string a0] rfl (by (try simp only [List.map_toArray, List.map_cons, List.map_nil]); first | done | rfl | (simp only [List.length_drop, List.length_take]; rfl)) ?_; (with_reducible refine (impl_SplitBack.calls a0 t102 _ ?side1 A4.out).mono ?_); (case side1 => exact GWm.below HGWm.out (by repeat (first | (with_reducible first | exact HB.out | apply below_alloc | apply pw_below_drewN | apply below_drew1) | exact HB.out))); rintro e w6 ⟨rfl, hb⟩; refine ⟨_, rfl, ?_⟩; have n0_ := Aside0.mk (below_step (by repeat (first | (with_reducible first | exact HB.out | apply below_alloc | apply pw_below_drewN | apply below_drew1) | exact HB.out)) hb); clear HB; have HB := n0_; clear n0_; (try clear hb); (try clear hb2); (try clear hk); (try clear hi)))
      go_ret
      exact ⟨by first | rfl | (simp [errW_none, errW_some] <;> rfl) | (simp [*, errW_none, errW_some] <;> rfl), by repeat (first | (with_reducible first | exact HB.out | apply below_alloc | apply pw_below_drewN | apply below_drew1) | exact HB.out)⟩
    · rw [if_neg c5] at H
      have c5b0 : (t102.toList == t101.toList) = false := beq_eq_false_iff_ne.mpr c5
      have c5b1 : (t102.toList != t101.toList) = true := bne_iff_ne.mpr c5
      exact absurd (Option.some.inj H) (by rw [HT.out]; decide)

end Go.Proofs.YtndjhgjakdkkaaaDoor.M
