/- Code, and functions. Nothing of any program. -/
import Derived.Test.YtabindnaedchgaaRf21
import Derived.Deep.LoopGhost
namespace Go.Proofs.Ytabindnaedchgaa.Rf
open Go Go.RowKit
set_option linter.unusedVariables false
set_option linter.unusedSimpArgs false

def Ex.out : Ex → Exit
  | .nm => .normal
  | .ex id => .exit id
  | .rt => .ret
section
variable {ρ : Type} {P : Program} {E : TyOf} {C : Nat → CEs} {H : Heads} {T0 : Bs} {ξ0 : Im} {w0 : World}
/-- the slots that a code writes -/
def dsts : Code → List Tmp
  | .region _ ops _ => ops.toList.filterMap (·.dst)
  | .seq a b => dsts a ++ dsts b
  | .cond _ a b => dsts a ++ dsts b
  | .block _ c => dsts c
  | .loop c => dsts c
  | _ => []
theorem dsts_not {ops : Array Oper} {t : Tmp} (h : t ∉ ops.toList.filterMap (·.dst)) : ∀ o ∈ ops.toList, o.dst ≠ some t := fun o ho e => h (List.mem_filterMap.2 ⟨o, ho, e⟩)
theorem code_ok {J : Jd P} (he : EOk P E) (hG : GOk P J T0 w0) (hC : ∀ k, CsOk P J (C k)) (hm : P.follows .mixedOrders = true) (df : List Deferred) : ∀ (c : Code) (k : Nat) (σ : St) (tk : Nat → Bs) (ξ : Im) (w : World) (tm : Array Value) (K : Kt ρ) (r : ρ) (Q : Exit → Act → World → Prop), SA T0 ξ0 w0 tk Em ξ w σ tm → evCode E C H c k σ K = some r →
    (∀ e σ' tm' w' ξ' tk', SA T0 ξ0 w0 tk' Em ξ' w' σ' tm' → (∀ t, t ∉ dsts c → tm'.getD t undef = tm.getD t undef) → K e σ' = some r → Q e.out ⟨tm', df⟩ w') → c.wp P Q ⟨tm, df⟩ w := by
  intro c
  induction c with
  | skip => exact fun k σ tk ξ w tm K r Q h hr hK => wp_skip (hK .nm _ _ _ _ _ h (fun _ _ => rfl) hr)
  | region id ops dr =>
    intro k σ tk ξ w tm K r Q h hr hK
    simp only [evCode] at hr
    split at hr
    · rename_i hd
      subst hd
      exact draw_ok he hG (hC k) hm df h hr fun σ' tm' w' ξ' tk' S kp hk => hK .nm _ _ _ _ _ S (fun t ht => kp t (dsts_not ht)) hk
    · rename_i hd
      have hd' : dr = false := by simpa using hd
      subst hd'
      rw [evOps_eq] at hr
      obtain ⟨σ', h2, h3⟩ := Option.bind_eq_some_iff.1 hr
      exact wp_region_list (region_ok he hG (hC k) df ops.toList _ σ' tk ξ w tm h h2 fun tm' w' ξ' tk' S kp => hK .nm _ _ _ _ _ S (fun t ht => kp t (dsts_not ht)) h3)
  | seq a b iha ihb =>
    intro k σ tk ξ w tm K r Q h hr hK
    refine wp_seq (iha k σ tk ξ w tm _ r _ h hr fun e σ' tm' w' ξ' tk' S kp hk => ?_)
    cases e with
    | nm =>
      obtain ⟨k2, tk1, ξ1, σ1, h1, hk⟩ : ∃ (k2 : Nat) (tk1 : Nat → Bs) (ξ1 : Im) (σ1 : St), SA T0 ξ0 w0 tk1 Em ξ1 w' σ1 tm' ∧ evCode E C H b k2 σ1 K = some r := by
        simp only [kSeq, cutK] at hk
        split at hk
        · exact ⟨k, tk', ξ', σ', S, hk⟩
        · rename_i L _
          obtain ⟨tk1, ξ1, h1⟩ := norm_ok (some L) S
          split at hk
          · exact ⟨k, tk1, ξ1, _, h1, hk⟩
          · cases k with
            | zero => cases hk
            | succ k => exact ⟨k, tk1, ξ1, _, h1, hk⟩
      exact ihb k2 _ tk1 ξ1 w' tm' K r Q h1 hk fun e σ2 tm2 w2 ξ2 tk2 S2 kp2 hk2 => hK e _ _ _ _ _ S2 (fun t ht => (kp2 t fun x => ht (List.mem_append.2 (.inr x))).trans (kp t fun x => ht (List.mem_append.2 (.inl x)))) hk2
    | ex id => exact hK (.ex id) _ _ _ _ _ S (fun t ht => kp t fun x => ht (List.mem_append.2 (.inl x))) hk
    | rt => exact hK .rt _ _ _ _ _ S (fun t ht => kp t fun x => ht (List.mem_append.2 (.inl x))) hk
  | cond c a b iha ihb =>
    intro k σ tk ξ w tm K r Q h hr hK
    simp only [evCode] at hr
    split at hr
    case h_2 => cases hr
    rename_i x hx
    have hc := (rdv_ok h hx).bool
    rw [ifb_eq] at hr
    refine wp_cond (t := x) (by rw [ev_eq]; exact hc) ?_
    cases x with
    | true => exact iha k σ tk ξ w tm K r Q h hr fun e σ' tm' w' ξ' tk' S kp hk => hK e _ _ _ _ _ S (fun t ht => kp t fun x => ht (List.mem_append.2 (.inl x))) hk
    | false => exact ihb k σ tk ξ w tm K r Q h hr fun e σ' tm' w' ξ' tk' S kp hk => hK e _ _ _ _ _ S (fun t ht => kp t fun x => ht (List.mem_append.2 (.inr x))) hk
  | block id c ih =>
    intro k σ tk ξ w tm K r Q h hr hK
    refine wp_block (ih k σ tk ξ w tm _ r _ h hr fun e σ' tm' w' ξ' tk' S kp hk => ?_)
    cases e with
    | nm => exact hK .nm _ _ _ _ _ S kp hk
    | ex j =>
      simp only [kBlock] at hk
      simp only [Ex.out, Exit.inBlock]
      split at hk
      · rename_i hj
        rw [if_pos hj]
        exact hK .nm _ _ _ _ _ S kp hk
      · rename_i hj
        rw [if_neg hj]
        exact hK (.ex j) _ _ _ _ _ S kp hk
    | rt => exact hK .rt _ _ _ _ _ S kp hk
  | loop c ih =>
    intro k σ tk ξ w tm K r Q h hr hK
    obtain ⟨tk1, ξ1, h1⟩ := norm_ok (headOf H c) h
    refine wp_loop_ghost (fun n a w => ∃ σ, ∃ tk : Nat → Bs, ∃ ξ : Im, ∃ tm2, a = ⟨tm2, df⟩ ∧ SA T0 ξ0 w0 tk Em ξ w σ tm2 ∧ (∀ t, t ∉ dsts c → tm2.getD t undef = tm.getD t undef) ∧ evLoop (evCode E C H c) (headOf H c) n σ K = some r) k ⟨_, tk1, ξ1, tm, rfl, h1, fun _ _ => rfl, hr⟩ ?_
    rintro n a w2 ⟨σ2, tk2, ξ2, tm2, rfl, h2, kp0, hr2⟩
    cases n with
    | zero => cases hr2
    | succ n =>
      refine ih n σ2 tk2 ξ2 w2 tm2 _ r _ h2 hr2 fun e σ' tm' w' ξ' tk' S kp hk => ?_
      cases e with
      | nm =>
        obtain ⟨tk3, ξ3, h3⟩ := norm_ok (headOf H c) S
        exact ⟨n, Nat.lt_succ_self n, _, tk3, ξ3, tm', rfl, h3, fun t ht => (kp t ht).trans (kp0 t ht), hk⟩
      | ex id => exact hK (.ex id) _ _ _ _ _ S (fun t ht => (kp t ht).trans (kp0 t ht)) hk
      | rt => exact hK .rt _ _ _ _ _ S (fun t ht => (kp t ht).trans (kp0 t ht)) hk
  | exit id => exact fun k σ tk ξ w tm K r Q h hr hK => wp_exit (hK (.ex id) _ _ _ _ _ h (fun _ _ => rfl) hr)
  | ret => exact fun k σ tk ξ w tm K r Q h hr hK => wp_ret (hK .rt _ _ _ _ _ h (fun _ _ => rfl) hr)
  | _ => intro k σ tk ξ w tm K r Q h hr hK; simp [evCode] at hr
end
end Go.Proofs.Ytabindnaedchgaa.Rf
