/- Every operation but a call of a function. Nothing of any program. -/
import Derived.Test.YtabindnaedchgaaRf16
namespace Go.Proofs.Ytabindnaedchgaa.Rf
open Go Go.RowKit
set_option linter.unusedVariables false
set_option linter.unusedSimpArgs false

section
variable {P : Program} {E : TyOf} {T0 : Bs} {ξ0 : Im} {w0 : World} {tk : Nat → Bs} {Tf : Bs} {ξ : Im} {w : World} {σ : St} {tm : Array Value}
theorem full_ok : (e : Ty) → Fl.ok e e.full = true
  | .int _ => rfl
  | .bool => rfl
  | .str => rfl
  | .row e => full_ok e
  | .pair a b => by
    unfold Ty.full
    split
    · exact ok_ro _
    · simp only [Fl.ok, Fl.l, Fl.r, full_ok a, full_ok b, Bool.and_self]
  | .st a => full_ok a
theorem op1_ok {o : Oper} {g : Bool} {a : AV} {σ' : St} (he : EOk P E) (h : SA T0 ξ0 w0 tk Em ξ w σ tm) (hd : op1 E σ o = some (g, a, σ')) (hg : g = true) : Gd P T0 ξ0 w0 σ' tm (execOp (ev tm) o) a w := by
  unfold op1 at hd
  split at hd
  · -- move
    rename_i x hop
    simp only [Option.some.injEq, Prod.mk.injEq] at hd
    obtain ⟨_, rfl, rfl⟩ := hd
    exact op_mv h hop
  · -- assign
    rename_i x hop
    split at hd
    case h_2 => cases hd
    rename_i a1 σ1 ht
    simp only [Option.some.injEq, Prod.mk.injEq] at hd
    obtain ⟨_, rfl, rfl⟩ := hd
    exact op_assign h hop ht
  · -- alloc
    rename_i t hop
    split at hd
    case h_2 => cases hd
    rename_i τ hE
    simp only [Option.some.injEq, Prod.mk.injEq] at hd
    obtain ⟨_, rfl, rfl⟩ := hd
    exact op_alloc (he _ _ hE) h hop
  · -- box
    rename_i t x hop
    split at hd
    case h_2 => cases hd
    rename_i τ hE
    split at hd
    case h_2 => cases hd
    rename_i s f σ1 ht
    split at hd
    case h_2 => cases hd
    rename_i y hc
    simp only [Option.some.injEq, Prod.mk.injEq] at hd
    obtain ⟨_, rfl, rfl⟩ := hd
    have := cast?_eq hc
    subst this
    exact op_box h hop ht
  · -- build
    rename_i t ps hop
    split at hd
    case h_2 => cases hd
    rename_i τ hE
    split at hd
    case h_2 => cases hd
    rename_i x f σ1 hp
    split at hd
    case isFalse => cases hd
    rename_i hst
    simp only [Option.some.injEq, Prod.mk.injEq] at hd
    obtain ⟨_, rfl, rfl⟩ := hd
    refine op_build (he _ _ hE) h hop hp ?_
    cases τ <;> simp [Ty.isSt] at hst
    exact ⟨_, rfl⟩
  · -- buildSlice
    rename_i t n ps hop
    split at hd
    case h_2 => cases hd
    rename_i e hE
    split at hd
    · cases hd
    rename_i hn
    split at hd
    · rename_i l σ1 hp
      simp only [Option.some.injEq, Prod.mk.injEq] at hd
      obtain ⟨_, rfl, rfl⟩ := hd
      exact op_buildSlice (he _ _ hE) h hop hn (.inl rfl) (full_ok e) hp
    · split at hd
      case h_2 => cases hd
      rename_i l σ1 hp
      simp only [Option.some.injEq, Prod.mk.injEq] at hd
      obtain ⟨_, rfl, rfl⟩ := hd
      exact op_buildSlice (he _ _ hE) h hop hn (.inr rfl) (ok_ro e) hp
  · -- load
    rename_i t u hop
    split at hd
    case h_2 => cases hd
    rename_i a1 hp
    split at hd
    case isFalse => cases hd
    rename_i hty
    simp only [Option.some.injEq, Prod.mk.injEq] at hd
    obtain ⟨_, rfl, rfl⟩ := hd
    exact op_load he h hop hp hty
  · -- store
    rename_i t u x hop
    split at hd
    case h_2 => cases hd
    rename_i s f σ1 ht
    split at hd
    case isFalse => cases hd
    rename_i hE
    split at hd
    case h_2 => cases hd
    rename_i σ2 hp
    simp only [Option.some.injEq, Prod.mk.injEq] at hd
    obtain ⟨_, rfl, rfl⟩ := hd
    exact op_store he h hop ht hE hp
  · -- nilCheck
    rename_i u hop
    split at hd
    · rename_i τ x f r ha
      simp only [Option.some.injEq, Prod.mk.injEq] at hd
      obtain ⟨_, rfl, rfl⟩ := hd
      obtain ⟨b, c, t, fz, T', k1, _⟩ := h.at_box ha
      exact op_nilCheck h hop ⟨b, 0, k1⟩
    · rename_i h0 p g1 v ha
      split at hd
      case isFalse => cases hd
      rename_i hv
      simp only [Option.some.injEq, Prod.mk.injEq] at hd
      obtain ⟨_, rfl, rfl⟩ := hd
      obtain ⟨b, off, k1, _⟩ := h.at_ref ha hv
      exact op_nilCheck h hop ⟨b, off, k1⟩
    · rename_i τ x ha
      simp only [Option.some.injEq, Prod.mk.injEq] at hd
      obtain ⟨_, rfl, rfl⟩ := hd
      have ho := h.own u
      rw [ha] at ho
      obtain ⟨b, off, cs, k1, _⟩ := ho
      exact op_nilCheck h hop ⟨b, off, k1⟩
    · cases hd
  · -- binOp
    rename_i op t x y yt hop
    split at hd
    case h_2 => cases hd
    rename_i a1 b1 hx hy
    split at hd
    case h_2 => cases hd
    rename_i g1 s hb
    simp only [Option.some.injEq, Prod.mk.injEq] at hd
    obtain ⟨rfl, rfl, rfl⟩ := hd
    exact op_binOp he h hop hx hy hb hg
  · -- unOp
    rename_i op t x hop
    split at hd
    case h_2 => cases hd
    rename_i a1 hx
    split at hd
    case h_2 => cases hd
    rename_i s hs
    simp only [Option.some.injEq, Prod.mk.injEq] at hd
    obtain ⟨_, rfl, rfl⟩ := hd
    exact op_unOp h hop hx hs
  · -- convert
    rename_i t' t x hop
    split at hd
    case h_2 => cases hd
    rename_i τ s hE hx
    split at hd
    case isFalse => cases hd
    rename_i hE'
    split at hd
    case h_2 => cases hd
    rename_i s1 f hc
    simp only [Option.some.injEq, Prod.mk.injEq] at hd
    obtain ⟨_, rfl, rfl⟩ := hd
    exact op_convert he h hop hE hx hE' hc
  · -- makeSlice
    rename_i t l c hop
    split at hd
    case h_2 => cases hd
    rename_i e n m hE hl hc
    simp only [Option.some.injEq, Prod.mk.injEq] at hd
    obtain ⟨rfl, rfl, rfl⟩ := hd
    simp only [Bool.and_eq_true, decide_eq_true_eq] at hg
    exact op_makeSlice (he _ _ hE) h hop hl hc hg.1 hg.2.1 hg.2.2
  · -- slice
    rename_i t u lo hi hop
    split at hd
    · rename_i s hr
      split at hd
      case isFalse => cases hd
      rename_i hE
      split at hd
      case h_2 => cases hd
      rename_i x y hx hy
      simp only [Option.some.injEq, Prod.mk.injEq] at hd
      obtain ⟨rfl, rfl, rfl⟩ := hd
      simp only [Bool.and_eq_true, decide_eq_true_eq] at hg
      exact op_slice_str (he _ _ hE) h hop hr hx hy hg.1 hg.2.1 hg.2.2
    · rename_i e l hr
      split at hd
      case isFalse => cases hd
      rename_i hE
      split at hd
      case h_2 => cases hd
      rename_i x y hx hy
      split at hd
      case h_2 => cases hd
      rename_i hh hm
      simp only [Option.some.injEq, Prod.mk.injEq] at hd
      obtain ⟨rfl, rfl, rfl⟩ := hd
      simp only [Bool.and_eq_true, decide_eq_true_eq] at hg
      have z := op_slice_row (he _ _ hE) h hop hr hx hy hg.1 hg.2.1 hg.2.2 hm
      cases hh with
      | none => exact z
      | some q => obtain ⟨q1, q2, q3⟩ := q; exact z
    · cases hd
  · -- fieldAddr
    rename_i s u i hop
    split at hd
    case h_2 => cases hd
    rename_i a1 hp
    simp only [Option.some.injEq, Prod.mk.injEq] at hd
    obtain ⟨_, rfl, rfl⟩ := hd
    exact op_fieldAddr he h hop hp
  · -- field
    rename_i s u i hop
    split at hd
    case h_2 => cases hd
    rename_i τ hE
    split at hd
    case h_2 => cases hd
    rename_i q hq
    split at hd
    · cases hd
    rename_i hne
    split at hd
    case h_2 => cases hd
    rename_i a1 hp
    simp only [Option.some.injEq, Prod.mk.injEq] at hd
    obtain ⟨_, rfl, rfl⟩ := hd
    exact op_field (he _ _ hE) h hop hq (by simpa using hne) hp
  · -- indexAddr
    rename_i t u i hop
    split at hd
    case h_2 => cases hd
    rename_i e n hE hi
    split at hd
    case h_2 => cases hd
    rename_i l a1 hp
    simp only [Option.some.injEq, Prod.mk.injEq] at hd
    obtain ⟨rfl, rfl, rfl⟩ := hd
    simp only [Bool.and_eq_true, decide_eq_true_eq] at hg
    exact op_indexAddr (he _ _ hE) h hop hi hp hg.1 hg.2
  · -- index
    rename_i t x i hop
    split at hd
    case h_2 => cases hd
    rename_i s n hx hi
    split at hd
    · cases hd
    rename_i hE
    simp only [ne_eq, Decidable.not_not] at hE
    simp only [Option.some.injEq, Prod.mk.injEq] at hd
    obtain ⟨rfl, rfl, rfl⟩ := hd
    simp only [Bool.and_eq_true, decide_eq_true_eq] at hg
    exact op_index (he _ _ hE) h hop hx hi hg.1 hg.2
  · -- extract
    rename_i u i hop
    split at hd
    case h_2 => cases hd
    rename_i l ha
    split at hd
    case h_2 => cases hd
    rename_i a1 hi
    split at hd
    case isFalse => cases hd
    rename_i hpl
    simp only [Option.some.injEq, Prod.mk.injEq] at hd
    obtain ⟨_, rfl, rfl⟩ := hd
    split
    · rename_i hf; exact op_extract_fix h hop ha hi hf
    · exact op_extract h hop ha hi hpl
  · -- builtin
    rename_i c hop
    split at hd
    case h_2 => cases hd
    rename_i b hc
    exact op_builtin he h hop hc hd hg
  · cases hd
end
end Go.Proofs.Ytabindnaedchgaa.Rf
