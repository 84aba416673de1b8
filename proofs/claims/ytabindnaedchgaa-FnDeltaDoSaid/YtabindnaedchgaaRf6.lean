/- Operands: read, copied, taken. Nothing of any program. -/
import Derived.Test.YtabindnaedchgaaRf5
namespace Go.Proofs.Ytabindnaedchgaa.Rf
open Go Go.RowKit
set_option linter.unusedVariables false
set_option linter.unusedSimpArgs false

/-- an operand's value -/
def ev (tm : Array Value) : Operand → Value
  | .tmp t => tm.getD t undef
  | .const v => v
  | .global g => .pointer (some ⟨g, 0, none⟩)
  | .func f => .func (.func f) #[] #[]
theorem ev_eq (a : Act) : a.eval = ev a.tmps := by funext x; cases x <;> rfl
theorem getP_nil : (τ : Ty) → (x : τ.T) → getP τ x [] = some ⟨τ, x⟩
  | .int _, _ | .bool, _ | .str, _ | .row _, _ | .pair _ _, _ | .st _, _ => rfl
theorem av_lt {σ : St} {u : Nat} (h : σ.av u ≠ .no) : u < σ.length := by
  apply Decidable.byContradiction
  intro hn
  exact h (by simp [St.av, St.slot, List.getD_eq_getElem?_getD, List.getElem?_eq_none (Nat.le_of_not_lt hn)])
section
variable {T0 : Bs} {ξ0 : Im} {w0 : World} {tk : Nat → Bs} {Tf : Bs} {ξ : Im} {w : World} {σ : St} {tm : Array Value}
theorem SA.at_d (h : SA T0 ξ0 w0 tk Tf ξ w σ tm) {u : Nat} {τ : Ty} {x : τ.T} {f : Fl} (ha : σ.av u = .d τ x f) : ∃ cs, tm.getD u undef = mkV τ cs ∧ Rel ξ w τ f x cs (tk u) := by
  have := h.own u
  rw [ha] at this
  exact this
theorem SA.at_vw (h : SA T0 ξ0 w0 tk Tf ξ w σ tm) {u : Nat} {τ : Ty} {x : τ.T} {h0 : Tmp} {p : Option Path} {g v : Nat} (ha : σ.av u = .vw τ x h0 p g v) (hv : σ.valid h0 g v = true) :
    ∃ cs f, ∃ T' : Bs, tm.getD u undef = mkV τ cs ∧ Sb T' (tk h0) ∧ f.ok τ = true ∧ Rel ξ w τ f x cs T' ∧ ∀ q, p = some q → Part w (σ.av h0) (tm.getD h0 undef) q τ x cs := by
  have := h.lent u
  rw [ha] at this
  exact this.2 hv
/-- what is read of an operand stands there -/
def Reads (ξ : Im) (w : World) (tk : Nat → Bs) (v : Value) (s : Sv) : Prop := ∃ cs f, ∃ T' : Bs, ∃ t : Nat, v = mkV s.1 cs ∧ Sb T' (tk t) ∧ f.ok s.1 = true ∧ Rel ξ w s.1 f s.2 cs T'
theorem rdv_ok (h : SA T0 ξ0 w0 tk Tf ξ w σ tm) {o : Operand} {s : Sv} (hr : rdv σ o = some s) : Reads ξ w tk (ev tm o) s := by
  cases o with
  | tmp u =>
    simp only [rdv] at hr
    split at hr
    · rename_i τ x f ha
      split at hr
      · rename_i hf
        obtain rfl := Option.some.inj hr
        obtain ⟨cs, h1, h2⟩ := h.at_d ha
        exact ⟨cs, f, tk u, u, h1, Sb.refl _, hf, h2⟩
      · cases hr
    · rename_i τ x h0 p g v ha
      split at hr
      · rename_i hv
        obtain rfl := Option.some.inj hr
        obtain ⟨cs, f, T', h1, h2, h3, h4, h5⟩ := h.at_vw ha hv
        exact ⟨cs, f, T', h0, h1, h2, h3, h4⟩
      · cases hr
    · cases hr
  | const v =>
    cases v <;> simp only [rdv, Option.some.injEq, reduceCtorEq] at hr
    · subst hr; exact ⟨[_], .ro, Em, 0, rfl, Sb.em _, rfl, rfl, fun _ => rfl⟩
    · subst hr; exact ⟨[_], .ro, Em, 0, rfl, Sb.em _, rfl, rfl, fun _ => rfl⟩
    · subst hr; exact ⟨[_], .ro, Em, 0, rfl, Sb.em _, rfl, rfl, fun _ => rfl⟩
  | global g => simp [rdv] at hr
  | func f => simp [rdv] at hr
theorem rdT_ok {E : TyOf} {t : TypeId} (h : SA T0 ξ0 w0 tk Tf ξ w σ tm) {o : Operand} {s : Sv} (hr : rdT E σ t o = some s) : Reads ξ w tk (ev tm o) s := by
  unfold rdT at hr
  split at hr
  · split at hr
    · obtain rfl := Option.some.inj hr
      refine ⟨[.slice none 0 0], .ro, Em, 0, rfl, Sb.em _, rfl, none, 0, rfl, Nat.le_refl _, fun i hi => ?_⟩
      simp [sv] at hi
    · cases hr
  · exact rdv_ok h hr
theorem Past.refl (σ : St) (u : Nat) : Past σ u (σ.slot u).g (σ.slot u).v := ⟨Nat.le_refl _, fun _ => Nat.le_refl _⟩
theorem isRo_ro : (τ : Ty) → Fl.isRo τ .ro = true
  | .int _ => rfl | .bool => rfl | .str => rfl | .row _ => rfl
  | .pair a b => by simp only [Fl.isRo, Fl.l, Fl.r, isRo_ro a, isRo_ro b, Bool.and_self]
  | .st a => by simp only [Fl.isRo, isRo_ro a]
theorem Own.fixd {a : AV} {v : Value} {T : Bs} (h : Own ξ w a v T) (hf : a.fixd = true) : Own ξ w a v Em := by
  cases a with
  | d τ x f =>
    simp only [AV.fixd, decide_eq_true_eq] at hf
    subst hf
    obtain ⟨cs, h1, h2⟩ := h
    exact ⟨cs, h1, h2.toRo (isRo_ro τ)⟩
  | un => exact h
  | _ => simp [AV.fixd] at hf
theorem copy_ok (E : TyOf) (t : TypeId) (h : SA T0 ξ0 w0 tk Tf ξ w σ tm) (o : Operand) : SOwn ξ w (copy E σ t o) (ev tm o) Em ∧ Lent ξ w σ tm tk (copy E σ t o) (ev tm o) := by
  cases o with
  | tmp u =>
    have ho := h.own u
    have hl := h.lent u
    simp only [copy]
    change SOwn ξ w (match σ.av u with | .d τ x f => _ | .box _ _ _ _ => _ | .tup l => _ | a => a) _ _ ∧ Lent ξ w σ tm tk (match σ.av u with | .d τ x f => _ | .box _ _ _ _ => _ | .tup l => _ | a => a) _
    cases ha : σ.av u with
    | d τ x f =>
      obtain ⟨cs, h1, h2⟩ := h.at_d ha
      simp only
      split
      · rename_i hr; exact ⟨⟨cs, h1, h2.toRo hr⟩, trivial⟩
      · split
        · rename_i hf
          refine ⟨trivial, Past.refl _ _, fun _ => ⟨cs, f, tk u, h1, Sb.refl _, hf, h2, fun q hq => ?_⟩⟩
          obtain rfl := Option.some.inj hq
          rw [ha]
          exact ⟨cs, [], [], h1, h2.len, getP_nil _ _, by simp, (offP_nil _).symm, h2.len, rfl⟩
        · exact ⟨trivial, trivial⟩
    | box τ x f r =>
      rw [ha] at ho
      obtain ⟨b, c, t', fz, T', h1, h2, h3, _⟩ := ho
      refine ⟨trivial, ⟨Nat.le_refl _, fun _ => Nat.zero_le _⟩, fun _ => ⟨b, 0, h1, ?_⟩⟩
      rw [ha]
      exact ⟨b, c, t', fz, h1, fun _ => ⟨rfl, (offP_nil _).symm⟩, fun k => by simp [Path.fields] at k⟩
    | tup l =>
      rw [ha] at ho
      simp only
      split
      · rename_i hf
        obtain ⟨vs, Te, k1, k0, k2, k3, k4⟩ := ho
        exact ⟨⟨vs, fun _ => Em, k1, k0, fun _ => Sb.refl _, fun _ _ _ => Dj.em _, fun i a hi => (k4 i a hi).fixd (List.all_eq_true.1 hf a (List.mem_of_getElem? hi))⟩, trivial⟩
      · exact ⟨trivial, trivial⟩
    | no => exact ⟨trivial, trivial⟩
    | un => rw [ha] at ho; exact ⟨ho, trivial⟩
    | vw τ x h0 p g v => rw [ha] at hl; exact ⟨trivial, hl⟩
    | ref h0 p g v => rw [ha] at hl; exact ⟨trivial, hl⟩
    | rp τ x q =>
      rw [ha] at hl ho
      cases q with
      | none => exact ⟨ho, trivial⟩
      | some q => exact ⟨trivial, hl⟩
    | fn f => rw [ha] at ho; exact ⟨ho, trivial⟩
  | func f => exact ⟨rfl, trivial⟩
  | global g => first | exact ⟨trivial, trivial⟩ | exact ⟨⟨[_], rfl, rfl, fun _ => rfl⟩, trivial⟩
  | const v =>
    cases v with
    | slice a n c =>
      cases a with
      | some a => first | exact ⟨trivial, trivial⟩ | exact ⟨⟨[_], rfl, rfl, fun _ => rfl⟩, trivial⟩
      | none =>
        cases n with
        | succ n => first | exact ⟨trivial, trivial⟩ | exact ⟨⟨[_], rfl, rfl, fun _ => rfl⟩, trivial⟩
        | zero =>
          cases c with
          | succ c => first | exact ⟨trivial, trivial⟩ | exact ⟨⟨[_], rfl, rfl, fun _ => rfl⟩, trivial⟩
          | zero =>
            simp only [copy]
            split
            · exact ⟨⟨[.slice none 0 0], rfl, .inl ⟨rfl, rfl⟩⟩, trivial⟩
            · exact ⟨trivial, trivial⟩
    | _ => first | exact ⟨trivial, trivial⟩ | exact ⟨⟨[_], rfl, rfl, fun _ => rfl⟩, trivial⟩
theorem SA.same {Tf' : Bs} (h : SA T0 ξ0 w0 tk Tf ξ w σ tm) (s : Sb Tf' Tf) : SA T0 ξ0 w0 tk Tf' ξ w σ tm := h.drop s
theorem un_em (Tf : Bs) : Sb (Un Tf Em) Tf := Sb.un (Sb.refl _) (Sb.em _)
theorem take_ok {E : TyOf} {t : TypeId} {o : Operand} {a : AV} {σ' : St} (h : SA T0 ξ0 w0 tk Tf ξ w σ tm) (ht : take E σ t o = some (a, σ')) :
    ∃ tk' : Nat → Bs, ∃ T' : Bs, SA T0 ξ0 w0 tk' (Un Tf T') ξ w σ' tm ∧ Dj T' Tf ∧ SOwn ξ w a (ev tm o) T' ∧ Lent ξ w σ' tm tk' a (ev tm o) ∧ σ'.length = σ.length := by
  have plain : ∀ o, some (copy E σ t o, σ) = some (a, σ') → ∃ tk' : Nat → Bs, ∃ T' : Bs, SA T0 ξ0 w0 tk' (Un Tf T') ξ w σ' tm ∧ Dj T' Tf ∧ SOwn ξ w a (ev tm o) T' ∧ Lent ξ w σ' tm tk' a (ev tm o) ∧ σ'.length = σ.length := by
    intro o he
    cases he
    exact ⟨tk, Em, h.same (un_em _), Dj.em _, (copy_ok E t h o).1, (copy_ok E t h o).2, rfl⟩
  cases o with
  | const v => exact plain _ ht
  | global g => exact plain _ ht
  | func f => exact plain _ ht
  | tmp u =>
    have out : ∀ a0, σ.av u = a0 → a0 ≠ .no → ∃ tk' : Nat → Bs, SA T0 ξ0 w0 tk' (Un Tf (tk u)) ξ w (σ.put u .no) tm := fun a0 e hn =>
      ⟨_, h.put (tm' := tm) (T' := Em) (Tf' := Un Tf (tk u)) rfl (fun _ _ => rfl) trivial trivial (Sb.em _) (Sb.refl _) (Dj.em _) (av_lt (by rw [e]; exact hn))⟩
    have ho := h.own u
    have hl := h.lent u
    simp only [take] at ht
    split at ht
    · rename_i τ x f ha
      obtain ⟨cs, h1, h2⟩ := h.at_d ha
      split at ht
      · rename_i hr
        cases ht
        exact ⟨tk, Em, h.same (un_em _), Dj.em _, ⟨cs, h1, h2.toRo hr⟩, trivial, rfl⟩
      · cases ht
        obtain ⟨tk', k⟩ := out _ ha (by simp)
        exact ⟨tk', tk u, k, h.djf u, ⟨cs, h1, h2⟩, trivial, by simp [St.put]⟩
    · rename_i τ x h0 p g v ha
      split at ht
      case isFalse => cases ht
      rename_i hv
      split at ht
      case h_2 => cases ht
      rename_i p
      split at ht
      case isFalse => cases ht
      rename_i hp
      obtain ⟨cs, f, T', h1, h2, h3, h4, h5⟩ := h.at_vw ha hv
      have hpart := h5 p rfl
      have hown := h.own h0
      split at ht
      · rename_i τ' x' f' hh
        cases ht
        rw [hh] at hpart hown
        obtain ⟨cs0, c1, c3, k1, k2, k3, k4, k5, k6, k7⟩ := hpart
        obtain ⟨cs0', k8, k9⟩ := hown
        obtain rfl := mkV_inj k2 k9.len (k1.symm.trans k8)
        obtain ⟨d1, d2, d3, T1, T2, e1, e2, e3, e4, e5, e6, e7⟩ := k9.take k7 k3
        rw [k4] at e1
        obtain ⟨rfl, e8⟩ := List.append_inj e1 (by omega)
        obtain ⟨rfl, rfl⟩ := List.append_inj e8 (by rw [k6, e6.len])
        have K := h.turn (d := h0) (a := .d τ' x' (f'.put p .gone)) (U := Em) (T' := T2) (Tf' := Un Tf T1) (Fr.refl _ _ _) (Sb.em _) h.wf (by rw [hh]; trivial) ⟨cs0, k1, e7⟩ (fun _ => trivial)
          (fun b hb => ⟨.inl (.inr (e4 b hb)), (h.may h0 b (e4 b hb)).2⟩) (fun b hb => ⟨.inl (Sb.both (Sb.refl _) e3 b hb), hb.elim (fun x => (h.mayf b x).2) (fun x => (h.may h0 b (e3 b x)).2)⟩) (Dj.symm (Dj.un (Dj.symm ((h.djf h0).sub e4 (Sb.refl _))) e5)) (av_lt (by rw [hh]; simp))
        exact ⟨_, T1, K, (h.djf h0).sub e3 (Sb.refl _), ⟨cs, h1, e6⟩, trivial, by simp [St.turn]⟩
      · rename_i τ' x' f' sr hh
        cases ht
        rw [hh] at hpart hown
        obtain ⟨b, c, t', fz, c1, c3, k1, k2, k3, k4, k5, k6, k7⟩ := hpart
        obtain ⟨b', c', t'', fz', T3, k1', k8, k9, k10, k11, k12, k13, k14⟩ := hown
        rw [k1] at k1'
        simp only [Value.pointer.injEq, Option.some.injEq, Addr.mk.injEq, and_true] at k1'
        subst k1'
        rw [k2] at k9
        simp only [Option.some.injEq, Obj.cells.injEq] at k9
        obtain ⟨rfl, rfl, rfl⟩ := k9
        obtain ⟨d1, d2, d3, T1, T2, e1, e2, e3, e4, e5, e6, e7⟩ := k14.take k7 k3
        rw [k4] at e1
        obtain ⟨rfl, e8⟩ := List.append_inj e1 (by omega)
        obtain ⟨rfl, rfl⟩ := List.append_inj e8 (by rw [k6, e6.len])
        have s1 : Sb (Un (fun i => i = b) T2) (tk h0) := Sb.un (fun i hi => hi ▸ k8) (e4.trans k12)
        have K := h.turn (d := h0) (a := .box τ' x' (f'.put p .gone) sr) (U := Em) (T' := Un (fun i => i = b) T2) (Tf' := Un Tf T1) (Fr.refl _ _ _) (Sb.em _) h.wf (by rw [hh]; exact ⟨_, _, _, rfl⟩)
          ⟨b, c, t', fz, T2, k1, .inl rfl, k2, k10, k11, Sb.r _ _, fun hx => k13 (e4 _ hx), e7⟩ (fun _ => trivial)
          (fun i hb => ⟨.inl (.inr (s1 i hb)), (h.may h0 i (s1 i hb)).2⟩) (fun b hb => ⟨.inl (Sb.both (Sb.refl _) (e3.trans k12) b hb), hb.elim (fun x => (h.mayf b x).2) (fun x => (h.may h0 b (k12 b (e3 b x))).2)⟩)
          (Dj.symm (Dj.un (Dj.symm ((h.djf h0).sub s1 (Sb.refl _))) (Dj.symm (Dj.un (fun i hi hx => k13 (hi ▸ e3 i hx)) (Dj.symm e5))))) (av_lt (by rw [hh]; simp))
        exact ⟨_, T1, K, (h.djf h0).sub (e3.trans k12) (Sb.refl _), ⟨cs, h1, e6⟩, trivial, by simp [St.turn]⟩
      · cases ht
    · rename_i τ x f s ha
      cases ht
      obtain ⟨tk', k⟩ := out _ ha (by simp)
      rw [ha] at ho
      exact ⟨tk', tk u, k, h.djf u, ho, trivial, by simp [St.put]⟩
    · cases ht
    · cases ht
    · rename_i a0 hd hvw hbox htup hno
      cases ht
      refine ⟨tk, Em, h.same (un_em _), Dj.em _, ?_, hl, rfl⟩
      cases ha : σ.av u with
      | d τ x f => exact (hd _ _ _ ha).elim
      | vw τ x h p g v => exact (hvw _ _ _ _ _ _ ha).elim
      | box τ x f s => exact (hbox _ _ _ _ ha).elim
      | tup l => exact (htup _ ha).elim
      | no => exact (hno ha).elim
      | rp τ x q =>
        rw [ha] at ho
        cases q <;> exact ho
      | un => rw [ha] at ho; exact ho
      | ref h p g v => trivial
      | fn f => rw [ha] at ho; exact ho
end
end Go.Proofs.Ytabindnaedchgaa.Rf
