/- Calls of functions. Nothing of any program. -/
import Derived.Test.YtabindnaedchgaaRf17
namespace Go.Proofs.Ytabindnaedchgaa.Rf
open Go Go.RowKit
set_option linter.unusedVariables false
set_option linter.unusedSimpArgs false

/-- a function may be called -/
def Can (P : Program) (f : FuncId) : Prop := ∃ fn, P.funcs[f]? = some fn ∧ (fn.name == "runtime.NumGoroutine") = false ∧ fn.body.isSome = true
/-- what package variables hold (it hangs on their blocks alone) -/
structure Jd (P : Program) where
  n : Nat
  J : World → Prop
  st : ∀ w w', (∀ b, b < n → w'.heap[b]? = w.heap[b]?) → J w → J w'
/-- the package variables stand, and none of their blocks is among T -/
structure GOk (P : Program) (J : Jd P) (T : Bs) (w : World) : Prop where
  sz : J.n ≤ w.heap.size
  tk : ∀ b, T b → J.n ≤ b
  j : J.J w
theorem GOk.step {P : Program} {J : Jd P} {T T' : Bs} {ξ ξ' : Im} {w w' : World} (h : GOk P J T w) (f : Fr T ξ w ξ' w') (ht : ∀ b, T' b → T b ∨ w.heap.size ≤ b) : GOk P J T' w' :=
  ⟨Nat.le_trans h.sz f.size, fun b hb => (ht b hb).elim (h.tk b) fun x => Nat.le_trans h.sz x, J.st w w' (fun b hb => (f.blk b (Nat.lt_of_lt_of_le hb h.sz) fun x => by have := h.tk b x; omega).1) h.j⟩
/-- what a function keeps to: it answers what F answers, of memory that it owns or makes -/
def Snd (P : Program) (J : Jd P) (n : FuncId) (ce : CE) : Prop :=
  ∀ (x : ProdT (ce.ps.map (·.τ))) r, ce.F x = some r → ∀ (ξ : Im) (w : World) (vs : Array Value) (tk : Nat → Bs), Wf ξ w → GOk P J (fun b => ∃ i, tk i b) w → vs.size = ce.ps.length → (∀ i b, tk i b → b < w.heap.size) → (∀ i j, i ≠ j → Dj (tk i) (tk j)) →
    (∀ i p s, ce.ps[i]? = some p → (unpack _ x)[i]? = some s → SOwn ξ w (parAV p s) (vs.getD i undef) (tk i)) →
    Calls P n vs w fun e w' => ∃ v, ∃ ξ' : Im, ∃ tr tb : Bs, e = .returned v ∧ Fr (fun b => ∃ i, tk i b) ξ w ξ' w' ∧ Wf ξ' w' ∧ SOwn ξ' w' (oneAV (resAV ce.rs (unpack _ r))) v tr ∧
      (∀ i p, ce.ps[i]? = some p → p.isIn = true → ∃ s, (unpack _ r)[ce.rs.length]? = some s ∧ s.1 = p.τ ∧ SOwn ξ' w' (parAV p s) (vs.getD i undef) tb) ∧
      Dj tr tb ∧ (∀ b, tr b ∨ tb b → ((∃ i, tk i b) ∨ w.heap.size ≤ b) ∧ b < w'.heap.size)
theorem unpack_pack : {l : List Ty} → {ss : List Sv} → {x : ProdT l} → packT l ss = some x → unpack l x = ss
  | [], [], x, h => rfl
  | [], _ :: _, x, h => by simp [packT] at h
  | [a], [], x, h => by simp [packT] at h
  | [a], [s], x, h => by
    have := cast?_eq (show cast? a s = some x from h)
    rw [this]; rfl
  | [a], _ :: _ :: _, x, h => by simp [packT] at h
  | a :: b :: l, [], x, h => by simp [packT] at h
  | a :: b :: l, s :: ss, x, h => by
    simp only [packT] at h
    split at h
    · rename_i x1 x2 h1 h2
      obtain rfl := Option.some.inj h
      have e1 := cast?_eq h1
      have e2 := unpack_pack h2
      simp only [unpack, e2, e1]
    · cases h
theorem unpack_ty : {l : List Ty} → (x : ProdT l) → (unpack l x).map (·.1) = l
  | [], x => rfl
  | [a], x => rfl
  | a :: b :: l, x => by simp only [unpack, List.map_cons, unpack_ty (l := b :: l) x.2]
section
variable {P : Program} {E : TyOf} {T0 : Bs} {ξ0 : Im} {w0 : World} {tk : Nat → Bs} {Tf : Bs} {ξ : Im} {w : World} {σ : St} {tm : Array Value}
theorem Rel.low {ξ' : Im} : {τ : Ty} → {f : Fl} → {x : τ.T} → {cs : List Value} → {T : Bs} → Rel ξ w τ f x cs T → f.noro τ = true → (∀ b, T b → ξ' b = ξ b) → Rel ξ' w τ f x cs T
  | .int _, _, _, _, _, h, _, _ => h
  | .bool, _, _, _, _, h, _, _ => h
  | .str, _, _, _, _, h, _, _ => h
  | .row e, f, l, cs, T, h, n, k => by
    cases f with
    | gone => simp [Fl.noro] at n
    | pr _ _ => exact h.elim
    | ro => simp [Fl.noro] at n
    | own g =>
      rcases h with h | ⟨a, cap, c, t, fz, Te, h1, h2, h3, h4, h5, h6, h7, h8, h9, h10, h11⟩
      · exact .inl h
      · refine .inr ⟨a, cap, c, t, fz, Te, h1, h2, h3, h4, h5, h6, h7, by rw [k _ h3]; exact h8, h9, h10, fun i hi => ?_⟩
        obtain ⟨c', h12, h13, h14⟩ := h11 i hi
        exact ⟨c', h12, h13, Rel.low h14 (by simpa [Fl.noro] using n) fun b hb => k b ((h9 i).1 b hb)⟩
  | .pair a b, f, _, _, _, ⟨c1, c2, T1, T2, hc, hl, s1, s2, d, h1, h2⟩, n, k => by
    simp only [Fl.noro, Bool.and_eq_true] at n
    exact ⟨c1, c2, T1, T2, hc, hl, s1, s2, d, h1.low n.1 fun b hb => k b (s1 b hb), h2.low n.2 fun b hb => k b (s2 b hb)⟩
  | .st a, _, _, _, _, h, n, k => Rel.low (τ := a) h n k
theorem Own.low {ξ' : Im} {a : AV} {v : Value} {T : Bs} (h : Own ξ w a v T) (ha : (∃ τ x f, a = .d τ x f ∧ f.noro τ = true) ∨ ∃ τ x f r, a = .box τ x f r ∧ f.noro τ = true) (k : ∀ b, T b → ξ' b = ξ b) : Own ξ' w a v T := by
  rcases ha with ⟨τ, x, f, rfl, n⟩ | ⟨τ, x, f, r, rfl, n⟩
  · obtain ⟨cs, h1, h2⟩ := h; exact ⟨cs, h1, h2.low n k⟩
  · obtain ⟨b, c, t, fz, T', h1, h2, h3, h4, h5, h6, h7, h8⟩ := h
    exact ⟨b, c, t, fz, T', h1, h2, h3, h4, by rw [k b h2]; exact h5, h6, h7, h8.low n fun i hi => k i (h6 i hi)⟩
theorem res_noro : {rs : List Res} → {ss : List Sv} → (∀ (i : Nat) (r : Res) (s : Sv), rs[i]? = some r → ss[i]? = some s → s.1 = r.τ) → rs.all (fun r => r.f.noro r.τ) = true → ∀ a ∈ resAV rs ss, (∃ τ x f, a = .d τ x f ∧ f.noro τ = true) ∨ ∃ τ x f r, a = .box τ x f r ∧ f.noro τ = true
  | [], _, _, _, a, ha => by simp [resAV] at ha
  | r :: rs, [], _, _, a, ha => by simp [resAV] at ha
  | r :: rs, s :: ss, ht, hn, a, ha => by
    simp only [List.all_cons, Bool.and_eq_true] at hn
    simp only [resAV, List.mem_cons] at ha
    rcases ha with rfl | ha
    · have e := ht 0 r s rfl rfl
      split
      · exact .inr ⟨s.1, s.2, r.f, none, rfl, by rw [e]; exact hn.1⟩
      · exact .inl ⟨s.1, s.2, r.f, rfl, by rw [e]; exact hn.1⟩
    · exact res_noro (fun i r' s' h1 h2 => ht (i + 1) r' s' h1 h2) hn.2 a ha
theorem oneAV_low {ξ' : Im} {l : List AV} {v : Value} {T : Bs} (h : SOwn ξ w (oneAV l) v T) (ha : ∀ a ∈ l, (∃ τ x f, a = .d τ x f ∧ f.noro τ = true) ∨ ∃ τ x f r, a = .box τ x f r ∧ f.noro τ = true) (k : ∀ b, T b → ξ' b = ξ b) : SOwn ξ' w (oneAV l) v T := by
  match l with
  | [] => exact h
  | [a] =>
    have := ha a (by simp)
    rcases this with ⟨τ, x, f, rfl, n⟩ | ⟨τ, x, f, r, rfl, n⟩
    · exact Own.low (a := .d τ x f) h (.inl ⟨τ, x, f, rfl, n⟩) k
    · exact Own.low (a := .box τ x f r) h (.inr ⟨τ, x, f, r, rfl, n⟩) k
  | a :: b :: l =>
    obtain ⟨vs, Te, h1, h0, h2, h3, h4⟩ := h
    exact ⟨vs, Te, h1, h0, h2, h3, fun i c hc => (h4 i c hc).low (ha c (List.mem_of_getElem? hc)) fun b hb => k b (h2 i b hb)⟩
theorem boxOf_ok {o : Operand} {h0 : Tmp} {s : Sv} {f : Fl} (h : SA T0 ξ0 w0 tk Tf ξ w σ tm) (hb : boxOf σ o = some (h0, s, f)) : σ.av h0 = .box s.1 s.2 f none ∧ ev tm o = tm.getD h0 undef := by
  cases o with
  | tmp u =>
    simp only [boxOf] at hb
    split at hb
    · rename_i τ x f' ha
      simp only [Option.some.injEq, Prod.mk.injEq] at hb
      obtain ⟨rfl, rfl, rfl⟩ := hb
      exact ⟨ha, rfl⟩
    · rename_i h1 g v ha
      split at hb
      case isFalse => cases hb
      rename_i hg
      split at hb
      case h_2 => cases hb
      rename_i τ x f' hh
      simp only [Option.some.injEq, Prod.mk.injEq] at hb
      obtain ⟨rfl, rfl, rfl⟩ := hb
      refine ⟨hh, ?_⟩
      obtain ⟨b, off, k1, k2⟩ := h.at_ref ha (by simp only [refOk, Bool.and_eq_true, hg, Path.fields, Bool.true_or, and_self])
      rw [hh] at k2
      obtain ⟨b0, c, t, fz, m1, m2, _⟩ := k2
      obtain ⟨rfl, rfl⟩ := m2 rfl
      rw [offP_nil] at k1
      exact k1.trans m1.symm
    · cases hb
  | _ => simp [boxOf] at hb
def shift (T : Bs) (Ta : Nat → Bs) : Nat → Bs
  | 0 => T
  | i + 1 => Ta i
theorem shift_sub (Tf T : Bs) (Ta : Nat → Bs) : Sb (Un Tf (fun b => ∃ i, shift T Ta i b)) (Un (Un Tf T) (fun b => ∃ i, Ta i b)) := by
  intro b hb
  rcases hb with hb | ⟨i, hb⟩
  · exact .inl (.inl hb)
  · cases i with
    | zero => exact .inl (.inr hb)
    | succ i => exact .inr ⟨i, hb⟩
theorem shift_sub0 (Tf : Bs) (Ta : Nat → Bs) : Sb (Un Tf (fun b => ∃ i, shift Em Ta i b)) (Un Tf (fun b => ∃ i, Ta i b)) := by
  intro b hb
  rcases shift_sub Tf Em Ta b hb with hb | hb
  · exact .inl (hb.elim id fun x => x.elim)
  · exact .inr hb
theorem shift_dj {T : Bs} {Ta : Nat → Bs} (h : ∀ i, Dj (Ta i) T) (k : ∀ i j, i ≠ j → Dj (Ta i) (Ta j)) : ∀ i j, i ≠ j → Dj (shift T Ta i) (shift T Ta j) := by
  intro i j hij
  cases i with
  | zero => cases j with
    | zero => exact (hij rfl).elim
    | succ j => exact Dj.symm (h j)
  | succ i => cases j with
    | zero => exact h i
    | succ j => exact k i j (by omega)
theorem give_none {ps : List Par} {os : List Operand} {l : List (Option Sv)} {Ta : Nat → Bs} {σ1 : St} (k4 : os.length = ps.length) (k5 : l.length = ps.length)
    (k7 : ∀ (i : Nat) (p : Par) (o : Operand) (e : Option Sv), ps[i]? = some p → os[i]? = some o → l[i]? = some e → match p.m with
        | .rd => e = none ∧ Ta i = Em
        | .own f => ∃ s, e = some s ∧ SOwn ξ w (.d s.1 s.2 f) (ev tm o) (Ta i)
        | .bx f => ∃ s bk, e = some s ∧ Ta i = Em ∧ (none : Option Bk) = some bk ∧ bk.p = none ∧ bk.f = f ∧ σ1.av bk.h = .box s.1 s.2 f none ∧ ev tm o = tm.getD bk.h undef ∧ ∀ (j : Nat) (q : Par), ps[j]? = some q → q.isIn = true → j = i
        | .io f => ∃ s bk, e = some s ∧ SOwn ξ w (.d s.1 s.2 f) (ev tm o) (Ta i) ∧ (none : Option Bk) = some bk ∧ bk.p.isSome = true ∧ bk.f = f ∧ ∀ (j : Nat) (q : Par), ps[j]? = some q → q.isIn = true → j = i) :
    ∀ (j : Nat) (q : Par), ps[j]? = some q → q.isIn = false := by
  intro j q hj
  cases hqm : q.m with
  | rd => simp [Par.isIn, hqm]
  | own f => simp [Par.isIn, hqm]
  | _ =>
    have hlt : j < ps.length := (List.getElem?_eq_some_iff.1 hj).1
    obtain ⟨o', ho'⟩ : ∃ o', os[j]? = some o' := ⟨_, List.getElem?_eq_getElem (by omega)⟩
    obtain ⟨e, he⟩ : ∃ e, l[j]? = some e := ⟨_, List.getElem?_eq_getElem (by omega)⟩
    have := k7 j q o' e hj ho' he
    rw [hqm] at this
    first
      | (obtain ⟨_, _, _, _, z, _⟩ := this; cases z)
/-- what goes along stands at its place -/
def BkOk (w : World) (σ : St) (tm : Array Value) (bk : Bk) (p : Par) (s : Sv) (v : Value) : Prop := match bk.p with
  | none => p.m = .bx bk.f ∧ σ.av bk.h = .box s.1 s.2 bk.f none ∧ v = tm.getD bk.h undef
  | some q => p.m = .io bk.f ∧ ∃ cs, Part w (σ.av bk.h) (tm.getD bk.h undef) q s.1 s.2 cs ∧ v = mkV s.1 cs
theorem lend_ok {o : Operand} {h0 : Tmp} {p : Path} {s : Sv} {f : Fl} {σ' : St} (h : SA T0 ξ0 w0 tk Tf ξ w σ tm) (ht : lend σ o = some (h0, p, s, f, σ')) :
    ∃ tk' : Nat → Bs, ∃ T' : Bs, ∃ cs, SA T0 ξ0 w0 tk' (Un Tf T') ξ w σ' tm ∧ Dj T' Tf ∧ ev tm o = mkV s.1 cs ∧ Rel ξ w s.1 f s.2 cs T' ∧ Part w (σ'.av h0) (tm.getD h0 undef) p s.1 s.2 cs := by
  cases o with
  | const v => cases ht
  | global g => cases ht
  | func f => cases ht
  | tmp u =>
    simp only [lend] at ht
    split at ht
    · rename_i τ x f ha
      obtain ⟨cs, h1, h2⟩ := h.at_d ha
      simp only [Option.some.injEq, Prod.mk.injEq] at ht
      obtain ⟨rfl, rfl, rfl, rfl, rfl⟩ := ht
      have hu : u < σ.length := av_lt (by rw [ha]; simp)
      have K := h.turn (d := u) (a := .d τ x .gone) (U := Em) (T' := Em) (Tf' := Un Tf (tk u)) (Fr.refl _ _ _) (Sb.em _) h.wf (by rw [ha]; trivial) ⟨cs, h1, h2.gone⟩ (fun _ => trivial)
        (fun b hb => hb.elim) (fun b hb => ⟨.inl hb, hb.elim (fun x => (h.mayf b x).2) (fun x => (h.may u b x).2)⟩) (Dj.em _) hu
      refine ⟨_, tk u, cs, K, h.djf u, h1, h2, ?_⟩
      rw [St.av, St.slot_turn_eq hu]
      exact ⟨cs, [], [], h1, h2.len, getP_nil _ _, by simp, (offP_nil _).symm, h2.len, rfl⟩
    · rename_i τ x h1 p1 g v ha
      split at ht
      case isFalse => cases ht
      rename_i hv
      split at ht
      case h_2 => cases ht
      rename_i p1
      split at ht
      case isFalse => cases ht
      rename_i hp
      obtain ⟨cs, f', T', k1', k2', k3', k4', k5'⟩ := h.at_vw ha hv
      have hpart := k5' p1 rfl
      have hown := h.own h1
      split at ht
      · rename_i τ' x' f' hh
        simp only [Option.some.injEq, Prod.mk.injEq] at ht
        obtain ⟨rfl, rfl, rfl, rfl, rfl⟩ := ht
        have hu : h1 < σ.length := av_lt (by rw [hh]; simp)
        have hpart0 := hpart
        rw [hh] at hpart hown
        obtain ⟨cs0, c1, c3, k1, k2, k3, k4, k5, k6, k7⟩ := hpart
        obtain ⟨cs0', k8, k9⟩ := hown
        obtain rfl := mkV_inj k2 k9.len (k1.symm.trans k8)
        obtain ⟨d1, d2, d3, T1, T2, e1, e2, e3, e4, e5, e6, e7⟩ := k9.take k7 k3
        rw [k4] at e1
        obtain ⟨rfl, e8⟩ := List.append_inj e1 (by omega)
        obtain ⟨rfl, rfl⟩ := List.append_inj e8 (by rw [k6, e6.len])
        have K := h.turn (d := h1) (a := .d τ' x' (f'.put p1 .gone)) (U := Em) (T' := T2) (Tf' := Un Tf T1) (Fr.refl _ _ _) (Sb.em _) h.wf (by rw [hh]; trivial) ⟨cs0, k1, e7⟩ (fun _ => trivial)
          (fun b hb => ⟨.inl (.inr (e4 b hb)), (h.may h1 b (e4 b hb)).2⟩) (fun b hb => ⟨.inl (Sb.both (Sb.refl _) e3 b hb), hb.elim (fun x => (h.mayf b x).2) (fun x => (h.may h1 b (e3 b x)).2)⟩) (Dj.symm (Dj.un (Dj.symm ((h.djf h1).sub e4 (Sb.refl _))) e5)) hu
        refine ⟨_, T1, cs, K, (h.djf h1).sub e3 (Sb.refl _), k1', e6, ?_⟩
        rw [St.av, St.slot_turn_eq hu]
        exact ⟨cs0, c1, c3, k1, k2, k3, k4, k5, k6, k7⟩
      · rename_i τ' x' f' sr hh
        simp only [Option.some.injEq, Prod.mk.injEq] at ht
        obtain ⟨rfl, rfl, rfl, rfl, rfl⟩ := ht
        have hu : h1 < σ.length := av_lt (by rw [hh]; simp)
        rw [hh] at hpart hown
        obtain ⟨b, c, t', fz, c1, c3, k1, k2, k3, k4, k5, k6, k7⟩ := hpart
        obtain ⟨b', c', t'', fz', T3, m1, k8, k9, k10, k11, k12, k13, k14⟩ := hown
        rw [k1] at m1
        simp only [Value.pointer.injEq, Option.some.injEq, Addr.mk.injEq, and_true] at m1
        subst m1
        rw [k2] at k9
        simp only [Option.some.injEq, Obj.cells.injEq] at k9
        obtain ⟨rfl, rfl, rfl⟩ := k9
        obtain ⟨d1, d2, d3, T1, T2, e1, e2, e3, e4, e5, e6, e7⟩ := k14.take k7 k3
        rw [k4] at e1
        obtain ⟨rfl, e8⟩ := List.append_inj e1 (by omega)
        obtain ⟨rfl, rfl⟩ := List.append_inj e8 (by rw [k6, e6.len])
        have s1 : Sb (Un (fun i => i = b) T2) (tk h1) := Sb.un (fun i hi => hi ▸ k8) (e4.trans k12)
        have K := h.turn (d := h1) (a := .box τ' x' (f'.put p1 .gone) sr) (U := Em) (T' := Un (fun i => i = b) T2) (Tf' := Un Tf T1) (Fr.refl _ _ _) (Sb.em _) h.wf (by rw [hh]; exact ⟨_, _, _, rfl⟩)
          ⟨b, c, t', fz, T2, k1, .inl rfl, k2, k10, k11, Sb.r _ _, fun hx => k13 (e4 _ hx), e7⟩ (fun _ => trivial)
          (fun i hb => ⟨.inl (.inr (s1 i hb)), (h.may h1 i (s1 i hb)).2⟩) (fun b hb => ⟨.inl (Sb.both (Sb.refl _) (e3.trans k12) b hb), hb.elim (fun x => (h.mayf b x).2) (fun x => (h.may h1 b (k12 b (e3 b x))).2)⟩)
          (Dj.symm (Dj.un (Dj.symm ((h.djf h1).sub s1 (Sb.refl _))) (Dj.symm (Dj.un (fun i hi hx => k13 (hi ▸ e3 i hx)) (Dj.symm e5))))) hu
        refine ⟨_, T1, cs, K, (h.djf h1).sub (e3.trans k12) (Sb.refl _), k1', e6, ?_⟩
        rw [St.av, St.slot_turn_eq hu]
        exact ⟨b, c, t', fz, c1, c3, k1, k2, k3, k4, k5, k6, k7⟩
      · cases ht
    · cases ht
/-- the arguments that go for good -/
theorem give_ok : ∀ (ps : List Par) (ts : List TypeId) (os : List Operand) (σ : St) (tk : Nat → Bs) (Tf : Bs) {l : List (Option Sv)} {b : Option Bk} {σ1 : St}, SA T0 ξ0 w0 tk Tf ξ w σ tm → give E ps ts os σ = some (l, b, σ1) →
    ∃ tk1 : Nat → Bs, ∃ Ta : Nat → Bs, SA T0 ξ0 w0 tk1 (Un Tf (fun b => ∃ i, Ta i b)) ξ w σ1 tm ∧ (∀ i, Dj (Ta i) Tf) ∧ (∀ i j, i ≠ j → Dj (Ta i) (Ta j)) ∧ os.length = ps.length ∧ l.length = ps.length ∧
      (∀ bk : Bk, b = some bk → ∃ (i : Nat) (p : Par) (s : Sv) (o : Operand), ps[i]? = some p ∧ os[i]? = some o ∧ l[i]? = some (some s) ∧ BkOk w σ1 tm bk p s (ev tm o)) ∧
      ∀ (i : Nat) (p : Par) (o : Operand) (e : Option Sv), ps[i]? = some p → os[i]? = some o → l[i]? = some e → match p.m with
        | .rd => e = none ∧ Ta i = Em
        | .own f => ∃ s, e = some s ∧ SOwn ξ w (.d s.1 s.2 f) (ev tm o) (Ta i)
        | .bx f => ∃ s bk, e = some s ∧ Ta i = Em ∧ b = some bk ∧ bk.p = none ∧ bk.f = f ∧ σ1.av bk.h = .box s.1 s.2 f none ∧ ev tm o = tm.getD bk.h undef ∧ ∀ (j : Nat) (q : Par), ps[j]? = some q → q.isIn = true → j = i
        | .io f => ∃ s bk, e = some s ∧ SOwn ξ w (.d s.1 s.2 f) (ev tm o) (Ta i) ∧ b = some bk ∧ bk.p.isSome = true ∧ bk.f = f ∧ ∀ (j : Nat) (q : Par), ps[j]? = some q → q.isIn = true → j = i
  | [], ts, [], σ, tk, Tf, l, b, σ1, h, hd => by
    simp only [give, Option.some.injEq, Prod.mk.injEq] at hd
    obtain ⟨rfl, rfl, rfl⟩ := hd
    exact ⟨tk, fun _ => Em, h.drop (fun b hb => hb.elim id fun ⟨_, x⟩ => x.elim), fun _ => Dj.em _, fun _ _ _ => Dj.em _, rfl, rfl, (fun _ hb => by cases hb), fun i p o e hp => by simp at hp⟩
  | [], ts, _ :: _, σ, tk, Tf, l, b, σ1, h, hd => by simp [give] at hd
  | p :: ps, [], os, σ, tk, Tf, l, b, σ1, h, hd => by cases os <;> simp [give] at hd
  | p :: ps, t :: ts, [], σ, tk, Tf, l, b, σ1, h, hd => by simp [give] at hd
  | p :: ps, t :: ts, o :: os, σ, tk, Tf, l, b, σ1, h, hd => by
    simp only [give] at hd
    have nx : ∀ {f : Fl}, (p.m = .rd ∨ p.m = .own f) → ∀ {i : Nat}, (∀ (j : Nat) (q : Par), ps[j]? = some q → q.isIn = true → j = i) → ∀ (j : Nat) (q : Par), (p :: ps)[j]? = some q → q.isIn = true → j = i + 1 := by
      intro f hm i hu j q hj hb
      cases j with
      | zero => simp only [List.getElem?_cons_zero, Option.some.injEq] at hj; subst hj; rcases hm with hm | hm <;> simp [Par.isIn, hm] at hb
      | succ j => exact congrArg (· + 1) (hu j q hj hb)
    split at hd
    · -- read
      rename_i hm
      split at hd
      case h_2 => cases hd
      rename_i l1 b1 σ2 hg
      simp only [Option.some.injEq, Prod.mk.injEq] at hd
      obtain ⟨rfl, rfl, rfl⟩ := hd
      obtain ⟨tk1, Ta, k1, k2, k3, k4, k5, k6, k7⟩ := give_ok ps ts os σ tk Tf h hg
      refine ⟨tk1, shift Em Ta, k1.drop (shift_sub0 _ _), (fun i => by cases i <;> first | exact Dj.em _ | exact k2 _), shift_dj (fun _ => Dj.em' _) k3, by simp [k4], by simp [k5], fun bk hb => ?_, fun i q o' e hq ho he => ?_⟩
      · obtain ⟨i, q, s, o1, z1, z2, z3, z4⟩ := k6 bk hb
        exact ⟨i + 1, q, s, o1, z1, z2, z3, z4⟩
      · cases i with
        | zero =>
          simp only [List.getElem?_cons_zero, Option.some.injEq] at hq ho he
          subst hq; subst he
          rw [hm]
          exact ⟨rfl, rfl⟩
        | succ i =>
          have := k7 i q o' e hq ho he
          cases hqm : q.m with
          | rd => rw [hqm] at this; exact this
          | own f => rw [hqm] at this; exact this
          | bx f =>
            rw [hqm] at this
            obtain ⟨s, bk, z1, z2, z3, z4, z5, z6, z7, z8⟩ := this
            exact ⟨s, bk, z1, z2, z3, z4, z5, z6, z7, nx (f := .ro) (.inl hm) z8⟩
          | io f =>
            rw [hqm] at this
            obtain ⟨s, bk, z1, z2, z3, z4, z5, z6⟩ := this
            exact ⟨s, bk, z1, z2, z3, z4, z5, nx (f := .ro) (.inl hm) z6⟩
    · -- given
      rename_i f hm
      split at hd
      case h_2 => cases hd
      rename_i s f' σ2 ht
      split at hd
      case isFalse => cases hd
      rename_i hff
      subst hff
      split at hd
      case h_2 => cases hd
      rename_i l1 b1 σ3 hg
      simp only [Option.some.injEq, Prod.mk.injEq] at hd
      obtain ⟨rfl, rfl, rfl⟩ := hd
      obtain ⟨τ, x⟩ := s
      obtain ⟨tkA, T1, cs, a1, a2, a3, a4, a5, _⟩ := takeV_ok h ht
      obtain ⟨tk1, Ta, k1, k2, k3, k4, k5, k6, k7⟩ := give_ok ps ts os σ2 tkA (Un Tf T1) a1 hg
      refine ⟨tk1, shift T1 Ta, k1.drop (shift_sub _ _ _), (fun i => ?_), shift_dj (fun i => (k2 i).sub (Sb.refl _) (Sb.r _ _)) k3, by simp [k4], by simp [k5], fun bk hb => ?_, fun i q o' e hq ho he => ?_⟩
      · cases i with
        | zero => exact a2
        | succ i => exact (k2 i).sub (Sb.refl _) (Sb.l _ _)
      · obtain ⟨i, q, s, o1, z1, z2, z3, z4⟩ := k6 bk hb
        exact ⟨i + 1, q, s, o1, z1, z2, z3, z4⟩
      · cases i with
        | zero =>
          simp only [List.getElem?_cons_zero, Option.some.injEq] at hq ho he
          subst hq; subst ho; subst he
          rw [hm]
          exact ⟨⟨τ, x⟩, rfl, cs, a3, a4⟩
        | succ i =>
          have := k7 i q o' e hq ho he
          cases hqm : q.m with
          | rd => rw [hqm] at this; exact this
          | own f => rw [hqm] at this; exact this
          | bx f =>
            rw [hqm] at this
            obtain ⟨s, bk, z1, z2, z3, z4, z5, z6, z7, z8⟩ := this
            exact ⟨s, bk, z1, z2, z3, z4, z5, z6, z7, nx (.inr hm) z8⟩
          | io f =>
            rw [hqm] at this
            obtain ⟨s, bk, z1, z2, z3, z4, z5, z6⟩ := this
            exact ⟨s, bk, z1, z2, z3, z4, z5, nx (.inr hm) z6⟩
    · -- a box that goes along
      rename_i f hm
      split at hd
      case h_2 => cases hd
      rename_i l1 σ2 hg
      split at hd
      case h_2 => cases hd
      rename_i h0 s f' hbo
      split at hd
      case isFalse => cases hd
      rename_i hff
      subst hff
      simp only [Option.some.injEq, Prod.mk.injEq] at hd
      obtain ⟨rfl, rfl, rfl⟩ := hd
      obtain ⟨tk1, Ta, k1, k2, k3, k4, k5, k6, k7⟩ := give_ok ps ts os σ tk Tf h hg
      obtain ⟨hb1, hb2⟩ := boxOf_ok k1 hbo
      have nobx := give_none k4 k5 k7
      refine ⟨tk1, shift Em Ta, k1.drop (shift_sub0 _ _), (fun i => by cases i <;> first | exact Dj.em _ | exact k2 _), shift_dj (fun _ => Dj.em' _) k3, by simp [k4], by simp [k5], fun bk hb => ?_, fun i q o' e hq ho he => ?_⟩
      · simp only [Option.some.injEq] at hb
        subst hb
        exact ⟨0, p, s, o, rfl, rfl, rfl, hm, hb1, hb2⟩
      · cases i with
        | zero =>
          simp only [List.getElem?_cons_zero, Option.some.injEq] at hq ho he
          subst hq; subst ho; subst he
          rw [hm]
          refine ⟨s, _, rfl, rfl, rfl, rfl, rfl, hb1, hb2, fun j q' hj hb => ?_⟩
          cases j with
          | zero => rfl
          | succ j => rw [nobx j q' hj] at hb; cases hb
        | succ i =>
          have := k7 i q o' e hq ho he
          cases hqm : q.m with
          | rd => rw [hqm] at this; exact this
          | own f => rw [hqm] at this; exact this
          | bx f => have := nobx i q hq; simp [Par.isIn, hqm] at this
          | io f => have := nobx i q hq; simp [Par.isIn, hqm] at this
    · -- a row that goes along
      rename_i f hm
      split at hd
      case h_2 => cases hd
      rename_i l1 σ2 hg
      split at hd
      case h_2 => cases hd
      rename_i h0 p0 s f' σ3 hbo
      split at hd
      case isFalse => cases hd
      rename_i hff
      subst hff
      simp only [Option.some.injEq, Prod.mk.injEq] at hd
      obtain ⟨rfl, rfl, rfl⟩ := hd
      obtain ⟨tk1, Ta, k1, k2, k3, k4, k5, k6, k7⟩ := give_ok ps ts os σ tk Tf h hg
      obtain ⟨tk2, T1, cs, m1, m2, m3, m4, m5⟩ := lend_ok k1 hbo
      have nobx := give_none k4 k5 k7
      have m6 : ∀ i, Dj (Ta i) T1 := fun i => Dj.symm (m2.sub (Sb.refl _) fun b hb => .inr ⟨i, hb⟩)
      refine ⟨tk2, shift T1 Ta, m1.drop ?_, (fun i => ?_), shift_dj m6 k3, by simp [k4], by simp [k5], fun bk hb => ?_, fun i q o' e hq ho he => ?_⟩
      · intro b hb
        rcases hb with hb | ⟨i, hb⟩
        · exact .inl (.inl hb)
        · cases i with
          | zero => exact .inr hb
          | succ i => exact .inl (.inr ⟨i, hb⟩)
      · cases i with
        | zero => exact m2.sub (Sb.refl _) (Sb.l _ _)
        | succ i => exact k2 i
      · simp only [Option.some.injEq] at hb
        subst hb
        exact ⟨0, p, s, o, rfl, rfl, rfl, hm, cs, m5, m3⟩
      · cases i with
        | zero =>
          simp only [List.getElem?_cons_zero, Option.some.injEq] at hq ho he
          subst hq; subst ho; subst he
          rw [hm]
          refine ⟨s, _, rfl, ⟨cs, m3, m4⟩, rfl, rfl, rfl, fun j q' hj hb => ?_⟩
          cases j with
          | zero => rfl
          | succ j => rw [nobx j q' hj] at hb; cases hb
        | succ i =>
          have := k7 i q o' e hq ho he
          cases hqm : q.m with
          | rd => rw [hqm] at this; exact this
          | own f => rw [hqm] at this; exact this
          | bx f => have := nobx i q hq; simp [Par.isIn, hqm] at this
          | io f => have := nobx i q hq; simp [Par.isIn, hqm] at this
/-- what went along is back at its place -/
theorem back_ok {bk : Bk} {q : Path} {s : Sv} {x0 : s.1.T} {cs : List Value} {tb Tf' : Bs} (hq : bk.p = some q) (h : SA T0 ξ0 w0 tk (Un Tf' tb) ξ w σ tm) (hd : Dj tb Tf') (hp : Part w (σ.av bk.h) (tm.getD bk.h undef) q s.1 x0 cs) (ho : SOwn ξ w (.d s.1 s.2 bk.f) (mkV s.1 cs) tb) :
    ∃ tk' : Nat → Bs, SA T0 ξ0 w0 tk' Tf' ξ w (backS σ bk s) tm := by
  obtain ⟨cs2, o1, o2⟩ := ho
  have hown := h.own bk.h
  have drop : bk.h < σ.length → ∃ tk' : Nat → Bs, SA T0 ξ0 w0 tk' Tf' ξ w (σ.put bk.h .no) tm := fun hlt =>
    ⟨_, h.put (tm' := tm) (T' := Em) (Tf' := Tf') rfl (fun _ _ => rfl) trivial trivial (Sb.em _) (fun b hb => .inl (.inl hb)) (Dj.em _) hlt⟩
  simp only [backS, hq]
  split
  · rename_i τ x f ha
    have hlt : bk.h < σ.length := av_lt (by rw [ha]; simp)
    split
    · rename_i y hy
      rw [ha] at hp hown
      obtain ⟨cs0, c1, c3, k1, k2, k3, k4, k5, k6, k7⟩ := hp
      obtain ⟨cs0', k8, k9⟩ := hown
      obtain rfl := mkV_inj k2 k9.len (k1.symm.trans k8)
      obtain rfl := mkV_inj k6 o2.len o1
      obtain ⟨d1, d2, d3, e1, e2, e3, e4⟩ := k9.set k7 hy o2 ((h.djf bk.h).sub (Sb.refl _) (Sb.r _ _))
      rw [k4] at e1
      obtain ⟨rfl, e8⟩ := List.append_inj e1 (by omega)
      obtain ⟨rfl, rfl⟩ := List.append_inj e8 (by omega)
      rw [← k4] at e4
      exact ⟨_, h.turn (d := bk.h) (a := .d τ y (f.put q bk.f)) (U := Em) (T' := Un (tk bk.h) tb) (Tf' := Tf') (Fr.refl _ _ _) (Sb.em _) h.wf (by rw [ha]; trivial) ⟨cs0, k1, e4⟩ (fun _ => trivial)
        (fun b hb => ⟨.inl (hb.elim .inr fun x => .inl (.inr x)), hb.elim (fun x => (h.may _ b x).2) fun x => (h.mayf b (.inr x)).2⟩) (fun b hb => ⟨.inl (.inl (.inl hb)), (h.mayf b (.inl hb)).2⟩) (Dj.un ((h.djf bk.h).sub (Sb.refl _) (Sb.l _ _)) hd) hlt⟩
    · exact drop hlt
  · rename_i τ x f sr ha
    have hlt : bk.h < σ.length := av_lt (by rw [ha]; simp)
    split
    · rename_i y hy
      rw [ha] at hp hown
      obtain ⟨b, c, t', fz, c1, c3, k1, k2, k3, k4, k5, k6, k7⟩ := hp
      obtain ⟨b', c', t'', fz', T3, m1, k8, k9, k10, k11, k12, k13, k14⟩ := hown
      rw [k1] at m1
      simp only [Value.pointer.injEq, Option.some.injEq, Addr.mk.injEq, and_true] at m1
      subst m1
      rw [k2] at k9
      simp only [Option.some.injEq, Obj.cells.injEq] at k9
      obtain ⟨rfl, rfl, rfl⟩ := k9
      obtain rfl := mkV_inj k6 o2.len o1
      have dt : Dj (tk bk.h) tb := (h.djf bk.h).sub (Sb.refl _) (Sb.r _ _)
      obtain ⟨d1, d2, d3, e1, e2, e3, e4⟩ := k14.set k7 hy o2 (dt.sub k12 (Sb.refl _))
      rw [k4] at e1
      obtain ⟨rfl, e8⟩ := List.append_inj e1 (by omega)
      obtain ⟨rfl, rfl⟩ := List.append_inj e8 (by omega)
      rw [← k4] at e4
      exact ⟨_, h.turn (d := bk.h) (a := .box τ y (f.put q bk.f) sr) (U := Em) (T' := Un (tk bk.h) tb) (Tf' := Tf') (Fr.refl _ _ _) (Sb.em _) h.wf (by rw [ha]; exact ⟨_, _, _, rfl⟩)
        ⟨b, c, t', fz, Un T3 tb, k1, .inl k8, k2, k10, k11, Sb.both k12 (Sb.refl _), fun hx => hx.elim k13 fun x => dt b k8 x, e4⟩ (fun _ => trivial)
        (fun b hb => ⟨.inl (hb.elim .inr fun x => .inl (.inr x)), hb.elim (fun x => (h.may _ b x).2) fun x => (h.mayf b (.inr x)).2⟩) (fun b hb => ⟨.inl (.inl (.inl hb)), (h.mayf b (.inl hb)).2⟩) (Dj.un ((h.djf bk.h).sub (Sb.refl _) (Sb.l _ _)) hd) hlt⟩
    · exact drop hlt
  · rename_i hd' hb'
    cases ha : σ.av bk.h with
    | d τ x f => exact (hd' _ _ _ ha).elim
    | box τ x f r => exact (hb' _ _ _ _ ha).elim
    | _ => rw [ha] at hp; exact hp.elim
/-- what is read, of slots other than h -/
def ReadsX (ξ : Im) (w : World) (tk : Nat → Bs) (h0 : Option Nat) (v : Value) (s : Sv) : Prop := ∃ cs f, ∃ T' : Bs, ∃ t : Nat, (∀ h, h0 = some h → t ≠ h) ∧ v = mkV s.1 cs ∧ Sb T' (tk t) ∧ f.ok s.1 = true ∧ Rel ξ w s.1 f s.2 cs T'
theorem rdv_turn (h : SA T0 ξ0 w0 tk Tf ξ w σ tm) {h0 : Nat} (hlt : h0 < σ.length) {o : Operand} {s : Sv} (hr : rdv (σ.turn h0 .no) o = some s) : ReadsX ξ w tk (some h0) (ev tm o) s := by
  cases o with
  | tmp u =>
    by_cases e : u = h0
    · subst e
      simp only [rdv, St.av, St.slot_turn_eq hlt] at hr
      cases hr
    · have ea : (σ.turn h0 .no).av u = σ.av u := by simp only [St.av, St.slot_turn_ne e]
      simp only [rdv, ea] at hr
      split at hr
      · rename_i τ x f ha
        split at hr
        · rename_i hf
          obtain rfl := Option.some.inj hr
          obtain ⟨cs, h1, h2⟩ := h.at_d ha
          exact ⟨cs, f, tk u, u, fun h' hh => by cases hh; exact e, h1, Sb.refl _, hf, h2⟩
        · cases hr
      · rename_i τ x h1 p g v ha
        split at hr
        · rename_i hv
          obtain rfl := Option.some.inj hr
          have hpast : Past σ h1 g v := by have := h.lent u; rw [ha] at this; exact this.1
          by_cases e' : h1 = h0
          · subst e'
            simp only [St.valid, St.slot_turn_eq hlt, Bool.and_eq_true, beq_iff_eq] at hv
            have := hpast.2 hv.1.symm
            omega
          · have hv' : σ.valid h1 g v = true := by simpa [St.valid, St.slot_turn_ne e'] using hv
            obtain ⟨cs, f, T', k1, k2, k3, k4, k5⟩ := h.at_vw ha hv'
            exact ⟨cs, f, T', h1, fun h' hh => by cases hh; exact e', k1, k2, k3, k4⟩
        · cases hr
      · cases hr
  | const v =>
    cases v <;> simp only [rdv, Option.some.injEq, reduceCtorEq] at hr
    · subst hr; exact ⟨[_], .ro, Em, h0 + 1, fun h' hh => by cases hh; omega, rfl, Sb.em _, rfl, rfl, fun _ => rfl⟩
    · subst hr; exact ⟨[_], .ro, Em, h0 + 1, fun h' hh => by cases hh; omega, rfl, Sb.em _, rfl, rfl, fun _ => rfl⟩
    · subst hr; exact ⟨[_], .ro, Em, h0 + 1, fun h' hh => by cases hh; omega, rfl, Sb.em _, rfl, rfl, fun _ => rfl⟩
  | global g => simp [rdv] at hr
  | func f => simp [rdv] at hr
theorem rdT_turn {t : TypeId} (h : SA T0 ξ0 w0 tk Tf ξ w σ tm) {h0 : Option Nat} (hlt : ∀ h1, h0 = some h1 → h1 < σ.length) {o : Operand} {s : Sv} (hr : rdT E (σ.less h0) t o = some s) : ReadsX ξ w tk h0 (ev tm o) s := by
  unfold rdT at hr
  split at hr
  · split at hr
    · obtain rfl := Option.some.inj hr
      refine ⟨[.slice none 0 0], .ro, Em, (h0.getD 0) + 1, fun h1 hh => by subst hh; simp, rfl, Sb.em _, rfl, none, 0, rfl, Nat.le_refl _, fun i hi => ?_⟩
      simp [sv] at hi
    · cases hr
  · cases h0 with
    | none =>
      obtain ⟨cs, f, T', t', k1, k2, k3, k4⟩ := rdv_ok h hr
      exact ⟨cs, f, T', t', (fun _ hh => by cases hh), k1, k2, k3, k4⟩
    | some h1 => exact rdv_turn h (hlt h1 rfl) hr
/-- what is read and stays as it is -/
theorem stays_ok {t : TypeId} (h : SA T0 ξ0 w0 tk Tf ξ w σ tm) {h0 : Option Nat} (hlt : ∀ h1, h0 = some h1 → h1 < σ.length) {o : Operand} {s : Sv} (hr : rdT E (σ.less h0) t o = some s) (hs : stays (σ.less h0) s o = true) :
    ∃ cs, ev tm o = mkV s.1 cs ∧ Rel ξ w s.1 .ro s.2 cs Em := by
  obtain ⟨cs, f, T', t', k0, k1, k2, k3, k4⟩ := rdT_turn h hlt hr
  cases o with
  | tmp u =>
    simp only [stays, Bool.or_eq_true] at hs
    rcases hs with hs | hs
    · exact ⟨cs, k1, k4.flatRo k3 hs⟩
    · have hav : (σ.less h0).av u = σ.av u ∨ (σ.less h0).av u = .no := by
        cases h0 with
        | none => exact .inl rfl
        | some h1 =>
          by_cases e : u = h1
          · subst e; right; simp only [St.less, St.av, St.slot_turn_eq (hlt u rfl)]
          · left; simp only [St.less, St.av, St.slot_turn_ne e]
      rcases hav with hav | hav
      · rw [hav] at hs
        split at hs
        · rename_i τ x f' ha
          have hr' : rdv (σ.less h0) (.tmp u) = some s := hr
          simp only [rdv, hav, ha] at hr'
          split at hr'
          · obtain rfl := Option.some.inj hr'
            obtain ⟨cs', m1, m2⟩ := h.at_d ha
            exact ⟨cs', m1, m2.toRo hs⟩
          · cases hr'
        · cases hs
      · rw [hav] at hs; simp at hs
  | const v =>
    cases v <;> simp only [rdT, rdv, Option.some.injEq, reduceCtorEq] at hr
    · subst hr; exact ⟨[_], rfl, rfl, fun _ => rfl⟩
    · subst hr; exact ⟨[_], rfl, rfl, fun _ => rfl⟩
    · subst hr; exact ⟨[_], rfl, rfl, fun _ => rfl⟩
    · rename_i a n c
      cases a with
      | some a => simp [rdv] at hr
      | none =>
        cases n with
        | succ n => simp [rdv] at hr
        | zero =>
          cases c with
          | succ c => simp [rdv] at hr
          | zero =>
            simp only at hr
            split at hr
            · obtain rfl := Option.some.inj hr
              exact ⟨[.slice none 0 0], rfl, none, 0, rfl, Nat.le_refl _, fun i hi => by simp [sv] at hi⟩
            · cases hr
  | global g => simp [rdT, rdv] at hr
  | func f => simp [rdT, rdv] at hr
theorem fillR_ok {σr : St} : ∀ (l : List (Option Sv)) (ts : List TypeId) (os : List Operand) {ss : List Sv} {b : Bool}, fillR E σr l ts os = some (ss, b) → ss.length = l.length ∧ ∀ (i : Nat) (e : Option Sv) (o : Operand), l[i]? = some e → os[i]? = some o → ∃ s, ss[i]? = some s ∧ match e with
    | some s' => s = s'
    | none => (∃ t, rdT E σr t o = some s) ∧ (b = false → stays σr s o = true)
  | [], ts, [], ss, b, h => by
    simp only [fillR, Option.some.injEq, Prod.mk.injEq] at h
    obtain ⟨rfl, rfl⟩ := h
    exact ⟨rfl, fun i e o hi => by simp at hi⟩
  | [], ts, _ :: _, ss, b, h => by simp [fillR] at h
  | e :: l, [], os, ss, b, h => by cases os <;> simp [fillR] at h
  | e :: l, t :: ts, [], ss, b, h => by simp [fillR] at h
  | e :: l, t :: ts, o :: os, ss, b, h => by
    simp only [fillR] at h
    split at h
    case h_1 => cases h
    rename_i ss1 b1 hr
    obtain ⟨ih1, ih2⟩ := fillR_ok l ts os hr
    split at h
    · rename_i s
      simp only [Option.some.injEq, Prod.mk.injEq] at h
      obtain ⟨rfl, rfl⟩ := h
      refine ⟨by simp [ih1], fun i e' o' hi ho => ?_⟩
      cases i with
      | zero =>
        simp only [List.getElem?_cons_zero, Option.some.injEq] at hi ho
        subst hi
        exact ⟨s, rfl, rfl⟩
      | succ i => exact ih2 i e' o' hi ho
    · split at h
      case h_2 => cases h
      rename_i s hs
      simp only [Option.some.injEq, Prod.mk.injEq] at h
      obtain ⟨rfl, rfl⟩ := h
      refine ⟨by simp [ih1], fun i e' o' hi ho => ?_⟩
      cases i with
      | zero =>
        simp only [List.getElem?_cons_zero, Option.some.injEq] at hi ho
        subst hi; subst ho
        exact ⟨s, rfl, ⟨t, hs⟩, fun hb => by simpa using (Bool.or_eq_false_iff.1 hb).2⟩
      | succ i =>
        obtain ⟨s', z1, z2⟩ := ih2 i e' o' hi ho
        refine ⟨s', z1, ?_⟩
        cases e' with
        | some _ => exact z2
        | none => exact ⟨z2.1, fun hb => z2.2 (Bool.or_eq_false_iff.1 hb).1⟩
end
end Go.Proofs.Ytabindnaedchgaa.Rf
