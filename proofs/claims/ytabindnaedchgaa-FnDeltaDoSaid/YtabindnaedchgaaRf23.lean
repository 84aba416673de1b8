/- Functions. Nothing of any program. -/
import Derived.Test.YtabindnaedchgaaRf22
namespace Go.Proofs.Ytabindnaedchgaa.Rf
open Go Go.RowKit
set_option linter.unusedVariables false
set_option linter.unusedSimpArgs false
section
variable {ρ : Type} {P : Program} {E : TyOf} {C : Nat → CEs} {H : Heads} {T0 : Bs} {ξ0 : Im} {w0 : World} {tk : Nat → Bs} {Tf : Bs} {ξ : Im} {w : World} {σ : St} {tm : Array Value}
def resOne (tm : Array Value) : ResultVar → Sem Value
  | .tmp t => pure (tm.getD t undef)
  | .cell a t => do loadVar t (← asAddr (tm.getD a undef))
def Res.av (r : Res) (s : Sv) : AV := if r.bx then .box s.1 s.2 r.f none else .d s.1 s.2 r.f
theorem resAV_get : ∀ (rs : List Res) (ss : List Sv) (i : Nat) (a : AV), (resAV rs ss)[i]? = some a → ∃ r s, rs[i]? = some r ∧ ss[i]? = some s ∧ a = r.av s
  | [], ss, i, a, h => by cases ss <;> simp [resAV] at h
  | r :: rs, [], i, a, h => by simp [resAV] at h
  | r :: rs, s :: ss, 0, a, h => by
    simp only [resAV, List.getElem?_cons_zero, Option.some.injEq] at h
    exact ⟨r, s, rfl, rfl, h.symm⟩
  | r :: rs, s :: ss, i + 1, a, h => resAV_get rs ss i a h
theorem SA.freeze2 {T' : Bs} (h : SA T0 ξ0 w0 tk (Un Tf T') ξ w σ tm) (d : Dj T' Tf) : SA T0 ξ0 w0 tk (Un Tf Em) (frz ξ w T') w σ tm :=
  (h.freeze (T' := T') (Sb.r _ _)).drop fun b hb => ⟨.inl (hb.elim id fun x => x.elim), fun hx => d b hx (hb.elim id fun x => x.elim)⟩
theorem coerce_ok {τ : Ty} {x : τ.T} {f g : Fl} {cs : List Value} {T' : Bs} (h : SA T0 ξ0 w0 tk (Un Tf T') ξ w σ tm) (d : Dj T' Tf) (hr : Rel ξ w τ f x cs T') (hc : (decide (f = g) || (decide (g = .ro) && f.ok τ)) = true) :
    ∃ T2 : Bs, ∃ ξ' : Im, SA T0 ξ0 w0 tk (Un Tf T2) ξ' w σ tm ∧ Dj T2 Tf ∧ Rel ξ' w τ g x cs T2 ∧ Keep Tf ξ w ξ' w := by
  simp only [Bool.or_eq_true, decide_eq_true_eq, Bool.and_eq_true] at hc
  rcases hc with rfl | ⟨rfl, hok⟩
  · exact ⟨T', ξ, h, d, hr, Keep.refl _ _ _⟩
  · exact ⟨Em, frz ξ w T', h.freeze2 d, Dj.em _, hr.frz hok, frz_keep ξ w T' Tf d⟩
theorem getOne_ok {v : ResultVar} {r : Res} {s : Sv} {σ' : St} (he : EOk P E) (h : SA T0 ξ0 w0 tk Tf ξ w σ tm) (hd : getOne E v r σ = some (s, σ')) :
    ∃ tk' : Nat → Bs, ∃ T' : Bs, ∃ ξ' : Im, ∃ u, SA T0 ξ0 w0 tk' (Un Tf T') ξ' w σ' tm ∧ Dj T' Tf ∧ (resOne tm v).run P w = .ok u w ∧ Own ξ' w (r.av s) u T' ∧ Keep Tf ξ w ξ' w := by
  cases v with
  | tmp t =>
    simp only [getOne] at hd
    split at hd
    · rename_i τ x f σ1 ht
      split at hd
      case isFalse => cases hd
      rename_i hc
      simp only [Bool.and_eq_true, Bool.not_eq_true'] at hc
      simp only [Option.some.injEq, Prod.mk.injEq] at hd
      obtain ⟨rfl, rfl⟩ := hd
      obtain ⟨tk1, T1, k1, k2, k3, _, _⟩ := take_ok h ht
      obtain ⟨cs, m1, m2⟩ := k3
      obtain ⟨T2, ξ', n1, n2, n3, n4⟩ := coerce_ok k1 k2 m2 hc.2
      refine ⟨tk1, T2, ξ', tm.getD t undef, n1, n2, rfl, ?_, n4⟩
      simp only [Res.av, hc.1]
      exact ⟨cs, m1, n3⟩
    · rename_i τ x f sr σ1 ht
      split at hd
      case isFalse => cases hd
      rename_i hc
      simp only [Bool.and_eq_true, decide_eq_true_eq] at hc
      simp only [Option.some.injEq, Prod.mk.injEq] at hd
      obtain ⟨rfl, rfl⟩ := hd
      obtain ⟨tk1, T1, k1, k2, k3, _, _⟩ := take_ok h ht
      refine ⟨tk1, T1, ξ, tm.getD t undef, k1, k2, rfl, ?_, Keep.refl _ _ _⟩
      simp only [Res.av, hc.1, if_true]
      obtain ⟨_, rfl⟩ := hc
      exact k3
    · cases hd
  | cell t ty =>
    simp only [getOne] at hd
    split at hd
    case h_2 => cases hd
    rename_i τ x f sr ha
    split at hd
    case isFalse => cases hd
    rename_i hE
    split at hd
    case isFalse => cases hd
    rename_i hc
    simp only [Bool.and_eq_true, Bool.not_eq_true'] at hc
    simp only [Option.some.injEq, Prod.mk.injEq] at hd
    obtain ⟨rfl, rfl⟩ := hd
    obtain ⟨b, c, t', fz, T1, k1, k2, k3, k4, k5, k6, k7, k8⟩ := h.at_box ha
    have S := h.put (d := t) (a := .no) (tm' := tm) (T' := Em) (Tf' := Un Tf T1) rfl (fun _ _ => rfl) trivial trivial (Sb.em _) (Sb.both (Sb.refl _) k6) (Dj.em _) (av_lt (by rw [ha]; simp))
    obtain ⟨T2, ξ', n1, n2, n3, n4⟩ := coerce_ok S ((h.djf t).sub k6 (Sb.refl _)) k8 hc.2
    refine ⟨_, T2, ξ', mkV τ c.toList, n1, n2, ?_, ?_, n4⟩
    · simp only [resOne, Sem.run_bind, k1, asAddr, Sem.run_pure, Result.andThen]
      exact run_loadVar (he _ _ hE) k8.len (CAt_heap k3)
    · simp only [Res.av, hc.1]
      exact ⟨c.toList, rfl, n3⟩
theorem getRes_ok (he : EOk P E) : ∀ (vs : List ResultVar) (rs : List Res) (σ : St) (tk : Nat → Bs) (Tf : Bs) (ξ : Im) {ss : List Sv} {σ' : St}, SA T0 ξ0 w0 tk Tf ξ w σ tm → getRes E vs rs σ = some (ss, σ') →
    ∃ tk' : Nat → Bs, ∃ Tr : Nat → Bs, ∃ ξ' : Im, ∃ us : List Value, SA T0 ξ0 w0 tk' (Un Tf (fun b => ∃ i, Tr i b)) ξ' w σ' tm ∧ (∀ i, Dj (Tr i) Tf) ∧ (∀ i j, i ≠ j → Dj (Tr i) (Tr j)) ∧ us.length = vs.length ∧ ss.length = rs.length ∧ vs.length = rs.length ∧
      (∀ (i : Nat) (v : ResultVar), vs[i]? = some v → ∃ u : Value, us[i]? = some u ∧ (resOne tm v).run P w = .ok u w) ∧ (∀ (i : Nat) (r : Res) (s : Sv), rs[i]? = some r → ss[i]? = some s → Own ξ' w (r.av s) (us.getD i undef) (Tr i)) ∧ Keep Tf ξ w ξ' w
  | [], [], σ, tk, Tf, ξ, ss, σ', h, hd => by
    simp only [getRes, Option.some.injEq, Prod.mk.injEq] at hd
    obtain ⟨rfl, rfl⟩ := hd
    exact ⟨tk, fun _ => Em, ξ, [], h.drop (fun b hb => hb.elim id fun ⟨_, x⟩ => x.elim), fun _ => Dj.em _, fun _ _ _ => Dj.em _, rfl, rfl, rfl, fun i v hv => by simp at hv, fun i r s hr => by simp at hr, Keep.refl _ _ _⟩
  | [], _ :: _, σ, tk, Tf, ξ, ss, σ', h, hd => by simp [getRes] at hd
  | _ :: _, [], σ, tk, Tf, ξ, ss, σ', h, hd => by simp [getRes] at hd
  | v :: vs, r :: rs, σ, tk, Tf, ξ, ss, σ', h, hd => by
    simp only [getRes] at hd
    split at hd
    case h_2 => cases hd
    rename_i s σ1 h1
    split at hd
    case h_2 => cases hd
    rename_i ss1 σ2 h2
    simp only [Option.some.injEq, Prod.mk.injEq] at hd
    obtain ⟨rfl, rfl⟩ := hd
    obtain ⟨tk1, T1, ξ1, u, a1, a2, a3, a4, a5⟩ := getOne_ok he h h1
    obtain ⟨tk2, Tr, ξ2, us, b1, b2, b3, b4, b5, b6, b7, b8, b9⟩ := getRes_ok he vs rs σ1 tk1 (Un Tf T1) ξ1 a1 h2
    refine ⟨tk2, shift T1 Tr, ξ2, u :: us, b1.drop (shift_sub _ _ _), (fun i => ?_), shift_dj (fun i => (b2 i).sub (Sb.refl _) (Sb.r _ _)) b3, by simp [b4], by simp [b5], by simp [b6], fun i v' hv => ?_, fun i r' s' hr hs => ?_, a5.trans (b9.sub (Sb.l _ _))⟩
    · cases i with
      | zero => exact a2
      | succ i => exact (b2 i).sub (Sb.refl _) (Sb.l _ _)
    · cases i with
      | zero => simp only [List.getElem?_cons_zero, Option.some.injEq] at hv; subst hv; exact ⟨u, rfl, a3⟩
      | succ i => exact b7 i v' hv
    · cases i with
      | zero =>
        simp only [List.getElem?_cons_zero, Option.some.injEq] at hr hs
        subst hr; subst hs
        exact a4.keep (b9.sub (Sb.r _ _))
      | succ i => exact b8 i r' s' hr hs
theorem results_run {fn : Func} {us : List Value} (h1 : us.length = fn.results.size) (h2 : ∀ (i : Nat) (v : ResultVar), fn.results[i]? = some v → ∃ u : Value, us[i]? = some u ∧ (resOne tm v).run P w = .ok u w) : (results fn tm).run P w = .ok (if h : us.toArray.size = 1 then us.toArray[0] else .tuple us.toArray) w := by
  have key : ∀ (vs : List ResultVar) (us : List Value), us.length = vs.length → (∀ (i : Nat) (v : ResultVar), vs[i]? = some v → ∃ u : Value, us[i]? = some u ∧ (resOne tm v).run P w = .ok u w) → (vs.mapM (resOne tm)).run P w = .ok us w := by
    intro vs
    induction vs with
    | nil => intro us h1 _; have : us = [] := List.length_eq_zero_iff.1 h1; subst this; simp
    | cons v vs ih =>
      intro us h1 h2
      match us, h1 with
      | u :: us, h1 =>
        obtain ⟨u', e1, e2⟩ := h2 0 v rfl
        simp only [List.getElem?_cons_zero, Option.some.injEq] at e1
        subst e1
        have := ih us (by simpa using h1) fun i v hv => h2 (i + 1) v hv
        simp only [List.mapM_cons, Sem.run_bind, e2, Result.andThen, this, Sem.run_pure]
  have k := key fn.results.toList us (by simpa using h1) fun i v hv => h2 i v (by rw [← Array.getElem?_toList]; exact hv)
  have hm : (fn.results.mapM (resOne tm)).run P w = .ok us.toArray w := by
    rw [Array.mapM_eq_mapM_toList]
    simp [k]
  have e : results fn tm = (do let vs ← fn.results.mapM (resOne tm); pure (if h : vs.size = 1 then vs[0] else .tuple vs) : Sem Value) := by
    unfold results
    congr 1
  rw [e, Sem.run_bind, hm]
  rfl
def AvIs (σ : St) (i : Nat) (p : Par) (s : Sv) : Prop := match p.m with
  | .bx f => ∃ f', σ.av i = .box s.1 s.2 f' none ∧ (f' = f ∨ (f = .ro ∧ f'.isRo s.1 = true))
  | .io f => σ.av i = .d s.1 s.2 f
  | _ => False
theorem finals_ok : ∀ (ps : List Par) (j : Nat) (σ : St) {fs : List Sv}, finals ps j σ = some fs → fs.length = (ps.filter (·.isIn)).length ∧ ∀ (i : Nat) (p : Par), ps[i]? = some p → p.isIn = true → ∃ (k : Nat) (s : Sv), fs[k]? = some s ∧ AvIs σ (j + i) p s
  | [], _, _, fs, h => by
    simp only [finals, Option.some.injEq] at h
    subst h
    exact ⟨rfl, fun i p hp => by simp at hp⟩
  | p :: ps, j, σ, fs, h => by
    simp only [finals] at h
    split at h
    · cases h
    rename_i ss hs
    obtain ⟨k1, k2⟩ := finals_ok ps (j + 1) σ hs
    have plain : p.isIn = false → ss = fs → fs.length = ((p :: ps).filter (·.isIn)).length ∧ ∀ (i : Nat) (p' : Par), (p :: ps)[i]? = some p' → p'.isIn = true → ∃ (k : Nat) (s : Sv), fs[k]? = some s ∧ AvIs σ (j + i) p' s := by
      rintro hp rfl
      refine ⟨by simp [hp, k1], fun i p' hi hb => ?_⟩
      cases i with
      | zero => simp only [List.getElem?_cons_zero, Option.some.injEq] at hi; subst hi; rw [hp] at hb; cases hb
      | succ i => obtain ⟨k, s, e1, e2⟩ := k2 i p' hi hb; exact ⟨k, s, e1, by rwa [Nat.add_right_comm] at e2⟩
    have here : p.isIn = true → ∀ s : Sv, s :: ss = fs → AvIs σ j p s → fs.length = ((p :: ps).filter (·.isIn)).length ∧ ∀ (i : Nat) (p' : Par), (p :: ps)[i]? = some p' → p'.isIn = true → ∃ (k : Nat) (s : Sv), fs[k]? = some s ∧ AvIs σ (j + i) p' s := by
      rintro hp s rfl ha
      refine ⟨by simp [hp, k1], fun i p' hi hb => ?_⟩
      cases i with
      | zero => simp only [List.getElem?_cons_zero, Option.some.injEq] at hi; subst hi; exact ⟨0, s, rfl, ha⟩
      | succ i => obtain ⟨k, s', e1, e2⟩ := k2 i p' hi hb; exact ⟨k + 1, s', e1, by rwa [Nat.add_right_comm] at e2⟩
    cases hm : p.m with
    | rd => rw [hm] at h; exact plain (by simp [Par.isIn, hm]) (Option.some.inj h)
    | own f => rw [hm] at h; exact plain (by simp [Par.isIn, hm]) (Option.some.inj h)
    | bx f =>
      rw [hm] at h
      simp only at h
      split at h
      · rename_i τ x f' ha
        split at h
        · rename_i hf
          exact here (by simp [Par.isIn, hm]) ⟨τ, x⟩ (Option.some.inj h) (by simp only [AvIs, hm]; exact ⟨f', ha, hf⟩)
        · cases h
      · cases h
    | io f =>
      rw [hm] at h
      simp only at h
      split at h
      · rename_i τ x f' ha
        split at h
        · rename_i hf
          subst hf
          exact here (by simp [Par.isIn, hm]) ⟨τ, x⟩ (Option.some.inj h) (by simp only [AvIs, hm]; exact ha)
        · cases h
      · cases h
theorem one_of {α : Type} {l : List α} {p : α} (h : l.length ≤ 1) (hp : p ∈ l) : l = [p] := by
  cases l with
  | nil => simp at hp
  | cons a l =>
    cases l with
    | nil => simp at hp; rw [hp]
    | cons b l => simp at h
theorem filter_one {α : Type} {f : α → Bool} : ∀ {l : List α}, (l.filter f).length ≤ 1 → ∀ {i j : Nat} {p q : α}, l[i]? = some p → f p = true → l[j]? = some q → f q = true → i = j
  | [], _, i, j, p, q, hi, _, _, _ => by simp at hi
  | a :: l, h, i, j, p, q, hi, hp, hj, hq => by
    have none_of : f a = true → ∀ (n : Nat) (x : α), l[n]? = some x → f x = true → False := by
      intro ha n x hn hx
      have h1 : x ∈ l.filter f := List.mem_filter.2 ⟨List.mem_of_getElem? hn, hx⟩
      have h2 : 0 < (l.filter f).length := List.length_pos_of_mem h1
      rw [List.filter_cons_of_pos ha, List.length_cons] at h
      omega
    cases i with
    | zero =>
      simp only [List.getElem?_cons_zero, Option.some.injEq] at hi
      subst hi
      cases j with
      | zero => rfl
      | succ j => exact (none_of hp j q hj hq).elim
    | succ i =>
      cases j with
      | zero =>
        simp only [List.getElem?_cons_zero, Option.some.injEq] at hj
        subst hj
        exact (none_of hq i p hi hp).elim
      | succ j =>
        refine congrArg (· + 1) (filter_one (l := l) ?_ hi hp hj hq)
        refine Nat.le_trans ?_ h
        simp only [List.filter_cons]
        split <;> simp
/-- what is turned in place: one parameter at most, whose slot is not written -/
def inB (c : Code) (ps : List Par) : Bool := decide ((ps.filter (·.isIn)).length ≤ 1) && (List.range ps.length).all fun i => match ps[i]? with
  | some p => !p.isIn || !(dsts c).contains i
  | none => true
theorem start_len (ps : List Par) (x : ProdT (ps.map (·.τ))) (n : Nat) : (start ps x n).length = ps.length + (n - ps.length) := by
  have := congrArg List.length (unpack_ty (l := ps.map (·.τ)) x)
  simp only [List.length_map] at this
  simp only [start, List.length_append, List.length_map, List.length_zip, List.length_replicate, this]
  omega
theorem start_av (ps : List Par) (x : ProdT (ps.map (·.τ))) (n t : Nat) : (∃ p s, ps[t]? = some p ∧ (unpack _ x)[t]? = some s ∧ (start ps x n).av t = parAV p s) ∨ (ps.length ≤ t ∧ ((start ps x n).av t = .un ∨ (start ps x n).av t = .no ∧ ps.length + (n - ps.length) ≤ t)) := by
  have hu := congrArg List.length (unpack_ty (l := ps.map (·.τ)) x)
  simp only [List.length_map] at hu
  by_cases ht : t < ps.length
  · left
    refine ⟨ps[t], (unpack _ x)[t]'(by omega), List.getElem?_eq_getElem ht, List.getElem?_eq_getElem (by omega), ?_⟩
    simp only [St.av, St.slot, start, List.getD_eq_getElem?_getD]
    have hz : (ps.zip (unpack _ x))[t]? = some (ps[t], (unpack _ x)[t]'(by omega)) := by
      rw [List.getElem?_eq_getElem (by simp [hu, ht])]
      simp
    rw [List.getElem?_append_left (by simp [hu, ht]), List.getElem?_map, hz]
    rfl
  · right
    refine ⟨by omega, ?_⟩
    simp only [St.av, St.slot, start, List.getD_eq_getElem?_getD]
    rw [List.getElem?_append_right (by simp [hu]; omega)]
    simp only [List.length_map, List.length_zip, hu, Nat.min_self]
    by_cases h2 : t - ps.length < n - ps.length
    · left
      rw [List.getElem?_replicate_of_lt h2]; rfl
    · right
      rw [List.getElem?_eq_none (by simp; omega)]
      exact ⟨rfl, by omega⟩
theorem resAV_app : ∀ (rs : List Res) (ss fs : List Sv), ss.length = rs.length → resAV rs (ss ++ fs) = resAV rs ss
  | [], ss, fs, h => by
    have : ss = [] := List.length_eq_zero_iff.1 h
    subst this
    cases fs <;> rfl
  | r :: rs, ss, fs, h => by
    match ss, h with
    | s :: ss, h => simp only [List.cons_append, resAV]; rw [resAV_app rs ss fs (by simpa using h)]
theorem resAV_len : ∀ (rs : List Res) (ss : List Sv), ss.length = rs.length → (resAV rs ss).length = rs.length
  | [], ss, h => by
    have : ss = [] := List.length_eq_zero_iff.1 h
    subst this
    rfl
  | r :: rs, ss, h => by
    match ss, h with
    | s :: ss, h => simp only [resAV, List.length_cons]; rw [resAV_len rs ss (by simpa using h)]
/-- the results of a function -/
theorem res_ok (he : EOk P E) {fn : Func} {rs : List Res} {ss : List Sv} {σ2 : St} (S : SA T0 ξ0 w0 tk Em ξ w σ tm) (hg : getRes E fn.results.toList rs σ = some (ss, σ2)) :
    ∃ v, ∃ ξ2 : Im, ∃ tk2 : Nat → Bs, ∃ tr : Bs, (results fn tm).run P w = .ok v w ∧ SA T0 ξ0 w0 tk2 (Un Em tr) ξ2 w σ2 tm ∧ SOwn ξ2 w (oneAV (resAV rs ss)) v tr ∧ ss.length = rs.length := by
  obtain ⟨tk2, Tr, ξ2, us, b1, b2, b3, b4, b5, b6, b7, b8, b9⟩ := getRes_ok he fn.results.toList rs σ tk Em ξ S hg
  have hrun := results_run (P := P) (tm := tm) (w := w) (fn := fn) (us := us) (by rw [b4]; simp) fun i v hv => b7 i v (by rw [Array.getElem?_toList]; exact hv)
  refine ⟨_, ξ2, tk2, fun b => ∃ i, Tr i b, hrun, b1, ?_, b5⟩
  have hlr : (resAV rs ss).length = us.length := by rw [resAV_len rs ss b5, b4, b6]
  have own : ∀ i a, (resAV rs ss)[i]? = some a → Own ξ2 w a (us.getD i undef) (Tr i) := by
    intro i a ha
    obtain ⟨r1, s1, e1, e2, rfl⟩ := resAV_get rs ss i a ha
    exact b8 i r1 s1 e1 e2
  match hra : resAV rs ss, us, hlr with
  | [], [], _ => rfl
  | [a], [u], _ =>
    have := own 0 a (by rw [hra]; rfl)
    have h2 : Own ξ2 w a u (fun b => ∃ i, Tr i b) := this.sub fun b hb => ⟨0, hb⟩
    obtain ⟨r1, s1, e1, e2, rfl⟩ := resAV_get rs ss 0 a (by rw [hra]; rfl)
    simp only [oneAV, Res.av] at h2 ⊢
    split <;> rename_i hbx <;> simp only [hbx, if_true, if_false] at h2 <;> exact h2
  | a :: a' :: l, u :: u' :: us', hlr =>
    refine ⟨(u :: u' :: us').toArray, Tr, ?_, by simpa using hlr.symm, fun i b hb => ⟨i, hb⟩, b3, fun i c hc => ?_⟩
    · simp
    · have := own i c (by rw [hra]; exact hc)
      simpa [Array.getD_eq_getD_getElem?, List.getD_eq_getElem?_getD] using this
/-- how a function begins -/
theorem start_ok {ps : List Par} (x : ProdT (ps.map (·.τ))) (n : Nat) {vs : Array Value} {tk : Nat → Bs} (wf : Wf ξ w) (hsz : vs.size = ps.length) (lt : ∀ i b, tk i b → b < w.heap.size) (dj : ∀ i j, i ≠ j → Dj (tk i) (tk j))
    (hargs : ∀ (i : Nat) (p : Par) (s : Sv), ps[i]? = some p → (unpack _ x)[i]? = some s → SOwn ξ w (parAV p s) (vs.getD i undef) (tk i)) :
    ∃ tk0 : Nat → Bs, SA (fun b => ∃ i, tk i b) ξ w tk0 Em ξ w (start ps x n) (vs ++ Array.replicate (n - vs.size) undef) ∧ ∀ t, t < ps.length → (vs ++ Array.replicate (n - vs.size) undef).getD t undef = vs.getD t undef := by
  have hu := congrArg List.length (unpack_ty (l := ps.map (·.τ)) x)
  simp only [List.length_map] at hu
  let tk0 : Nat → Bs := fun t => if t < ps.length then tk t else Em
  have tk0s : ∀ t b, tk0 t b → tk t b := by
    intro t b hb
    simp only [tk0] at hb
    split at hb
    · exact hb
    · exact hb.elim
  let tm0 : Array Value := vs ++ Array.replicate (n - vs.size) undef
  have hval : ∀ t, t < ps.length → tm0.getD t undef = vs.getD t undef := by
    intro t ht
    simp only [tm0, Array.getD_eq_getD_getElem?]
    rw [Array.getElem?_append_left (by omega)]
  have S : SA (fun b => ∃ i, tk i b) ξ w tk0 Em ξ w (start ps x n) tm0 := by
    refine ⟨Fr.refl _ _ _, wf, by rw [start_len]; simp [tm0, hsz], fun t b hb => ⟨.inl ⟨t, tk0s t b hb⟩, lt t b (tk0s t b hb)⟩, fun b hb => hb.elim, fun t u htu b h1 h2 => dj t u htu b (tk0s t b h1) (tk0s u b h2), fun t => Dj.em' _, fun t => ?_, fun t => ?_⟩
    · rcases start_av ps x n t with ⟨p, s, h1, h2, h3⟩ | ⟨h1, h2 | ⟨h2, _⟩⟩
      · have ht : t < ps.length := (List.getElem?_eq_some_iff.1 h1).1
        rw [h3, hval t ht]
        have e : tk0 t = tk t := by simp only [tk0]; rw [if_pos ht]
        rw [e]
        exact hargs t p s h1 h2
      · rw [h2]
        show tm0.getD t undef = undef
        simp only [tm0, Array.getD_eq_getD_getElem?]
        rw [Array.getElem?_append_right (by omega)]
        by_cases h3 : t - vs.size < n - vs.size
        · rw [Array.getElem?_replicate, if_pos h3]; rfl
        · rw [Array.getElem?_eq_none (by rw [Array.size_replicate]; exact Nat.le_of_not_lt h3)]; rfl
      · rw [h2]; trivial
    · rcases start_av ps x n t with ⟨p, s, h1, h2, h3⟩ | ⟨h1, h2 | ⟨h2, _⟩⟩
      · rw [h3]
        cases hm : p.m <;> simp only [parAV, hm] <;> trivial
      · rw [h2]; trivial
      · rw [h2]; trivial
  exact ⟨tk0, S, hval⟩
theorem fn_ok {J : Jd P} (he : EOk P E) (hC : ∀ k, CsOk P J (C k)) (hm : P.follows .mixedOrders = true) {n : FuncId} {fn : Func} {c : Code} (hf : P.funcs[n]? = some fn) (hb : fn.body = some c) {ps : List Par} {rs : List Res} (hp : inB c ps = true)
    (F : ProdT (ps.map (·.τ)) → Option (ProdT (outs ps rs))) (hF : ∀ x r, F x = some r → ∃ k, evFn E C H fn ps rs k x = some r) : Snd P J n ⟨ps, rs, F⟩ := by
  intro x r hr ξ w vs tk wf hG hsz lt dj hargs
  simp only at hsz hargs hr
  obtain ⟨k, hk⟩ := hF x r hr
  simp only [evFn, hb] at hk
  refine calls_of_wp hf hb ?_
  obtain ⟨tk0, S, hval⟩ := start_ok x fn.ntmps wf hsz lt dj hargs
  refine code_ok (H := H) he hG hC hm [] c k _ tk0 ξ w _ _ r _ S hk ?_
  intro e σ' tm' w' ξ' tk' S' kept hl
  have hbody : leave E fn.results.toList ps rs e σ' = some r → bodyPost P fn (fun e w' => ∃ v, ∃ ξ' : Im, ∃ tr tb : Bs, e = .returned v ∧ Fr (fun b => ∃ i, tk i b) ξ w ξ' w' ∧ Wf ξ' w' ∧ SOwn ξ' w' (oneAV (resAV rs (unpack _ r))) v tr ∧
      (∀ (i : Nat) (p : Par), ps[i]? = some p → p.isIn = true → ∃ s, (unpack _ r)[rs.length]? = some s ∧ s.1 = p.τ ∧ SOwn ξ' w' (parAV p s) (vs.getD i undef) tb) ∧
      Dj tr tb ∧ (∀ b, tr b ∨ tb b → ((∃ i, tk i b) ∨ w.heap.size ≤ b) ∧ b < w'.heap.size)) .ret ⟨tm', []⟩ w' := by
    intro hl
    unfold leave at hl
    split at hl
    · cases hl
    · split at hl
      case h_2 => cases hl
      rename_i ss σ2 hg
      split at hl
      case h_2 => cases hl
      rename_i fs hfs
      have hun := unpack_pack hl
      obtain ⟨hfl, hfin⟩ := finals_ok ps 0 σ2 hfs
      simp only [inB, Bool.and_eq_true, decide_eq_true_eq, List.all_eq_true, List.mem_range] at hp
      obtain ⟨hp1, hp2⟩ := hp
      obtain ⟨v, ξ2, tk2, tr, hrun, b1, hown, hss⟩ := res_ok he S' hg
      -- what was turned in place
      have inn : ∀ (i : Nat) (p : Par), ps[i]? = some p → p.isIn = true → ∃ s, (unpack _ r)[rs.length]? = some s ∧ s.1 = p.τ ∧ SOwn ξ2 w' (parAV p s) (vs.getD i undef) (tk2 i) := by
        intro i p hpi hpin
        obtain ⟨k, s, e1, e2⟩ := hfin i p hpi hpin
        have hilt : i < ps.length := (List.getElem?_eq_some_iff.1 hpi).1
        have hk0 : k = 0 := by
          have : k < fs.length := (List.getElem?_eq_some_iff.1 e1).1
          omega
        subst hk0
        have hnot : i ∉ dsts c := by
          have := hp2 i hilt
          rw [hpi] at this
          simpa [hpin] using this
        have hv : tm'.getD i undef = vs.getD i undef := by rw [kept i hnot, hval i hilt]
        have hty : s.1 = p.τ := by
          have hu2 := unpack_ty (l := outs ps rs) r
          rw [hun] at hu2
          have h3 := congrArg (fun l => l[rs.length]?) hu2
          simp only [List.map_append, outs] at h3
          rw [List.getElem?_append_right (by simp [hss]), List.getElem?_append_right (by simp)] at h3
          simp only [List.length_map, hss, Nat.sub_self, List.getElem?_map, e1, Option.map_some] at h3
          have hmem : p ∈ ps.filter (·.isIn) := List.mem_filter.2 ⟨List.mem_of_getElem? hpi, hpin⟩
          rw [one_of hp1 hmem] at h3
          simpa using h3
        have ho := b1.own i
        rw [hv] at ho
        refine ⟨s, ?_, hty, ?_⟩
        · rw [hun, List.getElem?_append_right (by omega), hss, Nat.sub_self]; exact e1
        · rw [Nat.zero_add] at e2
          unfold AvIs at e2
          unfold parAV
          cases hpm : p.m with
          | rd => rw [hpm] at e2; exact e2.elim
          | own f => rw [hpm] at e2; exact e2.elim
          | bx f =>
            rw [hpm] at e2
            obtain ⟨f', e2, hf'⟩ := e2
            rw [e2] at ho
            rcases hf' with rfl | ⟨rfl, hro⟩
            · exact ho
            · obtain ⟨b, c, t, fz, T', h1, h2, h3, h4, h5, h6, h7, h8⟩ := ho
              exact ⟨b, c, t, fz, Em, h1, h2, h3, h4, h5, Sb.em _, fun hb => hb, h8.toRo hro⟩
          | io f =>
            rw [hpm] at e2
            rw [e2] at ho
            exact ho
      have hdec : (∃ (i : Nat) (p : Par), ps[i]? = some p ∧ p.isIn = true) ∨ ∀ (i : Nat) (p : Par), ps[i]? = some p → p.isIn = true → False := by
        rcases Classical.em (∃ (i : Nat) (p : Par), ps[i]? = some p ∧ p.isIn = true) with h | h
        · exact .inl h
        · exact .inr fun i p h1 h2 => h ⟨i, p, h1, h2⟩
      obtain ⟨tb, htb1, htb2, htb3⟩ : ∃ tb : Bs, (∀ (i : Nat) (p : Par), ps[i]? = some p → p.isIn = true → ∃ s, (unpack _ r)[rs.length]? = some s ∧ s.1 = p.τ ∧ SOwn ξ2 w' (parAV p s) (vs.getD i undef) tb) ∧ Dj tr tb ∧ ∀ b, tb b → May (fun b => ∃ i, tk i b) w w' b := by
        rcases hdec with ⟨i0, p0, h1, h2⟩ | h
        · refine ⟨tk2 i0, fun i p hi hb => ?_, Dj.symm ((b1.djf i0).sub (Sb.refl _) (Sb.r _ _)), fun b hb => b1.may i0 b hb⟩
          obtain rfl := filter_one hp1 hi hb h1 h2
          exact inn i p hi hb
        · exact ⟨Em, fun i p hi hb => (h i p hi hb).elim, Dj.em' _, fun b hb => hb.elim⟩
      refine ⟨rfl, _, hrun, _, ξ2, tr, tb, rfl, b1.fr, b1.wf, ?_, htb1, htb2, fun b hb => ?_⟩
      · rw [hun, resAV_app rs ss fs hss]
        exact hown
      · rcases hb with hb | hb
        · have := b1.mayf b (.inr hb)
          exact this
        · exact htb3 b hb
  cases e with
  | nm =>
    obtain ⟨h1, h2⟩ := hbody hl
    exact ⟨h1, h2⟩
  | ex id => simp [leave] at hl
  | rt => exact hbody hl
end
end Go.Proofs.Ytabindnaedchgaa.Rf
