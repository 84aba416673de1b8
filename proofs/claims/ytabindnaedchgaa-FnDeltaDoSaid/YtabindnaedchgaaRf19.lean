/- One operation, a call among them, as the machine does it. Nothing of any program. -/
import Derived.Test.YtabindnaedchgaaRf18
namespace Go.Proofs.Ytabindnaedchgaa.Rf
open Go Go.RowKit
set_option linter.unusedVariables false
set_option linter.unusedSimpArgs false

def CsOk (P : Program) (J : Jd P) (C : CEs) : Prop := ∀ f ce, C.lookup f = some ce → Snd P J f ce ∧ Can P f
section
variable {P : Program} {E : TyOf} {C : CEs} {T0 : Bs} {ξ0 : Im} {w0 : World} {tk : Nat → Bs} {Tf : Bs} {ξ : Im} {w : World} {σ : St} {tm : Array Value}
theorem getD_set_ne {tm : Array Value} {d t : Nat} {v : Value} (h : t ≠ d) : (tm.setIfInBounds d v).getD t undef = tm.getD t undef := by
  simp only [Array.getD_eq_getD_getElem?]
  rw [Array.getElem?_setIfInBounds_ne (Ne.symm h)]
theorem getD_set_eq {tm : Array Value} {d : Nat} {v : Value} (h : d < tm.size) : (tm.setIfInBounds d v).getD d undef = v := by
  simp [Array.getD_eq_getD_getElem?, h]
/-- the result into its slot -/
theorem SA.putO {dst : Option Tmp} {a : AV} {v : Value} {T' : Bs} (h : SA T0 ξ0 w0 tk T' ξ w σ tm) (ho : SOwn ξ w a v T') (hl : Lent ξ w σ tm tk a v) (df : List Deferred) :
    ∃ tk' : Nat → Bs, SA T0 ξ0 w0 tk' Em ξ w (σ.putO dst a) ((⟨tm, df⟩ : Act).put dst v).tmps := by
  cases dst with
  | none => exact ⟨tk, h.drop (Sb.em _)⟩
  | some d =>
    by_cases hd : d < σ.length
    · have hd' : d < tm.size := by rw [h.sz]; exact hd
      refine ⟨_, h.put (tm' := tm.setIfInBounds d v) (T' := T') (Tf' := Em) (by simp) (fun t ht => getD_set_ne ht) (by rw [getD_set_eq hd']; exact ho) (by rw [getD_set_eq hd']; exact hl) (Sb.l _ _) (Sb.em _) (Dj.em' _) hd⟩
    · have e1 : σ.putO (some d) a = σ := St.put_big hd
      have e2 : ((⟨tm, df⟩ : Act).put (some d) v).tmps = tm := by
        simp only [Act.put]
        have hle : tm.size ≤ d := by rw [h.sz]; exact Nat.le_of_not_lt hd
        exact Array.setIfInBounds_eq_of_size_le hle
      rw [e1, e2]
      exact ⟨tk, h.drop (Sb.em _)⟩
/-- only one slot is written -/
def Kept (d : Option Tmp) (tm tm' : Array Value) : Prop := ∀ t, d ≠ some t → tm'.getD t undef = tm.getD t undef
theorem put_kept (tm : Array Value) (df : List Deferred) (d : Option Tmp) (v : Value) : Kept d tm ((⟨tm, df⟩ : Act).put d v).tmps := by
  intro t ht
  cases d with
  | none => rfl
  | some d => exact getD_set_ne fun e => ht (by rw [e])
/-- what is to be shown of an operation: it ends well, in the state σ' -/
def Goes (P : Program) (T0 : Bs) (ξ0 : Im) (w0 : World) (σ' : St) (tm : Array Value) (o : Oper) (w : World) : Prop :=
  ∀ (df : List Deferred) (K : Act → World → Prop) (Q : Exit → Act → World → Prop), (∀ tm' w' ξ' tk', SA T0 ξ0 w0 tk' Em ξ' w' σ' tm' → Kept o.dst tm tm' → K ⟨tm', df⟩ w') → o.wp P ⟨tm, df⟩ w K Q
theorem put_df (tm : Array Value) (df : List Deferred) (dst : Option Tmp) (v : Value) : (⟨tm, df⟩ : Act).put dst v = ⟨((⟨tm, df⟩ : Act).put dst v).tmps, df⟩ := by cases dst <;> rfl
theorem Gd.goes {o : Oper} {a : AV} {σ' : St} (h : Gd P T0 ξ0 w0 σ' tm (execOp (ev tm) o) a w) : Goes P T0 ξ0 w0 (σ'.putO o.dst a) tm o w := by
  intro df K Q hK
  obtain ⟨v, w', ξ', tk', T', hr, hs, ho, hl⟩ := h
  obtain ⟨tk2, h2⟩ := hs.putO (dst := o.dst) ho hl df
  unfold Oper.wp
  rw [ev_eq]
  rcases hr with hr | ⟨hr, rfl⟩
  · rw [show ev (⟨tm, df⟩ : Act).tmps = ev tm from rfl, hr, Oper.upon_value, put_df]
    exact hK _ _ _ _ h2 (put_kept _ _ _ _)
  · rw [show ev (⟨tm, df⟩ : Act).tmps = ev tm from rfl, hr, Oper.upon_skip, put_df]
    exact hK _ _ _ _ h2 (put_kept _ _ _ _)
theorem exec_call {o : Oper} {f : FuncId} {as : Array Operand} {ts : Array TypeId} (hop : o.op = .call ⟨.value (.func f), as, ts⟩) (hc : Can P f) : (execOp (ev tm) o).run P w = .ok (.enter f (as.map (ev tm))) w := by
  obtain ⟨fn, h1, h2, h3⟩ := hc
  have h4 : fn.body.isNone = false := by cases hb : fn.body <;> simp [hb] at h3 ⊢
  simp only [execOp, hop, resolve, ev, Deferred.ofValue, Sem.run_bind, Sem.run_pure, Result.andThen, invoke, callFunc, run_program]
  simp [h1, h2, h4]
theorem like_box {s s0 : Sv} {f f' : Fl} {r r' : Option Tmp} (h : s.1 = s0.1) : Like (.box s0.1 s0.2 f r) (.box s.1 s.2 f' r') := by
  obtain ⟨τ, x⟩ := s
  obtain ⟨τ0, x0⟩ := s0
  simp only at h
  subst h
  exact ⟨x, f', r', rfl⟩
/-- the tokens of argument i -/
def tokA (ps : List Par) (b : Option Bk) (tk Ta : Nat → Bs) (i b' : Nat) : Prop := match ps[i]? with
  | some p => if p.isBx = true then (match b with | some k => tk k.h b' | none => False) else Ta i b'
  | none => False
theorem call_ok {o : Oper} {ce : CE} {x : ProdT (ce.ps.map (·.τ))} {k : ProdT (outs ce.ps ce.rs) → St} {r : ProdT (outs ce.ps ce.rs)} {J : Jd P} (hG : GOk P J T0 w0) (hC : CsOk P J C) (h : SA T0 ξ0 w0 tk Em ξ w σ tm) (hc : callOf E C o σ = some ⟨ce, x, k⟩) (hF : ce.F x = some r) :
    Goes P T0 ξ0 w0 (k r) tm o w := by
  unfold callOf at hc
  split at hc
  case h_2 => cases hc
  rename_i f as ts hop
  split at hc
  case h_2 => cases hc
  rename_i ce' hlk
  obtain ⟨hsnd, hcan⟩ := hC f ce' hlk
  split at hc
  case h_2 => cases hc
  rename_i l b σ1 hg
  split at hc
  case h_2 => cases hc
  rename_i ss lent hf
  split at hc
  · cases hc
  rename_i hlent
  split at hc
  case h_2 => cases hc
  rename_i x' hp
  simp only [Option.some.injEq, Sigma.mk.injEq] at hc
  obtain ⟨rfl, hc⟩ := hc
  have hc := eq_of_heq hc
  simp only [Prod.mk.injEq] at hc
  obtain ⟨rfl, rfl⟩ := hc
  obtain ⟨tk1, Ta, k1, k2, k3, k4, k5, k6, k7⟩ := give_ok ce'.ps ts.toList as.toList σ tk Em h hg
  have k1 := k1.drop (un_em' (fun b => ∃ i, Ta i b))
  have hbl : ∀ h1, b.bind Bk.box = some h1 → h1 < σ1.length := by
    intro h1 hb
    obtain ⟨bk, e1, e2⟩ := Option.bind_eq_some_iff.1 hb
    obtain ⟨i, p, s, o', _, _, _, z⟩ := k6 bk e1
    unfold BkOk at z
    unfold Bk.box at e2
    split at e2
    · rename_i hp0
      rw [hp0] at z
      obtain ⟨_, hr', _⟩ := z
      obtain rfl := Option.some.inj e2
      exact av_lt (by rw [hr']; simp)
    · cases e2
  obtain ⟨f1, f2⟩ := fillR_ok (E := E) l ts.toList as.toList hf
  have hun := unpack_pack hp
  -- what is lent is not turned while the call lasts
  let L : Bs := fun b' => lent = true ∧ ∃ t, (∀ h1, b.bind Bk.box = some h1 → t ≠ h1) ∧ tk1 t b'
  have hL1 : ∀ b', L b' → b' < w.heap.size := fun b' ⟨_, t, _, ht⟩ => (k1.may t b' ht).2
  let ξ1 := frz ξ w L
  have wf1 : Wf ξ1 w := fun b' hb' => by
    rw [show ξ1 b' = ξ b' from frz_not fun hx => by have := hL1 b' hx; omega]
    exact k1.wf b' hb'
  -- the tokens of the arguments
  let ta : Nat → Bs := tokA ce'.ps b tk1 Ta
  have bxp : ∀ (i : Nat) (p : Par), ce'.ps[i]? = some p → p.isBx = true → ∃ bk : Bk, b = some bk ∧ bk.p = none := by
    intro i p hpi hpb
    have hlt : i < ce'.ps.length := (List.getElem?_eq_some_iff.1 hpi).1
    have := k7 i p _ _ hpi (List.getElem?_eq_getElem (by omega)) (List.getElem?_eq_getElem (by omega))
    cases hpm : p.m with
    | bx f => rw [hpm] at this; obtain ⟨s, bk, _, _, z1, z2, _⟩ := this; exact ⟨bk, z1, z2⟩
    | _ => simp [Par.isBx, hpm] at hpb
  have hta : ∀ i b', ta i b' → (∃ j, Ta j b') ∨ (∃ bk, b = some bk ∧ bk.p = none ∧ tk1 bk.h b') := by
    intro i b' hb'
    change tokA ce'.ps b tk1 Ta i b' at hb'
    unfold tokA at hb'
    split at hb'
    · rename_i p hpi
      split at hb'
      · rename_i hpb
        obtain ⟨bk, z1, z2⟩ := bxp i p hpi hpb
        rw [z1] at hb'
        exact .inr ⟨bk, z1, z2, hb'⟩
      · exact .inl ⟨i, hb'⟩
    · exact hb'.elim
  have htaL : ∀ i, Dj (ta i) L := by
    intro i b' hb' ⟨_, t, ht1, ht2⟩
    rcases hta i b' hb' with hx | ⟨bk, rfl, hp0, hx⟩
    · exact k1.djf t b' ht2 hx
    · exact k1.dj t bk.h (ht1 bk.h (by simp [Bk.box, hp0])) b' ht2 hx
  have hsz : as.toList.length = ce'.ps.length := k4
  have argof : ∀ (i : Nat) (p : Par), ce'.ps[i]? = some p → ∃ (o' : Operand) (e' : Option Sv), as.toList[i]? = some o' ∧ l[i]? = some e' := by
    intro i p hpi
    have hlt : i < ce'.ps.length := (List.getElem?_eq_some_iff.1 hpi).1
    exact ⟨_, _, List.getElem?_eq_getElem (by omega), List.getElem?_eq_getElem (by omega)⟩
  have hargv : ∀ (i : Nat) (o' : Operand), as.toList[i]? = some o' → (as.map (ev tm)).getD i undef = ev tm o' := by
    intro i o' ho'
    have : as[i]? = some o' := by rw [← Array.getElem?_toList]; exact ho'
    simp [Array.getD_eq_getD_getElem?, this]
  have hdjta : ∀ i j, i ≠ j → Dj (ta i) (ta j) := by
    intro i j hij b' hb1 hb2
    change tokA ce'.ps b tk1 Ta i b' at hb1
    change tokA ce'.ps b tk1 Ta j b' at hb2
    unfold tokA at hb1 hb2
    split at hb1
    case h_2 => exact hb1.elim
    rename_i p hpi
    split at hb2
    case h_2 => exact hb2.elim
    rename_i q hqj
    split at hb1
    · rename_i hpb
      split at hb1
      case h_2 => exact hb1.elim
      rename_i bk
      split at hb2
      · rename_i hqb
        obtain ⟨o', e', ho', he'⟩ := argof i p hpi
        have := k7 i p o' e' hpi ho' he'
        cases hpm : p.m with
        | bx f =>
          rw [hpm] at this
          obtain ⟨_, _, _, _, _, _, _, _, _, z⟩ := this
          exact hij (z j q hqj (by cases hqm : q.m <;> simp [Par.isBx, hqm] at hqb; simp [Par.isIn, hqm])).symm
        | _ => simp [Par.isBx, hpm] at hpb
      · exact k1.djf bk.h b' hb1 ⟨j, hb2⟩
    · split at hb2
      · split at hb2
        case h_2 => exact hb2.elim
        rename_i bk
        exact k1.djf bk.h b' hb2 ⟨i, hb1⟩
      · exact k3 i j hij b' hb1 hb2
  have hargs : ∀ (i : Nat) (p : Par) (s : Sv), ce'.ps[i]? = some p → (unpack _ x')[i]? = some s → SOwn ξ1 w (parAV p s) ((as.map (ev tm)).getD i undef) (ta i) := by
    intro i p s hpi hsi
    obtain ⟨o', e', ho', he'⟩ := argof i p hpi
    rw [hargv i o' ho']
    rw [hun] at hsi
    obtain ⟨s', z1, z2⟩ := f2 i e' o' he' ho'
    rw [hsi] at z1
    obtain rfl := Option.some.inj z1
    have hk := k7 i p o' e' hpi ho' he'
    have hkeep : Keep (ta i) ξ w ξ1 w := frz_keep ξ w L (ta i) (Dj.symm (htaL i))
    cases hpm : p.m with
    | rd =>
      rw [hpm] at hk
      obtain ⟨rfl, _⟩ := hk
      obtain ⟨⟨t, hrd⟩, hst⟩ := z2
      have hgoal : ∃ cs, ev tm o' = mkV s.1 cs ∧ Rel ξ1 w s.1 .ro s.2 cs Em := by
        cases hle : lent with
        | false =>
          obtain ⟨cs, c1, c2⟩ := stays_ok k1 hbl hrd (hst hle)
          exact ⟨cs, c1, c2.keep ⟨fun _ hx => hx.elim, fun _ _ _ _ h => h, frz_ge ξ w L⟩⟩
        | true =>
          obtain ⟨cs, fl, T', t', c0, c1, c2, c3, c4⟩ := rdT_turn k1 hbl hrd
          exact ⟨cs, c1, c4.freeze (frz_ge ξ w L) c3 fun b' c ty fz hb' hcells => frz_cells (show L b' from ⟨hle, t', c0, c2 b' hb'⟩) hcells⟩
      obtain ⟨cs, c1, c2⟩ := hgoal
      simp only [parAV, hpm]
      exact ⟨cs, c1, c2.sub (Sb.em _)⟩
    | own fl =>
      rw [hpm] at hk
      obtain ⟨s0, rfl, c1⟩ := hk
      subst z2
      have e1 : ta i = Ta i := by funext b'; simp only [ta, tokA, hpi, Par.isBx, hpm]; simp
      simp only [parAV, hpm]
      rw [e1] at hkeep ⊢
      exact c1.keep hkeep
    | bx fl =>
      rw [hpm] at hk
      obtain ⟨s0, bk, rfl, _, rfl, _, _, c1, c2, _⟩ := hk
      subst z2
      have e1 : ta i = tk1 bk.h := by funext b'; simp only [ta, tokA, hpi, Par.isBx, hpm]; simp
      simp only [parAV, hpm]
      rw [e1] at hkeep ⊢
      rw [c2]
      have := k1.own bk.h
      rw [c1] at this
      exact Own.keep (a := .box s.1 s.2 fl none) this hkeep
    | io fl =>
      rw [hpm] at hk
      obtain ⟨s0, bk, rfl, c1, _⟩ := hk
      subst z2
      have e1 : ta i = Ta i := by funext b'; simp only [ta, tokA, hpi, Par.isBx, hpm]; simp
      simp only [parAV, hpm]
      rw [e1] at hkeep ⊢
      exact c1.keep hkeep
  have hmay : ∀ b', (∃ i, ta i b') → May T0 w0 w b' := fun b' ⟨i, hb'⟩ => (hta i b' hb').elim (fun hx => k1.mayf b' hx) (fun ⟨bk, _, _, hx⟩ => k1.may bk.h b' hx)
  have hG1 : GOk P J (fun b' => ∃ i, ta i b') w := hG.step h.fr fun b' hb' => (hmay b' hb').1
  have hcalls := hsnd x' r hF ξ1 w (as.map (ev tm)) ta wf1 hG1 (by simp; rw [← k4]; simp) (fun i b' hb' => (hmay b' ⟨i, hb'⟩).2) hdjta hargs
  intro df K Q hK
  unfold Oper.wp
  rw [ev_eq, show ev (⟨tm, df⟩ : Act).tmps = ev tm from rfl, exec_call hop hcan, Oper.upon_enter]
  refine hcalls.mono ?_
  rintro e w' ⟨v, ξ', tr, tb, rfl, F, wf', ho, hfin, hdj, htok⟩
  simp only
  rw [put_df]
  -- the ghost as it was for what was lent
  let ξ2 : Im := open Classical in fun b' => if L b' then ξ b' else ξ' b'
  have e2L : ∀ b', L b' → ξ2 b' = ξ b' := fun b' hb' => by simp only [ξ2]; rw [if_pos hb']
  have e2N : ∀ b', ¬ L b' → ξ2 b' = ξ' b' := fun b' hb' => by simp only [ξ2]; rw [if_neg hb']
  have U0 : ∀ b', (∃ i, ta i b') → ¬ L b' := fun b' ⟨i, hi⟩ hx => htaL i b' hi hx
  have F2 : Fr (fun b' => ∃ i, ta i b') ξ w ξ2 w' := by
    refine ⟨F.os, F.tape, F.output, F.size, fun b' hb' hn => ⟨(F.blk b' hb' hn).1, ?_⟩, fun b' i u hi hu => F.imm b' i u (Nat.lt_of_lt_of_le hi (frz_ge ξ w L b')) hu, fun b' hb' => ?_⟩
    · by_cases hx : L b'
      · exact e2L b' hx
      · rw [e2N b' hx, (F.blk b' hb' hn).2]; exact frz_not hx
    · by_cases hx : L b'
      · rw [e2L b' hx]; exact Nat.le_refl _
      · rw [e2N b' hx]
        have := F.up b' hb'
        rwa [show ξ1 b' = ξ b' from frz_not hx] at this
  have wf2 : Wf ξ2 w' := by
    intro b' hb'
    have hx : ¬ L b' := fun hx => by have := hL1 b' hx; have := F.size; omega
    rw [e2N b' hx]; exact wf' b' hb'
  have tokN : ∀ b', tr b' ∨ tb b' → ¬ L b' := by
    intro b' hb' hx
    rcases (htok b' hb').1 with h3 | h3
    · exact U0 b' h3 hx
    · have := hL1 b' hx; omega
  have hnoro : (lent = false ∧ ∀ b', ¬ L b') ∨ ce'.noro = true := by
    cases hle : lent with
    | false => exact .inl ⟨rfl, fun b' ⟨hx, _⟩ => by rw [hle] at hx; cases hx⟩
    | true => rw [hle] at hlent; exact .inr (by simpa using hlent)
  have hty : ∀ (i : Nat) (r' : Res) (s : Sv), ce'.rs[i]? = some r' → (unpack _ r)[i]? = some s → s.1 = r'.τ := by
    intro i r' s h1 h2
    have hu := unpack_ty (l := outs ce'.ps ce'.rs) r
    have h3 : ((unpack _ r).map (·.1))[i]? = some s.1 := by rw [List.getElem?_map, h2]; rfl
    rw [hu] at h3
    have hlt : i < ce'.rs.length := (List.getElem?_eq_some_iff.1 h1).1
    simp only [outs] at h3
    rw [List.getElem?_append_left (by simpa using hlt), List.getElem?_map, h1] at h3
    simpa using h3.symm
  have ho2 : SOwn ξ2 w' (oneAV (resAV ce'.rs (unpack _ r))) v tr := by
    rcases hnoro with ⟨_, hn⟩ | hn
    · have : ξ2 = ξ' := funext fun b' => e2N b' (hn b')
      rw [this]; exact ho
    · have hn1 : ce'.rs.all (fun r => r.f.noro r.τ) = true := by
        simp only [CE.noro, Bool.and_eq_true] at hn; exact hn.1
      exact oneAV_low ho (res_noro hty hn1) fun b' hb' => e2N b' (tokN b' (.inl hb'))
  have lnt : ∀ (σ3 : St) (tk3 : Nat → Bs) (w3 : World) (ξ3 : Im), Lent ξ3 w3 σ3 tm tk3 (oneAV (resAV ce'.rs (unpack _ r))) v := by
    intro σ3 tk3 w3 ξ3
    have : ∀ (rs : List Res) (ss : List Sv), ∀ a ∈ resAV rs ss, (∃ τ x f, a = .d τ x f) ∨ ∃ τ x f r, a = .box τ x f r := by
      intro rs
      induction rs with
      | nil => intro ss a ha; cases ss <;> simp [resAV] at ha
      | cons r rs ih =>
        intro ss a ha
        cases ss with
        | nil => simp [resAV] at ha
        | cons s ss =>
          simp only [resAV, List.mem_cons] at ha
          rcases ha with rfl | ha
          · split
            · exact .inr ⟨_, _, _, _, rfl⟩
            · exact .inl ⟨_, _, _, rfl⟩
          · exact ih ss a ha
    have h1 := this ce'.rs (unpack _ r)
    match hl : resAV ce'.rs (unpack _ r), h1 with
    | [], _ => exact trivial
    | [a], h1 =>
      rcases h1 a (by simp) with ⟨τ, x, f, rfl⟩ | ⟨τ, x, f, r, rfl⟩ <;> trivial
    | a :: b :: l, _ => exact trivial
  have hU : ∀ (bk : Bk), b = some bk → Sb (fun b' => ∃ i, ta i b') (Un (fun b' => ∃ i, Ta i b') (tk1 bk.h)) := by
    intro bk hb b' ⟨j, hj⟩
    rcases hta j b' hj with hx | ⟨bk2, hx, _, hx2⟩
    · exact .inl hx
    · rw [hb] at hx; cases hx; exact .inr hx2
  have hUn : (∀ bk, b = some bk → bk.p ≠ none) → Sb (fun b' => ∃ i, ta i b') (fun b' => ∃ i, Ta i b') := by
    intro hb b' ⟨i, hi⟩
    rcases hta i b' hi with hx | ⟨bk, hx, hx2, _⟩
    · exact hx
    · exact absurd hx2 (hb bk hx)
  cases hb : b with
  | none =>
    have hU := hUn (fun bk hx => by rw [hb] at hx; cases hx)
    have S := k1.step F2 hU wf2 (Tf' := tr) (fun b' hb' => ⟨(htok b' (.inl hb')).1.imp (hU b') id, (htok b' (.inl hb')).2⟩)
    obtain ⟨tk2, S2⟩ := S.putO (dst := o.dst) ho2 (lnt _ _ _ _) df
    simp only [hb] at hK
    exact hK _ _ _ _ S2 (put_kept _ _ _ _)
  | some bk =>
    obtain ⟨i, p, s0, o', q1, ho', q3, q4⟩ := k6 bk hb
    have hin : p.isIn = true := by
      unfold BkOk at q4
      split at q4 <;> simp [Par.isIn, q4.1]
    obtain ⟨s, z1, z2, z3⟩ := hfin i p q1 hin
    rw [hargv i o' ho'] at z3
    have hs0 : s0.1 = p.τ := by
      have hlt : i < l.length := (List.getElem?_eq_some_iff.1 q3).1
      obtain ⟨s', y1, y2⟩ := f2 i (some s0) o' q3 ho'
      have hu := unpack_ty (l := ce'.ps.map (·.τ)) x'
      rw [hun] at hu
      have h3 : (ss.map (·.1))[i]? = some s0.1 := by rw [List.getElem?_map, y1]; simp only [Option.map_some]; rw [y2]
      rw [hu, List.getElem?_map, q1] at h3
      simpa using h3.symm
    have nr : ce'.noro = true → ∀ (f : Fl), p.m = .bx f ∨ p.m = .io f → f.noro s.1 = true := by
      intro hn f hf
      simp only [CE.noro, Bool.and_eq_true] at hn
      have := List.all_eq_true.1 hn.2 p (List.mem_of_getElem? q1)
      rw [z2]
      rcases hf with hf | hf <;> simpa [Par.noro, hf] using this
    unfold BkOk at q4
    split at q4
    · rename_i hp0
      obtain ⟨q2, q4, q5⟩ := q4
      simp only [parAV, q2] at z3
      rw [q5] at z3
      have z3' : SOwn ξ2 w' (.box s.1 s.2 bk.f none) (tm.getD bk.h undef) tb := by
        rcases hnoro with ⟨_, hn⟩ | hn
        · have : ξ2 = ξ' := funext fun b' => e2N b' (hn b')
          rw [this]; exact z3
        · exact Own.low (a := .box s.1 s.2 bk.f none) z3 (.inr ⟨s.1, s.2, bk.f, none, rfl, nr hn _ (.inl q2)⟩) fun b' hb' => e2N b' (tokN b' (.inr hb'))
      have S := k1.turn (d := bk.h) (a := .box s.1 s.2 bk.f none) F2 (hU bk hb) wf2 (by rw [q4]; exact like_box (z2.trans hs0.symm)) z3' (fun _ => trivial) (T' := tb) (Tf' := tr)
        (fun b' hb' => ⟨(htok b' (.inr hb')).1.imp (hU bk hb b') id, (htok b' (.inr hb')).2⟩) (fun b' hb' => ⟨(htok b' (.inl hb')).1.imp (hU bk hb b') id, (htok b' (.inl hb')).2⟩) (Dj.symm hdj) (av_lt (by rw [q4]; simp))
      obtain ⟨tk2, S2⟩ := S.putO (dst := o.dst) ho2 (lnt _ _ _ _) df
      simp only [hb, z1, backS, hp0] at hK
      exact hK _ _ _ _ S2 (put_kept _ _ _ _)
    · rename_i q hp0
      obtain ⟨q2, cs, q4, q5⟩ := q4
      simp only [parAV, q2] at z3
      rw [q5] at z3
      have z3' : SOwn ξ2 w' (.d s.1 s.2 bk.f) (mkV s0.1 cs) tb := by
        rcases hnoro with ⟨_, hn⟩ | hn
        · have : ξ2 = ξ' := funext fun b' => e2N b' (hn b')
          rw [this]; exact z3
        · exact Own.low (a := .d s.1 s.2 bk.f) z3 (.inl ⟨s.1, s.2, bk.f, rfl, nr hn _ (.inr q2)⟩) fun b' hb' => e2N b' (tokN b' (.inr hb'))
      have hU := hUn (fun bk2 hx => by rw [hb] at hx; cases hx; rw [hp0]; simp)
      have S := k1.step F2 hU wf2 (Tf' := Un tr tb) (fun b' hb' => ⟨(htok b' hb').1.imp (hU b') id, (htok b' hb').2⟩)
      have hkp : Keep (tk1 bk.h) ξ w ξ2 w' := F2.keep k1.wf (fun b' hb' => (k1.may bk.h b' hb').2) ((k1.djf bk.h).sub (Sb.refl _) hU)
      have q4' := q4.keep (k1.own bk.h) hkp
      obtain ⟨τ, x0⟩ := s
      obtain ⟨τ0, y0⟩ := s0
      obtain rfl : τ = τ0 := z2.trans hs0.symm
      obtain ⟨tk3, S3⟩ := back_ok (s := ⟨τ, x0⟩) (x0 := y0) hp0 S (Dj.symm hdj) q4' z3'
      obtain ⟨tk2, S2⟩ := S3.putO (dst := o.dst) ho2 (lnt _ _ _ _) df
      simp only [hb, z1] at hK
      exact hK _ _ _ _ S2 (put_kept _ _ _ _)
end
end Go.Proofs.Ytabindnaedchgaa.Rf
