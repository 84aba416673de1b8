/- Regions, and what is kept at a loop's head. Nothing of any program. -/
import Derived.Test.YtabindnaedchgaaRf19
namespace Go.Proofs.Ytabindnaedchgaa.Rf
open Go Go.RowKit
set_option linter.unusedVariables false
set_option linter.unusedSimpArgs false

section
variable {ρ : Type} {P : Program} {E : TyOf} {C : CEs} {T0 : Bs} {ξ0 : Im} {w0 : World} {tk : Nat → Bs} {Tf : Bs} {ξ : Im} {w : World} {σ : St} {tm : Array Value}
theorem ifb_eq {α : Type} (b : Bool) (x y : Option α) : ifb b x y = if b = true then x else y := by unfold ifb; rfl
theorem know_self (σ : St) (g : Nat) {a : AV} (h : σ.av g = a) : σ.know g a = σ := by
  subst h
  unfold St.know
  by_cases hg : g < σ.length
  · have : σ[g]? = some (σ.slot g) := by simp [St.slot, List.getD_eq_getElem?_getD, hg]
    apply List.ext_getElem?
    intro i
    by_cases hi : g = i
    · subst hi
      rw [List.getElem?_set_self hg, this]
      rfl
    · rw [List.getElem?_set_ne hi]
  · exact List.set_eq_of_length_le (by omega)
theorem normGo_get (σ : St) (L : List (Tmp × Fl)) : ∀ (t : Nat) (l : List Slot) (i : Nat), (normGo σ L t l)[i]? = (l[i]?).map fun s => ⟨0, 0, norm1 σ L (t + i) s⟩
  | t, [], i => by simp [normGo]
  | t, s :: l, 0 => by simp [normGo]
  | t, s :: l, i + 1 => by
    simp only [normGo, List.getElem?_cons_succ, normGo_get σ L (t + 1) l i]
    rw [show t + 1 + i = t + (i + 1) by omega]
theorem norm_slot (σ : St) (L : List (Tmp × Fl)) (t : Nat) : (norm (some L) σ).slot t = if t < σ.length then ⟨0, 0, norm1 σ L t (σ.slot t)⟩ else ⟨0, 0, .no⟩ := by
  simp only [norm, St.slot, List.getD_eq_getElem?_getD, normGo_get, Nat.zero_add]
  by_cases h : t < σ.length
  · simp [h]
  · simp [h]
theorem norm_len (σ : St) (L : List (Tmp × Fl)) : (norm (some L) σ).length = σ.length := by
  have : ∀ (l : List Slot) (t : Nat), (normGo σ L t l).length = l.length := by
    intro l
    induction l with
    | nil => intro t; rfl
    | cons s l ih => intro t; simp [normGo, ih]
  exact this σ 0
/-- a slot is frozen at the head -/
def frzAt (σ : St) (L : List (Tmp × Fl)) (t : Nat) : Prop := ∃ τ x f', σ.av t = .d τ x f' ∧ L.lookup t = some .ro ∧ f' ≠ .ro ∧ f'.ok τ = true
theorem nAV_own {ξ' : Im} {t : Nat} {f : Option Fl} {T' : Bs} {v : Value} (h : SOwn ξ w (σ.av t) v (tk t)) (up : ∀ b, ξ b ≤ ξ' b) (same : (¬ ∃ τ x f', σ.av t = .d τ x f' ∧ f = some .ro ∧ f' ≠ .ro ∧ f'.ok τ = true) → T' = tk t ∧ ∀ b, tk t b → ξ' b = ξ b)
    (cov : (∃ τ x f', σ.av t = .d τ x f' ∧ f = some .ro ∧ f' ≠ .ro ∧ f'.ok τ = true) → ∀ b c ty fz, tk t b → w.heap[b]? = some (.cells c ty fz) → c.size ≤ ξ' b) : SOwn ξ' w (nAV f (σ.av t)) v T' := by
  cases ha : σ.av t with
  | d τ x f' =>
    rw [ha] at h same cov
    simp only [nAV]
    cases f with
    | none => trivial
    | some f =>
      simp only
      split
      · rename_i e
        subst e
        obtain ⟨e1, e2⟩ := same (by rintro ⟨τ1, x1, f1, e1, e2, e3, _⟩; cases e1; cases e2; exact e3 rfl)
        rw [e1]
        exact Own.keep (a := .d τ x f') h ⟨fun b hb => ⟨rfl, e2 b hb⟩, fun _ _ _ _ h => h, up⟩
      · rename_i hne
        split
        · rename_i hok
          simp only [Bool.and_eq_true, decide_eq_true_eq] at hok
          obtain ⟨rfl, hok⟩ := hok
          obtain ⟨cs, h1, h2⟩ := h
          exact ⟨cs, h1, (h2.freeze up hok (cov ⟨τ, x, f', rfl, rfl, hne, hok⟩)).sub (Sb.em _)⟩
        · trivial
  | box τ x f' r =>
    rw [ha] at h same
    simp only [nAV]
    cases f with
    | none => trivial
    | some f =>
      simp only
      split
      · rename_i e
        subst e
        obtain ⟨e1, e2⟩ := same (by rintro ⟨τ1, x1, f1, e1, _⟩; cases e1)
        rw [e1]
        exact Own.keep (a := .box τ x f' r) h ⟨fun b hb => ⟨rfl, e2 b hb⟩, fun _ _ _ _ h => h, up⟩
      · trivial
  | _ => trivial
theorem norm_ok (L : Option (List (Tmp × Fl))) (h : SA T0 ξ0 w0 tk Em ξ w σ tm) : ∃ tk' : Nat → Bs, ∃ ξ' : Im, SA T0 ξ0 w0 tk' Em ξ' w (norm L σ) tm := by
  cases L with
  | none => exact ⟨tk, ξ, h⟩
  | some L =>
    let Fz : Bs := fun b => ∃ t, frzAt σ L t ∧ tk t b
    let ξ' := frz ξ w Fz
    let tk' : Nat → Bs := fun t b => tk t b ∧ ¬ frzAt σ L t
    have up : ∀ b, ξ b ≤ ξ' b := frz_ge ξ w Fz
    have keepN : ∀ t, ¬ frzAt σ L t → ∀ b, tk t b → ξ' b = ξ b := by
      intro t hn b hb
      refine frz_not ?_
      rintro ⟨u, hu1, hu2⟩
      by_cases e : t = u
      · subst e; exact hn hu1
      · exact h.dj t u e b hb hu2
    have tkN : ∀ t, ¬ frzAt σ L t → tk' t = tk t := fun t hn => funext fun b => propext ⟨fun x => x.1, fun x => ⟨x, hn⟩⟩
    have cov : ∀ t, frzAt σ L t → ∀ b c ty fz, tk t b → w.heap[b]? = some (.cells c ty fz) → c.size ≤ ξ' b := fun t hf b c ty fz hb hc => frz_cells (show Fz b from ⟨t, hf, hb⟩) hc
    -- a part that was lent is still to be read
    have relK : ∀ (h0 : Nat) {τ : Ty} {f : Fl} {x : τ.T} {cs : List Value} {T' : Bs}, Rel ξ w τ f x cs T' → f.ok τ = true → Sb T' (tk h0) → ∃ f2 : Fl, ∃ T2 : Bs, Sb T2 (tk' h0) ∧ f2.ok τ = true ∧ Rel ξ' w τ f2 x cs T2 := by
      intro h0 τ f x cs T' hr hok hs
      by_cases hf : frzAt σ L h0
      · exact ⟨.ro, Em, Sb.em _, ok_ro _, hr.freeze up hok fun b c ty fz hb hc => cov h0 hf b c ty fz (hs b hb) hc⟩
      · exact ⟨f, T', by rw [tkN h0 hf]; exact hs, hok, hr.keep ⟨fun b hb => ⟨rfl, keepN h0 hf b (hs b hb)⟩, fun _ _ _ _ h => h, up⟩⟩
    have nslot : ∀ t, (norm (some L) σ).av t = if t < σ.length then norm1 σ L t (σ.slot t) else .no := by
      intro t
      simp only [St.av, norm_slot]
      split <;> rfl
    have gz : ∀ t, ((norm (some L) σ).slot t).g = 0 ∧ ((norm (some L) σ).slot t).v = 0 := by
      intro t
      rw [norm_slot]
      split <;> exact ⟨rfl, rfl⟩
    have past : ∀ t, Past (norm (some L) σ) t 0 0 := fun t => ⟨Nat.zero_le _, fun _ => Nat.zero_le _⟩
    -- what stands in a slot that is kept
    have held : ∀ h0, (nAV (L.lookup h0) (σ.av h0)).live = true → (norm (some L) σ).av h0 = nAV (L.lookup h0) (σ.av h0) := by
      intro h0 hl
      have hne : σ.av h0 ≠ .no := by intro e; rw [e] at hl; simp [nAV, AV.live] at hl
      rw [nslot, if_pos (av_lt hne)]
      unfold norm1
      cases hL : L.lookup h0 with
      | none =>
        rw [hL] at hl
        cases ha : σ.av h0 <;> rw [ha] at hl <;> simp [nAV, AV.live] at hl
      | some f =>
        rw [hL] at hl
        have ea : (σ.slot h0).a = σ.av h0 := rfl
        simp only [ea]
        cases ha : σ.av h0 <;> rw [ha] at hl <;> first | rfl | (simp [nAV, AV.live] at hl; done)
    have partK : ∀ h0 q {τ : Ty} {x : τ.T} {cs : List Value}, Part w (σ.av h0) (tm.getD h0 undef) q τ x cs → (nAV (L.lookup h0) (σ.av h0)).live = true → Part w ((norm (some L) σ).av h0) (tm.getD h0 undef) q τ x cs := by
      intro h0 q τ x cs hp hl
      rw [held h0 hl]
      cases ha : σ.av h0 with
      | d τ1 x1 f1 =>
        rw [ha] at hp hl
        cases hL : L.lookup h0 with
        | none => rw [hL] at hl; simp [nAV, AV.live] at hl
        | some f =>
          rw [hL] at hl
          simp only [nAV] at hl ⊢
          split
          · exact hp
          · rename_i hne
            rw [if_neg hne] at hl
            split
            · exact hp
            · rename_i hno
              rw [if_neg hno] at hl
              simp [AV.live] at hl
      | box τ1 x1 f1 r1 =>
        rw [ha] at hp hl
        cases hL : L.lookup h0 with
        | none => rw [hL] at hl; simp [nAV, AV.live] at hl
        | some f =>
          rw [hL] at hl
          simp only [nAV] at hl ⊢
          split
          · exact hp
          · rename_i hne
            rw [if_neg hne] at hl
            simp [AV.live] at hl
      | _ => rw [ha] at hp; exact hp.elim
    have own1 : ∀ t, SOwn ξ' w ((norm (some L) σ).av t) (tm.getD t undef) (tk' t) := by
      intro t
      rw [nslot]
      split
      case isFalse => trivial
      have ho := h.own t
      unfold norm1
      split
      · trivial
      · rename_i f hL
        have ea : (σ.slot t).a = σ.av t := rfl
        have nb : SOwn ξ' w (nAV (some f) (σ.av t)) (tm.getD t undef) (tk' t) := by
          refine nAV_own ho up (fun hn => ?_) (fun hy => ?_)
          · have hnf : ¬ frzAt σ L t := fun ⟨τ, x, f', e1, e2, e3, e4⟩ => hn ⟨τ, x, f', e1, by rw [hL] at e2; exact e2, e3, e4⟩
            exact ⟨tkN t hnf, keepN t hnf⟩
          · obtain ⟨τ, x, f', e1, e2, e3, e4⟩ := hy
            exact cov t ⟨τ, x, f', e1, by rw [hL]; exact e2, e3, e4⟩
        simp only [ea]
        cases ha : σ.av t with
        | vw τ x h0 p g v => simp only; split <;> trivial
        | ref h0 p g v => simp only; split <;> trivial
        | rp τ x q =>
          cases q with
          | none =>
            rw [ha] at ho
            exact (Own.keep (a := .rp τ x none) (T := Em) ho ⟨fun _ hb => hb.elim, fun _ _ _ _ h => h, up⟩ : Own ξ' w (.rp τ x none) _ Em)
          | some q => obtain ⟨h0, g, v⟩ := q; simp only; split <;> trivial
        | fn f => rw [ha] at ho; exact ho
        | un => rw [ha] at ho; exact ho
        | d τ x f' => rw [ha] at nb; exact nb
        | box τ x f' r => rw [ha] at nb; exact nb
        | no => trivial
        | tup l => trivial
    have lent1 : ∀ t, Lent ξ' w (norm (some L) σ) tm tk' ((norm (some L) σ).av t) (tm.getD t undef) := by
      intro t
      rw [nslot]
      split
      case isFalse => trivial
      have hl := h.lent t
      unfold norm1
      split
      · trivial
      · rename_i f hL
        have ea : (σ.slot t).a = σ.av t := rfl
        simp only [ea]
        cases ha : σ.av t with
        | vw τ x h0 p g v =>
          rw [ha] at hl
          simp only
          split
          case isFalse => trivial
          rename_i hv
          obtain ⟨cs, f1, T', k1, k2, k3, k4, k5⟩ := hl.2 hv
          obtain ⟨f2, T2, m1, m2, m3⟩ := relK h0 k4 k3 k2
          refine ⟨past _, fun _ => ⟨cs, f2, T2, k1, m1, m2, m3, fun q hq => ?_⟩⟩
          split at hq
          · rename_i hlive
            exact partK h0 q (k5 q hq) hlive
          · cases hq
        | ref h0 p g v =>
          rw [ha] at hl
          simp only
          split
          case isFalse => trivial
          rename_i hv
          simp only [Bool.and_eq_true] at hv
          obtain ⟨hv1, hv2, hv3⟩ := hv
          obtain ⟨b, o, k1, k2⟩ := hl.2 hv1
          refine ⟨past _, fun _ => ⟨b, o, k1, ?_⟩⟩
          have hlive : (nAV (L.lookup h0) (σ.av h0)).live = true := by
            cases hn : nAV (L.lookup h0) (σ.av h0) <;> rw [hn] at hv3 <;> simp [AV.isBox] at hv3
            rfl
          rw [held h0 hlive]
          cases hh : σ.av h0 with
          | box τ1 x1 f1 r1 =>
            rw [hh] at k2 hv3
            obtain ⟨b0, c, ty, fz, z1, z2, z3⟩ := k2
            cases hLL : L.lookup h0 with
            | none => rw [hLL] at hv3; simp [nAV, AV.isBox] at hv3
            | some ff =>
              rw [hLL] at hv3
              simp only [nAV] at hv3 ⊢
              split
              · exact ⟨b0, c, ty, fz, z1, z2, fun hx => by rw [hv2] at hx; cases hx⟩
              · rename_i hne
                rw [if_neg hne] at hv3
                simp [AV.isBox] at hv3
          | d τ1 x1 f1 =>
            rw [hh] at hv3
            cases hLL : L.lookup h0 with
            | none => rw [hLL] at hv3; simp [nAV, AV.isBox] at hv3
            | some ff =>
              rw [hLL] at hv3
              simp only [nAV] at hv3
              split at hv3
              · simp [AV.isBox] at hv3
              · split at hv3 <;> simp [AV.isBox] at hv3
          | _ => rw [hh] at hv3; simp [nAV, AV.isBox] at hv3
        | rp τ x q =>
          cases q with
          | none => trivial
          | some q =>
            obtain ⟨h0, g, v⟩ := q
            rw [ha] at hl
            simp only
            split
            case isFalse => trivial
            rename_i hv
            obtain ⟨b, o, cs, f1, T', k1, k2, k3, k4, k5, k6, k7⟩ := hl.2 hv
            obtain ⟨f2, T2, m1, m2, m3⟩ := relK h0 k7 k6 k5
            refine ⟨past _, fun _ => ⟨b, o, cs, f2, T2, k1, k2, k3, ?_, m1, m2, m3⟩⟩
            by_cases hf : frzAt σ L h0
            · right
              rcases k4 with k4 | k4
              · -- the cells stand in a block that is frozen whole
                have hn := τ.n_pos
                have hcell := k3 (τ.n - 1) _ (List.getElem?_eq_getElem (by omega))
                cases hb : w.heap[b]? with
                | none => simp [World.cell?, hb] at hcell
                | some ob =>
                  cases ob with
                  | cells c ty fz =>
                    rw [cell_of hb] at hcell
                    have hlt := (Array.getElem?_eq_some_iff.1 hcell).1
                    have := cov h0 hf b c ty fz k4 hb
                    omega
                  | _ => simp [World.cell?, hb] at hcell
              · exact Nat.le_trans k4 (up b)
            · exact k4.imp (fun z => by rw [tkN h0 hf]; exact z) (fun z => Nat.le_trans z (up b))
        | d τ x f' =>
          simp only [nAV]
          split
          · trivial
          · split <;> trivial
        | box τ x f' r =>
          simp only [nAV]
          split <;> trivial
        | _ => trivial
    refine ⟨tk', ξ', ?_⟩
    have F : Fr Fz ξ w ξ' w := ⟨rfl, rfl, rfl, Nat.le_refl _, fun b _ hb => ⟨rfl, frz_not hb⟩, fun _ _ _ _ h => h, fun b _ => up b⟩
    refine ⟨h.fr.trans F fun b ⟨t, _, hb⟩ => (h.may t b hb).1, fun b hb => ?_, by rw [norm_len]; exact h.sz, fun t b hb => h.may t b hb.1, fun b hb => hb.elim, fun t u htu b h1 h2 => h.dj t u htu b h1.1 h2.1, fun t => Dj.em' _, own1, lent1⟩
    rw [show ξ' b = ξ b from frz_not fun ⟨t, _, hx⟩ => by have := (h.may t b hx).2; omega]
    exact h.wf b hb
theorem frz1_ok (u : Tmp) (h : SA T0 ξ0 w0 tk Em ξ w σ tm) : ∃ tk' : Nat → Bs, ∃ ξ' : Im, SA T0 ξ0 w0 tk' Em ξ' w (frz1 σ u) tm := by
  unfold frz1
  split
  · rename_i τ x f ha
    split
    · rename_i hf
      have hlt := av_lt (σ := σ) (u := u) (by rw [ha]; simp)
      obtain ⟨cs, h1, h2⟩ := h.at_d ha
      have out := h.put (tm' := tm) (d := u) (a := .no) (T' := Em) (Tf' := Un Em (tk u)) rfl (fun _ _ => rfl) trivial trivial (Sb.em _) (Sb.refl _) (Dj.em _) hlt
      have out2 := out.freeze (T' := tk u) fun b hb => .inr hb
      have out3 := out2.drop (Tf' := Em) (fun b hb => hb.elim)
      refine ⟨_, _, out3.put (tm' := tm) (d := u) (a := .d τ x .ro) (T' := Em) (Tf' := Em) rfl (fun _ _ => rfl) ⟨cs, h1, h2.frz hf⟩ trivial (Sb.em _) (fun b hb => hb.elim) (Dj.em _) ?_⟩
      simpa [St.put] using hlt
    · exact ⟨tk, ξ, h⟩
  · exact ⟨tk, ξ, h⟩
theorem frzs_ok : ∀ (l : List Tmp) {σ : St} {tk : Nat → Bs} {ξ : Im}, SA T0 ξ0 w0 tk Em ξ w σ tm → ∃ tk' : Nat → Bs, ∃ ξ' : Im, SA T0 ξ0 w0 tk' Em ξ' w (l.foldl frz1 σ) tm
  | [], _, tk, ξ, h => ⟨tk, ξ, h⟩
  | u :: l, _, _, _, h => by
    obtain ⟨tk1, ξ1, h1⟩ := frz1_ok u h
    exact frzs_ok l h1
theorem pre_ok (o : Oper) (h : SA T0 ξ0 w0 tk Em ξ w σ tm) : ∃ tk' : Nat → Bs, ∃ ξ' : Im, SA T0 ξ0 w0 tk' Em ξ' w (pre C o σ) tm := by
  unfold pre
  split
  · split
    · split
      · exact frzs_ok _ h
      · exact ⟨tk, ξ, h⟩
    · exact ⟨tk, ξ, h⟩
  · exact ⟨tk, ξ, h⟩
theorem run0_ok {o : Oper} {σ' : St} {J : Jd P} (he : EOk P E) (hG : GOk P J T0 w0) (hC : CsOk P J C) (h : SA T0 ξ0 w0 tk Em ξ w σ tm) (hr : run0 E C o σ = some σ') : Goes P T0 ξ0 w0 σ' tm o w := by
  unfold run0 at hr
  split at hr
  · rename_i c a b hop
    split at hr
    case h_2 => cases hr
    rename_i x hx
    obtain rfl := Option.some.inj hr
    have hc := (rdv_ok h hx).bool
    refine Gd.goes (a := copy E σ o.type (if x = true then a else b)) ?_
    refine Gd.pure h (v := ev tm (if x = true then a else b)) ?_ (copy_ok E o.type h _).1 (copy_ok E o.type h _).2
    simp only [execOp, hop, hc, asBool, Sem.run_bind, Sem.run_pure, Result.andThen]
    cases x <;> rfl
  · rename_i f as ts hop
    split at hr
    case h_2 => cases hr
    rename_i ce x k hk
    obtain ⟨r, hr1, hr2⟩ := Option.map_eq_some_iff.1 hr
    subst hr2
    obtain ⟨tk1, ξ1, h1⟩ := pre_ok (C := C) o h
    exact call_ok hG hC h1 hk hr1
  · split at hr
    case h_2 => cases hr
    rename_i g a σ1 hop1
    split at hr
    case isFalse => cases hr
    rename_i hg
    obtain rfl := Option.some.inj hr
    exact (op1_ok he h hop1 hg).goes
def Goes1 (P : Program) (T0 : Bs) (ξ0 : Im) (w0 : World) (σ' : St) (tm : Array Value) (ops : Array Oper) (o : Oper) (w : World) : Prop :=
  ∀ (df : List Deferred) (K : Act → World → Prop) (Q : Exit → Act → World → Prop), (∀ tm' w' ξ' tk', SA T0 ξ0 w0 tk' Em ξ' w' σ' tm' → Kept o.dst tm tm' → K ⟨tm', df⟩ w') →
    if Region.wanted o (yielded ops tm) = true then o.wp P ⟨tm, df⟩ w K Q else K ((⟨tm, df⟩ : Act).put o.dst undef) w
theorem run1_ok {ops : Array Oper} {o : Oper} {σ' : St} {J : Jd P} (he : EOk P E) (hG : GOk P J T0 w0) (hC : CsOk P J C) (h : SA T0 ξ0 w0 tk Em ξ w σ tm) (hr : run1 E C ops o σ = some σ') : Goes1 P T0 ξ0 w0 σ' tm ops o w := by
  intro df K Q hK
  unfold run1 at hr
  split at hr
  · rename_i hg
    rw [if_pos (by simp [Region.wanted, hg])]
    exact run0_ok he hG hC h hr df K Q hK
  · rename_i j want hg
    split at hr
    case h_1 => cases hr
    rename_i g hgd
    have skip : K ((⟨tm, df⟩ : Act).put o.dst undef) w → K ((⟨tm, df⟩ : Act).put o.dst undef) w := id
    have unK : (∀ tm' w' ξ' tk', SA T0 ξ0 w0 tk' Em ξ' w' (σ.putO o.dst .un) tm' → Kept o.dst tm tm' → K ⟨tm', df⟩ w') → K ((⟨tm, df⟩ : Act).put o.dst undef) w := by
      intro hK
      obtain ⟨tk2, S⟩ := h.putO (dst := o.dst) (a := .un) (v := undef) (T' := Em) rfl trivial df
      rw [put_df]
      exact hK _ _ _ _ S (put_kept _ _ _ _)
    have ho := h.own g
    split at hr
    · rename_i ha
      obtain rfl := Option.some.inj hr
      rw [ha] at ho
      have hv : tm.getD g undef = undef := ho
      have hw : Region.wanted o (yielded ops tm) = false := by
        simp only [Region.wanted, hg, yielded, hgd, Option.bind_some]
        by_cases hs : g < tm.size
        · have e1 : tm[g]? = some undef := by
            rw [Array.getElem?_eq_getElem hs]
            have := hv
            simp only [Array.getD_eq_getD_getElem?, Array.getElem?_eq_getElem hs, Option.getD_some] at this
            rw [this]
          simp [e1, undef]
        · simp [Array.getElem?_eq_none (Nat.le_of_not_lt hs)]
      rw [if_neg (by simp [hw])]
      exact unK hK
    · rename_i b ha
      rw [ha] at ho
      obtain ⟨cs, h1, h2⟩ := ho
      have hv : tm.getD g undef = .bool b := by rw [h1, h2.2 (by simp)]; rfl
      have hs : g < tm.size := by
        rw [h.sz]
        exact av_lt (by rw [ha]; simp)
      have hy : Region.wanted o (yielded ops tm) = (b == want) := by
        simp only [Region.wanted, hg, yielded, hgd, Option.bind_some]
        have e1 : tm[g]? = some (.bool b) := by
          rw [Array.getElem?_eq_getElem hs]
          have := hv
          simp only [Array.getD_eq_getD_getElem?, Array.getElem?_eq_getElem hs, Option.getD_some] at this
          rw [this]
        simp [e1]
      split at hr
      · rename_i hbw
        rw [if_pos (by rw [hy]; simpa using hbw)]
        exact run0_ok he hG hC h hr df K Q hK
      · rename_i hbw
        obtain rfl := Option.some.inj hr
        rw [if_neg (by rw [hy]; simpa using hbw)]
        exact unK hK
    · cases hr
theorem evRun_eq (o : Oper) (σ : St) (K : St → Option ρ) : evRun E C o σ K = (run0 E C o σ).bind K := by
  unfold evRun run0
  split
  · split
    · rename_i x _
      rw [ifb_eq]
      cases x <;> simp
    · rfl
  · split
    · rename_i ce x k _
      cases ce.F x <;> rfl
    · rfl
  · split
    · rename_i g a σ1 _
      rw [ifb_eq]
      cases g <;> simp
    · rfl
theorem evOne_eq (ops : Array Oper) (o : Oper) (σ : St) (K : St → Option ρ) : evOne E C ops o σ K = (run1 E C ops o σ).bind K := by
  unfold evOne run1
  split
  · exact evRun_eq o σ K
  · rename_i j want hg
    split
    · rfl
    · rename_i g hgd
      split
      · rfl
      · rename_i b ha
        have k : ∀ c : Bool, b = c → σ.know g (.d .bool c .ro) = σ := fun c hc => by subst hc; exact know_self σ g ha
        cases want <;> cases b <;> simp only [ifb_eq, evRun_eq, if_true, if_false, Bool.false_eq_true, Bool.true_eq_false, k _ rfl] <;> rfl
      · rfl
def runL (E : TyOf) (C : CEs) (ops : Array Oper) : List Oper → St → Option St
  | [], σ => some σ
  | o :: l, σ => (run1 E C ops o σ).bind (runL E C ops l)
theorem evOps_eq (ops : Array Oper) : ∀ (l : List Oper) (σ : St) (K : St → Option ρ), evOps E C ops l σ K = (runL E C ops l σ).bind K
  | [], σ, K => rfl
  | o :: l, σ, K => by
    simp only [evOps, evOne_eq, runL]
    cases run1 E C ops o σ with
    | none => rfl
    | some σ1 => simp only [Option.bind_some]; exact evOps_eq ops l σ1 K
theorem region_ok {ops : Array Oper} {J : Jd P} (he : EOk P E) (hG : GOk P J T0 w0) (hC : CsOk P J C) (df : List Deferred) {Q : Exit → Act → World → Prop} : ∀ (l : List Oper) (σ σ' : St) (tk : Nat → Bs) (ξ : Im) (w : World) (tm : Array Value), SA T0 ξ0 w0 tk Em ξ w σ tm → runL E C ops l σ = some σ' →
    (∀ tm' w' ξ' tk', SA T0 ξ0 w0 tk' Em ξ' w' σ' tm' → (∀ t, (∀ o ∈ l, o.dst ≠ some t) → tm'.getD t undef = tm.getD t undef) → Q .normal ⟨tm', df⟩ w') → wpList P ops Q l ⟨tm, df⟩ w
  | [], σ, σ', tk, ξ, w, tm, h, hr, hK => by
    obtain rfl := Option.some.inj hr
    exact hK _ _ _ _ h fun _ _ => rfl
  | o :: l, σ, σ', tk, ξ, w, tm, h, hr, hK => by
    obtain ⟨σ1, h1, h2⟩ := Option.bind_eq_some_iff.1 hr
    have g := run1_ok (ops := ops) he hG hC h h1 df (wpList P ops Q l) Q fun tm' w' ξ' tk' S kp => region_ok he hG hC df l σ1 σ' tk' ξ' w' tm' S h2 fun tm2 w2 ξ2 tk2 S2 kp2 => hK _ _ _ _ S2 fun t ht => (kp2 t fun o' ho' => ht o' (List.mem_cons_of_mem _ ho')).trans (kp t (ht o (List.mem_cons_self ..)))
    unfold wpList
    split
    · rename_i hw
      rw [if_pos hw] at g
      exact .inl g
    · rename_i hw
      rw [if_neg hw] at g
      exact g
/-! ### What is kept at a head -/
end
end Go.Proofs.Ytabindnaedchgaa.Rf
