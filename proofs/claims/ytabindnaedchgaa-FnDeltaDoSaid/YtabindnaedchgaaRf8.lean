/- Operations: a load, a store, pointers. Nothing of any program. -/
import Derived.Test.YtabindnaedchgaaRf7
namespace Go.Proofs.Ytabindnaedchgaa.Rf
open Go Go.RowKit
set_option linter.unusedVariables false
set_option linter.unusedSimpArgs false

theorem CAt_heap {w : World} {b : Nat} {c : Array Value} {t : TypeId} {fz : Nat × Nat} (h : w.heap[b]? = some (.cells c t fz)) : CAt w b 0 c.toList := by
  intro i v hi
  rw [cell_of h, Nat.zero_add]
  simpa using hi
theorem Wr.list {w w' : World} {b : Nat} {c1 c2 c3 c' : List Value} (h : Wr w w' b c1.length c') {c : Array Value} {t : TypeId} {fz : Nat × Nat} (hc : w.heap[b]? = some (.cells c t fz)) (hl : c.toList = c1 ++ (c2 ++ c3)) (hn : c2.length = c'.length) :
    ∃ d, w'.heap[b]? = some (.cells d t fz) ∧ d.toList = c1 ++ (c' ++ c3) ∧ d.size = c.size := by
  obtain ⟨d, r1, r2, r3, r4⟩ := h.at_ c t fz hc
  have m := (Wr.mid (o := 0) (d1 := c1) (d2 := c2) (d3 := c3) (by simpa using h) (by rw [← hl]; exact CAt_heap hc) hn hc)
  refine ⟨d, r1, (CAt_heap r1).eq m ?_, r2⟩
  rw [Array.length_toList, r2, ← Array.length_toList, hl]
  simp [hn]
theorem Wr.fr {w w' : World} {b o : Nat} {c' : List Value} {ξ : Im} (h : Wr w w' b o c') (hx : ξ b ≤ o) : Fr (fun i => i = b) ξ w ξ w' :=
  ⟨h.os, h.tape, h.output, Nat.le_of_eq h.size.symm, fun i _ hi => ⟨h.oth i hi, rfl⟩, (h.keep (T := Em) (fun x => x) hx).imm, fun _ _ => Nat.le_refl _⟩
theorem cast?_self {τ : Ty} {s : Sv} {y : τ.T} (h : cast? τ s = some y) : s.1 = τ := by rw [cast?_eq h]
theorem set_get : {τ : Ty} → {x : τ.T} → {p : Path} → {τ' : Ty} → {y : τ'.T} → {z : τ.T} → setP τ x p ⟨τ', y⟩ = some z → ∃ y0 : τ'.T, getP τ x p = some ⟨τ', y0⟩
  | τ, x, [], τ', y, z, h => by
    have : τ' = τ := by cases τ <;> exact cast?_self h
    subst this
    exact ⟨x, by cases τ' <;> rfl⟩
  | .pair a b, x, .fst :: p, τ', y, z, h => by
    simp only [setP] at h
    split at h
    · rename_i y1 hy; exact set_get (τ := a) hy
    · cases h
  | .pair a b, x, .snd :: p, τ', y, z, h => by
    simp only [setP] at h
    split at h
    · rename_i y1 hy; exact set_get (τ := b) hy
    · cases h
  | .pair a b, x, .idx i :: p, τ', y, z, h => by simp [setP] at h
  | .st a, x, q :: p, τ', y, z, h => set_get (τ := a) (p := q :: p) h
  | .row e, x, .idx i :: p, τ', y, z, h => by
    simp only [setP] at h
    split at h
    · rename_i y1 hy; exact set_get (τ := e) hy
    · cases h
  | .row e, x, .fst :: p, τ', y, z, h => by simp [setP] at h
  | .row e, x, .snd :: p, τ', y, z, h => by simp [setP] at h
  | .int _, x, q :: p, τ', y, z, h => by simp [setP] at h
  | .bool, x, q :: p, τ', y, z, h => by simp [setP] at h
  | .str, x, q :: p, τ', y, z, h => by simp [setP] at h
theorem Rel.flatRo {ξ : Im} {w : World} : {τ : Ty} → {f : Fl} → {x : τ.T} → {cs : List Value} → {T : Bs} → Rel ξ w τ f x cs T → f.ok τ = true → τ.flat = true → Rel ξ w τ .ro x cs Em
  | .int _, _, _, _, _, h, r, _ => ⟨h.1, fun _ => h.2 (by simpa [Fl.ok] using r)⟩
  | .bool, _, _, _, _, h, r, _ => ⟨h.1, fun _ => h.2 (by simpa [Fl.ok] using r)⟩
  | .str, _, _, _, _, h, r, _ => ⟨h.1, fun _ => h.2 (by simpa [Fl.ok] using r)⟩
  | .row e, _, _, _, _, _, _, z => by simp [Ty.flat] at z
  | .pair a b, _, _, _, _, ⟨c1, c2, T1, T2, hc, hl, s1, s2, d, h1, h2⟩, r, z => by
    simp only [Fl.ok, Ty.flat, Bool.and_eq_true] at r z
    exact ⟨c1, c2, Em, Em, hc, hl, Sb.em _, Sb.em _, Dj.em _, h1.flatRo r.1 z.1, h2.flatRo r.2 z.2⟩
  | .st a, _, _, _, _, h, r, z => Rel.flatRo (τ := a) h r z
section
variable {P : Program} {E : TyOf} {T0 : Bs} {ξ0 : Im} {w0 : World} {tk : Nat → Bs} {Tf : Bs} {ξ : Im} {w : World} {σ : St} {tm : Array Value}
/-- what an operation comes to -/
def Gd (P : Program) (T0 : Bs) (ξ0 : Im) (w0 : World) (σ' : St) (tm : Array Value) (s : Sem Next) (a : AV) (w : World) : Prop :=
  ∃ v w' ξ', ∃ tk' : Nat → Bs, ∃ T' : Bs, (s.run P w = .ok (.value v) w' ∨ (s.run P w = .ok .skip w' ∧ v = undef)) ∧ SA T0 ξ0 w0 tk' T' ξ' w' σ' tm ∧ SOwn ξ' w' a v T' ∧ Lent ξ' w' σ' tm tk' a v
theorem Gd.pure {s : Sem Next} {a : AV} {v : Value} (h : SA T0 ξ0 w0 tk Em ξ w σ tm) (hr : s.run P w = .ok (.value v) w) (ho : SOwn ξ w a v Em) (hl : Lent ξ w σ tm tk a v) : Gd P T0 ξ0 w0 σ tm s a w :=
  ⟨v, w, ξ, tk, Em, .inl hr, h, ho, hl⟩
theorem takeV_ok {t : TypeId} {o : Operand} {τ : Ty} {x : τ.T} {f : Fl} {σ' : St} (h : SA T0 ξ0 w0 tk Tf ξ w σ tm) (ht : takeV E σ t o = some (⟨τ, x⟩, f, σ')) :
    ∃ tk' : Nat → Bs, ∃ T' : Bs, ∃ cs, SA T0 ξ0 w0 tk' (Un Tf T') ξ w σ' tm ∧ Dj T' Tf ∧ ev tm o = mkV τ cs ∧ Rel ξ w τ f x cs T' ∧ f.ok τ = true ∧ σ'.length = σ.length := by
  unfold takeV at ht
  split at ht
  · rename_i τ' x' f' σ1 hk
    split at ht
    · rename_i hf
      simp only [Option.some.injEq, Prod.mk.injEq, Sigma.mk.injEq] at ht
      obtain ⟨⟨rfl, hx⟩, rfl, rfl⟩ := ht
      cases hx
      obtain ⟨tk', T', k1, k2, k3, k4, k5⟩ := take_ok h hk
      obtain ⟨cs, k6, k7⟩ := k3
      exact ⟨tk', T', cs, k1, k2, k6, k7, hf, k5⟩
    · cases ht
  · cases ht
theorem SA.freeze {T' : Bs} (h : SA T0 ξ0 w0 tk Tf ξ w σ tm) (s : Sb T' Tf) : SA T0 ξ0 w0 tk (fun b => Tf b ∧ ¬ T' b) (frz ξ w T') w σ tm := by
  refine h.step (U := T') ⟨rfl, rfl, rfl, Nat.le_refl _, fun b _ hb => ⟨rfl, frz_not hb⟩, fun _ _ _ _ h => h, fun b _ => frz_ge ξ w T' b⟩ s ?_ ?_
  · intro b hb
    rw [frz_not fun hx => ?_]
    · exact h.wf b hb
    · have := (h.mayf b (s b hx)).2; omega
  · exact fun b hb => ⟨.inl hb.1, (h.mayf b hb.1).2⟩
theorem ptr_inj {b b' o o' : Nat} (h : (Value.pointer (some ⟨b, o, none⟩)) = .pointer (some ⟨b', o', none⟩)) : b = b' ∧ o = o' := by
  simp only [Value.pointer.injEq, Option.some.injEq, Addr.mk.injEq, and_true] at h
  exact h
theorem cells_inj {w : World} {b : Nat} {c c' : Array Value} {t t' : TypeId} {fz fz' : Nat × Nat} (h : w.heap[b]? = some (.cells c t fz)) (h' : w.heap[b]? = some (.cells c' t' fz')) : c = c' ∧ t = t' ∧ fz = fz' := by
  rw [h] at h'
  simp only [Option.some.injEq, Obj.cells.injEq] at h'
  exact h'
theorem SA.at_box (h : SA T0 ξ0 w0 tk Tf ξ w σ tm) {u : Nat} {τ : Ty} {x : τ.T} {f : Fl} {r : Option Tmp} (ha : σ.av u = .box τ x f r) :
    ∃ b c t fz, ∃ T' : Bs, tm.getD u undef = .pointer (some ⟨b, 0, none⟩) ∧ tk u b ∧ w.heap[b]? = some (.cells c t fz) ∧ (∀ o, o < c.size → ¬(fz.1 ≤ o ∧ o < fz.2)) ∧ BxI r c.size (ξ b) ∧ Sb T' (tk u) ∧ ¬ T' b ∧ Rel ξ w τ f x c.toList T' := by
  have := h.own u
  rw [ha] at this
  exact this
theorem SA.at_ref (h : SA T0 ξ0 w0 tk Tf ξ w σ tm) {u : Nat} {h0 : Tmp} {p : Path} {g v : Nat} (ha : σ.av u = .ref h0 p g v) (hv : refOk σ h0 p g v = true) :
    ∃ b o, tm.getD u undef = .pointer (some ⟨b, o, none⟩) ∧ Ptr w (σ.av h0) (tm.getD h0 undef) p b o := by
  have := h.lent u
  rw [ha] at this
  exact this.2 hv
theorem valid_self (σ : St) (u : Nat) : σ.valid u (σ.slot u).g (σ.slot u).v = true := by simp [St.valid]
/-- what a part is, as a copy or as a view -/
theorem view_ok {τ' : Ty} {y : τ'.T} {f' : Fl} {h0 : Nat} {p : Option Path} {cs : List Value} {T' : Bs} {a : AV} (hs : Sb T' (tk h0)) (hr : Rel ξ w τ' f' y cs T')
    (hp : ∀ q, p = some q → Part w (σ.av h0) (tm.getD h0 undef) q τ' y cs)
    (ha : (if f'.isRo τ' then some (AV.d τ' y .ro) else if f'.ok τ' then some (.vw τ' y h0 p (σ.slot h0).g (σ.slot h0).v) else none) = some a) :
    a.ty = some τ' ∧ SOwn ξ w a (mkV τ' cs) Em ∧ Lent ξ w σ tm tk a (mkV τ' cs) := by
  split at ha
  · rename_i hro
    obtain rfl := Option.some.inj ha
    exact ⟨rfl, ⟨cs, rfl, hr.toRo hro⟩, trivial⟩
  · split at ha
    · rename_i hok
      obtain rfl := Option.some.inj ha
      exact ⟨rfl, trivial, Past.refl _ _, fun _ => ⟨cs, f', T', rfl, hs, hok, hr, hp⟩⟩
    · cases ha
theorem deref_ok {u : Nat} {a : AV} (h : SA T0 ξ0 w0 tk Tf ξ w σ tm) (hd : deref σ u = some a) :
    ∃ b o cs τ, tm.getD u undef = .pointer (some ⟨b, o, none⟩) ∧ a.ty = some τ ∧ cs.length = τ.n ∧ CAt w b o cs ∧ SOwn ξ w a (mkV τ cs) Em ∧ Lent ξ w σ tm tk a (mkV τ cs) := by
  simp only [deref] at hd
  split at hd
  · rename_i τ x f r ha
    obtain ⟨b, c, t, fz, T', k1, k2, k3, k4, k5, k6, k7, k8⟩ := h.at_box (u := u) ha
    obtain ⟨r1, r2, r3⟩ := view_ok (tm := tm) (σ := σ) (h0 := u) (p := some []) k6 k8 (fun q hq => by
      obtain rfl := Option.some.inj hq
      rw [show σ.av u = .box τ x f r from ha]
      exact ⟨b, c, t, fz, [], [], k1, k3, getP_nil _ _, by simp, (offP_nil _).symm, k8.len, rfl⟩) hd
    exact ⟨b, 0, c.toList, τ, k1, r1, k8.len, CAt_heap k3, r2, r3⟩
  · rename_i h0 p g v ha
    split at hd
    case isFalse => cases hd
    rename_i hv
    obtain ⟨b, o, k1, k2⟩ := h.at_ref (u := u) ha hv
    have key : ∀ (τ : Ty) (x : τ.T) (f : Fl) (hh : (∃ r, σ.av h0 = .box τ x f r) ∨ σ.av h0 = .d τ x f), (match getP τ x p with
        | some ⟨τ', y⟩ => if (f.at p).isRo τ' then some (AV.d τ' y .ro) else if (f.at p).ok τ' then some (.vw τ' y h0 (if p.fields then some p else none) (σ.slot h0).g (σ.slot h0).v) else none
        | none => none) = some a → ∃ cs τ, a.ty = some τ ∧ cs.length = τ.n ∧ CAt w b o cs ∧ SOwn ξ w a (mkV τ cs) Em ∧ Lent ξ w σ tm tk a (mkV τ cs) := by
      intro τ x f hh hd
      split at hd
      case h_2 => cases hd
      rename_i τ' y hg
      rcases hh with ⟨r, hh⟩ | hh
      · rw [hh] at k2
        obtain ⟨b0, c, t, fz, m1, m2, m3⟩ := k2
        obtain ⟨b', c', t', fz', T', n1, n2, n3, n4, n5, n6, n7, n8⟩ := h.at_box hh
        obtain ⟨rfl, _⟩ := ptr_inj (m1.symm.trans n1)
        by_cases hp : p.fields = true
        · obtain ⟨rfl, rfl⟩ := m2 hp
          obtain ⟨c1, c2, c3, e1, e2, e3⟩ := n8.get hp hg
          rw [if_pos hp] at hd
          obtain ⟨r1, r2, r3⟩ := view_ok (tm := tm) (σ := σ) (h0 := h0) n6 e3 (fun q hq => by
            obtain rfl := Option.some.inj hq
            rw [hh]
            exact ⟨b, c', t', fz', c1, c3, n1, n3, hg, e1, e2, e3.len, hp⟩) hd
          refine ⟨c2, τ', r1, e3.len, ?_, r2, r3⟩
          have := CAt_heap n3
          rw [e1] at this
          rw [← e2]
          simpa using this.part
        · have hp' : p.fields = false := by simpa using hp
          obtain ⟨m4, m5, m6⟩ := m3 hp'
          obtain ⟨rfl, rfl, rfl⟩ := cells_inj m4 n3
          obtain ⟨q1, q2, ⟨c'', q3, q4, q5⟩, q6⟩ := n8.look m6 m5 hg
          rw [if_neg hp] at hd
          obtain ⟨r1, r2, r3⟩ := view_ok (tm := tm) (σ := σ) (h0 := h0) n6 q5 (fun q hq => by cases hq) hd
          exact ⟨c'', τ', r1, q3, q4, r2, r3⟩
      · rw [hh] at k2
        obtain ⟨cs0, m1, m2, m3, m4, m5⟩ := k2
        obtain ⟨cs0', n1, n2⟩ := h.at_d hh
        obtain rfl := mkV_inj m2 n2.len (m1.symm.trans n1)
        obtain ⟨q1, q2, ⟨c'', q3, q4, q5⟩, q6⟩ := n2.look m5 m4 hg
        have hpn : ¬ p.fields = true := by simp [m3]
        rw [if_neg hpn] at hd
        obtain ⟨r1, r2, r3⟩ := view_ok (tm := tm) (σ := σ) (h0 := h0) (Sb.refl _) q5 (fun q hq => by cases hq) hd
        exact ⟨c'', τ', r1, q3, q4, r2, r3⟩
    have fin : ∃ cs τ, a.ty = some τ ∧ cs.length = τ.n ∧ CAt w b o cs ∧ SOwn ξ w a (mkV τ cs) Em ∧ Lent ξ w σ tm tk a (mkV τ cs) := by
      cases hh : (σ.slot h0).a with
      | box τ x f r => rw [hh] at hd; exact key τ x f (.inl ⟨r, hh⟩) hd
      | d τ x f => rw [hh] at hd; exact key τ x f (.inr hh) hd
      | _ => rw [hh] at hd; cases hd
    obtain ⟨cs, τ, f1, f2, f3, f4, f5⟩ := fin
    exact ⟨b, o, cs, τ, k1, f1, f2, f3, f4, f5⟩
  · rename_i τ x ha
    obtain rfl := Option.some.inj hd
    have := h.own u
    rw [show σ.av u = .rp τ x none from ha] at this
    obtain ⟨b, o, cs, k1, k2, k3, k4, k5⟩ := this
    exact ⟨b, o, cs, τ, k1, rfl, k2, k3, ⟨cs, rfl, k5⟩, trivial⟩
  · rename_i τ x h0 g v ha
    split at hd
    case isFalse => cases hd
    rename_i hv
    have := h.lent u
    rw [show σ.av u = .rp τ x (some (h0, g, v)) from ha] at this
    obtain ⟨b, o, cs, f, T', k1, k2, k3, k4, k5, k6, k7⟩ := this.2 hv
    split at hd
    · rename_i hfl
      obtain rfl := Option.some.inj hd
      exact ⟨b, o, cs, τ, k1, rfl, k2, k3, ⟨cs, rfl, k7.flatRo k6 hfl⟩, trivial⟩
    · obtain rfl := Option.some.inj hd
      exact ⟨b, o, cs, τ, k1, rfl, k2, k3, trivial, this.1, fun _ => ⟨cs, f, T', rfl, k5, k6, k7, fun q hq => by cases hq⟩⟩
  · cases hd
def EOk (P : Program) (E : TyOf) : Prop := ∀ t τ, E.of t = some τ → tok P τ t
theorem run_loadAt {t : TypeId} {b o : Nat} : (Instr.loadAt t (.pointer (some ⟨b, o, none⟩))).run P w = (loadVar t ⟨b, o, none⟩).run P w := by
  simp [Instr.loadAt, Instr.sureAddr]
theorem run_storeAt {t : TypeId} {b o : Nat} {v : Value} : (Instr.storeAt t (.pointer (some ⟨b, o, none⟩)) v).run P w = (storeVar t ⟨b, o, none⟩ v).run P w := by
  simp [Instr.storeAt, Instr.sureAddr]
theorem op_load {t : TypeId} {u : Nat} {a : AV} {o : Oper} (he : EOk P E) (h : SA T0 ξ0 w0 tk Em ξ w σ tm) (hop : o.op = .load t (.tmp u)) (hd : deref σ u = some a) (ht : a.ty = E.of t) : Gd P T0 ξ0 w0 σ tm (execOp (ev tm) o) a w := by
  obtain ⟨b, off, cs, τ, k1, k2, k3, k4, k5, k6⟩ := deref_ok h hd
  refine Gd.pure h (v := mkV τ cs) ?_ k5 k6
  have hE : tok P τ t := he t τ (by rw [← ht, k2])
  simp only [execOp, hop, Sem.run_bind, ev, k1, run_loadAt, run_loadVar hE k3 k4, Result.andThen, Sem.run_pure]
/-- a store: the world, and the state -/
theorem poke_ok {u : Nat} {τ : Ty} {x : τ.T} {f : Fl} {T' : Bs} {cs : List Value} {σ' : St} {t : TypeId} (ht : tok P τ t) (h : SA T0 ξ0 w0 tk T' ξ w σ tm) (hv : Rel ξ w τ f x cs T') (hf : f.ok τ = true) (hp : poke σ u ⟨τ, x⟩ f = some σ') :
    ∃ b o w' ξ', ∃ tk' : Nat → Bs, tm.getD u undef = .pointer (some ⟨b, o, none⟩) ∧ (storeVar t ⟨b, o, none⟩ (mkV τ cs)).run P w = .ok () w' ∧ SA T0 ξ0 w0 tk' Em ξ' w' σ' tm := by
  have hcells := mkV_cells hv hf
  have hone := hv.cells1 hf
  have hlt : ∀ d, σ.av d ≠ .no → d < σ.length := fun d hd => av_lt hd
  simp only [poke] at hp
  split at hp
  · rename_i τ0 x0 g ha
    split at hp
    case h_2 => cases hp
    rename_i y hy
    obtain rfl := Option.some.inj hp
    have := cast?_eq hy
    cases this
    have ha' : σ.av u = .box τ x0 g none := ha
    obtain ⟨b, c, t', fz, T1, k1, k2, k3, k4, k5, k6, k7, k8⟩ := h.at_box ha'
    have k5 : ξ b = 0 := k5
    have hsz : c.toList.length = τ.n := k8.len
    obtain ⟨w', e1, e2⟩ := run_storeVar ht hcells hv.len hone k3 k4 (o := 0) (by rw [← hsz]; simp)
    have hb : ¬ T' b := fun hx => h.djf u b k2 hx
    obtain ⟨d, d1, d2, d3⟩ := e2.list (c1 := []) (c2 := c.toList) (c3 := []) k3 (by simp) (by rw [hsz, hv.len])
    have hx : ξ b ≤ 0 := by omega
    refine ⟨b, 0, w', ξ, _, k1, e1, h.turn (d := u) (a := .box τ x f none) (U := fun i => i = b) (T' := Un (fun i => i = b) T') (Tf' := Em) (e2.fr hx) (fun i hi => hi ▸ .inr k2) ?_ (by rw [ha']; exact ⟨_, _, _, rfl⟩) ?_ (fun _ => trivial) ?_ (fun _ hx => hx.elim) (Dj.em' _) (hlt u (by rw [ha']; simp))⟩
    · intro i hi; rw [e2.size] at hi; exact h.wf i hi
    · refine ⟨b, d, t', fz, T', k1, .inl rfl, d1, by rw [d3]; exact k4, k5, Sb.r _ _, hb, ?_⟩
      rw [d2]
      simpa using hv.keep (e2.keep hb hx)
    · intro i hi
      rw [e2.size]
      rcases hi with hi | hi
      · subst hi; exact ⟨.inl (.inr k2), (h.may u i k2).2⟩
      · exact ⟨.inl (.inl hi), (h.mayf i hi).2⟩
  · rename_i h0 p g v ha
    split at hp
    case isFalse => cases hp
    rename_i hv'
    obtain ⟨b, o, k1, k2⟩ := h.at_ref (u := u) ha hv'
    -- writes inside of the slot's own rows
    have inner : ∀ (τ0 : Ty) (x0 : τ0.T) (f0 : Fl) (cs0 : List Value) (T1 : Bs) (y : τ0.T), Rel ξ w τ0 f0 x0 cs0 T1 → Sb T1 (tk h0) → Loc w τ0 cs0 p b o → ownP f0 p = true → setP τ0 x0 p ⟨τ, x⟩ = some y → f0.at p = f.meet (f0.at p) →
        ∃ w' ξ', (storeVar t ⟨b, o, none⟩ (mkV τ cs)).run P w = .ok () w' ∧ Wr w w' b o cs ∧ T1 b ∧ Fr (Un T' (fun i => i = b)) ξ w ξ' w' ∧ Wf ξ' w' ∧ Rel ξ' w' τ0 f0 y cs0 (Un T1 T') ∧ ∀ i, ¬ T' i → ξ' i = ξ i := by
      intro τ0 x0 f0 cs0 T1 y hr hs hl ho hset hm
      have hget : ∃ y0 : τ.T, getP τ0 x0 p = some ⟨τ, y0⟩ := set_get hset
      obtain ⟨y0, hget⟩ := hget
      obtain ⟨q1, q2, _, c, t', fz, q3, q4, q5⟩ := hr.look hl ho hget
      obtain ⟨w', e1, e2⟩ := run_storeVar ht hcells hv.len hone q3 q4 q5
      have dj : Dj T1 T' := (h.djf h0).sub hs (Sb.refl _)
      have hb : ¬ T' b := fun hx => dj b q1 hx
      by_cases hfe : f = f0.at p
      · refine ⟨w', ξ, e1, e2, q1, ?_, ?_, (hr.poke hl ho hset e2 (by rw [← hfe]; exact hv) dj).1, fun _ _ => rfl⟩
        · have F := e2.fr q2
          exact ⟨F.os, F.tape, F.output, F.size, fun i hi hn => F.blk i hi fun e => hn (.inr e), F.imm, F.up⟩
        · intro i hi; rw [e2.size] at hi; exact h.wf i hi
      · have hro : f0.at p = .ro := by rw [hm]; unfold Fl.meet; rw [if_neg hfe]
        have hfr := hv.frz hf
        have hk := frz_keep ξ w T' T1 (Dj.symm dj)
        have q2' : frz ξ w T' b ≤ o := by rw [frz_not hb]; exact q2
        refine ⟨w', frz ξ w T', e1, e2, q1, ?_, ?_, ?_, fun i hi => frz_not hi⟩
        · refine ⟨e2.os, e2.tape, e2.output, Nat.le_of_eq e2.size.symm, fun i hi hn => ⟨e2.oth i fun e => hn (.inr e), frz_not fun x => hn (.inl x)⟩, (e2.keep (T := Em) (fun x => x) q2).imm, fun i _ => frz_ge ξ w T' i⟩
        · intro i hi
          rw [e2.size] at hi
          rw [frz_not fun hx => by have := (h.mayf i hx).2; omega]
          exact h.wf i hi
        · have := (Rel.poke (hr.keep hk) hl ho hset e2 (by rw [hro]; exact hfr) (Dj.em' _)).1
          exact this.sub (Sb.both (Sb.refl _) (Sb.em _))
    split at hp
    · rename_i τ0 x0 f0 r hh
      have hh' : σ.av h0 = .box τ0 x0 f0 r := hh
      rw [hh'] at k2
      obtain ⟨b0, c, t', fz, m1, m2, m3⟩ := k2
      obtain ⟨b', c', t'', fz', T1, n1, n2, n3, n4, n5, n6, n7, n8⟩ := h.at_box hh'
      obtain ⟨rfl, _⟩ := ptr_inj (m1.symm.trans n1)
      split at hp
      case h_2 => cases hp
      rename_i y hset
      have djT : Dj T1 T' := (h.djf h0).sub n6 (Sb.refl _)
      have hb0 : ¬ T' b0 := fun hx => h.djf h0 b0 n2 hx
      split at hp
      · rename_i hpf
        split at hp
        case isFalse => cases hp
        rename_i hrn
        obtain rfl : r = none := by cases r with | none => rfl | some _ => simp at hrn
        obtain rfl := Option.some.inj hp
        obtain ⟨rfl, rfl⟩ := m2 hpf
        have n5 : ξ b = 0 := n5
        obtain ⟨c1, c2, c3, e1, e2, e3, e4⟩ := n8.set hpf hset hv djT
        have hsz : c1.length + (c2.length + c3.length) = c'.size := by rw [← Array.length_toList, e1]; simp
        obtain ⟨w', r1, r2⟩ := run_storeVar ht hcells hv.len hone n3 n4 (o := offP τ0 p) (by omega)
        have hx : ξ b ≤ offP τ0 p := by omega
        rw [← e2] at r2
        obtain ⟨d, d1, d2, d3⟩ := r2.list n3 e1 (by rw [e3, hv.len])
        have hnT : ¬ (Un T1 T') b := fun hx => hx.elim n7 hb0
        refine ⟨b, offP τ0 p, w', ξ, _, k1, r1, h.turn (d := h0) (a := .box τ0 y (f0.put p f) none) (U := fun i => i = b) (T' := Un (fun i => i = b) (Un T1 T')) (Tf' := Em) (r2.fr (by omega)) (fun i hi => hi ▸ .inr n2) ?_ (by rw [hh']; exact ⟨_, _, _, rfl⟩) ?_ (fun _ => trivial) ?_ (fun _ hx => hx.elim) (Dj.em' _) (hlt h0 (by rw [hh']; simp))⟩
        · intro i hi; rw [r2.size] at hi; exact h.wf i hi
        · refine ⟨b, d, t'', fz', Un T1 T', n1, .inl rfl, d1, by rw [d3]; exact n4, n5, Sb.r _ _, hnT, ?_⟩
          rw [d2]
          exact e4.keep (r2.keep hnT (by omega))
        · intro i hi
          rw [r2.size]
          rcases hi with hi | hi | hi
          · subst hi; exact ⟨.inl (.inr n2), (h.may h0 i n2).2⟩
          · exact ⟨.inl (.inr (n6 i hi)), (h.may h0 i (n6 i hi)).2⟩
          · exact ⟨.inl (.inl hi), (h.mayf i hi).2⟩
      · rename_i hpf
        split at hp
        case isFalse => cases hp
        rename_i hm
        obtain rfl := Option.some.inj hp
        obtain ⟨m4, m5, m6⟩ := m3 (by simpa using hpf)
        obtain ⟨rfl, rfl, rfl⟩ := cells_inj m4 n3
        obtain ⟨w', ξ', r1, r2, r3, r4, r5, r6, r7⟩ := inner τ0 x0 f0 c.toList T1 y n8 n6 m6 m5 hset hm
        have hne : b0 ≠ b := fun e => n7 (e ▸ r3)
        have hnT : ¬ (Un T1 T') b0 := fun hx => hx.elim n7 hb0
        refine ⟨b, o, w', ξ', _, k1, r1, h.turn (d := h0) (a := .box τ0 y f0 r) (T' := Un (fun i => i = b0) (Un T1 T')) (Tf' := Em) r4 (Sb.both (Sb.refl _) (fun i hi => hi ▸ n6 b r3)) r5 (by rw [hh']; exact ⟨_, _, _, rfl⟩) ?_ (fun _ => trivial) ?_ (fun _ hx => hx.elim) (Dj.em' _) (hlt h0 (by rw [hh']; simp))⟩
        · exact ⟨b0, c, t', fz, Un T1 T', n1, .inl rfl, (r2.oth b0 hne).trans n3, n4, by rw [r7 b0 hb0]; exact n5, Sb.r _ _, hnT, r6⟩
        · intro i hi
          rw [r2.size]
          rcases hi with hi | hi | hi
          · subst hi; exact ⟨.inl (.inr n2), (h.may h0 i n2).2⟩
          · exact ⟨.inl (.inr (n6 i hi)), (h.may h0 i (n6 i hi)).2⟩
          · exact ⟨.inl (.inl hi), (h.mayf i hi).2⟩
    · rename_i τ0 x0 f0 hh
      have hh' : σ.av h0 = .d τ0 x0 f0 := hh
      rw [hh'] at k2
      obtain ⟨cs0, m1, m2, m3, m4, m5⟩ := k2
      obtain ⟨cs0', n1, n2⟩ := h.at_d hh'
      obtain rfl := mkV_inj m2 n2.len (m1.symm.trans n1)
      split at hp
      case h_2 => cases hp
      rename_i y hset
      split at hp
      case isFalse => cases hp
      rename_i hm
      obtain rfl := Option.some.inj hp
      obtain ⟨w', ξ', r1, r2, r3, r4, r5, r6, r7⟩ := inner τ0 x0 f0 cs0 (tk h0) y n2 (Sb.refl _) m5 m4 hset hm
      refine ⟨b, o, w', ξ', _, k1, r1, h.turn (d := h0) (a := .d τ0 y f0) (T' := Un (tk h0) T') (Tf' := Em) r4 (Sb.both (Sb.refl _) (fun i hi => hi ▸ r3)) r5 (by rw [hh']; trivial) ⟨cs0, n1, r6⟩ (fun _ => trivial) ?_ (fun _ hx => hx.elim) (Dj.em' _) (hlt h0 (by rw [hh']; simp))⟩
      intro i hi
      rw [r2.size]
      rcases hi with hi | hi
      · exact ⟨.inl (.inr hi), (h.may h0 i hi).2⟩
      · exact ⟨.inl (.inl hi), (h.mayf i hi).2⟩
    · cases hp
  · cases hp
end
end Go.Proofs.Ytabindnaedchgaa.Rf
