/- Operations: builtins. Nothing of any program. -/
import Derived.Test.YtabindnaedchgaaRf12
namespace Go.Proofs.Ytabindnaedchgaa.Rf
open Go Go.RowKit
set_option linter.unusedVariables false
set_option linter.unusedSimpArgs false

section
variable {P : Program} {E : TyOf} {T0 : Bs} {ξ0 : Im} {w0 : World} {tk : Nat → Bs} {Tf : Bs} {ξ : Im} {w : World} {σ : St} {tm : Array Value}
theorem exec_builtin {o : Oper} {c : Call} {b : Builtin} {ρ : Operand → Value} (hop : o.op = .call c) (hc : c.callee = .builtin b) :
    execOp ρ o = Go.builtin b c.argTypes o.type (c.args.map fun | .const _ => true | _ => false) (c.args.map ρ) := by
  simp only [execOp, hop, resolve, hc]
  rfl
theorem row_val {e : Ty} {f : Fl} {l : List e.T} {cs : List Value} {T : Bs} (h : Rel ξ w (.row e) f l cs T) : cs = [mkV (.row e) cs] := by
  have := h.len
  match cs, this with
  | [v], _ => rfl
theorem segs_one {e : Ty} {l : List e.T} {cm : List Value} (hcm : cm.length = l.length * e.n) (h : ∀ i (hi : i < l.length), ∃ g : Fl, ∃ T' : Bs, g.ok e = true ∧ Rel ξ w e g l[i] (seg cm e.n i) T') : ∀ v ∈ cm, v.oneCell' = true := by
  intro v hv
  obtain ⟨j, hj0, rfl⟩ := List.mem_iff_getElem.1 hv
  have hn := e.n_pos
  have hj := hj0
  rw [hcm] at hj
  have hi : j / e.n < l.length := Nat.div_lt_of_lt_mul (by rwa [Nat.mul_comm])
  obtain ⟨g, T', k1, k2⟩ := h _ hi
  refine k2.cells1 k1 _ ?_
  have hm := Nat.mod_lt j hn
  have e1 : j / e.n * e.n + j % e.n = j := by have := Nat.div_add_mod j e.n; rw [Nat.mul_comm] at this; omega
  have := seg_get (cm := cm) (i := j / e.n) hm
  rw [e1, List.getElem?_eq_getElem (l := cm) hj0] at this
  exact List.mem_of_getElem? this
theorem first_any {e : Ty} {A : Option Addr} {cap n len : Nat} {cm : List Value} (hl : cm.length = n * e.n) (hc : ∀ j v, cm[j]? = some v → ∃ a, A = some a ∧ a.spot = none ∧ w.cell? ⟨a.block, a.off + j, none⟩ = some v) :
    ∀ w', w'.heap = w.heap → (Builtin.firstCells e.n n (.slice A len cap)).run P w' = .ok cm.toArray w' := fun w' hw =>
  run_first hl fun j v hj => by
    obtain ⟨a, h1, h2, h3⟩ := hc j v hj
    exact ⟨a, h1, h2, (cell_eq (by rw [hw]) _).trans h3⟩
theorem tok_by {e : Ty} {t : TypeId} (h : tok P (.row e) t) : ∃ dd, P.underlying t = some dd ∧ (dd = .string ∨ ∃ y, dd = .slice y) := by
  obtain ⟨te, h1, _⟩ := h.row
  exact ⟨_, h1, .inr ⟨te, rfl⟩⟩
/-- the end of every append -/
theorem append_end {o : Oper} {c : Call} {t t' te : TypeId} {e : Ty} {g : Fl} {l m : List e.T} {x y : Operand} {Tb T2 : Bs} {Te2 : Nat → Bs} {cm : List Value} {dd : TypeDesc} (hop : o.op = .call c) (hcl : c.callee = .builtin .append) (hts : c.argTypes.toList = [t, t']) (has : c.args.toList = [x, y])
    (h : SA T0 ξ0 w0 tk (Un Tb T2) ξ w σ tm) (ht : P.underlying t = some (.slice te)) (hte : tok P e te) (hd : P.underlying t' = some dd) (hdd : dd = .string ∨ ∃ y, dd = .slice y)
    (hl : Rel ξ w (.row e) (.own g) l [ev tm x] Tb) (hgo : g.ok e = true)
    (hlen : (Builtin.lenOf (ev tm y)).run P w = .ok m.length w) (hcm : cm.length = m.length * e.n) (hfirst : ∀ w', w'.heap = w.heap → (Builtin.firstCells e.n m.length (ev tm y)).run P w' = .ok cm.toArray w') (h1 : ∀ v ∈ cm, v.oneCell' = true)
    (hel : ∀ i (hi : i < m.length), Rel ξ w e g m[i] (seg cm e.n i) (Te2 i)) (s2 : ∀ i, Sb (Te2 i) T2) (d2 : ∀ i j, i ≠ j → Dj (Te2 i) (Te2 j)) (dj : Dj Tb T2) (hb : (l.length + m.length) * e.by ≤ rowMax) :
    Gd P T0 ξ0 w0 σ tm (execOp (ev tm) o) (.d (.row e) (l ++ m) (.own g)) w := by
  obtain ⟨v, w', T', k1, k2, k3, k4, k5⟩ := append_core (ty := o.type) ht hte hd hdd h.wf (fun b hb => (h.mayf b (.inl hb)).2) (fun b hb => (h.mayf b (.inr hb)).2) hl hgo hlen hcm hfirst h1 hel s2 d2 dj hb
  have eT : c.argTypes = #[t, t'] := Array.ext' hts
  have eA : c.args = #[x, y] := Array.ext' has
  refine ⟨v, w', ξ, tk, T', .inl ?_, h.step k2 (Sb.l _ _) k3 (fun b hb => ⟨(k5 b hb).1.elim (fun x => .inl (.inl x)) (fun x => x.imp .inr id), (k5 b hb).2⟩), ⟨[v], rfl, k4⟩, trivial⟩
  rw [exec_builtin hop hcl, eT, eA]
  have e2 : (#[x, y] : Array Operand).map (ev tm) = #[ev tm x, ev tm y] := by simp
  rw [e2]
  simp only [Go.builtin, Sem.run_bind, k1, Result.andThen, Sem.run_pure]
theorem op_append_flat {o : Oper} {c : Call} {t t' : TypeId} {e : Ty} {g : Fl} {l m : List e.T} {x y : Operand} {σ' : St} {s : Sv} (he : EOk P E) (h : SA T0 ξ0 w0 tk Em ξ w σ tm) (hop : o.op = .call c) (hcl : c.callee = .builtin .append) (hts : c.argTypes.toList = [t, t']) (has : c.args.toList = [x, y])
    (hx : takeV E σ t x = some (⟨.row e, l⟩, .own g, σ')) (hE : E.of t = some (.row e)) (hfl : e.flat = true) (hy : rdT E σ' t' y = some s) (hE' : E.of t' = some s.1)
    (hm : asRow e s = some m) (hb : (l.length + m.length) * e.by ≤ rowMax) :
    Gd P T0 ξ0 w0 σ' tm (execOp (ev tm) o) (.d (.row e) (l ++ m) (.own g)) w := by
  obtain ⟨tk', T', cs, k1, k2, k3, k4, k5, _⟩ := takeV_ok h hx
  have k1' : SA T0 ξ0 w0 tk' (Un T' Em) ξ w σ' tm := k1.drop (Sb.un (Sb.r _ _) (Sb.em _))
  obtain ⟨te, ht, hte⟩ := (he t _ hE).row
  have hgo : g.ok e = true := by simpa [Fl.ok] using k5
  have hbase : Rel ξ w (.row e) (.own g) l [ev tm x] T' := by rw [k3, ← row_val k4]; exact k4
  have rd := rdT_ok k1 hy
  obtain ⟨τ, s⟩ := s
  cases τ with
  | str =>
    have hv := rd.str
    have := cast?_eq hm
    simp only [sv, Sigma.mk.injEq, Ty.row.injEq] at this
    obtain ⟨he8, hme⟩ := this
    subst he8
    have hme' : m = bytesOf s := (eq_of_heq hme).symm
    subst hme'
    have hbs : (bytesOf s).length = s.size := by simp only [bytesOf, List.length_map, Array.length_toList]; rfl
    have hcm : (s.data.toList.map fun b => (Value.int .u8 (b.toNat : Int))).length = (bytesOf s).length * (Ty.int .u8).n := by simp [bytesOf, Ty.n]
    refine append_end (cm := s.data.toList.map fun b => (Value.int .u8 (b.toNat : Int))) (Te2 := fun _ => Em) hop hcl hts has k1' ht hte (he t' _ hE').str (.inl rfl) hbase hgo ?_ hcm ?_ ?_ ?_ (fun _ => Sb.em _) (fun _ _ _ => Dj.em _) (Dj.em' _) hb
    · rw [hv, hbs]; rfl
    · intro w' _
      rw [hv]
      simp only [Builtin.firstCells, Sem.run_pure, hbs]
      congr 1
      apply Array.ext'
      have e3 : (s.extract 0 s.size).data = s.data := by simp
      rw [e3, Array.toList_map, List.toList_toArray]
    · intro v hv'
      simp only [List.mem_map] at hv'
      obtain ⟨b, _, rfl⟩ := hv'
      rfl
    · intro i hi
      have hi' : i < s.data.toList.length := by simpa [bytesOf] using hi
      have : seg (s.data.toList.map fun b => (Value.int .u8 (b.toNat : Int))) (Ty.int .u8).n i = [.int .u8 ((bytesOf s)[i])] := by
        apply List.ext_getElem?
        intro j
        by_cases hj : j < 1
        · have : j = 0 := by omega
          subst this
          have := seg_get (cm := s.data.toList.map fun b => (Value.int .u8 (b.toNat : Int))) (i := i) (n := 1) (j := 0) (by omega)
          refine this.trans ?_
          simp only [Nat.mul_one, Nat.add_zero, List.getElem?_map, List.getElem?_eq_getElem hi', Option.map_some, List.getElem?_cons_zero, bytesOf, List.getElem_map]
        · rw [List.getElem?_eq_none (by simp only [seg, List.length_take, Ty.n]; omega), List.getElem?_eq_none (by simp; omega)]
      rw [this]
      exact ⟨rfl, fun _ => rfl⟩
  | row e' =>
    have := cast?_eq hm
    cases this
    obtain ⟨cs2, f2, T2, t2, r1, r2, r3, r4⟩ := rd
    obtain ⟨A, cap, cm, q1, q2, q3, q4⟩ := r4.all r3
    have hv : ev tm y = .slice A m.length cap := by rw [r1, q1]; rfl
    obtain ⟨dd, hd, hdd⟩ := tok_by (he t' _ hE')
    refine append_end (cm := cm) (Te2 := fun _ => Em) hop hcl hts has k1' ht hte hd hdd hbase hgo ?_ q2 ?_ (segs_one (ξ := ξ) (w := w) q2 fun i hi => ?_) (fun i hi => ?_) (fun _ => Sb.em _) (fun _ _ _ => Dj.em _) (Dj.em' _) hb
    · rw [hv]; simp [Builtin.lenOf]
    · rw [hv]; exact first_any q2 q3
    · obtain ⟨g', T3, z1, _, z2, _⟩ := q4 i hi; exact ⟨g', T3, z1, z2⟩
    · obtain ⟨g', T3, z1, _, z2, _⟩ := q4 i hi; exact z2.flatAny z1 hfl
  | _ =>
    have := cast?_eq hm
    simp at this
theorem op_append_deep {o : Oper} {c : Call} {t t' : TypeId} {e : Ty} {g f2 : Fl} {l m : List e.T} {x y : Operand} {σ1 σ2 : St} (he : EOk P E) (h : SA T0 ξ0 w0 tk Em ξ w σ tm) (hop : o.op = .call c) (hcl : c.callee = .builtin .append) (hts : c.argTypes.toList = [t, t']) (has : c.args.toList = [x, y])
    (hx : takeV E σ t x = some (⟨.row e, l⟩, .own g, σ1)) (hE : E.of t = some (.row e)) (hy : takeV E σ1 t' y = some (⟨.row e, m⟩, f2, σ2)) (hE' : E.of t' = some (.row e)) (hb : (l.length + m.length) * e.by ≤ rowMax) :
    Gd P T0 ξ0 w0 σ2 tm (execOp (ev tm) o) (.d (.row e) (l ++ m) (.own (if f2 = .own g then g else .ro))) w := by
  obtain ⟨tk1, T1, cs, k1, k2, k3, k4, k5, _⟩ := takeV_ok h hx
  obtain ⟨tk2, T2, cs2, m1, m2, m3, m4, m5, _⟩ := takeV_ok (k1.drop (un_em' _)) hy
  obtain ⟨te, ht, hte⟩ := (he t _ hE).row
  obtain ⟨dd, hd, hdd⟩ := tok_by (he t' _ hE')
  have hgo : g.ok e = true := by simpa [Fl.ok] using k5
  have hbase : Rel ξ w (.row e) (.own g) l [ev tm x] T1 := by rw [k3, ← row_val k4]; exact k4
  obtain ⟨A, cap, cm, q1, q2, q3, q4⟩ := m4.all m5
  have hv : ev tm y = .slice A m.length cap := by rw [m3, q1]; rfl
  have hlen : (Builtin.lenOf (ev tm y)).run P w = .ok m.length w := by rw [hv]; simp [Builtin.lenOf]
  have hfirst : ∀ w', w'.heap = w.heap → (Builtin.firstCells e.n m.length (ev tm y)).run P w' = .ok cm.toArray w' := by rw [hv]; exact first_any q2 q3
  have hone : ∀ v ∈ cm, v.oneCell' = true := segs_one (ξ := ξ) (w := w) q2 fun i hi => by obtain ⟨g', T3, z1, _, z2, _⟩ := q4 i hi; exact ⟨g', T3, z1, z2⟩
  have dj : Dj T1 T2 := Dj.symm m2
  by_cases hf : f2 = .own g
  · subst hf
    rw [if_pos rfl]
    rcases m4 with ⟨hl0, _⟩ | ⟨a, cap', c', t'', fz, Te, hl1, h2, h3, h4, h5, h6, h7, h8, h9, h10, h11⟩
    · subst hl0
      exact append_end (cm := cm) (Te2 := fun _ => Em) (T2 := T2) hop hcl hts has m1 ht hte hd hdd hbase hgo hlen q2 hfirst hone (fun i hi => by simp at hi) (fun _ => Sb.em _) (fun _ _ _ => Dj.em _) dj hb
    · rw [q1] at hl1
      simp only [List.cons.injEq, Value.slice.injEq, and_true] at hl1
      obtain ⟨rfl, _, rfl⟩ := hl1
      refine append_end (cm := cm) (Te2 := Te) (T2 := T2) hop hcl hts has m1 ht hte hd hdd hbase hgo hlen q2 hfirst hone (fun i hi => ?_) (fun i => (h9 i).1) h10 dj hb
      obtain ⟨ci, z1, z2, z3⟩ := h11 i hi
      have hq : CAt w a.block (a.off + i * e.n) (seg cm e.n i) := by
        intro j v hv
        have hjn : j < e.n := by
          have := (List.getElem?_eq_some_iff.1 hv).1
          rwa [seg_len q2 hi] at this
        rw [seg_get hjn] at hv
        obtain ⟨a', e1, _, e2⟩ := q3 _ v hv
        cases e1
        rwa [Nat.add_assoc]
      rw [← z2.eq hq (by rw [z1, seg_len q2 hi])]
      exact z3
  · rw [if_neg hf]
    obtain ⟨Ta, Tc, i1, i2, i3, i4⟩ := hbase.inner hgo
    have hA := m1.freeze (T' := Un Ta T2) (Sb.both i1 (Sb.refl _))
    have hTc : Sb Tc T1 := i2
    have up := frz_ge ξ w (Un Ta T2)
    have cov : ∀ b c t fz, (Un Ta T2) b → w.heap[b]? = some (.cells c t fz) → c.size ≤ frz ξ w (Un Ta T2) b := fun b c t fz hb hc => frz_cells hb hc
    -- outside of what is frozen nothing turns
    have hb1 : Rel (frz ξ w (fun b => Ta b)) w (.row e) (.own .ro) l [ev tm x] Tc := i4 _ (frz_ge ξ w _) (fun b hb => frz_not hb) (fun b c t fz hb hc => frz_cells hb hc)
    have kp : Keep Tc (frz ξ w (fun b => Ta b)) w (frz ξ w (Un Ta T2)) w := by
      refine ⟨fun b hb => ⟨rfl, ?_⟩, fun _ _ _ _ h => h, fun b => ?_⟩
      · rw [frz_not (fun x => i3 b x hb), frz_not (fun x => x.elim (fun x => i3 b x hb) (fun x => dj b (hTc b hb) x))]
      · unfold frz
        by_cases hx : Ta b
        · rw [if_pos hx, if_pos (.inl hx)]; exact Nat.le_refl _
        · rw [if_neg hx]; exact frz_ge ξ w (Un Ta T2) b
    have hb2 := hb1.keep kp
    have hrow2 : Rel (frz ξ w (Un Ta T2)) w (.row e) .ro m cs2 Em := m4.freeze up m5 fun b c t fz hb hc => cov b c t fz (.inr hb) hc
    obtain ⟨A', cap', cm', p1, p2, p3, p4⟩ := hrow2.all rfl
    rw [q1] at p1
    simp only [List.cons.injEq, Value.slice.injEq, and_true] at p1
    obtain ⟨rfl, _, rfl⟩ := p1
    have hcmeq : cm' = cm := by
      apply List.ext_getElem?
      intro j
      by_cases hj : j < m.length * e.n
      · rw [List.getElem?_eq_getElem (by rw [p2]; exact hj), List.getElem?_eq_getElem (by rw [q2]; exact hj)]
        obtain ⟨a1, e1, _, e2⟩ := p3 j _ (List.getElem?_eq_getElem (by rw [p2]; exact hj))
        obtain ⟨a2, e3, _, e4⟩ := q3 j _ (List.getElem?_eq_getElem (by rw [q2]; exact hj))
        rw [e1] at e3
        cases e3
        rw [e2] at e4
        exact e4
      · rw [List.getElem?_eq_none (by rw [p2]; omega), List.getElem?_eq_none (by rw [q2]; omega)]
    subst hcmeq
    refine append_end (cm := cm') (Te2 := fun _ => Em) (T2 := Em) hop hcl hts has (hA.drop ?_) ht hte hd hdd hb2 (ok_ro e) hlen q2 hfirst hone (fun i hi => ?_) (fun _ => Sb.em _) (fun _ _ _ => Dj.em _) (Dj.em' _) hb
    · intro b hb
      rcases hb with hb | hb
      · exact ⟨.inl (hTc b hb), fun x => x.elim (fun x => i3 b x hb) (fun x => dj b (hTc b hb) x)⟩
      · exact hb.elim
    · obtain ⟨_, _, _, _, _, z⟩ := p4 i hi
      exact z rfl
theorem op_len {o : Oper} {c : Call} {t : TypeId} {x : Operand} {n : Int} (hop : o.op = .call c) (hcl : c.callee = .builtin .len) (hts : c.argTypes.toList = [t]) (has : c.args.toList = [x]) (h : SA T0 ξ0 w0 tk Em ξ w σ tm)
    (hv : (∃ s, ev tm x = .string s ∧ P.underlying t = some .string ∧ n = s.size) ∨ (∃ A l cap te, ev tm x = .slice A l cap ∧ P.underlying t = some (.slice te) ∧ n = l)) : Gd P T0 ξ0 w0 σ tm (execOp (ev tm) o) (.d (.int .i64) n .ro) w := by
  have eT : c.argTypes = #[t] := Array.ext' hts
  have eA : c.args = #[x] := Array.ext' has
  refine Gd.pure h (v := .int .i64 n) ?_ (own_leaf rfl ⟨rfl, fun _ => rfl⟩) trivial
  rw [exec_builtin hop hcl, eT, eA]
  have e2 : (#[x] : Array Operand).map (ev tm) = #[ev tm x] := by simp
  rw [e2]
  rcases hv with ⟨s, h1, h2, rfl⟩ | ⟨A, l, cap, te, h1, h2, rfl⟩
  · rw [h1]; simp [Go.builtin, Builtin.len_, run_underlying h2, goInt]
  · rw [h1]; simp [Go.builtin, Builtin.len_, run_underlying h2, goInt]
theorem op_min {o : Oper} {c : Call} {t t' : TypeId} {x y : Operand} {k : IntKind} {a b : Int} (hop : o.op = .call c) (hcl : c.callee = .builtin .min) (hts : c.argTypes.toList = [t, t']) (has : c.args.toList = [x, y]) (h : SA T0 ξ0 w0 tk Em ξ w σ tm)
    (hx : ev tm x = .int k a) (hy : ev tm y = .int k b) : Gd P T0 ξ0 w0 σ tm (execOp (ev tm) o) (.d (.int k) (if b < a then b else a) .ro) w := by
  have eT : c.argTypes = #[t, t'] := Array.ext' hts
  have eA : c.args = #[x, y] := Array.ext' has
  refine Gd.pure h (v := .int k (if b < a then b else a)) ?_ (own_leaf rfl ⟨rfl, fun _ => rfl⟩) trivial
  rw [exec_builtin hop hcl, eT, eA]
  have e2 : (#[x, y] : Array Operand).map (ev tm) = #[ev tm x, ev tm y] := by simp
  rw [e2, hx, hy]
  simp [Go.builtin, run_min_int2]
theorem op_max {o : Oper} {c : Call} {t t' : TypeId} {x y : Operand} {k : IntKind} {a b : Int} (hop : o.op = .call c) (hcl : c.callee = .builtin .max) (hts : c.argTypes.toList = [t, t']) (has : c.args.toList = [x, y]) (h : SA T0 ξ0 w0 tk Em ξ w σ tm)
    (hx : ev tm x = .int k a) (hy : ev tm y = .int k b) : Gd P T0 ξ0 w0 σ tm (execOp (ev tm) o) (.d (.int k) (if b > a then b else a) .ro) w := by
  have eT : c.argTypes = #[t, t'] := Array.ext' hts
  have eA : c.args = #[x, y] := Array.ext' has
  refine Gd.pure h (v := .int k (if b > a then b else a)) ?_ (own_leaf rfl ⟨rfl, fun _ => rfl⟩) trivial
  rw [exec_builtin hop hcl, eT, eA]
  have e2 : (#[x, y] : Array Operand).map (ev tm) = #[ev tm x, ev tm y] := by simp
  rw [e2, hx, hy]
  simp [Go.builtin, run_max_int2]
theorem op_builtin {o : Oper} {c : Call} {b : Builtin} {g : Bool} {a : AV} {σ' : St} (he : EOk P E) (h : SA T0 ξ0 w0 tk Em ξ w σ tm) (hop : o.op = .call c) (hcl : c.callee = .builtin b) (hd : builtin1 E σ b c.argTypes.toList c.args.toList = some (g, a, σ')) (hg : g = true) :
    Gd P T0 ξ0 w0 σ' tm (execOp (ev tm) o) a w := by
  generalize hts : c.argTypes.toList = ts at hd
  generalize has : c.args.toList = as at hd
  unfold builtin1 at hd
  split at hd
  · -- len
    split at hd
    · rename_i s hr
      split at hd
      · cases hd
      rename_i hE
      simp only [ne_eq, Decidable.not_not] at hE
      simp only [Option.some.injEq, Prod.mk.injEq] at hd
      obtain ⟨_, rfl, rfl⟩ := hd
      exact op_len hop hcl hts has h (.inl ⟨s, (rdT_ok h hr).str, (he _ _ hE).str, rfl⟩)
    · rename_i e l hr
      split at hd
      · cases hd
      rename_i hE
      simp only [ne_eq, Decidable.not_not] at hE
      simp only [Option.some.injEq, Prod.mk.injEq] at hd
      obtain ⟨_, rfl, rfl⟩ := hd
      obtain ⟨cs, f, T', t2, r1, r2, r3, r4⟩ := rdT_ok h hr
      obtain ⟨A, cap, cm, q1, _⟩ := r4.all r3
      obtain ⟨te, u1, _⟩ := (he _ _ hE).row
      exact op_len hop hcl hts has h (.inr ⟨A, l.length, cap, te, by rw [r1, q1]; rfl, u1, rfl⟩)
    · cases hd
  · -- append
    split at hd
    case h_2 => cases hd
    rename_i e l g0 σ1 hx
    split at hd
    · cases hd
    rename_i hE
    simp only [ne_eq, Decidable.not_not] at hE
    split at hd
    · rename_i hfl
      split at hd
      case h_2 => cases hd
      rename_i s hy
      split at hd
      · cases hd
      rename_i hE'
      simp only [ne_eq, Decidable.not_not] at hE'
      split at hd
      case h_2 => cases hd
      rename_i m hm
      simp only [Option.some.injEq, Prod.mk.injEq] at hd
      obtain ⟨rfl, rfl, rfl⟩ := hd
      exact op_append_flat he h hop hcl hts has hx hE hfl hy hE' hm (of_decide_eq_true hg)
    · rename_i hfl
      split at hd
      case h_2 => cases hd
      rename_i s f2 σ2 hy
      split at hd
      · cases hd
      rename_i hE'
      simp only [ne_eq, Decidable.not_not] at hE'
      split at hd
      case h_2 => cases hd
      rename_i m hm
      simp only [Option.some.injEq, Prod.mk.injEq] at hd
      obtain ⟨rfl, rfl, rfl⟩ := hd
      cases cast?_eq hm
      exact op_append_deep he h hop hcl hts has hx hE hy hE' (of_decide_eq_true hg)
  · -- min
    split at hd
    case h_2 => cases hd
    rename_i k1 a1 j1 b1 hx hy
    split at hd
    case isFalse => cases hd
    rename_i hk
    subst hk
    simp only [Option.some.injEq, Prod.mk.injEq] at hd
    obtain ⟨_, rfl, rfl⟩ := hd
    exact op_min hop hcl hts has h (rdv_ok h hx).int (rdv_ok h hy).int
  · -- max
    split at hd
    case h_2 => cases hd
    rename_i k1 a1 j1 b1 hx hy
    split at hd
    case isFalse => cases hd
    rename_i hk
    subst hk
    simp only [Option.some.injEq, Prod.mk.injEq] at hd
    obtain ⟨_, rfl, rfl⟩ := hd
    exact op_max hop hcl hts has h (rdv_ok h hx).int (rdv_ok h hy).int
  · cases hd
end
end Go.Proofs.Ytabindnaedchgaa.Rf
