import Derived.Test.YtjfkeknnjjlepaaGreatDoorK1
import Derived.IntWalk

section
/- Operations: builtins. Nothing of any program. -/
namespace Go.Proofs.YtjfkeknnjjlepaaGreatDoor.Rf
open Go Go.RowKit
set_option linter.unusedVariables false
set_option linter.unusedSimpArgs false
section
variable {P : Program} {E : q6f} {T0 : Bs} {ξ0 : Im} {w0 : World} {tk : Nat → Bs} {Tf : Bs} {ξ : Im} {w : World} {σ : St} {tm : Array Value}
theorem q7f {o : Oper} {c : Call} {b : Builtin} {ρ : Operand → Value} (hop : o.op = .call c) (hc : c.callee = .builtin b) :
    execOp ρ o = Go.builtin b c.argTypes o.type (c.args.map fun | .const _ => true | _ => false) (c.args.map ρ) := by
  simp only [execOp, hop, resolve, hc]
  rfl
theorem qpf {e : Ty} {f : Fl} {l : List e.T} {cs : List Value} {T : Bs} (h : Rel ξ w (.row e) f l cs T) : cs = [mkV (.row e) cs] := by
  have := h.len
  match cs, this with
  | [v], _ => rfl
theorem qmc {e : Ty} {l : List e.T} {cm : List Value} (hcm : cm.length = l.length * e.n) (h : ∀ i (hi : i < l.length), ∃ g : Fl, ∃ T' : Bs, g.ok e = true ∧ Rel ξ w e g l[i] (seg cm e.n i) T') : ∀ v ∈ cm, v.oneCell' = true := by
  intro v hv
  obtain ⟨j, hj0, rfl⟩ := List.mem_iff_getElem.1 hv
  have hn := e.n_pos
  have hj := hj0
  rw [hcm] at hj
  have hi : j / e.n < l.length := Nat.div_lt_of_lt_mul (by rwa [Nat.mul_comm])
  obtain ⟨g, T', k1, k2⟩ := h _ hi
  refine k2.cells1 k1 _ ?_
  have hm := Nat.mod_lt j hn
  have e1 : j / e.n * e.n + j % e.n = j := by have := Nat.div_add_mod j e.n; rw [Nat.mul_comm] at this; omega
  have := q6d (cm := cm) (i := j / e.n) hm
  rw [e1, List.getElem?_eq_getElem (l := cm) hj0] at this
  exact List.mem_of_getElem? this
theorem qj7 {e : Ty} {A : Option Addr} {cap n len : Nat} {cm : List Value} (hl : cm.length = n * e.n) (hc : ∀ j v, cm[j]? = some v → ∃ a, A = some a ∧ a.spot = none ∧ w.cell? ⟨a.block, a.off + j, none⟩ = some v) :
    ∀ w', w'.heap = w.heap → (Builtin.firstCells e.n n (.slice A len cap)).run P w' = .ok cm.toArray w' := fun w' hw =>
  qj4 hl fun j v hj => by
    obtain ⟨a, h1, h2, h3⟩ := hc j v hj
    exact ⟨a, h1, h2, (q81 (by rw [hw]) _).trans h3⟩
theorem qu4 {e : Ty} {t : TypeId} (h : tok P (.row e) t) : ∃ dd, P.underlying t = some dd ∧ (dd = .string ∨ ∃ y, dd = .slice y) := by
  obtain ⟨te, h1, _⟩ := h.row
  exact ⟨_, h1, .inr ⟨te, rfl⟩⟩
theorem q8v {o : Oper} {c : Call} {t t' te : TypeId} {e : Ty} {g : Fl} {l m : List e.T} {x y : Operand} {Tb T2 : Bs} {Te2 : Nat → Bs} {cm : List Value} {dd : TypeDesc} (hop : o.op = .call c) (hcl : c.callee = .builtin .append) (hts : c.argTypes.toList = [t, t']) (has : c.args.toList = [x, y])
    (h : SA T0 ξ0 w0 tk (Un Tb T2) ξ w σ tm) (ht : P.underlying t = some (.slice te)) (hte : tok P e te) (hd : P.underlying t' = some dd) (hdd : dd = .string ∨ ∃ y, dd = .slice y)
    (hl : Rel ξ w (.row e) (.own g) l [ev tm x] Tb) (hgo : g.ok e = true)
    (hlen : (Builtin.lenOf (ev tm y)).run P w = .ok m.length w) (hcm : cm.length = m.length * e.n) (hfirst : ∀ w', w'.heap = w.heap → (Builtin.firstCells e.n m.length (ev tm y)).run P w' = .ok cm.toArray w') (h1 : ∀ v ∈ cm, v.oneCell' = true)
    (hel : ∀ i (hi : i < m.length), Rel ξ w e g m[i] (seg cm e.n i) (Te2 i)) (s2 : ∀ i, Sb (Te2 i) T2) (d2 : ∀ i j, i ≠ j → Dj (Te2 i) (Te2 j)) (dj : Dj Tb T2) (hb : (l.length + m.length) * e.by ≤ q1m) :
    Gd P T0 ξ0 w0 σ tm (execOp (ev tm) o) (.d (.row e) (l ++ m) (.own g)) w := by
  obtain ⟨v, w', T', k1, k2, k3, k4, k5⟩ := qlc (ty := o.type) ht hte hd hdd h.wf (fun b hb => (h.mayf b (.inl hb)).2) (fun b hb => (h.mayf b (.inr hb)).2) hl hgo hlen hcm hfirst h1 hel s2 d2 dj hb
  have eT : c.argTypes = #[t, t'] := Array.ext' hts
  have eA : c.args = #[x, y] := Array.ext' has
  refine ⟨v, w', ξ, tk, T', .inl ?_, h.step k2 (Sb.l _ _) k3 (fun b hb => ⟨(k5 b hb).1.elim (fun x => .inl (.inl x)) (fun x => x.imp .inr id), (k5 b hb).2⟩), ⟨[v], rfl, k4⟩, trivial⟩
  rw [q7f hop hcl, eT, eA]
  have e2 : (#[x, y] : Array Operand).map (ev tm) = #[ev tm x, ev tm y] := by simp
  rw [e2]
  simp only [Go.builtin, Sem.run_bind, k1, Result.andThen, Sem.run_pure]
theorem qgc {o : Oper} {c : Call} {t t' : TypeId} {e : Ty} {g : Fl} {l m : List e.T} {x y : Operand} {σ' : St} {s : Sv} (he : EOk P E ξ0 w0) (h : SA T0 ξ0 w0 tk Em ξ w σ tm) (hop : o.op = .call c) (hcl : c.callee = .builtin .append) (hts : c.argTypes.toList = [t, t']) (has : c.args.toList = [x, y])
    (hx : q8p E σ t x = some (⟨.row e, l⟩, .own g, σ')) (hE : E.of t = some (.row e)) (hfl : e.flat = true) (hy : rdT E σ' t' y = some s) (hE' : E.of t' = some s.1)
    (hm : qp1 e s = some m) (hb : (l.length + m.length) * e.by ≤ q1m) :
    Gd P T0 ξ0 w0 σ' tm (execOp (ev tm) o) (.d (.row e) (l ++ m) (.own g)) w := by
  obtain ⟨tk', T', cs, k1, k2, k3, k4, k5, _⟩ := q8b h hx
  have k1' : SA T0 ξ0 w0 tk' (Un T' Em) ξ w σ' tm := k1.drop (Sb.un (Sb.r _ _) (Sb.em _))
  obtain ⟨te, ht, hte⟩ := (he.ty t _ hE).row
  have hgo : g.ok e = true := by simpa [Fl.ok] using k5
  have hbase : Rel ξ w (.row e) (.own g) l [ev tm x] T' := by rw [k3, ← qpf k4]; exact k4
  have rd := qp8 k1 hy
  obtain ⟨τ, s⟩ := s
  cases τ with
  | str =>
    have hv := rd.str
    have := q5a hm
    simp only [sv, Sigma.mk.injEq, Ty.row.injEq] at this
    obtain ⟨he8, hme⟩ := this
    subst he8
    have hme' : m = bytesOf s := (eq_of_heq hme).symm
    subst hme'
    have hbs : (bytesOf s).length = s.size := by simp only [bytesOf, List.length_map, Array.length_toList]; rfl
    have hcm : (s.data.toList.map fun b => (Value.int .u8 (b.toNat : Int))).length = (bytesOf s).length * (Ty.int .u8).n := by simp [bytesOf, Ty.n]
    refine q8v (cm := s.data.toList.map fun b => (Value.int .u8 (b.toNat : Int))) (Te2 := fun _ => Em) hop hcl hts has k1' ht hte (he.ty t' _ hE').str (.inl rfl) hbase hgo ?_ hcm ?_ ?_ ?_ (fun _ => Sb.em _) (fun _ _ _ => Dj.em _) (Dj.em' _) hb
    · rw [hv, hbs]; rfl
    · intro w' _
      rw [hv]
      simp only [Builtin.firstCells, Sem.run_pure, hbs]
      congr 1
      apply Array.ext'
      have e3 : (s.extract 0 s.size).data = s.data := by simp
      rw [e3, Array.toList_map, List.toList_toArray]
    · intro v hv'
      simp only [List.mem_map] at hv'
      obtain ⟨b, _, rfl⟩ := hv'
      rfl
    · intro i hi
      have hi' : i < s.data.toList.length := by simpa [bytesOf] using hi
      have : seg (s.data.toList.map fun b => (Value.int .u8 (b.toNat : Int))) (Ty.int .u8).n i = [.int .u8 ((bytesOf s)[i])] := by
        apply List.ext_getElem?
        intro j
        by_cases hj : j < 1
        · have : j = 0 := by omega
          subst this
          have := q6d (cm := s.data.toList.map fun b => (Value.int .u8 (b.toNat : Int))) (i := i) (n := 1) (j := 0) (by omega)
          refine this.trans ?_
          simp only [Nat.mul_one, Nat.add_zero, List.getElem?_map, List.getElem?_eq_getElem hi', Option.map_some, List.getElem?_cons_zero, bytesOf, List.getElem_map]
        · rw [List.getElem?_eq_none (by simp only [seg, List.length_take, Ty.n]; omega), List.getElem?_eq_none (by simp; omega)]
      rw [this]
      exact ⟨rfl, fun _ => rfl⟩
  | row e' =>
    have := q5a hm
    cases this
    obtain ⟨cs2, f2, T2, t2, r1, r2, r3, r4⟩ := rd
    obtain ⟨A, cap, cm, q1, q2, q3, q4⟩ := r4.all r3
    have hv : ev tm y = .slice A m.length cap := by rw [r1, q1]; rfl
    obtain ⟨dd, hd, hdd⟩ := qu4 (he.ty t' _ hE')
    refine q8v (cm := cm) (Te2 := fun _ => Em) hop hcl hts has k1' ht hte hd hdd hbase hgo ?_ q2 ?_ (qmc (ξ := ξ) (w := w) q2 fun i hi => ?_) (fun i hi => ?_) (fun _ => Sb.em _) (fun _ _ _ => Dj.em _) (Dj.em' _) hb
    · rw [hv]; simp [Builtin.lenOf]
    · rw [hv]; exact qj7 q2 q3
    · obtain ⟨g', T3, z1, _, z2, _⟩ := q4 i hi; exact ⟨g', T3, z1, z2⟩
    · obtain ⟨g', T3, z1, _, z2, _⟩ := q4 i hi; exact z2.flatAny z1 hfl
  | _ =>
    have := q5a hm
    simp at this
theorem qgd {o : Oper} {c : Call} {t t' : TypeId} {e : Ty} {g f2 : Fl} {l m : List e.T} {x y : Operand} {σ1 σ2 : St} (he : EOk P E ξ0 w0) (h : SA T0 ξ0 w0 tk Em ξ w σ tm) (hop : o.op = .call c) (hcl : c.callee = .builtin .append) (hts : c.argTypes.toList = [t, t']) (has : c.args.toList = [x, y])
    (hx : q8p E σ t x = some (⟨.row e, l⟩, .own g, σ1)) (hE : E.of t = some (.row e)) (hy : q8p E σ1 t' y = some (⟨.row e, m⟩, f2, σ2)) (hE' : E.of t' = some (.row e)) (hb : (l.length + m.length) * e.by ≤ q1m) :
    Gd P T0 ξ0 w0 σ2 tm (execOp (ev tm) o) (.d (.row e) (l ++ m) (.own (if f2 = .own g then g else .ro))) w := by
  obtain ⟨tk1, T1, cs, k1, k2, k3, k4, k5, _⟩ := q8b h hx
  obtain ⟨tk2, T2, cs2, m1, m2, m3, m4, m5, _⟩ := q8b (k1.drop (qf1 _)) hy
  obtain ⟨te, ht, hte⟩ := (he.ty t _ hE).row
  obtain ⟨dd, hd, hdd⟩ := qu4 (he.ty t' _ hE')
  have hgo : g.ok e = true := by simpa [Fl.ok] using k5
  have hbase : Rel ξ w (.row e) (.own g) l [ev tm x] T1 := by rw [k3, ← qpf k4]; exact k4
  obtain ⟨A, cap, cm, q1, q2, q3, q4⟩ := m4.all m5
  have hv : ev tm y = .slice A m.length cap := by rw [m3, q1]; rfl
  have hlen : (Builtin.lenOf (ev tm y)).run P w = .ok m.length w := by rw [hv]; simp [Builtin.lenOf]
  have hfirst : ∀ w', w'.heap = w.heap → (Builtin.firstCells e.n m.length (ev tm y)).run P w' = .ok cm.toArray w' := by rw [hv]; exact qj7 q2 q3
  have hone : ∀ v ∈ cm, v.oneCell' = true := qmc (ξ := ξ) (w := w) q2 fun i hi => by obtain ⟨g', T3, z1, _, z2, _⟩ := q4 i hi; exact ⟨g', T3, z1, z2⟩
  have dj : Dj T1 T2 := Dj.symm m2
  by_cases hf : f2 = .own g
  · subst hf
    rw [if_pos rfl]
    rcases m4 with ⟨hl0, _⟩ | ⟨a, cap', c', t'', fz, Te, hl1, h2, h3, h4, h5, h6, h7, h8, h9, h10, h11⟩
    · subst hl0
      exact q8v (cm := cm) (Te2 := fun _ => Em) (T2 := T2) hop hcl hts has m1 ht hte hd hdd hbase hgo hlen q2 hfirst hone (fun i hi => by simp at hi) (fun _ => Sb.em _) (fun _ _ _ => Dj.em _) dj hb
    · rw [q1] at hl1
      simp only [List.cons.injEq, Value.slice.injEq, and_true] at hl1
      obtain ⟨rfl, _, rfl⟩ := hl1
      refine q8v (cm := cm) (Te2 := Te) (T2 := T2) hop hcl hts has m1 ht hte hd hdd hbase hgo hlen q2 hfirst hone (fun i hi => ?_) (fun i => (h9 i).1) h10 dj hb
      obtain ⟨ci, z1, z2, z3⟩ := h11 i hi
      have hq : CAt w a.block (a.off + i * e.n) (seg cm e.n i) := by
        intro j v hv
        have hjn : j < e.n := by
          have := (List.getElem?_eq_some_iff.1 hv).1
          rwa [qbg q2 hi] at this
        rw [q6d hjn] at hv
        obtain ⟨a', e1, _, e2⟩ := q3 _ v hv
        cases e1
        rwa [Nat.add_assoc]
      rw [← z2.eq hq (by rw [z1, qbg q2 hi])]
      exact z3
  · rw [if_neg hf]
    obtain ⟨Ta, Tc, i1, i2, i3, i4⟩ := hbase.inner hgo
    have hA := m1.freeze (T' := Un Ta T2) (Sb.both i1 (Sb.refl _))
    have hTc : Sb Tc T1 := i2
    have up := q9s ξ w (Un Ta T2)
    have cov : ∀ b c t fz, (Un Ta T2) b → w.heap[b]? = some (.cells c t fz) → c.size ≤ frz ξ w (Un Ta T2) b := fun b c t fz hb hc => q8s hb hc
    -- outside of what is frozen nothing turns
    have hb1 : Rel (frz ξ w (fun b => Ta b)) w (.row e) (.own .ro) l [ev tm x] Tc := i4 _ (q9s ξ w _) (fun b hb => q65 hb) (fun b c t fz hb hc => q8s hb hc)
    have kp : q9y Tc (frz ξ w (fun b => Ta b)) w (frz ξ w (Un Ta T2)) w := by
      refine ⟨fun b hb => ⟨rfl, ?_⟩, fun _ _ _ _ h => h, fun b => ?_⟩
      · rw [q65 (fun x => i3 b x hb), q65 (fun x => x.elim (fun x => i3 b x hb) (fun x => dj b (hTc b hb) x))]
      · unfold frz
        by_cases hx : Ta b
        · rw [if_pos hx, if_pos (.inl hx)]; exact Nat.le_refl _
        · rw [if_neg hx]; exact q9s ξ w (Un Ta T2) b
    have hb2 := hb1.keep kp
    have hrow2 : Rel (frz ξ w (Un Ta T2)) w (.row e) .ro m cs2 Em := m4.freeze up m5 fun b c t fz hb hc => cov b c t fz (.inr hb) hc
    obtain ⟨A', cap', cm', p1, p2, p3, p4⟩ := hrow2.all rfl
    rw [q1] at p1
    simp only [List.cons.injEq, Value.slice.injEq, and_true] at p1
    obtain ⟨rfl, _, rfl⟩ := p1
    have hcmeq : cm' = cm := by
      apply List.ext_getElem?
      intro j
      by_cases hj : j < m.length * e.n
      · rw [List.getElem?_eq_getElem (by rw [p2]; exact hj), List.getElem?_eq_getElem (by rw [q2]; exact hj)]
        obtain ⟨a1, e1, _, e2⟩ := p3 j _ (List.getElem?_eq_getElem (by rw [p2]; exact hj))
        obtain ⟨a2, e3, _, e4⟩ := q3 j _ (List.getElem?_eq_getElem (by rw [q2]; exact hj))
        rw [e1] at e3
        cases e3
        rw [e2] at e4
        exact e4
      · rw [List.getElem?_eq_none (by rw [p2]; omega), List.getElem?_eq_none (by rw [q2]; omega)]
    subst hcmeq
    refine q8v (cm := cm') (Te2 := fun _ => Em) (T2 := Em) hop hcl hts has (hA.drop ?_) ht hte hd hdd hb2 (qgb e) hlen q2 hfirst hone (fun i hi => ?_) (fun _ => Sb.em _) (fun _ _ _ => Dj.em _) (Dj.em' _) hb
    · intro b hb
      rcases hb with hb | hb
      · exact ⟨.inl (hTc b hb), fun x => x.elim (fun x => i3 b x hb) (fun x => dj b (hTc b hb) x)⟩
      · exact hb.elim
    · obtain ⟨_, _, _, _, _, z⟩ := p4 i hi
      exact z rfl
theorem qu5 {o : Oper} {c : Call} {t : TypeId} {x : Operand} {n : Int} (hop : o.op = .call c) (hcl : c.callee = .builtin .len) (hts : c.argTypes.toList = [t]) (has : c.args.toList = [x]) (h : SA T0 ξ0 w0 tk Em ξ w σ tm)
    (hv : (∃ s, ev tm x = .string s ∧ P.underlying t = some .string ∧ n = s.size) ∨ (∃ A l cap te, ev tm x = .slice A l cap ∧ P.underlying t = some (.slice te) ∧ n = l)) : Gd P T0 ξ0 w0 σ tm (execOp (ev tm) o) (.d (.int .i64) n .ro) w := by
  have eT : c.argTypes = #[t] := Array.ext' hts
  have eA : c.args = #[x] := Array.ext' has
  refine Gd.pure h (v := .int .i64 n) ?_ (q57 rfl ⟨rfl, fun _ => rfl⟩) trivial
  rw [q7f hop hcl, eT, eA]
  have e2 : (#[x] : Array Operand).map (ev tm) = #[ev tm x] := by simp
  rw [e2]
  rcases hv with ⟨s, h1, h2, rfl⟩ | ⟨A, l, cap, te, h1, h2, rfl⟩
  · rw [h1]; simp [Go.builtin, Builtin.len_, run_underlying h2, goInt]
  · rw [h1]; simp [Go.builtin, Builtin.len_, run_underlying h2, goInt]
theorem qwk {o : Oper} {c : Call} {t t' : TypeId} {x y : Operand} {k : IntKind} {a b : Int} (hop : o.op = .call c) (hcl : c.callee = .builtin .min) (hts : c.argTypes.toList = [t, t']) (has : c.args.toList = [x, y]) (h : SA T0 ξ0 w0 tk Em ξ w σ tm)
    (hx : ev tm x = .int k a) (hy : ev tm y = .int k b) : Gd P T0 ξ0 w0 σ tm (execOp (ev tm) o) (.d (.int k) (if b < a then b else a) .ro) w := by
  have eT : c.argTypes = #[t, t'] := Array.ext' hts
  have eA : c.args = #[x, y] := Array.ext' has
  refine Gd.pure h (v := .int k (if b < a then b else a)) ?_ (q57 rfl ⟨rfl, fun _ => rfl⟩) trivial
  rw [q7f hop hcl, eT, eA]
  have e2 : (#[x, y] : Array Operand).map (ev tm) = #[ev tm x, ev tm y] := by simp
  rw [e2, hx, hy]
  simp [Go.builtin, run_min_int2]
theorem qwl {o : Oper} {c : Call} {t t' : TypeId} {x y : Operand} {k : IntKind} {a b : Int} (hop : o.op = .call c) (hcl : c.callee = .builtin .max) (hts : c.argTypes.toList = [t, t']) (has : c.args.toList = [x, y]) (h : SA T0 ξ0 w0 tk Em ξ w σ tm)
    (hx : ev tm x = .int k a) (hy : ev tm y = .int k b) : Gd P T0 ξ0 w0 σ tm (execOp (ev tm) o) (.d (.int k) (if b > a then b else a) .ro) w := by
  have eT : c.argTypes = #[t, t'] := Array.ext' hts
  have eA : c.args = #[x, y] := Array.ext' has
  refine Gd.pure h (v := .int k (if b > a then b else a)) ?_ (q57 rfl ⟨rfl, fun _ => rfl⟩) trivial
  rw [q7f hop hcl, eT, eA]
  have e2 : (#[x, y] : Array Operand).map (ev tm) = #[ev tm x, ev tm y] := by simp
  rw [e2, hx, hy]
  simp [Go.builtin, run_max_int2]
theorem qa8 (s : ByteArray) : (bytesOf s).length = s.size := by simp only [bytesOf, List.length_map, Array.length_toList]; rfl
theorem qv1 {o : Oper} {c : Call} {t t' : TypeId} {u h0 g0 v0 : Nat} {y : Operand} {l l0 : List Int} {g : Fl} {s : ByteArray} (he : tok P (.row (.int .u8)) t) (h : SA T0 ξ0 w0 tk Em ξ w σ tm) (hop : o.op = .call c) (hcl : c.callee = .builtin .copy) (hts : c.argTypes.toList = [t, t']) (has : c.args.toList = [.tmp u, y])
    (hw : σ.av u = .vw (.row (.int .u8)) l0 h0 (some []) g0 v0) (hv0 : σ.valid h0 g0 v0 = true) (ha : σ.av h0 = .d (.row (.int .u8)) l (.own g)) (hy : rdv σ y = some ⟨.str, s⟩) (hg : g ≠ .gone) :
    Gd P T0 ξ0 w0 (σ.turn h0 (.d (.row (.int .u8)) ((bytesOf s).take l.length ++ l.drop s.size) (.own g))) tm (execOp (ev tm) o) (.d (.int .i64) ((min s.size l.length : Nat) : Int) .ro) w := by
  obtain ⟨te, ht, hte⟩ := he.row
  obtain ⟨cs, hu0, hr⟩ := h.at_d ha
  have hu : tm.getD u undef = mkV (.row (.int .u8)) cs := by
    obtain ⟨cs1, f1, T1, m1, m2, m3, m4, m5⟩ := h.at_vw hw hv0
    have hp := m5 [] rfl
    rw [ha] at hp
    obtain ⟨cs0, c1, c3, p1, p2, p3, p4, p5, p6, p7⟩ := hp
    have hc0 : cs0 = cs := q9d p2 hr.len (p1.symm.trans hu0)
    have hl0 : cs0.length = 1 := p2
    have hl1 : cs1.length = 1 := p6
    have : c1 = [] ∧ c3 = [] := by
      rw [p4] at hl0
      simp only [List.length_append] at hl0
      exact ⟨List.length_eq_zero_iff.1 (by omega), List.length_eq_zero_iff.1 (by omega)⟩
    rw [this.1, this.2, List.nil_append, List.append_nil] at p4
    rw [m1, ← hc0, p4]
  have hv := (q78 h hy).str
  have hlt : h0 < σ.length := q9z (by rw [ha]; simp)
  have eT : c.argTypes = #[t, t'] := Array.ext' hts
  have eA : c.args = #[.tmp u, y] := Array.ext' has
  have e2 : (#[.tmp u, y] : Array Operand).map (ev tm) = #[tm.getD u undef, .string s] := by rw [← hv]; simp [ev]
  have hsz : (sizeOf te).run P w = .ok 1 w := hte.size w
  have hb8 : ∀ k : Nat, k ≤ s.size → (s.extract 0 k).data.toList.map (fun b => (Value.int .u8 (b.toNat : Int))) = ((bytesOf s).take k).map (Value.int .u8) := by
    intro k hk
    simp [bytesOf, List.map_take, List.map_map, Function.comp_def]
  generalize hn : min s.size l.length = n
  have hns : n ≤ s.size := by omega
  have hnl : n ≤ l.length := by omega
  have hfirst : (Builtin.firstCells 1 n (.string s)).run P w = .ok (((bytesOf s).take n).map (Value.int .u8)).toArray w := by
    simp only [Builtin.firstCells, Sem.run_pure]
    congr 1
    apply Array.ext'
    rw [Array.toList_map, hb8 n hns]
  have hlen : (Builtin.lenOf (.string s)).run P w = .ok s.size w := rfl
  have hnew : ∀ i (hi : i < l.length), ((bytesOf s).take l.length ++ l.drop s.size)[i]? = some (if i < s.size then (bytesOf s).getD i 0 else l[i]) := by
    intro i hi
    have hbl := qa8 s
    by_cases hc : i < s.size
    · rw [if_pos hc, List.getElem?_append_left (by rw [List.length_take]; omega), List.getElem?_take_of_lt hi, List.getD_eq_getElem?_getD, List.getElem?_eq_getElem (by omega)]
      rfl
    · rw [if_neg hc, List.getElem?_append_right (by rw [List.length_take]; omega), List.getElem?_drop, List.length_take, show s.size + (i - min l.length (bytesOf s).length) = i by omega, List.getElem?_eq_getElem hi]
  have hnl2 : ((bytesOf s).take l.length ++ l.drop s.size).length = l.length := by
    rw [List.length_append, List.length_take, List.length_drop, qa8]; omega
  have run : ∀ A cap w', tm.getD u undef = .slice A l.length cap → (match A with | some a => storeCells a (((bytesOf s).take n).map (Value.int .u8)) | none => pure ()).run P w = .ok () w' →
      (execOp (ev tm) o).run P w = .ok (.value (.int .i64 (n : Int))) w' := by
    intro A cap w' h1 h2
    rw [q7f hop hcl, eT, eA, e2, h1]
    have hm : Nat.min s.size l.length = n := hn
    cases A with
    | none =>
      simp only [Sem.run_pure] at h2
      cases h2
      simp [Go.builtin, Builtin.copy_, run_underlying ht, hlen, hm, hsz, hfirst, goInt, Result.andThen]
    | some a =>
      simp only [List.map_take] at h2
      simp [Go.builtin, Builtin.copy_, run_underlying ht, hlen, hm, hsz, hfirst, goInt, Result.andThen, h2]
  rcases hr with ⟨hl0, hcs⟩ | ⟨a, cap, c0, ty, fz, Te, hcs, h2, h3, h4, h5, h6, h7, h8, h9, h10, h11⟩
  · subst hl0
    have hn0 : n = 0 := by simp at hnl; exact hnl
    subst hn0
    refine ⟨_, w, ξ, _, Em, .inl (run none 0 w (by rw [hu, hcs]; rfl) (by simp)), h.turn (d := h0) (T' := tk h0) (Tf' := Em) (Fr.refl Em ξ w) (Sb.em _) h.wf (by rw [ha]; trivial) ?_ (fun _ => trivial) (fun b hb => ⟨.inl (.inr hb), (h.may h0 b hb).2⟩) (fun b hb => hb.elim) (Dj.em' _) hlt, ⟨[_], rfl, rfl, fun _ => rfl⟩, trivial⟩
    exact ⟨cs, hu0, .inl ⟨by simp, hcs⟩⟩
  · have hone : ∀ v ∈ ((bytesOf s).take n).map (Value.int .u8), v.oneCell' = true := by
      intro v hv
      obtain ⟨x, _, rfl⟩ := List.mem_map.1 hv
      rfl
    have hl1 : (((bytesOf s).take n).map (Value.int .u8)).length = n := by rw [List.length_map, List.length_take, qa8]; omega
    have hcap : a.off + l.length ≤ c0.size := by
      have : l.length * (Ty.int .u8).n ≤ cap * (Ty.int .u8).n := Nat.mul_le_mul_right _ h6
      simp only [Ty.n, Nat.mul_one] at this h7
      omega
    have ea : a = ⟨a.block, a.off, none⟩ := by obtain ⟨x, y, z⟩ := a; simp only at h2; subst h2; rfl
    obtain ⟨w', r1, r2⟩ := q7b (P := P) (b := a.block) (o := a.off) (((bytesOf s).take n).map (Value.int .u8)) 0 h4 h5 (by rw [hl1]; omega) hone
    rw [← ea] at r1
    rw [Nat.add_zero] at r2
    have hb : ξ a.block ≤ a.off := h8
    refine ⟨_, w', ξ, _, Em, .inl (run (some a) cap w' (by rw [hu, hcs]; rfl) r1), h.turn (d := h0) (U := fun i => i = a.block) (T' := tk h0) (Tf' := Em) (r2.fr hb) (fun i hi => hi ▸ .inr h3) ?_ (by rw [ha]; trivial) ?_ (fun _ => trivial) (fun b hb => ⟨.inl (.inr hb), by rw [r2.size]; exact (h.may h0 b hb).2⟩) (fun b hb => hb.elim) (Dj.em' _) hlt, ⟨[_], rfl, rfl, fun _ => rfl⟩, trivial⟩
    · intro i hi; rw [r2.size] at hi; exact h.wf i hi
    · obtain ⟨c2, q1, q2, q3, q4⟩ := r2.at_ c0 ty fz h4
      refine ⟨cs, hu0, .inr ⟨a, cap, c2, ty, fz, Te, by rw [hnl2]; exact hcs, h2, h3, q1, by rw [q2]; exact h5, by rw [hnl2]; exact h6, by rw [q2]; exact h7, h8, h9, h10, fun i hi => ?_⟩⟩
      rw [hnl2] at hi
      have hx := hnew i hi
      rw [List.getElem?_eq_getElem (by rw [hnl2]; exact hi), Option.some.injEq] at hx
      refine ⟨[.int .u8 (if i < s.size then (bytesOf s).getD i 0 else l[i])], rfl, ?_, rfl, fun _ => by rw [hx]⟩
      intro j v hj
      cases j with
      | succ j => simp at hj
      | zero =>
        simp only [List.getElem?_cons_zero, Option.some.injEq] at hj
        subst hj
        simp only [Ty.n, Nat.mul_one, Nat.add_zero]
        by_cases hc : i < s.size
        · rw [if_pos hc, cell_of q1]
          refine q3 i _ ?_
          rw [List.getElem?_map, List.getElem?_take_of_lt (by omega), List.getElem?_eq_getElem (by rw [qa8]; exact hc), List.getD_eq_getElem?_getD, List.getElem?_eq_getElem (by rw [qa8]; exact hc)]
          rfl
        · rw [if_neg hc]
          obtain ⟨c', k1, k2, k3⟩ := h11 i hi
          have hc' : c' = [.int .u8 l[i]] := k3.2 hg
          subst hc'
          have := k2 0 _ rfl
          simp only [Ty.n, Nat.mul_one, Nat.add_zero] at this
          exact r2.cell_oth (.inr (.inr (by rw [hl1]; omega))) this
theorem qny {o : Oper} {c : Call} {b : Builtin} {g : Bool} {a : AV} {σ' : St} (he : EOk P E ξ0 w0) (h : SA T0 ξ0 w0 tk Em ξ w σ tm) (hop : o.op = .call c) (hcl : c.callee = .builtin b) (hd : q5c E σ b c.argTypes.toList c.args.toList = some (g, a, σ')) (hg : g = true) :
    Gd P T0 ξ0 w0 σ' tm (execOp (ev tm) o) a w := by
  generalize hts : c.argTypes.toList = ts at hd
  generalize has : c.args.toList = az at hd
  unfold q5c at hd
  split at hd
  · -- len
    split at hd
    · rename_i s hr
      split at hd
      · cases hd
      rename_i hE
      simp only [ne_eq, Decidable.not_not] at hE
      simp only [Option.some.injEq, Prod.mk.injEq] at hd
      obtain ⟨_, rfl, rfl⟩ := hd
      exact qu5 hop hcl hts has h (.inl ⟨s, (qp8 h hr).str, (he.ty _ _ hE).str, rfl⟩)
    · rename_i e l hr
      split at hd
      · cases hd
      rename_i hE
      simp only [ne_eq, Decidable.not_not] at hE
      simp only [Option.some.injEq, Prod.mk.injEq] at hd
      obtain ⟨_, rfl, rfl⟩ := hd
      obtain ⟨cs, f, T', t2, r1, r2, r3, r4⟩ := qp8 h hr
      obtain ⟨A, cap, cm, q1, _⟩ := r4.all r3
      obtain ⟨te, u1, _⟩ := (he.ty _ _ hE).row
      exact qu5 hop hcl hts has h (.inr ⟨A, l.length, cap, te, by rw [r1, q1]; rfl, u1, rfl⟩)
    · cases hd
  · -- append
    split at hd
    case h_2 => cases hd
    rename_i e l g0 σ1 hx
    split at hd
    · cases hd
    rename_i hE
    simp only [ne_eq, Decidable.not_not] at hE
    split at hd
    · rename_i hfl
      split at hd
      case h_2 => cases hd
      rename_i s hy
      split at hd
      · cases hd
      rename_i hE'
      simp only [ne_eq, Decidable.not_not] at hE'
      split at hd
      case h_2 => cases hd
      rename_i m hm
      simp only [Option.some.injEq, Prod.mk.injEq] at hd
      obtain ⟨rfl, rfl, rfl⟩ := hd
      exact qgc he h hop hcl hts has hx hE hfl hy hE' hm (of_decide_eq_true hg)
    · rename_i hfl
      split at hd
      case h_2 => cases hd
      rename_i s f2 σ2 hy
      split at hd
      · cases hd
      rename_i hE'
      simp only [ne_eq, Decidable.not_not] at hE'
      split at hd
      case h_2 => cases hd
      rename_i m hm
      simp only [Option.some.injEq, Prod.mk.injEq] at hd
      obtain ⟨rfl, rfl, rfl⟩ := hd
      cases q5a hm
      exact qgd he h hop hcl hts has hx hE hy hE' (of_decide_eq_true hg)
  · -- copy
    split at hd
    case h_2 => cases hd
    rename_i l1 h1 g1 v1 hw
    split at hd
    case isFalse => cases hd
    rename_i hv1
    split at hd
    case h_2 => cases hd
    rename_i l0 g0 s0 ha hy
    split at hd
    · cases hd
    rename_i hE
    simp only [ne_eq, Decidable.not_not] at hE
    split at hd
    · cases hd
    rename_i hg0
    simp only [Option.some.injEq, Prod.mk.injEq] at hd
    obtain ⟨_, rfl, rfl⟩ := hd
    exact qv1 (he.ty _ _ hE) h hop hcl hts has hw hv1 ha hy hg0
  · -- min
    split at hd
    case h_2 => cases hd
    rename_i k1 a1 j1 b1 hx hy
    split at hd
    case isFalse => cases hd
    rename_i hk
    subst hk
    simp only [Option.some.injEq, Prod.mk.injEq] at hd
    obtain ⟨_, rfl, rfl⟩ := hd
    exact qwk hop hcl hts has h (q78 h hx).int (q78 h hy).int
  · -- max
    split at hd
    case h_2 => cases hd
    rename_i k1 a1 j1 b1 hx hy
    split at hd
    case isFalse => cases hd
    rename_i hk
    subst hk
    simp only [Option.some.injEq, Prod.mk.injEq] at hd
    obtain ⟨_, rfl, rfl⟩ := hd
    exact qwl hop hcl hts has h (q78 h hx).int (q78 h hy).int
  · cases hd
end
end Go.Proofs.YtjfkeknnjjlepaaGreatDoor.Rf
end

section
/- Operations: cuts, fields, conversions, new rows. Nothing of any program. -/
namespace Go.Proofs.YtjfkeknnjjlepaaGreatDoor.Rf
open Go Go.RowKit
set_option linter.unusedVariables false
set_option linter.unusedSimpArgs false
section
variable {P : Program} {E : q6f} {T0 : Bs} {ξ0 : Im} {w0 : World} {tk : Nat → Bs} {Tf : Bs} {ξ : Im} {w : World} {σ : St} {tm : Array Value}
theorem qv2 {op : UnOp} {t : TypeId} {x : Operand} {o : Oper} {a s : Sv} (h : SA T0 ξ0 w0 tk Em ξ w σ tm) (hop : o.op = .unOp op t x) (hx : rdv σ x = some a) (hs : un1 op a = some s) : Gd P T0 ξ0 w0 σ tm (execOp (ev tm) o) (.d s.1 s.2 .ro) w := by
  have rx := q78 h hx
  obtain ⟨τ, a⟩ := a
  cases τ with
  | int k =>
    have e1 := rx.int
    cases op <;> simp only [un1, Option.some.injEq, reduceCtorEq] at hs
    · subst hs
      exact Gd.pure h (v := .int k (k.wrap (0 - a))) (by simp [execOp, hop, e1, Op.unary, Op.intArith]) (q57 rfl ⟨rfl, fun _ => rfl⟩) trivial
    · subst hs
      exact Gd.pure h (v := .int k (k.wrap (BitVec.ofInt k.bits (if k.signed then -1 else k.max) ^^^ BitVec.ofInt k.bits a).toNat)) (by simp [execOp, hop, e1, Op.unary, Op.intBits]) (q57 rfl ⟨rfl, fun _ => rfl⟩) trivial
  | bool =>
    have e1 := rx.bool
    cases op <;> simp only [un1, Option.some.injEq, reduceCtorEq] at hs
    subst hs
    exact Gd.pure h (v := .bool !a) (by simp [execOp, hop, e1, Op.unary]) (q57 rfl ⟨rfl, fun _ => rfl⟩) trivial
  | _ => cases op <;> simp [un1] at hs
theorem Rel.subrow {e : Ty} {f : Fl} {l : List e.T} {A : Option Addr} {cap : Nat} {T : Bs} (h : Rel ξ w (.row e) f l [.slice A l.length cap] T) (hf : f.ok (.row e) = true) {lo hi : Nat} (h1 : lo ≤ hi) (h2 : hi ≤ l.length) :
    Rel ξ w (.row e) f ((l.take hi).drop lo) [.slice (if cap = lo then A else A.map (·.add (lo * e.n))) (hi - lo) (cap - lo)] T := by
  have hlen : ((l.take hi).drop lo).length = hi - lo := by simp; omega
  have addb : ∀ a : Addr, a.spot = none → a.add (lo * e.n) = ⟨a.block, a.off + lo * e.n, none⟩ := by
    intro a ha
    obtain ⟨b, o, s⟩ := a
    simp only at ha
    subst ha
    unfold Addr.add; split <;> simp_all
  cases f with
  | gone => simp [Fl.ok] at hf
  | pr _ _ => exact h.elim
  | ro =>
    obtain ⟨A', cap', hc, hle, hel⟩ := h
    simp only [List.cons.injEq, Value.slice.injEq, true_and, and_true] at hc
    obtain ⟨rfl, rfl⟩ := hc
    refine ⟨_, cap - lo, by rw [hlen], by omega, fun i hi' => ?_⟩
    rw [hlen] at hi'
    have hil : lo + i < l.length := by omega
    obtain ⟨a, c, r1, r2, r3, r4, r5, r6⟩ := hel (lo + i) hil
    subst r1
    have hne : cap ≠ lo := by omega
    have hx : (lo + i) * e.n = lo * e.n + i * e.n := Nat.add_mul _ _ _
    refine ⟨a.add (lo * e.n), c, by simp [hne], by rw [addb a r2], r3, ?_, ?_, ?_⟩
    · rw [addb a r2]; rw [hx, ← Nat.add_assoc] at r4; exact r4
    · rw [addb a r2]; simp only; omega
    · have : ((l.take hi).drop lo)[i] = l[lo + i] := by simp
      rw [this]; exact r6
  | own g =>
    rcases h with ⟨h0, hc⟩ | ⟨a, cap', c, t, fz, Te, hc, k2, k3, k4, k5, k6, k7, k8, k9, k10, k11⟩
    · subst h0
      simp only [List.cons.injEq, Value.slice.injEq, and_true] at hc
      obtain ⟨rfl, _, rfl⟩ := hc
      left
      simp at h2
      subst h2
      have : lo = 0 := by omega
      subst this
      exact ⟨rfl, rfl⟩
    · simp only [List.cons.injEq, Value.slice.injEq, true_and, and_true] at hc
      obtain ⟨rfl, rfl⟩ := hc
      right
      by_cases he : cap = lo
      · have e1 : (l.take hi).drop lo = [] := List.length_eq_zero_iff.1 (by rw [hlen]; omega)
        refine ⟨a, 0, c, t, fz, fun _ => Em, ?_, k2, k3, k4, k5, by rw [e1]; exact Nat.le_refl _, by omega, k8, fun i => ⟨Sb.em _, fun x => x⟩, fun _ _ _ => Dj.em _, fun i hi' => by rw [e1] at hi'; simp at hi'⟩
        rw [e1, if_pos he]
        simp; omega
      · have hmul : (cap - lo) * e.n + lo * e.n = cap * e.n := by rw [← Nat.add_mul]; congr 1; omega
        refine ⟨a.add (lo * e.n), cap - lo, c, t, fz, fun i => Te (lo + i), ?_, by rw [addb a k2], by rw [addb a k2]; exact k3, by rw [addb a k2]; exact k4, k5, by rw [hlen]; omega, by rw [addb a k2]; simp only; omega, by rw [addb a k2]; simp only; omega,
          fun i => by rw [addb a k2]; exact k9 _, fun i j hij => k10 _ _ (by omega), fun i hi' => ?_⟩
        · rw [hlen, if_neg he]; rfl
        · rw [hlen] at hi'
          have hil : lo + i < l.length := by omega
          obtain ⟨ci, r1, r2, r3⟩ := k11 (lo + i) hil
          have hx : (lo + i) * e.n = lo * e.n + i * e.n := Nat.add_mul _ _ _
          refine ⟨ci, r1, ?_, ?_⟩
          · rw [addb a k2]; rw [hx, ← Nat.add_assoc] at r2; exact r2
          · have : ((l.take hi).drop lo)[i] = l[lo + i] := by simp
            rw [this]; exact r3
theorem qgm {s : Bool} {len cap : Nat} {lo hi : Option Value} {a b : Int} (hlo : (lo = none ∧ a = 0) ∨ ∃ k, lo = some (.int k a)) (hhi : (hi = none ∧ b = len) ∨ ∃ k, hi = some (.int k b)) (h0 : 0 ≤ a) (h1 : a ≤ b) (h2 : b ≤ len) (h3 : len ≤ cap) :
    (Instr.sliceBounds s len cap lo hi none).run P w = .ok (a.toNat, b.toNat, cap) w := by
  have eb : (b.toNat : Int) = b := Int.toNat_of_nonneg (by omega)
  rcases hlo with ⟨rfl, rfl⟩ | ⟨k, rfl⟩ <;> rcases hhi with ⟨rfl, rfl⟩ | ⟨k', rfl⟩
  · simp [Instr.sliceBounds]
  · have := run_sliceBound (P := P) w k' b cap (if s then .sliceAcap else .sliceAlen) (by omega) (by omega)
    simp only [Instr.sliceBounds, Sem.run_bind, Sem.run_pure, Result.andThen, Option.isSome_none, this]
    simp
  · have := run_sliceBound (P := P) w k a len .sliceB h0 (by omega)
    simp [Instr.sliceBounds, this]
  · have q1 := run_sliceBound (P := P) w k' b cap (if s then .sliceAcap else .sliceAlen) (by omega) (by omega)
    have q2 := run_sliceBound (P := P) w k a b.toNat .sliceB h0 (by omega)
    simp only [Instr.sliceBounds, Sem.run_bind, Sem.run_pure, Result.andThen, Option.isSome_none, q1]
    simp [q2]
theorem qmd {d n : Int} {o : Option Operand} (h : SA T0 ξ0 w0 tk Tf ξ w σ tm) (hb : bnd σ d o = some n) : (o.map (ev tm) = none ∧ n = d) ∨ ∃ k, o.map (ev tm) = some (.int k n) := by
  cases o with
  | none => simp [bnd] at hb; exact .inl ⟨rfl, hb.symm⟩
  | some o =>
    obtain ⟨k, hk⟩ := qf2 h hb
    exact .inr ⟨k, by simp [hk]⟩
theorem qj8 {t : TypeId} {u : Nat} {lo hi : Option Operand} {o : Oper} {s : ByteArray} {a b : Int} (he : tok P .str t) (h : SA T0 ξ0 w0 tk Em ξ w σ tm) (hop : o.op = .slice t (.tmp u) lo hi none) (hr : rdv σ (.tmp u) = some ⟨.str, s⟩)
    (ha : bnd σ 0 lo = some a) (hb : bnd σ s.size hi = some b) (h0 : 0 ≤ a) (h1 : a ≤ b) (h2 : b ≤ s.size) : Gd P T0 ξ0 w0 σ tm (execOp (ev tm) o) (.d .str (s.extract a.toNat b.toNat) .ro) w := by
  have e1 := (q78 h hr).str
  refine Gd.pure h (v := .string (s.extract a.toNat b.toNat)) ?_ (q57 rfl ⟨rfl, fun _ => rfl⟩) trivial
  have hb' := qgm (P := P) (w := w) (s := false) (qmd h ha) (qmd h hb) h0 h1 h2 (Nat.le_refl _)
  simp only [execOp, hop, e1, Option.map_none, Sem.run_bind, Instr.sliceAt, run_underlying he.str, Result.andThen, Instr.slice, Option.isSome_none, Bool.false_eq_true, if_false, hb', Sem.run_pure, Sem.run_ite]
theorem qj9 {t : TypeId} {u : Nat} {lo hi : Option Operand} {o : Oper} {e : Ty} {l : List e.T} {a b : Int} {hh : Option (Tmp × Nat × Nat)} (he : tok P (.row e) t) (h : SA T0 ξ0 w0 tk Em ξ w σ tm) (hop : o.op = .slice t (.tmp u) lo hi none) (hr : rdv σ (.tmp u) = some ⟨.row e, l⟩)
    (ha : bnd σ 0 lo = some a) (hb : bnd σ l.length hi = some b) (h0 : 0 ≤ a) (h1 : a ≤ b) (h2 : b ≤ l.length)
    (hd : (match (σ.slot u).a with | .d τ _ f => if f.isRo τ then some none else some (some (u, (σ.slot u).g, (σ.slot u).v)) | .vw _ _ h _ g v => some (some (h, g, v)) | _ => none : Option (Option (Tmp × Nat × Nat))) = some hh) :
    Gd P T0 ξ0 w0 σ tm (execOp (ev tm) o) (match hh with | none => .d (.row e) ((l.take b.toNat).drop a.toNat) .ro | some (h, g, v) => .vw (.row e) ((l.take b.toNat).drop a.toNat) h none g v) w := by
  obtain ⟨te, ht, hte⟩ := he.row
  have run : ∀ A cap, l.length ≤ cap → ev tm (.tmp u) = .slice A l.length cap → (execOp (ev tm) o).run P w = .ok (.value (.slice (if cap = a.toNat then A else A.map (·.add (a.toNat * e.n))) (b.toNat - a.toNat) (cap - a.toNat))) w := by
    intro A cap hcap hv
    have hb' := qgm (P := P) (w := w) (s := true) (qmd h ha) (qmd h hb) h0 h1 h2 hcap
    simp only [execOp, hop, hv, Option.map_none, Sem.run_bind, Instr.sliceAt, run_underlying ht, Result.andThen, Instr.slice, hb', hte.size, Sem.run_pure]
  have capOf : ∀ {f : Fl} {cs : List Value} {T : Bs}, Rel ξ w (.row e) f l cs T → f.ok (.row e) = true → ∃ A cap, cs = [.slice A l.length cap] ∧ l.length ≤ cap := by
    intro f cs T h hf
    cases f with
    | gone => simp [Fl.ok] at hf
    | pr _ _ => exact h.elim
    | ro => obtain ⟨A, cap, h1, h2, _⟩ := h; exact ⟨A, cap, h1, h2⟩
    | own g =>
      rcases h with ⟨h0, h1⟩ | ⟨a, cap, c, t, fz, Te, h1, _, _, _, _, h2, _⟩
      · subst h0; exact ⟨none, 0, h1, Nat.le_refl _⟩
      · exact ⟨some a, cap, h1, h2⟩
  have i1 : a.toNat ≤ b.toNat := by omega
  have i2 : b.toNat ≤ l.length := by omega
  simp only [rdv] at hr
  split at hr
  · rename_i τ x f hav
    split at hr
    case isFalse => cases hr
    rename_i hok
    simp only [Option.some.injEq, Sigma.mk.injEq] at hr
    obtain ⟨rfl, hx⟩ := hr
    cases hx
    obtain ⟨cs, k1, k2⟩ := h.at_d hav
    have e0 : (σ.slot u).a = .d (.row e) l f := hav
    rw [e0] at hd
    obtain ⟨A, cap, rfl, hcap⟩ := capOf k2 hok
    have hsub := k2.subrow hok i1 i2
    simp only at hd
    split at hd
    · rename_i hro
      obtain rfl := Option.some.inj hd
      exact Gd.pure h (run A cap hcap k1) ⟨_, rfl, hsub.toRo hro⟩ trivial
    · obtain rfl := Option.some.inj hd
      exact Gd.pure h (run A cap hcap k1) trivial ⟨Past.refl _ _, fun _ => ⟨_, f, tk u, rfl, Sb.refl _, hok, hsub, fun q hq => by cases hq⟩⟩
  · rename_i τ x h' p g v hav
    split at hr
    case isFalse => cases hr
    rename_i hv
    simp only [Option.some.injEq, Sigma.mk.injEq] at hr
    obtain ⟨rfl, hx⟩ := hr
    cases hx
    obtain ⟨cs, f, T', k1, k2, k3, k4, k5⟩ := h.at_vw hav hv
    have hl := h.lent u
    rw [hav] at hl
    have e0 : (σ.slot u).a = .vw (.row e) l h' p g v := hav
    rw [e0] at hd
    obtain rfl := Option.some.inj hd
    obtain ⟨A, cap, rfl, hcap⟩ := capOf k4 k3
    exact Gd.pure h (run A cap hcap k1) trivial ⟨hl.1, fun _ => ⟨_, f, T', rfl, k2, k3, k4.subrow k3 i1 i2, fun q hq => by cases hq⟩⟩
  · cases hr
theorem qy5 {q : Path} (h : q.fields = true) : Fl.at .ro q = .ro := by
  induction q with
  | nil => rfl
  | cons e q ih => cases e <;> first | exact ih (by simpa [Path.fields] using h) | simp [Path.fields] at h
theorem qak : {τ : Ty} → {x : τ.T} → {p q : Path} → {τ' : Ty} → {y : τ'.T} → q5f τ x p = some ⟨τ', y⟩ → q5f τ x (p ++ q) = q5f τ' y q
  | τ, x, [], q, τ', y, h => by rw [q6v] at h; cases h; rfl
  | .pair a b, x, .fst :: p, q, τ', y, h => qak (τ := a) h
  | .pair a b, x, .snd :: p, q, τ', y, h => qak (τ := b) h
  | .st a, x, e :: p, q, τ', y, h => qak (τ := a) (p := e :: p) h
  | .row e, x, .idx i :: p, q, τ', y, h => qak (τ := e) h
  | .pair a b, x, .idx i :: p, q, τ', y, h => by simp [q5f] at h
  | .int _, x, e :: p, q, τ', y, h => by simp [q5f] at h
  | .bool, x, e :: p, q, τ', y, h => by simp [q5f] at h
  | .str, x, e :: p, q, τ', y, h => by simp [q5f] at h
  | .arr _ _, x, e :: p, q, τ', y, h => by simp [q5f] at h
  | .row _, x, .fst :: p, q, τ', y, h => by simp [q5f] at h
  | .row _, x, .snd :: p, q, τ', y, h => by simp [q5f] at h
theorem qpg {s : TypeId} {a0 : Ty} {fs : Array Field} {f : Field} {i : Nat} {τ' : Ty} {q : Path} {cs c1 c2 c3 : List Value} (hs : P.underlying s = some (.struct fs)) (hf : fs[i]? = some f) (ht : tok P τ' f.type) (ho : f.offset = c1.length) (hc : cs = c1 ++ (c2 ++ c3)) (hl : c2.length = τ'.n) :
    (Instr.field s (mkV (.st a0) cs) i).run P w = .ok (mkV τ' c2) w := by
  simp only [Instr.field, mkV, Sem.run_bind, run_underlying hs, Result.andThen, hf, asAgg, Sem.run_pure]
  exact qbz ht (by simpa using hc) hl ho
theorem qsf {s : TypeId} {u i : Nat} {o : Oper} {τ : Ty} {q : Path} {a : AV} (he : tok P τ s) (h : SA T0 ξ0 w0 tk Em ξ w σ tm) (hop : o.op = .field s (.tmp u) i) (hq : q7n τ i = some q) (hne : q.isEmpty = false)
    (hd : (match (σ.slot u).a with
          | .d τ' x f => if τ' ≠ τ then none else if f.isRo τ' then (q5f τ' x q).map fun s => .d s.1 s.2 .ro else match q5f τ' x q with
            | some s => if (f.at q).isRo s.1 then some (.d s.1 s.2 .ro) else if (f.at q).ok s.1 then some (.vw s.1 s.2 u (some q) (σ.slot u).g (σ.slot u).v) else none
            | none => none
          | .vw τ' x h p g v => if τ' = τ && σ.valid h g v then (q5f τ' x q).map fun s => if s.1.flat then .d s.1 s.2 .ro else .vw s.1 s.2 h (p.map (· ++ q)) g v else none
          | _ => none : Option AV) = some a) : Gd P T0 ξ0 w0 σ tm (execOp (ev tm) o) a w := by
  obtain ⟨a0, fs, f, τf, rfl, k1, k2, k3, k4, k5, k6⟩ := qyl he hq
  have hq0 : q ≠ [] := by intro e; subst e; simp at hne
  have run : ∀ (cs c1 c2 c3 : List Value), tm.getD u undef = mkV (.st a0) cs → cs = c1 ++ (c2 ++ c3) → c1.length = q7o (.st a0) q → c2.length = τf.n → (execOp (ev tm) o).run P w = .ok (.value (mkV τf c2)) w := by
    intro cs c1 c2 c3 hv hc h1 h2
    have e1 : ev tm (.tmp u) = mkV (.st a0) cs := hv
    simp only [execOp, hop, Sem.run_bind, e1, qpg (q := q) k1 k2 k5 (k3.trans h1.symm) hc h2, Result.andThen, Sem.run_pure]
  cases hav : σ.av u with
  | d τ' x f' =>
    have e0 : (σ.slot u).a = .d τ' x f' := hav
    rw [e0] at hd
    simp only at hd
    split at hd
    · cases hd
    rename_i hty
    simp only [ne_eq, Decidable.not_not] at hty
    subst hty
    obtain ⟨y, hy⟩ := k6 x hq0
    rw [hy] at hd
    obtain ⟨cs, m1, m2⟩ := h.at_d hav
    obtain ⟨c1, c2, c3, e1, e2, e3⟩ := m2.get k4 hy
    split at hd
    · rename_i hro
      simp only [Option.map_some, Option.some.injEq] at hd
      subst hd
      obtain ⟨d1, d2, d3, z1, z2, z3⟩ := (m2.toRo hro).get k4 hy
      rw [e1] at z1
      obtain ⟨rfl, z4⟩ := List.append_inj z1 (by omega)
      obtain ⟨rfl, rfl⟩ := List.append_inj z4 (by rw [e3.len, z3.len])
      rw [qy5 k4] at z3
      exact Gd.pure h (run cs c1 c2 c3 m1 e1 e2 e3.len) ⟨c2, rfl, z3⟩ trivial
    · simp only at hd
      split at hd
      · rename_i hro
        obtain rfl := Option.some.inj hd
        exact Gd.pure h (run cs c1 c2 c3 m1 e1 e2 e3.len) ⟨c2, rfl, e3.toRo hro⟩ trivial
      · split at hd
        · rename_i hok
          obtain rfl := Option.some.inj hd
          refine Gd.pure h (run cs c1 c2 c3 m1 e1 e2 e3.len) trivial ⟨Past.refl _ _, fun _ => ⟨c2, _, tk u, rfl, Sb.refl _, hok, e3, fun p hp => ?_⟩⟩
          obtain rfl := Option.some.inj hp
          rw [hav]
          exact ⟨cs, c1, c3, m1, m2.len, hy, e1, e2, e3.len, k4⟩
        · cases hd
  | vw τ' x h' p g v =>
    have e0 : (σ.slot u).a = .vw τ' x h' p g v := hav
    rw [e0] at hd
    simp only at hd
    split at hd
    case isFalse => cases hd
    rename_i hty
    simp only [Bool.and_eq_true, decide_eq_true_eq] at hty
    obtain ⟨hty, hv⟩ := hty
    subst hty
    obtain ⟨y, hy⟩ := k6 x hq0
    rw [hy] at hd
    obtain ⟨cs, f', T', m1, m2, m3, m4, m5⟩ := h.at_vw hav hv
    have hl := h.lent u
    rw [hav] at hl
    obtain ⟨c1, c2, c3, e1, e2, e3⟩ := m4.get k4 hy
    simp only [Option.map_some, Option.some.injEq] at hd
    split at hd
    · rename_i hfl
      subst hd
      exact Gd.pure h (run cs c1 c2 c3 m1 e1 e2 e3.len) ⟨c2, rfl, e3.flatRo (qnx k4 hy m3) hfl⟩ trivial
    · subst hd
      refine Gd.pure h (run cs c1 c2 c3 m1 e1 e2 e3.len) trivial ⟨hl.1, fun _ => ⟨c2, _, T', rfl, m2, qnx k4 hy m3, e3, fun p' hp => ?_⟩⟩
      cases p with
      | none => cases hp
      | some p =>
        obtain rfl := Option.some.inj hp
        have hpart := m5 p rfl
        cases hh : σ.av h' with
        | d τ0 x0 f0 =>
          rw [hh] at hpart
          obtain ⟨cs0, d1, d3, z1, z2, z3, z4, z5, z6, z7⟩ := hpart
          exact ⟨cs0, d1 ++ c1, c3 ++ d3, z1, z2, by rw [qak z3]; exact hy, by rw [z4, e1]; simp, by rw [List.length_append, z5, e2, q9e z3 z7], e3.len, q6q.2 ⟨z7, k4⟩⟩
        | box τ0 x0 f0 r =>
          rw [hh] at hpart
          obtain ⟨b, c, t, fz, d1, d3, z1, z2, z3, z4, z5, z6, z7⟩ := hpart
          exact ⟨b, c, t, fz, d1 ++ c1, c3 ++ d3, z1, z2, by rw [qak z3]; exact hy, by rw [z4, e1]; simp, by rw [List.length_append, z5, e2, q9e z3 z7], e3.len, q6q.2 ⟨z7, k4⟩⟩
        | _ => rw [hh] at hpart; exact hpart.elim
  | _ =>
    have e0 := hav
    simp only [St.av] at e0
    rw [e0] at hd
    cases hd
end
end Go.Proofs.YtjfkeknnjjlepaaGreatDoor.Rf
end

section
/- Operations: conversions, structs and rows that are made. Nothing of any program. -/
namespace Go.Proofs.YtjfkeknnjjlepaaGreatDoor.Rf
open Go Go.RowKit
set_option linter.unusedVariables false
set_option linter.unusedSimpArgs false
section
variable {P : Program} {E : q6f} {T0 : Bs} {ξ0 : Im} {w0 : World} {tk : Nat → Bs} {Tf : Bs} {ξ : Im} {w : World} {σ : St} {tm : Array Value}
theorem qwm {a : Addr} (h : a.spot = none) (n : Nat) : a.add n = ⟨a.block, a.off + n, none⟩ := by
  obtain ⟨b, o, s⟩ := a
  simp only at h
  subst h
  unfold Addr.add; split <;> simp_all
theorem qja (w : World) (c : Array Value) (t : TypeId) (n : Nat) : (w.alloc (.cells c t)).freeze ⟨w.heap.size, n, none⟩ 1 = w.alloc (.cells c t (n, n + 1)) := by
  unfold World.freeze World.alloc
  simp only [Nat.one_ne_zero, if_false]
  congr 1
  apply Array.ext
  · simp
  · intro i h1 h2
    rw [Array.getElem_modify]
    simp only [Array.getElem_push]
    by_cases hi : w.heap.size = i
    · subst hi; simp
    · rw [if_neg hi]
      have : i < w.heap.size := by simp at h2; omega
      simp [this]
theorem qwn {cm : List Value} {i : Nat} {v : Value} (h : cm[i]? = some v) : seg cm 1 i = [v] := by
  apply List.ext_getElem?
  intro j
  by_cases hj : j < 1
  · have : j = 0 := by omega
    subst this
    rw [q6d (n := 1) (by omega)]
    simpa using h
  · rw [List.getElem?_eq_none (by simp only [seg, List.length_take]; omega), List.getElem?_eq_none (by simp; omega)]
theorem SA.row_end {o : Oper} {e : Ty} {g : Fl} {l : List e.T} {w1 : World} {t : TypeId} {cells : Array Value} {cap : Nat} {T : Bs} {Te : Nat → Bs} {fz : Nat × Nat} (h : SA T0 ξ0 w0 tk T ξ w σ tm) (hw : w1.heap = w.heap) (hos : w1.os = w.os) (htp : w1.tape = w.tape) (hout : w1.output = w.output)
    (hcap : l.length ≤ cap) (hsz : cap * e.n ≤ cells.size) (sub : ∀ i, Sb (Te i) T) (dj : ∀ i j, i ≠ j → Dj (Te i) (Te j)) (hel : ∀ i (hi : i < l.length), Rel ξ w e g l[i] (seg cells.toList e.n i) (Te i)) (hfz : ∀ o, o < cells.size → ¬(fz.1 ≤ o ∧ o < fz.2))
    (hr : (execOp (ev tm) o).run P w = .ok (.value (.slice (some ⟨w.heap.size, 0, none⟩) l.length cap)) (w1.alloc (.cells cells t fz))) :
    Gd P T0 ξ0 w0 σ tm (execOp (ev tm) o) (.d (.row e) l (.own g)) w := by
  have hs : w1.heap.size = w.heap.size := by rw [hw]
  have F1 : Fr Em ξ w ξ w1 := ⟨hos, htp, hout, Nat.le_of_eq hs.symm, fun _ _ _ => ⟨by rw [hw], rfl⟩, fun b o v _ hv => (q81 (by rw [hw]) _).trans hv, fun _ _ => Nat.le_refl _⟩
  have wf1 : Wf ξ w1 := fun b hb => h.wf b (by rw [← hs]; exact hb)
  have F := F1.trans (Fr.alloc Em ξ w1 (.cells cells t fz)) (fun b hb => hb.elim)
  have k := qlb (t := t) (g := g) wf1 hcap hsz (fun i b hb => by rw [hs]; exact (h.mayf b (sub i b hb)).2) dj (fun i hi => (hel i hi).keep (F1.keep h.wf (fun b hb => (h.mayf b (sub i b hb)).2) (Dj.em' _))) fz hfz
  rw [hs] at k
  refine ⟨_, _, ξ, tk, _, .inl hr, h.step F (Sb.em _) (wf1.alloc _) (fun b hb => ?_), ⟨_, rfl, k⟩, trivial⟩
  rw [size_alloc, hs]
  rcases hb with hb | ⟨i, hb⟩
  · subst hb; exact ⟨.inr (Nat.le_refl _), Nat.lt_succ_self _⟩
  · exact ⟨.inl (sub i b hb), Nat.lt_succ_of_lt (h.mayf b (sub i b hb)).2⟩
theorem qnz {t' t : TypeId} {x : Operand} {o : Oper} {τ : Ty} {s s' : Sv} {f : Fl} (he : EOk P E ξ0 w0) (h : SA T0 ξ0 w0 tk Em ξ w σ tm) (hop : o.op = .convert t' t x) (hE : E.of t = some τ) (hx : rdv σ x = some s) (hE' : E.of t' = some s.1) (hc : conv τ s = some (s', f)) :
    Gd P T0 ξ0 w0 σ tm (execOp (ev tm) o) (.d s'.1 s'.2 f) w := by
  have rx := q78 h hx
  have td := he.ty _ _ hE
  have ts := he.ty _ _ hE'
  obtain ⟨τs, s⟩ := s
  cases τs with
  | int k0 =>
    have e1 := rx.int
    cases τ with
    | int k =>
      simp only [conv, Option.some.injEq, Prod.mk.injEq] at hc
      obtain ⟨rfl, rfl⟩ := hc
      refine Gd.pure h (v := .int k (k.wrap s)) ?_ (q57 rfl ⟨rfl, fun _ => rfl⟩) trivial
      simp only [execOp, hop, e1, convert, Sem.run_bind, run_underlying ts.int, run_underlying td.int, Result.andThen, Conv.intToInt, Sem.run_pure]
    | _ => simp [conv] at hc
  | str =>
    have e1 := rx.str
    cases τ with
    | str =>
      simp only [conv, Option.some.injEq, Prod.mk.injEq] at hc
      obtain ⟨rfl, rfl⟩ := hc
      refine Gd.pure h (v := .string s) ?_ (q57 rfl ⟨rfl, fun _ => rfl⟩) trivial
      simp only [execOp, hop, e1, convert, Sem.run_bind, run_underlying ts.str, run_underlying td.str, Result.andThen, Sem.run_pure]
    | row e =>
      have he8 : e = .int .u8 := by
        cases e with
        | int k => cases k <;> simp [conv] at hc ⊢
        | _ => simp [conv] at hc
      subst he8
      simp only [conv, Option.some.injEq, Prod.mk.injEq] at hc
      obtain ⟨rfl, rfl⟩ := hc
      obtain ⟨te, u1, u2⟩ := td.row
      have hbs : (bytesOf s).length = s.size := by simp only [bytesOf, List.length_map, Array.length_toList]; rfl
      obtain ⟨cap, hcapd⟩ : ∃ c, c = (Question.appendCap s.size 0 te).cut (w.tape w.drawn (.appendCap s.size 0 te)) := ⟨_, rfl⟩
      have hcap : s.size ≤ cap := by simp [hcapd, Question.cut]
      obtain ⟨cells, hcells⟩ : ∃ c : Array Value, c = (s.data.map fun b => (Value.int .u8 (b.toNat : Int))) ++ Array.replicate (cap - s.size) (.int .u8 0) := ⟨_, rfl⟩
      have hsz : cells.size = cap := by
        have : s.data.size = s.size := rfl
        simp only [hcells, Array.size_append, Array.size_map, Array.size_replicate, this]; omega
      change Gd P T0 ξ0 w0 σ tm (execOp (ev tm) o) (.d (.row (.int .u8)) (bytesOf s) (.own .ro)) w
      refine SA.row_end (e := .int .u8) (l := bytesOf s) (w1 := w.drew) (cap := cap) (cells := cells) (Te := fun _ => Em) (fz := (cells.size, cells.size + 1)) (t := te) h rfl rfl rfl rfl (by change (bytesOf s).length ≤ cap; rw [hbs]; exact hcap) (by rw [hsz]; simp [Ty.n]) (fun _ => Sb.em _) (fun _ _ _ => Dj.em _) ?_ ?_ ?_
      · intro i hi
        have hi' : i < s.data.toList.length := by simpa [bytesOf] using hi
        have hc : cells.toList[i]? = some (.int .u8 ((bytesOf s)[i]'hi)) := by
          simp only [hcells, Array.toList_append, Array.toList_map]
          rw [List.getElem?_append_left (by simpa using hi'), List.getElem?_map, List.getElem?_eq_getElem hi']
          simp [bytesOf]
        have := qwn hc
        rw [show (Ty.int IntKind.u8).n = 1 from rfl, this]
        exact ⟨rfl, fun _ => rfl⟩
      · intro o ho; simp only; omega
      · have hf : (Question.appendCap s.size 0 te).forced = false := rfl
        have e8 : P.underlying te = some (.int .u8) := u2.int
        have hsh : (w.drew.alloc (.cells cells te)).shape? w.heap.size = some (te, cells.size) := by
          simp only [World.shape?]
          rw [show (w.drew.alloc (.cells cells te)).heap[w.heap.size]? = some (.cells cells te) from qby w.drew _]
        have ha := qja w.drew cells te cells.size
        have hs : w.drew.heap.size = w.heap.size := rfl
        rw [hs] at ha
        simp only [execOp, hop, e1, convert, Sem.run_bind, run_underlying ts.str, run_underlying u1, Result.andThen, run_underlying e8, Conv.stringToBytes, run_choose, hf, Bool.false_eq_true, if_false, newRow, run_newObj, Sem.run_pure, markStringish, run_shape]
        have hw : ∀ o, ({ heap := w.heap.push o, tape := w.tape, drawn := w.drawn + 1, os := w.os, output := w.output } : World) = w.drew.alloc o := fun _ => rfl
        rw [← hcapd, ← hcells]
        simp only [hw, hsh, run_freeze, ha]
        rw [hbs]
    | _ => simp [conv] at hc
  | row e =>
    have he8 : e = .int .u8 := by
      cases e with
      | int k => cases k <;> simp [conv] at hc ⊢
      | _ => simp [conv] at hc
    subst he8
    cases τ with
    | str =>
      simp only [conv, Option.some.injEq, Prod.mk.injEq] at hc
      obtain ⟨rfl, rfl⟩ := hc
      obtain ⟨te, u1, u2⟩ := ts.row
      obtain ⟨cs, f', T', t2, r1, r2, r3, r4⟩ := rx
      obtain ⟨A, cap, cm, q1, q2, q3, q4⟩ := r4.all r3
      have hv : ev tm x = .slice A (List.length s) cap := by rw [r1, q1]; rfl
      have hcm : cm = s.map (Value.int .u8) := by
        apply List.ext_getElem?
        intro j
        by_cases hj : j < s.length
        · obtain ⟨g', T3, z1, _, z2, _⟩ := q4 j hj
          have hz := z2.2 (by simpa [Fl.ok] using z1)
          have := q6d (cm := cm) (n := 1) (i := j) (j := 0) (by omega)
          rw [show seg cm 1 j = [.int .u8 s[j]] from hz] at this
          simp only [Nat.mul_one, Nat.add_zero, List.getElem?_cons_zero] at this
          rw [← this]
          simp [hj]
        · rw [List.getElem?_eq_none (by rw [q2]; simp [Ty.n]; omega), List.getElem?_eq_none (by simp; omega)]
      have hstr : strOf s = s.foldl (fun r n => r.push (UInt8.ofNat n.toNat)) ByteArray.empty := by
        have : ∀ (l : List Int) (b : ByteArray), l.foldl (fun r n => r.push (UInt8.ofNat n.toNat)) b = ⟨b.data ++ (l.map fun n => UInt8.ofNat n.toNat).toArray⟩ := by
          intro l
          induction l with
          | nil => intro b; simp
          | cons n l ih => intro b; rw [List.foldl_cons, ih]; simp [ByteArray.push]
        rw [this]
        simp [strOf]
      refine Gd.pure h (v := .string (strOf s)) ?_ (q57 rfl ⟨rfl, fun _ => rfl⟩) trivial
      simp only [execOp, hop, hv, convert, Sem.run_bind, run_underlying u1, run_underlying td.str, Result.andThen]
      cases A with
      | none =>
        have hs : s = [] := by
          cases s with
          | nil => rfl
          | cons v s => obtain ⟨a, ha, _⟩ := q3 0 (.int .u8 v) (by rw [hcm]; rfl); cases ha
        subst hs
        simp only [run_underlying u2.int, Result.andThen, Conv.bytesToString, Sem.run_pure]
        rfl
      | some a =>
        have hl := run_loadCells_list (P := P) w a cm fun j v hj => by
          obtain ⟨a', ha, hsp, hc⟩ := q3 j v hj
          cases ha
          rw [qwm hsp j]; exact hc
        have hlen : cm.length = s.length := by rw [hcm]; simp
        rw [hlen, hcm] at hl
        have := run_bytesToString (P := P) w a s.length cap s hl
        simp only [run_underlying u2.int, Result.andThen, this, hstr, Sem.run_pure]
    | _ => simp [conv] at hc
  | _ => cases τ <;> simp [conv] at hc
theorem qme {z : Array Value} {m n i : Nat} (hz : z.size = n) (hn : 0 < n) (hi : i < m) : seg (madeCells z (m * n)).toList n i = z.toList := by
  have hle : (i + 1) * n ≤ m * n := Nat.mul_le_mul_right _ hi
  rw [Nat.add_mul, Nat.one_mul] at hle
  apply List.ext_getElem?
  intro j
  by_cases hj : j < n
  · rw [q6d hj]
    have h1 : i * n + j < m * n := by omega
    have h2 : (i * n + j) % z.size = j := by rw [hz, Nat.mul_comm i n, Nat.mul_add_mod, Nat.mod_eq_of_lt hj]
    simp only [madeCells, Array.toList_map, List.getElem?_map]
    rw [Array.getElem?_toList, Array.getElem?_eq_getElem (by simpa using h1)]
    simp only [Array.getElem_range, Option.map_some, h2]
    rw [Array.getElem?_toList, Array.getElem?_eq_getElem (by omega)]
    simp [show j < z.size by omega]
  · rw [List.getElem?_eq_none (by simp only [seg, List.length_take]; omega), List.getElem?_eq_none (by simp; omega)]
theorem qjb {t : TypeId} {l c : Operand} {o : Oper} {e : Ty} {n m : Int} (he : tok P (.row e) t) (h : SA T0 ξ0 w0 tk Em ξ w σ tm) (hop : o.op = .makeSlice t l c) (hl : asI (rdv σ l) = some n) (hc : asI (rdv σ c) = some m)
    (h0 : 0 ≤ n) (h1 : n ≤ m) (h2 : m * e.by ≤ (q1m : Int)) : Gd P T0 ξ0 w0 σ tm (execOp (ev tm) o) (.d (.row e) (List.replicate n.toNat e.z) (.own e.full)) w := by
  obtain ⟨te, u1, u2⟩ := he.row
  obtain ⟨i, z, hi, hisz, ⟨hb0, hiby⟩, hiz, hz1, hz2⟩ := u2.info
  obtain ⟨kl, e1⟩ := qf2 h hl
  obtain ⟨kc, e2⟩ := qf2 h hc
  have hzs : z.cells.size = e.n := by
    have := (Rel.zero (ξ := fun _ => 0) (w := default) hz1).len
    simpa using this
  have hbm : (i.bytes : Int) * m ≤ 140737488355328 := by
    have : (i.bytes : Int) * m ≤ (e.by : Int) * m := Int.mul_le_mul_of_nonneg_right (by exact_mod_cast hiby) (by omega)
    rw [Int.mul_comm (e.by : Int)] at this
    have h2' : m * (e.by : Int) ≤ 140737488355328 := h2
    omega
  have hm63 : m ≤ 140737488355328 := by
    have : 1 * m ≤ (i.bytes : Int) * m := Int.mul_le_mul_of_nonneg_right (by omega) (by omega)
    omega
  have hr := run_make (P := P) w t te i z u1 hi hiz kl kc n m h0 h1 (by omega) (by omega)
  have hlen : (List.replicate n.toNat e.z).length = n.toNat := by simp
  refine SA.row_end (w1 := w) (cap := m.toNat) (cells := madeCells z.cells (m.toNat * i.size)) (Te := fun _ => Em) (fz := (0, 0)) (t := te) h rfl rfl rfl rfl (by rw [hlen]; omega) (by rw [size_madeCells, hisz]; exact Nat.le_refl _) (fun _ => Sb.em _) (fun _ _ _ => Dj.em _) ?_ (fun o _ => by simp) ?_
  · intro j hj
    rw [hlen] at hj
    rw [hisz, qme hzs e.n_pos (by omega), List.getElem_replicate]
    exact Rel.zero hz1
  · rw [hlen]
    simp only [execOp, hop, e1, e2, Sem.run_bind, hr, Result.andThen, Sem.run_pure]
end
end Go.Proofs.YtjfkeknnjjlepaaGreatDoor.Rf
end

section
/- Operations: structs and rows out of parts; every operation. Nothing of any program. -/
namespace Go.Proofs.YtjfkeknnjjlepaaGreatDoor.Rf
open Go Go.RowKit
set_option linter.unusedVariables false
set_option linter.unusedSimpArgs false
section
variable {P : Program} {E : q6f} {T0 : Bs} {ξ0 : Im} {w0 : World} {tk : Nat → Bs} {Tf : Bs} {ξ : Im} {w : World} {σ : St} {tm : Array Value}
theorem qgn (off : Nat) : ∀ (vs : List Value) (k : Nat) (cells : Array Value) (c1 c2 c3 : List Value), cells.toList = c1 ++ (c2 ++ c3) → c1.length = off + k → c2.length = vs.length →
    ((vs.zipIdx k).foldl (fun cs (x : Value × Nat) => cs.setIfInBounds (off + x.2) x.1) cells).toList = c1 ++ (vs ++ c3)
  | [], k, cells, c1, c2, c3, h, h1, h2 => by
    have : c2 = [] := List.length_eq_zero_iff.1 h2
    subst this
    simpa using h
  | v :: vs, k, cells, c1, c2, c3, h, h1, h2 => by
    match c2, h2 with
    | x :: c2, h2 =>
      simp only [List.zipIdx_cons, List.foldl_cons]
      rw [qgn off vs (k + 1) (cells.setIfInBounds (off + k) v) (c1 ++ [v]) c2 c3 ?_ (by simp; omega) (by simpa using h2)]
      · simp
      · rw [Array.toList_setIfInBounds, h, ← h1]
        simp
theorem qf3 {place : Nat → Option (Nat × Nat)} {i off size : Nat} {v : Value} {rest : List (Nat × Value)} {cells : Array Value} {c1 c2 c3 vs : List Value} (hp : place i = some (off, size)) (hv : v.cells = vs.toArray) (hs : vs.length = size) (hc : cells.toList = c1 ++ (c2 ++ c3)) (h1 : c1.length = off) (h2 : c2.length = size) :
    ∃ cells', cells'.toList = c1 ++ (vs ++ c3) ∧ Instr.fill place cells ((i, v) :: rest) = Instr.fill place cells' rest := by
  refine ⟨_, qgn off vs 0 cells c1 c2 c3 hc (by simpa using h1) (by rw [h2, hs]), ?_⟩
  have hsz : ¬ (off + vs.length > cells.size) := by
    have : cells.size = c1.length + (c2.length + c3.length) := by rw [← Array.length_toList, hc]; simp
    omega
  simp only [Instr.fill, hp, hv, List.size_toArray, hs, ne_eq, not_true_eq_false, decide_false, Bool.false_or, decide_eq_true_eq]
  rw [hs] at hsz
  rw [if_neg hsz, ← Array.foldl_toList, Array.toList_zipIdx]
theorem qph : (a : Ty) → (fs : List Field) → (o : Nat) → q5l P a (.inr (fs, o)) = true → ∃ places : List (Nat × Nat), fs.mapM (fun f => (P.info? f.type).map fun i => (f.offset, i.size)) = some places ∧
    ∀ i q, q7n.go a i = some q → ∃ τf : Ty, places[i]? = some (o + q7o a q, τf.n) ∧ ∀ x : a.T, ∃ y : τf.T, q5f a x q = some ⟨τf, y⟩ := by
  intro a
  have single : ∀ τ : Ty, (∀ a b, τ ≠ .pair a b) → ∀ fs o, q5l P τ (.inr (fs, o)) = true → ∃ places : List (Nat × Nat), fs.mapM (fun f => (P.info? f.type).map fun i => (f.offset, i.size)) = some places ∧
      ∀ i q, q7n.go τ i = some q → ∃ τf : Ty, places[i]? = some (o + q7o τ q, τf.n) ∧ ∀ x : τ.T, ∃ y : τf.T, q5f τ x q = some ⟨τf, y⟩ := by
    intro τ hp fs o h
    have hh : ∃ fd, fs = [fd] ∧ fd.offset = o ∧ tok P τ fd.type := by
      match fs, h with
      | [fd], h =>
        refine ⟨fd, rfl, ?_⟩
        cases τ with
        | pair a b => exact (hp a b rfl).elim
        | _ =>
          simp only [q5l, one, Bool.and_eq_true, decide_eq_true_eq] at h
          exact ⟨h.1, by simp only [tok, q5l, one, Bool.and_eq_true]; exact h.2.2⟩
      | [], h =>
        cases τ with
        | pair a b => exact (hp a b rfl).elim
        | _ => simp [q5l, one] at h
      | _ :: _ :: _, h =>
        cases τ with
        | pair a b => exact (hp a b rfl).elim
        | _ => simp [q5l, one] at h
    obtain ⟨fd, rfl, h1, h2⟩ := hh
    obtain ⟨i, z, k1, k2, _⟩ := h2.info
    refine ⟨[(fd.offset, i.size)], by simp [k1], fun j q hq => ?_⟩
    have : j = 0 ∧ q = [] := by
      cases τ with
      | pair a b => exact (hp a b rfl).elim
      | _ => cases j <;> simp [q7n.go] at hq <;> exact ⟨rfl, hq⟩
    obtain ⟨rfl, rfl⟩ := this
    exact ⟨τ, by simp [h1, k2, q5d], fun x => ⟨x, q6v τ x⟩⟩
  induction a with
  | pair a b iha ihb =>
    intro fs o h
    match fs, h with
    | [], h => simp [q5l] at h
    | fd :: fs, h =>
      simp only [q5l, Bool.and_eq_true, decide_eq_true_eq] at h
      obtain ⟨t1, t2, t3, _⟩ := h
      obtain ⟨i, z, k1, k2, _⟩ := tok.info (show tok P a fd.type from t2)
      obtain ⟨places, p1, p2⟩ := ihb fs (o + a.n) t3
      refine ⟨(fd.offset, i.size) :: places, by simp [List.mapM_cons, k1, p1], fun j q hq => ?_⟩
      cases j with
      | zero =>
        simp only [q7n.go, Option.some.injEq] at hq
        subst hq
        exact ⟨a, by simp [t1, k2, q7o, q5d], fun x => ⟨x.1, by simp [q5f, q6v]⟩⟩
      | succ j =>
        simp only [q7n.go] at hq
        split at hq
        case h_2 => cases hq
        rename_i p hp
        obtain rfl := Option.some.inj hq
        obtain ⟨τf, q1, q2⟩ := p2 j p hp
        exact ⟨τf, by simp [q1, q7o]; omega, fun x => q2 x.2⟩
  | int k => exact single _ (by simp)
  | bool => exact single _ (by simp)
  | str => exact single _ (by simp)
  | row e _ => exact single _ (by simp)
  | st a _ => exact single _ (by simp)
  | arr _ _ => exact single _ (by simp)
theorem qmf {τ0 : Ty} {o : Operand} {τ : Ty} {x : τ.T} {f : Fl} {σ' : St} (h : SA T0 ξ0 w0 tk Tf ξ w σ tm) (ht : takeN E σ τ0 o = some (⟨τ, x⟩, f, σ')) :
    ∃ tk' : Nat → Bs, ∃ T' : Bs, ∃ cs, SA T0 ξ0 w0 tk' (Un Tf T') ξ w σ' tm ∧ Dj T' Tf ∧ ev tm o = mkV τ cs ∧ Rel ξ w τ f x cs T' ∧ f.ok τ = true := by
  have qbh : ∀ e : Ty, Fl.ok e e.full = true := by
    intro e
    induction e with
    | int k => rfl
    | bool => rfl
    | str => rfl
    | row e ih => exact ih
    | pair a b iha ihb =>
      unfold Ty.full
      split
      · exact qgb _
      · simp only [Fl.ok, Fl.l, Fl.r, iha, ihb, Bool.and_self]
    | st a ih => exact ih
    | arr _ _ => rfl
  unfold takeN at ht
  split at ht
  · split at ht
    · simp only [Option.some.injEq, Prod.mk.injEq] at ht
      obtain ⟨h1, rfl, rfl⟩ := ht
      cases h1
      exact ⟨tk, Em, [.slice none 0 0], h.same (qs6 _), Dj.em _, rfl, .inl ⟨rfl, rfl⟩, qbh _⟩
    · cases ht
  · obtain ⟨tk', T', cs, k1, k2, k3, k4, k5, _⟩ := q8b h ht
    exact ⟨tk', T', cs, k1, k2, k3, k4, k5⟩
theorem qmg {τ : Ty} {place : Nat → Option (Nat × Nat)} (hpl : ∀ i q, q7n τ i = some q → q ≠ [] → q.fields = true ∧ ∃ τf : Ty, place i = some (q7o τ q, τf.n) ∧ ∀ x : τ.T, ∃ y : τf.T, q5f τ x q = some ⟨τf, y⟩) :
    ∀ (ps : List (Nat × Operand)) (x : τ.T) (f : Fl) (σ : St) (tk : Nat → Bs) (T : Bs) (cells : Array Value) {x' : τ.T} {f' : Fl} {σ' : St}, SA T0 ξ0 w0 tk T ξ w σ tm → Rel ξ w τ f x cells.toList T → parts E τ ps x f σ = some (x', f', σ') →
      ∃ tk' : Nat → Bs, ∃ T' : Bs, ∃ cells', SA T0 ξ0 w0 tk' T' ξ w σ' tm ∧ Rel ξ w τ f' x' cells'.toList T' ∧ Instr.fill place cells (ps.map fun p => (p.1, ev tm p.2)) = some cells'
  | [], x, f, σ, tk, T, cells, x', f', σ', h, hr, hd => by
    simp only [parts, Option.some.injEq, Prod.mk.injEq] at hd
    obtain ⟨rfl, rfl, rfl⟩ := hd
    exact ⟨tk, T, cells, h, hr, rfl⟩
  | (i, o) :: ps, x, f, σ, tk, T, cells, x', f', σ', h, hr, hd => by
    simp only [parts] at hd
    split at hd
    case h_1 => cases hd
    rename_i q hq
    split at hd
    · cases hd
    rename_i hne
    have hq0 : q ≠ [] := by intro e; subst e; simp at hne
    split at hd
    case h_1 => cases hd
    rename_i s0 hg
    split at hd
    case h_1 => cases hd
    rename_i s1 f1 σ1 ht
    obtain ⟨τ1, y1⟩ := s1
    split at hd
    case h_1 => cases hd
    rename_i y hset
    obtain ⟨tk1, T1, cs, k1, k2, k3, k4, k5⟩ := qmf h ht
    obtain ⟨hqf, τf, p1, p2⟩ := hpl i q hq hq0
    obtain ⟨c1, c2, c3, e1, e2, e3, e4⟩ := hr.set hqf hset k4 (Dj.symm k2)
    have hty : τf = τ1 := by
      obtain ⟨z0, hz0⟩ := qd4 hset
      obtain ⟨z1, hz1⟩ := p2 x
      rw [hz0] at hz1
      cases hz1
      rfl
    subst hty
    obtain ⟨cells1, z1, z2⟩ := qf3 (rest := ps.map fun p => (p.1, ev tm p.2)) (v := ev tm o) p1 (by rw [k3]; exact q8t k4 k5) k4.len e1 e2 e3
    obtain ⟨tk', T', cells', r1, r2, r3⟩ := qmg hpl ps y (f.put q f1) σ1 tk1 (Un T T1) cells1 k1 (by rw [z1]; exact e4) hd
    exact ⟨tk', T', cells', r1, r2, by rw [List.map_cons, z2]; exact r3⟩
theorem qsg {t : TypeId} {ps : Array (Nat × Operand)} {o : Oper} {τ : Ty} {x : τ.T} {f : Fl} {σ' : St} (he : tok P τ t) (h : SA T0 ξ0 w0 tk Em ξ w σ tm) (hop : o.op = .build t ps) (hd : parts E τ ps.toList τ.z τ.full σ = some (x, f, σ')) (hst : ∃ a, τ = .st a) :
    Gd P T0 ξ0 w0 σ' tm (execOp (ev tm) o) (.d τ x f) w := by
  obtain ⟨a, rfl⟩ := hst
  obtain ⟨it, z, i1, i2, _, i4, i5, i6⟩ := he.info
  obtain ⟨fs, u1, u2, _⟩ := he.st
  obtain ⟨places, p1, p2⟩ := qph a fs.toList 0 u2
  have hpl : ∀ i q, q7n (.st a) i = some q → q ≠ [] → q.fields = true ∧ ∃ τf : Ty, (places.toArray[·]?) i = some (q7o (.st a) q, τf.n) ∧ ∀ x : (Ty.st a).T, ∃ y : τf.T, q5f (.st a) x q = some ⟨τf, y⟩ := by
    intro i q hq hne
    obtain ⟨τf, q1, q2⟩ := p2 i q hq
    exact ⟨(fld a fs.toList 0 i u2 hq).1, τf, by simpa [q7o] using q1, fun x => (q2 x).imp fun y hy => qpc hne hy⟩
  obtain ⟨tk', T', cells', r1, r2, r3⟩ := qmg hpl ps.toList _ _ σ tk Em z.cells h (Rel.zero i5) hd
  have hb : P.built t (ps.map fun (i, x) => (i, ev tm x)).toList = some cells' := by
    have e1 : (ps.map fun (i, x) => (i, ev tm x)).toList = ps.toList.map fun p => (p.1, ev tm p.2) := by simp
    rw [e1]
    unfold Program.built
    simp only [i1, u1, i4, p1]
    exact r3
  refine ⟨.agg cells', w, ξ, tk', T', .inl ?_, r1, ⟨cells'.toList, by simp [mkV], r2⟩, trivial⟩
  simp only [execOp, hop, Sem.run_bind, run_build w t _ cells' hb, Result.andThen, Sem.run_pure]
theorem qpi {k : IntKind} (h : SA T0 ξ0 w0 tk Em ξ w σ tm) : ∀ (ps : List (Nat × Operand)) (l l' : List Int) (cells : Array Value), qp0 σ k ps l = some l' → cells.toList = l.map (Value.int k) →
    l'.length = l.length ∧ ∃ cells', Instr.fill (fun i => some (i * 1, 1)) cells (ps.map fun p => (p.1, ev tm p.2)) = some cells' ∧ cells'.toList = l'.map (Value.int k)
  | [], l, l', cells, hd, hc => by
    cases hd
    exact ⟨rfl, cells, rfl, hc⟩
  | (i, o) :: ps, l, l', cells, hd, hc => by
    simp only [qp0] at hd
    split at hd
    case h_2 => cases hd
    rename_i k' y hy
    split at hd
    case isFalse => cases hd
    rename_i hk
    obtain ⟨rfl, hi⟩ := hk
    have hv : ev tm o = .int k' y := (q78 h hy).int
    have hlc : cells.toList.length = l.length := by rw [hc, List.length_map]
    have hsp : cells.toList = cells.toList.take i ++ ((cells.toList.drop i).take 1 ++ cells.toList.drop (i + 1)) := by
      rw [← List.drop_drop, List.take_append_drop, List.take_append_drop]
    obtain ⟨cells1, e1, e2⟩ := qf3 (place := fun i => some (i * 1, 1)) (i := i) (off := i * 1) (size := 1) (v := .int k' y) (rest := ps.map fun p => (p.1, ev tm p.2)) (vs := [.int k' y]) rfl rfl rfl hsp (by rw [List.length_take]; omega) (by rw [List.length_take, List.length_drop]; omega)
    have hc1 : cells1.toList = (l.set i y).map (Value.int k') := by
      rw [e1, hc, List.map_set, List.set_eq_take_append_cons_drop, if_pos (by rw [List.length_map]; omega)]
      rfl
    obtain ⟨r1, cells', r2, r3⟩ := qpi h ps (l.set i y) l' cells1 hd hc1
    refine ⟨by rw [r1, List.length_set], cells', ?_, r3⟩
    rw [List.map_cons, hv, e2]
    exact r2
theorem qld {t : TypeId} {ps : Array (Nat × Operand)} {o : Oper} {m : Nat} {k : IntKind} {l : List Int} (he : tok P (.arr m k) t) (h : SA T0 ξ0 w0 tk Em ξ w σ tm) (hop : o.op = .build t ps) (hd : qp0 σ k ps.toList (List.replicate (m + 1) 0) = some l) :
    Gd P T0 ξ0 w0 σ tm (execOp (ev tm) o) (.d (.arr m k) l .ro) w := by
  obtain ⟨it, z, i1, i2, _, i4, i5, i6⟩ := he.info
  obtain ⟨te, u1, u2⟩ := he.arr
  obtain ⟨ie, ze, j1, j2, _⟩ := u2.info
  have hz := Rel.zero (ξ := fun _ => 0) (w := default) i5
  obtain ⟨z1, z2⟩ := hz
  obtain ⟨z3, z4⟩ := z2 (by simp [Ty.full])
  obtain ⟨r1, cells', r2, r3⟩ := qpi h ps.toList _ _ z.cells hd z4
  have hb : P.built t (ps.map fun (i, x) => (i, ev tm x)).toList = some cells' := by
    have e1 : (ps.map fun (i, x) => (i, ev tm x)).toList = ps.toList.map fun p => (p.1, ev tm p.2) := by simp
    rw [e1]
    unfold Program.built
    simp only [i1, u1, i4, j1, j2]
    exact r2
  refine Gd.pure h (v := .agg cells') ?_ ⟨cells'.toList, by simp [mkV], by rw [r3]; simp [r1], fun _ => ⟨by simp [r1], r3⟩⟩ trivial
  simp only [execOp, hop, Sem.run_bind, run_build w t _ cells' hb, Result.andThen, Sem.run_pure]
theorem qv3 {cm vs : List Value} {c1 c2 c3 : List Value} {n i j k : Nat} (hc : cm = c1 ++ (c2 ++ c3)) (h1 : c1.length = i * n) (h2 : c2.length = n) (h3 : vs.length = n) (hk : cm.length = k * n) (hi : i < k) (hj : j < k) :
    seg (c1 ++ (vs ++ c3)) n j = if j = i then vs else seg cm n j := by
  apply List.ext_getElem?
  intro m
  by_cases hm : m < n
  · rw [q6d hm]
    by_cases e : j = i
    · subst e
      rw [if_pos rfl, List.getElem?_append_right (by omega), List.getElem?_append_left (by omega)]
      congr 1; omega
    · rw [if_neg e, q6d hm, hc]
      rcases Nat.lt_or_gt_of_ne e with h | h
      · have : (j + 1) * n ≤ i * n := Nat.mul_le_mul_right _ h
        rw [Nat.add_mul, Nat.one_mul] at this
        rw [List.getElem?_append_left (by omega), List.getElem?_append_left (by omega)]
      · have : (i + 1) * n ≤ j * n := Nat.mul_le_mul_right _ h
        rw [Nat.add_mul, Nat.one_mul] at this
        rw [List.getElem?_append_right (by omega), List.getElem?_append_right (by omega), List.getElem?_append_right (by omega), List.getElem?_append_right (by omega), h2, h3]
  · rw [List.getElem?_eq_none (by simp only [seg, List.length_take]; omega)]
    split
    · rw [List.getElem?_eq_none (by omega)]
    · rw [List.getElem?_eq_none (by simp only [seg, List.length_take]; omega)]
theorem qmh {e : Ty} {g : Fl} (hg : g.ok e = true) : ∀ (ps : List (Nat × Operand)) (l : List e.T) (σ : St) (tk : Nat → Bs) (T : Bs) (ξ : Im) (Te : Nat → Bs) (cells : Array Value) {l' : List e.T} {σ' : St}, SA T0 ξ0 w0 tk T ξ w σ tm → cells.size = l.length * e.n → (∀ i, Sb (Te i) T) → (∀ i j, i ≠ j → Dj (Te i) (Te j)) →
      (∀ i (hi : i < l.length), Rel ξ w e g l[i] (seg cells.toList e.n i) (Te i)) → elems E e g ps l σ = some (l', σ') →
      ∃ tk' : Nat → Bs, ∃ T' : Bs, ∃ ξ' : Im, ∃ Te' : Nat → Bs, ∃ cells' : Array Value, SA T0 ξ0 w0 tk' T' ξ' w σ' tm ∧ l'.length = l.length ∧ cells'.size = cells.size ∧ (∀ i, Sb (Te' i) T') ∧ (∀ i j, i ≠ j → Dj (Te' i) (Te' j)) ∧
        (∀ i (hi : i < l'.length), Rel ξ' w e g l'[i] (seg cells'.toList e.n i) (Te' i)) ∧ Instr.fill (fun i => some (i * e.n, e.n)) cells (ps.map fun p => (p.1, ev tm p.2)) = some cells'
  | [], l, σ, tk, T, ξ, Te, cells, l', σ', h, hsz, s, dj, hel, hd => by
    simp only [elems, Option.some.injEq, Prod.mk.injEq] at hd
    obtain ⟨rfl, rfl⟩ := hd
    exact ⟨tk, T, ξ, Te, cells, h, rfl, rfl, s, dj, hel, rfl⟩
  | (i, o) :: ps, l, σ, tk, T, ξ, Te, cells, l', σ', h, hsz, s, dj, hel, hd => by
    simp only [elems] at hd
    split at hd
    case h_1 => cases hd
    rename_i s1 f1 σ1 ht
    split at hd
    case h_1 => cases hd
    rename_i y hc
    have hs1 := q5a hc
    subst hs1
    split at hd
    case isFalse => cases hd
    rename_i hi
    split at hd
    case isFalse => cases hd
    rename_i hfl
    obtain ⟨tk1, T1, cs, k1, k2, k3, k4, k5⟩ := qmf h ht
    -- the value at the flag that is wanted, in the ghost that then stands
    have hval : ∃ ξ1 : Im, ∃ T2 : Bs, SA T0 ξ0 w0 tk1 (Un T T2) ξ1 w σ1 tm ∧ Dj T2 T ∧ Rel ξ1 w e g y cs T2 ∧ q9y T ξ w ξ1 w := by
      simp only [Bool.or_eq_true, decide_eq_true_eq, Bool.and_eq_true] at hfl
      rcases hfl with (rfl | ⟨rfl, hok⟩) | hflat
      · exact ⟨ξ, T1, k1, k2, k4, q9y.refl _ _ _⟩
      · refine ⟨frz ξ w T1, Em, (k1.freeze (T' := T1) (Sb.r _ _)).drop (fun b hb => ?_), Dj.em _, k4.frz k5, qeg ξ w T1 T k2⟩
        rcases hb with hb | hb
        · exact ⟨.inl hb, fun hx => k2 b hx hb⟩
        · exact hb.elim
      · exact ⟨ξ, Em, k1.drop (Sb.both (Sb.refl _) (Sb.em _)), Dj.em _, k4.flatAny k5 hflat, q9y.refl _ _ _⟩
    obtain ⟨ξ1, T2, m1, m2, m3, m4⟩ := hval
    have hn := e.n_pos
    have hle : (i + 1) * e.n ≤ l.length * e.n := Nat.mul_le_mul_right _ hi
    rw [Nat.add_mul, Nat.one_mul] at hle
    have hlen : cells.toList.length = l.length * e.n := by rw [Array.length_toList, hsz]
    have hsplit : cells.toList = cells.toList.take (i * e.n) ++ (seg cells.toList e.n i ++ cells.toList.drop (i * e.n + e.n)) := by
      unfold seg
      rw [← List.drop_drop, List.take_append_drop, List.take_append_drop]
    have h1 : (cells.toList.take (i * e.n)).length = i * e.n := by rw [List.length_take]; omega
    have h2 : (seg cells.toList e.n i).length = e.n := qbg hlen hi
    obtain ⟨cells1, z1, z2⟩ := qf3 (rest := ps.map fun p => (p.1, ev tm p.2)) (place := fun i => some (i * e.n, e.n)) (i := i) (v := ev tm o) rfl (by rw [k3]; exact q8t k4 k5) k4.len hsplit h1 h2
    have hsz1 : cells1.size = cells.size := by
      rw [← Array.length_toList, z1, ← Array.length_toList]
      conv => rhs; rw [hsplit]
      simp only [List.length_append]
      rw [h2, k4.len]
    obtain ⟨tk', T', ξ', Te', cells', r1, r2, r3, r4, r5, r6, r7⟩ := qmh hg ps (l.set i y) σ1 tk1 (Un T T2) ξ1 (fun j => if j = i then T2 else Te j) cells1 m1 (by rw [hsz1, hsz]; simp) (fun j => by
      by_cases e' : j = i
      · simp only [e', if_true]; exact Sb.r _ _
      · simp only [e', if_false]; exact (s j).trans (Sb.l _ _)) (fun j m hjm => by
      by_cases e' : j = i
      · have : m ≠ i := fun x => hjm (e'.trans x.symm)
        simp only [e', if_true, this, if_false]
        exact m2.sub (Sb.refl _) (s m)
      · by_cases e'' : m = i
        · simp only [e', if_false, e'', if_true]
          exact Dj.symm (m2.sub (Sb.refl _) (s j))
        · simp only [e', e'', if_false]; exact dj j m hjm) (fun j hj => by
      have hj' : j < l.length := by simpa using hj
      rw [z1, qv3 hsplit h1 h2 k4.len hlen hi hj']
      by_cases e' : j = i
      · subst e'
        simp only [if_true]
        simpa using m3
      · simp only [e', if_false]
        rw [List.getElem_set_ne (fun x => e' x.symm)]
        exact (hel j hj').keep (m4.sub (s j))) hd
    exact ⟨tk', T', ξ', Te', cells', r1, by rw [r2]; simp, by rw [r3, hsz1], r4, r5, r6, by rw [List.map_cons, z2]; exact r7⟩
theorem qc0 {t : TypeId} {n : Nat} {ps : Array (Nat × Operand)} {o : Oper} {e : Ty} {g : Fl} {l : List e.T} {σ' : St} (he : tok P (.row e) t) (h : SA T0 ξ0 w0 tk Em ξ w σ tm) (hop : o.op = .buildSlice t n ps) (hn : ¬ n * e.n > 16777216) (hg : g = e.full ∨ g = .ro) (hgk : g.ok e = true)
    (hd : elems E e g ps.toList (List.replicate n e.z) σ = some (l, σ')) : Gd P T0 ξ0 w0 σ' tm (execOp (ev tm) o) (.d (.row e) l (.own g)) w := by
  obtain ⟨te, u1, u2⟩ := he.row
  obtain ⟨it, z, i1, i2, _, i4, i5, i6⟩ := u2.info
  have hzs : z.cells.size = e.n := by
    have := (Rel.zero (ξ := fun _ => 0) (w := default) i5).len
    simpa using this
  have hpos := e.n_pos
  have hz : ∀ ξ' : Im, Rel ξ' w e g e.z z.cells.toList Em := by
    intro ξ'
    rcases hg with rfl | rfl
    · exact Rel.zero i5
    · have hx := Rel.zero (ξ := ξ') (w := w) i5
      exact hx.freeze (fun b => Nat.le_refl _) (by
        have : ∀ e : Ty, Fl.ok e e.full = true := by
          intro e
          induction e with
          | int k => rfl
          | bool => rfl
          | str => rfl
          | row e ih => exact ih
          | pair a b iha ihb =>
            unfold Ty.full
            split
            · exact qgb _
            · simp only [Fl.ok, Fl.l, Fl.r, iha, ihb, Bool.and_self]
          | st a ih => exact ih
          | arr _ _ => rfl
        exact this e) (fun b c t fz hb => hb.elim)
  have hsz0 : (madeCells z.cells (n * e.n)).size = (List.replicate n e.z).length * e.n := by rw [size_madeCells]; simp
  obtain ⟨tk', T', ξ', Te', cells', r1, r2, r3, r4, r5, r6, r7⟩ := qmh hgk ps.toList (List.replicate n e.z) σ tk Em ξ (fun _ => Em) (madeCells z.cells (n * e.n)) h hsz0 (fun _ => Sb.em _) (fun _ _ _ => Dj.em _) (fun i hi => by
    have hi' : i < n := by simpa using hi
    rw [qme hzs hpos hi', List.getElem_replicate]
    exact hz ξ) hd
  have hln : l.length = n := by rw [r2]; simp
  -- the run
  have hfill : Instr.fill (fun i => some (i * e.n, e.n)) (madeCells z.cells (n * e.n)) (ps.map fun (i, x) => (i, ev tm x)).toList = some cells' := by
    have e1 : (ps.map fun (i, x) => (i, ev tm x)).toList = ps.toList.map fun p => (p.1, ev tm p.2) := by simp
    rw [e1]; exact r7
  have hrun : (Instr.buildSlice t n (ps.map fun (i, x) => (i, ev tm x))).run P w = .ok (.slice (some ⟨w.heap.size, 0, none⟩) n n) (w.alloc (.cells cells' te)) := by
    have hszr : (sizeOf te).run P w = .ok e.n w := u2.size w
    have hzr : (zeroValue te).run P w = .ok z w := by simp [zeroValue, typeInfo, i1, i4]
    by_cases h0 : n * e.n = 0
    · have hm : madeCells z.cells (n * e.n) = (#[] : Array Value) := by rw [h0]; simp [madeCells]
      rw [hm] at hfill
      simp only [Instr.buildSlice, Sem.run_bind, run_underlying u1, Result.andThen, hszr, if_neg hn, h0, if_true, Sem.run_ite, Sem.run_pure]
      have e0 : ∀ z : Array Value, (Array.range 0).map (fun x => z[x % z.size]!) = #[] := by intro z; simp
      simp only [e0, hfill]
      simp [newRow]
    · simp only [Instr.buildSlice, Sem.run_bind, run_underlying u1, Result.andThen, hszr, if_neg hn, h0, if_false, Sem.run_ite, Sem.run_pure, hzr]
      have hm : (Array.range (n * e.n)).map (fun x => z.cells[x % z.cells.size]!) = madeCells z.cells (n * e.n) := rfl
      simp only [hm, hfill]
      simp [newRow]
  have wf' := r1.wf
  have k := qlb (t := te) (g := g) (cells := cells') (cap := n) (l := l) (Te := Te') wf' (by omega) (by rw [r3, size_madeCells]; exact Nat.le_refl _) (fun i b hb => (r1.mayf b (r4 i b hb)).2) r5 r6 (0, 0) (fun _ _ => by simp)
  rw [hln] at k
  refine ⟨_, _, ξ', tk', _, .inl ?_, r1.step (U := Em) (Fr.alloc _ _ _ (.cells cells' te)) (Sb.em _) (wf'.alloc _) (fun b hb => ?_), ⟨_, rfl, k⟩, trivial⟩
  · simp only [execOp, hop, Sem.run_bind, hrun, Result.andThen, Sem.run_pure]
    rfl
  · rw [size_alloc]
    rcases hb with hb | ⟨i, hb⟩
    · subst hb; exact ⟨.inr (Nat.le_refl _), Nat.lt_succ_self _⟩
    · exact ⟨.inl (r4 i b hb), Nat.lt_succ_of_lt (r1.mayf b (r4 i b hb)).2⟩
end
end Go.Proofs.YtjfkeknnjjlepaaGreatDoor.Rf
end

section
/- Every operation but a call of a function. Nothing of any program. -/
namespace Go.Proofs.YtjfkeknnjjlepaaGreatDoor.Rf
open Go Go.RowKit
set_option linter.unusedVariables false
set_option linter.unusedSimpArgs false
section
variable {P : Program} {E : q6f} {T0 : Bs} {ξ0 : Im} {w0 : World} {tk : Nat → Bs} {Tf : Bs} {ξ : Im} {w : World} {σ : St} {tm : Array Value}
theorem qbh : (e : Ty) → Fl.ok e e.full = true
  | .int _ => rfl
  | .bool => rfl
  | .str => rfl
  | .row e => qbh e
  | .pair a b => by
    unfold Ty.full
    split
    · exact qgb _
    · simp only [Fl.ok, Fl.l, Fl.r, qbh a, qbh b, Bool.and_self]
  | .st a => qbh a
  | .arr _ _ => rfl
theorem qwo {o : Oper} {g : Bool} {a : AV} {σ' : St} (he : EOk P E ξ0 w0) (h : SA T0 ξ0 w0 tk Em ξ w σ tm) (hd : op1 E σ o = some (g, a, σ')) (hg : g = true) : Gd P T0 ξ0 w0 σ' tm (execOp (ev tm) o) a w := by
  unfold op1 at hd
  split at hd
  · -- move
    rename_i x hop
    simp only [Option.some.injEq, Prod.mk.injEq] at hd
    obtain ⟨_, rfl, rfl⟩ := hd
    exact qy4 h hop
  · -- assign
    rename_i x hop
    split at hd
    case h_2 => cases hd
    rename_i a1 σ1 ht
    simp only [Option.some.injEq, Prod.mk.injEq] at hd
    obtain ⟨_, rfl, rfl⟩ := hd
    exact qpa h hop ht
  · -- a function that captures
    rename_i f fst cap hop
    split at hd
    case h_2 => cases hd
    rename_i u h1 h2
    split at hd
    case h_2 => cases hd
    simp only [Option.some.injEq, Prod.mk.injEq] at hd
    obtain ⟨_, rfl, rfl⟩ := hd
    exact qwi h hop h1 h2
  · -- alloc
    rename_i t hop
    split at hd
    case h_2 => cases hd
    rename_i τ hE
    simp only [Option.some.injEq, Prod.mk.injEq] at hd
    obtain ⟨_, rfl, rfl⟩ := hd
    exact qs9 (he.ty _ _ hE) h hop
  · -- box
    rename_i t x hop
    split at hd
    case h_2 => cases hd
    rename_i τ hE
    split at hd
    case h_2 => cases hd
    rename_i s f σ1 ht
    split at hd
    case h_2 => cases hd
    rename_i y hc
    simp only [Option.some.injEq, Prod.mk.injEq] at hd
    obtain ⟨_, rfl, rfl⟩ := hd
    have := q5a hc
    subst this
    exact qwj h hop ht
  · -- build
    rename_i t ps hop
    split at hd
    · rename_i m k hE
      cases hl : qp0 σ k ps.toList (List.replicate (m + 1) 0) with
      | none => rw [hl] at hd; cases hd
      | some l =>
        rw [hl] at hd
        simp only [Option.map_some, Option.some.injEq, Prod.mk.injEq] at hd
        obtain ⟨_, rfl, rfl⟩ := hd
        exact qld (he.ty _ _ hE) h hop hl
    · rename_i τ hna hE
      split at hd
      case h_2 => cases hd
      rename_i x f σ1 hp
      split at hd
      case isFalse => cases hd
      rename_i hst
      simp only [Option.some.injEq, Prod.mk.injEq] at hd
      obtain ⟨_, rfl, rfl⟩ := hd
      refine qsg (he.ty _ _ hE) h hop hp ?_
      cases τ <;> simp [Ty.isSt] at hst
      exact ⟨_, rfl⟩
    · cases hd
  · -- buildSlice
    rename_i t n ps hop
    split at hd
    case h_2 => cases hd
    rename_i e hE
    split at hd
    · cases hd
    rename_i hn
    split at hd
    · rename_i l σ1 hp
      simp only [Option.some.injEq, Prod.mk.injEq] at hd
      obtain ⟨_, rfl, rfl⟩ := hd
      exact qc0 (he.ty _ _ hE) h hop hn (.inl rfl) (qbh e) hp
    · split at hd
      case h_2 => cases hd
      rename_i l σ1 hp
      simp only [Option.some.injEq, Prod.mk.injEq] at hd
      obtain ⟨_, rfl, rfl⟩ := hd
      exact qc0 (he.ty _ _ hE) h hop hn (.inr rfl) (qgb e) hp
  · -- load
    rename_i t u hop
    split at hd
    case h_2 => cases hd
    rename_i a1 hp
    split at hd
    case isFalse => cases hd
    rename_i hty
    simp only [Option.some.injEq, Prod.mk.injEq] at hd
    obtain ⟨_, rfl, rfl⟩ := hd
    exact quw he h hop hp hty
  · -- store
    rename_i t u x hop
    split at hd
    case h_2 => cases hd
    rename_i s f σ1 ht
    split at hd
    case isFalse => cases hd
    rename_i hE
    split at hd
    case h_2 => cases hd
    rename_i σ2 hp
    simp only [Option.some.injEq, Prod.mk.injEq] at hd
    obtain ⟨_, rfl, rfl⟩ := hd
    exact qsa he h hop ht hE hp
  · -- nilCheck
    rename_i u hop
    split at hd
    · rename_i τ x f r ha
      simp only [Option.some.injEq, Prod.mk.injEq] at hd
      obtain ⟨_, rfl, rfl⟩ := hd
      obtain ⟨b, c, t, fz, T', k1, _⟩ := h.at_box ha
      exact qbf h hop ⟨b, 0, k1⟩
    · rename_i h0 p g1 v ha
      split at hd
      case isFalse => cases hd
      rename_i hv
      simp only [Option.some.injEq, Prod.mk.injEq] at hd
      obtain ⟨_, rfl, rfl⟩ := hd
      obtain ⟨b, off, k1, _⟩ := h.at_ref ha hv
      exact qbf h hop ⟨b, off, k1⟩
    · rename_i τ x ha
      simp only [Option.some.injEq, Prod.mk.injEq] at hd
      obtain ⟨_, rfl, rfl⟩ := hd
      have ho := h.own u
      rw [ha] at ho
      obtain ⟨b, off, cs, k1, _⟩ := ho
      exact qbf h hop ⟨b, off, k1⟩
    · cases hd
  · -- binOp
    rename_i op t x y yt hop
    split at hd
    case h_2 => cases hd
    rename_i a1 b1 hx hy
    split at hd
    case h_2 => cases hd
    rename_i g1 s hb
    simp only [Option.some.injEq, Prod.mk.injEq] at hd
    obtain ⟨rfl, rfl, rfl⟩ := hd
    exact qsc he h hop hx hy hb hg
  · -- unOp
    rename_i op t x hop
    split at hd
    case h_2 => cases hd
    rename_i a1 hx
    split at hd
    case h_2 => cases hd
    rename_i s hs
    simp only [Option.some.injEq, Prod.mk.injEq] at hd
    obtain ⟨_, rfl, rfl⟩ := hd
    exact qv2 h hop hx hs
  · -- convert
    rename_i t' t x hop
    split at hd
    case h_2 => cases hd
    rename_i τ s hE hx
    split at hd
    case isFalse => cases hd
    rename_i hE'
    split at hd
    case h_2 => cases hd
    rename_i s1 f hc
    simp only [Option.some.injEq, Prod.mk.injEq] at hd
    obtain ⟨_, rfl, rfl⟩ := hd
    exact qnz he h hop hE hx hE' hc
  · -- makeSlice
    rename_i t l c hop
    split at hd
    case h_2 => cases hd
    rename_i e n m hE hl hc
    simp only [Option.some.injEq, Prod.mk.injEq] at hd
    obtain ⟨rfl, rfl, rfl⟩ := hd
    simp only [Bool.and_eq_true, decide_eq_true_eq] at hg
    exact qjb (he.ty _ _ hE) h hop hl hc hg.1 hg.2.1 hg.2.2
  · -- slice
    rename_i t u lo hi hop
    split at hd
    · rename_i s hr
      split at hd
      case isFalse => cases hd
      rename_i hE
      split at hd
      case h_2 => cases hd
      rename_i x y hx hy
      simp only [Option.some.injEq, Prod.mk.injEq] at hd
      obtain ⟨rfl, rfl, rfl⟩ := hd
      simp only [Bool.and_eq_true, decide_eq_true_eq] at hg
      exact qj8 (he.ty _ _ hE) h hop hr hx hy hg.1 hg.2.1 hg.2.2
    · rename_i e l hr
      split at hd
      case isFalse => cases hd
      rename_i hE
      split at hd
      case h_2 => cases hd
      rename_i x y hx hy
      split at hd
      case h_2 => cases hd
      rename_i hh hm
      simp only [Option.some.injEq, Prod.mk.injEq] at hd
      obtain ⟨rfl, rfl, rfl⟩ := hd
      simp only [Bool.and_eq_true, decide_eq_true_eq] at hg
      have z := qj9 (he.ty _ _ hE) h hop hr hx hy hg.1 hg.2.1 hg.2.2 hm
      cases hh with
      | none => exact z
      | some q => obtain ⟨q1, q2, q3⟩ := q; exact z
    · cases hd
  · -- fieldAddr
    rename_i s u i hop
    split at hd
    case h_2 => cases hd
    rename_i a1 hp
    simp only [Option.some.injEq, Prod.mk.injEq] at hd
    obtain ⟨_, rfl, rfl⟩ := hd
    exact qj2 he h hop hp
  · -- field
    rename_i s u i hop
    split at hd
    case h_2 => cases hd
    rename_i τ hE
    split at hd
    case h_2 => cases hd
    rename_i q hq
    split at hd
    · cases hd
    rename_i hne
    split at hd
    case h_2 => cases hd
    rename_i a1 hp
    simp only [Option.some.injEq, Prod.mk.injEq] at hd
    obtain ⟨_, rfl, rfl⟩ := hd
    exact qsf (he.ty _ _ hE) h hop hq (by simpa using hne) hp
  · -- indexAddr
    rename_i t x i hop
    split at hd
    · rename_i e n hE hi
      split at hd
      case h_2 => cases hd
      rename_i u
      split at hd
      case h_2 => cases hd
      rename_i l a1 hp
      simp only [Option.some.injEq, Prod.mk.injEq] at hd
      obtain ⟨rfl, rfl, rfl⟩ := hd
      simp only [Bool.and_eq_true, decide_eq_true_eq] at hg
      exact qj3 (he.ty _ _ hE) h hop hi hp hg.1 hg.2
    · rename_i m k n hE hi
      cases hp : qu1 E σ m k x n.toNat with
      | none => rw [hp] at hd; cases hd
      | some a1 =>
        rw [hp] at hd
        simp only [Option.map_some, Option.some.injEq, Prod.mk.injEq] at hd
        obtain ⟨rfl, rfl, rfl⟩ := hd
        simp only [Bool.and_eq_true, decide_eq_true_eq] at hg
        exact ql9 he (he.ty _ _ hE) h hop hi hp hg.1 hg.2
    · cases hd
  · -- index
    rename_i t x i hop
    split at hd
    · rename_i s n hx hi
      split at hd
      · cases hd
      rename_i hE
      simp only [ne_eq, Decidable.not_not] at hE
      simp only [Option.some.injEq, Prod.mk.injEq] at hd
      obtain ⟨rfl, rfl, rfl⟩ := hd
      simp only [Bool.and_eq_true, decide_eq_true_eq] at hg
      exact qsb (he.ty _ _ hE) h hop hx hi hg.1 hg.2
    · rename_i m k l n hx hi
      split at hd
      · cases hd
      rename_i hE
      simp only [ne_eq, Decidable.not_not] at hE
      simp only [Option.some.injEq, Prod.mk.injEq] at hd
      obtain ⟨rfl, rfl, rfl⟩ := hd
      simp only [Bool.and_eq_true, decide_eq_true_eq] at hg
      exact qpe (he.ty _ _ hE) h hop hx hi hg.1 hg.2
    · cases hd
  · -- extract
    rename_i u i hop
    split at hd
    case h_2 => cases hd
    rename_i l ha
    split at hd
    case h_2 => cases hd
    rename_i a1 hi
    split at hd
    case isFalse => cases hd
    rename_i hpl
    simp only [Option.some.injEq, Prod.mk.injEq] at hd
    obtain ⟨_, rfl, rfl⟩ := hd
    split
    · rename_i hf; exact qga h hop ha hi hf
    · exact qnw h hop ha hi hpl
  · -- builtin
    rename_i c hop
    split at hd
    case h_2 => cases hd
    rename_i b hc
    exact qny he h hop hc hd hg
  · cases hd
end
end Go.Proofs.YtjfkeknnjjlepaaGreatDoor.Rf
end

section
/- Calls of functions. Nothing of any program. -/
namespace Go.Proofs.YtjfkeknnjjlepaaGreatDoor.Rf
open Go Go.RowKit
set_option linter.unusedVariables false
set_option linter.unusedSimpArgs false
def Can (P : Program) (f : FuncId) : Prop := ∃ fn, P.funcs[f]? = some fn ∧ (fn.name == "runtime.NumGoroutine") = false ∧ fn.body.isSome = true
structure Jd (P : Program) where
  n : Nat
  J : World → Prop
  st : ∀ w w', (∀ b, b < n → w'.heap[b]? = w.heap[b]?) → J w → J w'
structure GOk (P : Program) (J : Jd P) (T : Bs) (ξ : Im) (w : World) : Prop where
  sz : J.n ≤ w.heap.size
  tk : ∀ b, T b → J.n ≤ b
  j : J.J w
  im : ∀ b, b < J.n → ∀ o v, w.cell? ⟨b, o, none⟩ = some v → o < ξ b
theorem GOk.step {P : Program} {J : Jd P} {T T' : Bs} {ξ ξ' : Im} {w w' : World} (h : GOk P J T ξ w) (f : Fr T ξ w ξ' w') (ht : ∀ b, T' b → T b ∨ w.heap.size ≤ b) : GOk P J T' ξ' w' := by
  have hb : ∀ b, b < J.n → w'.heap[b]? = w.heap[b]? ∧ ξ' b = ξ b := fun b hb => f.blk b (Nat.lt_of_lt_of_le hb h.sz) fun x => by have := h.tk b x; omega
  exact ⟨Nat.le_trans h.sz f.size, fun b hb => (ht b hb).elim (h.tk b) fun x => Nat.le_trans h.sz x, J.st w w' (fun b k => (hb b k).1) h.j, fun b k o v hv => by rw [(hb b k).2]; exact h.im b k o v ((q81 (hb b k).1 o).symm.trans hv)⟩
theorem GOk.up {P : Program} {J : Jd P} {T : Bs} {ξ ξ' : Im} {w : World} (h : GOk P J T ξ w) (u : ∀ b, ξ b ≤ ξ' b) : GOk P J T ξ' w := ⟨h.sz, h.tk, h.j, fun b k o v hv => Nat.lt_of_lt_of_le (h.im b k o v hv) (u b)⟩
def GlJ {P : Program} (J : Jd P) (E : q6f) : Prop := ∀ w, J.J w → ∀ n k l, E.gs.lookup n = some (k, l) → n < J.n ∧ ∀ i, i < l.length → w.cell? ⟨n, i, none⟩ = some (.int k (l.getD i 0))
def qwe (P : Program) (J : Jd P) (E : q6f) : Prop := TOk P E ∧ GlJ J E
theorem EOk.mk' {P : Program} {J : Jd P} {E : q6f} {T : Bs} {ξ : Im} {w : World} (h : TOk P E) (g : GlJ J E) (k : GOk P J T ξ w) : EOk P E ξ w :=
  ⟨h, fun n q l hl i hi => ⟨(g w k.j n q l hl).2 i hi, k.im n (g w k.j n q l hl).1 i _ ((g w k.j n q l hl).2 i hi)⟩⟩
def Snd (P : Program) (J : Jd P) (n : FuncId) (ce : CE) : Prop :=
  ∀ (x : q63 (ce.ps.map (·.τ))) r, ce.F x = some r → ∀ (ξ : Im) (w : World) (vs : Array Value) (tk : Nat → Bs), Wf ξ w → GOk P J (fun b => ∃ i, tk i b) ξ w → vs.size = ce.ps.length → (∀ i b, tk i b → b < w.heap.size) → (∀ i j, i ≠ j → Dj (tk i) (tk j)) →
    (∀ i p s, ce.ps[i]? = some p → (unpack _ x)[i]? = some s → q6c ξ w (q88 p s) (vs.getD i undef) (tk i)) →
    Calls P n vs w fun e w' => ∃ v, ∃ ξ' : Im, ∃ tr tb : Bs, e = .returned v ∧ Fr (fun b => ∃ i, tk i b) ξ w ξ' w' ∧ Wf ξ' w' ∧ q6c ξ' w' (q9x (q5w ce.rs (unpack _ r))) v tr ∧
      (∀ i p, ce.ps[i]? = some p → p.isIn = true → ∃ s, (unpack _ r)[ce.rs.length]? = some s ∧ s.1 = p.τ ∧ q6c ξ' w' (q88 p s) (vs.getD i undef) tb) ∧
      Dj tr tb ∧ (∀ b, tr b ∨ tb b → ((∃ i, tk i b) ∨ w.heap.size ≤ b) ∧ b < w'.heap.size)
theorem unpack_pack : {l : List Ty} → {ss : List Sv} → {x : q63 l} → qg9 l ss = some x → unpack l x = ss
  | [], [], x, h => rfl
  | [], _ :: _, x, h => by simp [qg9] at h
  | [a], [], x, h => by simp [qg9] at h
  | [a], [s], x, h => by
    have := q5a (show q6h a s = some x from h)
    rw [this]; rfl
  | [a], _ :: _ :: _, x, h => by simp [qg9] at h
  | a :: b :: l, [], x, h => by simp [qg9] at h
  | a :: b :: l, s :: ss, x, h => by
    simp only [qg9] at h
    split at h
    · rename_i x1 x2 h1 h2
      obtain rfl := Option.some.inj h
      have e1 := q5a h1
      have e2 := unpack_pack h2
      simp only [unpack, e2, e1]
    · cases h
theorem q6w : {l : List Ty} → (x : q63 l) → (unpack l x).map (·.1) = l
  | [], x => rfl
  | [a], x => rfl
  | a :: b :: l, x => by simp only [unpack, List.map_cons, q6w (l := b :: l) x.2]
section
variable {P : Program} {E : q6f} {T0 : Bs} {ξ0 : Im} {w0 : World} {tk : Nat → Bs} {Tf : Bs} {ξ : Im} {w : World} {σ : St} {tm : Array Value}
theorem Rel.low {ξ' : Im} : {τ : Ty} → {f : Fl} → {x : τ.T} → {cs : List Value} → {T : Bs} → Rel ξ w τ f x cs T → f.noro τ = true → (∀ b, T b → ξ' b = ξ b) → Rel ξ' w τ f x cs T
  | .int _, _, _, _, _, h, _, _ => h
  | .bool, _, _, _, _, h, _, _ => h
  | .str, _, _, _, _, h, _, _ => h
  | .arr _ _, _, _, _, _, h, _, _ => h
  | .row e, f, l, cs, T, h, n, k => by
    cases f with
    | gone => simp [Fl.noro] at n
    | pr _ _ => exact h.elim
    | ro => simp [Fl.noro] at n
    | own g =>
      rcases h with h | ⟨a, cap, c, t, fz, Te, h1, h2, h3, h4, h5, h6, h7, h8, h9, h10, h11⟩
      · exact .inl h
      · refine .inr ⟨a, cap, c, t, fz, Te, h1, h2, h3, h4, h5, h6, h7, by rw [k _ h3]; exact h8, h9, h10, fun i hi => ?_⟩
        obtain ⟨c', h12, h13, h14⟩ := h11 i hi
        exact ⟨c', h12, h13, Rel.low h14 (by simpa [Fl.noro] using n) fun b hb => k b ((h9 i).1 b hb)⟩
  | .pair a b, f, _, _, _, ⟨c1, c2, T1, T2, hc, hl, s1, s2, d, h1, h2⟩, n, k => by
    simp only [Fl.noro, Bool.and_eq_true] at n
    exact ⟨c1, c2, T1, T2, hc, hl, s1, s2, d, h1.low n.1 fun b hb => k b (s1 b hb), h2.low n.2 fun b hb => k b (s2 b hb)⟩
  | .st a, _, _, _, _, h, n, k => Rel.low (τ := a) h n k
theorem Own.low {ξ' : Im} {a : AV} {v : Value} {T : Bs} (h : Own ξ w a v T) (ha : (∃ τ x f, a = .d τ x f ∧ f.noro τ = true) ∨ ∃ τ x f r, a = .box τ x f r ∧ f.noro τ = true) (k : ∀ b, T b → ξ' b = ξ b) : Own ξ' w a v T := by
  rcases ha with ⟨τ, x, f, rfl, n⟩ | ⟨τ, x, f, r, rfl, n⟩
  · obtain ⟨cs, h1, h2⟩ := h; exact ⟨cs, h1, h2.low n k⟩
  · obtain ⟨b, c, t, fz, T', h1, h2, h3, h4, h5, h6, h7, h8⟩ := h
    exact ⟨b, c, t, fz, T', h1, h2, h3, h4, by rw [k b h2]; exact h5, h6, h7, h8.low n fun i hi => k i (h6 i hi)⟩
theorem qmi : {rs : List Res} → {ss : List Sv} → (∀ (i : Nat) (r : Res) (s : Sv), rs[i]? = some r → ss[i]? = some s → s.1 = r.τ) → rs.all (fun r => r.f.noro r.τ) = true → ∀ a ∈ q5w rs ss, (∃ τ x f, a = .d τ x f ∧ f.noro τ = true) ∨ ∃ τ x f r, a = .box τ x f r ∧ f.noro τ = true
  | [], _, _, _, a, ha => by simp [q5w] at ha
  | r :: rs, [], _, _, a, ha => by simp [q5w] at ha
  | r :: rs, s :: ss, ht, hn, a, ha => by
    simp only [List.all_cons, Bool.and_eq_true] at hn
    simp only [q5w, List.mem_cons] at ha
    rcases ha with rfl | ha
    · have e := ht 0 r s rfl rfl
      split
      · exact .inr ⟨s.1, s.2, r.f, none, rfl, by rw [e]; exact hn.1⟩
      · exact .inl ⟨s.1, s.2, r.f, rfl, by rw [e]; exact hn.1⟩
    · exact qmi (fun i r' s' h1 h2 => ht (i + 1) r' s' h1 h2) hn.2 a ha
theorem qpj {ξ' : Im} {l : List AV} {v : Value} {T : Bs} (h : q6c ξ w (q9x l) v T) (ha : ∀ a ∈ l, (∃ τ x f, a = .d τ x f ∧ f.noro τ = true) ∨ ∃ τ x f r, a = .box τ x f r ∧ f.noro τ = true) (k : ∀ b, T b → ξ' b = ξ b) : q6c ξ' w (q9x l) v T := by
  match l with
  | [] => exact h
  | [a] =>
    have := ha a (by simp)
    rcases this with ⟨τ, x, f, rfl, n⟩ | ⟨τ, x, f, r, rfl, n⟩
    · exact Own.low (a := .d τ x f) h (.inl ⟨τ, x, f, rfl, n⟩) k
    · exact Own.low (a := .box τ x f r) h (.inr ⟨τ, x, f, r, rfl, n⟩) k
  | a :: b :: l =>
    obtain ⟨vs, Te, h1, h0, h2, h3, h4⟩ := h
    exact ⟨vs, Te, h1, h0, h2, h3, fun i c hc => (h4 i c hc).low (ha c (List.mem_of_getElem? hc)) fun b hb => k b (h2 i b hb)⟩
theorem qsh {o : Operand} {h0 : Tmp} {s : Sv} {f : Fl} (h : SA T0 ξ0 w0 tk Tf ξ w σ tm) (hb : qd3 σ o = some (h0, s, f)) : σ.av h0 = .box s.1 s.2 f none ∧ ev tm o = tm.getD h0 undef := by
  cases o with
  | tmp u =>
    simp only [qd3] at hb
    split at hb
    · rename_i τ x f' ha
      simp only [Option.some.injEq, Prod.mk.injEq] at hb
      obtain ⟨rfl, rfl, rfl⟩ := hb
      exact ⟨ha, rfl⟩
    · rename_i h1 g v ha
      split at hb
      case isFalse => cases hb
      rename_i hg
      split at hb
      case h_2 => cases hb
      rename_i τ x f' hh
      simp only [Option.some.injEq, Prod.mk.injEq] at hb
      obtain ⟨rfl, rfl, rfl⟩ := hb
      refine ⟨hh, ?_⟩
      obtain ⟨b, off, k1, k2⟩ := h.at_ref ha (by simp only [refOk, Bool.and_eq_true, hg, Path.fields, Bool.true_or, and_self])
      rw [hh] at k2
      obtain ⟨b0, c, t, fz, m1, m2, _⟩ := k2
      obtain ⟨rfl, rfl⟩ := m2 rfl
      rw [q5d] at k1
      exact k1.trans m1.symm
    · cases hb
  | _ => simp [qd3] at hb
def shift (T : Bs) (Ta : Nat → Bs) : Nat → Bs
  | 0 => T
  | i + 1 => Ta i
theorem qf4 (Tf T : Bs) (Ta : Nat → Bs) : Sb (Un Tf (fun b => ∃ i, shift T Ta i b)) (Un (Un Tf T) (fun b => ∃ i, Ta i b)) := by
  intro b hb
  rcases hb with hb | ⟨i, hb⟩
  · exact .inl (.inl hb)
  · cases i with
    | zero => exact .inl (.inr hb)
    | succ i => exact .inr ⟨i, hb⟩
theorem qgo (Tf : Bs) (Ta : Nat → Bs) : Sb (Un Tf (fun b => ∃ i, shift Em Ta i b)) (Un Tf (fun b => ∃ i, Ta i b)) := by
  intro b hb
  rcases qf4 Tf Em Ta b hb with hb | hb
  · exact .inl (hb.elim id fun x => x.elim)
  · exact .inr hb
theorem qc7 {T : Bs} {Ta : Nat → Bs} (h : ∀ i, Dj (Ta i) T) (k : ∀ i j, i ≠ j → Dj (Ta i) (Ta j)) : ∀ i j, i ≠ j → Dj (shift T Ta i) (shift T Ta j) := by
  intro i j hij
  cases i with
  | zero => cases j with
    | zero => exact (hij rfl).elim
    | succ j => exact Dj.symm (h j)
  | succ i => cases j with
    | zero => exact h i
    | succ j => exact k i j (by omega)
theorem qjc {ps : List Par} {os : List Operand} {l : List (Option Sv)} {Ta : Nat → Bs} {σ1 : St} (k4 : os.length = ps.length) (k5 : l.length = ps.length)
    (k7 : ∀ (i : Nat) (p : Par) (o : Operand) (e : Option Sv), ps[i]? = some p → os[i]? = some o → l[i]? = some e → match p.m with
        | .rd => e = none ∧ Ta i = Em
        | .own f => ∃ s, e = some s ∧ q6c ξ w (.d s.1 s.2 f) (ev tm o) (Ta i)
        | .bx f => ∃ s bk, e = some s ∧ Ta i = Em ∧ (none : Option Bk) = some bk ∧ bk.p = none ∧ bk.f = f ∧ σ1.av bk.h = .box s.1 s.2 f none ∧ ev tm o = tm.getD bk.h undef ∧ ∀ (j : Nat) (q : Par), ps[j]? = some q → q.isIn = true → j = i
        | .io f => ∃ s bk, e = some s ∧ q6c ξ w (.d s.1 s.2 f) (ev tm o) (Ta i) ∧ (none : Option Bk) = some bk ∧ bk.p.isSome = true ∧ bk.f = f ∧ ∀ (j : Nat) (q : Par), ps[j]? = some q → q.isIn = true → j = i) :
    ∀ (j : Nat) (q : Par), ps[j]? = some q → q.isIn = false := by
  intro j q hj
  cases hqm : q.m with
  | rd => simp [Par.isIn, hqm]
  | own f => simp [Par.isIn, hqm]
  | _ =>
    have hlt : j < ps.length := (List.getElem?_eq_some_iff.1 hj).1
    obtain ⟨o', ho'⟩ : ∃ o', os[j]? = some o' := ⟨_, List.getElem?_eq_getElem (by omega)⟩
    obtain ⟨e, he⟩ : ∃ e, l[j]? = some e := ⟨_, List.getElem?_eq_getElem (by omega)⟩
    have := k7 j q o' e hj ho' he
    rw [hqm] at this
    first
      | (obtain ⟨_, _, _, _, z, _⟩ := this; cases z)
def qxv (w : World) (σ : St) (tm : Array Value) (bk : Bk) (p : Par) (s : Sv) (v : Value) : Prop := match bk.p with
  | none => p.m = .bx bk.f ∧ σ.av bk.h = .box s.1 s.2 bk.f none ∧ v = tm.getD bk.h undef
  | some q => p.m = .io bk.f ∧ ∃ cs, Part w (σ.av bk.h) (tm.getD bk.h undef) q s.1 s.2 cs ∧ v = mkV s.1 cs
theorem qv4 {o : Operand} {h0 : Tmp} {p : Path} {s : Sv} {f : Fl} {σ' : St} (h : SA T0 ξ0 w0 tk Tf ξ w σ tm) (ht : qy1 σ o = some (h0, p, s, f, σ')) :
    ∃ tk' : Nat → Bs, ∃ T' : Bs, ∃ cs, SA T0 ξ0 w0 tk' (Un Tf T') ξ w σ' tm ∧ Dj T' Tf ∧ ev tm o = mkV s.1 cs ∧ Rel ξ w s.1 f s.2 cs T' ∧ Part w (σ'.av h0) (tm.getD h0 undef) p s.1 s.2 cs := by
  cases o with
  | const v => cases ht
  | global g => cases ht
  | func f => cases ht
  | tmp u =>
    simp only [qy1] at ht
    split at ht
    · rename_i τ x f ha
      obtain ⟨cs, h1, h2⟩ := h.at_d ha
      simp only [Option.some.injEq, Prod.mk.injEq] at ht
      obtain ⟨rfl, rfl, rfl, rfl, rfl⟩ := ht
      have hu : u < σ.length := q9z (by rw [ha]; simp)
      have K := h.turn (d := u) (a := .d τ x .gone) (U := Em) (T' := Em) (Tf' := Un Tf (tk u)) (Fr.refl _ _ _) (Sb.em _) h.wf (by rw [ha]; trivial) ⟨cs, h1, h2.gone⟩ (fun _ => trivial)
        (fun b hb => hb.elim) (fun b hb => ⟨.inl hb, hb.elim (fun x => (h.mayf b x).2) (fun x => (h.may u b x).2)⟩) (Dj.em _) hu
      refine ⟨_, tk u, cs, K, h.djf u, h1, h2, ?_⟩
      rw [St.av, St.slot_turn_eq hu]
      exact ⟨cs, [], [], h1, h2.len, q6v _ _, by simp, (q5d _).symm, h2.len, rfl⟩
    · rename_i τ x h1 p1 g v ha
      split at ht
      case isFalse => cases ht
      rename_i hv
      split at ht
      case h_2 => cases ht
      rename_i p1
      split at ht
      case isFalse => cases ht
      rename_i hp
      obtain ⟨cs, f', T', k1', k2', k3', k4', k5'⟩ := h.at_vw ha hv
      have hpart := k5' p1 rfl
      have hown := h.own h1
      split at ht
      · rename_i τ' x' f' hh
        simp only [Option.some.injEq, Prod.mk.injEq] at ht
        obtain ⟨rfl, rfl, rfl, rfl, rfl⟩ := ht
        have hu : h1 < σ.length := q9z (by rw [hh]; simp)
        have hpart0 := hpart
        rw [hh] at hpart hown
        obtain ⟨cs0, c1, c3, k1, k2, k3, k4, k5, k6, k7⟩ := hpart
        obtain ⟨cs0', k8, k9⟩ := hown
        obtain rfl := q9d k2 k9.len (k1.symm.trans k8)
        obtain ⟨d1, d2, d3, T1, T2, e1, e2, e3, e4, e5, e6, e7⟩ := k9.take k7 k3
        rw [k4] at e1
        obtain ⟨rfl, e8⟩ := List.append_inj e1 (by omega)
        obtain ⟨rfl, rfl⟩ := List.append_inj e8 (by rw [k6, e6.len])
        have K := h.turn (d := h1) (a := .d τ' x' (f'.put p1 .gone)) (U := Em) (T' := T2) (Tf' := Un Tf T1) (Fr.refl _ _ _) (Sb.em _) h.wf (by rw [hh]; trivial) ⟨cs0, k1, e7⟩ (fun _ => trivial)
          (fun b hb => ⟨.inl (.inr (e4 b hb)), (h.may h1 b (e4 b hb)).2⟩) (fun b hb => ⟨.inl (Sb.both (Sb.refl _) e3 b hb), hb.elim (fun x => (h.mayf b x).2) (fun x => (h.may h1 b (e3 b x)).2)⟩) (Dj.symm (Dj.un (Dj.symm ((h.djf h1).sub e4 (Sb.refl _))) e5)) hu
        refine ⟨_, T1, cs, K, (h.djf h1).sub e3 (Sb.refl _), k1', e6, ?_⟩
        rw [St.av, St.slot_turn_eq hu]
        exact ⟨cs0, c1, c3, k1, k2, k3, k4, k5, k6, k7⟩
      · rename_i τ' x' f' sr hh
        simp only [Option.some.injEq, Prod.mk.injEq] at ht
        obtain ⟨rfl, rfl, rfl, rfl, rfl⟩ := ht
        have hu : h1 < σ.length := q9z (by rw [hh]; simp)
        rw [hh] at hpart hown
        obtain ⟨b, c, t', fz, c1, c3, k1, k2, k3, k4, k5, k6, k7⟩ := hpart
        obtain ⟨b', c', t'', fz', T3, m1, k8, k9, k10, k11, k12, k13, k14⟩ := hown
        rw [k1] at m1
        simp only [Value.pointer.injEq, Option.some.injEq, Addr.mk.injEq, and_true] at m1
        subst m1
        rw [k2] at k9
        simp only [Option.some.injEq, Obj.cells.injEq] at k9
        obtain ⟨rfl, rfl, rfl⟩ := k9
        obtain ⟨d1, d2, d3, T1, T2, e1, e2, e3, e4, e5, e6, e7⟩ := k14.take k7 k3
        rw [k4] at e1
        obtain ⟨rfl, e8⟩ := List.append_inj e1 (by omega)
        obtain ⟨rfl, rfl⟩ := List.append_inj e8 (by rw [k6, e6.len])
        have s1 : Sb (Un (fun i => i = b) T2) (tk h1) := Sb.un (fun i hi => hi ▸ k8) (e4.trans k12)
        have K := h.turn (d := h1) (a := .box τ' x' (f'.put p1 .gone) sr) (U := Em) (T' := Un (fun i => i = b) T2) (Tf' := Un Tf T1) (Fr.refl _ _ _) (Sb.em _) h.wf (by rw [hh]; exact ⟨_, _, _, rfl⟩)
          ⟨b, c, t', fz, T2, k1, .inl rfl, k2, k10, k11, Sb.r _ _, fun hx => k13 (e4 _ hx), e7⟩ (fun _ => trivial)
          (fun i hb => ⟨.inl (.inr (s1 i hb)), (h.may h1 i (s1 i hb)).2⟩) (fun b hb => ⟨.inl (Sb.both (Sb.refl _) (e3.trans k12) b hb), hb.elim (fun x => (h.mayf b x).2) (fun x => (h.may h1 b (k12 b (e3 b x))).2)⟩)
          (Dj.symm (Dj.un (Dj.symm ((h.djf h1).sub s1 (Sb.refl _))) (Dj.symm (Dj.un (fun i hi hx => k13 (hi ▸ e3 i hx)) (Dj.symm e5))))) hu
        refine ⟨_, T1, cs, K, (h.djf h1).sub (e3.trans k12) (Sb.refl _), k1', e6, ?_⟩
        rw [St.av, St.slot_turn_eq hu]
        exact ⟨b, c, t', fz, c1, c3, k1, k2, k3, k4, k5, k6, k7⟩
      · cases ht
    · cases ht
theorem qf5 : ∀ (ps : List Par) (ts : List TypeId) (os : List Operand) (σ : St) (tk : Nat → Bs) (Tf : Bs) {l : List (Option Sv)} {b : Option Bk} {σ1 : St}, SA T0 ξ0 w0 tk Tf ξ w σ tm → give E ps ts os σ = some (l, b, σ1) →
    ∃ tk1 : Nat → Bs, ∃ Ta : Nat → Bs, SA T0 ξ0 w0 tk1 (Un Tf (fun b => ∃ i, Ta i b)) ξ w σ1 tm ∧ (∀ i, Dj (Ta i) Tf) ∧ (∀ i j, i ≠ j → Dj (Ta i) (Ta j)) ∧ os.length = ps.length ∧ l.length = ps.length ∧
      (∀ bk : Bk, b = some bk → ∃ (i : Nat) (p : Par) (s : Sv) (o : Operand), ps[i]? = some p ∧ os[i]? = some o ∧ l[i]? = some (some s) ∧ qxv w σ1 tm bk p s (ev tm o)) ∧
      ∀ (i : Nat) (p : Par) (o : Operand) (e : Option Sv), ps[i]? = some p → os[i]? = some o → l[i]? = some e → match p.m with
        | .rd => e = none ∧ Ta i = Em
        | .own f => ∃ s, e = some s ∧ q6c ξ w (.d s.1 s.2 f) (ev tm o) (Ta i)
        | .bx f => ∃ s bk, e = some s ∧ Ta i = Em ∧ b = some bk ∧ bk.p = none ∧ bk.f = f ∧ σ1.av bk.h = .box s.1 s.2 f none ∧ ev tm o = tm.getD bk.h undef ∧ ∀ (j : Nat) (q : Par), ps[j]? = some q → q.isIn = true → j = i
        | .io f => ∃ s bk, e = some s ∧ q6c ξ w (.d s.1 s.2 f) (ev tm o) (Ta i) ∧ b = some bk ∧ bk.p.isSome = true ∧ bk.f = f ∧ ∀ (j : Nat) (q : Par), ps[j]? = some q → q.isIn = true → j = i
  | [], ts, [], σ, tk, Tf, l, b, σ1, h, hd => by
    simp only [give, Option.some.injEq, Prod.mk.injEq] at hd
    obtain ⟨rfl, rfl, rfl⟩ := hd
    exact ⟨tk, fun _ => Em, h.drop (fun b hb => hb.elim id fun ⟨_, x⟩ => x.elim), fun _ => Dj.em _, fun _ _ _ => Dj.em _, rfl, rfl, (fun _ hb => by cases hb), fun i p o e hp => by simp at hp⟩
  | [], ts, _ :: _, σ, tk, Tf, l, b, σ1, h, hd => by simp [give] at hd
  | p :: ps, [], os, σ, tk, Tf, l, b, σ1, h, hd => by cases os <;> simp [give] at hd
  | p :: ps, t :: ts, [], σ, tk, Tf, l, b, σ1, h, hd => by simp [give] at hd
  | p :: ps, t :: ts, o :: os, σ, tk, Tf, l, b, σ1, h, hd => by
    simp only [give] at hd
    have nx : ∀ {f : Fl}, (p.m = .rd ∨ p.m = .own f) → ∀ {i : Nat}, (∀ (j : Nat) (q : Par), ps[j]? = some q → q.isIn = true → j = i) → ∀ (j : Nat) (q : Par), (p :: ps)[j]? = some q → q.isIn = true → j = i + 1 := by
      intro f hm i hu j q hj hb
      cases j with
      | zero => simp only [List.getElem?_cons_zero, Option.some.injEq] at hj; subst hj; rcases hm with hm | hm <;> simp [Par.isIn, hm] at hb
      | succ j => exact congrArg (· + 1) (hu j q hj hb)
    split at hd
    · -- read
      rename_i hm
      split at hd
      case h_2 => cases hd
      rename_i l1 b1 σ2 hg
      simp only [Option.some.injEq, Prod.mk.injEq] at hd
      obtain ⟨rfl, rfl, rfl⟩ := hd
      obtain ⟨tk1, Ta, k1, k2, k3, k4, k5, k6, k7⟩ := qf5 ps ts os σ tk Tf h hg
      refine ⟨tk1, shift Em Ta, k1.drop (qgo _ _), (fun i => by cases i <;> first | exact Dj.em _ | exact k2 _), qc7 (fun _ => Dj.em' _) k3, by simp [k4], by simp [k5], fun bk hb => ?_, fun i q o' e hq ho he => ?_⟩
      · obtain ⟨i, q, s, o1, z1, z2, z3, z4⟩ := k6 bk hb
        exact ⟨i + 1, q, s, o1, z1, z2, z3, z4⟩
      · cases i with
        | zero =>
          simp only [List.getElem?_cons_zero, Option.some.injEq] at hq ho he
          subst hq; subst he
          rw [hm]
          exact ⟨rfl, rfl⟩
        | succ i =>
          have := k7 i q o' e hq ho he
          cases hqm : q.m with
          | rd => rw [hqm] at this; exact this
          | own f => rw [hqm] at this; exact this
          | bx f =>
            rw [hqm] at this
            obtain ⟨s, bk, z1, z2, z3, z4, z5, z6, z7, z8⟩ := this
            exact ⟨s, bk, z1, z2, z3, z4, z5, z6, z7, nx (f := .ro) (.inl hm) z8⟩
          | io f =>
            rw [hqm] at this
            obtain ⟨s, bk, z1, z2, z3, z4, z5, z6⟩ := this
            exact ⟨s, bk, z1, z2, z3, z4, z5, nx (f := .ro) (.inl hm) z6⟩
    · -- given
      rename_i f hm
      split at hd
      case h_2 => cases hd
      rename_i s f' σ2 ht
      split at hd
      case isFalse => cases hd
      rename_i hff
      subst hff
      split at hd
      case h_2 => cases hd
      rename_i l1 b1 σ3 hg
      simp only [Option.some.injEq, Prod.mk.injEq] at hd
      obtain ⟨rfl, rfl, rfl⟩ := hd
      obtain ⟨τ, x⟩ := s
      obtain ⟨tkA, T1, cs, a1, a2, a3, a4, a5, _⟩ := q8b h ht
      obtain ⟨tk1, Ta, k1, k2, k3, k4, k5, k6, k7⟩ := qf5 ps ts os σ2 tkA (Un Tf T1) a1 hg
      refine ⟨tk1, shift T1 Ta, k1.drop (qf4 _ _ _), (fun i => ?_), qc7 (fun i => (k2 i).sub (Sb.refl _) (Sb.r _ _)) k3, by simp [k4], by simp [k5], fun bk hb => ?_, fun i q o' e hq ho he => ?_⟩
      · cases i with
        | zero => exact a2
        | succ i => exact (k2 i).sub (Sb.refl _) (Sb.l _ _)
      · obtain ⟨i, q, s, o1, z1, z2, z3, z4⟩ := k6 bk hb
        exact ⟨i + 1, q, s, o1, z1, z2, z3, z4⟩
      · cases i with
        | zero =>
          simp only [List.getElem?_cons_zero, Option.some.injEq] at hq ho he
          subst hq; subst ho; subst he
          rw [hm]
          exact ⟨⟨τ, x⟩, rfl, cs, a3, a4⟩
        | succ i =>
          have := k7 i q o' e hq ho he
          cases hqm : q.m with
          | rd => rw [hqm] at this; exact this
          | own f => rw [hqm] at this; exact this
          | bx f =>
            rw [hqm] at this
            obtain ⟨s, bk, z1, z2, z3, z4, z5, z6, z7, z8⟩ := this
            exact ⟨s, bk, z1, z2, z3, z4, z5, z6, z7, nx (.inr hm) z8⟩
          | io f =>
            rw [hqm] at this
            obtain ⟨s, bk, z1, z2, z3, z4, z5, z6⟩ := this
            exact ⟨s, bk, z1, z2, z3, z4, z5, nx (.inr hm) z6⟩
    · -- a box that goes along
      rename_i f hm
      split at hd
      case h_2 => cases hd
      rename_i l1 σ2 hg
      split at hd
      case h_2 => cases hd
      rename_i h0 s f' hbo
      split at hd
      case isFalse => cases hd
      rename_i hff
      subst hff
      simp only [Option.some.injEq, Prod.mk.injEq] at hd
      obtain ⟨rfl, rfl, rfl⟩ := hd
      obtain ⟨tk1, Ta, k1, k2, k3, k4, k5, k6, k7⟩ := qf5 ps ts os σ tk Tf h hg
      obtain ⟨hb1, hb2⟩ := qsh k1 hbo
      have nobx := qjc k4 k5 k7
      refine ⟨tk1, shift Em Ta, k1.drop (qgo _ _), (fun i => by cases i <;> first | exact Dj.em _ | exact k2 _), qc7 (fun _ => Dj.em' _) k3, by simp [k4], by simp [k5], fun bk hb => ?_, fun i q o' e hq ho he => ?_⟩
      · simp only [Option.some.injEq] at hb
        subst hb
        exact ⟨0, p, s, o, rfl, rfl, rfl, hm, hb1, hb2⟩
      · cases i with
        | zero =>
          simp only [List.getElem?_cons_zero, Option.some.injEq] at hq ho he
          subst hq; subst ho; subst he
          rw [hm]
          refine ⟨s, _, rfl, rfl, rfl, rfl, rfl, hb1, hb2, fun j q' hj hb => ?_⟩
          cases j with
          | zero => rfl
          | succ j => rw [nobx j q' hj] at hb; cases hb
        | succ i =>
          have := k7 i q o' e hq ho he
          cases hqm : q.m with
          | rd => rw [hqm] at this; exact this
          | own f => rw [hqm] at this; exact this
          | bx f => have := nobx i q hq; simp [Par.isIn, hqm] at this
          | io f => have := nobx i q hq; simp [Par.isIn, hqm] at this
    · -- a row that goes along
      rename_i f hm
      split at hd
      case h_2 => cases hd
      rename_i l1 σ2 hg
      split at hd
      case h_2 => cases hd
      rename_i h0 p0 s f' σ3 hbo
      split at hd
      case isFalse => cases hd
      rename_i hff
      subst hff
      simp only [Option.some.injEq, Prod.mk.injEq] at hd
      obtain ⟨rfl, rfl, rfl⟩ := hd
      obtain ⟨tk1, Ta, k1, k2, k3, k4, k5, k6, k7⟩ := qf5 ps ts os σ tk Tf h hg
      obtain ⟨tk2, T1, cs, m1, m2, m3, m4, m5⟩ := qv4 k1 hbo
      have nobx := qjc k4 k5 k7
      have m6 : ∀ i, Dj (Ta i) T1 := fun i => Dj.symm (m2.sub (Sb.refl _) fun b hb => .inr ⟨i, hb⟩)
      refine ⟨tk2, shift T1 Ta, m1.drop ?_, (fun i => ?_), qc7 m6 k3, by simp [k4], by simp [k5], fun bk hb => ?_, fun i q o' e hq ho he => ?_⟩
      · intro b hb
        rcases hb with hb | ⟨i, hb⟩
        · exact .inl (.inl hb)
        · cases i with
          | zero => exact .inr hb
          | succ i => exact .inl (.inr ⟨i, hb⟩)
      · cases i with
        | zero => exact m2.sub (Sb.refl _) (Sb.l _ _)
        | succ i => exact k2 i
      · simp only [Option.some.injEq] at hb
        subst hb
        exact ⟨0, p, s, o, rfl, rfl, rfl, hm, cs, m5, m3⟩
      · cases i with
        | zero =>
          simp only [List.getElem?_cons_zero, Option.some.injEq] at hq ho he
          subst hq; subst ho; subst he
          rw [hm]
          refine ⟨s, _, rfl, ⟨cs, m3, m4⟩, rfl, rfl, rfl, fun j q' hj hb => ?_⟩
          cases j with
          | zero => rfl
          | succ j => rw [nobx j q' hj] at hb; cases hb
        | succ i =>
          have := k7 i q o' e hq ho he
          cases hqm : q.m with
          | rd => rw [hqm] at this; exact this
          | own f => rw [hqm] at this; exact this
          | bx f => have := nobx i q hq; simp [Par.isIn, hqm] at this
          | io f => have := nobx i q hq; simp [Par.isIn, hqm] at this
theorem qv5 {bk : Bk} {q : Path} {s : Sv} {x0 : s.1.T} {cs : List Value} {tb Tf' : Bs} (hq : bk.p = some q) (h : SA T0 ξ0 w0 tk (Un Tf' tb) ξ w σ tm) (hd : Dj tb Tf') (hp : Part w (σ.av bk.h) (tm.getD bk.h undef) q s.1 x0 cs) (ho : q6c ξ w (.d s.1 s.2 bk.f) (mkV s.1 cs) tb) :
    ∃ tk' : Nat → Bs, SA T0 ξ0 w0 tk' Tf' ξ w (ql4 σ bk s) tm := by
  obtain ⟨cs2, o1, o2⟩ := ho
  have hown := h.own bk.h
  have drop : bk.h < σ.length → ∃ tk' : Nat → Bs, SA T0 ξ0 w0 tk' Tf' ξ w (σ.put bk.h .no) tm := fun hlt =>
    ⟨_, h.put (tm' := tm) (T' := Em) (Tf' := Tf') rfl (fun _ _ => rfl) trivial trivial (Sb.em _) (fun b hb => .inl (.inl hb)) (Dj.em _) hlt⟩
  simp only [ql4, hq]
  split
  · rename_i τ x f ha
    have hlt : bk.h < σ.length := q9z (by rw [ha]; simp)
    split
    · rename_i y hy
      rw [ha] at hp hown
      obtain ⟨cs0, c1, c3, k1, k2, k3, k4, k5, k6, k7⟩ := hp
      obtain ⟨cs0', k8, k9⟩ := hown
      obtain rfl := q9d k2 k9.len (k1.symm.trans k8)
      obtain rfl := q9d k6 o2.len o1
      obtain ⟨d1, d2, d3, e1, e2, e3, e4⟩ := k9.set k7 hy o2 ((h.djf bk.h).sub (Sb.refl _) (Sb.r _ _))
      rw [k4] at e1
      obtain ⟨rfl, e8⟩ := List.append_inj e1 (by omega)
      obtain ⟨rfl, rfl⟩ := List.append_inj e8 (by omega)
      rw [← k4] at e4
      exact ⟨_, h.turn (d := bk.h) (a := .d τ y (f.put q bk.f)) (U := Em) (T' := Un (tk bk.h) tb) (Tf' := Tf') (Fr.refl _ _ _) (Sb.em _) h.wf (by rw [ha]; trivial) ⟨cs0, k1, e4⟩ (fun _ => trivial)
        (fun b hb => ⟨.inl (hb.elim .inr fun x => .inl (.inr x)), hb.elim (fun x => (h.may _ b x).2) fun x => (h.mayf b (.inr x)).2⟩) (fun b hb => ⟨.inl (.inl (.inl hb)), (h.mayf b (.inl hb)).2⟩) (Dj.un ((h.djf bk.h).sub (Sb.refl _) (Sb.l _ _)) hd) hlt⟩
    · exact drop hlt
  · rename_i τ x f sr ha
    have hlt : bk.h < σ.length := q9z (by rw [ha]; simp)
    split
    · rename_i y hy
      rw [ha] at hp hown
      obtain ⟨b, c, t', fz, c1, c3, k1, k2, k3, k4, k5, k6, k7⟩ := hp
      obtain ⟨b', c', t'', fz', T3, m1, k8, k9, k10, k11, k12, k13, k14⟩ := hown
      rw [k1] at m1
      simp only [Value.pointer.injEq, Option.some.injEq, Addr.mk.injEq, and_true] at m1
      subst m1
      rw [k2] at k9
      simp only [Option.some.injEq, Obj.cells.injEq] at k9
      obtain ⟨rfl, rfl, rfl⟩ := k9
      obtain rfl := q9d k6 o2.len o1
      have dt : Dj (tk bk.h) tb := (h.djf bk.h).sub (Sb.refl _) (Sb.r _ _)
      obtain ⟨d1, d2, d3, e1, e2, e3, e4⟩ := k14.set k7 hy o2 (dt.sub k12 (Sb.refl _))
      rw [k4] at e1
      obtain ⟨rfl, e8⟩ := List.append_inj e1 (by omega)
      obtain ⟨rfl, rfl⟩ := List.append_inj e8 (by omega)
      rw [← k4] at e4
      exact ⟨_, h.turn (d := bk.h) (a := .box τ y (f.put q bk.f) sr) (U := Em) (T' := Un (tk bk.h) tb) (Tf' := Tf') (Fr.refl _ _ _) (Sb.em _) h.wf (by rw [ha]; exact ⟨_, _, _, rfl⟩)
        ⟨b, c, t', fz, Un T3 tb, k1, .inl k8, k2, k10, k11, Sb.both k12 (Sb.refl _), fun hx => hx.elim k13 fun x => dt b k8 x, e4⟩ (fun _ => trivial)
        (fun b hb => ⟨.inl (hb.elim .inr fun x => .inl (.inr x)), hb.elim (fun x => (h.may _ b x).2) fun x => (h.mayf b (.inr x)).2⟩) (fun b hb => ⟨.inl (.inl (.inl hb)), (h.mayf b (.inl hb)).2⟩) (Dj.un ((h.djf bk.h).sub (Sb.refl _) (Sb.l _ _)) hd) hlt⟩
    · exact drop hlt
  · rename_i hd' hb'
    cases ha : σ.av bk.h with
    | d τ x f => exact (hd' _ _ _ ha).elim
    | box τ x f r => exact (hb' _ _ _ _ ha).elim
    | _ => rw [ha] at hp; exact hp.elim
def qu6 (ξ : Im) (w : World) (tk : Nat → Bs) (h0 : Option Nat) (v : Value) (s : Sv) : Prop := ∃ cs f, ∃ T' : Bs, ∃ t : Nat, (∀ h, h0 = some h → t ≠ h) ∧ v = mkV s.1 cs ∧ Sb T' (tk t) ∧ f.ok s.1 = true ∧ Rel ξ w s.1 f s.2 cs T'
theorem qsi (h : SA T0 ξ0 w0 tk Tf ξ w σ tm) {h0 : Nat} (hlt : h0 < σ.length) {o : Operand} {s : Sv} (hr : rdv (σ.turn h0 .no) o = some s) : qu6 ξ w tk (some h0) (ev tm o) s := by
  cases o with
  | tmp u =>
    by_cases e : u = h0
    · subst e
      simp only [rdv, St.av, St.slot_turn_eq hlt] at hr
      cases hr
    · have ea : (σ.turn h0 .no).av u = σ.av u := by simp only [St.av, St.slot_turn_ne e]
      simp only [rdv, ea] at hr
      split at hr
      · rename_i τ x f ha
        split at hr
        · rename_i hf
          obtain rfl := Option.some.inj hr
          obtain ⟨cs, h1, h2⟩ := h.at_d ha
          exact ⟨cs, f, tk u, u, fun h' hh => by cases hh; exact e, h1, Sb.refl _, hf, h2⟩
        · cases hr
      · rename_i τ x h1 p g v ha
        split at hr
        · rename_i hv
          obtain rfl := Option.some.inj hr
          have hpast : Past σ h1 g v := by have := h.lent u; rw [ha] at this; exact this.1
          by_cases e' : h1 = h0
          · subst e'
            simp only [St.valid, St.slot_turn_eq hlt, Bool.and_eq_true, beq_iff_eq] at hv
            have := hpast.2 hv.1.symm
            omega
          · have hv' : σ.valid h1 g v = true := by simpa [St.valid, St.slot_turn_ne e'] using hv
            obtain ⟨cs, f, T', k1, k2, k3, k4, k5⟩ := h.at_vw ha hv'
            exact ⟨cs, f, T', h1, fun h' hh => by cases hh; exact e', k1, k2, k3, k4⟩
        · cases hr
      · cases hr
  | const v =>
    cases v <;> simp only [rdv, Option.some.injEq, reduceCtorEq] at hr
    · subst hr; exact ⟨[_], .ro, Em, h0 + 1, fun h' hh => by cases hh; omega, rfl, Sb.em _, rfl, rfl, fun _ => rfl⟩
    · subst hr; exact ⟨[_], .ro, Em, h0 + 1, fun h' hh => by cases hh; omega, rfl, Sb.em _, rfl, rfl, fun _ => rfl⟩
    · subst hr; exact ⟨[_], .ro, Em, h0 + 1, fun h' hh => by cases hh; omega, rfl, Sb.em _, rfl, rfl, fun _ => rfl⟩
  | global g => simp [rdv] at hr
  | func f => simp [rdv] at hr
theorem qmj {t : TypeId} (h : SA T0 ξ0 w0 tk Tf ξ w σ tm) {h0 : Option Nat} (hlt : ∀ h1, h0 = some h1 → h1 < σ.length) {o : Operand} {s : Sv} (hr : rdT E (σ.less h0) t o = some s) : qu6 ξ w tk h0 (ev tm o) s := by
  unfold rdT at hr
  split at hr
  · split at hr
    · obtain rfl := Option.some.inj hr
      refine ⟨[.slice none 0 0], .ro, Em, (h0.getD 0) + 1, fun h1 hh => by subst hh; simp, rfl, Sb.em _, rfl, none, 0, rfl, Nat.le_refl _, fun i hi => ?_⟩
      simp [sv] at hi
    · cases hr
  · cases h0 with
    | none =>
      obtain ⟨cs, f, T', t', k1, k2, k3, k4⟩ := q78 h hr
      exact ⟨cs, f, T', t', (fun _ hh => by cases hh), k1, k2, k3, k4⟩
    | some h1 => exact qsi h (hlt h1 rfl) hr
theorem qsj {t : TypeId} (h : SA T0 ξ0 w0 tk Tf ξ w σ tm) {h0 : Option Nat} (hlt : ∀ h1, h0 = some h1 → h1 < σ.length) {o : Operand} {s : Sv} (hr : rdT E (σ.less h0) t o = some s) (hs : stays (σ.less h0) s o = true) :
    ∃ cs, ev tm o = mkV s.1 cs ∧ Rel ξ w s.1 .ro s.2 cs Em := by
  obtain ⟨cs, f, T', t', k0, k1, k2, k3, k4⟩ := qmj h hlt hr
  cases o with
  | tmp u =>
    simp only [stays, Bool.or_eq_true] at hs
    rcases hs with hs | hs
    · exact ⟨cs, k1, k4.flatRo k3 hs⟩
    · have hav : (σ.less h0).av u = σ.av u ∨ (σ.less h0).av u = .no := by
        cases h0 with
        | none => exact .inl rfl
        | some h1 =>
          by_cases e : u = h1
          · subst e; right; simp only [St.less, St.av, St.slot_turn_eq (hlt u rfl)]
          · left; simp only [St.less, St.av, St.slot_turn_ne e]
      rcases hav with hav | hav
      · rw [hav] at hs
        split at hs
        · rename_i τ x f' ha
          have hr' : rdv (σ.less h0) (.tmp u) = some s := hr
          simp only [rdv, hav, ha] at hr'
          split at hr'
          · obtain rfl := Option.some.inj hr'
            obtain ⟨cs', m1, m2⟩ := h.at_d ha
            exact ⟨cs', m1, m2.toRo hs⟩
          · cases hr'
        · cases hs
      · rw [hav] at hs; simp at hs
  | const v =>
    cases v <;> simp only [rdT, rdv, Option.some.injEq, reduceCtorEq] at hr
    · subst hr; exact ⟨[_], rfl, rfl, fun _ => rfl⟩
    · subst hr; exact ⟨[_], rfl, rfl, fun _ => rfl⟩
    · subst hr; exact ⟨[_], rfl, rfl, fun _ => rfl⟩
    · rename_i a n c
      cases a with
      | some a => simp [rdv] at hr
      | none =>
        cases n with
        | succ n => simp [rdv] at hr
        | zero =>
          cases c with
          | succ c => simp [rdv] at hr
          | zero =>
            simp only at hr
            split at hr
            · obtain rfl := Option.some.inj hr
              exact ⟨[.slice none 0 0], rfl, none, 0, rfl, Nat.le_refl _, fun i hi => by simp [sv] at hi⟩
            · cases hr
  | global g => simp [rdT, rdv] at hr
  | func f => simp [rdT, rdv] at hr
theorem qmk {σr : St} : ∀ (l : List (Option Sv)) (ts : List TypeId) (os : List Operand) {ss : List Sv} {b : Bool}, qa5 E σr l ts os = some (ss, b) → ss.length = l.length ∧ ∀ (i : Nat) (e : Option Sv) (o : Operand), l[i]? = some e → os[i]? = some o → ∃ s, ss[i]? = some s ∧ match e with
    | some s' => s = s'
    | none => (∃ t, rdT E σr t o = some s) ∧ (b = false → stays σr s o = true)
  | [], ts, [], ss, b, h => by
    simp only [qa5, Option.some.injEq, Prod.mk.injEq] at h
    obtain ⟨rfl, rfl⟩ := h
    exact ⟨rfl, fun i e o hi => by simp at hi⟩
  | [], ts, _ :: _, ss, b, h => by simp [qa5] at h
  | e :: l, [], os, ss, b, h => by cases os <;> simp [qa5] at h
  | e :: l, t :: ts, [], ss, b, h => by simp [qa5] at h
  | e :: l, t :: ts, o :: os, ss, b, h => by
    simp only [qa5] at h
    split at h
    case h_1 => cases h
    rename_i ss1 b1 hr
    obtain ⟨ih1, ih2⟩ := qmk l ts os hr
    split at h
    · rename_i s
      simp only [Option.some.injEq, Prod.mk.injEq] at h
      obtain ⟨rfl, rfl⟩ := h
      refine ⟨by simp [ih1], fun i e' o' hi ho => ?_⟩
      cases i with
      | zero =>
        simp only [List.getElem?_cons_zero, Option.some.injEq] at hi ho
        subst hi
        exact ⟨s, rfl, rfl⟩
      | succ i => exact ih2 i e' o' hi ho
    · split at h
      case h_2 => cases h
      rename_i s hs
      simp only [Option.some.injEq, Prod.mk.injEq] at h
      obtain ⟨rfl, rfl⟩ := h
      refine ⟨by simp [ih1], fun i e' o' hi ho => ?_⟩
      cases i with
      | zero =>
        simp only [List.getElem?_cons_zero, Option.some.injEq] at hi ho
        subst hi; subst ho
        exact ⟨s, rfl, ⟨t, hs⟩, fun hb => by simpa using (Bool.or_eq_false_iff.1 hb).2⟩
      | succ i =>
        obtain ⟨s', z1, z2⟩ := ih2 i e' o' hi ho
        refine ⟨s', z1, ?_⟩
        cases e' with
        | some _ => exact z2
        | none => exact ⟨z2.1, fun hb => z2.2 (Bool.or_eq_false_iff.1 hb).1⟩
end
end Go.Proofs.YtjfkeknnjjlepaaGreatDoor.Rf
end

section
/- One operation, a call among them, as the machine does it. Nothing of any program. -/
namespace Go.Proofs.YtjfkeknnjjlepaaGreatDoor.Rf
open Go Go.RowKit
set_option linter.unusedVariables false
set_option linter.unusedSimpArgs false
def qgp (P : Program) (J : Jd P) (C : CEs) : Prop := ∀ f ce, C.lookup f = some ce → Snd P J f ce ∧ Can P f
section
variable {P : Program} {E : q6f} {C : CEs} {T0 : Bs} {ξ0 : Im} {w0 : World} {tk : Nat → Bs} {Tf : Bs} {ξ : Im} {w : World} {σ : St} {tm : Array Value}
theorem getD_set_ne {tm : Array Value} {d t : Nat} {v : Value} (h : t ≠ d) : (tm.setIfInBounds d v).getD t undef = tm.getD t undef := by
  simp only [Array.getD_eq_getD_getElem?]
  rw [Array.getElem?_setIfInBounds_ne (Ne.symm h)]
theorem q9f {tm : Array Value} {d : Nat} {v : Value} (h : d < tm.size) : (tm.setIfInBounds d v).getD d undef = v := by
  simp [Array.getD_eq_getD_getElem?, h]
theorem SA.putO {dst : Option Tmp} {a : AV} {v : Value} {T' : Bs} (h : SA T0 ξ0 w0 tk T' ξ w σ tm) (ho : q6c ξ w a v T') (hl : qd2 ξ w σ tm tk a v) (df : List Deferred) :
    ∃ tk' : Nat → Bs, SA T0 ξ0 w0 tk' Em ξ w (σ.putO dst a) ((⟨tm, df⟩ : Act).put dst v).tmps := by
  cases dst with
  | none => exact ⟨tk, h.drop (Sb.em _)⟩
  | some d =>
    by_cases hd : d < σ.length
    · have hd' : d < tm.size := by rw [h.sz]; exact hd
      refine ⟨_, h.put (tm' := tm.setIfInBounds d v) (T' := T') (Tf' := Em) (by simp) (fun t ht => getD_set_ne ht) (by rw [q9f hd']; exact ho) (by rw [q9f hd']; exact hl) (Sb.l _ _) (Sb.em _) (Dj.em' _) hd⟩
    · have e1 : σ.putO (some d) a = σ := St.put_big hd
      have e2 : ((⟨tm, df⟩ : Act).put (some d) v).tmps = tm := by
        simp only [Act.put]
        have hle : tm.size ≤ d := by rw [h.sz]; exact Nat.le_of_not_lt hd
        exact Array.setIfInBounds_eq_of_size_le hle
      rw [e1, e2]
      exact ⟨tk, h.drop (Sb.em _)⟩
def Kept (d : Option Tmp) (tm tm' : Array Value) : Prop := ∀ t, d ≠ some t → tm'.getD t undef = tm.getD t undef
theorem qal (tm : Array Value) (df : List Deferred) (d : Option Tmp) (v : Value) : Kept d tm ((⟨tm, df⟩ : Act).put d v).tmps := by
  intro t ht
  cases d with
  | none => rfl
  | some d => exact getD_set_ne fun e => ht (by rw [e])
def Goes (P : Program) (T0 : Bs) (ξ0 : Im) (w0 : World) (σ' : St) (tm : Array Value) (o : Oper) (w : World) : Prop :=
  ∀ (df : List Deferred) (K : Act → World → Prop) (Q : Exit → Act → World → Prop), (∀ tm' w' ξ' tk', SA T0 ξ0 w0 tk' Em ξ' w' σ' tm' → Kept o.dst tm tm' → K ⟨tm', df⟩ w') → o.wp P ⟨tm, df⟩ w K Q
theorem qjd (tm : Array Value) (df : List Deferred) (dst : Option Tmp) (v : Value) : (⟨tm, df⟩ : Act).put dst v = ⟨((⟨tm, df⟩ : Act).put dst v).tmps, df⟩ := by cases dst <;> rfl
theorem Gd.goes {o : Oper} {a : AV} {σ' : St} (h : Gd P T0 ξ0 w0 σ' tm (execOp (ev tm) o) a w) : Goes P T0 ξ0 w0 (σ'.putO o.dst a) tm o w := by
  intro df K Q hK
  obtain ⟨v, w', ξ', tk', T', hr, hs, ho, hl⟩ := h
  obtain ⟨tk2, h2⟩ := hs.putO (dst := o.dst) ho hl df
  unfold Oper.wp
  rw [qp7]
  rcases hr with hr | ⟨hr, rfl⟩
  · rw [show ev (⟨tm, df⟩ : Act).tmps = ev tm from rfl, hr, Oper.upon_value, qjd]
    exact hK _ _ _ _ h2 (qal _ _ _ _)
  · rw [show ev (⟨tm, df⟩ : Act).tmps = ev tm from rfl, hr, Oper.upon_skip, qjd]
    exact hK _ _ _ _ h2 (qal _ _ _ _)
theorem qje {o : Oper} {f : FuncId} {az : Array Operand} {ts : Array TypeId} (hop : o.op = .call ⟨.value (.func f), az, ts⟩) (hc : Can P f) : (execOp (ev tm) o).run P w = .ok (.enter f (az.map (ev tm))) w := by
  obtain ⟨fn, h1, h2, h3⟩ := hc
  have h4 : fn.body.isNone = false := by cases hb : fn.body <;> simp [hb] at h3 ⊢
  simp only [execOp, hop, resolve, ev, Deferred.ofValue, Sem.run_bind, Sem.run_pure, Result.andThen, invoke, callFunc, run_program]
  simp [h1, h2, h4]
theorem qsk {s s0 : Sv} {f f' : Fl} {r r' : Option Tmp} (h : s.1 = s0.1) : qy3 (.box s0.1 s0.2 f r) (.box s.1 s.2 f' r') := by
  obtain ⟨τ, x⟩ := s
  obtain ⟨τ0, x0⟩ := s0
  simp only at h
  subst h
  exact ⟨x, f', r', rfl⟩
def qsl (ps : List Par) (b : Option Bk) (tk Ta : Nat → Bs) (i b' : Nat) : Prop := match ps[i]? with
  | some p => if p.isBx = true then (match b with | some k => tk k.h b' | none => False) else Ta i b'
  | none => False
theorem qv6 {o : Oper} {ce : CE} {x : q63 (ce.ps.map (·.τ))} {k : q63 (outs ce.ps ce.rs) → St} {r : q63 (outs ce.ps ce.rs)} {J : Jd P} (hG : GOk P J T0 ξ0 w0) (hC : qgp P J C) (h : SA T0 ξ0 w0 tk Em ξ w σ tm) (hc : q76 E C o σ = some ⟨ce, x, k⟩) (hF : ce.F x = some r) :
    Goes P T0 ξ0 w0 (k r) tm o w := by
  unfold q76 at hc
  split at hc
  case h_2 => cases hc
  rename_i f az ts hop
  split at hc
  case h_2 => cases hc
  rename_i ce' hlk
  obtain ⟨hsnd, hcan⟩ := hC f ce' hlk
  split at hc
  case h_2 => cases hc
  rename_i l b σ1 hg
  split at hc
  case h_2 => cases hc
  rename_i ss lent hf
  split at hc
  · cases hc
  rename_i hlent
  split at hc
  case h_2 => cases hc
  rename_i x' hp
  simp only [Option.some.injEq, Sigma.mk.injEq] at hc
  obtain ⟨rfl, hc⟩ := hc
  have hc := eq_of_heq hc
  simp only [Prod.mk.injEq] at hc
  obtain ⟨rfl, rfl⟩ := hc
  obtain ⟨tk1, Ta, k1, k2, k3, k4, k5, k6, k7⟩ := qf5 ce'.ps ts.toList az.toList σ tk Em h hg
  have k1 := k1.drop (qf1 (fun b => ∃ i, Ta i b))
  have hbl : ∀ h1, b.bind Bk.box = some h1 → h1 < σ1.length := by
    intro h1 hb
    obtain ⟨bk, e1, e2⟩ := Option.bind_eq_some_iff.1 hb
    obtain ⟨i, p, s, o', _, _, _, z⟩ := k6 bk e1
    unfold qxv at z
    unfold Bk.box at e2
    split at e2
    · rename_i hp0
      rw [hp0] at z
      obtain ⟨_, hr', _⟩ := z
      obtain rfl := Option.some.inj e2
      exact q9z (by rw [hr']; simp)
    · cases e2
  obtain ⟨f1, f2⟩ := qmk (E := E) l ts.toList az.toList hf
  have hun := unpack_pack hp
  -- what is lent is not turned while the call lasts
  let L : Bs := fun b' => lent = true ∧ ∃ t, (∀ h1, b.bind Bk.box = some h1 → t ≠ h1) ∧ tk1 t b'
  have hL1 : ∀ b', L b' → b' < w.heap.size := fun b' ⟨_, t, _, ht⟩ => (k1.may t b' ht).2
  let ξ1 := frz ξ w L
  have wf1 : Wf ξ1 w := fun b' hb' => by
    rw [show ξ1 b' = ξ b' from q65 fun hx => by have := hL1 b' hx; omega]
    exact k1.wf b' hb'
  -- the tokens of the arguments
  let ta : Nat → Bs := qsl ce'.ps b tk1 Ta
  have bxp : ∀ (i : Nat) (p : Par), ce'.ps[i]? = some p → p.isBx = true → ∃ bk : Bk, b = some bk ∧ bk.p = none := by
    intro i p hpi hpb
    have hlt : i < ce'.ps.length := (List.getElem?_eq_some_iff.1 hpi).1
    have := k7 i p _ _ hpi (List.getElem?_eq_getElem (by omega)) (List.getElem?_eq_getElem (by omega))
    cases hpm : p.m with
    | bx f => rw [hpm] at this; obtain ⟨s, bk, _, _, z1, z2, _⟩ := this; exact ⟨bk, z1, z2⟩
    | _ => simp [Par.isBx, hpm] at hpb
  have hta : ∀ i b', ta i b' → (∃ j, Ta j b') ∨ (∃ bk, b = some bk ∧ bk.p = none ∧ tk1 bk.h b') := by
    intro i b' hb'
    change qsl ce'.ps b tk1 Ta i b' at hb'
    unfold qsl at hb'
    split at hb'
    · rename_i p hpi
      split at hb'
      · rename_i hpb
        obtain ⟨bk, z1, z2⟩ := bxp i p hpi hpb
        rw [z1] at hb'
        exact .inr ⟨bk, z1, z2, hb'⟩
      · exact .inl ⟨i, hb'⟩
    · exact hb'.elim
  have htaL : ∀ i, Dj (ta i) L := by
    intro i b' hb' ⟨_, t, ht1, ht2⟩
    rcases hta i b' hb' with hx | ⟨bk, rfl, hp0, hx⟩
    · exact k1.djf t b' ht2 hx
    · exact k1.dj t bk.h (ht1 bk.h (by simp [Bk.box, hp0])) b' ht2 hx
  have hsz : az.toList.length = ce'.ps.length := k4
  have argof : ∀ (i : Nat) (p : Par), ce'.ps[i]? = some p → ∃ (o' : Operand) (e' : Option Sv), az.toList[i]? = some o' ∧ l[i]? = some e' := by
    intro i p hpi
    have hlt : i < ce'.ps.length := (List.getElem?_eq_some_iff.1 hpi).1
    exact ⟨_, _, List.getElem?_eq_getElem (by omega), List.getElem?_eq_getElem (by omega)⟩
  have hargv : ∀ (i : Nat) (o' : Operand), az.toList[i]? = some o' → (az.map (ev tm)).getD i undef = ev tm o' := by
    intro i o' ho'
    have : az[i]? = some o' := by rw [← Array.getElem?_toList]; exact ho'
    simp [Array.getD_eq_getD_getElem?, this]
  have hdjta : ∀ i j, i ≠ j → Dj (ta i) (ta j) := by
    intro i j hij b' hb1 hb2
    change qsl ce'.ps b tk1 Ta i b' at hb1
    change qsl ce'.ps b tk1 Ta j b' at hb2
    unfold qsl at hb1 hb2
    split at hb1
    case h_2 => exact hb1.elim
    rename_i p hpi
    split at hb2
    case h_2 => exact hb2.elim
    rename_i q hqj
    split at hb1
    · rename_i hpb
      split at hb1
      case h_2 => exact hb1.elim
      rename_i bk
      split at hb2
      · rename_i hqb
        obtain ⟨o', e', ho', he'⟩ := argof i p hpi
        have := k7 i p o' e' hpi ho' he'
        cases hpm : p.m with
        | bx f =>
          rw [hpm] at this
          obtain ⟨_, _, _, _, _, _, _, _, _, z⟩ := this
          exact hij (z j q hqj (by cases hqm : q.m <;> simp [Par.isBx, hqm] at hqb; simp [Par.isIn, hqm])).symm
        | _ => simp [Par.isBx, hpm] at hpb
      · exact k1.djf bk.h b' hb1 ⟨j, hb2⟩
    · split at hb2
      · split at hb2
        case h_2 => exact hb2.elim
        rename_i bk
        exact k1.djf bk.h b' hb2 ⟨i, hb1⟩
      · exact k3 i j hij b' hb1 hb2
  have hargs : ∀ (i : Nat) (p : Par) (s : Sv), ce'.ps[i]? = some p → (unpack _ x')[i]? = some s → q6c ξ1 w (q88 p s) ((az.map (ev tm)).getD i undef) (ta i) := by
    intro i p s hpi hsi
    obtain ⟨o', e', ho', he'⟩ := argof i p hpi
    rw [hargv i o' ho']
    rw [hun] at hsi
    obtain ⟨s', z1, z2⟩ := f2 i e' o' he' ho'
    rw [hsi] at z1
    obtain rfl := Option.some.inj z1
    have hk := k7 i p o' e' hpi ho' he'
    have hkeep : q9y (ta i) ξ w ξ1 w := qeg ξ w L (ta i) (Dj.symm (htaL i))
    cases hpm : p.m with
    | rd =>
      rw [hpm] at hk
      obtain ⟨rfl, _⟩ := hk
      obtain ⟨⟨t, hrd⟩, hst⟩ := z2
      have hgoal : ∃ cs, ev tm o' = mkV s.1 cs ∧ Rel ξ1 w s.1 .ro s.2 cs Em := by
        cases hle : lent with
        | false =>
          obtain ⟨cs, c1, c2⟩ := qsj k1 hbl hrd (hst hle)
          exact ⟨cs, c1, c2.keep ⟨fun _ hx => hx.elim, fun _ _ _ _ h => h, q9s ξ w L⟩⟩
        | true =>
          obtain ⟨cs, fl, T', t', c0, c1, c2, c3, c4⟩ := qmj k1 hbl hrd
          exact ⟨cs, c1, c4.freeze (q9s ξ w L) c3 fun b' c ty fz hb' hcells => q8s (show L b' from ⟨hle, t', c0, c2 b' hb'⟩) hcells⟩
      obtain ⟨cs, c1, c2⟩ := hgoal
      simp only [q88, hpm]
      exact ⟨cs, c1, c2.sub (Sb.em _)⟩
    | own fl =>
      rw [hpm] at hk
      obtain ⟨s0, rfl, c1⟩ := hk
      subst z2
      have e1 : ta i = Ta i := by funext b'; simp only [ta, qsl, hpi, Par.isBx, hpm]; simp
      simp only [q88, hpm]
      rw [e1] at hkeep ⊢
      exact c1.keep hkeep
    | bx fl =>
      rw [hpm] at hk
      obtain ⟨s0, bk, rfl, _, rfl, _, _, c1, c2, _⟩ := hk
      subst z2
      have e1 : ta i = tk1 bk.h := by funext b'; simp only [ta, qsl, hpi, Par.isBx, hpm]; simp
      simp only [q88, hpm]
      rw [e1] at hkeep ⊢
      rw [c2]
      have := k1.own bk.h
      rw [c1] at this
      exact Own.keep (a := .box s.1 s.2 fl none) this hkeep
    | io fl =>
      rw [hpm] at hk
      obtain ⟨s0, bk, rfl, c1, _⟩ := hk
      subst z2
      have e1 : ta i = Ta i := by funext b'; simp only [ta, qsl, hpi, Par.isBx, hpm]; simp
      simp only [q88, hpm]
      rw [e1] at hkeep ⊢
      exact c1.keep hkeep
  have hmay : ∀ b', (∃ i, ta i b') → May T0 w0 w b' := fun b' ⟨i, hb'⟩ => (hta i b' hb').elim (fun hx => k1.mayf b' hx) (fun ⟨bk, _, _, hx⟩ => k1.may bk.h b' hx)
  have hG1 : GOk P J (fun b' => ∃ i, ta i b') ξ w := hG.step h.fr fun b' hb' => (hmay b' hb').1
  have hcalls := hsnd x' r hF ξ1 w (az.map (ev tm)) ta wf1 (hG1.up (q9s ξ w L)) (by simp; rw [← k4]; simp) (fun i b' hb' => (hmay b' ⟨i, hb'⟩).2) hdjta hargs
  intro df K Q hK
  unfold Oper.wp
  rw [qp7, show ev (⟨tm, df⟩ : Act).tmps = ev tm from rfl, qje hop hcan, Oper.upon_enter]
  refine hcalls.mono ?_
  rintro e w' ⟨v, ξ', tr, tb, rfl, F, wf', ho, hfin, hdj, htok⟩
  simp only
  rw [qjd]
  -- the ghost az it was for what was lent
  let ξ2 : Im := open Classical in fun b' => if L b' then ξ b' else ξ' b'
  have e2L : ∀ b', L b' → ξ2 b' = ξ b' := fun b' hb' => by simp only [ξ2]; rw [if_pos hb']
  have e2N : ∀ b', ¬ L b' → ξ2 b' = ξ' b' := fun b' hb' => by simp only [ξ2]; rw [if_neg hb']
  have U0 : ∀ b', (∃ i, ta i b') → ¬ L b' := fun b' ⟨i, hi⟩ hx => htaL i b' hi hx
  have F2 : Fr (fun b' => ∃ i, ta i b') ξ w ξ2 w' := by
    refine ⟨F.os, F.tape, F.output, F.size, fun b' hb' hn => ⟨(F.blk b' hb' hn).1, ?_⟩, fun b' i u hi hu => F.imm b' i u (Nat.lt_of_lt_of_le hi (q9s ξ w L b')) hu, fun b' hb' => ?_⟩
    · by_cases hx : L b'
      · exact e2L b' hx
      · rw [e2N b' hx, (F.blk b' hb' hn).2]; exact q65 hx
    · by_cases hx : L b'
      · rw [e2L b' hx]; exact Nat.le_refl _
      · rw [e2N b' hx]
        have := F.up b' hb'
        rwa [show ξ1 b' = ξ b' from q65 hx] at this
  have wf2 : Wf ξ2 w' := by
    intro b' hb'
    have hx : ¬ L b' := fun hx => by have := hL1 b' hx; have := F.size; omega
    rw [e2N b' hx]; exact wf' b' hb'
  have tokN : ∀ b', tr b' ∨ tb b' → ¬ L b' := by
    intro b' hb' hx
    rcases (htok b' hb').1 with h3 | h3
    · exact U0 b' h3 hx
    · have := hL1 b' hx; omega
  have hnoro : (lent = false ∧ ∀ b', ¬ L b') ∨ ce'.noro = true := by
    cases hle : lent with
    | false => exact .inl ⟨rfl, fun b' ⟨hx, _⟩ => by rw [hle] at hx; cases hx⟩
    | true => rw [hle] at hlent; exact .inr (by simpa using hlent)
  have hty : ∀ (i : Nat) (r' : Res) (s : Sv), ce'.rs[i]? = some r' → (unpack _ r)[i]? = some s → s.1 = r'.τ := by
    intro i r' s h1 h2
    have hu := q6w (l := outs ce'.ps ce'.rs) r
    have h3 : ((unpack _ r).map (·.1))[i]? = some s.1 := by rw [List.getElem?_map, h2]; rfl
    rw [hu] at h3
    have hlt : i < ce'.rs.length := (List.getElem?_eq_some_iff.1 h1).1
    simp only [outs] at h3
    rw [List.getElem?_append_left (by simpa using hlt), List.getElem?_map, h1] at h3
    simpa using h3.symm
  have ho2 : q6c ξ2 w' (q9x (q5w ce'.rs (unpack _ r))) v tr := by
    rcases hnoro with ⟨_, hn⟩ | hn
    · have : ξ2 = ξ' := funext fun b' => e2N b' (hn b')
      rw [this]; exact ho
    · have hn1 : ce'.rs.all (fun r => r.f.noro r.τ) = true := by
        simp only [CE.noro, Bool.and_eq_true] at hn; exact hn.1
      exact qpj ho (qmi hty hn1) fun b' hb' => e2N b' (tokN b' (.inl hb'))
  have lnt : ∀ (σ3 : St) (tk3 : Nat → Bs) (w3 : World) (ξ3 : Im), qd2 ξ3 w3 σ3 tm tk3 (q9x (q5w ce'.rs (unpack _ r))) v := by
    intro σ3 tk3 w3 ξ3
    have : ∀ (rs : List Res) (ss : List Sv), ∀ a ∈ q5w rs ss, (∃ τ x f, a = .d τ x f) ∨ ∃ τ x f r, a = .box τ x f r := by
      intro rs
      induction rs with
      | nil => intro ss a ha; cases ss <;> simp [q5w] at ha
      | cons r rs ih =>
        intro ss a ha
        cases ss with
        | nil => simp [q5w] at ha
        | cons s ss =>
          simp only [q5w, List.mem_cons] at ha
          rcases ha with rfl | ha
          · split
            · exact .inr ⟨_, _, _, _, rfl⟩
            · exact .inl ⟨_, _, _, rfl⟩
          · exact ih ss a ha
    have h1 := this ce'.rs (unpack _ r)
    match hl : q5w ce'.rs (unpack _ r), h1 with
    | [], _ => exact trivial
    | [a], h1 =>
      rcases h1 a (by simp) with ⟨τ, x, f, rfl⟩ | ⟨τ, x, f, r, rfl⟩ <;> trivial
    | a :: b :: l, _ => exact trivial
  have hU : ∀ (bk : Bk), b = some bk → Sb (fun b' => ∃ i, ta i b') (Un (fun b' => ∃ i, Ta i b') (tk1 bk.h)) := by
    intro bk hb b' ⟨j, hj⟩
    rcases hta j b' hj with hx | ⟨bk2, hx, _, hx2⟩
    · exact .inl hx
    · rw [hb] at hx; cases hx; exact .inr hx2
  have hUn : (∀ bk, b = some bk → bk.p ≠ none) → Sb (fun b' => ∃ i, ta i b') (fun b' => ∃ i, Ta i b') := by
    intro hb b' ⟨i, hi⟩
    rcases hta i b' hi with hx | ⟨bk, hx, hx2, _⟩
    · exact hx
    · exact absurd hx2 (hb bk hx)
  cases hb : b with
  | none =>
    have hU := hUn (fun bk hx => by rw [hb] at hx; cases hx)
    have S := k1.step F2 hU wf2 (Tf' := tr) (fun b' hb' => ⟨(htok b' (.inl hb')).1.imp (hU b') id, (htok b' (.inl hb')).2⟩)
    obtain ⟨tk2, S2⟩ := S.putO (dst := o.dst) ho2 (lnt _ _ _ _) df
    simp only [hb] at hK
    exact hK _ _ _ _ S2 (qal _ _ _ _)
  | some bk =>
    obtain ⟨i, p, s0, o', q1, ho', q3, q4⟩ := k6 bk hb
    have hin : p.isIn = true := by
      unfold qxv at q4
      split at q4 <;> simp [Par.isIn, q4.1]
    obtain ⟨s, z1, z2, z3⟩ := hfin i p q1 hin
    rw [hargv i o' ho'] at z3
    have hs0 : s0.1 = p.τ := by
      have hlt : i < l.length := (List.getElem?_eq_some_iff.1 q3).1
      obtain ⟨s', y1, y2⟩ := f2 i (some s0) o' q3 ho'
      have hu := q6w (l := ce'.ps.map (·.τ)) x'
      rw [hun] at hu
      have h3 : (ss.map (·.1))[i]? = some s0.1 := by rw [List.getElem?_map, y1]; simp only [Option.map_some]; rw [y2]
      rw [hu, List.getElem?_map, q1] at h3
      simpa using h3.symm
    have nr : ce'.noro = true → ∀ (f : Fl), p.m = .bx f ∨ p.m = .io f → f.noro s.1 = true := by
      intro hn f hf
      simp only [CE.noro, Bool.and_eq_true] at hn
      have := List.all_eq_true.1 hn.2 p (List.mem_of_getElem? q1)
      rw [z2]
      rcases hf with hf | hf <;> simpa [Par.noro, hf] using this
    unfold qxv at q4
    split at q4
    · rename_i hp0
      obtain ⟨q2, q4, q5⟩ := q4
      simp only [q88, q2] at z3
      rw [q5] at z3
      have z3' : q6c ξ2 w' (.box s.1 s.2 bk.f none) (tm.getD bk.h undef) tb := by
        rcases hnoro with ⟨_, hn⟩ | hn
        · have : ξ2 = ξ' := funext fun b' => e2N b' (hn b')
          rw [this]; exact z3
        · exact Own.low (a := .box s.1 s.2 bk.f none) z3 (.inr ⟨s.1, s.2, bk.f, none, rfl, nr hn _ (.inl q2)⟩) fun b' hb' => e2N b' (tokN b' (.inr hb'))
      have S := k1.turn (d := bk.h) (a := .box s.1 s.2 bk.f none) F2 (hU bk hb) wf2 (by rw [q4]; exact qsk (z2.trans hs0.symm)) z3' (fun _ => trivial) (T' := tb) (Tf' := tr)
        (fun b' hb' => ⟨(htok b' (.inr hb')).1.imp (hU bk hb b') id, (htok b' (.inr hb')).2⟩) (fun b' hb' => ⟨(htok b' (.inl hb')).1.imp (hU bk hb b') id, (htok b' (.inl hb')).2⟩) (Dj.symm hdj) (q9z (by rw [q4]; simp))
      obtain ⟨tk2, S2⟩ := S.putO (dst := o.dst) ho2 (lnt _ _ _ _) df
      simp only [hb, z1, ql4, hp0] at hK
      exact hK _ _ _ _ S2 (qal _ _ _ _)
    · rename_i q hp0
      obtain ⟨q2, cs, q4, q5⟩ := q4
      simp only [q88, q2] at z3
      rw [q5] at z3
      have z3' : q6c ξ2 w' (.d s.1 s.2 bk.f) (mkV s0.1 cs) tb := by
        rcases hnoro with ⟨_, hn⟩ | hn
        · have : ξ2 = ξ' := funext fun b' => e2N b' (hn b')
          rw [this]; exact z3
        · exact Own.low (a := .d s.1 s.2 bk.f) z3 (.inl ⟨s.1, s.2, bk.f, rfl, nr hn _ (.inr q2)⟩) fun b' hb' => e2N b' (tokN b' (.inr hb'))
      have hU := hUn (fun bk2 hx => by rw [hb] at hx; cases hx; rw [hp0]; simp)
      have S := k1.step F2 hU wf2 (Tf' := Un tr tb) (fun b' hb' => ⟨(htok b' hb').1.imp (hU b') id, (htok b' hb').2⟩)
      have hkp : q9y (tk1 bk.h) ξ w ξ2 w' := F2.keep k1.wf (fun b' hb' => (k1.may bk.h b' hb').2) ((k1.djf bk.h).sub (Sb.refl _) hU)
      have q4' := q4.keep (k1.own bk.h) hkp
      obtain ⟨τ, x0⟩ := s
      obtain ⟨τ0, y0⟩ := s0
      obtain rfl : τ = τ0 := z2.trans hs0.symm
      obtain ⟨tk3, S3⟩ := qv5 (s := ⟨τ, x0⟩) (x0 := y0) hp0 S (Dj.symm hdj) q4' z3'
      obtain ⟨tk2, S2⟩ := S3.putO (dst := o.dst) ho2 (lnt _ _ _ _) df
      simp only [hb, z1] at hK
      exact hK _ _ _ _ S2 (qal _ _ _ _)
end
end Go.Proofs.YtjfkeknnjjlepaaGreatDoor.Rf
end

section
/- Regions, and what is kept at a loop's head. Nothing of any program. -/
namespace Go.Proofs.YtjfkeknnjjlepaaGreatDoor.Rf
open Go Go.RowKit
set_option linter.unusedVariables false
set_option linter.unusedSimpArgs false
section
variable {ρ : Type} {P : Program} {E : q6f} {C : CEs} {T0 : Bs} {ξ0 : Im} {w0 : World} {tk : Nat → Bs} {Tf : Bs} {ξ : Im} {w : World} {σ : St} {tm : Array Value}
theorem qml {α : Type} (b : Bool) (x y : Option α) : ifb b x y = if b = true then x else y := by unfold ifb; rfl
theorem qpk (σ : St) (g : Nat) {a : AV} (h : σ.av g = a) : σ.know g a = σ := by
  subst h
  unfold St.know
  by_cases hg : g < σ.length
  · have : σ[g]? = some (σ.slot g) := by simp [St.slot, List.getD_eq_getElem?_getD, hg]
    apply List.ext_getElem?
    intro i
    by_cases hi : g = i
    · subst hi
      rw [List.getElem?_set_self hg, this]
      rfl
    · rw [List.getElem?_set_ne hi]
  · exact List.set_eq_of_length_le (by omega)
theorem qgq (σ : St) (L : List (Tmp × Fl)) : ∀ (t : Nat) (l : List Slot) (i : Nat), (qdq σ L t l)[i]? = (l[i]?).map fun s => ⟨0, 0, ql5 σ L (t + i) s⟩
  | t, [], i => by simp [qdq]
  | t, s :: l, 0 => by simp [qdq]
  | t, s :: l, i + 1 => by
    simp only [qdq, List.getElem?_cons_succ, qgq σ L (t + 1) l i]
    rw [show t + 1 + i = t + (i + 1) by omega]
theorem qjf (σ : St) (L : List (Tmp × Fl)) (t : Nat) : (norm (some L) σ).slot t = if t < σ.length then ⟨0, 0, ql5 σ L t (σ.slot t)⟩ else ⟨0, 0, .no⟩ := by
  simp only [norm, St.slot, List.getD_eq_getElem?_getD, qgq, Nat.zero_add]
  by_cases h : t < σ.length
  · simp [h]
  · simp [h]
theorem qsm (σ : St) (L : List (Tmp × Fl)) : (norm (some L) σ).length = σ.length := by
  have : ∀ (l : List Slot) (t : Nat), (qdq σ L t l).length = l.length := by
    intro l
    induction l with
    | nil => intro t; rfl
    | cons s l ih => intro t; simp [qdq, ih]
  exact this σ 0
def qhr (σ : St) (L : List (Tmp × Fl)) (t : Nat) : Prop := ∃ τ x f', σ.av t = .d τ x f' ∧ L.lookup t = some .ro ∧ f' ≠ .ro ∧ f'.ok τ = true
def qjg (σ : St) (L : List (Tmp × Fl)) (t : Nat) : Prop := (σ.av t).cold (L.lookup t) = true
theorem qsn {σ : St} {L : List (Tmp × Fl)} {t : Nat} (h : qjg σ L t) : ∃ τ x f', σ.av t = .box τ x f' none ∧ L.lookup t = some .ro ∧ f' ≠ .ro ∧ f'.ok τ = true := by
  unfold qjg AV.cold at h
  split at h
  case h_2 => cases h
  rename_i τ x f' sr ha
  split at h
  case h_2 => cases h
  rename_i f hL
  simp only [Bool.and_eq_true, Bool.not_eq_true', decide_eq_true_eq, decide_eq_false_iff_not] at h
  obtain ⟨h1, rfl, h3, h4⟩ := h
  cases sr with
  | some r => simp at h4
  | none => exact ⟨τ, x, f', ha, hL, h1, h3⟩
theorem qjh {σ : St} {L : List (Tmp × Fl)} {t : Nat} (h : qhr σ L t) : ¬ qjg σ L t := fun hb => by
  obtain ⟨τ, x, f', e, _⟩ := h
  obtain ⟨τ2, x2, f2, e2, _⟩ := qsn hb
  rw [e] at e2; cases e2
theorem qv7 {ξ' : Im} {t : Nat} {f : Option Fl} {T' : Bs} {v : Value} (h : q6c ξ w (σ.av t) v (tk t)) (up : ∀ b, ξ b ≤ ξ' b) (same : (¬ ∃ τ x f', σ.av t = .d τ x f' ∧ f = some .ro ∧ f' ≠ .ro ∧ f'.ok τ = true) → (σ.av t).cold f = false → T' = tk t ∧ ∀ b, tk t b → ξ' b = ξ b)
    (cov : (∃ τ x f', σ.av t = .d τ x f' ∧ f = some .ro ∧ f' ≠ .ro ∧ f'.ok τ = true) → ∀ b c ty fz, tk t b → w.heap[b]? = some (.cells c ty fz) → c.size ≤ ξ' b)
    (covB : (σ.av t).cold f = true → (∀ b c ty fz, tk t b → v ≠ .pointer (some ⟨b, 0, none⟩) → w.heap[b]? = some (.cells c ty fz) → c.size ≤ ξ' b) ∧ (∀ b, tk t b → v = .pointer (some ⟨b, 0, none⟩) → ξ' b = ξ b ∧ T' b)) : q6c ξ' w (nAV f (σ.av t)) v T' := by
  cases ha : σ.av t with
  | d τ x f' =>
    rw [ha] at h same cov
    simp only [nAV]
    cases f with
    | none => trivial
    | some f =>
      simp only
      split
      · rename_i e
        subst e
        obtain ⟨e1, e2⟩ := same (by rintro ⟨τ1, x1, f1, e1, e2, e3, _⟩; cases e1; cases e2; exact e3 rfl) rfl
        rw [e1]
        exact Own.keep (a := .d τ x f') h ⟨fun b hb => ⟨rfl, e2 b hb⟩, fun _ _ _ _ h => h, up⟩
      · rename_i hne
        split
        · rename_i hok
          simp only [Bool.and_eq_true, decide_eq_true_eq] at hok
          obtain ⟨rfl, hok⟩ := hok
          obtain ⟨cs, h1, h2⟩ := h
          exact ⟨cs, h1, (h2.freeze up hok (cov ⟨τ, x, f', rfl, rfl, hne, hok⟩)).sub (Sb.em _)⟩
        · trivial
  | box τ x f' r =>
    rw [ha] at h same covB
    simp only [nAV]
    cases f with
    | none => trivial
    | some f =>
      simp only
      split
      · rename_i e
        subst e
        obtain ⟨e1, e2⟩ := same (by rintro ⟨τ1, x1, f1, e1, _⟩; cases e1) (by simp [AV.cold])
        rw [e1]
        exact Own.keep (a := .box τ x f' r) h ⟨fun b hb => ⟨rfl, e2 b hb⟩, fun _ _ _ _ h => h, up⟩
      · rename_i hne
        split
        · rename_i hok
          simp only [Bool.and_eq_true, decide_eq_true_eq] at hok
          obtain ⟨rfl, hok, hr⟩ := hok
          cases r with
          | some r => simp at hr
          | none =>
          obtain ⟨k1, k2⟩ := covB (by simp [AV.cold, hne, hok])
          obtain ⟨b, c, ty, fz, T1, g1, g2, g3, g4, g5, g6, g7, g8⟩ := h
          obtain ⟨e1, e2⟩ := k2 b g2 g1
          refine ⟨b, c, ty, fz, Em, g1, e2, g3, g4, ?_, Sb.em _, fun x => x, (g8.freeze up hok fun b' c' ty' fz' hb' hc' => ?_).sub (Sb.em _)⟩
          · show ξ' b = 0
            rw [e1]; exact g5
          · refine k1 b' c' ty' fz' (g6 b' hb') (fun hv => ?_) hc'
            rw [g1] at hv
            cases hv
            exact g7 hb'
        · trivial
  | _ => trivial
theorem qhs (L : Option (List (Tmp × Fl))) (h : SA T0 ξ0 w0 tk Em ξ w σ tm) : ∃ tk' : Nat → Bs, ∃ ξ' : Im, SA T0 ξ0 w0 tk' Em ξ' w (norm L σ) tm := by
  cases L with
  | none => exact ⟨tk, ξ, h⟩
  | some L =>
    let Fz : Bs := fun b => ∃ t, tk t b ∧ (qhr σ L t ∨ (qjg σ L t ∧ tm.getD t undef ≠ .pointer (some ⟨b, 0, none⟩)))
    let ξ' := frz ξ w Fz
    let tk' : Nat → Bs := fun t b => tk t b ∧ ¬ qhr σ L t ∧ (qjg σ L t → tm.getD t undef = .pointer (some ⟨b, 0, none⟩))
    have up : ∀ b, ξ b ≤ ξ' b := q9s ξ w Fz
    have keepN : ∀ t, ¬ qhr σ L t → ¬ qjg σ L t → ∀ b, tk t b → ξ' b = ξ b := by
      intro t hn hm b hb
      refine q65 ?_
      rintro ⟨u, hu2, hu1⟩
      by_cases e : t = u
      · subst e; exact hu1.elim hn fun x => hm x.1
      · exact h.dj t u e b hb hu2
    have keepB : ∀ t, qjg σ L t → ∀ b, tk t b → tm.getD t undef = .pointer (some ⟨b, 0, none⟩) → ξ' b = ξ b := by
      intro t hm b hb hv
      refine q65 ?_
      rintro ⟨u, hu2, hu1⟩
      by_cases e : t = u
      · subst e; exact hu1.elim (fun x => qjh x hm) fun x => x.2 hv
      · exact h.dj t u e b hb hu2
    have tkN : ∀ t, ¬ qhr σ L t → ¬ qjg σ L t → tk' t = tk t := fun t hn hm => funext fun b => propext ⟨fun x => x.1, fun x => ⟨x, hn, fun y => absurd y hm⟩⟩
    have cov : ∀ t, qhr σ L t → ∀ b c ty fz, tk t b → w.heap[b]? = some (.cells c ty fz) → c.size ≤ ξ' b := fun t hf b c ty fz hb hc => q8s (show Fz b from ⟨t, hb, .inl hf⟩) hc
    -- a part that was lent is still to be read
    have relK : ∀ (h0 : Nat) {τ : Ty} {f : Fl} {x : τ.T} {cs : List Value} {T' : Bs}, ¬ qjg σ L h0 → Rel ξ w τ f x cs T' → f.ok τ = true → Sb T' (tk h0) → ∃ f2 : Fl, ∃ T2 : Bs, Sb T2 (tk' h0) ∧ f2.ok τ = true ∧ Rel ξ' w τ f2 x cs T2 := by
      intro h0 τ f x cs T' hb0 hr hok hs
      by_cases hf : qhr σ L h0
      · exact ⟨.ro, Em, Sb.em _, qgb _, hr.freeze up hok fun b c ty fz hb hc => cov h0 hf b c ty fz (hs b hb) hc⟩
      · exact ⟨f, T', by rw [tkN h0 hf hb0]; exact hs, hok, hr.keep ⟨fun b hb => ⟨rfl, keepN h0 hf hb0 b (hs b hb)⟩, fun _ _ _ _ h => h, up⟩⟩
    have nslot : ∀ t, (norm (some L) σ).av t = if t < σ.length then ql5 σ L t (σ.slot t) else .no := by
      intro t
      simp only [St.av, qjf]
      split <;> rfl
    have gz : ∀ t, ((norm (some L) σ).slot t).g = 0 ∧ ((norm (some L) σ).slot t).v = 0 := by
      intro t
      rw [qjf]
      split <;> exact ⟨rfl, rfl⟩
    have past : ∀ t, Past (norm (some L) σ) t 0 0 := fun t => ⟨Nat.zero_le _, fun _ => Nat.zero_le _⟩
    -- what stands in a slot that is kept
    have held : ∀ h0, (nAV (L.lookup h0) (σ.av h0)).live = true → (norm (some L) σ).av h0 = nAV (L.lookup h0) (σ.av h0) := by
      intro h0 hl
      have hne : σ.av h0 ≠ .no := by intro e; rw [e] at hl; simp [nAV, AV.live] at hl
      rw [nslot, if_pos (q9z hne)]
      unfold ql5
      cases hL : L.lookup h0 with
      | none =>
        rw [hL] at hl
        cases ha : σ.av h0 <;> rw [ha] at hl <;> simp [nAV, AV.live] at hl
      | some f =>
        rw [hL] at hl
        have ea : (σ.slot h0).a = σ.av h0 := rfl
        simp only [ea]
        cases ha : σ.av h0 <;> rw [ha] at hl <;> first | rfl | (simp [nAV, AV.live] at hl; done)
    have partK : ∀ h0 q {τ : Ty} {x : τ.T} {cs : List Value}, Part w (σ.av h0) (tm.getD h0 undef) q τ x cs → (nAV (L.lookup h0) (σ.av h0)).live = true → Part w ((norm (some L) σ).av h0) (tm.getD h0 undef) q τ x cs := by
      intro h0 q τ x cs hp hl
      rw [held h0 hl]
      cases ha : σ.av h0 with
      | d τ1 x1 f1 =>
        rw [ha] at hp hl
        cases hL : L.lookup h0 with
        | none => rw [hL] at hl; simp [nAV, AV.live] at hl
        | some f =>
          rw [hL] at hl
          simp only [nAV] at hl ⊢
          split
          · exact hp
          · rename_i hne
            rw [if_neg hne] at hl
            split
            · exact hp
            · rename_i hno
              rw [if_neg hno] at hl
              simp [AV.live] at hl
      | box τ1 x1 f1 r1 =>
        rw [ha] at hp hl
        cases hL : L.lookup h0 with
        | none => rw [hL] at hl; simp [nAV, AV.live] at hl
        | some f =>
          rw [hL] at hl
          simp only [nAV] at hl ⊢
          split
          · exact hp
          · rename_i hne
            rw [if_neg hne] at hl
            split
            · exact hp
            · rename_i hno
              rw [if_neg hno] at hl
              simp [AV.live] at hl
      | _ => rw [ha] at hp; exact hp.elim
    have own1 : ∀ t, q6c ξ' w ((norm (some L) σ).av t) (tm.getD t undef) (tk' t) := by
      intro t
      rw [nslot]
      split
      case isFalse => trivial
      have ho := h.own t
      unfold ql5
      split
      · trivial
      · rename_i f hL
        have ea : (σ.slot t).a = σ.av t := rfl
        have nb : q6c ξ' w (nAV (some f) (σ.av t)) (tm.getD t undef) (tk' t) := by
          refine qv7 ho up (fun hn hm => ?_) (fun hy => ?_) (fun hy => ?_)
          · have hnf : ¬ qhr σ L t := fun ⟨τ, x, f', e1, e2, e3, e4⟩ => hn ⟨τ, x, f', e1, by rw [hL] at e2; exact e2, e3, e4⟩
            have hmf : ¬ qjg σ L t := fun hb => by unfold qjg at hb; rw [hL, hm] at hb; cases hb
            exact ⟨tkN t hnf hmf, keepN t hnf hmf⟩
          · obtain ⟨τ, x, f', e1, e2, e3, e4⟩ := hy
            exact cov t ⟨τ, x, f', e1, by rw [hL]; exact e2, e3, e4⟩
          · have hB : qjg σ L t := by unfold qjg; rw [hL]; exact hy
            exact ⟨fun b c ty fz hb hv hc => q8s (show Fz b from ⟨t, hb, .inr ⟨hB, hv⟩⟩) hc, fun b hb hv => ⟨keepB t hB b hb hv, hb, fun x => qjh x hB, fun _ => hv⟩⟩
        simp only [ea]
        cases ha : σ.av t with
        | vw τ x h0 p g v => simp only; split <;> trivial
        | ref h0 p g v => simp only; split <;> trivial
        | rp τ x q =>
          cases q with
          | none =>
            rw [ha] at ho
            exact (Own.keep (a := .rp τ x none) (T := Em) ho ⟨fun _ hb => hb.elim, fun _ _ _ _ h => h, up⟩ : Own ξ' w (.rp τ x none) _ Em)
          | some q => obtain ⟨h0, g, v⟩ := q; simp only; split <;> trivial
        | fn f => rw [ha] at ho; exact ho
        | cl f h0 g => simp only; split <;> trivial
        | ap h0 i g v => trivial
        | un => rw [ha] at ho; exact ho
        | d τ x f' => rw [ha] at nb; exact nb
        | box τ x f' r => rw [ha] at nb; exact nb
        | no => trivial
        | tup l => trivial
    have lent1 : ∀ t, qd2 ξ' w (norm (some L) σ) tm tk' ((norm (some L) σ).av t) (tm.getD t undef) := by
      intro t
      rw [nslot]
      split
      case isFalse => trivial
      have hl := h.lent t
      unfold ql5
      split
      · trivial
      · rename_i f hL
        have ea : (σ.slot t).a = σ.av t := rfl
        simp only [ea]
        cases ha : σ.av t with
        | vw τ x h0 p g v =>
          rw [ha] at hl
          simp only
          split
          case isFalse => trivial
          rename_i hv
          simp only [Bool.and_eq_true, Bool.not_eq_true'] at hv
          have hnB : ¬ qjg σ L h0 := fun x => by unfold qjg at x; rw [hv.2] at x; cases x
          obtain ⟨cs, f1, T', k1, k2, k3, k4, k5⟩ := hl.2 hv.1
          obtain ⟨f2, T2, m1, m2, m3⟩ := relK h0 hnB k4 k3 k2
          refine ⟨past _, fun _ => ⟨cs, f2, T2, k1, m1, m2, m3, fun q hq => ?_⟩⟩
          split at hq
          · rename_i hlive
            exact partK h0 q (k5 q hq) hlive
          · cases hq
        | ref h0 p g v =>
          rw [ha] at hl
          simp only
          split
          case isFalse => trivial
          rename_i hv
          simp only [Bool.and_eq_true] at hv
          obtain ⟨hv1, hv2, hv3⟩ := hv
          obtain ⟨b, o, k1, k2⟩ := hl.2 hv1
          refine ⟨past _, fun _ => ⟨b, o, k1, ?_⟩⟩
          have hlive : (nAV (L.lookup h0) (σ.av h0)).live = true := by
            cases hn : nAV (L.lookup h0) (σ.av h0) <;> rw [hn] at hv3 <;> simp [AV.isBox] at hv3
            rfl
          rw [held h0 hlive]
          cases hh : σ.av h0 with
          | box τ1 x1 f1 r1 =>
            rw [hh] at k2 hv3
            obtain ⟨b0, c, ty, fz, z1, z2, z3⟩ := k2
            cases hLL : L.lookup h0 with
            | none => rw [hLL] at hv3; simp [nAV, AV.isBox] at hv3
            | some ff =>
              rw [hLL] at hv3
              simp only [nAV] at hv3 ⊢
              split
              · exact ⟨b0, c, ty, fz, z1, z2, fun hx => by rw [hv2] at hx; cases hx⟩
              · rename_i hne
                rw [if_neg hne] at hv3
                split
                · exact ⟨b0, c, ty, fz, z1, z2, fun hx => by rw [hv2] at hx; cases hx⟩
                · rename_i hno
                  rw [if_neg hno] at hv3
                  simp [AV.isBox] at hv3
          | d τ1 x1 f1 =>
            rw [hh] at hv3
            cases hLL : L.lookup h0 with
            | none => rw [hLL] at hv3; simp [nAV, AV.isBox] at hv3
            | some ff =>
              rw [hLL] at hv3
              simp only [nAV] at hv3
              split at hv3
              · simp [AV.isBox] at hv3
              · split at hv3 <;> simp [AV.isBox] at hv3
          | _ => rw [hh] at hv3; simp [nAV, AV.isBox] at hv3
        | cl f h0 g =>
          rw [ha] at hl
          simp only
          split
          case isFalse => trivial
          rename_i hv
          simp only [Bool.and_eq_true, decide_eq_true_eq] at hv
          exact ⟨past _, fun _ => hl.2 hv.1⟩
        | rp τ x q =>
          cases q with
          | none => trivial
          | some q =>
            obtain ⟨h0, g, v⟩ := q
            rw [ha] at hl
            simp only
            split
            case isFalse => trivial
            rename_i hv
            simp only [Bool.and_eq_true, Bool.not_eq_true'] at hv
            have hnB : ¬ qjg σ L h0 := fun x => by unfold qjg at x; rw [hv.2] at x; cases x
            obtain ⟨b, o, cs, f1, T', k1, k2, k3, k4, k5, k6, k7⟩ := hl.2 hv.1
            obtain ⟨f2, T2, m1, m2, m3⟩ := relK h0 hnB k7 k6 k5
            refine ⟨past _, fun _ => ⟨b, o, cs, f2, T2, k1, k2, k3, ?_, m1, m2, m3⟩⟩
            by_cases hf : qhr σ L h0
            · right
              rcases k4 with k4 | k4
              · -- the cells stand in a block that is frozen whole
                have hn := τ.n_pos
                have hcell := k3 (τ.n - 1) _ (List.getElem?_eq_getElem (by omega))
                cases hb : w.heap[b]? with
                | none => simp [World.cell?, hb] at hcell
                | some ob =>
                  cases ob with
                  | cells c ty fz =>
                    rw [cell_of hb] at hcell
                    have hlt := (Array.getElem?_eq_some_iff.1 hcell).1
                    have := cov h0 hf b c ty fz k4 hb
                    omega
                  | _ => simp [World.cell?, hb] at hcell
              · exact Nat.le_trans k4 (up b)
            · exact k4.imp (fun z => by rw [tkN h0 hf hnB]; exact z) (fun z => Nat.le_trans z (up b))
        | d τ x f' =>
          simp only [nAV]
          split
          · trivial
          · split <;> trivial
        | box τ x f' r =>
          simp only [nAV]
          split
          · trivial
          · split <;> trivial
        | _ => trivial
    refine ⟨tk', ξ', ?_⟩
    have F : Fr Fz ξ w ξ' w := ⟨rfl, rfl, rfl, Nat.le_refl _, fun b _ hb => ⟨rfl, q65 hb⟩, fun _ _ _ _ h => h, fun b _ => up b⟩
    refine ⟨h.fr.trans F fun b ⟨t, hb, _⟩ => (h.may t b hb).1, fun b hb => ?_, by rw [qsm]; exact h.sz, fun t b hb => h.may t b hb.1, fun b hb => hb.elim, fun t u htu b h1 h2 => h.dj t u htu b h1.1 h2.1, fun t => Dj.em' _, own1, lent1⟩
    rw [show ξ' b = ξ b from q65 fun ⟨t, hx, _⟩ => by have := (h.may t b hx).2; omega]
    exact h.wf b hb
theorem qv8 (u : Tmp) (h : SA T0 ξ0 w0 tk Em ξ w σ tm) : ∃ tk' : Nat → Bs, ∃ ξ' : Im, SA T0 ξ0 w0 tk' Em ξ' w (qs3 σ u) tm := by
  unfold qs3
  split
  · rename_i τ x f ha
    split
    · rename_i hf
      have hlt := q9z (σ := σ) (u := u) (by rw [ha]; simp)
      obtain ⟨cs, h1, h2⟩ := h.at_d ha
      have out := h.put (tm' := tm) (d := u) (a := .no) (T' := Em) (Tf' := Un Em (tk u)) rfl (fun _ _ => rfl) trivial trivial (Sb.em _) (Sb.refl _) (Dj.em _) hlt
      have out2 := out.freeze (T' := tk u) fun b hb => .inr hb
      have out3 := out2.drop (Tf' := Em) (fun b hb => hb.elim)
      refine ⟨_, _, out3.put (tm' := tm) (d := u) (a := .d τ x .ro) (T' := Em) (Tf' := Em) rfl (fun _ _ => rfl) ⟨cs, h1, h2.frz hf⟩ trivial (Sb.em _) (fun b hb => hb.elim) (Dj.em _) ?_⟩
      simpa [St.put] using hlt
    · exact ⟨tk, ξ, h⟩
  · exact ⟨tk, ξ, h⟩
theorem qpl : ∀ (l : List Tmp) {σ : St} {tk : Nat → Bs} {ξ : Im}, SA T0 ξ0 w0 tk Em ξ w σ tm → ∃ tk' : Nat → Bs, ∃ ξ' : Im, SA T0 ξ0 w0 tk' Em ξ' w (l.foldl qs3 σ) tm
  | [], _, tk, ξ, h => ⟨tk, ξ, h⟩
  | u :: l, _, _, _, h => by
    obtain ⟨tk1, ξ1, h1⟩ := qv8 u h
    exact qpl l h1
theorem qwp (o : Oper) (h : SA T0 ξ0 w0 tk Em ξ w σ tm) : ∃ tk' : Nat → Bs, ∃ ξ' : Im, SA T0 ξ0 w0 tk' Em ξ' w (pre C o σ) tm := by
  unfold pre
  split
  · split
    · split
      · exact qpl _ h
      · exact ⟨tk, ξ, h⟩
    · exact ⟨tk, ξ, h⟩
  · exact ⟨tk, ξ, h⟩
theorem qso {o : Oper} {f : FuncId} {u : Nat} {az : Array Operand} {ts : Array TypeId} {v : Value} (hop : o.op = .call ⟨.value (.tmp u), az, ts⟩) (hu : tm.getD u undef = .func (.func f) #[] #[v]) (hc : Can P f) : (execOp (ev tm) o).run P w = .ok (.enter f (az.map (ev tm) ++ #[v])) w := by
  obtain ⟨fn, h1, h2, h3⟩ := hc
  have h4 : fn.body.isNone = false := by cases hb : fn.body <;> simp [hb] at h3 ⊢
  have hu' : ev tm (.tmp u) = .func (.func f) #[] #[v] := hu
  simp only [execOp, hop, resolve, hu', Deferred.ofValue, Sem.run_bind, Sem.run_pure, Result.andThen, invoke, callFunc, run_program]
  simp [h1, h2, h4]
theorem qsp {o : Oper} {σ' : St} (h : SA T0 ξ0 w0 tk Em ξ w σ tm) (hc : ∀ f az ts, (clo σ o).op = .call ⟨.value (.func f), az, ts⟩ → Can P f) (g : Goes P T0 ξ0 w0 σ' tm (clo σ o) w) : Goes P T0 ξ0 w0 σ' tm o w := by
  unfold clo at g hc
  split at g
  · rename_i u az ts hop
    simp only [hop] at hc
    split at g
    · rename_i f hh gg ha
      simp only [ha] at hc
      split at g
      · rename_i he
        rw [if_pos he] at hc
        have hl := h.lent u
        rw [ha] at hl
        have hv := hl.2 he
        have hcan := hc f _ _ rfl
        intro df K Q hK
        have := g df K Q hK
        unfold Oper.wp at this ⊢
        rw [qp7, show ev (⟨tm, df⟩ : Act).tmps = ev tm from rfl] at this ⊢
        rw [qje (P := P) (f := f) (az := az.push (.tmp hh)) (ts := ts.push 0) rfl hcan] at this
        rw [qso hop hv hcan]
        rw [show az.map (ev tm) ++ #[tm.getD hh undef] = (az.push (.tmp hh)).map (ev tm) by rw [Array.map_push, Array.push_eq_append]; rfl]
        exact this
      · exact g
    · exact g
  · exact g
theorem qpm {o : Oper} {σ' : St} {J : Jd P} (he : EOk P E ξ0 w0) (hG : GOk P J T0 ξ0 w0) (hC : qgp P J C) (h : SA T0 ξ0 w0 tk Em ξ w σ tm) (hr : qhl E C o σ = some σ') : Goes P T0 ξ0 w0 σ' tm o w := by
  unfold qhl at hr
  split at hr
  · rename_i c a b hop
    split at hr
    case h_2 => cases hr
    rename_i x hx
    obtain rfl := Option.some.inj hr
    have hc := (q78 h hx).bool
    refine Gd.goes (a := copy E σ o.type (if x = true then a else b)) ?_
    refine Gd.pure h (v := ev tm (if x = true then a else b)) ?_ (qa7 E o.type h _).1 (qa7 E o.type h _).2
    simp only [execOp, hop, hc, asBool, Sem.run_bind, Sem.run_pure, Result.andThen]
    cases x <;> rfl
  · rename_i f az ts hop
    split at hr
    case h_2 => cases hr
    rename_i ce x k hk
    obtain ⟨r, hr1, hr2⟩ := Option.map_eq_some_iff.1 hr
    subst hr2
    refine qsp h (fun f' az' ts' he => ?_) ?_
    · unfold q76 at hk
      rw [he] at hk
      simp only at hk
      cases hl : C.lookup f' with
      | none => simp only [hl] at hk; cases hk
      | some ce' => exact (hC f' ce' hl).2
    obtain ⟨tk1, ξ1, h1⟩ := qwp (C := C) (clo σ o) h
    exact qv6 hG hC h1 hk hr1
  · split at hr
    case h_2 => cases hr
    rename_i g a σ1 hop1
    split at hr
    case isFalse => cases hr
    rename_i hg
    obtain rfl := Option.some.inj hr
    exact (qwo he h hop1 hg).goes
def qy6 (P : Program) (T0 : Bs) (ξ0 : Im) (w0 : World) (σ' : St) (tm : Array Value) (ops : Array Oper) (o : Oper) (w : World) : Prop :=
  ∀ (df : List Deferred) (K : Act → World → Prop) (Q : Exit → Act → World → Prop), (∀ tm' w' ξ' tk', SA T0 ξ0 w0 tk' Em ξ' w' σ' tm' → Kept o.dst tm tm' → K ⟨tm', df⟩ w') →
    if Region.wanted o (yielded ops tm) = true then o.wp P ⟨tm, df⟩ w K Q else K ((⟨tm, df⟩ : Act).put o.dst undef) w
theorem qpn {ops : Array Oper} {o : Oper} {σ' : St} {J : Jd P} (he : EOk P E ξ0 w0) (hG : GOk P J T0 ξ0 w0) (hC : qgp P J C) (h : SA T0 ξ0 w0 tk Em ξ w σ tm) (hr : qat E C ops o σ = some σ') : qy6 P T0 ξ0 w0 σ' tm ops o w := by
  intro df K Q hK
  unfold qat at hr
  split at hr
  · rename_i hg
    rw [if_pos (by simp [Region.wanted, hg])]
    exact qpm he hG hC h hr df K Q hK
  · rename_i j want hg
    split at hr
    case h_1 => cases hr
    rename_i g hgd
    have skip : K ((⟨tm, df⟩ : Act).put o.dst undef) w → K ((⟨tm, df⟩ : Act).put o.dst undef) w := id
    have unK : (∀ tm' w' ξ' tk', SA T0 ξ0 w0 tk' Em ξ' w' (σ.putO o.dst .un) tm' → Kept o.dst tm tm' → K ⟨tm', df⟩ w') → K ((⟨tm, df⟩ : Act).put o.dst undef) w := by
      intro hK
      obtain ⟨tk2, S⟩ := h.putO (dst := o.dst) (a := .un) (v := undef) (T' := Em) rfl trivial df
      rw [qjd]
      exact hK _ _ _ _ S (qal _ _ _ _)
    have ho := h.own g
    split at hr
    · rename_i ha
      obtain rfl := Option.some.inj hr
      rw [ha] at ho
      have hv : tm.getD g undef = undef := ho
      have hw : Region.wanted o (yielded ops tm) = false := by
        simp only [Region.wanted, hg, yielded, hgd, Option.bind_some]
        by_cases hs : g < tm.size
        · have e1 : tm[g]? = some undef := by
            rw [Array.getElem?_eq_getElem hs]
            have := hv
            simp only [Array.getD_eq_getD_getElem?, Array.getElem?_eq_getElem hs, Option.getD_some] at this
            rw [this]
          simp [e1, undef]
        · simp [Array.getElem?_eq_none (Nat.le_of_not_lt hs)]
      rw [if_neg (by simp [hw])]
      exact unK hK
    · rename_i b ha
      rw [ha] at ho
      obtain ⟨cs, h1, h2⟩ := ho
      have hv : tm.getD g undef = .bool b := by rw [h1, h2.2 (by simp)]; rfl
      have hs : g < tm.size := by
        rw [h.sz]
        exact q9z (by rw [ha]; simp)
      have hy : Region.wanted o (yielded ops tm) = (b == want) := by
        simp only [Region.wanted, hg, yielded, hgd, Option.bind_some]
        have e1 : tm[g]? = some (.bool b) := by
          rw [Array.getElem?_eq_getElem hs]
          have := hv
          simp only [Array.getD_eq_getD_getElem?, Array.getElem?_eq_getElem hs, Option.getD_some] at this
          rw [this]
        simp [e1]
      split at hr
      · rename_i hbw
        rw [if_pos (by rw [hy]; simpa using hbw)]
        exact qpm he hG hC h hr df K Q hK
      · rename_i hbw
        obtain rfl := Option.some.inj hr
        rw [if_neg (by rw [hy]; simpa using hbw)]
        exact unK hK
    · cases hr
theorem qmm (o : Oper) (σ : St) (K : St → Option ρ) : qp2 E C o σ K = (qhl E C o σ).bind K := by
  unfold qp2 qhl
  split
  · split
    · rename_i x _
      rw [qml]
      cases x <;> simp
    · rfl
  · split
    · rename_i ce x k _
      cases ce.F x <;> rfl
    · rfl
  · split
    · rename_i g a σ1 _
      rw [qml]
      cases g <;> simp
    · rfl
theorem qmn (ops : Array Oper) (o : Oper) (σ : St) (K : St → Option ρ) : qs4 E C ops o σ K = (qat E C ops o σ).bind K := by
  unfold qs4 qat
  split
  · exact qmm o σ K
  · rename_i j want hg
    split
    · rfl
    · rename_i g hgd
      split
      · rfl
      · rename_i b ha
        have k : ∀ c : Bool, b = c → σ.know g (.d .bool c .ro) = σ := fun c hc => by subst hc; exact qpk σ g ha
        cases want <;> cases b <;> simp only [qml, qmm, if_true, if_false, Bool.false_eq_true, Bool.true_eq_false, k _ rfl] <;> rfl
      · rfl
def qxw (E : q6f) (C : CEs) (ops : Array Oper) : List Oper → St → Option St
  | [], σ => some σ
  | o :: l, σ => (qat E C ops o σ).bind (qxw E C ops l)
theorem qht (ops : Array Oper) : ∀ (l : List Oper) (σ : St) (K : St → Option ρ), qp3 E C ops l σ K = (qxw E C ops l σ).bind K
  | [], σ, K => rfl
  | o :: l, σ, K => by
    simp only [qp3, qmn, qxw]
    cases qat E C ops o σ with
    | none => rfl
    | some σ1 => simp only [Option.bind_some]; exact qht ops l σ1 K
theorem qf6 {ops : Array Oper} {J : Jd P} (he : EOk P E ξ0 w0) (hG : GOk P J T0 ξ0 w0) (hC : qgp P J C) (df : List Deferred) {Q : Exit → Act → World → Prop} : ∀ (l : List Oper) (σ σ' : St) (tk : Nat → Bs) (ξ : Im) (w : World) (tm : Array Value), SA T0 ξ0 w0 tk Em ξ w σ tm → qxw E C ops l σ = some σ' →
    (∀ tm' w' ξ' tk', SA T0 ξ0 w0 tk' Em ξ' w' σ' tm' → (∀ t, (∀ o ∈ l, o.dst ≠ some t) → tm'.getD t undef = tm.getD t undef) → Q .normal ⟨tm', df⟩ w') → wpList P ops Q l ⟨tm, df⟩ w
  | [], σ, σ', tk, ξ, w, tm, h, hr, hK => by
    obtain rfl := Option.some.inj hr
    exact hK _ _ _ _ h fun _ _ => rfl
  | o :: l, σ, σ', tk, ξ, w, tm, h, hr, hK => by
    obtain ⟨σ1, h1, h2⟩ := Option.bind_eq_some_iff.1 hr
    have g := qpn (ops := ops) he hG hC h h1 df (wpList P ops Q l) Q fun tm' w' ξ' tk' S kp => qf6 he hG hC df l σ1 σ' tk' ξ' w' tm' S h2 fun tm2 w2 ξ2 tk2 S2 kp2 => hK _ _ _ _ S2 fun t ht => (kp2 t fun o' ho' => ht o' (List.mem_cons_of_mem _ ho')).trans (kp t (ht o (List.mem_cons_self ..)))
    unfold wpList
    split
    · rename_i hw
      rw [if_pos hw] at g
      exact .inl g
    · rename_i hw
      rw [if_neg hw] at g
      exact g
end
end Go.Proofs.YtjfkeknnjjlepaaGreatDoor.Rf
end
