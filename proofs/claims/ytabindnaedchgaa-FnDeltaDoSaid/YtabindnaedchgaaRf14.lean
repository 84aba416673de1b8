/- Operations: cuts, fields, conversions, new rows. Nothing of any program. -/
import Derived.Test.YtabindnaedchgaaRf13
import Derived.IntWalk
namespace Go.Proofs.Ytabindnaedchgaa.Rf
open Go Go.RowKit
set_option linter.unusedVariables false
set_option linter.unusedSimpArgs false

section
variable {P : Program} {E : TyOf} {T0 : Bs} {ξ0 : Im} {w0 : World} {tk : Nat → Bs} {Tf : Bs} {ξ : Im} {w : World} {σ : St} {tm : Array Value}
theorem op_unOp {op : UnOp} {t : TypeId} {x : Operand} {o : Oper} {a s : Sv} (h : SA T0 ξ0 w0 tk Em ξ w σ tm) (hop : o.op = .unOp op t x) (hx : rdv σ x = some a) (hs : un1 op a = some s) : Gd P T0 ξ0 w0 σ tm (execOp (ev tm) o) (.d s.1 s.2 .ro) w := by
  have rx := rdv_ok h hx
  obtain ⟨τ, a⟩ := a
  cases τ with
  | int k =>
    have e1 := rx.int
    cases op <;> simp only [un1, Option.some.injEq, reduceCtorEq] at hs
    · subst hs
      exact Gd.pure h (v := .int k (k.wrap (0 - a))) (by simp [execOp, hop, e1, Op.unary, Op.intArith]) (own_leaf rfl ⟨rfl, fun _ => rfl⟩) trivial
    · subst hs
      exact Gd.pure h (v := .int k (k.wrap (BitVec.ofInt k.bits (if k.signed then -1 else k.max) ^^^ BitVec.ofInt k.bits a).toNat)) (by simp [execOp, hop, e1, Op.unary, Op.intBits]) (own_leaf rfl ⟨rfl, fun _ => rfl⟩) trivial
  | bool =>
    have e1 := rx.bool
    cases op <;> simp only [un1, Option.some.injEq, reduceCtorEq] at hs
    subst hs
    exact Gd.pure h (v := .bool !a) (by simp [execOp, hop, e1, Op.unary]) (own_leaf rfl ⟨rfl, fun _ => rfl⟩) trivial
  | _ => cases op <;> simp [un1] at hs
/-! ### Cuts -/
theorem Rel.subrow {e : Ty} {f : Fl} {l : List e.T} {A : Option Addr} {cap : Nat} {T : Bs} (h : Rel ξ w (.row e) f l [.slice A l.length cap] T) (hf : f.ok (.row e) = true) {lo hi : Nat} (h1 : lo ≤ hi) (h2 : hi ≤ l.length) :
    Rel ξ w (.row e) f ((l.take hi).drop lo) [.slice (if cap = lo then A else A.map (·.add (lo * e.n))) (hi - lo) (cap - lo)] T := by
  have hlen : ((l.take hi).drop lo).length = hi - lo := by simp; omega
  have addb : ∀ a : Addr, a.spot = none → a.add (lo * e.n) = ⟨a.block, a.off + lo * e.n, none⟩ := by
    intro a ha
    obtain ⟨b, o, s⟩ := a
    simp only at ha
    subst ha
    unfold Addr.add; split <;> simp_all
  cases f with
  | gone => simp [Fl.ok] at hf
  | pr _ _ => exact h.elim
  | ro =>
    obtain ⟨A', cap', hc, hle, hel⟩ := h
    simp only [List.cons.injEq, Value.slice.injEq, true_and, and_true] at hc
    obtain ⟨rfl, rfl⟩ := hc
    refine ⟨_, cap - lo, by rw [hlen], by omega, fun i hi' => ?_⟩
    rw [hlen] at hi'
    have hil : lo + i < l.length := by omega
    obtain ⟨a, c, r1, r2, r3, r4, r5, r6⟩ := hel (lo + i) hil
    subst r1
    have hne : cap ≠ lo := by omega
    have hx : (lo + i) * e.n = lo * e.n + i * e.n := Nat.add_mul _ _ _
    refine ⟨a.add (lo * e.n), c, by simp [hne], by rw [addb a r2], r3, ?_, ?_, ?_⟩
    · rw [addb a r2]; rw [hx, ← Nat.add_assoc] at r4; exact r4
    · rw [addb a r2]; simp only; omega
    · have : ((l.take hi).drop lo)[i] = l[lo + i] := by simp
      rw [this]; exact r6
  | own g =>
    rcases h with ⟨h0, hc⟩ | ⟨a, cap', c, t, fz, Te, hc, k2, k3, k4, k5, k6, k7, k8, k9, k10, k11⟩
    · subst h0
      simp only [List.cons.injEq, Value.slice.injEq, and_true] at hc
      obtain ⟨rfl, _, rfl⟩ := hc
      left
      simp at h2
      subst h2
      have : lo = 0 := by omega
      subst this
      exact ⟨rfl, rfl⟩
    · simp only [List.cons.injEq, Value.slice.injEq, true_and, and_true] at hc
      obtain ⟨rfl, rfl⟩ := hc
      right
      by_cases he : cap = lo
      · have e1 : (l.take hi).drop lo = [] := List.length_eq_zero_iff.1 (by rw [hlen]; omega)
        refine ⟨a, 0, c, t, fz, fun _ => Em, ?_, k2, k3, k4, k5, by rw [e1]; exact Nat.le_refl _, by omega, k8, fun i => ⟨Sb.em _, fun x => x⟩, fun _ _ _ => Dj.em _, fun i hi' => by rw [e1] at hi'; simp at hi'⟩
        rw [e1, if_pos he]
        simp; omega
      · have hmul : (cap - lo) * e.n + lo * e.n = cap * e.n := by rw [← Nat.add_mul]; congr 1; omega
        refine ⟨a.add (lo * e.n), cap - lo, c, t, fz, fun i => Te (lo + i), ?_, by rw [addb a k2], by rw [addb a k2]; exact k3, by rw [addb a k2]; exact k4, k5, by rw [hlen]; omega, by rw [addb a k2]; simp only; omega, by rw [addb a k2]; simp only; omega,
          fun i => by rw [addb a k2]; exact k9 _, fun i j hij => k10 _ _ (by omega), fun i hi' => ?_⟩
        · rw [hlen, if_neg he]; rfl
        · rw [hlen] at hi'
          have hil : lo + i < l.length := by omega
          obtain ⟨ci, r1, r2, r3⟩ := k11 (lo + i) hil
          have hx : (lo + i) * e.n = lo * e.n + i * e.n := Nat.add_mul _ _ _
          refine ⟨ci, r1, ?_, ?_⟩
          · rw [addb a k2]; rw [hx, ← Nat.add_assoc] at r2; exact r2
          · have : ((l.take hi).drop lo)[i] = l[lo + i] := by simp
            rw [this]; exact r3
theorem run_bounds {s : Bool} {len cap : Nat} {lo hi : Option Value} {a b : Int} (hlo : (lo = none ∧ a = 0) ∨ ∃ k, lo = some (.int k a)) (hhi : (hi = none ∧ b = len) ∨ ∃ k, hi = some (.int k b)) (h0 : 0 ≤ a) (h1 : a ≤ b) (h2 : b ≤ len) (h3 : len ≤ cap) :
    (Instr.sliceBounds s len cap lo hi none).run P w = .ok (a.toNat, b.toNat, cap) w := by
  have eb : (b.toNat : Int) = b := Int.toNat_of_nonneg (by omega)
  rcases hlo with ⟨rfl, rfl⟩ | ⟨k, rfl⟩ <;> rcases hhi with ⟨rfl, rfl⟩ | ⟨k', rfl⟩
  · simp [Instr.sliceBounds]
  · have := run_sliceBound (P := P) w k' b cap (if s then .sliceAcap else .sliceAlen) (by omega) (by omega)
    simp only [Instr.sliceBounds, Sem.run_bind, Sem.run_pure, Result.andThen, Option.isSome_none, this]
    simp
  · have := run_sliceBound (P := P) w k a len .sliceB h0 (by omega)
    simp [Instr.sliceBounds, this]
  · have q1 := run_sliceBound (P := P) w k' b cap (if s then .sliceAcap else .sliceAlen) (by omega) (by omega)
    have q2 := run_sliceBound (P := P) w k a b.toNat .sliceB h0 (by omega)
    simp only [Instr.sliceBounds, Sem.run_bind, Sem.run_pure, Result.andThen, Option.isSome_none, q1]
    simp [q2]
theorem bnd_ok {d n : Int} {o : Option Operand} (h : SA T0 ξ0 w0 tk Tf ξ w σ tm) (hb : bnd σ d o = some n) : (o.map (ev tm) = none ∧ n = d) ∨ ∃ k, o.map (ev tm) = some (.int k n) := by
  cases o with
  | none => simp [bnd] at hb; exact .inl ⟨rfl, hb.symm⟩
  | some o =>
    obtain ⟨k, hk⟩ := asI_ok h hb
    exact .inr ⟨k, by simp [hk]⟩
theorem op_slice_str {t : TypeId} {u : Nat} {lo hi : Option Operand} {o : Oper} {s : ByteArray} {a b : Int} (he : tok P .str t) (h : SA T0 ξ0 w0 tk Em ξ w σ tm) (hop : o.op = .slice t (.tmp u) lo hi none) (hr : rdv σ (.tmp u) = some ⟨.str, s⟩)
    (ha : bnd σ 0 lo = some a) (hb : bnd σ s.size hi = some b) (h0 : 0 ≤ a) (h1 : a ≤ b) (h2 : b ≤ s.size) : Gd P T0 ξ0 w0 σ tm (execOp (ev tm) o) (.d .str (s.extract a.toNat b.toNat) .ro) w := by
  have e1 := (rdv_ok h hr).str
  refine Gd.pure h (v := .string (s.extract a.toNat b.toNat)) ?_ (own_leaf rfl ⟨rfl, fun _ => rfl⟩) trivial
  have hb' := run_bounds (P := P) (w := w) (s := false) (bnd_ok h ha) (bnd_ok h hb) h0 h1 h2 (Nat.le_refl _)
  simp only [execOp, hop, e1, Option.map_none, Sem.run_bind, Instr.sliceAt, run_underlying he.str, Result.andThen, Instr.slice, Option.isSome_none, Bool.false_eq_true, if_false, hb', Sem.run_pure, Sem.run_ite]
theorem op_slice_row {t : TypeId} {u : Nat} {lo hi : Option Operand} {o : Oper} {e : Ty} {l : List e.T} {a b : Int} {hh : Option (Tmp × Nat × Nat)} (he : tok P (.row e) t) (h : SA T0 ξ0 w0 tk Em ξ w σ tm) (hop : o.op = .slice t (.tmp u) lo hi none) (hr : rdv σ (.tmp u) = some ⟨.row e, l⟩)
    (ha : bnd σ 0 lo = some a) (hb : bnd σ l.length hi = some b) (h0 : 0 ≤ a) (h1 : a ≤ b) (h2 : b ≤ l.length)
    (hd : (match (σ.slot u).a with | .d τ _ f => if f.isRo τ then some none else some (some (u, (σ.slot u).g, (σ.slot u).v)) | .vw _ _ h _ g v => some (some (h, g, v)) | _ => none : Option (Option (Tmp × Nat × Nat))) = some hh) :
    Gd P T0 ξ0 w0 σ tm (execOp (ev tm) o) (match hh with | none => .d (.row e) ((l.take b.toNat).drop a.toNat) .ro | some (h, g, v) => .vw (.row e) ((l.take b.toNat).drop a.toNat) h none g v) w := by
  obtain ⟨te, ht, hte⟩ := he.row
  have run : ∀ A cap, l.length ≤ cap → ev tm (.tmp u) = .slice A l.length cap → (execOp (ev tm) o).run P w = .ok (.value (.slice (if cap = a.toNat then A else A.map (·.add (a.toNat * e.n))) (b.toNat - a.toNat) (cap - a.toNat))) w := by
    intro A cap hcap hv
    have hb' := run_bounds (P := P) (w := w) (s := true) (bnd_ok h ha) (bnd_ok h hb) h0 h1 h2 hcap
    simp only [execOp, hop, hv, Option.map_none, Sem.run_bind, Instr.sliceAt, run_underlying ht, Result.andThen, Instr.slice, hb', hte.size, Sem.run_pure]
  have capOf : ∀ {f : Fl} {cs : List Value} {T : Bs}, Rel ξ w (.row e) f l cs T → f.ok (.row e) = true → ∃ A cap, cs = [.slice A l.length cap] ∧ l.length ≤ cap := by
    intro f cs T h hf
    cases f with
    | gone => simp [Fl.ok] at hf
    | pr _ _ => exact h.elim
    | ro => obtain ⟨A, cap, h1, h2, _⟩ := h; exact ⟨A, cap, h1, h2⟩
    | own g =>
      rcases h with ⟨h0, h1⟩ | ⟨a, cap, c, t, fz, Te, h1, _, _, _, _, h2, _⟩
      · subst h0; exact ⟨none, 0, h1, Nat.le_refl _⟩
      · exact ⟨some a, cap, h1, h2⟩
  have i1 : a.toNat ≤ b.toNat := by omega
  have i2 : b.toNat ≤ l.length := by omega
  simp only [rdv] at hr
  split at hr
  · rename_i τ x f hav
    split at hr
    case isFalse => cases hr
    rename_i hok
    simp only [Option.some.injEq, Sigma.mk.injEq] at hr
    obtain ⟨rfl, hx⟩ := hr
    cases hx
    obtain ⟨cs, k1, k2⟩ := h.at_d hav
    have e0 : (σ.slot u).a = .d (.row e) l f := hav
    rw [e0] at hd
    obtain ⟨A, cap, rfl, hcap⟩ := capOf k2 hok
    have hsub := k2.subrow hok i1 i2
    simp only at hd
    split at hd
    · rename_i hro
      obtain rfl := Option.some.inj hd
      exact Gd.pure h (run A cap hcap k1) ⟨_, rfl, hsub.toRo hro⟩ trivial
    · obtain rfl := Option.some.inj hd
      exact Gd.pure h (run A cap hcap k1) trivial ⟨Past.refl _ _, fun _ => ⟨_, f, tk u, rfl, Sb.refl _, hok, hsub, fun q hq => by cases hq⟩⟩
  · rename_i τ x h' p g v hav
    split at hr
    case isFalse => cases hr
    rename_i hv
    simp only [Option.some.injEq, Sigma.mk.injEq] at hr
    obtain ⟨rfl, hx⟩ := hr
    cases hx
    obtain ⟨cs, f, T', k1, k2, k3, k4, k5⟩ := h.at_vw hav hv
    have hl := h.lent u
    rw [hav] at hl
    have e0 : (σ.slot u).a = .vw (.row e) l h' p g v := hav
    rw [e0] at hd
    obtain rfl := Option.some.inj hd
    obtain ⟨A, cap, rfl, hcap⟩ := capOf k4 k3
    exact Gd.pure h (run A cap hcap k1) trivial ⟨hl.1, fun _ => ⟨_, f, T', rfl, k2, k3, k4.subrow k3 i1 i2, fun q hq => by cases hq⟩⟩
  · cases hr
/-! ### A field of a struct's value -/
theorem at_ro {q : Path} (h : q.fields = true) : Fl.at .ro q = .ro := by
  induction q with
  | nil => rfl
  | cons e q ih => cases e <;> first | exact ih (by simpa [Path.fields] using h) | simp [Path.fields] at h
theorem getP_app : {τ : Ty} → {x : τ.T} → {p q : Path} → {τ' : Ty} → {y : τ'.T} → getP τ x p = some ⟨τ', y⟩ → getP τ x (p ++ q) = getP τ' y q
  | τ, x, [], q, τ', y, h => by rw [getP_nil] at h; cases h; rfl
  | .pair a b, x, .fst :: p, q, τ', y, h => getP_app (τ := a) h
  | .pair a b, x, .snd :: p, q, τ', y, h => getP_app (τ := b) h
  | .st a, x, e :: p, q, τ', y, h => getP_app (τ := a) (p := e :: p) h
  | .row e, x, .idx i :: p, q, τ', y, h => getP_app (τ := e) h
  | .pair a b, x, .idx i :: p, q, τ', y, h => by simp [getP] at h
  | .int _, x, e :: p, q, τ', y, h => by simp [getP] at h
  | .bool, x, e :: p, q, τ', y, h => by simp [getP] at h
  | .str, x, e :: p, q, τ', y, h => by simp [getP] at h
  | .row _, x, .fst :: p, q, τ', y, h => by simp [getP] at h
  | .row _, x, .snd :: p, q, τ', y, h => by simp [getP] at h
theorem run_field {s : TypeId} {a0 : Ty} {fs : Array Field} {f : Field} {i : Nat} {τ' : Ty} {q : Path} {cs c1 c2 c3 : List Value} (hs : P.underlying s = some (.struct fs)) (hf : fs[i]? = some f) (ht : tok P τ' f.type) (ho : f.offset = c1.length) (hc : cs = c1 ++ (c2 ++ c3)) (hl : c2.length = τ'.n) :
    (Instr.field s (mkV (.st a0) cs) i).run P w = .ok (mkV τ' c2) w := by
  simp only [Instr.field, mkV, Sem.run_bind, run_underlying hs, Result.andThen, hf, asAgg, Sem.run_pure]
  exact run_part ht (by simpa using hc) hl ho
theorem op_field {s : TypeId} {u i : Nat} {o : Oper} {τ : Ty} {q : Path} {a : AV} (he : tok P τ s) (h : SA T0 ξ0 w0 tk Em ξ w σ tm) (hop : o.op = .field s (.tmp u) i) (hq : fpath τ i = some q) (hne : q.isEmpty = false)
    (hd : (match (σ.slot u).a with
          | .d τ' x f => if τ' ≠ τ then none else if f.isRo τ' then (getP τ' x q).map fun s => .d s.1 s.2 .ro else match getP τ' x q with
            | some s => if (f.at q).isRo s.1 then some (.d s.1 s.2 .ro) else if (f.at q).ok s.1 then some (.vw s.1 s.2 u (some q) (σ.slot u).g (σ.slot u).v) else none
            | none => none
          | .vw τ' x h p g v => if τ' = τ && σ.valid h g v then (getP τ' x q).map fun s => if s.1.flat then .d s.1 s.2 .ro else .vw s.1 s.2 h (p.map (· ++ q)) g v else none
          | _ => none : Option AV) = some a) : Gd P T0 ξ0 w0 σ tm (execOp (ev tm) o) a w := by
  obtain ⟨a0, fs, f, τf, rfl, k1, k2, k3, k4, k5, k6⟩ := fldS he hq
  have hq0 : q ≠ [] := by intro e; subst e; simp at hne
  have run : ∀ (cs c1 c2 c3 : List Value), tm.getD u undef = mkV (.st a0) cs → cs = c1 ++ (c2 ++ c3) → c1.length = offP (.st a0) q → c2.length = τf.n → (execOp (ev tm) o).run P w = .ok (.value (mkV τf c2)) w := by
    intro cs c1 c2 c3 hv hc h1 h2
    have e1 : ev tm (.tmp u) = mkV (.st a0) cs := hv
    simp only [execOp, hop, Sem.run_bind, e1, run_field (q := q) k1 k2 k5 (k3.trans h1.symm) hc h2, Result.andThen, Sem.run_pure]
  cases hav : σ.av u with
  | d τ' x f' =>
    have e0 : (σ.slot u).a = .d τ' x f' := hav
    rw [e0] at hd
    simp only at hd
    split at hd
    · cases hd
    rename_i hty
    simp only [ne_eq, Decidable.not_not] at hty
    subst hty
    obtain ⟨y, hy⟩ := k6 x hq0
    rw [hy] at hd
    obtain ⟨cs, m1, m2⟩ := h.at_d hav
    obtain ⟨c1, c2, c3, e1, e2, e3⟩ := m2.get k4 hy
    split at hd
    · rename_i hro
      simp only [Option.map_some, Option.some.injEq] at hd
      subst hd
      obtain ⟨d1, d2, d3, z1, z2, z3⟩ := (m2.toRo hro).get k4 hy
      rw [e1] at z1
      obtain ⟨rfl, z4⟩ := List.append_inj z1 (by omega)
      obtain ⟨rfl, rfl⟩ := List.append_inj z4 (by rw [e3.len, z3.len])
      rw [at_ro k4] at z3
      exact Gd.pure h (run cs c1 c2 c3 m1 e1 e2 e3.len) ⟨c2, rfl, z3⟩ trivial
    · simp only at hd
      split at hd
      · rename_i hro
        obtain rfl := Option.some.inj hd
        exact Gd.pure h (run cs c1 c2 c3 m1 e1 e2 e3.len) ⟨c2, rfl, e3.toRo hro⟩ trivial
      · split at hd
        · rename_i hok
          obtain rfl := Option.some.inj hd
          refine Gd.pure h (run cs c1 c2 c3 m1 e1 e2 e3.len) trivial ⟨Past.refl _ _, fun _ => ⟨c2, _, tk u, rfl, Sb.refl _, hok, e3, fun p hp => ?_⟩⟩
          obtain rfl := Option.some.inj hp
          rw [hav]
          exact ⟨cs, c1, c3, m1, m2.len, hy, e1, e2, e3.len, k4⟩
        · cases hd
  | vw τ' x h' p g v =>
    have e0 : (σ.slot u).a = .vw τ' x h' p g v := hav
    rw [e0] at hd
    simp only at hd
    split at hd
    case isFalse => cases hd
    rename_i hty
    simp only [Bool.and_eq_true, decide_eq_true_eq] at hty
    obtain ⟨hty, hv⟩ := hty
    subst hty
    obtain ⟨y, hy⟩ := k6 x hq0
    rw [hy] at hd
    obtain ⟨cs, f', T', m1, m2, m3, m4, m5⟩ := h.at_vw hav hv
    have hl := h.lent u
    rw [hav] at hl
    obtain ⟨c1, c2, c3, e1, e2, e3⟩ := m4.get k4 hy
    simp only [Option.map_some, Option.some.injEq] at hd
    split at hd
    · rename_i hfl
      subst hd
      exact Gd.pure h (run cs c1 c2 c3 m1 e1 e2 e3.len) ⟨c2, rfl, e3.flatRo (ok_at k4 hy m3) hfl⟩ trivial
    · subst hd
      refine Gd.pure h (run cs c1 c2 c3 m1 e1 e2 e3.len) trivial ⟨hl.1, fun _ => ⟨c2, _, T', rfl, m2, ok_at k4 hy m3, e3, fun p' hp => ?_⟩⟩
      cases p with
      | none => cases hp
      | some p =>
        obtain rfl := Option.some.inj hp
        have hpart := m5 p rfl
        cases hh : σ.av h' with
        | d τ0 x0 f0 =>
          rw [hh] at hpart
          obtain ⟨cs0, d1, d3, z1, z2, z3, z4, z5, z6, z7⟩ := hpart
          exact ⟨cs0, d1 ++ c1, c3 ++ d3, z1, z2, by rw [getP_app z3]; exact hy, by rw [z4, e1]; simp, by rw [List.length_append, z5, e2, offP_app z3 z7], e3.len, fields_app.2 ⟨z7, k4⟩⟩
        | box τ0 x0 f0 r =>
          rw [hh] at hpart
          obtain ⟨b, c, t, fz, d1, d3, z1, z2, z3, z4, z5, z6, z7⟩ := hpart
          exact ⟨b, c, t, fz, d1 ++ c1, c3 ++ d3, z1, z2, by rw [getP_app z3]; exact hy, by rw [z4, e1]; simp, by rw [List.length_append, z5, e2, offP_app z3 z7], e3.len, fields_app.2 ⟨z7, k4⟩⟩
        | _ => rw [hh] at hpart; exact hpart.elim
  | _ =>
    have e0 := hav
    simp only [St.av] at e0
    rw [e0] at hd
    cases hd
end
end Go.Proofs.Ytabindnaedchgaa.Rf
