/- Operations: elements, arithmetic, comparison, cuts. Nothing of any program. -/
import Derived.Test.YtabindnaedchgaaRf9
namespace Go.Proofs.Ytabindnaedchgaa.Rf
open Go Go.RowKit
set_option linter.unusedVariables false
set_option linter.unusedSimpArgs false

section
variable {P : Program} {E : TyOf} {T0 : Bs} {ξ0 : Im} {w0 : World} {tk : Nat → Bs} {Tf : Bs} {ξ : Im} {w : World} {σ : St} {tm : Array Value}
theorem Reads.int {v : Value} {k : IntKind} {x : Int} (h : Reads ξ w tk v ⟨.int k, x⟩) : v = .int k x := by
  obtain ⟨cs, f, T', t, h1, _, h2, h3⟩ := h
  rw [h1, h3.2 (by simpa [Fl.ok] using h2)]; rfl
theorem Reads.bool {v : Value} {x : Bool} (h : Reads ξ w tk v ⟨.bool, x⟩) : v = .bool x := by
  obtain ⟨cs, f, T', t, h1, _, h2, h3⟩ := h
  rw [h1, h3.2 (by simpa [Fl.ok] using h2)]; rfl
theorem Reads.str {v : Value} {x : ByteArray} (h : Reads ξ w tk v ⟨.str, x⟩) : v = .string x := by
  obtain ⟨cs, f, T', t, h1, _, h2, h3⟩ := h
  rw [h1, h3.2 (by simpa [Fl.ok] using h2)]; rfl
theorem asI_ok (h : SA T0 ξ0 w0 tk Tf ξ w σ tm) {i : Operand} {n : Int} (hi : asI (rdv σ i) = some n) : ∃ k, ev tm i = .int k n := by
  cases hr : rdv σ i with
  | none => rw [hr] at hi; cases hi
  | some s =>
    rw [hr] at hi
    obtain ⟨τ, x⟩ := s
    cases τ <;> simp only [asI, Option.some.injEq, reduceCtorEq] at hi
    subst hi
    exact ⟨_, (rdv_ok h hr).int⟩
theorem own_leaf {τ : Ty} {x : τ.T} {v : Value} (h1 : v = mkV τ [v]) (h2 : Rel ξ w τ .ro x [v] Em) : SOwn ξ w (.d τ x .ro) v Em := ⟨[v], h1, h2⟩
theorem ok_ro : (e : Ty) → Fl.ok e .ro = true
  | .int _ | .bool | .str | .row _ => rfl
  | .pair a b => by simp only [Fl.ok, Fl.l, Fl.r, ok_ro a, ok_ro b, Bool.and_self]
  | .st a => ok_ro a
/-- a row that is read, and one of its elements -/
theorem Rel.elem {e : Ty} {f : Fl} {l : List e.T} {cs : List Value} {T : Bs} (h : Rel ξ w (.row e) f l cs T) (hf : f.ok (.row e) = true) {i : Nat} (hi : i < l.length) :
    ∃ a cap c', ∃ g : Fl, cs = [.slice (some a) l.length cap] ∧ a.spot = none ∧ c'.length = e.n ∧ CAt w a.block (a.off + i * e.n) c' ∧ (T a.block ∨ a.off + i * e.n + e.n ≤ ξ a.block) ∧ g.ok e = true ∧ Rel ξ w e g l[i] c' T ∧
      (f = .ro → a.off + i * e.n + e.n ≤ ξ a.block ∧ Rel ξ w e .ro l[i] c' Em) ∧ (∀ g', f = .own g' → Loc w (.row e) cs [.idx i] a.block (a.off + i * e.n)) := by
  cases f with
  | gone => simp [Fl.ok] at hf
  | pr _ _ => exact h.elim
  | ro =>
    obtain ⟨A, cap, rfl, h2, h3⟩ := h
    obtain ⟨a, c', rfl, h5, h6, h7, h8, h9⟩ := h3 i hi
    exact ⟨a, cap, c', .ro, rfl, h5, h6, h7, .inr h8, ok_ro e, h9.sub (Sb.em _), fun _ => ⟨h8, h9⟩, fun g' hg => by cases hg⟩
  | own g =>
    rcases h with ⟨h, _⟩ | ⟨a, cap, c, t, fz, Te, rfl, h2, h3, h4, h5, h6, h7, h8, h9, h10, h11⟩
    · subst h; simp at hi
    · obtain ⟨c', k1, k2, k3⟩ := h11 i hi
      exact ⟨a, cap, c', g, rfl, h2, k1, k2, .inl h3, by simpa [Fl.ok] using hf, k3.sub (h9 i).1, (fun x => by cases x), fun g' _ => ⟨a, l.length, cap, rfl, h2, hi, .inl ⟨rfl, rfl, by rw [offP_nil]; omega⟩⟩⟩
theorem offP_le : {τ : Ty} → {x : τ.T} → {p : Path} → {τ' : Ty} → {y : τ'.T} → getP τ x p = some ⟨τ', y⟩ → p.fields = true → offP τ p + τ'.n ≤ τ.n
  | τ, x, [], τ', y, h, hp => by
    rw [getP_nil] at h
    cases h
    simp [offP_nil]
  | .pair a b, x, .fst :: p, τ', y, h, hp => by
    have := offP_le (τ := a) h hp
    simp only [offP, Ty.n]; omega
  | .pair a b, x, .snd :: p, τ', y, h, hp => by
    have := offP_le (τ := b) h hp
    simp only [offP, Ty.n]; omega
  | _, x, .idx i :: p, τ', y, h, hp => by simp [Path.fields] at hp
  | .st a, x, e :: p, τ', y, h, hp => offP_le (τ := a) (p := e :: p) h hp
  | .int _, x, .fst :: p, τ', y, h, hp => by simp [getP] at h
  | .int _, x, .snd :: p, τ', y, h, hp => by simp [getP] at h
  | .bool, x, .fst :: p, τ', y, h, hp => by simp [getP] at h
  | .bool, x, .snd :: p, τ', y, h, hp => by simp [getP] at h
  | .str, x, .fst :: p, τ', y, h, hp => by simp [getP] at h
  | .str, x, .snd :: p, τ', y, h, hp => by simp [getP] at h
  | .row _, x, .fst :: p, τ', y, h, hp => by simp [getP] at h
  | .row _, x, .snd :: p, τ', y, h, hp => by simp [getP] at h
theorem Loc_fields : {τ : Ty} → {x : τ.T} → {cs c1 c2 c3 : List Value} → {p q : Path} → {τ' : Ty} → {y : τ'.T} → {b o : Nat} → getP τ x p = some ⟨τ', y⟩ → p.fields = true → cs = c1 ++ (c2 ++ c3) → c1.length = offP τ p → c2.length = τ'.n → cs.length = τ.n → q ≠ [] →
    Loc w τ' c2 q b o → Loc w τ cs (p ++ q) b o
  | τ, x, cs, c1, c2, c3, [], q, τ', y, b, o, hg, hp, hc, h1, h2, h3, hq, h => by
    rw [getP_nil] at hg
    cases hg
    rw [offP_nil] at h1
    have e1 : c1 = [] := List.length_eq_zero_iff.1 h1
    have e3 : c3 = [] := by
      have : c1.length + (c2.length + c3.length) = τ.n := by rw [← h3, hc]; simp
      exact List.length_eq_zero_iff.1 (by omega)
    rw [hc, e1, e3]
    simpa using h
  | .pair a b', x, cs, c1, c2, c3, .fst :: p, q, τ', y, b, o, hg, hp, hc, h1, h2, h3, hq, h => by
    have hle := offP_le (τ := a) hg hp
    have h1' : c1.length = offP a p := h1
    have hl : c1.length + (c2.length + c3.length) = a.n + b'.n := by have := h3; rw [hc] at this; simp only [List.length_append] at this; exact this
    refine Loc_fields (τ := a) (c1 := c1) (c2 := c2) (c3 := c3.take (a.n - (c1.length + c2.length))) hg hp ?_ h1' h2 (by rw [List.length_take, h3]; simp only [Ty.n]; omega) hq h
    rw [hc, ← List.append_assoc, List.take_append, List.length_append, List.take_of_length_le (by rw [List.length_append]; omega)]
    simp
  | .pair a b', x, cs, c1, c2, c3, .snd :: p, q, τ', y, b, o, hg, hp, hc, h1, h2, h3, hq, h => by
    have h1' : c1.length = a.n + offP b' p := h1
    refine Loc_fields (τ := b') (c1 := c1.drop a.n) (c2 := c2) (c3 := c3) hg hp ?_ (by rw [List.length_drop]; omega) h2 (by rw [List.length_drop, h3]; simp only [Ty.n]; omega) hq h
    rw [hc, List.drop_append_of_le_length (by omega)]
  | .st a, x, cs, c1, c2, c3, e :: p, q, τ', y, b, o, hg, hp, hc, h1, h2, h3, hq, h =>
    ⟨by simp, Loc_fields (τ := a) (p := e :: p) hg hp hc h1 h2 h3 hq h⟩
  | _, x, cs, c1, c2, c3, .idx i :: p, q, τ', y, b, o, hg, hp, hc, h1, h2, h3, hq, h => by simp [Path.fields] at hp
  | .int _, x, cs, c1, c2, c3, .fst :: p, q, τ', y, b, o, hg, hp, hc, h1, h2, h3, hq, h => by simp [getP] at hg
  | .int _, x, cs, c1, c2, c3, .snd :: p, q, τ', y, b, o, hg, hp, hc, h1, h2, h3, hq, h => by simp [getP] at hg
  | .bool, x, cs, c1, c2, c3, .fst :: p, q, τ', y, b, o, hg, hp, hc, h1, h2, h3, hq, h => by simp [getP] at hg
  | .bool, x, cs, c1, c2, c3, .snd :: p, q, τ', y, b, o, hg, hp, hc, h1, h2, h3, hq, h => by simp [getP] at hg
  | .str, x, cs, c1, c2, c3, .fst :: p, q, τ', y, b, o, hg, hp, hc, h1, h2, h3, hq, h => by simp [getP] at hg
  | .str, x, cs, c1, c2, c3, .snd :: p, q, τ', y, b, o, hg, hp, hc, h1, h2, h3, hq, h => by simp [getP] at hg
  | .row _, x, cs, c1, c2, c3, .fst :: p, q, τ', y, b, o, hg, hp, hc, h1, h2, h3, hq, h => by simp [getP] at hg
  | .row _, x, cs, c1, c2, c3, .snd :: p, q, τ', y, b, o, hg, hp, hc, h1, h2, h3, hq, h => by simp [getP] at hg
theorem run_indexAt {t te : TypeId} {e : Ty} {a : Addr} {len cap : Nat} {k : IntKind} {n : Int} (h1 : P.underlying t = some (.slice te)) (h2 : tok P e te) (ha : a.spot = none) (h0 : 0 ≤ n) (hn : n < len) :
    (Instr.indexAt t (.slice (some a) len cap) (.int k n)).run P w = .ok (.pointer (some ⟨a.block, a.off + n.toNat * e.n, none⟩)) w := by
  have hadd : a.add (n.toNat * e.n) = ⟨a.block, a.off + n.toNat * e.n, none⟩ := by
    obtain ⟨b, o, s⟩ := a
    simp only at ha
    subst ha
    unfold Addr.add; split <;> simp_all
  simp only [Instr.indexAt, asIntOf, Sem.run_bind, Sem.run_pure, Result.andThen, run_underlying h1, h2.size, hadd, if_pos (And.intro h0 hn), Sem.run_ite]
theorem op_indexAddr {t : TypeId} {u : Nat} {i : Operand} {o : Oper} {e : Ty} {n : Int} {l : List e.T} {a : AV} (he : tok P (.row e) t) (h : SA T0 ξ0 w0 tk Em ξ w σ tm) (hop : o.op = .indexAddr t (.tmp u) i) (hi : asI (rdv σ i) = some n)
    (hd : elemP σ u e n.toNat = some (l, a)) (h0 : 0 ≤ n) (hn : n < l.length) : Gd P T0 ξ0 w0 σ tm (execOp (ev tm) o) a w := by
  obtain ⟨te, ht, hte⟩ := he.row
  obtain ⟨k, hk⟩ := asI_ok h hi
  have hlt : n.toNat < l.length := by omega
  have run : ∀ (ad : Addr) cap, ad.spot = none → tm.getD u undef = .slice (some ad) l.length cap → (execOp (ev tm) o).run P w = .ok (.value (.pointer (some ⟨ad.block, ad.off + n.toNat * e.n, none⟩))) w := by
    intro ad cap hs hv
    have e1 : ev tm (.tmp u) = .slice (some ad) l.length cap := hv
    simp only [execOp, hop, Sem.run_bind, e1, hk, run_indexAt ht hte hs h0 hn, Result.andThen, Sem.run_pure]
  simp only [elemP] at hd
  split at hd
  · rename_i τ l' f ha
    have ha' : σ.av u = .d τ l' f := ha
    obtain ⟨cs, m1, m2⟩ := h.at_d ha'
    split at hd
    case h_2 => cases hd
    rename_i l1 hc
    cases cast?_eq hc
    split at hd
    · rename_i hro
      simp only [Option.some.injEq, Prod.mk.injEq] at hd
      obtain ⟨rfl, rfl⟩ := hd
      have hf : f = .ro := by simpa [Fl.isRo] using hro
      subst hf
      obtain ⟨ad, cap, c', g, rfl, r2, r3, r4, r5, r6, r7, r8, r9⟩ := m2.elem rfl hlt
      obtain ⟨r10, r11⟩ := r8 rfl
      refine Gd.pure h (run ad cap r2 m1) ?_ trivial
      rw [getD_of hlt]
      exact ⟨_, _, c', rfl, r3, r4, r10, r11⟩
    · rename_i hnro
      split at hd
      case isFalse => cases hd
      rename_i hown
      simp only [Option.some.injEq, Prod.mk.injEq] at hd
      obtain ⟨rfl, rfl⟩ := hd
      have hg : ∃ g, f = .own g := by cases f <;> simp [ownP] at hown; exact ⟨_, rfl⟩
      obtain ⟨g, rfl⟩ := hg
      rcases m2 with ⟨m3, _⟩ | ⟨ad, cap, c, t', fz, Te, rfl, q2, q3, q4, q5, q6, q7, q8, q9, q10, q11⟩
      · subst m3; simp at hlt
      · refine Gd.pure h (run ad cap q2 m1) trivial ⟨Past.refl _ _, fun _ => ⟨_, _, rfl, ?_⟩⟩
        rw [ha']
        exact ⟨_, m1, rfl, rfl, hown, ad, _, cap, rfl, q2, hlt, .inl ⟨rfl, rfl, by rw [offP_nil]; omega⟩⟩
  · rename_i τ l' hh p g v ha
    have ha' : σ.av u = .vw τ l' hh p g v := ha
    split at hd
    case isFalse => cases hd
    rename_i hv
    split at hd
    case h_2 => cases hd
    rename_i l1 hc
    cases cast?_eq hc
    obtain ⟨cs, f, T', m1, m2, m3, m4, m5⟩ := h.at_vw ha' hv
    have hpast : Past σ hh g v := by have := h.lent u; rw [ha'] at this; exact this.1
    split at hd
    · simp only [Option.some.injEq, Prod.mk.injEq] at hd
      obtain ⟨rfl, rfl⟩ := hd
      obtain ⟨ad, cap, c', g', rfl, r2, r3, r4, r5, r6, r7, r8, r9⟩ := m4.elem m3 hlt
      refine Gd.pure h (run ad cap r2 m1) trivial ⟨hpast, fun _ => ⟨_, _, c', g', T', rfl, r3, r4, r5.imp (m2 _) id, m2, r6, ?_⟩⟩
      rw [getD_of hlt]
      exact r7
    · rename_i p
      have hpart := m5 p rfl
      have key : n.toNat < l1.length → ∃ ad cap, cs = [.slice (some ad) l1.length cap] ∧ ad.spot = none := by
        intro hlt
        obtain ⟨ad, cap, c', g', r1, r2, _⟩ := m4.elem m3 hlt
        exact ⟨ad, cap, r1, r2⟩
      have hnf : Path.fields (p ++ [.idx n.toNat]) = false := by
        cases hx : Path.fields (p ++ [PE.idx n.toNat]) with
        | false => rfl
        | true => have := (fields_app.1 hx).2; simp [Path.fields] at this
      split at hd
      · rename_i τ0 x0 f0 h0'
        split at hd
        case isFalse => cases hd
        rename_i hown
        simp only [Option.some.injEq, Prod.mk.injEq] at hd
        obtain ⟨rfl, rfl⟩ := hd
        obtain ⟨ad, cap, hcs, hsp⟩ := key hlt
        subst hcs
        have hpast' := hpast
        rw [h0'] at hpart
        obtain ⟨cs0, c1, c3, q1, q2, q3, q4, q5, q6, q7⟩ := hpart
        refine Gd.pure h (run ad cap hsp m1) trivial ⟨hpast, fun _ => ⟨_, _, rfl, ?_⟩⟩
        rw [h0']
        exact ⟨cs0, q1, q2, hnf, hown, Loc_fields q3 q7 q4 q5 q6 q2 (by simp) ⟨ad, _, cap, rfl, hsp, hlt, .inl ⟨rfl, rfl, by rw [offP_nil]; omega⟩⟩⟩
      · rename_i τ0 x0 f0 sr h0'
        split at hd
        case isFalse => cases hd
        rename_i hown
        simp only [Option.some.injEq, Prod.mk.injEq] at hd
        obtain ⟨rfl, rfl⟩ := hd
        obtain ⟨ad, cap, hcs, hsp⟩ := key hlt
        subst hcs
        have hob := h.at_box h0'
        rw [h0'] at hpart
        obtain ⟨b, c, t', fz, c1, c3, q1, q2, q3, q4, q5, q6, q7⟩ := hpart
        obtain ⟨b', c', t'', fz', T2, n1, n2, n3, n4, n5, n6, n7, n8⟩ := hob
        obtain ⟨rfl, _⟩ := ptr_inj (q1.symm.trans n1)
        obtain ⟨rfl, rfl, rfl⟩ := cells_inj q2 n3
        refine Gd.pure h (run ad cap hsp m1) trivial ⟨hpast, fun _ => ⟨_, _, rfl, ?_⟩⟩
        rw [h0']
        exact ⟨b, c, t', fz, q1, (fun hx => by rw [hnf] at hx; cases hx), fun _ => ⟨q2, hown, Loc_fields q3 q7 q4 q5 q6 n8.len (by simp) ⟨ad, _, cap, rfl, hsp, hlt, .inl ⟨rfl, rfl, by rw [offP_nil]; omega⟩⟩⟩⟩
      · cases hd
  · cases hd
theorem op_index {t : TypeId} {x i : Operand} {o : Oper} {s : ByteArray} {n : Int} (he : tok P .str t) (h : SA T0 ξ0 w0 tk Em ξ w σ tm) (hop : o.op = .index t x i) (hx : rdv σ x = some ⟨.str, s⟩) (hi : asI (rdv σ i) = some n) (h0 : 0 ≤ n) (hn : n < s.size) :
    Gd P T0 ξ0 w0 σ tm (execOp (ev tm) o) (.d (.int .u8) (byteAt s n) .ro) w := by
  obtain ⟨k, hk⟩ := asI_ok h hi
  have hs := (rdv_ok h hx).str
  have hlt : n.toNat < s.size := by omega
  refine Gd.pure h (v := .int .u8 (byteAt s n)) ?_ (own_leaf rfl ⟨rfl, fun _ => rfl⟩) trivial
  simp only [execOp, hop, Sem.run_bind, hk, hs, Instr.index, asIntOf, Sem.run_pure, Result.andThen, run_underlying he.str, if_pos h0]
  rw [getElem?_pos s n.toNat hlt]
  simp [byteAt, hlt]
theorem run_bin_int (op : BinOp) (t : TypeId) (x y : Operand) (k : IntKind) (a b : Int) {s : Sv} {g : Bool} (tt : Option Ty) (hb : bin tt op ⟨.int k, a⟩ ⟨.int k, b⟩ = some (g, s)) (hg : g = true) :
    (do eqGuard op t x y (.int k a) (.int k b); binOp op t (.int k a) (.int k b) : Sem Value).run P w = .ok (mkV s.1 [match s with | ⟨.int k, n⟩ => .int k n | ⟨.bool, b⟩ => .bool b | _ => undef]) w ∧ (∃ n k, s = ⟨.int k, n⟩) ∨
    (do eqGuard op t x y (.int k a) (.int k b); binOp op t (.int k a) (.int k b) : Sem Value).run P w = .ok (mkV s.1 [match s with | ⟨.int k, n⟩ => .int k n | ⟨.bool, b⟩ => .bool b | _ => undef]) w ∧ (∃ b, s = ⟨.bool, b⟩) := by
  subst hg
  cases op <;> simp only [bin, sv, if_true, Option.some.injEq, Prod.mk.injEq, reduceCtorEq, true_and, decide_eq_true_eq] at hb
  all_goals first
    | (obtain ⟨hd, rfl⟩ := hb; left; refine ⟨?_, _, _, rfl⟩; simp [eqGuard, binOp, Op.shift, Op.intArith, Op.intDiv, Op.intBits, mkV, hd, Int.not_lt.2]; done)
    | (obtain ⟨hd, rfl⟩ := hb; left; refine ⟨?_, _, _, rfl⟩; have hd' : ¬ b < 0 := by omega
       simp [eqGuard, binOp, Op.shift, mkV, hd']; done)
    | (subst hb; left; refine ⟨?_, _, _, rfl⟩; simp [eqGuard, binOp, Op.intArith, Op.intBits, mkV]; done)
    | (subst hb; right; refine ⟨?_, _, rfl⟩; simp [eqGuard, binOp, Op.intCmp, mkV]; done)
end
end Go.Proofs.Ytabindnaedchgaa.Rf
