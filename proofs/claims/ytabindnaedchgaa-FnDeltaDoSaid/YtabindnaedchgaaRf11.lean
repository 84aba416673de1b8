/- Operations: comparison, conversions, cuts, lengths. Nothing of any program. -/
import Derived.Test.YtabindnaedchgaaRf10
namespace Go.Proofs.Ytabindnaedchgaa.Rf
open Go Go.RowKit
set_option linter.unusedVariables false
set_option linter.unusedSimpArgs false

section
variable {P : Program} {E : TyOf} {T0 : Bs} {ξ0 : Im} {w0 : World} {tk : Nat → Bs} {Tf : Bs} {ξ : Im} {w : World} {σ : St} {tm : Array Value}
theorem run_part {τ : Ty} {t : TypeId} (ht : tok P τ t) {xs : Array Value} {pre cx post : List Value} (hx : xs.toList = pre ++ (cx ++ post)) (hl : cx.length = τ.n) {off : Nat} (ho : off = pre.length) : (part t xs off).run P w = .ok (mkV τ cx) w := by
  subst ho
  have one : τ.n = 1 → xs[pre.length]? = some (cx.headD undef) := by
    intro h1
    rw [h1] at hl
    match cx, hl with
    | [v], _ => rw [← Array.getElem?_toList, hx]; simp
  cases τ with
  | pair a b => simp [tok, tokB] at ht
  | st a =>
    simp only [part, Sem.run_bind, ht.agg, Result.andThen, if_true, ht.size, Sem.run_pure, mkV, Sem.run_ite]
    congr 2
    apply Array.ext'
    rw [Array.toList_extract, hx, List.extract_eq_take_drop, ← hl]
    simp
  | int k => simp only [part, Sem.run_bind, ht.agg, Result.andThen, Bool.false_eq_true, if_false, one rfl, Sem.run_pure, mkV, Sem.run_ite]
  | bool => simp only [part, Sem.run_bind, ht.agg, Result.andThen, Bool.false_eq_true, if_false, one rfl, Sem.run_pure, mkV, Sem.run_ite]
  | str => simp only [part, Sem.run_bind, ht.agg, Result.andThen, Bool.false_eq_true, if_false, one rfl, Sem.run_pure, mkV, Sem.run_ite]
  | row e => simp only [part, Sem.run_bind, ht.agg, Result.andThen, Bool.false_eq_true, if_false, one rfl, Sem.run_pure, mkV, Sem.run_ite]
theorem run_eqV : (τ : Ty) → (m : TypeId ⊕ (List Field × Nat)) → tokB P τ m = true → τ.flat = true → (d : Nat) → τ.dp ≤ d → ∀ {x y : τ.T} {f f' : Fl} {cx cy : List Value} {T T' : Bs}, Rel ξ w τ f x cx T → f.ok τ = true → Rel ξ w τ f' y cy T' → f'.ok τ = true →
    (match m with
     | .inl t => (Op.equalIn d t (mkV τ cx) (mkV τ cy)).run P w = .ok (bin.eqT τ x y) w
     | .inr (fs, o) => ∀ (xs ys : Array Value) (p1 q1 p2 q2 : List Value), xs.toList = p1 ++ (cx ++ q1) → p1.length = o → ys.toList = p2 ++ (cy ++ q2) → p2.length = o → (Op.eqFields d xs ys fs).run P w = .ok (bin.eqT τ x y) w) := by
  intro τ
  -- a single field, out of the value's own
  have single : ∀ τ : Ty, (∀ t, tok P τ t → ∀ d, τ.dp ≤ d → ∀ {x y : τ.T} {f f' : Fl} {cx cy : List Value} {T T' : Bs}, Rel ξ w τ f x cx T → f.ok τ = true → Rel ξ w τ f' y cy T' → f'.ok τ = true → (Op.equalIn d t (mkV τ cx) (mkV τ cy)).run P w = .ok (bin.eqT τ x y) w) →
      ∀ (fs : List Field) (o : Nat), (∃ fd, fs = [fd] ∧ fd.offset = o ∧ fd.name ≠ "_" ∧ tok P τ fd.type) → ∀ d, τ.dp ≤ d → ∀ {x y : τ.T} {f f' : Fl} {cx cy : List Value} {T T' : Bs}, Rel ξ w τ f x cx T → f.ok τ = true → Rel ξ w τ f' y cy T' → f'.ok τ = true →
      ∀ (xs ys : Array Value) (p1 q1 p2 q2 : List Value), xs.toList = p1 ++ (cx ++ q1) → p1.length = o → ys.toList = p2 ++ (cy ++ q2) → p2.length = o → (Op.eqFields d xs ys fs).run P w = .ok (bin.eqT τ x y) w := by
    intro τ hv fs o ⟨fd, hfs, ho, hn, ht⟩ d hd x y f f' cx cy T T' h1 k1 h2 k2 xs ys p1 q1 p2 q2 e1 e2 e3 e4
    subst hfs
    simp only [Op.eqFields, ne_eq, hn, not_false_eq_true, if_true, Sem.run_bind, Sem.run_ite, run_part ht e1 h1.len (ho.trans e2.symm), run_part ht e3 h2.len (ho.trans e4.symm), Result.andThen, hv fd.type ht d hd h1 k1 h2 k2, Sem.run_pure]
    cases bin.eqT τ x y <;> rfl
  have ones : ∀ {τ : Ty} {fs : List Field} {o : Nat}, (∀ a b, τ ≠ .pair a b) → tokB P τ (.inr (fs, o)) = true → ∃ fd, fs = [fd] ∧ fd.offset = o ∧ fd.name ≠ "_" ∧ tok P τ fd.type := by
    intro τ fs o hp h
    match fs, h with
    | [fd], h =>
      refine ⟨fd, rfl, ?_⟩
      cases τ with
      | pair a b => exact (hp a b rfl).elim
      | _ =>
        simp only [tokB, one, Bool.and_eq_true, decide_eq_true_eq] at h
        exact ⟨h.1, h.2.1, by simp only [tok, tokB, one, Bool.and_eq_true]; exact h.2.2⟩
    | [], h =>
      cases τ with
      | pair a b => exact (hp a b rfl).elim
      | _ => simp [tokB, one] at h
    | _ :: _ :: _, h =>
      cases τ with
      | pair a b => exact (hp a b rfl).elim
      | _ => simp [tokB, one] at h
  induction τ with
  | int k =>
    have base : ∀ t, tok P (.int k) t → ∀ d, (Ty.int k).dp ≤ d → ∀ {x y : (Ty.int k).T} {f f' : Fl} {cx cy : List Value} {T T' : Bs}, Rel ξ w (.int k) f x cx T → f.ok (.int k) = true → Rel ξ w (.int k) f' y cy T' → f'.ok (.int k) = true → (Op.equalIn d t (mkV (.int k) cx) (mkV (.int k) cy)).run P w = .ok (bin.eqT (.int k) x y) w := by
      intro t ht d hd x y f f' cx cy T T' h1 k1 h2 k2
      obtain ⟨d, rfl⟩ : ∃ m, d = m + 1 := ⟨d - 1, by simp [Ty.dp] at hd; omega⟩
      rw [h1.2 (by simpa [Fl.ok] using k1), h2.2 (by simpa [Fl.ok] using k2)]
      exact run_equalIn_int w d t k k x y ht.int
    intro m ht hf d hd x y f f' cx cy T T' h1 k1 h2 k2
    match m, ht with
    | .inl t, ht => exact base t ht d hd h1 k1 h2 k2
    | .inr (fs, o), ht => exact single _ (fun t ht d hd => base t ht d hd) fs o (ones (by simp) ht) d hd h1 k1 h2 k2
  | bool =>
    have base : ∀ t, tok P .bool t → ∀ d, Ty.bool.dp ≤ d → ∀ {x y : Ty.bool.T} {f f' : Fl} {cx cy : List Value} {T T' : Bs}, Rel ξ w .bool f x cx T → f.ok .bool = true → Rel ξ w .bool f' y cy T' → f'.ok .bool = true → (Op.equalIn d t (mkV .bool cx) (mkV .bool cy)).run P w = .ok (bin.eqT .bool x y) w := by
      intro t ht d hd x y f f' cx cy T T' h1 k1 h2 k2
      obtain ⟨d, rfl⟩ : ∃ m, d = m + 1 := ⟨d - 1, by simp [Ty.dp] at hd; omega⟩
      rw [h1.2 (by simpa [Fl.ok] using k1), h2.2 (by simpa [Fl.ok] using k2)]
      exact run_equalIn_bool w d t x y ht.bool
    intro m ht hf d hd x y f f' cx cy T T' h1 k1 h2 k2
    match m, ht with
    | .inl t, ht => exact base t ht d hd h1 k1 h2 k2
    | .inr (fs, o), ht => exact single _ (fun t ht d hd => base t ht d hd) fs o (ones (by simp) ht) d hd h1 k1 h2 k2
  | str =>
    have base : ∀ t, tok P .str t → ∀ d, Ty.str.dp ≤ d → ∀ {x y : Ty.str.T} {f f' : Fl} {cx cy : List Value} {T T' : Bs}, Rel ξ w .str f x cx T → f.ok .str = true → Rel ξ w .str f' y cy T' → f'.ok .str = true → (Op.equalIn d t (mkV .str cx) (mkV .str cy)).run P w = .ok (bin.eqT .str x y) w := by
      intro t ht d hd x y f f' cx cy T T' h1 k1 h2 k2
      obtain ⟨d, rfl⟩ : ∃ m, d = m + 1 := ⟨d - 1, by simp [Ty.dp] at hd; omega⟩
      rw [h1.2 (by simpa [Fl.ok] using k1), h2.2 (by simpa [Fl.ok] using k2)]
      exact run_equalIn_string w d t x y ht.str
    intro m ht hf d hd x y f f' cx cy T T' h1 k1 h2 k2
    match m, ht with
    | .inl t, ht => exact base t ht d hd h1 k1 h2 k2
    | .inr (fs, o), ht => exact single _ (fun t ht d hd => base t ht d hd) fs o (ones (by simp) ht) d hd h1 k1 h2 k2
  | row e => intro m ht hf; simp [Ty.flat] at hf
  | pair a b iha ihb =>
    intro m ht hf d hd x y f f' cx cy T T' h1 k1 h2 k2
    match m, ht with
    | .inl t, ht => simp [tokB] at ht
    | .inr ([], o), ht => simp [tokB] at ht
    | .inr (fd :: fs, o), ht =>
      simp only [tokB, Bool.and_eq_true, decide_eq_true_eq] at ht
      obtain ⟨t1, t2, t3, t4⟩ := ht
      simp only [Ty.flat, Fl.ok, Bool.and_eq_true] at hf k1 k2
      simp only [Ty.dp] at hd
      obtain ⟨c1, c2, _, _, rfl, n1, _, _, _, r1, r2⟩ := h1
      obtain ⟨d1, d2, _, _, rfl, n2, _, _, _, s1, s2⟩ := h2
      intro xs ys p1 q1 p2 q2 e1 e2 e3 e4
      have hA := iha (.inl fd.type) t2 hf.1 d (by omega) r1 k1.1 s1 k2.1
      have hB := ihb (.inr (fs, o + a.n)) t3 hf.2 d (by omega) r2 k1.2 s2 k2.2 xs ys (p1 ++ c1) q1 (p2 ++ d1) q2 (by rw [e1]; simp) (by simp [e2, n1]) (by rw [e3]; simp) (by simp [e4, n2])
      simp only at hA hB
      simp only [Op.eqFields, ne_eq, t4, not_false_eq_true, if_true, Sem.run_bind, Sem.run_ite, run_part t2 (pre := p1) (cx := c1) (post := c2 ++ q1) (by rw [e1]; simp) n1 (t1.trans e2.symm), run_part t2 (pre := p2) (cx := d1) (post := d2 ++ q2) (by rw [e3]; simp) n2 (t1.trans e4.symm), Result.andThen, hA, Sem.run_pure]
      simp only [bin.eqT]
      cases bin.eqT a x.1 y.1
      · rfl
      · simpa using hB
  | st a ih =>
    have base : ∀ t, tok P (.st a) t → a.flat = true → ∀ d, (Ty.st a).dp ≤ d → ∀ {x y : (Ty.st a).T} {f f' : Fl} {cx cy : List Value} {T T' : Bs}, Rel ξ w (.st a) f x cx T → f.ok (.st a) = true → Rel ξ w (.st a) f' y cy T' → f'.ok (.st a) = true → (Op.equalIn d t (mkV (.st a) cx) (mkV (.st a) cy)).run P w = .ok (bin.eqT (.st a) x y) w := by
      intro t ht hf d hd x y f f' cx cy T T' h1 k1 h2 k2
      simp only [Ty.dp] at hd
      obtain ⟨d, rfl⟩ : ∃ m, d = m + 1 := ⟨d - 1, by omega⟩
      obtain ⟨fs, u1, u2, u3, u4⟩ := ht.st
      have hfs : P.fieldsOf t = fs := by simp [Program.fieldsOf, u1]
      simp only [mkV]
      rw [run_equalIn_struct w d t _ _ (by rw [hfs]; exact u1) u3, hfs]
      exact ih (.inr (fs.toList, 0)) u2 hf d (by omega) h1 k1 h2 k2 _ _ [] [] [] [] (by simp) rfl (by simp) rfl
    intro m ht hf d hd x y f f' cx cy T T' h1 k1 h2 k2
    match m, ht with
    | .inl t, ht => exact base t ht hf d hd h1 k1 h2 k2
    | .inr (fs, o), ht => exact single _ (fun t ht d hd => base t ht hf d hd) fs o (ones (by simp) ht) d hd h1 k1 h2 k2
theorem op_binOp {op : BinOp} {t yt : TypeId} {x y : Operand} {o : Oper} {a b s : Sv} {g : Bool} (he : EOk P E) (h : SA T0 ξ0 w0 tk Em ξ w σ tm) (hop : o.op = .binOp op t x y yt) (hx : rdv σ x = some a) (hy : rdv σ y = some b) (hb : bin (E.of t) op a b = some (g, s)) (hg : g = true) :
    Gd P T0 ξ0 w0 σ tm (execOp (ev tm) o) (.d s.1 s.2 .ro) w := by
  have fin : ∀ v, (do eqGuard op t x y (ev tm x) (ev tm y); binOp op t (ev tm x) (ev tm y) : Sem Value).run P w = .ok v w → SOwn ξ w (.d s.1 s.2 .ro) v Em → Gd P T0 ξ0 w0 σ tm (execOp (ev tm) o) (.d s.1 s.2 .ro) w := by
    intro v hr ho
    refine Gd.pure h (v := v) ?_ ho trivial
    simp only [execOp, hop]
    rw [Sem.run_bind, hr]
    rfl
  have rx := rdv_ok h hx
  have ry := rdv_ok h hy
  obtain ⟨τa, a⟩ := a
  obtain ⟨τb, b⟩ := b
  subst hg
  cases τa with
  | int k =>
    cases τb with
    | int j =>
      have ex := rx.int
      have ey := ry.int
      rw [ex, ey] at fin
      by_cases hkj : k = j
      · subst hkj
        rcases run_bin_int (P := P) (w := w) op t x y k a b (E.of t) hb rfl with ⟨h1, n, k', rfl⟩ | ⟨h1, n, rfl⟩
        · exact fin _ h1 (own_leaf rfl ⟨rfl, fun _ => rfl⟩)
        · exact fin _ h1 (own_leaf rfl ⟨rfl, fun _ => rfl⟩)
      · cases op <;> simp only [bin, sv, if_neg hkj, Option.some.injEq, Prod.mk.injEq, reduceCtorEq, decide_eq_true_eq] at hb
        · obtain ⟨hd, rfl⟩ := hb
          have hd' : ¬ b < 0 := Int.not_lt.2 hd
          exact fin (.int k (k.wrap (a * 2 ^ (min b.toNat k.bits)))) (by simp [eqGuard, binOp, Op.shift, hd']) (own_leaf rfl ⟨rfl, fun _ => rfl⟩)
        · obtain ⟨hd, rfl⟩ := hb
          have hd' : ¬ b < 0 := Int.not_lt.2 hd
          exact fin (.int k (a.fdiv (2 ^ (min b.toNat k.bits)))) (by simp [eqGuard, binOp, Op.shift, hd']) (own_leaf rfl ⟨rfl, fun _ => rfl⟩)
    | _ => simp [bin] at hb
  | str =>
    cases τb with
    | str =>
      have ex := rx.str
      have ey := ry.str
      rw [ex, ey] at fin
      cases op <;> simp only [bin, sv, Option.some.injEq, Prod.mk.injEq, reduceCtorEq, true_and, decide_eq_true_eq] at hb
      case add =>
        obtain ⟨hd, rfl⟩ := hb
        exact fin (.string (a ++ b)) (by
          have e0 : eqGuard .add t x y (.string a) (.string b) = pure () := by simp [eqGuard]
          have hd' : ¬ (((ByteArray.size a + ByteArray.size b : Nat) : Int) > IntKind.i64.max) := Int.not_lt.2 hd
          rw [e0]
          simp only [Sem.run_bind, Sem.run_pure, Result.andThen, binOp, Op.stringOp, Sem.run_ite, if_neg hd']) (own_leaf rfl ⟨rfl, fun _ => rfl⟩)
      all_goals
        subst hb
        exact fin (.bool _) (by simp only [eqGuard, binOp, Op.stringOp, Sem.run_bind, Sem.run_pure, Result.andThen]; rfl) (own_leaf rfl ⟨rfl, fun _ => rfl⟩)
    | _ => simp [bin] at hb
  | bool =>
    cases τb with
    | bool =>
      have ex := rx.bool
      have ey := ry.bool
      rw [ex, ey] at fin
      simp only [bin] at hb
      split at hb
      case isFalse => cases hb
      rename_i hE
      have hu := (he t .bool hE).bool
      cases op <;> simp only [sv, Option.some.injEq, Prod.mk.injEq, reduceCtorEq, true_and] at hb
      · subst hb
        exact fin _ (by rw [Sem.run_bind, show (eqGuard .eql t x y (.bool a) (.bool b)).run P w = .ok () w by simp [eqGuard]]; exact run_eql_bool w t a b hu) (own_leaf rfl ⟨rfl, fun _ => rfl⟩)
      · subst hb
        exact fin _ (by rw [Sem.run_bind, show (eqGuard .neq t x y (.bool a) (.bool b)).run P w = .ok () w by simp [eqGuard]]; exact run_neq_bool w t a b hu) (own_leaf rfl ⟨rfl, fun _ => rfl⟩)
    | _ => simp [bin] at hb
  | st a' =>
    cases τb with
    | st b' =>
      simp only [bin] at hb
      split at hb
      case isFalse => cases hb
      rename_i hba
      subst hba
      split at hb
      case isFalse => cases hb
      rename_i hE
      have ht := he t _ hE
      obtain ⟨fs, u1, u2, u3, u4⟩ := ht.st
      obtain ⟨cx, f, T', t1, e1, _, k1, r1⟩ := rx
      obtain ⟨cy, f', T'', t2, e2, _, k2, r2⟩ := ry
      have hfl : op = .eql ∨ op = .neq := by cases op <;> simp at hb <;> simp
      have key : (Ty.st b').flat = true ∧ (Ty.st b').dp ≤ 10000 := by
        rcases hfl with rfl | rfl
        · simp only at hb; split at hb
          · rename_i hc; simpa [Ty.flat] using hc
          · cases hb
        · simp only at hb; split at hb
          · rename_i hc; simpa [Ty.flat] using hc
          · cases hb
      have hq := run_eqV (P := P) (ξ := ξ) (w := w) (.st b') (.inl t) ht key.1 10000 key.2 r1 k1 r2 k2
      simp only at hq
      have hcond : (b'.flat && decide ((Ty.st b').dp ≤ 10000)) = true := by simpa [Ty.flat] using key
      rcases hfl with rfl | rfl
      · simp only [hcond, if_true, Option.some.injEq, Prod.mk.injEq, true_and] at hb
        subst hb
        refine fin (.bool (bin.eqT (.st b') a b)) ?_ (own_leaf rfl ⟨rfl, fun _ => rfl⟩)
        rw [e1, e2]
        simp only [mkV] at hq ⊢
        rw [Sem.run_bind, run_eqGuard_agg w .eql t x y _ _ u4]
        simp only [Result.andThen]
        rw [run_eql_struct, hq]
        rfl
      · simp only [hcond, if_true, Option.some.injEq, Prod.mk.injEq, true_and] at hb
        subst hb
        refine fin (.bool !(bin.eqT (.st b') a b)) ?_ (own_leaf rfl ⟨rfl, fun _ => rfl⟩)
        rw [e1, e2]
        simp only [mkV] at hq ⊢
        rw [Sem.run_bind, run_eqGuard_agg w .neq t x y _ _ u4]
        simp only [Result.andThen]
        rw [run_neq_struct, hq]
        rfl
    | _ => simp [bin] at hb
  | _ => cases τb <;> simp [bin] at hb
end
end Go.Proofs.Ytabindnaedchgaa.Rf
