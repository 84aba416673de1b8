/- Operations: moves, new blocks, pointers to parts. Nothing of any program. -/
import Derived.Test.YtabindnaedchgaaRf8
namespace Go.Proofs.Ytabindnaedchgaa.Rf
open Go Go.RowKit
set_option linter.unusedVariables false
set_option linter.unusedSimpArgs false

section
variable {P : Program} {E : TyOf} {T0 : Bs} {ξ0 : Im} {w0 : World} {tk : Nat → Bs} {Tf : Bs} {ξ : Im} {w : World} {σ : St} {tm : Array Value}
theorem un_em' (T : Bs) : Sb T (Un Em T) := Sb.r _ _
theorem em_un (T : Bs) : Sb (Un Em T) T := Sb.un (Sb.em _) (Sb.refl _)
theorem op_move {x : Operand} {o : Oper} (h : SA T0 ξ0 w0 tk Em ξ w σ tm) (hop : o.op = .move x) : Gd P T0 ξ0 w0 σ tm (execOp (ev tm) o) (copy E σ o.type x) w :=
  Gd.pure h (v := ev tm x) (by simp [execOp, hop]) (copy_ok E o.type h x).1 (copy_ok E o.type h x).2
theorem mv_tup {t : TypeId} {u : Nat} {l : List AV} (ha : σ.av u = .tup l) : mv E σ t (.tmp u) = (.tup l, if l.all AV.fixd then σ else σ.put u .no) := by simp only [mv, ha]
theorem mv_else {t : TypeId} {x : Operand} (ha : ∀ u l, x = .tmp u → σ.av u ≠ .tup l) : mv E σ t x = (copy E σ t x, σ) := by
  cases x with
  | tmp u =>
    simp only [mv]
    split
    · rename_i l hl; exact (ha u l rfl hl).elim
    · rfl
  | _ => rfl
theorem op_mv {x : Operand} {o : Oper} (h : SA T0 ξ0 w0 tk Em ξ w σ tm) (hop : o.op = .move x) : Gd P T0 ξ0 w0 (mv E σ o.type x).2 tm (execOp (ev tm) o) (mv E σ o.type x).1 w := by
  have pl := op_move (P := P) (E := E) h hop
  by_cases hx : ∃ u l, x = .tmp u ∧ σ.av u = .tup l
  · obtain ⟨u, l, rfl, ha⟩ := hx
    rw [mv_tup ha]
    simp only
    split
    · rename_i hf
      have e : copy E σ o.type (.tmp u) = .tup l := by
        unfold copy
        simp only [show (σ.slot u).a = .tup l from ha]
        rw [if_pos hf]
      rw [e] at pl
      exact pl
    · have ho := h.own u
      rw [ha] at ho
      have k := h.put (d := u) (a := .no) (tm' := tm) (T' := Em) (Tf' := Un Em (tk u)) rfl (fun _ _ => rfl) trivial trivial (Sb.em _) (Sb.refl _) (Dj.em _) (av_lt (by rw [ha]; simp))
      exact ⟨ev tm (.tmp u), w, ξ, _, tk u, .inl (by simp [execOp, hop]), k.drop (un_em' _), ho, trivial⟩
  · rw [mv_else fun u l e ha => hx ⟨u, l, e, ha⟩]
    exact pl
theorem op_assign {x : Operand} {o : Oper} {a : AV} {σ' : St} (h : SA T0 ξ0 w0 tk Em ξ w σ tm) (hop : o.op = .assign x) (ht : take E σ o.type x = some (a, σ')) : Gd P T0 ξ0 w0 σ' tm (execOp (ev tm) o) a w := by
  obtain ⟨tk', T', k1, k2, k3, k4, _⟩ := take_ok h ht
  exact ⟨ev tm x, w, ξ, tk', T', .inl (by simp [execOp, hop]), k1.drop (un_em' _), k3, k4⟩
theorem SA.new (o : Obj) (h : SA T0 ξ0 w0 tk Tf ξ w σ tm) : SA T0 ξ0 w0 tk (Un Tf (fun i => i = w.heap.size)) ξ (w.alloc o) σ tm :=
  h.step (U := Em) (Fr.alloc _ _ _ _) (Sb.em _) (h.wf.alloc o) (fun b hb => by
    rw [size_alloc]
    rcases hb with hb | hb
    · exact ⟨.inl hb, Nat.lt_succ_of_lt (h.mayf b hb).2⟩
    · subst hb; exact ⟨.inr (Nat.le_refl _), Nat.lt_succ_self _⟩)
theorem new_keep (o : Obj) {T : Bs} (h : SA T0 ξ0 w0 tk Tf ξ w σ tm) (ht : Sb T Tf) : Keep T ξ w ξ (w.alloc o) :=
  (Fr.alloc Em ξ w o).keep h.wf (fun b hb => (h.mayf b (ht b hb)).2) (Dj.em' _)
theorem box_own {τ : Ty} {y : τ.T} {f : Fl} {cs : List Value} {T' : Bs} {t : TypeId} (h : SA T0 ξ0 w0 tk T' ξ w σ tm) (hr : Rel ξ w τ f y cs T') :
    SOwn ξ (w.alloc (.cells cs.toArray t)) (.box τ y f none) (.pointer (some ⟨w.heap.size, 0, none⟩)) (Un T' (fun i => i = w.heap.size)) := by
  refine ⟨w.heap.size, cs.toArray, t, (0, 0), T', rfl, .inr rfl, heap_new _ _, fun _ _ => by simp, h.wf _ (Nat.le_refl _), Sb.l _ _, fun hx => ?_, ?_⟩
  · have := (h.mayf _ hx).2; omega
  · simpa using hr.keep (new_keep _ h (Sb.refl _))
theorem op_box {t : TypeId} {x : Operand} {o : Oper} {τ : Ty} {y : τ.T} {f : Fl} {σ' : St} (h : SA T0 ξ0 w0 tk Em ξ w σ tm) (hop : o.op = .box t x) (ht : takeV E σ t x = some (⟨τ, y⟩, f, σ')) :
    Gd P T0 ξ0 w0 σ' tm (execOp (ev tm) o) (.box τ y f none) w := by
  obtain ⟨tk', T', cs, k1, k2, k3, k4, k5, _⟩ := takeV_ok h ht
  have k1' := k1.drop (un_em' _)
  refine ⟨.pointer (some ⟨w.heap.size, 0, none⟩), w.alloc (.cells cs.toArray t), ξ, tk', _, .inl ?_, k1'.new _, box_own k1' k4, trivial⟩
  simp [execOp, hop, Instr.box, newVar, newRow, k3, mkV_cells k4 k5]
theorem op_alloc {t : TypeId} {o : Oper} {τ : Ty} (he : tok P τ t) (h : SA T0 ξ0 w0 tk Em ξ w σ tm) (hop : o.op = .alloc t) : Gd P T0 ξ0 w0 σ tm (execOp (ev tm) o) (.box τ τ.z τ.full none) w := by
  obtain ⟨z, k1, k2, k3⟩ := he.zero w
  have hr : Rel ξ w τ τ.full τ.z z.cells.toList Em := Rel.zero k2
  refine ⟨.pointer (some ⟨w.heap.size, 0, none⟩), w.alloc (.cells z.cells t), ξ, tk, _, .inl ?_, h.new _, ?_, trivial⟩
  · simp [execOp, hop, Instr.alloc, newVar, newRow, Sem.run_bind, k1, Result.andThen]
  · have := box_own (t := t) h hr
    rwa [Array.toArray_toList] at this
theorem op_store {t : TypeId} {u : Nat} {x : Operand} {o : Oper} {s : Sv} {f : Fl} {σ1 σ2 : St} (he : EOk P E) (h : SA T0 ξ0 w0 tk Em ξ w σ tm) (hop : o.op = .store t (.tmp u) x) (ht : takeV E σ t x = some (s, f, σ1)) (hE : E.of t = some s.1) (hp : poke σ1 u s f = some σ2) :
    Gd P T0 ξ0 w0 σ2 tm (execOp (ev tm) o) .un w := by
  obtain ⟨τ, y⟩ := s
  obtain ⟨tk', T', cs, k1, k2, k3, k4, k5, _⟩ := takeV_ok h ht
  obtain ⟨b, off, w', ξ', tk2, m1, m2, m3⟩ := poke_ok (he t τ hE) (k1.drop (un_em' _)) k4 k5 hp
  refine ⟨undef, w', ξ', tk2, Em, .inr ⟨?_, rfl⟩, m3, rfl, trivial⟩
  have e1 : ev tm (.tmp u) = .pointer (some ⟨b, off, none⟩) := m1
  simp only [execOp, hop, Sem.run_bind, e1, k3, run_storeAt, m2, Result.andThen, Sem.run_pure]
theorem nilCheck_run {o : Oper} {u : Nat} {b off : Nat} (hop : o.op = .nilCheck (.tmp u)) (hv : ev tm (.tmp u) = .pointer (some ⟨b, off, none⟩)) : (execOp (ev tm) o).run P w = .ok (.value (ev tm (.tmp u))) w := by
  simp only [execOp, hop, hv]
  rfl
theorem op_nilCheck {u : Nat} {o : Oper} (h : SA T0 ξ0 w0 tk Em ξ w σ tm) (hop : o.op = .nilCheck (.tmp u)) (hv : ∃ b off, ev tm (.tmp u) = .pointer (some ⟨b, off, none⟩)) : Gd P T0 ξ0 w0 σ tm (execOp (ev tm) o) (copy E σ 0 (.tmp u)) w := by
  obtain ⟨b, off, hv⟩ := hv
  exact Gd.pure h (nilCheck_run hop hv) (copy_ok E 0 h (.tmp u)).1 (copy_ok E 0 h (.tmp u)).2
theorem op_extract {u i : Nat} {o : Oper} {l : List AV} {a : AV} (h : SA T0 ξ0 w0 tk Em ξ w σ tm) (hop : o.op = .extract (.tmp u) i) (ha : σ.av u = .tup l) (hi : l[i]? = some a) (hnt : l.all AV.plain = true) :
    Gd P T0 ξ0 w0 (σ.turn u (.tup (l.set i .no))) tm (execOp (ev tm) o) a w := by
  have ho := h.own u
  rw [ha] at ho
  obtain ⟨vs, Te, k1, k0, k2, k3, k4⟩ := ho
  have hil : i < l.length := (List.getElem?_eq_some_iff.1 hi).1
  have hiv : i < vs.size := by rw [k0]; exact hil
  have hk := h.turn (d := u) (a := .tup (l.set i .no)) (U := Em) (T' := fun b => ∃ j, j ≠ i ∧ Te j b) (Tf' := Te i) (Fr.refl _ _ _) (Sb.em _) h.wf (by rw [ha]; trivial)
    ⟨vs, fun j => if j = i then Em else Te j, k1, by simpa using k0, fun j b hb => by
      by_cases e : j = i
      · simp [e] at hb; exact hb.elim
      · simp [e] at hb; exact ⟨j, e, hb⟩, fun j m hjm => by
      by_cases e : j = i
      · simp [e]; exact Dj.em _
      · by_cases e' : m = i
        · simp [e']; exact Dj.em' _
        · simp [e, e']; exact k3 j m hjm, fun j b hb => by
      by_cases e : j = i
      · subst e; simp [hil] at hb; subst hb; trivial
      · rw [List.getElem?_set_ne (fun x => e x.symm)] at hb
        simp only [e, if_false]
        exact k4 j b hb⟩ (fun _ => trivial)
    (fun b ⟨j, _, hb⟩ => ⟨.inl (.inr (k2 j b hb)), (h.may u b (k2 j b hb)).2⟩) (fun b hb => ⟨.inl (.inr (k2 i b hb)), (h.may u b (k2 i b hb)).2⟩) (fun b ⟨j, hj, hb⟩ hb' => k3 j i hj b hb hb') (av_lt (by rw [ha]; simp))
  have hown := k4 i a hi
  refine ⟨vs.getD i undef, w, ξ, _, Te i, .inl ?_, hk, ?_, ?_⟩
  · have e1 : ev tm (.tmp u) = .tuple vs := k1
    simp [execOp, hop, Instr.extract, e1, hiv, Array.getD]
  · have := List.all_eq_true.1 hnt a (List.mem_of_getElem? hi)
    cases a <;> first | exact hown | (simp [AV.plain] at this; done)
  · have := List.all_eq_true.1 hnt a (List.mem_of_getElem? hi)
    cases a <;> first | trivial | (simp [AV.plain] at this; done)

theorem op_extract_fix {u i : Nat} {o : Oper} {l : List AV} {a : AV} (h : SA T0 ξ0 w0 tk Em ξ w σ tm) (hop : o.op = .extract (.tmp u) i) (ha : σ.av u = .tup l) (hi : l[i]? = some a) (hf : a.fixd = true) :
    Gd P T0 ξ0 w0 σ tm (execOp (ev tm) o) a w := by
  have ho := h.own u
  rw [ha] at ho
  obtain ⟨vs, Te, k1, k0, k2, k3, k4⟩ := ho
  have hil : i < l.length := (List.getElem?_eq_some_iff.1 hi).1
  have hiv : i < vs.size := by rw [k0]; exact hil
  refine Gd.pure h (v := vs.getD i undef) ?_ ?_ ?_
  · have e1 : ev tm (.tmp u) = .tuple vs := k1
    simp [execOp, hop, Instr.extract, e1, hiv, Array.getD]
  · have := (k4 i a hi).fixd hf
    cases a <;> first | exact this | (simp [AV.fixd] at hf; done)
  · cases a <;> first | trivial | (simp [AV.fixd] at hf; done)

/-! ### Pointers to parts -/
theorem fld {P : Program} : (a : Ty) → (fs : List Field) → (o i : Nat) → {q : Path} → tokB P a (.inr (fs, o)) = true → fpath.go a i = some q →
    q.fields = true ∧ ∃ f, fs[i]? = some f ∧ f.offset = o + offP a q ∧ ∃ τ', tok P τ' f.type ∧ ∀ x : a.T, ∃ y : τ'.T, getP a x q = some ⟨τ', y⟩
  | .pair a b, fs, o, 0, q, h, hq => by
    simp only [fpath.go, Option.some.injEq] at hq
    subst hq
    match fs, h with
    | f :: fs, h =>
      simp only [tokB, Bool.and_eq_true, decide_eq_true_eq] at h
      exact ⟨rfl, f, rfl, by simp [offP, offP_nil, h.1], a, h.2.1, fun x => ⟨x.1, by simp [getP, getP_nil]⟩⟩
    | [], h => simp [tokB] at h
  | .pair a b, fs, o, i + 1, q, h, hq => by
    simp only [fpath.go] at hq
    split at hq
    case h_2 => cases hq
    rename_i p hp
    obtain rfl := Option.some.inj hq
    match fs, h with
    | f :: fs, h =>
      simp only [tokB, Bool.and_eq_true, decide_eq_true_eq] at h
      obtain ⟨k1, f', k2, k3, τ', k4, k5⟩ := fld b fs (o + a.n) i h.2.2.1 hp
      exact ⟨k1, f', k2, by rw [k3]; simp [offP]; omega, τ', k4, fun x => k5 x.2⟩
    | [], h => simp [tokB] at h
  | .int k, fs, o, i, q, h, hq => by
    cases i <;> simp [fpath.go] at hq
    subst hq
    match fs, h with
    | [f], h =>
      simp only [tokB, one, Bool.and_eq_true, decide_eq_true_eq] at h
      exact ⟨rfl, f, rfl, by simp [offP, h.1], .int k, by simp only [tok, tokB, one, Bool.and_eq_true]; exact h.2.2, fun x => ⟨x, rfl⟩⟩
    | [], h => simp [tokB, one] at h
    | _ :: _ :: _, h => simp [tokB, one] at h
  | .bool, fs, o, i, q, h, hq => by
    cases i <;> simp [fpath.go] at hq
    subst hq
    match fs, h with
    | [f], h =>
      simp only [tokB, one, Bool.and_eq_true, decide_eq_true_eq] at h
      exact ⟨rfl, f, rfl, by simp [offP, h.1], .bool, by simp only [tok, tokB, one, Bool.and_eq_true]; exact h.2.2, fun x => ⟨x, rfl⟩⟩
    | [], h => simp [tokB, one] at h
    | _ :: _ :: _, h => simp [tokB, one] at h
  | .str, fs, o, i, q, h, hq => by
    cases i <;> simp [fpath.go] at hq
    subst hq
    match fs, h with
    | [f], h =>
      simp only [tokB, one, Bool.and_eq_true, decide_eq_true_eq] at h
      exact ⟨rfl, f, rfl, by simp [offP, h.1], .str, by simp only [tok, tokB, one, Bool.and_eq_true]; exact h.2.2, fun x => ⟨x, rfl⟩⟩
    | [], h => simp [tokB, one] at h
    | _ :: _ :: _, h => simp [tokB, one] at h
  | .row e, fs, o, i, q, h, hq => by
    cases i <;> simp [fpath.go] at hq
    subst hq
    match fs, h with
    | [f], h =>
      simp only [tokB, one, Bool.and_eq_true, decide_eq_true_eq] at h
      exact ⟨rfl, f, rfl, by simp [offP, h.1], .row e, by simp only [tok, tokB, one, Bool.and_eq_true]; exact h.2.2, fun x => ⟨x, rfl⟩⟩
    | [], h => simp [tokB, one] at h
    | _ :: _ :: _, h => simp [tokB, one] at h
  | .st a, fs, o, i, q, h, hq => by
    cases i <;> simp [fpath.go] at hq
    subst hq
    match fs, h with
    | [f], h =>
      simp only [tokB, one, Bool.and_eq_true, decide_eq_true_eq] at h
      exact ⟨rfl, f, rfl, by rw [offP_nil]; omega, .st a, by simp only [tok, tokB, one, Bool.and_eq_true]; exact h.2.2, fun x => ⟨x, by cases a <;> rfl⟩⟩
    | [], h => simp [tokB, one] at h
    | _ :: _ :: _, h => simp [tokB, one] at h
theorem getP_st {a : Ty} {x : a.T} {q : Path} {τ' : Ty} {y : τ'.T} (hq : q ≠ []) (h : getP a x q = some ⟨τ', y⟩) : getP (.st a) x q = some ⟨τ', y⟩ := by
  cases q with
  | nil => exact (hq rfl).elim
  | cons e q => exact h
/-- a field of a struct: at a path that is not empty, unless the struct has one field -/
theorem fldS {t : TypeId} {τ : Ty} {i : Nat} {q : Path} (ht : tok P τ t) (hq : fpath τ i = some q) :
    ∃ a fs f τ', τ = .st a ∧ P.underlying t = some (.struct fs) ∧ fs[i]? = some f ∧ f.offset = offP τ q ∧ q.fields = true ∧ tok P τ' f.type ∧ ∀ x : τ.T, (q ≠ [] → ∃ y : τ'.T, getP τ x q = some ⟨τ', y⟩) := by
  cases τ with
  | st a =>
    obtain ⟨fs, h1, h2, _⟩ := ht.st
    obtain ⟨k1, f, k2, k3, τ', k4, k5⟩ := fld a fs.toList 0 i h2 hq
    exact ⟨a, fs, f, τ', rfl, h1, by simpa using k2, by rw [k3]; simp [offP], k1, k4, fun x hn => (k5 x).imp fun y hy => getP_st hn hy⟩
  | _ => simp [fpath] at hq
theorem run_fieldAt {s : TypeId} {fs : Array Field} {f : Field} {i b o : Nat} {τ' : Ty} (hs : P.underlying s = some (.struct fs)) (hf : fs[i]? = some f) (ht : tok P τ' f.type) :
    (Instr.fieldAt s (.pointer (some ⟨b, o, none⟩)) i).run P w = .ok (.pointer (some ⟨b, o + f.offset, none⟩)) w := by
  have hn : ¬ τ'.n = 0 := Nat.ne_of_gt τ'.n_pos
  have hadd : (⟨b, o, none⟩ : Addr).add f.offset = ⟨b, o + f.offset, none⟩ := by unfold Addr.add; split <;> simp_all
  simp only [Instr.fieldAt, Sem.run_bind, run_underlying hs, Result.andThen, hf, Instr.sureAddr, Sem.run_pure, fieldPlace, ht.size, if_neg hn, hadd]
theorem offP_app : {τ : Ty} → {x : τ.T} → {p q : Path} → {τ' : Ty} → {y : τ'.T} → getP τ x p = some ⟨τ', y⟩ → p.fields = true → offP τ (p ++ q) = offP τ p + offP τ' q
  | τ, x, [], q, τ', y, h, hp => by
    rw [getP_nil] at h
    cases h
    simp [offP_nil]
  | .pair a b, x, .fst :: p, q, τ', y, h, hp => offP_app (τ := a) h hp
  | .pair a b, x, .snd :: p, q, τ', y, h, hp => by
    have := offP_app (τ := b) (q := q) h hp
    simp only [List.cons_append, offP, this]
    omega
  | _, x, .idx i :: p, q, τ', y, h, hp => by simp [Path.fields] at hp
  | .st a, x, e :: p, q, τ', y, h, hp => offP_app (τ := a) (p := e :: p) h hp
  | .int _, x, .fst :: p, q, τ', y, h, hp => by simp [getP] at h
  | .int _, x, .snd :: p, q, τ', y, h, hp => by simp [getP] at h
  | .bool, x, .fst :: p, q, τ', y, h, hp => by simp [getP] at h
  | .bool, x, .snd :: p, q, τ', y, h, hp => by simp [getP] at h
  | .str, x, .fst :: p, q, τ', y, h, hp => by simp [getP] at h
  | .str, x, .snd :: p, q, τ', y, h, hp => by simp [getP] at h
  | .row _, x, .fst :: p, q, τ', y, h, hp => by simp [getP] at h
  | .row _, x, .snd :: p, q, τ', y, h, hp => by simp [getP] at h
theorem fields_app {p q : Path} : (p ++ q).fields = true ↔ p.fields = true ∧ q.fields = true := by
  induction p with
  | nil => simp [Path.fields]
  | cons e p ih => cases e <;> simp [Path.fields] <;> first | exact ih | simp
theorem ownP_app {f : Fl} {p q : Path} (h : ownP f p = true) (hq : q.fields = true) : ownP f (p ++ q) = true := by
  induction p generalizing f with
  | nil =>
    have : ∀ (q : Path) (f : Fl), q.fields = true → ownP f q = true := by
      intro q
      induction q with
      | nil => intro f _; cases f <;> rfl
      | cons e q ih =>
        intro f hq
        cases e with
        | fst => cases f <;> exact ih _ hq
        | snd => cases f <;> exact ih _ hq
        | idx i => simp [Path.fields] at hq
    exact this q f hq
  | cons e p ih =>
    cases e with
    | fst => cases f <;> exact ih h
    | snd => cases f <;> exact ih h
    | idx i => cases f <;> first | exact ih h | (simp [ownP] at h)
theorem Loc_app {w : World} : {τ : Ty} → {x : τ.T} → {cs : List Value} → {p q : Path} → {τ' : Ty} → {y : τ'.T} → {b o : Nat} → Loc w τ cs p b o → getP τ x p = some ⟨τ', y⟩ → q.fields = true → Loc w τ cs (p ++ q) b (o + offP τ' q)
  | .int _, x, cs, p, q, τ', y, b, o, h, hg, hq => h.elim
  | .bool, x, cs, p, q, τ', y, b, o, h, hg, hq => h.elim
  | .str, x, cs, p, q, τ', y, b, o, h, hg, hq => h.elim
  | .row e, x, cs, [], q, τ', y, b, o, h, hg, hq => h.elim
  | .row e, x, cs, .fst :: p, q, τ', y, b, o, h, hg, hq => h.elim
  | .row e, x, cs, .snd :: p, q, τ', y, b, o, h, hg, hq => h.elim
  | .row e, x, cs, .idx i :: p, q, τ', y, b, o, h, hg, hq => by
    obtain ⟨a, len, cap, h1, h2, h3, h4⟩ := h
    refine ⟨a, len, cap, h1, h2, h3, ?_⟩
    rcases h4 with ⟨h4, h5, h6⟩ | ⟨h4, c', h5, h6, h7⟩
    · left
      refine ⟨fields_app.2 ⟨h4, hq⟩, h5, ?_⟩
      have hx := offP_app (τ := e) (q := q) hg h4
      rw [h6]
      change a.off + i * e.n + offP e p + offP τ' q = a.off + i * e.n + offP e (p ++ q)
      rw [hx]
      omega
    · right
      refine ⟨?_, c', h5, h6, Loc_app (τ := e) h7 hg hq⟩
      cases hpq : Path.fields (p ++ q) with
      | false => rfl
      | true => rw [(fields_app.1 hpq).1] at h4; cases h4
  | .pair a b, x, cs, [], q, τ', y, bl, o, h, hg, hq => h.elim
  | .pair a b, x, cs, .fst :: p, q, τ', y, bl, o, h, hg, hq => Loc_app (τ := a) (p := p) h hg hq
  | .pair a b, x, cs, .snd :: p, q, τ', y, bl, o, h, hg, hq => Loc_app (τ := b) (p := p) h hg hq
  | .pair a b, x, cs, .idx i :: p, q, τ', y, bl, o, h, hg, hq => h.elim
  | .st a, x, cs, [], q, τ', y, b, o, h, hg, hq => (h.1 rfl).elim
  | .st a, x, cs, e :: p, q, τ', y, b, o, h, hg, hq => ⟨by simp, Loc_app (τ := a) (p := e :: p) h.2 hg hq⟩
theorem ok_at : {τ : Ty} → {f : Fl} → {x : τ.T} → {q : Path} → {τ' : Ty} → {y : τ'.T} → q.fields = true → getP τ x q = some ⟨τ', y⟩ → f.ok τ = true → (f.at q).ok τ' = true
  | τ, f, x, [], τ', y, hp, h, hk => by
    rw [getP_nil] at h
    cases h
    cases f <;> exact hk
  | .pair a b, f, x, .fst :: q, τ', y, hp, h, hk => by
    simp only [Fl.ok, Bool.and_eq_true] at hk
    exact ok_at (τ := a) (q := q) hp h hk.1
  | .pair a b, f, x, .snd :: q, τ', y, hp, h, hk => by
    simp only [Fl.ok, Bool.and_eq_true] at hk
    exact ok_at (τ := b) (q := q) hp h hk.2
  | .st a, f, x, e :: q, τ', y, hp, h, hk => ok_at (τ := a) (q := e :: q) hp h hk
  | _, f, x, .idx i :: q, τ', y, hp, h, hk => by simp [Path.fields] at hp
  | .int _, f, x, .fst :: q, τ', y, hp, h, hk => by simp [getP] at h
  | .int _, f, x, .snd :: q, τ', y, hp, h, hk => by simp [getP] at h
  | .bool, f, x, .fst :: q, τ', y, hp, h, hk => by simp [getP] at h
  | .bool, f, x, .snd :: q, τ', y, hp, h, hk => by simp [getP] at h
  | .str, f, x, .fst :: q, τ', y, hp, h, hk => by simp [getP] at h
  | .str, f, x, .snd :: q, τ', y, hp, h, hk => by simp [getP] at h
  | .row _, f, x, .fst :: q, τ', y, hp, h, hk => by simp [getP] at h
  | .row _, f, x, .snd :: q, τ', y, hp, h, hk => by simp [getP] at h
theorem op_fieldAddr {s : TypeId} {u i : Nat} {o : Oper} {a : AV} (he : EOk P E) (h : SA T0 ξ0 w0 tk Em ξ w σ tm) (hop : o.op = .fieldAddr s (.tmp u) i) (hd : addP E σ s u i = some a) : Gd P T0 ξ0 w0 σ tm (execOp (ev tm) o) a w := by
  simp only [addP] at hd
  split at hd
  case h_1 => cases hd
  rename_i τ hE
  split at hd
  case h_1 => cases hd
  rename_i q hq
  obtain ⟨a0, fs, f, τ', rfl, k1, k2, k3, k4, k5, k6⟩ := fldS (he s τ hE) hq
  have run : ∀ b off, tm.getD u undef = .pointer (some ⟨b, off, none⟩) → (execOp (ev tm) o).run P w = .ok (.value (.pointer (some ⟨b, off + offP (.st a0) q, none⟩))) w := by
    intro b off hp
    have e1 : ev tm (.tmp u) = .pointer (some ⟨b, off, none⟩) := hp
    simp only [execOp, hop, Sem.run_bind, e1, run_fieldAt k1 k2 k5, Result.andThen, Sem.run_pure, k3]
  split at hd
  · rename_i τ1 x f1 r ha
    split at hd
    case isFalse => cases hd
    rename_i e; subst e
    obtain rfl := Option.some.inj hd
    have ha' : σ.av u = .box (.st a0) x f1 r := ha
    obtain ⟨b, c, t, fz, T', m1, m2, m3, _⟩ := h.at_box ha'
    refine Gd.pure h (run b 0 m1) trivial ⟨Past.refl _ _, fun _ => ⟨b, _, rfl, ?_⟩⟩
    rw [ha']
    exact ⟨b, c, t, fz, m1, fun _ => ⟨rfl, by omega⟩, fun hn => by simp [k4] at hn⟩
  · rename_i h0 p g v ha
    split at hd
    case isFalse => cases hd
    rename_i hv
    split at hd
    case h_2 => cases hd
    rename_i sv hsv
    split at hd
    case isFalse => cases hd
    rename_i hty
    obtain rfl := Option.some.inj hd
    have ha' : σ.av u = .ref h0 p g v := ha
    obtain ⟨b, off, m1, m2⟩ := h.at_ref ha' hv
    have hl := h.lent u
    rw [ha'] at hl
    refine Gd.pure h (run b off m1) trivial ⟨hl.1, fun _ => ⟨b, _, rfl, ?_⟩⟩
    obtain ⟨τs, y⟩ := sv
    simp only at hty
    subst hty
    cases hh : σ.av h0 with
    | box τ0 x0 f0 r =>
      rw [hh] at m2 hsv
      obtain ⟨b0, c, t, fz, n1, n2, n3⟩ := m2
      refine ⟨b0, c, t, fz, n1, fun hf => ?_, fun hf => ?_⟩
      · obtain ⟨hp, _⟩ := fields_app.1 hf
        obtain ⟨rfl, rfl⟩ := n2 hp
        exact ⟨rfl, (offP_app hsv hp).symm⟩
      · have hp : p.fields = false := by
          cases hp : p.fields with
          | false => rfl
          | true => rw [fields_app.2 ⟨hp, k4⟩] at hf; cases hf
        obtain ⟨n4, n5, n6⟩ := n3 hp
        exact ⟨n4, ownP_app n5 k4, Loc_app n6 hsv k4⟩
    | d τ0 x0 f0 =>
      rw [hh] at m2 hsv
      obtain ⟨cs0, n1, n2, n3, n4, n5⟩ := m2
      refine ⟨cs0, n1, n2, ?_, ownP_app n4 k4, Loc_app n5 hsv k4⟩
      cases hpq : Path.fields (p ++ q) with
      | false => rfl
      | true => rw [(fields_app.1 hpq).1] at n3; cases n3
    | _ => rw [hh] at m2; exact m2.elim
  · rename_i τ1 x ha
    split at hd
    case isFalse => cases hd
    rename_i e; subst e
    have ha' : σ.av u = .rp (.st a0) x none := ha
    have ho := h.own u
    rw [ha'] at ho
    obtain ⟨b, off, cs, m1, m2, m3, m4, m5⟩ := ho
    simp only [subP] at hd
    split at hd
    case h_2 => cases hd
    rename_i τ2 y hg
    obtain rfl := Option.some.inj hd
    obtain ⟨c1, c2, c3, e1, e2, e3⟩ := m5.get k4 hg
    have hat : Fl.at .ro q = .ro := by
      clear hg hq k3 k6 e1 e2 e3 run
      induction q with
      | nil => rfl
      | cons e q ih => cases e <;> first | exact ih (by simpa [Path.fields] using k4) | simp [Path.fields] at k4
    rw [hat] at e3
    have hlen : c1.length + (c2.length + c3.length) = (Ty.st a0).n := by rw [← m2, e1]; simp
    have := e3.len
    refine Gd.pure h (run b off m1) ⟨b, _, c2, rfl, e3.len, ?_, by omega, e3⟩ trivial
    rw [e1] at m3
    rw [← e2]
    exact m3.part
  · rename_i τ1 x h0 g v ha
    split at hd
    case isFalse => cases hd
    rename_i e
    simp only [Bool.and_eq_true, decide_eq_true_eq] at e
    obtain ⟨e, hv⟩ := e
    subst e
    have ha' : σ.av u = .rp (.st a0) x (some (h0, g, v)) := ha
    have hl := h.lent u
    rw [ha'] at hl
    obtain ⟨b, off, cs, f', T', m1, m2, m3, m4, m5, m6, m7⟩ := hl.2 hv
    simp only [subP] at hd
    split at hd
    case h_2 => cases hd
    rename_i τ2 y hg
    obtain rfl := Option.some.inj hd
    obtain ⟨c1, c2, c3, e1, e2, e3⟩ := m7.get k4 hg
    have hlen : c1.length + (c2.length + c3.length) = (Ty.st a0).n := by rw [← m2, e1]; simp
    have := e3.len
    refine Gd.pure h (run b off m1) trivial ⟨hl.1, fun _ => ⟨b, _, c2, _, T', rfl, e3.len, ?_, m4.imp id (fun z => by omega), m5, ok_at k4 hg m6, e3⟩⟩
    rw [e1] at m3
    rw [← e2]
    exact m3.part
  · cases hd
end
end Go.Proofs.Ytabindnaedchgaa.Rf
