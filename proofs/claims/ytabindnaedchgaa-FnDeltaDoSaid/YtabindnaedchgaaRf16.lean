/- Operations: structs and rows out of parts; every operation. Nothing of any program. -/
import Derived.Test.YtabindnaedchgaaRf15
namespace Go.Proofs.Ytabindnaedchgaa.Rf
open Go Go.RowKit
set_option linter.unusedVariables false
set_option linter.unusedSimpArgs false

section
variable {P : Program} {E : TyOf} {T0 : Bs} {ξ0 : Im} {w0 : World} {tk : Nat → Bs} {Tf : Bs} {ξ : Im} {w : World} {σ : St} {tm : Array Value}
theorem fold_cells (off : Nat) : ∀ (vs : List Value) (k : Nat) (cells : Array Value) (c1 c2 c3 : List Value), cells.toList = c1 ++ (c2 ++ c3) → c1.length = off + k → c2.length = vs.length →
    ((vs.zipIdx k).foldl (fun cs (x : Value × Nat) => cs.setIfInBounds (off + x.2) x.1) cells).toList = c1 ++ (vs ++ c3)
  | [], k, cells, c1, c2, c3, h, h1, h2 => by
    have : c2 = [] := List.length_eq_zero_iff.1 h2
    subst this
    simpa using h
  | v :: vs, k, cells, c1, c2, c3, h, h1, h2 => by
    match c2, h2 with
    | x :: c2, h2 =>
      simp only [List.zipIdx_cons, List.foldl_cons]
      rw [fold_cells off vs (k + 1) (cells.setIfInBounds (off + k) v) (c1 ++ [v]) c2 c3 ?_ (by simp; omega) (by simpa using h2)]
      · simp
      · rw [Array.toList_setIfInBounds, h, ← h1]
        simp
theorem fill_step {place : Nat → Option (Nat × Nat)} {i off size : Nat} {v : Value} {rest : List (Nat × Value)} {cells : Array Value} {c1 c2 c3 vs : List Value} (hp : place i = some (off, size)) (hv : v.cells = vs.toArray) (hs : vs.length = size) (hc : cells.toList = c1 ++ (c2 ++ c3)) (h1 : c1.length = off) (h2 : c2.length = size) :
    ∃ cells', cells'.toList = c1 ++ (vs ++ c3) ∧ Instr.fill place cells ((i, v) :: rest) = Instr.fill place cells' rest := by
  refine ⟨_, fold_cells off vs 0 cells c1 c2 c3 hc (by simpa using h1) (by rw [h2, hs]), ?_⟩
  have hsz : ¬ (off + vs.length > cells.size) := by
    have : cells.size = c1.length + (c2.length + c3.length) := by rw [← Array.length_toList, hc]; simp
    omega
  simp only [Instr.fill, hp, hv, List.size_toArray, hs, ne_eq, not_true_eq_false, decide_false, Bool.false_or, decide_eq_true_eq]
  rw [hs] at hsz
  rw [if_neg hsz, ← Array.foldl_toList, Array.toList_zipIdx]
theorem places_of : (a : Ty) → (fs : List Field) → (o : Nat) → tokB P a (.inr (fs, o)) = true → ∃ places : List (Nat × Nat), fs.mapM (fun f => (P.info? f.type).map fun i => (f.offset, i.size)) = some places ∧
    ∀ i q, fpath.go a i = some q → ∃ τf : Ty, places[i]? = some (o + offP a q, τf.n) ∧ ∀ x : a.T, ∃ y : τf.T, getP a x q = some ⟨τf, y⟩ := by
  intro a
  have single : ∀ τ : Ty, (∀ a b, τ ≠ .pair a b) → ∀ fs o, tokB P τ (.inr (fs, o)) = true → ∃ places : List (Nat × Nat), fs.mapM (fun f => (P.info? f.type).map fun i => (f.offset, i.size)) = some places ∧
      ∀ i q, fpath.go τ i = some q → ∃ τf : Ty, places[i]? = some (o + offP τ q, τf.n) ∧ ∀ x : τ.T, ∃ y : τf.T, getP τ x q = some ⟨τf, y⟩ := by
    intro τ hp fs o h
    have hh : ∃ fd, fs = [fd] ∧ fd.offset = o ∧ tok P τ fd.type := by
      match fs, h with
      | [fd], h =>
        refine ⟨fd, rfl, ?_⟩
        cases τ with
        | pair a b => exact (hp a b rfl).elim
        | _ =>
          simp only [tokB, one, Bool.and_eq_true, decide_eq_true_eq] at h
          exact ⟨h.1, by simp only [tok, tokB, one, Bool.and_eq_true]; exact h.2.2⟩
      | [], h =>
        cases τ with
        | pair a b => exact (hp a b rfl).elim
        | _ => simp [tokB, one] at h
      | _ :: _ :: _, h =>
        cases τ with
        | pair a b => exact (hp a b rfl).elim
        | _ => simp [tokB, one] at h
    obtain ⟨fd, rfl, h1, h2⟩ := hh
    obtain ⟨i, z, k1, k2, _⟩ := h2.info
    refine ⟨[(fd.offset, i.size)], by simp [k1], fun j q hq => ?_⟩
    have : j = 0 ∧ q = [] := by
      cases τ with
      | pair a b => exact (hp a b rfl).elim
      | _ => cases j <;> simp [fpath.go] at hq <;> exact ⟨rfl, hq⟩
    obtain ⟨rfl, rfl⟩ := this
    exact ⟨τ, by simp [h1, k2, offP_nil], fun x => ⟨x, getP_nil τ x⟩⟩
  induction a with
  | pair a b iha ihb =>
    intro fs o h
    match fs, h with
    | [], h => simp [tokB] at h
    | fd :: fs, h =>
      simp only [tokB, Bool.and_eq_true, decide_eq_true_eq] at h
      obtain ⟨t1, t2, t3, _⟩ := h
      obtain ⟨i, z, k1, k2, _⟩ := tok.info (show tok P a fd.type from t2)
      obtain ⟨places, p1, p2⟩ := ihb fs (o + a.n) t3
      refine ⟨(fd.offset, i.size) :: places, by simp [List.mapM_cons, k1, p1], fun j q hq => ?_⟩
      cases j with
      | zero =>
        simp only [fpath.go, Option.some.injEq] at hq
        subst hq
        exact ⟨a, by simp [t1, k2, offP, offP_nil], fun x => ⟨x.1, by simp [getP, getP_nil]⟩⟩
      | succ j =>
        simp only [fpath.go] at hq
        split at hq
        case h_2 => cases hq
        rename_i p hp
        obtain rfl := Option.some.inj hq
        obtain ⟨τf, q1, q2⟩ := p2 j p hp
        exact ⟨τf, by simp [q1, offP]; omega, fun x => q2 x.2⟩
  | int k => exact single _ (by simp)
  | bool => exact single _ (by simp)
  | str => exact single _ (by simp)
  | row e _ => exact single _ (by simp)
  | st a _ => exact single _ (by simp)
theorem takeN_ok {τ0 : Ty} {o : Operand} {τ : Ty} {x : τ.T} {f : Fl} {σ' : St} (h : SA T0 ξ0 w0 tk Tf ξ w σ tm) (ht : takeN E σ τ0 o = some (⟨τ, x⟩, f, σ')) :
    ∃ tk' : Nat → Bs, ∃ T' : Bs, ∃ cs, SA T0 ξ0 w0 tk' (Un Tf T') ξ w σ' tm ∧ Dj T' Tf ∧ ev tm o = mkV τ cs ∧ Rel ξ w τ f x cs T' ∧ f.ok τ = true := by
  have full_ok : ∀ e : Ty, Fl.ok e e.full = true := by
    intro e
    induction e with
    | int k => rfl
    | bool => rfl
    | str => rfl
    | row e ih => exact ih
    | pair a b iha ihb =>
      unfold Ty.full
      split
      · exact ok_ro _
      · simp only [Fl.ok, Fl.l, Fl.r, iha, ihb, Bool.and_self]
    | st a ih => exact ih
  unfold takeN at ht
  split at ht
  · split at ht
    · simp only [Option.some.injEq, Prod.mk.injEq] at ht
      obtain ⟨h1, rfl, rfl⟩ := ht
      cases h1
      exact ⟨tk, Em, [.slice none 0 0], h.same (un_em _), Dj.em _, rfl, .inl ⟨rfl, rfl⟩, full_ok _⟩
    · cases ht
  · obtain ⟨tk', T', cs, k1, k2, k3, k4, k5, _⟩ := takeV_ok h ht
    exact ⟨tk', T', cs, k1, k2, k3, k4, k5⟩
theorem parts_ok {τ : Ty} {place : Nat → Option (Nat × Nat)} (hpl : ∀ i q, fpath τ i = some q → q ≠ [] → q.fields = true ∧ ∃ τf : Ty, place i = some (offP τ q, τf.n) ∧ ∀ x : τ.T, ∃ y : τf.T, getP τ x q = some ⟨τf, y⟩) :
    ∀ (ps : List (Nat × Operand)) (x : τ.T) (f : Fl) (σ : St) (tk : Nat → Bs) (T : Bs) (cells : Array Value) {x' : τ.T} {f' : Fl} {σ' : St}, SA T0 ξ0 w0 tk T ξ w σ tm → Rel ξ w τ f x cells.toList T → parts E τ ps x f σ = some (x', f', σ') →
      ∃ tk' : Nat → Bs, ∃ T' : Bs, ∃ cells', SA T0 ξ0 w0 tk' T' ξ w σ' tm ∧ Rel ξ w τ f' x' cells'.toList T' ∧ Instr.fill place cells (ps.map fun p => (p.1, ev tm p.2)) = some cells'
  | [], x, f, σ, tk, T, cells, x', f', σ', h, hr, hd => by
    simp only [parts, Option.some.injEq, Prod.mk.injEq] at hd
    obtain ⟨rfl, rfl, rfl⟩ := hd
    exact ⟨tk, T, cells, h, hr, rfl⟩
  | (i, o) :: ps, x, f, σ, tk, T, cells, x', f', σ', h, hr, hd => by
    simp only [parts] at hd
    split at hd
    case h_1 => cases hd
    rename_i q hq
    split at hd
    · cases hd
    rename_i hne
    have hq0 : q ≠ [] := by intro e; subst e; simp at hne
    split at hd
    case h_1 => cases hd
    rename_i s0 hg
    split at hd
    case h_1 => cases hd
    rename_i s1 f1 σ1 ht
    obtain ⟨τ1, y1⟩ := s1
    split at hd
    case h_1 => cases hd
    rename_i y hset
    obtain ⟨tk1, T1, cs, k1, k2, k3, k4, k5⟩ := takeN_ok h ht
    obtain ⟨hqf, τf, p1, p2⟩ := hpl i q hq hq0
    obtain ⟨c1, c2, c3, e1, e2, e3, e4⟩ := hr.set hqf hset k4 (Dj.symm k2)
    have hty : τf = τ1 := by
      obtain ⟨z0, hz0⟩ := set_get hset
      obtain ⟨z1, hz1⟩ := p2 x
      rw [hz0] at hz1
      cases hz1
      rfl
    subst hty
    obtain ⟨cells1, z1, z2⟩ := fill_step (rest := ps.map fun p => (p.1, ev tm p.2)) (v := ev tm o) p1 (by rw [k3]; exact mkV_cells k4 k5) k4.len e1 e2 e3
    obtain ⟨tk', T', cells', r1, r2, r3⟩ := parts_ok hpl ps y (f.put q f1) σ1 tk1 (Un T T1) cells1 k1 (by rw [z1]; exact e4) hd
    exact ⟨tk', T', cells', r1, r2, by rw [List.map_cons, z2]; exact r3⟩
theorem op_build {t : TypeId} {ps : Array (Nat × Operand)} {o : Oper} {τ : Ty} {x : τ.T} {f : Fl} {σ' : St} (he : tok P τ t) (h : SA T0 ξ0 w0 tk Em ξ w σ tm) (hop : o.op = .build t ps) (hd : parts E τ ps.toList τ.z τ.full σ = some (x, f, σ')) (hst : ∃ a, τ = .st a) :
    Gd P T0 ξ0 w0 σ' tm (execOp (ev tm) o) (.d τ x f) w := by
  obtain ⟨a, rfl⟩ := hst
  obtain ⟨it, z, i1, i2, _, i4, i5, i6⟩ := he.info
  obtain ⟨fs, u1, u2, _⟩ := he.st
  obtain ⟨places, p1, p2⟩ := places_of a fs.toList 0 u2
  have hpl : ∀ i q, fpath (.st a) i = some q → q ≠ [] → q.fields = true ∧ ∃ τf : Ty, (places.toArray[·]?) i = some (offP (.st a) q, τf.n) ∧ ∀ x : (Ty.st a).T, ∃ y : τf.T, getP (.st a) x q = some ⟨τf, y⟩ := by
    intro i q hq hne
    obtain ⟨τf, q1, q2⟩ := p2 i q hq
    exact ⟨(fld a fs.toList 0 i u2 hq).1, τf, by simpa [offP] using q1, fun x => (q2 x).imp fun y hy => getP_st hne hy⟩
  obtain ⟨tk', T', cells', r1, r2, r3⟩ := parts_ok hpl ps.toList _ _ σ tk Em z.cells h (Rel.zero i5) hd
  have hb : P.built t (ps.map fun (i, x) => (i, ev tm x)).toList = some cells' := by
    have e1 : (ps.map fun (i, x) => (i, ev tm x)).toList = ps.toList.map fun p => (p.1, ev tm p.2) := by simp
    rw [e1]
    unfold Program.built
    simp only [i1, u1, i4, p1]
    exact r3
  refine ⟨.agg cells', w, ξ, tk', T', .inl ?_, r1, ⟨cells'.toList, by simp [mkV], r2⟩, trivial⟩
  simp only [execOp, hop, Sem.run_bind, run_build w t _ cells' hb, Result.andThen, Sem.run_pure]
theorem seg_set {cm vs : List Value} {c1 c2 c3 : List Value} {n i j k : Nat} (hc : cm = c1 ++ (c2 ++ c3)) (h1 : c1.length = i * n) (h2 : c2.length = n) (h3 : vs.length = n) (hk : cm.length = k * n) (hi : i < k) (hj : j < k) :
    seg (c1 ++ (vs ++ c3)) n j = if j = i then vs else seg cm n j := by
  apply List.ext_getElem?
  intro m
  by_cases hm : m < n
  · rw [seg_get hm]
    by_cases e : j = i
    · subst e
      rw [if_pos rfl, List.getElem?_append_right (by omega), List.getElem?_append_left (by omega)]
      congr 1; omega
    · rw [if_neg e, seg_get hm, hc]
      rcases Nat.lt_or_gt_of_ne e with h | h
      · have : (j + 1) * n ≤ i * n := Nat.mul_le_mul_right _ h
        rw [Nat.add_mul, Nat.one_mul] at this
        rw [List.getElem?_append_left (by omega), List.getElem?_append_left (by omega)]
      · have : (i + 1) * n ≤ j * n := Nat.mul_le_mul_right _ h
        rw [Nat.add_mul, Nat.one_mul] at this
        rw [List.getElem?_append_right (by omega), List.getElem?_append_right (by omega), List.getElem?_append_right (by omega), List.getElem?_append_right (by omega), h2, h3]
  · rw [List.getElem?_eq_none (by simp only [seg, List.length_take]; omega)]
    split
    · rw [List.getElem?_eq_none (by omega)]
    · rw [List.getElem?_eq_none (by simp only [seg, List.length_take]; omega)]
theorem elems_ok {e : Ty} {g : Fl} (hg : g.ok e = true) : ∀ (ps : List (Nat × Operand)) (l : List e.T) (σ : St) (tk : Nat → Bs) (T : Bs) (ξ : Im) (Te : Nat → Bs) (cells : Array Value) {l' : List e.T} {σ' : St}, SA T0 ξ0 w0 tk T ξ w σ tm → cells.size = l.length * e.n → (∀ i, Sb (Te i) T) → (∀ i j, i ≠ j → Dj (Te i) (Te j)) →
      (∀ i (hi : i < l.length), Rel ξ w e g l[i] (seg cells.toList e.n i) (Te i)) → elems E e g ps l σ = some (l', σ') →
      ∃ tk' : Nat → Bs, ∃ T' : Bs, ∃ ξ' : Im, ∃ Te' : Nat → Bs, ∃ cells' : Array Value, SA T0 ξ0 w0 tk' T' ξ' w σ' tm ∧ l'.length = l.length ∧ cells'.size = cells.size ∧ (∀ i, Sb (Te' i) T') ∧ (∀ i j, i ≠ j → Dj (Te' i) (Te' j)) ∧
        (∀ i (hi : i < l'.length), Rel ξ' w e g l'[i] (seg cells'.toList e.n i) (Te' i)) ∧ Instr.fill (fun i => some (i * e.n, e.n)) cells (ps.map fun p => (p.1, ev tm p.2)) = some cells'
  | [], l, σ, tk, T, ξ, Te, cells, l', σ', h, hsz, s, dj, hel, hd => by
    simp only [elems, Option.some.injEq, Prod.mk.injEq] at hd
    obtain ⟨rfl, rfl⟩ := hd
    exact ⟨tk, T, ξ, Te, cells, h, rfl, rfl, s, dj, hel, rfl⟩
  | (i, o) :: ps, l, σ, tk, T, ξ, Te, cells, l', σ', h, hsz, s, dj, hel, hd => by
    simp only [elems] at hd
    split at hd
    case h_1 => cases hd
    rename_i s1 f1 σ1 ht
    split at hd
    case h_1 => cases hd
    rename_i y hc
    have hs1 := cast?_eq hc
    subst hs1
    split at hd
    case isFalse => cases hd
    rename_i hi
    split at hd
    case isFalse => cases hd
    rename_i hfl
    obtain ⟨tk1, T1, cs, k1, k2, k3, k4, k5⟩ := takeN_ok h ht
    -- the value at the flag that is wanted, in the ghost that then stands
    have hval : ∃ ξ1 : Im, ∃ T2 : Bs, SA T0 ξ0 w0 tk1 (Un T T2) ξ1 w σ1 tm ∧ Dj T2 T ∧ Rel ξ1 w e g y cs T2 ∧ Keep T ξ w ξ1 w := by
      simp only [Bool.or_eq_true, decide_eq_true_eq, Bool.and_eq_true] at hfl
      rcases hfl with (rfl | ⟨rfl, hok⟩) | hflat
      · exact ⟨ξ, T1, k1, k2, k4, Keep.refl _ _ _⟩
      · refine ⟨frz ξ w T1, Em, (k1.freeze (T' := T1) (Sb.r _ _)).drop (fun b hb => ?_), Dj.em _, k4.frz k5, frz_keep ξ w T1 T k2⟩
        rcases hb with hb | hb
        · exact ⟨.inl hb, fun hx => k2 b hx hb⟩
        · exact hb.elim
      · exact ⟨ξ, Em, k1.drop (Sb.both (Sb.refl _) (Sb.em _)), Dj.em _, k4.flatAny k5 hflat, Keep.refl _ _ _⟩
    obtain ⟨ξ1, T2, m1, m2, m3, m4⟩ := hval
    have hn := e.n_pos
    have hle : (i + 1) * e.n ≤ l.length * e.n := Nat.mul_le_mul_right _ hi
    rw [Nat.add_mul, Nat.one_mul] at hle
    have hlen : cells.toList.length = l.length * e.n := by rw [Array.length_toList, hsz]
    have hsplit : cells.toList = cells.toList.take (i * e.n) ++ (seg cells.toList e.n i ++ cells.toList.drop (i * e.n + e.n)) := by
      unfold seg
      rw [← List.drop_drop, List.take_append_drop, List.take_append_drop]
    have h1 : (cells.toList.take (i * e.n)).length = i * e.n := by rw [List.length_take]; omega
    have h2 : (seg cells.toList e.n i).length = e.n := seg_len hlen hi
    obtain ⟨cells1, z1, z2⟩ := fill_step (rest := ps.map fun p => (p.1, ev tm p.2)) (place := fun i => some (i * e.n, e.n)) (i := i) (v := ev tm o) rfl (by rw [k3]; exact mkV_cells k4 k5) k4.len hsplit h1 h2
    have hsz1 : cells1.size = cells.size := by
      rw [← Array.length_toList, z1, ← Array.length_toList]
      conv => rhs; rw [hsplit]
      simp only [List.length_append]
      rw [h2, k4.len]
    obtain ⟨tk', T', ξ', Te', cells', r1, r2, r3, r4, r5, r6, r7⟩ := elems_ok hg ps (l.set i y) σ1 tk1 (Un T T2) ξ1 (fun j => if j = i then T2 else Te j) cells1 m1 (by rw [hsz1, hsz]; simp) (fun j => by
      by_cases e' : j = i
      · simp only [e', if_true]; exact Sb.r _ _
      · simp only [e', if_false]; exact (s j).trans (Sb.l _ _)) (fun j m hjm => by
      by_cases e' : j = i
      · have : m ≠ i := fun x => hjm (e'.trans x.symm)
        simp only [e', if_true, this, if_false]
        exact m2.sub (Sb.refl _) (s m)
      · by_cases e'' : m = i
        · simp only [e', if_false, e'', if_true]
          exact Dj.symm (m2.sub (Sb.refl _) (s j))
        · simp only [e', e'', if_false]; exact dj j m hjm) (fun j hj => by
      have hj' : j < l.length := by simpa using hj
      rw [z1, seg_set hsplit h1 h2 k4.len hlen hi hj']
      by_cases e' : j = i
      · subst e'
        simp only [if_true]
        simpa using m3
      · simp only [e', if_false]
        rw [List.getElem_set_ne (fun x => e' x.symm)]
        exact (hel j hj').keep (m4.sub (s j))) hd
    exact ⟨tk', T', ξ', Te', cells', r1, by rw [r2]; simp, by rw [r3, hsz1], r4, r5, r6, by rw [List.map_cons, z2]; exact r7⟩
theorem op_buildSlice {t : TypeId} {n : Nat} {ps : Array (Nat × Operand)} {o : Oper} {e : Ty} {g : Fl} {l : List e.T} {σ' : St} (he : tok P (.row e) t) (h : SA T0 ξ0 w0 tk Em ξ w σ tm) (hop : o.op = .buildSlice t n ps) (hn : ¬ n * e.n > 16777216) (hg : g = e.full ∨ g = .ro) (hgk : g.ok e = true)
    (hd : elems E e g ps.toList (List.replicate n e.z) σ = some (l, σ')) : Gd P T0 ξ0 w0 σ' tm (execOp (ev tm) o) (.d (.row e) l (.own g)) w := by
  obtain ⟨te, u1, u2⟩ := he.row
  obtain ⟨it, z, i1, i2, _, i4, i5, i6⟩ := u2.info
  have hzs : z.cells.size = e.n := by
    have := (Rel.zero (ξ := fun _ => 0) (w := default) i5).len
    simpa using this
  have hpos := e.n_pos
  have hz : ∀ ξ' : Im, Rel ξ' w e g e.z z.cells.toList Em := by
    intro ξ'
    rcases hg with rfl | rfl
    · exact Rel.zero i5
    · have hx := Rel.zero (ξ := ξ') (w := w) i5
      exact hx.freeze (fun b => Nat.le_refl _) (by
        have : ∀ e : Ty, Fl.ok e e.full = true := by
          intro e
          induction e with
          | int k => rfl
          | bool => rfl
          | str => rfl
          | row e ih => exact ih
          | pair a b iha ihb =>
            unfold Ty.full
            split
            · exact ok_ro _
            · simp only [Fl.ok, Fl.l, Fl.r, iha, ihb, Bool.and_self]
          | st a ih => exact ih
        exact this e) (fun b c t fz hb => hb.elim)
  have hsz0 : (madeCells z.cells (n * e.n)).size = (List.replicate n e.z).length * e.n := by rw [size_madeCells]; simp
  obtain ⟨tk', T', ξ', Te', cells', r1, r2, r3, r4, r5, r6, r7⟩ := elems_ok hgk ps.toList (List.replicate n e.z) σ tk Em ξ (fun _ => Em) (madeCells z.cells (n * e.n)) h hsz0 (fun _ => Sb.em _) (fun _ _ _ => Dj.em _) (fun i hi => by
    have hi' : i < n := by simpa using hi
    rw [seg_made hzs hpos hi', List.getElem_replicate]
    exact hz ξ) hd
  have hln : l.length = n := by rw [r2]; simp
  -- the run
  have hfill : Instr.fill (fun i => some (i * e.n, e.n)) (madeCells z.cells (n * e.n)) (ps.map fun (i, x) => (i, ev tm x)).toList = some cells' := by
    have e1 : (ps.map fun (i, x) => (i, ev tm x)).toList = ps.toList.map fun p => (p.1, ev tm p.2) := by simp
    rw [e1]; exact r7
  have hrun : (Instr.buildSlice t n (ps.map fun (i, x) => (i, ev tm x))).run P w = .ok (.slice (some ⟨w.heap.size, 0, none⟩) n n) (w.alloc (.cells cells' te)) := by
    have hszr : (sizeOf te).run P w = .ok e.n w := u2.size w
    have hzr : (zeroValue te).run P w = .ok z w := by simp [zeroValue, typeInfo, i1, i4]
    by_cases h0 : n * e.n = 0
    · have hm : madeCells z.cells (n * e.n) = (#[] : Array Value) := by rw [h0]; simp [madeCells]
      rw [hm] at hfill
      simp only [Instr.buildSlice, Sem.run_bind, run_underlying u1, Result.andThen, hszr, if_neg hn, h0, if_true, Sem.run_ite, Sem.run_pure]
      have e0 : ∀ z : Array Value, (Array.range 0).map (fun x => z[x % z.size]!) = #[] := by intro z; simp
      simp only [e0, hfill]
      simp [newRow]
    · simp only [Instr.buildSlice, Sem.run_bind, run_underlying u1, Result.andThen, hszr, if_neg hn, h0, if_false, Sem.run_ite, Sem.run_pure, hzr]
      have hm : (Array.range (n * e.n)).map (fun x => z.cells[x % z.cells.size]!) = madeCells z.cells (n * e.n) := rfl
      simp only [hm, hfill]
      simp [newRow]
  have wf' := r1.wf
  have k := new_row (t := te) (g := g) (cells := cells') (cap := n) (l := l) (Te := Te') wf' (by omega) (by rw [r3, size_madeCells]; exact Nat.le_refl _) (fun i b hb => (r1.mayf b (r4 i b hb)).2) r5 r6 (0, 0) (fun _ _ => by simp)
  rw [hln] at k
  refine ⟨_, _, ξ', tk', _, .inl ?_, r1.step (U := Em) (Fr.alloc _ _ _ (.cells cells' te)) (Sb.em _) (wf'.alloc _) (fun b hb => ?_), ⟨_, rfl, k⟩, trivial⟩
  · simp only [execOp, hop, Sem.run_bind, hrun, Result.andThen, Sem.run_pure]
    rfl
  · rw [size_alloc]
    rcases hb with hb | ⟨i, hb⟩
    · subst hb; exact ⟨.inr (Nat.le_refl _), Nat.lt_succ_self _⟩
    · exact ⟨.inl (r4 i b hb), Nat.lt_succ_of_lt (r1.mayf b (r4 i b hb)).2⟩
end
end Go.Proofs.Ytabindnaedchgaa.Rf
