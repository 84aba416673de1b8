/- The program's types, as plain types; loads, stores, new blocks. Nothing of any program. -/
import Derived.Test.YtabindnaedchgaaRf6
import Derived.Laws.IdiomCopy
import Derived.Laws.StructEq
import Derived.Laws.Small
import Derived.Laws.Slices
import Derived.Laws.BytesString
namespace Go.Proofs.Ytabindnaedchgaa.Rf
open Go Go.RowKit
set_option linter.unusedVariables false
set_option linter.unusedSimpArgs false

def isZ : Ty → List Value → Bool
  | .int k, cs => match cs with | [.int k' n] => decide (k' = k) && decide (n = 0) | _ => false
  | .bool, cs => match cs with | [.bool b] => !b | _ => false
  | .str, cs => match cs with | [.string s] => decide (s = ByteArray.empty) | _ => false
  | .row _, cs => match cs with | [.slice none 0 0] => true | _ => false
  | .pair a b, cs => isZ a (cs.take a.n) && isZ b (cs.drop a.n) && decide (cs.length = a.n + b.n)
  | .st a, cs => isZ a cs
def isAggV : Value → Bool
  | .agg _ => true | _ => false
def infoB (P : Program) (τ : Ty) (t : TypeId) : Bool := match P.info? t with
  | some i => decide (i.size = τ.n) && (decide (0 < i.bytes ∧ i.bytes ≤ τ.by) && match i.zero with
    | some z => isZ τ z.cells.toList && (match τ with | .st _ => isAggV z | _ => !isAggV z)
    | none => false)
  | none => false
def one (m : TypeId ⊕ (List Field × Nat)) (f : TypeId → Bool) : Bool := match m with
  | .inl t => f t
  | .inr ([fd], o) => decide (fd.offset = o) && (decide (fd.name ≠ "_") && f fd.type)
  | _ => false
def tokB (P : Program) : Ty → (TypeId ⊕ (List Field × Nat)) → Bool
  | .int k, m => one m fun t => infoB P (.int k) t && match P.underlying t with | some (.int k') => decide (k' = k) | _ => false
  | .bool, m => one m fun t => infoB P .bool t && match P.underlying t with | some .bool => true | _ => false
  | .str, m => one m fun t => infoB P .str t && match P.underlying t with | some .string => true | _ => false
  | .row e, m => one m fun t => infoB P (.row e) t && match P.underlying t with | some (.slice te) => tokB P e (.inl te) | _ => false
  | .pair a b, m => match m with
    | .inr (fd :: fs, o) => decide (fd.offset = o) && (tokB P a (.inl fd.type) && (tokB P b (.inr (fs, o + a.n)) && decide (fd.name ≠ "_")))
    | _ => false
  | .st a, m => one m fun t => infoB P (.st a) t && match P.underlying t with | some (.struct fs) => tokB P a (.inr (fs.toList, 0)) && (!P.stoodInHeld t && !P.eqGuardType P.depth t) | _ => false
abbrev tok (P : Program) (τ : Ty) (t : TypeId) : Prop := tokB P τ (.inl t) = true
theorem Rel.zero {ξ : Im} {w : World} : {τ : Ty} → {cs : List Value} → isZ τ cs = true → Rel ξ w τ τ.full τ.z cs Em
  | .int k, cs, h => by
    simp only [isZ] at h
    split at h
    · simp only [Bool.and_eq_true, decide_eq_true_eq] at h
      obtain ⟨rfl, rfl⟩ := h
      exact ⟨rfl, fun _ => rfl⟩
    · cases h
  | .bool, cs, h => by
    simp only [isZ] at h
    split at h
    · simp only [Bool.not_eq_true'] at h
      subst h; exact ⟨rfl, fun _ => rfl⟩
    · cases h
  | .str, cs, h => by
    simp only [isZ] at h
    split at h
    · exact ⟨rfl, fun _ => by rw [of_decide_eq_true h]; rfl⟩
    · cases h
  | .row e, cs, h => by
    simp only [isZ] at h
    split at h
    · exact .inl ⟨rfl, rfl⟩
    · cases h
  | .pair a b, cs, h => by
    simp only [isZ, Bool.and_eq_true, decide_eq_true_eq] at h
    obtain ⟨⟨h1, h2⟩, h3⟩ := h
    have r1 := Rel.zero (ξ := ξ) (w := w) h1
    have r2 := Rel.zero (ξ := ξ) (w := w) h2
    have hl : ((Ty.pair a b).full).l = a.full ∨ (((Ty.pair a b).full).l = .ro ∧ a.flat = true) := by
      change (if a.flat && b.flat then Fl.ro else .pr a.full b.full).l = a.full ∨ ((if a.flat && b.flat then Fl.ro else .pr a.full b.full).l = .ro ∧ a.flat = true)
      split
      · rename_i h; simp at h; exact .inr ⟨rfl, h.1⟩
      · exact .inl rfl
    have hr : ((Ty.pair a b).full).r = b.full ∨ (((Ty.pair a b).full).r = .ro ∧ b.flat = true) := by
      change (if a.flat && b.flat then Fl.ro else .pr a.full b.full).r = b.full ∨ ((if a.flat && b.flat then Fl.ro else .pr a.full b.full).r = .ro ∧ b.flat = true)
      split
      · rename_i h; simp at h; exact .inr ⟨rfl, h.2⟩
      · exact .inl rfl
    have flat : ∀ τ : Ty, τ.flat = true → τ.full = .ro := by
      intro τ
      induction τ with
      | int k => intro _; rfl
      | bool => intro _; rfl
      | str => intro _; rfl
      | row e => intro h; simp [Ty.flat] at h
      | pair a b => intro h; unfold Ty.full; rw [if_pos (by simpa [Ty.flat] using h)]
      | st a ih => intro h; exact ih h
    refine ⟨cs.take a.n, cs.drop a.n, Em, Em, (List.take_append_drop _ _).symm, r1.len, Sb.em _, Sb.em _, Dj.em _, ?_, ?_⟩
    · rcases hl with e | ⟨e, e'⟩
      · rw [e]; exact r1
      · rw [e, ← flat a e']; exact r1
    · rcases hr with e | ⟨e, e'⟩
      · rw [e]; exact r2
      · rw [e, ← flat b e']; exact r2
  | .st a, cs, h => Rel.zero (τ := a) h
theorem Rel.cells1 {ξ : Im} {w : World} : {τ : Ty} → {f : Fl} → {x : τ.T} → {cs : List Value} → {T : Bs} → Rel ξ w τ f x cs T → f.ok τ = true → ∀ v ∈ cs, v.oneCell' = true
  | .int _, _, _, _, _, h, r => by rw [h.2 (by simpa [Fl.ok] using r)]; simp [Value.oneCell']
  | .bool, _, _, _, _, h, r => by rw [h.2 (by simpa [Fl.ok] using r)]; simp [Value.oneCell']
  | .str, _, _, _, _, h, r => by rw [h.2 (by simpa [Fl.ok] using r)]; simp [Value.oneCell']
  | .row e, f, l, cs, T, h, r => by
    cases f with
    | gone => simp [Fl.ok] at r
    | pr _ _ => exact h.elim
    | ro => obtain ⟨A, cap, rfl, _⟩ := h; simp [Value.oneCell']
    | own g => rcases h with ⟨_, rfl⟩ | ⟨a, cap, c, t, fz, Te, rfl, _⟩ <;> simp [Value.oneCell']
  | .pair a b, _, _, _, _, ⟨c1, c2, T1, T2, hc, hl, s1, s2, d, h1, h2⟩, r => by
    simp only [Fl.ok, Bool.and_eq_true] at r
    intro v hv
    rw [hc, List.mem_append] at hv
    exact hv.elim (Rel.cells1 h1 r.1 v) (Rel.cells1 h2 r.2 v)
  | .st a, _, _, _, _, h, r => Rel.cells1 (τ := a) h r
section
variable {P : Program} {τ : Ty} {t : TypeId}
theorem one_inl {f : TypeId → Bool} : one (.inl t) f = f t := rfl
theorem tok.info (h : tok P τ t) : ∃ i z, P.info? t = some i ∧ i.size = τ.n ∧ (0 < i.bytes ∧ i.bytes ≤ τ.by) ∧ i.zero = some z ∧ isZ τ z.cells.toList = true ∧ mkV τ z.cells.toList = z := by
  have key : infoB P τ t = true ∧ ∀ a b, τ ≠ .pair a b := by
    cases τ <;> simp only [tok, tokB, one, Bool.and_eq_true] at h
    case pair a b => cases h
    all_goals exact ⟨h.1, by simp⟩
  obtain ⟨h, hp⟩ := key
  unfold infoB at h
  split at h
  · rename_i i hi
    simp only [Bool.and_eq_true, decide_eq_true_eq] at h
    obtain ⟨h1, h2, h3⟩ := h
    split at h3
    · rename_i z hz
      simp only [Bool.and_eq_true] at h3
      refine ⟨i, z, hi, h1, h2, hz, h3.1, ?_⟩
      have hr := Rel.zero (ξ := fun _ => 0) (w := default) h3.1
      cases τ with
      | pair a b => exact (hp a b rfl).elim
      | st a =>
        have := h3.2
        cases z <;> simp [isAggV] at this
        simp [mkV, Value.cells]
      | _ =>
        have := h3.2
        cases z <;> simp [isAggV] at this <;> rfl
    · cases h3
  · cases h
theorem tok.size (h : tok P τ t) (w : World) : (sizeOf t).run P w = .ok τ.n w := by
  obtain ⟨i, z, h1, h2, _⟩ := h.info
  simp [sizeOf, typeInfo, h1, h2]
theorem tok.zero (h : tok P τ t) (w : World) : ∃ z, (zeroValue t).run P w = .ok z w ∧ isZ τ z.cells.toList = true ∧ mkV τ z.cells.toList = z := by
  obtain ⟨i, z, h1, _, _, h2, h3, h4⟩ := h.info
  exact ⟨z, by simp [zeroValue, typeInfo, h1, h2], h3, h4⟩
theorem tok.int {k : IntKind} (h : tok P (.int k) t) : P.underlying t = some (.int k) := by
  simp only [tok, tokB, one, Bool.and_eq_true] at h
  have := h.2
  split at this
  · simp only [decide_eq_true_eq] at this; subst this; assumption
  · cases this
theorem tok.bool (h : tok P .bool t) : P.underlying t = some .bool := by
  simp only [tok, tokB, one, Bool.and_eq_true] at h
  have := h.2
  split at this
  · assumption
  · cases this
theorem tok.str (h : tok P .str t) : P.underlying t = some .string := by
  simp only [tok, tokB, one, Bool.and_eq_true] at h
  have := h.2
  split at this
  · assumption
  · cases this
theorem tok.row {e : Ty} (h : tok P (.row e) t) : ∃ te, P.underlying t = some (.slice te) ∧ tok P e te := by
  simp only [tok, tokB, one, Bool.and_eq_true] at h
  have := h.2
  split at this
  · exact ⟨_, by assumption, this⟩
  · cases this
theorem tok.st {a : Ty} (h : tok P (.st a) t) : ∃ fs, P.underlying t = some (.struct fs) ∧ tokB P a (.inr (fs.toList, 0)) = true ∧ P.stoodInHeld t = false ∧ P.eqGuardType P.depth t = false := by
  simp only [tok, tokB, one, Bool.and_eq_true] at h
  have := h.2
  split at this
  · simp only [Bool.and_eq_true, Bool.not_eq_true'] at this
    exact ⟨_, by assumption, this⟩
  · cases this
theorem tok.agg (h : tok P τ t) (w : World) : (isAgg t).run P w = .ok (match τ with | .st _ => true | _ => false) w := by
  cases τ with
  | int k => simp [isAgg, run_underlying h.int]
  | bool => simp [isAgg, run_underlying h.bool]
  | str => simp [isAgg, run_underlying h.str]
  | row e => obtain ⟨te, h1, _⟩ := h.row; simp [isAgg, run_underlying h1]
  | pair a b => simp [tok, tokB] at h
  | st a => obtain ⟨fs, h1, _⟩ := h.st; simp [isAgg, run_underlying h1]
theorem run_loadVar (h : tok P τ t) {w : World} {b o : Nat} {cs : List Value} (hl : cs.length = τ.n) (hc : CAt w b o cs) : (loadVar t ⟨b, o, none⟩).run P w = .ok (mkV τ cs) w := by
  have hadd : ∀ i, (⟨b, o, none⟩ : Addr).add i = ⟨b, o + i, none⟩ := fun i => by unfold Addr.add; split <;> simp_all
  have one : τ.n = 1 → (load ⟨b, o, none⟩ : Sem Value).run P w = .ok (cs.headD undef) w := by
    intro h1
    rw [h1] at hl
    match cs, hl with
    | [v], _ =>
      have := hc 0 v rfl
      simp only [Nat.add_zero] at this
      simp [this]
  cases τ with
  | pair a b => simp [tok, tokB] at h
  | st a =>
    simp only [loadVar, Sem.run_bind, h.agg, Result.andThen, h.size, if_true]
    rw [← hl, run_loadCells_list w _ cs fun j v hj => by rw [hadd]; exact hc j v hj]
    rfl
  | int k => simp only [loadVar, Sem.run_bind, h.agg, Result.andThen, Bool.false_eq_true, if_false]; exact one rfl
  | bool => simp only [loadVar, Sem.run_bind, h.agg, Result.andThen, Bool.false_eq_true, if_false]; exact one rfl
  | str => simp only [loadVar, Sem.run_bind, h.agg, Result.andThen, Bool.false_eq_true, if_false]; exact one rfl
  | row e => simp only [loadVar, Sem.run_bind, h.agg, Result.andThen, Bool.false_eq_true, if_false]; exact one rfl
theorem setCell_wr {w : World} {b o : Nat} {v : Value} : Wr w (w.setCell ⟨b, o, none⟩ v) b o [v] ∨ ¬ ∃ c t fz, w.heap[b]? = some (.cells c t fz) ∧ o < c.size := by
  by_cases hx : ∃ c t fz, w.heap[b]? = some (.cells c t fz) ∧ o < c.size
  · left
    obtain ⟨c, t, fz, hc, ho⟩ := hx
    refine ⟨rfl, rfl, rfl, by simp [World.setCell], fun b' hb => Below.heap_setCell _ _ _ _ (by simpa using hb), ?_⟩
    intro c' t' fz' hc'
    rw [hc] at hc'
    cases hc'
    refine ⟨c.setIfInBounds o v, by simp [World.setCell, Array.getElem?_modify, hc], by simp, ?_, ?_⟩
    · intro i u hi
      cases i with
      | zero => simp at hi; subst hi; simp [ho]
      | succ i => simp at hi
    · intro i hi
      rw [Array.getElem?_setIfInBounds_ne]
      simp at hi
      omega
  · right; exact hx
theorem Wr.trans1 {w w1 w2 : World} {b o : Nat} {v : Value} {vs : List Value} (h : Wr w w1 b o [v]) (k : Wr w1 w2 b (o + 1) vs) : Wr w w2 b o (v :: vs) := by
  refine ⟨k.os.trans h.os, k.tape.trans h.tape, k.output.trans h.output, k.size.trans h.size, fun b' hb => (k.oth b' hb).trans (h.oth b' hb), ?_⟩
  intro c t fz hc
  obtain ⟨c1, r1, r2, r3, r4⟩ := h.at_ c t fz hc
  obtain ⟨c2, s1, s2, s3, s4⟩ := k.at_ c1 t fz r1
  refine ⟨c2, s1, s2.trans r2, ?_, ?_⟩
  · intro i u hi
    cases i with
    | zero =>
      simp at hi; subst hi
      rw [s4 _ (.inl (by omega))]
      exact r3 0 _ rfl
    | succ i =>
      simp at hi
      have := s3 i u hi
      rwa [show o + (i + 1) = o + 1 + i by omega]
  · intro i hi
    simp at hi
    rw [s4 i (by omega), r4 i (by simp; omega)]
theorem run_storeCells {b o : Nat} : ∀ (cs : List Value) (i : Nat) {w : World} {c : Array Value} {t : TypeId} {fz : Nat × Nat}, w.heap[b]? = some (.cells c t fz) → (∀ j, j < c.size → ¬(fz.1 ≤ j ∧ j < fz.2)) → o + i + cs.length ≤ c.size → (∀ v ∈ cs, v.oneCell' = true) →
    ∃ w', (storeCells ⟨b, o, none⟩ cs i).run P w = .ok () w' ∧ Wr w w' b (o + i) cs
  | [], i, w, c, t, fz, hc, hz, hl, h1 => ⟨w, rfl, rfl, rfl, rfl, rfl, fun _ _ => rfl, fun c t fz h => ⟨c, h, rfl, fun i v hi => by simp at hi, fun _ _ => rfl⟩⟩
  | v :: vs, i, w, c, t, fz, hc, hz, hl, h1 => by
    have hadd : (⟨b, o, none⟩ : Addr).add i = ⟨b, o + i, none⟩ := by unfold Addr.add; split <;> simp_all
    simp only [List.length_cons] at hl
    have hlt : o + i < c.size := by omega
    have hcell : w.cell? ⟨b, o + i, none⟩ = some c[o + i] := by rw [cell_of hc]; simp [hlt]
    have hfro : w.frozen? ⟨b, o + i, none⟩ = false := by
      have := hz _ hlt
      simp only [World.frozen?, hc]
      simp only [Bool.and_eq_false_iff, decide_eq_false_iff_not]
      omega
    have w1 : Wr w (w.setCell ⟨b, o + i, none⟩ v) b (o + i) [v] := by
      rcases setCell_wr (w := w) (b := b) (o := o + i) (v := v) with h | h
      · exact h
      · exact absurd ⟨c, t, fz, hc, hlt⟩ h
    obtain ⟨c1, r1, r2, _, _⟩ := w1.at_ c t fz hc
    obtain ⟨w2, k1, k2⟩ := run_storeCells (b := b) (o := o) vs (i + 1) (w := w.setCell ⟨b, o + i, none⟩ v) r1 (by rw [r2]; exact hz) (by omega) (fun x hx => h1 x (by simp [hx]))
    refine ⟨w2, ?_, w1.trans1 (by rw [show o + i + 1 = o + (i + 1) by omega]; exact k2)⟩
    simp only [storeCells, Sem.run_bind, hadd, run_store P w _ v _ (h1 v (by simp)), hcell, hfro, Bool.false_eq_true, if_false, Result.andThen, k1]
theorem run_storeVar (h : tok P τ t) {w : World} {b o : Nat} {cs : List Value} {v : Value} (hv : v.cells = cs.toArray) (hl : cs.length = τ.n) (h1 : ∀ v ∈ cs, v.oneCell' = true) {c : Array Value} {ty : TypeId} {fz : Nat × Nat}
    (hc : w.heap[b]? = some (.cells c ty fz)) (hz : ∀ j, j < c.size → ¬(fz.1 ≤ j ∧ j < fz.2)) (ho : o + τ.n ≤ c.size) :
    ∃ w', (storeVar t ⟨b, o, none⟩ v).run P w = .ok () w' ∧ Wr w w' b o cs := by
  obtain ⟨w', k1, k2⟩ := run_storeCells (P := P) (b := b) (o := o) cs 0 hc hz (by omega) h1
  refine ⟨w', ?_, by simpa using k2⟩
  simp only [storeVar, Sem.run_bind, h.size, Result.andThen, hv, List.size_toArray, hl, ne_eq, not_true_eq_false, if_false, Sem.run_ite]
  exact k1
/-- a new block -/
theorem Fr.alloc (U : Bs) (ξ : Im) (w : World) (o : Obj) : Fr U ξ w ξ (w.alloc o) :=
  ⟨rfl, rfl, rfl, by simp, fun b hb _ => ⟨Below.heap_alloc w o b hb, rfl⟩, fun b i v _ hv => by
    have hb := cell_lt hv
    rw [cell_eq (Below.heap_alloc w o b hb), hv], fun _ _ => Nat.le_refl _⟩
theorem Wf.alloc {ξ : Im} {w : World} (h : Wf ξ w) (o : Obj) : Wf ξ (w.alloc o) := fun b hb => h b (by simp at hb; omega)
theorem heap_new (w : World) (o : Obj) : (w.alloc o).heap[w.heap.size]? = some o := by
  show (w.heap.push o)[w.heap.size]? = _
  simp
theorem size_alloc (w : World) (o : Obj) : (w.alloc o).heap.size = w.heap.size + 1 := by
  show (w.heap.push o).size = _
  simp
end
end Go.Proofs.Ytabindnaedchgaa.Rf
