/- Operations: append. Nothing of any program. -/
import Derived.Test.YtabindnaedchgaaRf11
import Derived.Laws.Append
import Derived.Laws.MakeOwn
namespace Go.Proofs.Ytabindnaedchgaa.Rf
open Go Go.RowKit
set_option linter.unusedVariables false
set_option linter.unusedSimpArgs false

section
variable {P : Program} {E : TyOf} {T0 : Bs} {ξ0 : Im} {w0 : World} {tk : Nat → Bs} {Tf : Bs} {ξ : Im} {w : World} {σ : St} {tm : Array Value}
theorem Rel.flatAny {ξ' : Im} {w' : World} {g : Fl} {T' : Bs} : {τ : Ty} → {f : Fl} → {x : τ.T} → {cs : List Value} → {T : Bs} → Rel ξ w τ f x cs T → f.ok τ = true → τ.flat = true → Rel ξ' w' τ g x cs T'
  | .int _, _, _, _, _, h, r, _ => ⟨h.1, fun _ => h.2 (by simpa [Fl.ok] using r)⟩
  | .bool, _, _, _, _, h, r, _ => ⟨h.1, fun _ => h.2 (by simpa [Fl.ok] using r)⟩
  | .str, _, _, _, _, h, r, _ => ⟨h.1, fun _ => h.2 (by simpa [Fl.ok] using r)⟩
  | .row e, _, _, _, _, _, _, z => by simp [Ty.flat] at z
  | .pair a b, _, _, _, _, ⟨c1, c2, T1, T2, hc, hl, s1, s2, d, h1, h2⟩, r, z => by
    simp only [Fl.ok, Ty.flat, Bool.and_eq_true] at r z
    exact ⟨c1, c2, Em, Em, hc, hl, Sb.em _, Sb.em _, Dj.em _, h1.flatAny r.1 z.1, h2.flatAny r.2 z.2⟩
  | .st a, _, _, _, _, h, r, z => Rel.flatAny (τ := a) h r z
/-- n cells of a list from place i * n on -/
def seg (cm : List Value) (n i : Nat) : List Value := (cm.drop (i * n)).take n
theorem seg_get {cm : List Value} {n i j : Nat} (hj : j < n) : (seg cm n i)[j]? = cm[i * n + j]? := by
  unfold seg
  rw [List.getElem?_take_of_lt hj, List.getElem?_drop]
theorem seg_len {cm : List Value} {n i k : Nat} (h : cm.length = k * n) (hi : i < k) : (seg cm n i).length = n := by
  unfold seg
  rw [List.length_take, List.length_drop, h]
  have : (i + 1) * n ≤ k * n := Nat.mul_le_mul_right _ hi
  rw [Nat.add_mul, Nat.one_mul] at this
  omega
/-- all cells of a row that is read -/
theorem Rel.all {e : Ty} {f : Fl} {l : List e.T} {cs : List Value} {T : Bs} (h : Rel ξ w (.row e) f l cs T) (hf : f.ok (.row e) = true) :
    ∃ A cap cm, cs = [.slice A l.length cap] ∧ cm.length = l.length * e.n ∧ (∀ j v, cm[j]? = some v → ∃ a, A = some a ∧ a.spot = none ∧ w.cell? ⟨a.block, a.off + j, none⟩ = some v) ∧
      ∀ i (hi : i < l.length), ∃ g : Fl, ∃ T' : Bs, g.ok e = true ∧ Sb T' T ∧ Rel ξ w e g l[i] (seg cm e.n i) T' ∧ (f = .ro → Rel ξ w e .ro l[i] (seg cm e.n i) Em) := by
  by_cases hl : l = []
  · subst hl
    cases f with
    | gone => simp [Fl.ok] at hf
    | pr _ _ => exact h.elim
    | ro => obtain ⟨A, cap, h1, _⟩ := h; exact ⟨A, cap, [], h1, by simp, fun j v hj => by simp at hj, fun i hi => by simp at hi⟩
    | own g =>
      rcases h with ⟨_, h1⟩ | ⟨a, cap, c, t, fz, Te, h1, _⟩
      · exact ⟨none, 0, [], h1, by simp, fun j v hj => by simp at hj, fun i hi => by simp at hi⟩
      · exact ⟨some a, cap, [], h1, by simp, fun j v hj => by simp at hj, fun i hi => by simp at hi⟩
  · have h0 : 0 < l.length := List.length_pos_iff.2 hl
    obtain ⟨a, cap, _, _, h1, h2, _⟩ := h.elem hf h0
    have el : ∀ i (hi : i < l.length), ∃ c' g, ∃ T' : Bs, c'.length = e.n ∧ CAt w a.block (a.off + i * e.n) c' ∧ Fl.ok e g = true ∧ Sb T' T ∧ Rel ξ w e g l[i] c' T' ∧ (f = .ro → Rel ξ w e .ro l[i] c' Em) := by
      intro i hi
      obtain ⟨a', cap', c', g, k1, k2, k3, k4, k5, k6, k7, k8, _⟩ := h.elem hf hi
      rw [h1] at k1
      simp only [List.cons.injEq, Value.slice.injEq, Option.some.injEq, and_true] at k1
      obtain ⟨rfl, _⟩ := k1
      exact ⟨c', g, T, k3, k4, k6, Sb.refl _, k7, fun z => (k8 z).2⟩
    have cell : ∀ j, j < l.length * e.n → ∃ v, w.cell? ⟨a.block, a.off + j, none⟩ = some v := by
      intro j hj
      have hn := e.n_pos
      have hi : j / e.n < l.length := Nat.div_lt_of_lt_mul (by rwa [Nat.mul_comm])
      obtain ⟨c', _, _, k1, k2, _⟩ := el _ hi
      have hm : j % e.n < c'.length := by rw [k1]; exact Nat.mod_lt _ hn
      have := k2 (j % e.n) _ (List.getElem?_eq_getElem hm)
      have e1 : a.off + j / e.n * e.n + j % e.n = a.off + j := by have := Nat.div_add_mod j e.n; rw [Nat.mul_comm] at this; omega
      rw [e1] at this
      exact ⟨_, this⟩
    let cm : List Value := (List.range (l.length * e.n)).map fun j => (w.cell? ⟨a.block, a.off + j, none⟩).getD undef
    have hcm : ∀ j, j < l.length * e.n → w.cell? ⟨a.block, a.off + j, none⟩ = cm[j]? := by
      intro j hj
      obtain ⟨v, hv⟩ := cell j hj
      simp [cm, hj, hv]
    refine ⟨some a, cap, cm, h1, by simp [cm], fun j v hj => ?_, fun i hi => ?_⟩
    · have hjl : j < l.length * e.n := by have := (List.getElem?_eq_some_iff.1 hj).1; simpa [cm] using this
      exact ⟨a, rfl, h2, (hcm j hjl).trans hj⟩
    · obtain ⟨c', g, T', k1, k2, k3, k4, k5, k6⟩ := el i hi
      have : seg cm e.n i = c' := by
        apply List.ext_getElem?
        intro j
        by_cases hj : j < e.n
        · rw [seg_get hj]
          have hl : i * e.n + j < l.length * e.n := by
            have : (i + 1) * e.n ≤ l.length * e.n := Nat.mul_le_mul_right _ hi
            rw [Nat.add_mul, Nat.one_mul] at this
            omega
          rw [← hcm _ hl, List.getElem?_eq_getElem (by rw [k1]; exact hj)]
          have := k2 j _ (List.getElem?_eq_getElem (by rw [k1]; exact hj))
          rwa [Nat.add_assoc] at this
        · have z1 : (seg cm e.n i).length ≤ j := by unfold seg; rw [List.length_take]; omega
          have z2 : c'.length ≤ j := by rw [k1]; omega
          rw [List.getElem?_eq_none z1, List.getElem?_eq_none z2]
      rw [this]
      exact ⟨g, T', k3, k4, k5, k6⟩
/-- what is in a row is never turned again; the row may be -/
theorem Rel.inner {e : Ty} {g : Fl} {l : List e.T} {cs : List Value} {T : Bs} (h : Rel ξ w (.row e) (.own g) l cs T) (hf : g.ok e = true) :
    ∃ T1 T2 : Bs, Sb T1 T ∧ Sb T2 T ∧ Dj T1 T2 ∧ ∀ ξ' : Im, (∀ b, ξ b ≤ ξ' b) → (∀ b, ¬ T1 b → ξ' b = ξ b) → (∀ b c t fz, T1 b → w.heap[b]? = some (.cells c t fz) → c.size ≤ ξ' b) → Rel ξ' w (.row e) (.own .ro) l cs T2 := by
  rcases h with ⟨h1, h2⟩ | ⟨a, cap, c, t, fz, Te, h1, h2, h3, h4, h5, h6, h7, h8, h9, h10, h11⟩
  · exact ⟨Em, Em, Sb.em _, Sb.em _, Dj.em _, fun _ _ _ _ => .inl ⟨h1, h2⟩⟩
  · refine ⟨fun b => ∃ i, Te i b, fun b => b = a.block, fun b ⟨i, hi⟩ => (h9 i).1 b hi, fun b hb => hb ▸ h3, fun b ⟨i, hi⟩ hb => (h9 i).2 (hb ▸ hi), fun ξ' up keep cov => ?_⟩
    refine .inr ⟨a, cap, c, t, fz, fun _ => Em, h1, h2, rfl, h4, h5, h6, h7, by rw [keep _ fun ⟨i, hi⟩ => (h9 i).2 hi]; exact h8, fun i => ⟨Sb.em _, fun x => x⟩, fun _ _ _ => Dj.em _, fun i hi => ?_⟩
    obtain ⟨c', k1, k2, k3⟩ := h11 i hi
    exact ⟨c', k1, k2, k3.freeze up hf fun b c t fz hb => cov b c t fz ⟨i, hb⟩⟩
theorem run_first {e : Ty} {A : Option Addr} {cap n : Nat} {cm : List Value} (hl : cm.length = n * e.n) (hc : ∀ j v, cm[j]? = some v → ∃ a, A = some a ∧ a.spot = none ∧ w.cell? ⟨a.block, a.off + j, none⟩ = some v) {len : Nat} :
    (Builtin.firstCells e.n n (.slice A len cap)).run P w = .ok cm.toArray w := by
  cases A with
  | none =>
    have : cm = [] := by
      cases cm with
      | nil => rfl
      | cons v cm => obtain ⟨a, ha, _⟩ := hc 0 v rfl; cases ha
    subst this
    simp [Builtin.firstCells]
  | some a =>
    refine run_firstCells_some w e.n n a len cap cm hl fun j v hj => ?_
    obtain ⟨a', ha, hs, hv⟩ := hc j v hj
    cases ha
    have : a.add j = ⟨a.block, a.off + j, none⟩ := by
      obtain ⟨b, o, s⟩ := a
      simp only at hs
      subst hs
      unfold Addr.add; split <;> simp_all
    rw [this]; exact hv
theorem seg_app1 {cl cm r : List Value} {n k i : Nat} (h : cl.length = k * n) (hi : i < k) : seg (cl ++ (cm ++ r)) n i = seg cl n i := by
  have : (i + 1) * n ≤ k * n := Nat.mul_le_mul_right _ hi
  rw [Nat.add_mul, Nat.one_mul] at this
  apply List.ext_getElem?
  intro j
  by_cases hj : j < n
  · rw [seg_get hj, seg_get hj, List.getElem?_append_left (by omega)]
  · rw [List.getElem?_eq_none (by unfold seg; rw [List.length_take]; omega), List.getElem?_eq_none (by unfold seg; rw [List.length_take]; omega)]
theorem seg_app2 {cl cm r : List Value} {n k m i : Nat} (h : cl.length = k * n) (h' : cm.length = m * n) (hi : k ≤ i) (hm : i < k + m) : seg (cl ++ (cm ++ r)) n i = seg cm n (i - k) := by
  obtain ⟨d, rfl⟩ := Nat.exists_eq_add_of_le hi
  have : (d + 1) * n ≤ m * n := Nat.mul_le_mul_right _ (by omega)
  rw [Nat.add_mul, Nat.one_mul] at this
  rw [Nat.add_sub_cancel_left]
  apply List.ext_getElem?
  intro j
  by_cases hj : j < n
  · rw [seg_get hj, seg_get hj, List.getElem?_append_right (by rw [h, Nat.add_mul]; omega), List.getElem?_append_left (by rw [h, h', Nat.add_mul]; omega), h]
    congr 1
    rw [Nat.add_mul]
    omega
  · rw [List.getElem?_eq_none (by unfold seg; rw [List.length_take]; omega), List.getElem?_eq_none (by unfold seg; rw [List.length_take]; omega)]
theorem Wf.drew {ξ : Im} {w : World} (h : Wf ξ w) : Wf ξ w.drew := h
theorem Fr.drew (U : Bs) (ξ : Im) (w : World) : Fr U ξ w ξ w.drew := ⟨rfl, rfl, rfl, Nat.le_refl _, fun _ _ _ => ⟨rfl, rfl⟩, fun _ _ _ _ h => h, fun _ _ => Nat.le_refl _⟩
/-- a new row out of cells: the first k elements stand -/
theorem new_row {e : Ty} {g : Fl} {l : List e.T} {w : World} {t : TypeId} {cells : Array Value} {cap : Nat} {Te : Nat → Bs} (wf : Wf ξ w) (hcap : l.length ≤ cap) (hsz : cap * e.n ≤ cells.size) (lt : ∀ i b, Te i b → b < w.heap.size) (dj : ∀ i j, i ≠ j → Dj (Te i) (Te j))
    (hel : ∀ i (hi : i < l.length), Rel ξ w e g l[i] (seg cells.toList e.n i) (Te i)) (fz : Nat × Nat) (hfz : ∀ o, o < cells.size → ¬(fz.1 ≤ o ∧ o < fz.2)) :
    Rel ξ (w.alloc (.cells cells t fz)) (.row e) (.own g) l [.slice (some ⟨w.heap.size, 0, none⟩) l.length cap] (fun b => b = w.heap.size ∨ ∃ i, Te i b) := by
  refine .inr ⟨⟨w.heap.size, 0, none⟩, cap, cells, t, fz, Te, rfl, rfl, .inl rfl, heap_new _ _, hfz, hcap, by simpa using hsz, by rw [wf _ (Nat.le_refl _)]; exact Nat.zero_le _, fun i => ⟨fun b hb => .inr ⟨i, hb⟩, fun hb => Nat.lt_irrefl _ (lt i _ hb)⟩, dj, fun i hi => ?_⟩
  have h1 : (i + 1) * e.n ≤ cap * e.n := Nat.mul_le_mul_right _ (by omega)
  rw [Nat.add_mul, Nat.one_mul] at h1
  have hk := (hel i hi).len
  refine ⟨seg cells.toList e.n i, hk, fun j v hj => ?_, (hel i hi).keep ((Fr.alloc Em ξ w _).keep wf (lt i) (Dj.em' _))⟩
  have hjn : j < e.n := by rw [← hk]; exact (List.getElem?_eq_some_iff.1 hj).1
  rw [seg_get hjn] at hj
  rw [cell_of (heap_new _ _), Nat.zero_add]
  simpa using hj
theorem run_app_room {t te ty argT2 : TypeId} {e : Ty} {dd : TypeDesc} {A : Option Addr} {n cap k : Nat} {x : Value} {cm : List Value} (ht : P.underlying t = some (.slice te)) (hte : tok P e te) (hd : P.underlying argT2 = some dd) (hdd : dd = .string ∨ ∃ y, dd = .slice y)
    (hlen : (Builtin.lenOf x).run P w = .ok k w) (hfirst : (Builtin.firstCells e.n k x).run P w = .ok cm.toArray w) (hroom : n + k ≤ cap) :
    (Builtin.append_ #[t, argT2] ty #[.slice A n cap, x]).run P w = match A with
      | none => .ok (.slice none (n + k) cap) w
      | some a => ((storeCells (a.add (n * e.n)) cm).run P w).andThen fun _ w => .ok (.slice (some a) (n + k) cap) w := by
  obtain ⟨i, z, hi, hisz, _, hiz, _, _⟩ := hte.info
  rw [← hisz] at hfirst ⊢
  rcases hdd with rfl | ⟨y, rfl⟩
  all_goals
    cases A with
    | none => simp [Builtin.append_, run_underlying ht, run_underlying hd, sizeOf, typeInfo, hi, hlen, hroom, hfirst]
    | some a => simp [Builtin.append_, run_underlying ht, run_underlying hd, sizeOf, typeInfo, hi, hlen, hroom, hfirst]
theorem run_app_grow {t te ty argT2 : TypeId} {e : Ty} {dd : TypeDesc} {A : Option Addr} {n cap k : Nat} {x : Value} {cl cm : List Value} (ht : P.underlying t = some (.slice te)) (hte : tok P e te) (hd : P.underlying argT2 = some dd) (hdd : dd = .string ∨ ∃ y, dd = .slice y)
    (hlen : (Builtin.lenOf x).run P w = .ok k w) (hold : (Builtin.firstCells e.n n (.slice A n cap)).run P w.drew = .ok cl.toArray w.drew) (hfirst : (Builtin.firstCells e.n k x).run P w.drew = .ok cm.toArray w.drew) (hg : cap < n + k) (hb : (n + k) * e.by ≤ rowMax) :
    ∃ c2 : Nat, ∃ rest : Array Value, n + k ≤ c2 ∧ rest.size = (c2 - (n + k)) * e.n ∧ (Builtin.append_ #[t, argT2] ty #[.slice A n cap, x]).run P w = .ok (.slice (some ⟨w.heap.size, 0, none⟩) (n + k) c2) (w.drew.alloc (.cells (cl ++ (cm ++ rest.toList)).toArray te)) := by
  obtain ⟨i, z, hi, hisz, ⟨hi0, hiby⟩, hiz, hz1, hz2⟩ := hte.info
  have hzs : z.cells.size = e.n := by
    have := (Rel.zero (ξ := fun _ => 0) (w := default) hz1).len
    simpa using this
  have hby : (n + k) * i.bytes ≤ 140737488355328 := Nat.le_trans (Nat.mul_le_mul_left _ hiby) hb
  have hfit := growslice_fits hg hby
  have hn : ¬ (n + k ≤ cap) := by omega
  have h48' : ¬ (281474976710656 < Builtin.nextslicecap (n + k) cap * i.bytes) := by omega
  have h63 : ¬ ((9223372036854775807 : Int) < ((n : Int) + (k : Int)) ∧ i.bytes = 0) := by omega
  refine ⟨grownCap w (n + k) cap te, Builtin.zeroCells z.cells (grownCap w (n + k) cap te - (n + k)), ?_, ?_, ?_⟩
  · unfold grownCap; simp [Question.cut]
  · rw [size_zeroCells, hzs]
  · rw [← hisz] at hfirst hold
    rcases hdd with rfl | ⟨y, rfl⟩
    all_goals
      simp [Builtin.append_, run_underlying ht, run_underlying hd, sizeOf, typeInfo, zeroValue, hi, hiz, hlen, hn, h63, h48', Question.forced, hfirst, hold, newRow, grownCap]
      congr 2
      apply Array.ext'
      simp
theorem Wf.of_size {ξ : Im} {w w' : World} (h : Wf ξ w) (hs : w.heap.size ≤ w'.heap.size) : Wf ξ w' := fun b hb => h b (Nat.le_trans hs hb)
theorem append_core {t te ty argT2 : TypeId} {e : Ty} {g : Fl} {l m : List e.T} {s x : Value} {Tb T2 : Bs} {Te2 : Nat → Bs} {cm : List Value} {dd : TypeDesc} (ht : P.underlying t = some (.slice te)) (hte : tok P e te) (hd : P.underlying argT2 = some dd) (hdd : dd = .string ∨ ∃ y, dd = .slice y)
    (wf : Wf ξ w) (ltb : ∀ b, Tb b → b < w.heap.size) (lt2 : ∀ b, T2 b → b < w.heap.size) (hl : Rel ξ w (.row e) (.own g) l [s] Tb) (hgo : g.ok e = true)
    (hlen : (Builtin.lenOf x).run P w = .ok m.length w) (hcm : cm.length = m.length * e.n) (hfirst : ∀ w', w'.heap = w.heap → (Builtin.firstCells e.n m.length x).run P w' = .ok cm.toArray w') (h1 : ∀ v ∈ cm, v.oneCell' = true)
    (hel : ∀ i (hi : i < m.length), Rel ξ w e g m[i] (seg cm e.n i) (Te2 i)) (s2 : ∀ i, Sb (Te2 i) T2) (d2 : ∀ i j, i ≠ j → Dj (Te2 i) (Te2 j)) (dj : Dj Tb T2) (hb : (l.length + m.length) * e.by ≤ rowMax) :
    ∃ v w', ∃ T' : Bs, (Builtin.append_ #[t, argT2] ty #[s, x]).run P w = .ok v w' ∧ Fr Tb ξ w ξ w' ∧ Wf ξ w' ∧ Rel ξ w' (.row e) (.own g) (l ++ m) [v] T' ∧ ∀ b, T' b → (Tb b ∨ T2 b ∨ w.heap.size ≤ b) ∧ b < w'.heap.size := by
  obtain ⟨A, cap, cl, hs, hcl, hclc, hlel⟩ := hl.all (by simpa [Fl.ok] using hgo)
  simp only [List.cons.injEq, and_true] at hs
  subst hs
  by_cases hroom : l.length + m.length ≤ cap
  · have hrun := run_app_room (ty := ty) (A := A) (n := l.length) (cap := cap) ht hte hd hdd hlen (hfirst w rfl) hroom
    rcases hl with ⟨hl0, hl1⟩ | ⟨a, cap', c, t', fz, Te, hl1, h2, h3, h4, h5, h6, h7, h8, h9, h10, h11⟩
    · subst hl0
      simp only [List.cons.injEq, Value.slice.injEq, and_true] at hl1
      obtain ⟨rfl, _, rfl⟩ := hl1
      have hm0 : m = [] := by simpa using hroom
      subst hm0
      exact ⟨_, w, Em, hrun, Fr.refl _ _ _, wf, .inl ⟨rfl, by simp⟩, fun b hb => hb.elim⟩
    · simp only [List.cons.injEq, Value.slice.injEq, and_true] at hl1
      obtain ⟨rfl, _, rfl⟩ := hl1
      have hadd : a.add (l.length * e.n) = ⟨a.block, a.off + l.length * e.n, none⟩ := by
        obtain ⟨b, o, s⟩ := a
        simp only at h2
        subst h2
        unfold Addr.add; split <;> simp_all
      have hmul : (l.length + m.length) * e.n ≤ cap * e.n := Nat.mul_le_mul_right _ hroom
      rw [Nat.add_mul] at hmul
      obtain ⟨w', k1, k2⟩ := run_storeCells (P := P) (b := a.block) (o := a.off + l.length * e.n) cm 0 h4 h5 (by omega) h1
      simp only [Nat.add_zero] at k2
      simp only [hadd, k1, Result.andThen] at hrun
      have hx : ξ a.block ≤ a.off + l.length * e.n := by omega
      have F := k2.fr hx
      obtain ⟨c2, q1, q2, q3, q4⟩ := k2.at_ _ _ _ h4
      have hnT2 : ¬ T2 a.block := fun hx => dj _ h3 hx
      refine ⟨_, w', Un Tb T2, hrun, ⟨F.os, F.tape, F.output, F.size, fun b hb hn => F.blk b hb fun e => hn (e ▸ h3), F.imm, F.up⟩, wf.of_size (Nat.le_of_eq k2.size.symm), ?_, fun b hb => ⟨hb.elim .inl fun x => .inr (.inl x), by rw [k2.size]; exact hb.elim (ltb b) (lt2 b)⟩⟩
      refine .inr ⟨a, cap, c2, t', fz, fun i => if i < l.length then Te i else Te2 (i - l.length), ?_, h2, .inl h3, q1, by rw [q2]; exact h5, by simpa using hroom, by rw [q2]; exact h7, h8, ?_, ?_, ?_⟩
      · simp
      · intro i
        by_cases hi : i < l.length
        · simp only [hi, if_true]; exact ⟨(h9 i).1.trans (Sb.l _ _), (h9 i).2⟩
        · simp only [hi, if_false]; exact ⟨(s2 _).trans (Sb.r _ _), fun hx => hnT2 (s2 _ _ hx)⟩
      · intro i j hij
        by_cases hi : i < l.length
        · by_cases hj : j < l.length
          · simp only [hi, hj, if_true]; exact h10 i j hij
          · simp only [hi, hj, if_true, if_false]; exact dj.sub (h9 i).1 (s2 _)
        · by_cases hj : j < l.length
          · simp only [hi, hj, if_true, if_false]; exact Dj.symm (dj.sub (h9 j).1 (s2 _))
          · simp only [hi, hj, if_false]; exact d2 _ _ (by omega)
      · intro i hi
        simp only [List.length_append] at hi
        by_cases hil : i < l.length
        · obtain ⟨c', r1, r2, r3⟩ := h11 i hil
          have hle : (i + 1) * e.n ≤ l.length * e.n := Nat.mul_le_mul_right _ hil
          rw [Nat.add_mul, Nat.one_mul] at hle
          refine ⟨c', r1, k2.cat_oth r2 (.inr (.inl (by omega))), ?_⟩
          simp only [hil, if_true, List.getElem_append_left hil]
          exact r3.keep (k2.keep (fun hx => (h9 i).2 hx) hx)
        · have hj : i - l.length < m.length := by omega
          have hr := hel (i - l.length) hj
          have hcat := k2.cat h4
          refine ⟨seg cm e.n (i - l.length), seg_len hcm hj, fun j v hv => ?_, ?_⟩
          · have hjn : j < e.n := by
              have := (List.getElem?_eq_some_iff.1 hv).1
              rwa [seg_len hcm hj] at this
            rw [seg_get hjn] at hv
            have := hcat _ v hv
            rw [show a.off + l.length * e.n + ((i - l.length) * e.n + j) = a.off + i * e.n + j by rw [show i = (i - l.length) + l.length by omega, Nat.add_mul]; simp; omega] at this
            exact this
          · simp only [hil, if_false, List.getElem_append_right (Nat.le_of_not_lt hil)]
            exact hr.keep (k2.keep (fun hx => hnT2 (s2 _ _ hx)) hx)
  · have hold : (Builtin.firstCells e.n l.length (.slice A l.length cap)).run P w.drew = .ok cl.toArray w.drew := run_first (w := w.drew) hcl hclc
    obtain ⟨c2, rest, r1, r2, r3⟩ := run_app_grow (ty := ty) (argT2 := argT2) ht hte hd hdd hlen hold (hfirst w.drew rfl) (by omega) hb
    have tkl : ∃ Te : Nat → Bs, (∀ i, Sb (Te i) Tb) ∧ (∀ i j, i ≠ j → Dj (Te i) (Te j)) ∧ ∀ i (hi : i < l.length), Rel ξ w e g l[i] (seg cl e.n i) (Te i) := by
      rcases hl with ⟨hl0, _⟩ | ⟨a, cap', c, t', fz, Te, hl1, h2, h3, h4, h5, h6, h7, h8, h9, h10, h11⟩
      · subst hl0; exact ⟨fun _ => Em, fun _ => Sb.em _, fun _ _ _ => Dj.em _, fun i hi => by simp at hi⟩
      · simp only [List.cons.injEq, Value.slice.injEq, and_true] at hl1
        obtain ⟨rfl, _, rfl⟩ := hl1
        refine ⟨Te, fun i => (h9 i).1, h10, fun i hi => ?_⟩
        obtain ⟨c', q1, q2, q3⟩ := h11 i hi
        have hq : CAt w a.block (a.off + i * e.n) (seg cl e.n i) := by
          intro j v hv
          have hjn : j < e.n := by
            have := (List.getElem?_eq_some_iff.1 hv).1
            rwa [seg_len hcl hi] at this
          rw [seg_get hjn] at hv
          obtain ⟨a', e1, _, e2⟩ := hclc _ v hv
          cases e1
          rwa [Nat.add_assoc]
        rw [← q2.eq hq (by rw [q1, seg_len hcl hi])]
        exact q3
    obtain ⟨Te, hTe, hTd, hTr⟩ := tkl
    let Te3 : Nat → Bs := fun i => if i < l.length then Te i else Te2 (i - l.length)
    have hTe3 : ∀ i b, Te3 i b → Tb b ∨ T2 b := by
      intro i b hb
      by_cases hi : i < l.length
      · simp only [Te3, hi, if_true] at hb; exact .inl (hTe i b hb)
      · simp only [Te3, hi, if_false] at hb; exact .inr (s2 _ b hb)
    have lt3 : ∀ i b, Te3 i b → b < w.heap.size := fun i b hb => (hTe3 i b hb).elim (ltb b) (lt2 b)
    have hsz : (cl ++ (cm ++ rest.toList)).length = c2 * e.n := by
      simp only [List.length_append, hcl, hcm, Array.length_toList, r2]
      rw [← Nat.add_assoc, ← Nat.add_mul, ← Nat.add_mul]
      congr 1
      omega
    have hrow := new_row (ξ := ξ) (w := w.drew) (t := te) (cells := (cl ++ (cm ++ rest.toList)).toArray) (cap := c2) (l := l ++ m) (g := g) (Te := Te3) wf (by simpa using r1) (by simp only [List.size_toArray, hsz]; exact Nat.le_refl _) lt3 (by
      intro i j hij
      by_cases hi : i < l.length
      · by_cases hj : j < l.length
        · simp only [Te3, hi, hj, if_true]; exact hTd i j hij
        · simp only [Te3, hi, hj, if_true, if_false]; exact dj.sub (hTe i) (s2 _)
      · by_cases hj : j < l.length
        · simp only [Te3, hi, hj, if_true, if_false]; exact Dj.symm (dj.sub (hTe j) (s2 _))
        · simp only [Te3, hi, hj, if_false]; exact d2 _ _ (by omega)) (by
      intro i hi
      simp only [List.length_append] at hi
      by_cases hil : i < l.length
      · simp only [Te3, hil, if_true, List.getElem_append_left hil]
        rw [seg_app1 hcl hil]
        exact (hTr i hil).keep ((Fr.drew Em ξ w).keep wf (fun b hb => ltb b (hTe i b hb)) (Dj.em' _))
      · have hj : i - l.length < m.length := by omega
        simp only [Te3, hil, if_false, List.getElem_append_right (Nat.le_of_not_lt hil)]
        rw [seg_app2 hcl hcm (by omega) (by omega)]
        exact (hel _ hj).keep ((Fr.drew Em ξ w).keep wf (fun b hb => lt2 b (s2 _ b hb)) (Dj.em' _))) (0, 0) (by intro o _; simp)
    rw [List.length_append] at hrow
    refine ⟨_, _, _, r3, ?_, ?_, hrow, ?_⟩
    · have F := (Fr.drew Tb ξ w).trans (Fr.alloc Em ξ w.drew (.cells (cl ++ (cm ++ rest.toList)).toArray te)) (fun b hb => hb.elim)
      exact F
    · exact Wf.alloc (w := w.drew) wf _
    · intro b hb
      rw [size_alloc]
      rcases hb with hb | ⟨i, hb⟩
      · subst hb; exact ⟨.inr (.inr (Nat.le_refl _)), Nat.lt_succ_self _⟩
      · exact ⟨(hTe3 i b hb).imp id .inl, Nat.lt_succ_of_lt (lt3 i b hb)⟩
end
end Go.Proofs.Ytabindnaedchgaa.Rf
