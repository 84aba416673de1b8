/- Operations: conversions, structs and rows that are made. Nothing of any program. -/
import Derived.Test.YtabindnaedchgaaRf14
namespace Go.Proofs.Ytabindnaedchgaa.Rf
open Go Go.RowKit
set_option linter.unusedVariables false
set_option linter.unusedSimpArgs false

section
variable {P : Program} {E : TyOf} {T0 : Bs} {ξ0 : Im} {w0 : World} {tk : Nat → Bs} {Tf : Bs} {ξ : Im} {w : World} {σ : St} {tm : Array Value}
theorem add_at {a : Addr} (h : a.spot = none) (n : Nat) : a.add n = ⟨a.block, a.off + n, none⟩ := by
  obtain ⟨b, o, s⟩ := a
  simp only at h
  subst h
  unfold Addr.add; split <;> simp_all
theorem alloc_freeze (w : World) (c : Array Value) (t : TypeId) (n : Nat) : (w.alloc (.cells c t)).freeze ⟨w.heap.size, n, none⟩ 1 = w.alloc (.cells c t (n, n + 1)) := by
  unfold World.freeze World.alloc
  simp only [Nat.one_ne_zero, if_false]
  congr 1
  apply Array.ext
  · simp
  · intro i h1 h2
    rw [Array.getElem_modify]
    simp only [Array.getElem_push]
    by_cases hi : w.heap.size = i
    · subst hi; simp
    · rw [if_neg hi]
      have : i < w.heap.size := by simp at h2; omega
      simp [this]
theorem seg_n1 {cm : List Value} {i : Nat} {v : Value} (h : cm[i]? = some v) : seg cm 1 i = [v] := by
  apply List.ext_getElem?
  intro j
  by_cases hj : j < 1
  · have : j = 0 := by omega
    subst this
    rw [seg_get (n := 1) (by omega)]
    simpa using h
  · rw [List.getElem?_eq_none (by simp only [seg, List.length_take]; omega), List.getElem?_eq_none (by simp; omega)]
theorem SA.row_end {o : Oper} {e : Ty} {g : Fl} {l : List e.T} {w1 : World} {t : TypeId} {cells : Array Value} {cap : Nat} {T : Bs} {Te : Nat → Bs} {fz : Nat × Nat} (h : SA T0 ξ0 w0 tk T ξ w σ tm) (hw : w1.heap = w.heap) (hos : w1.os = w.os) (htp : w1.tape = w.tape) (hout : w1.output = w.output)
    (hcap : l.length ≤ cap) (hsz : cap * e.n ≤ cells.size) (sub : ∀ i, Sb (Te i) T) (dj : ∀ i j, i ≠ j → Dj (Te i) (Te j)) (hel : ∀ i (hi : i < l.length), Rel ξ w e g l[i] (seg cells.toList e.n i) (Te i)) (hfz : ∀ o, o < cells.size → ¬(fz.1 ≤ o ∧ o < fz.2))
    (hr : (execOp (ev tm) o).run P w = .ok (.value (.slice (some ⟨w.heap.size, 0, none⟩) l.length cap)) (w1.alloc (.cells cells t fz))) :
    Gd P T0 ξ0 w0 σ tm (execOp (ev tm) o) (.d (.row e) l (.own g)) w := by
  have hs : w1.heap.size = w.heap.size := by rw [hw]
  have F1 : Fr Em ξ w ξ w1 := ⟨hos, htp, hout, Nat.le_of_eq hs.symm, fun _ _ _ => ⟨by rw [hw], rfl⟩, fun b o v _ hv => (cell_eq (by rw [hw]) _).trans hv, fun _ _ => Nat.le_refl _⟩
  have wf1 : Wf ξ w1 := fun b hb => h.wf b (by rw [← hs]; exact hb)
  have F := F1.trans (Fr.alloc Em ξ w1 (.cells cells t fz)) (fun b hb => hb.elim)
  have k := new_row (t := t) (g := g) wf1 hcap hsz (fun i b hb => by rw [hs]; exact (h.mayf b (sub i b hb)).2) dj (fun i hi => (hel i hi).keep (F1.keep h.wf (fun b hb => (h.mayf b (sub i b hb)).2) (Dj.em' _))) fz hfz
  rw [hs] at k
  refine ⟨_, _, ξ, tk, _, .inl hr, h.step F (Sb.em _) (wf1.alloc _) (fun b hb => ?_), ⟨_, rfl, k⟩, trivial⟩
  rw [size_alloc, hs]
  rcases hb with hb | ⟨i, hb⟩
  · subst hb; exact ⟨.inr (Nat.le_refl _), Nat.lt_succ_self _⟩
  · exact ⟨.inl (sub i b hb), Nat.lt_succ_of_lt (h.mayf b (sub i b hb)).2⟩
theorem op_convert {t' t : TypeId} {x : Operand} {o : Oper} {τ : Ty} {s s' : Sv} {f : Fl} (he : EOk P E) (h : SA T0 ξ0 w0 tk Em ξ w σ tm) (hop : o.op = .convert t' t x) (hE : E.of t = some τ) (hx : rdv σ x = some s) (hE' : E.of t' = some s.1) (hc : conv τ s = some (s', f)) :
    Gd P T0 ξ0 w0 σ tm (execOp (ev tm) o) (.d s'.1 s'.2 f) w := by
  have rx := rdv_ok h hx
  have td := he _ _ hE
  have ts := he _ _ hE'
  obtain ⟨τs, s⟩ := s
  cases τs with
  | int k0 =>
    have e1 := rx.int
    cases τ with
    | int k =>
      simp only [conv, Option.some.injEq, Prod.mk.injEq] at hc
      obtain ⟨rfl, rfl⟩ := hc
      refine Gd.pure h (v := .int k (k.wrap s)) ?_ (own_leaf rfl ⟨rfl, fun _ => rfl⟩) trivial
      simp only [execOp, hop, e1, convert, Sem.run_bind, run_underlying ts.int, run_underlying td.int, Result.andThen, Conv.intToInt, Sem.run_pure]
    | _ => simp [conv] at hc
  | str =>
    have e1 := rx.str
    cases τ with
    | str =>
      simp only [conv, Option.some.injEq, Prod.mk.injEq] at hc
      obtain ⟨rfl, rfl⟩ := hc
      refine Gd.pure h (v := .string s) ?_ (own_leaf rfl ⟨rfl, fun _ => rfl⟩) trivial
      simp only [execOp, hop, e1, convert, Sem.run_bind, run_underlying ts.str, run_underlying td.str, Result.andThen, Sem.run_pure]
    | row e =>
      have he8 : e = .int .u8 := by
        cases e with
        | int k => cases k <;> simp [conv] at hc ⊢
        | _ => simp [conv] at hc
      subst he8
      simp only [conv, Option.some.injEq, Prod.mk.injEq] at hc
      obtain ⟨rfl, rfl⟩ := hc
      obtain ⟨te, u1, u2⟩ := td.row
      have hbs : (bytesOf s).length = s.size := by simp only [bytesOf, List.length_map, Array.length_toList]; rfl
      obtain ⟨cap, hcapd⟩ : ∃ c, c = (Question.appendCap s.size 0 te).cut (w.tape w.drawn (.appendCap s.size 0 te)) := ⟨_, rfl⟩
      have hcap : s.size ≤ cap := by simp [hcapd, Question.cut]
      obtain ⟨cells, hcells⟩ : ∃ c : Array Value, c = (s.data.map fun b => (Value.int .u8 (b.toNat : Int))) ++ Array.replicate (cap - s.size) (.int .u8 0) := ⟨_, rfl⟩
      have hsz : cells.size = cap := by
        have : s.data.size = s.size := rfl
        simp only [hcells, Array.size_append, Array.size_map, Array.size_replicate, this]; omega
      change Gd P T0 ξ0 w0 σ tm (execOp (ev tm) o) (.d (.row (.int .u8)) (bytesOf s) (.own .ro)) w
      refine SA.row_end (e := .int .u8) (l := bytesOf s) (w1 := w.drew) (cap := cap) (cells := cells) (Te := fun _ => Em) (fz := (cells.size, cells.size + 1)) (t := te) h rfl rfl rfl rfl (by change (bytesOf s).length ≤ cap; rw [hbs]; exact hcap) (by rw [hsz]; simp [Ty.n]) (fun _ => Sb.em _) (fun _ _ _ => Dj.em _) ?_ ?_ ?_
      · intro i hi
        have hi' : i < s.data.toList.length := by simpa [bytesOf] using hi
        have hc : cells.toList[i]? = some (.int .u8 ((bytesOf s)[i]'hi)) := by
          simp only [hcells, Array.toList_append, Array.toList_map]
          rw [List.getElem?_append_left (by simpa using hi'), List.getElem?_map, List.getElem?_eq_getElem hi']
          simp [bytesOf]
        have := seg_n1 hc
        rw [show (Ty.int IntKind.u8).n = 1 from rfl, this]
        exact ⟨rfl, fun _ => rfl⟩
      · intro o ho; simp only; omega
      · have hf : (Question.appendCap s.size 0 te).forced = false := rfl
        have e8 : P.underlying te = some (.int .u8) := u2.int
        have hsh : (w.drew.alloc (.cells cells te)).shape? w.heap.size = some (te, cells.size) := by
          simp only [World.shape?]
          rw [show (w.drew.alloc (.cells cells te)).heap[w.heap.size]? = some (.cells cells te) from heap_new w.drew _]
        have ha := alloc_freeze w.drew cells te cells.size
        have hs : w.drew.heap.size = w.heap.size := rfl
        rw [hs] at ha
        simp only [execOp, hop, e1, convert, Sem.run_bind, run_underlying ts.str, run_underlying u1, Result.andThen, run_underlying e8, Conv.stringToBytes, run_choose, hf, Bool.false_eq_true, if_false, newRow, run_newObj, Sem.run_pure, markStringish, run_shape]
        have hw : ∀ o, ({ heap := w.heap.push o, tape := w.tape, drawn := w.drawn + 1, os := w.os, output := w.output } : World) = w.drew.alloc o := fun _ => rfl
        rw [← hcapd, ← hcells]
        simp only [hw, hsh, run_freeze, ha]
        rw [hbs]
    | _ => simp [conv] at hc
  | row e =>
    have he8 : e = .int .u8 := by
      cases e with
      | int k => cases k <;> simp [conv] at hc ⊢
      | _ => simp [conv] at hc
    subst he8
    cases τ with
    | str =>
      simp only [conv, Option.some.injEq, Prod.mk.injEq] at hc
      obtain ⟨rfl, rfl⟩ := hc
      obtain ⟨te, u1, u2⟩ := ts.row
      obtain ⟨cs, f', T', t2, r1, r2, r3, r4⟩ := rx
      obtain ⟨A, cap, cm, q1, q2, q3, q4⟩ := r4.all r3
      have hv : ev tm x = .slice A (List.length s) cap := by rw [r1, q1]; rfl
      have hcm : cm = s.map (Value.int .u8) := by
        apply List.ext_getElem?
        intro j
        by_cases hj : j < s.length
        · obtain ⟨g', T3, z1, _, z2, _⟩ := q4 j hj
          have hz := z2.2 (by simpa [Fl.ok] using z1)
          have := seg_get (cm := cm) (n := 1) (i := j) (j := 0) (by omega)
          rw [show seg cm 1 j = [.int .u8 s[j]] from hz] at this
          simp only [Nat.mul_one, Nat.add_zero, List.getElem?_cons_zero] at this
          rw [← this]
          simp [hj]
        · rw [List.getElem?_eq_none (by rw [q2]; simp [Ty.n]; omega), List.getElem?_eq_none (by simp; omega)]
      have hstr : strOf s = s.foldl (fun r n => r.push (UInt8.ofNat n.toNat)) ByteArray.empty := by
        have : ∀ (l : List Int) (b : ByteArray), l.foldl (fun r n => r.push (UInt8.ofNat n.toNat)) b = ⟨b.data ++ (l.map fun n => UInt8.ofNat n.toNat).toArray⟩ := by
          intro l
          induction l with
          | nil => intro b; simp
          | cons n l ih => intro b; rw [List.foldl_cons, ih]; simp [ByteArray.push]
        rw [this]
        simp [strOf]
      refine Gd.pure h (v := .string (strOf s)) ?_ (own_leaf rfl ⟨rfl, fun _ => rfl⟩) trivial
      simp only [execOp, hop, hv, convert, Sem.run_bind, run_underlying u1, run_underlying td.str, Result.andThen]
      cases A with
      | none =>
        have hs : s = [] := by
          cases s with
          | nil => rfl
          | cons v s => obtain ⟨a, ha, _⟩ := q3 0 (.int .u8 v) (by rw [hcm]; rfl); cases ha
        subst hs
        simp only [run_underlying u2.int, Result.andThen, Conv.bytesToString, Sem.run_pure]
        rfl
      | some a =>
        have hl := run_loadCells_list (P := P) w a cm fun j v hj => by
          obtain ⟨a', ha, hsp, hc⟩ := q3 j v hj
          cases ha
          rw [add_at hsp j]; exact hc
        have hlen : cm.length = s.length := by rw [hcm]; simp
        rw [hlen, hcm] at hl
        have := run_bytesToString (P := P) w a s.length cap s hl
        simp only [run_underlying u2.int, Result.andThen, this, hstr, Sem.run_pure]
    | _ => simp [conv] at hc
  | _ => cases τ <;> simp [conv] at hc
theorem seg_made {z : Array Value} {m n i : Nat} (hz : z.size = n) (hn : 0 < n) (hi : i < m) : seg (madeCells z (m * n)).toList n i = z.toList := by
  have hle : (i + 1) * n ≤ m * n := Nat.mul_le_mul_right _ hi
  rw [Nat.add_mul, Nat.one_mul] at hle
  apply List.ext_getElem?
  intro j
  by_cases hj : j < n
  · rw [seg_get hj]
    have h1 : i * n + j < m * n := by omega
    have h2 : (i * n + j) % z.size = j := by rw [hz, Nat.mul_comm i n, Nat.mul_add_mod, Nat.mod_eq_of_lt hj]
    simp only [madeCells, Array.toList_map, List.getElem?_map]
    rw [Array.getElem?_toList, Array.getElem?_eq_getElem (by simpa using h1)]
    simp only [Array.getElem_range, Option.map_some, h2]
    rw [Array.getElem?_toList, Array.getElem?_eq_getElem (by omega)]
    simp [show j < z.size by omega]
  · rw [List.getElem?_eq_none (by simp only [seg, List.length_take]; omega), List.getElem?_eq_none (by simp; omega)]
theorem op_makeSlice {t : TypeId} {l c : Operand} {o : Oper} {e : Ty} {n m : Int} (he : tok P (.row e) t) (h : SA T0 ξ0 w0 tk Em ξ w σ tm) (hop : o.op = .makeSlice t l c) (hl : asI (rdv σ l) = some n) (hc : asI (rdv σ c) = some m)
    (h0 : 0 ≤ n) (h1 : n ≤ m) (h2 : m * e.by ≤ (rowMax : Int)) : Gd P T0 ξ0 w0 σ tm (execOp (ev tm) o) (.d (.row e) (List.replicate n.toNat e.z) (.own e.full)) w := by
  obtain ⟨te, u1, u2⟩ := he.row
  obtain ⟨i, z, hi, hisz, ⟨hb0, hiby⟩, hiz, hz1, hz2⟩ := u2.info
  obtain ⟨kl, e1⟩ := asI_ok h hl
  obtain ⟨kc, e2⟩ := asI_ok h hc
  have hzs : z.cells.size = e.n := by
    have := (Rel.zero (ξ := fun _ => 0) (w := default) hz1).len
    simpa using this
  have hbm : (i.bytes : Int) * m ≤ 140737488355328 := by
    have : (i.bytes : Int) * m ≤ (e.by : Int) * m := Int.mul_le_mul_of_nonneg_right (by exact_mod_cast hiby) (by omega)
    rw [Int.mul_comm (e.by : Int)] at this
    have h2' : m * (e.by : Int) ≤ 140737488355328 := h2
    omega
  have hm63 : m ≤ 140737488355328 := by
    have : 1 * m ≤ (i.bytes : Int) * m := Int.mul_le_mul_of_nonneg_right (by omega) (by omega)
    omega
  have hr := run_make (P := P) w t te i z u1 hi hiz kl kc n m h0 h1 (by omega) (by omega)
  have hlen : (List.replicate n.toNat e.z).length = n.toNat := by simp
  refine SA.row_end (w1 := w) (cap := m.toNat) (cells := madeCells z.cells (m.toNat * i.size)) (Te := fun _ => Em) (fz := (0, 0)) (t := te) h rfl rfl rfl rfl (by rw [hlen]; omega) (by rw [size_madeCells, hisz]; exact Nat.le_refl _) (fun _ => Sb.em _) (fun _ _ _ => Dj.em _) ?_ (fun o _ => by simp) ?_
  · intro j hj
    rw [hlen] at hj
    rw [hisz, seg_made hzs e.n_pos (by omega), List.getElem_replicate]
    exact Rel.zero hz1
  · rw [hlen]
    simp only [execOp, hop, e1, e2, Sem.run_bind, hr, Result.andThen, Sem.run_pure]
end
end Go.Proofs.Ytabindnaedchgaa.Rf
