import Derived.Test.YtjfkeknnjjlepaaGreatDoorK2
import Derived.Orders
import Derived.Deep.LoopGhost
import Derived.ChangeArms
import Derived.DataReads
import Derived.WideShapes
import Derived.ChangeShapes
import Derived.ChangeMaps5
import Derived.RowKit
import Derived.Test.YtjfkeknnjjlepaaGreatDoorProg
import Derived.Lib.LaidTab
import Derived.Lib.AppendIntMem
import Derived.Deep.Draws
import Derived.Sort.Grow
import Derived.Lib.AtoiAll

section
/- What an operation looks at, and what it turns: regions that draw their order. Nothing of any program. -/
namespace Go.Proofs.YtjfkeknnjjlepaaGreatDoor.Rf
open Go Go.RowKit
set_option linter.unusedVariables false
set_option linter.unusedSimpArgs false
section
variable {α β ρ : Type} {E : q4v} {C : CEs} {σ σ2 : St} {S : List Tmp} {os : List Operand}
def Agr (S : List Tmp) (σ σ2 : St) : Prop := ∀ t ∈ S, σ2.slot t = σ.slot t
def Q2 (S : List Tmp) (σ : St) (f : St → Option (α × St)) : Prop := ∃ f0 : Option α, ∀ σ2, Agr S σ σ2 → f σ2 = f0.map fun a => (a, σ2)
def Q3 (S : List Tmp) (σ : St) (f : St → Option (α × β × St)) : Prop := ∃ f0 : Option (α × β), ∀ σ2, Agr S σ σ2 → f σ2 = f0.map fun a => (a.1, a.2, σ2)
theorem Agr.rfl' : Agr S σ σ := fun _ _ => rfl
theorem Q3.fail {f : St → Option (α × β × St)} (h : ∀ σ2, Agr S σ σ2 → f σ2 = none) : Q3 S σ f := ⟨Option.none, h⟩
theorem Q3.of {f : St → Option (α × β × St)} (h : ∀ σ2, Agr S σ σ2 → f σ2 = (f σ).map fun a => (a.1, a.2.1, σ2)) : Q3 S σ f := ⟨(f σ).map fun a => (a.1, a.2.1), fun σ2 hA => by rw [h σ2 hA]; cases f σ <;> rfl⟩
def Cl (S : List Tmp) (σ : St) (os : List Operand) : Prop := ∀ u, Operand.tmp u ∈ os → ∀ t ∈ hold σ u, t ∈ S
theorem q59 (σ : St) (u : Tmp) : u ∈ hold σ u := by
  unfold hold
  split <;> simp
theorem q8s {u : Tmp} (h : σ2.slot u = σ.slot u) : hold σ2 u = hold σ u := by
  unfold hold
  rw [show σ2.av u = σ.av u by simp only [St.av, h]]
theorem Agr.av (h : Agr S σ σ2) {t : Tmp} (ht : t ∈ S) : σ2.av t = σ.av t := by simp only [St.av, h t ht]
theorem Agr.valid (h : Agr S σ σ2) {t : Tmp} (ht : t ∈ S) (g v : Nat) : σ2.valid t g v = σ.valid t g v := by simp only [St.valid, h t ht]
theorem Agr.refOk (h : Agr S σ σ2) {t : Tmp} (ht : t ∈ S) (p : Path) (g v : Nat) : Rf.refOk σ2 t p g v = Rf.refOk σ t p g v := by simp only [Rf.refOk, h t ht]
theorem Cl.self (h : Cl S σ os) {u : Tmp} (hu : Operand.tmp u ∈ os) : u ∈ S := h u hu u (q59 σ u)
theorem Cl.vw (h : Cl S σ os) {u : Tmp} (hu : Operand.tmp u ∈ os) {τ : Ty} {x : τ.T} {h0 : Tmp} {p : Option Path} {g v : Nat} (e : σ.av u = .vw τ x h0 p g v) : h0 ∈ S := h u hu h0 (by simp [hold, e])
theorem Cl.ref (h : Cl S σ os) {u : Tmp} (hu : Operand.tmp u ∈ os) {h0 : Tmp} {p : Path} {g v : Nat} (e : σ.av u = .ref h0 p g v) : h0 ∈ S := h u hu h0 (by simp [hold, e])
theorem Cl.rp (h : Cl S σ os) {u : Tmp} (hu : Operand.tmp u ∈ os) {τ : Ty} {x : τ.T} {h0 : Tmp} {g v : Nat} (e : σ.av u = .rp τ x (some (h0, g, v))) : h0 ∈ S := h u hu h0 (by simp [hold, e])
theorem Cl.ap (h : Cl S σ os) {u : Tmp} (hu : Operand.tmp u ∈ os) {h0 : Tmp} {i g v : Nat} (e : σ.av u = .ap h0 i g v) : h0 ∈ S := h u hu h0 (by simp [hold, e])
theorem q49 {o : Operand} (h : Agr S σ σ2) (c : Cl S σ os) (ho : o ∈ os) : rdv σ2 o = rdv σ o := by
  cases o with
  | tmp u =>
    simp only [rdv, h.av (c.self ho)]
    cases ha : σ.av u with
    | vw τ x h0 p g v => simp only [h.valid (c.vw ho ha)]
    | _ => rfl
  | const v => cases v <;> rfl
  | _ => rfl
theorem qdz {o : Operand} {t : TypeId} (h : Agr S σ σ2) (c : Cl S σ os) (ho : o ∈ os) : rdT E σ2 t o = rdT E σ t o := by
  unfold rdT
  split
  · rfl
  · exact q49 h c ho
theorem qb2 {o : Operand} {t : TypeId} (h : Agr S σ σ2) (c : Cl S σ os) (ho : o ∈ os) : copy E σ2 t o = copy E σ t o := by
  cases o with
  | tmp u => simp only [copy, h u (c.self ho)]
  | const v =>
    have e := q49 h c ho
    unfold copy
    split
    · rename_i hh; cases hh
    · rfl
    · rfl
    · simp only [e]
  | _ => rfl
theorem ql3 {u : Tmp} (h : Agr S σ σ2) (c : Cl S σ os) (ho : Operand.tmp u ∈ os) : deref σ2 u = deref σ u := by
  simp only [deref, h u (c.self ho)]
  cases ha : (σ.slot u).a with
  | ref h0 p g v => simp only [h h0 (c.ref ho ha)]
  | rp τ x q =>
    cases q with
    | none => rfl
    | some q => obtain ⟨h0, g, v⟩ := q; simp only [h.valid (c.rp ho ha)]
  | ap h0 i g v => simp only [h.valid (c.ap ho ha), h.av (c.ap ho ha)]
  | _ => rfl
theorem qns {x : Operand} {m : Nat} {k : IntKind} {i : Nat} (h : Agr S σ σ2) (c : Cl S σ os) (ho : x ∈ os) : qp1 E σ2 m k x i = qp1 E σ m k x i := by
  cases x with
  | tmp u =>
    simp only [qp1, h u (c.self ho)]
    cases ha : (σ.slot u).a with
    | ref h0 p g v =>
      cases p with
      | nil => simp only [h h0 (c.ref ho ha), h.av (c.ref ho ha)]
      | cons _ _ => rfl
    | box τ x f r => cases τ <;> rfl
    | _ => rfl
  | _ => rfl
theorem qe0 {k : IntKind} (h : Agr S σ σ2) : ∀ (ps : List (Nat × Operand)) (l : List Int), Cl S σ (ps.map (·.2)) → qkf σ2 k ps l = qkf σ k ps l
  | [], l, c => rfl
  | (i, o) :: ps, l, c => by
    simp only [qkf, q49 h c (List.mem_cons_self ..)]
    split
    · split
      · exact qe0 h ps _ fun u hu => c u (List.mem_cons_of_mem _ hu)
      · rfl
    · rfl
theorem qnt {u : Tmp} {s : TypeId} {i : Nat} (h : Agr S σ σ2) (c : Cl S σ os) (ho : Operand.tmp u ∈ os) : qpr E σ2 s u i = qpr E σ s u i := by
  simp only [qpr, h u (c.self ho)]
  cases ha : (σ.slot u).a with
  | ref h0 p g v => simp only [h.refOk (c.ref ho ha), h.av (c.ref ho ha)]
  | rp τ x q =>
    cases q with
    | none => rfl
    | some q => obtain ⟨h0, g, v⟩ := q; simp only [h.valid (c.rp ho ha)]
  | _ => rfl
theorem ql4 {u : Tmp} {e : Ty} {i : Nat} (h : Agr S σ σ2) (c : Cl S σ os) (ho : Operand.tmp u ∈ os) : qjh σ2 u e i = qjh σ u e i := by
  simp only [qjh, h u (c.self ho)]
  cases ha : (σ.slot u).a with
  | vw τ x h0 p g v => simp only [h.valid (c.vw ho ha), h.av (c.vw ho ha)]
  | _ => rfl
theorem ql5 {o : Operand} {s : Sv} (h : Agr S σ σ2) (c : Cl S σ os) (ho : o ∈ os) : stays σ2 s o = stays σ s o := by
  cases o with
  | tmp u => simp only [stays, h.av (c.self ho)]
  | _ => rfl
theorem ql6 {o : Operand} {t : TypeId} (c : Cl S σ os) (ho : o ∈ os) (hs : q4n σ o = true) : Q2 S σ (fun σ => take E σ t o) := by
  cases o with
  | tmp u =>
    simp only [q4n, still] at hs
    have hu := c.self ho
    cases ha : σ.av u with
    | d τ x f =>
      rw [ha] at hs
      simp only at hs
      exact ⟨some (.d τ x .ro), fun σ2 hA => by simp only [take, hA.av hu, ha, if_pos hs]; rfl⟩
    | rp τ x q =>
      cases q with
      | none => exact ⟨some (.rp τ x none), fun σ2 hA => by simp only [take, hA.av hu, ha]; rfl⟩
      | some q => rw [ha] at hs; cases hs
    | un => exact ⟨some .un, fun σ2 hA => by simp only [take, hA.av hu, ha]; rfl⟩
    | tup l => exact ⟨none, fun σ2 hA => by simp only [take, hA.av hu, ha]; rfl⟩
    | fn f => exact ⟨some (.fn f), fun σ2 hA => by simp only [take, hA.av hu, ha]; rfl⟩
    | _ => rw [ha] at hs; cases hs
  | _ => exact ⟨some (copy E σ t _), fun σ2 hA => by simp only [take]; rw [qb2 hA c ho]; rfl⟩
theorem qbq {o : Operand} {t : TypeId} (c : Cl S σ os) (ho : o ∈ os) (hs : q4n σ o = true) : Q3 S σ (fun σ => q6k E σ t o) := by
  obtain ⟨f0, h0⟩ := ql6 (E := E) (t := t) c ho hs
  refine ⟨f0.bind fun a => match a with | .d τ x f => if f.ok τ then some (⟨τ, x⟩, f) else none | _ => none, fun σ2 hA => ?_⟩
  have h1 := h0 σ2 hA
  simp only at h1
  simp only [q6k, h1]
  cases f0 with
  | none => rfl
  | some a =>
    cases a with
    | d τ x f => simp only [Option.map_some, Option.bind_some]; split <;> rfl
    | _ => rfl
theorem qhd {o : Operand} {τ : Ty} (c : Cl S σ os) (ho : o ∈ os) (hs : q4n σ o = true) : Q3 S σ (fun σ => takeN E σ τ o) := by
  by_cases hc : o = .const (.slice none 0 0)
  · subst hc
    cases τ with
    | row e => exact ⟨some (sv (.row e) [], .own e.full), fun σ2 hA => rfl⟩
    | _ => exact .fail fun σ2 hA => rfl
  · obtain ⟨f0, h0⟩ := qbq (E := E) (t := 0) c ho hs
    refine ⟨f0, fun σ2 hA => ?_⟩
    rw [← h0 σ2 hA]
    simp only
    unfold takeN
    split
    · exact (hc rfl).elim
    · rfl
theorem ql7 {τ : Ty} : ∀ (l : List (Nat × Operand)) (x : τ.T) (f : Fl), Cl S σ (l.map (·.2)) → (∀ o ∈ l.map (·.2), q4n σ o = true) → Q3 S σ (parts E τ l x f)
  | [], x, f, c, hs => ⟨some (x, f), fun σ2 hA => rfl⟩
  | (i, o) :: l, x, f, c, hs => by
    cases hp : q5s τ i with
    | none => exact .fail fun σ2 hA => by simp only [parts, hp]
    | some p =>
      cases hpe : p.isEmpty with
      | true => exact .fail fun σ2 hA => by simp only [parts, hp, hpe, if_true]
      | false =>
        cases hg : q42 τ x p with
        | none => exact .fail fun σ2 hA => by simp only [parts, hp, hpe, hg, if_false, Bool.false_eq_true]
        | some s =>
          obtain ⟨f0, h0⟩ := qhd (E := E) (τ := s.1) c (List.mem_cons_self ..) (hs o (List.mem_cons_self ..))
          cases f0 with
          | none => exact .fail fun σ2 hA => by have h1 := h0 σ2 hA; simp only [Option.map_none] at h1; simp only [parts, hp, hpe, hg, h1, if_false, Bool.false_eq_true]
          | some a =>
            obtain ⟨s', f'⟩ := a
            cases hy : q5r τ x p s' with
            | none => exact .fail fun σ2 hA => by have h1 := h0 σ2 hA; simp only [Option.map_some] at h1; simp only [parts, hp, hpe, hg, h1, hy, if_false, Bool.false_eq_true]
            | some y =>
              obtain ⟨f1, h3⟩ := ql7 l y (f.put p f') (fun u hu => c u (List.mem_cons_of_mem _ hu)) (fun o ho => hs o (List.mem_cons_of_mem _ ho))
              exact ⟨f1, fun σ2 hA => by have h1 := h0 σ2 hA; simp only [Option.map_some] at h1; rw [← h3 σ2 hA]; simp only [parts, hp, hpe, hg, h1, hy, if_false, Bool.false_eq_true]⟩
theorem qhe {e : Ty} {g : Fl} : ∀ (l : List (Nat × Operand)) (x : List e.T), Cl S σ (l.map (·.2)) → (∀ o ∈ l.map (·.2), q4n σ o = true) → Q2 S σ (elems E e g l x)
  | [], x, c, hs => ⟨some x, fun σ2 hA => rfl⟩
  | (i, o) :: l, x, c, hs => by
    obtain ⟨f0, h0⟩ := qhd (E := E) (τ := e) c (List.mem_cons_self ..) (hs o (List.mem_cons_self ..))
    cases f0 with
    | none => exact ⟨none, fun σ2 hA => by have h1 := h0 σ2 hA; simp only [Option.map_none] at h1; simp only [elems, h1]; rfl⟩
    | some a =>
      obtain ⟨s, f'⟩ := a
      cases hy : q4w e s with
      | none => exact ⟨none, fun σ2 hA => by have h1 := h0 σ2 hA; simp only [Option.map_some] at h1; simp only [elems, h1, hy]; rfl⟩
      | some y =>
        obtain ⟨f1, h3⟩ := qhe (g := g) l (x.set i y) (fun u hu => c u (List.mem_cons_of_mem _ hu)) (fun o ho => hs o (List.mem_cons_of_mem _ ho))
        refine ⟨if i < x.length then if (f' = g || (g = .ro && f'.ok e) || e.flat) = true then f1 else none else none, fun σ2 hA => ?_⟩
        have h1 := h0 σ2 hA
        simp only [Option.map_some] at h1
        simp only [elems, h1, hy, h3 σ2 hA]
        split <;> first | rfl | (split <;> rfl)
theorem q98 : ∀ (l : List (Option Sv)) (ts : List TypeId) (os : List Operand), Cl S σ os → Agr S σ σ2 → q7p E σ2 l ts os = q7p E σ l ts os
  | [], _, [], c, hA => rfl
  | [], _, o :: os, c, hA => by simp only [q7p]
  | s :: l, _, [], c, hA => by simp only [q7p]
  | s :: l, [], o :: os, c, hA => by simp only [q7p]
  | s :: l, t :: ts, o :: os, c, hA => by
    simp only [q7p, q98 l ts os (fun u hu => c u (List.mem_cons_of_mem _ hu)) hA, qdz hA c (List.mem_cons_self ..), ql5 hA c (List.mem_cons_self ..)]
theorem ql8 {d : Int} {o : Option Operand} (h : Agr S σ σ2) (c : Cl S σ os) (ho : ∀ x, o = some x → x ∈ os) : bnd σ2 d o = bnd σ d o := by
  cases o with
  | none => rfl
  | some x => simp only [bnd, q49 h c (ho x rfl)]
theorem qd3 (b : Builtin) (ts : List TypeId) (az : List Operand) (c : Cl S σ az) (hq : (b ≠ .append ∧ b ≠ .copy) ∨ ∀ x ∈ az, q4n σ x = true) : Q3 S σ (fun σ => q40 E σ b ts az) := by
  refine .of fun σ2 hA => ?_
  unfold q40
  split
  · rename_i t x
    simp only [qdz hA c (o := x) (by simp)]
    split
    · split <;> rfl
    · split <;> rfl
    · rfl
  · rename_i t t' x y
    have hq := hq.resolve_left (by simp)
    obtain ⟨f0, h0⟩ := qbq (E := E) (t := t) c (o := x) (by simp) (hq x (by simp))
    obtain ⟨f1, h1⟩ := qbq (E := E) (t := t') c (o := y) (by simp) (hq y (by simp))
    have a1 := h0 σ2 hA
    have a2 := h0 σ Agr.rfl'
    have b1 := h1 σ2 hA
    have b2 := h1 σ Agr.rfl'
    simp only at a1 a2 b1 b2
    simp only [a1, a2]
    rcases f0 with _ | ⟨⟨τ, l⟩, f⟩
    · rfl
    · cases τ with
      | row e =>
        cases f with
        | own g =>
          simp only [Option.map_some, b1, b2, qdz hA c (o := y) (t := t') (by simp)]
          split
          · rfl
          · split
            · cases rdT E σ t' y with
              | none => rfl
              | some s =>
                simp only
                split
                · rfl
                · cases qkg e s <;> rfl
            · rcases f1 with _ | ⟨s, f⟩
              · rfl
              · simp only [Option.map_some]
                split
                · rfl
                · cases q4w (.row e) s <;> rfl
        | _ => rfl
      | _ => rfl
  · rename_i t t' u y
    have hu := (hq.resolve_left (by simp)) (.tmp u) (by simp)
    rw [hA.av (c.self (u := u) (by simp))]
    simp only [q4n, still] at hu
    cases ha : σ.av u with
    | vw τ x h p g v => rw [ha] at hu; cases hu
    | _ => rfl
  · rename_i x y
    simp only [q49 hA c (o := x) (by simp), q49 hA c (o := y) (by simp)]
    split
    · split <;> rfl
    · rfl
  · rename_i x y
    simp only [q49 hA c (o := x) (by simp), q49 hA c (o := y) (by simp)]
    split
    · split <;> rfl
    · rfl
  · rfl
theorem qrm {o : Oper} (c : Cl S σ o.op.operands.toList) (hq : (q56 o.op = true ∧ qkk σ o.op = true) ∨ ∀ x ∈ o.op.operands.toList, q4n σ x = true) : Q3 S σ (fun σ => op1 E σ o) := by
  cases hop : o.op with
  | move x =>
    rw [hop] at c hq
    have hx : ∀ u l, x = .tmp u → σ.av u = .tup l → l.all AV.fixd = true := by
      rintro u l rfl ha
      rcases hq with hq | hq
      · have := hq.2
        simpa [qkk, ha] using this
      · have := hq (.tmp u) (by simp [Op.operands])
        simpa [q4n, still, ha] using this
    refine ⟨some (true, copy E σ o.type x), fun σ2 hA => ?_⟩
    have e : mv E σ2 o.type x = (copy E σ o.type x, σ2) := by
      by_cases hy : ∃ u l, x = .tmp u ∧ σ.av u = .tup l
      · obtain ⟨u, l, rfl, ha⟩ := hy
        have ha2 : σ2.av u = .tup l := by rw [hA.av (c.self (u := u) (by simp [Op.operands])), ha]
        rw [qp3 ha2, if_pos (hx u l rfl ha)]
        have : copy E σ o.type (.tmp u) = .tup l := by
          unfold copy
          simp only [show (σ.slot u).a = .tup l from ha]
          rw [if_pos (hx u l rfl ha)]
        rw [this]
      · rw [qko, qb2 hA c (o := x) (by simp [Op.operands])]
        rintro u l rfl ha
        rw [hA.av (c.self (u := u) (by simp [Op.operands]))] at ha
        exact hy ⟨u, l, rfl, ha⟩
    simp only [op1, hop, e]
    rfl
  | assign x =>
    rw [hop] at c hq
    obtain ⟨f0, h0⟩ := ql6 (E := E) (t := o.type) c (o := x) (by simp [Op.operands]) ((hq.resolve_left (by simp [q56])) x (by simp [Op.operands]))
    refine ⟨f0.map fun a => (true, a), fun σ2 hA => ?_⟩
    have h1 := h0 σ2 hA
    simp only at h1
    simp only [op1, hop, h1]
    cases f0 <;> rfl
  | alloc t =>
    cases he : E.of t with
    | none => exact .fail fun σ2 hA => by simp only [op1, hop, he]
    | some τ => exact ⟨some (true, .box τ τ.z τ.full none), fun σ2 hA => by simp only [op1, hop, he]; rfl⟩
  | box t x =>
    rw [hop] at c hq
    obtain ⟨f0, h0⟩ := qbq (E := E) (t := t) c (o := x) (by simp [Op.operands]) ((hq.resolve_left (by simp [q56])) x (by simp [Op.operands]))
    refine .of fun σ2 hA => ?_
    have h1 := h0 σ2 hA
    have h2 := h0 σ Agr.rfl'
    simp only at h1 h2
    simp only [op1, hop, h1, h2]
    cases E.of t with
    | none => rfl
    | some τ =>
      cases f0 with
      | none => rfl
      | some a => simp only [Option.map_some]; cases q4w τ a.1 <;> rfl
  | build t ps =>
    rw [hop] at c hq
    have hq := hq.resolve_left (by simp [q56])
    simp only [Op.operands] at c hq
    refine .of fun σ2 hA => ?_
    simp only [op1, hop]
    split
    · rename_i m k _
      rw [qe0 hA ps.toList _ c]
      cases qkf σ k ps.toList (List.replicate (m + 1) 0) <;> rfl
    · rename_i τ _ _
      obtain ⟨f0, h0⟩ := ql7 (E := E) ps.toList τ.z τ.full c hq
      simp only [h0 σ2 hA, h0 σ Agr.rfl']
      cases f0 with
      | none => rfl
      | some a => simp only [Option.map_some]; cases τ.isSt <;> rfl
    · rfl
  | buildSlice t n ps =>
    rw [hop] at c hq
    have hq := hq.resolve_left (by simp [q56])
    simp only [Op.operands] at c hq
    refine .of fun σ2 hA => ?_
    simp only [op1, hop]
    split
    · rename_i e _
      obtain ⟨f0, h0⟩ := qhe (E := E) (g := e.full) ps.toList (List.replicate n e.z) c hq
      obtain ⟨f1, h1⟩ := qhe (E := E) (g := .ro) ps.toList (List.replicate n e.z) c hq
      simp only [h0 σ2 hA, h0 σ Agr.rfl', h1 σ2 hA, h1 σ Agr.rfl']
      by_cases hn : n * e.n > 16777216
      · simp only [if_pos hn]; rfl
      · simp only [if_neg hn]
        cases f0 with
        | none => cases f1 <;> rfl
        | some a => rfl
    · rfl
  | load t x =>
    rw [hop] at c
    refine .of fun σ2 hA => ?_
    cases x with
    | tmp u =>
      simp only [op1, hop, ql3 hA c (u := u) (by simp [Op.operands])]
      cases deref σ u with
      | none => rfl
      | some a => simp only; split <;> rfl
    | _ => simp only [op1, hop]; rfl
  | store t p x =>
    rw [hop] at c hq
    have hq := hq.resolve_left (by simp [q56])
    refine .of fun σ2 hA => ?_
    cases p with
    | tmp u =>
      have hu := hq (.tmp u) (by simp [Op.operands])
      obtain ⟨f0, h0⟩ := qbq (E := E) (t := t) c (o := x) (by simp [Op.operands]) (hq x (by simp [Op.operands]))
      have h1 := h0 σ2 hA
      have h2 := h0 σ Agr.rfl'
      simp only at h1 h2
      have np : ∀ σ2, σ2.slot u = σ.slot u → ∀ s f, poke σ2 u s f = none := by
        intro σ2 e s f
        simp only [poke, e]
        simp only [q4n, still] at hu
        cases ha : (σ.slot u).a with
        | box τ x f r => rw [show σ.av u = (σ.slot u).a from rfl, ha] at hu; simp at hu
        | ref h p g v => rw [show σ.av u = (σ.slot u).a from rfl, ha] at hu; simp at hu
        | ap h i g v => rw [show σ.av u = (σ.slot u).a from rfl, ha] at hu; simp at hu
        | _ => rfl
      simp only [op1, hop, h1, h2]
      cases f0 with
      | none => rfl
      | some a =>
        simp only [Option.map_some, np σ2 (hA u (c.self (by simp [Op.operands]))), np σ rfl]
        split <;> rfl
    | _ => simp only [op1, hop]; rfl
  | nilCheck x =>
    rw [hop] at c
    refine .of fun σ2 hA => ?_
    cases x with
    | tmp u =>
      have hu : Operand.tmp u ∈ (Op.nilCheck (.tmp u)).operands.toList := by simp [Op.operands]
      simp only [op1, hop, hA.av (c.self hu), qb2 hA c hu]
      cases ha : σ.av u with
      | ref h p g v => simp only [hA.refOk (c.ref hu ha)]; split <;> rfl
      | rp τ x q => cases q <;> rfl
      | _ => rfl
    | _ => simp only [op1, hop]; rfl
  | binOp op t x y w =>
    rw [hop] at c
    refine .of fun σ2 hA => ?_
    simp only [op1, hop, q49 hA c (o := x) (by simp [Op.operands]), q49 hA c (o := y) (by simp [Op.operands])]
    cases rdv σ x <;> cases rdv σ y <;> first | rfl | (simp only; split <;> rfl)
  | unOp op t x =>
    rw [hop] at c
    refine .of fun σ2 hA => ?_
    simp only [op1, hop, q49 hA c (o := x) (by simp [Op.operands])]
    cases rdv σ x <;> first | rfl | (simp only; split <;> rfl)
  | convert t' t x =>
    rw [hop] at c
    refine .of fun σ2 hA => ?_
    simp only [op1, hop, q49 hA c (o := x) (by simp [Op.operands])]
    cases E.of t <;> cases rdv σ x <;> first | rfl | (simp only; split <;> first | rfl | (split <;> rfl))
  | makeSlice t l n =>
    rw [hop] at c
    refine .of fun σ2 hA => ?_
    simp only [op1, hop, q49 hA c (o := l) (by simp [Op.operands]), q49 hA c (o := n) (by simp [Op.operands])]
    split <;> rfl
  | slice t x lo hi mx =>
    rw [hop] at c
    refine .of fun σ2 hA => ?_
    cases x with
    | tmp u =>
      cases mx with
      | some _ => simp only [op1, hop]; rfl
      | none =>
        have hu : Operand.tmp u ∈ (Op.slice t (.tmp u) lo hi none).operands.toList := by simp [Op.operands]
        have hlo : ∀ x, lo = some x → x ∈ (Op.slice t (.tmp u) lo hi none).operands.toList := by rintro x rfl; simp [Op.operands]
        have hhi : ∀ x, hi = some x → x ∈ (Op.slice t (.tmp u) lo hi none).operands.toList := by rintro x rfl; simp [Op.operands]
        simp only [op1, hop, q49 hA c hu, ql8 hA c hlo, ql8 hA c hhi, hA u (c.self hu)]
        cases rdv σ (.tmp u) with
        | none => rfl
        | some s =>
          obtain ⟨τ, x⟩ := s
          cases τ with
          | str =>
            simp only
            split
            · cases bnd σ 0 lo <;> cases bnd σ x.size hi <;> rfl
            · rfl
          | row e =>
            simp only
            split
            · cases bnd σ 0 lo with
              | none => rfl
              | some a =>
                cases bnd σ x.length hi with
                | none => rfl
                | some b =>
                  simp only
                  split <;> rfl
            · rfl
          | _ => rfl
    | _ => simp only [op1, hop]; rfl
  | fieldAddr s x i =>
    rw [hop] at c
    refine .of fun σ2 hA => ?_
    cases x with
    | tmp u =>
      simp only [op1, hop, qnt hA c (u := u) (by simp [Op.operands])]
      cases qpr E σ s u i <;> rfl
    | _ => simp only [op1, hop]; rfl
  | field s x i =>
    rw [hop] at c
    refine .of fun σ2 hA => ?_
    cases x with
    | tmp u =>
      have hu : Operand.tmp u ∈ (Op.field s (.tmp u) i).operands.toList := by simp [Op.operands]
      simp only [op1, hop, hA u (c.self hu)]
      cases E.of s with
      | none => rfl
      | some τ =>
        simp only
        cases q5s τ i with
        | none => rfl
        | some q =>
          simp only
          cases q.isEmpty with
          | true => rfl
          | false =>
            simp only [if_false, Bool.false_eq_true]
            cases ha : (σ.slot u).a with
            | vw τ' x h p g v =>
              simp only [hA.valid (c.vw hu ha)]
              split <;> rfl
            | d τ' x f => simp only; split <;> rfl
            | _ => rfl
    | _ => simp only [op1, hop]; rfl
  | indexAddr t x i =>
    rw [hop] at c
    refine .of fun σ2 hA => ?_
    simp only [op1, hop, q49 hA c (o := i) (by simp [Op.operands])]
    split
    · cases x with
      | tmp u =>
        simp only [ql4 hA c (u := u) (by simp [Op.operands])]
        split <;> rfl
      | _ => rfl
    · rename_i m k n _ _
      rw [qns hA c (x := x) (by simp [Op.operands])]
      cases qp1 E σ m k x n.toNat <;> rfl
    · rfl
  | index t x i =>
    rw [hop] at c
    refine .of fun σ2 hA => ?_
    simp only [op1, hop, q49 hA c (o := x) (by simp [Op.operands]), q49 hA c (o := i) (by simp [Op.operands])]
    split
    · split <;> rfl
    · split <;> rfl
    · rfl
  | extract x i =>
    rw [hop] at c hq
    have hq := hq.resolve_left (by simp [q56])
    cases x with
    | tmp u =>
      have hu := hq (.tmp u) (by simp [Op.operands])
      simp only [q4n, still] at hu
      have hA' : ∀ σ2, Agr S σ σ2 → σ2.av u = σ.av u := fun σ2 hA => hA.av (c.self (u := u) (by simp [Op.operands]))
      cases ha : σ.av u with
      | tup l =>
        rw [ha] at hu
        simp only at hu
        cases hi : l[i]? with
        | none => exact .fail fun σ2 hA => by simp only [op1, hop, hA' σ2 hA, ha, hi]
        | some a =>
          refine ⟨if l.all AV.plain then some (true, a) else none, fun σ2 hA => ?_⟩
          simp only [op1, hop, hA' σ2 hA, ha, hi]
          rw [if_pos (List.all_eq_true.1 hu a (List.mem_of_getElem? hi))]
          split <;> rfl
      | _ => exact .fail fun σ2 hA => by simp only [op1, hop, hA' σ2 hA, ha]
    | _ => exact .fail fun σ2 hA => by simp only [op1, hop]
  | call cl =>
    rw [hop] at c hq
    cases hcl : cl.callee with
    | builtin b =>
      have e : (Op.call cl).operands.toList = cl.args.toList := by simp [Op.operands, Call.operands, hcl]
      rw [e] at c hq
      obtain ⟨f0, h0⟩ := qd3 (E := E) b cl.argTypes.toList cl.args.toList c (hq.imp (fun h => by
        have h := h.1
        cases b <;> first | (refine ⟨fun x => ?_, fun x => ?_⟩ <;> cases x; done) | (exfalso; revert h; obtain ⟨c1, c2, c3⟩ := cl; simp only at hcl; subst hcl; simp [q56])) id)
      exact ⟨f0, fun σ2 hA => by simp only [op1, hop, hcl]; exact h0 σ2 hA⟩
    | _ => exact .fail fun σ2 hA => by simp only [op1, hop, hcl]
  | makeFunc fn fst cap =>
    rw [hop] at c hq
    cases fn with
    | func f =>
      refine .fail fun σ2 hA => ?_
      simp only [op1, hop]
      split
      · rename_i t e1 e2
        have ht : Operand.tmp t ∈ (Op.makeFunc (.func f) fst cap).operands.toList := by simp [Op.operands, e1, e2]
        have hst := (hq.resolve_left (by simp [q56])) (.tmp t) ht
        rw [hA.av (c.self ht)]
        cases ha : σ.av t with
        | box τ x f r => simp [q4n, still, ha] at hst
        | _ => rfl
      · rfl
    | _ => exact .fail fun σ2 hA => by simp only [op1, hop]
  | _ => exact .fail fun σ2 hA => by simp only [op1, hop]
abbrev Us := List (Nat × Slot)
def sets (σ : St) (u : Us) : St := u.foldl (fun σ p => σ.set p.1 p.2) σ
theorem q3u (σ : St) (u v : Us) : sets σ (u ++ v) = sets (sets σ u) v := by simp only [sets, List.foldl_append]
theorem q48 : ∀ (u : Us) (σ : St), (sets σ u).length = σ.length
  | [], σ => rfl
  | p :: u, σ => by
    have := q48 u (σ.set p.1 p.2)
    simp only [sets, List.foldl_cons] at this ⊢
    rw [this]
    exact List.length_set ..
theorem q6d (σ : St) (i : Nat) (s : Slot) (t : Nat) : St.slot (σ.set i s) t = if t = i ∧ i < σ.length then s else σ.slot t := by
  simp only [St.slot, List.getD_eq_getElem?_getD]
  by_cases e : t = i
  · subst e
    by_cases h : t < σ.length
    · rw [List.getElem?_set_self h, if_pos ⟨rfl, h⟩]; rfl
    · rw [if_neg (fun x => h x.2), List.set_eq_of_length_le (by omega)]
  · rw [List.getElem?_set_ne (Ne.symm e), if_neg (fun x => e x.1)]
theorem q5h : ∀ (u : Us) (σ : St) {t : Nat}, (∀ p ∈ u, p.1 ≠ t) → St.slot (sets σ u) t = σ.slot t
  | [], σ, t, h => rfl
  | p :: u, σ, t, h => by
    have := q5h u (σ.set p.1 p.2) (t := t) fun q hq => h q (List.mem_cons_of_mem _ hq)
    rw [show sets σ (p :: u) = sets (σ.set p.1 p.2) u from rfl, this, q6d, if_neg]
    exact fun x => h p (List.mem_cons_self ..) x.1.symm
theorem qb3 : ∀ (u : Us) (σ : St) {i : Nat} (s : Slot), (∀ p ∈ u, p.1 ≠ i) → sets (σ.set i s) u = (sets σ u).set i s
  | [], σ, i, s, h => rfl
  | p :: u, σ, i, s, h => by
    have := qb3 u (σ.set p.1 p.2) s fun q hq => h q (List.mem_cons_of_mem _ hq)
    rw [show sets (σ.set i s) (p :: u) = sets ((σ.set i s).set p.1 p.2) u from rfl, List.set_comm _ _ (Ne.symm (h p (List.mem_cons_self ..))), this]
    rfl
theorem qbr : ∀ (v u : Us) (σ : St), (∀ p ∈ u, ∀ q ∈ v, p.1 ≠ q.1) → sets (sets σ u) v = sets (sets σ v) u
  | [], u, σ, h => rfl
  | q :: v, u, σ, h => by
    rw [show sets (sets σ u) (q :: v) = sets ((sets σ u).set q.1 q.2) v from rfl, ← qb3 u σ q.2 fun p hp => h p hp q (List.mem_cons_self ..),
      qbr v u _ fun p hp r hr => h p hp r (List.mem_cons_of_mem _ hr)]
    rfl
theorem q4e : ∀ (u : Us) {σ σ2 : St}, σ2.length = σ.length → Agr S σ σ2 → Agr S (sets σ u) (sets σ2 u)
  | [], σ, σ2, hl, h => h
  | p :: u, σ, σ2, hl, h => q4e u (σ := σ.set p.1 p.2) (σ2 := σ2.set p.1 p.2) (by rw [List.length_set, List.length_set, hl]) fun t ht => by
    rw [q6d, q6d, hl, h t ht]
theorem qe1 {u : Us} (h : ∀ p ∈ u, p.1 ∉ S) : Agr S σ (sets σ u) := fun t ht => q5h u σ fun p hp e => h p hp (e ▸ ht)
def AV.firm : AV → Bool
  | .vw _ _ _ _ _ _ => false
  | .ref _ _ _ _ => false
  | .rp _ _ (some _) => false
  | .cl _ _ _ => false
  | .ap _ _ _ _ => false
  | _ => true
theorem qbs {u : Tmp} (h : (σ.av u).firm = true) : hold σ u = [u] := by
  unfold hold
  cases ha : σ.av u with
  | vw _ _ _ _ _ _ => rw [ha] at h; simp [AV.firm] at h
  | ref _ _ _ _ => rw [ha] at h; simp [AV.firm] at h
  | cl _ _ _ => rw [ha] at h; simp [AV.firm] at h
  | ap _ _ _ _ => rw [ha] at h; simp [AV.firm] at h
  | rp _ _ q => cases q <;> first | rfl | (rw [ha] at h; simp [AV.firm] at h; done)
  | _ => rfl
def Up (W : List Tmp) (u : Us) : Prop := ∀ p ∈ u, p.1 ∈ W ∧ p.2.a.firm = true
def Wd (W : List Tmp) (σ : St) (os : List Operand) : Prop := ∀ v, Operand.tmp v ∈ os → still σ v = false → ∀ t ∈ hold σ v, t ∈ W
variable {W : List Tmp}
theorem Cl.sets : ∀ (u : Us) {σ : St}, Cl S σ os → Up W u → Cl S (Rf.sets σ u) os
  | [], σ, c, h => c
  | p :: u, σ, c, h => Cl.sets u (σ := σ.set p.1 p.2) (fun v hv t ht => by
      have hs := q6d σ p.1 p.2 v
      split at hs
      · rename_i e
        rw [qbs (by simp only [St.av, hs]; exact (h p (List.mem_cons_self ..)).2)] at ht
        simp only [List.mem_singleton] at ht
        subst ht
        exact c.self hv
      · rw [q8s hs] at ht
        exact c v hv t ht) fun q hq => h q (List.mem_cons_of_mem _ hq)
theorem Wd.sets : ∀ (u : Us) {σ : St}, Wd W σ os → Up W u → Wd W (Rf.sets σ u) os
  | [], σ, c, h => c
  | p :: u, σ, c, h => Wd.sets u (σ := σ.set p.1 p.2) (fun v hv hst t ht => by
      have hs := q6d σ p.1 p.2 v
      split at hs
      · rename_i e
        rw [qbs (by simp only [St.av, hs]; exact (h p (List.mem_cons_self ..)).2)] at ht
        simp only [List.mem_singleton] at ht
        subst ht
        rw [e.1]
        exact (h p (List.mem_cons_self ..)).1
      · rw [q8s hs] at ht
        have : still (σ.set p.1 p.2) v = still σ v := by
          unfold still
          rw [show St.av (σ.set p.1 p.2) v = σ.av v by simp only [St.av, hs]]
        exact c v hv (by rw [← this]; exact hst) t ht) fun q hq => h q (List.mem_cons_of_mem _ hq)
def R2 (W S : List Tmp) (σ : St) (f : St → Option (α × St)) : Prop := ∃ f0 : Option (α × Us), (∀ p, f0 = some p → Up W p.2) ∧ ∀ σ2, σ2.length = σ.length → Agr S σ σ2 → f σ2 = f0.map fun p => (p.1, sets σ2 p.2)
def R3 (W S : List Tmp) (σ : St) (f : St → Option (α × β × St)) : Prop := ∃ f0 : Option ((α × β) × Us), (∀ p, f0 = some p → Up W p.2) ∧ ∀ σ2, σ2.length = σ.length → Agr S σ σ2 → f σ2 = f0.map fun p => (p.1.1, p.1.2, sets σ2 p.2)
theorem Up.nil : Up W [] := fun _ h => by cases h
theorem Q3.r {f : St → Option (α × β × St)} (h : Q3 S σ f) : R3 W S σ f := by
  obtain ⟨f0, h0⟩ := h
  refine ⟨f0.map fun a => (a, []), fun p hp => ?_, fun σ2 hl hA => ?_⟩
  · obtain ⟨a, _, rfl⟩ := Option.map_eq_some_iff.1 hp
    exact Up.nil
  · rw [h0 σ2 hA]
    cases f0 <;> rfl
theorem R3.fail {f : St → Option (α × β × St)} (h : ∀ σ2, Agr S σ σ2 → f σ2 = none) : R3 W S σ f := ⟨none, fun p hp => (by cases hp), fun σ2 _ hA => h σ2 hA⟩
theorem qp7 {o : Operand} {t : TypeId} (c : Cl S σ os) (w : Wd W σ os) (ho : o ∈ os) : R2 W S σ (fun σ => take E σ t o) := by
  cases hs : q4n σ o with
  | true =>
    obtain ⟨f0, h0⟩ := ql6 (E := E) (t := t) c ho hs
    refine ⟨f0.map fun a => (a, []), fun p hp => ?_, fun σ2 hl hA => ?_⟩
    · obtain ⟨a, _, rfl⟩ := Option.map_eq_some_iff.1 hp
      exact Up.nil
    · rw [h0 σ2 hA]
      cases f0 <;> rfl
  | false =>
    have failR : (∀ σ2, Agr S σ σ2 → take E σ2 t o = none) → R2 W S σ (fun σ => take E σ t o) := fun h => ⟨none, fun p hp => (by cases hp), fun σ2 _ hA => h σ2 hA⟩
    cases o with
    | tmp u =>
      have hs' : still σ u = false := hs
      have hu := c.self ho
      have hw := w u ho hs'
      have huW := hw u (q59 σ u)
      cases ha : σ.av u with
      | d τ x f =>
        simp only [still, ha] at hs'
        refine ⟨some (.d τ x f, [(u, ⟨(σ.slot u).g + 1, 0, .no⟩)]), fun p hp => ?_, fun σ2 hl hA => ?_⟩
        · cases hp
          intro q hq
          simp only [List.mem_singleton] at hq
          subst hq
          exact ⟨huW, rfl⟩
        · simp only [take, hA.av hu, ha, hs', Bool.false_eq_true, if_false, St.put, hA u hu]
          rfl
      | box τ x f sr =>
        refine ⟨some (.box τ x f sr, [(u, ⟨(σ.slot u).g + 1, 0, .no⟩)]), fun p hp => ?_, fun σ2 hl hA => ?_⟩
        · cases hp
          intro q hq
          simp only [List.mem_singleton] at hq
          subst hq
          exact ⟨huW, rfl⟩
        · simp only [take, hA.av hu, ha, St.put, hA u hu]
          rfl
      | vw τ x h0 p g v =>
        have hh := c.vw ho ha
        have hhW := hw h0 (by simp [hold, ha])
        cases hv : σ.valid h0 g v with
        | false => exact failR fun σ2 hA => by simp only [take, hA.av hu, ha, hA.valid hh, hv]; rfl
        | true =>
          cases p with
          | none => exact failR fun σ2 hA => by simp only [take, hA.av hu, ha, hA.valid hh, hv]; rfl
          | some p =>
            cases hp : p.fields with
            | false => exact failR fun σ2 hA => by simp only [take, hA.av hu, ha, hA.valid hh, hv, hp]; rfl
            | true =>
              cases hb : σ.av h0 with
              | d τ' x' f' =>
                refine ⟨some (.d τ x (f'.at p), [(h0, ⟨(σ.slot h0).g, (σ.slot h0).v + 1, .d τ' x' (f'.put p .gone)⟩)]), fun q hq => ?_, fun σ2 hl hA => ?_⟩
                · cases hq
                  intro q hq
                  simp only [List.mem_singleton] at hq
                  subst hq
                  exact ⟨hhW, rfl⟩
                · simp only [take, hA.av hu, ha, hA.valid hh, hv, hp, hA.av hh, hb, if_true, St.turn, hA h0 hh]
                  rfl
              | box τ' x' f' s =>
                refine ⟨some (.d τ x (f'.at p), [(h0, ⟨(σ.slot h0).g, (σ.slot h0).v + 1, .box τ' x' (f'.put p .gone) s⟩)]), fun q hq => ?_, fun σ2 hl hA => ?_⟩
                · cases hq
                  intro q hq
                  simp only [List.mem_singleton] at hq
                  subst hq
                  exact ⟨hhW, rfl⟩
                · simp only [take, hA.av hu, ha, hA.valid hh, hv, hp, hA.av hh, hb, if_true, St.turn, hA h0 hh]
                  rfl
              | _ => exact failR fun σ2 hA => by simp only [take, hA.av hu, ha, hA.valid hh, hv, hp, hA.av hh, hb, if_true]
      | no => exact failR fun σ2 hA => by simp only [take, hA.av hu, ha]
      | tup l => exact failR fun σ2 hA => by simp only [take, hA.av hu, ha]
      | un => simp [still, ha] at hs'
      | fn f => simp [still, ha] at hs'
      | cl f h0 g => exact ⟨some (.cl f h0 g, []), fun p hp => (by cases hp; exact Up.nil), fun σ2 hl hA => by simp only [take, hA.av hu, ha]; rfl⟩
      | ap h0 i g v => exact ⟨some (.ap h0 i g v, []), fun p hp => (by cases hp; exact Up.nil), fun σ2 hl hA => by simp only [take, hA.av hu, ha]; rfl⟩
      | ref h0 p g v =>
        refine ⟨some (.ref h0 p g v, []), fun p hp => by cases hp; exact Up.nil, fun σ2 hl hA => ?_⟩
        simp only [take, hA.av hu, ha]
        rfl
      | rp τ x q =>
        refine ⟨some (.rp τ x q, []), fun p hp => by cases hp; exact Up.nil, fun σ2 hl hA => ?_⟩
        simp only [take, hA.av hu, ha]
        rfl
    | _ => simp [q4n] at hs
theorem q9w {o : Operand} {t : TypeId} (c : Cl S σ os) (w : Wd W σ os) (ho : o ∈ os) : R3 W S σ (fun σ => q6k E σ t o) := by
  obtain ⟨f0, hu, h0⟩ := qp7 (E := E) (t := t) c w ho
  refine ⟨f0.bind fun a => match a.1 with | .d τ x f => if f.ok τ then some ((⟨τ, x⟩, f), a.2) else none | _ => none, fun p hp => ?_, fun σ2 hl hA => ?_⟩
  · obtain ⟨a, h1, h2⟩ := Option.bind_eq_some_iff.1 hp
    have := hu a h1
    obtain ⟨a, u⟩ := a
    cases a with
    | d τ x f =>
      simp only at h2
      split at h2
      · cases h2; exact this
      · cases h2
    | _ => cases h2
  · have h1 := h0 σ2 hl hA
    simp only at h1
    simp only [q6k, h1]
    cases f0 with
    | none => rfl
    | some a =>
      obtain ⟨a, u⟩ := a
      cases a with
      | d τ x f => simp only [Option.map_some, Option.bind_some]; split <;> rfl
      | _ => rfl
theorem ql9 {o : Operand} {τ : Ty} (c : Cl S σ os) (w : Wd W σ os) (ho : o ∈ os) : R3 W S σ (fun σ => takeN E σ τ o) := by
  by_cases hc : o = .const (.slice none 0 0)
  · subst hc
    exact (qhd c ho rfl).r
  · have e : ∀ σ, takeN E σ τ o = q6k E σ 0 o := by
      intro σ
      unfold takeN
      split
      · exact (hc rfl).elim
      · rfl
    simp only [e]
    exact q9w c w ho
theorem Cl.tl {o : Operand} {os : List Operand} (h : Cl S σ (o :: os)) : Cl S σ os := fun u hu => h u (List.mem_cons_of_mem _ hu)
theorem Wd.tl {o : Operand} {os : List Operand} (h : Wd W σ (o :: os)) : Wd W σ os := fun u hu => h u (List.mem_cons_of_mem _ hu)
theorem Up.app {u v : Us} (h : Up W u) (k : Up W v) : Up W (u ++ v) := fun p hp => (List.mem_append.1 hp).elim (h p) (k p)
theorem qla {τ : Ty} : ∀ (l : List (Nat × Operand)) (x : τ.T) (f : Fl) (σ : St), Cl S σ (l.map (·.2)) → Wd W σ (l.map (·.2)) → R3 W S σ (parts E τ l x f)
  | [], x, f, σ, c, w => ⟨some ((x, f), []), fun p hp => (by cases hp; exact Up.nil), fun σ2 hl hA => rfl⟩
  | (i, o) :: l, x, f, σ, c, w => by
    cases hp : q5s τ i with
    | none => exact .fail fun σ2 hA => by simp only [parts, hp]
    | some p =>
      cases hpe : p.isEmpty with
      | true => exact .fail fun σ2 hA => by simp only [parts, hp, hpe, if_true]
      | false =>
        cases hg : q42 τ x p with
        | none => exact .fail fun σ2 hA => by simp only [parts, hp, hpe, hg, if_false, Bool.false_eq_true]
        | some s =>
          obtain ⟨f0, hu, h0⟩ := ql9 (E := E) (τ := s.1) c w (List.mem_cons_self ..)
          cases f0 with
          | none => exact ⟨none, fun p hp => (by cases hp), fun σ2 hl hA => by have h1 := h0 σ2 hl hA; simp only [Option.map_none] at h1; simp only [parts, hp, hpe, hg, h1, if_false, Bool.false_eq_true]; rfl⟩
          | some a =>
            obtain ⟨⟨s', f'⟩, u⟩ := a
            have hu1 : Up W u := hu _ rfl
            cases hy : q5r τ x p s' with
            | none => exact ⟨none, fun p hp => (by cases hp), fun σ2 hl hA => by have h1 := h0 σ2 hl hA; simp only [Option.map_some] at h1; simp only [parts, hp, hpe, hg, h1, hy, if_false, Bool.false_eq_true]; rfl⟩
            | some y =>
              obtain ⟨f1, hv, h3⟩ := qla l y (f.put p f') (sets σ u) (c.tl.sets u hu1) (w.tl.sets u hu1)
              refine ⟨f1.map fun q => (q.1, u ++ q.2), fun q hq => ?_, fun σ2 hl hA => ?_⟩
              · obtain ⟨a, h1, rfl⟩ := Option.map_eq_some_iff.1 hq
                exact hu1.app (hv a h1)
              · have h1 := h0 σ2 hl hA
                simp only [Option.map_some] at h1
                simp only [parts, hp, hpe, hg, h1, hy, if_false, Bool.false_eq_true, h3 (sets σ2 u) (by rw [q48, q48, hl]) (q4e u hl hA)]
                cases f1 with
                | none => rfl
                | some q => simp only [Option.map_some, q3u]
theorem qhf {e : Ty} {g : Fl} : ∀ (l : List (Nat × Operand)) (x : List e.T) (σ : St), Cl S σ (l.map (·.2)) → Wd W σ (l.map (·.2)) → R2 W S σ (elems E e g l x)
  | [], x, σ, c, w => ⟨some (x, []), fun p hp => (by cases hp; exact Up.nil), fun σ2 hl hA => rfl⟩
  | (i, o) :: l, x, σ, c, w => by
    obtain ⟨f0, hu, h0⟩ := ql9 (E := E) (τ := e) c w (List.mem_cons_self ..)
    cases f0 with
    | none => exact ⟨none, fun p hp => (by cases hp), fun σ2 hl hA => by have h1 := h0 σ2 hl hA; simp only [Option.map_none] at h1; simp only [elems, h1]; rfl⟩
    | some a =>
      obtain ⟨⟨s, f'⟩, u⟩ := a
      have hu1 : Up W u := hu _ rfl
      cases hy : q4w e s with
      | none => exact ⟨none, fun p hp => (by cases hp), fun σ2 hl hA => by have h1 := h0 σ2 hl hA; simp only [Option.map_some] at h1; simp only [elems, h1, hy]; rfl⟩
      | some y =>
        obtain ⟨f1, hv, h3⟩ := qhf (g := g) l (x.set i y) (sets σ u) (c.tl.sets u hu1) (w.tl.sets u hu1)
        refine ⟨if i < x.length then if (f' = g || (g = .ro && f'.ok e) || e.flat) = true then f1.map fun q => (q.1, u ++ q.2) else none else none, fun q hq => ?_, fun σ2 hl hA => ?_⟩
        · split at hq
          · split at hq
            · obtain ⟨a, h1, rfl⟩ := Option.map_eq_some_iff.1 hq
              exact hu1.app (hv a h1)
            · cases hq
          · cases hq
        · have h1 := h0 σ2 hl hA
          simp only [Option.map_some] at h1
          simp only [elems, h1, hy, h3 (sets σ2 u) (by rw [q48, q48, hl]) (q4e u hl hA)]
          split
          · split
            · cases f1 with
              | none => rfl
              | some q => simp only [Option.map_some, q3u]
            · rfl
          · rfl
def WdA (W : List Tmp) (σ : St) : List Par → List Operand → Prop
  | p :: ps, o :: os => (match p.m with | .own _ => Wd W σ [o] | _ => True) ∧ WdA W σ ps os
  | _, _ => True
theorem WdA.sets {u : Us} (h : Up W u) : ∀ {ps : List Par} {os : List Operand}, WdA W σ ps os → WdA W (Rf.sets σ u) ps os
  | [], _, k => by simp only [WdA]
  | p :: ps, [], k => by simp only [WdA]
  | p :: ps, o :: os, k => by
    simp only [WdA] at k ⊢
    refine ⟨?_, WdA.sets h k.2⟩
    have k1 := k.1
    cases hm : p.m with
    | own f => rw [hm] at k1; exact Wd.sets u k1 h
    | _ => trivial
theorem qlb : ∀ (ps : List Par) (ts : List TypeId) (os : List Operand) (σ : St), Cl S σ os → WdA W σ ps os → ps.any (·.isIn) = false → ∃ f0 : Option (List (Option Sv) × Us), (∀ p, f0 = some p → Up W p.2) ∧ ∀ σ2, σ2.length = σ.length → Agr S σ σ2 → give E ps ts os σ2 = f0.map fun l => (l.1, none, sets σ2 l.2)
  | [], [], [], σ, c, w, hb => ⟨some ([], []), fun p hp => (by cases hp; exact Up.nil), fun σ2 hl hA => by simp only [give]; rfl⟩
  | [], t :: ts, [], σ, c, w, hb => ⟨some ([], []), fun p hp => (by cases hp; exact Up.nil), fun σ2 hl hA => by simp only [give]; rfl⟩
  | [], _, o :: os, σ, c, w, hb => ⟨none, fun p hp => (by cases hp), fun σ2 hl hA => by simp only [give]; rfl⟩
  | p :: ps, _, [], σ, c, w, hb => ⟨none, fun p hp => (by cases hp), fun σ2 hl hA => by simp only [give]; rfl⟩
  | p :: ps, [], o :: os, σ, c, w, hb => ⟨none, fun p hp => (by cases hp), fun σ2 hl hA => by simp only [give]; rfl⟩
  | p :: ps, t :: ts, o :: os, σ, c, w, hb => by
    simp only [List.any_cons, Bool.or_eq_false_iff] at hb
    simp only [WdA] at w
    have w1 := w.1
    cases hm : p.m with
    | rd =>
      obtain ⟨f1, hv, h1⟩ := qlb ps ts os σ c.tl w.2 hb.2
      refine ⟨f1.map fun q => (none :: q.1, q.2), fun q hq => ?_, fun σ2 hl hA => ?_⟩
      · obtain ⟨a, h2, rfl⟩ := Option.map_eq_some_iff.1 hq
        exact hv a h2
      · simp only [give, hm, h1 σ2 hl hA]
        cases f1 <;> rfl
    | own f =>
      rw [hm] at w1
      obtain ⟨f0, hu, h0⟩ := q9w (E := E) (t := t) (os := [o]) (fun u hu => c u (List.mem_cons.2 (.inl (List.mem_singleton.1 hu)))) w1 (List.mem_singleton.2 rfl)
      cases f0 with
      | none => exact ⟨none, fun p hp => (by cases hp), fun σ2 hl hA => by have h2 := h0 σ2 hl hA; simp only [Option.map_none] at h2; simp only [give, hm, h2]; rfl⟩
      | some a =>
        obtain ⟨⟨s, f'⟩, u⟩ := a
        have hu1 : Up W u := hu _ rfl
        obtain ⟨f1, hv, h1⟩ := qlb ps ts os (sets σ u) (c.tl.sets u hu1) (w.2.sets hu1) hb.2
        refine ⟨if f' = f then f1.map fun q => (some s :: q.1, u ++ q.2) else none, fun q hq => ?_, fun σ2 hl hA => ?_⟩
        · split at hq
          · obtain ⟨a, h2, rfl⟩ := Option.map_eq_some_iff.1 hq
            exact hu1.app (hv a h2)
          · cases hq
        · have h2 := h0 σ2 hl hA
          simp only [Option.map_some] at h2
          simp only [give, hm, h2, h1 (sets σ2 u) (by rw [q48, q48, hl]) (q4e u hl hA)]
          split
          · cases f1 with
            | none => rfl
            | some q => simp only [Option.map_some, q3u]
          · rfl
    | bx f => simp [Par.isIn, hm] at hb
    | io f => simp [Par.isIn, hm] at hb
theorem qnu {t t' : TypeId} {x y : Operand} (c : Cl S σ [x, y]) (wx : Wd W σ [x]) (wy : (∀ e, E.of t = some (.row e) → e.flat = false) → Wd W σ [y]) : R3 W S σ (fun σ => q40 E σ .append [t, t'] [x, y]) := by
  obtain ⟨f0, hu, h0⟩ := q9w (E := E) (t := t) (os := [x]) (fun u hu => c u (List.mem_cons.2 (.inl (List.mem_singleton.1 hu)))) wx (List.mem_singleton.2 rfl)
  rcases f0 with _ | ⟨⟨⟨τ, l⟩, f⟩, u⟩
  · exact ⟨none, fun p hp => (by cases hp), fun σ2 hl hA => by have h2 := h0 σ2 hl hA; simp only [Option.map_none] at h2; simp only [q40, h2]; rfl⟩
  have hu1 : Up W u := hu _ rfl
  have no : ∀ (P : Prop), (P → R3 W S σ (fun σ => q40 E σ .append [t, t'] [x, y])) → P → R3 W S σ (fun σ => q40 E σ .append [t, t'] [x, y]) := fun P h p => h p
  have cy : Cl S σ [y] := c.tl
  have failR : (∀ σ2, σ2.length = σ.length → Agr S σ σ2 → q40 E σ2 .append [t, t'] [x, y] = none) → R3 W S σ (fun σ => q40 E σ .append [t, t'] [x, y]) := fun h => ⟨none, fun p hp => (by cases hp), fun σ2 hl hA => h σ2 hl hA⟩
  cases τ with
  | row e =>
    cases f with
    | own g =>
      by_cases hE : E.of t = some (.row e)
      · cases hf : e.flat with
        | true =>
          have eR : ∀ σ2, σ2.length = σ.length → Agr S σ σ2 → rdT E (sets σ2 u) t' y = rdT E (sets σ u) t' y := fun σ2 hl hA => qdz (q4e u hl hA) (cy.sets u hu1) (List.mem_singleton.2 rfl)
          refine ⟨match rdT E (sets σ u) t' y with
            | some s => if E.of t' ≠ some s.1 then none else match qkg e s with
              | some m => some ((decide ((l.length + m.length) * e.by ≤ q1r), .d (.row e) (l ++ m) (.own g)), u)
              | none => none
            | none => none, fun p hp => ?_, fun σ2 hl hA => ?_⟩
          · split at hp
            · split at hp
              · cases hp
              · split at hp
                · cases hp; exact hu1
                · cases hp
            · cases hp
          · have h2 := h0 σ2 hl hA
            simp only [Option.map_some] at h2
            simp only [q40, h2, hf, if_true, eR σ2 hl hA]
            rw [if_neg (by simp [hE])]
            cases rdT E (sets σ u) t' y with
            | none => rfl
            | some s =>
              simp only
              split
              · rfl
              · cases qkg e s <;> rfl
        | false =>
          have wy1 := wy fun e' he' => by rw [hE] at he'; cases he'; exact hf
          obtain ⟨f1, hv, h1⟩ := q9w (E := E) (t := t') (os := [y]) (cy.sets u hu1) (wy1.sets u hu1) (List.mem_singleton.2 rfl)
          refine ⟨f1.bind fun q => if E.of t' ≠ some q.1.1.1 then none else match q4w (.row e) q.1.1 with
              | some m => some ((decide ((l.length + m.length) * e.by ≤ q1r), .d (.row e) (l ++ m) (.own (if q.1.2 = .own g then g else .ro))), u ++ q.2)
              | none => none, fun p hp => ?_, fun σ2 hl hA => ?_⟩
          · obtain ⟨q, k1, k2⟩ := Option.bind_eq_some_iff.1 hp
            split at k2
            · cases k2
            · split at k2
              · cases k2; exact hu1.app (hv q k1)
              · cases k2
          · have h2 := h0 σ2 hl hA
            simp only [Option.map_some] at h2
            have h3 := h1 (sets σ2 u) (by rw [q48, q48, hl]) (q4e u hl hA)
            simp only at h3
            simp only [q40, h2, hf, if_false, Bool.false_eq_true, h3]
            rw [if_neg (by simp [hE])]
            rcases f1 with _ | ⟨⟨s, f⟩, v⟩
            · rfl
            · simp only [Option.map_some, Option.bind_some]
              split
              · rfl
              · cases q4w (.row e) s with
                | none => rfl
                | some m => simp only [Option.map_some, q3u]
      · exact failR fun σ2 hl hA => by
          have h2 := h0 σ2 hl hA
          simp only [Option.map_some] at h2
          simp only [q40, h2]
          rw [if_pos (by simpa using hE)]
    | _ =>
      exact failR fun σ2 hl hA => by
        have h2 := h0 σ2 hl hA
        simp only [Option.map_some] at h2
        simp only [q40, h2]
  | _ =>
    exact failR fun σ2 hl hA => by
      have h2 := h0 σ2 hl hA
      simp only [Option.map_some] at h2
      simp only [q40, h2]
theorem wd1 {x : Operand} (h : ∀ t ∈ wr1 σ x, t ∈ W) : Wd W σ [x] := by
  intro v hv hs t ht
  obtain rfl := List.mem_singleton.1 hv
  exact h t (by simp only [wr1, hs, if_false, Bool.false_eq_true]; exact ht)
theorem wdL {l : List Operand} (h : ∀ t ∈ l.flatMap (wr1 σ), t ∈ W) : Wd W σ l := by
  intro v hv hs t ht
  exact h t (List.mem_flatMap.2 ⟨_, hv, by simp only [wr1, hs, if_false, Bool.false_eq_true]; exact ht⟩)
theorem wdA : ∀ {ps : List Par} {os : List Operand}, (∀ t ∈ q6l σ ps os, t ∈ W) → WdA W σ ps os
  | [], _, h => by simp only [WdA]
  | p :: ps, [], h => by simp only [WdA]
  | p :: ps, o :: os, h => by
    simp only [WdA]
    simp only [q6l, List.mem_append] at h
    refine ⟨?_, wdA fun t ht => h t (.inr ht)⟩
    cases hm : p.m with
    | own f => exact wd1 fun t ht => h t (.inl (by rw [hm]; exact ht))
    | _ => trivial
def qe2 (σ : St) (u : Tmp) (s : Sv) (f : Fl) : Option (Tmp × Slot) := match (σ.slot u).a with
  | .box τ x g none => match q4w τ s with
    | some y => some (u, ⟨(σ.slot u).g, (σ.slot u).v + 1, .box τ y f none⟩)
    | none => none
  | .ref h p g v => if (σ.slot h).g == g && (p.fields || (σ.slot h).v == v) then match (σ.slot h).a with
      | .box τ x f' r => match q5r τ x p s with
        | some y => if p.fields then (if r.isNone then some (h, ⟨(σ.slot h).g, (σ.slot h).v + 1, .box τ y (f'.put p f) none⟩) else none) else if f'.at p = f.meet (f'.at p) then some (h, ⟨(σ.slot h).g, (σ.slot h).v + 1, .box τ y f' r⟩) else none
        | none => none
      | .d τ x f' => match q5r τ x p s with
        | some y => if f'.at p = f.meet (f'.at p) then some (h, ⟨(σ.slot h).g, (σ.slot h).v + 1, .d τ y f'⟩) else none
        | none => none
      | _ => none
    else none
  | .ap h i g v => if σ.valid h g v then match σ.av h with
      | .box (.arr m k) x f' none => match q4w (.int k) s with
        | some y => if f' = .gone then none else some (h, ⟨(σ.slot h).g, (σ.slot h).v + 1, .box (.arr m k) (x.set i y) f' none⟩)
        | none => none
      | _ => none
    else none
  | _ => none
theorem qq5 (σ : St) (u : Tmp) (s : Sv) (f : Fl) : poke σ u s f = (qe2 σ u s f).map fun p => σ.set p.1 p.2 := by
  unfold poke qe2
  simp only
  cases ha : (σ.slot u).a with
  | box τ x g r =>
    cases r with
    | some _ => rfl
    | none => simp only; cases q4w τ s <;> rfl
  | ref h p g v =>
    simp only
    split
    · cases hh : (σ.slot h).a with
      | box τ x f' r =>
        simp only
        cases q5r τ x p s with
        | none => rfl
        | some y =>
          simp only
          split
          · split <;> rfl
          · split <;> rfl
      | d τ x f' =>
        simp only
        cases q5r τ x p s with
        | none => rfl
        | some y => simp only; split <;> rfl
      | _ => rfl
    · rfl
  | ap h i g v =>
    simp only
    by_cases hv : σ.valid h g v = true
    · simp only [hv, if_true]
      cases hh : σ.av h with
      | box τ x f' r =>
        cases τ with
        | arr m k =>
          cases r with
          | some _ => rfl
          | none =>
            simp only
            cases q4w (.int k) s with
            | none => rfl
            | some y => simp only; split <;> rfl
        | _ => rfl
      | _ => rfl
    · simp only [if_neg hv]; rfl
  | _ => rfl
theorem qlc {u : Tmp} {s : Sv} {f : Fl} (h : Agr S σ σ2) (hs : ∀ t ∈ hold σ u, t ∈ S) : qe2 σ2 u s f = qe2 σ u s f := by
  have e := h u (hs u (q59 σ u))
  unfold qe2
  simp only [e]
  cases ha : (σ.slot u).a with
  | ref h0 p g v => simp only [h h0 (hs h0 (by simp [hold, St.av, ha]))]
  | box τ x g r => cases r <;> rfl
  | ap h0 i g v =>
    have hm := hs h0 (by simp [hold, St.av, ha])
    simp only [h.valid hm, h.av hm, h h0 hm]
  | _ => rfl
theorem qnv {u : Tmp} {s : Sv} {f : Fl} {p : Tmp × Slot} (hs : ∀ t ∈ hold σ u, t ∈ W) (h : qe2 σ u s f = some p) : p.1 ∈ W ∧ p.2.a.firm = true := by
  unfold qe2 at h
  cases ha : (σ.slot u).a with
  | box τ x g r =>
    rw [ha] at h
    cases r with
    | some _ => cases h
    | none =>
      simp only at h
      split at h
      · cases h; exact ⟨hs u (q59 σ u), rfl⟩
      · cases h
  | ref h0 q g v =>
    rw [ha] at h
    have hm : h0 ∈ W := hs h0 (by simp [hold, St.av, ha])
    simp only at h
    split at h
    · cases hh : (σ.slot h0).a with
      | box τ x f' r =>
        rw [hh] at h
        simp only at h
        split at h
        · split at h
          · split at h
            · cases h; exact ⟨hm, rfl⟩
            · cases h
          · split at h
            · cases h; exact ⟨hm, rfl⟩
            · cases h
        · cases h
      | d τ x f' =>
        rw [hh] at h
        simp only at h
        split at h
        · split at h
          · cases h; exact ⟨hm, rfl⟩
          · cases h
        · cases h
      | _ => rw [hh] at h; cases h
    · cases h
  | ap h0 i g v =>
    rw [ha] at h
    have hm : h0 ∈ W := hs h0 (by simp [hold, St.av, ha])
    simp only at h
    split at h
    · split at h
      · split at h
        · split at h
          · cases h
          · cases h; exact ⟨hm, rfl⟩
        · cases h
      · cases h
    · cases h
  | _ => rw [ha] at h; cases h
theorem q99 {u : Tmp} : ∀ (us : Us) {σ : St}, Up W us → ∀ t ∈ hold (sets σ us) u, t ∈ hold σ u
  | [], σ, h, t, ht => ht
  | p :: us, σ, h, t, ht => by
    have h1 := q99 us (σ := σ.set p.1 p.2) (fun q hq => h q (List.mem_cons_of_mem _ hq)) t ht
    have hs := q6d σ p.1 p.2 u
    split at hs
    · rw [qbs (by simp only [St.av, hs]; exact (h p (List.mem_cons_self ..)).2)] at h1
      simp only [List.mem_singleton] at h1
      subst h1
      exact q59 σ t
    · rwa [q8s hs] at h1
theorem qsv {o : Oper} (c : Cl S σ o.op.operands.toList) (hw : qbe E C σ o.op = some W) : R3 W S σ (fun σ => op1 E σ o) := by
  by_cases hg : (q56 o.op && qkk σ o.op) = true
  · exact (qrm c (.inl (by simpa using hg))).r
  unfold qbe at hw
  rw [if_neg hg] at hw
  cases hop : o.op with
  | assign x =>
    rw [hop] at c hw
    obtain rfl := Option.some.inj hw
    obtain ⟨f0, hu, h0⟩ := qp7 (E := E) (t := o.type) (os := [x]) (by simpa [Op.operands] using c) (wd1 fun t ht => ht) (List.mem_singleton.2 rfl)
    refine ⟨f0.map fun a => ((true, a.1), a.2), fun p hp => ?_, fun σ2 hl hA => ?_⟩
    · obtain ⟨a, h1, rfl⟩ := Option.map_eq_some_iff.1 hp
      exact hu a h1
    · have h1 := h0 σ2 hl hA
      simp only at h1
      simp only [op1, hop, h1]
      cases f0 <;> rfl
  | move x =>
    rw [hop] at c hw hg
    cases x with
    | tmp u =>
      obtain rfl := Option.some.inj hw
      have hS : u ∈ S := c.self (u := u) (by simp [Op.operands])
      cases ha : σ.av u with
      | tup l =>
        have hl : l.all AV.fixd = false := by
          cases h : l.all AV.fixd with
          | false => rfl
          | true => exact (hg (by simp [q56, qkk, ha, h])).elim
        refine ⟨some ((true, .tup l), [(u, ⟨(σ.slot u).g + 1, 0, .no⟩)]), fun p hp => ?_, fun σ2 hl2 hA => ?_⟩
        · cases hp
          intro q hq
          rw [List.mem_singleton.1 hq]
          exact ⟨List.mem_singleton.2 rfl, rfl⟩
        · simp only [op1, hop, mv, hA.av hS, ha, hl, Bool.false_eq_true, if_false, Option.map_some, sets, List.foldl, St.put, hA u hS]
      | _ => exact (hg (by simp [q56, qkk, ha])).elim
    | _ => exact (hg (by simp [q56, qkk])).elim
  | extract x i =>
    rw [hop] at c hw
    cases x with
    | tmp u =>
      obtain rfl := Option.some.inj hw
      have hS : u ∈ S := c.self (u := u) (by simp [Op.operands])
      cases ha : σ.av u with
      | tup l =>
        cases hi : l[i]? with
        | none => exact .fail fun σ2 hA => by simp only [op1, hop, hA.av hS, ha, hi]
        | some a =>
          by_cases hp : l.all AV.plain = true
          · cases hf : a.fixd with
            | true => exact ⟨some ((true, a), []), fun p hp => (by cases hp; exact Up.nil), fun σ2 hl hA => by simp only [op1, hop, hA.av hS, ha, hi, if_pos hp, hf, if_true]; rfl⟩
            | false =>
              refine ⟨some ((true, a), [(u, ⟨(σ.slot u).g, (σ.slot u).v + 1, .tup (l.set i .no)⟩)]), fun p hp' => ?_, fun σ2 hl hA => ?_⟩
              · cases hp'
                intro q hq
                rw [List.mem_singleton.1 hq]
                refine ⟨?_, rfl⟩
                have : still σ u = false := by
                  simp only [still, ha]
                  rw [List.all_eq_false]
                  exact ⟨a, List.mem_of_getElem? hi, by simp [hf]⟩
                rw [if_neg (by rw [this]; simp)]
                exact List.mem_singleton.2 rfl
              · simp only [op1, hop, hA.av hS, ha, hi, if_pos hp, hf, Bool.false_eq_true, if_false, Option.map_some, sets, List.foldl, St.turn, hA u hS]
          · exact .fail fun σ2 hA => by simp only [op1, hop, hA.av hS, ha, hi, if_neg hp]
      | _ => exact .fail fun σ2 hA => by simp only [op1, hop, hA.av hS, ha]
    | _ => exact .fail fun σ2 hA => by simp only [op1, hop]
  | store t p x =>
    rw [hop] at c hw
    cases p with
    | tmp u =>
      obtain rfl := Option.some.inj hw
      have cu : ∀ t ∈ hold σ u, t ∈ S := fun t ht => c u (by simp [Op.operands]) t ht
      obtain ⟨f0, hu, h0⟩ := q9w (E := E) (t := t) (W := hold σ u ++ wr1 σ x) (os := [x]) (fun v hv => c v (by rw [List.mem_singleton.1 hv]; simp [Op.operands])) (wd1 fun t ht => List.mem_append.2 (.inr ht)) (List.mem_singleton.2 rfl)
      refine ⟨f0.bind fun a => if E.of t = some a.1.1.1 then (qe2 (sets σ a.2) u a.1.1 a.1.2).map fun q => ((true, .un), a.2 ++ [q]) else none, fun p hp => ?_, fun σ2 hl hA => ?_⟩
      · obtain ⟨a, h1, h2⟩ := Option.bind_eq_some_iff.1 hp
        split at h2
        · obtain ⟨q, h3, rfl⟩ := Option.map_eq_some_iff.1 h2
          have hq := qnv (W := hold σ u ++ wr1 σ x) (fun t ht => List.mem_append.2 (.inl (q99 _ (hu a h1) t ht))) h3
          refine Up.app (hu a h1) fun r hr => ?_
          rw [List.mem_singleton.1 hr]
          exact hq
        · cases h2
      · have h1 := h0 σ2 hl hA
        simp only at h1
        simp only [op1, hop, h1]
        cases hf : f0 with
        | none => rfl
        | some a =>
          simp only [Option.map_some, Option.bind_some]
          split
          · have hA1 := q4e a.2 hl hA
            rw [qq5, qlc hA1 fun t ht => cu t (q99 _ (hu a hf) t ht)]
            cases qe2 (sets σ a.2) u a.1.1 a.1.2 with
            | none => rfl
            | some q => simp only [Option.map_some, q3u]; rfl
          · rfl
    | _ =>
      exact .fail fun σ2 hA => by simp only [op1, hop]
  | box t x =>
    rw [hop] at c hw
    obtain rfl := Option.some.inj hw
    obtain ⟨f0, hu, h0⟩ := q9w (E := E) (t := t) (os := [x]) (by simpa [Op.operands] using c) (wd1 fun t ht => ht) (List.mem_singleton.2 rfl)
    refine ⟨match E.of t with | none => none | some τ => f0.bind fun a => (q4w τ a.1.1).map fun y => ((true, .box τ y a.1.2 none), a.2), fun p hp => ?_, fun σ2 hl hA => ?_⟩
    · split at hp
      · cases hp
      · obtain ⟨a, h1, h2⟩ := Option.bind_eq_some_iff.1 hp
        obtain ⟨y, _, rfl⟩ := Option.map_eq_some_iff.1 h2
        exact hu a h1
    · have h1 := h0 σ2 hl hA
      simp only at h1
      simp only [op1, hop, h1]
      cases E.of t with
      | none => rfl
      | some τ =>
        cases f0 with
        | none => rfl
        | some a => simp only [Option.map_some, Option.bind_some]; cases q4w τ a.1.1 <;> rfl
  | build t ps =>
    rw [hop] at c hw
    simp only [Op.operands] at c
    obtain rfl := Option.some.inj hw
    cases hE : E.of t with
    | none => exact .fail fun σ2 hA => by simp only [op1, hop, hE]
    | some τ =>
     by_cases har : ∃ m k, τ = .arr m k
     · obtain ⟨m, k, rfl⟩ := har
       refine Q3.r (.of fun σ2 hA => ?_)
       simp only [op1, hop, hE, qe0 hA ps.toList _ c]
       cases qkf σ k ps.toList (List.replicate (m + 1) 0) <;> rfl
     · have hop1 : ∀ σ : St, op1 E σ o = match parts E τ ps.toList τ.z τ.full σ with
          | some (x, f, σ) => if τ.isSt then some (true, .d τ x f, σ) else none
          | none => none := by
        intro σ
        simp only [op1, hop, hE]
        split
        · rename_i m k e; cases e; exact (har ⟨m, k, rfl⟩).elim
        · rename_i e; cases e; rfl
        · rename_i e; cases e
       obtain ⟨f0, hu, h0⟩ := qla (E := E) ps.toList τ.z τ.full σ c (wdL fun t ht => ht)
       refine ⟨f0.bind fun a => if τ.isSt then some ((true, .d τ a.1.1 a.1.2), a.2) else none, fun p hp => ?_, fun σ2 hl hA => ?_⟩
       · obtain ⟨a, h1, h2⟩ := Option.bind_eq_some_iff.1 hp
         split at h2
         · cases h2; exact hu a h1
         · cases h2
       · simp only [hop1, h0 σ2 hl hA]
         cases f0 with
         | none => rfl
         | some a => simp only [Option.map_some, Option.bind_some]; cases τ.isSt <;> rfl
  | buildSlice t n ps =>
    rw [hop] at c hw
    simp only [Op.operands] at c
    obtain rfl := Option.some.inj hw
    by_cases hE : ∃ e, E.of t = some (.row e)
    · obtain ⟨e, hE⟩ := hE
      obtain ⟨f0, hu, h0⟩ := qhf (E := E) (g := e.full) ps.toList (List.replicate n e.z) σ c (wdL fun t ht => ht)
      obtain ⟨f1, hv, h1⟩ := qhf (E := E) (g := .ro) ps.toList (List.replicate n e.z) σ c (wdL fun t ht => ht)
      refine ⟨if n * e.n > 16777216 then none else match f0 with
        | some a => some ((true, .d (.row e) a.1 (.own e.full)), a.2)
        | none => f1.map fun a => ((true, .d (.row e) a.1 (.own .ro)), a.2), fun p hp => ?_, fun σ2 hl hA => ?_⟩
      · split at hp
        · cases hp
        · cases f0 with
          | some a => cases hp; exact hu _ rfl
          | none =>
            obtain ⟨a, h2, rfl⟩ := Option.map_eq_some_iff.1 hp
            exact hv a h2
      · simp only [op1, hop, hE, h0 σ2 hl hA, h1 σ2 hl hA]
        by_cases hn : n * e.n > 16777216
        · simp only [if_pos hn]; rfl
        · simp only [if_neg hn]
          cases f0 with
          | none => cases f1 <;> rfl
          | some a => rfl
    · exact .fail fun σ2 hA => by
        simp only [op1, hop]
        split
        · rename_i e he; exact (hE ⟨e, he⟩).elim
        · rfl
  | call cl =>
    rw [hop] at c hw
    obtain ⟨cc, az, ts⟩ := cl
    cases cc with
    | builtin b =>
      have e : (Op.call ⟨.builtin b, az, ts⟩).operands.toList = az.toList := by simp [Op.operands, Call.operands]
      rw [e] at c
      by_cases hb : b = .append
      · subst hb
        simp only at hw
        by_cases hs : ∃ x y t t', az.toList = [x, y] ∧ ts.toList = [t, t']
        · obtain ⟨x, y, t, t', e1, e2⟩ := hs
          rw [e1] at c
          rw [e1, e2] at hw
          simp only at hw
          obtain rfl := Option.some.inj hw
          obtain ⟨f0, hu, h0⟩ := qnu (E := E) (t := t) (t' := t') (W := wr1 σ x ++ match E.of t with | some (.row e) => if e.flat then [] else wr1 σ y | _ => wr1 σ y) c (wd1 fun t ht => List.mem_append.2 (.inl ht)) (fun hf => wd1 fun s hs => by
            refine List.mem_append.2 (.inr ?_)
            split
            · rename_i e he
              rw [hf e he]
              exact hs
            · exact hs)
          exact ⟨f0, hu, fun σ2 hl hA => by simp only [op1, hop, e1, e2]; exact h0 σ2 hl hA⟩
        · refine .fail fun σ2 hA => ?_
          simp only [op1, hop]
          unfold q40
          split <;> first | rfl | (rename_i e1 e2 e3; cases e1; done) | skip
          rename_i t t' x y e1 e2 e3
          exact (hs ⟨x, y, t, t', e3, e2⟩).elim
      · by_cases hc : b = .copy
        · subst hc
          by_cases hs : ∃ u y t t', az.toList = [.tmp u, y] ∧ ts.toList = [t, t']
          · obtain ⟨u, y, t, t', e1, e2⟩ := hs
            rw [e1] at c
            simp only at hw
            rw [e1, e2] at hw
            simp only at hw
            obtain rfl := Option.some.inj hw
            have hS : u ∈ S := c.self (u := u) (by simp)
            by_cases hm : ∃ (l0 : List Int) (h : Tmp) (g0 v0 : Nat) (l : List Int) (g : Fl) (s : ByteArray), σ.av u = .vw (.row (.int .u8)) l0 h (some []) g0 v0 ∧ σ.valid h g0 v0 = true ∧ σ.av h = .d (.row (.int .u8)) l (.own g) ∧ rdv σ y = some ⟨.str, s⟩
            · obtain ⟨l0, h, g0, v0, l, g, s, hw, hv, ha, hy⟩ := hm
              have hh : h ∈ S := c.vw (u := u) (by simp) hw
              refine ⟨if E.of t ≠ some (.row (.int .u8)) then none else if g = .gone then none else
                some ((true, .d (.int .i64) ((min s.size l.length : Nat) : Int) .ro), [(h, ⟨(σ.slot h).g, (σ.slot h).v + 1, .d (.row (.int .u8)) ((bytesOf s).take l.length ++ l.drop s.size) (.own g)⟩)]), fun p hp => ?_, fun σ2 hl hA => ?_⟩
              · split at hp
                · cases hp
                split at hp
                · cases hp
                cases hp
                intro q hq
                rw [List.mem_singleton.1 hq]
                refine ⟨List.mem_append.2 (.inl ?_), rfl⟩
                have hst : still σ u = false := by simp [still, hw]
                simp only [wr1, hst, Bool.false_eq_true, if_false, hold, hw, List.mem_cons, List.not_mem_nil, or_false, or_true]
              · simp only [op1, hop, e1, e2, q40, hA.av hS, hA.valid hh, hA.av hh, q49 hA c (o := y) (by simp), hw, hv, ha, hy, if_true]
                split
                · rfl
                split
                · rfl
                simp only [Option.map_some, sets, List.foldl, St.turn, hA h hh]
            · refine .fail fun σ2 hA => ?_
              simp only [op1, hop, e1, e2, q40, hA.av hS, q49 hA c (o := y) (by simp)]
              split
              · rename_i l0 h g0 v0 hw
                have hh : h ∈ S := c.vw (u := u) (by simp) hw
                rw [hA.valid hh, hA.av hh]
                split
                · rename_i hv
                  split
                  · rename_i l g s ha hy; exact (hm ⟨l0, h, g0, v0, l, g, s, hw, hv, ha, hy⟩).elim
                  · rfl
                · rfl
              · rfl
          · refine .fail fun σ2 hA => ?_
            simp only [op1, hop]
            unfold q40
            split <;> first | rfl | (rename_i e1 e2 e3; cases e1; done) | skip
            rename_i t t' u y e1 e2 e3
            exact (hs ⟨u, y, t, t', e3, e2⟩).elim
        obtain ⟨f0, h0⟩ := qd3 (E := E) b ts.toList az.toList c (.inl ⟨hb, hc⟩)
        exact Q3.r ⟨f0, fun σ2 hA => by simp only [op1, hop]; exact h0 σ2 hA⟩
    | _ => exact .fail fun σ2 hA => by simp only [op1, hop]
  | _ =>
    rw [hop] at hw
    simp only at hw
    split at hw
    · rename_i hall
      exact (qrm c (.inr (by rw [hop]; exact List.all_eq_true.1 hall))).r
    · cases hw
theorem q6r (σ : St) (d : Option Tmp) (a : AV) (hd : ∀ t ∈ d.toList, t ∈ S) : ∃ v : Us, (∀ p ∈ v, p.1 ∈ d.toList) ∧ ∀ σ2, Agr S σ σ2 → σ2.putO d a = sets σ2 v := by
  cases d with
  | none => exact ⟨[], fun p hp => (by cases hp), fun σ2 _ => rfl⟩
  | some d =>
    refine ⟨[(d, ⟨(σ.slot d).g + 1, 0, a⟩)], fun p hp => ?_, fun σ2 hA => ?_⟩
    · simp only [List.mem_singleton] at hp
      subst hp
      simp
    · simp only [St.putO, St.put, hA d (hd d (by simp))]
      rfl
theorem q8t : ∀ (ps : List Par) (os : List Operand), Cl S σ os → Agr S σ σ2 → q51 σ2 ps os = q51 σ ps os
  | [], _, _, _ => by simp only [q51]
  | _ :: _, [], _, _ => by simp only [q51]
  | p :: ps, o :: os, c, h => by
    simp only [q51, q8t ps os c.tl h]
    cases o with
    | tmp u => simp only [h.av (c.self (u := u) (by simp))]
    | _ => rfl
theorem qnw {ce : CE} (os : List Operand) (c : Cl S σ os) (h : Agr S σ σ2) : qn7 σ2 ce os = qn7 σ ce os := by
  cases os with
  | nil => rfl
  | cons o os =>
    cases o with
    | tmp u =>
      simp only [qn7, q8t ce.ps (.tmp u :: os) c h, q8s (h u (c.self (u := u) (by simp)))]
    | _ => rfl
theorem qij {ce : CE} {os : List Operand} (hw : qn7 σ ce os = some W) : ∃ u os' p ps, os = .tmp u :: os' ∧ ce.ps = p :: ps ∧ p.isB = true ∧ ps.all (·.isRd) = true ∧ W = hold σ u ++ if ce.noro then [] else q51 σ ce.ps os := by
  unfold qn7 at hw
  split at hw
  · rename_i u os
    split at hw
    · rename_i p ps e
      split at hw
      · rename_i hc
        simp only [Bool.and_eq_true] at hc
        cases hw
        exact ⟨u, os, p, ps, rfl, e, hc.1, hc.2, rfl⟩
      · cases hw
    · cases hw
  · cases hw
theorem q8u : ∀ {ps : List Par} {os : List Operand} {t : Tmp}, t ∈ q51 σ ps os → Operand.tmp t ∈ os
  | [], _, _, h => by simp [q51] at h
  | _ :: _, [], _, h => by simp [q51] at h
  | p :: ps, o :: os, t, h => by
    simp only [q51, List.mem_append] at h
    rcases h with h | h
    · split at h
      · split at h
        · split at h
          · split at h
            · cases h
            · rw [List.mem_singleton.1 h]; simp
          · cases h
        · cases h
      · cases h
    · exact List.mem_cons_of_mem _ (q8u h)
theorem qnx {ce : CE} {os : List Operand} (hw : qn7 σ ce os = some W) {t : Tmp} (ht : t ∈ W) : ∃ u, Operand.tmp u ∈ os ∧ t ∈ hold σ u := by
  obtain ⟨u, os', p, ps, rfl, _, _, _, rfl⟩ := qij hw
  rcases List.mem_append.1 ht with ht | ht
  · exact ⟨u, by simp, ht⟩
  · split at ht
    · cases ht
    · exact ⟨t, q8u ht, q59 σ t⟩
theorem qld : ∀ (ps : List Par) (ts : List TypeId) (os : List Operand), ps.all (·.isRd) = true → ∃ l0 : Option (List (Option Sv)), ∀ σ2, give E ps ts os σ2 = l0.map fun l => (l, none, σ2)
  | [], _, [], _ => ⟨some [], fun σ2 => by simp only [give]; rfl⟩
  | [], _, _ :: _, _ => ⟨none, fun σ2 => by simp only [give]; rfl⟩
  | _ :: _, _, [], _ => ⟨none, fun σ2 => by simp only [give]; rfl⟩
  | _ :: _, [], _ :: _, _ => ⟨none, fun σ2 => by simp only [give]; rfl⟩
  | p :: ps, t :: ts, o :: os, h => by
    simp only [List.all_cons, Bool.and_eq_true] at h
    obtain ⟨l0, h0⟩ := qld ps ts os h.2
    have hm : p.m = .rd := by
      have := h.1
      unfold Par.isRd at this
      split at this
      · assumption
      · cases this
    refine ⟨l0.map fun l => none :: l, fun σ2 => ?_⟩
    simp only [give, hm, h0 σ2]
    cases l0 <;> rfl
theorem qfo {o : Operand} (h : Agr S σ σ2) (c : Cl S σ os) (ho : o ∈ os) : q9r σ2 o = q9r σ o := by
  cases o with
  | tmp u =>
    simp only [q9r, h.av (c.self ho)]
    cases ha : σ.av u with
    | ref h0 p g v =>
      have h0S := c.ref ho ha
      cases p with
      | nil => simp only [h.av h0S, h h0 h0S]
      | cons _ _ => rfl
    | box τ x f r => cases r <;> rfl
    | _ => rfl
  | _ => rfl
theorem qjp {u : Tmp} {h0 : Tmp} {s : Sv} {f : Fl} (h : q9r σ (.tmp u) = some (h0, s, f)) : h0 ∈ hold σ u := by
  simp only [q9r] at h
  cases ha : σ.av u with
  | box τ x f' r =>
    rw [ha] at h
    cases r with
    | none => simp only [Option.some.injEq, Prod.mk.injEq] at h; rw [← h.1]; exact q59 σ u
    | some _ => cases h
  | ref h1 p g v =>
    rw [ha] at h
    simp only [hold, ha]
    cases p with
    | nil =>
      simp only at h
      split at h
      · split at h
        · simp only [Option.some.injEq, Prod.mk.injEq] at h; simp [h.1]
        · cases h
      · cases h
    | cons _ _ => cases h
  | _ => rw [ha] at h; cases h
theorem qfp {h : Tmp} (a : AV) (hs : σ2.slot h = σ.slot h) : σ2.turn h a = sets σ2 [(h, ⟨(σ.slot h).g, (σ.slot h).v + 1, a⟩)] := by
  simp only [St.turn, hs, sets, List.foldl_cons, List.foldl_nil]
def AV.boxy : AV → Bool
  | .box _ _ _ _ => true
  | _ => false
theorem qle {a : AV} (h : a.boxy = true) : ∃ τ x f s, a = .box τ x f s := by
  cases a with
  | box τ x f s => exact ⟨τ, x, f, s, rfl⟩
  | _ => cases h
def qb4 (σ σ' : St) (t : Tmp) : Prop := (σ'.av t).boxy = (σ.av t).boxy ∧ ((σ.av t).boxy = true → (σ'.slot t).g = (σ.slot t).g)
theorem qb4.refl (σ : St) (t : Tmp) : qb4 σ σ t := ⟨rfl, fun _ => rfl⟩
theorem qb4.of {σ σ' : St} {t : Tmp} (h : σ'.slot t = σ.slot t) : qb4 σ σ' t := ⟨by simp only [St.av, h], fun _ => by rw [h]⟩
theorem qb4.trans {σ σ1 σ2 : St} {t : Tmp} (h : qb4 σ σ1 t) (k : qb4 σ1 σ2 t) : qb4 σ σ2 t := ⟨k.1.trans h.1, fun hb => (k.2 (h.1.trans hb)).trans (h.2 hb)⟩
theorem qb4.fwd {σ σ' : St} {t : Tmp} (h : qb4 σ σ' t) {τ : Ty} {x : τ.T} {f : Fl} {s : Option Tmp} (hb : σ.av t = .box τ x f s) : (σ'.slot t).g = (σ.slot t).g ∧ ∃ τ x f s, σ'.av t = .box τ x f s := by
  have hb' : (σ.av t).boxy = true := by rw [hb]; rfl
  exact ⟨h.2 hb', qle (h.1.trans hb')⟩
theorem qb4.bwd {σ σ' : St} {t : Tmp} (h : qb4 σ σ' t) {τ : Ty} {x : τ.T} {f : Fl} {s : Option Tmp} (hb : σ'.av t = .box τ x f s) : (σ'.slot t).g = (σ.slot t).g ∧ ∃ τ x f s, σ.av t = .box τ x f s := by
  have hb' : (σ.av t).boxy = true := by rw [← h.1, hb]; rfl
  exact ⟨h.2 hb', qle hb'⟩
theorem qe3 {u : Tmp} (a : AV) (hs : σ2.slot u = σ.slot u) : σ2.put u a = sets σ2 [(u, ⟨(σ.slot u).g + 1, 0, a⟩)] := by
  simp only [St.put, hs, sets, List.foldl_cons, List.foldl_nil]
theorem qrn {u : Tmp} (hu : u ∈ S) (σ : St) : ∃ us : Us, Up [u] us ∧ (∀ σ2, σ2.length = σ.length → Agr S σ σ2 → qn5 σ2 u = sets σ2 us) ∧ ∀ t, qb4 σ (sets σ us) t := by
  cases ha : σ.av u with
  | d τ x f =>
    cases hf : f.ok τ with
    | false =>
      refine ⟨[], Up.nil, fun σ2 _ hA => ?_, fun t => qb4.refl _ _⟩
      simp only [qn5, hA.av hu, ha, hf, Bool.false_eq_true, if_false]
      rfl
    | true =>
      refine ⟨[(u, ⟨(σ.slot u).g + 1, 0, .no⟩), (u, ⟨((σ.put u .no).slot u).g + 1, 0, .d τ x .ro⟩)], ?_, fun σ2 hl hA => ?_, fun t => ?_⟩
      · intro p hp
        simp only [List.mem_cons, List.not_mem_nil, or_false] at hp
        rcases hp with rfl | rfl <;> exact ⟨by simp, rfl⟩
      · simp only [qn5, hA.av hu, ha, hf, if_true]
        have e1 := qe3 (σ := σ) (σ2 := σ2) (u := u) .no (hA u hu)
        have e2 := qe3 (σ := σ) (σ2 := σ) (u := u) .no rfl
        have hA2 : Agr S (σ.put u .no) (σ2.put u .no) := by rw [e1, e2]; exact q4e _ hl hA
        rw [qe3 (σ := σ.put u .no) (σ2 := σ2.put u .no) (u := u) (.d τ x .ro) (hA2 u hu), e1, ← q3u]
        rfl
      · by_cases e : t = u
        · subst e
          have hlt : t < σ.length := by
            refine Decidable.byContradiction fun hn => ?_
            rw [St.av, St.slot, List.getD_eq_getElem?_getD, List.getElem?_eq_none (Nat.le_of_not_lt hn)] at ha
            cases ha
          have : (St.slot (sets σ [(t, (⟨(σ.slot t).g + 1, 0, .no⟩ : Slot)), (t, ⟨((σ.put t .no).slot t).g + 1, 0, .d τ x .ro⟩)]) t).a = .d τ x .ro := by
            simp only [sets, List.foldl_cons, List.foldl_nil]
            rw [q6d, if_pos ⟨rfl, by simpa using hlt⟩]
          refine ⟨?_, fun hb => ?_⟩
          · simp only [St.av, this] at ha ⊢
            rw [ha]; rfl
          · rw [ha] at hb; cases hb
        · exact .of (q5h _ _ fun p hp e' => by
            simp only [List.mem_cons, List.not_mem_nil, or_false] at hp
            rcases hp with rfl | rfl <;> exact e e'.symm)
  | _ =>
    refine ⟨[], Up.nil, fun σ2 _ hA => ?_, fun t => qb4.refl _ _⟩
    simp only [qn5, hA.av hu, ha]
    rfl
theorem qp8 : ∀ (l : List Tmp), (∀ u ∈ l, u ∈ S) → ∀ σ : St, ∃ us : Us, Up l us ∧ (∀ σ2, σ2.length = σ.length → Agr S σ σ2 → l.foldl qn5 σ2 = sets σ2 us) ∧ ∀ t, qb4 σ (sets σ us) t
  | [], _, σ => ⟨[], Up.nil, fun σ2 _ _ => rfl, fun t => qb4.refl _ _⟩
  | u :: l, hS, σ => by
    obtain ⟨us, h1, h2, h3⟩ := qrn (hS u (List.mem_cons_self ..)) σ
    obtain ⟨vs, k1, k2, k3⟩ := qp8 l (fun u hu => hS u (List.mem_cons_of_mem _ hu)) (sets σ us)
    refine ⟨us ++ vs, fun p hp => ?_, fun σ2 hl hA => ?_, fun t => ?_⟩
    · rcases List.mem_append.1 hp with hp | hp
      · exact ⟨by have := (h1 p hp).1; rw [List.mem_singleton.1 this]; simp, (h1 p hp).2⟩
      · exact ⟨List.mem_cons_of_mem _ (k1 p hp).1, (k1 p hp).2⟩
    · rw [List.foldl_cons, h2 σ2 hl hA, k2 _ (by rw [q48, q48, hl]) (q4e us hl hA), q3u]
    · rw [q3u]; exact (h3 t).trans (k3 t)
theorem qlf {u : Tmp} {h0 : Tmp} {s : Sv} {f : Fl} (h : q9r σ (.tmp u) = some (h0, s, f)) : σ.av h0 = .box s.1 s.2 f none := by
  simp only [q9r] at h
  cases ha : σ.av u with
  | box τ x f' r =>
    rw [ha] at h
    cases r with
    | none => simp only [Option.some.injEq, Prod.mk.injEq] at h; obtain ⟨rfl, rfl, rfl⟩ := h; exact ha
    | some _ => cases h
  | ref h1 p g v =>
    rw [ha] at h
    cases p with
    | nil =>
      simp only at h
      split at h
      · split at h
        · rename_i hb
          simp only [Option.some.injEq, Prod.mk.injEq] at h
          obtain ⟨rfl, rfl, rfl⟩ := h
          exact hb
        · cases h
      · cases h
    | cons _ _ => cases h
  | _ => rw [ha] at h; cases h
theorem qb5 {o : Oper} {f : FuncId} {az : Array Operand} {ts : Array TypeId} (hop : o.op = .call ⟨.value (.func f), az, ts⟩) (σ : St) : clo σ o = o := by
  unfold clo
  simp only [hop]
theorem qjq {o : Oper} {f : FuncId} {az : Array Operand} {ts : Array TypeId} {ce ce' : CE} {u : Tmp} {os : List Operand} {p : Par} {ps : List Par} {x : q4l (ce'.ps.map (·.τ))} {k : q4l (outs ce'.ps ce'.rs) → St} (r : q4l (outs ce'.ps ce'.rs)) (hop : o.op = .call ⟨.value (.func f), az, ts⟩) (hl : C.lookup f = some ce)
    (ca : Cl S σ az.toList) (hd : ∀ t ∈ o.dst.toList, t ∈ S) (eas : az.toList = .tmp u :: os) (eps : ce.ps = p :: ps) (hB : p.isB = true) (hrd : ps.all (·.isRd) = true) (hk : q5d E C o σ = some ⟨ce', x, k⟩) :
    ∃ us : Us, (∀ p ∈ us, p.1 ∈ o.dst.toList ++ hold σ u) ∧ (∀ σ2, σ2.length = σ.length → Agr S σ σ2 → ∃ k2, q5d E C o σ2 = some ⟨ce', x, k2⟩ ∧ k2 r = sets σ2 us) ∧ ∀ t, o.dst ≠ some t → qb4 σ (sets σ us) t := by
  unfold q5d at hk
  simp only [hop, hl] at hk
  obtain ⟨f1, hm⟩ : ∃ f1, p.m = .bx f1 := by
    have := hB
    unfold Par.isB at this
    split at this
    · exact ⟨_, by assumption⟩
    · cases this
  cases ets : ts.toList with
  | nil =>
    have : give E ce.ps ts.toList az.toList σ = none := by rw [eas, eps, ets]; simp only [give]
    rw [this] at hk; cases hk
  | cons t0 ts' =>
  obtain ⟨l0, hl0⟩ := qld (E := E) ps ts' os hrd
  have hg : ∀ σ2, give E ce.ps ts.toList az.toList σ2 = match l0.map fun l => (l, (none : Option Bk), σ2) with
      | some (l, none, σ2) => (match q9r σ2 (.tmp u) with
        | some (h, s, f') => if f' = f1 then some (some s :: l, some ⟨h, none, f1⟩, σ2) else none
        | none => none)
      | _ => none := by
    intro σ2
    rw [eas, eps, ets]
    simp only [give, hm, hl0 σ2]
    cases l0 <;> rfl
  rw [hg σ] at hk
  cases l0 with
  | none => simp only [Option.map_none] at hk; cases hk
  | some l =>
  simp only [Option.map_some] at hk
  cases hbx : q9r σ (.tmp u) with
  | none => rw [hbx] at hk; cases hk
  | some q =>
  obtain ⟨h0, s, f'⟩ := q
  rw [hbx] at hk
  simp only at hk
  by_cases ef : f' = f1
  case neg => rw [if_neg ef] at hk; cases hk
  rw [if_pos ef] at hk
  simp only at hk
  have hu : Operand.tmp u ∈ az.toList := by rw [eas]; simp
  have hW : h0 ∈ hold σ u := qjp hbx
  have hS : h0 ∈ S := ca u hu h0 hW
  have up1 : ∀ a : AV, a.firm = true → Up (hold σ u) [(h0, (⟨(σ.slot h0).g, (σ.slot h0).v + 1, a⟩ : Slot))] := fun a ha p hp => by rw [List.mem_singleton.1 hp]; exact ⟨hW, ha⟩
  have less_eq : ∀ σ2, Agr S σ σ2 → σ2.less (Option.bind (some (⟨h0, none, f1⟩ : Bk)) Bk.box) = sets σ2 [(h0, ⟨(σ.slot h0).g, (σ.slot h0).v + 1, .no⟩)] := fun σ2 hA => qfp .no (hA h0 hS)
  rw [less_eq σ Agr.rfl'] at hk
  split at hk
  case h_2 => cases hk
  rename_i ss lent hf
  split at hk
  case isTrue => cases hk
  rename_i hn
  split at hk
  case h_2 => cases hk
  rename_i x1 hx1
  cases Option.some.inj hk
  cases hus : (unpack _ r)[ce.rs.length]? with
  | none =>
    obtain ⟨v, v1, v2⟩ := q6r σ o.dst (q7j (q4g ce.rs (unpack _ r))) hd
    refine ⟨v, fun p hp => List.mem_append.2 (.inl (v1 p hp)), fun σ2 hl2 hA => ?_, fun t ht => .of (q5h v σ fun p hp e => ht (by have := v1 p hp; rw [e] at this; exact Option.mem_toList.1 this))⟩
    have hf' : q7p E (σ2.less (Option.bind (some (⟨h0, none, f1⟩ : Bk)) Bk.box)) (some s :: l) ts.toList az.toList = some (ss, lent) := by
      rw [less_eq σ2 hA]
      exact (q98 _ _ _ (ca.sets _ (up1 .no rfl)) (q4e _ hl2 hA)).trans hf
    have e : q5d E C o σ2 = some ⟨ce, x1, fun r => (match (unpack _ r)[ce.rs.length]? with | some s => qh3 σ2 ⟨h0, none, f1⟩ s | none => σ2).putO o.dst (q7j (q4g ce.rs (unpack _ r)))⟩ := by
      unfold q5d
      simp only [hop, hl]
      rw [hg σ2]
      simp only [Option.map_some, qfo hA ca hu, hbx]
      rw [if_pos ef]
      simp only
      rw [hf']
      simp only
      rw [if_neg hn]
      simp only [hx1]
      rfl
    refine ⟨_, e, ?_⟩
    simp only [hus]
    exact v2 σ2 hA
  | some s' =>
    have upb := up1 (.box s'.1 s'.2 f1 none) rfl
    obtain ⟨v, v1, v2⟩ := q6r (sets σ [(h0, (⟨(σ.slot h0).g, (σ.slot h0).v + 1, .box s'.1 s'.2 f1 none⟩ : Slot))]) o.dst (q7j (q4g ce.rs (unpack _ r))) hd
    refine ⟨[(h0, (⟨(σ.slot h0).g, (σ.slot h0).v + 1, .box s'.1 s'.2 f1 none⟩ : Slot))] ++ v, fun p hp => ?_, fun σ2 hl2 hA => ?_, fun t ht => ?_⟩
    · rcases List.mem_append.1 hp with hp | hp
      · exact List.mem_append.2 (.inr (upb p hp).1)
      · exact List.mem_append.2 (.inl (v1 p hp))
    rotate_left
    · have e1 : (sets σ ([(h0, (⟨(σ.slot h0).g, (σ.slot h0).v + 1, .box s'.1 s'.2 f1 none⟩ : Slot))] ++ v)).slot t = if t = h0 ∧ h0 < σ.length then ⟨(σ.slot h0).g, (σ.slot h0).v + 1, .box s'.1 s'.2 f1 none⟩ else σ.slot t := by
        rw [q3u, q5h v _ fun p hp e => ht (by have := v1 p hp; rw [e] at this; exact Option.mem_toList.1 this)]
        simp only [sets, List.foldl_cons, List.foldl_nil]
        exact q6d σ h0 _ t
      split at e1
      · rename_i hh
        obtain ⟨rfl, _⟩ := hh
        exact ⟨by rw [qlf hbx, St.av, e1]; rfl, fun _ => by rw [e1]⟩
      · exact .of e1
    have hf' : q7p E (σ2.less (Option.bind (some (⟨h0, none, f1⟩ : Bk)) Bk.box)) (some s :: l) ts.toList az.toList = some (ss, lent) := by
      rw [less_eq σ2 hA]
      exact (q98 _ _ _ (ca.sets _ (up1 .no rfl)) (q4e _ hl2 hA)).trans hf
    have e : q5d E C o σ2 = some ⟨ce, x1, fun r => (match (unpack _ r)[ce.rs.length]? with | some s => qh3 σ2 ⟨h0, none, f1⟩ s | none => σ2).putO o.dst (q7j (q4g ce.rs (unpack _ r)))⟩ := by
      unfold q5d
      simp only [hop, hl]
      rw [hg σ2]
      simp only [Option.map_some, qfo hA ca hu, hbx]
      rw [if_pos ef]
      simp only
      rw [hf']
      simp only
      rw [if_neg hn]
      simp only [hx1]
      rfl
    refine ⟨_, e, ?_⟩
    simp only [hus]
    have eb : qh3 σ2 ⟨h0, none, f1⟩ s' = sets σ2 [(h0, (⟨(σ.slot h0).g, (σ.slot h0).v + 1, .box s'.1 s'.2 f1 none⟩ : Slot))] := qfp _ (hA h0 hS)
    rw [eb, v2 _ (q4e _ hl2 hA), q3u]
theorem qik {o : Oper} {σ' : St} {f : FuncId} {az : Array Operand} {ts : Array TypeId} {ce : CE} (hop : o.op = .call ⟨.value (.func f), az, ts⟩) (hl : C.lookup f = some ce) (hb : ce.ps.any (·.isIn) = true)
    (ca : Cl S σ az.toList) (hd : ∀ t ∈ o.dst.toList, t ∈ S) (hw : qn7 σ ce az.toList = some W) (hr : qdq E C o σ = some σ') :
    ∃ u : Us, (∀ p ∈ u, p.1 ∈ o.dst.toList ++ W) ∧ (∀ σ2, σ2.length = σ.length → Agr S σ σ2 → qdq E C o σ2 = some (sets σ2 u)) ∧ ∀ t, o.dst ≠ some t → qb4 σ (sets σ u) t := by
  obtain ⟨u, os, p, ps, eas, eps, hB, hrd, rfl⟩ := qij hw
  obtain ⟨v0, hv0, hpre, hbx0⟩ : ∃ v0 : Us, Up (if ce.noro then [] else q51 σ ce.ps az.toList) v0 ∧ (∀ σ2, σ2.length = σ.length → Agr S σ σ2 → pre C o σ2 = sets σ2 v0) ∧ ∀ t, qb4 σ (sets σ v0) t := by
    cases hn : ce.noro with
    | true =>
      refine ⟨[], Up.nil, fun σ2 _ _ => ?_, fun t => qb4.refl _ _⟩
      unfold pre
      simp only [hop, hl, hb, hn]
      rfl
    | false =>
      obtain ⟨us, h1, h2, h3⟩ := qp8 (S := S) (q51 σ ce.ps az.toList) (fun t ht => ca.self (q8u ht)) σ
      refine ⟨us, h1, fun σ2 hl2 hA => ?_, h3⟩
      unfold pre
      simp only [hop, hl, hb, hn, q8t ce.ps az.toList ca hA]
      exact h2 σ2 hl2 hA
  have hr1 := hr
  unfold qdq at hr
  simp only [hop, qb5 hop, hpre σ rfl Agr.rfl'] at hr
  cases hk : q5d E C o (sets σ v0) with
  | none => rw [hk] at hr; cases hr
  | some q =>
  rw [hk] at hr
  obtain ⟨ce', x, k⟩ := q
  simp only at hr
  obtain ⟨r, hF, _⟩ := Option.map_eq_some_iff.1 hr
  obtain ⟨us, h1, h2, h3⟩ := qjq (S := S) r hop hl (ca.sets v0 hv0) hd eas eps hB hrd hk
  refine ⟨v0 ++ us, fun p hp => ?_, fun σ2 hl2 hA => ?_, fun t ht => ?_⟩
  · rcases List.mem_append.1 hp with hp | hp
    · exact List.mem_append.2 (.inr (List.mem_append.2 (.inr (hv0 p hp).1)))
    · rcases List.mem_append.1 (h1 p hp) with h | h
      · exact List.mem_append.2 (.inl h)
      · exact List.mem_append.2 (.inr (List.mem_append.2 (.inl (q99 v0 hv0 _ h))))
  · obtain ⟨k2, e1, e2⟩ := h2 (sets σ2 v0) (by rw [q48, q48, hl2]) (q4e v0 hl2 hA)
    unfold qdq
    simp only [hop, qb5 hop, hpre σ2 hl2 hA, e1, hF, Option.map_some, e2, q3u]
  · rw [q3u]; exact (hbx0 t).trans (h3 t ht)
theorem qp9 {o : Oper} {σ' : St} (c : Cl S σ o.op.operands.toList) (hd : ∀ t ∈ o.dst.toList, t ∈ S) (hw : qbe E C σ o.op = some W) (hr : qdq E C o σ = some σ') :
    ∃ u : Us, (∀ p ∈ u, p.1 ∈ o.dst.toList ++ W) ∧ ∀ σ2, σ2.length = σ.length → Agr S σ σ2 → qdq E C o σ2 = some (sets σ2 u) := by
  have hr0 := hr
  unfold qdq at hr
  split at hr
  · rename_i k a b hop
    rw [hop] at c
    split at hr
    case h_2 => cases hr
    rename_i x hx
    obtain ⟨v, v1, v2⟩ := q6r σ o.dst (copy E σ o.type (if x = true then a else b)) hd
    refine ⟨v, fun p hp => List.mem_append.2 (.inl (v1 p hp)), fun σ2 hl hA => ?_⟩
    unfold qdq
    simp only [hop, q49 hA c (o := k) (by simp [Op.operands]), hx]
    rw [qb2 hA c, v2 σ2 hA]
    simp only [Op.operands]
    split <;> simp
  · rename_i v az ts hop
    rw [hop] at c
    split at hr
    case h_2 => cases hr
    rename_i ce x k hk
    obtain ⟨r, hr1, hr2⟩ := Option.map_eq_some_iff.1 hr
    cases v with
    | func f =>
      rw [hop] at hw
      unfold qbe at hw
      rw [if_neg (by simp [q56])] at hw
      simp only at hw
      rw [qb5 hop] at hk
      unfold q5d at hk
      simp only [hop] at hk
      cases hl : C.lookup f with
      | none => simp only [hl] at hk; cases hk
      | some ce1 =>
        rw [hl] at hk hw
        simp only at hk hw
        cases hb : ce1.ps.any (·.isIn) with
        | true =>
          rw [hb] at hw
          simp only [if_true] at hw
          have ca : Cl S σ az.toList := fun u hu => c u (by simp [Op.operands, Call.operands]; exact Array.mem_toList_iff.1 hu)
          obtain ⟨u, h1, h2, _⟩ := qik hop hl hb ca hd hw hr0
          exact ⟨u, h1, h2⟩
        | false =>
        have hpre : ∀ σ : St, pre C o σ = σ := by
          intro σ
          unfold pre
          simp only [hop, hl, hb, Bool.false_and, Bool.false_eq_true, if_false]
        rw [hpre] at hk
        rw [hb] at hw
        simp only [if_false, Bool.false_eq_true] at hw
        obtain rfl := Option.some.inj hw
        have ca : Cl S σ az.toList := fun u hu => c u (by simp [Op.operands, Call.operands]; exact Array.mem_toList_iff.1 hu)
        obtain ⟨f0, hu, h0⟩ := qlb (E := E) ce1.ps ts.toList az.toList σ ca (wdA fun t ht => ht) hb
        rw [h0 σ rfl Agr.rfl'] at hk
        rcases f0 with _ | ⟨l, u⟩
        · cases hk
        have hu1 := hu _ rfl
        simp only [Option.map_some] at hk
        split at hk
        case h_2 => cases hk
        rename_i ss lent hf
        split at hk
        case isTrue => cases hk
        rename_i hn
        split at hk
        case h_2 => cases hk
        rename_i x1 hx1
        cases Option.some.inj hk
        obtain ⟨v, v1, v2⟩ := q6r (sets σ u) o.dst (q7j (q4g ce.rs (unpack _ r))) hd
        refine ⟨u ++ v, fun p hp => ?_, fun σ2 hl2 hA => ?_⟩
        · rcases List.mem_append.1 hp with hp | hp
          · exact List.mem_append.2 (.inr (hu1 p hp).1)
          · exact List.mem_append.2 (.inl (v1 p hp))
        have hA1 := q4e u hl2 hA
        have e : q5d E C o σ2 = some ⟨ce, x, fun r => (sets σ2 u).putO o.dst (q7j (q4g ce.rs (unpack _ r)))⟩ := by
          unfold q5d
          have hf' : q7p E ((sets σ2 u).less (Option.bind none Bk.box)) l ts.toList az.toList = some (ss, lent) := (q98 l ts.toList az.toList (ca.sets u hu1) hA1).trans hf
          simp only [hop, hl, h0 σ2 hl2 hA, Option.map_some]
          rw [hf']
          simp only []
          rw [if_neg hn]
          simp only [hx1]
        unfold qdq
        simp only [hop, qb5 hop, hpre, e, hr1, Option.map_some]
        rw [v2 _ hA1, q3u]
    | tmp u =>
      have hcl : clo σ o = o := by
        unfold clo
        simp only [hop]
        cases ha : σ.av u with
        | cl f h0 g =>
          rw [hop] at hw
          unfold qbe at hw
          rw [if_neg (by simp [q56])] at hw
          simp [Op.operands, Call.operands, q4n, still, ha] at hw
        | _ => rfl
      rw [hcl] at hk
      simp [q5d, hop] at hk
    | _ => simp [q5d, clo, hop] at hk
  · rename_i n1 n2
    split at hr
    case h_2 => cases hr
    rename_i g a σ1 hop1
    split at hr
    case isFalse => cases hr
    rename_i hg
    obtain ⟨f0, hu, h0⟩ := qsv (E := E) c hw
    have h1 := h0 σ rfl Agr.rfl'
    simp only at h1
    rw [hop1] at h1
    rcases f0 with _ | ⟨⟨g', a'⟩, u⟩
    · cases h1
    simp only [Option.map_some, Option.some.injEq, Prod.mk.injEq] at h1
    obtain ⟨rfl, rfl, e3⟩ := h1
    obtain ⟨v, v1, v2⟩ := q6r (sets σ u) o.dst a hd
    refine ⟨u ++ v, fun p hp => ?_, fun σ2 hl hA => ?_⟩
    · rcases List.mem_append.1 hp with hp | hp
      · exact List.mem_append.2 (.inr (hu _ rfl p hp).1)
      · exact List.mem_append.2 (.inl (v1 p hp))
    · have h2 := h0 σ2 hl hA
      simp only [Option.map_some] at h2
      unfold qdq
      split
      · rename_i hop; exact (n1 _ _ _ hop).elim
      · rename_i hop; exact (n2 _ _ _ hop).elim
      · rw [h2]
        simp only [hg, if_true]
        rw [v2 _ (q4e u hl hA), q3u]
theorem qro {ops : Array Oper} {o : Oper} {σ' : St} (c : Cl S σ o.op.operands.toList) (hd : ∀ t ∈ o.dst.toList, t ∈ S) (hgS : ∀ t ∈ qf3 ops o, t ∈ S) (hw : qbe E C σ o.op = some W) (hr : q89 E C ops o σ = some σ') :
    ∃ u : Us, (∀ p ∈ u, p.1 ∈ o.dst.toList ++ W) ∧ ∀ σ2, σ2.length = σ.length → Agr S σ σ2 → q89 E C ops o σ2 = some (sets σ2 u) := by
  have unp : ∃ u : Us, (∀ p ∈ u, p.1 ∈ o.dst.toList ++ W) ∧ ∀ σ2, σ2.length = σ.length → Agr S σ σ2 → some (σ2.putO o.dst .un) = some (sets σ2 u) := by
    obtain ⟨v, v1, v2⟩ := q6r σ o.dst .un hd
    exact ⟨v, fun p hp => List.mem_append.2 (.inl (v1 p hp)), fun σ2 _ hA => by rw [v2 σ2 hA]⟩
  unfold q89 at hr
  split at hr
  · rename_i hg
    obtain ⟨u, u1, u2⟩ := qp9 c hd hw hr
    exact ⟨u, u1, fun σ2 hl hA => by unfold q89; simp only [hg]; exact u2 σ2 hl hA⟩
  · rename_i j want hg
    cases hdd : (ops[j]?).bind (·.dst) with
    | none => rw [hdd] at hr; cases hr
    | some g =>
      rw [hdd] at hr
      simp only at hr
      have hgm : g ∈ S := hgS g (by simp only [qf3, hg, hdd]; simp)
      cases ha : σ.av g with
      | un =>
        obtain ⟨u, u1, u2⟩ := unp
        exact ⟨u, u1, fun σ2 hl hA => by unfold q89; simp only [hg, hdd, hA.av hgm, ha]; exact u2 σ2 hl hA⟩
      | d τ b f =>
        rw [ha] at hr
        split at hr
        · rename_i e; cases e
        · rename_i b1 e
          cases e
          split at hr
          · rename_i hb
            obtain ⟨u, u1, u2⟩ := qp9 c hd hw hr
            exact ⟨u, u1, fun σ2 hl hA => by unfold q89; simp only [hg, hdd, hA.av hgm, ha, if_pos hb]; exact u2 σ2 hl hA⟩
          · rename_i hb
            obtain ⟨u, u1, u2⟩ := unp
            exact ⟨u, u1, fun σ2 hl hA => by unfold q89; simp only [hg, hdd, hA.av hgm, ha, if_neg hb]; exact u2 σ2 hl hA⟩
        · cases hr
      | _ => rw [ha] at hr; cases hr
theorem qe4 {u : Tmp} {os : List Operand} : u ∈ tmpsOf os ↔ Operand.tmp u ∈ os := by
  simp only [tmpsOf, List.mem_filterMap]
  constructor
  · rintro ⟨o, h, e⟩
    cases o <;> simp at e
    subst e
    exact h
  · exact fun h => ⟨_, h, rfl⟩
theorem qhg {ops : Array Oper} {o : Oper} {acc : List qat} : Cl (q3e E C ops σ o acc).1 σ o.op.operands.toList := by
  intro u hu t ht
  simp only [q3e, looks, List.mem_append, List.mem_flatMap]
  exact .inr (.inr (.inl ⟨u, qe4.2 hu, ht⟩))
theorem qjr {x : Operand} (h : Agr S σ σ2) (c : Cl S σ os) (hx : x ∈ os) : q4n σ2 x = q4n σ x := by
  cases x with
  | tmp u => simp only [q4n, still, h.av (c.self hx)]
  | _ => rfl
theorem qlg : ∀ (os : List Operand), Cl S σ os → Agr S σ σ2 → os.all (q4n σ2) = os.all (q4n σ)
  | [], c, h => rfl
  | o :: os, c, h => by
    simp only [List.all_cons, qlg os (fun u hu => c u (List.mem_cons_of_mem _ hu)) h, qjr h c (List.mem_cons_self ..)]
theorem qlh {u : Tmp} (h : Agr S σ σ2) (hu : u ∈ S) : still σ2 u = still σ u := by simp only [still, h.av hu]
theorem q8v {x : Operand} (h : Agr S σ σ2) (c : Cl S σ os) (hx : x ∈ os) : wr1 σ2 x = wr1 σ x := by
  cases x with
  | tmp u => simp only [wr1, qlh h (c.self hx), q8s (h u (c.self hx))]
  | _ => rfl
theorem qhh : ∀ (os : List Operand), Cl S σ os → Agr S σ σ2 → os.flatMap (wr1 σ2) = os.flatMap (wr1 σ)
  | [], c, h => rfl
  | o :: os, c, h => by simp only [List.flatMap_cons, qhh os c.tl h, q8v h c (List.mem_cons_self ..)]
theorem qd4 : ∀ (ps : List Par) (os : List Operand), Cl S σ os → Agr S σ σ2 → q6l σ2 ps os = q6l σ ps os
  | [], _, c, h => by simp only [q6l]
  | p :: ps, [], c, h => by simp only [q6l]
  | p :: ps, o :: os, c, h => by simp only [q6l, qd4 ps os c.tl h, q8v h c (List.mem_cons_self ..)]
theorem qrp {o : Oper} (c : Cl S σ o.op.operands.toList) (h : Agr S σ σ2) : qbe E C σ2 o.op = qbe E C σ o.op := by
  have em : qkk σ2 o.op = qkk σ o.op := by
    cases ho : o.op with
    | move x =>
      rw [ho] at c
      cases x with
      | tmp u => simp only [qkk, h.av (c.self (u := u) (by simp [Op.operands]))]
      | _ => rfl
    | _ => rfl
  unfold qbe
  rw [em]
  split
  · rfl
  · split
    · rename_i f az ts he
      have ca : Cl S σ az.toList := fun u hu => c u (by rw [he]; simp [Op.operands, Call.operands]; exact Array.mem_toList_iff.1 hu)
      cases C.lookup f with
      | none => rfl
      | some ce => simp only [qd4 ce.ps az.toList ca h, qnw az.toList ca h]
    · rename_i b az ts he
      have ca : Cl S σ az.toList := fun u hu => c u (by rw [he]; simp [Op.operands, Call.operands]; exact Array.mem_toList_iff.1 hu)
      split
      · rename_i x y t _ e1 _
        rw [e1] at ca
        simp only [q8v h ca (x := x) (by simp), q8v h ca (x := y) (by simp)]
      · rfl
    · rename_i x he
      rw [he] at c
      rw [q8v h c (by simp [Op.operands])]
    · rename_i t u x he
      rw [he] at c
      rw [q8v h c (by simp [Op.operands]), q8s (h u (c.self (by simp [Op.operands])))]
    · rfl
    · rename_i u i he
      rw [he] at c
      have : still σ2 u = still σ u := by simp only [still, h.av (c.self (u := u) (by simp [Op.operands]))]
      rw [this]
    · rename_i t x he
      rw [he] at c
      rw [q8v h c (by simp [Op.operands])]
    · rename_i t ps he
      rw [he] at c
      rw [qhh _ (by simpa [Op.operands] using c) h]
    · rename_i t n ps he
      rw [he] at c
      rw [qhh _ (by simpa [Op.operands] using c) h]
    · rw [qlg _ c h]
theorem qb6 {ops : Array Oper} {o : Oper} {acc : List qat} (h : Agr (q3e E C ops σ o acc).1 σ σ2) : q3e E C ops σ2 o acc = q3e E C ops σ o acc := by
  have c : Cl (q3e E C ops σ o acc).1 σ o.op.operands.toList := qhg
  have e : looks σ2 o = looks σ o := by
    simp only [looks]
    congr 1
    have : ∀ us : List Tmp, (∀ u ∈ us, u ∈ tmpsOf o.op.operands.toList) → us.flatMap (hold σ2) = us.flatMap (hold σ) := by
      intro us
      induction us with
      | nil => intro _; rfl
      | cons u us ih =>
        intro hu
        simp only [List.flatMap_cons, ih fun u hu' => hu u (List.mem_cons_of_mem _ hu'), q8s (h u (c.self (qe4.1 (hu u (List.mem_cons_self ..)))))]
    rw [this _ fun _ h => h]
    congr 1
    unfold qkj
    split
    · rename_i u he
      rw [he] at c
      rw [h.av (c.self (u := u) (by simp [Op.operands]))]
    · rfl
  simp only [q3e, e, qrp c h]
structure It where
  i : Nat
  o : Oper
  f : qat
inductive Tr (E : q4v) (C : CEs) (ops : Array Oper) : List It → St → St → Prop
  | nil (σ : St) : Tr E C ops [] σ σ
  | cons {i : Nat} {o : Oper} {f : qat} {l : List It} {σ σ1 σ' : St} (acc : List qat) (hf : q3e E C ops σ o acc = f) (h1 : q89 E C ops o σ = some σ1) (h2 : Tr E C ops l σ1 σ') : Tr E C ops (⟨i, o, f⟩ :: l) σ σ'
def Ap (C : CEs) (p r : It) : Prop := ((r.f.2.2.1 = true ∧ p.f.2.2.1 = true) ∧ apart p.f.2.1 r.f.1 = true ∧ apart r.f.2.1 p.f.1 = true) ∨ (ex2 r.o p.o || (mvb C r.o p.o r.f p.f || mvb C p.o r.o p.f r.f)) = true
theorem qbt {a b : List Tmp} (h : apart a b = true) {t : Tmp} (ht : t ∈ a) : t ∉ b := by
  simp only [apart, List.all_eq_true] at h
  have := h t ht
  simpa using this
theorem q8w {x : Operand} (hx : x ∈ os) {t : Tmp} (ht : t ∈ wr1 σ x) : ∃ u, Operand.tmp u ∈ os ∧ t ∈ hold σ u := by
  cases x with
  | tmp u =>
    simp only [wr1] at ht
    split at ht
    · cases ht
    · exact ⟨u, hx, ht⟩
  | _ => simp [wr1] at ht
theorem qd5 : ∀ {ps : List Par} {az : List Operand} {t : Tmp}, t ∈ q6l σ ps az → ∃ u, Operand.tmp u ∈ az ∧ t ∈ hold σ u
  | [], _, t, ht => by simp [q6l] at ht
  | p :: ps, [], t, ht => by simp [q6l] at ht
  | p :: ps, o :: az, t, ht => by
    simp only [q6l, List.mem_append] at ht
    rcases ht with ht | ht
    · cases hm : p.m with
      | own f => rw [hm] at ht; exact q8w (List.mem_cons_self ..) ht
      | _ => rw [hm] at ht; simp at ht
    · obtain ⟨u, h1, h2⟩ := qd5 ht
      exact ⟨u, List.mem_cons_of_mem _ h1, h2⟩
theorem qli {l : List Operand} {t : Tmp} (ht : t ∈ l.flatMap (wr1 σ)) : ∃ u, Operand.tmp u ∈ l ∧ t ∈ hold σ u := by
  obtain ⟨x, h1, h2⟩ := List.mem_flatMap.1 ht
  exact q8w h1 h2
theorem qrq {op : Op} (hw : qbe E C σ op = some W) {t : Tmp} (ht : t ∈ W) : ∃ u, Operand.tmp u ∈ op.operands.toList ∧ t ∈ hold σ u := by
  unfold qbe at hw
  split at hw
  · cases hw; cases ht
  · split at hw
    · rename_i f az ts _
      have up : (∃ u, Operand.tmp u ∈ az.toList ∧ t ∈ hold σ u) → ∃ u, Operand.tmp u ∈ (Op.call ⟨.value (.func f), az, ts⟩).operands.toList ∧ t ∈ hold σ u := fun ⟨u, h1, h2⟩ => ⟨u, by simp [Op.operands, Call.operands]; exact Array.mem_toList_iff.1 h1, h2⟩
      split at hw
      · split at hw
        · exact up (qnx hw ht)
        · cases hw; exact up (qd5 ht)
      · cases hw
    · rename_i b az ts _
      have up : (∃ u, Operand.tmp u ∈ az.toList ∧ t ∈ hold σ u) → ∃ u, Operand.tmp u ∈ (Op.call ⟨.builtin b, az, ts⟩).operands.toList ∧ t ∈ hold σ u := fun ⟨u, h1, h2⟩ => ⟨u, by simp [Op.operands, Call.operands]; exact Array.mem_toList_iff.1 h1, h2⟩
      split at hw
      · rename_i x y t1 _ e1 _
        cases hw
        refine up ?_
        rw [e1]
        rcases List.mem_append.1 ht with ht | ht
        · exact q8w (by simp) ht
        · refine q8w (x := y) (by simp) ?_
          split at ht
          · split at ht
            · cases ht
            · exact ht
          · exact ht
      · cases hw; cases ht
    · cases hw; exact q8w (by simp [Op.operands]) ht
    · rename_i t1 u x _
      cases hw
      rcases List.mem_append.1 ht with ht | ht
      · exact ⟨u, by simp [Op.operands], ht⟩
      · exact q8w (by simp [Op.operands]) ht
    · rename_i u _
      cases hw
      rw [List.mem_singleton.1 ht]
      exact ⟨u, by simp [Op.operands], q59 σ u⟩
    · rename_i u i _
      cases hw
      split at ht
      · cases ht
      · rw [List.mem_singleton.1 ht]
        exact ⟨u, by simp [Op.operands], q59 σ u⟩
    · cases hw; exact q8w (by simp [Op.operands]) ht
    · rename_i t1 ps _
      cases hw
      obtain ⟨u, h1, h2⟩ := qli ht
      exact ⟨u, by simpa [Op.operands] using h1, h2⟩
    · rename_i t1 n ps _
      cases hw
      obtain ⟨u, h1, h2⟩ := qli ht
      exact ⟨u, by simpa [Op.operands] using h1, h2⟩
    · split at hw
      · cases hw; cases ht
      · cases hw
theorem qlj {ops : Array Oper} {o : Oper} {acc : List qat} (hq : (q3e E C ops σ o acc).2.2.1 = true) {t : Tmp} (ht : t ∈ (q3e E C ops σ o acc).2.1) : t ∈ (q3e E C ops σ o acc).1 := by
  cases hw : qbe E C σ o.op with
  | none => simp [q3e, hw] at hq
  | some W =>
    simp only [q3e, hw, Option.getD_some, List.mem_append] at ht
    simp only [q3e, looks, List.mem_append, List.mem_flatMap]
    rcases ht with ht | ht
    · exact .inr (.inl ht)
    · obtain ⟨u, h1, h2⟩ := qrq hw ht
      exact .inr (.inr (.inl ⟨u, qe4.2 h1, h2⟩))
theorem put_comm (σ : St) {d e : Nat} (a b : AV) (h : d ≠ e) : (σ.put d a).put e b = (σ.put e b).put d a := by
  simp only [St.put]
  rw [show St.slot (σ.set d ⟨(σ.slot d).g + 1, 0, a⟩) e = σ.slot e from St.slot_put_ne (a := a) (Ne.symm h), show St.slot (σ.set e ⟨(σ.slot e).g + 1, 0, b⟩) d = σ.slot d from St.slot_put_ne (a := b) h]
  exact List.set_comm _ _ h
theorem qb7 (σ : St) {d u : Nat} (a b : AV) (h : d ≠ u) : (σ.put d a).turn u b = (σ.turn u b).put d a := by
  simp only [St.put, St.turn]
  rw [show St.slot (σ.set d ⟨(σ.slot d).g + 1, 0, a⟩) u = σ.slot u from St.slot_put_ne (a := a) (Ne.symm h), show St.slot (σ.set u ⟨(σ.slot u).g, (σ.slot u).v + 1, b⟩) d = σ.slot d from St.slot_turn_ne (a := b) h]
  exact List.set_comm _ _ h
theorem qfq (σ : St) {u : Nat} (hu : u < σ.length) (a b : AV) : (σ.turn u a).turn u b = σ.set u ⟨(σ.slot u).g, (σ.slot u).v + 2, b⟩ := by
  rw [St.turn, St.slot_turn_eq hu]
  simp only [St.turn, List.set_set]
theorem q74 {ops : Array Oper} {o : Oper} {u d : Tmp} {i : Nat} (ho : o.op = .extract (.tmp u) i) (hd : o.dst = some d) (hg : o.guard = none) :
    q89 E C ops o σ = match σ.av u with
      | .tup l => match l[i]? with
        | some a => if l.all AV.plain then some ((if a.fixd then σ else σ.turn u (.tup (l.set i .no))).put d a) else none
        | none => none
      | _ => none := by
  unfold q89 qdq
  simp only [hg, ho, op1, hd, St.putO]
  cases σ.av u with
  | tup l =>
    simp only
    cases l[i]? with
    | none => rfl
    | some a =>
      simp only
      by_cases hp : l.all AV.plain = true
      · simp only [if_pos hp]
        rfl
      · simp only [if_neg hp]
  | _ => rfl
theorem qag {ops : Array Oper} {o : Oper} {u : Tmp} {i : Nat} {acc : List qat} (ho : o.op = .extract (.tmp u) i) (h1 : hold σ2 u = hold σ u) (h2 : still σ2 u = still σ u) : q3e E C ops σ2 o acc = q3e E C ops σ o acc := by
  have e1 : looks σ2 o = looks σ o := by simp only [looks, ho, Op.operands, tmpsOf, qkj]; simp [h1]
  have e2 : qbe E C σ2 o.op = qbe E C σ o.op := by
    rw [ho]
    unfold qbe
    simp [q56, Op.operands, q4n, h2]
  simp only [q3e, e1, e2]
theorem qny {ops : Array Oper} {r p : Oper} {σ1 σ3 : St} (h : ex2 r p = true) (h1 : q89 E C ops p σ = some σ1) (h2 : q89 E C ops r σ1 = some σ3) :
    ∃ σr, q89 E C ops r σ = some σr ∧ q89 E C ops p σr = some σ3 ∧ (∀ acc, q3e E C ops σ r acc = q3e E C ops σ1 r acc) ∧ ∀ acc, q3e E C ops σr p acc = q3e E C ops σ p acc := by
  unfold ex2 at h
  split at h
  case h_2 => cases h
  rename_i u i v j d e hr hp gr gp dr dp
  simp only [Bool.and_eq_true, decide_eq_true_eq] at h
  obtain ⟨rfl, hij, hde, hdu, heu⟩ := h
  rw [q74 hp dp gp] at h1
  cases ha : σ.av u with
  | tup l =>
    have hu : u < σ.length := by
      refine Decidable.byContradiction fun hn => ?_
      rw [St.av, St.slot, List.getD_eq_getElem?_getD, List.getElem?_eq_none (Nat.le_of_not_lt hn)] at ha
      cases ha
    rw [ha] at h1
    simp only at h1
    cases hb : l[j]? with
    | none => rw [hb] at h1; cases h1
    | some b =>
    rw [hb] at h1
    simp only at h1
    split at h1
    case isFalse => cases h1
    rename_i hpl
    obtain rfl := Option.some.inj h1
    -- the tuple az it stands behind p
    have hjl : j < l.length := (List.getElem?_eq_some_iff.1 hb).1
    obtain ⟨l1, hl1, e1⟩ : ∃ l1 : List AV, (l1 = l ∧ b.fixd = true ∨ l1 = l.set j .no ∧ b.fixd = false) ∧ ((if b.fixd = true then σ else σ.turn u (.tup (l.set j .no))).put e b).av u = .tup l1 := by
      cases hbf : b.fixd with
      | true => exact ⟨l, .inl ⟨rfl, rfl⟩, by simp only [if_true, St.av, St.slot_put_ne (Ne.symm heu)]; exact ha⟩
      | false => exact ⟨_, .inr ⟨rfl, rfl⟩, by simp only [Bool.false_eq_true, if_false, St.av, St.slot_put_ne (Ne.symm heu), St.slot_turn_eq hu]⟩
    rw [q74 hr dr gr, e1] at h2
    simp only at h2
    have hl1i : l1[i]? = l[i]? := by
      rcases hl1 with ⟨rfl, _⟩ | ⟨rfl, _⟩
      · rfl
      · rw [List.getElem?_set_ne (Ne.symm hij)]
    rw [hl1i] at h2
    cases ha2 : l[i]? with
    | none => rw [ha2] at h2; cases h2
    | some a =>
    rw [ha2] at h2
    simp only at h2
    split at h2
    case isFalse => cases h2
    obtain rfl := Option.some.inj h2
    have hil : i < l.length := (List.getElem?_eq_some_iff.1 ha2).1
    have plain_set : ∀ k, (l.set k AV.no).all AV.plain = true := by
      intro k
      rw [List.all_eq_true] at hpl ⊢
      intro x hx
      rcases List.mem_or_eq_of_mem_set hx with hx | rfl
      · exact hpl x hx
      · rfl
    have notfix : ∀ (l : List AV) k, k < l.length → (l.set k AV.no).all AV.fixd = false := by
      intro l k hk
      rw [List.all_eq_false]
      exact ⟨.no, List.mem_iff_getElem?.2 ⟨k, by rw [List.getElem?_set_self hk]⟩, by simp [AV.fixd]⟩
    have notfix0 : ∀ (k : Nat) (c : AV), l[k]? = some c → c.fixd = false → l.all AV.fixd = false := by
      intro k c hk hc
      rw [List.all_eq_false]
      exact ⟨c, List.mem_of_getElem? hk, by simp [hc]⟩
    have hold_tup : ∀ {σ : St} {l : List AV}, σ.av u = .tup l → hold σ u = [u] := fun {σ l} h => by simp [hold, h]
    have still_tup : ∀ {σ : St} {l : List AV}, σ.av u = .tup l → still σ u = l.all AV.fixd := fun {σ l} h => by simp [still, h]
    -- behind r alone
    obtain ⟨l2, hl2, e2⟩ : ∃ l2 : List AV, (l2 = l ∧ a.fixd = true ∨ l2 = l.set i .no ∧ a.fixd = false) ∧ ((if a.fixd = true then σ else σ.turn u (.tup (l.set i .no))).put d a).av u = .tup l2 := by
      cases haf : a.fixd with
      | true => exact ⟨l, .inl ⟨rfl, rfl⟩, by simp only [if_true, St.av, St.slot_put_ne (Ne.symm hdu)]; exact ha⟩
      | false => exact ⟨_, .inr ⟨rfl, rfl⟩, by simp only [Bool.false_eq_true, if_false, St.av, St.slot_put_ne (Ne.symm hdu), St.slot_turn_eq hu]⟩
    have hl2j : l2[j]? = some b := by
      rcases hl2 with ⟨rfl, _⟩ | ⟨rfl, _⟩
      · exact hb
      · rw [List.getElem?_set_ne hij]; exact hb
    have hl2p : l2.all AV.plain = true := by
      rcases hl2 with ⟨rfl, _⟩ | ⟨rfl, _⟩
      · exact hpl
      · exact plain_set i
    refine ⟨_, by rw [q74 hr dr gr, ha]; simp only [ha2]; rw [if_pos hpl], ?_, fun acc => ?_, fun acc => ?_⟩
    · rw [q74 hp dp gp, e2]
      simp only [hl2j]
      rw [if_pos hl2p]
      congr 1
      rcases hl1 with ⟨rfl, hbf⟩ | ⟨rfl, hbf⟩ <;> rcases hl2 with ⟨rfl, haf⟩ | ⟨rfl, haf⟩ <;> simp only [hbf, haf, if_true, if_false, Bool.false_eq_true]
      · exact put_comm _ _ _ hde
      · rw [put_comm _ _ _ hde, qb7 _ _ _ heu]
      · rw [qb7 _ _ _ hdu]; exact put_comm _ _ _ hde
      · rw [qb7 _ _ _ hdu, qb7 _ _ _ heu, qfq _ hu, qfq _ hu, List.set_comm _ _ hij]
        exact put_comm _ _ _ hde
    · refine qag hr ?_ ?_
      · rw [hold_tup ha, hold_tup e1]
      · rw [still_tup ha, still_tup e1]
        rcases hl1 with ⟨rfl, _⟩ | ⟨rfl, hbf⟩
        · rfl
        · rw [notfix _ _ hjl, notfix0 j b hb hbf]
    · refine qag hp ?_ ?_
      · rw [hold_tup e2, hold_tup ha]
      · rw [still_tup e2, still_tup ha]
        rcases hl2 with ⟨rfl, _⟩ | ⟨rfl, haf⟩
        · rfl
        · rw [notfix _ _ hil, notfix0 i a ha2 haf]
  | _ => rw [ha] at h1; cases h1
theorem run_move {ops : Array Oper} {o : Oper} {u d : Tmp} {τ : Ty} {x : τ.T} {f : Fl} {s : Option Tmp} (ho : o.op = .move (.tmp u)) (hd : o.dst = some d) (hg : o.guard = none) (hb : σ.av u = .box τ x f s) :
    q89 E C ops o σ = some (σ.put d (.ref u [] (σ.slot u).g 0)) := by
  have hb' : (σ.slot u).a = .box τ x f s := hb
  unfold q89 qdq
  simp only [hg, ho, op1, mv, hb, copy, hb', if_true, hd, St.putO]
theorem qfr {ops : Array Oper} {o : Oper} {u d : Tmp} {acc : List qat} (ho : o.op = .move (.tmp u)) (hd : o.dst = some d) (hg : o.guard = none) (h : (q3e E C ops σ o acc).1 = [d, u, u, u]) : ∃ τ x f s, σ.av u = .box τ x f s := by
  simp only [q3e, qf3, hg, looks, hd, ho, Op.operands, tmpsOf, qkj, hold] at h
  cases ha : σ.av u with
  | box τ x f s => exact ⟨τ, x, f, s, rfl⟩
  | rp τ x q => cases q <;> simp [ha, hold] at h
  | _ => simp [ha, hold] at h
theorem qah {ops : Array Oper} {o : Oper} {u : Tmp} {acc : List qat} (ho : o.op = .move (.tmp u)) {τ : Ty} {x : τ.T} {f : Fl} {s : Option Tmp} (h1 : σ.av u = .box τ x f s) {τ' : Ty} {x' : τ'.T} {f' : Fl} {s' : Option Tmp} (h2 : σ2.av u = .box τ' x' f' s') : q3e E C ops σ2 o acc = q3e E C ops σ o acc := by
  have e1 : looks σ2 o = looks σ o := by simp [looks, ho, Op.operands, tmpsOf, qkj, hold, h1, h2]
  have e2 : qbe E C σ2 o.op = qbe E C σ o.op := by
    rw [ho]
    unfold qbe
    simp [q56, qkk, h1, h2]
  simp only [q3e, e1, e2]
theorem qpa {ops : Array Oper} {o : Oper} {σ' : St} {f : FuncId} {az : Array Operand} {ts : Array TypeId} {ce : CE} {acc : List qat} (hop : o.op = .call ⟨.value (.func f), az, ts⟩) (hg : o.guard = none) (hl : C.lookup f = some ce) (hb : ce.ps.any (·.isIn) = true)
    (hq : (q3e E C ops σ o acc).2.2.1 = true) (hr : q89 E C ops o σ = some σ') :
    ∃ u : Us, (∀ p ∈ u, p.1 ∈ (q3e E C ops σ o acc).2.1) ∧ (∀ σ2, σ2.length = σ.length → Agr (q3e E C ops σ o acc).1 σ σ2 → q89 E C ops o σ2 = some (sets σ2 u)) ∧ ∀ t, o.dst ≠ some t → qb4 σ (sets σ u) t := by
  cases hw : qbe E C σ o.op with
  | none => simp [q3e, hw] at hq
  | some W =>
    have e : (q3e E C ops σ o acc).2.1 = o.dst.toList ++ W := by simp only [q3e, hw, Option.getD_some]
    rw [e]
    have hw2 : qn7 σ ce az.toList = some W := by
      rw [hop] at hw
      unfold qbe at hw
      rw [if_neg (by simp [q56])] at hw
      simpa only [hl, hb, if_true] using hw
    have c : Cl (q3e E C ops σ o acc).1 σ o.op.operands.toList := qhg
    have hr0 : ∀ σ, q89 E C ops o σ = qdq E C o σ := fun σ => by unfold q89; simp only [hg]
    obtain ⟨u, h1, h2, h3⟩ := qik (S := (q3e E C ops σ o acc).1) hop hl hb (fun u hu => c u (by rw [hop]; simp [Op.operands, Call.operands]; exact Array.mem_toList_iff.1 hu)) (fun t ht => by simp only [q3e, looks, List.mem_append]; exact .inr (.inl ht)) hw2 (by rw [← hr0]; exact hr)
    exact ⟨u, h1, fun σ2 hl2 hA => by rw [hr0]; exact h2 σ2 hl2 hA, h3⟩
theorem qnz {ops : Array Oper} {r p : Oper} {σ1 σ3 : St} {accp accr : List qat} (h : (mvb C r p (q3e E C ops σ1 r accr) (q3e E C ops σ p accp) || mvb C p r (q3e E C ops σ p accp) (q3e E C ops σ1 r accr)) = true)
    (h1 : q89 E C ops p σ = some σ1) (h2 : q89 E C ops r σ1 = some σ3) :
    ∃ σr, q89 E C ops r σ = some σr ∧ q89 E C ops p σr = some σ3 ∧ q3e E C ops σ r accr = q3e E C ops σ1 r accr ∧ q3e E C ops σr p accp = q3e E C ops σ p accp := by
  rw [Bool.or_eq_true] at h
  rcases h with h | h
  · -- the call first
    unfold mvb at h
    split at h
    case h_2 => cases h
    rename_i u d f az ts hr gr dr hp gp
    simp only [Bool.and_eq_true, decide_eq_true_eq] at h
    obtain ⟨hC, hF, hq, hd, hu, hdu⟩ := h
    split at hC
    case h_2 => cases hC
    rename_i ce hl
    obtain ⟨us, k1, k2, k3⟩ := qpa (acc := accp) hp gp hl hC hq h1
    have e1 := k2 σ rfl Agr.rfl'
    rw [h1] at e1
    obtain rfl := Option.some.inj e1
    obtain ⟨τ, x, fl, s, hbx⟩ := qfr hr dr gr hF
    obtain ⟨hgg, τ', x', fl', s', hbx0⟩ := (k3 u hu).bwd hbx
    have hdn : d ∉ (q3e E C ops σ p accp).1 := by simpa using hd
    have hdus : ∀ q ∈ us, q.1 ≠ d := fun q hq' e => hdn (e ▸ qlj hq (k1 q hq'))
    rw [run_move hr dr gr hbx] at h2
    obtain rfl := Option.some.inj h2
    refine ⟨_, run_move hr dr gr hbx0, ?_, (qah hr hbx0 hbx).symm, ?_⟩
    · have e2 : σ.put d (.ref u [] (σ.slot u).g 0) = sets σ [(d, ⟨(σ.slot d).g + 1, 0, .ref u [] (σ.slot u).g 0⟩)] := rfl
      rw [e2, k2 _ (by rw [q48]) (qe1 fun q hq' => by rw [List.mem_singleton.1 hq']; exact hdn)]
      rw [hgg, ← e2]
      simp only [St.put]
      rw [q5h us σ hdus, qb3 us σ _ hdus]
    · exact qb6 (qe1 (u := [(d, ⟨(σ.slot d).g + 1, 0, .ref u [] (σ.slot u).g 0⟩)]) fun q hq' => by rw [List.mem_singleton.1 hq']; exact hdn)
  · -- the copy first
    unfold mvb at h
    split at h
    case h_2 => cases h
    rename_i u d f az ts hp gp dp hr gr
    simp only [Bool.and_eq_true, decide_eq_true_eq] at h
    obtain ⟨hC, hF, hq, hd, hu, hdu⟩ := h
    split at hC
    case h_2 => cases hC
    rename_i ce hl
    obtain ⟨τ, x, fl, s, hbx⟩ := qfr hp dp gp hF
    rw [run_move hp dp gp hbx] at h1
    obtain rfl := Option.some.inj h1
    have e2 : σ.put d (.ref u [] (σ.slot u).g 0) = sets σ [(d, ⟨(σ.slot d).g + 1, 0, .ref u [] (σ.slot u).g 0⟩)] := rfl
    rw [e2] at h2 hq hd ⊢
    obtain ⟨us, k1, k2, k3⟩ := qpa (acc := accr) hr gr hl hC hq h2
    have hdn : d ∉ (q3e E C ops (sets σ [(d, ⟨(σ.slot d).g + 1, 0, .ref u [] (σ.slot u).g 0⟩)]) r accr).1 := by simpa using hd
    have hdus : ∀ q ∈ us, q.1 ≠ d := fun q hq' e => hdn (e ▸ qlj hq (k1 q hq'))
    have ag : Agr (q3e E C ops (sets σ [(d, ⟨(σ.slot d).g + 1, 0, .ref u [] (σ.slot u).g 0⟩)]) r accr).1 (sets σ [(d, ⟨(σ.slot d).g + 1, 0, .ref u [] (σ.slot u).g 0⟩)]) σ := fun t ht => (q5h _ σ fun q hq' e => hdn (by rw [List.mem_singleton.1 hq'] at e; have e' : d = t := e; subst e'; exact ht)).symm
    have e3 := k2 _ rfl Agr.rfl'
    rw [h2] at e3
    obtain rfl := Option.some.inj e3
    have f1 := qb6 ag
    have hr1 := k2 σ (by rw [q48]) ag
    -- the box behind the call alone
    have hbS : qb4 σ (sets σ us) u := by
      have hx := k3 u hu
      have s1 : St.slot (sets (sets σ [(d, ⟨(σ.slot d).g + 1, 0, .ref u [] (σ.slot u).g 0⟩)]) us) u = St.slot (sets σ us) u := by
        rw [qbr us _ σ fun a ha b hb e => ?_]
        · exact q5h _ _ fun q hq' e => hdu (by rw [List.mem_singleton.1 hq'] at e; exact e)
        · rw [List.mem_singleton.1 ha] at e; exact hdus b hb e.symm
      have s2 : St.slot (sets σ [(d, ⟨(σ.slot d).g + 1, 0, .ref u [] (σ.slot u).g 0⟩)]) u = σ.slot u := q5h _ _ fun q hq' e => hdu (by rw [List.mem_singleton.1 hq'] at e; exact e)
      unfold qb4 at hx ⊢
      simp only [St.av, s1, s2] at hx ⊢
      exact hx
    obtain ⟨hgg, τ', x', fl', s', hbx0⟩ := hbS.fwd hbx
    refine ⟨_, hr1, ?_, f1, qah hp hbx hbx0⟩
    rw [run_move hp dp gp hbx0, hgg]
    simp only [St.put]
    rw [q5h us σ hdus, ← qb3 us σ _ hdus]
    rfl
theorem Tr.front {ops : Array Oper} : ∀ (pre : List It) {r : It} {post : List It} {σ fin : St}, Tr E C ops (pre ++ r :: post) σ fin → (∀ p ∈ pre, Ap C p r) → ∃ σ1, q89 E C ops r.o σ = some σ1 ∧ Tr E C ops (pre ++ post) σ1 fin ∧ ∃ acc, q3e E C ops σ r.o acc = r.f
  | [], r, post, σ, fin, h, hp => by
    cases h with
    | cons acc hf h1 h2 => exact ⟨_, h1, h2, acc, hf⟩
  | p :: pre, r, post, σ, fin, h, hp => by
    cases h with
    | @cons i o f l σ0 σ1 σ' acc hf h1 h2 =>
      obtain ⟨σ2, k1, k2, acc2, k3⟩ := Tr.front pre h2 fun p hp' => hp p (List.mem_cons_of_mem _ hp')
      rcases hp _ (List.mem_cons_self ..) with hap | hap
      case inr =>
        simp only at hap
        subst hf
        rw [Bool.or_eq_true] at hap
        rcases hap with hap | hap
        · obtain ⟨σr, x1, x2, x3, x4⟩ := qny (E := E) (C := C) (ops := ops) hap h1 k1
          exact ⟨σr, x1, .cons acc (x4 acc) x2 k2, acc2, (x3 acc2).trans k3⟩
        · rw [← k3] at hap
          obtain ⟨σr, x1, x2, x3, x4⟩ := qnz (E := E) (C := C) (ops := ops) hap h1 k1
          exact ⟨σr, x1, .cons acc x4 x2 k2, acc2, x3.trans k3⟩
      obtain ⟨⟨q1, q2⟩, a1, a2⟩ := hap
      simp only at q1 q2 a1 a2
      subst hf
      have gS : ∀ {σ : St} {o : Oper} {acc : List qat}, ∀ t ∈ qf3 ops o, t ∈ (q3e E C ops σ o acc).1 := fun t ht => by simp only [q3e, List.mem_append]; exact .inl ht
      have dS : ∀ {σ : St} {o : Oper} {acc : List qat}, ∀ t ∈ o.dst.toList, t ∈ (q3e E C ops σ o acc).1 := fun t ht => by simp only [q3e, looks, List.mem_append]; exact .inr (.inl ht)
      have loc : ∀ {σ σ' : St} {o : Oper} {acc : List qat}, (q3e E C ops σ o acc).2.2.1 = true → q89 E C ops o σ = some σ' →
          ∃ u : Us, (∀ p ∈ u, p.1 ∈ (q3e E C ops σ o acc).2.1) ∧ ∀ σ2, σ2.length = σ.length → Agr (q3e E C ops σ o acc).1 σ σ2 → q89 E C ops o σ2 = some (sets σ2 u) := by
        intro σ σ' o acc hq hr
        cases hw : qbe E C σ o.op with
        | none => simp [q3e, hw] at hq
        | some W =>
          have e : (q3e E C ops σ o acc).2.1 = o.dst.toList ++ W := by simp only [q3e, hw, Option.getD_some]
          rw [e]
          exact qro qhg dS gS hw hr
      obtain ⟨u, hu, hP⟩ := loc q2 h1
      have e1 := hP σ rfl Agr.rfl'
      rw [h1] at e1
      obtain rfl := Option.some.inj e1
      have ag1 : Agr r.f.1 σ (sets σ u) := qe1 fun p hp => qbt a1 (hu p hp)
      have ag1' : Agr r.f.1 (sets σ u) σ := fun t ht => (ag1 t ht).symm
      rw [← k3] at q1 a1 a2 ag1 ag1'
      have f2 := qb6 ag1'
      obtain ⟨v, hv, hR⟩ := loc q1 k1
      have e2 := hR _ rfl Agr.rfl'
      rw [k1] at e2
      obtain rfl := Option.some.inj e2
      have ag2 : Agr (q3e E C ops σ o acc).1 σ (sets σ v) := qe1 fun p hp => qbt a2 (hv p hp)
      have m1 := hP _ (by rw [q48]) ag2
      have sub : ∀ {t : Tmp}, t ∈ (q3e E C ops (sets σ u) r.o acc2).2.1 → t ∉ (q3e E C ops σ o acc).1 := fun ht => qbt a2 ht
      refine ⟨sets σ v, hR σ (by rw [q48]) ag1', ?_, acc2, f2.trans k3⟩
      refine .cons acc (qb6 ag2) m1 ?_
      rw [← qbr v u σ fun p hp q hq e => ?_]
      · exact k2
      · have x1 := sub (hv q hq)
        refine x1 ?_
        rw [← e]
        exact qlj q2 (hu p hp)
def Or2 (C : CEs) (p r : It) : Prop := p.i < r.i ∧ (r.f.2.2.2.testBit p.i = true ∨ Ap C p r)
theorem qbu {M : List qat} : ∀ {l : List Edge} {j : Nat}, (qh5 M l).testBit j = true → ∃ e ∈ l, Region.binds .any e = true ∧ (j = e.on ∨ ∃ f, M[e.on]? = some f ∧ f.2.2.2.testBit j = true)
  | [], j, h => by simp [qh5] at h
  | e :: l, j, h => by
    simp only [qh5] at h
    split at h
    · rename_i hb
      simp only [Nat.testBit_or, Bool.or_eq_true] at h
      rcases h with h | h | h
      · exact ⟨e, List.mem_cons_self .., hb, .inl ((by rw [Nat.testBit_two_pow] at h; simpa using h : e.on = j).symm)⟩
      · refine ⟨e, List.mem_cons_self .., hb, .inr ?_⟩
        split at h
        · rename_i f hf; exact ⟨f, hf, h⟩
        · simp at h
      · obtain ⟨e', h1, h2⟩ := qbu h
        exact ⟨e', List.mem_cons_of_mem _ h1, h2⟩
    · obtain ⟨e', h1, h2⟩ := qbu h
      exact ⟨e', List.mem_cons_of_mem _ h1, h2⟩
theorem qfs {ops : Array Oper} {o : Oper} {f : qat} : ∀ {l : List qat} {j : Nat}, fits C ops o f j l = true → ∀ k f', l[k]? = some f' → f.2.2.2.testBit (j + k) = true ∨ (((f.2.2.1 = true ∧ f'.2.2.1 = true) ∧ apart f'.2.1 f.1 = true ∧ apart f.2.1 f'.1 = true) ∨ ∃ p, ops[j + k]? = some p ∧ (ex2 o p || (mvb C o p f f' || mvb C p o f' f)) = true)
  | [], j, h, k, f', hk => by simp at hk
  | g :: l, j, h, k, f', hk => by
    simp only [fits, Bool.and_eq_true, Bool.or_eq_true] at h
    cases k with
    | zero =>
      simp at hk
      subst hk
      rcases h.1 with h | h | h
      · exact .inl h
      · exact .inr (.inl h)
      · right; right
        split at h
        · rename_i p hp; exact ⟨p, hp, h⟩
        · cases h
    | succ k =>
      simp at hk
      have := qfs h.2 k f' hk
      rwa [show j + 1 + k = j + (k + 1) by omega] at this
theorem qft {ops : Array Oper} : ∀ (l : List Oper) (acc : List qat) (σ : St) (K : St → Option ρ) (r : ρ), qf4 E C ops l acc σ K = some r →
    ∃ fin, K fin = some r ∧ ∃ L : List It, L.map (·.o) = l ∧ Tr E C ops L σ fin ∧ (∀ k it, L[k]? = some it → it.i = acc.length + k ∧
      (it.f.2.2.2 = qh5 (acc ++ (L.take k).map (·.f)) it.o.after.toList) ∧ fits C ops it.o it.f 0 (acc ++ (L.take k).map (·.f)) = true ∧ ∀ e ∈ it.o.after, Region.binds .any e = true → e.on < it.i)
  | [], acc, σ, K, r, h => ⟨σ, h, [], rfl, .nil σ, fun k it hk => by simp at hk⟩
  | o :: l, acc, σ, K, r, h => by
    simp only [qf4, qii] at h
    split at h
    case isFalse => cases h
    rename_i hfit
    simp only [Bool.and_eq_true] at hfit
    obtain ⟨σ1, h1, h2⟩ := Option.bind_eq_some_iff.1 h
    obtain ⟨fin, k1, L, k2, k3, k4⟩ := qft l _ σ1 K r h2
    refine ⟨fin, k1, ⟨acc.length, o, q3e E C ops σ o acc⟩ :: L, by simp [k2], .cons acc rfl h1 k3, fun k it hk => ?_⟩
    cases k with
    | zero =>
      simp at hk
      subst hk
      refine ⟨rfl, by simp [q3e], by simpa using hfit.1, fun e he hb => ?_⟩
      have := List.all_eq_true.1 hfit.2 e (by simpa using he)
      simpa [hb] using this
    | succ k =>
      simp at hk
      have := k4 k it hk
      simp only [List.length_append, List.length_cons, List.length_nil, List.append_assoc, List.cons_append, List.nil_append] at this
      simp only [List.take_succ_cons, List.map_cons]
      refine ⟨by omega, this.2⟩
section
variable {P : Program} {T0 : Bs} {ξ0 : Im} {w0 : World} {ops : Array Oper}
theorem any_ok {J : Jd P} (he : EOk P E ξ0 w0) (hG : GOk P J T0 ξ0 w0) (hC : qd1 P J C) (df : List Deferred) {Q : Exit → Act → World → Prop} {fin : St} (A : List It)
    (hA : ∀ it ∈ A, ops[it.i]? = some it.o ∧ (∀ e ∈ it.o.after, Region.binds .any e = true → e.on < it.i) ∧
      ∀ j, it.f.2.2.2.testBit j = true → ∃ e ∈ it.o.after, Region.binds .any e = true ∧ (j = e.on ∨ ∃ it' ∈ A, it'.i = e.on ∧ it'.f.2.2.2.testBit j = true))
    (hu : ∀ it ∈ A, ∀ it' ∈ A, it.i = it'.i → it = it')
    (tm0 : Array Value) (hK : ∀ tm' w' ξ' tk', SA T0 ξ0 w0 tk' Em ξ' w' fin tm' → (∀ t, (∀ it ∈ A, it.o.dst ≠ some t) → tm'.getD t undef = tm0.getD t undef) → Q .normal ⟨tm', df⟩ w') :
    ∀ (n : Nat) (L : List It) (listed : Array Bool) (σ : St) (tk : Nat → Bs) (ξ : Im) (w : World) (tm : Array Value), L.length = n → listed.size = ops.size →
      (∀ it ∈ L, it ∈ A) → L.Pairwise (Or2 C) → (∀ j, j < ops.size → (listed.getD j true = false ↔ ∃ it ∈ L, it.i = j)) →
      (∀ it ∈ A, listed.getD it.i false = true → ∀ j, it.f.2.2.2.testBit j = true → listed.getD j false = true) →
      SA T0 ξ0 w0 tk Em ξ w σ tm → (∀ t, (∀ it ∈ A, it.o.dst ≠ some t) → tm.getD t undef = tm0.getD t undef) → Tr E C ops L σ fin → wpAny P .any ops Q n listed ⟨tm, df⟩ w := by
  have flip : ∀ {listed : Array Bool} {j : Nat}, j < listed.size → (listed.getD j true = false ↔ ¬ listed.getD j false = true) := by
    intro listed j hj
    simp [hj]
  intro n
  induction n with
  | zero =>
    intro L listed σ tk ξ w tm hn hsz hLA hpw hL hdn hS hk0 hT
    have : L = [] := List.length_eq_zero_iff.1 hn
    subst this
    cases hT
    refine ⟨?_, hK _ _ _ _ hS hk0⟩
    simp only [Region.ready, List.filter_eq_nil_iff, List.mem_range]
    intro j hj
    have := hL j hj
    simp only [List.not_mem_nil, false_and, exists_false, iff_false, Bool.not_eq_false] at this
    simp [this]
  | succ n ih =>
    intro L listed σ tk ξ w tm hn hsz hLA hpw hL hdn hS hk0 hT
    constructor
    · intro hr
      exfalso
      cases L with
      | nil => simp at hn
      | cons h L =>
        have hm := hA h (hLA h (List.mem_cons_self ..))
        have hlt : h.i < ops.size := by
          have := hm.1
          exact (Array.getElem?_eq_some_iff.1 this).1
        have hun := (hL h.i hlt).2 ⟨h, List.mem_cons_self .., rfl⟩
        have : h.i ∈ Region.ready .any ops listed := by
          simp only [Region.ready, List.mem_filter, List.mem_range, hun, hm.1, Option.map_some, Option.getD_some, Bool.not_false, Bool.true_and, Array.all_eq_true_iff_forall_mem]
          refine ⟨hlt, fun e he' => ?_⟩
          cases hb : Region.binds .any e with
          | false => simp
          | true =>
            have hon := hm.2.1 e he' hb
            simp only [Bool.not_true, Bool.false_or]
            refine Classical.byContradiction fun hc => ?_
            have h1 := (flip (listed := listed) (j := e.on) (by omega)).2 hc
            obtain ⟨it, h2, h3⟩ := (hL e.on (by omega)).1 h1
            rcases List.mem_cons.1 h2 with rfl | h2
            · omega
            · have := (List.pairwise_cons.1 hpw).1 it h2
              have := this.1
              omega
        rw [hr] at this
        cases this
    · intro i hi
      simp only [Region.ready, List.mem_filter, List.mem_range] at hi
      obtain ⟨hlt, hi⟩ := hi
      simp only [Bool.and_eq_true] at hi
      have hun : listed.getD i true = false := by simpa using hi.1
      obtain ⟨r, hrL, rfl⟩ := (hL i hlt).1 hun
      have hrA := hA r (hLA r hrL)
      have hall : ∀ e ∈ r.o.after, Region.binds .any e = true → listed.getD e.on false = true := by
        have h2 := hi.2
        rw [hrA.1] at h2
        simp only [Option.map_some, Option.getD_some, Array.all_eq_true_iff_forall_mem] at h2
        intro e he' hb
        have := h2 e he'
        simpa [hb] using this
      have bits : ∀ j, r.f.2.2.2.testBit j = true → listed.getD j false = true := by
        intro j hj
        obtain ⟨e, h1, h2, h3⟩ := hrA.2.2 j hj
        have hl := hall e h1 h2
        rcases h3 with rfl | ⟨it', m1, m2, m3⟩
        · exact hl
        · exact hdn it' m1 (by rw [m2]; exact hl) j m3
      obtain ⟨pre, post, rfl⟩ := List.append_of_mem hrL
      have hap : ∀ p ∈ pre, Ap C p r := by
        intro p hp
        have h1 := (List.pairwise_append.1 hpw).2.2 p hp r (List.mem_cons_self ..)
        refine h1.2.resolve_left fun hb => ?_
        have h2 := bits p.i hb
        have hpl : p.i < ops.size := (Array.getElem?_eq_some_iff.1 (hA p (hLA p (by simp [hp]))).1).1
        have h3 := (hL p.i hpl).2 ⟨p, by simp [hp], rfl⟩
        exact (flip (by omega)).1 h3 h2
      obtain ⟨σ1, t1, t2, _⟩ := hT.front pre hap
      have hne : ∀ it ∈ pre ++ post, it.i ≠ r.i := by
        intro it hit e
        have hpw2 := List.pairwise_append.1 hpw
        rcases List.mem_append.1 hit with h | h
        · have := (hpw2.2.2 it h r (List.mem_cons_self ..)).1; omega
        · have := ((List.pairwise_cons.1 hpw2.2.1).1 it h).1; omega
      have g := ql2 (ops := ops) he hG hC hS t1 df (wpAny P .any ops Q n (listed.setIfInBounds r.i true)) Q fun tm' w' ξ' tk' S kp => ih (pre ++ post) _ σ1 tk' ξ' w' tm' (by simp at hn ⊢; omega) (by simp [hsz]) (fun it hit => hLA it (by simp at hit ⊢; rcases hit with h | h <;> simp [h])) (by
          refine hpw.sublist ?_
          exact List.Sublist.append (List.Sublist.refl _) (List.sublist_cons_self ..)) (fun j hj => by
          by_cases e : j = r.i
          · subst e
            have hx : (listed.setIfInBounds r.i true).getD r.i true = true := by simp [hsz, hj]
            rw [hx]
            simp only [Bool.true_eq_false, false_iff, not_exists, not_and]
            exact fun it hit => hne it hit
          · have hx : (listed.setIfInBounds r.i true).getD j true = listed.getD j true := by simp [Array.getElem?_setIfInBounds_ne (Ne.symm e)]
            rw [hx, hL j hj]
            constructor
            · rintro ⟨it, h1, h2⟩
              refine ⟨it, ?_, h2⟩
              simp at h1 ⊢
              rcases h1 with h | rfl | h
              · exact .inl h
              · exact (e h2.symm).elim
              · exact .inr h
            · rintro ⟨it, h1, h2⟩
              refine ⟨it, ?_, h2⟩
              simp at h1 ⊢
              rcases h1 with h | h
              · exact .inl h
              · exact .inr (.inr h)) (fun it hit hl j hj => by
          have up : ∀ j, listed.getD j false = true → (listed.setIfInBounds r.i true).getD j false = true := by
            intro j h
            by_cases e : j = r.i
            · subst e; simp [hsz, hlt]
            · have hx : (listed.setIfInBounds r.i true).getD j false = listed.getD j false := by simp [Array.getElem?_setIfInBounds_ne (Ne.symm e)]
              rw [hx]; exact h
          apply up
          by_cases e : it.i = r.i
          · have := hu it hit r (hLA r hrL) e
            subst this
            exact bits j hj
          · have hx : (listed.setIfInBounds r.i true).getD it.i false = listed.getD it.i false := by simp [Array.getElem?_setIfInBounds_ne (Ne.symm e)]
            rw [hx] at hl
            exact hdn it hit hl j hj) S (fun t ht => (kp t (ht r (hLA r hrL))).trans (hk0 t ht)) t2
      unfold wpOp
      rw [hrA.1]
      simp only
      split
      · rename_i hw
        rw [if_pos hw] at g
        exact .inl g
      · rename_i hw
        rw [if_neg hw] at g
        exact g
theorem qq6 {J : Jd P} (he : EOk P E ξ0 w0) (hG : GOk P J T0 ξ0 w0) (hC : qd1 P J C) (hm : P.follows .mixedOrders = true) (df : List Deferred) {id : Nat} {σ : St} {tk : Nat → Bs} {ξ : Im} {w : World} {tm : Array Value} {K : St → Option ρ} {r : ρ} {Q : Exit → Act → World → Prop} (h : SA T0 ξ0 w0 tk Em ξ w σ tm)
    (hr : qf4 E C ops ops.toList [] σ K = some r) (hK : ∀ σ' tm' w' ξ' tk', SA T0 ξ0 w0 tk' Em ξ' w' σ' tm' → (∀ t, (∀ o ∈ ops.toList, o.dst ≠ some t) → tm'.getD t undef = tm.getD t undef) → K σ' = some r → Q .normal ⟨tm', df⟩ w') : (Code.region id ops true).wp P Q ⟨tm, df⟩ w := by
  obtain ⟨fin, k1, L, k2, k3, k4⟩ := qft _ _ _ _ _ hr
  simp only [List.length_nil, Nat.zero_add, List.nil_append] at k4
  have hlen : L.length = ops.size := by rw [← Array.length_toList, ← k2, List.length_map]
  have at_ : ∀ it ∈ L, L[it.i]? = some it := by
    intro it hit
    obtain ⟨k, hk⟩ := List.getElem?_of_mem hit
    rw [(k4 k it hk).1]
    exact hk
  refine wp_region_any hm (any_ok he hG hC df L (fun it hit => ?_) (fun it hit it' hit' e => ?_) tm (fun tm' w' ξ' tk' S kp => hK _ _ _ _ _ S (fun t ht => kp t fun it hit => ht it.o (by rw [← k2]; exact List.mem_map_of_mem hit)) k1) ops.size L _ σ tk ξ _ tm hlen (by simp) (fun _ h => h) ?_ (fun j hj => ?_) (fun it hit hl => ?_) (h.step (Tf' := Em) (Fr.drew Em ξ w) (Sb.em _) h.wf.drew (fun b hb => hb.elim)) (fun _ _ => rfl) k3)
  · have ha := at_ it hit
    refine ⟨?_, (k4 _ it ha).2.2.2, fun j hj => ?_⟩
    · have : (L.map (·.o))[it.i]? = some it.o := by simp [ha]
      rw [k2] at this
      simpa using this
    · rw [(k4 _ it ha).2.1] at hj
      obtain ⟨e, h1, h2, h3⟩ := qbu hj
      refine ⟨e, by simpa using h1, h2, h3.imp (fun x => x) ?_⟩
      rintro ⟨f, h4, h5⟩
      simp only [List.getElem?_map, List.getElem?_take] at h4
      split at h4
      · obtain ⟨it', h6, h7⟩ := Option.map_eq_some_iff.1 h4
        exact ⟨it', List.mem_of_getElem? h6, (k4 _ it' h6).1, by rw [h7]; exact h5⟩
      · simp at h4
  · have h1 := at_ it hit
    have h2 := at_ it' hit'
    rw [e] at h1
    exact Option.some.inj (h1.symm.trans h2)
  · rw [List.pairwise_iff_getElem]
    intro i j hi hj hij
    have a1 := k4 i L[i] (by simp [hi])
    have a2 := k4 j L[j] (by simp [hj])
    refine ⟨by rw [a1.1, a2.1]; exact hij, ?_⟩
    have := qfs a2.2.2.1 i L[i].f (by simp [hi, hij])
    rw [Nat.zero_add] at this
    rw [a1.1]
    refine this.imp (fun x => x) (Or.imp (fun x => x) ?_)
    rintro ⟨p, hp1, hp2⟩
    have hp3 : (L.map (·.o))[i]? = some L[i].o := by simp [hi]
    rw [k2, Array.getElem?_toList, hp1] at hp3
    obtain rfl := Option.some.inj hp3
    exact hp2
  · constructor
    · intro _
      exact ⟨L[j], List.getElem_mem .., (k4 j L[j] (by simp [hlen, hj])).1⟩
    · intro _
      simp [hj]
  · exfalso
    have hlt : it.i < ops.size := by
      have := at_ it hit
      have := (List.getElem?_eq_some_iff.1 this).1
      omega
    simp [hlt] at hl
end
end
end Go.Proofs.YtjfkeknnjjlepaaGreatDoor.Rf
end

section
/- Code, and functions. Nothing of any program. -/
namespace Go.Proofs.YtjfkeknnjjlepaaGreatDoor.Rf
open Go Go.RowKit
set_option linter.unusedVariables false
set_option linter.unusedSimpArgs false
def Ex.out : Ex → Exit
  | .nm => .normal
  | .ex id => .exit id
  | .rt => .ret
section
variable {ρ : Type} {P : Program} {E : q4v} {C : Nat → CEs} {H : q3q} {T0 : Bs} {ξ0 : Im} {w0 : World}
def qkd : Code → List Tmp
  | .region _ ops _ => ops.toList.filterMap (·.dst)
  | .seq a b => qkd a ++ qkd b
  | .cond _ a b => qkd a ++ qkd b
  | .block _ c => qkd c
  | .loop c => qkd c
  | _ => []
theorem qil {ops : Array Oper} {t : Tmp} (h : t ∉ ops.toList.filterMap (·.dst)) : ∀ o ∈ ops.toList, o.dst ≠ some t := fun o ho e => h (List.mem_filterMap.2 ⟨o, ho, e⟩)
theorem qlk {J : Jd P} (he : EOk P E ξ0 w0) (hG : GOk P J T0 ξ0 w0) (hC : ∀ k, qd1 P J (C k)) (hm : P.follows .mixedOrders = true) (df : List Deferred) : ∀ (c : Code) (k : Nat) (σ : St) (tk : Nat → Bs) (ξ : Im) (w : World) (tm : Array Value) (K : Kt ρ) (r : ρ) (Q : Exit → Act → World → Prop), SA T0 ξ0 w0 tk Em ξ w σ tm → q5e E C H c k σ K = some r →
    (∀ e σ' tm' w' ξ' tk', SA T0 ξ0 w0 tk' Em ξ' w' σ' tm' → (∀ t, t ∉ qkd c → tm'.getD t undef = tm.getD t undef) → K e σ' = some r → Q e.out ⟨tm', df⟩ w') → c.wp P Q ⟨tm, df⟩ w := by
  intro c
  induction c with
  | skip => exact fun k σ tk ξ w tm K r Q h hr hK => wp_skip (hK .nm _ _ _ _ _ h (fun _ _ => rfl) hr)
  | region id ops dr =>
    intro k σ tk ξ w tm K r Q h hr hK
    simp only [q5e] at hr
    split at hr
    · rename_i hd
      subst hd
      exact qq6 he hG (hC k) hm df h hr fun σ' tm' w' ξ' tk' S kp hk => hK .nm _ _ _ _ _ S (fun t ht => kp t (qil ht)) hk
    · rename_i hd
      have hd' : dr = false := by simpa using hd
      subst hd'
      rw [qdy] at hr
      obtain ⟨σ', h2, h3⟩ := Option.bind_eq_some_iff.1 hr
      exact wp_region_list (qbp he hG (hC k) df ops.toList _ σ' tk ξ w tm h h2 fun tm' w' ξ' tk' S kp => hK .nm _ _ _ _ _ S (fun t ht => kp t (qil ht)) h3)
  | seq a b iha ihb =>
    intro k σ tk ξ w tm K r Q h hr hK
    refine wp_seq (iha k σ tk ξ w tm _ r _ h hr fun e σ' tm' w' ξ' tk' S kp hk => ?_)
    cases e with
    | nm =>
      obtain ⟨k2, tk1, ξ1, σ1, h1, hk⟩ : ∃ (k2 : Nat) (tk1 : Nat → Bs) (ξ1 : Im) (σ1 : St), SA T0 ξ0 w0 tk1 Em ξ1 w' σ1 tm' ∧ q5e E C H b k2 σ1 K = some r := by
        simp only [qrd, qsq] at hk
        split at hk
        · exact ⟨k, tk', ξ', σ', S, hk⟩
        · rename_i L _
          obtain ⟨tk1, ξ1, h1⟩ := qdx (some L) S
          split at hk
          · exact ⟨k, tk1, ξ1, _, h1, hk⟩
          · cases k with
            | zero => cases hk
            | succ k => exact ⟨k, tk1, ξ1, _, h1, hk⟩
      exact ihb k2 _ tk1 ξ1 w' tm' K r Q h1 hk fun e σ2 tm2 w2 ξ2 tk2 S2 kp2 hk2 => hK e _ _ _ _ _ S2 (fun t ht => (kp2 t fun x => ht (List.mem_append.2 (.inr x))).trans (kp t fun x => ht (List.mem_append.2 (.inl x)))) hk2
    | ex id => exact hK (.ex id) _ _ _ _ _ S (fun t ht => kp t fun x => ht (List.mem_append.2 (.inl x))) hk
    | rt => exact hK .rt _ _ _ _ _ S (fun t ht => kp t fun x => ht (List.mem_append.2 (.inl x))) hk
  | cond c a b iha ihb =>
    intro k σ tk ξ w tm K r Q h hr hK
    simp only [q5e] at hr
    split at hr
    case h_2 => cases hr
    rename_i x hx
    have hc := (q5f h hx).bool
    rw [qig] at hr
    refine wp_cond (t := x) (by rw [qkm]; exact hc) ?_
    cases x with
    | true => exact iha k σ tk ξ w tm K r Q h hr fun e σ' tm' w' ξ' tk' S kp hk => hK e _ _ _ _ _ S (fun t ht => kp t fun x => ht (List.mem_append.2 (.inl x))) hk
    | false => exact ihb k σ tk ξ w tm K r Q h hr fun e σ' tm' w' ξ' tk' S kp hk => hK e _ _ _ _ _ S (fun t ht => kp t fun x => ht (List.mem_append.2 (.inr x))) hk
  | block id c ih =>
    intro k σ tk ξ w tm K r Q h hr hK
    refine wp_block (ih k σ tk ξ w tm _ r _ h hr fun e σ' tm' w' ξ' tk' S kp hk => ?_)
    cases e with
    | nm => exact hK .nm _ _ _ _ _ S kp hk
    | ex j =>
      simp only [qkl] at hk
      simp only [Ex.out, Exit.inBlock]
      split at hk
      · rename_i hj
        rw [if_pos hj]
        exact hK .nm _ _ _ _ _ S kp hk
      · rename_i hj
        rw [if_neg hj]
        exact hK (.ex j) _ _ _ _ _ S kp hk
    | rt => exact hK .rt _ _ _ _ _ S kp hk
  | loop c ih =>
    intro k σ tk ξ w tm K r Q h hr hK
    obtain ⟨tk1, ξ1, h1⟩ := qdx (q6m H c) h
    refine wp_loop_ghost (fun n a w => ∃ σ, ∃ tk : Nat → Bs, ∃ ξ : Im, ∃ tm2, a = ⟨tm2, df⟩ ∧ SA T0 ξ0 w0 tk Em ξ w σ tm2 ∧ (∀ t, t ∉ qkd c → tm2.getD t undef = tm.getD t undef) ∧ qf5 (q5e E C H c) (q6m H c) n σ K = some r) k ⟨_, tk1, ξ1, tm, rfl, h1, fun _ _ => rfl, hr⟩ ?_
    rintro n a w2 ⟨σ2, tk2, ξ2, tm2, rfl, h2, kp0, hr2⟩
    cases n with
    | zero => cases hr2
    | succ n =>
      refine ih n σ2 tk2 ξ2 w2 tm2 _ r _ h2 hr2 fun e σ' tm' w' ξ' tk' S kp hk => ?_
      cases e with
      | nm =>
        obtain ⟨tk3, ξ3, h3⟩ := qdx (q6m H c) S
        exact ⟨n, Nat.lt_succ_self n, _, tk3, ξ3, tm', rfl, h3, fun t ht => (kp t ht).trans (kp0 t ht), hk⟩
      | ex id => exact hK (.ex id) _ _ _ _ _ S (fun t ht => (kp t ht).trans (kp0 t ht)) hk
      | rt => exact hK .rt _ _ _ _ _ S (fun t ht => (kp t ht).trans (kp0 t ht)) hk
  | exit id => exact fun k σ tk ξ w tm K r Q h hr hK => wp_exit (hK (.ex id) _ _ _ _ _ h (fun _ _ => rfl) hr)
  | ret => exact fun k σ tk ξ w tm K r Q h hr hK => wp_ret (hK .rt _ _ _ _ _ h (fun _ _ => rfl) hr)
  | _ => intro k σ tk ξ w tm K r Q h hr hK; simp [q5e] at hr
end
end Go.Proofs.YtjfkeknnjjlepaaGreatDoor.Rf
end

section
/- Functions. Nothing of any program. -/
namespace Go.Proofs.YtjfkeknnjjlepaaGreatDoor.Rf
open Go Go.RowKit
set_option linter.unusedVariables false
set_option linter.unusedSimpArgs false
section
variable {ρ : Type} {P : Program} {E : q4v} {C : Nat → CEs} {H : q3q} {T0 : Bs} {ξ0 : Im} {w0 : World} {tk : Nat → Bs} {Tf : Bs} {ξ : Im} {w : World} {σ : St} {tm : Array Value}
def qai (tm : Array Value) : ResultVar → Sem Value
  | .tmp t => pure (tm.getD t undef)
  | .cell a t => do loadVar t (← asAddr (tm.getD a undef))
def Res.av (r : Res) (s : Sv) : AV := if r.bx then .box s.1 s.2 r.f none else .d s.1 s.2 r.f
theorem qbv : ∀ (rs : List Res) (ss : List Sv) (i : Nat) (a : AV), (q4g rs ss)[i]? = some a → ∃ r s, rs[i]? = some r ∧ ss[i]? = some s ∧ a = r.av s
  | [], ss, i, a, h => by cases ss <;> simp [q4g] at h
  | r :: rs, [], i, a, h => by simp [q4g] at h
  | r :: rs, s :: ss, 0, a, h => by
    simp only [q4g, List.getElem?_cons_zero, Option.some.injEq] at h
    exact ⟨r, s, rfl, rfl, h.symm⟩
  | r :: rs, s :: ss, i + 1, a, h => qbv rs ss i a h
theorem SA.freeze2 {T' : Bs} (h : SA T0 ξ0 w0 tk (Un Tf T') ξ w σ tm) (d : Dj T' Tf) : SA T0 ξ0 w0 tk (Un Tf Em) (frz ξ w T') w σ tm :=
  (h.freeze (T' := T') (Sb.r _ _)).drop fun b hb => ⟨.inl (hb.elim id fun x => x.elim), fun hx => d b hx (hb.elim id fun x => x.elim)⟩
theorem qfu {τ : Ty} {x : τ.T} {f g : Fl} {cs : List Value} {T' : Bs} (h : SA T0 ξ0 w0 tk (Un Tf T') ξ w σ tm) (d : Dj T' Tf) (hr : Rel ξ w τ f x cs T') (hc : (decide (f = g) || (decide (g = .ro) && f.ok τ)) = true) :
    ∃ T2 : Bs, ∃ ξ' : Im, SA T0 ξ0 w0 tk (Un Tf T2) ξ' w σ tm ∧ Dj T2 Tf ∧ Rel ξ' w τ g x cs T2 ∧ q7k Tf ξ w ξ' w := by
  simp only [Bool.or_eq_true, decide_eq_true_eq, Bool.and_eq_true] at hc
  rcases hc with rfl | ⟨rfl, hok⟩
  · exact ⟨T', ξ, h, d, hr, q7k.refl _ _ _⟩
  · exact ⟨Em, frz ξ w T', h.freeze2 d, Dj.em _, hr.frz hok, qb1 ξ w T' Tf d⟩
theorem qll {v : ResultVar} {r : Res} {s : Sv} {σ' : St} (he : EOk P E ξ0 w0) (h : SA T0 ξ0 w0 tk Tf ξ w σ tm) (hd : qi5 E v r σ = some (s, σ')) :
    ∃ tk' : Nat → Bs, ∃ T' : Bs, ∃ ξ' : Im, ∃ u, SA T0 ξ0 w0 tk' (Un Tf T') ξ' w σ' tm ∧ Dj T' Tf ∧ (qai tm v).run P w = .ok u w ∧ Own ξ' w (r.av s) u T' ∧ q7k Tf ξ w ξ' w := by
  cases v with
  | tmp t =>
    simp only [qi5] at hd
    split at hd
    · rename_i τ x f σ1 ht
      split at hd
      case isFalse => cases hd
      rename_i hc
      simp only [Bool.and_eq_true, Bool.not_eq_true'] at hc
      simp only [Option.some.injEq, Prod.mk.injEq] at hd
      obtain ⟨rfl, rfl⟩ := hd
      obtain ⟨tk1, T1, k1, k2, k3, _, _⟩ := qdt h ht
      obtain ⟨cs, m1, m2⟩ := k3
      obtain ⟨T2, ξ', n1, n2, n3, n4⟩ := qfu k1 k2 m2 hc.2
      refine ⟨tk1, T2, ξ', tm.getD t undef, n1, n2, rfl, ?_, n4⟩
      simp only [Res.av, hc.1]
      exact ⟨cs, m1, n3⟩
    · rename_i τ x f sr σ1 ht
      split at hd
      case isFalse => cases hd
      rename_i hc
      simp only [Bool.and_eq_true, decide_eq_true_eq] at hc
      simp only [Option.some.injEq, Prod.mk.injEq] at hd
      obtain ⟨rfl, rfl⟩ := hd
      obtain ⟨tk1, T1, k1, k2, k3, _, _⟩ := qdt h ht
      refine ⟨tk1, T1, ξ, tm.getD t undef, k1, k2, rfl, ?_, q7k.refl _ _ _⟩
      simp only [Res.av, hc.1, if_true]
      obtain ⟨_, rfl⟩ := hc
      exact k3
    · cases hd
  | cell t ty =>
    simp only [qi5] at hd
    split at hd
    case h_2 => cases hd
    rename_i τ x f sr ha
    split at hd
    case isFalse => cases hd
    rename_i hE
    split at hd
    case isFalse => cases hd
    rename_i hc
    simp only [Bool.and_eq_true, Bool.not_eq_true'] at hc
    simp only [Option.some.injEq, Prod.mk.injEq] at hd
    obtain ⟨rfl, rfl⟩ := hd
    obtain ⟨b, c, t', fz, T1, k1, k2, k3, k4, k5, k6, k7, k8⟩ := h.at_box ha
    have S := h.put (d := t) (a := .no) (tm' := tm) (T' := Em) (Tf' := Un Tf T1) rfl (fun _ _ => rfl) trivial trivial (Sb.em _) (Sb.both (Sb.refl _) k6) (Dj.em _) (q7l (by rw [ha]; simp))
    obtain ⟨T2, ξ', n1, n2, n3, n4⟩ := qfu S ((h.djf t).sub k6 (Sb.refl _)) k8 hc.2
    refine ⟨_, T2, ξ', mkV τ c.toList, n1, n2, ?_, ?_, n4⟩
    · simp only [qai, Sem.run_bind, k1, asAddr, Sem.run_pure, Result.andThen]
      exact qbi (he.ty _ _ hE) k8.len (q82 k3)
    · simp only [Res.av, hc.1]
      exact ⟨c.toList, rfl, n3⟩
theorem qfv (he : EOk P E ξ0 w0) : ∀ (vs : List ResultVar) (rs : List Res) (σ : St) (tk : Nat → Bs) (Tf : Bs) (ξ : Im) {ss : List Sv} {σ' : St}, SA T0 ξ0 w0 tk Tf ξ w σ tm → q93 E vs rs σ = some (ss, σ') →
    ∃ tk' : Nat → Bs, ∃ Tr : Nat → Bs, ∃ ξ' : Im, ∃ us : List Value, SA T0 ξ0 w0 tk' (Un Tf (fun b => ∃ i, Tr i b)) ξ' w σ' tm ∧ (∀ i, Dj (Tr i) Tf) ∧ (∀ i j, i ≠ j → Dj (Tr i) (Tr j)) ∧ us.length = vs.length ∧ ss.length = rs.length ∧ vs.length = rs.length ∧
      (∀ (i : Nat) (v : ResultVar), vs[i]? = some v → ∃ u : Value, us[i]? = some u ∧ (qai tm v).run P w = .ok u w) ∧ (∀ (i : Nat) (r : Res) (s : Sv), rs[i]? = some r → ss[i]? = some s → Own ξ' w (r.av s) (us.getD i undef) (Tr i)) ∧ q7k Tf ξ w ξ' w
  | [], [], σ, tk, Tf, ξ, ss, σ', h, hd => by
    simp only [q93, Option.some.injEq, Prod.mk.injEq] at hd
    obtain ⟨rfl, rfl⟩ := hd
    exact ⟨tk, fun _ => Em, ξ, [], h.drop (fun b hb => hb.elim id fun ⟨_, x⟩ => x.elim), fun _ => Dj.em _, fun _ _ _ => Dj.em _, rfl, rfl, rfl, fun i v hv => by simp at hv, fun i r s hr => by simp at hr, q7k.refl _ _ _⟩
  | [], _ :: _, σ, tk, Tf, ξ, ss, σ', h, hd => by simp [q93] at hd
  | _ :: _, [], σ, tk, Tf, ξ, ss, σ', h, hd => by simp [q93] at hd
  | v :: vs, r :: rs, σ, tk, Tf, ξ, ss, σ', h, hd => by
    simp only [q93] at hd
    split at hd
    case h_2 => cases hd
    rename_i s σ1 h1
    split at hd
    case h_2 => cases hd
    rename_i ss1 σ2 h2
    simp only [Option.some.injEq, Prod.mk.injEq] at hd
    obtain ⟨rfl, rfl⟩ := hd
    obtain ⟨tk1, T1, ξ1, u, a1, a2, a3, a4, a5⟩ := qll he h h1
    obtain ⟨tk2, Tr, ξ2, us, b1, b2, b3, b4, b5, b6, b7, b8, b9⟩ := qfv he vs rs σ1 tk1 (Un Tf T1) ξ1 a1 h2
    refine ⟨tk2, shift T1 Tr, ξ2, u :: us, b1.drop (qbn _ _ _), (fun i => ?_), q97 (fun i => (b2 i).sub (Sb.refl _) (Sb.r _ _)) b3, by simp [b4], by simp [b5], by simp [b6], fun i v' hv => ?_, fun i r' s' hr hs => ?_, a5.trans (b9.sub (Sb.l _ _))⟩
    · cases i with
      | zero => exact a2
      | succ i => exact (b2 i).sub (Sb.refl _) (Sb.l _ _)
    · cases i with
      | zero => simp only [List.getElem?_cons_zero, Option.some.injEq] at hv; subst hv; exact ⟨u, rfl, a3⟩
      | succ i => exact b7 i v' hv
    · cases i with
      | zero =>
        simp only [List.getElem?_cons_zero, Option.some.injEq] at hr hs
        subst hr; subst hs
        exact a4.keep (b9.sub (Sb.r _ _))
      | succ i => exact b8 i r' s' hr hs
theorem qhi {fn : Func} {us : List Value} (h1 : us.length = fn.results.size) (h2 : ∀ (i : Nat) (v : ResultVar), fn.results[i]? = some v → ∃ u : Value, us[i]? = some u ∧ (qai tm v).run P w = .ok u w) : (results fn tm).run P w = .ok (if h : us.toArray.size = 1 then us.toArray[0] else .tuple us.toArray) w := by
  have key : ∀ (vs : List ResultVar) (us : List Value), us.length = vs.length → (∀ (i : Nat) (v : ResultVar), vs[i]? = some v → ∃ u : Value, us[i]? = some u ∧ (qai tm v).run P w = .ok u w) → (vs.mapM (qai tm)).run P w = .ok us w := by
    intro vs
    induction vs with
    | nil => intro us h1 _; have : us = [] := List.length_eq_zero_iff.1 h1; subst this; simp
    | cons v vs ih =>
      intro us h1 h2
      match us, h1 with
      | u :: us, h1 =>
        obtain ⟨u', e1, e2⟩ := h2 0 v rfl
        simp only [List.getElem?_cons_zero, Option.some.injEq] at e1
        subst e1
        have := ih us (by simpa using h1) fun i v hv => h2 (i + 1) v hv
        simp only [List.mapM_cons, Sem.run_bind, e2, Result.andThen, this, Sem.run_pure]
  have k := key fn.results.toList us (by simpa using h1) fun i v hv => h2 i v (by rw [← Array.getElem?_toList]; exact hv)
  have hm : (fn.results.mapM (qai tm)).run P w = .ok us.toArray w := by
    rw [Array.mapM_eq_mapM_toList]
    simp [k]
  have e : results fn tm = (do let vs ← fn.results.mapM (qai tm); pure (if h : vs.size = 1 then vs[0] else .tuple vs) : Sem Value) := by
    unfold results
    congr 1
  rw [e, Sem.run_bind, hm]
  rfl
def qq7 (σ : St) (i : Nat) (p : Par) (s : Sv) : Prop := match p.m with
  | .bx f => ∃ f', σ.av i = .box s.1 s.2 f' none ∧ (f' = f ∨ (f = .ro ∧ f'.isRo s.1 = true))
  | .io f => σ.av i = .d s.1 s.2 f
  | _ => False
theorem qfw : ∀ (ps : List Par) (j : Nat) (σ : St) {fs : List Sv}, finals ps j σ = some fs → fs.length = (ps.filter (·.isIn)).length ∧ ∀ (i : Nat) (p : Par), ps[i]? = some p → p.isIn = true → ∃ (k : Nat) (s : Sv), fs[k]? = some s ∧ qq7 σ (j + i) p s
  | [], _, _, fs, h => by
    simp only [finals, Option.some.injEq] at h
    subst h
    exact ⟨rfl, fun i p hp => by simp at hp⟩
  | p :: ps, j, σ, fs, h => by
    simp only [finals] at h
    split at h
    · cases h
    rename_i ss hs
    obtain ⟨k1, k2⟩ := qfw ps (j + 1) σ hs
    have plain : p.isIn = false → ss = fs → fs.length = ((p :: ps).filter (·.isIn)).length ∧ ∀ (i : Nat) (p' : Par), (p :: ps)[i]? = some p' → p'.isIn = true → ∃ (k : Nat) (s : Sv), fs[k]? = some s ∧ qq7 σ (j + i) p' s := by
      rintro hp rfl
      refine ⟨by simp [hp, k1], fun i p' hi hb => ?_⟩
      cases i with
      | zero => simp only [List.getElem?_cons_zero, Option.some.injEq] at hi; subst hi; rw [hp] at hb; cases hb
      | succ i => obtain ⟨k, s, e1, e2⟩ := k2 i p' hi hb; exact ⟨k, s, e1, by rwa [Nat.add_right_comm] at e2⟩
    have here : p.isIn = true → ∀ s : Sv, s :: ss = fs → qq7 σ j p s → fs.length = ((p :: ps).filter (·.isIn)).length ∧ ∀ (i : Nat) (p' : Par), (p :: ps)[i]? = some p' → p'.isIn = true → ∃ (k : Nat) (s : Sv), fs[k]? = some s ∧ qq7 σ (j + i) p' s := by
      rintro hp s rfl ha
      refine ⟨by simp [hp, k1], fun i p' hi hb => ?_⟩
      cases i with
      | zero => simp only [List.getElem?_cons_zero, Option.some.injEq] at hi; subst hi; exact ⟨0, s, rfl, ha⟩
      | succ i => obtain ⟨k, s', e1, e2⟩ := k2 i p' hi hb; exact ⟨k + 1, s', e1, by rwa [Nat.add_right_comm] at e2⟩
    cases hm : p.m with
    | rd => rw [hm] at h; exact plain (by simp [Par.isIn, hm]) (Option.some.inj h)
    | own f => rw [hm] at h; exact plain (by simp [Par.isIn, hm]) (Option.some.inj h)
    | bx f =>
      rw [hm] at h
      simp only at h
      split at h
      · rename_i τ x f' ha
        split at h
        · rename_i hf
          exact here (by simp [Par.isIn, hm]) ⟨τ, x⟩ (Option.some.inj h) (by simp only [qq7, hm]; exact ⟨f', ha, hf⟩)
        · cases h
      · cases h
    | io f =>
      rw [hm] at h
      simp only at h
      split at h
      · rename_i τ x f' ha
        split at h
        · rename_i hf
          subst hf
          exact here (by simp [Par.isIn, hm]) ⟨τ, x⟩ (Option.some.inj h) (by simp only [qq7, hm]; exact ha)
        · cases h
      · cases h
theorem qrr {α : Type} {l : List α} {p : α} (h : l.length ≤ 1) (hp : p ∈ l) : l = [p] := by
  cases l with
  | nil => simp at hp
  | cons a l =>
    cases l with
    | nil => simp at hp; rw [hp]
    | cons b l => simp at h
theorem filter_one {α : Type} {f : α → Bool} : ∀ {l : List α}, (l.filter f).length ≤ 1 → ∀ {i j : Nat} {p q : α}, l[i]? = some p → f p = true → l[j]? = some q → f q = true → i = j
  | [], _, i, j, p, q, hi, _, _, _ => by simp at hi
  | a :: l, h, i, j, p, q, hi, hp, hj, hq => by
    have none_of : f a = true → ∀ (n : Nat) (x : α), l[n]? = some x → f x = true → False := by
      intro ha n x hn hx
      have h1 : x ∈ l.filter f := List.mem_filter.2 ⟨List.mem_of_getElem? hn, hx⟩
      have h2 : 0 < (l.filter f).length := List.length_pos_of_mem h1
      rw [List.filter_cons_of_pos ha, List.length_cons] at h
      omega
    cases i with
    | zero =>
      simp only [List.getElem?_cons_zero, Option.some.injEq] at hi
      subst hi
      cases j with
      | zero => rfl
      | succ j => exact (none_of hp j q hj hq).elim
    | succ i =>
      cases j with
      | zero =>
        simp only [List.getElem?_cons_zero, Option.some.injEq] at hj
        subst hj
        exact (none_of hq i p hi hp).elim
      | succ j =>
        refine congrArg (· + 1) (filter_one (l := l) ?_ hi hp hj hq)
        refine Nat.le_trans ?_ h
        simp only [List.filter_cons]
        split <;> simp
def inB (c : Code) (ps : List Par) : Bool := decide ((ps.filter (·.isIn)).length ≤ 1) && (List.range ps.length).all fun i => match ps[i]? with
  | some p => !p.isIn || !(qkd c).contains i
  | none => true
theorem qlm (ps : List Par) (x : q4l (ps.map (·.τ))) (n : Nat) : (start ps x n).length = ps.length + (n - ps.length) := by
  have := congrArg List.length (q58 (l := ps.map (·.τ)) x)
  simp only [List.length_map] at this
  simp only [start, List.length_append, List.length_map, List.length_zip, List.length_replicate, this]
  omega
theorem qe5 (ps : List Par) (x : q4l (ps.map (·.τ))) (n t : Nat) : (∃ p s, ps[t]? = some p ∧ (unpack _ x)[t]? = some s ∧ (start ps x n).av t = q68 p s) ∨ (ps.length ≤ t ∧ ((start ps x n).av t = .un ∨ (start ps x n).av t = .no ∧ ps.length + (n - ps.length) ≤ t)) := by
  have hu := congrArg List.length (q58 (l := ps.map (·.τ)) x)
  simp only [List.length_map] at hu
  by_cases ht : t < ps.length
  · left
    refine ⟨ps[t], (unpack _ x)[t]'(by omega), List.getElem?_eq_getElem ht, List.getElem?_eq_getElem (by omega), ?_⟩
    simp only [St.av, St.slot, start, List.getD_eq_getElem?_getD]
    have hz : (ps.zip (unpack _ x))[t]? = some (ps[t], (unpack _ x)[t]'(by omega)) := by
      rw [List.getElem?_eq_getElem (by simp [hu, ht])]
      simp
    rw [List.getElem?_append_left (by simp [hu, ht]), List.getElem?_map, hz]
    rfl
  · right
    refine ⟨by omega, ?_⟩
    simp only [St.av, St.slot, start, List.getD_eq_getElem?_getD]
    rw [List.getElem?_append_right (by simp [hu]; omega)]
    simp only [List.length_map, List.length_zip, hu, Nat.min_self]
    by_cases h2 : t - ps.length < n - ps.length
    · left
      rw [List.getElem?_replicate_of_lt h2]; rfl
    · right
      rw [List.getElem?_eq_none (by simp; omega)]
      exact ⟨rfl, by omega⟩
theorem qbw : ∀ (rs : List Res) (ss fs : List Sv), ss.length = rs.length → q4g rs (ss ++ fs) = q4g rs ss
  | [], ss, fs, h => by
    have : ss = [] := List.length_eq_zero_iff.1 h
    subst this
    cases fs <;> rfl
  | r :: rs, ss, fs, h => by
    match ss, h with
    | s :: ss, h => simp only [List.cons_append, q4g]; rw [qbw rs ss fs (by simpa using h)]
theorem qfx : ∀ (rs : List Res) (ss : List Sv), ss.length = rs.length → (q4g rs ss).length = rs.length
  | [], ss, h => by
    have : ss = [] := List.length_eq_zero_iff.1 h
    subst this
    rfl
  | r :: rs, ss, h => by
    match ss, h with
    | s :: ss, h => simp only [q4g, List.length_cons]; rw [qfx rs ss (by simpa using h)]
theorem qpb (he : EOk P E ξ0 w0) {fn : Func} {rs : List Res} {ss : List Sv} {σ2 : St} (S : SA T0 ξ0 w0 tk Em ξ w σ tm) (hg : q93 E fn.results.toList rs σ = some (ss, σ2)) :
    ∃ v, ∃ ξ2 : Im, ∃ tk2 : Nat → Bs, ∃ tr : Bs, (results fn tm).run P w = .ok v w ∧ SA T0 ξ0 w0 tk2 (Un Em tr) ξ2 w σ2 tm ∧ q4q ξ2 w (q7j (q4g rs ss)) v tr ∧ ss.length = rs.length := by
  obtain ⟨tk2, Tr, ξ2, us, b1, b2, b3, b4, b5, b6, b7, b8, b9⟩ := qfv he fn.results.toList rs σ tk Em ξ S hg
  have hrun := qhi (P := P) (tm := tm) (w := w) (fn := fn) (us := us) (by rw [b4]; simp) fun i v hv => b7 i v (by rw [Array.getElem?_toList]; exact hv)
  refine ⟨_, ξ2, tk2, fun b => ∃ i, Tr i b, hrun, b1, ?_, b5⟩
  have hlr : (q4g rs ss).length = us.length := by rw [qfx rs ss b5, b4, b6]
  have own : ∀ i a, (q4g rs ss)[i]? = some a → Own ξ2 w a (us.getD i undef) (Tr i) := by
    intro i a ha
    obtain ⟨r1, s1, e1, e2, rfl⟩ := qbv rs ss i a ha
    exact b8 i r1 s1 e1 e2
  match hra : q4g rs ss, us, hlr with
  | [], [], _ => rfl
  | [a], [u], _ =>
    have := own 0 a (by rw [hra]; rfl)
    have h2 : Own ξ2 w a u (fun b => ∃ i, Tr i b) := this.sub fun b hb => ⟨0, hb⟩
    obtain ⟨r1, s1, e1, e2, rfl⟩ := qbv rs ss 0 a (by rw [hra]; rfl)
    simp only [q7j, Res.av] at h2 ⊢
    split <;> rename_i hbx <;> simp only [hbx, if_true, if_false] at h2 <;> exact h2
  | a :: a' :: l, u :: u' :: us', hlr =>
    refine ⟨(u :: u' :: us').toArray, Tr, ?_, by simpa using hlr.symm, fun i b hb => ⟨i, hb⟩, b3, fun i c hc => ?_⟩
    · simp
    · have := own i c (by rw [hra]; exact hc)
      simpa [Array.getD_eq_getD_getElem?, List.getD_eq_getElem?_getD] using this
theorem qim {ps : List Par} (x : q4l (ps.map (·.τ))) (n : Nat) {vs : Array Value} {tk : Nat → Bs} (wf : Wf ξ w) (hsz : vs.size = ps.length) (lt : ∀ i b, tk i b → b < w.heap.size) (dj : ∀ i j, i ≠ j → Dj (tk i) (tk j))
    (hargs : ∀ (i : Nat) (p : Par) (s : Sv), ps[i]? = some p → (unpack _ x)[i]? = some s → q4q ξ w (q68 p s) (vs.getD i undef) (tk i)) :
    ∃ tk0 : Nat → Bs, SA (fun b => ∃ i, tk i b) ξ w tk0 Em ξ w (start ps x n) (vs ++ Array.replicate (n - vs.size) undef) ∧ ∀ t, t < ps.length → (vs ++ Array.replicate (n - vs.size) undef).getD t undef = vs.getD t undef := by
  have hu := congrArg List.length (q58 (l := ps.map (·.τ)) x)
  simp only [List.length_map] at hu
  let tk0 : Nat → Bs := fun t => if t < ps.length then tk t else Em
  have tk0s : ∀ t b, tk0 t b → tk t b := by
    intro t b hb
    simp only [tk0] at hb
    split at hb
    · exact hb
    · exact hb.elim
  let tm0 : Array Value := vs ++ Array.replicate (n - vs.size) undef
  have hval : ∀ t, t < ps.length → tm0.getD t undef = vs.getD t undef := by
    intro t ht
    simp only [tm0, Array.getD_eq_getD_getElem?]
    rw [Array.getElem?_append_left (by omega)]
  have S : SA (fun b => ∃ i, tk i b) ξ w tk0 Em ξ w (start ps x n) tm0 := by
    refine ⟨Fr.refl _ _ _, wf, by rw [qlm]; simp [tm0, hsz], fun t b hb => ⟨.inl ⟨t, tk0s t b hb⟩, lt t b (tk0s t b hb)⟩, fun b hb => hb.elim, fun t u htu b h1 h2 => dj t u htu b (tk0s t b h1) (tk0s u b h2), fun t => Dj.em' _, fun t => ?_, fun t => ?_⟩
    · rcases qe5 ps x n t with ⟨p, s, h1, h2, h3⟩ | ⟨h1, h2 | ⟨h2, _⟩⟩
      · have ht : t < ps.length := (List.getElem?_eq_some_iff.1 h1).1
        rw [h3, hval t ht]
        have e : tk0 t = tk t := by simp only [tk0]; rw [if_pos ht]
        rw [e]
        exact hargs t p s h1 h2
      · rw [h2]
        show tm0.getD t undef = undef
        simp only [tm0, Array.getD_eq_getD_getElem?]
        rw [Array.getElem?_append_right (by omega)]
        by_cases h3 : t - vs.size < n - vs.size
        · rw [Array.getElem?_replicate, if_pos h3]; rfl
        · rw [Array.getElem?_eq_none (by rw [Array.size_replicate]; exact Nat.le_of_not_lt h3)]; rfl
      · rw [h2]; trivial
    · rcases qe5 ps x n t with ⟨p, s, h1, h2, h3⟩ | ⟨h1, h2 | ⟨h2, _⟩⟩
      · rw [h3]
        cases hm : p.m <;> simp only [q68, hm] <;> trivial
      · rw [h2]; trivial
      · rw [h2]; trivial
  exact ⟨tk0, S, hval⟩
theorem qsw {J : Jd P} (he : qra P J E) (hC : ∀ k, qd1 P J (C k)) (hm : P.follows .mixedOrders = true) {n : FuncId} {fn : Func} {c : Code} (hf : P.funcs[n]? = some fn) (hb : fn.body = some c) {ps : List Par} {rs : List Res} (hp : inB c ps = true)
    (F : q4l (ps.map (·.τ)) → Option (q4l (outs ps rs))) (hF : ∀ x r, F x = some r → ∃ k, q3t E C H fn ps rs k x = some r) : Snd P J n ⟨ps, rs, F⟩ := by
  intro x r hr ξ w vs tk wf hG hsz lt dj hargs
  have he := EOk.mk' he.1 he.2 hG
  simp only at hsz hargs hr
  obtain ⟨k, hk⟩ := hF x r hr
  simp only [q3t, hb] at hk
  refine calls_of_wp hf hb ?_
  obtain ⟨tk0, S, hval⟩ := qim x fn.ntmps wf hsz lt dj hargs
  refine qlk (H := H) he hG hC hm [] c k _ tk0 ξ w _ _ r _ S hk ?_
  intro e σ' tm' w' ξ' tk' S' kept hl
  have hbody : leave E fn.results.toList ps rs e σ' = some r → bodyPost P fn (fun e w' => ∃ v, ∃ ξ' : Im, ∃ tr tb : Bs, e = .returned v ∧ Fr (fun b => ∃ i, tk i b) ξ w ξ' w' ∧ Wf ξ' w' ∧ q4q ξ' w' (q7j (q4g rs (unpack _ r))) v tr ∧
      (∀ (i : Nat) (p : Par), ps[i]? = some p → p.isIn = true → ∃ s, (unpack _ r)[rs.length]? = some s ∧ s.1 = p.τ ∧ q4q ξ' w' (q68 p s) (vs.getD i undef) tb) ∧
      Dj tr tb ∧ (∀ b, tr b ∨ tb b → ((∃ i, tk i b) ∨ w.heap.size ≤ b) ∧ b < w'.heap.size)) .ret ⟨tm', []⟩ w' := by
    intro hl
    unfold leave at hl
    split at hl
    · cases hl
    · split at hl
      case h_2 => cases hl
      rename_i ss σ2 hg
      split at hl
      case h_2 => cases hl
      rename_i fs hfs
      have hun := unpack_pack hl
      obtain ⟨hfl, hfin⟩ := qfw ps 0 σ2 hfs
      simp only [inB, Bool.and_eq_true, decide_eq_true_eq, List.all_eq_true, List.mem_range] at hp
      obtain ⟨hp1, hp2⟩ := hp
      obtain ⟨v, ξ2, tk2, tr, hrun, b1, hown, hss⟩ := qpb he S' hg
      -- what was turned in place
      have inn : ∀ (i : Nat) (p : Par), ps[i]? = some p → p.isIn = true → ∃ s, (unpack _ r)[rs.length]? = some s ∧ s.1 = p.τ ∧ q4q ξ2 w' (q68 p s) (vs.getD i undef) (tk2 i) := by
        intro i p hpi hpin
        obtain ⟨k, s, e1, e2⟩ := hfin i p hpi hpin
        have hilt : i < ps.length := (List.getElem?_eq_some_iff.1 hpi).1
        have hk0 : k = 0 := by
          have : k < fs.length := (List.getElem?_eq_some_iff.1 e1).1
          omega
        subst hk0
        have hnot : i ∉ qkd c := by
          have := hp2 i hilt
          rw [hpi] at this
          simpa [hpin] using this
        have hv : tm'.getD i undef = vs.getD i undef := by rw [kept i hnot, hval i hilt]
        have hty : s.1 = p.τ := by
          have hu2 := q58 (l := outs ps rs) r
          rw [hun] at hu2
          have h3 := congrArg (fun l => l[rs.length]?) hu2
          simp only [List.map_append, outs] at h3
          rw [List.getElem?_append_right (by simp [hss]), List.getElem?_append_right (by simp)] at h3
          simp only [List.length_map, hss, Nat.sub_self, List.getElem?_map, e1, Option.map_some] at h3
          have hmem : p ∈ ps.filter (·.isIn) := List.mem_filter.2 ⟨List.mem_of_getElem? hpi, hpin⟩
          rw [qrr hp1 hmem] at h3
          simpa using h3
        have ho := b1.own i
        rw [hv] at ho
        refine ⟨s, ?_, hty, ?_⟩
        · rw [hun, List.getElem?_append_right (by omega), hss, Nat.sub_self]; exact e1
        · rw [Nat.zero_add] at e2
          unfold qq7 at e2
          unfold q68
          cases hpm : p.m with
          | rd => rw [hpm] at e2; exact e2.elim
          | own f => rw [hpm] at e2; exact e2.elim
          | bx f =>
            rw [hpm] at e2
            obtain ⟨f', e2, hf'⟩ := e2
            rw [e2] at ho
            rcases hf' with rfl | ⟨rfl, hro⟩
            · exact ho
            · obtain ⟨b, c, t, fz, T', h1, h2, h3, h4, h5, h6, h7, h8⟩ := ho
              exact ⟨b, c, t, fz, Em, h1, h2, h3, h4, h5, Sb.em _, fun hb => hb, h8.toRo hro⟩
          | io f =>
            rw [hpm] at e2
            rw [e2] at ho
            exact ho
      have hdec : (∃ (i : Nat) (p : Par), ps[i]? = some p ∧ p.isIn = true) ∨ ∀ (i : Nat) (p : Par), ps[i]? = some p → p.isIn = true → False := by
        rcases Classical.em (∃ (i : Nat) (p : Par), ps[i]? = some p ∧ p.isIn = true) with h | h
        · exact .inl h
        · exact .inr fun i p h1 h2 => h ⟨i, p, h1, h2⟩
      obtain ⟨tb, htb1, htb2, htb3⟩ : ∃ tb : Bs, (∀ (i : Nat) (p : Par), ps[i]? = some p → p.isIn = true → ∃ s, (unpack _ r)[rs.length]? = some s ∧ s.1 = p.τ ∧ q4q ξ2 w' (q68 p s) (vs.getD i undef) tb) ∧ Dj tr tb ∧ ∀ b, tb b → May (fun b => ∃ i, tk i b) w w' b := by
        rcases hdec with ⟨i0, p0, h1, h2⟩ | h
        · refine ⟨tk2 i0, fun i p hi hb => ?_, Dj.symm ((b1.djf i0).sub (Sb.refl _) (Sb.r _ _)), fun b hb => b1.may i0 b hb⟩
          obtain rfl := filter_one hp1 hi hb h1 h2
          exact inn i p hi hb
        · exact ⟨Em, fun i p hi hb => (h i p hi hb).elim, Dj.em' _, fun b hb => hb.elim⟩
      refine ⟨rfl, _, hrun, _, ξ2, tr, tb, rfl, b1.fr, b1.wf, ?_, htb1, htb2, fun b hb => ?_⟩
      · rw [hun, qbw rs ss fs hss]
        exact hown
      · rcases hb with hb | hb
        · have := b1.mayf b (.inr hb)
          exact this
        · exact htb3 b hb
  cases e with
  | nm =>
    obtain ⟨h1, h2⟩ := hbody hl
    exact ⟨h1, h2⟩
  | ex id => simp [leave] at hl
  | rt => exact hbody hl
end
end Go.Proofs.YtjfkeknnjjlepaaGreatDoor.Rf
end

section
/- How a function's contract is had. Nothing of any program. -/
namespace Go.Proofs.YtjfkeknnjjlepaaGreatDoor.Rf
open Go Go.RowKit
set_option linter.unusedVariables false
theorem qd1.nil {P : Program} {J : Jd P} : qd1 P J [] := fun f ce h => by cases h
theorem qd1.cons {P : Program} {J : Jd P} {f : FuncId} {ce : CE} {l : CEs} (h : Snd P J f ce) (c : Can P f) (k : qd1 P J l) : qd1 P J ((f, ce) :: l) := by
  intro g cg hg
  simp only [List.lookup_cons] at hg
  split at hg
  · rename_i e
    have e := eq_of_beq e
    subst e
    cases hg
    exact ⟨h, c⟩
  · exact k g cg hg
theorem qd6 {α β : Type} [BEq α] [LawfulBEq α] : ∀ {l : List (α × β)} {a : α} {b : β}, l.lookup a = some b → (a, b) ∈ l
  | [], a, b, h => by cases h
  | (c, d) :: l, a, b, h => by
    simp only [List.lookup_cons] at h
    split at h
    · rename_i e
      have e := eq_of_beq e
      subst e
      cases h
      exact List.mem_cons_self ..
    · exact List.mem_cons_of_mem _ (qd6 h)
theorem TOk.of {P : Program} {E : q4v} (h : (E.ts.all fun p => q4a P p.2 (.inl p.1)) = true) : TOk P E := fun t τ ht => List.all_eq_true.1 h (t, τ) (qd6 ht)
theorem qra.of {P : Program} {J : Jd P} {E : q4v} (h : (E.ts.all fun p => q4a P p.2 (.inl p.1)) = true) (g : E.gs = []) : qra P J E := ⟨.of h, fun w j n k l hl => by rw [g] at hl; cases hl⟩
theorem qpc {P : Program} {J : Jd P} {E : q4v} {C : Nat → CEs} {H : q3q} (he : qra P J E) (hC : ∀ k, qd1 P J (C k)) (hm : P.follows .mixedOrders = true) {n : FuncId} {fn : Func} (hf : P.funcs[n]? = some fn) (hb : fn.body.isSome = true) {ps : List Par} {rs : List Res} (hp : inB (qbf fn) ps = true) (k : Nat) :
    Snd P J n ⟨ps, rs, q3t E C H fn ps rs k⟩ := by
  obtain ⟨c, hc⟩ := Option.isSome_iff_exists.1 hb
  have hp' : inB c ps = true := by rw [qbf, hc] at hp; exact hp
  exact qsw he hC hm hf hc hp' _ fun x r h => ⟨k, h⟩
theorem q8f {P : Program} {n : FuncId} {fn : Func} (hf : P.funcs[n]? = some fn) (hn : (fn.name == "runtime.NumGoroutine") = false) (hb : fn.body.isSome = true) : Can P n := ⟨fn, hf, hn, hb⟩
end Go.Proofs.YtjfkeknnjjlepaaGreatDoor.Rf
end

section
/- Functions that put what they turn in place into a variable first. Nothing of any program. -/
namespace Go.Proofs.YtjfkeknnjjlepaaGreatDoor.Rf
open Go Go.RowKit
set_option linter.unusedVariables false
set_option linter.unusedSimpArgs false
def qin (E : q4v) (d : Tmp) (vs : List ResultVar) (ps : List Par) (rs : List Res) (e : Ex) (σ : St) : Option (q4l (outs ps rs)) := match e with
  | .ex _ => none
  | _ => match q93 E vs rs σ with
    | some (ss, σ) => match ps with
      | p :: _ => match p.m, σ.av d with
        | .io f, .box τ x f' (some _) => if f' = f then qcm _ (ss ++ [⟨τ, x⟩]) else none
        | _, _ => none
      | [] => none
    | none => none
noncomputable def qln (E : q4v) (C : Nat → CEs) (H : q3q) (fn : Func) (ps : List Par) (rs : List Res) (k : Nat) (x : q4l (ps.map (·.τ))) : Option (q4l (outs ps rs)) := match fn.body with
  | some (.seq (.region _ ops false) c) => match ops.toList with
    | o :: l => match o.dst, o.op, o.guard with
      | some d, .box t (.tmp 0), none => match E.of t with
        | some τ => match q6k E (start ps x fn.ntmps) t (.tmp 0) with
          | some (s, f, σ) => match q4w τ s with
            | some y => qki E (C k) ops l (σ.put d (.box τ y f (some 0))) fun σ => q5e E C H c k (norm (q6m H c) σ) (qin E d fn.results.toList ps rs)
            | none => none
          | none => none
        | none => none
      | _, _, _ => none
    | [] => none
  | _ => none
def qsx (fn : Func) (ps : List Par) : Bool := decide ((ps.filter (·.isIn)).length ≤ 1) && match ps with
  | p :: _ => p.isIn && match fn.body with
    | some (.seq (.region _ ops false) c) => match ops.toList with
      | o :: l => match o.dst with
        | some d => !((l.filterMap (·.dst)).contains d || (qkd c).contains d) && decide (d < fn.ntmps)
        | none => false
      | [] => false
    | _ => false
  | [] => false
section
variable {ρ : Type} {P : Program} {E : q4v} {C : Nat → CEs} {H : q3q} {T0 : Bs} {ξ0 : Im} {w0 : World} {tk : Nat → Bs} {Tf : Bs} {ξ : Im} {w : World} {σ : St} {tm : Array Value}
theorem SA.rebase (h : SA T0 ξ0 w0 tk Em ξ w σ tm) : SA (fun b => ∃ t, tk t b) ξ w tk Em ξ w σ tm :=
  { h with fr := Fr.refl _ _ _, may := fun t b hb => ⟨.inl ⟨t, hb⟩, (h.may t b hb).2⟩, mayf := fun b hb => hb.elim }
theorem qo0 {J : Jd P} (he : qra P J E) (hC : ∀ k, qd1 P J (C k)) (hm : P.follows .mixedOrders = true) {n : FuncId} {fn : Func} (hf : P.funcs[n]? = some fn) {ps : List Par} {rs : List Res} (hp : qsx fn ps = true) (k : Nat) :
    Snd P J n ⟨ps, rs, qln E C H fn ps rs k⟩ := by
  intro x r hr ξ w vs tk wf hG hsz lt dj hargs
  simp only at hsz hargs hr
  obtain ⟨tk0, S, hval⟩ := qim x fn.ntmps wf hsz lt dj hargs
  unfold qln at hr
  simp only [qsx, Bool.and_eq_true, decide_eq_true_eq] at hp
  obtain ⟨hp1, hp2⟩ := hp
  split at hr
  case h_2 => cases hr
  rename_i id ops c hb
  rw [hb] at hp2
  refine calls_of_wp hf hb ?_
  split at hr
  case h_2 => cases hr
  rename_i o l hol
  cases ps with
  | nil => cases hp2
  | cons p ps =>
  simp only [hol] at hp2
  split at hr
  case h_2 => cases hr
  rename_i d t hd hop hgd
  rw [hd] at hp2
  simp only [Bool.and_eq_true, Bool.not_eq_true', Bool.or_eq_false_iff, decide_eq_true_eq] at hp2
  obtain ⟨hpin, ⟨hd1, hd2⟩, hdl⟩ := hp2
  split at hr
  case h_2 => cases hr
  rename_i τ hE
  split at hr
  case h_2 => cases hr
  rename_i s f σ1 htk
  split at hr
  case h_2 => cases hr
  rename_i y hy
  cases q3y hy
  obtain ⟨tk1, T1, cs, k1, k2, k3, k4, k5, k6⟩ := q6c S htk
  have k1 := k1.drop (qbk T1)
  -- the new variable, never turned
  obtain ⟨B, hB⟩ : ∃ B, B = w.heap.size := ⟨_, rfl⟩
  obtain ⟨ξ1, hxN, hxB⟩ : ∃ ξ1 : Im, (∀ b, b ≠ B → ξ1 b = ξ b) ∧ ξ1 B = cs.length := ⟨fun b => if b = B then cs.length else ξ b, fun b hb => if_neg hb, if_pos rfl⟩
  obtain ⟨w1, hw1⟩ : ∃ w1, w1 = w.alloc (.cells cs.toArray t) := ⟨_, rfl⟩
  have F1 : Fr Em ξ w ξ1 w1 := by
    have F := Fr.alloc Em ξ w (.cells cs.toArray t)
    rw [← hw1] at F
    refine ⟨F.os, F.tape, F.output, F.size, fun b hb hn => ⟨(F.blk b hb hn).1, hxN b (by omega)⟩, F.imm, fun b hb => ?_⟩
    rw [hxN b (by omega)]
    exact Nat.le_refl _
  have hs1 : w1.heap.size = B + 1 := by rw [hw1, hB]; exact size_alloc _ _
  have wf1 : Wf ξ1 w1 := fun b hb => by
    rw [hxN b (by omega)]
    exact wf b (by omega)
  have S1 := k1.step F1 (Sb.em _) wf1 (Tf' := Un T1 (fun i => i = B)) (fun b hb => by
    rcases hb with hb | hb
    · exact ⟨.inl hb, by have := (k1.mayf b hb).2; omega⟩
    · subst hb; exact ⟨.inr (Nat.le_of_eq hB.symm), by omega⟩)
  have hnT : ¬ T1 B := fun hx => by have := (k1.mayf B hx).2; omega
  have hheap : w1.heap[B]? = some (.cells cs.toArray t (0, 0)) := by rw [hw1, hB]; exact q94 _ _
  have K1 : q7k T1 ξ w ξ1 w1 := F1.keep wf (fun b hb => (k1.mayf b hb).2) (Dj.em' _)
  have own : q4q ξ1 w1 (.box τ y f (some 0)) (.pointer (some ⟨B, 0, none⟩)) (Un T1 (fun i => i = B)) :=
    ⟨B, cs.toArray, t, (0, 0), T1, rfl, .inr rfl, hheap, fun _ _ => by simp, by simp only [BxI]; rw [hxB]; simp, Sb.l _ _, hnT, by simpa using k4.keep K1⟩
  have hlen : d < (vs ++ Array.replicate (fn.ntmps - vs.size) undef).size := by
    rw [Array.size_append, Array.size_replicate]
    exact Nat.lt_of_lt_of_le hdl (by omega)
  have S2 := S1.put (d := d) (a := .box τ y f (some 0)) (tm' := (vs ++ Array.replicate (fn.ntmps - vs.size) undef).setIfInBounds d (.pointer (some ⟨B, 0, none⟩))) (T' := Un T1 (fun i => i = B)) (Tf' := Em) (by simp) (fun t ht => getD_set_ne ht) (by rw [q73 hlen]; exact own) trivial (Sb.l _ _) (Sb.em _) (Dj.em' _) (by rw [← S1.sz]; exact hlen)
  have S3 := S2.rebase
  have hG3 := hG.step S2.fr (T' := fun b => ∃ t, upd tk1 d (Un T1 fun i => i = B) t b) (fun b ⟨t, hb⟩ => (S2.may t b hb).1)
  have he := EOk.mk' he.1 he.2 hG3
  rw [qdy] at hr
  obtain ⟨σ3, hr1, hr2⟩ := Option.bind_eq_some_iff.1 hr
  have hnl : ∀ o ∈ l, o.dst ≠ some d := fun o ho e => by
    have : d ∈ l.filterMap (·.dst) := List.mem_filterMap.2 ⟨o, ho, e⟩
    simp at hd1
    exact hd1 o ho e
  have hnc : d ∉ qkd c := fun hx => by simp [hx] at hd2
  refine wp_seq (wp_region_list ?_)
  rw [hol]
  have hw : Region.wanted o (yielded ops (vs ++ Array.replicate (fn.ntmps - vs.size) undef)) = true := by simp [Region.wanted, hgd]
  unfold wpList
  rw [if_pos hw]
  refine .inl ?_
  unfold Oper.wp
  rw [qkm]
  have hrun : (execOp (ev (vs ++ Array.replicate (fn.ntmps - vs.size) undef)) o).run P w = .ok (.value (.pointer (some ⟨B, 0, none⟩))) w1 := by
    simp [execOp, hop, Instr.box, newVar, newRow, k3, q6o k4 k5, hB, hw1]
  rw [show ev (⟨vs ++ Array.replicate (fn.ntmps - vs.size) undef, []⟩ : Act).tmps = ev (vs ++ Array.replicate (fn.ntmps - vs.size) undef) from rfl, hrun, Oper.upon_value, qfj]
  rw [show ((⟨vs ++ Array.replicate (fn.ntmps - vs.size) undef, []⟩ : Act).put o.dst (.pointer (some ⟨B, 0, none⟩))).tmps = (vs ++ Array.replicate (fn.ntmps - vs.size) undef).setIfInBounds d (.pointer (some ⟨B, 0, none⟩)) by rw [hd]; rfl]
  refine qbp he hG3 (hC k) [] l _ σ3 _ _ _ _ S3 hr1 fun tm3 w3 ξ3 tk3 S4 kp3 => ?_
  obtain ⟨tk4, ξ4, S5⟩ := qdx (q6m H c) S4
  refine qlk (H := H) he hG3 hC hm [] c k _ tk4 ξ4 w3 tm3 _ r _ S5 hr2 ?_
  intro e σ' tm' w' ξ' tk' S' kept hl
  have hbody : qin E d fn.results.toList (p :: ps) rs e σ' = some r → bodyPost P fn (fun e w' => ∃ v, ∃ ξ' : Im, ∃ tr tb : Bs, e = .returned v ∧ Fr (fun b => ∃ i, tk i b) ξ w ξ' w' ∧ Wf ξ' w' ∧ q4q ξ' w' (q7j (q4g rs (unpack _ r))) v tr ∧
      (∀ (i : Nat) (q : Par), (p :: ps)[i]? = some q → q.isIn = true → ∃ s, (unpack _ r)[rs.length]? = some s ∧ s.1 = q.τ ∧ q4q ξ' w' (q68 q s) (vs.getD i undef) tb) ∧
      Dj tr tb ∧ (∀ b, tr b ∨ tb b → ((∃ i, tk i b) ∨ w.heap.size ≤ b) ∧ b < w'.heap.size)) .ret ⟨tm', []⟩ w' := by
    intro hl
    unfold qin at hl
    split at hl
    · cases hl
    · split at hl
      case h_2 => cases hl
      rename_i ss σ2 hg
      simp only at hl
      split at hl
      case h_2 => cases hl
      rename_i f1 τ1 x1 f2 q1 hpm hav
      split at hl
      case isFalse => cases hl
      rename_i hff
      subst hff
      have hun := unpack_pack hl
      obtain ⟨v, ξ2, tk2, tr, hrun2, b1, hown, hss⟩ := qpb he S' hg
      have htot : Fr (fun b => ∃ i, tk i b) ξ w ξ2 w' := S2.fr.trans b1.fr fun b ⟨t, hb⟩ => (S2.may t b hb).1
      have fm : ∀ b, May (fun b => ∃ t, upd tk1 d (Un T1 fun i => i = B) t b) w1 w' b → ((∃ i, tk i b) ∨ w.heap.size ≤ b) ∧ b < w'.heap.size := by
        intro b ⟨h1, h2⟩
        refine ⟨?_, h2⟩
        rcases h1 with ⟨t, h1⟩ | h1
        · exact (S2.may t b h1).1
        · right; omega
      refine ⟨rfl, _, hrun2, v, ξ2, tr, tk2 d, rfl, htot, b1.wf, ?_, ?_, Dj.symm ((b1.djf d).sub (Sb.refl _) (Sb.r _ _)), fun b hb => hb.elim (fun hb => fm b (b1.mayf b (.inr hb))) (fun hb => fm b (b1.may d b hb))⟩
      · rw [hun, qbw rs ss _ hss]
        exact hown
      · intro i q hq hqin
        obtain rfl : i = 0 := filter_one hp1 hq hqin (show (p :: ps)[0]? = some p from rfl) hpin
        simp only [List.getElem?_cons_zero, Option.some.injEq] at hq
        subst hq
        have ho := b1.own d
        rw [hav] at ho
        obtain ⟨b, c', t', fz, T', m1, m2, m3, m4, m5, m6, m7, m8⟩ := ho
        have hv : tm'.getD d undef = .pointer (some ⟨B, 0, none⟩) := by
          rw [kept d hnc, kp3 d hnl, q73 hlen]
        rw [hv] at m1
        obtain ⟨hbB, _⟩ := q9u m1
        subst hbB
        have hty : τ1 = p.τ := by
          have hu2 := q58 (l := outs (p :: ps) rs) r
          rw [hun] at hu2
          have h3 := congrArg (fun l => l[rs.length]?) hu2
          simp only [List.map_append, outs] at h3
          rw [List.getElem?_append_right (by simp [hss]), List.getElem?_append_right (by simp)] at h3
          simpa [hss, List.filter_cons, hpin] using h3
        have hty0 : τ = p.τ := by
          rcases qe5 (p :: ps) x fn.ntmps 0 with ⟨p', s', e1, e2, e3⟩ | ⟨e1, _⟩
          · simp only [List.getElem?_cons_zero, Option.some.injEq] at e1
            subst e1
            have hs : s'.1 = p.τ := by
              have hu := q58 (l := (p :: ps).map (·.τ)) x
              have h3 : ((unpack _ x).map (·.1))[0]? = some s'.1 := by rw [List.getElem?_map, e2]; rfl
              rw [hu] at h3
              simpa using h3.symm
            simp only [q68, hpm] at e3
            unfold q6k take at htk
            simp only [e3] at htk
            split at htk
            · rename_i hq
              split at hq <;> (cases hq; split at htk <;> cases htk; exact hs)
            · cases htk
          · simp at e1
        subst hty0
        subst hty
        have hlc : c'.toList.length = cs.length := by rw [m8.len, k4.len]
        have hcat : CAt w' B 0 cs := by
          intro j u hj
          have hjl : j < cs.length := (List.getElem?_eq_some_iff.1 hj).1
          have h1 : w1.cell? ⟨B, 0 + j, none⟩ = some u := by rw [cell_of hheap]; simpa using hj
          exact b1.fr.imm B (0 + j) u (by rw [hxB]; omega) h1
        have hcs : c'.toList = cs := (q82 m3).eq hcat hlc
        refine ⟨⟨p.τ, x1⟩, ?_, rfl, ?_⟩
        · rw [hun, List.getElem?_append_right (by omega), hss, Nat.sub_self]; rfl
        · simp only [q68, hpm]
          refine ⟨cs, ?_, ?_⟩
          · rw [← k3, ← hval 0 (by simp)]; rfl
          · rw [← hcs]; exact m8.sub m6
  cases e with
  | nm =>
    obtain ⟨h1, h2⟩ := hbody hl
    exact ⟨h1, h2⟩
  | ex id => simp [qin] at hl
  | rt => exact hbody hl
end
end Go.Proofs.YtjfkeknnjjlepaaGreatDoor.Rf
end

section
/- From a contract that is told of memory to one that is told of plain values. Nothing of any program. -/
namespace Go.Proofs.YtjfkeknnjjlepaaGreatDoor.Rf
open Go Go.RowKit
set_option linter.unusedVariables false
set_option linter.unusedSimpArgs false
theorem qhj {T : Bs} {ξ : Im} {w w' : World} (h : Below w.heap.size w w') (wf : Wf ξ w) : Fr T ξ w ξ w' ∧ Wf ξ w' :=
  ⟨⟨h.os, h.tape, h.output, h.size, fun b hb _ => ⟨h.block b hb, rfl⟩, fun b o v _ hv => (q6i (h.block b (q9s hv)) o).trans hv, fun _ _ => Nat.le_refl _⟩, fun b hb => wf b (Nat.le_trans h.size hb)⟩
theorem Rel.row_ro {ξ : Im} {w : World} {e : Ty} {l : List e.T} {cs : List Value} {T : Bs} (h : Rel ξ w (.row e) .ro l cs T) :
    ∃ A cap, cs = [.slice A l.length cap] ∧ l.length ≤ cap ∧ ∀ i (h : i < l.length), ∃ a c, A = some a ∧ a.spot = none ∧ c.length = e.n ∧ CAt w a.block (a.off + i * e.n) c ∧ Rel ξ w e .ro l[i] c Em := by
  obtain ⟨A, cap, h1, h2, h3⟩ := h
  refine ⟨A, cap, h1, h2, fun i hi => ?_⟩
  obtain ⟨a, c, k1, k2, k3, k4, k5, k6⟩ := h3 i hi
  exact ⟨a, c, k1, k2, k3, k4, k6⟩
theorem qbx {P : Program} {J : Jd P} {n : FuncId} {ps : List Par} {rs : List Res} {F : q4l (ps.map (·.τ)) → Option (q4l (outs ps rs))} (hp : ps.all (fun p => !p.isIn) = true)
    (h : ∀ x r, F x = some r → ∀ (ξ : Im) (w : World) (vs : Array Value), Wf ξ w → J.J w → vs.size = ps.length → (∀ (i : Nat) (p : Par) (s : Sv), ps[i]? = some p → (unpack _ x)[i]? = some s → ∃ T, q4q ξ w (q68 p s) (vs.getD i undef) T) →
      Calls P n vs w fun e w' => ∃ v, ∃ tr : Bs, e = .returned v ∧ Below w.heap.size w w' ∧ q4q ξ w' (q7j (q4g rs (unpack _ r))) v tr ∧ ∀ b, tr b → w.heap.size ≤ b ∧ b < w'.heap.size) :
    Snd P J n ⟨ps, rs, F⟩ := by
  intro x r hr ξ w vs tk wf hG hsz lt dj hargs
  refine (h x r hr ξ w vs wf hG.j hsz fun i p s h1 h2 => ⟨_, hargs i p s h1 h2⟩).mono ?_
  rintro e w' ⟨v, tr, he, hb, ho, ht⟩
  obtain ⟨f, wf'⟩ := qhj (T := fun b => ∃ i, tk i b) hb wf
  refine ⟨v, ξ, tr, Em, he, f, wf', ho, fun i p h1 h2 => ?_, Dj.em' _, fun b hb' => hb'.elim (fun x => ⟨.inr (ht b x).1, (ht b x).2⟩) fun x => x.elim⟩
  have := List.all_eq_true.1 hp p (List.mem_of_getElem? h1)
  simp [h2] at this
theorem q75 {ξ : Im} {w : World} {x : ByteArray} {f : Fl} {v : Value} {T : Bs} (hf : f ≠ .gone) (h : q4q ξ w (.d .str x f) v T) : v = .string x := by
  obtain ⟨cs, rfl, h1, h2⟩ := h
  rw [h2 hf]; rfl
theorem qq8 {ξ : Im} {w : World} {k : IntKind} {x : Int} {f : Fl} {v : Value} {T : Bs} (hf : f ≠ .gone) (h : q4q ξ w (.d (.int k) x f) v T) : v = .int k x := by
  obtain ⟨cs, rfl, h1, h2⟩ := h
  rw [h2 hf]; rfl
theorem of_int (ξ : Im) (w : World) (k : IntKind) (x : Int) (T : Bs) : q4q ξ w (.d (.int k) x .ro) (.int k x) T := ⟨[.int k x], rfl, rfl, fun _ => rfl⟩
theorem of_bool (ξ : Im) (w : World) (x : Bool) (T : Bs) : q4q ξ w (.d .bool x .ro) (.bool x) T := ⟨[.bool x], rfl, rfl, fun _ => rfl⟩
theorem qfy (ξ : Im) (w : World) (x : ByteArray) (T : Bs) : q4q ξ w (.d .str x .ro) (.string x) T := ⟨[.string x], rfl, rfl, fun _ => rfl⟩
theorem qpd {vs : Array Value} {a : Value} (h : vs.size = 1) (h0 : vs.getD 0 undef = a) : vs = #[a] := by
  apply Array.ext
  · simp [h]
  · intro i h1 h2
    obtain rfl : i = 0 := by omega
    simp [Array.getD_eq_getD_getElem?, h] at h0
    simp [h0]
theorem qfz {vs : Array Value} {a b : Value} (h : vs.size = 2) (h0 : vs.getD 0 undef = a) (h1 : vs.getD 1 undef = b) : vs = #[a, b] := by
  apply Array.ext
  · simp [h]
  · intro i i1 i2
    have : i = 0 ∨ i = 1 := by omega
    rcases this with rfl | rfl
    · simp [Array.getD_eq_getD_getElem?, h] at h0; simp [h0]
    · simp [Array.getD_eq_getD_getElem?, h] at h1; simp [h1]
theorem qio {ξ : Im} {w : World} {x : ByteArray × ByteArray} {c : List Value} {T : Bs} (h : Rel ξ w (.st (.pair .str .str)) .ro x c T) : c = [.string x.1, .string x.2] := by
  obtain ⟨c1, c2, T1, T2, rfl, h1, _, _, _, h2, h3⟩ := h
  rw [h2.2 (by simp [Fl.l]), h3.2 (by simp [Fl.r])]
  rfl
end Go.Proofs.YtjfkeknnjjlepaaGreatDoor.Rf
end

section
/- How an argument that is read as data reads as a plain value; how a law's row is had. Nothing of any program. -/
namespace Go.Proofs.YtjfkeknnjjlepaaGreatDoor.Rf
open Go Go.RowKit Go.ChangeShapes Go.WideShapes
set_option linter.unusedVariables false
set_option linter.unusedSimpArgs false
def qau : (τ : Ty) → τ.T → Prop
  | .int k, n => (Lit.int k n).wf = true
  | .bool, _ => True
  | .str, s => s.size ≤ 9223372036854775807
  | .row e, l => l.length ≤ 9223372036854775807 ∧ ∀ x ∈ l, qau e x
  | .pair a b, x => qau a x.1 ∧ qau b x.2
  | .st a, x => qau a x
  | .arr _ _, _ => False
def noA : Ty → Bool
  | .pair a b => noA a && noA b
  | .st a => noA a
  | .row e => noA e
  | .arr _ _ => false
  | _ => true
def qe6 (w : World) : Im := fun b => match w.heap[b]? with
  | some (.cells c _ _) => c.size
  | _ => 0
theorem qip {w : World} {b o : Nat} {v : Value} (h : w.cell? ⟨b, o, none⟩ = some v) : o < qe6 w b := by
  unfold qe6
  unfold World.cell? at h
  simp only [Option.isSome_none, Bool.false_eq_true, if_false] at h
  cases hh : w.heap[b]? with
  | none => rw [hh] at h; simp at h
  | some ob =>
    rw [hh] at h
    cases ob with
    | cells c t fz => simp at h; exact (Array.getElem?_eq_some_iff.1 h).1
    | _ => simp at h
theorem qg0 {α : Type} (p : Nat → α → Prop) : ∀ n, (∀ i, i < n → ∃ x, p i x) → ∃ xs : List α, xs.length = n ∧ ∀ i x, xs[i]? = some x → p i x
  | 0, _ => ⟨[], rfl, fun i x h => by simp at h⟩
  | n + 1, h => by
    obtain ⟨xs, hl, hx⟩ := qg0 p n (fun i hi => h i (by omega))
    obtain ⟨y, hy⟩ := h n (by omega)
    refine ⟨xs ++ [y], by simp [hl], fun i x hi => ?_⟩
    rcases Nat.lt_or_ge i xs.length with hlt | hge
    · rw [List.getElem?_append_left hlt] at hi
      exact hx i x hi
    · rw [List.getElem?_append_right hge] at hi
      have h0 : i - xs.length = 0 := by
        rcases Nat.eq_zero_or_pos (i - xs.length) with h0 | h0
        · exact h0
        · rw [List.getElem?_eq_none (by simp; omega)] at hi
          cases hi
      rw [h0] at hi
      simp at hi
      subst hi
      have : i = n := by omega
      subst this
      exact hy
theorem q76 {P : Program} : {τ : Ty} → {t : TypeId} → tok P τ t → P.cellsOf t = τ.n := by
  intro τ t h
  have key : qbh P τ t = true := by
    cases τ <;> simp only [tok, q4a, one, Bool.and_eq_true] at h <;> first | exact h.1 | cases h
  unfold qbh at key
  split at key
  · rename_i i hi
    simp only [Bool.and_eq_true, decide_eq_true_eq] at key
    simp only [Program.cellsOf, hi]
    exact key.1
  · cases key
def OpF (P : Program) (τ : Ty) (fs : List Field) (o : Nat) : Prop :=
  ∀ (H : Type) (enc : TypeId × Value → H) (w : World) (base : Nat) (spare : Nat → Bool) (held : Bool) (fuel : Nat) (cs : List Value) (xs : List (DataW H × List MemPlace)),
    cs.length = o + τ.n → (∀ (i : Nat) (f : Field), fs[i]? = some f → DataW.trod enc P w base spare held fuel f.type ((cs.drop f.offset).take (P.cellsOf f.type)) = xs[i]?) → xs.length = fs.length → ∃ v : τ.T, Rel (qe6 w) w τ .ro v (cs.drop o) Em ∧ qau τ v
def OpT (P : Program) (τ : Ty) (t : TypeId) : Prop :=
  ∀ (H : Type) (enc : TypeId × Value → H) (w : World) (base : Nat) (spare : Nat → Bool) (held : Bool) (fuel : Nat) (cs : List Value) (x : DataW H × List MemPlace),
    DataW.trod enc P w base spare held fuel t cs = some x → ∃ v : τ.T, Rel (qe6 w) w τ .ro v cs Em ∧ qau τ v
theorem OpF.one {P : Program} {τ : Ty} {f : Field} {o : Nat} (ho : f.offset = o) (hs : tok P τ f.type) (h : OpT P τ f.type) : OpF P τ [f] o := by
  intro H enc w base spare held fuel cs xs hl hx hxl
  have h0 := hx 0 f rfl
  obtain ⟨x0, rfl⟩ : ∃ x0, xs = [x0] := by
    match xs, hxl with
    | [x0], _ => exact ⟨x0, rfl⟩
  obtain ⟨v, hv, hg⟩ := h H enc w base spare held fuel _ _ h0
  refine ⟨v, ?_, hg⟩
  rw [ho, q76 hs, List.take_of_length_le (by rw [List.length_drop]; omega)] at hv
  exact hv
theorem qo1 {P : Program} : (τ : Ty) → noA τ = true → (m : TypeId ⊕ (List Field × Nat)) → q4a P τ m = true → match m with
    | .inl t => OpT P τ t
    | .inr (fs, o) => OpF P τ fs o := by
  have sing : ∀ (τ : Ty) (m : TypeId ⊕ (List Field × Nat)), (∀ t, q4a P τ (.inl t) = true → OpT P τ t) → (∀ q : TypeId → Bool, (∀ t, q4a P τ (.inl t) = q t) → one m q = true → match m with
      | .inl t => OpT P τ t
      | .inr (fs, o) => OpF P τ fs o) := by
    intro τ m h q hq hm
    cases m with
    | inl t => exact h t (by rw [hq]; exact hm)
    | inr x =>
      obtain ⟨fs, o⟩ := x
      match fs, hm with
      | [f], hm =>
        simp only [one, Bool.and_eq_true, decide_eq_true_eq] at hm
        exact .one hm.1 (by rw [tok, hq]; exact hm.2.2) (h _ (by rw [hq]; exact hm.2.2))
  intro τ
  induction τ with
  | int k =>
    intro _ m hm
    refine sing _ m (fun t ht => ?_) _ (fun t => rfl) hm
    simp only [q4a, one, Bool.and_eq_true] at ht
    have hu := ht.2
    split at hu
    · rename_i k' hu'
      have : k' = k := by simpa using hu
      subst this
      intro H enc w base spare held fuel cs x hx
      obtain ⟨n, rfl, _, hw⟩ := DataW.trod_int hu' hx
      exact ⟨n, ⟨rfl, fun _ => rfl⟩, hw⟩
    · cases hu
  | bool =>
    intro _ m hm
    refine sing _ m (fun t ht => ?_) _ (fun t => rfl) hm
    simp only [q4a, one, Bool.and_eq_true] at ht
    have hu := ht.2
    split at hu
    · rename_i hu'
      intro H enc w base spare held fuel cs x hx
      obtain ⟨b, rfl, _⟩ := DataW.trod_bool hu' hx
      exact ⟨b, ⟨rfl, fun _ => rfl⟩, trivial⟩
    · cases hu
  | str =>
    intro _ m hm
    refine sing _ m (fun t ht => ?_) _ (fun t => rfl) hm
    simp only [q4a, one, Bool.and_eq_true] at ht
    have hu := ht.2
    split at hu
    · rename_i hu'
      intro H enc w base spare held fuel cs x hx
      obtain ⟨s, rfl, _, hs⟩ := DataW.trod_string hu' hx
      exact ⟨s, ⟨rfl, fun _ => rfl⟩, hs⟩
    · cases hu
  | row e ih =>
    intro hna m hm
    refine sing _ m (fun t ht => ?_) _ (fun t => rfl) hm
    simp only [q4a, one, Bool.and_eq_true] at ht
    have hu := ht.2
    split at hu
    case h_2 => cases hu
    rename_i te hu'
    have he : OpT P e te := ih hna (.inl te) hu
    have hs := q76 (P := P) (τ := e) (t := te) hu
    intro H enc w base spare held fuel cs x hx
    rcases DataW.trod_slice hu' hx with ⟨rfl, _⟩ | ⟨a, len, cap, elems, rest, n, _, rfl, _, hb, hl, hm, hlen, hel, _, _⟩
    · exact ⟨[], ⟨none, 0, rfl, Nat.le_refl _, fun i hi => by simp at hi⟩, by simp [qau], fun x hx => by simp at hx⟩
    · have hex : ∀ i, i < len → ∃ v : e.T, qau e v ∧ ∃ c, c.length = e.n ∧ Rel (qe6 w) w e .ro v c Em ∧ ∀ j u, c[j]? = some u → w.cell? (a.add (i * e.n + j)) = some u := by
        intro i hi
        have hk := hel i hi
        rw [List.getElem?_eq_getElem (by omega)] at hk
        obtain ⟨c, hc, ht⟩ := Option.bind_eq_some_iff.1 hk
        obtain ⟨_, hcl, hcc⟩ := World.cells?_some hc
        obtain ⟨v, hv, hg⟩ := he H enc w base spare held n c _ ht
        refine ⟨v, hg, c, by rw [hcl, hs], hv, fun j u hj => ?_⟩
        have hjl : j < c.length := (List.getElem?_eq_some_iff.1 hj).1
        have h2 := hcc j (by omega)
        rw [hj] at h2
        rw [hs] at h2
        have ha : (a.add (i * e.n)).add j = a.add (i * e.n + j) := by
          unfold Addr.add
          by_cases h1 : i * e.n = 0 <;> by_cases h3 : j = 0 <;> simp [h1, h3, Nat.add_assoc]
        rw [← ha]
        exact h2
      obtain ⟨xs, hxl, hxs⟩ := qg0 _ len hex
      refine ⟨xs, ⟨some a, cap, by rw [hxl], by omega, fun i hi => ?_⟩, by unfold maxLen at hm; show xs.length ≤ _; omega, fun x hx => ?_⟩
      · obtain ⟨hg, c, c1, c2, c3⟩ := hxs i xs[i] (List.getElem?_eq_getElem hi)
        have hn := e.n_pos
        have c4 : ∀ j, j < e.n → ∃ u, w.cell? (a.add (i * e.n + j)) = some u := fun j hj => ⟨_, c3 j _ (List.getElem?_eq_getElem (by omega))⟩
        have hsp : a.spot = none := by
          have h0 : 0 < xs.length := by omega
          obtain ⟨_, c0, d1, _, d3⟩ := hxs 0 xs[0] (List.getElem?_eq_getElem h0)
          have hu := d3 0 _ (List.getElem?_eq_getElem (by omega))
          rw [show 0 * e.n + 0 = 0 by omega] at hu
          obtain ⟨b, off, sp⟩ := a
          have e0 : (⟨b, off, sp⟩ : Addr).add 0 = ⟨b, off, sp⟩ := by simp [Addr.add]
          rw [e0] at hu
          unfold World.cell? at hu
          cases sp with
          | none => rfl
          | some s =>
            simp only [Option.isSome_some, if_true] at hu
            split at hu <;> cases hu
        have hadd : ∀ j, a.add j = ⟨a.block, a.off + j, none⟩ := by
          intro j
          obtain ⟨b, off, sp⟩ := a
          simp only at hsp
          subst hsp
          unfold Addr.add
          by_cases h3 : j = 0 <;> simp [h3]
        refine ⟨a, c, rfl, hsp, c1, fun j u hj => ?_, ?_, c2⟩
        · have := c3 j u hj
          rwa [hadd, ← Nat.add_assoc] at this
        · obtain ⟨u, hu⟩ := c4 (e.n - 1) (by omega)
          rw [hadd] at hu
          have := qip hu
          omega
      · obtain ⟨i, hi⟩ := List.getElem?_of_mem hx
        exact (hxs i x hi).1
  | pair a b iha ihb =>
    intro hna m hm
    simp only [noA, Bool.and_eq_true] at hna
    cases m with
    | inl t => simp [q4a] at hm
    | inr x =>
      obtain ⟨fs, o⟩ := x
      cases fs with
      | nil => simp [q4a] at hm
      | cons fd fs =>
        simp only [q4a, Bool.and_eq_true, decide_eq_true_eq] at hm
        obtain ⟨ho, h1, h2, _⟩ := hm
        have oa : OpT P a fd.type := iha hna.1 (.inl fd.type) h1
        have ob : OpF P b fs (o + a.n) := ihb hna.2 (.inr (fs, o + a.n)) h2
        have hs := q76 (P := P) (τ := a) (t := fd.type) h1
        intro H enc w base spare held fuel cs xs hl hx hxl
        have hl' : cs.length = o + a.n + b.n := by rw [hl]; simp only [Ty.n]; omega
        obtain ⟨x0, xr, rfl⟩ : ∃ x0 xr, xs = x0 :: xr := by
          match xs, hxl with
          | x0 :: xr, _ => exact ⟨x0, xr, rfl⟩
        obtain ⟨v, hv, hg⟩ := oa H enc w base spare held fuel _ _ (hx 0 fd rfl)
        obtain ⟨u, hu, hk⟩ := ob H enc w base spare held fuel cs xr hl' (fun i g hi => hx (i + 1) g hi) (by simpa using hxl)
        refine ⟨(v, u), ⟨(cs.drop o).take a.n, cs.drop (o + a.n), Em, Em, ?_, ?_, Sb.em _, Sb.em _, Dj.em _, ?_, hu⟩, hg, hk⟩
        · rw [← List.drop_drop, List.take_append_drop]
        · rw [List.length_take, List.length_drop]; omega
        · rw [ho, hs] at hv
          exact hv
  | st a ih =>
    intro hna m hm
    refine sing _ m (fun t ht => ?_) _ (fun t => rfl) hm
    have hs := q76 (P := P) (τ := .st a) (t := t) ht
    simp only [q4a, one, Bool.and_eq_true] at ht
    have hu := ht.2
    split at hu
    case h_2 => cases hu
    rename_i fs hu'
    simp only [Bool.and_eq_true] at hu
    have hf : OpF P a fs.toList 0 := ih hna (.inr (fs.toList, 0)) hu.1
    intro H enc w base spare held fuel cs x hx
    obtain ⟨xs, n, _, _, hl, hxl, hi⟩ := DataW.trod_struct hu' hx
    obtain ⟨v, hv, hg⟩ := hf H enc w base spare held n cs xs (by rw [hl, hs]; simp [Ty.n]) (fun i fd hfd => hi i fd (by rw [← Array.getElem?_toList]; exact hfd)) (by rw [hxl]; simp)
    rw [List.drop_zero] at hv
    exact ⟨v, hv, hg⟩
  | arr m k => intro hna; cases hna
theorem qe7 {P : Program} {τ : Ty} {t : TypeId} {H : Type} {enc : TypeId × Value → H} {w : World} {base b0 : Nat} {spare : Nat → Bool} {held : Bool} {r : Reach} {v : Value} {d : DataW H} {ps : List MemPlace} (ht : tok P τ t) (hval : Value.okWide P w r b0 t v) (hd : DataW.Trod enc P w base spare held t v d ps) (hna : noA τ = true := by rfl) :
    ∃ x : τ.T, q4q (qe6 w) w (.d τ x .ro) v Em ∧ qau τ x := by
  obtain ⟨fuel, hf⟩ := hd
  obtain ⟨x, hx, hg⟩ := qo1 τ hna (.inl t) ht H enc w base spare held fuel _ _ hf
  refine ⟨x, ⟨v.cells.toList, ?_, hx⟩, hg⟩
  have hm := q6o hx (by cases τ <;> first | rfl | exact (isRo_ok _))
  have ht' := ht
  cases τ with
  | int k =>
    simp only [tok, q4a, one, Bool.and_eq_true] at ht'
    have hu := ht'.2
    split at hu
    · rename_i hu'
      obtain ⟨n, rfl⟩ := okWide_int hu' hval
      rfl
    · cases hu
  | bool =>
    simp only [tok, q4a, one, Bool.and_eq_true] at ht'
    have hu := ht'.2
    split at hu
    · rename_i hu'
      obtain ⟨n, rfl⟩ := okWide_bool hu' hval
      rfl
    · cases hu
  | str =>
    simp only [tok, q4a, one, Bool.and_eq_true] at ht'
    have hu := ht'.2
    split at hu
    · rename_i hu'
      obtain ⟨n, rfl⟩ := okWide_string hu' hval
      rfl
    · cases hu
  | row e =>
    simp only [tok, q4a, one, Bool.and_eq_true] at ht'
    have hu := ht'.2
    split at hu
    · rename_i hu'
      obtain ⟨a, len, cap, rfl⟩ := okWide_slice hu' hval
      rfl
    · cases hu
  | pair a b => simp [tok, q4a] at ht'
  | arr m k => cases hna
  | st a =>
    simp only [tok, q4a, one, Bool.and_eq_true] at ht'
    have hu := ht'.2
    split at hu
    · rename_i hu'
      obtain ⟨cs, rfl, _⟩ := okWide_struct hu' hval
      rfl
    · cases hu
where isRo_ok : (τ : Ty) → Fl.ok τ .ro = true
  | .int _ | .bool | .str | .row _ | .arr _ _ => rfl
  | .pair a b => by simp only [Fl.ok, Fl.l, Fl.r, isRo_ok a, isRo_ok b, Bool.and_self]
  | .st a => by simp only [Fl.ok, isRo_ok a]
theorem row_of {P : Program} {J : Jd P} {n : FuncId} {ps : List Par} {F : q4l (ps.map (·.τ)) → Option (q4l (outs ps [⟨.bool, .ro, false⟩]))} (h : Snd P J n ⟨ps, [⟨.bool, .ro, false⟩], F⟩) (hp : ps.all (fun p => decide (p.m = .rd)) = true) {x : q4l (ps.map (·.τ))} {r : q4l (outs ps [⟨.bool, .ro, false⟩])} (hF : F x = some r) (hr : unpack _ r = [⟨.bool, true⟩])
    {w : World} {vs : Array Value} (hn : J.n ≤ w.heap.size) (hj : J.J w) (hsz : vs.size = ps.length) (ha : ∀ (i : Nat) (p : Par) (s : Sv), ps[i]? = some p → (unpack _ x)[i]? = some s → q4q (qe6 w) w (.d s.1 s.2 .ro) (vs.getD i undef) Em) :
    Calls P n vs w fun e w' => e = .returned (.bool true) ∧ Below w.heap.size w w' := by
  refine (h x r hF (qe6 w) w vs (fun _ => Em) (fun b hb => ?_) ⟨hn, fun b hb => (hb.elim fun _ x => x.elim), hj, fun b _ o v hv => qip hv⟩ hsz (fun _ _ x => x.elim) (fun _ _ _ => Dj.em _) fun i p s h1 h2 => ?_).mono ?_
  · simp only [qe6, Array.getElem?_eq_none hb]
  · have := List.all_eq_true.1 hp p (List.mem_of_getElem? h1)
    simp only [decide_eq_true_eq] at this
    simp only [q68, this]
    exact ha i p s h1 h2
  · rintro e w' ⟨v, ξ', tr, tb, rfl, F, _, ho, _⟩
    refine ⟨?_, F.os, F.tape, F.output, F.size, fun b hb => (F.blk b hb fun ⟨_, x⟩ => x).1⟩
    rw [hr] at ho
    obtain ⟨cs, rfl, h1, h2⟩ := ho
    rw [h2 (by simp)]
    rfl
end Go.Proofs.YtjfkeknnjjlepaaGreatDoor.Rf
end

section
/- Plain values by name, fuel, loops, numbers, bytes. Nothing of any program. -/
namespace Go.Proofs.YtjfkeknnjjlepaaGreatDoor.Rf
open Go Go.RowKit
set_option linter.unusedVariables false
set_option linter.unusedSimpArgs false
abbrev Aff := ByteArray × Bool × ByteArray × ByteArray × ByteArray
abbrev En := ByteArray × ByteArray
abbrev Book := List Aff × List En
abbrev Delta := List ByteArray × List En × Bool × List Aff
abbrev Release := Int × Delta × ByteArray × ByteArray
abbrev bz : ByteArray := ByteArray.empty
abbrev zA : Aff := (bz, false, bz, bz, bz)
abbrev zE : En := (bz, bz)
abbrev w64 (x : Int) : Int := IntKind.i64.wrap x
theorem q07 {α : Type} (x y : Option α) : ifb true x y = x := by unfold ifb; rfl
theorem q0e {α : Type} (x y : Option α) : ifb false x y = y := by unfold ifb; rfl
def Al (p : Nat → Prop) : Prop := ∃ n, ∀ k, n ≤ k → p k
def Al2 (p : Nat → Nat → Prop) : Prop := ∃ n, ∀ a b, n ≤ a → n ≤ b → p a b
def Al3 (p : Nat → Nat → Nat → Prop) : Prop := ∃ n, ∀ a b c, n ≤ a → n ≤ b → n ≤ c → p a b c
theorem Al.now {p : Nat → Prop} (h : ∀ k, p k) : Al p := ⟨0, fun k _ => h k⟩
theorem Al.mono {p q : Nat → Prop} (h : Al p) (f : ∀ k, p k → q k) : Al q := h.imp fun _ h k hk => f k (h k hk)
theorem Al.and {p q : Nat → Prop} (h : Al p) (g : Al q) : Al fun k => p k ∧ q k := by
  obtain ⟨n, h⟩ := h; obtain ⟨m, g⟩ := g
  exact ⟨n + m, fun k hk => ⟨h k (by omega), g k (by omega)⟩⟩
theorem Al.succ {p : Nat → Prop} (h : Al fun k => p (k + 1)) : Al p := by
  obtain ⟨n, h⟩ := h
  refine ⟨n + 1, fun k hk => ?_⟩
  obtain ⟨k, rfl⟩ : ∃ j, k = j + 1 := ⟨k - 1, by omega⟩
  exact h k (by omega)
theorem Al2.now {p : Nat → Nat → Prop} (h : ∀ a b, p a b) : Al2 p := ⟨0, fun a b _ _ => h a b⟩
theorem Al2.mono {p q : Nat → Nat → Prop} (h : Al2 p) (f : ∀ a b, p a b → q a b) : Al2 q := h.imp fun _ h a b ha hb => f a b (h a b ha hb)
theorem Al2.and {p q : Nat → Nat → Prop} (h : Al2 p) (g : Al2 q) : Al2 fun a b => p a b ∧ q a b := by
  obtain ⟨n, h⟩ := h; obtain ⟨m, g⟩ := g
  exact ⟨n + m, fun a b ha hb => ⟨h a b (by omega) (by omega), g a b (by omega) (by omega)⟩⟩
theorem Al2.succ {p : Nat → Nat → Prop} (h : Al2 fun a b => p a (b + 1)) : Al2 p := by
  obtain ⟨n, h⟩ := h
  refine ⟨n + 1, fun a b ha hb => ?_⟩
  obtain ⟨b, rfl⟩ : ∃ j, b = j + 1 := ⟨b - 1, by omega⟩
  exact h a b (by omega) (by omega)
theorem Al2.diag {p : Nat → Nat → Prop} (h : Al2 p) : Al fun k => p k k := h.imp fun _ h k hk => h k k hk hk
theorem Al.fst {p : Nat → Prop} (h : Al p) : Al2 fun a _ => p a := h.imp fun _ h a _ ha _ => h a ha
theorem Al.snd {p : Nat → Prop} (h : Al p) : Al2 fun _ b => p b := h.imp fun _ h _ b _ hb => h b hb
theorem Al3.now {p : Nat → Nat → Nat → Prop} (h : ∀ a b c, p a b c) : Al3 p := ⟨0, fun a b c _ _ _ => h a b c⟩
theorem Al3.mono {p q : Nat → Nat → Nat → Prop} (h : Al3 p) (f : ∀ a b c, p a b c → q a b c) : Al3 q := h.imp fun _ h a b c ha hb hc => f a b c (h a b c ha hb hc)
theorem Al3.and {p q : Nat → Nat → Nat → Prop} (h : Al3 p) (g : Al3 q) : Al3 fun a b c => p a b c ∧ q a b c := by
  obtain ⟨n, h⟩ := h; obtain ⟨m, g⟩ := g
  exact ⟨n + m, fun a b c ha hb hc => ⟨h a b c (by omega) (by omega) (by omega), g a b c (by omega) (by omega) (by omega)⟩⟩
theorem Al3.succ {p : Nat → Nat → Nat → Prop} (h : Al3 fun a b c => p a b (c + 1)) : Al3 p := by
  obtain ⟨n, h⟩ := h
  refine ⟨n + 1, fun a b c ha hb hc => ?_⟩
  obtain ⟨c, rfl⟩ : ∃ j, c = j + 1 := ⟨c - 1, by omega⟩
  exact h a b c (by omega) (by omega) (by omega)
theorem Al3.in2 {p : Nat → Nat → Nat → Prop} (h : Al3 p) : Al2 fun a b => p a b b := h.imp fun _ h a b ha hb => h a b b ha hb hb
theorem Al2.fst {p : Nat → Nat → Prop} (h : Al2 p) : Al3 fun a b _ => p a b := h.imp fun _ h a b _ ha hb _ => h a b ha hb
theorem Al2.skip {p : Nat → Nat → Prop} (h : Al2 p) : Al3 fun a _ c => p a c := h.imp fun _ h a _ c ha _ hc => h a c ha hc
theorem Al.get {p : Nat → Prop} (h : Al p) : ∃ k, p k := h.imp fun n h => h n (Nat.le_refl n)
theorem q5i {x : Int} (h1 : -9223372036854775808 ≤ x) (h2 : x ≤ 9223372036854775807) : IntKind.i64.wrap x = x := by
  have e : IntKind.i64.wrap x = if x % 18446744073709551616 ≥ 9223372036854775808 then x % 18446744073709551616 - 18446744073709551616 else x % 18446744073709551616 := by
    by_cases h : x % 18446744073709551616 ≥ 9223372036854775808
    · rw [if_pos h]; exact if_pos (decide_eq_true h)
    · rw [if_neg h]; exact if_neg (fun h' => h (of_decide_eq_true (show decide (x % 18446744073709551616 ≥ 9223372036854775808) = true from h')))
  rw [e]
  split <;> omega
theorem q5y {n i : Nat} (hi : i < n) (hn : n ≤ 4611686018427387904) : decide ((i : Int) < (n : Int)) = true ∧ decide (0 ≤ (i : Int)) = true ∧ (i : Int).toNat = i ∧ IntKind.i64.wrap ((i : Int) + 1) = ((i + 1 : Nat) : Int) :=
  ⟨decide_eq_true (by omega), decide_eq_true (by omega), by omega, by rw [q5i (by omega) (by omega)]; omega⟩
theorem at_end {n i : Nat} (hi : ¬ i < n) : decide ((i : Int) < (n : Int)) = false := decide_eq_false (by omega)
theorem q3p {α : Type} {l s : List α} {i : Nat} {a : α} (z : α) (h : l.drop i = a :: s) : i < l.length ∧ l.getD i z = a ∧ l.drop (i + 1) = s := by
  have hi : i < l.length := by
    apply Decidable.byContradiction
    intro hn
    rw [List.drop_eq_nil_of_le (by omega)] at h
    cases h
  rw [List.drop_eq_getElem_cons hi] at h
  injection h with h1 h2
  exact ⟨hi, by rw [List.getD_eq_getElem?_getD, List.getElem?_eq_getElem hi]; exact h1, h2⟩
theorem drop_nil {α : Type} {l : List α} {i : Nat} (h : l.drop i = []) : ¬ i < l.length := by
  intro hi
  rw [List.drop_eq_getElem_cons hi] at h
  cases h
def bl (s : ByteArray) : List UInt8 := s.data.toList
theorem q4b (s : ByteArray) : (bl s).length = s.size := Array.length_toList
theorem q4d {s t : ByteArray} (h : bl s = bl t) : s = t := ByteArray.ext (Array.toList_inj.1 h)
theorem qg1 (s : ByteArray) : s.toList = bl s := ByteArray.toList_eq s
theorem q5l (s t : ByteArray) : (s.toList == t.toList) = decide (s = t) := by
  by_cases h : s = t
  · subst h; simp
  · simp only [h, decide_false]
    rw [qg1, qg1]
    simp only [beq_eq_false_iff_ne, ne_eq]
    exact fun e => h (q4d e)
theorem q62 {s : ByteArray} {i : Nat} {b : UInt8} {t : List UInt8} (h : (bl s).drop i = b :: t) : i < s.size ∧ q33 s (i : Int) = (b.toNat : Int) ∧ (bl s).drop (i + 1) = t := by
  obtain ⟨h1, h2, h3⟩ := q3p 0 h
  rw [q4b] at h1
  refine ⟨h1, ?_, h3⟩
  unfold q33
  rw [dif_pos (by simpa using h1)]
  simp only [Int.toNat_natCast]
  rw [← h2, List.getD_eq_getElem?_getD, List.getElem?_eq_getElem (by rw [q4b]; exact h1)]
  rfl
theorem qpe {s : ByteArray} {i : Nat} (hi : i < s.size) : ∃ b t, (bl s).drop i = b :: t := by
  have h : i < (bl s).length := by rw [q4b]; exact hi
  exact ⟨_, _, List.drop_eq_getElem_cons h⟩
def bN (s : ByteArray) (i : Nat) : Nat := ((bl s).getD i 0).toNat
theorem q4c {s : ByteArray} {i : Nat} (hi : i < s.size) : q33 s (i : Int) = (bN s i : Int) := by
  obtain ⟨b, t, h⟩ := qpe hi
  rw [(q62 h).2.1, bN, (q3p 0 h).2.1]
def q7m (n : Nat) (b : Nat → Bool) : Bool := (List.range n).all b
theorem q3s {n : Nat} {b : Nat → Bool} : q7m n b = true ↔ ∀ i, i < n → b i = true := by simp [q7m]
theorem qjs {n : Nat} {b c : Nat → Bool} (h : ∀ i, i < n → b i = c i) : q7m n b = q7m n c := by
  rw [Bool.eq_iff_iff, q3s, q3s]
  exact ⟨fun k i hi => h i hi ▸ k i hi, fun k i hi => (h i hi).symm ▸ k i hi⟩
theorem qav {Q : Nat → Prop} (n : Nat) (done : Q n) (step : ∀ i, i < n → Q (i + 1) → Q i) : ∀ i, i ≤ n → Q i := by
  intro i hi
  obtain ⟨d, rfl⟩ : ∃ d, i = n - d := ⟨n - i, by omega⟩
  induction d with
  | zero => exact done
  | succ d ih =>
    by_cases h : d < n
    · have := ih (by omega)
      rw [show n - d = n - (d + 1) + 1 by omega] at this
      exact step _ (by omega) this
    · rw [show n - (d + 1) = n - d by omega]
      exact ih (by omega)
def q77 (n i : Nat) (b : Nat → Bool) : Bool := (List.range (n - i)).all fun j => b (i + j)
theorem qaj (n : Nat) (b : Nat → Bool) : q77 n 0 b = q7m n b := by simp [q77, q7m]
theorem qby (n : Nat) (b : Nat → Bool) : q77 n n b = true := by simp [q77]
theorem qak {n i : Nat} (b : Nat → Bool) (h : i < n) : q77 n i b = (b i && q77 n (i + 1) b) := by
  unfold q77
  rw [show n - i = (n - (i + 1)) + 1 by omega, List.range_succ_eq_map, List.all_cons, List.all_map]
  simp only [Nat.add_zero]
  congr 1
  congr 1
  funext j
  show b (i + (j + 1)) = b (i + 1 + j)
  rw [show i + (j + 1) = i + 1 + j by omega]
theorem q50 {ρ : Type} {G : Nat → Nat → Int → Option ρ} {n : Nat} (b : Nat → Bool) {stop fin : ρ} (done : Al2 fun k k1 => G k k1 (n : Int) = some fin)
    (body : ∀ i, i < n → ∀ r, Al2 (fun k k1 => G k k1 ((i + 1 : Nat) : Int) = some r) → Al2 fun k k1 => G k k1 (i : Int) = some (cond (b i) r stop)) :
    Al2 fun k k1 => G k k1 0 = some (cond (q7m n b) fin stop) := by
  have := qav (Q := fun i => Al2 fun k k1 => G k k1 (i : Int) = some (cond (q77 n i b) fin stop)) n (by simp only [qby, cond_true]; exact done) (fun i hi h => by
    have := body i hi _ h
    rw [qak b hi]
    cases hb : b i
    · simpa [hb] using this
    · simpa [hb] using this) 0 (Nat.zero_le n)
  rw [qaj] at this
  exact this
theorem qg2 {ρ : Type} {G : Nat → Nat → Nat → Int → Option ρ} {n : Nat} (b : Nat → Bool) {stop fin : ρ} (done : Al3 fun k k1 k2 => G k k1 k2 (n : Int) = some fin)
    (body : ∀ i, i < n → ∀ r, Al3 (fun k k1 k2 => G k k1 k2 ((i + 1 : Nat) : Int) = some r) → Al3 fun k k1 k2 => G k k1 k2 (i : Int) = some (cond (b i) r stop)) :
    Al3 fun k k1 k2 => G k k1 k2 0 = some (cond (q7m n b) fin stop) := by
  have := qav (Q := fun i => Al3 fun k k1 k2 => G k k1 k2 (i : Int) = some (cond (q77 n i b) fin stop)) n (by simp only [qby, cond_true]; exact done) (fun i hi h => by
    have := body i hi _ h
    rw [qak b hi]
    cases hb : b i
    · simpa [hb] using this
    · simpa [hb] using this) 0 (Nat.zero_le n)
  rw [qaj] at this
  exact this
theorem q8x {n i : Nat} (h0 : 0 < i) (hi : i < n) (hn : n ≤ 4611686018427387904) : decide ((i : Int) > 0) = true ∧ IntKind.i64.wrap ((i : Int) - 1) = ((i - 1 : Nat) : Int) ∧ decide (0 ≤ ((i - 1 : Nat) : Int)) = true ∧ decide (((i - 1 : Nat) : Int) < (n : Int)) = true ∧ ((i - 1 : Nat) : Int).toNat = i - 1 :=
  ⟨decide_eq_true (by omega), by rw [q5i (by omega) (by omega)]; omega, decide_eq_true (by omega), decide_eq_true (by omega), by omega⟩
theorem q85 {i : Nat} (h0 : ¬ 0 < i) : decide ((i : Int) > 0) = false := decide_eq_false (by omega)
theorem q6s (a b : Nat) : decide ((a : Int) ≤ (b : Int)) = decide (a ≤ b) := by
  by_cases h : a ≤ b
  · rw [decide_eq_true h]; exact decide_eq_true (by omega)
  · rw [decide_eq_false h]; exact decide_eq_false (by omega)
theorem qrs (a b : Nat) : decide ((a : Int) < (b : Int)) = decide (a < b) := by
  by_cases h : a < b
  · rw [decide_eq_true h]; exact decide_eq_true (by omega)
  · rw [decide_eq_false h]; exact decide_eq_false (by omega)
end Go.Proofs.YtjfkeknnjjlepaaGreatDoor.Rf
end

section
/- The program's types, and what its package variables hold. -/
namespace Go.Proofs.YtjfkeknnjjlepaaGreatDoor.Rf
open Go Go.RowKit
set_option linter.unusedVariables false
abbrev t292 : Ty := (.arr 31 .u8)
abbrev t277 : Ty := (.arr 64 .u8)
abbrev t253 : Ty := (.arr 23 .u8)
abbrev t193 : Ty := (.arr 7 .u32)
abbrev t293 : Ty := (.arr 63 .u8)
abbrev t276 : Ty := (.arr 19 .u64)
abbrev t268 : Ty := (.arr 255 .u8)
abbrev t195 : Ty := (.arr 63 .u32)
abbrev t34 : Ty := (.row (.int .u8))
abbrev q86 : Ty := (.row (.int .u32))
abbrev qt7 : Ty := (.row (.int .i64))
abbrev qg3 : Ty := (.st (.pair .str .str))
abbrev t23 : Ty := (.row qg3)
abbrev qt8 : Ty := (.st (.pair (.int .u8) (.int .u8)))
abbrev t141 : Ty := (.st (.pair t34 (.int .i64)))
abbrev qbz : Ty := (.st (.pair .str (.pair .bool (.pair .str (.pair .str .str)))))
abbrev t24 : Ty := (.row qbz)
abbrev t7 : Ty := (.st (.pair (.int .i64) (.pair (.int .i64) (.pair .bool (.int .u8)))))
abbrev t39 : Ty := (.st (.pair t24 t23))
abbrev t164 : Ty := (.row t39)
abbrev t25 : Ty := (.st (.pair (.row .str) (.pair t23 (.pair .bool t24))))
abbrev t49 : Ty := (.st (.pair .str (.pair .bool (.pair (.int .i64) (.pair t39 .str)))))
abbrev qt9 : Ty := (.row t49)
abbrev t27 : Ty := (.st (.pair (.int .i64) (.pair t25 (.pair .str .str))))
abbrev qsy : Ty := (.st (.pair (.int .i64) (.pair (.int .i64) (.pair (.int .i64) (.pair .str t25)))))
abbrev t213 : Ty := (.row qsy)
abbrev qta : Ty := (.st (.pair .str (.pair t164 (.pair (.row .str) qt9))))
def E : q4v := ⟨[(2, (.int .i64)), (3, (.int .i64)), (4, .bool), (5, (.int .u8)), (6, (.int .u8)), (7, t7), (8, t7), (9, .str), (10, .str), (11, .str), (12, (.int .u64)), (21, (.int .i32)), (22, (.row .str)), (23, t23), (24, t24), (25, t25), (26, t25), (27, t27), (28, t27), (34, t34), (39, t39), (40, t39), (49, t49), (50, t49), (59, t24), (60, t23), (61, t39), (62, t39), (63, t49), (64, t49), (104, qt7), (113, qbz), (114, qbz), (115, qg3), (116, qg3), (141, t141), (142, t141), (164, t164), (165, qt9), (166, qta), (167, qta), (174, (.int .i64)), (192, (.int .u32)), (193, t193), (194, (.int .u64)), (195, t195), (196, (.int .u64)), (199, q86), (207, qbz), (209, qg3), (213, t213), (245, qsy), (246, qsy), (250, (.st .str)), (251, (.st .str)), (253, t253), (259, (.int .i64)), (268, t268), (269, qt8), (270, qt8), (276, t276), (277, t277), (282, (.int .u64)), (292, t292), (293, t293), (300, (.int .u8)), (301, (.int .u8)), (303, (.int .i32)), (304, (.int .i32))], []⟩
theorem mixed : Tryz.prog.follows .mixedOrders = true := by kernel_rfl
end Go.Proofs.YtjfkeknnjjlepaaGreatDoor.Rf
end

section
/- The package variables that count. -/
namespace Go.Proofs.YtjfkeknnjjlepaaGreatDoor.Rf
open Go Go.RowKit
set_option linter.unusedVariables false
structure JW (w : World) : Prop where
  m : ∃ x : Int, w.cell? ⟨3, 0, none⟩ = some (.int .i64 x)
  p : Lib.TabIs Tryz.prog w "internal/strconv.uint64pow10" .u64 Lib.pow10Tab
  e : ∃ ev, w.cell? ⟨1, 0, none⟩ = some ev ∧ (ev = .nilIface ∨ ∃ te pe, ev = .iface te pe)
  r : ∃ ev, w.cell? ⟨2, 0, none⟩ = some ev ∧ (ev = .nilIface ∨ ∃ te pe, ev = .iface te pe)
theorem qrt {P : Program} {w w' : World} {name : String} {k : IntKind} {zs : List Int} {g n : Nat} (hg : P.globalNamed name = some g) (hn : g < n) (h : ∀ b, b < n → w'.heap[b]? = w.heap[b]?) (t : Lib.TabIs P w name k zs) : Lib.TabIs P w' name k zs := by
  unfold Lib.TabIs World.var? at *
  simp only [hg, Option.bind_some] at t ⊢
  rw [h g hn]; exact t
theorem qru {P : Program} {w : World} {name : String} {k : IntKind} {zs : List Int} {g : Nat} (hg : P.globalNamed name = some g) (t : Lib.TabIs P w name k zs) : g < w.heap.size := by
  unfold Lib.TabIs World.var? at t
  simp only [hg, Option.bind_some] at t
  rcases Nat.lt_or_ge g w.heap.size with h | h
  · exact h
  · rw [Array.getElem?_eq_none h] at t
    simp at t
def Jp : Jd Tryz.prog := ⟨7, JW, fun w w' h j => ⟨let ⟨x, hx⟩ := j.m; ⟨x, (q6i (h _ (by decide)) _).trans hx⟩, qrt (by kernel_rfl : Tryz.prog.globalNamed "internal/strconv.uint64pow10" = some 6) (by decide) h j.p, let ⟨x, hx, hy⟩ := j.e; ⟨x, (q6i (h _ (by decide)) _).trans hx, hy⟩, let ⟨x, hx, hy⟩ := j.r; ⟨x, (q6i (h _ (by decide)) _).trans hx, hy⟩⟩⟩
theorem qsz : qra Tryz.prog Jp E := .of (by kernel_rfl) rfl
theorem qtb {w : World} (j : Jp.J w) : Jp.n ≤ w.heap.size := qru (by kernel_rfl : Tryz.prog.globalNamed "internal/strconv.uint64pow10" = some 6) j.p
end Go.Proofs.YtjfkeknnjjlepaaGreatDoor.Rf
end

section
/- spec.l1Dec: it calls itself, so its contract is had round by round. -/
namespace Go.Proofs.YtjfkeknnjjlepaaGreatDoor.Rf
open Go Go.RowKit
set_option linter.unusedVariables false
noncomputable section
abbrev q26.ps : List Par := [⟨.int .i64, .rd⟩]
abbrev q26.rs : List Res := [⟨.str, .ro, false⟩]
def q26.st (g : Int → Option ByteArray) (n : Int) : Option ByteArray := q3t E (fun _ => [(141, ⟨q26.ps, q26.rs, g⟩)]) [] Tryz.f141 q26.ps q26.rs 0 n
def q26.F : Nat → Int → Option ByteArray
  | 0 => fun _ => none
  | k + 1 => q26.st (q26.F k)
def q26.f (k : Nat) (n : Int) : Option ByteArray := q26.F k n
theorem q26.can : Can Tryz.prog 141 := q8f (fn := Tryz.f141) (by kernel_rfl) (by kernel_rfl) (by kernel_rfl)
theorem q26.snd : (k : Nat) → Snd Tryz.prog Jp 141 ⟨q26.ps, q26.rs, q26.F k⟩
  | 0 => fun x r hr => by cases hr
  | k + 1 => qpc (C := fun _ => [(141, ⟨q26.ps, q26.rs, q26.F k⟩)]) (H := []) qsz (fun _ => .cons (q26.snd k) q26.can .nil) mixed (fn := Tryz.f141) (by kernel_rfl) (by kernel_rfl) (by kernel_rfl) 0
theorem q26.st_eq (g : Int → Option ByteArray) (x0 : Int) : q26.st g x0 = ifb (decide (x0 < (-9223372036854775807 : Int))) (some (⟨#[45, 57, 50, 50, 51, 51, 55, 50, 48, 51, 54, 56, 53, 52, 55, 55, 53, 56, 48, 56]⟩ : ByteArray)) (ifb (decide (x0 < 0)) ((g (w64 (0 - x0))).bind fun (r0 : ByteArray) => ifb (q4m ((⟨#[45]⟩ : ByteArray).size + r0.size)) (some ((⟨#[45]⟩ : ByteArray) ++ r0)) (none)) (ifb (decide (x0 < (10 : Int))) (some (strOf [(IntKind.u8.wrap (w64 ((48 : Int) + x0)))])) (ifb (decide ((10 : Int) ≠ 0)) ((g (w64 (x0.tdiv (10 : Int)))).bind fun (r1 : ByteArray) => ifb (decide ((10 : Int) ≠ 0)) (ifb (q4m (r1.size + (strOf [(IntKind.u8.wrap (w64 ((48 : Int) + (x0.tmod (10 : Int)))))]).size)) (some (r1 ++ (strOf [(IntKind.u8.wrap (w64 ((48 : Int) + (x0.tmod (10 : Int)))))]))) (none)) (none)) (none)))) := by kernel_rfl
end
end Go.Proofs.YtjfkeknnjjlepaaGreatDoor.Rf
end

section
/- Functions of the program, told plainly, and their contracts: part A0. -/
namespace Go.Proofs.YtjfkeknnjjlepaaGreatDoor.Rf
open Go Go.RowKit
set_option linter.unusedVariables false
noncomputable section
abbrev Qs (c : FuncId × CE) : Prop := Snd Tryz.prog Jp c.1 c.2 ∧ Can Tryz.prog c.1
theorem qd1.c {c : FuncId × CE} {l : CEs} (h : Qs c) (k : qd1 Tryz.prog Jp l) : qd1 Tryz.prog Jp (c :: l) := .cons h.1 h.2 k
theorem qq {C : Nat → CEs} {H : q3q} (hC : ∀ k, qd1 Tryz.prog Jp (C k)) {n : FuncId} {fn : Func} {ps : List Par} {rs : List Res} (k : Nat) (hf : Tryz.prog.funcs[n]? = some fn := by kernel_rfl) (hb : fn.body.isSome = true := by kernel_rfl) (hp : inB (qbf fn) ps = true := by kernel_rfl) (hn : (fn.name == "runtime.NumGoroutine") = false := by kernel_rfl) : Qs (n, ⟨ps, rs, q3t E C H fn ps rs k⟩) := ⟨qpc qsz hC mixed hf hb hp k, q8f hf hn hb⟩
theorem qb {C : Nat → CEs} {H : q3q} (hC : ∀ k, qd1 Tryz.prog Jp (C k)) {n : FuncId} {fn : Func} {ps : List Par} {rs : List Res} (k : Nat) (hf : Tryz.prog.funcs[n]? = some fn := by kernel_rfl) (hb : fn.body.isSome = true := by kernel_rfl) (hp : qsx fn ps = true := by kernel_rfl) (hn : (fn.name == "runtime.NumGoroutine") = false := by kernel_rfl) : Qs (n, ⟨ps, rs, qln E C H fn ps rs k⟩) := ⟨qo0 qsz hC mixed hf hp k, q8f hf hn hb⟩
def q1t.C (k : Nat) : CEs := []
abbrev q1t.ps : List Par := [⟨.str, .rd⟩, ⟨(.int .u8), .rd⟩]
abbrev q1t.rs : List Res := [⟨(.row .str), (.own .ro), false⟩]
def q1t.H : q3q := [(4, [(0, .ro), (1, .ro), (5, (.own .ro)), (6, .ro), (7, .ro)])]
def q1t.F := q3t E q1t.C q1t.H Tryz.f61 q1t.ps q1t.rs
def q1t.L4 (k k1 : Nat) (x0 : ByteArray) (x1 : Int) (x5 : List ByteArray) (x6 : Int) (x7 : Int) : Option (List ByteArray) := atL E q1t.C q1t.H Tryz.f61 q1t.ps q1t.rs [true, true, true, false, true, true] k [] k1 (sh 35 [(0, .d .str x0 .ro), (1, .d (.int .u8) x1 .ro), (5, .d (.row .str) x5 (.own .ro)), (6, .d (.int .i64) x6 .ro), (7, .d (.int .i64) x7 .ro)])
def q1t.f (k : Nat) (x0 : ByteArray) (x1 : Int) : Option (List ByteArray) := q1t.F k (x0, x1)
theorem q1t.f_eq (k : Nat) (x0 : ByteArray) (x1 : Int) : q1t.f k x0 x1 = q1t.L4 k k x0 x1 ([] : List ByteArray) (0 : Int) (0 : Int) := by kernel_rfl
theorem q1t.L4_eq (k k1 : Nat) (x0 : ByteArray) (x1 : Int) (x5 : List ByteArray) (x6 : Int) (x7 : Int) : q1t.L4 k (k1 + 1) x0 x1 x5 x6 x7 = ifb (decide (x7 < (x0.size : Int))) (ifb (decide (0 ≤ x7) && decide (x7 < (x0.size : Int))) (ifb ((q33 x0 x7) == x1) (ifb (decide (0 ≤ x6) && (decide (x6 ≤ x7) && decide (x7 ≤ (x0.size : Int)))) (ifb (decide ((x5.length + [(x0.extract x6.toNat x7.toNat)].length) * 16 ≤ q1r)) (q1t.L4 k k1 x0 x1 (x5 ++ [(x0.extract x6.toNat x7.toNat)]) (w64 (x7 + 1)) (w64 (x7 + 1))) (none)) (none)) (q1t.L4 k k1 x0 x1 x5 x6 (w64 (x7 + 1)))) (none)) (ifb (decide (0 ≤ x6) && (decide (x6 ≤ (x0.size : Int)) && decide ((x0.size : Int) ≤ (x0.size : Int)))) (ifb (decide ((x5.length + [(x0.extract x6.toNat (x0.size : Int).toNat)].length) * 16 ≤ q1r)) (some (x5 ++ [(x0.extract x6.toNat (x0.size : Int).toNat)])) (none)) (none)) := by kernel_rfl
abbrev q1t.e (k : Nat) : FuncId × CE := (61, ⟨q1t.ps, q1t.rs, q1t.F k⟩)
theorem q1t.q (k : Nat) : Qs (q1t.e k) := qq (C := q1t.C) (fun k => .nil) k
def q2f.C (k : Nat) : CEs := []
abbrev q2f.ps : List Par := [⟨(.row .str), .rd⟩]
abbrev q2f.rs : List Res := [⟨qbz, .ro, false⟩]
def q2f.F := q3t E q2f.C [] Tryz.f177 q2f.ps q2f.rs
def q2f.f (k : Nat) (x0 : List ByteArray) : Option (Aff) := q2f.F k x0
theorem q2f.f_eq (k : Nat) (x0 : List ByteArray) : q2f.f k x0 = ifb (decide (0 ≤ (0 : Int)) && decide ((0 : Int) < (x0.length : Int))) (ifb (decide (0 ≤ (1 : Int)) && decide ((1 : Int) < (x0.length : Int))) (ifb (decide (0 ≤ (2 : Int)) && decide ((2 : Int) < (x0.length : Int))) (ifb (decide (0 ≤ (3 : Int)) && decide ((3 : Int) < (x0.length : Int))) (ifb (decide (0 ≤ (4 : Int)) && decide ((4 : Int) < (x0.length : Int))) (some ((x0.getD ((1 : Int).toNat) bz), ((x0.getD ((0 : Int).toNat) bz).toList == (⟨#[102, 114, 111, 110, 116]⟩ : ByteArray).toList), (x0.getD ((2 : Int).toNat) bz), (x0.getD ((3 : Int).toNat) bz), (x0.getD ((4 : Int).toNat) bz))) (none)) (none)) (none)) (none)) (none) := by kernel_rfl
abbrev q2f.e (k : Nat) : FuncId × CE := (177, ⟨q2f.ps, q2f.rs, q2f.F k⟩)
theorem q2f.q (k : Nat) : Qs (q2f.e k) := qq (C := q2f.C) (fun k => .nil) k
def q34.C (k : Nat) : CEs := []
abbrev q34.ps : List Par := [⟨.str, .rd⟩]
abbrev q34.rs : List Res := [⟨.bool, .ro, false⟩]
def q34.F := q3t E q34.C [] Tryz.f210 q34.ps q34.rs
def q34.f (k : Nat) (x0 : ByteArray) : Option (Bool) := q34.F k x0
theorem q34.f_eq (k : Nat) (x0 : ByteArray) : q34.f k x0 = ifb ((x0.size : Int) == (1 : Int)) (ifb (decide (0 ≤ (0 : Int)) && decide ((0 : Int) < (x0.size : Int))) (ifb (decide ((q33 x0 (0 : Int)) ≥ (65 : Int))) (ifb (decide (0 ≤ (0 : Int)) && decide ((0 : Int) < (x0.size : Int))) (some (decide ((q33 x0 (0 : Int)) ≤ (90 : Int)))) (none)) (some false)) (none)) (some false) := by kernel_rfl
abbrev q34.e (k : Nat) : FuncId × CE := (210, ⟨q34.ps, q34.rs, q34.F k⟩)
theorem q34.q (k : Nat) : Qs (q34.e k) := qq (C := q34.C) (fun k => .nil) k
def q0s.C (k : Nat) : CEs := []
abbrev q0s.ps : List Par := [⟨.str, .rd⟩, ⟨(.int .i64), .rd⟩]
abbrev q0s.rs : List Res := [⟨.bool, .ro, false⟩]
def q0s.H : q3q := [(2, [(0, .ro), (1, .ro), (5, .ro)])]
def q0s.F := q3t E q0s.C q0s.H Tryz.f226 q0s.ps q0s.rs
def q0s.L2 (k k1 : Nat) (x0 : ByteArray) (x1 : Int) (x5 : Int) : Option (Bool) := atL E q0s.C q0s.H Tryz.f226 q0s.ps q0s.rs [true, false, true, true] k [] k1 (sh 26 [(0, .d .str x0 .ro), (1, .d (.int .i64) x1 .ro), (5, .d (.int .i64) x5 .ro)])
def q0s.f (k : Nat) (x0 : ByteArray) (x1 : Int) : Option (Bool) := q0s.F k (x0, x1)
theorem q0s.f_eq (k : Nat) (x0 : ByteArray) (x1 : Int) : q0s.f k x0 x1 = q0s.L2 k k x0 x1 (0 : Int) := by kernel_rfl
theorem q0s.L2_eq (k k1 : Nat) (x0 : ByteArray) (x1 : Int) (x5 : Int) : q0s.L2 k (k1 + 1) x0 x1 x5 = ifb (decide (x5 < (x0.size : Int))) (ifb (decide (0 ≤ x5) && decide (x5 < (x0.size : Int))) (ifb (decide ((q33 x0 x5) < (97 : Int))) (some false) (ifb (decide (0 ≤ x5) && decide (x5 < (x0.size : Int))) (ifb (decide ((q33 x0 x5) > (122 : Int))) (some false) (q0s.L2 k k1 x0 x1 (w64 (x5 + 1)))) (none))) (none)) (some (decide ((x0.size : Int) ≤ x1))) := by kernel_rfl
abbrev q0s.e (k : Nat) : FuncId × CE := (226, ⟨q0s.ps, q0s.rs, q0s.F k⟩)
theorem q0s.q (k : Nat) : Qs (q0s.e k) := qq (C := q0s.C) (fun k => .nil) k
def q35.C (k : Nat) : CEs := [q0s.e k]
abbrev q35.ps : List Par := [⟨.str, .rd⟩]
abbrev q35.rs : List Res := [⟨.bool, .ro, false⟩]
def q35.F := q3t E q35.C [] Tryz.f179 q35.ps q35.rs
def q35.f (k : Nat) (x0 : ByteArray) : Option (Bool) := q35.F k x0
theorem q35.f_eq (k : Nat) (x0 : ByteArray) : q35.f k x0 = ifb (decide ((x0.size : Int) > 0)) ((q0s.f k x0 (12 : Int)).bind fun (r0 : Bool) => some r0) (some false) := by kernel_rfl
abbrev q35.e (k : Nat) : FuncId × CE := (179, ⟨q35.ps, q35.rs, q35.F k⟩)
theorem q35.q (k : Nat) : Qs (q35.e k) := qq (C := q35.C) (fun k => .c (q0s.q k) <| .nil) k
def q1j.C (k : Nat) : CEs := [q34.e k, q35.e k]
abbrev q1j.ps : List Par := [⟨qg3, .rd⟩]
abbrev q1j.rs : List Res := [⟨.bool, .ro, false⟩]
def q1j.H : q3q := [(2, [(1, .ro), (3, .ro)])]
def q1j.F := q3t E q1j.C q1j.H Tryz.f155 q1j.ps q1j.rs
def q1j.L2 (k k1 : Nat) (x1 : ByteArray × ByteArray) (x3 : Int) : Option (Bool) := atL E q1j.C q1j.H Tryz.f155 q1j.ps q1j.rs [true, false, true, true] k [] k1 (sh 44 [(1, .box qg3 x1 .ro none), (3, .d (.int .i64) x3 .ro)])
def q1j.f (k : Nat) (x0 : ByteArray × ByteArray) : Option (Bool) := q1j.F k x0
theorem q1j.f_eq (k : Nat) (x0 : ByteArray × ByteArray) : q1j.f k x0 = q1j.L2 k k x0 (0 : Int) := by kernel_rfl
theorem q1j.L2_eq (k k1 : Nat) (x1 : ByteArray × ByteArray) (x3 : Int) : q1j.L2 k (k1 + 1) x1 x3 = ifb (decide (x3 < (x1.2.size : Int))) (ifb (decide (0 ≤ x3) && (decide (x3 ≤ (w64 (x3 + 1))) && decide ((w64 (x3 + 1)) ≤ (x1.2.size : Int)))) ((q34.f k1 (x1.2.extract x3.toNat (w64 (x3 + 1)).toNat)).bind fun (r0 : Bool) => ifb (!r0) (some false) (ifb (decide (x3 > 0)) (ifb (decide (0 ≤ (w64 (x3 - 1))) && decide ((w64 (x3 - 1)) < (x1.2.size : Int))) (ifb (decide (0 ≤ x3) && decide (x3 < (x1.2.size : Int))) (ifb (decide ((q33 x1.2 (w64 (x3 - 1))) ≥ (q33 x1.2 x3))) (some false) (q1j.L2 k k1 x1 (w64 (x3 + 1)))) (none)) (none)) (q1j.L2 k k1 x1 (w64 (x3 + 1))))) (none)) ((q35.f k x1.1).bind fun (r1 : Bool) => ifb r1 (some (decide ((x1.2.size : Int) ≤ (4 : Int)))) (some false)) := by kernel_rfl
abbrev q1j.e (k : Nat) : FuncId × CE := (155, ⟨q1j.ps, q1j.rs, q1j.F k⟩)
theorem q1j.q (k : Nat) : Qs (q1j.e k) := qq (C := q1j.C) (fun k => .c (q34.q k) <| .c (q35.q k) <| .nil) k
def q0m.C (k : Nat) : CEs := [q1t.e k, q1j.e k]
abbrev q0m.ps : List Par := [⟨.str, .rd⟩]
abbrev q0m.rs : List Res := [⟨qg3, .ro, false⟩, ⟨.bool, .ro, false⟩]
def q0m.H : q3q := [(7, [(2, .ro), (5, .ro)])]
def q0m.F := q3t E q0m.C q0m.H Tryz.f178 q0m.ps q0m.rs
def q0m.J7 (k : Nat) (x2 : ByteArray × ByteArray) (x5 : ByteArray × ByteArray) : Option (En × Bool) := atJ E q0m.C q0m.H Tryz.f178 q0m.ps q0m.rs [true, true, true, true, true] 0 [] k (sh 37 [(2, .box qg3 x2 .ro none), (5, .box qg3 x5 .ro none)])
def q0m.f (k : Nat) (x0 : ByteArray) : Option (En × Bool) := q0m.F k x0
theorem q0m.f_eq (k : Nat) (x0 : ByteArray) : q0m.f k x0 = (q1t.f k x0 (47 : Int)).bind fun (r0 : List ByteArray) => ifb (decide ((r0.length : Int) > (2 : Int))) (some (zE, false)) (ifb ((r0.length : Int) == (2 : Int)) (ifb (decide (0 ≤ (1 : Int)) && decide ((1 : Int) < (r0.length : Int))) (ifb ((r0.getD ((1 : Int).toNat) bz).toList == bz.toList) (some (zE, false)) (ifb (decide (0 ≤ (0 : Int)) && decide ((0 : Int) < (r0.length : Int))) (ifb ((r0.length : Int) == (2 : Int)) (ifb (decide (0 ≤ (1 : Int)) && decide ((1 : Int) < (r0.length : Int))) (q0m.J7 k zE ((r0.getD ((0 : Int).toNat) bz), (r0.getD ((1 : Int).toNat) bz))) (none)) (q0m.J7 k zE ((r0.getD ((0 : Int).toNat) bz), bz))) (none))) (none)) (ifb (decide (0 ≤ (0 : Int)) && decide ((0 : Int) < (r0.length : Int))) (ifb ((r0.length : Int) == (2 : Int)) (ifb (decide (0 ≤ (1 : Int)) && decide ((1 : Int) < (r0.length : Int))) (q0m.J7 k zE ((r0.getD ((0 : Int).toNat) bz), (r0.getD ((1 : Int).toNat) bz))) (none)) (q0m.J7 k zE ((r0.getD ((0 : Int).toNat) bz), bz))) (none))) := by kernel_rfl
theorem q0m.J7_eq (k : Nat) (x2 : ByteArray × ByteArray) (x5 : ByteArray × ByteArray) : q0m.J7 (k + 1) x2 x5 = (q1j.f k x5).bind fun (r1 : Bool) => some (x5, r1) := by kernel_rfl
abbrev q0m.e (k : Nat) : FuncId × CE := (178, ⟨q0m.ps, q0m.rs, q0m.F k⟩)
theorem q0m.q (k : Nat) : Qs (q0m.e k) := qq (C := q0m.C) (fun k => .c (q1t.q k) <| .c (q1j.q k) <| .nil) k
def q3k.C (k : Nat) : CEs := [q1t.e k, q2f.e k, q0m.e k]
abbrev q3k.ps : List Par := [⟨t25, .own (.pr (.own .ro) (.pr (.own .ro) (.pr .ro (.own .ro))))⟩, ⟨.str, .rd⟩]
abbrev q3k.rs : List Res := [⟨t25, (.pr (.own .ro) (.pr (.own .ro) (.pr .ro (.own .ro)))), false⟩, ⟨.bool, .ro, false⟩]
def q3k.F := q3t E q3k.C [] Tryz.f119 q3k.ps q3k.rs
def q3k.f (k : Nat) (x0 : Delta) (x1 : ByteArray) : Option (Delta × Bool) := q3k.F k (x0, x1)
theorem q3k.f_eq (k : Nat) (x0 : Delta) (x1 : ByteArray) : q3k.f k x0 x1 = (q1t.f k x1 (32 : Int)).bind fun (r0 : List ByteArray) => ifb (x1.toList == (⟨#[97, 102, 102, 105, 120, 101, 115]⟩ : ByteArray).toList) (some ((x0.1, x0.2.1, true, x0.2.2.2), true)) (ifb ((r0.length : Int) == (5 : Int)) ((q2f.f k r0).bind fun (r1 : Aff) => ifb (decide ((x0.2.2.2.length + [r1].length) * 72 ≤ q1r)) (some ((x0.1, x0.2.1, x0.2.2.1, (x0.2.2.2 ++ [r1])), true)) (none)) (ifb (decide ((x1.size : Int) > 0)) (ifb (decide (0 ≤ (0 : Int)) && decide ((0 : Int) < (x1.size : Int))) (ifb ((q33 x1 (0 : Int)) == (45 : Int)) (ifb (decide (0 ≤ (1 : Int)) && (decide ((1 : Int) ≤ (x1.size : Int)) && decide ((x1.size : Int) ≤ (x1.size : Int)))) (ifb (decide ((x0.1.length + [(x1.extract (1 : Int).toNat (x1.size : Int).toNat)].length) * 16 ≤ q1r)) (some (((x0.1 ++ [(x1.extract (1 : Int).toNat (x1.size : Int).toNat)]), x0.2), true)) (none)) (none)) (ifb (decide ((x1.size : Int) > 0)) (ifb (decide (0 ≤ (0 : Int)) && decide ((0 : Int) < (x1.size : Int))) (ifb ((q33 x1 (0 : Int)) == (43 : Int)) (ifb (decide (0 ≤ (1 : Int)) && (decide ((1 : Int) ≤ (x1.size : Int)) && decide ((x1.size : Int) ≤ (x1.size : Int)))) ((q0m.f k (x1.extract (1 : Int).toNat (x1.size : Int).toNat)).bind fun (r2 : En × Bool) => ifb (decide ((x0.2.1.length + [r2.1].length) * 32 ≤ q1r)) (some ((x0.1, (x0.2.1 ++ [r2.1]), x0.2.2), r2.2)) (none)) (none)) (some (x0, false))) (none)) (some (x0, false)))) (none)) (ifb (decide ((x1.size : Int) > 0)) (ifb (decide (0 ≤ (0 : Int)) && decide ((0 : Int) < (x1.size : Int))) (ifb ((q33 x1 (0 : Int)) == (43 : Int)) (ifb (decide (0 ≤ (1 : Int)) && (decide ((1 : Int) ≤ (x1.size : Int)) && decide ((x1.size : Int) ≤ (x1.size : Int)))) ((q0m.f k (x1.extract (1 : Int).toNat (x1.size : Int).toNat)).bind fun (r3 : En × Bool) => ifb (decide ((x0.2.1.length + [r3.1].length) * 32 ≤ q1r)) (some ((x0.1, (x0.2.1 ++ [r3.1]), x0.2.2), r3.2)) (none)) (none)) (some (x0, false))) (none)) (some (x0, false))))) := by kernel_rfl
abbrev q3k.e (k : Nat) : FuncId × CE := (119, ⟨q3k.ps, q3k.rs, q3k.F k⟩)
theorem q3k.q (k : Nat) : Qs (q3k.e k) := qq (C := q3k.C) (fun k => .c (q1t.q k) <| .c (q2f.q k) <| .c (q0m.q k) <| .nil) k
def q2t.C (k : Nat) : CEs := []
abbrev q2t.ps : List Par := [⟨.str, .rd⟩, ⟨.str, .rd⟩]
abbrev q2t.rs : List Res := [⟨.bool, .ro, false⟩]
def q2t.F := q3t E q2t.C [] Tryz.f252 q2t.ps q2t.rs
def q2t.f (k : Nat) (x0 : ByteArray) (x1 : ByteArray) : Option (Bool) := q2t.F k (x0, x1)
theorem q2t.f_eq (k : Nat) (x0 : ByteArray) (x1 : ByteArray) : q2t.f k x0 x1 = ifb (decide ((x0.size : Int) ≥ (x1.size : Int))) (ifb (decide (0 ≤ (0 : Int)) && (decide ((0 : Int) ≤ (x1.size : Int)) && decide ((x1.size : Int) ≤ (x0.size : Int)))) (some ((x0.extract (0 : Int).toNat (x1.size : Int).toNat).toList == x1.toList)) (none)) (some false) := by kernel_rfl
abbrev q2t.e (k : Nat) : FuncId × CE := (252, ⟨q2t.ps, q2t.rs, q2t.F k⟩)
theorem q2t.q (k : Nat) : Qs (q2t.e k) := qq (C := q2t.C) (fun k => .nil) k
def q3f.C (k : Nat) : CEs := []
abbrev q3f.ps : List Par := [⟨.str, .rd⟩, ⟨.str, .rd⟩]
abbrev q3f.rs : List Res := [⟨.bool, .ro, false⟩]
def q3f.F := q3t E q3f.C [] Tryz.f253 q3f.ps q3f.rs
def q3f.f (k : Nat) (x0 : ByteArray) (x1 : ByteArray) : Option (Bool) := q3f.F k (x0, x1)
theorem q3f.f_eq (k : Nat) (x0 : ByteArray) (x1 : ByteArray) : q3f.f k x0 x1 = ifb (decide ((x0.size : Int) ≥ (x1.size : Int))) (ifb (decide (0 ≤ (w64 ((x0.size : Int) - (x1.size : Int)))) && (decide ((w64 ((x0.size : Int) - (x1.size : Int))) ≤ (x0.size : Int)) && decide ((x0.size : Int) ≤ (x0.size : Int)))) (some ((x0.extract (w64 ((x0.size : Int) - (x1.size : Int))).toNat (x0.size : Int).toNat).toList == x1.toList)) (none)) (some false) := by kernel_rfl
abbrev q3f.e (k : Nat) : FuncId × CE := (253, ⟨q3f.ps, q3f.rs, q3f.F k⟩)
theorem q3f.q (k : Nat) : Qs (q3f.e k) := qq (C := q3f.C) (fun k => .nil) k
def q37.C (k : Nat) : CEs := [q34.e k, q0s.e k, q2t.e k, q3f.e k]
abbrev q37.ps : List Par := [⟨qbz, .rd⟩]
abbrev q37.rs : List Res := [⟨.bool, .ro, false⟩]
def q37.F := q3t E q37.C [] Tryz.f211 q37.ps q37.rs
def q37.f (k : Nat) (x0 : Aff) : Option (Bool) := q37.F k x0
theorem q37.f_eq (k : Nat) (x0 : Aff) : q37.f k x0 = (q34.f k x0.1).bind fun (r0 : Bool) => ifb (!r0) (some false) ((q0s.f k x0.2.2.1 (4 : Int)).bind fun (r1 : Bool) => ifb (!r1) (some false) ((q0s.f k x0.2.2.2.1 (4 : Int)).bind fun (r2 : Bool) => ifb (!r2) (some false) ((q0s.f k x0.2.2.2.2 (4 : Int)).bind fun (r3 : Bool) => ifb (!r3) (some false) (ifb x0.2.1 ((q2t.f k x0.2.2.2.2 x0.2.2.1).bind fun (r4 : Bool) => some r4) ((q3f.f k x0.2.2.2.2 x0.2.2.1).bind fun (r5 : Bool) => some r5))))) := by kernel_rfl
abbrev q37.e (k : Nat) : FuncId × CE := (211, ⟨q37.ps, q37.rs, q37.F k⟩)
theorem q37.q (k : Nat) : Qs (q37.e k) := qq (C := q37.C) (fun k => .c (q34.q k) <| .c (q0s.q k) <| .c (q2t.q k) <| .c (q3f.q k) <| .nil) k
def q0f.C (k : Nat) : CEs := [q37.e k]
abbrev q0f.ps : List Par := [⟨t24, .rd⟩]
abbrev q0f.rs : List Res := [⟨.bool, .ro, false⟩]
def q0f.H : q3q := [(2, [(0, .ro), (3, .ro)]), (7, [(0, .ro), (3, .ro), (4, .ro)])]
def q0f.F := q3t E q0f.C q0f.H Tryz.f156 q0f.ps q0f.rs
def q0f.L2 (k k1 : Nat) (x0 : List Aff) (x3 : Int) : Option (Bool) := atL E q0f.C q0f.H Tryz.f156 q0f.ps q0f.rs [true, false, true, true] k [] k1 (sh 34 [(0, .d t24 x0 .ro), (3, .d (.int .i64) x3 .ro)])
def q0f.L7 (k k1 k2 : Nat) (x0 : List Aff) (x3 : Int) (x4 : Int) : Option (Bool) := atL E q0f.C q0f.H Tryz.f156 q0f.ps q0f.rs [true, false, true, true, true, true, false, true, true, true, true] k [k1] k2 (sh 34 [(0, .d t24 x0 .ro), (3, .d (.int .i64) x3 .ro), (4, .d (.int .i64) x4 .ro)])
def q0f.f (k : Nat) (x0 : List Aff) : Option (Bool) := q0f.F k x0
theorem q0f.f_eq (k : Nat) (x0 : List Aff) : q0f.f k x0 = q0f.L2 k k x0 (0 : Int) := by kernel_rfl
theorem q0f.L2_eq (k k1 : Nat) (x0 : List Aff) (x3 : Int) : q0f.L2 k (k1 + 1) x0 x3 = ifb (decide (x3 < (x0.length : Int))) (ifb (decide (0 ≤ x3) && decide (x3 < (x0.length : Int))) ((q37.f k1 (x0.getD x3.toNat zA)).bind fun (r0 : Bool) => ifb (!r0) (some false) (q0f.L7 k k1 k1 x0 x3 (0 : Int))) (none)) (some (decide ((x0.length : Int) ≤ (8 : Int)))) := by kernel_rfl
theorem q0f.L7_eq (k k1 k2 : Nat) (x0 : List Aff) (x3 : Int) (x4 : Int) : q0f.L7 k k1 (k2 + 1) x0 x3 x4 = ifb (decide (x4 < x3)) (ifb (decide (0 ≤ x4) && decide (x4 < (x0.length : Int))) (ifb (decide (0 ≤ x3) && decide (x3 < (x0.length : Int))) (ifb ((((x0.getD x4.toNat zA).1).toList == ((x0.getD x3.toNat zA).1).toList) && ((((x0.getD x4.toNat zA).2).1 == ((x0.getD x3.toNat zA).2).1) && ((((((x0.getD x4.toNat zA).2).2).1).toList == ((((x0.getD x3.toNat zA).2).2).1).toList) && (((((((x0.getD x4.toNat zA).2).2).2).1).toList == (((((x0.getD x3.toNat zA).2).2).2).1).toList) && ((((((x0.getD x4.toNat zA).2).2).2).2).toList == (((((x0.getD x3.toNat zA).2).2).2).2).toList))))) (some false) (q0f.L7 k k1 k2 x0 x3 (w64 (x4 + 1)))) (none)) (none)) (q0f.L2 k k1 x0 (w64 (x3 + 1))) := by kernel_rfl
abbrev q0f.e (k : Nat) : FuncId × CE := (156, ⟨q0f.ps, q0f.rs, q0f.F k⟩)
theorem q0f.q (k : Nat) : Qs (q0f.e k) := qq (C := q0f.C) (fun k => .c (q37.q k) <| .nil) k
def q1k.C (k : Nat) : CEs := [q1j.e k, q0f.e k]
abbrev q1k.ps : List Par := [⟨t39, .rd⟩]
abbrev q1k.rs : List Res := [⟨.bool, .ro, false⟩]
def q1k.H : q3q := [(2, [(1, .ro), (3, .ro)])]
def q1k.F := q3t E q1k.C q1k.H Tryz.f93 q1k.ps q1k.rs
def q1k.L2 (k k1 : Nat) (x1 : Book) (x3 : Int) : Option (Bool) := atL E q1k.C q1k.H Tryz.f93 q1k.ps q1k.rs [true, false, true, true] k [] k1 (sh 47 [(1, .box t39 x1 .ro none), (3, .d (.int .i64) x3 .ro)])
def q1k.f (k : Nat) (x0 : Book) : Option (Bool) := q1k.F k x0
theorem q1k.f_eq (k : Nat) (x0 : Book) : q1k.f k x0 = q1k.L2 k k x0 (0 : Int) := by kernel_rfl
theorem q1k.L2_eq (k k1 : Nat) (x1 : Book) (x3 : Int) : q1k.L2 k (k1 + 1) x1 x3 = ifb (decide (x3 < (x1.2.length : Int))) (ifb (decide (0 ≤ x3) && decide (x3 < (x1.2.length : Int))) ((q1j.f k1 (x1.2.getD x3.toNat zE)).bind fun (r0 : Bool) => ifb (!r0) (some false) (ifb (decide (x3 > 0)) (ifb (decide (0 ≤ (w64 (x3 - 1))) && decide ((w64 (x3 - 1)) < (x1.2.length : Int))) (ifb (decide (0 ≤ x3) && decide (x3 < (x1.2.length : Int))) (ifb (!(Op.bytesLess ((x1.2.getD ((w64 (x3 - 1)).toNat) zE).1).toList ((x1.2.getD x3.toNat zE).1).toList)) (some false) (q1k.L2 k k1 x1 (w64 (x3 + 1)))) (none)) (none)) (q1k.L2 k k1 x1 (w64 (x3 + 1))))) (none)) ((q0f.f k x1.1).bind fun (r1 : Bool) => ifb r1 (some (decide ((x1.2.length : Int) ≤ (24 : Int)))) (some false)) := by kernel_rfl
abbrev q1k.e (k : Nat) : FuncId × CE := (93, ⟨q1k.ps, q1k.rs, q1k.F k⟩)
theorem q1k.q (k : Nat) : Qs (q1k.e k) := qq (C := q1k.C) (fun k => .c (q1j.q k) <| .c (q0f.q k) <| .nil) k
def q2n.C (k : Nat) : CEs := [q1k.e k]
abbrev q2n.ps : List Par := [⟨t23, .rd⟩]
abbrev q2n.rs : List Res := [⟨.bool, .ro, false⟩]
def q2n.F := q3t E q2n.C [] Tryz.f180 q2n.ps q2n.rs
def q2n.f (k : Nat) (x0 : List En) : Option (Bool) := q2n.F k x0
theorem q2n.f_eq (k : Nat) (x0 : List En) : q2n.f k x0 = (q1k.f k (([] : List Aff), x0)).bind fun (r0 : Bool) => some r0 := by kernel_rfl
abbrev q2n.e (k : Nat) : FuncId × CE := (180, ⟨q2n.ps, q2n.rs, q2n.F k⟩)
theorem q2n.q (k : Nat) : Qs (q2n.e k) := qq (C := q2n.C) (fun k => .c (q1k.q k) <| .nil) k
def q0p.C (k : Nat) : CEs := [q35.e k, q0f.e k, q2n.e k]
abbrev q0p.ps : List Par := [⟨t25, .rd⟩]
abbrev q0p.rs : List Res := [⟨.bool, .ro, false⟩]
def q0p.H : q3q := [(2, [(1, .ro), (3, .ro)]), (7, [(1, .ro), (3, .ro), (4, .ro)])]
def q0p.F := q3t E q0p.C q0p.H Tryz.f120 q0p.ps q0p.rs
def q0p.L2 (k k1 : Nat) (x1 : Delta) (x3 : Int) : Option (Bool) := atL E q0p.C q0p.H Tryz.f120 q0p.ps q0p.rs [true, false, true, true] k [] k1 (sh 80 [(1, .box t25 x1 .ro none), (3, .d (.int .i64) x3 .ro)])
def q0p.L7 (k k1 k2 : Nat) (x1 : Delta) (x3 : Int) (x4 : Int) : Option (Bool) := atL E q0p.C q0p.H Tryz.f120 q0p.ps q0p.rs [true, false, true, true, true, true, false, true, true, true, true] k [k1] k2 (sh 80 [(1, .box t25 x1 .ro none), (3, .d (.int .i64) x3 .ro), (4, .d (.int .i64) x4 .ro)])
def q0p.f (k : Nat) (x0 : Delta) : Option (Bool) := q0p.F k x0
theorem q0p.f_eq (k : Nat) (x0 : Delta) : q0p.f k x0 = q0p.L2 k k x0 (0 : Int) := by kernel_rfl
theorem q0p.L2_eq (k k1 : Nat) (x1 : Delta) (x3 : Int) : q0p.L2 k (k1 + 1) x1 x3 = ifb (decide (x3 < (x1.1.length : Int))) (ifb (decide (0 ≤ x3) && decide (x3 < (x1.1.length : Int))) ((q35.f k1 (x1.1.getD x3.toNat bz)).bind fun (r0 : Bool) => ifb (!r0) (some false) (ifb (decide (x3 > 0)) (ifb (decide (0 ≤ (w64 (x3 - 1))) && decide ((w64 (x3 - 1)) < (x1.1.length : Int))) (ifb (decide (0 ≤ x3) && decide (x3 < (x1.1.length : Int))) (ifb (!(Op.bytesLess (x1.1.getD ((w64 (x3 - 1)).toNat) bz).toList (x1.1.getD x3.toNat bz).toList)) (some false) (q0p.L7 k k1 k1 x1 x3 (0 : Int))) (none)) (none)) (q0p.L7 k k1 k1 x1 x3 (0 : Int)))) (none)) (ifb (decide ((x1.1.length : Int) ≤ (24 : Int))) ((q2n.f k x1.2.1).bind fun (r1 : Bool) => ifb r1 ((q0f.f k x1.2.2.2).bind fun (r2 : Bool) => ifb r2 (ifb x1.2.2.1 (some true) (some ((x1.2.2.2.length : Int) == (0 : Int)))) (some false)) (some false)) (some false)) := by kernel_rfl
theorem q0p.L7_eq (k k1 k2 : Nat) (x1 : Delta) (x3 : Int) (x4 : Int) : q0p.L7 k k1 (k2 + 1) x1 x3 x4 = ifb (decide (x4 < (x1.2.1.length : Int))) (ifb (decide (0 ≤ x4) && decide (x4 < (x1.2.1.length : Int))) (ifb (decide (0 ≤ x3) && decide (x3 < (x1.1.length : Int))) (ifb (((x1.2.1.getD x4.toNat zE).1).toList == (x1.1.getD x3.toNat bz).toList) (some false) (q0p.L7 k k1 k2 x1 x3 (w64 (x4 + 1)))) (none)) (none)) (q0p.L2 k k1 x1 (w64 (x3 + 1))) := by kernel_rfl
abbrev q0p.e (k : Nat) : FuncId × CE := (120, ⟨q0p.ps, q0p.rs, q0p.F k⟩)
theorem q0p.q (k : Nat) : Qs (q0p.e k) := qq (C := q0p.C) (fun k => .c (q35.q k) <| .c (q0f.q k) <| .c (q2n.q k) <| .nil) k
def q0o.C (k : Nat) : CEs := []
abbrev q0o.ps : List Par := [⟨qbz, .rd⟩]
abbrev q0o.rs : List Res := [⟨.str, .ro, false⟩]
def q0o.H : q3q := [(4, [(1, .ro), (3, .ro)])]
def q0o.F := q3t E q0o.C q0o.H Tryz.f161 q0o.ps q0o.rs
def q0o.J4 (k : Nat) (x1 : Aff) (x3 : ByteArray) : Option (ByteArray) := atJ E q0o.C q0o.H Tryz.f161 q0o.ps q0o.rs [true, true, true] 0 [] k (sh 23 [(1, .box qbz x1 .ro none), (3, .d .str x3 .ro)])
def q0o.f (k : Nat) (x0 : Aff) : Option (ByteArray) := q0o.F k x0
theorem q0o.f_eq (k : Nat) (x0 : Aff) : q0o.f k x0 = ifb x0.2.1 (q0o.J4 k x0 (⟨#[102, 114, 111, 110, 116]⟩ : ByteArray)) (q0o.J4 k x0 (⟨#[101, 110, 100]⟩ : ByteArray)) := by kernel_rfl
theorem q0o.J4_eq (k : Nat) (x1 : Aff) (x3 : ByteArray) : q0o.J4 (k + 1) x1 x3 = ifb (q4m (x3.size + (⟨#[32]⟩ : ByteArray).size)) (ifb (q4m ((x3 ++ (⟨#[32]⟩ : ByteArray)).size + x1.1.size)) (ifb (q4m (((x3 ++ (⟨#[32]⟩ : ByteArray)) ++ x1.1).size + (⟨#[32]⟩ : ByteArray).size)) (ifb (q4m ((((x3 ++ (⟨#[32]⟩ : ByteArray)) ++ x1.1) ++ (⟨#[32]⟩ : ByteArray)).size + x1.2.2.1.size)) (ifb (q4m (((((x3 ++ (⟨#[32]⟩ : ByteArray)) ++ x1.1) ++ (⟨#[32]⟩ : ByteArray)) ++ x1.2.2.1).size + (⟨#[32]⟩ : ByteArray).size)) (ifb (q4m ((((((x3 ++ (⟨#[32]⟩ : ByteArray)) ++ x1.1) ++ (⟨#[32]⟩ : ByteArray)) ++ x1.2.2.1) ++ (⟨#[32]⟩ : ByteArray)).size + x1.2.2.2.1.size)) (ifb (q4m (((((((x3 ++ (⟨#[32]⟩ : ByteArray)) ++ x1.1) ++ (⟨#[32]⟩ : ByteArray)) ++ x1.2.2.1) ++ (⟨#[32]⟩ : ByteArray)) ++ x1.2.2.2.1).size + (⟨#[32]⟩ : ByteArray).size)) (ifb (q4m ((((((((x3 ++ (⟨#[32]⟩ : ByteArray)) ++ x1.1) ++ (⟨#[32]⟩ : ByteArray)) ++ x1.2.2.1) ++ (⟨#[32]⟩ : ByteArray)) ++ x1.2.2.2.1) ++ (⟨#[32]⟩ : ByteArray)).size + x1.2.2.2.2.size)) (some ((((((((x3 ++ (⟨#[32]⟩ : ByteArray)) ++ x1.1) ++ (⟨#[32]⟩ : ByteArray)) ++ x1.2.2.1) ++ (⟨#[32]⟩ : ByteArray)) ++ x1.2.2.2.1) ++ (⟨#[32]⟩ : ByteArray)) ++ x1.2.2.2.2)) (none)) (none)) (none)) (none)) (none)) (none)) (none)) (none) := by kernel_rfl
abbrev q0o.e (k : Nat) : FuncId × CE := (161, ⟨q0o.ps, q0o.rs, q0o.F k⟩)
theorem q0o.q (k : Nat) : Qs (q0o.e k) := qq (C := q0o.C) (fun k => .nil) k
def q23.C (k : Nat) : CEs := []
abbrev q23.ps : List Par := [⟨qg3, .rd⟩]
abbrev q23.rs : List Res := [⟨.str, .ro, false⟩]
def q23.F := q3t E q23.C [] Tryz.f162 q23.ps q23.rs
def q23.f (k : Nat) (x0 : ByteArray × ByteArray) : Option (ByteArray) := q23.F k x0
theorem q23.f_eq (k : Nat) (x0 : ByteArray × ByteArray) : q23.f k x0 = ifb (x0.2.toList == bz.toList) (some x0.1) (ifb (q4m (x0.1.size + (⟨#[47]⟩ : ByteArray).size)) (ifb (q4m ((x0.1 ++ (⟨#[47]⟩ : ByteArray)).size + x0.2.size)) (some ((x0.1 ++ (⟨#[47]⟩ : ByteArray)) ++ x0.2)) (none)) (none)) := by kernel_rfl
abbrev q23.e (k : Nat) : FuncId × CE := (162, ⟨q23.ps, q23.rs, q23.F k⟩)
theorem q23.q (k : Nat) : Qs (q23.e k) := qq (C := q23.C) (fun k => .nil) k
def q0k.C (k : Nat) : CEs := [q0o.e k, q23.e k]
abbrev q0k.ps : List Par := [⟨t25, .rd⟩]
abbrev q0k.rs : List Res := [⟨.str, .ro, false⟩]
def q0k.H : q3q := [(4, [(1, .ro), (3, .ro)]), (5, [(1, .ro), (3, .ro), (4, .ro)]), (9, [(1, .ro), (3, .ro), (5, .ro)]), (13, [(1, .ro), (3, .ro), (6, .ro)])]
def q0k.F := q3t E q0k.C q0k.H Tryz.f121 q0k.ps q0k.rs
def q0k.J4 (k : Nat) (x1 : Delta) (x3 : ByteArray) : Option (ByteArray) := atJ E q0k.C q0k.H Tryz.f121 q0k.ps q0k.rs [true, true, true] 0 [] k (sh 59 [(1, .box t25 x1 .ro none), (3, .d .str x3 .ro)])
def q0k.L5 (k k1 : Nat) (x1 : Delta) (x3 : ByteArray) (x4 : Int) : Option (ByteArray) := atL E q0k.C q0k.H Tryz.f121 q0k.ps q0k.rs [true, true, true, false, true, true] 0 [k] k1 (sh 59 [(1, .box t25 x1 .ro none), (3, .d .str x3 .ro), (4, .d (.int .i64) x4 .ro)])
def q0k.L9 (k k1 : Nat) (x1 : Delta) (x3 : ByteArray) (x5 : Int) : Option (ByteArray) := atL E q0k.C q0k.H Tryz.f121 q0k.ps q0k.rs [true, true, true, true, false, true, true] 0 [k] k1 (sh 59 [(1, .box t25 x1 .ro none), (3, .d .str x3 .ro), (5, .d (.int .i64) x5 .ro)])
def q0k.L13 (k k1 : Nat) (x1 : Delta) (x3 : ByteArray) (x6 : Int) : Option (ByteArray) := atL E q0k.C q0k.H Tryz.f121 q0k.ps q0k.rs [true, true, true, true, true, false, true, true] 0 [k] k1 (sh 59 [(1, .box t25 x1 .ro none), (3, .d .str x3 .ro), (6, .d (.int .i64) x6 .ro)])
def q0k.f (k : Nat) (x0 : Delta) : Option (ByteArray) := q0k.F k x0
theorem q0k.f_eq (k : Nat) (x0 : Delta) : q0k.f k x0 = ifb x0.2.2.1 (q0k.J4 k x0 (⟨#[97, 102, 102, 105, 120, 101, 115, 10]⟩ : ByteArray)) (q0k.J4 k x0 bz) := by kernel_rfl
theorem q0k.J4_eq (k : Nat) (x1 : Delta) (x3 : ByteArray) : q0k.J4 (k + 1) x1 x3 = q0k.L5 k k x1 x3 (0 : Int) := by kernel_rfl
theorem q0k.L5_eq (k k1 : Nat) (x1 : Delta) (x3 : ByteArray) (x4 : Int) : q0k.L5 k (k1 + 1) x1 x3 x4 = ifb (decide (x4 < (x1.2.2.2.length : Int))) (ifb (decide (0 ≤ x4) && decide (x4 < (x1.2.2.2.length : Int))) ((q0o.f k1 (x1.2.2.2.getD x4.toNat zA)).bind fun (r0 : ByteArray) => ifb (q4m (x3.size + r0.size)) (ifb (q4m ((x3 ++ r0).size + (⟨#[10]⟩ : ByteArray).size)) (q0k.L5 k k1 x1 ((x3 ++ r0) ++ (⟨#[10]⟩ : ByteArray)) (w64 (x4 + 1))) (none)) (none)) (none)) (q0k.L9 k k x1 x3 (0 : Int)) := by kernel_rfl
theorem q0k.L9_eq (k k1 : Nat) (x1 : Delta) (x3 : ByteArray) (x5 : Int) : q0k.L9 k (k1 + 1) x1 x3 x5 = ifb (decide (x5 < (x1.1.length : Int))) (ifb (q4m (x3.size + (⟨#[45]⟩ : ByteArray).size)) (ifb (decide (0 ≤ x5) && decide (x5 < (x1.1.length : Int))) (ifb (q4m ((x3 ++ (⟨#[45]⟩ : ByteArray)).size + (x1.1.getD x5.toNat bz).size)) (ifb (q4m (((x3 ++ (⟨#[45]⟩ : ByteArray)) ++ (x1.1.getD x5.toNat bz)).size + (⟨#[10]⟩ : ByteArray).size)) (q0k.L9 k k1 x1 (((x3 ++ (⟨#[45]⟩ : ByteArray)) ++ (x1.1.getD x5.toNat bz)) ++ (⟨#[10]⟩ : ByteArray)) (w64 (x5 + 1))) (none)) (none)) (none)) (none)) (q0k.L13 k k x1 x3 (0 : Int)) := by kernel_rfl
theorem q0k.L13_eq (k k1 : Nat) (x1 : Delta) (x3 : ByteArray) (x6 : Int) : q0k.L13 k (k1 + 1) x1 x3 x6 = ifb (decide (x6 < (x1.2.1.length : Int))) (ifb (q4m (x3.size + (⟨#[43]⟩ : ByteArray).size)) (ifb (decide (0 ≤ x6) && decide (x6 < (x1.2.1.length : Int))) ((q23.f k1 (x1.2.1.getD x6.toNat zE)).bind fun (r1 : ByteArray) => ifb (q4m ((x3 ++ (⟨#[43]⟩ : ByteArray)).size + r1.size)) (ifb (q4m (((x3 ++ (⟨#[43]⟩ : ByteArray)) ++ r1).size + (⟨#[10]⟩ : ByteArray).size)) (q0k.L13 k k1 x1 (((x3 ++ (⟨#[43]⟩ : ByteArray)) ++ r1) ++ (⟨#[10]⟩ : ByteArray)) (w64 (x6 + 1))) (none)) (none)) (none)) (none)) (some x3) := by kernel_rfl
abbrev q0k.e (k : Nat) : FuncId × CE := (121, ⟨q0k.ps, q0k.rs, q0k.F k⟩)
theorem q0k.q (k : Nat) : Qs (q0k.e k) := qq (C := q0k.C) (fun k => .c (q0o.q k) <| .c (q23.q k) <| .nil) k
def q19.C (k : Nat) : CEs := [q1t.e k, q3k.e k, q0p.e k, q0k.e k]
abbrev q19.ps : List Par := [⟨.str, .rd⟩]
abbrev q19.rs : List Res := [⟨t25, (.pr (.own .ro) (.pr (.own .ro) (.pr .ro (.own .ro)))), false⟩, ⟨.bool, .ro, false⟩]
def q19.H : q3q := [(4, [(0, .ro), (2, (.pr (.own .ro) (.pr (.own .ro) (.pr .ro (.own .ro))))), (4, (.own .ro)), (5, (.pr (.own .ro) (.pr (.own .ro) (.pr .ro (.own .ro))))), (6, .ro)])]
def q19.F := q3t E q19.C q19.H Tryz.f62 q19.ps q19.rs
def q19.L4 (k k1 : Nat) (x0 : ByteArray) (x2 : Delta) (x4 : List ByteArray) (x5 : Delta) (x6 : Int) : Option (Delta × Bool) := atL E q19.C q19.H Tryz.f62 q19.ps q19.rs [true, true, true, false, true, true] k [] k1 (sh 43 [(0, .d .str x0 .ro), (2, .box t25 x2 (.pr (.own .ro) (.pr (.own .ro) (.pr .ro (.own .ro)))) none), (4, .d (.row .str) x4 (.own .ro)), (5, .box t25 x5 (.pr (.own .ro) (.pr (.own .ro) (.pr .ro (.own .ro)))) none), (6, .d (.int .i64) x6 .ro)])
def q19.f (k : Nat) (x0 : ByteArray) : Option (Delta × Bool) := q19.F k x0
theorem q19.f_eq (k : Nat) (x0 : ByteArray) : q19.f k x0 = (q1t.f k x0 (10 : Int)).bind fun (r0 : List ByteArray) => q19.L4 k k x0 (([] : List ByteArray), ([] : List En), false, ([] : List Aff)) r0 (([] : List ByteArray), ([] : List En), false, ([] : List Aff)) (0 : Int) := by kernel_rfl
theorem q19.L4_eq (k k1 : Nat) (x0 : ByteArray) (x2 : Delta) (x4 : List ByteArray) (x5 : Delta) (x6 : Int) : q19.L4 k (k1 + 1) x0 x2 x4 x5 x6 = ifb (decide ((w64 (x6 + 1)) < (x4.length : Int))) (ifb (decide (0 ≤ x6) && decide (x6 < (x4.length : Int))) ((q3k.f k1 x5 (x4.getD x6.toNat bz)).bind fun (r1 : Delta × Bool) => ifb (!r1.2) (some ((([] : List ByteArray), ([] : List En), false, ([] : List Aff)), false)) (q19.L4 k k1 x0 x2 x4 r1.1 (w64 (x6 + 1)))) (none)) ((q0p.f k x5).bind fun (r2 : Bool) => ifb (!r2) (some ((([] : List ByteArray), ([] : List En), false, ([] : List Aff)), false)) ((q0k.f k x5).bind fun (r3 : ByteArray) => ifb (!(r3.toList == x0.toList)) (some ((([] : List ByteArray), ([] : List En), false, ([] : List Aff)), false)) (some (x5, true)))) := by kernel_rfl
abbrev q19.e (k : Nat) : FuncId × CE := (62, ⟨q19.ps, q19.rs, q19.F k⟩)
theorem q19.q (k : Nat) : Qs (q19.e k) := qq (C := q19.C) (fun k => .c (q1t.q k) <| .c (q3k.q k) <| .c (q0p.q k) <| .c (q0k.q k) <| .nil) k
def q27.C (k : Nat) : CEs := []
abbrev q27.ps : List Par := [⟨.str, .rd⟩]
abbrev q27.rs : List Res := [⟨(.int .i64), .ro, false⟩]
def q27.H : q3q := [(5, [(0, .ro), (3, .ro), (4, .ro)])]
def q27.F := q3t E q27.C q27.H Tryz.f63 q27.ps q27.rs
def q27.L5 (k k1 : Nat) (x0 : ByteArray) (x3 : Int) (x4 : Int) : Option (Int) := atL E q27.C q27.H Tryz.f63 q27.ps q27.rs [true, true, true, false, true, true] k [] k1 (sh 48 [(0, .d .str x0 .ro), (3, .d (.int .i64) x3 .ro), (4, .d (.int .i64) x4 .ro)])
def q27.f (k : Nat) (x0 : ByteArray) : Option (Int) := q27.F k x0
theorem q27.f_eq (k : Nat) (x0 : ByteArray) : q27.f k x0 = ifb ((x0.size : Int) == (0 : Int)) (some (-1 : Int)) (ifb (decide ((x0.size : Int) > (6 : Int))) (some (-1 : Int)) (ifb (decide ((x0.size : Int) > (1 : Int))) (ifb (decide (0 ≤ (0 : Int)) && decide ((0 : Int) < (x0.size : Int))) (ifb ((q33 x0 (0 : Int)) == (48 : Int)) (some (-1 : Int)) (q27.L5 k k x0 (0 : Int) (0 : Int))) (none)) (q27.L5 k k x0 (0 : Int) (0 : Int)))) := by kernel_rfl
theorem q27.L5_eq (k k1 : Nat) (x0 : ByteArray) (x3 : Int) (x4 : Int) : q27.L5 k (k1 + 1) x0 x3 x4 = ifb (decide (x4 < (x0.size : Int))) (ifb (decide (0 ≤ x4) && decide (x4 < (x0.size : Int))) (ifb (decide ((q33 x0 x4) < (48 : Int))) (some (-1 : Int)) (ifb (decide (0 ≤ x4) && decide (x4 < (x0.size : Int))) (ifb (decide ((q33 x0 x4) > (57 : Int))) (some (-1 : Int)) (ifb (decide (0 ≤ x4) && decide (x4 < (x0.size : Int))) (q27.L5 k k1 x0 (w64 ((w64 (x3 * (10 : Int))) + (w64 (IntKind.u8.wrap ((q33 x0 x4) - (48 : Int)))))) (w64 (x4 + 1))) (none))) (none))) (none)) (some x3) := by kernel_rfl
abbrev q27.e (k : Nat) : FuncId × CE := (63, ⟨q27.ps, q27.rs, q27.F k⟩)
theorem q27.q (k : Nat) : Qs (q27.e k) := qq (C := q27.C) (fun k => .nil) k
def q3n.C (k : Nat) : CEs := []
abbrev q3n.ps : List Par := [⟨(.int .i64), .rd⟩, ⟨(.int .i64), .rd⟩, ⟨(.int .i64), .rd⟩]
abbrev q3n.rs : List Res := [⟨.bool, .ro, false⟩]
def q3n.F := q3t E q3n.C [] Tryz.f92 q3n.ps q3n.rs
def q3n.f (k : Nat) (x0 : Int) (x1 : Int) (x2 : Int) : Option (Bool) := q3n.F k (x0, x1, x2)
theorem q3n.f_eq (k : Nat) (x0 : Int) (x1 : Int) (x2 : Int) : q3n.f k x0 x1 x2 = ifb (decide (x0 ≥ x1)) (some (decide (x0 ≤ x2))) (some false) := by kernel_rfl
abbrev q3n.e (k : Nat) : FuncId × CE := (92, ⟨q3n.ps, q3n.rs, q3n.F k⟩)
theorem q3n.q (k : Nat) : Qs (q3n.e k) := qq (C := q3n.C) (fun k => .nil) k
def q2u.C (k : Nat) : CEs := []
abbrev q2u.ps : List Par := [⟨(.int .u8), .rd⟩]
abbrev q2u.rs : List Res := [⟨.bool, .ro, false⟩]
def q2u.F := q3t E q2u.C [] Tryz.f140 q2u.ps q2u.rs
def q2u.f (k : Nat) (x0 : Int) : Option (Bool) := q2u.F k x0
theorem q2u.f_eq (k : Nat) (x0 : Int) : q2u.f k x0 = ifb (decide (x0 ≥ (48 : Int))) (ifb (decide (x0 ≤ (57 : Int))) (some true) (ifb (decide (x0 ≥ (97 : Int))) (some (decide (x0 ≤ (102 : Int)))) (some false))) (ifb (decide (x0 ≥ (97 : Int))) (some (decide (x0 ≤ (102 : Int)))) (some false)) := by kernel_rfl
abbrev q2u.e (k : Nat) : FuncId × CE := (140, ⟨q2u.ps, q2u.rs, q2u.F k⟩)
theorem q2u.q (k : Nat) : Qs (q2u.e k) := qq (C := q2u.C) (fun k => .nil) k
abbrev q26.e (k : Nat) : FuncId × CE := (141, ⟨q26.ps, q26.rs, q26.F k⟩)
theorem q26.q (k : Nat) : Qs (q26.e k) := ⟨q26.snd k, q26.can⟩
def q2v.C (k : Nat) : CEs := [q26.e k, q0k.e k]
abbrev q2v.ps : List Par := [⟨t27, .rd⟩]
abbrev q2v.rs : List Res := [⟨.str, .ro, false⟩]
def q2v.F := q3t E q2v.C [] Tryz.f77 q2v.ps q2v.rs
def q2v.f (k : Nat) (x0 : Release) : Option (ByteArray) := q2v.F k x0
theorem q2v.f_eq (k : Nat) (x0 : Release) : q2v.f k x0 = (q26.f k x0.1).bind fun (r0 : ByteArray) => ifb (q4m ((⟨#[114, 101, 108, 101, 97, 115, 101, 32]⟩ : ByteArray).size + r0.size)) (ifb (q4m (((⟨#[114, 101, 108, 101, 97, 115, 101, 32]⟩ : ByteArray) ++ r0).size + (⟨#[32]⟩ : ByteArray).size)) (ifb (q4m ((((⟨#[114, 101, 108, 101, 97, 115, 101, 32]⟩ : ByteArray) ++ r0) ++ (⟨#[32]⟩ : ByteArray)).size + x0.2.2.1.size)) (ifb (q4m (((((⟨#[114, 101, 108, 101, 97, 115, 101, 32]⟩ : ByteArray) ++ r0) ++ (⟨#[32]⟩ : ByteArray)) ++ x0.2.2.1).size + (⟨#[10]⟩ : ByteArray).size)) ((q0k.f k x0.2.1).bind fun (r1 : ByteArray) => ifb (q4m ((((((⟨#[114, 101, 108, 101, 97, 115, 101, 32]⟩ : ByteArray) ++ r0) ++ (⟨#[32]⟩ : ByteArray)) ++ x0.2.2.1) ++ (⟨#[10]⟩ : ByteArray)).size + r1.size)) (some ((((((⟨#[114, 101, 108, 101, 97, 115, 101, 32]⟩ : ByteArray) ++ r0) ++ (⟨#[32]⟩ : ByteArray)) ++ x0.2.2.1) ++ (⟨#[10]⟩ : ByteArray)) ++ r1)) (none)) (none)) (none)) (none)) (none) := by kernel_rfl
abbrev q2v.e (k : Nat) : FuncId × CE := (77, ⟨q2v.ps, q2v.rs, q2v.F k⟩)
theorem q2v.q (k : Nat) : Qs (q2v.e k) := qq (C := q2v.C) (fun k => .c (q26.q k) <| .c (q0k.q k) <| .nil) k
def q1p.C (k : Nat) : CEs := [q0p.e k, q3n.e k, q2u.e k, q2v.e k]
abbrev q1p.ps : List Par := [⟨t27, .rd⟩]
abbrev q1p.rs : List Res := [⟨.bool, .ro, false⟩]
def q1p.H : q3q := [(4, [(1, .ro), (3, .ro)])]
def q1p.F := q3t E q1p.C q1p.H Tryz.f76 q1p.ps q1p.rs
def q1p.L4 (k k1 : Nat) (x1 : Release) (x3 : Int) : Option (Bool) := atL E q1p.C q1p.H Tryz.f76 q1p.ps q1p.rs [true, true, false, true, true] k [] k1 (sh 48 [(1, .box t27 x1 .ro none), (3, .d (.int .i64) x3 .ro)])
def q1p.f (k : Nat) (x0 : Release) : Option (Bool) := q1p.F k x0
theorem q1p.f_eq (k : Nat) (x0 : Release) : q1p.f k x0 = (q3n.f k x0.1 (1 : Int) (999999 : Int)).bind fun (r0 : Bool) => ifb (!r0) (some false) ((q0p.f k x0.2.1).bind fun (r1 : Bool) => ifb (!r1) (some false) (ifb ((x0.2.2.1.size : Int) != (64 : Int)) (some false) (ifb ((x0.2.2.2.size : Int) != (64 : Int)) (some false) (q1p.L4 k k x0 (0 : Int))))) := by kernel_rfl
theorem q1p.L4_eq (k k1 : Nat) (x1 : Release) (x3 : Int) : q1p.L4 k (k1 + 1) x1 x3 = ifb (decide (x3 < (64 : Int))) (ifb (decide (0 ≤ x3) && decide (x3 < (x1.2.2.1.size : Int))) ((q2u.f k1 (q33 x1.2.2.1 x3)).bind fun (r2 : Bool) => ifb (!r2) (some false) (ifb (decide (0 ≤ x3) && decide (x3 < (x1.2.2.2.size : Int))) ((q2u.f k1 (q33 x1.2.2.2 x3)).bind fun (r3 : Bool) => ifb (!r3) (some false) (q1p.L4 k k1 x1 (w64 (x3 + 1)))) (none))) (none)) ((q2v.f k x1).bind fun (r4 : ByteArray) => some (decide ((r4.size : Int) ≤ (1200 : Int)))) := by kernel_rfl
abbrev q1p.e (k : Nat) : FuncId × CE := (76, ⟨q1p.ps, q1p.rs, q1p.F k⟩)
theorem q1p.q (k : Nat) : Qs (q1p.e k) := qq (C := q1p.C) (fun k => .c (q0p.q k) <| .c (q3n.q k) <| .c (q2u.q k) <| .c (q2v.q k) <| .nil) k
end
end Go.Proofs.YtjfkeknnjjlepaaGreatDoor.Rf
end

section
/- Contracts of texts alone: how they are told. -/
namespace Go.Proofs.YtjfkeknnjjlepaaGreatDoor.Rf
open Go Go.RowKit
set_option linter.unusedVariables false
set_option linter.unusedSimpArgs false
def q7t (l : List UInt8) : Int := match Lib.atoiAll l with
  | .ok v => v
  | .range => Lib.atoiSat l
  | _ => 0
theorem qo2 {ξ : Im} {w : World} (wf : Wf ξ w) (xs : List ByteArray) (t : TypeId) :
    q4q ξ (w.alloc (.cells (xs.map Value.string).toArray t)) (.d (.row .str) xs (.own .ro)) (.slice (some ⟨w.heap.size, 0, none⟩) xs.length xs.length) (fun b => b = w.heap.size) := by
  have hh : (w.alloc (.cells (xs.map Value.string).toArray t)).heap[w.heap.size]? = some (.cells (xs.map Value.string).toArray t) := by show (w.heap.push _)[w.heap.size]? = _; simp
  refine ⟨[.slice (some ⟨w.heap.size, 0, none⟩) xs.length xs.length], rfl, .inr ⟨⟨w.heap.size, 0, none⟩, xs.length, _, t, _, fun _ => Em, rfl, rfl, rfl, hh, ?_, Nat.le_refl _, ?_, ?_, fun i => ⟨Sb.em _, fun x => x⟩, fun _ _ _ => Dj.em _, fun i hi => ?_⟩⟩
  · intro o _ h; simp at h
  · show 0 + xs.length * 1 ≤ _; simp
  · show ξ w.heap.size ≤ 0; rw [wf _ (Nat.le_refl _)]; exact Nat.le_refl _
  · refine ⟨[.string xs[i]], rfl, ?_, rfl, fun _ => rfl⟩
    intro j v hv
    have hj : j < 1 := (List.getElem?_eq_some_iff.1 hv).1
    obtain rfl : j = 0 := by omega
    show World.cell? _ ⟨w.heap.size, 0 + i * 1 + 0, none⟩ = some v
    rw [cell_of hh, ← hv]
    simp [hi]
theorem qlo (w : World) (o : Obj) : ∀ b, b = w.heap.size → w.heap.size ≤ b ∧ b < (w.alloc o).heap.size := fun b hb => by
  subst hb; simp
theorem below_alloc1 (w : World) (o : Obj) : Below w.heap.size w (w.alloc o) := (Below.refl _ w).alloc (Nat.le_refl _) o
theorem qg4 (w : World) (k : Nat) : Below w.heap.size w (w.drewN k) := ⟨rfl, rfl, rfl, Nat.le_refl _, fun _ _ => rfl⟩
theorem q9x (w : World) (k : Nat) (os : Array Obj) : Below w.heap.size w (Go.Sort.grow (w.drewN k) os) := by
  have hh : (w.drewN k).heap = w.heap := rfl
  refine ⟨rfl, rfl, rfl, ?_, fun i hi => ?_⟩
  · show w.heap.size ≤ ((w.drewN k).heap ++ os).size
    rw [hh, Array.size_append]
    omega
  · show ((w.drewN k).heap ++ os)[i]? = w.heap[i]?
    rw [hh, Array.getElem?_append_left hi]
theorem qq9 {ξ : Im} {w : World} {l : List ByteArray} {v : Value} {T : Bs} (h : q4q ξ w (.d (.row .str) l .ro) v T) :
    ∃ A cap, v = .slice A l.length cap ∧ l.length ≤ cap ∧ (l = [] ∨ ∃ b off, A = some ⟨b, off, none⟩ ∧ b < w.heap.size ∧ ∀ (j : Nat) (x : ByteArray), l[j]? = some x → w.cell? ⟨b, off + j, none⟩ = some (.string x)) := by
  obtain ⟨cs, h0, h1⟩ := h
  obtain ⟨A, cap, rfl, k1, k2⟩ := h1.row_ro
  refine ⟨A, cap, h0, k1, ?_⟩
  rcases Nat.eq_zero_or_pos l.length with hz | hz
  · exact .inl (List.eq_nil_of_length_eq_zero hz)
  · obtain ⟨a, c, e1, e2, e3, e4, e5⟩ := k2 0 hz
    obtain rfl : c = [.string l[0]] := e5.2 (by simp)
    obtain ⟨b, off, sp⟩ := a
    simp only at e2 e4
    subst e2
    refine .inr ⟨b, off, e1, q9s (e4 0 _ rfl), fun j x hj => ?_⟩
    obtain ⟨hjl, rfl⟩ := List.getElem?_eq_some_iff.1 hj
    obtain ⟨a', c', g1, g2, g3, g4, g5⟩ := k2 j hjl
    rw [e1] at g1
    obtain rfl := Option.some.inj g1
    obtain rfl : c' = [.string l[j]] := g5.2 (by simp)
    have := g4 0 _ rfl
    rwa [show off + j * Ty.str.n + 0 = off + j from (show off + j * 1 + 0 = off + j by omega)] at this
end Go.Proofs.YtjfkeknnjjlepaaGreatDoor.Rf
end
