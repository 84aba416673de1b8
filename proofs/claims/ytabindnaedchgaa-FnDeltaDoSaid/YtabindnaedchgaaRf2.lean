/- What a plain value is in memory, and what keeps it. Nothing of any program. -/
import Derived.Test.YtabindnaedchgaaRf1
import Derived.Below
namespace Go.Proofs.Ytabindnaedchgaa.Rf
open Go Go.RowKit
set_option linter.unusedVariables false
set_option linter.unusedSimpArgs false

abbrev Bs := Nat → Prop
def Dj (A B : Bs) : Prop := ∀ b, A b → B b → False
def Sb (A B : Bs) : Prop := ∀ b, A b → B b
def Em : Bs := fun _ => False
theorem Sb.refl (A : Bs) : Sb A A := fun _ h => h
theorem Sb.trans {A B C : Bs} (h : Sb A B) (k : Sb B C) : Sb A C := fun b x => k b (h b x)
theorem Sb.em (A : Bs) : Sb Em A := fun _ h => h.elim
theorem Dj.em (A : Bs) : Dj Em A := fun _ h => h.elim
theorem Dj.em' (A : Bs) : Dj A Em := fun _ _ h => h.elim
theorem Dj.sub {A B A' B' : Bs} (h : Dj A B) (ha : Sb A' A) (hb : Sb B' B) : Dj A' B' := fun b x y => h b (ha b x) (hb b y)
theorem Dj.symm {A B : Bs} (h : Dj A B) : Dj B A := fun b x y => h b y x

def CAt (w : World) (b o : Nat) (cs : List Value) : Prop := ∀ i v, cs[i]? = some v → w.cell? ⟨b, o + i, none⟩ = some v
theorem cell_of {w : World} {b : Nat} {c : Array Value} {t : TypeId} {fz : Nat × Nat} (h : w.heap[b]? = some (.cells c t fz)) (o : Nat) : w.cell? ⟨b, o, none⟩ = c[o]? := by
  simp [World.cell?, h]
theorem cell_eq {w w' : World} {b : Nat} (h : w'.heap[b]? = w.heap[b]?) (o : Nat) : w'.cell? ⟨b, o, none⟩ = w.cell? ⟨b, o, none⟩ := by
  simp [World.cell?, h]

abbrev Im := Nat → Nat
/-- the blocks of T stand as they stood, and so do the cells that never turn -/
structure Keep (T : Bs) (ξ : Im) (w : World) (ξ' : Im) (w' : World) : Prop where
  blk : ∀ b, T b → w'.heap[b]? = w.heap[b]? ∧ ξ' b = ξ b
  imm : ∀ b o v, o < ξ b → w.cell? ⟨b, o, none⟩ = some v → w'.cell? ⟨b, o, none⟩ = some v
  up : ∀ b, ξ b ≤ ξ' b
theorem Keep.refl (T : Bs) (ξ : Im) (w : World) : Keep T ξ w ξ w := ⟨fun _ _ => ⟨rfl, rfl⟩, fun _ _ _ _ h => h, fun _ => Nat.le_refl _⟩
theorem Keep.sub {T T' : Bs} {ξ ξ' : Im} {w w' : World} (h : Keep T ξ w ξ' w') (hs : Sb T' T) : Keep T' ξ w ξ' w' := ⟨fun b hb => h.blk b (hs b hb), h.imm, h.up⟩
theorem Keep.trans {T : Bs} {ξ ξ' ξ'' : Im} {w w' w'' : World} (h : Keep T ξ w ξ' w') (k : Keep T ξ' w' ξ'' w'') : Keep T ξ w ξ'' w'' :=
  ⟨fun b hb => ⟨(k.blk b hb).1.trans (h.blk b hb).1, (k.blk b hb).2.trans (h.blk b hb).2⟩,
   fun b o v ho hv => k.imm b o v (Nat.lt_of_lt_of_le ho (h.up b)) (h.imm b o v ho hv), fun b => Nat.le_trans (h.up b) (k.up b)⟩
theorem CAt.keep {T : Bs} {ξ ξ' : Im} {w w' : World} {b o : Nat} {cs : List Value} (h : CAt w b o cs) (k : Keep T ξ w ξ' w') (hb : T b) : CAt w' b o cs :=
  fun i v hi => (cell_eq (k.blk b hb).1 _).trans (h i v hi)
theorem CAt.imm {T : Bs} {ξ ξ' : Im} {w w' : World} {b o : Nat} {cs : List Value} (h : CAt w b o cs) (k : Keep T ξ w ξ' w') (hb : o + cs.length ≤ ξ b) : CAt w' b o cs := by
  intro i v hi
  have hl : i < cs.length := (List.getElem?_eq_some_iff.1 hi).1
  exact k.imm b _ v (by omega) (h i v hi)

def Rel (ξ : Im) (w : World) : (τ : Ty) → Fl → τ.T → List Value → Bs → Prop
  | .int k, f, x, cs, _ => cs.length = 1 ∧ (f ≠ .gone → cs = [.int k x])
  | .bool, f, x, cs, _ => cs.length = 1 ∧ (f ≠ .gone → cs = [.bool x])
  | .str, f, x, cs, _ => cs.length = 1 ∧ (f ≠ .gone → cs = [.string x])
  | .row e, f, l, cs, T => match f with
    | .gone => cs.length = 1
    | .pr _ _ => False
    | .ro => ∃ A cap, cs = [.slice A l.length cap] ∧ l.length ≤ cap ∧ ∀ i (h : i < l.length), ∃ a c, A = some a ∧ a.spot = none ∧ c.length = e.n ∧
        CAt w a.block (a.off + i * e.n) c ∧ a.off + i * e.n + e.n ≤ ξ a.block ∧ Rel ξ w e .ro l[i] c Em
    | .own g => (l = [] ∧ cs = [.slice none 0 0]) ∨ ∃ a cap c t fz, ∃ Te : Nat → Bs, cs = [.slice (some a) l.length cap] ∧ a.spot = none ∧ T a.block ∧
        w.heap[a.block]? = some (.cells c t fz) ∧ (∀ o, o < c.size → ¬(fz.1 ≤ o ∧ o < fz.2)) ∧ l.length ≤ cap ∧ a.off + cap * e.n ≤ c.size ∧ ξ a.block ≤ a.off ∧
        (∀ i, Sb (Te i) T ∧ ¬ Te i a.block) ∧ (∀ i j, i ≠ j → Dj (Te i) (Te j)) ∧
        ∀ i (h : i < l.length), ∃ c', c'.length = e.n ∧ CAt w a.block (a.off + i * e.n) c' ∧ Rel ξ w e g l[i] c' (Te i)
  | .pair a b, f, x, cs, T => ∃ c1 c2, ∃ T1 T2 : Bs, cs = c1 ++ c2 ∧ c1.length = a.n ∧ Sb T1 T ∧ Sb T2 T ∧ Dj T1 T2 ∧ Rel ξ w a f.l x.1 c1 T1 ∧ Rel ξ w b f.r x.2 c2 T2
  | .st a, f, x, cs, T => Rel ξ w a f x cs T

theorem Ty.n_pos : (τ : Ty) → 0 < τ.n
  | .int _ | .bool | .str | .row _ => Nat.one_pos
  | .pair a b => Nat.lt_of_lt_of_le (n_pos a) (Nat.le_add_right _ _)
  | .st a => n_pos a

theorem Rel.len {ξ : Im} {w : World} : {τ : Ty} → {f : Fl} → {x : τ.T} → {cs : List Value} → {T : Bs} → Rel ξ w τ f x cs T → cs.length = τ.n
  | .int _, _, _, _, _, h => h.1
  | .bool, _, _, _, _, h => h.1
  | .str, _, _, _, _, h => h.1
  | .row e, f, l, cs, T, h => by
    cases f with
    | gone => exact h
    | pr _ _ => exact h.elim
    | ro => obtain ⟨A, cap, rfl, _⟩ := h; rfl
    | own g => rcases h with ⟨_, rfl⟩ | ⟨a, cap, c, t, fz, Te, rfl, _⟩ <;> rfl
  | .pair a b, _, _, _, _, ⟨c1, c2, T1, T2, hc, hl, _, _, _, _, h2⟩ => by
    rw [hc, List.length_append, hl, Rel.len h2]; rfl
  | .st a, _, _, _, _, h => Rel.len (τ := a) h

theorem Rel.sub {ξ : Im} {w : World} : {τ : Ty} → {f : Fl} → {x : τ.T} → {cs : List Value} → {T T' : Bs} → Rel ξ w τ f x cs T → Sb T T' → Rel ξ w τ f x cs T'
  | .int _, _, _, _, _, _, h, _ => h
  | .bool, _, _, _, _, _, h, _ => h
  | .str, _, _, _, _, _, h, _ => h
  | .row e, f, l, cs, T, T', h, s => by
    cases f with
    | gone => exact h
    | pr _ _ => exact h
    | ro => exact h
    | own g =>
      rcases h with h | ⟨a, cap, c, t, fz, Te, h1, h2, h3, h4, h5, h6, h7, h8, h9, h10, h11⟩
      · exact .inl h
      · exact .inr ⟨a, cap, c, t, fz, Te, h1, h2, s _ h3, h4, h5, h6, h7, h8, fun i => ⟨(h9 i).1.trans s, (h9 i).2⟩, h10, h11⟩
  | .pair a b, _, _, _, _, _, ⟨c1, c2, T1, T2, hc, hl, s1, s2, d, h1, h2⟩, s => ⟨c1, c2, T1, T2, hc, hl, s1.trans s, s2.trans s, d, h1, h2⟩
  | .st a, _, _, _, _, _, h, s => Rel.sub (τ := a) h s

theorem Rel.keep {ξ ξ' : Im} {w w' : World} : {τ : Ty} → {f : Fl} → {x : τ.T} → {cs : List Value} → {T : Bs} → Rel ξ w τ f x cs T → Keep T ξ w ξ' w' → Rel ξ' w' τ f x cs T
  | .int _, _, _, _, _, h, _ => h
  | .bool, _, _, _, _, h, _ => h
  | .str, _, _, _, _, h, _ => h
  | .row e, f, l, cs, T, h, k => by
    cases f with
    | gone => exact h
    | pr _ _ => exact h
    | ro =>
      obtain ⟨A, cap, h1, h2, h3⟩ := h
      refine ⟨A, cap, h1, h2, fun i hi => ?_⟩
      obtain ⟨a, c, h4, h5, h6, h7, h8, h9⟩ := h3 i hi
      exact ⟨a, c, h4, h5, h6, h7.imm k (by omega), Nat.le_trans h8 (k.up _), Rel.keep h9 (k.sub (Sb.em _))⟩
    | own g =>
      rcases h with h | ⟨a, cap, c, t, fz, Te, h1, h2, h3, h4, h5, h6, h7, h8, h9, h10, h11⟩
      · exact .inl h
      · refine .inr ⟨a, cap, c, t, fz, Te, h1, h2, h3, (k.blk _ h3).1.trans h4, h5, h6, h7, (k.blk _ h3).2.symm ▸ h8, h9, h10, fun i hi => ?_⟩
        obtain ⟨c', h12, h13, h14⟩ := h11 i hi
        exact ⟨c', h12, h13.keep k h3, Rel.keep h14 (k.sub (h9 i).1)⟩
  | .pair a b, _, _, _, _, ⟨c1, c2, T1, T2, hc, hl, s1, s2, d, h1, h2⟩, k => ⟨c1, c2, T1, T2, hc, hl, s1, s2, d, Rel.keep h1 (k.sub s1), Rel.keep h2 (k.sub s2)⟩
  | .st a, _, _, _, _, h, k => Rel.keep (τ := a) h k

theorem Rel.toRo {ξ : Im} {w : World} : {τ : Ty} → {f : Fl} → {x : τ.T} → {cs : List Value} → {T : Bs} → Rel ξ w τ f x cs T → f.isRo τ = true → Rel ξ w τ .ro x cs Em
  | .int _, _, _, _, _, h, r => ⟨h.1, fun _ => h.2 (by simpa [Fl.isRo] using r)⟩
  | .bool, _, _, _, _, h, r => ⟨h.1, fun _ => h.2 (by simpa [Fl.isRo] using r)⟩
  | .str, _, _, _, _, h, r => ⟨h.1, fun _ => h.2 (by simpa [Fl.isRo] using r)⟩
  | .row e, f, l, cs, T, h, r => by
    have hf : f = .ro := by simpa [Fl.isRo] using r
    subst hf
    exact h
  | .pair a b, f, _, _, _, ⟨c1, c2, T1, T2, hc, hl, s1, s2, d, h1, h2⟩, r => by
    simp only [Fl.isRo, Bool.and_eq_true] at r
    exact ⟨c1, c2, Em, Em, hc, hl, Sb.em _, Sb.em _, Dj.em _, Rel.toRo h1 r.1, Rel.toRo h2 r.2⟩
  | .st a, _, _, _, _, h, r => Rel.toRo (τ := a) h r

/-- what is its own is never turned again from here on -/
noncomputable def frz (ξ : Im) (w : World) (T : Bs) : Im := open Classical in fun b => if T b then max (ξ b) (match w.heap[b]? with | some (.cells c _ _) => c.size | _ => 0) else ξ b
theorem frz_ge (ξ : Im) (w : World) (T : Bs) (b : Nat) : ξ b ≤ frz ξ w T b := by
  unfold frz; split
  · exact Nat.le_max_left _ _
  · exact Nat.le_refl _
theorem frz_not {ξ : Im} {w : World} {T : Bs} {b : Nat} (h : ¬ T b) : frz ξ w T b = ξ b := by unfold frz; rw [if_neg h]
theorem frz_cells {ξ : Im} {w : World} {T : Bs} {b : Nat} {c : Array Value} {t : TypeId} {fz : Nat × Nat} (h : T b) (hc : w.heap[b]? = some (.cells c t fz)) : c.size ≤ frz ξ w T b := by
  unfold frz; rw [if_pos h, hc]; exact Nat.le_max_right _ _
theorem frz_keep (ξ : Im) (w : World) (T T' : Bs) (h : Dj T T') : Keep T' ξ w (frz ξ w T) w :=
  ⟨fun b hb => ⟨rfl, frz_not fun hT => h b hT hb⟩, fun _ _ _ _ h => h, frz_ge ξ w T⟩
theorem Rel.freeze {ξ ξ' : Im} {w : World} (up : ∀ b, ξ b ≤ ξ' b) : {τ : Ty} → {f : Fl} → {x : τ.T} → {cs : List Value} → {T : Bs} → Rel ξ w τ f x cs T → f.ok τ = true →
    (∀ b c t fz, T b → w.heap[b]? = some (.cells c t fz) → c.size ≤ ξ' b) → Rel ξ' w τ .ro x cs Em
  | .int _, _, _, _, _, h, r, _ => ⟨h.1, fun _ => h.2 (by simpa [Fl.ok] using r)⟩
  | .bool, _, _, _, _, h, r, _ => ⟨h.1, fun _ => h.2 (by simpa [Fl.ok] using r)⟩
  | .str, _, _, _, _, h, r, _ => ⟨h.1, fun _ => h.2 (by simpa [Fl.ok] using r)⟩
  | .row e, f, l, cs, T, h, r, z => by
    cases f with
    | gone => simp [Fl.ok] at r
    | pr _ _ => exact h.elim
    | ro =>
      obtain ⟨A, cap, h1, h2, h3⟩ := h
      refine ⟨A, cap, h1, h2, fun i hi => ?_⟩
      obtain ⟨a, c, h4, h5, h6, h7, h8, h9⟩ := h3 i hi
      exact ⟨a, c, h4, h5, h6, h7, Nat.le_trans h8 (up _), Rel.keep h9 ⟨fun _ h => h.elim, fun _ _ _ _ h => h, up⟩⟩
    | own g =>
      rcases h with ⟨hl, h⟩ | ⟨a, cap, c, t, fz, Te, h1, h2, h3, h4, h5, h6, h7, h8, h9, h10, h11⟩
      · subst hl; exact ⟨none, 0, h, Nat.le_refl _, fun i hi => by simp at hi⟩
      · refine ⟨some a, cap, h1, h6, fun i hi => ?_⟩
        obtain ⟨c', h12, h13, h14⟩ := h11 i hi
        have hz := z _ _ _ _ h3 h4
        have hm : i * e.n + e.n ≤ cap * e.n := by
          have : (i + 1) * e.n ≤ cap * e.n := Nat.mul_le_mul_right _ (by omega)
          rwa [Nat.add_mul, Nat.one_mul] at this
        exact ⟨a, c', rfl, h2, h12, h13, by omega, Rel.freeze up h14 (by simpa [Fl.ok] using r) fun b c t fz hb => z b c t fz ((h9 i).1 _ hb)⟩
  | .pair a b, f, _, _, _, ⟨c1, c2, T1, T2, hc, hl, s1, s2, d, h1, h2⟩, r, z => by
    simp only [Fl.ok, Bool.and_eq_true] at r
    exact ⟨c1, c2, Em, Em, hc, hl, Sb.em _, Sb.em _, Dj.em _, Rel.freeze up h1 r.1 fun b c t fz hb => z b c t fz (s1 _ hb), Rel.freeze up h2 r.2 fun b c t fz hb => z b c t fz (s2 _ hb)⟩
  | .st a, _, _, _, _, h, r, z => Rel.freeze (τ := a) up h r z
theorem Rel.frz {ξ : Im} {w : World} {τ : Ty} {f : Fl} {x : τ.T} {cs : List Value} {T : Bs} (h : Rel ξ w τ f x cs T) (r : f.ok τ = true) : Rel (frz ξ w T) w τ .ro x cs Em :=
  h.freeze (frz_ge ξ w T) r fun _ _ _ _ hb hc => frz_cells hb hc
end Go.Proofs.Ytabindnaedchgaa.Rf
