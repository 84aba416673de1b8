/- States: what stands in the slots, and how that is kept. Nothing of any program. -/
import Derived.Test.YtabindnaedchgaaRf4
namespace Go.Proofs.Ytabindnaedchgaa.Rf
open Go Go.RowKit
set_option linter.unusedVariables false
set_option linter.unusedSimpArgs false

theorem St.slot_of {σ : St} {t : Nat} {s : Slot} (h : σ[t]? = some s) : σ.slot t = s := by simp [St.slot, List.getD_eq_getElem?_getD, h]
theorem St.slot_put_ne {σ : St} {d t : Nat} {a : AV} (h : t ≠ d) : (σ.put d a).slot t = σ.slot t := by
  simp [St.slot, St.put, List.getD_eq_getElem?_getD, List.getElem?_set_ne (Ne.symm h)]
theorem St.slot_put_eq {σ : St} {d : Nat} {a : AV} (h : d < σ.length) : (σ.put d a).slot d = ⟨(σ.slot d).g + 1, 0, a⟩ := by
  simp [St.slot, St.put, List.getD_eq_getElem?_getD, h]
theorem St.put_big {σ : St} {d : Nat} {a : AV} (h : ¬ d < σ.length) : σ.put d a = σ := by
  simp only [St.put]; exact List.set_eq_of_length_le (by omega)
theorem St.slot_turn_ne {σ : St} {d t : Nat} {a : AV} (h : t ≠ d) : (σ.turn d a).slot t = σ.slot t := by
  simp [St.slot, St.turn, List.getD_eq_getElem?_getD, List.getElem?_set_ne (Ne.symm h)]
theorem St.slot_turn_eq {σ : St} {d : Nat} {a : AV} (h : d < σ.length) : (σ.turn d a).slot d = ⟨(σ.slot d).g, (σ.slot d).v + 1, a⟩ := by
  simp [St.slot, St.turn, List.getD_eq_getElem?_getD, h]
theorem St.turn_big {σ : St} {d : Nat} {a : AV} (h : ¬ d < σ.length) : σ.turn d a = σ := by
  simp only [St.turn]; exact List.set_eq_of_length_le (by omega)
theorem St.put_length (σ : St) (d : Nat) (a : AV) : (σ.put d a).length = σ.length := by simp [St.put]
theorem St.turn_length (σ : St) (d : Nat) (a : AV) : (σ.turn d a).length = σ.length := by simp [St.turn]

/-- a box's own cells: turned at will, or never -/
def BxI (r : Option Tmp) (n z : Nat) : Prop := match r with
  | none => z = 0
  | some _ => n ≤ z
def Own (ξ : Im) (w : World) : AV → Value → Bs → Prop
  | .d τ x f, v, T => ∃ cs, v = mkV τ cs ∧ Rel ξ w τ f x cs T
  | .box τ x f r, v, T => ∃ b c t fz, ∃ T' : Bs, v = .pointer (some ⟨b, 0, none⟩) ∧ T b ∧ w.heap[b]? = some (.cells c t fz) ∧ (∀ o, o < c.size → ¬(fz.1 ≤ o ∧ o < fz.2)) ∧ BxI r c.size (ξ b) ∧ Sb T' T ∧ ¬ T' b ∧ Rel ξ w τ f x c.toList T'
  | .un, v, _ => v = undef
  | .fn f, v, _ => v = .func (.func f) #[] #[]
  | .rp τ x none, v, _ => ∃ b o cs, v = .pointer (some ⟨b, o, none⟩) ∧ cs.length = τ.n ∧ CAt w b o cs ∧ o + τ.n ≤ ξ b ∧ Rel ξ w τ .ro x cs Em
  | _, _, _ => True
def SOwn (ξ : Im) (w : World) : AV → Value → Bs → Prop
  | .tup l, v, T => ∃ vs : Array Value, ∃ Te : Nat → Bs, v = .tuple vs ∧ vs.size = l.length ∧ (∀ i, Sb (Te i) T) ∧ (∀ i j, i ≠ j → Dj (Te i) (Te j)) ∧ ∀ i a, l[i]? = some a → Own ξ w a (vs.getD i undef) (Te i)
  | a, v, T => Own ξ w a v T
/-- the part at path q (fields only) of what stands in a slot: its cells are cs, it is x -/
def Part (w : World) : AV → Value → Path → (τ : Ty) → τ.T → List Value → Prop
  | .d τ0 x0 _, v, q, τ, x, cs => ∃ cs0 c1 c3, v = mkV τ0 cs0 ∧ cs0.length = τ0.n ∧ getP τ0 x0 q = some ⟨τ, x⟩ ∧ cs0 = c1 ++ (cs ++ c3) ∧ c1.length = offP τ0 q ∧ cs.length = τ.n ∧ q.fields = true
  | .box τ0 x0 _ _, v, q, τ, x, cs => ∃ b c t fz c1 c3, v = .pointer (some ⟨b, 0, none⟩) ∧ w.heap[b]? = some (.cells c t fz) ∧ getP τ0 x0 q = some ⟨τ, x⟩ ∧ c.toList = c1 ++ (cs ++ c3) ∧ c1.length = offP τ0 q ∧ cs.length = τ.n ∧ q.fields = true
  | _, _, _, _, _, _ => False
/-- path p leads from what stands in a slot to the place (b, o) -/
def Ptr (w : World) : AV → Value → Path → Nat → Nat → Prop
  | .d τ0 x0 f0, v, p, b, o => ∃ cs0, v = mkV τ0 cs0 ∧ cs0.length = τ0.n ∧ p.fields = false ∧ ownP f0 p = true ∧ Loc w τ0 cs0 p b o
  | .box τ0 x0 f0 _, v, p, b, o => ∃ b0 c t fz, v = .pointer (some ⟨b0, 0, none⟩) ∧ (p.fields = true → b = b0 ∧ o = offP τ0 p) ∧ (p.fields = false → w.heap[b0]? = some (.cells c t fz) ∧ ownP f0 p = true ∧ Loc w τ0 c.toList p b o)
  | _, _, _, _, _ => False
def Past (σ : St) (h g v : Nat) : Prop := g ≤ (σ.slot h).g ∧ (g = (σ.slot h).g → v ≤ (σ.slot h).v)
def Lent (ξ : Im) (w : World) (σ : St) (tm : Array Value) (tk : Nat → Bs) : AV → Value → Prop
  | .vw τ x h p g v, u => Past σ h g v ∧ (σ.valid h g v = true → ∃ cs f, ∃ T' : Bs, u = mkV τ cs ∧ Sb T' (tk h) ∧ f.ok τ = true ∧ Rel ξ w τ f x cs T' ∧ ∀ q, p = some q → Part w (σ.av h) (tm.getD h undef) q τ x cs)
  | .ref h p g v, u => Past σ h g v ∧ (refOk σ h p g v = true → ∃ b o, u = .pointer (some ⟨b, o, none⟩) ∧ Ptr w (σ.av h) (tm.getD h undef) p b o)
  | .rp τ x (some (h, g, v)), u => Past σ h g v ∧ (σ.valid h g v = true → ∃ b o cs f, ∃ T' : Bs, u = .pointer (some ⟨b, o, none⟩) ∧ cs.length = τ.n ∧ CAt w b o cs ∧ (tk h b ∨ o + τ.n ≤ ξ b) ∧ Sb T' (tk h) ∧ f.ok τ = true ∧ Rel ξ w τ f x cs T')
  | _, _ => True

theorem Own.sub {ξ : Im} {w : World} {a : AV} {v : Value} {T T' : Bs} (h : Own ξ w a v T) (s : Sb T T') : Own ξ w a v T' := by
  cases a with
  | d τ x f => obtain ⟨cs, h1, h2⟩ := h; exact ⟨cs, h1, h2.sub s⟩
  | box τ x f r => obtain ⟨b, c, t, fz, T1, h1, h2, h3, h4, h5, h6, h7, h8⟩ := h; exact ⟨b, c, t, fz, T1, h1, s _ h2, h3, h4, h5, h6.trans s, h7, h8⟩
  | rp τ x o => cases o <;> exact h
  | _ => exact h
theorem SOwn.sub {ξ : Im} {w : World} {a : AV} {v : Value} {T T' : Bs} (h : SOwn ξ w a v T) (s : Sb T T') : SOwn ξ w a v T' := by
  cases a with
  | tup l => obtain ⟨vs, Te, h1, h0, h2, h3, h4⟩ := h; exact ⟨vs, Te, h1, h0, fun i => (h2 i).trans s, h3, h4⟩
  | d τ x f => exact Own.sub (a := .d τ x f) h s
  | box τ x f r => exact Own.sub (a := .box τ x f r) h s
  | rp τ x o => exact Own.sub (a := .rp τ x o) h s
  | _ => exact h
theorem Own.keep {ξ ξ' : Im} {w w' : World} {a : AV} {v : Value} {T : Bs} (h : Own ξ w a v T) (k : Keep T ξ w ξ' w') : Own ξ' w' a v T := by
  cases a with
  | d τ x f => obtain ⟨cs, h1, h2⟩ := h; exact ⟨cs, h1, h2.keep k⟩
  | box τ x f r =>
    obtain ⟨b, c, t, fz, T1, h1, h2, h3, h4, h5, h6, h7, h8⟩ := h
    exact ⟨b, c, t, fz, T1, h1, h2, (k.blk _ h2).1.trans h3, h4, by rw [(k.blk _ h2).2]; exact h5, h6, h7, h8.keep (k.sub h6)⟩
  | rp τ x o =>
    cases o with
    | none => obtain ⟨b, o, cs, h1, h2, h3, h4, h5⟩ := h; exact ⟨b, o, cs, h1, h2, h3.imm k (by omega), Nat.le_trans h4 (k.up _), h5.keep (k.sub (Sb.em _))⟩
    | some _ => exact h
  | _ => exact h
theorem SOwn.keep {ξ ξ' : Im} {w w' : World} {a : AV} {v : Value} {T : Bs} (h : SOwn ξ w a v T) (k : Keep T ξ w ξ' w') : SOwn ξ' w' a v T := by
  cases a with
  | tup l => obtain ⟨vs, Te, h1, h0, h2, h3, h4⟩ := h; exact ⟨vs, Te, h1, h0, h2, h3, fun i a ha => (h4 i a ha).keep (k.sub (h2 i))⟩
  | d τ x f => exact Own.keep (a := .d τ x f) h k
  | box τ x f r => exact Own.keep (a := .box τ x f r) h k
  | rp τ x o => exact Own.keep (a := .rp τ x o) h k
  | _ => exact h
theorem Loc.keep {ξ ξ' : Im} {w w' : World} : {τ : Ty} → {f : Fl} → {x : τ.T} → {cs : List Value} → {T : Bs} → {p : Path} → {b o : Nat} →
    Rel ξ w τ f x cs T → ownP f p = true → Loc w τ cs p b o → Keep T ξ w ξ' w' → Loc w' τ cs p b o
  | .int _, f, x, cs, T, p, b, o, h, ho, hl, k => hl.elim
  | .bool, f, x, cs, T, p, b, o, h, ho, hl, k => hl.elim
  | .str, f, x, cs, T, p, b, o, h, ho, hl, k => hl.elim
  | .row e, f, x, cs, T, p, b, o, h, ho, hl, k => by
    cases p with
    | nil => exact hl.elim
    | cons q p =>
      cases q with
      | fst => exact hl.elim
      | snd => exact hl.elim
      | idx i =>
        cases f with
        | gone => simp [ownP] at ho
        | pr _ _ => exact h.elim
        | ro => simp [ownP] at ho
        | own g =>
          obtain ⟨a', len, cap', hc, hsp, hi, hl⟩ := hl
          refine ⟨a', len, cap', hc, hsp, hi, hl.imp id ?_⟩
          rintro ⟨hf, c'', h15, h16, h17⟩
          rcases h with ⟨_, h⟩ | ⟨a, cap, c, t, fz, Te, h1, h2, h3, h4, h5, h6, h7, h8, h9, h10, h11⟩
          · rw [h] at hc; simp at hc
          · rw [h1] at hc
            simp only [List.cons.injEq, Value.slice.injEq, Option.some.injEq, and_true] at hc
            obtain ⟨rfl, rfl, rfl⟩ := hc
            obtain ⟨ci, h12, h13, h14⟩ := h11 i hi
            obtain rfl := h13.eq h16 (by omega)
            exact ⟨hf, ci, h15, h16.keep k h3, Loc.keep h14 (by simpa [ownP] using ho) h17 (k.sub (h9 i).1)⟩
  | .pair a b, f, x, cs, T, p, bl, o, h, ho, hl, k => by
    cases p with
    | nil => exact hl.elim
    | cons q p =>
      obtain ⟨c1, c2, T1, T2, hc, hn, s1, s2, d, h1, h2⟩ := h
      cases q with
      | fst =>
        simp only [Loc, hc, List.take_left' hn] at hl ⊢
        exact Loc.keep h1 ho hl (k.sub s1)
      | snd =>
        simp only [Loc, hc, List.drop_left' hn] at hl ⊢
        exact Loc.keep h2 ho hl (k.sub s2)
      | idx i => exact hl.elim
  | .st a, f, x, cs, T, p, b, o, h, ho, hl, k => by
    cases p with
    | nil => exact (hl.1 rfl).elim
    | cons q p => exact ⟨hl.1, Loc.keep (τ := a) h ho hl.2 k⟩
theorem mkV_inj {τ : Ty} {a b : List Value} (ha : a.length = τ.n) (hb : b.length = τ.n) (h : mkV τ a = mkV τ b) : a = b := by
  have one : ∀ (a b : List Value), a.length = 1 → b.length = 1 → a.headD undef = b.headD undef → a = b := by
    intro a b ha hb h
    match a, b, ha, hb with
    | [x], [y], _, _ => simp at h; rw [h]
  cases τ with
  | int k => exact one _ _ ha hb h
  | bool => exact one _ _ ha hb h
  | str => exact one _ _ ha hb h
  | row e => exact one _ _ ha hb h
  | pair _ _ => simpa [mkV] using h
  | st _ => simpa [mkV] using h
theorem Part.keep {ξ ξ' : Im} {w w' : World} {a : AV} {u : Value} {T : Bs} {q : Path} {τ : Ty} {x : τ.T} {cs : List Value} (h : Part w a u q τ x cs) (ho : SOwn ξ w a u T) (k : Keep T ξ w ξ' w') : Part w' a u q τ x cs := by
  cases a with
  | d τ0 x0 f0 => exact h
  | box τ0 x0 f0 r =>
    obtain ⟨b, c, t, fz, c1, c3, h1, h2, h3⟩ := h
    obtain ⟨b', _, _, _, _, h1', h2', _⟩ := ho
    rw [h1] at h1'
    simp only [Value.pointer.injEq, Option.some.injEq, Addr.mk.injEq, and_true] at h1'
    subst h1'
    exact ⟨b, c, t, fz, c1, c3, h1, (k.blk _ h2').1.trans h2, h3⟩
  | _ => exact h.elim
theorem Ptr.keep {ξ ξ' : Im} {w w' : World} {a : AV} {u : Value} {T : Bs} {p : Path} {b o : Nat} (h : Ptr w a u p b o) (ho : SOwn ξ w a u T) (k : Keep T ξ w ξ' w') : Ptr w' a u p b o := by
  cases a with
  | d τ0 x0 f0 =>
    obtain ⟨cs0, h1, h2, h3, h4, h5⟩ := h
    obtain ⟨cs, h6, h7⟩ := ho
    obtain rfl := mkV_inj h2 h7.len (h1.symm.trans h6)
    exact ⟨cs0, h1, h2, h3, h4, h5.keep h7 h4 k⟩
  | box τ0 x0 f0 r =>
    obtain ⟨b0, c, t, fz, h1, h2, h3⟩ := h
    refine ⟨b0, c, t, fz, h1, h2, fun hp => ?_⟩
    obtain ⟨h4, h5, h6⟩ := h3 hp
    obtain ⟨b', c', t', fz', T', h1', h2', h3', _, _, h7', _, h8'⟩ := ho
    rw [h1] at h1'
    simp only [Value.pointer.injEq, Option.some.injEq, Addr.mk.injEq, and_true] at h1'
    subst h1'
    rw [h4] at h3'
    simp only [Option.some.injEq, Obj.cells.injEq] at h3'
    obtain ⟨rfl, rfl, rfl⟩ := h3'
    exact ⟨(k.blk _ h2').1.trans h4, h5, h6.keep h8' h5 (k.sub h7')⟩
  | _ => exact h.elim

/-- what a world comes to that may touch the blocks of T0 only -/
structure Fr (T0 : Bs) (ξ0 : Im) (w0 : World) (ξ : Im) (w : World) : Prop where
  os : w.os = w0.os
  tape : w.tape = w0.tape
  output : w.output = w0.output
  size : w0.heap.size ≤ w.heap.size
  blk : ∀ b, b < w0.heap.size → ¬ T0 b → w.heap[b]? = w0.heap[b]? ∧ ξ b = ξ0 b
  imm : ∀ b o v, o < ξ0 b → w0.cell? ⟨b, o, none⟩ = some v → w.cell? ⟨b, o, none⟩ = some v
  up : ∀ b, b < w0.heap.size → ξ0 b ≤ ξ b
theorem cell_lt {w : World} {b o : Nat} {v : Value} (h : w.cell? ⟨b, o, none⟩ = some v) : b < w.heap.size := by
  cases hh : w.heap[b]? with
  | none => simp [World.cell?, hh] at h
  | some _ => exact (Array.getElem?_eq_some_iff.1 hh).1
theorem Fr.refl (T : Bs) (ξ : Im) (w : World) : Fr T ξ w ξ w := ⟨rfl, rfl, rfl, Nat.le_refl _, fun _ _ _ => ⟨rfl, rfl⟩, fun _ _ _ _ h => h, fun _ _ => Nat.le_refl _⟩
theorem Fr.trans {T0 U : Bs} {ξ0 ξ ξ' : Im} {w0 w w' : World} (h : Fr T0 ξ0 w0 ξ w) (k : Fr U ξ w ξ' w') (hu : ∀ b, U b → T0 b ∨ w0.heap.size ≤ b) : Fr T0 ξ0 w0 ξ' w' :=
  ⟨k.os.trans h.os, k.tape.trans h.tape, k.output.trans h.output, Nat.le_trans h.size k.size,
   fun b hb hT => by
    obtain ⟨h1, h2⟩ := h.blk b hb hT
    obtain ⟨k1, k2⟩ := k.blk b (Nat.lt_of_lt_of_le hb h.size) (fun hU => (hu b hU).elim hT (by omega))
    exact ⟨k1.trans h1, k2.trans h2⟩,
   fun b o v ho hv => k.imm b o v (Nat.lt_of_lt_of_le ho (h.up b (cell_lt hv))) (h.imm b o v ho hv),
   fun b hb => Nat.le_trans (h.up b hb) (k.up b (Nat.lt_of_lt_of_le hb h.size))⟩
def Wf (ξ : Im) (w : World) : Prop := ∀ b, w.heap.size ≤ b → ξ b = 0
theorem Fr.keep {U T : Bs} {ξ ξ' : Im} {w w' : World} (h : Fr U ξ w ξ' w') (wf : Wf ξ w) (ht : ∀ b, T b → b < w.heap.size) (hd : Dj T U) : Keep T ξ w ξ' w' :=
  ⟨fun b hb => h.blk b (ht b hb) (fun hu => hd b hb hu), h.imm, fun b => by
    by_cases hb : b < w.heap.size
    · exact h.up b hb
    · rw [wf b (by omega)]; exact Nat.zero_le _⟩

/-- tokens a call may have: given, or of blocks made since -/
def May (T0 : Bs) (w0 w : World) (b : Nat) : Prop := (T0 b ∨ w0.heap.size ≤ b) ∧ b < w.heap.size
structure SA (T0 : Bs) (ξ0 : Im) (w0 : World) (tk : Nat → Bs) (Tf : Bs) (ξ : Im) (w : World) (σ : St) (tm : Array Value) : Prop where
  fr : Fr T0 ξ0 w0 ξ w
  wf : Wf ξ w
  sz : tm.size = σ.length
  may : ∀ t b, tk t b → May T0 w0 w b
  mayf : ∀ b, Tf b → May T0 w0 w b
  dj : ∀ t u, t ≠ u → Dj (tk t) (tk u)
  djf : ∀ t, Dj (tk t) Tf
  own : ∀ t, SOwn ξ w (σ.av t) (tm.getD t undef) (tk t)
  lent : ∀ t, Lent ξ w σ tm tk (σ.av t) (tm.getD t undef)
section
variable {T0 : Bs} {ξ0 : Im} {w0 : World} {tk : Nat → Bs} {Tf : Bs} {ξ : Im} {w : World} {σ : St} {tm : Array Value}
theorem Lent.keep {ξ' : Im} {w' : World} (own : ∀ t, SOwn ξ w (σ.av t) (tm.getD t undef) (tk t)) (k : ∀ t, Keep (tk t) ξ w ξ' w') {a : AV} {u : Value} (h : Lent ξ w σ tm tk a u) : Lent ξ' w' σ tm tk a u := by
  cases a with
  | vw τ x h0 p g v =>
    refine ⟨h.1, fun hv => ?_⟩
    obtain ⟨cs, f, T', h1, h2, h3, h4, h5⟩ := h.2 hv
    exact ⟨cs, f, T', h1, h2, h3, h4.keep ((k h0).sub h2), fun q hq => (h5 q hq).keep (own h0) (k h0)⟩
  | ref h0 p g v =>
    refine ⟨h.1, fun hv => ?_⟩
    obtain ⟨b, o, h1, h2⟩ := h.2 hv
    exact ⟨b, o, h1, h2.keep (own h0) (k h0)⟩
  | rp τ x o =>
    cases o with
    | none => trivial
    | some q =>
      obtain ⟨h0, g, v⟩ := q
      refine ⟨h.1, fun hv => ?_⟩
      obtain ⟨b, o, cs, f, T', h1, h2, h3, h4, h5, h6, h7⟩ := h.2 hv
      exact ⟨b, o, cs, f, T', h1, h2, h4.elim (h3.keep (k h0)) (fun z => h3.imm (k h0) (by omega)), h4.imp id (fun z => Nat.le_trans z ((k h0).up _)), h5, h6, h7.keep ((k h0).sub h5)⟩
  | _ => trivial
/-- the world goes on; what floats may turn -/
theorem SA.step {U Tf' : Bs} {ξ' : Im} {w' : World} (h : SA T0 ξ0 w0 tk Tf ξ w σ tm) (f : Fr U ξ w ξ' w') (hU : Sb U Tf) (wf' : Wf ξ' w') (hT : ∀ b, Tf' b → (Tf b ∨ w.heap.size ≤ b) ∧ b < w'.heap.size) :
    SA T0 ξ0 w0 tk Tf' ξ' w' σ tm := by
  have K : ∀ t, Keep (tk t) ξ w ξ' w' := fun t => f.keep h.wf (fun b hb => (h.may t b hb).2) ((h.djf t).sub (Sb.refl _) hU)
  refine ⟨h.fr.trans f fun b hb => (h.mayf b (hU b hb)).1, wf', h.sz, fun t b hb => ⟨(h.may t b hb).1, Nat.lt_of_lt_of_le (h.may t b hb).2 f.size⟩, fun b hb => ?_, h.dj, fun t b h1 h2 => ?_, fun t => (h.own t).keep (K t), fun t => Lent.keep h.own K (h.lent t)⟩
  · obtain ⟨h1, h2⟩ := hT b hb
    refine ⟨h1.elim (fun x => (h.mayf b x).1) fun x => .inr (Nat.le_trans h.fr.size x), h2⟩
  · obtain ⟨h3, _⟩ := hT b h2
    rcases h3 with h3 | h3
    · exact h.djf t b h1 h3
    · have := (h.may t b h1).2; omega
theorem SA.drop {Tf' : Bs} (h : SA T0 ξ0 w0 tk Tf ξ w σ tm) (s : Sb Tf' Tf) : SA T0 ξ0 w0 tk Tf' ξ w σ tm :=
  { h with mayf := fun b hb => h.mayf b (s b hb), djf := fun t => (h.djf t).sub (Sb.refl _) s }
def upd (tk : Nat → Bs) (d : Nat) (T : Bs) : Nat → Bs := fun t => if t = d then T else tk t
theorem upd_eq (tk : Nat → Bs) (d : Nat) (T : Bs) : upd tk d T d = T := by simp [upd]
theorem upd_ne {tk : Nat → Bs} {d t : Nat} {T : Bs} (h : t ≠ d) : upd tk d T t = tk t := by simp [upd, h]
theorem Past.put {d h g v : Nat} {a : AV} (k : Past σ h g v) : Past (σ.put d a) h g v := by
  by_cases hd : d < σ.length
  · by_cases e : h = d
    · subst e
      unfold Past
      rw [St.slot_put_eq hd]
      exact ⟨by have := k.1; simp only; omega, fun e' => by have := k.1; simp only at e'; omega⟩
    · unfold Past; rw [St.slot_put_ne e]; exact k
  · rw [St.put_big hd]; exact k
theorem Past.turn {d h g v : Nat} {a : AV} (k : Past σ h g v) : Past (σ.turn d a) h g v := by
  by_cases hd : d < σ.length
  · by_cases e : h = d
    · subst e
      unfold Past
      rw [St.slot_turn_eq hd]
      exact ⟨k.1, fun e' => Nat.le_succ_of_le (k.2 e')⟩
    · unfold Past; rw [St.slot_turn_ne e]; exact k
  · rw [St.turn_big hd]; exact k
theorem Lent.put {d : Nat} {a a' : AV} {u : Value} {tm' : Array Value} {T : Bs} (hd : d < σ.length) (htm : ∀ t, t ≠ d → tm'.getD t undef = tm.getD t undef) (h : Lent ξ w σ tm tk a u) : Lent ξ w (σ.put d a') tm' (upd tk d T) a u := by
  have key : ∀ h0 g v, Past σ h0 g v → h0 = d → ((σ.put d a').slot h0).g ≠ g := by
    intro h0 g v k e
    subst e
    rw [St.slot_put_eq hd]
    have := k.1
    simp only
    omega
  cases a with
  | vw τ x h0 p g v =>
    refine ⟨h.1.put, fun hv => ?_⟩
    by_cases e : h0 = d
    · exact absurd (by simp [St.valid] at hv; exact hv.1) (key h0 g v h.1 e)
    · have hv' : σ.valid h0 g v = true := by simpa [St.valid, St.slot_put_ne e] using hv
      obtain ⟨cs, f, T', h1, h2, h3, h4, h5⟩ := h.2 hv'
      refine ⟨cs, f, T', h1, by rw [upd_ne e]; exact h2, h3, h4, fun q hq => ?_⟩
      have := h5 q hq
      rwa [St.av, St.slot_put_ne e, htm _ e]
  | ref h0 p g v =>
    refine ⟨h.1.put, fun hv => ?_⟩
    by_cases e : h0 = d
    · exact absurd (by simp [refOk] at hv; exact hv.1) (key h0 g v h.1 e)
    · have hv' : refOk σ h0 p g v = true := by simpa [refOk, St.slot_put_ne e] using hv
      obtain ⟨b, o, h1, h2⟩ := h.2 hv'
      refine ⟨b, o, h1, ?_⟩
      rwa [St.av, St.slot_put_ne e, htm _ e]
  | rp τ x o =>
    cases o with
    | none => trivial
    | some q =>
      obtain ⟨h0, g, v⟩ := q
      refine ⟨h.1.put, fun hv => ?_⟩
      by_cases e : h0 = d
      · exact absurd (by simp [St.valid] at hv; exact hv.1) (key h0 g v h.1 e)
      · have hv' : σ.valid h0 g v = true := by simpa [St.valid, St.slot_put_ne e] using hv
        have := h.2 hv'
        rwa [upd_ne e]
  | _ => trivial
/-- a slot gets something new -/
theorem SA.put {d : Nat} {a : AV} {T' Tf' : Bs} {tm' : Array Value} (h : SA T0 ξ0 w0 tk Tf ξ w σ tm) (hsz : tm'.size = tm.size) (htm : ∀ t, t ≠ d → tm'.getD t undef = tm.getD t undef)
    (ho : SOwn ξ w a (tm'.getD d undef) T') (hl : Lent ξ w σ tm tk a (tm'.getD d undef)) (sT : Sb T' (Un Tf (tk d))) (sF : Sb Tf' (Un Tf (tk d))) (dd : Dj T' Tf') (hd : d < σ.length) :
    SA T0 ξ0 w0 (upd tk d T') Tf' ξ w (σ.put d a) tm' := by
  have far : ∀ t, t ≠ d → Dj (tk t) (Un Tf (tk d)) := fun t ht => Dj.symm (Dj.un (Dj.symm (h.djf t)) (h.dj d t (Ne.symm ht)))
  refine ⟨h.fr, h.wf, by rw [hsz, h.sz, St.put_length], fun t b hb => ?_, fun b hb => (sF b hb).elim (h.mayf b) (h.may d b), fun t u htu => ?_, fun t => ?_, fun t => ?_, fun t => ?_⟩
  · by_cases e : t = d
    · subst e; rw [upd_eq] at hb; exact (sT b hb).elim (h.mayf b) (h.may t b)
    · rw [upd_ne e] at hb; exact h.may t b hb
  · by_cases e : t = d
    · subst e; rw [upd_eq, upd_ne (Ne.symm htu)]; exact Dj.symm ((far u (Ne.symm htu)).sub (Sb.refl _) sT)
    · by_cases e' : u = d
      · subst e'; rw [upd_eq, upd_ne e]; exact (far t e).sub (Sb.refl _) sT
      · rw [upd_ne e, upd_ne e']; exact h.dj t u htu
  · by_cases e : t = d
    · subst e; rw [upd_eq]; exact dd
    · rw [upd_ne e]; exact (far t e).sub (Sb.refl _) sF
  · by_cases e : t = d
    · subst e; rw [upd_eq, St.av, St.slot_put_eq hd]; exact ho
    · rw [upd_ne e, St.av, St.slot_put_ne e, htm t e]; exact h.own t
  · by_cases e : t = d
    · subst e; rw [St.av, St.slot_put_eq hd]; exact hl.put hd htm
    · rw [St.av, St.slot_put_ne e, htm t e]; exact (h.lent t).put hd htm
/-- pointers into a slot's box stay where they were -/
def Like (a a' : AV) : Prop := match a with
  | .box τ _ _ _ => ∃ x f r, a' = .box τ x f r
  | _ => True
theorem Lent.turn {d : Nat} {a a' : AV} {u : Value} {T : Bs} (hd : d < σ.length) (hk : Like (σ.av d) a') (h : Lent ξ w σ tm tk a u) : Lent ξ w (σ.turn d a') tm (upd tk d T) a u := by
  have key : ∀ h0 g v, Past σ h0 g v → h0 = d → ¬ (((σ.turn d a').slot h0).g = g ∧ ((σ.turn d a').slot h0).v = v) := by
    intro h0 g v k e
    subst e
    rw [St.slot_turn_eq hd]
    rintro ⟨h1, h2⟩
    have := k.2 h1.symm
    simp only at h2
    omega
  cases a with
  | vw τ x h0 p g v =>
    refine ⟨h.1.turn, fun hv => ?_⟩
    by_cases e : h0 = d
    · exact absurd (by simpa [St.valid] using hv) (key h0 g v h.1 e)
    · have hv' : σ.valid h0 g v = true := by simpa [St.valid, St.slot_turn_ne e] using hv
      obtain ⟨cs, f, T', h1, h2, h3, h4, h5⟩ := h.2 hv'
      refine ⟨cs, f, T', h1, by rw [upd_ne e]; exact h2, h3, h4, fun q hq => ?_⟩
      have := h5 q hq
      rwa [St.av, St.slot_turn_ne e]
  | ref h0 p g v =>
    refine ⟨h.1.turn, fun hv => ?_⟩
    by_cases e : h0 = d
    · subst e
      simp only [refOk, Bool.and_eq_true, beq_iff_eq, Bool.or_eq_true] at hv
      have hf : p.fields = true := by
        rcases hv.2 with h' | h'
        · exact h'
        · exact absurd ⟨hv.1, h'⟩ (key h0 g v h.1 rfl)
      have hg : (σ.slot h0).g = g := by have := hv.1; rw [St.slot_turn_eq hd] at this; exact this
      obtain ⟨b, o, h1, h2⟩ := h.2 (by simp [refOk, hf, hg])
      refine ⟨b, o, h1, ?_⟩
      rw [St.av, St.slot_turn_eq hd]
      cases ha : σ.av h0 with
      | box τ x f r =>
        rw [ha] at h2 hk
        obtain ⟨x', f', r', rfl⟩ := hk
        obtain ⟨b0, c, t, fz, k1, k2, k3⟩ := h2
        exact ⟨b0, c, t, fz, k1, k2, fun k => absurd hf (by simp [k])⟩
      | d τ x f => rw [ha] at h2; obtain ⟨_, _, _, k, _⟩ := h2; simp [hf] at k
      | _ => rw [ha] at h2; exact h2.elim
    · have hv' : refOk σ h0 p g v = true := by simpa [refOk, St.slot_turn_ne e] using hv
      obtain ⟨b, o, h1, h2⟩ := h.2 hv'
      refine ⟨b, o, h1, ?_⟩
      rwa [St.av, St.slot_turn_ne e]
  | rp τ x o =>
    cases o with
    | none => trivial
    | some q =>
      obtain ⟨h0, g, v⟩ := q
      refine ⟨h.1.turn, fun hv => ?_⟩
      by_cases e : h0 = d
      · exact absurd (by simpa [St.valid] using hv) (key h0 g v h.1 e)
      · have hv' : σ.valid h0 g v = true := by simpa [St.valid, St.slot_turn_ne e] using hv
        have := h.2 hv'
        rwa [upd_ne e]
  | _ => trivial
/-- what a slot holds turns in itself; the world may go on beside -/
theorem SA.turn {d : Nat} {a : AV} {U T' Tf' : Bs} {ξ' : Im} {w' : World} (h : SA T0 ξ0 w0 tk Tf ξ w σ tm) (f : Fr U ξ w ξ' w') (hU : Sb U (Un Tf (tk d))) (wf' : Wf ξ' w') (hk : Like (σ.av d) a)
    (ho : SOwn ξ' w' a (tm.getD d undef) T') (hnl : ∀ u, Lent ξ' w' (σ.turn d a) tm (upd tk d T') a u) (sT : ∀ b, T' b → (Un Tf (tk d) b ∨ w.heap.size ≤ b) ∧ b < w'.heap.size) (sF : ∀ b, Tf' b → (Un Tf (tk d) b ∨ w.heap.size ≤ b) ∧ b < w'.heap.size) (dd : Dj T' Tf') (hd : d < σ.length) :
    SA T0 ξ0 w0 (upd tk d T') Tf' ξ' w' (σ.turn d a) tm := by
  have far : ∀ t, t ≠ d → Dj (tk t) (Un Tf (tk d)) := fun t ht => Dj.symm (Dj.un (Dj.symm (h.djf t)) (h.dj d t (Ne.symm ht)))
  have K : ∀ t, t ≠ d → Keep (tk t) ξ w ξ' w' := fun t ht => f.keep h.wf (fun b hb => (h.may t b hb).2) ((far t ht).sub (Sb.refl _) hU)
  have both : ∀ b, Un Tf (tk d) b → May T0 w0 w b := fun b hb => hb.elim (h.mayf b) (h.may d b)
  have far' : ∀ t, t ≠ d → Dj (tk t) T' := fun t ht b h1 h2 => by
    rcases (sT b h2).1 with h3 | h3
    · exact far t ht b h1 h3
    · have := (h.may t b h1).2; omega
  have farF : ∀ t, t ≠ d → Dj (tk t) Tf' := fun t ht b h1 h2 => by
    rcases (sF b h2).1 with h3 | h3
    · exact far t ht b h1 h3
    · have := (h.may t b h1).2; omega
  have own' : ∀ t, SOwn ξ' w' ((σ.turn d a).av t) (tm.getD t undef) (upd tk d T' t) := by
    intro t
    by_cases e : t = d
    · subst e; rw [upd_eq, St.av, St.slot_turn_eq hd]; exact ho
    · rw [upd_ne e, St.av, St.slot_turn_ne e]; exact (h.own t).keep (K t e)
  refine ⟨h.fr.trans f fun b hb => (both b (hU b hb)).1, wf', by rw [h.sz, St.turn_length], fun t b hb => ?_, fun b hb => ⟨(sF b hb).1.elim (fun x => (both b x).1) fun x => .inr (Nat.le_trans h.fr.size x), (sF b hb).2⟩, fun t u htu => ?_, fun t => ?_, own', fun t => ?_⟩
  · by_cases e : t = d
    · subst e; rw [upd_eq] at hb
      exact ⟨(sT b hb).1.elim (fun x => (both b x).1) fun x => .inr (Nat.le_trans h.fr.size x), (sT b hb).2⟩
    · rw [upd_ne e] at hb; exact ⟨(h.may t b hb).1, Nat.lt_of_lt_of_le (h.may t b hb).2 f.size⟩
  · by_cases e : t = d
    · subst e; rw [upd_eq, upd_ne (Ne.symm htu)]; exact Dj.symm (far' u (Ne.symm htu))
    · by_cases e' : u = d
      · subst e'; rw [upd_eq, upd_ne e]; exact far' t e
      · rw [upd_ne e, upd_ne e']; exact h.dj t u htu
  · by_cases e : t = d
    · subst e; rw [upd_eq]; exact dd
    · rw [upd_ne e]; exact farF t e
  · by_cases e : t = d
    · subst e; rw [St.av, St.slot_turn_eq hd]; exact hnl _
    · rw [St.av, St.slot_turn_ne e]
      -- first turned in the old world, then the world goes on where it is asked
      have l1 : Lent ξ w (σ.turn d a) tm (upd tk d T') (σ.av t) (tm.getD t undef) := (h.lent t).turn hd hk
      change Lent ξ' w' (σ.turn d a) tm (upd tk d T') (σ.av t) (tm.getD t undef)
      cases ha : σ.av t with
      | vw τ x h0 p g v =>
        rw [ha] at l1
        refine ⟨l1.1, fun hv => ?_⟩
        by_cases e' : h0 = d
        · subst e'
          have hp := h.lent t
          rw [ha] at hp
          have := hp.1.2
          simp only [St.valid, St.slot_turn_eq hd, Bool.and_eq_true, beq_iff_eq] at hv
          have := this hv.1.symm
          omega
        · obtain ⟨cs, f', T2, h1, h2, h3, h4, h5⟩ := l1.2 hv
          rw [upd_ne e'] at h2
          refine ⟨cs, f', T2, h1, by rw [upd_ne e']; exact h2, h3, h4.keep ((K h0 e').sub h2), fun q hq => ?_⟩
          have hp := h5 q hq
          rw [St.av, St.slot_turn_ne e'] at hp ⊢
          exact hp.keep (h.own h0) (K h0 e')
      | ref h0 p g v =>
        rw [ha] at l1
        refine ⟨l1.1, fun hv => ?_⟩
        obtain ⟨b, o, h1, h2⟩ := l1.2 hv
        refine ⟨b, o, h1, ?_⟩
        by_cases e' : h0 = d
        · subst e'
          have hf : p.fields = true := by
            simp only [refOk, Bool.and_eq_true, beq_iff_eq, Bool.or_eq_true] at hv
            rcases hv.2 with h' | h'
            · exact h'
            · have hp := h.lent t
              rw [ha] at hp
              have hv1 := hv.1
              rw [St.slot_turn_eq hd] at hv1 h'
              have := hp.1.2 hv1.symm
              simp only at h'
              omega
          rw [St.av, St.slot_turn_eq hd] at h2 ⊢
          simp only at h2 ⊢
          cases a with
          | box τ x f r => obtain ⟨b0, c, t, fz, k1, k2, k3⟩ := h2; exact ⟨b0, c, t, fz, k1, k2, fun k => absurd hf (by simp [k])⟩
          | d τ x f => obtain ⟨_, _, _, k, _⟩ := h2; simp [hf] at k
          | _ => exact h2.elim
        · rw [St.av, St.slot_turn_ne e'] at h2 ⊢
          exact h2.keep (h.own h0) (K h0 e')
      | rp τ x o =>
        rw [ha] at l1
        cases o with
        | none => trivial
        | some q =>
          obtain ⟨h0, g, v⟩ := q
          refine ⟨l1.1, fun hv => ?_⟩
          by_cases e' : h0 = d
          · subst e'
            have hp := h.lent t
            rw [ha] at hp
            have := hp.1.2
            simp only [St.valid, St.slot_turn_eq hd, Bool.and_eq_true, beq_iff_eq] at hv
            have := this hv.1.symm
            omega
          · obtain ⟨b, o, cs, f', T2, h1, h2, h3, h4, h5, h6, h7⟩ := l1.2 hv
            rw [upd_ne e'] at h4 h5
            exact ⟨b, o, cs, f', T2, h1, h2, h4.elim (h3.keep (K h0 e')) (fun z => h3.imm (K h0 e') (by omega)), by rw [upd_ne e']; exact h4.imp id (fun z => Nat.le_trans z ((K h0 e').up _)), by rw [upd_ne e']; exact h5, h6, h7.keep ((K h0 e').sub h5)⟩
      | _ => trivial
end
end Go.Proofs.Ytabindnaedchgaa.Rf
