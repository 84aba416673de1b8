/- Places in memory inside of a value's own rows: read and written. Nothing of any program. -/
import Derived.Test.YtabindnaedchgaaRf3
namespace Go.Proofs.Ytabindnaedchgaa.Rf
open Go Go.RowKit
set_option linter.unusedVariables false
set_option linter.unusedSimpArgs false

/-- path p (through one row at least) leads from the cells cs to the place (b, o) -/
def Loc (w : World) : Ty → List Value → Path → Nat → Nat → Prop
  | .pair a b, cs, p, bl, o => match p with
    | .fst :: p => Loc w a (cs.take a.n) p bl o
    | .snd :: p => Loc w b (cs.drop a.n) p bl o
    | _ => False
  | .st a, cs, p, bl, o => p ≠ [] ∧ Loc w a cs p bl o
  | .row e, cs, p, bl, o => match p with
    | .idx i :: p => ∃ a len cap, cs = [.slice (some a) len cap] ∧ a.spot = none ∧ i < len ∧
        ((Path.fields p = true ∧ bl = a.block ∧ o = a.off + i * e.n + offP e p) ∨ (Path.fields p = false ∧ ∃ c', c'.length = e.n ∧ CAt w a.block (a.off + i * e.n) c' ∧ Loc w e c' p bl o))
    | _ => False
  | _, _, _, _, _ => False
theorem CAt.eq {w : World} {b o : Nat} {c c' : List Value} (h : CAt w b o c) (h' : CAt w b o c') (hl : c.length = c'.length) : c = c' := by
  apply List.ext_getElem? 
  intro i
  by_cases hi : i < c.length
  · have h1 := h i _ (List.getElem?_eq_getElem hi)
    have hi' : i < c'.length := by omega
    have h2 := h' i _ (List.getElem?_eq_getElem hi')
    rw [List.getElem?_eq_getElem hi, List.getElem?_eq_getElem hi', ← h1, h2]
  · rw [List.getElem?_eq_none (by omega), List.getElem?_eq_none (by omega)]
theorem CAt.part {w : World} {b o : Nat} {c1 c2 c3 : List Value} (h : CAt w b o (c1 ++ (c2 ++ c3))) : CAt w b (o + c1.length) c2 := by
  intro i v hi
  have hl : i < c2.length := (List.getElem?_eq_some_iff.1 hi).1
  have := h (c1.length + i) v (by rw [List.getElem?_append_right (by omega), Nat.add_sub_cancel_left, List.getElem?_append_left hl]; exact hi)
  rwa [Nat.add_assoc]
theorem getD_of {α : Type} {l : List α} {i : Nat} {z : α} (h : i < l.length) : l.getD i z = l[i] := by
  simp [List.getD_eq_getElem?_getD, h]
theorem Rel.look {ξ : Im} {w : World} : {τ : Ty} → {f : Fl} → {x : τ.T} → {cs : List Value} → {T : Bs} → {p : Path} → {τ' : Ty} → {y : τ'.T} → {b o : Nat} →
    Rel ξ w τ f x cs T → Loc w τ cs p b o → ownP f p = true → getP τ x p = some ⟨τ', y⟩ →
    T b ∧ ξ b ≤ o ∧ (∃ c', c'.length = τ'.n ∧ CAt w b o c' ∧ Rel ξ w τ' (f.at p) y c' T) ∧ ∃ c t fz, w.heap[b]? = some (.cells c t fz) ∧ (∀ o, o < c.size → ¬(fz.1 ≤ o ∧ o < fz.2)) ∧ o + τ'.n ≤ c.size
  | .int k, f, x, cs, T, p, τ', y, b, o, h, hl, ho, hg => hl.elim
  | .bool, f, x, cs, T, p, τ', y, b, o, h, hl, ho, hg => hl.elim
  | .str, f, x, cs, T, p, τ', y, b, o, h, hl, ho, hg => hl.elim
  | .row e, f, x, cs, T, p, τ', y, b, o, h, hl, ho, hg => by
    cases p with
    | nil => exact hl.elim
    | cons q p =>
      cases q with
      | fst => exact hl.elim
      | snd => exact hl.elim
      | idx i =>
        cases f with
        | gone => simp [ownP] at ho
        | pr _ _ => exact h.elim
        | ro => simp [ownP] at ho
        | own g =>
          obtain ⟨a', len, cap', hc, hsp, hi, hl⟩ := hl
          rcases h with ⟨_, h⟩ | ⟨a, cap, c, t, fz, Te, h1, h2, h3, h4, h5, h6, h7, h8, h9, h10, h11⟩
          · rw [h] at hc; simp at hc
          · rw [h1] at hc
            simp only [List.cons.injEq, Value.slice.injEq, Option.some.injEq, and_true] at hc
            obtain ⟨rfl, rfl, rfl⟩ := hc
            obtain ⟨c', h12, h13, h14⟩ := h11 i hi
            simp only [getP, getD_of hi] at hg
            have hm : i * e.n + e.n ≤ cap * e.n := by
              have : (i + 1) * e.n ≤ cap * e.n := Nat.mul_le_mul_right _ (by omega)
              rwa [Nat.add_mul, Nat.one_mul] at this
            rcases hl with ⟨hf, rfl, rfl⟩ | ⟨hf, c'', h15, h16, h17⟩
            · obtain ⟨d1, d2, d3, e1, e2, e3⟩ := h14.get hf hg
              refine ⟨h3, by omega, ⟨d2, e3.len, ?_, ?_⟩, c, t, fz, h4, h5, ?_⟩
              · rw [e1] at h13; rw [← e2]; exact h13.part
              · exact e3.sub (h9 i).1
              · have : d1.length + (d2.length + d3.length) = e.n := by rw [← h12, e1]; simp
                have := e3.len
                omega
            · obtain rfl := h13.eq h16 (by omega)
              obtain ⟨r1, r2, ⟨c3, r3, r4, r5⟩, r6⟩ := Rel.look h14 h17 (by simpa [ownP] using ho) hg
              exact ⟨(h9 i).1 _ r1, r2, ⟨c3, r3, r4, r5.sub (h9 i).1⟩, r6⟩
  | .pair a b, f, x, cs, T, p, τ', y, bl, o, h, hl, ho, hg => by
    cases p with
    | nil => exact hl.elim
    | cons q p =>
      obtain ⟨c1, c2, T1, T2, hc, hn, s1, s2, d, h1, h2⟩ := h
      cases q with
      | fst =>
        simp only [Loc, hc, List.take_left' hn] at hl
        obtain ⟨r1, r2, ⟨c3, r3, r4, r5⟩, r6⟩ := Rel.look h1 hl ho hg
        exact ⟨s1 _ r1, r2, ⟨c3, r3, r4, r5.sub s1⟩, r6⟩
      | snd =>
        simp only [Loc, hc, List.drop_left' hn] at hl
        obtain ⟨r1, r2, ⟨c3, r3, r4, r5⟩, r6⟩ := Rel.look h2 hl ho hg
        exact ⟨s2 _ r1, r2, ⟨c3, r3, r4, r5.sub s2⟩, r6⟩
      | idx i => exact hl.elim
  | .st a, f, x, cs, T, p, τ', y, b, o, h, hl, ho, hg => by
    cases p with
    | nil => exact (hl.1 rfl).elim
    | cons q p => exact Rel.look (τ := a) h hl.2 ho hg

/-- cells written, and nothing else -/
structure Wr (w w' : World) (b o : Nat) (c' : List Value) : Prop where
  os : w'.os = w.os
  tape : w'.tape = w.tape
  output : w'.output = w.output
  size : w'.heap.size = w.heap.size
  oth : ∀ b', b' ≠ b → w'.heap[b']? = w.heap[b']?
  at_ : ∀ c t fz, w.heap[b]? = some (.cells c t fz) → ∃ c2, w'.heap[b]? = some (.cells c2 t fz) ∧ c2.size = c.size ∧ (∀ i v, c'[i]? = some v → c2[o + i]? = some v) ∧ ∀ i, (i < o ∨ o + c'.length ≤ i) → c2[i]? = c[i]?
theorem Wr.cell_oth {w w' : World} {b o : Nat} {c' : List Value} (h : Wr w w' b o c') {b' i : Nat} (hb : b' ≠ b ∨ i < o ∨ o + c'.length ≤ i) {v : Value} (hv : w.cell? ⟨b', i, none⟩ = some v) : w'.cell? ⟨b', i, none⟩ = some v := by
  by_cases e : b' = b
  · subst e
    cases hh : w.heap[b']? with
    | none => simp [World.cell?, hh] at hv
    | some ob =>
      cases ob with
      | cells c t fz =>
        obtain ⟨c2, r1, r2, r3, r4⟩ := h.at_ c t fz hh
        rw [cell_of r1, r4 i (hb.resolve_left (by simp)), ← cell_of hh, hv]
      | _ => simp [World.cell?, hh] at hv
  · rw [cell_eq (h.oth b' e), hv]
theorem Wr.keep {w w' : World} {b o : Nat} {c' : List Value} (h : Wr w w' b o c') {T : Bs} {ξ : Im} (hT : ¬ T b) (hx : ξ b ≤ o) : Keep T ξ w ξ w' :=
  ⟨fun b' hb => ⟨h.oth b' fun e => hT (e ▸ hb), rfl⟩, fun b' i v hi hv => h.cell_oth ((Decidable.em (b' = b)).elim (fun e => .inr (.inl (Nat.lt_of_lt_of_le (e ▸ hi) hx))) .inl) hv, fun _ => Nat.le_refl _⟩
theorem Wr.cat {w w' : World} {b o : Nat} {c' : List Value} (h : Wr w w' b o c') {c : Array Value} {t : TypeId} {fz : Nat × Nat} (hc : w.heap[b]? = some (.cells c t fz)) : CAt w' b o c' := by
  obtain ⟨c2, r1, r2, r3, r4⟩ := h.at_ c t fz hc
  exact fun i v hi => by rw [cell_of r1]; exact r3 i v hi
theorem Wr.cat_oth {w w' : World} {b o : Nat} {c' : List Value} (h : Wr w w' b o c') {b' o' : Nat} {cs : List Value} (hc : CAt w b' o' cs) (hb : b' ≠ b ∨ o' + cs.length ≤ o ∨ o + c'.length ≤ o') : CAt w' b' o' cs := by
  intro i v hi
  have hl : i < cs.length := (List.getElem?_eq_some_iff.1 hi).1
  exact h.cell_oth (by omega) (hc i v hi)
theorem Rel.put_at {ξ : Im} {w : World} : {τ : Ty} → {f : Fl} → {x : τ.T} → {cs : List Value} → {T : Bs} → {p : Path} → {s : Sv} → {z : τ.T} → Rel ξ w τ (f.put p (f.at p)) x cs T → p.fields = true → setP τ z p s = some x → Rel ξ w τ f x cs T
  | τ, f, x, cs, T, [], s, z, h, hp, hg => by rw [put_nil] at h; exact h
  | .pair a b, f, x, cs, T, .fst :: p, s, z, h, hp, hg => by
    obtain ⟨c1, c2, T1, T2, hc, hn, s1, s2, d, h1, h2⟩ := h
    simp only [setP] at hg
    split at hg
    · rename_i y1 hy1
      obtain rfl := Option.some.inj hg
      exact ⟨c1, c2, T1, T2, hc, hn, s1, s2, d, Rel.put_at h1 hp hy1, h2⟩
    · cases hg
  | .pair a b, f, x, cs, T, .snd :: p, s, z, h, hp, hg => by
    obtain ⟨c1, c2, T1, T2, hc, hn, s1, s2, d, h1, h2⟩ := h
    simp only [setP] at hg
    split at hg
    · rename_i y1 hy1
      obtain rfl := Option.some.inj hg
      exact ⟨c1, c2, T1, T2, hc, hn, s1, s2, d, h1, Rel.put_at h2 hp hy1⟩
    · cases hg
  | .st a, f, x, cs, T, q :: p, s, z, h, hp, hg => Rel.put_at (τ := a) (p := q :: p) h hp hg
  | _, f, x, cs, T, .idx i :: p, s, z, h, hp, hg => by simp [Path.fields] at hp
  | .int _, f, x, cs, T, .fst :: p, s, z, h, hp, hg => by simp [setP] at hg
  | .int _, f, x, cs, T, .snd :: p, s, z, h, hp, hg => by simp [setP] at hg
  | .bool, f, x, cs, T, .fst :: p, s, z, h, hp, hg => by simp [setP] at hg
  | .bool, f, x, cs, T, .snd :: p, s, z, h, hp, hg => by simp [setP] at hg
  | .str, f, x, cs, T, .fst :: p, s, z, h, hp, hg => by simp [setP] at hg
  | .str, f, x, cs, T, .snd :: p, s, z, h, hp, hg => by simp [setP] at hg
  | .row _, f, x, cs, T, .fst :: p, s, z, h, hp, hg => by simp [setP] at hg
  | .row _, f, x, cs, T, .snd :: p, s, z, h, hp, hg => by simp [setP] at hg
theorem Wr.mid {w w' : World} {b o : Nat} {c' d1 d2 d3 : List Value} (h : Wr w w' b (o + d1.length) c') (hc : CAt w b o (d1 ++ (d2 ++ d3))) (hl : d2.length = c'.length) {c : Array Value} {t : TypeId} {fz : Nat × Nat} (hh : w.heap[b]? = some (.cells c t fz)) : CAt w' b o (d1 ++ (c' ++ d3)) := by
  intro i v hi
  by_cases h1 : i < d1.length
  · rw [List.getElem?_append_left h1] at hi
    exact h.cell_oth (.inr (.inl (by omega))) (hc i v (by rw [List.getElem?_append_left h1]; exact hi))
  · rw [List.getElem?_append_right (by omega)] at hi
    by_cases h2 : i - d1.length < c'.length
    · rw [List.getElem?_append_left h2] at hi
      have := h.cat hh _ v hi
      rwa [show o + d1.length + (i - d1.length) = o + i by omega] at this
    · rw [List.getElem?_append_right (by omega)] at hi
      exact h.cell_oth (.inr (.inr (by omega))) (hc i v (by rw [List.getElem?_append_right (by omega), List.getElem?_append_right (by omega), hl]; exact hi))
theorem Rel.poke {ξ : Im} {w w' : World} {c' : List Value} {T' : Bs} : {τ : Ty} → {f : Fl} → {x : τ.T} → {cs : List Value} → {T : Bs} → {p : Path} → {τ' : Ty} → {y : τ'.T} → {z : τ.T} → {b o : Nat} →
    Rel ξ w τ f x cs T → Loc w τ cs p b o → ownP f p = true → setP τ x p ⟨τ', y⟩ = some z → Wr w w' b o c' → Rel ξ w τ' (f.at p) y c' T' → Dj T T' → Rel ξ w' τ f z cs (Un T T') ∧ T b ∧ ξ b ≤ o
  | .int k, f, x, cs, T, p, τ', y, z, b, o, h, hl, ho, hg, hw, hn, dj => hl.elim
  | .bool, f, x, cs, T, p, τ', y, z, b, o, h, hl, ho, hg, hw, hn, dj => hl.elim
  | .str, f, x, cs, T, p, τ', y, z, b, o, h, hl, ho, hg, hw, hn, dj => hl.elim
  | .row e, f, x, cs, T, p, τ', y, z, b, o, h, hl, ho, hg, hw, hn, dj => by
    cases p with
    | nil => exact hl.elim
    | cons q p =>
      cases q with
      | fst => exact hl.elim
      | snd => exact hl.elim
      | idx i =>
        cases f with
        | gone => simp [ownP] at ho
        | pr _ _ => exact h.elim
        | ro => simp [ownP] at ho
        | own g =>
          obtain ⟨a', len, cap', hc, hsp, hi, hl⟩ := hl
          rcases h with ⟨_, h⟩ | ⟨a, cap, c, t, fz, Te, h1, h2, h3, h4, h5, h6, h7, h8, h9, h10, h11⟩
          · rw [h] at hc; simp at hc
          · rw [h1] at hc
            simp only [List.cons.injEq, Value.slice.injEq, Option.some.injEq, and_true] at hc
            obtain ⟨rfl, rfl, rfl⟩ := hc
            obtain ⟨ci, h12, h13, h14⟩ := h11 i hi
            simp only [setP, getD_of hi] at hg
            split at hg
            case h_2 => cases hg
            rename_i zi hz
            obtain rfl := Option.some.inj hg
            have hnT : ¬ T' a.block := fun hx => dj _ h3 hx
            have dTe : ∀ j, Dj (Te j) T' := fun j => dj.sub (h9 j).1 (Sb.refl _)
            -- what all cases share: element i told anew
            have fin : ∀ (b0 o0 : Nat) (_ : Wr w w' b0 o0 c') (hx : ξ b0 ≤ o0) (hb0 : T b0) (hne : ∀ j, j ≠ i → ¬ Te j b0) (hcell : ∀ j, j ≠ i → ∀ cj : List Value, cj.length = e.n → CAt w a.block (a.off + j * e.n) cj → CAt w' a.block (a.off + j * e.n) cj)
                (cn : List Value) (hcl : cn.length = e.n) (hcn : CAt w' a.block (a.off + i * e.n) cn) (hrel : Rel ξ w' e g zi cn (Un (Te i) T')) (hblk : ∃ c2 : Array Value, w'.heap[a.block]? = some (.cells c2 t fz) ∧ c2.size = c.size),
                Rel ξ w' (.row e) (.own g) (x.set i zi) [.slice (some a) x.length cap] (Un T T') := by
              intro b0 o0 hw0 hx hb0 hne hcell cn hcl hcn hrel ⟨c2, hb2, hs2⟩
              refine .inr ⟨a, cap, c2, t, fz, fun j => if j = i then Un (Te i) T' else Te j, ?_, h2, .inl h3, hb2, ?_, ?_, ?_, h8, ?_, ?_, ?_⟩
              · simp
              · rw [hs2]; exact h5
              · simpa using h6
              · rw [hs2]; exact h7
              · intro j
                by_cases hj : j = i
                · subst hj
                  simp only [if_true]
                  exact ⟨Sb.both (h9 j).1 (Sb.refl _), fun hx => hx.elim (h9 j).2 hnT⟩
                · simp only [hj, if_false]
                  exact ⟨(h9 j).1.trans (Sb.l _ _), (h9 j).2⟩
              · intro j k hjk
                by_cases hj : j = i
                · have hk : k ≠ i := fun e => hjk (hj.trans e.symm)
                  simp only [hj, if_true, hk, if_false]
                  exact Dj.un (h10 i k (fun e => hk e.symm)) (Dj.symm (dTe k))
                · by_cases hk : k = i
                  · simp only [hj, if_false, hk, if_true]
                    exact Dj.symm (Dj.un (h10 i j (fun e => hj e.symm)) (Dj.symm (dTe j)))
                  · simp only [hj, hk, if_false]
                    exact h10 j k hjk
              · intro j hj
                have hj' : j < x.length := by simpa using hj
                by_cases e' : j = i
                · subst e'
                  exact ⟨cn, hcl, hcn, by simpa using hrel⟩
                · obtain ⟨cj, r1, r2, r3⟩ := h11 j hj'
                  refine ⟨cj, r1, hcell j e' cj r1 r2, ?_⟩
                  simp only [e', if_false]
                  rw [List.getElem_set_ne (fun h => e' h.symm)]
                  exact r3.keep (hw0.keep (hne j e') hx)
            rcases hl with ⟨hf, rfl, rfl⟩ | ⟨hf, c'', h15, h16, h17⟩
            · obtain ⟨d1, d2, d3, e1, e2, e3, e4⟩ := h14.set hf hz hn (dTe i)
              have hcl' : c'.length = d2.length := by rw [e3]; exact hn.len
              have hdl : d1.length + (d2.length + d3.length) = e.n := by rw [← h12, e1]; simp
              rw [← e2] at hw ⊢
              refine ⟨?_, h3, by omega⟩
              rw [h1]
              refine fin _ _ hw (by omega) h3 (fun j _ => (h9 j).2) ?_ (d1 ++ (c' ++ d3)) (by simp; omega) (hw.mid (by rw [← e1]; exact h13) hcl'.symm h4) ?_ ?_
              · intro j hj cj r1 r2
                refine hw.cat_oth r2 (.inr ?_)
                rcases Nat.lt_or_gt_of_ne hj with hlt | hgt
                · left
                  have : (j + 1) * e.n ≤ i * e.n := Nat.mul_le_mul_right _ (by omega)
                  rw [Nat.add_mul, Nat.one_mul] at this
                  omega
                · right
                  have : (i + 1) * e.n ≤ j * e.n := Nat.mul_le_mul_right _ (by omega)
                  rw [Nat.add_mul, Nat.one_mul] at this
                  omega
              · exact Rel.put_at (e4.keep (hw.keep (T := Un (Te i) T') (fun hx => hx.elim (h9 i).2 hnT) (by omega))) hf hz
              · obtain ⟨c2, r1, r2, _⟩ := hw.at_ _ _ _ h4
                exact ⟨c2, r1, r2⟩
            · obtain rfl := h13.eq h16 (by omega)
              obtain ⟨r1, r2, r3⟩ := Rel.poke h14 h17 (by simpa [ownP] using ho) hz hw hn (dTe i)
              have hne : a.block ≠ b := fun e => (h9 i).2 (e ▸ r2)
              refine ⟨?_, (h9 i).1 _ r2, r3⟩
              rw [h1]
              exact fin _ _ hw r3 ((h9 i).1 _ r2) (fun j hj hx => h10 j i hj _ hx r2) (fun j _ cj _ hcj => hw.cat_oth hcj (.inl hne)) ci h12 (hw.cat_oth h13 (.inl hne)) r1 ⟨c, (hw.oth _ hne).trans h4, rfl⟩
  | .pair a b, f, x, cs, T, p, τ', y, z, bl, o, h, hl, ho, hg, hw, hn, dj => by
    cases p with
    | nil => exact hl.elim
    | cons q p =>
      obtain ⟨c1, c2, T1, T2, hc, hlen, s1, s2, d, h1, h2⟩ := h
      cases q with
      | fst =>
        simp only [Loc, hc, List.take_left' hlen] at hl
        simp only [setP] at hg
        split at hg
        case h_2 => cases hg
        rename_i y1 hy1
        obtain rfl := Option.some.inj hg
        obtain ⟨r1, r2, r3⟩ := Rel.poke h1 hl ho hy1 hw hn (dj.sub s1 (Sb.refl _))
        exact ⟨⟨c1, c2, Un T1 T', T2, hc, hlen, Sb.both s1 (Sb.refl _), s2.trans (Sb.l _ _), Dj.un d (Dj.symm (dj.sub s2 (Sb.refl _))), r1, h2.keep (hw.keep (fun hx => d _ r2 hx) r3)⟩, s1 _ r2, r3⟩
      | snd =>
        simp only [Loc, hc, List.drop_left' hlen] at hl
        simp only [setP] at hg
        split at hg
        case h_2 => cases hg
        rename_i y1 hy1
        obtain rfl := Option.some.inj hg
        obtain ⟨r1, r2, r3⟩ := Rel.poke h2 hl ho hy1 hw hn (dj.sub s2 (Sb.refl _))
        exact ⟨⟨c1, c2, T1, Un T2 T', hc, hlen, s1.trans (Sb.l _ _), Sb.both s2 (Sb.refl _), Dj.symm (Dj.un (Dj.symm d) (Dj.symm (dj.sub s1 (Sb.refl _)))), h1.keep (hw.keep (fun hx => d _ hx r2) r3), r1⟩, s2 _ r2, r3⟩
      | idx i => exact hl.elim
  | .st a, f, x, cs, T, p, τ', y, z, b, o, h, hl, ho, hg, hw, hn, dj => by
    cases p with
    | nil => exact (hl.1 rfl).elim
    | cons q p => exact Rel.poke (τ := a) h hl.2 ho hg hw hn dj
end Go.Proofs.Ytabindnaedchgaa.Rf
