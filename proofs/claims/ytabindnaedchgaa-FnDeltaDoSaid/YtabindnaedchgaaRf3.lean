/- Parts of a value: read, taken, set, in registers and in memory. Nothing of any program. -/
import Derived.Test.YtabindnaedchgaaRf2
namespace Go.Proofs.Ytabindnaedchgaa.Rf
open Go Go.RowKit
set_option linter.unusedVariables false
set_option linter.unusedSimpArgs false

def Un (A B : Bs) : Bs := fun b => A b ∨ B b
theorem Sb.l (A B : Bs) : Sb A (Un A B) := fun _ h => .inl h
theorem Sb.r (A B : Bs) : Sb B (Un A B) := fun _ h => .inr h
theorem Sb.un {A B C : Bs} (h : Sb A C) (k : Sb B C) : Sb (Un A B) C := fun b x => x.elim (h b) (k b)
theorem Sb.both {A B C D : Bs} (h : Sb A C) (k : Sb B D) : Sb (Un A B) (Un C D) := fun b x => x.imp (h b) (k b)
theorem Dj.un {A B C : Bs} (h : Dj A C) (k : Dj B C) : Dj (Un A B) C := fun b x y => x.elim (fun x => h b x y) (fun x => k b x y)
def mkV : Ty → List Value → Value
  | .st _, cs => .agg cs.toArray
  | .pair _ _, cs => .agg cs.toArray
  | _, cs => cs.headD undef
theorem mkV_cells {ξ : Im} {w : World} : {τ : Ty} → {f : Fl} → {x : τ.T} → {cs : List Value} → {T : Bs} → Rel ξ w τ f x cs T → f.ok τ = true → (mkV τ cs).cells = cs.toArray
  | .int _, _, _, _, _, h, r => by rw [h.2 (by simpa [Fl.ok] using r)]; rfl
  | .bool, _, _, _, _, h, r => by rw [h.2 (by simpa [Fl.ok] using r)]; rfl
  | .str, _, _, _, _, h, r => by rw [h.2 (by simpa [Fl.ok] using r)]; rfl
  | .row e, f, l, cs, T, h, r => by
    cases f with
    | gone => simp [Fl.ok] at r
    | pr _ _ => exact h.elim
    | ro => obtain ⟨A, cap, rfl, _⟩ := h; rfl
    | own g => rcases h with ⟨_, rfl⟩ | ⟨a, cap, c, t, fz, Te, rfl, _⟩ <;> rfl
  | .pair a b, _, _, _, _, _, _ => rfl
  | .st a, _, _, _, _, _, _ => rfl
def offP : Ty → Path → Nat
  | .pair a b, .fst :: p => offP a p
  | .pair a b, .snd :: p => a.n + offP b p
  | .st a, p => offP a p
  | _, _ => 0
theorem offP_nil : (τ : Ty) → offP τ [] = 0
  | .int _ | .bool | .str | .row _ | .pair _ _ => rfl
  | .st a => offP_nil a
theorem put_nil (f g : Fl) : f.put [] g = g := by cases f <;> rfl
theorem fields_tl {e : PE} {p : Path} (h : Path.fields (e :: p) = true) : Path.fields p = true := by
  cases e <;> simp [Path.fields] at h <;> exact h
theorem Rel.get {ξ : Im} {w : World} : {τ : Ty} → {f : Fl} → {x : τ.T} → {cs : List Value} → {T : Bs} → {p : Path} → {τ' : Ty} → {y : τ'.T} → Rel ξ w τ f x cs T → p.fields = true → getP τ x p = some ⟨τ', y⟩ →
    ∃ c1 c2 c3, cs = c1 ++ (c2 ++ c3) ∧ c1.length = offP τ p ∧ Rel ξ w τ' (f.at p) y c2 T
  | .int k, f, x, cs, T, p, τ', y, h, hp, hg => by
    cases p with
    | nil => cases hg; exact ⟨[], cs, [], by simp, rfl, h⟩
    | cons e p => simp [getP] at hg
  | .bool, f, x, cs, T, p, τ', y, h, hp, hg => by
    cases p with
    | nil => cases hg; exact ⟨[], cs, [], by simp, rfl, h⟩
    | cons e p => simp [getP] at hg
  | .str, f, x, cs, T, p, τ', y, h, hp, hg => by
    cases p with
    | nil => cases hg; exact ⟨[], cs, [], by simp, rfl, h⟩
    | cons e p => simp [getP] at hg
  | .row e, f, x, cs, T, p, τ', y, h, hp, hg => by
    cases p with
    | nil => cases hg; exact ⟨[], cs, [], by simp, rfl, h⟩
    | cons e p => cases e <;> first | (simp [Path.fields] at hp; done) | (simp [getP] at hg; done)
  | .pair a b, f, x, cs, T, p, τ', y, h, hp, hg => by
    cases p with
    | nil => cases hg; exact ⟨[], cs, [], by simp, rfl, h⟩
    | cons e p =>
      obtain ⟨c1, c2, T1, T2, hc, hl, s1, s2, d, h1, h2⟩ := h
      have hp' := fields_tl hp
      cases e with
      | fst =>
        obtain ⟨d1, d2, d3, e1, e2, e3⟩ := Rel.get h1 hp' hg
        exact ⟨d1, d2, d3 ++ c2, by rw [hc, e1]; simp, e2, e3.sub s1⟩
      | snd =>
        obtain ⟨d1, d2, d3, e1, e2, e3⟩ := Rel.get h2 hp' hg
        exact ⟨c1 ++ d1, d2, d3, by rw [hc, e1]; simp, by simp [hl, e2, offP], e3.sub s2⟩
      | idx i => simp [Path.fields] at hp
  | .st a, f, x, cs, T, p, τ', y, h, hp, hg => by
    cases p with
    | nil => cases hg; exact ⟨[], cs, [], by simp, (offP_nil a).symm, h⟩
    | cons e p => exact Rel.get (τ := a) h hp hg
theorem cast?_eq {τ : Ty} {s : Sv} {y : τ.T} (h : cast? τ s = some y) : s = ⟨τ, y⟩ := by
  obtain ⟨τ', x⟩ := s
  unfold cast? at h
  split at h
  · rename_i e; subst e; simp only [Option.some.injEq] at h; subst h; rfl
  · cases h
theorem Rel.set {ξ : Im} {w : World} : {τ : Ty} → {f : Fl} → {x : τ.T} → {cs : List Value} → {T : Bs} → {p : Path} → {τ' : Ty} → {y : τ'.T} → {z : τ.T} → {g : Fl} → {c' : List Value} → {T' : Bs} →
    Rel ξ w τ f x cs T → p.fields = true → setP τ x p ⟨τ', y⟩ = some z → Rel ξ w τ' g y c' T' → Dj T T' →
    ∃ c1 c2 c3, cs = c1 ++ (c2 ++ c3) ∧ c1.length = offP τ p ∧ c2.length = τ'.n ∧ Rel ξ w τ (f.put p g) z (c1 ++ (c' ++ c3)) (Un T T')
  | .int k, f, x, cs, T, p, τ', y, z, g, c', T', h, hp, hg, h', dj => by
    cases p with
    | nil => cases cast?_eq hg; exact ⟨[], cs, [], by simp, rfl, h.len, by simpa [put_nil] using h'.sub (Sb.r _ _)⟩
    | cons e p => simp [setP] at hg
  | .bool, f, x, cs, T, p, τ', y, z, g, c', T', h, hp, hg, h', dj => by
    cases p with
    | nil => cases cast?_eq hg; exact ⟨[], cs, [], by simp, rfl, h.len, by simpa [put_nil] using h'.sub (Sb.r _ _)⟩
    | cons e p => simp [setP] at hg
  | .str, f, x, cs, T, p, τ', y, z, g, c', T', h, hp, hg, h', dj => by
    cases p with
    | nil => cases cast?_eq hg; exact ⟨[], cs, [], by simp, rfl, h.len, by simpa [put_nil] using h'.sub (Sb.r _ _)⟩
    | cons e p => simp [setP] at hg
  | .row e, f, x, cs, T, p, τ', y, z, g, c', T', h, hp, hg, h', dj => by
    cases p with
    | nil => cases cast?_eq hg; exact ⟨[], cs, [], by simp, rfl, h.len, by simpa [put_nil] using h'.sub (Sb.r _ _)⟩
    | cons e p => cases e <;> first | (simp [Path.fields] at hp; done) | (simp [setP] at hg; done)
  | .pair a b, f, x, cs, T, p, τ', y, z, g, c', T', h, hp, hg, h', dj => by
    cases p with
    | nil => cases cast?_eq hg; exact ⟨[], cs, [], by simp, rfl, h.len, by simpa [put_nil] using h'.sub (Sb.r _ _)⟩
    | cons e p =>
      obtain ⟨c1, c2, T1, T2, hc, hl, s1, s2, d, h1, h2⟩ := h
      have hp' := fields_tl hp
      cases e with
      | fst =>
        simp only [setP] at hg
        split at hg
        · rename_i y1 hy1
          obtain rfl := Option.some.inj hg
          obtain ⟨d1, d2, d3, e1, e2, e3, e4⟩ := Rel.set h1 hp' hy1 h' (dj.sub s1 (Sb.refl _))
          refine ⟨d1, d2, d3 ++ c2, by rw [hc, e1]; simp, e2, e3, d1 ++ (c' ++ d3), c2, Un T1 T', T2, by simp, ?_, Sb.both s1 (Sb.refl _), s2.trans (Sb.l _ _), Dj.un d (Dj.symm (dj.sub s2 (Sb.refl _))), e4, h2⟩
          have := e4.len; exact this
        · cases hg
      | snd =>
        simp only [setP] at hg
        split at hg
        · rename_i y1 hy1
          obtain rfl := Option.some.inj hg
          obtain ⟨d1, d2, d3, e1, e2, e3, e4⟩ := Rel.set h2 hp' hy1 h' (dj.sub s2 (Sb.refl _))
          exact ⟨c1 ++ d1, d2, d3, by rw [hc, e1]; simp, by simp [hl, e2, offP], e3, c1, d1 ++ (c' ++ d3), T1, Un T2 T', by simp, hl, s1.trans (Sb.l _ _), Sb.both s2 (Sb.refl _), Dj.symm (Dj.un (Dj.symm d) (Dj.symm (dj.sub s1 (Sb.refl _)))), h1, e4⟩
        · cases hg
      | idx i => simp [Path.fields] at hp
  | .st a, f, x, cs, T, p, τ', y, z, g, c', T', h, hp, hg, h', dj => by
    cases p with
    | nil => cases cast?_eq hg; exact ⟨[], cs, [], by simp, (offP_nil a).symm, h.len, by simpa [put_nil] using h'.sub (Sb.r _ _)⟩
    | cons e p => exact Rel.set (τ := a) h hp hg h' dj
theorem Rel.gone {ξ : Im} {w : World} : {τ : Ty} → {f : Fl} → {x : τ.T} → {cs : List Value} → {T : Bs} → Rel ξ w τ f x cs T → Rel ξ w τ .gone x cs Em
  | .int _, _, _, _, _, h => ⟨h.1, fun n => (n rfl).elim⟩
  | .bool, _, _, _, _, h => ⟨h.1, fun n => (n rfl).elim⟩
  | .str, _, _, _, _, h => ⟨h.1, fun n => (n rfl).elim⟩
  | .row e, f, _, _, _, h => h.len
  | .pair a b, _, _, _, _, ⟨c1, c2, T1, T2, hc, hl, s1, s2, d, h1, h2⟩ => ⟨c1, c2, Em, Em, hc, hl, Sb.em _, Sb.em _, Dj.em _, h1.gone, h2.gone⟩
  | .st a, _, _, _, _, h => Rel.gone (τ := a) h
theorem Rel.take {ξ : Im} {w : World} : {τ : Ty} → {f : Fl} → {x : τ.T} → {cs : List Value} → {T : Bs} → {p : Path} → {τ' : Ty} → {y : τ'.T} → Rel ξ w τ f x cs T → p.fields = true → getP τ x p = some ⟨τ', y⟩ →
    ∃ c1 c2 c3, ∃ T1 T2 : Bs, cs = c1 ++ (c2 ++ c3) ∧ c1.length = offP τ p ∧ Sb T1 T ∧ Sb T2 T ∧ Dj T1 T2 ∧ Rel ξ w τ' (f.at p) y c2 T1 ∧ Rel ξ w τ (f.put p .gone) x cs T2
  | .int k, f, x, cs, T, p, τ', y, h, hp, hg => by
    cases p with
    | nil => cases hg; exact ⟨[], cs, [], T, Em, by simp, rfl, Sb.refl _, Sb.em _, Dj.em' _, h, h.gone⟩
    | cons e p => simp [getP] at hg
  | .bool, f, x, cs, T, p, τ', y, h, hp, hg => by
    cases p with
    | nil => cases hg; exact ⟨[], cs, [], T, Em, by simp, rfl, Sb.refl _, Sb.em _, Dj.em' _, h, h.gone⟩
    | cons e p => simp [getP] at hg
  | .str, f, x, cs, T, p, τ', y, h, hp, hg => by
    cases p with
    | nil => cases hg; exact ⟨[], cs, [], T, Em, by simp, rfl, Sb.refl _, Sb.em _, Dj.em' _, h, h.gone⟩
    | cons e p => simp [getP] at hg
  | .row e, f, x, cs, T, p, τ', y, h, hp, hg => by
    cases p with
    | nil => cases hg; exact ⟨[], cs, [], T, Em, by simp, rfl, Sb.refl _, Sb.em _, Dj.em' _, h, h.gone⟩
    | cons e p => cases e <;> first | (simp [Path.fields] at hp; done) | (simp [getP] at hg; done)
  | .pair a b, f, x, cs, T, p, τ', y, h, hp, hg => by
    cases p with
    | nil => cases hg; exact ⟨[], cs, [], T, Em, by simp, rfl, Sb.refl _, Sb.em _, Dj.em' _, h, h.gone⟩
    | cons e p =>
      obtain ⟨c1, c2, T1, T2, hc, hl, s1, s2, d, h1, h2⟩ := h
      have hp' := fields_tl hp
      cases e with
      | fst =>
        obtain ⟨d1, d2, d3, U1, U2, e1, e2, e3, e4, e5, e6, e7⟩ := Rel.take h1 hp' hg
        exact ⟨d1, d2, d3 ++ c2, U1, Un U2 T2, by rw [hc, e1]; simp, e2, e3.trans s1, Sb.un (e4.trans s1) s2, Dj.symm (Dj.un (Dj.symm e5) (Dj.symm (d.sub e3 (Sb.refl _)))), e6,
          c1, c2, U2, T2, hc, hl, Sb.l _ _, Sb.r _ _, d.sub e4 (Sb.refl _), e7, h2⟩
      | snd =>
        obtain ⟨d1, d2, d3, U1, U2, e1, e2, e3, e4, e5, e6, e7⟩ := Rel.take h2 hp' hg
        exact ⟨c1 ++ d1, d2, d3, U1, Un T1 U2, by rw [hc, e1]; simp, by simp [hl, e2, offP], e3.trans s2, Sb.un s1 (e4.trans s2), Dj.symm (Dj.un (d.sub (Sb.refl _) e3) (Dj.symm e5)), e6,
          c1, c2, T1, U2, hc, hl, Sb.l _ _, Sb.r _ _, d.sub (Sb.refl _) e4, h1, e7⟩
      | idx i => simp [Path.fields] at hp
  | .st a, f, x, cs, T, p, τ', y, h, hp, hg => by
    cases p with
    | nil => cases hg; exact ⟨[], cs, [], T, Em, by simp, (offP_nil a).symm, Sb.refl _, Sb.em _, Dj.em' _, h, Rel.gone (τ := a) h⟩
    | cons e p => exact Rel.take (τ := a) h hp hg
end Go.Proofs.Ytabindnaedchgaa.Rf
