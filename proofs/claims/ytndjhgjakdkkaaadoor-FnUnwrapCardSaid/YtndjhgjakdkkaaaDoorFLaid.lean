/- What a row that lists package variables gives, and that these read behind a call as before. -/
import Derived.Below
import Derived.Carry
import Derived.ChangeOld
import Derived.Lib.LaidTab
import Derived.ChangeShapes
namespace Go.Proofs.YtndjhgjakdkkaaaDoor.Frame
open Go.RowKit Go.ChangeShapes
set_option linter.unusedVariables false

theorem tabIs_of_vars {P : Program} {W : World} {name : String} {k : IntKind} {zs : List Int} {g : Nat} {t e : TypeId} {n : Nat}
    (hg : P.globalNamed name = some g) (hty : (P.globals[g]?).map (·.type) = some t) (ht : P.underlying t = some (.array n e)) (he : P.underlying e = some (.int k)) (hce : P.cellsOf e = 1) (hct : P.cellsOf t = n) :
    ∀ (l : List (String × DataW Unit)) (ps : List MemPlace), DataW.LaidVars P W l ps → (name, Lib.tabData k zs) ∈ l → Lib.TabIs P W name k zs
  | [], _, _, hm => by simp at hm
  | (n', d') :: rest, ps, ⟨g', t', cs, fuel, p, q, hg', ht', hvar, hd, hrest, _⟩, hm => by
    rcases List.mem_cons.1 hm with h | h
    · injection h with h1 h2
      subst h1
      subst h2
      obtain rfl := Option.some.inj (hg.symm.trans hg')
      obtain rfl := Option.some.inj (hty.symm.trans ht')
      unfold Lib.TabIs
      rw [hvar, ← Lib.cells_of_tab ht he hce hct hd]
    · exact tabIs_of_vars hg hty ht he hce hct rest q hrest h
theorem tabIs_of_mem {P : Program} {W : World} {name : String} {k : IntKind} {zs : List Int} {g : Nat} {t e : TypeId} {n : Nat} {l : List (String × DataW Unit)}
    (hg : P.globalNamed name = some g) (hty : (P.globals[g]?).map (·.type) = some t) (ht : P.underlying t = some (.array n e)) (he : P.underlying e = some (.int k)) (hce : P.cellsOf e = 1) (hct : P.cellsOf t = n)
    (h : laidMet P l W) (hm : (name, Lib.tabData k zs) ∈ l) : Lib.TabIs P W name k zs := by
  obtain ⟨ps, hv, _⟩ := h
  exact tabIs_of_vars hg hty ht he hce hct l ps hv hm
theorem varBelow {P : Program} {W W' : World} {n : String} {cs : Array Value} (h : Below W.heap.size W W') (hv : W.var? P n = some cs) : W'.var? P n = some cs := by
  unfold World.var? at hv ⊢
  cases hg : P.globalNamed n with
  | none => simp [hg] at hv
  | some g =>
    simp only [hg, Option.bind_some] at hv ⊢
    have hlt : g < W.heap.size := by
      rcases Nat.lt_or_ge g W.heap.size with h' | h'
      · exact h'
      · rw [Array.getElem?_eq_none h'] at hv
        simp at hv
    rw [h.block g hlt]
    exact hv
/-- The named variables read behind the call as they read before. -/
theorem trodVars_below {H : Type} {enc : TypeId × Value → H} {P : Program} (hl : laidOutB P = true) {W W' : World} (hb : Below W.heap.size W W') :
    ∀ (vars : List String) (gs : List (DataW H)) (q : List MemPlace), DataW.TrodVars enc P W (fun _ => true) vars gs q →
      (∀ n ∈ vars, ∀ g t, P.globalNamed n = some g → (P.globals[g]?).map (·.type) = some t → P.readableRec t = true ∧ t < P.types.size) →
      ∃ pv, DataW.TrodVars enc P W' (fun b => decide (b < W.heap.size)) vars gs pv
  | [], [], q, h, _ => ⟨q, h⟩
  | [], _ :: _, q, h, _ => by simp [DataW.TrodVars] at h
  | _ :: _, [], q, h, _ => by simp [DataW.TrodVars] at h
  | n :: ns, d :: ds, ps, ⟨g, t, cs, fuel, p, q, hg, ht, hvar, hd, hrest, _⟩, hr => by
    obtain ⟨pv, hpv⟩ := trodVars_below hl hb ns ds q hrest (fun m hm => hr m (List.mem_cons_of_mem _ hm))
    obtain ⟨h1, h2⟩ := hr n List.mem_cons_self g t hg ht
    have hT : DataW.Trod enc P W 0 (fun _ => true) true t (.agg cs) d p := ⟨fuel, hd⟩
    obtain ⟨fuel', hd'⟩ := Below.trod hl h1 h2 hT hb (fun x hx => DataW.trod_lt fuel _ _ _ hd x hx)
    exact ⟨_, g, t, cs, fuel', p, pv, hg, ht, varBelow hb hvar, hd', hpv, rfl⟩
theorem trodVars_cons' {H : Type} {enc : TypeId × Value → H} {P : Program} {W : World} {sp : Nat → Bool} {n : String} {ns : List String} {gs : List (DataW H)} {q : List MemPlace} (h : DataW.TrodVars enc P W sp (n :: ns) gs q) :
    ∃ d ds q', gs = d :: ds ∧ DataW.TrodVars enc P W sp ns ds q' := by
  cases gs with
  | nil => simp [DataW.TrodVars] at h
  | cons d ds =>
    obtain ⟨g, t, cs, fuel, p, q', _, _, _, _, hrest, _⟩ := h
    exact ⟨d, ds, q', rfl, hrest⟩
end Go.Proofs.YtndjhgjakdkkaaaDoor.Frame
