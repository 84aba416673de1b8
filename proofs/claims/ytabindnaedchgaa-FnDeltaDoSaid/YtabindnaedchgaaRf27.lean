/- How an argument that is read as data reads as a plain value; how a law's row is had. Nothing of any program. -/
import Derived.Test.YtabindnaedchgaaRf26
import Derived.ChangeArms
import Derived.DataReads
import Derived.WideShapes
import Derived.ChangeShapes
import Derived.ChangeMaps5
import Derived.RowKit
namespace Go.Proofs.Ytabindnaedchgaa.Rf
open Go Go.RowKit Go.ChangeShapes Go.WideShapes
set_option linter.unusedVariables false
set_option linter.unusedSimpArgs false
def goodT : (τ : Ty) → τ.T → Prop
  | .int k, n => (Lit.int k n).wf = true
  | .bool, _ => True
  | .str, s => s.size ≤ 9223372036854775807
  | .row e, l => l.length ≤ 9223372036854775807 ∧ ∀ x ∈ l, goodT e x
  | .pair a b, x => goodT a x.1 ∧ goodT b x.2
  | .st a, x => goodT a x
/-- all that lies there is never turned -/
def fullI (w : World) : Im := fun b => match w.heap[b]? with
  | some (.cells c _ _) => c.size
  | _ => 0
theorem cells_at {w : World} {b o : Nat} {v : Value} (h : w.cell? ⟨b, o, none⟩ = some v) : o < fullI w b := by
  unfold fullI
  unfold World.cell? at h
  simp only [Option.isSome_none, Bool.false_eq_true, if_false] at h
  cases hh : w.heap[b]? with
  | none => rw [hh] at h; simp at h
  | some ob =>
    rw [hh] at h
    cases ob with
    | cells c t fz => simp at h; exact (Array.getElem?_eq_some_iff.1 h).1
    | _ => simp at h
theorem list_pick {α : Type} (p : Nat → α → Prop) : ∀ n, (∀ i, i < n → ∃ x, p i x) → ∃ xs : List α, xs.length = n ∧ ∀ i x, xs[i]? = some x → p i x
  | 0, _ => ⟨[], rfl, fun i x h => by simp at h⟩
  | n + 1, h => by
    obtain ⟨xs, hl, hx⟩ := list_pick p n (fun i hi => h i (by omega))
    obtain ⟨y, hy⟩ := h n (by omega)
    refine ⟨xs ++ [y], by simp [hl], fun i x hi => ?_⟩
    rcases Nat.lt_or_ge i xs.length with hlt | hge
    · rw [List.getElem?_append_left hlt] at hi
      exact hx i x hi
    · rw [List.getElem?_append_right hge] at hi
      have h0 : i - xs.length = 0 := by
        rcases Nat.eq_zero_or_pos (i - xs.length) with h0 | h0
        · exact h0
        · rw [List.getElem?_eq_none (by simp; omega)] at hi
          cases hi
      rw [h0] at hi
      simp at hi
      subst hi
      have : i = n := by omega
      subst this
      exact hy
theorem size_of_tok {P : Program} : {τ : Ty} → {t : TypeId} → tok P τ t → P.cellsOf t = τ.n := by
  intro τ t h
  have key : infoB P τ t = true := by
    cases τ <;> simp only [tok, tokB, one, Bool.and_eq_true] at h <;> first | exact h.1 | cases h
  unfold infoB at key
  split at key
  · rename_i i hi
    simp only [Bool.and_eq_true, decide_eq_true_eq] at key
    simp only [Program.cellsOf, hi]
    exact key.1
  · cases key
/-- one behind the other, from the offset o on -/
def OpF (P : Program) (τ : Ty) (fs : List Field) (o : Nat) : Prop :=
  ∀ (H : Type) (enc : TypeId × Value → H) (w : World) (base : Nat) (spare : Nat → Bool) (held : Bool) (fuel : Nat) (cs : List Value) (xs : List (DataW H × List MemPlace)),
    cs.length = o + τ.n → (∀ (i : Nat) (f : Field), fs[i]? = some f → DataW.trod enc P w base spare held fuel f.type ((cs.drop f.offset).take (P.cellsOf f.type)) = xs[i]?) → xs.length = fs.length → ∃ v : τ.T, Rel (fullI w) w τ .ro v (cs.drop o) Em ∧ goodT τ v
def OpT (P : Program) (τ : Ty) (t : TypeId) : Prop :=
  ∀ (H : Type) (enc : TypeId × Value → H) (w : World) (base : Nat) (spare : Nat → Bool) (held : Bool) (fuel : Nat) (cs : List Value) (x : DataW H × List MemPlace),
    DataW.trod enc P w base spare held fuel t cs = some x → ∃ v : τ.T, Rel (fullI w) w τ .ro v cs Em ∧ goodT τ v
theorem OpF.one {P : Program} {τ : Ty} {f : Field} {o : Nat} (ho : f.offset = o) (hs : tok P τ f.type) (h : OpT P τ f.type) : OpF P τ [f] o := by
  intro H enc w base spare held fuel cs xs hl hx hxl
  have h0 := hx 0 f rfl
  obtain ⟨x0, rfl⟩ : ∃ x0, xs = [x0] := by
    match xs, hxl with
    | [x0], _ => exact ⟨x0, rfl⟩
  obtain ⟨v, hv, hg⟩ := h H enc w base spare held fuel _ _ h0
  refine ⟨v, ?_, hg⟩
  rw [ho, size_of_tok hs, List.take_of_length_le (by rw [List.length_drop]; omega)] at hv
  exact hv
theorem opens_ty {P : Program} : (τ : Ty) → (m : TypeId ⊕ (List Field × Nat)) → tokB P τ m = true → match m with
    | .inl t => OpT P τ t
    | .inr (fs, o) => OpF P τ fs o := by
  have sing : ∀ (τ : Ty) (m : TypeId ⊕ (List Field × Nat)), (∀ t, tokB P τ (.inl t) = true → OpT P τ t) → (∀ q : TypeId → Bool, (∀ t, tokB P τ (.inl t) = q t) → one m q = true → match m with
      | .inl t => OpT P τ t
      | .inr (fs, o) => OpF P τ fs o) := by
    intro τ m h q hq hm
    cases m with
    | inl t => exact h t (by rw [hq]; exact hm)
    | inr x =>
      obtain ⟨fs, o⟩ := x
      match fs, hm with
      | [f], hm =>
        simp only [one, Bool.and_eq_true, decide_eq_true_eq] at hm
        exact .one hm.1 (by rw [tok, hq]; exact hm.2.2) (h _ (by rw [hq]; exact hm.2.2))
  intro τ
  induction τ with
  | int k =>
    intro m hm
    refine sing _ m (fun t ht => ?_) _ (fun t => rfl) hm
    simp only [tokB, one, Bool.and_eq_true] at ht
    have hu := ht.2
    split at hu
    · rename_i k' hu'
      have : k' = k := by simpa using hu
      subst this
      intro H enc w base spare held fuel cs x hx
      obtain ⟨n, rfl, _, hw⟩ := DataW.trod_int hu' hx
      exact ⟨n, ⟨rfl, fun _ => rfl⟩, hw⟩
    · cases hu
  | bool =>
    intro m hm
    refine sing _ m (fun t ht => ?_) _ (fun t => rfl) hm
    simp only [tokB, one, Bool.and_eq_true] at ht
    have hu := ht.2
    split at hu
    · rename_i hu'
      intro H enc w base spare held fuel cs x hx
      obtain ⟨b, rfl, _⟩ := DataW.trod_bool hu' hx
      exact ⟨b, ⟨rfl, fun _ => rfl⟩, trivial⟩
    · cases hu
  | str =>
    intro m hm
    refine sing _ m (fun t ht => ?_) _ (fun t => rfl) hm
    simp only [tokB, one, Bool.and_eq_true] at ht
    have hu := ht.2
    split at hu
    · rename_i hu'
      intro H enc w base spare held fuel cs x hx
      obtain ⟨s, rfl, _, hs⟩ := DataW.trod_string hu' hx
      exact ⟨s, ⟨rfl, fun _ => rfl⟩, hs⟩
    · cases hu
  | row e ih =>
    intro m hm
    refine sing _ m (fun t ht => ?_) _ (fun t => rfl) hm
    simp only [tokB, one, Bool.and_eq_true] at ht
    have hu := ht.2
    split at hu
    case h_2 => cases hu
    rename_i te hu'
    have he : OpT P e te := ih (.inl te) hu
    have hs := size_of_tok (P := P) (τ := e) (t := te) hu
    intro H enc w base spare held fuel cs x hx
    rcases DataW.trod_slice hu' hx with ⟨rfl, _⟩ | ⟨a, len, cap, elems, rest, n, _, rfl, _, hb, hl, hm, hlen, hel, _, _⟩
    · exact ⟨[], ⟨none, 0, rfl, Nat.le_refl _, fun i hi => by simp at hi⟩, by simp [goodT], fun x hx => by simp at hx⟩
    · have hex : ∀ i, i < len → ∃ v : e.T, goodT e v ∧ ∃ c, c.length = e.n ∧ Rel (fullI w) w e .ro v c Em ∧ ∀ j u, c[j]? = some u → w.cell? (a.add (i * e.n + j)) = some u := by
        intro i hi
        have hk := hel i hi
        rw [List.getElem?_eq_getElem (by omega)] at hk
        obtain ⟨c, hc, ht⟩ := Option.bind_eq_some_iff.1 hk
        obtain ⟨_, hcl, hcc⟩ := World.cells?_some hc
        obtain ⟨v, hv, hg⟩ := he H enc w base spare held n c _ ht
        refine ⟨v, hg, c, by rw [hcl, hs], hv, fun j u hj => ?_⟩
        have hjl : j < c.length := (List.getElem?_eq_some_iff.1 hj).1
        have h2 := hcc j (by omega)
        rw [hj] at h2
        rw [hs] at h2
        have ha : (a.add (i * e.n)).add j = a.add (i * e.n + j) := by
          unfold Addr.add
          by_cases h1 : i * e.n = 0 <;> by_cases h3 : j = 0 <;> simp [h1, h3, Nat.add_assoc]
        rw [← ha]
        exact h2
      obtain ⟨xs, hxl, hxs⟩ := list_pick _ len hex
      refine ⟨xs, ⟨some a, cap, by rw [hxl], by omega, fun i hi => ?_⟩, by unfold maxLen at hm; show xs.length ≤ _; omega, fun x hx => ?_⟩
      · obtain ⟨hg, c, c1, c2, c3⟩ := hxs i xs[i] (List.getElem?_eq_getElem hi)
        have hn := e.n_pos
        have c4 : ∀ j, j < e.n → ∃ u, w.cell? (a.add (i * e.n + j)) = some u := fun j hj => ⟨_, c3 j _ (List.getElem?_eq_getElem (by omega))⟩
        have hsp : a.spot = none := by
          have h0 : 0 < xs.length := by omega
          obtain ⟨_, c0, d1, _, d3⟩ := hxs 0 xs[0] (List.getElem?_eq_getElem h0)
          have hu := d3 0 _ (List.getElem?_eq_getElem (by omega))
          rw [show 0 * e.n + 0 = 0 by omega] at hu
          obtain ⟨b, off, sp⟩ := a
          have e0 : (⟨b, off, sp⟩ : Addr).add 0 = ⟨b, off, sp⟩ := by simp [Addr.add]
          rw [e0] at hu
          unfold World.cell? at hu
          cases sp with
          | none => rfl
          | some s =>
            simp only [Option.isSome_some, if_true] at hu
            split at hu <;> cases hu
        have hadd : ∀ j, a.add j = ⟨a.block, a.off + j, none⟩ := by
          intro j
          obtain ⟨b, off, sp⟩ := a
          simp only at hsp
          subst hsp
          unfold Addr.add
          by_cases h3 : j = 0 <;> simp [h3]
        refine ⟨a, c, rfl, hsp, c1, fun j u hj => ?_, ?_, c2⟩
        · have := c3 j u hj
          rwa [hadd, ← Nat.add_assoc] at this
        · obtain ⟨u, hu⟩ := c4 (e.n - 1) (by omega)
          rw [hadd] at hu
          have := cells_at hu
          omega
      · obtain ⟨i, hi⟩ := List.getElem?_of_mem hx
        exact (hxs i x hi).1
  | pair a b iha ihb =>
    intro m hm
    cases m with
    | inl t => simp [tokB] at hm
    | inr x =>
      obtain ⟨fs, o⟩ := x
      cases fs with
      | nil => simp [tokB] at hm
      | cons fd fs =>
        simp only [tokB, Bool.and_eq_true, decide_eq_true_eq] at hm
        obtain ⟨ho, h1, h2, _⟩ := hm
        have oa : OpT P a fd.type := iha (.inl fd.type) h1
        have ob : OpF P b fs (o + a.n) := ihb (.inr (fs, o + a.n)) h2
        have hs := size_of_tok (P := P) (τ := a) (t := fd.type) h1
        intro H enc w base spare held fuel cs xs hl hx hxl
        have hl' : cs.length = o + a.n + b.n := by rw [hl]; simp only [Ty.n]; omega
        obtain ⟨x0, xr, rfl⟩ : ∃ x0 xr, xs = x0 :: xr := by
          match xs, hxl with
          | x0 :: xr, _ => exact ⟨x0, xr, rfl⟩
        obtain ⟨v, hv, hg⟩ := oa H enc w base spare held fuel _ _ (hx 0 fd rfl)
        obtain ⟨u, hu, hk⟩ := ob H enc w base spare held fuel cs xr hl' (fun i g hi => hx (i + 1) g hi) (by simpa using hxl)
        refine ⟨(v, u), ⟨(cs.drop o).take a.n, cs.drop (o + a.n), Em, Em, ?_, ?_, Sb.em _, Sb.em _, Dj.em _, ?_, hu⟩, hg, hk⟩
        · rw [← List.drop_drop, List.take_append_drop]
        · rw [List.length_take, List.length_drop]; omega
        · rw [ho, hs] at hv
          exact hv
  | st a ih =>
    intro m hm
    refine sing _ m (fun t ht => ?_) _ (fun t => rfl) hm
    have hs := size_of_tok (P := P) (τ := .st a) (t := t) ht
    simp only [tokB, one, Bool.and_eq_true] at ht
    have hu := ht.2
    split at hu
    case h_2 => cases hu
    rename_i fs hu'
    simp only [Bool.and_eq_true] at hu
    have hf : OpF P a fs.toList 0 := ih (.inr (fs.toList, 0)) hu.1
    intro H enc w base spare held fuel cs x hx
    obtain ⟨xs, n, _, _, hl, hxl, hi⟩ := DataW.trod_struct hu' hx
    obtain ⟨v, hv, hg⟩ := hf H enc w base spare held n cs xs (by rw [hl, hs]; simp [Ty.n]) (fun i fd hfd => hi i fd (by rw [← Array.getElem?_toList]; exact hfd)) (by rw [hxl]; simp)
    rw [List.drop_zero] at hv
    exact ⟨v, hv, hg⟩
/-- an argument -/
theorem open_arg {P : Program} {τ : Ty} {t : TypeId} {H : Type} {enc : TypeId × Value → H} {w : World} {base b0 : Nat} {spare : Nat → Bool} {held : Bool} {r : Reach} {v : Value} {d : DataW H} {ps : List MemPlace} (ht : tok P τ t) (hval : Value.okWide P w r b0 t v) (hd : DataW.Trod enc P w base spare held t v d ps) :
    ∃ x : τ.T, SOwn (fullI w) w (.d τ x .ro) v Em ∧ goodT τ x := by
  obtain ⟨fuel, hf⟩ := hd
  obtain ⟨x, hx, hg⟩ := opens_ty τ (.inl t) ht H enc w base spare held fuel _ _ hf
  refine ⟨x, ⟨v.cells.toList, ?_, hx⟩, hg⟩
  have hm := mkV_cells hx (by cases τ <;> first | rfl | exact (isRo_ok _))
  have ht' := ht
  cases τ with
  | int k =>
    simp only [tok, tokB, one, Bool.and_eq_true] at ht'
    have hu := ht'.2
    split at hu
    · rename_i hu'
      obtain ⟨n, rfl⟩ := okWide_int hu' hval
      rfl
    · cases hu
  | bool =>
    simp only [tok, tokB, one, Bool.and_eq_true] at ht'
    have hu := ht'.2
    split at hu
    · rename_i hu'
      obtain ⟨n, rfl⟩ := okWide_bool hu' hval
      rfl
    · cases hu
  | str =>
    simp only [tok, tokB, one, Bool.and_eq_true] at ht'
    have hu := ht'.2
    split at hu
    · rename_i hu'
      obtain ⟨n, rfl⟩ := okWide_string hu' hval
      rfl
    · cases hu
  | row e =>
    simp only [tok, tokB, one, Bool.and_eq_true] at ht'
    have hu := ht'.2
    split at hu
    · rename_i hu'
      obtain ⟨a, len, cap, rfl⟩ := okWide_slice hu' hval
      rfl
    · cases hu
  | pair a b => simp [tok, tokB] at ht'
  | st a =>
    simp only [tok, tokB, one, Bool.and_eq_true] at ht'
    have hu := ht'.2
    split at hu
    · rename_i hu'
      obtain ⟨cs, rfl, _⟩ := okWide_struct hu' hval
      rfl
    · cases hu
where isRo_ok : (τ : Ty) → Fl.ok τ .ro = true
  | .int _ | .bool | .str | .row _ => rfl
  | .pair a b => by simp only [Fl.ok, Fl.l, Fl.r, isRo_ok a, isRo_ok b, Bool.and_self]
  | .st a => by simp only [Fl.ok, isRo_ok a]
/-- a law that answers true -/
theorem row_of {P : Program} {J : Jd P} {n : FuncId} {ps : List Par} {F : ProdT (ps.map (·.τ)) → Option (ProdT (outs ps [⟨.bool, .ro, false⟩]))} (h : Snd P J n ⟨ps, [⟨.bool, .ro, false⟩], F⟩) (hp : ps.all (fun p => decide (p.m = .rd)) = true) {x : ProdT (ps.map (·.τ))} {r : ProdT (outs ps [⟨.bool, .ro, false⟩])} (hF : F x = some r) (hr : unpack _ r = [⟨.bool, true⟩])
    {w : World} {vs : Array Value} (hn : J.n ≤ w.heap.size) (hj : J.J w) (hsz : vs.size = ps.length) (ha : ∀ (i : Nat) (p : Par) (s : Sv), ps[i]? = some p → (unpack _ x)[i]? = some s → SOwn (fullI w) w (.d s.1 s.2 .ro) (vs.getD i undef) Em) :
    Calls P n vs w fun e w' => e = .returned (.bool true) ∧ Below w.heap.size w w' := by
  refine (h x r hF (fullI w) w vs (fun _ => Em) (fun b hb => ?_) ⟨hn, fun b hb => (hb.elim fun _ x => x.elim), hj⟩ hsz (fun _ _ x => x.elim) (fun _ _ _ => Dj.em _) fun i p s h1 h2 => ?_).mono ?_
  · simp only [fullI, Array.getElem?_eq_none hb]
  · have := List.all_eq_true.1 hp p (List.mem_of_getElem? h1)
    simp only [decide_eq_true_eq] at this
    simp only [parAV, this]
    exact ha i p s h1 h2
  · rintro e w' ⟨v, ξ', tr, tb, rfl, F, _, ho, _⟩
    refine ⟨?_, F.os, F.tape, F.output, F.size, fun b hb => (F.blk b hb fun ⟨_, x⟩ => x).1⟩
    rw [hr] at ho
    obtain ⟨cs, rfl, h1, h2⟩ := ho
    rw [h2 (by simp)]
    rfl
end Go.Proofs.Ytabindnaedchgaa.Rf
