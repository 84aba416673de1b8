/- From a contract that is told of memory to one that is told of plain values. Nothing of any program. -/
import Derived.Test.YtabindnaedchgaaRf25
namespace Go.Proofs.Ytabindnaedchgaa.Rf
open Go Go.RowKit
set_option linter.unusedVariables false
set_option linter.unusedSimpArgs false
theorem fr_of_below {T : Bs} {ξ : Im} {w w' : World} (h : Below w.heap.size w w') (wf : Wf ξ w) : Fr T ξ w ξ w' ∧ Wf ξ w' :=
  ⟨⟨h.os, h.tape, h.output, h.size, fun b hb _ => ⟨h.block b hb, rfl⟩, fun b o v _ hv => (cell_eq (h.block b (cell_lt hv)) o).trans hv, fun _ _ => Nat.le_refl _⟩, fun b hb => wf b (Nat.le_trans h.size hb)⟩
/-- what is read as a row: where it lies -/
theorem Rel.row_ro {ξ : Im} {w : World} {e : Ty} {l : List e.T} {cs : List Value} {T : Bs} (h : Rel ξ w (.row e) .ro l cs T) :
    ∃ A cap, cs = [.slice A l.length cap] ∧ l.length ≤ cap ∧ ∀ i (h : i < l.length), ∃ a c, A = some a ∧ a.spot = none ∧ c.length = e.n ∧ CAt w a.block (a.off + i * e.n) c ∧ Rel ξ w e .ro l[i] c Em := by
  obtain ⟨A, cap, h1, h2, h3⟩ := h
  refine ⟨A, cap, h1, h2, fun i hi => ?_⟩
  obtain ⟨a, c, k1, k2, k3, k4, k5, k6⟩ := h3 i hi
  exact ⟨a, c, k1, k2, k3, k4, k6⟩
/-- a function that turns nothing, by what the kit tells of it -/
theorem snd_ro {P : Program} {J : Jd P} {n : FuncId} {ps : List Par} {rs : List Res} {F : ProdT (ps.map (·.τ)) → Option (ProdT (outs ps rs))} (hp : ps.all (fun p => !p.isIn) = true)
    (h : ∀ x r, F x = some r → ∀ (ξ : Im) (w : World) (vs : Array Value), Wf ξ w → J.J w → vs.size = ps.length → (∀ (i : Nat) (p : Par) (s : Sv), ps[i]? = some p → (unpack _ x)[i]? = some s → ∃ T, SOwn ξ w (parAV p s) (vs.getD i undef) T) →
      Calls P n vs w fun e w' => ∃ v, ∃ tr : Bs, e = .returned v ∧ Below w.heap.size w w' ∧ SOwn ξ w' (oneAV (resAV rs (unpack _ r))) v tr ∧ ∀ b, tr b → w.heap.size ≤ b ∧ b < w'.heap.size) :
    Snd P J n ⟨ps, rs, F⟩ := by
  intro x r hr ξ w vs tk wf hG hsz lt dj hargs
  refine (h x r hr ξ w vs wf hG.j hsz fun i p s h1 h2 => ⟨_, hargs i p s h1 h2⟩).mono ?_
  rintro e w' ⟨v, tr, he, hb, ho, ht⟩
  obtain ⟨f, wf'⟩ := fr_of_below (T := fun b => ∃ i, tk i b) hb wf
  refine ⟨v, ξ, tr, Em, he, f, wf', ho, fun i p h1 h2 => ?_, Dj.em' _, fun b hb' => hb'.elim (fun x => ⟨.inr (ht b x).1, (ht b x).2⟩) fun x => x.elim⟩
  have := List.all_eq_true.1 hp p (List.mem_of_getElem? h1)
  simp [h2] at this
theorem own_str {ξ : Im} {w : World} {x : ByteArray} {f : Fl} {v : Value} {T : Bs} (hf : f ≠ .gone) (h : SOwn ξ w (.d .str x f) v T) : v = .string x := by
  obtain ⟨cs, rfl, h1, h2⟩ := h
  rw [h2 hf]; rfl
theorem own_int {ξ : Im} {w : World} {k : IntKind} {x : Int} {f : Fl} {v : Value} {T : Bs} (hf : f ≠ .gone) (h : SOwn ξ w (.d (.int k) x f) v T) : v = .int k x := by
  obtain ⟨cs, rfl, h1, h2⟩ := h
  rw [h2 hf]; rfl
theorem of_int (ξ : Im) (w : World) (k : IntKind) (x : Int) (T : Bs) : SOwn ξ w (.d (.int k) x .ro) (.int k x) T := ⟨[.int k x], rfl, rfl, fun _ => rfl⟩
theorem of_bool (ξ : Im) (w : World) (x : Bool) (T : Bs) : SOwn ξ w (.d .bool x .ro) (.bool x) T := ⟨[.bool x], rfl, rfl, fun _ => rfl⟩
theorem of_str (ξ : Im) (w : World) (x : ByteArray) (T : Bs) : SOwn ξ w (.d .str x .ro) (.string x) T := ⟨[.string x], rfl, rfl, fun _ => rfl⟩
theorem vs_one {vs : Array Value} {a : Value} (h : vs.size = 1) (h0 : vs.getD 0 undef = a) : vs = #[a] := by
  apply Array.ext
  · simp [h]
  · intro i h1 h2
    obtain rfl : i = 0 := by omega
    simp [Array.getD_eq_getD_getElem?, h] at h0
    simp [h0]
theorem vs_two {vs : Array Value} {a b : Value} (h : vs.size = 2) (h0 : vs.getD 0 undef = a) (h1 : vs.getD 1 undef = b) : vs = #[a, b] := by
  apply Array.ext
  · simp [h]
  · intro i i1 i2
    have : i = 0 ∨ i = 1 := by omega
    rcases this with rfl | rfl
    · simp [Array.getD_eq_getD_getElem?, h] at h0; simp [h0]
    · simp [Array.getD_eq_getD_getElem?, h] at h1; simp [h1]
/-- two texts side by side -/
theorem rel_pair {ξ : Im} {w : World} {x : ByteArray × ByteArray} {c : List Value} {T : Bs} (h : Rel ξ w (.st (.pair .str .str)) .ro x c T) : c = [.string x.1, .string x.2] := by
  obtain ⟨c1, c2, T1, T2, rfl, h1, _, _, _, h2, h3⟩ := h
  rw [h2.2 (by simp [Fl.l]), h3.2 (by simp [Fl.r])]
  rfl
theorem pair_rel (ξ : Im) (w : World) (x : ByteArray × ByteArray) (T : Bs) : Rel ξ w (.st (.pair .str .str)) .ro x [.string x.1, .string x.2] T :=
  ⟨[.string x.1], [.string x.2], Em, Em, rfl, rfl, Sb.em _, Sb.em _, Dj.em _, ⟨rfl, fun _ => rfl⟩, ⟨rfl, fun _ => rfl⟩⟩
end Go.Proofs.Ytabindnaedchgaa.Rf
