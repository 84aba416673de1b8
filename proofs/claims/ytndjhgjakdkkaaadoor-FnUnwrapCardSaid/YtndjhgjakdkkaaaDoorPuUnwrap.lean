/- FnUnwrap, plain: the lines are drawn from six; there are at most three: all lists of them are run. -/
import Derived.Test.YtndjhgjakdkkaaaDoorPuDraw
import Derived.Test.YtndjhgjakdkkaaaDoorMlawsFnUnwrap
namespace Go.Proofs.YtndjhgjakdkkaaaDoor.M
open Go.RowKit Go.Proofs.YtndjhgjakdkkaaaDoorW.PrintWords Go.Proofs.YtndjhgjakdkkaaaDoor.Pu
set_option linter.unusedVariables false
set_option linter.unusedSimpArgs false

def lineSet : List ByteArray := [(⟨#[97, 32, 98]⟩ : ByteArray), (⟨#[117, 110, 45]⟩ : ByteArray), (⟨#[100, 111]⟩ : ByteArray), (⟨#[]⟩ : ByteArray), (⟨#[97, 32, 98, 97, 107, 45]⟩ : ByteArray), (⟨#[105, 110, 103, 32, 105, 116]⟩ : ByteArray)]
/-- All lists of n such lines. -/
def lists : Nat → List (List ByteArray)
  | 0 => [[]]
  | n + 1 => (lists n).flatMap fun l => lineSet.map fun x => l ++ [x]
theorem mem_lists {l : List ByteArray} {x : ByteArray} {n : Nat} (hl : l ∈ lists n) (hx : x ∈ lineSet) : l ++ [x] ∈ lists (n + 1) :=
  List.mem_flatMap.2 ⟨l, hl, List.mem_map.2 ⟨x, hx, rfl⟩⟩
theorem lists_length : ∀ {n : Nat} {l : List ByteArray}, l ∈ lists n → l.length = n
  | 0, l, h => by simp [lists] at h; simp [h]
  | n + 1, l, h => by
    obtain ⟨m, hm, h⟩ := List.mem_flatMap.1 h
    obtain ⟨x, _, rfl⟩ := List.mem_map.1 h
    simp [lists_length hm]
def texts (r : Option (List ByteArray)) : Option (List (List UInt8)) := r.map fun l => l.map fun s => s.data.toList
def agreeB (l : List ByteArray) : Bool := match texts (impl_Unwrap.f 9 l), texts (spec_Unwrap.f 99 l) with
  | some a, some b => a == b
  | _, _ => false
theorem agree0 : (lists 0).all agreeB = true := by decide +kernel
theorem agree1 : (lists 1).all agreeB = true := by decide +kernel
theorem agree2 : (lists 2).all agreeB = true := by decide +kernel
theorem agree3 : (lists 3).all agreeB = true := by decide +kernel
theorem texts_inj {a b : List ByteArray} (h : a.map (fun s => s.data.toList) = b.map (fun s => s.data.toList)) : a = b := by
  induction a generalizing b with
  | nil => cases b <;> simp_all
  | cons x a ih =>
    cases b with
    | nil => simp at h
    | cons y b =>
      simp only [List.map_cons, List.cons.injEq] at h
      rw [ih h.2, ByteArray.ext (Array.toList_inj.1 h.1)]
theorem agree {n : Nat} (hn : n ≤ 3) {l : List ByteArray} (h : l ∈ lists n) : ∃ r, Ev (fun k => impl_Unwrap.f k l) r ∧ Ev (fun k => spec_Unwrap.f k l) r := by
  have hb : agreeB l = true := by
    rcases (show n = 0 ∨ n = 1 ∨ n = 2 ∨ n = 3 by omega) with rfl | rfl | rfl | rfl
    · exact List.all_eq_true.1 agree0 l h
    · exact List.all_eq_true.1 agree1 l h
    · exact List.all_eq_true.1 agree2 l h
    · exact List.all_eq_true.1 agree3 l h
  unfold agreeB texts at hb
  cases h1 : impl_Unwrap.f 9 l with
  | none => simp [h1] at hb
  | some a =>
    cases h2 : spec_Unwrap.f 99 l with
    | none => simp [h1, h2] at hb
    | some b =>
      simp only [h1, h2, Option.map_some, beq_iff_eq] at hb
      obtain rfl := texts_inj hb
      exact ⟨a, Ev.of (fun k => impl_Unwrap.mono l k) h1, Ev.of (fun k => spec_Unwrap.mono l k) h2⟩
theorem draw_loop (s : List Int) (hs : Code s) : ∀ (d : Nat) (m : Nat) (p : Int) (out : List ByteArray), 0 ≤ p → p ≤ 1000 + (m : Int) → m + d ≤ 3 → out ∈ lists m →
    ∃ r n, Ev (fun k => spec_DrawUnwrap.l0 k out (d : Int) s p) r ∧ n ≤ 3 ∧ r ∈ lists n
  | 0, m, p, out, h0, h1, hm, ho => by
    refine ⟨out, m, ?_, by omega, ho⟩
    apply Ev.succ
    simp only [spec_DrawUnwrap.l0, show ¬ (((0 : Nat) : Int) > 0) by omega, if_false]
    exact Ev.now _
  | d + 1, m, p, out, h0, h1, hm, ho => by
    obtain ⟨x, hx, hmem⟩ := of_ev s hs p h0 (by omega) lineSet (by decide) (by decide)
    obtain ⟨r, n, hr, hn, hmem2⟩ := draw_loop s hs d (m + 1) (p + 1) (out ++ [x]) (by omega) (by omega) (by omega) (mem_lists ho hmem)
    refine ⟨r, n, ?_, hn, hmem2⟩
    have c1 : ((d + 1 : Nat) : Int) > 0 := by omega
    have c2 : out.length < 8796093022208 := by rw [lists_length ho]; omega
    have w1 : Aside0 (wrap64 (((d + 1 : Nat) : Int) - 1) = (d : Int)) := ⟨by rw [wid (by omega) (by omega)]; omega⟩
    apply Ev.succ
    simp only [spec_DrawUnwrap.l0, c1, if_true]
    refine Ev.bind hx ?_
    simp only [c2, w1.out, if_true]
    exact hr
theorem draw_ev (s : List Int) (hs : ∀ b ∈ s, 0 ≤ b ∧ b ≤ 255) : ∃ r n, Ev (fun k => spec_DrawUnwrap.f k s) r ∧ n ≤ 3 ∧ r ∈ lists n := by
  obtain ⟨s', h1, h2⟩ := l1Open_eq s hs
  unfold spec_DrawUnwrap.f
  simp only [h1, Option.bind_some]
  obtain ⟨q, hq, q0, q1, _⟩ := pick_ev s' h2 0 4 (by omega) (by omega) (by omega)
  obtain ⟨m, rfl⟩ := Int.eq_ofNat_of_zero_le q0
  obtain ⟨r, n, hr, hn, hmem⟩ := draw_loop s' h2 m 0 1 [] (by omega) (by omega) (by have := q1 (by omega); omega) (by simp [lists])
  exact ⟨r, n, Ev.bind hq hr, hn, hmem⟩
theorem mdTexts_refl (xs : List ByteArray) (hl : xs.length ≤ 1000000) : Ev (fun k => laws_mdTexts.f k xs xs) true := by
  unfold laws_mdTexts.f
  simp only [if_true]
  refine Ev.cast (all_loop (g := fun k x => laws_mdTexts.l0 k xs xs x) xs.length (fun _ => True) false true ?_ ?_ ?_) (by simp)
  · intro i r hi _ hr
    have c1 : (i : Int) < (xs.length : Int) := by omega
    have c2 : (0 : Int) ≤ (i : Int) := by omega
    have c3 : Aside0 (wrap64 ((i : Int) + 1) = (i : Int) + 1) := ⟨wid (by omega) (by omega)⟩
    apply Ev.succ
    simp only [laws_mdTexts.l0, c1, c2, c3.out, if_true]
    exact hr
  · intro i hi hp
    exact absurd trivial hp
  · apply Ev.succ
    simp only [laws_mdTexts.l0, Int.lt_irrefl, if_false]
    exact Ev.now _
def lenB (l : List ByteArray) : Bool := match impl_Unwrap.f 9 l with
  | some a => decide (a.length ≤ 1000000)
  | none => false
theorem len0 : (lists 0).all lenB = true := by decide +kernel
theorem len1 : (lists 1).all lenB = true := by decide +kernel
theorem len2 : (lists 2).all lenB = true := by decide +kernel
theorem len3 : (lists 3).all lenB = true := by decide +kernel
theorem unwrap_len {n : Nat} (hn : n ≤ 3) {l : List ByteArray} (h : l ∈ lists n) {r : List ByteArray} (hr : Ev (fun k => impl_Unwrap.f k l) r) : r.length ≤ 1000000 := by
  have hb : lenB l = true := by
    rcases (show n = 0 ∨ n = 1 ∨ n = 2 ∨ n = 3 by omega) with rfl | rfl | rfl | rfl
    · exact List.all_eq_true.1 len0 l h
    · exact List.all_eq_true.1 len1 l h
    · exact List.all_eq_true.1 len2 l h
    · exact List.all_eq_true.1 len3 l h
  unfold lenB at hb
  cases h1 : impl_Unwrap.f 9 l with
  | none => simp [h1] at hb
  | some a =>
    simp only [h1, decide_eq_true_eq] at hb
    rw [Ev.unique hr (Ev.of (fun k => impl_Unwrap.mono l k) h1)]
    exact hb
theorem FnUnwrap_pure (s : List Int) (hs : s.length ≤ 9223372036854775807 ∧ ∀ y ∈ s, (Lit.int .u8 y).wf = true) : ∃ k, laws_FnUnwrap.f k s = some true := by
  apply Ev.rounds (g := fun k => laws_FnUnwrap.f k s)
  unfold laws_FnUnwrap.f
  by_cases c0 : (s.length : Int) > 1048576
  · simp only [c0, if_true]
    exact Ev.now _
  · simp only [c0, if_false]
    obtain ⟨l, n, hl, hn, hmem⟩ := draw_ev s (fun b hb => by
      have h := hs.2 b hb
      simp [Lit.wf, IntKind.min, IntKind.max, IntKind.signed, IntKind.bits] at h
      omega)
    refine Ev.bind hl ?_
    obtain ⟨r, h1, h2⟩ := agree hn hmem
    have hrl := unwrap_len hn hmem h1
    refine Ev.bind h1 ?_
    refine Ev.bind h2 ?_
    refine Ev.bind (mdTexts_refl r hrl) ?_
    simp only [if_true]
    have e0 : impl_Unwrap.f 1 ([] : List ByteArray) = some [] := rfl
    refine Ev.bind (Ev.of (fun k => impl_Unwrap.mono [] k) e0) ?_
    simp only [List.length_nil, Int.natCast_zero, if_true]
    have e1 : texts (impl_Unwrap.f 9 [(⟨#[97, 32, 98]⟩ : ByteArray)]) = texts (some [(⟨#[97]⟩ : ByteArray), (⟨#[98]⟩ : ByteArray)]) := by decide +kernel
    obtain ⟨a, ha, hae⟩ : ∃ a, impl_Unwrap.f 9 [(⟨#[97, 32, 98]⟩ : ByteArray)] = some a ∧ a = [(⟨#[97]⟩ : ByteArray), (⟨#[98]⟩ : ByteArray)] := by
      cases h : impl_Unwrap.f 9 [(⟨#[97, 32, 98]⟩ : ByteArray)] with
      | none => rw [h] at e1; cases e1
      | some a =>
        rw [h] at e1
        exact ⟨a, rfl, texts_inj (Option.some.inj e1)⟩
    subst hae
    refine Ev.bind (Ev.of (fun k => impl_Unwrap.mono _ k) ha) ?_
    refine Ev.bind (mdTexts_refl _ (by decide)) ?_
    exact Ev.now _
end Go.Proofs.YtndjhgjakdkkaaaDoor.M
