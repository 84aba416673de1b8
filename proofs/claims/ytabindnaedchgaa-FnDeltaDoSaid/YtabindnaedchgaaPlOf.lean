/- The delta from one book to another, the reference's side. -/
import Derived.Test.YtabindnaedchgaaPlDelta
namespace Go.Proofs.Ytabindnaedchgaa.Rf
open Go Go.RowKit
set_option linter.unusedVariables false
set_option linter.unusedSimpArgs false
theorem ent_beq' (a b : En) : ((a.1.toList == b.1.toList) && (a.2.toList == b.2.toList)) = decide (a = b) := by
  rw [eq_beq, eq_beq, Bool.eq_iff_iff]
  simp only [Bool.and_eq_true, decide_eq_true_eq]
  exact ⟨fun ⟨h1, h2⟩ => Prod.ext h1 h2, fun h => h ▸ ⟨rfl, rfl⟩⟩
theorem spec_l5Affixes_al (l m : List Aff) (hl : Sm l.length) : Al fun k => spec_l5Affixes.f k l m = some (decide (l = m)) := by
  by_cases hlen : l.length = m.length
  case neg =>
    refine Al.now fun k => ?_
    rw [spec_l5Affixes.f_eq, show ((l.length : Int) != (m.length : Int)) = true by rw [bne_iff_ne]; omega, ifb_t, decide_eq_false fun e => hlen (by rw [e])]
  have key : ∀ (t : List Aff) (i : Nat), l.drop i = t → Al2 fun k k1 => spec_l5Affixes.L4 k k1 l m (i : Int) = some (decide (t = m.drop i)) := by
    intro t
    induction t with
    | nil =>
      intro i hd
      have he := drop_nil hd
      refine Al2.succ (Al2.now fun k k1 => ?_)
      rw [spec_l5Affixes.L4_eq, at_end he, ifb_f, List.drop_eq_nil_of_le (show m.length ≤ i by omega), decide_eq_true rfl]
    | cons x t ih =>
      intro i hd
      obtain ⟨hi, g1, g2⟩ := drop_cons zA hd
      obtain ⟨c1, c2, c3, c4⟩ := at_i hi hl
      have hm : i < m.length := by omega
      have hmd : m.drop i = m[i] :: m.drop (i + 1) := List.drop_eq_getElem_cons hm
      have gm : m.getD i zA = m[i] := by rw [List.getD_eq_getElem?_getD, List.getElem?_eq_getElem hm]; rfl
      have cm : decide ((i : Int) < (m.length : Int)) = true := decide_eq_true (by omega)
      refine Al2.succ ((ih (i + 1) g2).mono fun k k1 e => ?_)
      simp only [spec_l5Affixes.L4_eq, c1, c2, c3, w64, c4, g1, cm, gm, Bool.and_self, ifb_t, e, aff_beq, hmd]
      by_cases h : x = m[i]
      · rw [decide_eq_true h, Bool.not_true, ifb_f]
        exact congrArg some (decide_eq_decide.2 ⟨fun e => by rw [h, e], fun e => (List.cons.inj e).2⟩)
      · rw [decide_eq_false h, Bool.not_false, ifb_t]
        exact congrArg some (decide_eq_false fun e => h (List.cons.inj e).1).symm
  refine (key l 0 rfl).diag.mono fun k e => ?_
  rw [spec_l5Affixes.f_eq, show ((l.length : Int) != (m.length : Int)) = false by rw [hlen]; simp, ifb_f, show (0 : Int) = ((0 : Nat) : Int) from rfl, e]
  rfl
/-- an entry that the other book does not hold -/
def newE (l : List En) (e : En) : Bool := !thereE l e.1 || !decide (l.getD (atE l e.1) zE = e)
def goesOf (a b : Book) : List ByteArray := (a.2.filter fun e => !thereE b.2 e.1).map fun e => e.1
def comesOf (a b : Book) : List En := b.2.filter fun e => newE a.2 e
def deltaOf (a b : Book) : Delta := if bookB a && bookB b then (goesOf a b, comesOf a b, !decide (a.1 = b.1), if a.1 = b.1 then [] else b.1) else ([], [], false, [])
theorem there_at {l : List En} {s : ByteArray} (h : thereE l s = true) : atE l s < l.length := by
  unfold thereE at h
  split at h
  · rename_i e t hd
    refine Decidable.byContradiction fun hn => ?_
    rw [List.drop_eq_nil_of_le (by omega)] at hd
    cases hd
  · cases h
theorem spec_DeltaOf_al (a b : Book) (ha : smB a) (hb : smB b) : Al fun k => spec_DeltaOf.f k a b = some (deltaOf a b) := by
  have e0 := (spec_BookOk_al a ha).and (spec_BookOk_al b hb)
  cases h1 : bookB a with
  | false => exact e0.mono fun k ⟨e1, e2⟩ => by simp only [spec_DeltaOf.f_eq, e1, h1, Option.bind_some, Bool.not_false, ifb_t, deltaOf, Bool.false_and, Bool.false_eq_true, if_false]
  | true =>
  cases h2 : bookB b with
  | false => exact e0.mono fun k ⟨e1, e2⟩ => by simp only [spec_DeltaOf.f_eq, e1, e2, h1, h2, Option.bind_some, Bool.not_false, Bool.not_true, ifb_t, ifb_f, deltaOf, Bool.true_and, Bool.false_eq_true, if_false]
  | true =>
  obtain ⟨n1, n2⟩ := len_ok h1
  obtain ⟨n3, n4⟩ := len_ok h2
  have sA : Sm a.2.length := by unfold Sm; omega
  have sB : Sm b.2.length := by unfold Sm; omega
  have sF : Sm a.1.length := by unfold Sm; omega
  have two : ∀ (t : List En) (i : Nat) (g : List ByteArray) (c : List En), b.2.drop i = t → c ++ (t.filter fun e => newE a.2 e) = comesOf a b → c.length ≤ i →
      Al2 fun k k1 => spec_DeltaOf.L11 k k1 a b ([], [], false, []) (g, c, false, []) (i : Int) = some (g, comesOf a b, !decide (a.1 = b.1), if a.1 = b.1 then [] else b.1) := by
    intro t
    induction t with
    | nil =>
      intro i g c hd hc hl
      refine Al2.succ ((spec_l5Affixes_al a.1 b.1 sF).fst.mono fun k k1 e => ?_)
      rw [List.filter_nil, List.append_nil] at hc
      subst hc
      have m1 : decide ((([] : List Aff).length + b.1.length) * 72 ≤ rowMax) = true := decide_eq_true (by simp [rowMax]; omega)
      simp only [spec_DeltaOf.L11_eq, at_end (drop_nil hd), ifb_f, e, Option.bind_some, m1, ifb_t, List.nil_append]
      by_cases h : a.1 = b.1 <;> simp [h, ifb_t, ifb_f]
    | cons x t ih =>
      intro i g c hd hc hl
      obtain ⟨hi, g1, g2⟩ := drop_cons zE hd
      obtain ⟨c1, c2, c3, c4⟩ := at_i hi sB
      have m1 : decide ((c.length + [x].length) * 32 ≤ rowMax) = true := decide_eq_true (by simp [rowMax]; omega)
      have r0 : decide ((0 : Int) ≤ (atE a.2 x.1 : Int)) = true := decide_eq_true (by omega)
      cases hn : newE a.2 x with
      | true =>
        rw [List.filter_cons_of_pos (by simpa using hn)] at hc
        refine Al2.succ (((spec_l5At_al a.2 x.1 sA).snd.and (ih (i + 1) g (c ++ [x]) g2 (by simpa using hc) (by simp; omega))).mono fun k k1 ⟨e1, e2⟩ => ?_)
        cases ht : thereE a.2 x.1 with
        | false => simp only [spec_DeltaOf.L11_eq, c1, c2, c3, w64, c4, g1, Bool.and_self, ifb_t, e1, Option.bind_some, ht, Bool.not_false, m1, e2]
        | true =>
          have r1 : decide ((atE a.2 x.1 : Int) < (a.2.length : Int)) = true := decide_eq_true (by have := there_at ht; omega)
          have hne : decide (a.2.getD (atE a.2 x.1) zE = x) = false := by simpa [newE, ht] using hn
          simp only [spec_DeltaOf.L11_eq, c1, c2, c3, w64, c4, g1, Bool.and_self, ifb_t, e1, Option.bind_some, ht, Bool.not_true, ifb_f, r0, r1, Int.toNat_natCast, ent_beq', hne, Bool.not_false, m1, e2]
      | false =>
        rw [List.filter_cons_of_neg (by simpa using hn)] at hc
        refine Al2.succ (((spec_l5At_al a.2 x.1 sA).snd.and (ih (i + 1) g c g2 hc (by omega))).mono fun k k1 ⟨e1, e2⟩ => ?_)
        have ht : thereE a.2 x.1 = true := by
          cases h : thereE a.2 x.1 with
          | true => rfl
          | false => simp [newE, h] at hn
        have r1 : decide ((atE a.2 x.1 : Int) < (a.2.length : Int)) = true := decide_eq_true (by have := there_at ht; omega)
        have hne : decide (a.2.getD (atE a.2 x.1) zE = x) = true := by simpa [newE, ht] using hn
        simp only [spec_DeltaOf.L11_eq, c1, c2, c3, w64, c4, g1, Bool.and_self, ifb_t, e1, Option.bind_some, ht, Bool.not_true, ifb_f, r0, r1, Int.toNat_natCast, ent_beq', hne, e2]
  have one : ∀ (t : List En) (i : Nat) (g : List ByteArray), a.2.drop i = t → g ++ ((t.filter fun e => !thereE b.2 e.1).map fun e => e.1) = goesOf a b → g.length ≤ i →
      Al2 fun k k1 => spec_DeltaOf.L5 k k1 a b ([], [], false, []) (g, [], false, []) (i : Int) = some (goesOf a b, comesOf a b, !decide (a.1 = b.1), if a.1 = b.1 then [] else b.1) := by
    intro t
    induction t with
    | nil =>
      intro i g hd hg hl
      refine Al2.succ ((two b.2 0 g [] rfl (by simp [comesOf]) (by simp)).diag.fst.mono fun k k1 e => ?_)
      simp only [List.filter_nil, List.map_nil, List.append_nil] at hg
      subst hg
      simp only [spec_DeltaOf.L5_eq, at_end (drop_nil hd), ifb_f]
      exact e
    | cons x t ih =>
      intro i g hd hg hl
      obtain ⟨hi, g1, g2⟩ := drop_cons zE hd
      obtain ⟨c1, c2, c3, c4⟩ := at_i hi sA
      have m1 : decide ((g.length + [x.1].length) * 16 ≤ rowMax) = true := decide_eq_true (by simp [rowMax]; omega)
      cases ht : thereE b.2 x.1 with
      | false =>
        rw [List.filter_cons_of_pos (by simp [ht])] at hg
        refine Al2.succ (((spec_l5At_al b.2 x.1 sB).snd.and (ih (i + 1) (g ++ [x.1]) g2 (by simpa using hg) (by simp; omega))).mono fun k k1 ⟨e1, e2⟩ => ?_)
        simp only [spec_DeltaOf.L5_eq, c1, c2, c3, w64, c4, g1, Bool.and_self, ifb_t, e1, Option.bind_some, ht, Bool.not_false, m1, e2]
      | true =>
        rw [List.filter_cons_of_neg (by simp [ht])] at hg
        refine Al2.succ (((spec_l5At_al b.2 x.1 sB).snd.and (ih (i + 1) g g2 hg (by omega))).mono fun k k1 ⟨e1, e2⟩ => ?_)
        simp only [spec_DeltaOf.L5_eq, c1, c2, c3, w64, c4, g1, Bool.and_self, ifb_t, e1, Option.bind_some, ht, Bool.not_true, ifb_f, e2]
  refine (e0.and (one a.2 0 [] rfl (by simp [goesOf]) (by simp)).diag).mono fun k ⟨⟨e1, e2⟩, e3⟩ => ?_
  simp only [spec_DeltaOf.f_eq, e1, e2, h1, h2, Option.bind_some, Bool.not_true, ifb_f, deltaOf, Bool.and_self, if_true]
  exact e3
end Go.Proofs.Ytabindnaedchgaa.Rf
