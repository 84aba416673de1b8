/- The law FnDeltaDo is true. -/
import Derived.Test.YtabindnaedchgaaPlDraw3
import Derived.Test.YtabindnaedchgaaPlLaw2
import Derived.Test.YtabindnaedchgaaRf27
namespace Go.Proofs.Ytabindnaedchgaa.Rf
open Go Go.RowKit
set_option linter.unusedVariables false
set_option linter.unusedSimpArgs false
theorem mdBook_al (a b : Book) (h1 : Sm a.1.length) (h2 : Sm a.2.length) : Al fun k => laws_mdBook.f k a b = some (decide (a = b)) := by
  by_cases hl1 : a.1.length = b.1.length
  case neg =>
    refine Al.now fun k => ?_
    rw [laws_mdBook.f_eq, show ((a.1.length : Int) != (b.1.length : Int)) = true by rw [bne_iff_ne]; omega, ifb_t, decide_eq_false fun e => hl1 (by rw [e])]
  by_cases hl2 : a.2.length = b.2.length
  case neg =>
    refine Al.now fun k => ?_
    rw [laws_mdBook.f_eq, show ((a.1.length : Int) != (b.1.length : Int)) = false by rw [hl1]; simp, ifb_f, show ((a.2.length : Int) != (b.2.length : Int)) = true by rw [bne_iff_ne]; omega, ifb_t, decide_eq_false fun e => hl2 (by rw [e])]
  have two : ∀ (t : List En) (i : Nat), a.2.drop i = t → Al2 fun k k1 => laws_mdBook.L9 k k1 a b (i : Int) = some (decide (t = b.2.drop i)) := by
    intro t
    induction t with
    | nil =>
      intro i hd
      have he := drop_nil hd
      refine Al2.succ (Al2.now fun k k1 => ?_)
      rw [laws_mdBook.L9_eq, at_end he, ifb_f, List.drop_eq_nil_of_le (show b.2.length ≤ i by omega), decide_eq_true rfl]
    | cons x t ih =>
      intro i hd
      obtain ⟨hi, g1, g2⟩ := drop_cons zE hd
      obtain ⟨c1, c2, c3, c4⟩ := at_i hi h2
      have hm : i < b.2.length := by omega
      have hmd : b.2.drop i = b.2[i] :: b.2.drop (i + 1) := List.drop_eq_getElem_cons hm
      have gm : b.2.getD i zE = b.2[i] := by rw [List.getD_eq_getElem?_getD, List.getElem?_eq_getElem hm]; rfl
      have cm : decide ((i : Int) < (b.2.length : Int)) = true := decide_eq_true (by omega)
      refine Al2.succ ((ih (i + 1) g2).mono fun k k1 e => ?_)
      simp only [laws_mdBook.L9_eq, c1, c2, c3, w64, c4, g1, cm, gm, Bool.and_self, ifb_t, e, ent_beq, hmd]
      by_cases h : x = b.2[i]
      · rw [decide_eq_true h, Bool.not_true, ifb_f]
        exact congrArg some (decide_eq_decide.2 ⟨fun e => by rw [h, e], fun e => (List.cons.inj e).2⟩)
      · rw [decide_eq_false h, Bool.not_false, ifb_t]
        exact congrArg some (decide_eq_false fun e => h (List.cons.inj e).1).symm
  have one : ∀ (t : List Aff) (i : Nat), a.1.drop i = t → Al2 fun k k1 => laws_mdBook.L4 k k1 a b (i : Int) = some (decide (t = b.1.drop i) && decide (a.2 = b.2)) := by
    intro t
    induction t with
    | nil =>
      intro i hd
      have he := drop_nil hd
      refine Al2.succ ((two a.2 0 rfl).diag.fst.mono fun k k1 e => ?_)
      rw [laws_mdBook.L4_eq, at_end he, ifb_f, List.drop_eq_nil_of_le (show b.1.length ≤ i by omega), decide_eq_true rfl, Bool.true_and]
      exact e
    | cons x t ih =>
      intro i hd
      obtain ⟨hi, g1, g2⟩ := drop_cons zA hd
      obtain ⟨c1, c2, c3, c4⟩ := at_i hi h1
      have hm : i < b.1.length := by omega
      have hmd : b.1.drop i = b.1[i] :: b.1.drop (i + 1) := List.drop_eq_getElem_cons hm
      have gm : b.1.getD i zA = b.1[i] := by rw [List.getD_eq_getElem?_getD, List.getElem?_eq_getElem hm]; rfl
      have cm : decide ((i : Int) < (b.1.length : Int)) = true := decide_eq_true (by omega)
      refine Al2.succ ((ih (i + 1) g2).mono fun k k1 e => ?_)
      simp only [laws_mdBook.L4_eq, c1, c2, c3, w64, c4, g1, cm, gm, Bool.and_self, ifb_t, e, aff_beq, hmd]
      by_cases h : x = b.1[i]
      · rw [decide_eq_true h, Bool.not_true, ifb_f]
        exact congrArg (fun z => some (z && decide (a.2 = b.2))) (decide_eq_decide.2 ⟨fun e => by rw [h, e], fun e => (List.cons.inj e).2⟩)
      · rw [decide_eq_false h, Bool.not_false, ifb_t, decide_eq_false fun e => h (List.cons.inj e).1]
        rfl
  refine (one a.1 0 rfl).diag.mono fun k e => ?_
  rw [laws_mdBook.f_eq, show ((a.1.length : Int) != (b.1.length : Int)) = false by rw [hl1]; simp, ifb_f, show ((a.2.length : Int) != (b.2.length : Int)) = false by rw [hl2]; simp, ifb_f, show (0 : Int) = ((0 : Nat) : Int) from rfl, e]
  refine congrArg some ?_
  rw [List.drop_zero, Bool.eq_iff_iff]
  simp only [Bool.and_eq_true, decide_eq_true_eq]
  exact ⟨fun ⟨h1, h2⟩ => Prod.ext h1 h2, fun h => h ▸ ⟨rfl, rfl⟩⟩
theorem mdHas_al (l : List ByteArray) (s : ByteArray) (hS : Sm l.length) : Al fun k => laws_mdHas.f k l s = some (inB_ l s) := by
  have key : ∀ (t : List ByteArray) (i : Nat), l.drop i = t → Al2 fun k k1 => laws_mdHas.L2 k k1 l s (i : Int) = some (inB_ t s) := by
    intro t
    induction t with
    | nil =>
      intro i hd
      refine Al2.succ (Al2.now fun k k1 => ?_)
      simp only [laws_mdHas.L2_eq, at_end (drop_nil hd), ifb_f]
      rfl
    | cons x t ih =>
      intro i hd
      obtain ⟨hi, g1, g2⟩ := drop_cons bz hd
      obtain ⟨c1, c2, c3, c4⟩ := at_i hi hS
      refine Al2.succ ((ih (i + 1) g2).mono fun k k1 e => ?_)
      simp only [laws_mdHas.L2_eq, c1, c2, c3, w64, c4, g1, Bool.and_self, ifb_t, e, eq_beq]
      unfold inB_
      rw [List.any_cons]
      cases decide (x = s)
      · rw [ifb_f, Bool.false_or]
      · rw [ifb_t, Bool.true_or]
  refine (key l 0 rfl).diag.mono fun k e => ?_
  rw [laws_mdHas.f_eq, show (0 : Int) = ((0 : Nat) : Int) from rfl, e]
theorem goes_al (b : Book) (d : Delta) (x : Book) (s1 : Sm b.2.length) (s2 : Sm d.2.1.length) (s3 : Sm d.1.length) (s4 : Sm x.2.length) (hx : Al fun k => impl_BookOk.f k x = some true)
    (H : ∀ e ∈ x.2, (e ∈ b.2 ∨ e ∈ d.2.1) ∧ inB_ d.1 e.1 = false) : Al fun k => laws_FnDeltaDo.L11 k k b d x 0 = some true := by
  have key : ∀ (t : List En) (i : Nat), x.2.drop i = t → Al2 fun k k1 => laws_FnDeltaDo.L11 k k1 b d x (i : Int) = some true := by
    intro t
    induction t with
    | nil =>
      intro i hd
      refine Al2.succ (hx.fst.mono fun k k1 e => ?_)
      rw [laws_FnDeltaDo.L11_eq, at_end (drop_nil hd), ifb_f, e, Option.bind_some]
    | cons e0 t ih =>
      intro i hd
      obtain ⟨hi, g1, g2⟩ := drop_cons zE hd
      obtain ⟨c1, c2, c3, c4⟩ := at_i hi s4
      have hmem : e0 ∈ x.2 := List.mem_of_mem_drop (show e0 ∈ x.2.drop i by rw [hd]; simp)
      obtain ⟨H1, H2⟩ := H e0 hmem
      have nx := ih (i + 1) g2
      -- what comes
      have L19 : ∀ (u : List En) (j : Nat), d.2.1.drop j = u → ∀ f : Bool, (f = true ∨ e0 ∈ u) → Al3 fun k k1 k2 => laws_FnDeltaDo.L19 k k1 k2 b d x (i : Int) f (j : Int) = some true := by
        intro u
        induction u with
        | nil =>
          intro j hj f hf
          have hf : f = true := hf.resolve_right (by simp)
          subst hf
          refine Al3.succ ((nx.fst.and ((mdHas_al d.1 e0.1 s3).snd.fst)).mono fun k k1 k2 ⟨e1, e2⟩ => ?_)
          simp only [laws_FnDeltaDo.L19_eq, at_end (drop_nil hj), ifb_f, Bool.not_true, c1, c2, c3, Bool.and_self, ifb_t, g1, e2, Option.bind_some, H2, w64, c4, e1]
        | cons y u ihu =>
          intro j hj f hf
          obtain ⟨hjl, q1, q2⟩ := drop_cons zE hj
          obtain ⟨d1, d2, d3, d4⟩ := at_i hjl s2
          cases f with
          | true =>
            refine Al3.succ ((ihu (j + 1) q2 true (.inl rfl)).mono fun k k1 k2 e1 => ?_)
            simp only [laws_FnDeltaDo.L19_eq, d1, ifb_t, w64, d4, e1]
          | false =>
            refine Al3.succ ((ihu (j + 1) q2 (decide (y = e0)) ?_).mono fun k k1 k2 e1 => ?_)
            · rcases hf with h | h
              · cases h
              · rcases List.mem_cons.1 h with h | h
                · exact .inl (decide_eq_true h.symm)
                · exact .inr h
            · simp only [laws_FnDeltaDo.L19_eq, d1, d2, d3, ifb_t, ifb_f, Bool.and_self, c1, c2, c3, w64, d4, q1, g1, ent_beq, e1]
      have L15 : ∀ (u : List En) (j : Nat), b.2.drop j = u → ∀ f : Bool, (f = true ∨ e0 ∈ u ∨ e0 ∈ d.2.1) → Al3 fun k k1 k2 => laws_FnDeltaDo.L15 k k1 k2 b d x (i : Int) f (j : Int) = some true := by
        intro u
        induction u with
        | nil =>
          intro j hj f hf
          have hf : f = true ∨ e0 ∈ d.2.1 := hf.imp id fun h => h.resolve_left (by simp)
          refine Al3.succ ((L19 d.2.1 0 rfl f hf).in2.fst.mono fun k k1 k2 e1 => ?_)
          simp only [laws_FnDeltaDo.L15_eq, at_end (drop_nil hj), ifb_f]
          exact e1
        | cons y u ihu =>
          intro j hj f hf
          obtain ⟨hjl, q1, q2⟩ := drop_cons zE hj
          obtain ⟨d1, d2, d3, d4⟩ := at_i hjl s1
          cases f with
          | true =>
            refine Al3.succ ((ihu (j + 1) q2 true (.inl rfl)).mono fun k k1 k2 e1 => ?_)
            simp only [laws_FnDeltaDo.L15_eq, d1, ifb_t, w64, d4, e1]
          | false =>
            refine Al3.succ ((ihu (j + 1) q2 (decide (y = e0)) ?_).mono fun k k1 k2 e1 => ?_)
            · rcases hf with h | h | h
              · cases h
              · rcases List.mem_cons.1 h with h | h
                · exact .inl (decide_eq_true h.symm)
                · exact .inr (.inl h)
              · exact .inr (.inr h)
            · simp only [laws_FnDeltaDo.L15_eq, d1, d2, d3, ifb_t, ifb_f, Bool.and_self, c1, c2, c3, w64, d4, q1, g1, ent_beq, e1]
      refine Al2.succ ((L15 b.2 0 rfl false (.inr H1)).in2.mono fun k k1 e1 => ?_)
      simp only [laws_FnDeltaDo.L11_eq, c1, ifb_t]
      exact e1
  exact (key x.2 0 rfl).diag
theorem doB_from {b : Book} {d : Delta} (hd : deltaB d = true) : ∀ e ∈ (doB b d).2, (e ∈ b.2 ∨ e ∈ d.2.1) ∧ inB_ d.1 e.1 = false := by
  intro e he
  simp only [doB, fold_mem] at he
  rcases he with he | he
  · unfold keepE at he
    obtain ⟨h1, h2⟩ := List.mem_filter.1 he
    simp only [Bool.and_eq_true, Bool.not_eq_true'] at h2
    exact ⟨.inl h1, h2.2⟩
  · refine ⟨.inr he, ?_⟩
    cases hi : inB_ d.1 e.1 with
    | false => rfl
    | true =>
      unfold inB_ at hi
      obtain ⟨s, hs, h2⟩ := List.any_eq_true.1 hi
      have h3 : s = e.1 := of_decide_eq_true h2
      subst h3
      simp only [deltaB, Bool.and_eq_true] at hd
      have h4 := List.all_eq_true.1 hd.2.2.2.2 _ hs
      simp only [hasE, Bool.not_eq_true', List.any_eq_false, decide_eq_true_eq] at h4
      exact (h4 e he rfl).elim
theorem deltaDo_sz' {b : Book} {d : Delta} (hb : b.1.length ≤ 1048576 ∧ b.2.length ≤ 1048576) : (deltaDo b d).1.1.length ≤ 1048576 ∧ (deltaDo b d).1.2.length ≤ 1048576 := by
  unfold deltaDo
  split
  · rename_i h
    simp only [Bool.and_eq_true] at h
    split
    · rename_i h2
      simp only [Bool.and_eq_true] at h2
      have := len_ok h2.2
      simp only
      omega
    · exact hb
  · simp
theorem u8_of {n : Int} (h : (Lit.int .u8 n).wf = true) : 0 ≤ n ∧ n ≤ 255 := by
  simp only [Lit.wf, Bool.and_eq_true, decide_eq_true_eq] at h
  simpa [IntKind.min, IntKind.max, IntKind.bits, IntKind.signed] using h
theorem FnDeltaDo_pure (s : List Int) (hs : goodT (.row (.int .u8)) s) : ∃ k, laws_FnDeltaDo.f k s = some true := by
  by_cases hl : (s.length : Int) > 1048576
  · exact ⟨0, by rw [laws_FnDeltaDo.f_eq, decide_eq_true hl, ifb_t]⟩
  have hb : ∀ b ∈ s, 0 ≤ b ∧ b ≤ 255 := by
    intro b hb
    have := hs.2 b hb
    simp only [goodT] at this
    exact u8_of this
  obtain ⟨b, d, e0, hB, hD⟩ := drawDeltaDo_al s hb
  have mb := smB_S (hB.up (by omega))
  have md := smD_S (hD.up (by omega))
  have sm : ∀ {n : Nat}, n ≤ 1048576 → Sm n := fun h => by unfold Sm; omega
  have lb1 := hB.1.1
  have lb2 := hB.2.1
  have ld1 := hD.1.1
  have ld2 := hD.2.1.1
  have hsz := deltaDo_sz' (b := b) (d := d) ⟨by omega, by omega⟩
  have base := (((e0.and (impl_DeltaDo_al b d mb md)).and ((spec_DeltaDo_al b d mb md).and (mdBook_al (deltaDo b d).1 (deltaDo b d).1 (sm hsz.1) (sm hsz.2)))).and ((impl_DeltaOk_al d md).and (spec_DeltaOk_al d md))).and (spec_BookOk_al b mb)
  have more : Al fun k => ifb (!(deltaDo b d).2) ((laws_mdBook.f k (deltaDo b d).1 b).bind fun (r19 : Bool) => ifb r19 (some true) ((spec_DeltaOk.f k d).bind fun (r20 : Bool) => some (!r20))) (laws_FnDeltaDo.L11 k k b d (deltaDo b d).1 (0 : Int)) = some true ∨ bookB b = false := by
    cases hbk : bookB b with
    | false => exact Al.now fun _ => .inr rfl
    | true =>
    cases hok : (deltaDo b d).2 with
    | false =>
      refine ((mdBook_al (deltaDo b d).1 b (sm hsz.1) (sm hsz.2)).and (spec_DeltaOk_al d md)).mono fun k ⟨e1, e2⟩ => .inl ?_
      simp only [Bool.not_false, ifb_t, e1, e2, Option.bind_some]
      cases hdk : deltaB d with
      | false => cases decide ((deltaDo b d).1 = b) <;> simp [ifb_t, ifb_f]
      | true =>
        have : (deltaDo b d).1 = b := by
          unfold deltaDo at hok ⊢
          rw [hbk, hdk] at hok ⊢
          simp only [Bool.and_self, if_true] at hok ⊢
          split
          · rename_i h; rw [if_pos h] at hok; cases hok
          · rfl
        rw [decide_eq_true this, ifb_t]
    | true =>
      have hdd : deltaB d = true ∧ (deltaDo b d).1 = doB b d ∧ bookB (doB b d) = true := by
        unfold deltaDo at hok ⊢
        rw [hbk] at hok ⊢
        cases hdk : deltaB d with
        | false => rw [hdk] at hok; simp at hok
        | true =>
          rw [hdk] at hok
          simp only [Bool.and_self, if_true] at hok ⊢
          split
          · rename_i h
            simp only [Bool.and_eq_true] at h
            exact ⟨trivial, rfl, h.2⟩
          · rename_i h; rw [if_neg h] at hok; cases hok
      obtain ⟨hdk, hx, hxb⟩ := hdd
      have msm : smB (doB b d) := doB_sm mb md (len_ok hbk) (len_okD hdk)
      rw [hx]
      have := goes_al b d (doB b d) (sm (by omega)) (sm (by omega)) (sm (by omega)) (by rw [hx] at hsz; exact sm hsz.2) ((impl_BookOk_al _ msm).mono fun k e => by rw [e, hxb]) (doB_from hdk)
      exact this.mono fun k e => .inl (by rw [Bool.not_true, ifb_f, e])
  refine ((base.and more).mono fun k e => ?_).get
  obtain ⟨⟨⟨⟨⟨a0, a1⟩, a2, a3⟩, a4, a5⟩, a6⟩, a7⟩ := e
  rw [decide_eq_true rfl] at a3
  simp only [laws_FnDeltaDo.f_eq, decide_eq_false hl, ifb_f, a0, a1, a2, a3, a4, a5, a6, Option.bind_some, beq_self_eq_true, Bool.not_true, ifb_t]
  rcases a7 with h | h
  · simp only [a5, Option.bind_some] at h
    rw [h]
    cases bookB b <;> simp [ifb_t, ifb_f]
  · rw [h]
    simp [ifb_t, ifb_f]
end Go.Proofs.Ytabindnaedchgaa.Rf
