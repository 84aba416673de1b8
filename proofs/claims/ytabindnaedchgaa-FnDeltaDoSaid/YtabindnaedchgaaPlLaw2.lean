/- The helpers of the laws: copies, equality, marks. -/
import Derived.Test.YtabindnaedchgaaPlLaw
namespace Go.Proofs.Ytabindnaedchgaa.Rf
open Go Go.RowKit
set_option linter.unusedVariables false
set_option linter.unusedSimpArgs false
/-! ### Copies -/
theorem set_mid {α : Type} (a : List α) (x y : α) (t : List α) : (a ++ x :: t).set a.length y = a ++ y :: t := by
  rw [List.set_append_right _ _ (Nat.le_refl _), Nat.sub_self]; rfl
theorem getD_mid {α : Type} (a : List α) (x : α) (t : List α) (z : α) : (a ++ x :: t).getD a.length z = x := by
  rw [List.getD_eq_getElem?_getD, List.getElem?_append_right (Nat.le_refl _), Nat.sub_self]; rfl
theorem take_drop_snoc {α : Type} {l t : List α} {i : Nat} {x : α} (h : l.drop i = x :: t) : l.take (i + 1) = l.take i ++ [x] := by
  have hi := (drop_cons x h).1
  rw [List.take_add_one, List.getElem?_eq_getElem hi]
  rw [List.drop_eq_getElem_cons hi] at h
  injection h with h1 _
  rw [h1]; rfl
theorem rep_cast (n : Nat) : ((n : Int)).toNat = n := by omega
theorem mk_ok (n c : Nat) (h : n * c ≤ rowMax) : (decide (0 ≤ (n : Int)) && (decide ((n : Int) ≤ (n : Int)) && decide ((n : Int) * (c : Int) ≤ (rowMax : Int)))) = true := by
  have : (n : Int) * (c : Int) ≤ (rowMax : Int) := by exact_mod_cast h
  rw [decide_eq_true this, decide_eq_true (Int.le_refl _), decide_eq_true (by omega)]; rfl
theorem toAffixS_al (l : List Aff) (hl : l.length ≤ 1099511627776) : Al fun k => laws_toAffixS.f k l = some l := by
  have hS : l.length ≤ 4611686018427387904 := by omega
  have key : ∀ (t : List Aff) (i : Nat), l.drop i = t → Al2 fun k k1 => laws_toAffixS.L3 k k1 l (l.take i ++ List.replicate t.length zA) (i : Int) = some l := by
    intro t
    induction t with
    | nil =>
      intro i hd
      refine Al2.succ (Al2.now fun k k1 => ?_)
      have := drop_nil hd
      simp only [laws_toAffixS.L3_eq, at_end this, ifb_f, List.length_nil, List.replicate_zero, List.append_nil]
      rw [List.take_of_length_le (by omega)]
    | cons x t ih =>
      intro i hd
      obtain ⟨hi, d1, d2⟩ := drop_cons zA hd
      obtain ⟨c1, c2, c3, c4⟩ := at_i hi hS
      have hti : (l.take i).length = i := by rw [List.length_take]; omega
      have hlt : decide ((i : Int) < ((l.take i ++ List.replicate (x :: t).length zA).length : Int)) = true := decide_eq_true (by simp only [List.length_append, hti, List.length_replicate, List.length_cons]; omega)
      have hs : (l.take i ++ List.replicate (x :: t).length zA).set i x = l.take (i + 1) ++ List.replicate t.length zA := by
        rw [List.length_cons, List.replicate_succ, take_drop_snoc hd]
        have := set_mid (l.take i) zA x (List.replicate t.length zA)
        rw [hti] at this
        rw [this]; simp
      refine Al2.succ ((ih (i + 1) d2).mono fun k k1 e => ?_)
      simp only [laws_toAffixS.L3_eq, c1, c2, c3, w64, c4, d1, hlt, Bool.and_self, ifb_t, laws_toAffix.f_eq, Option.bind_some]
      rw [show (x.1, x.2.1, x.2.2.1, x.2.2.2.1, x.2.2.2.2) = x from rfl, hs, e]
  refine (key l 0 rfl).diag.mono fun k e => ?_
  rw [laws_toAffixS.f_eq, show (72 : Int) = ((72 : Nat) : Int) from rfl, mk_ok _ _ (by simp only [rowMax]; omega), ifb_t, rep_cast]
  simpa using e
theorem toEntryS_al (l : List En) (hl : l.length ≤ 1099511627776) : Al fun k => laws_toEntryS.f k l = some l := by
  have hS : l.length ≤ 4611686018427387904 := by omega
  have key : ∀ (t : List En) (i : Nat), l.drop i = t → Al2 fun k k1 => laws_toEntryS.L3 k k1 l (l.take i ++ List.replicate t.length zE) (i : Int) = some l := by
    intro t
    induction t with
    | nil =>
      intro i hd
      refine Al2.succ (Al2.now fun k k1 => ?_)
      have := drop_nil hd
      simp only [laws_toEntryS.L3_eq, at_end this, ifb_f, List.length_nil, List.replicate_zero, List.append_nil]
      rw [List.take_of_length_le (by omega)]
    | cons x t ih =>
      intro i hd
      obtain ⟨hi, d1, d2⟩ := drop_cons zE hd
      obtain ⟨c1, c2, c3, c4⟩ := at_i hi hS
      have hti : (l.take i).length = i := by rw [List.length_take]; omega
      have hlt : decide ((i : Int) < ((l.take i ++ List.replicate (x :: t).length zE).length : Int)) = true := decide_eq_true (by simp only [List.length_append, hti, List.length_replicate, List.length_cons]; omega)
      have hs : (l.take i ++ List.replicate (x :: t).length zE).set i x = l.take (i + 1) ++ List.replicate t.length zE := by
        rw [List.length_cons, List.replicate_succ, take_drop_snoc hd]
        have := set_mid (l.take i) zE x (List.replicate t.length zE)
        rw [hti] at this
        rw [this]; simp
      refine Al2.succ ((ih (i + 1) d2).mono fun k k1 e => ?_)
      simp only [laws_toEntryS.L3_eq, c1, c2, c3, w64, c4, d1, hlt, Bool.and_self, ifb_t, laws_toEntry.f_eq, Option.bind_some]
      rw [show (x.1, x.2) = x from rfl, hs, e]
  refine (key l 0 rfl).diag.mono fun k e => ?_
  rw [laws_toEntryS.f_eq, show (32 : Int) = ((32 : Nat) : Int) from rfl, mk_ok _ _ (by simp only [rowMax]; omega), ifb_t, rep_cast]
  simpa using e
theorem toStringS_al (l : List ByteArray) (hl : l.length ≤ 1099511627776) : Al fun k => laws_toStringS.f k l = some l := by
  have hS : l.length ≤ 4611686018427387904 := by omega
  have key : ∀ (t : List ByteArray) (i : Nat), l.drop i = t → Al2 fun k k1 => laws_toStringS.L3 k k1 l (l.take i ++ List.replicate t.length bz) (i : Int) = some l := by
    intro t
    induction t with
    | nil =>
      intro i hd
      refine Al2.succ (Al2.now fun k k1 => ?_)
      have := drop_nil hd
      simp only [laws_toStringS.L3_eq, at_end this, ifb_f, List.length_nil, List.replicate_zero, List.append_nil]
      rw [List.take_of_length_le (by omega)]
    | cons x t ih =>
      intro i hd
      obtain ⟨hi, d1, d2⟩ := drop_cons bz hd
      obtain ⟨c1, c2, c3, c4⟩ := at_i hi hS
      have hti : (l.take i).length = i := by rw [List.length_take]; omega
      have hlt : decide ((i : Int) < ((l.take i ++ List.replicate (x :: t).length bz).length : Int)) = true := decide_eq_true (by simp only [List.length_append, hti, List.length_replicate, List.length_cons]; omega)
      have hs : (l.take i ++ List.replicate (x :: t).length bz).set i x = l.take (i + 1) ++ List.replicate t.length bz := by
        rw [List.length_cons, List.replicate_succ, take_drop_snoc hd]
        have := set_mid (l.take i) bz x (List.replicate t.length bz)
        rw [hti] at this
        rw [this]; simp
      refine Al2.succ ((ih (i + 1) d2).mono fun k k1 e => ?_)
      simp only [laws_toStringS.L3_eq, c1, c2, c3, w64, c4, d1, hlt, Bool.and_self, ifb_t]
      rw [hs, e]
  refine (key l 0 rfl).diag.mono fun k e => ?_
  rw [laws_toStringS.f_eq, show (16 : Int) = ((16 : Nat) : Int) from rfl, mk_ok _ _ (by simp only [rowMax]; omega), ifb_t, rep_cast]
  simpa using e
theorem toBook_al (b : Book) (h : smB b) : Al fun k => laws_toBook.f k b = some b :=
  ((toAffixS_al b.1 h.1.1).and (toEntryS_al b.2 h.2.1)).mono fun k ⟨e1, e2⟩ => by
    simp only [laws_toBook.f_eq, e1, e2, Option.bind_some]
theorem toDelta_al (d : Delta) (h : smD d) : Al fun k => laws_toDelta.f k d = some d :=
  (((toStringS_al d.1 h.1.1).and (toEntryS_al d.2.1 h.2.1.1)).and (toAffixS_al d.2.2.2 h.2.2.1)).mono fun k ⟨⟨e1, e2⟩, e3⟩ => by
    simp only [laws_toDelta.f_eq, e1, e2, e3, Option.bind_some]
/-! ### Equality (of a thing with itself is all that is asked) -/
theorem len_bne (n : Nat) : (((n : Int) != (n : Int))) = false := by simp
theorem eqAffix_refl (k : Nat) (a : Aff) : laws_eqAffix.f k a a = some true := by
  simp [laws_eqAffix.f_eq, ifb_f]
theorem eqEntry_refl (k : Nat) (a : En) : laws_eqEntry.f k a a = some true := by
  simp [laws_eqEntry.f_eq, ifb_f]
theorem eqAffixS_refl (l : List Aff) (hl : Sm l.length) : Al fun k => laws_eqAffixS.f k l l = some true := by
  have key := downN (Q := fun i => Al2 fun k k1 => laws_eqAffixS.L4 k k1 l l (i : Int) = some true) l.length
    (Al2.succ (Al2.now fun k k1 => by simp only [laws_eqAffixS.L4_eq, at_end (Nat.lt_irrefl _), ifb_f])) (fun i hi h => by
      obtain ⟨c1, c2, c3, c4⟩ := at_i hi hl
      refine Al2.succ (h.mono fun k k1 e => ?_)
      simp only [laws_eqAffixS.L4_eq, c1, c2, c3, w64, c4, Bool.and_self, ifb_t, eqAffix_refl, Option.bind_some, Bool.not_true, ifb_f, e]) 0 (Nat.zero_le _)
  exact key.diag.mono fun k e => by rw [laws_eqAffixS.f_eq, len_bne, ifb_f]; exact e
theorem eqEntryS_refl (l : List En) (hl : Sm l.length) : Al fun k => laws_eqEntryS.f k l l = some true := by
  have key := downN (Q := fun i => Al2 fun k k1 => laws_eqEntryS.L4 k k1 l l (i : Int) = some true) l.length
    (Al2.succ (Al2.now fun k k1 => by simp only [laws_eqEntryS.L4_eq, at_end (Nat.lt_irrefl _), ifb_f])) (fun i hi h => by
      obtain ⟨c1, c2, c3, c4⟩ := at_i hi hl
      refine Al2.succ (h.mono fun k k1 e => ?_)
      simp only [laws_eqEntryS.L4_eq, c1, c2, c3, w64, c4, Bool.and_self, ifb_t, eqEntry_refl, Option.bind_some, Bool.not_true, ifb_f, e]) 0 (Nat.zero_le _)
  exact key.diag.mono fun k e => by rw [laws_eqEntryS.f_eq, len_bne, ifb_f]; exact e
theorem eqStringS_refl (l : List ByteArray) (hl : Sm l.length) : Al fun k => laws_eqStringS.f k l l = some true := by
  have key := downN (Q := fun i => Al2 fun k k1 => laws_eqStringS.L4 k k1 l l (i : Int) = some true) l.length
    (Al2.succ (Al2.now fun k k1 => by simp only [laws_eqStringS.L4_eq, at_end (Nat.lt_irrefl _), ifb_f])) (fun i hi h => by
      obtain ⟨c1, c2, c3, c4⟩ := at_i hi hl
      refine Al2.succ (h.mono fun k k1 e => ?_)
      simp only [laws_eqStringS.L4_eq, c1, c2, c3, w64, c4, Bool.and_self, ifb_t, beq_self_eq_true, Bool.not_true, ifb_f, e]) 0 (Nat.zero_le _)
  exact key.diag.mono fun k e => by rw [laws_eqStringS.f_eq, len_bne, ifb_f]; exact e
theorem eqBook_refl (b : Book) (h1 : Sm b.1.length) (h2 : Sm b.2.length) : Al fun k => laws_eqBook.f k b b = some true :=
  ((eqAffixS_refl b.1 h1).and (eqEntryS_refl b.2 h2)).mono fun k ⟨e1, e2⟩ => by
    simp only [laws_eqBook.f_eq, e1, e2, Option.bind_some, Bool.not_true, ifb_f]
theorem eqDelta_refl (d : Delta) (h1 : Sm d.1.length) (h2 : Sm d.2.1.length) (h3 : Sm d.2.2.2.length) : Al fun k => laws_eqDelta.f k d d = some true :=
  (((eqStringS_refl d.1 h1).and (eqEntryS_refl d.2.1 h2)).and (eqAffixS_refl d.2.2.2 h3)).mono fun k ⟨⟨e1, e2⟩, e3⟩ => by
    simp only [laws_eqDelta.f_eq, e1, e2, e3, Option.bind_some, Bool.not_true, ifb_f, beq_self_eq_true]
/-! ### Marks -/
theorem strOf_size (l : List Int) : (strOf l).size = l.length := by simp [strOf, ByteArray.size]
theorem markText_ex (n : Nat) (hn : n ≤ 4611686018427387904) : ∃ t, Al fun k => laws_markText.f k (n : Int) = some t := by
  by_cases h0 : n = 0
  · subst h0
    exact ⟨_, Al.now fun k => by rw [laws_markText.f_eq]; exact ifb_t _ _⟩
  · have key : ∀ (m : Nat) (n : Nat) (acc : ByteArray), n < 10 ^ m → n ≤ 4611686018427387904 → acc.size + m ≤ 30 → ∃ t, Al2 fun k k1 => laws_markText.L4 k k1 (n : Int) acc = some t := by
      intro m
      induction m with
      | zero =>
        intro n acc h1 h2 h3
        have : n = 0 := by simpa using h1
        subst this
        have e : decide ((((⟨#[109]⟩ : ByteArray).size + acc.size : Nat) : Int) ≤ IntKind.i64.max) = true := decide_eq_true (by
          have : (⟨#[109]⟩ : ByteArray).size = 1 := rfl
          have hm : IntKind.i64.max = 9223372036854775807 := by decide
          rw [this, hm]; omega)
        exact ⟨_, Al2.succ (Al2.now fun k k1 => by rw [laws_markText.L4_eq, show decide (((0 : Nat) : Int) > 0) = false from rfl, ifb_f, e, ifb_t])⟩
      | succ m ih =>
        intro n acc h1 h2 h3
        by_cases hz : n = 0
        · subst hz
          have e : decide ((((⟨#[109]⟩ : ByteArray).size + acc.size : Nat) : Int) ≤ IntKind.i64.max) = true := decide_eq_true (by
            have : (⟨#[109]⟩ : ByteArray).size = 1 := rfl
            have hm : IntKind.i64.max = 9223372036854775807 := by decide
            rw [this, hm]; omega)
          exact ⟨_, Al2.succ (Al2.now fun k k1 => by rw [laws_markText.L4_eq, show decide (((0 : Nat) : Int) > 0) = false from rfl, ifb_f, e, ifb_t])⟩
        · have hs : (strOf [(IntKind.u8.wrap (w64 ((48 : Int) + ((n : Int).tmod (10 : Int)))))]).size = 1 := strOf_size _
          obtain ⟨t, ht⟩ := ih (n / 10) (strOf [(IntKind.u8.wrap (w64 ((48 : Int) + ((n : Int).tmod (10 : Int)))))] ++ acc) (by rw [Nat.pow_succ] at h1; omega) (by omega) (by rw [ByteArray.size_append, hs]; omega)
          refine ⟨t, Al2.succ (ht.mono fun k k1 e => ?_)⟩
          have e1 : decide ((n : Int) > 0) = true := decide_eq_true (by omega)
          have e2 : decide ((((strOf [(IntKind.u8.wrap (w64 ((48 : Int) + ((n : Int).tmod (10 : Int)))))]).size + acc.size : Nat) : Int) ≤ IntKind.i64.max) = true := decide_eq_true (by
            have hm : IntKind.i64.max = 9223372036854775807 := by decide
            rw [hs, hm]; omega)
          have e3 : w64 ((n : Int).tdiv 10) = ((n / 10 : Nat) : Int) := by
            rw [show (n : Int).tdiv 10 = ((n / 10 : Nat) : Int) from rfl, w64, w_id (by omega) (by omega)]
          rw [laws_markText.L4_eq, e1, ifb_t, show decide ((10 : Int) ≠ 0) = true from rfl, ifb_t, e2, ifb_t, ifb_t, e3, e]
    obtain ⟨t, ht⟩ := key 19 n bz (by omega) hn (by decide)
    refine ⟨t, ht.diag.mono fun k e => ?_⟩
    rw [laws_markText.f_eq, decide_eq_false (by omega), ifb_f]
    exact e
/-- the text of a mark -/
noncomputable def mT (n : Nat) : ByteArray := open Classical in if h : ∃ t, Al fun k => laws_markText.f k (n : Int) = some t then h.choose else bz
theorem markText_al (n : Nat) (hn : n ≤ 4611686018427387904) : Al fun k => laws_markText.f k (n : Int) = some (mT n) := by
  have h := markText_ex n hn
  unfold mT
  rw [dif_pos h]
  exact h.choose_spec
theorem w_succ (m : Nat) (h : m ≤ 4611686018427387904) : w64 ((m : Int) + 1) = ((m + 1 : Nat) : Int) := by rw [w64, w_id (by omega) (by omega)]; omega
noncomputable def mkE : Nat → Nat → List En
  | 0, _ => []
  | n + 1, m => (mT m, mT (m + 1)) :: mkE n (m + 2)
noncomputable def mkA : Nat → Nat → List Aff
  | 0, _ => []
  | n + 1, m => (mT m, (((m + 1 : Nat) : Int).tmod 3 == 0), mT (m + 2), mT (m + 3), mT (m + 4)) :: mkA n (m + 5)
noncomputable def mkS : Nat → Nat → List ByteArray
  | 0, _ => []
  | n + 1, m => mT m :: mkS n (m + 1)
theorem markStringS_al : ∀ (t a : List ByteArray) (m : Nat), a.length + t.length ≤ 1099511627776 → m + t.length ≤ 1099511627776 → Al2 fun k k1 => laws_markStringS.L2 k k1 (a ++ t) (m : Int) (a.length : Int) = some (((m + t.length : Nat) : Int), a ++ mkS t.length m)
  | [], a, m, h1, h2 => Al2.succ (Al2.now fun k k1 => by
    simp only [laws_markStringS.L2_eq, List.append_nil, at_end (Nat.lt_irrefl _), ifb_f, List.length_nil, Nat.add_zero, mkS])
  | x :: t, a, m, h1, h2 => by
    rw [List.length_cons] at h1 h2
    have hi : a.length < (a ++ x :: t).length := by simp
    obtain ⟨c1, c2, c3, c4⟩ := at_i hi (by simp only [List.length_append, List.length_cons]; omega)
    have ih := markStringS_al t (a ++ [mT m]) (m + 1) (by rw [List.length_append]; simp; omega) (by omega)
    refine Al2.succ (((markText_al m (by omega)).snd.and ih).mono fun k k1 ⟨e1, e2⟩ => ?_)
    simp only [laws_markStringS.L2_eq, c1, c2, c3, Bool.and_self, ifb_t, e1, Option.bind_some, set_mid, w_succ m (by omega)]
    simp only [w64, c4]
    rw [show a ++ mT m :: t = a ++ [mT m] ++ t by simp, show ((a.length + 1 : Nat) : Int) = ((a ++ [mT m]).length : Int) by simp, e2]
    simp only [List.length_cons, mkS, List.append_assoc, List.cons_append, List.nil_append]
    rw [show m + 1 + t.length = m + (t.length + 1) by omega]
theorem markEntryS_al : ∀ (t a : List En) (m : Nat), a.length + t.length ≤ 1099511627776 → m + 2 * t.length ≤ 1099511627776 → Al2 fun k k1 => laws_markEntryS.L2 k k1 (a ++ t) (m : Int) (a.length : Int) = some (((m + 2 * t.length : Nat) : Int), a ++ mkE t.length m)
  | [], a, m, h1, h2 => Al2.succ (Al2.now fun k k1 => by
    simp only [laws_markEntryS.L2_eq, List.append_nil, at_end (Nat.lt_irrefl _), ifb_f, List.length_nil, Nat.mul_zero, Nat.add_zero, mkE])
  | x :: t, a, m, h1, h2 => by
    rw [List.length_cons] at h1 h2
    have hi : a.length < (a ++ x :: t).length := by simp
    obtain ⟨c1, c2, c3, c4⟩ := at_i hi (by simp only [List.length_append, List.length_cons]; omega)
    have hi2 : decide ((a.length : Int) < ((a ++ (mT m, x.2) :: t).length : Int)) = true := decide_eq_true (by simp only [List.length_append, List.length_cons]; omega)
    have ih := markEntryS_al t (a ++ [(mT m, mT (m + 1))]) (m + 2) (by rw [List.length_append]; simp; omega) (by omega)
    have j7 : Al3 fun k k1 k2 => laws_markEntryS.J7 k k1 k2 (a ++ (mT m, mT (m + 1)) :: t) ((m + 1 : Nat) : Int) (a.length : Int) = some (((m + 2 * (x :: t).length : Nat) : Int), a ++ mkE (x :: t).length m) := Al3.succ (ih.fst.mono fun k k1 k2 e => by
      simp only [laws_markEntryS.J7_eq, w_succ (m + 1) (by omega)]
      simp only [w64, c4]
      rw [show a ++ (mT m, mT (m + 1)) :: t = a ++ [(mT m, mT (m + 1))] ++ t by simp, show ((a.length + 1 : Nat) : Int) = ((a ++ [(mT m, mT (m + 1))]).length : Int) by simp, e]
      simp only [List.length_cons, mkE, List.append_assoc, List.cons_append, List.nil_append]
      rw [show m + 2 + 2 * t.length = m + 2 * (t.length + 1) by omega])
    refine Al2.succ ((((markText_al m (by omega)).snd.and (markText_al (m + 1) (by omega)).snd).and j7.in2).mono fun k k1 ⟨⟨e1, e2⟩, e3⟩ => ?_)
    simp only [laws_markEntryS.L2_eq, c1, c2, c3, Bool.and_self, ifb_t, e1, Option.bind_some, set_mid, getD_mid, w_succ m (by omega), e2, hi2, e3]
theorem markAffixS_al : ∀ (t a : List Aff) (m : Nat), a.length + t.length ≤ 1099511627776 → m + 5 * t.length ≤ 1099511627776 → Al2 fun k k1 => laws_markAffixS.L2 k k1 (a ++ t) (m : Int) (a.length : Int) = some (((m + 5 * t.length : Nat) : Int), a ++ mkA t.length m)
  | [], a, m, h1, h2 => Al2.succ (Al2.now fun k k1 => by
    simp only [laws_markAffixS.L2_eq, List.append_nil, at_end (Nat.lt_irrefl _), ifb_f, List.length_nil, Nat.mul_zero, Nat.add_zero, mkA])
  | x :: t, a, m, h1, h2 => by
    rw [List.length_cons] at h1 h2
    have hi : a.length < (a ++ x :: t).length := by simp
    have hS : (a ++ x :: t).length ≤ 4611686018427387904 := by simp only [List.length_append, List.length_cons]; omega
    obtain ⟨c1, c2, c3, c4⟩ := at_i hi hS
    have lt : ∀ y : Aff, decide ((a.length : Int) < ((a ++ y :: t).length : Int)) = true := fun y => decide_eq_true (by simp only [List.length_append, List.length_cons]; omega)
    let y : Aff := (mT m, (((m + 1 : Nat) : Int).tmod 3 == 0), mT (m + 2), mT (m + 3), mT (m + 4))
    have ih := markAffixS_al t (a ++ [y]) (m + 5) (by rw [List.length_append]; simp; omega) (by omega)
    have fin : ((m + 5 + 5 * t.length : Nat) : Int) = ((m + 5 * (x :: t).length : Nat) : Int) := by simp only [List.length_cons]; omega
    have j11 : Al3 fun k k1 k2 => laws_markAffixS.J11 k k1 k2 (a ++ (mT m, (((m + 1 : Nat) : Int).tmod 3 == 0), mT (m + 2), mT (m + 3), x.2.2.2.2) :: t) ((m + 3 : Nat) : Int) (a.length : Int) = some (((m + 5 * (x :: t).length : Nat) : Int), a ++ mkA (x :: t).length m) := Al3.succ ((ih.fst.and (markText_al (m + 4) (by omega)).thd).mono fun k k1 k2 ⟨e, e1⟩ => by
      simp only [laws_markAffixS.J11_eq, w_succ (m + 3) (by omega), w_succ (m + 3 + 1) (by omega), e1, Option.bind_some, c2, c3, lt, Bool.and_self, ifb_t, set_mid, getD_mid]
      simp only [w64, c4]
      rw [show a ++ (mT m, (((m + 1 : Nat) : Int).tmod 3 == 0), mT (m + 2), mT (m + 3), mT (m + 4)) :: t = a ++ [y] ++ t by simp [y], show ((a.length + 1 : Nat) : Int) = ((a ++ [y]).length : Int) by simp, show m + 3 + 1 + 1 = m + 5 by omega, e, fin]
      simp only [List.length_cons, mkA, List.append_assoc, List.cons_append, List.nil_append]
      rfl)
    have j7 : Al3 fun k k1 k2 => laws_markAffixS.J7 k k1 k2 (a ++ (mT m, (((m + 1 : Nat) : Int).tmod 3 == 0), x.2.2) :: t) ((m + 1 : Nat) : Int) (a.length : Int) = some (((m + 5 * (x :: t).length : Nat) : Int), a ++ mkA (x :: t).length m) := Al3.succ (((j11.and (markText_al (m + 2) (by omega)).thd).and (markText_al (m + 3) (by omega)).thd).mono fun k k1 k2 ⟨⟨e, e1⟩, e2⟩ => by
      simp only [laws_markAffixS.J7_eq, w_succ (m + 1) (by omega), w_succ (m + 1 + 1) (by omega), show m + 1 + 1 = m + 2 from rfl, show m + 2 + 1 = m + 3 from rfl, e1, e2, Option.bind_some, c2, c3, lt, Bool.and_self, ifb_t, set_mid, getD_mid]
      exact e)
    refine Al2.succ (((markText_al m (by omega)).snd.and j7.in2).mono fun k k1 ⟨e1, e3⟩ => ?_)
    simp only [laws_markAffixS.L2_eq, c1, c2, c3, Bool.and_self, ifb_t, e1, Option.bind_some, set_mid, getD_mid, w_succ m (by omega), lt, show decide ((3 : Int) ≠ 0) = true from rfl]
    exact e3
noncomputable def mkBk (b : Book) (m : Nat) : Book := (mkA b.1.length m, mkE b.2.length (m + 5 * b.1.length))
theorem markBook_al (b : Book) (m : Nat) (h1 : b.1.length ≤ 1000000000) (h2 : b.2.length ≤ 1000000000) (hm : m ≤ 1000000000) : Al fun k => laws_markBook.f k b (m : Int) = some (((m + 5 * b.1.length + 2 * b.2.length : Nat) : Int), mkBk b m) :=
  ((markAffixS_al b.1 [] m (by simp; omega) (by omega)).diag.and (markEntryS_al b.2 [] (m + 5 * b.1.length) (by simp; omega) (by omega)).diag).mono fun k ⟨e1, e2⟩ => by
    simp only [List.nil_append, List.length_nil] at e1 e2
    simp only [laws_markBook.f_eq, laws_markAffixS.f_eq, laws_markEntryS.f_eq]
    rw [show (0 : Int) = ((0 : Nat) : Int) from rfl, e1, Option.bind_some, e2]
    rfl
theorem markDelta_al (d : Delta) (m : Nat) (h1 : d.1.length ≤ 1000000000) (h2 : d.2.1.length ≤ 1000000000) (h3 : d.2.2.2.length ≤ 1000000000) (hm : m ≤ 100000000000) : Al fun k => ∃ d', laws_markDelta.f k d (m : Int) = some (((m + d.1.length + 2 * d.2.1.length + 5 * d.2.2.2.length : Nat) : Int), d') :=
  (((markStringS_al d.1 [] m (by simp; omega) (by omega)).diag.and (markEntryS_al d.2.1 [] (m + d.1.length) (by simp; omega) (by omega)).diag).and (markAffixS_al d.2.2.2 [] (m + d.1.length + 2 * d.2.1.length) (by simp; omega) (by omega)).diag).mono fun k ⟨⟨e0, e1⟩, e2⟩ => by
    simp only [List.nil_append, List.length_nil] at e0 e1 e2
    simp only [laws_markDelta.f_eq, laws_markAffixS.f_eq, laws_markEntryS.f_eq, laws_markStringS.f_eq]
    rw [show (0 : Int) = ((0 : Nat) : Int) from rfl, e0, Option.bind_some, e1, Option.bind_some, e2]
    exact ⟨_, rfl⟩
/-! ### Marks that are found again -/
theorem mkA_length : ∀ (n m : Nat), (mkA n m).length = n
  | 0, _ => rfl
  | n + 1, m => by rw [mkA, List.length_cons, mkA_length]
theorem mkE_length : ∀ (n m : Nat), (mkE n m).length = n
  | 0, _ => rfl
  | n + 1, m => by rw [mkE, List.length_cons, mkE_length]
theorem heldEntryS_al : ∀ (n : Nat) (a : List En) (m : Nat), a.length + n ≤ 1099511627776 → m + 2 * n ≤ 1099511627776 → Al2 fun k k1 => laws_heldEntryS.L2 k k1 (a ++ mkE n m) (m : Int) (a.length : Int) = some ((m + 2 * n : Nat) : Int)
  | 0, a, m, h1, h2 => Al2.succ (Al2.now fun k k1 => by
    simp only [laws_heldEntryS.L2_eq, mkE, List.append_nil, at_end (Nat.lt_irrefl _), ifb_f, Nat.mul_zero, Nat.add_zero])
  | n + 1, a, m, h1, h2 => by
    have hi : a.length < (a ++ mkE (n + 1) m).length := by simp [mkE]
    obtain ⟨c1, c2, c3, c4⟩ := at_i hi (by simp only [List.length_append, mkE_length]; omega)
    have ih := heldEntryS_al n (a ++ [(mT m, mT (m + 1))]) (m + 2) (by rw [List.length_append]; simp; omega) (by omega)
    refine Al2.succ ((((markText_al m (by omega)).snd.and (markText_al (m + 1) (by omega)).snd).and ih).mono fun k k1 ⟨⟨e1, e2⟩, e3⟩ => ?_)
    simp only [laws_heldEntryS.L2_eq, c1, c2, c3, Bool.and_self, ifb_t, e1, Option.bind_some, w_succ m (by omega), w_succ (m + 1) (by omega), e2]
    simp only [mkE, getD_mid, beq_self_eq_true, Bool.not_true, ifb_f]
    simp only [w64, c4]
    rw [show a ++ (mT m, mT (m + 1)) :: mkE n (m + 2) = a ++ [(mT m, mT (m + 1))] ++ mkE n (m + 2) by simp, show ((a.length + 1 : Nat) : Int) = ((a ++ [(mT m, mT (m + 1))]).length : Int) by simp, show m + 1 + 1 = m + 2 from rfl, e3]
    rw [show m + 2 + 2 * n = m + 2 * (n + 1) by omega]
theorem heldAffixS_al : ∀ (n : Nat) (a : List Aff) (m : Nat), a.length + n ≤ 1099511627776 → m + 5 * n ≤ 1099511627776 → Al2 fun k k1 => laws_heldAffixS.L2 k k1 (a ++ mkA n m) (m : Int) (a.length : Int) = some ((m + 5 * n : Nat) : Int)
  | 0, a, m, h1, h2 => Al2.succ (Al2.now fun k k1 => by
    simp only [laws_heldAffixS.L2_eq, mkA, List.append_nil, at_end (Nat.lt_irrefl _), ifb_f, Nat.mul_zero, Nat.add_zero])
  | n + 1, a, m, h1, h2 => by
    have hi : a.length < (a ++ mkA (n + 1) m).length := by simp [mkA]
    obtain ⟨c1, c2, c3, c4⟩ := at_i hi (by simp only [List.length_append, mkA_length]; omega)
    have ih := heldAffixS_al n (a ++ [(mT m, (((m + 1 : Nat) : Int).tmod 3 == 0), mT (m + 2), mT (m + 3), mT (m + 4))]) (m + 5) (by rw [List.length_append]; simp; omega) (by omega)
    refine Al2.succ ((((markText_al m (by omega)).snd.and (markText_al (m + 2) (by omega)).snd).and (((markText_al (m + 3) (by omega)).snd.and (markText_al (m + 4) (by omega)).snd).and ih)).mono fun k k1 ⟨⟨e1, e2⟩, ⟨e3, e4⟩, e5⟩ => ?_)
    simp only [laws_heldAffixS.L2_eq, c1, c2, c3, Bool.and_self, ifb_t, e1, Option.bind_some, w_succ m (by omega), w_succ (m + 1) (by omega), show m + 1 + 1 = m + 2 from rfl, w_succ (m + 2) (by omega), show m + 2 + 1 = m + 3 from rfl, w_succ (m + 3) (by omega), show m + 3 + 1 = m + 4 from rfl, w_succ (m + 4) (by omega), show m + 4 + 1 = m + 5 from rfl, e2, e3, e4, show decide ((3 : Int) ≠ 0) = true from rfl]
    simp only [mkA, getD_mid, beq_self_eq_true, Bool.not_true, ifb_f]
    simp only [w64, c4]
    rw [show a ++ (mT m, (((m + 1 : Nat) : Int).tmod 3 == 0), mT (m + 2), mT (m + 3), mT (m + 4)) :: mkA n (m + 5) = a ++ [(mT m, (((m + 1 : Nat) : Int).tmod 3 == 0), mT (m + 2), mT (m + 3), mT (m + 4))] ++ mkA n (m + 5) by simp, show ((a.length + 1 : Nat) : Int) = ((a ++ [((mT m, (((m + 1 : Nat) : Int).tmod 3 == 0), mT (m + 2), mT (m + 3), mT (m + 4)) : Aff)]).length : Int) by simp, e5]
    rw [show m + 5 + 5 * n = m + 5 * (n + 1) by omega]
theorem heldBook_al (b : Book) (m : Nat) (h1 : b.1.length ≤ 1000000000) (h2 : b.2.length ≤ 1000000000) (hm : m ≤ 1000000000) : Al fun k => laws_heldBook.f k (mkBk b m) (m : Int) = some ((m + 5 * b.1.length + 2 * b.2.length : Nat) : Int) :=
  ((heldAffixS_al b.1.length [] m (by simp; omega) (by omega)).diag.and (heldEntryS_al b.2.length [] (m + 5 * b.1.length) (by simp; omega) (by omega)).diag).mono fun k ⟨e1, e2⟩ => by
    simp only [List.nil_append, List.length_nil] at e1 e2
    simp only [laws_heldBook.f_eq, laws_heldAffixS.f_eq, laws_heldEntryS.f_eq, mkBk]
    rw [show (0 : Int) = ((0 : Nat) : Int) from rfl, e1, Option.bind_some, decide_eq_false (by omega), ifb_f, e2, Option.bind_some, decide_eq_false (by omega), ifb_f]
end Go.Proofs.Ytabindnaedchgaa.Rf
