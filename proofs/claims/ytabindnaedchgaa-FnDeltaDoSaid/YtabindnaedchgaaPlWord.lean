/- Words, affixes, entries of both sides. -/
import Derived.Test.YtabindnaedchgaaPlM
import Derived.Test.YtabindnaedchgaaRtA
namespace Go.Proofs.Ytabindnaedchgaa.Rf
open Go Go.RowKit
set_option linter.unusedVariables false
set_option linter.unusedSimpArgs false
theorem low_lt (n : Nat) : (decide ((n : Int) < 97) = !decide (97 ≤ n)) ∧ (decide ((n : Int) > 122) = !decide (n ≤ 122)) := by
  constructor
  · by_cases h : 97 ≤ n
    · rw [decide_eq_true h, decide_eq_false (by omega)]; rfl
    · rw [decide_eq_false h, decide_eq_true (by omega)]; rfl
  · by_cases h : n ≤ 122
    · rw [decide_eq_true h, decide_eq_false (by omega)]; rfl
    · rw [decide_eq_false h, decide_eq_true (by omega)]; rfl
theorem up_ge (n : Nat) : (decide ((n : Int) ≥ 65) = decide (65 ≤ n)) ∧ (decide ((n : Int) ≤ 90) = decide (n ≤ 90)) := by
  constructor
  · by_cases h : 65 ≤ n
    · rw [decide_eq_true h, decide_eq_true (by omega)]
    · rw [decide_eq_false h, decide_eq_false (by omega)]
  · by_cases h : n ≤ 90
    · rw [decide_eq_true h, decide_eq_true (by omega)]
    · rw [decide_eq_false h, decide_eq_false (by omega)]
theorem spec_l1Letters_al (s : ByteArray) (m : Nat) (h : Sm s.size) : Al fun k => spec_l1Letters.f k s (m : Int) = some (lettersB s m) := by
  have key := loop_all (G := fun k k1 x => spec_l1Letters.L2 k k1 s (m : Int) x) (n := s.size) (fun i => lowB (bN s i)) (stop := false) (fin := decide (s.size ≤ m))
    (Al2.succ (Al2.now fun k k1 => by simp only [spec_l1Letters.L2_eq, at_end (Nat.lt_irrefl _), ifb_f, dec_le])) fun i hi r hr => by
      obtain ⟨c1, c2, c3, c4⟩ := at_i hi h
      refine Al2.succ (hr.mono fun k k1 e => ?_)
      simp only [spec_l1Letters.L2_eq, c1, c2, c4, Bool.and_self, ifb_t, byteAt_bN hi, (low_lt _).1, (low_lt _).2, e, lowB]
      cases decide (97 ≤ bN s i) <;> cases decide (bN s i ≤ 122) <;> simp [ifb_t, ifb_f]
  refine key.diag.mono fun k e => ?_
  rw [spec_l1Letters.f_eq, e, lettersB, lowsB]
  cases allN s.size fun i => lowB (bN s i) <;> simp
theorem impl_lower_al (s : ByteArray) (h : Sm s.size) : Al fun k => impl_lower.f k s = some (lowsB s) := by
  have key := loop_all (G := fun k k1 x => impl_lower.L2 k k1 s (s.size : Int) x) (n := s.size) (fun i => lowB (bN s i)) (stop := false) (fin := true)
    (Al2.succ (Al2.now fun k k1 => by simp only [impl_lower.L2_eq, at_end (Nat.lt_irrefl _), ifb_f])) fun i hi r hr => by
      obtain ⟨c1, c2, c3, c4⟩ := at_i hi h
      refine Al2.succ (hr.mono fun k k1 e => ?_)
      simp only [impl_lower.L2_eq, c1, c2, c4, Bool.and_self, ifb_t, byteAt_bN hi, (low_lt _).1, (low_lt _).2, e, lowB]
      cases decide (97 ≤ bN s i) <;> cases decide (bN s i ≤ 122) <;> simp [ifb_t, ifb_f]
  refine key.diag.mono fun k e => ?_
  rw [impl_lower.f_eq, e, lowsB]
  cases allN s.size fun i => lowB (bN s i) <;> simp
theorem spec_l1Word_al (s : ByteArray) (h : Sm s.size) : Al fun k => spec_l1Word.f k s = some (wordB s) :=
  (spec_l1Letters_al s 12 h).mono fun k e => by
    rw [show ((12 : Nat) : Int) = 12 from rfl] at e
    simp only [spec_l1Word.f_eq, e, Option.bind_some, wordB, show decide ((s.size : Int) > 0) = decide (0 < s.size) from dec_lt 0 s.size]
    cases decide (0 < s.size) <;> simp [ifb_t, ifb_f]
theorem impl_within_eq (k : Nat) (a b c : Int) : impl_within.f k a b c = some (decide (a ≥ b) && decide (a ≤ c)) := by
  rw [impl_within.f_eq]
  cases decide (a ≥ b) <;> simp [ifb_t, ifb_f]
theorem impl_WordOk_al (s : ByteArray) (h : Sm s.size) : Al fun k => impl_WordOk.f k s = some (wordB s) :=
  (impl_lower_al s h).mono fun k e => by
    simp only [impl_WordOk.f_eq, e, impl_within_eq, Option.bind_some, wordB, lettersB]
    have e1 : decide ((s.size : Int) ≥ 1) = decide (0 < s.size) := dec_le 1 s.size
    have e2 : decide ((s.size : Int) ≤ 12) = decide (s.size ≤ 12) := dec_le s.size 12
    rw [e1, e2]
    cases decide (0 < s.size) <;> cases decide (s.size ≤ 12) <;> simp [ifb_t, ifb_f]
theorem impl_upper_eq (k : Nat) (n : Nat) : impl_upper.f k (n : Int) = some (upB n) := by
  rw [impl_upper.f_eq, (up_ge n).1, (up_ge n).2, upB]
  cases decide (65 ≤ n) <;> simp [ifb_t, ifb_f]
theorem one_beq (n : Nat) : (((n : Int) == (1 : Int)) = decide (n = 1)) ∧ (((n : Int) != (1 : Int)) = !decide (n = 1)) := by
  by_cases h : n = 1
  · subst h; exact ⟨rfl, rfl⟩
  · have : ((n : Int) == (1 : Int)) = false := by simpa using (by omega : ¬ (n : Int) = 1)
    rw [decide_eq_false h, this, bne, this]; exact ⟨rfl, rfl⟩
theorem spec_l2Flag_eq (k : Nat) (s : ByteArray) : spec_l2Flag.f k s = some (flagB s) := by
  rw [spec_l2Flag.f_eq, (one_beq _).1, flagB]
  by_cases h : s.size = 1
  · have hi : 0 < s.size := by omega
    have e : byteAt s (0 : Int) = (bN s 0 : Int) := byteAt_bN hi
    rw [decide_eq_true h, e, (up_ge _).1, (up_ge _).2, upB]
    have e2 : decide ((0 : Int) < (s.size : Int)) = true := decide_eq_true (by omega)
    have e3 : decide (0 < (s.size : Int)) = true := e2
    cases decide (65 ≤ bN s 0) <;> simp [ifb_t, ifb_f, hi]
  · rw [decide_eq_false h, ifb_f]; rfl
theorem spec_l2Begins_eq (k : Nat) (s w : ByteArray) : spec_l2Begins.f k s w = some (begB s w) := by
  rw [spec_l2Begins.f_eq, begB, show decide ((s.size : Int) ≥ (w.size : Int)) = decide (w.size ≤ s.size) from dec_le _ _]
  by_cases h : w.size ≤ s.size
  · have e : decide ((w.size : Int) ≤ (s.size : Int)) = true := decide_eq_true (by omega)
    have e0 : decide ((0 : Int) ≤ (w.size : Int)) = true := decide_eq_true (by omega)
    simp only [decide_eq_true h, e, e0, ifb_t, Int.toNat_natCast, eq_beq, Bool.and_self, Int.toNat_zero, Bool.true_and, show decide ((0 : Int) ≤ 0) = true from rfl]
  · rw [decide_eq_false h, ifb_f]; rfl
theorem spec_l2Ends_eq (k : Nat) (s w : ByteArray) (hs : Sm s.size) : spec_l2Ends.f k s w = some (endB s w) := by
  rw [spec_l2Ends.f_eq, endB, show decide ((s.size : Int) ≥ (w.size : Int)) = decide (w.size ≤ s.size) from dec_le _ _]
  unfold Sm at hs
  by_cases h : w.size ≤ s.size
  · have ew : w64 ((s.size : Int) - (w.size : Int)) = ((s.size - w.size : Nat) : Int) := by rw [w64, w_id (by omega) (by omega)]; omega
    have e1 : decide ((0 : Int) ≤ ((s.size - w.size : Nat) : Int)) = true := decide_eq_true (by omega)
    have e2 : decide (((s.size - w.size : Nat) : Int) ≤ (s.size : Int)) = true := decide_eq_true (by omega)
    have e3 : decide ((s.size : Int) ≤ (s.size : Int)) = true := decide_eq_true (by omega)
    simp only [decide_eq_true h, ew, e1, e2, e3, ifb_t, Int.toNat_natCast, eq_beq, Bool.and_self, Bool.true_and]
  · rw [decide_eq_false h, ifb_f]; rfl
theorem strings_HasPrefix_eq (k : Nat) (s w : ByteArray) : strings_HasPrefix.f k s w = some (begB s w) := by
  have := spec_l2Begins_eq k s w
  rw [spec_l2Begins.f_eq] at this
  rw [strings_HasPrefix.f_eq, i_stringslite_HasPrefix.f_eq, this]
  rfl
theorem strings_HasSuffix_eq (k : Nat) (s w : ByteArray) (hs : Sm s.size) : strings_HasSuffix.f k s w = some (endB s w) := by
  have := spec_l2Ends_eq k s w hs
  rw [spec_l2Ends.f_eq] at this
  rw [strings_HasSuffix.f_eq, i_stringslite_HasSuffix.f_eq, this]
  rfl
theorem spec_AffixOk_al (a : Aff) (h : smA a) : Al fun k => spec_AffixOk.f k a = some (affB a) := by
  obtain ⟨h1, h2, h3, h4⟩ := h
  refine (((spec_l1Letters_al _ 4 h2).and (spec_l1Letters_al _ 4 h3)).and (spec_l1Letters_al _ 4 h4)).mono fun k e => ?_
  obtain ⟨⟨e1, e2⟩, e3⟩ := e
  rw [show ((4 : Nat) : Int) = 4 from rfl] at e1 e2 e3
  simp only [spec_AffixOk.f_eq, spec_l2Flag_eq, e1, e2, e3, Option.bind_some, spec_l2Begins_eq, spec_l2Ends_eq _ _ _ h4, affB]
  cases flagB a.1 <;> cases lettersB a.2.2.1 4 <;> cases lettersB a.2.2.2.1 4 <;> cases lettersB a.2.2.2.2 4 <;> cases a.2.1 <;> simp [ifb_t, ifb_f]
theorem impl_AffixOk_al (a : Aff) (h : smA a) : Al fun k => impl_AffixOk.f k a = some (affB a) := by
  obtain ⟨h1, h2, h3, h4⟩ := h
  have gt4 : ∀ n : Nat, decide ((n : Int) > 4) = !decide (n ≤ 4) := fun n => by
    by_cases h : n ≤ 4
    · rw [decide_eq_true h, decide_eq_false (by omega)]; rfl
    · rw [decide_eq_false h, decide_eq_true (by omega)]; rfl
  have w1 : w64 (0 + 1) = 1 := by rw [w64, w_id (by omega) (by omega)]; rfl
  have w2 : w64 (1 + 1) = 2 := by rw [w64, w_id (by omega) (by omega)]; rfl
  have w3 : w64 (2 + 1) = 3 := by rw [w64, w_id (by omega) (by omega)]; rfl
  have fin : Al2 fun k k1 => impl_AffixOk.L4 k k1 a [a.2.2.1, a.2.2.2.1, a.2.2.2.2] 3 3 = some (if a.2.1 then begB a.2.2.2.2 a.2.2.1 else endB a.2.2.2.2 a.2.2.1) :=
    Al2.succ (Al2.now fun k k1 => by
      simp only [impl_AffixOk.L4_eq, show decide ((3 : Int) < 3) = false from rfl, ifb_f, strings_HasPrefix_eq, strings_HasSuffix_eq _ _ _ h4, Option.bind_some]
      cases a.2.1 <;> simp [ifb_t, ifb_f])
  have s2 : Al2 fun k k1 => impl_AffixOk.L4 k k1 a [a.2.2.1, a.2.2.2.1, a.2.2.2.2] 3 2 = some (lettersB a.2.2.2.2 4 && if a.2.1 then begB a.2.2.2.2 a.2.2.1 else endB a.2.2.2.2 a.2.2.1) := Al2.succ (((impl_lower_al _ h4).snd.and fin).mono fun k k1 ⟨e1, e2⟩ => by
      simp only [impl_AffixOk.L4_eq, show decide ((2 : Int) < 3) = true from rfl, ifb_t, w3, show [a.2.2.1, a.2.2.2.1, a.2.2.2.2].getD (2 : Int).toNat bz = a.2.2.2.2 from rfl, e1, e2, gt4, Option.bind_some, lettersB, show decide ((2 : Int) < ([a.2.2.1, a.2.2.2.1, a.2.2.2.2].length : Int)) = true from rfl, show decide ((0 : Int) ≤ 2) = true from rfl, Bool.and_self]
      cases lowsB a.2.2.2.2 <;> cases decide (a.2.2.2.2.size ≤ 4) <;> simp [ifb_t, ifb_f])
  have s1 : Al2 fun k k1 => impl_AffixOk.L4 k k1 a [a.2.2.1, a.2.2.2.1, a.2.2.2.2] 3 1 = some (lettersB a.2.2.2.1 4 && (lettersB a.2.2.2.2 4 && if a.2.1 then begB a.2.2.2.2 a.2.2.1 else endB a.2.2.2.2 a.2.2.1)) := Al2.succ (((impl_lower_al _ h3).snd.and s2).mono fun k k1 ⟨e1, e2⟩ => by
      simp only [impl_AffixOk.L4_eq, show decide ((1 : Int) < 3) = true from rfl, ifb_t, w2, show [a.2.2.1, a.2.2.2.1, a.2.2.2.2].getD (1 : Int).toNat bz = a.2.2.2.1 from rfl, e1, e2, gt4, Option.bind_some, show decide ((1 : Int) < ([a.2.2.1, a.2.2.2.1, a.2.2.2.2].length : Int)) = true from rfl, show decide ((0 : Int) ≤ 1) = true from rfl, Bool.and_self]
      simp only [show lettersB a.2.2.2.1 4 = (lowsB a.2.2.2.1 && decide (a.2.2.2.1.size ≤ 4)) from rfl]
      cases lowsB a.2.2.2.1 <;> cases decide (a.2.2.2.1.size ≤ 4) <;> simp [ifb_t, ifb_f])
  have s0 : Al2 fun k k1 => impl_AffixOk.L4 k k1 a [a.2.2.1, a.2.2.2.1, a.2.2.2.2] 3 0 = some (lettersB a.2.2.1 4 && (lettersB a.2.2.2.1 4 && (lettersB a.2.2.2.2 4 && if a.2.1 then begB a.2.2.2.2 a.2.2.1 else endB a.2.2.2.2 a.2.2.1))) := Al2.succ (((impl_lower_al _ h2).snd.and s1).mono fun k k1 ⟨e1, e2⟩ => by
      simp only [impl_AffixOk.L4_eq, show decide ((0 : Int) < 3) = true from rfl, ifb_t, w1, show [a.2.2.1, a.2.2.2.1, a.2.2.2.2].getD (0 : Int).toNat bz = a.2.2.1 from rfl, e1, e2, gt4, Option.bind_some, show decide ((0 : Int) < ([a.2.2.1, a.2.2.2.1, a.2.2.2.2].length : Int)) = true from rfl, show decide ((0 : Int) ≤ 0) = true from rfl, Bool.and_self]
      simp only [show lettersB a.2.2.1 4 = (lowsB a.2.2.1 && decide (a.2.2.1.size ≤ 4)) from rfl]
      cases lowsB a.2.2.1 <;> cases decide (a.2.2.1.size ≤ 4) <;> simp [ifb_t, ifb_f])
  refine s0.diag.mono fun k e => ?_
  rw [impl_AffixOk.f_eq, (one_beq _).2, affB, flagB]
  by_cases h : a.1.size = 1
  · have hi : 0 < a.1.size := by omega
    rw [show byteAt a.1 (0 : Int) = (bN a.1 0 : Int) from byteAt_bN hi, impl_upper_eq, show (([a.2.2.1, a.2.2.2.1, a.2.2.2.2].length : Nat) : Int) = 3 from rfl, e, decide_eq_true h]
    have e2 : decide ((0 : Int) < (a.1.size : Int)) = true := decide_eq_true (by omega)
    simp only [e2, show decide ((0 : Int) ≤ 0) = true from rfl, Bool.and_self, ifb_t, ifb_f, Bool.not_true, Option.bind_some]
    cases upB (bN a.1 0) <;> simp [ifb_t, ifb_f]
  · rw [decide_eq_false h, Bool.not_false, ifb_t]; rfl
theorem gt_not (a b : Nat) : decide ((a : Int) ≥ (b : Int)) = !decide (a < b) := by
  by_cases h : a < b
  · rw [decide_eq_true h, decide_eq_false (by omega)]; rfl
  · rw [decide_eq_false h, decide_eq_true (by omega)]; rfl
theorem bN_one (s : ByteArray) (i : Nat) (h : i < s.size) : flagB (s.extract i (i + 1)) = upB (bN s i) := by
  have hz : (s.extract i (i + 1)).size = 1 := by rw [ByteArray.size_extract]; omega
  have hb : bN (s.extract i (i + 1)) 0 = bN s i := by
    unfold bN
    have e : (bl (s.extract i (i + 1))) = ((bl s).drop i).take 1 := by
      simp only [bl, ByteArray.data_extract, Array.toList_extract, List.extract_eq_take_drop]
      rw [show i + 1 - i = 1 by omega]
    rw [e]
    obtain ⟨b, t, hd⟩ := bytes0 h
    rw [hd, (drop_cons 0 hd).2.1]
    rfl
  rw [flagB, hz, hb]
  simp
theorem spec_l2Entry_al (e : En) (h : smE e) : Al fun k => spec_l2Entry.f k e = some (entB e) := by
  obtain ⟨h1, h2⟩ := h
  have key := loop_all (G := fun k k1 x => spec_l2Entry.L2 k k1 e x) (n := e.2.size) (fun i => upB (bN e.2 i) && (decide (i = 0) || decide (bN e.2 (i - 1) < bN e.2 i))) (stop := false) (fin := wordB e.1 && decide (e.2.size ≤ 4))
    (Al2.succ ((spec_l1Word_al e.1 h1).fst.mono fun k k1 w => by
      simp only [spec_l2Entry.L2_eq, at_end (Nat.lt_irrefl _), ifb_f, w, Option.bind_some, show decide ((e.2.size : Int) ≤ 4) = decide (e.2.size ≤ 4) from dec_le _ 4]
      cases wordB e.1 <;> simp [ifb_t, ifb_f])) fun i hi r hr => by
      obtain ⟨c1, c2, c3, c4⟩ := at_i hi h2
      have c5 : decide ((i : Int) ≤ ((i + 1 : Nat) : Int)) = true := decide_eq_true (by omega)
      have c6 : decide (((i + 1 : Nat) : Int) ≤ (e.2.size : Int)) = true := decide_eq_true (by omega)
      refine Al2.succ (hr.mono fun k k1 e1 => ?_)
      simp only [spec_l2Entry.L2_eq, c1, c2, c3, w64, c4, c5, c6, Bool.and_self, ifb_t, Int.toNat_natCast, spec_l2Flag_eq, bN_one _ _ hi, Option.bind_some, e1]
      by_cases h0 : 0 < i
      · obtain ⟨d1, d2, d3, d4, d5⟩ := at_pred h0 hi h2
        simp only [d1, d2, d3, d4, Bool.and_self, ifb_t, byteAt_bN hi, byteAt_bN (show i - 1 < e.2.size by omega), gt_not, show decide (i = 0) = false from decide_eq_false (by omega), Bool.false_or]
        cases upB (bN e.2 i) <;> cases decide (bN e.2 (i - 1) < bN e.2 i) <;> simp [ifb_t, ifb_f]
      · simp only [at_first h0, ifb_f, show decide (i = 0) = true from decide_eq_true (by omega), Bool.true_or, Bool.and_true]
        cases upB (bN e.2 i) <;> simp [ifb_t, ifb_f]
  refine key.diag.mono fun k e1 => ?_
  rw [spec_l2Entry.f_eq, e1, entB]
  cases allN e.2.size _ <;> simp
theorem impl_entryOk_al (e : En) (h : smE e) : Al fun k => impl_entryOk.f k e = some (entB e) := by
  obtain ⟨h1, h2⟩ := h
  have key := loop_all (G := fun k k1 x => impl_entryOk.L2 k k1 e (e.2.size : Int) x) (n := e.2.size) (fun i => upB (bN e.2 i) && (decide (i = 0) || decide (bN e.2 (i - 1) < bN e.2 i))) (stop := false) (fin := wordB e.1 && decide (e.2.size ≤ 4))
    (Al2.succ ((impl_WordOk_al e.1 h1).fst.mono fun k k1 w => by
      simp only [impl_entryOk.L2_eq, at_end (Nat.lt_irrefl _), ifb_f, w, Option.bind_some, show decide ((e.2.size : Int) ≤ 4) = decide (e.2.size ≤ 4) from dec_le _ 4]
      cases wordB e.1 <;> simp [ifb_t, ifb_f])) fun i hi r hr => by
      obtain ⟨c1, c2, c3, c4⟩ := at_i hi h2
      refine Al2.succ (hr.mono fun k k1 e1 => ?_)
      simp only [impl_entryOk.L2_eq, c1, c2, c3, w64, c4, Bool.and_self, ifb_t, byteAt_bN hi, impl_upper_eq, Option.bind_some, e1]
      by_cases h0 : 0 < i
      · obtain ⟨d1, d2, d3, d4, d5⟩ := at_pred h0 hi h2
        simp only [d1, d2, d3, d4, Bool.and_self, ifb_t, byteAt_bN (show i - 1 < e.2.size by omega), gt_not, show decide (i = 0) = false from decide_eq_false (by omega), Bool.false_or]
        cases upB (bN e.2 i) <;> cases decide (bN e.2 (i - 1) < bN e.2 i) <;> simp [ifb_t, ifb_f]
      · simp only [at_first h0, ifb_f, show decide (i = 0) = true from decide_eq_true (by omega), Bool.true_or, Bool.and_true]
        cases upB (bN e.2 i) <;> simp [ifb_t, ifb_f]
  refine key.diag.mono fun k e1 => ?_
  rw [impl_entryOk.f_eq, e1, entB]
  cases allN e.2.size _ <;> simp
end Go.Proofs.Ytabindnaedchgaa.Rf
