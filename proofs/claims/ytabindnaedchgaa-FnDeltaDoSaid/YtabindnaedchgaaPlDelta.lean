/- A delta done to a book, both sides. -/
import Derived.Test.YtabindnaedchgaaPlBook
import Derived.Test.YtabindnaedchgaaSortIns
namespace Go.Proofs.Ytabindnaedchgaa.Rf
open Go Go.RowKit
set_option linter.unusedVariables false
set_option linter.unusedSimpArgs false
/-- how many stems at the beginning come before one -/
def atE (l : List En) (s : ByteArray) : Nat := (l.takeWhile fun e => ltS e.1 s).length
def thereE (l : List En) (s : ByteArray) : Bool := match l.drop (atE l s) with
  | e :: _ => decide (e.1 = s)
  | [] => false
theorem spec_l5At_al (l : List En) (s : ByteArray) (hS : Sm l.length) : Al fun k => spec_l5At.f k l s = some ((atE l s : Int), thereE l s) := by
  have key : ∀ (t : List En) (i : Nat), l.drop i = t → Al2 fun k k1 => spec_l5At.L2 k k1 l s (i : Int) = some (((i + (t.takeWhile fun e => ltS e.1 s).length : Nat) : Int), match t.drop (t.takeWhile fun e => ltS e.1 s).length with | e :: _ => decide (e.1 = s) | [] => false) := by
    intro t
    induction t with
    | nil =>
      intro i hd
      refine Al2.succ (Al2.now fun k k1 => ?_)
      simp only [spec_l5At.L2_eq, at_end (drop_nil hd), ifb_f]
      rfl
    | cons x t ih =>
      intro i hd
      obtain ⟨hi, g1, g2⟩ := drop_cons zE hd
      obtain ⟨c1, c2, c3, c4⟩ := at_i hi hS
      refine Al2.succ ((ih (i + 1) g2).mono fun k k1 e => ?_)
      simp only [spec_l5At.L2_eq, c1, c2, c3, w64, c4, g1, Bool.and_self, ifb_t, e, eq_beq]
      cases hx : Op.bytesLess x.1.toList s.toList
      · rw [ifb_f, List.takeWhile_cons_of_neg (by simp [ltS, hx])]
        rfl
      · rw [ifb_t, List.takeWhile_cons_of_pos (by simp [ltS, hx])]
        simp only [List.length_cons, List.drop_succ_cons]
        rw [show i + 1 + (t.takeWhile fun e => ltS e.1 s).length = i + ((t.takeWhile fun e => ltS e.1 s).length + 1) by omega]
  refine (key l 0 rfl).diag.mono fun k e => ?_
  rw [spec_l5At.f_eq, show (0 : Int) = ((0 : Nat) : Int) from rfl, e]
  simp only [Nat.zero_add]
  rfl
theorem spec_l5Book_eq (k : Nat) (b : Book) (h1 : b.1.length ≤ 1099511627776) (h2 : b.2.length ≤ 1099511627776) : spec_l5Book.f k b = some b := by
  rw [spec_l5Book.f_eq]
  have e1 : decide ((([] : List Aff).length + b.1.length) * 72 ≤ rowMax) = true := decide_eq_true (by simp [rowMax]; omega)
  have e2 : decide ((([] : List En).length + b.2.length) * 32 ≤ rowMax) = true := decide_eq_true (by simp [rowMax]; omega)
  rw [e1, e2, ifb_t, ifb_t]
  simp
theorem impl_cloneBook_eq (k : Nat) (b : Book) (h1 : b.1.length ≤ 1099511627776) (h2 : b.2.length ≤ 1099511627776) : impl_cloneBook.f k b = some b := by
  have := spec_l5Book_eq k b h1 h2
  rw [spec_l5Book.f_eq] at this
  rw [impl_cloneBook.f_eq, this]
def inB_ (l : List ByteArray) (s : ByteArray) : Bool := l.any fun x => decide (x = s)
theorem spec_l2In_al (l : List ByteArray) (s : ByteArray) (hS : Sm l.length) : Al fun k => spec_l2In.f k l s = some (inB_ l s) := by
  have key : ∀ (t : List ByteArray) (i : Nat), l.drop i = t → Al2 fun k k1 => spec_l2In.L2 k k1 l s (i : Int) = some (inB_ t s) := by
    intro t
    induction t with
    | nil =>
      intro i hd
      refine Al2.succ (Al2.now fun k k1 => ?_)
      simp only [spec_l2In.L2_eq, at_end (drop_nil hd), ifb_f]
      rfl
    | cons x t ih =>
      intro i hd
      obtain ⟨hi, g1, g2⟩ := drop_cons bz hd
      obtain ⟨c1, c2, c3, c4⟩ := at_i hi hS
      refine Al2.succ ((ih (i + 1) g2).mono fun k k1 e => ?_)
      simp only [spec_l2In.L2_eq, c1, c2, c3, w64, c4, g1, Bool.and_self, ifb_t, e, eq_beq, inB_, List.any_cons]
      cases decide (x = s) <;> simp [ifb_t, ifb_f]
  refine (key l 0 rfl).diag.mono fun k e => ?_
  rw [spec_l2In.f_eq, show (0 : Int) = ((0 : Nat) : Int) from rfl, e]
theorem contains_str_al (l : List ByteArray) (s : ByteArray) (hS : Sm l.length) : Al fun k => slices_Contains_string_string.f k l s = some (inB_ l s) := by
  have key : ∀ (t : List ByteArray) (i : Nat), l.drop i = t → Al2 fun k k1 => ∃ r, slices_Index_string_string.L2 k k1 l s (l.length : Int) (i : Int) = some r ∧ decide (r ≥ 0) = inB_ t s := by
    intro t
    induction t with
    | nil =>
      intro i hd
      refine Al2.succ (Al2.now fun k k1 => ⟨-1, ?_, rfl⟩)
      simp only [slices_Index_string_string.L2_eq, at_end (drop_nil hd), ifb_f]
    | cons x t ih =>
      intro i hd
      obtain ⟨hi, g1, g2⟩ := drop_cons bz hd
      obtain ⟨c1, c2, c3, c4⟩ := at_i hi hS
      refine Al2.succ ((ih (i + 1) g2).mono fun k k1 ⟨r, e1, e2⟩ => ?_)
      simp only [slices_Index_string_string.L2_eq, c1, c2, c3, w64, c4, g1, Bool.and_self, ifb_t, eq_beq, e1]
      by_cases hx : x = s
      · refine ⟨i, ?_, ?_⟩
        · rw [decide_eq_true hx.symm, ifb_t]
        · rw [inB_, List.any_cons, decide_eq_true hx]; exact c2
      · refine ⟨r, ?_, ?_⟩
        · rw [decide_eq_false (fun h => hx h.symm), ifb_f]
        · rw [inB_, List.any_cons, decide_eq_false hx]; exact e2
  refine (key l 0 rfl).diag.mono fun k ⟨r, e1, e2⟩ => ?_
  rw [show ((0 : Nat) : Int) = 0 from rfl] at e1
  rw [slices_Contains_string_string.f_eq, slices_Index_string_string.f_eq, e1, Option.bind_some, e2]
/-! ### Order -/
theorem asc_of {l : List En} (h : (allN l.length fun i => entB (l.getD i zE) && (decide (i = 0) || ltS (l.getD (i - 1) zE).1 (l.getD i zE).1)) = true) : l.Pairwise fun a b => ltE a b = true := by
  rw [allN_iff] at h
  have step : ∀ i, i + 1 < l.length → ltE (l.getD i zE) (l.getD (i + 1) zE) = true := by
    intro i hi
    have := h (i + 1) hi
    simp only [Bool.and_eq_true, Bool.or_eq_true, decide_eq_true_eq, Nat.add_sub_cancel] at this
    exact this.2.resolve_left (by omega)
  rw [List.pairwise_iff_getElem]
  have far : ∀ d i, i + d + 1 < l.length → ltE (l.getD i zE) (l.getD (i + d + 1) zE) = true := by
    intro d
    induction d with
    | zero => exact fun i hi => step i hi
    | succ d ih => exact fun i hi => ltE_trans (ih i (by omega)) (step (i + d + 1) hi)
  intro i j hi hj hij
  have := far (j - i - 1) i (by omega)
  rw [show i + (j - i - 1) + 1 = j by omega] at this
  rwa [List.getD_eq_getElem?_getD, List.getElem?_eq_getElem hi, List.getD_eq_getElem?_getD, List.getElem?_eq_getElem hj] at this
theorem asc_ents {l : List En} (h : entsB l = true) : l.Pairwise fun a b => ltE a b = true := by
  rw [entsB, Bool.and_eq_true] at h
  exact asc_of h.1
theorem ltE_ne {a b : En} (h : ltE a b = true) : a.1 ≠ b.1 := by
  intro e
  unfold ltE at h
  rw [e] at h
  have := ltE_irrefl b
  unfold ltE at this
  rw [this] at h
  cases h
theorem there_has {l : List En} (h : l.Pairwise fun a b => ltE a b = true) (s : ByteArray) : thereE l s = hasE l s := by
  induction l with
  | nil => rfl
  | cons x l ih =>
    obtain ⟨h1, h2⟩ := List.pairwise_cons.1 h
    unfold thereE atE
    cases hx : ltS x.1 s
    · rw [List.takeWhile_cons_of_neg (by simp [hx])]
      simp only [List.length_nil, List.drop_zero, hasE, List.any_cons]
      by_cases he : x.1 = s
      · rw [decide_eq_true he]; rfl
      · rw [decide_eq_false he, Bool.false_or]
        symm
        rw [List.any_eq_false]
        intro y hy
        simp only [decide_eq_true_eq]
        intro hys
        have := h1 y hy
        unfold ltE at this
        rw [hys] at this
        unfold ltS at hx
        rw [this] at hx
        cases hx
    · rw [List.takeWhile_cons_of_pos (by simp [hx])]
      simp only [List.length_cons, List.drop_succ_cons]
      have := ih h2
      unfold thereE atE at this
      rw [this, hasE, hasE, List.any_cons, decide_eq_false, Bool.false_or]
      intro he
      unfold ltS at hx
      rw [he] at hx
      have := ltE_irrefl (s, s)
      unfold ltE at this
      rw [hx] at this
      cases this
theorem ins_at (e : En) (l : List En) : l.take (atE l e.1) ++ [e] ++ l.drop (atE l e.1) = insE e l := by
  induction l with
  | nil => rfl
  | cons x l ih =>
    unfold atE insE
    cases hx : ltS x.1 e.1
    · rw [List.takeWhile_cons_of_neg (by simp [hx]), if_neg (by unfold ltE; unfold ltS at hx; rw [hx]; simp)]
      rfl
    · rw [List.takeWhile_cons_of_pos (by simp [hx]), if_pos (show ltE x e = true from hx)]
      simp only [List.length_cons, List.take_succ_cons, List.drop_succ_cons, List.cons_append]
      unfold atE at ih
      rw [ih]
theorem insE_length (e : En) (l : List En) : (insE e l).length = l.length + 1 := by
  have := (insE_perm e l).length_eq
  simpa using this
/-! ### What is done -/
def keepE (b : Book) (d : Delta) : List En := b.2.filter fun e => !hasE d.2.1 e.1 && !inB_ d.1 e.1
def doB (b : Book) (d : Delta) : Book := (if d.2.2.1 then d.2.2.2 else b.1, d.2.1.foldl (fun l e => insE e l) (keepE b d))
def deltaDo (b : Book) (d : Delta) : Book × Bool := if bookB b && deltaB d then (if (d.1.all fun s => hasE b.2 s) && bookB (doB b d) then (doB b d, true) else (b, false)) else (([], []), false)
theorem fold_length : ∀ (xs l : List En), (xs.foldl (fun l e => insE e l) l).length = l.length + xs.length
  | [], l => by simp
  | x :: xs, l => by rw [List.foldl_cons, fold_length xs, insE_length, List.length_cons]; omega
theorem spec_l5Do_al (b : Book) (d : Delta) (hb : b.1.length ≤ 8 ∧ b.2.length ≤ 24) (hd : d.1.length ≤ 24 ∧ d.2.1.length ≤ 24 ∧ d.2.2.2.length ≤ 8) (hc : d.2.1.Pairwise fun a b => ltE a b = true) : Al fun k => spec_l5Do.f k b d = some (doB b d) := by
  have hS : Sm b.2.length := by unfold Sm; omega
  have hC : Sm d.2.1.length := by unfold Sm; omega
  have hG : Sm d.1.length := by unfold Sm; omega
  have second : ∀ (x4 : Book) (t : List En) (i : Nat) (l : List En), d.2.1.drop i = t → l.length ≤ 24 + i → Al2 fun k k1 => spec_l5Do.L10 k k1 d x4 b l (i : Int) = some (if d.2.2.1 then d.2.2.2 else b.1, t.foldl (fun l e => insE e l) l) := by
    intro x4 t
    induction t with
    | nil =>
      intro i l ht hl
      refine Al2.succ (Al2.now fun k k1 => ?_)
      have e1 : decide ((([] : List Aff).length + d.2.2.2.length) * 72 ≤ rowMax) = true := decide_eq_true (by simp [rowMax]; omega)
      simp only [spec_l5Do.L10_eq, at_end (drop_nil ht), ifb_f, e1, ifb_t, List.nil_append, List.foldl_nil]
      cases d.2.2.1 <;> simp [ifb_t, ifb_f]
    | cons x t ih =>
      intro i l ht hl
      obtain ⟨hi, g1, g2⟩ := drop_cons zE ht
      obtain ⟨c1, c2, c3, c4⟩ := at_i hi hC
      have hlS : Sm l.length := by unfold Sm; omega
      have ha : atE l x.1 ≤ l.length := by unfold atE; exact (List.takeWhile_prefix _).length_le
      have r1 : decide ((0 : Int) ≤ (atE l x.1 : Int)) = true := decide_eq_true (by omega)
      have r2 : decide ((atE l x.1 : Int) ≤ (l.length : Int)) = true := decide_eq_true (by omega)
      have r3 : decide ((l.length : Int) ≤ (l.length : Int)) = true := decide_eq_true (by omega)
      have m1 : decide ((([] : List En).length + (l.take (atE l x.1)).length) * 32 ≤ rowMax) = true := decide_eq_true (by simp [rowMax]; omega)
      have m2 : decide ((([] ++ l.take (atE l x.1)).length + [x].length) * 32 ≤ rowMax) = true := decide_eq_true (by simp [rowMax]; omega)
      have m3 : decide (((([] ++ l.take (atE l x.1)) ++ [x]).length + (l.drop (atE l x.1)).length) * 32 ≤ rowMax) = true := decide_eq_true (by simp [rowMax]; omega)
      refine Al2.succ (((spec_l5At_al l x.1 hlS).snd.and (ih (i + 1) (insE x l) g2 (by rw [insE_length]; omega))).mono fun k k1 ⟨e1, e2⟩ => ?_)
      simp only [spec_l5Do.L10_eq, c1, c2, c3, w64, c4, g1, Bool.and_self, ifb_t, e1, Option.bind_some, r1, r2, r3, show decide ((0 : Int) ≤ 0) = true from rfl, Int.toNat_zero, Int.toNat_natCast, List.drop_zero, List.take_length, m1, m2, m3, List.nil_append]
      have m2' : decide (((l.take (atE l x.1)).length + [x].length) * 32 ≤ rowMax) = true := by simpa using m2
      have m3' : decide (((l.take (atE l x.1) ++ [x]).length + (l.drop (atE l x.1)).length) * 32 ≤ rowMax) = true := by simpa using m3
      simp only [m2', m3', ifb_t, ins_at]
      exact e2
  have first : ∀ (x4 : Book) (t : List En) (i : Nat) (l : List En), b.2.drop i = t → l.length + t.length ≤ 24 → Al2 fun k k1 => spec_l5Do.L4 k k1 b d x4 b l (i : Int) = some (if d.2.2.1 then d.2.2.2 else b.1, d.2.1.foldl (fun l e => insE e l) (l ++ t.filter fun e => !hasE d.2.1 e.1 && !inB_ d.1 e.1)) := by
    intro x4 t
    induction t with
    | nil =>
      intro i l ht hl
      refine Al2.succ ((second x4 d.2.1 0 l rfl (by simpa using hl)).diag.fst.mono fun k k1 e => ?_)
      simp only [spec_l5Do.L4_eq, at_end (drop_nil ht), ifb_f, List.filter_nil, List.append_nil]
      exact e
    | cons x t ih =>
      intro i l ht hl
      rw [List.length_cons] at hl
      obtain ⟨hi, g1, g2⟩ := drop_cons zE ht
      obtain ⟨c1, c2, c3, c4⟩ := at_i hi hS
      have m1 : decide ((l.length + [x].length) * 32 ≤ rowMax) = true := decide_eq_true (by simp [rowMax]; omega)
      refine Al2.succ ((((spec_l5At_al d.2.1 x.1 hC).snd.and (spec_l2In_al d.1 x.1 hG).snd).and ((ih (i + 1) l g2 (by omega)).and (ih (i + 1) (l ++ [x]) g2 (by simp; omega)))).mono fun k k1 ⟨⟨e1, e2⟩, e3, e4⟩ => ?_)
      simp only [spec_l5Do.L4_eq, c1, c2, c3, w64, c4, g1, Bool.and_self, ifb_t, e1, e2, Option.bind_some, there_has hc, m1, e3, e4, List.filter_cons]
      cases hasE d.2.1 x.1 <;> cases inB_ d.1 x.1 <;> simp [ifb_t, ifb_f]
  refine (first ([], []) b.2 0 [] rfl (by simpa using hb.2)).diag.mono fun k e => ?_
  rw [spec_l5Do.f_eq, spec_l5Book_eq k b (by omega) (by omega), Option.bind_some]
  exact e
theorem len_ok {b : Book} (h : bookB b = true) : b.1.length ≤ 8 ∧ b.2.length ≤ 24 := by
  simp only [bookB, affsB, entsB, Bool.and_eq_true, decide_eq_true_eq] at h
  exact ⟨h.1.2, h.2.2⟩
theorem len_okD {d : Delta} (h : deltaB d = true) : d.1.length ≤ 24 ∧ d.2.1.length ≤ 24 ∧ d.2.2.2.length ≤ 8 := by
  simp only [deltaB, wordsB, affsB, entsB, Bool.and_eq_true, decide_eq_true_eq] at h
  exact ⟨h.1.2, h.2.1.2, h.2.2.1.2⟩
theorem asc_okB {b : Book} (h : bookB b = true) : b.2.Pairwise fun a b => ltE a b = true := by
  simp only [bookB, Bool.and_eq_true] at h
  exact asc_ents h.2
theorem asc_okD {d : Delta} (h : deltaB d = true) : d.2.1.Pairwise fun a b => ltE a b = true := by
  simp only [deltaB, Bool.and_eq_true] at h
  exact asc_ents h.2.1
theorem fold_mem : ∀ (xs l : List En) (x : En), x ∈ xs.foldl (fun l e => insE e l) l ↔ x ∈ l ∨ x ∈ xs := by
  intro xs l x
  rw [(fold_perm xs l).mem_iff, List.mem_append]
theorem doB_sm {b : Book} {d : Delta} (hb : smB b) (hd : smD d) (h1 : b.1.length ≤ 8 ∧ b.2.length ≤ 24) (h2 : d.1.length ≤ 24 ∧ d.2.1.length ≤ 24 ∧ d.2.2.2.length ≤ 8) : smB (doB b d) := by
  obtain ⟨⟨a1, a2⟩, a3, a4⟩ := hb
  obtain ⟨⟨b1, b2⟩, ⟨b3, b4⟩, b5, b6⟩ := hd
  have hl : (keepE b d).length ≤ b.2.length := List.length_filter_le _ _
  refine ⟨⟨?_, fun a ha => ?_⟩, ?_, fun e he => ?_⟩
  · simp only [doB]; split <;> omega
  · simp only [doB] at ha; split at ha
    · exact b6 a ha
    · exact a2 a ha
  · simp only [doB, fold_length]; omega
  · simp only [doB, fold_mem] at he
    rcases he with he | he
    · exact a4 e (List.mem_filter.1 he).1
    · exact b4 e he
theorem spec_DeltaDo_al (b : Book) (d : Delta) (hb : smB b) (hd : smD d) : Al fun k => spec_DeltaDo.f k b d = some (deltaDo b d) := by
  have e0 := (spec_BookOk_al b hb).and (spec_DeltaOk_al d hd)
  cases h1 : bookB b
  · refine e0.mono fun k ⟨e1, e2⟩ => ?_
    simp only [spec_DeltaDo.f_eq, e1, h1, Option.bind_some, Bool.not_false, ifb_t, deltaDo, Bool.false_and, Bool.false_eq_true, if_false]
  cases h2 : deltaB d
  · refine e0.mono fun k ⟨e1, e2⟩ => ?_
    simp only [spec_DeltaDo.f_eq, e1, e2, h1, h2, Option.bind_some, Bool.not_false, Bool.not_true, ifb_t, ifb_f, deltaDo, Bool.true_and, Bool.false_eq_true, if_false]
  obtain ⟨n1, n2⟩ := len_ok h1
  obtain ⟨n3, n4, n5⟩ := len_okD h2
  have hS : Sm d.1.length := by unfold Sm; omega
  have hE : Sm b.2.length := by unfold Sm; omega
  have key := loop_all (G := fun k k1 x => spec_DeltaDo.L4 k k1 b d ([], []) x) (n := d.1.length) (fun i => hasE b.2 (d.1.getD i bz)) (stop := (b, false)) (fin := if bookB (doB b d) then (doB b d, true) else (b, false))
    (Al2.succ (((spec_l5Do_al b d ⟨n1, n2⟩ ⟨n3, n4, n5⟩ (asc_okD h2)).fst.and (spec_BookOk_al _ (doB_sm hb hd ⟨n1, n2⟩ ⟨n3, n4, n5⟩)).fst).mono fun k k1 ⟨e1, e2⟩ => by
      simp only [spec_DeltaDo.L4_eq, at_end (Nat.lt_irrefl _), ifb_f, e1, e2, Option.bind_some, spec_l5Book_eq k b (by omega) (by omega)]
      cases bookB (doB b d) <;> simp [ifb_t, ifb_f])) fun i hi r hr => by
      obtain ⟨c1, c2, c3, c4⟩ := at_i hi hS
      refine Al2.succ (((spec_l5At_al b.2 (d.1.getD i bz) hE).snd.and hr).mono fun k k1 ⟨e1, e2⟩ => ?_)
      simp only [spec_DeltaDo.L4_eq, c1, c2, c3, w64, c4, Bool.and_self, ifb_t, e1, e2, Option.bind_some, there_has (asc_okB h1), spec_l5Book_eq k1 b (by omega) (by omega)]
      cases hasE b.2 (d.1.getD i bz) <;> simp [ifb_t, ifb_f]
  rw [allN_list d.1 bz fun s => hasE b.2 s] at key
  refine (e0.and key.diag).mono fun k ⟨⟨e1, e2⟩, e3⟩ => ?_
  simp only [spec_DeltaDo.f_eq, e1, e2, h1, h2, Option.bind_some, Bool.not_true, ifb_f, e3, deltaDo, Bool.and_self, if_true]
  cases d.1.all _ <;> cases bookB (doB b d) <;> simp
/-! ### The program's way -/
theorem keep_asc {b : Book} (d : Delta) (h : b.2.Pairwise fun a b => ltE a b = true) : (keepE b d).Pairwise fun a b => ltE a b = true := h.sublist List.filter_sublist
theorem keep_apart {b : Book} {d : Delta} (h : b.2.Pairwise fun a b => ltE a b = true) (hc : d.2.1.Pairwise fun a b => ltE a b = true) : ((keepE b d ++ d.2.1).map fun e => e.1).Pairwise fun a b => a ≠ b := by
  rw [List.map_append, List.pairwise_append]
  refine ⟨?_, ?_, ?_⟩
  · rw [List.pairwise_map]; exact (keep_asc d h).imp fun h => ltE_ne h
  · rw [List.pairwise_map]; exact hc.imp fun h => ltE_ne h
  · intro x hx y hy e
    obtain ⟨e1, h1, rfl⟩ := List.mem_map.1 hx
    obtain ⟨e2, h2, rfl⟩ := List.mem_map.1 hy
    have := (List.mem_filter.1 h1).2
    simp only [Bool.and_eq_true, Bool.not_eq_true', hasE] at this
    have h3 := List.any_eq_false.1 this.1 e2 h2
    simp only [decide_eq_true_eq] at h3
    exact h3 e.symm
theorem sort_eq (k : Nat) (l : List En) (h1 : (l.map fun e => e.1).Pairwise fun a b => a ≠ b) (h2 : l.length < 4611686018427387904) : impl_sortEntries.f k l = some (sortE l) := by
  unfold impl_sortEntries.f impl_sortEntries.F
  exact if_pos ⟨h1, h2⟩
theorem impl_DeltaDo_al (b : Book) (d : Delta) (hb : smB b) (hd : smD d) : Al fun k => impl_DeltaDo.f k b d = some (deltaDo b d) := by
  have e0 := (impl_BookOk_al b hb).and (impl_DeltaOk_al d hd)
  cases h1 : bookB b
  · refine e0.mono fun k ⟨e1, e2⟩ => ?_
    simp only [impl_DeltaDo.f_eq, e1, h1, Option.bind_some, Bool.not_false, ifb_t, deltaDo, Bool.false_and, Bool.false_eq_true, if_false]
  cases h2 : deltaB d
  · refine e0.mono fun k ⟨e1, e2⟩ => ?_
    simp only [impl_DeltaDo.f_eq, e1, e2, h1, h2, Option.bind_some, Bool.not_false, Bool.not_true, ifb_t, ifb_f, deltaDo, Bool.true_and, Bool.false_eq_true, if_false]
  obtain ⟨n1, n2⟩ := len_ok h1
  obtain ⟨n3, n4, n5⟩ := len_okD h2
  have hS : Sm d.1.length := by unfold Sm; omega
  have hE : Sm b.2.length := by unfold Sm; omega
  have hC : Sm d.2.1.length := by unfold Sm; omega
  have hk : (keepE b d).length ≤ 24 := Nat.le_trans (List.length_filter_le _ _) n2
  have tail : ∀ x6 : Book, smB x6 → Al fun k => impl_DeltaDo.J20 k b ([], []) x6 = some (if bookB x6 then (x6, true) else (b, false)) := fun x6 h6 => Al.succ ((impl_BookOk_al x6 h6).mono fun k e => by
    simp only [impl_DeltaDo.J20_eq, e, Option.bind_some, impl_cloneBook_eq k b (by omega) (by omega)]
    cases bookB x6 <;> simp [ifb_t, ifb_f])
  have hsort : sortE (keepE b d ++ d.2.1) = d.2.1.foldl (fun l e => insE e l) (keepE b d) := sortE_append _ _ (keep_asc d (asc_okB h1))
  have two : ∀ (t : List En) (i : Nat) (l : List En), b.2.drop i = t → l ++ (t.filter fun e => !hasE d.2.1 e.1 && !inB_ d.1 e.1) = keepE b d → Al2 fun k k1 => impl_DeltaDo.L11 k k1 b d ([], []) (b.1, l) b.2 (b.2.length : Int) (i : Int) = some (if bookB (doB b d) then (doB b d, true) else (b, false)) := by
    intro t
    induction t with
    | nil =>
      intro i l ht hl
      simp only [List.filter_nil, List.append_nil] at hl
      subst hl
      refine Al2.succ ((tail _ (doB_sm hb hd ⟨n1, n2⟩ ⟨n3, n4, n5⟩)).fst.mono fun k k1 e => ?_)
      have m1 : decide (((keepE b d).length + d.2.1.length) * 32 ≤ rowMax) = true := decide_eq_true (by simp [rowMax]; omega)
      have m2 : decide ((([] : List Aff).length + d.2.2.2.length) * 72 ≤ rowMax) = true := decide_eq_true (by simp [rowMax]; omega)
      simp only [impl_DeltaDo.L11_eq, at_end (drop_nil ht), ifb_f, m1, m2, ifb_t, sort_eq k _ (keep_apart (asc_okB h1) (asc_okD h2)) (by rw [List.length_append]; omega), Option.bind_some, hsort, List.nil_append]
      unfold doB at e ⊢
      cases hf : d.2.2.1
      · rw [hf] at e; simpa [ifb_f] using e
      · rw [hf] at e; simpa [ifb_t] using e
    | cons x t ih =>
      intro i l ht hl
      obtain ⟨hi, g1, g2⟩ := drop_cons zE ht
      obtain ⟨c1, c2, c3, c4⟩ := at_i hi hE
      have hll : l.length ≤ 24 := by have := congrArg List.length hl; rw [List.length_append] at this; omega
      have m1 : decide ((l.length + [x].length) * 32 ≤ rowMax) = true := decide_eq_true (by simp [rowMax]; omega)
      rw [List.filter_cons] at hl
      have e0 := contains_str_al d.1 x.1 hS
      cases ha : inB_ d.1 x.1
      · cases hb' : hasE d.2.1 x.1
        · have := ih (i + 1) (l ++ [x]) g2 (by simpa [ha, hb'] using hl)
          refine Al2.succ ((e0.snd.and this).mono fun k k1 ⟨e1, e2⟩ => ?_)
          simp only [impl_DeltaDo.L11_eq, c1, c2, c3, w64, c4, g1, Bool.and_self, ifb_t, e1, ha, Option.bind_some, entryAt_eq _ _ _ hC, idxE_neg, hb', Bool.not_false, m1]
          exact e2
        · have := ih (i + 1) l g2 (by simpa [ha, hb'] using hl)
          refine Al2.succ ((e0.snd.and this).mono fun k k1 ⟨e1, e2⟩ => ?_)
          simp only [impl_DeltaDo.L11_eq, c1, c2, c3, w64, c4, g1, Bool.and_self, ifb_t, e1, ha, Option.bind_some, entryAt_eq _ _ _ hC, idxE_neg, hb', Bool.not_false, Bool.not_true, ifb_f]
          exact e2
      · have := ih (i + 1) l g2 (by simpa [ha] using hl)
        refine Al2.succ ((e0.snd.and this).mono fun k k1 ⟨e1, e2⟩ => ?_)
        simp only [impl_DeltaDo.L11_eq, c1, c2, c3, w64, c4, g1, Bool.and_self, ifb_t, e1, ha, Option.bind_some, Bool.not_true, ifb_f]
        exact e2
  have key := loop_all (G := fun k k1 x => impl_DeltaDo.L5 k k1 b d ([], []) (b.1, []) d.1 (d.1.length : Int) x) (n := d.1.length) (fun i => hasE b.2 (d.1.getD i bz)) (stop := (b, false)) (fin := if bookB (doB b d) then (doB b d, true) else (b, false))
    (Al2.succ ((two b.2 0 [] rfl rfl).diag.fst.mono fun k k1 e => by
      simp only [impl_DeltaDo.L5_eq, at_end (Nat.lt_irrefl _), ifb_f]
      exact e)) fun i hi r hr => by
      obtain ⟨c1, c2, c3, c4⟩ := at_i hi hS
      refine Al2.succ (hr.mono fun k k1 e2 => ?_)
      simp only [impl_DeltaDo.L5_eq, c1, c2, c3, w64, c4, Bool.and_self, ifb_t, entryAt_eq _ _ _ hE, idxE_neg, e2, Option.bind_some, impl_cloneBook_eq k1 b (by omega) (by omega)]
      cases hasE b.2 (d.1.getD i bz) <;> simp [ifb_t, ifb_f]
  rw [allN_list d.1 bz fun s => hasE b.2 s] at key
  refine (e0.and key.diag).mono fun k ⟨⟨e1, e2⟩, e3⟩ => ?_
  have m1 : decide ((([] : List Aff).length + b.1.length) * 72 ≤ rowMax) = true := decide_eq_true (by simp [rowMax]; omega)
  simp only [impl_DeltaDo.f_eq, e1, e2, h1, h2, Option.bind_some, Bool.not_true, ifb_f, m1, ifb_t, List.nil_append, e3, deltaDo, Bool.and_self, if_true]
  cases d.1.all _ <;> cases bookB (doB b d) <;> simp
end Go.Proofs.Ytabindnaedchgaa.Rf
