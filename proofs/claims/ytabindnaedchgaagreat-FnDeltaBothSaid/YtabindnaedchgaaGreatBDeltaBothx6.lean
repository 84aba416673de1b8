import Derived.Test.YtabindnaedchgaaGreatBDeltaBothx5
import Derived.Laws.BitsLemmas
import Derived.Test.YtabindnaedchgaaGreatBDeltaBothx3
import Derived.Test.YtabindnaedchgaaGreatRows
import Derived.WalkKit
import Derived.ProofKit
import Derived.OpenShut
import Derived.ShutString
import Derived.ChangeOld
import Derived.Below
import Derived.Carry
import Derived.SizedLaws

section
/- Two deltas made one, the program's side. -/
namespace Go.Proofs.YtabindnaedchgaaGreat.Rf
open Go Go.RowKit
set_option linter.unusedVariables false
set_option linter.unusedSimpArgs false
def said (d : Delta) (s : ByteArray) : Bool := inB_ d.1 s || hasE d.2.1 s
def zD : Delta := ([], [], false, [])
def bothC (a b : Delta) : Delta := (sortS (b.1 ++ a.1.filter fun s => !said b s), sortE (b.2.1 ++ a.2.1.filter fun e => !said b e.1), a.2.2.1 || b.2.2.1, if b.2.2.1 then b.2.2.2 else if a.2.2.1 then a.2.2.2 else [])
def bothD (a b : Delta) : Delta × Bool := if deltaB a && deltaB b then (if deltaB (bothC a b) then (bothC a b, true) else (zD, false)) else (zD, false)
theorem said_al (d : Delta) (s : ByteArray) (h1 : Sm d.1.length) (h2 : Sm d.2.1.length) : Al fun k => impl_DeltaBoth_1.f k s d = some (said d s, d) := by
  refine (contains_str_al d.1 s h1).mono fun k e => ?_
  rw [impl_DeltaBoth_1.f_eq, e, Option.bind_some]
  unfold said
  cases inB_ d.1 s
  · rw [ifb_f, entryAt_eq _ _ _ h2, Option.bind_some, idxE_nonneg, Bool.false_or]
  · rw [ifb_t]; rfl
theorem apart_both {a b : Delta} (ha : a.2.1.Pairwise fun x y => ltE x y = true) (hb : b.2.1.Pairwise fun x y => ltE x y = true) : ((b.2.1 ++ a.2.1.filter fun e => !said b e.1).map fun e => e.1).Pairwise fun x y => x ≠ y := by
  rw [List.map_append, List.pairwise_append]
  refine ⟨?_, ?_, fun x hx y hy e => ?_⟩
  · rw [List.pairwise_map]; exact hb.imp fun h => ltE_ne h
  · rw [List.pairwise_map]; exact (ha.sublist List.filter_sublist).imp fun h => ltE_ne h
  · subst e
    obtain ⟨e1, h1, rfl⟩ := List.mem_map.1 hx
    obtain ⟨e2, h2, h3⟩ := List.mem_map.1 hy
    have h4 := (List.mem_filter.1 h2).2
    rw [h3] at h4
    have : hasE b.2.1 e1.1 = true := List.any_eq_true.2 ⟨e1, h1, by simp⟩
    simp [said, this] at h4
theorem sortS_length (l : List ByteArray) : (sortS l).length = l.length := by simp [sortS]
theorem sortS_mem {l : List ByteArray} {x : ByteArray} : x ∈ sortS l ↔ x ∈ l := by
  unfold sortS
  simp only [List.mem_map, List.mem_mergeSort]
  constructor
  · rintro ⟨y, ⟨z, hz, rfl⟩, rfl⟩
    have : (⟨(bl z).toArray⟩ : ByteArray) = z := bl_inj (by simp [bl])
    rw [this]; exact hz
  · intro h
    exact ⟨bl x, ⟨x, h, rfl⟩, bl_inj (by simp [bl])⟩
theorem sortE_mem {l : List En} {x : En} : x ∈ sortE l ↔ x ∈ l := by
  have := sortE_append [] l List.Pairwise.nil
  rw [List.nil_append] at this
  rw [this, fold_mem]
  simp
theorem sortE_length (l : List En) : (sortE l).length = l.length := by
  have := sortE_append [] l List.Pairwise.nil
  rw [List.nil_append] at this
  rw [this, fold_length]
  simp
theorem bothC_sm {a b : Delta} (ha : smD a) (hb : smD b) (h1 : a.1.length ≤ 24 ∧ a.2.1.length ≤ 24 ∧ a.2.2.2.length ≤ 8) (h2 : b.1.length ≤ 24 ∧ b.2.1.length ≤ 24 ∧ b.2.2.2.length ≤ 8) : smD (bothC a b) := by
  have f1 := List.length_filter_le (fun s => !said b s) a.1
  have f2 := List.length_filter_le (fun e : En => !said b e.1) a.2.1
  refine ⟨⟨?_, fun s hs => ?_⟩, ⟨?_, fun e he => ?_⟩, ?_, fun x hx => ?_⟩
  · simp only [bothC, sortS_length, List.length_append]; omega
  · simp only [bothC, sortS_mem, List.mem_append] at hs
    exact hs.elim (hb.1.2 s) fun h => ha.1.2 s (List.mem_filter.1 h).1
  · simp only [bothC, sortE_length, List.length_append]; omega
  · simp only [bothC, sortE_mem, List.mem_append] at he
    exact he.elim (hb.2.1.2 e) fun h => ha.2.1.2 e (List.mem_filter.1 h).1
  · simp only [bothC]
    split
    · omega
    · split
      · omega
      · simp
  · simp only [bothC] at hx; split at hx
    · exact hb.2.2.2 x hx
    · split at hx
      · exact ha.2.2.2 x hx
      · simp at hx
theorem impl_DeltaBoth_al (a b : Delta) (ha : smD a) (hb : smD b) : Al fun k => impl_DeltaBoth.f k a b = some (bothD a b) := by
  have e0 := (impl_DeltaOk_al a ha).and (impl_DeltaOk_al b hb)
  cases h1 : deltaB a with
  | false => exact e0.mono fun k ⟨e1, e2⟩ => by simp only [impl_DeltaBoth.f_eq, e1, h1, Option.bind_some, Bool.not_false, ifb_t, bothD, Bool.false_and, Bool.false_eq_true, if_false]; rfl
  | true =>
  cases h2 : deltaB b with
  | false => exact e0.mono fun k ⟨e1, e2⟩ => by simp only [impl_DeltaBoth.f_eq, e1, e2, h1, h2, Option.bind_some, Bool.not_false, Bool.not_true, ifb_t, ifb_f, bothD, Bool.true_and, Bool.false_eq_true, if_false]; rfl
  | true =>
  obtain ⟨n1, n2, n3⟩ := len_okD h1
  obtain ⟨m1, m2, m3⟩ := len_okD h2
  have sA1 : Sm a.1.length := by unfold Sm; omega
  have sA2 : Sm a.2.1.length := by unfold Sm; omega
  have sB1 : Sm b.1.length := by unfold Sm; omega
  have sB2 : Sm b.2.1.length := by unfold Sm; omega
  have R : Delta × Bool := bothD a b
  have hR : bothD a b = if deltaB (bothC a b) then (bothC a b, true) else (zD, false) := by simp only [bothD, h1, h2, Bool.and_self, if_true]
  have fin : Al fun k => impl_DeltaBoth.J23 k ([], [], false, []) (bothC a b) = some (bothD a b) := by
    refine Al.succ ((impl_DeltaOk_al (bothC a b) (bothC_sm ha hb ⟨n1, n2, n3⟩ ⟨m1, m2, m3⟩)).mono fun k e => ?_)
    rw [hR, impl_DeltaBoth.J23_eq, e, Option.bind_some]
    cases deltaB (bothC a b)
    · rw [Bool.not_false, ifb_t]; rfl
    · rw [Bool.not_true, ifb_f]; rfl
  have two : ∀ (t : List En) (i : Nat) (c : List En), a.2.1.drop i = t → c ++ (t.filter fun e => !said b e.1) = b.2.1 ++ a.2.1.filter (fun e => !said b e.1) → c.length ≤ i + 24 →
      Al2 fun k k1 => impl_DeltaBoth.L12 k k1 a b ([], [], false, []) (b.1 ++ a.1.filter fun s => !said b s, c, a.2.2.1 || b.2.2.1, []) a.2.1 (a.2.1.length : Int) (i : Int) = some (bothD a b) := by
    intro t
    induction t with
    | nil =>
      intro i c hd hc hl
      rw [List.filter_nil, List.append_nil] at hc
      subst hc
      have f1 := List.length_filter_le (fun s => !said b s) a.1
      have f2 := List.length_filter_le (fun e : En => !said b e.1) a.2.1
      have hs : ∀ k, slices_Sort_string_string.f k (b.1 ++ a.1.filter fun s => !said b s) = some (sortS (b.1 ++ a.1.filter fun s => !said b s)) := fun k => if_pos (by simp only [List.length_append]; omega)
      have he : ∀ k, impl_sortEntries.f k (b.2.1 ++ a.2.1.filter fun e => !said b e.1) = some (sortE (b.2.1 ++ a.2.1.filter fun e => !said b e.1)) := fun k => sort_eq k _ (apart_both (asc_okD h1) (asc_okD h2)) (by simp only [List.length_append]; omega)
      have q1 : decide ((([] : List Aff).length + b.2.2.2.length) * 72 ≤ rowMax) = true := decide_eq_true (by simp [rowMax]; omega)
      have q2 : decide ((([] : List Aff).length + a.2.2.2.length) * 72 ≤ rowMax) = true := decide_eq_true (by simp [rowMax]; omega)
      refine Al2.succ (fin.fst.mono fun k k1 e => ?_)
      simp only [impl_DeltaBoth.L12_eq, at_end (drop_nil hd), ifb_f, hs, he, Option.bind_some, q1, q2, ifb_t, List.nil_append]
      unfold bothC at e
      cases hb3 : b.2.2.1 <;> cases ha3 : a.2.2.1 <;> simp only [hb3, ha3, ifb_t, ifb_f, Bool.or_true, Bool.or_false, Bool.false_eq_true, if_true, if_false] at e ⊢ <;> exact e
    | cons x t ih =>
      intro i c hd hc hl
      obtain ⟨hi, g1, g2⟩ := drop_cons zE hd
      obtain ⟨c1, c2, c3, c4⟩ := at_i hi sA2
      have m1 : decide ((c.length + [x].length) * 32 ≤ rowMax) = true := decide_eq_true (by simp [rowMax]; omega)
      cases hn : said b x.1 with
      | false =>
        rw [List.filter_cons_of_pos (by simp [hn])] at hc
        refine Al2.succ (((said_al b x.1 sB1 sB2).snd.and (ih (i + 1) (c ++ [x]) g2 (by simpa using hc) (by simp; omega))).mono fun k k1 ⟨e1, e2⟩ => ?_)
        simp only [impl_DeltaBoth.L12_eq, c1, c2, c3, w64, c4, g1, Bool.and_self, ifb_t, e1, hn, Option.bind_some, Bool.not_false, m1, e2]
      | true =>
        rw [List.filter_cons_of_neg (by simp [hn])] at hc
        refine Al2.succ (((said_al b x.1 sB1 sB2).snd.and (ih (i + 1) c g2 hc (by omega))).mono fun k k1 ⟨e1, e2⟩ => ?_)
        simp only [impl_DeltaBoth.L12_eq, c1, c2, c3, w64, c4, g1, Bool.and_self, ifb_t, e1, hn, Option.bind_some, Bool.not_true, ifb_f, e2]
  have one : ∀ (t : List ByteArray) (i : Nat) (c : List ByteArray), a.1.drop i = t → c ++ (t.filter fun s => !said b s) = b.1 ++ a.1.filter (fun s => !said b s) → c.length ≤ i + 24 →
      Al2 fun k k1 => impl_DeltaBoth.L6 k k1 a b ([], [], false, []) (c, b.2.1, a.2.2.1 || b.2.2.1, []) a.1 (a.1.length : Int) (i : Int) = some (bothD a b) := by
    intro t
    induction t with
    | nil =>
      intro i c hd hc hl
      rw [List.filter_nil, List.append_nil] at hc
      subst hc
      refine Al2.succ ((two a.2.1 0 b.2.1 rfl rfl (by omega)).diag.fst.mono fun k k1 e => ?_)
      simp only [impl_DeltaBoth.L6_eq, at_end (drop_nil hd), ifb_f]
      exact e
    | cons x t ih =>
      intro i c hd hc hl
      obtain ⟨hi, g1, g2⟩ := drop_cons bz hd
      obtain ⟨c1, c2, c3, c4⟩ := at_i hi sA1
      have m1 : decide ((c.length + [x].length) * 16 ≤ rowMax) = true := decide_eq_true (by simp [rowMax]; omega)
      cases hn : said b x with
      | false =>
        rw [List.filter_cons_of_pos (by simp [hn])] at hc
        refine Al2.succ (((said_al b x sB1 sB2).snd.and (ih (i + 1) (c ++ [x]) g2 (by simpa using hc) (by simp; omega))).mono fun k k1 ⟨e1, e2⟩ => ?_)
        simp only [impl_DeltaBoth.L6_eq, c1, c2, c3, w64, c4, g1, Bool.and_self, ifb_t, e1, hn, Option.bind_some, Bool.not_false, m1, e2]
      | true =>
        rw [List.filter_cons_of_neg (by simp [hn])] at hc
        refine Al2.succ (((said_al b x sB1 sB2).snd.and (ih (i + 1) c g2 hc (by omega))).mono fun k k1 ⟨e1, e2⟩ => ?_)
        simp only [impl_DeltaBoth.L6_eq, c1, c2, c3, w64, c4, g1, Bool.and_self, ifb_t, e1, hn, Option.bind_some, Bool.not_true, ifb_f, e2]
  have q3 : decide ((([] : List ByteArray).length + b.1.length) * 16 ≤ rowMax) = true := decide_eq_true (by simp [rowMax]; omega)
  have q4 : decide ((([] : List En).length + b.2.1.length) * 32 ≤ rowMax) = true := decide_eq_true (by simp [rowMax]; omega)
  have j4 : Al fun k => impl_DeltaBoth.J4 k a b ([], [], false, []) (b.1, b.2.1, a.2.2.1 || b.2.2.1, []) = some (bothD a b) :=
    Al.succ ((one a.1 0 b.1 rfl rfl (by omega)).diag.mono fun k e => by rw [impl_DeltaBoth.J4_eq]; exact e)
  refine (e0.and j4).mono fun k ⟨⟨e1, e2⟩, e3⟩ => ?_
  simp only [impl_DeltaBoth.f_eq, e1, e2, h1, h2, Option.bind_some, Bool.not_true, ifb_f, q3, q4, ifb_t, List.nil_append]
  cases ha3 : a.2.2.1
  · rw [ifb_f]; simpa [ha3] using e3
  · rw [ifb_t]; simpa [ha3] using e3
end Go.Proofs.YtabindnaedchgaaGreat.Rf
end

section
/- What deltas hold; there and back. Plain. -/
namespace Go.Proofs.YtabindnaedchgaaGreat.Rf
open Go Go.RowKit
set_option linter.unusedVariables false
set_option linter.unusedSimpArgs false
/-- rows that rise and hold the same are the same -/
theorem asc_ext {l m : List En} (hl : l.Pairwise fun a b => ltE a b = true) (hm : m.Pairwise fun a b => ltE a b = true) (h : ∀ x, x ∈ l ↔ x ∈ m) : l = m := by
  have ne : ∀ {a b : En}, ltE a b = true → a ≠ b := fun h e => ltE_ne h (by rw [e])
  have nl : l.Nodup := hl.imp ne
  have nm : m.Nodup := hm.imp ne
  have hp : l.Perm m := (List.perm_ext_iff_of_nodup nl nm).2 h
  refine List.Perm.eq_of_pairwise (le := fun a b => ltE a b = true) ?_ hl hm hp
  intro a b _ _ h1 h2
  exact absurd rfl (ltE_ne (ltE_trans h1 h2))
theorem has_mem {l : List En} {s : ByteArray} : hasE l s = true ↔ ∃ e ∈ l, e.1 = s := by
  unfold hasE
  rw [List.any_eq_true]
  exact ⟨fun ⟨e, h1, h2⟩ => ⟨e, h1, of_decide_eq_true h2⟩, fun ⟨e, h1, h2⟩ => ⟨e, h1, decide_eq_true h2⟩⟩
theorem goes_mem {a b : Book} (hb : bookB b = true) {s : ByteArray} : s ∈ goesOf a b ↔ (∃ e ∈ a.2, e.1 = s) ∧ ¬ ∃ e ∈ b.2, e.1 = s := by
  unfold goesOf
  simp only [List.mem_map, List.mem_filter, there_has (asc_okB hb), Bool.not_eq_true', ← Bool.not_eq_true, has_mem]
  constructor
  · rintro ⟨e, ⟨h1, h2⟩, rfl⟩; exact ⟨⟨e, h1, rfl⟩, h2⟩
  · rintro ⟨⟨e, h1, rfl⟩, h2⟩; exact ⟨e, ⟨h1, h2⟩, rfl⟩
theorem comes_mem {a b : Book} (ha : bookB a = true) {e : En} : e ∈ comesOf a b ↔ e ∈ b.2 ∧ e ∉ a.2 := by
  unfold comesOf
  simp only [List.mem_filter, newE_any (asc_okB ha), Bool.not_eq_true', ← Bool.not_eq_true, List.any_eq_true, decide_eq_true_eq]
  exact ⟨fun ⟨h1, h2⟩ => ⟨h1, fun h => h2 ⟨e, h, rfl⟩⟩, fun ⟨h1, h2⟩ => ⟨h1, fun ⟨x, h3, h4⟩ => h2 (h4 ▸ h3)⟩⟩
theorem inB_mem {l : List ByteArray} {s : ByteArray} : inB_ l s = true ↔ s ∈ l := by
  unfold inB_
  rw [List.any_eq_true]
  exact ⟨fun ⟨e, h1, h2⟩ => of_decide_eq_true h2 ▸ h1, fun h => ⟨s, h, decide_eq_true rfl⟩⟩
/-- there and back again -/
theorem back_eq {a b : Book} (ha : bookB a = true) (hb : bookB b = true) (hg : ∀ s ∈ (bothC (deltaOf a b) (deltaOf b a)).1, hasE a.2 s = true) (hx : bookB (doB a (bothC (deltaOf a b) (deltaOf b a))) = true) : doB a (bothC (deltaOf a b) (deltaOf b a)) = a := by
  have d1 : deltaOf a b = (goesOf a b, comesOf a b, !decide (a.1 = b.1), if a.1 = b.1 then [] else b.1) := by simp only [deltaOf, ha, hb, Bool.and_self, if_true]
  have d2 : deltaOf b a = (goesOf b a, comesOf b a, !decide (b.1 = a.1), if b.1 = a.1 then [] else a.1) := by simp only [deltaOf, ha, hb, Bool.and_self, if_true]
  rw [d1, d2] at hg hx ⊢
  -- all of b's stems are a's
  have sub : ∀ e ∈ b.2, ∃ x ∈ a.2, x.1 = e.1 := by
    intro e he
    refine Classical.byContradiction fun hn => ?_
    have h1 : e.1 ∈ goesOf b a := (goes_mem ha).2 ⟨⟨e, he, rfl⟩, hn⟩
    exact hn (has_mem.1 (hg e.1 (sortS_mem.2 (List.mem_append.2 (.inl h1)))))
  have uniq : ∀ {a : Book}, bookB a = true → ∀ {x y : En}, x ∈ a.2 → y ∈ a.2 → x.1 = y.1 → x = y := by
    intro a ha x y hx hy e
    have hp := asc_okB ha
    obtain ⟨i, hi, rfl⟩ := List.mem_iff_getElem.1 hx
    obtain ⟨j, hj, rfl⟩ := List.mem_iff_getElem.1 hy
    rcases Nat.lt_trichotomy i j with h | h | h
    · exact absurd e (ltE_ne (List.pairwise_iff_getElem.1 hp i j hi hj h))
    · subst h; rfl
    · exact absurd e.symm (ltE_ne (List.pairwise_iff_getElem.1 hp j i hj hi h))
  refine Prod.ext ?_ (asc_ext (asc_okB hx) (asc_okB ha) fun x => ?_)
  · simp only [doB, bothC]
    by_cases h : b.1 = a.1
    · simp [h]
    · simp [h]
  · simp only [doB, fold_mem, bothC, sortE_mem, List.mem_append, List.mem_filter, keepE, Bool.and_eq_true, Bool.not_eq_true', comes_mem ha, comes_mem hb]
    constructor
    · rintro (⟨h1, _⟩ | ⟨h1, _⟩ | ⟨⟨h1, h2⟩, h3⟩)
      · exact h1
      · exact h1
      · exfalso
        obtain ⟨y, hy, e⟩ := sub x h1
        have : hasE (comesOf b a) x.1 = true := has_mem.2 ⟨y, (comes_mem hb).2 ⟨hy, fun hyb => ?_⟩, e⟩
        · simp [said, this] at h3
        · exact h2 (uniq hb hyb h1 e ▸ hy)
    · intro h1
      by_cases h2 : x ∈ b.2
      · refine .inl ⟨h1, ?_, ?_⟩
        · refine Bool.eq_false_iff.2 fun h => ?_
          obtain ⟨y, hy, e⟩ := has_mem.1 h
          rcases List.mem_append.1 (sortE_mem.1 hy) with hy | hy
          · obtain ⟨h3, h4⟩ := (comes_mem hb).1 hy
            exact h4 (uniq ha h3 h1 e ▸ h2)
          · obtain ⟨h3, h4⟩ := (comes_mem ha).1 (List.mem_filter.1 hy).1
            exact h4 (uniq hb h3 h2 e ▸ h1)
        · refine Bool.eq_false_iff.2 fun h => ?_
          rcases List.mem_append.1 (sortS_mem.1 (inB_mem.1 h)) with hy | hy
          · exact ((goes_mem ha).1 hy).2 ⟨x, h1, rfl⟩
          · exact ((goes_mem hb).1 (List.mem_filter.1 hy).1).2 ⟨x, h2, rfl⟩
      · exact .inr (.inl ⟨h1, h2⟩)
theorem do_zero {a : Book} (ha : bookB a = true) : deltaDo a zD = (a, true) := by
  have h1 : deltaB zD = true := by decide
  have h2 : doB a zD = a := by
    refine Prod.ext rfl ?_
    show (keepE a zD) = a.2
    unfold keepE
    rw [List.filter_eq_self]
    intro e _
    rfl
  unfold deltaDo
  rw [ha, h1, h2, ha]
  rfl
theorem back_do {a b : Book} (ha : bookB a = true) (hb : bookB b = true) (h1 : (bothD (deltaOf a b) (deltaOf b a)).2 = true) (h2 : (deltaDo a (bothD (deltaOf a b) (deltaOf b a)).1).2 = true) : (deltaDo a (bothD (deltaOf a b) (deltaOf b a)).1).1 = a := by
  have e1 : (bothD (deltaOf a b) (deltaOf b a)).1 = bothC (deltaOf a b) (deltaOf b a) := by
    unfold bothD at h1 ⊢
    split
    · rename_i h; rw [if_pos h] at h1
      split
      · rfl
      · rename_i h'; rw [if_neg h'] at h1; cases h1
    · rename_i h; rw [if_neg h] at h1; cases h1
  rw [e1] at h2 ⊢
  unfold deltaDo at h2 ⊢
  split
  · rename_i h; rw [if_pos h] at h2
    split
    · rename_i h'
      simp only [Bool.and_eq_true] at h'
      exact back_eq ha hb (fun s hs => List.all_eq_true.1 h'.1 s hs) h'.2
    · rfl
  · rename_i h; rw [if_neg h] at h2; cases h2
theorem bothD_sm {a b : Delta} (ha : smD a) (hb : smD b) : smD (bothD a b).1 := by
  have hz : smD zD := ⟨⟨by simp [zD], fun s hs => by simp [zD] at hs⟩, ⟨by simp [zD], fun s hs => by simp [zD] at hs⟩, by simp [zD], fun s hs => by simp [zD] at hs⟩
  unfold bothD
  split
  · rename_i h
    simp only [Bool.and_eq_true] at h
    split
    · exact bothC_sm ha hb (len_okD h.1) (len_okD h.2)
    · exact hz
  · exact hz
end Go.Proofs.YtabindnaedchgaaGreat.Rf
end

section
/- A delta between books leads there; two deltas made one do what both do. Plain. -/
namespace Go.Proofs.YtabindnaedchgaaGreat.Rf
open Go Go.RowKit
set_option linter.unusedVariables false
set_option linter.unusedSimpArgs false
abbrev Asc (l : List En) : Prop := l.Pairwise fun a b => ltE a b = true
abbrev AscS (l : List ByteArray) : Prop := l.Pairwise fun a b => ltS a b = true
theorem uniq_asc {l : List En} (hp : Asc l) {x y : En} (hx : x ∈ l) (hy : y ∈ l) (e : x.1 = y.1) : x = y := by
  obtain ⟨i, hi, rfl⟩ := List.mem_iff_getElem.1 hx
  obtain ⟨j, hj, rfl⟩ := List.mem_iff_getElem.1 hy
  rcases Nat.lt_trichotomy i j with h | h | h
  · exact absurd e (ltE_ne (List.pairwise_iff_getElem.1 hp i j hi hj h))
  · subst h; rfl
  · exact absurd e.symm (ltE_ne (List.pairwise_iff_getElem.1 hp j i hj hi h))
theorem asc_soft {l : List En} (h : Asc l) : l.Pairwise fun a b => ltE b a = false := h.imp ltE_asymm
theorem apart_asc {l : List En} (h : (l.map fun e => e.1).Pairwise fun a b => a ≠ b) (hs : l.Pairwise fun a b => ltE b a = false) : Asc l := by
  rw [List.pairwise_map] at h
  refine (h.and hs).imp fun {a b} ⟨h1, h2⟩ => ?_
  cases h3 : ltE a b
  · exfalso
    have := ltE_tri h3 h2
    rw [toList_bl, toList_bl] at this
    exact h1 (bl_inj this)
  · rfl
theorem fold_asc {l xs : List En} (hl : Asc l) (h : ((l ++ xs).map fun e => e.1).Pairwise fun a b => a ≠ b) : Asc (xs.foldl (fun l e => insE e l) l) :=
  apart_asc ((List.Perm.pairwise_iff (fun h e => h e.symm) ((fold_perm xs l).map _)).2 h) (fold_sorted xs l (asc_soft hl))
theorem sortE_asc {l : List En} (h : (l.map fun e => e.1).Pairwise fun a b => a ≠ b) : Asc (sortE l) := fold_asc (l := []) List.Pairwise.nil (by simpa using h)
theorem doB_asc {b : Book} {d : Delta} (hb : Asc b.2) (hd : Asc d.2.1) : Asc (doB b d).2 := fold_asc (keep_asc d hb) (keep_apart hb hd)
theorem mem_doB {b : Book} {d : Delta} {x : En} : x ∈ (doB b d).2 ↔ (x ∈ b.2 ∧ hasE d.2.1 x.1 = false ∧ inB_ d.1 x.1 = false) ∨ x ∈ d.2.1 := by
  simp only [doB, fold_mem, keepE, List.mem_filter, Bool.and_eq_true, Bool.not_eq_true']
theorem has_f {l : List En} {s : ByteArray} : hasE l s = false ↔ ¬ ∃ e ∈ l, e.1 = s := by rw [← Bool.not_eq_true, has_mem]
theorem inB_f {l : List ByteArray} {s : ByteArray} : inB_ l s = false ↔ s ∉ l := by rw [← Bool.not_eq_true, inB_mem]
theorem deltaOf_ok {a b : Book} (ha : bookB a = true) (hb : bookB b = true) : deltaOf a b = (goesOf a b, comesOf a b, !decide (a.1 = b.1), if a.1 = b.1 then [] else b.1) := by simp only [deltaOf, ha, hb, Bool.and_self, if_true]
theorem do_of {a b : Book} (ha : bookB a = true) (hb : bookB b = true) : doB a (deltaOf a b) = b := by
  rw [deltaOf_ok ha hb]
  have hc : Asc (comesOf a b) := (asc_okB hb).sublist List.filter_sublist
  refine Prod.ext ?_ (asc_ext (doB_asc (asc_okB ha) hc) (asc_okB hb) fun x => ?_)
  · simp only [doB]
    by_cases h : a.1 = b.1 <;> simp [h]
  · rw [mem_doB]
    simp only [has_f, inB_f, goes_mem hb, comes_mem ha]
    constructor
    · rintro (⟨h1, h2, h3⟩ | ⟨h1, _⟩)
      · have h4 : ∃ e ∈ b.2, e.1 = x.1 := Classical.byContradiction fun h => h3 ⟨⟨x, h1, rfl⟩, h⟩
        obtain ⟨y, hy, e⟩ := h4
        by_cases hya : y ∈ a.2
        · exact uniq_asc (asc_okB ha) hya h1 e ▸ hy
        · exact absurd ⟨y, ⟨hy, hya⟩, e⟩ h2
      · exact h1
    · intro h1
      by_cases h2 : x ∈ a.2
      · refine .inl ⟨h2, ?_, fun ⟨_, h⟩ => h ⟨x, h1, rfl⟩⟩
        rintro ⟨y, hy, e⟩
        obtain ⟨h3, h4⟩ := hy
        exact h4 (uniq_asc (asc_okB hb) h3 h1 e ▸ h2)
      · exact .inr ⟨h1, h2⟩
theorem ents_iff {l : List En} : entsB l = true ↔ (∀ e ∈ l, entB e = true) ∧ Asc l ∧ l.length ≤ 24 := by
  constructor
  · intro h
    refine ⟨fun e he => ?_, asc_ents h, ?_⟩
    · simp only [entsB, Bool.and_eq_true, allN_iff] at h
      obtain ⟨i, hi, rfl⟩ := List.mem_iff_getElem.1 he
      have := (h.1 i hi).1
      rwa [List.getD_eq_getElem?_getD, List.getElem?_eq_getElem hi] at this
    · simp only [entsB, Bool.and_eq_true, decide_eq_true_eq] at h; exact h.2
  · rintro ⟨h1, h2, h3⟩
    simp only [entsB, Bool.and_eq_true, allN_iff, decide_eq_true_eq, Bool.or_eq_true]
    refine ⟨fun i hi => ⟨?_, ?_⟩, h3⟩
    · rw [List.getD_eq_getElem?_getD, List.getElem?_eq_getElem hi]; exact h1 _ (List.getElem_mem hi)
    · by_cases h0 : i = 0
      · exact .inl h0
      · refine .inr ?_
        have := List.pairwise_iff_getElem.1 h2 (i - 1) i (by omega) hi (by omega)
        rw [List.getD_eq_getElem?_getD, List.getD_eq_getElem?_getD, List.getElem?_eq_getElem hi, List.getElem?_eq_getElem (show i - 1 < l.length by omega)]
        exact this
theorem words_of {l : List ByteArray} (h1 : ∀ s ∈ l, wordB s = true) (h2 : AscS l) (h3 : l.length ≤ 24) : wordsB l = true := by
  simp only [wordsB, Bool.and_eq_true, allN_iff, decide_eq_true_eq, Bool.or_eq_true]
  refine ⟨fun i hi => ⟨?_, ?_⟩, h3⟩
  · rw [List.getD_eq_getElem?_getD, List.getElem?_eq_getElem hi]; exact h1 _ (List.getElem_mem hi)
  · by_cases h0 : i = 0
    · exact .inl h0
    · refine .inr ?_
      have := List.pairwise_iff_getElem.1 h2 (i - 1) i (by omega) hi (by omega)
      rw [List.getD_eq_getElem?_getD, List.getD_eq_getElem?_getD, List.getElem?_eq_getElem hi, List.getElem?_eq_getElem (show i - 1 < l.length by omega)]
      exact this
theorem words_asc {l : List ByteArray} (h : wordsB l = true) : AscS l := by
  simp only [wordsB, Bool.and_eq_true, allN_iff, decide_eq_true_eq, Bool.or_eq_true] at h
  have key : (l.map fun s => ((s, s) : En)).Pairwise fun a b => ltE a b = true := by
    rw [List.pairwise_iff_getElem]
    have far : ∀ d i, i + d + 1 < l.length → ltS (l.getD i bz) (l.getD (i + d + 1) bz) = true := by
      intro d
      induction d with
      | zero => exact fun i hi => by have := (h.1 (i + 1) hi).2.resolve_left (by omega); simpa using this
      | succ d ih => exact fun i hi => ltE_trans (a := (l.getD i bz, bz)) (b := (l.getD (i + d + 1) bz, bz)) (c := (l.getD (i + (d + 1) + 1) bz, bz)) (ih i (by omega)) (by have := (h.1 (i + d + 1 + 1) hi).2.resolve_left (by omega); rw [Nat.add_sub_cancel] at this; exact this)
    intro i j hi hj hij
    rw [List.length_map] at hi hj
    have := far (j - i - 1) i (by omega)
    rw [show i + (j - i - 1) + 1 = j by omega] at this
    rw [List.getElem_map, List.getElem_map]
    rwa [List.getD_eq_getElem?_getD, List.getElem?_eq_getElem hi, List.getD_eq_getElem?_getD, List.getElem?_eq_getElem hj] at this
  rw [List.pairwise_map] at key
  exact key
theorem ents_word {l : List En} (h : entsB l = true) {e : En} (he : e ∈ l) : wordB e.1 = true := by
  have := (ents_iff.1 h).1 e he
  simp only [entB, Bool.and_eq_true] at this
  exact this.2.1
theorem deltaB_of {a b : Book} (ha : bookB a = true) (hb : bookB b = true) : deltaB (deltaOf a b) = true := by
  rw [deltaOf_ok ha hb]
  have ha' := ha
  have hb' := hb
  simp only [bookB, Bool.and_eq_true] at ha' hb'
  simp only [deltaB, Bool.and_eq_true]
  refine ⟨words_of (fun s hs => ?_) ?_ ?_, ents_iff.2 ⟨fun e he => ?_, (asc_okB hb).sublist List.filter_sublist, ?_⟩, ?_, ?_, List.all_eq_true.2 fun s hs => ?_⟩
  · obtain ⟨⟨e, he, rfl⟩, _⟩ := (goes_mem hb).1 hs
    exact ents_word ha'.2 he
  · unfold AscS goesOf
    rw [List.pairwise_map]
    exact (asc_okB ha).sublist List.filter_sublist
  · simp only [goesOf, List.length_map]
    exact Nat.le_trans (List.length_filter_le _ _) (len_ok ha).2
  · exact (ents_iff.1 hb'.2).1 e ((comes_mem ha).1 he).1
  · exact Nat.le_trans (List.length_filter_le _ _) (len_ok hb).2
  · show affsB (if a.1 = b.1 then [] else b.1) = true
    by_cases h : a.1 = b.1
    · rw [if_pos h]; decide
    · rw [if_neg h]; exact hb'.1
  · by_cases h : a.1 = b.1 <;> simp [h]
  · rw [Bool.not_eq_true', has_f]
    rintro ⟨e, he, rfl⟩
    exact ((goes_mem hb).1 hs).2 ⟨e, ((comes_mem ha).1 he).1, rfl⟩
theorem goes_all {a b : Book} (ha : bookB a = true) (hb : bookB b = true) : ((deltaOf a b).1.all fun s => hasE a.2 s) = true := by
  rw [deltaOf_ok ha hb, List.all_eq_true]
  exact fun s hs => has_mem.2 ((goes_mem hb).1 hs).1
/-- from one book to the other -/
theorem deltaDo_of {a b : Book} (ha : bookB a = true) (hb : bookB b = true) : deltaDo a (deltaOf a b) = (b, true) := by
  unfold deltaDo
  rw [ha, deltaB_of ha hb, do_of ha hb, goes_all ha hb, hb]
  rfl
theorem both_has (d e : Delta) (s : ByteArray) : hasE (bothC d e).2.1 s = (hasE e.2.1 s || (hasE d.2.1 s && !said e s)) := by
  rw [Bool.eq_iff_iff]
  simp only [has_mem, bothC, sortE_mem, List.mem_append, List.mem_filter, Bool.or_eq_true, Bool.and_eq_true]
  constructor
  · rintro ⟨x, h | ⟨h1, h2⟩, rfl⟩
    · exact .inl ⟨x, h, rfl⟩
    · exact .inr ⟨⟨x, h1, rfl⟩, h2⟩
  · rintro (⟨x, h, rfl⟩ | ⟨⟨x, h1, rfl⟩, h2⟩)
    · exact ⟨x, .inl h, rfl⟩
    · exact ⟨x, .inr ⟨h1, h2⟩, rfl⟩
theorem both_in (d e : Delta) (s : ByteArray) : inB_ (bothC d e).1 s = (inB_ e.1 s || (inB_ d.1 s && !said e s)) := by
  rw [Bool.eq_iff_iff]
  simp only [inB_mem, bothC, sortS_mem, List.mem_append, List.mem_filter, Bool.or_eq_true, Bool.and_eq_true]
theorem both_mem (d e : Delta) (x : En) : x ∈ (bothC d e).2.1 ↔ x ∈ e.2.1 ∨ (x ∈ d.2.1 ∧ said e x.1 = false) := by
  simp only [bothC, sortE_mem, List.mem_append, List.mem_filter, Bool.not_eq_true']
/-- one behind the other is both made one -/
theorem both_do {a : Book} {d e : Delta} (ha : Asc a.2) (hd : Asc d.2.1) (he : Asc e.2.1) : doB (doB a d) e = doB a (bothC d e) := by
  have hb : Asc (bothC d e).2.1 := sortE_asc (apart_both hd he)
  refine Prod.ext ?_ (asc_ext (doB_asc (doB_asc ha hd) he) (doB_asc ha hb) fun x => ?_)
  · simp only [doB, bothC]
    by_cases h1 : d.2.2.1 = true <;> by_cases h2 : e.2.2.1 = true <;> simp [h1, h2]
  · rw [mem_doB, mem_doB, mem_doB, both_has, both_in, both_mem]
    unfold said
    cases inB_ e.1 x.1 <;> cases hasE e.2.1 x.1 <;> cases inB_ d.1 x.1 <;> cases hasE d.2.1 x.1 <;> simp [or_assoc, or_comm, or_left_comm]
theorem chain_do {a b c : Book} (ha : bookB a = true) (hb : bookB b = true) (hc : bookB c = true) : doB a (bothC (deltaOf a b) (deltaOf b c)) = c := by
  rw [← both_do (asc_okB ha) (asc_okD (deltaB_of ha hb)) (asc_okD (deltaB_of hb hc)), do_of ha hb, do_of hb hc]
theorem bothD_t {a b : Delta} (h : (bothD a b).2 = true) : bothD a b = (bothC a b, true) ∧ deltaB a = true ∧ deltaB b = true ∧ deltaB (bothC a b) = true := by
  unfold bothD at h ⊢
  split
  · rename_i h1
    rw [if_pos h1] at h
    simp only [Bool.and_eq_true] at h1
    split
    · rename_i h2; exact ⟨rfl, h1.1, h1.2, h2⟩
    · rename_i h2; rw [if_neg h2] at h; cases h
  · rename_i h1; rw [if_neg h1] at h; cases h
theorem deltaDo_t {b : Book} {d : Delta} (h : (deltaDo b d).2 = true) : deltaDo b d = (doB b d, true) ∧ bookB b = true ∧ deltaB d = true ∧ (d.1.all fun s => hasE b.2 s) = true ∧ bookB (doB b d) = true := by
  unfold deltaDo at h ⊢
  split
  · rename_i h1
    rw [if_pos h1] at h
    simp only [Bool.and_eq_true] at h1
    split
    · rename_i h2; simp only [Bool.and_eq_true] at h2; exact ⟨rfl, h1.1, h1.2, h2.1, h2.2⟩
    · rename_i h2; rw [if_neg h2] at h; cases h
  · rename_i h1; rw [if_neg h1] at h; cases h
end Go.Proofs.YtabindnaedchgaaGreat.Rf
end

section
/- The reader that draws: what it picks stays in its range. -/
namespace Go.Proofs.YtabindnaedchgaaGreat.Rf
open Go Go.RowKit
set_option linter.unusedVariables false
set_option linter.unusedSimpArgs false
abbrev Rdr := List Int × Int
/-- the reader stands at m at most -/
def Rd (m : Int) (x : Rdr) : Prop := ((∀ b ∈ x.1, 0 ≤ b ∧ b ≤ 255) ∧ x.1.length ≤ 2000) ∧ 0 ≤ x.2 ∧ x.2 ≤ m
theorem Rd.up {m n : Int} {x : Rdr} (h : Rd m x) (k : m ≤ n) : Rd n x := ⟨h.1, h.2.1, Int.le_trans h.2.2 k⟩
/-- it draws, and what comes is as P says; the reader stands at m at most -/
def Dr {α : Type} (X : Nat → Option (α × Rdr)) (m : Int) (P : α → Prop) : Prop := ∃ v x', Al (fun k => X k = some (v, x')) ∧ P v ∧ Rd m x'
theorem Dr.up {α : Type} {X : Nat → Option (α × Rdr)} {m n : Int} {P Q : α → Prop} (h : Dr X m P) (k : m ≤ n) (f : ∀ v, P v → Q v) : Dr X n Q := by
  obtain ⟨v, x, e, p, r⟩ := h
  exact ⟨v, x, e, f v p, r.up k⟩
theorem Dr.congr {α : Type} {X Y : Nat → Option (α × Rdr)} {m : Int} {P : α → Prop} (e : ∀ k, Y k = X k) (h : Dr X m P) : Dr Y m P := by
  obtain rfl : Y = X := funext e
  exact h
theorem Dr.now {α : Type} {X : Nat → Option (α × Rdr)} {v : α} {x : Rdr} {m : Int} {P : α → Prop} (e : ∀ k, X k = some (v, x)) (hp : P v) (hr : Rd m x) : Dr X m P := ⟨v, x, Al.now e, hp, hr⟩
theorem Dr.bind {α β : Type} {X : Nat → Option (α × Rdr)} {g : Nat → α × Rdr → Option (β × Rdr)} {m n : Int} {P : α → Prop} {Q : β → Prop} (h : Dr X m P) (k : ∀ v x, P v → Rd m x → Dr (fun k => g k (v, x)) n Q) : Dr (fun k => (X k).bind (g k)) n Q := by
  obtain ⟨v, x, e, p, r⟩ := h
  obtain ⟨w, y, e2, q, s⟩ := k v x p r
  exact ⟨w, y, (e.and e2).mono fun k ⟨a, b⟩ => by show (X k).bind (g k) = _; rw [a, Option.bind_some]; exact b, q, s⟩
theorem Dr.bindv {γ β : Type} {X : Nat → Option γ} {g : Nat → γ → Option (β × Rdr)} {n : Int} {Q : β → Prop} {v : γ} (h : Al fun k => X k = some v) (k : Dr (fun k => g k v) n Q) : Dr (fun k => (X k).bind (g k)) n Q := by
  obtain ⟨w, y, e2, q, s⟩ := k
  exact ⟨w, y, (h.and e2).mono fun k ⟨a, b⟩ => by show (X k).bind (g k) = _; rw [a, Option.bind_some]; exact b, q, s⟩
theorem Dr.succ {α : Type} {X : Nat → Option (α × Rdr)} {m : Int} {P : α → Prop} (h : Dr (fun k => X (k + 1)) m P) : Dr X m P := by
  obtain ⟨v, x, e, r⟩ := h
  exact ⟨v, x, Al.succ e, r⟩
def Dr2 {α : Type} (X : Nat → Nat → Option (α × Rdr)) (m : Int) (P : α → Prop) : Prop := ∃ v x', Al2 (fun k k1 => X k k1 = some (v, x')) ∧ P v ∧ Rd m x'
theorem Dr2.congr {α : Type} {X Y : Nat → Nat → Option (α × Rdr)} {m : Int} {P : α → Prop} (e : ∀ k k1, Y k k1 = X k k1) (h : Dr2 X m P) : Dr2 Y m P := by
  obtain rfl : Y = X := funext fun k => funext (e k)
  exact h
theorem Dr2.up {α : Type} {X : Nat → Nat → Option (α × Rdr)} {m n : Int} {P Q : α → Prop} (h : Dr2 X m P) (k : m ≤ n) (f : ∀ v, P v → Q v) : Dr2 X n Q := by
  obtain ⟨v, x, e, p, r⟩ := h
  exact ⟨v, x, e, f v p, r.up k⟩
theorem Dr2.now {α : Type} {X : Nat → Nat → Option (α × Rdr)} {v : α} {x : Rdr} {m : Int} {P : α → Prop} (e : ∀ k k1, X k k1 = some (v, x)) (hp : P v) (hr : Rd m x) : Dr2 X m P := ⟨v, x, Al2.now e, hp, hr⟩
theorem Dr2.bind {α β : Type} {X : Nat → Nat → Option (α × Rdr)} {g : Nat → Nat → α × Rdr → Option (β × Rdr)} {m n : Int} {P : α → Prop} {Q : β → Prop} (h : Dr2 X m P) (k : ∀ v x, P v → Rd m x → Dr2 (fun k k1 => g k k1 (v, x)) n Q) : Dr2 (fun k k1 => (X k k1).bind (g k k1)) n Q := by
  obtain ⟨v, x, e, p, r⟩ := h
  obtain ⟨w, y, e2, q, s⟩ := k v x p r
  exact ⟨w, y, (e.and e2).mono fun k k1 ⟨a, b⟩ => by show (X k k1).bind (g k k1) = _; rw [a, Option.bind_some]; exact b, q, s⟩
theorem Dr2.bindv {γ β : Type} {X : Nat → Nat → Option γ} {g : Nat → Nat → γ → Option (β × Rdr)} {n : Int} {Q : β → Prop} {v : γ} (h : Al2 fun k k1 => X k k1 = some v) (k : Dr2 (fun k k1 => g k k1 v) n Q) : Dr2 (fun k k1 => (X k k1).bind (g k k1)) n Q := by
  obtain ⟨w, y, e2, q, s⟩ := k
  exact ⟨w, y, (h.and e2).mono fun k k1 ⟨a, b⟩ => by show (X k k1).bind (g k k1) = _; rw [a, Option.bind_some]; exact b, q, s⟩
theorem Dr2.succ {α : Type} {X : Nat → Nat → Option (α × Rdr)} {m : Int} {P : α → Prop} (h : Dr2 (fun k k1 => X k (k1 + 1)) m P) : Dr2 X m P := by
  obtain ⟨v, x, e, r⟩ := h
  exact ⟨v, x, Al2.succ e, r⟩
theorem Dr2.diag {α : Type} {X : Nat → Nat → Option (α × Rdr)} {m : Int} {P : α → Prop} (h : Dr2 X m P) : Dr (fun k => X k k) m P := by
  obtain ⟨v, x, e, r⟩ := h
  exact ⟨v, x, e.diag, r⟩
theorem Dr.fst {α : Type} {X : Nat → Option (α × Rdr)} {m : Int} {P : α → Prop} (h : Dr X m P) : Dr2 (fun k _ => X k) m P := by
  obtain ⟨v, x, e, r⟩ := h
  exact ⟨v, x, e.fst, r⟩
theorem Dr.snd {α : Type} {X : Nat → Option (α × Rdr)} {m : Int} {P : α → Prop} (h : Dr X m P) : Dr2 (fun _ k => X k) m P := by
  obtain ⟨v, x, e, r⟩ := h
  exact ⟨v, x, e.snd, r⟩
theorem xor_nn (a b : Nat) (ha : a < 2 ^ 62) (hb : b < 2 ^ 62) : 0 ≤ IntKind.i64.wrap ((BitVec.ofInt 64 (a : Int) ^^^ BitVec.ofInt 64 (b : Int)).toNat : Int) := by
  have h2 : (2 : Nat) ^ 62 ≤ 2 ^ 64 := by decide
  have ha' : a % 2 ^ 64 = a := Nat.mod_eq_of_lt (Nat.lt_of_lt_of_le ha h2)
  have hb' : b % 2 ^ 64 = b := Nat.mod_eq_of_lt (Nat.lt_of_lt_of_le hb h2)
  have e1 : (BitVec.ofInt 64 (a : Int)).toNat = a := by rw [BitVec.ofInt_natCast, BitVec.toNat_ofNat]; exact ha'
  have e2 : (BitVec.ofInt 64 (b : Int)).toNat = b := by rw [BitVec.ofInt_natCast, BitVec.toNat_ofNat]; exact hb'
  rw [BitVec.toNat_xor, e1, e2]
  have h3 : a ^^^ b < 4611686018427387904 := Nat.lt_of_lt_of_eq (Nat.xor_lt_two_pow ha hb) (by decide)
  generalize a ^^^ b = X at h3
  rw [w_id (by omega) (by omega)]
  omega
theorem xor_ge (a b : Int) (ha : 0 ≤ a) (hb : 0 ≤ b) (ha1 : a < 2 ^ 62) (hb1 : b < 2 ^ 62) : 0 ≤ IntKind.i64.wrap ((BitVec.ofInt 64 a ^^^ BitVec.ofInt 64 b).toNat : Int) := by
  obtain ⟨m, rfl⟩ := Int.eq_ofNat_of_zero_le ha
  obtain ⟨n, rfl⟩ := Int.eq_ofNat_of_zero_le hb
  exact xor_nn m n (by exact_mod_cast ha1) (by exact_mod_cast hb1)
theorem Rd.at {m : Int} {x : Rdr} (h : Rd m x) (i : Nat) : 0 ≤ x.1.getD i (0 : Int) ∧ x.1.getD i (0 : Int) ≤ 255 := by
  rw [List.getD_eq_getElem?_getD]
  cases e : x.1[i]? with
  | none => simp
  | some b => exact h.1.1 b (List.mem_of_getElem? e)
theorem l1Open_al (s : List Int) (hs : ∀ b ∈ s, 0 ≤ b ∧ b ≤ 255) : ∃ x, Al (fun k => spec_l1Open.f k s = some x) ∧ Rd 0 x := by
  by_cases c : (s.length : Int) > 2000
  · refine ⟨((s.take (2000 : Int).toNat).drop (0 : Int).toNat, 0), Al.succ (Al.now fun k => ?_), ⟨fun b hb => hs b (List.mem_of_mem_take (List.mem_of_mem_drop hb)), ?_⟩, Int.le_refl _, Int.le_refl _⟩
    · rw [spec_l1Open.f_eq, decide_eq_true c, ifb_t, spec_l1Open.J3_eq]
      rw [decide_eq_true (by omega), decide_eq_true (by omega), decide_eq_true (by omega)]
      simp only [Bool.and_self, ifb_t]
    · simp only [List.length_drop, List.length_take]; omega
  · refine ⟨(s, 0), Al.succ (Al.now fun k => ?_), ⟨hs, show s.length ≤ 2000 by omega⟩, Int.le_refl _, Int.le_refl _⟩
    rw [spec_l1Open.f_eq, decide_eq_false c, ifb_f, spec_l1Open.J3_eq]
theorem pick_dr {m : Int} {x : Rdr} (h : Rd m x) (hm : m ≤ 1000000000) (n : Int) (n1 : 1 ≤ n) (n2 : n ≤ 1000000) : Dr (fun k => spec_l1Rd__pick.f k x n) (m + 1) fun v => 0 ≤ v ∧ v < n := by
  obtain ⟨hs, hp0, hp1⟩ := h
  have hat := Rd.at (x := x) (m := m) ⟨hs, hp0, hp1⟩
  obtain ⟨s, p⟩ := x
  simp only at hp0 hp1 hat hs
  have w1 : w64 (p + 1) = p + 1 := w_id (by omega) (by omega)
  have w2 : w64 (p + 1 - 1) = p := by rw [show p + 1 - 1 = p by omega]; exact w_id (by omega) (by omega)
  have R : Rd (m + 1) (s, p + 1) := ⟨hs, by omega, by omega⟩
  have c : decide (n < 1) = false := decide_eq_false (by omega)
  have n0 : decide (n ≠ 0) = true := decide_eq_true (by omega)
  by_cases z : s.length = 0
  · refine ⟨0, (s, p + 1), Al.now fun k => ?_, ⟨Int.le_refl _, by omega⟩, R⟩
    show spec_l1Rd__pick.f k (s, p) n = _
    rw [spec_l1Rd__pick.f_eq]
    simp only [c, ifb_f, w1, z]
    rw [show (((0 : Nat) : Int) == 0) = true from rfl, ifb_t]
  have z1 : ((s.length : Int) == 0) = false := by rw [beq_eq_false_iff_ne]; omega
  have tm : ∀ x : Int, 0 ≤ x → 0 ≤ Int.tmod x n ∧ Int.tmod x n < n := fun x hx => ⟨Int.tmod_nonneg _ hx, Int.tmod_lt_of_pos _ (by omega)⟩
  by_cases q : p < (s.length : Int)
  · have r0 := hat p.toNat
    have w3 : w64 (s.getD p.toNat 0) = s.getD p.toNat 0 := w_id (by omega) (by omega)
    refine ⟨_, (s, p + 1), Al.now fun k => ?_, tm _ r0.1, R⟩
    show spec_l1Rd__pick.f k (s, p) n = _
    rw [spec_l1Rd__pick.f_eq]
    simp only [c, ifb_f, w1, w2, z1, decide_eq_true q, decide_eq_true hp0, Bool.and_self, ifb_t, n0, w3]
  · have hl := hs.2
    have l0 : decide ((s.length : Int) ≠ 0) = true := decide_eq_true (by omega)
    have m1 : 0 ≤ Int.tmod p (s.length : Int) ∧ Int.tmod p (s.length : Int) < (s.length : Int) := ⟨Int.tmod_nonneg _ hp0, Int.tmod_lt_of_pos _ (by omega)⟩
    have w7 : w64 (p * 7) = p * 7 := w_id (by omega) (by omega)
    have w8 : w64 (p * 7 + 3) = p * 7 + 3 := w_id (by omega) (by omega)
    have m2 : 0 ≤ Int.tmod (p * 7 + 3) (s.length : Int) ∧ Int.tmod (p * 7 + 3) (s.length : Int) < (s.length : Int) := ⟨Int.tmod_nonneg _ (by omega), Int.tmod_lt_of_pos _ (by omega)⟩
    generalize hA : Int.tmod p (s.length : Int) = A at m1
    generalize hB : Int.tmod (p * 7 + 3) (s.length : Int) = B at m2
    have ra := hat A.toNat
    have rb := hat B.toNat
    generalize hX : s.getD A.toNat (0 : Int) = X at ra
    generalize hY : s.getD B.toNat (0 : Int) = Y at rb
    have hd : 0 ≤ Int.tdiv p (s.length : Int) ∧ Int.tdiv p (s.length : Int) ≤ p := by
      refine ⟨Int.tdiv_nonneg hp0 (by omega), ?_⟩
      rw [Int.tdiv_eq_ediv_of_nonneg hp0]
      exact Int.ediv_le_self _ hp0
    generalize hD : Int.tdiv p (s.length : Int) = D at hd
    have v1 : w64 X = X := w_id (by omega) (by omega)
    have v2 : w64 (X * 131) = X * 131 := w_id (by omega) (by omega)
    have v3 : w64 Y = Y := w_id (by omega) (by omega)
    have v4 : w64 (Y * 1117) = Y * 1117 := w_id (by omega) (by omega)
    have v5 : w64 (X * 131 + Y * 1117) = X * 131 + Y * 1117 := w_id (by omega) (by omega)
    have v6 : w64 (p * 29) = p * 29 := w_id (by omega) (by omega)
    have v7 : w64 (X * 131 + Y * 1117 + p * 29) = X * 131 + Y * 1117 + p * 29 := w_id (by omega) (by omega)
    have v8 : w64 D = D := w_id (by omega) (by omega)
    have v9 : w64 (D * 53) = D * 53 := w_id (by omega) (by omega)
    have v10 : w64 (X * 131 + Y * 1117 + p * 29 + D * 53) = X * 131 + Y * 1117 + p * 29 + D * 53 := w_id (by omega) (by omega)
    have hS0 : 0 ≤ X * 131 + Y * 1117 + p * 29 + D * 53 ∧ X * 131 + Y * 1117 + p * 29 + D * 53 ≤ 1000000000000 := by omega
    have e0 : ∀ k, spec_l1Rd__pick.f k (s, p) n = spec_l1Rd__pick.J8 k (s, p + 1) n (X * 131 + Y * 1117 + p * 29 + D * 53) := by
      intro k
      rw [spec_l1Rd__pick.f_eq]
      simp only [c, ifb_f, w1, w2, z1, decide_eq_false q, l0, ifb_t, hA, w7, w8, hB, decide_eq_true m1.1, decide_eq_true m1.2, decide_eq_true m2.1, decide_eq_true m2.2, Bool.and_self, hX, hY, hD, v1, v2, v3, v4, v5, v6, v7, v8, v9, v10]
    generalize X * 131 + Y * 1117 + p * 29 + D * 53 = S at e0 hS0
    have hq : 0 ≤ Int.tdiv S 64 ∧ Int.tdiv S 64 ≤ S := by
      refine ⟨Int.tdiv_nonneg hS0.1 (by omega), ?_⟩
      rw [Int.tdiv_eq_ediv_of_nonneg hS0.1]
      exact Int.ediv_le_self _ hS0.1
    have v11 : w64 (Int.tdiv S 64) = Int.tdiv S 64 := w_id (by omega) (by omega)
    have hx := xor_ge S (Int.tdiv S 64) hS0.1 hq.1 (by omega) (by omega)
    refine ⟨_, (s, p + 1), Al.succ (Al.now fun k => ?_), tm _ hx, R⟩
    show spec_l1Rd__pick.f _ (s, p) n = _
    rw [e0, spec_l1Rd__pick.J8_eq]
    simp only [n0, v11, ifb_t, show decide ((64 : Int) ≠ 0) = true from rfl]
theorem of_dr {m : Int} {x : Rdr} (h : Rd m x) (hm : m ≤ 1000000000) (l : List ByteArray) (l1 : 1 ≤ l.length) (l2 : l.length ≤ 1000000) : Dr (fun k => spec_l1Rd__of.f k x l) (m + 1) fun v => v ∈ l := by
  obtain ⟨v, x', e, ⟨p0, p1⟩, r⟩ := pick_dr h hm (l.length : Int) (by omega) (by omega)
  have hv : v.toNat < l.length := by omega
  refine ⟨l.getD v.toNat bz, x', e.mono fun k e => ?_, ?_, r⟩
  · have e' : spec_l1Rd__pick.f k x (l.length : Int) = some (v, x') := e
    show spec_l1Rd__of.f k x l = _
    rw [spec_l1Rd__of.f_eq, e', Option.bind_some]
    simp only [decide_eq_true p0, decide_eq_true p1, Bool.and_self, ifb_t]
  · rw [List.getD_eq_getElem?_getD, List.getElem?_eq_getElem hv]
    exact List.getElem_mem hv
/-! ### Words -/
theorem mem_size {l : List ByteArray} {n : Nat} (h : ∀ s ∈ l, s.size ≤ n) {s : ByteArray} (hs : s ∈ l) : s.size ≤ n := h s hs
theorem least_al (a b : Int) : Al fun k => spec_l1Least.f k a b = some (if a < b then a else b) := Al.now fun k => by
  rw [spec_l1Least.f_eq]
  by_cases h : a < b
  · rw [decide_eq_true h, ifb_t, if_pos h]
  · rw [decide_eq_false h, ifb_f, if_neg h]
/-- of at most n bytes, the first of them no w -/
def noW (n : Nat) (s : ByteArray) : Prop := s.size ≤ n ∧ (bl s).head? ≠ some 119
theorem noW_app {a b : ByteArray} {n m : Nat} (h : noW n a) (k : noW m b) : noW (n + m) (a ++ b) := by
  refine ⟨by rw [ByteArray.size_append]; exact Nat.add_le_add h.1 k.1, ?_⟩
  have e : bl (a ++ b) = bl a ++ bl b := by simp [bl]
  rw [e]
  cases ha : bl a with
  | nil => exact k.2
  | cons x t => have := h.2; rw [ha] at this; simpa using this
theorem noW_cut {a : ByteArray} {n j : Nat} (h : noW n a) (hj : j ≤ a.size) : noW j (a.extract 0 j) := by
  refine ⟨by simp; omega, ?_⟩
  have e : bl (a.extract 0 j) = (bl a).take j := by simp [bl]
  rw [e]
  cases ha : bl a with
  | nil => simp
  | cons x t =>
    cases j with
    | zero => simp
    | succ j => have := h.2; rw [ha] at this; simpa using this
theorem word_dr {m : Int} {x : Rdr} (h : Rd m x) (hm : m ≤ 900000000) : Dr (fun k => spec_l13Word.f k x) (m + 12) (noW 12) := by
  have two : ∀ (n : Nat) (m : Int) (x : Rdr) (s : ByteArray), Rd m x → m + n ≤ 1000000000 → noW (1000 - 2 * n) s → n ≤ 6 → Dr2 (fun k k1 => spec_l13Word.L4 k k1 x s (n : Int)) (m + n) (noW 12) := by
    intro n
    induction n with
    | zero =>
      intro m x s hx hm hs hn
      refine Dr2.succ (Dr2.congr (fun k k1 => spec_l13Word.L4_eq k k1 x s _) ?_)
      simp only [show decide (((0 : Nat) : Int) > 0) = false from rfl, ifb_f]
      refine Dr2.bindv (least_al _ _).fst ?_
      have hj : (if (s.size : Int) < 12 then (s.size : Int) else 12).toNat ≤ s.size ∧ (if (s.size : Int) < 12 then (s.size : Int) else 12).toNat ≤ 12 ∧ (0 : Int) ≤ (if (s.size : Int) < 12 then (s.size : Int) else 12) ∧ (if (s.size : Int) < 12 then (s.size : Int) else 12) ≤ (s.size : Int) := by split <;> omega
      have hw := noW_cut hs hj.1
      refine Dr2.now (fun k k1 => by
        rw [decide_eq_true (Int.le_refl 0), decide_eq_true hj.2.2.1, decide_eq_true hj.2.2.2, Bool.and_self, Bool.and_self, ifb_t]
        rfl) ⟨Nat.le_trans hw.1 hj.2.1, hw.2⟩ (hx.up (by omega))
    | succ n ih =>
      intro m x s hx hm hs hn
      refine Dr2.succ (Dr2.congr (fun k k1 => spec_l13Word.L4_eq k k1 x s _) ?_)
      simp only [decide_eq_true (show ((n + 1 : Nat) : Int) > 0 by omega), ifb_t]
      refine Dr2.bind (of_dr hx (by omega) _ (by simp) (by simp)).snd fun v y hv hy => ?_
      have hv' : noW 2 v := by
        simp only [List.mem_cons, List.not_mem_nil, or_false] at hv
        rcases hv with rfl | rfl | rfl | rfl | rfl <;> exact ⟨by decide, by decide⟩
      have h2 := noW_app hs hv'
      have sz : fitB (s.size + v.size) = true := fitB_t (by have := hs.1; have := hv'.1; omega)
      have e1 : w64 (((n + 1 : Nat) : Int) - 1) = (n : Int) := by rw [show ((n + 1 : Nat) : Int) - 1 = (n : Int) by omega]; exact w_id (by omega) (by omega)
      simp only [sz, ifb_t, e1]
      exact (ih (m + 1) y (s ++ v) hy (by omega) ⟨Nat.le_trans h2.1 (by omega), h2.2⟩ (by omega)).up (by omega) fun _ h => h
  refine Dr.congr (fun k => spec_l13Word.f_eq k x) (Dr.bind (pick_dr h (by omega) 3 (by omega) (by omega)) fun v y hv hy => ?_)
  by_cases c : v = 0
  · subst c
    simp only [show ((0 : Int) == 0) = true from rfl, ifb_t]
    refine Dr.bind (pick_dr hy (by omega) 5 (by omega) (by omega)) fun v z hv hz => ?_
    obtain ⟨n, rfl⟩ := Int.eq_ofNat_of_zero_le hv.1
    have e1 : w64 (1 + (n : Int)) = ((n + 1 : Nat) : Int) := by rw [show (1 : Int) + (n : Int) = ((n + 1 : Nat) : Int) by omega]; exact w_id (by omega) (by omega)
    simp only [e1]
    exact (two (n + 1) _ z bz hz (by omega) ⟨by simp, by decide⟩ (by omega)).diag.up (by omega) fun _ h => h
  · simp only [show (v == 0) = false by rw [beq_eq_false_iff_ne]; exact c, ifb_f]
    refine Dr.bind (of_dr hy (by omega) _ (by simp) (by simp)) fun v z hv hz => ?_
    refine Dr.now (v := v) (x := z) (fun k => rfl) ?_ (hz.up (by omega))
    simp only [List.mem_cons, List.not_mem_nil, or_false] at hv
    rcases hv with rfl | rfl | rfl | rfl | rfl | rfl | rfl | rfl | rfl | rfl | rfl | rfl | rfl | rfl | rfl <;> exact ⟨by decide, by decide⟩
end Go.Proofs.YtabindnaedchgaaGreat.Rf
end

section
/- Draws: affixes, rows of words, entries, books. -/
namespace Go.Proofs.YtabindnaedchgaaGreat.Rf
open Go Go.RowKit
set_option linter.unusedVariables false
set_option linter.unusedSimpArgs false
def Dr3 {α : Type} (X : Nat → Nat → Nat → Option (α × Rdr)) (m : Int) (P : α → Prop) : Prop := ∃ v x', Al3 (fun a b c => X a b c = some (v, x')) ∧ P v ∧ Rd m x'
theorem Dr3.congr {α : Type} {X Y : Nat → Nat → Nat → Option (α × Rdr)} {m : Int} {P : α → Prop} (e : ∀ a b c, Y a b c = X a b c) (h : Dr3 X m P) : Dr3 Y m P := by
  obtain rfl : Y = X := funext fun a => funext fun b => funext (e a b)
  exact h
theorem Dr3.succ {α : Type} {X : Nat → Nat → Nat → Option (α × Rdr)} {m : Int} {P : α → Prop} (h : Dr3 (fun a b c => X a b (c + 1)) m P) : Dr3 X m P := by
  obtain ⟨v, x, e, r⟩ := h
  exact ⟨v, x, Al3.succ e, r⟩
theorem Dr3.pred {α : Type} {X : Nat → Nat → Nat → Option (α × Rdr)} {m : Int} {P : α → Prop} (h : Dr3 X m P) : Dr3 (fun a b c => X a b (c + 1)) m P := by
  obtain ⟨v, x, ⟨n, e⟩, r⟩ := h
  exact ⟨v, x, ⟨n, fun a b c ha hb hc => e a b (c + 1) ha hb (by omega)⟩, r⟩
theorem Dr2.fst3 {α : Type} {X : Nat → Nat → Option (α × Rdr)} {m : Int} {P : α → Prop} (h : Dr2 X m P) : Dr3 (fun a b _ => X a b) m P := by
  obtain ⟨v, x, e, r⟩ := h
  exact ⟨v, x, e.fst, r⟩
theorem Dr3.in2 {α : Type} {X : Nat → Nat → Nat → Option (α × Rdr)} {m : Int} {P : α → Prop} (h : Dr3 X m P) : Dr2 (fun a b => X a b b) m P := by
  obtain ⟨v, x, e, r⟩ := h
  exact ⟨v, x, e.in2, r⟩
/-! ### Words of any kind, affixes -/
def szN (n : Nat) (s : ByteArray) : Prop := s.size ≤ n
theorem anyWord_dr {m : Int} {x : Rdr} (h : Rd m x) (hm : m ≤ 800000000) : Dr (fun k => spec_l13AnyWord.f k x) (m + 20) (szN 13) := by
  refine Dr.congr (fun k => spec_l13AnyWord.f_eq k x) (Dr.bind (pick_dr h (by omega) 16 (by omega) (by omega)) fun v y hv hy => ?_)
  by_cases c : v = 0
  · subst c
    simp only [show ((0 : Int) == 0) = true from rfl, ifb_t]
    refine Dr.bind (of_dr hy (by omega) _ (by simp) (by simp)) fun v z hv hz => ?_
    refine Dr.now (v := v) (x := z) (fun k => rfl) ?_ (hz.up (by omega))
    simp only [List.mem_cons, List.not_mem_nil, or_false] at hv
    rcases hv with rfl | rfl | rfl | rfl | rfl | rfl <;> (unfold szN; decide)
  · simp only [show (v == 0) = false by rw [beq_eq_false_iff_ne]; exact c, ifb_f]
    refine Dr.bind (word_dr hy (by omega)) fun v z hv hz => ?_
    exact Dr.now (v := v) (x := z) (fun k => rfl) (Nat.le_trans hv.1 (by omega)) (hz.up (by omega))
def affS (a : Aff) : Prop := a.1.size ≤ 8 ∧ a.2.2.1.size ≤ 8 ∧ a.2.2.2.1.size ≤ 8 ∧ a.2.2.2.2.size ≤ 8
theorem affix_dr {m : Int} {x : Rdr} (h : Rd m x) (hm : m ≤ 800000000) : Dr (fun k => spec_l13Affix.f k x) (m + 1) affS := by
  refine Dr.congr (fun k => spec_l13Affix.f_eq k x) (Dr.succ ?_)
  refine Dr.congr (fun k => spec_l13Affix.J2_eq k x _ _) ?_
  refine Dr.bind (pick_dr h (by omega) _ (by simp) (by simp)) fun v y hv hy => ?_
  have p0 := hv.1
  have p1 := hv.2
  simp only [decide_eq_true p0, decide_eq_true p1, Bool.and_self, ifb_t]
  refine Dr.now (v := _) (x := y) (fun k => rfl) ?_ hy
  obtain ⟨n, rfl⟩ := Int.eq_ofNat_of_zero_le p0
  simp only [List.length_cons, List.length_nil] at p1
  have : n = 0 ∨ n = 1 ∨ n = 2 ∨ n = 3 ∨ n = 4 ∨ n = 5 ∨ n = 6 ∨ n = 7 := by omega
  rcases this with rfl | rfl | rfl | rfl | rfl | rfl | rfl | rfl <;> exact ⟨by decide, by decide, by decide, by decide⟩
def affsS (n : Nat) (l : List Aff) : Prop := l.length ≤ n ∧ ∀ a ∈ l, affS a
theorem affs_in {y : Rdr} {l : List Aff} {a : Aff} {n : Nat} {M : Int} {P : List Aff → Prop} (hl : l.length ≤ 100) (hn : n ≤ 100)
    (hA : Dr2 (fun k k1 => spec_l13Affixes.L3 k k1 y (l ++ [a]) (n : Int)) M P) (hB : Dr2 (fun k k1 => spec_l13Affixes.L3 k k1 y l (n : Int)) M P) :
    ∀ j i : Nat, i + j = l.length → ∀ b : Bool, Dr3 (fun k k1 k2 => spec_l13Affixes.L8 k k1 k2 y l ((n + 1 : Nat) : Int) a b (i : Int)) M P := by
  have e1 : w64 (((n + 1 : Nat) : Int) - 1) = (n : Int) := by rw [show ((n + 1 : Nat) : Int) - 1 = (n : Int) by omega]; exact w_id (by omega) (by omega)
  have e2 : decide ((l.length + [a].length) * 72 ≤ rowMax) = true := decide_eq_true (by simp [rowMax]; omega)
  intro j
  induction j with
  | zero =>
    intro i hi b
    refine Dr3.succ (Dr3.congr (fun k k1 k2 => spec_l13Affixes.L8_eq k k1 k2 y l _ a b _) ?_)
    simp only [at_end (show ¬ i < l.length by omega), ifb_f, e1, e2, ifb_t]
    cases b
    · simp only [Bool.not_false, ifb_t]; exact hA.fst3
    · simp only [Bool.not_true, ifb_f]; exact hB.fst3
  | succ j ih =>
    intro i hi b
    obtain ⟨c1, c2, c3, c4⟩ := at_i (show i < l.length by omega) (by omega)
    refine Dr3.succ (Dr3.congr (fun k k1 k2 => spec_l13Affixes.L8_eq k k1 k2 y l _ a b _) (Dr3.succ ?_))
    simp only [c1, c2, Bool.and_self, ifb_t, spec_l13Affixes.J9_eq, w64, c4]
    cases b
    · simp only [ifb_f]; exact (ih (i + 1) (by omega) _).pred
    · simp only [ifb_t]; exact (ih (i + 1) (by omega) _).pred
theorem affs_loop : ∀ (n : Nat) (m : Int) (y : Rdr) (l : List Aff), Rd m y → m + n ≤ 700000000 → n ≤ 5 → affsS (50 - n) l → Dr2 (fun k k1 => spec_l13Affixes.L3 k k1 y l (n : Int)) (m + n) (affsS 50) := by
  intro n
  induction n with
  | zero =>
    intro m y l hy hm hn hl
    refine Dr2.succ (Dr2.congr (fun k k1 => spec_l13Affixes.L3_eq k k1 y l _) ?_)
    simp only [show decide (((0 : Nat) : Int) > 0) = false from rfl, ifb_f]
    exact Dr2.now (v := l) (x := y) (fun k k1 => rfl) hl (hy.up (by omega))
  | succ n ih =>
    intro m y l hy hm hn hl
    refine Dr2.succ (Dr2.congr (fun k k1 => spec_l13Affixes.L3_eq k k1 y l _) ?_)
    simp only [decide_eq_true (show ((n + 1 : Nat) : Int) > 0 by omega), ifb_t]
    refine Dr2.bind (affix_dr hy (by omega)).snd fun a z ha hz => ?_
    have A := ih (m + 1) z (l ++ [a]) hz (by omega) (by omega) ⟨by have := hl.1; simp; omega, fun x hx => (List.mem_append.1 hx).elim (hl.2 x) fun h => by rw [List.mem_singleton.1 h]; exact ha⟩
    have B := ih (m + 1) z l hz (by omega) (by omega) ⟨by have := hl.1; omega, hl.2⟩
    exact ((affs_in (by have := hl.1; omega) (by omega) A B l.length 0 (by omega) false).in2).up (by omega) fun _ h => h
theorem affixes_dr {m : Int} {x : Rdr} (h : Rd m x) (hm : m ≤ 600000000) : Dr (fun k => spec_l13Affixes.f k x) (m + 10) (affsS 50) := by
  refine Dr.congr (fun k => spec_l13Affixes.f_eq k x) (Dr.bind (pick_dr h (by omega) 5 (by omega) (by omega)) fun v y hv hy => ?_)
  obtain ⟨n, rfl⟩ := Int.eq_ofNat_of_zero_le hv.1
  have h5 := hv.2
  exact ((affs_loop n (m + 1) y [] hy (by omega) (by omega) ⟨by simp, fun a ha => by simp at ha⟩).diag).up (by omega) fun _ h => h
/-! ### A word is put into a row that rises -/
def putS (s : ByteArray) : List ByteArray → List ByteArray
  | [] => [s]
  | x :: t => if ltS x s then x :: putS s t else if x = s then x :: t else s :: x :: t
theorem putS_cons (s x : ByteArray) (t : List ByteArray) : putS s (x :: t) = if ltS x s then x :: putS s t else if x = s then x :: t else s :: x :: t := rfl
theorem putS_mem {s x : ByteArray} : ∀ {l : List ByteArray}, x ∈ putS s l → x = s ∨ x ∈ l
  | [], h => .inl (List.mem_singleton.1 h)
  | y :: t, h => by
    unfold putS at h
    split at h
    · rcases List.mem_cons.1 h with rfl | h
      · exact .inr (List.mem_cons_self ..)
      · exact (putS_mem h).imp id fun h => List.mem_cons_of_mem _ h
    · split at h
      · exact .inr h
      · rcases List.mem_cons.1 h with rfl | h
        · exact .inl rfl
        · exact .inr h
theorem putS_len (s : ByteArray) : ∀ (l : List ByteArray), (putS s l).length ≤ l.length + 1 ∧ (s ∉ l → (putS s l).length = l.length + 1)
  | [] => ⟨by simp [putS], fun _ => by simp [putS]⟩
  | y :: t => by
    unfold putS
    split
    · have := putS_len s t
      exact ⟨by simp; omega, fun h => by simp only [List.length_cons]; rw [this.2 fun h' => h (List.mem_cons_of_mem _ h')]⟩
    · split
      · rename_i e
        exact ⟨by simp, fun h => (h (by simp [e])).elim⟩
      · exact ⟨by simp, fun _ => by simp⟩
theorem l1Put_al (l : List ByteArray) (s : ByteArray) (hl : l.length ≤ 1099511627776) : Al fun k => spec_l1Put.f k l s = some (putS s l) := by
  have hS : l.length ≤ 4611686018427387904 := by omega
  have ins : ∀ i : Nat, i ≤ l.length → ∀ (z : Option (List ByteArray)), ifb (decide (0 ≤ (0 : Int)) && (decide ((0 : Int) ≤ (i : Int)) && decide ((i : Int) ≤ (l.length : Int)))) (ifb (decide ((([] : List ByteArray).length + ((l.take i).drop (0 : Int).toNat).length) * 16 ≤ rowMax)) (ifb (decide (((([] : List ByteArray) ++ ((l.take i).drop (0 : Int).toNat)).length + [s].length) * 16 ≤ rowMax)) (ifb (decide (0 ≤ (i : Int)) && (decide ((i : Int) ≤ (l.length : Int)) && decide ((l.length : Int) ≤ (l.length : Int)))) (ifb (decide ((((([] : List ByteArray) ++ ((l.take i).drop (0 : Int).toNat)) ++ [s]).length + ((l.take l.length).drop i).length) * 16 ≤ rowMax)) (some (((([] : List ByteArray) ++ ((l.take i).drop (0 : Int).toNat)) ++ [s]) ++ ((l.take l.length).drop i))) (none)) (none)) (none)) (none)) (none) = some (l.take i ++ s :: l.drop i) := by
    intro i hi _
    have d0 : ∀ l : List ByteArray, l.drop (0 : Int).toNat = l := fun l => rfl
    have d1 : l.take l.length = l := List.take_length
    rw [d1, d0]
    rw [decide_eq_true (Int.le_refl 0), decide_eq_true (show (0 : Int) ≤ (i : Int) by omega), decide_eq_true (show (i : Int) ≤ (l.length : Int) by omega), decide_eq_true (Int.le_refl (l.length : Int)), Bool.and_self, Bool.and_self, ifb_t, ifb_t]
    rw [decide_eq_true (by simp [rowMax]; omega), decide_eq_true (by simp [rowMax]; omega), decide_eq_true (by simp [rowMax]; omega), ifb_t, ifb_t, ifb_t]
    simp
  have key : ∀ (t : List ByteArray) (i : Nat), l.drop i = t → i ≤ l.length → Al2 fun k k1 => spec_l1Put.L2 k k1 l s (i : Int) = some (l.take i ++ putS s t) := by
    intro t
    induction t with
    | nil =>
      intro i hd hi
      have he := drop_nil hd
      refine Al2.succ (Al2.now fun k k1 => ?_)
      simp only [spec_l1Put.L2_eq, at_end he, ifb_f, Int.toNat_natCast]
      rw [ins i hi none, hd]
      rfl
    | cons x t ih =>
      intro i hd hi
      obtain ⟨hi', g1, g2⟩ := drop_cons bz hd
      obtain ⟨c1, c2, c3, c4⟩ := at_i hi' hS
      refine Al2.succ ((ih (i + 1) g2 (by omega)).mono fun k k1 e => ?_)
      simp only [spec_l1Put.L2_eq, c1, c2, Int.toNat_natCast, w64, c4, g1, Bool.and_self, ifb_t, e, eq_beq, putS_cons]
      cases hx : Op.bytesLess x.toList s.toList
      · rw [ifb_f, if_neg (show ¬ ltS x s = true by simp [ltS, hx])]
        by_cases e2 : x = s
        · rw [decide_eq_true e2, ifb_t, if_pos e2, ← hd, List.take_append_drop]
        · have ins' := ins i hi none
          simp only [c2] at ins'
          rw [decide_eq_false e2, ifb_f, ins', hd, if_neg e2]
      · rw [ifb_t, if_pos (show ltS x s = true by simp [ltS, hx])]
        have e3 : l.take (i + 1) = l.take i ++ [x] := by
          have h2 : l.take (i + 1) = l.take i ++ (l.drop i).take 1 := by rw [List.take_add]
          rw [h2, hd]; rfl
        rw [e3]
        simp
  refine (key l 0 rfl (by omega)).diag.mono fun k e => ?_
  rw [spec_l1Put.f_eq, show (0 : Int) = ((0 : Nat) : Int) from rfl, e]
  rfl
/-! ### Entries and books -/
def entS (e : En) : Prop := e.1.size ≤ 16 ∧ e.2.size ≤ 16
def entsS (n : Nat) (l : List En) : Prop := l.length ≤ n ∧ ∀ e ∈ l, entS e
def bookS (n : Nat) (b : Book) : Prop := affsS n b.1 ∧ entsS n b.2
theorem entry_dr {m : Int} {x : Rdr} (s : ByteArray) (hs : s.size ≤ 16) (h : Rd m x) (hm : m ≤ 900000000) : Dr (fun k => spec_l13Entry.f k x s) (m + 1) entS := by
  refine Dr.congr (fun k => spec_l13Entry.f_eq k x s) (Dr.bind (of_dr h (by omega) _ (by simp) (by simp)) fun v y hv hy => ?_)
  have h16 : v.size ≤ 16 := by
    simp only [List.mem_cons, List.not_mem_nil, or_false] at hv
    rcases hv with rfl | rfl | rfl | rfl | rfl | rfl | rfl | rfl | rfl <;> decide
  exact Dr.now (v := (s, v)) (x := y) (fun k => rfl) ⟨hs, h16⟩ hy
theorem book_tail (b0 : Book) (A : List Aff) (hA : affsS 50 A) (ws : List ByteArray) (hw : ws.length ≤ 40 ∧ ∀ s ∈ ws, s.size ≤ 16) :
    ∀ (j i : Nat) (m : Int) (x : Rdr) (es : List En), i + j = ws.length → Rd m x → m + j ≤ 800000000 → entsS i es → Dr2 (fun k k1 => spec_l13Book.L13 k k1 x b0 (A, es) ws (i : Int)) (m + j) (bookS 50) := by
  intro j
  induction j with
  | zero =>
    intro i m x es hi hx hm he
    refine Dr2.succ (Dr2.congr (fun k k1 => spec_l13Book.L13_eq k k1 x b0 (A, es) ws _) ?_)
    simp only [at_end (show ¬ i < ws.length by omega), ifb_f]
    exact Dr2.now (v := (A, es)) (x := x) (fun _ _ => rfl) ⟨hA, by have := he.1; exact Nat.le_trans he.1 (by omega), he.2⟩ (hx.up (by omega))
  | succ j ih =>
    intro i m x es hi hx hm he
    have hil : i < ws.length := by omega
    obtain ⟨c1, c2, c3, c4⟩ := at_i hil (by omega)
    refine Dr2.succ (Dr2.congr (fun k k1 => spec_l13Book.L13_eq k k1 x b0 (A, es) ws _) ?_)
    simp only [c1, c2, c3, Bool.and_self, ifb_t, w64, c4]
    have hs : (ws.getD i bz).size ≤ 16 := by
      rw [List.getD_eq_getElem?_getD, List.getElem?_eq_getElem hil]
      exact hw.2 _ (List.getElem_mem hil)
    refine Dr2.bind (entry_dr _ hs hx (by omega)).snd fun e y he' hy => ?_
    have e2 : decide ((es.length + [e].length) * 32 ≤ rowMax) = true := decide_eq_true (by have := he.1; simp [rowMax]; omega)
    simp only [e2, ifb_t]
    exact (ih (i + 1) (m + 1) y (es ++ [e]) (by omega) hy (by omega) ⟨by have := he.1; simp; omega, fun z hz => (List.mem_append.1 hz).elim (he.2 z) fun h => by rw [List.mem_singleton.1 h]; exact he'⟩).up (by omega) fun _ h => h
theorem book_j12 (b0 : Book) (A : List Aff) (hA : affsS 50 A) (ws : List ByteArray) (hw : ws.length ≤ 40 ∧ ∀ s ∈ ws, s.size ≤ 16) {m : Int} {x : Rdr} (hx : Rd m x) (hm : m ≤ 700000000) :
    Dr (fun k => spec_l13Book.J12 k x b0 (A, []) ws) (m + 40) (bookS 50) := by
  refine Dr.succ (Dr.congr (fun k => spec_l13Book.J12_eq k x b0 (A, []) ws) ?_)
  exact ((book_tail b0 A hA ws hw ws.length 0 m x [] (by omega) hx (by omega) ⟨by simp, fun e he => by simp at he⟩).diag).up (by omega) fun _ h => h
/-- w and a letter -/
def wN (n : Nat) : ByteArray := (⟨#[119]⟩ : ByteArray) ++ strOf [(IntKind.u8.wrap (w64 ((97 : Int) + (n : Int))))]
theorem wN_bl : ∀ n, n < 25 → bl (wN n) = [119, (97 + n).toUInt8] := by decide
theorem wN_size {n : Nat} (h : n < 25) : (wN n).size = 2 := by rw [← bl_length, wN_bl n h]; rfl
theorem wN_inj : ∀ i, i < 25 → ∀ j, j < 25 → wN i = wN j → i = j := by
  intro i hi j hj e
  have := congrArg bl e
  rw [wN_bl i hi, wN_bl j hj] at this
  have h2 : (97 + i).toUInt8 = (97 + j).toUInt8 := by simpa using this
  have h3 := congrArg UInt8.toNat h2
  simp at h3
  omega
/-- all words begin with no w, or are w and one of the first n letters -/
def wOk (n : Nat) (s : ByteArray) : Prop := s.size ≤ 16 ∧ ((bl s).head? ≠ some 119 ∨ ∃ j, j < n ∧ s = wN j)
theorem book_fill (b0 : Book) (A : List Aff) (hA : affsS 50 A) : ∀ (j n : Nat) (m : Int) (x : Rdr) (ws : List ByteArray), j + ws.length = 24 → n ≤ ws.length → Rd m x → m ≤ 600000000 → (∀ s ∈ ws, wOk n s) →
    Dr2 (fun k k1 => spec_l13Book.L9 k k1 x b0 (A, []) ws (n : Int)) (m + 40) (bookS 50) := by
  intro j
  induction j with
  | zero =>
    intro n m x ws hj hn hx hm hw
    refine Dr2.succ (Dr2.congr (fun k k1 => spec_l13Book.L9_eq k k1 x b0 (A, []) ws _) ?_)
    simp only [show decide ((ws.length : Int) < 24) = false from decide_eq_false (by omega), ifb_f]
    exact (book_j12 b0 A hA ws ⟨by omega, fun s hs => (hw s hs).1⟩ hx (by omega)).fst
  | succ j ih =>
    intro n m x ws hj hn hx hm hw
    refine Dr2.succ (Dr2.congr (fun k k1 => spec_l13Book.L9_eq k k1 x b0 (A, []) ws _) ?_)
    have hn25 : n < 25 := by omega
    have hsz : fitB ((⟨#[119]⟩ : ByteArray).size + (strOf [(IntKind.u8.wrap (w64 ((97 : Int) + (n : Int))))]).size) = true := by
      have h2 := wN_size hn25
      unfold wN at h2
      rw [ByteArray.size_append] at h2
      rw [h2]; rfl
    have e1 : w64 ((n : Int) + 1) = ((n + 1 : Nat) : Int) := by rw [show (n : Int) + 1 = ((n + 1 : Nat) : Int) by omega]; exact w_id (by omega) (by omega)
    simp only [show decide ((ws.length : Int) < 24) = true from decide_eq_true (by omega), ifb_t, hsz, e1]
    refine Dr2.bindv (l1Put_al ws (wN n) (by omega)).snd ?_
    have hno : wN n ∉ ws := by
      intro hmem
      rcases (hw _ hmem).2 with h | ⟨i, hi, h⟩
      · rw [wN_bl n hn25] at h; simp at h
      · have := wN_inj n hn25 i (by omega) h; omega
    have hlen := (putS_len (wN n) ws).2 hno
    refine ih (n + 1) m x (putS (wN n) ws) (by omega) (by omega) hx hm fun s hs => ?_
    rcases putS_mem hs with rfl | hs
    · exact ⟨by rw [wN_size hn25]; omega, .inr ⟨n, by omega, rfl⟩⟩
    · obtain ⟨h1, h2⟩ := hw s hs
      exact ⟨h1, h2.imp id fun ⟨i, hi, h⟩ => ⟨i, by omega, h⟩⟩
theorem book_words (b0 : Book) (A : List Aff) (hA : affsS 50 A) : ∀ (n : Nat) (m : Int) (x : Rdr) (ws : List ByteArray), n + ws.length ≤ 7 → Rd m x → m + 12 * n ≤ 500000000 → (∀ s ∈ ws, wOk 0 s) →
    Dr2 (fun k k1 => spec_l13Book.L4 k k1 x b0 (A, []) ws (n : Int)) (m + 12 * n + 50) (bookS 50) := by
  intro n
  induction n with
  | zero =>
    intro m x ws hl hx hm hw
    refine Dr2.succ (Dr2.congr (fun k k1 => spec_l13Book.L4_eq k k1 x b0 (A, []) ws _) ?_)
    simp only [show decide (((0 : Nat) : Int) > 0) = false from rfl, ifb_f]
    refine Dr2.bind (pick_dr hx (by omega) 30 (by omega) (by omega)).fst fun v y hv hy => ?_
    by_cases c : v = 0
    · subst c
      simp only [show ((0 : Int) == 0) = true from rfl, ifb_t]
      exact ((book_fill b0 A hA (24 - ws.length) 0 (m + 1) y ws (by omega) (by omega) hy (by omega) hw).diag.fst).up (by omega) fun _ h => h
    · simp only [show (v == 0) = false by rw [beq_eq_false_iff_ne]; exact c, ifb_f]
      exact ((book_j12 b0 A hA ws ⟨by omega, fun s hs => (hw s hs).1⟩ hy (by omega)).fst).up (by omega) fun _ h => h
  | succ n ih =>
    intro m x ws hl hx hm hw
    refine Dr2.succ (Dr2.congr (fun k k1 => spec_l13Book.L4_eq k k1 x b0 (A, []) ws _) ?_)
    have e1 : w64 (((n + 1 : Nat) : Int) - 1) = (n : Int) := by rw [show ((n + 1 : Nat) : Int) - 1 = (n : Int) by omega]; exact w_id (by omega) (by omega)
    simp only [decide_eq_true (show ((n + 1 : Nat) : Int) > 0 by omega), ifb_t, e1]
    refine Dr2.bind (word_dr hx (by omega)).snd fun s y hs hy => ?_
    refine Dr2.bindv (l1Put_al ws s (by omega)).snd ?_
    have hlen := (putS_len s ws).1
    refine (ih (m + 12) y (putS s ws) (by omega) hy (by omega) fun z hz => ?_).up (by omega) fun _ h => h
    rcases putS_mem hz with rfl | hz
    · exact ⟨Nat.le_trans hs.1 (by omega), .inl hs.2⟩
    · exact hw z hz
theorem book_dr {m : Int} {x : Rdr} (h : Rd m x) (hm : m ≤ 400000000) : Dr (fun k => spec_l13Book.f k x) (m + 200) (bookS 50) := by
  refine Dr.congr (fun k => spec_l13Book.f_eq k x) (Dr.bind (affixes_dr h (by omega)) fun A y hA hy => ?_)
  refine Dr.bind (pick_dr hy (by omega) 7 (by omega) (by omega)) fun v z hv hz => ?_
  obtain ⟨n, rfl⟩ := Int.eq_ofNat_of_zero_le hv.1
  have h7 := hv.2
  exact ((book_words ([], []) A hA n _ z [] (by simp; omega) hz (by omega) (fun s hs => by simp at hs)).diag).up (by omega) fun _ h => h
end Go.Proofs.YtabindnaedchgaaGreat.Rf
end

section
/- Two deltas made one, the reference's side. -/
namespace Go.Proofs.YtabindnaedchgaaGreat.Rf
open Go Go.RowKit
set_option linter.unusedVariables false
set_option linter.unusedSimpArgs false
theorem ltS_trans {a b c : ByteArray} (h1 : ltS a b = true) (h2 : ltS b c = true) : ltS a c = true := ltE_trans (a := (a, bz)) (b := (b, bz)) (c := (c, bz)) h1 h2
theorem ltS_tri {a b : ByteArray} (h1 : ltS a b = false) (h2 : ltS b a = false) : a = b := by
  have := ltE_tri (a := (a, bz)) (b := (b, bz)) h1 h2
  rw [toList_bl, toList_bl] at this
  exact bl_inj this
theorem ltS_eq (a b : ByteArray) : ltS a b = decide (bl a < bl b) := by
  show Op.bytesLess a.toList b.toList = _
  rw [Go.Proofs.bytesLess_eq, toList_bl, toList_bl]
theorem ascS_ext {l m : List ByteArray} (hl : AscS l) (hm : AscS m) (h : ∀ x, x ∈ l ↔ x ∈ m) : l = m := by
  have ne : ∀ {a b : ByteArray}, ltS a b = true → a ≠ b := fun {a b} h e => by subst e; rw [ltS_irrefl] at h; cases h
  have nl : l.Nodup := hl.imp ne
  have nm : m.Nodup := hm.imp ne
  have hp : l.Perm m := (List.perm_ext_iff_of_nodup nl nm).2 h
  refine List.Perm.eq_of_pairwise (le := fun a b => ltS a b = true) ?_ hl hm hp
  intro a b _ _ h1 h2
  exact absurd rfl (ne (ltS_trans h1 h2))
theorem putS_iff {s x : ByteArray} : ∀ {l : List ByteArray}, x ∈ putS s l ↔ x = s ∨ x ∈ l
  | [] => by simp [putS]
  | y :: t => by
    rw [putS_cons]
    split
    · rw [List.mem_cons, putS_iff (l := t), List.mem_cons]
      constructor
      · rintro (h | h | h)
        · exact .inr (.inl h)
        · exact .inl h
        · exact .inr (.inr h)
      · rintro (h | h | h)
        · exact .inr (.inl h)
        · exact .inl h
        · exact .inr (.inr h)
    · split
      · rename_i h
        constructor
        · exact fun h => .inr h
        · rintro (h' | h')
          · rw [h', ← h]; exact List.mem_cons_self
          · exact h'
      · rw [List.mem_cons]
theorem putS_asc {s : ByteArray} : ∀ {l : List ByteArray}, AscS l → AscS (putS s l)
  | [], _ => by simp [putS]
  | y :: t, h => by
    obtain ⟨h1, h2⟩ := List.pairwise_cons.1 h
    rw [putS_cons]
    split
    · rename_i c
      refine List.pairwise_cons.2 ⟨fun z hz => ?_, putS_asc h2⟩
      rcases putS_iff.1 hz with rfl | hz
      · exact c
      · exact h1 z hz
    · split
      · exact h
      · rename_i c1 c2
        have c3 : ltS s y = true := by
          cases c4 : ltS s y
          · exact absurd (ltS_tri (by simpa using c1) c4) c2
          · rfl
        refine List.pairwise_cons.2 ⟨fun z hz => ?_, h⟩
        rcases List.mem_cons.1 hz with rfl | hz
        · exact c3
        · exact ltS_trans c3 (h1 z hz)
theorem putsS_asc : ∀ (t l : List ByteArray), AscS l → AscS (t.foldl (fun l s => putS s l) l)
  | [], _, h => h
  | x :: t, l, h => putsS_asc t _ (putS_asc h)
theorem putsS_iff {x : ByteArray} : ∀ (t l : List ByteArray), x ∈ t.foldl (fun l s => putS s l) l ↔ x ∈ l ∨ x ∈ t
  | [], l => by simp
  | y :: t, l => by
    rw [List.foldl_cons, putsS_iff t, putS_iff, List.mem_cons]
    constructor
    · rintro ((h | h) | h)
      · exact .inr (.inl h)
      · exact .inl h
      · exact .inr (.inr h)
    · rintro (h | h | h)
      · exact .inl (.inr h)
      · exact .inl (.inl h)
      · exact .inr h
theorem sortS_asc {l : List ByteArray} (hn : l.Nodup) : AscS (sortS l) := by
  unfold sortS AscS
  rw [List.pairwise_map]
  have h1 : ((l.map bl).mergeSort fun x y => decide (x ≤ y)).Pairwise fun x y => decide (x ≤ y) = true := List.pairwise_mergeSort (le := fun x y : List UInt8 => decide (x ≤ y)) (fun (a b c : List UInt8) h1 h2 => decide_eq_true (List.le_trans (of_decide_eq_true h1) (of_decide_eq_true h2))) (fun (a b : List UInt8) => by have := List.le_total a b; simpa using this) _
  have h2 : ((l.map bl).mergeSort fun x y => decide (x ≤ y)).Nodup := by
    rw [List.Perm.nodup_iff (List.mergeSort_perm _ _)]
    unfold List.Nodup at hn ⊢
    rw [List.pairwise_map]
    exact hn.imp fun h e => h (bl_inj e)
  refine (h1.and h2).imp fun {x y} ⟨h3, h4⟩ => ?_
  rw [ltS_eq]
  refine decide_eq_true ?_
  have h5 : x ≤ y := of_decide_eq_true h3
  show (bl ⟨x.toArray⟩) < (bl ⟨y.toArray⟩)
  have e1 : bl ⟨x.toArray⟩ = x := by simp [bl]
  have e2 : bl ⟨y.toArray⟩ = y := by simp [bl]
  rw [e1, e2]
  exact Classical.byContradiction fun h6 => h4 (List.le_antisymm h5 (List.not_lt.1 h6))
/-- what goes -/
theorem goes_same {a b : Delta} (ha : AscS a.1) (hb : AscS b.1) : b.1.foldl (fun l s => putS s l) (a.1.filter fun s => !hasE b.2.1 s) = sortS (b.1 ++ a.1.filter fun s => !said b s) := by
  have ne : ∀ {a b : ByteArray}, ltS a b = true → a ≠ b := fun {a b} h e => by subst e; rw [ltS_irrefl] at h; cases h
  refine ascS_ext (putsS_asc _ _ (ha.sublist List.filter_sublist)) (sortS_asc ?_) fun x => ?_
  · refine List.pairwise_append.2 ⟨hb.imp ne, (ha.imp ne).sublist List.filter_sublist, fun x hx y hy e => ?_⟩
    subst e
    have h1 := (List.mem_filter.1 hy).2
    have h2 := inB_mem.2 hx
    simp [said, h2] at h1
  · rw [putsS_iff, sortS_mem, List.mem_append, List.mem_filter, List.mem_filter]
    constructor
    · rintro (⟨h1, h2⟩ | h)
      · cases h3 : inB_ b.1 x
        · exact .inr ⟨h1, by simpa [said, h3] using h2⟩
        · exact .inl (inB_mem.1 h3)
      · exact .inl h
    · rintro (h | ⟨h1, h2⟩)
      · exact .inr h
      · simp only [said, Bool.not_or, Bool.and_eq_true] at h2
        exact .inl ⟨h1, h2.2⟩
/-- what comes -/
theorem comes_same {a b : Delta} (ha : Asc a.2.1) (hb : Asc b.2.1) : b.2.1.foldl (fun l e => insE e l) (a.2.1.filter fun e => !hasE b.2.1 e.1 && !inB_ b.1 e.1) = sortE (b.2.1 ++ a.2.1.filter fun e => !said b e.1) := by
  refine asc_ext (fold_asc (ha.sublist List.filter_sublist) (keep_apart (b := ([], a.2.1)) (d := b) ha hb)) (sortE_asc (apart_both ha hb)) fun x => ?_
  rw [fold_mem, sortE_mem, List.mem_append, List.mem_filter, List.mem_filter]
  unfold said
  rw [Bool.not_or, Bool.and_comm, or_comm]
theorem spec_DeltaBoth_al (a b : Delta) (ha : smD a) (hb : smD b) : Al fun k => spec_DeltaBoth.f k a b = some (bothD a b) := by
  have e0 := (spec_DeltaOk_al a ha).and (spec_DeltaOk_al b hb)
  cases h1 : deltaB a with
  | false => exact e0.mono fun k ⟨e1, e2⟩ => by simp only [spec_DeltaBoth.f_eq, e1, h1, Option.bind_some, Bool.not_false, ifb_t, bothD, Bool.false_and, Bool.false_eq_true, if_false]; rfl
  | true =>
  cases h2 : deltaB b with
  | false => exact e0.mono fun k ⟨e1, e2⟩ => by simp only [spec_DeltaBoth.f_eq, e1, e2, h1, h2, Option.bind_some, Bool.not_false, Bool.not_true, ifb_t, ifb_f, bothD, Bool.true_and, Bool.false_eq_true, if_false]; rfl
  | true =>
  obtain ⟨n1, n2, n3⟩ := len_okD h1
  obtain ⟨m1, m2, m3⟩ := len_okD h2
  have sA1 : Sm a.1.length := by unfold Sm; omega
  have sA2 : Sm a.2.1.length := by unfold Sm; omega
  have sB1 : Sm b.1.length := by unfold Sm; omega
  have sB2 : Sm b.2.1.length := by unfold Sm; omega
  have hR : bothD a b = if deltaB (bothC a b) then (bothC a b, true) else (zD, false) := by simp only [bothD, h1, h2, Bool.and_self, if_true]
  have hg := goes_same (a := a) (b := b) (words_asc (by simp only [deltaB, Bool.and_eq_true] at h1; exact h1.1)) (words_asc (by simp only [deltaB, Bool.and_eq_true] at h2; exact h2.1))
  have hcm := comes_same (a := a) (b := b) (asc_okD h1) (asc_okD h2)
  have fin : Al fun k => spec_DeltaBoth.J29 k ([], [], false, []) (bothC a b) = some (bothD a b) := by
    refine Al.succ ((spec_DeltaOk_al (bothC a b) (bothC_sm ha hb ⟨n1, n2, n3⟩ ⟨m1, m2, m3⟩)).mono fun k e => ?_)
    rw [hR, spec_DeltaBoth.J29_eq, e, Option.bind_some]
    cases deltaB (bothC a b)
    · rw [Bool.not_false, ifb_t]; rfl
    · rw [Bool.not_true, ifb_f]; rfl
  have four : ∀ (t : List En) (i : Nat) (c : List En), b.2.1.drop i = t → t.foldl (fun l e => insE e l) c = (bothC a b).2.1 → c.length ≤ 24 + i →
      Al2 fun k k1 => spec_DeltaBoth.L21 k k1 a b ([], [], false, []) ((bothC a b).1, c, a.2.2.1 || b.2.2.1, []) (i : Int) = some (bothD a b) := by
    intro t
    induction t with
    | nil =>
      intro i c hd hc hl
      rw [List.foldl_nil] at hc
      subst hc
      have q1 : decide ((([] : List Aff).length + b.2.2.2.length) * 72 ≤ rowMax) = true := decide_eq_true (by simp [rowMax]; omega)
      have q2 : decide ((([] : List Aff).length + a.2.2.2.length) * 72 ≤ rowMax) = true := decide_eq_true (by simp [rowMax]; omega)
      refine Al2.succ (fin.fst.mono fun k k1 e => ?_)
      simp only [spec_DeltaBoth.L21_eq, at_end (drop_nil hd), ifb_f, q1, q2, ifb_t, List.nil_append]
      have e' : ∀ L, L = (bothC a b).2.2.2 → spec_DeltaBoth.J29 k ([], [], false, []) ((bothC a b).1, (bothC a b).2.1, (a.2.2.1 || b.2.2.1), L) = some (bothD a b) := fun L hL => by rw [hL]; exact e
      cases hb3 : b.2.2.1 <;> cases ha3 : a.2.2.1 <;> simp only [hb3, ha3, ifb_t, ifb_f, Bool.or_true, Bool.or_false, Bool.false_eq_true, if_true, if_false] at e' ⊢ <;> exact e' _ (by simp [bothC, hb3, ha3])
    | cons x t ih =>
      intro i l hd hc hl
      obtain ⟨hi, g1, g2⟩ := drop_cons zE hd
      obtain ⟨c1, c2, c3, c4⟩ := at_i hi sB2
      have hlS : Sm l.length := by unfold Sm; omega
      have hat : atE l x.1 ≤ l.length := by unfold atE; exact (List.takeWhile_prefix _).length_le
      have r1 : decide ((0 : Int) ≤ (atE l x.1 : Int)) = true := decide_eq_true (by omega)
      have r2 : decide ((atE l x.1 : Int) ≤ (l.length : Int)) = true := decide_eq_true (by omega)
      have r3 : decide ((l.length : Int) ≤ (l.length : Int)) = true := decide_eq_true (by omega)
      have m1 : decide ((([] : List En).length + (l.take (atE l x.1)).length) * 32 ≤ rowMax) = true := decide_eq_true (by simp [rowMax]; omega)
      have m2' : decide (((l.take (atE l x.1)).length + [x].length) * 32 ≤ rowMax) = true := decide_eq_true (by simp [rowMax]; omega)
      have m3' : decide (((l.take (atE l x.1) ++ [x]).length + (l.drop (atE l x.1)).length) * 32 ≤ rowMax) = true := decide_eq_true (by simp [rowMax]; omega)
      refine Al2.succ (((spec_l5At_al l x.1 hlS).snd.and (ih (i + 1) (insE x l) g2 hc (by rw [insE_length]; omega))).mono fun k k1 ⟨e1, e2⟩ => ?_)
      simp only [spec_DeltaBoth.L21_eq, c1, c2, c3, w64, c4, g1, Bool.and_self, ifb_t, e1, Option.bind_some, r1, r2, r3, show decide ((0 : Int) ≤ 0) = true from rfl, Int.toNat_zero, Int.toNat_natCast, List.drop_zero, List.take_length, m1, List.nil_append, m2', m3', ins_at]
      exact e2
  have three : ∀ (t : List En) (i : Nat) (c : List En), a.2.1.drop i = t → c ++ (t.filter fun e => !hasE b.2.1 e.1 && !inB_ b.1 e.1) = a.2.1.filter (fun e => !hasE b.2.1 e.1 && !inB_ b.1 e.1) → c.length ≤ i →
      Al2 fun k k1 => spec_DeltaBoth.L15 k k1 a b ([], [], false, []) ((bothC a b).1, c, a.2.2.1 || b.2.2.1, []) (i : Int) = some (bothD a b) := by
    intro t
    induction t with
    | nil =>
      intro i c hd hc hl
      rw [List.filter_nil, List.append_nil] at hc
      subst hc
      have f2 := List.length_filter_le (fun e : En => !hasE b.2.1 e.1 && !inB_ b.1 e.1) a.2.1
      refine Al2.succ ((four b.2.1 0 _ rfl hcm (Nat.le_trans (List.length_filter_le _ _) (by omega))).diag.fst.mono fun k k1 e => ?_)
      simp only [spec_DeltaBoth.L15_eq, at_end (drop_nil hd), ifb_f]
      exact e
    | cons x t ih =>
      intro i c hd hc hl
      obtain ⟨hi, g1, g2⟩ := drop_cons zE hd
      obtain ⟨c1, c2, c3, c4⟩ := at_i hi sA2
      have m1 : decide ((c.length + [x].length) * 32 ≤ rowMax) = true := decide_eq_true (by simp [rowMax]; omega)
      rw [List.filter_cons] at hc
      cases hx : hasE b.2.1 x.1 with
      | true =>
        refine Al2.succ ((((spec_l5At_al b.2.1 x.1 sB2).snd.and (spec_l2In_al b.1 x.1 sB1).snd).and (ih (i + 1) c g2 (by simpa [hx] using hc) (by omega))).mono fun k k1 ⟨⟨e1, e2⟩, e3⟩ => ?_)
        simp only [spec_DeltaBoth.L15_eq, c1, c2, c3, w64, c4, g1, Bool.and_self, ifb_t, e1, there_has (asc_okD h2), hx, Option.bind_some, Bool.not_true, ifb_f, e3]
      | false =>
      cases hy : inB_ b.1 x.1 with
      | true =>
        refine Al2.succ ((((spec_l5At_al b.2.1 x.1 sB2).snd.and (spec_l2In_al b.1 x.1 sB1).snd).and (ih (i + 1) c g2 (by simpa [hx, hy] using hc) (by omega))).mono fun k k1 ⟨⟨e1, e2⟩, e3⟩ => ?_)
        simp only [spec_DeltaBoth.L15_eq, c1, c2, c3, w64, c4, g1, Bool.and_self, ifb_t, e1, e2, there_has (asc_okD h2), hx, hy, Option.bind_some, Bool.not_false, Bool.not_true, ifb_f, e3]
      | false =>
        refine Al2.succ ((((spec_l5At_al b.2.1 x.1 sB2).snd.and (spec_l2In_al b.1 x.1 sB1).snd).and (ih (i + 1) (c ++ [x]) g2 (by simpa [hx, hy] using hc) (by simp; omega))).mono fun k k1 ⟨⟨e1, e2⟩, e3⟩ => ?_)
        simp only [spec_DeltaBoth.L15_eq, c1, c2, c3, w64, c4, g1, Bool.and_self, ifb_t, e1, e2, there_has (asc_okD h2), hx, hy, Option.bind_some, Bool.not_false, m1, e3]
  have two : ∀ (t : List ByteArray) (i : Nat) (c : List ByteArray), b.1.drop i = t → t.foldl (fun l s => putS s l) c = (bothC a b).1 → c.length ≤ 24 + i →
      Al2 fun k k1 => spec_DeltaBoth.L11 k k1 a b ([], [], false, []) (c, [], a.2.2.1 || b.2.2.1, []) (i : Int) = some (bothD a b) := by
    intro t
    induction t with
    | nil =>
      intro i c hd hc hl
      rw [List.foldl_nil] at hc
      subst hc
      refine Al2.succ ((three a.2.1 0 [] rfl (by simp) (by simp)).diag.fst.mono fun k k1 e => ?_)
      simp only [spec_DeltaBoth.L11_eq, at_end (drop_nil hd), ifb_f]
      exact e
    | cons x t ih =>
      intro i c hd hc hl
      obtain ⟨hi, g1, g2⟩ := drop_cons bz hd
      obtain ⟨c1, c2, c3, c4⟩ := at_i hi sB1
      have hp := (putS_len x c).1
      refine Al2.succ (((l1Put_al c x (by omega)).snd.and (ih (i + 1) (putS x c) g2 hc (by omega))).mono fun k k1 ⟨e1, e2⟩ => ?_)
      simp only [spec_DeltaBoth.L11_eq, c1, c2, c3, w64, c4, g1, Bool.and_self, ifb_t, e1, Option.bind_some, e2]
  have one : ∀ (t : List ByteArray) (i : Nat) (c : List ByteArray), a.1.drop i = t → c ++ (t.filter fun s => !hasE b.2.1 s) = a.1.filter (fun s => !hasE b.2.1 s) → c.length ≤ i →
      Al2 fun k k1 => spec_DeltaBoth.L5 k k1 a b ([], [], false, []) (c, [], a.2.2.1 || b.2.2.1, []) (i : Int) = some (bothD a b) := by
    intro t
    induction t with
    | nil =>
      intro i c hd hc hl
      rw [List.filter_nil, List.append_nil] at hc
      subst hc
      have f1 := List.length_filter_le (fun s => !hasE b.2.1 s) a.1
      refine Al2.succ ((two b.1 0 _ rfl hg (Nat.le_trans (List.length_filter_le _ _) (by omega))).diag.fst.mono fun k k1 e => ?_)
      simp only [spec_DeltaBoth.L5_eq, at_end (drop_nil hd), ifb_f]
      exact e
    | cons x t ih =>
      intro i c hd hc hl
      obtain ⟨hi, g1, g2⟩ := drop_cons bz hd
      obtain ⟨c1, c2, c3, c4⟩ := at_i hi sA1
      have m1 : decide ((c.length + [x].length) * 16 ≤ rowMax) = true := decide_eq_true (by simp [rowMax]; omega)
      rw [List.filter_cons] at hc
      cases hx : hasE b.2.1 x with
      | true =>
        refine Al2.succ (((spec_l5At_al b.2.1 x sB2).snd.and (ih (i + 1) c g2 (by simpa [hx] using hc) (by omega))).mono fun k k1 ⟨e1, e3⟩ => ?_)
        simp only [spec_DeltaBoth.L5_eq, c1, c2, c3, w64, c4, g1, Bool.and_self, ifb_t, e1, there_has (asc_okD h2), hx, Option.bind_some, Bool.not_true, ifb_f, e3]
      | false =>
        refine Al2.succ (((spec_l5At_al b.2.1 x sB2).snd.and (ih (i + 1) (c ++ [x]) g2 (by simpa [hx] using hc) (by simp; omega))).mono fun k k1 ⟨e1, e3⟩ => ?_)
        simp only [spec_DeltaBoth.L5_eq, c1, c2, c3, w64, c4, g1, Bool.and_self, ifb_t, e1, there_has (asc_okD h2), hx, Option.bind_some, Bool.not_false, m1, e3]
  have j4 : Al fun k => spec_DeltaBoth.J4 k a b ([], [], false, []) ([], [], a.2.2.1 || b.2.2.1, []) = some (bothD a b) :=
    Al.succ ((one a.1 0 [] rfl (by simp) (by simp)).diag.mono fun k e => by rw [spec_DeltaBoth.J4_eq]; exact e)
  refine (e0.and j4).mono fun k ⟨⟨e1, e2⟩, e3⟩ => ?_
  simp only [spec_DeltaBoth.f_eq, e1, e2, h1, h2, Option.bind_some, Bool.not_true, ifb_f]
  cases ha3 : a.2.2.1
  · rw [ifb_f]; simpa [ha3] using e3
  · rw [ifb_t]; simpa [ha3] using e3
end Go.Proofs.YtabindnaedchgaaGreat.Rf
end

section
/- The laws' own words: the same books, one of a row. -/
namespace Go.Proofs.YtabindnaedchgaaGreat.Rf
open Go Go.RowKit
set_option linter.unusedVariables false
set_option linter.unusedSimpArgs false
theorem mdBook_al (a b : Book) (h1 : Sm a.1.length) (h2 : Sm a.2.length) : Al fun k => laws_mdBook.f k a b = some (decide (a = b)) := by
  by_cases hl1 : a.1.length = b.1.length
  case neg =>
    refine Al.now fun k => ?_
    rw [laws_mdBook.f_eq, show ((a.1.length : Int) != (b.1.length : Int)) = true by rw [bne_iff_ne]; omega, ifb_t, decide_eq_false fun e => hl1 (by rw [e])]
  by_cases hl2 : a.2.length = b.2.length
  case neg =>
    refine Al.now fun k => ?_
    rw [laws_mdBook.f_eq, show ((a.1.length : Int) != (b.1.length : Int)) = false by rw [hl1]; simp, ifb_f, show ((a.2.length : Int) != (b.2.length : Int)) = true by rw [bne_iff_ne]; omega, ifb_t, decide_eq_false fun e => hl2 (by rw [e])]
  have two : ∀ (t : List En) (i : Nat), a.2.drop i = t → Al2 fun k k1 => laws_mdBook.L9 k k1 a b (i : Int) = some (decide (t = b.2.drop i)) := by
    intro t
    induction t with
    | nil =>
      intro i hd
      have he := drop_nil hd
      refine Al2.succ (Al2.now fun k k1 => ?_)
      rw [laws_mdBook.L9_eq, at_end he, ifb_f, List.drop_eq_nil_of_le (show b.2.length ≤ i by omega), decide_eq_true rfl]
    | cons x t ih =>
      intro i hd
      obtain ⟨hi, g1, g2⟩ := drop_cons zE hd
      obtain ⟨c1, c2, c3, c4⟩ := at_i hi h2
      have hm : i < b.2.length := by omega
      have hmd : b.2.drop i = b.2[i] :: b.2.drop (i + 1) := List.drop_eq_getElem_cons hm
      have gm : b.2.getD i zE = b.2[i] := by rw [List.getD_eq_getElem?_getD, List.getElem?_eq_getElem hm]; rfl
      have cm : decide ((i : Int) < (b.2.length : Int)) = true := decide_eq_true (by omega)
      refine Al2.succ ((ih (i + 1) g2).mono fun k k1 e => ?_)
      simp only [laws_mdBook.L9_eq, c1, c2, c3, w64, c4, g1, cm, gm, Bool.and_self, ifb_t, e, ent_beq, hmd]
      by_cases h : x = b.2[i]
      · rw [decide_eq_true h, Bool.not_true, ifb_f]
        exact congrArg some (decide_eq_decide.2 ⟨fun e => by rw [h, e], fun e => (List.cons.inj e).2⟩)
      · rw [decide_eq_false h, Bool.not_false, ifb_t]
        exact congrArg some (decide_eq_false fun e => h (List.cons.inj e).1).symm
  have one : ∀ (t : List Aff) (i : Nat), a.1.drop i = t → Al2 fun k k1 => laws_mdBook.L4 k k1 a b (i : Int) = some (decide (t = b.1.drop i) && decide (a.2 = b.2)) := by
    intro t
    induction t with
    | nil =>
      intro i hd
      have he := drop_nil hd
      refine Al2.succ ((two a.2 0 rfl).diag.fst.mono fun k k1 e => ?_)
      rw [laws_mdBook.L4_eq, at_end he, ifb_f, List.drop_eq_nil_of_le (show b.1.length ≤ i by omega), decide_eq_true rfl, Bool.true_and]
      exact e
    | cons x t ih =>
      intro i hd
      obtain ⟨hi, g1, g2⟩ := drop_cons zA hd
      obtain ⟨c1, c2, c3, c4⟩ := at_i hi h1
      have hm : i < b.1.length := by omega
      have hmd : b.1.drop i = b.1[i] :: b.1.drop (i + 1) := List.drop_eq_getElem_cons hm
      have gm : b.1.getD i zA = b.1[i] := by rw [List.getD_eq_getElem?_getD, List.getElem?_eq_getElem hm]; rfl
      have cm : decide ((i : Int) < (b.1.length : Int)) = true := decide_eq_true (by omega)
      refine Al2.succ ((ih (i + 1) g2).mono fun k k1 e => ?_)
      simp only [laws_mdBook.L4_eq, c1, c2, c3, w64, c4, g1, cm, gm, Bool.and_self, ifb_t, e, aff_beq, hmd]
      by_cases h : x = b.1[i]
      · rw [decide_eq_true h, Bool.not_true, ifb_f]
        exact congrArg (fun z => some (z && decide (a.2 = b.2))) (decide_eq_decide.2 ⟨fun e => by rw [h, e], fun e => (List.cons.inj e).2⟩)
      · rw [decide_eq_false h, Bool.not_false, ifb_t, decide_eq_false fun e => h (List.cons.inj e).1]
        rfl
  refine (one a.1 0 rfl).diag.mono fun k e => ?_
  rw [laws_mdBook.f_eq, show ((a.1.length : Int) != (b.1.length : Int)) = false by rw [hl1]; simp, ifb_f, show ((a.2.length : Int) != (b.2.length : Int)) = false by rw [hl2]; simp, ifb_f, show (0 : Int) = ((0 : Nat) : Int) from rfl, e]
  refine congrArg some ?_
  rw [List.drop_zero, Bool.eq_iff_iff]
  simp only [Bool.and_eq_true, decide_eq_true_eq]
  exact ⟨fun ⟨h1, h2⟩ => Prod.ext h1 h2, fun h => h ▸ ⟨rfl, rfl⟩⟩
theorem mdHas_al (l : List ByteArray) (s : ByteArray) (hS : Sm l.length) : Al fun k => laws_mdHas.f k l s = some (inB_ l s) := by
  have key : ∀ (t : List ByteArray) (i : Nat), l.drop i = t → Al2 fun k k1 => laws_mdHas.L2 k k1 l s (i : Int) = some (inB_ t s) := by
    intro t
    induction t with
    | nil =>
      intro i hd
      refine Al2.succ (Al2.now fun k k1 => ?_)
      simp only [laws_mdHas.L2_eq, at_end (drop_nil hd), ifb_f]
      rfl
    | cons x t ih =>
      intro i hd
      obtain ⟨hi, g1, g2⟩ := drop_cons bz hd
      obtain ⟨c1, c2, c3, c4⟩ := at_i hi hS
      refine Al2.succ ((ih (i + 1) g2).mono fun k k1 e => ?_)
      simp only [laws_mdHas.L2_eq, c1, c2, c3, w64, c4, g1, Bool.and_self, ifb_t, e, eq_beq]
      unfold inB_
      rw [List.any_cons]
      cases decide (x = s)
      · rw [ifb_f, Bool.false_or]
      · rw [ifb_t, Bool.true_or]
  refine (key l 0 rfl).diag.mono fun k e => ?_
  rw [laws_mdHas.f_eq, show (0 : Int) = ((0 : Nat) : Int) from rfl, e]
theorem deltaDo_sz' {b : Book} {d : Delta} (hb : b.1.length ≤ 1048576 ∧ b.2.length ≤ 1048576) : (deltaDo b d).1.1.length ≤ 1048576 ∧ (deltaDo b d).1.2.length ≤ 1048576 := by
  unfold deltaDo
  split
  · rename_i h
    simp only [Bool.and_eq_true] at h
    split
    · rename_i h2
      simp only [Bool.and_eq_true] at h2
      have := len_ok h2.2
      simp only
      omega
    · exact hb
  · simp
theorem u8_of {n : Int} (h : (Lit.int .u8 n).wf = true) : 0 ≤ n ∧ n ≤ 255 := by
  simp only [Lit.wf, Bool.and_eq_true, decide_eq_true_eq] at h
  simpa [IntKind.min, IntKind.max, IntKind.bits, IntKind.signed] using h
end Go.Proofs.YtabindnaedchgaaGreat.Rf
end

section
/- Draws: books and deltas of any kind. -/
namespace Go.Proofs.YtabindnaedchgaaGreat.Rf
open Go Go.RowKit
set_option linter.unusedVariables false
set_option linter.unusedSimpArgs false
theorem bq_t {v c : Int} (h : v = c) : (v == c) = true := by simp [h]
theorem bq_f {v c : Int} (h : ¬ v = c) : (v == c) = false := by simp [h]
theorem anyAffix_dr {m : Int} {x : Rdr} (h : Rd m x) (hm : m ≤ 800000000) : Dr (fun k => spec_l13AnyAffix.f k x) (m + 3) affS := by
  refine Dr.congr (fun k => spec_l13AnyAffix.f_eq k x) (Dr.bind (affix_dr h (by omega)) fun a y ha hy => ?_)
  refine Dr.bind (pick_dr hy (by omega) 12 (by omega) (by omega)) fun v z hv hz => ?_
  by_cases c0 : v = 0
  · simp only [bq_t c0, ifb_t]
    refine Dr.bind (of_dr hz (by omega) _ (by simp) (by simp)) fun s u hs hu => ?_
    have h8 : s.size ≤ 8 := by
      simp only [List.mem_cons, List.not_mem_nil, or_false] at hs
      rcases hs with rfl | rfl | rfl | rfl <;> decide
    exact Dr.now (v := (s, a.2)) (x := u) (fun k => rfl) ⟨h8, ha.2⟩ (hu.up (by omega))
  simp only [bq_f c0, ifb_f]
  by_cases c1 : v = 1
  · simp only [bq_t c1, ifb_t]
    refine Dr.bind (of_dr hz (by omega) _ (by simp) (by simp)) fun s u hs hu => ?_
    have h8 : s.size ≤ 8 := by
      simp only [List.mem_cons, List.not_mem_nil, or_false] at hs
      rcases hs with rfl | rfl | rfl | rfl <;> decide
    exact Dr.now (v := (a.1, a.2.1, s, a.2.2.2)) (x := u) (fun k => rfl) ⟨ha.1, h8, ha.2.2⟩ (hu.up (by omega))
  simp only [bq_f c1, ifb_f]
  by_cases c2 : v = 2
  · simp only [bq_t c2, ifb_t]
    refine Dr.bind (of_dr hz (by omega) _ (by simp) (by simp)) fun s u hs hu => ?_
    have h8 : s.size ≤ 8 := by
      simp only [List.mem_cons, List.not_mem_nil, or_false] at hs
      rcases hs with rfl | rfl | rfl | rfl <;> decide
    exact Dr.now (v := (a.1, a.2.1, a.2.2.1, a.2.2.2.1, s)) (x := u) (fun k => rfl) ⟨ha.1, ha.2.1, ha.2.2.1, h8⟩ (hu.up (by omega))
  simp only [bq_f c2, ifb_f]
  by_cases c3 : v = 3
  · simp only [bq_t c3, ifb_t]
    exact Dr.now (v := (a.1, !a.2.1, a.2.2)) (x := z) (fun k => rfl) ha (hz.up (by omega))
  simp only [bq_f c3, ifb_f]
  exact Dr.now (v := a) (x := z) (fun k => rfl) ha (hz.up (by omega))
theorem mem_snoc {α : Type} {P : α → Prop} {l : List α} {a : α} (h : ∀ x ∈ l, P x) (ha : P a) : ∀ x ∈ l ++ [a], P x := fun x hx => (List.mem_append.1 hx).elim (h x) fun e => by rw [List.mem_singleton.1 e]; exact ha
theorem anyBook_dr {m : Int} {x : Rdr} (h : Rd m x) (hm : m ≤ 300000000) : Dr (fun k => spec_l13AnyBook.f k x) (m + 300) (bookS 51) := by
  refine Dr.congr (fun k => spec_l13AnyBook.f_eq k x) (Dr.bind (book_dr h (by omega)) fun b y hb hy => ?_)
  have hb1 : bookS 51 b := ⟨⟨Nat.le_trans hb.1.1 (by omega), hb.1.2⟩, Nat.le_trans hb.2.1 (by omega), hb.2.2⟩
  have l1 := hb.1.1
  have l2 := hb.2.1
  refine Dr.bind (pick_dr hy (by omega) 16 (by omega) (by omega)) fun v z hv hz => ?_
  by_cases c0 : v = 0
  · simp only [bq_t c0, ifb_t]
    refine Dr.bind (anyAffix_dr hz (by omega)) fun a u ha hu => ?_
    have m1 : decide ((b.1.length + [a].length) * 72 ≤ rowMax) = true := decide_eq_true (by simp [rowMax]; omega)
    simp only [m1, ifb_t]
    exact Dr.now (v := (b.1 ++ [a], b.2)) (x := u) (fun k => rfl) ⟨⟨by simp; omega, mem_snoc hb.1.2 ha⟩, hb1.2⟩ (hu.up (by omega))
  simp only [bq_f c0, ifb_f]
  by_cases c1 : v = 1
  · simp only [bq_t c1, ifb_t]
    refine Dr.bind (anyWord_dr hz (by omega)) fun s u hs hu => ?_
    refine Dr.bind (of_dr hu (by omega) _ (by simp) (by simp)) fun f w hf hw => ?_
    have h16 : f.size ≤ 16 := by
      simp only [List.mem_cons, List.not_mem_nil, or_false] at hf
      rcases hf with rfl | rfl | rfl | rfl <;> decide
    have m1 : decide ((b.2.length + [(s, f)].length) * 32 ≤ rowMax) = true := decide_eq_true (by simp [rowMax]; omega)
    simp only [m1, ifb_t]
    exact Dr.now (v := (b.1, b.2 ++ [(s, f)])) (x := w) (fun k => rfl) ⟨hb1.1, by simp; omega, mem_snoc hb.2.2 ⟨Nat.le_trans hs (by omega), h16⟩⟩ (hw.up (by omega))
  simp only [bq_f c1, ifb_f]
  by_cases c2 : v = 2
  · simp only [bq_t c2, ifb_t]
    by_cases hl : (b.2.length : Int) > 0
    · simp only [decide_eq_true hl, ifb_t]
      refine Dr.bind (of_dr hz (by omega) _ (by simp) (by simp)) fun s u hs hu => ?_
      have h16 : s.size ≤ 16 := by
        simp only [List.mem_cons, List.not_mem_nil, or_false] at hs
        rcases hs with rfl | rfl | rfl <;> decide
      have hl0 : 0 < b.2.length := by omega
      simp only [decide_eq_true (Int.le_refl 0), decide_eq_true (show (0 : Int) < (b.2.length : Int) from hl), Bool.and_self, ifb_t]
      refine Dr.now (v := (b.1, b.2.set ((0 : Int).toNat) (s, (b.2.getD ((0 : Int).toNat) zE).2))) (x := u) (fun k => rfl) ⟨hb1.1, by rw [List.length_set]; exact hb1.2.1, fun e he => ?_⟩ (hu.up (by omega))
      rcases List.mem_or_eq_of_mem_set he with he | rfl
      · exact hb.2.2 e he
      · refine ⟨h16, ?_⟩
        show (b.2.getD 0 zE).2.size ≤ 16
        rw [List.getD_eq_getElem?_getD, List.getElem?_eq_getElem hl0]
        exact (hb.2.2 _ (List.getElem_mem hl0)).2
    · simp only [decide_eq_false hl, ifb_f]
      exact Dr.now (v := b) (x := z) (fun k => rfl) hb1 (hz.up (by omega))
  simp only [bq_f c2, ifb_f]
  exact Dr.now (v := b) (x := z) (fun k => rfl) hb1 (hz.up (by omega))
def wordsS (n : Nat) (l : List ByteArray) : Prop := l.length ≤ n ∧ ∀ s ∈ l, s.size ≤ 16
def deltaS (n : Nat) (d : Delta) : Prop := wordsS n d.1 ∧ entsS n d.2.1 ∧ affsS n d.2.2.2
theorem smB_S {b : Book} (h : bookS 60 b) : smB b := by
  have l1 := h.1.1
  have l2 := h.2.1
  refine ⟨⟨by omega, fun a ha => ?_⟩, by omega, fun e he => ?_⟩
  · have := h.1.2 a ha; unfold affS at this; unfold smA Sm; omega
  · have := h.2.2 e he; unfold entS at this; unfold smE Sm; omega
theorem smD_S {d : Delta} (h : deltaS 60 d) : smD d := by
  have l1 := h.1.1
  have l2 := h.2.1.1
  have l3 := h.2.2.1
  refine ⟨⟨by omega, fun s hs => ?_⟩, ⟨by omega, fun e he => ?_⟩, by omega, fun a ha => ?_⟩
  · have := h.1.2 s hs; unfold Sm; omega
  · have := h.2.1.2 e he; unfold entS at this; unfold smE Sm; omega
  · have := h.2.2.2 a ha; unfold affS at this; unfold smA Sm; omega
theorem bookS.up {n m : Nat} {b : Book} (h : bookS n b) (k : n ≤ m) : bookS m b := ⟨⟨Nat.le_trans h.1.1 k, h.1.2⟩, Nat.le_trans h.2.1 k, h.2.2⟩
theorem deltaS.up {n m : Nat} {d : Delta} (h : deltaS n d) (k : n ≤ m) : deltaS m d := ⟨⟨Nat.le_trans h.1.1 k, h.1.2⟩, ⟨Nat.le_trans h.2.1.1 k, h.2.1.2⟩, Nat.le_trans h.2.2.1 k, h.2.2.2⟩
theorem deltaOf_S {n : Nat} {a b : Book} (ha : bookS n a) (hb : bookS n b) : deltaS n (deltaOf a b) := by
  unfold deltaOf
  split
  · refine ⟨⟨?_, fun s hs => ?_⟩, ⟨?_, fun e he => ?_⟩, ?_⟩
    · simp only [goesOf, List.length_map]
      exact Nat.le_trans (List.length_filter_le _ _) ha.2.1
    · simp only [goesOf, List.mem_map] at hs
      obtain ⟨e, he, rfl⟩ := hs
      exact (ha.2.2 e (List.mem_filter.1 he).1).1
    · exact Nat.le_trans (List.length_filter_le _ _) hb.2.1
    · exact hb.2.2 e (List.mem_filter.1 he).1
    · show affsS n (if a.1 = b.1 then [] else b.1)
      split
      · exact ⟨by simp, fun a ha => by simp at ha⟩
      · exact hb.1
  · exact ⟨⟨by simp, fun s hs => by simp at hs⟩, ⟨by simp, fun s hs => by simp at hs⟩, by simp [affsS]⟩
theorem delta_dr {m : Int} {x : Rdr} (h : Rd m x) (hm : m ≤ 300000000) : Dr (fun k => spec_l13Delta.f k x) (m + 500) (deltaS 50) := by
  refine Dr.congr (fun k => spec_l13Delta.f_eq k x) (Dr.bind (book_dr h (by omega)) fun a y ha hy => ?_)
  refine Dr.bind (book_dr hy (by omega)) fun b z hb hz => ?_
  refine Dr.bindv (spec_DeltaOf_al a b (smB_S (ha.up (by omega))) (smB_S (hb.up (by omega)))) ?_
  have hd := deltaOf_S ha hb
  refine Dr.bind (pick_dr hz (by omega) 3 (by omega) (by omega)) fun v u hv hu => ?_
  by_cases c0 : v = 0
  · simp only [bq_t c0, ifb_t]
    exact Dr.now (v := ([], (deltaOf a b).2)) (x := u) (fun k => rfl) ⟨⟨by simp, fun s hs => by simp at hs⟩, hd.2⟩ (hu.up (by omega))
  · simp only [bq_f c0, ifb_f]
    exact Dr.now (v := deltaOf a b) (x := u) (fun k => rfl) hd (hu.up (by omega))
theorem anyDelta_dr {m : Int} {x : Rdr} (h : Rd m x) (hm : m ≤ 200000000) : Dr (fun k => spec_l13AnyDelta.f k x) (m + 600) (deltaS 51) := by
  refine Dr.congr (fun k => spec_l13AnyDelta.f_eq k x) (Dr.bind (delta_dr h (by omega)) fun d y hd hy => ?_)
  have hd1 : deltaS 51 d := hd.up (by omega)
  have l1 := hd.1.1
  have l2 := hd.2.1.1
  have l3 := hd.2.2.1
  refine Dr.bind (pick_dr hy (by omega) 12 (by omega) (by omega)) fun v z hv hz => ?_
  by_cases c0 : v = 0
  · have m0 : decide ((([] : List ByteArray).length + d.1.length) * 16 ≤ rowMax) = true := decide_eq_true (by simp [rowMax]; omega)
    simp only [bq_t c0, ifb_t, m0]
    refine Dr.bind (anyWord_dr hz (by omega)) fun s u hs hu => ?_
    have m1 : decide ((([] ++ d.1).length + [s].length) * 16 ≤ rowMax) = true := decide_eq_true (by simp [rowMax]; omega)
    simp only [m1, ifb_t]
    exact Dr.now (v := (([] ++ d.1) ++ [s], d.2)) (x := u) (fun k => rfl) ⟨⟨by simp; omega, mem_snoc hd.1.2 (Nat.le_trans hs (by omega))⟩, hd1.2⟩ (hu.up (by omega))
  simp only [bq_f c0, ifb_f]
  by_cases c1 : v = 1
  · have m0 : decide ((([] : List En).length + d.2.1.length) * 32 ≤ rowMax) = true := decide_eq_true (by simp [rowMax]; omega)
    simp only [bq_t c1, ifb_t, m0]
    refine Dr.bind (anyWord_dr hz (by omega)) fun s u hs hu => ?_
    refine Dr.bind (entry_dr s (Nat.le_trans hs (by omega)) hu (by omega)) fun e w he hw => ?_
    have m1 : decide ((([] ++ d.2.1).length + [e].length) * 32 ≤ rowMax) = true := decide_eq_true (by simp [rowMax]; omega)
    simp only [m1, ifb_t]
    exact Dr.now (v := (d.1, ([] ++ d.2.1) ++ [e], d.2.2)) (x := w) (fun k => rfl) ⟨hd1.1, ⟨by simp; omega, mem_snoc hd.2.1.2 he⟩, hd1.2.2⟩ (hw.up (by omega))
  simp only [bq_f c1, ifb_f]
  by_cases c2 : v = 2
  · simp only [bq_t c2, ifb_t]
    exact Dr.now (v := (d.1, d.2.1, !d.2.2.1, d.2.2.2)) (x := z) (fun k => rfl) hd1 (hz.up (by omega))
  simp only [bq_f c2, ifb_f]
  by_cases c3 : v = 3
  · have m0 : decide ((([] : List Aff).length + d.2.2.2.length) * 72 ≤ rowMax) = true := decide_eq_true (by simp [rowMax]; omega)
    simp only [bq_t c3, ifb_t, m0]
    refine Dr.bind (anyAffix_dr hz (by omega)) fun a u ha hu => ?_
    have m1 : decide ((([] ++ d.2.2.2).length + [a].length) * 72 ≤ rowMax) = true := decide_eq_true (by simp [rowMax]; omega)
    simp only [m1, ifb_t]
    exact Dr.now (v := (d.1, d.2.1, d.2.2.1, ([] ++ d.2.2.2) ++ [a])) (x := u) (fun k => rfl) ⟨hd1.1, hd1.2.1, by simp; omega, mem_snoc hd.2.2.2 ha⟩ (hu.up (by omega))
  simp only [bq_f c3, ifb_f]
  exact Dr.now (v := d) (x := z) (fun k => rfl) hd1 (hz.up (by omega))
/-- the draw of a book and a delta -/
theorem drawDeltaDo_al (s : List Int) (hs : ∀ b ∈ s, 0 ≤ b ∧ b ≤ 255) : ∃ b d, Al (fun k => spec_DrawDeltaDo.f k s = some (b, d)) ∧ bookS 51 b ∧ deltaS 51 d := by
  obtain ⟨x, e0, h0⟩ := l1Open_al s hs
  obtain ⟨b, y, e1, hb, hy⟩ := anyBook_dr h0 (by omega)
  obtain ⟨v, z, e2, hv, hz⟩ := pick_dr hy (by omega) 2 (by omega) (by omega)
  by_cases c : v = 0
  · obtain ⟨b2, u, e3, hb2, hu⟩ := book_dr hz (by omega)
    have e4 := spec_DeltaOf_al b b2 (smB_S (hb.up (by omega))) (smB_S (hb2.up (by omega)))
    refine ⟨b, deltaOf b b2, (((e0.and e1).and (e2.and e3)).and e4).mono fun k ⟨⟨⟨a0, a1⟩, a2, a3⟩, a4⟩ => ?_, hb, deltaOf_S hb (hb2.up (by omega))⟩
    have a1' : spec_l13AnyBook.f k x = some (b, y) := a1
    have a2' : spec_l1Rd__pick.f k y 2 = some (v, z) := a2
    have a3' : spec_l13Book.f k z = some (b2, u) := a3
    simp only [spec_DrawDeltaDo.f_eq, a0, a1', a2', a3', a4, Option.bind_some, bq_t c, ifb_t]
  · obtain ⟨d, u, e3, hd, hu⟩ := anyDelta_dr hz (by omega)
    refine ⟨b, d, ((e0.and e1).and (e2.and e3)).mono fun k ⟨⟨a0, a1⟩, a2, a3⟩ => ?_, hb, hd⟩
    have a1' : spec_l13AnyBook.f k x = some (b, y) := a1
    have a2' : spec_l1Rd__pick.f k y 2 = some (v, z) := a2
    have a3' : spec_l13AnyDelta.f k z = some (d, u) := a3
    simp only [spec_DrawDeltaDo.f_eq, a0, a1', a2', a3', Option.bind_some, bq_f c, ifb_f]
end Go.Proofs.YtabindnaedchgaaGreat.Rf
end

section
/- The laws' own words: the same deltas; two books drawn. -/
namespace Go.Proofs.YtabindnaedchgaaGreat.Rf
open Go Go.RowKit
set_option linter.unusedVariables false
set_option linter.unusedSimpArgs false
theorem mdTexts_refl (l : List ByteArray) (hS : Sm l.length) : Al fun k => laws_mdTexts.f k l l = some true := by
  have key : ∀ (t : List ByteArray) (i : Nat), l.drop i = t → Al2 fun k k1 => laws_mdTexts.L4 k k1 l l (i : Int) = some true := by
    intro t
    induction t with
    | nil =>
      intro i hd
      refine Al2.succ (Al2.now fun k k1 => ?_)
      simp only [laws_mdTexts.L4_eq, at_end (drop_nil hd), ifb_f]
    | cons x t ih =>
      intro i hd
      obtain ⟨hi, g1, g2⟩ := drop_cons bz hd
      obtain ⟨c1, c2, c3, c4⟩ := at_i hi hS
      refine Al2.succ ((ih (i + 1) g2).mono fun k k1 e => ?_)
      simp only [laws_mdTexts.L4_eq, c1, c2, c3, w64, c4, g1, Bool.and_self, ifb_t, e, beq_self_eq_true, Bool.not_true, ifb_f]
  refine (key l 0 rfl).diag.mono fun k e => ?_
  rw [laws_mdTexts.f_eq, bne_self_eq_false, ifb_f]
  exact e
theorem mdDelta_refl (d : Delta) (h : smD d) : Al fun k => laws_mdDelta.f k d d = some true := by
  have s1 : Sm d.1.length := Nat.le_trans h.1.1 (by omega)
  have s2 : Sm d.2.1.length := Nat.le_trans h.2.1.1 (by omega)
  have s3 : Sm d.2.2.2.length := Nat.le_trans h.2.2.1 (by omega)
  refine ((mdTexts_refl d.1 s1).and (mdBook_al (d.2.2.2, d.2.1) (d.2.2.2, d.2.1) s3 s2)).mono fun k ⟨e1, e2⟩ => ?_
  rw [laws_mdDelta.f_eq, e1, Option.bind_some, ifb_t, beq_self_eq_true, ifb_t, e2, Option.bind_some, decide_eq_true rfl]
theorem drawDeltaOf_al (s : List Int) (hs : ∀ b ∈ s, 0 ≤ b ∧ b ≤ 255) : ∃ a b, Al (fun k => spec_DrawDeltaOf.f k s = some (a, b)) ∧ bookS 51 a ∧ bookS 51 b := by
  obtain ⟨x, e0, h0⟩ := l1Open_al s hs
  obtain ⟨a, y, e1, ha, hy⟩ := anyBook_dr h0 (by omega)
  obtain ⟨v, z, e2, hv, hz⟩ := pick_dr hy (by omega) 4 (by omega) (by omega)
  by_cases c : v = 0
  · refine ⟨a, a, ((e0.and e1).and e2).mono fun k ⟨⟨a0, a1⟩, a2⟩ => ?_, ha, ha⟩
    have a1' : spec_l13AnyBook.f k x = some (a, y) := a1
    have a2' : spec_l1Rd__pick.f k y 4 = some (v, z) := a2
    have l1 := ha.1.1
    have l2 := ha.2.1
    simp only [spec_DrawDeltaOf.f_eq, a0, a1', a2', Option.bind_some, bq_t c, ifb_t, spec_l5Book_eq k a (by omega) (by omega)]
  · obtain ⟨b, u, e3, hb, hu⟩ := anyBook_dr hz (by omega)
    refine ⟨a, b, ((e0.and e1).and (e2.and e3)).mono fun k ⟨⟨a0, a1⟩, a2, a3⟩ => ?_, ha, hb⟩
    have a1' : spec_l13AnyBook.f k x = some (a, y) := a1
    have a2' : spec_l1Rd__pick.f k y 4 = some (v, z) := a2
    have a3' : spec_l13AnyBook.f k z = some (b, u) := a3
    simp only [spec_DrawDeltaOf.f_eq, a0, a1', a2', a3', Option.bind_some, bq_f c, ifb_f]
end Go.Proofs.YtabindnaedchgaaGreat.Rf
end

section
/- The law FnDeltaBoth is true. -/
namespace Go.Proofs.YtabindnaedchgaaGreat.Rf
open Go Go.RowKit
set_option linter.unusedVariables false
set_option linter.unusedSimpArgs false
theorem drawDeltaBoth_al (s : List Int) (hs : ∀ b ∈ s, 0 ≤ b ∧ b ≤ 255) : ∃ a b, Al (fun k => spec_DrawDeltaBoth.f k s = some (a, b)) ∧ deltaS 51 a ∧ deltaS 51 b := by
  obtain ⟨x, e0, h0⟩ := l1Open_al s hs
  obtain ⟨a, y, e1, ha, hy⟩ := anyDelta_dr h0 (by omega)
  obtain ⟨b, z, e2, hb, hz⟩ := anyDelta_dr hy (by omega)
  refine ⟨a, b, ((e0.and e1).and e2).mono fun k ⟨⟨a0, a1⟩, a2⟩ => ?_, ha, hb⟩
  have a1' : spec_l13AnyDelta.f k x = some (a, y) := a1
  have a2' : spec_l13AnyDelta.f k y = some (b, z) := a2
  simp only [spec_DrawDeltaBoth.f_eq, a0, a1', a2', Option.bind_some]
/-- books without entries -/
theorem book_bare {x : Book} (h : bookB x = true) : bookB (x.1, []) = true := by
  simp only [bookB, Bool.and_eq_true] at h ⊢
  exact ⟨h.1, by decide⟩
theorem deltaDo_S {n : Nat} {b : Book} {d : Delta} (hb : bookS n b) (hd : deltaS n d) (hn : 24 ≤ n) : bookS n (deltaDo b d).1 := by
  by_cases h : (deltaDo b d).2 = true
  · obtain ⟨e, h1, h2, _, h4⟩ := deltaDo_t h
    rw [e]
    have l := len_ok h4
    refine ⟨⟨by simp only; omega, fun a ha => ?_⟩, by simp only; omega, fun e he => ?_⟩
    · simp only [doB] at ha; split at ha
      · exact hd.2.2.2 a ha
      · exact hb.1.2 a ha
    · rcases mem_doB.1 he with h | h
      · exact hb.2.2 e h.1
      · exact hd.2.1.2 e h
  · unfold deltaDo at h ⊢
    split
    · split
      · rename_i h1 h2; rw [if_pos h1, if_pos h2] at h; exact absurd rfl h
      · exact hb
    · exact ⟨⟨by simp, fun a ha => by simp at ha⟩, by simp, fun e he => by simp at he⟩
theorem both_law {b : Book} {d : Delta} (h1 : (deltaDo b d).2 = true) {x y : Book} (hx : x = (deltaDo b d).1) (hy : y = (x.1, [])) (h3 : (bothD d (deltaOf x y)).2 = true) :
    bookB x = true ∧ bookB y = true ∧ deltaDo x (deltaOf x y) = (y, true) ∧ deltaDo b (deltaOf b y) = (y, true) ∧ deltaB (bothD d (deltaOf x y)).1 = true ∧ ((deltaDo b (bothD d (deltaOf x y)).1).2 = true → (deltaDo b (bothD d (deltaOf x y)).1).1 = y) := by
  obtain ⟨e, k1, k2, _, k4⟩ := deltaDo_t h1
  rw [e] at hx
  simp only at hx
  have bx : bookB x = true := by rw [hx]; exact k4
  have bY : bookB y = true := by rw [hy]; exact book_bare bx
  obtain ⟨f, g1, g2, g3⟩ := bothD_t h3
  refine ⟨bx, bY, deltaDo_of bx bY, deltaDo_of k1 bY, by rw [f]; exact g3, fun h4 => ?_⟩
  rw [f] at h4 ⊢
  simp only at h4 ⊢
  rw [(deltaDo_t h4).1]
  simp only
  rw [← both_do (asc_okB k1) (asc_okD k2) (asc_okD g2), ← hx, do_of bx bY]
theorem both_J18 {c : Delta} {bk y : Book} {f : Delta} (mc : smD c) (mk : smB bk) (my : smB y) (mf : smD f) (hc : deltaB c = true) (hf : deltaB f = true) (hl : y.1.length ≤ 1000 ∧ y.2.length ≤ 1000) (hv : (deltaDo bk f).2 = true → (deltaDo bk f).1 = y) :
    Al fun k => laws_FnDeltaBoth.J18 k c bk y f y true = some true := by
  have sm : ∀ {n : Nat}, n ≤ 1048576 → Sm n := fun h => by unfold Sm; omega
  refine Al.succ ((((impl_DeltaDo_al bk f mk mf).and (mdBook_al y y (sm (by omega)) (sm (by omega)))).and ((impl_DeltaOk_al c mc).and (impl_DeltaOk_al f mf))).mono fun k ⟨⟨e1, e2⟩, e3, e4⟩ => ?_)
  rw [decide_eq_true rfl] at e2
  simp only [laws_FnDeltaBoth.J18_eq, e1, e3, e4, hc, hf, e2, Option.bind_some, ifb_t]
  cases h : (deltaDo bk f).2 with
  | false => rw [Bool.not_false, ifb_t]
  | true => simp only [Bool.not_true, ifb_f, hv h, e2, Option.bind_some]
theorem both_J15 {c : Delta} {bk : Book} {d : Delta} (mc : smD c) (hK : bookS 51 bk) (hD : deltaS 51 d) (hc : deltaB c = true) :
    Al fun k => laws_FnDeltaBoth.J15 k c bk (deltaDo bk d).2 (deltaDo (deltaDo bk d).1 (deltaOf (deltaDo bk d).1 ((deltaDo bk d).1.1, []))).1 (deltaDo (deltaDo bk d).1 (deltaOf (deltaDo bk d).1 ((deltaDo bk d).1.1, []))).2
      (bothD d (deltaOf (deltaDo bk d).1 ((deltaDo bk d).1.1, []))).1 (bothD d (deltaOf (deltaDo bk d).1 ((deltaDo bk d).1.1, []))).2 = some true := by
  have e3 := impl_DeltaOk_al c mc
  rw [hc] at e3
  cases g1 : (deltaDo bk d).2 with
  | false => exact Al.succ (e3.mono fun k e => by simp only [laws_FnDeltaBoth.J15_eq, Bool.not_false, ifb_t, e, Option.bind_some])
  | true =>
  cases g2 : (deltaDo (deltaDo bk d).1 (deltaOf (deltaDo bk d).1 ((deltaDo bk d).1.1, []))).2 with
  | false => exact Al.succ (e3.mono fun k e => by simp only [laws_FnDeltaBoth.J15_eq, Bool.not_false, Bool.not_true, ifb_t, ifb_f, e, Option.bind_some])
  | true =>
  cases g3 : (bothD d (deltaOf (deltaDo bk d).1 ((deltaDo bk d).1.1, []))).2 with
  | false => exact Al.succ (e3.mono fun k e => by simp only [laws_FnDeltaBoth.J15_eq, Bool.not_false, Bool.not_true, ifb_t, ifb_f, e, Option.bind_some])
  | true =>
  obtain ⟨r1, r2, r3, r4, r5, r6⟩ := both_law g1 rfl rfl g3
  have mk := smB_S (hK.up (show 51 ≤ 60 by omega))
  have md := smD_S (hD.up (show 51 ≤ 60 by omega))
  have hX := deltaDo_S hK hD (by omega)
  have hY : bookS 51 (((deltaDo bk d).1.1, []) : Book) := ⟨hX.1, by simp, fun e he => by simp at he⟩
  have mY := smB_S (hY.up (show 51 ≤ 60 by omega))
  have mE := smD_S ((deltaOf_S hX hY).up (show 51 ≤ 60 by omega))
  have mF := bothD_sm md mE
  have mG := smD_S ((deltaOf_S hK hY).up (show 51 ≤ 60 by omega))
  have lY := hY.1.1
  refine Al.succ ((((impl_DeltaOf_al bk ((deltaDo bk d).1.1, []) mk mY).and (impl_DeltaDo_al bk (deltaOf bk ((deltaDo bk d).1.1, [])) mk mG)).and (both_J18 mc mk mY mF hc r5 ⟨Nat.le_trans lY (by omega), by simp⟩ r6)).mono fun k ⟨⟨c1, c2⟩, c3⟩ => ?_)
  rw [r4] at c2
  simp only [laws_FnDeltaBoth.J15_eq, r3, Bool.not_true, ifb_f, c1, c2, Option.bind_some, c3]
theorem both_J12 {c : Delta} {bk : Book} {d : Delta} (mc : smD c) (hK : bookS 51 bk) (hD : deltaS 51 d) (hc : deltaB c = true) :
    Al fun k => laws_FnDeltaBoth.J12 k c bk d (deltaDo bk d).1 (deltaDo bk d).2 = some true := by
  have mk := smB_S (hK.up (show 51 ≤ 60 by omega))
  have md := smD_S (hD.up (show 51 ≤ 60 by omega))
  have hX := deltaDo_S hK hD (by omega)
  have hY : bookS 51 (((deltaDo bk d).1.1, []) : Book) := ⟨hX.1, by simp, fun e he => by simp at he⟩
  have mX := smB_S (hX.up (show 51 ≤ 60 by omega))
  have mY := smB_S (hY.up (show 51 ≤ 60 by omega))
  have mE := smD_S ((deltaOf_S hX hY).up (show 51 ≤ 60 by omega))
  refine Al.succ ((((impl_DeltaOf_al (deltaDo bk d).1 ((deltaDo bk d).1.1, []) mX mY).and (impl_DeltaDo_al (deltaDo bk d).1 (deltaOf (deltaDo bk d).1 ((deltaDo bk d).1.1, [])) mX mE)).and ((impl_DeltaBoth_al d (deltaOf (deltaDo bk d).1 ((deltaDo bk d).1.1, [])) md mE).and (both_J15 mc hK hD hc))).mono fun k ⟨⟨b1, b2⟩, b3, b4⟩ => ?_)
  simp only [laws_FnDeltaBoth.J12_eq, b1, b2, b3, Option.bind_some, b4]
theorem FnDeltaBoth_pure (s t : List Int) (hs : goodT (.row (.int .u8)) s) (ht : goodT (.row (.int .u8)) t) : ∃ k, laws_FnDeltaBoth.f k s t = some true := by
  by_cases hl : (s.length : Int) > 1048576
  · exact ⟨0, by rw [laws_FnDeltaBoth.f_eq, decide_eq_true hl, ifb_t]⟩
  by_cases hl2 : (t.length : Int) > 1048576
  · exact ⟨0, by rw [laws_FnDeltaBoth.f_eq, decide_eq_false hl, ifb_f, decide_eq_true hl2, ifb_t]⟩
  obtain ⟨a, b, e0, hA, hB⟩ := drawDeltaBoth_al s fun b hb => u8_of (hs.2 b hb)
  obtain ⟨bk, d, e1, hK, hD⟩ := drawDeltaDo_al t fun b hb => u8_of (ht.2 b hb)
  have ma := smD_S (hA.up (show 51 ≤ 60 by omega))
  have mb := smD_S (hB.up (show 51 ≤ 60 by omega))
  have mk := smB_S (hK.up (show 51 ≤ 60 by omega))
  have md := smD_S (hD.up (show 51 ≤ 60 by omega))
  have mc := bothD_sm ma mb
  have J5 : Al fun k => laws_FnDeltaBoth.J5 k t a b (bothD a b).1 (bothD a b).2 = some true := by
    have f1 := (spec_DeltaBoth_al a b ma mb).and (mdDelta_refl (bothD a b).1 mc)
    cases h1 : (bothD a b).2 with
    | false => exact Al.succ (f1.mono fun k ⟨a3, a4⟩ => by simp only [laws_FnDeltaBoth.J5_eq, a3, a4, h1, Option.bind_some, beq_self_eq_true, Bool.not_true, Bool.not_false, ifb_t, ifb_f])
    | true =>
    obtain ⟨E, _, _, okC⟩ := bothD_t h1
    have okC' : deltaB (bothD a b).1 = true := by rw [E]; exact okC
    have J8 : Al fun k => laws_FnDeltaBoth.J8 k t (bothD a b).1 = some true := by
      refine Al.succ ((((e1.and (impl_DeltaOk_al _ mc)).and ((spec_BookOk_al bk mk).and (spec_DeltaOk_al d md))).and ((impl_DeltaDo_al bk d mk md).and (both_J12 mc hK hD okC'))).mono fun k ⟨⟨⟨b0, b1⟩, b2, b3⟩, b4, b5⟩ => ?_)
      rw [okC'] at b1
      simp only [laws_FnDeltaBoth.J8_eq, b0, b1, b2, b3, b4, b5, Option.bind_some]
      cases bookB bk <;> cases deltaB d <;> simp only [Bool.not_true, Bool.not_false, ifb_t, ifb_f]
    exact Al.succ ((f1.and J8).mono fun k ⟨⟨a3, a4⟩, a5⟩ => by simp only [laws_FnDeltaBoth.J5_eq, a3, a4, h1, Option.bind_some, beq_self_eq_true, Bool.not_true, ifb_f, a5])
  refine (((e0.and (impl_DeltaBoth_al a b ma mb)).and J5).mono fun k ⟨⟨a0, a1⟩, a2⟩ => ?_).get
  simp only [laws_FnDeltaBoth.f_eq, decide_eq_false hl, decide_eq_false hl2, ifb_f, a0, a1, Option.bind_some, a2]
end Go.Proofs.YtabindnaedchgaaGreat.Rf
end

section
/- 'FnDeltaBoth': for every input it returns true and its arguments read as before. Conditions: those of the given row alone. -/
namespace Go.Proofs.YtabindnaedchgaaGreat.fnDeltaBoth
open Go.ChangeShapes Go.WideShapes Go.ChangeAt Go.RowKit
open Go.Proofs.YtabindnaedchgaaGreat.Rf
set_option linter.unusedVariables false
theorem own : ownKnob Tryz.prog.godebug = none := by kernel_rfl
theorem laidOut : laidOutB Tryz.prog = true := by kernel_rfl
set_option maxRecDepth 100000 in
theorem lifted (os : Os) (started : os.Started) (H : Type) (enc : TypeId × Value → H) :
    ReturnsInHanded {} Tryz.checked os 4 .any (Rows.fnDeltaBothSpec.pre6 enc Tryz.prog Tryz.f4 Rows.fnDeltaBothRow.domain false) (Rows.fnDeltaBothSpec.post enc Tryz.prog Tryz.f4 false true false false) := by
  refine returnsInHanded_of_change_sized (C := Tryz.checked) own started (by kernel_rfl) Tryz.func4
    (ChangeSpec.witness6 (enc := enc) (C := Tryz.checked) false ⟨#[], #[.slice none 0 0, .slice none 0 0], []⟩ 8 (by kernel_rfl) (by kernel_rfl) (by kernel_rfl) (by kernel_rfl)) ?_
  intro W base args ds gs before hval0 hW hcnd hsz0 _
  have hval : ∀ (j : Nat) t v, Tryz.f4.params[j]? = some t → args[j]? = some v → Value.okWide Tryz.prog W .any base t v := hval0
  have hW' := hW
  obtain ⟨p, q, hA0, hV, rfl, hfz, hnd⟩ := hW
  have hA : DataW.TrodAll enc Tryz.prog W 0 (fun _ => true) true Tryz.f4.params.toList args.toList ds p := hA0
  rw [Tryz.params4] at hA hval
  obtain ⟨v0, vs0, d0, ds0, p0, q0, hargs, rfl, rfl, h0, r0⟩ := trodAll_cons hA
  obtain ⟨v1, vs1, d1, ds1, p1, q1, rfl, rfl, rfl, h1, r1⟩ := trodAll_cons r0
  obtain ⟨rfl, rfl, rfl⟩ := trodAll_nil r1
  obtain rfl : args = #[v0, v1] := by cases args; simp_all
  have lt0 : ∀ x ∈ p0, x.block < W.heap.size := by obtain ⟨m, hm⟩ := h0; exact DataW.trod_lt m _ _ _ hm
  obtain ⟨x0, o0, G0⟩ := open_arg (τ := t22) (show tokB Tryz.prog t22 (.inl 22) = true by kernel_rfl) (hval 0 22 v0 rfl rfl) h0
  have lt1 : ∀ x ∈ p1, x.block < W.heap.size := by obtain ⟨m, hm⟩ := h1; exact DataW.trod_lt m _ _ _ hm
  obtain ⟨x1, o1, G1⟩ := open_arg (τ := t22) (show tokB Tryz.prog t22 (.inl 22) = true by kernel_rfl) (hval 1 22 v1 rfl rfl) h1
  obtain ⟨rfl, rfl⟩ := trodVars_none hV
  clear hA0 hval0 hsz0
  obtain ⟨k, hk⟩ := FnDeltaBoth_pure x0 x1 G0 G1
  refine (row_of (laws_FnDeltaBoth.snd k) rfl (x := (x0, x1)) (r := true) hk rfl (Nat.zero_le _) trivial rfl ?_).mono fun e W' ⟨he, bel⟩ => ?_
  · intro i p s hp hs
    match i, hp, hs with
    | 0, _, hs => obtain rfl := Option.some.inj (show some (⟨t22, x0⟩ : Sv) = some s from hs); exact o0
    | 1, _, hs => obtain rfl := Option.some.inj (show some (⟨t22, x1⟩ : Sv) = some s from hs); exact o1
    | i + 2, hp, _ => simp at hp
  subst he
  exact ⟨_, rfl, _, _, _, [], _, [], hW', trodAll_mk1 (shut_bool Tryz.underlying4 _), (trodAll_cons_mk (Below.trod laidOut (by kernel_rfl) (of_decide_eq_true (by kernel_rfl)) h0 bel lt0) (trodAll_cons_mk (Below.trod laidOut (by kernel_rfl) (of_decide_eq_true (by kernel_rfl)) h1 bel lt1) trodAll_mk0)), rfl, bel.frame _, fun h => by cases h⟩
theorem over : Rows.fnDeltaBothRow.holds Tryz.pinned (OpenSpec.ofChange Rows.fnDeltaBothSpec) :=
  OpenClaim.holds_of_wide 4 Tryz.f4 rfl rfl rfl rfl rfl rfl rfl ⟨rfl, rfl, rfl, rfl, rfl⟩ rfl rfl rfl rfl rfl (by kernel_rfl) Tryz.func4 (by kernel_rfl)
    (of_decide_eq_true (by kernel_rfl)) (by unfold Func.isWrapper; first | (rw [if_pos (by decide +kernel)]; kernel_rfl) | (rw [if_neg (by decide +kernel)]; exact ⟨rfl, rfl⟩))
    (fun os started H enc _ => lifted os started H enc)
theorem proved : Rows.FnDeltaBothSaid := over
end Go.Proofs.YtabindnaedchgaaGreat.fnDeltaBoth
namespace Go.Proofs.YtabindnaedchgaaGreat
/-- The statement. -/
theorem fnDeltaBoth_holds : Rows.FnDeltaBothSaid := fnDeltaBoth.proved
end Go.Proofs.YtabindnaedchgaaGreat
end
