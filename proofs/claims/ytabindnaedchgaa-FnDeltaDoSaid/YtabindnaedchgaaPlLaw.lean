/- The helpers of the laws: sizes, copies, equality, marks. -/
import Derived.Test.YtabindnaedchgaaPlM
import Derived.Test.YtabindnaedchgaaRtA
import Derived.Test.YtabindnaedchgaaRf27
namespace Go.Proofs.Ytabindnaedchgaa.Rf
open Go Go.RowKit
set_option linter.unusedVariables false
set_option linter.unusedSimpArgs false
/-! ### Sizes -/
def subZ (l : Int) (n : Nat) : Int := if (n : Int) ≤ l then l - n else -1
theorem subZ_neg (l : Int) (n : Nat) (h : 0 ≤ l) : decide (subZ l n < 0) = decide (l < n) := by
  unfold subZ
  by_cases h1 : (n : Int) ≤ l
  · rw [if_pos h1, decide_eq_false (by omega), decide_eq_false (by omega)]
  · rw [if_neg h1, decide_eq_true (by omega), decide_eq_true (by omega)]
theorem subZ_add (l : Int) (n m : Nat) (h : (n : Int) ≤ l) : subZ (subZ l n) m = subZ l (n + m) := by
  unfold subZ
  rw [if_pos h]
  by_cases h1 : (m : Int) ≤ l - n
  · rw [if_pos h1, if_pos (by omega)]; omega
  · rw [if_neg h1, if_neg (by omega)]
theorem subZ_bad (l : Int) (n m : Nat) (h : l < n) : subZ l (n + m) = -1 := if_neg (by omega)
/-- one step of a size -/
theorem sub_step (l : Int) (n : Nat) (h0 : 0 ≤ l) (h1 : l ≤ 1048576) (hn : n ≤ 9223372036854775807) : w64 (l - (n : Int)) = l - n ∧ decide (l - (n : Int) < 0) = decide (l < n) :=
  ⟨w_id (by omega) (by omega), by by_cases h : l < n
                                  · rw [decide_eq_true h, decide_eq_true (by omega)]
                                  · rw [decide_eq_false h, decide_eq_false (by omega)]⟩
def sumS {α : Type} (f : α → Nat) : List α → Nat
  | [] => 0
  | x :: l => f x + sumS f l
theorem sumS_mem {α : Type} (f : α → Nat) : ∀ {l : List α} {x : α}, x ∈ l → f x ≤ sumS f l
  | y :: l, x, h => by
    rcases List.mem_cons.1 h with rfl | h
    · exact Nat.le_add_right _ _
    · exact Nat.le_trans (sumS_mem f h) (Nat.le_add_left _ _)
def szA (a : Aff) : Nat := a.1.size + (a.2.2.1.size + (a.2.2.2.1.size + a.2.2.2.2.size))
def szE (e : En) : Nat := e.1.size + e.2.size
def szAs (l : List Aff) : Nat := l.length + sumS szA l
def szEs (l : List En) : Nat := l.length + sumS szE l
def szSs (l : List ByteArray) : Nat := l.length + sumS (fun s => s.size) l
def szBk (b : Book) : Nat := szAs b.1 + szEs b.2
def szDl (d : Delta) : Nat := szSs d.1 + (szEs d.2.1 + szAs d.2.2.2)
abbrev Big (n : Nat) : Prop := n ≤ 9223372036854775807
def bgA (a : Aff) : Prop := Big a.1.size ∧ Big a.2.2.1.size ∧ Big a.2.2.2.1.size ∧ Big a.2.2.2.2.size
def bgE (e : En) : Prop := Big e.1.size ∧ Big e.2.size
theorem szAffix_eq (k : Nat) (a : Aff) (l : Int) (h0 : 0 ≤ l) (h1 : l ≤ 1048576) (hb : bgA a) : laws_szAffix.f k a l = some (subZ l (szA a)) := by
  obtain ⟨b1, b2, b3, b4⟩ := hb
  obtain ⟨e1, f1⟩ := sub_step l a.1.size h0 h1 b1
  rw [laws_szAffix.f_eq]
  simp only [e1, f1]
  by_cases g1 : l < a.1.size
  · rw [decide_eq_true g1, ifb_t, szA, subZ_bad _ _ _ g1]
  · rw [decide_eq_false g1, ifb_f]
    obtain ⟨e2, f2⟩ := sub_step (l - a.1.size) a.2.2.1.size (by omega) (by omega) b2
    simp only [e2, f2]
    by_cases g2 : l - (a.1.size : Int) < a.2.2.1.size
    · rw [decide_eq_true g2, ifb_t, szA, ← Nat.add_assoc, subZ_bad _ _ _ (by omega)]
    · rw [decide_eq_false g2, ifb_f]
      obtain ⟨e3, f3⟩ := sub_step (l - a.1.size - a.2.2.1.size) a.2.2.2.1.size (by omega) (by omega) b3
      simp only [e3, f3]
      by_cases g3 : l - (a.1.size : Int) - a.2.2.1.size < a.2.2.2.1.size
      · rw [decide_eq_true g3, ifb_t, szA, ← Nat.add_assoc, ← Nat.add_assoc, subZ_bad _ _ _ (by omega)]
      · rw [decide_eq_false g3, ifb_f]
        obtain ⟨e4, f4⟩ := sub_step (l - a.1.size - a.2.2.1.size - a.2.2.2.1.size) a.2.2.2.2.size (by omega) (by omega) b4
        simp only [e4, f4]
        by_cases g4 : l - (a.1.size : Int) - a.2.2.1.size - a.2.2.2.1.size < a.2.2.2.2.size
        · rw [decide_eq_true g4, ifb_t, szA, subZ, if_neg (by omega)]
        · rw [decide_eq_false g4, ifb_f, szA, subZ, if_pos (by omega)]
          congr 1
          omega
theorem szEntry_eq (k : Nat) (a : En) (l : Int) (h0 : 0 ≤ l) (h1 : l ≤ 1048576) (hb : bgE a) : laws_szEntry.f k a l = some (subZ l (szE a)) := by
  obtain ⟨b1, b2⟩ := hb
  obtain ⟨e1, f1⟩ := sub_step l a.1.size h0 h1 b1
  rw [laws_szEntry.f_eq]
  simp only [e1, f1]
  by_cases g1 : l < a.1.size
  · rw [decide_eq_true g1, ifb_t, szE, subZ_bad _ _ _ g1]
  · rw [decide_eq_false g1, ifb_f]
    obtain ⟨e2, f2⟩ := sub_step (l - a.1.size) a.2.size (by omega) (by omega) b2
    simp only [e2, f2]
    by_cases g2 : l - (a.1.size : Int) < a.2.size
    · rw [decide_eq_true g2, ifb_t, szE, subZ, if_neg (by omega)]
    · rw [decide_eq_false g2, ifb_f, szE, subZ, if_pos (by omega)]
      congr 1
      omega
theorem szAffixS_al (l : List Aff) (n : Int) (h0 : 0 ≤ n) (h1 : n ≤ 1048576) (hl : Big l.length) (hb : ∀ a ∈ l, bgA a) : Al fun k => laws_szAffixS.f k l n = some (subZ n (szAs l)) := by
  obtain ⟨e1, f1⟩ := sub_step n l.length h0 h1 hl
  by_cases g1 : n < l.length
  · refine Al.now fun k => ?_
    rw [laws_szAffixS.f_eq]
    simp only [e1, f1]
    rw [decide_eq_true g1, ifb_t, szAs, subZ_bad _ _ _ g1]
  · have key : ∀ (t : List Aff) (i : Nat) (m : Int), l.drop i = t → 0 ≤ m → m ≤ 1048576 → Al2 fun k k1 => laws_szAffixS.L5 k k1 l m (i : Int) = some (subZ m (sumS szA t)) := by
      intro t
      induction t with
      | nil =>
        intro i m hd g2 g3
        refine Al2.succ (Al2.now fun k k1 => ?_)
        simp only [laws_szAffixS.L5_eq, at_end (drop_nil hd), ifb_f, sumS]
        rw [subZ, if_pos (by omega)]
        congr 1
        omega
      | cons x t ih =>
        intro i m hd g2 g3
        obtain ⟨hi, d1, d2⟩ := drop_cons zA hd
        obtain ⟨c1, c2, c3, c4⟩ := at_i hi (by omega)
        have hx : bgA x := hb x (by rw [← d1, List.getD_eq_getElem?_getD, List.getElem?_eq_getElem hi]; exact List.getElem_mem hi)
        by_cases g4 : m < szA x
        · refine Al2.succ (Al2.now fun k k1 => ?_)
          simp only [laws_szAffixS.L5_eq, c1, c2, c3, w64, c4, d1, Bool.and_self, ifb_t, szAffix_eq _ _ _ g2 g3 hx, Option.bind_some, subZ_neg _ _ g2]
          rw [decide_eq_true g4, ifb_t, sumS, subZ_bad _ _ _ g4]
        · have e2 : subZ m (szA x) = m - szA x := if_pos (by omega)
          refine Al2.succ ((ih (i + 1) (m - szA x) d2 (by omega) (by omega)).mono fun k k1 e => ?_)
          simp only [laws_szAffixS.L5_eq, c1, c2, c3, w64, c4, d1, Bool.and_self, ifb_t, szAffix_eq _ _ _ g2 g3 hx, Option.bind_some, subZ_neg _ _ g2]
          rw [decide_eq_false g4, ifb_f, e2, e, ← e2, subZ_add _ _ _ (by omega), sumS]
    refine (key l 0 (n - l.length) rfl (by omega) (by omega)).diag.mono fun k e => ?_
    rw [laws_szAffixS.f_eq]
    simp only [e1, f1]
    rw [decide_eq_false g1, ifb_f, show (0 : Int) = ((0 : Nat) : Int) from rfl, e, show n - (l.length : Int) = subZ n l.length from (if_pos (by omega)).symm, subZ_add _ _ _ (by omega), szAs]
theorem szEntryS_al (l : List En) (n : Int) (h0 : 0 ≤ n) (h1 : n ≤ 1048576) (hl : Big l.length) (hb : ∀ a ∈ l, bgE a) : Al fun k => laws_szEntryS.f k l n = some (subZ n (szEs l)) := by
  obtain ⟨e1, f1⟩ := sub_step n l.length h0 h1 hl
  by_cases g1 : n < l.length
  · refine Al.now fun k => ?_
    rw [laws_szEntryS.f_eq]
    simp only [e1, f1]
    rw [decide_eq_true g1, ifb_t, szEs, subZ_bad _ _ _ g1]
  · have key : ∀ (t : List En) (i : Nat) (m : Int), l.drop i = t → 0 ≤ m → m ≤ 1048576 → Al2 fun k k1 => laws_szEntryS.L5 k k1 l m (i : Int) = some (subZ m (sumS szE t)) := by
      intro t
      induction t with
      | nil =>
        intro i m hd g2 g3
        refine Al2.succ (Al2.now fun k k1 => ?_)
        simp only [laws_szEntryS.L5_eq, at_end (drop_nil hd), ifb_f, sumS]
        rw [subZ, if_pos (by omega)]
        congr 1
        omega
      | cons x t ih =>
        intro i m hd g2 g3
        obtain ⟨hi, d1, d2⟩ := drop_cons zE hd
        obtain ⟨c1, c2, c3, c4⟩ := at_i hi (by omega)
        have hx : bgE x := hb x (by rw [← d1, List.getD_eq_getElem?_getD, List.getElem?_eq_getElem hi]; exact List.getElem_mem hi)
        by_cases g4 : m < szE x
        · refine Al2.succ (Al2.now fun k k1 => ?_)
          simp only [laws_szEntryS.L5_eq, c1, c2, c3, w64, c4, d1, Bool.and_self, ifb_t, szEntry_eq _ _ _ g2 g3 hx, Option.bind_some, subZ_neg _ _ g2]
          rw [decide_eq_true g4, ifb_t, sumS, subZ_bad _ _ _ g4]
        · have e2 : subZ m (szE x) = m - szE x := if_pos (by omega)
          refine Al2.succ ((ih (i + 1) (m - szE x) d2 (by omega) (by omega)).mono fun k k1 e => ?_)
          simp only [laws_szEntryS.L5_eq, c1, c2, c3, w64, c4, d1, Bool.and_self, ifb_t, szEntry_eq _ _ _ g2 g3 hx, Option.bind_some, subZ_neg _ _ g2]
          rw [decide_eq_false g4, ifb_f, e2, e, ← e2, subZ_add _ _ _ (by omega), sumS]
    refine (key l 0 (n - l.length) rfl (by omega) (by omega)).diag.mono fun k e => ?_
    rw [laws_szEntryS.f_eq]
    simp only [e1, f1]
    rw [decide_eq_false g1, ifb_f, show (0 : Int) = ((0 : Nat) : Int) from rfl, e, show n - (l.length : Int) = subZ n l.length from (if_pos (by omega)).symm, subZ_add _ _ _ (by omega), szEs]
theorem szStringS_al (l : List ByteArray) (n : Int) (h0 : 0 ≤ n) (h1 : n ≤ 1048576) (hl : Big l.length) (hb : ∀ a ∈ l, Big a.size) : Al fun k => laws_szStringS.f k l n = some (subZ n (szSs l)) := by
  obtain ⟨e1, f1⟩ := sub_step n l.length h0 h1 hl
  by_cases g1 : n < l.length
  · refine Al.now fun k => ?_
    rw [laws_szStringS.f_eq]
    simp only [e1, f1]
    rw [decide_eq_true g1, ifb_t, szSs, subZ_bad _ _ _ g1]
  · have key : ∀ (t : List ByteArray) (i : Nat) (m : Int), l.drop i = t → 0 ≤ m → m ≤ 1048576 → Al2 fun k k1 => laws_szStringS.L5 k k1 l m (i : Int) = some (subZ m (sumS (fun s => s.size) t)) := by
      intro t
      induction t with
      | nil =>
        intro i m hd g2 g3
        refine Al2.succ (Al2.now fun k k1 => ?_)
        simp only [laws_szStringS.L5_eq, at_end (drop_nil hd), ifb_f, sumS]
        rw [subZ, if_pos (by omega)]
        congr 1
        omega
      | cons x t ih =>
        intro i m hd g2 g3
        obtain ⟨hi, d1, d2⟩ := drop_cons bz hd
        obtain ⟨c1, c2, c3, c4⟩ := at_i hi (by omega)
        have hx : Big x.size := hb x (by rw [← d1, List.getD_eq_getElem?_getD, List.getElem?_eq_getElem hi]; exact List.getElem_mem hi)
        obtain ⟨e4, f4⟩ := sub_step m x.size g2 g3 hx
        by_cases g4 : m < x.size
        · refine Al2.succ (Al2.now fun k k1 => ?_)
          simp only [laws_szStringS.L5_eq, c1, c2, c3, d1, Bool.and_self, ifb_t, e4, f4]
          rw [decide_eq_true g4, ifb_t, sumS, subZ_bad _ _ _ g4]
        · refine Al2.succ ((ih (i + 1) (m - x.size) d2 (by omega) (by omega)).mono fun k k1 e => ?_)
          simp only [laws_szStringS.L5_eq, c1, c2, c3, d1, Bool.and_self, ifb_t, e4, f4]
          simp only [w64, c4]
          rw [decide_eq_false g4, ifb_f, e, show m - (x.size : Int) = subZ m x.size from (if_pos (by omega)).symm, subZ_add _ _ _ (by omega), sumS]
    refine (key l 0 (n - l.length) rfl (by omega) (by omega)).diag.mono fun k e => ?_
    rw [laws_szStringS.f_eq]
    simp only [e1, f1]
    rw [decide_eq_false g1, ifb_f, show (0 : Int) = ((0 : Nat) : Int) from rfl, e, show n - (l.length : Int) = subZ n l.length from (if_pos (by omega)).symm, subZ_add _ _ _ (by omega), szSs]
def bgB (b : Book) : Prop := (Big b.1.length ∧ ∀ a ∈ b.1, bgA a) ∧ Big b.2.length ∧ ∀ e ∈ b.2, bgE e
def bgD (d : Delta) : Prop := (Big d.1.length ∧ ∀ s ∈ d.1, Big s.size) ∧ (Big d.2.1.length ∧ ∀ e ∈ d.2.1, bgE e) ∧ Big d.2.2.2.length ∧ ∀ a ∈ d.2.2.2, bgA a
theorem szBook_al (b : Book) (n : Int) (h0 : 0 ≤ n) (h1 : n ≤ 1048576) (hb : bgB b) : Al fun k => laws_szBook.f k b n = some (subZ n (szBk b)) := by
  by_cases g : n < szAs b.1
  · refine (szAffixS_al b.1 n h0 h1 hb.1.1 hb.1.2).mono fun k e => ?_
    simp only [laws_szBook.f_eq, e, Option.bind_some, subZ_neg _ _ h0]
    rw [decide_eq_true g, ifb_t, szBk, subZ_bad _ _ _ g]
  · have e1 : subZ n (szAs b.1) = n - szAs b.1 := if_pos (by omega)
    refine ((szAffixS_al b.1 n h0 h1 hb.1.1 hb.1.2).and (szEntryS_al b.2 (n - szAs b.1) (by omega) (by omega) hb.2.1 hb.2.2)).mono fun k ⟨e, e2⟩ => ?_
    simp only [laws_szBook.f_eq, e, Option.bind_some, subZ_neg _ _ h0]
    rw [decide_eq_false g, ifb_f, e1, e2, Option.bind_some, ← e1, subZ_add _ _ _ (by omega), szBk]
    by_cases g2 : subZ n (szAs b.1 + szEs b.2) < 0
    · rw [decide_eq_true g2, ifb_t]
      have : subZ n (szAs b.1 + szEs b.2) = -1 := by unfold subZ at *; split at g2 <;> split <;> omega
      rw [this]
    · rw [decide_eq_false g2, ifb_f]
theorem szDelta_al (d : Delta) (n : Int) (h0 : 0 ≤ n) (h1 : n ≤ 1048576) (hd : bgD d) : Al fun k => laws_szDelta.f k d n = some (subZ n (szDl d)) := by
  have s1 := szStringS_al d.1 n h0 h1 hd.1.1 hd.1.2
  by_cases g : n < szSs d.1
  · refine s1.mono fun k e => ?_
    simp only [laws_szDelta.f_eq, e, Option.bind_some, subZ_neg _ _ h0]
    rw [decide_eq_true g, ifb_t, szDl, subZ_bad _ _ _ g]
  · have e1 : subZ n (szSs d.1) = n - szSs d.1 := if_pos (by omega)
    have s2 := szEntryS_al d.2.1 (n - szSs d.1) (by omega) (by omega) hd.2.1.1 hd.2.1.2
    by_cases g' : n - szSs d.1 < szEs d.2.1
    · refine (s1.and s2).mono fun k ⟨e, e2⟩ => ?_
      simp only [laws_szDelta.f_eq, e, Option.bind_some, subZ_neg _ _ h0]
      rw [decide_eq_false g, ifb_f, e1, e2, Option.bind_some, subZ_neg _ _ (by omega), decide_eq_true g', ifb_t, szDl, ← Nat.add_assoc, subZ_bad _ _ _ (by omega)]
    · have e1' : subZ (n - szSs d.1) (szEs d.2.1) = n - szSs d.1 - szEs d.2.1 := if_pos (by omega)
      have s3 := szAffixS_al d.2.2.2 (n - szSs d.1 - szEs d.2.1) (by omega) (by omega) hd.2.2.1 hd.2.2.2
      refine ((s1.and s2).and s3).mono fun k ⟨⟨e, e2⟩, e3⟩ => ?_
      simp only [laws_szDelta.f_eq, e, Option.bind_some, subZ_neg _ _ h0]
      rw [decide_eq_false g, ifb_f, e1, e2, Option.bind_some, subZ_neg _ _ (by omega), decide_eq_false g', ifb_f, e1', e3, Option.bind_some, ← e1', subZ_add _ _ _ (by omega), ← e1, subZ_add _ _ _ (by omega), szDl]
      by_cases g2 : subZ n (szSs d.1 + (szEs d.2.1 + szAs d.2.2.2)) < 0
      · rw [decide_eq_true g2, ifb_t]
        have : subZ n (szSs d.1 + (szEs d.2.1 + szAs d.2.2.2)) = -1 := by unfold subZ at *; split at g2 <;> split <;> omega
        rw [this]
      · rw [decide_eq_false g2, ifb_f]
theorem smA_of {a : Aff} {n : Nat} (h : szA a ≤ n) (hn : n ≤ 4611686018427387904) : smA a := by
  unfold szA at h; unfold smA Sm; omega
theorem smE_of {a : En} {n : Nat} (h : szE a ≤ n) (hn : n ≤ 4611686018427387904) : smE a := by
  unfold szE at h; unfold smE Sm; omega
theorem smB_of {b : Book} (h : szBk b ≤ 1048576) : smB b := by
  unfold szBk szAs szEs at h
  exact ⟨⟨by omega, fun a ha => smA_of (sumS_mem szA ha) (by omega)⟩, by omega, fun e he => smE_of (sumS_mem szE he) (by omega)⟩
theorem smD_of {d : Delta} (h : szDl d ≤ 1048576) : smD d := by
  unfold szDl szAs szEs szSs at h
  exact ⟨⟨by omega, fun s hs => by have := sumS_mem (fun s : ByteArray => s.size) hs; unfold Sm; omega⟩, ⟨by omega, fun e he => smE_of (sumS_mem szE he) (by omega)⟩, by omega, fun a ha => smA_of (sumS_mem szA ha) (by omega)⟩
end Go.Proofs.Ytabindnaedchgaa.Rf
