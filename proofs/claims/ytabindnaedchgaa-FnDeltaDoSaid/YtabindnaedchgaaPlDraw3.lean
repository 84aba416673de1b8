/- Draws: books and deltas of any kind. -/
import Derived.Test.YtabindnaedchgaaPlDraw2
import Derived.Test.YtabindnaedchgaaPlOf
namespace Go.Proofs.Ytabindnaedchgaa.Rf
open Go Go.RowKit
set_option linter.unusedVariables false
set_option linter.unusedSimpArgs false
theorem bq_t {v c : Int} (h : v = c) : (v == c) = true := by simp [h]
theorem bq_f {v c : Int} (h : ¬ v = c) : (v == c) = false := by simp [h]
theorem anyAffix_dr {m : Int} {x : Rdr} (h : Rd m x) (hm : m ≤ 800000000) : Dr (fun k => spec_l13AnyAffix.f k x) (m + 3) affS := by
  refine Dr.congr (fun k => spec_l13AnyAffix.f_eq k x) (Dr.bind (affix_dr h (by omega)) fun a y ha hy => ?_)
  refine Dr.bind (pick_dr hy (by omega) 12 (by omega) (by omega)) fun v z hv hz => ?_
  by_cases c0 : v = 0
  · simp only [bq_t c0, ifb_t]
    refine Dr.bind (of_dr hz (by omega) _ (by simp) (by simp)) fun s u hs hu => ?_
    have h8 : s.size ≤ 8 := by
      simp only [List.mem_cons, List.not_mem_nil, or_false] at hs
      rcases hs with rfl | rfl | rfl | rfl <;> decide
    exact Dr.now (v := (s, a.2)) (x := u) (fun k => rfl) ⟨h8, ha.2⟩ (hu.up (by omega))
  simp only [bq_f c0, ifb_f]
  by_cases c1 : v = 1
  · simp only [bq_t c1, ifb_t]
    refine Dr.bind (of_dr hz (by omega) _ (by simp) (by simp)) fun s u hs hu => ?_
    have h8 : s.size ≤ 8 := by
      simp only [List.mem_cons, List.not_mem_nil, or_false] at hs
      rcases hs with rfl | rfl | rfl | rfl <;> decide
    exact Dr.now (v := (a.1, a.2.1, s, a.2.2.2)) (x := u) (fun k => rfl) ⟨ha.1, h8, ha.2.2⟩ (hu.up (by omega))
  simp only [bq_f c1, ifb_f]
  by_cases c2 : v = 2
  · simp only [bq_t c2, ifb_t]
    refine Dr.bind (of_dr hz (by omega) _ (by simp) (by simp)) fun s u hs hu => ?_
    have h8 : s.size ≤ 8 := by
      simp only [List.mem_cons, List.not_mem_nil, or_false] at hs
      rcases hs with rfl | rfl | rfl | rfl <;> decide
    exact Dr.now (v := (a.1, a.2.1, a.2.2.1, a.2.2.2.1, s)) (x := u) (fun k => rfl) ⟨ha.1, ha.2.1, ha.2.2.1, h8⟩ (hu.up (by omega))
  simp only [bq_f c2, ifb_f]
  by_cases c3 : v = 3
  · simp only [bq_t c3, ifb_t]
    exact Dr.now (v := (a.1, !a.2.1, a.2.2)) (x := z) (fun k => rfl) ha (hz.up (by omega))
  simp only [bq_f c3, ifb_f]
  exact Dr.now (v := a) (x := z) (fun k => rfl) ha (hz.up (by omega))
theorem mem_snoc {α : Type} {P : α → Prop} {l : List α} {a : α} (h : ∀ x ∈ l, P x) (ha : P a) : ∀ x ∈ l ++ [a], P x := fun x hx => (List.mem_append.1 hx).elim (h x) fun e => by rw [List.mem_singleton.1 e]; exact ha
theorem anyBook_dr {m : Int} {x : Rdr} (h : Rd m x) (hm : m ≤ 300000000) : Dr (fun k => spec_l13AnyBook.f k x) (m + 300) (bookS 51) := by
  refine Dr.congr (fun k => spec_l13AnyBook.f_eq k x) (Dr.bind (book_dr h (by omega)) fun b y hb hy => ?_)
  have hb1 : bookS 51 b := ⟨⟨Nat.le_trans hb.1.1 (by omega), hb.1.2⟩, Nat.le_trans hb.2.1 (by omega), hb.2.2⟩
  have l1 := hb.1.1
  have l2 := hb.2.1
  refine Dr.bind (pick_dr hy (by omega) 16 (by omega) (by omega)) fun v z hv hz => ?_
  by_cases c0 : v = 0
  · simp only [bq_t c0, ifb_t]
    refine Dr.bind (anyAffix_dr hz (by omega)) fun a u ha hu => ?_
    have m1 : decide ((b.1.length + [a].length) * 72 ≤ rowMax) = true := decide_eq_true (by simp [rowMax]; omega)
    simp only [m1, ifb_t]
    exact Dr.now (v := (b.1 ++ [a], b.2)) (x := u) (fun k => rfl) ⟨⟨by simp; omega, mem_snoc hb.1.2 ha⟩, hb1.2⟩ (hu.up (by omega))
  simp only [bq_f c0, ifb_f]
  by_cases c1 : v = 1
  · simp only [bq_t c1, ifb_t]
    refine Dr.bind (anyWord_dr hz (by omega)) fun s u hs hu => ?_
    refine Dr.bind (of_dr hu (by omega) _ (by simp) (by simp)) fun f w hf hw => ?_
    have h16 : f.size ≤ 16 := by
      simp only [List.mem_cons, List.not_mem_nil, or_false] at hf
      rcases hf with rfl | rfl | rfl | rfl <;> decide
    have m1 : decide ((b.2.length + [(s, f)].length) * 32 ≤ rowMax) = true := decide_eq_true (by simp [rowMax]; omega)
    simp only [m1, ifb_t]
    exact Dr.now (v := (b.1, b.2 ++ [(s, f)])) (x := w) (fun k => rfl) ⟨hb1.1, by simp; omega, mem_snoc hb.2.2 ⟨Nat.le_trans hs (by omega), h16⟩⟩ (hw.up (by omega))
  simp only [bq_f c1, ifb_f]
  by_cases c2 : v = 2
  · simp only [bq_t c2, ifb_t]
    by_cases hl : (b.2.length : Int) > 0
    · simp only [decide_eq_true hl, ifb_t]
      refine Dr.bind (of_dr hz (by omega) _ (by simp) (by simp)) fun s u hs hu => ?_
      have h16 : s.size ≤ 16 := by
        simp only [List.mem_cons, List.not_mem_nil, or_false] at hs
        rcases hs with rfl | rfl | rfl <;> decide
      have hl0 : 0 < b.2.length := by omega
      simp only [decide_eq_true (Int.le_refl 0), decide_eq_true (show (0 : Int) < (b.2.length : Int) from hl), Bool.and_self, ifb_t]
      refine Dr.now (v := (b.1, b.2.set ((0 : Int).toNat) (s, (b.2.getD ((0 : Int).toNat) zE).2))) (x := u) (fun k => rfl) ⟨hb1.1, by rw [List.length_set]; exact hb1.2.1, fun e he => ?_⟩ (hu.up (by omega))
      rcases List.mem_or_eq_of_mem_set he with he | rfl
      · exact hb.2.2 e he
      · refine ⟨h16, ?_⟩
        show (b.2.getD 0 zE).2.size ≤ 16
        rw [List.getD_eq_getElem?_getD, List.getElem?_eq_getElem hl0]
        exact (hb.2.2 _ (List.getElem_mem hl0)).2
    · simp only [decide_eq_false hl, ifb_f]
      exact Dr.now (v := b) (x := z) (fun k => rfl) hb1 (hz.up (by omega))
  simp only [bq_f c2, ifb_f]
  exact Dr.now (v := b) (x := z) (fun k => rfl) hb1 (hz.up (by omega))
def wordsS (n : Nat) (l : List ByteArray) : Prop := l.length ≤ n ∧ ∀ s ∈ l, s.size ≤ 16
def deltaS (n : Nat) (d : Delta) : Prop := wordsS n d.1 ∧ entsS n d.2.1 ∧ affsS n d.2.2.2
theorem smB_S {b : Book} (h : bookS 60 b) : smB b := by
  have l1 := h.1.1
  have l2 := h.2.1
  refine ⟨⟨by omega, fun a ha => ?_⟩, by omega, fun e he => ?_⟩
  · have := h.1.2 a ha; unfold affS at this; unfold smA Sm; omega
  · have := h.2.2 e he; unfold entS at this; unfold smE Sm; omega
theorem smD_S {d : Delta} (h : deltaS 60 d) : smD d := by
  have l1 := h.1.1
  have l2 := h.2.1.1
  have l3 := h.2.2.1
  refine ⟨⟨by omega, fun s hs => ?_⟩, ⟨by omega, fun e he => ?_⟩, by omega, fun a ha => ?_⟩
  · have := h.1.2 s hs; unfold Sm; omega
  · have := h.2.1.2 e he; unfold entS at this; unfold smE Sm; omega
  · have := h.2.2.2 a ha; unfold affS at this; unfold smA Sm; omega
theorem bookS.up {n m : Nat} {b : Book} (h : bookS n b) (k : n ≤ m) : bookS m b := ⟨⟨Nat.le_trans h.1.1 k, h.1.2⟩, Nat.le_trans h.2.1 k, h.2.2⟩
theorem deltaS.up {n m : Nat} {d : Delta} (h : deltaS n d) (k : n ≤ m) : deltaS m d := ⟨⟨Nat.le_trans h.1.1 k, h.1.2⟩, ⟨Nat.le_trans h.2.1.1 k, h.2.1.2⟩, Nat.le_trans h.2.2.1 k, h.2.2.2⟩
theorem deltaOf_S {n : Nat} {a b : Book} (ha : bookS n a) (hb : bookS n b) : deltaS n (deltaOf a b) := by
  unfold deltaOf
  split
  · refine ⟨⟨?_, fun s hs => ?_⟩, ⟨?_, fun e he => ?_⟩, ?_⟩
    · simp only [goesOf, List.length_map]
      exact Nat.le_trans (List.length_filter_le _ _) ha.2.1
    · simp only [goesOf, List.mem_map] at hs
      obtain ⟨e, he, rfl⟩ := hs
      exact (ha.2.2 e (List.mem_filter.1 he).1).1
    · exact Nat.le_trans (List.length_filter_le _ _) hb.2.1
    · exact hb.2.2 e (List.mem_filter.1 he).1
    · show affsS n (if a.1 = b.1 then [] else b.1)
      split
      · exact ⟨by simp, fun a ha => by simp at ha⟩
      · exact hb.1
  · exact ⟨⟨by simp, fun s hs => by simp at hs⟩, ⟨by simp, fun s hs => by simp at hs⟩, by simp [affsS]⟩
theorem delta_dr {m : Int} {x : Rdr} (h : Rd m x) (hm : m ≤ 300000000) : Dr (fun k => spec_l13Delta.f k x) (m + 500) (deltaS 50) := by
  refine Dr.congr (fun k => spec_l13Delta.f_eq k x) (Dr.bind (book_dr h (by omega)) fun a y ha hy => ?_)
  refine Dr.bind (book_dr hy (by omega)) fun b z hb hz => ?_
  refine Dr.bindv (spec_DeltaOf_al a b (smB_S (ha.up (by omega))) (smB_S (hb.up (by omega)))) ?_
  have hd := deltaOf_S ha hb
  refine Dr.bind (pick_dr hz (by omega) 3 (by omega) (by omega)) fun v u hv hu => ?_
  by_cases c0 : v = 0
  · simp only [bq_t c0, ifb_t]
    exact Dr.now (v := ([], (deltaOf a b).2)) (x := u) (fun k => rfl) ⟨⟨by simp, fun s hs => by simp at hs⟩, hd.2⟩ (hu.up (by omega))
  · simp only [bq_f c0, ifb_f]
    exact Dr.now (v := deltaOf a b) (x := u) (fun k => rfl) hd (hu.up (by omega))
theorem anyDelta_dr {m : Int} {x : Rdr} (h : Rd m x) (hm : m ≤ 200000000) : Dr (fun k => spec_l13AnyDelta.f k x) (m + 600) (deltaS 51) := by
  refine Dr.congr (fun k => spec_l13AnyDelta.f_eq k x) (Dr.bind (delta_dr h (by omega)) fun d y hd hy => ?_)
  have hd1 : deltaS 51 d := hd.up (by omega)
  have l1 := hd.1.1
  have l2 := hd.2.1.1
  have l3 := hd.2.2.1
  refine Dr.bind (pick_dr hy (by omega) 12 (by omega) (by omega)) fun v z hv hz => ?_
  by_cases c0 : v = 0
  · have m0 : decide ((([] : List ByteArray).length + d.1.length) * 16 ≤ rowMax) = true := decide_eq_true (by simp [rowMax]; omega)
    simp only [bq_t c0, ifb_t, m0]
    refine Dr.bind (anyWord_dr hz (by omega)) fun s u hs hu => ?_
    have m1 : decide ((([] ++ d.1).length + [s].length) * 16 ≤ rowMax) = true := decide_eq_true (by simp [rowMax]; omega)
    simp only [m1, ifb_t]
    exact Dr.now (v := (([] ++ d.1) ++ [s], d.2)) (x := u) (fun k => rfl) ⟨⟨by simp; omega, mem_snoc hd.1.2 (Nat.le_trans hs (by omega))⟩, hd1.2⟩ (hu.up (by omega))
  simp only [bq_f c0, ifb_f]
  by_cases c1 : v = 1
  · have m0 : decide ((([] : List En).length + d.2.1.length) * 32 ≤ rowMax) = true := decide_eq_true (by simp [rowMax]; omega)
    simp only [bq_t c1, ifb_t, m0]
    refine Dr.bind (anyWord_dr hz (by omega)) fun s u hs hu => ?_
    refine Dr.bind (entry_dr s (Nat.le_trans hs (by omega)) hu (by omega)) fun e w he hw => ?_
    have m1 : decide ((([] ++ d.2.1).length + [e].length) * 32 ≤ rowMax) = true := decide_eq_true (by simp [rowMax]; omega)
    simp only [m1, ifb_t]
    exact Dr.now (v := (d.1, ([] ++ d.2.1) ++ [e], d.2.2)) (x := w) (fun k => rfl) ⟨hd1.1, ⟨by simp; omega, mem_snoc hd.2.1.2 he⟩, hd1.2.2⟩ (hw.up (by omega))
  simp only [bq_f c1, ifb_f]
  by_cases c2 : v = 2
  · simp only [bq_t c2, ifb_t]
    exact Dr.now (v := (d.1, d.2.1, !d.2.2.1, d.2.2.2)) (x := z) (fun k => rfl) hd1 (hz.up (by omega))
  simp only [bq_f c2, ifb_f]
  by_cases c3 : v = 3
  · have m0 : decide ((([] : List Aff).length + d.2.2.2.length) * 72 ≤ rowMax) = true := decide_eq_true (by simp [rowMax]; omega)
    simp only [bq_t c3, ifb_t, m0]
    refine Dr.bind (anyAffix_dr hz (by omega)) fun a u ha hu => ?_
    have m1 : decide ((([] ++ d.2.2.2).length + [a].length) * 72 ≤ rowMax) = true := decide_eq_true (by simp [rowMax]; omega)
    simp only [m1, ifb_t]
    exact Dr.now (v := (d.1, d.2.1, d.2.2.1, ([] ++ d.2.2.2) ++ [a])) (x := u) (fun k => rfl) ⟨hd1.1, hd1.2.1, by simp; omega, mem_snoc hd.2.2.2 ha⟩ (hu.up (by omega))
  simp only [bq_f c3, ifb_f]
  exact Dr.now (v := d) (x := z) (fun k => rfl) hd1 (hz.up (by omega))
/-- the draw of a book and a delta -/
theorem drawDeltaDo_al (s : List Int) (hs : ∀ b ∈ s, 0 ≤ b ∧ b ≤ 255) : ∃ b d, Al (fun k => spec_DrawDeltaDo.f k s = some (b, d)) ∧ bookS 51 b ∧ deltaS 51 d := by
  obtain ⟨x, e0, h0⟩ := l1Open_al s hs
  obtain ⟨b, y, e1, hb, hy⟩ := anyBook_dr h0 (by omega)
  obtain ⟨v, z, e2, hv, hz⟩ := pick_dr hy (by omega) 2 (by omega) (by omega)
  by_cases c : v = 0
  · obtain ⟨b2, u, e3, hb2, hu⟩ := book_dr hz (by omega)
    have e4 := spec_DeltaOf_al b b2 (smB_S (hb.up (by omega))) (smB_S (hb2.up (by omega)))
    refine ⟨b, deltaOf b b2, (((e0.and e1).and (e2.and e3)).and e4).mono fun k ⟨⟨⟨a0, a1⟩, a2, a3⟩, a4⟩ => ?_, hb, deltaOf_S hb (hb2.up (by omega))⟩
    have a1' : spec_l13AnyBook.f k x = some (b, y) := a1
    have a2' : spec_l1Rd__pick.f k y 2 = some (v, z) := a2
    have a3' : spec_l13Book.f k z = some (b2, u) := a3
    simp only [spec_DrawDeltaDo.f_eq, a0, a1', a2', a3', a4, Option.bind_some, bq_t c, ifb_t]
  · obtain ⟨d, u, e3, hd, hu⟩ := anyDelta_dr hz (by omega)
    refine ⟨b, d, ((e0.and e1).and (e2.and e3)).mono fun k ⟨⟨a0, a1⟩, a2, a3⟩ => ?_, hb, hd⟩
    have a1' : spec_l13AnyBook.f k x = some (b, y) := a1
    have a2' : spec_l1Rd__pick.f k y 2 = some (v, z) := a2
    have a3' : spec_l13AnyDelta.f k z = some (d, u) := a3
    simp only [spec_DrawDeltaDo.f_eq, a0, a1', a2', a3', Option.bind_some, bq_f c, ifb_f]
end Go.Proofs.Ytabindnaedchgaa.Rf
