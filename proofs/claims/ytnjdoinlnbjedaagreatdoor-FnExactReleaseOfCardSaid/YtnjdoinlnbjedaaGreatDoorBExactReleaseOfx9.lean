import Derived.Test.YtnjdoinlnbjedaaGreatDoorBExactReleaseOfx8
import Derived.Test.YtnjdoinlnbjedaaGreatDoorBExactReleaseOfx7
import Derived.Test.YtnjdoinlnbjedaaGreatDoorBExactReleaseOfx4
import Derived.Below
import Derived.Carry
import Derived.ChangeOld
import Derived.Lib.LaidTab
import Derived.ChangeShapes
import Derived.Test.YtnjdoinlnbjedaaGreatDoorRows
import Derived.Test.YtnjdoinlnbjedaaGreatDoorCards
import Derived.Test.YtnjdoinlnbjedaaGreatDoorTie
import Derived.WalkKit
import Derived.ProofKit
import Derived.OpenShut
import Derived.ShutString
import Derived.SizedLaws
import Derived.Deep.DeepHandedRow

section
/- A delta between books leads there; two deltas made one do what both do. Plain. -/
namespace Go.Proofs.YtnjdoinlnbjedaaGreatDoor.Rf
open Go Go.RowKit
set_option linter.unusedVariables false
set_option linter.unusedSimpArgs false
abbrev Asc (l : List En) : Prop := l.Pairwise fun a b => ltE a b = true
abbrev qmq (l : List ByteArray) : Prop := l.Pairwise fun a b => ltS a b = true
theorem qmf {l : List En} {s : ByteArray} : q8x l s = false ↔ ¬ ∃ e ∈ l, e.1 = s := by rw [← Bool.not_eq_true, qi6]
theorem qga {a b : Book} (ha : q3s a = true) (hb : q3s b = true) : q3o a b = (q62 a b, q4n a b, !decide (a.1 = b.1), if a.1 = b.1 then [] else b.1) := by simp only [q3o, ha, hb, Bool.and_self, if_true]
theorem qcb {l : List En} : q59 l = true ↔ (∀ e ∈ l, qbw e = true) ∧ Asc l ∧ l.length ≤ 24 := by
 constructor
 ·intro h
  refine ⟨fun e he => ?_, qfh h, ?_⟩
  ·simp only [q59, Bool.and_eq_true, q3h] at h
   obtain ⟨i, hi, rfl⟩ := List.mem_iff_getElem.1 he
   have := (h.1 i hi).1
   rwa [List.getD_eq_getElem?_getD, List.getElem?_eq_getElem hi] at this
  ·simp only [q59, Bool.and_eq_true, decide_eq_true_eq] at h; exact h.2
 ·rintro ⟨h1, h2, h3⟩
  simp only [q59, Bool.and_eq_true, q3h, decide_eq_true_eq, Bool.or_eq_true]
  refine ⟨fun i hi => ⟨?_, ?_⟩, h3⟩
  ·rw [List.getD_eq_getElem?_getD, List.getElem?_eq_getElem hi]; exact h1 _ (List.getElem_mem hi)
  ·by_cases h0 : i = 0
   ·exact .inl h0
   ·refine .inr ?_
    have := List.pairwise_iff_getElem.1 h2 (i - 1) i (by omega) hi (by omega)
    rw [List.getD_eq_getElem?_getD, List.getD_eq_getElem?_getD, List.getElem?_eq_getElem hi, List.getElem?_eq_getElem (show i - 1 < l.length by omega)]
    exact this
theorem qjm {l : List ByteArray} (h1 : ∀ s ∈ l, q51 s = true) (h2 : qmq l) (h3 : l.length ≤ 24) : q7q l = true := by
 simp only [q7q, Bool.and_eq_true, q3h, decide_eq_true_eq, Bool.or_eq_true]
 refine ⟨fun i hi => ⟨?_, ?_⟩, h3⟩
 ·rw [List.getD_eq_getElem?_getD, List.getElem?_eq_getElem hi]; exact h1 _ (List.getElem_mem hi)
 ·by_cases h0 : i = 0
  ·exact .inl h0
  ·refine .inr ?_
   have := List.pairwise_iff_getElem.1 h2 (i - 1) i (by omega) hi (by omega)
   rw [List.getD_eq_getElem?_getD, List.getD_eq_getElem?_getD, List.getElem?_eq_getElem hi, List.getElem?_eq_getElem (show i - 1 < l.length by omega)]
   exact this
theorem qi7 {l : List En} (h : q59 l = true) {e : En} (he : e ∈ l) : q51 e.1 = true := by
 have := (qcb.1 h).1 e he
 simp only [qbw, Bool.and_eq_true] at this
 exact this.2.1
theorem q7x {a b : Book} (ha : q3s a = true) (hb : q3s b = true) : q3y (q3o a b) = true := by
 rw [qga ha hb]
 have ha' := ha
 have hb' := hb
 simp only [q3s, Bool.and_eq_true] at ha' hb'
 simp only [q3y, Bool.and_eq_true]
 refine ⟨qjm (fun s hs => ?_) ?_ ?_, qcb.2 ⟨fun e he => ?_, (q8d hb).sublist List.filter_sublist, ?_⟩, ?_, ?_, List.all_eq_true.2 fun s hs => ?_⟩
 ·obtain ⟨⟨e, he, rfl⟩, _⟩ := (qfn hb).1 hs
  exact qi7 ha'.2 he
 ·unfold qmq q62
  rw [List.pairwise_map]
  exact (q8d ha).sublist List.filter_sublist
 ·simp only [q62, List.length_map]
  exact Nat.le_trans (List.length_filter_le _ _) (qa3 ha).2
 ·exact (qcb.1 hb'.2).1 e ((qdp ha).1 he).1
 ·exact Nat.le_trans (List.length_filter_le _ _) (qa3 hb).2
 ·show q5j (if a.1 = b.1 then [] else b.1) = true
  by_cases h : a.1 = b.1
  ·rw [if_pos h]; decide
  ·rw [if_neg h]; exact hb'.1
 ·by_cases h : a.1 = b.1 <;> simp [h]
 ·rw [Bool.not_eq_true', qmf]
  rintro ⟨e, he, rfl⟩
  exact ((qfn hb).1 hs).2 ⟨e, ((qdp ha).1 he).1, rfl⟩
end Go.Proofs.YtnjdoinlnbjedaaGreatDoor.Rf
end

section
/- Books' texts; ReleaseOk, ReleaseOf, ReleaseDo: both sides. -/
namespace Go.Proofs.YtnjdoinlnbjedaaGreatDoor.Rf
open Go Go.RowKit
set_option linter.unusedVariables false
set_option linter.unusedSimpArgs false
theorem qb4 {b : Book} (h : tB b) : (q66 b).size ≤ 10000000 := by
 obtain ⟨⟨n1, s1⟩, n2, s2⟩ := h
 have h1 := qeg (ls := b.1.map q5n) (n := 4100) fun p hp => by
  obtain ⟨a, ha, rfl⟩ := List.mem_map.1 hp
  exact q5v (s1 a ha)
 have h2 := qeg (ls := b.2.map q56) (n := 2100) fun p hp => by
  obtain ⟨a, ha, rfl⟩ := List.mem_map.1 hp
  exact q6q (s2 a ha)
 rw [List.length_map] at h1 h2
 rw [q66, size_mk, qef, List.length_append]
 omega
theorem qab (b : Book) (hs : smB b) : Al fun k => q0m.f k b = some (qly b) := by
 have e0 := q41 b hs
 cases h1 : q3s b with
 | false => exact e0.mono fun k e => by rw [q0m.f_eq, e, h1, Option.bind_some, Bool.not_false, q0n, qly, h1]; rfl
 | true =>
 obtain ⟨⟨n1, s1⟩, n2, s2⟩ := qjh h1
 have L10 : ∀ (t : List En) (i : Nat) (x : ByteArray), b.2.drop i = t → x.size + 5000 * t.length ≤ 20000000 → Al2 fun k k1 => q0m.L10 k k1 x b.2 (b.2.length : Int) (i : Int) = some (mkB (bl x ++ nlB (t.map q56))) := by
  intro t
  induction t with
  | nil =>
   intro i x hd hx
   refine Al2.succ (Al2.now fun k k1 => ?_)
   rw [q0m.L10_eq, at_end (drop_nil hd), q0o, List.map_nil, qbz, List.append_nil, qhv]
  | cons e t ih =>
   intro i x hd hx
   rw [List.length_cons] at hx
   obtain ⟨hi, g1, g2⟩ := q36 zE hd
   obtain ⟨c1, c2, c3, c4⟩ := q4v hi (by omega)
   have he : tE e := s2 e (List.mem_of_mem_drop (show e ∈ b.2.drop i by rw [hd]; simp))
   have hl := q6q he
   have z1 : (mkB (q56 e ++ [10])).size = (q56 e).length + 1 := by rw [size_mk]; simp
   refine Al2.succ ((ih (i + 1) (x ++ mkB (q56 e ++ [10])) g2 (by rw [ByteArray.size_append, z1]; omega)).mono fun k k1 e1 => ?_)
   simp only [q0m.L10_eq, c1, c2, c3, Bool.and_self, q0n, g1, q8u _ e he, Option.bind_some,
    q37 (show x.size + (mkB (q56 e ++ [10])).size ≤ 9223372036854775807 by rw [z1]; omega), w64, c4, e1]
   congr 2
   rw [q3n, q65, List.map_cons, q4f]
   simp
 have L5 : ∀ (t : List Aff) (i : Nat) (x : ByteArray), b.1.drop i = t → x.size + 5000 * t.length ≤ 10000000 → Al2 fun k k1 => q0m.L5 k k1 b x b.1 (b.1.length : Int) (i : Int) = some (mkB (bl x ++ nlB (t.map q5n ++ b.2.map q56))) := by
  intro t
  induction t with
  | nil =>
   intro i x hd hx
   rw [List.length_nil] at hx
   refine Al2.succ ((L10 b.2 0 x rfl (by omega)).diag.fst.mono fun k k1 e => ?_)
   rw [q0m.L5_eq, at_end (drop_nil hd), q0o]
   exact e
  | cons a t ih =>
   intro i x hd hx
   rw [List.length_cons] at hx
   obtain ⟨hi, g1, g2⟩ := q36 zA hd
   obtain ⟨c1, c2, c3, c4⟩ := q4v hi (by omega)
   have he : tA a := s1 a (List.mem_of_mem_drop (show a ∈ b.1.drop i by rw [hd]; simp))
   have hl := q5v he
   have z1 : (mkB (q5n a ++ [10])).size = (q5n a).length + 1 := by rw [size_mk]; simp
   refine Al2.succ (((q8t a he).snd.and (ih (i + 1) (x ++ mkB (q5n a ++ [10])) g2 (by rw [ByteArray.size_append, z1]; omega))).mono fun k k1 ⟨e0, e1⟩ => ?_)
   simp only [q0m.L5_eq, c1, c2, c3, Bool.and_self, q0n, g1, e0, Option.bind_some, q37 (show x.size + (mkB (q5n a ++ [10])).size ≤ 9223372036854775807 by rw [z1]; omega), w64, c4, e1]
   congr 2
   rw [q3n, q65]
   simp [q4f]
 have hz : bz.size = 0 := rfl
 refine (e0.and (L5 b.1 0 bz rfl (by omega)).diag).mono fun k ⟨e, e1⟩ => ?_
 rw [q0m.f_eq, e, h1, Option.bind_some, Bool.not_true, q0o, qly, h1, if_pos rfl]
 exact e1
theorem qcc (b : Book) (h : tB b) : Al fun k => q1g.f k b = some (q66 b) := by
 obtain ⟨⟨n1, s1⟩, n2, s2⟩ := h
 have L7 : ∀ (t : List En) (i : Nat) (x : ByteArray), b.2.drop i = t → x.size + 5000 * t.length ≤ 20000000 → Al2 fun k k1 => q1g.L7 k k1 b x (i : Int) = some (mkB (bl x ++ nlB (t.map q56))) := by
  intro t
  induction t with
  | nil =>
   intro i x hd hx
   refine Al2.succ (Al2.now fun k k1 => ?_)
   rw [q1g.L7_eq, at_end (drop_nil hd), q0o, List.map_nil, qbz, List.append_nil, qhv]
  | cons e t ih =>
   intro i x hd hx
   rw [List.length_cons] at hx
   obtain ⟨hi, g1, g2⟩ := q36 zE hd
   obtain ⟨c1, c2, c3, c4⟩ := q4v hi (by omega)
   have he : tE e := s2 e (List.mem_of_mem_drop (show e ∈ b.2.drop i by rw [hd]; simp))
   have hl := q6q he
   have z1 : (x ++ mkB (q56 e)).size = x.size + (q56 e).length := by rw [ByteArray.size_append, size_mk]
   have z2 : ((x ++ mkB (q56 e)) ++ (⟨#[10]⟩ : ByteArray)).size = x.size + (q56 e).length + 1 := by rw [ByteArray.size_append, z1]; rfl
   refine Al2.succ ((ih (i + 1) ((x ++ mkB (q56 e)) ++ (⟨#[10]⟩ : ByteArray)) g2 (by rw [z2]; omega)).mono fun k k1 e1 => ?_)
   simp only [q1g.L7_eq, c1, c2, c3, Bool.and_self, q0n, g1, q7v _ e he, Option.bind_some, q37 (show x.size + (mkB (q56 e)).size ≤ 9223372036854775807 by rw [size_mk]; omega),
    q37 (show (x ++ mkB (q56 e)).size + (⟨#[10]⟩ : ByteArray).size ≤ 9223372036854775807 by rw [z1, q39]; omega), w64, c4, e1]
   congr 2
   rw [q3n, q3n, q4y, q65]
   simp [q4f]
 have L3 : ∀ (t : List Aff) (i : Nat) (x : ByteArray), b.1.drop i = t → x.size + 5000 * t.length ≤ 10000000 → Al2 fun k k1 => q1g.L3 k k1 b x (i : Int) = some (mkB (bl x ++ nlB (t.map q5n ++ b.2.map q56))) := by
  intro t
  induction t with
  | nil =>
   intro i x hd hx
   rw [List.length_nil] at hx
   refine Al2.succ ((L7 b.2 0 x rfl (by omega)).diag.fst.mono fun k k1 e => ?_)
   rw [q1g.L3_eq, at_end (drop_nil hd), q0o]
   exact e
  | cons a t ih =>
   intro i x hd hx
   rw [List.length_cons] at hx
   obtain ⟨hi, g1, g2⟩ := q36 zA hd
   obtain ⟨c1, c2, c3, c4⟩ := q4v hi (by omega)
   have he : tA a := s1 a (List.mem_of_mem_drop (show a ∈ b.1.drop i by rw [hd]; simp))
   have hl := q5v he
   have z1 : (x ++ mkB (q5n a)).size = x.size + (q5n a).length := by rw [ByteArray.size_append, size_mk]
   have z2 : ((x ++ mkB (q5n a)) ++ (⟨#[10]⟩ : ByteArray)).size = x.size + (q5n a).length + 1 := by rw [ByteArray.size_append, z1]; rfl
   refine Al2.succ (((q7u a he).snd.and (ih (i + 1) ((x ++ mkB (q5n a)) ++ (⟨#[10]⟩ : ByteArray)) g2 (by rw [z2]; omega))).mono fun k k1 ⟨e0, e1⟩ => ?_)
   simp only [q1g.L3_eq, c1, c2, c3, Bool.and_self, q0n, g1, e0, Option.bind_some, q37 (show x.size + (mkB (q5n a)).size ≤ 9223372036854775807 by rw [size_mk]; omega),
    q37 (show (x ++ mkB (q5n a)).size + (⟨#[10]⟩ : ByteArray).size ≤ 9223372036854775807 by rw [z1, q39]; omega), w64, c4, e1]
   congr 2
   rw [q3n, q3n, q4y, q65]
   simp [q4f]
 have hz : bz.size = 0 := rfl
 refine (L3 b.1 0 bz rfl (by omega)).diag.mono fun k e1 => ?_
 rw [q1g.f_eq]
 exact e1
def qmg (key : ByteArray) (r : Release) : Bool := qgi key && (qi2 r && decide (qc8 key (qgh r.1 r.2.1 r.2.2.1) = r.2.2.2))
def qi8 (key : ByteArray) (n : Int) (a b : Book) : Release := (n + 1, q3o a b, q6i (q66 b), qc8 key (qgh (n + 1) (q3o a b) (q6i (q66 b))))
def q4s (key : ByteArray) (n : Int) (a b : Book) : Release × Bool :=
 if qgi key && ((decide (0 ≤ n) && decide (n ≤ 999998)) && (q3s a && q3s b)) then (if qi2 (qi8 key n a b) then (qi8 key n a b, true) else (zR, false)) else (zR, false)
theorem qi9 {key : ByteArray} {n : Int} {a b : Book} (ha : q3s a = true) (hb : q3s b = true) : smR (qi8 key n a b) := by
 refine ⟨qlm (qjf (q7x ha hb)), ?_, ?_⟩
 ·show (q6i _).size ≤ _
  rw [q8f]; omega
 ·have := qg9 key (qgh (n + 1) (q3o a b) (q6i (q66 b)))
  show (qc8 _ _).size ≤ _
  omega
theorem qk7 {n : Int} (h1 : 0 ≤ n) (h2 : n ≤ 999998) : w64 (n + 1) = n + 1 := qg3 (by omega) (by omega)
theorem q8h (key : ByteArray) (n : Int) (a b : Book) (hk : key.size ≤ 9223372036854775807) (ha : smB a) (hb : smB b) : Al fun k => q1n.f k key n a b = some (q4s key n a b) := by
 have e1 := fun k => qc7 k key hk
 have e2 := fun k => q4g k n 0 999998
 unfold q4s
 cases h1 : qgi key with
 | false => exact Al.now fun k => by rw [q1n.f_eq, e1, h1, Option.bind_some, Bool.not_false, q0n]; rfl
 | true =>
 cases h2 : (decide (0 ≤ n) && decide (n ≤ 999998)) with
 | false => exact Al.now fun k => by rw [q1n.f_eq, e1, h1, Option.bind_some, Bool.not_true, q0o, e2, h2, Option.bind_some, Bool.not_false, q0n]; rfl
 | true =>
 have h2' := h2
 simp only [Bool.and_eq_true, decide_eq_true_eq] at h2'
 have fa := q41 a ha
 cases h3 : q3s a with
 | false => exact fa.mono fun k e => by rw [q1n.f_eq, e1, h1, Option.bind_some, Bool.not_true, q0o, e2, h2, Option.bind_some, Bool.not_true, q0o, e, h3, Option.bind_some, Bool.not_false, q0n]; rfl
 | true =>
 have fb := q41 b hb
 cases h4 : q3s b with
 | false => exact (fa.and fb).mono fun k ⟨e, e3⟩ => by rw [q1n.f_eq, e1, h1, Option.bind_some, Bool.not_true, q0o, e2, h2, Option.bind_some, Bool.not_true, q0o, e, h3, Option.bind_some, Bool.not_true, q0o, e3, h4, Option.bind_some, Bool.not_false, q0n]; rfl
 | true =>
 have hz := qb4 (qjh h4)
 have hs := q8f (q66 b)
 have hD := q7x h3 h4
 have zt := qdl (n := n + 1) (d := q3o a b) (s := q6i (q66 b)) (by omega) (by omega) hD (by omega)
 have ft := q8v (n + 1, q3o a b, q6i (q66 b), bz) (by show 0 ≤ n + 1; omega) (by show n + 1 ≤ 999999; omega) hD (by show (q6i _).size ≤ _; omega)
 refine (((fa.and fb).and ((qaa a b ha hb).and (qab b hb))).and (((qeh (q66 b) (by omega)).and ft).and ((qej key (qgh (n + 1) (q3o a b) (q6i (q66 b))) hk (by omega)).and (qdm (qi8 key n a b) (qi9 h3 h4))))).mono fun k ⟨⟨⟨e3, e4⟩, e5, e6⟩, ⟨e7, e8⟩, e9, e10⟩ => ?_
 rw [qly, h4, if_pos rfl] at e6
 rw [q1n.f_eq, e1, h1, Option.bind_some, Bool.not_true, q0o, e2, h2, Option.bind_some, Bool.not_true, q0o, e3, h3, Option.bind_some, Bool.not_true, q0o, e4, h4, Option.bind_some, Bool.not_true, q0o, e5, Option.bind_some, e6, Option.bind_some, e7, Option.bind_some, qk7 h2'.1 h2'.2, e8, Option.bind_some, e9, Option.bind_some]
 rw [qi8] at e10
 rw [e10, Option.bind_some]
 show ifb (!qi2 (qi8 key n a b)) _ _ = _
 simp only [Bool.and_self, if_true]
 cases h5 : qi2 (qi8 key n a b) with
 | false => rw [Bool.not_false, q0n]; rfl
 | true => rw [Bool.not_true, q0o]; rfl
theorem q8i (key : ByteArray) (n : Int) (a b : Book) (hk : key.size ≤ 9223372036854775807) (ha : smB a) (hb : smB b) : Al fun k => q1p.f k key n a b = some (q4s key n a b) := by
 have e1 := fun k => qfi k key hk
 have e2 := fun k => q7i k n 0 999998
 unfold q4s
 cases h1 : qgi key with
 | false => exact Al.now fun k => by rw [q1p.f_eq, e1, h1, Option.bind_some, Bool.not_false, q0n]; rfl
 | true =>
 cases h2 : (decide (0 ≤ n) && decide (n ≤ 999998)) with
 | false => exact Al.now fun k => by rw [q1p.f_eq, e1, h1, Option.bind_some, Bool.not_true, q0o, e2, h2, Option.bind_some, Bool.not_false, q0n]; rfl
 | true =>
 have h2' := h2
 simp only [Bool.and_eq_true, decide_eq_true_eq] at h2'
 have fa := q40 a ha
 cases h3 : q3s a with
 | false => exact fa.mono fun k e => by rw [q1p.f_eq, e1, h1, Option.bind_some, Bool.not_true, q0o, e2, h2, Option.bind_some, Bool.not_true, q0o, e, h3, Option.bind_some, Bool.not_false, q0n]; rfl
 | true =>
 have fb := q40 b hb
 cases h4 : q3s b with
 | false => exact (fa.and fb).mono fun k ⟨e, e3⟩ => by rw [q1p.f_eq, e1, h1, Option.bind_some, Bool.not_true, q0o, e2, h2, Option.bind_some, Bool.not_true, q0o, e, h3, Option.bind_some, Bool.not_true, q0o, e3, h4, Option.bind_some, Bool.not_false, q0n]; rfl
 | true =>
 have hz := qb4 (qjh h4)
 have hs := q8f (q66 b)
 have hD := q7x h3 h4
 have zt := qdl (n := n + 1) (d := q3o a b) (s := q6i (q66 b)) (by omega) (by omega) hD (by omega)
 have ft := q8w (n + 1, q3o a b, q6i (q66 b), bz) (by show 0 ≤ n + 1; omega) (by show n + 1 ≤ 999999; omega) hD (by show (q6i _).size ≤ _; omega)
 refine (((fa.and fb).and ((qa9 a b ha hb).and (qcc b (qjh h4)))).and (((qei (q66 b) (by omega)).and ft).and ((qek key (qgh (n + 1) (q3o a b) (q6i (q66 b))) hk (by omega)).and (qdn (qi8 key n a b) (qi9 h3 h4))))).mono fun k ⟨⟨⟨e3, e4⟩, e5, e6⟩, ⟨e7, e8⟩, e9, e10⟩ => ?_
 rw [q1p.f_eq, e1, h1, Option.bind_some, Bool.not_true, q0o, e2, h2, Option.bind_some, Bool.not_true, q0o, e3, h3, Option.bind_some, Bool.not_true, q0o, e4, h4, Option.bind_some, Bool.not_true, q0o, e5, Option.bind_some, e6, Option.bind_some, e7, Option.bind_some, qk7 h2'.1 h2'.2, e8, Option.bind_some, e9, Option.bind_some]
 rw [qi8] at e10
 rw [e10, Option.bind_some]
 show ifb (!qi2 (qi8 key n a b)) _ _ = _
 simp only [Bool.and_self, if_true]
 cases h5 : qi2 (qi8 key n a b) with
 | false => rw [Bool.not_false, q0n]; rfl
 | true => rw [Bool.not_true, q0o]; rfl
def relDo (key : ByteArray) (n : Int) (b : Book) (r : Release) : Book × Bool :=
 if q3s b then (if qmg key r && (decide (r.1 = n + 1) && ((qee b r.2.1).2 && decide (q6i (q66 (qee b r.2.1).1) = r.2.2.1))) then ((qee b r.2.1).1, true) else (b, false)) else (([], []), false)
end Go.Proofs.YtnjdoinlnbjedaaGreatDoor.Rf
end

section
/- The helpers of the laws: sizes, copies, equality, marks. -/
namespace Go.Proofs.YtnjdoinlnbjedaaGreatDoor.Rf
open Go Go.RowKit
set_option linter.unusedVariables false
set_option linter.unusedSimpArgs false
def q7y (l : Int) (n : Nat) : Int := if (n : Int) ≤ l then l - n else -1
theorem q4h (l : Int) (n : Nat) (h : 0 ≤ l) : decide (q7y l n < 0) = decide (l < n) := by
 unfold q7y
 by_cases h1 : (n : Int) ≤ l
 ·rw [if_pos h1, decide_eq_false (by omega), decide_eq_false (by omega)]
 ·rw [if_neg h1, decide_eq_true (by omega), decide_eq_true (by omega)]
theorem q7z (l : Int) (n m : Nat) (h : (n : Int) ≤ l) : q7y (q7y l n) m = q7y l (n + m) := by
 unfold q7y
 rw [if_pos h]
 by_cases h1 : (m : Int) ≤ l - n
 ·rw [if_pos h1, if_pos (by omega)]; omega
 ·rw [if_neg h1, if_neg (by omega)]
theorem q4t (l : Int) (n m : Nat) (h : l < n) : q7y l (n + m) = -1 := if_neg (by omega)
theorem q57 (l : Int) (n : Nat) (h0 : 0 ≤ l) (h1 : l ≤ 1048576) (hn : n ≤ 9223372036854775807) : w64 (l - (n : Int)) = l - n ∧ decide (l - (n : Int) < 0) = decide (l < n) :=
 ⟨qg3 (by omega) (by omega), by by_cases h : l < n
                 ·rw [decide_eq_true h, decide_eq_true (by omega)]
                 ·rw [decide_eq_false h, decide_eq_false (by omega)]⟩
def qgb {α : Type} (f : α → Nat) : List α → Nat
 | [] => 0
 | x :: l => f x + qgb f l
theorem qcd {α : Type} (f : α → Nat) : ∀ {l : List α} {x : α}, x ∈ l → f x ≤ qgb f l
 | y :: l, x, h => by
  rcases List.mem_cons.1 h with rfl | h
  ·exact Nat.le_add_right _ _
  ·exact Nat.le_trans (qcd f h) (Nat.le_add_left _ _)
def szA (a : Aff) : Nat := a.1.size + (a.2.2.1.size + (a.2.2.2.1.size + a.2.2.2.2.size))
def szE (e : En) : Nat := e.1.size + e.2.size
def qgc (l : List Aff) : Nat := l.length + qgb szA l
def qjn (l : List En) : Nat := l.length + qgb szE l
def szSs (l : List ByteArray) : Nat := l.length + qgb (fun s => s.size) l
def qgd (b : Book) : Nat := qgc b.1 + qjn b.2
def szDl (d : Delta) : Nat := szSs d.1 + (qjn d.2.1 + qgc d.2.2.2)
abbrev Big (n : Nat) : Prop := n ≤ 9223372036854775807
def bgA (a : Aff) : Prop := Big a.1.size ∧ Big a.2.2.1.size ∧ Big a.2.2.2.1.size ∧ Big a.2.2.2.2.size
def bgE (e : En) : Prop := Big e.1.size ∧ Big e.2.size
theorem qb5 (k : Nat) (a : Aff) (l : Int) (h0 : 0 ≤ l) (h1 : l ≤ 1048576) (hb : bgA a) : q2g.f k a l = some (q7y l (szA a)) := by
 obtain ⟨b1, b2, b3, b4⟩ := hb
 obtain ⟨e1, f1⟩ := q57 l a.1.size h0 h1 b1
 rw [q2g.f_eq]
 simp only [e1, f1]
 by_cases g1 : l < a.1.size
 ·rw [decide_eq_true g1, q0n, szA, q4t _ _ _ g1]
 ·rw [decide_eq_false g1, q0o]
  obtain ⟨e2, f2⟩ := q57 (l - a.1.size) a.2.2.1.size (by omega) (by omega) b2
  simp only [e2, f2]
  by_cases g2 : l - (a.1.size : Int) < a.2.2.1.size
  ·rw [decide_eq_true g2, q0n, szA, ← Nat.add_assoc, q4t _ _ _ (by omega)]
  ·rw [decide_eq_false g2, q0o]
   obtain ⟨e3, f3⟩ := q57 (l - a.1.size - a.2.2.1.size) a.2.2.2.1.size (by omega) (by omega) b3
   simp only [e3, f3]
   by_cases g3 : l - (a.1.size : Int) - a.2.2.1.size < a.2.2.2.1.size
   ·rw [decide_eq_true g3, q0n, szA, ← Nat.add_assoc, ← Nat.add_assoc, q4t _ _ _ (by omega)]
   ·rw [decide_eq_false g3, q0o]
    obtain ⟨e4, f4⟩ := q57 (l - a.1.size - a.2.2.1.size - a.2.2.2.1.size) a.2.2.2.2.size (by omega) (by omega) b4
    simp only [e4, f4]
    by_cases g4 : l - (a.1.size : Int) - a.2.2.1.size - a.2.2.2.1.size < a.2.2.2.2.size
    ·rw [decide_eq_true g4, q0n, szA, q7y, if_neg (by omega)]
    ·rw [decide_eq_false g4, q0o, szA, q7y, if_pos (by omega)]
     congr 1
     omega
theorem qb6 (k : Nat) (a : En) (l : Int) (h0 : 0 ≤ l) (h1 : l ≤ 1048576) (hb : bgE a) : q2h.f k a l = some (q7y l (szE a)) := by
 obtain ⟨b1, b2⟩ := hb
 obtain ⟨e1, f1⟩ := q57 l a.1.size h0 h1 b1
 rw [q2h.f_eq]
 simp only [e1, f1]
 by_cases g1 : l < a.1.size
 ·rw [decide_eq_true g1, q0n, szE, q4t _ _ _ g1]
 ·rw [decide_eq_false g1, q0o]
  obtain ⟨e2, f2⟩ := q57 (l - a.1.size) a.2.size (by omega) (by omega) b2
  simp only [e2, f2]
  by_cases g2 : l - (a.1.size : Int) < a.2.size
  ·rw [decide_eq_true g2, q0n, szE, q7y, if_neg (by omega)]
  ·rw [decide_eq_false g2, q0o, szE, q7y, if_pos (by omega)]
   congr 1
   omega
theorem qac (l : List Aff) (n : Int) (h0 : 0 ≤ n) (h1 : n ≤ 1048576) (hl : Big l.length) (hb : ∀ a ∈ l, bgA a) : Al fun k => q17.f k l n = some (q7y n (qgc l)) := by
 obtain ⟨e1, f1⟩ := q57 n l.length h0 h1 hl
 by_cases g1 : n < l.length
 ·refine Al.now fun k => ?_
  rw [q17.f_eq]
  simp only [e1, f1]
  rw [decide_eq_true g1, q0n, qgc, q4t _ _ _ g1]
 ·have key : ∀ (t : List Aff) (i : Nat) (m : Int), l.drop i = t → 0 ≤ m → m ≤ 1048576 → Al2 fun k k1 => q17.L5 k k1 l m (i : Int) = some (q7y m (qgb szA t)) := by
   intro t
   induction t with
   | nil =>
    intro i m hd g2 g3
    refine Al2.succ (Al2.now fun k k1 => ?_)
    simp only [q17.L5_eq, at_end (drop_nil hd), q0o, qgb]
    rw [q7y, if_pos (by omega)]
    congr 1
    omega
   | cons x t ih =>
    intro i m hd g2 g3
    obtain ⟨hi, d1, d2⟩ := q36 zA hd
    obtain ⟨c1, c2, c3, c4⟩ := q4v hi (by omega)
    have hx : bgA x := hb x (by rw [← d1, List.getD_eq_getElem?_getD, List.getElem?_eq_getElem hi]; exact List.getElem_mem hi)
    by_cases g4 : m < szA x
    ·refine Al2.succ (Al2.now fun k k1 => ?_)
     simp only [q17.L5_eq, c1, c2, c3, w64, c4, d1, Bool.and_self, q0n, qb5 _ _ _ g2 g3 hx, Option.bind_some, q4h _ _ g2]
     rw [decide_eq_true g4, q0n, qgb, q4t _ _ _ g4]
    ·have e2 : q7y m (szA x) = m - szA x := if_pos (by omega)
     refine Al2.succ ((ih (i + 1) (m - szA x) d2 (by omega) (by omega)).mono fun k k1 e => ?_)
     simp only [q17.L5_eq, c1, c2, c3, w64, c4, d1, Bool.and_self, q0n, qb5 _ _ _ g2 g3 hx, Option.bind_some, q4h _ _ g2]
     rw [decide_eq_false g4, q0o, e2, e, ← e2, q7z _ _ _ (by omega), qgb]
  refine (key l 0 (n - l.length) rfl (by omega) (by omega)).diag.mono fun k e => ?_
  rw [q17.f_eq]
  simp only [e1, f1]
  rw [decide_eq_false g1, q0o, show (0 : Int) = ((0 : Nat) : Int) from rfl, e, show n - (l.length : Int) = q7y n l.length from (if_pos (by omega)).symm, q7z _ _ _ (by omega), qgc]
theorem qel (l : List En) (n : Int) (h0 : 0 ≤ n) (h1 : n ≤ 1048576) (hl : Big l.length) (hb : ∀ a ∈ l, bgE a) : Al fun k => q18.f k l n = some (q7y n (qjn l)) := by
 obtain ⟨e1, f1⟩ := q57 n l.length h0 h1 hl
 by_cases g1 : n < l.length
 ·refine Al.now fun k => ?_
  rw [q18.f_eq]
  simp only [e1, f1]
  rw [decide_eq_true g1, q0n, qjn, q4t _ _ _ g1]
 ·have key : ∀ (t : List En) (i : Nat) (m : Int), l.drop i = t → 0 ≤ m → m ≤ 1048576 → Al2 fun k k1 => q18.L5 k k1 l m (i : Int) = some (q7y m (qgb szE t)) := by
   intro t
   induction t with
   | nil =>
    intro i m hd g2 g3
    refine Al2.succ (Al2.now fun k k1 => ?_)
    simp only [q18.L5_eq, at_end (drop_nil hd), q0o, qgb]
    rw [q7y, if_pos (by omega)]
    congr 1
    omega
   | cons x t ih =>
    intro i m hd g2 g3
    obtain ⟨hi, d1, d2⟩ := q36 zE hd
    obtain ⟨c1, c2, c3, c4⟩ := q4v hi (by omega)
    have hx : bgE x := hb x (by rw [← d1, List.getD_eq_getElem?_getD, List.getElem?_eq_getElem hi]; exact List.getElem_mem hi)
    by_cases g4 : m < szE x
    ·refine Al2.succ (Al2.now fun k k1 => ?_)
     simp only [q18.L5_eq, c1, c2, c3, w64, c4, d1, Bool.and_self, q0n, qb6 _ _ _ g2 g3 hx, Option.bind_some, q4h _ _ g2]
     rw [decide_eq_true g4, q0n, qgb, q4t _ _ _ g4]
    ·have e2 : q7y m (szE x) = m - szE x := if_pos (by omega)
     refine Al2.succ ((ih (i + 1) (m - szE x) d2 (by omega) (by omega)).mono fun k k1 e => ?_)
     simp only [q18.L5_eq, c1, c2, c3, w64, c4, d1, Bool.and_self, q0n, qb6 _ _ _ g2 g3 hx, Option.bind_some, q4h _ _ g2]
     rw [decide_eq_false g4, q0o, e2, e, ← e2, q7z _ _ _ (by omega), qgb]
  refine (key l 0 (n - l.length) rfl (by omega) (by omega)).diag.mono fun k e => ?_
  rw [q18.f_eq]
  simp only [e1, f1]
  rw [decide_eq_false g1, q0o, show (0 : Int) = ((0 : Nat) : Int) from rfl, e, show n - (l.length : Int) = q7y n l.length from (if_pos (by omega)).symm, q7z _ _ _ (by omega), qjn]
def bgB (b : Book) : Prop := (Big b.1.length ∧ ∀ a ∈ b.1, bgA a) ∧ Big b.2.length ∧ ∀ e ∈ b.2, bgE e
def bgD (d : Delta) : Prop := (Big d.1.length ∧ ∀ s ∈ d.1, Big s.size) ∧ (Big d.2.1.length ∧ ∀ e ∈ d.2.1, bgE e) ∧ Big d.2.2.2.length ∧ ∀ a ∈ d.2.2.2, bgA a
theorem qdq (b : Book) (n : Int) (h0 : 0 ≤ n) (h1 : n ≤ 1048576) (hb : bgB b) : Al fun k => q2q.f k b n = some (q7y n (qgd b)) := by
 by_cases g : n < qgc b.1
 ·refine (qac b.1 n h0 h1 hb.1.1 hb.1.2).mono fun k e => ?_
  simp only [q2q.f_eq, e, Option.bind_some, q4h _ _ h0]
  rw [decide_eq_true g, q0n, qgd, q4t _ _ _ g]
 ·have e1 : q7y n (qgc b.1) = n - qgc b.1 := if_pos (by omega)
  refine ((qac b.1 n h0 h1 hb.1.1 hb.1.2).and (qel b.2 (n - qgc b.1) (by omega) (by omega) hb.2.1 hb.2.2)).mono fun k ⟨e, e2⟩ => ?_
  simp only [q2q.f_eq, e, Option.bind_some, q4h _ _ h0]
  rw [decide_eq_false g, q0o, e1, e2, Option.bind_some, ← e1, q7z _ _ _ (by omega), qgd]
  by_cases g2 : q7y n (qgc b.1 + qjn b.2) < 0
  ·rw [decide_eq_true g2, q0n]
   have : q7y n (qgc b.1 + qjn b.2) = -1 := by unfold q7y at *; split at g2 <;> split <;> omega
   rw [this]
  ·rw [decide_eq_false g2, q0o]
theorem qln {a : Aff} {n : Nat} (h : szA a ≤ n) (hn : n ≤ 4611686018427387904) : smA a := by
 unfold szA at h; unfold smA Sm; omega
theorem qlo {a : En} {n : Nat} (h : szE a ≤ n) (hn : n ≤ 4611686018427387904) : smE a := by
 unfold szE at h; unfold smE Sm; omega
theorem qk8 {b : Book} (h : qgd b ≤ 1048576) : smB b := by
 unfold qgd qgc qjn at h
 exact ⟨⟨by omega, fun a ha => qln (qcd szA ha) (by omega)⟩, by omega, fun e he => qlo (qcd szE he) (by omega)⟩
end Go.Proofs.YtnjdoinlnbjedaaGreatDoor.Rf
end

section
/- The helpers of the laws: copies, equality, marks. -/
namespace Go.Proofs.YtnjdoinlnbjedaaGreatDoor.Rf
open Go Go.RowKit
set_option linter.unusedVariables false
set_option linter.unusedSimpArgs false
theorem set_mid {α : Type} (a : List α) (x y : α) (t : List α) : (a ++ x :: t).set a.length y = a ++ y :: t := by
 rw [List.set_append_right _ _ (Nat.le_refl _), Nat.sub_self]; rfl
theorem q5x {α : Type} (a : List α) (x : α) (t : List α) (z : α) : (a ++ x :: t).getD a.length z = x := by
 rw [List.getD_eq_getElem?_getD, List.getElem?_append_right (Nat.le_refl _), Nat.sub_self]; rfl
theorem q72 {α : Type} {l t : List α} {i : Nat} {x : α} (h : l.drop i = x :: t) : l.take (i + 1) = l.take i ++ [x] := by
 have hi := (q36 x h).1
 rw [List.take_add_one, List.getElem?_eq_getElem hi]
 rw [List.drop_eq_getElem_cons hi] at h
 injection h with h1 _
 rw [h1]; rfl
theorem qfo (n : Nat) : ((n : Int)).toNat = n := by omega
theorem qlp (n c : Nat) (h : n * c ≤ q38) : (decide (0 ≤ (n : Int)) && (decide ((n : Int) ≤ (n : Int)) && decide ((n : Int) * (c : Int) ≤ (q38 : Int)))) = true := by
 have : (n : Int) * (c : Int) ≤ (q38 : Int) := by exact_mod_cast h
 rw [decide_eq_true this, decide_eq_true (Int.le_refl _), decide_eq_true (by omega)]; rfl
theorem qem (l : List Aff) (hl : l.length ≤ 1099511627776) : Al fun k => q1b.f k l = some l := by
 have hS : l.length ≤ 4611686018427387904 := by omega
 have key : ∀ (t : List Aff) (i : Nat), l.drop i = t → Al2 fun k k1 => q1b.L3 k k1 l (l.take i ++ List.replicate t.length zA) (i : Int) = some l := by
  intro t
  induction t with
  | nil =>
   intro i hd
   refine Al2.succ (Al2.now fun k k1 => ?_)
   have := drop_nil hd
   simp only [q1b.L3_eq, at_end this, q0o, List.length_nil, List.replicate_zero, List.append_nil]
   rw [List.take_of_length_le (by omega)]
  | cons x t ih =>
   intro i hd
   obtain ⟨hi, d1, d2⟩ := q36 zA hd
   obtain ⟨c1, c2, c3, c4⟩ := q4v hi hS
   have hti : (l.take i).length = i := by rw [List.length_take]; omega
   have hlt : decide ((i : Int) < ((l.take i ++ List.replicate (x :: t).length zA).length : Int)) = true := decide_eq_true (by simp only [List.length_append, hti, List.length_replicate, List.length_cons]; omega)
   have hs : (l.take i ++ List.replicate (x :: t).length zA).set i x = l.take (i + 1) ++ List.replicate t.length zA := by
    rw [List.length_cons, List.replicate_succ, q72 hd]
    have := set_mid (l.take i) zA x (List.replicate t.length zA)
    rw [hti] at this
    rw [this]; simp
   refine Al2.succ ((ih (i + 1) d2).mono fun k k1 e => ?_)
   simp only [q1b.L3_eq, c1, c2, c3, w64, c4, d1, hlt, Bool.and_self, q0n, q2r.f_eq, Option.bind_some]
   rw [show (x.1, x.2.1, x.2.2.1, x.2.2.2.1, x.2.2.2.2) = x from rfl, hs, e]
 refine (key l 0 rfl).diag.mono fun k e => ?_
 rw [q1b.f_eq, show (72 : Int) = ((72 : Nat) : Int) from rfl, qlp _ _ (by simp only [q38]; omega), q0n, qfo]
 simpa using e
theorem qen (l : List En) (hl : l.length ≤ 1099511627776) : Al fun k => q1c.f k l = some l := by
 have hS : l.length ≤ 4611686018427387904 := by omega
 have key : ∀ (t : List En) (i : Nat), l.drop i = t → Al2 fun k k1 => q1c.L3 k k1 l (l.take i ++ List.replicate t.length zE) (i : Int) = some l := by
  intro t
  induction t with
  | nil =>
   intro i hd
   refine Al2.succ (Al2.now fun k k1 => ?_)
   have := drop_nil hd
   simp only [q1c.L3_eq, at_end this, q0o, List.length_nil, List.replicate_zero, List.append_nil]
   rw [List.take_of_length_le (by omega)]
  | cons x t ih =>
   intro i hd
   obtain ⟨hi, d1, d2⟩ := q36 zE hd
   obtain ⟨c1, c2, c3, c4⟩ := q4v hi hS
   have hti : (l.take i).length = i := by rw [List.length_take]; omega
   have hlt : decide ((i : Int) < ((l.take i ++ List.replicate (x :: t).length zE).length : Int)) = true := decide_eq_true (by simp only [List.length_append, hti, List.length_replicate, List.length_cons]; omega)
   have hs : (l.take i ++ List.replicate (x :: t).length zE).set i x = l.take (i + 1) ++ List.replicate t.length zE := by
    rw [List.length_cons, List.replicate_succ, q72 hd]
    have := set_mid (l.take i) zE x (List.replicate t.length zE)
    rw [hti] at this
    rw [this]; simp
   refine Al2.succ ((ih (i + 1) d2).mono fun k k1 e => ?_)
   simp only [q1c.L3_eq, c1, c2, c3, w64, c4, d1, hlt, Bool.and_self, q0n, q2s.f_eq, Option.bind_some]
   rw [show (x.1, x.2) = x from rfl, hs, e]
 refine (key l 0 rfl).diag.mono fun k e => ?_
 rw [q1c.f_eq, show (32 : Int) = ((32 : Nat) : Int) from rfl, qlp _ _ (by simp only [q38]; omega), q0n, qfo]
 simpa using e
theorem qdr (b : Book) (h : smB b) : Al fun k => q26.f k b = some b :=
 ((qem b.1 h.1.1).and (qen b.2 h.2.1)).mono fun k ⟨e1, e2⟩ => by
  simp only [q26.f_eq, e1, e2, Option.bind_some]
theorem qeo (n : Nat) : (((n : Int) != (n : Int))) = false := by simp
theorem qds (k : Nat) (a : Aff) : q2n.f k a a = some true := by
 simp [q2n.f_eq, q0o]
theorem qdt (k : Nat) (a : En) : q2m.f k a a = some true := by
 simp [q2m.f_eq, q0o]
theorem q80 (l : List Aff) (hl : Sm l.length) : Al fun k => q0y.f k l l = some true := by
 have key := qdd (Q := fun i => Al2 fun k k1 => q0y.L4 k k1 l l (i : Int) = some true) l.length
  (Al2.succ (Al2.now fun k k1 => by simp only [q0y.L4_eq, at_end (Nat.lt_irrefl _), q0o])) (fun i hi h => by
   obtain ⟨c1, c2, c3, c4⟩ := q4v hi hl
   refine Al2.succ (h.mono fun k k1 e => ?_)
   simp only [q0y.L4_eq, c1, c2, c3, w64, c4, Bool.and_self, q0n, qds, Option.bind_some, Bool.not_true, q0o, e]) 0 (Nat.zero_le _)
 exact key.diag.mono fun k e => by rw [q0y.f_eq, qeo, q0o]; exact e
theorem q81 (l : List En) (hl : Sm l.length) : Al fun k => q0x.f k l l = some true := by
 have key := qdd (Q := fun i => Al2 fun k k1 => q0x.L4 k k1 l l (i : Int) = some true) l.length
  (Al2.succ (Al2.now fun k k1 => by simp only [q0x.L4_eq, at_end (Nat.lt_irrefl _), q0o])) (fun i hi h => by
   obtain ⟨c1, c2, c3, c4⟩ := q4v hi hl
   refine Al2.succ (h.mono fun k k1 e => ?_)
   simp only [q0x.L4_eq, c1, c2, c3, w64, c4, Bool.and_self, q0n, qdt, Option.bind_some, Bool.not_true, q0o, e]) 0 (Nat.zero_le _)
 exact key.diag.mono fun k e => by rw [q0x.f_eq, qeo, q0o]; exact e
theorem qam (l : List ByteArray) (hl : Sm l.length) : Al fun k => q0w.f k l l = some true := by
 have key := qdd (Q := fun i => Al2 fun k k1 => q0w.L4 k k1 l l (i : Int) = some true) l.length
  (Al2.succ (Al2.now fun k k1 => by simp only [q0w.L4_eq, at_end (Nat.lt_irrefl _), q0o])) (fun i hi h => by
   obtain ⟨c1, c2, c3, c4⟩ := q4v hi hl
   refine Al2.succ (h.mono fun k k1 e => ?_)
   simp only [q0w.L4_eq, c1, c2, c3, w64, c4, Bool.and_self, q0n, beq_self_eq_true, Bool.not_true, q0o, e]) 0 (Nat.zero_le _)
 exact key.diag.mono fun k e => by rw [q0w.f_eq, qeo, q0o]; exact e
theorem qad (b : Book) (h1 : Sm b.1.length) (h2 : Sm b.2.length) : Al fun k => q2y.f k b b = some true :=
 ((q80 b.1 h1).and (q81 b.2 h2)).mono fun k ⟨e1, e2⟩ => by
  simp only [q2y.f_eq, e1, e2, Option.bind_some, Bool.not_true, q0o]
theorem qdu (d : Delta) (h1 : Sm d.1.length) (h2 : Sm d.2.1.length) (h3 : Sm d.2.2.2.length) : Al fun k => q2o.f k d d = some true :=
 (((qam d.1 h1).and (q81 d.2.1 h2)).and (q80 d.2.2.2 h3)).mono fun k ⟨⟨e1, e2⟩, e3⟩ => by
  simp only [q2o.f_eq, e1, e2, e3, Option.bind_some, Bool.not_true, q0o, beq_self_eq_true]
theorem qge (l : List Int) : (strOf l).size = l.length := by simp [strOf, ByteArray.size]
theorem qep (n : Nat) (hn : n ≤ 4611686018427387904) : ∃ t, Al fun k => q09.f k (n : Int) = some t := by
 by_cases h0 : n = 0
 ·subst h0
  exact ⟨_, Al.now fun k => by rw [q09.f_eq]; exact q0n _ _⟩
 ·have key : ∀ (m : Nat) (n : Nat) (acc : ByteArray), n < 10 ^ m → n ≤ 4611686018427387904 → acc.size + m ≤ 30 → ∃ t, Al2 fun k k1 => q09.L4 k k1 (n : Int) acc = some t := by
   intro m
   induction m with
   | zero =>
    intro n acc h1 h2 h3
    have : n = 0 := by simpa using h1
    subst this
    have e : q4i ((⟨#[109]⟩ : ByteArray).size + acc.size) = true := q37 (by
     have : (⟨#[109]⟩ : ByteArray).size = 1 := rfl
     rw [this]; omega)
    exact ⟨_, Al2.succ (Al2.now fun k k1 => by rw [q09.L4_eq, show decide (((0 : Nat) : Int) > 0) = false from rfl, q0o, e, q0n])⟩
   | succ m ih =>
    intro n acc h1 h2 h3
    by_cases hz : n = 0
    ·subst hz
     have e : q4i ((⟨#[109]⟩ : ByteArray).size + acc.size) = true := q37 (by
      have : (⟨#[109]⟩ : ByteArray).size = 1 := rfl
      rw [this]; omega)
     exact ⟨_, Al2.succ (Al2.now fun k k1 => by rw [q09.L4_eq, show decide (((0 : Nat) : Int) > 0) = false from rfl, q0o, e, q0n])⟩
    ·have hs : (strOf [(IntKind.u8.wrap (w64 ((48 : Int) + ((n : Int).tmod (10 : Int)))))]).size = 1 := qge _
     obtain ⟨t, ht⟩ := ih (n / 10) (strOf [(IntKind.u8.wrap (w64 ((48 : Int) + ((n : Int).tmod (10 : Int)))))] ++ acc) (by rw [Nat.pow_succ] at h1; omega) (by omega) (by rw [ByteArray.size_append, hs]; omega)
     refine ⟨t, Al2.succ (ht.mono fun k k1 e => ?_)⟩
     have e1 : decide ((n : Int) > 0) = true := decide_eq_true (by omega)
     have e2 : q4i ((strOf [(IntKind.u8.wrap (w64 ((48 : Int) + ((n : Int).tmod (10 : Int)))))]).size + acc.size) = true := q37 (by
      rw [hs]; omega)
     have e3 : w64 ((n : Int).tdiv 10) = ((n / 10 : Nat) : Int) := by
      rw [show (n : Int).tdiv 10 = ((n / 10 : Nat) : Int) from rfl, w64, qg3 (by omega) (by omega)]
     rw [q09.L4_eq, e1, q0n, show decide ((10 : Int) ≠ 0) = true from rfl, q0n, e2, q0n, q0n, e3, e]
  obtain ⟨t, ht⟩ := key 19 n bz (by omega) hn (by decide)
  refine ⟨t, ht.diag.mono fun k e => ?_⟩
  rw [q09.f_eq, decide_eq_false (by omega), q0o]
  exact e
noncomputable def mT (n : Nat) : ByteArray := open Classical in if h : ∃ t, Al fun k => q09.f k (n : Int) = some t then h.choose else bz
theorem q3c (n : Nat) (hn : n ≤ 4611686018427387904) : Al fun k => q09.f k (n : Int) = some (mT n) := by
 have h := qep n hn
 unfold mT
 rw [dif_pos h]
 exact h.choose_spec
theorem q4o (m : Nat) (h : m ≤ 4611686018427387904) : w64 ((m : Int) + 1) = ((m + 1 : Nat) : Int) := by rw [w64, qg3 (by omega) (by omega)]; omega
noncomputable def mkE : Nat → Nat → List En
 | 0, _ => []
 | n + 1, m => (mT m, mT (m + 1)) :: mkE n (m + 2)
noncomputable def mkA : Nat → Nat → List Aff
 | 0, _ => []
 | n + 1, m => (mT m, (((m + 1 : Nat) : Int).tmod 3 == 0), mT (m + 2), mT (m + 3), mT (m + 4)) :: mkA n (m + 5)
noncomputable def mkS : Nat → Nat → List ByteArray
 | 0, _ => []
 | n + 1, m => mT m :: mkS n (m + 1)
theorem q73 : ∀ (t a : List ByteArray) (m : Nat), a.length + t.length ≤ 1099511627776 → m + t.length ≤ 1099511627776 → Al2 fun k k1 => q0h.L2 k k1 (a ++ t) (m : Int) (a.length : Int) = some (((m + t.length : Nat) : Int), a ++ mkS t.length m)
 | [], a, m, h1, h2 => Al2.succ (Al2.now fun k k1 => by
  simp only [q0h.L2_eq, List.append_nil, at_end (Nat.lt_irrefl _), q0o, List.length_nil, Nat.add_zero, mkS])
 | x :: t, a, m, h1, h2 => by
  rw [List.length_cons] at h1 h2
  have hi : a.length < (a ++ x :: t).length := by simp
  obtain ⟨c1, c2, c3, c4⟩ := q4v hi (by simp only [List.length_append, List.length_cons]; omega)
  have ih := q73 t (a ++ [mT m]) (m + 1) (by rw [List.length_append]; simp; omega) (by omega)
  refine Al2.succ (((q3c m (by omega)).snd.and ih).mono fun k k1 ⟨e1, e2⟩ => ?_)
  simp only [q0h.L2_eq, c1, c2, c3, Bool.and_self, q0n, e1, Option.bind_some, set_mid, q4o m (by omega)]
  simp only [w64, c4]
  rw [show a ++ mT m :: t = a ++ [mT m] ++ t by simp, show ((a.length + 1 : Nat) : Int) = ((a ++ [mT m]).length : Int) by simp, e2]
  simp only [List.length_cons, mkS, List.append_assoc, List.cons_append, List.nil_append]
  rw [show m + 1 + t.length = m + (t.length + 1) by omega]
theorem q5y : ∀ (t a : List En) (m : Nat), a.length + t.length ≤ 1099511627776 → m + 2 * t.length ≤ 1099511627776 → Al2 fun k k1 => q0a.L2 k k1 (a ++ t) (m : Int) (a.length : Int) = some (((m + 2 * t.length : Nat) : Int), a ++ mkE t.length m)
 | [], a, m, h1, h2 => Al2.succ (Al2.now fun k k1 => by
  simp only [q0a.L2_eq, List.append_nil, at_end (Nat.lt_irrefl _), q0o, List.length_nil, Nat.mul_zero, Nat.add_zero, mkE])
 | x :: t, a, m, h1, h2 => by
  rw [List.length_cons] at h1 h2
  have hi : a.length < (a ++ x :: t).length := by simp
  obtain ⟨c1, c2, c3, c4⟩ := q4v hi (by simp only [List.length_append, List.length_cons]; omega)
  have hi2 : decide ((a.length : Int) < ((a ++ (mT m, x.2) :: t).length : Int)) = true := decide_eq_true (by simp only [List.length_append, List.length_cons]; omega)
  have ih := q5y t (a ++ [(mT m, mT (m + 1))]) (m + 2) (by rw [List.length_append]; simp; omega) (by omega)
  have j7 : Al3 fun k k1 k2 => q0a.J7 k k1 k2 (a ++ (mT m, mT (m + 1)) :: t) ((m + 1 : Nat) : Int) (a.length : Int) = some (((m + 2 * (x :: t).length : Nat) : Int), a ++ mkE (x :: t).length m) := Al3.succ (ih.fst.mono fun k k1 k2 e => by
   simp only [q0a.J7_eq, q4o (m + 1) (by omega)]
   simp only [w64, c4]
   rw [show a ++ (mT m, mT (m + 1)) :: t = a ++ [(mT m, mT (m + 1))] ++ t by simp, show ((a.length + 1 : Nat) : Int) = ((a ++ [(mT m, mT (m + 1))]).length : Int) by simp, e]
   simp only [List.length_cons, mkE, List.append_assoc, List.cons_append, List.nil_append]
   rw [show m + 2 + 2 * t.length = m + 2 * (t.length + 1) by omega])
  refine Al2.succ ((((q3c m (by omega)).snd.and (q3c (m + 1) (by omega)).snd).and j7.in2).mono fun k k1 ⟨⟨e1, e2⟩, e3⟩ => ?_)
  simp only [q0a.L2_eq, c1, c2, c3, Bool.and_self, q0n, e1, Option.bind_some, set_mid, q5x, q4o m (by omega), e2, hi2, e3]
theorem q60 : ∀ (t a : List Aff) (m : Nat), a.length + t.length ≤ 1099511627776 → m + 5 * t.length ≤ 1099511627776 → Al2 fun k k1 => q08.L2 k k1 (a ++ t) (m : Int) (a.length : Int) = some (((m + 5 * t.length : Nat) : Int), a ++ mkA t.length m)
 | [], a, m, h1, h2 => Al2.succ (Al2.now fun k k1 => by
  simp only [q08.L2_eq, List.append_nil, at_end (Nat.lt_irrefl _), q0o, List.length_nil, Nat.mul_zero, Nat.add_zero, mkA])
 | x :: t, a, m, h1, h2 => by
  rw [List.length_cons] at h1 h2
  have hi : a.length < (a ++ x :: t).length := by simp
  have hS : (a ++ x :: t).length ≤ 4611686018427387904 := by simp only [List.length_append, List.length_cons]; omega
  obtain ⟨c1, c2, c3, c4⟩ := q4v hi hS
  have lt : ∀ y : Aff, decide ((a.length : Int) < ((a ++ y :: t).length : Int)) = true := fun y => decide_eq_true (by simp only [List.length_append, List.length_cons]; omega)
  let y : Aff := (mT m, (((m + 1 : Nat) : Int).tmod 3 == 0), mT (m + 2), mT (m + 3), mT (m + 4))
  have ih := q60 t (a ++ [y]) (m + 5) (by rw [List.length_append]; simp; omega) (by omega)
  have fin : ((m + 5 + 5 * t.length : Nat) : Int) = ((m + 5 * (x :: t).length : Nat) : Int) := by simp only [List.length_cons]; omega
  have j11 : Al3 fun k k1 k2 => q08.J11 k k1 k2 (a ++ (mT m, (((m + 1 : Nat) : Int).tmod 3 == 0), mT (m + 2), mT (m + 3), x.2.2.2.2) :: t) ((m + 3 : Nat) : Int) (a.length : Int) = some (((m + 5 * (x :: t).length : Nat) : Int), a ++ mkA (x :: t).length m) := Al3.succ ((ih.fst.and (q3c (m + 4) (by omega)).thd).mono fun k k1 k2 ⟨e, e1⟩ => by
   simp only [q08.J11_eq, q4o (m + 3) (by omega), q4o (m + 3 + 1) (by omega), e1, Option.bind_some, c2, c3, lt, Bool.and_self, q0n, set_mid, q5x]
   simp only [w64, c4]
   rw [show a ++ (mT m, (((m + 1 : Nat) : Int).tmod 3 == 0), mT (m + 2), mT (m + 3), mT (m + 4)) :: t = a ++ [y] ++ t by simp [y], show ((a.length + 1 : Nat) : Int) = ((a ++ [y]).length : Int) by simp, show m + 3 + 1 + 1 = m + 5 by omega, e, fin]
   simp only [List.length_cons, mkA, List.append_assoc, List.cons_append, List.nil_append]
   rfl)
  have j7 : Al3 fun k k1 k2 => q08.J7 k k1 k2 (a ++ (mT m, (((m + 1 : Nat) : Int).tmod 3 == 0), x.2.2) :: t) ((m + 1 : Nat) : Int) (a.length : Int) = some (((m + 5 * (x :: t).length : Nat) : Int), a ++ mkA (x :: t).length m) := Al3.succ (((j11.and (q3c (m + 2) (by omega)).thd).and (q3c (m + 3) (by omega)).thd).mono fun k k1 k2 ⟨⟨e, e1⟩, e2⟩ => by
   simp only [q08.J7_eq, q4o (m + 1) (by omega), q4o (m + 1 + 1) (by omega), show m + 1 + 1 = m + 2 from rfl, show m + 2 + 1 = m + 3 from rfl, e1, e2, Option.bind_some, c2, c3, lt, Bool.and_self, q0n, set_mid, q5x]
   exact e)
  refine Al2.succ (((q3c m (by omega)).snd.and j7.in2).mono fun k k1 ⟨e1, e3⟩ => ?_)
  simp only [q08.L2_eq, c1, c2, c3, Bool.and_self, q0n, e1, Option.bind_some, set_mid, q5x, q4o m (by omega), lt, show decide ((3 : Int) ≠ 0) = true from rfl]
  exact e3
noncomputable def mkBk (b : Book) (m : Nat) : Book := (mkA b.1.length m, mkE b.2.length (m + 5 * b.1.length))
theorem qae (b : Book) (m : Nat) (h1 : b.1.length ≤ 1000000000) (h2 : b.2.length ≤ 1000000000) (hm : m ≤ 1000000000) : Al fun k => q29.f k b (m : Int) = some (((m + 5 * b.1.length + 2 * b.2.length : Nat) : Int), mkBk b m) :=
 ((q60 b.1 [] m (by simp; omega) (by omega)).diag.and (q5y b.2 [] (m + 5 * b.1.length) (by simp; omega) (by omega)).diag).mono fun k ⟨e1, e2⟩ => by
  simp only [List.nil_append, List.length_nil] at e1 e2
  simp only [q29.f_eq, q08.f_eq, q0a.f_eq]
  rw [show (0 : Int) = ((0 : Nat) : Int) from rfl, e1, Option.bind_some, e2]
  rfl
theorem qb7 : ∀ (n m : Nat), (mkA n m).length = n
 | 0, _ => rfl
 | n + 1, m => by rw [mkA, List.length_cons, qb7]
theorem qb8 : ∀ (n m : Nat), (mkE n m).length = n
 | 0, _ => rfl
 | n + 1, m => by rw [mkE, List.length_cons, qb8]
theorem q82 : ∀ (n : Nat) (a : List En) (m : Nat), a.length + n ≤ 1099511627776 → m + 2 * n ≤ 1099511627776 → Al2 fun k k1 => q0t.L2 k k1 (a ++ mkE n m) (m : Int) (a.length : Int) = some ((m + 2 * n : Nat) : Int)
 | 0, a, m, h1, h2 => Al2.succ (Al2.now fun k k1 => by
  simp only [q0t.L2_eq, mkE, List.append_nil, at_end (Nat.lt_irrefl _), q0o, Nat.mul_zero, Nat.add_zero])
 | n + 1, a, m, h1, h2 => by
  have hi : a.length < (a ++ mkE (n + 1) m).length := by simp [mkE]
  obtain ⟨c1, c2, c3, c4⟩ := q4v hi (by simp only [List.length_append, qb8]; omega)
  have ih := q82 n (a ++ [(mT m, mT (m + 1))]) (m + 2) (by rw [List.length_append]; simp; omega) (by omega)
  refine Al2.succ ((((q3c m (by omega)).snd.and (q3c (m + 1) (by omega)).snd).and ih).mono fun k k1 ⟨⟨e1, e2⟩, e3⟩ => ?_)
  simp only [q0t.L2_eq, c1, c2, c3, Bool.and_self, q0n, e1, Option.bind_some, q4o m (by omega), q4o (m + 1) (by omega), e2]
  simp only [mkE, q5x, beq_self_eq_true, Bool.not_true, q0o]
  simp only [w64, c4]
  rw [show a ++ (mT m, mT (m + 1)) :: mkE n (m + 2) = a ++ [(mT m, mT (m + 1))] ++ mkE n (m + 2) by simp, show ((a.length + 1 : Nat) : Int) = ((a ++ [(mT m, mT (m + 1))]).length : Int) by simp, show m + 1 + 1 = m + 2 from rfl, e3]
  rw [show m + 2 + 2 * n = m + 2 * (n + 1) by omega]
theorem q83 : ∀ (n : Nat) (a : List Aff) (m : Nat), a.length + n ≤ 1099511627776 → m + 5 * n ≤ 1099511627776 → Al2 fun k k1 => q0u.L2 k k1 (a ++ mkA n m) (m : Int) (a.length : Int) = some ((m + 5 * n : Nat) : Int)
 | 0, a, m, h1, h2 => Al2.succ (Al2.now fun k k1 => by
  simp only [q0u.L2_eq, mkA, List.append_nil, at_end (Nat.lt_irrefl _), q0o, Nat.mul_zero, Nat.add_zero])
 | n + 1, a, m, h1, h2 => by
  have hi : a.length < (a ++ mkA (n + 1) m).length := by simp [mkA]
  obtain ⟨c1, c2, c3, c4⟩ := q4v hi (by simp only [List.length_append, qb7]; omega)
  have ih := q83 n (a ++ [(mT m, (((m + 1 : Nat) : Int).tmod 3 == 0), mT (m + 2), mT (m + 3), mT (m + 4))]) (m + 5) (by rw [List.length_append]; simp; omega) (by omega)
  refine Al2.succ ((((q3c m (by omega)).snd.and (q3c (m + 2) (by omega)).snd).and (((q3c (m + 3) (by omega)).snd.and (q3c (m + 4) (by omega)).snd).and ih)).mono fun k k1 ⟨⟨e1, e2⟩, ⟨e3, e4⟩, e5⟩ => ?_)
  simp only [q0u.L2_eq, c1, c2, c3, Bool.and_self, q0n, e1, Option.bind_some, q4o m (by omega), q4o (m + 1) (by omega), show m + 1 + 1 = m + 2 from rfl, q4o (m + 2) (by omega), show m + 2 + 1 = m + 3 from rfl, q4o (m + 3) (by omega), show m + 3 + 1 = m + 4 from rfl, q4o (m + 4) (by omega), show m + 4 + 1 = m + 5 from rfl, e2, e3, e4, show decide ((3 : Int) ≠ 0) = true from rfl]
  simp only [mkA, q5x, beq_self_eq_true, Bool.not_true, q0o]
  simp only [w64, c4]
  rw [show a ++ (mT m, (((m + 1 : Nat) : Int).tmod 3 == 0), mT (m + 2), mT (m + 3), mT (m + 4)) :: mkA n (m + 5) = a ++ [(mT m, (((m + 1 : Nat) : Int).tmod 3 == 0), mT (m + 2), mT (m + 3), mT (m + 4))] ++ mkA n (m + 5) by simp, show ((a.length + 1 : Nat) : Int) = ((a ++ [((mT m, (((m + 1 : Nat) : Int).tmod 3 == 0), mT (m + 2), mT (m + 3), mT (m + 4)) : Aff)]).length : Int) by simp, e5]
  rw [show m + 5 + 5 * n = m + 5 * (n + 1) by omega]
end Go.Proofs.YtnjdoinlnbjedaaGreatDoor.Rf
end

section
/- What an argument of the laws is good for. -/
namespace Go.Proofs.YtnjdoinlnbjedaaGreatDoor.Rf
open Go Go.RowKit
set_option linter.unusedVariables false
set_option linter.unusedSimpArgs false
theorem qlq {a : Aff} (h : q6s (.st (.pair .str (.pair .bool (.pair .str (.pair .str .str))))) a) : bgA a := ⟨h.1, h.2.2.1, h.2.2.2.1, h.2.2.2.2⟩
theorem qlr {e : En} (h : q6s (.st (.pair .str .str)) e) : bgE e := h
theorem qk9 {b : Book} (h : q6s (.st (.pair (.row (.st (.pair .str (.pair .bool (.pair .str (.pair .str .str)))))) (.row (.st (.pair .str .str))))) b) : bgB b :=
 ⟨⟨h.1.1, fun a ha => qlq (h.1.2 a ha)⟩, h.2.1, fun e he => qlr (h.2.2 e he)⟩
end Go.Proofs.YtnjdoinlnbjedaaGreatDoor.Rf
end

section
/- Marks in a delta, and that they are found again. -/
namespace Go.Proofs.YtnjdoinlnbjedaaGreatDoor.Rf
open Go Go.RowKit
set_option linter.unusedVariables false
set_option linter.unusedSimpArgs false
theorem qb9 : ∀ (n m : Nat), (mkS n m).length = n
 | 0, _ => rfl
 | n + 1, m => by rw [mkS, List.length_cons, qb9]
theorem q74 : ∀ (n : Nat) (a : List ByteArray) (m : Nat), a.length + n ≤ 1099511627776 → m + n ≤ 1099511627776 → Al2 fun k k1 => q0i.L2 k k1 (a ++ mkS n m) (m : Int) (a.length : Int) = some ((m + n : Nat) : Int)
 | 0, a, m, h1, h2 => Al2.succ (Al2.now fun k k1 => by
  simp only [q0i.L2_eq, mkS, List.append_nil, at_end (Nat.lt_irrefl _), q0o, Nat.add_zero])
 | n + 1, a, m, h1, h2 => by
  have hi : a.length < (a ++ mkS (n + 1) m).length := by simp [mkS]
  obtain ⟨c1, c2, c3, c4⟩ := q4v hi (by simp only [List.length_append, qb9]; omega)
  have ih := q74 n (a ++ [mT m]) (m + 1) (by rw [List.length_append]; simp; omega) (by omega)
  refine Al2.succ (((q3c m (by omega)).snd.and ih).mono fun k k1 ⟨e1, e3⟩ => ?_)
  simp only [q0i.L2_eq, c1, c2, c3, Bool.and_self, q0n, e1, Option.bind_some, q4o m (by omega)]
  simp only [mkS, q5x, beq_self_eq_true, Bool.not_true, q0o]
  simp only [w64, c4]
  rw [show a ++ mT m :: mkS n (m + 1) = a ++ [mT m] ++ mkS n (m + 1) by simp, show ((a.length + 1 : Nat) : Int) = ((a ++ [mT m]).length : Int) by simp, e3]
  rw [show m + 1 + n = m + (n + 1) by omega]
noncomputable def qls (d : Delta) (m : Nat) : Delta := (mkS d.1.length m, mkE d.2.1.length (m + d.1.length), d.2.2.1, mkA d.2.2.2.length (m + d.1.length + 2 * d.2.1.length))
theorem qce (d : Delta) (m : Nat) (h1 : d.1.length ≤ 1000000000) (h2 : d.2.1.length ≤ 1000000000) (h3 : d.2.2.2.length ≤ 1000000000) (hm : m ≤ 100000000000) : Al fun k => q1y.f k d (m : Int) = some (((m + d.1.length + 2 * d.2.1.length + 5 * d.2.2.2.length : Nat) : Int), qls d m) :=
 (((q73 d.1 [] m (by simp; omega) (by omega)).diag.and (q5y d.2.1 [] (m + d.1.length) (by simp; omega) (by omega)).diag).and (q60 d.2.2.2 [] (m + d.1.length + 2 * d.2.1.length) (by simp; omega) (by omega)).diag).mono fun k ⟨⟨e0, e1⟩, e2⟩ => by
  simp only [List.nil_append, List.length_nil] at e0 e1 e2
  simp only [q1y.f_eq, q08.f_eq, q0a.f_eq, q0h.f_eq]
  rw [show (0 : Int) = ((0 : Nat) : Int) from rfl, e0, Option.bind_some, e1, Option.bind_some, e2]
  rfl
theorem qdv (d : Delta) (m : Nat) (h1 : d.1.length ≤ 1000000000) (h2 : d.2.1.length ≤ 1000000000) (h3 : d.2.2.2.length ≤ 1000000000) (hm : m ≤ 100000000000) : Al fun k => q1w.f k (qls d m) (m : Int) = some ((m + d.1.length + 2 * d.2.1.length + 5 * d.2.2.2.length : Nat) : Int) :=
 (((q74 d.1.length [] m (by simp; omega) (by omega)).diag.and (q82 d.2.1.length [] (m + d.1.length) (by simp; omega) (by omega)).diag).and (q83 d.2.2.2.length [] (m + d.1.length + 2 * d.2.1.length) (by simp; omega) (by omega)).diag).mono fun k ⟨⟨e0, e1⟩, e2⟩ => by
  simp only [List.nil_append, List.length_nil] at e0 e1 e2
  simp only [q1w.f_eq, q0u.f_eq, q0t.f_eq, q0i.f_eq, qls]
  rw [show (0 : Int) = ((0 : Nat) : Int) from rfl, e0, Option.bind_some, decide_eq_false (by omega), q0o, e1, Option.bind_some, decide_eq_false (by omega), q0o, e2, Option.bind_some, decide_eq_false (by omega), q0o]
end Go.Proofs.YtnjdoinlnbjedaaGreatDoor.Rf
end

section
/- The laws' words on releases: sizes, copies, equals, marks. -/
namespace Go.Proofs.YtnjdoinlnbjedaaGreatDoor.Rf
open Go Go.RowKit
set_option linter.unusedVariables false
set_option linter.unusedSimpArgs false
abbrev qmr : Ty := .st (.pair (.row (.st (.pair .str (.pair .bool (.pair .str (.pair .str .str)))))) (.row (.st (.pair .str .str))))
abbrev TyDl : Ty := .st (.pair (.row .str) (.pair (.row (.st (.pair .str .str))) (.pair .bool (.row (.st (.pair .str (.pair .bool (.pair .str (.pair .str .str)))))))))
abbrev TyRl : Ty := .st (.pair (.int .i64) (.pair TyDl (.pair .str .str)))
def bgR (r : Release) : Prop := bgD r.2.1 ∧ Big r.2.2.1.size ∧ Big r.2.2.2.size
def szRl (r : Release) : Nat := szDl r.2.1 + (r.2.2.1.size + r.2.2.2.size)
def lnD (d : Delta) : Prop := d.1.length ≤ 1048576 ∧ d.2.1.length ≤ 1048576 ∧ d.2.2.2.length ≤ 1048576
theorem qlt {d : Delta} (h : q3y d = true) : lnD d := by have := qhu h; unfold lnD; omega
theorem qka {b : Book} (h : qgd b ≤ 1048576) : b.1.length ≤ 1048576 ∧ b.2.length ≤ 1048576 := by unfold qgd qgc qjn at h; omega
theorem qan (r : Release) (h : lnD r.2.1) : Al fun k => q1v.f k r r = some true := by
 unfold lnD at h
 refine (qdu r.2.1 (by unfold Sm; omega) (by unfold Sm; omega) (by unfold Sm; omega)).mono fun k e => ?_
 simp only [q1v.f_eq, bne_self_eq_false, q0o, e, Option.bind_some, Bool.not_true, beq_self_eq_true]
def nD (d : Delta) : Nat := d.1.length + 2 * d.2.1.length + 5 * d.2.2.2.length
noncomputable def qmh (r : Release) (m : Nat) : Release := (r.1, qls r.2.1 m, r.2.2)
theorem qao (r : Release) (m : Nat) (h : lnD r.2.1) (hm : m ≤ 100000000000) : Al fun k => q1o.f k r (m : Int) = some (((m + nD r.2.1 : Nat) : Int), qmh r m) := by
 unfold lnD at h
 refine (qce r.2.1 m (by omega) (by omega) (by omega) hm).mono fun k e => ?_
 rw [q1o.f_eq, e, Option.bind_some]
 simp only [nD, ← Nat.add_assoc]
 rfl
theorem qap (r : Release) (m : Nat) (h : lnD r.2.1) (hm : m ≤ 100000000000) : Al fun k => q1m.f k (qmh r m) (m : Int) = some ((m + nD r.2.1 : Nat) : Int) := by
 unfold lnD at h
 refine (qdv r.2.1 m (by omega) (by omega) (by omega) hm).mono fun k e => ?_
 rw [q1m.f_eq]
 show (q1w.f k (qls r.2.1 m) (m : Int)).bind _ = _
 rw [e, Option.bind_some, decide_eq_false (by omega), q0o]
 simp only [nD, ← Nat.add_assoc]
end Go.Proofs.YtnjdoinlnbjedaaGreatDoor.Rf
end

section
/- The law FnExactReleaseOf is true. -/
namespace Go.Proofs.YtnjdoinlnbjedaaGreatDoor.Rf
open Go Go.RowKit
set_option linter.unusedVariables false
set_option linter.unusedSimpArgs false
theorem qia (key : ByteArray) (n : Int) (a b : Book) : lnD (q4s key n a b).1.2.1 := by
 unfold q4s
 split
 ·rename_i h
  simp only [Bool.and_eq_true] at h
  split
  ·exact qlt (q7x h.2.2.1 h.2.2.2)
  ·simp [lnD, zR]
 ·simp [lnD, zR]
theorem q6k (key : ByteArray) (n : Int) (a b : Book) (hk : q6s .str key) (hn : q6s (.int .i64) n) (ha : q6s qmr a) (hb : q6s qmr b) : ∃ k, q00.f k key n a b = some true := by
 by_cases hk1 : key.size ≤ 1048576
 case neg => exact ⟨0, by rw [q00.f_eq, decide_eq_true (by omega), q0n]⟩
 have hK : decide ((key.size : Int) > 1048576) = false := decide_eq_false (by omega)
 have s1 := qdq a 1048576 (by omega) (by omega) (qk9 ha)
 by_cases h1 : qgd a ≤ 1048576
 case neg =>
  exact (s1.mono fun k e => by
   rw [q00.f_eq, hK, q0o, e, Option.bind_some, q4h _ _ (by omega), decide_eq_true (by omega), q0n]).get
 have e1 : q7y 1048576 (qgd a) = 1048576 - qgd a := if_pos (by omega)
 have s2 := qdq b (1048576 - qgd a) (by omega) (by omega) (qk9 hb)
 by_cases h2 : qgd a + qgd b ≤ 1048576
 case neg =>
  exact ((s1.and s2).mono fun k ⟨e, e2⟩ => by
   rw [q00.f_eq, hK, q0o, e, Option.bind_some, q4h _ _ (by omega), decide_eq_false (by omega), q0o, e1, e2, Option.bind_some, q4h _ _ (by omega), decide_eq_true (by omega), q0n]).get
 have ma := qk8 (b := a) (by omega)
 have mb := qk8 (b := b) (by omega)
 have la := qka (b := a) (by omega)
 have lb := qka (b := b) (by omega)
 have lr := qia key n a b
 have hI := q8h key n a b (by omega) ma mb
 have hS := q8i key n a b (by omega) ma mb
 have hE := qan (q4s key n a b).1 lr
 have hM := qao (q4s key n a b).1 1 lr (by omega)
 have hH := qap (q4s key n a b).1 1 lr (by omega)
 have tA := qdr a ma
 have tB := qdr b mb
 have j34 : Al fun k => q00.J34 k (q4s key n a b).1 (q4s key n a b).2 (qmh (q4s key n a b).1 1) ((1 + nD (q4s key n a b).1.2.1 : Nat) : Int) (q4s key n a b).1 (q4s key n a b).2 = some true :=
  Al.succ ((hE.and hH).mono fun k ⟨e, e2⟩ => by
   rw [show ((1 : Nat) : Int) = 1 from rfl] at e2
   rw [q00.J34_eq, e, Option.bind_some, Bool.not_true, q0o, beq_self_eq_true, Bool.not_true, q0o, e2, Option.bind_some, decide_eq_false (by omega), q0o, bne_self_eq_false, q0o])
 have j25 : Al fun k => q00.J25 k key n a b (q4s key n a b).1 (q4s key n a b).2 (q4s key n a b).1 = some true :=
  Al.succ ((((hM.and hH).and (tA.and tB)).and (hI.and j34)).mono fun k ⟨⟨⟨e, e2⟩, e3, e4⟩, e5, e6⟩ => by
   rw [show ((1 : Nat) : Int) = 1 from rfl] at e e2
   rw [q00.J25_eq, e, Option.bind_some]
   dsimp only
   rw [e2, Option.bind_some, decide_eq_false (by omega), q0o, bne_self_eq_false, q0o, e3, Option.bind_some, e4, Option.bind_some, e5, Option.bind_some, e6])
 have j16 : Al fun k => q00.J16 k key n a b (q4s key n a b).1 (q4s key n a b).2 a b (q4s key n a b).1 (q4s key n a b).2 = some true :=
  Al.succ (((((tA.and tB).and ((qad a (by unfold Sm; omega) (by unfold Sm; omega)).and (qad b (by unfold Sm; omega) (by unfold Sm; omega)))).and
   ((qae a 1 (by omega) (by omega) (by omega)).and (qae b (1 + 5 * a.1.length + 2 * a.2.length) (by omega) (by omega) (by omega)))).and (hE.and j25)).mono fun k ⟨⟨⟨⟨e3, e4⟩, e5, e6⟩, e7, e8⟩, e9, e10⟩ => by
   rw [show ((1 : Nat) : Int) = 1 from rfl] at e7
   rw [q00.J16_eq, e3, Option.bind_some, e5, Option.bind_some, Bool.not_true, q0o, e4, Option.bind_some, e6, Option.bind_some, Bool.not_true, q0o, e7, Option.bind_some]
   dsimp only
   rw [e8, Option.bind_some, decide_eq_false (by omega), q0o, e9, Option.bind_some, Bool.not_true, q0o, beq_self_eq_true, Bool.not_true, q0o, e10])
 have j11 : Al fun k => q00.J11 k key n a b (q4s key n a b).1 (q4s key n a b).2 = some true :=
  Al.succ ((((tA.and tB).and hI).and (hE.and j16)).mono fun k ⟨⟨⟨e3, e4⟩, e5⟩, e9, e10⟩ => by
   rw [q00.J11_eq, e3, Option.bind_some, e4, Option.bind_some, e5, Option.bind_some, e9, Option.bind_some, Bool.not_true, q0o, beq_self_eq_true, Bool.not_true, q0o, e10])
 refine ((((s1.and s2).and (tA.and tB)).and (hS.and j11)).mono fun k ⟨⟨⟨z1, z2⟩, e3, e4⟩, e5, e6⟩ => ?_).get
 rw [q00.f_eq, hK, q0o, z1, Option.bind_some, q4h _ _ (by omega), decide_eq_false (by omega), q0o, e1, z2, Option.bind_some, q4h _ _ (by omega), decide_eq_false (by omega), q0o, e3, Option.bind_some, e4, Option.bind_some, e5, Option.bind_some, e6]
end Go.Proofs.YtnjdoinlnbjedaaGreatDoor.Rf
end

section
/- What a row that lists package variables gives, and that these read behind a call as before. -/
namespace Go.Proofs.YtnjdoinlnbjedaaGreatDoor.Frame
open Go.RowKit Go.ChangeShapes
set_option linter.unusedVariables false
theorem tabIs_of_vars {P : Program} {W : World} {name : String} {k : IntKind} {zs : List Int} {g : Nat} {t e : TypeId} {n : Nat}
  (hg : P.globalNamed name = some g) (hty : (P.globals[g]?).map (·.type) = some t) (ht : P.underlying t = some (.array n e)) (he : P.underlying e = some (.int k)) (hce : P.cellsOf e = 1) (hct : P.cellsOf t = n) :
  ∀ (l : List (String × DataW Unit)) (ps : List MemPlace), DataW.LaidVars P W l ps → (name, Lib.tabData k zs) ∈ l → Lib.TabIs P W name k zs
 | [], _, _, hm => by simp at hm
 | (n', d') :: rest, ps, ⟨g', t', cs, fuel, p, q, hg', ht', hvar, hd, hrest, _⟩, hm => by
  rcases List.mem_cons.1 hm with h | h
  ·injection h with h1 h2
   subst h1
   subst h2
   obtain rfl := Option.some.inj (hg.symm.trans hg')
   obtain rfl := Option.some.inj (hty.symm.trans ht')
   unfold Lib.TabIs
   rw [hvar, ← Lib.cells_of_tab ht he hce hct hd]
  ·exact tabIs_of_vars hg hty ht he hce hct rest q hrest h
theorem tabIs_of_mem {P : Program} {W : World} {name : String} {k : IntKind} {zs : List Int} {g : Nat} {t e : TypeId} {n : Nat} {l : List (String × DataW Unit)}
  (hg : P.globalNamed name = some g) (hty : (P.globals[g]?).map (·.type) = some t) (ht : P.underlying t = some (.array n e)) (he : P.underlying e = some (.int k)) (hce : P.cellsOf e = 1) (hct : P.cellsOf t = n)
  (h : laidMet P l W) (hm : (name, Lib.tabData k zs) ∈ l) : Lib.TabIs P W name k zs := by
 obtain ⟨ps, hv, _⟩ := h
 exact tabIs_of_vars hg hty ht he hce hct l ps hv hm
theorem varBelow {P : Program} {W W' : World} {n : String} {cs : Array Value} (h : Below W.heap.size W W') (hv : W.var? P n = some cs) : W'.var? P n = some cs := by
 unfold World.var? at hv ⊢
 cases hg : P.globalNamed n with
 | none => simp [hg] at hv
 | some g =>
  simp only [hg, Option.bind_some] at hv ⊢
  have hlt : g < W.heap.size := by
   rcases Nat.lt_or_ge g W.heap.size with h' | h'
   ·exact h'
   ·rw [Array.getElem?_eq_none h'] at hv
    simp at hv
  rw [h.block g hlt]
  exact hv
theorem trodVars_below {H : Type} {enc : TypeId × Value → H} {P : Program} (hl : laidOutB P = true) {W W' : World} (hb : Below W.heap.size W W') :
  ∀ (vars : List String) (gs : List (DataW H)) (q : List MemPlace), DataW.TrodVars enc P W (fun _ => true) vars gs q →
   (∀ n ∈ vars, ∀ g t, P.globalNamed n = some g → (P.globals[g]?).map (·.type) = some t → P.readableRec t = true ∧ t < P.types.size) →
   ∃ pv, DataW.TrodVars enc P W' (fun b => decide (b < W.heap.size)) vars gs pv
 | [], [], q, h, _ => ⟨q, h⟩
 | [], _ :: _, q, h, _ => by simp [DataW.TrodVars] at h
 | _ :: _, [], q, h, _ => by simp [DataW.TrodVars] at h
 | n :: ns, d :: ds, ps, ⟨g, t, cs, fuel, p, q, hg, ht, hvar, hd, hrest, _⟩, hr => by
  obtain ⟨pv, hpv⟩ := trodVars_below hl hb ns ds q hrest (fun m hm => hr m (List.mem_cons_of_mem _ hm))
  obtain ⟨h1, h2⟩ := hr n List.mem_cons_self g t hg ht
  have hT : DataW.Trod enc P W 0 (fun _ => true) true t (.agg cs) d p := ⟨fuel, hd⟩
  obtain ⟨fuel', hd'⟩ := Below.trod hl h1 h2 hT hb (fun x hx => DataW.trod_lt fuel _ _ _ hd x hx)
  exact ⟨_, g, t, cs, fuel', p, pv, hg, ht, varBelow hb hvar, hd', hpv, rfl⟩
theorem trodVars_cons' {H : Type} {enc : TypeId × Value → H} {P : Program} {W : World} {sp : Nat → Bool} {n : String} {ns : List String} {gs : List (DataW H)} {q : List MemPlace} (h : DataW.TrodVars enc P W sp (n :: ns) gs q) :
  ∃ d ds q', gs = d :: ds ∧ DataW.TrodVars enc P W sp ns ds q' := by
 cases gs with
 | nil => simp [DataW.TrodVars] at h
 | cons d ds =>
  obtain ⟨g, t, cs, fuel, p, q', _, _, _, _, hrest, _⟩ := h
  exact ⟨d, ds, q', rfl, hrest⟩
end Go.Proofs.YtnjdoinlnbjedaaGreatDoor.Frame
end

section
/- 'FnExactReleaseOf': for every input it returns true and its arguments read as before. Conditions: those of the given row alone (the listed package variables as the program's text lays them). -/
namespace Go.Proofs.YtnjdoinlnbjedaaGreatDoor.fnExactReleaseOf
open Go.ChangeShapes Go.WideShapes Go.ChangeAt Go.RowKit
open Go.Proofs.YtnjdoinlnbjedaaGreatDoor.Rf Go.Proofs.YtnjdoinlnbjedaaGreatDoor.Frame
set_option linter.unusedVariables false
theorem own : ownKnob Tryz.prog.godebug = none := by kernel_rfl
theorem laidOut : laidOutB Tryz.prog = true := by kernel_rfl
theorem qlu : ∀ n ∈ (["loop.example/medlar/impl.shaStep"] : List String), ∀ g t, Tryz.prog.globalNamed n = some g → (Tryz.prog.globals[g]?).map (·.type) = some t → Tryz.prog.readableRec t = true ∧ t < Tryz.prog.types.size := by
 intro n hn g t hg ht
 simp only [List.mem_cons, List.not_mem_nil, or_false] at hn
 subst hn
 ·obtain rfl := Option.some.inj ((show Tryz.prog.globalNamed "loop.example/medlar/impl.shaStep" = some 0 by kernel_rfl).symm.trans hg)
  obtain rfl := Option.some.inj ((show (Tryz.prog.globals[0]?).map (·.type) = some 138 by kernel_rfl).symm.trans ht)
  exact ⟨by kernel_rfl, of_decide_eq_true (by kernel_rfl)⟩
set_option maxRecDepth 100000 in
theorem contract (H : Type) (enc : TypeId × Value → H) (W : World) (base : Nat) (args : Array Value) (ds gs : List (DataW H)) (before : List MemPlace)
  (hval0 : ∀ (j : Nat) t v, Tryz.f4.params[j]? = some t → args[j]? = some v → Value.okWide Tryz.prog W .any base t v)
  (hW : DataW.Whole enc Tryz.prog Tryz.f4.params.toList Rows.fnExactReleaseOfSpec.vars false W args.toList ds gs before)
  (hsz0 : (DataW.weightsEach Tryz.prog (Tryz.f4.params.toList ++ (OpenSpec.ofChange Rows.fnExactReleaseOfSpec).bare.plain.varTypes Tryz.prog) (ds ++ gs)).all (· ≤ reachBytes) = true)
  (hL : laidMetH Tryz.prog Rows.fnExactReleaseOfRow.laid W) (hsh : W.ShapedOpen Tryz.prog) :
  Calls Tryz.prog 4 args W fun e W' => ∃ v, e = .returned v ∧ Rows.fnExactReleaseOfSpec.post enc Tryz.prog Tryz.f4 false true false false W args v W' := by
 have hGm : ∃ x : Int, W.cell? ⟨2, 0, none⟩ = some (.int .i64 x) := Go.Proofs.cell_of_shapedOpen_int (zero := #[.int .i64 0]) (t := 3) hsh (of_decide_eq_true (by kernel_rfl)) (by kernel_rfl) rfl (by kernel_rfl) (by kernel_rfl) Tryz.underlying3
 have hGp : Lib.TabIs Tryz.prog W "internal/strconv.uint64pow10" .u64 Lib.pow10Tab := tabIs_of_mem (show Tryz.prog.globalNamed "internal/strconv.uint64pow10" = some 1 by kernel_rfl) (show (Tryz.prog.globals[1]?).map (·.type) = some 198 by kernel_rfl) Tryz.underlying198 Tryz.underlying137 (by kernel_rfl) (by kernel_rfl) hL (by rw [show Lib.tabData .u64 Lib.pow10Tab = Rows.laid_internal_strconv_uint64pow10 from by kernel_rfl]; simp [Rows.fnExactReleaseOfRow])
 have hGs : Lib.TabIs Tryz.prog W "loop.example/medlar/impl.shaStep" .u32 shaTab := tabIs_of_mem (show Tryz.prog.globalNamed "loop.example/medlar/impl.shaStep" = some 0 by kernel_rfl) (show (Tryz.prog.globals[0]?).map (·.type) = some 138 by kernel_rfl) Tryz.underlying138 Tryz.underlying135 (by kernel_rfl) (by kernel_rfl) hL (by rw [show Lib.tabData .u32 shaTab = Rows.laid_loop_example_medlar_impl_shaStep from by kernel_rfl]; simp [Rows.fnExactReleaseOfRow])
 have hJ : Jp.J W := ⟨hGm, hGp, hGs⟩
 clear hsh hL
 have hsz := hsz0
 have hval := hval0
 have hW' := hW
 obtain ⟨p, q, hA0, hV, rfl, hfz, hnd⟩ := hW
 have hA : DataW.TrodAll enc Tryz.prog W 0 (fun _ => true) true Tryz.f4.params.toList args.toList ds p := hA0
 rw [Tryz.params4] at hA hval
 obtain ⟨v0, vs0, d0, ds0, p0, q0, hargs, rfl, rfl, h0, r0⟩ := trodAll_cons hA
 obtain ⟨v1, vs1, d1, ds1, p1, q1, rfl, rfl, rfl, h1, r1⟩ := trodAll_cons r0
 obtain ⟨v2, vs2, d2, ds2, p2, q2, rfl, rfl, rfl, h2, r2⟩ := trodAll_cons r1
 obtain ⟨v3, vs3, d3, ds3, p3, q3, rfl, rfl, rfl, h3, r3⟩ := trodAll_cons r2
 obtain ⟨rfl, rfl, rfl⟩ := trodAll_nil r3
 obtain rfl : args = #[v0, v1, v2, v3] := by cases args; simp_all
 have lt0 : ∀ x ∈ p0, x.block < W.heap.size := by obtain ⟨m, hm⟩ := h0; exact DataW.trod_lt m _ _ _ hm
 obtain ⟨x0, o0, G0⟩ := q96 (τ := .str) (show q3p Tryz.prog .str (.inl 9) = true by kernel_rfl) (hval 0 9 v0 rfl rfl) h0
 have lt1 : ∀ x ∈ p1, x.block < W.heap.size := by obtain ⟨m, hm⟩ := h1; exact DataW.trod_lt m _ _ _ hm
 obtain ⟨x1, o1, G1⟩ := q96 (τ := (.int .i64)) (show q3p Tryz.prog (.int .i64) (.inl 3) = true by kernel_rfl) (hval 1 3 v1 rfl rfl) h1
 have lt2 : ∀ x ∈ p2, x.block < W.heap.size := by obtain ⟨m, hm⟩ := h2; exact DataW.trod_lt m _ _ _ hm
 obtain ⟨x2, o2, G2⟩ := q96 (τ := t38) (show q3p Tryz.prog t38 (.inl 39) = true by kernel_rfl) (hval 2 39 v2 rfl rfl) h2
 have lt3 : ∀ x ∈ p3, x.block < W.heap.size := by obtain ⟨m, hm⟩ := h3; exact DataW.trod_lt m _ _ _ hm
 obtain ⟨x3, o3, G3⟩ := q96 (τ := t38) (show q3p Tryz.prog t38 (.inl 39) = true by kernel_rfl) (hval 3 39 v3 rfl rfl) h3
 obtain ⟨gv0, gw0, qv0, rfl, hv0⟩ := trodVars_cons' hV
 obtain ⟨rfl, _⟩ := trodVars_none hv0
 clear hA0 hval0 hsz0
 obtain ⟨k, hk⟩ := q6k x0 x1 x2 x3 G0 G1 G2 G3
 refine (row_of (q00.q k).1 rfl (x := (x0, x1, x2, x3)) (r := true) hk rfl (Jp_n hJ) hJ rfl ?_).mono fun e W' ⟨he, bel⟩ => ?_
 ·intro i p s hp hs
  match i, hp, hs with
  | 0, _, hs => obtain rfl := Option.some.inj (show some (⟨.str, x0⟩ : Sv) = some s from hs); exact o0
  | 1, _, hs => obtain rfl := Option.some.inj (show some (⟨(.int .i64), x1⟩ : Sv) = some s from hs); exact o1
  | 2, _, hs => obtain rfl := Option.some.inj (show some (⟨t38, x2⟩ : Sv) = some s from hs); exact o2
  | 3, _, hs => obtain rfl := Option.some.inj (show some (⟨t38, x3⟩ : Sv) = some s from hs); exact o3
  | i + 4, hp, _ => simp at hp
 subst he
 obtain ⟨pv, hpv⟩ := trodVars_below laidOut bel _ _ _ hV qlu
 exact ⟨_, rfl, _, _, _, [], _, pv, hW', trodAll_mk1 (shut_bool Tryz.underlying4 _), (trodAll_cons_mk (Below.trod laidOut (by kernel_rfl) (of_decide_eq_true (by kernel_rfl)) h0 bel lt0) (trodAll_cons_mk (Below.trod laidOut (by kernel_rfl) (of_decide_eq_true (by kernel_rfl)) h1 bel lt1) (trodAll_cons_mk (Below.trod laidOut (by kernel_rfl) (of_decide_eq_true (by kernel_rfl)) h2 bel lt2) (trodAll_cons_mk (Below.trod laidOut (by kernel_rfl) (of_decide_eq_true (by kernel_rfl)) h3 bel lt3) trodAll_mk0)))), hpv, bel.frame _, fun h => by cases h⟩
noncomputable def qaf (os : Os) : World := { World.holding Tryz.prog os ⟨#[], #[], []⟩ with heap := (((((((World.holding Tryz.prog os ⟨#[], #[], []⟩).heap.modify 5 fun | .cells _ t frozen => .cells #[.int .u8 0, .int .u8 1, .int .u8 28, .int .u8 2, .int .u8 29, .int .u8 14, .int .u8 24, .int .u8 3, .int .u8 30, .int .u8 22, .int .u8 20, .int .u8 15, .int .u8 25, .int .u8 17, .int .u8 4, .int .u8 8, .int .u8 31, .int .u8 27, .int .u8 13, .int .u8 23, .int .u8 21, .int .u8 19, .int .u8 16, .int .u8 7, .int .u8 26, .int .u8 12, .int .u8 18, .int .u8 6, .int .u8 11, .int .u8 5, .int .u8 10, .int .u8 9] t frozen | o => o).modify 6 fun | .cells _ t frozen => .cells #[.int .u8 0, .int .u8 1, .int .u8 56, .int .u8 2, .int .u8 57, .int .u8 49, .int .u8 28, .int .u8 3, .int .u8 61, .int .u8 58, .int .u8 42, .int .u8 50, .int .u8 38, .int .u8 29, .int .u8 17, .int .u8 4, .int .u8 62, .int .u8 47, .int .u8 59, .int .u8 36, .int .u8 45, .int .u8 43, .int .u8 51, .int .u8 22, .int .u8 53, .int .u8 39, .int .u8 33, .int .u8 30, .int .u8 24, .int .u8 18, .int .u8 12, .int .u8 5, .int .u8 63, .int .u8 55, .int .u8 48, .int .u8 27, .int .u8 60, .int .u8 41, .int .u8 37, .int .u8 16, .int .u8 46, .int .u8 35, .int .u8 44, .int .u8 21, .int .u8 52, .int .u8 32, .int .u8 23, .int .u8 11, .int .u8 54, .int .u8 26, .int .u8 40, .int .u8 15, .int .u8 34, .int .u8 20, .int .u8 31, .int .u8 10, .int .u8 25, .int .u8 14, .int .u8 19, .int .u8 9, .int .u8 13, .int .u8 8, .int .u8 7, .int .u8 6] t frozen | o => o).modify 1 fun | .cells _ t frozen => .cells #[.int .u64 1, .int .u64 10, .int .u64 100, .int .u64 1000, .int .u64 10000, .int .u64 100000, .int .u64 1000000, .int .u64 10000000, .int .u64 100000000, .int .u64 1000000000, .int .u64 10000000000, .int .u64 100000000000, .int .u64 1000000000000, .int .u64 10000000000000, .int .u64 100000000000000, .int .u64 1000000000000000, .int .u64 10000000000000000, .int .u64 100000000000000000, .int .u64 1000000000000000000, .int .u64 10000000000000000000] t frozen | o => o).modify 4 fun | .cells _ t frozen => .cells #[.int .u8 128, .int .u8 191, .int .u8 160, .int .u8 191, .int .u8 128, .int .u8 159, .int .u8 144, .int .u8 191, .int .u8 128, .int .u8 143, .int .u8 0, .int .u8 0, .int .u8 0, .int .u8 0, .int .u8 0, .int .u8 0, .int .u8 0, .int .u8 0, .int .u8 0, .int .u8 0, .int .u8 0, .int .u8 0, .int .u8 0, .int .u8 0, .int .u8 0, .int .u8 0, .int .u8 0, .int .u8 0, .int .u8 0, .int .u8 0, .int .u8 0, .int .u8 0] t frozen | o => o).modify 0 fun | .cells _ t frozen => .cells #[.int .u32 1116352408, .int .u32 1899447441, .int .u32 3049323471, .int .u32 3921009573, .int .u32 961987163, .int .u32 1508970993, .int .u32 2453635748, .int .u32 2870763221, .int .u32 3624381080, .int .u32 310598401, .int .u32 607225278, .int .u32 1426881987, .int .u32 1925078388, .int .u32 2162078206, .int .u32 2614888103, .int .u32 3248222580, .int .u32 3835390401, .int .u32 4022224774, .int .u32 264347078, .int .u32 604807628, .int .u32 770255983, .int .u32 1249150122, .int .u32 1555081692, .int .u32 1996064986, .int .u32 2554220882, .int .u32 2821834349, .int .u32 2952996808, .int .u32 3210313671, .int .u32 3336571891, .int .u32 3584528711, .int .u32 113926993, .int .u32 338241895, .int .u32 666307205, .int .u32 773529912, .int .u32 1294757372, .int .u32 1396182291, .int .u32 1695183700, .int .u32 1986661051, .int .u32 2177026350, .int .u32 2456956037, .int .u32 2730485921, .int .u32 2820302411, .int .u32 3259730800, .int .u32 3345764771, .int .u32 3516065817, .int .u32 3600352804, .int .u32 4094571909, .int .u32 275423344, .int .u32 430227734, .int .u32 506948616, .int .u32 659060556, .int .u32 883997877, .int .u32 958139571, .int .u32 1322822218, .int .u32 1537002063, .int .u32 1747873779, .int .u32 1955562222, .int .u32 2024104815, .int .u32 2227730452, .int .u32 2361852424, .int .u32 2428436474, .int .u32 2756734187, .int .u32 3204031479, .int .u32 3329325298] t frozen | o => o).modify 3 fun | .cells _ t frozen => .cells #[.int .u8 240, .int .u8 240, .int .u8 240, .int .u8 240, .int .u8 240, .int .u8 240, .int .u8 240, .int .u8 240, .int .u8 240, .int .u8 240, .int .u8 240, .int .u8 240, .int .u8 240, .int .u8 240, .int .u8 240, .int .u8 240, .int .u8 240, .int .u8 240, .int .u8 240, .int .u8 240, .int .u8 240, .int .u8 240, .int .u8 240, .int .u8 240, .int .u8 240, .int .u8 240, .int .u8 240, .int .u8 240, .int .u8 240, .int .u8 240, .int .u8 240, .int .u8 240, .int .u8 240, .int .u8 240, .int .u8 240, .int .u8 240, .int .u8 240, .int .u8 240, .int .u8 240, .int .u8 240, .int .u8 240, .int .u8 240, .int .u8 240, .int .u8 240, .int .u8 240, .int .u8 240, .int .u8 240, .int .u8 240, .int .u8 240, .int .u8 240, .int .u8 240, .int .u8 240, .int .u8 240, .int .u8 240, .int .u8 240, .int .u8 240, .int .u8 240, .int .u8 240, .int .u8 240, .int .u8 240, .int .u8 240, .int .u8 240, .int .u8 240, .int .u8 240, .int .u8 240, .int .u8 240, .int .u8 240, .int .u8 240, .int .u8 240, .int .u8 240, .int .u8 240, .int .u8 240, .int .u8 240, .int .u8 240, .int .u8 240, .int .u8 240, .int .u8 240, .int .u8 240, .int .u8 240, .int .u8 240, .int .u8 240, .int .u8 240, .int .u8 240, .int .u8 240, .int .u8 240, .int .u8 240, .int .u8 240, .int .u8 240, .int .u8 240, .int .u8 240, .int .u8 240, .int .u8 240, .int .u8 240, .int .u8 240, .int .u8 240, .int .u8 240, .int .u8 240, .int .u8 240, .int .u8 240, .int .u8 240, .int .u8 240, .int .u8 240, .int .u8 240, .int .u8 240, .int .u8 240, .int .u8 240, .int .u8 240, .int .u8 240, .int .u8 240, .int .u8 240, .int .u8 240, .int .u8 240, .int .u8 240, .int .u8 240, .int .u8 240, .int .u8 240, .int .u8 240, .int .u8 240, .int .u8 240, .int .u8 240, .int .u8 240, .int .u8 240, .int .u8 240, .int .u8 240, .int .u8 240, .int .u8 240, .int .u8 240, .int .u8 240, .int .u8 241, .int .u8 241, .int .u8 241, .int .u8 241, .int .u8 241, .int .u8 241, .int .u8 241, .int .u8 241, .int .u8 241, .int .u8 241, .int .u8 241, .int .u8 241, .int .u8 241, .int .u8 241, .int .u8 241, .int .u8 241, .int .u8 241, .int .u8 241, .int .u8 241, .int .u8 241, .int .u8 241, .int .u8 241, .int .u8 241, .int .u8 241, .int .u8 241, .int .u8 241, .int .u8 241, .int .u8 241, .int .u8 241, .int .u8 241, .int .u8 241, .int .u8 241, .int .u8 241, .int .u8 241, .int .u8 241, .int .u8 241, .int .u8 241, .int .u8 241, .int .u8 241, .int .u8 241, .int .u8 241, .int .u8 241, .int .u8 241, .int .u8 241, .int .u8 241, .int .u8 241, .int .u8 241, .int .u8 241, .int .u8 241, .int .u8 241, .int .u8 241, .int .u8 241, .int .u8 241, .int .u8 241, .int .u8 241, .int .u8 241, .int .u8 241, .int .u8 241, .int .u8 241, .int .u8 241, .int .u8 241, .int .u8 241, .int .u8 241, .int .u8 241, .int .u8 241, .int .u8 241, .int .u8 2, .int .u8 2, .int .u8 2, .int .u8 2, .int .u8 2, .int .u8 2, .int .u8 2, .int .u8 2, .int .u8 2, .int .u8 2, .int .u8 2, .int .u8 2, .int .u8 2, .int .u8 2, .int .u8 2, .int .u8 2, .int .u8 2, .int .u8 2, .int .u8 2, .int .u8 2, .int .u8 2, .int .u8 2, .int .u8 2, .int .u8 2, .int .u8 2, .int .u8 2, .int .u8 2, .int .u8 2, .int .u8 2, .int .u8 2, .int .u8 19, .int .u8 3, .int .u8 3, .int .u8 3, .int .u8 3, .int .u8 3, .int .u8 3, .int .u8 3, .int .u8 3, .int .u8 3, .int .u8 3, .int .u8 3, .int .u8 3, .int .u8 35, .int .u8 3, .int .u8 3, .int .u8 52, .int .u8 4, .int .u8 4, .int .u8 4, .int .u8 68, .int .u8 241, .int .u8 241, .int .u8 241, .int .u8 241, .int .u8 241, .int .u8 241, .int .u8 241, .int .u8 241, .int .u8 241, .int .u8 241, .int .u8 241] t frozen | o => o) }
set_option maxRecDepth 100000 in
theorem qjo (os : Os) : laidMet Tryz.prog Rows.fnExactReleaseOfRow.laid ((qaf os).forCall (fun _ _ => 0) ⟨#[], #[.string ByteArray.empty, .int .i64 0, .agg #[.slice none 0 0, .slice none 0 0], .agg #[.slice none 0 0, .slice none 0 0]], []⟩).memory :=
 laidMet_of_run' 12 (by kernel_rfl) (by kernel_rfl)
set_option maxRecDepth 100000 in
theorem reads (os : Os) {H : Type} (enc : TypeId × Value → H) : ∃ x, DataW.whole enc Tryz.prog ((qaf os).forCall (fun _ _ => 0) ⟨#[], #[.string ByteArray.empty, .int .i64 0, .agg #[.slice none 0 0, .slice none 0 0], .agg #[.slice none 0 0, .slice none 0 0]], []⟩).memory Tryz.f4.params.toList Rows.fnExactReleaseOfSpec.vars false #[(.string ByteArray.empty : Value), (.int .i64 0 : Value), (.agg #[.slice none 0 0, .slice none 0 0] : Value), (.agg #[.slice none 0 0, .slice none 0 0] : Value)].toList 12 = some x :=
 Option.isSome_iff_exists.1 (by kernel_rfl)
set_option maxRecDepth 100000 in
theorem lifted (os : Os) (started : os.Started) (H : Type) (enc : TypeId × Value → H) (F : Stop.Interp) :
  ReturnsInHanded {} Tryz.checked os 4 .any ((OpenSpec.ofChange Rows.fnExactReleaseOfSpec).preRow enc Tryz.prog Tryz.f4 Rows.fnExactReleaseOfRow.domain false Rows.fnExactReleaseOfRow.laid) (((OpenSpec.ofChange Rows.fnExactReleaseOfSpec).at F).post enc Tryz.prog Tryz.f4 false true false false) := by
 obtain ⟨x, hx⟩ := reads os enc
 refine returnsInHanded_of_row (C := Tryz.checked) (s := OpenSpec.ofChange Rows.fnExactReleaseOfSpec) own started (by kernel_rfl) Tryz.func4
  (witness_row_at (enc := enc) (C := Tryz.checked) false (qaf os) #[.string ByteArray.empty, .int .i64 0, .agg #[.slice none 0 0, .slice none 0 0], .agg #[.slice none 0 0, .slice none 0 0]] rfl (by kernel_rfl) (by kernel_rfl) (by kernel_rfl)
   (OpenSpec.preRow_of_cond 12 (x := x) hx (by kernel_rfl) (fun k hk => by cases hk) (by kernel_rfl) (qjo os))) ?_
 intro W base args ds gs before hval hW _ _ hsz hL hsh _
 exact contract H enc W base args ds gs before hval hW hsz hL hsh
theorem said : Rows.FnExactReleaseOfSaid :=
 OpenClaim.holds_of_cond 4 Tryz.f4 rfl rfl rfl rfl rfl rfl rfl ⟨rfl, rfl, rfl, rfl, rfl⟩ rfl rfl rfl rfl rfl (by kernel_rfl) Tryz.func4 (by kernel_rfl)
  (of_decide_eq_true (by kernel_rfl)) (by unfold Func.isWrapper; first | (rw [if_pos (by decide +kernel)]; kernel_rfl) | (rw [if_neg (by decide +kernel)]; exact ⟨rfl, rfl⟩))
  (fun os started H enc _ F => by rw [OpenClaim.pre_eq_preRow]; exact lifted os started H enc F)
theorem plain (f : FuncId) (fn : Func) (hf : Tryz.pinned.checked.prog.funcNamed "loop.example/medlar/laws.FnExactReleaseOf" = some f) (hfn : Tryz.pinned.checked.prog.funcs[f]? = some fn) :
  false = Tryz.pinned.checked.prog.looks [] ∧ ∀ (j : Nat) t, fn.params[j]? = some t → Tryz.pinned.checked.prog.wantsStandIn t = false := by
 obtain rfl : f = 4 := Option.some.inj ((show Tryz.prog.funcNamed "loop.example/medlar/laws.FnExactReleaseOf" = some 4 by kernel_rfl).symm.trans hf) |>.symm
 obtain rfl : fn = Tryz.f4 := (Option.some.inj (Tryz.func4.symm.trans hfn)).symm
 refine ⟨by kernel_rfl, fun j t ht => ?_⟩
 rw [Tryz.params4] at ht
 have hm := Array.mem_of_getElem? ht
 simp only [List.mem_toArray, List.mem_cons, List.not_mem_nil, or_false] at hm
 rcases hm with rfl | rfl | rfl | rfl
 ·exact (show Tryz.prog.wantsStandIn 9 = false by kernel_rfl)
 ·exact (show Tryz.prog.wantsStandIn 3 = false by kernel_rfl)
 ·exact (show Tryz.prog.wantsStandIn 39 = false by kernel_rfl)
 ·exact (show Tryz.prog.wantsStandIn 39 = false by kernel_rfl)
theorem card : Rows.FnExactReleaseOfCardSaid :=
 Claim7.holds_tied_plain_at .later [] _ _ _ _ said (fun _ h => by cases h) (by kernel_rfl) (fun _ h => by cases h) fnExactReleaseOf_row_tie rfl ⟨rfl, rfl⟩ (by kernel_rfl) rfl plain (by kernel_rfl)
end Go.Proofs.YtnjdoinlnbjedaaGreatDoor.fnExactReleaseOf
namespace Go.Proofs.YtnjdoinlnbjedaaGreatDoor
theorem fnExactReleaseOf_holds : Rows.FnExactReleaseOfCardSaid := fnExactReleaseOf.card
end Go.Proofs.YtnjdoinlnbjedaaGreatDoor
end
