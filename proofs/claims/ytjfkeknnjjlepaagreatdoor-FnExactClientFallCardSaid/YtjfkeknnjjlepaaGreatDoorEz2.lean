import Derived.Test.YtjfkeknnjjlepaaGreatDoorEz1

section
namespace Go.Proofs.YtjfkeknnjjlepaaGreatDoor.Rf
open Go Go.RowKit
set_option linter.unusedVariables false
set_option linter.unusedSimpArgs false
theorem qrp (x : ByteArray) (hx : x.size ≤ 100000000) : ∀ (t : By) (fr i : Nat), (bl x).drop i = t → fr ≤ i → i ≤ x.size → Al2 fun k k1 => q21.L3 k k1 x (fr : Int) (i : Int) = some (qgj x (q70 (bl x) fr i t)).1 := by
  intro t
  induction t with
  | nil =>
    intro fr i hd h1 h2
    have hz := drop_nil hd
    rw [q51] at hz
    refine Al2.succ (Al2.now fun k k1 => ?_)
    rw [q21.L3_eq, at_end hz, q08]
    rfl
  | cons b t ih =>
    intro fr i hd h1 h2
    obtain ⟨hi, hb, hd2⟩ := q79 hd
    obtain ⟨c1, c2, c3, c4⟩ := q6t hi (by omega)
    have c4' : w64 ((i : Int) + 1) = ((i + 1 : Nat) : Int) := c4
    by_cases h10 : b = 10
    · have e10 : ((b.toNat : Int) != 10) = false := by rw [h10]; rfl
      have w1 : w64 ((i : Int) - (fr : Int)) = ((i - fr : Nat) : Int) := by rw [w64, q6g (by omega) (by omega)]; omega
      refine Al2.succ ((ih (i + 1) (i + 1) hd2 (Nat.le_refl _) (by omega)).mono fun k k1 e => ?_)
      rw [q21.L3_eq, c1, q06, c2, Bool.true_and, q06, hb, e10, q08, w1, c4', q70, if_pos h10]
      by_cases d1 : i - fr = 69
      · have w5 : w64 ((fr : Int) + 5) = ((fr + 5 : Nat) : Int) := by rw [w64, q6g (by omega) (by omega)]; omega
        have ee : ((x.extract fr (fr + 5)).toList == (⟨#[115, 101, 97, 108, 32]⟩ : ByteArray).toList) = decide (((bl x).drop fr).take 5 = q74) := by
          rw [q5y]
          have e1 : bl (x.extract fr (fr + 5)) = ((bl x).drop fr).take 5 := by rw [qb2, Nat.add_sub_cancel_left]
          have e3 : bl (⟨#[115, 101, 97, 108, 32]⟩ : ByteArray) = q74 := rfl
          exact decide_eq_decide.2 ⟨fun h => by rw [← e1, h, e3], fun h => q53 (by rw [e1, h, e3])⟩
        rw [d1, show (((69 : Nat) : Int) == 69) = true from rfl, q06, w5, decide_eq_true (show (0 : Int) ≤ (fr : Int) by omega), decide_eq_true (show (fr : Int) ≤ ((fr + 5 : Nat) : Int) by omega), decide_eq_true (show ((fr + 5 : Nat) : Int) ≤ (x.size : Int) by omega), show (true && (true && true)) = true from rfl, q06, Int.toNat_natCast, Int.toNat_natCast, ee]
        by_cases d2 : ((bl x).drop fr).take 5 = q74
        · rw [decide_eq_true d2, q06, decide_eq_true (show (0 : Int) ≤ ((i + 1 : Nat) : Int) by omega), decide_eq_true (show ((i + 1 : Nat) : Int) ≤ (x.size : Int) by omega), show (decide ((0 : Int) ≤ 0) && (true && true)) = true from rfl, q06, if_pos ⟨rfl, d2⟩]
          rfl
        · rw [decide_eq_false d2, q08, if_neg (fun h => d2 h.2)]
          exact e
      · have hne : (((i - fr : Nat) : Int) == 69) = false := by rw [beq_eq_false_iff_ne]; omega
        rw [hne, q08, if_neg (fun h => d1 h.1)]
        exact e
    · have e10 : ((b.toNat : Int) != 10) = true := by
        rw [bne_iff_ne]
        intro e
        exact h10 (UInt8.toNat_inj.1 (show b.toNat = (10 : UInt8).toNat by have : (10 : UInt8).toNat = 10 := rfl; omega))
      refine Al2.succ ((ih fr (i + 1) hd2 (by omega) (by omega)).mono fun k k1 e => ?_)
      rw [q21.L3_eq, c1, q06, c2, Bool.true_and, q06, hb, e10, q06, c4', q70, if_neg h10]
      exact e
theorem qhd (x : ByteArray) (hx : x.size ≤ 100000000) : Al fun k => q21.f k x = some (qgj x (qae x)).1 :=
  (qrp x hx (bl x) 0 0 rfl (Nat.le_refl _) (by omega)).diag.mono fun k e => by rw [q21.f_eq]; exact e
theorem qnm : q5k bz = (zR, false) := by
  cases h : (q5k bz).2 with
  | false => exact qw2 h
  | true => exact absurd (qdi h).2 (qw6 _)
theorem qir (key file : ByteArray) (hk : key.size ≤ 9223372036854775807) (hf : file.size ≤ 20000000) : ∀ (n : Nat) (s : Hst), HOk file s → file.size ≤ n + s.2.1 →
    Al fun k => q2e.L4 k key file zB s.1 (s.2.1 : Int) s.2.2 = some (qw0 (q7l key file file.size n s)) := by
  intro n
  induction n with
  | zero =>
    intro s hs hn
    have ha := hs.at_
    have hx : file.extract s.2.1 file.size = bz := q53 (by rw [q7p, List.drop_eq_nil_of_le (by rw [q51]; omega)]; rfl)
    refine Al.succ (((qhd bz (by decide)).and (q62 bz (by decide))).mono fun k ⟨e, e2⟩ => ?_)
    rw [qnm] at e2
    rw [q2e.L4_eq, decide_eq_true (show (0 : Int) ≤ (s.2.1 : Int) by omega), decide_eq_true (show (s.2.1 : Int) ≤ (file.size : Int) by omega), decide_eq_true (Int.le_refl (file.size : Int)), show (true && (true && true)) = true from rfl, q06, Int.toNat_natCast, Int.toNat_natCast, hx, e, Option.bind_some, show (qgj bz (qae bz)).1 = bz from rfl, e2, Option.bind_some]
    dsimp only
    rw [Bool.not_false, q06]
    rfl
  | succ n ih =>
    intro s hs hn
    have ha := hs.at_
    have hl := hs.len
    have hz : (file.extract s.2.1 file.size).size = file.size - s.2.1 := by rw [q4y, ext_size]
    have hN := qhd (file.extract s.2.1 file.size) (by omega)
    have g : (decide ((0 : Int) ≤ (s.2.1 : Int)) && (decide ((s.2.1 : Int) ≤ (file.size : Int)) && decide ((file.size : Int) ≤ (file.size : Int)))) = true := by
      rw [decide_eq_true (show (0 : Int) ≤ (s.2.1 : Int) by omega), decide_eq_true (show (s.2.1 : Int) ≤ (file.size : Int) by omega), decide_eq_true (Int.le_refl (file.size : Int))]; rfl
    rw [q7l]
    cases hm1 : qae (file.extract s.2.1 file.size) with
    | none =>
      have hs0 : q67 key file file.size s = none := by unfold q67; rw [hm1]
      rw [hs0]
      refine Al.succ ((hN.and (q62 bz (by decide))).mono fun k ⟨e, e2⟩ => ?_)
      rw [qnm] at e2
      rw [q2e.L4_eq, g, q06, Int.toNat_natCast, Int.toNat_natCast, e, hm1, Option.bind_some, show (qgj (file.extract s.2.1 file.size) none).1 = bz from rfl, e2, Option.bind_some]
      dsimp only
      rw [Bool.not_false, q06]
      rfl
    | some m =>
      have hmz := q99 _ _ _ _ _ hm1
      rw [ext_size] at hmz
      have hx : (file.extract s.2.1 file.size).extract 0 m = file.extract s.2.1 (s.2.1 + m) := q53 (by
        rw [qk2, q7p, qb2, Nat.add_sub_cancel_left])
      have hxz : (file.extract s.2.1 (s.2.1 + m)).size = m := by rw [ByteArray.size_extract]; omega
      have w1 : w64 ((s.2.1 : Int) + (m : Int)) = ((s.2.1 + m : Nat) : Int) := by rw [w64, q6g (by omega) (by omega)]; omega
      have hN' : Al fun k => q21.f k (file.extract s.2.1 file.size) = some (file.extract s.2.1 (s.2.1 + m)) := hN.mono fun k e => by rw [e, hm1, qgj, hx]
      have hG := q62 (file.extract s.2.1 (s.2.1 + m)) (by omega)
      have hstep : q67 key file file.size s = (q7k key s.1.length s.2.2 (file.extract s.2.1 (s.2.1 + m))).map fun b => (s.1 ++ [file.extract s.2.1 (s.2.1 + m)], s.2.1 + m, b) := by
        unfold q67; rw [hm1]; simp only; rw [if_neg (by omega)]
      generalize ht : file.extract s.2.1 (s.2.1 + m) = t at *
      cases c2 : (q5k t).2 with
      | false =>
        have hs0 : q67 key file file.size s = none := by rw [hstep, q7k, if_neg (by rw [c2]; simp)]; rfl
        rw [hs0]
        refine Al.succ ((hN'.and hG).mono fun k ⟨e, e2⟩ => ?_)
        rw [q2e.L4_eq, g, q06, Int.toNat_natCast, Int.toNat_natCast, e, Option.bind_some, e2, Option.bind_some, c2, Bool.not_false, q06]
        rfl
      | true =>
        have hD := q9c key (s.1.length : Int) s.2.2 (q5k t).1 hk (by omega) hs.bk (qil (qdi c2).1)
        cases c3 : (q89 key (s.1.length : Int) s.2.2 (q5k t).1).2 with
        | false =>
          have hs0 : q67 key file file.size s = none := by rw [hstep, q7k, if_neg (by rw [c3]; simp)]; rfl
          rw [hs0]
          refine Al.succ (((hN'.and hG).and hD).mono fun k ⟨⟨e, e2⟩, e3⟩ => ?_)
          rw [q2e.L4_eq, g, q06, Int.toNat_natCast, Int.toNat_natCast, e, Option.bind_some, e2, Option.bind_some, c2, Bool.not_true, q08, e3, Option.bind_some, c3, Bool.not_false, q06]
          rfl
        | true =>
          have hs1 : q67 key file file.size s = some (s.1 ++ [t], s.2.1 + m, (q89 key (s.1.length : Int) s.2.2 (q5k t).1).1) := by rw [hstep, q7k, if_pos ⟨c2, c3⟩]; rfl
          have hok := hs.step hs1
          have ih' := ih _ hok (by simp only; omega)
          rw [hs1]
          simp only at ih' ⊢
          refine Al.succ ((((hN'.and hG).and hD).and ih').mono fun k ⟨⟨⟨e, e2⟩, e3⟩, e4⟩ => ?_)
          rw [q2e.L4_eq, g, q06, Int.toNat_natCast, Int.toNat_natCast, e, Option.bind_some, e2, Option.bind_some, c2, Bool.not_true, q08, e3, Option.bind_some, c3, Bool.not_true, q08, decide_eq_true (show (s.1.length + [t].length) * 16 ≤ q1m by simp [q1m]; omega), q06, hxz, w1, e4]
theorem qb7 (key file : ByteArray) (hk : key.size ≤ 9223372036854775807) (hf : file.size ≤ 20000000) : Al fun k => q2e.f k key file = some (qw0 (hist key file file.size)) :=
  (qir key file hk hf file.size qr8 ⟨Nat.zero_le _, Nat.le_refl _, qre⟩ (by omega)).mono fun k e => by
    rw [q2e.f_eq]; exact e
theorem qrq {key file : ByteArray} {m n : Nat} (hm : file.size ≤ m) (hn : file.size ≤ n) (s : Hst) : q67 key file m s = q67 key file n s := by
  unfold q67
  cases h : qae (file.extract s.2.1 file.size) with
  | none => rfl
  | some j =>
    have hz := q99 _ _ _ _ _ h
    rw [ext_size] at hz
    simp only
    rw [if_neg (by omega), if_neg (by omega)]
theorem qnn {key file : ByteArray} {m n : Nat} (hm : file.size ≤ m) (hn : file.size ≤ n) : hist key file m = hist key file n := by
  have : ∀ (k : Nat) (s : Hst), q7l key file m k s = q7l key file n k s := by
    intro k
    induction k with
    | zero => intro s; rfl
    | succ k ih =>
      intro s
      rw [q7l, q7l, qrq hm hn]
      cases q67 key file n s with
      | none => rfl
      | some s' => exact ih s'
  exact this _ _
end Go.Proofs.YtjfkeknnjjlepaaGreatDoor.Rf
end

section
namespace Go.Proofs.YtjfkeknnjjlepaaGreatDoor.Rf
open Go Go.RowKit
set_option linter.unusedVariables false
set_option linter.unusedSimpArgs false
def qas (l : Int) (n : Nat) : Int := if (n : Int) ≤ l then l - n else -1
theorem q6b (l : Int) (n : Nat) (h : 0 ≤ l) : decide (qas l n < 0) = decide (l < n) := by
  unfold qas
  by_cases h1 : (n : Int) ≤ l
  · rw [if_pos h1, decide_eq_false (by omega), decide_eq_false (by omega)]
  · rw [if_neg h1, decide_eq_true (by omega), decide_eq_true (by omega)]
theorem qcr (l : Int) (n m : Nat) (h : (n : Int) ≤ l) : qas (qas l n) m = qas l (n + m) := by
  unfold qas
  rw [if_pos h]
  by_cases h1 : (m : Int) ≤ l - n
  · rw [if_pos h1, if_pos (by omega)]; omega
  · rw [if_neg h1, if_neg (by omega)]
theorem q7w (l : Int) (n m : Nat) (h : l < n) : qas l (n + m) = -1 := if_neg (by omega)
theorem q8i (l : Int) (n : Nat) (h0 : 0 ≤ l) (h1 : l ≤ 1048576) (hn : n ≤ 9223372036854775807) : w64 (l - (n : Int)) = l - n ∧ decide (l - (n : Int) < 0) = decide (l < n) :=
  ⟨q6g (by omega) (by omega), by
    by_cases h : l < n
    · rw [decide_eq_true h, decide_eq_true (by omega)]
    · rw [decide_eq_false h, decide_eq_false (by omega)]⟩
def qoy {α : Type} (f : α → Nat) : List α → Nat
  | [] => 0
  | x :: l => f x + qoy f l
theorem qis {α : Type} (f : α → Nat) : ∀ {l : List α} {x : α}, x ∈ l → f x ≤ qoy f l
  | y :: l, x, h => by
    rcases List.mem_cons.1 h with rfl | h
    · exact Nat.le_add_right _ _
    · exact Nat.le_trans (qis f h) (Nat.le_add_left _ _)
def szA (a : Aff) : Nat := a.1.size + (a.2.2.1.size + (a.2.2.2.1.size + a.2.2.2.2.size))
def szE (e : En) : Nat := e.1.size + e.2.size
def qoz (l : List Aff) : Nat := l.length + qoy szA l
def qur (l : List En) : Nat := l.length + qoy szE l
def qm0 (b : Book) : Nat := qoz b.1 + qur b.2
abbrev Big (n : Nat) : Prop := n ≤ 9223372036854775807
def bgA (a : Aff) : Prop := Big a.1.size ∧ Big a.2.2.1.size ∧ Big a.2.2.2.1.size ∧ Big a.2.2.2.2.size
def bgE (e : En) : Prop := Big e.1.size ∧ Big e.2.size
theorem qhe (k : Nat) (a : Aff) (l : Int) (h0 : 0 ≤ l) (h1 : l ≤ 1048576) (hb : bgA a) : q4d.f k a l = some (qas l (szA a)) := by
  obtain ⟨b1, b2, b3, b4⟩ := hb
  obtain ⟨e1, f1⟩ := q8i l a.1.size h0 h1 b1
  rw [q4d.f_eq]
  simp only [e1, f1]
  by_cases g1 : l < a.1.size
  · rw [decide_eq_true g1, q06, szA, q7w _ _ _ g1]
  · rw [decide_eq_false g1, q08]
    obtain ⟨e2, f2⟩ := q8i (l - a.1.size) a.2.2.1.size (by omega) (by omega) b2
    simp only [e2, f2]
    by_cases g2 : l - (a.1.size : Int) < a.2.2.1.size
    · rw [decide_eq_true g2, q06, szA, ← Nat.add_assoc, q7w _ _ _ (by omega)]
    · rw [decide_eq_false g2, q08]
      obtain ⟨e3, f3⟩ := q8i (l - a.1.size - a.2.2.1.size) a.2.2.2.1.size (by omega) (by omega) b3
      simp only [e3, f3]
      by_cases g3 : l - (a.1.size : Int) - a.2.2.1.size < a.2.2.2.1.size
      · rw [decide_eq_true g3, q06, szA, ← Nat.add_assoc, ← Nat.add_assoc, q7w _ _ _ (by omega)]
      · rw [decide_eq_false g3, q08]
        obtain ⟨e4, f4⟩ := q8i (l - a.1.size - a.2.2.1.size - a.2.2.2.1.size) a.2.2.2.2.size (by omega) (by omega) b4
        simp only [e4, f4]
        by_cases g4 : l - (a.1.size : Int) - a.2.2.1.size - a.2.2.2.1.size < a.2.2.2.2.size
        · rw [decide_eq_true g4, q06, szA, qas, if_neg (by omega)]
        · rw [decide_eq_false g4, q08, szA, qas, if_pos (by omega)]
          congr 1
          omega
theorem qhf (k : Nat) (a : En) (l : Int) (h0 : 0 ≤ l) (h1 : l ≤ 1048576) (hb : bgE a) : q4e.f k a l = some (qas l (szE a)) := by
  obtain ⟨b1, b2⟩ := hb
  obtain ⟨e1, f1⟩ := q8i l a.1.size h0 h1 b1
  rw [q4e.f_eq]
  simp only [e1, f1]
  by_cases g1 : l < a.1.size
  · rw [decide_eq_true g1, q06, szE, q7w _ _ _ g1]
  · rw [decide_eq_false g1, q08]
    obtain ⟨e2, f2⟩ := q8i (l - a.1.size) a.2.size (by omega) (by omega) b2
    simp only [e2, f2]
    by_cases g2 : l - (a.1.size : Int) < a.2.size
    · rw [decide_eq_true g2, q06, szE, qas, if_neg (by omega)]
    · rw [decide_eq_false g2, q08, szE, qas, if_pos (by omega)]
      congr 1
      omega
theorem qg5 (l : List Aff) (n : Int) (h0 : 0 ≤ n) (h1 : n ≤ 1048576) (hl : Big l.length) (hb : ∀ a ∈ l, bgA a) : Al fun k => q1o.f k l n = some (qas n (qoz l)) := by
  obtain ⟨e1, f1⟩ := q8i n l.length h0 h1 hl
  by_cases g1 : n < l.length
  · refine Al.now fun k => ?_
    rw [q1o.f_eq]
    simp only [e1, f1]
    rw [decide_eq_true g1, q06, qoz, q7w _ _ _ g1]
  · have key : ∀ (t : List Aff) (i : Nat) (m : Int), l.drop i = t → 0 ≤ m → m ≤ 1048576 → Al2 fun k k1 => q1o.L5 k k1 l m (i : Int) = some (qas m (qoy szA t)) := by
      intro t
      induction t with
      | nil =>
        intro i m hd g2 g3
        refine Al2.succ (Al2.now fun k k1 => ?_)
        simp only [q1o.L5_eq, at_end (drop_nil hd), q08, qoy]
        rw [qas, if_pos (by omega)]
        congr 1
        omega
      | cons x t ih =>
        intro i m hd g2 g3
        obtain ⟨hi, d1, d2⟩ := q45 zA hd
        obtain ⟨c1, c2, c3, c4⟩ := q6t hi (by omega)
        have hx : bgA x := hb x (by rw [← d1, List.getD_eq_getElem?_getD, List.getElem?_eq_getElem hi]; exact List.getElem_mem hi)
        by_cases g4 : m < szA x
        · refine Al2.succ (Al2.now fun k k1 => ?_)
          simp only [q1o.L5_eq, c1, c2, c3, w64, c4, d1, Bool.and_self, q06, qhe _ _ _ g2 g3 hx, Option.bind_some, q6b _ _ g2]
          rw [decide_eq_true g4, q06, qoy, q7w _ _ _ g4]
        · have e2 : qas m (szA x) = m - szA x := if_pos (by omega)
          refine Al2.succ ((ih (i + 1) (m - szA x) d2 (by omega) (by omega)).mono fun k k1 e => ?_)
          simp only [q1o.L5_eq, c1, c2, c3, w64, c4, d1, Bool.and_self, q06, qhe _ _ _ g2 g3 hx, Option.bind_some, q6b _ _ g2]
          rw [decide_eq_false g4, q08, e2, e, ← e2, qcr _ _ _ (by omega), qoy]
    refine (key l 0 (n - l.length) rfl (by omega) (by omega)).diag.mono fun k e => ?_
    rw [q1o.f_eq]
    simp only [e1, f1]
    rw [decide_eq_false g1, q08, show (0 : Int) = ((0 : Nat) : Int) from rfl, e, show n - (l.length : Int) = qas n l.length from (if_pos (by omega)).symm, qcr _ _ _ (by omega), qoz]
theorem qm1 (l : List En) (n : Int) (h0 : 0 ≤ n) (h1 : n ≤ 1048576) (hl : Big l.length) (hb : ∀ a ∈ l, bgE a) : Al fun k => q1p.f k l n = some (qas n (qur l)) := by
  obtain ⟨e1, f1⟩ := q8i n l.length h0 h1 hl
  by_cases g1 : n < l.length
  · refine Al.now fun k => ?_
    rw [q1p.f_eq]
    simp only [e1, f1]
    rw [decide_eq_true g1, q06, qur, q7w _ _ _ g1]
  · have key : ∀ (t : List En) (i : Nat) (m : Int), l.drop i = t → 0 ≤ m → m ≤ 1048576 → Al2 fun k k1 => q1p.L5 k k1 l m (i : Int) = some (qas m (qoy szE t)) := by
      intro t
      induction t with
      | nil =>
        intro i m hd g2 g3
        refine Al2.succ (Al2.now fun k k1 => ?_)
        simp only [q1p.L5_eq, at_end (drop_nil hd), q08, qoy]
        rw [qas, if_pos (by omega)]
        congr 1
        omega
      | cons x t ih =>
        intro i m hd g2 g3
        obtain ⟨hi, d1, d2⟩ := q45 zE hd
        obtain ⟨c1, c2, c3, c4⟩ := q6t hi (by omega)
        have hx : bgE x := hb x (by rw [← d1, List.getD_eq_getElem?_getD, List.getElem?_eq_getElem hi]; exact List.getElem_mem hi)
        by_cases g4 : m < szE x
        · refine Al2.succ (Al2.now fun k k1 => ?_)
          simp only [q1p.L5_eq, c1, c2, c3, w64, c4, d1, Bool.and_self, q06, qhf _ _ _ g2 g3 hx, Option.bind_some, q6b _ _ g2]
          rw [decide_eq_true g4, q06, qoy, q7w _ _ _ g4]
        · have e2 : qas m (szE x) = m - szE x := if_pos (by omega)
          refine Al2.succ ((ih (i + 1) (m - szE x) d2 (by omega) (by omega)).mono fun k k1 e => ?_)
          simp only [q1p.L5_eq, c1, c2, c3, w64, c4, d1, Bool.and_self, q06, qhf _ _ _ g2 g3 hx, Option.bind_some, q6b _ _ g2]
          rw [decide_eq_false g4, q08, e2, e, ← e2, qcr _ _ _ (by omega), qoy]
    refine (key l 0 (n - l.length) rfl (by omega) (by omega)).diag.mono fun k e => ?_
    rw [q1p.f_eq]
    simp only [e1, f1]
    rw [decide_eq_false g1, q08, show (0 : Int) = ((0 : Nat) : Int) from rfl, e, show n - (l.length : Int) = qas n l.length from (if_pos (by omega)).symm, qcr _ _ _ (by omega), qur]
def bgB (b : Book) : Prop := (Big b.1.length ∧ ∀ a ∈ b.1, bgA a) ∧ Big b.2.length ∧ ∀ e ∈ b.2, bgE e
theorem qrr (b : Book) (n : Int) (h0 : 0 ≤ n) (h1 : n ≤ 1048576) (hb : bgB b) : Al fun k => q4p.f k b n = some (qas n (qm0 b)) := by
  by_cases g : n < qoz b.1
  · refine (qg5 b.1 n h0 h1 hb.1.1 hb.1.2).mono fun k e => ?_
    simp only [q4p.f_eq, e, Option.bind_some, q6b _ _ h0]
    rw [decide_eq_true g, q06, qm0, q7w _ _ _ g]
  · have e1 : qas n (qoz b.1) = n - qoz b.1 := if_pos (by omega)
    refine ((qg5 b.1 n h0 h1 hb.1.1 hb.1.2).and (qm1 b.2 (n - qoz b.1) (by omega) (by omega) hb.2.1 hb.2.2)).mono fun k ⟨e, e2⟩ => ?_
    simp only [q4p.f_eq, e, Option.bind_some, q6b _ _ h0]
    rw [decide_eq_false g, q08, e1, e2, Option.bind_some, ← e1, qcr _ _ _ (by omega), qm0]
    by_cases g2 : qas n (qoz b.1 + qur b.2) < 0
    · rw [decide_eq_true g2, q06]
      have : qas n (qoz b.1 + qur b.2) = -1 := by unfold qas at *; split at g2 <;> split <;> omega
      rw [this]
    · rw [decide_eq_false g2, q08]
theorem qxd {a : Aff} {n : Nat} (h : szA a ≤ n) (hn : n ≤ 4611686018427387904) : smA a := by
  unfold szA at h; unfold smA Sm; omega
theorem qxe {a : En} {n : Nat} (h : szE a ≤ n) (hn : n ≤ 4611686018427387904) : smE a := by
  unfold szE at h; unfold smE Sm; omega
theorem qxf {b : Book} (h : qm0 b ≤ 1048576) : smB b := by
  unfold qm0 qoz qur at h
  exact ⟨⟨by omega, fun a ha => qxd (qis szA ha) (by omega)⟩, by omega, fun e he => qxe (qis szE he) (by omega)⟩
end Go.Proofs.YtjfkeknnjjlepaaGreatDoor.Rf
end

section
namespace Go.Proofs.YtjfkeknnjjlepaaGreatDoor.Rf
open Go Go.RowKit
set_option linter.unusedVariables false
set_option linter.unusedSimpArgs false
theorem set_mid {α : Type} (a : List α) (x y : α) (t : List α) : (a ++ x :: t).set a.length y = a ++ y :: t := by
  rw [List.set_append_right _ _ (Nat.le_refl _), Nat.sub_self]; rfl
theorem q9q {α : Type} (a : List α) (x : α) (t : List α) (z : α) : (a ++ x :: t).getD a.length z = x := by
  rw [List.getD_eq_getElem?_getD, List.getElem?_append_right (Nat.le_refl _), Nat.sub_self]; rfl
theorem qb8 {α : Type} {l t : List α} {i : Nat} {x : α} (h : l.drop i = x :: t) : l.take (i + 1) = l.take i ++ [x] := by
  have hi := (q45 x h).1
  rw [List.take_add_one, List.getElem?_eq_getElem hi]
  rw [List.drop_eq_getElem_cons hi] at h
  injection h with h1 _
  rw [h1]; rfl
theorem qno (n : Nat) : ((n : Int)).toNat = n := by omega
theorem qxg (n c : Nat) (h : n * c ≤ q1m) : (decide (0 ≤ (n : Int)) && (decide ((n : Int) ≤ (n : Int)) && decide ((n : Int) * (c : Int) ≤ (q1m : Int)))) = true := by
  have : (n : Int) * (c : Int) ≤ (q1m : Int) := by exact_mod_cast h
  rw [decide_eq_true this, decide_eq_true (Int.le_refl _), decide_eq_true (by omega)]; rfl
theorem qm2 (l : List Aff) (hl : l.length ≤ 1099511627776) : Al fun k => q1u.f k l = some l := by
  have hS : l.length ≤ 4611686018427387904 := by omega
  have key : ∀ (t : List Aff) (i : Nat), l.drop i = t → Al2 fun k k1 => q1u.L3 k k1 l (l.take i ++ List.replicate t.length zA) (i : Int) = some l := by
    intro t
    induction t with
    | nil =>
      intro i hd
      refine Al2.succ (Al2.now fun k k1 => ?_)
      have := drop_nil hd
      simp only [q1u.L3_eq, at_end this, q08, List.length_nil, List.replicate_zero, List.append_nil]
      rw [List.take_of_length_le (by omega)]
    | cons x t ih =>
      intro i hd
      obtain ⟨hi, d1, d2⟩ := q45 zA hd
      obtain ⟨c1, c2, c3, c4⟩ := q6t hi hS
      have hti : (l.take i).length = i := by rw [List.length_take]; omega
      have hlt : decide ((i : Int) < ((l.take i ++ List.replicate (x :: t).length zA).length : Int)) = true := decide_eq_true (by simp only [List.length_append, hti, List.length_replicate, List.length_cons]; omega)
      have hs : (l.take i ++ List.replicate (x :: t).length zA).set i x = l.take (i + 1) ++ List.replicate t.length zA := by
        rw [List.length_cons, List.replicate_succ, qb8 hd]
        have := set_mid (l.take i) zA x (List.replicate t.length zA)
        rw [hti] at this
        rw [this]; simp
      refine Al2.succ ((ih (i + 1) d2).mono fun k k1 e => ?_)
      simp only [q1u.L3_eq, c1, c2, c3, w64, c4, d1, hlt, Bool.and_self, q06, q4i.f_eq, Option.bind_some]
      rw [show (x.1, x.2.1, x.2.2.1, x.2.2.2.1, x.2.2.2.2) = x from rfl, hs, e]
  refine (key l 0 rfl).diag.mono fun k e => ?_
  rw [q1u.f_eq, show (72 : Int) = ((72 : Nat) : Int) from rfl, qxg _ _ (by simp only [q1m]; omega), q06, qno]
  simpa using e
theorem qm3 (l : List En) (hl : l.length ≤ 1099511627776) : Al fun k => q1v.f k l = some l := by
  have hS : l.length ≤ 4611686018427387904 := by omega
  have key : ∀ (t : List En) (i : Nat), l.drop i = t → Al2 fun k k1 => q1v.L3 k k1 l (l.take i ++ List.replicate t.length zE) (i : Int) = some l := by
    intro t
    induction t with
    | nil =>
      intro i hd
      refine Al2.succ (Al2.now fun k k1 => ?_)
      have := drop_nil hd
      simp only [q1v.L3_eq, at_end this, q08, List.length_nil, List.replicate_zero, List.append_nil]
      rw [List.take_of_length_le (by omega)]
    | cons x t ih =>
      intro i hd
      obtain ⟨hi, d1, d2⟩ := q45 zE hd
      obtain ⟨c1, c2, c3, c4⟩ := q6t hi hS
      have hti : (l.take i).length = i := by rw [List.length_take]; omega
      have hlt : decide ((i : Int) < ((l.take i ++ List.replicate (x :: t).length zE).length : Int)) = true := decide_eq_true (by simp only [List.length_append, hti, List.length_replicate, List.length_cons]; omega)
      have hs : (l.take i ++ List.replicate (x :: t).length zE).set i x = l.take (i + 1) ++ List.replicate t.length zE := by
        rw [List.length_cons, List.replicate_succ, qb8 hd]
        have := set_mid (l.take i) zE x (List.replicate t.length zE)
        rw [hti] at this
        rw [this]; simp
      refine Al2.succ ((ih (i + 1) d2).mono fun k k1 e => ?_)
      simp only [q1v.L3_eq, c1, c2, c3, w64, c4, d1, hlt, Bool.and_self, q06, q4j.f_eq, Option.bind_some]
      rw [show (x.1, x.2) = x from rfl, hs, e]
  refine (key l 0 rfl).diag.mono fun k e => ?_
  rw [q1v.f_eq, show (32 : Int) = ((32 : Nat) : Int) from rfl, qxg _ _ (by simp only [q1m]; omega), q06, qno]
  simpa using e
theorem qrs (b : Book) (h : smB b) : Al fun k => q4r.f k b = some b :=
  ((qm2 b.1 h.1.1).and (qm3 b.2 h.2.1)).mono fun k ⟨e1, e2⟩ => by
    simp only [q4r.f_eq, e1, e2, Option.bind_some]
theorem qm4 (n : Nat) : (((n : Int) != (n : Int))) = false := by simp
theorem ql0 (k : Nat) (a : Aff) : q4f.f k a a = some true := by
  simp [q4f.f_eq, q08]
theorem ql1 (k : Nat) (a : En) : q4g.f k a a = some true := by
  simp [q4g.f_eq, q08]
theorem qit (l : List Aff) (hl : Sm l.length) : Al fun k => q1x.f k l l = some true := by
  have key := qa1 (Q := fun i => Al2 fun k k1 => q1x.L4 k k1 l l (i : Int) = some true) l.length
    (Al2.succ (Al2.now fun k k1 => by simp only [q1x.L4_eq, at_end (Nat.lt_irrefl _), q08])) (fun i hi h => by
      obtain ⟨c1, c2, c3, c4⟩ := q6t hi hl
      refine Al2.succ (h.mono fun k k1 e => ?_)
      simp only [q1x.L4_eq, c1, c2, c3, w64, c4, Bool.and_self, q06, ql0, Option.bind_some, Bool.not_true, q08, e]) 0 (Nat.zero_le _)
  exact key.diag.mono fun k e => by rw [q1x.f_eq, qm4, q08]; exact e
theorem qiu (l : List En) (hl : Sm l.length) : Al fun k => q1y.f k l l = some true := by
  have key := qa1 (Q := fun i => Al2 fun k k1 => q1y.L4 k k1 l l (i : Int) = some true) l.length
    (Al2.succ (Al2.now fun k k1 => by simp only [q1y.L4_eq, at_end (Nat.lt_irrefl _), q08])) (fun i hi h => by
      obtain ⟨c1, c2, c3, c4⟩ := q6t hi hl
      refine Al2.succ (h.mono fun k k1 e => ?_)
      simp only [q1y.L4_eq, c1, c2, c3, w64, c4, Bool.and_self, q06, ql1, Option.bind_some, Bool.not_true, q08, e]) 0 (Nat.zero_le _)
  exact key.diag.mono fun k e => by rw [q1y.f_eq, qm4, q08]; exact e
theorem qm5 (b : Book) (h1 : Sm b.1.length) (h2 : Sm b.2.length) : Al fun k => q4s.f k b b = some true :=
  ((qit b.1 h1).and (qiu b.2 h2)).mono fun k ⟨e1, e2⟩ => by
    simp only [q4s.f_eq, e1, e2, Option.bind_some, Bool.not_true, q08]
theorem qoo (l : List Int) : (strOf l).size = l.length := by simp [strOf, ByteArray.size]
theorem qm6 (n : Nat) (hn : n ≤ 4611686018427387904) : ∃ t, Al fun k => q0g.f k (n : Int) = some t := by
  by_cases h0 : n = 0
  · subst h0
    exact ⟨_, Al.now fun k => by rw [q0g.f_eq]; exact q06 _ _⟩
  · have key : ∀ (m : Nat) (n : Nat) (acc : ByteArray), n < 10 ^ m → n ≤ 4611686018427387904 → acc.size + m ≤ 30 → ∃ t, Al2 fun k k1 => q0g.L4 k k1 (n : Int) acc = some t := by
      intro m
      induction m with
      | zero =>
        intro n acc h1 h2 h3
        have : n = 0 := by simpa using h1
        subst this
        have e : q5x ((⟨#[109]⟩ : ByteArray).size + acc.size) = true := q4h (by
          have : (⟨#[109]⟩ : ByteArray).size = 1 := rfl
          rw [this]; omega)
        exact ⟨_, Al2.succ (Al2.now fun k k1 => by rw [q0g.L4_eq, show decide (((0 : Nat) : Int) > 0) = false from rfl, q08, e, q06])⟩
      | succ m ih =>
        intro n acc h1 h2 h3
        by_cases hz : n = 0
        · subst hz
          have e : q5x ((⟨#[109]⟩ : ByteArray).size + acc.size) = true := q4h (by
            have : (⟨#[109]⟩ : ByteArray).size = 1 := rfl
            rw [this]; omega)
          exact ⟨_, Al2.succ (Al2.now fun k k1 => by rw [q0g.L4_eq, show decide (((0 : Nat) : Int) > 0) = false from rfl, q08, e, q06])⟩
        · have hs : (strOf [(IntKind.u8.wrap (w64 ((48 : Int) + ((n : Int).tmod (10 : Int)))))]).size = 1 := qoo _
          obtain ⟨t, ht⟩ := ih (n / 10) (strOf [(IntKind.u8.wrap (w64 ((48 : Int) + ((n : Int).tmod (10 : Int)))))] ++ acc) (by rw [Nat.pow_succ] at h1; omega) (by omega) (by rw [ByteArray.size_append, hs]; omega)
          refine ⟨t, Al2.succ (ht.mono fun k k1 e => ?_)⟩
          have e1 : decide ((n : Int) > 0) = true := decide_eq_true (by omega)
          have e2 : q5x ((strOf [(IntKind.u8.wrap (w64 ((48 : Int) + ((n : Int).tmod (10 : Int)))))]).size + acc.size) = true := q4h (by
            rw [hs]; omega)
          have e3 : w64 ((n : Int).tdiv 10) = ((n / 10 : Nat) : Int) := by
            rw [show (n : Int).tdiv 10 = ((n / 10 : Nat) : Int) from rfl, w64, q6g (by omega) (by omega)]
          rw [q0g.L4_eq, e1, q06, show decide ((10 : Int) ≠ 0) = true from rfl, q06, e2, q06, q06, e3, e]
    obtain ⟨t, ht⟩ := key 19 n bz (by omega) hn (by decide)
    refine ⟨t, ht.diag.mono fun k e => ?_⟩
    rw [q0g.f_eq, decide_eq_false (by omega), q08]
    exact e
noncomputable def mT (n : Nat) : ByteArray := open Classical in if h : ∃ t, Al fun k => q0g.f k (n : Int) = some t then h.choose else bz
theorem q55 (n : Nat) (hn : n ≤ 4611686018427387904) : Al fun k => q0g.f k (n : Int) = some (mT n) := by
  have h := qm6 n hn
  unfold mT
  rw [dif_pos h]
  exact h.choose_spec
theorem q7r (m : Nat) (h : m ≤ 4611686018427387904) : w64 ((m : Int) + 1) = ((m + 1 : Nat) : Int) := by rw [w64, q6g (by omega) (by omega)]; omega
noncomputable def mkE : Nat → Nat → List En
  | 0, _ => []
  | n + 1, m => (mT m, mT (m + 1)) :: mkE n (m + 2)
noncomputable def mkA : Nat → Nat → List Aff
  | 0, _ => []
  | n + 1, m => (mT m, (((m + 1 : Nat) : Int).tmod 3 == 0), mT (m + 2), mT (m + 3), mT (m + 4)) :: mkA n (m + 5)
theorem qcs : ∀ (t a : List En) (m : Nat), a.length + t.length ≤ 1099511627776 → m + 2 * t.length ≤ 1099511627776 → Al2 fun k k1 => q0o.L2 k k1 (a ++ t) (m : Int) (a.length : Int) = some (((m + 2 * t.length : Nat) : Int), a ++ mkE t.length m)
  | [], a, m, h1, h2 => Al2.succ (Al2.now fun k k1 => by
    simp only [q0o.L2_eq, List.append_nil, at_end (Nat.lt_irrefl _), q08, List.length_nil, Nat.mul_zero, Nat.add_zero, mkE])
  | x :: t, a, m, h1, h2 => by
    rw [List.length_cons] at h1 h2
    have hi : a.length < (a ++ x :: t).length := by simp
    obtain ⟨c1, c2, c3, c4⟩ := q6t hi (by simp only [List.length_append, List.length_cons]; omega)
    have hi2 : decide ((a.length : Int) < ((a ++ (mT m, x.2) :: t).length : Int)) = true := decide_eq_true (by simp only [List.length_append, List.length_cons]; omega)
    have ih := qcs t (a ++ [(mT m, mT (m + 1))]) (m + 2) (by rw [List.length_append]; simp; omega) (by omega)
    have j7 : Al3 fun k k1 k2 => q0o.J7 k k1 k2 (a ++ (mT m, mT (m + 1)) :: t) ((m + 1 : Nat) : Int) (a.length : Int) = some (((m + 2 * (x :: t).length : Nat) : Int), a ++ mkE (x :: t).length m) := Al3.succ (ih.fst.mono fun k k1 k2 e => by
      simp only [q0o.J7_eq, q7r (m + 1) (by omega)]
      simp only [w64, c4]
      rw [show a ++ (mT m, mT (m + 1)) :: t = a ++ [(mT m, mT (m + 1))] ++ t by simp, show ((a.length + 1 : Nat) : Int) = ((a ++ [(mT m, mT (m + 1))]).length : Int) by simp, e]
      simp only [List.length_cons, mkE, List.append_assoc, List.cons_append, List.nil_append]
      rw [show m + 2 + 2 * t.length = m + 2 * (t.length + 1) by omega])
    refine Al2.succ ((((q55 m (by omega)).snd.and (q55 (m + 1) (by omega)).snd).and j7.in2).mono fun k k1 ⟨⟨e1, e2⟩, e3⟩ => ?_)
    simp only [q0o.L2_eq, c1, c2, c3, Bool.and_self, q06, e1, Option.bind_some, set_mid, q9q, q7r m (by omega), e2, hi2, e3]
theorem qct : ∀ (t a : List Aff) (m : Nat), a.length + t.length ≤ 1099511627776 → m + 5 * t.length ≤ 1099511627776 → Al2 fun k k1 => q0f.L2 k k1 (a ++ t) (m : Int) (a.length : Int) = some (((m + 5 * t.length : Nat) : Int), a ++ mkA t.length m)
  | [], a, m, h1, h2 => Al2.succ (Al2.now fun k k1 => by
    simp only [q0f.L2_eq, List.append_nil, at_end (Nat.lt_irrefl _), q08, List.length_nil, Nat.mul_zero, Nat.add_zero, mkA])
  | x :: t, a, m, h1, h2 => by
    rw [List.length_cons] at h1 h2
    have hi : a.length < (a ++ x :: t).length := by simp
    have hS : (a ++ x :: t).length ≤ 4611686018427387904 := by simp only [List.length_append, List.length_cons]; omega
    obtain ⟨c1, c2, c3, c4⟩ := q6t hi hS
    have lt : ∀ y : Aff, decide ((a.length : Int) < ((a ++ y :: t).length : Int)) = true := fun y => decide_eq_true (by simp only [List.length_append, List.length_cons]; omega)
    let y : Aff := (mT m, (((m + 1 : Nat) : Int).tmod 3 == 0), mT (m + 2), mT (m + 3), mT (m + 4))
    have ih := qct t (a ++ [y]) (m + 5) (by rw [List.length_append]; simp; omega) (by omega)
    have fin : ((m + 5 + 5 * t.length : Nat) : Int) = ((m + 5 * (x :: t).length : Nat) : Int) := by simp only [List.length_cons]; omega
    have j11 : Al3 fun k k1 k2 => q0f.J11 k k1 k2 (a ++ (mT m, (((m + 1 : Nat) : Int).tmod 3 == 0), mT (m + 2), mT (m + 3), x.2.2.2.2) :: t) ((m + 3 : Nat) : Int) (a.length : Int) = some (((m + 5 * (x :: t).length : Nat) : Int), a ++ mkA (x :: t).length m) := Al3.succ ((ih.fst.and (q55 (m + 4) (by omega)).thd).mono fun k k1 k2 ⟨e, e1⟩ => by
      simp only [q0f.J11_eq, q7r (m + 3) (by omega), q7r (m + 3 + 1) (by omega), e1, Option.bind_some, c2, c3, lt, Bool.and_self, q06, set_mid, q9q]
      simp only [w64, c4]
      rw [show a ++ (mT m, (((m + 1 : Nat) : Int).tmod 3 == 0), mT (m + 2), mT (m + 3), mT (m + 4)) :: t = a ++ [y] ++ t by simp [y], show ((a.length + 1 : Nat) : Int) = ((a ++ [y]).length : Int) by simp, show m + 3 + 1 + 1 = m + 5 by omega, e, fin]
      simp only [List.length_cons, mkA, List.append_assoc, List.cons_append, List.nil_append]
      rfl)
    have j7 : Al3 fun k k1 k2 => q0f.J7 k k1 k2 (a ++ (mT m, (((m + 1 : Nat) : Int).tmod 3 == 0), x.2.2) :: t) ((m + 1 : Nat) : Int) (a.length : Int) = some (((m + 5 * (x :: t).length : Nat) : Int), a ++ mkA (x :: t).length m) := Al3.succ (((j11.and (q55 (m + 2) (by omega)).thd).and (q55 (m + 3) (by omega)).thd).mono fun k k1 k2 ⟨⟨e, e1⟩, e2⟩ => by
      simp only [q0f.J7_eq, q7r (m + 1) (by omega), q7r (m + 1 + 1) (by omega), show m + 1 + 1 = m + 2 from rfl, show m + 2 + 1 = m + 3 from rfl, e1, e2, Option.bind_some, c2, c3, lt, Bool.and_self, q06, set_mid, q9q]
      exact e)
    refine Al2.succ (((q55 m (by omega)).snd.and j7.in2).mono fun k k1 ⟨e1, e3⟩ => ?_)
    simp only [q0f.L2_eq, c1, c2, c3, Bool.and_self, q06, e1, Option.bind_some, set_mid, q9q, q7r m (by omega), lt, show decide ((3 : Int) ≠ 0) = true from rfl]
    exact e3
noncomputable def qxh (b : Book) (m : Nat) : Book := (mkA b.1.length m, mkE b.2.length (m + 5 * b.1.length))
theorem qm7 (b : Book) (m : Nat) (h1 : b.1.length ≤ 1000000000) (h2 : b.2.length ≤ 1000000000) (hm : m ≤ 1000000000) : Al fun k => q40.f k b (m : Int) = some (((m + 5 * b.1.length + 2 * b.2.length : Nat) : Int), qxh b m) :=
  ((qct b.1 [] m (by simp; omega) (by omega)).diag.and (qcs b.2 [] (m + 5 * b.1.length) (by simp; omega) (by omega)).diag).mono fun k ⟨e1, e2⟩ => by
    simp only [List.nil_append, List.length_nil] at e1 e2
    simp only [q40.f_eq, q0f.f_eq, q0o.f_eq]
    rw [show (0 : Int) = ((0 : Nat) : Int) from rfl, e1, Option.bind_some, e2]
    rfl
theorem qhg : ∀ (n m : Nat), (mkA n m).length = n
  | 0, _ => rfl
  | n + 1, m => by rw [mkA, List.length_cons, qhg]
theorem qhh : ∀ (n m : Nat), (mkE n m).length = n
  | 0, _ => rfl
  | n + 1, m => by rw [mkE, List.length_cons, qhh]
theorem qcu : ∀ (n : Nat) (a : List En) (m : Nat), a.length + n ≤ 1099511627776 → m + 2 * n ≤ 1099511627776 → Al2 fun k k1 => q1e.L2 k k1 (a ++ mkE n m) (m : Int) (a.length : Int) = some ((m + 2 * n : Nat) : Int)
  | 0, a, m, h1, h2 => Al2.succ (Al2.now fun k k1 => by
    simp only [q1e.L2_eq, mkE, List.append_nil, at_end (Nat.lt_irrefl _), q08, Nat.mul_zero, Nat.add_zero])
  | n + 1, a, m, h1, h2 => by
    have hi : a.length < (a ++ mkE (n + 1) m).length := by simp [mkE]
    obtain ⟨c1, c2, c3, c4⟩ := q6t hi (by simp only [List.length_append, qhh]; omega)
    have ih := qcu n (a ++ [(mT m, mT (m + 1))]) (m + 2) (by rw [List.length_append]; simp; omega) (by omega)
    refine Al2.succ ((((q55 m (by omega)).snd.and (q55 (m + 1) (by omega)).snd).and ih).mono fun k k1 ⟨⟨e1, e2⟩, e3⟩ => ?_)
    simp only [q1e.L2_eq, c1, c2, c3, Bool.and_self, q06, e1, Option.bind_some, q7r m (by omega), q7r (m + 1) (by omega), e2]
    simp only [mkE, q9q, beq_self_eq_true, Bool.not_true, q08]
    simp only [w64, c4]
    rw [show a ++ (mT m, mT (m + 1)) :: mkE n (m + 2) = a ++ [(mT m, mT (m + 1))] ++ mkE n (m + 2) by simp, show ((a.length + 1 : Nat) : Int) = ((a ++ [(mT m, mT (m + 1))]).length : Int) by simp, show m + 1 + 1 = m + 2 from rfl, e3]
    rw [show m + 2 + 2 * n = m + 2 * (n + 1) by omega]
theorem qcv : ∀ (n : Nat) (a : List Aff) (m : Nat), a.length + n ≤ 1099511627776 → m + 5 * n ≤ 1099511627776 → Al2 fun k k1 => q1d.L2 k k1 (a ++ mkA n m) (m : Int) (a.length : Int) = some ((m + 5 * n : Nat) : Int)
  | 0, a, m, h1, h2 => Al2.succ (Al2.now fun k k1 => by
    simp only [q1d.L2_eq, mkA, List.append_nil, at_end (Nat.lt_irrefl _), q08, Nat.mul_zero, Nat.add_zero])
  | n + 1, a, m, h1, h2 => by
    have hi : a.length < (a ++ mkA (n + 1) m).length := by simp [mkA]
    obtain ⟨c1, c2, c3, c4⟩ := q6t hi (by simp only [List.length_append, qhg]; omega)
    have ih := qcv n (a ++ [(mT m, (((m + 1 : Nat) : Int).tmod 3 == 0), mT (m + 2), mT (m + 3), mT (m + 4))]) (m + 5) (by rw [List.length_append]; simp; omega) (by omega)
    refine Al2.succ ((((q55 m (by omega)).snd.and (q55 (m + 2) (by omega)).snd).and (((q55 (m + 3) (by omega)).snd.and (q55 (m + 4) (by omega)).snd).and ih)).mono fun k k1 ⟨⟨e1, e2⟩, ⟨e3, e4⟩, e5⟩ => ?_)
    simp only [q1d.L2_eq, c1, c2, c3, Bool.and_self, q06, e1, Option.bind_some, q7r m (by omega), q7r (m + 1) (by omega), show m + 1 + 1 = m + 2 from rfl, q7r (m + 2) (by omega), show m + 2 + 1 = m + 3 from rfl, q7r (m + 3) (by omega), show m + 3 + 1 = m + 4 from rfl, q7r (m + 4) (by omega), show m + 4 + 1 = m + 5 from rfl, e2, e3, e4, show decide ((3 : Int) ≠ 0) = true from rfl]
    simp only [mkA, q9q, beq_self_eq_true, Bool.not_true, q08]
    simp only [w64, c4]
    rw [show a ++ (mT m, (((m + 1 : Nat) : Int).tmod 3 == 0), mT (m + 2), mT (m + 3), mT (m + 4)) :: mkA n (m + 5) = a ++ [(mT m, (((m + 1 : Nat) : Int).tmod 3 == 0), mT (m + 2), mT (m + 3), mT (m + 4))] ++ mkA n (m + 5) by simp, show ((a.length + 1 : Nat) : Int) = ((a ++ [((mT m, (((m + 1 : Nat) : Int).tmod 3 == 0), mT (m + 2), mT (m + 3), mT (m + 4)) : Aff)]).length : Int) by simp, e5]
    rw [show m + 5 + 5 * n = m + 5 * (n + 1) by omega]
theorem qm8 (b : Book) (m : Nat) (h1 : b.1.length ≤ 1000000000) (h2 : b.2.length ≤ 1000000000) (hm : m ≤ 1000000000) : Al fun k => q3w.f k (qxh b m) (m : Int) = some ((m + 5 * b.1.length + 2 * b.2.length : Nat) : Int) :=
  ((qcv b.1.length [] m (by simp; omega) (by omega)).diag.and (qcu b.2.length [] (m + 5 * b.1.length) (by simp; omega) (by omega)).diag).mono fun k ⟨e1, e2⟩ => by
    simp only [List.nil_append, List.length_nil] at e1 e2
    simp only [q3w.f_eq, q1d.f_eq, q1e.f_eq, qxh]
    rw [show (0 : Int) = ((0 : Nat) : Int) from rfl, e1, Option.bind_some, decide_eq_false (by omega), q08, e2, Option.bind_some, decide_eq_false (by omega), q08]
end Go.Proofs.YtjfkeknnjjlepaaGreatDoor.Rf
end

section
/- Marks in a delta, and that they are found again. -/
namespace Go.Proofs.YtjfkeknnjjlepaaGreatDoor.Rf
open Go Go.RowKit
set_option linter.unusedVariables false
set_option linter.unusedSimpArgs false
end Go.Proofs.YtjfkeknnjjlepaaGreatDoor.Rf
end

section
/- What an argument of the laws is good for. -/
namespace Go.Proofs.YtjfkeknnjjlepaaGreatDoor.Rf
open Go Go.RowKit
set_option linter.unusedVariables false
set_option linter.unusedSimpArgs false
theorem qxi {a : Aff} (h : q7s (.st (.pair .str (.pair .bool (.pair .str (.pair .str .str))))) a) : bgA a := ⟨h.1, h.2.2.1, h.2.2.2.1, h.2.2.2.2⟩
theorem qxj {e : En} (h : q7s (.st (.pair .str .str)) e) : bgE e := h
theorem qxk {b : Book} (h : q7s (.st (.pair (.row (.st (.pair .str (.pair .bool (.pair .str (.pair .str .str)))))) (.row (.st (.pair .str .str))))) b) : bgB b :=
  ⟨⟨h.1.1, fun a ha => qxi (h.1.2 a ha)⟩, h.2.1, fun e he => qxj (h.2.2 e he)⟩
end Go.Proofs.YtjfkeknnjjlepaaGreatDoor.Rf
end

section
namespace Go.Proofs.YtjfkeknnjjlepaaGreatDoor.Rf
open Go Go.RowKit
set_option linter.unusedVariables false
set_option linter.unusedSimpArgs false
theorem qb9 (a b : Book) (h1 : Sm a.1.length) (h2 : Sm a.2.length) : Al fun k => q2r.f k a b = some (decide (a = b)) := by
  by_cases hlen : a.2.length = b.2.length
  case neg =>
    refine Al.now fun k => ?_
    rw [q2r.f_eq, show ((a.2.length : Int) != (b.2.length : Int)) = true by rw [bne_iff_ne]; omega, q06, decide_eq_false fun e => hlen (by rw [e])]
  have key : ∀ (t : List En) (i : Nat), a.2.drop i = t → Al2 fun k k1 => q2r.L4 k k1 a b (i : Int) = some (decide (t = b.2.drop i)) := by
    intro t
    induction t with
    | nil =>
      intro i hd
      have he := drop_nil hd
      refine Al2.succ (Al2.now fun k k1 => ?_)
      rw [q2r.L4_eq, at_end he, q08, List.drop_eq_nil_of_le (show b.2.length ≤ i by omega), decide_eq_true rfl]
    | cons x t ih =>
      intro i hd
      obtain ⟨hi, g1, g2⟩ := q45 zE hd
      obtain ⟨c1, c2, c3, c4⟩ := q6t hi h2
      have hm : i < b.2.length := by omega
      have hmd : b.2.drop i = b.2[i] :: b.2.drop (i + 1) := List.drop_eq_getElem_cons hm
      have gm : b.2.getD i zE = b.2[i] := by rw [List.getD_eq_getElem?_getD, List.getElem?_eq_getElem hm]; rfl
      have cm : decide ((i : Int) < (b.2.length : Int)) = true := decide_eq_true (by omega)
      refine Al2.succ ((ih (i + 1) g2).mono fun k k1 e => ?_)
      simp only [q2r.L4_eq, c1, c2, c3, w64, c4, g1, cm, gm, Bool.and_self, q06, e, qup, hmd]
      by_cases h : x = b.2[i]
      · rw [decide_eq_true h, Bool.not_true, q08]
        exact congrArg some (decide_eq_decide.2 ⟨fun e => by rw [h, e], fun e => (List.cons.inj e).2⟩)
      · rw [decide_eq_false h, Bool.not_false, q06]
        exact congrArg some (decide_eq_false fun e => h (List.cons.inj e).1).symm
  refine ((qdm a.1 b.1 h1).and (key a.2 0 rfl).diag).mono fun k ⟨e, e2⟩ => ?_
  rw [q2r.f_eq, show ((a.2.length : Int) != (b.2.length : Int)) = false by rw [bne_eq_false_iff_eq]; omega, q08, e, Option.bind_some, ← qnf]
  cases decide (a.1 = b.1) with
  | false => rw [Bool.not_false, q06]; rfl
  | true => rw [Bool.not_true, q08]; exact e2
theorem q7q (c : q0l) (h : smC c) : Al fun k => q2p.f k c = some (q68 c) := by
  have e1 := fun k => qcg k c.1 h.key
  obtain ⟨m1, m2⟩ := qng h.bk
  unfold q68
  cases hk : qde c.1 with
  | false => exact Al.now fun k => by rw [q2p.f_eq, e1, hk, Option.bind_some, Bool.not_false, q06, Bool.false_and]
  | true =>
  rw [Bool.true_and]
  by_cases hz : c.2.2.2.2.size ≤ 13270
  case neg => exact Al.now fun k => by rw [q2p.f_eq, e1, hk, Option.bind_some, Bool.not_true, q08, decide_eq_true (show (c.2.2.2.2.size : Int) > 13270 by omega), q06, decide_eq_false hz, Bool.false_and]
  have n1 : decide ((c.2.2.2.2.size : Int) > 13270) = false := decide_eq_false (by omega)
  rw [decide_eq_true hz, Bool.true_and]
  cases hu : c.2.1 with
  | false =>
    refine (qb9 c.2.2.2.1 zB m1 m2).mono fun k e => ?_
    rw [q2p.f_eq, e1, hk, Option.bind_some, Bool.not_true, q08, n1, q08, hu, Bool.not_false, q06, q8l, if_neg (by simp)]
    cases decide (c.2.2.1 = 0) with
    | false => rw [q08, Bool.false_and]
    | true =>
      rw [q06, Bool.true_and]
      show (q2r.f k c.2.2.2.1 zB).bind _ = _
      rw [e, Option.bind_some]
  | true =>
    rw [if_pos rfl]
    have e2 := qb7 c.1 c.2.2.2.2 h.key (by omega)
    by_cases h2 : c.2.2.2.2.size ≤ 12000
    case neg =>
      refine e2.mono fun k e => ?_
      rw [q2p.f_eq, e1, hk, Option.bind_some, Bool.not_true, q08, n1, q08, hu, Bool.not_true, q08, e, Option.bind_some, decide_eq_false h2, Bool.false_and]
      dsimp only [qw0]
      rw [q8l]
      by_cases h3 : ((hist c.1 c.2.2.2.2 c.2.2.2.2.size).2.1 : Int) = (c.2.2.2.2.size : Int)
      · have h5 : ¬ ((hist c.1 c.2.2.2.2 c.2.2.2.2.size).2.1 : Int) ≤ 12000 := by omega
        rw [decide_eq_true h3, q06]
        simp only [h5, decide_false, q08]
      · rw [decide_eq_false h3, q08]
    rw [qnn (Nat.le_refl _) h2] at e2
    have hmost := qkz c.1 c.2.2.2.2 12000
    refine (e2.and (qb9 c.2.2.2.1 (hist c.1 c.2.2.2.2 12000).2.2 m1 m2)).mono fun k ⟨e, e2⟩ => ?_
    rw [q2p.f_eq, e1, hk, Option.bind_some, Bool.not_true, q08, n1, q08, hu, Bool.not_true, q08, e, Option.bind_some, decide_eq_true h2, Bool.true_and]
    dsimp only [qw0]
    rw [q8l, q8l, show decide (((hist c.1 c.2.2.2.2 12000).2.1 : Int) = (c.2.2.2.2.size : Int)) = decide ((hist c.1 c.2.2.2.2 12000).2.1 = c.2.2.2.2.size) from decide_eq_decide.2 (by omega)]
    have h6 : ((hist c.1 c.2.2.2.2 12000).2.1 : Int) ≤ 12000 := by omega
    simp only [h6, decide_true, q06]
    rw [e2, Option.bind_some]
    cases decide ((hist c.1 c.2.2.2.2 12000).2.1 = c.2.2.2.2.size) <;> cases decide (c.2.2.1 = ((hist c.1 c.2.2.2.2 12000).1.length : Int)) <;> simp [q06, q08]
theorem q86 (k : Nat) (c : q0l) (h : smB c.2.2.2.1) : q2a.f k c = some c := by
  rw [q2a.f_eq, q69 k c.2.2.2.1 h.1.1 h.2.1, Option.bind_some]
theorem q8n (k : Nat) (c : q0l) (h : smB c.2.2.2.1) : q3v.f k c = some c := by
  rw [q3v.f_eq, q5t k c.2.2.2.1 h.1.1 h.2.1, Option.bind_some]
theorem qba (c : q0l) (t : ByteArray) (h : smC c) (hu : c.2.1 = true) (hn : 0 ≤ c.2.2.1 ∧ c.2.2.1 ≤ 1000000) (hz : c.2.2.2.2.size ≤ 20000000) (ht : t.size ≤ 20000000) : Al fun k => q44.f k c t = some (take1 c t) := by
  have hG := q62 t (by omega)
  have e0 := fun k => q8n k c h.bk
  have w1 : w64 (c.2.2.1 + 1) = c.2.2.1 + 1 := q6g (by omega) (by omega)
  have w2 : w64 ((c.2.2.2.2.size : Int) + (t.size : Int)) = (c.2.2.2.2.size : Int) + (t.size : Int) := q6g (by omega) (by omega)
  unfold take1
  cases h1 : (q5k t).2 with
  | false => exact hG.mono fun k e => by rw [q44.f_eq, e0, Option.bind_some, e, Option.bind_some, h1, Bool.not_false, q06, if_pos rfl]
  | true =>
  have hr := qil (qdi h1).1
  have hO := q9b c.1 (q5k t).1 h.key hr
  have hD := q9c c.1 c.2.2.1 c.2.2.2.1 (q5k t).1 h.key (by omega) h.bk hr
  refine ((hG.and hO).and hD).mono fun k ⟨⟨e, e2⟩, e3⟩ => ?_
  rw [q44.f_eq, e0, Option.bind_some, e, Option.bind_some, h1, Bool.not_true, q08, if_neg (by simp), e2, Option.bind_some, w1, w2]
  cases h2 : qdk c.1 (q5k t).1 with
  | false => rw [Bool.not_false, q06, if_pos rfl]
  | true =>
  rw [Bool.not_true, q08, if_neg (by simp)]
  by_cases h3 : (q5k t).1.1 ≤ c.2.2.1
  · rw [decide_eq_true h3, q06, if_pos h3]
  rw [decide_eq_false h3, q08, if_neg h3]
  by_cases h4 : (q5k t).1.1 > c.2.2.1 + 1
  · rw [decide_eq_true h4, q06, if_pos h4]
  rw [decide_eq_false h4, q08, if_neg h4]
  by_cases h5 : c.2.2.2.2.size + t.size > 12000
  · rw [decide_eq_true (show (c.2.2.2.2.size : Int) + (t.size : Int) > 12000 by omega), q06, if_pos h5]
  rw [decide_eq_false (show ¬ (c.2.2.2.2.size : Int) + (t.size : Int) > 12000 by omega), q08, if_neg h5, e3, Option.bind_some]
  cases h6 : (q89 c.1 c.2.2.1 c.2.2.2.1 (q5k t).1).2 with
  | false => rw [Bool.not_false, q06, if_neg (by simp)]
  | true => rw [Bool.not_true, q08, q4h (by omega), q06, if_pos rfl, hu]
theorem q9r {c : q0l} (h : q68 c = true) : (0 ≤ c.2.2.1 ∧ c.2.2.1 ≤ 1000000) ∧ c.2.2.2.2.size ≤ 20000000 := by
  cases hu : c.2.1 with
  | false => have := qty h hu; omega
  | true =>
    have hU := qxc h hu
    have h1 := hU.size
    have h2 := qii hU.play
    have h3 := hU.num
    have h4 : c.2.2.2.2.size = (q87 (hist c.1 c.2.2.2.2 12000).1).length := by
      have := hU.file
      conv => lhs; rw [this]
      rw [size_mk]
    omega
theorem q8j (c : q0l) (t : ByteArray) (h : smC c) (ht : t.size ≤ 20000000) : Al fun k => q27.f k c t = some (takeC c t) := by
  have hO := q6m c h
  have e0 := fun k => q86 k c h.bk
  unfold takeC
  cases hc : q68 c with
  | false => exact hO.mono fun k e => by rw [q27.f_eq, e, hc, Option.bind_some, Bool.not_false, q06]; rfl
  | true =>
  rw [if_pos rfl]
  cases hu : c.2.1 with
  | false => exact hO.mono fun k e => by rw [q27.f_eq, e, hc, Option.bind_some, Bool.not_true, q08, e0, Option.bind_some, hu, Bool.not_false, q06, if_neg (by simp)]
  | true =>
  rw [if_pos rfl]
  obtain ⟨hn, hz⟩ := q9r hc
  have hG := q8g t (by omega)
  have w1 : w64 (c.2.2.1 + 1) = c.2.2.1 + 1 := q6g (by omega) (by omega)
  have w2 : w64 ((c.2.2.2.2.size : Int) + (t.size : Int)) = (c.2.2.2.2.size : Int) + (t.size : Int) := q6g (by omega) (by omega)
  unfold take1
  cases h1 : (q5k t).2 with
  | false => exact (hO.and hG).mono fun k ⟨e', e⟩ => by rw [q27.f_eq, e', hc, Option.bind_some, Bool.not_true, q08, e0, Option.bind_some, hu, Bool.not_true, q08, e, Option.bind_some, h1, Bool.not_false, q06, if_pos rfl]
  | true =>
  have hr := qil (qdi h1).1
  have hO2 := q97 c.1 (q5k t).1 h.key hr
  have hD := q98 c.1 c.2.2.1 c.2.2.2.1 (q5k t).1 h.key (by omega) h.bk hr
  refine ((hO.and hG).and (hO2.and hD)).mono fun k ⟨⟨e', e⟩, e2, e3⟩ => ?_
  rw [q27.f_eq, e', hc, Option.bind_some, Bool.not_true, q08, e0, Option.bind_some, hu, Bool.not_true, q08, e, Option.bind_some, h1, Bool.not_true, q08, if_neg (by simp), e2, Option.bind_some, w1, w2]
  cases h2 : qdk c.1 (q5k t).1 with
  | false => rw [Bool.not_false, q06, if_pos rfl]
  | true =>
  rw [Bool.not_true, q08, if_neg (by simp)]
  by_cases h3 : (q5k t).1.1 ≤ c.2.2.1
  · rw [decide_eq_true h3, q06, if_pos h3]
  rw [decide_eq_false h3, q08, if_neg h3]
  by_cases h4 : (q5k t).1.1 > c.2.2.1 + 1
  · rw [decide_eq_true h4, q06, if_pos h4]
  rw [decide_eq_false h4, q08, if_neg h4]
  by_cases h5 : c.2.2.2.2.size + t.size > 12000
  · rw [decide_eq_true (show (c.2.2.2.2.size : Int) + (t.size : Int) > 12000 by omega), q06, if_pos h5]
  rw [decide_eq_false (show ¬ (c.2.2.2.2.size : Int) + (t.size : Int) > 12000 by omega), q08, if_neg h5, e3, Option.bind_some]
  cases h6 : (q89 c.1 c.2.2.1 c.2.2.2.1 (q5k t).1).2 with
  | false => rw [Bool.not_false, q06, if_neg (by simp)]
  | true => rw [Bool.not_true, q08, q4h (by omega), q06, if_pos rfl]
theorem qbt (c : q0l) (h : smB c.2.2.2.1) : Al fun k => q1w.f k c = some c := (qrs c.2.2.2.1 h).mono fun k e => by rw [q1w.f_eq, e, Option.bind_some]
theorem q73 (c : q0l) (h : smB c.2.2.2.1) : Al fun k => q2c.f k c c = some true := by
  obtain ⟨m1, m2⟩ := qng h
  refine (qm5 c.2.2.2.1 m1 m2).mono fun k e => ?_
  rw [q2c.f_eq, beq_self_eq_true, Bool.not_true, q08, beq_self_eq_true, Bool.not_true, q08, bne_self_eq_false, q08, e, Option.bind_some, Bool.not_true, q08, beq_self_eq_true, Bool.not_true, q08]
end Go.Proofs.YtjfkeknnjjlepaaGreatDoor.Rf
end

section
/- The laws' words on releases: sizes, copies, equals, marks. -/
namespace Go.Proofs.YtjfkeknnjjlepaaGreatDoor.Rf
open Go Go.RowKit
set_option linter.unusedVariables false
set_option linter.unusedSimpArgs false
abbrev TyBk : Ty := .st (.pair (.row (.st (.pair .str (.pair .bool (.pair .str (.pair .str .str)))))) (.row (.st (.pair .str .str))))
theorem qxl {n : Int} (h : q7s (.int .i64) n) : -9223372036854775808 ≤ n ∧ n ≤ 9223372036854775807 := by
  have h' : (Lit.int .i64 n).wf = true := h
  simp only [Lit.wf, IntKind.min, IntKind.max, Bool.and_eq_true] at h'
  have h1 := of_decide_eq_true h'.1
  have h2 := of_decide_eq_true h'.2
  rw [if_pos (show IntKind.i64.signed = true from rfl)] at h1 h2
  exact ⟨h1, h2⟩
theorem qxm {b : Book} (h : qm0 b ≤ 1048576) : b.1.length ≤ 1048576 ∧ b.2.length ≤ 1048576 := by unfold qm0 qoz qur at h; omega
end Go.Proofs.YtjfkeknnjjlepaaGreatDoor.Rf
end

section
/- The law FnExactReleaseDo is true. -/
namespace Go.Proofs.YtjfkeknnjjlepaaGreatDoor.Rf
open Go Go.RowKit
set_option linter.unusedVariables false
set_option linter.unusedSimpArgs false
end Go.Proofs.YtjfkeknnjjlepaaGreatDoor.Rf
end

section
/- The law FnExactClientOk is true; a client's size. -/
namespace Go.Proofs.YtjfkeknnjjlepaaGreatDoor.Rf
open Go Go.RowKit
set_option linter.unusedVariables false
set_option linter.unusedSimpArgs false
abbrev qxn : Ty := .st (.pair .str (.pair .bool (.pair (.int .i64) (.pair TyBk .str))))
def qnp (c : q0l) : Nat := c.1.size + qm0 c.2.2.2.1 + c.2.2.2.2.size
def bgC (c : q0l) : Prop := Big c.1.size ∧ bgB c.2.2.2.1 ∧ Big c.2.2.2.2.size
theorem qrt {c : q0l} (h : q7s qxn c) : bgC c := ⟨h.1, qxk h.2.2.2.1, h.2.2.2.2⟩
theorem qru {c : q0l} (h : q7s qxn c) : -9223372036854775808 ≤ c.2.2.1 ∧ c.2.2.1 ≤ 9223372036854775807 := qxl h.2.2.1
theorem qbu (c : q0l) (n : Int) (h0 : 0 ≤ n) (h1 : n ≤ 1048576) (hb : bgC c) : Al fun k => q33.f k c n = some (qas n (qnp c)) := by
  obtain ⟨b1, b2, b3⟩ := hb
  unfold Big at b1 b3
  have w1 : w64 (n - (c.1.size : Int)) = n - (c.1.size : Int) := q6g (by omega) (by omega)
  by_cases c1 : (c.1.size : Int) ≤ n
  case neg => exact Al.now fun k => by rw [q33.f_eq, w1, decide_eq_true (by omega), q06, qas, if_neg (by unfold qnp; omega)]
  refine (qrr c.2.2.2.1 (n - (c.1.size : Int)) (by omega) (by omega) b2).mono fun k e => ?_
  rw [q33.f_eq, w1, decide_eq_false (by omega), q08, e, Option.bind_some, q6b _ _ (by omega)]
  by_cases c2 : (qm0 c.2.2.2.1 : Int) ≤ n - (c.1.size : Int)
  case neg => rw [decide_eq_true (by omega), q06, qas, if_neg (by unfold qnp; omega)]
  have e1 : qas (n - (c.1.size : Int)) (qm0 c.2.2.2.1) = n - (c.1.size : Int) - qm0 c.2.2.2.1 := if_pos c2
  have w2 : w64 (n - (c.1.size : Int) - (qm0 c.2.2.2.1 : Int) - (c.2.2.2.2.size : Int)) = n - (c.1.size : Int) - (qm0 c.2.2.2.1 : Int) - (c.2.2.2.2.size : Int) := q6g (by omega) (by omega)
  rw [decide_eq_false (by omega), q08, e1, w2]
  by_cases c3 : (c.2.2.2.2.size : Int) ≤ n - (c.1.size : Int) - (qm0 c.2.2.2.1 : Int)
  · rw [decide_eq_false (by omega), q08, qas, if_pos (by unfold qnp; omega)]
    congr 1
    unfold qnp
    omega
  · rw [decide_eq_true (by omega), q06, qas, if_neg (by unfold qnp; omega)]
theorem qrv {c : q0l} (h : qnp c ≤ 1048576) (hn : -9223372036854775808 ≤ c.2.2.1 ∧ c.2.2.1 ≤ 9223372036854775807) : smC c :=
  ⟨by unfold qnp at h; omega, qxf (by unfold qnp at h; omega), hn⟩
end Go.Proofs.YtjfkeknnjjlepaaGreatDoor.Rf
end

section
/- The law FnExactClientTake is true. -/
namespace Go.Proofs.YtjfkeknnjjlepaaGreatDoor.Rf
open Go Go.RowKit
set_option linter.unusedVariables false
set_option linter.unusedSimpArgs false
def lnB (b : Book) : Prop := b.1.length ≤ 10000000 ∧ b.2.length ≤ 10000000
def nCl (c : q0l) : Nat := 5 * c.2.2.2.1.1.length + 2 * c.2.2.2.1.2.length
noncomputable def qxo (c : q0l) (m : Nat) : q0l := (c.1, c.2.1, c.2.2.1, qxh c.2.2.2.1 m, c.2.2.2.2)
theorem q7x (c : q0l) (h : lnB c.2.2.2.1) : Al fun k => q2k.f k c 1 = some (((1 + nCl c : Nat) : Int), qxo c 1) := by
  obtain ⟨h1, h2⟩ := h
  refine (qm7 c.2.2.2.1 1 (by omega) (by omega) (by omega)).mono fun k e => ?_
  rw [show ((1 : Nat) : Int) = 1 from rfl] at e
  rw [q2k.f_eq, e, Option.bind_some, nCl, ← Nat.add_assoc]
  rfl
theorem qcw (c : q0l) (h : lnB c.2.2.2.1) : Al fun k => q2l.f k (qxo c 1) 1 = some ((1 + nCl c : Nat) : Int) := by
  obtain ⟨h1, h2⟩ := h
  refine (qm8 c.2.2.2.1 1 (by omega) (by omega) (by omega)).mono fun k e => ?_
  rw [show ((1 : Nat) : Int) = 1 from rfl] at e
  rw [q2l.f_eq]
  show (q3w.f k (qxh c.2.2.2.1 1) 1).bind _ = _
  rw [e, Option.bind_some, decide_eq_false (by omega), q08, nCl, ← Nat.add_assoc]
theorem qus {b : Book} (h : q5r b = true) : lnB b := by
  obtain ⟨⟨a5, a6⟩, a3, a4⟩ := qog h
  exact ⟨by omega, by omega⟩
theorem qrw {b : Book} (h : qm0 b ≤ 1048576) : lnB b := by
  obtain ⟨h1, h2⟩ := qxm h
  exact ⟨by omega, by omega⟩
end Go.Proofs.YtjfkeknnjjlepaaGreatDoor.Rf
end
