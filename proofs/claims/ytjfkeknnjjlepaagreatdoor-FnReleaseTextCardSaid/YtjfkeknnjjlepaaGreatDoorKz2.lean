import Derived.Test.YtjfkeknnjjlepaaGreatDoorKz1
import Derived.Below
import Derived.Carry
import Derived.ChangeOld
import Derived.Lib.LaidTab
import Derived.ChangeShapes
import Derived.LaidLaws
import Derived.RowKitTokens

section
/- A release read, both sides: readR. -/
namespace Go.Proofs.YtjfkeknnjjlepaaGreatDoor.Rf
open Go Go.RowKit
set_option linter.unusedVariables false
set_option linter.unusedSimpArgs false
theorem qqt (k : Nat) (s p : ByteArray) : strings_TrimPrefix.f k s p = some (qb0 p s) := by
  have h := q4s k s p
  rw [strings_HasPrefix.f_eq] at h
  have h2 : q0i.f k s p = some (qh1 s p) := by
    cases e : q0i.f k s p with
    | none => rw [e] at h; cases h
    | some b => rw [e] at h; exact h
  rw [strings_TrimPrefix.f_eq, q0t.f_eq, h2, Option.bind_some, qb0]
  cases hb : qh1 s p with
  | false => rw [q0e, Option.bind_some, if_neg (by simp)]
  | true =>
    have hp : p.size ≤ s.size := by
      unfold qh1 at hb
      simp only [Bool.and_eq_true, decide_eq_true_eq] at hb
      exact hb.1
    rw [q07, decide_eq_true (show (0 : Int) ≤ (p.size : Int) by omega), decide_eq_true (show (p.size : Int) ≤ (s.size : Int) by omega), decide_eq_true (Int.le_refl (s.size : Int)), show (true && (true && true)) = true from rfl, q07, Option.bind_some, if_pos rfl, Int.toNat_natCast, Int.toNat_natCast]
theorem qqu (s : ByteArray) (hs : s.size ≤ 6) : ∀ (t : By) (i a : Nat), (bl s).drop i = t → a * 10 ^ t.length + 10 ^ t.length ≤ 10 ^ 7 → i ≤ s.size →
    Al2 fun k k1 => q27.L5 k k1 s (a : Int) (i : Int) = some (if t.all isD then (qn3 t a : Int) else -1) := by
  intro t
  induction t with
  | nil =>
    intro i a hd ha hi
    refine Al2.succ (Al2.now fun k k1 => ?_)
    have hz := drop_nil hd
    rw [q4b] at hz
    rw [q27.L5_eq, at_end hz, q0e]
    rfl
  | cons b t ih =>
    intro i a hd ha hi
    obtain ⟨h1, h2, h3⟩ := q62 hd
    obtain ⟨c1, c2, c3, c4⟩ := q5y h1 (by omega)
    have hb := UInt8.toNat_lt b
    rw [List.length_cons, Nat.pow_succ] at ha
    have hp : 1 ≤ 10 ^ t.length := Nat.pow_pos (show 0 < 10 by omega)
    by_cases d1 : b.toNat < 48
    · refine Al2.succ (Al2.now fun k k1 => ?_)
      rw [q27.L5_eq, c1, c2, Bool.and_self, q07, q07, h2, decide_eq_true (show (b.toNat : Int) < 48 by omega), q07]
      have : isD b = false := by rw [isD, decide_eq_false (by omega)]; rfl
      rw [List.all_cons, this, Bool.false_and, if_neg (by simp)]
    by_cases d2 : b.toNat > 57
    · refine Al2.succ (Al2.now fun k k1 => ?_)
      rw [q27.L5_eq, c1, c2, Bool.and_self, q07, q07, h2, decide_eq_false (show ¬ (b.toNat : Int) < 48 by omega), q0e, q07, decide_eq_true (show (b.toNat : Int) > 57 by omega), q07]
      have : isD b = false := by rw [isD, decide_eq_false (show ¬ b.toNat ≤ 57 by omega), Bool.and_false]
      rw [List.all_cons, this, Bool.false_and, if_neg (by simp)]
    have hD : isD b = true := by rw [isD, decide_eq_true (by omega), decide_eq_true (by omega)]; rfl
    have q1 : (a * 10 + (b.toNat - 48)) * 10 ^ t.length + 10 ^ t.length ≤ 10 ^ 7 := by
      have e1 : (a * 10 + (b.toNat - 48)) * 10 ^ t.length ≤ (a * 10 + 9) * 10 ^ t.length := Nat.mul_le_mul_right _ (by omega)
      have e2 : (a * 10 + 9) * 10 ^ t.length + 10 ^ t.length = a * (10 ^ t.length * 10) + 10 ^ t.length * 10 := by
        rw [Nat.add_mul, Nat.mul_assoc a 10, Nat.mul_comm 10 (10 ^ t.length)]; omega
      omega
    have ha2 : a ≤ 10 ^ 7 := by
      have : a * 1 ≤ a * (10 ^ t.length * 10) := Nat.mul_le_mul_left _ (by omega)
      omega
    have ih' := ih (i + 1) (a * 10 + (b.toNat - 48)) h3 q1 (by omega)
    have w1 : IntKind.i64.wrap ((a : Int) * 10) = ((a * 10 : Nat) : Int) := by rw [q5i (by omega) (by omega)]; omega
    have w2 : IntKind.u8.wrap ((b.toNat : Int) - 48) = ((b.toNat - 48 : Nat) : Int) := by
      have h : (b.toNat : Int) - 48 = ((b.toNat - 48 : Nat) : Int) := by omega
      rw [h]
      generalize b.toNat - 48 = n at *
      have hn : n ≤ 9 := by omega
      rcases n with _|_|_|_|_|_|_|_|_|_|n
      all_goals first | rfl | omega
    have w3 : IntKind.i64.wrap ((b.toNat - 48 : Nat) : Int) = ((b.toNat - 48 : Nat) : Int) := q5i (by omega) (by omega)
    have w4 : IntKind.i64.wrap (((a * 10 : Nat) : Int) + ((b.toNat - 48 : Nat) : Int)) = ((a * 10 + (b.toNat - 48) : Nat) : Int) := by rw [q5i (by omega) (by omega)]; omega
    refine Al2.succ (ih'.mono fun k k1 e => ?_)
    rw [q27.L5_eq]
    simp only [c1, c2, Bool.and_self, q07, h2, decide_eq_false (show ¬ (b.toNat : Int) < 48 by omega), decide_eq_false (show ¬ (b.toNat : Int) > 57 by omega), q0e, w64, w1, w2, w3, w4, c4, e]
    rw [List.all_cons, hD, Bool.true_and]
    rfl
theorem qom (s : ByteArray) : Al fun k => q27.f k s = some (qjz (bl s)) := by
  have hl := q4b s
  by_cases c0 : s.size = 0
  · refine Al.now fun k => ?_
    have : bl s = [] := List.eq_nil_of_length_eq_zero (by omega)
    rw [q27.f_eq, c0, show ((((0 : Nat) : Int)) == 0) = true from rfl, q07, qjz, if_pos (.inl this)]
  have n0 : ((s.size : Int) == 0) = false := by rw [beq_eq_false_iff_ne]; omega
  by_cases c1 : s.size > 6
  · refine Al.now fun k => ?_
    rw [q27.f_eq, n0, q0e, decide_eq_true (by omega), q07, qjz, if_pos (.inr (.inl (by omega)))]
  have n1 : decide ((s.size : Int) > 6) = false := decide_eq_false (by omega)
  have hp : 10 ^ (bl s).length ≤ 10 ^ 6 := Nat.pow_le_pow_right (by omega) (by omega)
  have run := (qqu s (by omega) (bl s) 0 0 rfl (by omega) (by omega)).diag
  have ne : bl s ≠ [] := fun e => by rw [e] at hl; simp at hl; omega
  by_cases c2 : s.size > 1
  · obtain ⟨b, t, hb⟩ : ∃ b t, bl s = b :: t := by
      cases h : bl s with
      | nil => exact absurd h ne
      | cons b t => exact ⟨b, t, rfl⟩
    have h0 := (q62 (s := s) (i := 0) (by rw [List.drop_zero]; exact hb)).2.1
    rw [show ((0 : Nat) : Int) = 0 from rfl] at h0
    by_cases c3 : b = 48
    · refine Al.now fun k => ?_
      rw [q27.f_eq, n0, q0e, n1, q0e, decide_eq_true (show (s.size : Int) > 1 by omega), q07, decide_eq_true (show (0 : Int) < (s.size : Int) by omega), show (decide ((0 : Int) ≤ 0) && true) = true from rfl, q07, h0, c3, show (((48 : UInt8).toNat : Int) == 48) = true from rfl, q07, qjz, if_pos (.inr (.inr (.inl ⟨by omega, by rw [hb, c3]; rfl⟩)))]
    · have hb48 : ((b.toNat : Int) == 48) = false := by
        rw [beq_eq_false_iff_ne]
        intro e
        exact c3 (UInt8.toNat_inj.1 (show b.toNat = (48 : UInt8).toNat by have : (48 : UInt8).toNat = 48 := rfl; omega))
      refine run.mono fun k e => ?_
      rw [show ((0 : Nat) : Int) = 0 from rfl] at e
      rw [q27.f_eq, n0, q0e, n1, q0e, decide_eq_true (show (s.size : Int) > 1 by omega), q07, decide_eq_true (show (0 : Int) < (s.size : Int) by omega), show (decide ((0 : Int) ≤ 0) && true) = true from rfl, q07, h0, hb48, q0e, e, qjz]
      have hh : ¬ (bl s).head? = some 48 := by rw [hb]; simpa using c3
      cases ha : (bl s).all isD with
      | true => rw [if_pos rfl, if_neg]; simp [ne, hh]; omega
      | false => rw [if_neg (by simp), if_pos (.inr (.inr (.inr rfl)))]
  · refine run.mono fun k e => ?_
    rw [show ((0 : Nat) : Int) = 0 from rfl] at e
    rw [q27.f_eq, n0, q0e, n1, q0e, decide_eq_false (show ¬ (s.size : Int) > 1 by omega), q0e, e, qjz]
    cases ha : (bl s).all isD with
    | true => rw [if_pos rfl, if_neg]; simp [ne]; omega
    | false => rw [if_neg (by simp), if_pos (.inr (.inr (.inr rfl)))]
theorem q4k (r : Release) (hr : smR r) : Al fun k => q1e.f k r = some (qcg r) := by
  cases h2 : q8c r with
  | false => exact (q7y r hr).mono fun k e => by rw [q1e.f_eq, e, h2, Option.bind_some, Bool.not_false, q07, qcg, h2]; rfl
  | true =>
  obtain ⟨⟨a1, a2⟩, a3, a4, a5, a6⟩ := qde h2
  have z := q5j a5
  have z5 : (⟨#[115, 101, 97, 108, 32]⟩ : ByteArray).size = 5 := rfl
  refine ((q7y r hr).and (q7x r (by omega) a2 a3 (by rw [q5j a4]; omega))).mono fun k ⟨e, e2⟩ => ?_
  rw [q1e.f_eq, e, h2, Option.bind_some, Bool.not_true, q0e, e2, Option.bind_some, q3j (by omega), q07, q3j (by rw [ByteArray.size_append]; omega), q07, q3j (by rw [ByteArray.size_append, ByteArray.size_append, q3o]; omega), q07, qcg, h2, if_pos rfl]
  refine congrArg some (q4d ?_)
  rw [q8d, q3x]
  simp only [q45, q55, List.append_assoc]
  rfl
theorem qqv (ps : List By) (h : ps ≠ []) (p : By) : (nlB (preB p ps)).length = p.length + (nlB ps).length := by
  cases ps with
  | nil => exact absurd rfl h
  | cons q t => simp [preB, q46] <;> omega
theorem qej (c : UInt8) : ∀ l : By, (nlB (qal c l)).length = l.length + 1
  | [] => rfl
  | b :: l => by
    rw [q4y]
    split
    · rw [q46, List.length_append, List.length_cons, qej c l]; simp
    · rw [qqv _ (qcc c l), qej c l, List.length_cons, List.length_cons, List.length_nil]; omega
theorem qqw {a b : List By} (h : a.Sublist b) : (nlB a).length ≤ (nlB b).length := by
  induction h with
  | slnil => exact Nat.le_refl _
  | cons x _ ih => rw [q46, List.length_append, List.length_cons]; omega
  | cons_cons x _ ih => rw [q46, q46, List.length_append, List.length_append, List.length_cons, List.length_cons]; omega
def qn4 (ls : List ByteArray) : List ByteArray := (ls.take (ls.length - 1)).drop 1
theorem qmg (ls : List ByteArray) : (qn4 ls).Sublist ls := (List.drop_sublist _ _).trans (List.take_sublist _ _)
theorem qmh (x : ByteArray) {ls : List ByteArray} (h : ls.Sublist (q43 10 x)) : (nlB (ls.map bl)).length ≤ x.size + 1 := by
  have h1 : (nlB ((q43 10 x).map bl)).length = x.size + 1 := by
    rw [q43, List.map_map, show (bl ∘ mkB) = id from funext fun l => q3x l, List.map_id, qej, q4b]
  rw [← h1]
  exact qqw (h.map bl)
theorem qmi : (q43 10 bz).length = 1 := rfl
theorem qek {x : ByteArray} (hx : x ≠ bz) (r : Release) (z : Release × Bool) : (if qcg r = x then (r, true) else z) = (if (q8c r && decide (q8d r = x)) = true then (r, true) else z) := by
  unfold qcg
  cases h : q8c r with
  | true =>
    rw [if_pos rfl, Bool.true_and]
    by_cases c : q8d r = x
    · rw [if_pos c, decide_eq_true c, if_pos rfl]
    · rw [if_neg c, decide_eq_false c, if_neg (by simp)]
  | false =>
    rw [if_neg (show ¬ (false = true) by simp), Bool.false_and, if_neg (fun e => hx e.symm), if_neg (show ¬ (false = true) by simp)]
theorem q5c (x : ByteArray) (hx : x.size ≤ 40000000) : Al fun k => q0l.f k x = some (q53 x) := by
  rw [← qhu qs0 (fun r h => qeh h)]
  have hlo := qdb x (by omega)
  have hsub : (q5q x).Sublist (q43 10 x) := List.dropLast_sublist _
  have hpc : ∀ p ∈ q5q x, p.size ≤ x.size := fun p hp => q4f 10 x p (hsub.subset hp)
  have hln : (q5q x).length ≤ x.size + 1 := Nat.le_trans hsub.length_le (q52 10 x)
  have hsum : (nlB ((qn4 (q5q x)).map bl)).length ≤ x.size + 1 := qmh x ((qmg _).trans hsub)
  have hz : 2 ≤ (q5q x).length → x ≠ bz := fun h e => by
    subst e
    have := hsub.length_le
    rw [qmi] at this
    omega
  rw [show (q43 10 x).dropLast = q5q x from rfl] at hlo
  unfold qs0
  simp only [show ∀ l : List ByteArray, qmc l = mkB (nlB ((qn4 l).map bl)) from fun _ => rfl]
  generalize q5q x = ls at *
  by_cases c0 : ls.length < 2
  · refine hlo.mono fun k e => ?_
    rw [q0l.f_eq, e, Option.bind_some, decide_eq_true (by omega), q07, if_pos c0]
    rfl
  rw [if_neg c0]
  have hx0 := hz (by omega)
  have g0 := q4t hpc 0
  have gl := q4t hpc (ls.length - 1)
  have d0' : (decide ((0 : Int) ≤ 0) && decide ((0 : Int) < (ls.length : Int))) = true := by rw [decide_eq_true (show (0 : Int) < (ls.length : Int) by omega)]; rfl
  by_cases c1 : (q43 32 (ls.getD 0 bz)).length = 3
  case neg =>
    refine hlo.mono fun k e => ?_
    rw [q0l.f_eq, e, Option.bind_some, decide_eq_false (by omega), q0e, d0', q07, show ((0 : Int).toNat) = 0 from rfl, qb9 k 32 _ (by omega), Option.bind_some, show (((q43 32 (ls.getD 0 bz)).length : Int) != 3) = true by rw [bne_iff_ne]; omega, q07, if_pos c1]
    rfl
  rw [if_neg (fun h => h c1)]
  have w1 : w64 ((ls.length : Int) - 1) = ((ls.length - 1 : Nat) : Int) := by rw [w64, q5i (by omega) (by omega)]; omega
  have hwp := fun p hp => q4f 32 (ls.getD 0 bz) p hp
  have hs1 := q4t hwp 1
  have hs2 := q4t hwp 2
  generalize hB : mkB (nlB ((qn4 ls).map bl)) = B
  generalize hws : q43 32 (ls.getD 0 bz) = ws at *
  have hBz : B.size ≤ x.size + 1 := by rw [← hB, size_mk]; exact hsum
  have sm := qj3 B (by omega)
  have hD := qay B (by omega)
  have hmid : qn4 ls = (ls.take (ls.length - 1)).drop 1 := rfl
  have hml : (qn4 ls).length ≤ x.size + 1 := Nat.le_trans (qmg ls).length_le hln
  have hR : Al fun k => q1s.f k (q7t (bl (ws.getD 1 bz)), (q5p B).1, ws.getD 2 bz, qb0 (mkB qa6) (ls.getD (ls.length - 1) bz)) = some (qcg (q7t (bl (ws.getD 1 bz)), (q5p B).1, ws.getD 2 bz, qb0 (mkB qa6) (ls.getD (ls.length - 1) bz))) := by
    refine q4j _ ⟨sm, ?_, ?_⟩
    · show (ws.getD 2 bz).size ≤ _; omega
    · show (qb0 _ _).size ≤ _
      unfold qb0
      split
      · rw [ByteArray.size_extract]; omega
      · omega
  have key : ∀ (t : List ByteArray) (i : Nat) (acc : ByteArray), (qn4 ls).drop i = t → acc ++ mkB (nlB (t.map bl)) = B →
      Al2 fun k k1 => q0l.L12 k k1 x ((0 : Int), (([] : List ByteArray), ([] : List En), false, ([] : List Aff)), bz, bz) (q7t (bl (ws.getD 1 bz)), (([] : List ByteArray), ([] : List En), false, ([] : List Aff)), ws.getD 2 bz, qb0 (mkB qa6) (ls.getD (ls.length - 1) bz)) acc (qn4 ls) ((qn4 ls).length : Int) (i : Int) =
        some (qsm (if (q5p B).2 = true then some (q7t (bl (ws.getD 1 bz)), (q5p B).1, ws.getD 2 bz, qb0 (mkB qa6) (ls.getD (ls.length - 1) bz)) else none) x) := by
    intro t
    induction t with
    | nil =>
      intro i acc hd hacc
      have ha : acc = B := by rw [← hacc]; exact q4d (by rw [q45, q3x]; simp [nlB])
      refine Al2.succ ((hD.and hR).fst.mono fun k k1 ⟨e1, e2⟩ => ?_)
      rw [q0l.L12_eq, at_end (drop_nil hd), q0e, ha, e1, Option.bind_some]
      dsimp only
      cases hd2 : (q5p B).2 with
      | false => rw [Bool.not_false, q07, if_neg (by simp)]; rfl
      | true =>
        rw [Bool.not_true, q0e, e2, Option.bind_some, if_pos rfl, q5l]
        show _ = some (if _ then _ else _)
        rw [← qek hx0]
        by_cases c : qcg (q7t (bl (ws.getD 1 bz)), (q5p B).1, ws.getD 2 bz, qb0 (mkB qa6) (ls.getD (ls.length - 1) bz)) = x
        · rw [decide_eq_true c, Bool.not_true, q0e, if_pos c]
        · rw [decide_eq_false c, Bool.not_false, q07, if_neg c]; rfl
    | cons w t ih =>
      intro i acc hd hacc
      obtain ⟨hi, g1, g2⟩ := q3p bz hd
      obtain ⟨c1, c2, c3, c4⟩ := q5y hi (by omega)
      have e1 : (acc ++ (w ++ (⟨#[10]⟩ : ByteArray))) ++ mkB (nlB (t.map bl)) = B := by
        rw [← hacc]
        refine q4d ?_
        simp only [q45, q3x, q55, List.map_cons, q46, List.append_assoc, List.cons_append, List.nil_append]
      have z0 : (acc ++ (w ++ (⟨#[10]⟩ : ByteArray))).size ≤ B.size := by rw [← e1, ByteArray.size_append (b := mkB _)]; omega
      have z1 : (acc ++ (w ++ (⟨#[10]⟩ : ByteArray))).size = acc.size + (w ++ (⟨#[10]⟩ : ByteArray)).size := ByteArray.size_append
      have z2 : (w ++ (⟨#[10]⟩ : ByteArray)).size = w.size + (⟨#[10]⟩ : ByteArray).size := ByteArray.size_append
      refine Al2.succ ((ih (i + 1) _ g2 e1).mono fun k k1 e => ?_)
      rw [q0l.L12_eq, c1, q07, c2, Bool.true_and, q07, c3, g1, q3j (by omega), q07, q3j (by omega), q07, w64, c4, e]
  have hA : Al fun k => strconv_Atoi.f k (ws.getD 1 bz) = some (q7t (bl (ws.getD 1 bz)), 0) := Al.now fun k => by
    show strconv_Atoi.F k _ = _
    rw [strconv_Atoi.F, if_pos (by omega)]
    rfl
  refine ((hlo.and hA).and (key (qn4 ls) 0 bz rfl (by rw [← hB]; exact q4d (by rw [q45]; rfl))).diag).mono fun k ⟨⟨e, e2⟩, e3⟩ => ?_
  rw [show ((0 : Nat) : Int) = 0 from rfl] at e3
  rw [q0l.f_eq, e, Option.bind_some, decide_eq_false (by omega), q0e, d0', q07, show ((0 : Int).toNat) = 0 from rfl, qb9 k 32 _ (by omega), Option.bind_some, hws, c1, show ((((3 : Nat) : Int)) != 3) = false from rfl, q0e,
    show (decide ((0 : Int) ≤ 2) && decide ((2 : Int) < ((3 : Nat) : Int))) = true from rfl, q07, w1, decide_eq_true (show (0 : Int) ≤ ((ls.length - 1 : Nat) : Int) by omega), decide_eq_true (show ((ls.length - 1 : Nat) : Int) < (ls.length : Int) by omega), Bool.and_self, q07, Int.toNat_natCast, qqt, Option.bind_some,
    show (decide ((0 : Int) ≤ 1) && decide ((1 : Int) < ((3 : Nat) : Int))) = true from rfl, q07, show ((1 : Int).toNat) = 1 from rfl, e2, Option.bind_some, decide_eq_true (show (1 : Int) ≤ ((ls.length - 1 : Nat) : Int) by omega), decide_eq_true (show ((ls.length - 1 : Nat) : Int) ≤ (ls.length : Int) by omega), show (decide ((0 : Int) ≤ 1) && (true && true)) = true from rfl, q07, show ((2 : Int).toNat) = 2 from rfl, show (⟨#[115, 101, 97, 108, 32]⟩ : ByteArray) = mkB qa6 from rfl, ← hmid]
  dsimp only
  exact e3
theorem q6f (x : ByteArray) (hx : x.size ≤ 40000000) : Al fun k => q1f.f k x = some (q53 x) := by
  rw [← qhu qsl (fun r h => qol h)]
  have hc := q5b 10 x (by omega)
  rw [show ((10 : UInt8).toNat : Int) = 10 from rfl] at hc
  have hpc := fun p hp => q4f 10 x p hp
  have hln := q52 10 x
  have hz : 3 ≤ (q43 10 x).length → x ≠ bz := fun h e => by
    subst e
    rw [qmi] at h
    omega
  unfold qsl
  generalize q43 10 x = ls at *
  by_cases c0 : ls.length < 3
  · refine hc.mono fun k e => ?_
    rw [q1f.f_eq, e, Option.bind_some, decide_eq_true (by omega), q07, if_pos (.inl c0)]
    rfl
  have n0 : decide ((ls.length : Int) < 3) = false := decide_eq_false (by omega)
  have hx0 := hz (by omega)
  by_cases c1 : 1270 < x.size
  · refine hc.mono fun k e => ?_
    rw [q1f.f_eq, e, Option.bind_some, n0, q0e, decide_eq_true (by omega), q07, if_pos (.inr (.inl c1))]
    rfl
  have n1 : decide ((x.size : Int) > 1270) = false := decide_eq_false (by omega)
  have w2 : w64 ((ls.length : Int) - 2) = ((ls.length - 2 : Nat) : Int) := by rw [w64, q5i (by omega) (by omega)]; omega
  have d2 : (decide ((0 : Int) ≤ ((ls.length - 2 : Nat) : Int)) && decide (((ls.length - 2 : Nat) : Int) < (ls.length : Int))) = true := by rw [decide_eq_true (by omega), decide_eq_true (by omega)]; rfl
  by_cases c2 : (ls.getD (ls.length - 2) bz).size = 69
  case neg =>
    refine hc.mono fun k e => ?_
    rw [q1f.f_eq, e, Option.bind_some, n0, q0e, n1, q0e, w2, d2, q07, Int.toNat_natCast, show (((ls.getD (ls.length - 2) bz).size : Int) != 69) = true by rw [bne_iff_ne]; omega, q07, if_pos (.inr (.inr c2))]
    rfl
  have n2 : (((ls.getD (ls.length - 2) bz).size : Int) != 69) = false := by rw [c2]; rfl
  rw [if_neg (by omega)]
  have d0' : (decide ((0 : Int) ≤ 0) && decide ((0 : Int) < (ls.length : Int))) = true := by rw [decide_eq_true (show (0 : Int) < (ls.length : Int) by omega)]; rfl
  have g0 := q4t hpc 0
  have hc2 := q5b 32 (ls.getD 0 bz) (by omega)
  rw [show ((32 : UInt8).toNat : Int) = 32 from rfl] at hc2
  have hwp := fun p hp => q4f 32 (ls.getD 0 bz) p hp
  have hs2 := q4t hwp 2
  generalize q43 32 (ls.getD 0 bz) = ws at *
  by_cases c3 : ws.length = 3
  case neg =>
    refine (hc.and hc2).mono fun k ⟨e, e2⟩ => ?_
    rw [q1f.f_eq, e, Option.bind_some, n0, q0e, n1, q0e, w2, d2, q07, Int.toNat_natCast, n2, q0e, d0', q07, show ((0 : Int).toNat) = 0 from rfl, e2, Option.bind_some, show ((ws.length : Int) != 3) = true by rw [bne_iff_ne]; omega, q07, if_pos c3]
    rfl
  rw [if_neg (fun h => h c3)]
  have w3 : w64 ((x.size : Int) - 70) = (x.size : Int) - 70 := by rw [w64, q5i (by omega) (by omega)]
  have w4 : w64 (((ls.getD 0 bz).size : Int) + 1) = (((ls.getD 0 bz).size + 1 : Nat) : Int) := by rw [w64, q5i (by omega) (by omega)]; omega
  by_cases c4 : x.size < 70 ∨ x.size - 70 < (ls.getD 0 bz).size + 1
  · refine (hc.and hc2).mono fun k ⟨e, e2⟩ => ?_
    rw [q1f.f_eq, e, Option.bind_some, n0, q0e, n1, q0e, w2, d2, q07, Int.toNat_natCast, n2, q0e, d0', q07, show ((0 : Int).toNat) = 0 from rfl, e2, Option.bind_some, c3, show ((((3 : Nat) : Int)) != 3) = false from rfl, q0e, q07, w3, w4, decide_eq_true (by omega), q07, if_pos c4]
    rfl
  rw [if_neg c4]
  have w3' : w64 ((x.size : Int) - 70) = ((x.size - 70 : Nat) : Int) := by rw [w3]; omega
  have hBz : (x.extract ((ls.getD 0 bz).size + 1) (x.size - 70)).size ≤ x.size := by rw [ByteArray.size_extract]; omega
  generalize hX : x.extract ((ls.getD 0 bz).size + 1) (x.size - 70) = B at *
  have sm := qj3 B (by omega)
  have hD := qaz B (by omega)
  have hN := qom (ws.getD 1 bz)
  have hR : Al fun k => q1e.f k (qjz (bl (ws.getD 1 bz)), (q5p B).1, ws.getD 2 bz, (ls.getD (ls.length - 2) bz).extract 5 69) = some (qcg (qjz (bl (ws.getD 1 bz)), (q5p B).1, ws.getD 2 bz, (ls.getD (ls.length - 2) bz).extract 5 69)) := by
    refine q4k _ ⟨sm, ?_, ?_⟩
    · show (ws.getD 2 bz).size ≤ _; omega
    · show (ByteArray.extract _ 5 69).size ≤ _
      rw [ByteArray.size_extract]; omega
  have hres : ∀ r : Release, qcg r = x → qsm (some r) x = (r, true) := fun r h => by
    show (if _ then _ else _) = _
    rw [← qek hx0, if_pos h]
  have hres2 : ∀ r : Release, ¬ qcg r = x → qsm (some r) x = (zR, false) := fun r h => by
    show (if _ then _ else _) = _
    rw [← qek hx0, if_neg h]
  have g69 : (ls.getD (ls.length - 2) bz).extract (5 : Int).toNat (((ls.getD (ls.length - 2) bz).size : Nat) : Int).toNat = (ls.getD (ls.length - 2) bz).extract 5 69 := by rw [c2]; rfl
  have d5 : (decide ((0 : Int) ≤ 5) && (decide ((5 : Int) ≤ ((ls.getD (ls.length - 2) bz).size : Int)) && decide (((ls.getD (ls.length - 2) bz).size : Int) ≤ ((ls.getD (ls.length - 2) bz).size : Int)))) = true := by rw [c2]; rfl
  have d6 : (decide ((0 : Int) ≤ (((ls.getD 0 bz).size + 1 : Nat) : Int)) && (decide ((((ls.getD 0 bz).size + 1 : Nat) : Int) ≤ ((x.size - 70 : Nat) : Int)) && decide (((x.size - 70 : Nat) : Int) ≤ (x.size : Int)))) = true := by
    rw [decide_eq_true (by omega), decide_eq_true (by omega), decide_eq_true (by omega)]; rfl
  refine ((hc.and hc2).and ((hD.and hN).and hR)).mono fun k ⟨⟨e, e2⟩, ⟨e3, e4⟩, e5⟩ => ?_
  rw [q1f.f_eq, e, Option.bind_some, n0, q0e, n1, q0e, w2, d2, q07, Int.toNat_natCast, n2, q0e, d0', q07, show ((0 : Int).toNat) = 0 from rfl, e2, Option.bind_some, c3, show ((((3 : Nat) : Int)) != 3) = false from rfl, q0e, q07, w3', w4, decide_eq_false (by omega), q0e, d6, q07, Int.toNat_natCast, Int.toNat_natCast, hX, e3, Option.bind_some,
    show (decide ((0 : Int) ≤ 1) && decide ((1 : Int) < ((3 : Nat) : Int))) = true from rfl, q07, show ((1 : Int).toNat) = 1 from rfl, e4, Option.bind_some, show (decide ((0 : Int) ≤ 2) && decide ((2 : Int) < ((3 : Nat) : Int))) = true from rfl, q07, q07, d5, q07]
  cases hd2 : (q5p B).2 with
  | false => rw [Bool.not_false, q07, if_neg (by simp)]; rfl
  | true =>
    rw [Bool.not_true, q0e, g69, show ((2 : Int).toNat) = 2 from rfl, e5, Option.bind_some, if_pos rfl, q5l]
    by_cases c : qcg (qjz (bl (ws.getD 1 bz)), (q5p B).1, ws.getD 2 bz, (ls.getD (ls.length - 2) bz).extract 5 69) = x
    · rw [decide_eq_true c, Bool.not_true, q0e, hres _ c]
    · rw [decide_eq_false c, Bool.not_false, q07, hres2 _ c]; rfl
end Go.Proofs.YtjfkeknnjjlepaaGreatDoor.Rf
end

section
/- What a row that lists package variables gives, and that these read behind a call as before. -/
namespace Go.Proofs.YtjfkeknnjjlepaaGreatDoor.Frame
open Go.RowKit Go.ChangeShapes
set_option linter.unusedVariables false
theorem q9i {P : Program} {W : World} {name : String} {k : IntKind} {zs : List Int} {g : Nat} {t e : TypeId} {n : Nat}
    (hg : P.globalNamed name = some g) (hty : (P.globals[g]?).map (·.type) = some t) (ht : P.underlying t = some (.array n e)) (he : P.underlying e = some (.int k)) (hce : P.cellsOf e = 1) (hct : P.cellsOf t = n) :
    ∀ (l : List (String × DataW Unit)) (ps : List MemPlace), DataW.LaidVars P W l ps → (name, Lib.tabData k zs) ∈ l → Lib.TabIs P W name k zs
  | [], _, _, hm => by simp at hm
  | (n', d') :: rest, ps, ⟨g', t', cs, fuel, p, q, hg', ht', hvar, hd, hrest, _⟩, hm => by
    rcases List.mem_cons.1 hm with h | h
    · injection h with h1 h2
      subst h1
      subst h2
      obtain rfl := Option.some.inj (hg.symm.trans hg')
      obtain rfl := Option.some.inj (hty.symm.trans ht')
      unfold Lib.TabIs
      rw [hvar, ← Lib.cells_of_tab ht he hce hct hd]
    · exact q9i hg hty ht he hce hct rest q hrest h
theorem qar {P : Program} {W : World} {name : String} {k : IntKind} {zs : List Int} {g : Nat} {t e : TypeId} {n : Nat} {l : List (String × DataW Unit)}
    (hg : P.globalNamed name = some g) (hty : (P.globals[g]?).map (·.type) = some t) (ht : P.underlying t = some (.array n e)) (he : P.underlying e = some (.int k)) (hce : P.cellsOf e = 1) (hct : P.cellsOf t = n)
    (h : laidMet P l W) (hm : (name, Lib.tabData k zs) ∈ l) : Lib.TabIs P W name k zs := by
  obtain ⟨ps, hv, _⟩ := h
  exact q9i hg hty ht he hce hct l ps hv hm
theorem q9j {P : Program} {W : World} {name nm : String} {d : DataW Unit} {g : Nat} {t : TypeId} {ms : Array (String × TypeId)}
    (hg : P.globalNamed name = some g) (hty : (P.globals[g]?).map (·.type) = some t) (ht : P.underlying t = some (.interface ms)) :
    ∀ (l : List (String × DataW Unit)) (ps : List MemPlace), DataW.LaidVars P W l ps → (name, .iface nm d) ∈ l → ∃ ev, W.cell? ⟨g, 0, none⟩ = some ev ∧ (ev = .nilIface ∨ ∃ te pe, ev = .iface te pe)
  | [], _, _, hm => by simp at hm
  | (n', d') :: rest, ps, ⟨g', t', cs, fuel, p, q, hg', ht', hvar, hd, hrest, _⟩, hm => by
    rcases List.mem_cons.1 hm with h | h
    · injection h with h1 h2
      subst h1
      subst h2
      obtain rfl := Option.some.inj (hg.symm.trans hg')
      obtain rfl := Option.some.inj (hty.symm.trans ht')
      obtain ⟨l0⟩ := cs
      obtain ⟨f1, u, v, e, _, _⟩ := iface_of_trod ht hd
      obtain rfl : l0 = [.iface u v] := e
      exact ⟨_, by simpa using World.var?_cell hg' hvar 0, .inr ⟨_, _, rfl⟩⟩
    · exact q9j hg hty ht rest q hrest h
theorem q6g {P : Program} {W : World} {name nm : String} {d : DataW Unit} {g : Nat} {t : TypeId} {ms : Array (String × TypeId)} {l : List (String × DataW Unit)}
    (hg : P.globalNamed name = some g) (hty : (P.globals[g]?).map (·.type) = some t) (ht : P.underlying t = some (.interface ms)) (h : laidMet P l W) (hm : (name, .iface nm d) ∈ l) :
    ∃ ev, W.cell? ⟨g, 0, none⟩ = some ev ∧ (ev = .nilIface ∨ ∃ te pe, ev = .iface te pe) := by
  obtain ⟨ps, hv, _⟩ := h
  exact q9j hg hty ht l ps hv hm
end Go.Proofs.YtjfkeknnjjlepaaGreatDoor.Frame
end
