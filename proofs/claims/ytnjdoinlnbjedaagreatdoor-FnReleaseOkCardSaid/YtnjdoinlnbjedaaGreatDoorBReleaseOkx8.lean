import Derived.Test.YtnjdoinlnbjedaaGreatDoorBReleaseOkx7
import Derived.Laws.BitsLemmas
import Derived.Test.YtnjdoinlnbjedaaGreatDoorBReleaseOkx4
import Derived.Below
import Derived.Carry
import Derived.ChangeOld
import Derived.Lib.LaidTab
import Derived.ChangeShapes
import Derived.Test.YtnjdoinlnbjedaaGreatDoorRows
import Derived.Test.YtnjdoinlnbjedaaGreatDoorCards
import Derived.Test.YtnjdoinlnbjedaaGreatDoorTie
import Derived.WalkKit
import Derived.ProofKit
import Derived.OpenShut
import Derived.ShutString
import Derived.SizedLaws
import Derived.Deep.DeepHandedRow

section
/- The reader that draws: what it picks stays in its range. -/
namespace Go.Proofs.YtnjdoinlnbjedaaGreatDoor.Rf
open Go Go.RowKit
set_option linter.unusedVariables false
set_option linter.unusedSimpArgs false
abbrev Rdr := List Int × Int
def Rd (m : Int) (x : Rdr) : Prop := ((∀ b ∈ x.1, 0 ≤ b ∧ b ≤ 255) ∧ x.1.length ≤ 2000) ∧ 0 ≤ x.2 ∧ x.2 ≤ m
theorem Rd.up {m n : Int} {x : Rdr} (h : Rd m x) (k : m ≤ n) : Rd n x := ⟨h.1, h.2.1, Int.le_trans h.2.2 k⟩
def Dr {α : Type} (X : Nat → Option (α × Rdr)) (m : Int) (P : α → Prop) : Prop := ∃ v x', Al (fun k => X k = some (v, x')) ∧ P v ∧ Rd m x'
theorem Dr.up {α : Type} {X : Nat → Option (α × Rdr)} {m n : Int} {P Q : α → Prop} (h : Dr X m P) (k : m ≤ n) (f : ∀ v, P v → Q v) : Dr X n Q := by
 obtain ⟨v, x, e, p, r⟩ := h
 exact ⟨v, x, e, f v p, r.up k⟩
theorem Dr.congr {α : Type} {X Y : Nat → Option (α × Rdr)} {m : Int} {P : α → Prop} (e : ∀ k, Y k = X k) (h : Dr X m P) : Dr Y m P := by
 obtain rfl : Y = X := funext e
 exact h
theorem Dr.now {α : Type} {X : Nat → Option (α × Rdr)} {v : α} {x : Rdr} {m : Int} {P : α → Prop} (e : ∀ k, X k = some (v, x)) (hp : P v) (hr : Rd m x) : Dr X m P := ⟨v, x, Al.now e, hp, hr⟩
theorem Dr.bind {α β : Type} {X : Nat → Option (α × Rdr)} {g : Nat → α × Rdr → Option (β × Rdr)} {m n : Int} {P : α → Prop} {Q : β → Prop} (h : Dr X m P) (k : ∀ v x, P v → Rd m x → Dr (fun k => g k (v, x)) n Q) : Dr (fun k => (X k).bind (g k)) n Q := by
 obtain ⟨v, x, e, p, r⟩ := h
 obtain ⟨w, y, e2, q, s⟩ := k v x p r
 exact ⟨w, y, (e.and e2).mono fun k ⟨a, b⟩ => by show (X k).bind (g k) = _; rw [a, Option.bind_some]; exact b, q, s⟩
theorem Dr.bindv {γ β : Type} {X : Nat → Option γ} {g : Nat → γ → Option (β × Rdr)} {n : Int} {Q : β → Prop} {v : γ} (h : Al fun k => X k = some v) (k : Dr (fun k => g k v) n Q) : Dr (fun k => (X k).bind (g k)) n Q := by
 obtain ⟨w, y, e2, q, s⟩ := k
 exact ⟨w, y, (h.and e2).mono fun k ⟨a, b⟩ => by show (X k).bind (g k) = _; rw [a, Option.bind_some]; exact b, q, s⟩
theorem Dr.succ {α : Type} {X : Nat → Option (α × Rdr)} {m : Int} {P : α → Prop} (h : Dr (fun k => X (k + 1)) m P) : Dr X m P := by
 obtain ⟨v, x, e, r⟩ := h
 exact ⟨v, x, Al.succ e, r⟩
def Dr2 {α : Type} (X : Nat → Nat → Option (α × Rdr)) (m : Int) (P : α → Prop) : Prop := ∃ v x', Al2 (fun k k1 => X k k1 = some (v, x')) ∧ P v ∧ Rd m x'
theorem Dr2.congr {α : Type} {X Y : Nat → Nat → Option (α × Rdr)} {m : Int} {P : α → Prop} (e : ∀ k k1, Y k k1 = X k k1) (h : Dr2 X m P) : Dr2 Y m P := by
 obtain rfl : Y = X := funext fun k => funext (e k)
 exact h
theorem Dr2.up {α : Type} {X : Nat → Nat → Option (α × Rdr)} {m n : Int} {P Q : α → Prop} (h : Dr2 X m P) (k : m ≤ n) (f : ∀ v, P v → Q v) : Dr2 X n Q := by
 obtain ⟨v, x, e, p, r⟩ := h
 exact ⟨v, x, e, f v p, r.up k⟩
theorem Dr2.now {α : Type} {X : Nat → Nat → Option (α × Rdr)} {v : α} {x : Rdr} {m : Int} {P : α → Prop} (e : ∀ k k1, X k k1 = some (v, x)) (hp : P v) (hr : Rd m x) : Dr2 X m P := ⟨v, x, Al2.now e, hp, hr⟩
theorem Dr2.bind {α β : Type} {X : Nat → Nat → Option (α × Rdr)} {g : Nat → Nat → α × Rdr → Option (β × Rdr)} {m n : Int} {P : α → Prop} {Q : β → Prop} (h : Dr2 X m P) (k : ∀ v x, P v → Rd m x → Dr2 (fun k k1 => g k k1 (v, x)) n Q) : Dr2 (fun k k1 => (X k k1).bind (g k k1)) n Q := by
 obtain ⟨v, x, e, p, r⟩ := h
 obtain ⟨w, y, e2, q, s⟩ := k v x p r
 exact ⟨w, y, (e.and e2).mono fun k k1 ⟨a, b⟩ => by show (X k k1).bind (g k k1) = _; rw [a, Option.bind_some]; exact b, q, s⟩
theorem Dr2.bindv {γ β : Type} {X : Nat → Nat → Option γ} {g : Nat → Nat → γ → Option (β × Rdr)} {n : Int} {Q : β → Prop} {v : γ} (h : Al2 fun k k1 => X k k1 = some v) (k : Dr2 (fun k k1 => g k k1 v) n Q) : Dr2 (fun k k1 => (X k k1).bind (g k k1)) n Q := by
 obtain ⟨w, y, e2, q, s⟩ := k
 exact ⟨w, y, (h.and e2).mono fun k k1 ⟨a, b⟩ => by show (X k k1).bind (g k k1) = _; rw [a, Option.bind_some]; exact b, q, s⟩
theorem Dr2.succ {α : Type} {X : Nat → Nat → Option (α × Rdr)} {m : Int} {P : α → Prop} (h : Dr2 (fun k k1 => X k (k1 + 1)) m P) : Dr2 X m P := by
 obtain ⟨v, x, e, r⟩ := h
 exact ⟨v, x, Al2.succ e, r⟩
theorem Dr2.diag {α : Type} {X : Nat → Nat → Option (α × Rdr)} {m : Int} {P : α → Prop} (h : Dr2 X m P) : Dr (fun k => X k k) m P := by
 obtain ⟨v, x, e, r⟩ := h
 exact ⟨v, x, e.diag, r⟩
theorem Dr.fst {α : Type} {X : Nat → Option (α × Rdr)} {m : Int} {P : α → Prop} (h : Dr X m P) : Dr2 (fun k _ => X k) m P := by
 obtain ⟨v, x, e, r⟩ := h
 exact ⟨v, x, e.fst, r⟩
theorem Dr.snd {α : Type} {X : Nat → Option (α × Rdr)} {m : Int} {P : α → Prop} (h : Dr X m P) : Dr2 (fun _ k => X k) m P := by
 obtain ⟨v, x, e, r⟩ := h
 exact ⟨v, x, e.snd, r⟩
theorem ql5 (a b : Nat) (ha : a < 2 ^ 62) (hb : b < 2 ^ 62) : 0 ≤ IntKind.i64.wrap ((BitVec.ofInt 64 (a : Int) ^^^ BitVec.ofInt 64 (b : Int)).toNat : Int) := by
 have h2 : (2 : Nat) ^ 62 ≤ 2 ^ 64 := by decide
 have ha' : a % 2 ^ 64 = a := Nat.mod_eq_of_lt (Nat.lt_of_lt_of_le ha h2)
 have hb' : b % 2 ^ 64 = b := Nat.mod_eq_of_lt (Nat.lt_of_lt_of_le hb h2)
 have e1 : (BitVec.ofInt 64 (a : Int)).toNat = a := by rw [BitVec.ofInt_natCast, BitVec.toNat_ofNat]; exact ha'
 have e2 : (BitVec.ofInt 64 (b : Int)).toNat = b := by rw [BitVec.ofInt_natCast, BitVec.toNat_ofNat]; exact hb'
 rw [BitVec.toNat_xor, e1, e2]
 have h3 : a ^^^ b < 4611686018427387904 := Nat.lt_of_lt_of_eq (Nat.xor_lt_two_pow ha hb) (by decide)
 generalize a ^^^ b = X at h3
 rw [q5r (by omega) (by omega)]
 omega
theorem ql6 (a b : Int) (ha : 0 ≤ a) (hb : 0 ≤ b) (ha1 : a < 2 ^ 62) (hb1 : b < 2 ^ 62) : 0 ≤ IntKind.i64.wrap ((BitVec.ofInt 64 a ^^^ BitVec.ofInt 64 b).toNat : Int) := by
 obtain ⟨m, rfl⟩ := Int.eq_ofNat_of_zero_le ha
 obtain ⟨n, rfl⟩ := Int.eq_ofNat_of_zero_le hb
 exact ql5 m n (by exact_mod_cast ha1) (by exact_mod_cast hb1)
theorem Rd.at {m : Int} {x : Rdr} (h : Rd m x) (i : Nat) : 0 ≤ x.1.getD i (0 : Int) ∧ x.1.getD i (0 : Int) ≤ 255 := by
 rw [List.getD_eq_getElem?_getD]
 cases e : x.1[i]? with
 | none => simp
 | some b => exact h.1.1 b (List.mem_of_getElem? e)
theorem qh0 (s : List Int) (hs : ∀ b ∈ s, 0 ≤ b ∧ b ≤ 255) : ∃ x, Al (fun k => q1g.f k s = some x) ∧ Rd 0 x := by
 by_cases c : (s.length : Int) > 2000
 ·refine ⟨((s.take (2000 : Int).toNat).drop (0 : Int).toNat, 0), Al.succ (Al.now fun k => ?_), ⟨fun b hb => hs b (List.mem_of_mem_take (List.mem_of_mem_drop hb)), ?_⟩, Int.le_refl _, Int.le_refl _⟩
  ·rw [q1g.f_eq, decide_eq_true c, q0c, q1g.J3_eq]
   rw [decide_eq_true (by omega), decide_eq_true (by omega), decide_eq_true (by omega)]
   simp only [Bool.and_self, q0c]
  ·simp only [List.length_drop, List.length_take]; omega
 ·refine ⟨(s, 0), Al.succ (Al.now fun k => ?_), ⟨hs, show s.length ≤ 2000 by omega⟩, Int.le_refl _, Int.le_refl _⟩
  rw [q1g.f_eq, decide_eq_false c, q0w, q1g.J3_eq]
theorem q3v {m : Int} {x : Rdr} (h : Rd m x) (hm : m ≤ 1000000000) (n : Int) (n1 : 1 ≤ n) (n2 : n ≤ 1000000) : Dr (fun k => q02.f k x n) (m + 1) fun v => 0 ≤ v ∧ v < n := by
 obtain ⟨hs, hp0, hp1⟩ := h
 have hat := Rd.at (x := x) (m := m) ⟨hs, hp0, hp1⟩
 obtain ⟨s, p⟩ := x
 simp only at hp0 hp1 hat hs
 have w1 : w64 (p + 1) = p + 1 := q5r (by omega) (by omega)
 have w2 : w64 (p + 1 - 1) = p := by rw [show p + 1 - 1 = p by omega]; exact q5r (by omega) (by omega)
 have R : Rd (m + 1) (s, p + 1) := ⟨hs, by omega, by omega⟩
 have c : decide (n < 1) = false := decide_eq_false (by omega)
 have n0 : decide (n ≠ 0) = true := decide_eq_true (by omega)
 by_cases z : s.length = 0
 ·refine ⟨0, (s, p + 1), Al.now fun k => ?_, ⟨Int.le_refl _, by omega⟩, R⟩
  show q02.f k (s, p) n = _
  rw [q02.f_eq]
  simp only [c, q0w, w1, z]
  rw [show (((0 : Nat) : Int) == 0) = true from rfl, q0c]
 have z1 : ((s.length : Int) == 0) = false := by rw [beq_eq_false_iff_ne]; omega
 have tm : ∀ x : Int, 0 ≤ x → 0 ≤ Int.tmod x n ∧ Int.tmod x n < n := fun x hx => ⟨Int.tmod_nonneg _ hx, Int.tmod_lt_of_pos _ (by omega)⟩
 by_cases q : p < (s.length : Int)
 ·have r0 := hat p.toNat
  have w3 : w64 (s.getD p.toNat 0) = s.getD p.toNat 0 := q5r (by omega) (by omega)
  refine ⟨_, (s, p + 1), Al.now fun k => ?_, tm _ r0.1, R⟩
  show q02.f k (s, p) n = _
  rw [q02.f_eq]
  simp only [c, q0w, w1, w2, z1, decide_eq_true q, decide_eq_true hp0, Bool.and_self, q0c, n0, w3]
 ·have hl := hs.2
  have l0 : decide ((s.length : Int) ≠ 0) = true := decide_eq_true (by omega)
  have m1 : 0 ≤ Int.tmod p (s.length : Int) ∧ Int.tmod p (s.length : Int) < (s.length : Int) := ⟨Int.tmod_nonneg _ hp0, Int.tmod_lt_of_pos _ (by omega)⟩
  have w7 : w64 (p * 7) = p * 7 := q5r (by omega) (by omega)
  have w8 : w64 (p * 7 + 3) = p * 7 + 3 := q5r (by omega) (by omega)
  have m2 : 0 ≤ Int.tmod (p * 7 + 3) (s.length : Int) ∧ Int.tmod (p * 7 + 3) (s.length : Int) < (s.length : Int) := ⟨Int.tmod_nonneg _ (by omega), Int.tmod_lt_of_pos _ (by omega)⟩
  generalize hA : Int.tmod p (s.length : Int) = A at m1
  generalize hB : Int.tmod (p * 7 + 3) (s.length : Int) = B at m2
  have ra := hat A.toNat
  have rb := hat B.toNat
  generalize hX : s.getD A.toNat (0 : Int) = X at ra
  generalize hY : s.getD B.toNat (0 : Int) = Y at rb
  have hd : 0 ≤ Int.tdiv p (s.length : Int) ∧ Int.tdiv p (s.length : Int) ≤ p := by
   refine ⟨Int.tdiv_nonneg hp0 (by omega), ?_⟩
   rw [Int.tdiv_eq_ediv_of_nonneg hp0]
   exact Int.ediv_le_self _ hp0
  generalize hD : Int.tdiv p (s.length : Int) = D at hd
  have v1 : w64 X = X := q5r (by omega) (by omega)
  have v2 : w64 (X * 131) = X * 131 := q5r (by omega) (by omega)
  have v3 : w64 Y = Y := q5r (by omega) (by omega)
  have v4 : w64 (Y * 1117) = Y * 1117 := q5r (by omega) (by omega)
  have v5 : w64 (X * 131 + Y * 1117) = X * 131 + Y * 1117 := q5r (by omega) (by omega)
  have v6 : w64 (p * 29) = p * 29 := q5r (by omega) (by omega)
  have v7 : w64 (X * 131 + Y * 1117 + p * 29) = X * 131 + Y * 1117 + p * 29 := q5r (by omega) (by omega)
  have v8 : w64 D = D := q5r (by omega) (by omega)
  have v9 : w64 (D * 53) = D * 53 := q5r (by omega) (by omega)
  have v10 : w64 (X * 131 + Y * 1117 + p * 29 + D * 53) = X * 131 + Y * 1117 + p * 29 + D * 53 := q5r (by omega) (by omega)
  have hS0 : 0 ≤ X * 131 + Y * 1117 + p * 29 + D * 53 ∧ X * 131 + Y * 1117 + p * 29 + D * 53 ≤ 1000000000000 := by omega
  have e0 : ∀ k, q02.f k (s, p) n = q02.J8 k (s, p + 1) n (X * 131 + Y * 1117 + p * 29 + D * 53) := by
   intro k
   rw [q02.f_eq]
   simp only [c, q0w, w1, w2, z1, decide_eq_false q, l0, q0c, hA, w7, w8, hB, decide_eq_true m1.1, decide_eq_true m1.2, decide_eq_true m2.1, decide_eq_true m2.2, Bool.and_self, hX, hY, hD, v1, v2, v3, v4, v5, v6, v7, v8, v9, v10]
  generalize X * 131 + Y * 1117 + p * 29 + D * 53 = S at e0 hS0
  have hq : 0 ≤ Int.tdiv S 64 ∧ Int.tdiv S 64 ≤ S := by
   refine ⟨Int.tdiv_nonneg hS0.1 (by omega), ?_⟩
   rw [Int.tdiv_eq_ediv_of_nonneg hS0.1]
   exact Int.ediv_le_self _ hS0.1
  have v11 : w64 (Int.tdiv S 64) = Int.tdiv S 64 := q5r (by omega) (by omega)
  have hx := ql6 S (Int.tdiv S 64) hS0.1 hq.1 (by omega) (by omega)
  refine ⟨_, (s, p + 1), Al.succ (Al.now fun k => ?_), tm _ hx, R⟩
  show q02.f _ (s, p) n = _
  rw [e0, q02.J8_eq]
  simp only [n0, v11, q0c, show decide ((64 : Int) ≠ 0) = true from rfl]
theorem q9r {m : Int} {x : Rdr} (h : Rd m x) (hm : m ≤ 1000000000) (l : List ByteArray) (l1 : 1 ≤ l.length) (l2 : l.length ≤ 1000000) : Dr (fun k => q0f.f k x l) (m + 1) fun v => v ∈ l := by
 obtain ⟨v, x', e, ⟨p0, p1⟩, r⟩ := q3v h hm (l.length : Int) (by omega) (by omega)
 have hv : v.toNat < l.length := by omega
 refine ⟨l.getD v.toNat bz, x', e.mono fun k e => ?_, ?_, r⟩
 ·have e' : q02.f k x (l.length : Int) = some (v, x') := e
  show q0f.f k x l = _
  rw [q0f.f_eq, e', Option.bind_some]
  simp only [decide_eq_true p0, decide_eq_true p1, Bool.and_self, q0c]
 ·rw [List.getD_eq_getElem?_getD, List.getElem?_eq_getElem hv]
  exact List.getElem_mem hv
theorem qio (a b : Int) : Al fun k => q2e.f k a b = some (if a < b then a else b) := Al.now fun k => by
 rw [q2e.f_eq]
 by_cases h : a < b
 ·rw [decide_eq_true h, q0c, if_pos h]
 ·rw [decide_eq_false h, q0w, if_neg h]
def noW (n : Nat) (s : ByteArray) : Prop := s.size ≤ n ∧ (bl s).head? ≠ some 119
theorem qk7 {a b : ByteArray} {n m : Nat} (h : noW n a) (k : noW m b) : noW (n + m) (a ++ b) := by
 refine ⟨by rw [ByteArray.size_append]; exact Nat.add_le_add h.1 k.1, ?_⟩
 have e : bl (a ++ b) = bl a ++ bl b := by simp [bl]
 rw [e]
 cases ha : bl a with
 | nil => exact k.2
 | cons x t => have := h.2; rw [ha] at this; simpa using this
theorem qk8 {a : ByteArray} {n j : Nat} (h : noW n a) (hj : j ≤ a.size) : noW j (a.extract 0 j) := by
 refine ⟨by simp; omega, ?_⟩
 have e : bl (a.extract 0 j) = (bl a).take j := by simp [bl]
 rw [e]
 cases ha : bl a with
 | nil => simp
 | cons x t =>
  cases j with
  | zero => simp
  | succ j => have := h.2; rw [ha] at this; simpa using this
theorem qh1 {m : Int} {x : Rdr} (h : Rd m x) (hm : m ≤ 900000000) : Dr (fun k => q0t.f k x) (m + 12) (noW 12) := by
 have two : ∀ (n : Nat) (m : Int) (x : Rdr) (s : ByteArray), Rd m x → m + n ≤ 1000000000 → noW (1000 - 2 * n) s → n ≤ 6 → Dr2 (fun k k1 => q0t.L4 k k1 x s (n : Int)) (m + n) (noW 12) := by
  intro n
  induction n with
  | zero =>
   intro m x s hx hm hs hn
   refine Dr2.succ (Dr2.congr (fun k k1 => q0t.L4_eq k k1 x s _) ?_)
   simp only [show decide (((0 : Nat) : Int) > 0) = false from rfl, q0w]
   refine Dr2.bindv (qio _ _).fst ?_
   have hj : (if (s.size : Int) < 12 then (s.size : Int) else 12).toNat ≤ s.size ∧ (if (s.size : Int) < 12 then (s.size : Int) else 12).toNat ≤ 12 ∧ (0 : Int) ≤ (if (s.size : Int) < 12 then (s.size : Int) else 12) ∧ (if (s.size : Int) < 12 then (s.size : Int) else 12) ≤ (s.size : Int) := by split <;> omega
   have hw := qk8 hs hj.1
   refine Dr2.now (fun k k1 => by
    rw [decide_eq_true (Int.le_refl 0), decide_eq_true hj.2.2.1, decide_eq_true hj.2.2.2, Bool.and_self, Bool.and_self, q0c]
    rfl) ⟨Nat.le_trans hw.1 hj.2.1, hw.2⟩ (hx.up (by omega))
  | succ n ih =>
   intro m x s hx hm hs hn
   refine Dr2.succ (Dr2.congr (fun k k1 => q0t.L4_eq k k1 x s _) ?_)
   simp only [decide_eq_true (show ((n + 1 : Nat) : Int) > 0 by omega), q0c]
   refine Dr2.bind (q9r hx (by omega) _ (by simp) (by simp)).snd fun v y hv hy => ?_
   have hv' : noW 2 v := by
    simp only [List.mem_cons, List.not_mem_nil, or_false] at hv
    rcases hv with rfl | rfl | rfl | rfl | rfl <;> exact ⟨by decide, by decide⟩
   have h2 := qk7 hs hv'
   have sz : q3n (s.size + v.size) = true := q2r (by have := hs.1; have := hv'.1; omega)
   have e1 : w64 (((n + 1 : Nat) : Int) - 1) = (n : Int) := by rw [show ((n + 1 : Nat) : Int) - 1 = (n : Int) by omega]; exact q5r (by omega) (by omega)
   simp only [sz, q0c, e1]
   exact (ih (m + 1) y (s ++ v) hy (by omega) ⟨Nat.le_trans h2.1 (by omega), h2.2⟩ (by omega)).up (by omega) fun _ h => h
 refine Dr.congr (fun k => q0t.f_eq k x) (Dr.bind (q3v h (by omega) 3 (by omega) (by omega)) fun v y hv hy => ?_)
 by_cases c : v = 0
 ·subst c
  simp only [show ((0 : Int) == 0) = true from rfl, q0c]
  refine Dr.bind (q3v hy (by omega) 5 (by omega) (by omega)) fun v z hv hz => ?_
  obtain ⟨n, rfl⟩ := Int.eq_ofNat_of_zero_le hv.1
  have e1 : w64 (1 + (n : Int)) = ((n + 1 : Nat) : Int) := by rw [show (1 : Int) + (n : Int) = ((n + 1 : Nat) : Int) by omega]; exact q5r (by omega) (by omega)
  simp only [e1]
  exact (two (n + 1) _ z bz hz (by omega) ⟨by simp, by decide⟩ (by omega)).diag.up (by omega) fun _ h => h
 ·simp only [show (v == 0) = false by rw [beq_eq_false_iff_ne]; exact c, q0w]
  refine Dr.bind (q9r hy (by omega) _ (by simp) (by simp)) fun v z hv hz => ?_
  refine Dr.now (v := v) (x := z) (fun k => rfl) ?_ (hz.up (by omega))
  simp only [List.mem_cons, List.not_mem_nil, or_false] at hv
  rcases hv with rfl | rfl | rfl | rfl | rfl | rfl | rfl | rfl | rfl | rfl | rfl | rfl | rfl | rfl | rfl <;> exact ⟨by decide, by decide⟩
end Go.Proofs.YtnjdoinlnbjedaaGreatDoor.Rf
end

section
/- Draws: affixes, rows of words, entries, books. -/
namespace Go.Proofs.YtnjdoinlnbjedaaGreatDoor.Rf
open Go Go.RowKit
set_option linter.unusedVariables false
set_option linter.unusedSimpArgs false
def Dr3 {α : Type} (X : Nat → Nat → Nat → Option (α × Rdr)) (m : Int) (P : α → Prop) : Prop := ∃ v x', Al3 (fun a b c => X a b c = some (v, x')) ∧ P v ∧ Rd m x'
theorem Dr3.congr {α : Type} {X Y : Nat → Nat → Nat → Option (α × Rdr)} {m : Int} {P : α → Prop} (e : ∀ a b c, Y a b c = X a b c) (h : Dr3 X m P) : Dr3 Y m P := by
 obtain rfl : Y = X := funext fun a => funext fun b => funext (e a b)
 exact h
theorem Dr3.succ {α : Type} {X : Nat → Nat → Nat → Option (α × Rdr)} {m : Int} {P : α → Prop} (h : Dr3 (fun a b c => X a b (c + 1)) m P) : Dr3 X m P := by
 obtain ⟨v, x, e, r⟩ := h
 exact ⟨v, x, Al3.succ e, r⟩
theorem Dr3.pred {α : Type} {X : Nat → Nat → Nat → Option (α × Rdr)} {m : Int} {P : α → Prop} (h : Dr3 X m P) : Dr3 (fun a b c => X a b (c + 1)) m P := by
 obtain ⟨v, x, ⟨n, e⟩, r⟩ := h
 exact ⟨v, x, ⟨n, fun a b c ha hb hc => e a b (c + 1) ha hb (by omega)⟩, r⟩
theorem Dr2.fst3 {α : Type} {X : Nat → Nat → Option (α × Rdr)} {m : Int} {P : α → Prop} (h : Dr2 X m P) : Dr3 (fun a b _ => X a b) m P := by
 obtain ⟨v, x, e, r⟩ := h
 exact ⟨v, x, e.fst, r⟩
theorem Dr3.in2 {α : Type} {X : Nat → Nat → Nat → Option (α × Rdr)} {m : Int} {P : α → Prop} (h : Dr3 X m P) : Dr2 (fun a b => X a b b) m P := by
 obtain ⟨v, x, e, r⟩ := h
 exact ⟨v, x, e.in2, r⟩
def szN (n : Nat) (s : ByteArray) : Prop := s.size ≤ n
theorem qa6 {m : Int} {x : Rdr} (h : Rd m x) (hm : m ≤ 800000000) : Dr (fun k => q1i.f k x) (m + 20) (szN 13) := by
 refine Dr.congr (fun k => q1i.f_eq k x) (Dr.bind (q3v h (by omega) 16 (by omega) (by omega)) fun v y hv hy => ?_)
 by_cases c : v = 0
 ·subst c
  simp only [show ((0 : Int) == 0) = true from rfl, q0c]
  refine Dr.bind (q9r hy (by omega) _ (by simp) (by simp)) fun v z hv hz => ?_
  refine Dr.now (v := v) (x := z) (fun k => rfl) ?_ (hz.up (by omega))
  simp only [List.mem_cons, List.not_mem_nil, or_false] at hv
  rcases hv with rfl | rfl | rfl | rfl | rfl | rfl <;> (unfold szN; decide)
 ·simp only [show (v == 0) = false by rw [beq_eq_false_iff_ne]; exact c, q0w]
  refine Dr.bind (qh1 hy (by omega)) fun v z hv hz => ?_
  exact Dr.now (v := v) (x := z) (fun k => rfl) (Nat.le_trans hv.1 (by omega)) (hz.up (by omega))
def ql7 (a : Aff) : Prop := a.1.size ≤ 8 ∧ a.2.2.1.size ≤ 8 ∧ a.2.2.2.1.size ≤ 8 ∧ a.2.2.2.2.size ≤ 8
theorem qed {m : Int} {x : Rdr} (h : Rd m x) (hm : m ≤ 800000000) : Dr (fun k => q0q.f k x) (m + 1) ql7 := by
 refine Dr.congr (fun k => q0q.f_eq k x) (Dr.succ ?_)
 refine Dr.congr (fun k => q0q.J2_eq k x _ _) ?_
 refine Dr.bind (q3v h (by omega) _ (by simp) (by simp)) fun v y hv hy => ?_
 have p0 := hv.1
 have p1 := hv.2
 simp only [decide_eq_true p0, decide_eq_true p1, Bool.and_self, q0c]
 refine Dr.now (v := _) (x := y) (fun k => rfl) ?_ hy
 obtain ⟨n, rfl⟩ := Int.eq_ofNat_of_zero_le p0
 simp only [List.length_cons, List.length_nil] at p1
 have : n = 0 ∨ n = 1 ∨ n = 2 ∨ n = 3 ∨ n = 4 ∨ n = 5 ∨ n = 6 ∨ n = 7 := by omega
 rcases this with rfl | rfl | rfl | rfl | rfl | rfl | rfl | rfl <;> exact ⟨by decide, by decide, by decide, by decide⟩
def q9g (n : Nat) (l : List Aff) : Prop := l.length ≤ n ∧ ∀ a ∈ l, ql7 a
theorem qk9 {y : Rdr} {l : List Aff} {a : Aff} {n : Nat} {M : Int} {P : List Aff → Prop} (hl : l.length ≤ 100) (hn : n ≤ 100)
  (hA : Dr2 (fun k k1 => q04.L3 k k1 y (l ++ [a]) (n : Int)) M P) (hB : Dr2 (fun k k1 => q04.L3 k k1 y l (n : Int)) M P) :
  ∀ j i : Nat, i + j = l.length → ∀ b : Bool, Dr3 (fun k k1 k2 => q04.L8 k k1 k2 y l ((n + 1 : Nat) : Int) a b (i : Int)) M P := by
 have e1 : w64 (((n + 1 : Nat) : Int) - 1) = (n : Int) := by rw [show ((n + 1 : Nat) : Int) - 1 = (n : Int) by omega]; exact q5r (by omega) (by omega)
 have e2 : decide ((l.length + [a].length) * 72 ≤ q25) = true := decide_eq_true (by simp [q25]; omega)
 intro j
 induction j with
 | zero =>
  intro i hi b
  refine Dr3.succ (Dr3.congr (fun k k1 k2 => q04.L8_eq k k1 k2 y l _ a b _) ?_)
  simp only [at_end (show ¬ i < l.length by omega), q0w, e1, e2, q0c]
  cases b
  ·simp only [Bool.not_false, q0c]; exact hA.fst3
  ·simp only [Bool.not_true, q0w]; exact hB.fst3
 | succ j ih =>
  intro i hi b
  obtain ⟨c1, c2, c3, c4⟩ := q6d (show i < l.length by omega) (by omega)
  refine Dr3.succ (Dr3.congr (fun k k1 k2 => q04.L8_eq k k1 k2 y l _ a b _) (Dr3.succ ?_))
  simp only [c1, c2, Bool.and_self, q0c, q04.J9_eq, w64, c4]
  cases b
  ·simp only [q0w]; exact (ih (i + 1) (by omega) _).pred
  ·simp only [q0c]; exact (ih (i + 1) (by omega) _).pred
theorem qh2 : ∀ (n : Nat) (m : Int) (y : Rdr) (l : List Aff), Rd m y → m + n ≤ 700000000 → n ≤ 5 → q9g (50 - n) l → Dr2 (fun k k1 => q04.L3 k k1 y l (n : Int)) (m + n) (q9g 50) := by
 intro n
 induction n with
 | zero =>
  intro m y l hy hm hn hl
  refine Dr2.succ (Dr2.congr (fun k k1 => q04.L3_eq k k1 y l _) ?_)
  simp only [show decide (((0 : Nat) : Int) > 0) = false from rfl, q0w]
  exact Dr2.now (v := l) (x := y) (fun k k1 => rfl) hl (hy.up (by omega))
 | succ n ih =>
  intro m y l hy hm hn hl
  refine Dr2.succ (Dr2.congr (fun k k1 => q04.L3_eq k k1 y l _) ?_)
  simp only [decide_eq_true (show ((n + 1 : Nat) : Int) > 0 by omega), q0c]
  refine Dr2.bind (qed hy (by omega)).snd fun a z ha hz => ?_
  have A := ih (m + 1) z (l ++ [a]) hz (by omega) (by omega) ⟨by have := hl.1; simp; omega, fun x hx => (List.mem_append.1 hx).elim (hl.2 x) fun h => by rw [List.mem_singleton.1 h]; exact ha⟩
  have B := ih (m + 1) z l hz (by omega) (by omega) ⟨by have := hl.1; omega, hl.2⟩
  exact ((qk9 (by have := hl.1; omega) (by omega) A B l.length 0 (by omega) false).in2).up (by omega) fun _ h => h
theorem qf6 {m : Int} {x : Rdr} (h : Rd m x) (hm : m ≤ 600000000) : Dr (fun k => q04.f k x) (m + 10) (q9g 50) := by
 refine Dr.congr (fun k => q04.f_eq k x) (Dr.bind (q3v h (by omega) 5 (by omega) (by omega)) fun v y hv hy => ?_)
 obtain ⟨n, rfl⟩ := Int.eq_ofNat_of_zero_le hv.1
 have h5 := hv.2
 exact ((qh2 n (m + 1) y [] hy (by omega) (by omega) ⟨by simp, fun a ha => by simp at ha⟩).diag).up (by omega) fun _ h => h
def qee (s : ByteArray) : List ByteArray → List ByteArray
 | [] => [s]
 | x :: t => if ltS x s then x :: qee s t else if x = s then x :: t else s :: x :: t
theorem qh3 (s x : ByteArray) (t : List ByteArray) : qee s (x :: t) = if ltS x s then x :: qee s t else if x = s then x :: t else s :: x :: t := rfl
theorem qb2 {s x : ByteArray} : ∀ {l : List ByteArray}, x ∈ qee s l → x = s ∨ x ∈ l
 | [], h => .inl (List.mem_singleton.1 h)
 | y :: t, h => by
  unfold qee at h
  split at h
  ·rcases List.mem_cons.1 h with rfl | h
   ·exact .inr (List.mem_cons_self ..)
   ·exact (qb2 h).imp id fun h => List.mem_cons_of_mem _ h
  ·split at h
   ·exact .inr h
   ·rcases List.mem_cons.1 h with rfl | h
    ·exact .inl rfl
    ·exact .inr h
theorem qb3 (s : ByteArray) : ∀ (l : List ByteArray), (qee s l).length ≤ l.length + 1 ∧ (s ∉ l → (qee s l).length = l.length + 1)
 | [] => ⟨by simp [qee], fun _ => by simp [qee]⟩
 | y :: t => by
  unfold qee
  split
  ·have := qb3 s t
   exact ⟨by simp; omega, fun h => by simp only [List.length_cons]; rw [this.2 fun h' => h (List.mem_cons_of_mem _ h')]⟩
  ·split
   ·rename_i e
    exact ⟨by simp, fun h => (h (by simp [e])).elim⟩
   ·exact ⟨by simp, fun _ => by simp⟩
theorem qef (l : List ByteArray) (s : ByteArray) (hl : l.length ≤ 1099511627776) : Al fun k => q1o.f k l s = some (qee s l) := by
 have hS : l.length ≤ 4611686018427387904 := by omega
 have ins : ∀ i : Nat, i ≤ l.length → ∀ (z : Option (List ByteArray)), ifb (decide (0 ≤ (0 : Int)) && (decide ((0 : Int) ≤ (i : Int)) && decide ((i : Int) ≤ (l.length : Int)))) (ifb (decide ((([] : List ByteArray).length + ((l.take i).drop (0 : Int).toNat).length) * 16 ≤ q25)) (ifb (decide (((([] : List ByteArray) ++ ((l.take i).drop (0 : Int).toNat)).length + [s].length) * 16 ≤ q25)) (ifb (decide (0 ≤ (i : Int)) && (decide ((i : Int) ≤ (l.length : Int)) && decide ((l.length : Int) ≤ (l.length : Int)))) (ifb (decide ((((([] : List ByteArray) ++ ((l.take i).drop (0 : Int).toNat)) ++ [s]).length + ((l.take l.length).drop i).length) * 16 ≤ q25)) (some (((([] : List ByteArray) ++ ((l.take i).drop (0 : Int).toNat)) ++ [s]) ++ ((l.take l.length).drop i))) (none)) (none)) (none)) (none)) (none) = some (l.take i ++ s :: l.drop i) := by
  intro i hi _
  have d0 : ∀ l : List ByteArray, l.drop (0 : Int).toNat = l := fun l => rfl
  have d1 : l.take l.length = l := List.take_length
  rw [d1, d0]
  rw [decide_eq_true (Int.le_refl 0), decide_eq_true (show (0 : Int) ≤ (i : Int) by omega), decide_eq_true (show (i : Int) ≤ (l.length : Int) by omega), decide_eq_true (Int.le_refl (l.length : Int)), Bool.and_self, Bool.and_self, q0c, q0c]
  rw [decide_eq_true (by simp [q25]; omega), decide_eq_true (by simp [q25]; omega), decide_eq_true (by simp [q25]; omega), q0c, q0c, q0c]
  simp
 have key : ∀ (t : List ByteArray) (i : Nat), l.drop i = t → i ≤ l.length → Al2 fun k k1 => q1o.L2 k k1 l s (i : Int) = some (l.take i ++ qee s t) := by
  intro t
  induction t with
  | nil =>
   intro i hd hi
   have he := drop_nil hd
   refine Al2.succ (Al2.now fun k k1 => ?_)
   simp only [q1o.L2_eq, at_end he, q0w, Int.toNat_natCast]
   rw [ins i hi none, hd]
   rfl
  | cons x t ih =>
   intro i hd hi
   obtain ⟨hi', g1, g2⟩ := q2v bz hd
   obtain ⟨c1, c2, c3, c4⟩ := q6d hi' hS
   refine Al2.succ ((ih (i + 1) g2 (by omega)).mono fun k k1 e => ?_)
   simp only [q1o.L2_eq, c1, c2, Int.toNat_natCast, w64, c4, g1, Bool.and_self, q0c, e, q4e, qh3]
   cases hx : Op.bytesLess x.toList s.toList
   ·rw [q0w, if_neg (show ¬ ltS x s = true by simp [ltS, hx])]
    by_cases e2 : x = s
    ·rw [decide_eq_true e2, q0c, if_pos e2, ← hd, List.take_append_drop]
    ·have ins' := ins i hi none
     simp only [c2] at ins'
     rw [decide_eq_false e2, q0w, ins', hd, if_neg e2]
   ·rw [q0c, if_pos (show ltS x s = true by simp [ltS, hx])]
    have e3 : l.take (i + 1) = l.take i ++ [x] := by
     have h2 : l.take (i + 1) = l.take i ++ (l.drop i).take 1 := by rw [List.take_add]
     rw [h2, hd]; rfl
    rw [e3]
    simp
 refine (key l 0 rfl (by omega)).diag.mono fun k e => ?_
 rw [q1o.f_eq, show (0 : Int) = ((0 : Nat) : Int) from rfl, e]
 rfl
def qlh (e : En) : Prop := e.1.size ≤ 16 ∧ e.2.size ≤ 16
def qka (n : Nat) (l : List En) : Prop := l.length ≤ n ∧ ∀ e ∈ l, qlh e
def q7r (n : Nat) (b : Book) : Prop := q9g n b.1 ∧ qka n b.2
theorem qeg {m : Int} {x : Rdr} (s : ByteArray) (hs : s.size ≤ 16) (h : Rd m x) (hm : m ≤ 900000000) : Dr (fun k => q1q.f k x s) (m + 1) qlh := by
 refine Dr.congr (fun k => q1q.f_eq k x s) (Dr.bind (q9r h (by omega) _ (by simp) (by simp)) fun v y hv hy => ?_)
 have h16 : v.size ≤ 16 := by
  simp only [List.mem_cons, List.not_mem_nil, or_false] at hv
  rcases hv with rfl | rfl | rfl | rfl | rfl | rfl | rfl | rfl | rfl <;> decide
 exact Dr.now (v := (s, v)) (x := y) (fun k => rfl) ⟨hs, h16⟩ hy
theorem qh4 (b0 : Book) (A : List Aff) (hA : q9g 50 A) (ws : List ByteArray) (hw : ws.length ≤ 40 ∧ ∀ s ∈ ws, s.size ≤ 16) :
  ∀ (j i : Nat) (m : Int) (x : Rdr) (es : List En), i + j = ws.length → Rd m x → m + j ≤ 800000000 → qka i es → Dr2 (fun k k1 => q06.L13 k k1 x b0 (A, es) ws (i : Int)) (m + j) (q7r 50) := by
 intro j
 induction j with
 | zero =>
  intro i m x es hi hx hm he
  refine Dr2.succ (Dr2.congr (fun k k1 => q06.L13_eq k k1 x b0 (A, es) ws _) ?_)
  simp only [at_end (show ¬ i < ws.length by omega), q0w]
  exact Dr2.now (v := (A, es)) (x := x) (fun _ _ => rfl) ⟨hA, by have := he.1; exact Nat.le_trans he.1 (by omega), he.2⟩ (hx.up (by omega))
 | succ j ih =>
  intro i m x es hi hx hm he
  have hil : i < ws.length := by omega
  obtain ⟨c1, c2, c3, c4⟩ := q6d hil (by omega)
  refine Dr2.succ (Dr2.congr (fun k k1 => q06.L13_eq k k1 x b0 (A, es) ws _) ?_)
  simp only [c1, c2, c3, Bool.and_self, q0c, w64, c4]
  have hs : (ws.getD i bz).size ≤ 16 := by
   rw [List.getD_eq_getElem?_getD, List.getElem?_eq_getElem hil]
   exact hw.2 _ (List.getElem_mem hil)
  refine Dr2.bind (qeg _ hs hx (by omega)).snd fun e y he' hy => ?_
  have e2 : decide ((es.length + [e].length) * 32 ≤ q25) = true := decide_eq_true (by have := he.1; simp [q25]; omega)
  simp only [e2, q0c]
  exact (ih (i + 1) (m + 1) y (es ++ [e]) (by omega) hy (by omega) ⟨by have := he.1; simp; omega, fun z hz => (List.mem_append.1 hz).elim (he.2 z) fun h => by rw [List.mem_singleton.1 h]; exact he'⟩).up (by omega) fun _ h => h
theorem qeh (b0 : Book) (A : List Aff) (hA : q9g 50 A) (ws : List ByteArray) (hw : ws.length ≤ 40 ∧ ∀ s ∈ ws, s.size ≤ 16) {m : Int} {x : Rdr} (hx : Rd m x) (hm : m ≤ 700000000) :
  Dr (fun k => q06.J12 k x b0 (A, []) ws) (m + 40) (q7r 50) := by
 refine Dr.succ (Dr.congr (fun k => q06.J12_eq k x b0 (A, []) ws) ?_)
 exact ((qh4 b0 A hA ws hw ws.length 0 m x [] (by omega) hx (by omega) ⟨by simp, fun e he => by simp at he⟩).diag).up (by omega) fun _ h => h
def wN (n : Nat) : ByteArray := (⟨#[119]⟩ : ByteArray) ++ strOf [(IntKind.u8.wrap (w64 ((97 : Int) + (n : Int))))]
theorem qip : ∀ n, n < 25 → bl (wN n) = [119, (97 + n).toUInt8] := by decide
theorem qh5 {n : Nat} (h : n < 25) : (wN n).size = 2 := by rw [← q43, qip n h]; rfl
theorem ql8 : ∀ i, i < 25 → ∀ j, j < 25 → wN i = wN j → i = j := by
 intro i hi j hj e
 have := congrArg bl e
 rw [qip i hi, qip j hj] at this
 have h2 : (97 + i).toUInt8 = (97 + j).toUInt8 := by simpa using this
 have h3 := congrArg UInt8.toNat h2
 simp at h3
 omega
def wOk (n : Nat) (s : ByteArray) : Prop := s.size ≤ 16 ∧ ((bl s).head? ≠ some 119 ∨ ∃ j, j < n ∧ s = wN j)
theorem qh6 (b0 : Book) (A : List Aff) (hA : q9g 50 A) : ∀ (j n : Nat) (m : Int) (x : Rdr) (ws : List ByteArray), j + ws.length = 24 → n ≤ ws.length → Rd m x → m ≤ 600000000 → (∀ s ∈ ws, wOk n s) →
  Dr2 (fun k k1 => q06.L9 k k1 x b0 (A, []) ws (n : Int)) (m + 40) (q7r 50) := by
 intro j
 induction j with
 | zero =>
  intro n m x ws hj hn hx hm hw
  refine Dr2.succ (Dr2.congr (fun k k1 => q06.L9_eq k k1 x b0 (A, []) ws _) ?_)
  simp only [show decide ((ws.length : Int) < 24) = false from decide_eq_false (by omega), q0w]
  exact (qeh b0 A hA ws ⟨by omega, fun s hs => (hw s hs).1⟩ hx (by omega)).fst
 | succ j ih =>
  intro n m x ws hj hn hx hm hw
  refine Dr2.succ (Dr2.congr (fun k k1 => q06.L9_eq k k1 x b0 (A, []) ws _) ?_)
  have hn25 : n < 25 := by omega
  have hsz : q3n ((⟨#[119]⟩ : ByteArray).size + (strOf [(IntKind.u8.wrap (w64 ((97 : Int) + (n : Int))))]).size) = true := by
   have h2 := qh5 hn25
   unfold wN at h2
   rw [ByteArray.size_append] at h2
   rw [h2]; rfl
  have e1 : w64 ((n : Int) + 1) = ((n + 1 : Nat) : Int) := by rw [show (n : Int) + 1 = ((n + 1 : Nat) : Int) by omega]; exact q5r (by omega) (by omega)
  simp only [show decide ((ws.length : Int) < 24) = true from decide_eq_true (by omega), q0c, hsz, e1]
  refine Dr2.bindv (qef ws (wN n) (by omega)).snd ?_
  have hno : wN n ∉ ws := by
   intro hmem
   rcases (hw _ hmem).2 with h | ⟨i, hi, h⟩
   ·rw [qip n hn25] at h; simp at h
   ·have := ql8 n hn25 i (by omega) h; omega
  have hlen := (qb3 (wN n) ws).2 hno
  refine ih (n + 1) m x (qee (wN n) ws) (by omega) (by omega) hx hm fun s hs => ?_
  rcases qb2 hs with rfl | hs
  ·exact ⟨by rw [qh5 hn25]; omega, .inr ⟨n, by omega, rfl⟩⟩
  ·obtain ⟨h1, h2⟩ := hw s hs
   exact ⟨h1, h2.imp id fun ⟨i, hi, h⟩ => ⟨i, by omega, h⟩⟩
theorem qf7 (b0 : Book) (A : List Aff) (hA : q9g 50 A) : ∀ (n : Nat) (m : Int) (x : Rdr) (ws : List ByteArray), n + ws.length ≤ 7 → Rd m x → m + 12 * n ≤ 500000000 → (∀ s ∈ ws, wOk 0 s) →
  Dr2 (fun k k1 => q06.L4 k k1 x b0 (A, []) ws (n : Int)) (m + 12 * n + 50) (q7r 50) := by
 intro n
 induction n with
 | zero =>
  intro m x ws hl hx hm hw
  refine Dr2.succ (Dr2.congr (fun k k1 => q06.L4_eq k k1 x b0 (A, []) ws _) ?_)
  simp only [show decide (((0 : Nat) : Int) > 0) = false from rfl, q0w]
  refine Dr2.bind (q3v hx (by omega) 30 (by omega) (by omega)).fst fun v y hv hy => ?_
  by_cases c : v = 0
  ·subst c
   simp only [show ((0 : Int) == 0) = true from rfl, q0c]
   exact ((qh6 b0 A hA (24 - ws.length) 0 (m + 1) y ws (by omega) (by omega) hy (by omega) hw).diag.fst).up (by omega) fun _ h => h
  ·simp only [show (v == 0) = false by rw [beq_eq_false_iff_ne]; exact c, q0w]
   exact ((qeh b0 A hA ws ⟨by omega, fun s hs => (hw s hs).1⟩ hy (by omega)).fst).up (by omega) fun _ h => h
 | succ n ih =>
  intro m x ws hl hx hm hw
  refine Dr2.succ (Dr2.congr (fun k k1 => q06.L4_eq k k1 x b0 (A, []) ws _) ?_)
  have e1 : w64 (((n + 1 : Nat) : Int) - 1) = (n : Int) := by rw [show ((n + 1 : Nat) : Int) - 1 = (n : Int) by omega]; exact q5r (by omega) (by omega)
  simp only [decide_eq_true (show ((n + 1 : Nat) : Int) > 0 by omega), q0c, e1]
  refine Dr2.bind (qh1 hx (by omega)).snd fun s y hs hy => ?_
  refine Dr2.bindv (qef ws s (by omega)).snd ?_
  have hlen := (qb3 s ws).1
  refine (ih (m + 12) y (qee s ws) (by omega) hy (by omega) fun z hz => ?_).up (by omega) fun _ h => h
  rcases qb2 hz with rfl | hz
  ·exact ⟨Nat.le_trans hs.1 (by omega), .inl hs.2⟩
  ·exact hw z hz
theorem qb4 {m : Int} {x : Rdr} (h : Rd m x) (hm : m ≤ 400000000) : Dr (fun k => q06.f k x) (m + 200) (q7r 50) := by
 refine Dr.congr (fun k => q06.f_eq k x) (Dr.bind (qf6 h (by omega)) fun A y hA hy => ?_)
 refine Dr.bind (q3v hy (by omega) 7 (by omega) (by omega)) fun v z hv hz => ?_
 obtain ⟨n, rfl⟩ := Int.eq_ofNat_of_zero_le hv.1
 have h7 := hv.2
 exact ((qf7 ([], []) A hA n _ z [] (by simp; omega) hz (by omega) (fun s hs => by simp at hs)).diag).up (by omega) fun _ h => h
end Go.Proofs.YtnjdoinlnbjedaaGreatDoor.Rf
end

section
/- Draws: books and deltas of any kind. -/
namespace Go.Proofs.YtnjdoinlnbjedaaGreatDoor.Rf
open Go Go.RowKit
set_option linter.unusedVariables false
set_option linter.unusedSimpArgs false
theorem qf8 {v c : Int} (h : v = c) : (v == c) = true := by simp [h]
theorem qf9 {v c : Int} (h : ¬ v = c) : (v == c) = false := by simp [h]
theorem qdg {m : Int} {x : Rdr} (h : Rd m x) (hm : m ≤ 800000000) : Dr (fun k => q1c.f k x) (m + 3) ql7 := by
 refine Dr.congr (fun k => q1c.f_eq k x) (Dr.bind (qed h (by omega)) fun a y ha hy => ?_)
 refine Dr.bind (q3v hy (by omega) 12 (by omega) (by omega)) fun v z hv hz => ?_
 by_cases c0 : v = 0
 ·simp only [qf8 c0, q0c]
  refine Dr.bind (q9r hz (by omega) _ (by simp) (by simp)) fun s u hs hu => ?_
  have h8 : s.size ≤ 8 := by
   simp only [List.mem_cons, List.not_mem_nil, or_false] at hs
   rcases hs with rfl | rfl | rfl | rfl <;> decide
  exact Dr.now (v := (s, a.2)) (x := u) (fun k => rfl) ⟨h8, ha.2⟩ (hu.up (by omega))
 simp only [qf9 c0, q0w]
 by_cases c1 : v = 1
 ·simp only [qf8 c1, q0c]
  refine Dr.bind (q9r hz (by omega) _ (by simp) (by simp)) fun s u hs hu => ?_
  have h8 : s.size ≤ 8 := by
   simp only [List.mem_cons, List.not_mem_nil, or_false] at hs
   rcases hs with rfl | rfl | rfl | rfl <;> decide
  exact Dr.now (v := (a.1, a.2.1, s, a.2.2.2)) (x := u) (fun k => rfl) ⟨ha.1, h8, ha.2.2⟩ (hu.up (by omega))
 simp only [qf9 c1, q0w]
 by_cases c2 : v = 2
 ·simp only [qf8 c2, q0c]
  refine Dr.bind (q9r hz (by omega) _ (by simp) (by simp)) fun s u hs hu => ?_
  have h8 : s.size ≤ 8 := by
   simp only [List.mem_cons, List.not_mem_nil, or_false] at hs
   rcases hs with rfl | rfl | rfl | rfl <;> decide
  exact Dr.now (v := (a.1, a.2.1, a.2.2.1, a.2.2.2.1, s)) (x := u) (fun k => rfl) ⟨ha.1, ha.2.1, ha.2.2.1, h8⟩ (hu.up (by omega))
 simp only [qf9 c2, q0w]
 by_cases c3 : v = 3
 ·simp only [qf8 c3, q0c]
  exact Dr.now (v := (a.1, !a.2.1, a.2.2)) (x := z) (fun k => rfl) ha (hz.up (by omega))
 simp only [qf9 c3, q0w]
 exact Dr.now (v := a) (x := z) (fun k => rfl) ha (hz.up (by omega))
theorem qb5 {α : Type} {P : α → Prop} {l : List α} {a : α} (h : ∀ x ∈ l, P x) (ha : P a) : ∀ x ∈ l ++ [a], P x := fun x hx => (List.mem_append.1 hx).elim (h x) fun e => by rw [List.mem_singleton.1 e]; exact ha
def ql9 (n : Nat) (l : List ByteArray) : Prop := l.length ≤ n ∧ ∀ s ∈ l, s.size ≤ 16
def q7b (n : Nat) (d : Delta) : Prop := ql9 n d.1 ∧ qka n d.2.1 ∧ q9g n d.2.2.2
theorem qiq {b : Book} (h : q7r 60 b) : smB b := by
 have l1 := h.1.1
 have l2 := h.2.1
 refine ⟨⟨by omega, fun a ha => ?_⟩, by omega, fun e he => ?_⟩
 ·have := h.1.2 a ha; unfold ql7 at this; unfold smA Sm; omega
 ·have := h.2.2 e he; unfold qlh at this; unfold smE Sm; omega
theorem qlz {d : Delta} (h : q7b 60 d) : smD d := by
 have l1 := h.1.1
 have l2 := h.2.1.1
 have l3 := h.2.2.1
 refine ⟨⟨by omega, fun s hs => ?_⟩, ⟨by omega, fun e he => ?_⟩, by omega, fun a ha => ?_⟩
 ·have := h.1.2 s hs; unfold Sm; omega
 ·have := h.2.1.2 e he; unfold qlh at this; unfold smE Sm; omega
 ·have := h.2.2.2 a ha; unfold ql7 at this; unfold smA Sm; omega
theorem q7r.up {n m : Nat} {b : Book} (h : q7r n b) (k : n ≤ m) : q7r m b := ⟨⟨Nat.le_trans h.1.1 k, h.1.2⟩, Nat.le_trans h.2.1 k, h.2.2⟩
theorem q7b.up {n m : Nat} {d : Delta} (h : q7b n d) (k : n ≤ m) : q7b m d := ⟨⟨Nat.le_trans h.1.1 k, h.1.2⟩, ⟨Nat.le_trans h.2.1.1 k, h.2.1.2⟩, Nat.le_trans h.2.2.1 k, h.2.2.2⟩
theorem qcp {n : Nat} {a b : Book} (ha : q7r n a) (hb : q7r n b) : q7b n (q3b a b) := by
 unfold q3b
 split
 ·refine ⟨⟨?_, fun s hs => ?_⟩, ⟨?_, fun e he => ?_⟩, ?_⟩
  ·simp only [q5x, List.length_map]
   exact Nat.le_trans (List.length_filter_le _ _) ha.2.1
  ·simp only [q5x, List.mem_map] at hs
   obtain ⟨e, he, rfl⟩ := hs
   exact (ha.2.2 e (List.mem_filter.1 he).1).1
  ·exact Nat.le_trans (List.length_filter_le _ _) hb.2.1
  ·exact hb.2.2 e (List.mem_filter.1 he).1
  ·show q9g n (if a.1 = b.1 then [] else b.1)
   split
   ·exact ⟨by simp, fun a ha => by simp at ha⟩
   ·exact hb.1
 ·exact ⟨⟨by simp, fun s hs => by simp at hs⟩, ⟨by simp, fun s hs => by simp at hs⟩, by simp [q9g]⟩
theorem qir {m : Int} {x : Rdr} (h : Rd m x) (hm : m ≤ 300000000) : Dr (fun k => q21.f k x) (m + 500) (q7b 50) := by
 refine Dr.congr (fun k => q21.f_eq k x) (Dr.bind (qb4 h (by omega)) fun a y ha hy => ?_)
 refine Dr.bind (qb4 hy (by omega)) fun b z hb hz => ?_
 refine Dr.bindv (q60 a b (qiq (ha.up (by omega))) (qiq (hb.up (by omega)))) ?_
 have hd := qcp ha hb
 refine Dr.bind (q3v hz (by omega) 3 (by omega) (by omega)) fun v u hv hu => ?_
 by_cases c0 : v = 0
 ·simp only [qf8 c0, q0c]
  exact Dr.now (v := ([], (q3b a b).2)) (x := u) (fun k => rfl) ⟨⟨by simp, fun s hs => by simp at hs⟩, hd.2⟩ (hu.up (by omega))
 ·simp only [qf9 c0, q0w]
  exact Dr.now (v := q3b a b) (x := u) (fun k => rfl) hd (hu.up (by omega))
theorem qdh {m : Int} {x : Rdr} (h : Rd m x) (hm : m ≤ 200000000) : Dr (fun k => q1d.f k x) (m + 600) (q7b 51) := by
 refine Dr.congr (fun k => q1d.f_eq k x) (Dr.bind (qir h (by omega)) fun d y hd hy => ?_)
 have hd1 : q7b 51 d := hd.up (by omega)
 have l1 := hd.1.1
 have l2 := hd.2.1.1
 have l3 := hd.2.2.1
 refine Dr.bind (q3v hy (by omega) 12 (by omega) (by omega)) fun v z hv hz => ?_
 by_cases c0 : v = 0
 ·have m0 : decide ((([] : List ByteArray).length + d.1.length) * 16 ≤ q25) = true := decide_eq_true (by simp [q25]; omega)
  simp only [qf8 c0, q0c, m0]
  refine Dr.bind (qa6 hz (by omega)) fun s u hs hu => ?_
  have m1 : decide ((([] ++ d.1).length + [s].length) * 16 ≤ q25) = true := decide_eq_true (by simp [q25]; omega)
  simp only [m1, q0c]
  exact Dr.now (v := (([] ++ d.1) ++ [s], d.2)) (x := u) (fun k => rfl) ⟨⟨by simp; omega, qb5 hd.1.2 (Nat.le_trans hs (by omega))⟩, hd1.2⟩ (hu.up (by omega))
 simp only [qf9 c0, q0w]
 by_cases c1 : v = 1
 ·have m0 : decide ((([] : List En).length + d.2.1.length) * 32 ≤ q25) = true := decide_eq_true (by simp [q25]; omega)
  simp only [qf8 c1, q0c, m0]
  refine Dr.bind (qa6 hz (by omega)) fun s u hs hu => ?_
  refine Dr.bind (qeg s (Nat.le_trans hs (by omega)) hu (by omega)) fun e w he hw => ?_
  have m1 : decide ((([] ++ d.2.1).length + [e].length) * 32 ≤ q25) = true := decide_eq_true (by simp [q25]; omega)
  simp only [m1, q0c]
  exact Dr.now (v := (d.1, ([] ++ d.2.1) ++ [e], d.2.2)) (x := w) (fun k => rfl) ⟨hd1.1, ⟨by simp; omega, qb5 hd.2.1.2 he⟩, hd1.2.2⟩ (hw.up (by omega))
 simp only [qf9 c1, q0w]
 by_cases c2 : v = 2
 ·simp only [qf8 c2, q0c]
  exact Dr.now (v := (d.1, d.2.1, !d.2.2.1, d.2.2.2)) (x := z) (fun k => rfl) hd1 (hz.up (by omega))
 simp only [qf9 c2, q0w]
 by_cases c3 : v = 3
 ·have m0 : decide ((([] : List Aff).length + d.2.2.2.length) * 72 ≤ q25) = true := decide_eq_true (by simp [q25]; omega)
  simp only [qf8 c3, q0c, m0]
  refine Dr.bind (qdg hz (by omega)) fun a u ha hu => ?_
  have m1 : decide ((([] ++ d.2.2.2).length + [a].length) * 72 ≤ q25) = true := decide_eq_true (by simp [q25]; omega)
  simp only [m1, q0c]
  exact Dr.now (v := (d.1, d.2.1, d.2.2.1, ([] ++ d.2.2.2) ++ [a])) (x := u) (fun k => rfl) ⟨hd1.1, hd1.2.1, by simp; omega, qb5 hd.2.2.2 ha⟩ (hu.up (by omega))
 simp only [qf9 c3, q0w]
 exact Dr.now (v := d) (x := z) (fun k => rfl) hd1 (hz.up (by omega))
end Go.Proofs.YtnjdoinlnbjedaaGreatDoor.Rf
end

section
/- The laws' own words: the same books, one of a row. -/
namespace Go.Proofs.YtnjdoinlnbjedaaGreatDoor.Rf
open Go Go.RowKit
set_option linter.unusedVariables false
set_option linter.unusedSimpArgs false
theorem qm0 {n : Int} (h : (Lit.int .u8 n).wf = true) : 0 ≤ n ∧ n ≤ 255 := by
 simp only [Lit.wf, Bool.and_eq_true, decide_eq_true_eq] at h
 simpa [IntKind.min, IntKind.max, IntKind.bits, IntKind.signed] using h
end Go.Proofs.YtnjdoinlnbjedaaGreatDoor.Rf
end

section
/- Drawn keys and releases. -/
namespace Go.Proofs.YtnjdoinlnbjedaaGreatDoor.Rf
open Go Go.RowKit
set_option linter.unusedVariables false
set_option linter.unusedSimpArgs false
theorem qkb (n : Nat) (hn : n ≤ 1000000) : ∀ (m : Nat) (x v : ByteArray), m ≤ 1000000 → v.size + x.size * m ≤ n → ∃ y, Al2 (fun k k1 => q0o.L2 k k1 x (m : Int) v = some y) ∧ y.size ≤ n := by
 intro m
 induction m using Nat.strongRecOn with
 | ind m ih =>
  intro x v hm hz
  by_cases h0 : m = 0
  ·subst h0
   refine ⟨v, Al2.succ (Al2.now fun k k1 => by rw [q0o.L2_eq]; exact q0w _ _), ?_⟩
   omega
  have hx1 : x.size ≤ x.size * m := Nat.le_mul_of_pos_right _ (by omega)
  have hxx : (x ++ x).size = 2 * x.size := by rw [ByteArray.size_append]; omega
  have hdm : m = 2 * (m / 2) + m % 2 := by omega
  have hy : x.size * m = (x ++ x).size * (m / 2) + x.size * (m % 2) := by
   rw [hxx, Nat.mul_comm 2, Nat.mul_assoc, ← Nat.mul_add, ← hdm]
  have t1 : (m : Int).tdiv 2 = ((m / 2 : Nat) : Int) := rfl
  have t2 : (m : Int).tmod 2 = ((m % 2 : Nat) : Int) := rfl
  have tw : w64 ((m / 2 : Nat) : Int) = ((m / 2 : Nat) : Int) := q5r (by omega) (by omega)
  have run : ∀ u : ByteArray, u.size + (x ++ x).size * (m / 2) ≤ n → ∃ y, Al3 (fun k k1 k2 => q0o.J5 k k1 k2 x (m : Int) u = some y) ∧ y.size ≤ n := fun u hu => by
   obtain ⟨y, h1, h2⟩ := ih (m / 2) (by omega) (x ++ x) u (by omega) hu
   refine ⟨y, Al3.succ (h1.fst.mono fun k k1 k2 e => ?_), h2⟩
   rw [q0o.J5_eq, q2r (by omega), q0c, show decide ((2 : Int) ≠ 0) = true from rfl, q0c, t1, tw]
   exact e
  have hpos : decide ((m : Int) > 0) = true := decide_eq_true (by omega)
  by_cases hq : m % 2 = 1
  ·rw [hq, Nat.mul_one] at hy
   obtain ⟨y, h1, h2⟩ := run (v ++ x) (by rw [ByteArray.size_append]; omega)
   refine ⟨y, Al2.succ (h1.in2.mono fun k k1 e => ?_), h2⟩
   rw [q0o.L2_eq, hpos, q0c, show decide ((2 : Int) ≠ 0) = true from rfl, q0c, t2, hq, show (((1 : Nat) : Int) == 1) = true from rfl, q0c, q2r (by omega), q0c]
   exact e
  ·have hq0 : m % 2 = 0 := by omega
   rw [hq0, Nat.mul_zero] at hy
   obtain ⟨y, h1, h2⟩ := run v (by omega)
   refine ⟨y, Al2.succ (h1.in2.mono fun k k1 e => ?_), h2⟩
   rw [q0o.L2_eq, hpos, q0c, show decide ((2 : Int) ≠ 0) = true from rfl, q0c, t2, hq0, show (((0 : Nat) : Int) == 1) = false from rfl, q0w]
   exact e
theorem qh7 (m : Nat) (x : ByteArray) (hm : m ≤ 1000000) (hx : x.size * m ≤ 1000000) : ∃ y, Al (fun k => q0o.f k x (m : Int) = some y) ∧ y.size ≤ 1000000 := by
 have hz : bz.size = 0 := rfl
 obtain ⟨y, h1, h2⟩ := qkb 1000000 (by omega) m x bz hm (by omega)
 exact ⟨y, h1.diag.mono fun k e => by rw [q0o.f_eq]; exact e, h2⟩
def qis (s : ByteArray) : Prop := s.size ≤ 1000000
theorem qla {m : Int} {x : Rdr} (h : Rd m x) (hm : m ≤ 1000000000) : Dr (fun k => q2k.f k x) (m + 1) qis := by
 obtain ⟨y, h1, h2⟩ := qh7 64 (⟨#[107]⟩ : ByteArray) (by omega) (by decide)
 refine Dr.congr (fun k => q2k.f_eq k x) (Dr.bindv h1 ?_)
 refine Dr.bind (q9r h hm _ (by simp) (by simp)) fun s z hs hz => ?_
 refine Dr.now (fun k => rfl) ?_ hz
 unfold qis
 simp only [List.mem_cons, List.not_mem_nil, or_false] at hs
 rcases hs with rfl | rfl | rfl | rfl
 ·show 3 ≤ 1000000; omega
 ·show 1 ≤ 1000000; omega
 ·show 5 ≤ 1000000; omega
 ·exact h2
theorem qlb {m : Int} {x : Rdr} (h : Rd m x) (hm : m ≤ 1000000000) (l : List Int) (l1 : 1 ≤ l.length) (l2 : l.length ≤ 1000000) : Dr (fun k => q1p.f k x l) (m + 1) fun v => v ∈ l := by
 obtain ⟨v, x', e, ⟨p0, p1⟩, r⟩ := q3v h hm (l.length : Int) (by omega) (by omega)
 have hv : v.toNat < l.length := by omega
 refine ⟨l.getD v.toNat 0, x', e.mono fun k e => ?_, ?_, r⟩
 ·have e' : q02.f k x (l.length : Int) = some (v, x') := e
  show q1p.f k x l = _
  rw [q1p.f_eq, e', Option.bind_some]
  simp only [decide_eq_true p0, decide_eq_true p1, Bool.and_self, q0c]
 ·rw [List.getD_eq_getElem?_getD, List.getElem?_eq_getElem hv]
  exact List.getElem_mem hv
def rlS (r : Release) : Prop := (-10 ≤ r.1 ∧ r.1 ≤ 2000000) ∧ q7b 51 r.2.1 ∧ r.2.2.1.size ≤ 100 ∧ r.2.2.2.size ≤ 100
theorem qm1 {r : Release} (h : rlS r) : smR r := ⟨qlz (h.2.1.up (by omega)), by have := h.2.2.1; omega, by have := h.2.2.2; omega⟩
theorem qkc {key : ByteArray} {n : Int} {a b : Book} : (qf4 key n a b).1.1 ≤ 1000000 := by
 unfold qf4
 split
 ·rename_i h
  simp only [Bool.and_eq_true, decide_eq_true_eq] at h
  split
  ·show n + 1 ≤ 1000000
   omega
  ·show (0 : Int) ≤ 1000000
   omega
 ·show (0 : Int) ≤ 1000000
  omega
theorem qkd {key : ByteArray} {n : Int} {a b : Book} (ha : q7r 51 a) (hb : q7r 51 b) : rlS (qf4 key n a b).1 := by
 have z : rlS zR := ⟨by simp [zR], ⟨⟨by simp [zR], fun s hs => by simp [zR] at hs⟩, ⟨by simp [zR], fun s hs => by simp [zR] at hs⟩, by simp [zR], fun s hs => by simp [zR] at hs⟩, by show 0 ≤ _; omega, by show 0 ≤ _; omega⟩
 unfold qf4
 split
 ·rename_i h
  simp only [Bool.and_eq_true, decide_eq_true_eq] at h
  have hs := q4c (q6b b)
  have hq := qa5 key (q8d (n + 1) (q3b a b) (q51 (q6b b)))
  split
  ·refine ⟨?_, qcp ha hb, ?_, ?_⟩
   ·show -10 ≤ n + 1 ∧ n + 1 ≤ 2000000
    omega
   ·show (q51 (q6b b)).size ≤ _
    omega
   ·show (q83 _ _).size ≤ _
    omega
  ·exact z
 ·exact z
theorem qfa {m : Int} {x : Rdr} (key : ByteArray) (hk : qis key) (h : Rd m x) (hm : m ≤ 100000000) : Dr (fun k => q1m.f k x key) (m + 500) fun r => rlS r ∧ r.1 ≤ 1000000 := by
 unfold qis at hk
 refine Dr.congr (fun k => q1m.f_eq k x key) (Dr.bind (q3v h (by omega) 3 (by omega) (by omega)) fun v y hv hy => ?_)
 refine Dr.bind (qb4 hy (by omega)) fun a z ha hz => ?_
 refine Dr.bind (qb4 hz (by omega)) fun b u hb hu => ?_
 have ha' := ha.up (show 50 ≤ 51 by omega)
 have hb' := hb.up (show 50 ≤ 51 by omega)
 refine Dr.bindv (q7q key v a b (by omega) (qiq (ha.up (by omega))) (qiq (hb.up (by omega)))) ?_
 exact Dr.now (fun k => rfl) ⟨qkd ha' hb', qkc⟩ (hu.up (by omega))
theorem qb6 {m : Int} {x : Rdr} (key : ByteArray) (hk : qis key) (h : Rd m x) (hm : m ≤ 100000000) : Dr (fun k => q0u.f k x key) (m + 2000) rlS := by
 refine Dr.congr (fun k => q0u.f_eq k x key) (Dr.bind (qfa key hk h hm) fun r y hr hy => ?_)
 obtain ⟨⟨⟨r1, r2⟩, r3, r4, r5⟩, r6⟩ := hr
 refine Dr.bind (q3v hy (by omega) 10 (by omega) (by omega)) fun v z hv hz => ?_
 by_cases c0 : v = 0
 ·simp only [qf8 c0, q0c]
  refine Dr.bind (qlb hz (by omega) _ (by simp) (by simp)) fun n u hn hu => ?_
  refine Dr.now (fun k => rfl) ⟨?_, r3, r4, r5⟩ (hu.up (by omega))
  have hw : w64 (r.1 + 1) = r.1 + 1 := q5r (by omega) (by omega)
  rw [hw] at hn
  simp only [List.mem_cons, List.not_mem_nil, or_false] at hn
  show -10 ≤ n ∧ n ≤ 2000000
  rcases hn with rfl | rfl | rfl <;> omega
 simp only [qf9 c0, q0w]
 by_cases c1 : v = 1
 ·simp only [qf8 c1, q0c]
  refine Dr.bind (qdh hz (by omega)) fun d u hd hu => ?_
  exact Dr.now (fun k => rfl) ⟨⟨r1, r2⟩, hd, r4, r5⟩ (hu.up (by omega))
 simp only [qf9 c1, q0w]
 by_cases c2 : v = 2
 ·simp only [qf8 c2, q0c]
  refine Dr.bindv (q5b _ (by decide)) ?_
  exact Dr.now (fun k => rfl) ⟨⟨r1, r2⟩, r3, by show (q51 _).size ≤ _; rw [q4c]; omega, r5⟩ (hz.up (by omega))
 simp only [qf9 c2, q0w]
 by_cases c3 : v = 3
 ·simp only [qf8 c3, q0c]
  refine Dr.bindv (q5b _ (by decide)) ?_
  refine Dr.bindv (q5b _ (by decide)) ?_
  have hz64 := q4c (⟨#[122]⟩ : ByteArray)
  have hy64 := q4c (⟨#[121]⟩ : ByteArray)
  have hx63 : ((q51 (⟨#[122]⟩ : ByteArray)).extract (1 : Int).toNat ((q51 (⟨#[122]⟩ : ByteArray)).size : Int).toNat).size ≤ 64 := by
   rw [ByteArray.size_extract]; omega
  have h88 : (⟨#[88]⟩ : ByteArray).size = 1 := rfl
  rw [show (decide ((0 : Int) ≤ 1) && (decide ((1 : Int) ≤ ((q51 (⟨#[122]⟩ : ByteArray)).size : Int)) && decide (((q51 (⟨#[122]⟩ : ByteArray)).size : Int) ≤ ((q51 (⟨#[122]⟩ : ByteArray)).size : Int)))) = true by rw [hz64]; rfl,
   q2r (by omega)]
  simp only [q0c]
  refine Dr.bind (q9r hz (by omega) _ (by simp) (by simp)) fun s u hs hu => ?_
  refine Dr.now (fun k => rfl) ⟨⟨r1, r2⟩, r3, r4, ?_⟩ (hu.up (by omega))
  show s.size ≤ 100
  simp only [List.mem_cons, List.not_mem_nil, or_false] at hs
  rcases hs with rfl | rfl | rfl
  ·decide
  ·omega
  ·rw [ByteArray.size_append]; omega
 simp only [qf9 c3, q0w]
 exact Dr.now (fun k => rfl) ⟨⟨r1, r2⟩, r3, r4, r5⟩ (hz.up (by omega))
theorem q84 (s : List Int) (hs : ∀ b ∈ s, 0 ≤ b ∧ b ≤ 255) : ∃ key r, Al (fun k => q0y.f k s = some (key, r)) ∧ qis key ∧ rlS r := by
 obtain ⟨x, e0, h0⟩ := qh0 s hs
 obtain ⟨key, y, e1, hk, hy⟩ := qla h0 (by omega)
 obtain ⟨r, z, e2, hr, hz⟩ := qb6 key hk hy (by omega)
 obtain ⟨key2, u, e3, hk2, hu⟩ := q9r hz (by omega) [key, key, key, (⟨#[119, 114, 111, 110, 103]⟩ : ByteArray), bz] (by simp) (by simp)
 refine ⟨key2, r, ((e0.and e1).and (e2.and e3)).mono fun k ⟨⟨a0, a1⟩, a2, a3⟩ => ?_, ?_, hr⟩
 ·have a1' : q2k.f k x = some (key, y) := a1
  have a2' : q0u.f k y key = some (r, z) := a2
  have a3' : q0f.f k z [key, key, key, (⟨#[119, 114, 111, 110, 103]⟩ : ByteArray), bz] = some (key2, u) := a3
  simp only [q0y.f_eq, a0, a1', a2', a3', Option.bind_some]
 ·simp only [List.mem_cons, List.not_mem_nil, or_false] at hk2
  rcases hk2 with rfl | rfl | rfl | rfl | rfl
  ·exact hk
  ·exact hk
  ·exact hk
  ·unfold qis; decide
  ·unfold qis; decide
end Go.Proofs.YtnjdoinlnbjedaaGreatDoor.Rf
end

section
/- The law FnReleaseOk is true. -/
namespace Go.Proofs.YtnjdoinlnbjedaaGreatDoor.Rf
open Go Go.RowKit
set_option linter.unusedVariables false
set_option linter.unusedSimpArgs false
theorem qcq (r : Release) : (qdf r).size = (q8d r.1 r.2.1 r.2.2.1).size + 6 + r.2.2.2.size := by
 rw [qdf, size_mk, q40 (q8d _ _ _), q40 r.2.2.2]
 simp only [List.length_append, List.length_cons, List.length_nil]
 omega
theorem q7c (r : Release) (hr : smR r) : Al fun k => q1j.f k r = some (qlg r) := by
 cases h2 : qde r with
 | false => exact (q4n r hr).mono fun k e => by rw [q1j.f_eq, e, h2, Option.bind_some, Bool.not_false, q0c, qlg, h2]; rfl
 | true =>
 obtain ⟨⟨a1, a2⟩, a3, a4, a5, a6⟩ := q67 h2
 have z := q4m a5
 have z5 : (⟨#[115, 101, 97, 108, 32]⟩ : ByteArray).size = 5 := rfl
 refine ((q4n r hr).and (q5u r (by omega) a2 a3 (by rw [q4m a4]; omega))).mono fun k ⟨e, e2⟩ => ?_
 rw [q1j.f_eq, e, h2, Option.bind_some, Bool.not_true, q0w, e2, Option.bind_some, q2r (by omega), q0c, q2r (by rw [ByteArray.size_append]; omega), q0c, q2r (by rw [ByteArray.size_append, ByteArray.size_append, q2p]; omega), q0c, qlg, h2, if_pos rfl]
 refine congrArg some (q6e ?_)
 rw [qdf, q5g]
 simp only [q36, q3y, List.append_assoc]
 rfl
theorem qit (r : Release) (h : r.2.2.2.size = 64) : (qdf r).extract 0 ((qdf r).size - 70) = q8d r.1 r.2.1 r.2.2.1 := by
 refine q6e ?_
 rw [qkz, qcq, h, qdf, q5g]
 have : (q8d r.1 r.2.1 r.2.2.1).size + 6 + 64 - 70 = (bl (q8d r.1 r.2.1 r.2.2.1)).length := by rw [← q40]; omega
 rw [this, List.take_left']
 rfl
theorem qh8 {s : ByteArray} {c : UInt8} (h : s.size = 64) (hc : ¬ s.extract 63 64 = (⟨#[c]⟩ : ByteArray)) : ¬ s.extract 0 63 ++ (⟨#[c]⟩ : ByteArray) = s := by
 intro e
 refine hc (q6e ?_)
 have e2 : bl s = bl (s.extract 0 63) ++ [c] := by rw [← q3y c, ← q36, e]
 rw [q3y, show (64 : Nat) = s.size from h.symm, qk1, e2, List.drop_left']
 rw [qkz, List.length_take, ← q40]
 omega
theorem q85 (s : List Int) (hs : q9o (.row (.int .u8)) s) : ∃ k, q08.f k s = some true := by
 by_cases hl : (s.length : Int) > 1048576
 ·exact ⟨0, by rw [q08.f_eq, decide_eq_true hl, q0c]⟩
 obtain ⟨key, r, e0, hk, hr⟩ := q84 s fun b hb => qm0 (hs.2 b hb)
 unfold qis at hk
 have mr := qm1 hr
 have hI := q52 key r (by omega) mr
 have hS := q7p key r (by omega) mr
 cases h : q9q key r with
 | false =>
  exact ((e0.and (hI.and hS)).mono fun k ⟨a0, a1, a2⟩ => by
   rw [q08.f_eq, decide_eq_false hl, q0w, a0, Option.bind_some]
   dsimp only
   rw [a1, Option.bind_some, a2, Option.bind_some, h]
   simp only [beq_self_eq_true, Bool.not_true, Bool.not_false, q0w, q0c, Option.bind_some]).get
 | true =>
 obtain ⟨h1, h2, h3⟩ := qf5 h
 obtain ⟨⟨a1, a2⟩, a3, a4, a5, a6⟩ := q67 h2
 have z := q4m a5
 have hP := q7c r mr
 rw [qlg, h2, if_pos rfl] at hP
 have hz := qcq r
 have hw : w64 (((qdf r).size : Int) - 70) = (((qdf r).size - 70 : Nat) : Int) := by rw [w64, q5r (by omega) (by omega)]; omega
 have hSeal := q9d key (q8d r.1 r.2.1 r.2.2.1) (by omega) (by omega)
 have fin : ∀ x : ByteArray, x.size ≤ 100 → ¬ x = r.2.2.2 → Al fun k => q08.J13 k key r (qdf r) (r.1, r.2.1, r.2.2.1, x) = some true := fun x hx hne => by
  have hO := q52 key (r.1, r.2.1, r.2.2.1, x) (by omega) ⟨mr.1, mr.2.1, by show x.size ≤ _; omega⟩
  have hf : q9q key (r.1, r.2.1, r.2.2.1, x) = false := by
   unfold q9q
   rw [show (q83 key (q8d (r.1, r.2.1, r.2.2.1, x).1 (r.1, r.2.1, r.2.2.1, x).2.1 (r.1, r.2.1, r.2.2.1, x).2.2.1)) = r.2.2.2 from h3, decide_eq_false (show ¬ r.2.2.2 = x from fun e => hne e.symm)]
   simp
  refine Al.succ ((hSeal.and hO).mono fun k ⟨b1, b2⟩ => ?_)
  rw [q08.J13_eq, hw, decide_eq_true (show (0 : Int) ≤ 0 by omega), decide_eq_true (show (0 : Int) ≤ (((qdf r).size - 70 : Nat) : Int) by omega), decide_eq_true (show (((qdf r).size - 70 : Nat) : Int) ≤ ((qdf r).size : Int) by omega), Bool.and_self, Bool.and_self, q0c,
   show (qdf r).extract (0 : Int).toNat ((((qdf r).size - 70 : Nat) : Int)).toNat = q8d r.1 r.2.1 r.2.2.1 from qit r z, b1, Option.bind_some, q4e, decide_eq_true h3, q0c, b2, hf, Option.bind_some, Bool.not_false]
 have z63 : (r.2.2.2.extract 0 63).size = 63 := by rw [ByteArray.size_extract]; omega
 have j7 : Al fun k => q08.J7 k key r = some true := by
  have q1 : (decide ((0 : Int) ≤ 63) && (decide ((63 : Int) ≤ (r.2.2.2.size : Int)) && decide ((r.2.2.2.size : Int) ≤ (r.2.2.2.size : Int)))) = true := by rw [z]; rfl
  have q2 : (decide ((0 : Int) ≤ 0) && (decide ((0 : Int) ≤ 63) && decide ((63 : Int) ≤ (r.2.2.2.size : Int)))) = true := by rw [z]; rfl
  have q3 : r.2.2.2.extract (0 : Int).toNat (63 : Int).toNat = r.2.2.2.extract 0 63 := rfl
  have q4 : r.2.2.2.extract (63 : Int).toNat (r.2.2.2.size : Int).toNat = r.2.2.2.extract 63 64 := by rw [z]; rfl
  by_cases c : r.2.2.2.extract 63 64 = (⟨#[48]⟩ : ByteArray)
  ·refine Al.succ ((hP.and (fin (r.2.2.2.extract 0 63 ++ (⟨#[49]⟩ : ByteArray)) (by rw [ByteArray.size_append, q2p]; omega) (qh8 z (by rw [c]; decide)))).mono fun k ⟨b1, b2⟩ => ?_)
   rw [q08.J7_eq, b1, Option.bind_some, q1, q0c, q2, q0c, q3, q4, q2r (by rw [q2p]; omega), q0c, q4e, decide_eq_true c, q0c, q0c, q2r (by rw [q2p]; omega), q0c, b2]
  ·refine Al.succ ((hP.and (fin (r.2.2.2.extract 0 63 ++ (⟨#[48]⟩ : ByteArray)) (by rw [ByteArray.size_append, q2p]; omega) (qh8 z c))).mono fun k ⟨b1, b2⟩ => ?_)
   rw [q08.J7_eq, b1, Option.bind_some, q1, q0c, q2, q0c, q3, q4, q2r (by rw [q2p]; omega), q0c, q4e, decide_eq_false c, q0w, b2]
 refine ((e0.and (hI.and hS)).and j7).mono (fun k ⟨⟨a0, a1, a2⟩, a3⟩ => ?_) |>.get
 rw [q08.f_eq, decide_eq_false hl, q0w, a0, Option.bind_some]
 dsimp only
 rw [a1, Option.bind_some, a2, Option.bind_some, h]
 simp only [beq_self_eq_true, Bool.not_true, Bool.not_false, q0w, q0c, Option.bind_some, a3]
end Go.Proofs.YtnjdoinlnbjedaaGreatDoor.Rf
end

section
/- What a row that lists package variables gives, and that these read behind a call as before. -/
namespace Go.Proofs.YtnjdoinlnbjedaaGreatDoor.Frame
open Go.RowKit Go.ChangeShapes
set_option linter.unusedVariables false
theorem tabIs_of_vars {P : Program} {W : World} {name : String} {k : IntKind} {zs : List Int} {g : Nat} {t e : TypeId} {n : Nat}
  (hg : P.globalNamed name = some g) (hty : (P.globals[g]?).map (·.type) = some t) (ht : P.underlying t = some (.array n e)) (he : P.underlying e = some (.int k)) (hce : P.cellsOf e = 1) (hct : P.cellsOf t = n) :
  ∀ (l : List (String × DataW Unit)) (ps : List MemPlace), DataW.LaidVars P W l ps → (name, Lib.tabData k zs) ∈ l → Lib.TabIs P W name k zs
 | [], _, _, hm => by simp at hm
 | (n', d') :: rest, ps, ⟨g', t', cs, fuel, p, q, hg', ht', hvar, hd, hrest, _⟩, hm => by
  rcases List.mem_cons.1 hm with h | h
  ·injection h with h1 h2
   subst h1
   subst h2
   obtain rfl := Option.some.inj (hg.symm.trans hg')
   obtain rfl := Option.some.inj (hty.symm.trans ht')
   unfold Lib.TabIs
   rw [hvar, ← Lib.cells_of_tab ht he hce hct hd]
  ·exact tabIs_of_vars hg hty ht he hce hct rest q hrest h
theorem tabIs_of_mem {P : Program} {W : World} {name : String} {k : IntKind} {zs : List Int} {g : Nat} {t e : TypeId} {n : Nat} {l : List (String × DataW Unit)}
  (hg : P.globalNamed name = some g) (hty : (P.globals[g]?).map (·.type) = some t) (ht : P.underlying t = some (.array n e)) (he : P.underlying e = some (.int k)) (hce : P.cellsOf e = 1) (hct : P.cellsOf t = n)
  (h : laidMet P l W) (hm : (name, Lib.tabData k zs) ∈ l) : Lib.TabIs P W name k zs := by
 obtain ⟨ps, hv, _⟩ := h
 exact tabIs_of_vars hg hty ht he hce hct l ps hv hm
theorem varBelow {P : Program} {W W' : World} {n : String} {cs : Array Value} (h : Below W.heap.size W W') (hv : W.var? P n = some cs) : W'.var? P n = some cs := by
 unfold World.var? at hv ⊢
 cases hg : P.globalNamed n with
 | none => simp [hg] at hv
 | some g =>
  simp only [hg, Option.bind_some] at hv ⊢
  have hlt : g < W.heap.size := by
   rcases Nat.lt_or_ge g W.heap.size with h' | h'
   ·exact h'
   ·rw [Array.getElem?_eq_none h'] at hv
    simp at hv
  rw [h.block g hlt]
  exact hv
theorem trodVars_below {H : Type} {enc : TypeId × Value → H} {P : Program} (hl : laidOutB P = true) {W W' : World} (hb : Below W.heap.size W W') :
  ∀ (vars : List String) (gs : List (DataW H)) (q : List MemPlace), DataW.TrodVars enc P W (fun _ => true) vars gs q →
   (∀ n ∈ vars, ∀ g t, P.globalNamed n = some g → (P.globals[g]?).map (·.type) = some t → P.readableRec t = true ∧ t < P.types.size) →
   ∃ pv, DataW.TrodVars enc P W' (fun b => decide (b < W.heap.size)) vars gs pv
 | [], [], q, h, _ => ⟨q, h⟩
 | [], _ :: _, q, h, _ => by simp [DataW.TrodVars] at h
 | _ :: _, [], q, h, _ => by simp [DataW.TrodVars] at h
 | n :: ns, d :: ds, ps, ⟨g, t, cs, fuel, p, q, hg, ht, hvar, hd, hrest, _⟩, hr => by
  obtain ⟨pv, hpv⟩ := trodVars_below hl hb ns ds q hrest (fun m hm => hr m (List.mem_cons_of_mem _ hm))
  obtain ⟨h1, h2⟩ := hr n List.mem_cons_self g t hg ht
  have hT : DataW.Trod enc P W 0 (fun _ => true) true t (.agg cs) d p := ⟨fuel, hd⟩
  obtain ⟨fuel', hd'⟩ := Below.trod hl h1 h2 hT hb (fun x hx => DataW.trod_lt fuel _ _ _ hd x hx)
  exact ⟨_, g, t, cs, fuel', p, pv, hg, ht, varBelow hb hvar, hd', hpv, rfl⟩
theorem trodVars_cons' {H : Type} {enc : TypeId × Value → H} {P : Program} {W : World} {sp : Nat → Bool} {n : String} {ns : List String} {gs : List (DataW H)} {q : List MemPlace} (h : DataW.TrodVars enc P W sp (n :: ns) gs q) :
  ∃ d ds q', gs = d :: ds ∧ DataW.TrodVars enc P W sp ns ds q' := by
 cases gs with
 | nil => simp [DataW.TrodVars] at h
 | cons d ds =>
  obtain ⟨g, t, cs, fuel, p, q', _, _, _, _, hrest, _⟩ := h
  exact ⟨d, ds, q', rfl, hrest⟩
end Go.Proofs.YtnjdoinlnbjedaaGreatDoor.Frame
end

section
/- 'FnReleaseOk': for every input it returns true and its arguments read as before. Conditions: those of the given row alone (the listed package variables as the program's text lays them). -/
namespace Go.Proofs.YtnjdoinlnbjedaaGreatDoor.fnReleaseOk
open Go.ChangeShapes Go.WideShapes Go.ChangeAt Go.RowKit
open Go.Proofs.YtnjdoinlnbjedaaGreatDoor.Rf Go.Proofs.YtnjdoinlnbjedaaGreatDoor.Frame
set_option linter.unusedVariables false
theorem own : ownKnob Tryz.prog.godebug = none := by kernel_rfl
theorem laidOut : laidOutB Tryz.prog = true := by kernel_rfl
theorem qlc : ∀ n ∈ (["loop.example/medlar/impl.shaStep"] : List String), ∀ g t, Tryz.prog.globalNamed n = some g → (Tryz.prog.globals[g]?).map (·.type) = some t → Tryz.prog.readableRec t = true ∧ t < Tryz.prog.types.size := by
 intro n hn g t hg ht
 simp only [List.mem_cons, List.not_mem_nil, or_false] at hn
 subst hn
 ·obtain rfl := Option.some.inj ((show Tryz.prog.globalNamed "loop.example/medlar/impl.shaStep" = some 0 by kernel_rfl).symm.trans hg)
  obtain rfl := Option.some.inj ((show (Tryz.prog.globals[0]?).map (·.type) = some 138 by kernel_rfl).symm.trans ht)
  exact ⟨by kernel_rfl, of_decide_eq_true (by kernel_rfl)⟩
set_option maxRecDepth 100000 in
theorem contract (H : Type) (enc : TypeId × Value → H) (W : World) (base : Nat) (args : Array Value) (ds gs : List (DataW H)) (before : List MemPlace)
  (hval0 : ∀ (j : Nat) t v, Tryz.f3.params[j]? = some t → args[j]? = some v → Value.okWide Tryz.prog W .any base t v)
  (hW : DataW.Whole enc Tryz.prog Tryz.f3.params.toList Rows.fnReleaseOkSpec.vars false W args.toList ds gs before)
  (hsz0 : (DataW.weightsEach Tryz.prog (Tryz.f3.params.toList ++ (OpenSpec.ofChange Rows.fnReleaseOkSpec).bare.plain.varTypes Tryz.prog) (ds ++ gs)).all (· ≤ reachBytes) = true)
  (hL : laidMetH Tryz.prog Rows.fnReleaseOkRow.laid W) (hsh : W.ShapedOpen Tryz.prog) :
  Calls Tryz.prog 3 args W fun e W' => ∃ v, e = .returned v ∧ Rows.fnReleaseOkSpec.post enc Tryz.prog Tryz.f3 false true false false W args v W' := by
 have hGm : ∃ x : Int, W.cell? ⟨2, 0, none⟩ = some (.int .i64 x) := Go.Proofs.cell_of_shapedOpen_int (zero := #[.int .i64 0]) (t := 3) hsh (of_decide_eq_true (by kernel_rfl)) (by kernel_rfl) rfl (by kernel_rfl) (by kernel_rfl) Tryz.underlying3
 have hGp : Lib.TabIs Tryz.prog W "internal/strconv.uint64pow10" .u64 Lib.pow10Tab := tabIs_of_mem (show Tryz.prog.globalNamed "internal/strconv.uint64pow10" = some 1 by kernel_rfl) (show (Tryz.prog.globals[1]?).map (·.type) = some 198 by kernel_rfl) Tryz.underlying198 Tryz.underlying137 (by kernel_rfl) (by kernel_rfl) hL (by rw [show Lib.tabData .u64 Lib.pow10Tab = Rows.laid_internal_strconv_uint64pow10 from by kernel_rfl]; simp [Rows.fnReleaseOkRow])
 have hGs : Lib.TabIs Tryz.prog W "loop.example/medlar/impl.shaStep" .u32 shaTab := tabIs_of_mem (show Tryz.prog.globalNamed "loop.example/medlar/impl.shaStep" = some 0 by kernel_rfl) (show (Tryz.prog.globals[0]?).map (·.type) = some 138 by kernel_rfl) Tryz.underlying138 Tryz.underlying135 (by kernel_rfl) (by kernel_rfl) hL (by rw [show Lib.tabData .u32 shaTab = Rows.laid_loop_example_medlar_impl_shaStep from by kernel_rfl]; simp [Rows.fnReleaseOkRow])
 have hJ : Jp.J W := ⟨hGm, hGp, hGs⟩
 clear hsh hL
 have hsz := hsz0
 have hval := hval0
 have hW' := hW
 obtain ⟨p, q, hA0, hV, rfl, hfz, hnd⟩ := hW
 have hA : DataW.TrodAll enc Tryz.prog W 0 (fun _ => true) true Tryz.f3.params.toList args.toList ds p := hA0
 rw [Tryz.params3] at hA hval
 obtain ⟨v0, vs0, d0, ds0, p0, q0, hargs, rfl, rfl, h0, r0⟩ := trodAll_cons hA
 obtain ⟨rfl, rfl, rfl⟩ := trodAll_nil r0
 obtain rfl : args = #[v0] := by cases args; simp_all
 have lt0 : ∀ x ∈ p0, x.block < W.heap.size := by obtain ⟨m, hm⟩ := h0; exact DataW.trod_lt m _ _ _ hm
 obtain ⟨x0, o0, G0⟩ := qia (τ := t22) (show q39 Tryz.prog t22 (.inl 22) = true by kernel_rfl) (hval 0 22 v0 rfl rfl) h0
 obtain ⟨gv0, gw0, qv0, rfl, hv0⟩ := trodVars_cons' hV
 obtain ⟨rfl, _⟩ := trodVars_none hv0
 clear hA0 hval0 hsz0
 obtain ⟨k, hk⟩ := q85 x0 G0
 refine (row_of (q08.q k).1 rfl (x := x0) (r := true) hk rfl (Jp_n hJ) hJ rfl ?_).mono fun e W' ⟨he, bel⟩ => ?_
 ·intro i p s hp hs
  match i, hp, hs with
  | 0, _, hs => obtain rfl := Option.some.inj (show some (⟨t22, x0⟩ : Sv) = some s from hs); exact o0
  | i + 1, hp, _ => simp at hp
 subst he
 obtain ⟨pv, hpv⟩ := trodVars_below laidOut bel _ _ _ hV qlc
 exact ⟨_, rfl, _, _, _, [], _, pv, hW', trodAll_mk1 (shut_bool Tryz.underlying4 _), (trodAll_cons_mk (Below.trod laidOut (by kernel_rfl) (of_decide_eq_true (by kernel_rfl)) h0 bel lt0) trodAll_mk0), hpv, bel.frame _, fun h => by cases h⟩
noncomputable def q9h (os : Os) : World := { World.holding Tryz.prog os ⟨#[], #[], []⟩ with heap := (((((((World.holding Tryz.prog os ⟨#[], #[], []⟩).heap.modify 5 fun | .cells _ t frozen => .cells #[.int .u8 0, .int .u8 1, .int .u8 28, .int .u8 2, .int .u8 29, .int .u8 14, .int .u8 24, .int .u8 3, .int .u8 30, .int .u8 22, .int .u8 20, .int .u8 15, .int .u8 25, .int .u8 17, .int .u8 4, .int .u8 8, .int .u8 31, .int .u8 27, .int .u8 13, .int .u8 23, .int .u8 21, .int .u8 19, .int .u8 16, .int .u8 7, .int .u8 26, .int .u8 12, .int .u8 18, .int .u8 6, .int .u8 11, .int .u8 5, .int .u8 10, .int .u8 9] t frozen | o => o).modify 6 fun | .cells _ t frozen => .cells #[.int .u8 0, .int .u8 1, .int .u8 56, .int .u8 2, .int .u8 57, .int .u8 49, .int .u8 28, .int .u8 3, .int .u8 61, .int .u8 58, .int .u8 42, .int .u8 50, .int .u8 38, .int .u8 29, .int .u8 17, .int .u8 4, .int .u8 62, .int .u8 47, .int .u8 59, .int .u8 36, .int .u8 45, .int .u8 43, .int .u8 51, .int .u8 22, .int .u8 53, .int .u8 39, .int .u8 33, .int .u8 30, .int .u8 24, .int .u8 18, .int .u8 12, .int .u8 5, .int .u8 63, .int .u8 55, .int .u8 48, .int .u8 27, .int .u8 60, .int .u8 41, .int .u8 37, .int .u8 16, .int .u8 46, .int .u8 35, .int .u8 44, .int .u8 21, .int .u8 52, .int .u8 32, .int .u8 23, .int .u8 11, .int .u8 54, .int .u8 26, .int .u8 40, .int .u8 15, .int .u8 34, .int .u8 20, .int .u8 31, .int .u8 10, .int .u8 25, .int .u8 14, .int .u8 19, .int .u8 9, .int .u8 13, .int .u8 8, .int .u8 7, .int .u8 6] t frozen | o => o).modify 1 fun | .cells _ t frozen => .cells #[.int .u64 1, .int .u64 10, .int .u64 100, .int .u64 1000, .int .u64 10000, .int .u64 100000, .int .u64 1000000, .int .u64 10000000, .int .u64 100000000, .int .u64 1000000000, .int .u64 10000000000, .int .u64 100000000000, .int .u64 1000000000000, .int .u64 10000000000000, .int .u64 100000000000000, .int .u64 1000000000000000, .int .u64 10000000000000000, .int .u64 100000000000000000, .int .u64 1000000000000000000, .int .u64 10000000000000000000] t frozen | o => o).modify 4 fun | .cells _ t frozen => .cells #[.int .u8 128, .int .u8 191, .int .u8 160, .int .u8 191, .int .u8 128, .int .u8 159, .int .u8 144, .int .u8 191, .int .u8 128, .int .u8 143, .int .u8 0, .int .u8 0, .int .u8 0, .int .u8 0, .int .u8 0, .int .u8 0, .int .u8 0, .int .u8 0, .int .u8 0, .int .u8 0, .int .u8 0, .int .u8 0, .int .u8 0, .int .u8 0, .int .u8 0, .int .u8 0, .int .u8 0, .int .u8 0, .int .u8 0, .int .u8 0, .int .u8 0, .int .u8 0] t frozen | o => o).modify 0 fun | .cells _ t frozen => .cells #[.int .u32 1116352408, .int .u32 1899447441, .int .u32 3049323471, .int .u32 3921009573, .int .u32 961987163, .int .u32 1508970993, .int .u32 2453635748, .int .u32 2870763221, .int .u32 3624381080, .int .u32 310598401, .int .u32 607225278, .int .u32 1426881987, .int .u32 1925078388, .int .u32 2162078206, .int .u32 2614888103, .int .u32 3248222580, .int .u32 3835390401, .int .u32 4022224774, .int .u32 264347078, .int .u32 604807628, .int .u32 770255983, .int .u32 1249150122, .int .u32 1555081692, .int .u32 1996064986, .int .u32 2554220882, .int .u32 2821834349, .int .u32 2952996808, .int .u32 3210313671, .int .u32 3336571891, .int .u32 3584528711, .int .u32 113926993, .int .u32 338241895, .int .u32 666307205, .int .u32 773529912, .int .u32 1294757372, .int .u32 1396182291, .int .u32 1695183700, .int .u32 1986661051, .int .u32 2177026350, .int .u32 2456956037, .int .u32 2730485921, .int .u32 2820302411, .int .u32 3259730800, .int .u32 3345764771, .int .u32 3516065817, .int .u32 3600352804, .int .u32 4094571909, .int .u32 275423344, .int .u32 430227734, .int .u32 506948616, .int .u32 659060556, .int .u32 883997877, .int .u32 958139571, .int .u32 1322822218, .int .u32 1537002063, .int .u32 1747873779, .int .u32 1955562222, .int .u32 2024104815, .int .u32 2227730452, .int .u32 2361852424, .int .u32 2428436474, .int .u32 2756734187, .int .u32 3204031479, .int .u32 3329325298] t frozen | o => o).modify 3 fun | .cells _ t frozen => .cells #[.int .u8 240, .int .u8 240, .int .u8 240, .int .u8 240, .int .u8 240, .int .u8 240, .int .u8 240, .int .u8 240, .int .u8 240, .int .u8 240, .int .u8 240, .int .u8 240, .int .u8 240, .int .u8 240, .int .u8 240, .int .u8 240, .int .u8 240, .int .u8 240, .int .u8 240, .int .u8 240, .int .u8 240, .int .u8 240, .int .u8 240, .int .u8 240, .int .u8 240, .int .u8 240, .int .u8 240, .int .u8 240, .int .u8 240, .int .u8 240, .int .u8 240, .int .u8 240, .int .u8 240, .int .u8 240, .int .u8 240, .int .u8 240, .int .u8 240, .int .u8 240, .int .u8 240, .int .u8 240, .int .u8 240, .int .u8 240, .int .u8 240, .int .u8 240, .int .u8 240, .int .u8 240, .int .u8 240, .int .u8 240, .int .u8 240, .int .u8 240, .int .u8 240, .int .u8 240, .int .u8 240, .int .u8 240, .int .u8 240, .int .u8 240, .int .u8 240, .int .u8 240, .int .u8 240, .int .u8 240, .int .u8 240, .int .u8 240, .int .u8 240, .int .u8 240, .int .u8 240, .int .u8 240, .int .u8 240, .int .u8 240, .int .u8 240, .int .u8 240, .int .u8 240, .int .u8 240, .int .u8 240, .int .u8 240, .int .u8 240, .int .u8 240, .int .u8 240, .int .u8 240, .int .u8 240, .int .u8 240, .int .u8 240, .int .u8 240, .int .u8 240, .int .u8 240, .int .u8 240, .int .u8 240, .int .u8 240, .int .u8 240, .int .u8 240, .int .u8 240, .int .u8 240, .int .u8 240, .int .u8 240, .int .u8 240, .int .u8 240, .int .u8 240, .int .u8 240, .int .u8 240, .int .u8 240, .int .u8 240, .int .u8 240, .int .u8 240, .int .u8 240, .int .u8 240, .int .u8 240, .int .u8 240, .int .u8 240, .int .u8 240, .int .u8 240, .int .u8 240, .int .u8 240, .int .u8 240, .int .u8 240, .int .u8 240, .int .u8 240, .int .u8 240, .int .u8 240, .int .u8 240, .int .u8 240, .int .u8 240, .int .u8 240, .int .u8 240, .int .u8 240, .int .u8 240, .int .u8 240, .int .u8 240, .int .u8 240, .int .u8 240, .int .u8 241, .int .u8 241, .int .u8 241, .int .u8 241, .int .u8 241, .int .u8 241, .int .u8 241, .int .u8 241, .int .u8 241, .int .u8 241, .int .u8 241, .int .u8 241, .int .u8 241, .int .u8 241, .int .u8 241, .int .u8 241, .int .u8 241, .int .u8 241, .int .u8 241, .int .u8 241, .int .u8 241, .int .u8 241, .int .u8 241, .int .u8 241, .int .u8 241, .int .u8 241, .int .u8 241, .int .u8 241, .int .u8 241, .int .u8 241, .int .u8 241, .int .u8 241, .int .u8 241, .int .u8 241, .int .u8 241, .int .u8 241, .int .u8 241, .int .u8 241, .int .u8 241, .int .u8 241, .int .u8 241, .int .u8 241, .int .u8 241, .int .u8 241, .int .u8 241, .int .u8 241, .int .u8 241, .int .u8 241, .int .u8 241, .int .u8 241, .int .u8 241, .int .u8 241, .int .u8 241, .int .u8 241, .int .u8 241, .int .u8 241, .int .u8 241, .int .u8 241, .int .u8 241, .int .u8 241, .int .u8 241, .int .u8 241, .int .u8 241, .int .u8 241, .int .u8 241, .int .u8 241, .int .u8 2, .int .u8 2, .int .u8 2, .int .u8 2, .int .u8 2, .int .u8 2, .int .u8 2, .int .u8 2, .int .u8 2, .int .u8 2, .int .u8 2, .int .u8 2, .int .u8 2, .int .u8 2, .int .u8 2, .int .u8 2, .int .u8 2, .int .u8 2, .int .u8 2, .int .u8 2, .int .u8 2, .int .u8 2, .int .u8 2, .int .u8 2, .int .u8 2, .int .u8 2, .int .u8 2, .int .u8 2, .int .u8 2, .int .u8 2, .int .u8 19, .int .u8 3, .int .u8 3, .int .u8 3, .int .u8 3, .int .u8 3, .int .u8 3, .int .u8 3, .int .u8 3, .int .u8 3, .int .u8 3, .int .u8 3, .int .u8 3, .int .u8 35, .int .u8 3, .int .u8 3, .int .u8 52, .int .u8 4, .int .u8 4, .int .u8 4, .int .u8 68, .int .u8 241, .int .u8 241, .int .u8 241, .int .u8 241, .int .u8 241, .int .u8 241, .int .u8 241, .int .u8 241, .int .u8 241, .int .u8 241, .int .u8 241] t frozen | o => o) }
set_option maxRecDepth 100000 in
theorem qiu (os : Os) : laidMet Tryz.prog Rows.fnReleaseOkRow.laid ((q9h os).forCall (fun _ _ => 0) ⟨#[], #[.slice none 0 0], []⟩).memory :=
 laidMet_of_run' 12 (by kernel_rfl) (by kernel_rfl)
set_option maxRecDepth 100000 in
theorem reads (os : Os) {H : Type} (enc : TypeId × Value → H) : ∃ x, DataW.whole enc Tryz.prog ((q9h os).forCall (fun _ _ => 0) ⟨#[], #[.slice none 0 0], []⟩).memory Tryz.f3.params.toList Rows.fnReleaseOkSpec.vars false #[(.slice none 0 0 : Value)].toList 12 = some x :=
 Option.isSome_iff_exists.1 (by kernel_rfl)
set_option maxRecDepth 100000 in
theorem lifted (os : Os) (started : os.Started) (H : Type) (enc : TypeId × Value → H) (F : Stop.Interp) :
  ReturnsInHanded {} Tryz.checked os 3 .any ((OpenSpec.ofChange Rows.fnReleaseOkSpec).preRow enc Tryz.prog Tryz.f3 Rows.fnReleaseOkRow.domain false Rows.fnReleaseOkRow.laid) (((OpenSpec.ofChange Rows.fnReleaseOkSpec).at F).post enc Tryz.prog Tryz.f3 false true false false) := by
 obtain ⟨x, hx⟩ := reads os enc
 refine returnsInHanded_of_row (C := Tryz.checked) (s := OpenSpec.ofChange Rows.fnReleaseOkSpec) own started (by kernel_rfl) Tryz.func3
  (witness_row_at (enc := enc) (C := Tryz.checked) false (q9h os) #[.slice none 0 0] rfl (by kernel_rfl) (by kernel_rfl) (by kernel_rfl)
   (OpenSpec.preRow_of_cond 12 (x := x) hx (by kernel_rfl) (fun k hk => by cases hk) (by kernel_rfl) (qiu os))) ?_
 intro W base args ds gs before hval hW _ _ hsz hL hsh _
 exact contract H enc W base args ds gs before hval hW hsz hL hsh
theorem said : Rows.FnReleaseOkSaid :=
 OpenClaim.holds_of_cond 3 Tryz.f3 rfl rfl rfl rfl rfl rfl rfl ⟨rfl, rfl, rfl, rfl, rfl⟩ rfl rfl rfl rfl rfl (by kernel_rfl) Tryz.func3 (by kernel_rfl)
  (of_decide_eq_true (by kernel_rfl)) (by unfold Func.isWrapper; first | (rw [if_pos (by decide +kernel)]; kernel_rfl) | (rw [if_neg (by decide +kernel)]; exact ⟨rfl, rfl⟩))
  (fun os started H enc _ F => by rw [OpenClaim.pre_eq_preRow]; exact lifted os started H enc F)
theorem plain (f : FuncId) (fn : Func) (hf : Tryz.pinned.checked.prog.funcNamed "loop.example/medlar/laws.FnReleaseOk" = some f) (hfn : Tryz.pinned.checked.prog.funcs[f]? = some fn) :
  false = Tryz.pinned.checked.prog.looks [] ∧ ∀ (j : Nat) t, fn.params[j]? = some t → Tryz.pinned.checked.prog.wantsStandIn t = false := by
 obtain rfl : f = 3 := Option.some.inj ((show Tryz.prog.funcNamed "loop.example/medlar/laws.FnReleaseOk" = some 3 by kernel_rfl).symm.trans hf) |>.symm
 obtain rfl : fn = Tryz.f3 := (Option.some.inj (Tryz.func3.symm.trans hfn)).symm
 refine ⟨by kernel_rfl, fun j t ht => ?_⟩
 rw [Tryz.params3] at ht
 have hm := Array.mem_of_getElem? ht
 simp only [List.mem_toArray, List.mem_cons, List.not_mem_nil, or_false] at hm
 subst hm
 ·exact (show Tryz.prog.wantsStandIn 22 = false by kernel_rfl)
theorem card : Rows.FnReleaseOkCardSaid :=
 Claim7.holds_tied_plain_at .later [] _ _ _ _ said (fun _ h => by cases h) (by kernel_rfl) (fun _ h => by cases h) fnReleaseOk_row_tie rfl ⟨rfl, rfl⟩ (by kernel_rfl) rfl plain (by kernel_rfl)
end Go.Proofs.YtnjdoinlnbjedaaGreatDoor.fnReleaseOk
namespace Go.Proofs.YtnjdoinlnbjedaaGreatDoor
theorem fnReleaseOk_holds : Rows.FnReleaseOkCardSaid := fnReleaseOk.card
end Go.Proofs.YtnjdoinlnbjedaaGreatDoor
end
