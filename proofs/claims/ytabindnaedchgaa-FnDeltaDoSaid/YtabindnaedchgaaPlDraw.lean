/- The reader that draws: what it picks stays in its range. -/
import Derived.Test.YtabindnaedchgaaPlDelta
import Derived.Laws.BitsLemmas
namespace Go.Proofs.Ytabindnaedchgaa.Rf
open Go Go.RowKit
set_option linter.unusedVariables false
set_option linter.unusedSimpArgs false
abbrev Rdr := List Int × Int
/-- the reader stands at m at most -/
def Rd (m : Int) (x : Rdr) : Prop := ((∀ b ∈ x.1, 0 ≤ b ∧ b ≤ 255) ∧ x.1.length ≤ 2000) ∧ 0 ≤ x.2 ∧ x.2 ≤ m
theorem Rd.up {m n : Int} {x : Rdr} (h : Rd m x) (k : m ≤ n) : Rd n x := ⟨h.1, h.2.1, Int.le_trans h.2.2 k⟩
/-- it draws, and what comes is as P says; the reader stands at m at most -/
def Dr {α : Type} (X : Nat → Option (α × Rdr)) (m : Int) (P : α → Prop) : Prop := ∃ v x', Al (fun k => X k = some (v, x')) ∧ P v ∧ Rd m x'
theorem Dr.up {α : Type} {X : Nat → Option (α × Rdr)} {m n : Int} {P Q : α → Prop} (h : Dr X m P) (k : m ≤ n) (f : ∀ v, P v → Q v) : Dr X n Q := by
  obtain ⟨v, x, e, p, r⟩ := h
  exact ⟨v, x, e, f v p, r.up k⟩
theorem Dr.congr {α : Type} {X Y : Nat → Option (α × Rdr)} {m : Int} {P : α → Prop} (e : ∀ k, Y k = X k) (h : Dr X m P) : Dr Y m P := by
  obtain rfl : Y = X := funext e
  exact h
theorem Dr.now {α : Type} {X : Nat → Option (α × Rdr)} {v : α} {x : Rdr} {m : Int} {P : α → Prop} (e : ∀ k, X k = some (v, x)) (hp : P v) (hr : Rd m x) : Dr X m P := ⟨v, x, Al.now e, hp, hr⟩
theorem Dr.bind {α β : Type} {X : Nat → Option (α × Rdr)} {g : Nat → α × Rdr → Option (β × Rdr)} {m n : Int} {P : α → Prop} {Q : β → Prop} (h : Dr X m P) (k : ∀ v x, P v → Rd m x → Dr (fun k => g k (v, x)) n Q) : Dr (fun k => (X k).bind (g k)) n Q := by
  obtain ⟨v, x, e, p, r⟩ := h
  obtain ⟨w, y, e2, q, s⟩ := k v x p r
  exact ⟨w, y, (e.and e2).mono fun k ⟨a, b⟩ => by show (X k).bind (g k) = _; rw [a, Option.bind_some]; exact b, q, s⟩
theorem Dr.bindv {γ β : Type} {X : Nat → Option γ} {g : Nat → γ → Option (β × Rdr)} {n : Int} {Q : β → Prop} {v : γ} (h : Al fun k => X k = some v) (k : Dr (fun k => g k v) n Q) : Dr (fun k => (X k).bind (g k)) n Q := by
  obtain ⟨w, y, e2, q, s⟩ := k
  exact ⟨w, y, (h.and e2).mono fun k ⟨a, b⟩ => by show (X k).bind (g k) = _; rw [a, Option.bind_some]; exact b, q, s⟩
theorem Dr.succ {α : Type} {X : Nat → Option (α × Rdr)} {m : Int} {P : α → Prop} (h : Dr (fun k => X (k + 1)) m P) : Dr X m P := by
  obtain ⟨v, x, e, r⟩ := h
  exact ⟨v, x, Al.succ e, r⟩
def Dr2 {α : Type} (X : Nat → Nat → Option (α × Rdr)) (m : Int) (P : α → Prop) : Prop := ∃ v x', Al2 (fun k k1 => X k k1 = some (v, x')) ∧ P v ∧ Rd m x'
theorem Dr2.congr {α : Type} {X Y : Nat → Nat → Option (α × Rdr)} {m : Int} {P : α → Prop} (e : ∀ k k1, Y k k1 = X k k1) (h : Dr2 X m P) : Dr2 Y m P := by
  obtain rfl : Y = X := funext fun k => funext (e k)
  exact h
theorem Dr2.up {α : Type} {X : Nat → Nat → Option (α × Rdr)} {m n : Int} {P Q : α → Prop} (h : Dr2 X m P) (k : m ≤ n) (f : ∀ v, P v → Q v) : Dr2 X n Q := by
  obtain ⟨v, x, e, p, r⟩ := h
  exact ⟨v, x, e, f v p, r.up k⟩
theorem Dr2.now {α : Type} {X : Nat → Nat → Option (α × Rdr)} {v : α} {x : Rdr} {m : Int} {P : α → Prop} (e : ∀ k k1, X k k1 = some (v, x)) (hp : P v) (hr : Rd m x) : Dr2 X m P := ⟨v, x, Al2.now e, hp, hr⟩
theorem Dr2.bind {α β : Type} {X : Nat → Nat → Option (α × Rdr)} {g : Nat → Nat → α × Rdr → Option (β × Rdr)} {m n : Int} {P : α → Prop} {Q : β → Prop} (h : Dr2 X m P) (k : ∀ v x, P v → Rd m x → Dr2 (fun k k1 => g k k1 (v, x)) n Q) : Dr2 (fun k k1 => (X k k1).bind (g k k1)) n Q := by
  obtain ⟨v, x, e, p, r⟩ := h
  obtain ⟨w, y, e2, q, s⟩ := k v x p r
  exact ⟨w, y, (e.and e2).mono fun k k1 ⟨a, b⟩ => by show (X k k1).bind (g k k1) = _; rw [a, Option.bind_some]; exact b, q, s⟩
theorem Dr2.bindv {γ β : Type} {X : Nat → Nat → Option γ} {g : Nat → Nat → γ → Option (β × Rdr)} {n : Int} {Q : β → Prop} {v : γ} (h : Al2 fun k k1 => X k k1 = some v) (k : Dr2 (fun k k1 => g k k1 v) n Q) : Dr2 (fun k k1 => (X k k1).bind (g k k1)) n Q := by
  obtain ⟨w, y, e2, q, s⟩ := k
  exact ⟨w, y, (h.and e2).mono fun k k1 ⟨a, b⟩ => by show (X k k1).bind (g k k1) = _; rw [a, Option.bind_some]; exact b, q, s⟩
theorem Dr2.succ {α : Type} {X : Nat → Nat → Option (α × Rdr)} {m : Int} {P : α → Prop} (h : Dr2 (fun k k1 => X k (k1 + 1)) m P) : Dr2 X m P := by
  obtain ⟨v, x, e, r⟩ := h
  exact ⟨v, x, Al2.succ e, r⟩
theorem Dr2.diag {α : Type} {X : Nat → Nat → Option (α × Rdr)} {m : Int} {P : α → Prop} (h : Dr2 X m P) : Dr (fun k => X k k) m P := by
  obtain ⟨v, x, e, r⟩ := h
  exact ⟨v, x, e.diag, r⟩
theorem Dr.fst {α : Type} {X : Nat → Option (α × Rdr)} {m : Int} {P : α → Prop} (h : Dr X m P) : Dr2 (fun k _ => X k) m P := by
  obtain ⟨v, x, e, r⟩ := h
  exact ⟨v, x, e.fst, r⟩
theorem Dr.snd {α : Type} {X : Nat → Option (α × Rdr)} {m : Int} {P : α → Prop} (h : Dr X m P) : Dr2 (fun _ k => X k) m P := by
  obtain ⟨v, x, e, r⟩ := h
  exact ⟨v, x, e.snd, r⟩
theorem xor_nn (a b : Nat) (ha : a < 2 ^ 62) (hb : b < 2 ^ 62) : 0 ≤ IntKind.i64.wrap ((BitVec.ofInt 64 (a : Int) ^^^ BitVec.ofInt 64 (b : Int)).toNat : Int) := by
  have h2 : (2 : Nat) ^ 62 ≤ 2 ^ 64 := by decide
  have ha' : a % 2 ^ 64 = a := Nat.mod_eq_of_lt (Nat.lt_of_lt_of_le ha h2)
  have hb' : b % 2 ^ 64 = b := Nat.mod_eq_of_lt (Nat.lt_of_lt_of_le hb h2)
  have e1 : (BitVec.ofInt 64 (a : Int)).toNat = a := by rw [BitVec.ofInt_natCast, BitVec.toNat_ofNat]; exact ha'
  have e2 : (BitVec.ofInt 64 (b : Int)).toNat = b := by rw [BitVec.ofInt_natCast, BitVec.toNat_ofNat]; exact hb'
  rw [BitVec.toNat_xor, e1, e2]
  have h3 : a ^^^ b < 4611686018427387904 := Nat.lt_of_lt_of_eq (Nat.xor_lt_two_pow ha hb) (by decide)
  generalize a ^^^ b = X at h3
  rw [w_id (by omega) (by omega)]
  omega
theorem xor_ge (a b : Int) (ha : 0 ≤ a) (hb : 0 ≤ b) (ha1 : a < 2 ^ 62) (hb1 : b < 2 ^ 62) : 0 ≤ IntKind.i64.wrap ((BitVec.ofInt 64 a ^^^ BitVec.ofInt 64 b).toNat : Int) := by
  obtain ⟨m, rfl⟩ := Int.eq_ofNat_of_zero_le ha
  obtain ⟨n, rfl⟩ := Int.eq_ofNat_of_zero_le hb
  exact xor_nn m n (by exact_mod_cast ha1) (by exact_mod_cast hb1)
theorem Rd.at {m : Int} {x : Rdr} (h : Rd m x) (i : Nat) : 0 ≤ x.1.getD i (0 : Int) ∧ x.1.getD i (0 : Int) ≤ 255 := by
  rw [List.getD_eq_getElem?_getD]
  cases e : x.1[i]? with
  | none => simp
  | some b => exact h.1.1 b (List.mem_of_getElem? e)
theorem l1Open_al (s : List Int) (hs : ∀ b ∈ s, 0 ≤ b ∧ b ≤ 255) : ∃ x, Al (fun k => spec_l1Open.f k s = some x) ∧ Rd 0 x := by
  by_cases c : (s.length : Int) > 2000
  · refine ⟨((s.take (2000 : Int).toNat).drop (0 : Int).toNat, 0), Al.succ (Al.now fun k => ?_), ⟨fun b hb => hs b (List.mem_of_mem_take (List.mem_of_mem_drop hb)), ?_⟩, Int.le_refl _, Int.le_refl _⟩
    · rw [spec_l1Open.f_eq, decide_eq_true c, ifb_t, spec_l1Open.J3_eq]
      rw [decide_eq_true (by omega), decide_eq_true (by omega), decide_eq_true (by omega)]
      simp only [Bool.and_self, ifb_t]
    · simp only [List.length_drop, List.length_take]; omega
  · refine ⟨(s, 0), Al.succ (Al.now fun k => ?_), ⟨hs, show s.length ≤ 2000 by omega⟩, Int.le_refl _, Int.le_refl _⟩
    rw [spec_l1Open.f_eq, decide_eq_false c, ifb_f, spec_l1Open.J3_eq]
theorem pick_dr {m : Int} {x : Rdr} (h : Rd m x) (hm : m ≤ 1000000000) (n : Int) (n1 : 1 ≤ n) (n2 : n ≤ 1000000) : Dr (fun k => spec_l1Rd__pick.f k x n) (m + 1) fun v => 0 ≤ v ∧ v < n := by
  obtain ⟨hs, hp0, hp1⟩ := h
  have hat := Rd.at (x := x) (m := m) ⟨hs, hp0, hp1⟩
  obtain ⟨s, p⟩ := x
  simp only at hp0 hp1 hat hs
  have w1 : w64 (p + 1) = p + 1 := w_id (by omega) (by omega)
  have w2 : w64 (p + 1 - 1) = p := by rw [show p + 1 - 1 = p by omega]; exact w_id (by omega) (by omega)
  have R : Rd (m + 1) (s, p + 1) := ⟨hs, by omega, by omega⟩
  have c : decide (n < 1) = false := decide_eq_false (by omega)
  have n0 : decide (n ≠ 0) = true := decide_eq_true (by omega)
  by_cases z : s.length = 0
  · refine ⟨0, (s, p + 1), Al.now fun k => ?_, ⟨Int.le_refl _, by omega⟩, R⟩
    show spec_l1Rd__pick.f k (s, p) n = _
    rw [spec_l1Rd__pick.f_eq]
    simp only [c, ifb_f, w1, z]
    rw [show (((0 : Nat) : Int) == 0) = true from rfl, ifb_t]
  have z1 : ((s.length : Int) == 0) = false := by rw [beq_eq_false_iff_ne]; omega
  have tm : ∀ x : Int, 0 ≤ x → 0 ≤ Int.tmod x n ∧ Int.tmod x n < n := fun x hx => ⟨Int.tmod_nonneg _ hx, Int.tmod_lt_of_pos _ (by omega)⟩
  by_cases q : p < (s.length : Int)
  · have r0 := hat p.toNat
    have w3 : w64 (s.getD p.toNat 0) = s.getD p.toNat 0 := w_id (by omega) (by omega)
    refine ⟨_, (s, p + 1), Al.now fun k => ?_, tm _ r0.1, R⟩
    show spec_l1Rd__pick.f k (s, p) n = _
    rw [spec_l1Rd__pick.f_eq]
    simp only [c, ifb_f, w1, w2, z1, decide_eq_true q, decide_eq_true hp0, Bool.and_self, ifb_t, n0, w3]
  · have hl := hs.2
    have l0 : decide ((s.length : Int) ≠ 0) = true := decide_eq_true (by omega)
    have m1 : 0 ≤ Int.tmod p (s.length : Int) ∧ Int.tmod p (s.length : Int) < (s.length : Int) := ⟨Int.tmod_nonneg _ hp0, Int.tmod_lt_of_pos _ (by omega)⟩
    have w7 : w64 (p * 7) = p * 7 := w_id (by omega) (by omega)
    have w8 : w64 (p * 7 + 3) = p * 7 + 3 := w_id (by omega) (by omega)
    have m2 : 0 ≤ Int.tmod (p * 7 + 3) (s.length : Int) ∧ Int.tmod (p * 7 + 3) (s.length : Int) < (s.length : Int) := ⟨Int.tmod_nonneg _ (by omega), Int.tmod_lt_of_pos _ (by omega)⟩
    generalize hA : Int.tmod p (s.length : Int) = A at m1
    generalize hB : Int.tmod (p * 7 + 3) (s.length : Int) = B at m2
    have ra := hat A.toNat
    have rb := hat B.toNat
    generalize hX : s.getD A.toNat (0 : Int) = X at ra
    generalize hY : s.getD B.toNat (0 : Int) = Y at rb
    have hd : 0 ≤ Int.tdiv p (s.length : Int) ∧ Int.tdiv p (s.length : Int) ≤ p := by
      refine ⟨Int.tdiv_nonneg hp0 (by omega), ?_⟩
      rw [Int.tdiv_eq_ediv_of_nonneg hp0]
      exact Int.ediv_le_self _ hp0
    generalize hD : Int.tdiv p (s.length : Int) = D at hd
    have v1 : w64 X = X := w_id (by omega) (by omega)
    have v2 : w64 (X * 131) = X * 131 := w_id (by omega) (by omega)
    have v3 : w64 Y = Y := w_id (by omega) (by omega)
    have v4 : w64 (Y * 1117) = Y * 1117 := w_id (by omega) (by omega)
    have v5 : w64 (X * 131 + Y * 1117) = X * 131 + Y * 1117 := w_id (by omega) (by omega)
    have v6 : w64 (p * 29) = p * 29 := w_id (by omega) (by omega)
    have v7 : w64 (X * 131 + Y * 1117 + p * 29) = X * 131 + Y * 1117 + p * 29 := w_id (by omega) (by omega)
    have v8 : w64 D = D := w_id (by omega) (by omega)
    have v9 : w64 (D * 53) = D * 53 := w_id (by omega) (by omega)
    have v10 : w64 (X * 131 + Y * 1117 + p * 29 + D * 53) = X * 131 + Y * 1117 + p * 29 + D * 53 := w_id (by omega) (by omega)
    have hS0 : 0 ≤ X * 131 + Y * 1117 + p * 29 + D * 53 ∧ X * 131 + Y * 1117 + p * 29 + D * 53 ≤ 1000000000000 := by omega
    have e0 : ∀ k, spec_l1Rd__pick.f k (s, p) n = spec_l1Rd__pick.J8 k (s, p + 1) n (X * 131 + Y * 1117 + p * 29 + D * 53) := by
      intro k
      rw [spec_l1Rd__pick.f_eq]
      simp only [c, ifb_f, w1, w2, z1, decide_eq_false q, l0, ifb_t, hA, w7, w8, hB, decide_eq_true m1.1, decide_eq_true m1.2, decide_eq_true m2.1, decide_eq_true m2.2, Bool.and_self, hX, hY, hD, v1, v2, v3, v4, v5, v6, v7, v8, v9, v10]
    generalize X * 131 + Y * 1117 + p * 29 + D * 53 = S at e0 hS0
    have hq : 0 ≤ Int.tdiv S 64 ∧ Int.tdiv S 64 ≤ S := by
      refine ⟨Int.tdiv_nonneg hS0.1 (by omega), ?_⟩
      rw [Int.tdiv_eq_ediv_of_nonneg hS0.1]
      exact Int.ediv_le_self _ hS0.1
    have v11 : w64 (Int.tdiv S 64) = Int.tdiv S 64 := w_id (by omega) (by omega)
    have hx := xor_ge S (Int.tdiv S 64) hS0.1 hq.1 (by omega) (by omega)
    refine ⟨_, (s, p + 1), Al.succ (Al.now fun k => ?_), tm _ hx, R⟩
    show spec_l1Rd__pick.f _ (s, p) n = _
    rw [e0, spec_l1Rd__pick.J8_eq]
    simp only [n0, v11, ifb_t, show decide ((64 : Int) ≠ 0) = true from rfl]
theorem of_dr {m : Int} {x : Rdr} (h : Rd m x) (hm : m ≤ 1000000000) (l : List ByteArray) (l1 : 1 ≤ l.length) (l2 : l.length ≤ 1000000) : Dr (fun k => spec_l1Rd__of.f k x l) (m + 1) fun v => v ∈ l := by
  obtain ⟨v, x', e, ⟨p0, p1⟩, r⟩ := pick_dr h hm (l.length : Int) (by omega) (by omega)
  have hv : v.toNat < l.length := by omega
  refine ⟨l.getD v.toNat bz, x', e.mono fun k e => ?_, ?_, r⟩
  · have e' : spec_l1Rd__pick.f k x (l.length : Int) = some (v, x') := e
    show spec_l1Rd__of.f k x l = _
    rw [spec_l1Rd__of.f_eq, e', Option.bind_some]
    simp only [decide_eq_true p0, decide_eq_true p1, Bool.and_self, ifb_t]
  · rw [List.getD_eq_getElem?_getD, List.getElem?_eq_getElem hv]
    exact List.getElem_mem hv
/-! ### Words -/
theorem mem_size {l : List ByteArray} {n : Nat} (h : ∀ s ∈ l, s.size ≤ n) {s : ByteArray} (hs : s ∈ l) : s.size ≤ n := h s hs
theorem least_al (a b : Int) : Al fun k => spec_l1Least.f k a b = some (if a < b then a else b) := Al.now fun k => by
  rw [spec_l1Least.f_eq]
  by_cases h : a < b
  · rw [decide_eq_true h, ifb_t, if_pos h]
  · rw [decide_eq_false h, ifb_f, if_neg h]
/-- of at most n bytes, the first of them no w -/
def noW (n : Nat) (s : ByteArray) : Prop := s.size ≤ n ∧ (bl s).head? ≠ some 119
theorem noW_app {a b : ByteArray} {n m : Nat} (h : noW n a) (k : noW m b) : noW (n + m) (a ++ b) := by
  refine ⟨by rw [ByteArray.size_append]; exact Nat.add_le_add h.1 k.1, ?_⟩
  have e : bl (a ++ b) = bl a ++ bl b := by simp [bl]
  rw [e]
  cases ha : bl a with
  | nil => exact k.2
  | cons x t => have := h.2; rw [ha] at this; simpa using this
theorem noW_cut {a : ByteArray} {n j : Nat} (h : noW n a) (hj : j ≤ a.size) : noW j (a.extract 0 j) := by
  refine ⟨by simp; omega, ?_⟩
  have e : bl (a.extract 0 j) = (bl a).take j := by simp [bl]
  rw [e]
  cases ha : bl a with
  | nil => simp
  | cons x t =>
    cases j with
    | zero => simp
    | succ j => have := h.2; rw [ha] at this; simpa using this
theorem word_dr {m : Int} {x : Rdr} (h : Rd m x) (hm : m ≤ 900000000) : Dr (fun k => spec_l13Word.f k x) (m + 12) (noW 12) := by
  have two : ∀ (n : Nat) (m : Int) (x : Rdr) (s : ByteArray), Rd m x → m + n ≤ 1000000000 → noW (1000 - 2 * n) s → n ≤ 6 → Dr2 (fun k k1 => spec_l13Word.L4 k k1 x s (n : Int)) (m + n) (noW 12) := by
    intro n
    induction n with
    | zero =>
      intro m x s hx hm hs hn
      refine Dr2.succ (Dr2.congr (fun k k1 => spec_l13Word.L4_eq k k1 x s _) ?_)
      simp only [show decide (((0 : Nat) : Int) > 0) = false from rfl, ifb_f]
      refine Dr2.bindv (least_al _ _).fst ?_
      have hj : (if (s.size : Int) < 12 then (s.size : Int) else 12).toNat ≤ s.size ∧ (if (s.size : Int) < 12 then (s.size : Int) else 12).toNat ≤ 12 ∧ (0 : Int) ≤ (if (s.size : Int) < 12 then (s.size : Int) else 12) ∧ (if (s.size : Int) < 12 then (s.size : Int) else 12) ≤ (s.size : Int) := by split <;> omega
      have hw := noW_cut hs hj.1
      refine Dr2.now (fun k k1 => by
        rw [decide_eq_true (Int.le_refl 0), decide_eq_true hj.2.2.1, decide_eq_true hj.2.2.2, Bool.and_self, Bool.and_self, ifb_t]
        rfl) ⟨Nat.le_trans hw.1 hj.2.1, hw.2⟩ (hx.up (by omega))
    | succ n ih =>
      intro m x s hx hm hs hn
      refine Dr2.succ (Dr2.congr (fun k k1 => spec_l13Word.L4_eq k k1 x s _) ?_)
      simp only [decide_eq_true (show ((n + 1 : Nat) : Int) > 0 by omega), ifb_t]
      refine Dr2.bind (of_dr hx (by omega) _ (by simp) (by simp)).snd fun v y hv hy => ?_
      have hv' : noW 2 v := by
        simp only [List.mem_cons, List.not_mem_nil, or_false] at hv
        rcases hv with rfl | rfl | rfl | rfl | rfl <;> exact ⟨by decide, by decide⟩
      have h2 := noW_app hs hv'
      have sz : decide (((s.size + v.size : Nat) : Int) ≤ IntKind.i64.max) = true := decide_eq_true (by have := hs.1; have := hv'.1; rw [show IntKind.i64.max = 9223372036854775807 from rfl]; omega)
      have e1 : w64 (((n + 1 : Nat) : Int) - 1) = (n : Int) := by rw [show ((n + 1 : Nat) : Int) - 1 = (n : Int) by omega]; exact w_id (by omega) (by omega)
      simp only [sz, ifb_t, e1]
      exact (ih (m + 1) y (s ++ v) hy (by omega) ⟨Nat.le_trans h2.1 (by omega), h2.2⟩ (by omega)).up (by omega) fun _ h => h
  refine Dr.congr (fun k => spec_l13Word.f_eq k x) (Dr.bind (pick_dr h (by omega) 3 (by omega) (by omega)) fun v y hv hy => ?_)
  by_cases c : v = 0
  · subst c
    simp only [show ((0 : Int) == 0) = true from rfl, ifb_t]
    refine Dr.bind (pick_dr hy (by omega) 5 (by omega) (by omega)) fun v z hv hz => ?_
    obtain ⟨n, rfl⟩ := Int.eq_ofNat_of_zero_le hv.1
    have e1 : w64 (1 + (n : Int)) = ((n + 1 : Nat) : Int) := by rw [show (1 : Int) + (n : Int) = ((n + 1 : Nat) : Int) by omega]; exact w_id (by omega) (by omega)
    simp only [e1]
    exact (two (n + 1) _ z bz hz (by omega) ⟨by simp, by decide⟩ (by omega)).diag.up (by omega) fun _ h => h
  · simp only [show (v == 0) = false by rw [beq_eq_false_iff_ne]; exact c, ifb_f]
    refine Dr.bind (of_dr hy (by omega) _ (by simp) (by simp)) fun v z hv hz => ?_
    refine Dr.now (v := v) (x := z) (fun k => rfl) ?_ (hz.up (by omega))
    simp only [List.mem_cons, List.not_mem_nil, or_false] at hv
    rcases hv with rfl | rfl | rfl | rfl | rfl | rfl | rfl | rfl | rfl | rfl | rfl | rfl | rfl | rfl | rfl <;> exact ⟨by decide, by decide⟩
end Go.Proofs.Ytabindnaedchgaa.Rf
