/- Draws: affixes, rows of words, entries, books. -/
import Derived.Test.YtabindnaedchgaaPlDraw
namespace Go.Proofs.Ytabindnaedchgaa.Rf
open Go Go.RowKit
set_option linter.unusedVariables false
set_option linter.unusedSimpArgs false
def Dr3 {α : Type} (X : Nat → Nat → Nat → Option (α × Rdr)) (m : Int) (P : α → Prop) : Prop := ∃ v x', Al3 (fun a b c => X a b c = some (v, x')) ∧ P v ∧ Rd m x'
theorem Dr3.congr {α : Type} {X Y : Nat → Nat → Nat → Option (α × Rdr)} {m : Int} {P : α → Prop} (e : ∀ a b c, Y a b c = X a b c) (h : Dr3 X m P) : Dr3 Y m P := by
  obtain rfl : Y = X := funext fun a => funext fun b => funext (e a b)
  exact h
theorem Dr3.succ {α : Type} {X : Nat → Nat → Nat → Option (α × Rdr)} {m : Int} {P : α → Prop} (h : Dr3 (fun a b c => X a b (c + 1)) m P) : Dr3 X m P := by
  obtain ⟨v, x, e, r⟩ := h
  exact ⟨v, x, Al3.succ e, r⟩
theorem Dr3.pred {α : Type} {X : Nat → Nat → Nat → Option (α × Rdr)} {m : Int} {P : α → Prop} (h : Dr3 X m P) : Dr3 (fun a b c => X a b (c + 1)) m P := by
  obtain ⟨v, x, ⟨n, e⟩, r⟩ := h
  exact ⟨v, x, ⟨n, fun a b c ha hb hc => e a b (c + 1) ha hb (by omega)⟩, r⟩
theorem Dr2.fst3 {α : Type} {X : Nat → Nat → Option (α × Rdr)} {m : Int} {P : α → Prop} (h : Dr2 X m P) : Dr3 (fun a b _ => X a b) m P := by
  obtain ⟨v, x, e, r⟩ := h
  exact ⟨v, x, e.fst, r⟩
theorem Dr3.in2 {α : Type} {X : Nat → Nat → Nat → Option (α × Rdr)} {m : Int} {P : α → Prop} (h : Dr3 X m P) : Dr2 (fun a b => X a b b) m P := by
  obtain ⟨v, x, e, r⟩ := h
  exact ⟨v, x, e.in2, r⟩
/-! ### Words of any kind, affixes -/
def szN (n : Nat) (s : ByteArray) : Prop := s.size ≤ n
theorem anyWord_dr {m : Int} {x : Rdr} (h : Rd m x) (hm : m ≤ 800000000) : Dr (fun k => spec_l13AnyWord.f k x) (m + 20) (szN 13) := by
  refine Dr.congr (fun k => spec_l13AnyWord.f_eq k x) (Dr.bind (pick_dr h (by omega) 16 (by omega) (by omega)) fun v y hv hy => ?_)
  by_cases c : v = 0
  · subst c
    simp only [show ((0 : Int) == 0) = true from rfl, ifb_t]
    refine Dr.bind (of_dr hy (by omega) _ (by simp) (by simp)) fun v z hv hz => ?_
    refine Dr.now (v := v) (x := z) (fun k => rfl) ?_ (hz.up (by omega))
    simp only [List.mem_cons, List.not_mem_nil, or_false] at hv
    rcases hv with rfl | rfl | rfl | rfl | rfl | rfl <;> (unfold szN; decide)
  · simp only [show (v == 0) = false by rw [beq_eq_false_iff_ne]; exact c, ifb_f]
    refine Dr.bind (word_dr hy (by omega)) fun v z hv hz => ?_
    exact Dr.now (v := v) (x := z) (fun k => rfl) (Nat.le_trans hv.1 (by omega)) (hz.up (by omega))
def affS (a : Aff) : Prop := a.1.size ≤ 8 ∧ a.2.2.1.size ≤ 8 ∧ a.2.2.2.1.size ≤ 8 ∧ a.2.2.2.2.size ≤ 8
theorem affix_dr {m : Int} {x : Rdr} (h : Rd m x) (hm : m ≤ 800000000) : Dr (fun k => spec_l13Affix.f k x) (m + 1) affS := by
  refine Dr.congr (fun k => spec_l13Affix.f_eq k x) (Dr.succ ?_)
  refine Dr.congr (fun k => spec_l13Affix.J2_eq k x _ _) ?_
  refine Dr.bind (pick_dr h (by omega) _ (by simp) (by simp)) fun v y hv hy => ?_
  have p0 := hv.1
  have p1 := hv.2
  simp only [decide_eq_true p0, decide_eq_true p1, Bool.and_self, ifb_t]
  refine Dr.now (v := _) (x := y) (fun k => rfl) ?_ hy
  obtain ⟨n, rfl⟩ := Int.eq_ofNat_of_zero_le p0
  simp only [List.length_cons, List.length_nil] at p1
  have : n = 0 ∨ n = 1 ∨ n = 2 ∨ n = 3 ∨ n = 4 ∨ n = 5 ∨ n = 6 ∨ n = 7 := by omega
  rcases this with rfl | rfl | rfl | rfl | rfl | rfl | rfl | rfl <;> exact ⟨by decide, by decide, by decide, by decide⟩
def affsS (n : Nat) (l : List Aff) : Prop := l.length ≤ n ∧ ∀ a ∈ l, affS a
theorem affs_in {y : Rdr} {l : List Aff} {a : Aff} {n : Nat} {M : Int} {P : List Aff → Prop} (hl : l.length ≤ 100) (hn : n ≤ 100)
    (hA : Dr2 (fun k k1 => spec_l13Affixes.L3 k k1 y (l ++ [a]) (n : Int)) M P) (hB : Dr2 (fun k k1 => spec_l13Affixes.L3 k k1 y l (n : Int)) M P) :
    ∀ j i : Nat, i + j = l.length → ∀ b : Bool, Dr3 (fun k k1 k2 => spec_l13Affixes.L8 k k1 k2 y l ((n + 1 : Nat) : Int) a b (i : Int)) M P := by
  have e1 : w64 (((n + 1 : Nat) : Int) - 1) = (n : Int) := by rw [show ((n + 1 : Nat) : Int) - 1 = (n : Int) by omega]; exact w_id (by omega) (by omega)
  have e2 : decide ((l.length + [a].length) * 72 ≤ rowMax) = true := decide_eq_true (by simp [rowMax]; omega)
  intro j
  induction j with
  | zero =>
    intro i hi b
    refine Dr3.succ (Dr3.congr (fun k k1 k2 => spec_l13Affixes.L8_eq k k1 k2 y l _ a b _) ?_)
    simp only [at_end (show ¬ i < l.length by omega), ifb_f, e1, e2, ifb_t]
    cases b
    · simp only [Bool.not_false, ifb_t]; exact hA.fst3
    · simp only [Bool.not_true, ifb_f]; exact hB.fst3
  | succ j ih =>
    intro i hi b
    obtain ⟨c1, c2, c3, c4⟩ := at_i (show i < l.length by omega) (by omega)
    refine Dr3.succ (Dr3.congr (fun k k1 k2 => spec_l13Affixes.L8_eq k k1 k2 y l _ a b _) (Dr3.succ ?_))
    simp only [c1, c2, Bool.and_self, ifb_t, spec_l13Affixes.J9_eq, w64, c4]
    cases b
    · simp only [ifb_f]; exact (ih (i + 1) (by omega) _).pred
    · simp only [ifb_t]; exact (ih (i + 1) (by omega) _).pred
theorem affs_loop : ∀ (n : Nat) (m : Int) (y : Rdr) (l : List Aff), Rd m y → m + n ≤ 700000000 → n ≤ 5 → affsS (50 - n) l → Dr2 (fun k k1 => spec_l13Affixes.L3 k k1 y l (n : Int)) (m + n) (affsS 50) := by
  intro n
  induction n with
  | zero =>
    intro m y l hy hm hn hl
    refine Dr2.succ (Dr2.congr (fun k k1 => spec_l13Affixes.L3_eq k k1 y l _) ?_)
    simp only [show decide (((0 : Nat) : Int) > 0) = false from rfl, ifb_f]
    exact Dr2.now (v := l) (x := y) (fun k k1 => rfl) hl (hy.up (by omega))
  | succ n ih =>
    intro m y l hy hm hn hl
    refine Dr2.succ (Dr2.congr (fun k k1 => spec_l13Affixes.L3_eq k k1 y l _) ?_)
    simp only [decide_eq_true (show ((n + 1 : Nat) : Int) > 0 by omega), ifb_t]
    refine Dr2.bind (affix_dr hy (by omega)).snd fun a z ha hz => ?_
    have A := ih (m + 1) z (l ++ [a]) hz (by omega) (by omega) ⟨by have := hl.1; simp; omega, fun x hx => (List.mem_append.1 hx).elim (hl.2 x) fun h => by rw [List.mem_singleton.1 h]; exact ha⟩
    have B := ih (m + 1) z l hz (by omega) (by omega) ⟨by have := hl.1; omega, hl.2⟩
    exact ((affs_in (by have := hl.1; omega) (by omega) A B l.length 0 (by omega) false).in2).up (by omega) fun _ h => h
theorem affixes_dr {m : Int} {x : Rdr} (h : Rd m x) (hm : m ≤ 600000000) : Dr (fun k => spec_l13Affixes.f k x) (m + 10) (affsS 50) := by
  refine Dr.congr (fun k => spec_l13Affixes.f_eq k x) (Dr.bind (pick_dr h (by omega) 5 (by omega) (by omega)) fun v y hv hy => ?_)
  obtain ⟨n, rfl⟩ := Int.eq_ofNat_of_zero_le hv.1
  have h5 := hv.2
  exact ((affs_loop n (m + 1) y [] hy (by omega) (by omega) ⟨by simp, fun a ha => by simp at ha⟩).diag).up (by omega) fun _ h => h
/-! ### A word is put into a row that rises -/
def putS (s : ByteArray) : List ByteArray → List ByteArray
  | [] => [s]
  | x :: t => if ltS x s then x :: putS s t else if x = s then x :: t else s :: x :: t
theorem putS_cons (s x : ByteArray) (t : List ByteArray) : putS s (x :: t) = if ltS x s then x :: putS s t else if x = s then x :: t else s :: x :: t := rfl
theorem putS_mem {s x : ByteArray} : ∀ {l : List ByteArray}, x ∈ putS s l → x = s ∨ x ∈ l
  | [], h => .inl (List.mem_singleton.1 h)
  | y :: t, h => by
    unfold putS at h
    split at h
    · rcases List.mem_cons.1 h with rfl | h
      · exact .inr (List.mem_cons_self ..)
      · exact (putS_mem h).imp id fun h => List.mem_cons_of_mem _ h
    · split at h
      · exact .inr h
      · rcases List.mem_cons.1 h with rfl | h
        · exact .inl rfl
        · exact .inr h
theorem putS_len (s : ByteArray) : ∀ (l : List ByteArray), (putS s l).length ≤ l.length + 1 ∧ (s ∉ l → (putS s l).length = l.length + 1)
  | [] => ⟨by simp [putS], fun _ => by simp [putS]⟩
  | y :: t => by
    unfold putS
    split
    · have := putS_len s t
      exact ⟨by simp; omega, fun h => by simp only [List.length_cons]; rw [this.2 fun h' => h (List.mem_cons_of_mem _ h')]⟩
    · split
      · rename_i e
        exact ⟨by simp, fun h => (h (by simp [e])).elim⟩
      · exact ⟨by simp, fun _ => by simp⟩
theorem l1Put_al (l : List ByteArray) (s : ByteArray) (hl : l.length ≤ 1099511627776) : Al fun k => spec_l1Put.f k l s = some (putS s l) := by
  have hS : l.length ≤ 4611686018427387904 := by omega
  have ins : ∀ i : Nat, i ≤ l.length → ∀ (z : Option (List ByteArray)), ifb (decide (0 ≤ (0 : Int)) && (decide ((0 : Int) ≤ (i : Int)) && decide ((i : Int) ≤ (l.length : Int)))) (ifb (decide ((([] : List ByteArray).length + ((l.take i).drop (0 : Int).toNat).length) * 16 ≤ rowMax)) (ifb (decide (((([] : List ByteArray) ++ ((l.take i).drop (0 : Int).toNat)).length + [s].length) * 16 ≤ rowMax)) (ifb (decide (0 ≤ (i : Int)) && (decide ((i : Int) ≤ (l.length : Int)) && decide ((l.length : Int) ≤ (l.length : Int)))) (ifb (decide ((((([] : List ByteArray) ++ ((l.take i).drop (0 : Int).toNat)) ++ [s]).length + ((l.take l.length).drop i).length) * 16 ≤ rowMax)) (some (((([] : List ByteArray) ++ ((l.take i).drop (0 : Int).toNat)) ++ [s]) ++ ((l.take l.length).drop i))) (none)) (none)) (none)) (none)) (none) = some (l.take i ++ s :: l.drop i) := by
    intro i hi _
    have d0 : ∀ l : List ByteArray, l.drop (0 : Int).toNat = l := fun l => rfl
    have d1 : l.take l.length = l := List.take_length
    rw [d1, d0]
    rw [decide_eq_true (Int.le_refl 0), decide_eq_true (show (0 : Int) ≤ (i : Int) by omega), decide_eq_true (show (i : Int) ≤ (l.length : Int) by omega), decide_eq_true (Int.le_refl (l.length : Int)), Bool.and_self, Bool.and_self, ifb_t, ifb_t]
    rw [decide_eq_true (by simp [rowMax]; omega), decide_eq_true (by simp [rowMax]; omega), decide_eq_true (by simp [rowMax]; omega), ifb_t, ifb_t, ifb_t]
    simp
  have key : ∀ (t : List ByteArray) (i : Nat), l.drop i = t → i ≤ l.length → Al2 fun k k1 => spec_l1Put.L2 k k1 l s (i : Int) = some (l.take i ++ putS s t) := by
    intro t
    induction t with
    | nil =>
      intro i hd hi
      have he := drop_nil hd
      refine Al2.succ (Al2.now fun k k1 => ?_)
      simp only [spec_l1Put.L2_eq, at_end he, ifb_f, Int.toNat_natCast]
      rw [ins i hi none, hd]
      rfl
    | cons x t ih =>
      intro i hd hi
      obtain ⟨hi', g1, g2⟩ := drop_cons bz hd
      obtain ⟨c1, c2, c3, c4⟩ := at_i hi' hS
      refine Al2.succ ((ih (i + 1) g2 (by omega)).mono fun k k1 e => ?_)
      simp only [spec_l1Put.L2_eq, c1, c2, Int.toNat_natCast, w64, c4, g1, Bool.and_self, ifb_t, e, eq_beq, putS_cons]
      cases hx : Op.bytesLess x.toList s.toList
      · rw [ifb_f, if_neg (show ¬ ltS x s = true by simp [ltS, hx])]
        by_cases e2 : x = s
        · rw [decide_eq_true e2, ifb_t, if_pos e2, ← hd, List.take_append_drop]
        · have ins' := ins i hi none
          simp only [c2] at ins'
          rw [decide_eq_false e2, ifb_f, ins', hd, if_neg e2]
      · rw [ifb_t, if_pos (show ltS x s = true by simp [ltS, hx])]
        have e3 : l.take (i + 1) = l.take i ++ [x] := by
          have h2 : l.take (i + 1) = l.take i ++ (l.drop i).take 1 := by rw [List.take_add]
          rw [h2, hd]; rfl
        rw [e3]
        simp
  refine (key l 0 rfl (by omega)).diag.mono fun k e => ?_
  rw [spec_l1Put.f_eq, show (0 : Int) = ((0 : Nat) : Int) from rfl, e]
  rfl
/-! ### Entries and books -/
def entS (e : En) : Prop := e.1.size ≤ 16 ∧ e.2.size ≤ 16
def entsS (n : Nat) (l : List En) : Prop := l.length ≤ n ∧ ∀ e ∈ l, entS e
def bookS (n : Nat) (b : Book) : Prop := affsS n b.1 ∧ entsS n b.2
theorem entry_dr {m : Int} {x : Rdr} (s : ByteArray) (hs : s.size ≤ 16) (h : Rd m x) (hm : m ≤ 900000000) : Dr (fun k => spec_l13Entry.f k x s) (m + 1) entS := by
  refine Dr.congr (fun k => spec_l13Entry.f_eq k x s) (Dr.bind (of_dr h (by omega) _ (by simp) (by simp)) fun v y hv hy => ?_)
  have h16 : v.size ≤ 16 := by
    simp only [List.mem_cons, List.not_mem_nil, or_false] at hv
    rcases hv with rfl | rfl | rfl | rfl | rfl | rfl | rfl | rfl | rfl <;> decide
  exact Dr.now (v := (s, v)) (x := y) (fun k => rfl) ⟨hs, h16⟩ hy
theorem book_tail (b0 : Book) (A : List Aff) (hA : affsS 50 A) (ws : List ByteArray) (hw : ws.length ≤ 40 ∧ ∀ s ∈ ws, s.size ≤ 16) :
    ∀ (j i : Nat) (m : Int) (x : Rdr) (es : List En), i + j = ws.length → Rd m x → m + j ≤ 800000000 → entsS i es → Dr2 (fun k k1 => spec_l13Book.L13 k k1 x b0 (A, es) ws (i : Int)) (m + j) (bookS 50) := by
  intro j
  induction j with
  | zero =>
    intro i m x es hi hx hm he
    refine Dr2.succ (Dr2.congr (fun k k1 => spec_l13Book.L13_eq k k1 x b0 (A, es) ws _) ?_)
    simp only [at_end (show ¬ i < ws.length by omega), ifb_f]
    exact Dr2.now (v := (A, es)) (x := x) (fun _ _ => rfl) ⟨hA, by have := he.1; exact Nat.le_trans he.1 (by omega), he.2⟩ (hx.up (by omega))
  | succ j ih =>
    intro i m x es hi hx hm he
    have hil : i < ws.length := by omega
    obtain ⟨c1, c2, c3, c4⟩ := at_i hil (by omega)
    refine Dr2.succ (Dr2.congr (fun k k1 => spec_l13Book.L13_eq k k1 x b0 (A, es) ws _) ?_)
    simp only [c1, c2, c3, Bool.and_self, ifb_t, w64, c4]
    have hs : (ws.getD i bz).size ≤ 16 := by
      rw [List.getD_eq_getElem?_getD, List.getElem?_eq_getElem hil]
      exact hw.2 _ (List.getElem_mem hil)
    refine Dr2.bind (entry_dr _ hs hx (by omega)).snd fun e y he' hy => ?_
    have e2 : decide ((es.length + [e].length) * 32 ≤ rowMax) = true := decide_eq_true (by have := he.1; simp [rowMax]; omega)
    simp only [e2, ifb_t]
    exact (ih (i + 1) (m + 1) y (es ++ [e]) (by omega) hy (by omega) ⟨by have := he.1; simp; omega, fun z hz => (List.mem_append.1 hz).elim (he.2 z) fun h => by rw [List.mem_singleton.1 h]; exact he'⟩).up (by omega) fun _ h => h
theorem book_j12 (b0 : Book) (A : List Aff) (hA : affsS 50 A) (ws : List ByteArray) (hw : ws.length ≤ 40 ∧ ∀ s ∈ ws, s.size ≤ 16) {m : Int} {x : Rdr} (hx : Rd m x) (hm : m ≤ 700000000) :
    Dr (fun k => spec_l13Book.J12 k x b0 (A, []) ws) (m + 40) (bookS 50) := by
  refine Dr.succ (Dr.congr (fun k => spec_l13Book.J12_eq k x b0 (A, []) ws) ?_)
  exact ((book_tail b0 A hA ws hw ws.length 0 m x [] (by omega) hx (by omega) ⟨by simp, fun e he => by simp at he⟩).diag).up (by omega) fun _ h => h
/-- w and a letter -/
def wN (n : Nat) : ByteArray := (⟨#[119]⟩ : ByteArray) ++ strOf [(IntKind.u8.wrap (w64 ((97 : Int) + (n : Int))))]
theorem wN_bl : ∀ n, n < 25 → bl (wN n) = [119, (97 + n).toUInt8] := by decide
theorem wN_size {n : Nat} (h : n < 25) : (wN n).size = 2 := by rw [← bl_length, wN_bl n h]; rfl
theorem wN_inj : ∀ i, i < 25 → ∀ j, j < 25 → wN i = wN j → i = j := by
  intro i hi j hj e
  have := congrArg bl e
  rw [wN_bl i hi, wN_bl j hj] at this
  have h2 : (97 + i).toUInt8 = (97 + j).toUInt8 := by simpa using this
  have h3 := congrArg UInt8.toNat h2
  simp at h3
  omega
/-- all words begin with no w, or are w and one of the first n letters -/
def wOk (n : Nat) (s : ByteArray) : Prop := s.size ≤ 16 ∧ ((bl s).head? ≠ some 119 ∨ ∃ j, j < n ∧ s = wN j)
theorem book_fill (b0 : Book) (A : List Aff) (hA : affsS 50 A) : ∀ (j n : Nat) (m : Int) (x : Rdr) (ws : List ByteArray), j + ws.length = 24 → n ≤ ws.length → Rd m x → m ≤ 600000000 → (∀ s ∈ ws, wOk n s) →
    Dr2 (fun k k1 => spec_l13Book.L9 k k1 x b0 (A, []) ws (n : Int)) (m + 40) (bookS 50) := by
  intro j
  induction j with
  | zero =>
    intro n m x ws hj hn hx hm hw
    refine Dr2.succ (Dr2.congr (fun k k1 => spec_l13Book.L9_eq k k1 x b0 (A, []) ws _) ?_)
    simp only [show decide ((ws.length : Int) < 24) = false from decide_eq_false (by omega), ifb_f]
    exact (book_j12 b0 A hA ws ⟨by omega, fun s hs => (hw s hs).1⟩ hx (by omega)).fst
  | succ j ih =>
    intro n m x ws hj hn hx hm hw
    refine Dr2.succ (Dr2.congr (fun k k1 => spec_l13Book.L9_eq k k1 x b0 (A, []) ws _) ?_)
    have hn25 : n < 25 := by omega
    have hsz : decide ((((⟨#[119]⟩ : ByteArray).size + (strOf [(IntKind.u8.wrap (w64 ((97 : Int) + (n : Int))))]).size : Nat) : Int) ≤ IntKind.i64.max) = true := by
      have h2 := wN_size hn25
      unfold wN at h2
      rw [ByteArray.size_append] at h2
      rw [h2]; rfl
    have e1 : w64 ((n : Int) + 1) = ((n + 1 : Nat) : Int) := by rw [show (n : Int) + 1 = ((n + 1 : Nat) : Int) by omega]; exact w_id (by omega) (by omega)
    simp only [show decide ((ws.length : Int) < 24) = true from decide_eq_true (by omega), ifb_t, hsz, e1]
    refine Dr2.bindv (l1Put_al ws (wN n) (by omega)).snd ?_
    have hno : wN n ∉ ws := by
      intro hmem
      rcases (hw _ hmem).2 with h | ⟨i, hi, h⟩
      · rw [wN_bl n hn25] at h; simp at h
      · have := wN_inj n hn25 i (by omega) h; omega
    have hlen := (putS_len (wN n) ws).2 hno
    refine ih (n + 1) m x (putS (wN n) ws) (by omega) (by omega) hx hm fun s hs => ?_
    rcases putS_mem hs with rfl | hs
    · exact ⟨by rw [wN_size hn25]; omega, .inr ⟨n, by omega, rfl⟩⟩
    · obtain ⟨h1, h2⟩ := hw s hs
      exact ⟨h1, h2.imp id fun ⟨i, hi, h⟩ => ⟨i, by omega, h⟩⟩
theorem book_words (b0 : Book) (A : List Aff) (hA : affsS 50 A) : ∀ (n : Nat) (m : Int) (x : Rdr) (ws : List ByteArray), n + ws.length ≤ 7 → Rd m x → m + 12 * n ≤ 500000000 → (∀ s ∈ ws, wOk 0 s) →
    Dr2 (fun k k1 => spec_l13Book.L4 k k1 x b0 (A, []) ws (n : Int)) (m + 12 * n + 50) (bookS 50) := by
  intro n
  induction n with
  | zero =>
    intro m x ws hl hx hm hw
    refine Dr2.succ (Dr2.congr (fun k k1 => spec_l13Book.L4_eq k k1 x b0 (A, []) ws _) ?_)
    simp only [show decide (((0 : Nat) : Int) > 0) = false from rfl, ifb_f]
    refine Dr2.bind (pick_dr hx (by omega) 30 (by omega) (by omega)).fst fun v y hv hy => ?_
    by_cases c : v = 0
    · subst c
      simp only [show ((0 : Int) == 0) = true from rfl, ifb_t]
      exact ((book_fill b0 A hA (24 - ws.length) 0 (m + 1) y ws (by omega) (by omega) hy (by omega) hw).diag.fst).up (by omega) fun _ h => h
    · simp only [show (v == 0) = false by rw [beq_eq_false_iff_ne]; exact c, ifb_f]
      exact ((book_j12 b0 A hA ws ⟨by omega, fun s hs => (hw s hs).1⟩ hy (by omega)).fst).up (by omega) fun _ h => h
  | succ n ih =>
    intro m x ws hl hx hm hw
    refine Dr2.succ (Dr2.congr (fun k k1 => spec_l13Book.L4_eq k k1 x b0 (A, []) ws _) ?_)
    have e1 : w64 (((n + 1 : Nat) : Int) - 1) = (n : Int) := by rw [show ((n + 1 : Nat) : Int) - 1 = (n : Int) by omega]; exact w_id (by omega) (by omega)
    simp only [decide_eq_true (show ((n + 1 : Nat) : Int) > 0 by omega), ifb_t, e1]
    refine Dr2.bind (word_dr hx (by omega)).snd fun s y hs hy => ?_
    refine Dr2.bindv (l1Put_al ws s (by omega)).snd ?_
    have hlen := (putS_len s ws).1
    refine (ih (m + 12) y (putS s ws) (by omega) hy (by omega) fun z hz => ?_).up (by omega) fun _ h => h
    rcases putS_mem hz with rfl | hz
    · exact ⟨Nat.le_trans hs.1 (by omega), .inl hs.2⟩
    · exact hw z hz
theorem book_dr {m : Int} {x : Rdr} (h : Rd m x) (hm : m ≤ 400000000) : Dr (fun k => spec_l13Book.f k x) (m + 200) (bookS 50) := by
  refine Dr.congr (fun k => spec_l13Book.f_eq k x) (Dr.bind (affixes_dr h (by omega)) fun A y hA hy => ?_)
  refine Dr.bind (pick_dr hy (by omega) 7 (by omega) (by omega)) fun v z hv hz => ?_
  obtain ⟨n, rfl⟩ := Int.eq_ofNat_of_zero_le hv.1
  have h7 := hv.2
  exact ((book_words ([], []) A hA n _ z [] (by simp; omega) hz (by omega) (fun s hs => by simp at hs)).diag).up (by omega) fun _ h => h
end Go.Proofs.Ytabindnaedchgaa.Rf
