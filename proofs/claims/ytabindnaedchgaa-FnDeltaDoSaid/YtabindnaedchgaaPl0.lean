/- Plain values by name, fuel, loops, numbers, bytes. Nothing of any program. -/
import Derived.Test.YtabindnaedchgaaRf26
namespace Go.Proofs.Ytabindnaedchgaa.Rf
open Go Go.RowKit
set_option linter.unusedVariables false
set_option linter.unusedSimpArgs false
abbrev Aff := ByteArray × Bool × ByteArray × ByteArray × ByteArray
abbrev En := ByteArray × ByteArray
abbrev Book := List Aff × List En
abbrev Delta := List ByteArray × List En × Bool × List Aff
abbrev Release := Int × Delta × ByteArray × ByteArray
abbrev Client := ByteArray × Bool × Int × Book × ByteArray
abbrev World_ := ByteArray × List Book × List ByteArray × List Client
abbrev Event := Int × Int × Int × ByteArray × Delta
abbrev bz : ByteArray := ByteArray.empty
abbrev zA : Aff := (bz, false, bz, bz, bz)
abbrev zE : En := (bz, bz)
abbrev w64 (x : Int) : Int := IntKind.i64.wrap x
theorem ifb_t {α : Type} (x y : Option α) : ifb true x y = x := by unfold ifb; rfl
theorem ifb_f {α : Type} (x y : Option α) : ifb false x y = y := by unfold ifb; rfl
theorem ifb_same {α : Type} (b : Bool) (x : Option α) : ifb b x x = x := by cases b; exact ifb_f _ _; exact ifb_t _ _
theorem ifb_some {α : Type} (b : Bool) (x y : α) : ifb b (some x) (some y) = some (cond b x y) := by cases b; exact ifb_f _ _; exact ifb_t _ _
/-! ### For all fuels from some on -/
def Al (p : Nat → Prop) : Prop := ∃ n, ∀ k, n ≤ k → p k
def Al2 (p : Nat → Nat → Prop) : Prop := ∃ n, ∀ a b, n ≤ a → n ≤ b → p a b
def Al3 (p : Nat → Nat → Nat → Prop) : Prop := ∃ n, ∀ a b c, n ≤ a → n ≤ b → n ≤ c → p a b c
theorem Al.now {p : Nat → Prop} (h : ∀ k, p k) : Al p := ⟨0, fun k _ => h k⟩
theorem Al.mono {p q : Nat → Prop} (h : Al p) (f : ∀ k, p k → q k) : Al q := h.imp fun _ h k hk => f k (h k hk)
theorem Al.and {p q : Nat → Prop} (h : Al p) (g : Al q) : Al fun k => p k ∧ q k := by
  obtain ⟨n, h⟩ := h; obtain ⟨m, g⟩ := g
  exact ⟨n + m, fun k hk => ⟨h k (by omega), g k (by omega)⟩⟩
theorem Al.succ {p : Nat → Prop} (h : Al fun k => p (k + 1)) : Al p := by
  obtain ⟨n, h⟩ := h
  refine ⟨n + 1, fun k hk => ?_⟩
  obtain ⟨k, rfl⟩ : ∃ j, k = j + 1 := ⟨k - 1, by omega⟩
  exact h k (by omega)
theorem Al2.now {p : Nat → Nat → Prop} (h : ∀ a b, p a b) : Al2 p := ⟨0, fun a b _ _ => h a b⟩
theorem Al2.mono {p q : Nat → Nat → Prop} (h : Al2 p) (f : ∀ a b, p a b → q a b) : Al2 q := h.imp fun _ h a b ha hb => f a b (h a b ha hb)
theorem Al2.and {p q : Nat → Nat → Prop} (h : Al2 p) (g : Al2 q) : Al2 fun a b => p a b ∧ q a b := by
  obtain ⟨n, h⟩ := h; obtain ⟨m, g⟩ := g
  exact ⟨n + m, fun a b ha hb => ⟨h a b (by omega) (by omega), g a b (by omega) (by omega)⟩⟩
theorem Al2.succ {p : Nat → Nat → Prop} (h : Al2 fun a b => p a (b + 1)) : Al2 p := by
  obtain ⟨n, h⟩ := h
  refine ⟨n + 1, fun a b ha hb => ?_⟩
  obtain ⟨b, rfl⟩ : ∃ j, b = j + 1 := ⟨b - 1, by omega⟩
  exact h a b (by omega) (by omega)
theorem Al2.diag {p : Nat → Nat → Prop} (h : Al2 p) : Al fun k => p k k := h.imp fun _ h k hk => h k k hk hk
theorem Al.fst {p : Nat → Prop} (h : Al p) : Al2 fun a _ => p a := h.imp fun _ h a _ ha _ => h a ha
theorem Al.snd {p : Nat → Prop} (h : Al p) : Al2 fun _ b => p b := h.imp fun _ h _ b _ hb => h b hb
theorem Al3.now {p : Nat → Nat → Nat → Prop} (h : ∀ a b c, p a b c) : Al3 p := ⟨0, fun a b c _ _ _ => h a b c⟩
theorem Al3.mono {p q : Nat → Nat → Nat → Prop} (h : Al3 p) (f : ∀ a b c, p a b c → q a b c) : Al3 q := h.imp fun _ h a b c ha hb hc => f a b c (h a b c ha hb hc)
theorem Al3.and {p q : Nat → Nat → Nat → Prop} (h : Al3 p) (g : Al3 q) : Al3 fun a b c => p a b c ∧ q a b c := by
  obtain ⟨n, h⟩ := h; obtain ⟨m, g⟩ := g
  exact ⟨n + m, fun a b c ha hb hc => ⟨h a b c (by omega) (by omega) (by omega), g a b c (by omega) (by omega) (by omega)⟩⟩
theorem Al3.succ {p : Nat → Nat → Nat → Prop} (h : Al3 fun a b c => p a b (c + 1)) : Al3 p := by
  obtain ⟨n, h⟩ := h
  refine ⟨n + 1, fun a b c ha hb hc => ?_⟩
  obtain ⟨c, rfl⟩ : ∃ j, c = j + 1 := ⟨c - 1, by omega⟩
  exact h a b c (by omega) (by omega) (by omega)
/-- an inner loop begins with the fuel of the round -/
theorem Al3.in2 {p : Nat → Nat → Nat → Prop} (h : Al3 p) : Al2 fun a b => p a b b := h.imp fun _ h a b ha hb => h a b b ha hb hb
theorem Al2.fst {p : Nat → Nat → Prop} (h : Al2 p) : Al3 fun a b _ => p a b := h.imp fun _ h a b _ ha hb _ => h a b ha hb
theorem Al2.skip {p : Nat → Nat → Prop} (h : Al2 p) : Al3 fun a _ c => p a c := h.imp fun _ h a _ c ha _ hc => h a c ha hc
theorem Al.thd {p : Nat → Prop} (h : Al p) : Al3 fun _ _ c => p c := h.imp fun _ h _ _ c _ _ hc => h c hc
theorem Al.get {p : Nat → Prop} (h : Al p) : ∃ k, p k := h.imp fun n h => h n (Nat.le_refl n)
/-! ### Numbers -/
theorem w_id {x : Int} (h1 : -9223372036854775808 ≤ x) (h2 : x ≤ 9223372036854775807) : IntKind.i64.wrap x = x := by
  have e : IntKind.i64.wrap x = if x % 18446744073709551616 ≥ 9223372036854775808 then x % 18446744073709551616 - 18446744073709551616 else x % 18446744073709551616 := by
    by_cases h : x % 18446744073709551616 ≥ 9223372036854775808
    · rw [if_pos h]; exact if_pos (decide_eq_true h)
    · rw [if_neg h]; exact if_neg (fun h' => h (of_decide_eq_true (show decide (x % 18446744073709551616 ≥ 9223372036854775808) = true from h')))
  rw [e]
  split <;> omega
/-- a place in a row -/
theorem at_i {n i : Nat} (hi : i < n) (hn : n ≤ 4611686018427387904) : decide ((i : Int) < (n : Int)) = true ∧ decide (0 ≤ (i : Int)) = true ∧ (i : Int).toNat = i ∧ IntKind.i64.wrap ((i : Int) + 1) = ((i + 1 : Nat) : Int) :=
  ⟨decide_eq_true (by omega), decide_eq_true (by omega), by omega, by rw [w_id (by omega) (by omega)]; omega⟩
theorem at_end {n i : Nat} (hi : ¬ i < n) : decide ((i : Int) < (n : Int)) = false := decide_eq_false (by omega)
theorem drop_cons {α : Type} {l s : List α} {i : Nat} {a : α} (z : α) (h : l.drop i = a :: s) : i < l.length ∧ l.getD i z = a ∧ l.drop (i + 1) = s := by
  have hi : i < l.length := by
    apply Decidable.byContradiction
    intro hn
    rw [List.drop_eq_nil_of_le (by omega)] at h
    cases h
  rw [List.drop_eq_getElem_cons hi] at h
  injection h with h1 h2
  exact ⟨hi, by rw [List.getD_eq_getElem?_getD, List.getElem?_eq_getElem hi]; exact h1, h2⟩
theorem drop_nil {α : Type} {l : List α} {i : Nat} (h : l.drop i = []) : ¬ i < l.length := by
  intro hi
  rw [List.drop_eq_getElem_cons hi] at h
  cases h
/-! ### Bytes -/
def bl (s : ByteArray) : List UInt8 := s.data.toList
theorem bl_length (s : ByteArray) : (bl s).length = s.size := Array.length_toList
theorem bl_inj {s t : ByteArray} (h : bl s = bl t) : s = t := ByteArray.ext (Array.toList_inj.1 h)
theorem toList_bl (s : ByteArray) : s.toList = bl s := ByteArray.toList_eq s
theorem eq_beq (s t : ByteArray) : (s.toList == t.toList) = decide (s = t) := by
  by_cases h : s = t
  · subst h; simp
  · simp only [h, decide_false]
    rw [toList_bl, toList_bl]
    simp only [beq_eq_false_iff_ne, ne_eq]
    exact fun e => h (bl_inj e)
theorem byteAt_drop {s : ByteArray} {i : Nat} {b : UInt8} {t : List UInt8} (h : (bl s).drop i = b :: t) : i < s.size ∧ byteAt s (i : Int) = (b.toNat : Int) ∧ (bl s).drop (i + 1) = t := by
  obtain ⟨h1, h2, h3⟩ := drop_cons 0 h
  rw [bl_length] at h1
  refine ⟨h1, ?_, h3⟩
  unfold byteAt
  rw [dif_pos (by simpa using h1)]
  simp only [Int.toNat_natCast]
  rw [← h2, List.getD_eq_getElem?_getD, List.getElem?_eq_getElem (by rw [bl_length]; exact h1)]
  rfl
theorem byteEnd {s : ByteArray} {i : Nat} (h : (bl s).drop i = []) : ¬ i < s.size := by
  have := drop_nil h
  rwa [bl_length] at this
theorem bytes0 {s : ByteArray} {i : Nat} (hi : i < s.size) : ∃ b t, (bl s).drop i = b :: t := by
  have h : i < (bl s).length := by rw [bl_length]; exact hi
  exact ⟨_, _, List.drop_eq_getElem_cons h⟩
/-- the byte at a place -/
def bN (s : ByteArray) (i : Nat) : Nat := ((bl s).getD i 0).toNat
theorem byteAt_bN {s : ByteArray} {i : Nat} (hi : i < s.size) : byteAt s (i : Int) = (bN s i : Int) := by
  obtain ⟨b, t, h⟩ := bytes0 hi
  rw [(byteAt_drop h).2.1, bN, (drop_cons 0 h).2.1]
/-! ### Loops -/
/-- all places pass, or one stops the loop -/
def allN (n : Nat) (b : Nat → Bool) : Bool := (List.range n).all b
theorem allN_iff {n : Nat} {b : Nat → Bool} : allN n b = true ↔ ∀ i, i < n → b i = true := by simp [allN]
theorem allN_congr {n : Nat} {b c : Nat → Bool} (h : ∀ i, i < n → b i = c i) : allN n b = allN n c := by
  rw [Bool.eq_iff_iff, allN_iff, allN_iff]
  exact ⟨fun k i hi => h i hi ▸ k i hi, fun k i hi => (h i hi).symm ▸ k i hi⟩
/-- from above downwards -/
theorem downN {Q : Nat → Prop} (n : Nat) (done : Q n) (step : ∀ i, i < n → Q (i + 1) → Q i) : ∀ i, i ≤ n → Q i := by
  intro i hi
  obtain ⟨d, rfl⟩ : ∃ d, i = n - d := ⟨n - i, by omega⟩
  induction d with
  | zero => exact done
  | succ d ih =>
    by_cases h : d < n
    · have := ih (by omega)
      rw [show n - d = n - (d + 1) + 1 by omega] at this
      exact step _ (by omega) this
    · rw [show n - (d + 1) = n - d by omega]
      exact ih (by omega)
def allFrom (n i : Nat) (b : Nat → Bool) : Bool := (List.range (n - i)).all fun j => b (i + j)
theorem allFrom_zero (n : Nat) (b : Nat → Bool) : allFrom n 0 b = allN n b := by simp [allFrom, allN]
theorem allFrom_end (n : Nat) (b : Nat → Bool) : allFrom n n b = true := by simp [allFrom]
theorem allFrom_step {n i : Nat} (b : Nat → Bool) (h : i < n) : allFrom n i b = (b i && allFrom n (i + 1) b) := by
  unfold allFrom
  rw [show n - i = (n - (i + 1)) + 1 by omega, List.range_succ_eq_map, List.all_cons, List.all_map]
  simp only [Nat.add_zero]
  congr 1
  congr 1
  funext j
  show b (i + (j + 1)) = b (i + 1 + j)
  rw [show i + (j + 1) = i + 1 + j by omega]
theorem loop_all {ρ : Type} {G : Nat → Nat → Int → Option ρ} {n : Nat} (b : Nat → Bool) {stop fin : ρ} (done : Al2 fun k k1 => G k k1 (n : Int) = some fin)
    (body : ∀ i, i < n → ∀ r, Al2 (fun k k1 => G k k1 ((i + 1 : Nat) : Int) = some r) → Al2 fun k k1 => G k k1 (i : Int) = some (cond (b i) r stop)) :
    Al2 fun k k1 => G k k1 0 = some (cond (allN n b) fin stop) := by
  have := downN (Q := fun i => Al2 fun k k1 => G k k1 (i : Int) = some (cond (allFrom n i b) fin stop)) n (by simp only [allFrom_end, cond_true]; exact done) (fun i hi h => by
    have := body i hi _ h
    rw [allFrom_step b hi]
    cases hb : b i
    · simpa [hb] using this
    · simpa [hb] using this) 0 (Nat.zero_le n)
  rw [allFrom_zero] at this
  exact this
theorem loop_all3 {ρ : Type} {G : Nat → Nat → Nat → Int → Option ρ} {n : Nat} (b : Nat → Bool) {stop fin : ρ} (done : Al3 fun k k1 k2 => G k k1 k2 (n : Int) = some fin)
    (body : ∀ i, i < n → ∀ r, Al3 (fun k k1 k2 => G k k1 k2 ((i + 1 : Nat) : Int) = some r) → Al3 fun k k1 k2 => G k k1 k2 (i : Int) = some (cond (b i) r stop)) :
    Al3 fun k k1 k2 => G k k1 k2 0 = some (cond (allN n b) fin stop) := by
  have := downN (Q := fun i => Al3 fun k k1 k2 => G k k1 k2 (i : Int) = some (cond (allFrom n i b) fin stop)) n (by simp only [allFrom_end, cond_true]; exact done) (fun i hi h => by
    have := body i hi _ h
    rw [allFrom_step b hi]
    cases hb : b i
    · simpa [hb] using this
    · simpa [hb] using this) 0 (Nat.zero_le n)
  rw [allFrom_zero] at this
  exact this
/-- a place behind the first -/
theorem at_pred {n i : Nat} (h0 : 0 < i) (hi : i < n) (hn : n ≤ 4611686018427387904) : decide ((i : Int) > 0) = true ∧ IntKind.i64.wrap ((i : Int) - 1) = ((i - 1 : Nat) : Int) ∧ decide (0 ≤ ((i - 1 : Nat) : Int)) = true ∧ decide (((i - 1 : Nat) : Int) < (n : Int)) = true ∧ ((i - 1 : Nat) : Int).toNat = i - 1 :=
  ⟨decide_eq_true (by omega), by rw [w_id (by omega) (by omega)]; omega, decide_eq_true (by omega), decide_eq_true (by omega), by omega⟩
theorem at_first {i : Nat} (h0 : ¬ 0 < i) : decide ((i : Int) > 0) = false := decide_eq_false (by omega)
theorem dec_le (a b : Nat) : decide ((a : Int) ≤ (b : Int)) = decide (a ≤ b) := by
  by_cases h : a ≤ b
  · rw [decide_eq_true h]; exact decide_eq_true (by omega)
  · rw [decide_eq_false h]; exact decide_eq_false (by omega)
theorem dec_lt (a b : Nat) : decide ((a : Int) < (b : Int)) = decide (a < b) := by
  by_cases h : a < b
  · rw [decide_eq_true h]; exact decide_eq_true (by omega)
  · rw [decide_eq_false h]; exact decide_eq_false (by omega)
end Go.Proofs.Ytabindnaedchgaa.Rf
