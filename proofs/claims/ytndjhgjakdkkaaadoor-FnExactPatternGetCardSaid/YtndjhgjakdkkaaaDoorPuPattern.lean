/- The plain meaning of PatternOk in the program and in the reference, and of the copies and comparisons of a pattern. -/
import Derived.Test.YtndjhgjakdkkaaaDoorPuBase
import Derived.Test.YtndjhgjakdkkaaaDoorMlawsszPattern
import Derived.Test.YtndjhgjakdkkaaaDoorMspecPatternOk
import Derived.Test.YtndjhgjakdkkaaaDoorMimplPatternOk
import Derived.Test.YtndjhgjakdkkaaaDoorMlawstoPattern
import Derived.Test.YtndjhgjakdkkaaaDoorMlawseqPattern
namespace Go.Proofs.YtndjhgjakdkkaaaDoor.M
open Go.RowKit Go.Proofs.YtndjhgjakdkkaaaDoorW.PrintWords Go.Proofs.YtndjhgjakdkkaaaDoor.Pu
set_option linter.unusedVariables false
set_option linter.unusedSimpArgs false

def figOk (n : Int) : Prop := 0 ≤ n ∧ n ≤ 9
instance (n : Int) : Decidable (figOk n) := inferInstanceAs (Decidable (_ ∧ _))
def signOk (s : ByteArray) (i : Nat) : Prop := (bt s i = 46 ∧ (i = 0 ∨ i + 1 = s.size)) ∨ (97 ≤ bt s i ∧ bt s i ≤ 122)
instance (s : ByteArray) (i : Nat) : Decidable (signOk s i) := inferInstanceAs (Decidable (_ ∨ _))
def patOk (s : ByteArray) (ns : List Int) : Bool :=
  decide (∀ i, i < s.size → signOk s i) && (decide (∀ i, i < ns.length → figOk (rd ns i)) && (decide (1 ≤ s.size ∧ s.size ≤ 8) && decide (ns.length = s.size + 1)))

theorem within_eq (a b c : Int) : impl_within.f a b c = some (decide (b ≤ a ∧ a ≤ c)) := by
  unfold impl_within.f
  by_cases h : a ≥ b
  · have h' : b ≤ a := h
    simp [h']
  · have h' : ¬ b ≤ a := h
    simp [h']
theorem l1In_eq (a b c : Int) : spec_l1In.f a b c = some (decide (b ≤ a ∧ a ≤ c)) := by
  unfold spec_l1In.f
  by_cases h : a ≥ b
  · have h' : b ≤ a := h
    simp [h']
  · have h' : ¬ b ≤ a := h
    simp [h']

theorem spec_PatternOk_l1 (s : ByteArray) (ns : List Int) (hs : s.size ≤ 9223372036854775800) (hn : ns.length ≤ 9223372036854775800) :
    Ev (fun k => spec_PatternOk.l1 k (s.size : Int) 0 s ns) (decide (∀ i, i < ns.length → figOk (rd ns i)) && (decide (1 ≤ s.size ∧ s.size ≤ 8) && decide (ns.length = s.size + 1))) := by
  refine Ev.cast (all_loop (g := fun k x => spec_PatternOk.l1 k (s.size : Int) x s ns) ns.length (fun i => figOk (rd ns i)) false (decide (1 ≤ s.size ∧ s.size ≤ 8) && decide (ns.length = s.size + 1)) ?_ ?_ ?_) ?_
  · intro i r hi hp h
    have h1 : (i : Int) < (ns.length : Int) := by omega
    have h2 : (0 : Int) ≤ (i : Int) := by omega
    have h3 : wrap64 ((i : Int) + 1) = (i : Int) + 1 := wid (by omega) (by omega)
    have h4 : decide ((0 : Int) ≤ rd ns i ∧ rd ns i ≤ 9) = true := decide_eq_true hp
    apply Ev.succ
    simp only [spec_PatternOk.l1, h1, h2, h3, l1In_eq, h4, Option.bind_some, if_true]
    exact h
  · intro i hi hp
    have h1 : (i : Int) < (ns.length : Int) := by omega
    have h2 : (0 : Int) ≤ (i : Int) := by omega
    have h4 : decide ((0 : Int) ≤ rd ns i ∧ rd ns i ≤ 9) = false := decide_eq_false hp
    apply Ev.succ
    simp only [spec_PatternOk.l1, h1, h2, l1In_eq, h4, Option.bind_some, if_true, Bool.false_eq_true, if_false]
    exact Ev.now _
  · have h3 : wrap64 ((s.size : Int) + 1) = (s.size : Int) + 1 := wid (by omega) (by omega)
    apply Ev.succ
    simp only [spec_PatternOk.l1, Int.lt_irrefl, h3, l1In_eq, Option.bind_some, if_false]
    by_cases h : 1 ≤ s.size ∧ s.size ≤ 8
    · have h4 : decide ((1 : Int) ≤ (s.size : Int) ∧ (s.size : Int) ≤ 8) = true := decide_eq_true (by omega)
      simp only [h4, if_true, h, decide_true, Bool.true_and]
      refine Ev.cast (Ev.now _) ?_
      by_cases e : ns.length = s.size + 1
      · have : (ns.length : Int) = (s.size : Int) + 1 := by omega
        simp [e]
      · have : ¬ (ns.length : Int) = (s.size : Int) + 1 := by omega
        simp [e, this]
    · have h4 : decide ((1 : Int) ≤ (s.size : Int) ∧ (s.size : Int) ≤ 8) = false := decide_eq_false (by omega)
      simp only [h4, Bool.false_eq_true, if_false, h, decide_false, Bool.false_and]
      exact Ev.now _
  · by_cases h : ∀ i, i < ns.length → figOk (rd ns i) <;> simp [h]

theorem spec_PatternOk_ev (s : ByteArray) (ns : List Int) (hs : s.size ≤ 9223372036854775800) (hn : ns.length ≤ 9223372036854775800) :
    Ev (fun k => spec_PatternOk.f k s ns) (patOk s ns) := by
  unfold spec_PatternOk.f
  refine Ev.cast (all_loop (g := fun k x => spec_PatternOk.l0 k (s.size : Int) x s ns) s.size (signOk s) false _ ?_ ?_ ?_) (r := if ∀ i, i < s.size → signOk s i then (decide (∀ i, i < ns.length → figOk (rd ns i)) && (decide (1 ≤ s.size ∧ s.size ≤ 8) && decide (ns.length = s.size + 1))) else false) ?_
  · intro i r hi hp h
    have h1 : (i : Int) < (s.size : Int) := by omega
    have h2 : (0 : Int) ≤ (i : Int) := by omega
    have h3 : wrap64 ((i : Int) + 1) = (i : Int) + 1 := wid (by omega) (by omega)
    have h5 : wrap64 ((s.size : Int) - 1) = (s.size : Int) - 1 := wid (by omega) (by omega)
    apply Ev.succ
    simp only [spec_PatternOk.l0, h1, h2, h3, h5, if_true]
    by_cases c : bt s i = 46
    · simp only [c, if_true]
      by_cases c0 : (i : Int) = 0
      · simp only [c0, if_true]
        rw [c0] at h
        exact h
      · simp only [c0, if_false]
        by_cases c1 : (i : Int) = (s.size : Int) - 1
        · simp only [c1, if_true]
          rw [c1] at h
          exact h
        · rcases hp with ⟨_, hp | hp⟩ | hp
          · omega
          · omega
          · omega
    · rcases hp with ⟨hp, _⟩ | hp
      · exact absurd hp c
      · have c2 : ¬ bt s i < 97 := by omega
        have c3 : ¬ bt s i > 122 := by omega
        simp only [c, c2, c3, if_false]
        exact h
  · intro i hi hp
    have h1 : (i : Int) < (s.size : Int) := by omega
    have h2 : (0 : Int) ≤ (i : Int) := by omega
    have h5 : wrap64 ((s.size : Int) - 1) = (s.size : Int) - 1 := wid (by omega) (by omega)
    have hq := not_or.1 hp
    apply Ev.succ
    simp only [spec_PatternOk.l0, h1, h2, h5, if_true]
    by_cases c : bt s i = 46
    · have c0 : ¬ (i : Int) = 0 := fun e => hq.1 ⟨c, .inl (by omega)⟩
      have c1 : ¬ (i : Int) = (s.size : Int) - 1 := fun e => hq.1 ⟨c, .inr (by omega)⟩
      simp only [c, c0, c1, if_true, if_false]
      exact Ev.now _
    · simp only [c, if_false]
      by_cases c2 : bt s i < 97
      · simp only [c2, if_true]
        exact Ev.now _
      · have c3 : bt s i > 122 := by
          have := hq.2
          omega
        simp only [c2, c3, if_true, if_false]
        exact Ev.now _
  · apply Ev.succ
    simp only [spec_PatternOk.l0, Int.lt_irrefl, if_false]
    exact spec_PatternOk_l1 s ns hs hn
  · unfold patOk
    by_cases h : ∀ i, i < s.size → signOk s i <;> simp [h]

theorem impl_lower_ev (s : ByteArray) (hs : s.size ≤ 9223372036854775800) : Ev (fun k => impl_lower.f k s) (decide (∀ i, i < s.size → 97 ≤ bt s i ∧ bt s i ≤ 122)) := by
  unfold impl_lower.f
  refine Ev.cast (all_loop (g := fun k x => impl_lower.l0 k s (s.size : Int) x) s.size (fun i => 97 ≤ bt s i ∧ bt s i ≤ 122) false true ?_ ?_ ?_) ?_
  · intro i r hi hp h
    have h1 : (i : Int) < (s.size : Int) := by omega
    have h2 : (0 : Int) ≤ (i : Int) := by omega
    have h3 : wrap64 ((i : Int) + 1) = (i : Int) + 1 := wid (by omega) (by omega)
    have c2 : ¬ bt s i < 97 := by omega
    have c3 : ¬ bt s i > 122 := by omega
    apply Ev.succ
    simp only [impl_lower.l0, h1, h2, h3, c2, c3, if_true, if_false]
    exact h
  · intro i hi hp
    have h1 : (i : Int) < (s.size : Int) := by omega
    have h2 : (0 : Int) ≤ (i : Int) := by omega
    apply Ev.succ
    by_cases c2 : bt s i < 97
    · simp only [impl_lower.l0, h1, h2, c2, if_true]
      exact Ev.now _
    · have c3 : bt s i > 122 := by omega
      simp only [impl_lower.l0, h1, h2, c2, c3, if_true, if_false]
      exact Ev.now _
  · apply Ev.succ
    simp only [impl_lower.l0, Int.lt_irrefl, if_false]
    exact Ev.now _
  · by_cases h : ∀ i, i < s.size → 97 ≤ bt s i ∧ bt s i ≤ 122 <;> simp [h]

theorem bt_extract (s : ByteArray) (a b i : Nat) (hb : b ≤ s.size) (hi : i < b - a) : bt (s.extract a b) i = bt s (a + i : Nat) := by
  rw [bt_nat, bt_nat, dif_pos (by rw [ByteArray.size_extract]; omega), dif_pos (by omega)]
  simp [ByteArray.getElem_extract]

theorem impl_PatternOk_l1 (ns : List Int) (hn : ns.length ≤ 9223372036854775800) : Ev (fun k => impl_PatternOk.l1 k ns (ns.length : Int) 0) (decide (∀ i, i < ns.length → figOk (rd ns i))) := by
  refine Ev.cast (all_loop (g := fun k x => impl_PatternOk.l1 k ns (ns.length : Int) x) ns.length (fun i => figOk (rd ns i)) false true ?_ ?_ ?_) ?_
  · intro i r hi hp h
    have h1 : (i : Int) < (ns.length : Int) := by omega
    have h2 : (0 : Int) ≤ (i : Int) := by omega
    have h3 : wrap64 ((i : Int) + 1) = (i : Int) + 1 := wid (by omega) (by omega)
    have h4 : decide ((0 : Int) ≤ rd ns i ∧ rd ns i ≤ 9) = true := decide_eq_true hp
    apply Ev.succ
    simp only [impl_PatternOk.l1, h1, h2, h3, within_eq, h4, Option.bind_some, if_true]
    exact h
  · intro i hi hp
    have h1 : (i : Int) < (ns.length : Int) := by omega
    have h2 : (0 : Int) ≤ (i : Int) := by omega
    have h4 : decide ((0 : Int) ≤ rd ns i ∧ rd ns i ≤ 9) = false := decide_eq_false hp
    apply Ev.succ
    simp only [impl_PatternOk.l1, h1, h2, within_eq, h4, Option.bind_some, if_true, Bool.false_eq_true, if_false]
    exact Ev.now _
  · apply Ev.succ
    simp only [impl_PatternOk.l1, Int.lt_irrefl, if_false]
    exact Ev.now _
  · by_cases h : ∀ i, i < ns.length → figOk (rd ns i) <;> simp [h]

theorem impl_PatternOk_l0 (s : ByteArray) (ns : List Int) (hs : s.size ≤ 9223372036854775800) (hn : ns.length ≤ 9223372036854775800) :
    Ev (fun k => impl_PatternOk.l0 k (s.size : Int) 0 s ns) (decide (∀ i, i < s.size → signOk s i) && decide (∀ i, i < ns.length → figOk (rd ns i))) := by
  refine Ev.cast (all_loop (g := fun k x => impl_PatternOk.l0 k (s.size : Int) x s ns) s.size (signOk s) false (decide (∀ i, i < ns.length → figOk (rd ns i))) ?_ ?_ ?_) ?_
  · intro i r hi hp h
    have h1 : (i : Int) < (s.size : Int) := by omega
    have h2 : (0 : Int) ≤ (i : Int) := by omega
    have h3 : wrap64 ((i : Int) + 1) = (i : Int) + 1 := wid (by omega) (by omega)
    have h5 : wrap64 ((s.size : Int) - 1) = (s.size : Int) - 1 := wid (by omega) (by omega)
    have h6 : (i : Int) ≤ (i : Int) + 1 := by omega
    have h7 : (i : Int) + 1 ≤ (s.size : Int) := by omega
    have e1 : ((i : Int) + 1).toNat = i + 1 := by omega
    have e0 : ((i : Int)).toNat = i := by omega
    have hlow := impl_lower_ev (s.extract i (i + 1)) (by rw [ByteArray.size_extract]; omega)
    have hval : (97 ≤ bt s i ∧ bt s i ≤ 122) → decide (∀ j, j < (s.extract i (i + 1)).size → 97 ≤ bt (s.extract i (i + 1)) j ∧ bt (s.extract i (i + 1)) j ≤ 122) = true := by
      intro hb
      refine decide_eq_true (fun j hj => ?_)
      rw [ByteArray.size_extract] at hj
      obtain rfl : j = 0 := by omega
      rw [bt_extract s i (i + 1) 0 (by omega) (by omega)]
      exact hb
    apply Ev.succ
    simp only [impl_PatternOk.l0, h1, h2, h3, h5, h6, h7, e0, e1, if_true]
    by_cases c : bt s i = 46
    · simp only [c, if_true]
      by_cases c0 : (i : Int) = 0
      · simp only [c0, if_true]
        rw [c0] at h
        exact h
      · simp only [c0, if_false]
        by_cases c1 : (i : Int) = (s.size : Int) - 1
        · simp only [c1, if_true]
          rw [c1] at h
          exact h
        · rcases hp with ⟨_, hp | hp⟩ | hp
          · omega
          · omega
          · omega
    · rcases hp with ⟨hp, _⟩ | hp
      · exact absurd hp c
      · simp only [c, if_false]
        rw [hval hp] at hlow
        refine Ev.bind hlow ?_
        simp only [if_true]
        exact h
  · intro i hi hp
    have h1 : (i : Int) < (s.size : Int) := by omega
    have h2 : (0 : Int) ≤ (i : Int) := by omega
    have h3 : wrap64 ((i : Int) + 1) = (i : Int) + 1 := wid (by omega) (by omega)
    have h5 : wrap64 ((s.size : Int) - 1) = (s.size : Int) - 1 := wid (by omega) (by omega)
    have h6 : (i : Int) ≤ (i : Int) + 1 := by omega
    have h7 : (i : Int) + 1 ≤ (s.size : Int) := by omega
    have e1 : ((i : Int) + 1).toNat = i + 1 := by omega
    have e0 : ((i : Int)).toNat = i := by omega
    have hq := not_or.1 hp
    have hlow := impl_lower_ev (s.extract i (i + 1)) (by rw [ByteArray.size_extract]; omega)
    have hval : decide (∀ j, j < (s.extract i (i + 1)).size → 97 ≤ bt (s.extract i (i + 1)) j ∧ bt (s.extract i (i + 1)) j ≤ 122) = false := by
      refine decide_eq_false (fun hb => hq.2 ?_)
      have hz := hb 0 (by rw [ByteArray.size_extract]; omega)
      rw [bt_extract s i (i + 1) 0 (by omega) (by omega)] at hz
      exact hz
    rw [hval] at hlow
    apply Ev.succ
    simp only [impl_PatternOk.l0, h1, h2, h3, h5, h6, h7, e0, e1, if_true]
    by_cases c : bt s i = 46
    · have c0 : ¬ (i : Int) = 0 := fun e => hq.1 ⟨c, .inl (by omega)⟩
      have c1 : ¬ (i : Int) = (s.size : Int) - 1 := fun e => hq.1 ⟨c, .inr (by omega)⟩
      simp only [c, c0, c1, if_true, if_false]
      refine Ev.bind hlow ?_
      simp only [Bool.false_eq_true, if_false]
      exact Ev.now _
    · simp only [c, if_false]
      refine Ev.bind hlow ?_
      simp only [Bool.false_eq_true, if_false]
      exact Ev.now _
  · apply Ev.succ
    simp only [impl_PatternOk.l0, Int.lt_irrefl, if_false]
    exact impl_PatternOk_l1 ns hn
  · by_cases h : ∀ i, i < s.size → signOk s i <;> simp [h]

theorem impl_PatternOk_ev (s : ByteArray) (ns : List Int) (hs : s.size ≤ 9223372036854775800) (hn : ns.length ≤ 9223372036854775800) :
    Ev (fun k => impl_PatternOk.f k s ns) (patOk s ns) := by
  unfold impl_PatternOk.f
  have h3 : wrap64 ((s.size : Int) + 1) = (s.size : Int) + 1 := wid (by omega) (by omega)
  simp only [within_eq, Option.bind_some, h3]
  by_cases h : 1 ≤ s.size ∧ s.size ≤ 8
  · have h4 : decide ((1 : Int) ≤ (s.size : Int) ∧ (s.size : Int) ≤ 8) = true := decide_eq_true (by omega)
    simp only [h4, if_true]
    apply Ev.succ
    by_cases e : ns.length = s.size + 1
    · have e1 : ((ns.length : Int) != (s.size : Int) + 1) = false := by rw [bne_eq_false_iff_eq]; omega
      simp only [impl_PatternOk.j0, e1, Bool.false_eq_true, if_false]
      refine Ev.cast (impl_PatternOk_l0 s ns hs hn) ?_
      simp [patOk, h, e]
    · have e1 : ((ns.length : Int) != (s.size : Int) + 1) = true := by rw [bne_iff_ne]; omega
      simp only [impl_PatternOk.j0, e1, if_true]
      refine Ev.cast (Ev.now _) ?_
      simp [patOk, e]
  · have h4 : decide ((1 : Int) ≤ (s.size : Int) ∧ (s.size : Int) ≤ 8) = false := decide_eq_false (by omega)
    simp only [h4, Bool.false_eq_true, if_false]
    apply Ev.succ
    simp only [impl_PatternOk.j0, if_true]
    refine Ev.cast (Ev.now _) ?_
    have : decide (1 ≤ s.size ∧ s.size ≤ 8) = false := decide_eq_false h
    simp [patOk, this]

theorem toIntS_ev (xs : List Int) (h : xs.length ≤ 35184372088832) : Ev (fun k => laws_toIntS.f k xs) xs := by
  unfold laws_toIntS.f
  have h1 : (0 : Int) ≤ (xs.length : Int) := by omega
  have h2 : ((xs.length : Int)).toNat = xs.length := by omega
  simp only [h1, h2, h, if_true]
  refine Ev.cast (fold_loop (g := fun k ys x => laws_toIntS.l0 k xs ys x) xs.length (fun i => (xs.take i).map id ++ List.replicate (xs.length - i) 0) xs ?_ ?_) rfl |> fun z => (by simpa using z)
  · intro i hi hr
    have c1 : (i : Int) < (xs.length : Int) := by omega
    have c2 : (0 : Int) ≤ (i : Int) := by omega
    have c3 : wrap64 ((i : Int) + 1) = (i : Int) + 1 := wid (by omega) (by omega)
    have c4 : (i : Int) < (((xs.take i).map id ++ List.replicate (xs.length - i) 0).length : Int) := by simp; omega
    have c5 : ((i : Int)).toNat = i := by omega
    have c6 : rd xs i = id xs[i] := by simp [rd, hi]
    apply Ev.succ
    simp only [laws_toIntS.l0, c1, c2, c3, c4, c5, c6, if_true, copy_set id xs 0 i hi]
    exact hr
  · apply Ev.succ
    simp only [laws_toIntS.l0, Int.lt_irrefl, if_false]
    refine Ev.cast (Ev.now _) ?_
    simp
theorem toPattern_ev (s : ByteArray) (xs : List Int) (h : xs.length ≤ 35184372088832) : Ev (fun k => laws_toPattern.f k s xs) (s, xs) := by
  unfold laws_toPattern.f
  refine Ev.bind (toIntS_ev xs h) ?_
  exact Ev.now _
theorem eqIntS_refl (xs : List Int) (h : xs.length ≤ 9223372036854775800) : Ev (fun k => laws_eqIntS.f k xs xs) true := by
  unfold laws_eqIntS.f
  simp only [if_true]
  refine Ev.cast (all_loop (g := fun k x => laws_eqIntS.l0 k xs xs x) xs.length (fun _ => True) false true ?_ ?_ ?_) (by simp)
  · intro i r hi _ hr
    have c1 : (i : Int) < (xs.length : Int) := by omega
    have c2 : (0 : Int) ≤ (i : Int) := by omega
    have c3 : wrap64 ((i : Int) + 1) = (i : Int) + 1 := wid (by omega) (by omega)
    apply Ev.succ
    simp only [laws_eqIntS.l0, c1, c2, c3, if_true]
    exact hr
  · intro i hi hp
    exact absurd trivial hp
  · apply Ev.succ
    simp only [laws_eqIntS.l0, Int.lt_irrefl, if_false]
    exact Ev.now _
theorem eqPattern_refl (s : ByteArray) (xs : List Int) (h : xs.length ≤ 9223372036854775800) : Ev (fun k => laws_eqPattern.f k s xs s xs) true := by
  unfold laws_eqPattern.f
  simp only [if_true]
  refine Ev.bind (eqIntS_refl xs h) ?_
  simp only [if_true]
  exact Ev.now _
/-- What passes the law's measure is small. -/
theorem szPattern_small (s : ByteArray) (xs : List Int) (hs : s.size ≤ 9223372036854775807) (hn : xs.length ≤ 9223372036854775807) (left : Int) (h0 : 0 ≤ left) (h1 : left ≤ 1048576) :
    ∃ r, laws_szPattern.f s xs left = some r ∧ r ≤ left ∧ -1 ≤ r ∧ (0 ≤ r → (s.size : Int) + (xs.length : Int) + r = left) := by
  unfold laws_szPattern.f laws_szIntS.f
  have e1 : wrap64 (left - (s.size : Int)) = left - (s.size : Int) := wid (by omega) (by omega)
  rw [e1]
  by_cases c : left - (s.size : Int) < 0
  · rw [if_pos c]
    exact ⟨_, rfl, by omega, by omega, fun h => by omega⟩
  · rw [if_neg c]
    have e2 : wrap64 (left - (s.size : Int) - (xs.length : Int)) = left - (s.size : Int) - (xs.length : Int) := wid (by omega) (by omega)
    rw [e2]
    by_cases c2 : left - (s.size : Int) - (xs.length : Int) < 0
    · rw [if_pos c2]
      exact ⟨-1, by simp, by omega, by omega, fun h => by omega⟩
    · rw [if_neg c2]
      simp only [Option.bind_some, c2, if_false]
      exact ⟨_, rfl, by omega, by omega, fun h => by omega⟩
end Go.Proofs.YtndjhgjakdkkaaaDoor.M
