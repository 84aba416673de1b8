/- SplitBack, plain. -/
import Derived.Test.YtndjhgjakdkkaaaDoorPuBase
import Derived.Test.YtndjhgjakdkkaaaDoorMspecSplitBack
import Derived.Test.YtndjhgjakdkkaaaDoorMimplSplitBack
import Derived.Test.YtndjhgjakdkkaaaDoorMlawsFnExactSplitBack
import Derived.Lib.Replace
namespace Go.Proofs.YtndjhgjakdkkaaaDoor.M
open Go.RowKit Go.Proofs.YtndjhgjakdkkaaaDoorW.PrintWords Go.Proofs.YtndjhgjakdkkaaaDoor.Pu
set_option linter.unusedVariables false
set_option linter.unusedSimpArgs false
open Go.Lib in
theorem replaceK_dash : ∀ (l : List UInt8) (k : Nat), count l [45] = k → replaceK [45] [] k l = l.filter (fun b => b != 45)
  | [], k, h => by
    have h0 : count ([] : List UInt8) [45] = 0 := by rw [count_one]; rfl
    rw [h0] at h
    subst h
    rfl
  | b :: l, k, h => by
    by_cases e : b = 45
    · subst e
      rw [count_cons_eq] at h
      obtain ⟨j, rfl⟩ : ∃ j, k = j + 1 := ⟨k - 1, by omega⟩
      have hix : index (45 :: l) [45] = ((0 : Nat) : Int) := by rw [index]; simp [List.isPrefixOf]
      rw [replaceK_hit [45] [] j (45 :: l) 0 hix]
      have ih := replaceK_dash l j (by omega)
      simpa using ih
    · rw [count_cons_ne b 45 l e] at h
      have ih := replaceK_dash l k h
      have hf : (b :: l).filter (fun b => b != 45) = b :: l.filter (fun b => b != 45) := by
        rw [List.filter_cons, if_pos (by simpa using e)]
      rw [hf, ← ih]
      cases k with
      | zero => rfl
      | succ j =>
        obtain ⟨i, hi⟩ := index_of_count (s := l) (old := [45]) (by omega)
        have hp : ([45] : List UInt8).isPrefixOf (b :: l) = false := by simp [List.isPrefixOf, Ne.symm e]
        have hix : index (b :: l) [45] = ((i + 1 : Nat) : Int) := by
          rw [index, hp, if_neg (by simp), if_neg (fun z => by have := beq_iff_eq.1 z; omega), hi]
          omega
        rw [replaceK_hit [45] [] j (b :: l) (i + 1) hix, replaceK_hit [45] [] j l i hi]
        simp
def noDash (s : ByteArray) : ByteArray := ⟨(s.data.toList.filter (fun b => b != 45)).toArray⟩
theorem impl_SplitBack_eq (s : ByteArray) (h : s.size ≤ 1048576) : impl_SplitBack.f s = some (noDash s) := by
  unfold impl_SplitBack.f strings_ReplaceAll.f
  have c1 : s.size < 4294967281 := by omega
  have c2 : 1 ≤ (⟨#[45]⟩ : ByteArray).size := Nat.le_refl _
  have c3 : s.size + Lib.countB s (⟨#[45]⟩ : ByteArray) * (⟨#[]⟩ : ByteArray).size ≤ 140737488355328 := by
    show s.size + Lib.countB s (⟨#[45]⟩ : ByteArray) * 0 ≤ _
    omega
  rw [if_pos c1, if_pos c2, if_pos c3]
  simp only [Option.bind_some]
  congr 2
  show _ = (noDash s).data
  unfold noDash
  congr 1
  show Lib.replaceAll s.data.toList [45] [] = _
  unfold Lib.replaceAll Lib.replace
  have hne : (([45] : List UInt8) == []) = false := rfl
  rw [hne, if_neg (by simp)]
  have hn : Lib.replaceNum s.data.toList [45] (-1) = Lib.count s.data.toList [45] := by
    unfold Lib.replaceNum
    rw [if_pos (.inl (by omega))]
  rw [hn]
  exact replaceK_dash _ _ rfl
theorem extract_one (s : ByteArray) (i : Nat) (h : i < s.size) : s.extract i (i + 1) = (⟨#[s[i]]⟩ : ByteArray) := by
  refine ByteArray.ext_getElem (by rw [ByteArray.size_extract]; show min (i + 1) s.size - i = 1; omega) (fun j h1 h2 => ?_)
  rw [ByteArray.getElem_extract]
  have hj : j = 0 := by
    have : j < 1 := h2
    omega
  subst hj
  rfl
theorem spec_SplitBack_ev (s : ByteArray) (h : s.size ≤ 1048576) : Ev (fun k => spec_SplitBack.f k s) (noDash s) := by
  unfold spec_SplitBack.f
  refine fold_loop (g := fun k b x => spec_SplitBack.l0 k s b x) s.size (fun i => (⟨((s.data.toList.take i).filter (fun b => b != 45)).toArray⟩ : ByteArray)) (noDash s) ?_ ?_
  · intro i hi hr
    have hl : i < s.data.toList.length := by simpa using hi
    have c1 : (i : Int) < (s.size : Int) := by omega
    have c2 : (0 : Int) ≤ (i : Int) := by omega
    have w1 : wrap64 ((i : Int) + 1) = (i : Int) + 1 := wid (by omega) (by omega)
    have c3 : (i : Int) ≤ (i : Int) + 1 := by omega
    have c6 : (i : Int) + 1 ≤ (s.size : Int) := by omega
    have e0 : (i : Int).toNat = i := by omega
    have e1 : ((i : Int) + 1).toNat = i + 1 := by omega
    have hb : bt s (i : Int) = (s[i].toNat : Int) := by rw [bt_nat, dif_pos hi]
    have ht : s.data.toList.take (i + 1) = s.data.toList.take i ++ [s[i]] := by
      rw [List.take_succ_eq_append_getElem hl]
      rfl
    apply Ev.succ
    by_cases e : s[i] = 45
    · have e' : bt s (i : Int) = 45 := by rw [hb, e]; rfl
      simp only [spec_SplitBack.l0, c1, c2, e', w1, if_true]
      simp only [ht, List.filter_append, List.filter_cons, e, bne_self_eq_false, Bool.false_eq_true, if_false, List.filter_nil, List.append_nil] at hr
      exact hr
    · have e' : ¬ bt s (i : Int) = 45 := by
        rw [hb]
        intro h45
        apply e
        apply UInt8.toNat_inj.1
        show _ = 45
        omega
      have hz : (⟨((s.data.toList.take i).filter (fun b => b != 45)).toArray⟩ : ByteArray).size ≤ i := by
        show ((s.data.toList.take i).filter (fun b => b != 45)).toArray.size ≤ i
        have := List.length_filter_le (fun b => b != 45) (s.data.toList.take i)
        simp only [List.size_toArray]
        have h2 := List.length_take_le i s.data.toList
        omega
      have c7 : (⟨((s.data.toList.take i).filter (fun b => b != 45)).toArray⟩ : ByteArray).size + (s.extract i (i + 1)).size ≤ 9223372036854775807 := by rw [ByteArray.size_extract]; omega
      simp only [spec_SplitBack.l0, c1, c2, e', c3, w1, c6, e0, e1, c7, if_true, if_false]
      have hs : (⟨((s.data.toList.take i).filter (fun b => b != 45)).toArray⟩ : ByteArray) ++ s.extract i (i + 1) = (⟨((s.data.toList.take (i + 1)).filter (fun b => b != 45)).toArray⟩ : ByteArray) := by
        rw [extract_one s i hi, ht, List.filter_append, List.filter_cons, if_pos (by simpa using e), List.filter_nil]
        apply ByteArray.ext
        rw [ByteArray.data_append]
        simp
      rw [hs]
      exact hr
  · apply Ev.succ
    simp only [spec_SplitBack.l0, Int.lt_irrefl, if_false]
    refine Ev.cast (Ev.now _) ?_
    unfold noDash
    rw [List.take_of_length_le (by simp)]
theorem FnExactSplitBack_pure (t : ByteArray) (ht : t.size ≤ 140737488351232) : ∃ k, laws_FnExactSplitBack.f k t = some true := by
  apply Ev.rounds (g := fun k => laws_FnExactSplitBack.f k t)
  unfold laws_FnExactSplitBack.f
  by_cases c0 : (t.size : Int) > 1048576
  · simp only [c0, if_true]
    exact Ev.now _
  · simp only [c0, if_false]
    refine Ev.bind (spec_SplitBack_ev t (by omega)) ?_
    simp only [impl_SplitBack_eq t (by omega), Option.bind_some, if_true]
    exact Ev.now _
end Go.Proofs.YtndjhgjakdkkaaaDoor.M
