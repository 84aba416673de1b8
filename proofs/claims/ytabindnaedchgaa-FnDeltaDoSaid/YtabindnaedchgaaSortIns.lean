/- Entries put in one by one by their stems: the one sorted order. Plain. -/
import Derived.Test.YtabindnaedchgaaRtJ
import Derived.Sort.LotA
import Derived.Sort.Walk0
namespace Go.Proofs.Ytabindnaedchgaa.Rf
open Go Go.RowKit
set_option linter.unusedVariables false
set_option linter.unusedSimpArgs false

def ltE (a b : (ByteArray × ByteArray)) : Bool := Op.bytesLess a.1.toList b.1.toList
theorem ltE_eq (a b : (ByteArray × ByteArray)) : ltE a b = Go.Sort.ltStr a.1.toList b.1.toList := Go.Proofs.bytesLess_eq _ _
theorem ltE_irrefl (a : (ByteArray × ByteArray)) : ltE a a = false := by
  rw [ltE_eq]
  exact Go.Sort.swo_ltStr.irrefl _
theorem ltE_trans {a b c : (ByteArray × ByteArray)} (h1 : ltE a b = true) (h2 : ltE b c = true) : ltE a c = true := by
  rw [ltE_eq] at *
  exact Go.Sort.swo_ltStr.trans _ _ _ h1 h2
theorem ltE_ntrans {a b c : (ByteArray × ByteArray)} (h1 : ltE a b = false) (h2 : ltE b c = false) : ltE a c = false := by
  rw [ltE_eq] at *
  exact Go.Sort.swo_ltStr.ntrans _ _ _ h1 h2
theorem ltE_asymm {a b : (ByteArray × ByteArray)} (h : ltE a b = true) : ltE b a = false := by
  cases h2 : ltE b a
  · rfl
  · have h3 := ltE_trans h h2
    rw [ltE_irrefl] at h3
    cases h3
theorem ltE_tri {a b : (ByteArray × ByteArray)} (h1 : ltE a b = false) (h2 : ltE b a = false) : a.1.toList = b.1.toList := by
  rw [ltE_eq] at *
  simp only [Go.Sort.ltStr, decide_eq_false_iff_not, List.not_lt] at h1 h2
  exact List.le_antisymm h2 h1
/-- An entry put in ahead of the first one whose stem is no less. -/
def insE (e : (ByteArray × ByteArray)) : List (ByteArray × ByteArray) → List (ByteArray × ByteArray)
  | [] => [e]
  | x :: xs => if ltE x e = true then x :: insE e xs else e :: x :: xs
theorem insE_perm (e : (ByteArray × ByteArray)) : ∀ l, (insE e l).Perm (e :: l)
  | [] => .refl _
  | x :: xs => by
    unfold insE
    split
    · exact ((insE_perm e xs).cons x).trans (.swap e x xs)
    · exact .refl _
theorem insE_sorted (e : (ByteArray × ByteArray)) : ∀ l, l.Pairwise (fun a b => ltE b a = false) → (insE e l).Pairwise (fun a b => ltE b a = false)
  | [], _ => by simp [insE]
  | x :: xs, h => by
    unfold insE
    have h' := List.pairwise_cons.1 h
    by_cases c : ltE x e = true
    · rw [if_pos c]
      refine List.pairwise_cons.2 ⟨fun b hb => ?_, insE_sorted e xs h'.2⟩
      rcases List.mem_cons.1 ((insE_perm e xs).mem_iff.1 hb) with z | hb
      · rw [z]
        exact ltE_asymm c
      · exact h'.1 b hb
    · rw [if_neg c]
      have c' : ltE x e = false := by simpa using c
      refine List.pairwise_cons.2 ⟨fun b hb => ?_, h⟩
      rcases List.mem_cons.1 hb with z | hb
      · rw [z]
        exact c'
      · exact ltE_ntrans (h'.1 b hb) c'
def sortE (xs : List (ByteArray × ByteArray)) : List (ByteArray × ByteArray) := xs.foldl (fun l e => insE e l) []
theorem fold_perm : ∀ (xs l : List (ByteArray × ByteArray)), (xs.foldl (fun l e => insE e l) l).Perm (l ++ xs)
  | [], l => by simp
  | x :: xs, l => by
    refine (fold_perm xs (insE x l)).trans ?_
    refine ((insE_perm x l).append_right xs).trans ?_
    exact (List.perm_middle (a := x) (l₁ := l) (l₂ := xs)).symm
theorem fold_sorted : ∀ (xs l : List (ByteArray × ByteArray)), l.Pairwise (fun a b => ltE b a = false) → (xs.foldl (fun l e => insE e l) l).Pairwise (fun a b => ltE b a = false)
  | [], l, h => h
  | x :: xs, l, h => fold_sorted xs _ (insE_sorted x l h)
theorem stem_inj : ∀ (xs : List (ByteArray × ByteArray)), (xs.map (fun e => e.1)).Pairwise (fun a b => a ≠ b) → ∀ a ∈ xs, ∀ b ∈ xs, a.1 = b.1 → a = b
  | [], _, a, ha, _, _, _ => by simp at ha
  | x :: xs, h, a, ha, b, hb, e => by
    rw [List.map_cons, List.pairwise_cons] at h
    rcases List.mem_cons.1 ha with za | ha' <;> rcases List.mem_cons.1 hb with zb | hb'
    · rw [za, zb]
    · rw [za] at e
      exact absurd e (h.1 _ (List.mem_map.2 ⟨b, hb', rfl⟩))
    · rw [zb] at e
      exact absurd e.symm (h.1 _ (List.mem_map.2 ⟨a, ha', rfl⟩))
    · exact stem_inj xs h.2 a ha' b hb' e
theorem sort_unique {xs ys : List (ByteArray × ByteArray)} (hd : (xs.map (fun e => e.1)).Pairwise (fun a b => a ≠ b)) (hp : ys.Perm xs) (hs : ys.Pairwise (fun a b => ltE b a = false)) : ys = sortE xs := by
  have hq : (sortE xs).Perm xs := by simpa [sortE] using fold_perm xs []
  refine List.Perm.eq_of_pairwise (le := fun a b => ltE b a = false) ?_ hs (fold_sorted xs [] .nil) (hp.trans hq.symm)
  intro a b ha hb h1 h2
  have e : a.1.toList = b.1.toList := ltE_tri h2 h1
  refine stem_inj xs hd a (hp.mem_iff.1 ha) b (hq.mem_iff.1 hb) ?_
  rw [ByteArray.toList_eq, ByteArray.toList_eq] at e
  exact ByteArray.ext (Array.toList_inj.1 e)
/-- What is sorted already stays. -/
theorem insE_last (e : (ByteArray × ByteArray)) : ∀ l, (∀ x ∈ l, ltE x e = true) → insE e l = l ++ [e]
  | [], _ => rfl
  | x :: xs, h => by
    unfold insE
    rw [if_pos (h x List.mem_cons_self), insE_last e xs (fun y hy => h y (List.mem_cons_of_mem _ hy))]
    rfl
theorem fold_self : ∀ (xs l : List (ByteArray × ByteArray)), (l ++ xs).Pairwise (fun a b => ltE a b = true) → xs.foldl (fun l e => insE e l) l = l ++ xs
  | [], l, _ => by simp
  | x :: xs, l, h => by
    have h1 : ∀ y ∈ l, ltE y x = true := fun y hy => (List.pairwise_append.1 h).2.2 y hy x List.mem_cons_self
    rw [List.foldl_cons, insE_last x l h1, fold_self xs (l ++ [x]) (by simpa using h)]
    simp
theorem sortE_append (xs ys : List (ByteArray × ByteArray)) (h : xs.Pairwise (fun a b => ltE a b = true)) : sortE (xs ++ ys) = ys.foldl (fun l e => insE e l) xs := by
  unfold sortE
  rw [List.foldl_append, fold_self xs [] (by simpa using h)]
  rfl
end Go.Proofs.Ytabindnaedchgaa.Rf
