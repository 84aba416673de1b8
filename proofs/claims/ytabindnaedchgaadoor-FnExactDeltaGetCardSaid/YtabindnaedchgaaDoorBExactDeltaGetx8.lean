import Derived.Test.YtabindnaedchgaaDoorBExactDeltaGetx6
import Derived.Test.YtabindnaedchgaaDoorBExactDeltaGetx4
import Derived.Test.YtabindnaedchgaaDoorBExactDeltaGetx7
import Derived.Lib.SplitLaws
import Derived.Test.YtabindnaedchgaaDoorBExactDeltaGetx5
import Derived.Lib.Join
import Derived.Below
import Derived.Carry
import Derived.ChangeOld
import Derived.Lib.LaidTab
import Derived.ChangeShapes
import Derived.Test.YtabindnaedchgaaDoorRows
import Derived.Test.YtabindnaedchgaaDoorCards
import Derived.Test.YtabindnaedchgaaDoorTie
import Derived.WalkKit
import Derived.ProofKit
import Derived.OpenShut
import Derived.ShutString
import Derived.SizedLaws
import Derived.Deep.DeepHandedRow

section
/- A text cut at each of a byte, plain: strings.Split, strings.Cut and the reference's l1Cut. -/
namespace Go.Proofs.YtabindnaedchgaaDoor.M
open Go.RowKit Go.Proofs.YtabindnaedchgaaDoorW.PrintWords Go.Proofs.YtabindnaedchgaaDoor.Pu
set_option linter.unusedVariables false
set_option linter.unusedSimpArgs false
abbrev By := List UInt8
abbrev L (s : ByteArray) : By := s.data.toList
abbrev mk (l : By) : ByteArray := ⟨l.toArray⟩
theorem mk_L (s : ByteArray) : mk (L s) = s := Lib.mk_data s
theorem L_mk (l : By) : L (mk l) = l := rfl
theorem toList_L (s : ByteArray) : s.toList = L s := ByteArray.toList_eq s
theorem L_inj {a b : ByteArray} : L a = L b ↔ a = b := by rw [← toList_L, ← toList_L, toList_inj]
theorem size_L (s : ByteArray) : s.size = (L s).length := Lib.size_eq s
theorem L_append (a b : ByteArray) : L (a ++ b) = L a ++ L b := by simp [L, ByteArray.data_append]
theorem L_from (s : ByteArray) (a : Nat) : L (s.extract a s.size) = (L s).drop a := Lib.extract_to_end s a
theorem L_to (s : ByteArray) (a : Nat) : L (s.extract 0 a) = (L s).take a := Lib.extract_from_zero s a
theorem L_ext (s : ByteArray) (a b : Nat) : L (s.extract a b) = ((L s).drop a).take (b - a) := Lib.extract_data s a b
theorem bt_L (s : ByteArray) (i : Nat) (h : i < (L s).length) : bt s (i : Int) = (((L s)[i]).toNat : Int) := by
  rw [bt_nat, dif_pos (by rw [size_L]; exact h)]
  rfl
def pre (p : By) : List By → List By
  | [] => [p]
  | q :: qs => (p ++ q) :: qs
def cut (c : UInt8) : By → List By
  | [] => [[]]
  | b :: l => if b = c then [] :: cut c l else pre [b] (cut c l)
theorem cut_cons (c b : UInt8) (l : By) : cut c (b :: l) = if b = c then [] :: cut c l else pre [b] (cut c l) := rfl
theorem cut_ne (c : UInt8) : ∀ l, cut c l ≠ []
  | [] => by simp [cut]
  | b :: l => by
    rw [cut_cons]
    split
    · simp
    · cases cut c l <;> simp [pre]
theorem pre_nil {ps : List By} (h : ps ≠ []) : pre [] ps = ps := by
  cases ps with
  | nil => exact absurd rfl h
  | cons q qs => rfl
theorem pre_pre (p q : By) (ps : List By) : pre p (pre q ps) = pre (p ++ q) ps := by
  cases ps <;> simp [pre]
theorem cut_free (c : UInt8) : ∀ (p : By), c ∉ p → cut c p = [p]
  | [], _ => rfl
  | b :: p, h => by
    have hb : b ≠ c := fun e => h (by simp [e])
    rw [cut_cons]
    rw [if_neg hb, cut_free c p (fun hp => h (by simp [hp]))]
    rfl
theorem cut_at (c : UInt8) (r : By) : ∀ (p : By), c ∉ p → cut c (p ++ c :: r) = p :: cut c r
  | [], _ => by simp [cut]
  | b :: p, h => by
    have hb : b ≠ c := fun e => h (by simp [e])
    rw [List.cons_append]
    rw [cut_cons]
    rw [if_neg hb, cut_at c r p (fun hp => h (by simp [hp]))]
    rfl
theorem cut_len (c : UInt8) : ∀ l, (cut c l).length ≤ l.length + 1
  | [] => by simp [cut]
  | b :: l => by
    have ih := cut_len c l
    rw [cut_cons]
    split
    · simp; omega
    · cases hq : cut c l with
      | nil => simp [pre]
      | cons q qs => rw [hq] at ih; simp [pre] at ih ⊢; omega
theorem cut_piece (c : UInt8) : ∀ l, ∀ p ∈ cut c l, p.length ≤ l.length
  | [], p, hp => by simp [cut] at hp; simp [hp]
  | b :: l, p, hp => by
    rw [cut_cons] at hp
    split at hp
    · rcases List.mem_cons.1 hp with rfl | hp
      · simp
      · have := cut_piece c l p hp
        simp; omega
    · cases hq : cut c l with
      | nil => exact absurd hq (cut_ne c l)
      | cons q qs =>
        rw [hq] at hp
        rcases List.mem_cons.1 hp with rfl | hp
        · have := cut_piece c l q (by rw [hq]; exact List.mem_cons_self)
          simp; omega
        · have := cut_piece c l p (by rw [hq]; exact List.mem_cons_of_mem _ hp)
          simp; omega
theorem cut_lines (c : UInt8) : ∀ (ls : List By), (∀ p ∈ ls, c ∉ p) → cut c ((ls.map (· ++ [c])).flatten) = ls ++ [[]]
  | [], _ => rfl
  | p :: ls, h => by
    have e : (((p :: ls).map (· ++ [c])).flatten) = p ++ c :: ((ls.map (· ++ [c])).flatten) := by simp
    rw [e, cut_at c _ p (h p List.mem_cons_self), cut_lines c ls (fun q hq => h q (List.mem_cons_of_mem _ hq))]
    rfl
theorem splitK_cut (c : UInt8) : ∀ l : By, Lib.splitK [c] 0 (Lib.count l [c]) l = cut c l
  | [] => by rw [Lib.count_miss (by simp [Lib.index])]; rfl
  | b :: l => by
    have ih := splitK_cut c l
    by_cases h : b = c
    · subst h
      have hix : Lib.index (b :: l) [b] = 0 := by rw [Lib.index]; simp [List.isPrefixOf]
      rw [Lib.count_cons_eq, Nat.add_comm, Lib.splitK, if_neg (by rw [hix]; decide), hix]
      rw [cut_cons]
      rw [if_pos rfl, ← ih]
      simp
    · have hp : ([c] : List UInt8).isPrefixOf (b :: l) = false := by simp [List.isPrefixOf, Ne.symm h]
      have hix : Lib.index (b :: l) [c] = if Lib.index l [c] == -1 then -1 else Lib.index l [c] + 1 := by rw [Lib.index, hp]; simp
      rw [Lib.count_cons_ne b c l h]
      rw [cut_cons]
      rw [if_neg h, ← ih]
      cases hk : Lib.count l [c] with
      | zero => rfl
      | succ k =>
        have hne : Lib.index l [c] ≠ -1 := fun e => by rw [Lib.count_miss e] at hk; cases hk
        have hge := Lib.index_ge l [c]
        obtain ⟨j, hj⟩ : ∃ j : Nat, Lib.index l [c] = j := ⟨(Lib.index l [c]).toNat, by omega⟩
        have h1 : ¬ (Lib.index l [c] == -1) = true := fun e => hne (beq_iff_eq.1 e)
        rw [Lib.splitK, Lib.splitK, hix, if_neg h1, if_neg h1, hj, if_neg (by intro e; have := beq_iff_eq.1 e; omega)]
        have t1 : ((j : Int) + 1).toNat = j + 1 := by omega
        have t2 : ((j : Int)).toNat = j := by omega
        rw [t1, t2]
        simp [pre]
def cutS (c : UInt8) (s : ByteArray) : List ByteArray := (cut c (L s)).map mk
theorem split_eq (c : UInt8) (s : ByteArray) (hs : s.size < 4294967281) : strings_Split.f s (⟨#[c]⟩ : ByteArray) = some (cutS c s) := by
  unfold strings_Split.f
  rw [if_pos hs, if_pos (by show 1 ≤ 1; omega)]
  have h := Lib.splitB_data (⟨#[c]⟩ : ByteArray) 0 (Lib.countB s (⟨#[c]⟩ : ByteArray)) s
  have e : Lib.countB s (⟨#[c]⟩ : ByteArray) = Lib.count (L s) [c] := rfl
  rw [e] at h ⊢
  have h2 : (Lib.splitB (⟨#[c]⟩ : ByteArray) 0 (Lib.count (L s) [c]) s).map L = cut c (L s) := h.trans (splitK_cut c (L s))
  unfold cutS
  rw [← h2, List.map_map]
  congr 1
  have : (mk ∘ L) = (id : ByteArray → ByteArray) := funext mk_L
  rw [this, List.map_id]
theorem spec_l1Cut_ev (c : UInt8) (s : ByteArray) (hs : s.size ≤ 4294967281) : Ev (fun k => spec_l1Cut.f k s (c.toNat : Int)) (cutS c s) := by
  have key : ∀ (d i fr : Nat) (out : List ByteArray), s.size - i = d → fr ≤ i → i ≤ s.size → out.length ≤ i → Ev (fun k => spec_l1Cut.l0 k s (c.toNat : Int) out (fr : Int) (i : Int)) (out ++ (pre (((L s).drop fr).take (i - fr)) (cut c ((L s).drop i))).map mk) := by
    intro d
    induction d with
    | zero =>
      intro i fr out hd hf hi ho
      obtain rfl : i = s.size := by omega
      have c2 : (0 : Int) ≤ (fr : Int) := by omega
      have c3 : (fr : Int) ≤ (s.size : Int) := by omega
      have c4 : out.length < 8796093022208 := by omega
      apply Ev.succ
      simp only [spec_l1Cut.l0, Int.lt_irrefl, c2, c3, c4, if_true, if_false, Int.toNat_natCast]
      refine Ev.cast (Ev.now _) ?_
      have e1 : (L s).drop s.size = [] := List.drop_eq_nil_of_le (by rw [size_L]; exact Nat.le_refl _)
      rw [e1]
      simp only [cut, pre, List.append_nil, List.map_cons, List.map_nil]
      congr 2
      rw [← L_inj, L_ext, L_mk]
    | succ d ih =>
      intro i fr out hd hf hi ho
      have hl : i < (L s).length := by rw [← size_L]; omega
      have c1 : (i : Int) < (s.size : Int) := by omega
      have c2 : (0 : Int) ≤ (i : Int) := by omega
      have c5 : (0 : Int) ≤ (fr : Int) := by omega
      have c6 : (fr : Int) ≤ (i : Int) := by omega
      have c7 : (i : Int) ≤ (s.size : Int) := by omega
      have c4 : out.length < 8796093022208 := by omega
      have w1 : Aside0 (wrap64 ((i : Int) + 1) = ((i + 1 : Nat) : Int)) := ⟨by rw [wid (by omega) (by omega)]; omega⟩
      have e0 : (L s).drop i = (L s)[i] :: (L s).drop (i + 1) := List.drop_eq_getElem_cons hl
      apply Ev.succ
      by_cases h : (L s)[i] = c
      · have c3 : bt s (i : Int) = (c.toNat : Int) := by rw [bt_L s i hl, h]
        simp only [spec_l1Cut.l0, c1, c2, c3, c4, c5, c6, c7, w1.out, if_true, Int.toNat_natCast]
        refine Ev.cast (ih (i + 1) (i + 1) (out ++ [s.extract fr i]) (by omega) (Nat.le_refl _) (by omega) (by simp; omega)) ?_
        rw [e0]
        rw [cut_cons]
        rw [if_pos h, Nat.sub_self, List.take_zero, pre_nil (cut_ne _ _)]
        conv => rhs; rw [pre]
        simp only [List.append_nil, List.map_cons, List.append_assoc, List.singleton_append]
        congr 2
        rw [← L_inj, L_ext, L_mk]
      · have c3 : ¬ bt s (i : Int) = (c.toNat : Int) := by
          rw [bt_L s i hl]
          intro e
          exact h (UInt8.toNat_inj.1 (by omega))
        simp only [spec_l1Cut.l0, c1, c2, c3, w1.out, if_true, if_false]
        refine Ev.cast (ih (i + 1) fr out (by omega) (by omega) (by omega) (by omega)) ?_
        rw [e0]
        conv => rhs; rw [cut_cons, if_neg h, pre_pre]
        have e2 : ((L s).drop fr).take (i + 1 - fr) = ((L s).drop fr).take (i - fr) ++ [(L s)[i]] := by
          have hx : i - fr < ((L s).drop fr).length := by rw [List.length_drop]; omega
          have e3 : i + 1 - fr = (i - fr) + 1 := by omega
          rw [e3, List.take_succ_eq_append_getElem hx, List.getElem_drop]
          congr 3
          omega
        rw [e2]
  unfold spec_l1Cut.f
  have h := key s.size 0 0 [] (by omega) (Nat.le_refl _) (Nat.zero_le _) (Nat.le_refl _)
  refine Ev.cast h ?_
  simp only [List.drop_zero, Nat.sub_self, List.take_zero, List.nil_append]
  rw [pre_nil (cut_ne _ _)]
  rfl
theorem index_one (c : UInt8) (r : By) : ∀ p : By, c ∉ p → Lib.index (p ++ c :: r) [c] = (p.length : Int)
  | [], _ => by rw [List.nil_append, Lib.index]; simp [List.isPrefixOf]
  | b :: p, h => by
    have hb : b ≠ c := fun e => h (by simp [e])
    have hp : ([c] : List UInt8).isPrefixOf (b :: (p ++ c :: r)) = false := by simp [List.isPrefixOf, Ne.symm hb]
    have ih := index_one c r p (fun hq => h (by simp [hq]))
    rw [List.cons_append, Lib.index, hp]
    simp only [Bool.false_eq_true, if_false]
    rw [ih, if_neg (by intro e; have := beq_iff_eq.1 e; omega)]
    simp
theorem index_free (c : UInt8) : ∀ p : By, c ∉ p → Lib.index p [c] = -1
  | [], _ => by simp [Lib.index]
  | b :: p, h => by
    have hb : b ≠ c := fun e => h (by simp [e])
    have hp : ([c] : List UInt8).isPrefixOf (b :: p) = false := by simp [List.isPrefixOf, Ne.symm hb]
    have ih := index_free c p (fun hq => h (by simp [hq]))
    rw [Lib.index, hp]
    simp [ih]
theorem cut2_at (c : UInt8) (p r : By) (h : c ∉ p) : Lib.cut (p ++ c :: r) [c] = (p, r, true) := by
  unfold Lib.cut
  rw [index_one c r p h, if_pos (by omega), Int.toNat_natCast]
  simp
theorem cut2_free (c : UInt8) (p : By) (h : c ∉ p) : Lib.cut p [c] = (p, [], false) := by
  unfold Lib.cut
  rw [index_free c p h, if_neg (by omega)]
theorem cut2_small (l s : By) : (Lib.cut l s).1.length ≤ l.length ∧ (Lib.cut l s).2.1.length ≤ l.length := by
  unfold Lib.cut
  split
  · simp
    omega
  · simp
end Go.Proofs.YtabindnaedchgaaDoor.M
end

section
/- A delta's text, plain: the program writes what the reference writes. -/
namespace Go.Proofs.YtabindnaedchgaaDoor.M
open Go.RowKit Go.Proofs.YtabindnaedchgaaDoorW.PrintWords Go.Proofs.YtabindnaedchgaaDoor.Pu
set_option linter.unusedVariables false
set_option linter.unusedSimpArgs false
def accB (x : ByteArray) (ys : List ByteArray) : ByteArray := ys.foldl (· ++ ·) x
theorem accB_snoc (x : ByteArray) (ys : List ByteArray) (y : ByteArray) : accB x (ys ++ [y]) = accB x ys ++ y := by simp [accB, List.foldl_append]
theorem L_acc : ∀ (ys : List ByteArray) (x : ByteArray), L (accB x ys) = L x ++ (ys.map L).flatten
  | [], x => by simp [accB]
  | y :: ys, x => by
    have ih := L_acc ys (x ++ y)
    have e : accB x (y :: ys) = accB (x ++ y) ys := rfl
    rw [e, ih, L_append]
    simp
theorem acc_size (m : Nat) : ∀ (ys : List ByteArray) (x : ByteArray), (∀ y ∈ ys, y.size ≤ m) → (accB x ys).size ≤ x.size + m * ys.length
  | [], x, _ => by simp [accB]
  | y :: ys, x, h => by
    have ih := acc_size m ys (x ++ y) (fun z hz => h z (List.mem_cons_of_mem _ hz))
    have hy := h y List.mem_cons_self
    have e : accB x (y :: ys) = accB (x ++ y) ys := rfl
    rw [e]
    rw [ByteArray.size_append] at ih
    rw [List.length_cons, Nat.mul_add]
    omega
theorem acc_take {α : Type} (f : α → ByteArray) (x : ByteArray) (l : List α) (i : Nat) (h : i < l.length) : accB x ((l.take (i + 1)).map f) = accB x ((l.take i).map f) ++ f l[i] := by
  rw [List.take_succ_eq_append_getElem h, List.map_append, List.map_cons, List.map_nil, accB_snoc]
theorem word_size {s : ByteArray} (h : wordB s = true) : 1 ≤ s.size ∧ s.size ≤ 12 := by
  simp only [wordB, Bool.and_eq_true, decide_eq_true_eq] at h
  exact ⟨h.1, h.2.1⟩
theorem word_low {s : ByteArray} (h : wordB s = true) : ∀ j, j < s.size → lowP s j := by
  simp only [wordB, Bool.and_eq_true, decide_eq_true_eq] at h
  have h2 := h.2.2
  unfold lowB at h2
  by_cases c : ∀ j, j < s.size → lowP s j
  · exact c
  · rw [if_neg c] at h2
    cases h2
theorem part_size {s : ByteArray} (h : partB s = true) : s.size ≤ 4 ∧ ∀ j, j < s.size → lowP s j := by
  simp only [partB, Bool.and_eq_true, decide_eq_true_eq] at h
  refine ⟨h.2, ?_⟩
  have h2 := h.1
  unfold lowB at h2
  by_cases c : ∀ j, j < s.size → lowP s j
  · exact c
  · rw [if_neg c] at h2
    cases h2
theorem aff_parts {a : Af} (h : affB a = true) : (a.f0.size = 1 ∧ upB (bt a.f0 0) = true) ∧ partB a.f2 = true ∧ partB a.f3 = true ∧ partB a.f4 = true := by
  simp only [affB, flagB, Bool.and_eq_true, decide_eq_true_eq] at h
  exact ⟨h.1, h.2.1, h.2.2.1, h.2.2.2.1⟩
theorem ent_parts {e : En} (h : entB e = true) : wordB e.f0 = true ∧ e.f1.size ≤ 4 ∧ ∀ j, j < e.f1.size → entP e.f1 j := by
  unfold entB at h
  by_cases c : ∀ j, j < e.f1.size → entP e.f1 j
  · rw [if_pos c] at h
    simp only [Bool.and_eq_true, decide_eq_true_eq] at h
    exact ⟨h.1, h.2, c⟩
  · rw [if_neg c] at h
    cases h
def affL (a : Af) : By := (if a.f1 = true then [102, 114, 111, 110, 116] else [101, 110, 100]) ++ 32 :: (L a.f0 ++ 32 :: (L a.f2 ++ 32 :: (L a.f3 ++ 32 :: L a.f4)))
theorem affL_len {a : Af} (h : affB a = true) : (affL a).length ≤ 22 := by
  obtain ⟨⟨h0, _⟩, h2, h3, h4⟩ := aff_parts h
  have b2 := (part_size h2).1
  have b3 := (part_size h3).1
  have b4 := (part_size h4).1
  unfold affL
  split <;> simp <;> omega
theorem join5 (x a b c d : ByteArray) (h : x.size + a.size + b.size + c.size + d.size ≤ 1000) : strings_Join.f [x, a, b, c, d] (⟨#[32]⟩ : ByteArray) = some (mk (L x ++ 32 :: (L a ++ 32 :: (L b ++ 32 :: (L c ++ 32 :: L d))))) := by
  have e : Lib.join ([x, a, b, c, d].map (fun y => y.data.toList)) (⟨#[32]⟩ : ByteArray).data.toList = L x ++ 32 :: (L a ++ 32 :: (L b ++ 32 :: (L c ++ 32 :: L d))) := by
    simp only [List.map_cons, List.map_nil]
    rw [Lib.join_cons]
    simp [Lib.joinTail]
  unfold strings_Join.f
  rw [if_pos (by simp), e, if_pos (by
    simp
    omega)]
theorem impl_affixLine_eq {a : Af} (h : affB a = true) : impl_affixLine.f a.f0 a.f1 a.f2 a.f3 a.f4 = some (mk (affL a ++ [10])) := by
  obtain ⟨⟨h0, _⟩, h2, h3, h4⟩ := aff_parts h
  have b2 := (part_size h2).1
  have b3 := (part_size h3).1
  have b4 := (part_size h4).1
  have hl := affL_len h
  unfold impl_affixLine.f affL at *
  cases ha : a.f1
  · rw [ha] at hl
    simp only [Bool.false_eq_true, if_false] at hl ⊢
    have s0 : (⟨#[101, 110, 100]⟩ : ByteArray).size = 3 := rfl
    rw [join5 _ _ _ _ _ (by rw [s0]; omega)]
    simp only [Option.bind_some]
    rw [if_pos]
    · congr 1
    · rw [size_L]
      show (L (mk _)).length + 1 ≤ _
      rw [L_mk]
      refine Nat.le_trans (Nat.succ_le_succ hl) (by omega)
  · rw [ha] at hl
    simp only [if_true] at hl ⊢
    have s0 : (⟨#[102, 114, 111, 110, 116]⟩ : ByteArray).size = 5 := rfl
    rw [join5 _ _ _ _ _ (by rw [s0]; omega)]
    simp only [Option.bind_some]
    rw [if_pos]
    · congr 1
    · rw [size_L]
      show (L (mk _)).length + 1 ≤ _
      rw [L_mk]
      refine Nat.le_trans (Nat.succ_le_succ hl) (by omega)
theorem spec_l2AffixPut_eq {a : Af} (h : affB a = true) : spec_l2AffixPut.f a.f0 a.f1 a.f2 a.f3 a.f4 = some (mk (affL a)) := by
  obtain ⟨⟨h0, _⟩, h2, h3, h4⟩ := aff_parts h
  have b2 := (part_size h2).1
  have b3 := (part_size h3).1
  have b4 := (part_size h4).1
  have s0 : (⟨#[101, 110, 100]⟩ : ByteArray).size = 3 := rfl
  have s1 : (⟨#[102, 114, 111, 110, 116]⟩ : ByteArray).size = 5 := rfl
  have s2 : (⟨#[32]⟩ : ByteArray).size = 1 := rfl
  unfold spec_l2AffixPut.f affL
  cases ha : a.f1
  · simp only [Bool.false_eq_true, if_false, ByteArray.size_append, s0, s2]
    rw [if_pos (by omega), if_pos (by omega), if_pos (by omega), if_pos (by omega), if_pos (by omega), if_pos (by omega), if_pos (by omega), if_pos (by omega)]
    exact congrArg some (by rw [← L_inj]; simp [L_append, L_mk])
  · simp only [if_true, ByteArray.size_append, s1, s2]
    rw [if_pos (by omega), if_pos (by omega), if_pos (by omega), if_pos (by omega), if_pos (by omega), if_pos (by omega), if_pos (by omega), if_pos (by omega)]
    exact congrArg some (by rw [← L_inj]; simp [L_append, L_mk])
def entL (e : En) : By := if L e.f1 = [] then L e.f0 else L e.f0 ++ 47 :: L e.f1
theorem entL_len {e : En} (h : entB e = true) : (entL e).length ≤ 17 := by
  obtain ⟨h0, h1, _⟩ := ent_parts h
  have b0 := (word_size h0).2
  unfold entL
  split
  · rw [size_L] at b0; omega
  · simp; omega
theorem impl_entryLine_eq {e : En} (h : entB e = true) : impl_entryLine.f e.f0 e.f1 = some (mk (entL e ++ [10])) := by
  obtain ⟨h0, h1, _⟩ := ent_parts h
  have b0 := (word_size h0).2
  have s1 : (⟨#[47]⟩ : ByteArray).size = 1 := rfl
  unfold impl_entryLine.f entL
  rw [toList_L]
  by_cases c : L e.f1 = []
  · rw [if_pos c, if_pos (by omega), if_pos c]
    exact congrArg some (by rw [← L_inj]; simp [L_append, L_mk])
  · rw [if_neg c, if_neg c, if_pos (by omega), if_pos (by rw [ByteArray.size_append, s1]; omega), if_pos (by rw [ByteArray.size_append, ByteArray.size_append, s1]; omega)]
    exact congrArg some (by rw [← L_inj]; simp [L_append, L_mk])
theorem spec_l2EntryPut_eq {e : En} (h : entB e = true) : spec_l2EntryPut.f e.f0 e.f1 = some (mk (entL e)) := by
  obtain ⟨h0, h1, _⟩ := ent_parts h
  have b0 := (word_size h0).2
  have s1 : (⟨#[47]⟩ : ByteArray).size = 1 := rfl
  unfold spec_l2EntryPut.f entL
  rw [toList_L]
  by_cases c : L e.f1 = []
  · rw [if_pos c, if_pos c, mk_L]
  · rw [if_neg c, if_neg c, if_pos (by omega), if_pos (by rw [ByteArray.size_append, s1]; omega)]
    exact congrArg some (by rw [← L_inj]; simp [L_append, L_mk])
def fA (a : Af) : ByteArray := mk (affL a ++ [10])
def fG (s : ByteArray) : ByteArray := mk (45 :: L s ++ [10])
def fE (e : En) : ByteArray := mk (43 :: entL e ++ [10])
theorem fA_size {a : Af} (h : affB a = true) : (fA a).size ≤ 30 := by
  have := affL_len h
  rw [size_L, fA, L_mk]
  simp; omega
theorem fG_size {s : ByteArray} (h : wordB s = true) : (fG s).size ≤ 30 := by
  have := (word_size h).2
  rw [size_L, fG, L_mk]
  simp; omega
theorem fE_size {e : En} (h : entB e = true) : (fE e).size ≤ 30 := by
  have := entL_len h
  rw [size_L, fE, L_mk]
  simp; omega
def put0 (a : Bool) : ByteArray := if a = true then (⟨#[97, 102, 102, 105, 120, 101, 115, 10]⟩ : ByteArray) else (⟨#[]⟩ : ByteArray)
def dput (g : List ByteArray) (c : List En) (a : Bool) (l : List Af) : ByteArray := accB (accB (accB (put0 a) (l.map fA)) (g.map fG)) (c.map fE)
structure OkD (g : List ByteArray) (c : List En) (a : Bool) (l : List Af) : Prop where
  g1 : g.length ≤ 24
  g2 : ∀ s ∈ g, wordB s = true
  c1 : c.length ≤ 24
  c2 : ∀ e ∈ c, entB e = true
  l1 : l.length ≤ 8
  l2 : ∀ x ∈ l, affB x = true
theorem okD {g : List ByteArray} {c : List En} {a : Bool} {l : List Af} (h : dB g c a l = true) : OkD g c a l := by
  simp only [dB, Bool.and_eq_true] at h
  obtain ⟨hg, hc, hl, _⟩ := h
  have h1 : g.length ≤ 24 ∧ ∀ j, j < g.length → wsP g j := by
    unfold wsB at hg
    split at hg
    · exact ⟨of_decide_eq_true hg, by assumption⟩
    · cases hg
  have h2 : c.length ≤ 24 ∧ ∀ j, j < c.length → esP c j := by
    unfold esB at hc
    split at hc
    · exact ⟨of_decide_eq_true hc, by assumption⟩
    · cases hc
  have h3 : l.length ≤ 8 ∧ ∀ j, j < l.length → asP l j := by
    unfold asB at hl
    split at hl
    · exact ⟨of_decide_eq_true hl, by assumption⟩
    · cases hl
  refine ⟨h1.1, fun s hs => ?_, h2.1, fun e he => ?_, h3.1, fun x hx => ?_⟩
  · obtain ⟨j, hj, rfl⟩ := List.getElem_of_mem hs
    have := (h1.2 j hj).1
    rwa [sAt_nat g j hj] at this
  · obtain ⟨j, hj, rfl⟩ := List.getElem_of_mem he
    have := (h2.2 j hj).1
    rwa [eAt_nat c j hj] at this
  · obtain ⟨j, hj, rfl⟩ := List.getElem_of_mem hx
    have := (h3.2 j hj).1
    rwa [aAt_nat l j hj] at this
theorem acc30 {α : Type} (f : α → ByteArray) (x : ByteArray) (l : List α) (i : Nat) (hl : l.length ≤ 24) (hf : ∀ a ∈ l, (f a).size ≤ 30) : (accB x ((l.take i).map f)).size ≤ x.size + 720 := by
  have h := acc_size 30 ((l.take i).map f) x (fun y hy => by
    obtain ⟨a, ha, rfl⟩ := List.mem_map.1 hy
    exact hf a (List.mem_of_mem_take ha))
  have h2 : ((l.take i).map f).length ≤ 24 := by rw [List.length_map, List.length_take]; omega
  omega
theorem acc30' {α : Type} (f : α → ByteArray) (x : ByteArray) (l : List α) (hl : l.length ≤ 24) (hf : ∀ a ∈ l, (f a).size ≤ 30) : (accB x (l.map f)).size ≤ x.size + 720 := by
  have h := acc30 f x l l.length hl hf
  rwa [List.take_length] at h
theorem impl_DeltaPut_ev {g : List ByteArray} {c : List En} {a : Bool} {l : List Af} (hs : SmallD g c l) : Ev (fun k => impl_DeltaPut.f k g c a l) (if dB g c a l = true then dput g c a l else (⟨#[]⟩ : ByteArray)) := by
  unfold impl_DeltaPut.f
  refine Ev.bind (impl_DeltaOk_ev g c a l hs) ?_
  cases hd : dB g c a l
  · simp only [Bool.false_eq_true, if_false]
    exact Ev.now _
  have ok := okD hd
  have g1 := ok.g1
  have c1 := ok.c1
  have l1 := ok.l1
  have s45 : (⟨#[45]⟩ : ByteArray).size = 1 := rfl
  have s43 : (⟨#[43]⟩ : ByteArray).size = 1 := rfl
  have s10 : (⟨#[10]⟩ : ByteArray).size = 1 := rfl
  have p2 : ∀ x : ByteArray, x.size ≤ 10000 → Ev (fun k => impl_DeltaPut.l2 k x c (c.length : Int) 0) (accB x (c.map fE)) := by
    intro x hx
    have h := fold_loop (g := fun k b i => impl_DeltaPut.l2 k b c (c.length : Int) i) c.length (fun i => accB x ((c.take i).map fE)) (accB x (c.map fE)) ?_ ?_
    · exact h
    · intro i hi hr
      have he := ok.c2 _ (List.getElem_mem hi)
      have d1 : (i : Int) < (c.length : Int) := by omega
      have d2 : (0 : Int) ≤ (i : Int) := by omega
      have w1 : Aside0 (wrap64 ((i : Int) + 1) = (i : Int) + 1) := ⟨wid (by omega) (by omega)⟩
      have b1 := acc30 fE x c i c1 (fun e h => fE_size (ok.c2 e h))
      have b2 := entL_len he
      have ln := impl_entryLine_eq he
      rw [← eAt_nat c i hi] at ln
      have bs : (mk (entL c[i] ++ [10])).size ≤ 18 := by rw [size_L, L_mk]; simp; omega
      apply Ev.succ
      simp only [impl_DeltaPut.l2, d1, d2, w1.out, ln, Option.bind_some, if_true]
      rw [eAt_nat c i hi]
      refine Ev.ifp (by omega) (Ev.ifp (by rw [ByteArray.size_append, s43]; omega) ?_)
      rw [acc_take fE x c i hi] at hr
      have e : (⟨#[43]⟩ : ByteArray) ++ mk (entL c[i] ++ [10]) = fE c[i] := by rw [← L_inj, L_append]; rfl
      rw [e]
      exact hr
    · apply Ev.succ
      simp only [impl_DeltaPut.l2, Int.lt_irrefl, if_false, List.take_length]
      exact Ev.now _
  have p1 : ∀ x : ByteArray, x.size ≤ 5000 → Ev (fun k => impl_DeltaPut.l1 k x g (g.length : Int) 0 g c a l) (accB (accB x (g.map fG)) (c.map fE)) := by
    intro x hx
    have h := fold_loop (g := fun k b i => impl_DeltaPut.l1 k b g (g.length : Int) i g c a l) g.length (fun i => accB x ((g.take i).map fG)) (accB (accB x (g.map fG)) (c.map fE)) ?_ ?_
    · exact h
    · intro i hi hr
      have he := ok.g2 _ (List.getElem_mem hi)
      have d1 : (i : Int) < (g.length : Int) := by omega
      have d2 : (0 : Int) ≤ (i : Int) := by omega
      have w1 : Aside0 (wrap64 ((i : Int) + 1) = (i : Int) + 1) := ⟨wid (by omega) (by omega)⟩
      have b1 := acc30 fG x g i g1 (fun e h => fG_size (ok.g2 e h))
      have b2 := (word_size he).2
      apply Ev.succ
      simp only [impl_DeltaPut.l1, d1, d2, w1.out, if_true]
      rw [sAt_nat g i hi]
      refine Ev.ifp (by omega) (Ev.ifp (by rw [ByteArray.size_append, s45]; omega) (Ev.ifp (by rw [ByteArray.size_append, ByteArray.size_append, s45, s10]; omega) ?_))
      rw [acc_take fG x g i hi] at hr
      have e : ((⟨#[45]⟩ : ByteArray) ++ g[i]) ++ (⟨#[10]⟩ : ByteArray) = fG g[i] := by rw [← L_inj, L_append, L_append]; rfl
      rw [e]
      exact hr
    · apply Ev.succ
      simp only [impl_DeltaPut.l1, Int.lt_irrefl, if_false, List.take_length]
      exact p2 _ (Nat.le_trans (acc30' fG x g g1 (fun e h => fG_size (ok.g2 e h))) (by omega))
  have p0 : ∀ x : ByteArray, x.size ≤ 1000 → Ev (fun k => impl_DeltaPut.j0 k x g c a l) (accB (accB (accB x (l.map fA)) (g.map fG)) (c.map fE)) := by
    intro x hx
    apply Ev.succ
    simp only [impl_DeltaPut.j0]
    have h := fold_loop (g := fun k b i => impl_DeltaPut.l0 k b l (l.length : Int) i g c a l) l.length (fun i => accB x ((l.take i).map fA)) (accB (accB (accB x (l.map fA)) (g.map fG)) (c.map fE)) ?_ ?_
    · exact h
    · intro i hi hr
      have he := ok.l2 _ (List.getElem_mem hi)
      have d1 : (i : Int) < (l.length : Int) := by omega
      have d2 : (0 : Int) ≤ (i : Int) := by omega
      have w1 : Aside0 (wrap64 ((i : Int) + 1) = (i : Int) + 1) := ⟨wid (by omega) (by omega)⟩
      have b1 := acc30 fA x l i (by omega) (fun e h => fA_size (ok.l2 e h))
      have ln := impl_affixLine_eq he
      rw [← aAt_nat l i hi] at ln
      have bs := fA_size he
      apply Ev.succ
      simp only [impl_DeltaPut.l0, d1, d2, w1.out, ln, Option.bind_some, if_true]
      rw [aAt_nat l i hi]
      unfold fA at bs
      refine Ev.ifp (by omega) ?_
      rw [acc_take fA x l i hi] at hr
      exact hr
    · apply Ev.succ
      simp only [impl_DeltaPut.l0, Int.lt_irrefl, if_false, List.take_length]
      exact p1 _ (Nat.le_trans (acc30' fA x l (by omega) (fun e h => fA_size (ok.l2 e h))) (by omega))
  simp only [if_true]
  unfold dput put0
  cases a
  · simp only [Bool.false_eq_true, if_false]
    exact p0 _ (by decide)
  · simp only [if_true]
    exact p0 _ (by decide)
theorem spec_l5Put_ev {g : List ByteArray} {c : List En} {a : Bool} {l : List Af} (hd : dB g c a l = true) : Ev (fun k => spec_l5Put.f k g c a l) (dput g c a l) := by
  have ok := okD hd
  have g1 := ok.g1
  have c1 := ok.c1
  have l1 := ok.l1
  have s45 : (⟨#[45]⟩ : ByteArray).size = 1 := rfl
  have s43 : (⟨#[43]⟩ : ByteArray).size = 1 := rfl
  have s10 : (⟨#[10]⟩ : ByteArray).size = 1 := rfl
  have p2 : ∀ x : ByteArray, x.size ≤ 10000 → Ev (fun k => spec_l5Put.l2 k x 0 g c a l) (accB x (c.map fE)) := by
    intro x hx
    have h := fold_loop (g := fun k b i => spec_l5Put.l2 k b i g c a l) c.length (fun i => accB x ((c.take i).map fE)) (accB x (c.map fE)) ?_ ?_
    · exact h
    · intro i hi hr
      have he := ok.c2 _ (List.getElem_mem hi)
      have d1 : (i : Int) < (c.length : Int) := by omega
      have d2 : (0 : Int) ≤ (i : Int) := by omega
      have w1 : Aside0 (wrap64 ((i : Int) + 1) = (i : Int) + 1) := ⟨wid (by omega) (by omega)⟩
      have b1 := acc30 fE x c i c1 (fun e h => fE_size (ok.c2 e h))
      have b2 := entL_len he
      have ln := spec_l2EntryPut_eq he
      rw [← eAt_nat c i hi] at ln
      have bs : (mk (entL c[i])).size ≤ 18 := by rw [size_L, L_mk]; omega
      have d3 : (accB x ((c.take i).map fE)).size + 1 ≤ 9223372036854775807 := by omega
      apply Ev.succ
      simp only [spec_l5Put.l2, d1, d2, d3, w1.out, ln, Option.bind_some, if_true]
      rw [eAt_nat c i hi]
      refine Ev.ifp (by rw [ByteArray.size_append, s43]; omega) (Ev.ifp (by rw [ByteArray.size_append, ByteArray.size_append, s43]; omega) ?_)
      rw [acc_take fE x c i hi] at hr
      have e : ((accB x ((c.take i).map fE) ++ (⟨#[43]⟩ : ByteArray)) ++ mk (entL c[i])) ++ (⟨#[10]⟩ : ByteArray) = accB x ((c.take i).map fE) ++ fE c[i] := by
        rw [← L_inj]
        simp [L_append, fE, L_mk]
      rw [e]
      exact hr
    · apply Ev.succ
      simp only [spec_l5Put.l2, Int.lt_irrefl, if_false, List.take_length]
      exact Ev.now _
  have p1 : ∀ x : ByteArray, x.size ≤ 5000 → Ev (fun k => spec_l5Put.l1 k x 0 g c a l) (accB (accB x (g.map fG)) (c.map fE)) := by
    intro x hx
    have h := fold_loop (g := fun k b i => spec_l5Put.l1 k b i g c a l) g.length (fun i => accB x ((g.take i).map fG)) (accB (accB x (g.map fG)) (c.map fE)) ?_ ?_
    · exact h
    · intro i hi hr
      have he := ok.g2 _ (List.getElem_mem hi)
      have d1 : (i : Int) < (g.length : Int) := by omega
      have d2 : (0 : Int) ≤ (i : Int) := by omega
      have w1 : Aside0 (wrap64 ((i : Int) + 1) = (i : Int) + 1) := ⟨wid (by omega) (by omega)⟩
      have b1 := acc30 fG x g i g1 (fun e h => fG_size (ok.g2 e h))
      have b2 := (word_size he).2
      have d3 : (accB x ((g.take i).map fG)).size + 1 ≤ 9223372036854775807 := by omega
      apply Ev.succ
      simp only [spec_l5Put.l1, d1, d2, d3, w1.out, if_true]
      rw [sAt_nat g i hi]
      refine Ev.ifp (by rw [ByteArray.size_append, s45]; omega) (Ev.ifp (by rw [ByteArray.size_append, ByteArray.size_append, s45]; omega) ?_)
      rw [acc_take fG x g i hi] at hr
      have e : ((accB x ((g.take i).map fG) ++ (⟨#[45]⟩ : ByteArray)) ++ g[i]) ++ (⟨#[10]⟩ : ByteArray) = accB x ((g.take i).map fG) ++ fG g[i] := by
        rw [← L_inj]
        simp [L_append, fG, L_mk]
      rw [e]
      exact hr
    · apply Ev.succ
      simp only [spec_l5Put.l1, Int.lt_irrefl, if_false, List.take_length]
      exact p2 _ (Nat.le_trans (acc30' fG x g g1 (fun e h => fG_size (ok.g2 e h))) (by omega))
  have p0 : ∀ x : ByteArray, x.size ≤ 1000 → Ev (fun k => spec_l5Put.j0 k x g c a l) (accB (accB (accB x (l.map fA)) (g.map fG)) (c.map fE)) := by
    intro x hx
    apply Ev.succ
    simp only [spec_l5Put.j0]
    have h := fold_loop (g := fun k b i => spec_l5Put.l0 k b i g c a l) l.length (fun i => accB x ((l.take i).map fA)) (accB (accB (accB x (l.map fA)) (g.map fG)) (c.map fE)) ?_ ?_
    · exact h
    · intro i hi hr
      have he := ok.l2 _ (List.getElem_mem hi)
      have d1 : (i : Int) < (l.length : Int) := by omega
      have d2 : (0 : Int) ≤ (i : Int) := by omega
      have w1 : Aside0 (wrap64 ((i : Int) + 1) = (i : Int) + 1) := ⟨wid (by omega) (by omega)⟩
      have b1 := acc30 fA x l i (by omega) (fun e h => fA_size (ok.l2 e h))
      have ln := spec_l2AffixPut_eq he
      rw [← aAt_nat l i hi] at ln
      have b2 := affL_len he
      have bs : (mk (affL l[i])).size ≤ 22 := by rw [size_L, L_mk]; omega
      apply Ev.succ
      simp only [spec_l5Put.l0, d1, d2, w1.out, ln, Option.bind_some, if_true]
      rw [aAt_nat l i hi]
      refine Ev.ifp (by omega) (Ev.ifp (by rw [ByteArray.size_append]; omega) ?_)
      rw [acc_take fA x l i hi] at hr
      have e : (accB x ((l.take i).map fA) ++ mk (affL l[i])) ++ (⟨#[10]⟩ : ByteArray) = accB x ((l.take i).map fA) ++ fA l[i] := by
        rw [← L_inj]
        simp [L_append, fA, L_mk]
      rw [e]
      exact hr
    · apply Ev.succ
      simp only [spec_l5Put.l0, Int.lt_irrefl, if_false, List.take_length]
      exact p1 _ (Nat.le_trans (acc30' fA x l (by omega) (fun e h => fA_size (ok.l2 e h))) (by omega))
  unfold spec_l5Put.f dput put0
  cases a
  · simp only [Bool.false_eq_true, if_false]
    exact p0 _ (by decide)
  · simp only [if_true]
    exact p0 _ (by decide)
end Go.Proofs.YtabindnaedchgaaDoor.M
end

section
/- A delta's text read, plain: the program reads what the reference reads, and what is written is read again. -/
namespace Go.Proofs.YtabindnaedchgaaDoor.M
open Go.RowKit Go.Proofs.YtabindnaedchgaaDoorW.PrintWords Go.Proofs.YtabindnaedchgaaDoor.Pu
set_option linter.unusedVariables false
set_option linter.unusedSimpArgs false
structure DS where
  g : List ByteArray
  c : List En
  a : Bool
  l : List Af
def DS0 : DS := ⟨[], [], false, []⟩
def AFF : By := [97, 102, 102, 105, 120, 101, 115]
def FRONT : By := [102, 114, 111, 110, 116]
def rest1 (s : ByteArray) : ByteArray := s.extract 1 s.size
def readE (x : ByteArray) : En := ⟨mk (Lib.cut (L x) [47]).1, mk (Lib.cut (L x) [47]).2.1⟩
def getA (ws : List ByteArray) : Af := ⟨rdOf ByteArray.empty ws 1, (rdOf ByteArray.empty ws 0).toList == FRONT, rdOf ByteArray.empty ws 2, rdOf ByteArray.empty ws 3, rdOf ByteArray.empty ws 4⟩
def readA (x : ByteArray) : Af := getA (cutS 32 x ++ [(⟨#[]⟩ : ByteArray), (⟨#[]⟩ : ByteArray), (⟨#[]⟩ : ByteArray), (⟨#[]⟩ : ByteArray)])
def istep (st : DS) (x : ByteArray) : DS :=
  if x.toList = AFF then { st with a := true } else if begB x (⟨#[45]⟩ : ByteArray) = true then { st with g := st.g ++ [rest1 x] } else if begB x (⟨#[43]⟩ : ByteArray) = true then { st with c := st.c ++ [readE (rest1 x)] } else { st with l := st.l ++ [readA x] }
def getE (x : ByteArray) : En × Bool :=
  if 2 < (cutS 47 x).length ∨ ((cutS 47 x).length = 2 ∧ (rdOf ByteArray.empty (cutS 47 x) 1).toList = []) then (⟨(⟨#[]⟩ : ByteArray), (⟨#[]⟩ : ByteArray)⟩, false)
  else if (cutS 47 x).length = 2 then (⟨rdOf ByteArray.empty (cutS 47 x) 0, rdOf ByteArray.empty (cutS 47 x) 1⟩, entB ⟨rdOf ByteArray.empty (cutS 47 x) 0, rdOf ByteArray.empty (cutS 47 x) 1⟩)
  else (⟨rdOf ByteArray.empty (cutS 47 x) 0, (⟨#[]⟩ : ByteArray)⟩, entB ⟨rdOf ByteArray.empty (cutS 47 x) 0, (⟨#[]⟩ : ByteArray)⟩)
def sstep (st : DS) (x : ByteArray) : DS × Bool :=
  if x.toList = AFF then ({ st with a := true }, true) else if (cutS 32 x).length = 5 then ({ st with l := st.l ++ [getA (cutS 32 x)] }, true) else if (L x).head? = some 45 then ({ st with g := st.g ++ [rest1 x] }, true) else if (L x).head? = some 43 then ({ st with c := st.c ++ [(getE (rest1 x)).1] }, (getE (rest1 x)).2) else (st, false)
structure Bd (N i : Nat) (st : DS) : Prop where
  g1 : st.g.length ≤ i
  g2 : ∀ s ∈ st.g, s.size ≤ N
  c1 : st.c.length ≤ i
  c2 : ∀ e ∈ st.c, e.f0.size ≤ N ∧ e.f1.size ≤ N
  l1 : st.l.length ≤ i
  l2 : ∀ x ∈ st.l, x.f0.size ≤ N ∧ x.f2.size ≤ N ∧ x.f3.size ≤ N ∧ x.f4.size ≤ N
theorem Bd.zero (N : Nat) : Bd N 0 DS0 := ⟨Nat.le_refl _, fun s h => absurd h (by simp [DS0]), Nat.le_refl _, fun s h => absurd h (by simp [DS0]), Nat.le_refl _, fun s h => absurd h (by simp [DS0])⟩
theorem Bd.small {N i : Nat} {st : DS} (h : Bd N i st) (hN : N ≤ 10000000) (hi : i ≤ 10000000) : SmallD st.g st.c st.l := by
  refine ⟨?_, fun s hs => ?_, ?_, fun e he => ?_, ?_, fun x hx => ?_⟩
  · have := h.g1; simp only [Small]; omega
  · have := h.g2 s hs; simp only [Small]; omega
  · have := h.c1; simp only [Small]; omega
  · have := h.c2 e he; exact ⟨by simp only [Small]; omega, by simp only [Small]; omega⟩
  · have := h.l1; simp only [Small]; omega
  · have := h.l2 x hx; exact ⟨by simp only [Small]; omega, by simp only [Small]; omega, by simp only [Small]; omega, by simp only [Small]; omega⟩
theorem rest1_size (s : ByteArray) : (rest1 s).size ≤ s.size := by
  unfold rest1
  rw [ByteArray.size_extract]
  omega
theorem cutS_piece (c : UInt8) (s p : ByteArray) (h : p ∈ cutS c s) : p.size ≤ s.size := by
  unfold cutS at h
  obtain ⟨q, hq, rfl⟩ := List.mem_map.1 h
  have := cut_piece c (L s) q hq
  rw [size_L, L_mk, size_L]
  exact this
theorem cutS_length (c : UInt8) (s : ByteArray) : (cutS c s).length ≤ s.size + 1 := by
  unfold cutS
  rw [List.length_map, size_L]
  exact cut_len c (L s)
theorem cutS_pos (c : UInt8) (s : ByteArray) : 0 < (cutS c s).length := by
  unfold cutS
  rw [List.length_map]
  exact List.length_pos_iff.2 (cut_ne c _)
theorem rd_size {ws : List ByteArray} {N : Nat} (h : ∀ p ∈ ws, p.size ≤ N) (i : Int) : (rdOf ByteArray.empty ws i).size ≤ N := by
  unfold rdOf
  rw [List.getD_eq_getElem?_getD]
  cases hq : ws[i.toNat]? with
  | none => exact Nat.zero_le _
  | some p => exact h p (List.mem_of_getElem? hq)
theorem getA_size {ws : List ByteArray} {N : Nat} (h : ∀ p ∈ ws, p.size ≤ N) : (getA ws).f0.size ≤ N ∧ (getA ws).f2.size ≤ N ∧ (getA ws).f3.size ≤ N ∧ (getA ws).f4.size ≤ N := ⟨rd_size h _, rd_size h _, rd_size h _, rd_size h _⟩
theorem readE_size (x : ByteArray) : (readE x).f0.size ≤ x.size ∧ (readE x).f1.size ≤ x.size := by
  have h := cut2_small (L x) [47]
  rw [size_L x]
  exact ⟨by rw [size_L]; exact h.1, by rw [size_L]; exact h.2⟩
theorem getE_size (x : ByteArray) : (getE x).1.f0.size ≤ x.size ∧ (getE x).1.f1.size ≤ x.size := by
  have h := fun p hp => cutS_piece 47 x p hp
  unfold getE
  split
  · exact ⟨Nat.zero_le _, Nat.zero_le _⟩
  · split
    · exact ⟨rd_size h _, rd_size h _⟩
    · exact ⟨rd_size h _, Nat.zero_le _⟩
theorem Bd.g {N i : Nat} {st : DS} (h : Bd N i st) {s : ByteArray} (hs : s.size ≤ N) : Bd N (i + 1) { st with g := st.g ++ [s] } := by
  refine ⟨by simp; exact h.g1, fun t ht => ?_, by have := h.c1; show st.c.length ≤ _; omega, h.c2, by have := h.l1; show st.l.length ≤ _; omega, h.l2⟩
  rcases List.mem_append.1 ht with ht | ht
  · exact h.g2 t ht
  · rw [List.mem_singleton.1 ht]; exact hs
theorem Bd.c {N i : Nat} {st : DS} (h : Bd N i st) {e : En} (hs : e.f0.size ≤ N ∧ e.f1.size ≤ N) : Bd N (i + 1) { st with c := st.c ++ [e] } := by
  refine ⟨by have := h.g1; show st.g.length ≤ _; omega, h.g2, by simp; exact h.c1, fun t ht => ?_, by have := h.l1; show st.l.length ≤ _; omega, h.l2⟩
  rcases List.mem_append.1 ht with ht | ht
  · exact h.c2 t ht
  · rw [List.mem_singleton.1 ht]; exact hs
theorem Bd.l {N i : Nat} {st : DS} (h : Bd N i st) {e : Af} (hs : e.f0.size ≤ N ∧ e.f2.size ≤ N ∧ e.f3.size ≤ N ∧ e.f4.size ≤ N) : Bd N (i + 1) { st with l := st.l ++ [e] } := by
  refine ⟨by have := h.g1; show st.g.length ≤ _; omega, h.g2, by have := h.c1; show st.c.length ≤ _; omega, h.c2, by simp; exact h.l1, fun t ht => ?_⟩
  rcases List.mem_append.1 ht with ht | ht
  · exact h.l2 t ht
  · rw [List.mem_singleton.1 ht]; exact hs
theorem Bd.a {N i : Nat} {st : DS} (h : Bd N i st) (b : Bool) : Bd N (i + 1) { st with a := b } :=
  ⟨Nat.le_succ_of_le h.g1, h.g2, Nat.le_succ_of_le h.c1, h.c2, Nat.le_succ_of_le h.l1, h.l2⟩
theorem blank_piece {N : Nat} (x : ByteArray) (hx : x.size ≤ N) : ∀ p ∈ cutS 32 x ++ [(⟨#[]⟩ : ByteArray), (⟨#[]⟩ : ByteArray), (⟨#[]⟩ : ByteArray), (⟨#[]⟩ : ByteArray)], p.size ≤ N := by
  intro p hp
  rcases List.mem_append.1 hp with hp | hp
  · exact Nat.le_trans (cutS_piece 32 x p hp) hx
  · simp at hp
    subst hp
    exact Nat.zero_le _
theorem istep_bd {N i : Nat} {st : DS} (h : Bd N i st) {x : ByteArray} (hx : x.size ≤ N) : Bd N (i + 1) (istep st x) := by
  unfold istep
  split
  · exact h.a true
  · split
    · exact h.g (Nat.le_trans (rest1_size x) hx)
    · split
      · have h1 := readE_size (rest1 x)
        have h2 := rest1_size x
        exact h.c ⟨by omega, by omega⟩
      · exact h.l (getA_size (blank_piece x hx))
theorem sstep_bd {N i : Nat} {st : DS} (h : Bd N i st) {x : ByteArray} (hx : x.size ≤ N) : Bd N (i + 1) (sstep st x).1 := by
  unfold sstep
  split
  · exact h.a true
  · split
    · exact h.l (getA_size (fun p hp => Nat.le_trans (cutS_piece 32 x p hp) hx))
    · split
      · exact h.g (Nat.le_trans (rest1_size x) hx)
      · split
        · have h1 := getE_size (rest1 x)
          have h2 := rest1_size x
          exact h.c ⟨by omega, by omega⟩
        · exact ⟨Nat.le_succ_of_le h.g1, h.g2, Nat.le_succ_of_le h.c1, h.c2, Nat.le_succ_of_le h.l1, h.l2⟩
abbrev Res := List ByteArray × (List En) × Bool × (List Af) × Bool
def resZ : Res := (([] : List ByteArray), ([] : List En), false, ([] : List Af), false)
def res (st : DS) (x : ByteArray) : Res := if dB st.g st.c st.a st.l = true ∧ (dput st.g st.c st.a st.l).toList = x.toList then (st.g, st.c, st.a, st.l, true) else resZ
theorem begB_one (s : ByteArray) (c : UInt8) : begB s (⟨#[c]⟩ : ByteArray) = decide ((L s).head? = some c) := by
  unfold begB
  have e1 : (⟨#[c]⟩ : ByteArray).size = 1 := rfl
  have e2 : (⟨#[c]⟩ : ByteArray).toList = [c] := by rw [toList_L]
  rw [e1, e2, toList_L, L_to, size_L]
  cases L s with
  | nil => simp
  | cons b t => by_cases h : b = c <;> simp [h]
theorem readEntry_eq (x : ByteArray) (h : x.size < 4294967281) : impl_readEntry.f x = some ((readE x).f0, (readE x).f1) := by
  unfold impl_readEntry.f strings_Cut.f
  rw [if_pos h]
  rfl
theorem readAffix_eq (x : ByteArray) (h : x.size ≤ 10000000) : impl_readAffix.f x = some ((readA x).f0, (readA x).f1, (readA x).f2, (readA x).f3, (readA x).f4) := by
  have hl := cutS_length 32 x
  have hp := cutS_pos 32 x
  unfold impl_readAffix.f
  rw [split_eq 32 x (by omega)]
  simp only [Option.bind_some, List.length_append, List.length_cons, List.length_nil]
  rw [if_pos (by omega), if_pos (by omega), if_pos (by omega), if_pos (by omega), if_pos (by omega), if_pos (by omega)]
  rfl
theorem linesOf_eq (x : ByteArray) (h : x.size ≤ 10000000) : impl_linesOf.f x = some (cutS 10 x).dropLast := by
  have hl := cutS_length 10 x
  have hp := cutS_pos 10 x
  unfold impl_linesOf.f
  rw [split_eq 10 x (by omega)]
  have w : wrap64 (((cutS 10 x).length : Int) - 1) = (((cutS 10 x).length - 1 : Nat) : Int) := by rw [wid (by omega) (by omega)]; omega
  simp only [Option.bind_some, w, Int.toNat_natCast]
  rw [if_pos (by omega), if_pos (by omega), List.dropLast_eq_take]
theorem impl_end {N i : Nat} {st : DS} (h : Bd N i st) (hN : N ≤ 10000000) (hi : i ≤ 10000000) (x : ByteArray) :
    Ev (fun k => (impl_DeltaOk.f k st.g st.c st.a st.l).bind fun t134 => (if t134 = true then ((impl_DeltaPut.f k st.g st.c st.a st.l).bind fun t135 => (if t135.toList = x.toList then (some (st.g, st.c, st.a, st.l, true)) else (some resZ))) else (some resZ))) (res st x) := by
  have sm := h.small hN hi
  refine Ev.bind (impl_DeltaOk_ev _ _ _ _ sm) ?_
  cases hd : dB st.g st.c st.a st.l
  · simp only [Bool.false_eq_true, if_false]
    refine Ev.cast (Ev.now _) ?_
    simp [res, hd]
  · simp only [if_true]
    have hp := impl_DeltaPut_ev (a := st.a) sm
    rw [if_pos hd] at hp
    refine Ev.bind hp ?_
    by_cases c : (dput st.g st.c st.a st.l).toList = x.toList
    · refine Ev.ifp c (Ev.cast (Ev.now _) ?_)
      rw [res, if_pos ⟨hd, c⟩]
    · refine Ev.ifn c (Ev.cast (Ev.now _) ?_)
      rw [res, if_neg (fun z => c z.2)]
theorem spec_end {N i : Nat} {st : DS} (h : Bd N i st) (hN : N ≤ 10000000) (hi : i ≤ 10000000) (x : ByteArray) :
    Ev (fun k => (spec_DeltaOk.f k st.g st.c st.a st.l).bind fun t119 => (if t119 = true then ((spec_l5Put.f k st.g st.c st.a st.l).bind fun t120 => (if t120.toList = x.toList then (some (st.g, st.c, st.a, st.l, true)) else (some resZ))) else (some resZ))) (res st x) := by
  have sm := h.small hN hi
  refine Ev.bind (spec_DeltaOk_ev _ _ _ _ sm) ?_
  cases hd : dB st.g st.c st.a st.l
  · simp only [Bool.false_eq_true, if_false]
    refine Ev.cast (Ev.now _) ?_
    simp [res, hd]
  · simp only [if_true]
    refine Ev.bind (spec_l5Put_ev hd) ?_
    by_cases c : (dput st.g st.c st.a st.l).toList = x.toList
    · refine Ev.ifp c (Ev.cast (Ev.now _) ?_)
      rw [res, if_pos ⟨hd, c⟩]
    · refine Ev.ifn c (Ev.cast (Ev.now _) ?_)
      rw [res, if_neg (fun z => c z.2)]
theorem fold_bd {N : Nat} : ∀ (ws : List ByteArray) (i : Nat) (st : DS), (∀ w ∈ ws, w.size ≤ N) → Bd N i st → Bd N (i + ws.length) (ws.foldl istep st)
  | [], i, st, _, h => h
  | w :: ws, i, st, hw, h => by
    have := fold_bd ws (i + 1) (istep st w) (fun v hv => hw v (List.mem_cons_of_mem _ hv)) (istep_bd h (hw w List.mem_cons_self))
    rw [List.foldl_cons, List.length_cons]
    have e : i + (ws.length + 1) = i + 1 + ws.length := by omega
    rw [e]
    exact this
theorem impl_DeltaGet_ev (x : ByteArray) (h : x.size ≤ 1048576) : Ev (fun k => impl_DeltaGet.f k x) (res ((cutS 10 x).dropLast.foldl istep DS0) x) := by
  have hp : ∀ w ∈ (cutS 10 x).dropLast, w.size ≤ 1048576 := fun w hw => Nat.le_trans (cutS_piece 10 x w (List.dropLast_subset _ hw)) h
  have hn : (cutS 10 x).dropLast.length ≤ 1048576 := by
    have := cutS_length 10 x
    rw [List.length_dropLast]
    omega
  unfold impl_DeltaGet.f
  simp only [linesOf_eq x (by omega), Option.bind_some]
  generalize (cutS 10 x).dropLast = ws at hp hn ⊢
  have key := fold_loop (g := fun k (b : DS) i => impl_DeltaGet.l0 k x ws (ws.length : Int) i b.g b.c b.a b.l) ws.length (fun i => (ws.take i).foldl istep DS0) (res (ws.foldl istep DS0) x) ?_ ?_
  · exact key
  · intro i hi hr
    have hbd := fold_bd (N := 1048576) (ws.take i) 0 DS0 (fun w hw => hp w (List.mem_of_mem_take hw)) (Bd.zero _)
    have hli : 0 + (ws.take i).length ≤ i := by rw [List.length_take]; omega
    have g1 := Nat.le_trans hbd.g1 hli
    have c1 := Nat.le_trans hbd.c1 hli
    have l1 := Nat.le_trans hbd.l1 hli
    have hw := hp _ (List.getElem_mem hi)
    have e1 : (ws.take (i + 1)).foldl istep DS0 = istep ((ws.take i).foldl istep DS0) ws[i] := by
      rw [List.take_succ_eq_append_getElem hi, List.foldl_append]
      rfl
    rw [e1] at hr
    generalize (ws.take i).foldl istep DS0 = st at hr g1 c1 l1 ⊢
    have d1 : (i : Int) < (ws.length : Int) := by omega
    have d2 : (0 : Int) ≤ (i : Int) := by omega
    have w1 : Aside0 (wrap64 ((i : Int) + 1) = (i : Int) + 1) := ⟨wid (by omega) (by omega)⟩
    have rs := rest1_size ws[i]
    have eAFF : ([97, 102, 102, 105, 120, 101, 115] : List UInt8) = AFF := rfl
    apply Ev.succ
    simp only [impl_DeltaGet.l0, d1, d2, w1.out, if_true, sAt_nat ws i hi, hasPrefix_beg, Option.bind_some, eAFF]
    unfold istep at hr
    by_cases q1 : (ws[i]).toList = AFF
    · rw [if_pos q1] at hr
      exact Ev.ifp q1 hr
    rw [if_neg q1] at hr
    refine Ev.ifn q1 ?_
    by_cases q2 : begB ws[i] (⟨#[45]⟩ : ByteArray) = true
    · rw [if_pos q2] at hr
      have q4 : (1 : Int) ≤ ((ws[i]).size : Int) := by
        rw [begB_one] at q2
        have := of_decide_eq_true q2
        rw [size_L]
        cases hL : L ws[i] with
        | nil => rw [hL] at this; cases this
        | cons b t => simp; omega
      exact Ev.ifp q2 (Ev.ifp q4 (Ev.ifp (by omega) hr))
    rw [if_neg q2] at hr
    refine Ev.ifn q2 ?_
    by_cases q3 : begB ws[i] (⟨#[43]⟩ : ByteArray) = true
    · rw [if_pos q3] at hr
      have q4 : (1 : Int) ≤ ((ws[i]).size : Int) := by
        rw [begB_one] at q3
        have := of_decide_eq_true q3
        rw [size_L]
        cases hL : L ws[i] with
        | nil => rw [hL] at this; cases this
        | cons b t => simp; omega
      have q5 : impl_readEntry.f ((ws[i]).extract 1 (ws[i]).size) = some ((readE (rest1 ws[i])).f0, (readE (rest1 ws[i])).f1) := readEntry_eq (rest1 ws[i]) (by omega)
      refine Ev.ifp q3 (Ev.ifp q4 ?_)
      simp only [q5, Option.bind_some]
      exact Ev.ifp (by omega) hr
    rw [if_neg q3] at hr
    refine Ev.ifn q3 ?_
    simp only [readAffix_eq ws[i] (by omega), Option.bind_some]
    exact Ev.ifp (by omega) hr
  · have hbd := fold_bd (N := 1048576) ws 0 DS0 hp (Bd.zero _)
    apply Ev.succ
    simp only [impl_DeltaGet.l0, Int.lt_irrefl, if_false, List.take_length]
    exact impl_end hbd (by omega) (by omega) x
def srun : List ByteArray → DS → Option DS
  | [], st => some st
  | x :: xs, st => if (sstep st x).2 = true then srun xs (sstep st x).1 else none
def sres (o : Option DS) (x : ByteArray) : Res := match o with
  | none => resZ
  | some st => res st x
theorem spec_l2EntryGet_ev (x : ByteArray) (h : x.size ≤ 10000000) : Ev (fun k => spec_l2EntryGet.f k x) ((getE x).1.f0, (getE x).1.f1, (getE x).2) := by
  have hs := fun p hp => Nat.le_trans (cutS_piece 47 x p hp) h
  have z0 := rd_size hs 0
  have z1 := rd_size hs 1
  have hpos := cutS_pos 47 x
  have eb : ([] : List UInt8) = [] := rfl
  unfold spec_l2EntryGet.f
  refine Ev.bind (spec_l1Cut_ev 47 x (by omega)) ?_
  unfold getE
  by_cases c1 : 2 < (cutS 47 x).length
  · have d1 : ((cutS 47 x).length : Int) > 2 := by omega
    rw [if_pos (Or.inl c1)]
    refine Ev.ifp d1 ?_
    apply Ev.succ
    simp only [spec_l2EntryGet.j0, if_true]
    exact Ev.now _
  have d1 : ¬ ((cutS 47 x).length : Int) > 2 := by omega
  refine Ev.ifn d1 ?_
  by_cases c2 : (cutS 47 x).length = 2
  · have d2 : ((cutS 47 x).length : Int) = 2 := by omega
    have d3 : (1 : Int) < ((cutS 47 x).length : Int) := by omega
    have d4 : (0 : Int) < ((cutS 47 x).length : Int) := by omega
    refine Ev.ifp d2 (Ev.ifp d3 ?_)
    by_cases c3 : (rdOf ByteArray.empty (cutS 47 x) 1).toList = []
    · rw [if_pos (Or.inr ⟨c2, c3⟩), c3]
      apply Ev.succ
      simp only [spec_l2EntryGet.j0, beq_self_eq_true, if_true]
      exact Ev.now _
    · have c4 : ((rdOf ByteArray.empty (cutS 47 x) 1).toList == ([] : List UInt8)) = false := by simpa using c3
      rw [if_neg (fun z => z.elim c1 (fun z => c3 z.2)), if_pos c2, c4]
      apply Ev.succ
      simp only [spec_l2EntryGet.j0, Bool.false_eq_true, if_false, d2, show ((0 : Int) < 2) from by decide, show ((1 : Int) < 2) from by decide, if_true]
      exact Ev.bind (spec_l2Entry_ev ⟨rdOf ByteArray.empty (cutS 47 x) 0, rdOf ByteArray.empty (cutS 47 x) 1⟩ ⟨by simp only [Small]; omega, by simp only [Small]; omega⟩) (Ev.now _)
  · have d2 : ¬ ((cutS 47 x).length : Int) = 2 := by omega
    have d4 : (0 : Int) < ((cutS 47 x).length : Int) := by omega
    refine Ev.ifn d2 ?_
    rw [if_neg (fun z => z.elim c1 (fun z => c2 z.1)), if_neg c2]
    apply Ev.succ
    simp only [spec_l2EntryGet.j0, Bool.false_eq_true, if_false, d2, d4, if_true]
    exact Ev.bind (spec_l2Entry_ev ⟨rdOf ByteArray.empty (cutS 47 x) 0, (⟨#[]⟩ : ByteArray)⟩ ⟨by simp only [Small]; omega, Nat.zero_le _⟩) (Ev.now _)
theorem spec_l5Line_ev {N i : Nat} {st : DS} (h : Bd N i st) (hi : i ≤ 2000000) (x : ByteArray) (hx : x.size ≤ 10000000) : Ev (fun k => spec_l5Line.f k st.g st.c st.a st.l x) ((sstep st x).1.g, (sstep st x).1.c, (sstep st x).1.a, (sstep st x).1.l, (sstep st x).2) := by
  have g1 := h.g1
  have c1 := h.c1
  have l1 := h.l1
  have eAFF : ([97, 102, 102, 105, 120, 101, 115] : List UInt8) = AFF := rfl
  unfold spec_l5Line.f sstep
  refine Ev.bind (spec_l1Cut_ev 32 x (by omega)) ?_
  rw [eAFF]
  by_cases q1 : x.toList = AFF
  · rw [if_pos q1]
    exact Ev.ifp q1 (Ev.now _)
  rw [if_neg q1]
  refine Ev.ifn q1 ?_
  by_cases q2 : (cutS 32 x).length = 5
  · have d2 : ((cutS 32 x).length : Int) = 5 := by omega
    have e : spec_l2AffixGet.f (cutS 32 x) = some ((getA (cutS 32 x)).f0, (getA (cutS 32 x)).f1, (getA (cutS 32 x)).f2, (getA (cutS 32 x)).f3, (getA (cutS 32 x)).f4) := by
      unfold spec_l2AffixGet.f
      rw [if_pos (by omega), if_pos (by omega), if_pos (by omega), if_pos (by omega), if_pos (by omega)]
      rfl
    rw [if_pos q2]
    refine Ev.ifp d2 ?_
    simp only [e, Option.bind_some]
    exact Ev.ifp (by omega) (Ev.now _)
  have d2 : ¬ ((cutS 32 x).length : Int) = 5 := by omega
  rw [if_neg q2]
  refine Ev.ifn d2 ?_
  cases hL : L x with
  | nil =>
    have z : x.size = 0 := by rw [size_L, hL]; rfl
    have d3 : ¬ (x.size : Int) > 0 := by omega
    simp only [List.head?_nil, reduceCtorEq, if_false]
    refine Ev.ifn d3 ?_
    apply Ev.succ
    simp only [spec_l5Line.j0, Bool.false_eq_true, if_false, d3]
    exact Ev.now _
  | cons b t =>
    have z : x.size = t.length + 1 := by rw [size_L, hL]; rfl
    have d3 : (x.size : Int) > 0 := by omega
    have d4 : (0 : Int) < (x.size : Int) := by omega
    have d5 : (1 : Int) ≤ (x.size : Int) := by omega
    have b0 : bt x 0 = (b.toNat : Int) := by
      have := bt_L x 0 (by rw [hL]; simp)
      simpa [hL] using this
    simp only [List.head?_cons, Option.some.injEq]
    refine Ev.ifp d3 (Ev.ifp d4 ?_)
    apply Ev.succ
    by_cases q3 : b = 45
    · have e3 : (bt x 0 == 45) = true := by rw [b0, q3]; rfl
      have q6 : st.g.length < 8796093022208 := by omega
      rw [if_pos q3]
      simp only [spec_l5Line.j0, e3, if_true, d5, q6]
      exact Ev.now _
    have e3 : (bt x 0 == 45) = false := by
      rw [b0]
      have : b.toNat ≠ 45 := fun e => q3 (UInt8.toNat_inj.1 e)
      simp
      omega
    rw [if_neg q3]
    simp only [spec_l5Line.j0, e3, Bool.false_eq_true, if_false, d3, d4, if_true]
    by_cases q4 : b = 43
    · have e4 : bt x 0 = 43 := by rw [b0, q4]; rfl
      have q6 : st.c.length < 4398046511104 := by omega
      have rs := rest1_size x
      rw [if_pos q4]
      simp only [e4, if_true, d5]
      have hE := spec_l2EntryGet_ev (rest1 x) (by omega)
      generalize getE (rest1 x) = ge at hE ⊢
      refine Ev.bind hE ?_
      simp only [q6, if_true]
      exact Ev.now _
    · have e4 : ¬ bt x 0 = 43 := by
        rw [b0]
        have : b.toNat ≠ 43 := fun e => q4 (UInt8.toNat_inj.1 e)
        omega
      rw [if_neg q4]
      simp only [e4, if_false]
      exact Ev.now _
theorem spec_DeltaGet_ev (x : ByteArray) (h : x.size ≤ 1048576) : Ev (fun k => spec_DeltaGet.f k x) (sres (srun (cutS 10 x).dropLast DS0) x) := by
  have hp : ∀ w ∈ cutS 10 x, w.size ≤ 1048576 := fun w hw => Nat.le_trans (cutS_piece 10 x w hw) h
  have hn : (cutS 10 x).length ≤ 1048577 := by
    have := cutS_length 10 x
    omega
  have hpos := cutS_pos 10 x
  unfold spec_DeltaGet.f
  refine Ev.bind (spec_l1Cut_ev 10 x (by omega)) ?_
  generalize cutS 10 x = ws at hp hn hpos ⊢
  have key : ∀ (d i : Nat) (st : DS), ws.length - 1 - i = d → i ≤ ws.length - 1 → Bd 1048576 i st → Ev (fun k => spec_DeltaGet.l0 k x ws (i : Int) st.g st.c st.a st.l) (sres (srun (ws.dropLast.drop i) st) x) := by
    intro d
    induction d with
    | zero =>
      intro i st hd hi hb
      have w1 : Aside0 (wrap64 ((i : Int) + 1) = (i : Int) + 1) := ⟨wid (by omega) (by omega)⟩
      have d1 : ¬ (i : Int) + 1 < (ws.length : Int) := by omega
      have e : ws.dropLast.drop i = [] := List.drop_eq_nil_of_le (by rw [List.length_dropLast]; omega)
      apply Ev.succ
      simp only [spec_DeltaGet.l0, w1.out, d1, if_false]
      rw [e]
      exact spec_end hb (by omega) (by omega) x
    | succ d ih =>
      intro i st hd hi hb
      have hi2 : i < ws.length := by omega
      have hi3 : i < ws.dropLast.length := by rw [List.length_dropLast]; omega
      have hw := hp _ (List.getElem_mem hi2)
      have w1 : Aside0 (wrap64 ((i : Int) + 1) = (i : Int) + 1) := ⟨wid (by omega) (by omega)⟩
      have d1 : (i : Int) + 1 < (ws.length : Int) := by omega
      have d2 : (0 : Int) ≤ (i : Int) := by omega
      have d3 : (i : Int) < (ws.length : Int) := by omega
      have e : ws.dropLast.drop i = ws[i] :: ws.dropLast.drop (i + 1) := by rw [List.drop_eq_getElem_cons hi3, List.getElem_dropLast]
      apply Ev.succ
      simp only [spec_DeltaGet.l0, w1.out, d1, d2, d3, if_true, sAt_nat ws i hi2]
      refine Ev.bind (spec_l5Line_ev hb (by omega) ws[i] (by omega)) ?_
      rw [e]
      unfold srun
      by_cases q : (sstep st ws[i]).2 = true
      · rw [if_pos q]
        refine Ev.ifp q ?_
        exact_mod_cast ih (i + 1) (sstep st ws[i]).1 (by omega) (by omega) (sstep_bd hb hw)
      · rw [if_neg q]
        exact Ev.ifn q (Ev.now _)
  have hk := key (ws.length - 1) 0 DS0 (by omega) (by omega) (Bd.zero _)
  rw [List.drop_zero] at hk
  exact hk
end Go.Proofs.YtabindnaedchgaaDoor.M
end

section
/- What is written of a delta that is ok is read again, by both; so both read the same. -/
namespace Go.Proofs.YtabindnaedchgaaDoor.M
open Go.RowKit Go.Proofs.YtabindnaedchgaaDoorW.PrintWords Go.Proofs.YtabindnaedchgaaDoor.Pu
set_option linter.unusedVariables false
set_option linter.unusedSimpArgs false
theorem low_mem {s : ByteArray} (h : ∀ j, j < s.size → lowP s j) : ∀ b ∈ L s, 97 ≤ b.toNat ∧ b.toNat ≤ 122 := by
  intro b hb
  obtain ⟨j, hj, rfl⟩ := List.getElem_of_mem hb
  have h1 := h j (by rw [size_L]; exact hj)
  unfold lowP at h1
  rw [bt_L s j hj] at h1
  omega
theorem up_mem {s : ByteArray} (h : ∀ j, j < s.size → upB (bt s (j : Int)) = true) : ∀ b ∈ L s, 65 ≤ b.toNat ∧ b.toNat ≤ 90 := by
  intro b hb
  obtain ⟨j, hj, rfl⟩ := List.getElem_of_mem hb
  have h1 := h j (by rw [size_L]; exact hj)
  rw [bt_L s j hj] at h1
  simp only [upB, Bool.and_eq_true, decide_eq_true_eq] at h1
  omega
theorem not_in {c : UInt8} {l : By} (h : ∀ b ∈ l, b.toNat ≠ c.toNat) : c ∉ l := fun hc => h c hc rfl
theorem aff_up {a : Af} (h : affB a = true) : ∀ b ∈ L a.f0, 65 ≤ b.toNat ∧ b.toNat ≤ 90 := by
  obtain ⟨⟨h0, h1⟩, _⟩ := aff_parts h
  refine up_mem (fun j hj => ?_)
  obtain rfl : j = 0 := by omega
  exact h1
def side (b : Bool) : By := if b = true then FRONT else [101, 110, 100]
theorem side_mem (b : Bool) : ∀ x ∈ side b, 97 ≤ x.toNat ∧ x.toNat ≤ 122 := by
  intro x hx
  cases b
  · simp [side] at hx
    rcases hx with rfl | rfl | rfl <;> decide
  · simp [side, FRONT] at hx
    rcases hx with rfl | rfl | rfl | rfl | rfl <;> decide
theorem affL_side (a : Af) : affL a = side a.f1 ++ 32 :: (L a.f0 ++ 32 :: (L a.f2 ++ 32 :: (L a.f3 ++ 32 :: L a.f4))) := rfl
theorem aff_cut {a : Af} (h : affB a = true) : cut 32 (affL a) = [side a.f1, L a.f0, L a.f2, L a.f3, L a.f4] := by
  obtain ⟨_, h2, h3, h4⟩ := aff_parts h
  have e32 : (32 : UInt8).toNat = 32 := rfl
  rw [affL_side, cut_at 32 _ _ (not_in (fun b hb => by have := side_mem _ b hb; omega)), cut_at 32 _ _ (not_in (fun b hb => by have := aff_up h b hb; omega)),
    cut_at 32 _ _ (not_in (fun b hb => by have := low_mem (part_size h2).2 b hb; omega)), cut_at 32 _ _ (not_in (fun b hb => by have := low_mem (part_size h3).2 b hb; omega)),
    cut_free 32 _ (not_in (fun b hb => by have := low_mem (part_size h4).2 b hb; omega))]
theorem aff_ten {a : Af} (h : affB a = true) : (10 : UInt8) ∉ affL a := by
  obtain ⟨_, h2, h3, h4⟩ := aff_parts h
  have e10 : (10 : UInt8).toNat = 10 := rfl
  rw [affL_side]
  simp only [List.mem_append, List.mem_cons, not_or]
  refine ⟨not_in (fun b hb => by have := side_mem _ b hb; omega), by decide, not_in (fun b hb => by have := aff_up h b hb; omega), by decide, not_in (fun b hb => by have := low_mem (part_size h2).2 b hb; omega), by decide,
    not_in (fun b hb => by have := low_mem (part_size h3).2 b hb; omega), by decide, not_in (fun b hb => by have := low_mem (part_size h4).2 b hb; omega)⟩
theorem ent_up {e : En} (h : entB e = true) : ∀ b ∈ L e.f1, 65 ≤ b.toNat ∧ b.toNat ≤ 90 := up_mem (fun j hj => ((ent_parts h).2.2 j hj).1)
theorem ent_low {e : En} (h : entB e = true) : ∀ b ∈ L e.f0, 97 ≤ b.toNat ∧ b.toNat ≤ 122 := low_mem (word_low (ent_parts h).1)
theorem ent_mem {e : En} (h : entB e = true) : ∀ b ∈ entL e, (97 ≤ b.toNat ∧ b.toNat ≤ 122) ∨ b = 47 ∨ (65 ≤ b.toNat ∧ b.toNat ≤ 90) := by
  intro b hb
  unfold entL at hb
  split at hb
  · exact .inl (ent_low h b hb)
  · rcases List.mem_append.1 hb with hb | hb
    · exact .inl (ent_low h b hb)
    · rcases List.mem_cons.1 hb with hb | hb
      · exact .inr (.inl hb)
      · exact .inr (.inr (ent_up h b hb))
theorem ent_not {e : En} (h : entB e = true) (c : UInt8) (h1 : c.toNat ≠ 47) (h2 : c.toNat < 65) : c ∉ entL e := fun hc => by
  have := ent_mem h c hc
  rcases this with h3 | rfl | h3
  · omega
  · exact h1 rfl
  · omega
def linesD (st : DS) : List By := (if st.a = true then [AFF] else []) ++ (st.l.map affL ++ (st.g.map (fun s => 45 :: L s) ++ st.c.map (fun e => 43 :: entL e)))
theorem L_dput (st : DS) : L (dput st.g st.c st.a st.l) = ((linesD st).map (· ++ [10])).flatten := by
  unfold dput linesD
  rw [L_acc, L_acc, L_acc]
  have e0 : L (put0 st.a) = (((if st.a = true then [AFF] else []).map (· ++ [10]))).flatten := by
    unfold put0
    cases st.a <;> rfl
  rw [e0]
  simp only [List.map_append, List.flatten_append, List.map_map, List.append_assoc]
  rfl
theorem lines_ten {st : DS} (h : OkD st.g st.c st.a st.l) : ∀ p ∈ linesD st, (10 : UInt8) ∉ p := by
  have e10 : (10 : UInt8).toNat = 10 := rfl
  intro p hp
  unfold linesD at hp
  rcases List.mem_append.1 hp with hp | hp
  · split at hp
    · rw [List.mem_singleton.1 hp]
      decide
    · cases hp
  rcases List.mem_append.1 hp with hp | hp
  · obtain ⟨a, ha, rfl⟩ := List.mem_map.1 hp
    exact aff_ten (h.l2 a ha)
  rcases List.mem_append.1 hp with hp | hp
  · obtain ⟨s, hs, rfl⟩ := List.mem_map.1 hp
    have hw := h.g2 s hs
    simp only [List.mem_cons, not_or]
    exact ⟨by decide, not_in (fun b hb => by have := low_mem (word_low hw) b hb; omega)⟩
  · obtain ⟨e, he, rfl⟩ := List.mem_map.1 hp
    have hw := h.c2 e he
    simp only [List.mem_cons, not_or]
    exact ⟨by decide, ent_not hw 10 (by decide) (by decide)⟩
theorem dput_lines {st : DS} (h : OkD st.g st.c st.a st.l) : (cutS 10 (dput st.g st.c st.a st.l)).dropLast = (linesD st).map mk := by
  unfold cutS
  rw [L_dput, cut_lines 10 _ (lines_ten h), List.map_append]
  simp
theorem rest1_mk (b : UInt8) (t : By) : rest1 (mk (b :: t)) = mk t := by
  unfold rest1
  rw [← L_inj, L_from]
  rfl
theorem istep_aff (st : DS) : istep st (mk AFF) = { st with a := true } := by
  unfold istep
  rw [if_pos (by rw [toList_L])]
theorem sstep_aff (st : DS) : sstep st (mk AFF) = ({ st with a := true }, true) := by
  unfold sstep
  rw [if_pos (by rw [toList_L])]
theorem affL_head (a : Af) : ∃ b t, affL a = b :: t ∧ b ≠ 97 ∧ b ≠ 45 ∧ b ≠ 43 := by
  rw [affL_side]
  cases a.f1
  · exact ⟨101, _, rfl, by decide, by decide, by decide⟩
  · exact ⟨102, _, rfl, by decide, by decide, by decide⟩
theorem getA_back {a : Af} (bl : List ByteArray) : getA ([mk (side a.f1), mk (L a.f0), mk (L a.f2), mk (L a.f3), mk (L a.f4)] ++ bl) = a := by
  unfold getA
  have e1 : ((mk (side a.f1)).toList == FRONT) = a.f1 := by
    rw [toList_L]
    show (side a.f1 == FRONT) = a.f1
    cases a.f1 <;> rfl
  have r0 : rdOf ByteArray.empty ([mk (side a.f1), mk (L a.f0), mk (L a.f2), mk (L a.f3), mk (L a.f4)] ++ bl) 0 = mk (side a.f1) := rfl
  have r1 : rdOf ByteArray.empty ([mk (side a.f1), mk (L a.f0), mk (L a.f2), mk (L a.f3), mk (L a.f4)] ++ bl) 1 = mk (L a.f0) := rfl
  have r2 : rdOf ByteArray.empty ([mk (side a.f1), mk (L a.f0), mk (L a.f2), mk (L a.f3), mk (L a.f4)] ++ bl) 2 = mk (L a.f2) := rfl
  have r3 : rdOf ByteArray.empty ([mk (side a.f1), mk (L a.f0), mk (L a.f2), mk (L a.f3), mk (L a.f4)] ++ bl) 3 = mk (L a.f3) := rfl
  have r4 : rdOf ByteArray.empty ([mk (side a.f1), mk (L a.f0), mk (L a.f2), mk (L a.f3), mk (L a.f4)] ++ bl) 4 = mk (L a.f4) := rfl
  rw [r0, r1, r2, r3, r4, e1, mk_L, mk_L, mk_L, mk_L]
theorem aff_cutS {a : Af} (h : affB a = true) : cutS 32 (mk (affL a)) = [mk (side a.f1), mk (L a.f0), mk (L a.f2), mk (L a.f3), mk (L a.f4)] := by
  unfold cutS
  rw [L_mk, aff_cut h]
  rfl
theorem istep_l (st : DS) {a : Af} (h : affB a = true) : istep st (mk (affL a)) = { st with l := st.l ++ [a] } := by
  obtain ⟨b, t, e, n1, n2, n3⟩ := affL_head a
  unfold istep
  rw [if_neg, if_neg, if_neg]
  · unfold readA
    rw [aff_cutS h, getA_back]
  · rw [begB_one, L_mk, e]
    simpa using n3
  · rw [begB_one, L_mk, e]
    simpa using n2
  · rw [toList_L, L_mk, e]
    intro hc
    exact n1 (by have := (List.cons.injEq _ _ _ _).mp hc; exact this.1)
theorem sstep_l (st : DS) {a : Af} (h : affB a = true) : sstep st (mk (affL a)) = ({ st with l := st.l ++ [a] }, true) := by
  obtain ⟨b, t, e, n1, n2, n3⟩ := affL_head a
  unfold sstep
  rw [if_neg, if_pos]
  · rw [aff_cutS h]
    have := getA_back (a := a) []
    rw [List.append_nil] at this
    rw [this]
  · rw [aff_cutS h]
    rfl
  · rw [toList_L, L_mk, e]
    intro hc
    exact n1 (by have := (List.cons.injEq _ _ _ _).mp hc; exact this.1)
theorem istep_g (st : DS) (s : ByteArray) : istep st (mk (45 :: L s)) = { st with g := st.g ++ [s] } := by
  unfold istep
  rw [if_neg, if_pos, rest1_mk, mk_L]
  · rw [begB_one]
    rfl
  · rw [toList_L]
    intro hc
    exact absurd ((List.cons.injEq _ _ _ _).mp hc).1 (by decide)
theorem cut32_one {b : UInt8} {t : By} (hb : b ≠ 32) (h : (32 : UInt8) ∉ t) : cutS 32 (mk (b :: t)) = [mk (b :: t)] := by
  unfold cutS
  rw [L_mk, cut_free 32 _ (by simp only [List.mem_cons, not_or]; exact ⟨fun e => hb e.symm, h⟩)]
  rfl
theorem sstep_g (st : DS) {s : ByteArray} (h : wordB s = true) : sstep st (mk (45 :: L s)) = ({ st with g := st.g ++ [s] }, true) := by
  have e32 : (32 : UInt8).toNat = 32 := rfl
  unfold sstep
  rw [if_neg, if_neg, if_pos, rest1_mk, mk_L]
  · rfl
  · rw [cut32_one (by decide) (not_in (fun b hb => by have := low_mem (word_low h) b hb; omega))]
    simp
  · rw [toList_L]
    intro hc
    exact absurd ((List.cons.injEq _ _ _ _).mp hc).1 (by decide)
theorem readE_back {e : En} (h : entB e = true) : readE (mk (entL e)) = e := by
  have e47 : (47 : UInt8).toNat = 47 := rfl
  have n0 : (47 : UInt8) ∉ L e.f0 := not_in (fun b hb => by have := ent_low h b hb; omega)
  unfold readE
  rw [L_mk]
  unfold entL
  by_cases c : L e.f1 = []
  · rw [if_pos c, cut2_free 47 _ n0]
    have z : e.f1 = mk [] := by rw [← L_inj, c]
    show (⟨mk (L e.f0), mk []⟩ : En) = e
    rw [mk_L, ← z]
  · rw [if_neg c, cut2_at 47 _ _ n0]
theorem istep_c (st : DS) {e : En} (h : entB e = true) : istep st (mk (43 :: entL e)) = { st with c := st.c ++ [e] } := by
  unfold istep
  rw [if_neg, if_neg, if_pos, rest1_mk, readE_back h]
  · rw [begB_one]
    rfl
  · rw [begB_one]
    intro hc
    exact absurd (of_decide_eq_true hc) (by rw [L_mk, List.head?_cons]; simp)
  · rw [toList_L]
    intro hc
    exact absurd ((List.cons.injEq _ _ _ _).mp hc).1 (by decide)
theorem getE_back {e : En} (h : entB e = true) : getE (mk (entL e)) = (e, true) := by
  have e47 : (47 : UInt8).toNat = 47 := rfl
  have n0 : (47 : UInt8) ∉ L e.f0 := not_in (fun b hb => by have := ent_low h b hb; omega)
  have n1 : (47 : UInt8) ∉ L e.f1 := not_in (fun b hb => by have := ent_up h b hb; omega)
  unfold getE
  by_cases c : L e.f1 = []
  · have ec : cutS 47 (mk (entL e)) = [e.f0] := by
      unfold cutS entL
      rw [L_mk, if_pos c, cut_free 47 _ n0, List.map_cons, List.map_nil, mk_L]
    have z : (⟨#[]⟩ : ByteArray) = e.f1 := by rw [← L_inj, c]
    rw [ec, if_neg (by simp), if_neg (by simp)]
    have r0 : rdOf ByteArray.empty [e.f0] 0 = e.f0 := rfl
    rw [r0, z]
    show ((e : En), entB e) = (e, true)
    rw [h]
  · have ec : cutS 47 (mk (entL e)) = [e.f0, e.f1] := by
      unfold cutS entL
      rw [L_mk, if_neg c, cut_at 47 _ _ n0, cut_free 47 _ n1, List.map_cons, List.map_cons, List.map_nil, mk_L, mk_L]
    have r0 : rdOf ByteArray.empty [e.f0, e.f1] 0 = e.f0 := rfl
    have r1 : rdOf ByteArray.empty [e.f0, e.f1] 1 = e.f1 := rfl
    rw [ec, r0, r1, if_neg, if_pos (by rfl)]
    · show ((e : En), entB e) = (e, true)
      rw [h]
    · rintro (z | ⟨_, z⟩)
      · simp at z
      · rw [toList_L] at z
        exact c z
theorem sstep_c (st : DS) {e : En} (h : entB e = true) : sstep st (mk (43 :: entL e)) = ({ st with c := st.c ++ [e] }, true) := by
  unfold sstep
  rw [if_neg, if_neg, if_neg, if_pos, rest1_mk, getE_back h]
  · rfl
  · rw [L_mk, List.head?_cons]
    simp
  · rw [cut32_one (by decide) (ent_not h 32 (by decide) (by decide))]
    simp
  · rw [toList_L]
    intro hc
    exact absurd ((List.cons.injEq _ _ _ _).mp hc).1 (by decide)
theorem srun_append : ∀ (xs ys : List ByteArray) (st : DS), srun (xs ++ ys) st = (srun xs st).bind (srun ys)
  | [], ys, st => rfl
  | x :: xs, ys, st => by
    rw [List.cons_append, srun, srun]
    split
    · exact srun_append xs ys _
    · rfl
theorem run_l : ∀ (xs : List Af) (st : DS), (∀ x ∈ xs, affB x = true) → (xs.map (fun a => mk (affL a))).foldl istep st = { st with l := st.l ++ xs } ∧ srun (xs.map (fun a => mk (affL a))) st = some { st with l := st.l ++ xs }
  | [], st, _ => by simp [srun]
  | x :: xs, st, h => by
    have hx := h x List.mem_cons_self
    have ih := run_l xs { st with l := st.l ++ [x] } (fun y hy => h y (List.mem_cons_of_mem _ hy))
    rw [List.map_cons, List.foldl_cons, istep_l st hx, srun, sstep_l st hx, if_pos rfl, ih.1, ih.2]
    simp
theorem run_g : ∀ (xs : List ByteArray) (st : DS), (∀ x ∈ xs, wordB x = true) → (xs.map (fun s => mk (45 :: L s))).foldl istep st = { st with g := st.g ++ xs } ∧ srun (xs.map (fun s => mk (45 :: L s))) st = some { st with g := st.g ++ xs }
  | [], st, _ => by simp [srun]
  | x :: xs, st, h => by
    have hx := h x List.mem_cons_self
    have ih := run_g xs { st with g := st.g ++ [x] } (fun y hy => h y (List.mem_cons_of_mem _ hy))
    rw [List.map_cons, List.foldl_cons, istep_g st x, srun, sstep_g st hx, if_pos rfl, ih.1, ih.2]
    simp
theorem run_c : ∀ (xs : List En) (st : DS), (∀ x ∈ xs, entB x = true) → (xs.map (fun e => mk (43 :: entL e))).foldl istep st = { st with c := st.c ++ xs } ∧ srun (xs.map (fun e => mk (43 :: entL e))) st = some { st with c := st.c ++ xs }
  | [], st, _ => by simp [srun]
  | x :: xs, st, h => by
    have hx := h x List.mem_cons_self
    have ih := run_c xs { st with c := st.c ++ [x] } (fun y hy => h y (List.mem_cons_of_mem _ hy))
    rw [List.map_cons, List.foldl_cons, istep_c st hx, srun, sstep_c st hx, if_pos rfl, ih.1, ih.2]
    simp
theorem lines_map (st : DS) : (linesD st).map mk = (if st.a = true then [mk AFF] else []) ++ (st.l.map (fun a => mk (affL a)) ++ (st.g.map (fun s => mk (45 :: L s)) ++ st.c.map (fun e => mk (43 :: entL e)))) := by
  unfold linesD
  cases st.a <;> simp [List.map_map, Function.comp_def]
theorem read_back {st : DS} (h : OkD st.g st.c st.a st.l) : ((linesD st).map mk).foldl istep DS0 = st ∧ srun ((linesD st).map mk) DS0 = some st := by
  obtain ⟨g, c, a, l⟩ := st
  rw [lines_map]
  have ha : (if a = true then [mk AFF] else []).foldl istep DS0 = ⟨[], [], a, []⟩ ∧ srun (if a = true then [mk AFF] else []) DS0 = some ⟨[], [], a, []⟩ := by
    cases a
    · exact ⟨rfl, rfl⟩
    · simp only [if_true, List.foldl_cons, List.foldl_nil, srun, istep_aff, sstep_aff]
      exact ⟨rfl, rfl⟩
  have hl : (l.map (fun a => mk (affL a))).foldl istep ⟨[], [], a, []⟩ = ⟨[], [], a, l⟩ ∧ srun (l.map (fun a => mk (affL a))) ⟨[], [], a, []⟩ = some ⟨[], [], a, l⟩ := run_l l ⟨[], [], a, []⟩ h.l2
  have hg : (g.map (fun s => mk (45 :: L s))).foldl istep ⟨[], [], a, l⟩ = ⟨g, [], a, l⟩ ∧ srun (g.map (fun s => mk (45 :: L s))) ⟨[], [], a, l⟩ = some ⟨g, [], a, l⟩ := run_g g ⟨[], [], a, l⟩ h.g2
  have hc : (c.map (fun e => mk (43 :: entL e))).foldl istep ⟨g, [], a, l⟩ = ⟨g, c, a, l⟩ ∧ srun (c.map (fun e => mk (43 :: entL e))) ⟨g, [], a, l⟩ = some ⟨g, c, a, l⟩ := run_c c ⟨g, [], a, l⟩ h.c2
  constructor
  · rw [List.foldl_append, List.foldl_append, List.foldl_append, ha.1, hl.1, hg.1, hc.1]
  · rw [srun_append, ha.2, Option.bind_some, srun_append, hl.2, Option.bind_some, srun_append, hg.2, Option.bind_some, hc.2]
def readD (x : ByteArray) : Res := res ((cutS 10 x).dropLast.foldl istep DS0) x
theorem res_no {x : ByteArray} (h : ¬ ∃ st : DS, dB st.g st.c st.a st.l = true ∧ (dput st.g st.c st.a st.l).toList = x.toList) (st : DS) : res st x = resZ := by
  unfold res
  rw [if_neg (fun z => h ⟨st, z⟩)]
theorem read_put {st : DS} (h : dB st.g st.c st.a st.l = true) : readD (dput st.g st.c st.a st.l) = (st.g, st.c, st.a, st.l, true) ∧ sres (srun (cutS 10 (dput st.g st.c st.a st.l)).dropLast DS0) (dput st.g st.c st.a st.l) = (st.g, st.c, st.a, st.l, true) := by
  have ok := okD h
  have hb := read_back ok
  unfold readD
  rw [dput_lines ok, hb.1, hb.2]
  unfold sres res
  simp only [h, and_self, if_true]
theorem read_same (x : ByteArray) : sres (srun (cutS 10 x).dropLast DS0) x = readD x := by
  by_cases h : ∃ st : DS, dB st.g st.c st.a st.l = true ∧ (dput st.g st.c st.a st.l).toList = x.toList
  · obtain ⟨st, h1, h2⟩ := h
    obtain rfl := toList_inj.1 h2
    rw [(read_put h1).1, (read_put h1).2]
  · unfold readD
    rw [res_no h]
    unfold sres
    split
    · rfl
    · exact res_no h _
theorem impl_DeltaGet_read (x : ByteArray) (h : x.size ≤ 1048576) : Ev (fun k => impl_DeltaGet.f k x) (readD x) := impl_DeltaGet_ev x h
theorem spec_DeltaGet_read (x : ByteArray) (h : x.size ≤ 1048576) : Ev (fun k => spec_DeltaGet.f k x) (readD x) := Ev.cast (spec_DeltaGet_ev x h) (read_same x)
theorem readD_cases (x : ByteArray) : readD x = resZ ∨ ∃ st : DS, readD x = (st.g, st.c, st.a, st.l, true) ∧ dB st.g st.c st.a st.l = true ∧ dput st.g st.c st.a st.l = x := by
  unfold readD res
  split
  · rename_i h
    exact .inr ⟨_, rfl, h.1, toList_inj.1 h.2⟩
  · exact .inl rfl
end Go.Proofs.YtabindnaedchgaaDoor.M
end

section
/- FnExactDeltaGet, plain: for every text the law answers true. -/
namespace Go.Proofs.YtabindnaedchgaaDoor.M
open Go.RowKit Go.Proofs.YtabindnaedchgaaDoorW.PrintWords Go.Proofs.YtabindnaedchgaaDoor.Pu
set_option linter.unusedVariables false
set_option linter.unusedSimpArgs false
theorem readD_len (x : ByteArray) : Lim (readD x).1.length ∧ Lim (readD x).2.1.length ∧ Lim (readD x).2.2.2.1.length := by
  rcases readD_cases x with h | ⟨st, h, hd, _⟩
  · rw [h]
    exact ⟨by decide, by decide, by decide⟩
  · rw [h]
    have ok := okD hd
    have g1 := ok.g1
    have c1 := ok.c1
    have l1 := ok.l1
    exact ⟨by simp only [Lim]; omega, by simp only [Lim]; omega, by simp only [Lim]; omega⟩
theorem FnExactDeltaGet_pure (x : ByteArray) (h : x.size ≤ 140737488351232) : ∃ k, laws_FnExactDeltaGet.f k x = some true := by
  refine Ev.rounds ?_
  unfold laws_FnExactDeltaGet.f
  by_cases c : (x.size : Int) > 1048576
  · exact Ev.ifp c (Ev.now _)
  have hx : x.size ≤ 1048576 := by omega
  refine Ev.ifn c (Ev.bind (spec_DeltaGet_read x hx) (Ev.bind (impl_DeltaGet_read x hx) ?_))
  obtain ⟨n1, n2, n3⟩ := readD_len x
  have rd := impl_DeltaGet_read x hx
  generalize readD x = r at n1 n2 n3 rd ⊢
  obtain ⟨g, cc, a, l, ok⟩ := r
  have s1 : Small g.length := by simp only [Lim] at n1; simp only [Small]; omega
  have s2 : Small cc.length := by simp only [Lim] at n2; simp only [Small]; omega
  have s3 : Small l.length := by simp only [Lim] at n3; simp only [Small]; omega
  simp only [Lim] at n1 n2 n3
  refine Ev.bind (eqD_refl g cc a l s1 s2 s3) ?_
  simp only [if_true, bne_self_eq_false]
  apply Ev.succ
  simp only [laws_FnExactDeltaGet.j0, Bool.false_eq_true, if_false]
  refine Ev.bind (markD_ev g cc a l 1 (by omega) (by omega) n1 n2 n3) ?_
  refine Ev.bind (heldD_ev g.length cc.length l.length a 1 (by omega) (by omega) n1 n2 n3) ?_
  refine Ev.ifn (by omega) ?_
  simp only [if_true]
  refine Ev.bind rd ?_
  refine Ev.bind (eqD_refl g cc a l s1 s2 s3) ?_
  simp only [if_true, bne_self_eq_false]
  apply Ev.succ
  simp only [laws_FnExactDeltaGet.j1, Bool.false_eq_true, if_false]
  refine Ev.bind (heldD_ev g.length cc.length l.length a 1 (by omega) (by omega) n1 n2 n3) ?_
  refine Ev.ifn (by omega) ?_
  simp only [if_true]
  exact Ev.now _
end Go.Proofs.YtabindnaedchgaaDoor.M
end

section
/- What a row that lists package variables gives, and that these read behind a call as before. -/
namespace Go.Proofs.YtabindnaedchgaaDoor.Frame
open Go.RowKit Go.ChangeShapes
set_option linter.unusedVariables false
end Go.Proofs.YtabindnaedchgaaDoor.Frame
end

section
/- 'FnExactDeltaGet': for every input it returns true and its arguments read as before. Conditions: those of the given row alone (the listed package variables as the program's text lays them). -/
namespace Go.Proofs.YtabindnaedchgaaDoor.fnExactDeltaGet
open Go.ChangeShapes Go.WideShapes Go.ChangeAt Go.RowKit
open Go.ChangeMaps (open_string shut_string)
open Go.Proofs.YtabindnaedchgaaDoor.M Go.Proofs.YtabindnaedchgaaDoor.Frame Go.Proofs.YtabindnaedchgaaDoorW.PrintWords
set_option linter.unusedVariables false
theorem own : ownKnob Tryd.prog.godebug = none := by kernel_rfl
theorem laidOut : laidOutB Tryd.prog = true := by kernel_rfl
set_option maxRecDepth 100000 in
theorem contract (H : Type) (enc : TypeId × Value → H) (W : World) (base : Nat) (args : Array Value) (ds gs : List (DataW H)) (before : List MemPlace)
    (hval0 : ∀ (j : Nat) t v, Tryd.f3.params[j]? = some t → args[j]? = some v → Value.okWide Tryd.prog W .any base t v)
    (hW : DataW.Whole enc Tryd.prog Tryd.f3.params.toList Rows.fnExactDeltaGetSpec.vars false W args.toList ds gs before)
    (hsz0 : (DataW.weightsEach Tryd.prog (Tryd.f3.params.toList ++ (OpenSpec.ofChange Rows.fnExactDeltaGetSpec).bare.plain.varTypes Tryd.prog) (ds ++ gs)).all (· ≤ reachBytes) = true)
    (hL : laidMetH Tryd.prog Rows.fnExactDeltaGetRow.laid W) (hsh : W.ShapedOpen Tryd.prog) :
    Calls Tryd.prog 3 args W fun e W' => ∃ v, e = .returned v ∧ Rows.fnExactDeltaGetSpec.post enc Tryd.prog Tryd.f3 false true false false W args v W' := by
  have hGm : GWm W := ⟨Tryd.laysM146.s1_3 W hsh⟩
  clear hsh hL
  have hsz := hsz0
  have hval := hval0
  have hW' := hW
  obtain ⟨p, q, hA0, hV, rfl, hfz, hnd⟩ := hW
  have hA : DataW.TrodAll enc Tryd.prog W 0 (fun _ => true) true Tryd.f3.params.toList args.toList ds p := hA0
  rw [Tryd.params3] at hA hval hsz
  obtain ⟨v0, vs0, d0, ds0, p0, q0, hargs, rfl, rfl, h0, r0⟩ := trodAll_cons hA
  obtain ⟨rfl, rfl, rfl⟩ := trodAll_nil r0
  obtain rfl : args = #[v0] := by cases args; simp_all
  obtain ⟨a0, rfl, rfl, rfl, y0⟩ := open_string Tryd.underlying9 (hval 0 9 v0 rfl rfl) h0
  have w0 : a0.size ≤ 140737488351232 := by
    have z := sized_string hsz (j := 0) (t := 9) rfl rfl
    rw [Array.length_toList] at z
    exact z
  obtain ⟨rfl, rfl⟩ := trodVars_none hV
  clear hA0 hval0 hsz0 hsz
  obtain ⟨k, hk⟩ := FnExactDeltaGet_pure a0 w0
  refine (laws_FnExactDeltaGet.calls k _ true W rfl hGm  hk).mono fun e W' ⟨he, bel0⟩ => ?_
  have bel : Below W.heap.size W W' := bel0
  subst he
  exact ⟨_, rfl, _, _, _, [], _, [], hW', trodAll_mk1 (shut_bool Tryd.underlying4 _), (trodAll_cons_mk (shut_string Tryd.underlying9 y0) trodAll_mk0), rfl, bel.frame _, fun h => by cases h⟩
noncomputable def laidWorld (os : Os) : World := { World.holding Tryd.prog os ⟨#[], #[], []⟩ with heap := (((World.holding Tryd.prog os ⟨#[], #[], []⟩).heap.modify 2 fun | .cells _ t frozen => .cells #[.int .u8 128, .int .u8 191, .int .u8 160, .int .u8 191, .int .u8 128, .int .u8 159, .int .u8 144, .int .u8 191, .int .u8 128, .int .u8 143, .int .u8 0, .int .u8 0, .int .u8 0, .int .u8 0, .int .u8 0, .int .u8 0, .int .u8 0, .int .u8 0, .int .u8 0, .int .u8 0, .int .u8 0, .int .u8 0, .int .u8 0, .int .u8 0, .int .u8 0, .int .u8 0, .int .u8 0, .int .u8 0, .int .u8 0, .int .u8 0, .int .u8 0, .int .u8 0] t frozen | o => o).modify 1 fun | .cells _ t frozen => .cells #[.int .u8 240, .int .u8 240, .int .u8 240, .int .u8 240, .int .u8 240, .int .u8 240, .int .u8 240, .int .u8 240, .int .u8 240, .int .u8 240, .int .u8 240, .int .u8 240, .int .u8 240, .int .u8 240, .int .u8 240, .int .u8 240, .int .u8 240, .int .u8 240, .int .u8 240, .int .u8 240, .int .u8 240, .int .u8 240, .int .u8 240, .int .u8 240, .int .u8 240, .int .u8 240, .int .u8 240, .int .u8 240, .int .u8 240, .int .u8 240, .int .u8 240, .int .u8 240, .int .u8 240, .int .u8 240, .int .u8 240, .int .u8 240, .int .u8 240, .int .u8 240, .int .u8 240, .int .u8 240, .int .u8 240, .int .u8 240, .int .u8 240, .int .u8 240, .int .u8 240, .int .u8 240, .int .u8 240, .int .u8 240, .int .u8 240, .int .u8 240, .int .u8 240, .int .u8 240, .int .u8 240, .int .u8 240, .int .u8 240, .int .u8 240, .int .u8 240, .int .u8 240, .int .u8 240, .int .u8 240, .int .u8 240, .int .u8 240, .int .u8 240, .int .u8 240, .int .u8 240, .int .u8 240, .int .u8 240, .int .u8 240, .int .u8 240, .int .u8 240, .int .u8 240, .int .u8 240, .int .u8 240, .int .u8 240, .int .u8 240, .int .u8 240, .int .u8 240, .int .u8 240, .int .u8 240, .int .u8 240, .int .u8 240, .int .u8 240, .int .u8 240, .int .u8 240, .int .u8 240, .int .u8 240, .int .u8 240, .int .u8 240, .int .u8 240, .int .u8 240, .int .u8 240, .int .u8 240, .int .u8 240, .int .u8 240, .int .u8 240, .int .u8 240, .int .u8 240, .int .u8 240, .int .u8 240, .int .u8 240, .int .u8 240, .int .u8 240, .int .u8 240, .int .u8 240, .int .u8 240, .int .u8 240, .int .u8 240, .int .u8 240, .int .u8 240, .int .u8 240, .int .u8 240, .int .u8 240, .int .u8 240, .int .u8 240, .int .u8 240, .int .u8 240, .int .u8 240, .int .u8 240, .int .u8 240, .int .u8 240, .int .u8 240, .int .u8 240, .int .u8 240, .int .u8 240, .int .u8 240, .int .u8 240, .int .u8 240, .int .u8 240, .int .u8 241, .int .u8 241, .int .u8 241, .int .u8 241, .int .u8 241, .int .u8 241, .int .u8 241, .int .u8 241, .int .u8 241, .int .u8 241, .int .u8 241, .int .u8 241, .int .u8 241, .int .u8 241, .int .u8 241, .int .u8 241, .int .u8 241, .int .u8 241, .int .u8 241, .int .u8 241, .int .u8 241, .int .u8 241, .int .u8 241, .int .u8 241, .int .u8 241, .int .u8 241, .int .u8 241, .int .u8 241, .int .u8 241, .int .u8 241, .int .u8 241, .int .u8 241, .int .u8 241, .int .u8 241, .int .u8 241, .int .u8 241, .int .u8 241, .int .u8 241, .int .u8 241, .int .u8 241, .int .u8 241, .int .u8 241, .int .u8 241, .int .u8 241, .int .u8 241, .int .u8 241, .int .u8 241, .int .u8 241, .int .u8 241, .int .u8 241, .int .u8 241, .int .u8 241, .int .u8 241, .int .u8 241, .int .u8 241, .int .u8 241, .int .u8 241, .int .u8 241, .int .u8 241, .int .u8 241, .int .u8 241, .int .u8 241, .int .u8 241, .int .u8 241, .int .u8 241, .int .u8 241, .int .u8 2, .int .u8 2, .int .u8 2, .int .u8 2, .int .u8 2, .int .u8 2, .int .u8 2, .int .u8 2, .int .u8 2, .int .u8 2, .int .u8 2, .int .u8 2, .int .u8 2, .int .u8 2, .int .u8 2, .int .u8 2, .int .u8 2, .int .u8 2, .int .u8 2, .int .u8 2, .int .u8 2, .int .u8 2, .int .u8 2, .int .u8 2, .int .u8 2, .int .u8 2, .int .u8 2, .int .u8 2, .int .u8 2, .int .u8 2, .int .u8 19, .int .u8 3, .int .u8 3, .int .u8 3, .int .u8 3, .int .u8 3, .int .u8 3, .int .u8 3, .int .u8 3, .int .u8 3, .int .u8 3, .int .u8 3, .int .u8 3, .int .u8 35, .int .u8 3, .int .u8 3, .int .u8 52, .int .u8 4, .int .u8 4, .int .u8 4, .int .u8 68, .int .u8 241, .int .u8 241, .int .u8 241, .int .u8 241, .int .u8 241, .int .u8 241, .int .u8 241, .int .u8 241, .int .u8 241, .int .u8 241, .int .u8 241] t frozen | o => o) }
set_option maxRecDepth 100000 in
theorem laid_met (os : Os) : laidMet Tryd.prog Rows.fnExactDeltaGetRow.laid ((laidWorld os).forCall (fun _ _ => 0) ⟨#[], #[.string ByteArray.empty], []⟩).memory :=
  laidMet_of_run' 12 (by kernel_rfl) (by kernel_rfl)
set_option maxRecDepth 100000 in
theorem reads (os : Os) {H : Type} (enc : TypeId × Value → H) : ∃ x, DataW.whole enc Tryd.prog ((laidWorld os).forCall (fun _ _ => 0) ⟨#[], #[.string ByteArray.empty], []⟩).memory Tryd.f3.params.toList Rows.fnExactDeltaGetSpec.vars false #[(.string ByteArray.empty : Value)].toList 12 = some x :=
  Option.isSome_iff_exists.1 (by kernel_rfl)
set_option maxRecDepth 100000 in
theorem lifted (os : Os) (started : os.Started) (H : Type) (enc : TypeId × Value → H) (F : Stop.Interp) :
    ReturnsInHanded {} Tryd.checked os 3 .any ((OpenSpec.ofChange Rows.fnExactDeltaGetSpec).preRow enc Tryd.prog Tryd.f3 Rows.fnExactDeltaGetRow.domain false Rows.fnExactDeltaGetRow.laid) (((OpenSpec.ofChange Rows.fnExactDeltaGetSpec).at F).post enc Tryd.prog Tryd.f3 false true false false) := by
  obtain ⟨x, hx⟩ := reads os enc
  refine returnsInHanded_of_row (C := Tryd.checked) (s := OpenSpec.ofChange Rows.fnExactDeltaGetSpec) own started (by kernel_rfl) Tryd.func3
    (witness_row_at (enc := enc) (C := Tryd.checked) false (laidWorld os) #[.string ByteArray.empty] rfl (by kernel_rfl) (by kernel_rfl) (by kernel_rfl)
      (OpenSpec.preRow_of_cond 12 (x := x) hx (by kernel_rfl) (fun k hk => by cases hk) (by kernel_rfl) (laid_met os))) ?_
  intro W base args ds gs before hval hW _ _ hsz hL hsh _
  exact contract H enc W base args ds gs before hval hW hsz hL hsh
theorem said : Rows.FnExactDeltaGetSaid :=
  OpenClaim.holds_of_cond 3 Tryd.f3 rfl rfl rfl rfl rfl rfl rfl ⟨rfl, rfl, rfl, rfl, rfl⟩ rfl rfl rfl rfl rfl (by kernel_rfl) Tryd.func3 (by kernel_rfl)
    (of_decide_eq_true (by kernel_rfl)) (by unfold Func.isWrapper; first | (rw [if_pos (by decide +kernel)]; kernel_rfl) | (rw [if_neg (by decide +kernel)]; exact ⟨rfl, rfl⟩))
    (fun os started H enc _ F => by rw [OpenClaim.pre_eq_preRow]; exact lifted os started H enc F)
theorem plain (f : FuncId) (fn : Func) (hf : Tryd.pinned.checked.prog.funcNamed "loop.example/medlar/laws.FnExactDeltaGet" = some f) (hfn : Tryd.pinned.checked.prog.funcs[f]? = some fn) :
    false = Tryd.pinned.checked.prog.looks [] ∧ ∀ (j : Nat) t, fn.params[j]? = some t → Tryd.pinned.checked.prog.wantsStandIn t = false := by
  obtain rfl : f = 3 := Option.some.inj ((show Tryd.prog.funcNamed "loop.example/medlar/laws.FnExactDeltaGet" = some 3 by kernel_rfl).symm.trans hf) |>.symm
  obtain rfl : fn = Tryd.f3 := (Option.some.inj (Tryd.func3.symm.trans hfn)).symm
  refine ⟨by kernel_rfl, fun j t ht => ?_⟩
  rw [Tryd.params3] at ht
  have hm := Array.mem_of_getElem? ht
  simp only [List.mem_toArray, List.mem_cons, List.not_mem_nil, or_false] at hm
  subst hm
  all_goals first | exact (show Tryd.prog.wantsStandIn 9 = false by kernel_rfl)
theorem card : Rows.FnExactDeltaGetCardSaid :=
  Claim7.holds_tied_plain_at .later [] _ _ _ _ said (fun _ h => by cases h) (by kernel_rfl) (fun _ h => by cases h) fnExactDeltaGet_row_tie rfl ⟨rfl, rfl⟩ (by kernel_rfl) rfl plain (by kernel_rfl)
end Go.Proofs.YtabindnaedchgaaDoor.fnExactDeltaGet
namespace Go.Proofs.YtabindnaedchgaaDoor
theorem fnExactDeltaGet_holds : Rows.FnExactDeltaGetCardSaid := fnExactDeltaGet.card
end Go.Proofs.YtabindnaedchgaaDoor
end
