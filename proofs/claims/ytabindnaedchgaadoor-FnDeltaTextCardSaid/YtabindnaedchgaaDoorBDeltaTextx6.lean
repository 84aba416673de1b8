import Derived.Test.YtabindnaedchgaaDoorBDeltaTextx5
import Derived.Lib.SplitLaws
import Derived.Test.YtabindnaedchgaaDoorBDeltaTextx3
import Derived.Laws.BitsLemmas
import Derived.Below
import Derived.Carry
import Derived.ChangeOld
import Derived.Lib.LaidTab
import Derived.ChangeShapes
import Derived.Test.YtabindnaedchgaaDoorRows
import Derived.Test.YtabindnaedchgaaDoorCards
import Derived.Test.YtabindnaedchgaaDoorTie
import Derived.WalkKit
import Derived.ProofKit
import Derived.OpenShut
import Derived.ShutString
import Derived.SizedLaws
import Derived.Deep.DeepHandedRow

section
/- Bytes as lists, and a text cut at each of a byte. Plain. -/
namespace Go.Proofs.YtabindnaedchgaaDoor.Rf
open Go Go.RowKit
set_option linter.unusedVariables false
set_option linter.unusedSimpArgs false
abbrev By := List UInt8
def mkB (l : By) : ByteArray := ⟨l.toArray⟩
theorem bl_mk (l : By) : bl (mkB l) = l := by simp [bl, mkB]
theorem mk_bl (s : ByteArray) : mkB (bl s) = s := bl_inj (bl_mk _)
theorem bl_app (a b : ByteArray) : bl (a ++ b) = bl a ++ bl b := by simp [bl, ByteArray.data_append]
theorem bl_ext (s : ByteArray) (a b : Nat) : bl (s.extract a b) = ((bl s).drop a).take (b - a) := Lib.extract_data s a b
theorem bl_to (s : ByteArray) (a : Nat) : bl (s.extract 0 a) = (bl s).take a := by rw [bl_ext]; simp
theorem bl_from (s : ByteArray) (a : Nat) : bl (s.extract a s.size) = (bl s).drop a := Lib.extract_to_end s a
theorem size_bl (s : ByteArray) : s.size = (bl s).length := (bl_length s).symm
theorem size_mk (l : By) : (mkB l).size = l.length := by rw [size_bl, bl_mk]
theorem mk_app (a b : By) : mkB a ++ mkB b = mkB (a ++ b) := bl_inj (by rw [bl_app, bl_mk, bl_mk, bl_mk])
/-- Ahead of the first piece. -/
def preB (p : By) : List By → List By
  | [] => [p]
  | q :: qs => (p ++ q) :: qs
def cutB (c : UInt8) : By → List By
  | [] => [[]]
  | b :: l => if b = c then [] :: cutB c l else preB [b] (cutB c l)
theorem cutB_cons (c b : UInt8) (l : By) : cutB c (b :: l) = if b = c then [] :: cutB c l else preB [b] (cutB c l) := rfl
theorem cutB_ne (c : UInt8) : ∀ l, cutB c l ≠ []
  | [] => by simp [cutB]
  | b :: l => by
    rw [cutB_cons]
    split
    · simp
    · cases cutB c l <;> simp [preB]
theorem preB_nil {ps : List By} (h : ps ≠ []) : preB [] ps = ps := by
  cases ps with
  | nil => exact absurd rfl h
  | cons q qs => rfl
theorem preB_preB (p q : By) (ps : List By) : preB p (preB q ps) = preB (p ++ q) ps := by
  cases ps <;> simp [preB]
theorem cutB_free (c : UInt8) : ∀ (p : By), c ∉ p → cutB c p = [p]
  | [], _ => rfl
  | b :: p, h => by
    have hb : b ≠ c := fun e => h (by simp [e])
    rw [cutB_cons, if_neg hb, cutB_free c p (fun hp => h (by simp [hp]))]
    rfl
theorem cutB_at (c : UInt8) (r : By) : ∀ (p : By), c ∉ p → cutB c (p ++ c :: r) = p :: cutB c r
  | [], _ => by simp [cutB]
  | b :: p, h => by
    have hb : b ≠ c := fun e => h (by simp [e])
    rw [List.cons_append, cutB_cons, if_neg hb, cutB_at c r p (fun hp => h (by simp [hp]))]
    rfl
theorem cutB_len (c : UInt8) : ∀ l, (cutB c l).length ≤ l.length + 1
  | [] => by simp [cutB]
  | b :: l => by
    have ih := cutB_len c l
    rw [cutB_cons]
    split
    · simp; omega
    · cases hq : cutB c l with
      | nil => simp [preB]
      | cons q qs => rw [hq] at ih; simp [preB] at ih ⊢; omega
theorem cutB_piece (c : UInt8) : ∀ l, ∀ p ∈ cutB c l, p.length ≤ l.length
  | [], p, hp => by simp [cutB] at hp; simp [hp]
  | b :: l, p, hp => by
    rw [cutB_cons] at hp
    split at hp
    · rcases List.mem_cons.1 hp with rfl | hp
      · simp
      · have := cutB_piece c l p hp
        simp; omega
    · cases hq : cutB c l with
      | nil => exact absurd hq (cutB_ne c l)
      | cons q qs =>
        rw [hq] at hp
        rcases List.mem_cons.1 hp with rfl | hp
        · have := cutB_piece c l q (by rw [hq]; exact List.mem_cons_self)
          simp; omega
        · have := cutB_piece c l p (by rw [hq]; exact List.mem_cons_of_mem _ hp)
          simp; omega
/-- Lines, each with its end. -/
theorem cutB_lines (c : UInt8) : ∀ (ls : List By), (∀ p ∈ ls, c ∉ p) → cutB c ((ls.map (· ++ [c])).flatten) = ls ++ [[]]
  | [], _ => rfl
  | p :: ls, h => by
    have e : (((p :: ls).map (· ++ [c])).flatten) = p ++ c :: ((ls.map (· ++ [c])).flatten) := by simp
    rw [e, cutB_at c _ p (h p List.mem_cons_self), cutB_lines c ls (fun q hq => h q (List.mem_cons_of_mem _ hq))]
    rfl
/-- strings.Split's pieces. -/
theorem splitK_cut (c : UInt8) : ∀ l : By, Lib.splitK [c] 0 (Lib.count l [c]) l = cutB c l
  | [] => by rw [Lib.count_miss (by simp [Lib.index])]; rfl
  | b :: l => by
    have ih := splitK_cut c l
    by_cases h : b = c
    · subst h
      have hix : Lib.index (b :: l) [b] = 0 := by rw [Lib.index]; simp [List.isPrefixOf]
      rw [Lib.count_cons_eq, Nat.add_comm, Lib.splitK, if_neg (by rw [hix]; decide), hix, cutB_cons, if_pos rfl, ← ih]
      simp
    · have hp : ([c] : List UInt8).isPrefixOf (b :: l) = false := by simp [List.isPrefixOf, Ne.symm h]
      have hix : Lib.index (b :: l) [c] = if Lib.index l [c] == -1 then -1 else Lib.index l [c] + 1 := by rw [Lib.index, hp]; simp
      rw [Lib.count_cons_ne b c l h, cutB_cons, if_neg h, ← ih]
      cases hk : Lib.count l [c] with
      | zero => rfl
      | succ k =>
        have hne : Lib.index l [c] ≠ -1 := fun e => by rw [Lib.count_miss e] at hk; cases hk
        have hge := Lib.index_ge l [c]
        obtain ⟨j, hj⟩ : ∃ j : Nat, Lib.index l [c] = j := ⟨(Lib.index l [c]).toNat, by omega⟩
        have h1 : ¬ (Lib.index l [c] == -1) = true := fun e => hne (beq_iff_eq.1 e)
        rw [Lib.splitK, Lib.splitK, hix, if_neg h1, if_neg h1, hj, if_neg (by intro e; have := beq_iff_eq.1 e; omega)]
        have t1 : ((j : Int) + 1).toNat = j + 1 := by omega
        have t2 : ((j : Int)).toNat = j := by omega
        rw [t1, t2]
        simp [preB]
def cutS (c : UInt8) (s : ByteArray) : List ByteArray := (cutB c (bl s)).map mkB
theorem split_B (c : UInt8) (s : ByteArray) : Lib.splitB (⟨#[c]⟩ : ByteArray) 0 (Lib.countB s (⟨#[c]⟩ : ByteArray)) s = cutS c s := by
  have h := Lib.splitB_data (⟨#[c]⟩ : ByteArray) 0 (Lib.countB s (⟨#[c]⟩ : ByteArray)) s
  have e : Lib.countB s (⟨#[c]⟩ : ByteArray) = Lib.count (bl s) [c] := rfl
  rw [e] at h ⊢
  have h2 : (Lib.splitB (⟨#[c]⟩ : ByteArray) 0 (Lib.count (bl s) [c]) s).map bl = cutB c (bl s) := h.trans (splitK_cut c (bl s))
  unfold cutS
  rw [← h2, List.map_map]
  have : (mkB ∘ bl) = (id : ByteArray → ByteArray) := funext mk_bl
  rw [this, List.map_id]
theorem cutS_piece (c : UInt8) (s p : ByteArray) (h : p ∈ cutS c s) : p.size ≤ s.size := by
  unfold cutS at h
  obtain ⟨q, hq, rfl⟩ := List.mem_map.1 h
  have := cutB_piece c (bl s) q hq
  rw [size_mk, size_bl]
  exact this
theorem cutS_length (c : UInt8) (s : ByteArray) : (cutS c s).length ≤ s.size + 1 := by
  unfold cutS
  rw [List.length_map, size_bl]
  exact cutB_len c (bl s)
theorem cutS_pos (c : UInt8) (s : ByteArray) : 0 < (cutS c s).length := by
  unfold cutS
  rw [List.length_map]
  exact List.length_pos_iff.2 (cutB_ne c _)
/-- strings.Cut at a byte. -/
theorem index_one (c : UInt8) (r : By) : ∀ p : By, c ∉ p → Lib.index (p ++ c :: r) [c] = (p.length : Int)
  | [], _ => by rw [List.nil_append, Lib.index]; simp [List.isPrefixOf]
  | b :: p, h => by
    have hb : b ≠ c := fun e => h (by simp [e])
    have hp : ([c] : List UInt8).isPrefixOf (b :: (p ++ c :: r)) = false := by simp [List.isPrefixOf, Ne.symm hb]
    have ih := index_one c r p (fun hq => h (by simp [hq]))
    rw [List.cons_append, Lib.index, hp]
    simp only [Bool.false_eq_true, if_false]
    rw [ih, if_neg (by intro e; have := beq_iff_eq.1 e; omega)]
    simp
theorem index_free (c : UInt8) : ∀ p : By, c ∉ p → Lib.index p [c] = -1
  | [], _ => by simp [Lib.index]
  | b :: p, h => by
    have hb : b ≠ c := fun e => h (by simp [e])
    have hp : ([c] : List UInt8).isPrefixOf (b :: p) = false := by simp [List.isPrefixOf, Ne.symm hb]
    have ih := index_free c p (fun hq => h (by simp [hq]))
    rw [Lib.index, hp]
    simp [ih]
theorem cut2_at (c : UInt8) (p r : By) (h : c ∉ p) : Lib.cut (p ++ c :: r) [c] = (p, r, true) := by
  unfold Lib.cut
  rw [index_one c r p h, if_pos (by omega), Int.toNat_natCast]
  simp
theorem cut2_free (c : UInt8) (p : By) (h : c ∉ p) : Lib.cut p [c] = (p, [], false) := by
  unfold Lib.cut
  rw [index_free c p h, if_neg (by omega)]
theorem cut2_small (l s : By) : (Lib.cut l s).1.length ≤ l.length ∧ (Lib.cut l s).2.1.length ≤ l.length := by
  unfold Lib.cut
  split
  · simp
    omega
  · simp
/-- the reference's own way to cut -/
theorem spec_l1Cut_al (c : UInt8) (s : ByteArray) (hs : s.size ≤ 4294967280) : Al fun k => spec_l1Cut.f k s (c.toNat : Int) = some (cutS c s) := by
  have key : ∀ (d i fr : Nat) (out : List ByteArray), s.size - i = d → fr ≤ i → i ≤ s.size → out.length ≤ i → Al2 fun k k1 => spec_l1Cut.L4 k k1 s (c.toNat : Int) out (fr : Int) (i : Int) = some (out ++ (preB (((bl s).drop fr).take (i - fr)) (cutB c ((bl s).drop i))).map mkB) := by
    intro d
    induction d with
    | zero =>
      intro i fr out hd hf hi ho
      obtain rfl : i = s.size := by omega
      refine Al2.succ (Al2.now fun k k1 => ?_)
      have m1 : decide ((out.length + [s.extract fr s.size].length) * 16 ≤ rowMax) = true := decide_eq_true (by simp [rowMax]; omega)
      simp only [spec_l1Cut.L4_eq, at_end (Nat.lt_irrefl _), ifb_f, decide_eq_true (show (0 : Int) ≤ (fr : Int) by omega), decide_eq_true (show (fr : Int) ≤ (s.size : Int) by omega), decide_eq_true (Int.le_refl (s.size : Int)), Bool.and_self, ifb_t, Int.toNat_natCast, m1]
      have e1 : (bl s).drop s.size = [] := List.drop_eq_nil_of_le (by rw [size_bl]; exact Nat.le_refl _)
      rw [e1]
      simp only [cutB, preB, List.append_nil, List.map_cons, List.map_nil]
      congr 3
      exact bl_inj (by rw [bl_ext, bl_mk])
    | succ d ih =>
      intro i fr out hd hf hi ho
      have hl : i < s.size := by omega
      have hlb : i < (bl s).length := by rw [← size_bl]; exact hl
      obtain ⟨c1, c2, c3, c4⟩ := at_i hl (by omega)
      have e0 : (bl s).drop i = (bl s)[i] :: (bl s).drop (i + 1) := List.drop_eq_getElem_cons hlb
      have hb : byteAt s (i : Int) = ((bl s)[i].toNat : Int) := (byteAt_drop e0).2.1
      by_cases h : (bl s)[i] = c
      · have m1 : decide ((out.length + [s.extract fr i].length) * 16 ≤ rowMax) = true := decide_eq_true (by simp [rowMax]; omega)
        refine Al2.succ ((ih (i + 1) (i + 1) (out ++ [s.extract fr i]) (by omega) (Nat.le_refl _) (by omega) (by simp; omega)).mono fun k k1 e => ?_)
        simp only [spec_l1Cut.L4_eq, c1, c2, Bool.and_self, ifb_t, hb, h, beq_self_eq_true, decide_eq_true (show (0 : Int) ≤ (fr : Int) by omega), decide_eq_true (show (fr : Int) ≤ (i : Int) by omega), decide_eq_true (show (i : Int) ≤ (s.size : Int) by omega), Int.toNat_natCast, m1, w64, c4]
        rw [e]
        rw [e0, cutB_cons, if_pos h, Nat.sub_self, List.take_zero, preB_nil (cutB_ne _ _)]
        conv => rhs; rw [preB]
        simp only [List.append_nil, List.map_cons, List.append_assoc, List.singleton_append]
        congr 3
        exact bl_inj (by rw [bl_ext, bl_mk])
      · have hne : (((bl s)[i].toNat : Int) == (c.toNat : Int)) = false := by
          rw [beq_eq_false_iff_ne]
          intro e
          exact h (UInt8.toNat_inj.1 (by omega))
        refine Al2.succ ((ih (i + 1) fr out (by omega) (by omega) (by omega) (by omega)).mono fun k k1 e => ?_)
        simp only [spec_l1Cut.L4_eq, c1, c2, Bool.and_self, ifb_t, hb, hne, ifb_f, w64, c4]
        rw [e, e0]
        conv => rhs; rw [cutB_cons, if_neg h, preB_preB]
        have e2 : ((bl s).drop fr).take (i + 1 - fr) = ((bl s).drop fr).take (i - fr) ++ [(bl s)[i]] := by
          have hx : i - fr < ((bl s).drop fr).length := by rw [List.length_drop]; omega
          rw [show i + 1 - fr = (i - fr) + 1 by omega, List.take_succ_eq_append_getElem hx, List.getElem_drop]
          congr 3
          omega
        rw [e2]
  refine (key s.size 0 0 [] (by omega) (Nat.le_refl _) (Nat.zero_le _) (Nat.le_refl _)).diag.mono fun k e => ?_
  rw [spec_l1Cut.f_eq, show (0 : Int) = ((0 : Nat) : Int) from rfl, e]
  simp only [List.drop_zero, Nat.sub_self, List.take_zero, List.nil_append]
  rw [preB_nil (cutB_ne _ _)]
  rfl
end Go.Proofs.YtabindnaedchgaaDoor.Rf
end

section
/- Lines of affixes, entries, deltas: written by both sides. -/
namespace Go.Proofs.YtabindnaedchgaaDoor.Rf
open Go Go.RowKit
set_option linter.unusedVariables false
set_option linter.unusedSimpArgs false
def sideL (b : Bool) : By := if b then [102, 114, 111, 110, 116] else [101, 110, 100]
def affL (a : Aff) : By := sideL a.2.1 ++ 32 :: (bl a.1 ++ 32 :: (bl a.2.2.1 ++ 32 :: (bl a.2.2.2.1 ++ 32 :: bl a.2.2.2.2)))
def entL (e : En) : By := if bl e.2 = [] then bl e.1 else bl e.1 ++ 47 :: bl e.2
def nlB (ls : List By) : By := (ls.map (· ++ [10])).flatten
def AFFW : By := [97, 102, 102, 105, 120, 101, 115]
def linesD (d : Delta) : List By := (if d.2.2.1 then [AFFW] else []) ++ (d.2.2.2.map affL ++ (d.1.map (fun s => 45 :: bl s) ++ d.2.1.map fun e => 43 :: entL e))
def dput (d : Delta) : ByteArray := mkB (nlB (linesD d))
def putD (d : Delta) : ByteArray := if deltaB d then dput d else bz
theorem nlB_app (a b : List By) : nlB (a ++ b) = nlB a ++ nlB b := by simp [nlB]
theorem nlB_cons (a : By) (b : List By) : nlB (a :: b) = a ++ 10 :: nlB b := by simp [nlB]
theorem nlB_nil : nlB [] = [] := rfl
/-- what is short -/
def tA (a : Aff) : Prop := a.1.size ≤ 1000 ∧ a.2.2.1.size ≤ 1000 ∧ a.2.2.2.1.size ≤ 1000 ∧ a.2.2.2.2.size ≤ 1000
def tE (e : En) : Prop := e.1.size ≤ 1000 ∧ e.2.size ≤ 1000
def tD (d : Delta) : Prop := (d.1.length ≤ 1000 ∧ ∀ s ∈ d.1, s.size ≤ 1000) ∧ (d.2.1.length ≤ 1000 ∧ ∀ e ∈ d.2.1, tE e) ∧ d.2.2.2.length ≤ 1000 ∧ ∀ a ∈ d.2.2.2, tA a
theorem sideL_len (b : Bool) : (sideL b).length ≤ 5 := by cases b <;> simp [sideL]
theorem affL_len {a : Aff} (h : tA a) : (affL a).length ≤ 4100 := by
  have := sideL_len a.2.1
  obtain ⟨h1, h2, h3, h4⟩ := h
  rw [size_bl] at h1 h2 h3 h4
  simp only [affL, List.length_append, List.length_cons]
  omega
theorem entL_len {e : En} (h : tE e) : (entL e).length ≤ 2100 := by
  obtain ⟨h1, h2⟩ := h
  rw [size_bl] at h1 h2
  unfold entL
  split
  · omega
  · simp only [List.length_append, List.length_cons]; omega
theorem nlB_len {ls : List By} {n : Nat} (h : ∀ p ∈ ls, p.length ≤ n) : (nlB ls).length ≤ ls.length * (n + 1) := by
  induction ls with
  | nil => simp [nlB]
  | cons p ls ih =>
    have h1 := h p List.mem_cons_self
    have h2 := ih fun q hq => h q (List.mem_cons_of_mem _ hq)
    rw [nlB_cons, List.length_append, List.length_cons, List.length_cons, Nat.succ_mul]
    omega
theorem bl_mkl (l : List UInt8) : bl (⟨l.toArray⟩ : ByteArray) = l := bl_mk l
theorem one_size (c : UInt8) : (⟨#[c]⟩ : ByteArray).size = 1 := rfl
theorem bl_one (c : UInt8) : bl (⟨#[c]⟩ : ByteArray) = [c] := rfl
theorem ap_one (s : ByteArray) (c : UInt8) : s ++ (⟨#[c]⟩ : ByteArray) = mkB (bl s ++ [c]) := bl_inj (by rw [bl_app, bl_mk, bl_one])
theorem joinL_eq (k : Nat) (x a b c d : ByteArray) (h : x.size + a.size + b.size + c.size + d.size ≤ 100000) : strings_Join.f k [x, a, b, c, d] (⟨#[32]⟩ : ByteArray) = some (mkB (bl x ++ 32 :: (bl a ++ 32 :: (bl b ++ 32 :: (bl c ++ 32 :: bl d))))) := by
  have e : Lib.join ([x, a, b, c, d].map (fun y => y.data.toList)) (⟨#[32]⟩ : ByteArray).data.toList = bl x ++ 32 :: (bl a ++ 32 :: (bl b ++ 32 :: (bl c ++ 32 :: bl d))) := by
    rw [List.map_cons, Lib.join_cons]
    simp [Lib.joinTail, bl]
  unfold strings_Join.f strings_Join.F
  simp only [e]
  rw [if_pos]
  · rfl
  · refine ⟨by simp, ?_⟩
    simp only [List.length_append, List.length_cons, bl_length]
    omega
theorem affixLine_al (a : Aff) (h : tA a) : Al fun k => impl_affixLine.f k a = some (mkB (affL a ++ [10])) := by
  have j : ∀ s : ByteArray, bl s = sideL a.2.1 → Al fun k => impl_affixLine.J4 k a s = some (mkB (affL a ++ [10])) := fun s hs => by
    have hl := sideL_len a.2.1
    have hz : s.size ≤ 5 := by rw [size_bl, hs]; exact hl
    obtain ⟨h1, h2, h3, h4⟩ := h
    refine Al.succ (Al.now fun k => ?_)
    have e := affL_len (a := a) ⟨h1, h2, h3, h4⟩
    rw [impl_affixLine.J4_eq, joinL_eq _ _ _ _ _ _ (by omega), Option.bind_some, hs]
    show ifb (fitB ((mkB (affL a)).size + 1)) (some (mkB (affL a) ++ (⟨#[10]⟩ : ByteArray))) none = _
    rw [fitB_t (by rw [size_mk]; omega), ifb_t, ap_one, bl_mk]
  cases hf : a.2.1
  · have := j (⟨#[101, 110, 100]⟩ : ByteArray) (by rw [hf]; rfl)
    exact this.mono fun k e => by rw [impl_affixLine.f_eq, hf, ifb_f]; exact e
  · have := j (⟨#[102, 114, 111, 110, 116]⟩ : ByteArray) (by rw [hf]; rfl)
    exact this.mono fun k e => by rw [impl_affixLine.f_eq, hf, ifb_t]; exact e
theorem bl_nil_iff (s : ByteArray) : (s.toList == bz.toList) = decide (bl s = []) := by
  rw [eq_beq, Bool.eq_iff_iff, decide_eq_true_eq, decide_eq_true_eq]
  exact ⟨fun h => by rw [h]; rfl, fun h => bl_inj (by rw [h]; rfl)⟩
theorem entryLine_eq (k : Nat) (e : En) (h : tE e) : impl_entryLine.f k e = some (mkB (entL e ++ [10])) := by
  obtain ⟨h1, h2⟩ := h
  rw [impl_entryLine.f_eq, bl_nil_iff]
  unfold entL
  by_cases hn : bl e.2 = []
  · rw [decide_eq_true hn, ifb_t, if_pos hn, fitB_t (by rw [one_size]; omega), ifb_t, ap_one]
  · have z1 : (e.1 ++ (⟨#[47]⟩ : ByteArray)).size = e.1.size + 1 := ByteArray.size_append
    have z2 : ((e.1 ++ (⟨#[47]⟩ : ByteArray)) ++ e.2).size = e.1.size + 1 + e.2.size := by rw [ByteArray.size_append, z1]
    rw [decide_eq_false hn, ifb_f, if_neg hn, fitB_t (by rw [one_size]; omega), ifb_t, fitB_t (by rw [z1]; omega), ifb_t, fitB_t (by rw [z2, one_size]; omega), ifb_t, ap_one]
    congr 2
    rw [bl_app, bl_app, bl_one]
    simp
/-- the program's way -/
theorem impl_DeltaPut_al (d : Delta) (hs : smD d) (h : tD d) : Al fun k => impl_DeltaPut.f k d = some (putD d) := by
  have e0 := impl_DeltaOk_al d hs
  cases h1 : deltaB d with
  | false => exact e0.mono fun k e => by rw [impl_DeltaPut.f_eq, e, h1, Option.bind_some, Bool.not_false, ifb_t, putD, h1]; rfl
  | true =>
  obtain ⟨⟨n1, s1⟩, ⟨n2, s2⟩, n3, s3⟩ := h
  have L17 : ∀ (t : List En) (i : Nat) (x : ByteArray), d.2.1.drop i = t → x.size + 5000 * t.length ≤ 20000000 → Al2 fun k k1 => impl_DeltaPut.L17 k k1 x d.2.1 (d.2.1.length : Int) (i : Int) = some (mkB (bl x ++ nlB (t.map fun e => 43 :: entL e))) := by
    intro t
    induction t with
    | nil =>
      intro i x hd hx
      refine Al2.succ (Al2.now fun k k1 => ?_)
      rw [impl_DeltaPut.L17_eq, at_end (drop_nil hd), ifb_f, List.map_nil, nlB_nil, List.append_nil, mk_bl]
    | cons e t ih =>
      intro i x hd hx
      rw [List.length_cons] at hx
      obtain ⟨hi, g1, g2⟩ := drop_cons zE hd
      obtain ⟨c1, c2, c3, c4⟩ := at_i hi (by omega)
      have he : tE e := s2 e (List.mem_of_mem_drop (show e ∈ d.2.1.drop i by rw [hd]; simp))
      have hl := entL_len he
      have z1 : (mkB (entL e ++ [10])).size = (entL e).length + 1 := by rw [size_mk]; simp
      have z2 : ((⟨#[43]⟩ : ByteArray) ++ mkB (entL e ++ [10])).size = 1 + ((entL e).length + 1) := by rw [ByteArray.size_append, z1]; rfl
      refine Al2.succ ((ih (i + 1) (x ++ ((⟨#[43]⟩ : ByteArray) ++ mkB (entL e ++ [10]))) g2 (by rw [ByteArray.size_append, z2]; omega)).mono fun k k1 e1 => ?_)
      simp only [impl_DeltaPut.L17_eq, c1, c2, c3, Bool.and_self, ifb_t, g1, entryLine_eq _ e he, Option.bind_some, fitB_t (show (⟨#[43]⟩ : ByteArray).size + (mkB (entL e ++ [10])).size ≤ 9223372036854775807 by rw [z1, one_size]; omega),
        fitB_t (show x.size + ((⟨#[43]⟩ : ByteArray) ++ mkB (entL e ++ [10])).size ≤ 9223372036854775807 by rw [z2]; omega), w64, c4, e1]
      congr 2
      rw [bl_app, bl_app, bl_one, bl_mk, List.map_cons, nlB_cons]
      simp
  have L12 : ∀ (t : List ByteArray) (i : Nat) (x : ByteArray), d.1.drop i = t → x.size + 5000 * t.length ≤ 15000000 → Al2 fun k k1 => impl_DeltaPut.L12 k k1 d x d.1 (d.1.length : Int) (i : Int) = some (mkB (bl x ++ nlB (t.map (fun s => 45 :: bl s) ++ d.2.1.map fun e => 43 :: entL e))) := by
    intro t
    induction t with
    | nil =>
      intro i x hd hx
      rw [List.length_nil] at hx
      refine Al2.succ ((L17 d.2.1 0 x rfl (by omega)).diag.fst.mono fun k k1 e => ?_)
      rw [impl_DeltaPut.L12_eq, at_end (drop_nil hd), ifb_f]
      exact e
    | cons s t ih =>
      intro i x hd hx
      rw [List.length_cons] at hx
      obtain ⟨hi, g1, g2⟩ := drop_cons bz hd
      obtain ⟨c1, c2, c3, c4⟩ := at_i hi (by omega)
      have he : s.size ≤ 1000 := s1 s (List.mem_of_mem_drop (show s ∈ d.1.drop i by rw [hd]; simp))
      have z1 : ((⟨#[45]⟩ : ByteArray) ++ s).size = 1 + s.size := ByteArray.size_append
      have z2 : (((⟨#[45]⟩ : ByteArray) ++ s) ++ (⟨#[10]⟩ : ByteArray)).size = 1 + s.size + 1 := by rw [ByteArray.size_append, z1]; rfl
      refine Al2.succ ((ih (i + 1) (x ++ (((⟨#[45]⟩ : ByteArray) ++ s) ++ (⟨#[10]⟩ : ByteArray))) g2 (by rw [ByteArray.size_append, z2]; omega)).mono fun k k1 e1 => ?_)
      simp only [impl_DeltaPut.L12_eq, c1, c2, c3, Bool.and_self, ifb_t, g1, fitB_t (show (⟨#[45]⟩ : ByteArray).size + s.size ≤ 9223372036854775807 by rw [one_size]; omega),
        fitB_t (show ((⟨#[45]⟩ : ByteArray) ++ s).size + (⟨#[10]⟩ : ByteArray).size ≤ 9223372036854775807 by rw [z1, one_size]; omega),
        fitB_t (show x.size + (((⟨#[45]⟩ : ByteArray) ++ s) ++ (⟨#[10]⟩ : ByteArray)).size ≤ 9223372036854775807 by rw [z2]; omega), w64, c4, e1]
      congr 2
      rw [bl_app, bl_app, bl_app, bl_one, bl_one]
      simp [nlB_cons]
  have L7 : ∀ (t : List Aff) (i : Nat) (x : ByteArray), d.2.2.2.drop i = t → x.size + 5000 * t.length ≤ 10000000 → Al2 fun k k1 => impl_DeltaPut.L7 k k1 d x d.2.2.2 (d.2.2.2.length : Int) (i : Int) = some (mkB (bl x ++ nlB (t.map affL ++ (d.1.map (fun s => 45 :: bl s) ++ d.2.1.map fun e => 43 :: entL e)))) := by
    intro t
    induction t with
    | nil =>
      intro i x hd hx
      rw [List.length_nil] at hx
      refine Al2.succ ((L12 d.1 0 x rfl (by omega)).diag.fst.mono fun k k1 e => ?_)
      rw [impl_DeltaPut.L7_eq, at_end (drop_nil hd), ifb_f]
      exact e
    | cons a t ih =>
      intro i x hd hx
      rw [List.length_cons] at hx
      obtain ⟨hi, g1, g2⟩ := drop_cons zA hd
      obtain ⟨c1, c2, c3, c4⟩ := at_i hi (by omega)
      have he : tA a := s3 a (List.mem_of_mem_drop (show a ∈ d.2.2.2.drop i by rw [hd]; simp))
      have hl := affL_len he
      have z1 : (mkB (affL a ++ [10])).size = (affL a).length + 1 := by rw [size_mk]; simp
      refine Al2.succ (((affixLine_al a he).snd.and (ih (i + 1) (x ++ mkB (affL a ++ [10])) g2 (by rw [ByteArray.size_append, z1]; omega))).mono fun k k1 ⟨e0, e1⟩ => ?_)
      simp only [impl_DeltaPut.L7_eq, c1, c2, c3, Bool.and_self, ifb_t, g1, e0, Option.bind_some, fitB_t (show x.size + (mkB (affL a ++ [10])).size ≤ 9223372036854775807 by rw [z1]; omega), w64, c4, e1]
      congr 2
      rw [bl_app, bl_mk]
      simp [nlB_cons]
  have J6 : ∀ x : ByteArray, bl x = nlB (if d.2.2.1 then [AFFW] else []) → Al fun k => impl_DeltaPut.J6 k d x = some (dput d) := fun x hx => by
    have hz : x.size ≤ 10 := by
      rw [size_bl, hx]
      cases d.2.2.1 <;> simp [nlB, AFFW]
    refine Al.succ ((L7 d.2.2.2 0 x rfl (by omega)).diag.mono fun k e => ?_)
    rw [impl_DeltaPut.J6_eq]
    refine (e.trans ?_)
    rw [dput, linesD, nlB_app _ (List.map affL d.2.2.2 ++ _), hx]
  cases hf : d.2.2.1 with
  | false => exact (e0.and (J6 bz (by rw [hf]; rfl))).mono fun k ⟨e, e1⟩ => by simp only [impl_DeltaPut.f_eq, e, h1, Option.bind_some, Bool.not_true, ifb_f, hf, e1, putD, if_true]
  | true => exact (e0.and (J6 (⟨#[97, 102, 102, 105, 120, 101, 115, 10]⟩ : ByteArray) (by rw [hf]; rfl))).mono fun k ⟨e, e1⟩ => by simp only [impl_DeltaPut.f_eq, e, h1, Option.bind_some, Bool.not_true, ifb_f, ifb_t, hf, e1, putD, if_true]
/-! ### The reference's way -/
theorem l2AffixPut_al (a : Aff) (h : tA a) : Al fun k => spec_l2AffixPut.f k a = some (mkB (affL a)) := by
  have j : ∀ s : ByteArray, bl s = sideL a.2.1 → Al fun k => spec_l2AffixPut.J4 k a s = some (mkB (affL a)) := fun s hs => by
    have hl := sideL_len a.2.1
    have hz : s.size ≤ 5 := by rw [size_bl, hs]; exact hl
    obtain ⟨h1, h2, h3, h4⟩ := h
    refine Al.succ (Al.now fun k => ?_)
    simp only [spec_l2AffixPut.J4_eq, ByteArray.size_append, one_size]
    rw [fitB_t (by omega), ifb_t, fitB_t (by omega), ifb_t, fitB_t (by omega), ifb_t, fitB_t (by omega), ifb_t, fitB_t (by omega), ifb_t, fitB_t (by omega), ifb_t, fitB_t (by omega), ifb_t, fitB_t (by omega), ifb_t]
    refine congrArg some (bl_inj ?_)
    rw [bl_mk]
    simp only [bl_app, bl_one, hs, affL, List.append_assoc, List.cons_append, List.nil_append]
  cases hf : a.2.1
  · have := j (⟨#[101, 110, 100]⟩ : ByteArray) (by rw [hf]; rfl)
    exact this.mono fun k e => by rw [spec_l2AffixPut.f_eq, hf, ifb_f]; exact e
  · have := j (⟨#[102, 114, 111, 110, 116]⟩ : ByteArray) (by rw [hf]; rfl)
    exact this.mono fun k e => by rw [spec_l2AffixPut.f_eq, hf, ifb_t]; exact e
theorem l2EntryPut_eq (k : Nat) (e : En) (h : tE e) : spec_l2EntryPut.f k e = some (mkB (entL e)) := by
  obtain ⟨h1, h2⟩ := h
  rw [spec_l2EntryPut.f_eq, bl_nil_iff]
  unfold entL
  by_cases hn : bl e.2 = []
  · rw [decide_eq_true hn, ifb_t, if_pos hn, mk_bl]
  · rw [decide_eq_false hn, ifb_f, if_neg hn, fitB_t (by rw [one_size]; omega), ifb_t, fitB_t (by rw [ByteArray.size_append, one_size]; omega), ifb_t]
    refine congrArg some (bl_inj ?_)
    rw [bl_mk, bl_app, bl_app, bl_one]
    simp
theorem spec_l5Put_al (d : Delta) (h : tD d) : Al fun k => spec_l5Put.f k d = some (dput d) := by
  obtain ⟨⟨n1, s1⟩, ⟨n2, s2⟩, n3, s3⟩ := h
  have L13 : ∀ (t : List En) (i : Nat) (x : ByteArray), d.2.1.drop i = t → x.size + 5000 * t.length ≤ 20000000 → Al2 fun k k1 => spec_l5Put.L13 k k1 d x (i : Int) = some (mkB (bl x ++ nlB (t.map fun e => 43 :: entL e))) := by
    intro t
    induction t with
    | nil =>
      intro i x hd hx
      refine Al2.succ (Al2.now fun k k1 => ?_)
      rw [spec_l5Put.L13_eq, at_end (drop_nil hd), ifb_f, List.map_nil, nlB_nil, List.append_nil, mk_bl]
    | cons e t ih =>
      intro i x hd hx
      rw [List.length_cons] at hx
      obtain ⟨hi, g1, g2⟩ := drop_cons zE hd
      obtain ⟨c1, c2, c3, c4⟩ := at_i hi (by omega)
      have he : tE e := s2 e (List.mem_of_mem_drop (show e ∈ d.2.1.drop i by rw [hd]; simp))
      have hl := entL_len he
      have z0 : (x ++ (⟨#[43]⟩ : ByteArray)).size = x.size + 1 := ByteArray.size_append
      have z1 : ((x ++ (⟨#[43]⟩ : ByteArray)) ++ mkB (entL e)).size = x.size + 1 + (entL e).length := by rw [ByteArray.size_append, z0, size_mk]
      have z2 : (((x ++ (⟨#[43]⟩ : ByteArray)) ++ mkB (entL e)) ++ (⟨#[10]⟩ : ByteArray)).size = x.size + 1 + (entL e).length + 1 := by rw [ByteArray.size_append, z1]; rfl
      refine Al2.succ ((ih (i + 1) (((x ++ (⟨#[43]⟩ : ByteArray)) ++ mkB (entL e)) ++ (⟨#[10]⟩ : ByteArray)) g2 (by rw [z2]; omega)).mono fun k k1 e1 => ?_)
      simp only [spec_l5Put.L13_eq, c1, c2, c3, Bool.and_self, ifb_t, g1, l2EntryPut_eq _ e he, Option.bind_some, fitB_t (show x.size + (⟨#[43]⟩ : ByteArray).size ≤ 9223372036854775807 by rw [one_size]; omega),
        fitB_t (show (x ++ (⟨#[43]⟩ : ByteArray)).size + (mkB (entL e)).size ≤ 9223372036854775807 by rw [z0, size_mk]; omega),
        fitB_t (show ((x ++ (⟨#[43]⟩ : ByteArray)) ++ mkB (entL e)).size + (⟨#[10]⟩ : ByteArray).size ≤ 9223372036854775807 by rw [z1, one_size]; omega), w64, c4, e1]
      congr 2
      rw [bl_app, bl_app, bl_app, bl_one, bl_one, bl_mk]
      simp [nlB_cons]
  have L9 : ∀ (t : List ByteArray) (i : Nat) (x : ByteArray), d.1.drop i = t → x.size + 5000 * t.length ≤ 15000000 → Al2 fun k k1 => spec_l5Put.L9 k k1 d x (i : Int) = some (mkB (bl x ++ nlB (t.map (fun s => 45 :: bl s) ++ d.2.1.map fun e => 43 :: entL e))) := by
    intro t
    induction t with
    | nil =>
      intro i x hd hx
      rw [List.length_nil] at hx
      refine Al2.succ ((L13 d.2.1 0 x rfl (by omega)).diag.fst.mono fun k k1 e => ?_)
      rw [spec_l5Put.L9_eq, at_end (drop_nil hd), ifb_f]
      exact e
    | cons s t ih =>
      intro i x hd hx
      rw [List.length_cons] at hx
      obtain ⟨hi, g1, g2⟩ := drop_cons bz hd
      obtain ⟨c1, c2, c3, c4⟩ := at_i hi (by omega)
      have he : s.size ≤ 1000 := s1 s (List.mem_of_mem_drop (show s ∈ d.1.drop i by rw [hd]; simp))
      have z0 : (x ++ (⟨#[45]⟩ : ByteArray)).size = x.size + 1 := ByteArray.size_append
      have z1 : ((x ++ (⟨#[45]⟩ : ByteArray)) ++ s).size = x.size + 1 + s.size := by rw [ByteArray.size_append, z0]
      have z2 : (((x ++ (⟨#[45]⟩ : ByteArray)) ++ s) ++ (⟨#[10]⟩ : ByteArray)).size = x.size + 1 + s.size + 1 := by rw [ByteArray.size_append, z1]; rfl
      refine Al2.succ ((ih (i + 1) (((x ++ (⟨#[45]⟩ : ByteArray)) ++ s) ++ (⟨#[10]⟩ : ByteArray)) g2 (by rw [z2]; omega)).mono fun k k1 e1 => ?_)
      simp only [spec_l5Put.L9_eq, c1, c2, c3, Bool.and_self, ifb_t, g1, fitB_t (show x.size + (⟨#[45]⟩ : ByteArray).size ≤ 9223372036854775807 by rw [one_size]; omega),
        fitB_t (show (x ++ (⟨#[45]⟩ : ByteArray)).size + s.size ≤ 9223372036854775807 by rw [z0]; omega),
        fitB_t (show ((x ++ (⟨#[45]⟩ : ByteArray)) ++ s).size + (⟨#[10]⟩ : ByteArray).size ≤ 9223372036854775807 by rw [z1, one_size]; omega), w64, c4, e1]
      congr 2
      rw [bl_app, bl_app, bl_app, bl_one, bl_one]
      simp [nlB_cons]
  have L5 : ∀ (t : List Aff) (i : Nat) (x : ByteArray), d.2.2.2.drop i = t → x.size + 5000 * t.length ≤ 10000000 → Al2 fun k k1 => spec_l5Put.L5 k k1 d x (i : Int) = some (mkB (bl x ++ nlB (t.map affL ++ (d.1.map (fun s => 45 :: bl s) ++ d.2.1.map fun e => 43 :: entL e)))) := by
    intro t
    induction t with
    | nil =>
      intro i x hd hx
      rw [List.length_nil] at hx
      refine Al2.succ ((L9 d.1 0 x rfl (by omega)).diag.fst.mono fun k k1 e => ?_)
      rw [spec_l5Put.L5_eq, at_end (drop_nil hd), ifb_f]
      exact e
    | cons a t ih =>
      intro i x hd hx
      rw [List.length_cons] at hx
      obtain ⟨hi, g1, g2⟩ := drop_cons zA hd
      obtain ⟨c1, c2, c3, c4⟩ := at_i hi (by omega)
      have he : tA a := s3 a (List.mem_of_mem_drop (show a ∈ d.2.2.2.drop i by rw [hd]; simp))
      have hl := affL_len he
      have z1 : (x ++ mkB (affL a)).size = x.size + (affL a).length := by rw [ByteArray.size_append, size_mk]
      have z2 : ((x ++ mkB (affL a)) ++ (⟨#[10]⟩ : ByteArray)).size = x.size + (affL a).length + 1 := by rw [ByteArray.size_append, z1]; rfl
      refine Al2.succ (((l2AffixPut_al a he).snd.and (ih (i + 1) ((x ++ mkB (affL a)) ++ (⟨#[10]⟩ : ByteArray)) g2 (by rw [z2]; omega))).mono fun k k1 ⟨e0, e1⟩ => ?_)
      simp only [spec_l5Put.L5_eq, c1, c2, c3, Bool.and_self, ifb_t, g1, e0, Option.bind_some, fitB_t (show x.size + (mkB (affL a)).size ≤ 9223372036854775807 by rw [size_mk]; omega),
        fitB_t (show (x ++ mkB (affL a)).size + (⟨#[10]⟩ : ByteArray).size ≤ 9223372036854775807 by rw [z1, one_size]; omega), w64, c4, e1]
      congr 2
      rw [bl_app, bl_app, bl_one, bl_mk]
      simp [nlB_cons]
  have J4 : ∀ x : ByteArray, bl x = nlB (if d.2.2.1 then [AFFW] else []) → Al fun k => spec_l5Put.J4 k d x = some (dput d) := fun x hx => by
    have hz : x.size ≤ 10 := by
      rw [size_bl, hx]
      cases d.2.2.1 <;> simp [nlB, AFFW]
    refine Al.succ ((L5 d.2.2.2 0 x rfl (by omega)).diag.mono fun k e => ?_)
    rw [spec_l5Put.J4_eq]
    refine (e.trans ?_)
    rw [dput, linesD, nlB_app _ (List.map affL d.2.2.2 ++ _), hx]
  cases hf : d.2.2.1 with
  | false => exact (J4 bz (by rw [hf]; rfl)).mono fun k e1 => by simp only [spec_l5Put.f_eq, ifb_f, hf, e1]
  | true => exact (J4 (⟨#[97, 102, 102, 105, 120, 101, 115, 10]⟩ : ByteArray) (by rw [hf]; rfl)).mono fun k e1 => by simp only [spec_l5Put.f_eq, ifb_t, hf, e1]
theorem spec_DeltaPut_al (d : Delta) (hs : smD d) (h : tD d) : Al fun k => spec_DeltaPut.f k d = some (putD d) := by
  refine ((spec_DeltaOk_al d hs).and (spec_l5Put_al d h)).mono fun k ⟨e1, e2⟩ => ?_
  simp only [spec_DeltaPut.f_eq, e1, Option.bind_some, e2, putD]
  cases deltaB d <;> simp [ifb_t, ifb_f]
end Go.Proofs.YtabindnaedchgaaDoor.Rf
end

section
/- A delta's text read by both sides; what is written is read again. -/
namespace Go.Proofs.YtabindnaedchgaaDoor.Rf
open Go Go.RowKit
set_option linter.unusedVariables false
set_option linter.unusedSimpArgs false
def d0 : Delta := ([], [], false, [])
def rest1 (s : ByteArray) : ByteArray := s.extract 1 s.size
def readE (x : ByteArray) : En := (mkB (Lib.cut (bl x) [47]).1, mkB (Lib.cut (bl x) [47]).2.1)
def getA (ws : List ByteArray) : Aff := (ws.getD 1 bz, decide (bl (ws.getD 0 bz) = [102, 114, 111, 110, 116]), ws.getD 2 bz, ws.getD 3 bz, ws.getD 4 bz)
def readA (x : ByteArray) : Aff := getA (cutS 32 x ++ [bz, bz, bz, bz])
def hd1 (c : UInt8) (x : ByteArray) : Bool := decide ((bl x).head? = some c)
def istep (st : Delta) (x : ByteArray) : Delta :=
  if bl x = AFFW then (st.1, st.2.1, true, st.2.2.2) else if hd1 45 x then (st.1 ++ [rest1 x], st.2) else if hd1 43 x then (st.1, st.2.1 ++ [readE (rest1 x)], st.2.2) else (st.1, st.2.1, st.2.2.1, st.2.2.2 ++ [readA x])
def getE (x : ByteArray) : En × Bool :=
  if 2 < (cutS 47 x).length then (zE, false) else if (cutS 47 x).length = 2 then (if bl ((cutS 47 x).getD 1 bz) = [] then (zE, false) else (((cutS 47 x).getD 0 bz, (cutS 47 x).getD 1 bz), entB ((cutS 47 x).getD 0 bz, (cutS 47 x).getD 1 bz)))
  else (((cutS 47 x).getD 0 bz, bz), entB ((cutS 47 x).getD 0 bz, bz))
def sstep (st : Delta) (x : ByteArray) : Delta × Bool :=
  if bl x = AFFW then ((st.1, st.2.1, true, st.2.2.2), true) else if (cutS 32 x).length = 5 then ((st.1, st.2.1, st.2.2.1, st.2.2.2 ++ [getA (cutS 32 x)]), true)
  else if hd1 45 x then ((st.1 ++ [rest1 x], st.2), true) else if hd1 43 x then ((st.1, st.2.1 ++ [(getE (rest1 x)).1], st.2.2), (getE (rest1 x)).2) else (st, false)
def srun : List ByteArray → Delta → Option Delta
  | [], st => some st
  | x :: xs, st => if (sstep st x).2 then srun xs (sstep st x).1 else none
/-- What is read is no longer than the text. -/
structure Bd (N i : Nat) (st : Delta) : Prop where
  g1 : st.1.length ≤ i
  g2 : ∀ s ∈ st.1, s.size ≤ N
  c1 : st.2.1.length ≤ i
  c2 : ∀ e ∈ st.2.1, e.1.size ≤ N ∧ e.2.size ≤ N
  l1 : st.2.2.2.length ≤ i
  l2 : ∀ x ∈ st.2.2.2, x.1.size ≤ N ∧ x.2.2.1.size ≤ N ∧ x.2.2.2.1.size ≤ N ∧ x.2.2.2.2.size ≤ N
theorem Bd.zero (N : Nat) : Bd N 0 d0 := ⟨Nat.le_refl _, fun s h => absurd h (by simp [d0]), Nat.le_refl _, fun s h => absurd h (by simp [d0]), Nat.le_refl _, fun s h => absurd h (by simp [d0])⟩
theorem Bd.sm {N i : Nat} {st : Delta} (h : Bd N i st) (hN : N ≤ 100000000) (hi : i ≤ 100000000) : smD st := by
  have a1 := h.g1
  have a2 := h.c1
  have a3 := h.l1
  refine ⟨⟨by omega, fun s hs => ?_⟩, ⟨by omega, fun e he => ?_⟩, by omega, fun x hx => ?_⟩
  · have := h.g2 s hs; unfold Sm; omega
  · have := h.c2 e he; unfold smE Sm; omega
  · have := h.l2 x hx; unfold smA Sm; omega
theorem rest1_size (s : ByteArray) : (rest1 s).size ≤ s.size := by
  unfold rest1
  rw [ByteArray.size_extract]
  omega
theorem rd_size {ws : List ByteArray} {N : Nat} (h : ∀ p ∈ ws, p.size ≤ N) (i : Nat) : (ws.getD i bz).size ≤ N := by
  rw [List.getD_eq_getElem?_getD]
  cases hq : ws[i]? with
  | none => exact Nat.zero_le _
  | some p => exact h p (List.mem_of_getElem? hq)
theorem readE_size (x : ByteArray) : (readE x).1.size ≤ x.size ∧ (readE x).2.size ≤ x.size := by
  have h := cut2_small (bl x) [47]
  rw [size_bl x]
  exact ⟨by rw [readE, size_mk]; exact h.1, by rw [readE, size_mk]; exact h.2⟩
theorem getE_size (x : ByteArray) : (getE x).1.1.size ≤ x.size ∧ (getE x).1.2.size ≤ x.size := by
  have h := fun p hp => cutS_piece 47 x p hp
  unfold getE
  split
  · exact ⟨Nat.zero_le _, Nat.zero_le _⟩
  · split
    · split
      · exact ⟨Nat.zero_le _, Nat.zero_le _⟩
      · exact ⟨rd_size h _, rd_size h _⟩
    · exact ⟨rd_size h _, Nat.zero_le _⟩
theorem Bd.g {N i : Nat} {st : Delta} (h : Bd N i st) {s : ByteArray} (hs : s.size ≤ N) : Bd N (i + 1) (st.1 ++ [s], st.2) := by
  refine ⟨by simp; exact h.g1, fun t ht => ?_, Nat.le_succ_of_le h.c1, h.c2, Nat.le_succ_of_le h.l1, h.l2⟩
  rcases List.mem_append.1 ht with ht | ht
  · exact h.g2 t ht
  · rw [List.mem_singleton.1 ht]; exact hs
theorem Bd.c {N i : Nat} {st : Delta} (h : Bd N i st) {e : En} (hs : e.1.size ≤ N ∧ e.2.size ≤ N) : Bd N (i + 1) (st.1, st.2.1 ++ [e], st.2.2) := by
  refine ⟨Nat.le_succ_of_le h.g1, h.g2, by simp; exact h.c1, fun t ht => ?_, Nat.le_succ_of_le h.l1, h.l2⟩
  rcases List.mem_append.1 ht with ht | ht
  · exact h.c2 t ht
  · rw [List.mem_singleton.1 ht]; exact hs
theorem Bd.l {N i : Nat} {st : Delta} (h : Bd N i st) {e : Aff} (hs : e.1.size ≤ N ∧ e.2.2.1.size ≤ N ∧ e.2.2.2.1.size ≤ N ∧ e.2.2.2.2.size ≤ N) : Bd N (i + 1) (st.1, st.2.1, st.2.2.1, st.2.2.2 ++ [e]) := by
  refine ⟨Nat.le_succ_of_le h.g1, h.g2, Nat.le_succ_of_le h.c1, h.c2, by simp; exact h.l1, fun t ht => ?_⟩
  rcases List.mem_append.1 ht with ht | ht
  · exact h.l2 t ht
  · rw [List.mem_singleton.1 ht]; exact hs
theorem Bd.a {N i : Nat} {st : Delta} (h : Bd N i st) (b : Bool) : Bd N (i + 1) (st.1, st.2.1, b, st.2.2.2) :=
  ⟨Nat.le_succ_of_le h.g1, h.g2, Nat.le_succ_of_le h.c1, h.c2, Nat.le_succ_of_le h.l1, h.l2⟩
theorem blank_piece {N : Nat} (x : ByteArray) (hx : x.size ≤ N) : ∀ p ∈ cutS 32 x ++ [bz, bz, bz, bz], p.size ≤ N := by
  intro p hp
  rcases List.mem_append.1 hp with hp | hp
  · exact Nat.le_trans (cutS_piece 32 x p hp) hx
  · simp at hp
    subst hp
    exact Nat.zero_le _
theorem getA_size {ws : List ByteArray} {N : Nat} (h : ∀ p ∈ ws, p.size ≤ N) : (getA ws).1.size ≤ N ∧ (getA ws).2.2.1.size ≤ N ∧ (getA ws).2.2.2.1.size ≤ N ∧ (getA ws).2.2.2.2.size ≤ N := ⟨rd_size h _, rd_size h _, rd_size h _, rd_size h _⟩
theorem istep_bd {N i : Nat} {st : Delta} (h : Bd N i st) {x : ByteArray} (hx : x.size ≤ N) : Bd N (i + 1) (istep st x) := by
  unfold istep
  split
  · exact h.a true
  · split
    · exact h.g (Nat.le_trans (rest1_size x) hx)
    · split
      · have h1 := readE_size (rest1 x)
        have h2 := rest1_size x
        exact h.c ⟨by omega, by omega⟩
      · exact h.l (getA_size (blank_piece x hx))
theorem sstep_bd {N i : Nat} {st : Delta} (h : Bd N i st) {x : ByteArray} (hx : x.size ≤ N) : Bd N (i + 1) (sstep st x).1 := by
  unfold sstep
  split
  · exact h.a true
  · split
    · exact h.l (getA_size (fun p hp => Nat.le_trans (cutS_piece 32 x p hp) hx))
    · split
      · exact h.g (Nat.le_trans (rest1_size x) hx)
      · split
        · have h1 := getE_size (rest1 x)
          have h2 := rest1_size x
          exact h.c ⟨by omega, by omega⟩
        · exact ⟨Nat.le_succ_of_le h.g1, h.g2, Nat.le_succ_of_le h.c1, h.c2, Nat.le_succ_of_le h.l1, h.l2⟩
/-! ### The functions -/
theorem split_eq (k : Nat) (c : UInt8) (s : ByteArray) (hs : s.size < 4294967281) : strings_Split.f k s (⟨#[c]⟩ : ByteArray) = some (cutS c s) := by
  unfold strings_Split.f strings_Split.F
  simp only
  rw [if_pos ⟨hs, by show 1 ≤ 1; omega⟩, split_B]
theorem linesOf_al (s : ByteArray) (hs : s.size ≤ 100000000) : Al fun k => impl_linesOf.f k s = some (cutS 10 s).dropLast := by
  have hl := cutS_length 10 s
  have hp := cutS_pos 10 s
  have j : Al fun k => impl_linesOf.J2 k (cutS 10 s) = some (cutS 10 s).dropLast := by
    refine Al.succ (Al.now fun k => ?_)
    have w : w64 (((cutS 10 s).length : Int) - 1) = (((cutS 10 s).length - 1 : Nat) : Int) := by rw [w64, w_id (by omega) (by omega)]; omega
    simp only [impl_linesOf.J2_eq, w, decide_eq_true (show (0 : Int) ≤ 0 by omega), decide_eq_true (show (0 : Int) ≤ (((cutS 10 s).length - 1 : Nat) : Int) by omega), decide_eq_true (show (((cutS 10 s).length - 1 : Nat) : Int) ≤ ((cutS 10 s).length : Int) by omega), Bool.and_self, ifb_t, Int.toNat_natCast, Int.toNat_zero, List.drop_zero, List.dropLast_eq_take]
  exact j.mono fun k e => by rw [impl_linesOf.f_eq, split_eq k 10 s (by omega), Option.bind_some, e]
theorem front_beq (s : ByteArray) : (s.toList == (⟨#[102, 114, 111, 110, 116]⟩ : ByteArray).toList) = decide (bl s = [102, 114, 111, 110, 116]) := by
  rw [eq_beq, Bool.eq_iff_iff, decide_eq_true_eq, decide_eq_true_eq]
  exact ⟨fun h => by rw [h]; rfl, fun h => bl_inj (by rw [h]; rfl)⟩
theorem affw_beq (s : ByteArray) : (s.toList == (⟨#[97, 102, 102, 105, 120, 101, 115]⟩ : ByteArray).toList) = decide (bl s = AFFW) := by
  rw [eq_beq, Bool.eq_iff_iff, decide_eq_true_eq, decide_eq_true_eq]
  exact ⟨fun h => by rw [h]; rfl, fun h => bl_inj (by rw [h]; rfl)⟩
theorem readAffix_eq (k : Nat) (x : ByteArray) (h : x.size ≤ 100000000) : impl_readAffix.f k x = some (readA x) := by
  have hl := cutS_length 32 x
  have hp := cutS_pos 32 x
  rw [impl_readAffix.f_eq, split_eq k 32 x (by omega), Option.bind_some]
  have e4 : ([bz, bz, bz, bz] : List ByteArray).length = 4 := rfl
  have m1 : decide (((cutS 32 x).length + [bz, bz, bz, bz].length) * 16 ≤ rowMax) = true := decide_eq_true (by rw [e4]; simp [rowMax]; omega)
  have hlen : (cutS 32 x ++ [bz, bz, bz, bz]).length = (cutS 32 x).length + 4 := by rw [List.length_append, e4]
  rw [m1, ifb_t, hlen]
  simp only [decide_eq_true (show (0 : Int) ≤ 0 by omega), decide_eq_true (show (0 : Int) ≤ 1 by omega), decide_eq_true (show (0 : Int) ≤ 2 by omega), decide_eq_true (show (0 : Int) ≤ 3 by omega), decide_eq_true (show (0 : Int) ≤ 4 by omega),
    decide_eq_true (show (0 : Int) < (((cutS 32 x).length + 4 : Nat) : Int) by omega), decide_eq_true (show (1 : Int) < (((cutS 32 x).length + 4 : Nat) : Int) by omega), decide_eq_true (show (2 : Int) < (((cutS 32 x).length + 4 : Nat) : Int) by omega),
    decide_eq_true (show (3 : Int) < (((cutS 32 x).length + 4 : Nat) : Int) by omega), decide_eq_true (show (4 : Int) < (((cutS 32 x).length + 4 : Nat) : Int) by omega), Bool.and_self, ifb_t, front_beq]
  rfl
theorem readEntry_eq (k : Nat) (x : ByteArray) (h : x.size ≤ 100000000) : impl_readEntry.f k x = some (readE x) := by
  rw [impl_readEntry.f_eq]
  unfold strings_Cut.f strings_Cut.F
  simp only
  rw [if_pos (by omega), Option.bind_some]
  rfl
theorem begB_one (s : ByteArray) (c : UInt8) : begB s (⟨#[c]⟩ : ByteArray) = hd1 c s := by
  unfold begB hd1
  rw [Bool.eq_iff_iff]
  simp only [Bool.and_eq_true, decide_eq_true_eq]
  have e1 : (⟨#[c]⟩ : ByteArray).size = 1 := rfl
  rw [e1]
  constructor
  · rintro ⟨h1, h2⟩
    have := congrArg bl h2
    rw [bl_to, bl_one] at this
    cases hb : bl s with
    | nil => rw [hb] at this; simp at this
    | cons b t => rw [hb] at this; simpa using this
  · intro h
    cases hb : bl s with
    | nil => rw [hb] at h; simp at h
    | cons b t =>
      rw [hb] at h
      have hb' : b = c := by simpa using h
      refine ⟨by rw [size_bl, hb]; simp, bl_inj ?_⟩
      rw [bl_to, hb, bl_one, hb']
      rfl
def resD (st : Delta) (x : ByteArray) : Delta × Bool := if deltaB st && decide (dput st = x) then (st, true) else (d0, false)
theorem tD_of {d : Delta} (h : deltaB d = true) : tD d := by
  have hl := len_okD h
  simp only [deltaB, Bool.and_eq_true] at h
  obtain ⟨hw, he, ha, _⟩ := h
  refine ⟨⟨by omega, fun s hs => ?_⟩, ⟨by omega, fun e hm => ?_⟩, by omega, fun a hm => ?_⟩
  · simp only [wordsB, Bool.and_eq_true, allN_iff] at hw
    obtain ⟨i, hi, rfl⟩ := List.mem_iff_getElem.1 hs
    have := (hw.1 i hi).1
    rw [List.getD_eq_getElem?_getD, List.getElem?_eq_getElem hi] at this
    simp only [wordB, lettersB, Bool.and_eq_true, decide_eq_true_eq, Option.getD_some] at this
    omega
  · simp only [entsB, Bool.and_eq_true, allN_iff] at he
    obtain ⟨i, hi, rfl⟩ := List.mem_iff_getElem.1 hm
    have := (he.1 i hi).1
    rw [List.getD_eq_getElem?_getD, List.getElem?_eq_getElem hi] at this
    simp only [entB, wordB, lettersB, Bool.and_eq_true, decide_eq_true_eq, Option.getD_some] at this
    unfold tE
    omega
  · simp only [affsB, Bool.and_eq_true, allN_iff] at ha
    obtain ⟨i, hi, rfl⟩ := List.mem_iff_getElem.1 hm
    have := (ha.1 i hi).1
    rw [List.getD_eq_getElem?_getD, List.getElem?_eq_getElem hi] at this
    simp only [affB, flagB, lettersB, Bool.and_eq_true, decide_eq_true_eq, Option.getD_some] at this
    unfold tA
    omega
theorem dput_beq (a x : ByteArray) : (a.toList == x.toList) = decide (a = x) := eq_beq a x
end Go.Proofs.YtabindnaedchgaaDoor.Rf
end

section
/- A delta read, both sides. -/
namespace Go.Proofs.YtabindnaedchgaaDoor.Rf
open Go Go.RowKit
set_option linter.unusedVariables false
set_option linter.unusedSimpArgs false
theorem hd1_pos {c : UInt8} {x : ByteArray} (h : hd1 c x = true) : 0 < x.size := by
  unfold hd1 at h
  rw [decide_eq_true_eq] at h
  rw [size_bl]
  cases hb : bl x with
  | nil => rw [hb] at h; simp at h
  | cons b t => simp
theorem rest1_ev (x : ByteArray) (h : 0 < x.size) : (decide ((0 : Int) ≤ 1) && (decide ((1 : Int) ≤ (x.size : Int)) && decide ((x.size : Int) ≤ (x.size : Int)))) = true ∧ x.extract (1 : Int).toNat (x.size : Int).toNat = rest1 x :=
  ⟨by rw [decide_eq_true (show (0 : Int) ≤ 1 by omega), decide_eq_true (show (1 : Int) ≤ (x.size : Int) by omega), decide_eq_true (Int.le_refl (x.size : Int))]; rfl, rfl⟩
theorem impl_DeltaGet_al (x : ByteArray) (hx : x.size ≤ 50000000) : Al fun k => impl_DeltaGet.f k x = some (resD ((cutS 10 x).dropLast.foldl istep d0) x) := by
  have hp : ∀ w ∈ (cutS 10 x).dropLast, w.size ≤ 50000000 := fun w hw => Nat.le_trans (cutS_piece 10 x w (List.dropLast_subset _ hw)) hx
  have hn : (cutS 10 x).dropLast.length ≤ 50000000 := by
    have := cutS_length 10 x
    rw [List.length_dropLast]
    omega
  have hlo := linesOf_al x (by omega)
  generalize (cutS 10 x).dropLast = ws at hp hn hlo ⊢
  have key : ∀ (t : List ByteArray) (i : Nat) (st : Delta), ws.drop i = t → Bd 50000000 i st → i ≤ ws.length → Al2 fun k k1 => impl_DeltaGet.L3 k k1 x d0 st ws (ws.length : Int) (i : Int) = some (resD (t.foldl istep st) x) := by
    intro t
    induction t with
    | nil =>
      intro i st hd hb hi
      have sm := hb.sm (by omega) (by omega)
      cases hok : deltaB st with
      | false =>
        refine Al2.succ ((impl_DeltaOk_al st sm).fst.mono fun k k1 e => ?_)
        simp only [impl_DeltaGet.L3_eq, at_end (drop_nil hd), ifb_f, e, hok, Option.bind_some, Bool.not_false, ifb_t, List.foldl_nil, resD, Bool.false_and, Bool.false_eq_true, if_false]
        rfl
      | true =>
        refine Al2.succ (((impl_DeltaOk_al st sm).and (impl_DeltaPut_al st sm (tD_of hok))).fst.mono fun k k1 ⟨e, e2⟩ => ?_)
        simp only [impl_DeltaGet.L3_eq, at_end (drop_nil hd), ifb_f, e, hok, Option.bind_some, Bool.not_true, e2, putD, if_true, dput_beq, List.foldl_nil, resD, Bool.true_and]
        by_cases h : dput st = x
        · simp [h, ifb_f]
        · simp [h, ifb_t, d0]
    | cons w t ih =>
      intro i st hd hb hi
      obtain ⟨hi', g1, g2⟩ := drop_cons bz hd
      obtain ⟨c1, c2, c3, c4⟩ := at_i hi' (by omega)
      have hw : w.size ≤ 50000000 := hp w (List.mem_of_mem_drop (show w ∈ ws.drop i by rw [hd]; simp))
      have ih' := ih (i + 1) (istep st w) g2 (istep_bd hb hw) (by omega)
      have a1 := hb.g1
      have a2 := hb.c1
      have a3 := hb.l1
      refine Al2.succ (ih'.mono fun k k1 e => ?_)
      rw [List.foldl_cons]
      simp only [impl_DeltaGet.L3_eq, c1, c2, c3, Bool.and_self, ifb_t, g1, affw_beq, strings_HasPrefix_eq, begB_one, Option.bind_some, w64, c4]
      unfold istep at e ⊢
      by_cases h0 : bl w = AFFW
      · simp only [if_pos h0] at e ⊢
        rw [decide_eq_true h0, ifb_t]
        exact e
      simp only [if_neg h0] at e ⊢
      rw [decide_eq_false h0, ifb_f]
      cases h1 : hd1 45 w with
      | true =>
        have hpz := hd1_pos h1
        simp only [h1, if_true] at e ⊢
        rw [ifb_t, (rest1_ev w hpz).1, ifb_t, (rest1_ev w hpz).2, decide_eq_true (by simp [rowMax]; omega), ifb_t]
        exact e
      | false =>
      simp only [h1, Bool.false_eq_true, if_false] at e ⊢
      rw [ifb_f]
      cases h2 : hd1 43 w with
      | true =>
        have hpz := hd1_pos h2
        have hr := rest1_size w
        simp only [h2, if_true] at e ⊢
        rw [ifb_t, (rest1_ev w hpz).1, ifb_t, (rest1_ev w hpz).2, readEntry_eq _ _ (by omega), Option.bind_some, decide_eq_true (by simp [rowMax]; omega), ifb_t]
        exact e
      | false =>
      simp only [h2, Bool.false_eq_true, if_false] at e ⊢
      rw [ifb_f, readAffix_eq _ _ (by omega), Option.bind_some, decide_eq_true (by simp [rowMax]; omega), ifb_t]
      exact e
  refine (hlo.and (key ws 0 d0 rfl (Bd.zero _) (Nat.zero_le _)).diag).mono fun k ⟨e1, e2⟩ => ?_
  rw [impl_DeltaGet.f_eq, e1, Option.bind_some]
  exact e2
/-! ### The reference -/
theorem l2AffixGet_eq (k : Nat) (ws : List ByteArray) (h : ws.length = 5) : spec_l2AffixGet.f k ws = some (getA ws) := by
  rw [spec_l2AffixGet.f_eq, h]
  simp only [show (decide ((0 : Int) ≤ 0) && decide ((0 : Int) < ((5 : Nat) : Int))) = true from rfl, show (decide ((0 : Int) ≤ 1) && decide ((1 : Int) < ((5 : Nat) : Int))) = true from rfl, show (decide ((0 : Int) ≤ 2) && decide ((2 : Int) < ((5 : Nat) : Int))) = true from rfl,
    show (decide ((0 : Int) ≤ 3) && decide ((3 : Int) < ((5 : Nat) : Int))) = true from rfl, show (decide ((0 : Int) ≤ 4) && decide ((4 : Int) < ((5 : Nat) : Int))) = true from rfl, ifb_t, front_beq]
  rfl
theorem l2EntryGet_al (x : ByteArray) (hx : x.size ≤ 100000000) : Al fun k => spec_l2EntryGet.f k x = some (getE x) := by
  have hc := spec_l1Cut_al 47 x (by omega)
  rw [show ((47 : UInt8).toNat : Int) = 47 from rfl] at hc
  have hl := cutS_length 47 x
  have hps := cutS_pos 47 x
  have hpc := fun p hp => cutS_piece 47 x p hp
  unfold getE
  generalize cutS 47 x = ws at hc hl hps hpc ⊢
  have hE : ∀ e : En, e.1.size ≤ x.size → e.2.size ≤ x.size → Al fun k => spec_l2EntryGet.J7 k zE e = some (e, entB e) := fun e h1 h2 => Al.succ ((spec_l2Entry_al e ⟨by unfold Sm; omega, by unfold Sm; omega⟩).mono fun k e1 => by rw [spec_l2EntryGet.J7_eq, e1, Option.bind_some])
  by_cases h2 : 2 < ws.length
  · refine hc.mono fun k e => ?_
    rw [spec_l2EntryGet.f_eq, e, Option.bind_some, decide_eq_true (by omega), ifb_t, if_pos h2]
  rw [if_neg h2]
  by_cases h3 : ws.length = 2
  · rw [if_pos h3]
    by_cases h4 : bl (ws.getD 1 bz) = []
    · refine hc.mono fun k e => ?_
      rw [spec_l2EntryGet.f_eq, e, Option.bind_some, h3]
      simp only [show decide (((2 : Nat) : Int) > 2) = false from rfl, ifb_f, show (((2 : Nat) : Int) == 2) = true from rfl, ifb_t, show (decide ((0 : Int) ≤ 1) && decide ((1 : Int) < ((2 : Nat) : Int))) = true from rfl, show ((1 : Int).toNat) = 1 from rfl, bl_nil_iff, decide_eq_true h4, if_pos h4]
    · refine (hc.and (hE (ws.getD 0 bz, ws.getD 1 bz) (rd_size hpc _) (rd_size hpc _))).mono fun k ⟨e, e1⟩ => ?_
      rw [spec_l2EntryGet.f_eq, e, Option.bind_some, h3]
      simp only [show decide (((2 : Nat) : Int) > 2) = false from rfl, ifb_f, show (((2 : Nat) : Int) == 2) = true from rfl, ifb_t, show (decide ((0 : Int) ≤ 1) && decide ((1 : Int) < ((2 : Nat) : Int))) = true from rfl, show (decide ((0 : Int) ≤ 0) && decide ((0 : Int) < ((2 : Nat) : Int))) = true from rfl, show ((1 : Int).toNat) = 1 from rfl, show ((0 : Int).toNat) = 0 from rfl, bl_nil_iff, decide_eq_false h4, if_neg h4, e1]
  · rw [if_neg h3]
    have h1 : ws.length = 1 := by omega
    refine (hc.and (hE (ws.getD 0 bz, bz) (rd_size hpc _) (Nat.zero_le _))).mono fun k ⟨e, e1⟩ => ?_
    rw [spec_l2EntryGet.f_eq, e, Option.bind_some, h1]
    simp only [show decide (((1 : Nat) : Int) > 2) = false from rfl, ifb_f, show (((1 : Nat) : Int) == 2) = false from rfl, ifb_t, show (decide ((0 : Int) ≤ 0) && decide ((0 : Int) < ((1 : Nat) : Int))) = true from rfl, show ((0 : Int).toNat) = 0 from rfl, e1]
theorem hd1_byte (c : UInt8) (x : ByteArray) (h : 0 < x.size) : (byteAt x (0 : Int) == (c.toNat : Int)) = hd1 c x := by
  unfold hd1
  rw [size_bl] at h
  cases hb : bl x with
  | nil => rw [hb] at h; simp at h
  | cons b t =>
    have := (byteAt_drop (s := x) (i := 0) (by rw [List.drop_zero]; exact hb)).2.1
    rw [show ((0 : Nat) : Int) = 0 from rfl] at this
    rw [this, Bool.eq_iff_iff, beq_iff_eq, decide_eq_true_eq, List.head?_cons, Option.some.injEq]
    exact ⟨fun e => UInt8.toNat_inj.1 (by omega), fun e => by rw [e]⟩
theorem hd1_none (c : UInt8) (x : ByteArray) (h : ¬ 0 < x.size) : hd1 c x = false := by
  refine Bool.eq_false_iff.2 fun hh => h (hd1_pos hh)
theorem l5Line_al (st : Delta) (x : ByteArray) (hx : x.size ≤ 100000000) (h1 : st.1.length ≤ 100000000) (h2 : st.2.1.length ≤ 100000000) (h3 : st.2.2.2.length ≤ 100000000) : Al fun k => spec_l5Line.f k st x = some (sstep st x) := by
  have hc := spec_l1Cut_al 32 x (by omega)
  rw [show ((32 : UInt8).toNat : Int) = 32 from rfl] at hc
  have hr := rest1_size x
  refine (hc.and (l2EntryGet_al (rest1 x) (by omega))).mono fun k ⟨e, e2⟩ => ?_
  rw [spec_l5Line.f_eq, e, Option.bind_some, affw_beq]
  unfold sstep
  by_cases q0 : bl x = AFFW
  · rw [decide_eq_true q0, ifb_t, if_pos q0]
  rw [decide_eq_false q0, ifb_f, if_neg q0]
  by_cases q1 : (cutS 32 x).length = 5
  · rw [if_pos q1, show (((cutS 32 x).length : Int) == 5) = true by rw [q1]; rfl, ifb_t, l2AffixGet_eq k _ q1, Option.bind_some, decide_eq_true (by simp [rowMax]; omega), ifb_t]
  rw [if_neg q1, show (((cutS 32 x).length : Int) == 5) = false by rw [beq_eq_false_iff_ne]; omega, ifb_f]
  by_cases hz : 0 < x.size
  · have b1 := hd1_byte 45 x hz
    have b2 := hd1_byte 43 x hz
    rw [show ((45 : UInt8).toNat : Int) = 45 from rfl] at b1
    rw [show ((43 : UInt8).toNat : Int) = 43 from rfl] at b2
    simp only [decide_eq_true (show (x.size : Int) > 0 by omega), ifb_t, decide_eq_true (show (0 : Int) < (x.size : Int) by omega), decide_eq_true (show (0 : Int) ≤ 0 by omega), Bool.and_self, b1, b2]
    cases hd1 45 x with
    | true =>
      simp only [if_true, ifb_t]
      rw [(rest1_ev x hz).1, ifb_t, (rest1_ev x hz).2, decide_eq_true (by simp [rowMax]; omega), ifb_t]
    | false =>
      simp only [Bool.false_eq_true, if_false, ifb_f]
      cases hd1 43 x with
      | true =>
        simp only [if_true, ifb_t]
        rw [(rest1_ev x hz).1, ifb_t, (rest1_ev x hz).2, e2, Option.bind_some, decide_eq_true (by simp [rowMax]; omega), ifb_t]
      | false => simp only [Bool.false_eq_true, if_false, ifb_f]
  · simp only [decide_eq_false (show ¬ (x.size : Int) > 0 by omega), ifb_f, hd1_none _ x hz, Bool.false_eq_true, if_false]
def resO (o : Option Delta) (x : ByteArray) : Delta × Bool := match o with
  | some st => resD st x
  | none => (d0, false)
theorem spec_DeltaGet_al (x : ByteArray) (hx : x.size ≤ 50000000) : Al fun k => spec_DeltaGet.f k x = some (resO (srun (cutS 10 x).dropLast d0) x) := by
  have hc := spec_l1Cut_al 10 x (by omega)
  rw [show ((10 : UInt8).toNat : Int) = 10 from rfl] at hc
  have hp : ∀ w ∈ (cutS 10 x), w.size ≤ 50000000 := fun w hw => Nat.le_trans (cutS_piece 10 x w hw) hx
  have hn : (cutS 10 x).length ≤ 50000001 := by
    have := cutS_length 10 x
    omega
  have hps := cutS_pos 10 x
  generalize cutS 10 x = ws at hc hp hn hps ⊢
  have hdl : ws.dropLast.length = ws.length - 1 := List.length_dropLast
  have key : ∀ (t : List ByteArray) (i : Nat) (st : Delta), ws.dropLast.drop i = t → Bd 50000000 i st → i ≤ ws.dropLast.length → Al2 fun k k1 => spec_DeltaGet.L4 k k1 x d0 ws st (i : Int) = some (resO (srun t st) x) := by
    intro t
    induction t with
    | nil =>
      intro i st hd hb hi
      have he := drop_nil hd
      have sm := hb.sm (by omega) (by omega)
      have w1 : w64 ((i : Int) + 1) = ((i + 1 : Nat) : Int) := by rw [w64, w_id (by omega) (by omega)]; omega
      cases hok : deltaB st with
      | false =>
        refine Al2.succ ((spec_DeltaOk_al st sm).fst.mono fun k k1 e => ?_)
        simp only [spec_DeltaGet.L4_eq, w1, decide_eq_false (show ¬ ((i + 1 : Nat) : Int) < (ws.length : Int) by omega), ifb_f, e, hok, Option.bind_some, Bool.not_false, ifb_t, srun, resO, resD, Bool.false_and, Bool.false_eq_true, if_false]
        rfl
      | true =>
        refine Al2.succ (((spec_DeltaOk_al st sm).and (spec_l5Put_al st (tD_of hok))).fst.mono fun k k1 ⟨e, e2⟩ => ?_)
        simp only [spec_DeltaGet.L4_eq, w1, decide_eq_false (show ¬ ((i + 1 : Nat) : Int) < (ws.length : Int) by omega), ifb_f, e, hok, Option.bind_some, Bool.not_true, e2, dput_beq, srun, resO, resD, Bool.true_and]
        by_cases h : dput st = x
        · simp [h, ifb_f]
        · simp [h, ifb_t, d0]
    | cons w t ih =>
      intro i st hd hb hi
      obtain ⟨hi', g1, g2⟩ := drop_cons bz hd
      have hi2 : i < ws.length := by omega
      obtain ⟨c1, c2, c3, c4⟩ := at_i hi2 (by omega)
      have gw : ws.getD i bz = w := by
        rw [List.getD_eq_getElem?_getD, List.getElem?_eq_getElem hi', List.getElem_dropLast] at g1
        rw [List.getD_eq_getElem?_getD, List.getElem?_eq_getElem hi2]; exact g1
      have hw : w.size ≤ 50000000 := hp w (by rw [← gw, List.getD_eq_getElem?_getD, List.getElem?_eq_getElem hi2]; exact List.getElem_mem hi2)
      have a1 := hb.g1
      have a2 := hb.c1
      have a3 := hb.l1
      have hline := l5Line_al st w (by omega) (by omega) (by omega) (by omega)
      have w1 : IntKind.i64.wrap ((i : Int) + 1) = ((i + 1 : Nat) : Int) := c4
      cases hs : (sstep st w).2 with
      | true =>
        have ih' := ih (i + 1) (sstep st w).1 g2 (sstep_bd hb hw) (by omega)
        refine Al2.succ ((hline.snd.and ih').mono fun k k1 ⟨e0, e⟩ => ?_)
        simp only [spec_DeltaGet.L4_eq, w64, w1, decide_eq_true (show ((i + 1 : Nat) : Int) < (ws.length : Int) by omega), c1, c2, c3, Bool.and_self, ifb_t, gw, e0, hs, Option.bind_some, Bool.not_true, ifb_f, e, srun, if_true]
      | false =>
        refine Al2.succ (hline.snd.mono fun k k1 e0 => ?_)
        simp only [spec_DeltaGet.L4_eq, w64, w1, decide_eq_true (show ((i + 1 : Nat) : Int) < (ws.length : Int) by omega), c1, c2, c3, Bool.and_self, ifb_t, gw, e0, hs, Option.bind_some, Bool.not_false, srun, Bool.false_eq_true, if_false, resO]
        rfl
  refine (hc.and (key ws.dropLast 0 d0 rfl (Bd.zero _) (Nat.zero_le _)).diag).mono fun k ⟨e1, e2⟩ => ?_
  rw [spec_DeltaGet.f_eq, e1, Option.bind_some]
  exact e2
end Go.Proofs.YtabindnaedchgaaDoor.Rf
end

section
/- What is written of a delta that is ok is read again, by both; so both read the same. -/
namespace Go.Proofs.YtabindnaedchgaaDoor.Rf
open Go Go.RowKit
set_option linter.unusedVariables false
set_option linter.unusedSimpArgs false
theorem bN_mem {s : ByteArray} {P : Nat → Prop} (h : ∀ i, i < s.size → P (bN s i)) : ∀ b ∈ bl s, P b.toNat := by
  intro b hb
  obtain ⟨j, hj, rfl⟩ := List.mem_iff_getElem.1 hb
  have := h j (by rw [size_bl]; exact hj)
  unfold bN at this
  rwa [List.getD_eq_getElem?_getD, List.getElem?_eq_getElem hj] at this
theorem low_mem {s : ByteArray} (h : lowsB s = true) : ∀ b ∈ bl s, 97 ≤ b.toNat ∧ b.toNat ≤ 122 := by
  refine bN_mem (P := fun n => 97 ≤ n ∧ n ≤ 122) fun i hi => ?_
  have := (allN_iff.1 h) i hi
  simp only [lowB, Bool.and_eq_true, decide_eq_true_eq] at this
  exact this
theorem not_in {c : UInt8} {l : By} (h : ∀ b ∈ l, b.toNat ≠ c.toNat) : c ∉ l := fun hc => h c hc rfl
structure AffP (a : Aff) : Prop where
  f : ∀ b ∈ bl a.1, 65 ≤ b.toNat ∧ b.toNat ≤ 90
  s : ∀ b ∈ bl a.2.2.1, 97 ≤ b.toNat ∧ b.toNat ≤ 122
  d : ∀ b ∈ bl a.2.2.2.1, 97 ≤ b.toNat ∧ b.toNat ≤ 122
  w : ∀ b ∈ bl a.2.2.2.2, 97 ≤ b.toNat ∧ b.toNat ≤ 122
theorem affP {a : Aff} (h : affB a = true) : AffP a := by
  simp only [affB, flagB, lettersB, Bool.and_eq_true, decide_eq_true_eq] at h
  obtain ⟨⟨h0, h1⟩, ⟨h2, _⟩, ⟨h3, _⟩, ⟨h4, _⟩, _⟩ := h
  refine ⟨bN_mem (P := fun n => 65 ≤ n ∧ n ≤ 90) fun i hi => ?_, low_mem h2, low_mem h3, low_mem h4⟩
  obtain rfl : i = 0 := by omega
  simp only [upB, Bool.and_eq_true, decide_eq_true_eq] at h1
  exact h1
theorem sideL_mem (b : Bool) : ∀ x ∈ sideL b, 97 ≤ x.toNat ∧ x.toNat ≤ 122 := by
  intro x hx
  cases b
  · simp [sideL] at hx
    rcases hx with rfl | rfl | rfl <;> decide
  · simp [sideL] at hx
    rcases hx with rfl | rfl | rfl | rfl | rfl <;> decide
theorem aff_cut {a : Aff} (h : affB a = true) : cutB 32 (affL a) = [sideL a.2.1, bl a.1, bl a.2.2.1, bl a.2.2.2.1, bl a.2.2.2.2] := by
  have p := affP h
  have e32 : (32 : UInt8).toNat = 32 := rfl
  rw [affL, cutB_at 32 _ _ (not_in (fun b hb => by have := sideL_mem _ b hb; omega)), cutB_at 32 _ _ (not_in (fun b hb => by have := p.f b hb; omega)),
    cutB_at 32 _ _ (not_in (fun b hb => by have := p.s b hb; omega)), cutB_at 32 _ _ (not_in (fun b hb => by have := p.d b hb; omega)),
    cutB_free 32 _ (not_in (fun b hb => by have := p.w b hb; omega))]
theorem aff_ten {a : Aff} (h : affB a = true) : (10 : UInt8) ∉ affL a := by
  have p := affP h
  have e10 : (10 : UInt8).toNat = 10 := rfl
  rw [affL]
  simp only [List.mem_append, List.mem_cons, not_or]
  exact ⟨not_in (fun b hb => by have := sideL_mem _ b hb; omega), by decide, not_in (fun b hb => by have := p.f b hb; omega), by decide, not_in (fun b hb => by have := p.s b hb; omega), by decide,
    not_in (fun b hb => by have := p.d b hb; omega), by decide, not_in (fun b hb => by have := p.w b hb; omega)⟩
theorem word_mem {s : ByteArray} (h : wordB s = true) : ∀ b ∈ bl s, 97 ≤ b.toNat ∧ b.toNat ≤ 122 := by
  simp only [wordB, lettersB, Bool.and_eq_true] at h
  exact low_mem h.2.1
theorem ent_up {e : En} (h : entB e = true) : ∀ b ∈ bl e.2, 65 ≤ b.toNat ∧ b.toNat ≤ 90 := by
  simp only [entB, Bool.and_eq_true] at h
  refine bN_mem (P := fun n => 65 ≤ n ∧ n ≤ 90) fun i hi => ?_
  have := (allN_iff.1 h.1) i hi
  simp only [upB, Bool.and_eq_true, decide_eq_true_eq] at this
  exact this.1
theorem ent_low {e : En} (h : entB e = true) : ∀ b ∈ bl e.1, 97 ≤ b.toNat ∧ b.toNat ≤ 122 := by
  simp only [entB, Bool.and_eq_true] at h
  exact word_mem h.2.1
theorem ent_mem {e : En} (h : entB e = true) : ∀ b ∈ entL e, (97 ≤ b.toNat ∧ b.toNat ≤ 122) ∨ b = 47 ∨ (65 ≤ b.toNat ∧ b.toNat ≤ 90) := by
  intro b hb
  unfold entL at hb
  split at hb
  · exact .inl (ent_low h b hb)
  · rcases List.mem_append.1 hb with hb | hb
    · exact .inl (ent_low h b hb)
    · rcases List.mem_cons.1 hb with hb | hb
      · exact .inr (.inl hb)
      · exact .inr (.inr (ent_up h b hb))
theorem ent_not {e : En} (h : entB e = true) (c : UInt8) (h1 : c.toNat ≠ 47) (h2 : c.toNat < 65) : c ∉ entL e := fun hc => by
  have := ent_mem h c hc
  rcases this with h3 | rfl | h3
  · omega
  · exact h1 rfl
  · omega
/-- all parts of a delta are ok -/
structure OkP (d : Delta) : Prop where
  g : ∀ s ∈ d.1, wordB s = true
  c : ∀ e ∈ d.2.1, entB e = true
  l : ∀ a ∈ d.2.2.2, affB a = true
theorem okP {d : Delta} (h : deltaB d = true) : OkP d := by
  simp only [deltaB, Bool.and_eq_true] at h
  obtain ⟨hw, he, ha, _⟩ := h
  refine ⟨fun s hs => ?_, fun e hm => ?_, fun a hm => ?_⟩
  · simp only [wordsB, Bool.and_eq_true, allN_iff] at hw
    obtain ⟨i, hi, rfl⟩ := List.mem_iff_getElem.1 hs
    have := (hw.1 i hi).1
    rwa [List.getD_eq_getElem?_getD, List.getElem?_eq_getElem hi] at this
  · simp only [entsB, Bool.and_eq_true, allN_iff] at he
    obtain ⟨i, hi, rfl⟩ := List.mem_iff_getElem.1 hm
    have := (he.1 i hi).1
    rwa [List.getD_eq_getElem?_getD, List.getElem?_eq_getElem hi] at this
  · simp only [affsB, Bool.and_eq_true, allN_iff] at ha
    obtain ⟨i, hi, rfl⟩ := List.mem_iff_getElem.1 hm
    have := (ha.1 i hi).1
    rwa [List.getD_eq_getElem?_getD, List.getElem?_eq_getElem hi] at this
theorem lines_ten {d : Delta} (h : OkP d) : ∀ p ∈ linesD d, (10 : UInt8) ∉ p := by
  have e10 : (10 : UInt8).toNat = 10 := rfl
  intro p hp
  unfold linesD at hp
  rcases List.mem_append.1 hp with hp | hp
  · split at hp
    · rw [List.mem_singleton.1 hp]
      decide
    · cases hp
  rcases List.mem_append.1 hp with hp | hp
  · obtain ⟨a, ha, rfl⟩ := List.mem_map.1 hp
    exact aff_ten (h.l a ha)
  rcases List.mem_append.1 hp with hp | hp
  · obtain ⟨s, hs, rfl⟩ := List.mem_map.1 hp
    have hw := h.g s hs
    simp only [List.mem_cons, not_or]
    exact ⟨by decide, not_in (fun b hb => by have := word_mem hw b hb; omega)⟩
  · obtain ⟨e, he, rfl⟩ := List.mem_map.1 hp
    have hw := h.c e he
    simp only [List.mem_cons, not_or]
    exact ⟨by decide, ent_not hw 10 (by decide) (by decide)⟩
theorem dput_lines {d : Delta} (h : OkP d) : (cutS 10 (dput d)).dropLast = (linesD d).map mkB := by
  unfold cutS dput nlB
  rw [bl_mk, cutB_lines 10 _ (lines_ten h), List.map_append]
  simp
theorem rest1_mk (b : UInt8) (t : By) : rest1 (mkB (b :: t)) = mkB t := bl_inj (by unfold rest1; rw [bl_from, bl_mk, bl_mk]; rfl)
theorem istep_aff (st : Delta) : istep st (mkB AFFW) = (st.1, st.2.1, true, st.2.2.2) := by
  unfold istep
  rw [if_pos (bl_mk _)]
theorem sstep_aff (st : Delta) : sstep st (mkB AFFW) = ((st.1, st.2.1, true, st.2.2.2), true) := by
  unfold sstep
  rw [if_pos (bl_mk _)]
theorem affL_head (a : Aff) : ∃ b t, affL a = b :: t ∧ b ≠ 97 ∧ b ≠ 45 ∧ b ≠ 43 := by
  rw [affL]
  cases a.2.1
  · exact ⟨101, _, rfl, by decide, by decide, by decide⟩
  · exact ⟨102, _, rfl, by decide, by decide, by decide⟩
theorem getA_back {a : Aff} (bs : List ByteArray) : getA ([mkB (sideL a.2.1), mkB (bl a.1), mkB (bl a.2.2.1), mkB (bl a.2.2.2.1), mkB (bl a.2.2.2.2)] ++ bs) = a := by
  show (mkB (bl a.1), decide (bl (mkB (sideL a.2.1)) = [102, 114, 111, 110, 116]), mkB (bl a.2.2.1), mkB (bl a.2.2.2.1), mkB (bl a.2.2.2.2)) = a
  rw [mk_bl, mk_bl, mk_bl, mk_bl, bl_mk]
  have : decide (sideL a.2.1 = [102, 114, 111, 110, 116]) = a.2.1 := by cases a.2.1 <;> rfl
  rw [this]
theorem aff_cutS {a : Aff} (h : affB a = true) : cutS 32 (mkB (affL a)) = [mkB (sideL a.2.1), mkB (bl a.1), mkB (bl a.2.2.1), mkB (bl a.2.2.2.1), mkB (bl a.2.2.2.2)] := by
  unfold cutS
  rw [bl_mk, aff_cut h]
  rfl
theorem hd1_mk (c b : UInt8) (t : By) : hd1 c (mkB (b :: t)) = decide (b = c) := by
  unfold hd1
  rw [bl_mk, List.head?_cons]
  simp
theorem affw_ne {b : UInt8} {t : By} (h : b ≠ 97) : ¬ bl (mkB (b :: t)) = AFFW := by
  rw [bl_mk]
  intro hc
  exact h (List.cons.inj hc).1
theorem istep_l (st : Delta) {a : Aff} (h : affB a = true) : istep st (mkB (affL a)) = (st.1, st.2.1, st.2.2.1, st.2.2.2 ++ [a]) := by
  obtain ⟨b, t, e, n1, n2, n3⟩ := affL_head a
  unfold istep readA
  rw [aff_cutS h, getA_back, e, if_neg (affw_ne n1), hd1_mk, hd1_mk, decide_eq_false n2, decide_eq_false n3]
  simp
theorem sstep_l (st : Delta) {a : Aff} (h : affB a = true) : sstep st (mkB (affL a)) = ((st.1, st.2.1, st.2.2.1, st.2.2.2 ++ [a]), true) := by
  obtain ⟨b, t, e, n1, n2, n3⟩ := affL_head a
  have hg := getA_back (a := a) []
  rw [List.append_nil] at hg
  unfold sstep
  rw [aff_cutS h, hg, if_neg (by rw [e]; exact affw_ne n1)]
  simp
theorem istep_g (st : Delta) (s : ByteArray) : istep st (mkB (45 :: bl s)) = (st.1 ++ [s], st.2) := by
  unfold istep
  rw [if_neg (affw_ne (by decide)), hd1_mk, rest1_mk, mk_bl]
  simp
theorem cut32_one {b : UInt8} {t : By} (hb : b ≠ 32) (h : (32 : UInt8) ∉ t) : cutS 32 (mkB (b :: t)) = [mkB (b :: t)] := by
  unfold cutS
  rw [bl_mk, cutB_free 32 _ (by simp only [List.mem_cons, not_or]; exact ⟨fun e => hb e.symm, h⟩)]
  rfl
theorem sstep_g (st : Delta) {s : ByteArray} (h : wordB s = true) : sstep st (mkB (45 :: bl s)) = ((st.1 ++ [s], st.2), true) := by
  have e32 : (32 : UInt8).toNat = 32 := rfl
  unfold sstep
  rw [if_neg (affw_ne (by decide)), cut32_one (by decide) (not_in (fun b hb => by have := word_mem h b hb; omega)), hd1_mk, rest1_mk, mk_bl]
  simp
theorem readE_back {e : En} (h : entB e = true) : readE (mkB (entL e)) = e := by
  have e47 : (47 : UInt8).toNat = 47 := rfl
  have n0 : (47 : UInt8) ∉ bl e.1 := not_in (fun b hb => by have := ent_low h b hb; omega)
  unfold readE
  rw [bl_mk]
  unfold entL
  by_cases c : bl e.2 = []
  · rw [if_pos c, cut2_free 47 _ n0]
    have z : e.2 = mkB [] := bl_inj (by rw [c, bl_mk])
    show (mkB (bl e.1), mkB []) = e
    rw [mk_bl, ← z]
  · rw [if_neg c, cut2_at 47 _ _ n0]
    show (mkB (bl e.1), mkB (bl e.2)) = e
    rw [mk_bl, mk_bl]
theorem istep_c (st : Delta) {e : En} (h : entB e = true) : istep st (mkB (43 :: entL e)) = (st.1, st.2.1 ++ [e], st.2.2) := by
  unfold istep
  rw [if_neg (affw_ne (by decide)), hd1_mk, hd1_mk, rest1_mk, readE_back h]
  simp
theorem getE_back {e : En} (h : entB e = true) : getE (mkB (entL e)) = (e, true) := by
  have e47 : (47 : UInt8).toNat = 47 := rfl
  have n0 : (47 : UInt8) ∉ bl e.1 := not_in (fun b hb => by have := ent_low h b hb; omega)
  have n1 : (47 : UInt8) ∉ bl e.2 := not_in (fun b hb => by have := ent_up h b hb; omega)
  unfold getE
  by_cases c : bl e.2 = []
  · have ec : cutS 47 (mkB (entL e)) = [e.1] := by
      unfold cutS entL
      rw [bl_mk, if_pos c, cutB_free 47 _ n0, List.map_cons, List.map_nil, mk_bl]
    have z : bz = e.2 := bl_inj (by rw [c]; rfl)
    rw [ec, if_neg (by simp), if_neg (by simp)]
    show ((e.1, bz), entB (e.1, bz)) = (e, true)
    rw [z]
    show (e, entB e) = (e, true)
    rw [h]
  · have ec : cutS 47 (mkB (entL e)) = [e.1, e.2] := by
      unfold cutS entL
      rw [bl_mk, if_neg c, cutB_at 47 _ _ n0, cutB_free 47 _ n1, List.map_cons, List.map_cons, List.map_nil, mk_bl, mk_bl]
    rw [ec, if_neg (by simp), if_pos (by rfl)]
    show (if bl e.2 = [] then (zE, false) else ((e.1, e.2), entB (e.1, e.2))) = (e, true)
    rw [if_neg c]
    show (e, entB e) = (e, true)
    rw [h]
theorem sstep_c (st : Delta) {e : En} (h : entB e = true) : sstep st (mkB (43 :: entL e)) = ((st.1, st.2.1 ++ [e], st.2.2), true) := by
  unfold sstep
  rw [if_neg (affw_ne (by decide)), cut32_one (by decide) (ent_not h 32 (by decide) (by decide)), hd1_mk, hd1_mk, rest1_mk, getE_back h]
  simp
theorem srun_append : ∀ (xs ys : List ByteArray) (st : Delta), srun (xs ++ ys) st = (srun xs st).bind (srun ys)
  | [], ys, st => rfl
  | x :: xs, ys, st => by
    rw [List.cons_append, srun, srun]
    split
    · exact srun_append xs ys _
    · rfl
theorem run_l : ∀ (xs : List Aff) (st : Delta), (∀ x ∈ xs, affB x = true) → (xs.map (fun a => mkB (affL a))).foldl istep st = (st.1, st.2.1, st.2.2.1, st.2.2.2 ++ xs) ∧ srun (xs.map (fun a => mkB (affL a))) st = some (st.1, st.2.1, st.2.2.1, st.2.2.2 ++ xs)
  | [], st, _ => by simp [srun]
  | x :: xs, st, h => by
    have hx := h x List.mem_cons_self
    have ih := run_l xs (st.1, st.2.1, st.2.2.1, st.2.2.2 ++ [x]) (fun y hy => h y (List.mem_cons_of_mem _ hy))
    rw [List.map_cons, List.foldl_cons, istep_l st hx, srun, sstep_l st hx, if_pos rfl, ih.1, ih.2]
    simp
theorem run_g : ∀ (xs : List ByteArray) (st : Delta), (∀ x ∈ xs, wordB x = true) → (xs.map (fun s => mkB (45 :: bl s))).foldl istep st = (st.1 ++ xs, st.2) ∧ srun (xs.map (fun s => mkB (45 :: bl s))) st = some (st.1 ++ xs, st.2)
  | [], st, _ => by simp [srun]
  | x :: xs, st, h => by
    have hx := h x List.mem_cons_self
    have ih := run_g xs (st.1 ++ [x], st.2) (fun y hy => h y (List.mem_cons_of_mem _ hy))
    rw [List.map_cons, List.foldl_cons, istep_g st x, srun, sstep_g st hx, if_pos rfl, ih.1, ih.2]
    simp
theorem run_c : ∀ (xs : List En) (st : Delta), (∀ x ∈ xs, entB x = true) → (xs.map (fun e => mkB (43 :: entL e))).foldl istep st = (st.1, st.2.1 ++ xs, st.2.2) ∧ srun (xs.map (fun e => mkB (43 :: entL e))) st = some (st.1, st.2.1 ++ xs, st.2.2)
  | [], st, _ => by simp [srun]
  | x :: xs, st, h => by
    have hx := h x List.mem_cons_self
    have ih := run_c xs (st.1, st.2.1 ++ [x], st.2.2) (fun y hy => h y (List.mem_cons_of_mem _ hy))
    rw [List.map_cons, List.foldl_cons, istep_c st hx, srun, sstep_c st hx, if_pos rfl, ih.1, ih.2]
    simp
theorem lines_map (d : Delta) : (linesD d).map mkB = (if d.2.2.1 then [mkB AFFW] else []) ++ (d.2.2.2.map (fun a => mkB (affL a)) ++ (d.1.map (fun s => mkB (45 :: bl s)) ++ d.2.1.map (fun e => mkB (43 :: entL e)))) := by
  unfold linesD
  cases d.2.2.1 <;> simp [List.map_map, Function.comp_def]
theorem read_back {d : Delta} (h : OkP d) : ((linesD d).map mkB).foldl istep d0 = d ∧ srun ((linesD d).map mkB) d0 = some d := by
  obtain ⟨g, c, a, l⟩ := d
  rw [lines_map]
  have ha : (if a then [mkB AFFW] else []).foldl istep d0 = ([], [], a, []) ∧ srun (if a then [mkB AFFW] else []) d0 = some ([], [], a, []) := by
    cases a
    · exact ⟨rfl, rfl⟩
    · simp only [if_true, List.foldl_cons, List.foldl_nil, srun, istep_aff, sstep_aff]
      exact ⟨rfl, rfl⟩
  have hl := run_l l ([], [], a, []) h.l
  have hg := run_g g ([], [], a, l) h.g
  have hc := run_c c (g, [], a, l) h.c
  simp only [List.nil_append] at hl hg hc
  constructor
  · simp only [List.foldl_append]
    rw [ha.1, hl.1, hg.1, hc.1]
  · rw [srun_append, ha.2, Option.bind_some, srun_append, hl.2, Option.bind_some, srun_append, hg.2, Option.bind_some, hc.2]
/-- Both read the same. -/
def readD (x : ByteArray) : Delta × Bool := resD ((cutS 10 x).dropLast.foldl istep d0) x
theorem resD_no {x : ByteArray} (h : ¬ ∃ d : Delta, deltaB d = true ∧ dput d = x) (st : Delta) : resD st x = (d0, false) := by
  unfold resD
  rw [if_neg]
  intro z
  simp only [Bool.and_eq_true, decide_eq_true_eq] at z
  exact h ⟨st, z⟩
theorem read_put {d : Delta} (h : deltaB d = true) : readD (dput d) = (d, true) ∧ resO (srun (cutS 10 (dput d)).dropLast d0) (dput d) = (d, true) := by
  have ok := okP h
  have hb := read_back ok
  unfold readD
  rw [dput_lines ok, hb.1, hb.2]
  unfold resO resD
  simp [h]
theorem read_same (x : ByteArray) : resO (srun (cutS 10 x).dropLast d0) x = readD x := by
  by_cases h : ∃ d : Delta, deltaB d = true ∧ dput d = x
  · obtain ⟨d, h1, rfl⟩ := h
    rw [(read_put h1).1, (read_put h1).2]
  · unfold readD
    rw [resD_no h]
    unfold resO
    split
    · exact resD_no h _
    · rfl
theorem impl_DeltaGet_rd (x : ByteArray) (h : x.size ≤ 50000000) : Al fun k => impl_DeltaGet.f k x = some (readD x) := impl_DeltaGet_al x h
theorem spec_DeltaGet_rd (x : ByteArray) (h : x.size ≤ 50000000) : Al fun k => spec_DeltaGet.f k x = some (readD x) := by
  have := spec_DeltaGet_al x h
  rwa [read_same] at this
/-- What is read is empty, or ok. -/
theorem readD_cases (x : ByteArray) : readD x = (d0, false) ∨ ((readD x).2 = true ∧ deltaB (readD x).1 = true ∧ dput (readD x).1 = x) := by
  unfold readD resD
  split
  · rename_i h
    simp only [Bool.and_eq_true, decide_eq_true_eq] at h
    exact .inr ⟨rfl, h.1, h.2⟩
  · exact .inl rfl
theorem dput_size {d : Delta} (h : tD d) : (dput d).size ≤ 20000000 := by
  unfold dput
  rw [size_mk]
  have h1 : ∀ p ∈ linesD d, p.length ≤ 4200 := by
    intro p hp
    unfold linesD at hp
    rcases List.mem_append.1 hp with hp | hp
    · split at hp
      · rw [List.mem_singleton.1 hp]; decide
      · cases hp
    rcases List.mem_append.1 hp with hp | hp
    · obtain ⟨a, ha, rfl⟩ := List.mem_map.1 hp
      have := affL_len (h.2.2.2 a ha); omega
    rcases List.mem_append.1 hp with hp | hp
    · obtain ⟨s, hs, rfl⟩ := List.mem_map.1 hp
      have := h.1.2 s hs
      rw [size_bl] at this
      simp only [List.length_cons]; omega
    · obtain ⟨e, he, rfl⟩ := List.mem_map.1 hp
      have := entL_len (h.2.1.2 e he)
      simp only [List.length_cons]; omega
  have h2 := nlB_len h1
  have h3 : (linesD d).length ≤ 3001 := by
    have a1 := h.1.1
    have a2 := h.2.1.1
    have a3 := h.2.2.1
    unfold linesD
    simp only [List.length_append, List.length_map]
    split <;> simp <;> omega
  have : (linesD d).length * 4201 ≤ 3001 * 4201 := Nat.mul_le_mul_right _ h3
  omega
end Go.Proofs.YtabindnaedchgaaDoor.Rf
end

section
/- The laws' own words: the same books, one of a row. -/
namespace Go.Proofs.YtabindnaedchgaaDoor.Rf
open Go Go.RowKit
set_option linter.unusedVariables false
set_option linter.unusedSimpArgs false
theorem mdBook_al (a b : Book) (h1 : Sm a.1.length) (h2 : Sm a.2.length) : Al fun k => laws_mdBook.f k a b = some (decide (a = b)) := by
  by_cases hl1 : a.1.length = b.1.length
  case neg =>
    refine Al.now fun k => ?_
    rw [laws_mdBook.f_eq, show ((a.1.length : Int) != (b.1.length : Int)) = true by rw [bne_iff_ne]; omega, ifb_t, decide_eq_false fun e => hl1 (by rw [e])]
  by_cases hl2 : a.2.length = b.2.length
  case neg =>
    refine Al.now fun k => ?_
    rw [laws_mdBook.f_eq, show ((a.1.length : Int) != (b.1.length : Int)) = false by rw [hl1]; simp, ifb_f, show ((a.2.length : Int) != (b.2.length : Int)) = true by rw [bne_iff_ne]; omega, ifb_t, decide_eq_false fun e => hl2 (by rw [e])]
  have two : ∀ (t : List En) (i : Nat), a.2.drop i = t → Al2 fun k k1 => laws_mdBook.L9 k k1 a b (i : Int) = some (decide (t = b.2.drop i)) := by
    intro t
    induction t with
    | nil =>
      intro i hd
      have he := drop_nil hd
      refine Al2.succ (Al2.now fun k k1 => ?_)
      rw [laws_mdBook.L9_eq, at_end he, ifb_f, List.drop_eq_nil_of_le (show b.2.length ≤ i by omega), decide_eq_true rfl]
    | cons x t ih =>
      intro i hd
      obtain ⟨hi, g1, g2⟩ := drop_cons zE hd
      obtain ⟨c1, c2, c3, c4⟩ := at_i hi h2
      have hm : i < b.2.length := by omega
      have hmd : b.2.drop i = b.2[i] :: b.2.drop (i + 1) := List.drop_eq_getElem_cons hm
      have gm : b.2.getD i zE = b.2[i] := by rw [List.getD_eq_getElem?_getD, List.getElem?_eq_getElem hm]; rfl
      have cm : decide ((i : Int) < (b.2.length : Int)) = true := decide_eq_true (by omega)
      refine Al2.succ ((ih (i + 1) g2).mono fun k k1 e => ?_)
      simp only [laws_mdBook.L9_eq, c1, c2, c3, w64, c4, g1, cm, gm, Bool.and_self, ifb_t, e, ent_beq, hmd]
      by_cases h : x = b.2[i]
      · rw [decide_eq_true h, Bool.not_true, ifb_f]
        exact congrArg some (decide_eq_decide.2 ⟨fun e => by rw [h, e], fun e => (List.cons.inj e).2⟩)
      · rw [decide_eq_false h, Bool.not_false, ifb_t]
        exact congrArg some (decide_eq_false fun e => h (List.cons.inj e).1).symm
  have one : ∀ (t : List Aff) (i : Nat), a.1.drop i = t → Al2 fun k k1 => laws_mdBook.L4 k k1 a b (i : Int) = some (decide (t = b.1.drop i) && decide (a.2 = b.2)) := by
    intro t
    induction t with
    | nil =>
      intro i hd
      have he := drop_nil hd
      refine Al2.succ ((two a.2 0 rfl).diag.fst.mono fun k k1 e => ?_)
      rw [laws_mdBook.L4_eq, at_end he, ifb_f, List.drop_eq_nil_of_le (show b.1.length ≤ i by omega), decide_eq_true rfl, Bool.true_and]
      exact e
    | cons x t ih =>
      intro i hd
      obtain ⟨hi, g1, g2⟩ := drop_cons zA hd
      obtain ⟨c1, c2, c3, c4⟩ := at_i hi h1
      have hm : i < b.1.length := by omega
      have hmd : b.1.drop i = b.1[i] :: b.1.drop (i + 1) := List.drop_eq_getElem_cons hm
      have gm : b.1.getD i zA = b.1[i] := by rw [List.getD_eq_getElem?_getD, List.getElem?_eq_getElem hm]; rfl
      have cm : decide ((i : Int) < (b.1.length : Int)) = true := decide_eq_true (by omega)
      refine Al2.succ ((ih (i + 1) g2).mono fun k k1 e => ?_)
      simp only [laws_mdBook.L4_eq, c1, c2, c3, w64, c4, g1, cm, gm, Bool.and_self, ifb_t, e, aff_beq, hmd]
      by_cases h : x = b.1[i]
      · rw [decide_eq_true h, Bool.not_true, ifb_f]
        exact congrArg (fun z => some (z && decide (a.2 = b.2))) (decide_eq_decide.2 ⟨fun e => by rw [h, e], fun e => (List.cons.inj e).2⟩)
      · rw [decide_eq_false h, Bool.not_false, ifb_t, decide_eq_false fun e => h (List.cons.inj e).1]
        rfl
  refine (one a.1 0 rfl).diag.mono fun k e => ?_
  rw [laws_mdBook.f_eq, show ((a.1.length : Int) != (b.1.length : Int)) = false by rw [hl1]; simp, ifb_f, show ((a.2.length : Int) != (b.2.length : Int)) = false by rw [hl2]; simp, ifb_f, show (0 : Int) = ((0 : Nat) : Int) from rfl, e]
  refine congrArg some ?_
  rw [List.drop_zero, Bool.eq_iff_iff]
  simp only [Bool.and_eq_true, decide_eq_true_eq]
  exact ⟨fun ⟨h1, h2⟩ => Prod.ext h1 h2, fun h => h ▸ ⟨rfl, rfl⟩⟩
theorem deltaDo_sz' {b : Book} {d : Delta} (hb : b.1.length ≤ 1048576 ∧ b.2.length ≤ 1048576) : (deltaDo b d).1.1.length ≤ 1048576 ∧ (deltaDo b d).1.2.length ≤ 1048576 := by
  unfold deltaDo
  split
  · rename_i h
    simp only [Bool.and_eq_true] at h
    split
    · rename_i h2
      simp only [Bool.and_eq_true] at h2
      have := len_ok h2.2
      simp only
      omega
    · exact hb
  · simp
theorem u8_of {n : Int} (h : (Lit.int .u8 n).wf = true) : 0 ≤ n ∧ n ≤ 255 := by
  simp only [Lit.wf, Bool.and_eq_true, decide_eq_true_eq] at h
  simpa [IntKind.min, IntKind.max, IntKind.bits, IntKind.signed] using h
end Go.Proofs.YtabindnaedchgaaDoor.Rf
end

section
/- The reader that draws: what it picks stays in its range. -/
namespace Go.Proofs.YtabindnaedchgaaDoor.Rf
open Go Go.RowKit
set_option linter.unusedVariables false
set_option linter.unusedSimpArgs false
abbrev Rdr := List Int × Int
/-- the reader stands at m at most -/
def Rd (m : Int) (x : Rdr) : Prop := ((∀ b ∈ x.1, 0 ≤ b ∧ b ≤ 255) ∧ x.1.length ≤ 2000) ∧ 0 ≤ x.2 ∧ x.2 ≤ m
theorem Rd.up {m n : Int} {x : Rdr} (h : Rd m x) (k : m ≤ n) : Rd n x := ⟨h.1, h.2.1, Int.le_trans h.2.2 k⟩
/-- it draws, and what comes is as P says; the reader stands at m at most -/
def Dr {α : Type} (X : Nat → Option (α × Rdr)) (m : Int) (P : α → Prop) : Prop := ∃ v x', Al (fun k => X k = some (v, x')) ∧ P v ∧ Rd m x'
theorem Dr.up {α : Type} {X : Nat → Option (α × Rdr)} {m n : Int} {P Q : α → Prop} (h : Dr X m P) (k : m ≤ n) (f : ∀ v, P v → Q v) : Dr X n Q := by
  obtain ⟨v, x, e, p, r⟩ := h
  exact ⟨v, x, e, f v p, r.up k⟩
theorem Dr.congr {α : Type} {X Y : Nat → Option (α × Rdr)} {m : Int} {P : α → Prop} (e : ∀ k, Y k = X k) (h : Dr X m P) : Dr Y m P := by
  obtain rfl : Y = X := funext e
  exact h
theorem Dr.now {α : Type} {X : Nat → Option (α × Rdr)} {v : α} {x : Rdr} {m : Int} {P : α → Prop} (e : ∀ k, X k = some (v, x)) (hp : P v) (hr : Rd m x) : Dr X m P := ⟨v, x, Al.now e, hp, hr⟩
theorem Dr.bind {α β : Type} {X : Nat → Option (α × Rdr)} {g : Nat → α × Rdr → Option (β × Rdr)} {m n : Int} {P : α → Prop} {Q : β → Prop} (h : Dr X m P) (k : ∀ v x, P v → Rd m x → Dr (fun k => g k (v, x)) n Q) : Dr (fun k => (X k).bind (g k)) n Q := by
  obtain ⟨v, x, e, p, r⟩ := h
  obtain ⟨w, y, e2, q, s⟩ := k v x p r
  exact ⟨w, y, (e.and e2).mono fun k ⟨a, b⟩ => by show (X k).bind (g k) = _; rw [a, Option.bind_some]; exact b, q, s⟩
theorem Dr.bindv {γ β : Type} {X : Nat → Option γ} {g : Nat → γ → Option (β × Rdr)} {n : Int} {Q : β → Prop} {v : γ} (h : Al fun k => X k = some v) (k : Dr (fun k => g k v) n Q) : Dr (fun k => (X k).bind (g k)) n Q := by
  obtain ⟨w, y, e2, q, s⟩ := k
  exact ⟨w, y, (h.and e2).mono fun k ⟨a, b⟩ => by show (X k).bind (g k) = _; rw [a, Option.bind_some]; exact b, q, s⟩
theorem Dr.succ {α : Type} {X : Nat → Option (α × Rdr)} {m : Int} {P : α → Prop} (h : Dr (fun k => X (k + 1)) m P) : Dr X m P := by
  obtain ⟨v, x, e, r⟩ := h
  exact ⟨v, x, Al.succ e, r⟩
def Dr2 {α : Type} (X : Nat → Nat → Option (α × Rdr)) (m : Int) (P : α → Prop) : Prop := ∃ v x', Al2 (fun k k1 => X k k1 = some (v, x')) ∧ P v ∧ Rd m x'
theorem Dr2.congr {α : Type} {X Y : Nat → Nat → Option (α × Rdr)} {m : Int} {P : α → Prop} (e : ∀ k k1, Y k k1 = X k k1) (h : Dr2 X m P) : Dr2 Y m P := by
  obtain rfl : Y = X := funext fun k => funext (e k)
  exact h
theorem Dr2.up {α : Type} {X : Nat → Nat → Option (α × Rdr)} {m n : Int} {P Q : α → Prop} (h : Dr2 X m P) (k : m ≤ n) (f : ∀ v, P v → Q v) : Dr2 X n Q := by
  obtain ⟨v, x, e, p, r⟩ := h
  exact ⟨v, x, e, f v p, r.up k⟩
theorem Dr2.now {α : Type} {X : Nat → Nat → Option (α × Rdr)} {v : α} {x : Rdr} {m : Int} {P : α → Prop} (e : ∀ k k1, X k k1 = some (v, x)) (hp : P v) (hr : Rd m x) : Dr2 X m P := ⟨v, x, Al2.now e, hp, hr⟩
theorem Dr2.bind {α β : Type} {X : Nat → Nat → Option (α × Rdr)} {g : Nat → Nat → α × Rdr → Option (β × Rdr)} {m n : Int} {P : α → Prop} {Q : β → Prop} (h : Dr2 X m P) (k : ∀ v x, P v → Rd m x → Dr2 (fun k k1 => g k k1 (v, x)) n Q) : Dr2 (fun k k1 => (X k k1).bind (g k k1)) n Q := by
  obtain ⟨v, x, e, p, r⟩ := h
  obtain ⟨w, y, e2, q, s⟩ := k v x p r
  exact ⟨w, y, (e.and e2).mono fun k k1 ⟨a, b⟩ => by show (X k k1).bind (g k k1) = _; rw [a, Option.bind_some]; exact b, q, s⟩
theorem Dr2.bindv {γ β : Type} {X : Nat → Nat → Option γ} {g : Nat → Nat → γ → Option (β × Rdr)} {n : Int} {Q : β → Prop} {v : γ} (h : Al2 fun k k1 => X k k1 = some v) (k : Dr2 (fun k k1 => g k k1 v) n Q) : Dr2 (fun k k1 => (X k k1).bind (g k k1)) n Q := by
  obtain ⟨w, y, e2, q, s⟩ := k
  exact ⟨w, y, (h.and e2).mono fun k k1 ⟨a, b⟩ => by show (X k k1).bind (g k k1) = _; rw [a, Option.bind_some]; exact b, q, s⟩
theorem Dr2.succ {α : Type} {X : Nat → Nat → Option (α × Rdr)} {m : Int} {P : α → Prop} (h : Dr2 (fun k k1 => X k (k1 + 1)) m P) : Dr2 X m P := by
  obtain ⟨v, x, e, r⟩ := h
  exact ⟨v, x, Al2.succ e, r⟩
theorem Dr2.diag {α : Type} {X : Nat → Nat → Option (α × Rdr)} {m : Int} {P : α → Prop} (h : Dr2 X m P) : Dr (fun k => X k k) m P := by
  obtain ⟨v, x, e, r⟩ := h
  exact ⟨v, x, e.diag, r⟩
theorem Dr.fst {α : Type} {X : Nat → Option (α × Rdr)} {m : Int} {P : α → Prop} (h : Dr X m P) : Dr2 (fun k _ => X k) m P := by
  obtain ⟨v, x, e, r⟩ := h
  exact ⟨v, x, e.fst, r⟩
theorem Dr.snd {α : Type} {X : Nat → Option (α × Rdr)} {m : Int} {P : α → Prop} (h : Dr X m P) : Dr2 (fun _ k => X k) m P := by
  obtain ⟨v, x, e, r⟩ := h
  exact ⟨v, x, e.snd, r⟩
theorem xor_nn (a b : Nat) (ha : a < 2 ^ 62) (hb : b < 2 ^ 62) : 0 ≤ IntKind.i64.wrap ((BitVec.ofInt 64 (a : Int) ^^^ BitVec.ofInt 64 (b : Int)).toNat : Int) := by
  have h2 : (2 : Nat) ^ 62 ≤ 2 ^ 64 := by decide
  have ha' : a % 2 ^ 64 = a := Nat.mod_eq_of_lt (Nat.lt_of_lt_of_le ha h2)
  have hb' : b % 2 ^ 64 = b := Nat.mod_eq_of_lt (Nat.lt_of_lt_of_le hb h2)
  have e1 : (BitVec.ofInt 64 (a : Int)).toNat = a := by rw [BitVec.ofInt_natCast, BitVec.toNat_ofNat]; exact ha'
  have e2 : (BitVec.ofInt 64 (b : Int)).toNat = b := by rw [BitVec.ofInt_natCast, BitVec.toNat_ofNat]; exact hb'
  rw [BitVec.toNat_xor, e1, e2]
  have h3 : a ^^^ b < 4611686018427387904 := Nat.lt_of_lt_of_eq (Nat.xor_lt_two_pow ha hb) (by decide)
  generalize a ^^^ b = X at h3
  rw [w_id (by omega) (by omega)]
  omega
theorem xor_ge (a b : Int) (ha : 0 ≤ a) (hb : 0 ≤ b) (ha1 : a < 2 ^ 62) (hb1 : b < 2 ^ 62) : 0 ≤ IntKind.i64.wrap ((BitVec.ofInt 64 a ^^^ BitVec.ofInt 64 b).toNat : Int) := by
  obtain ⟨m, rfl⟩ := Int.eq_ofNat_of_zero_le ha
  obtain ⟨n, rfl⟩ := Int.eq_ofNat_of_zero_le hb
  exact xor_nn m n (by exact_mod_cast ha1) (by exact_mod_cast hb1)
theorem Rd.at {m : Int} {x : Rdr} (h : Rd m x) (i : Nat) : 0 ≤ x.1.getD i (0 : Int) ∧ x.1.getD i (0 : Int) ≤ 255 := by
  rw [List.getD_eq_getElem?_getD]
  cases e : x.1[i]? with
  | none => simp
  | some b => exact h.1.1 b (List.mem_of_getElem? e)
theorem l1Open_al (s : List Int) (hs : ∀ b ∈ s, 0 ≤ b ∧ b ≤ 255) : ∃ x, Al (fun k => spec_l1Open.f k s = some x) ∧ Rd 0 x := by
  by_cases c : (s.length : Int) > 2000
  · refine ⟨((s.take (2000 : Int).toNat).drop (0 : Int).toNat, 0), Al.succ (Al.now fun k => ?_), ⟨fun b hb => hs b (List.mem_of_mem_take (List.mem_of_mem_drop hb)), ?_⟩, Int.le_refl _, Int.le_refl _⟩
    · rw [spec_l1Open.f_eq, decide_eq_true c, ifb_t, spec_l1Open.J3_eq]
      rw [decide_eq_true (by omega), decide_eq_true (by omega), decide_eq_true (by omega)]
      simp only [Bool.and_self, ifb_t]
    · simp only [List.length_drop, List.length_take]; omega
  · refine ⟨(s, 0), Al.succ (Al.now fun k => ?_), ⟨hs, show s.length ≤ 2000 by omega⟩, Int.le_refl _, Int.le_refl _⟩
    rw [spec_l1Open.f_eq, decide_eq_false c, ifb_f, spec_l1Open.J3_eq]
theorem pick_dr {m : Int} {x : Rdr} (h : Rd m x) (hm : m ≤ 1000000000) (n : Int) (n1 : 1 ≤ n) (n2 : n ≤ 1000000) : Dr (fun k => spec_l1Rd__pick.f k x n) (m + 1) fun v => 0 ≤ v ∧ v < n := by
  obtain ⟨hs, hp0, hp1⟩ := h
  have hat := Rd.at (x := x) (m := m) ⟨hs, hp0, hp1⟩
  obtain ⟨s, p⟩ := x
  simp only at hp0 hp1 hat hs
  have w1 : w64 (p + 1) = p + 1 := w_id (by omega) (by omega)
  have w2 : w64 (p + 1 - 1) = p := by rw [show p + 1 - 1 = p by omega]; exact w_id (by omega) (by omega)
  have R : Rd (m + 1) (s, p + 1) := ⟨hs, by omega, by omega⟩
  have c : decide (n < 1) = false := decide_eq_false (by omega)
  have n0 : decide (n ≠ 0) = true := decide_eq_true (by omega)
  by_cases z : s.length = 0
  · refine ⟨0, (s, p + 1), Al.now fun k => ?_, ⟨Int.le_refl _, by omega⟩, R⟩
    show spec_l1Rd__pick.f k (s, p) n = _
    rw [spec_l1Rd__pick.f_eq]
    simp only [c, ifb_f, w1, z]
    rw [show (((0 : Nat) : Int) == 0) = true from rfl, ifb_t]
  have z1 : ((s.length : Int) == 0) = false := by rw [beq_eq_false_iff_ne]; omega
  have tm : ∀ x : Int, 0 ≤ x → 0 ≤ Int.tmod x n ∧ Int.tmod x n < n := fun x hx => ⟨Int.tmod_nonneg _ hx, Int.tmod_lt_of_pos _ (by omega)⟩
  by_cases q : p < (s.length : Int)
  · have r0 := hat p.toNat
    have w3 : w64 (s.getD p.toNat 0) = s.getD p.toNat 0 := w_id (by omega) (by omega)
    refine ⟨_, (s, p + 1), Al.now fun k => ?_, tm _ r0.1, R⟩
    show spec_l1Rd__pick.f k (s, p) n = _
    rw [spec_l1Rd__pick.f_eq]
    simp only [c, ifb_f, w1, w2, z1, decide_eq_true q, decide_eq_true hp0, Bool.and_self, ifb_t, n0, w3]
  · have hl := hs.2
    have l0 : decide ((s.length : Int) ≠ 0) = true := decide_eq_true (by omega)
    have m1 : 0 ≤ Int.tmod p (s.length : Int) ∧ Int.tmod p (s.length : Int) < (s.length : Int) := ⟨Int.tmod_nonneg _ hp0, Int.tmod_lt_of_pos _ (by omega)⟩
    have w7 : w64 (p * 7) = p * 7 := w_id (by omega) (by omega)
    have w8 : w64 (p * 7 + 3) = p * 7 + 3 := w_id (by omega) (by omega)
    have m2 : 0 ≤ Int.tmod (p * 7 + 3) (s.length : Int) ∧ Int.tmod (p * 7 + 3) (s.length : Int) < (s.length : Int) := ⟨Int.tmod_nonneg _ (by omega), Int.tmod_lt_of_pos _ (by omega)⟩
    generalize hA : Int.tmod p (s.length : Int) = A at m1
    generalize hB : Int.tmod (p * 7 + 3) (s.length : Int) = B at m2
    have ra := hat A.toNat
    have rb := hat B.toNat
    generalize hX : s.getD A.toNat (0 : Int) = X at ra
    generalize hY : s.getD B.toNat (0 : Int) = Y at rb
    have hd : 0 ≤ Int.tdiv p (s.length : Int) ∧ Int.tdiv p (s.length : Int) ≤ p := by
      refine ⟨Int.tdiv_nonneg hp0 (by omega), ?_⟩
      rw [Int.tdiv_eq_ediv_of_nonneg hp0]
      exact Int.ediv_le_self _ hp0
    generalize hD : Int.tdiv p (s.length : Int) = D at hd
    have v1 : w64 X = X := w_id (by omega) (by omega)
    have v2 : w64 (X * 131) = X * 131 := w_id (by omega) (by omega)
    have v3 : w64 Y = Y := w_id (by omega) (by omega)
    have v4 : w64 (Y * 1117) = Y * 1117 := w_id (by omega) (by omega)
    have v5 : w64 (X * 131 + Y * 1117) = X * 131 + Y * 1117 := w_id (by omega) (by omega)
    have v6 : w64 (p * 29) = p * 29 := w_id (by omega) (by omega)
    have v7 : w64 (X * 131 + Y * 1117 + p * 29) = X * 131 + Y * 1117 + p * 29 := w_id (by omega) (by omega)
    have v8 : w64 D = D := w_id (by omega) (by omega)
    have v9 : w64 (D * 53) = D * 53 := w_id (by omega) (by omega)
    have v10 : w64 (X * 131 + Y * 1117 + p * 29 + D * 53) = X * 131 + Y * 1117 + p * 29 + D * 53 := w_id (by omega) (by omega)
    have hS0 : 0 ≤ X * 131 + Y * 1117 + p * 29 + D * 53 ∧ X * 131 + Y * 1117 + p * 29 + D * 53 ≤ 1000000000000 := by omega
    have e0 : ∀ k, spec_l1Rd__pick.f k (s, p) n = spec_l1Rd__pick.J8 k (s, p + 1) n (X * 131 + Y * 1117 + p * 29 + D * 53) := by
      intro k
      rw [spec_l1Rd__pick.f_eq]
      simp only [c, ifb_f, w1, w2, z1, decide_eq_false q, l0, ifb_t, hA, w7, w8, hB, decide_eq_true m1.1, decide_eq_true m1.2, decide_eq_true m2.1, decide_eq_true m2.2, Bool.and_self, hX, hY, hD, v1, v2, v3, v4, v5, v6, v7, v8, v9, v10]
    generalize X * 131 + Y * 1117 + p * 29 + D * 53 = S at e0 hS0
    have hq : 0 ≤ Int.tdiv S 64 ∧ Int.tdiv S 64 ≤ S := by
      refine ⟨Int.tdiv_nonneg hS0.1 (by omega), ?_⟩
      rw [Int.tdiv_eq_ediv_of_nonneg hS0.1]
      exact Int.ediv_le_self _ hS0.1
    have v11 : w64 (Int.tdiv S 64) = Int.tdiv S 64 := w_id (by omega) (by omega)
    have hx := xor_ge S (Int.tdiv S 64) hS0.1 hq.1 (by omega) (by omega)
    refine ⟨_, (s, p + 1), Al.succ (Al.now fun k => ?_), tm _ hx, R⟩
    show spec_l1Rd__pick.f _ (s, p) n = _
    rw [e0, spec_l1Rd__pick.J8_eq]
    simp only [n0, v11, ifb_t, show decide ((64 : Int) ≠ 0) = true from rfl]
theorem of_dr {m : Int} {x : Rdr} (h : Rd m x) (hm : m ≤ 1000000000) (l : List ByteArray) (l1 : 1 ≤ l.length) (l2 : l.length ≤ 1000000) : Dr (fun k => spec_l1Rd__of.f k x l) (m + 1) fun v => v ∈ l := by
  obtain ⟨v, x', e, ⟨p0, p1⟩, r⟩ := pick_dr h hm (l.length : Int) (by omega) (by omega)
  have hv : v.toNat < l.length := by omega
  refine ⟨l.getD v.toNat bz, x', e.mono fun k e => ?_, ?_, r⟩
  · have e' : spec_l1Rd__pick.f k x (l.length : Int) = some (v, x') := e
    show spec_l1Rd__of.f k x l = _
    rw [spec_l1Rd__of.f_eq, e', Option.bind_some]
    simp only [decide_eq_true p0, decide_eq_true p1, Bool.and_self, ifb_t]
  · rw [List.getD_eq_getElem?_getD, List.getElem?_eq_getElem hv]
    exact List.getElem_mem hv
/-! ### Words -/
theorem mem_size {l : List ByteArray} {n : Nat} (h : ∀ s ∈ l, s.size ≤ n) {s : ByteArray} (hs : s ∈ l) : s.size ≤ n := h s hs
theorem least_al (a b : Int) : Al fun k => spec_l1Least.f k a b = some (if a < b then a else b) := Al.now fun k => by
  rw [spec_l1Least.f_eq]
  by_cases h : a < b
  · rw [decide_eq_true h, ifb_t, if_pos h]
  · rw [decide_eq_false h, ifb_f, if_neg h]
/-- of at most n bytes, the first of them no w -/
def noW (n : Nat) (s : ByteArray) : Prop := s.size ≤ n ∧ (bl s).head? ≠ some 119
theorem noW_app {a b : ByteArray} {n m : Nat} (h : noW n a) (k : noW m b) : noW (n + m) (a ++ b) := by
  refine ⟨by rw [ByteArray.size_append]; exact Nat.add_le_add h.1 k.1, ?_⟩
  have e : bl (a ++ b) = bl a ++ bl b := by simp [bl]
  rw [e]
  cases ha : bl a with
  | nil => exact k.2
  | cons x t => have := h.2; rw [ha] at this; simpa using this
theorem noW_cut {a : ByteArray} {n j : Nat} (h : noW n a) (hj : j ≤ a.size) : noW j (a.extract 0 j) := by
  refine ⟨by simp; omega, ?_⟩
  have e : bl (a.extract 0 j) = (bl a).take j := by simp [bl]
  rw [e]
  cases ha : bl a with
  | nil => simp
  | cons x t =>
    cases j with
    | zero => simp
    | succ j => have := h.2; rw [ha] at this; simpa using this
theorem word_dr {m : Int} {x : Rdr} (h : Rd m x) (hm : m ≤ 900000000) : Dr (fun k => spec_l13Word.f k x) (m + 12) (noW 12) := by
  have two : ∀ (n : Nat) (m : Int) (x : Rdr) (s : ByteArray), Rd m x → m + n ≤ 1000000000 → noW (1000 - 2 * n) s → n ≤ 6 → Dr2 (fun k k1 => spec_l13Word.L4 k k1 x s (n : Int)) (m + n) (noW 12) := by
    intro n
    induction n with
    | zero =>
      intro m x s hx hm hs hn
      refine Dr2.succ (Dr2.congr (fun k k1 => spec_l13Word.L4_eq k k1 x s _) ?_)
      simp only [show decide (((0 : Nat) : Int) > 0) = false from rfl, ifb_f]
      refine Dr2.bindv (least_al _ _).fst ?_
      have hj : (if (s.size : Int) < 12 then (s.size : Int) else 12).toNat ≤ s.size ∧ (if (s.size : Int) < 12 then (s.size : Int) else 12).toNat ≤ 12 ∧ (0 : Int) ≤ (if (s.size : Int) < 12 then (s.size : Int) else 12) ∧ (if (s.size : Int) < 12 then (s.size : Int) else 12) ≤ (s.size : Int) := by split <;> omega
      have hw := noW_cut hs hj.1
      refine Dr2.now (fun k k1 => by
        rw [decide_eq_true (Int.le_refl 0), decide_eq_true hj.2.2.1, decide_eq_true hj.2.2.2, Bool.and_self, Bool.and_self, ifb_t]
        rfl) ⟨Nat.le_trans hw.1 hj.2.1, hw.2⟩ (hx.up (by omega))
    | succ n ih =>
      intro m x s hx hm hs hn
      refine Dr2.succ (Dr2.congr (fun k k1 => spec_l13Word.L4_eq k k1 x s _) ?_)
      simp only [decide_eq_true (show ((n + 1 : Nat) : Int) > 0 by omega), ifb_t]
      refine Dr2.bind (of_dr hx (by omega) _ (by simp) (by simp)).snd fun v y hv hy => ?_
      have hv' : noW 2 v := by
        simp only [List.mem_cons, List.not_mem_nil, or_false] at hv
        rcases hv with rfl | rfl | rfl | rfl | rfl <;> exact ⟨by decide, by decide⟩
      have h2 := noW_app hs hv'
      have sz : fitB (s.size + v.size) = true := fitB_t (by have := hs.1; have := hv'.1; omega)
      have e1 : w64 (((n + 1 : Nat) : Int) - 1) = (n : Int) := by rw [show ((n + 1 : Nat) : Int) - 1 = (n : Int) by omega]; exact w_id (by omega) (by omega)
      simp only [sz, ifb_t, e1]
      exact (ih (m + 1) y (s ++ v) hy (by omega) ⟨Nat.le_trans h2.1 (by omega), h2.2⟩ (by omega)).up (by omega) fun _ h => h
  refine Dr.congr (fun k => spec_l13Word.f_eq k x) (Dr.bind (pick_dr h (by omega) 3 (by omega) (by omega)) fun v y hv hy => ?_)
  by_cases c : v = 0
  · subst c
    simp only [show ((0 : Int) == 0) = true from rfl, ifb_t]
    refine Dr.bind (pick_dr hy (by omega) 5 (by omega) (by omega)) fun v z hv hz => ?_
    obtain ⟨n, rfl⟩ := Int.eq_ofNat_of_zero_le hv.1
    have e1 : w64 (1 + (n : Int)) = ((n + 1 : Nat) : Int) := by rw [show (1 : Int) + (n : Int) = ((n + 1 : Nat) : Int) by omega]; exact w_id (by omega) (by omega)
    simp only [e1]
    exact (two (n + 1) _ z bz hz (by omega) ⟨by simp, by decide⟩ (by omega)).diag.up (by omega) fun _ h => h
  · simp only [show (v == 0) = false by rw [beq_eq_false_iff_ne]; exact c, ifb_f]
    refine Dr.bind (of_dr hy (by omega) _ (by simp) (by simp)) fun v z hv hz => ?_
    refine Dr.now (v := v) (x := z) (fun k => rfl) ?_ (hz.up (by omega))
    simp only [List.mem_cons, List.not_mem_nil, or_false] at hv
    rcases hv with rfl | rfl | rfl | rfl | rfl | rfl | rfl | rfl | rfl | rfl | rfl | rfl | rfl | rfl | rfl <;> exact ⟨by decide, by decide⟩
end Go.Proofs.YtabindnaedchgaaDoor.Rf
end

section
/- Draws: affixes, rows of words, entries, books. -/
namespace Go.Proofs.YtabindnaedchgaaDoor.Rf
open Go Go.RowKit
set_option linter.unusedVariables false
set_option linter.unusedSimpArgs false
def Dr3 {α : Type} (X : Nat → Nat → Nat → Option (α × Rdr)) (m : Int) (P : α → Prop) : Prop := ∃ v x', Al3 (fun a b c => X a b c = some (v, x')) ∧ P v ∧ Rd m x'
theorem Dr3.congr {α : Type} {X Y : Nat → Nat → Nat → Option (α × Rdr)} {m : Int} {P : α → Prop} (e : ∀ a b c, Y a b c = X a b c) (h : Dr3 X m P) : Dr3 Y m P := by
  obtain rfl : Y = X := funext fun a => funext fun b => funext (e a b)
  exact h
theorem Dr3.succ {α : Type} {X : Nat → Nat → Nat → Option (α × Rdr)} {m : Int} {P : α → Prop} (h : Dr3 (fun a b c => X a b (c + 1)) m P) : Dr3 X m P := by
  obtain ⟨v, x, e, r⟩ := h
  exact ⟨v, x, Al3.succ e, r⟩
theorem Dr3.pred {α : Type} {X : Nat → Nat → Nat → Option (α × Rdr)} {m : Int} {P : α → Prop} (h : Dr3 X m P) : Dr3 (fun a b c => X a b (c + 1)) m P := by
  obtain ⟨v, x, ⟨n, e⟩, r⟩ := h
  exact ⟨v, x, ⟨n, fun a b c ha hb hc => e a b (c + 1) ha hb (by omega)⟩, r⟩
theorem Dr2.fst3 {α : Type} {X : Nat → Nat → Option (α × Rdr)} {m : Int} {P : α → Prop} (h : Dr2 X m P) : Dr3 (fun a b _ => X a b) m P := by
  obtain ⟨v, x, e, r⟩ := h
  exact ⟨v, x, e.fst, r⟩
theorem Dr3.in2 {α : Type} {X : Nat → Nat → Nat → Option (α × Rdr)} {m : Int} {P : α → Prop} (h : Dr3 X m P) : Dr2 (fun a b => X a b b) m P := by
  obtain ⟨v, x, e, r⟩ := h
  exact ⟨v, x, e.in2, r⟩
/-! ### Words of any kind, affixes -/
def szN (n : Nat) (s : ByteArray) : Prop := s.size ≤ n
theorem anyWord_dr {m : Int} {x : Rdr} (h : Rd m x) (hm : m ≤ 800000000) : Dr (fun k => spec_l13AnyWord.f k x) (m + 20) (szN 13) := by
  refine Dr.congr (fun k => spec_l13AnyWord.f_eq k x) (Dr.bind (pick_dr h (by omega) 16 (by omega) (by omega)) fun v y hv hy => ?_)
  by_cases c : v = 0
  · subst c
    simp only [show ((0 : Int) == 0) = true from rfl, ifb_t]
    refine Dr.bind (of_dr hy (by omega) _ (by simp) (by simp)) fun v z hv hz => ?_
    refine Dr.now (v := v) (x := z) (fun k => rfl) ?_ (hz.up (by omega))
    simp only [List.mem_cons, List.not_mem_nil, or_false] at hv
    rcases hv with rfl | rfl | rfl | rfl | rfl | rfl <;> (unfold szN; decide)
  · simp only [show (v == 0) = false by rw [beq_eq_false_iff_ne]; exact c, ifb_f]
    refine Dr.bind (word_dr hy (by omega)) fun v z hv hz => ?_
    exact Dr.now (v := v) (x := z) (fun k => rfl) (Nat.le_trans hv.1 (by omega)) (hz.up (by omega))
def affS (a : Aff) : Prop := a.1.size ≤ 8 ∧ a.2.2.1.size ≤ 8 ∧ a.2.2.2.1.size ≤ 8 ∧ a.2.2.2.2.size ≤ 8
theorem affix_dr {m : Int} {x : Rdr} (h : Rd m x) (hm : m ≤ 800000000) : Dr (fun k => spec_l13Affix.f k x) (m + 1) affS := by
  refine Dr.congr (fun k => spec_l13Affix.f_eq k x) (Dr.succ ?_)
  refine Dr.congr (fun k => spec_l13Affix.J2_eq k x _ _) ?_
  refine Dr.bind (pick_dr h (by omega) _ (by simp) (by simp)) fun v y hv hy => ?_
  have p0 := hv.1
  have p1 := hv.2
  simp only [decide_eq_true p0, decide_eq_true p1, Bool.and_self, ifb_t]
  refine Dr.now (v := _) (x := y) (fun k => rfl) ?_ hy
  obtain ⟨n, rfl⟩ := Int.eq_ofNat_of_zero_le p0
  simp only [List.length_cons, List.length_nil] at p1
  have : n = 0 ∨ n = 1 ∨ n = 2 ∨ n = 3 ∨ n = 4 ∨ n = 5 ∨ n = 6 ∨ n = 7 := by omega
  rcases this with rfl | rfl | rfl | rfl | rfl | rfl | rfl | rfl <;> exact ⟨by decide, by decide, by decide, by decide⟩
def affsS (n : Nat) (l : List Aff) : Prop := l.length ≤ n ∧ ∀ a ∈ l, affS a
theorem affs_in {y : Rdr} {l : List Aff} {a : Aff} {n : Nat} {M : Int} {P : List Aff → Prop} (hl : l.length ≤ 100) (hn : n ≤ 100)
    (hA : Dr2 (fun k k1 => spec_l13Affixes.L3 k k1 y (l ++ [a]) (n : Int)) M P) (hB : Dr2 (fun k k1 => spec_l13Affixes.L3 k k1 y l (n : Int)) M P) :
    ∀ j i : Nat, i + j = l.length → ∀ b : Bool, Dr3 (fun k k1 k2 => spec_l13Affixes.L8 k k1 k2 y l ((n + 1 : Nat) : Int) a b (i : Int)) M P := by
  have e1 : w64 (((n + 1 : Nat) : Int) - 1) = (n : Int) := by rw [show ((n + 1 : Nat) : Int) - 1 = (n : Int) by omega]; exact w_id (by omega) (by omega)
  have e2 : decide ((l.length + [a].length) * 72 ≤ rowMax) = true := decide_eq_true (by simp [rowMax]; omega)
  intro j
  induction j with
  | zero =>
    intro i hi b
    refine Dr3.succ (Dr3.congr (fun k k1 k2 => spec_l13Affixes.L8_eq k k1 k2 y l _ a b _) ?_)
    simp only [at_end (show ¬ i < l.length by omega), ifb_f, e1, e2, ifb_t]
    cases b
    · simp only [Bool.not_false, ifb_t]; exact hA.fst3
    · simp only [Bool.not_true, ifb_f]; exact hB.fst3
  | succ j ih =>
    intro i hi b
    obtain ⟨c1, c2, c3, c4⟩ := at_i (show i < l.length by omega) (by omega)
    refine Dr3.succ (Dr3.congr (fun k k1 k2 => spec_l13Affixes.L8_eq k k1 k2 y l _ a b _) (Dr3.succ ?_))
    simp only [c1, c2, Bool.and_self, ifb_t, spec_l13Affixes.J9_eq, w64, c4]
    cases b
    · simp only [ifb_f]; exact (ih (i + 1) (by omega) _).pred
    · simp only [ifb_t]; exact (ih (i + 1) (by omega) _).pred
theorem affs_loop : ∀ (n : Nat) (m : Int) (y : Rdr) (l : List Aff), Rd m y → m + n ≤ 700000000 → n ≤ 5 → affsS (50 - n) l → Dr2 (fun k k1 => spec_l13Affixes.L3 k k1 y l (n : Int)) (m + n) (affsS 50) := by
  intro n
  induction n with
  | zero =>
    intro m y l hy hm hn hl
    refine Dr2.succ (Dr2.congr (fun k k1 => spec_l13Affixes.L3_eq k k1 y l _) ?_)
    simp only [show decide (((0 : Nat) : Int) > 0) = false from rfl, ifb_f]
    exact Dr2.now (v := l) (x := y) (fun k k1 => rfl) hl (hy.up (by omega))
  | succ n ih =>
    intro m y l hy hm hn hl
    refine Dr2.succ (Dr2.congr (fun k k1 => spec_l13Affixes.L3_eq k k1 y l _) ?_)
    simp only [decide_eq_true (show ((n + 1 : Nat) : Int) > 0 by omega), ifb_t]
    refine Dr2.bind (affix_dr hy (by omega)).snd fun a z ha hz => ?_
    have A := ih (m + 1) z (l ++ [a]) hz (by omega) (by omega) ⟨by have := hl.1; simp; omega, fun x hx => (List.mem_append.1 hx).elim (hl.2 x) fun h => by rw [List.mem_singleton.1 h]; exact ha⟩
    have B := ih (m + 1) z l hz (by omega) (by omega) ⟨by have := hl.1; omega, hl.2⟩
    exact ((affs_in (by have := hl.1; omega) (by omega) A B l.length 0 (by omega) false).in2).up (by omega) fun _ h => h
theorem affixes_dr {m : Int} {x : Rdr} (h : Rd m x) (hm : m ≤ 600000000) : Dr (fun k => spec_l13Affixes.f k x) (m + 10) (affsS 50) := by
  refine Dr.congr (fun k => spec_l13Affixes.f_eq k x) (Dr.bind (pick_dr h (by omega) 5 (by omega) (by omega)) fun v y hv hy => ?_)
  obtain ⟨n, rfl⟩ := Int.eq_ofNat_of_zero_le hv.1
  have h5 := hv.2
  exact ((affs_loop n (m + 1) y [] hy (by omega) (by omega) ⟨by simp, fun a ha => by simp at ha⟩).diag).up (by omega) fun _ h => h
/-! ### A word is put into a row that rises -/
def putS (s : ByteArray) : List ByteArray → List ByteArray
  | [] => [s]
  | x :: t => if ltS x s then x :: putS s t else if x = s then x :: t else s :: x :: t
theorem putS_cons (s x : ByteArray) (t : List ByteArray) : putS s (x :: t) = if ltS x s then x :: putS s t else if x = s then x :: t else s :: x :: t := rfl
theorem putS_mem {s x : ByteArray} : ∀ {l : List ByteArray}, x ∈ putS s l → x = s ∨ x ∈ l
  | [], h => .inl (List.mem_singleton.1 h)
  | y :: t, h => by
    unfold putS at h
    split at h
    · rcases List.mem_cons.1 h with rfl | h
      · exact .inr (List.mem_cons_self ..)
      · exact (putS_mem h).imp id fun h => List.mem_cons_of_mem _ h
    · split at h
      · exact .inr h
      · rcases List.mem_cons.1 h with rfl | h
        · exact .inl rfl
        · exact .inr h
theorem putS_len (s : ByteArray) : ∀ (l : List ByteArray), (putS s l).length ≤ l.length + 1 ∧ (s ∉ l → (putS s l).length = l.length + 1)
  | [] => ⟨by simp [putS], fun _ => by simp [putS]⟩
  | y :: t => by
    unfold putS
    split
    · have := putS_len s t
      exact ⟨by simp; omega, fun h => by simp only [List.length_cons]; rw [this.2 fun h' => h (List.mem_cons_of_mem _ h')]⟩
    · split
      · rename_i e
        exact ⟨by simp, fun h => (h (by simp [e])).elim⟩
      · exact ⟨by simp, fun _ => by simp⟩
theorem l1Put_al (l : List ByteArray) (s : ByteArray) (hl : l.length ≤ 1099511627776) : Al fun k => spec_l1Put.f k l s = some (putS s l) := by
  have hS : l.length ≤ 4611686018427387904 := by omega
  have ins : ∀ i : Nat, i ≤ l.length → ∀ (z : Option (List ByteArray)), ifb (decide (0 ≤ (0 : Int)) && (decide ((0 : Int) ≤ (i : Int)) && decide ((i : Int) ≤ (l.length : Int)))) (ifb (decide ((([] : List ByteArray).length + ((l.take i).drop (0 : Int).toNat).length) * 16 ≤ rowMax)) (ifb (decide (((([] : List ByteArray) ++ ((l.take i).drop (0 : Int).toNat)).length + [s].length) * 16 ≤ rowMax)) (ifb (decide (0 ≤ (i : Int)) && (decide ((i : Int) ≤ (l.length : Int)) && decide ((l.length : Int) ≤ (l.length : Int)))) (ifb (decide ((((([] : List ByteArray) ++ ((l.take i).drop (0 : Int).toNat)) ++ [s]).length + ((l.take l.length).drop i).length) * 16 ≤ rowMax)) (some (((([] : List ByteArray) ++ ((l.take i).drop (0 : Int).toNat)) ++ [s]) ++ ((l.take l.length).drop i))) (none)) (none)) (none)) (none)) (none) = some (l.take i ++ s :: l.drop i) := by
    intro i hi _
    have d0 : ∀ l : List ByteArray, l.drop (0 : Int).toNat = l := fun l => rfl
    have d1 : l.take l.length = l := List.take_length
    rw [d1, d0]
    rw [decide_eq_true (Int.le_refl 0), decide_eq_true (show (0 : Int) ≤ (i : Int) by omega), decide_eq_true (show (i : Int) ≤ (l.length : Int) by omega), decide_eq_true (Int.le_refl (l.length : Int)), Bool.and_self, Bool.and_self, ifb_t, ifb_t]
    rw [decide_eq_true (by simp [rowMax]; omega), decide_eq_true (by simp [rowMax]; omega), decide_eq_true (by simp [rowMax]; omega), ifb_t, ifb_t, ifb_t]
    simp
  have key : ∀ (t : List ByteArray) (i : Nat), l.drop i = t → i ≤ l.length → Al2 fun k k1 => spec_l1Put.L2 k k1 l s (i : Int) = some (l.take i ++ putS s t) := by
    intro t
    induction t with
    | nil =>
      intro i hd hi
      have he := drop_nil hd
      refine Al2.succ (Al2.now fun k k1 => ?_)
      simp only [spec_l1Put.L2_eq, at_end he, ifb_f, Int.toNat_natCast]
      rw [ins i hi none, hd]
      rfl
    | cons x t ih =>
      intro i hd hi
      obtain ⟨hi', g1, g2⟩ := drop_cons bz hd
      obtain ⟨c1, c2, c3, c4⟩ := at_i hi' hS
      refine Al2.succ ((ih (i + 1) g2 (by omega)).mono fun k k1 e => ?_)
      simp only [spec_l1Put.L2_eq, c1, c2, Int.toNat_natCast, w64, c4, g1, Bool.and_self, ifb_t, e, eq_beq, putS_cons]
      cases hx : Op.bytesLess x.toList s.toList
      · rw [ifb_f, if_neg (show ¬ ltS x s = true by simp [ltS, hx])]
        by_cases e2 : x = s
        · rw [decide_eq_true e2, ifb_t, if_pos e2, ← hd, List.take_append_drop]
        · have ins' := ins i hi none
          simp only [c2] at ins'
          rw [decide_eq_false e2, ifb_f, ins', hd, if_neg e2]
      · rw [ifb_t, if_pos (show ltS x s = true by simp [ltS, hx])]
        have e3 : l.take (i + 1) = l.take i ++ [x] := by
          have h2 : l.take (i + 1) = l.take i ++ (l.drop i).take 1 := by rw [List.take_add]
          rw [h2, hd]; rfl
        rw [e3]
        simp
  refine (key l 0 rfl (by omega)).diag.mono fun k e => ?_
  rw [spec_l1Put.f_eq, show (0 : Int) = ((0 : Nat) : Int) from rfl, e]
  rfl
/-! ### Entries and books -/
def entS (e : En) : Prop := e.1.size ≤ 16 ∧ e.2.size ≤ 16
def entsS (n : Nat) (l : List En) : Prop := l.length ≤ n ∧ ∀ e ∈ l, entS e
def bookS (n : Nat) (b : Book) : Prop := affsS n b.1 ∧ entsS n b.2
theorem entry_dr {m : Int} {x : Rdr} (s : ByteArray) (hs : s.size ≤ 16) (h : Rd m x) (hm : m ≤ 900000000) : Dr (fun k => spec_l13Entry.f k x s) (m + 1) entS := by
  refine Dr.congr (fun k => spec_l13Entry.f_eq k x s) (Dr.bind (of_dr h (by omega) _ (by simp) (by simp)) fun v y hv hy => ?_)
  have h16 : v.size ≤ 16 := by
    simp only [List.mem_cons, List.not_mem_nil, or_false] at hv
    rcases hv with rfl | rfl | rfl | rfl | rfl | rfl | rfl | rfl | rfl <;> decide
  exact Dr.now (v := (s, v)) (x := y) (fun k => rfl) ⟨hs, h16⟩ hy
theorem book_tail (b0 : Book) (A : List Aff) (hA : affsS 50 A) (ws : List ByteArray) (hw : ws.length ≤ 40 ∧ ∀ s ∈ ws, s.size ≤ 16) :
    ∀ (j i : Nat) (m : Int) (x : Rdr) (es : List En), i + j = ws.length → Rd m x → m + j ≤ 800000000 → entsS i es → Dr2 (fun k k1 => spec_l13Book.L13 k k1 x b0 (A, es) ws (i : Int)) (m + j) (bookS 50) := by
  intro j
  induction j with
  | zero =>
    intro i m x es hi hx hm he
    refine Dr2.succ (Dr2.congr (fun k k1 => spec_l13Book.L13_eq k k1 x b0 (A, es) ws _) ?_)
    simp only [at_end (show ¬ i < ws.length by omega), ifb_f]
    exact Dr2.now (v := (A, es)) (x := x) (fun _ _ => rfl) ⟨hA, by have := he.1; exact Nat.le_trans he.1 (by omega), he.2⟩ (hx.up (by omega))
  | succ j ih =>
    intro i m x es hi hx hm he
    have hil : i < ws.length := by omega
    obtain ⟨c1, c2, c3, c4⟩ := at_i hil (by omega)
    refine Dr2.succ (Dr2.congr (fun k k1 => spec_l13Book.L13_eq k k1 x b0 (A, es) ws _) ?_)
    simp only [c1, c2, c3, Bool.and_self, ifb_t, w64, c4]
    have hs : (ws.getD i bz).size ≤ 16 := by
      rw [List.getD_eq_getElem?_getD, List.getElem?_eq_getElem hil]
      exact hw.2 _ (List.getElem_mem hil)
    refine Dr2.bind (entry_dr _ hs hx (by omega)).snd fun e y he' hy => ?_
    have e2 : decide ((es.length + [e].length) * 32 ≤ rowMax) = true := decide_eq_true (by have := he.1; simp [rowMax]; omega)
    simp only [e2, ifb_t]
    exact (ih (i + 1) (m + 1) y (es ++ [e]) (by omega) hy (by omega) ⟨by have := he.1; simp; omega, fun z hz => (List.mem_append.1 hz).elim (he.2 z) fun h => by rw [List.mem_singleton.1 h]; exact he'⟩).up (by omega) fun _ h => h
theorem book_j12 (b0 : Book) (A : List Aff) (hA : affsS 50 A) (ws : List ByteArray) (hw : ws.length ≤ 40 ∧ ∀ s ∈ ws, s.size ≤ 16) {m : Int} {x : Rdr} (hx : Rd m x) (hm : m ≤ 700000000) :
    Dr (fun k => spec_l13Book.J12 k x b0 (A, []) ws) (m + 40) (bookS 50) := by
  refine Dr.succ (Dr.congr (fun k => spec_l13Book.J12_eq k x b0 (A, []) ws) ?_)
  exact ((book_tail b0 A hA ws hw ws.length 0 m x [] (by omega) hx (by omega) ⟨by simp, fun e he => by simp at he⟩).diag).up (by omega) fun _ h => h
/-- w and a letter -/
def wN (n : Nat) : ByteArray := (⟨#[119]⟩ : ByteArray) ++ strOf [(IntKind.u8.wrap (w64 ((97 : Int) + (n : Int))))]
theorem wN_bl : ∀ n, n < 25 → bl (wN n) = [119, (97 + n).toUInt8] := by decide
theorem wN_size {n : Nat} (h : n < 25) : (wN n).size = 2 := by rw [← bl_length, wN_bl n h]; rfl
theorem wN_inj : ∀ i, i < 25 → ∀ j, j < 25 → wN i = wN j → i = j := by
  intro i hi j hj e
  have := congrArg bl e
  rw [wN_bl i hi, wN_bl j hj] at this
  have h2 : (97 + i).toUInt8 = (97 + j).toUInt8 := by simpa using this
  have h3 := congrArg UInt8.toNat h2
  simp at h3
  omega
/-- all words begin with no w, or are w and one of the first n letters -/
def wOk (n : Nat) (s : ByteArray) : Prop := s.size ≤ 16 ∧ ((bl s).head? ≠ some 119 ∨ ∃ j, j < n ∧ s = wN j)
theorem book_fill (b0 : Book) (A : List Aff) (hA : affsS 50 A) : ∀ (j n : Nat) (m : Int) (x : Rdr) (ws : List ByteArray), j + ws.length = 24 → n ≤ ws.length → Rd m x → m ≤ 600000000 → (∀ s ∈ ws, wOk n s) →
    Dr2 (fun k k1 => spec_l13Book.L9 k k1 x b0 (A, []) ws (n : Int)) (m + 40) (bookS 50) := by
  intro j
  induction j with
  | zero =>
    intro n m x ws hj hn hx hm hw
    refine Dr2.succ (Dr2.congr (fun k k1 => spec_l13Book.L9_eq k k1 x b0 (A, []) ws _) ?_)
    simp only [show decide ((ws.length : Int) < 24) = false from decide_eq_false (by omega), ifb_f]
    exact (book_j12 b0 A hA ws ⟨by omega, fun s hs => (hw s hs).1⟩ hx (by omega)).fst
  | succ j ih =>
    intro n m x ws hj hn hx hm hw
    refine Dr2.succ (Dr2.congr (fun k k1 => spec_l13Book.L9_eq k k1 x b0 (A, []) ws _) ?_)
    have hn25 : n < 25 := by omega
    have hsz : fitB ((⟨#[119]⟩ : ByteArray).size + (strOf [(IntKind.u8.wrap (w64 ((97 : Int) + (n : Int))))]).size) = true := by
      have h2 := wN_size hn25
      unfold wN at h2
      rw [ByteArray.size_append] at h2
      rw [h2]; rfl
    have e1 : w64 ((n : Int) + 1) = ((n + 1 : Nat) : Int) := by rw [show (n : Int) + 1 = ((n + 1 : Nat) : Int) by omega]; exact w_id (by omega) (by omega)
    simp only [show decide ((ws.length : Int) < 24) = true from decide_eq_true (by omega), ifb_t, hsz, e1]
    refine Dr2.bindv (l1Put_al ws (wN n) (by omega)).snd ?_
    have hno : wN n ∉ ws := by
      intro hmem
      rcases (hw _ hmem).2 with h | ⟨i, hi, h⟩
      · rw [wN_bl n hn25] at h; simp at h
      · have := wN_inj n hn25 i (by omega) h; omega
    have hlen := (putS_len (wN n) ws).2 hno
    refine ih (n + 1) m x (putS (wN n) ws) (by omega) (by omega) hx hm fun s hs => ?_
    rcases putS_mem hs with rfl | hs
    · exact ⟨by rw [wN_size hn25]; omega, .inr ⟨n, by omega, rfl⟩⟩
    · obtain ⟨h1, h2⟩ := hw s hs
      exact ⟨h1, h2.imp id fun ⟨i, hi, h⟩ => ⟨i, by omega, h⟩⟩
theorem book_words (b0 : Book) (A : List Aff) (hA : affsS 50 A) : ∀ (n : Nat) (m : Int) (x : Rdr) (ws : List ByteArray), n + ws.length ≤ 7 → Rd m x → m + 12 * n ≤ 500000000 → (∀ s ∈ ws, wOk 0 s) →
    Dr2 (fun k k1 => spec_l13Book.L4 k k1 x b0 (A, []) ws (n : Int)) (m + 12 * n + 50) (bookS 50) := by
  intro n
  induction n with
  | zero =>
    intro m x ws hl hx hm hw
    refine Dr2.succ (Dr2.congr (fun k k1 => spec_l13Book.L4_eq k k1 x b0 (A, []) ws _) ?_)
    simp only [show decide (((0 : Nat) : Int) > 0) = false from rfl, ifb_f]
    refine Dr2.bind (pick_dr hx (by omega) 30 (by omega) (by omega)).fst fun v y hv hy => ?_
    by_cases c : v = 0
    · subst c
      simp only [show ((0 : Int) == 0) = true from rfl, ifb_t]
      exact ((book_fill b0 A hA (24 - ws.length) 0 (m + 1) y ws (by omega) (by omega) hy (by omega) hw).diag.fst).up (by omega) fun _ h => h
    · simp only [show (v == 0) = false by rw [beq_eq_false_iff_ne]; exact c, ifb_f]
      exact ((book_j12 b0 A hA ws ⟨by omega, fun s hs => (hw s hs).1⟩ hy (by omega)).fst).up (by omega) fun _ h => h
  | succ n ih =>
    intro m x ws hl hx hm hw
    refine Dr2.succ (Dr2.congr (fun k k1 => spec_l13Book.L4_eq k k1 x b0 (A, []) ws _) ?_)
    have e1 : w64 (((n + 1 : Nat) : Int) - 1) = (n : Int) := by rw [show ((n + 1 : Nat) : Int) - 1 = (n : Int) by omega]; exact w_id (by omega) (by omega)
    simp only [decide_eq_true (show ((n + 1 : Nat) : Int) > 0 by omega), ifb_t, e1]
    refine Dr2.bind (word_dr hx (by omega)).snd fun s y hs hy => ?_
    refine Dr2.bindv (l1Put_al ws s (by omega)).snd ?_
    have hlen := (putS_len s ws).1
    refine (ih (m + 12) y (putS s ws) (by omega) hy (by omega) fun z hz => ?_).up (by omega) fun _ h => h
    rcases putS_mem hz with rfl | hz
    · exact ⟨Nat.le_trans hs.1 (by omega), .inl hs.2⟩
    · exact hw z hz
theorem book_dr {m : Int} {x : Rdr} (h : Rd m x) (hm : m ≤ 400000000) : Dr (fun k => spec_l13Book.f k x) (m + 200) (bookS 50) := by
  refine Dr.congr (fun k => spec_l13Book.f_eq k x) (Dr.bind (affixes_dr h (by omega)) fun A y hA hy => ?_)
  refine Dr.bind (pick_dr hy (by omega) 7 (by omega) (by omega)) fun v z hv hz => ?_
  obtain ⟨n, rfl⟩ := Int.eq_ofNat_of_zero_le hv.1
  have h7 := hv.2
  exact ((book_words ([], []) A hA n _ z [] (by simp; omega) hz (by omega) (fun s hs => by simp at hs)).diag).up (by omega) fun _ h => h
end Go.Proofs.YtabindnaedchgaaDoor.Rf
end

section
/- The delta from one book to another, the reference's side. -/
namespace Go.Proofs.YtabindnaedchgaaDoor.Rf
open Go Go.RowKit
set_option linter.unusedVariables false
set_option linter.unusedSimpArgs false
theorem ent_beq' (a b : En) : ((a.1.toList == b.1.toList) && (a.2.toList == b.2.toList)) = decide (a = b) := by
  rw [eq_beq, eq_beq, Bool.eq_iff_iff]
  simp only [Bool.and_eq_true, decide_eq_true_eq]
  exact ⟨fun ⟨h1, h2⟩ => Prod.ext h1 h2, fun h => h ▸ ⟨rfl, rfl⟩⟩
theorem spec_l5Affixes_al (l m : List Aff) (hl : Sm l.length) : Al fun k => spec_l5Affixes.f k l m = some (decide (l = m)) := by
  by_cases hlen : l.length = m.length
  case neg =>
    refine Al.now fun k => ?_
    rw [spec_l5Affixes.f_eq, show ((l.length : Int) != (m.length : Int)) = true by rw [bne_iff_ne]; omega, ifb_t, decide_eq_false fun e => hlen (by rw [e])]
  have key : ∀ (t : List Aff) (i : Nat), l.drop i = t → Al2 fun k k1 => spec_l5Affixes.L4 k k1 l m (i : Int) = some (decide (t = m.drop i)) := by
    intro t
    induction t with
    | nil =>
      intro i hd
      have he := drop_nil hd
      refine Al2.succ (Al2.now fun k k1 => ?_)
      rw [spec_l5Affixes.L4_eq, at_end he, ifb_f, List.drop_eq_nil_of_le (show m.length ≤ i by omega), decide_eq_true rfl]
    | cons x t ih =>
      intro i hd
      obtain ⟨hi, g1, g2⟩ := drop_cons zA hd
      obtain ⟨c1, c2, c3, c4⟩ := at_i hi hl
      have hm : i < m.length := by omega
      have hmd : m.drop i = m[i] :: m.drop (i + 1) := List.drop_eq_getElem_cons hm
      have gm : m.getD i zA = m[i] := by rw [List.getD_eq_getElem?_getD, List.getElem?_eq_getElem hm]; rfl
      have cm : decide ((i : Int) < (m.length : Int)) = true := decide_eq_true (by omega)
      refine Al2.succ ((ih (i + 1) g2).mono fun k k1 e => ?_)
      simp only [spec_l5Affixes.L4_eq, c1, c2, c3, w64, c4, g1, cm, gm, Bool.and_self, ifb_t, e, aff_beq, hmd]
      by_cases h : x = m[i]
      · rw [decide_eq_true h, Bool.not_true, ifb_f]
        exact congrArg some (decide_eq_decide.2 ⟨fun e => by rw [h, e], fun e => (List.cons.inj e).2⟩)
      · rw [decide_eq_false h, Bool.not_false, ifb_t]
        exact congrArg some (decide_eq_false fun e => h (List.cons.inj e).1).symm
  refine (key l 0 rfl).diag.mono fun k e => ?_
  rw [spec_l5Affixes.f_eq, show ((l.length : Int) != (m.length : Int)) = false by rw [hlen]; simp, ifb_f, show (0 : Int) = ((0 : Nat) : Int) from rfl, e]
  rfl
/-- an entry that the other book does not hold -/
def newE (l : List En) (e : En) : Bool := !thereE l e.1 || !decide (l.getD (atE l e.1) zE = e)
def goesOf (a b : Book) : List ByteArray := (a.2.filter fun e => !thereE b.2 e.1).map fun e => e.1
def comesOf (a b : Book) : List En := b.2.filter fun e => newE a.2 e
def deltaOf (a b : Book) : Delta := if bookB a && bookB b then (goesOf a b, comesOf a b, !decide (a.1 = b.1), if a.1 = b.1 then [] else b.1) else ([], [], false, [])
theorem there_at {l : List En} {s : ByteArray} (h : thereE l s = true) : atE l s < l.length := by
  unfold thereE at h
  split at h
  · rename_i e t hd
    refine Decidable.byContradiction fun hn => ?_
    rw [List.drop_eq_nil_of_le (by omega)] at hd
    cases hd
  · cases h
theorem spec_DeltaOf_al (a b : Book) (ha : smB a) (hb : smB b) : Al fun k => spec_DeltaOf.f k a b = some (deltaOf a b) := by
  have e0 := (spec_BookOk_al a ha).and (spec_BookOk_al b hb)
  cases h1 : bookB a with
  | false => exact e0.mono fun k ⟨e1, e2⟩ => by simp only [spec_DeltaOf.f_eq, e1, h1, Option.bind_some, Bool.not_false, ifb_t, deltaOf, Bool.false_and, Bool.false_eq_true, if_false]
  | true =>
  cases h2 : bookB b with
  | false => exact e0.mono fun k ⟨e1, e2⟩ => by simp only [spec_DeltaOf.f_eq, e1, e2, h1, h2, Option.bind_some, Bool.not_false, Bool.not_true, ifb_t, ifb_f, deltaOf, Bool.true_and, Bool.false_eq_true, if_false]
  | true =>
  obtain ⟨n1, n2⟩ := len_ok h1
  obtain ⟨n3, n4⟩ := len_ok h2
  have sA : Sm a.2.length := by unfold Sm; omega
  have sB : Sm b.2.length := by unfold Sm; omega
  have sF : Sm a.1.length := by unfold Sm; omega
  have two : ∀ (t : List En) (i : Nat) (g : List ByteArray) (c : List En), b.2.drop i = t → c ++ (t.filter fun e => newE a.2 e) = comesOf a b → c.length ≤ i →
      Al2 fun k k1 => spec_DeltaOf.L11 k k1 a b ([], [], false, []) (g, c, false, []) (i : Int) = some (g, comesOf a b, !decide (a.1 = b.1), if a.1 = b.1 then [] else b.1) := by
    intro t
    induction t with
    | nil =>
      intro i g c hd hc hl
      refine Al2.succ ((spec_l5Affixes_al a.1 b.1 sF).fst.mono fun k k1 e => ?_)
      rw [List.filter_nil, List.append_nil] at hc
      subst hc
      have m1 : decide ((([] : List Aff).length + b.1.length) * 72 ≤ rowMax) = true := decide_eq_true (by simp [rowMax]; omega)
      simp only [spec_DeltaOf.L11_eq, at_end (drop_nil hd), ifb_f, e, Option.bind_some, m1, ifb_t, List.nil_append]
      by_cases h : a.1 = b.1 <;> simp [h, ifb_t, ifb_f]
    | cons x t ih =>
      intro i g c hd hc hl
      obtain ⟨hi, g1, g2⟩ := drop_cons zE hd
      obtain ⟨c1, c2, c3, c4⟩ := at_i hi sB
      have m1 : decide ((c.length + [x].length) * 32 ≤ rowMax) = true := decide_eq_true (by simp [rowMax]; omega)
      have r0 : decide ((0 : Int) ≤ (atE a.2 x.1 : Int)) = true := decide_eq_true (by omega)
      cases hn : newE a.2 x with
      | true =>
        rw [List.filter_cons_of_pos (by simpa using hn)] at hc
        refine Al2.succ (((spec_l5At_al a.2 x.1 sA).snd.and (ih (i + 1) g (c ++ [x]) g2 (by simpa using hc) (by simp; omega))).mono fun k k1 ⟨e1, e2⟩ => ?_)
        cases ht : thereE a.2 x.1 with
        | false => simp only [spec_DeltaOf.L11_eq, c1, c2, c3, w64, c4, g1, Bool.and_self, ifb_t, e1, Option.bind_some, ht, Bool.not_false, m1, e2]
        | true =>
          have r1 : decide ((atE a.2 x.1 : Int) < (a.2.length : Int)) = true := decide_eq_true (by have := there_at ht; omega)
          have hne : decide (a.2.getD (atE a.2 x.1) zE = x) = false := by simpa [newE, ht] using hn
          simp only [spec_DeltaOf.L11_eq, c1, c2, c3, w64, c4, g1, Bool.and_self, ifb_t, e1, Option.bind_some, ht, Bool.not_true, ifb_f, r0, r1, Int.toNat_natCast, ent_beq', hne, Bool.not_false, m1, e2]
      | false =>
        rw [List.filter_cons_of_neg (by simpa using hn)] at hc
        refine Al2.succ (((spec_l5At_al a.2 x.1 sA).snd.and (ih (i + 1) g c g2 hc (by omega))).mono fun k k1 ⟨e1, e2⟩ => ?_)
        have ht : thereE a.2 x.1 = true := by
          cases h : thereE a.2 x.1 with
          | true => rfl
          | false => simp [newE, h] at hn
        have r1 : decide ((atE a.2 x.1 : Int) < (a.2.length : Int)) = true := decide_eq_true (by have := there_at ht; omega)
        have hne : decide (a.2.getD (atE a.2 x.1) zE = x) = true := by simpa [newE, ht] using hn
        simp only [spec_DeltaOf.L11_eq, c1, c2, c3, w64, c4, g1, Bool.and_self, ifb_t, e1, Option.bind_some, ht, Bool.not_true, ifb_f, r0, r1, Int.toNat_natCast, ent_beq', hne, e2]
  have one : ∀ (t : List En) (i : Nat) (g : List ByteArray), a.2.drop i = t → g ++ ((t.filter fun e => !thereE b.2 e.1).map fun e => e.1) = goesOf a b → g.length ≤ i →
      Al2 fun k k1 => spec_DeltaOf.L5 k k1 a b ([], [], false, []) (g, [], false, []) (i : Int) = some (goesOf a b, comesOf a b, !decide (a.1 = b.1), if a.1 = b.1 then [] else b.1) := by
    intro t
    induction t with
    | nil =>
      intro i g hd hg hl
      refine Al2.succ ((two b.2 0 g [] rfl (by simp [comesOf]) (by simp)).diag.fst.mono fun k k1 e => ?_)
      simp only [List.filter_nil, List.map_nil, List.append_nil] at hg
      subst hg
      simp only [spec_DeltaOf.L5_eq, at_end (drop_nil hd), ifb_f]
      exact e
    | cons x t ih =>
      intro i g hd hg hl
      obtain ⟨hi, g1, g2⟩ := drop_cons zE hd
      obtain ⟨c1, c2, c3, c4⟩ := at_i hi sA
      have m1 : decide ((g.length + [x.1].length) * 16 ≤ rowMax) = true := decide_eq_true (by simp [rowMax]; omega)
      cases ht : thereE b.2 x.1 with
      | false =>
        rw [List.filter_cons_of_pos (by simp [ht])] at hg
        refine Al2.succ (((spec_l5At_al b.2 x.1 sB).snd.and (ih (i + 1) (g ++ [x.1]) g2 (by simpa using hg) (by simp; omega))).mono fun k k1 ⟨e1, e2⟩ => ?_)
        simp only [spec_DeltaOf.L5_eq, c1, c2, c3, w64, c4, g1, Bool.and_self, ifb_t, e1, Option.bind_some, ht, Bool.not_false, m1, e2]
      | true =>
        rw [List.filter_cons_of_neg (by simp [ht])] at hg
        refine Al2.succ (((spec_l5At_al b.2 x.1 sB).snd.and (ih (i + 1) g g2 hg (by omega))).mono fun k k1 ⟨e1, e2⟩ => ?_)
        simp only [spec_DeltaOf.L5_eq, c1, c2, c3, w64, c4, g1, Bool.and_self, ifb_t, e1, Option.bind_some, ht, Bool.not_true, ifb_f, e2]
  refine (e0.and (one a.2 0 [] rfl (by simp [goesOf]) (by simp)).diag).mono fun k ⟨⟨e1, e2⟩, e3⟩ => ?_
  simp only [spec_DeltaOf.f_eq, e1, e2, h1, h2, Option.bind_some, Bool.not_true, ifb_f, deltaOf, Bool.and_self, if_true]
  exact e3
end Go.Proofs.YtabindnaedchgaaDoor.Rf
end

section
/- Draws: books and deltas of any kind. -/
namespace Go.Proofs.YtabindnaedchgaaDoor.Rf
open Go Go.RowKit
set_option linter.unusedVariables false
set_option linter.unusedSimpArgs false
theorem bq_t {v c : Int} (h : v = c) : (v == c) = true := by simp [h]
theorem bq_f {v c : Int} (h : ¬ v = c) : (v == c) = false := by simp [h]
theorem anyAffix_dr {m : Int} {x : Rdr} (h : Rd m x) (hm : m ≤ 800000000) : Dr (fun k => spec_l13AnyAffix.f k x) (m + 3) affS := by
  refine Dr.congr (fun k => spec_l13AnyAffix.f_eq k x) (Dr.bind (affix_dr h (by omega)) fun a y ha hy => ?_)
  refine Dr.bind (pick_dr hy (by omega) 12 (by omega) (by omega)) fun v z hv hz => ?_
  by_cases c0 : v = 0
  · simp only [bq_t c0, ifb_t]
    refine Dr.bind (of_dr hz (by omega) _ (by simp) (by simp)) fun s u hs hu => ?_
    have h8 : s.size ≤ 8 := by
      simp only [List.mem_cons, List.not_mem_nil, or_false] at hs
      rcases hs with rfl | rfl | rfl | rfl <;> decide
    exact Dr.now (v := (s, a.2)) (x := u) (fun k => rfl) ⟨h8, ha.2⟩ (hu.up (by omega))
  simp only [bq_f c0, ifb_f]
  by_cases c1 : v = 1
  · simp only [bq_t c1, ifb_t]
    refine Dr.bind (of_dr hz (by omega) _ (by simp) (by simp)) fun s u hs hu => ?_
    have h8 : s.size ≤ 8 := by
      simp only [List.mem_cons, List.not_mem_nil, or_false] at hs
      rcases hs with rfl | rfl | rfl | rfl <;> decide
    exact Dr.now (v := (a.1, a.2.1, s, a.2.2.2)) (x := u) (fun k => rfl) ⟨ha.1, h8, ha.2.2⟩ (hu.up (by omega))
  simp only [bq_f c1, ifb_f]
  by_cases c2 : v = 2
  · simp only [bq_t c2, ifb_t]
    refine Dr.bind (of_dr hz (by omega) _ (by simp) (by simp)) fun s u hs hu => ?_
    have h8 : s.size ≤ 8 := by
      simp only [List.mem_cons, List.not_mem_nil, or_false] at hs
      rcases hs with rfl | rfl | rfl | rfl <;> decide
    exact Dr.now (v := (a.1, a.2.1, a.2.2.1, a.2.2.2.1, s)) (x := u) (fun k => rfl) ⟨ha.1, ha.2.1, ha.2.2.1, h8⟩ (hu.up (by omega))
  simp only [bq_f c2, ifb_f]
  by_cases c3 : v = 3
  · simp only [bq_t c3, ifb_t]
    exact Dr.now (v := (a.1, !a.2.1, a.2.2)) (x := z) (fun k => rfl) ha (hz.up (by omega))
  simp only [bq_f c3, ifb_f]
  exact Dr.now (v := a) (x := z) (fun k => rfl) ha (hz.up (by omega))
theorem mem_snoc {α : Type} {P : α → Prop} {l : List α} {a : α} (h : ∀ x ∈ l, P x) (ha : P a) : ∀ x ∈ l ++ [a], P x := fun x hx => (List.mem_append.1 hx).elim (h x) fun e => by rw [List.mem_singleton.1 e]; exact ha
def wordsS (n : Nat) (l : List ByteArray) : Prop := l.length ≤ n ∧ ∀ s ∈ l, s.size ≤ 16
def deltaS (n : Nat) (d : Delta) : Prop := wordsS n d.1 ∧ entsS n d.2.1 ∧ affsS n d.2.2.2
theorem smB_S {b : Book} (h : bookS 60 b) : smB b := by
  have l1 := h.1.1
  have l2 := h.2.1
  refine ⟨⟨by omega, fun a ha => ?_⟩, by omega, fun e he => ?_⟩
  · have := h.1.2 a ha; unfold affS at this; unfold smA Sm; omega
  · have := h.2.2 e he; unfold entS at this; unfold smE Sm; omega
theorem smD_S {d : Delta} (h : deltaS 60 d) : smD d := by
  have l1 := h.1.1
  have l2 := h.2.1.1
  have l3 := h.2.2.1
  refine ⟨⟨by omega, fun s hs => ?_⟩, ⟨by omega, fun e he => ?_⟩, by omega, fun a ha => ?_⟩
  · have := h.1.2 s hs; unfold Sm; omega
  · have := h.2.1.2 e he; unfold entS at this; unfold smE Sm; omega
  · have := h.2.2.2 a ha; unfold affS at this; unfold smA Sm; omega
theorem bookS.up {n m : Nat} {b : Book} (h : bookS n b) (k : n ≤ m) : bookS m b := ⟨⟨Nat.le_trans h.1.1 k, h.1.2⟩, Nat.le_trans h.2.1 k, h.2.2⟩
theorem deltaS.up {n m : Nat} {d : Delta} (h : deltaS n d) (k : n ≤ m) : deltaS m d := ⟨⟨Nat.le_trans h.1.1 k, h.1.2⟩, ⟨Nat.le_trans h.2.1.1 k, h.2.1.2⟩, Nat.le_trans h.2.2.1 k, h.2.2.2⟩
theorem deltaOf_S {n : Nat} {a b : Book} (ha : bookS n a) (hb : bookS n b) : deltaS n (deltaOf a b) := by
  unfold deltaOf
  split
  · refine ⟨⟨?_, fun s hs => ?_⟩, ⟨?_, fun e he => ?_⟩, ?_⟩
    · simp only [goesOf, List.length_map]
      exact Nat.le_trans (List.length_filter_le _ _) ha.2.1
    · simp only [goesOf, List.mem_map] at hs
      obtain ⟨e, he, rfl⟩ := hs
      exact (ha.2.2 e (List.mem_filter.1 he).1).1
    · exact Nat.le_trans (List.length_filter_le _ _) hb.2.1
    · exact hb.2.2 e (List.mem_filter.1 he).1
    · show affsS n (if a.1 = b.1 then [] else b.1)
      split
      · exact ⟨by simp, fun a ha => by simp at ha⟩
      · exact hb.1
  · exact ⟨⟨by simp, fun s hs => by simp at hs⟩, ⟨by simp, fun s hs => by simp at hs⟩, by simp [affsS]⟩
theorem delta_dr {m : Int} {x : Rdr} (h : Rd m x) (hm : m ≤ 300000000) : Dr (fun k => spec_l13Delta.f k x) (m + 500) (deltaS 50) := by
  refine Dr.congr (fun k => spec_l13Delta.f_eq k x) (Dr.bind (book_dr h (by omega)) fun a y ha hy => ?_)
  refine Dr.bind (book_dr hy (by omega)) fun b z hb hz => ?_
  refine Dr.bindv (spec_DeltaOf_al a b (smB_S (ha.up (by omega))) (smB_S (hb.up (by omega)))) ?_
  have hd := deltaOf_S ha hb
  refine Dr.bind (pick_dr hz (by omega) 3 (by omega) (by omega)) fun v u hv hu => ?_
  by_cases c0 : v = 0
  · simp only [bq_t c0, ifb_t]
    exact Dr.now (v := ([], (deltaOf a b).2)) (x := u) (fun k => rfl) ⟨⟨by simp, fun s hs => by simp at hs⟩, hd.2⟩ (hu.up (by omega))
  · simp only [bq_f c0, ifb_f]
    exact Dr.now (v := deltaOf a b) (x := u) (fun k => rfl) hd (hu.up (by omega))
theorem anyDelta_dr {m : Int} {x : Rdr} (h : Rd m x) (hm : m ≤ 200000000) : Dr (fun k => spec_l13AnyDelta.f k x) (m + 600) (deltaS 51) := by
  refine Dr.congr (fun k => spec_l13AnyDelta.f_eq k x) (Dr.bind (delta_dr h (by omega)) fun d y hd hy => ?_)
  have hd1 : deltaS 51 d := hd.up (by omega)
  have l1 := hd.1.1
  have l2 := hd.2.1.1
  have l3 := hd.2.2.1
  refine Dr.bind (pick_dr hy (by omega) 12 (by omega) (by omega)) fun v z hv hz => ?_
  by_cases c0 : v = 0
  · have m0 : decide ((([] : List ByteArray).length + d.1.length) * 16 ≤ rowMax) = true := decide_eq_true (by simp [rowMax]; omega)
    simp only [bq_t c0, ifb_t, m0]
    refine Dr.bind (anyWord_dr hz (by omega)) fun s u hs hu => ?_
    have m1 : decide ((([] ++ d.1).length + [s].length) * 16 ≤ rowMax) = true := decide_eq_true (by simp [rowMax]; omega)
    simp only [m1, ifb_t]
    exact Dr.now (v := (([] ++ d.1) ++ [s], d.2)) (x := u) (fun k => rfl) ⟨⟨by simp; omega, mem_snoc hd.1.2 (Nat.le_trans hs (by omega))⟩, hd1.2⟩ (hu.up (by omega))
  simp only [bq_f c0, ifb_f]
  by_cases c1 : v = 1
  · have m0 : decide ((([] : List En).length + d.2.1.length) * 32 ≤ rowMax) = true := decide_eq_true (by simp [rowMax]; omega)
    simp only [bq_t c1, ifb_t, m0]
    refine Dr.bind (anyWord_dr hz (by omega)) fun s u hs hu => ?_
    refine Dr.bind (entry_dr s (Nat.le_trans hs (by omega)) hu (by omega)) fun e w he hw => ?_
    have m1 : decide ((([] ++ d.2.1).length + [e].length) * 32 ≤ rowMax) = true := decide_eq_true (by simp [rowMax]; omega)
    simp only [m1, ifb_t]
    exact Dr.now (v := (d.1, ([] ++ d.2.1) ++ [e], d.2.2)) (x := w) (fun k => rfl) ⟨hd1.1, ⟨by simp; omega, mem_snoc hd.2.1.2 he⟩, hd1.2.2⟩ (hw.up (by omega))
  simp only [bq_f c1, ifb_f]
  by_cases c2 : v = 2
  · simp only [bq_t c2, ifb_t]
    exact Dr.now (v := (d.1, d.2.1, !d.2.2.1, d.2.2.2)) (x := z) (fun k => rfl) hd1 (hz.up (by omega))
  simp only [bq_f c2, ifb_f]
  by_cases c3 : v = 3
  · have m0 : decide ((([] : List Aff).length + d.2.2.2.length) * 72 ≤ rowMax) = true := decide_eq_true (by simp [rowMax]; omega)
    simp only [bq_t c3, ifb_t, m0]
    refine Dr.bind (anyAffix_dr hz (by omega)) fun a u ha hu => ?_
    have m1 : decide ((([] ++ d.2.2.2).length + [a].length) * 72 ≤ rowMax) = true := decide_eq_true (by simp [rowMax]; omega)
    simp only [m1, ifb_t]
    exact Dr.now (v := (d.1, d.2.1, d.2.2.1, ([] ++ d.2.2.2) ++ [a])) (x := u) (fun k => rfl) ⟨hd1.1, hd1.2.1, by simp; omega, mem_snoc hd.2.2.2 ha⟩ (hu.up (by omega))
  simp only [bq_f c3, ifb_f]
  exact Dr.now (v := d) (x := z) (fun k => rfl) hd1 (hz.up (by omega))
end Go.Proofs.YtabindnaedchgaaDoor.Rf
end

section
/- The laws' own words: the same deltas; two books drawn. -/
namespace Go.Proofs.YtabindnaedchgaaDoor.Rf
open Go Go.RowKit
set_option linter.unusedVariables false
set_option linter.unusedSimpArgs false
theorem mdTexts_refl (l : List ByteArray) (hS : Sm l.length) : Al fun k => laws_mdTexts.f k l l = some true := by
  have key : ∀ (t : List ByteArray) (i : Nat), l.drop i = t → Al2 fun k k1 => laws_mdTexts.L4 k k1 l l (i : Int) = some true := by
    intro t
    induction t with
    | nil =>
      intro i hd
      refine Al2.succ (Al2.now fun k k1 => ?_)
      simp only [laws_mdTexts.L4_eq, at_end (drop_nil hd), ifb_f]
    | cons x t ih =>
      intro i hd
      obtain ⟨hi, g1, g2⟩ := drop_cons bz hd
      obtain ⟨c1, c2, c3, c4⟩ := at_i hi hS
      refine Al2.succ ((ih (i + 1) g2).mono fun k k1 e => ?_)
      simp only [laws_mdTexts.L4_eq, c1, c2, c3, w64, c4, g1, Bool.and_self, ifb_t, e, beq_self_eq_true, Bool.not_true, ifb_f]
  refine (key l 0 rfl).diag.mono fun k e => ?_
  rw [laws_mdTexts.f_eq, bne_self_eq_false, ifb_f]
  exact e
theorem mdDelta_refl (d : Delta) (h : smD d) : Al fun k => laws_mdDelta.f k d d = some true := by
  have s1 : Sm d.1.length := Nat.le_trans h.1.1 (by omega)
  have s2 : Sm d.2.1.length := Nat.le_trans h.2.1.1 (by omega)
  have s3 : Sm d.2.2.2.length := Nat.le_trans h.2.2.1 (by omega)
  refine ((mdTexts_refl d.1 s1).and (mdBook_al (d.2.2.2, d.2.1) (d.2.2.2, d.2.1) s3 s2)).mono fun k ⟨e1, e2⟩ => ?_
  rw [laws_mdDelta.f_eq, e1, Option.bind_some, ifb_t, beq_self_eq_true, ifb_t, e2, Option.bind_some, decide_eq_true rfl]
end Go.Proofs.YtabindnaedchgaaDoor.Rf
end

section
/- The law FnDeltaText is true. -/
namespace Go.Proofs.YtabindnaedchgaaDoor.Rf
open Go Go.RowKit
set_option linter.unusedVariables false
set_option linter.unusedSimpArgs false
theorem tD_S {n : Nat} {d : Delta} (h : deltaS n d) (hn : n ≤ 1000) : tD d := by
  have l1 := h.1.1
  have l2 := h.2.1.1
  have l3 := h.2.2.1
  refine ⟨⟨by omega, fun s hs => ?_⟩, ⟨by omega, fun e he => ?_⟩, by omega, fun a ha => ?_⟩
  · have := h.1.2 s hs; omega
  · have := h.2.1.2 e he; unfold entS at this; unfold tE; omega
  · have := h.2.2.2 a ha; unfold affS at this; unfold tA; omega
theorem drawDeltaPut_al (s : List Int) (hs : ∀ b ∈ s, 0 ≤ b ∧ b ≤ 255) : ∃ d, Al (fun k => spec_DrawDeltaPut.f k s = some d) ∧ deltaS 51 d := by
  obtain ⟨x, e0, h0⟩ := l1Open_al s hs
  obtain ⟨a, y, e1, ha, hy⟩ := anyDelta_dr h0 (by omega)
  refine ⟨a, (e0.and e1).mono fun k ⟨a0, a1⟩ => ?_, ha⟩
  have a1' : spec_l13AnyDelta.f k x = some (a, y) := a1
  simp only [spec_DrawDeltaPut.f_eq, a0, a1', Option.bind_some]
theorem dput_small {d : Delta} (h : deltaS 100 d) : (dput d).size ≤ 50000 := by
  unfold dput
  rw [size_mk]
  have h1 : ∀ p ∈ linesD d, p.length ≤ 60 := by
    intro p hp
    unfold linesD at hp
    rcases List.mem_append.1 hp with hp | hp
    · split at hp
      · rw [List.mem_singleton.1 hp]; decide
      · cases hp
    rcases List.mem_append.1 hp with hp | hp
    · obtain ⟨a, ha, rfl⟩ := List.mem_map.1 hp
      have h2 := h.2.2.2 a ha
      have h3 := sideL_len a.2.1
      unfold affS at h2
      simp only [size_bl] at h2
      simp only [affL, List.length_append, List.length_cons]
      omega
    rcases List.mem_append.1 hp with hp | hp
    · obtain ⟨s, hs, rfl⟩ := List.mem_map.1 hp
      have := h.1.2 s hs
      rw [size_bl] at this
      simp only [List.length_cons]; omega
    · obtain ⟨e, he, rfl⟩ := List.mem_map.1 hp
      have h2 := h.2.1.2 e he
      unfold entS at h2
      simp only [size_bl] at h2
      unfold entL
      split
      · simp only [List.length_cons]; omega
      · simp only [List.length_cons, List.length_append]; omega
  have h2 := nlB_len h1
  have h3 : (linesD d).length ≤ 301 := by
    have a1 := h.1.1
    have a2 := h.2.1.1
    have a3 := h.2.2.1
    unfold linesD
    simp only [List.length_append, List.length_map]
    split <;> simp <;> omega
  have : (linesD d).length * 61 ≤ 301 * 61 := Nat.mul_le_mul_right _ h3
  omega
/-- a text with something put in, or cut -/
theorem cut_dr {m : Int} {x : Rdr} (h : Rd m x) (hm : m ≤ 300000000) (t : ByteArray) (ht : t.size ≤ 900000) : Dr (fun k => spec_l13Cut.f k x t) (m + 3) (szN (t.size + 1)) := by
  have w1 : w64 ((t.size : Int) + 1) = (t.size : Int) + 1 := by rw [w64, w_id (by omega) (by omega)]
  refine Dr.congr (fun k => spec_l13Cut.f_eq k x t) ?_
  simp only [w1]
  refine Dr.bind (pick_dr h (by omega) ((t.size : Int) + 1) (by omega) (by omega)) fun v y hv hy => ?_
  refine Dr.bind (pick_dr hy (by omega) 5 (by omega) (by omega)) fun u z hu hz => ?_
  have b1 : (decide ((0 : Int) ≤ 0) && (decide ((0 : Int) ≤ v) && decide (v ≤ (t.size : Int)))) = true := by
    rw [decide_eq_true (show (0 : Int) ≤ 0 by omega), decide_eq_true (show (0 : Int) ≤ v by omega), decide_eq_true (show v ≤ (t.size : Int) by omega)]; rfl
  have z1 : (t.extract (0 : Int).toNat v.toNat).size ≤ v.toNat := by rw [ByteArray.size_extract]; show min v.toNat t.size - 0 ≤ _; omega
  by_cases c0 : u = 0
  · simp only [bq_t c0, ifb_t, b1]
    refine Dr.bind (of_dr hz (by omega) _ (by simp) (by simp)) fun s w hs hw => ?_
    have h1 : s.size ≤ 1 := by
      simp only [List.mem_cons, List.not_mem_nil, or_false] at hs
      rcases hs with rfl | rfl | rfl | rfl | rfl | rfl | rfl | rfl <;> decide
    have z2 : (t.extract v.toNat (t.size : Int).toNat).size = t.size - v.toNat := by rw [ByteArray.size_extract]; simp
    have b2 : (decide ((0 : Int) ≤ v) && (decide (v ≤ (t.size : Int)) && decide ((t.size : Int) ≤ (t.size : Int)))) = true := by
      rw [decide_eq_true (show (0 : Int) ≤ v by omega), decide_eq_true (show v ≤ (t.size : Int) by omega), decide_eq_true (Int.le_refl (t.size : Int))]; rfl
    have z3 : ((t.extract (0 : Int).toNat v.toNat) ++ s).size ≤ v.toNat + 1 := by rw [ByteArray.size_append]; omega
    simp only [fitB_t (show (t.extract (0 : Int).toNat v.toNat).size + s.size ≤ 9223372036854775807 by omega), b2, ifb_t, fitB_t (show ((t.extract (0 : Int).toNat v.toNat) ++ s).size + (t.extract v.toNat (t.size : Int).toNat).size ≤ 9223372036854775807 by omega)]
    exact Dr.now (x := w) (fun k => rfl) (by show ByteArray.size _ ≤ _; rw [ByteArray.size_append, z2]; omega) (hw.up (by omega))
  · simp only [bq_f c0, ifb_f]
    by_cases c1 : u = 1
    · simp only [bq_t c1, ifb_t, b1]
      exact Dr.now (x := z) (fun k => rfl) (by show ByteArray.size _ ≤ _; omega) (hz.up (by omega))
    · simp only [bq_f c1, ifb_f]
      exact Dr.now (x := z) (fun k => rfl) (by show ByteArray.size _ ≤ _; omega) (hz.up (by omega))
theorem drawDeltaGet_al (s : List Int) (hs : ∀ b ∈ s, 0 ≤ b ∧ b ≤ 255) : ∃ t, Al (fun k => spec_DrawDeltaGet.f k s = some t) ∧ t.size ≤ 30000000 := by
  obtain ⟨x, e0, h0⟩ := l1Open_al s hs
  obtain ⟨d, y, e1, hd, hy⟩ := delta_dr h0 (by omega)
  have td := tD_S hd (by omega)
  have hz := dput_small (hd.up (show 50 ≤ 100 by omega))
  obtain ⟨t, z, e2, ht, hz'⟩ := cut_dr hy (by omega) (dput d) (by omega)
  refine ⟨t, ((e0.and e1).and ((spec_l5Put_al d td).and e2)).mono fun k ⟨⟨a0, a1⟩, a2, a3⟩ => ?_, by unfold szN at ht; omega⟩
  have a1' : spec_l13Delta.f k x = some (d, y) := a1
  have a3' : spec_l13Cut.f k y (dput d) = some (t, z) := a3
  simp only [spec_DrawDeltaGet.f_eq, a0, a1', a2, a3', Option.bind_some]
theorem readD_sm (x : ByteArray) (h : x.size ≤ 50000000) : smD (readD x).1 := by
  rcases readD_cases x with e | ⟨_, h2, _⟩
  · rw [e]
    exact ⟨⟨by simp [d0], fun s hs => by simp [d0] at hs⟩, ⟨by simp [d0], fun s hs => by simp [d0] at hs⟩, by simp [d0], fun s hs => by simp [d0] at hs⟩
  · obtain ⟨⟨a1, a2⟩, ⟨a3, a4⟩, a5, a6⟩ := tD_of h2
    refine ⟨⟨by omega, fun s hs => ?_⟩, ⟨by omega, fun e he => ?_⟩, by omega, fun a ha => ?_⟩
    · have := a2 s hs; unfold Sm; omega
    · have := a4 e he; unfold tE at this; unfold smE Sm; omega
    · have := a6 a ha; unfold tA at this; unfold smA Sm; omega
theorem readD_bz : readD bz = (d0, true) := by
  have h1 : deltaB d0 = true := by decide
  have h2 : dput d0 = bz := bl_inj rfl
  show resD d0 bz = _
  unfold resD
  rw [h1, h2, decide_eq_true rfl]
  rfl
theorem FnDeltaText_pure (s t : List Int) (hs : goodT (.row (.int .u8)) s) (ht : goodT (.row (.int .u8)) t) : ∃ k, laws_FnDeltaText.f k s t = some true := by
  by_cases hl : (s.length : Int) > 1048576
  · exact ⟨0, by rw [laws_FnDeltaText.f_eq, decide_eq_true hl, ifb_t]⟩
  by_cases hl2 : (t.length : Int) > 1048576
  · exact ⟨0, by rw [laws_FnDeltaText.f_eq, decide_eq_false hl, ifb_f, decide_eq_true hl2, ifb_t]⟩
  obtain ⟨d, e0, hD⟩ := drawDeltaPut_al s fun b hb => u8_of (hs.2 b hb)
  obtain ⟨x, e1, hX⟩ := drawDeltaGet_al t fun b hb => u8_of (ht.2 b hb)
  have md := smD_S (hD.up (show 51 ≤ 60 by omega))
  have td := tD_S hD (by omega)
  have hz := dput_size td
  have hp : (putD d).size ≤ 20000000 := by
    unfold putD
    split
    · exact hz
    · show 0 ≤ _; omega
  have J10 : Al fun k => laws_FnDeltaText.J10 k x (readD x).1 (readD x).2 = some true := by
    have f1 := (spec_DeltaGet_rd x (by omega)).and (mdDelta_refl (readD x).1 (readD_sm x (by omega)))
    rcases readD_cases x with e | ⟨h1, h2, h3⟩
    · refine Al.succ (f1.mono fun k ⟨a0, a1⟩ => ?_)
      simp only [laws_FnDeltaText.J10_eq, a0, a1, beq_self_eq_true, ifb_t, Option.bind_some]
      rw [e]
      simp only [Bool.not_false, ifb_t]
    · have hput := impl_DeltaPut_al (readD x).1 (readD_sm x (by omega)) (tD_of h2)
      rw [putD, if_pos h2, h3] at hput
      refine Al.succ ((f1.and hput).mono fun k ⟨⟨a0, a1⟩, a2⟩ => ?_)
      simp only [laws_FnDeltaText.J10_eq, a0, a1, beq_self_eq_true, ifb_t, Option.bind_some, h1, Bool.not_true, ifb_f, a2]
  have J6 : Al fun k => laws_FnDeltaText.J6 k t d (putD d) (readD (putD d)).1 (readD (putD d)).2 = some true := by
    have f1 := ((spec_DeltaPut_al d md td).and (spec_DeltaOk_al d md)).and ((mdDelta_refl d md).and (e1.and ((impl_DeltaGet_rd x (by omega)).and J10)))
    refine Al.succ (f1.mono fun k ⟨⟨a0, a1⟩, a2, a3, a4, a5⟩ => ?_)
    cases hd : deltaB d with
    | true =>
      have hr : readD (putD d) = (d, true) := by unfold putD; rw [if_pos hd]; exact (read_put hd).1
      simp only [laws_FnDeltaText.J6_eq, a0, a1, hd, hr, beq_self_eq_true, Bool.not_true, ifb_f, ifb_t, Option.bind_some, a2, a3, a4, a5]
    | false =>
      have hr : readD (putD d) = (d0, true) := by unfold putD; rw [hd]; exact readD_bz
      simp only [laws_FnDeltaText.J6_eq, a0, a1, hd, hr, beq_self_eq_true, Bool.not_true, ifb_f, Option.bind_some, a3, a4, a5]
  refine ((e0.and (((impl_DeltaPut_al d md td).and (impl_DeltaGet_rd (putD d) (by omega))).and J6)).mono fun k ⟨a0, ⟨a1, a2⟩, a3⟩ => ?_).get
  simp only [laws_FnDeltaText.f_eq, decide_eq_false hl, decide_eq_false hl2, ifb_f, a0, a1, a2, Option.bind_some, a3]
end Go.Proofs.YtabindnaedchgaaDoor.Rf
end

section
/- What a row that lists package variables gives, and that these read behind a call as before. -/
namespace Go.Proofs.YtabindnaedchgaaDoor.Frame
open Go.RowKit Go.ChangeShapes
set_option linter.unusedVariables false

theorem tabIs_of_vars {P : Program} {W : World} {name : String} {k : IntKind} {zs : List Int} {g : Nat} {t e : TypeId} {n : Nat}
    (hg : P.globalNamed name = some g) (hty : (P.globals[g]?).map (·.type) = some t) (ht : P.underlying t = some (.array n e)) (he : P.underlying e = some (.int k)) (hce : P.cellsOf e = 1) (hct : P.cellsOf t = n) :
    ∀ (l : List (String × DataW Unit)) (ps : List MemPlace), DataW.LaidVars P W l ps → (name, Lib.tabData k zs) ∈ l → Lib.TabIs P W name k zs
  | [], _, _, hm => by simp at hm
  | (n', d') :: rest, ps, ⟨g', t', cs, fuel, p, q, hg', ht', hvar, hd, hrest, _⟩, hm => by
    rcases List.mem_cons.1 hm with h | h
    · injection h with h1 h2
      subst h1
      subst h2
      obtain rfl := Option.some.inj (hg.symm.trans hg')
      obtain rfl := Option.some.inj (hty.symm.trans ht')
      unfold Lib.TabIs
      rw [hvar, ← Lib.cells_of_tab ht he hce hct hd]
    · exact tabIs_of_vars hg hty ht he hce hct rest q hrest h
theorem tabIs_of_mem {P : Program} {W : World} {name : String} {k : IntKind} {zs : List Int} {g : Nat} {t e : TypeId} {n : Nat} {l : List (String × DataW Unit)}
    (hg : P.globalNamed name = some g) (hty : (P.globals[g]?).map (·.type) = some t) (ht : P.underlying t = some (.array n e)) (he : P.underlying e = some (.int k)) (hce : P.cellsOf e = 1) (hct : P.cellsOf t = n)
    (h : laidMet P l W) (hm : (name, Lib.tabData k zs) ∈ l) : Lib.TabIs P W name k zs := by
  obtain ⟨ps, hv, _⟩ := h
  exact tabIs_of_vars hg hty ht he hce hct l ps hv hm
theorem varBelow {P : Program} {W W' : World} {n : String} {cs : Array Value} (h : Below W.heap.size W W') (hv : W.var? P n = some cs) : W'.var? P n = some cs := by
  unfold World.var? at hv ⊢
  cases hg : P.globalNamed n with
  | none => simp [hg] at hv
  | some g =>
    simp only [hg, Option.bind_some] at hv ⊢
    have hlt : g < W.heap.size := by
      rcases Nat.lt_or_ge g W.heap.size with h' | h'
      · exact h'
      · rw [Array.getElem?_eq_none h'] at hv
        simp at hv
    rw [h.block g hlt]
    exact hv
/-- The named variables read behind the call as they read before. -/
theorem trodVars_below {H : Type} {enc : TypeId × Value → H} {P : Program} (hl : laidOutB P = true) {W W' : World} (hb : Below W.heap.size W W') :
    ∀ (vars : List String) (gs : List (DataW H)) (q : List MemPlace), DataW.TrodVars enc P W (fun _ => true) vars gs q →
      (∀ n ∈ vars, ∀ g t, P.globalNamed n = some g → (P.globals[g]?).map (·.type) = some t → P.readableRec t = true ∧ t < P.types.size) →
      ∃ pv, DataW.TrodVars enc P W' (fun b => decide (b < W.heap.size)) vars gs pv
  | [], [], q, h, _ => ⟨q, h⟩
  | [], _ :: _, q, h, _ => by simp [DataW.TrodVars] at h
  | _ :: _, [], q, h, _ => by simp [DataW.TrodVars] at h
  | n :: ns, d :: ds, ps, ⟨g, t, cs, fuel, p, q, hg, ht, hvar, hd, hrest, _⟩, hr => by
    obtain ⟨pv, hpv⟩ := trodVars_below hl hb ns ds q hrest (fun m hm => hr m (List.mem_cons_of_mem _ hm))
    obtain ⟨h1, h2⟩ := hr n List.mem_cons_self g t hg ht
    have hT : DataW.Trod enc P W 0 (fun _ => true) true t (.agg cs) d p := ⟨fuel, hd⟩
    obtain ⟨fuel', hd'⟩ := Below.trod hl h1 h2 hT hb (fun x hx => DataW.trod_lt fuel _ _ _ hd x hx)
    exact ⟨_, g, t, cs, fuel', p, pv, hg, ht, varBelow hb hvar, hd', hpv, rfl⟩
theorem trodVars_cons' {H : Type} {enc : TypeId × Value → H} {P : Program} {W : World} {sp : Nat → Bool} {n : String} {ns : List String} {gs : List (DataW H)} {q : List MemPlace} (h : DataW.TrodVars enc P W sp (n :: ns) gs q) :
    ∃ d ds q', gs = d :: ds ∧ DataW.TrodVars enc P W sp ns ds q' := by
  cases gs with
  | nil => simp [DataW.TrodVars] at h
  | cons d ds =>
    obtain ⟨g, t, cs, fuel, p, q', _, _, _, _, hrest, _⟩ := h
    exact ⟨d, ds, q', rfl, hrest⟩
end Go.Proofs.YtabindnaedchgaaDoor.Frame
end

section
/- 'FnDeltaText': for every input it returns true and its arguments read as before. Conditions: those of the given row alone (the listed package variables as the program's text lays them). -/
namespace Go.Proofs.YtabindnaedchgaaDoor.fnDeltaText
open Go.ChangeShapes Go.WideShapes Go.ChangeAt Go.RowKit
open Go.Proofs.YtabindnaedchgaaDoor.Rf Go.Proofs.YtabindnaedchgaaDoor.Frame
set_option linter.unusedVariables false
theorem own : ownKnob Tryd.prog.godebug = none := by kernel_rfl
theorem laidOut : laidOutB Tryd.prog = true := by kernel_rfl
set_option maxRecDepth 100000 in
theorem contract (H : Type) (enc : TypeId × Value → H) (W : World) (base : Nat) (args : Array Value) (ds gs : List (DataW H)) (before : List MemPlace)
    (hval0 : ∀ (j : Nat) t v, Tryd.f4.params[j]? = some t → args[j]? = some v → Value.okWide Tryd.prog W .any base t v)
    (hW : DataW.Whole enc Tryd.prog Tryd.f4.params.toList Rows.fnDeltaTextSpec.vars false W args.toList ds gs before)
    (hsz0 : (DataW.weightsEach Tryd.prog (Tryd.f4.params.toList ++ (OpenSpec.ofChange Rows.fnDeltaTextSpec).bare.plain.varTypes Tryd.prog) (ds ++ gs)).all (· ≤ reachBytes) = true)
    (hL : laidMetH Tryd.prog Rows.fnDeltaTextRow.laid W) (hsh : W.ShapedOpen Tryd.prog) :
    Calls Tryd.prog 4 args W fun e W' => ∃ v, e = .returned v ∧ Rows.fnDeltaTextSpec.post enc Tryd.prog Tryd.f4 false true false false W args v W' := by
  have hGm : ∃ x : Int, W.cell? ⟨0, 0, none⟩ = some (.int .i64 x) := Tryd.laysM146.s1_3 W hsh
  have hJ : Jp.J W := ⟨hGm⟩
  clear hsh hL
  have hsz := hsz0
  have hval := hval0
  have hW' := hW
  obtain ⟨p, q, hA0, hV, rfl, hfz, hnd⟩ := hW
  have hA : DataW.TrodAll enc Tryd.prog W 0 (fun _ => true) true Tryd.f4.params.toList args.toList ds p := hA0
  rw [Tryd.params4] at hA hval
  obtain ⟨v0, vs0, d0, ds0, p0, q0, hargs, rfl, rfl, h0, r0⟩ := trodAll_cons hA
  obtain ⟨v1, vs1, d1, ds1, p1, q1, rfl, rfl, rfl, h1, r1⟩ := trodAll_cons r0
  obtain ⟨rfl, rfl, rfl⟩ := trodAll_nil r1
  obtain rfl : args = #[v0, v1] := by cases args; simp_all
  have lt0 : ∀ x ∈ p0, x.block < W.heap.size := by obtain ⟨m, hm⟩ := h0; exact DataW.trod_lt m _ _ _ hm
  obtain ⟨x0, o0, G0⟩ := open_arg (τ := t32) (show tokB Tryd.prog t32 (.inl 32) = true by kernel_rfl) (hval 0 32 v0 rfl rfl) h0
  have lt1 : ∀ x ∈ p1, x.block < W.heap.size := by obtain ⟨m, hm⟩ := h1; exact DataW.trod_lt m _ _ _ hm
  obtain ⟨x1, o1, G1⟩ := open_arg (τ := t32) (show tokB Tryd.prog t32 (.inl 32) = true by kernel_rfl) (hval 1 32 v1 rfl rfl) h1
  obtain ⟨rfl, rfl⟩ := trodVars_none hV
  clear hA0 hval0 hsz0
  obtain ⟨k, hk⟩ := FnDeltaText_pure x0 x1 G0 G1
  refine (row_of (laws_FnDeltaText.snd k) rfl (x := (x0, x1)) (r := true) hk rfl (Jp_n hJ) hJ rfl ?_).mono fun e W' ⟨he, bel⟩ => ?_
  · intro i p s hp hs
    match i, hp, hs with
    | 0, _, hs => obtain rfl := Option.some.inj (show some (⟨t32, x0⟩ : Sv) = some s from hs); exact o0
    | 1, _, hs => obtain rfl := Option.some.inj (show some (⟨t32, x1⟩ : Sv) = some s from hs); exact o1
    | i + 2, hp, _ => simp at hp
  subst he
  exact ⟨_, rfl, _, _, _, [], _, [], hW', trodAll_mk1 (shut_bool Tryd.underlying4 _), (trodAll_cons_mk (Below.trod laidOut (by kernel_rfl) (of_decide_eq_true (by kernel_rfl)) h0 bel lt0) (trodAll_cons_mk (Below.trod laidOut (by kernel_rfl) (of_decide_eq_true (by kernel_rfl)) h1 bel lt1) trodAll_mk0)), rfl, bel.frame _, fun h => by cases h⟩
noncomputable def laidWorld (os : Os) : World := { World.holding Tryd.prog os ⟨#[], #[], []⟩ with heap := (((World.holding Tryd.prog os ⟨#[], #[], []⟩).heap.modify 2 fun | .cells _ t frozen => .cells #[.int .u8 128, .int .u8 191, .int .u8 160, .int .u8 191, .int .u8 128, .int .u8 159, .int .u8 144, .int .u8 191, .int .u8 128, .int .u8 143, .int .u8 0, .int .u8 0, .int .u8 0, .int .u8 0, .int .u8 0, .int .u8 0, .int .u8 0, .int .u8 0, .int .u8 0, .int .u8 0, .int .u8 0, .int .u8 0, .int .u8 0, .int .u8 0, .int .u8 0, .int .u8 0, .int .u8 0, .int .u8 0, .int .u8 0, .int .u8 0, .int .u8 0, .int .u8 0] t frozen | o => o).modify 1 fun | .cells _ t frozen => .cells #[.int .u8 240, .int .u8 240, .int .u8 240, .int .u8 240, .int .u8 240, .int .u8 240, .int .u8 240, .int .u8 240, .int .u8 240, .int .u8 240, .int .u8 240, .int .u8 240, .int .u8 240, .int .u8 240, .int .u8 240, .int .u8 240, .int .u8 240, .int .u8 240, .int .u8 240, .int .u8 240, .int .u8 240, .int .u8 240, .int .u8 240, .int .u8 240, .int .u8 240, .int .u8 240, .int .u8 240, .int .u8 240, .int .u8 240, .int .u8 240, .int .u8 240, .int .u8 240, .int .u8 240, .int .u8 240, .int .u8 240, .int .u8 240, .int .u8 240, .int .u8 240, .int .u8 240, .int .u8 240, .int .u8 240, .int .u8 240, .int .u8 240, .int .u8 240, .int .u8 240, .int .u8 240, .int .u8 240, .int .u8 240, .int .u8 240, .int .u8 240, .int .u8 240, .int .u8 240, .int .u8 240, .int .u8 240, .int .u8 240, .int .u8 240, .int .u8 240, .int .u8 240, .int .u8 240, .int .u8 240, .int .u8 240, .int .u8 240, .int .u8 240, .int .u8 240, .int .u8 240, .int .u8 240, .int .u8 240, .int .u8 240, .int .u8 240, .int .u8 240, .int .u8 240, .int .u8 240, .int .u8 240, .int .u8 240, .int .u8 240, .int .u8 240, .int .u8 240, .int .u8 240, .int .u8 240, .int .u8 240, .int .u8 240, .int .u8 240, .int .u8 240, .int .u8 240, .int .u8 240, .int .u8 240, .int .u8 240, .int .u8 240, .int .u8 240, .int .u8 240, .int .u8 240, .int .u8 240, .int .u8 240, .int .u8 240, .int .u8 240, .int .u8 240, .int .u8 240, .int .u8 240, .int .u8 240, .int .u8 240, .int .u8 240, .int .u8 240, .int .u8 240, .int .u8 240, .int .u8 240, .int .u8 240, .int .u8 240, .int .u8 240, .int .u8 240, .int .u8 240, .int .u8 240, .int .u8 240, .int .u8 240, .int .u8 240, .int .u8 240, .int .u8 240, .int .u8 240, .int .u8 240, .int .u8 240, .int .u8 240, .int .u8 240, .int .u8 240, .int .u8 240, .int .u8 240, .int .u8 240, .int .u8 240, .int .u8 240, .int .u8 240, .int .u8 241, .int .u8 241, .int .u8 241, .int .u8 241, .int .u8 241, .int .u8 241, .int .u8 241, .int .u8 241, .int .u8 241, .int .u8 241, .int .u8 241, .int .u8 241, .int .u8 241, .int .u8 241, .int .u8 241, .int .u8 241, .int .u8 241, .int .u8 241, .int .u8 241, .int .u8 241, .int .u8 241, .int .u8 241, .int .u8 241, .int .u8 241, .int .u8 241, .int .u8 241, .int .u8 241, .int .u8 241, .int .u8 241, .int .u8 241, .int .u8 241, .int .u8 241, .int .u8 241, .int .u8 241, .int .u8 241, .int .u8 241, .int .u8 241, .int .u8 241, .int .u8 241, .int .u8 241, .int .u8 241, .int .u8 241, .int .u8 241, .int .u8 241, .int .u8 241, .int .u8 241, .int .u8 241, .int .u8 241, .int .u8 241, .int .u8 241, .int .u8 241, .int .u8 241, .int .u8 241, .int .u8 241, .int .u8 241, .int .u8 241, .int .u8 241, .int .u8 241, .int .u8 241, .int .u8 241, .int .u8 241, .int .u8 241, .int .u8 241, .int .u8 241, .int .u8 241, .int .u8 241, .int .u8 2, .int .u8 2, .int .u8 2, .int .u8 2, .int .u8 2, .int .u8 2, .int .u8 2, .int .u8 2, .int .u8 2, .int .u8 2, .int .u8 2, .int .u8 2, .int .u8 2, .int .u8 2, .int .u8 2, .int .u8 2, .int .u8 2, .int .u8 2, .int .u8 2, .int .u8 2, .int .u8 2, .int .u8 2, .int .u8 2, .int .u8 2, .int .u8 2, .int .u8 2, .int .u8 2, .int .u8 2, .int .u8 2, .int .u8 2, .int .u8 19, .int .u8 3, .int .u8 3, .int .u8 3, .int .u8 3, .int .u8 3, .int .u8 3, .int .u8 3, .int .u8 3, .int .u8 3, .int .u8 3, .int .u8 3, .int .u8 3, .int .u8 35, .int .u8 3, .int .u8 3, .int .u8 52, .int .u8 4, .int .u8 4, .int .u8 4, .int .u8 68, .int .u8 241, .int .u8 241, .int .u8 241, .int .u8 241, .int .u8 241, .int .u8 241, .int .u8 241, .int .u8 241, .int .u8 241, .int .u8 241, .int .u8 241] t frozen | o => o) }
set_option maxRecDepth 100000 in
theorem laid_met (os : Os) : laidMet Tryd.prog Rows.fnDeltaTextRow.laid ((laidWorld os).forCall (fun _ _ => 0) ⟨#[], #[.slice none 0 0, .slice none 0 0], []⟩).memory :=
  laidMet_of_run' 12 (by kernel_rfl) (by kernel_rfl)
set_option maxRecDepth 100000 in
theorem reads (os : Os) {H : Type} (enc : TypeId × Value → H) : ∃ x, DataW.whole enc Tryd.prog ((laidWorld os).forCall (fun _ _ => 0) ⟨#[], #[.slice none 0 0, .slice none 0 0], []⟩).memory Tryd.f4.params.toList Rows.fnDeltaTextSpec.vars false #[(.slice none 0 0 : Value), (.slice none 0 0 : Value)].toList 12 = some x :=
  Option.isSome_iff_exists.1 (by kernel_rfl)
set_option maxRecDepth 100000 in
theorem lifted (os : Os) (started : os.Started) (H : Type) (enc : TypeId × Value → H) (F : Stop.Interp) :
    ReturnsInHanded {} Tryd.checked os 4 .any ((OpenSpec.ofChange Rows.fnDeltaTextSpec).preRow enc Tryd.prog Tryd.f4 Rows.fnDeltaTextRow.domain false Rows.fnDeltaTextRow.laid) (((OpenSpec.ofChange Rows.fnDeltaTextSpec).at F).post enc Tryd.prog Tryd.f4 false true false false) := by
  obtain ⟨x, hx⟩ := reads os enc
  refine returnsInHanded_of_row (C := Tryd.checked) (s := OpenSpec.ofChange Rows.fnDeltaTextSpec) own started (by kernel_rfl) Tryd.func4
    (witness_row_at (enc := enc) (C := Tryd.checked) false (laidWorld os) #[.slice none 0 0, .slice none 0 0] rfl (by kernel_rfl) (by kernel_rfl) (by kernel_rfl)
      (OpenSpec.preRow_of_cond 12 (x := x) hx (by kernel_rfl) (fun k hk => by cases hk) (by kernel_rfl) (laid_met os))) ?_
  intro W base args ds gs before hval hW _ _ hsz hL hsh _
  exact contract H enc W base args ds gs before hval hW hsz hL hsh
theorem said : Rows.FnDeltaTextSaid :=
  OpenClaim.holds_of_cond 4 Tryd.f4 rfl rfl rfl rfl rfl rfl rfl ⟨rfl, rfl, rfl, rfl, rfl⟩ rfl rfl rfl rfl rfl (by kernel_rfl) Tryd.func4 (by kernel_rfl)
    (of_decide_eq_true (by kernel_rfl)) (by unfold Func.isWrapper; first | (rw [if_pos (by decide +kernel)]; kernel_rfl) | (rw [if_neg (by decide +kernel)]; exact ⟨rfl, rfl⟩))
    (fun os started H enc _ F => by rw [OpenClaim.pre_eq_preRow]; exact lifted os started H enc F)
theorem plain (f : FuncId) (fn : Func) (hf : Tryd.pinned.checked.prog.funcNamed "loop.example/medlar/laws.FnDeltaText" = some f) (hfn : Tryd.pinned.checked.prog.funcs[f]? = some fn) :
    false = Tryd.pinned.checked.prog.looks [] ∧ ∀ (j : Nat) t, fn.params[j]? = some t → Tryd.pinned.checked.prog.wantsStandIn t = false := by
  obtain rfl : f = 4 := Option.some.inj ((show Tryd.prog.funcNamed "loop.example/medlar/laws.FnDeltaText" = some 4 by kernel_rfl).symm.trans hf) |>.symm
  obtain rfl : fn = Tryd.f4 := (Option.some.inj (Tryd.func4.symm.trans hfn)).symm
  refine ⟨by kernel_rfl, fun j t ht => ?_⟩
  rw [Tryd.params4] at ht
  have hm := Array.mem_of_getElem? ht
  simp only [List.mem_toArray, List.mem_cons, List.not_mem_nil, or_false] at hm
  rcases hm with rfl | rfl
  · exact (show Tryd.prog.wantsStandIn 32 = false by kernel_rfl)
  · exact (show Tryd.prog.wantsStandIn 32 = false by kernel_rfl)
theorem card : Rows.FnDeltaTextCardSaid :=
  Claim7.holds_tied_plain_at .later [] _ _ _ _ said (fun _ h => by cases h) (by kernel_rfl) (fun _ h => by cases h) fnDeltaText_row_tie rfl ⟨rfl, rfl⟩ (by kernel_rfl) rfl plain (by kernel_rfl)
end Go.Proofs.YtabindnaedchgaaDoor.fnDeltaText
namespace Go.Proofs.YtabindnaedchgaaDoor
/-- The card. -/
theorem fnDeltaText_holds : Rows.FnDeltaTextCardSaid := fnDeltaText.card
end Go.Proofs.YtabindnaedchgaaDoor
end
