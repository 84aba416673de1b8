import Derived.Test.YtjfkeknnjjlepaaGreatDoorKz1
import Derived.Lib.AtoiAll
import Derived.Lib.AtoiAllCases
import Derived.Laws.BitsLemmas
import Derived.Below
import Derived.Carry
import Derived.ChangeOld
import Derived.Lib.LaidTab
import Derived.ChangeShapes
import Derived.LaidLaws
import Derived.RowKitTokens
import Derived.Test.YtjfkeknnjjlepaaGreatDoorRows
import Derived.JoinedCond

section
/- Numbers written in decimals, by the reference: plain. -/
namespace Go.Proofs.YtjfkeknnjjlepaaGreatDoor.Rf
open Go Go.RowKit
set_option linter.unusedVariables false
set_option linter.unusedSimpArgs false
theorem qqw (d : Nat) (h : d < 10) : (UInt8.ofNat (48 + d)).toNat = 48 + d := by
  have : ∀ d : Fin 10, (UInt8.ofNat (48 + d.val)).toNat = 48 + d.val := by decide
  exact this ⟨d, h⟩
theorem q96 {u : Nat} (h : u < 10) : Lib.decDigits u = [UInt8.ofNat (48 + u)] := by rw [Lib.decDigits, dif_pos h]
theorem qdf {u : Nat} (h : ¬ u < 10) : Lib.decDigits u = Lib.decDigits (u / 10) ++ [UInt8.ofNat (48 + u % 10)] := by rw [Lib.decDigits, dif_neg h]
end Go.Proofs.YtjfkeknnjjlepaaGreatDoor.Rf
end

section
/- Numbers in texts. -/
namespace Go.Proofs.YtjfkeknnjjlepaaGreatDoor.Rf
open Go Go.RowKit
set_option linter.unusedVariables false
set_option linter.unusedSimpArgs false
def isD (b : UInt8) : Bool := decide (48 ≤ b.toNat) && decide (b.toNat ≤ 57)
def qs1 (l : By) (acc : Nat) : Nat := l.foldl (fun a b => a * 10 + (b.toNat - 48)) acc
theorem qif (u : Nat) : ∀ b ∈ Lib.decDigits u, isD b = true := by
  induction u using Nat.strongRecOn with
  | ind u ih =>
    intro b hb
    by_cases h : u < 10
    · rw [q96 h] at hb
      obtain rfl := List.mem_singleton.1 hb
      rw [isD, qqw u h, decide_eq_true (by omega), decide_eq_true (by omega)]; rfl
    · rw [qdf h] at hb
      rcases List.mem_append.1 hb with hb | hb
      · exact ih (u / 10) (by omega) b hb
      · obtain rfl := List.mem_singleton.1 hb
        rw [isD, qqw _ (Nat.mod_lt _ (by omega)), decide_eq_true (by omega), decide_eq_true (by omega)]; rfl
theorem qls (u : Nat) : qs1 (Lib.decDigits u) 0 = u := by
  induction u using Nat.strongRecOn with
  | ind u ih =>
    by_cases h : u < 10
    · rw [q96 h]
      show 0 * 10 + ((UInt8.ofNat (48 + u)).toNat - 48) = u
      rw [qqw u h]; omega
    · rw [qdf h, qs1, List.foldl_append]
      have := ih (u / 10) (by omega)
      rw [qs1] at this
      rw [this]
      show u / 10 * 10 + ((UInt8.ofNat (48 + u % 10)).toNat - 48) = u
      rw [qqw _ (Nat.mod_lt _ (by omega))]; omega
theorem qqx (u : Nat) : Lib.decDigits u ≠ [] := by
  by_cases c : u < 10
  · rw [q96 c]; simp
  · rw [qdf c]; simp
theorem qqy : ∀ (l : By) (a : Nat), a ≤ qs1 l a
  | [], a => Nat.le_refl _
  | b :: l, a => Nat.le_trans (by omega) (qqy l (a * 10 + (b.toNat - 48)))
theorem qkf : ∀ (l : By) (a : Nat), (∀ b ∈ l, isD b = true) → qs1 l a < 1000000000000000000 → Lib.parseUint10 a l = .ok (qs1 l a)
  | [], a, _, _ => rfl
  | b :: l, a, h, hv => by
    have hb := h b (by simp)
    simp only [isD, Bool.and_eq_true, decide_eq_true_eq] at hb
    have e : qs1 (b :: l) a = qs1 l (a * 10 + (b.toNat - 48)) := rfl
    have g := qqy l (a * 10 + (b.toNat - 48))
    rw [Lib.parseUint10, if_pos hb, if_neg (by omega), if_neg (by omega), qkf l _ (fun x hx => h x (by simp [hx])) (by rw [← e]; exact hv), e]
theorem qte (u : Nat) (h : u ≤ 999999) : Lib.atoiAll (Lib.decDigits u) = .ok (u : Int) := by
  have hp := qkf (Lib.decDigits u) 0 (qif u) (by rw [qls]; omega)
  rw [qls] at hp
  have hd := qif u
  cases e : Lib.decDigits u with
  | nil => exact absurd e (qqx u)
  | cons c r =>
    rw [e] at hp hd
    have hc := hd c (by simp)
    simp only [isD, Bool.and_eq_true, decide_eq_true_eq] at hc
    have h43 : ¬ (c.toNat = 43 ∨ c.toNat = 45) := by omega
    have h45 : ¬ c.toNat = 45 := by omega
    unfold Lib.atoiAll
    simp only [if_neg h43, Lib.parseMag, if_neg (List.cons_ne_nil c r), hp]
    rw [if_neg (by omega), if_neg (by omega), if_neg h45]
theorem qqz (u : Nat) (h : u ≤ 999999) : qa9 (Lib.decDigits u) = (u : Int) := by rw [qa9, qte u h]
end Go.Proofs.YtjfkeknnjjlepaaGreatDoor.Rf
end

section
/- A release is read back: plain. -/
namespace Go.Proofs.YtjfkeknnjjlepaaGreatDoor.Rf
open Go Go.RowKit
set_option linter.unusedVariables false
set_option linter.unusedSimpArgs false
def q74 : By := [115, 101, 97, 108, 32]
def qx2 : By := [114, 101, 108, 101, 97, 115, 101]
def qa2 (n : Int) (sum : ByteArray) : By := qx2 ++ 32 :: (Lib.itoa n ++ 32 :: bl sum)
def q75 (s : ByteArray) : By := q74 ++ bl s
def q7i (r : Release) : List By := qa2 r.1 r.2.2.1 :: (q5o r.2.1 ++ [q75 r.2.2.2])
theorem qh5 (n : Int) (d : Delta) (s : ByteArray) : bl (ql3 n d s) = nlB (qa2 n s :: q5o d) := by
  rw [ql3, q52, q58, qa2, qbw, q52]
  simp [qx2]
theorem qdg (r : Release) : qb4 r = mkB (nlB (q7i r)) := by
  refine q53 ?_
  rw [qb4, q52, q52, qh5, q7i, ← List.cons_append, qfv]
  simp [q75, q74, nlB]
theorem qlt (c : UInt8) (hc : qvs.contains c = false) {s : ByteArray} (h : qe5 s = true) : c ∉ bl s := by
  intro hm
  simp only [qe5, Bool.and_eq_true, List.all_eq_true] at h
  have := h.2 c hm
  rw [hc] at this
  cases this
theorem qn9 (c : UInt8) (hc : isD c = false) {n : Int} (h : 0 ≤ n) : c ∉ Lib.itoa n := by
  rw [qes h]
  intro hm
  have := qif _ c hm
  rw [hc] at this
  cases this
theorem qtf {n : Int} {s : ByteArray} (h0 : 0 ≤ n) (h : qe5 s = true) : (10 : UInt8) ∉ qa2 n s := by
  have h1 := qn9 10 (by decide) h0
  have h2 := qlt 10 (by decide) h
  simp only [qa2, qx2, List.mem_append, List.mem_cons, List.not_mem_nil, or_false, not_or]
  refine ⟨by decide, by decide, h1, by decide, h2⟩
theorem qtg {s : ByteArray} (h : qe5 s = true) : (10 : UInt8) ∉ q75 s := by
  have h2 := qlt 10 (by decide) h
  simp only [q75, q74, List.mem_append, List.mem_cons, List.not_mem_nil, or_false, not_or]
  exact ⟨by decide, h2⟩
theorem qh6 {r : Release} (h : qb3 r = true) : ∀ p ∈ q7i r, (10 : UInt8) ∉ p := by
  simp only [qb3, Bool.and_eq_true, decide_eq_true_eq] at h
  obtain ⟨⟨a1, a2⟩, a3, a4, a5, a6⟩ := h
  intro p hp
  rcases List.mem_cons.1 hp with rfl | hp
  · exact qtf (by omega) a4
  rcases List.mem_append.1 hp with hp | hp
  · exact qk9 (okP a3) p hp
  · rw [List.mem_singleton.1 hp]
    exact qtg a5
theorem qna {r : Release} (h : qb3 r = true) : q5g 10 (qb4 r) = (q7i r).map mkB ++ [bz] := by
  unfold q5g
  rw [qdg, q52, nlB, qdb 10 _ (qh6 h), List.map_append]
  rfl
theorem qnb {n : Int} {s : ByteArray} (h0 : 0 ≤ n) (h : qe5 s = true) : q5g 32 (mkB (qa2 n s)) = [mkB qx2, mkB (Lib.itoa n), s] := by
  unfold q5g
  rw [q52, qa2, q9m 32 _ _ (by decide), q9m 32 _ _ (qn9 32 (by decide) h0), q93 32 _ (qlt 32 (by decide) h)]
  simp [q9l]
def q7j (x : ByteArray) : List ByteArray := (q5g 10 x).dropLast
def qr0 (ls : List ByteArray) : ByteArray := mkB (nlB (((ls.take (ls.length - 1)).drop 1).map bl))
def qeb (p s : ByteArray) : ByteArray := if qiw s p then s.extract p.size s.size else s
def qxy (x : ByteArray) : Option Release :=
  if (q7j x).length < 2 then none else
  if (q5g 32 ((q7j x).getD 0 bz)).length ≠ 3 then none else
  if (q7h (qr0 (q7j x))).2 then
    some (qa9 (bl ((q5g 32 ((q7j x).getD 0 bz)).getD 1 bz)), (q7h (qr0 (q7j x))).1, (q5g 32 ((q7j x).getD 0 bz)).getD 2 bz, qeb (mkB q74) ((q7j x).getD ((q7j x).length - 1) bz))
  else none
theorem qoh {r : Release} (h : qb3 r = true) : q7j (qb4 r) = (q7i r).map mkB := by
  rw [q7j, qna h]; simp
theorem qig {l : List By} {i : Nat} (h : i < l.length) : (l.map mkB).getD i bz = mkB (l.getD i []) := by
  simp [List.getD_eq_getElem?_getD, h]
theorem qdh (r : Release) : (q7i r).length = (q5o r.2.1).length + 2 := by simp [q7i]
theorem qfx (r : Release) : (q7i r).getD ((q5o r.2.1).length + 1) [] = q75 r.2.2.2 := by
  simp [q7i, List.getD_eq_getElem?_getD]
theorem qth (r : Release) : qr0 ((q7i r).map mkB) = qbw r.2.1 := by
  have hl := qdh r
  rw [qr0, List.length_map, hl, qbw]
  congr 2
  rw [← List.map_take, ← List.map_drop, List.map_map, q7i, show (q5o r.2.1).length + 2 - 1 = (q5o r.2.1).length + 1 from rfl, List.take_succ_cons, List.drop_succ_cons, List.drop_zero, List.take_left']
  · simp [Function.comp_def, q52]
  · rfl
theorem qr1 (s : ByteArray) : qeb (mkB q74) (mkB (q75 s)) = s := by
  have z : (mkB q74).size = 5 := rfl
  have hz : (mkB (q75 s)).size = 5 + s.size := by rw [size_mk, q75, List.length_append, ← q4y]; rfl
  have hb : qiw (mkB (q75 s)) (mkB q74) = true := by
    unfold qiw
    rw [decide_eq_true (by omega), Bool.true_and, decide_eq_true_eq]
    refine q53 ?_
    rw [qk2, q52, q52, z, q75, List.take_left']
    rfl
  rw [qeb, hb, if_pos rfl, z]
  refine q53 ?_
  rw [q7p, q52, q75, List.drop_left']
  rfl
theorem qce {r : Release} (h : qb3 r = true) : (1 ≤ r.1 ∧ r.1 ≤ 999999) ∧ q5h r.2.1 = true ∧ qe5 r.2.2.1 = true ∧ qe5 r.2.2.2 = true ∧ (ql3 r.1 r.2.1 r.2.2.1).size ≤ 1200 := by
  simpa only [qb3, Bool.and_eq_true, decide_eq_true_eq] using h
theorem qti {r : Release} (h : qb3 r = true) : qxy (qb4 r) = some r := by
  obtain ⟨⟨a1, a2⟩, a3, a4, a5, a6⟩ := qce h
  have e1 := qoh h
  have hl := qdh r
  have g0 : ((q7i r).map mkB).getD 0 bz = mkB (qa2 r.1 r.2.2.1) := by rw [qig (by omega)]; rfl
  have gl : ((q7i r).map mkB).getD (((q7i r).map mkB).length - 1) bz = mkB (q75 r.2.2.2) := by
    rw [List.length_map, qig (by omega), hl]
    exact congrArg mkB (qfx r)
  have hc := qnb (n := r.1) (by omega) a4
  unfold qxy
  rw [e1, qth, (qer a3).1, g0, hc, gl, qr1, if_neg (by rw [List.length_map]; omega), if_neg (by simp), if_pos rfl]
  have hn : qa9 (Lib.itoa r.1) = r.1 := by
    rw [qes (by omega), qqz _ (by omega)]; omega
  simp only [List.getD_cons_succ, List.getD_cons_zero, q52, hn]
theorem qih (r : Release) : (qb4 r).size = (ql3 r.1 r.2.1 r.2.2.1).size + 6 + r.2.2.2.size := by
  rw [qb4, size_mk, q4y (ql3 _ _ _), q4y r.2.2.2]
  simp only [List.length_append, List.length_cons, List.length_nil]
  omega
noncomputable def q5k (x : ByteArray) : Release × Bool := open Classical in if h : ∃ r, qb3 r = true ∧ qb4 r = x then (Classical.choose h, true) else (zR, false)
def qxz (p : Option Release) (x : ByteArray) : Release × Bool := match p with
  | some r => if qb3 r && decide (qb4 r = x) then (r, true) else (zR, false)
  | none => (zR, false)
theorem qr2 (P : ByteArray → Option Release) (hP : ∀ r, qb3 r = true → P (qb4 r) = some r) (x : ByteArray) : qxz (P x) x = q5k x := by
  unfold q5k
  split
  · rename_i h
    obtain ⟨c1, c2⟩ := Classical.choose_spec h
    have hp := hP _ c1
    rw [c2] at hp
    rw [hp]
    show (if qb3 _ && decide (qb4 _ = x) then _ else _) = _
    rw [c1, decide_eq_true c2]
    rfl
  · rename_i h
    cases hp : P x with
    | none => rfl
    | some r =>
      show (if qb3 r && decide (qb4 r = x) then _ else _) = _
      rw [if_neg]
      intro hh
      simp only [Bool.and_eq_true, decide_eq_true_eq] at hh
      exact h ⟨r, hh⟩
theorem qdi {x : ByteArray} (h : (q5k x).2 = true) : qb3 (q5k x).1 = true ∧ qb4 (q5k x).1 = x := by
  unfold q5k at h ⊢
  split
  · rename_i h2
    exact Classical.choose_spec h2
  · rename_i h2
    rw [dif_neg h2] at h
    cases h
end Go.Proofs.YtjfkeknnjjlepaaGreatDoor.Rf
end

section
/- The reference's SHA-256, plain: it is Sha.sumOf. -/
namespace Go.Proofs.YtjfkeknnjjlepaaGreatDoor.Rf
open Go Go.RowKit Go.Proofs.YtjfkeknnjjlepaaGreatDoor.Sha Go.Proofs.YtjfkeknnjjlepaaGreatDoor
set_option linter.unusedVariables false
set_option linter.unusedSimpArgs false
abbrev kT : List Int := Go.Proofs.YtjfkeknnjjlepaaGreatDoor.M.q6r
theorem w32 (x : Int) : IntKind.u32.wrap x = x % 4294967296 := rfl
theorem w8 (x : Int) : IntKind.u8.wrap x = x % 256 := rfl
theorem fd (x : Int) (m : Nat) : x.fdiv (2 ^ m) = x / 2 ^ m := Int.fdiv_eq_ediv_of_nonneg x (Int.pow_nonneg (by omega))
theorem gd {n m : Nat} (h : n < m) : (decide (0 ≤ (n : Int)) && decide ((n : Int) < (m : Int))) = true := by rw [decide_eq_true (by omega), decide_eq_true (by omega)]; rfl
theorem q8e {xs : List Int} (h : ∀ x ∈ xs, 0 ≤ x ∧ x ≤ 255) (i : Nat) : 0 ≤ xs.getD i 0 ∧ xs.getD i 0 ≤ 255 := by
  rw [List.getD_eq_getElem?_getD]
  cases e : xs[i]? with
  | none => simp
  | some b => exact h b (List.mem_of_getElem? e)
theorem qyq {a : Int} (h : 0 ≤ a ∧ a ≤ 255) : IntKind.u32.wrap (IntKind.u32.wrap a * 2 ^ (min (24 : Int).toNat 32)) = a * 16777216 := by
  rw [w32, w32, show ((2 : Int) ^ (min (24 : Int).toNat 32)) = 16777216 from rfl]; omega
theorem qyr {a : Int} (h : 0 ≤ a ∧ a ≤ 255) : IntKind.u32.wrap (IntKind.u32.wrap a * 2 ^ (min (16 : Int).toNat 32)) = a * 65536 := by
  rw [w32, w32, show ((2 : Int) ^ (min (16 : Int).toNat 32)) = 65536 from rfl]; omega
theorem sh8 {a : Int} (h : 0 ≤ a ∧ a ≤ 255) : IntKind.u32.wrap (IntKind.u32.wrap a * 2 ^ (min (8 : Int).toNat 32)) = a * 256 := by
  rw [w32, w32, show ((2 : Int) ^ (min (8 : Int).toNat 32)) = 256 from rfl]; omega
theorem sh0 {a : Int} (h : 0 ≤ a ∧ a ≤ 255) : IntKind.u32.wrap a = a := by rw [w32]; omega
theorem qac (i c : Nat) (h : i + c ≤ 9223372036854775807) : w64 ((i : Int) + (c : Int)) = ((i + c : Nat) : Int) := by rw [w64, q6g (by omega) (by omega)]; omega
theorem qkg (i c : Nat) (h : i ≤ 9223372036854775807) (hc : c ≤ i) : w64 ((i : Int) - (c : Int)) = ((i - c : Nat) : Int) := by rw [w64, q6g (by omega) (by omega)]; omega
theorem qkh (s : ByteArray) : ∀ x ∈ padded (bytesOf s), 0 ≤ x ∧ x ≤ 255 := by
  intro x hx
  simp only [padded, q61, qe8, List.mem_append, List.mem_replicate, List.mem_cons, List.not_mem_nil, or_false] at hx
  rcases hx with ((hx | hx) | hx) | hx
  · simp only [bytesOf, List.mem_map] at hx
    obtain ⟨b, _, rfl⟩ := hx
    have := b.toNat_lt
    omega
  · omega
  · omega
  · rcases hx with hx | hx | hx | hx | hx | hx | hx | hx <;> (rw [hx]; omega)
end Go.Proofs.YtjfkeknnjjlepaaGreatDoor.Rf
end

section
/- The program's SHA-256 and HMAC, plain: Sha.sumOf and its HMAC. -/
namespace Go.Proofs.YtjfkeknnjjlepaaGreatDoor.Rf
open Go Go.RowKit Go.Proofs.YtjfkeknnjjlepaaGreatDoor.Sha Go.Proofs.YtjfkeknnjjlepaaGreatDoor
set_option linter.unusedVariables false
set_option linter.unusedSimpArgs false
theorem q6j (k : Nat) (x n : Int) (h0 : 0 ≤ n) (h1 : n ≤ 32) : q3h.f k x n = some (rot x n) := by
  rw [q3h.f_eq, show w64 (32 - n) = 32 - n from q6g (by omega) (by omega), decide_eq_true h0, q06, decide_eq_true (by omega), q06, fd]
  rfl
theorem getD_take {l : List Int} {i m : Nat} (h : i < m) : (l.take m).getD i 0 = l.getD i 0 := by
  simp [List.getD_eq_getElem?_getD, List.getElem?_take_of_lt h]
theorem gA {n m : Nat} (h : n < m + 1) : (decide (0 ≤ (n : Int)) && decide ((n : Int) < ((m : Nat) : Int) + 1)) = true := by rw [decide_eq_true (by omega), decide_eq_true (by omega)]; rfl
theorem f_S1 (e : Int) : IntKind.u32.wrap (BitVec.ofInt 32 (IntKind.u32.wrap (BitVec.ofInt 32 (rot e 6) ^^^ BitVec.ofInt 32 (rot e 11)).toNat) ^^^ BitVec.ofInt 32 (rot e 25)).toNat = S1 e := rfl
theorem f_S0 (e : Int) : IntKind.u32.wrap (BitVec.ofInt 32 (IntKind.u32.wrap (BitVec.ofInt 32 (rot e 2) ^^^ BitVec.ofInt 32 (rot e 13)).toNat) ^^^ BitVec.ofInt 32 (rot e 22)).toNat = S0 e := rfl
theorem f_ch (e f g : Int) : IntKind.u32.wrap (BitVec.ofInt 32 (IntKind.u32.wrap (BitVec.ofInt 32 e &&& BitVec.ofInt 32 f).toNat) ^^^ BitVec.ofInt 32 (IntKind.u32.wrap (BitVec.ofInt 32 (cpl .u32 e) &&& BitVec.ofInt 32 g).toNat)).toNat = ch e f g := rfl
theorem qyd (a b c : Int) : IntKind.u32.wrap (BitVec.ofInt 32 (IntKind.u32.wrap (BitVec.ofInt 32 (IntKind.u32.wrap (BitVec.ofInt 32 a &&& BitVec.ofInt 32 b).toNat) ^^^ BitVec.ofInt 32 (IntKind.u32.wrap (BitVec.ofInt 32 a &&& BitVec.ofInt 32 c).toNat)).toNat) ^^^ BitVec.ofInt 32 (IntKind.u32.wrap (BitVec.ofInt 32 b &&& BitVec.ofInt 32 c).toNat)).toNat = maj a b c := rfl
theorem f_s0 (x : Int) : IntKind.u32.wrap (BitVec.ofInt 32 (IntKind.u32.wrap (BitVec.ofInt 32 (rot x 7) ^^^ BitVec.ofInt 32 (rot x 18)).toNat) ^^^ BitVec.ofInt 32 (x / 8)).toNat = s0 x := rfl
theorem f_s1 (x : Int) : IntKind.u32.wrap (BitVec.ofInt 32 (IntKind.u32.wrap (BitVec.ofInt 32 (rot x 17) ^^^ BitVec.ofInt 32 (rot x 19)).toNat) ^^^ BitVec.ofInt 32 (x / 1024)).toNat = s1 x := rfl
theorem f_be (a b c d : Int) : IntKind.u32.wrap (BitVec.ofInt 32 (IntKind.u32.wrap (BitVec.ofInt 32 (IntKind.u32.wrap (BitVec.ofInt 32 (a * 16777216) ||| BitVec.ofInt 32 (b * 65536)).toNat) ||| BitVec.ofInt 32 (c * 256)).toNat) ||| BitVec.ofInt 32 d).toNat = be a b c d := rfl
theorem qye (k w e f g h : Int) : h + S1 e + ch e f g + k + w = Sha.one k w e f g h := rfl
theorem qyf (a b c : Int) : S0 a + maj a b c = two a b c := rfl
theorem qx3 (h v P : List Int) (R : ByteArray) (hh : h.length = 8) (hv : v.length = 8) (hP : 64 ≤ P.length)
    (N : Al2 fun k k1 => q00.L10 k k1 (List.zipWith add h v) (P.drop 64) = some R) : Al2 fun k k1 => q00.L31 k k1 k1 h P v 0 = some R := by
  have key := qa1 (Q := fun i => Al3 fun k k1 k2 => q00.L31 k k1 k2 (sumTo h v i) P v (i : Int) = some R) 8
    (Al3.succ (N.fst.mono fun k k1 k2 e => by
      have c0 : decide (((8 : Nat) : Int) < 8) = false := rfl
      have c1 : (decide ((0 : Int) ≤ 64) && (decide ((64 : Int) ≤ (P.length : Int)) && decide ((P.length : Int) ≤ (P.length : Int)))) = true := by
        rw [decide_eq_true (by omega), decide_eq_true (by omega), decide_eq_true (by omega)]; rfl
      have hd : (P.take (P.length : Int).toNat).drop (64 : Int).toNat = P.drop 64 := by rw [show (P.length : Int).toNat = P.length from rfl, List.take_length]; rfl
      rw [q00.L31_eq, c0, q08, c1, q06, qqe h v (by omega) 8 hh.symm, hd]
      exact e))
    (fun i hi hr => by
      refine Al3.succ (hr.mono fun k k1 k2 e => ?_)
      have c0 : decide ((i : Int) < 8) = true := decide_eq_true (by omega)
      have a1 : w64 ((i : Int) + 1) = ((i + 1 : Nat) : Int) := qac i 1 (by omega)
      have g := gA (n := i) (m := 7) (by omega)
      have hs : (sumTo h v i).set i (IntKind.u32.wrap ((sumTo h v i).getD i 0 + v.getD i 0)) = sumTo h v (i + 1) := by
        rw [qt4 h v i (by omega) (by omega)]; exact qqd h v i (by omega) (by omega)
      simp only [q00.L31_eq, c0, q06, g, a1, show (i : Int).toNat = i from rfl, hs]
      exact e)
  have := key 0 (by omega)
  rw [qo4] at this
  exact this.in2
theorem qr3 (h P ws : List Int) (R : ByteArray) (hh : h.length = 8)
    (N : Al2 fun k k1 => q00.L31 k k1 k1 h P (qov kT ws h 64) 0 = some R) : Al2 fun k k1 => q00.L23 k k1 k1 h P ws h 0 = some R := by
  have key := qa1 (Q := fun i => Al3 fun k k1 k2 => q00.L23 k k1 k2 h P ws (qov kT ws h i) (i : Int) = some R) 64
    (Al3.succ (N.fst.mono fun k k1 k2 e => by rw [q00.L23_eq]; exact (q08 _ _).trans e))
    (fun i hi hr => by
      obtain ⟨y0, y1, y2, y3, y4, y5, y6, y7, hy⟩ := eight (q7a kT ws h hh i)
      have hn : qov kT ws h (i + 1) = rnd (kT.getD i 0) (ws.getD i 0) (qov kT ws h i) := rfl
      rw [hn] at hr
      rw [hy] at hr ⊢
      obtain ⟨n, hr⟩ := hr
      refine ⟨n + 3, fun k k1 k2 hk hk1 hk2 => ?_⟩
      obtain ⟨m, rfl⟩ : ∃ m, k2 = m + 1 + 1 + 1 := ⟨k2 - 3, by omega⟩
      have e := hr k k1 (m + 1 + 1) (by omega) (by omega) (by omega)
      have c0 : decide ((i : Int) < 64) = true := decide_eq_true (by omega)
      have a1 : w64 ((i : Int) + 1) = ((i + 1 : Nat) : Int) := qac i 1 (by omega)
      have gi := gA (n := i) (m := 63) (by omega)
      have G0 := gA (n := 0) (m := 7) (by omega)
      have G1 := gA (n := 1) (m := 7) (by omega)
      have G2 := gA (n := 2) (m := 7) (by omega)
      have G3 := gA (n := 3) (m := 7) (by omega)
      have G4 := gA (n := 4) (m := 7) (by omega)
      have G5 := gA (n := 5) (m := 7) (by omega)
      have G6 := gA (n := 6) (m := 7) (by omega)
      have G7 := gA (n := 7) (m := 7) (by omega)
      rw [show ((0 : Nat) : Int) = 0 from rfl] at G0
      rw [show ((1 : Nat) : Int) = 1 from rfl] at G1
      rw [show ((2 : Nat) : Int) = 2 from rfl] at G2
      rw [show ((3 : Nat) : Int) = 3 from rfl] at G3
      rw [show ((4 : Nat) : Int) = 4 from rfl] at G4
      rw [show ((5 : Nat) : Int) = 5 from rfl] at G5
      rw [show ((6 : Nat) : Int) = 6 from rfl] at G6
      have G7' : (decide ((0 : Int) ≤ 7) && decide ((7 : Int) < ((7 : Nat) : Int) + 1)) = true := rfl
      have e1 : ∀ a b c d e : Int, IntKind.u32.wrap (IntKind.u32.wrap (IntKind.u32.wrap (IntKind.u32.wrap (a + b) + c) + d) + e) = (a + b + c + d + e) % 4294967296 := by intro a b c d e; simp only [w32]; omega
      have e2 : ∀ o t : Int, IntKind.u32.wrap (o % 4294967296 + IntKind.u32.wrap t) = add o t := by intro o t; rw [w32, w32, add]; omega
      have e3 : ∀ o d : Int, IntKind.u32.wrap (d + o % 4294967296) = add d o := by intro o d; rw [w32, add]; omega
      have q0 : ([y0, y1, y2, y3, y4, y5, y6, y7] : List Int).getD (Int.toNat 0) 0 = y0 := rfl
      have q1 : ([y0, y1, y2, y3, y4, y5, y6, y7] : List Int).getD (Int.toNat 1) 0 = y1 := rfl
      have q2 : ([y0, y1, y2, y3, y4, y5, y6, y7] : List Int).getD (Int.toNat 2) 0 = y2 := rfl
      have q3 : ([y0, y1, y2, y3, y4, y5, y6, y7] : List Int).getD (Int.toNat 3) 0 = y3 := rfl
      have q4 : ([y0, y1, y2, y3, y4, y5, y6, y7] : List Int).getD (Int.toNat 4) 0 = y4 := rfl
      have q5 : ([y0, y1, y2, y3, y4, y5, y6, y7] : List Int).getD (Int.toNat 5) 0 = y5 := rfl
      have q6 : ([y0, y1, y2, y3, y4, y5, y6, y7] : List Int).getD (Int.toNat 6) 0 = y6 := rfl
      have q7 : ([y0, y1, y2, y3, y4, y5, y6, y7] : List Int).getD (Int.toNat 7) 0 = y7 := rfl
      have ni : (i : Int).toNat = i := rfl
      rw [q00.L23_eq, c0, q06, G4, q06, G0, q06, G7', q06, q6j _ _ 6 (by decide) (by decide), Option.bind_some, q6j _ _ 11 (by decide) (by decide), Option.bind_some, q6j _ _ 25 (by decide) (by decide), Option.bind_some, G5, q06, G6, q06, gi, q06, q06, q0, q4, q5, q6, q7, ni]
      rw [f_S1, f_ch, e1, qye, q00.J27_eq]
      rw [q6j _ _ 2 (by decide) (by decide), Option.bind_some, q6j _ _ 13 (by decide) (by decide), Option.bind_some, q6j _ _ 22 (by decide) (by decide), Option.bind_some, G1, q06, G2, q06, q06, q06, q1, q2]
      rw [f_S0, qyd, qyf, q00.J28_eq]
      rw [G1, q06, G2, q06, G3, q06, G5, q06, G6, q06, q1, q2, q3, q5, q6]
      rw [qqc] at e
      rw [e2, e3, a1]
      exact e)
  exact (key 0 (by omega)).in2
theorem qvt (h P : List Int) (R : ByteArray) (hP : 64 ≤ P.length) (hb : ∀ x ∈ P, 0 ≤ x ∧ x ≤ 255)
    (N : Al2 fun k k1 => q00.L23 k k1 k1 h P (q8z (P.take 64) 64) h 0 = some R) : Al2 fun k k1 => q00.L14 k k1 k1 h P (List.replicate (63 + 1) (0 : Int)) 0 = some R := by
  have key := qa1 (Q := fun i => Al3 fun k k1 k2 => q00.L14 k k1 k2 h P (qo3 (P.take 64) i) (i : Int) = some R) 64
    (Al3.succ (N.fst.mono fun k k1 k2 e => by rw [q00.L14_eq, qt2]; exact (q08 _ _).trans e))
    (fun i hi hr => by
      obtain ⟨n, hr⟩ := hr
      refine ⟨n + 2, fun k k1 k2 hk hk1 hk2 => ?_⟩
      obtain ⟨m, rfl⟩ : ∃ m, k2 = m + 1 + 1 := ⟨k2 - 2, by omega⟩
      have e := hr k k1 (m + 1) (by omega) (by omega) (by omega)
      have c0 : decide ((i : Int) < 64) = true := decide_eq_true (by omega)
      have b1 : w64 ((i : Int) + 1) = ((i + 1 : Nat) : Int) := qac i 1 (by omega)
      have gi := gA (n := i) (m := 63) (by omega)
      have hset := qt3 (P.take 64) i hi
      by_cases hl : i < 16
      · have c1 : decide ((i : Int) < 16) = true := decide_eq_true (by omega)
        have t2 : decide ((0 : Int) ≤ 24) = true := rfl
        have t3 : decide ((0 : Int) ≤ 16) = true := rfl
        have t4 : decide ((0 : Int) ≤ 8) = true := rfl
        have a0 : w64 (4 * (i : Int)) = ((4 * i : Nat) : Int) := by rw [w64, q6g (by omega) (by omega)]; omega
        have a1 : w64 (((4 * i : Nat) : Int) + 1) = ((4 * i + 1 : Nat) : Int) := qac (4 * i) 1 (by omega)
        have a2 : w64 (((4 * i : Nat) : Int) + 2) = ((4 * i + 2 : Nat) : Int) := qac (4 * i) 2 (by omega)
        have a3 : w64 (((4 * i : Nat) : Int) + 3) = ((4 * i + 3 : Nat) : Int) := qac (4 * i) 3 (by omega)
        have g0 : (decide (0 ≤ ((4 * i : Nat) : Int)) && decide (((4 * i : Nat) : Int) < (P.length : Int))) = true := gd (by omega)
        have g1 : (decide (0 ≤ ((4 * i + 1 : Nat) : Int)) && decide (((4 * i + 1 : Nat) : Int) < (P.length : Int))) = true := gd (by omega)
        have g2 : (decide (0 ≤ ((4 * i + 2 : Nat) : Int)) && decide (((4 * i + 2 : Nat) : Int) < (P.length : Int))) = true := gd (by omega)
        have g3 : (decide (0 ≤ ((4 * i + 3 : Nat) : Int)) && decide (((4 * i + 3 : Nat) : Int) < (P.length : Int))) = true := gd (by omega)
        have n0 : ((4 * i : Nat) : Int).toNat = 4 * i := rfl
        have n1 : ((4 * i + 1 : Nat) : Int).toNat = 4 * i + 1 := rfl
        have n2 : ((4 * i + 2 : Nat) : Int).toNat = 4 * i + 2 := rfl
        have n3 : ((4 * i + 3 : Nat) : Int).toNat = 4 * i + 3 := rfl
        rw [qgz _ _ _ hl, getD_take (by omega), getD_take (by omega), getD_take (by omega), getD_take (by omega)] at hset
        rw [q00.L14_eq]
        simp only [c0, c1, q06, a0, a1, a2, a3, g0, g1, g2, g3, gi, t2, t3, t4, n0, n1, n2, n3, qyq (q8e hb (4 * i)), qyr (q8e hb (4 * i + 1)), sh8 (q8e hb (4 * i + 2)), sh0 (q8e hb (4 * i + 3))]
        rw [q00.J20_eq, b1, f_be, show (i : Int).toNat = i from rfl, hset]
        exact e
      · have c1 : decide ((i : Int) < 16) = false := decide_eq_false (by omega)
        have a15 : w64 ((i : Int) - 15) = ((i - 15 : Nat) : Int) := qkg i 15 (by omega) (by omega)
        have a2 : w64 ((i : Int) - 2) = ((i - 2 : Nat) : Int) := qkg i 2 (by omega) (by omega)
        have a16 : w64 ((i : Int) - 16) = ((i - 16 : Nat) : Int) := qkg i 16 (by omega) (by omega)
        have a7 : w64 ((i : Int) - 7) = ((i - 7 : Nat) : Int) := qkg i 7 (by omega) (by omega)
        have g15 := gA (n := i - 15) (m := 63) (by omega)
        have g2 := gA (n := i - 2) (m := 63) (by omega)
        have g16 := gA (n := i - 16) (m := 63) (by omega)
        have g7 := gA (n := i - 7) (m := 63) (by omega)
        have d3 : ∀ x : Int, x.fdiv (2 ^ (min (3 : Int).toNat 32)) = x / 8 := fun x => fd x 3
        have d10 : ∀ x : Int, x.fdiv (2 ^ (min (10 : Int).toNat 32)) = x / 1024 := fun x => fd x 10
        have v15 : (qo3 (P.take 64) i).getD (((i - 15 : Nat) : Int).toNat) 0 = (q8z (P.take 64) i).getD (i - 15) 0 := qi4 _ _ _ (by omega)
        have v2 : (qo3 (P.take 64) i).getD (((i - 2 : Nat) : Int).toNat) 0 = (q8z (P.take 64) i).getD (i - 2) 0 := qi4 _ _ _ (by omega)
        have v16 : (qo3 (P.take 64) i).getD (((i - 16 : Nat) : Int).toNat) 0 = (q8z (P.take 64) i).getD (i - 16) 0 := qi4 _ _ _ (by omega)
        have v7 : (qo3 (P.take 64) i).getD (((i - 7 : Nat) : Int).toNat) 0 = (q8z (P.take 64) i).getD (i - 7) 0 := qi4 _ _ _ (by omega)
        have hs : ∀ a c d e : Int, IntKind.u32.wrap (IntKind.u32.wrap (IntKind.u32.wrap (a + c) + d) + e) = (a + c + d + e) % 4294967296 := by intro a c d e; rw [w32, w32, w32]; omega
        rw [qfj _ _ _ hl] at hset
        rw [q00.L14_eq, c0, q06, c1, q08, a15, g15, q06, a2, g2, q06, a16, g16, q06, a7, g7, q06, v15, v2, v16, v7, q6j _ _ 7 (by decide) (by decide), Option.bind_some, q6j _ _ 18 (by decide) (by decide), Option.bind_some, show decide ((0 : Int) ≤ 3) = true from rfl, q06,
          q6j _ _ 17 (by decide) (by decide), Option.bind_some, q6j _ _ 19 (by decide) (by decide), Option.bind_some, show decide ((0 : Int) ≤ 10) = true from rfl, q06, gi, q06, d3, d10, q00.J20_eq, b1, f_s0, f_s1, show (i : Int).toNat = i from rfl]
        rw [hs, hset]
        exact e)
  have := key 0 (by omega)
  rw [show qo3 (P.take 64) 0 = List.replicate (63 + 1) 0 from rfl] at this
  exact this.in2
theorem qx4 (v : List Int) (hv : v.length = 8) : Al fun k => q00.L37 k k ([] : List Int) v 0 = some (strOf (out v)) := by
  have key := qa1 (Q := fun i => Al2 fun k k1 => q00.L37 k k1 (out (v.take i)) v (i : Int) = some (strOf (out v))) 8
    (Al2.succ (Al2.now fun k k1 => by rw [q00.L37_eq, List.take_of_length_le (by omega)]; exact q08 _ _)) (fun i hi hr => by
      refine Al2.succ (hr.mono fun k k1 e => ?_)
      have c0 : decide ((i : Int) < 8) = true := decide_eq_true (by omega)
      have g1 := gA (n := i) (m := 7) (by omega)
      have a1 : w64 ((i : Int) + 1) = ((i + 1 : Nat) : Int) := qac i 1 (by omega)
      have ho := qd9 (v.take i)
      rw [List.length_take] at ho
      have hz : ∀ a b c d : Int, decide (((out (v.take i)).length + [a, b, c, d].length) * 1 ≤ q1m) = true := fun a b c d => decide_eq_true (by rw [ho]; simp [q1m]; omega)
      have f24 : ∀ x : Int, IntKind.u8.wrap (x.fdiv (2 ^ (min (24 : Int).toNat 32))) = x / 16777216 % 256 := fun x => by rw [fd]; rfl
      have f16 : ∀ x : Int, IntKind.u8.wrap (x.fdiv (2 ^ (min (16 : Int).toNat 32))) = x / 65536 % 256 := fun x => by rw [fd]; rfl
      have f8 : ∀ x : Int, IntKind.u8.wrap (x.fdiv (2 ^ (min (8 : Int).toNat 32))) = x / 256 % 256 := fun x => by rw [fd]; rfl
      simp only [q00.L37_eq, c0, q06, g1, show decide ((0 : Int) ≤ 24) = true from rfl, show decide ((0 : Int) ≤ 16) = true from rfl, show decide ((0 : Int) ≤ 8) = true from rfl, hz, f24, f16, f8, w8, a1, show (i : Int).toNat = i from rfl, qmx v i (by omega)]
      exact e)
  exact (key 0 (by omega)).diag
theorem qki : ∀ (q : Nat) (sv P : List Int), sv.length = 8 → P.length = 64 * q → (∀ x ∈ P, 0 ≤ x ∧ x ≤ 255) → Al2 fun k k1 => q00.L10 k k1 sv P = some (strOf (out (blocks kT q sv P)))
  | 0, sv, P, h8, hl, _ => by
    refine Al2.succ ((qx4 sv h8).fst.mono fun k k1 e => ?_)
    rw [q00.L10_eq, decide_eq_false (by omega), q08]
    exact e
  | q + 1, sv, P, h8, hl, hb => by
    have N := qki q (block kT sv (P.take 64)) (P.drop 64) (qab _ _ _ h8) (by rw [List.length_drop]; omega) (fun x hx => hb x (List.mem_of_mem_drop hx))
    have F := qvt sv P _ (by omega) hb (qr3 sv P _ _ h8 (qx3 sv (qov kT (q8z (P.take 64) 64) sv 64) P _ h8 (q7a _ _ _ h8 64) (by omega) N))
    refine Al2.succ (F.mono fun k k1 e => ?_)
    rw [q00.L10_eq, decide_eq_true (by omega), q06]
    exact e
theorem qr4 (s : ByteArray) (hs : s.size ≤ 1099511627776) : Al fun k => q00.f k s = some (qlm s) := by
  have hn : (bytesOf s).length = s.size := by rw [bytesOf, List.length_map, ← q51]; rfl
  have hR := qkh s
  have h64 := qcb (bytesOf s)
  have hm : IntKind.u64.wrap (IntKind.u64.wrap (s.size : Int) * 8) = (s.size : Int) * 8 := by
    rw [show ∀ x : Int, IntKind.u64.wrap x = x % 18446744073709551616 from fun _ => rfl, show ∀ x : Int, IntKind.u64.wrap x = x % 18446744073709551616 from fun _ => rfl]
    omega
  have hfin : qlm s = strOf (out (blocks kT ((padded (bytesOf s)).length / 64) H0 (padded (bytesOf s)))) := rfl
  have B : Al2 fun k k1 => q00.L10 k k1 H0 (padded (bytesOf s)) = some (qlm s) := by
    rw [hfin]
    exact qki _ _ _ rfl (by omega) hR
  have L7 : ∀ (base : List Int) (j : Nat), base ++ q61 ((s.size : Int) * 8) = padded (bytesOf s) → base.length ≤ 2000000000000 → j ≤ 8 → Al2 fun k k1 => q00.L7 k k1 H0 (base ++ (q61 ((s.size : Int) * 8)).take (8 - j)) ((s.size : Int) * 8) (8 * (j : Int) - 8) = some (qlm s) := by
    intro base j hbase hbl
    induction j with
    | zero => intro _; exact Al2.succ (B.diag.fst.mono fun k k1 e => by rw [q00.L7_eq, qjz, hbase]; exact (q08 _ _).trans e)
    | succ j ih =>
      intro hj
      refine Al2.succ ((ih (by omega)).mono fun k k1 e => ?_)
      have c1 : 8 * ((j + 1 : Nat) : Int) - 8 = ((8 * j : Nat) : Int) := by omega
      have c0 : decide (((8 * j : Nat) : Int) ≥ 0) = true := decide_eq_true (by omega)
      have c4 : ∀ v : Int, decide (((base ++ (q61 ((s.size : Int) * 8)).take (8 - (j + 1))).length + [v].length) * 1 ≤ q1m) = true := fun v => decide_eq_true (by
        rw [List.length_append, List.length_take]; simp [q1m]; omega)
      have c5 : w64 (((8 * j : Nat) : Int) - 8) = 8 * (j : Int) - 8 := by rw [w64, q6g (by omega) (by omega)]; omega
      have hv : IntKind.u8.wrap (((s.size : Int) * 8).fdiv (2 ^ (min ((8 * j : Nat) : Int).toNat 64))) = qe8 ((s.size : Int) * 8) j := by
        rw [show ((8 * j : Nat) : Int).toNat = 8 * j from rfl, Nat.min_eq_left (by omega), fd, w8]; rfl
      rw [q00.L7_eq, c1, c0, q06, q06, c4, q06, hv, List.append_assoc, take_len _ j (by omega), c5]
      exact e
  have hz : zeros s.size ≤ 63 := by unfold zeros; omega
  have L3 : ∀ (d j : Nat), j + d = zeros s.size → Al2 fun k k1 => q00.L3 k k1 s H0 ((bytesOf s ++ [128]) ++ List.replicate j 0) = some (qlm s) := by
    intro d
    induction d with
    | zero =>
      intro j hj
      obtain rfl : j = zeros s.size := by omega
      have hlen : ((bytesOf s ++ [128]) ++ List.replicate (zeros s.size) (0 : Int)).length = s.size + 1 + zeros s.size := by simp [hn]; omega
      have h7 := L7 ((bytesOf s ++ [128]) ++ List.replicate (zeros s.size) 0) 8 (by rw [padded, hn]) (by omega) (by omega)
      refine Al2.succ (h7.diag.fst.mono fun k k1 e => ?_)
      have c1 : (((((bytesOf s ++ [128]) ++ List.replicate (zeros s.size) (0 : Int)).length : Int).tmod 64) != 56) = false := by
        rw [hlen, Int.tmod_eq_emod_of_nonneg (by omega), bne_eq_false_iff_eq]
        have : (s.size + 1 + zeros s.size) % 64 = 56 := by unfold zeros; omega
        omega
      rw [q00.L3_eq, show decide ((64 : Int) ≠ 0) = true from rfl, q06, c1, q08, hm]
      rw [Nat.sub_self, List.take_zero, List.append_nil] at e
      exact e
    | succ d ih =>
      intro j hj
      have hlen : ((bytesOf s ++ [128]) ++ List.replicate j (0 : Int)).length = s.size + 1 + j := by simp [hn]; omega
      refine Al2.succ ((ih (j + 1) (by omega)).mono fun k k1 e => ?_)
      have c1 : (((((bytesOf s ++ [128]) ++ List.replicate j (0 : Int)).length : Int).tmod 64) != 56) = true := by
        rw [hlen, Int.tmod_eq_emod_of_nonneg (by omega), bne_iff_ne]
        have : (s.size + 1 + j) % 64 ≠ 56 := by unfold zeros at hj; omega
        omega
      have c2 : decide ((((bytesOf s ++ [128]) ++ List.replicate j (0 : Int)).length + [(0 : Int)].length) * 1 ≤ q1m) = true := decide_eq_true (by rw [hlen]; simp [q1m]; omega)
      rw [q00.L3_eq, show decide ((64 : Int) ≠ 0) = true from rfl, q06, c1, q06, c2, q06]
      rw [List.replicate_succ', ← List.append_assoc] at e
      exact e
  refine (L3 (zeros s.size) 0 (by omega)).diag.mono fun k e => ?_
  rw [q00.f_eq, decide_eq_true (by rw [hn]; simp [q1m]; omega), q06]
  rw [List.replicate_zero, List.append_nil] at e
  exact e
theorem qvu (key text : ByteArray) (hk : key.size ≤ 64) (ht : text.size ≤ 549755813888) : Al fun k => q1q.f k key text = some (M.quh key text) := by
  have hn : (bytesOf key).length = key.size := by rw [bytesOf, List.length_map, ← q51]; rfl
  have hp : (bytesOf key).take (List.replicate (64 : Int).toNat (0 : Int)).length ++ (List.replicate (64 : Int).toNat (0 : Int)).drop key.size = M.qbp key := by
    rw [M.qbp, List.drop_replicate, List.take_of_length_le (by rw [List.length_replicate, hn]; exact hk)]
    rfl
  have hl := M.q9j key hk
  have z : ∀ c, (M.qgh key c).size = 64 := fun c => by
    have : ∀ xs : List Int, (strOf xs).size = xs.length := fun xs => by simp [strOf, ByteArray.size]
    rw [M.qgh, this, List.length_map, hl]
  have z3 := M.qda (M.qgh key 54 ++ text)
  have s1 := qr4 (M.qgh key 54 ++ text) (by rw [ByteArray.size_append, z]; omega)
  have s2 := qr4 (M.qgh key 92 ++ qlm (M.qgh key 54 ++ text)) (by rw [ByteArray.size_append, z, z3]; omega)
  have key7 := qa1 (Q := fun i => Al2 fun k k1 => q1q.L7 k k1 text (M.q82 54 (M.qbp key) i) (M.q82 92 (M.qbp key) i) ((M.qbp key).length : Int) (i : Int) = some (M.quh key text)) 64
    (Al2.succ ((s1.and s2).fst.mono fun k k1 ⟨q1, q2⟩ => by
      have c0 : decide (((64 : Nat) : Int) < ((M.qbp key).length : Int)) = false := decide_eq_false (by omega)
      have x1 : strOf (M.q82 54 (M.qbp key) 64) = M.qgh key 54 := by rw [M.qk0 54 _ 64 hl]; rfl
      have x2 : strOf (M.q82 92 (M.qbp key) 64) = M.qgh key 92 := by rw [M.qk0 92 _ 64 hl]; rfl
      rw [q1q.L7_eq, c0, q08, x1, x2, q4h (by rw [z]; omega), q06, q1, Option.bind_some, q4h (by rw [z, z3]; omega), q06, q2, Option.bind_some]
      rfl)) (fun i hi hr => by
      refine Al2.succ (hr.mono fun k k1 e => ?_)
      have c0 : decide ((i : Int) < ((M.qbp key).length : Int)) = true := decide_eq_true (by omega)
      have a1 : w64 ((i : Int) + 1) = ((i + 1 : Nat) : Int) := qac i 1 (by omega)
      have g1 : (decide (0 ≤ (i : Int)) && decide ((i : Int) < ((M.q82 54 (M.qbp key) i).length : Int))) = true := gd (by rw [M.qdz, hl]; exact hi)
      have g2 : (decide (0 ≤ (i : Int)) && decide ((i : Int) < ((M.q82 92 (M.qbp key) i).length : Int))) = true := gd (by rw [M.qdz, hl]; exact hi)
      have n0 : (i : Int).toNat = i := rfl
      have u1 : (M.q82 54 (M.qbp key) i).set i (IntKind.u8.wrap ((BitVec.ofInt 8 ((M.q82 54 (M.qbp key) i).getD i 0) ^^^ BitVec.ofInt 8 (54 : Int)).toNat)) = M.q82 54 (M.qbp key) (i + 1) := by
        rw [M.qmy 54 _ i (by omega)]; exact M.qk1 54 _ i (by omega)
      have u2 : (M.q82 92 (M.qbp key) i).set i (IntKind.u8.wrap ((BitVec.ofInt 8 ((M.q82 92 (M.qbp key) i).getD i 0) ^^^ BitVec.ofInt 8 (92 : Int)).toNat)) = M.q82 92 (M.qbp key) (i + 1) := by
        rw [M.qmy 92 _ i (by omega)]; exact M.qk1 92 _ i (by omega)
      simp only [q1q.L7_eq, c0, q06, g1, g2, n0, u1, u2, a1]
      exact e)
  have k0 := key7 0 (by omega)
  rw [M.qh0, M.qh0] at k0
  have j3 : Al fun k => q1q.J3 k key text = some (M.quh key text) := Al.succ (k0.diag.mono fun k e => by
    rw [q1q.J3_eq, hp]
    have c : (decide ((0 : Int) ≤ 64) && (decide ((64 : Int) ≤ 64) && decide ((64 : Int) * 1 ≤ (q1m : Int)))) = true := rfl
    rw [c, q06, q06]
    exact e)
  exact j3.mono fun k e => by
    rw [q1q.f_eq, decide_eq_false (by omega), q08]
    exact e
end Go.Proofs.YtjfkeknnjjlepaaGreatDoor.Rf
end

section
/- Keys, sums, seals, texts and forms of releases: both sides. -/
namespace Go.Proofs.YtjfkeknnjjlepaaGreatDoor.Rf
open Go Go.RowKit
set_option linter.unusedVariables false
set_option linter.unusedSimpArgs false
theorem q84 (k : Nat) (n lo hi : Int) : q3g.f k n lo hi = some (decide (lo ≤ n) && decide (n ≤ hi)) := by
  rw [q3g.f_eq]
  by_cases h : lo ≤ n
  · rw [show decide (n ≥ lo) = true from decide_eq_true h, q06, Bool.true_and]
  · rw [show decide (n ≥ lo) = false from decide_eq_false h, q08, Bool.false_and]
theorem qdj (k : Nat) (n lo hi : Int) : q4w.f k n lo hi = some (decide (lo ≤ n) && decide (n ≤ hi)) := by
  have := q84 k n lo hi
  rw [q3g.f_eq] at this
  rw [q4w.f_eq, this]
theorem qkj (a : ByteArray) (h : a.size ≤ 9223372036854775807) : ((some (decide ((1 : Int) ≤ (a.size : Int)) && decide ((a.size : Int) ≤ (64 : Int))) : Option Bool).bind fun (r0 : Bool) => ifb r0 (ifb (decide (0 ≤ (w64 ((a.size : Int) - 1))) && decide ((w64 ((a.size : Int) - 1)) < (a.size : Int))) (some ((q38 a (w64 ((a.size : Int) - 1))) != (0 : Int))) (none)) (some false)) = some (qde a) := by
  rw [Option.bind_some]
  unfold qde
  by_cases hz : 1 ≤ a.size ∧ a.size ≤ 64
  · have e : w64 ((a.size : Int) - 1) = ((a.size - 1 : Nat) : Int) := by rw [w64, q6g (by omega) (by omega)]; omega
    rw [decide_eq_true (show (1 : Int) ≤ (a.size : Int) by omega), decide_eq_true (show (a.size : Int) ≤ 64 by omega), Bool.and_self, q06, e, decide_eq_true (show (0 : Int) ≤ ((a.size - 1 : Nat) : Int) by omega), decide_eq_true (show ((a.size - 1 : Nat) : Int) < (a.size : Int) by omega), Bool.and_self, q06, q5q (by omega), decide_eq_true hz, Bool.true_and]
    congr 1
    by_cases h0 : bN a (a.size - 1) = 0
    · rw [h0]; rfl
    · rw [decide_eq_false h0, Bool.not_false, bne_iff_ne]; omega
  · have e : (decide ((1 : Int) ≤ (a.size : Int)) && decide ((a.size : Int) ≤ 64)) = false := by
      rw [Bool.and_eq_false_iff]
      by_cases h1 : 1 ≤ a.size
      · exact .inr (decide_eq_false (by omega))
      · exact .inl (decide_eq_false (by omega))
    rw [e, q08, decide_eq_false hz, Bool.false_and]
theorem qcf (k : Nat) (a : ByteArray) (h : a.size ≤ 9223372036854775807) : q3q.f k a = some (qde a) := by
  rw [q3q.f_eq, q84]
  exact qkj a h
theorem qcg (k : Nat) (a : ByteArray) (h : a.size ≤ 9223372036854775807) : q3r.f k a = some (qde a) := by
  rw [q3r.f_eq, qdj]
  exact qkj a h
def HX : ByteArray := ⟨#[48, 49, 50, 51, 52, 53, 54, 55, 56, 57, 97, 98, 99, 100, 101, 102]⟩
def qox (s : ByteArray) : Nat → List Int
  | 0 => []
  | n + 1 => qox s n ++ [q38 HX (IntKind.u8.wrap ((q38 s (n : Int)).tdiv 16)), q38 HX ((q38 s (n : Int)).tmod 16)]
def qvv (s : ByteArray) : ByteArray := strOf (qox s s.size)
theorem qbs (s : ByteArray) : ∀ n, (qox s n).length = 2 * n
  | 0 => rfl
  | n + 1 => by simp only [qox, List.length_append, qbs s n, List.length_cons, List.length_nil]; omega
theorem qtj : ∀ n : Fin 16, IntKind.u8.wrap ((n.val : Nat) : Int) = (n.val : Int) := by decide
theorem qkk (s : ByteArray) {i : Nat} (hi : i < s.size) : decide ((0 : Int) ≤ IntKind.u8.wrap ((q38 s (i : Int)).tdiv 16)) = true ∧ decide (IntKind.u8.wrap ((q38 s (i : Int)).tdiv 16) < (16 : Int)) = true ∧ decide ((0 : Int) ≤ (q38 s (i : Int)).tmod 16) = true ∧ decide ((q38 s (i : Int)).tmod 16 < (16 : Int)) = true := by
  rw [q5q hi]
  have hb : bN s i < 256 := by unfold bN; exact UInt8.toNat_lt _
  have e1 : ((bN s i : Nat) : Int).tdiv 16 = ((bN s i / 16 : Nat) : Int) := rfl
  have e2 : ((bN s i : Nat) : Int).tmod 16 = ((bN s i % 16 : Nat) : Int) := rfl
  have e3 := qtj ⟨bN s i / 16, by omega⟩
  rw [e1, e2, e3]
  exact ⟨decide_eq_true (by omega), decide_eq_true (by simp only; omega), decide_eq_true (by omega), decide_eq_true (by omega)⟩
theorem qh7 (s : ByteArray) (hs : s.size ≤ 1099511627776) : Al fun k => q39.f k s = some (qvv s) := by
  have key := qa1 (Q := fun i => Al2 fun k k1 => q39.L3 k k1 s (qox s i) (i : Int) = some (qvv s)) s.size
    (Al2.succ (Al2.now fun k k1 => by rw [q39.L3_eq, at_end (Nat.lt_irrefl _), q08]; rfl)) (fun i hi h => by
      obtain ⟨c1, c2, c3, c4⟩ := q6t hi (by omega)
      obtain ⟨f1, f2, f3, f4⟩ := qkk s hi
      refine Al2.succ (h.mono fun k k1 e => ?_)
      have m1 : decide (((qox s i).length + [q38 HX (IntKind.u8.wrap ((q38 s (i : Int)).tdiv 16)), q38 HX ((q38 s (i : Int)).tmod 16)].length) * 1 ≤ q1m) = true := decide_eq_true (by rw [qbs]; simp [q1m]; omega)
      rw [q39.L3_eq]
      show ifb _ (ifb _ (ifb _ (ifb (decide (0 ≤ (IntKind.u8.wrap ((q38 s (i : Int)).tdiv (16 : Int)))) && decide ((IntKind.u8.wrap ((q38 s (i : Int)).tdiv (16 : Int))) < (16 : Int))) (ifb _ (ifb _ (ifb (decide (0 ≤ ((q38 s (i : Int)).tmod (16 : Int))) && decide (((q38 s (i : Int)).tmod (16 : Int)) < (16 : Int))) (ifb (decide (((qox s i).length + [q38 HX (IntKind.u8.wrap ((q38 s (i : Int)).tdiv 16)), q38 HX ((q38 s (i : Int)).tmod 16)].length) * 1 ≤ q1m)) (q39.L3 k k1 s (qox s (i + 1)) (w64 ((i : Int) + 1))) none) none) none) none) none) none) none) _ = _
      simp only [c1, c2, f1, f2, f3, f4, m1, Bool.and_self, q06, show decide ((16 : Int) ≠ 0) = true from rfl, w64, c4, e]) 0 (Nat.zero_le _)
  exact key.diag.mono fun k e => by rw [q39.f_eq]; exact e
theorem qfy (s : ByteArray) : (qlm s).size = 32 := Go.Proofs.YtjfkeknnjjlepaaGreatDoor.M.qda s
def qr5 (s : ByteArray) : ByteArray := qvv (qlm s)
theorem qlu (s : ByteArray) (hs : s.size ≤ 1099511627776) : Al fun k => q49.f k s = some (qr5 s) :=
  ((qr4 s hs).and (qh7 (qlm s) (by rw [qfy]; decide))).mono fun k ⟨e0, e⟩ => by
    rw [q49.f_eq, e0, Option.bind_some, e]
    rfl
def qoi (key text : ByteArray) : ByteArray := if qde key then qvv (Go.Proofs.YtjfkeknnjjlepaaGreatDoor.M.quh key text) else bz
theorem qkl {a : ByteArray} (h : qde a = true) : 1 ≤ a.size ∧ a.size ≤ 64 := by
  simp only [qde, Bool.and_eq_true, decide_eq_true_eq] at h
  exact h.1
theorem qkm (a b : ByteArray) : (Go.Proofs.YtjfkeknnjjlepaaGreatDoor.M.quh a b).size = 32 := Go.Proofs.YtjfkeknnjjlepaaGreatDoor.M.qda _
theorem qlv (key text : ByteArray) (hk : key.size ≤ 9223372036854775807) (ht : text.size ≤ 549755813888) : Al fun k => q4l.f k key text = some (qoi key text) := by
  have e1 := fun k => qcf k key hk
  unfold qoi
  cases h : qde key with
  | false => exact Al.now fun k => by rw [q4l.f_eq, e1, h, Option.bind_some, Bool.not_false, q06]; rfl
  | true =>
    exact ((qvu key text (qkl h).2 ht).and (qh7 (Go.Proofs.YtjfkeknnjjlepaaGreatDoor.M.quh key text) (by rw [qkm]; decide))).mono fun k ⟨e0, e⟩ => by
      rw [q4l.f_eq, e1, h, Option.bind_some, Bool.not_true, q08, e0, Option.bind_some, e]
      rfl
end Go.Proofs.YtjfkeknnjjlepaaGreatDoor.Rf
end

section
/- Seals by the reference; texts and forms of releases; books' texts. -/
namespace Go.Proofs.YtjfkeknnjjlepaaGreatDoor.Rf
open Go Go.RowKit
set_option linter.unusedVariables false
set_option linter.unusedSimpArgs false
theorem qkn (k : Nat) (s : ByteArray) (hs : s.size ≤ 9223372036854775807) : q4m.f k s = some (qe5 s) := by
  rw [q4m.f_eq]
  unfold qe5
  by_cases c : s.size = 64
  · rw [show ((s.size : Int) == 64) = true by rw [c]; rfl, q06]
    have e : q4a.f k s (⟨#[48, 49, 50, 51, 52, 53, 54, 55, 56, 57, 97, 98, 99, 100, 101, 102]⟩ : ByteArray) = some (mkB (Lib.trimS (bl s) qvs)) := if_pos ⟨hs, show (16 : Nat) < 4294967281 by decide, show qvs.all (fun b => decide (b.toNat < 128)) = true by decide⟩
    rw [e, Option.bind_some, q94, q52, decide_eq_true c, Bool.true_and]
    refine congrArg some ?_
    rw [Bool.eq_iff_iff]
    simp only [decide_eq_true_eq, qqv, List.all_eq_true]
  · rw [show ((s.size : Int) == 64) = false by rw [beq_eq_false_iff_ne]; omega, q08, decide_eq_false c, Bool.false_and]
theorem q6l {s : ByteArray} (h : qe5 s = true) : s.size = 64 := by
  simp only [qe5, Bool.and_eq_true, decide_eq_true_eq] at h
  exact h.1
theorem qyg {d : Delta} (h : tD d) : smD d := by
  obtain ⟨⟨a1, a2⟩, ⟨a3, a4⟩, a5, a6⟩ := h
  refine ⟨⟨by omega, fun s hs => ?_⟩, ⟨by omega, fun e he => ?_⟩, by omega, fun a ha => ?_⟩
  · have := a2 s hs; unfold Sm; omega
  · have := a4 e he; unfold tE at this; unfold smE Sm; omega
  · have := a6 a ha; unfold tA at this; unfold smA Sm; omega
theorem lit8 : bl (⟨#[114, 101, 108, 101, 97, 115, 101, 32]⟩ : ByteArray) = [114, 101, 108, 101, 97, 115, 101, 32] := rfl
theorem qnc (i sum d : ByteArray) : (((((⟨#[114, 101, 108, 101, 97, 115, 101, 32]⟩ : ByteArray) ++ i) ++ (⟨#[32]⟩ : ByteArray)) ++ sum) ++ (⟨#[10]⟩ : ByteArray)) ++ d = mkB ([114, 101, 108, 101, 97, 115, 101, 32] ++ (bl i ++ 32 :: (bl sum ++ 10 :: bl d))) := by
  refine q53 ?_
  rw [q52]
  simp only [q59, q6s, lit8, List.append_assoc, List.cons_append, List.nil_append]
theorem qad (r : Release) (h0 : 0 ≤ r.1) (h1 : r.1 ≤ 999999) (hd : q5h r.2.1 = true) (hs : r.2.2.1.size ≤ 1000000) : Al fun k => q1c.f k r = some (ql3 r.1 r.2.1 r.2.2.1) := by
  have td := qod hd
  have zd := qkd td
  have zi := qke h0 (by omega)
  have z8 : (⟨#[114, 101, 108, 101, 97, 115, 101, 32]⟩ : ByteArray).size = 8 := rfl
  have e : ∀ k, strconv_Itoa.f k r.1 = some (mkB (Lib.itoa r.1)) := fun k => if_pos ⟨by omega, by omega⟩
  have zm : (mkB (Lib.itoa r.1)).size ≤ 21 := by rw [size_mk]; exact zi
  refine (q9v r.2.1 (qyg td) td).mono fun k e1 => ?_
  rw [qwg, if_pos hd] at e1
  rw [q1c.f_eq, e, Option.bind_some, q4h (by omega), q06, q4h (by rw [ByteArray.size_append, q4x]; omega), q06, q4h (by rw [ByteArray.size_append, ByteArray.size_append, q4x]; omega), q06,
    q4h (by rw [ByteArray.size_append, ByteArray.size_append, ByteArray.size_append, q4x, q4x]; omega), q06, e1, Option.bind_some,
    q4h (by rw [ByteArray.size_append, ByteArray.size_append, ByteArray.size_append, ByteArray.size_append, q4x, q4x]; omega), q06, qnc, q52]
  rfl
def smR (r : Release) : Prop := smD r.2.1 ∧ r.2.2.1.size ≤ 1099511627776 ∧ r.2.2.2.size ≤ 1099511627776
theorem q8f (r : Release) (hr : smR r) : Al fun k => q0h.f k r = some (qb3 r) := by
  have e2 := fun k => qkn k r.2.2.1 (by have := hr.2.1; omega)
  have e3 := fun k => qkn k r.2.2.2 (by have := hr.2.2; omega)
  unfold qb3
  cases h0 : (decide (1 ≤ r.1) && decide (r.1 ≤ 999999)) with
  | false => exact Al.now fun k => by rw [q0h.f_eq, q84, h0, Option.bind_some, q08, Bool.false_and]
  | true =>
  have e1 := q66 r.2.1 hr.1
  cases h1 : q5h r.2.1 with
  | false => exact e1.mono fun k e => by rw [q0h.f_eq, q84, h0, Option.bind_some, q06, e, h1, Option.bind_some, q08]; rfl
  | true =>
  cases h2 : qe5 r.2.2.1 with
  | false => exact e1.mono fun k e => by rw [q0h.f_eq, q84, h0, Option.bind_some, q06, e, h1, Option.bind_some, q06, e2, h2, Option.bind_some, q08]; rfl
  | true =>
  cases h3 : qe5 r.2.2.2 with
  | false => exact e1.mono fun k e => by rw [q0h.f_eq, q84, h0, Option.bind_some, q06, e, h1, Option.bind_some, q06, e2, h2, Option.bind_some, q06, e3, h3, Option.bind_some, q08]; rfl
  | true =>
  have h0' := h0
  simp only [Bool.and_eq_true, decide_eq_true_eq] at h0'
  refine (e1.and (qad r (by omega) h0'.2 h1 (by rw [q6l h2]; omega))).mono fun k ⟨e, e4⟩ => ?_
  rw [q0h.f_eq, q84, h0, Option.bind_some, q06, e, h1, Option.bind_some, q06, e2, h2, Option.bind_some, q06, e3, h3, Option.bind_some, q06, e4, Option.bind_some]
  simp only [Bool.true_and]
  exact congrArg some (decide_eq_decide.2 ⟨fun h => by omega, fun h => by omega⟩)
end Go.Proofs.YtjfkeknnjjlepaaGreatDoor.Rf
end

section
/- The delta from one book to another, the reference's side. -/
namespace Go.Proofs.YtjfkeknnjjlepaaGreatDoor.Rf
open Go Go.RowKit
set_option linter.unusedVariables false
set_option linter.unusedSimpArgs false
end Go.Proofs.YtjfkeknnjjlepaaGreatDoor.Rf
end

section
/- The delta from one book to another, the program's side. -/
namespace Go.Proofs.YtjfkeknnjjlepaaGreatDoor.Rf
open Go Go.RowKit
set_option linter.unusedVariables false
set_option linter.unusedSimpArgs false
theorem qko (l m : List Aff) (hl : Sm l.length) : Al fun k => q03.f k l m = some (decide (l = m)) := by
  by_cases hlen : l.length = m.length
  case neg =>
    refine Al.now fun k => ?_
    rw [q03.f_eq, show ((l.length : Int) != (m.length : Int)) = true by rw [bne_iff_ne]; omega, q06, decide_eq_false fun e => hlen (by rw [e])]
  have key : ∀ (t : List Aff) (i : Nat), l.drop i = t → Al2 fun k k1 => q03.L4 k k1 l m (l.length : Int) (i : Int) = some (decide (t = m.drop i)) := by
    intro t
    induction t with
    | nil =>
      intro i hd
      have he := drop_nil hd
      refine Al2.succ (Al2.now fun k k1 => ?_)
      rw [q03.L4_eq, at_end he, q08, List.drop_eq_nil_of_le (show m.length ≤ i by omega), decide_eq_true rfl]
    | cons x t ih =>
      intro i hd
      obtain ⟨hi, g1, g2⟩ := q45 zA hd
      obtain ⟨c1, c2, c3, c4⟩ := q6t hi hl
      have hm : i < m.length := by omega
      have hmd : m.drop i = m[i] :: m.drop (i + 1) := List.drop_eq_getElem_cons hm
      have gm : m.getD i zA = m[i] := by rw [List.getD_eq_getElem?_getD, List.getElem?_eq_getElem hm]; rfl
      have cm : decide ((i : Int) < (m.length : Int)) = true := decide_eq_true (by omega)
      refine Al2.succ ((ih (i + 1) g2).mono fun k k1 e => ?_)
      simp only [q03.L4_eq, c1, c2, c3, w64, c4, g1, cm, gm, Bool.and_self, q06, e, qfm, hmd]
      by_cases h : x = m[i]
      · rw [decide_eq_true h, Bool.not_true, q08]
        exact congrArg some (decide_eq_decide.2 ⟨fun e => by rw [h, e], fun e => (List.cons.inj e).2⟩)
      · rw [decide_eq_false h, Bool.not_false, q06]
        exact congrArg some (decide_eq_false fun e => h (List.cons.inj e).1).symm
  refine (key l 0 rfl).diag.mono fun k e => ?_
  rw [q03.f_eq, show ((l.length : Int) != (m.length : Int)) = false by rw [hlen]; simp, q08, show (0 : Int) = ((0 : Nat) : Int) from rfl, e]
  rfl
end Go.Proofs.YtjfkeknnjjlepaaGreatDoor.Rf
end

section
/- Two deltas made one, the program's side. -/
namespace Go.Proofs.YtjfkeknnjjlepaaGreatDoor.Rf
open Go Go.RowKit
set_option linter.unusedVariables false
set_option linter.unusedSimpArgs false
def said (d : Delta) (s : ByteArray) : Bool := qo9 d.1 s || qaz d.2.1 s
end Go.Proofs.YtjfkeknnjjlepaaGreatDoor.Rf
end

section
/- What deltas hold; there and back. Plain. -/
namespace Go.Proofs.YtjfkeknnjjlepaaGreatDoor.Rf
open Go Go.RowKit
set_option linter.unusedVariables false
set_option linter.unusedSimpArgs false
end Go.Proofs.YtjfkeknnjjlepaaGreatDoor.Rf
end

section
/- A delta between books leads there; two deltas made one do what both do. Plain. -/
namespace Go.Proofs.YtjfkeknnjjlepaaGreatDoor.Rf
open Go Go.RowKit
set_option linter.unusedVariables false
set_option linter.unusedSimpArgs false
theorem qkp {b : Book} {d : Delta} (h : (q5e b d).2 = true) : q5e b d = (doB b d, true) ∧ q5r b = true ∧ q5h d = true ∧ (d.1.all fun s => qaz b.2 s) = true ∧ q5r (doB b d) = true := by
  unfold q5e at h ⊢
  split
  · rename_i h1
    rw [if_pos h1] at h
    simp only [Bool.and_eq_true] at h1
    split
    · rename_i h2; simp only [Bool.and_eq_true] at h2; exact ⟨rfl, h1.1, h1.2, h2.1, h2.2⟩
    · rename_i h2; rw [if_neg h2] at h; cases h
  · rename_i h1; rw [if_neg h1] at h; cases h
end Go.Proofs.YtjfkeknnjjlepaaGreatDoor.Rf
end

section
/- Books' texts; ReleaseOk, ReleaseOf, ReleaseDo: both sides. -/
namespace Go.Proofs.YtjfkeknnjjlepaaGreatDoor.Rf
open Go Go.RowKit
set_option linter.unusedVariables false
set_option linter.unusedSimpArgs false
theorem qh8 {b : Book} (h : tB b) : (qie b).size ≤ 10000000 := by
  obtain ⟨⟨n1, s1⟩, n2, s2⟩ := h
  have h1 := qlo (ls := b.1.map q7g) (n := 4100) fun p hp => by
    obtain ⟨a, ha, rfl⟩ := List.mem_map.1 hp
    exact q9n (s1 a ha)
  have h2 := qlo (ls := b.2.map q6y) (n := 2100) fun p hp => by
    obtain ⟨a, ha, rfl⟩ := List.mem_map.1 hp
    exact qar (s2 a ha)
  rw [List.length_map] at h1 h2
  rw [qie, size_mk, qfv, List.length_append]
  omega
theorem qfz (b : Book) (hs : smB b) : Al fun k => q17.f k b = some (qxx b) := by
  have e0 := q7d b hs
  cases h1 : q5r b with
  | false => exact e0.mono fun k e => by rw [q17.f_eq, e, h1, Option.bind_some, Bool.not_false, q06, qxx, h1]; rfl
  | true =>
  obtain ⟨⟨n1, s1⟩, n2, s2⟩ := qog h1
  have L10 : ∀ (t : List En) (i : Nat) (x : ByteArray), b.2.drop i = t → x.size + 5000 * t.length ≤ 20000000 → Al2 fun k k1 => q17.L10 k k1 x b.2 (b.2.length : Int) (i : Int) = some (mkB (bl x ++ nlB (t.map q6y))) := by
    intro t
    induction t with
    | nil =>
      intro i x hd hx
      refine Al2.succ (Al2.now fun k k1 => ?_)
      rw [q17.L10_eq, at_end (drop_nil hd), q08, List.map_nil, qia, List.append_nil, q9l]
    | cons e t ih =>
      intro i x hd hx
      rw [List.length_cons] at hx
      obtain ⟨hi, g1, g2⟩ := q45 zE hd
      obtain ⟨c1, c2, c3, c4⟩ := q6t hi (by omega)
      have he : tE e := s2 e (List.mem_of_mem_drop (show e ∈ b.2.drop i by rw [hd]; simp))
      have hl := qar he
      have z1 : (mkB (q6y e ++ [10])).size = (q6y e).length + 1 := by rw [size_mk]; simp
      refine Al2.succ ((ih (i + 1) (x ++ mkB (q6y e ++ [10])) g2 (by rw [ByteArray.size_append, z1]; omega)).mono fun k k1 e1 => ?_)
      simp only [q17.L10_eq, c1, c2, c3, Bool.and_self, q06, g1, qe2 _ e he, Option.bind_some,
        q4h (show x.size + (mkB (q6y e ++ [10])).size ≤ 9223372036854775807 by rw [z1]; omega), w64, c4, e1]
      congr 2
      rw [q59, q52, List.map_cons, q58]
      simp
  have L5 : ∀ (t : List Aff) (i : Nat) (x : ByteArray), b.1.drop i = t → x.size + 5000 * t.length ≤ 10000000 → Al2 fun k k1 => q17.L5 k k1 b x b.1 (b.1.length : Int) (i : Int) = some (mkB (bl x ++ nlB (t.map q7g ++ b.2.map q6y))) := by
    intro t
    induction t with
    | nil =>
      intro i x hd hx
      rw [List.length_nil] at hx
      refine Al2.succ ((L10 b.2 0 x rfl (by omega)).diag.fst.mono fun k k1 e => ?_)
      rw [q17.L5_eq, at_end (drop_nil hd), q08]
      exact e
    | cons a t ih =>
      intro i x hd hx
      rw [List.length_cons] at hx
      obtain ⟨hi, g1, g2⟩ := q45 zA hd
      obtain ⟨c1, c2, c3, c4⟩ := q6t hi (by omega)
      have he : tA a := s1 a (List.mem_of_mem_drop (show a ∈ b.1.drop i by rw [hd]; simp))
      have hl := q9n he
      have z1 : (mkB (q7g a ++ [10])).size = (q7g a).length + 1 := by rw [size_mk]; simp
      refine Al2.succ (((qe1 a he).snd.and (ih (i + 1) (x ++ mkB (q7g a ++ [10])) g2 (by rw [ByteArray.size_append, z1]; omega))).mono fun k k1 ⟨e0, e1⟩ => ?_)
      simp only [q17.L5_eq, c1, c2, c3, Bool.and_self, q06, g1, e0, Option.bind_some, q4h (show x.size + (mkB (q7g a ++ [10])).size ≤ 9223372036854775807 by rw [z1]; omega), w64, c4, e1]
      congr 2
      rw [q59, q52]
      simp [q58]
  have hz : bz.size = 0 := rfl
  refine (e0.and (L5 b.1 0 bz rfl (by omega)).diag).mono fun k ⟨e, e1⟩ => ?_
  rw [q17.f_eq, e, h1, Option.bind_some, Bool.not_true, q08, qxx, h1, if_pos rfl]
  exact e1
def qdk (key : ByteArray) (r : Release) : Bool := qde key && (qb3 r && decide (qoi key (ql3 r.1 r.2.1 r.2.2.1) = r.2.2.2))
theorem q80 {r : Release} (h : qb3 r = true) : (1 ≤ r.1 ∧ r.1 ≤ 999999) ∧ q5h r.2.1 = true ∧ qe5 r.2.2.1 = true ∧ qe5 r.2.2.2 = true ∧ (ql3 r.1 r.2.1 r.2.2.1).size ≤ 1200 := by
  simpa only [qb3, Bool.and_eq_true, decide_eq_true_eq] using h
theorem q97 (key : ByteArray) (r : Release) (hk : key.size ≤ 9223372036854775807) (hr : smR r) : Al fun k => q2v.f k key r = some (qdk key r) := by
  have e1 := fun k => qcf k key hk
  unfold qdk
  cases h1 : qde key with
  | false => exact Al.now fun k => by rw [q2v.f_eq, e1, h1, Option.bind_some, q08, Bool.false_and]
  | true =>
  cases h2 : qb3 r with
  | false => exact (q8f r hr).mono fun k e => by rw [q2v.f_eq, e1, h1, Option.bind_some, q06, e, h2, Option.bind_some, q08]; rfl
  | true =>
  obtain ⟨⟨a1, a2⟩, a3, a4, a5, a6⟩ := q80 h2
  refine (((q8f r hr).and (qad r (by omega) a2 a3 (by rw [q6l a4]; omega))).and (qlv key (ql3 r.1 r.2.1 r.2.2.1) hk (by omega))).mono fun k ⟨⟨e, e2⟩, e3⟩ => ?_
  rw [q2v.f_eq, e1, h1, Option.bind_some, q06, e, h2, Option.bind_some, q06, e2, Option.bind_some, e3, Option.bind_some, q5y]
  simp only [Bool.true_and]
  exact congrArg some (decide_eq_decide.2 ⟨Eq.symm, Eq.symm⟩)
def q89 (key : ByteArray) (n : Int) (b : Book) (r : Release) : Book × Bool :=
  if q5r b then (if qdk key r && (decide (r.1 = n + 1) && ((q5e b r.2.1).2 && decide (qr5 (qie (q5e b r.2.1).1) = r.2.2.1))) then ((q5e b r.2.1).1, true) else (b, false)) else (([], []), false)
theorem qh9 {key : ByteArray} {r : Release} (h : qdk key r = true) : qde key = true ∧ qb3 r = true ∧ qoi key (ql3 r.1 r.2.1 r.2.2.1) = r.2.2.2 := by
  simpa only [qdk, Bool.and_eq_true, decide_eq_true_eq] using h
theorem q98 (key : ByteArray) (n : Int) (b : Book) (r : Release) (hk : key.size ≤ 9223372036854775807) (hn : -9223372036854775808 ≤ n ∧ n ≤ 9223372036854775807) (hb : smB b) (hr : smR r) : Al fun k => q2m.f k key n b r = some (q89 key n b r) := by
  have e1 := q7d b hb
  have e0 := fun k => q69 k b hb.1.1 hb.2.1
  unfold q89
  cases h1 : q5r b with
  | false => exact e1.mono fun k e => by rw [q2m.f_eq, e, h1, Option.bind_some, Bool.not_false, q06]; rfl
  | true =>
  have e2 := q97 key r hk hr
  cases h2 : qdk key r with
  | false => exact (e1.and e2).mono fun k ⟨e, e3⟩ => by rw [q2m.f_eq, e, h1, Option.bind_some, Bool.not_true, q08, e3, h2, Option.bind_some, Bool.not_false, q06, e0]; rfl
  | true =>
  obtain ⟨_, hf, _⟩ := qh9 h2
  obtain ⟨⟨a1, a2⟩, a3, a4, a5, a6⟩ := q80 hf
  have hw : w64 (r.1 - 1) = r.1 - 1 := q6g (by omega) (by omega)
  by_cases h3 : r.1 = n + 1
  case neg =>
    exact (e1.and e2).mono fun k ⟨e, e3⟩ => by
      rw [q2m.f_eq, e, h1, Option.bind_some, Bool.not_true, q08, e3, h2, Option.bind_some, Bool.not_true, q08, hw, show (n != r.1 - 1) = true by rw [bne_iff_ne]; omega, q06, e0, decide_eq_false h3]; rfl
  have e4 := qft b r.2.1 hb hr.1
  have hq : (n != r.1 - 1) = false := by rw [h3]; simp
  cases h4 : (q5e b r.2.1).2 with
  | false =>
    exact ((e1.and e2).and e4).mono fun k ⟨⟨e, e3⟩, e5⟩ => by
      rw [q2m.f_eq, e, h1, Option.bind_some, Bool.not_true, q08, e3, h2, Option.bind_some, Bool.not_true, q08, hw, hq, q08, e5, Option.bind_some, h4, Bool.not_false, q06, e0, decide_eq_true h3]; rfl
  | true =>
  have hx := qkp h4
  have hX : q5r (q5e b r.2.1).1 = true := by rw [hx.1]; exact hx.2.2.2.2
  have hS : smB (q5e b r.2.1).1 := by rw [hx.1]; exact qqk hb hr.1 (qn2 h1) (qi9 a3)
  have hz := qh8 (qog hX)
  refine (((e1.and e2).and (e4.and (qfz _ hS))).and (qlu (qie (q5e b r.2.1).1) (by omega))).mono fun k ⟨⟨⟨e, e3⟩, e5, e6⟩, e7⟩ => ?_
  rw [qxx, hX, if_pos rfl] at e6
  rw [q2m.f_eq, e, h1, Option.bind_some, Bool.not_true, q08, e3, h2, Option.bind_some, Bool.not_true, q08, hw, hq, q08, e5, Option.bind_some, h4, Bool.not_true, q08, e6, Option.bind_some, e7, Option.bind_some, q5y, decide_eq_true h3]
  by_cases h5 : qr5 (qie (q5e b r.2.1).1) = r.2.2.1
  · rw [decide_eq_true h5, Bool.not_true, q08]; rfl
  · rw [decide_eq_false h5, Bool.not_false, q06, e0]; rfl
end Go.Proofs.YtjfkeknnjjlepaaGreatDoor.Rf
end

section
/- What a file holds: its releases, one by one. Plain. -/
namespace Go.Proofs.YtjfkeknnjjlepaaGreatDoor.Rf
open Go Go.RowKit
set_option linter.unusedVariables false
set_option linter.unusedSimpArgs false
def q70 (l : By) : Nat → Nat → By → Option Nat
  | _, _, [] => none
  | fr, i, b :: t => if b = 10 then (if i - fr = 69 ∧ (l.drop fr).take 5 = q74 then some (i + 1) else q70 l (i + 1) (i + 1) t) else q70 l fr (i + 1) t
def qae (x : ByteArray) : Option Nat := q70 (bl x) 0 0 (bl x)
theorem q99 (l : By) : ∀ (t : By) (fr i n : Nat), q70 l fr i t = some n → i < n ∧ n ≤ i + t.length
  | [], fr, i, n, h => by cases h
  | b :: t, fr, i, n, h => by
    simp only [q70] at h
    simp only [List.length_cons]
    split at h
    · split at h
      · cases h; omega
      · have := q99 l t _ _ _ h; omega
    · have := q99 l t _ _ _ h; omega
theorem q85 (l : By) : ∀ (p t : By) (fr i : Nat), (10 : UInt8) ∉ p → q70 l fr i (p ++ t) = q70 l fr (i + p.length) t
  | [], t, fr, i, h => rfl
  | b :: p, t, fr, i, h => by
    have hb : ¬ b = 10 := fun e => h (by simp [e])
    rw [List.cons_append, q70, if_neg hb, q85 l p t fr (i + 1) (fun x => h (by simp [x])), List.length_cons]
    congr 1
    omega
theorem qlw (l p : By) (fr i : Nat) (h : (10 : UInt8) ∉ p) : q70 l fr i p = none := by
  have := q85 l p [] fr i h
  rw [List.append_nil] at this
  rw [this]
  rfl
theorem qe6 (l : By) (s m : By) (hs : s.length = 69) (hw : s.take 5 = q74) (h10 : (10 : UInt8) ∉ s) : ∀ (ls : List By) (fr : Nat), (∀ p ∈ ls, (10 : UInt8) ∉ p) → (∀ p ∈ ls, p.take 5 ≠ q74) → l.drop fr = nlB (ls ++ [s]) ++ m →
    q70 l fr fr (nlB (ls ++ [s]) ++ m) = some (fr + (nlB (ls ++ [s])).length)
  | [], fr, _, _, hd => by
    have e : nlB ([] ++ [s]) ++ m = s ++ 10 :: m := by simp [nlB]
    rw [e] at hd ⊢
    rw [q85 l s _ fr fr h10, q70, if_pos rfl, if_pos ⟨by omega, by rw [hd, List.take_append_of_le_length (by omega)]; exact hw⟩]
    simp [nlB]
    omega
  | p :: ls, fr, h1, h2, hd => by
    have e : nlB ((p :: ls) ++ [s]) ++ m = p ++ 10 :: (nlB (ls ++ [s]) ++ m) := by rw [List.cons_append, q58, List.append_assoc, List.cons_append]
    rw [e] at hd ⊢
    have hp := h2 p (by simp)
    have hd2 : l.drop (fr + p.length + 1) = nlB (ls ++ [s]) ++ m := by
      rw [← List.drop_drop, ← List.drop_drop, hd, List.drop_left']
      · rfl
      · rfl
    rw [q85 l p _ fr fr (h1 p (by simp)), q70, if_pos rfl, if_neg, qe6 l s m hs hw h10 ls (fr + p.length + 1) (fun q hq => h1 q (by simp [hq])) (fun q hq => h2 q (by simp [hq])) hd2]
    · rw [List.cons_append, q58, List.length_append, List.length_cons]
      congr 1
      omega
    · rintro ⟨x1, x2⟩
      rw [hd, List.take_append_of_le_length (by omega)] at x2
      exact hp x2
theorem qr6 (n : Int) (s : ByteArray) : (qa2 n s).take 5 ≠ q74 := by
  rw [qa2, List.take_append_of_le_length (by simp [qx2])]
  decide
theorem qr7 (d : Delta) : ∀ p ∈ q5o d, p.take 5 ≠ q74 := by
  have c : ∀ (b : UInt8) (t : By), b ≠ 115 → (b :: t).take 5 ≠ q74 := fun b t hb h => by
    simp only [List.take_succ_cons, q74, List.cons.injEq] at h
    exact hb h.1
  intro p hp
  unfold q5o at hp
  rcases List.mem_append.1 hp with hp | hp
  · split at hp
    · rw [List.mem_singleton.1 hp]; decide
    · cases hp
  rcases List.mem_append.1 hp with hp | hp
  · obtain ⟨a, ha, rfl⟩ := List.mem_map.1 hp
    unfold q7g qcd
    split <;> exact c _ _ (by decide)
  rcases List.mem_append.1 hp with hp | hp
  · obtain ⟨s, hs, rfl⟩ := List.mem_map.1 hp
    exact c _ _ (by decide)
  · obtain ⟨e, he, rfl⟩ := List.mem_map.1 hp
    exact c _ _ (by decide)
theorem qoj {r : Release} (h : qb3 r = true) (m : By) : qae (mkB (bl (qb4 r) ++ m)) = some (qb4 r).size := by
  obtain ⟨⟨a1, a2⟩, a3, a4, a5, a6⟩ := qce h
  have z3 : r.2.2.2.size = 64 := q6l a5
  have hl : q7i r = (qa2 r.1 r.2.2.1 :: q5o r.2.1) ++ [q75 r.2.2.2] := rfl
  have hs : (q75 r.2.2.2).length = 69 := by rw [q75, List.length_append, ← q4y, z3]; rfl
  have hw : (q75 r.2.2.2).take 5 = q74 := by rw [q75, List.take_left']; rfl
  have ht := qh6 h
  rw [hl] at ht
  have hb : bl (qb4 r) = nlB ((qa2 r.1 r.2.2.1 :: q5o r.2.1) ++ [q75 r.2.2.2]) := by rw [qdg, q52, hl]
  unfold qae
  rw [q52, hb, qe6 _ _ m hs hw (ht _ (by simp)) _ 0 (fun p hp => ht p (List.mem_append.2 (.inl hp))) (fun p hp => ?_) rfl, q4y, hb, Nat.zero_add]
  rcases List.mem_cons.1 hp with rfl | hp
  · exact qr6 _ _
  · exact qr7 _ p hp
abbrev Hst := List ByteArray × Nat × Book
noncomputable def q7k (key : ByteArray) (i : Nat) (b : Book) (t : ByteArray) : Option Book := if (q5k t).2 = true ∧ (q89 key (i : Int) b (q5k t).1).2 = true then some (q89 key (i : Int) b (q5k t).1).1 else none
noncomputable def q67 (key file : ByteArray) (most : Nat) (s : Hst) : Option Hst := match qae (file.extract s.2.1 file.size) with
  | none => none
  | some m => if most < s.2.1 + m then none else (q7k key s.1.length s.2.2 (file.extract s.2.1 (s.2.1 + m))).map fun b => (s.1 ++ [file.extract s.2.1 (s.2.1 + m)], s.2.1 + m, b)
noncomputable def q7l (key file : ByteArray) (most : Nat) : Nat → Hst → Hst
  | 0, s => s
  | k + 1, s => match q67 key file most s with
    | none => s
    | some s' => q7l key file most k s'
def qr8 : Hst := ([], 0, ([], []))
noncomputable def hist (key file : ByteArray) (most : Nat) : Hst := q7l key file most file.size qr8
theorem ext_size (x : ByteArray) (n : Nat) : (bl (x.extract n x.size)).length = x.size - n := by rw [q7p, List.length_drop, ← q4y]
theorem qet {key file : ByteArray} {most : Nat} {s s' : Hst} (h : q67 key file most s = some s') : s.2.1 < s'.2.1 ∧ s'.2.1 ≤ file.size ∧ s'.2.1 ≤ most := by
  unfold q67 at h
  split at h
  · cases h
  · rename_i m hm
    have hz := q99 _ _ _ _ _ hm
    rw [ext_size] at hz
    split at h
    · cases h
    · rename_i hn
      cases hr : q7k key s.1.length s.2.2 (file.extract s.2.1 (s.2.1 + m)) with
      | none => rw [hr] at h; cases h
      | some b =>
        rw [hr] at h
        simp only [Option.map_some, Option.some.injEq] at h
        subst h
        simp only
        omega
theorem qha {key file : ByteArray} {most : Nat} {s : Hst} (h : q67 key file most s = none) : ∀ k, q7l key file most k s = s
  | 0 => rfl
  | k + 1 => by rw [q7l, h]
theorem qkq {key file : ByteArray} {most : Nat} : ∀ (a b : Nat) (s : Hst), q7l key file most (a + b) s = q7l key file most b (q7l key file most a s)
  | 0, b, s => by rw [Nat.zero_add, q7l]
  | a + 1, b, s => by
    rw [show a + 1 + b = (a + b) + 1 by omega, q7l, q7l]
    cases e : q67 key file most s with
    | none => simp only; rw [qha e]
    | some s' => exact qkq a b s'
def q87 (ts : List ByteArray) : By := (ts.map bl).flatten
noncomputable def qch (key : ByteArray) : List ByteArray → Nat → Book → Option Book
  | [], _, b => some b
  | t :: ts, i, b => (q7k key i b t).bind fun b' => qch key ts (i + 1) b'
theorem q9p (a b : List ByteArray) : q87 (a ++ b) = q87 a ++ q87 b := by simp [q87]
theorem qci (t : ByteArray) : q87 [t] = bl t := by simp [q87]
theorem qg0 (key : ByteArray) : ∀ (a c : List ByteArray) (i : Nat) (b : Book), qch key (a ++ c) i b = (qch key a i b).bind fun b' => qch key c (i + a.length) b'
  | [], c, i, b => rfl
  | t :: a, c, i, b => by
    simp only [List.cons_append, qch, List.length_cons]
    cases q7k key i b t with
    | none => rfl
    | some b' =>
      simp only [Option.bind_some]
      rw [qg0 key a c (i + 1) b', show i + 1 + a.length = i + (a.length + 1) by omega]
theorem qkr (key : ByteArray) (t : ByteArray) (i : Nat) (b : Book) : qch key [t] i b = q7k key i b t := by
  rw [qch]
  cases q7k key i b t <;> rfl
theorem qcj {key : ByteArray} {i : Nat} {b b' : Book} {t : ByteArray} (h : q7k key i b t = some b') : ∃ r, qb3 r = true ∧ t = qb4 r ∧ q5k t = (r, true) ∧ q89 key (i : Int) b r = (b', true) := by
  unfold q7k at h
  split at h
  · rename_i hc
    have hr := qdi hc.1
    refine ⟨(q5k t).1, hr.1, hr.2.symm, by rw [← hc.1], ?_⟩
    simp only [Option.some.injEq] at h
    rw [← h, ← hc.2]
  · cases h
theorem qhb {key : ByteArray} {most : Nat} : ∀ (c : List ByteArray) (a : List ByteArray) (file : ByteArray) (m : By) (b b' : Book), bl file = q87 (a ++ c) ++ m → (q87 (a ++ c)).length ≤ most → qch key c a.length b = some b' →
    q7l key file most c.length (a, (q87 a).length, b) = (a ++ c, (q87 (a ++ c)).length, b')
  | [], a, file, m, b, b', hf, hm, hp => by
    cases hp
    rw [List.append_nil, List.length_nil, q7l]
  | t :: c, a, file, m, b, b', hf, hm, hp => by
    rw [qch] at hp
    cases hr : q7k key a.length b t with
    | none => rw [hr] at hp; cases hp
    | some b1 =>
      rw [hr, Option.bind_some] at hp
      obtain ⟨r, r1, r2, r3, r4⟩ := qcj hr
      have e1 : a ++ t :: c = (a ++ [t]) ++ c := by simp
      have ht : (bl t).length = t.size := (q4y t).symm
      have hd : (bl file).drop (q87 a).length = bl t ++ (q87 c ++ m) := by
        rw [hf, e1, q9p, q9p, qci, List.append_assoc, List.append_assoc, List.drop_left']
        rfl
      have hN : qae (file.extract (q87 a).length file.size) = some t.size := by
        have : file.extract (q87 a).length file.size = mkB (bl (qb4 r) ++ (q87 c ++ m)) := q53 (by rw [q7p, hd, q52, ← r2])
        rw [this, qoj r1, ← r2]
      have hX : file.extract (q87 a).length ((q87 a).length + t.size) = t := q53 (by
        rw [qb2, hd, Nat.add_sub_cancel_left, List.take_left' ht])
      have hl : (q87 (a ++ [t])).length = (q87 a).length + t.size := by rw [q9p, qci, List.length_append, ht]
      have hs : q67 key file most (a, (q87 a).length, b) = some (a ++ [t], (q87 a).length + t.size, b1) := by
        unfold q67
        simp only [hN]
        rw [if_neg, hX, hr, Option.map_some]
        rw [e1, q9p, List.length_append, hl] at hm
        omega
      rw [List.length_cons, q7l, hs]
      simp only
      rw [← hl, e1]
      exact qhb c (a ++ [t]) file m b1 b' (by rw [← e1]; exact hf) (by rw [← e1]; exact hm) (by rw [List.length_append, List.length_singleton]; exact hp)
theorem qii {ts : List ByteArray} {key : ByteArray} {i : Nat} {b b' : Book} (h : qch key ts i b = some b') : ts.length ≤ (q87 ts).length := by
  induction ts generalizing i b with
  | nil => exact Nat.zero_le _
  | cons t ts ih =>
    rw [qch] at h
    cases hr : q7k key i b t with
    | none => rw [hr] at h; cases h
    | some b1 =>
      rw [hr, Option.bind_some] at h
      obtain ⟨r, r1, r2, _, _⟩ := qcj hr
      have := ih h
      have hz : 1 ≤ (bl t).length := by rw [← q4y, r2, qih]; omega
      rw [show q87 (t :: ts) = bl t ++ q87 ts from rfl, List.length_append, List.length_cons]
      omega
theorem qks {key : ByteArray} {ts : List ByteArray} {b : Book} {most : Nat} (h : qch key ts 0 ([], []) = some b) (hm : (q87 ts).length ≤ most) : hist key (mkB (q87 ts)) most = (ts, (q87 ts).length, b) := by
  have hs := qii h
  have h1 := qhb ts [] (mkB (q87 ts)) [] ([], []) b (by rw [q52, List.nil_append, List.append_nil]) (by rw [List.nil_append]; exact hm) (by simpa using h)
  rw [List.nil_append] at h1
  have hz := size_mk (q87 ts)
  have hN : q67 key (mkB (q87 ts)) most (ts, (q87 ts).length, b) = none := by
    cases e : q67 key (mkB (q87 ts)) most (ts, (q87 ts).length, b) with
    | none => rfl
    | some s' => have := qet e; simp only [hz] at this; omega
  unfold hist
  rw [hz]
  obtain ⟨c, hc⟩ := Nat.le.dest hs
  rw [← hc, qkq]
  have h0 : q7l key (mkB (q87 ts)) most ts.length qr8 = (ts, (q87 ts).length, b) := h1
  rw [h0, qha hN, hc]
end Go.Proofs.YtjfkeknnjjlepaaGreatDoor.Rf
end

section
/- Clients, told plainly: what is ok, what is taken, a fall, a rise. -/
namespace Go.Proofs.YtjfkeknnjjlepaaGreatDoor.Rf
open Go Go.RowKit
set_option linter.unusedVariables false
set_option linter.unusedSimpArgs false
def zB : Book := ([], [])
def zC : q0l := (bz, false, 0, zB, bz)
noncomputable def q68 (c : q0l) : Bool := qde c.1 && (decide (c.2.2.2.2.size ≤ 13270) &&
  (if c.2.1 then decide (c.2.2.2.2.size ≤ 12000) && (decide ((hist c.1 c.2.2.2.2 12000).2.1 = c.2.2.2.2.size) && (decide (c.2.2.1 = ((hist c.1 c.2.2.2.2 12000).1.length : Int)) && decide (c.2.2.2.1 = (hist c.1 c.2.2.2.2 12000).2.2)))
   else decide (c.2.2.1 = 0) && decide (c.2.2.2.1 = zB)))
structure UpC (c : q0l) (ts : List ByteArray) : Prop where
  key : qde c.1 = true
  up : c.2.1 = true
  num : c.2.2.1 = (ts.length : Int)
  play : qch c.1 ts 0 zB = some c.2.2.2.1
  file : c.2.2.2.2 = mkB (q87 ts)
  size : (q87 ts).length ≤ 12000
theorem UpC.ok {c : q0l} {ts : List ByteArray} (h : UpC c ts) : q68 c = true := by
  have hz : c.2.2.2.2.size = (q87 ts).length := by rw [h.file, size_mk]
  have hh : hist c.1 c.2.2.2.2 12000 = (ts, (q87 ts).length, c.2.2.2.1) := by rw [h.file]; exact qks h.play h.size
  have h1 := h.size
  unfold q68
  rw [h.key, h.up, if_pos rfl, hh]
  simp only
  rw [decide_eq_true (by omega), decide_eq_true (by omega), decide_eq_true hz.symm, decide_eq_true h.num]
  simp
theorem UpC.hist {c : q0l} {ts : List ByteArray} (h : UpC c ts) : hist c.1 c.2.2.2.2 12000 = (ts, (q87 ts).length, c.2.2.2.1) := by rw [h.file]; exact qks h.play h.size
theorem UpC.take {c : q0l} {ts : List ByteArray} {t : ByteArray} {b' : Book} (h : UpC c ts) (hr : q7k c.1 ts.length c.2.2.2.1 t = some b') (hz : c.2.2.2.2.size + t.size ≤ 12000) : UpC (c.1, true, (ts.length : Int) + 1, b', c.2.2.2.2 ++ t) (ts ++ [t]) := by
  have hc : q87 (ts ++ [t]) = q87 ts ++ bl t := by rw [q9p, qci]
  refine ⟨h.key, rfl, by simp, ?_, ?_, ?_⟩
  · simp only
    rw [qg0, h.play, Option.bind_some, qkr, Nat.zero_add, hr]
  · simp only
    rw [hc, h.file]
    exact q53 (by rw [q59, q52, q52])
  · rw [hc, List.length_append, ← q4y]
    rw [h.file, size_mk] at hz
    exact hz
end Go.Proofs.YtjfkeknnjjlepaaGreatDoor.Rf
end

section
/- The reader that draws: what it picks stays in its range. -/
namespace Go.Proofs.YtjfkeknnjjlepaaGreatDoor.Rf
open Go Go.RowKit
set_option linter.unusedVariables false
set_option linter.unusedSimpArgs false
abbrev Rdr := List Int × Int
def Rd (m : Int) (x : Rdr) : Prop := ((∀ b ∈ x.1, 0 ≤ b ∧ b ≤ 255) ∧ x.1.length ≤ 2000) ∧ 0 ≤ x.2 ∧ x.2 ≤ m
theorem Rd.up {m n : Int} {x : Rdr} (h : Rd m x) (k : m ≤ n) : Rd n x := ⟨h.1, h.2.1, Int.le_trans h.2.2 k⟩
def Dr {α : Type} (X : Nat → Option (α × Rdr)) (m : Int) (P : α → Prop) : Prop := ∃ v x', Al (fun k => X k = some (v, x')) ∧ P v ∧ Rd m x'
theorem Dr.up {α : Type} {X : Nat → Option (α × Rdr)} {m n : Int} {P Q : α → Prop} (h : Dr X m P) (k : m ≤ n) (f : ∀ v, P v → Q v) : Dr X n Q := by
  obtain ⟨v, x, e, p, r⟩ := h
  exact ⟨v, x, e, f v p, r.up k⟩
theorem Dr.congr {α : Type} {X Y : Nat → Option (α × Rdr)} {m : Int} {P : α → Prop} (e : ∀ k, Y k = X k) (h : Dr X m P) : Dr Y m P := by
  obtain rfl : Y = X := funext e
  exact h
theorem Dr.now {α : Type} {X : Nat → Option (α × Rdr)} {v : α} {x : Rdr} {m : Int} {P : α → Prop} (e : ∀ k, X k = some (v, x)) (hp : P v) (hr : Rd m x) : Dr X m P := ⟨v, x, Al.now e, hp, hr⟩
theorem Dr.bind {α β : Type} {X : Nat → Option (α × Rdr)} {g : Nat → α × Rdr → Option (β × Rdr)} {m n : Int} {P : α → Prop} {Q : β → Prop} (h : Dr X m P) (k : ∀ v x, P v → Rd m x → Dr (fun k => g k (v, x)) n Q) : Dr (fun k => (X k).bind (g k)) n Q := by
  obtain ⟨v, x, e, p, r⟩ := h
  obtain ⟨w, y, e2, q, s⟩ := k v x p r
  exact ⟨w, y, (e.and e2).mono fun k ⟨a, b⟩ => by show (X k).bind (g k) = _; rw [a, Option.bind_some]; exact b, q, s⟩
theorem Dr.succ {α : Type} {X : Nat → Option (α × Rdr)} {m : Int} {P : α → Prop} (h : Dr (fun k => X (k + 1)) m P) : Dr X m P := by
  obtain ⟨v, x, e, r⟩ := h
  exact ⟨v, x, Al.succ e, r⟩
def Dr2 {α : Type} (X : Nat → Nat → Option (α × Rdr)) (m : Int) (P : α → Prop) : Prop := ∃ v x', Al2 (fun k k1 => X k k1 = some (v, x')) ∧ P v ∧ Rd m x'
theorem Dr2.congr {α : Type} {X Y : Nat → Nat → Option (α × Rdr)} {m : Int} {P : α → Prop} (e : ∀ k k1, Y k k1 = X k k1) (h : Dr2 X m P) : Dr2 Y m P := by
  obtain rfl : Y = X := funext fun k => funext (e k)
  exact h
theorem Dr2.up {α : Type} {X : Nat → Nat → Option (α × Rdr)} {m n : Int} {P Q : α → Prop} (h : Dr2 X m P) (k : m ≤ n) (f : ∀ v, P v → Q v) : Dr2 X n Q := by
  obtain ⟨v, x, e, p, r⟩ := h
  exact ⟨v, x, e, f v p, r.up k⟩
theorem Dr2.now {α : Type} {X : Nat → Nat → Option (α × Rdr)} {v : α} {x : Rdr} {m : Int} {P : α → Prop} (e : ∀ k k1, X k k1 = some (v, x)) (hp : P v) (hr : Rd m x) : Dr2 X m P := ⟨v, x, Al2.now e, hp, hr⟩
theorem Dr2.bind {α β : Type} {X : Nat → Nat → Option (α × Rdr)} {g : Nat → Nat → α × Rdr → Option (β × Rdr)} {m n : Int} {P : α → Prop} {Q : β → Prop} (h : Dr2 X m P) (k : ∀ v x, P v → Rd m x → Dr2 (fun k k1 => g k k1 (v, x)) n Q) : Dr2 (fun k k1 => (X k k1).bind (g k k1)) n Q := by
  obtain ⟨v, x, e, p, r⟩ := h
  obtain ⟨w, y, e2, q, s⟩ := k v x p r
  exact ⟨w, y, (e.and e2).mono fun k k1 ⟨a, b⟩ => by show (X k k1).bind (g k k1) = _; rw [a, Option.bind_some]; exact b, q, s⟩
theorem Dr2.succ {α : Type} {X : Nat → Nat → Option (α × Rdr)} {m : Int} {P : α → Prop} (h : Dr2 (fun k k1 => X k (k1 + 1)) m P) : Dr2 X m P := by
  obtain ⟨v, x, e, r⟩ := h
  exact ⟨v, x, Al2.succ e, r⟩
theorem Dr2.diag {α : Type} {X : Nat → Nat → Option (α × Rdr)} {m : Int} {P : α → Prop} (h : Dr2 X m P) : Dr (fun k => X k k) m P := by
  obtain ⟨v, x, e, r⟩ := h
  exact ⟨v, x, e.diag, r⟩
theorem Dr.fst {α : Type} {X : Nat → Option (α × Rdr)} {m : Int} {P : α → Prop} (h : Dr X m P) : Dr2 (fun k _ => X k) m P := by
  obtain ⟨v, x, e, r⟩ := h
  exact ⟨v, x, e.fst, r⟩
theorem Dr.snd {α : Type} {X : Nat → Option (α × Rdr)} {m : Int} {P : α → Prop} (h : Dr X m P) : Dr2 (fun _ k => X k) m P := by
  obtain ⟨v, x, e, r⟩ := h
  exact ⟨v, x, e.snd, r⟩
theorem Rd.at {m : Int} {x : Rdr} (h : Rd m x) (i : Nat) : 0 ≤ x.1.getD i (0 : Int) ∧ x.1.getD i (0 : Int) ≤ 255 := by
  rw [List.getD_eq_getElem?_getD]
  cases e : x.1[i]? with
  | none => simp
  | some b => exact h.1.1 b (List.mem_of_getElem? e)
end Go.Proofs.YtjfkeknnjjlepaaGreatDoor.Rf
end

section
/- Draws: affixes, rows of words, entries, books. -/
namespace Go.Proofs.YtjfkeknnjjlepaaGreatDoor.Rf
open Go Go.RowKit
set_option linter.unusedVariables false
set_option linter.unusedSimpArgs false
def Dr3 {α : Type} (X : Nat → Nat → Nat → Option (α × Rdr)) (m : Int) (P : α → Prop) : Prop := ∃ v x', Al3 (fun a b c => X a b c = some (v, x')) ∧ P v ∧ Rd m x'
theorem Dr3.congr {α : Type} {X Y : Nat → Nat → Nat → Option (α × Rdr)} {m : Int} {P : α → Prop} (e : ∀ a b c, Y a b c = X a b c) (h : Dr3 X m P) : Dr3 Y m P := by
  obtain rfl : Y = X := funext fun a => funext fun b => funext (e a b)
  exact h
theorem Dr3.succ {α : Type} {X : Nat → Nat → Nat → Option (α × Rdr)} {m : Int} {P : α → Prop} (h : Dr3 (fun a b c => X a b (c + 1)) m P) : Dr3 X m P := by
  obtain ⟨v, x, e, r⟩ := h
  exact ⟨v, x, Al3.succ e, r⟩
theorem Dr3.in2 {α : Type} {X : Nat → Nat → Nat → Option (α × Rdr)} {m : Int} {P : α → Prop} (h : Dr3 X m P) : Dr2 (fun a b => X a b b) m P := by
  obtain ⟨v, x, e, r⟩ := h
  exact ⟨v, x, e.in2, r⟩
def affS (a : Aff) : Prop := a.1.size ≤ 8 ∧ a.2.2.1.size ≤ 8 ∧ a.2.2.2.1.size ≤ 8 ∧ a.2.2.2.2.size ≤ 8
def qx5 (n : Nat) (l : List Aff) : Prop := l.length ≤ n ∧ ∀ a ∈ l, affS a
def entS (e : En) : Prop := e.1.size ≤ 16 ∧ e.2.size ≤ 16
def qx6 (n : Nat) (l : List En) : Prop := l.length ≤ n ∧ ∀ e ∈ l, entS e
def qvw (n : Nat) (b : Book) : Prop := qx5 n b.1 ∧ qx6 n b.2
end Go.Proofs.YtjfkeknnjjlepaaGreatDoor.Rf
end

section
/- Draws: books and deltas of any kind. -/
namespace Go.Proofs.YtjfkeknnjjlepaaGreatDoor.Rf
open Go Go.RowKit
set_option linter.unusedVariables false
set_option linter.unusedSimpArgs false
def qx7 (n : Nat) (l : List ByteArray) : Prop := l.length ≤ n ∧ ∀ s ∈ l, s.size ≤ 16
def qr9 (n : Nat) (d : Delta) : Prop := qx7 n d.1 ∧ qx6 n d.2.1 ∧ qx5 n d.2.2.2
theorem qvw.up {n m : Nat} {b : Book} (h : qvw n b) (k : n ≤ m) : qvw m b := ⟨⟨Nat.le_trans h.1.1 k, h.1.2⟩, Nat.le_trans h.2.1 k, h.2.2⟩
theorem qr9.up {n m : Nat} {d : Delta} (h : qr9 n d) (k : n ≤ m) : qr9 m d := ⟨⟨Nat.le_trans h.1.1 k, h.1.2⟩, ⟨Nat.le_trans h.2.1.1 k, h.2.1.2⟩, Nat.le_trans h.2.2.1 k, h.2.2.2⟩
end Go.Proofs.YtjfkeknnjjlepaaGreatDoor.Rf
end

section
/- The laws' own words: the same books, one of a row. -/
namespace Go.Proofs.YtjfkeknnjjlepaaGreatDoor.Rf
open Go Go.RowKit
set_option linter.unusedVariables false
set_option linter.unusedSimpArgs false
end Go.Proofs.YtjfkeknnjjlepaaGreatDoor.Rf
end

section
/- Drawn keys and releases. -/
namespace Go.Proofs.YtjfkeknnjjlepaaGreatDoor.Rf
open Go Go.RowKit
set_option linter.unusedVariables false
set_option linter.unusedSimpArgs false
end Go.Proofs.YtjfkeknnjjlepaaGreatDoor.Rf
end

section
/- The law FnReleaseOk is true. -/
namespace Go.Proofs.YtjfkeknnjjlepaaGreatDoor.Rf
open Go Go.RowKit
set_option linter.unusedVariables false
set_option linter.unusedSimpArgs false
theorem qck (r : Release) (hr : smR r) : Al fun k => q30.f k r = some (qn8 r) := by
  cases h2 : qb3 r with
  | false => exact (q8f r hr).mono fun k e => by rw [q30.f_eq, e, h2, Option.bind_some, Bool.not_false, q06, qn8, h2]; rfl
  | true =>
  obtain ⟨⟨a1, a2⟩, a3, a4, a5, a6⟩ := q80 h2
  have z := q6l a5
  have z5 : (⟨#[115, 101, 97, 108, 32]⟩ : ByteArray).size = 5 := rfl
  refine ((q8f r hr).and (qad r (by omega) a2 a3 (by rw [q6l a4]; omega))).mono fun k ⟨e, e2⟩ => ?_
  rw [q30.f_eq, e, h2, Option.bind_some, Bool.not_true, q08, e2, Option.bind_some, q4h (by omega), q06, q4h (by rw [ByteArray.size_append]; omega), q06, q4h (by rw [ByteArray.size_append, ByteArray.size_append, q4x]; omega), q06, qn8, h2, if_pos rfl]
  refine congrArg some (q53 ?_)
  rw [qb4, q52]
  simp only [q59, q6s, List.append_assoc]
  rfl
end Go.Proofs.YtjfkeknnjjlepaaGreatDoor.Rf
end

section
/- The laws' own words: the same deltas; two books drawn. -/
namespace Go.Proofs.YtjfkeknnjjlepaaGreatDoor.Rf
open Go Go.RowKit
set_option linter.unusedVariables false
set_option linter.unusedSimpArgs false
end Go.Proofs.YtjfkeknnjjlepaaGreatDoor.Rf
end

section
/- The law FnDeltaText is true. -/
namespace Go.Proofs.YtjfkeknnjjlepaaGreatDoor.Rf
open Go Go.RowKit
set_option linter.unusedVariables false
set_option linter.unusedSimpArgs false
theorem qnd (x : ByteArray) (h : x.size ≤ 50000000) : smD (q7h x).1 := by
  rcases qlr x with e | ⟨_, h2, _⟩
  · rw [e]
    exact ⟨⟨by simp [d0], fun s hs => by simp [d0] at hs⟩, ⟨by simp [d0], fun s hs => by simp [d0] at hs⟩, by simp [d0], fun s hs => by simp [d0] at hs⟩
  · obtain ⟨⟨a1, a2⟩, ⟨a3, a4⟩, a5, a6⟩ := qod h2
    refine ⟨⟨by omega, fun s hs => ?_⟩, ⟨by omega, fun e he => ?_⟩, by omega, fun a ha => ?_⟩
    · have := a2 s hs; unfold Sm; omega
    · have := a4 e he; unfold tE at this; unfold smE Sm; omega
    · have := a6 a ha; unfold tA at this; unfold smA Sm; omega
end Go.Proofs.YtjfkeknnjjlepaaGreatDoor.Rf
end

section
/- A release read, both sides: readR. -/
namespace Go.Proofs.YtjfkeknnjjlepaaGreatDoor.Rf
open Go Go.RowKit
set_option linter.unusedVariables false
set_option linter.unusedSimpArgs false
theorem qvx (k : Nat) (s p : ByteArray) : strings_TrimPrefix.f k s p = some (qeb p s) := by
  have h := q5p k s p
  rw [strings_HasPrefix.f_eq] at h
  have h2 : q0p.f k s p = some (qiw s p) := by
    cases e : q0p.f k s p with
    | none => rw [e] at h; cases h
    | some b => rw [e] at h; exact h
  rw [strings_TrimPrefix.f_eq, q12.f_eq, h2, Option.bind_some, qeb]
  cases hb : qiw s p with
  | false => rw [q08, Option.bind_some, if_neg (by simp)]
  | true =>
    have hp : p.size ≤ s.size := by
      unfold qiw at hb
      simp only [Bool.and_eq_true, decide_eq_true_eq] at hb
      exact hb.1
    rw [q06, decide_eq_true (show (0 : Int) ≤ (p.size : Int) by omega), decide_eq_true (show (p.size : Int) ≤ (s.size : Int) by omega), decide_eq_true (Int.le_refl (s.size : Int)), show (true && (true && true)) = true from rfl, q06, Option.bind_some, if_pos rfl, Int.toNat_natCast, Int.toNat_natCast]
theorem qvy (ps : List By) (h : ps ≠ []) (p : By) : (nlB (preB p ps)).length = p.length + (nlB ps).length := by
  cases ps with
  | nil => exact absurd rfl h
  | cons q t => simp [preB, q58] <;> omega
theorem qij (c : UInt8) : ∀ l : By, (nlB (qe0 c l)).length = l.length + 1
  | [] => rfl
  | b :: l => by
    rw [q6i]
    split
    · rw [q58, List.length_append, List.length_cons, qij c l]; simp
    · rw [qvy _ (qfu c l), qij c l, List.length_cons, List.length_cons, List.length_nil]; omega
theorem qvz {a b : List By} (h : a.Sublist b) : (nlB a).length ≤ (nlB b).length := by
  induction h with
  | slnil => exact Nat.le_refl _
  | cons x _ ih => rw [q58, List.length_append, List.length_cons]; omega
  | cons_cons x _ ih => rw [q58, q58, List.length_append, List.length_append, List.length_cons, List.length_cons]; omega
def qs2 (ls : List ByteArray) : List ByteArray := (ls.take (ls.length - 1)).drop 1
theorem qra (ls : List ByteArray) : (qs2 ls).Sublist ls := (List.drop_sublist _ _).trans (List.take_sublist _ _)
theorem qrb (x : ByteArray) {ls : List ByteArray} (h : ls.Sublist (q5g 10 x)) : (nlB (ls.map bl)).length ≤ x.size + 1 := by
  have h1 : (nlB ((q5g 10 x).map bl)).length = x.size + 1 := by
    rw [q5g, List.map_map, show (bl ∘ mkB) = id from funext fun l => q52 l, List.map_id, qij, q51]
  rw [← h1]
  exact qvz (h.map bl)
theorem qrc : (q5g 10 bz).length = 1 := rfl
theorem qik {x : ByteArray} (hx : x ≠ bz) (r : Release) (z : Release × Bool) : (if qn8 r = x then (r, true) else z) = (if (qb3 r && decide (qb4 r = x)) = true then (r, true) else z) := by
  unfold qn8
  cases h : qb3 r with
  | true =>
    rw [if_pos rfl, Bool.true_and]
    by_cases c : qb4 r = x
    · rw [if_pos c, decide_eq_true c, if_pos rfl]
    · rw [if_neg c, decide_eq_false c, if_neg (by simp)]
  | false =>
    rw [if_neg (show ¬ (false = true) by simp), Bool.false_and, if_neg (fun e => hx e.symm), if_neg (show ¬ (false = true) by simp)]
theorem q8g (x : ByteArray) (hx : x.size ≤ 40000000) : Al fun k => q0r.f k x = some (q5k x) := by
  rw [← qr2 qxy (fun r h => qti h)]
  have hlo := qh4 x (by omega)
  have hsub : (q7j x).Sublist (q5g 10 x) := List.dropLast_sublist _
  have hpc : ∀ p ∈ q7j x, p.size ≤ x.size := fun p hp => q5u 10 x p (hsub.subset hp)
  have hln : (q7j x).length ≤ x.size + 1 := Nat.le_trans hsub.length_le (q6p 10 x)
  have hsum : (nlB ((qs2 (q7j x)).map bl)).length ≤ x.size + 1 := qrb x ((qra _).trans hsub)
  have hz : 2 ≤ (q7j x).length → x ≠ bz := fun h e => by
    subst e
    have := hsub.length_le
    rw [qrc] at this
    omega
  rw [show (q5g 10 x).dropLast = q7j x from rfl] at hlo
  unfold qxy
  simp only [show ∀ l : List ByteArray, qr0 l = mkB (nlB ((qs2 l).map bl)) from fun _ => rfl]
  generalize q7j x = ls at *
  by_cases c0 : ls.length < 2
  · refine hlo.mono fun k e => ?_
    rw [q0r.f_eq, e, Option.bind_some, decide_eq_true (by omega), q06, if_pos c0]
    rfl
  rw [if_neg c0]
  have hx0 := hz (by omega)
  have g0 := q6e hpc 0
  have gl := q6e hpc (ls.length - 1)
  have d0' : (decide ((0 : Int) ≤ 0) && decide ((0 : Int) < (ls.length : Int))) = true := by rw [decide_eq_true (show (0 : Int) < (ls.length : Int) by omega)]; rfl
  by_cases c1 : (q5g 32 (ls.getD 0 bz)).length = 3
  case neg =>
    refine hlo.mono fun k e => ?_
    rw [q0r.f_eq, e, Option.bind_some, decide_eq_false (by omega), q08, d0', q06, show ((0 : Int).toNat) = 0 from rfl, qep k 32 _ (by omega), Option.bind_some, show (((q5g 32 (ls.getD 0 bz)).length : Int) != 3) = true by rw [bne_iff_ne]; omega, q06, if_pos c1]
    rfl
  rw [if_neg (fun h => h c1)]
  have w1 : w64 ((ls.length : Int) - 1) = ((ls.length - 1 : Nat) : Int) := by rw [w64, q6g (by omega) (by omega)]; omega
  have hwp := fun p hp => q5u 32 (ls.getD 0 bz) p hp
  have hs1 := q6e hwp 1
  have hs2 := q6e hwp 2
  generalize hB : mkB (nlB ((qs2 ls).map bl)) = B
  generalize hws : q5g 32 (ls.getD 0 bz) = ws at *
  have hBz : B.size ≤ x.size + 1 := by rw [← hB, size_mk]; exact hsum
  have sm := qnd B (by omega)
  have hD := qea B (by omega)
  have hmid : qs2 ls = (ls.take (ls.length - 1)).drop 1 := rfl
  have hml : (qs2 ls).length ≤ x.size + 1 := Nat.le_trans (qra ls).length_le hln
  have hR : Al fun k => q30.f k (qa9 (bl (ws.getD 1 bz)), (q7h B).1, ws.getD 2 bz, qeb (mkB q74) (ls.getD (ls.length - 1) bz)) = some (qn8 (qa9 (bl (ws.getD 1 bz)), (q7h B).1, ws.getD 2 bz, qeb (mkB q74) (ls.getD (ls.length - 1) bz))) := by
    refine qck _ ⟨sm, ?_, ?_⟩
    · show (ws.getD 2 bz).size ≤ _; omega
    · show (qeb _ _).size ≤ _
      unfold qeb
      split
      · rw [ByteArray.size_extract]; omega
      · omega
  have key : ∀ (t : List ByteArray) (i : Nat) (acc : ByteArray), (qs2 ls).drop i = t → acc ++ mkB (nlB (t.map bl)) = B →
      Al2 fun k k1 => q0r.L12 k k1 x ((0 : Int), (([] : List ByteArray), ([] : List En), false, ([] : List Aff)), bz, bz) (qa9 (bl (ws.getD 1 bz)), (([] : List ByteArray), ([] : List En), false, ([] : List Aff)), ws.getD 2 bz, qeb (mkB q74) (ls.getD (ls.length - 1) bz)) acc (qs2 ls) ((qs2 ls).length : Int) (i : Int) =
        some (qxz (if (q7h B).2 = true then some (qa9 (bl (ws.getD 1 bz)), (q7h B).1, ws.getD 2 bz, qeb (mkB q74) (ls.getD (ls.length - 1) bz)) else none) x) := by
    intro t
    induction t with
    | nil =>
      intro i acc hd hacc
      have ha : acc = B := by rw [← hacc]; exact q53 (by rw [q59, q52]; simp [nlB])
      refine Al2.succ ((hD.and hR).fst.mono fun k k1 ⟨e1, e2⟩ => ?_)
      rw [q0r.L12_eq, at_end (drop_nil hd), q08, ha, e1, Option.bind_some]
      dsimp only
      cases hd2 : (q7h B).2 with
      | false => rw [Bool.not_false, q06, if_neg (by simp)]; rfl
      | true =>
        rw [Bool.not_true, q08, e2, Option.bind_some, if_pos rfl, q5y]
        show _ = some (if _ then _ else _)
        rw [← qik hx0]
        by_cases c : qn8 (qa9 (bl (ws.getD 1 bz)), (q7h B).1, ws.getD 2 bz, qeb (mkB q74) (ls.getD (ls.length - 1) bz)) = x
        · rw [decide_eq_true c, Bool.not_true, q08, if_pos c]
        · rw [decide_eq_false c, Bool.not_false, q06, if_neg c]; rfl
    | cons w t ih =>
      intro i acc hd hacc
      obtain ⟨hi, g1, g2⟩ := q45 bz hd
      obtain ⟨c1, c2, c3, c4⟩ := q6t hi (by omega)
      have e1 : (acc ++ (w ++ (⟨#[10]⟩ : ByteArray))) ++ mkB (nlB (t.map bl)) = B := by
        rw [← hacc]
        refine q53 ?_
        simp only [q59, q52, q6s, List.map_cons, q58, List.append_assoc, List.cons_append, List.nil_append]
      have z0 : (acc ++ (w ++ (⟨#[10]⟩ : ByteArray))).size ≤ B.size := by rw [← e1, ByteArray.size_append (b := mkB _)]; omega
      have z1 : (acc ++ (w ++ (⟨#[10]⟩ : ByteArray))).size = acc.size + (w ++ (⟨#[10]⟩ : ByteArray)).size := ByteArray.size_append
      have z2 : (w ++ (⟨#[10]⟩ : ByteArray)).size = w.size + (⟨#[10]⟩ : ByteArray).size := ByteArray.size_append
      refine Al2.succ ((ih (i + 1) _ g2 e1).mono fun k k1 e => ?_)
      rw [q0r.L12_eq, c1, q06, c2, Bool.true_and, q06, c3, g1, q4h (by omega), q06, q4h (by omega), q06, w64, c4, e]
  have hA : Al fun k => strconv_Atoi.f k (ws.getD 1 bz) = some (qa9 (bl (ws.getD 1 bz)), 0) := Al.now fun k => by
    show strconv_Atoi.F k _ = _
    rw [strconv_Atoi.F, if_pos (by omega)]
    rfl
  refine ((hlo.and hA).and (key (qs2 ls) 0 bz rfl (by rw [← hB]; exact q53 (by rw [q59]; rfl))).diag).mono fun k ⟨⟨e, e2⟩, e3⟩ => ?_
  rw [show ((0 : Nat) : Int) = 0 from rfl] at e3
  rw [q0r.f_eq, e, Option.bind_some, decide_eq_false (by omega), q08, d0', q06, show ((0 : Int).toNat) = 0 from rfl, qep k 32 _ (by omega), Option.bind_some, hws, c1, show ((((3 : Nat) : Int)) != 3) = false from rfl, q08,
    show (decide ((0 : Int) ≤ 2) && decide ((2 : Int) < ((3 : Nat) : Int))) = true from rfl, q06, w1, decide_eq_true (show (0 : Int) ≤ ((ls.length - 1 : Nat) : Int) by omega), decide_eq_true (show ((ls.length - 1 : Nat) : Int) < (ls.length : Int) by omega), Bool.and_self, q06, Int.toNat_natCast, qvx, Option.bind_some,
    show (decide ((0 : Int) ≤ 1) && decide ((1 : Int) < ((3 : Nat) : Int))) = true from rfl, q06, show ((1 : Int).toNat) = 1 from rfl, e2, Option.bind_some, decide_eq_true (show (1 : Int) ≤ ((ls.length - 1 : Nat) : Int) by omega), decide_eq_true (show ((ls.length - 1 : Nat) : Int) ≤ (ls.length : Int) by omega), show (decide ((0 : Int) ≤ 1) && (true && true)) = true from rfl, q06, show ((2 : Int).toNat) = 2 from rfl, show (⟨#[115, 101, 97, 108, 32]⟩ : ByteArray) = mkB q74 from rfl, ← hmid]
  dsimp only
  exact e3
theorem qil {r : Release} (h : qb3 r = true) : smR r := by
  obtain ⟨_, a3, a4, a5, a6⟩ := qce h
  have h1 := q6l a4
  have h2 := q6l a5
  refine ⟨?_, by omega, by omega⟩
  obtain ⟨⟨a1, a2⟩, ⟨a3, a4⟩, a5, a6⟩ := qod a3
  refine ⟨⟨by omega, fun s hs => ?_⟩, ⟨by omega, fun e he => ?_⟩, by omega, fun a ha => ?_⟩
  · have := a2 s hs; unfold Sm; omega
  · have := a4 e he; unfold tE at this; unfold smE Sm; omega
  · have := a6 a ha; unfold tA at this; unfold smA Sm; omega
end Go.Proofs.YtjfkeknnjjlepaaGreatDoor.Rf
end

section
/- What a file holds, both sides: hist. -/
namespace Go.Proofs.YtjfkeknnjjlepaaGreatDoor.Rf
open Go Go.RowKit
set_option linter.unusedVariables false
set_option linter.unusedSimpArgs false
theorem qne (c : UInt8) : ∀ l : By, c ∉ l → Lib.indexByte l c = -1
  | [], _ => rfl
  | b :: l, h => by
    have hb : (b == c) = false := by rw [beq_eq_false_iff_ne]; exact fun e => h (by simp [e])
    rw [Lib.indexByte, hb, qne c l (fun x => h (by simp [x]))]
    rfl
theorem qun (c : UInt8) (t : By) : ∀ p : By, c ∉ p → Lib.indexByte (p ++ c :: t) c = (p.length : Int)
  | [], _ => by rw [List.nil_append, Lib.indexByte]; simp
  | b :: p, h => by
    have hb : (b == c) = false := by rw [beq_eq_false_iff_ne]; exact fun e => h (by simp [e])
    have ih := qun c t p (fun x => h (by simp [x]))
    rw [List.cons_append, Lib.indexByte, hb, ih]
    have : ((p.length : Int) == -1) = false := by rw [beq_eq_false_iff_ne]; omega
    rw [this, List.length_cons]
    simp
theorem qrd (l : By) : (10 : UInt8) ∉ l ∨ ∃ p t, (10 : UInt8) ∉ p ∧ l = p ++ 10 :: t := by
  induction l with
  | nil => exact .inl (by simp)
  | cons b l ih =>
    by_cases hb : b = 10
    · exact .inr ⟨[], l, by simp, by rw [hb]; rfl⟩
    · rcases ih with h | ⟨p, t, h1, h2⟩
      · exact .inl (by simp [h]; exact fun e => hb e.symm)
      · exact .inr ⟨b :: p, t, by simp [h1]; exact fun e => hb e.symm, by rw [h2]; rfl⟩
def qgj (x : ByteArray) : Option Nat → ByteArray × Bool
  | none => (bz, false)
  | some n => (x.extract 0 n, true)
theorem qtk (x : ByteArray) (hx : x.size ≤ 100000000) : ∀ (n fr : Nat), fr ≤ x.size → x.size - fr ≤ n → Al fun k => q1j.L2 k x (fr : Int) = some (qgj x (q70 (bl x) fr fr ((bl x).drop fr))) := by
  intro n
  induction n with
  | zero =>
    intro fr h1 h2
    have hd : (bl x).drop fr = [] := List.drop_eq_nil_of_le (by rw [q51]; omega)
    refine Al.succ (Al.now fun k => ?_)
    have e : strings_IndexByte.f k (x.extract fr x.size) 10 = some (-1) := by
      show some (Lib.indexByte (bl (x.extract fr x.size)) 10) = _
      rw [q7p, hd]; rfl
    rw [q1j.L2_eq, decide_eq_true (show (0 : Int) ≤ (fr : Int) by omega), decide_eq_true (show (fr : Int) ≤ (x.size : Int) by omega), decide_eq_true (Int.le_refl (x.size : Int)), show (true && (true && true)) = true from rfl, q06, Int.toNat_natCast, Int.toNat_natCast, e, Option.bind_some, decide_eq_true (show (-1 : Int) < 0 by omega), q06, hd]
    rfl
  | succ n ih =>
    intro fr h1 h2
    have hlen : ((bl x).drop fr).length = x.size - fr := by rw [List.length_drop, q51]
    have eI : ∀ k, strings_IndexByte.f k (x.extract fr x.size) 10 = some (Lib.indexByte ((bl x).drop fr) 10) := fun k => by
      show some (Lib.indexByte (bl (x.extract fr x.size)) 10) = _
      rw [q7p]
    rcases qrd ((bl x).drop fr) with h | ⟨p, t, hp, hd⟩
    · refine Al.succ (Al.now fun k => ?_)
      rw [q1j.L2_eq, decide_eq_true (show (0 : Int) ≤ (fr : Int) by omega), decide_eq_true (show (fr : Int) ≤ (x.size : Int) by omega), decide_eq_true (Int.le_refl (x.size : Int)), show (true && (true && true)) = true from rfl, q06, Int.toNat_natCast, Int.toNat_natCast, eI, Option.bind_some, qne 10 _ h, decide_eq_true (show (-1 : Int) < 0 by omega), q06, qlw _ _ _ _ h]
      rfl
    · have hl2 := hlen
      rw [hd, List.length_append, List.length_cons] at hl2
      have hd2 : (bl x).drop (fr + p.length + 1) = t := by
        rw [← List.drop_drop, ← List.drop_drop, hd, List.drop_left']
        · rfl
        · rfl
      have hline : bl (x.extract fr (fr + p.length)) = p := by rw [qb2, hd, Nat.add_sub_cancel_left, List.take_left']; rfl
      have hz : (x.extract fr (fr + p.length)).size = p.length := by rw [q4y, hline]
      have w1 : w64 ((fr : Int) + (p.length : Int)) = ((fr + p.length : Nat) : Int) := by rw [w64, q6g (by omega) (by omega)]; omega
      have w2 : w64 ((p.length : Int) + 1) = ((p.length + 1 : Nat) : Int) := by rw [w64, q6g (by omega) (by omega)]; omega
      have w3 : w64 ((fr : Int) + ((p.length + 1 : Nat) : Int)) = ((fr + p.length + 1 : Nat) : Int) := by rw [w64, q6g (by omega) (by omega)]; omega
      have hbeg : p.length = 69 → (qiw (x.extract fr (fr + p.length)) (⟨#[115, 101, 97, 108, 32]⟩ : ByteArray) = decide (((bl x).drop fr).take 5 = q74)) := fun h69 => by
        unfold qiw
        have z5 : (⟨#[115, 101, 97, 108, 32]⟩ : ByteArray).size = 5 := rfl
        rw [decide_eq_true (by rw [z5]; omega), Bool.true_and, z5]
        have e1 : bl ((x.extract fr (fr + p.length)).extract 0 5) = p.take 5 := by rw [qk2, hline]
        have e2 : ((bl x).drop fr).take 5 = p.take 5 := by rw [hd, List.take_append_of_le_length (by omega)]
        have e3 : bl (⟨#[115, 101, 97, 108, 32]⟩ : ByteArray) = q74 := rfl
        rw [e2]
        exact decide_eq_decide.2 ⟨fun e => by rw [← e1, e, e3], fun e => q53 (by rw [e1, e, e3])⟩
      have hfst : q70 (bl x) fr fr ((bl x).drop fr) = if p.length = 69 ∧ ((bl x).drop fr).take 5 = q74 then some (fr + p.length + 1) else q70 (bl x) (fr + p.length + 1) (fr + p.length + 1) ((bl x).drop (fr + p.length + 1)) := by
        rw [hd2]
        conv => lhs; rw [hd]
        rw [q85 _ p _ fr fr hp, q70, if_pos rfl, Nat.add_sub_cancel_left]
      refine Al.succ ((ih (fr + p.length + 1) (by omega) (by omega)).mono fun k e => ?_)
      rw [hfst, q1j.L2_eq, decide_eq_true (show (0 : Int) ≤ (fr : Int) by omega), decide_eq_true (show (fr : Int) ≤ (x.size : Int) by omega), decide_eq_true (Int.le_refl (x.size : Int)), show (true && (true && true)) = true from rfl, q06, Int.toNat_natCast, Int.toNat_natCast, eI, Option.bind_some, hd, qun 10 t p hp, decide_eq_false (show ¬ (p.length : Int) < 0 by omega), q08, w1, decide_eq_true (show (fr : Int) ≤ ((fr + p.length : Nat) : Int) by omega), decide_eq_true (show ((fr + p.length : Nat) : Int) ≤ (x.size : Int) by omega), show (true && (true && true)) = true from rfl, q06, Int.toNat_natCast, hz, w2, w3, q5p, Option.bind_some, ← hd]
      by_cases c1 : p.length = 69
      · rw [hbeg c1, c1, show (((69 : Nat) : Int) == 69) = true from rfl, q06]
        by_cases c2 : ((bl x).drop fr).take 5 = q74
        · rw [decide_eq_true c2, q06, decide_eq_true (show (0 : Int) ≤ ((fr + 69 + 1 : Nat) : Int) by omega), decide_eq_true (show ((fr + 69 + 1 : Nat) : Int) ≤ (x.size : Int) by omega), show (decide ((0 : Int) ≤ 0) && (true && true)) = true from rfl, q06, if_pos ⟨rfl, c2⟩]
          rfl
        · rw [decide_eq_false c2, q08, if_neg (fun h => c2 h.2)]
          rw [c1] at e
          exact e
      · have hne : ((p.length : Int) == 69) = false := by rw [beq_eq_false_iff_ne]; omega
        rw [hne, q08, if_neg (fun h => c1 h.1)]
        exact e
theorem qg1 (x : ByteArray) (hx : x.size ≤ 100000000) : Al fun k => q1j.f k x = some (qgj x (qae x)) :=
  (qtk x hx x.size 0 (by omega) (by omega)).mono fun k e => by rw [q1j.f_eq]; exact e
theorem qeu {b : Book} (h : q5r b = true) : smB b := by
  obtain ⟨⟨a5, a6⟩, a3, a4⟩ := qog h
  refine ⟨⟨by omega, fun a ha => ?_⟩, by omega, fun e he => ?_⟩
  · have := a6 a ha; unfold tA at this; unfold smA Sm; omega
  · have := a4 e he; unfold tE at this; unfold smE Sm; omega
theorem qok {key : ByteArray} {i : Nat} {b b' : Book} {t : ByteArray} (h : q7k key i b t = some b') : q5r b' = true := by
  obtain ⟨r, r1, r2, r3, r4⟩ := qcj h
  unfold q89 at r4
  split at r4
  · split at r4
    · rename_i hx
      simp only [Bool.and_eq_true, decide_eq_true_eq] at hx
      have hd := hx.2.2.1
      simp only [Prod.mk.injEq, and_true] at r4
      rw [← r4]
      unfold q5e at hd ⊢
      split at hd
      · rename_i h1
        split at hd
        · rename_i h2
          rw [if_pos h1, if_pos h2]
          simp only [Bool.and_eq_true] at h2
          exact h2.2
        · simp at hd
      · simp at hd
    · simp at r4
  · simp at r4
theorem qre : smB zB := qeu (by decide)
noncomputable def qw0 (s : Hst) : List ByteArray × Int × Book := (s.1, (s.2.1 : Int), s.2.2)
structure HOk (file : ByteArray) (s : Hst) : Prop where
  at_ : s.2.1 ≤ file.size
  len : s.1.length ≤ s.2.1
  bk : smB s.2.2
theorem HOk.step {key file : ByteArray} {most : Nat} {s s' : Hst} (h : HOk file s) (e : q67 key file most s = some s') : HOk file s' := by
  have hlt := qet e
  unfold q67 at e
  split at e
  · cases e
  split at e
  · cases e
  cases hr : q7k key s.1.length s.2.2 (file.extract s.2.1 (s.2.1 + _)) with
  | none => rw [hr] at e; cases e
  | some b =>
    rw [hr] at e
    simp only [Option.map_some, Option.some.injEq] at e
    have := h.len
    subst e
    refine ⟨hlt.2.1, ?_, qeu (qok hr)⟩
    simp only at hlt ⊢
    rw [List.length_append, List.length_singleton]
    omega
theorem qim (key file : ByteArray) (most : Nat) (hk : key.size ≤ 9223372036854775807) (hf : file.size ≤ 20000000) (hm : most ≤ 20000000) : ∀ (n : Nat) (s : Hst), HOk file s → file.size ≤ n + s.2.1 →
    Al fun k => q1n.L4 k key file (most : Int) zB s.1 (s.2.1 : Int) s.2.2 = some (qw0 (q7l key file most n s)) := by
  intro n
  induction n with
  | zero =>
    intro s hs hn
    have ha := hs.at_
    have he : s.2.1 = file.size := by omega
    have hx : file.extract s.2.1 file.size = bz := q53 (by rw [q7p, List.drop_eq_nil_of_le (by rw [q51]; omega)]; rfl)
    refine Al.succ ((qg1 bz (by decide)).mono fun k e => ?_)
    rw [q1n.L4_eq, decide_eq_true (show (0 : Int) ≤ (s.2.1 : Int) by omega), decide_eq_true (show (s.2.1 : Int) ≤ (file.size : Int) by omega), decide_eq_true (Int.le_refl (file.size : Int)), show (true && (true && true)) = true from rfl, q06, Int.toNat_natCast, Int.toNat_natCast, hx, e, Option.bind_some, show qgj bz (qae bz) = (bz, false) from rfl]
    dsimp only
    rw [Bool.not_false, q06]
    rfl
  | succ n ih =>
    intro s hs hn
    have ha := hs.at_
    have hl := hs.len
    have hz : (file.extract s.2.1 file.size).size = file.size - s.2.1 := by rw [q4y, ext_size]
    have hN := qg1 (file.extract s.2.1 file.size) (by omega)
    have g : (decide ((0 : Int) ≤ (s.2.1 : Int)) && (decide ((s.2.1 : Int) ≤ (file.size : Int)) && decide ((file.size : Int) ≤ (file.size : Int)))) = true := by
      rw [decide_eq_true (show (0 : Int) ≤ (s.2.1 : Int) by omega), decide_eq_true (show (s.2.1 : Int) ≤ (file.size : Int) by omega), decide_eq_true (Int.le_refl (file.size : Int))]; rfl
    rw [q7l]
    cases hm1 : qae (file.extract s.2.1 file.size) with
    | none =>
      have hs0 : q67 key file most s = none := by unfold q67; rw [hm1]
      rw [hs0]
      refine Al.succ (hN.mono fun k e => ?_)
      rw [q1n.L4_eq, g, q06, Int.toNat_natCast, Int.toNat_natCast, e, hm1, Option.bind_some, qgj]
      dsimp only
      rw [Bool.not_false, q06]
      rfl
    | some m =>
      have hmz := q99 _ _ _ _ _ hm1
      rw [ext_size] at hmz
      have hx : (file.extract s.2.1 file.size).extract 0 m = file.extract s.2.1 (s.2.1 + m) := q53 (by
        rw [qk2, q7p, qb2, Nat.add_sub_cancel_left])
      have hxz : (file.extract s.2.1 (s.2.1 + m)).size = m := by rw [ByteArray.size_extract]; omega
      have w1 : w64 ((s.2.1 : Int) + (m : Int)) = ((s.2.1 + m : Nat) : Int) := by rw [w64, q6g (by omega) (by omega)]; omega
      have hN' : Al fun k => q1j.f k (file.extract s.2.1 file.size) = some (file.extract s.2.1 (s.2.1 + m), true) := hN.mono fun k e => by rw [e, hm1, qgj, hx]
      by_cases c1 : most < s.2.1 + m
      · have hs0 : q67 key file most s = none := by unfold q67; rw [hm1]; simp only; rw [if_pos c1]
        rw [hs0]
        refine Al.succ (hN'.mono fun k e => ?_)
        rw [q1n.L4_eq, g, q06, Int.toNat_natCast, Int.toNat_natCast, e, Option.bind_some, Bool.not_true, q08]
        dsimp only
        rw [hxz, w1, decide_eq_true (show ((s.2.1 + m : Nat) : Int) > (most : Int) by omega), q06]
        rfl
      have c1' : decide (((s.2.1 + m : Nat) : Int) > (most : Int)) = false := decide_eq_false (by omega)
      have hG := q8g (file.extract s.2.1 (s.2.1 + m)) (by omega)
      have hstep : q67 key file most s = (q7k key s.1.length s.2.2 (file.extract s.2.1 (s.2.1 + m))).map fun b => (s.1 ++ [file.extract s.2.1 (s.2.1 + m)], s.2.1 + m, b) := by
        unfold q67; rw [hm1]; simp only; rw [if_neg c1]
      generalize ht : file.extract s.2.1 (s.2.1 + m) = t at *
      cases c2 : (q5k t).2 with
      | false =>
        have hs0 : q67 key file most s = none := by rw [hstep, q7k, if_neg (by rw [c2]; simp)]; rfl
        rw [hs0]
        refine Al.succ ((hN'.and hG).mono fun k ⟨e, e2⟩ => ?_)
        rw [q1n.L4_eq, g, q06, Int.toNat_natCast, Int.toNat_natCast, e, Option.bind_some, Bool.not_true, q08]
        dsimp only
        rw [hxz, w1, c1', q08, e2, Option.bind_some, c2, Bool.not_false, q06]
        rfl
      | true =>
        have hD := q98 key (s.1.length : Int) s.2.2 (q5k t).1 hk (by omega) hs.bk (qil (qdi c2).1)
        cases c3 : (q89 key (s.1.length : Int) s.2.2 (q5k t).1).2 with
        | false =>
          have hs0 : q67 key file most s = none := by rw [hstep, q7k, if_neg (by rw [c3]; simp)]; rfl
          rw [hs0]
          refine Al.succ (((hN'.and hG).and hD).mono fun k ⟨⟨e, e2⟩, e3⟩ => ?_)
          rw [q1n.L4_eq, g, q06, Int.toNat_natCast, Int.toNat_natCast, e, Option.bind_some, Bool.not_true, q08]
          dsimp only
          rw [hxz, w1, c1', q08, e2, Option.bind_some, c2, Bool.not_true, q08, e3, Option.bind_some, c3, Bool.not_false, q06]
          rfl
        | true =>
          have hs1 : q67 key file most s = some (s.1 ++ [t], s.2.1 + m, (q89 key (s.1.length : Int) s.2.2 (q5k t).1).1) := by rw [hstep, q7k, if_pos ⟨c2, c3⟩]; rfl
          have hok := hs.step hs1
          have ih' := ih _ hok (by simp only; omega)
          rw [hs1]
          simp only at ih' ⊢
          refine Al.succ ((((hN'.and hG).and hD).and ih').mono fun k ⟨⟨⟨e, e2⟩, e3⟩, e4⟩ => ?_)
          rw [q1n.L4_eq, g, q06, Int.toNat_natCast, Int.toNat_natCast, e, Option.bind_some, Bool.not_true, q08]
          dsimp only
          rw [hxz, w1, c1', q08, e2, Option.bind_some, c2, Bool.not_true, q08, e3, Option.bind_some, c3, Bool.not_true, q08, decide_eq_true (show (s.1.length + [t].length) * 16 ≤ q1m by simp [q1m]; omega), q06, e4]
theorem qaf (key file : ByteArray) (most : Nat) (hk : key.size ≤ 9223372036854775807) (hf : file.size ≤ 20000000) (hm : most ≤ 20000000) : Al fun k => q1n.f k key file (most : Int) = some (qw0 (hist key file most)) :=
  (qim key file most hk hf hm file.size qr8 ⟨Nat.zero_le _, Nat.le_refl _, qre⟩ (by omega)).mono fun k e => by
    rw [q1n.f_eq, q2n.f_eq, Option.bind_some]; exact e
end Go.Proofs.YtjfkeknnjjlepaaGreatDoor.Rf
end

section
/- The helpers of the laws: sizes, copies, equality, marks. -/
namespace Go.Proofs.YtjfkeknnjjlepaaGreatDoor.Rf
open Go Go.RowKit
set_option linter.unusedVariables false
set_option linter.unusedSimpArgs false
end Go.Proofs.YtjfkeknnjjlepaaGreatDoor.Rf
end

section
/- The helpers of the laws: copies, equality, marks. -/
namespace Go.Proofs.YtjfkeknnjjlepaaGreatDoor.Rf
open Go Go.RowKit
set_option linter.unusedVariables false
set_option linter.unusedSimpArgs false
end Go.Proofs.YtjfkeknnjjlepaaGreatDoor.Rf
end

section
/- What a row that lists package variables gives, and that these read behind a call as before. -/
namespace Go.Proofs.YtjfkeknnjjlepaaGreatDoor.Frame
open Go.RowKit Go.ChangeShapes
set_option linter.unusedVariables false
theorem qcl {P : Program} {W : World} {name : String} {k : IntKind} {zs : List Int} {g : Nat} {t e : TypeId} {n : Nat}
    (hg : P.globalNamed name = some g) (hty : (P.globals[g]?).map (·.type) = some t) (ht : P.underlying t = some (.array n e)) (he : P.underlying e = some (.int k)) (hce : P.cellsOf e = 1) (hct : P.cellsOf t = n) :
    ∀ (l : List (String × DataW Unit)) (ps : List MemPlace), DataW.LaidVars P W l ps → (name, Lib.tabData k zs) ∈ l → Lib.TabIs P W name k zs
  | [], _, _, hm => by simp at hm
  | (n', d') :: rest, ps, ⟨g', t', cs, fuel, p, q, hg', ht', hvar, hd, hrest, _⟩, hm => by
    rcases List.mem_cons.1 hm with h | h
    · injection h with h1 h2
      subst h1
      subst h2
      obtain rfl := Option.some.inj (hg.symm.trans hg')
      obtain rfl := Option.some.inj (hty.symm.trans ht')
      unfold Lib.TabIs
      rw [hvar, ← Lib.cells_of_tab ht he hce hct hd]
    · exact qcl hg hty ht he hce hct rest q hrest h
theorem q5i {P : Program} {W : World} {name : String} {k : IntKind} {zs : List Int} {g : Nat} {t e : TypeId} {n : Nat} {l : List (String × DataW Unit)}
    (hg : P.globalNamed name = some g) (hty : (P.globals[g]?).map (·.type) = some t) (ht : P.underlying t = some (.array n e)) (he : P.underlying e = some (.int k)) (hce : P.cellsOf e = 1) (hct : P.cellsOf t = n)
    (h : laidMet P l W) (hm : (name, Lib.tabData k zs) ∈ l) : Lib.TabIs P W name k zs := by
  obtain ⟨ps, hv, _⟩ := h
  exact qcl hg hty ht he hce hct l ps hv hm
theorem qcm {P : Program} {W : World} {name nm : String} {d : DataW Unit} {g : Nat} {t : TypeId} {ms : Array (String × TypeId)}
    (hg : P.globalNamed name = some g) (hty : (P.globals[g]?).map (·.type) = some t) (ht : P.underlying t = some (.interface ms)) :
    ∀ (l : List (String × DataW Unit)) (ps : List MemPlace), DataW.LaidVars P W l ps → (name, .iface nm d) ∈ l → ∃ ev, W.cell? ⟨g, 0, none⟩ = some ev ∧ (ev = .nilIface ∨ ∃ te pe, ev = .iface te pe)
  | [], _, _, hm => by simp at hm
  | (n', d') :: rest, ps, ⟨g', t', cs, fuel, p, q, hg', ht', hvar, hd, hrest, _⟩, hm => by
    rcases List.mem_cons.1 hm with h | h
    · injection h with h1 h2
      subst h1
      subst h2
      obtain rfl := Option.some.inj (hg.symm.trans hg')
      obtain rfl := Option.some.inj (hty.symm.trans ht')
      obtain ⟨l0⟩ := cs
      obtain ⟨f1, u, v, e, _, _⟩ := iface_of_trod ht hd
      obtain rfl : l0 = [.iface u v] := e
      exact ⟨_, by simpa using World.var?_cell hg' hvar 0, .inr ⟨_, _, rfl⟩⟩
    · exact qcm hg hty ht rest q hrest h
theorem q5j {P : Program} {W : World} {name nm : String} {d : DataW Unit} {g : Nat} {t : TypeId} {ms : Array (String × TypeId)} {l : List (String × DataW Unit)}
    (hg : P.globalNamed name = some g) (hty : (P.globals[g]?).map (·.type) = some t) (ht : P.underlying t = some (.interface ms)) (h : laidMet P l W) (hm : (name, .iface nm d) ∈ l) :
    ∃ ev, W.cell? ⟨g, 0, none⟩ = some ev ∧ (ev = .nilIface ∨ ∃ te pe, ev = .iface te pe) := by
  obtain ⟨ps, hv, _⟩ := h
  exact qcm hg hty ht l ps hv hm
theorem qtl {P : Program} {W W' : World} {n : String} {cs : Array Value} (h : Below W.heap.size W W') (hv : W.var? P n = some cs) : W'.var? P n = some cs := by
  unfold World.var? at hv ⊢
  cases hg : P.globalNamed n with
  | none => simp [hg] at hv
  | some g =>
    simp only [hg, Option.bind_some] at hv ⊢
    have hlt : g < W.heap.size := by
      rcases Nat.lt_or_ge g W.heap.size with h' | h'
      · exact h'
      · rw [Array.getElem?_eq_none h'] at hv
        simp at hv
    rw [h.block g hlt]
    exact hv
theorem q5v {H : Type} {enc : TypeId × Value → H} {P : Program} (hl : laidOutB P = true) {W W' : World} (hb : Below W.heap.size W W') :
    ∀ (vars : List String) (gs : List (DataW H)) (q : List MemPlace), DataW.TrodVars enc P W (fun _ => true) vars gs q →
      (∀ n ∈ vars, ∀ g t, P.globalNamed n = some g → (P.globals[g]?).map (·.type) = some t → P.readableRec t = true ∧ t < P.types.size) →
      ∃ pv, DataW.TrodVars enc P W' (fun b => decide (b < W.heap.size)) vars gs pv
  | [], [], q, h, _ => ⟨q, h⟩
  | [], _ :: _, q, h, _ => by simp [DataW.TrodVars] at h
  | _ :: _, [], q, h, _ => by simp [DataW.TrodVars] at h
  | n :: ns, d :: ds, ps, ⟨g, t, cs, fuel, p, q, hg, ht, hvar, hd, hrest, _⟩, hr => by
    obtain ⟨pv, hpv⟩ := q5v hl hb ns ds q hrest (fun m hm => hr m (List.mem_cons_of_mem _ hm))
    obtain ⟨h1, h2⟩ := hr n List.mem_cons_self g t hg ht
    have hT : DataW.Trod enc P W 0 (fun _ => true) true t (.agg cs) d p := ⟨fuel, hd⟩
    obtain ⟨fuel', hd'⟩ := Below.trod hl h1 h2 hT hb (fun x hx => DataW.trod_lt fuel _ _ _ hd x hx)
    exact ⟨_, g, t, cs, fuel', p, pv, hg, ht, qtl hb hvar, hd', hpv, rfl⟩
theorem q6k {H : Type} {enc : TypeId × Value → H} {P : Program} {W : World} {sp : Nat → Bool} {n : String} {ns : List String} {gs : List (DataW H)} {q : List MemPlace} (h : DataW.TrodVars enc P W sp (n :: ns) gs q) :
    ∃ d ds q', gs = d :: ds ∧ DataW.TrodVars enc P W sp ns ds q' := by
  cases gs with
  | nil => simp [DataW.TrodVars] at h
  | cons d ds =>
    obtain ⟨g, t, cs, fuel, p, q', _, _, _, _, hrest, _⟩ := h
    exact ⟨d, ds, q', rfl, hrest⟩
end Go.Proofs.YtjfkeknnjjlepaaGreatDoor.Frame
end

section
/- Closed facts on the program. -/
namespace Go.Proofs.YtjfkeknnjjlepaaGreatDoor.Rf
set_option maxRecDepth 100000
theorem kLa : laidOutB Tryz.prog = true := by kernel_rfl
theorem kMr : mapsRowed Tryz.prog = true := by kernel_rfl
theorem kPk : (Rows.fnExactReleaseGetRow.plainKeys == Tryz.prog.plainKeys) = true := by kernel_rfl
theorem kSh : Tryz.prog.stopsHeard = true := by kernel_rfl
theorem kMe : Tryz.prog.mayEnter = true := by kernel_rfl
theorem kLi : (Rows.fnExactReleaseGetRow.lifted == Tryz.prog.liftsFinal) = true := by kernel_rfl
theorem kMk : (Tryz.prog.make == some Rows.fnExactReleaseGetRow.make) = true := by kernel_rfl
end Go.Proofs.YtjfkeknnjjlepaaGreatDoor.Rf
end

section
/- Clients, both sides: ok, new, take, fall. -/
namespace Go.Proofs.YtjfkeknnjjlepaaGreatDoor.Rf
open Go Go.RowKit
set_option linter.unusedVariables false
set_option linter.unusedSimpArgs false
theorem qup (a b : En) : ((a.1.toList == b.1.toList) && (a.2.toList == b.2.toList)) = decide (a = b) := by
  rw [q5y, q5y, ← Bool.decide_and]
  exact decide_eq_decide.2 Prod.ext_iff.symm
theorem qkt (l m : List En) (hl : Sm l.length) : Al fun k => q04.f k l m = some (decide (l = m)) := by
  by_cases hlen : l.length = m.length
  case neg =>
    refine Al.now fun k => ?_
    rw [q04.f_eq, show ((l.length : Int) != (m.length : Int)) = true by rw [bne_iff_ne]; omega, q06, decide_eq_false fun e => hlen (by rw [e])]
  have key : ∀ (t : List En) (i : Nat), l.drop i = t → Al2 fun k k1 => q04.L4 k k1 l m (l.length : Int) (i : Int) = some (decide (t = m.drop i)) := by
    intro t
    induction t with
    | nil =>
      intro i hd
      have he := drop_nil hd
      refine Al2.succ (Al2.now fun k k1 => ?_)
      rw [q04.L4_eq, at_end he, q08, List.drop_eq_nil_of_le (show m.length ≤ i by omega), decide_eq_true rfl]
    | cons x t ih =>
      intro i hd
      obtain ⟨hi, g1, g2⟩ := q45 zE hd
      obtain ⟨c1, c2, c3, c4⟩ := q6t hi hl
      have hm : i < m.length := by omega
      have hmd : m.drop i = m[i] :: m.drop (i + 1) := List.drop_eq_getElem_cons hm
      have gm : m.getD i zE = m[i] := by rw [List.getD_eq_getElem?_getD, List.getElem?_eq_getElem hm]; rfl
      have cm : decide ((i : Int) < (m.length : Int)) = true := decide_eq_true (by omega)
      refine Al2.succ ((ih (i + 1) g2).mono fun k k1 e => ?_)
      simp only [q04.L4_eq, c1, c2, c3, w64, c4, g1, cm, gm, Bool.and_self, q06, e, qup, hmd]
      by_cases h : x = m[i]
      · rw [decide_eq_true h, Bool.not_true, q08]
        exact congrArg some (decide_eq_decide.2 ⟨fun e => by rw [h, e], fun e => (List.cons.inj e).2⟩)
      · rw [decide_eq_false h, Bool.not_false, q06]
        exact congrArg some (decide_eq_false fun e => h (List.cons.inj e).1).symm
  refine (key l 0 rfl).diag.mono fun k e => ?_
  rw [q04.f_eq, show ((l.length : Int) != (m.length : Int)) = false by rw [bne_eq_false_iff_eq]; omega, q08]
  exact e
theorem qnf (a b : Book) : (if decide (a.1 = b.1) = true then some (decide (a.2 = b.2)) else some false) = some (decide (a = b)) := by
  by_cases h : a.1 = b.1
  · rw [decide_eq_true h, if_pos rfl]
    exact congrArg some (decide_eq_decide.2 ⟨fun e => Prod.ext h e, fun e => by rw [e]⟩)
  · rw [decide_eq_false h, if_neg (by simp), decide_eq_false fun e => h (by rw [e])]
theorem q9w (a b : Book) (h1 : Sm a.1.length) (h2 : Sm a.2.length) : Al fun k => q3m.f k a b = some (decide (a = b)) := by
  refine ((qko a.1 b.1 h1).and (qkt a.2 b.2 h2)).mono fun k ⟨e, e2⟩ => ?_
  rw [q3m.f_eq, e, Option.bind_some, e2, Option.bind_some, ← qnf]
  cases decide (a.1 = b.1) with
  | false => rw [q08]; rfl
  | true => rw [q06]; rfl
structure smC (c : q0l) : Prop where
  key : c.1.size ≤ 9223372036854775807
  bk : smB c.2.2.2.1
  num : -9223372036854775808 ≤ c.2.2.1 ∧ c.2.2.1 ≤ 9223372036854775807
theorem qng {b : Book} (h : smB b) : Sm b.1.length ∧ Sm b.2.length := ⟨by have := h.1.1; unfold Sm; omega, by have := h.2.1; unfold Sm; omega⟩
theorem q8l (a b : Int) : (a == b) = decide (a = b) := by
  by_cases h : a = b
  · rw [decide_eq_true h, h]; simp
  · rw [decide_eq_false h, beq_eq_false_iff_ne]; exact h
theorem q6m (c : q0l) (h : smC c) : Al fun k => q25.f k c = some (q68 c) := by
  have e1 := fun k => qcf k c.1 h.key
  obtain ⟨m1, m2⟩ := qng h.bk
  unfold q68
  cases hk : qde c.1 with
  | false => exact Al.now fun k => by rw [q25.f_eq, e1, hk, Option.bind_some, Bool.not_false, q06, Bool.false_and]
  | true =>
  rw [Bool.true_and]
  by_cases hz : c.2.2.2.2.size ≤ 13270
  case neg => exact Al.now fun k => by rw [q25.f_eq, e1, hk, Option.bind_some, Bool.not_true, q08, decide_eq_true (show (c.2.2.2.2.size : Int) > 13270 by omega), q06, decide_eq_false hz, Bool.false_and]
  have n1 : decide ((c.2.2.2.2.size : Int) > 13270) = false := decide_eq_false (by omega)
  rw [decide_eq_true hz, Bool.true_and]
  cases hu : c.2.1 with
  | false =>
    refine (q9w c.2.2.2.1 zB m1 m2).mono fun k e => ?_
    rw [q25.f_eq, e1, hk, Option.bind_some, Bool.not_true, q08, n1, q08, hu, Bool.not_false, q06, q8l, if_neg (by simp)]
    cases decide (c.2.2.1 = 0) with
    | false => rw [q08, Bool.false_and]
    | true =>
      rw [q06, Bool.true_and]
      show (q3m.f k c.2.2.2.1 zB).bind _ = _
      rw [e, Option.bind_some]
  | true =>
    rw [if_pos rfl]
    by_cases h2 : c.2.2.2.2.size ≤ 12000
    case neg => exact Al.now fun k => by rw [q25.f_eq, e1, hk, Option.bind_some, Bool.not_true, q08, n1, q08, hu, Bool.not_true, q08, decide_eq_true (show (c.2.2.2.2.size : Int) > 12000 by omega), q06, decide_eq_false h2, Bool.false_and]
    have n2 : decide ((c.2.2.2.2.size : Int) > 12000) = false := decide_eq_false (by omega)
    refine ((qaf c.1 c.2.2.2.2 12000 h.key (by omega) (by omega)).and (q9w c.2.2.2.1 (hist c.1 c.2.2.2.2 12000).2.2 m1 m2)).mono fun k ⟨e, e2⟩ => ?_
    rw [show ((12000 : Nat) : Int) = 12000 from rfl] at e
    rw [q25.f_eq, e1, hk, Option.bind_some, Bool.not_true, q08, n1, q08, hu, Bool.not_true, q08, n2, q08, e, Option.bind_some, decide_eq_true h2, Bool.true_and]
    dsimp only [qw0]
    rw [q8l, q8l, show decide (((hist c.1 c.2.2.2.2 12000).2.1 : Int) = (c.2.2.2.2.size : Int)) = decide ((hist c.1 c.2.2.2.2 12000).2.1 = c.2.2.2.2.size) from decide_eq_decide.2 (by omega), e2, Option.bind_some]
    cases decide ((hist c.1 c.2.2.2.2 12000).2.1 = c.2.2.2.2.size) <;> cases decide (c.2.2.1 = ((hist c.1 c.2.2.2.2 12000).1.length : Int)) <;> simp [q06, q08]
end Go.Proofs.YtjfkeknnjjlepaaGreatDoor.Rf
end
