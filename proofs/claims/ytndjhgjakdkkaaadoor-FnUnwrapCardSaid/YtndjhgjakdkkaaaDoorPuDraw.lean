/- The reader that draws: its picks stay in their range. -/
import Derived.Test.YtndjhgjakdkkaaaDoorPuBase
import Derived.Laws.BitsLemmas
import Derived.Test.YtndjhgjakdkkaaaDoorMspecl1Open
import Derived.Test.YtndjhgjakdkkaaaDoorMspecl1Rdpick
import Derived.Test.YtndjhgjakdkkaaaDoorMspecl1Rdof
namespace Go.Proofs.YtndjhgjakdkkaaaDoor.M
open Go.RowKit Go.Proofs.YtndjhgjakdkkaaaDoorW.PrintWords Go.Proofs.YtndjhgjakdkkaaaDoor.Pu
set_option linter.unusedVariables false
set_option linter.unusedSimpArgs false

/-- A code: bytes, not too many. -/
def Code (s : List Int) : Prop := (∀ b ∈ s, 0 ≤ b ∧ b ≤ 255) ∧ s.length ≤ 2000
theorem wraps_i64 (n : Int) (h₀ : 0 ≤ n) (h₁ : n < 2 ^ 62) : IntKind.i64.wrap n = n := by rw [IntKind.wrap_i64]; omega
theorem xor_nat (a b : Nat) (ha : a < 2 ^ 62) (hb : b < 2 ^ 62) : Go.bits .xor .i64 (a : Int) (b : Int) = ((a ^^^ b : Nat) : Int) := by
  have h2 : 2 ^ 62 ≤ 2 ^ IntKind.i64.bits := Nat.pow_le_pow_right (by decide) (by decide)
  have ha' : a % 2 ^ IntKind.i64.bits = a := Nat.mod_eq_of_lt (Nat.lt_of_lt_of_le ha h2)
  have hb' : b % 2 ^ IntKind.i64.bits = b := Nat.mod_eq_of_lt (Nat.lt_of_lt_of_le hb h2)
  simp only [Go.bits, BitVec.ofInt_natCast, BitVec.toNat_xor, BitVec.toNat_ofNat, ha', hb']
  exact wraps_i64 _ (Int.natCast_nonneg _) (by exact_mod_cast Nat.xor_lt_two_pow ha hb)
theorem xor_ge (a b : Int) (ha : 0 ≤ a) (hb : 0 ≤ b) (ha1 : a < 2 ^ 62) (hb1 : b < 2 ^ 62) : 0 ≤ Go.bits .xor .i64 a b := by
  obtain ⟨m, rfl⟩ := Int.eq_ofNat_of_zero_le ha
  obtain ⟨n, rfl⟩ := Int.eq_ofNat_of_zero_le hb
  rw [xor_nat m n (by exact_mod_cast ha1) (by exact_mod_cast hb1)]
  exact Int.natCast_nonneg _
theorem code_rd {s : List Int} (h : Code s) (i : Int) : 0 ≤ rd s i ∧ rd s i ≤ 255 := by
  unfold rd
  rw [List.getD_eq_getElem?_getD]
  cases e : s[i.toNat]? with
  | none => simp
  | some b => exact h.1 b (List.mem_of_getElem? e)
theorem l1Open_eq (s : List Int) (hs : ∀ b ∈ s, 0 ≤ b ∧ b ≤ 255) : ∃ s', spec_l1Open.f s = some (s', 0) ∧ Code s' := by
  unfold spec_l1Open.f
  by_cases c : (s.length : Int) > 2000
  · have c2 : (2000 : Int) ≤ (s.length : Int) := by omega
    rw [if_pos c, if_pos c2]
    exact ⟨_, rfl, fun b hb => hs b (List.mem_of_mem_take hb), List.length_take_le _ _⟩
  · rw [if_neg c]
    exact ⟨_, rfl, hs, by omega⟩
theorem pick_ev (s : List Int) (hs : Code s) (p n : Int) (hp0 : 0 ≤ p) (hp1 : p ≤ 1000000000) (hn : n ≤ 1000000) :
    ∃ r, Ev (fun k => spec_l1Rd_pick.f k s p n) (r, p + 1) ∧ 0 ≤ r ∧ (1 ≤ n → r < n) ∧ (n < 1 → r = 0) := by
  have w1 : Aside0 (wrap64 (p + 1) = p + 1) := ⟨wid (by omega) (by omega)⟩
  have w2 : Aside0 (wrap64 (p + 1 - 1) = p) := ⟨by rw [wid (by omega) (by omega)]; omega⟩
  unfold spec_l1Rd_pick.f
  by_cases c : n < 1
  · refine ⟨0, ?_, Int.le_refl _, fun h => by omega, fun _ => rfl⟩
    simp only [c, if_true, w1.out]
    apply Ev.succ
    simp only [spec_l1Rd_pick.j0, if_true]
    exact Ev.now _
  · simp only [c, if_false, w1.out]
    by_cases z : s.length = 0
    · refine ⟨0, ?_, Int.le_refl _, fun h => by omega, fun _ => rfl⟩
      have z1 : ((s.length : Int) == 0) = true := by rw [beq_iff_eq]; omega
      apply Ev.succ
      simp only [spec_l1Rd_pick.j0, z1, if_true]
      exact Ev.now _
    · have z1 : ((s.length : Int) == 0) = false := by rw [beq_eq_false_iff_ne]; omega
      have n0 : ¬ n = 0 := by omega
      have hl := hs.2
      have tm : ∀ x : Int, 0 ≤ x → 0 ≤ Int.tmod x n ∧ Int.tmod x n < n := fun x hx => ⟨Int.tmod_nonneg _ hx, Int.tmod_lt_of_pos _ (by omega)⟩
      by_cases q : p < (s.length : Int)
      · have r0 := code_rd hs p
        have w3 : Aside0 (wrap64 (rd s p) = rd s p) := ⟨wid (by omega) (by omega)⟩
        refine ⟨Int.tmod (rd s p) n, ?_, (tm _ r0.1).1, fun _ => (tm _ r0.1).2, fun h => by first | exact absurd h c | exact h.elim⟩
        apply Ev.succ
        simp only [spec_l1Rd_pick.j0, z1, Bool.false_eq_true, if_false, w2.out, q, hp0, n0, w3.out, if_true]
        exact Ev.now _
      · have l0 : ¬ (s.length : Int) = 0 := by omega
        have m1 : 0 ≤ Int.tmod p (s.length : Int) ∧ Int.tmod p (s.length : Int) < (s.length : Int) := ⟨Int.tmod_nonneg _ hp0, Int.tmod_lt_of_pos _ (by omega)⟩
        have w7 : Aside0 (wrap64 (p * 7) = p * 7) := ⟨wid (by omega) (by omega)⟩
        have w8 : Aside0 (wrap64 (p * 7 + 3) = p * 7 + 3) := ⟨wid (by omega) (by omega)⟩
        have m2 : 0 ≤ Int.tmod (p * 7 + 3) (s.length : Int) ∧ Int.tmod (p * 7 + 3) (s.length : Int) < (s.length : Int) := ⟨Int.tmod_nonneg _ (by omega), Int.tmod_lt_of_pos _ (by omega)⟩
        generalize hA : Int.tmod p (s.length : Int) = A at m1
        generalize hB : Int.tmod (p * 7 + 3) (s.length : Int) = B at m2
        have ra := code_rd hs A
        have rb := code_rd hs B
        generalize hX : rd s A = X at ra
        generalize hY : rd s B = Y at rb
        have hd : 0 ≤ Int.tdiv p (s.length : Int) ∧ Int.tdiv p (s.length : Int) ≤ p := by
          refine ⟨Int.tdiv_nonneg hp0 (by omega), ?_⟩
          rw [Int.tdiv_eq_ediv_of_nonneg hp0]
          exact Int.ediv_le_self _ hp0
        generalize hD : Int.tdiv p (s.length : Int) = D at hd
        have v1 : Aside0 (wrap64 X = X) := ⟨wid (by omega) (by omega)⟩
        have v2 : Aside0 (wrap64 (X * 131) = X * 131) := ⟨wid (by omega) (by omega)⟩
        have v3 : Aside0 (wrap64 Y = Y) := ⟨wid (by omega) (by omega)⟩
        have v4 : Aside0 (wrap64 (Y * 1117) = Y * 1117) := ⟨wid (by omega) (by omega)⟩
        have v5 : Aside0 (wrap64 (X * 131 + Y * 1117) = X * 131 + Y * 1117) := ⟨wid (by omega) (by omega)⟩
        have v6 : Aside0 (wrap64 (p * 29) = p * 29) := ⟨wid (by omega) (by omega)⟩
        have v7 : Aside0 (wrap64 (X * 131 + Y * 1117 + p * 29) = X * 131 + Y * 1117 + p * 29) := ⟨wid (by omega) (by omega)⟩
        have v8 : Aside0 (wrap64 D = D) := ⟨wid (by omega) (by omega)⟩
        have v9 : Aside0 (wrap64 (D * 53) = D * 53) := ⟨wid (by omega) (by omega)⟩
        have v10 : Aside0 (wrap64 (X * 131 + Y * 1117 + p * 29 + D * 53) = X * 131 + Y * 1117 + p * 29 + D * 53) := ⟨wid (by omega) (by omega)⟩
        generalize hS : X * 131 + Y * 1117 + p * 29 + D * 53 = S at v10
        have hS0 : 0 ≤ S ∧ S ≤ 1000000000000 := by omega
        have hq : 0 ≤ Int.tdiv S 64 ∧ Int.tdiv S 64 ≤ S := by
          refine ⟨Int.tdiv_nonneg hS0.1 (by omega), ?_⟩
          rw [Int.tdiv_eq_ediv_of_nonneg hS0.1]
          exact Int.ediv_le_self _ hS0.1
        have v11 : Aside0 (wrap64 (Int.tdiv S 64) = Int.tdiv S 64) := ⟨wid (by omega) (by omega)⟩
        have hx := xor_ge S (Int.tdiv S 64) hS0.1 hq.1 (by omega) (by omega)
        refine ⟨Int.tmod (Go.bits .xor .i64 S (Int.tdiv S 64)) n, ?_, (tm _ hx).1, fun _ => (tm _ hx).2, fun h => by first | exact absurd h c | exact h.elim⟩
        apply Ev.succ
        simp only [spec_l1Rd_pick.j0, z1, Bool.false_eq_true, if_false, w2.out, q, l0, w7.out, w8.out, hA, hB, m1.1, m1.2, m2.1, m2.2, n0, hX, hY, hD, v1.out, v2.out, v3.out, v4.out, v5.out, v6.out, v7.out, v8.out, v9.out, hS, v10.out, v11.out, if_true]
        exact Ev.now _
theorem of_ev (s : List Int) (hs : Code s) (p : Int) (hp0 : 0 ≤ p) (hp1 : p ≤ 1000000000) (l : List ByteArray) (hl : 1 ≤ l.length) (hl2 : l.length ≤ 1000000) :
    ∃ x, Ev (fun k => spec_l1Rd_of.f k s p l) (x, p + 1) ∧ x ∈ l := by
  obtain ⟨r, hr, h0, h1, _⟩ := pick_ev s hs p (l.length : Int) hp0 hp1 (by omega)
  have h2 := h1 (by omega)
  refine ⟨rdOf ByteArray.empty l r, ?_, ?_⟩
  · unfold spec_l1Rd_of.f
    refine Ev.bind hr ?_
    simp only [h0, h2, if_true]
    exact Ev.now _
  · unfold rdOf
    rw [List.getD_eq_getElem?_getD, List.getElem?_eq_getElem (show r.toNat < l.length by omega)]
    exact List.getElem_mem _
end Go.Proofs.YtndjhgjakdkkaaaDoor.M
