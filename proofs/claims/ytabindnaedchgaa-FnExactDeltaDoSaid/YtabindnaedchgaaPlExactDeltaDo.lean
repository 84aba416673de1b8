/- The law FnExactDeltaDo is true. -/
import Derived.Test.YtabindnaedchgaaPlLaw2
import Derived.Test.YtabindnaedchgaaPlDelta
namespace Go.Proofs.Ytabindnaedchgaa.Rf
open Go Go.RowKit
set_option linter.unusedVariables false
set_option linter.unusedSimpArgs false
theorem bgA_of {a : Aff} (h : goodT (.st (.pair .str (.pair .bool (.pair .str (.pair .str .str))))) a) : bgA a := ⟨h.1, h.2.2.1, h.2.2.2.1, h.2.2.2.2⟩
theorem bgE_of {e : En} (h : goodT (.st (.pair .str .str)) e) : bgE e := h
theorem bgB_of {b : Book} (h : goodT (.st (.pair (.row (.st (.pair .str (.pair .bool (.pair .str (.pair .str .str)))))) (.row (.st (.pair .str .str))))) b) : bgB b :=
  ⟨⟨h.1.1, fun a ha => bgA_of (h.1.2 a ha)⟩, h.2.1, fun e he => bgE_of (h.2.2 e he)⟩
theorem bgD_of {d : Delta} (h : goodT (.st (.pair (.row .str) (.pair (.row (.st (.pair .str .str))) (.pair .bool (.row (.st (.pair .str (.pair .bool (.pair .str (.pair .str .str)))))))))) d) : bgD d :=
  ⟨h.1, ⟨h.2.1.1, fun e he => bgE_of (h.2.1.2 e he)⟩, h.2.2.2.1, fun a ha => bgA_of (h.2.2.2.2 a ha)⟩
theorem deltaDo_sz {b : Book} {d : Delta} (hb : b.1.length ≤ 1048576 ∧ b.2.length ≤ 1048576) : (deltaDo b d).1.1.length ≤ 1048576 ∧ (deltaDo b d).1.2.length ≤ 1048576 := by
  unfold deltaDo
  split
  · rename_i h
    simp only [Bool.and_eq_true] at h
    split
    · rename_i h2
      simp only [Bool.and_eq_true] at h2
      have := len_ok h2.2
      simp only
      omega
    · exact hb
  · simp
theorem FnExactDeltaDo_pure (b : Book) (d : Delta) (hb : goodT (.st (.pair (.row (.st (.pair .str (.pair .bool (.pair .str (.pair .str .str)))))) (.row (.st (.pair .str .str))))) b)
    (hd : goodT (.st (.pair (.row .str) (.pair (.row (.st (.pair .str .str))) (.pair .bool (.row (.st (.pair .str (.pair .bool (.pair .str (.pair .str .str)))))))))) d) : ∃ k, laws_FnExactDeltaDo.f k b d = some true := by
  have s1 := szBook_al b 1048576 (by omega) (by omega) (bgB_of hb)
  by_cases h1 : szBk b ≤ 1048576
  case neg =>
    exact (s1.mono fun k e => by
      rw [laws_FnExactDeltaDo.f_eq, e, Option.bind_some, subZ_neg _ _ (by omega), decide_eq_true (by omega), ifb_t]).get
  have e1 : subZ 1048576 (szBk b) = 1048576 - szBk b := if_pos (by omega)
  have s2 := szDelta_al d (1048576 - szBk b) (by omega) (by omega) (bgD_of hd)
  by_cases h2 : szBk b + szDl d ≤ 1048576
  case neg =>
    exact ((s1.and s2).mono fun k ⟨e, e2⟩ => by
      rw [laws_FnExactDeltaDo.f_eq, e, Option.bind_some, subZ_neg _ _ (by omega), decide_eq_false (by omega), ifb_f, e1, e2, Option.bind_some, subZ_neg _ _ (by omega), decide_eq_true (by omega), ifb_t]).get
  have mb := smB_of h1
  have md := smD_of (d := d) (by omega)
  have hl := deltaDo_sz (b := b) (d := d) (by unfold szBk szAs szEs at h1; omega)
  have hlD : d.1.length ≤ 1048576 ∧ d.2.1.length ≤ 1048576 ∧ d.2.2.2.length ≤ 1048576 := by unfold szDl szSs szAs szEs at h2; omega
  have hlB : b.1.length ≤ 1048576 ∧ b.2.length ≤ 1048576 := by unfold szBk szAs szEs at h1; omega
  have sm : ∀ {n : Nat}, n ≤ 1048576 → Sm n := fun h => by unfold Sm; omega
  have facts := ((((s1.and s2).and ((toBook_al b mb).and (toDelta_al d md))).and ((spec_DeltaDo_al b d mb md).and (impl_DeltaDo_al b d mb md))).and
    (((eqBook_refl (deltaDo b d).1 (sm hl.1) (sm hl.2)).and (eqBook_refl b (sm hlB.1) (sm hlB.2))).and (eqDelta_refl d (sm hlD.1) (sm hlD.2.1) (sm hlD.2.2)))).and
    (((markBook_al b 1 (by omega) (by omega) (by omega)).and (markDelta_al d (1 + 5 * b.1.length + 2 * b.2.length) (by omega) (by omega) (by omega) (by omega))).and ((markBook_al (deltaDo b d).1 1 (by omega) (by omega) (by omega)).and (heldBook_al (deltaDo b d).1 1 (by omega) (by omega) (by omega))))
  refine (facts.mono fun k e => ?_).get
  obtain ⟨⟨⟨⟨⟨z1, z2⟩, t1, t2⟩, p1, p2⟩, ⟨q1, q2⟩, q3⟩, ⟨m1, d', m2⟩, m3, m4⟩ := e
  rw [show ((1 : Nat) : Int) = 1 from rfl] at m1 m3 m4
  have e2 : subZ (1048576 - szBk b) (szDl d) = 1048576 - szBk b - szDl d := if_pos (by omega)
  rw [laws_FnExactDeltaDo.f_eq, z1, Option.bind_some, subZ_neg _ _ (by omega), decide_eq_false (by omega), ifb_f, e1, z2, Option.bind_some, subZ_neg _ _ (by omega), decide_eq_false (by omega), ifb_f]
  have n1 : decide ((((1 + 5 * b.1.length + 2 * b.2.length + d.1.length + 2 * d.2.1.length + 5 * d.2.2.2.length : Nat)) : Int) < 0) = false := decide_eq_false (by omega)
  have n2 : decide ((((1 + 5 * (deltaDo b d).1.1.length + 2 * (deltaDo b d).1.2.length : Nat)) : Int) < 0) = false := decide_eq_false (by omega)
  simp only [t1, t2, p1, p2, q1, q2, q3, m1, m2, m3, m4, n1, n2, Option.bind_some, Bool.not_true, ifb_f, beq_self_eq_true, bne_self_eq_false]
end Go.Proofs.Ytabindnaedchgaa.Rf
