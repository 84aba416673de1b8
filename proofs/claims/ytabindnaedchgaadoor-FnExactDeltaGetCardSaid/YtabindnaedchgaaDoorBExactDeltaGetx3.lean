import Derived.Test.YtabindnaedchgaaDoorBExactDeltaGetx2

section
-- Printed for this claim by a program (mprint.py) that uses the kit's print; Lean checks it.
namespace Go.Proofs.YtabindnaedchgaaDoor.M
open Go.RowKit Go.Proofs.YtabindnaedchgaaDoorW.PrintWords Go.Proofs.YtabindnaedchgaaDoorW.PrintLast Go.Proofs.YtabindnaedchgaaDoorW.PrintMore Go.Proofs.YtabindnaedchgaaDoor.Sq
set_option synthInstance.maxHeartbeats 2000000
set_option synthInstance.maxSize 4096
attribute [local go_sem] max2_int min2_int max_two min_two max_three min_three max_four min_four   -- for this text's walks alone
set_option linter.unusedVariables false
set_option linter.unusedSimpArgs false
theorem gf26 : Go_ Tryd.prog 26 Tryd.f26 := ⟨Tryd.func26, by kernel_rfl, rfl⟩
def laws_eqAffixS.l0 : Nat → List (S46) → List (S46) → Int → Option (Bool)
  | 0, _, _, _ => none
  | k + 1, x0, x1, x5 => if x5 < (x0.length : Int) then (if 0 ≤ x5 then (if x5 < (x1.length : Int) then ((laws_eqAffix.f ((rd_T46 x0 x5).f0) ((rd_T46 x0 x5).f1) ((rd_T46 x0 x5).f2) ((rd_T46 x0 x5).f3) ((rd_T46 x0 x5).f4) ((rd_T46 x1 x5).f0) ((rd_T46 x1 x5).f1) ((rd_T46 x1 x5).f2) ((rd_T46 x1 x5).f3) ((rd_T46 x1 x5).f4)).bind fun t103 => (if t103 = true then (laws_eqAffixS.l0 k x0 x1 (wrap64 (x5 + 1))) else (some false))) else (none)) else (none)) else (some true)
def laws_eqAffixS.f (k : Nat) (l0 : List (S46)) (l1 : List (S46)) : Option (Bool) := if (l0.length : Int) = (l1.length : Int) then (laws_eqAffixS.l0 k l0 l1 0) else (some false)
theorem laws_eqAffixS.mono_l : ∀ k, (∀ y0 y1 y2, LeO (laws_eqAffixS.l0 k y0 y1 y2) (laws_eqAffixS.l0 (k + 1) y0 y1 y2))
  | 0 => fun _ _ _ r h => by simp [laws_eqAffixS.l0] at h
  | k + 1 => by
    have ih0 := laws_eqAffixS.mono_l k
    · intro y0 y1 y2
      unfold laws_eqAffixS.l0
      have I0_ := fun x0_ x1_ x2_ => LeC.mk (ih0 x0_ x1_ x2_)
      exact LeC.out
theorem laws_eqAffixS.mono : ∀ a0 a1 k, LeO (laws_eqAffixS.f k a0 a1) (laws_eqAffixS.f (k + 1) a0 a1) := by
  intro a0 a1 k
  have ih0 := laws_eqAffixS.mono_l k
  unfold laws_eqAffixS.f
  have I0_ := fun x0_ x1_ x2_ => LeC.mk (ih0 x0_ x1_ x2_)
  exact LeC.out
def laws_eqAffixS.T6 : Bool × List (List Nat × List Nat) := (true, [([], []), ([], []), ([0, 1], [0, 1]), ([2], [2]), ([], []), ([], []), ([4, 5], [4, 5]), ([6], [6]), ([3, 7], [3, 7]), ([8], [8])])
def laws_eqAffixS.B6 : List Nat := [0, 0, 3, 7, 0, 0, 48, 112, 255, 511]
theorem laws_eqAffixS.tab6 : rtab .any (opsOf Tryd.f26 6) = laws_eqAffixS.T6 := by kernel_rfl
theorem laws_eqAffixS.bits6 : waitsOk laws_eqAffixS.T6.2 laws_eqAffixS.B6 = true := by kernel_rfl
set_option maxHeartbeats 8000000 in
set_option maxRecDepth 100000 in
theorem laws_eqAffixS.calls (k : Nat) (A0 : Option Addr) (c0 : Nat) (l0 : List (S46)) (A1 : Option Addr) (c1 : Nat) (l1 : List (S46)) (r : Bool) (w : World) (hr0 : Kd.C k46 w A0 l0.length l0) (hc0 : l0.length ≤ c0) (hr1 : Kd.C k46 w A1 l1.length l1) (hc1 : l1.length ≤ c1) (h : laws_eqAffixS.f k l0 l1 = some r) :
    Calls Tryd.prog 26 #[.slice A0 l0.length c0, .slice A1 l1.length c1] w fun e w' => e = .returned (.bool r) ∧ Below w.heap.size w w' := by
  have hu46 := Tryd.underlying46
  have HR0 := Aside0.mk hr0
  have HC0 := Aside0.mk hc0
  clear hr0 hc0
  have HR1 := Aside0.mk hr1
  have HC1 := Aside0.mk hc1
  clear hr1 hc1
  have HB := Aside0.mk (Below.refl w.heap.size w)
  unfold laws_eqAffixS.f at h
  have H := h
  clear h
  by_cases c3 : (l0.length : Int) = (l1.length : Int)
  · rw [if_pos c3] at H
    have c3b0 : ((l0.length : Int) == (l1.length : Int)) = true := beq_iff_eq.mpr c3
    have c3b1 : ((l0.length : Int) != (l1.length : Int)) = false := bne_eq_false_iff_eq.mpr c3
    have c3b2 : (l0.length == l1.length) = true := by first | simpa using c3 | (simp at c3 ⊢; omega)
    clear c3
    have H' := Aside0.mk H
    clear H
    go_enter Tryd.func26, Tryd.ntmps26
    go_wp2
    go_loopg [5] k (fun kq v5 w' => ∃ (x5_1 : Int), v5 = .int .i64 x5_1 ∧ Aside0 (laws_eqAffixS.l0 kq l0 l1 x5_1 = some r) ∧ Aside0 (kq ≤ k) ∧ Aside0 (Below w.heap.size w w'))
    case atStart => exact ⟨(0), (by first | rfl | (simp; done) | (simp [*]; done)), H', ⟨Nat.le_refl _⟩, ⟨bx HB.out⟩⟩
    case round =>
      clear H'
      try clear c1
      try clear c2
      try clear p2
      try clear c3
      try clear c3b0
      try clear c3b1
      try clear c3b2
      obtain ⟨x5_1, rfl, HA, HK1, HB⟩ := hrel
      cases gk with
      | zero => exact absurd HA.out (by simp [laws_eqAffixS.l0])
      | succ k1 =>
        have H := HA.out
        clear HA
        simp only [laws_eqAffixS.l0] at H
        by_cases c4 : x5_1 < (l0.length : Int)
        · rw [if_pos c4] at H
          have c4b0 := decide_eq_true c4
          clear c4
          have c5 := ite_y H
          replace H := ite_t H
          have c5b0 := decide_eq_true c5
          clear c5
          have c6 := ite_y H
          replace H := ite_t H
          have c6b0 := decide_eq_true c6
          clear c6
          replace H := Option.bind_eq_some_iff.mp H
          obtain ⟨t103, A70, H⟩ := H
          have A7 := Aside0.mk A70
          clear A70
          by_cases c8 : t103 = true
          · subst c8
            rw [if_pos rfl] at H
            have H' := Aside0.mk H
            clear H
            try go_wp2
            replace HB := Aside0.mk (below_drew1 HB.out)
            have p101 := of_decide_eq_true c5b0
            have q101 := of_decide_eq_true c4b0
            obtain ⟨ad101, e101, hx101_0, hx101_1, hx101_2, hx101_3, hx101_4⟩ := at_T46 HR0.out x5_1 p101 q101
            have hw101_4 := hx101_4
            have hw101_3 := hx101_3
            have hw101_2 := hx101_2
            have hw101_1 := hx101_1
            have hw101_0 := hx101_0
            cases e101
            replace hx101_0 := px HB.out hx101_0
            replace hx101_1 := px HB.out hx101_1
            replace hx101_2 := px HB.out hx101_2
            replace hx101_3 := px HB.out hx101_3
            replace hx101_4 := px HB.out hx101_4
            replace p101 := eq_true p101
            replace q101 := eq_true q101
            have p102 := of_decide_eq_true c5b0
            have q102 := of_decide_eq_true c6b0
            obtain ⟨ad102, e102, hx102_0, hx102_1, hx102_2, hx102_3, hx102_4⟩ := at_T46 HR1.out x5_1 p102 q102
            have hw102_4 := hx102_4
            have hw102_3 := hx102_3
            have hw102_2 := hx102_2
            have hw102_1 := hx102_1
            have hw102_0 := hx102_0
            cases e102
            replace hx102_0 := px HB.out hx102_0
            replace hx102_1 := px HB.out hx102_1
            replace hx102_2 := px HB.out hx102_2
            replace hx102_3 := px HB.out hx102_3
            replace hx102_4 := px HB.out hx102_4
            replace p102 := eq_true p102
            replace q102 := eq_true q102
            refine start_ (n := 10) (S := fun w' => w'.cell? (ad101.add ((x5_1).toNat * 5)) = some (.string ((rd_T46 l0 x5_1).f0)) ∧ w'.cell? ⟨(ad101.add ((x5_1).toNat * 5)).block, (ad101.add ((x5_1).toNat * 5)).off + 1, none⟩ = some (.bool ((rd_T46 l0 x5_1).f1)) ∧ w'.cell? ⟨(ad101.add ((x5_1).toNat * 5)).block, (ad101.add ((x5_1).toNat * 5)).off + 2, none⟩ = some (.string ((rd_T46 l0 x5_1).f2)) ∧ w'.cell? ⟨(ad101.add ((x5_1).toNat * 5)).block, (ad101.add ((x5_1).toNat * 5)).off + 3, none⟩ = some (.string ((rd_T46 l0 x5_1).f3)) ∧ w'.cell? ⟨(ad101.add ((x5_1).toNat * 5)).block, (ad101.add ((x5_1).toNat * 5)).off + 4, none⟩ = some (.string ((rd_T46 l0 x5_1).f4)) ∧ w'.cell? (ad102.add ((x5_1).toNat * 5)) = some (.string ((rd_T46 l1 x5_1).f0)) ∧ w'.cell? ⟨(ad102.add ((x5_1).toNat * 5)).block, (ad102.add ((x5_1).toNat * 5)).off + 1, none⟩ = some (.bool ((rd_T46 l1 x5_1).f1)) ∧ w'.cell? ⟨(ad102.add ((x5_1).toNat * 5)).block, (ad102.add ((x5_1).toNat * 5)).off + 2, none⟩ = some (.string ((rd_T46 l1 x5_1).f2)) ∧ w'.cell? ⟨(ad102.add ((x5_1).toNat * 5)).block, (ad102.add ((x5_1).toNat * 5)).off + 3, none⟩ = some (.string ((rd_T46 l1 x5_1).f3)) ∧ w'.cell? ⟨(ad102.add ((x5_1).toNat * 5)).block, (ad102.add ((x5_1).toNat * 5)).off + 4, none⟩ = some (.string ((rd_T46 l1 x5_1).f4))) (ds := []) _ (by kernel_rfl) rfl rfl ⟨(px HB.out hw101_0), (px HB.out hw101_1), (px HB.out hw101_2), (px HB.out hw101_3), (px HB.out hw101_4), (px HB.out hw102_0), (px HB.out hw102_1), (px HB.out hw102_2), (px HB.out hw102_3), (px HB.out hw102_4)⟩ (fun hHeld => ?_); refine with_tabW laws_eqAffixS.tab6 laws_eqAffixS.bits6 (fun HT_ HW_ => ?_)
            generalize wr.drew = w9 at HB hx101_0 hx101_1 hx101_2 hx101_3 hx101_4 hx102_0 hx102_1 hx102_2 hx102_3 hx102_4 hHeld ⊢
            refine ord_ [.p 0 17, .p 1 18, .p 2 19, .p 4 21, .p 5 22, .p 6 23, .t 3 20, .t 7 24] ?_
            repeat (first | (refine pu_ (v := ?_) (a' := ?_) HT_ rfl rfl (by kernel_rfl) (fun _ _ _ h => h) (by rfl) ?_ ?_ ?_; rotate_left 2; (intro w'; go_simp; with_reducible rfl); (simp only [Act.put, List.setIfInBounds_toArray, List.set_cons_zero, List.set_cons_succ, i64_w, i32_w]; rfl)) | (refine ta_ (v := ?_) (a' := ?_) HT_ HW_ rfl rfl (by kernel_rfl) (fun _ _ _ h => h) (by rfl) hHeld ?_ ?_ ?_; rotate_left 2; (rintro w' ⟨s0, s1, s2, s3, s4, s5, s6, s7, s8, s9⟩; go_simp; with_reducible rfl); (simp only [Act.put, List.setIfInBounds_toArray, List.set_cons_zero, List.set_cons_succ, i64_w, i32_w]; rfl)))
            refine ord0 ?_
            refine on_ (i := 8) (N := some 25) HT_ rfl rfl (by kernel_rfl) (by decide) (fun K hK => ?_)
            refine goM gf56 #[.agg #[.string ((rd_T46 l0 x5_1).f0), .bool ((rd_T46 l0 x5_1).f1), .string ((rd_T46 l0 x5_1).f2), .string ((rd_T46 l0 x5_1).f3), .string ((rd_T46 l0 x5_1).f4)], .agg #[.string ((rd_T46 l1 x5_1).f0), .bool ((rd_T46 l1 x5_1).f1), .string ((rd_T46 l1 x5_1).f2), .string ((rd_T46 l1 x5_1).f3), .string ((rd_T46 l1 x5_1).f4)]] (by rfl) rfl rfl rfl ?_
            with_reducible refine (laws_eqAffix.calls ((rd_T46 l0 x5_1).f0) ((rd_T46 l0 x5_1).f1) ((rd_T46 l0 x5_1).f2) ((rd_T46 l0 x5_1).f3) ((rd_T46 l0 x5_1).f4) ((rd_T46 l1 x5_1).f0) ((rd_T46 l1 x5_1).f1) ((rd_T46 l1 x5_1).f2) ((rd_T46 l1 x5_1).f3) ((rd_T46 l1 x5_1).f4) true _ A7.out).mono ?_
            rintro e w10 ⟨rfl, hb⟩
            refine ⟨_, rfl, ?_⟩
            replace HB := kB HB hb
            (try clear hb)
            (try clear hb2)
            (try clear hk)
            (try clear hi)
            refine hK.out _ _ ⟨(px HB.out hw101_0), (px HB.out hw101_1), (px HB.out hw101_2), (px HB.out hw101_3), (px HB.out hw101_4), (px HB.out hw102_0), (px HB.out hw102_1), (px HB.out hw102_2), (px HB.out hw102_3), (px HB.out hw102_4)⟩ (fun hHeld => ?_)
            clear hK K
            refine norm_ (a' := ?_) ?_ ?_
            rotate_left
            · show Act.put _ (some 25) _ = _
              simp only [Act.put, List.setIfInBounds_toArray, List.set_cons_zero, List.set_cons_succ, i64_w, i32_w]
              rfl
            refine ord_ [.p 9 26] ?_
            repeat (refine pu_ (v := ?_) (a' := ?_) HT_ rfl rfl (by kernel_rfl) (fun _ _ _ h => h) (by rfl) ?_ ?_ ?_; rotate_left 2; (intro w'; go_simp; with_reducible rfl); (simp only [Act.put, List.setIfInBounds_toArray, List.set_cons_zero, List.set_cons_succ, i64_w, i32_w]; rfl))
            refine ord0 ?_
            refine done_ (done_of HT_.out (by kernel_rfl)) ?_
            try go_wp2
            go_roundg k1
            case measure => have := HK1.out; omega
            case rel => exact ⟨(wrap64 (x5_1 + 1)), (by first | rfl | (simp; done) | (simp [*]; done)), H', ⟨by have := HK1.out; omega⟩, ⟨bx HB.out⟩⟩
          · replace c8 := Bool.eq_false_iff.mpr c8
            subst c8
            rw [if_neg Bool.false_ne_true] at H
            obtain rfl := Option.some.inj H
            try go_wp2
            replace HB := Aside0.mk (below_drew1 HB.out)
            have p101 := of_decide_eq_true c5b0
            have q101 := of_decide_eq_true c4b0
            obtain ⟨ad101, e101, hx101_0, hx101_1, hx101_2, hx101_3, hx101_4⟩ := at_T46 HR0.out x5_1 p101 q101
            have hw101_4 := hx101_4
            have hw101_3 := hx101_3
            have hw101_2 := hx101_2
            have hw101_1 := hx101_1
            have hw101_0 := hx101_0
            cases e101
            replace hx101_0 := px HB.out hx101_0
            replace hx101_1 := px HB.out hx101_1
            replace hx101_2 := px HB.out hx101_2
            replace hx101_3 := px HB.out hx101_3
            replace hx101_4 := px HB.out hx101_4
            replace p101 := eq_true p101
            replace q101 := eq_true q101
            have p102 := of_decide_eq_true c5b0
            have q102 := of_decide_eq_true c6b0
            obtain ⟨ad102, e102, hx102_0, hx102_1, hx102_2, hx102_3, hx102_4⟩ := at_T46 HR1.out x5_1 p102 q102
            have hw102_4 := hx102_4
            have hw102_3 := hx102_3
            have hw102_2 := hx102_2
            have hw102_1 := hx102_1
            have hw102_0 := hx102_0
            cases e102
            replace hx102_0 := px HB.out hx102_0
            replace hx102_1 := px HB.out hx102_1
            replace hx102_2 := px HB.out hx102_2
            replace hx102_3 := px HB.out hx102_3
            replace hx102_4 := px HB.out hx102_4
            replace p102 := eq_true p102
            replace q102 := eq_true q102
            refine start_ (n := 10) (S := fun w' => w'.cell? (ad101.add ((x5_1).toNat * 5)) = some (.string ((rd_T46 l0 x5_1).f0)) ∧ w'.cell? ⟨(ad101.add ((x5_1).toNat * 5)).block, (ad101.add ((x5_1).toNat * 5)).off + 1, none⟩ = some (.bool ((rd_T46 l0 x5_1).f1)) ∧ w'.cell? ⟨(ad101.add ((x5_1).toNat * 5)).block, (ad101.add ((x5_1).toNat * 5)).off + 2, none⟩ = some (.string ((rd_T46 l0 x5_1).f2)) ∧ w'.cell? ⟨(ad101.add ((x5_1).toNat * 5)).block, (ad101.add ((x5_1).toNat * 5)).off + 3, none⟩ = some (.string ((rd_T46 l0 x5_1).f3)) ∧ w'.cell? ⟨(ad101.add ((x5_1).toNat * 5)).block, (ad101.add ((x5_1).toNat * 5)).off + 4, none⟩ = some (.string ((rd_T46 l0 x5_1).f4)) ∧ w'.cell? (ad102.add ((x5_1).toNat * 5)) = some (.string ((rd_T46 l1 x5_1).f0)) ∧ w'.cell? ⟨(ad102.add ((x5_1).toNat * 5)).block, (ad102.add ((x5_1).toNat * 5)).off + 1, none⟩ = some (.bool ((rd_T46 l1 x5_1).f1)) ∧ w'.cell? ⟨(ad102.add ((x5_1).toNat * 5)).block, (ad102.add ((x5_1).toNat * 5)).off + 2, none⟩ = some (.string ((rd_T46 l1 x5_1).f2)) ∧ w'.cell? ⟨(ad102.add ((x5_1).toNat * 5)).block, (ad102.add ((x5_1).toNat * 5)).off + 3, none⟩ = some (.string ((rd_T46 l1 x5_1).f3)) ∧ w'.cell? ⟨(ad102.add ((x5_1).toNat * 5)).block, (ad102.add ((x5_1).toNat * 5)).off + 4, none⟩ = some (.string ((rd_T46 l1 x5_1).f4))) (ds := []) _ (by kernel_rfl) rfl rfl ⟨(px HB.out hw101_0), (px HB.out hw101_1), (px HB.out hw101_2), (px HB.out hw101_3), (px HB.out hw101_4), (px HB.out hw102_0), (px HB.out hw102_1), (px HB.out hw102_2), (px HB.out hw102_3), (px HB.out hw102_4)⟩ (fun hHeld => ?_); refine with_tabW laws_eqAffixS.tab6 laws_eqAffixS.bits6 (fun HT_ HW_ => ?_)
            generalize wr.drew = w11 at HB hx101_0 hx101_1 hx101_2 hx101_3 hx101_4 hx102_0 hx102_1 hx102_2 hx102_3 hx102_4 hHeld ⊢
            refine ord_ [.p 0 17, .p 1 18, .p 2 19, .p 4 21, .p 5 22, .p 6 23, .t 3 20, .t 7 24] ?_
            repeat (first | (refine pu_ (v := ?_) (a' := ?_) HT_ rfl rfl (by kernel_rfl) (fun _ _ _ h => h) (by rfl) ?_ ?_ ?_; rotate_left 2; (intro w'; go_simp; with_reducible rfl); (simp only [Act.put, List.setIfInBounds_toArray, List.set_cons_zero, List.set_cons_succ, i64_w, i32_w]; rfl)) | (refine ta_ (v := ?_) (a' := ?_) HT_ HW_ rfl rfl (by kernel_rfl) (fun _ _ _ h => h) (by rfl) hHeld ?_ ?_ ?_; rotate_left 2; (rintro w' ⟨s0, s1, s2, s3, s4, s5, s6, s7, s8, s9⟩; go_simp; with_reducible rfl); (simp only [Act.put, List.setIfInBounds_toArray, List.set_cons_zero, List.set_cons_succ, i64_w, i32_w]; rfl)))
            refine ord0 ?_
            refine on_ (i := 8) (N := some 25) HT_ rfl rfl (by kernel_rfl) (by decide) (fun K hK => ?_)
            refine goM gf56 #[.agg #[.string ((rd_T46 l0 x5_1).f0), .bool ((rd_T46 l0 x5_1).f1), .string ((rd_T46 l0 x5_1).f2), .string ((rd_T46 l0 x5_1).f3), .string ((rd_T46 l0 x5_1).f4)], .agg #[.string ((rd_T46 l1 x5_1).f0), .bool ((rd_T46 l1 x5_1).f1), .string ((rd_T46 l1 x5_1).f2), .string ((rd_T46 l1 x5_1).f3), .string ((rd_T46 l1 x5_1).f4)]] (by rfl) rfl rfl rfl ?_
            with_reducible refine (laws_eqAffix.calls ((rd_T46 l0 x5_1).f0) ((rd_T46 l0 x5_1).f1) ((rd_T46 l0 x5_1).f2) ((rd_T46 l0 x5_1).f3) ((rd_T46 l0 x5_1).f4) ((rd_T46 l1 x5_1).f0) ((rd_T46 l1 x5_1).f1) ((rd_T46 l1 x5_1).f2) ((rd_T46 l1 x5_1).f3) ((rd_T46 l1 x5_1).f4) false _ A7.out).mono ?_
            rintro e w12 ⟨rfl, hb⟩
            refine ⟨_, rfl, ?_⟩
            replace HB := kB HB hb
            (try clear hb)
            (try clear hb2)
            (try clear hk)
            (try clear hi)
            refine hK.out _ _ ⟨(px HB.out hw101_0), (px HB.out hw101_1), (px HB.out hw101_2), (px HB.out hw101_3), (px HB.out hw101_4), (px HB.out hw102_0), (px HB.out hw102_1), (px HB.out hw102_2), (px HB.out hw102_3), (px HB.out hw102_4)⟩ (fun hHeld => ?_)
            clear hK K
            refine norm_ (a' := ?_) ?_ ?_
            rotate_left
            · show Act.put _ (some 25) _ = _
              simp only [Act.put, List.setIfInBounds_toArray, List.set_cons_zero, List.set_cons_succ, i64_w, i32_w]
              rfl
            refine ord_ [.p 9 26] ?_
            repeat (refine pu_ (v := ?_) (a' := ?_) HT_ rfl rfl (by kernel_rfl) (fun _ _ _ h => h) (by rfl) ?_ ?_ ?_; rotate_left 2; (intro w'; go_simp; with_reducible rfl); (simp only [Act.put, List.setIfInBounds_toArray, List.set_cons_zero, List.set_cons_succ, i64_w, i32_w]; rfl))
            refine ord0 ?_
            refine done_ (done_of HT_.out (by kernel_rfl)) ?_
            try go_wp2
            go_ret
            exact ⟨by rfl, bx HB.out⟩
        · rw [if_neg c4] at H
          have c4b0 := decide_eq_false c4
          clear c4
          obtain rfl := Option.some.inj H
          go_wp2
          go_ret
          exact ⟨by rfl, bx HB.out⟩
  · rw [if_neg c3] at H
    have c3b0 : ((l0.length : Int) == (l1.length : Int)) = false := beq_eq_false_iff_ne.mpr c3
    have c3b1 : ((l0.length : Int) != (l1.length : Int)) = true := bne_iff_ne.mpr c3
    have c3b2 : (l0.length == l1.length) = false := by first | simpa using c3 | (simp at c3 ⊢; omega)
    obtain rfl := Option.some.inj H
    go_enter Tryd.func26, Tryd.ntmps26
    go_wp2
    go_ret
    exact ⟨by rfl, bx HB.out⟩
end Go.Proofs.YtabindnaedchgaaDoor.M
end

section
-- Printed for this claim by a program (mprint.py) that uses the kit's print; Lean checks it.
namespace Go.Proofs.YtabindnaedchgaaDoor.M
open Go.RowKit Go.Proofs.YtabindnaedchgaaDoorW.PrintWords Go.Proofs.YtabindnaedchgaaDoorW.PrintLast Go.Proofs.YtabindnaedchgaaDoorW.PrintMore Go.Proofs.YtabindnaedchgaaDoor.Sq
set_option synthInstance.maxHeartbeats 2000000
set_option synthInstance.maxSize 4096
attribute [local go_sem] max2_int min2_int max_two min_two max_three min_three max_four min_four   -- for this text's walks alone
set_option linter.unusedVariables false
set_option linter.unusedSimpArgs false
theorem gf55 : Go_ Tryd.prog 55 Tryd.f55 := ⟨Tryd.func55, by kernel_rfl, rfl⟩
def laws_eqEntry.f (a0_0 : ByteArray) (a0_1 : ByteArray) (a1_0 : ByteArray) (a1_1 : ByteArray) : Option (Bool) := if a0_0.toList = a1_0.toList then (if a0_1.toList = a1_1.toList then (some true) else (some false)) else (some false)
set_option maxHeartbeats 8000000 in
set_option maxRecDepth 100000 in
theorem laws_eqEntry.calls (a0_0 : ByteArray) (a0_1 : ByteArray) (a1_0 : ByteArray) (a1_1 : ByteArray) (r : Bool) (w : World) (h : laws_eqEntry.f a0_0 a0_1 a1_0 a1_1 = some r) :
    Calls Tryd.prog 55 #[.agg #[.string a0_0, .string a0_1], .agg #[.string a1_0, .string a1_1]] w fun e w' => e = .returned (.bool r) ∧ Below w.heap.size w w' := by
  have hu43 := Tryd.underlying43
  have HB := Aside0.mk (Below.refl w.heap.size w)
  unfold laws_eqEntry.f at h
  have H := h
  clear h
  by_cases c3 : a0_0.toList = a1_0.toList
  · rw [if_pos c3] at H
    have c3b0 : (a0_0.toList == a1_0.toList) = true := beq_iff_eq.mpr c3
    have c3b1 : (a0_0.toList != a1_0.toList) = false := bne_eq_false_iff_eq.mpr c3
    clear c3
    by_cases c4 : a0_1.toList = a1_1.toList
    · rw [if_pos c4] at H
      have c4b0 : (a0_1.toList == a1_1.toList) = true := beq_iff_eq.mpr c4
      have c4b1 : (a0_1.toList != a1_1.toList) = false := bne_eq_false_iff_eq.mpr c4
      clear c4
      obtain rfl := Option.some.inj H
      go_enter Tryd.func55, Tryd.ntmps55
      go_wp2_with (first | ((with_reducible refine gate_dst (N := 2) rfl ?_); refine box_event rfl (N := 2) rfl (cs := #[.string a0_0, .string a0_1]) (t := 43) (by go_simp <;> rfl) ?_; intro gb101 hg w5 hbox hb; have BK101 := Aside0.mk (hbox); have GW101 := Le_.mk (ge_of hg HB.out); have GE101 := Le_.mk (ge_of hg HB.out); replace HB := kB HB hb; clear hb hbox hg) | ((with_reducible refine gate_dst (N := 3) rfl ?_); refine box_event rfl (N := 3) rfl (cs := #[.string a1_0, .string a1_1]) (t := 43) (by go_simp <;> rfl) ?_; intro gb102 hg w6 hbox hb; have BK102 := Aside0.mk (hbox); have GW102 := Le_.mk (ge_of hg HB.out); have GE102 := Le_.mk (ge_of hg HB.out); replace HB := kB HB hb; have NB101_102 := Ne_.mk ((by rw [hg]; exact Nat.ne_of_lt (blk_lt (gx (BK101.out))) : gb101 ≠ gb102)); have NB102_101 := Ne_.mk ((by rw [hg]; exact Nat.ne_of_gt (blk_lt (gx (BK101.out))) : gb102 ≠ gb101)); replace BK101 := kb BK101 hb; clear hb hbox hg; have hnb7 := NB101_102.out; have hnc7 := NB102_101.out; have hz8 := cells_2 BK101.out; have hz9 := cells_2 BK102.out))
      go_ret
      exact ⟨by rfl, bx HB.out⟩
    · rw [if_neg c4] at H
      have c4b0 : (a0_1.toList == a1_1.toList) = false := beq_eq_false_iff_ne.mpr c4
      have c4b1 : (a0_1.toList != a1_1.toList) = true := bne_iff_ne.mpr c4
      obtain rfl := Option.some.inj H
      go_enter Tryd.func55, Tryd.ntmps55
      go_wp2_with (first | ((with_reducible refine gate_dst (N := 2) rfl ?_); refine box_event rfl (N := 2) rfl (cs := #[.string a0_0, .string a0_1]) (t := 43) (by go_simp <;> rfl) ?_; intro gb101 hg w10 hbox hb; have BK101 := Aside0.mk (hbox); have GW101 := Le_.mk (ge_of hg HB.out); have GE101 := Le_.mk (ge_of hg HB.out); replace HB := kB HB hb; clear hb hbox hg) | ((with_reducible refine gate_dst (N := 3) rfl ?_); refine box_event rfl (N := 3) rfl (cs := #[.string a1_0, .string a1_1]) (t := 43) (by go_simp <;> rfl) ?_; intro gb102 hg w11 hbox hb; have BK102 := Aside0.mk (hbox); have GW102 := Le_.mk (ge_of hg HB.out); have GE102 := Le_.mk (ge_of hg HB.out); replace HB := kB HB hb; have NB101_102 := Ne_.mk ((by rw [hg]; exact Nat.ne_of_lt (blk_lt (gx (BK101.out))) : gb101 ≠ gb102)); have NB102_101 := Ne_.mk ((by rw [hg]; exact Nat.ne_of_gt (blk_lt (gx (BK101.out))) : gb102 ≠ gb101)); replace BK101 := kb BK101 hb; clear hb hbox hg; have hnb12 := NB101_102.out; have hnc12 := NB102_101.out; have hz13 := cells_2 BK101.out; have hz14 := cells_2 BK102.out))
      go_ret
      exact ⟨by rfl, bx HB.out⟩
  · rw [if_neg c3] at H
    have c3b0 : (a0_0.toList == a1_0.toList) = false := beq_eq_false_iff_ne.mpr c3
    have c3b1 : (a0_0.toList != a1_0.toList) = true := bne_iff_ne.mpr c3
    obtain rfl := Option.some.inj H
    go_enter Tryd.func55, Tryd.ntmps55
    go_wp2_with (first | ((with_reducible refine gate_dst (N := 2) rfl ?_); refine box_event rfl (N := 2) rfl (cs := #[.string a0_0, .string a0_1]) (t := 43) (by go_simp <;> rfl) ?_; intro gb101 hg w15 hbox hb; have BK101 := Aside0.mk (hbox); have GW101 := Le_.mk (ge_of hg HB.out); have GE101 := Le_.mk (ge_of hg HB.out); replace HB := kB HB hb; clear hb hbox hg) | ((with_reducible refine gate_dst (N := 3) rfl ?_); refine box_event rfl (N := 3) rfl (cs := #[.string a1_0, .string a1_1]) (t := 43) (by go_simp <;> rfl) ?_; intro gb102 hg w16 hbox hb; have BK102 := Aside0.mk (hbox); have GW102 := Le_.mk (ge_of hg HB.out); have GE102 := Le_.mk (ge_of hg HB.out); replace HB := kB HB hb; have NB101_102 := Ne_.mk ((by rw [hg]; exact Nat.ne_of_lt (blk_lt (gx (BK101.out))) : gb101 ≠ gb102)); have NB102_101 := Ne_.mk ((by rw [hg]; exact Nat.ne_of_gt (blk_lt (gx (BK101.out))) : gb102 ≠ gb101)); replace BK101 := kb BK101 hb; clear hb hbox hg; have hnb17 := NB101_102.out; have hnc17 := NB102_101.out; have hz18 := cells_2 BK101.out; have hz19 := cells_2 BK102.out))
    go_ret
    exact ⟨by rfl, bx HB.out⟩
end Go.Proofs.YtabindnaedchgaaDoor.M
end

section
-- Printed for this claim by a program (mprint.py) that uses the kit's print; Lean checks it.
namespace Go.Proofs.YtabindnaedchgaaDoor.M
open Go.RowKit Go.Proofs.YtabindnaedchgaaDoorW.PrintWords Go.Proofs.YtabindnaedchgaaDoorW.PrintLast Go.Proofs.YtabindnaedchgaaDoorW.PrintMore Go.Proofs.YtabindnaedchgaaDoor.Sq
set_option synthInstance.maxHeartbeats 2000000
set_option synthInstance.maxSize 4096
attribute [local go_sem] max2_int min2_int max_two min_two max_three min_three max_four min_four   -- for this text's walks alone
set_option linter.unusedVariables false
set_option linter.unusedSimpArgs false
theorem gf25 : Go_ Tryd.prog 25 Tryd.f25 := ⟨Tryd.func25, by kernel_rfl, rfl⟩
def laws_eqEntryS.l0 : Nat → List (S43) → List (S43) → Int → Option (Bool)
  | 0, _, _, _ => none
  | k + 1, x0, x1, x5 => if x5 < (x0.length : Int) then (if 0 ≤ x5 then (if x5 < (x1.length : Int) then ((laws_eqEntry.f ((rd_T43 x0 x5).f0) ((rd_T43 x0 x5).f1) ((rd_T43 x1 x5).f0) ((rd_T43 x1 x5).f1)).bind fun t103 => (if t103 = true then (laws_eqEntryS.l0 k x0 x1 (wrap64 (x5 + 1))) else (some false))) else (none)) else (none)) else (some true)
def laws_eqEntryS.f (k : Nat) (l0 : List (S43)) (l1 : List (S43)) : Option (Bool) := if (l0.length : Int) = (l1.length : Int) then (laws_eqEntryS.l0 k l0 l1 0) else (some false)
theorem laws_eqEntryS.mono_l : ∀ k, (∀ y0 y1 y2, LeO (laws_eqEntryS.l0 k y0 y1 y2) (laws_eqEntryS.l0 (k + 1) y0 y1 y2))
  | 0 => fun _ _ _ r h => by simp [laws_eqEntryS.l0] at h
  | k + 1 => by
    have ih0 := laws_eqEntryS.mono_l k
    · intro y0 y1 y2
      unfold laws_eqEntryS.l0
      have I0_ := fun x0_ x1_ x2_ => LeC.mk (ih0 x0_ x1_ x2_)
      exact LeC.out
theorem laws_eqEntryS.mono : ∀ a0 a1 k, LeO (laws_eqEntryS.f k a0 a1) (laws_eqEntryS.f (k + 1) a0 a1) := by
  intro a0 a1 k
  have ih0 := laws_eqEntryS.mono_l k
  unfold laws_eqEntryS.f
  have I0_ := fun x0_ x1_ x2_ => LeC.mk (ih0 x0_ x1_ x2_)
  exact LeC.out
def laws_eqEntryS.T6 : Bool × List (List Nat × List Nat) := (true, [([], []), ([], []), ([0, 1], [0, 1]), ([2], [2]), ([], []), ([], []), ([4, 5], [4, 5]), ([6], [6]), ([3, 7], [3, 7]), ([8], [8])])
def laws_eqEntryS.B6 : List Nat := [0, 0, 3, 7, 0, 0, 48, 112, 255, 511]
theorem laws_eqEntryS.tab6 : rtab .any (opsOf Tryd.f25 6) = laws_eqEntryS.T6 := by kernel_rfl
theorem laws_eqEntryS.bits6 : waitsOk laws_eqEntryS.T6.2 laws_eqEntryS.B6 = true := by kernel_rfl
set_option maxHeartbeats 8000000 in
set_option maxRecDepth 100000 in
theorem laws_eqEntryS.calls (k : Nat) (A0 : Option Addr) (c0 : Nat) (l0 : List (S43)) (A1 : Option Addr) (c1 : Nat) (l1 : List (S43)) (r : Bool) (w : World) (hr0 : Kd.C k43 w A0 l0.length l0) (hc0 : l0.length ≤ c0) (hr1 : Kd.C k43 w A1 l1.length l1) (hc1 : l1.length ≤ c1) (h : laws_eqEntryS.f k l0 l1 = some r) :
    Calls Tryd.prog 25 #[.slice A0 l0.length c0, .slice A1 l1.length c1] w fun e w' => e = .returned (.bool r) ∧ Below w.heap.size w w' := by
  have hu43 := Tryd.underlying43
  have HR0 := Aside0.mk hr0
  have HC0 := Aside0.mk hc0
  clear hr0 hc0
  have HR1 := Aside0.mk hr1
  have HC1 := Aside0.mk hc1
  clear hr1 hc1
  have HB := Aside0.mk (Below.refl w.heap.size w)
  unfold laws_eqEntryS.f at h
  have H := h
  clear h
  by_cases c3 : (l0.length : Int) = (l1.length : Int)
  · rw [if_pos c3] at H
    have c3b0 : ((l0.length : Int) == (l1.length : Int)) = true := beq_iff_eq.mpr c3
    have c3b1 : ((l0.length : Int) != (l1.length : Int)) = false := bne_eq_false_iff_eq.mpr c3
    have c3b2 : (l0.length == l1.length) = true := by first | simpa using c3 | (simp at c3 ⊢; omega)
    clear c3
    have H' := Aside0.mk H
    clear H
    go_enter Tryd.func25, Tryd.ntmps25
    go_wp2
    go_loopg [5] k (fun kq v5 w' => ∃ (x5_1 : Int), v5 = .int .i64 x5_1 ∧ Aside0 (laws_eqEntryS.l0 kq l0 l1 x5_1 = some r) ∧ Aside0 (kq ≤ k) ∧ Aside0 (Below w.heap.size w w'))
    case atStart => exact ⟨(0), (by first | rfl | (simp; done) | (simp [*]; done)), H', ⟨Nat.le_refl _⟩, ⟨bx HB.out⟩⟩
    case round =>
      clear H'
      try clear c1
      try clear c2
      try clear p2
      try clear c3
      try clear c3b0
      try clear c3b1
      try clear c3b2
      obtain ⟨x5_1, rfl, HA, HK1, HB⟩ := hrel
      cases gk with
      | zero => exact absurd HA.out (by simp [laws_eqEntryS.l0])
      | succ k1 =>
        have H := HA.out
        clear HA
        simp only [laws_eqEntryS.l0] at H
        by_cases c4 : x5_1 < (l0.length : Int)
        · rw [if_pos c4] at H
          have c4b0 := decide_eq_true c4
          clear c4
          have c5 := ite_y H
          replace H := ite_t H
          have c5b0 := decide_eq_true c5
          clear c5
          have c6 := ite_y H
          replace H := ite_t H
          have c6b0 := decide_eq_true c6
          clear c6
          replace H := Option.bind_eq_some_iff.mp H
          obtain ⟨t103, A70, H⟩ := H
          have A7 := Aside0.mk A70
          clear A70
          by_cases c8 : t103 = true
          · subst c8
            rw [if_pos rfl] at H
            have H' := Aside0.mk H
            clear H
            try go_wp2
            replace HB := Aside0.mk (below_drew1 HB.out)
            have p101 := of_decide_eq_true c5b0
            have q101 := of_decide_eq_true c4b0
            obtain ⟨ad101, e101, hx101_0, hx101_1⟩ := at_T43 HR0.out x5_1 p101 q101
            have hw101_1 := hx101_1
            have hw101_0 := hx101_0
            cases e101
            replace hx101_0 := px HB.out hx101_0
            replace hx101_1 := px HB.out hx101_1
            replace p101 := eq_true p101
            replace q101 := eq_true q101
            have p102 := of_decide_eq_true c5b0
            have q102 := of_decide_eq_true c6b0
            obtain ⟨ad102, e102, hx102_0, hx102_1⟩ := at_T43 HR1.out x5_1 p102 q102
            have hw102_1 := hx102_1
            have hw102_0 := hx102_0
            cases e102
            replace hx102_0 := px HB.out hx102_0
            replace hx102_1 := px HB.out hx102_1
            replace p102 := eq_true p102
            replace q102 := eq_true q102
            refine start_ (n := 10) (S := fun w' => w'.cell? (ad101.add ((x5_1).toNat * 2)) = some (.string ((rd_T43 l0 x5_1).f0)) ∧ w'.cell? ⟨(ad101.add ((x5_1).toNat * 2)).block, (ad101.add ((x5_1).toNat * 2)).off + 1, none⟩ = some (.string ((rd_T43 l0 x5_1).f1)) ∧ w'.cell? (ad102.add ((x5_1).toNat * 2)) = some (.string ((rd_T43 l1 x5_1).f0)) ∧ w'.cell? ⟨(ad102.add ((x5_1).toNat * 2)).block, (ad102.add ((x5_1).toNat * 2)).off + 1, none⟩ = some (.string ((rd_T43 l1 x5_1).f1))) (ds := []) _ (by kernel_rfl) rfl rfl ⟨(px HB.out hw101_0), (px HB.out hw101_1), (px HB.out hw102_0), (px HB.out hw102_1)⟩ (fun hHeld => ?_); refine with_tabW laws_eqEntryS.tab6 laws_eqEntryS.bits6 (fun HT_ HW_ => ?_)
            generalize wr.drew = w9 at HB hx101_0 hx101_1 hx102_0 hx102_1 hHeld ⊢
            refine ord_ [.p 0 17, .p 1 18, .p 2 19, .p 4 21, .p 5 22, .p 6 23, .t 3 20, .t 7 24] ?_
            repeat (first | (refine pu_ (v := ?_) (a' := ?_) HT_ rfl rfl (by kernel_rfl) (fun _ _ _ h => h) (by rfl) ?_ ?_ ?_; rotate_left 2; (intro w'; go_simp; with_reducible rfl); (simp only [Act.put, List.setIfInBounds_toArray, List.set_cons_zero, List.set_cons_succ, i64_w, i32_w]; rfl)) | (refine ta_ (v := ?_) (a' := ?_) HT_ HW_ rfl rfl (by kernel_rfl) (fun _ _ _ h => h) (by rfl) hHeld ?_ ?_ ?_; rotate_left 2; (rintro w' ⟨s0, s1, s2, s3⟩; go_simp; with_reducible rfl); (simp only [Act.put, List.setIfInBounds_toArray, List.set_cons_zero, List.set_cons_succ, i64_w, i32_w]; rfl)))
            refine ord0 ?_
            refine on_ (i := 8) (N := some 25) HT_ rfl rfl (by kernel_rfl) (by decide) (fun K hK => ?_)
            refine goM gf55 #[.agg #[.string ((rd_T43 l0 x5_1).f0), .string ((rd_T43 l0 x5_1).f1)], .agg #[.string ((rd_T43 l1 x5_1).f0), .string ((rd_T43 l1 x5_1).f1)]] (by rfl) rfl rfl rfl ?_
            with_reducible refine (laws_eqEntry.calls ((rd_T43 l0 x5_1).f0) ((rd_T43 l0 x5_1).f1) ((rd_T43 l1 x5_1).f0) ((rd_T43 l1 x5_1).f1) true _ A7.out).mono ?_
            rintro e w10 ⟨rfl, hb⟩
            refine ⟨_, rfl, ?_⟩
            replace HB := kB HB hb
            (try clear hb)
            (try clear hb2)
            (try clear hk)
            (try clear hi)
            refine hK.out _ _ ⟨(px HB.out hw101_0), (px HB.out hw101_1), (px HB.out hw102_0), (px HB.out hw102_1)⟩ (fun hHeld => ?_)
            clear hK K
            refine norm_ (a' := ?_) ?_ ?_
            rotate_left
            · show Act.put _ (some 25) _ = _
              simp only [Act.put, List.setIfInBounds_toArray, List.set_cons_zero, List.set_cons_succ, i64_w, i32_w]
              rfl
            refine ord_ [.p 9 26] ?_
            repeat (refine pu_ (v := ?_) (a' := ?_) HT_ rfl rfl (by kernel_rfl) (fun _ _ _ h => h) (by rfl) ?_ ?_ ?_; rotate_left 2; (intro w'; go_simp; with_reducible rfl); (simp only [Act.put, List.setIfInBounds_toArray, List.set_cons_zero, List.set_cons_succ, i64_w, i32_w]; rfl))
            refine ord0 ?_
            refine done_ (done_of HT_.out (by kernel_rfl)) ?_
            try go_wp2
            go_roundg k1
            case measure => have := HK1.out; omega
            case rel => exact ⟨(wrap64 (x5_1 + 1)), (by first | rfl | (simp; done) | (simp [*]; done)), H', ⟨by have := HK1.out; omega⟩, ⟨bx HB.out⟩⟩
          · replace c8 := Bool.eq_false_iff.mpr c8
            subst c8
            rw [if_neg Bool.false_ne_true] at H
            obtain rfl := Option.some.inj H
            try go_wp2
            replace HB := Aside0.mk (below_drew1 HB.out)
            have p101 := of_decide_eq_true c5b0
            have q101 := of_decide_eq_true c4b0
            obtain ⟨ad101, e101, hx101_0, hx101_1⟩ := at_T43 HR0.out x5_1 p101 q101
            have hw101_1 := hx101_1
            have hw101_0 := hx101_0
            cases e101
            replace hx101_0 := px HB.out hx101_0
            replace hx101_1 := px HB.out hx101_1
            replace p101 := eq_true p101
            replace q101 := eq_true q101
            have p102 := of_decide_eq_true c5b0
            have q102 := of_decide_eq_true c6b0
            obtain ⟨ad102, e102, hx102_0, hx102_1⟩ := at_T43 HR1.out x5_1 p102 q102
            have hw102_1 := hx102_1
            have hw102_0 := hx102_0
            cases e102
            replace hx102_0 := px HB.out hx102_0
            replace hx102_1 := px HB.out hx102_1
            replace p102 := eq_true p102
            replace q102 := eq_true q102
            refine start_ (n := 10) (S := fun w' => w'.cell? (ad101.add ((x5_1).toNat * 2)) = some (.string ((rd_T43 l0 x5_1).f0)) ∧ w'.cell? ⟨(ad101.add ((x5_1).toNat * 2)).block, (ad101.add ((x5_1).toNat * 2)).off + 1, none⟩ = some (.string ((rd_T43 l0 x5_1).f1)) ∧ w'.cell? (ad102.add ((x5_1).toNat * 2)) = some (.string ((rd_T43 l1 x5_1).f0)) ∧ w'.cell? ⟨(ad102.add ((x5_1).toNat * 2)).block, (ad102.add ((x5_1).toNat * 2)).off + 1, none⟩ = some (.string ((rd_T43 l1 x5_1).f1))) (ds := []) _ (by kernel_rfl) rfl rfl ⟨(px HB.out hw101_0), (px HB.out hw101_1), (px HB.out hw102_0), (px HB.out hw102_1)⟩ (fun hHeld => ?_); refine with_tabW laws_eqEntryS.tab6 laws_eqEntryS.bits6 (fun HT_ HW_ => ?_)
            generalize wr.drew = w11 at HB hx101_0 hx101_1 hx102_0 hx102_1 hHeld ⊢
            refine ord_ [.p 0 17, .p 1 18, .p 2 19, .p 4 21, .p 5 22, .p 6 23, .t 3 20, .t 7 24] ?_
            repeat (first | (refine pu_ (v := ?_) (a' := ?_) HT_ rfl rfl (by kernel_rfl) (fun _ _ _ h => h) (by rfl) ?_ ?_ ?_; rotate_left 2; (intro w'; go_simp; with_reducible rfl); (simp only [Act.put, List.setIfInBounds_toArray, List.set_cons_zero, List.set_cons_succ, i64_w, i32_w]; rfl)) | (refine ta_ (v := ?_) (a' := ?_) HT_ HW_ rfl rfl (by kernel_rfl) (fun _ _ _ h => h) (by rfl) hHeld ?_ ?_ ?_; rotate_left 2; (rintro w' ⟨s0, s1, s2, s3⟩; go_simp; with_reducible rfl); (simp only [Act.put, List.setIfInBounds_toArray, List.set_cons_zero, List.set_cons_succ, i64_w, i32_w]; rfl)))
            refine ord0 ?_
            refine on_ (i := 8) (N := some 25) HT_ rfl rfl (by kernel_rfl) (by decide) (fun K hK => ?_)
            refine goM gf55 #[.agg #[.string ((rd_T43 l0 x5_1).f0), .string ((rd_T43 l0 x5_1).f1)], .agg #[.string ((rd_T43 l1 x5_1).f0), .string ((rd_T43 l1 x5_1).f1)]] (by rfl) rfl rfl rfl ?_
            with_reducible refine (laws_eqEntry.calls ((rd_T43 l0 x5_1).f0) ((rd_T43 l0 x5_1).f1) ((rd_T43 l1 x5_1).f0) ((rd_T43 l1 x5_1).f1) false _ A7.out).mono ?_
            rintro e w12 ⟨rfl, hb⟩
            refine ⟨_, rfl, ?_⟩
            replace HB := kB HB hb
            (try clear hb)
            (try clear hb2)
            (try clear hk)
            (try clear hi)
            refine hK.out _ _ ⟨(px HB.out hw101_0), (px HB.out hw101_1), (px HB.out hw102_0), (px HB.out hw102_1)⟩ (fun hHeld => ?_)
            clear hK K
            refine norm_ (a' := ?_) ?_ ?_
            rotate_left
            · show Act.put _ (some 25) _ = _
              simp only [Act.put, List.setIfInBounds_toArray, List.set_cons_zero, List.set_cons_succ, i64_w, i32_w]
              rfl
            refine ord_ [.p 9 26] ?_
            repeat (refine pu_ (v := ?_) (a' := ?_) HT_ rfl rfl (by kernel_rfl) (fun _ _ _ h => h) (by rfl) ?_ ?_ ?_; rotate_left 2; (intro w'; go_simp; with_reducible rfl); (simp only [Act.put, List.setIfInBounds_toArray, List.set_cons_zero, List.set_cons_succ, i64_w, i32_w]; rfl))
            refine ord0 ?_
            refine done_ (done_of HT_.out (by kernel_rfl)) ?_
            try go_wp2
            go_ret
            exact ⟨by rfl, bx HB.out⟩
        · rw [if_neg c4] at H
          have c4b0 := decide_eq_false c4
          clear c4
          obtain rfl := Option.some.inj H
          go_wp2
          go_ret
          exact ⟨by rfl, bx HB.out⟩
  · rw [if_neg c3] at H
    have c3b0 : ((l0.length : Int) == (l1.length : Int)) = false := beq_eq_false_iff_ne.mpr c3
    have c3b1 : ((l0.length : Int) != (l1.length : Int)) = true := bne_iff_ne.mpr c3
    have c3b2 : (l0.length == l1.length) = false := by first | simpa using c3 | (simp at c3 ⊢; omega)
    obtain rfl := Option.some.inj H
    go_enter Tryd.func25, Tryd.ntmps25
    go_wp2
    go_ret
    exact ⟨by rfl, bx HB.out⟩
end Go.Proofs.YtabindnaedchgaaDoor.M
end

section
-- Printed for this claim by a program (mprint.py) that uses the kit's print; Lean checks it.
namespace Go.Proofs.YtabindnaedchgaaDoor.M
open Go.RowKit Go.Proofs.YtabindnaedchgaaDoorW.PrintWords Go.Proofs.YtabindnaedchgaaDoorW.PrintLast Go.Proofs.YtabindnaedchgaaDoorW.PrintMore Go.Proofs.YtabindnaedchgaaDoor.Sq
set_option synthInstance.maxHeartbeats 2000000
set_option synthInstance.maxSize 4096
attribute [local go_sem] max2_int min2_int max_two min_two max_three min_three max_four min_four   -- for this text's walks alone
set_option linter.unusedVariables false
set_option linter.unusedSimpArgs false
theorem gf24 : Go_ Tryd.prog 24 Tryd.f24 := ⟨Tryd.func24, by kernel_rfl, rfl⟩
def laws_eqStringS.l0 : Nat → List ByteArray → List ByteArray → Int → Option (Bool)
  | 0, _, _, _ => none
  | k + 1, x0, x1, x5 => if x5 < (x0.length : Int) then (if 0 ≤ x5 then (if x5 < (x1.length : Int) then (if (rdOf ByteArray.empty x0 x5).toList = (rdOf ByteArray.empty x1 x5).toList then (laws_eqStringS.l0 k x0 x1 (wrap64 (x5 + 1))) else (some false)) else (none)) else (none)) else (some true)
def laws_eqStringS.f (k : Nat) (l0 : List ByteArray) (l1 : List ByteArray) : Option (Bool) := if (l0.length : Int) = (l1.length : Int) then (laws_eqStringS.l0 k l0 l1 0) else (some false)
theorem laws_eqStringS.mono_l : ∀ k, (∀ y0 y1 y2, LeO (laws_eqStringS.l0 k y0 y1 y2) (laws_eqStringS.l0 (k + 1) y0 y1 y2))
  | 0 => fun _ _ _ r h => by simp [laws_eqStringS.l0] at h
  | k + 1 => by
    have ih0 := laws_eqStringS.mono_l k
    · intro y0 y1 y2
      unfold laws_eqStringS.l0
      have I0_ := fun x0_ x1_ x2_ => LeC.mk (ih0 x0_ x1_ x2_)
      exact LeC.out
theorem laws_eqStringS.mono : ∀ a0 a1 k, LeO (laws_eqStringS.f k a0 a1) (laws_eqStringS.f (k + 1) a0 a1) := by
  intro a0 a1 k
  have ih0 := laws_eqStringS.mono_l k
  unfold laws_eqStringS.f
  have I0_ := fun x0_ x1_ x2_ => LeC.mk (ih0 x0_ x1_ x2_)
  exact LeC.out
set_option maxHeartbeats 8000000 in
set_option maxRecDepth 100000 in
theorem laws_eqStringS.calls (k : Nat) (A0 : Option Addr) (c0 : Nat) (l0 : List ByteArray) (A1 : Option Addr) (c1 : Nat) (l1 : List ByteArray) (r : Bool) (w : World) (hr0 : Kd.C Kd.string w A0 l0.length l0) (hc0 : l0.length ≤ c0) (hr1 : Kd.C Kd.string w A1 l1.length l1) (hc1 : l1.length ≤ c1) (h : laws_eqStringS.f k l0 l1 = some r) :
    Calls Tryd.prog 24 #[.slice A0 l0.length c0, .slice A1 l1.length c1] w fun e w' => e = .returned (.bool r) ∧ Drawn0 w w' := by
  have HR0 := Aside0.mk hr0
  have HC0 := Aside0.mk hc0
  clear hr0 hc0
  have HR1 := Aside0.mk hr1
  have HC1 := Aside0.mk hc1
  clear hr1 hc1
  unfold laws_eqStringS.f at h
  have H := h
  clear h
  by_cases c3 : (l0.length : Int) = (l1.length : Int)
  · rw [if_pos c3] at H
    have c3b0 : ((l0.length : Int) == (l1.length : Int)) = true := beq_iff_eq.mpr c3
    have c3b1 : ((l0.length : Int) != (l1.length : Int)) = false := bne_eq_false_iff_eq.mpr c3
    have c3b2 : (l0.length == l1.length) = true := by first | simpa using c3 | (simp at c3 ⊢; omega)
    clear c3
    have H' := Aside0.mk H
    clear H
    go_enter Tryd.func24, Tryd.ntmps24
    go_wp2
    repeat (go_quiet (fail); try go_wp2)
    go_loopg [5] k (fun kq v5 w' => ∃ (x5_1 : Int), v5 = .int .i64 x5_1 ∧ Aside0 (laws_eqStringS.l0 kq l0 l1 x5_1 = some r) ∧ Aside0 (kq ≤ k) ∧ Drawn0 w w')
    case atStart => exact ⟨(0), (by first | rfl | (simp; done) | (simp [*]; done)), H', ⟨Nat.le_refl _⟩, by repeat (first | exact Drawn0.refl _ | apply Drawn0.step)⟩
    case round =>
      clear H'
      try clear c1
      try clear c2
      try clear p2
      try clear c3
      try clear c3b0
      try clear c3b1
      try clear c3b2
      obtain ⟨x5_1, rfl, HA, HK1, ⟨m1, rfl⟩⟩ := hrel
      cases gk with
      | zero => exact absurd HA.out (by simp [laws_eqStringS.l0])
      | succ k1 =>
        have H := HA.out
        clear HA
        simp only [laws_eqStringS.l0] at H
        by_cases c4 : x5_1 < (l0.length : Int)
        · rw [if_pos c4] at H
          have c4b0 := decide_eq_true c4
          clear c4
          have c5 := ite_y H
          replace H := ite_t H
          have c5b0 := decide_eq_true c5
          clear c5
          have c6 := ite_y H
          replace H := ite_t H
          have c6b0 := decide_eq_true c6
          clear c6
          by_cases c7 : (rdOf ByteArray.empty l0 x5_1).toList = (rdOf ByteArray.empty l1 x5_1).toList
          · rw [if_pos c7] at H
            have c7b0 : ((rdOf ByteArray.empty l0 x5_1).toList == (rdOf ByteArray.empty l1 x5_1).toList) = true := beq_iff_eq.mpr c7
            have c7b1 : ((rdOf ByteArray.empty l0 x5_1).toList != (rdOf ByteArray.empty l1 x5_1).toList) = false := bne_eq_false_iff_eq.mpr c7
            clear c7
            have H' := Aside0.mk H
            clear H
            have p101 := of_decide_eq_true c5b0
            have q101 := of_decide_eq_true c4b0
            obtain ⟨ad101, e101, hx101_0⟩ := Kd.at_string HR0.out x5_1 p101 q101
            cases e101
            replace p101 := eq_true p101
            replace q101 := eq_true q101
            have p102 := of_decide_eq_true c5b0
            have q102 := of_decide_eq_true c6b0
            obtain ⟨ad102, e102, hx102_0⟩ := Kd.at_string HR1.out x5_1 p102 q102
            cases e102
            replace p102 := eq_true p102
            replace q102 := eq_true q102
            go_wp2
            repeat (go_quiet (fail); try go_wp2)
            go_roundg k1
            case measure => have := HK1.out; omega
            case rel => exact ⟨(wrap64 (x5_1 + 1)), (by first | rfl | (simp; done) | (simp [*]; done)), H', ⟨by have := HK1.out; omega⟩, by repeat (first | exact Drawn0.refl _ | apply Drawn0.step)⟩
          · rw [if_neg c7] at H
            have c7b0 : ((rdOf ByteArray.empty l0 x5_1).toList == (rdOf ByteArray.empty l1 x5_1).toList) = false := beq_eq_false_iff_ne.mpr c7
            have c7b1 : ((rdOf ByteArray.empty l0 x5_1).toList != (rdOf ByteArray.empty l1 x5_1).toList) = true := bne_iff_ne.mpr c7
            obtain rfl := Option.some.inj H
            have p101 := of_decide_eq_true c5b0
            have q101 := of_decide_eq_true c4b0
            obtain ⟨ad101, e101, hx101_0⟩ := Kd.at_string HR0.out x5_1 p101 q101
            cases e101
            replace p101 := eq_true p101
            replace q101 := eq_true q101
            have p102 := of_decide_eq_true c5b0
            have q102 := of_decide_eq_true c6b0
            obtain ⟨ad102, e102, hx102_0⟩ := Kd.at_string HR1.out x5_1 p102 q102
            cases e102
            replace p102 := eq_true p102
            replace q102 := eq_true q102
            go_wp2
            repeat (go_quiet (fail); try go_wp2)
            go_ret
            exact ⟨by first | rfl | (simp; done) | (simp [*]; done), by repeat (first | exact Drawn0.refl _ | apply Drawn0.step)⟩
        · rw [if_neg c4] at H
          have c4b0 := decide_eq_false c4
          clear c4
          obtain rfl := Option.some.inj H
          go_wp2
          repeat (go_quiet (fail); try go_wp2)
          go_ret
          exact ⟨by first | rfl | (simp; done) | (simp [*]; done), by repeat (first | exact Drawn0.refl _ | apply Drawn0.step)⟩
  · rw [if_neg c3] at H
    have c3b0 : ((l0.length : Int) == (l1.length : Int)) = false := beq_eq_false_iff_ne.mpr c3
    have c3b1 : ((l0.length : Int) != (l1.length : Int)) = true := bne_iff_ne.mpr c3
    have c3b2 : (l0.length == l1.length) = false := by first | simpa using c3 | (simp at c3 ⊢; omega)
    obtain rfl := Option.some.inj H
    go_enter Tryd.func24, Tryd.ntmps24
    go_wp2
    repeat (go_quiet (fail); try go_wp2)
    go_ret
    exact ⟨by first | rfl | (simp; done) | (simp [*]; done), by repeat (first | exact Drawn0.refl _ | apply Drawn0.step)⟩
end Go.Proofs.YtabindnaedchgaaDoor.M
end

section
-- Printed for this claim by a program (mprint.py) that uses the kit's print; Lean checks it.
namespace Go.Proofs.YtabindnaedchgaaDoor.M
open Go.RowKit Go.Proofs.YtabindnaedchgaaDoorW.PrintWords Go.Proofs.YtabindnaedchgaaDoorW.PrintLast Go.Proofs.YtabindnaedchgaaDoorW.PrintMore Go.Proofs.YtabindnaedchgaaDoor.Sq
set_option synthInstance.maxHeartbeats 2000000
set_option synthInstance.maxSize 4096
attribute [local go_sem] max2_int min2_int max_two min_two max_three min_three max_four min_four   -- for this text's walks alone
set_option linter.unusedVariables false
set_option linter.unusedSimpArgs false
theorem gf7 : Go_ Tryd.prog 7 Tryd.f7 := ⟨Tryd.func7, by kernel_rfl, rfl⟩
def laws_eqDelta.f (k : Nat) (l0_0 : List ByteArray) (l0_1 : List (S43)) (a0_2 : Bool) (l0_3 : List (S46)) (l1_0 : List ByteArray) (l1_1 : List (S43)) (a1_2 : Bool) (l1_3 : List (S46)) : Option (Bool) := (laws_eqStringS.f k l0_0 l1_0).bind fun t103 => (if t103 = true then ((laws_eqEntryS.f k l0_1 l1_1).bind fun t104 => (if t104 = true then (if (a0_2 != a1_2) = true then (some false) else ((laws_eqAffixS.f k l0_3 l1_3).bind fun t105 => (if t105 = true then (some true) else (some false)))) else (some false))) else (some false))
theorem laws_eqDelta.mono : ∀ a0 a1 a2 a3 a4 a5 a6 a7 k, LeO (laws_eqDelta.f k a0 a1 a2 a3 a4 a5 a6 a7) (laws_eqDelta.f (k + 1) a0 a1 a2 a3 a4 a5 a6 a7) := by
  intro a0 a1 a2 a3 a4 a5 a6 a7 k
  unfold laws_eqDelta.f
  have I0_ := fun x0_ x1_ x2_ => LeC.mk (laws_eqAffixS.mono x0_ x1_ x2_)
  have I1_ := fun x0_ x1_ x2_ => LeC.mk (laws_eqEntryS.mono x0_ x1_ x2_)
  have I2_ := fun x0_ x1_ x2_ => LeC.mk (laws_eqStringS.mono x0_ x1_ x2_)
  exact LeC.out
set_option maxHeartbeats 8000000 in
set_option maxRecDepth 100000 in
theorem laws_eqDelta.calls (k : Nat) (A0_0 : Option Addr) (c0_0 : Nat) (l0_0 : List ByteArray) (A0_1 : Option Addr) (c0_1 : Nat) (l0_1 : List (S43)) (a0_2 : Bool) (A0_3 : Option Addr) (c0_3 : Nat) (l0_3 : List (S46)) (A1_0 : Option Addr) (c1_0 : Nat) (l1_0 : List ByteArray) (A1_1 : Option Addr) (c1_1 : Nat) (l1_1 : List (S43)) (a1_2 : Bool) (A1_3 : Option Addr) (c1_3 : Nat) (l1_3 : List (S46)) (r : Bool) (w : World) (hr0_0 : Kd.C Kd.string w A0_0 l0_0.length l0_0) (hc0_0 : l0_0.length ≤ c0_0) (hr0_1 : Kd.C k43 w A0_1 l0_1.length l0_1) (hc0_1 : l0_1.length ≤ c0_1) (hr0_3 : Kd.C k46 w A0_3 l0_3.length l0_3) (hc0_3 : l0_3.length ≤ c0_3) (hr1_0 : Kd.C Kd.string w A1_0 l1_0.length l1_0) (hc1_0 : l1_0.length ≤ c1_0) (hr1_1 : Kd.C k43 w A1_1 l1_1.length l1_1) (hc1_1 : l1_1.length ≤ c1_1) (hr1_3 : Kd.C k46 w A1_3 l1_3.length l1_3) (hc1_3 : l1_3.length ≤ c1_3) (h : laws_eqDelta.f k l0_0 l0_1 a0_2 l0_3 l1_0 l1_1 a1_2 l1_3 = some r) :
    Calls Tryd.prog 7 #[.agg #[.slice A0_0 l0_0.length c0_0, .slice A0_1 l0_1.length c0_1, .bool a0_2, .slice A0_3 l0_3.length c0_3], .agg #[.slice A1_0 l1_0.length c1_0, .slice A1_1 l1_1.length c1_1, .bool a1_2, .slice A1_3 l1_3.length c1_3]] w fun e w' => e = .returned (.bool r) ∧ Below w.heap.size w w' := by
  have hu26 := Tryd.underlying26
  have HR0_0 := Aside0.mk hr0_0
  have HC0_0 := Aside0.mk hc0_0
  clear hr0_0 hc0_0
  have HR0_1 := Aside0.mk hr0_1
  have HC0_1 := Aside0.mk hc0_1
  clear hr0_1 hc0_1
  have HR0_3 := Aside0.mk hr0_3
  have HC0_3 := Aside0.mk hc0_3
  clear hr0_3 hc0_3
  have HR1_0 := Aside0.mk hr1_0
  have HC1_0 := Aside0.mk hc1_0
  clear hr1_0 hc1_0
  have HR1_1 := Aside0.mk hr1_1
  have HC1_1 := Aside0.mk hc1_1
  clear hr1_1 hc1_1
  have HR1_3 := Aside0.mk hr1_3
  have HC1_3 := Aside0.mk hc1_3
  clear hr1_3 hc1_3
  have HB := Aside0.mk (Below.refl w.heap.size w)
  unfold laws_eqDelta.f at h
  have H := h
  clear h
  replace H := Option.bind_eq_some_iff.mp H
  obtain ⟨t103, A30, H⟩ := H
  have A3 := Aside0.mk A30
  clear A30
  by_cases c4 : t103 = true
  · subst c4
    rw [if_pos rfl] at H
    replace H := Option.bind_eq_some_iff.mp H
    obtain ⟨t104, A50, H⟩ := H
    have A5 := Aside0.mk A50
    clear A50
    by_cases c6 : t104 = true
    · subst c6
      rw [if_pos rfl] at H
      by_cases c7 : (a0_2 != a1_2) = true
      · rw [if_pos c7] at H
        have c7b0 : (a0_2 != a1_2) = true := c7
        (try (have c7b1 : decide (a0_2 = a1_2) = false := by simpa using c7))
        (try (have c7b2 : (a0_2 == a1_2) = false := by simpa using c7))
        (try (have c7b3 : ¬ (a0_2 = a1_2) := by simpa using c7))
        clear c7
        obtain rfl := Option.some.inj H
        go_enter Tryd.func7, Tryd.ntmps7
        go_wp2_with (first | ((with_reducible refine gate_dst (N := 2) rfl ?_); refine box_event rfl (N := 2) rfl (cs := #[.slice A0_0 l0_0.length c0_0, .slice A0_1 l0_1.length c0_1, .bool a0_2, .slice A0_3 l0_3.length c0_3]) (t := 26) (by go_simp <;> rfl) ?_; intro gb101 hg w8 hbox hb; have BK101 := Aside0.mk (hbox); have GW101 := Le_.mk (ge_of hg HB.out); have GE101 := Le_.mk (ge_of hg HB.out); replace HB := kB HB hb; clear hb hbox hg) | ((with_reducible refine gate_dst (N := 3) rfl ?_); refine box_event rfl (N := 3) rfl (cs := #[.slice A1_0 l1_0.length c1_0, .slice A1_1 l1_1.length c1_1, .bool a1_2, .slice A1_3 l1_3.length c1_3]) (t := 26) (by go_simp <;> rfl) ?_; intro gb102 hg w9 hbox hb; have BK102 := Aside0.mk (hbox); have GW102 := Le_.mk (ge_of hg HB.out); have GE102 := Le_.mk (ge_of hg HB.out); replace HB := kB HB hb; have NB101_102 := Ne_.mk ((by rw [hg]; exact Nat.ne_of_lt (blk_lt (gx (BK101.out))) : gb101 ≠ gb102)); have NB102_101 := Ne_.mk ((by rw [hg]; exact Nat.ne_of_gt (blk_lt (gx (BK101.out))) : gb102 ≠ gb101)); replace BK101 := kb BK101 hb; clear hb hbox hg; have hnb10 := NB101_102.out; have hnc10 := NB102_101.out; have hz11 := cells_4 BK101.out; have hz12 := cells_4 BK102.out) | ((with_reducible refine gate_callee (f := 24) rfl ?_); refine goL (some 9) rfl rfl gf24 #[.slice A0_0 l0_0.length c0_0, .slice A1_0 l1_0.length c1_0] rfl rfl ?_; (with_reducible refine (laws_eqStringS.calls k _ _ l0_0 _ _ l1_0 true _ (cx (Kd.C_below HR0_0.out HB.out)) HC0_0.out (cx (Kd.C_below HR1_0.out HB.out)) HC1_0.out A3.out).mono ?_); rintro e w' ⟨rfl, ⟨nd, rfl⟩⟩; refine ⟨_, rfl, ?_⟩) | ((with_reducible refine gate_callee (f := 25) rfl ?_); refine goL (some 15) rfl rfl gf25 #[.slice A0_1 l0_1.length c0_1, .slice A1_1 l1_1.length c1_1] rfl rfl ?_; (with_reducible refine (laws_eqEntryS.calls k _ _ l0_1 _ _ l1_1 true _ ?side1 ?side2 ?side3 ?side4 A5.out).mono ?_); (case side1 => repeat (first | exact (Kd.C_below HR0_1.out (bx HB.out)) | (with_reducible refine Kd.C_alloc ?_ _) | (with_reducible refine Kd.C_drewN ?_ _) | (with_reducible refine Kd.C_drew ?_))); (case side2 => exact HC0_1.out); (case side3 => repeat (first | exact (Kd.C_below HR1_1.out (bx HB.out)) | (with_reducible refine Kd.C_alloc ?_ _) | (with_reducible refine Kd.C_drewN ?_ _) | (with_reducible refine Kd.C_drew ?_))); (case side4 => exact HC1_1.out); rintro e w13 ⟨rfl, hb⟩; refine ⟨_, rfl, ?_⟩; replace BK101 := kb BK101 hb; replace BK102 := kb BK102 hb; replace HB := kB HB hb; (try clear hb); (try clear hb2); (try clear hk); (try clear hi); have hz14 := cells_4 BK101.out; have hz15 := cells_4 BK102.out))
        go_ret
        exact ⟨by rfl, bx HB.out⟩
      · rw [if_neg c7] at H
        have c7b0 : (a0_2 != a1_2) = false := by simpa using c7
        (try (have c7b1 : decide (a0_2 = a1_2) = true := by simpa using c7))
        (try (have c7b2 : (a0_2 == a1_2) = true := by simpa using c7))
        clear c7
        replace H := Option.bind_eq_some_iff.mp H
        obtain ⟨t105, A160, H⟩ := H
        have A16 := Aside0.mk A160
        clear A160
        by_cases c17 : t105 = true
        · subst c17
          rw [if_pos rfl] at H
          obtain rfl := Option.some.inj H
          go_enter Tryd.func7, Tryd.ntmps7
          go_wp2_with (first | ((with_reducible refine gate_dst (N := 2) rfl ?_); refine box_event rfl (N := 2) rfl (cs := #[.slice A0_0 l0_0.length c0_0, .slice A0_1 l0_1.length c0_1, .bool a0_2, .slice A0_3 l0_3.length c0_3]) (t := 26) (by go_simp <;> rfl) ?_; intro gb101 hg w18 hbox hb; have BK101 := Aside0.mk (hbox); have GW101 := Le_.mk (ge_of hg HB.out); have GE101 := Le_.mk (ge_of hg HB.out); replace HB := kB HB hb; clear hb hbox hg) | ((with_reducible refine gate_dst (N := 3) rfl ?_); refine box_event rfl (N := 3) rfl (cs := #[.slice A1_0 l1_0.length c1_0, .slice A1_1 l1_1.length c1_1, .bool a1_2, .slice A1_3 l1_3.length c1_3]) (t := 26) (by go_simp <;> rfl) ?_; intro gb102 hg w19 hbox hb; have BK102 := Aside0.mk (hbox); have GW102 := Le_.mk (ge_of hg HB.out); have GE102 := Le_.mk (ge_of hg HB.out); replace HB := kB HB hb; have NB101_102 := Ne_.mk ((by rw [hg]; exact Nat.ne_of_lt (blk_lt (gx (BK101.out))) : gb101 ≠ gb102)); have NB102_101 := Ne_.mk ((by rw [hg]; exact Nat.ne_of_gt (blk_lt (gx (BK101.out))) : gb102 ≠ gb101)); replace BK101 := kb BK101 hb; clear hb hbox hg; have hnb20 := NB101_102.out; have hnc20 := NB102_101.out; have hz21 := cells_4 BK101.out; have hz22 := cells_4 BK102.out) | ((with_reducible refine gate_callee (f := 24) rfl ?_); refine goL (some 9) rfl rfl gf24 #[.slice A0_0 l0_0.length c0_0, .slice A1_0 l1_0.length c1_0] rfl rfl ?_; (with_reducible refine (laws_eqStringS.calls k _ _ l0_0 _ _ l1_0 true _ (cx (Kd.C_below HR0_0.out HB.out)) HC0_0.out (cx (Kd.C_below HR1_0.out HB.out)) HC1_0.out A3.out).mono ?_); rintro e w' ⟨rfl, ⟨nd, rfl⟩⟩; refine ⟨_, rfl, ?_⟩) | ((with_reducible refine gate_callee (f := 25) rfl ?_); refine goL (some 15) rfl rfl gf25 #[.slice A0_1 l0_1.length c0_1, .slice A1_1 l1_1.length c1_1] rfl rfl ?_; (with_reducible refine (laws_eqEntryS.calls k _ _ l0_1 _ _ l1_1 true _ ?side1 ?side2 ?side3 ?side4 A5.out).mono ?_); (case side1 => repeat (first | exact (Kd.C_below HR0_1.out (bx HB.out)) | (with_reducible refine Kd.C_alloc ?_ _) | (with_reducible refine Kd.C_drewN ?_ _) | (with_reducible refine Kd.C_drew ?_))); (case side2 => exact HC0_1.out); (case side3 => repeat (first | exact (Kd.C_below HR1_1.out (bx HB.out)) | (with_reducible refine Kd.C_alloc ?_ _) | (with_reducible refine Kd.C_drewN ?_ _) | (with_reducible refine Kd.C_drew ?_))); (case side4 => exact HC1_1.out); rintro e w23 ⟨rfl, hb⟩; refine ⟨_, rfl, ?_⟩; replace BK101 := kb BK101 hb; replace BK102 := kb BK102 hb; replace HB := kB HB hb; (try clear hb); (try clear hb2); (try clear hk); (try clear hi); have hz24 := cells_4 BK101.out; have hz25 := cells_4 BK102.out) | ((with_reducible refine gate_callee (f := 26) rfl ?_); refine goL (some 26) rfl rfl gf26 #[.slice A0_3 l0_3.length c0_3, .slice A1_3 l1_3.length c1_3] rfl rfl ?_; (with_reducible refine (laws_eqAffixS.calls k _ _ l0_3 _ _ l1_3 true _ (cx (Kd.C_below HR0_3.out HB.out)) HC0_3.out (cx (Kd.C_below HR1_3.out HB.out)) HC1_3.out A16.out).mono ?_); rintro e w26 ⟨rfl, hb⟩; refine ⟨_, rfl, ?_⟩; replace BK101 := kb BK101 hb; replace BK102 := kb BK102 hb; replace HB := kB HB hb; (try clear hb); (try clear hb2); (try clear hk); (try clear hi)))
          go_ret
          exact ⟨by rfl, bx HB.out⟩
        · replace c17 := Bool.eq_false_iff.mpr c17
          subst c17
          rw [if_neg Bool.false_ne_true] at H
          obtain rfl := Option.some.inj H
          go_enter Tryd.func7, Tryd.ntmps7
          go_wp2_with (first | ((with_reducible refine gate_dst (N := 2) rfl ?_); refine box_event rfl (N := 2) rfl (cs := #[.slice A0_0 l0_0.length c0_0, .slice A0_1 l0_1.length c0_1, .bool a0_2, .slice A0_3 l0_3.length c0_3]) (t := 26) (by go_simp <;> rfl) ?_; intro gb101 hg w27 hbox hb; have BK101 := Aside0.mk (hbox); have GW101 := Le_.mk (ge_of hg HB.out); have GE101 := Le_.mk (ge_of hg HB.out); replace HB := kB HB hb; clear hb hbox hg) | ((with_reducible refine gate_dst (N := 3) rfl ?_); refine box_event rfl (N := 3) rfl (cs := #[.slice A1_0 l1_0.length c1_0, .slice A1_1 l1_1.length c1_1, .bool a1_2, .slice A1_3 l1_3.length c1_3]) (t := 26) (by go_simp <;> rfl) ?_; intro gb102 hg w28 hbox hb; have BK102 := Aside0.mk (hbox); have GW102 := Le_.mk (ge_of hg HB.out); have GE102 := Le_.mk (ge_of hg HB.out); replace HB := kB HB hb; have NB101_102 := Ne_.mk ((by rw [hg]; exact Nat.ne_of_lt (blk_lt (gx (BK101.out))) : gb101 ≠ gb102)); have NB102_101 := Ne_.mk ((by rw [hg]; exact Nat.ne_of_gt (blk_lt (gx (BK101.out))) : gb102 ≠ gb101)); replace BK101 := kb BK101 hb; clear hb hbox hg; have hnb29 := NB101_102.out; have hnc29 := NB102_101.out; have hz30 := cells_4 BK101.out; have hz31 := cells_4 BK102.out) | ((with_reducible refine gate_callee (f := 24) rfl ?_); refine goL (some 9) rfl rfl gf24 #[.slice A0_0 l0_0.length c0_0, .slice A1_0 l1_0.length c1_0] rfl rfl ?_; (with_reducible refine (laws_eqStringS.calls k _ _ l0_0 _ _ l1_0 true _ (cx (Kd.C_below HR0_0.out HB.out)) HC0_0.out (cx (Kd.C_below HR1_0.out HB.out)) HC1_0.out A3.out).mono ?_); rintro e w' ⟨rfl, ⟨nd, rfl⟩⟩; refine ⟨_, rfl, ?_⟩) | ((with_reducible refine gate_callee (f := 25) rfl ?_); refine goL (some 15) rfl rfl gf25 #[.slice A0_1 l0_1.length c0_1, .slice A1_1 l1_1.length c1_1] rfl rfl ?_; (with_reducible refine (laws_eqEntryS.calls k _ _ l0_1 _ _ l1_1 true _ ?side1 ?side2 ?side3 ?side4 A5.out).mono ?_); (case side1 => repeat (first | exact (Kd.C_below HR0_1.out (bx HB.out)) | (with_reducible refine Kd.C_alloc ?_ _) | (with_reducible refine Kd.C_drewN ?_ _) | (with_reducible refine Kd.C_drew ?_))); (case side2 => exact HC0_1.out); (case side3 => repeat (first | exact (Kd.C_below HR1_1.out (bx HB.out)) | (with_reducible refine Kd.C_alloc ?_ _) | (with_reducible refine Kd.C_drewN ?_ _) | (with_reducible refine Kd.C_drew ?_))); (case side4 => exact HC1_1.out); rintro e w32 ⟨rfl, hb⟩; refine ⟨_, rfl, ?_⟩; replace BK101 := kb BK101 hb; replace BK102 := kb BK102 hb; replace HB := kB HB hb; (try clear hb); (try clear hb2); (try clear hk); (try clear hi); have hz33 := cells_4 BK101.out; have hz34 := cells_4 BK102.out) | ((with_reducible refine gate_callee (f := 26) rfl ?_); refine goL (some 26) rfl rfl gf26 #[.slice A0_3 l0_3.length c0_3, .slice A1_3 l1_3.length c1_3] rfl rfl ?_; (with_reducible refine (laws_eqAffixS.calls k _ _ l0_3 _ _ l1_3 false _ (cx (Kd.C_below HR0_3.out HB.out)) HC0_3.out (cx (Kd.C_below HR1_3.out HB.out)) HC1_3.out A16.out).mono ?_); rintro e w35 ⟨rfl, hb⟩; refine ⟨_, rfl, ?_⟩; replace BK101 := kb BK101 hb; replace BK102 := kb BK102 hb; replace HB := kB HB hb; (try clear hb); (try clear hb2); (try clear hk); (try clear hi)))
          go_ret
          exact ⟨by rfl, bx HB.out⟩
    · replace c6 := Bool.eq_false_iff.mpr c6
      subst c6
      rw [if_neg Bool.false_ne_true] at H
      obtain rfl := Option.some.inj H
      go_enter Tryd.func7, Tryd.ntmps7
      go_wp2_with (first | ((with_reducible refine gate_dst (N := 2) rfl ?_); refine box_event rfl (N := 2) rfl (cs := #[.slice A0_0 l0_0.length c0_0, .slice A0_1 l0_1.length c0_1, .bool a0_2, .slice A0_3 l0_3.length c0_3]) (t := 26) (by go_simp <;> rfl) ?_; intro gb101 hg w36 hbox hb; have BK101 := Aside0.mk (hbox); have GW101 := Le_.mk (ge_of hg HB.out); have GE101 := Le_.mk (ge_of hg HB.out); replace HB := kB HB hb; clear hb hbox hg) | ((with_reducible refine gate_dst (N := 3) rfl ?_); refine box_event rfl (N := 3) rfl (cs := #[.slice A1_0 l1_0.length c1_0, .slice A1_1 l1_1.length c1_1, .bool a1_2, .slice A1_3 l1_3.length c1_3]) (t := 26) (by go_simp <;> rfl) ?_; intro gb102 hg w37 hbox hb; have BK102 := Aside0.mk (hbox); have GW102 := Le_.mk (ge_of hg HB.out); have GE102 := Le_.mk (ge_of hg HB.out); replace HB := kB HB hb; have NB101_102 := Ne_.mk ((by rw [hg]; exact Nat.ne_of_lt (blk_lt (gx (BK101.out))) : gb101 ≠ gb102)); have NB102_101 := Ne_.mk ((by rw [hg]; exact Nat.ne_of_gt (blk_lt (gx (BK101.out))) : gb102 ≠ gb101)); replace BK101 := kb BK101 hb; clear hb hbox hg; have hnb38 := NB101_102.out; have hnc38 := NB102_101.out; have hz39 := cells_4 BK101.out; have hz40 := cells_4 BK102.out) | ((with_reducible refine gate_callee (f := 24) rfl ?_); refine goL (some 9) rfl rfl gf24 #[.slice A0_0 l0_0.length c0_0, .slice A1_0 l1_0.length c1_0] rfl rfl ?_; (with_reducible refine (laws_eqStringS.calls k _ _ l0_0 _ _ l1_0 true _ (cx (Kd.C_below HR0_0.out HB.out)) HC0_0.out (cx (Kd.C_below HR1_0.out HB.out)) HC1_0.out A3.out).mono ?_); rintro e w' ⟨rfl, ⟨nd, rfl⟩⟩; refine ⟨_, rfl, ?_⟩) | ((with_reducible refine gate_callee (f := 25) rfl ?_); refine goL (some 15) rfl rfl gf25 #[.slice A0_1 l0_1.length c0_1, .slice A1_1 l1_1.length c1_1] rfl rfl ?_; (with_reducible refine (laws_eqEntryS.calls k _ _ l0_1 _ _ l1_1 false _ ?side1 ?side2 ?side3 ?side4 A5.out).mono ?_); (case side1 => repeat (first | exact (Kd.C_below HR0_1.out (bx HB.out)) | (with_reducible refine Kd.C_alloc ?_ _) | (with_reducible refine Kd.C_drewN ?_ _) | (with_reducible refine Kd.C_drew ?_))); (case side2 => exact HC0_1.out); (case side3 => repeat (first | exact (Kd.C_below HR1_1.out (bx HB.out)) | (with_reducible refine Kd.C_alloc ?_ _) | (with_reducible refine Kd.C_drewN ?_ _) | (with_reducible refine Kd.C_drew ?_))); (case side4 => exact HC1_1.out); rintro e w41 ⟨rfl, hb⟩; refine ⟨_, rfl, ?_⟩; replace BK101 := kb BK101 hb; replace BK102 := kb BK102 hb; replace HB := kB HB hb; (try clear hb); (try clear hb2); (try clear hk); (try clear hi)))
      go_ret
      exact ⟨by rfl, bx HB.out⟩
  · replace c4 := Bool.eq_false_iff.mpr c4
    subst c4
    rw [if_neg Bool.false_ne_true] at H
    obtain rfl := Option.some.inj H
    go_enter Tryd.func7, Tryd.ntmps7
    go_wp2_with (first | ((with_reducible refine gate_dst (N := 2) rfl ?_); refine box_event rfl (N := 2) rfl (cs := #[.slice A0_0 l0_0.length c0_0, .slice A0_1 l0_1.length c0_1, .bool a0_2, .slice A0_3 l0_3.length c0_3]) (t := 26) (by go_simp <;> rfl) ?_; intro gb101 hg w42 hbox hb; have BK101 := Aside0.mk (hbox); have GW101 := Le_.mk (ge_of hg HB.out); have GE101 := Le_.mk (ge_of hg HB.out); replace HB := kB HB hb; clear hb hbox hg) | ((with_reducible refine gate_dst (N := 3) rfl ?_); refine box_event rfl (N := 3) rfl (cs := #[.slice A1_0 l1_0.length c1_0, .slice A1_1 l1_1.length c1_1, .bool a1_2, .slice A1_3 l1_3.length c1_3]) (t := 26) (by go_simp <;> rfl) ?_; intro gb102 hg w43 hbox hb; have BK102 := Aside0.mk (hbox); have GW102 := Le_.mk (ge_of hg HB.out); have GE102 := Le_.mk (ge_of hg HB.out); replace HB := kB HB hb; have NB101_102 := Ne_.mk ((by rw [hg]; exact Nat.ne_of_lt (blk_lt (gx (BK101.out))) : gb101 ≠ gb102)); have NB102_101 := Ne_.mk ((by rw [hg]; exact Nat.ne_of_gt (blk_lt (gx (BK101.out))) : gb102 ≠ gb101)); replace BK101 := kb BK101 hb; clear hb hbox hg; have hnb44 := NB101_102.out; have hnc44 := NB102_101.out; have hz45 := cells_4 BK101.out; have hz46 := cells_4 BK102.out) | ((with_reducible refine gate_callee (f := 24) rfl ?_); refine goL (some 9) rfl rfl gf24 #[.slice A0_0 l0_0.length c0_0, .slice A1_0 l1_0.length c1_0] rfl rfl ?_; (with_reducible refine (laws_eqStringS.calls k _ _ l0_0 _ _ l1_0 false _ (cx (Kd.C_below HR0_0.out HB.out)) HC0_0.out (cx (Kd.C_below HR1_0.out HB.out)) HC1_0.out A3.out).mono ?_); rintro e w' ⟨rfl, ⟨nd, rfl⟩⟩; refine ⟨_, rfl, ?_⟩))
    go_ret
    exact ⟨by rfl, bx HB.out⟩
end Go.Proofs.YtabindnaedchgaaDoor.M
end

section
-- Printed for this claim by a program (mprint.py) that uses the kit's print; Lean checks it.
namespace Go.Proofs.YtabindnaedchgaaDoor.M
open Go.RowKit Go.Proofs.YtabindnaedchgaaDoorW.PrintWords Go.Proofs.YtabindnaedchgaaDoorW.PrintLast Go.Proofs.YtabindnaedchgaaDoorW.PrintMore Go.Proofs.YtabindnaedchgaaDoor.Sq
set_option synthInstance.maxHeartbeats 2000000
set_option synthInstance.maxSize 4096
attribute [local go_sem] max2_int min2_int max_two min_two max_three min_three max_four min_four   -- for this text's walks alone
set_option linter.unusedVariables false
set_option linter.unusedSimpArgs false
theorem gf57 : Go_ Tryd.prog 57 Tryd.f57 := ⟨Tryd.func57, by kernel_rfl, rfl⟩
def laws_markText.l0 : Nat → Int → ByteArray → Option (ByteArray)
  | 0, _, _ => none
  | k + 1, x0, x3 => if x0 > 0 then ((some (([(wrap64 (48 + (Int.tmod x0 10))) % 256] : List Int) : List Int)).bind fun y101 => (if (strOfNums y101).size + x3.size ≤ 9223372036854775807 then (laws_markText.l0 k (wrap64 (Int.tdiv x0 10)) ((strOfNums y101) ++ x3)) else (none))) else (if 1 + x3.size ≤ 9223372036854775807 then (some ((⟨#[109]⟩ : ByteArray) ++ x3)) else (none))
def laws_markText.f (k : Nat) (a0 : Int) : Option (ByteArray) := if a0 ≤ 0 then (some (⟨#[109, 48]⟩ : ByteArray)) else (laws_markText.l0 k a0 (⟨#[]⟩ : ByteArray))
theorem laws_markText.mono_l : ∀ k, (∀ y0 y1, LeO (laws_markText.l0 k y0 y1) (laws_markText.l0 (k + 1) y0 y1))
  | 0 => fun _ _ r h => by simp [laws_markText.l0] at h
  | k + 1 => by
    have ih0 := laws_markText.mono_l k
    · intro y0 y1
      unfold laws_markText.l0
      have I0_ := fun x0_ x1_ => LeC.mk (ih0 x0_ x1_)
      exact LeC.out
theorem laws_markText.mono : ∀ a0 k, LeO (laws_markText.f k a0) (laws_markText.f (k + 1) a0) := by
  intro a0 k
  have ih0 := laws_markText.mono_l k
  unfold laws_markText.f
  have I0_ := fun x0_ x1_ => LeC.mk (ih0 x0_ x1_)
  exact LeC.out
set_option maxHeartbeats 8000000 in
set_option maxRecDepth 100000 in
theorem laws_markText.calls (k : Nat) (a0 : Int) (r : ByteArray) (w : World) (h : laws_markText.f k a0 = some r) :
    Calls Tryd.prog 57 #[.int .i64 a0] w fun e w' => e = .returned (.string r) ∧ Below w.heap.size w w' := by
  have HB := Aside0.mk (Below.refl w.heap.size w)
  unfold laws_markText.f at h
  have H := h
  clear h
  by_cases c2 : a0 ≤ 0
  · rw [if_pos c2] at H
    have c2b0 := decide_eq_true c2
    clear c2
    obtain rfl := Option.some.inj H
    go_enter Tryd.func57, Tryd.ntmps57
    go_wp2
    go_ret
    exact ⟨by rfl, bx HB.out⟩
  · rw [if_neg c2] at H
    have c2b0 := decide_eq_false c2
    clear c2
    have H' := Aside0.mk H
    clear H
    go_enter Tryd.func57, Tryd.ntmps57
    go_wp2
    go_loopg [0, 3] k (fun kq v0 v3 w' => ∃ (x0_1 : Int) (x3_1 : ByteArray), v0 = .int .i64 x0_1 ∧ v3 = .string x3_1 ∧ Aside0 (laws_markText.l0 kq x0_1 x3_1 = some r) ∧ Aside0 (kq ≤ k) ∧ Aside0 (Below w.heap.size w w'))
    case atStart => exact ⟨(a0), ((⟨#[]⟩ : ByteArray)), (by first | rfl | (simp; done) | (simp [*]; done)), (by first | rfl | (simp; done) | (simp [*]; done)), H', ⟨Nat.le_refl _⟩, ⟨bx HB.out⟩⟩
    case round =>
      clear H'
      try clear c2
      try clear c2b0
      try clear p2
      obtain ⟨x0_1, x3_1, rfl, rfl, HA, HK1, HB⟩ := hrel
      cases gk with
      | zero => exact absurd HA.out (by simp [laws_markText.l0])
      | succ k1 =>
        have H := HA.out
        clear HA
        simp only [laws_markText.l0] at H
        by_cases c3 : x0_1 > 0
        · rw [if_pos c3] at H
          have c3b0 : decide (0 < x0_1) = true := decide_eq_true c3
          clear c3
          obtain ⟨y101, hy101⟩ : ∃ y_ : List Int, y_ = (([(wrap64 (48 + (Int.tmod x0_1 10))) % 256] : List Int)) := ⟨_, rfl⟩
          replace H : (if (strOfNums y101).size + x3_1.size ≤ 9223372036854775807 then (laws_markText.l0 k1 (wrap64 (Int.tdiv x0_1 10)) ((strOfNums y101) ++ x3_1)) else (none)) = some r := by first | (rw [hy101]; with_reducible exact H) | (have H2_ := (Option.bind_some _ _).symm.trans H; rw [hy101]; with_reducible exact H2_) | (have H2_ := (Option.bind_some _ _).symm.trans H; with_reducible exact H2_) | with_reducible exact H | (rw [hy101]; exact H) | exact H
          have Ny101 := Aside0.mk hy101
          clear hy101
          have c4 := ite_y H
          replace H := ite_t H
          have c4b0 := eq_true c4
          have c4b1 := decide_eq_true c4
          try have c4b2 : (9223372036854775807 < (strOfNums y101).size + x3_1.size) = False := eq_false (Nat.not_lt.2 c4)
          have H' := Aside0.mk H
          clear H
          go_wp2_with (first | ((with_reducible refine gate_dst (N := 12) rfl ?_); refine Kd.R_lit (Kd.int .u8) _ 5 ?hg (N := 12) ?hd (xs := ([(wrap64 (48 + (Int.tmod x0_1 10))) % 256] : List Int)) (inner := [.int .u8 ((wrap64 (48 + (Int.tmod x0_1 10))) % 256)]) (ok := fun _ => True) (okp := fun _ => True) ?hr ?hp (fun _ hk => hk) trivial (Below.refl _ _) (Nat.le_refl _) (by simp) ?_; (case hd => rfl); (case hg => rfl); (case hr => first | (go_simp; done) | (go_simp; rfl)); (case hp => exact (Reps.one (show Kd.M (Kd.int .u8) _ _ _ ((wrap64 (48 + (Int.tmod x0_1 10))) % 256) [.int .u8 ((wrap64 (48 + (Int.tmod x0_1 10))) % 256)] from rfl) (Reps.none _ _))); intro v102 w5 ho6 hb hg_ hnew_; clear hg_ hnew_; (first | rw [← Ny101.out] at ho6 | (simp only [Int.reduceToNat] at ho6; rw [← Ny101.out] at ho6)); have HO103 := Aside0.mk (Kd.R_lower ho6 (bz HB.out)); replace HB := kB HB hb; clear hb ho6; have hcv7 := own_string (P := Tryd.prog) Tryd.underlying32 Tryd.underlying5 Tryd.underlying9 (Kd.own_of_R HO103.out)))
          go_roundg k1
          case measure => have := HK1.out; omega
          case rel => exact ⟨(wrap64 (Int.tdiv x0_1 10)), ((strOfNums y101) ++ x3_1), (by first | rfl | (simp; done) | (simp [*]; done)), (by first | rfl | (simp; done) | (simp [*]; done)), H', ⟨by have := HK1.out; omega⟩, ⟨bx HB.out⟩⟩
        · rw [if_neg c3] at H
          have c3b0 : decide (0 < x0_1) = false := decide_eq_false c3
          clear c3
          have c8 := ite_y H
          replace H := ite_t H
          have c8b0 := eq_true c8
          have c8b1 := decide_eq_true c8
          try have c8b2 : (9223372036854775807 < 1 + x3_1.size) = False := eq_false (Nat.not_lt.2 c8)
          obtain rfl := Option.some.inj H
          go_wp2
          go_ret
          exact ⟨by rfl, bx HB.out⟩
end Go.Proofs.YtabindnaedchgaaDoor.M
end

section
-- Printed for this claim by a program (mprint.py) that uses the kit's print; Lean checks it.
namespace Go.Proofs.YtabindnaedchgaaDoor.M
open Go.RowKit Go.Proofs.YtabindnaedchgaaDoorW.PrintWords Go.Proofs.YtabindnaedchgaaDoorW.PrintLast Go.Proofs.YtabindnaedchgaaDoorW.PrintMore Go.Proofs.YtabindnaedchgaaDoor.Sq
set_option synthInstance.maxHeartbeats 2000000
set_option synthInstance.maxSize 4096
attribute [local go_sem] max2_int min2_int max_two min_two max_three min_three max_four min_four   -- for this text's walks alone
set_option linter.unusedVariables false
set_option linter.unusedSimpArgs false
theorem gf32 : Go_ Tryd.prog 32 Tryd.f32 := ⟨Tryd.func32, by kernel_rfl, rfl⟩
def laws_heldAffixS.l0 : Nat → List (S46) → Int → Int → Option (Int)
  | 0, _, _, _ => none
  | k + 1, x0, x1, x5 => if x5 < (x0.length : Int) then (if 0 ≤ x5 then ((laws_markText.f k x1).bind fun t102 => (if ((rd_T46 x0 x5).f0).toList = t102.toList then (if (((rd_T46 x0 x5).f1) != ((Int.tmod (wrap64 (x1 + 1)) 3) == 0)) = true then (some (-1)) else ((laws_markText.f k (wrap64 ((wrap64 (x1 + 1)) + 1))).bind fun t105 => (if ((rd_T46 x0 x5).f2).toList = t105.toList then ((laws_markText.f k (wrap64 ((wrap64 ((wrap64 (x1 + 1)) + 1)) + 1))).bind fun t107 => (if ((rd_T46 x0 x5).f3).toList = t107.toList then ((laws_markText.f k (wrap64 ((wrap64 ((wrap64 ((wrap64 (x1 + 1)) + 1)) + 1)) + 1))).bind fun t109 => (if ((rd_T46 x0 x5).f4).toList = t109.toList then (laws_heldAffixS.l0 k x0 (wrap64 ((wrap64 ((wrap64 ((wrap64 ((wrap64 (x1 + 1)) + 1)) + 1)) + 1)) + 1)) (wrap64 (x5 + 1))) else (some (-1)))) else (some (-1)))) else (some (-1))))) else (some (-1)))) else (none)) else (some x1)
def laws_heldAffixS.f (k : Nat) (l0 : List (S46)) (a1 : Int) : Option (Int) := laws_heldAffixS.l0 k l0 a1 0
theorem laws_heldAffixS.mono_l : ∀ k, (∀ y0 y1 y2, LeO (laws_heldAffixS.l0 k y0 y1 y2) (laws_heldAffixS.l0 (k + 1) y0 y1 y2))
  | 0 => fun _ _ _ r h => by simp [laws_heldAffixS.l0] at h
  | k + 1 => by
    have ih0 := laws_heldAffixS.mono_l k
    · intro y0 y1 y2
      unfold laws_heldAffixS.l0
      have I0_ := fun x0_ x1_ x2_ => LeC.mk (ih0 x0_ x1_ x2_)
      have I1_ := fun x0_ x1_ => LeC.mk (laws_markText.mono x0_ x1_)
      exact LeC.out
theorem laws_heldAffixS.mono : ∀ a0 a1 k, LeO (laws_heldAffixS.f k a0 a1) (laws_heldAffixS.f (k + 1) a0 a1) := by
  intro a0 a1 k
  have ih0 := laws_heldAffixS.mono_l k
  unfold laws_heldAffixS.f
  have I0_ := fun x0_ x1_ x2_ => LeC.mk (ih0 x0_ x1_ x2_)
  have I1_ := fun x0_ x1_ => LeC.mk (laws_markText.mono x0_ x1_)
  exact LeC.out
def laws_heldAffixS.T4 : Bool × List (List Nat × List Nat) := (true, [([], []), ([], []), ([0, 1], [0, 1]), ([2], [2]), ([3], [3]), ([], []), ([5], [5]), ([4, 6], [4, 6])])
def laws_heldAffixS.B4 : List Nat := [0, 0, 3, 7, 15, 0, 32, 127]
theorem laws_heldAffixS.tab4 : rtab .any (opsOf Tryd.f32 4) = laws_heldAffixS.T4 := by kernel_rfl
theorem laws_heldAffixS.bits4 : waitsOk laws_heldAffixS.T4.2 laws_heldAffixS.B4 = true := by kernel_rfl
def laws_heldAffixS.T10 : Bool × List (List Nat × List Nat) := (true, [([], []), ([], []), ([0, 1], [0, 1]), ([2], [2]), ([3], [3]), ([], []), ([5], [5]), ([4, 6], [4, 6])])
def laws_heldAffixS.B10 : List Nat := [0, 0, 3, 7, 15, 0, 32, 127]
theorem laws_heldAffixS.tab10 : rtab .any (opsOf Tryd.f32 10) = laws_heldAffixS.T10 := by kernel_rfl
theorem laws_heldAffixS.bits10 : waitsOk laws_heldAffixS.T10.2 laws_heldAffixS.B10 = true := by kernel_rfl
def laws_heldAffixS.T13 : Bool × List (List Nat × List Nat) := (true, [([], []), ([], []), ([0, 1], [0, 1]), ([2], [2]), ([3], [3]), ([], []), ([5], [5]), ([4, 6], [4, 6])])
def laws_heldAffixS.B13 : List Nat := [0, 0, 3, 7, 15, 0, 32, 127]
theorem laws_heldAffixS.tab13 : rtab .any (opsOf Tryd.f32 13) = laws_heldAffixS.T13 := by kernel_rfl
theorem laws_heldAffixS.bits13 : waitsOk laws_heldAffixS.T13.2 laws_heldAffixS.B13 = true := by kernel_rfl
def laws_heldAffixS.T16 : Bool × List (List Nat × List Nat) := (true, [([], []), ([], []), ([0, 1], [0, 1]), ([2], [2]), ([3], [3]), ([], []), ([5], [5]), ([4, 6], [4, 6])])
def laws_heldAffixS.B16 : List Nat := [0, 0, 3, 7, 15, 0, 32, 127]
theorem laws_heldAffixS.tab16 : rtab .any (opsOf Tryd.f32 16) = laws_heldAffixS.T16 := by kernel_rfl
theorem laws_heldAffixS.bits16 : waitsOk laws_heldAffixS.T16.2 laws_heldAffixS.B16 = true := by kernel_rfl
set_option maxHeartbeats 8000000 in
set_option maxRecDepth 100000 in
theorem laws_heldAffixS.calls (k : Nat) (A0 : Option Addr) (c0 : Nat) (l0 : List (S46)) (a1 : Int) (r : Int) (w : World) (hr0 : Kd.C k46 w A0 l0.length l0) (hc0 : l0.length ≤ c0) (h : laws_heldAffixS.f k l0 a1 = some r) :
    Calls Tryd.prog 32 #[.slice A0 l0.length c0, .int .i64 a1] w fun e w' => e = .returned (.int .i64 r) ∧ Below w.heap.size w w' := by
  have HR0 := Aside0.mk hr0
  have HC0 := Aside0.mk hc0
  clear hr0 hc0
  have HB := Aside0.mk (Below.refl w.heap.size w)
  unfold laws_heldAffixS.f at h
  have H := h
  clear h
  have H' := Aside0.mk H
  clear H
  go_enter Tryd.func32, Tryd.ntmps32
  go_wp2
  go_loopg [1, 5] k (fun kq v1 v5 w' => ∃ (x1_1 : Int) (x5_1 : Int), v1 = .int .i64 x1_1 ∧ v5 = .int .i64 x5_1 ∧ Aside0 (laws_heldAffixS.l0 kq l0 x1_1 x5_1 = some r) ∧ Aside0 (kq ≤ k) ∧ Aside0 (Below w.heap.size w w'))
  case atStart => exact ⟨(a1), (0), (by first | rfl | (simp; done) | (simp [*]; done)), (by first | rfl | (simp; done) | (simp [*]; done)), H', ⟨Nat.le_refl _⟩, ⟨bx HB.out⟩⟩
  case round =>
    clear H'
    try clear p2
    obtain ⟨x1_1, x5_1, rfl, rfl, HA, HK1, HB⟩ := hrel
    cases gk with
    | zero => exact absurd HA.out (by simp [laws_heldAffixS.l0])
    | succ k1 =>
      have H := HA.out
      clear HA
      simp only [laws_heldAffixS.l0] at H
      by_cases c3 : x5_1 < (l0.length : Int)
      · rw [if_pos c3] at H
        have c3b0 := decide_eq_true c3
        clear c3
        have c4 := ite_y H
        replace H := ite_t H
        have c4b0 := decide_eq_true c4
        clear c4
        replace H := Option.bind_eq_some_iff.mp H
        obtain ⟨t102, A50, H⟩ := H
        have A5 := Aside0.mk A50
        clear A50
        by_cases c6 : ((rd_T46 l0 x5_1).f0).toList = t102.toList
        · rw [if_pos c6] at H
          have c6b0 : (((rd_T46 l0 x5_1).f0).toList == t102.toList) = true := beq_iff_eq.mpr c6
          have c6b1 : (((rd_T46 l0 x5_1).f0).toList != t102.toList) = false := bne_eq_false_iff_eq.mpr c6
          clear c6
          by_cases c7 : (((rd_T46 l0 x5_1).f1) != ((Int.tmod (wrap64 (x1_1 + 1)) 3) == 0)) = true
          · rw [if_pos c7] at H
            have c7b0 : (((rd_T46 l0 x5_1).f1) != ((Int.tmod (wrap64 (x1_1 + 1)) 3) == 0)) = true := c7
            (try (have c7b1 : decide (((rd_T46 l0 x5_1).f1) = ((Int.tmod (wrap64 (x1_1 + 1)) 3) == 0)) = false := by simpa using c7))
            (try (have c7b2 : (((rd_T46 l0 x5_1).f1) == ((Int.tmod (wrap64 (x1_1 + 1)) 3) == 0)) = false := by simpa using c7))
            (try (have c7b3 : ¬ (((rd_T46 l0 x5_1).f1) = ((Int.tmod (wrap64 (x1_1 + 1)) 3) == 0)) := by simpa using c7))
            clear c7
            obtain rfl := Option.some.inj H
            try go_wp2
            replace HB := Aside0.mk (below_drew1 HB.out)
            have p101 := of_decide_eq_true c4b0
            have q101 := of_decide_eq_true c3b0
            obtain ⟨ad101, e101, hx101_0, hx101_1, hx101_2, hx101_3, hx101_4⟩ := at_T46 HR0.out x5_1 p101 q101
            have hw101_4 := hx101_4
            have hw101_3 := hx101_3
            have hw101_2 := hx101_2
            have hw101_1 := hx101_1
            have hw101_0 := hx101_0
            cases e101
            replace hx101_0 := px HB.out hx101_0
            replace hx101_1 := px HB.out hx101_1
            replace hx101_2 := px HB.out hx101_2
            replace hx101_3 := px HB.out hx101_3
            replace hx101_4 := px HB.out hx101_4
            replace p101 := eq_true p101
            replace q101 := eq_true q101
            refine start_ (n := 8) (S := fun w' => w'.cell? (ad101.add ((x5_1).toNat * 5)) = some (.string ((rd_T46 l0 x5_1).f0)) ∧ w'.cell? ⟨(ad101.add ((x5_1).toNat * 5)).block, (ad101.add ((x5_1).toNat * 5)).off + 1, none⟩ = some (.bool ((rd_T46 l0 x5_1).f1)) ∧ w'.cell? ⟨(ad101.add ((x5_1).toNat * 5)).block, (ad101.add ((x5_1).toNat * 5)).off + 2, none⟩ = some (.string ((rd_T46 l0 x5_1).f2)) ∧ w'.cell? ⟨(ad101.add ((x5_1).toNat * 5)).block, (ad101.add ((x5_1).toNat * 5)).off + 3, none⟩ = some (.string ((rd_T46 l0 x5_1).f3)) ∧ w'.cell? ⟨(ad101.add ((x5_1).toNat * 5)).block, (ad101.add ((x5_1).toNat * 5)).off + 4, none⟩ = some (.string ((rd_T46 l0 x5_1).f4))) (ds := []) _ (by kernel_rfl) rfl rfl ⟨(px HB.out hw101_0), (px HB.out hw101_1), (px HB.out hw101_2), (px HB.out hw101_3), (px HB.out hw101_4)⟩ (fun hHeld => ?_); refine with_tabW laws_heldAffixS.tab4 laws_heldAffixS.bits4 (fun HT_ HW_ => ?_)
            generalize wr.drew = w8 at HB hx101_0 hx101_1 hx101_2 hx101_3 hx101_4 hHeld ⊢
            refine ord_ [.p 0 12, .p 1 13, .p 2 14, .p 3 15, .p 5 17, .t 4 16] ?_
            repeat (first | (refine pu_ (v := ?_) (a' := ?_) HT_ rfl rfl (by kernel_rfl) (fun _ _ _ h => h) (by rfl) ?_ ?_ ?_; rotate_left 2; (intro w'; go_simp; with_reducible rfl); (simp only [Act.put, List.setIfInBounds_toArray, List.set_cons_zero, List.set_cons_succ, i64_w, i32_w]; rfl)) | (refine ta_ (v := ?_) (a' := ?_) HT_ HW_ rfl rfl (by kernel_rfl) (fun _ _ _ h => h) (by rfl) hHeld ?_ ?_ ?_; rotate_left 2; (rintro w' ⟨s0, s1, s2, s3, s4⟩; go_simp; with_reducible rfl); (simp only [Act.put, List.setIfInBounds_toArray, List.set_cons_zero, List.set_cons_succ, i64_w, i32_w]; rfl)))
            refine ord0 ?_
            refine on_ (i := 6) (N := some 18) HT_ rfl rfl (by kernel_rfl) (by decide) (fun K hK => ?_)
            refine goM gf57 #[.int .i64 x1_1] (by rfl) rfl rfl rfl ?_
            with_reducible refine (laws_markText.calls k1 x1_1 t102 _ A5.out).mono ?_
            rintro e w9 ⟨rfl, hb⟩
            refine ⟨_, rfl, ?_⟩
            replace HB := kB HB hb
            (try clear hb)
            (try clear hb2)
            (try clear hk)
            (try clear hi)
            refine hK.out _ _ ⟨(px HB.out hw101_0), (px HB.out hw101_1), (px HB.out hw101_2), (px HB.out hw101_3), (px HB.out hw101_4)⟩ (fun hHeld => ?_)
            clear hK K
            refine norm_ (a' := ?_) ?_ ?_
            rotate_left
            · show Act.put _ (some 18) _ = _
              simp only [Act.put, List.setIfInBounds_toArray, List.set_cons_zero, List.set_cons_succ, i64_w, i32_w]
              rfl
            refine ord_ [.p 7 19] ?_
            repeat (refine pu_ (v := ?_) (a' := ?_) HT_ rfl rfl (by kernel_rfl) (fun _ _ _ h => h) (by rfl) ?_ ?_ ?_; rotate_left 2; (intro w'; go_simp; with_reducible rfl); (simp only [Act.put, List.setIfInBounds_toArray, List.set_cons_zero, List.set_cons_succ, i64_w, i32_w]; rfl))
            refine ord0 ?_
            refine done_ (done_of HT_.out (by kernel_rfl)) ?_
            have p103 := of_decide_eq_true c4b0
            have q103 := of_decide_eq_true c3b0
            obtain ⟨ad103, e103, hx103_0, hx103_1, hx103_2, hx103_3, hx103_4⟩ := at_T46 HR0.out x5_1 p103 q103
            obtain rfl : ad101 = ad103 := (by injection e103)
            replace hx103_0 := px HB.out hx103_0
            replace hx103_1 := px HB.out hx103_1
            replace hx103_2 := px HB.out hx103_2
            replace hx103_3 := px HB.out hx103_3
            replace hx103_4 := px HB.out hx103_4
            replace p103 := eq_true p103
            replace q103 := eq_true q103
            try go_wp2
            go_ret
            exact ⟨by rfl, bx HB.out⟩
          · rw [if_neg c7] at H
            have c7b0 : (((rd_T46 l0 x5_1).f1) != ((Int.tmod (wrap64 (x1_1 + 1)) 3) == 0)) = false := by simpa using c7
            (try (have c7b1 : decide (((rd_T46 l0 x5_1).f1) = ((Int.tmod (wrap64 (x1_1 + 1)) 3) == 0)) = true := by simpa using c7))
            (try (have c7b2 : (((rd_T46 l0 x5_1).f1) == ((Int.tmod (wrap64 (x1_1 + 1)) 3) == 0)) = true := by simpa using c7))
            clear c7
            replace H := Option.bind_eq_some_iff.mp H
            obtain ⟨t105, A100, H⟩ := H
            have A10 := Aside0.mk A100
            clear A100
            by_cases c11 : ((rd_T46 l0 x5_1).f2).toList = t105.toList
            · rw [if_pos c11] at H
              have c11b0 : (((rd_T46 l0 x5_1).f2).toList == t105.toList) = true := beq_iff_eq.mpr c11
              have c11b1 : (((rd_T46 l0 x5_1).f2).toList != t105.toList) = false := bne_eq_false_iff_eq.mpr c11
              clear c11
              replace H := Option.bind_eq_some_iff.mp H
              obtain ⟨t107, A120, H⟩ := H
              have A12 := Aside0.mk A120
              clear A120
              by_cases c13 : ((rd_T46 l0 x5_1).f3).toList = t107.toList
              · rw [if_pos c13] at H
                have c13b0 : (((rd_T46 l0 x5_1).f3).toList == t107.toList) = true := beq_iff_eq.mpr c13
                have c13b1 : (((rd_T46 l0 x5_1).f3).toList != t107.toList) = false := bne_eq_false_iff_eq.mpr c13
                clear c13
                replace H := Option.bind_eq_some_iff.mp H
                obtain ⟨t109, A140, H⟩ := H
                have A14 := Aside0.mk A140
                clear A140
                by_cases c15 : ((rd_T46 l0 x5_1).f4).toList = t109.toList
                · rw [if_pos c15] at H
                  have c15b0 : (((rd_T46 l0 x5_1).f4).toList == t109.toList) = true := beq_iff_eq.mpr c15
                  have c15b1 : (((rd_T46 l0 x5_1).f4).toList != t109.toList) = false := bne_eq_false_iff_eq.mpr c15
                  clear c15
                  have H' := Aside0.mk H
                  clear H
                  try go_wp2
                  replace HB := Aside0.mk (below_drew1 HB.out)
                  have p101 := of_decide_eq_true c4b0
                  have q101 := of_decide_eq_true c3b0
                  obtain ⟨ad101, e101, hx101_0, hx101_1, hx101_2, hx101_3, hx101_4⟩ := at_T46 HR0.out x5_1 p101 q101
                  have hw101_4 := hx101_4
                  have hw101_3 := hx101_3
                  have hw101_2 := hx101_2
                  have hw101_1 := hx101_1
                  have hw101_0 := hx101_0
                  cases e101
                  replace hx101_0 := px HB.out hx101_0
                  replace hx101_1 := px HB.out hx101_1
                  replace hx101_2 := px HB.out hx101_2
                  replace hx101_3 := px HB.out hx101_3
                  replace hx101_4 := px HB.out hx101_4
                  replace p101 := eq_true p101
                  replace q101 := eq_true q101
                  refine start_ (n := 8) (S := fun w' => w'.cell? (ad101.add ((x5_1).toNat * 5)) = some (.string ((rd_T46 l0 x5_1).f0)) ∧ w'.cell? ⟨(ad101.add ((x5_1).toNat * 5)).block, (ad101.add ((x5_1).toNat * 5)).off + 1, none⟩ = some (.bool ((rd_T46 l0 x5_1).f1)) ∧ w'.cell? ⟨(ad101.add ((x5_1).toNat * 5)).block, (ad101.add ((x5_1).toNat * 5)).off + 2, none⟩ = some (.string ((rd_T46 l0 x5_1).f2)) ∧ w'.cell? ⟨(ad101.add ((x5_1).toNat * 5)).block, (ad101.add ((x5_1).toNat * 5)).off + 3, none⟩ = some (.string ((rd_T46 l0 x5_1).f3)) ∧ w'.cell? ⟨(ad101.add ((x5_1).toNat * 5)).block, (ad101.add ((x5_1).toNat * 5)).off + 4, none⟩ = some (.string ((rd_T46 l0 x5_1).f4))) (ds := []) _ (by kernel_rfl) rfl rfl ⟨(px HB.out hw101_0), (px HB.out hw101_1), (px HB.out hw101_2), (px HB.out hw101_3), (px HB.out hw101_4)⟩ (fun hHeld => ?_); refine with_tabW laws_heldAffixS.tab4 laws_heldAffixS.bits4 (fun HT_ HW_ => ?_)
                  generalize wr.drew = w16 at HB hx101_0 hx101_1 hx101_2 hx101_3 hx101_4 hHeld ⊢
                  refine ord_ [.p 0 12, .p 1 13, .p 2 14, .p 3 15, .p 5 17, .t 4 16] ?_
                  repeat (first | (refine pu_ (v := ?_) (a' := ?_) HT_ rfl rfl (by kernel_rfl) (fun _ _ _ h => h) (by rfl) ?_ ?_ ?_; rotate_left 2; (intro w'; go_simp; with_reducible rfl); (simp only [Act.put, List.setIfInBounds_toArray, List.set_cons_zero, List.set_cons_succ, i64_w, i32_w]; rfl)) | (refine ta_ (v := ?_) (a' := ?_) HT_ HW_ rfl rfl (by kernel_rfl) (fun _ _ _ h => h) (by rfl) hHeld ?_ ?_ ?_; rotate_left 2; (rintro w' ⟨s0, s1, s2, s3, s4⟩; go_simp; with_reducible rfl); (simp only [Act.put, List.setIfInBounds_toArray, List.set_cons_zero, List.set_cons_succ, i64_w, i32_w]; rfl)))
                  refine ord0 ?_
                  refine on_ (i := 6) (N := some 18) HT_ rfl rfl (by kernel_rfl) (by decide) (fun K hK => ?_)
                  refine goM gf57 #[.int .i64 x1_1] (by rfl) rfl rfl rfl ?_
                  with_reducible refine (laws_markText.calls k1 x1_1 t102 _ A5.out).mono ?_
                  rintro e w17 ⟨rfl, hb⟩
                  refine ⟨_, rfl, ?_⟩
                  replace HB := kB HB hb
                  (try clear hb)
                  (try clear hb2)
                  (try clear hk)
                  (try clear hi)
                  refine hK.out _ _ ⟨(px HB.out hw101_0), (px HB.out hw101_1), (px HB.out hw101_2), (px HB.out hw101_3), (px HB.out hw101_4)⟩ (fun hHeld => ?_)
                  clear hK K
                  refine norm_ (a' := ?_) ?_ ?_
                  rotate_left
                  · show Act.put _ (some 18) _ = _
                    simp only [Act.put, List.setIfInBounds_toArray, List.set_cons_zero, List.set_cons_succ, i64_w, i32_w]
                    rfl
                  refine ord_ [.p 7 19] ?_
                  repeat (refine pu_ (v := ?_) (a' := ?_) HT_ rfl rfl (by kernel_rfl) (fun _ _ _ h => h) (by rfl) ?_ ?_ ?_; rotate_left 2; (intro w'; go_simp; with_reducible rfl); (simp only [Act.put, List.setIfInBounds_toArray, List.set_cons_zero, List.set_cons_succ, i64_w, i32_w]; rfl))
                  refine ord0 ?_
                  refine done_ (done_of HT_.out (by kernel_rfl)) ?_
                  have p103 := of_decide_eq_true c4b0
                  have q103 := of_decide_eq_true c3b0
                  obtain ⟨ad103, e103, hx103_0, hx103_1, hx103_2, hx103_3, hx103_4⟩ := at_T46 HR0.out x5_1 p103 q103
                  obtain rfl : ad101 = ad103 := (by injection e103)
                  replace hx103_0 := px HB.out hx103_0
                  replace hx103_1 := px HB.out hx103_1
                  replace hx103_2 := px HB.out hx103_2
                  replace hx103_3 := px HB.out hx103_3
                  replace hx103_4 := px HB.out hx103_4
                  replace p103 := eq_true p103
                  replace q103 := eq_true q103
                  try go_wp2
                  replace HB := Aside0.mk (below_drew1 HB.out)
                  have p104 := of_decide_eq_true c4b0
                  have q104 := of_decide_eq_true c3b0
                  obtain ⟨ad104, e104, hx104_0, hx104_1, hx104_2, hx104_3, hx104_4⟩ := at_T46 HR0.out x5_1 p104 q104
                  have hw104_4 := hx104_4
                  have hw104_3 := hx104_3
                  have hw104_2 := hx104_2
                  have hw104_1 := hx104_1
                  have hw104_0 := hx104_0
                  obtain rfl : ad101 = ad104 := (by injection e104)
                  replace hx104_0 := px HB.out hx104_0
                  replace hx104_1 := px HB.out hx104_1
                  replace hx104_2 := px HB.out hx104_2
                  replace hx104_3 := px HB.out hx104_3
                  replace hx104_4 := px HB.out hx104_4
                  replace p104 := eq_true p104
                  replace q104 := eq_true q104
                  refine start_ (n := 8) (S := fun w' => w'.cell? (ad101.add ((x5_1).toNat * 5)) = some (.string ((rd_T46 l0 x5_1).f0)) ∧ w'.cell? ⟨(ad101.add ((x5_1).toNat * 5)).block, (ad101.add ((x5_1).toNat * 5)).off + 1, none⟩ = some (.bool ((rd_T46 l0 x5_1).f1)) ∧ w'.cell? ⟨(ad101.add ((x5_1).toNat * 5)).block, (ad101.add ((x5_1).toNat * 5)).off + 2, none⟩ = some (.string ((rd_T46 l0 x5_1).f2)) ∧ w'.cell? ⟨(ad101.add ((x5_1).toNat * 5)).block, (ad101.add ((x5_1).toNat * 5)).off + 3, none⟩ = some (.string ((rd_T46 l0 x5_1).f3)) ∧ w'.cell? ⟨(ad101.add ((x5_1).toNat * 5)).block, (ad101.add ((x5_1).toNat * 5)).off + 4, none⟩ = some (.string ((rd_T46 l0 x5_1).f4))) (ds := []) _ (by kernel_rfl) rfl rfl ⟨(px HB.out hw104_0), (px HB.out hw104_1), (px HB.out hw104_2), (px HB.out hw104_3), (px HB.out hw104_4)⟩ (fun hHeld => ?_); refine with_tabW laws_heldAffixS.tab10 laws_heldAffixS.bits10 (fun HT_ HW_ => ?_)
                  generalize w17.drew = w18 at HB hx104_0 hx104_1 hx104_2 hx104_3 hx104_4 hHeld ⊢
                  refine ord_ [.p 0 33, .p 1 34, .p 2 35, .p 3 36, .p 5 38, .t 4 37] ?_
                  repeat (first | (refine pu_ (v := ?_) (a' := ?_) HT_ rfl rfl (by kernel_rfl) (fun _ _ _ h => h) (by rfl) ?_ ?_ ?_; rotate_left 2; (intro w'; go_simp; with_reducible rfl); (simp only [Act.put, List.setIfInBounds_toArray, List.set_cons_zero, List.set_cons_succ, i64_w, i32_w]; rfl)) | (refine ta_ (v := ?_) (a' := ?_) HT_ HW_ rfl rfl (by kernel_rfl) (fun _ _ _ h => h) (by rfl) hHeld ?_ ?_ ?_; rotate_left 2; (rintro w' ⟨s0, s1, s2, s3, s4⟩; go_simp; with_reducible rfl); (simp only [Act.put, List.setIfInBounds_toArray, List.set_cons_zero, List.set_cons_succ, i64_w, i32_w]; rfl)))
                  refine ord0 ?_
                  refine on_ (i := 6) (N := some 39) HT_ rfl rfl (by kernel_rfl) (by decide) (fun K hK => ?_)
                  refine goM gf57 #[.int .i64 (wrap64 ((wrap64 (x1_1 + 1)) + 1))] (by rfl) rfl rfl rfl ?_
                  with_reducible refine (laws_markText.calls k1 (wrap64 ((wrap64 (x1_1 + 1)) + 1)) t105 _ A10.out).mono ?_
                  rintro e w19 ⟨rfl, hb⟩
                  refine ⟨_, rfl, ?_⟩
                  replace HB := kB HB hb
                  (try clear hb)
                  (try clear hb2)
                  (try clear hk)
                  (try clear hi)
                  refine hK.out _ _ ⟨(px HB.out hw104_0), (px HB.out hw104_1), (px HB.out hw104_2), (px HB.out hw104_3), (px HB.out hw104_4)⟩ (fun hHeld => ?_)
                  clear hK K
                  refine norm_ (a' := ?_) ?_ ?_
                  rotate_left
                  · show Act.put _ (some 39) _ = _
                    simp only [Act.put, List.setIfInBounds_toArray, List.set_cons_zero, List.set_cons_succ, i64_w, i32_w]
                    rfl
                  refine ord_ [.p 7 40] ?_
                  repeat (refine pu_ (v := ?_) (a' := ?_) HT_ rfl rfl (by kernel_rfl) (fun _ _ _ h => h) (by rfl) ?_ ?_ ?_; rotate_left 2; (intro w'; go_simp; with_reducible rfl); (simp only [Act.put, List.setIfInBounds_toArray, List.set_cons_zero, List.set_cons_succ, i64_w, i32_w]; rfl))
                  refine ord0 ?_
                  refine done_ (done_of HT_.out (by kernel_rfl)) ?_
                  try go_wp2
                  replace HB := Aside0.mk (below_drew1 HB.out)
                  have p106 := of_decide_eq_true c4b0
                  have q106 := of_decide_eq_true c3b0
                  obtain ⟨ad106, e106, hx106_0, hx106_1, hx106_2, hx106_3, hx106_4⟩ := at_T46 HR0.out x5_1 p106 q106
                  have hw106_4 := hx106_4
                  have hw106_3 := hx106_3
                  have hw106_2 := hx106_2
                  have hw106_1 := hx106_1
                  have hw106_0 := hx106_0
                  obtain rfl : ad101 = ad106 := (by injection e106)
                  replace hx106_0 := px HB.out hx106_0
                  replace hx106_1 := px HB.out hx106_1
                  replace hx106_2 := px HB.out hx106_2
                  replace hx106_3 := px HB.out hx106_3
                  replace hx106_4 := px HB.out hx106_4
                  replace p106 := eq_true p106
                  replace q106 := eq_true q106
                  refine start_ (n := 8) (S := fun w' => w'.cell? (ad101.add ((x5_1).toNat * 5)) = some (.string ((rd_T46 l0 x5_1).f0)) ∧ w'.cell? ⟨(ad101.add ((x5_1).toNat * 5)).block, (ad101.add ((x5_1).toNat * 5)).off + 1, none⟩ = some (.bool ((rd_T46 l0 x5_1).f1)) ∧ w'.cell? ⟨(ad101.add ((x5_1).toNat * 5)).block, (ad101.add ((x5_1).toNat * 5)).off + 2, none⟩ = some (.string ((rd_T46 l0 x5_1).f2)) ∧ w'.cell? ⟨(ad101.add ((x5_1).toNat * 5)).block, (ad101.add ((x5_1).toNat * 5)).off + 3, none⟩ = some (.string ((rd_T46 l0 x5_1).f3)) ∧ w'.cell? ⟨(ad101.add ((x5_1).toNat * 5)).block, (ad101.add ((x5_1).toNat * 5)).off + 4, none⟩ = some (.string ((rd_T46 l0 x5_1).f4))) (ds := []) _ (by kernel_rfl) rfl rfl ⟨(px HB.out hw106_0), (px HB.out hw106_1), (px HB.out hw106_2), (px HB.out hw106_3), (px HB.out hw106_4)⟩ (fun hHeld => ?_); refine with_tabW laws_heldAffixS.tab13 laws_heldAffixS.bits13 (fun HT_ HW_ => ?_)
                  generalize w19.drew = w20 at HB hx106_0 hx106_1 hx106_2 hx106_3 hx106_4 hHeld ⊢
                  refine ord_ [.p 0 43, .p 1 44, .p 2 45, .p 3 46, .p 5 48, .t 4 47] ?_
                  repeat (first | (refine pu_ (v := ?_) (a' := ?_) HT_ rfl rfl (by kernel_rfl) (fun _ _ _ h => h) (by rfl) ?_ ?_ ?_; rotate_left 2; (intro w'; go_simp; with_reducible rfl); (simp only [Act.put, List.setIfInBounds_toArray, List.set_cons_zero, List.set_cons_succ, i64_w, i32_w]; rfl)) | (refine ta_ (v := ?_) (a' := ?_) HT_ HW_ rfl rfl (by kernel_rfl) (fun _ _ _ h => h) (by rfl) hHeld ?_ ?_ ?_; rotate_left 2; (rintro w' ⟨s0, s1, s2, s3, s4⟩; go_simp; with_reducible rfl); (simp only [Act.put, List.setIfInBounds_toArray, List.set_cons_zero, List.set_cons_succ, i64_w, i32_w]; rfl)))
                  refine ord0 ?_
                  refine on_ (i := 6) (N := some 49) HT_ rfl rfl (by kernel_rfl) (by decide) (fun K hK => ?_)
                  refine goM gf57 #[.int .i64 (wrap64 ((wrap64 ((wrap64 (x1_1 + 1)) + 1)) + 1))] (by rfl) rfl rfl rfl ?_
                  with_reducible refine (laws_markText.calls k1 (wrap64 ((wrap64 ((wrap64 (x1_1 + 1)) + 1)) + 1)) t107 _ A12.out).mono ?_
                  rintro e w21 ⟨rfl, hb⟩
                  refine ⟨_, rfl, ?_⟩
                  replace HB := kB HB hb
                  (try clear hb)
                  (try clear hb2)
                  (try clear hk)
                  (try clear hi)
                  refine hK.out _ _ ⟨(px HB.out hw106_0), (px HB.out hw106_1), (px HB.out hw106_2), (px HB.out hw106_3), (px HB.out hw106_4)⟩ (fun hHeld => ?_)
                  clear hK K
                  refine norm_ (a' := ?_) ?_ ?_
                  rotate_left
                  · show Act.put _ (some 49) _ = _
                    simp only [Act.put, List.setIfInBounds_toArray, List.set_cons_zero, List.set_cons_succ, i64_w, i32_w]
                    rfl
                  refine ord_ [.p 7 50] ?_
                  repeat (refine pu_ (v := ?_) (a' := ?_) HT_ rfl rfl (by kernel_rfl) (fun _ _ _ h => h) (by rfl) ?_ ?_ ?_; rotate_left 2; (intro w'; go_simp; with_reducible rfl); (simp only [Act.put, List.setIfInBounds_toArray, List.set_cons_zero, List.set_cons_succ, i64_w, i32_w]; rfl))
                  refine ord0 ?_
                  refine done_ (done_of HT_.out (by kernel_rfl)) ?_
                  try go_wp2
                  replace HB := Aside0.mk (below_drew1 HB.out)
                  have p108 := of_decide_eq_true c4b0
                  have q108 := of_decide_eq_true c3b0
                  obtain ⟨ad108, e108, hx108_0, hx108_1, hx108_2, hx108_3, hx108_4⟩ := at_T46 HR0.out x5_1 p108 q108
                  have hw108_4 := hx108_4
                  have hw108_3 := hx108_3
                  have hw108_2 := hx108_2
                  have hw108_1 := hx108_1
                  have hw108_0 := hx108_0
                  obtain rfl : ad101 = ad108 := (by injection e108)
                  replace hx108_0 := px HB.out hx108_0
                  replace hx108_1 := px HB.out hx108_1
                  replace hx108_2 := px HB.out hx108_2
                  replace hx108_3 := px HB.out hx108_3
                  replace hx108_4 := px HB.out hx108_4
                  replace p108 := eq_true p108
                  replace q108 := eq_true q108
                  refine start_ (n := 8) (S := fun w' => w'.cell? (ad101.add ((x5_1).toNat * 5)) = some (.string ((rd_T46 l0 x5_1).f0)) ∧ w'.cell? ⟨(ad101.add ((x5_1).toNat * 5)).block, (ad101.add ((x5_1).toNat * 5)).off + 1, none⟩ = some (.bool ((rd_T46 l0 x5_1).f1)) ∧ w'.cell? ⟨(ad101.add ((x5_1).toNat * 5)).block, (ad101.add ((x5_1).toNat * 5)).off + 2, none⟩ = some (.string ((rd_T46 l0 x5_1).f2)) ∧ w'.cell? ⟨(ad101.add ((x5_1).toNat * 5)).block, (ad101.add ((x5_1).toNat * 5)).off + 3, none⟩ = some (.string ((rd_T46 l0 x5_1).f3)) ∧ w'.cell? ⟨(ad101.add ((x5_1).toNat * 5)).block, (ad101.add ((x5_1).toNat * 5)).off + 4, none⟩ = some (.string ((rd_T46 l0 x5_1).f4))) (ds := []) _ (by kernel_rfl) rfl rfl ⟨(px HB.out hw108_0), (px HB.out hw108_1), (px HB.out hw108_2), (px HB.out hw108_3), (px HB.out hw108_4)⟩ (fun hHeld => ?_); refine with_tabW laws_heldAffixS.tab16 laws_heldAffixS.bits16 (fun HT_ HW_ => ?_)
                  generalize w21.drew = w22 at HB hx108_0 hx108_1 hx108_2 hx108_3 hx108_4 hHeld ⊢
                  refine ord_ [.p 0 53, .p 1 54, .p 2 55, .p 3 56, .p 5 58, .t 4 57] ?_
                  repeat (first | (refine pu_ (v := ?_) (a' := ?_) HT_ rfl rfl (by kernel_rfl) (fun _ _ _ h => h) (by rfl) ?_ ?_ ?_; rotate_left 2; (intro w'; go_simp; with_reducible rfl); (simp only [Act.put, List.setIfInBounds_toArray, List.set_cons_zero, List.set_cons_succ, i64_w, i32_w]; rfl)) | (refine ta_ (v := ?_) (a' := ?_) HT_ HW_ rfl rfl (by kernel_rfl) (fun _ _ _ h => h) (by rfl) hHeld ?_ ?_ ?_; rotate_left 2; (rintro w' ⟨s0, s1, s2, s3, s4⟩; go_simp; with_reducible rfl); (simp only [Act.put, List.setIfInBounds_toArray, List.set_cons_zero, List.set_cons_succ, i64_w, i32_w]; rfl)))
                  refine ord0 ?_
                  refine on_ (i := 6) (N := some 59) HT_ rfl rfl (by kernel_rfl) (by decide) (fun K hK => ?_)
                  refine goM gf57 #[.int .i64 (wrap64 ((wrap64 ((wrap64 ((wrap64 (x1_1 + 1)) + 1)) + 1)) + 1))] (by rfl) rfl rfl rfl ?_
                  with_reducible refine (laws_markText.calls k1 (wrap64 ((wrap64 ((wrap64 ((wrap64 (x1_1 + 1)) + 1)) + 1)) + 1)) t109 _ A14.out).mono ?_
                  rintro e w23 ⟨rfl, hb⟩
                  refine ⟨_, rfl, ?_⟩
                  replace HB := kB HB hb
                  (try clear hb)
                  (try clear hb2)
                  (try clear hk)
                  (try clear hi)
                  refine hK.out _ _ ⟨(px HB.out hw108_0), (px HB.out hw108_1), (px HB.out hw108_2), (px HB.out hw108_3), (px HB.out hw108_4)⟩ (fun hHeld => ?_)
                  clear hK K
                  refine norm_ (a' := ?_) ?_ ?_
                  rotate_left
                  · show Act.put _ (some 59) _ = _
                    simp only [Act.put, List.setIfInBounds_toArray, List.set_cons_zero, List.set_cons_succ, i64_w, i32_w]
                    rfl
                  refine ord_ [.p 7 60] ?_
                  repeat (refine pu_ (v := ?_) (a' := ?_) HT_ rfl rfl (by kernel_rfl) (fun _ _ _ h => h) (by rfl) ?_ ?_ ?_; rotate_left 2; (intro w'; go_simp; with_reducible rfl); (simp only [Act.put, List.setIfInBounds_toArray, List.set_cons_zero, List.set_cons_succ, i64_w, i32_w]; rfl))
                  refine ord0 ?_
                  refine done_ (done_of HT_.out (by kernel_rfl)) ?_
                  try go_wp2
                  go_roundg k1
                  case measure => have := HK1.out; omega
                  case rel => exact ⟨(wrap64 ((wrap64 ((wrap64 ((wrap64 ((wrap64 (x1_1 + 1)) + 1)) + 1)) + 1)) + 1)), (wrap64 (x5_1 + 1)), (by first | rfl | (simp; done) | (simp [*]; done)), (by first | rfl | (simp; done) | (simp [*]; done)), H', ⟨by have := HK1.out; omega⟩, ⟨bx HB.out⟩⟩
                · rw [if_neg c15] at H
                  have c15b0 : (((rd_T46 l0 x5_1).f4).toList == t109.toList) = false := beq_eq_false_iff_ne.mpr c15
                  have c15b1 : (((rd_T46 l0 x5_1).f4).toList != t109.toList) = true := bne_iff_ne.mpr c15
                  obtain rfl := Option.some.inj H
                  try go_wp2
                  replace HB := Aside0.mk (below_drew1 HB.out)
                  have p101 := of_decide_eq_true c4b0
                  have q101 := of_decide_eq_true c3b0
                  obtain ⟨ad101, e101, hx101_0, hx101_1, hx101_2, hx101_3, hx101_4⟩ := at_T46 HR0.out x5_1 p101 q101
                  have hw101_4 := hx101_4
                  have hw101_3 := hx101_3
                  have hw101_2 := hx101_2
                  have hw101_1 := hx101_1
                  have hw101_0 := hx101_0
                  cases e101
                  replace hx101_0 := px HB.out hx101_0
                  replace hx101_1 := px HB.out hx101_1
                  replace hx101_2 := px HB.out hx101_2
                  replace hx101_3 := px HB.out hx101_3
                  replace hx101_4 := px HB.out hx101_4
                  replace p101 := eq_true p101
                  replace q101 := eq_true q101
                  refine start_ (n := 8) (S := fun w' => w'.cell? (ad101.add ((x5_1).toNat * 5)) = some (.string ((rd_T46 l0 x5_1).f0)) ∧ w'.cell? ⟨(ad101.add ((x5_1).toNat * 5)).block, (ad101.add ((x5_1).toNat * 5)).off + 1, none⟩ = some (.bool ((rd_T46 l0 x5_1).f1)) ∧ w'.cell? ⟨(ad101.add ((x5_1).toNat * 5)).block, (ad101.add ((x5_1).toNat * 5)).off + 2, none⟩ = some (.string ((rd_T46 l0 x5_1).f2)) ∧ w'.cell? ⟨(ad101.add ((x5_1).toNat * 5)).block, (ad101.add ((x5_1).toNat * 5)).off + 3, none⟩ = some (.string ((rd_T46 l0 x5_1).f3)) ∧ w'.cell? ⟨(ad101.add ((x5_1).toNat * 5)).block, (ad101.add ((x5_1).toNat * 5)).off + 4, none⟩ = some (.string ((rd_T46 l0 x5_1).f4))) (ds := []) _ (by kernel_rfl) rfl rfl ⟨(px HB.out hw101_0), (px HB.out hw101_1), (px HB.out hw101_2), (px HB.out hw101_3), (px HB.out hw101_4)⟩ (fun hHeld => ?_); refine with_tabW laws_heldAffixS.tab4 laws_heldAffixS.bits4 (fun HT_ HW_ => ?_)
                  generalize wr.drew = w24 at HB hx101_0 hx101_1 hx101_2 hx101_3 hx101_4 hHeld ⊢
                  refine ord_ [.p 0 12, .p 1 13, .p 2 14, .p 3 15, .p 5 17, .t 4 16] ?_
                  repeat (first | (refine pu_ (v := ?_) (a' := ?_) HT_ rfl rfl (by kernel_rfl) (fun _ _ _ h => h) (by rfl) ?_ ?_ ?_; rotate_left 2; (intro w'; go_simp; with_reducible rfl); (simp only [Act.put, List.setIfInBounds_toArray, List.set_cons_zero, List.set_cons_succ, i64_w, i32_w]; rfl)) | (refine ta_ (v := ?_) (a' := ?_) HT_ HW_ rfl rfl (by kernel_rfl) (fun _ _ _ h => h) (by rfl) hHeld ?_ ?_ ?_; rotate_left 2; (rintro w' ⟨s0, s1, s2, s3, s4⟩; go_simp; with_reducible rfl); (simp only [Act.put, List.setIfInBounds_toArray, List.set_cons_zero, List.set_cons_succ, i64_w, i32_w]; rfl)))
                  refine ord0 ?_
                  refine on_ (i := 6) (N := some 18) HT_ rfl rfl (by kernel_rfl) (by decide) (fun K hK => ?_)
                  refine goM gf57 #[.int .i64 x1_1] (by rfl) rfl rfl rfl ?_
                  with_reducible refine (laws_markText.calls k1 x1_1 t102 _ A5.out).mono ?_
                  rintro e w25 ⟨rfl, hb⟩
                  refine ⟨_, rfl, ?_⟩
                  replace HB := kB HB hb
                  (try clear hb)
                  (try clear hb2)
                  (try clear hk)
                  (try clear hi)
                  refine hK.out _ _ ⟨(px HB.out hw101_0), (px HB.out hw101_1), (px HB.out hw101_2), (px HB.out hw101_3), (px HB.out hw101_4)⟩ (fun hHeld => ?_)
                  clear hK K
                  refine norm_ (a' := ?_) ?_ ?_
                  rotate_left
                  · show Act.put _ (some 18) _ = _
                    simp only [Act.put, List.setIfInBounds_toArray, List.set_cons_zero, List.set_cons_succ, i64_w, i32_w]
                    rfl
                  refine ord_ [.p 7 19] ?_
                  repeat (refine pu_ (v := ?_) (a' := ?_) HT_ rfl rfl (by kernel_rfl) (fun _ _ _ h => h) (by rfl) ?_ ?_ ?_; rotate_left 2; (intro w'; go_simp; with_reducible rfl); (simp only [Act.put, List.setIfInBounds_toArray, List.set_cons_zero, List.set_cons_succ, i64_w, i32_w]; rfl))
                  refine ord0 ?_
                  refine done_ (done_of HT_.out (by kernel_rfl)) ?_
                  have p103 := of_decide_eq_true c4b0
                  have q103 := of_decide_eq_true c3b0
                  obtain ⟨ad103, e103, hx103_0, hx103_1, hx103_2, hx103_3, hx103_4⟩ := at_T46 HR0.out x5_1 p103 q103
                  obtain rfl : ad101 = ad103 := (by injection e103)
                  replace hx103_0 := px HB.out hx103_0
                  replace hx103_1 := px HB.out hx103_1
                  replace hx103_2 := px HB.out hx103_2
                  replace hx103_3 := px HB.out hx103_3
                  replace hx103_4 := px HB.out hx103_4
                  replace p103 := eq_true p103
                  replace q103 := eq_true q103
                  try go_wp2
                  replace HB := Aside0.mk (below_drew1 HB.out)
                  have p104 := of_decide_eq_true c4b0
                  have q104 := of_decide_eq_true c3b0
                  obtain ⟨ad104, e104, hx104_0, hx104_1, hx104_2, hx104_3, hx104_4⟩ := at_T46 HR0.out x5_1 p104 q104
                  have hw104_4 := hx104_4
                  have hw104_3 := hx104_3
                  have hw104_2 := hx104_2
                  have hw104_1 := hx104_1
                  have hw104_0 := hx104_0
                  obtain rfl : ad101 = ad104 := (by injection e104)
                  replace hx104_0 := px HB.out hx104_0
                  replace hx104_1 := px HB.out hx104_1
                  replace hx104_2 := px HB.out hx104_2
                  replace hx104_3 := px HB.out hx104_3
                  replace hx104_4 := px HB.out hx104_4
                  replace p104 := eq_true p104
                  replace q104 := eq_true q104
                  refine start_ (n := 8) (S := fun w' => w'.cell? (ad101.add ((x5_1).toNat * 5)) = some (.string ((rd_T46 l0 x5_1).f0)) ∧ w'.cell? ⟨(ad101.add ((x5_1).toNat * 5)).block, (ad101.add ((x5_1).toNat * 5)).off + 1, none⟩ = some (.bool ((rd_T46 l0 x5_1).f1)) ∧ w'.cell? ⟨(ad101.add ((x5_1).toNat * 5)).block, (ad101.add ((x5_1).toNat * 5)).off + 2, none⟩ = some (.string ((rd_T46 l0 x5_1).f2)) ∧ w'.cell? ⟨(ad101.add ((x5_1).toNat * 5)).block, (ad101.add ((x5_1).toNat * 5)).off + 3, none⟩ = some (.string ((rd_T46 l0 x5_1).f3)) ∧ w'.cell? ⟨(ad101.add ((x5_1).toNat * 5)).block, (ad101.add ((x5_1).toNat * 5)).off + 4, none⟩ = some (.string ((rd_T46 l0 x5_1).f4))) (ds := []) _ (by kernel_rfl) rfl rfl ⟨(px HB.out hw104_0), (px HB.out hw104_1), (px HB.out hw104_2), (px HB.out hw104_3), (px HB.out hw104_4)⟩ (fun hHeld => ?_); refine with_tabW laws_heldAffixS.tab10 laws_heldAffixS.bits10 (fun HT_ HW_ => ?_)
                  generalize w25.drew = w26 at HB hx104_0 hx104_1 hx104_2 hx104_3 hx104_4 hHeld ⊢
                  refine ord_ [.p 0 33, .p 1 34, .p 2 35, .p 3 36, .p 5 38, .t 4 37] ?_
                  repeat (first | (refine pu_ (v := ?_) (a' := ?_) HT_ rfl rfl (by kernel_rfl) (fun _ _ _ h => h) (by rfl) ?_ ?_ ?_; rotate_left 2; (intro w'; go_simp; with_reducible rfl); (simp only [Act.put, List.setIfInBounds_toArray, List.set_cons_zero, List.set_cons_succ, i64_w, i32_w]; rfl)) | (refine ta_ (v := ?_) (a' := ?_) HT_ HW_ rfl rfl (by kernel_rfl) (fun _ _ _ h => h) (by rfl) hHeld ?_ ?_ ?_; rotate_left 2; (rintro w' ⟨s0, s1, s2, s3, s4⟩; go_simp; with_reducible rfl); (simp only [Act.put, List.setIfInBounds_toArray, List.set_cons_zero, List.set_cons_succ, i64_w, i32_w]; rfl)))
                  refine ord0 ?_
                  refine on_ (i := 6) (N := some 39) HT_ rfl rfl (by kernel_rfl) (by decide) (fun K hK => ?_)
                  refine goM gf57 #[.int .i64 (wrap64 ((wrap64 (x1_1 + 1)) + 1))] (by rfl) rfl rfl rfl ?_
                  with_reducible refine (laws_markText.calls k1 (wrap64 ((wrap64 (x1_1 + 1)) + 1)) t105 _ A10.out).mono ?_
                  rintro e w27 ⟨rfl, hb⟩
                  refine ⟨_, rfl, ?_⟩
                  replace HB := kB HB hb
                  (try clear hb)
                  (try clear hb2)
                  (try clear hk)
                  (try clear hi)
                  refine hK.out _ _ ⟨(px HB.out hw104_0), (px HB.out hw104_1), (px HB.out hw104_2), (px HB.out hw104_3), (px HB.out hw104_4)⟩ (fun hHeld => ?_)
                  clear hK K
                  refine norm_ (a' := ?_) ?_ ?_
                  rotate_left
                  · show Act.put _ (some 39) _ = _
                    simp only [Act.put, List.setIfInBounds_toArray, List.set_cons_zero, List.set_cons_succ, i64_w, i32_w]
                    rfl
                  refine ord_ [.p 7 40] ?_
                  repeat (refine pu_ (v := ?_) (a' := ?_) HT_ rfl rfl (by kernel_rfl) (fun _ _ _ h => h) (by rfl) ?_ ?_ ?_; rotate_left 2; (intro w'; go_simp; with_reducible rfl); (simp only [Act.put, List.setIfInBounds_toArray, List.set_cons_zero, List.set_cons_succ, i64_w, i32_w]; rfl))
                  refine ord0 ?_
                  refine done_ (done_of HT_.out (by kernel_rfl)) ?_
                  try go_wp2
                  replace HB := Aside0.mk (below_drew1 HB.out)
                  have p106 := of_decide_eq_true c4b0
                  have q106 := of_decide_eq_true c3b0
                  obtain ⟨ad106, e106, hx106_0, hx106_1, hx106_2, hx106_3, hx106_4⟩ := at_T46 HR0.out x5_1 p106 q106
                  have hw106_4 := hx106_4
                  have hw106_3 := hx106_3
                  have hw106_2 := hx106_2
                  have hw106_1 := hx106_1
                  have hw106_0 := hx106_0
                  obtain rfl : ad101 = ad106 := (by injection e106)
                  replace hx106_0 := px HB.out hx106_0
                  replace hx106_1 := px HB.out hx106_1
                  replace hx106_2 := px HB.out hx106_2
                  replace hx106_3 := px HB.out hx106_3
                  replace hx106_4 := px HB.out hx106_4
                  replace p106 := eq_true p106
                  replace q106 := eq_true q106
                  refine start_ (n := 8) (S := fun w' => w'.cell? (ad101.add ((x5_1).toNat * 5)) = some (.string ((rd_T46 l0 x5_1).f0)) ∧ w'.cell? ⟨(ad101.add ((x5_1).toNat * 5)).block, (ad101.add ((x5_1).toNat * 5)).off + 1, none⟩ = some (.bool ((rd_T46 l0 x5_1).f1)) ∧ w'.cell? ⟨(ad101.add ((x5_1).toNat * 5)).block, (ad101.add ((x5_1).toNat * 5)).off + 2, none⟩ = some (.string ((rd_T46 l0 x5_1).f2)) ∧ w'.cell? ⟨(ad101.add ((x5_1).toNat * 5)).block, (ad101.add ((x5_1).toNat * 5)).off + 3, none⟩ = some (.string ((rd_T46 l0 x5_1).f3)) ∧ w'.cell? ⟨(ad101.add ((x5_1).toNat * 5)).block, (ad101.add ((x5_1).toNat * 5)).off + 4, none⟩ = some (.string ((rd_T46 l0 x5_1).f4))) (ds := []) _ (by kernel_rfl) rfl rfl ⟨(px HB.out hw106_0), (px HB.out hw106_1), (px HB.out hw106_2), (px HB.out hw106_3), (px HB.out hw106_4)⟩ (fun hHeld => ?_); refine with_tabW laws_heldAffixS.tab13 laws_heldAffixS.bits13 (fun HT_ HW_ => ?_)
                  generalize w27.drew = w28 at HB hx106_0 hx106_1 hx106_2 hx106_3 hx106_4 hHeld ⊢
                  refine ord_ [.p 0 43, .p 1 44, .p 2 45, .p 3 46, .p 5 48, .t 4 47] ?_
                  repeat (first | (refine pu_ (v := ?_) (a' := ?_) HT_ rfl rfl (by kernel_rfl) (fun _ _ _ h => h) (by rfl) ?_ ?_ ?_; rotate_left 2; (intro w'; go_simp; with_reducible rfl); (simp only [Act.put, List.setIfInBounds_toArray, List.set_cons_zero, List.set_cons_succ, i64_w, i32_w]; rfl)) | (refine ta_ (v := ?_) (a' := ?_) HT_ HW_ rfl rfl (by kernel_rfl) (fun _ _ _ h => h) (by rfl) hHeld ?_ ?_ ?_; rotate_left 2; (rintro w' ⟨s0, s1, s2, s3, s4⟩; go_simp; with_reducible rfl); (simp only [Act.put, List.setIfInBounds_toArray, List.set_cons_zero, List.set_cons_succ, i64_w, i32_w]; rfl)))
                  refine ord0 ?_
                  refine on_ (i := 6) (N := some 49) HT_ rfl rfl (by kernel_rfl) (by decide) (fun K hK => ?_)
                  refine goM gf57 #[.int .i64 (wrap64 ((wrap64 ((wrap64 (x1_1 + 1)) + 1)) + 1))] (by rfl) rfl rfl rfl ?_
                  with_reducible refine (laws_markText.calls k1 (wrap64 ((wrap64 ((wrap64 (x1_1 + 1)) + 1)) + 1)) t107 _ A12.out).mono ?_
                  rintro e w29 ⟨rfl, hb⟩
                  refine ⟨_, rfl, ?_⟩
                  replace HB := kB HB hb
                  (try clear hb)
                  (try clear hb2)
                  (try clear hk)
                  (try clear hi)
                  refine hK.out _ _ ⟨(px HB.out hw106_0), (px HB.out hw106_1), (px HB.out hw106_2), (px HB.out hw106_3), (px HB.out hw106_4)⟩ (fun hHeld => ?_)
                  clear hK K
                  refine norm_ (a' := ?_) ?_ ?_
                  rotate_left
                  · show Act.put _ (some 49) _ = _
                    simp only [Act.put, List.setIfInBounds_toArray, List.set_cons_zero, List.set_cons_succ, i64_w, i32_w]
                    rfl
                  refine ord_ [.p 7 50] ?_
                  repeat (refine pu_ (v := ?_) (a' := ?_) HT_ rfl rfl (by kernel_rfl) (fun _ _ _ h => h) (by rfl) ?_ ?_ ?_; rotate_left 2; (intro w'; go_simp; with_reducible rfl); (simp only [Act.put, List.setIfInBounds_toArray, List.set_cons_zero, List.set_cons_succ, i64_w, i32_w]; rfl))
                  refine ord0 ?_
                  refine done_ (done_of HT_.out (by kernel_rfl)) ?_
                  try go_wp2
                  replace HB := Aside0.mk (below_drew1 HB.out)
                  have p108 := of_decide_eq_true c4b0
                  have q108 := of_decide_eq_true c3b0
                  obtain ⟨ad108, e108, hx108_0, hx108_1, hx108_2, hx108_3, hx108_4⟩ := at_T46 HR0.out x5_1 p108 q108
                  have hw108_4 := hx108_4
                  have hw108_3 := hx108_3
                  have hw108_2 := hx108_2
                  have hw108_1 := hx108_1
                  have hw108_0 := hx108_0
                  obtain rfl : ad101 = ad108 := (by injection e108)
                  replace hx108_0 := px HB.out hx108_0
                  replace hx108_1 := px HB.out hx108_1
                  replace hx108_2 := px HB.out hx108_2
                  replace hx108_3 := px HB.out hx108_3
                  replace hx108_4 := px HB.out hx108_4
                  replace p108 := eq_true p108
                  replace q108 := eq_true q108
                  refine start_ (n := 8) (S := fun w' => w'.cell? (ad101.add ((x5_1).toNat * 5)) = some (.string ((rd_T46 l0 x5_1).f0)) ∧ w'.cell? ⟨(ad101.add ((x5_1).toNat * 5)).block, (ad101.add ((x5_1).toNat * 5)).off + 1, none⟩ = some (.bool ((rd_T46 l0 x5_1).f1)) ∧ w'.cell? ⟨(ad101.add ((x5_1).toNat * 5)).block, (ad101.add ((x5_1).toNat * 5)).off + 2, none⟩ = some (.string ((rd_T46 l0 x5_1).f2)) ∧ w'.cell? ⟨(ad101.add ((x5_1).toNat * 5)).block, (ad101.add ((x5_1).toNat * 5)).off + 3, none⟩ = some (.string ((rd_T46 l0 x5_1).f3)) ∧ w'.cell? ⟨(ad101.add ((x5_1).toNat * 5)).block, (ad101.add ((x5_1).toNat * 5)).off + 4, none⟩ = some (.string ((rd_T46 l0 x5_1).f4))) (ds := []) _ (by kernel_rfl) rfl rfl ⟨(px HB.out hw108_0), (px HB.out hw108_1), (px HB.out hw108_2), (px HB.out hw108_3), (px HB.out hw108_4)⟩ (fun hHeld => ?_); refine with_tabW laws_heldAffixS.tab16 laws_heldAffixS.bits16 (fun HT_ HW_ => ?_)
                  generalize w29.drew = w30 at HB hx108_0 hx108_1 hx108_2 hx108_3 hx108_4 hHeld ⊢
                  refine ord_ [.p 0 53, .p 1 54, .p 2 55, .p 3 56, .p 5 58, .t 4 57] ?_
                  repeat (first | (refine pu_ (v := ?_) (a' := ?_) HT_ rfl rfl (by kernel_rfl) (fun _ _ _ h => h) (by rfl) ?_ ?_ ?_; rotate_left 2; (intro w'; go_simp; with_reducible rfl); (simp only [Act.put, List.setIfInBounds_toArray, List.set_cons_zero, List.set_cons_succ, i64_w, i32_w]; rfl)) | (refine ta_ (v := ?_) (a' := ?_) HT_ HW_ rfl rfl (by kernel_rfl) (fun _ _ _ h => h) (by rfl) hHeld ?_ ?_ ?_; rotate_left 2; (rintro w' ⟨s0, s1, s2, s3, s4⟩; go_simp; with_reducible rfl); (simp only [Act.put, List.setIfInBounds_toArray, List.set_cons_zero, List.set_cons_succ, i64_w, i32_w]; rfl)))
                  refine ord0 ?_
                  refine on_ (i := 6) (N := some 59) HT_ rfl rfl (by kernel_rfl) (by decide) (fun K hK => ?_)
                  refine goM gf57 #[.int .i64 (wrap64 ((wrap64 ((wrap64 ((wrap64 (x1_1 + 1)) + 1)) + 1)) + 1))] (by rfl) rfl rfl rfl ?_
                  with_reducible refine (laws_markText.calls k1 (wrap64 ((wrap64 ((wrap64 ((wrap64 (x1_1 + 1)) + 1)) + 1)) + 1)) t109 _ A14.out).mono ?_
                  rintro e w31 ⟨rfl, hb⟩
                  refine ⟨_, rfl, ?_⟩
                  replace HB := kB HB hb
                  (try clear hb)
                  (try clear hb2)
                  (try clear hk)
                  (try clear hi)
                  refine hK.out _ _ ⟨(px HB.out hw108_0), (px HB.out hw108_1), (px HB.out hw108_2), (px HB.out hw108_3), (px HB.out hw108_4)⟩ (fun hHeld => ?_)
                  clear hK K
                  refine norm_ (a' := ?_) ?_ ?_
                  rotate_left
                  · show Act.put _ (some 59) _ = _
                    simp only [Act.put, List.setIfInBounds_toArray, List.set_cons_zero, List.set_cons_succ, i64_w, i32_w]
                    rfl
                  refine ord_ [.p 7 60] ?_
                  repeat (refine pu_ (v := ?_) (a' := ?_) HT_ rfl rfl (by kernel_rfl) (fun _ _ _ h => h) (by rfl) ?_ ?_ ?_; rotate_left 2; (intro w'; go_simp; with_reducible rfl); (simp only [Act.put, List.setIfInBounds_toArray, List.set_cons_zero, List.set_cons_succ, i64_w, i32_w]; rfl))
                  refine ord0 ?_
                  refine done_ (done_of HT_.out (by kernel_rfl)) ?_
                  try go_wp2
                  go_ret
                  exact ⟨by rfl, bx HB.out⟩
              · rw [if_neg c13] at H
                have c13b0 : (((rd_T46 l0 x5_1).f3).toList == t107.toList) = false := beq_eq_false_iff_ne.mpr c13
                have c13b1 : (((rd_T46 l0 x5_1).f3).toList != t107.toList) = true := bne_iff_ne.mpr c13
                obtain rfl := Option.some.inj H
                try go_wp2
                replace HB := Aside0.mk (below_drew1 HB.out)
                have p101 := of_decide_eq_true c4b0
                have q101 := of_decide_eq_true c3b0
                obtain ⟨ad101, e101, hx101_0, hx101_1, hx101_2, hx101_3, hx101_4⟩ := at_T46 HR0.out x5_1 p101 q101
                have hw101_4 := hx101_4
                have hw101_3 := hx101_3
                have hw101_2 := hx101_2
                have hw101_1 := hx101_1
                have hw101_0 := hx101_0
                cases e101
                replace hx101_0 := px HB.out hx101_0
                replace hx101_1 := px HB.out hx101_1
                replace hx101_2 := px HB.out hx101_2
                replace hx101_3 := px HB.out hx101_3
                replace hx101_4 := px HB.out hx101_4
                replace p101 := eq_true p101
                replace q101 := eq_true q101
                refine start_ (n := 8) (S := fun w' => w'.cell? (ad101.add ((x5_1).toNat * 5)) = some (.string ((rd_T46 l0 x5_1).f0)) ∧ w'.cell? ⟨(ad101.add ((x5_1).toNat * 5)).block, (ad101.add ((x5_1).toNat * 5)).off + 1, none⟩ = some (.bool ((rd_T46 l0 x5_1).f1)) ∧ w'.cell? ⟨(ad101.add ((x5_1).toNat * 5)).block, (ad101.add ((x5_1).toNat * 5)).off + 2, none⟩ = some (.string ((rd_T46 l0 x5_1).f2)) ∧ w'.cell? ⟨(ad101.add ((x5_1).toNat * 5)).block, (ad101.add ((x5_1).toNat * 5)).off + 3, none⟩ = some (.string ((rd_T46 l0 x5_1).f3)) ∧ w'.cell? ⟨(ad101.add ((x5_1).toNat * 5)).block, (ad101.add ((x5_1).toNat * 5)).off + 4, none⟩ = some (.string ((rd_T46 l0 x5_1).f4))) (ds := []) _ (by kernel_rfl) rfl rfl ⟨(px HB.out hw101_0), (px HB.out hw101_1), (px HB.out hw101_2), (px HB.out hw101_3), (px HB.out hw101_4)⟩ (fun hHeld => ?_); refine with_tabW laws_heldAffixS.tab4 laws_heldAffixS.bits4 (fun HT_ HW_ => ?_)
                generalize wr.drew = w32 at HB hx101_0 hx101_1 hx101_2 hx101_3 hx101_4 hHeld ⊢
                refine ord_ [.p 0 12, .p 1 13, .p 2 14, .p 3 15, .p 5 17, .t 4 16] ?_
                repeat (first | (refine pu_ (v := ?_) (a' := ?_) HT_ rfl rfl (by kernel_rfl) (fun _ _ _ h => h) (by rfl) ?_ ?_ ?_; rotate_left 2; (intro w'; go_simp; with_reducible rfl); (simp only [Act.put, List.setIfInBounds_toArray, List.set_cons_zero, List.set_cons_succ, i64_w, i32_w]; rfl)) | (refine ta_ (v := ?_) (a' := ?_) HT_ HW_ rfl rfl (by kernel_rfl) (fun _ _ _ h => h) (by rfl) hHeld ?_ ?_ ?_; rotate_left 2; (rintro w' ⟨s0, s1, s2, s3, s4⟩; go_simp; with_reducible rfl); (simp only [Act.put, List.setIfInBounds_toArray, List.set_cons_zero, List.set_cons_succ, i64_w, i32_w]; rfl)))
                refine ord0 ?_
                refine on_ (i := 6) (N := some 18) HT_ rfl rfl (by kernel_rfl) (by decide) (fun K hK => ?_)
                refine goM gf57 #[.int .i64 x1_1] (by rfl) rfl rfl rfl ?_
                with_reducible refine (laws_markText.calls k1 x1_1 t102 _ A5.out).mono ?_
                rintro e w33 ⟨rfl, hb⟩
                refine ⟨_, rfl, ?_⟩
                replace HB := kB HB hb
                (try clear hb)
                (try clear hb2)
                (try clear hk)
                (try clear hi)
                refine hK.out _ _ ⟨(px HB.out hw101_0), (px HB.out hw101_1), (px HB.out hw101_2), (px HB.out hw101_3), (px HB.out hw101_4)⟩ (fun hHeld => ?_)
                clear hK K
                refine norm_ (a' := ?_) ?_ ?_
                rotate_left
                · show Act.put _ (some 18) _ = _
                  simp only [Act.put, List.setIfInBounds_toArray, List.set_cons_zero, List.set_cons_succ, i64_w, i32_w]
                  rfl
                refine ord_ [.p 7 19] ?_
                repeat (refine pu_ (v := ?_) (a' := ?_) HT_ rfl rfl (by kernel_rfl) (fun _ _ _ h => h) (by rfl) ?_ ?_ ?_; rotate_left 2; (intro w'; go_simp; with_reducible rfl); (simp only [Act.put, List.setIfInBounds_toArray, List.set_cons_zero, List.set_cons_succ, i64_w, i32_w]; rfl))
                refine ord0 ?_
                refine done_ (done_of HT_.out (by kernel_rfl)) ?_
                have p103 := of_decide_eq_true c4b0
                have q103 := of_decide_eq_true c3b0
                obtain ⟨ad103, e103, hx103_0, hx103_1, hx103_2, hx103_3, hx103_4⟩ := at_T46 HR0.out x5_1 p103 q103
                obtain rfl : ad101 = ad103 := (by injection e103)
                replace hx103_0 := px HB.out hx103_0
                replace hx103_1 := px HB.out hx103_1
                replace hx103_2 := px HB.out hx103_2
                replace hx103_3 := px HB.out hx103_3
                replace hx103_4 := px HB.out hx103_4
                replace p103 := eq_true p103
                replace q103 := eq_true q103
                try go_wp2
                replace HB := Aside0.mk (below_drew1 HB.out)
                have p104 := of_decide_eq_true c4b0
                have q104 := of_decide_eq_true c3b0
                obtain ⟨ad104, e104, hx104_0, hx104_1, hx104_2, hx104_3, hx104_4⟩ := at_T46 HR0.out x5_1 p104 q104
                have hw104_4 := hx104_4
                have hw104_3 := hx104_3
                have hw104_2 := hx104_2
                have hw104_1 := hx104_1
                have hw104_0 := hx104_0
                obtain rfl : ad101 = ad104 := (by injection e104)
                replace hx104_0 := px HB.out hx104_0
                replace hx104_1 := px HB.out hx104_1
                replace hx104_2 := px HB.out hx104_2
                replace hx104_3 := px HB.out hx104_3
                replace hx104_4 := px HB.out hx104_4
                replace p104 := eq_true p104
                replace q104 := eq_true q104
                refine start_ (n := 8) (S := fun w' => w'.cell? (ad101.add ((x5_1).toNat * 5)) = some (.string ((rd_T46 l0 x5_1).f0)) ∧ w'.cell? ⟨(ad101.add ((x5_1).toNat * 5)).block, (ad101.add ((x5_1).toNat * 5)).off + 1, none⟩ = some (.bool ((rd_T46 l0 x5_1).f1)) ∧ w'.cell? ⟨(ad101.add ((x5_1).toNat * 5)).block, (ad101.add ((x5_1).toNat * 5)).off + 2, none⟩ = some (.string ((rd_T46 l0 x5_1).f2)) ∧ w'.cell? ⟨(ad101.add ((x5_1).toNat * 5)).block, (ad101.add ((x5_1).toNat * 5)).off + 3, none⟩ = some (.string ((rd_T46 l0 x5_1).f3)) ∧ w'.cell? ⟨(ad101.add ((x5_1).toNat * 5)).block, (ad101.add ((x5_1).toNat * 5)).off + 4, none⟩ = some (.string ((rd_T46 l0 x5_1).f4))) (ds := []) _ (by kernel_rfl) rfl rfl ⟨(px HB.out hw104_0), (px HB.out hw104_1), (px HB.out hw104_2), (px HB.out hw104_3), (px HB.out hw104_4)⟩ (fun hHeld => ?_); refine with_tabW laws_heldAffixS.tab10 laws_heldAffixS.bits10 (fun HT_ HW_ => ?_)
                generalize w33.drew = w34 at HB hx104_0 hx104_1 hx104_2 hx104_3 hx104_4 hHeld ⊢
                refine ord_ [.p 0 33, .p 1 34, .p 2 35, .p 3 36, .p 5 38, .t 4 37] ?_
                repeat (first | (refine pu_ (v := ?_) (a' := ?_) HT_ rfl rfl (by kernel_rfl) (fun _ _ _ h => h) (by rfl) ?_ ?_ ?_; rotate_left 2; (intro w'; go_simp; with_reducible rfl); (simp only [Act.put, List.setIfInBounds_toArray, List.set_cons_zero, List.set_cons_succ, i64_w, i32_w]; rfl)) | (refine ta_ (v := ?_) (a' := ?_) HT_ HW_ rfl rfl (by kernel_rfl) (fun _ _ _ h => h) (by rfl) hHeld ?_ ?_ ?_; rotate_left 2; (rintro w' ⟨s0, s1, s2, s3, s4⟩; go_simp; with_reducible rfl); (simp only [Act.put, List.setIfInBounds_toArray, List.set_cons_zero, List.set_cons_succ, i64_w, i32_w]; rfl)))
                refine ord0 ?_
                refine on_ (i := 6) (N := some 39) HT_ rfl rfl (by kernel_rfl) (by decide) (fun K hK => ?_)
                refine goM gf57 #[.int .i64 (wrap64 ((wrap64 (x1_1 + 1)) + 1))] (by rfl) rfl rfl rfl ?_
                with_reducible refine (laws_markText.calls k1 (wrap64 ((wrap64 (x1_1 + 1)) + 1)) t105 _ A10.out).mono ?_
                rintro e w35 ⟨rfl, hb⟩
                refine ⟨_, rfl, ?_⟩
                replace HB := kB HB hb
                (try clear hb)
                (try clear hb2)
                (try clear hk)
                (try clear hi)
                refine hK.out _ _ ⟨(px HB.out hw104_0), (px HB.out hw104_1), (px HB.out hw104_2), (px HB.out hw104_3), (px HB.out hw104_4)⟩ (fun hHeld => ?_)
                clear hK K
                refine norm_ (a' := ?_) ?_ ?_
                rotate_left
                · show Act.put _ (some 39) _ = _
                  simp only [Act.put, List.setIfInBounds_toArray, List.set_cons_zero, List.set_cons_succ, i64_w, i32_w]
                  rfl
                refine ord_ [.p 7 40] ?_
                repeat (refine pu_ (v := ?_) (a' := ?_) HT_ rfl rfl (by kernel_rfl) (fun _ _ _ h => h) (by rfl) ?_ ?_ ?_; rotate_left 2; (intro w'; go_simp; with_reducible rfl); (simp only [Act.put, List.setIfInBounds_toArray, List.set_cons_zero, List.set_cons_succ, i64_w, i32_w]; rfl))
                refine ord0 ?_
                refine done_ (done_of HT_.out (by kernel_rfl)) ?_
                try go_wp2
                replace HB := Aside0.mk (below_drew1 HB.out)
                have p106 := of_decide_eq_true c4b0
                have q106 := of_decide_eq_true c3b0
                obtain ⟨ad106, e106, hx106_0, hx106_1, hx106_2, hx106_3, hx106_4⟩ := at_T46 HR0.out x5_1 p106 q106
                have hw106_4 := hx106_4
                have hw106_3 := hx106_3
                have hw106_2 := hx106_2
                have hw106_1 := hx106_1
                have hw106_0 := hx106_0
                obtain rfl : ad101 = ad106 := (by injection e106)
                replace hx106_0 := px HB.out hx106_0
                replace hx106_1 := px HB.out hx106_1
                replace hx106_2 := px HB.out hx106_2
                replace hx106_3 := px HB.out hx106_3
                replace hx106_4 := px HB.out hx106_4
                replace p106 := eq_true p106
                replace q106 := eq_true q106
                refine start_ (n := 8) (S := fun w' => w'.cell? (ad101.add ((x5_1).toNat * 5)) = some (.string ((rd_T46 l0 x5_1).f0)) ∧ w'.cell? ⟨(ad101.add ((x5_1).toNat * 5)).block, (ad101.add ((x5_1).toNat * 5)).off + 1, none⟩ = some (.bool ((rd_T46 l0 x5_1).f1)) ∧ w'.cell? ⟨(ad101.add ((x5_1).toNat * 5)).block, (ad101.add ((x5_1).toNat * 5)).off + 2, none⟩ = some (.string ((rd_T46 l0 x5_1).f2)) ∧ w'.cell? ⟨(ad101.add ((x5_1).toNat * 5)).block, (ad101.add ((x5_1).toNat * 5)).off + 3, none⟩ = some (.string ((rd_T46 l0 x5_1).f3)) ∧ w'.cell? ⟨(ad101.add ((x5_1).toNat * 5)).block, (ad101.add ((x5_1).toNat * 5)).off + 4, none⟩ = some (.string ((rd_T46 l0 x5_1).f4))) (ds := []) _ (by kernel_rfl) rfl rfl ⟨(px HB.out hw106_0), (px HB.out hw106_1), (px HB.out hw106_2), (px HB.out hw106_3), (px HB.out hw106_4)⟩ (fun hHeld => ?_); refine with_tabW laws_heldAffixS.tab13 laws_heldAffixS.bits13 (fun HT_ HW_ => ?_)
                generalize w35.drew = w36 at HB hx106_0 hx106_1 hx106_2 hx106_3 hx106_4 hHeld ⊢
                refine ord_ [.p 0 43, .p 1 44, .p 2 45, .p 3 46, .p 5 48, .t 4 47] ?_
                repeat (first | (refine pu_ (v := ?_) (a' := ?_) HT_ rfl rfl (by kernel_rfl) (fun _ _ _ h => h) (by rfl) ?_ ?_ ?_; rotate_left 2; (intro w'; go_simp; with_reducible rfl); (simp only [Act.put, List.setIfInBounds_toArray, List.set_cons_zero, List.set_cons_succ, i64_w, i32_w]; rfl)) | (refine ta_ (v := ?_) (a' := ?_) HT_ HW_ rfl rfl (by kernel_rfl) (fun _ _ _ h => h) (by rfl) hHeld ?_ ?_ ?_; rotate_left 2; (rintro w' ⟨s0, s1, s2, s3, s4⟩; go_simp; with_reducible rfl); (simp only [Act.put, List.setIfInBounds_toArray, List.set_cons_zero, List.set_cons_succ, i64_w, i32_w]; rfl)))
                refine ord0 ?_
                refine on_ (i := 6) (N := some 49) HT_ rfl rfl (by kernel_rfl) (by decide) (fun K hK => ?_)
                refine goM gf57 #[.int .i64 (wrap64 ((wrap64 ((wrap64 (x1_1 + 1)) + 1)) + 1))] (by rfl) rfl rfl rfl ?_
                with_reducible refine (laws_markText.calls k1 (wrap64 ((wrap64 ((wrap64 (x1_1 + 1)) + 1)) + 1)) t107 _ A12.out).mono ?_
                rintro e w37 ⟨rfl, hb⟩
                refine ⟨_, rfl, ?_⟩
                replace HB := kB HB hb
                (try clear hb)
                (try clear hb2)
                (try clear hk)
                (try clear hi)
                refine hK.out _ _ ⟨(px HB.out hw106_0), (px HB.out hw106_1), (px HB.out hw106_2), (px HB.out hw106_3), (px HB.out hw106_4)⟩ (fun hHeld => ?_)
                clear hK K
                refine norm_ (a' := ?_) ?_ ?_
                rotate_left
                · show Act.put _ (some 49) _ = _
                  simp only [Act.put, List.setIfInBounds_toArray, List.set_cons_zero, List.set_cons_succ, i64_w, i32_w]
                  rfl
                refine ord_ [.p 7 50] ?_
                repeat (refine pu_ (v := ?_) (a' := ?_) HT_ rfl rfl (by kernel_rfl) (fun _ _ _ h => h) (by rfl) ?_ ?_ ?_; rotate_left 2; (intro w'; go_simp; with_reducible rfl); (simp only [Act.put, List.setIfInBounds_toArray, List.set_cons_zero, List.set_cons_succ, i64_w, i32_w]; rfl))
                refine ord0 ?_
                refine done_ (done_of HT_.out (by kernel_rfl)) ?_
                try go_wp2
                go_ret
                exact ⟨by rfl, bx HB.out⟩
            · rw [if_neg c11] at H
              have c11b0 : (((rd_T46 l0 x5_1).f2).toList == t105.toList) = false := beq_eq_false_iff_ne.mpr c11
              have c11b1 : (((rd_T46 l0 x5_1).f2).toList != t105.toList) = true := bne_iff_ne.mpr c11
              obtain rfl := Option.some.inj H
              try go_wp2
              replace HB := Aside0.mk (below_drew1 HB.out)
              have p101 := of_decide_eq_true c4b0
              have q101 := of_decide_eq_true c3b0
              obtain ⟨ad101, e101, hx101_0, hx101_1, hx101_2, hx101_3, hx101_4⟩ := at_T46 HR0.out x5_1 p101 q101
              have hw101_4 := hx101_4
              have hw101_3 := hx101_3
              have hw101_2 := hx101_2
              have hw101_1 := hx101_1
              have hw101_0 := hx101_0
              cases e101
              replace hx101_0 := px HB.out hx101_0
              replace hx101_1 := px HB.out hx101_1
              replace hx101_2 := px HB.out hx101_2
              replace hx101_3 := px HB.out hx101_3
              replace hx101_4 := px HB.out hx101_4
              replace p101 := eq_true p101
              replace q101 := eq_true q101
              refine start_ (n := 8) (S := fun w' => w'.cell? (ad101.add ((x5_1).toNat * 5)) = some (.string ((rd_T46 l0 x5_1).f0)) ∧ w'.cell? ⟨(ad101.add ((x5_1).toNat * 5)).block, (ad101.add ((x5_1).toNat * 5)).off + 1, none⟩ = some (.bool ((rd_T46 l0 x5_1).f1)) ∧ w'.cell? ⟨(ad101.add ((x5_1).toNat * 5)).block, (ad101.add ((x5_1).toNat * 5)).off + 2, none⟩ = some (.string ((rd_T46 l0 x5_1).f2)) ∧ w'.cell? ⟨(ad101.add ((x5_1).toNat * 5)).block, (ad101.add ((x5_1).toNat * 5)).off + 3, none⟩ = some (.string ((rd_T46 l0 x5_1).f3)) ∧ w'.cell? ⟨(ad101.add ((x5_1).toNat * 5)).block, (ad101.add ((x5_1).toNat * 5)).off + 4, none⟩ = some (.string ((rd_T46 l0 x5_1).f4))) (ds := []) _ (by kernel_rfl) rfl rfl ⟨(px HB.out hw101_0), (px HB.out hw101_1), (px HB.out hw101_2), (px HB.out hw101_3), (px HB.out hw101_4)⟩ (fun hHeld => ?_); refine with_tabW laws_heldAffixS.tab4 laws_heldAffixS.bits4 (fun HT_ HW_ => ?_)
              generalize wr.drew = w38 at HB hx101_0 hx101_1 hx101_2 hx101_3 hx101_4 hHeld ⊢
              refine ord_ [.p 0 12, .p 1 13, .p 2 14, .p 3 15, .p 5 17, .t 4 16] ?_
              repeat (first | (refine pu_ (v := ?_) (a' := ?_) HT_ rfl rfl (by kernel_rfl) (fun _ _ _ h => h) (by rfl) ?_ ?_ ?_; rotate_left 2; (intro w'; go_simp; with_reducible rfl); (simp only [Act.put, List.setIfInBounds_toArray, List.set_cons_zero, List.set_cons_succ, i64_w, i32_w]; rfl)) | (refine ta_ (v := ?_) (a' := ?_) HT_ HW_ rfl rfl (by kernel_rfl) (fun _ _ _ h => h) (by rfl) hHeld ?_ ?_ ?_; rotate_left 2; (rintro w' ⟨s0, s1, s2, s3, s4⟩; go_simp; with_reducible rfl); (simp only [Act.put, List.setIfInBounds_toArray, List.set_cons_zero, List.set_cons_succ, i64_w, i32_w]; rfl)))
              refine ord0 ?_
              refine on_ (i := 6) (N := some 18) HT_ rfl rfl (by kernel_rfl) (by decide) (fun K hK => ?_)
              refine goM gf57 #[.int .i64 x1_1] (by rfl) rfl rfl rfl ?_
              with_reducible refine (laws_markText.calls k1 x1_1 t102 _ A5.out).mono ?_
              rintro e w39 ⟨rfl, hb⟩
              refine ⟨_, rfl, ?_⟩
              replace HB := kB HB hb
              (try clear hb)
              (try clear hb2)
              (try clear hk)
              (try clear hi)
              refine hK.out _ _ ⟨(px HB.out hw101_0), (px HB.out hw101_1), (px HB.out hw101_2), (px HB.out hw101_3), (px HB.out hw101_4)⟩ (fun hHeld => ?_)
              clear hK K
              refine norm_ (a' := ?_) ?_ ?_
              rotate_left
              · show Act.put _ (some 18) _ = _
                simp only [Act.put, List.setIfInBounds_toArray, List.set_cons_zero, List.set_cons_succ, i64_w, i32_w]
                rfl
              refine ord_ [.p 7 19] ?_
              repeat (refine pu_ (v := ?_) (a' := ?_) HT_ rfl rfl (by kernel_rfl) (fun _ _ _ h => h) (by rfl) ?_ ?_ ?_; rotate_left 2; (intro w'; go_simp; with_reducible rfl); (simp only [Act.put, List.setIfInBounds_toArray, List.set_cons_zero, List.set_cons_succ, i64_w, i32_w]; rfl))
              refine ord0 ?_
              refine done_ (done_of HT_.out (by kernel_rfl)) ?_
              have p103 := of_decide_eq_true c4b0
              have q103 := of_decide_eq_true c3b0
              obtain ⟨ad103, e103, hx103_0, hx103_1, hx103_2, hx103_3, hx103_4⟩ := at_T46 HR0.out x5_1 p103 q103
              obtain rfl : ad101 = ad103 := (by injection e103)
              replace hx103_0 := px HB.out hx103_0
              replace hx103_1 := px HB.out hx103_1
              replace hx103_2 := px HB.out hx103_2
              replace hx103_3 := px HB.out hx103_3
              replace hx103_4 := px HB.out hx103_4
              replace p103 := eq_true p103
              replace q103 := eq_true q103
              try go_wp2
              replace HB := Aside0.mk (below_drew1 HB.out)
              have p104 := of_decide_eq_true c4b0
              have q104 := of_decide_eq_true c3b0
              obtain ⟨ad104, e104, hx104_0, hx104_1, hx104_2, hx104_3, hx104_4⟩ := at_T46 HR0.out x5_1 p104 q104
              have hw104_4 := hx104_4
              have hw104_3 := hx104_3
              have hw104_2 := hx104_2
              have hw104_1 := hx104_1
              have hw104_0 := hx104_0
              obtain rfl : ad101 = ad104 := (by injection e104)
              replace hx104_0 := px HB.out hx104_0
              replace hx104_1 := px HB.out hx104_1
              replace hx104_2 := px HB.out hx104_2
              replace hx104_3 := px HB.out hx104_3
              replace hx104_4 := px HB.out hx104_4
              replace p104 := eq_true p104
              replace q104 := eq_true q104
              refine start_ (n := 8) (S := fun w' => w'.cell? (ad101.add ((x5_1).toNat * 5)) = some (.string ((rd_T46 l0 x5_1).f0)) ∧ w'.cell? ⟨(ad101.add ((x5_1).toNat * 5)).block, (ad101.add ((x5_1).toNat * 5)).off + 1, none⟩ = some (.bool ((rd_T46 l0 x5_1).f1)) ∧ w'.cell? ⟨(ad101.add ((x5_1).toNat * 5)).block, (ad101.add ((x5_1).toNat * 5)).off + 2, none⟩ = some (.string ((rd_T46 l0 x5_1).f2)) ∧ w'.cell? ⟨(ad101.add ((x5_1).toNat * 5)).block, (ad101.add ((x5_1).toNat * 5)).off + 3, none⟩ = some (.string ((rd_T46 l0 x5_1).f3)) ∧ w'.cell? ⟨(ad101.add ((x5_1).toNat * 5)).block, (ad101.add ((x5_1).toNat * 5)).off + 4, none⟩ = some (.string ((rd_T46 l0 x5_1).f4))) (ds := []) _ (by kernel_rfl) rfl rfl ⟨(px HB.out hw104_0), (px HB.out hw104_1), (px HB.out hw104_2), (px HB.out hw104_3), (px HB.out hw104_4)⟩ (fun hHeld => ?_); refine with_tabW laws_heldAffixS.tab10 laws_heldAffixS.bits10 (fun HT_ HW_ => ?_)
              generalize w39.drew = w40 at HB hx104_0 hx104_1 hx104_2 hx104_3 hx104_4 hHeld ⊢
              refine ord_ [.p 0 33, .p 1 34, .p 2 35, .p 3 36, .p 5 38, .t 4 37] ?_
              repeat (first | (refine pu_ (v := ?_) (a' := ?_) HT_ rfl rfl (by kernel_rfl) (fun _ _ _ h => h) (by rfl) ?_ ?_ ?_; rotate_left 2; (intro w'; go_simp; with_reducible rfl); (simp only [Act.put, List.setIfInBounds_toArray, List.set_cons_zero, List.set_cons_succ, i64_w, i32_w]; rfl)) | (refine ta_ (v := ?_) (a' := ?_) HT_ HW_ rfl rfl (by kernel_rfl) (fun _ _ _ h => h) (by rfl) hHeld ?_ ?_ ?_; rotate_left 2; (rintro w' ⟨s0, s1, s2, s3, s4⟩; go_simp; with_reducible rfl); (simp only [Act.put, List.setIfInBounds_toArray, List.set_cons_zero, List.set_cons_succ, i64_w, i32_w]; rfl)))
              refine ord0 ?_
              refine on_ (i := 6) (N := some 39) HT_ rfl rfl (by kernel_rfl) (by decide) (fun K hK => ?_)
              refine goM gf57 #[.int .i64 (wrap64 ((wrap64 (x1_1 + 1)) + 1))] (by rfl) rfl rfl rfl ?_
              with_reducible refine (laws_markText.calls k1 (wrap64 ((wrap64 (x1_1 + 1)) + 1)) t105 _ A10.out).mono ?_
              rintro e w41 ⟨rfl, hb⟩
              refine ⟨_, rfl, ?_⟩
              replace HB := kB HB hb
              (try clear hb)
              (try clear hb2)
              (try clear hk)
              (try clear hi)
              refine hK.out _ _ ⟨(px HB.out hw104_0), (px HB.out hw104_1), (px HB.out hw104_2), (px HB.out hw104_3), (px HB.out hw104_4)⟩ (fun hHeld => ?_)
              clear hK K
              refine norm_ (a' := ?_) ?_ ?_
              rotate_left
              · show Act.put _ (some 39) _ = _
                simp only [Act.put, List.setIfInBounds_toArray, List.set_cons_zero, List.set_cons_succ, i64_w, i32_w]
                rfl
              refine ord_ [.p 7 40] ?_
              repeat (refine pu_ (v := ?_) (a' := ?_) HT_ rfl rfl (by kernel_rfl) (fun _ _ _ h => h) (by rfl) ?_ ?_ ?_; rotate_left 2; (intro w'; go_simp; with_reducible rfl); (simp only [Act.put, List.setIfInBounds_toArray, List.set_cons_zero, List.set_cons_succ, i64_w, i32_w]; rfl))
              refine ord0 ?_
              refine done_ (done_of HT_.out (by kernel_rfl)) ?_
              try go_wp2
              go_ret
              exact ⟨by rfl, bx HB.out⟩
        · rw [if_neg c6] at H
          have c6b0 : (((rd_T46 l0 x5_1).f0).toList == t102.toList) = false := beq_eq_false_iff_ne.mpr c6
          have c6b1 : (((rd_T46 l0 x5_1).f0).toList != t102.toList) = true := bne_iff_ne.mpr c6
          obtain rfl := Option.some.inj H
          try go_wp2
          replace HB := Aside0.mk (below_drew1 HB.out)
          have p101 := of_decide_eq_true c4b0
          have q101 := of_decide_eq_true c3b0
          obtain ⟨ad101, e101, hx101_0, hx101_1, hx101_2, hx101_3, hx101_4⟩ := at_T46 HR0.out x5_1 p101 q101
          have hw101_4 := hx101_4
          have hw101_3 := hx101_3
          have hw101_2 := hx101_2
          have hw101_1 := hx101_1
          have hw101_0 := hx101_0
          cases e101
          replace hx101_0 := px HB.out hx101_0
          replace hx101_1 := px HB.out hx101_1
          replace hx101_2 := px HB.out hx101_2
          replace hx101_3 := px HB.out hx101_3
          replace hx101_4 := px HB.out hx101_4
          replace p101 := eq_true p101
          replace q101 := eq_true q101
          refine start_ (n := 8) (S := fun w' => w'.cell? (ad101.add ((x5_1).toNat * 5)) = some (.string ((rd_T46 l0 x5_1).f0)) ∧ w'.cell? ⟨(ad101.add ((x5_1).toNat * 5)).block, (ad101.add ((x5_1).toNat * 5)).off + 1, none⟩ = some (.bool ((rd_T46 l0 x5_1).f1)) ∧ w'.cell? ⟨(ad101.add ((x5_1).toNat * 5)).block, (ad101.add ((x5_1).toNat * 5)).off + 2, none⟩ = some (.string ((rd_T46 l0 x5_1).f2)) ∧ w'.cell? ⟨(ad101.add ((x5_1).toNat * 5)).block, (ad101.add ((x5_1).toNat * 5)).off + 3, none⟩ = some (.string ((rd_T46 l0 x5_1).f3)) ∧ w'.cell? ⟨(ad101.add ((x5_1).toNat * 5)).block, (ad101.add ((x5_1).toNat * 5)).off + 4, none⟩ = some (.string ((rd_T46 l0 x5_1).f4))) (ds := []) _ (by kernel_rfl) rfl rfl ⟨(px HB.out hw101_0), (px HB.out hw101_1), (px HB.out hw101_2), (px HB.out hw101_3), (px HB.out hw101_4)⟩ (fun hHeld => ?_); refine with_tabW laws_heldAffixS.tab4 laws_heldAffixS.bits4 (fun HT_ HW_ => ?_)
          generalize wr.drew = w42 at HB hx101_0 hx101_1 hx101_2 hx101_3 hx101_4 hHeld ⊢
          refine ord_ [.p 0 12, .p 1 13, .p 2 14, .p 3 15, .p 5 17, .t 4 16] ?_
          repeat (first | (refine pu_ (v := ?_) (a' := ?_) HT_ rfl rfl (by kernel_rfl) (fun _ _ _ h => h) (by rfl) ?_ ?_ ?_; rotate_left 2; (intro w'; go_simp; with_reducible rfl); (simp only [Act.put, List.setIfInBounds_toArray, List.set_cons_zero, List.set_cons_succ, i64_w, i32_w]; rfl)) | (refine ta_ (v := ?_) (a' := ?_) HT_ HW_ rfl rfl (by kernel_rfl) (fun _ _ _ h => h) (by rfl) hHeld ?_ ?_ ?_; rotate_left 2; (rintro w' ⟨s0, s1, s2, s3, s4⟩; go_simp; with_reducible rfl); (simp only [Act.put, List.setIfInBounds_toArray, List.set_cons_zero, List.set_cons_succ, i64_w, i32_w]; rfl)))
          refine ord0 ?_
          refine on_ (i := 6) (N := some 18) HT_ rfl rfl (by kernel_rfl) (by decide) (fun K hK => ?_)
          refine goM gf57 #[.int .i64 x1_1] (by rfl) rfl rfl rfl ?_
          with_reducible refine (laws_markText.calls k1 x1_1 t102 _ A5.out).mono ?_
          rintro e w43 ⟨rfl, hb⟩
          refine ⟨_, rfl, ?_⟩
          replace HB := kB HB hb
          (try clear hb)
          (try clear hb2)
          (try clear hk)
          (try clear hi)
          refine hK.out _ _ ⟨(px HB.out hw101_0), (px HB.out hw101_1), (px HB.out hw101_2), (px HB.out hw101_3), (px HB.out hw101_4)⟩ (fun hHeld => ?_)
          clear hK K
          refine norm_ (a' := ?_) ?_ ?_
          rotate_left
          · show Act.put _ (some 18) _ = _
            simp only [Act.put, List.setIfInBounds_toArray, List.set_cons_zero, List.set_cons_succ, i64_w, i32_w]
            rfl
          refine ord_ [.p 7 19] ?_
          repeat (refine pu_ (v := ?_) (a' := ?_) HT_ rfl rfl (by kernel_rfl) (fun _ _ _ h => h) (by rfl) ?_ ?_ ?_; rotate_left 2; (intro w'; go_simp; with_reducible rfl); (simp only [Act.put, List.setIfInBounds_toArray, List.set_cons_zero, List.set_cons_succ, i64_w, i32_w]; rfl))
          refine ord0 ?_
          refine done_ (done_of HT_.out (by kernel_rfl)) ?_
          try go_wp2
          go_ret
          exact ⟨by rfl, bx HB.out⟩
      · rw [if_neg c3] at H
        have c3b0 := decide_eq_false c3
        clear c3
        obtain rfl := Option.some.inj H
        go_wp2
        go_ret
        exact ⟨by rfl, bx HB.out⟩
end Go.Proofs.YtabindnaedchgaaDoor.M
end

section
-- Printed for this claim by a program (mprint.py) that uses the kit's print; Lean checks it.
namespace Go.Proofs.YtabindnaedchgaaDoor.M
open Go.RowKit Go.Proofs.YtabindnaedchgaaDoorW.PrintWords Go.Proofs.YtabindnaedchgaaDoorW.PrintLast Go.Proofs.YtabindnaedchgaaDoorW.PrintMore Go.Proofs.YtabindnaedchgaaDoor.Sq
set_option synthInstance.maxHeartbeats 2000000
set_option synthInstance.maxSize 4096
attribute [local go_sem] max2_int min2_int max_two min_two max_three min_three max_four min_four   -- for this text's walks alone
set_option linter.unusedVariables false
set_option linter.unusedSimpArgs false
theorem gf31 : Go_ Tryd.prog 31 Tryd.f31 := ⟨Tryd.func31, by kernel_rfl, rfl⟩
def laws_heldEntryS.l0 : Nat → List (S43) → Int → Int → Option (Int)
  | 0, _, _, _ => none
  | k + 1, x0, x1, x5 => if x5 < (x0.length : Int) then (if 0 ≤ x5 then ((laws_markText.f k x1).bind fun t102 => (if ((rd_T43 x0 x5).f0).toList = t102.toList then ((laws_markText.f k (wrap64 (x1 + 1))).bind fun t104 => (if ((rd_T43 x0 x5).f1).toList = t104.toList then (laws_heldEntryS.l0 k x0 (wrap64 ((wrap64 (x1 + 1)) + 1)) (wrap64 (x5 + 1))) else (some (-1)))) else (some (-1)))) else (none)) else (some x1)
def laws_heldEntryS.f (k : Nat) (l0 : List (S43)) (a1 : Int) : Option (Int) := laws_heldEntryS.l0 k l0 a1 0
theorem laws_heldEntryS.mono_l : ∀ k, (∀ y0 y1 y2, LeO (laws_heldEntryS.l0 k y0 y1 y2) (laws_heldEntryS.l0 (k + 1) y0 y1 y2))
  | 0 => fun _ _ _ r h => by simp [laws_heldEntryS.l0] at h
  | k + 1 => by
    have ih0 := laws_heldEntryS.mono_l k
    · intro y0 y1 y2
      unfold laws_heldEntryS.l0
      have I0_ := fun x0_ x1_ x2_ => LeC.mk (ih0 x0_ x1_ x2_)
      have I1_ := fun x0_ x1_ => LeC.mk (laws_markText.mono x0_ x1_)
      exact LeC.out
theorem laws_heldEntryS.mono : ∀ a0 a1 k, LeO (laws_heldEntryS.f k a0 a1) (laws_heldEntryS.f (k + 1) a0 a1) := by
  intro a0 a1 k
  have ih0 := laws_heldEntryS.mono_l k
  unfold laws_heldEntryS.f
  have I0_ := fun x0_ x1_ x2_ => LeC.mk (ih0 x0_ x1_ x2_)
  have I1_ := fun x0_ x1_ => LeC.mk (laws_markText.mono x0_ x1_)
  exact LeC.out
def laws_heldEntryS.T4 : Bool × List (List Nat × List Nat) := (true, [([], []), ([], []), ([0, 1], [0, 1]), ([2], [2]), ([3], [3]), ([], []), ([5], [5]), ([4, 6], [4, 6])])
def laws_heldEntryS.B4 : List Nat := [0, 0, 3, 7, 15, 0, 32, 127]
theorem laws_heldEntryS.tab4 : rtab .any (opsOf Tryd.f31 4) = laws_heldEntryS.T4 := by kernel_rfl
theorem laws_heldEntryS.bits4 : waitsOk laws_heldEntryS.T4.2 laws_heldEntryS.B4 = true := by kernel_rfl
def laws_heldEntryS.T7 : Bool × List (List Nat × List Nat) := (true, [([], []), ([], []), ([0, 1], [0, 1]), ([2], [2]), ([3], [3]), ([], []), ([5], [5]), ([4, 6], [4, 6])])
def laws_heldEntryS.B7 : List Nat := [0, 0, 3, 7, 15, 0, 32, 127]
theorem laws_heldEntryS.tab7 : rtab .any (opsOf Tryd.f31 7) = laws_heldEntryS.T7 := by kernel_rfl
theorem laws_heldEntryS.bits7 : waitsOk laws_heldEntryS.T7.2 laws_heldEntryS.B7 = true := by kernel_rfl
set_option maxHeartbeats 8000000 in
set_option maxRecDepth 100000 in
theorem laws_heldEntryS.calls (k : Nat) (A0 : Option Addr) (c0 : Nat) (l0 : List (S43)) (a1 : Int) (r : Int) (w : World) (hr0 : Kd.C k43 w A0 l0.length l0) (hc0 : l0.length ≤ c0) (h : laws_heldEntryS.f k l0 a1 = some r) :
    Calls Tryd.prog 31 #[.slice A0 l0.length c0, .int .i64 a1] w fun e w' => e = .returned (.int .i64 r) ∧ Below w.heap.size w w' := by
  have HR0 := Aside0.mk hr0
  have HC0 := Aside0.mk hc0
  clear hr0 hc0
  have HB := Aside0.mk (Below.refl w.heap.size w)
  unfold laws_heldEntryS.f at h
  have H := h
  clear h
  have H' := Aside0.mk H
  clear H
  go_enter Tryd.func31, Tryd.ntmps31
  go_wp2
  go_loopg [1, 5] k (fun kq v1 v5 w' => ∃ (x1_1 : Int) (x5_1 : Int), v1 = .int .i64 x1_1 ∧ v5 = .int .i64 x5_1 ∧ Aside0 (laws_heldEntryS.l0 kq l0 x1_1 x5_1 = some r) ∧ Aside0 (kq ≤ k) ∧ Aside0 (Below w.heap.size w w'))
  case atStart => exact ⟨(a1), (0), (by first | rfl | (simp; done) | (simp [*]; done)), (by first | rfl | (simp; done) | (simp [*]; done)), H', ⟨Nat.le_refl _⟩, ⟨bx HB.out⟩⟩
  case round =>
    clear H'
    try clear p2
    obtain ⟨x1_1, x5_1, rfl, rfl, HA, HK1, HB⟩ := hrel
    cases gk with
    | zero => exact absurd HA.out (by simp [laws_heldEntryS.l0])
    | succ k1 =>
      have H := HA.out
      clear HA
      simp only [laws_heldEntryS.l0] at H
      by_cases c3 : x5_1 < (l0.length : Int)
      · rw [if_pos c3] at H
        have c3b0 := decide_eq_true c3
        clear c3
        have c4 := ite_y H
        replace H := ite_t H
        have c4b0 := decide_eq_true c4
        clear c4
        replace H := Option.bind_eq_some_iff.mp H
        obtain ⟨t102, A50, H⟩ := H
        have A5 := Aside0.mk A50
        clear A50
        by_cases c6 : ((rd_T43 l0 x5_1).f0).toList = t102.toList
        · rw [if_pos c6] at H
          have c6b0 : (((rd_T43 l0 x5_1).f0).toList == t102.toList) = true := beq_iff_eq.mpr c6
          have c6b1 : (((rd_T43 l0 x5_1).f0).toList != t102.toList) = false := bne_eq_false_iff_eq.mpr c6
          clear c6
          replace H := Option.bind_eq_some_iff.mp H
          obtain ⟨t104, A70, H⟩ := H
          have A7 := Aside0.mk A70
          clear A70
          by_cases c8 : ((rd_T43 l0 x5_1).f1).toList = t104.toList
          · rw [if_pos c8] at H
            have c8b0 : (((rd_T43 l0 x5_1).f1).toList == t104.toList) = true := beq_iff_eq.mpr c8
            have c8b1 : (((rd_T43 l0 x5_1).f1).toList != t104.toList) = false := bne_eq_false_iff_eq.mpr c8
            clear c8
            have H' := Aside0.mk H
            clear H
            try go_wp2
            replace HB := Aside0.mk (below_drew1 HB.out)
            have p101 := of_decide_eq_true c4b0
            have q101 := of_decide_eq_true c3b0
            obtain ⟨ad101, e101, hx101_0, hx101_1⟩ := at_T43 HR0.out x5_1 p101 q101
            have hw101_1 := hx101_1
            have hw101_0 := hx101_0
            cases e101
            replace hx101_0 := px HB.out hx101_0
            replace hx101_1 := px HB.out hx101_1
            replace p101 := eq_true p101
            replace q101 := eq_true q101
            refine start_ (n := 8) (S := fun w' => w'.cell? (ad101.add ((x5_1).toNat * 2)) = some (.string ((rd_T43 l0 x5_1).f0)) ∧ w'.cell? ⟨(ad101.add ((x5_1).toNat * 2)).block, (ad101.add ((x5_1).toNat * 2)).off + 1, none⟩ = some (.string ((rd_T43 l0 x5_1).f1))) (ds := []) _ (by kernel_rfl) rfl rfl ⟨(px HB.out hw101_0), (px HB.out hw101_1)⟩ (fun hHeld => ?_); refine with_tabW laws_heldEntryS.tab4 laws_heldEntryS.bits4 (fun HT_ HW_ => ?_)
            generalize wr.drew = w9 at HB hx101_0 hx101_1 hHeld ⊢
            refine ord_ [.p 0 12, .p 1 13, .p 2 14, .p 3 15, .p 5 17, .t 4 16] ?_
            repeat (first | (refine pu_ (v := ?_) (a' := ?_) HT_ rfl rfl (by kernel_rfl) (fun _ _ _ h => h) (by rfl) ?_ ?_ ?_; rotate_left 2; (intro w'; go_simp; with_reducible rfl); (simp only [Act.put, List.setIfInBounds_toArray, List.set_cons_zero, List.set_cons_succ, i64_w, i32_w]; rfl)) | (refine ta_ (v := ?_) (a' := ?_) HT_ HW_ rfl rfl (by kernel_rfl) (fun _ _ _ h => h) (by rfl) hHeld ?_ ?_ ?_; rotate_left 2; (rintro w' ⟨s0, s1⟩; go_simp; with_reducible rfl); (simp only [Act.put, List.setIfInBounds_toArray, List.set_cons_zero, List.set_cons_succ, i64_w, i32_w]; rfl)))
            refine ord0 ?_
            refine on_ (i := 6) (N := some 18) HT_ rfl rfl (by kernel_rfl) (by decide) (fun K hK => ?_)
            refine goM gf57 #[.int .i64 x1_1] (by rfl) rfl rfl rfl ?_
            with_reducible refine (laws_markText.calls k1 x1_1 t102 _ A5.out).mono ?_
            rintro e w10 ⟨rfl, hb⟩
            refine ⟨_, rfl, ?_⟩
            replace HB := kB HB hb
            (try clear hb)
            (try clear hb2)
            (try clear hk)
            (try clear hi)
            refine hK.out _ _ ⟨(px HB.out hw101_0), (px HB.out hw101_1)⟩ (fun hHeld => ?_)
            clear hK K
            refine norm_ (a' := ?_) ?_ ?_
            rotate_left
            · show Act.put _ (some 18) _ = _
              simp only [Act.put, List.setIfInBounds_toArray, List.set_cons_zero, List.set_cons_succ, i64_w, i32_w]
              rfl
            refine ord_ [.p 7 19] ?_
            repeat (refine pu_ (v := ?_) (a' := ?_) HT_ rfl rfl (by kernel_rfl) (fun _ _ _ h => h) (by rfl) ?_ ?_ ?_; rotate_left 2; (intro w'; go_simp; with_reducible rfl); (simp only [Act.put, List.setIfInBounds_toArray, List.set_cons_zero, List.set_cons_succ, i64_w, i32_w]; rfl))
            refine ord0 ?_
            refine done_ (done_of HT_.out (by kernel_rfl)) ?_
            try go_wp2
            replace HB := Aside0.mk (below_drew1 HB.out)
            have p103 := of_decide_eq_true c4b0
            have q103 := of_decide_eq_true c3b0
            obtain ⟨ad103, e103, hx103_0, hx103_1⟩ := at_T43 HR0.out x5_1 p103 q103
            have hw103_1 := hx103_1
            have hw103_0 := hx103_0
            obtain rfl : ad101 = ad103 := (by injection e103)
            replace hx103_0 := px HB.out hx103_0
            replace hx103_1 := px HB.out hx103_1
            replace p103 := eq_true p103
            replace q103 := eq_true q103
            refine start_ (n := 8) (S := fun w' => w'.cell? (ad101.add ((x5_1).toNat * 2)) = some (.string ((rd_T43 l0 x5_1).f0)) ∧ w'.cell? ⟨(ad101.add ((x5_1).toNat * 2)).block, (ad101.add ((x5_1).toNat * 2)).off + 1, none⟩ = some (.string ((rd_T43 l0 x5_1).f1))) (ds := []) _ (by kernel_rfl) rfl rfl ⟨(px HB.out hw103_0), (px HB.out hw103_1)⟩ (fun hHeld => ?_); refine with_tabW laws_heldEntryS.tab7 laws_heldEntryS.bits7 (fun HT_ HW_ => ?_)
            generalize w10.drew = w11 at HB hx103_0 hx103_1 hHeld ⊢
            refine ord_ [.p 0 22, .p 1 23, .p 2 24, .p 3 25, .p 5 27, .t 4 26] ?_
            repeat (first | (refine pu_ (v := ?_) (a' := ?_) HT_ rfl rfl (by kernel_rfl) (fun _ _ _ h => h) (by rfl) ?_ ?_ ?_; rotate_left 2; (intro w'; go_simp; with_reducible rfl); (simp only [Act.put, List.setIfInBounds_toArray, List.set_cons_zero, List.set_cons_succ, i64_w, i32_w]; rfl)) | (refine ta_ (v := ?_) (a' := ?_) HT_ HW_ rfl rfl (by kernel_rfl) (fun _ _ _ h => h) (by rfl) hHeld ?_ ?_ ?_; rotate_left 2; (rintro w' ⟨s0, s1⟩; go_simp; with_reducible rfl); (simp only [Act.put, List.setIfInBounds_toArray, List.set_cons_zero, List.set_cons_succ, i64_w, i32_w]; rfl)))
            refine ord0 ?_
            refine on_ (i := 6) (N := some 28) HT_ rfl rfl (by kernel_rfl) (by decide) (fun K hK => ?_)
            refine goM gf57 #[.int .i64 (wrap64 (x1_1 + 1))] (by rfl) rfl rfl rfl ?_
            with_reducible refine (laws_markText.calls k1 (wrap64 (x1_1 + 1)) t104 _ A7.out).mono ?_
            rintro e w12 ⟨rfl, hb⟩
            refine ⟨_, rfl, ?_⟩
            replace HB := kB HB hb
            (try clear hb)
            (try clear hb2)
            (try clear hk)
            (try clear hi)
            refine hK.out _ _ ⟨(px HB.out hw103_0), (px HB.out hw103_1)⟩ (fun hHeld => ?_)
            clear hK K
            refine norm_ (a' := ?_) ?_ ?_
            rotate_left
            · show Act.put _ (some 28) _ = _
              simp only [Act.put, List.setIfInBounds_toArray, List.set_cons_zero, List.set_cons_succ, i64_w, i32_w]
              rfl
            refine ord_ [.p 7 29] ?_
            repeat (refine pu_ (v := ?_) (a' := ?_) HT_ rfl rfl (by kernel_rfl) (fun _ _ _ h => h) (by rfl) ?_ ?_ ?_; rotate_left 2; (intro w'; go_simp; with_reducible rfl); (simp only [Act.put, List.setIfInBounds_toArray, List.set_cons_zero, List.set_cons_succ, i64_w, i32_w]; rfl))
            refine ord0 ?_
            refine done_ (done_of HT_.out (by kernel_rfl)) ?_
            try go_wp2
            go_roundg k1
            case measure => have := HK1.out; omega
            case rel => exact ⟨(wrap64 ((wrap64 (x1_1 + 1)) + 1)), (wrap64 (x5_1 + 1)), (by first | rfl | (simp; done) | (simp [*]; done)), (by first | rfl | (simp; done) | (simp [*]; done)), H', ⟨by have := HK1.out; omega⟩, ⟨bx HB.out⟩⟩
          · rw [if_neg c8] at H
            have c8b0 : (((rd_T43 l0 x5_1).f1).toList == t104.toList) = false := beq_eq_false_iff_ne.mpr c8
            have c8b1 : (((rd_T43 l0 x5_1).f1).toList != t104.toList) = true := bne_iff_ne.mpr c8
            obtain rfl := Option.some.inj H
            try go_wp2
            replace HB := Aside0.mk (below_drew1 HB.out)
            have p101 := of_decide_eq_true c4b0
            have q101 := of_decide_eq_true c3b0
            obtain ⟨ad101, e101, hx101_0, hx101_1⟩ := at_T43 HR0.out x5_1 p101 q101
            have hw101_1 := hx101_1
            have hw101_0 := hx101_0
            cases e101
            replace hx101_0 := px HB.out hx101_0
            replace hx101_1 := px HB.out hx101_1
            replace p101 := eq_true p101
            replace q101 := eq_true q101
            refine start_ (n := 8) (S := fun w' => w'.cell? (ad101.add ((x5_1).toNat * 2)) = some (.string ((rd_T43 l0 x5_1).f0)) ∧ w'.cell? ⟨(ad101.add ((x5_1).toNat * 2)).block, (ad101.add ((x5_1).toNat * 2)).off + 1, none⟩ = some (.string ((rd_T43 l0 x5_1).f1))) (ds := []) _ (by kernel_rfl) rfl rfl ⟨(px HB.out hw101_0), (px HB.out hw101_1)⟩ (fun hHeld => ?_); refine with_tabW laws_heldEntryS.tab4 laws_heldEntryS.bits4 (fun HT_ HW_ => ?_)
            generalize wr.drew = w13 at HB hx101_0 hx101_1 hHeld ⊢
            refine ord_ [.p 0 12, .p 1 13, .p 2 14, .p 3 15, .p 5 17, .t 4 16] ?_
            repeat (first | (refine pu_ (v := ?_) (a' := ?_) HT_ rfl rfl (by kernel_rfl) (fun _ _ _ h => h) (by rfl) ?_ ?_ ?_; rotate_left 2; (intro w'; go_simp; with_reducible rfl); (simp only [Act.put, List.setIfInBounds_toArray, List.set_cons_zero, List.set_cons_succ, i64_w, i32_w]; rfl)) | (refine ta_ (v := ?_) (a' := ?_) HT_ HW_ rfl rfl (by kernel_rfl) (fun _ _ _ h => h) (by rfl) hHeld ?_ ?_ ?_; rotate_left 2; (rintro w' ⟨s0, s1⟩; go_simp; with_reducible rfl); (simp only [Act.put, List.setIfInBounds_toArray, List.set_cons_zero, List.set_cons_succ, i64_w, i32_w]; rfl)))
            refine ord0 ?_
            refine on_ (i := 6) (N := some 18) HT_ rfl rfl (by kernel_rfl) (by decide) (fun K hK => ?_)
            refine goM gf57 #[.int .i64 x1_1] (by rfl) rfl rfl rfl ?_
            with_reducible refine (laws_markText.calls k1 x1_1 t102 _ A5.out).mono ?_
            rintro e w14 ⟨rfl, hb⟩
            refine ⟨_, rfl, ?_⟩
            replace HB := kB HB hb
            (try clear hb)
            (try clear hb2)
            (try clear hk)
            (try clear hi)
            refine hK.out _ _ ⟨(px HB.out hw101_0), (px HB.out hw101_1)⟩ (fun hHeld => ?_)
            clear hK K
            refine norm_ (a' := ?_) ?_ ?_
            rotate_left
            · show Act.put _ (some 18) _ = _
              simp only [Act.put, List.setIfInBounds_toArray, List.set_cons_zero, List.set_cons_succ, i64_w, i32_w]
              rfl
            refine ord_ [.p 7 19] ?_
            repeat (refine pu_ (v := ?_) (a' := ?_) HT_ rfl rfl (by kernel_rfl) (fun _ _ _ h => h) (by rfl) ?_ ?_ ?_; rotate_left 2; (intro w'; go_simp; with_reducible rfl); (simp only [Act.put, List.setIfInBounds_toArray, List.set_cons_zero, List.set_cons_succ, i64_w, i32_w]; rfl))
            refine ord0 ?_
            refine done_ (done_of HT_.out (by kernel_rfl)) ?_
            try go_wp2
            replace HB := Aside0.mk (below_drew1 HB.out)
            have p103 := of_decide_eq_true c4b0
            have q103 := of_decide_eq_true c3b0
            obtain ⟨ad103, e103, hx103_0, hx103_1⟩ := at_T43 HR0.out x5_1 p103 q103
            have hw103_1 := hx103_1
            have hw103_0 := hx103_0
            obtain rfl : ad101 = ad103 := (by injection e103)
            replace hx103_0 := px HB.out hx103_0
            replace hx103_1 := px HB.out hx103_1
            replace p103 := eq_true p103
            replace q103 := eq_true q103
            refine start_ (n := 8) (S := fun w' => w'.cell? (ad101.add ((x5_1).toNat * 2)) = some (.string ((rd_T43 l0 x5_1).f0)) ∧ w'.cell? ⟨(ad101.add ((x5_1).toNat * 2)).block, (ad101.add ((x5_1).toNat * 2)).off + 1, none⟩ = some (.string ((rd_T43 l0 x5_1).f1))) (ds := []) _ (by kernel_rfl) rfl rfl ⟨(px HB.out hw103_0), (px HB.out hw103_1)⟩ (fun hHeld => ?_); refine with_tabW laws_heldEntryS.tab7 laws_heldEntryS.bits7 (fun HT_ HW_ => ?_)
            generalize w14.drew = w15 at HB hx103_0 hx103_1 hHeld ⊢
            refine ord_ [.p 0 22, .p 1 23, .p 2 24, .p 3 25, .p 5 27, .t 4 26] ?_
            repeat (first | (refine pu_ (v := ?_) (a' := ?_) HT_ rfl rfl (by kernel_rfl) (fun _ _ _ h => h) (by rfl) ?_ ?_ ?_; rotate_left 2; (intro w'; go_simp; with_reducible rfl); (simp only [Act.put, List.setIfInBounds_toArray, List.set_cons_zero, List.set_cons_succ, i64_w, i32_w]; rfl)) | (refine ta_ (v := ?_) (a' := ?_) HT_ HW_ rfl rfl (by kernel_rfl) (fun _ _ _ h => h) (by rfl) hHeld ?_ ?_ ?_; rotate_left 2; (rintro w' ⟨s0, s1⟩; go_simp; with_reducible rfl); (simp only [Act.put, List.setIfInBounds_toArray, List.set_cons_zero, List.set_cons_succ, i64_w, i32_w]; rfl)))
            refine ord0 ?_
            refine on_ (i := 6) (N := some 28) HT_ rfl rfl (by kernel_rfl) (by decide) (fun K hK => ?_)
            refine goM gf57 #[.int .i64 (wrap64 (x1_1 + 1))] (by rfl) rfl rfl rfl ?_
            with_reducible refine (laws_markText.calls k1 (wrap64 (x1_1 + 1)) t104 _ A7.out).mono ?_
            rintro e w16 ⟨rfl, hb⟩
            refine ⟨_, rfl, ?_⟩
            replace HB := kB HB hb
            (try clear hb)
            (try clear hb2)
            (try clear hk)
            (try clear hi)
            refine hK.out _ _ ⟨(px HB.out hw103_0), (px HB.out hw103_1)⟩ (fun hHeld => ?_)
            clear hK K
            refine norm_ (a' := ?_) ?_ ?_
            rotate_left
            · show Act.put _ (some 28) _ = _
              simp only [Act.put, List.setIfInBounds_toArray, List.set_cons_zero, List.set_cons_succ, i64_w, i32_w]
              rfl
            refine ord_ [.p 7 29] ?_
            repeat (refine pu_ (v := ?_) (a' := ?_) HT_ rfl rfl (by kernel_rfl) (fun _ _ _ h => h) (by rfl) ?_ ?_ ?_; rotate_left 2; (intro w'; go_simp; with_reducible rfl); (simp only [Act.put, List.setIfInBounds_toArray, List.set_cons_zero, List.set_cons_succ, i64_w, i32_w]; rfl))
            refine ord0 ?_
            refine done_ (done_of HT_.out (by kernel_rfl)) ?_
            try go_wp2
            go_ret
            exact ⟨by rfl, bx HB.out⟩
        · rw [if_neg c6] at H
          have c6b0 : (((rd_T43 l0 x5_1).f0).toList == t102.toList) = false := beq_eq_false_iff_ne.mpr c6
          have c6b1 : (((rd_T43 l0 x5_1).f0).toList != t102.toList) = true := bne_iff_ne.mpr c6
          obtain rfl := Option.some.inj H
          try go_wp2
          replace HB := Aside0.mk (below_drew1 HB.out)
          have p101 := of_decide_eq_true c4b0
          have q101 := of_decide_eq_true c3b0
          obtain ⟨ad101, e101, hx101_0, hx101_1⟩ := at_T43 HR0.out x5_1 p101 q101
          have hw101_1 := hx101_1
          have hw101_0 := hx101_0
          cases e101
          replace hx101_0 := px HB.out hx101_0
          replace hx101_1 := px HB.out hx101_1
          replace p101 := eq_true p101
          replace q101 := eq_true q101
          refine start_ (n := 8) (S := fun w' => w'.cell? (ad101.add ((x5_1).toNat * 2)) = some (.string ((rd_T43 l0 x5_1).f0)) ∧ w'.cell? ⟨(ad101.add ((x5_1).toNat * 2)).block, (ad101.add ((x5_1).toNat * 2)).off + 1, none⟩ = some (.string ((rd_T43 l0 x5_1).f1))) (ds := []) _ (by kernel_rfl) rfl rfl ⟨(px HB.out hw101_0), (px HB.out hw101_1)⟩ (fun hHeld => ?_); refine with_tabW laws_heldEntryS.tab4 laws_heldEntryS.bits4 (fun HT_ HW_ => ?_)
          generalize wr.drew = w17 at HB hx101_0 hx101_1 hHeld ⊢
          refine ord_ [.p 0 12, .p 1 13, .p 2 14, .p 3 15, .p 5 17, .t 4 16] ?_
          repeat (first | (refine pu_ (v := ?_) (a' := ?_) HT_ rfl rfl (by kernel_rfl) (fun _ _ _ h => h) (by rfl) ?_ ?_ ?_; rotate_left 2; (intro w'; go_simp; with_reducible rfl); (simp only [Act.put, List.setIfInBounds_toArray, List.set_cons_zero, List.set_cons_succ, i64_w, i32_w]; rfl)) | (refine ta_ (v := ?_) (a' := ?_) HT_ HW_ rfl rfl (by kernel_rfl) (fun _ _ _ h => h) (by rfl) hHeld ?_ ?_ ?_; rotate_left 2; (rintro w' ⟨s0, s1⟩; go_simp; with_reducible rfl); (simp only [Act.put, List.setIfInBounds_toArray, List.set_cons_zero, List.set_cons_succ, i64_w, i32_w]; rfl)))
          refine ord0 ?_
          refine on_ (i := 6) (N := some 18) HT_ rfl rfl (by kernel_rfl) (by decide) (fun K hK => ?_)
          refine goM gf57 #[.int .i64 x1_1] (by rfl) rfl rfl rfl ?_
          with_reducible refine (laws_markText.calls k1 x1_1 t102 _ A5.out).mono ?_
          rintro e w18 ⟨rfl, hb⟩
          refine ⟨_, rfl, ?_⟩
          replace HB := kB HB hb
          (try clear hb)
          (try clear hb2)
          (try clear hk)
          (try clear hi)
          refine hK.out _ _ ⟨(px HB.out hw101_0), (px HB.out hw101_1)⟩ (fun hHeld => ?_)
          clear hK K
          refine norm_ (a' := ?_) ?_ ?_
          rotate_left
          · show Act.put _ (some 18) _ = _
            simp only [Act.put, List.setIfInBounds_toArray, List.set_cons_zero, List.set_cons_succ, i64_w, i32_w]
            rfl
          refine ord_ [.p 7 19] ?_
          repeat (refine pu_ (v := ?_) (a' := ?_) HT_ rfl rfl (by kernel_rfl) (fun _ _ _ h => h) (by rfl) ?_ ?_ ?_; rotate_left 2; (intro w'; go_simp; with_reducible rfl); (simp only [Act.put, List.setIfInBounds_toArray, List.set_cons_zero, List.set_cons_succ, i64_w, i32_w]; rfl))
          refine ord0 ?_
          refine done_ (done_of HT_.out (by kernel_rfl)) ?_
          try go_wp2
          go_ret
          exact ⟨by rfl, bx HB.out⟩
      · rw [if_neg c3] at H
        have c3b0 := decide_eq_false c3
        clear c3
        obtain rfl := Option.some.inj H
        go_wp2
        go_ret
        exact ⟨by rfl, bx HB.out⟩
end Go.Proofs.YtabindnaedchgaaDoor.M
end

section
-- Printed for this claim by a program (mprint.py) that uses the kit's print; Lean checks it.
namespace Go.Proofs.YtabindnaedchgaaDoor.M
open Go.RowKit Go.Proofs.YtabindnaedchgaaDoorW.PrintWords Go.Proofs.YtabindnaedchgaaDoorW.PrintLast Go.Proofs.YtabindnaedchgaaDoorW.PrintMore Go.Proofs.YtabindnaedchgaaDoor.Sq
set_option synthInstance.maxHeartbeats 2000000
set_option synthInstance.maxSize 4096
attribute [local go_sem] max2_int min2_int max_two min_two max_three min_three max_four min_four   -- for this text's walks alone
set_option linter.unusedVariables false
set_option linter.unusedSimpArgs false
theorem gf30 : Go_ Tryd.prog 30 Tryd.f30 := ⟨Tryd.func30, by kernel_rfl, rfl⟩
def laws_heldStringS.l0 : Nat → List ByteArray → Int → Int → Option (Int)
  | 0, _, _, _ => none
  | k + 1, x0, x1, x5 => if x5 < (x0.length : Int) then (if 0 ≤ x5 then ((laws_markText.f k x1).bind fun t102 => (if (rdOf ByteArray.empty x0 x5).toList = t102.toList then (laws_heldStringS.l0 k x0 (wrap64 (x1 + 1)) (wrap64 (x5 + 1))) else (some (-1)))) else (none)) else (some x1)
def laws_heldStringS.f (k : Nat) (l0 : List ByteArray) (a1 : Int) : Option (Int) := laws_heldStringS.l0 k l0 a1 0
theorem laws_heldStringS.mono_l : ∀ k, (∀ y0 y1 y2, LeO (laws_heldStringS.l0 k y0 y1 y2) (laws_heldStringS.l0 (k + 1) y0 y1 y2))
  | 0 => fun _ _ _ r h => by simp [laws_heldStringS.l0] at h
  | k + 1 => by
    have ih0 := laws_heldStringS.mono_l k
    · intro y0 y1 y2
      unfold laws_heldStringS.l0
      have I0_ := fun x0_ x1_ x2_ => LeC.mk (ih0 x0_ x1_ x2_)
      have I1_ := fun x0_ x1_ => LeC.mk (laws_markText.mono x0_ x1_)
      exact LeC.out
theorem laws_heldStringS.mono : ∀ a0 a1 k, LeO (laws_heldStringS.f k a0 a1) (laws_heldStringS.f (k + 1) a0 a1) := by
  intro a0 a1 k
  have ih0 := laws_heldStringS.mono_l k
  unfold laws_heldStringS.f
  have I0_ := fun x0_ x1_ x2_ => LeC.mk (ih0 x0_ x1_ x2_)
  have I1_ := fun x0_ x1_ => LeC.mk (laws_markText.mono x0_ x1_)
  exact LeC.out
set_option maxHeartbeats 8000000 in
set_option maxRecDepth 100000 in
theorem laws_heldStringS.calls (k : Nat) (A0 : Option Addr) (c0 : Nat) (l0 : List ByteArray) (a1 : Int) (r : Int) (w : World) (hr0 : Kd.C Kd.string w A0 l0.length l0) (hc0 : l0.length ≤ c0) (h : laws_heldStringS.f k l0 a1 = some r) :
    Calls Tryd.prog 30 #[.slice A0 l0.length c0, .int .i64 a1] w fun e w' => e = .returned (.int .i64 r) ∧ Below w.heap.size w w' := by
  have HR0 := Aside0.mk hr0
  have HC0 := Aside0.mk hc0
  clear hr0 hc0
  have HB := Aside0.mk (Below.refl w.heap.size w)
  unfold laws_heldStringS.f at h
  have H := h
  clear h
  have H' := Aside0.mk H
  clear H
  go_enter Tryd.func30, Tryd.ntmps30
  go_wp2
  go_loopg [1, 5] k (fun kq v1 v5 w' => ∃ (x1_1 : Int) (x5_1 : Int), v1 = .int .i64 x1_1 ∧ v5 = .int .i64 x5_1 ∧ Aside0 (laws_heldStringS.l0 kq l0 x1_1 x5_1 = some r) ∧ Aside0 (kq ≤ k) ∧ Aside0 (Below w.heap.size w w'))
  case atStart => exact ⟨(a1), (0), (by first | rfl | (simp; done) | (simp [*]; done)), (by first | rfl | (simp; done) | (simp [*]; done)), H', ⟨Nat.le_refl _⟩, ⟨bx HB.out⟩⟩
  case round =>
    clear H'
    try clear p2
    obtain ⟨x1_1, x5_1, rfl, rfl, HA, HK1, HB⟩ := hrel
    cases gk with
    | zero => exact absurd HA.out (by simp [laws_heldStringS.l0])
    | succ k1 =>
      have H := HA.out
      clear HA
      simp only [laws_heldStringS.l0] at H
      by_cases c3 : x5_1 < (l0.length : Int)
      · rw [if_pos c3] at H
        have c3b0 := decide_eq_true c3
        clear c3
        have c4 := ite_y H
        replace H := ite_t H
        have c4b0 := decide_eq_true c4
        clear c4
        replace H := Option.bind_eq_some_iff.mp H
        obtain ⟨t102, A50, H⟩ := H
        have A5 := Aside0.mk A50
        clear A50
        by_cases c6 : (rdOf ByteArray.empty l0 x5_1).toList = t102.toList
        · rw [if_pos c6] at H
          have c6b0 : ((rdOf ByteArray.empty l0 x5_1).toList == t102.toList) = true := beq_iff_eq.mpr c6
          have c6b1 : ((rdOf ByteArray.empty l0 x5_1).toList != t102.toList) = false := bne_eq_false_iff_eq.mpr c6
          clear c6
          have H' := Aside0.mk H
          clear H
          try go_wp2
          replace HB := Aside0.mk (below_drew1 HB.out)
          have p101 := of_decide_eq_true c4b0
          have q101 := of_decide_eq_true c3b0
          obtain ⟨ad101, e101, hx101_0⟩ := Kd.at_string HR0.out x5_1 p101 q101
          have hw101_0 := hx101_0
          cases e101
          replace hx101_0 := px HB.out hx101_0
          replace p101 := eq_true p101
          replace q101 := eq_true q101
          refine start_ (n := 7) (S := fun w' => w'.cell? (ad101.add (x5_1).toNat) = some (.string (rdOf ByteArray.empty l0 x5_1))) (ds := []) _ (by kernel_rfl) rfl rfl ((px HB.out hw101_0)) (fun hHeld => ?_)
          generalize wr.drew = w7 at HB hx101_0 hHeld ⊢
          refine pure_ (i := 0) (N := some 12) (v := ?_) (a' := ?_) #[true, false, false, false, false, false, false] rfl rfl (by kernel_rfl) (fun _ _ _ h => h) (Or.inl ⟨by rfl, ?_⟩) ?_ ?_
          rotate_left
          · intro w'
            go_simp
            with_reducible rfl
          rotate_left
          · simp only [Act.put, List.setIfInBounds_toArray, List.set_cons_zero, List.set_cons_succ, i64_w, i32_w]
            rfl
          refine pure_ (i := 1) (N := some 13) (v := ?_) (a' := ?_) #[true, true, false, false, false, false, false] rfl rfl (by kernel_rfl) (fun _ _ _ h => h) (Or.inl ⟨by rfl, ?_⟩) ?_ ?_
          rotate_left
          · intro w'
            go_simp
            with_reducible rfl
          rotate_left
          · simp only [Act.put, List.setIfInBounds_toArray, List.set_cons_zero, List.set_cons_succ, i64_w, i32_w]
            rfl
          refine pure_ (i := 2) (N := some 14) (v := ?_) (a' := ?_) #[true, true, true, false, false, false, false] rfl rfl (by kernel_rfl) (fun _ _ _ h => h) (Or.inl ⟨by rfl, ?_⟩) ?_ ?_
          rotate_left
          · intro w'
            go_simp
            with_reducible rfl
          rotate_left
          · simp only [Act.put, List.setIfInBounds_toArray, List.set_cons_zero, List.set_cons_succ, i64_w, i32_w]
            rfl
          refine pure_ (i := 4) (N := some 16) (v := ?_) (a' := ?_) #[true, true, true, false, true, false, false] rfl rfl (by kernel_rfl) (fun _ _ _ h => h) (Or.inl ⟨by rfl, ?_⟩) ?_ ?_
          rotate_left
          · intro w'
            go_simp
            with_reducible rfl
          rotate_left
          · simp only [Act.put, List.setIfInBounds_toArray, List.set_cons_zero, List.set_cons_succ, i64_w, i32_w]
            rfl
          refine take_ (i := 3) (N := some 15) (v := ?_) (a' := ?_) #[true, true, true, true, true, false, false] rfl rfl (by kernel_rfl) (fun _ _ _ h => h) (Or.inl ⟨by rfl, ?_⟩) hHeld ?_ ?_
          rotate_left
          · intro w' s0
            go_simp
            with_reducible rfl
          rotate_left
          · simp only [Act.put, List.setIfInBounds_toArray, List.set_cons_zero, List.set_cons_succ, i64_w, i32_w]
            rfl
          refine one_ (i := 5) (N := some 17) #[true, true, true, true, true, true, false] rfl rfl (by kernel_rfl) (by decide) (fun K hK => ?_)
          refine goM gf57 #[.int .i64 x1_1] (by rfl) rfl rfl rfl ?_
          with_reducible refine (laws_markText.calls k1 x1_1 t102 _ A5.out).mono ?_
          rintro e w8 ⟨rfl, hb⟩
          refine ⟨_, rfl, ?_⟩
          replace HB := kB HB hb
          (try clear hb)
          (try clear hb2)
          (try clear hk)
          (try clear hi)
          refine hK.out _ _ ((px HB.out hw101_0)) (fun hHeld => ?_)
          clear hK K
          refine norm_ (a' := ?_) ?_ ?_
          rotate_left
          · show Act.put _ (some 17) _ = _
            simp only [Act.put, List.setIfInBounds_toArray, List.set_cons_zero, List.set_cons_succ, i64_w, i32_w]
            rfl
          refine pure_ (i := 6) (N := some 18) (v := ?_) (a' := ?_) #[true, true, true, true, true, true, true] rfl rfl (by kernel_rfl) (fun _ _ _ h => h) (Or.inl ⟨by rfl, ?_⟩) ?_ ?_
          rotate_left
          · intro w'
            go_simp
            with_reducible rfl
          rotate_left
          · simp only [Act.put, List.setIfInBounds_toArray, List.set_cons_zero, List.set_cons_succ, i64_w, i32_w]
            rfl
          refine done_ (by kernel_rfl) ?_
          try go_wp2
          go_roundg k1
          case measure => have := HK1.out; omega
          case rel => exact ⟨(wrap64 (x1_1 + 1)), (wrap64 (x5_1 + 1)), (by first | rfl | (simp; done) | (simp [*]; done)), (by first | rfl | (simp; done) | (simp [*]; done)), H', ⟨by have := HK1.out; omega⟩, ⟨bx HB.out⟩⟩
        · rw [if_neg c6] at H
          have c6b0 : ((rdOf ByteArray.empty l0 x5_1).toList == t102.toList) = false := beq_eq_false_iff_ne.mpr c6
          have c6b1 : ((rdOf ByteArray.empty l0 x5_1).toList != t102.toList) = true := bne_iff_ne.mpr c6
          obtain rfl := Option.some.inj H
          try go_wp2
          replace HB := Aside0.mk (below_drew1 HB.out)
          have p101 := of_decide_eq_true c4b0
          have q101 := of_decide_eq_true c3b0
          obtain ⟨ad101, e101, hx101_0⟩ := Kd.at_string HR0.out x5_1 p101 q101
          have hw101_0 := hx101_0
          cases e101
          replace hx101_0 := px HB.out hx101_0
          replace p101 := eq_true p101
          replace q101 := eq_true q101
          refine start_ (n := 7) (S := fun w' => w'.cell? (ad101.add (x5_1).toNat) = some (.string (rdOf ByteArray.empty l0 x5_1))) (ds := []) _ (by kernel_rfl) rfl rfl ((px HB.out hw101_0)) (fun hHeld => ?_)
          generalize wr.drew = w9 at HB hx101_0 hHeld ⊢
          refine pure_ (i := 0) (N := some 12) (v := ?_) (a' := ?_) #[true, false, false, false, false, false, false] rfl rfl (by kernel_rfl) (fun _ _ _ h => h) (Or.inl ⟨by rfl, ?_⟩) ?_ ?_
          rotate_left
          · intro w'
            go_simp
            with_reducible rfl
          rotate_left
          · simp only [Act.put, List.setIfInBounds_toArray, List.set_cons_zero, List.set_cons_succ, i64_w, i32_w]
            rfl
          refine pure_ (i := 1) (N := some 13) (v := ?_) (a' := ?_) #[true, true, false, false, false, false, false] rfl rfl (by kernel_rfl) (fun _ _ _ h => h) (Or.inl ⟨by rfl, ?_⟩) ?_ ?_
          rotate_left
          · intro w'
            go_simp
            with_reducible rfl
          rotate_left
          · simp only [Act.put, List.setIfInBounds_toArray, List.set_cons_zero, List.set_cons_succ, i64_w, i32_w]
            rfl
          refine pure_ (i := 2) (N := some 14) (v := ?_) (a' := ?_) #[true, true, true, false, false, false, false] rfl rfl (by kernel_rfl) (fun _ _ _ h => h) (Or.inl ⟨by rfl, ?_⟩) ?_ ?_
          rotate_left
          · intro w'
            go_simp
            with_reducible rfl
          rotate_left
          · simp only [Act.put, List.setIfInBounds_toArray, List.set_cons_zero, List.set_cons_succ, i64_w, i32_w]
            rfl
          refine pure_ (i := 4) (N := some 16) (v := ?_) (a' := ?_) #[true, true, true, false, true, false, false] rfl rfl (by kernel_rfl) (fun _ _ _ h => h) (Or.inl ⟨by rfl, ?_⟩) ?_ ?_
          rotate_left
          · intro w'
            go_simp
            with_reducible rfl
          rotate_left
          · simp only [Act.put, List.setIfInBounds_toArray, List.set_cons_zero, List.set_cons_succ, i64_w, i32_w]
            rfl
          refine take_ (i := 3) (N := some 15) (v := ?_) (a' := ?_) #[true, true, true, true, true, false, false] rfl rfl (by kernel_rfl) (fun _ _ _ h => h) (Or.inl ⟨by rfl, ?_⟩) hHeld ?_ ?_
          rotate_left
          · intro w' s0
            go_simp
            with_reducible rfl
          rotate_left
          · simp only [Act.put, List.setIfInBounds_toArray, List.set_cons_zero, List.set_cons_succ, i64_w, i32_w]
            rfl
          refine one_ (i := 5) (N := some 17) #[true, true, true, true, true, true, false] rfl rfl (by kernel_rfl) (by decide) (fun K hK => ?_)
          refine goM gf57 #[.int .i64 x1_1] (by rfl) rfl rfl rfl ?_
          with_reducible refine (laws_markText.calls k1 x1_1 t102 _ A5.out).mono ?_
          rintro e w10 ⟨rfl, hb⟩
          refine ⟨_, rfl, ?_⟩
          replace HB := kB HB hb
          (try clear hb)
          (try clear hb2)
          (try clear hk)
          (try clear hi)
          refine hK.out _ _ ((px HB.out hw101_0)) (fun hHeld => ?_)
          clear hK K
          refine norm_ (a' := ?_) ?_ ?_
          rotate_left
          · show Act.put _ (some 17) _ = _
            simp only [Act.put, List.setIfInBounds_toArray, List.set_cons_zero, List.set_cons_succ, i64_w, i32_w]
            rfl
          refine pure_ (i := 6) (N := some 18) (v := ?_) (a' := ?_) #[true, true, true, true, true, true, true] rfl rfl (by kernel_rfl) (fun _ _ _ h => h) (Or.inl ⟨by rfl, ?_⟩) ?_ ?_
          rotate_left
          · intro w'
            go_simp
            with_reducible rfl
          rotate_left
          · simp only [Act.put, List.setIfInBounds_toArray, List.set_cons_zero, List.set_cons_succ, i64_w, i32_w]
            rfl
          refine done_ (by kernel_rfl) ?_
          try go_wp2
          go_ret
          exact ⟨by rfl, bx HB.out⟩
      · rw [if_neg c3] at H
        have c3b0 := decide_eq_false c3
        clear c3
        obtain rfl := Option.some.inj H
        go_wp2
        go_ret
        exact ⟨by rfl, bx HB.out⟩
end Go.Proofs.YtabindnaedchgaaDoor.M
end

section
-- Printed for this claim by a program (mprint.py) that uses the kit's print; Lean checks it.
namespace Go.Proofs.YtabindnaedchgaaDoor.M
open Go.RowKit Go.Proofs.YtabindnaedchgaaDoorW.PrintWords Go.Proofs.YtabindnaedchgaaDoorW.PrintLast Go.Proofs.YtabindnaedchgaaDoorW.PrintMore Go.Proofs.YtabindnaedchgaaDoor.Sq
set_option synthInstance.maxHeartbeats 2000000
set_option synthInstance.maxSize 4096
attribute [local go_sem] max2_int min2_int max_two min_two max_three min_three max_four min_four   -- for this text's walks alone
set_option linter.unusedVariables false
set_option linter.unusedSimpArgs false
theorem gf9 : Go_ Tryd.prog 9 Tryd.f9 := ⟨Tryd.func9, by kernel_rfl, rfl⟩
def laws_heldDelta.f (k : Nat) (l0_0 : List ByteArray) (l0_1 : List (S43)) (a0_2 : Bool) (l0_3 : List (S46)) (a1 : Int) : Option (Int) := (laws_heldStringS.f k l0_0 a1).bind fun t102 => (if t102 < 0 then (some (-1)) else ((laws_heldEntryS.f k l0_1 t102).bind fun t103 => (if t103 < 0 then (some (-1)) else ((laws_heldAffixS.f k l0_3 t103).bind fun t104 => (if t104 < 0 then (some (-1)) else (some t104))))))
theorem laws_heldDelta.mono : ∀ a0 a1 a2 a3 a4 k, LeO (laws_heldDelta.f k a0 a1 a2 a3 a4) (laws_heldDelta.f (k + 1) a0 a1 a2 a3 a4) := by
  intro a0 a1 a2 a3 a4 k
  unfold laws_heldDelta.f
  have I0_ := fun x0_ x1_ x2_ => LeC.mk (laws_heldAffixS.mono x0_ x1_ x2_)
  have I1_ := fun x0_ x1_ x2_ => LeC.mk (laws_heldEntryS.mono x0_ x1_ x2_)
  have I2_ := fun x0_ x1_ x2_ => LeC.mk (laws_heldStringS.mono x0_ x1_ x2_)
  exact LeC.out
set_option maxHeartbeats 8000000 in
set_option maxRecDepth 100000 in
theorem laws_heldDelta.calls (k : Nat) (A0_0 : Option Addr) (c0_0 : Nat) (l0_0 : List ByteArray) (A0_1 : Option Addr) (c0_1 : Nat) (l0_1 : List (S43)) (a0_2 : Bool) (A0_3 : Option Addr) (c0_3 : Nat) (l0_3 : List (S46)) (a1 : Int) (r : Int) (w : World) (hr0_0 : Kd.C Kd.string w A0_0 l0_0.length l0_0) (hc0_0 : l0_0.length ≤ c0_0) (hr0_1 : Kd.C k43 w A0_1 l0_1.length l0_1) (hc0_1 : l0_1.length ≤ c0_1) (hr0_3 : Kd.C k46 w A0_3 l0_3.length l0_3) (hc0_3 : l0_3.length ≤ c0_3) (h : laws_heldDelta.f k l0_0 l0_1 a0_2 l0_3 a1 = some r) :
    Calls Tryd.prog 9 #[.agg #[.slice A0_0 l0_0.length c0_0, .slice A0_1 l0_1.length c0_1, .bool a0_2, .slice A0_3 l0_3.length c0_3], .int .i64 a1] w fun e w' => e = .returned (.int .i64 r) ∧ Below w.heap.size w w' := by
  have hu26 := Tryd.underlying26
  have HR0_0 := Aside0.mk hr0_0
  have HC0_0 := Aside0.mk hc0_0
  clear hr0_0 hc0_0
  have HR0_1 := Aside0.mk hr0_1
  have HC0_1 := Aside0.mk hc0_1
  clear hr0_1 hc0_1
  have HR0_3 := Aside0.mk hr0_3
  have HC0_3 := Aside0.mk hc0_3
  clear hr0_3 hc0_3
  have HB := Aside0.mk (Below.refl w.heap.size w)
  unfold laws_heldDelta.f at h
  have H := h
  clear h
  replace H := Option.bind_eq_some_iff.mp H
  obtain ⟨t102, A30, H⟩ := H
  have A3 := Aside0.mk A30
  clear A30
  by_cases c4 : t102 < 0
  · rw [if_pos c4] at H
    have c4b0 := decide_eq_true c4
    clear c4
    obtain rfl := Option.some.inj H
    go_enter Tryd.func9, Tryd.ntmps9
    go_wp2_with (first | ((with_reducible refine gate_dst (N := 2) rfl ?_); refine box_event rfl (N := 2) rfl (cs := #[.slice A0_0 l0_0.length c0_0, .slice A0_1 l0_1.length c0_1, .bool a0_2, .slice A0_3 l0_3.length c0_3]) (t := 26) (by go_simp <;> rfl) ?_; intro gb101 hg w5 hbox hb; have BK101 := Aside0.mk (hbox); have GW101 := Le_.mk (ge_of hg HB.out); have GE101 := Le_.mk (ge_of hg HB.out); replace HB := kB HB hb; clear hb hbox hg; have hz6 := cells_4 BK101.out) | ((with_reducible refine gate_callee (f := 30) rfl ?_); refine goL (some 8) rfl rfl gf30 #[.slice A0_0 l0_0.length c0_0, .int .i64 a1] rfl rfl ?_; (with_reducible refine (laws_heldStringS.calls k _ _ l0_0 a1 t102 _ (cx (Kd.C_below HR0_0.out HB.out)) HC0_0.out A3.out).mono ?_); rintro e w7 ⟨rfl, hb⟩; refine ⟨_, rfl, ?_⟩; replace BK101 := kb BK101 hb; replace HB := kB HB hb; (try clear hb); (try clear hb2); (try clear hk); (try clear hi)))
    go_ret
    exact ⟨by rfl, bx HB.out⟩
  · rw [if_neg c4] at H
    have c4b0 := decide_eq_false c4
    clear c4
    replace H := Option.bind_eq_some_iff.mp H
    obtain ⟨t103, A80, H⟩ := H
    have A8 := Aside0.mk A80
    clear A80
    by_cases c9 : t103 < 0
    · rw [if_pos c9] at H
      have c9b0 := decide_eq_true c9
      clear c9
      obtain rfl := Option.some.inj H
      go_enter Tryd.func9, Tryd.ntmps9
      go_wp2_with (first | ((with_reducible refine gate_dst (N := 2) rfl ?_); refine box_event rfl (N := 2) rfl (cs := #[.slice A0_0 l0_0.length c0_0, .slice A0_1 l0_1.length c0_1, .bool a0_2, .slice A0_3 l0_3.length c0_3]) (t := 26) (by go_simp <;> rfl) ?_; intro gb101 hg w10 hbox hb; have BK101 := Aside0.mk (hbox); have GW101 := Le_.mk (ge_of hg HB.out); have GE101 := Le_.mk (ge_of hg HB.out); replace HB := kB HB hb; clear hb hbox hg; have hz11 := cells_4 BK101.out) | ((with_reducible refine gate_callee (f := 30) rfl ?_); refine goL (some 8) rfl rfl gf30 #[.slice A0_0 l0_0.length c0_0, .int .i64 a1] rfl rfl ?_; (with_reducible refine (laws_heldStringS.calls k _ _ l0_0 a1 t102 _ (cx (Kd.C_below HR0_0.out HB.out)) HC0_0.out A3.out).mono ?_); rintro e w12 ⟨rfl, hb⟩; refine ⟨_, rfl, ?_⟩; replace BK101 := kb BK101 hb; replace HB := kB HB hb; (try clear hb); (try clear hb2); (try clear hk); (try clear hi); have hz13 := cells_4 BK101.out) | ((with_reducible refine gate_callee (f := 31) rfl ?_); refine goL (some 14) rfl rfl gf31 #[.slice A0_1 l0_1.length c0_1, .int .i64 t102] rfl rfl ?_; (with_reducible refine (laws_heldEntryS.calls k _ _ l0_1 t102 t103 _ (cx (Kd.C_below HR0_1.out HB.out)) HC0_1.out A8.out).mono ?_); rintro e w14 ⟨rfl, hb⟩; refine ⟨_, rfl, ?_⟩; replace BK101 := kb BK101 hb; replace HB := kB HB hb; (try clear hb); (try clear hb2); (try clear hk); (try clear hi)))
      go_ret
      exact ⟨by rfl, bx HB.out⟩
    · rw [if_neg c9] at H
      have c9b0 := decide_eq_false c9
      clear c9
      replace H := Option.bind_eq_some_iff.mp H
      obtain ⟨t104, A150, H⟩ := H
      have A15 := Aside0.mk A150
      clear A150
      by_cases c16 : t104 < 0
      · rw [if_pos c16] at H
        have c16b0 := decide_eq_true c16
        clear c16
        obtain rfl := Option.some.inj H
        go_enter Tryd.func9, Tryd.ntmps9
        go_wp2_with (first | ((with_reducible refine gate_dst (N := 2) rfl ?_); refine box_event rfl (N := 2) rfl (cs := #[.slice A0_0 l0_0.length c0_0, .slice A0_1 l0_1.length c0_1, .bool a0_2, .slice A0_3 l0_3.length c0_3]) (t := 26) (by go_simp <;> rfl) ?_; intro gb101 hg w17 hbox hb; have BK101 := Aside0.mk (hbox); have GW101 := Le_.mk (ge_of hg HB.out); have GE101 := Le_.mk (ge_of hg HB.out); replace HB := kB HB hb; clear hb hbox hg; have hz18 := cells_4 BK101.out) | ((with_reducible refine gate_callee (f := 30) rfl ?_); refine goL (some 8) rfl rfl gf30 #[.slice A0_0 l0_0.length c0_0, .int .i64 a1] rfl rfl ?_; (with_reducible refine (laws_heldStringS.calls k _ _ l0_0 a1 t102 _ (cx (Kd.C_below HR0_0.out HB.out)) HC0_0.out A3.out).mono ?_); rintro e w19 ⟨rfl, hb⟩; refine ⟨_, rfl, ?_⟩; replace BK101 := kb BK101 hb; replace HB := kB HB hb; (try clear hb); (try clear hb2); (try clear hk); (try clear hi); have hz20 := cells_4 BK101.out) | ((with_reducible refine gate_callee (f := 31) rfl ?_); refine goL (some 14) rfl rfl gf31 #[.slice A0_1 l0_1.length c0_1, .int .i64 t102] rfl rfl ?_; (with_reducible refine (laws_heldEntryS.calls k _ _ l0_1 t102 t103 _ (cx (Kd.C_below HR0_1.out HB.out)) HC0_1.out A8.out).mono ?_); rintro e w21 ⟨rfl, hb⟩; refine ⟨_, rfl, ?_⟩; replace BK101 := kb BK101 hb; replace HB := kB HB hb; (try clear hb); (try clear hb2); (try clear hk); (try clear hi); have hz22 := cells_4 BK101.out) | ((with_reducible refine gate_callee (f := 32) rfl ?_); refine goL (some 20) rfl rfl gf32 #[.slice A0_3 l0_3.length c0_3, .int .i64 t103] rfl rfl ?_; (with_reducible refine (laws_heldAffixS.calls k _ _ l0_3 t103 t104 _ (cx (Kd.C_below HR0_3.out HB.out)) HC0_3.out A15.out).mono ?_); rintro e w23 ⟨rfl, hb⟩; refine ⟨_, rfl, ?_⟩; replace BK101 := kb BK101 hb; replace HB := kB HB hb; (try clear hb); (try clear hb2); (try clear hk); (try clear hi)))
        go_ret
        exact ⟨by rfl, bx HB.out⟩
      · rw [if_neg c16] at H
        have c16b0 := decide_eq_false c16
        clear c16
        obtain rfl := Option.some.inj H
        go_enter Tryd.func9, Tryd.ntmps9
        go_wp2_with (first | ((with_reducible refine gate_dst (N := 2) rfl ?_); refine box_event rfl (N := 2) rfl (cs := #[.slice A0_0 l0_0.length c0_0, .slice A0_1 l0_1.length c0_1, .bool a0_2, .slice A0_3 l0_3.length c0_3]) (t := 26) (by go_simp <;> rfl) ?_; intro gb101 hg w24 hbox hb; have BK101 := Aside0.mk (hbox); have GW101 := Le_.mk (ge_of hg HB.out); have GE101 := Le_.mk (ge_of hg HB.out); replace HB := kB HB hb; clear hb hbox hg; have hz25 := cells_4 BK101.out) | ((with_reducible refine gate_callee (f := 30) rfl ?_); refine goL (some 8) rfl rfl gf30 #[.slice A0_0 l0_0.length c0_0, .int .i64 a1] rfl rfl ?_; (with_reducible refine (laws_heldStringS.calls k _ _ l0_0 a1 t102 _ (cx (Kd.C_below HR0_0.out HB.out)) HC0_0.out A3.out).mono ?_); rintro e w26 ⟨rfl, hb⟩; refine ⟨_, rfl, ?_⟩; replace BK101 := kb BK101 hb; replace HB := kB HB hb; (try clear hb); (try clear hb2); (try clear hk); (try clear hi); have hz27 := cells_4 BK101.out) | ((with_reducible refine gate_callee (f := 31) rfl ?_); refine goL (some 14) rfl rfl gf31 #[.slice A0_1 l0_1.length c0_1, .int .i64 t102] rfl rfl ?_; (with_reducible refine (laws_heldEntryS.calls k _ _ l0_1 t102 t103 _ (cx (Kd.C_below HR0_1.out HB.out)) HC0_1.out A8.out).mono ?_); rintro e w28 ⟨rfl, hb⟩; refine ⟨_, rfl, ?_⟩; replace BK101 := kb BK101 hb; replace HB := kB HB hb; (try clear hb); (try clear hb2); (try clear hk); (try clear hi); have hz29 := cells_4 BK101.out) | ((with_reducible refine gate_callee (f := 32) rfl ?_); refine goL (some 20) rfl rfl gf32 #[.slice A0_3 l0_3.length c0_3, .int .i64 t103] rfl rfl ?_; (with_reducible refine (laws_heldAffixS.calls k _ _ l0_3 t103 t104 _ (cx (Kd.C_below HR0_3.out HB.out)) HC0_3.out A15.out).mono ?_); rintro e w30 ⟨rfl, hb⟩; refine ⟨_, rfl, ?_⟩; replace BK101 := kb BK101 hb; replace HB := kB HB hb; (try clear hb); (try clear hb2); (try clear hk); (try clear hi)))
        go_ret
        exact ⟨by rfl, bx HB.out⟩
end Go.Proofs.YtabindnaedchgaaDoor.M
end
