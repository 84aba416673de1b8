import Derived.Test.YtaakfmpffhfaeaaGreatDoorBExactReleasePutx2
import Derived.Test.YtaakfmpffhfaeaaGreatDoorBExactReleasePutx3
import Derived.Test.YtaakfmpffhfaeaaGreatDoorBExactReleasePutx1

section
namespace Go.Proofs.YtaakfmpffhfaeaaGreatDoor.M
open Go.RowKit Go.Proofs.YtaakfmpffhfaeaaGreatDoorW.PrintWords Go.Proofs.YtaakfmpffhfaeaaGreatDoorW.PrintLast Go.Proofs.YtaakfmpffhfaeaaGreatDoorW.PrintMore Go.Proofs.YtaakfmpffhfaeaaGreatDoor.Sq
set_option synthInstance.maxHeartbeats 2000000
set_option synthInstance.maxSize 4096
attribute [local go_sem] max2_int min2_int max_two min_two max_three min_three max_four min_four
set_option linter.unusedVariables false
set_option linter.unusedSimpArgs false
attribute [local go_sem high] eqA103
set_option maxHeartbeats 8000000
set_option maxRecDepth 100000
theorem gf94 : Go_ Tryz.prog 94 Tryz.f94 := ⟨Tryz.func94, by kernel_rfl, rfl⟩
mutual
def spec_l2Affixes.l0 : Nat → List (S103) → Int → Option (Bool)
 | 0, _, _ => none
 | k + 1, x0, x3 => if x3 < (x0.length : Int) then (if 0 ≤ x3 then ((spec_AffixOk.f k ((rd_T103 x0 x3).f0) ((rd_T103 x0 x3).f1) ((rd_T103 x0 x3).f2) ((rd_T103 x0 x3).f3) ((rd_T103 x0 x3).f4)).bind fun t102 => (if t102 = true then (spec_l2Affixes.l1 k x0 x3 0) else (some false))) else (none)) else (some (decide ((x0.length : Int) ≤ 8)))
def spec_l2Affixes.l1 : Nat → List (S103) → Int → Int → Option (Bool)
 | 0, _, _, _ => none
 | k + 1, x0, x3, x4 => if x4 < x3 then (if 0 ≤ x4 then (if x4 < (x0.length : Int) then (if 0 ≤ x3 then (if x3 < (x0.length : Int) then (if ((((rd_T103 x0 x4).f0).toList) == (((rd_T103 x0 x3).f0).toList) && (((rd_T103 x0 x4).f1) == ((rd_T103 x0 x3).f1) && ((((rd_T103 x0 x4).f2).toList) == (((rd_T103 x0 x3).f2).toList) && ((((rd_T103 x0 x4).f3).toList) == (((rd_T103 x0 x3).f3).toList) && ((((rd_T103 x0 x4).f4).toList) == (((rd_T103 x0 x3).f4).toList)))))) = true then (some false) else (spec_l2Affixes.l1 k x0 x3 (wrap64 (x4 + 1)))) else (none)) else (none)) else (none)) else (none)) else (spec_l2Affixes.l0 k x0 (wrap64 (x3 + 1)))
end
def spec_l2Affixes.f (k : Nat) (l0 : List (S103)) : Option (Bool) := spec_l2Affixes.l0 k l0 0
theorem spec_l2Affixes.mono_l : ∀ k, (∀ y0 y1, LeO (spec_l2Affixes.l0 k y0 y1) (spec_l2Affixes.l0 (k + 1) y0 y1)) ∧ (∀ y0 y1 y2, LeO (spec_l2Affixes.l1 k y0 y1 y2) (spec_l2Affixes.l1 (k + 1) y0 y1 y2))
 | 0 => ⟨fun _ _ r h => by simp [spec_l2Affixes.l0] at h, fun _ _ _ r h => by simp [spec_l2Affixes.l1] at h⟩
 | k + 1 => by
  obtain ⟨ih0, ih1⟩ := spec_l2Affixes.mono_l k
  refine ⟨?_, ?_⟩
  ·intro y0 y1
   unfold spec_l2Affixes.l0
   have I0_ := fun a b => LeC.mk (ih0 a b)
   have I1_ := fun a b c => LeC.mk (ih1 a b c)
   have I2_ := fun a b c d e f => LeC.mk (spec_AffixOk.mono a b c d e f)
   exact LeC.out
  ·intro y0 y1 y2
   unfold spec_l2Affixes.l1
   have I0_ := fun a b => LeC.mk (ih0 a b)
   have I1_ := fun a b c => LeC.mk (ih1 a b c)
   have I2_ := fun a b c d e f => LeC.mk (spec_AffixOk.mono a b c d e f)
   exact LeC.out
theorem spec_l2Affixes.mono : ∀ a0 k, LeO (spec_l2Affixes.f k a0) (spec_l2Affixes.f (k + 1) a0) := by
 intro a0 k
 obtain ⟨ih0, ih1⟩ := spec_l2Affixes.mono_l k
 unfold spec_l2Affixes.f
 have I0_ := fun a b => LeC.mk (ih0 a b)
 have I1_ := fun a b c => LeC.mk (ih1 a b c)
 have I2_ := fun a b c d e f => LeC.mk (spec_AffixOk.mono a b c d e f)
 exact LeC.out
theorem spec_l2Affixes.calls (k : Nat) (A0 : Option Addr) (c0 : Nat) (l0 : List (S103)) (r : Bool) (w : World) (hr0 : Kd.C k103 w A0 l0.length l0) (hc0 : l0.length ≤ c0) (h : spec_l2Affixes.f k l0 = some r) :
  Calls Tryz.prog 94 #[.slice A0 l0.length c0] w fun e w' => e = .returned (.bool r) ∧ Below w.heap.size w w' := by
 have hu103 := Tryz.underlying103
 have HR0 := Aside0.mk hr0
 have HC0 := Aside0.mk hc0
 clear hr0 hc0
 have HB := Aside0.mk (Below.refl w.heap.size w)
 unfold spec_l2Affixes.f at h
 have H := h
 clear h
 have H' := Aside0.mk H
 clear H
 go_enter Tryz.func94, Tryz.ntmps94
 go_wp2
 repeat (go_quiet (fail); try go_wp2)
 go_loopg [3] k (fun kq v3 w' => ∃ (x3_1 : Int), v3 = .int .i64 x3_1 ∧ Aside0 (spec_l2Affixes.l0 kq l0 x3_1 = some r) ∧ Aside0 (kq ≤ k) ∧ Aside0 (Below w.heap.size w w'))
 case atStart => exact ⟨(0), (by first | rfl | (simp; done) | (simp [*]; done)), H', ⟨Nat.le_refl _⟩, ⟨bx HB.out⟩⟩
 case round =>
  clear H'
  obtain ⟨x3_1, rfl, HA, HK1, HB⟩ := hrel
  cases gk with
  | zero => exact absurd HA.out (by simp [spec_l2Affixes.l0])
  | succ k1 =>
   have H := HA.out
   clear HA
   simp only [spec_l2Affixes.l0] at H
   by_cases c2 : x3_1 < (l0.length : Int)
   ·rw [if_pos c2] at H
    have c2b0 := decide_eq_true c2
    clear c2
    have c3 := ite_y H
    replace H := ite_t H
    have c3b0 := decide_eq_true c3
    clear c3
    replace H := Option.bind_eq_some_iff.mp H
    obtain ⟨t102, A40, H⟩ := H
    have A4 := Aside0.mk A40
    clear A40
    by_cases c5 : t102 = true
    ·subst c5
     rw [if_pos rfl] at H
     have H' := Aside0.mk H
     clear H
     have p101 := of_decide_eq_true c3b0
     have q101 := of_decide_eq_true c2b0
     obtain ⟨ad101, e101, hx101_0, hx101_1, hx101_2, hx101_3, hx101_4⟩ := at_T103 HR0.out x3_1 p101 q101
     cases e101
     replace hx101_0 := px HB.out hx101_0
     replace hx101_1 := px HB.out hx101_1
     replace hx101_2 := px HB.out hx101_2
     replace hx101_3 := px HB.out hx101_3
     replace hx101_4 := px HB.out hx101_4
     replace p101 := eq_true p101
     replace q101 := eq_true q101
     go_wp2_with (first | (go_at_call 132; (with_reducible refine (spec_AffixOk.calls k1 ((rd_T103 l0 x3_1).f0) ((rd_T103 l0 x3_1).f1) ((rd_T103 l0 x3_1).f2) ((rd_T103 l0 x3_1).f3) ((rd_T103 l0 x3_1).f4) true _ A4.out).mono ?_); rintro e w6 ⟨rfl, hb⟩; replace HB := kB HB hb; (try clear hb); (try clear hb2); (try clear hk); (try clear hi)))
     repeat (go_quiet (first | (go_at_call 132; (with_reducible refine (spec_AffixOk.calls k1 ((rd_T103 l0 x3_1).f0) ((rd_T103 l0 x3_1).f1) ((rd_T103 l0 x3_1).f2) ((rd_T103 l0 x3_1).f3) ((rd_T103 l0 x3_1).f4) true _ A4.out).mono ?_); rintro e w6 ⟨rfl, hb⟩; replace HB := kB HB hb; (try clear hb); (try clear hb2); (try clear hk); (try clear hi))); try go_wp2_with (first | (go_at_call 132; (with_reducible refine (spec_AffixOk.calls k1 ((rd_T103 l0 x3_1).f0) ((rd_T103 l0 x3_1).f1) ((rd_T103 l0 x3_1).f2) ((rd_T103 l0 x3_1).f3) ((rd_T103 l0 x3_1).f4) true _ A4.out).mono ?_); rintro e w6 ⟨rfl, hb⟩; replace HB := kB HB hb; (try clear hb); (try clear hb2); (try clear hk); (try clear hi))))
     go_loopg [4] k1 (fun kq v4 w' => ∃ (x4_2 : Int), v4 = .int .i64 x4_2 ∧ Aside0 (spec_l2Affixes.l1 kq l0 x3_1 x4_2 = some r) ∧ Aside0 (kq ≤ k1) ∧ Aside0 (Below w.heap.size w w'))
     case atStart => exact ⟨(0), (by first | rfl | (simp; done) | (simp [*]; done)), H', ⟨Nat.le_refl _⟩, ⟨bx HB.out⟩⟩
     case round =>
      clear H'
      try clear p1
      try clear q1
      try clear hx1
      try clear c2
      try clear c2b0
      try clear p2
      try clear c3
      try clear c3b0
      try clear c5
      try clear hx101_0
      try clear hx101_1
      try clear hx101_2
      try clear hx101_3
      try clear hx101_4
      try clear p101
      try clear q101
      obtain ⟨x4_2, rfl, HA, HK2, HB⟩ := hrel
      cases gk with
      | zero => exact absurd HA.out (by simp [spec_l2Affixes.l1])
      | succ k2 =>
       have H := HA.out
       clear HA
       simp only [spec_l2Affixes.l1] at H
       by_cases c7 : x4_2 < x3_1
       ·rw [if_pos c7] at H
        have c7b0 := decide_eq_true c7
        clear c7
        have c8 := ite_y H
        replace H := ite_t H
        have c8b0 := decide_eq_true c8
        clear c8
        have c9 := ite_y H
        replace H := ite_t H
        have c9b0 := decide_eq_true c9
        clear c9
        have c10 := ite_y H
        replace H := ite_t H
        have c10b0 := decide_eq_true c10
        clear c10
        have c11 := ite_y H
        replace H := ite_t H
        have c11b0 := decide_eq_true c11
        clear c11
        by_cases c12 : ((((rd_T103 l0 x4_2).f0).toList) == (((rd_T103 l0 x3_1).f0).toList) && (((rd_T103 l0 x4_2).f1) == ((rd_T103 l0 x3_1).f1) && ((((rd_T103 l0 x4_2).f2).toList) == (((rd_T103 l0 x3_1).f2).toList) && ((((rd_T103 l0 x4_2).f3).toList) == (((rd_T103 l0 x3_1).f3).toList) && ((((rd_T103 l0 x4_2).f4).toList) == (((rd_T103 l0 x3_1).f4).toList)))))) = true
        ·rw [if_pos c12] at H
         have c12b0 : ((((rd_T103 l0 x4_2).f0).toList) == (((rd_T103 l0 x3_1).f0).toList) && (((rd_T103 l0 x4_2).f1) == ((rd_T103 l0 x3_1).f1) && ((((rd_T103 l0 x4_2).f2).toList) == (((rd_T103 l0 x3_1).f2).toList) && ((((rd_T103 l0 x4_2).f3).toList) == (((rd_T103 l0 x3_1).f3).toList) && ((((rd_T103 l0 x4_2).f4).toList) == (((rd_T103 l0 x3_1).f4).toList)))))) = true := c12
         (try (have c12b1 : decide ((((rd_T103 l0 x4_2).f0).toList) = (((rd_T103 l0 x3_1).f0).toList) && (((rd_T103 l0 x4_2).f1) == ((rd_T103 l0 x3_1).f1) && ((((rd_T103 l0 x4_2).f2).toList) == (((rd_T103 l0 x3_1).f2).toList) && ((((rd_T103 l0 x4_2).f3).toList) == (((rd_T103 l0 x3_1).f3).toList) && ((((rd_T103 l0 x4_2).f4).toList) == (((rd_T103 l0 x3_1).f4).toList)))))) = true := by simpa using c12))
         (try (have c12b2 : ((((rd_T103 l0 x4_2).f0).toList) == (((rd_T103 l0 x3_1).f0).toList) && (((rd_T103 l0 x4_2).f1) == ((rd_T103 l0 x3_1).f1) && ((((rd_T103 l0 x4_2).f2).toList) == (((rd_T103 l0 x3_1).f2).toList) && ((((rd_T103 l0 x4_2).f3).toList) == (((rd_T103 l0 x3_1).f3).toList) && ((((rd_T103 l0 x4_2).f4).toList) == (((rd_T103 l0 x3_1).f4).toList)))))) = true := by simpa using c12))
         clear c12
         obtain rfl := Option.some.inj H
         have p103 := of_decide_eq_true c8b0
         have q103 := of_decide_eq_true c9b0
         obtain ⟨ad103, e103, hx103_0, hx103_1, hx103_2, hx103_3, hx103_4⟩ := at_T103 HR0.out x4_2 p103 q103
         obtain rfl : ad101 = ad103 := (by injection e103)
         replace hx103_0 := px HB.out hx103_0
         replace hx103_1 := px HB.out hx103_1
         replace hx103_2 := px HB.out hx103_2
         replace hx103_3 := px HB.out hx103_3
         replace hx103_4 := px HB.out hx103_4
         replace p103 := eq_true p103
         replace q103 := eq_true q103
         have p104 := of_decide_eq_true c10b0
         have q104 := of_decide_eq_true c11b0
         obtain ⟨ad104, e104, hx104_0, hx104_1, hx104_2, hx104_3, hx104_4⟩ := at_T103 HR0.out x3_1 p104 q104
         obtain rfl : ad101 = ad104 := (by injection e104)
         replace hx104_0 := px HB.out hx104_0
         replace hx104_1 := px HB.out hx104_1
         replace hx104_2 := px HB.out hx104_2
         replace hx104_3 := px HB.out hx104_3
         replace hx104_4 := px HB.out hx104_4
         replace p104 := eq_true p104
         replace q104 := eq_true q104
         go_wp2
         repeat (go_quiet (fail); try go_wp2)
         go_ret
         exact ⟨by rfl, bx HB.out⟩
        ·rw [if_neg c12] at H
         have c12b0 : ((((rd_T103 l0 x4_2).f0).toList) == (((rd_T103 l0 x3_1).f0).toList) && (((rd_T103 l0 x4_2).f1) == ((rd_T103 l0 x3_1).f1) && ((((rd_T103 l0 x4_2).f2).toList) == (((rd_T103 l0 x3_1).f2).toList) && ((((rd_T103 l0 x4_2).f3).toList) == (((rd_T103 l0 x3_1).f3).toList) && ((((rd_T103 l0 x4_2).f4).toList) == (((rd_T103 l0 x3_1).f4).toList)))))) = false := by simpa using c12
         (try (have c12b1 : decide ((((rd_T103 l0 x4_2).f0).toList) = (((rd_T103 l0 x3_1).f0).toList) && (((rd_T103 l0 x4_2).f1) == ((rd_T103 l0 x3_1).f1) && ((((rd_T103 l0 x4_2).f2).toList) == (((rd_T103 l0 x3_1).f2).toList) && ((((rd_T103 l0 x4_2).f3).toList) == (((rd_T103 l0 x3_1).f3).toList) && ((((rd_T103 l0 x4_2).f4).toList) == (((rd_T103 l0 x3_1).f4).toList)))))) = false := by simpa using c12))
         (try (have c12b2 : ((((rd_T103 l0 x4_2).f0).toList) == (((rd_T103 l0 x3_1).f0).toList) && (((rd_T103 l0 x4_2).f1) == ((rd_T103 l0 x3_1).f1) && ((((rd_T103 l0 x4_2).f2).toList) == (((rd_T103 l0 x3_1).f2).toList) && ((((rd_T103 l0 x4_2).f3).toList) == (((rd_T103 l0 x3_1).f3).toList) && ((((rd_T103 l0 x4_2).f4).toList) == (((rd_T103 l0 x3_1).f4).toList)))))) = false := by simpa using c12))
         (try (have c12b3 : ¬ ((((rd_T103 l0 x4_2).f0).toList) = (((rd_T103 l0 x3_1).f0).toList) && (((rd_T103 l0 x4_2).f1) == ((rd_T103 l0 x3_1).f1) && ((((rd_T103 l0 x4_2).f2).toList) == (((rd_T103 l0 x3_1).f2).toList) && ((((rd_T103 l0 x4_2).f3).toList) == (((rd_T103 l0 x3_1).f3).toList) && ((((rd_T103 l0 x4_2).f4).toList) == (((rd_T103 l0 x3_1).f4).toList)))))) := by simpa using c12))
         clear c12
         have H' := Aside0.mk H
         clear H
         have p103 := of_decide_eq_true c8b0
         have q103 := of_decide_eq_true c9b0
         obtain ⟨ad103, e103, hx103_0, hx103_1, hx103_2, hx103_3, hx103_4⟩ := at_T103 HR0.out x4_2 p103 q103
         obtain rfl : ad101 = ad103 := (by injection e103)
         replace hx103_0 := px HB.out hx103_0
         replace hx103_1 := px HB.out hx103_1
         replace hx103_2 := px HB.out hx103_2
         replace hx103_3 := px HB.out hx103_3
         replace hx103_4 := px HB.out hx103_4
         replace p103 := eq_true p103
         replace q103 := eq_true q103
         have p104 := of_decide_eq_true c10b0
         have q104 := of_decide_eq_true c11b0
         obtain ⟨ad104, e104, hx104_0, hx104_1, hx104_2, hx104_3, hx104_4⟩ := at_T103 HR0.out x3_1 p104 q104
         obtain rfl : ad101 = ad104 := (by injection e104)
         replace hx104_0 := px HB.out hx104_0
         replace hx104_1 := px HB.out hx104_1
         replace hx104_2 := px HB.out hx104_2
         replace hx104_3 := px HB.out hx104_3
         replace hx104_4 := px HB.out hx104_4
         replace p104 := eq_true p104
         replace q104 := eq_true q104
         go_wp2
         repeat (go_quiet (fail); try go_wp2)
         go_roundg k2
         case measure => have := HK1.out; have := HK2.out; omega
         case rel => exact ⟨(wrap64 (x4_2 + 1)), (by first | rfl | (simp; done) | (simp [*]; done)), H', ⟨by have := HK1.out; have := HK2.out; omega⟩, ⟨bx HB.out⟩⟩
       ·rw [if_neg c7] at H
        have c7b0 := decide_eq_false c7
        clear c7
        have H' := Aside0.mk H
        clear H
        go_wp2
        repeat (go_quiet (fail); try go_wp2)
        go_roundg k2
        case measure => have := HK1.out; have := HK2.out; omega
        case rel => exact ⟨(wrap64 (x3_1 + 1)), (by first | rfl | (simp; done) | (simp [*]; done)), H', ⟨by have := HK1.out; have := HK2.out; omega⟩, ⟨bx HB.out⟩⟩
    ·replace c5 := Bool.eq_false_iff.mpr c5
     subst c5
     rw [if_neg Bool.false_ne_true] at H
     obtain rfl := Option.some.inj H
     have p101 := of_decide_eq_true c3b0
     have q101 := of_decide_eq_true c2b0
     obtain ⟨ad101, e101, hx101_0, hx101_1, hx101_2, hx101_3, hx101_4⟩ := at_T103 HR0.out x3_1 p101 q101
     cases e101
     replace hx101_0 := px HB.out hx101_0
     replace hx101_1 := px HB.out hx101_1
     replace hx101_2 := px HB.out hx101_2
     replace hx101_3 := px HB.out hx101_3
     replace hx101_4 := px HB.out hx101_4
     replace p101 := eq_true p101
     replace q101 := eq_true q101
     go_wp2_with (first | (go_at_call 132; (with_reducible refine (spec_AffixOk.calls k1 ((rd_T103 l0 x3_1).f0) ((rd_T103 l0 x3_1).f1) ((rd_T103 l0 x3_1).f2) ((rd_T103 l0 x3_1).f3) ((rd_T103 l0 x3_1).f4) false _ A4.out).mono ?_); rintro e w13 ⟨rfl, hb⟩; replace HB := kB HB hb; (try clear hb); (try clear hb2); (try clear hk); (try clear hi)))
     repeat (go_quiet (first | (go_at_call 132; (with_reducible refine (spec_AffixOk.calls k1 ((rd_T103 l0 x3_1).f0) ((rd_T103 l0 x3_1).f1) ((rd_T103 l0 x3_1).f2) ((rd_T103 l0 x3_1).f3) ((rd_T103 l0 x3_1).f4) false _ A4.out).mono ?_); rintro e w13 ⟨rfl, hb⟩; replace HB := kB HB hb; (try clear hb); (try clear hb2); (try clear hk); (try clear hi))); try go_wp2_with (first | (go_at_call 132; (with_reducible refine (spec_AffixOk.calls k1 ((rd_T103 l0 x3_1).f0) ((rd_T103 l0 x3_1).f1) ((rd_T103 l0 x3_1).f2) ((rd_T103 l0 x3_1).f3) ((rd_T103 l0 x3_1).f4) false _ A4.out).mono ?_); rintro e w13 ⟨rfl, hb⟩; replace HB := kB HB hb; (try clear hb); (try clear hb2); (try clear hk); (try clear hi))))
     go_ret
     exact ⟨by rfl, bx HB.out⟩
   ·rw [if_neg c2] at H
    have c2b0 := decide_eq_false c2
    clear c2
    obtain rfl := Option.some.inj H
    go_wp2
    repeat (go_quiet (fail); try go_wp2)
    go_ret
    exact ⟨by rfl, bx HB.out⟩
end Go.Proofs.YtaakfmpffhfaeaaGreatDoor.M
end

section
namespace Go.Proofs.YtaakfmpffhfaeaaGreatDoor.M
open Go.RowKit Go.Proofs.YtaakfmpffhfaeaaGreatDoorW.PrintWords Go.Proofs.YtaakfmpffhfaeaaGreatDoorW.PrintLast Go.Proofs.YtaakfmpffhfaeaaGreatDoorW.PrintMore Go.Proofs.YtaakfmpffhfaeaaGreatDoor.Sq
set_option synthInstance.maxHeartbeats 2000000
set_option synthInstance.maxSize 4096
attribute [local go_sem] max2_int min2_int max_two min_two max_three min_three max_four min_four
set_option linter.unusedVariables false
set_option linter.unusedSimpArgs false
set_option maxHeartbeats 8000000
set_option maxRecDepth 100000
theorem gf93 : Go_ Tryz.prog 93 Tryz.f93 := ⟨Tryz.func93, by kernel_rfl, rfl⟩
def spec_l2Entry.l0 : Nat → Int → ByteArray → ByteArray → Option (Bool)
 | 0, _, _, _ => none
 | k + 1, x3, x102000, x102001 => if x3 < (x102001.size : Int) then (if 0 ≤ x3 then (if x3 ≤ (wrap64 (x3 + 1)) then (if (wrap64 (x3 + 1)) ≤ (x102001.size : Int) then ((spec_l2Flag.f (x102001.extract (x3 : Int).toNat ((wrap64 (x3 + 1)) : Int).toNat)).bind fun t102 => (if t102 = true then (if x3 > 0 then (if 0 ≤ (wrap64 (x3 - 1)) then (if (wrap64 (x3 - 1)) < (x102001.size : Int) then (if (bt x102001 (wrap64 (x3 - 1))) ≥ (bt x102001 x3) then (some false) else (spec_l2Entry.l0 k (wrap64 (x3 + 1)) x102000 x102001)) else (none)) else (none)) else (spec_l2Entry.l0 k (wrap64 (x3 + 1)) x102000 x102001)) else (some false))) else (none)) else (none)) else (none)) else ((spec_l1Word.f k x102000).bind fun t103 => (if t103 = true then (some (decide ((x102001.size : Int) ≤ 4))) else (some false)))
def spec_l2Entry.f (k : Nat) (a0_0 : ByteArray) (a0_1 : ByteArray) : Option (Bool) := spec_l2Entry.l0 k 0 a0_0 a0_1
theorem spec_l2Entry.mono_l : ∀ k, (∀ y0 y1 y2, LeO (spec_l2Entry.l0 k y0 y1 y2) (spec_l2Entry.l0 (k + 1) y0 y1 y2))
 | 0 => fun _ _ _ r h => by simp [spec_l2Entry.l0] at h
 | k + 1 => by
  have ih0 := spec_l2Entry.mono_l k
  ·intro y0 y1 y2
   unfold spec_l2Entry.l0
   have I0_ := fun a b c => LeC.mk (ih0 a b c)
   have I1_ := fun a b => LeC.mk (spec_l1Word.mono a b)
   exact LeC.out
theorem spec_l2Entry.mono : ∀ a0 a1 k, LeO (spec_l2Entry.f k a0 a1) (spec_l2Entry.f (k + 1) a0 a1) := by
 intro a0 a1 k
 have ih0 := spec_l2Entry.mono_l k
 unfold spec_l2Entry.f
 have I0_ := fun a b c => LeC.mk (ih0 a b c)
 have I1_ := fun a b => LeC.mk (spec_l1Word.mono a b)
 exact LeC.out
theorem spec_l2Entry.calls (k : Nat) (a0_0 : ByteArray) (a0_1 : ByteArray) (r : Bool) (w : World) (h : spec_l2Entry.f k a0_0 a0_1 = some r) :
  Calls Tryz.prog 93 #[.agg #[.string a0_0, .string a0_1]] w fun e w' => e = .returned (.bool r) ∧ Below w.heap.size w w' := by
 have hu100 := Tryz.underlying100
 have HB := Aside0.mk (Below.refl w.heap.size w)
 unfold spec_l2Entry.f at h
 have H := h
 clear h
 have H' := Aside0.mk H
 clear H
 go_enter Tryz.func93, Tryz.ntmps93
 go_wp2_with (first | ((with_reducible refine gate_dst (N := 1) rfl ?_); (try (refine gate_guard (by rfl) ?_; dsimp only)); refine box_event rfl (N := 1) rfl (cs := #[.string a0_0, .string a0_1]) (t := 100) (by go_simp <;> rfl) ?_; intro gb101 hg w2 hbox hb; have BK101 := Aside0.mk (hbox); have GW101 := Le_.mk (ge_of hg HB.out); have GE101 := Le_.mk (ge_of hg HB.out); replace HB := kB HB hb; clear hb hbox hg))
 repeat (go_quiet (first | ((with_reducible refine gate_dst (N := 1) rfl ?_); (try (refine gate_guard (by rfl) ?_; dsimp only)); refine box_event rfl (N := 1) rfl (cs := #[.string a0_0, .string a0_1]) (t := 100) (by go_simp <;> rfl) ?_; intro gb101 hg w2 hbox hb; have BK101 := Aside0.mk (hbox); have GW101 := Le_.mk (ge_of hg HB.out); have GE101 := Le_.mk (ge_of hg HB.out); replace HB := kB HB hb; clear hb hbox hg)); try go_wp2_with (first | ((with_reducible refine gate_dst (N := 1) rfl ?_); (try (refine gate_guard (by rfl) ?_; dsimp only)); refine box_event rfl (N := 1) rfl (cs := #[.string a0_0, .string a0_1]) (t := 100) (by go_simp <;> rfl) ?_; intro gb101 hg w2 hbox hb; have BK101 := Aside0.mk (hbox); have GW101 := Le_.mk (ge_of hg HB.out); have GE101 := Le_.mk (ge_of hg HB.out); replace HB := kB HB hb; clear hb hbox hg)))
 go_loopg [3] k (fun kq v3 w' => ∃ (x3_1 : Int), v3 = .int .i64 x3_1 ∧ Aside0 (spec_l2Entry.l0 kq x3_1 a0_0 a0_1 = some r) ∧ Aside0 (kq ≤ k) ∧ Aside0 (w'.heap[gb101]? = some (.cells #[.string a0_0, .string a0_1] 100 (0, 0))) ∧ Aside0 (Below w.heap.size w w'))
 case atStart => exact ⟨(0), (by first | rfl | (simp; done) | (simp [*]; done)), H', ⟨Nat.le_refl _⟩, ⟨gx (BK101.out)⟩, ⟨bx HB.out⟩⟩
 case round =>
  clear H'
  try clear p2
  obtain ⟨x3_1, rfl, HA, HK1, BK101, HB⟩ := hrel
  cases gk with
  | zero => exact absurd HA.out (by simp [spec_l2Entry.l0])
  | succ k1 =>
   have H := HA.out
   clear HA
   simp only [spec_l2Entry.l0] at H
   by_cases c3 : x3_1 < (a0_1.size : Int)
   ·rw [if_pos c3] at H
    have c3b0 := decide_eq_true c3
    clear c3
    have c4 := ite_y H
    replace H := ite_t H
    have c4b0 := eq_true c4
    have c4b1 := decide_eq_true c4
    clear c4
    have c5 := ite_y H
    replace H := ite_t H
    have c5w := i64_w (x3_1 + 1)
    have c5b0 := eq_true c5
    have c5b1 := decide_eq_true c5
    have c6 := ite_y H
    replace H := ite_t H
    have c6b0 := eq_true c6
    have c6b1 := decide_eq_true c6
    replace H := Option.bind_eq_some_iff.mp H
    obtain ⟨t102, A70, H⟩ := H
    have A7 := Aside0.mk A70
    clear A70
    by_cases c8 : t102 = true
    ·subst c8
     rw [if_pos rfl] at H
     by_cases c9 : x3_1 > 0
     ·rw [if_pos c9] at H
      have c9b0 : decide (0 < x3_1) = true := decide_eq_true c9
      clear c9
      obtain ⟨ji10, hji10⟩ : ∃ j_ : Int, (wrap64 (x3_1 - 1)) = j_ := ⟨_, rfl⟩
      replace H : (if 0 ≤ (ji10) then (if (ji10) < (a0_1.size : Int) then (if (bt a0_1 (ji10)) ≥ (bt a0_1 x3_1) then (some false) else (spec_l2Entry.l0 k1 (wrap64 (x3_1 + 1)) a0_0 a0_1)) else (none)) else (none)) = some r := by first | (rw [hji10] at H; exact H) | (simp only [hji10] at H ⊢; exact H)
      (try rw [hji10] at A7)
      have hji10w : (IntKind.i64.wrap (x3_1 - 1)) = ji10 := (i64_w _).trans hji10
      have c11 := ite_y H
      replace H := ite_t H
      have c11b0 := decide_eq_true c11
      clear c11
      have c12 := ite_y H
      replace H := ite_t H
      have c12b0 := decide_eq_true c12
      clear c12
      by_cases c15 : (bt a0_1 (ji10)) ≥ (bt a0_1 x3_1)
      ·rw [if_pos c15] at H
       have c15b0 : decide ((bt a0_1 x3_1) ≤ (bt a0_1 (ji10))) = true := decide_eq_true c15
       clear c15
       obtain rfl := Option.some.inj H
       have hz16 := cells_2 BK101.out
       go_wp2_with (first | (go_at_call 131; (with_reducible refine (spec_l2Flag.calls (a0_1.extract (x3_1 : Int).toNat ((wrap64 (x3_1 + 1)) : Int).toNat) true _ A7.out).mono ?_); rintro e w' ⟨rfl, ⟨nd, rfl⟩⟩; (try first | exact ⟨rfl, _, World.drewN_drewN _ _ _⟩ | exact ⟨rfl, _, Eq.trans (World.drewN_drewN _ _ _) (congrArg (World.drewN _) (Nat.add_assoc _ _ _))⟩); have p13 := of_decide_eq_true c11b0; have q13 := of_decide_eq_true c12b0; have hx13 := bt_at a0_1 (ji10); replace p13 := eq_true p13; replace q13 := eq_true q13; have p14 := of_decide_eq_true c4b1; have q14 := of_decide_eq_true c3b0; have hx14 := bt_at a0_1 x3_1; replace p14 := eq_true p14; replace q14 := eq_true q14))
       repeat (go_quiet (first | (go_at_call 131; (with_reducible refine (spec_l2Flag.calls (a0_1.extract (x3_1 : Int).toNat ((wrap64 (x3_1 + 1)) : Int).toNat) true _ A7.out).mono ?_); rintro e w' ⟨rfl, ⟨nd, rfl⟩⟩; (try first | exact ⟨rfl, _, World.drewN_drewN _ _ _⟩ | exact ⟨rfl, _, Eq.trans (World.drewN_drewN _ _ _) (congrArg (World.drewN _) (Nat.add_assoc _ _ _))⟩); have p13 := of_decide_eq_true c11b0; have q13 := of_decide_eq_true c12b0; have hx13 := bt_at a0_1 (ji10); replace p13 := eq_true p13; replace q13 := eq_true q13; have p14 := of_decide_eq_true c4b1; have q14 := of_decide_eq_true c3b0; have hx14 := bt_at a0_1 x3_1; replace p14 := eq_true p14; replace q14 := eq_true q14)); try go_wp2_with (first | (go_at_call 131; (with_reducible refine (spec_l2Flag.calls (a0_1.extract (x3_1 : Int).toNat ((wrap64 (x3_1 + 1)) : Int).toNat) true _ A7.out).mono ?_); rintro e w' ⟨rfl, ⟨nd, rfl⟩⟩; (try first | exact ⟨rfl, _, World.drewN_drewN _ _ _⟩ | exact ⟨rfl, _, Eq.trans (World.drewN_drewN _ _ _) (congrArg (World.drewN _) (Nat.add_assoc _ _ _))⟩); have p13 := of_decide_eq_true c11b0; have q13 := of_decide_eq_true c12b0; have hx13 := bt_at a0_1 (ji10); replace p13 := eq_true p13; replace q13 := eq_true q13; have p14 := of_decide_eq_true c4b1; have q14 := of_decide_eq_true c3b0; have hx14 := bt_at a0_1 x3_1; replace p14 := eq_true p14; replace q14 := eq_true q14)))
       go_ret
       exact ⟨by first | rfl | (simp [errW_none, errW_some] <;> rfl) | (simp only [← hji10]; first | rfl | (simp [errW_none, errW_some] <;> rfl)) | (simp [*, errW_none, errW_some] <;> rfl), bx HB.out⟩
      ·rw [if_neg c15] at H
       have c15b0 : decide ((bt a0_1 x3_1) ≤ (bt a0_1 (ji10))) = false := decide_eq_false c15
       clear c15
       have H' := Aside0.mk H
       clear H
       have hz17 := cells_2 BK101.out
       go_wp2_with (first | (go_at_call 131; (with_reducible refine (spec_l2Flag.calls (a0_1.extract (x3_1 : Int).toNat ((wrap64 (x3_1 + 1)) : Int).toNat) true _ A7.out).mono ?_); rintro e w' ⟨rfl, ⟨nd, rfl⟩⟩; (try first | exact ⟨rfl, _, World.drewN_drewN _ _ _⟩ | exact ⟨rfl, _, Eq.trans (World.drewN_drewN _ _ _) (congrArg (World.drewN _) (Nat.add_assoc _ _ _))⟩); have p13 := of_decide_eq_true c11b0; have q13 := of_decide_eq_true c12b0; have hx13 := bt_at a0_1 (ji10); replace p13 := eq_true p13; replace q13 := eq_true q13; have p14 := of_decide_eq_true c4b1; have q14 := of_decide_eq_true c3b0; have hx14 := bt_at a0_1 x3_1; replace p14 := eq_true p14; replace q14 := eq_true q14))
       repeat (go_quiet (first | (go_at_call 131; (with_reducible refine (spec_l2Flag.calls (a0_1.extract (x3_1 : Int).toNat ((wrap64 (x3_1 + 1)) : Int).toNat) true _ A7.out).mono ?_); rintro e w' ⟨rfl, ⟨nd, rfl⟩⟩; (try first | exact ⟨rfl, _, World.drewN_drewN _ _ _⟩ | exact ⟨rfl, _, Eq.trans (World.drewN_drewN _ _ _) (congrArg (World.drewN _) (Nat.add_assoc _ _ _))⟩); have p13 := of_decide_eq_true c11b0; have q13 := of_decide_eq_true c12b0; have hx13 := bt_at a0_1 (ji10); replace p13 := eq_true p13; replace q13 := eq_true q13; have p14 := of_decide_eq_true c4b1; have q14 := of_decide_eq_true c3b0; have hx14 := bt_at a0_1 x3_1; replace p14 := eq_true p14; replace q14 := eq_true q14)); try go_wp2_with (first | (go_at_call 131; (with_reducible refine (spec_l2Flag.calls (a0_1.extract (x3_1 : Int).toNat ((wrap64 (x3_1 + 1)) : Int).toNat) true _ A7.out).mono ?_); rintro e w' ⟨rfl, ⟨nd, rfl⟩⟩; (try first | exact ⟨rfl, _, World.drewN_drewN _ _ _⟩ | exact ⟨rfl, _, Eq.trans (World.drewN_drewN _ _ _) (congrArg (World.drewN _) (Nat.add_assoc _ _ _))⟩); have p13 := of_decide_eq_true c11b0; have q13 := of_decide_eq_true c12b0; have hx13 := bt_at a0_1 (ji10); replace p13 := eq_true p13; replace q13 := eq_true q13; have p14 := of_decide_eq_true c4b1; have q14 := of_decide_eq_true c3b0; have hx14 := bt_at a0_1 x3_1; replace p14 := eq_true p14; replace q14 := eq_true q14)))
       go_roundg k1
       case measure => have := HK1.out; omega
       case rel => exact ⟨(wrap64 (x3_1 + 1)), (by first | rfl | (simp; done) | (simp [*]; done)), H', ⟨by have := HK1.out; omega⟩, ⟨gx (BK101.out)⟩, ⟨bx HB.out⟩⟩
     ·rw [if_neg c9] at H
      have c9b0 : decide (0 < x3_1) = false := decide_eq_false c9
      clear c9
      have H' := Aside0.mk H
      clear H
      have hz18 := cells_2 BK101.out
      go_wp2_with (first | (go_at_call 131; (with_reducible refine (spec_l2Flag.calls (a0_1.extract (x3_1 : Int).toNat ((wrap64 (x3_1 + 1)) : Int).toNat) true _ A7.out).mono ?_); rintro e w' ⟨rfl, ⟨nd, rfl⟩⟩; (try first | exact ⟨rfl, _, World.drewN_drewN _ _ _⟩ | exact ⟨rfl, _, Eq.trans (World.drewN_drewN _ _ _) (congrArg (World.drewN _) (Nat.add_assoc _ _ _))⟩)))
      repeat (go_quiet (first | (go_at_call 131; (with_reducible refine (spec_l2Flag.calls (a0_1.extract (x3_1 : Int).toNat ((wrap64 (x3_1 + 1)) : Int).toNat) true _ A7.out).mono ?_); rintro e w' ⟨rfl, ⟨nd, rfl⟩⟩; (try first | exact ⟨rfl, _, World.drewN_drewN _ _ _⟩ | exact ⟨rfl, _, Eq.trans (World.drewN_drewN _ _ _) (congrArg (World.drewN _) (Nat.add_assoc _ _ _))⟩))); try go_wp2_with (first | (go_at_call 131; (with_reducible refine (spec_l2Flag.calls (a0_1.extract (x3_1 : Int).toNat ((wrap64 (x3_1 + 1)) : Int).toNat) true _ A7.out).mono ?_); rintro e w' ⟨rfl, ⟨nd, rfl⟩⟩; (try first | exact ⟨rfl, _, World.drewN_drewN _ _ _⟩ | exact ⟨rfl, _, Eq.trans (World.drewN_drewN _ _ _) (congrArg (World.drewN _) (Nat.add_assoc _ _ _))⟩))))
      go_roundg k1
      case measure => have := HK1.out; omega
      case rel => exact ⟨(wrap64 (x3_1 + 1)), (by first | rfl | (simp; done) | (simp [*]; done)), H', ⟨by have := HK1.out; omega⟩, ⟨gx (BK101.out)⟩, ⟨bx HB.out⟩⟩
    ·replace c8 := Bool.eq_false_iff.mpr c8
     subst c8
     rw [if_neg Bool.false_ne_true] at H
     obtain rfl := Option.some.inj H
     have hz19 := cells_2 BK101.out
     go_wp2_with (first | (go_at_call 131; (with_reducible refine (spec_l2Flag.calls (a0_1.extract (x3_1 : Int).toNat ((wrap64 (x3_1 + 1)) : Int).toNat) false _ A7.out).mono ?_); rintro e w' ⟨rfl, ⟨nd, rfl⟩⟩; (try first | exact ⟨rfl, _, World.drewN_drewN _ _ _⟩ | exact ⟨rfl, _, Eq.trans (World.drewN_drewN _ _ _) (congrArg (World.drewN _) (Nat.add_assoc _ _ _))⟩)))
     repeat (go_quiet (first | (go_at_call 131; (with_reducible refine (spec_l2Flag.calls (a0_1.extract (x3_1 : Int).toNat ((wrap64 (x3_1 + 1)) : Int).toNat) false _ A7.out).mono ?_); rintro e w' ⟨rfl, ⟨nd, rfl⟩⟩; (try first | exact ⟨rfl, _, World.drewN_drewN _ _ _⟩ | exact ⟨rfl, _, Eq.trans (World.drewN_drewN _ _ _) (congrArg (World.drewN _) (Nat.add_assoc _ _ _))⟩))); try go_wp2_with (first | (go_at_call 131; (with_reducible refine (spec_l2Flag.calls (a0_1.extract (x3_1 : Int).toNat ((wrap64 (x3_1 + 1)) : Int).toNat) false _ A7.out).mono ?_); rintro e w' ⟨rfl, ⟨nd, rfl⟩⟩; (try first | exact ⟨rfl, _, World.drewN_drewN _ _ _⟩ | exact ⟨rfl, _, Eq.trans (World.drewN_drewN _ _ _) (congrArg (World.drewN _) (Nat.add_assoc _ _ _))⟩))))
     go_ret
     exact ⟨by rfl, bx HB.out⟩
   ·rw [if_neg c3] at H
    have c3b0 := decide_eq_false c3
    clear c3
    replace H := Option.bind_eq_some_iff.mp H
    obtain ⟨t103, A200, H⟩ := H
    have A20 := Aside0.mk A200
    clear A200
    by_cases c21 : t103 = true
    ·subst c21
     rw [if_pos rfl] at H
     obtain rfl := Option.some.inj H
     have hz22 := cells_2 BK101.out
     go_wp2_with (first | (go_at_call 112; (with_reducible refine (spec_l1Word.calls k1 a0_0 true _ A20.out).mono ?_); rintro e w' ⟨rfl, ⟨nd, rfl⟩⟩; (try first | exact ⟨rfl, _, World.drewN_drewN _ _ _⟩ | exact ⟨rfl, _, Eq.trans (World.drewN_drewN _ _ _) (congrArg (World.drewN _) (Nat.add_assoc _ _ _))⟩)))
     repeat (go_quiet (first | (go_at_call 112; (with_reducible refine (spec_l1Word.calls k1 a0_0 true _ A20.out).mono ?_); rintro e w' ⟨rfl, ⟨nd, rfl⟩⟩; (try first | exact ⟨rfl, _, World.drewN_drewN _ _ _⟩ | exact ⟨rfl, _, Eq.trans (World.drewN_drewN _ _ _) (congrArg (World.drewN _) (Nat.add_assoc _ _ _))⟩))); try go_wp2_with (first | (go_at_call 112; (with_reducible refine (spec_l1Word.calls k1 a0_0 true _ A20.out).mono ?_); rintro e w' ⟨rfl, ⟨nd, rfl⟩⟩; (try first | exact ⟨rfl, _, World.drewN_drewN _ _ _⟩ | exact ⟨rfl, _, Eq.trans (World.drewN_drewN _ _ _) (congrArg (World.drewN _) (Nat.add_assoc _ _ _))⟩))))
     go_ret
     exact ⟨by rfl, bx HB.out⟩
    ·replace c21 := Bool.eq_false_iff.mpr c21
     subst c21
     rw [if_neg Bool.false_ne_true] at H
     obtain rfl := Option.some.inj H
     have hz23 := cells_2 BK101.out
     go_wp2_with (first | (go_at_call 112; (with_reducible refine (spec_l1Word.calls k1 a0_0 false _ A20.out).mono ?_); rintro e w' ⟨rfl, ⟨nd, rfl⟩⟩; (try first | exact ⟨rfl, _, World.drewN_drewN _ _ _⟩ | exact ⟨rfl, _, Eq.trans (World.drewN_drewN _ _ _) (congrArg (World.drewN _) (Nat.add_assoc _ _ _))⟩)))
     repeat (go_quiet (first | (go_at_call 112; (with_reducible refine (spec_l1Word.calls k1 a0_0 false _ A20.out).mono ?_); rintro e w' ⟨rfl, ⟨nd, rfl⟩⟩; (try first | exact ⟨rfl, _, World.drewN_drewN _ _ _⟩ | exact ⟨rfl, _, Eq.trans (World.drewN_drewN _ _ _) (congrArg (World.drewN _) (Nat.add_assoc _ _ _))⟩))); try go_wp2_with (first | (go_at_call 112; (with_reducible refine (spec_l1Word.calls k1 a0_0 false _ A20.out).mono ?_); rintro e w' ⟨rfl, ⟨nd, rfl⟩⟩; (try first | exact ⟨rfl, _, World.drewN_drewN _ _ _⟩ | exact ⟨rfl, _, Eq.trans (World.drewN_drewN _ _ _) (congrArg (World.drewN _) (Nat.add_assoc _ _ _))⟩))))
     go_ret
     exact ⟨by rfl, bx HB.out⟩
theorem gf48 : Go_ Tryz.prog 48 Tryz.f48 := ⟨Tryz.func48, by kernel_rfl, rfl⟩
def spec_BookOk.l0 : Nat → Int → List (S103) → List (S100) → Option (Bool)
 | 0, _, _, _ => none
 | k + 1, x3, x102000, x102001 => if x3 < (x102001.length : Int) then (if 0 ≤ x3 then ((spec_l2Entry.f k ((rd_T100 x102001 x3).f0) ((rd_T100 x102001 x3).f1)).bind fun t103 => (if t103 = true then (if x3 > 0 then (if 0 ≤ (wrap64 (x3 - 1)) then (if (wrap64 (x3 - 1)) < (x102001.length : Int) then (if ((Op.bytesLess (((rd_T100 x102001 (wrap64 (x3 - 1))).f0).toList) (((rd_T100 x102001 x3).f0).toList)) = true) then (spec_BookOk.l0 k (wrap64 (x3 + 1)) x102000 x102001) else (some false)) else (none)) else (none)) else (spec_BookOk.l0 k (wrap64 (x3 + 1)) x102000 x102001)) else (some false))) else (none)) else ((spec_l2Affixes.f k x102000).bind fun t106 => (if t106 = true then (some (decide ((x102001.length : Int) ≤ 24))) else (some false)))
def spec_BookOk.f (k : Nat) (l0_0 : List (S103)) (l0_1 : List (S100)) : Option (Bool) := spec_BookOk.l0 k 0 l0_0 l0_1
theorem spec_BookOk.mono_l : ∀ k, (∀ y0 y1 y2, LeO (spec_BookOk.l0 k y0 y1 y2) (spec_BookOk.l0 (k + 1) y0 y1 y2))
 | 0 => fun _ _ _ r h => by simp [spec_BookOk.l0] at h
 | k + 1 => by
  have ih0 := spec_BookOk.mono_l k
  ·intro y0 y1 y2
   unfold spec_BookOk.l0
   have I0_ := fun a b c => LeC.mk (ih0 a b c)
   have I1_ := fun a b => LeC.mk (spec_l2Affixes.mono a b)
   have I2_ := fun a b c => LeC.mk (spec_l2Entry.mono a b c)
   exact LeC.out
theorem spec_BookOk.mono : ∀ a0 a1 k, LeO (spec_BookOk.f k a0 a1) (spec_BookOk.f (k + 1) a0 a1) := by
 intro a0 a1 k
 have ih0 := spec_BookOk.mono_l k
 unfold spec_BookOk.f
 have I0_ := fun a b c => LeC.mk (ih0 a b c)
 have I1_ := fun a b => LeC.mk (spec_l2Affixes.mono a b)
 have I2_ := fun a b c => LeC.mk (spec_l2Entry.mono a b c)
 exact LeC.out
def spec_BookOk.T4 : Bool × List (List Nat × List Nat) := (true, [([], []), ([0], [0]), ([], []), ([1, 2], [1, 2]), ([3], [3]), ([4], [4]), ([5], [5]), ([6, 5], [6]), ([7], [7]), ([8, 7], [7, 8]), ([9, 7, 7], [7, 9]), ([10], [10]), ([11, 10], [10, 11]), ([10], [10]), ([13, 10], [10, 13]), ([12, 14, 10], [10, 12, 14]), ([15, 10], [10, 15]), ([16, 10], [10, 16]), ([10], [10]), ([18, 10], [10, 18]), ([10], [10]), ([19, 20, 10], [10, 19, 20]), ([21, 10], [10, 21]), ([22, 10], [10, 22]), ([17, 23, 10], [10, 17, 23]), ([10, 24, 7], [7, 10, 24]), ([7, 25], [7, 25])])
def spec_BookOk.B4 : List Nat := [0, 1, 0, 7, 15, 31, 63, 127, 255, 511, 1023, 2047, 4095, 2047, 10239, 32767, 65535, 131071, 2047, 264191, 2047, 1837055, 3934207, 8128511, 16777215, 33554431, 67108863]
theorem spec_BookOk.tab4 : rtab .any (opsOf Tryz.f48 4) = spec_BookOk.T4 := by kernel_rfl
theorem spec_BookOk.bits4 : waitsOk spec_BookOk.T4.2 spec_BookOk.B4 = true := by kernel_rfl
theorem spec_BookOk.calls (k : Nat) (A0_0 : Option Addr) (c0_0 : Nat) (l0_0 : List (S103)) (A0_1 : Option Addr) (c0_1 : Nat) (l0_1 : List (S100)) (r : Bool) (w : World) (hr0_0 : Kd.C k103 w A0_0 l0_0.length l0_0) (hc0_0 : l0_0.length ≤ c0_0) (hr0_1 : Kd.C k100 w A0_1 l0_1.length l0_1) (hc0_1 : l0_1.length ≤ c0_1) (h : spec_BookOk.f k l0_0 l0_1 = some r) :
  Calls Tryz.prog 48 #[.agg #[.slice A0_0 l0_0.length c0_0, .slice A0_1 l0_1.length c0_1]] w fun e w' => e = .returned (.bool r) ∧ Below w.heap.size w w' := by
 have hu51 := Tryz.underlying51
 have hu100 := Tryz.underlying100
 have HR0_0 := Aside0.mk hr0_0
 have HC0_0 := Aside0.mk hc0_0
 clear hr0_0 hc0_0
 have HR0_1 := Aside0.mk hr0_1
 have HC0_1 := Aside0.mk hc0_1
 clear hr0_1 hc0_1
 have HB := Aside0.mk (Below.refl w.heap.size w)
 unfold spec_BookOk.f at h
 have H := h
 clear h
 have H' := Aside0.mk H
 clear H
 go_enter Tryz.func48, Tryz.ntmps48
 go_wp2_with (first | ((with_reducible refine gate_dst (N := 1) rfl ?_); (try (refine gate_guard (by rfl) ?_; dsimp only)); refine box_event rfl (N := 1) rfl (cs := #[.slice A0_0 l0_0.length c0_0, .slice A0_1 l0_1.length c0_1]) (t := 51) (by go_simp <;> rfl) ?_; intro gb101 hg w2 hbox hb; have BK101 := Aside0.mk (hbox); have GW101 := Le_.mk (ge_of hg HB.out); have GE101 := Le_.mk (ge_of hg HB.out); replace HB := kB HB hb; clear hb hbox hg))
 go_loopg [3] k (fun kq v3 w' => ∃ (x3_1 : Int), v3 = .int .i64 x3_1 ∧ Aside0 (spec_BookOk.l0 kq x3_1 l0_0 l0_1 = some r) ∧ Aside0 (kq ≤ k) ∧ Aside0 (w'.heap[gb101]? = some (.cells #[(.slice A0_0 l0_0.length c0_0), (.slice A0_1 l0_1.length c0_1)] 51 (0, 0))) ∧ Aside0 (Below w.heap.size w w'))
 case atStart => exact ⟨(0), (by first | rfl | (simp; done) | (simp [*]; done)), H', ⟨Nat.le_refl _⟩, ⟨gx (BK101.out)⟩, ⟨bx HB.out⟩⟩
 case round =>
  clear H'
  try clear p2
  obtain ⟨x3_1, rfl, HA, HK1, BK101, HB⟩ := hrel
  cases gk with
  | zero => exact absurd HA.out (by simp [spec_BookOk.l0])
  | succ k1 =>
   have H := HA.out
   clear HA
   simp only [spec_BookOk.l0] at H
   by_cases c3 : x3_1 < (l0_1.length : Int)
   ·rw [if_pos c3] at H
    have c3b0 := decide_eq_true c3
    clear c3
    have c4 := ite_y H
    replace H := ite_t H
    have c4b0 := decide_eq_true c4
    clear c4
    replace H := Option.bind_eq_some_iff.mp H
    obtain ⟨t103, A50, H⟩ := H
    have A5 := Aside0.mk A50
    clear A50
    by_cases c6 : t103 = true
    ·subst c6
     rw [if_pos rfl] at H
     by_cases c7 : x3_1 > 0
     ·rw [if_pos c7] at H
      have c7b0 : decide (0 < x3_1) = true := decide_eq_true c7
      clear c7
      obtain ⟨ji8, hji8⟩ : ∃ j_ : Int, (wrap64 (x3_1 - 1)) = j_ := ⟨_, rfl⟩
      replace H : (if 0 ≤ (ji8) then (if (ji8) < (l0_1.length : Int) then (if ((Op.bytesLess (((rd_T100 l0_1 (ji8)).f0).toList) (((rd_T100 l0_1 x3_1).f0).toList)) = true) then (spec_BookOk.l0 k1 (wrap64 (x3_1 + 1)) l0_0 l0_1) else (some false)) else (none)) else (none)) = some r := by first | (rw [hji8] at H; exact H) | (simp only [hji8] at H ⊢; exact H)
      (try rw [hji8] at A5)
      have hji8w : (IntKind.i64.wrap (x3_1 - 1)) = ji8 := (i64_w _).trans hji8
      have c9 := ite_y H
      replace H := ite_t H
      have c9b0 := decide_eq_true c9
      clear c9
      have c10 := ite_y H
      replace H := ite_t H
      have c10b0 := decide_eq_true c10
      clear c10
      by_cases c11 : ((Op.bytesLess (((rd_T100 l0_1 (ji8)).f0).toList) (((rd_T100 l0_1 x3_1).f0).toList)) = true)
      ·rw [if_pos c11] at H
       have c11b0 : (Op.bytesLess (((rd_T100 l0_1 (ji8)).f0).toList) (((rd_T100 l0_1 x3_1).f0).toList)) = true := c11
       clear c11
       have H' := Aside0.mk H
       clear H
       have hz12 := cells_2 BK101.out
       try go_wp2
       replace BK101 := Aside0.mk (blk_drew BK101.out)
       replace HB := Aside0.mk (below_drew1 HB.out)
       have p102 := of_decide_eq_true c4b0
       have q102 := of_decide_eq_true c3b0
       obtain ⟨ad102, e102, hx102_0, hx102_1⟩ := at_T100 HR0_1.out x3_1 p102 q102
       have hw102_1 := hx102_1
       have hw102_0 := hx102_0
       cases e102
       replace hx102_0 := px HB.out hx102_0
       replace hx102_1 := px HB.out hx102_1
       replace p102 := eq_true p102
       replace q102 := eq_true q102
       have p104 := of_decide_eq_true c9b0
       have q104 := of_decide_eq_true c10b0
       obtain ⟨ad104, e104, hx104_0, hx104_1⟩ := at_T100 HR0_1.out (ji8) p104 q104
       have hw104_1 := hx104_1
       have hw104_0 := hx104_0
       obtain rfl : ad102 = ad104 := (by injection e104)
       replace hx104_0 := px HB.out hx104_0
       replace hx104_1 := px HB.out hx104_1
       replace p104 := eq_true p104
       replace q104 := eq_true q104
       have p105 := of_decide_eq_true c4b0
       have q105 := of_decide_eq_true c3b0
       obtain ⟨ad105, e105, hx105_0, hx105_1⟩ := at_T100 HR0_1.out x3_1 p105 q105
       have hw105_1 := hx105_1
       have hw105_0 := hx105_0
       obtain rfl : ad102 = ad105 := (by injection e105)
       replace hx105_0 := px HB.out hx105_0
       replace hx105_1 := px HB.out hx105_1
       replace p105 := eq_true p105
       replace q105 := eq_true q105
       refine start_ (n := 27) (S := fun w' => w'.cell? ⟨gb101, 0, none⟩ = some (.slice A0_0 l0_0.length c0_0) ∧ w'.cell? ⟨gb101, 1, none⟩ = some (.slice (some ad102) l0_1.length c0_1) ∧ w'.cell? (ad102.add ((x3_1).toNat * 2)) = some (.string ((rd_T100 l0_1 x3_1).f0)) ∧ w'.cell? ⟨(ad102.add ((x3_1).toNat * 2)).block, (ad102.add ((x3_1).toNat * 2)).off + 1, none⟩ = some (.string ((rd_T100 l0_1 x3_1).f1)) ∧ w'.cell? (ad102.add (((ji8)).toNat * 2)) = some (.string ((rd_T100 l0_1 (ji8)).f0)) ∧ w'.cell? ⟨(ad102.add (((ji8)).toNat * 2)).block, (ad102.add (((ji8)).toNat * 2)).off + 1, none⟩ = some (.string ((rd_T100 l0_1 (ji8)).f1)) ∧ w'.cell? (ad102.add ((x3_1).toNat * 2)) = some (.string ((rd_T100 l0_1 x3_1).f0)) ∧ w'.cell? ⟨(ad102.add ((x3_1).toNat * 2)).block, (ad102.add ((x3_1).toNat * 2)).off + 1, none⟩ = some (.string ((rd_T100 l0_1 x3_1).f1))) (ds := []) _ (by kernel_rfl) rfl rfl ⟨(blk_cell BK101.out 0).trans rfl, (blk_cell BK101.out 1).trans rfl, (px HB.out hw102_0), (px HB.out hw102_1), (px HB.out hw104_0), (px HB.out hw104_1), (px HB.out hw105_0), (px HB.out hw105_1)⟩ (fun hHeld => ?_); refine with_tabW spec_BookOk.tab4 spec_BookOk.bits4 (fun HT_ HW_ => ?_)
       generalize wr.drew = w13 at BK101 HB hx102_0 hx102_1 hx104_0 hx104_1 hx105_0 hx105_1 hHeld ⊢
       refine ord_ [.p 0 11, .p 2 13, .t 1 12, .p 3 14, .t 4 15] ?_
       repeat (first | (refine pu_ (v := ?_) (a' := ?_) HT_ rfl rfl (by kernel_rfl) (fun _ _ _ h => h) (by rfl) ?_ ?_ ?_; rotate_left 2; (intro w'; go_simp; with_reducible rfl); (simp only [Act.put, List.setIfInBounds_toArray, List.set_cons_zero, List.set_cons_succ, i64_w, i32_w]; rfl)) | (refine ta_ (v := ?_) (a' := ?_) HT_ HW_ rfl rfl (by kernel_rfl) (fun _ _ _ h => h) (by rfl) hHeld ?_ ?_ ?_; rotate_left 2; (rintro w' ⟨s0, s1, s2, s3, s4, s5, s6, s7⟩; go_simp; with_reducible rfl); (simp only [Act.put, List.setIfInBounds_toArray, List.set_cons_zero, List.set_cons_succ, i64_w, i32_w]; rfl)))
       refine ord0 ?_
       refine on_ (i := 5) (N := some 16) HT_ rfl rfl (by kernel_rfl) (by decide) (fun K hK => ?_)
       refine goM gf93 #[.agg #[.string ((rd_T100 l0_1 x3_1).f0), .string ((rd_T100 l0_1 x3_1).f1)]] (by rfl) rfl rfl rfl ?_
       with_reducible refine (spec_l2Entry.calls k1 ((rd_T100 l0_1 x3_1).f0) ((rd_T100 l0_1 x3_1).f1) true _ A5.out).mono ?_
       rintro e w14 ⟨rfl, hb⟩
       refine ⟨_, rfl, ?_⟩
       replace BK101 := kb BK101 hb
       replace HB := kB HB hb
       (try clear hb)
       (try clear hb2)
       (try clear hk)
       (try clear hi)
       refine hK.out _ _ ⟨(blk_cell BK101.out 0).trans rfl, (blk_cell BK101.out 1).trans rfl, (pz HB.out hw102_0), (pz HB.out hw102_1), (pz HB.out hw104_0), (pz HB.out hw104_1), (pz HB.out hw105_0), (pz HB.out hw105_1)⟩ (fun hHeld => ?_)
       clear hK K
       refine norm_ (a' := ?_) ?_ ?_
       rotate_left
       ·show Act.put _ (some 16) _ = _
        simp only [Act.put, List.setIfInBounds_toArray, List.set_cons_zero, List.set_cons_succ, i64_w, i32_w]
        rfl
       refine ord_ [.p 6 17, .p 7 18, .p 8 19, .p 9 20, .p 10 21, .p 11 22, .p 13 24, .p 14 25, .p 18 29, .p 20 31, .t 12 23, .p 15 26, .p 16 27, .t 17 28, .t 19 30, .p 21 32, .p 22 33, .t 23 34, .p 24 35, .p 25 36, .p 26 37] ?_
       repeat (first | (refine pu_ (v := ?_) (a' := ?_) HT_ rfl rfl (by kernel_rfl) (fun _ _ _ h => h) (by rfl) ?_ ?_ ?_; rotate_left 2; (intro w'; go_simp; with_reducible rfl); (simp only [Act.put, List.setIfInBounds_toArray, List.set_cons_zero, List.set_cons_succ, i64_w, i32_w]; rfl)) | (refine ta_ (v := ?_) (a' := ?_) HT_ HW_ rfl rfl (by kernel_rfl) (fun _ _ _ h => h) (by rfl) hHeld ?_ ?_ ?_; rotate_left 2; (rintro w' ⟨s0, s1, s2, s3, s4, s5, s6, s7⟩; go_simp; with_reducible rfl); (simp only [Act.put, List.setIfInBounds_toArray, List.set_cons_zero, List.set_cons_succ, i64_w, i32_w]; rfl)))
       refine ord0 ?_
       refine done_ (done_of HT_.out (by kernel_rfl)) ?_
       try go_wp2
       go_roundg k1
       case measure => have := HK1.out; omega
       case rel => exact ⟨(wrap64 (x3_1 + 1)), (by first | rfl | (simp; done) | (simp [*]; done)), H', ⟨by have := HK1.out; omega⟩, ⟨gx (BK101.out)⟩, ⟨bx HB.out⟩⟩
      ·rw [if_neg c11] at H
       have c11b0 : (Op.bytesLess (((rd_T100 l0_1 (ji8)).f0).toList) (((rd_T100 l0_1 x3_1).f0).toList)) = false := by simpa using c11
       clear c11
       obtain rfl := Option.some.inj H
       have hz15 := cells_2 BK101.out
       try go_wp2
       replace BK101 := Aside0.mk (blk_drew BK101.out)
       replace HB := Aside0.mk (below_drew1 HB.out)
       have p102 := of_decide_eq_true c4b0
       have q102 := of_decide_eq_true c3b0
       obtain ⟨ad102, e102, hx102_0, hx102_1⟩ := at_T100 HR0_1.out x3_1 p102 q102
       have hw102_1 := hx102_1
       have hw102_0 := hx102_0
       cases e102
       replace hx102_0 := px HB.out hx102_0
       replace hx102_1 := px HB.out hx102_1
       replace p102 := eq_true p102
       replace q102 := eq_true q102
       have p104 := of_decide_eq_true c9b0
       have q104 := of_decide_eq_true c10b0
       obtain ⟨ad104, e104, hx104_0, hx104_1⟩ := at_T100 HR0_1.out (ji8) p104 q104
       have hw104_1 := hx104_1
       have hw104_0 := hx104_0
       obtain rfl : ad102 = ad104 := (by injection e104)
       replace hx104_0 := px HB.out hx104_0
       replace hx104_1 := px HB.out hx104_1
       replace p104 := eq_true p104
       replace q104 := eq_true q104
       have p105 := of_decide_eq_true c4b0
       have q105 := of_decide_eq_true c3b0
       obtain ⟨ad105, e105, hx105_0, hx105_1⟩ := at_T100 HR0_1.out x3_1 p105 q105
       have hw105_1 := hx105_1
       have hw105_0 := hx105_0
       obtain rfl : ad102 = ad105 := (by injection e105)
       replace hx105_0 := px HB.out hx105_0
       replace hx105_1 := px HB.out hx105_1
       replace p105 := eq_true p105
       replace q105 := eq_true q105
       refine start_ (n := 27) (S := fun w' => w'.cell? ⟨gb101, 0, none⟩ = some (.slice A0_0 l0_0.length c0_0) ∧ w'.cell? ⟨gb101, 1, none⟩ = some (.slice (some ad102) l0_1.length c0_1) ∧ w'.cell? (ad102.add ((x3_1).toNat * 2)) = some (.string ((rd_T100 l0_1 x3_1).f0)) ∧ w'.cell? ⟨(ad102.add ((x3_1).toNat * 2)).block, (ad102.add ((x3_1).toNat * 2)).off + 1, none⟩ = some (.string ((rd_T100 l0_1 x3_1).f1)) ∧ w'.cell? (ad102.add (((ji8)).toNat * 2)) = some (.string ((rd_T100 l0_1 (ji8)).f0)) ∧ w'.cell? ⟨(ad102.add (((ji8)).toNat * 2)).block, (ad102.add (((ji8)).toNat * 2)).off + 1, none⟩ = some (.string ((rd_T100 l0_1 (ji8)).f1)) ∧ w'.cell? (ad102.add ((x3_1).toNat * 2)) = some (.string ((rd_T100 l0_1 x3_1).f0)) ∧ w'.cell? ⟨(ad102.add ((x3_1).toNat * 2)).block, (ad102.add ((x3_1).toNat * 2)).off + 1, none⟩ = some (.string ((rd_T100 l0_1 x3_1).f1))) (ds := []) _ (by kernel_rfl) rfl rfl ⟨(blk_cell BK101.out 0).trans rfl, (blk_cell BK101.out 1).trans rfl, (px HB.out hw102_0), (px HB.out hw102_1), (px HB.out hw104_0), (px HB.out hw104_1), (px HB.out hw105_0), (px HB.out hw105_1)⟩ (fun hHeld => ?_); refine with_tabW spec_BookOk.tab4 spec_BookOk.bits4 (fun HT_ HW_ => ?_)
       generalize wr.drew = w16 at BK101 HB hx102_0 hx102_1 hx104_0 hx104_1 hx105_0 hx105_1 hHeld ⊢
       refine ord_ [.p 0 11, .p 2 13, .t 1 12, .p 3 14, .t 4 15] ?_
       repeat (first | (refine pu_ (v := ?_) (a' := ?_) HT_ rfl rfl (by kernel_rfl) (fun _ _ _ h => h) (by rfl) ?_ ?_ ?_; rotate_left 2; (intro w'; go_simp; with_reducible rfl); (simp only [Act.put, List.setIfInBounds_toArray, List.set_cons_zero, List.set_cons_succ, i64_w, i32_w]; rfl)) | (refine ta_ (v := ?_) (a' := ?_) HT_ HW_ rfl rfl (by kernel_rfl) (fun _ _ _ h => h) (by rfl) hHeld ?_ ?_ ?_; rotate_left 2; (rintro w' ⟨s0, s1, s2, s3, s4, s5, s6, s7⟩; go_simp; with_reducible rfl); (simp only [Act.put, List.setIfInBounds_toArray, List.set_cons_zero, List.set_cons_succ, i64_w, i32_w]; rfl)))
       refine ord0 ?_
       refine on_ (i := 5) (N := some 16) HT_ rfl rfl (by kernel_rfl) (by decide) (fun K hK => ?_)
       refine goM gf93 #[.agg #[.string ((rd_T100 l0_1 x3_1).f0), .string ((rd_T100 l0_1 x3_1).f1)]] (by rfl) rfl rfl rfl ?_
       with_reducible refine (spec_l2Entry.calls k1 ((rd_T100 l0_1 x3_1).f0) ((rd_T100 l0_1 x3_1).f1) true _ A5.out).mono ?_
       rintro e w17 ⟨rfl, hb⟩
       refine ⟨_, rfl, ?_⟩
       replace BK101 := kb BK101 hb
       replace HB := kB HB hb
       (try clear hb)
       (try clear hb2)
       (try clear hk)
       (try clear hi)
       refine hK.out _ _ ⟨(blk_cell BK101.out 0).trans rfl, (blk_cell BK101.out 1).trans rfl, (pz HB.out hw102_0), (pz HB.out hw102_1), (pz HB.out hw104_0), (pz HB.out hw104_1), (pz HB.out hw105_0), (pz HB.out hw105_1)⟩ (fun hHeld => ?_)
       clear hK K
       refine norm_ (a' := ?_) ?_ ?_
       rotate_left
       ·show Act.put _ (some 16) _ = _
        simp only [Act.put, List.setIfInBounds_toArray, List.set_cons_zero, List.set_cons_succ, i64_w, i32_w]
        rfl
       refine ord_ [.p 6 17, .p 7 18, .p 8 19, .p 9 20, .p 10 21, .p 11 22, .p 13 24, .p 14 25, .p 18 29, .p 20 31, .t 12 23, .p 15 26, .p 16 27, .t 17 28, .t 19 30, .p 21 32, .p 22 33, .t 23 34, .p 24 35, .p 25 36, .p 26 37] ?_
       repeat (first | (refine pu_ (v := ?_) (a' := ?_) HT_ rfl rfl (by kernel_rfl) (fun _ _ _ h => h) (by rfl) ?_ ?_ ?_; rotate_left 2; (intro w'; go_simp; with_reducible rfl); (simp only [Act.put, List.setIfInBounds_toArray, List.set_cons_zero, List.set_cons_succ, i64_w, i32_w]; rfl)) | (refine ta_ (v := ?_) (a' := ?_) HT_ HW_ rfl rfl (by kernel_rfl) (fun _ _ _ h => h) (by rfl) hHeld ?_ ?_ ?_; rotate_left 2; (rintro w' ⟨s0, s1, s2, s3, s4, s5, s6, s7⟩; go_simp; with_reducible rfl); (simp only [Act.put, List.setIfInBounds_toArray, List.set_cons_zero, List.set_cons_succ, i64_w, i32_w]; rfl)))
       refine ord0 ?_
       refine done_ (done_of HT_.out (by kernel_rfl)) ?_
       try go_wp2
       go_ret
       exact ⟨by first | rfl | (simp [errW_none, errW_some] <;> rfl) | (simp only [← hji8]; first | rfl | (simp [errW_none, errW_some] <;> rfl)) | (simp [*, errW_none, errW_some] <;> rfl), bx HB.out⟩
     ·rw [if_neg c7] at H
      have c7b0 : decide (0 < x3_1) = false := decide_eq_false c7
      clear c7
      have H' := Aside0.mk H
      clear H
      have hz18 := cells_2 BK101.out
      try go_wp2
      replace BK101 := Aside0.mk (blk_drew BK101.out)
      replace HB := Aside0.mk (below_drew1 HB.out)
      have p102 := of_decide_eq_true c4b0
      have q102 := of_decide_eq_true c3b0
      obtain ⟨ad102, e102, hx102_0, hx102_1⟩ := at_T100 HR0_1.out x3_1 p102 q102
      have hw102_1 := hx102_1
      have hw102_0 := hx102_0
      cases e102
      replace hx102_0 := px HB.out hx102_0
      replace hx102_1 := px HB.out hx102_1
      replace p102 := eq_true p102
      replace q102 := eq_true q102
      refine start_ (n := 27) (S := fun w' => w'.cell? ⟨gb101, 0, none⟩ = some (.slice A0_0 l0_0.length c0_0) ∧ w'.cell? ⟨gb101, 1, none⟩ = some (.slice (some ad102) l0_1.length c0_1) ∧ w'.cell? (ad102.add ((x3_1).toNat * 2)) = some (.string ((rd_T100 l0_1 x3_1).f0)) ∧ w'.cell? ⟨(ad102.add ((x3_1).toNat * 2)).block, (ad102.add ((x3_1).toNat * 2)).off + 1, none⟩ = some (.string ((rd_T100 l0_1 x3_1).f1))) (ds := []) _ (by kernel_rfl) rfl rfl ⟨(blk_cell BK101.out 0).trans rfl, (blk_cell BK101.out 1).trans rfl, (px HB.out hw102_0), (px HB.out hw102_1)⟩ (fun hHeld => ?_); refine with_tabW spec_BookOk.tab4 spec_BookOk.bits4 (fun HT_ HW_ => ?_)
      generalize wr.drew = w19 at BK101 HB hx102_0 hx102_1 hHeld ⊢
      refine ord_ [.p 0 11, .p 2 13, .t 1 12, .p 3 14, .t 4 15] ?_
      repeat (first | (refine pu_ (v := ?_) (a' := ?_) HT_ rfl rfl (by kernel_rfl) (fun _ _ _ h => h) (by rfl) ?_ ?_ ?_; rotate_left 2; (intro w'; go_simp; with_reducible rfl); (simp only [Act.put, List.setIfInBounds_toArray, List.set_cons_zero, List.set_cons_succ, i64_w, i32_w]; rfl)) | (refine ta_ (v := ?_) (a' := ?_) HT_ HW_ rfl rfl (by kernel_rfl) (fun _ _ _ h => h) (by rfl) hHeld ?_ ?_ ?_; rotate_left 2; (rintro w' ⟨s0, s1, s2, s3⟩; go_simp; with_reducible rfl); (simp only [Act.put, List.setIfInBounds_toArray, List.set_cons_zero, List.set_cons_succ, i64_w, i32_w]; rfl)))
      refine ord0 ?_
      refine on_ (i := 5) (N := some 16) HT_ rfl rfl (by kernel_rfl) (by decide) (fun K hK => ?_)
      refine goM gf93 #[.agg #[.string ((rd_T100 l0_1 x3_1).f0), .string ((rd_T100 l0_1 x3_1).f1)]] (by rfl) rfl rfl rfl ?_
      with_reducible refine (spec_l2Entry.calls k1 ((rd_T100 l0_1 x3_1).f0) ((rd_T100 l0_1 x3_1).f1) true _ A5.out).mono ?_
      rintro e w20 ⟨rfl, hb⟩
      refine ⟨_, rfl, ?_⟩
      replace BK101 := kb BK101 hb
      replace HB := kB HB hb
      (try clear hb)
      (try clear hb2)
      (try clear hk)
      (try clear hi)
      refine hK.out _ _ ⟨(blk_cell BK101.out 0).trans rfl, (blk_cell BK101.out 1).trans rfl, (pz HB.out hw102_0), (pz HB.out hw102_1)⟩ (fun hHeld => ?_)
      clear hK K
      refine norm_ (a' := ?_) ?_ ?_
      rotate_left
      ·show Act.put _ (some 16) _ = _
       simp only [Act.put, List.setIfInBounds_toArray, List.set_cons_zero, List.set_cons_succ, i64_w, i32_w]
       rfl
      refine ord_ [.p 6 17, .p 7 18, .p 8 19, .p 9 20, .p 10 21, .u 11 22, .u 12 23, .u 13 24, .u 14 25, .u 15 26, .u 16 27, .u 17 28, .u 18 29, .u 19 30, .u 20 31, .u 21 32, .u 22 33, .u 23 34, .u 24 35, .p 25 36, .p 26 37] ?_
      repeat (first | (refine pu_ (v := ?_) (a' := ?_) HT_ rfl rfl (by kernel_rfl) (fun _ _ _ h => h) (by rfl) ?_ ?_ ?_; rotate_left 2; (intro w'; go_simp; with_reducible rfl); (simp only [Act.put, List.setIfInBounds_toArray, List.set_cons_zero, List.set_cons_succ, i64_w, i32_w]; rfl)) | (refine un_ (a' := ?_) HT_ rfl rfl (by kernel_rfl) (fun _ _ _ h => h) (by rfl) ?_ ?_; rotate_left; (simp only [Act.put, List.setIfInBounds_toArray, List.set_cons_zero, List.set_cons_succ, i64_w, i32_w]; rfl)))
      refine ord0 ?_
      refine done_ (done_of HT_.out (by kernel_rfl)) ?_
      try go_wp2
      go_roundg k1
      case measure => have := HK1.out; omega
      case rel => exact ⟨(wrap64 (x3_1 + 1)), (by first | rfl | (simp; done) | (simp [*]; done)), H', ⟨by have := HK1.out; omega⟩, ⟨gx (BK101.out)⟩, ⟨bx HB.out⟩⟩
    ·replace c6 := Bool.eq_false_iff.mpr c6
     subst c6
     rw [if_neg Bool.false_ne_true] at H
     obtain rfl := Option.some.inj H
     have hz21 := cells_2 BK101.out
     try go_wp2
     replace BK101 := Aside0.mk (blk_drew BK101.out)
     replace HB := Aside0.mk (below_drew1 HB.out)
     have p102 := of_decide_eq_true c4b0
     have q102 := of_decide_eq_true c3b0
     obtain ⟨ad102, e102, hx102_0, hx102_1⟩ := at_T100 HR0_1.out x3_1 p102 q102
     have hw102_1 := hx102_1
     have hw102_0 := hx102_0
     cases e102
     replace hx102_0 := px HB.out hx102_0
     replace hx102_1 := px HB.out hx102_1
     replace p102 := eq_true p102
     replace q102 := eq_true q102
     refine start_ (n := 27) (S := fun w' => w'.cell? ⟨gb101, 0, none⟩ = some (.slice A0_0 l0_0.length c0_0) ∧ w'.cell? ⟨gb101, 1, none⟩ = some (.slice (some ad102) l0_1.length c0_1) ∧ w'.cell? (ad102.add ((x3_1).toNat * 2)) = some (.string ((rd_T100 l0_1 x3_1).f0)) ∧ w'.cell? ⟨(ad102.add ((x3_1).toNat * 2)).block, (ad102.add ((x3_1).toNat * 2)).off + 1, none⟩ = some (.string ((rd_T100 l0_1 x3_1).f1))) (ds := []) _ (by kernel_rfl) rfl rfl ⟨(blk_cell BK101.out 0).trans rfl, (blk_cell BK101.out 1).trans rfl, (px HB.out hw102_0), (px HB.out hw102_1)⟩ (fun hHeld => ?_); refine with_tabW spec_BookOk.tab4 spec_BookOk.bits4 (fun HT_ HW_ => ?_)
     generalize wr.drew = w22 at BK101 HB hx102_0 hx102_1 hHeld ⊢
     refine ord_ [.p 0 11, .p 2 13, .t 1 12, .p 3 14, .t 4 15] ?_
     repeat (first | (refine pu_ (v := ?_) (a' := ?_) HT_ rfl rfl (by kernel_rfl) (fun _ _ _ h => h) (by rfl) ?_ ?_ ?_; rotate_left 2; (intro w'; go_simp; with_reducible rfl); (simp only [Act.put, List.setIfInBounds_toArray, List.set_cons_zero, List.set_cons_succ, i64_w, i32_w]; rfl)) | (refine ta_ (v := ?_) (a' := ?_) HT_ HW_ rfl rfl (by kernel_rfl) (fun _ _ _ h => h) (by rfl) hHeld ?_ ?_ ?_; rotate_left 2; (rintro w' ⟨s0, s1, s2, s3⟩; go_simp; with_reducible rfl); (simp only [Act.put, List.setIfInBounds_toArray, List.set_cons_zero, List.set_cons_succ, i64_w, i32_w]; rfl)))
     refine ord0 ?_
     refine on_ (i := 5) (N := some 16) HT_ rfl rfl (by kernel_rfl) (by decide) (fun K hK => ?_)
     refine goM gf93 #[.agg #[.string ((rd_T100 l0_1 x3_1).f0), .string ((rd_T100 l0_1 x3_1).f1)]] (by rfl) rfl rfl rfl ?_
     with_reducible refine (spec_l2Entry.calls k1 ((rd_T100 l0_1 x3_1).f0) ((rd_T100 l0_1 x3_1).f1) false _ A5.out).mono ?_
     rintro e w23 ⟨rfl, hb⟩
     refine ⟨_, rfl, ?_⟩
     replace BK101 := kb BK101 hb
     replace HB := kB HB hb
     (try clear hb)
     (try clear hb2)
     (try clear hk)
     (try clear hi)
     refine hK.out _ _ ⟨(blk_cell BK101.out 0).trans rfl, (blk_cell BK101.out 1).trans rfl, (pz HB.out hw102_0), (pz HB.out hw102_1)⟩ (fun hHeld => ?_)
     clear hK K
     refine norm_ (a' := ?_) ?_ ?_
     rotate_left
     ·show Act.put _ (some 16) _ = _
      simp only [Act.put, List.setIfInBounds_toArray, List.set_cons_zero, List.set_cons_succ, i64_w, i32_w]
      rfl
     refine ord_ [.p 6 17, .p 7 18, .u 8 19, .u 9 20, .u 10 21, .u 11 22, .u 12 23, .u 13 24, .u 14 25, .u 15 26, .u 16 27, .u 17 28, .u 18 29, .u 19 30, .u 20 31, .u 21 32, .u 22 33, .u 23 34, .u 24 35, .u 25 36, .p 26 37] ?_
     repeat (first | (refine pu_ (v := ?_) (a' := ?_) HT_ rfl rfl (by kernel_rfl) (fun _ _ _ h => h) (by rfl) ?_ ?_ ?_; rotate_left 2; (intro w'; go_simp; with_reducible rfl); (simp only [Act.put, List.setIfInBounds_toArray, List.set_cons_zero, List.set_cons_succ, i64_w, i32_w]; rfl)) | (refine un_ (a' := ?_) HT_ rfl rfl (by kernel_rfl) (fun _ _ _ h => h) (by rfl) ?_ ?_; rotate_left; (simp only [Act.put, List.setIfInBounds_toArray, List.set_cons_zero, List.set_cons_succ, i64_w, i32_w]; rfl)))
     refine ord0 ?_
     refine done_ (done_of HT_.out (by kernel_rfl)) ?_
     try go_wp2
     go_ret
     exact ⟨by rfl, bx HB.out⟩
   ·rw [if_neg c3] at H
    have c3b0 := decide_eq_false c3
    clear c3
    replace H := Option.bind_eq_some_iff.mp H
    obtain ⟨t106, A240, H⟩ := H
    have A24 := Aside0.mk A240
    clear A240
    by_cases c25 : t106 = true
    ·subst c25
     rw [if_pos rfl] at H
     obtain rfl := Option.some.inj H
     have hz26 := cells_2 BK101.out
     go_wp2_with (first | ((with_reducible refine gate_callee (f := 94) rfl ?_); refine goL (some 40) rfl rfl gf94 #[.slice A0_0 l0_0.length c0_0] rfl rfl ?_; (with_reducible refine (spec_l2Affixes.calls k1 _ _ l0_0 true _ (cx (Kd.C_below HR0_0.out HB.out)) HC0_0.out A24.out).mono ?_); rintro e w27 ⟨rfl, hb⟩; refine ⟨_, rfl, ?_⟩; replace BK101 := kb BK101 hb; replace HB := kB HB hb; (try clear hb); (try clear hb2); (try clear hk); (try clear hi); have hz28 := cells_2 BK101.out))
     go_ret
     exact ⟨by rfl, bx HB.out⟩
    ·replace c25 := Bool.eq_false_iff.mpr c25
     subst c25
     rw [if_neg Bool.false_ne_true] at H
     obtain rfl := Option.some.inj H
     have hz29 := cells_2 BK101.out
     go_wp2_with (first | ((with_reducible refine gate_callee (f := 94) rfl ?_); refine goL (some 40) rfl rfl gf94 #[.slice A0_0 l0_0.length c0_0] rfl rfl ?_; (with_reducible refine (spec_l2Affixes.calls k1 _ _ l0_0 false _ (cx (Kd.C_below HR0_0.out HB.out)) HC0_0.out A24.out).mono ?_); rintro e w30 ⟨rfl, hb⟩; refine ⟨_, rfl, ?_⟩; replace BK101 := kb BK101 hb; replace HB := kB HB hb; (try clear hb); (try clear hb2); (try clear hk); (try clear hi)))
     go_ret
     exact ⟨by rfl, bx HB.out⟩
theorem gf113 : Go_ Tryz.prog 113 Tryz.f113 := ⟨Tryz.func113, by kernel_rfl, rfl⟩
def spec_l5Entries.f (k : Nat) (l0 : List (S100)) : Option (Bool) := (spec_BookOk.f k ([] : List (S103)) l0).bind fun t101 => (some t101)
theorem spec_l5Entries.mono : ∀ a0 k, LeO (spec_l5Entries.f k a0) (spec_l5Entries.f (k + 1) a0) := by
 intro a0 k
 unfold spec_l5Entries.f
 have I0_ := fun a b c => LeC.mk (spec_BookOk.mono a b c)
 exact LeC.out
theorem spec_l5Entries.calls (k : Nat) (A0 : Option Addr) (c0 : Nat) (l0 : List (S100)) (r : Bool) (w : World) (hr0 : Kd.C k100 w A0 l0.length l0) (hc0 : l0.length ≤ c0) (h : spec_l5Entries.f k l0 = some r) :
  Calls Tryz.prog 113 #[.slice A0 l0.length c0] w fun e w' => e = .returned (.bool r) ∧ Below w.heap.size w w' := by
 have hu51 := Tryz.underlying51
 have HR0 := Aside0.mk hr0
 have HC0 := Aside0.mk hc0
 clear hr0 hc0
 have HB := Aside0.mk (Below.refl w.heap.size w)
 unfold spec_l5Entries.f at h
 have H := h
 clear h
 replace H := Option.bind_eq_some_iff.mp H
 obtain ⟨t101, A20, H⟩ := H
 have A2 := Aside0.mk A20
 clear A20
 obtain rfl := Option.some.inj H
 go_enter Tryz.func113, Tryz.ntmps113
 go_wp2_with (first | ((with_reducible refine gate_callee (f := 48) rfl ?_); refine goL (some 5) rfl rfl gf48 #[.agg #[.slice none 0 0, .slice A0 l0.length c0]] rfl rfl ?_; (refine (spec_BookOk.calls k _ _ ([] : List (S103)) _ _ l0 t101 _ ?side1 ?side2 ?side3 ?side4 A2.out).mono ?_); (case side1 => exact Kd.C_nil _ _); (case side2 => exact Nat.le_refl _); (case side3 => exact cx HR0.out); (case side4 => exact HC0.out); rintro e w3 ⟨rfl, hb⟩; refine ⟨_, rfl, ?_⟩; replace HB := kB HB hb; (try clear hb); (try clear hb2); (try clear hk); (try clear hi)))
 go_ret
 exact ⟨by rfl, bx HB.out⟩
theorem gf64 : Go_ Tryz.prog 64 Tryz.f64 := ⟨Tryz.func64, by kernel_rfl, rfl⟩
mutual
def spec_DeltaOk.l0 : Nat → Int → List ByteArray → List (S100) → Bool → List (S103) → Option (Bool)
 | 0, _, _, _, _, _ => none
 | k + 1, x3, x102000, x102001, x102002, x102003 => if x3 < (x102000.length : Int) then (if 0 ≤ x3 then ((spec_l1Word.f k (rdOf ByteArray.empty x102000 x3)).bind fun t105 => (if t105 = true then (if x3 > 0 then (if 0 ≤ (wrap64 (x3 - 1)) then (if (wrap64 (x3 - 1)) < (x102000.length : Int) then (spec_DeltaOk.j1 k x3 (!(Op.bytesLess ((rdOf ByteArray.empty x102000 (wrap64 (x3 - 1))).toList) ((rdOf ByteArray.empty x102000 x3).toList))) x102000 x102001 x102002 x102003) else (none)) else (none)) else (spec_DeltaOk.j1 k x3 false x102000 x102001 x102002 x102003)) else (spec_DeltaOk.j1 k x3 true x102000 x102001 x102002 x102003))) else (none)) else (if (x102000.length : Int) ≤ 24 then ((spec_l5Entries.f k x102001).bind fun t102 => (if t102 = true then ((spec_l2Affixes.f k x102003).bind fun t103 => (if t103 = true then (if x102002 = true then (some true) else (some ((x102003.length : Int) == 0))) else (some false))) else (some false))) else (some false))
def spec_DeltaOk.j1 : Nat → Int → Bool → List ByteArray → List (S100) → Bool → List (S103) → Option (Bool)
 | 0, _, _, _, _, _, _ => none
 | k + 1, x3, x36, x102000, x102001, x102002, x102003 => if x36 = true then (some false) else (spec_DeltaOk.l1 k x3 0 x102000 x102001 x102002 x102003)
def spec_DeltaOk.l1 : Nat → Int → Int → List ByteArray → List (S100) → Bool → List (S103) → Option (Bool)
 | 0, _, _, _, _, _, _ => none
 | k + 1, x3, x4, x102000, x102001, x102002, x102003 => if x4 < (x102001.length : Int) then (if 0 ≤ x4 then (if 0 ≤ x3 then (if x3 < (x102000.length : Int) then (if ((rd_T100 x102001 x4).f0).toList = (rdOf ByteArray.empty x102000 x3).toList then (some false) else (spec_DeltaOk.l1 k x3 (wrap64 (x4 + 1)) x102000 x102001 x102002 x102003)) else (none)) else (none)) else (none)) else (spec_DeltaOk.l0 k (wrap64 (x3 + 1)) x102000 x102001 x102002 x102003)
end
def spec_DeltaOk.f (k : Nat) (l0_0 : List ByteArray) (l0_1 : List (S100)) (a0_2 : Bool) (l0_3 : List (S103)) : Option (Bool) := spec_DeltaOk.l0 k 0 l0_0 l0_1 a0_2 l0_3
theorem spec_DeltaOk.mono_l : ∀ k, (∀ y0 y1 y2 y3 y4, LeO (spec_DeltaOk.l0 k y0 y1 y2 y3 y4) (spec_DeltaOk.l0 (k + 1) y0 y1 y2 y3 y4)) ∧ (∀ y0 y1 y2 y3 y4 y5, LeO (spec_DeltaOk.j1 k y0 y1 y2 y3 y4 y5) (spec_DeltaOk.j1 (k + 1) y0 y1 y2 y3 y4 y5)) ∧ (∀ y0 y1 y2 y3 y4 y5, LeO (spec_DeltaOk.l1 k y0 y1 y2 y3 y4 y5) (spec_DeltaOk.l1 (k + 1) y0 y1 y2 y3 y4 y5))
 | 0 => ⟨fun _ _ _ _ _ r h => by simp [spec_DeltaOk.l0] at h, fun _ _ _ _ _ _ r h => by simp [spec_DeltaOk.j1] at h, fun _ _ _ _ _ _ r h => by simp [spec_DeltaOk.l1] at h⟩
 | k + 1 => by
  obtain ⟨ih0, ih1, ih2⟩ := spec_DeltaOk.mono_l k
  refine ⟨?_, ?_, ?_⟩
  ·intro y0 y1 y2 y3 y4
   unfold spec_DeltaOk.l0
   have I0_ := fun a b c d e => LeC.mk (ih0 a b c d e)
   have I1_ := fun a b c d e f => LeC.mk (ih1 a b c d e f)
   have I2_ := fun a b c d e f => LeC.mk (ih2 a b c d e f)
   have I3_ := fun a b => LeC.mk (spec_l1Word.mono a b)
   have I4_ := fun a b => LeC.mk (spec_l2Affixes.mono a b)
   have I5_ := fun a b => LeC.mk (spec_l5Entries.mono a b)
   exact LeC.out
  ·intro y0 y1 y2 y3 y4 y5
   unfold spec_DeltaOk.j1
   have I0_ := fun a b c d e => LeC.mk (ih0 a b c d e)
   have I1_ := fun a b c d e f => LeC.mk (ih1 a b c d e f)
   have I2_ := fun a b c d e f => LeC.mk (ih2 a b c d e f)
   have I3_ := fun a b => LeC.mk (spec_l1Word.mono a b)
   have I4_ := fun a b => LeC.mk (spec_l2Affixes.mono a b)
   have I5_ := fun a b => LeC.mk (spec_l5Entries.mono a b)
   exact LeC.out
  ·intro y0 y1 y2 y3 y4 y5
   unfold spec_DeltaOk.l1
   have I0_ := fun a b c d e => LeC.mk (ih0 a b c d e)
   have I1_ := fun a b c d e f => LeC.mk (ih1 a b c d e f)
   have I2_ := fun a b c d e f => LeC.mk (ih2 a b c d e f)
   have I3_ := fun a b => LeC.mk (spec_l1Word.mono a b)
   have I4_ := fun a b => LeC.mk (spec_l2Affixes.mono a b)
   have I5_ := fun a b => LeC.mk (spec_l5Entries.mono a b)
   exact LeC.out
theorem spec_DeltaOk.mono : ∀ a0 a1 a2 a3 k, LeO (spec_DeltaOk.f k a0 a1 a2 a3) (spec_DeltaOk.f (k + 1) a0 a1 a2 a3) := by
 intro a0 a1 a2 a3 k
 obtain ⟨ih0, ih1, ih2⟩ := spec_DeltaOk.mono_l k
 unfold spec_DeltaOk.f
 have I0_ := fun a b c d e => LeC.mk (ih0 a b c d e)
 have I1_ := fun a b c d e f => LeC.mk (ih1 a b c d e f)
 have I2_ := fun a b c d e f => LeC.mk (ih2 a b c d e f)
 have I3_ := fun a b => LeC.mk (spec_l1Word.mono a b)
 have I4_ := fun a b => LeC.mk (spec_l2Affixes.mono a b)
 have I5_ := fun a b => LeC.mk (spec_l5Entries.mono a b)
 exact LeC.out
theorem spec_DeltaOk.calls (k : Nat) (A0_0 : Option Addr) (c0_0 : Nat) (l0_0 : List ByteArray) (A0_1 : Option Addr) (c0_1 : Nat) (l0_1 : List (S100)) (a0_2 : Bool) (A0_3 : Option Addr) (c0_3 : Nat) (l0_3 : List (S103)) (r : Bool) (w : World) (hr0_0 : Kd.C Kd.string w A0_0 l0_0.length l0_0) (hc0_0 : l0_0.length ≤ c0_0) (hr0_1 : Kd.C k100 w A0_1 l0_1.length l0_1) (hc0_1 : l0_1.length ≤ c0_1) (hr0_3 : Kd.C k103 w A0_3 l0_3.length l0_3) (hc0_3 : l0_3.length ≤ c0_3) (h : spec_DeltaOk.f k l0_0 l0_1 a0_2 l0_3 = some r) :
  Calls Tryz.prog 64 #[.agg #[.slice A0_0 l0_0.length c0_0, .slice A0_1 l0_1.length c0_1, .bool a0_2, .slice A0_3 l0_3.length c0_3]] w fun e w' => e = .returned (.bool r) ∧ Below w.heap.size w w' := by
 have hu34 := Tryz.underlying34
 have HR0_0 := Aside0.mk hr0_0
 have HC0_0 := Aside0.mk hc0_0
 clear hr0_0 hc0_0
 have HR0_1 := Aside0.mk hr0_1
 have HC0_1 := Aside0.mk hc0_1
 clear hr0_1 hc0_1
 have HR0_3 := Aside0.mk hr0_3
 have HC0_3 := Aside0.mk hc0_3
 clear hr0_3 hc0_3
 have HB := Aside0.mk (Below.refl w.heap.size w)
 unfold spec_DeltaOk.f at h
 have H := h
 clear h
 have H' := Aside0.mk H
 clear H
 go_enter Tryz.func64, Tryz.ntmps64
 go_wp2_with (first | ((with_reducible refine gate_dst (N := 1) rfl ?_); (try (refine gate_guard (by rfl) ?_; dsimp only)); refine box_event rfl (N := 1) rfl (cs := #[.slice A0_0 l0_0.length c0_0, .slice A0_1 l0_1.length c0_1, .bool a0_2, .slice A0_3 l0_3.length c0_3]) (t := 34) (by go_simp <;> rfl) ?_; intro gb101 hg w2 hbox hb; have BK101 := Aside0.mk (hbox); have GW101 := Le_.mk (ge_of hg HB.out); have GE101 := Le_.mk (ge_of hg HB.out); replace HB := kB HB hb; clear hb hbox hg))
 repeat (go_quiet (first | ((with_reducible refine gate_dst (N := 1) rfl ?_); (try (refine gate_guard (by rfl) ?_; dsimp only)); refine box_event rfl (N := 1) rfl (cs := #[.slice A0_0 l0_0.length c0_0, .slice A0_1 l0_1.length c0_1, .bool a0_2, .slice A0_3 l0_3.length c0_3]) (t := 34) (by go_simp <;> rfl) ?_; intro gb101 hg w2 hbox hb; have BK101 := Aside0.mk (hbox); have GW101 := Le_.mk (ge_of hg HB.out); have GE101 := Le_.mk (ge_of hg HB.out); replace HB := kB HB hb; clear hb hbox hg)); try go_wp2_with (first | ((with_reducible refine gate_dst (N := 1) rfl ?_); (try (refine gate_guard (by rfl) ?_; dsimp only)); refine box_event rfl (N := 1) rfl (cs := #[.slice A0_0 l0_0.length c0_0, .slice A0_1 l0_1.length c0_1, .bool a0_2, .slice A0_3 l0_3.length c0_3]) (t := 34) (by go_simp <;> rfl) ?_; intro gb101 hg w2 hbox hb; have BK101 := Aside0.mk (hbox); have GW101 := Le_.mk (ge_of hg HB.out); have GE101 := Le_.mk (ge_of hg HB.out); replace HB := kB HB hb; clear hb hbox hg)))
 go_loopg [3] k (fun kq v3 w' => ∃ (x3_1 : Int), v3 = .int .i64 x3_1 ∧ Aside0 (spec_DeltaOk.l0 kq x3_1 l0_0 l0_1 a0_2 l0_3 = some r) ∧ Aside0 (kq ≤ k) ∧ Aside0 (w'.heap[gb101]? = some (.cells #[(.slice A0_0 l0_0.length c0_0), (.slice A0_1 l0_1.length c0_1), .bool a0_2, (.slice A0_3 l0_3.length c0_3)] 34 (0, 0))) ∧ Aside0 (Below w.heap.size w w'))
 case atStart => exact ⟨(0), (by first | rfl | (simp; done) | (simp [*]; done)), H', ⟨Nat.le_refl _⟩, ⟨gx (BK101.out)⟩, ⟨bx HB.out⟩⟩
 case round =>
  clear H'
  try clear p2
  obtain ⟨x3_1, rfl, HA, HK1, BK101, HB⟩ := hrel
  cases gk with
  | zero => exact absurd HA.out (by simp [spec_DeltaOk.l0])
  | succ k1 =>
   have H := HA.out
   clear HA
   simp only [spec_DeltaOk.l0] at H
   by_cases c3 : x3_1 < (l0_0.length : Int)
   ·rw [if_pos c3] at H
    have c3b0 := decide_eq_true c3
    clear c3
    have HC4 := Aside0.mk H
    clear H
    have hz5 := cells_4 BK101.out
    go_upto_region 4 with (fail)
    repeat (go_quiet (fail); go_upto_region 4 with (fail))
    go_cut [36] (fun v36 wc => ∃ (kq : Nat) (x36_3 : Bool), v36 = .bool x36_3 ∧ Aside0 (spec_DeltaOk.j1 kq x3_1 x36_3 l0_0 l0_1 a0_2 l0_3 = some r) ∧ Aside0 (kq ≤ k1) ∧ Aside0 (wc.heap[gb101]? = some (.cells #[(.slice A0_0 l0_0.length c0_0), (.slice A0_1 l0_1.length c0_1), .bool a0_2, (.slice A0_3 l0_3.length c0_3)] 34 (0, 0))) ∧ Aside0 (Below w.heap.size w wc))
    case first =>
     have H := HC4.out
     clear HC4
     have c6 := ite_y H
     replace H := ite_t H
     have c6b0 := decide_eq_true c6
     clear c6
     (first | rw [c6b0] | (simp only [i64_w, i32_w]; rw [c6b0]) | skip)
     replace H := Option.bind_eq_some_iff.mp H
     obtain ⟨t105, A70, H⟩ := H
     have A7 := Aside0.mk A70
     clear A70
     by_cases c8 : t105 = true
     ·subst c8
      rw [if_pos rfl] at H
      by_cases c9 : x3_1 > 0
      ·rw [if_pos c9] at H
       have c9b0 : decide (0 < x3_1) = true := decide_eq_true c9
       clear c9
       obtain ⟨ji10, hji10⟩ : ∃ j_ : Int, (wrap64 (x3_1 - 1)) = j_ := ⟨_, rfl⟩
       replace H : (if 0 ≤ (ji10) then (if (ji10) < (l0_0.length : Int) then (spec_DeltaOk.j1 k1 x3_1 (!(Op.bytesLess ((rdOf ByteArray.empty l0_0 (ji10)).toList) ((rdOf ByteArray.empty l0_0 x3_1).toList))) l0_0 l0_1 a0_2 l0_3) else (none)) else (none)) = some r := by first | (rw [hji10] at H; exact H) | (simp only [hji10] at H ⊢; exact H)
       (try rw [hji10] at A7)
       have hji10w : (IntKind.i64.wrap (x3_1 - 1)) = ji10 := (i64_w _).trans hji10
       have c11 := ite_y H
       replace H := ite_t H
       have c11b0 := decide_eq_true c11
       clear c11
       have c12 := ite_y H
       replace H := ite_t H
       have c12b0 := decide_eq_true c12
       clear c12
       have H' := Aside0.mk H
       clear H
       have hz13 := cells_4 BK101.out
       have p104 := of_decide_eq_true c6b0
       have q104 := of_decide_eq_true c3b0
       obtain ⟨ad104, e104, hx104_0⟩ := Kd.at_string HR0_0.out x3_1 p104 q104
       cases e104
       replace hx104_0 := px HB.out hx104_0
       replace p104 := eq_true p104
       replace q104 := eq_true q104
       go_wp2_with (first | (go_at_call 112; (with_reducible refine (spec_l1Word.calls k1 (rdOf ByteArray.empty l0_0 x3_1) true _ A7.out).mono ?_); rintro e w' ⟨rfl, ⟨nd, rfl⟩⟩; (try first | exact ⟨rfl, _, World.drewN_drewN _ _ _⟩ | exact ⟨rfl, _, Eq.trans (World.drewN_drewN _ _ _) (congrArg (World.drewN _) (Nat.add_assoc _ _ _))⟩); have p106 := of_decide_eq_true c11b0; have q106 := of_decide_eq_true c12b0; obtain ⟨ad106, e106, hx106_0⟩ := Kd.at_string HR0_0.out (ji10) p106 q106; obtain rfl : ad104 = ad106 := (by injection e106); replace hx106_0 := px HB.out hx106_0; replace p106 := eq_true p106; replace q106 := eq_true q106; have p107 := of_decide_eq_true c6b0; have q107 := of_decide_eq_true c3b0; obtain ⟨ad107, e107, hx107_0⟩ := Kd.at_string HR0_0.out x3_1 p107 q107; obtain rfl : ad104 = ad107 := (by injection e107); replace hx107_0 := px HB.out hx107_0; replace p107 := eq_true p107; replace q107 := eq_true q107))
       repeat (go_quiet (first | (go_at_call 112; (with_reducible refine (spec_l1Word.calls k1 (rdOf ByteArray.empty l0_0 x3_1) true _ A7.out).mono ?_); rintro e w' ⟨rfl, ⟨nd, rfl⟩⟩; (try first | exact ⟨rfl, _, World.drewN_drewN _ _ _⟩ | exact ⟨rfl, _, Eq.trans (World.drewN_drewN _ _ _) (congrArg (World.drewN _) (Nat.add_assoc _ _ _))⟩); have p106 := of_decide_eq_true c11b0; have q106 := of_decide_eq_true c12b0; obtain ⟨ad106, e106, hx106_0⟩ := Kd.at_string HR0_0.out (ji10) p106 q106; obtain rfl : ad104 = ad106 := (by injection e106); replace hx106_0 := px HB.out hx106_0; replace p106 := eq_true p106; replace q106 := eq_true q106; have p107 := of_decide_eq_true c6b0; have q107 := of_decide_eq_true c3b0; obtain ⟨ad107, e107, hx107_0⟩ := Kd.at_string HR0_0.out x3_1 p107 q107; obtain rfl : ad104 = ad107 := (by injection e107); replace hx107_0 := px HB.out hx107_0; replace p107 := eq_true p107; replace q107 := eq_true q107)); try go_wp2_with (first | (go_at_call 112; (with_reducible refine (spec_l1Word.calls k1 (rdOf ByteArray.empty l0_0 x3_1) true _ A7.out).mono ?_); rintro e w' ⟨rfl, ⟨nd, rfl⟩⟩; (try first | exact ⟨rfl, _, World.drewN_drewN _ _ _⟩ | exact ⟨rfl, _, Eq.trans (World.drewN_drewN _ _ _) (congrArg (World.drewN _) (Nat.add_assoc _ _ _))⟩); have p106 := of_decide_eq_true c11b0; have q106 := of_decide_eq_true c12b0; obtain ⟨ad106, e106, hx106_0⟩ := Kd.at_string HR0_0.out (ji10) p106 q106; obtain rfl : ad104 = ad106 := (by injection e106); replace hx106_0 := px HB.out hx106_0; replace p106 := eq_true p106; replace q106 := eq_true q106; have p107 := of_decide_eq_true c6b0; have q107 := of_decide_eq_true c3b0; obtain ⟨ad107, e107, hx107_0⟩ := Kd.at_string HR0_0.out x3_1 p107 q107; obtain rfl : ad104 = ad107 := (by injection e107); replace hx107_0 := px HB.out hx107_0; replace p107 := eq_true p107; replace q107 := eq_true q107)))
       go_meet
       case rel => exact ⟨_, (!(Op.bytesLess ((rdOf ByteArray.empty l0_0 (ji10)).toList) ((rdOf ByteArray.empty l0_0 x3_1).toList))), (by first | rfl | (simp; done) | (simp only [← hji10] <;> (first | rfl | simp)) | (simp [*]; done)), H', ⟨by have := HK1.out; first | omega | exact Nat.le_refl _⟩, ⟨gx (BK101.out)⟩, ⟨bx HB.out⟩⟩
      ·rw [if_neg c9] at H
       have c9b0 : decide (0 < x3_1) = false := decide_eq_false c9
       clear c9
       have H' := Aside0.mk H
       clear H
       have hz14 := cells_4 BK101.out
       have p104 := of_decide_eq_true c6b0
       have q104 := of_decide_eq_true c3b0
       obtain ⟨ad104, e104, hx104_0⟩ := Kd.at_string HR0_0.out x3_1 p104 q104
       cases e104
       replace hx104_0 := px HB.out hx104_0
       replace p104 := eq_true p104
       replace q104 := eq_true q104
       go_wp2_with (first | (go_at_call 112; (with_reducible refine (spec_l1Word.calls k1 (rdOf ByteArray.empty l0_0 x3_1) true _ A7.out).mono ?_); rintro e w' ⟨rfl, ⟨nd, rfl⟩⟩; (try first | exact ⟨rfl, _, World.drewN_drewN _ _ _⟩ | exact ⟨rfl, _, Eq.trans (World.drewN_drewN _ _ _) (congrArg (World.drewN _) (Nat.add_assoc _ _ _))⟩)))
       repeat (go_quiet (first | (go_at_call 112; (with_reducible refine (spec_l1Word.calls k1 (rdOf ByteArray.empty l0_0 x3_1) true _ A7.out).mono ?_); rintro e w' ⟨rfl, ⟨nd, rfl⟩⟩; (try first | exact ⟨rfl, _, World.drewN_drewN _ _ _⟩ | exact ⟨rfl, _, Eq.trans (World.drewN_drewN _ _ _) (congrArg (World.drewN _) (Nat.add_assoc _ _ _))⟩))); try go_wp2_with (first | (go_at_call 112; (with_reducible refine (spec_l1Word.calls k1 (rdOf ByteArray.empty l0_0 x3_1) true _ A7.out).mono ?_); rintro e w' ⟨rfl, ⟨nd, rfl⟩⟩; (try first | exact ⟨rfl, _, World.drewN_drewN _ _ _⟩ | exact ⟨rfl, _, Eq.trans (World.drewN_drewN _ _ _) (congrArg (World.drewN _) (Nat.add_assoc _ _ _))⟩))))
       go_meet
       case rel => exact ⟨_, (false), (by first | rfl | (simp; done) | (simp [*]; done)), H', ⟨by have := HK1.out; first | omega | exact Nat.le_refl _⟩, ⟨gx (BK101.out)⟩, ⟨bx HB.out⟩⟩
     ·replace c8 := Bool.eq_false_iff.mpr c8
      subst c8
      rw [if_neg Bool.false_ne_true] at H
      have H' := Aside0.mk H
      clear H
      have hz15 := cells_4 BK101.out
      have p104 := of_decide_eq_true c6b0
      have q104 := of_decide_eq_true c3b0
      obtain ⟨ad104, e104, hx104_0⟩ := Kd.at_string HR0_0.out x3_1 p104 q104
      cases e104
      replace hx104_0 := px HB.out hx104_0
      replace p104 := eq_true p104
      replace q104 := eq_true q104
      go_wp2_with (first | (go_at_call 112; (with_reducible refine (spec_l1Word.calls k1 (rdOf ByteArray.empty l0_0 x3_1) false _ A7.out).mono ?_); rintro e w' ⟨rfl, ⟨nd, rfl⟩⟩; (try first | exact ⟨rfl, _, World.drewN_drewN _ _ _⟩ | exact ⟨rfl, _, Eq.trans (World.drewN_drewN _ _ _) (congrArg (World.drewN _) (Nat.add_assoc _ _ _))⟩)))
      repeat (go_quiet (first | (go_at_call 112; (with_reducible refine (spec_l1Word.calls k1 (rdOf ByteArray.empty l0_0 x3_1) false _ A7.out).mono ?_); rintro e w' ⟨rfl, ⟨nd, rfl⟩⟩; (try first | exact ⟨rfl, _, World.drewN_drewN _ _ _⟩ | exact ⟨rfl, _, Eq.trans (World.drewN_drewN _ _ _) (congrArg (World.drewN _) (Nat.add_assoc _ _ _))⟩))); try go_wp2_with (first | (go_at_call 112; (with_reducible refine (spec_l1Word.calls k1 (rdOf ByteArray.empty l0_0 x3_1) false _ A7.out).mono ?_); rintro e w' ⟨rfl, ⟨nd, rfl⟩⟩; (try first | exact ⟨rfl, _, World.drewN_drewN _ _ _⟩ | exact ⟨rfl, _, Eq.trans (World.drewN_drewN _ _ _) (congrArg (World.drewN _) (Nat.add_assoc _ _ _))⟩))))
      go_meet
      case rel => exact ⟨_, (true), (by first | rfl | (simp; done) | (simp [*]; done)), H', ⟨by have := HK1.out; first | omega | exact Nat.le_refl _⟩, ⟨gx (BK101.out)⟩, ⟨bx HB.out⟩⟩
    case rest =>
     clear HC4
     try clear c1
     try clear p1
     try clear q1
     try clear hx1
     try clear p2
     try clear c3
     try clear c3b0
     try clear c6
     try clear c6b0
     try clear p6
     try clear c8
     try clear c9
     try clear c9b0
     try clear p10
     try clear q10
     try clear hx10
     try clear c11
     try clear c11b0
     try clear c12
     try clear c12b0
     try clear hz13
     try clear hz14
     try clear hz15
     try clear hz5
     try clear hx104_0
     try clear hx106_0
     try clear hx107_0
     try clear p104
     try clear p106
     try clear p107
     try clear p2
     try clear q104
     try clear q106
     try clear q107
     obtain ⟨kq, x36_3, rfl, HA, HJ3, BK101, HB⟩ := hcut
     cases kq with
     | zero => exact absurd HA.out (by simp [spec_DeltaOk.j1])
     | succ kj3 =>
      have H := HA.out
      clear HA
      simp only [spec_DeltaOk.j1] at H
      by_cases c16 : x36_3 = true
      ·subst c16
       rw [if_pos rfl] at H
       obtain rfl := Option.some.inj H
       go_wp2
       repeat (go_quiet (fail); try go_wp2)
       go_ret
       exact ⟨by rfl, bx HB.out⟩
      ·replace c16 := Bool.eq_false_iff.mpr c16
       subst c16
       rw [if_neg Bool.false_ne_true] at H
       have H' := Aside0.mk H
       clear H
       go_wp2
       repeat (go_quiet (fail); try go_wp2)
       go_loopg [4] kj3 (fun kq v4 w' => ∃ (x4_3 : Int), v4 = .int .i64 x4_3 ∧ Aside0 (spec_DeltaOk.l1 kq x3_1 x4_3 l0_0 l0_1 a0_2 l0_3 = some r) ∧ Aside0 (kq ≤ kj3) ∧ Aside0 (w'.heap[gb101]? = some (.cells #[(.slice A0_0 l0_0.length c0_0), (.slice A0_1 l0_1.length c0_1), .bool a0_2, (.slice A0_3 l0_3.length c0_3)] 34 (0, 0))) ∧ Aside0 (Below w.heap.size w w'))
       case atStart => exact ⟨(0), (by first | rfl | (simp; done) | (simp [*]; done)), H', ⟨Nat.le_refl _⟩, ⟨gx (BK101.out)⟩, ⟨bx HB.out⟩⟩
       case round =>
        clear H'
        try clear c1
        try clear p1
        try clear q1
        try clear hx1
        try clear p2
        try clear c3
        try clear c3b0
        try clear c6
        try clear c6b0
        try clear p6
        try clear c8
        try clear c9
        try clear c9b0
        try clear p10
        try clear q10
        try clear hx10
        try clear c11
        try clear c11b0
        try clear c12
        try clear c12b0
        try clear c16
        try clear hz13
        try clear hz14
        try clear hz15
        try clear hz5
        try clear hx104_0
        try clear hx106_0
        try clear hx107_0
        try clear p1
        try clear p10
        try clear p104
        try clear p106
        try clear p107
        try clear p2
        try clear p6
        try clear q1
        try clear q10
        try clear q104
        try clear q106
        try clear q107
        obtain ⟨x4_3, rfl, HA, HK3, BK101, HB⟩ := hrel
        cases gk with
        | zero => exact absurd HA.out (by simp [spec_DeltaOk.l1])
        | succ k3 =>
         have H := HA.out
         clear HA
         simp only [spec_DeltaOk.l1] at H
         by_cases c17 : x4_3 < (l0_1.length : Int)
         ·rw [if_pos c17] at H
          have c17b0 := decide_eq_true c17
          clear c17
          have c18 := ite_y H
          replace H := ite_t H
          have c18b0 := decide_eq_true c18
          clear c18
          have c19 := ite_y H
          replace H := ite_t H
          have c19b0 := decide_eq_true c19
          clear c19
          have c20 := ite_y H
          replace H := ite_t H
          have c20b0 := decide_eq_true c20
          clear c20
          by_cases c21 : ((rd_T100 l0_1 x4_3).f0).toList = (rdOf ByteArray.empty l0_0 x3_1).toList
          ·rw [if_pos c21] at H
           have c21b0 : (((rd_T100 l0_1 x4_3).f0).toList == (rdOf ByteArray.empty l0_0 x3_1).toList) = true := beq_iff_eq.mpr c21
           have c21b1 : (((rd_T100 l0_1 x4_3).f0).toList != (rdOf ByteArray.empty l0_0 x3_1).toList) = false := bne_eq_false_iff_eq.mpr c21
           clear c21
           obtain rfl := Option.some.inj H
           have hz22 := cells_4 BK101.out
           have p108 := of_decide_eq_true c18b0
           have q108 := of_decide_eq_true c17b0
           obtain ⟨ad108, e108, hx108_0, hx108_1⟩ := at_T100 HR0_1.out x4_3 p108 q108
           cases e108
           replace hx108_0 := px HB.out hx108_0
           replace hx108_1 := px HB.out hx108_1
           replace p108 := eq_true p108
           replace q108 := eq_true q108
           have p109 := of_decide_eq_true c19b0
           have q109 := of_decide_eq_true c20b0
           obtain ⟨ad109, e109, hx109_0⟩ := Kd.at_string HR0_0.out x3_1 p109 q109
           cases e109
           replace hx109_0 := px HB.out hx109_0
           replace p109 := eq_true p109
           replace q109 := eq_true q109
           go_wp2
           repeat (go_quiet (fail); try go_wp2)
           go_ret
           exact ⟨by rfl, bx HB.out⟩
          ·rw [if_neg c21] at H
           have c21b0 : (((rd_T100 l0_1 x4_3).f0).toList == (rdOf ByteArray.empty l0_0 x3_1).toList) = false := beq_eq_false_iff_ne.mpr c21
           have c21b1 : (((rd_T100 l0_1 x4_3).f0).toList != (rdOf ByteArray.empty l0_0 x3_1).toList) = true := bne_iff_ne.mpr c21
           have H' := Aside0.mk H
           clear H
           have hz23 := cells_4 BK101.out
           have p108 := of_decide_eq_true c18b0
           have q108 := of_decide_eq_true c17b0
           obtain ⟨ad108, e108, hx108_0, hx108_1⟩ := at_T100 HR0_1.out x4_3 p108 q108
           cases e108
           replace hx108_0 := px HB.out hx108_0
           replace hx108_1 := px HB.out hx108_1
           replace p108 := eq_true p108
           replace q108 := eq_true q108
           have p109 := of_decide_eq_true c19b0
           have q109 := of_decide_eq_true c20b0
           obtain ⟨ad109, e109, hx109_0⟩ := Kd.at_string HR0_0.out x3_1 p109 q109
           cases e109
           replace hx109_0 := px HB.out hx109_0
           replace p109 := eq_true p109
           replace q109 := eq_true q109
           go_wp2
           repeat (go_quiet (fail); try go_wp2)
           go_roundg k3
           case measure => have := HK1.out; have := HJ3.out; have := HK3.out; omega
           case rel => exact ⟨(wrap64 (x4_3 + 1)), (by first | rfl | (simp; done) | (simp [*]; done)), H', ⟨by have := HK1.out; have := HJ3.out; have := HK3.out; omega⟩, ⟨gx (BK101.out)⟩, ⟨bx HB.out⟩⟩
         ·rw [if_neg c17] at H
          have c17b0 := decide_eq_false c17
          clear c17
          have H' := Aside0.mk H
          clear H
          have hz24 := cells_4 BK101.out
          go_wp2
          repeat (go_quiet (fail); try go_wp2)
          go_roundg k3
          case measure => have := HK1.out; have := HJ3.out; have := HK3.out; omega
          case rel => exact ⟨(wrap64 (x3_1 + 1)), (by first | rfl | (simp; done) | (simp [*]; done)), H', ⟨by have := HK1.out; have := HJ3.out; have := HK3.out; omega⟩, ⟨gx (BK101.out)⟩, ⟨bx HB.out⟩⟩
   ·rw [if_neg c3] at H
    have c3b0 := decide_eq_false c3
    clear c3
    by_cases c25 : (l0_0.length : Int) ≤ 24
    ·rw [if_pos c25] at H
     have c25b0 := decide_eq_true c25
     have c25b1 : decide (l0_0.length ≤ 24) = true := decide_eq_true (by omega)
     clear c25
     replace H := Option.bind_eq_some_iff.mp H
     obtain ⟨t102, A260, H⟩ := H
     have A26 := Aside0.mk A260
     clear A260
     by_cases c27 : t102 = true
     ·subst c27
      rw [if_pos rfl] at H
      replace H := Option.bind_eq_some_iff.mp H
      obtain ⟨t103, A280, H⟩ := H
      have A28 := Aside0.mk A280
      clear A280
      by_cases c29 : t103 = true
      ·subst c29
       rw [if_pos rfl] at H
       by_cases c30 : a0_2 = true
       ·subst c30
        rw [if_pos rfl] at H
        obtain rfl := Option.some.inj H
        have hz31 := cells_4 BK101.out
        go_wp2_with (first | (go_at_call 113; (with_reducible refine (spec_l5Entries.calls k1 _ _ l0_1 true _ (cx (Kd.C_below HR0_1.out HB.out)) HC0_1.out A26.out).mono ?_); rintro e w32 ⟨rfl, hb⟩; replace BK101 := kb BK101 hb; replace HB := kB HB hb; (try clear hb); (try clear hb2); (try clear hk); (try clear hi); have hz33 := cells_4 BK101.out) | (go_at_call 94; (with_reducible refine (spec_l2Affixes.calls k1 _ _ l0_3 true _ (cx (Kd.C_below HR0_3.out HB.out)) HC0_3.out A28.out).mono ?_); rintro e w34 ⟨rfl, hb⟩; replace BK101 := kb BK101 hb; replace HB := kB HB hb; (try clear hb); (try clear hb2); (try clear hk); (try clear hi); have hz35 := cells_4 BK101.out))
        repeat (go_quiet (first | (go_at_call 113; (with_reducible refine (spec_l5Entries.calls k1 _ _ l0_1 true _ (cx (Kd.C_below HR0_1.out HB.out)) HC0_1.out A26.out).mono ?_); rintro e w32 ⟨rfl, hb⟩; replace BK101 := kb BK101 hb; replace HB := kB HB hb; (try clear hb); (try clear hb2); (try clear hk); (try clear hi); have hz33 := cells_4 BK101.out) | (go_at_call 94; (with_reducible refine (spec_l2Affixes.calls k1 _ _ l0_3 true _ (cx (Kd.C_below HR0_3.out HB.out)) HC0_3.out A28.out).mono ?_); rintro e w34 ⟨rfl, hb⟩; replace BK101 := kb BK101 hb; replace HB := kB HB hb; (try clear hb); (try clear hb2); (try clear hk); (try clear hi); have hz35 := cells_4 BK101.out)); try go_wp2_with (first | (go_at_call 113; (with_reducible refine (spec_l5Entries.calls k1 _ _ l0_1 true _ (cx (Kd.C_below HR0_1.out HB.out)) HC0_1.out A26.out).mono ?_); rintro e w32 ⟨rfl, hb⟩; replace BK101 := kb BK101 hb; replace HB := kB HB hb; (try clear hb); (try clear hb2); (try clear hk); (try clear hi); have hz33 := cells_4 BK101.out) | (go_at_call 94; (with_reducible refine (spec_l2Affixes.calls k1 _ _ l0_3 true _ (cx (Kd.C_below HR0_3.out HB.out)) HC0_3.out A28.out).mono ?_); rintro e w34 ⟨rfl, hb⟩; replace BK101 := kb BK101 hb; replace HB := kB HB hb; (try clear hb); (try clear hb2); (try clear hk); (try clear hi); have hz35 := cells_4 BK101.out)))
        go_ret
        exact ⟨by rfl, bx HB.out⟩
       ·replace c30 := Bool.eq_false_iff.mpr c30
        subst c30
        rw [if_neg Bool.false_ne_true] at H
        obtain rfl := Option.some.inj H
        have hz36 := cells_4 BK101.out
        go_wp2_with (first | (go_at_call 113; (with_reducible refine (spec_l5Entries.calls k1 _ _ l0_1 true _ (cx (Kd.C_below HR0_1.out HB.out)) HC0_1.out A26.out).mono ?_); rintro e w37 ⟨rfl, hb⟩; replace BK101 := kb BK101 hb; replace HB := kB HB hb; (try clear hb); (try clear hb2); (try clear hk); (try clear hi); have hz38 := cells_4 BK101.out) | (go_at_call 94; (with_reducible refine (spec_l2Affixes.calls k1 _ _ l0_3 true _ (cx (Kd.C_below HR0_3.out HB.out)) HC0_3.out A28.out).mono ?_); rintro e w39 ⟨rfl, hb⟩; replace BK101 := kb BK101 hb; replace HB := kB HB hb; (try clear hb); (try clear hb2); (try clear hk); (try clear hi); have hz40 := cells_4 BK101.out))
        repeat (go_quiet (first | (go_at_call 113; (with_reducible refine (spec_l5Entries.calls k1 _ _ l0_1 true _ (cx (Kd.C_below HR0_1.out HB.out)) HC0_1.out A26.out).mono ?_); rintro e w37 ⟨rfl, hb⟩; replace BK101 := kb BK101 hb; replace HB := kB HB hb; (try clear hb); (try clear hb2); (try clear hk); (try clear hi); have hz38 := cells_4 BK101.out) | (go_at_call 94; (with_reducible refine (spec_l2Affixes.calls k1 _ _ l0_3 true _ (cx (Kd.C_below HR0_3.out HB.out)) HC0_3.out A28.out).mono ?_); rintro e w39 ⟨rfl, hb⟩; replace BK101 := kb BK101 hb; replace HB := kB HB hb; (try clear hb); (try clear hb2); (try clear hk); (try clear hi); have hz40 := cells_4 BK101.out)); try go_wp2_with (first | (go_at_call 113; (with_reducible refine (spec_l5Entries.calls k1 _ _ l0_1 true _ (cx (Kd.C_below HR0_1.out HB.out)) HC0_1.out A26.out).mono ?_); rintro e w37 ⟨rfl, hb⟩; replace BK101 := kb BK101 hb; replace HB := kB HB hb; (try clear hb); (try clear hb2); (try clear hk); (try clear hi); have hz38 := cells_4 BK101.out) | (go_at_call 94; (with_reducible refine (spec_l2Affixes.calls k1 _ _ l0_3 true _ (cx (Kd.C_below HR0_3.out HB.out)) HC0_3.out A28.out).mono ?_); rintro e w39 ⟨rfl, hb⟩; replace BK101 := kb BK101 hb; replace HB := kB HB hb; (try clear hb); (try clear hb2); (try clear hk); (try clear hi); have hz40 := cells_4 BK101.out)))
        go_ret
        exact ⟨by rfl, bx HB.out⟩
      ·replace c29 := Bool.eq_false_iff.mpr c29
       subst c29
       rw [if_neg Bool.false_ne_true] at H
       obtain rfl := Option.some.inj H
       have hz41 := cells_4 BK101.out
       go_wp2_with (first | (go_at_call 113; (with_reducible refine (spec_l5Entries.calls k1 _ _ l0_1 true _ (cx (Kd.C_below HR0_1.out HB.out)) HC0_1.out A26.out).mono ?_); rintro e w42 ⟨rfl, hb⟩; replace BK101 := kb BK101 hb; replace HB := kB HB hb; (try clear hb); (try clear hb2); (try clear hk); (try clear hi); have hz43 := cells_4 BK101.out) | (go_at_call 94; (with_reducible refine (spec_l2Affixes.calls k1 _ _ l0_3 false _ (cx (Kd.C_below HR0_3.out HB.out)) HC0_3.out A28.out).mono ?_); rintro e w44 ⟨rfl, hb⟩; replace BK101 := kb BK101 hb; replace HB := kB HB hb; (try clear hb); (try clear hb2); (try clear hk); (try clear hi)))
       repeat (go_quiet (first | (go_at_call 113; (with_reducible refine (spec_l5Entries.calls k1 _ _ l0_1 true _ (cx (Kd.C_below HR0_1.out HB.out)) HC0_1.out A26.out).mono ?_); rintro e w42 ⟨rfl, hb⟩; replace BK101 := kb BK101 hb; replace HB := kB HB hb; (try clear hb); (try clear hb2); (try clear hk); (try clear hi); have hz43 := cells_4 BK101.out) | (go_at_call 94; (with_reducible refine (spec_l2Affixes.calls k1 _ _ l0_3 false _ (cx (Kd.C_below HR0_3.out HB.out)) HC0_3.out A28.out).mono ?_); rintro e w44 ⟨rfl, hb⟩; replace BK101 := kb BK101 hb; replace HB := kB HB hb; (try clear hb); (try clear hb2); (try clear hk); (try clear hi))); try go_wp2_with (first | (go_at_call 113; (with_reducible refine (spec_l5Entries.calls k1 _ _ l0_1 true _ (cx (Kd.C_below HR0_1.out HB.out)) HC0_1.out A26.out).mono ?_); rintro e w42 ⟨rfl, hb⟩; replace BK101 := kb BK101 hb; replace HB := kB HB hb; (try clear hb); (try clear hb2); (try clear hk); (try clear hi); have hz43 := cells_4 BK101.out) | (go_at_call 94; (with_reducible refine (spec_l2Affixes.calls k1 _ _ l0_3 false _ (cx (Kd.C_below HR0_3.out HB.out)) HC0_3.out A28.out).mono ?_); rintro e w44 ⟨rfl, hb⟩; replace BK101 := kb BK101 hb; replace HB := kB HB hb; (try clear hb); (try clear hb2); (try clear hk); (try clear hi))))
       go_ret
       exact ⟨by rfl, bx HB.out⟩
     ·replace c27 := Bool.eq_false_iff.mpr c27
      subst c27
      rw [if_neg Bool.false_ne_true] at H
      obtain rfl := Option.some.inj H
      have hz45 := cells_4 BK101.out
      go_wp2_with (first | (go_at_call 113; (with_reducible refine (spec_l5Entries.calls k1 _ _ l0_1 false _ (cx (Kd.C_below HR0_1.out HB.out)) HC0_1.out A26.out).mono ?_); rintro e w46 ⟨rfl, hb⟩; replace BK101 := kb BK101 hb; replace HB := kB HB hb; (try clear hb); (try clear hb2); (try clear hk); (try clear hi)))
      repeat (go_quiet (first | (go_at_call 113; (with_reducible refine (spec_l5Entries.calls k1 _ _ l0_1 false _ (cx (Kd.C_below HR0_1.out HB.out)) HC0_1.out A26.out).mono ?_); rintro e w46 ⟨rfl, hb⟩; replace BK101 := kb BK101 hb; replace HB := kB HB hb; (try clear hb); (try clear hb2); (try clear hk); (try clear hi))); try go_wp2_with (first | (go_at_call 113; (with_reducible refine (spec_l5Entries.calls k1 _ _ l0_1 false _ (cx (Kd.C_below HR0_1.out HB.out)) HC0_1.out A26.out).mono ?_); rintro e w46 ⟨rfl, hb⟩; replace BK101 := kb BK101 hb; replace HB := kB HB hb; (try clear hb); (try clear hb2); (try clear hk); (try clear hi))))
      go_ret
      exact ⟨by rfl, bx HB.out⟩
    ·rw [if_neg c25] at H
     have c25b0 := decide_eq_false c25
     have c25b1 : decide (l0_0.length ≤ 24) = false := decide_eq_false (by omega)
     clear c25
     obtain rfl := Option.some.inj H
     have hz47 := cells_4 BK101.out
     go_wp2
     repeat (go_quiet (fail); try go_wp2)
     go_ret
     exact ⟨by rfl, bx HB.out⟩
theorem gf47 : Go_ Tryz.prog 47 Tryz.f47 := ⟨Tryz.func47, by kernel_rfl, rfl⟩
def spec_l1In.f (a0 : Int) (a1 : Int) (a2 : Int) : Option (Bool) := if a0 ≥ a1 then (some (decide (a0 ≤ a2))) else (some false)
theorem spec_l1In.calls (a0 : Int) (a1 : Int) (a2 : Int) (r : Bool) (w : World) (h : spec_l1In.f a0 a1 a2 = some r) :
  Calls Tryz.prog 47 #[.int .i64 a0, .int .i64 a1, .int .i64 a2] w fun e w' => e = .returned (.bool r) ∧ Drawn0 w w' := by
 unfold spec_l1In.f at h
 have H := h
 clear h
 by_cases c4 : a0 ≥ a1
 ·rw [if_pos c4] at H
  have c4b0 : decide (a1 ≤ a0) = true := decide_eq_true c4
  clear c4
  obtain rfl := Option.some.inj H
  go_enter Tryz.func47, Tryz.ntmps47
  go_wp2
  go_ret
  exact ⟨by first | rfl | (simp; done) | (simp [*]; done), by repeat (first | exact Drawn0.refl _ | apply Drawn0.step)⟩
 ·rw [if_neg c4] at H
  have c4b0 : decide (a1 ≤ a0) = false := decide_eq_false c4
  clear c4
  obtain rfl := Option.some.inj H
  go_enter Tryz.func47, Tryz.ntmps47
  go_wp2
  go_ret
  exact ⟨by first | rfl | (simp; done) | (simp [*]; done), by repeat (first | exact Drawn0.refl _ | apply Drawn0.step)⟩
theorem gf65 : Go_ Tryz.prog 65 Tryz.f65 := ⟨Tryz.func65, by kernel_rfl, rfl⟩
def spec_l6Figure.f (a0 : Int) : Option (Bool) := if a0 ≥ 48 then (if a0 ≤ 57 then (some true) else (if a0 ≥ 97 then (some (decide (a0 ≤ 102))) else (some false))) else (if a0 ≥ 97 then (some (decide (a0 ≤ 102))) else (some false))
theorem spec_l6Figure.calls (a0 : Int) (r : Bool) (w : World) (h : spec_l6Figure.f a0 = some r) :
  Calls Tryz.prog 65 #[.int .u8 a0] w fun e w' => e = .returned (.bool r) ∧ Drawn0 w w' := by
 unfold spec_l6Figure.f at h
 have H := h
 clear h
 by_cases c2 : a0 ≥ 48
 ·rw [if_pos c2] at H
  have c2b0 : decide (48 ≤ a0) = true := decide_eq_true c2
  clear c2
  by_cases c3 : a0 ≤ 57
  ·rw [if_pos c3] at H
   have c3b0 := decide_eq_true c3
   clear c3
   obtain rfl := Option.some.inj H
   go_enter Tryz.func65, Tryz.ntmps65
   go_wp2
   go_ret
   exact ⟨by first | rfl | (simp; done) | (simp [*]; done), by repeat (first | exact Drawn0.refl _ | apply Drawn0.step)⟩
  ·rw [if_neg c3] at H
   have c3b0 := decide_eq_false c3
   clear c3
   by_cases c4 : a0 ≥ 97
   ·rw [if_pos c4] at H
    have c4b0 : decide (97 ≤ a0) = true := decide_eq_true c4
    clear c4
    obtain rfl := Option.some.inj H
    go_enter Tryz.func65, Tryz.ntmps65
    go_wp2
    go_ret
    exact ⟨by first | rfl | (simp; done) | (simp [*]; done), by repeat (first | exact Drawn0.refl _ | apply Drawn0.step)⟩
   ·rw [if_neg c4] at H
    have c4b0 : decide (97 ≤ a0) = false := decide_eq_false c4
    clear c4
    obtain rfl := Option.some.inj H
    go_enter Tryz.func65, Tryz.ntmps65
    go_wp2
    go_ret
    exact ⟨by first | rfl | (simp; done) | (simp [*]; done), by repeat (first | exact Drawn0.refl _ | apply Drawn0.step)⟩
 ·rw [if_neg c2] at H
  have c2b0 : decide (48 ≤ a0) = false := decide_eq_false c2
  clear c2
  by_cases c5 : a0 ≥ 97
  ·rw [if_pos c5] at H
   have c5b0 : decide (97 ≤ a0) = true := decide_eq_true c5
   clear c5
   obtain rfl := Option.some.inj H
   go_enter Tryz.func65, Tryz.ntmps65
   go_wp2
   go_ret
   exact ⟨by first | rfl | (simp; done) | (simp [*]; done), by repeat (first | exact Drawn0.refl _ | apply Drawn0.step)⟩
  ·rw [if_neg c5] at H
   have c5b0 : decide (97 ≤ a0) = false := decide_eq_false c5
   clear c5
   obtain rfl := Option.some.inj H
   go_enter Tryz.func65, Tryz.ntmps65
   go_wp2
   go_ret
   exact ⟨by first | rfl | (simp; done) | (simp [*]; done), by repeat (first | exact Drawn0.refl _ | apply Drawn0.step)⟩
theorem gf66 : Go_ Tryz.prog 66 Tryz.f66 := ⟨Tryz.func66, by kernel_rfl, rfl⟩
def spec_l1Dec.f : Nat → Int → Option (ByteArray)
 | 0, _ => none
 | k + 1, a0 => if a0 < (-9223372036854775807) then (some (⟨#[45, 57, 50, 50, 51, 51, 55, 50, 48, 51, 54, 56, 53, 52, 55, 55, 53, 56, 48, 56]⟩ : ByteArray)) else (if a0 < 0 then ((spec_l1Dec.f k (wrap64 (-a0))).bind fun t101 => (if 1 + t101.size ≤ 9223372036854775807 then (some ((⟨#[45]⟩ : ByteArray) ++ t101)) else (none))) else (if a0 < 10 then (some (strOfNums (([(wrap64 (48 + a0)) % 256] : List Int)))) else ((spec_l1Dec.f k (wrap64 (Int.tdiv a0 10))).bind fun t105 => ((some (([(wrap64 (48 + (Int.tmod a0 10))) % 256] : List Int) : List Int)).bind fun y106 => (if t105.size + (strOfNums y106).size ≤ 9223372036854775807 then (some (t105 ++ (strOfNums y106))) else (none))))))
theorem spec_l1Dec.mono_l : ∀ k, (∀ y0, LeO (spec_l1Dec.f k y0) (spec_l1Dec.f (k + 1) y0))
 | 0 => fun _ r h => by simp [spec_l1Dec.f] at h
 | k + 1 => by
  have ih0 := spec_l1Dec.mono_l k
  ·intro y0
   unfold spec_l1Dec.f
   have I0_ := fun a => LeC.mk (ih0 a)
   exact LeC.out
theorem spec_l1Dec.mono : ∀ a0 k, LeO (spec_l1Dec.f k a0) (spec_l1Dec.f (k + 1) a0) := by
 intro a0 k
 have ih0 := spec_l1Dec.mono_l k
 exact ih0 a0
def spec_l1Dec.T7 : Bool × List (List Nat × List Nat) := (true, [([], []), ([0], [0]), ([1], [1]), ([], []), ([3], [3]), ([4], [4]), ([5], [5]), ([6], [6]), ([7], [7]), ([2, 8], [2, 8]), ([9, 2, 0, 1, 2, 3, 4, 5, 6, 7, 8, 9], [9])])
def spec_l1Dec.B7 : List Nat := [0, 1, 3, 0, 8, 24, 56, 120, 248, 511, 1023]
theorem spec_l1Dec.tab7 : rtab .any (opsOf Tryz.f66 7) = spec_l1Dec.T7 := by kernel_rfl
theorem spec_l1Dec.bits7 : waitsOk spec_l1Dec.T7.2 spec_l1Dec.B7 = true := by kernel_rfl
theorem spec_l1Dec.calls (k : Nat) : ∀ (a0 : Int) (r : ByteArray) (w : World) (h : spec_l1Dec.f k a0 = some r),
  Calls Tryz.prog 66 #[.int .i64 a0] w fun e w' => e = .returned (.string r) ∧ Below w.heap.size w w' := by
 induction k using Nat.strongRecOn with
 | _ k ih =>
 intro a0 r w h
 cases k with
 | zero => exact absurd h (by simp [spec_l1Dec.f])
 | succ k =>
 simp only [spec_l1Dec.f] at h
 have HB := Aside0.mk (Below.refl w.heap.size w)
 have H : (if a0 < (-9223372036854775807) then (some (⟨#[45, 57, 50, 50, 51, 51, 55, 50, 48, 51, 54, 56, 53, 52, 55, 55, 53, 56, 48, 56]⟩ : ByteArray)) else (if a0 < 0 then ((spec_l1Dec.f k (wrap64 (-a0))).bind fun t101 => (if 1 + t101.size ≤ 9223372036854775807 then (some ((⟨#[45]⟩ : ByteArray) ++ t101)) else (none))) else (if a0 < 10 then (some (strOfNums (([(wrap64 (48 + a0)) % 256] : List Int)))) else ((spec_l1Dec.f k (wrap64 (Int.tdiv a0 10))).bind fun t105 => ((some (([(wrap64 (48 + (Int.tmod a0 10))) % 256] : List Int) : List Int)).bind fun y106 => (if t105.size + (strOfNums y106).size ≤ 9223372036854775807 then (some (t105 ++ (strOfNums y106))) else (none))))))) = some r := h
 clear h
 by_cases c2 : a0 < (-9223372036854775807)
 ·rw [if_pos c2] at H
  have c2b0 := decide_eq_true c2
  clear c2
  obtain rfl := Option.some.inj H
  go_enter Tryz.func66, Tryz.ntmps66
  go_wp2
  go_ret
  exact ⟨by rfl, bx HB.out⟩
 ·rw [if_neg c2] at H
  have c2b0 := decide_eq_false c2
  clear c2
  by_cases c3 : a0 < 0
  ·rw [if_pos c3] at H
   have c3b0 := decide_eq_true c3
   clear c3
   replace H := Option.bind_eq_some_iff.mp H
   obtain ⟨t101, A40, H⟩ := H
   have A4 := Aside0.mk A40
   clear A40
   have c5 := ite_y H
   replace H := ite_t H
   have c5b0 := eq_true c5
   have c5b1 := decide_eq_true c5
   try have c5b2 : (9223372036854775807 < 1 + t101.size) = False := eq_false (Nat.not_lt.2 c5)
   obtain rfl := Option.some.inj H
   go_enter Tryz.func66, Tryz.ntmps66
   go_wp2_with (first | ((with_reducible refine gate_callee (f := 66) rfl ?_); refine goL (some 9) rfl rfl gf66 #[.int .i64 (wrap64 (-a0))] rfl rfl ?_; (with_reducible refine (ih k (by omega) (wrap64 (-a0)) t101 _ A4.out).mono ?_); rintro e w6 ⟨rfl, hb⟩; refine ⟨_, rfl, ?_⟩; replace HB := kB HB hb; (try clear hb); (try clear hb2); (try clear hk); (try clear hi)))
   go_ret
   exact ⟨by rfl, bx HB.out⟩
  ·rw [if_neg c3] at H
   have c3b0 := decide_eq_false c3
   clear c3
   by_cases c7 : a0 < 10
   ·rw [if_pos c7] at H
    have c7b0 := decide_eq_true c7
    clear c7
    obtain ⟨y102, hy102⟩ : ∃ y_ : List Int, y_ = (([(wrap64 (48 + a0)) % 256] : List Int)) := ⟨_, rfl⟩
    replace H : (some (strOfNums y102)) = some r := by first | (rw [hy102]; with_reducible exact H) | (have H2_ := (Option.bind_some _ _).symm.trans H; rw [hy102]; with_reducible exact H2_) | (have H2_ := (Option.bind_some _ _).symm.trans H; with_reducible exact H2_) | with_reducible exact H | (rw [hy102]; exact H) | exact H
    have Ny102 := Aside0.mk hy102
    clear hy102
    obtain rfl := Option.some.inj H
    go_enter Tryz.func66, Tryz.ntmps66
    go_wp2_with (first | ((with_reducible refine gate_dst (N := 16) rfl ?_); refine Kd.R_lit (Kd.int .u8) _ 5 ?hg (N := 16) ?hd (xs := ([(wrap64 (48 + a0)) % 256] : List Int)) (inner := [.int .u8 ((wrap64 (48 + a0)) % 256)]) (ok := fun _ => True) (okp := fun _ => True) ?hr ?hp (fun _ hk => hk) trivial (Below.refl _ _) (Nat.le_refl _) (by simp) ?_; (case hd => rfl); (case hg => rfl); (case hr => first | (go_simp; done) | (go_simp; rfl)); (case hp => exact (Reps.one (show Kd.M (Kd.int .u8) _ _ _ ((wrap64 (48 + a0)) % 256) [.int .u8 ((wrap64 (48 + a0)) % 256)] from rfl) (Reps.none _ _))); intro v103 w8 ho9 hb hg_ hnew_; clear hg_ hnew_; (first | rw [← Ny102.out] at ho9 | (simp only [Int.reduceToNat] at ho9; rw [← Ny102.out] at ho9)); have HO104 := Aside0.mk (Kd.R_lower ho9 (bz HB.out)); replace HB := kB HB hb; clear hb ho9; have hcv10 := own_string (P := Tryz.prog) Tryz.underlying122 Tryz.underlying5 Tryz.underlying9 (Kd.own_of_R HO104.out)))
    go_ret
    exact ⟨by rfl, bx HB.out⟩
   ·rw [if_neg c7] at H
    have c7b0 := decide_eq_false c7
    clear c7
    replace H := Option.bind_eq_some_iff.mp H
    obtain ⟨t105, A110, H⟩ := H
    have A11 := Aside0.mk A110
    clear A110
    obtain ⟨y106, hy106⟩ : ∃ y_ : List Int, y_ = (([(wrap64 (48 + (Int.tmod a0 10))) % 256] : List Int)) := ⟨_, rfl⟩
    replace H : (if t105.size + (strOfNums y106).size ≤ 9223372036854775807 then (some (t105 ++ (strOfNums y106))) else (none)) = some r := by first | (rw [hy106]; with_reducible exact H) | (have H2_ := (Option.bind_some _ _).symm.trans H; rw [hy106]; with_reducible exact H2_) | (have H2_ := (Option.bind_some _ _).symm.trans H; with_reducible exact H2_) | with_reducible exact H | (rw [hy106]; exact H) | exact H
    have Ny106 := Aside0.mk hy106
    clear hy106
    have c12 := ite_y H
    replace H := ite_t H
    have c12b0 := eq_true c12
    have c12b1 := decide_eq_true c12
    try have c12b2 : (9223372036854775807 < t105.size + (strOfNums y106).size) = False := eq_false (Nat.not_lt.2 c12)
    obtain rfl := Option.some.inj H
    go_enter Tryz.func66, Tryz.ntmps66
    try go_wp2
    replace HB := Aside0.mk (below_drew1 HB.out)
    refine start_ (n := 11) (S := fun w' => True) (ds := []) _ (by kernel_rfl) rfl rfl trivial (fun hHeld => ?_); refine with_tabW spec_l1Dec.tab7 spec_l1Dec.bits7 (fun HT_ HW_ => ?_)
    generalize w.drew = w13 at HB hHeld ⊢
    refine ord_ [.p 0 18, .p 1 19, .p 3 21, .p 4 22, .p 5 23, .p 6 24] ?_
    repeat (refine pu_ (v := ?_) (a' := ?_) HT_ rfl rfl (by kernel_rfl) (fun _ _ _ h => h) (by rfl) ?_ ?_ ?_; rotate_left 2; (intro w'; go_simp; with_reducible rfl); (simp only [Act.put, List.setIfInBounds_toArray, List.set_cons_zero, List.set_cons_succ, i64_w, i32_w]; rfl))
    refine ord0 ?_
    refine join_ (σ := Value) 2 #[true, true, true, true, true, true, true, true, true, false, false] (fun s_ => [(20, .string t105), (25, s_), (26, .string (strOfNums y106))]) (fun s_ w' => (Kd.R (Kd.int .u8) 5 w' w.heap.size (fun _ => True) s_ y106) ∧ (Below w.heap.size w w')) ?_ ?_
    rotate_left
    ·intro hCont
     refine two_ (i := 2) (j := 7) (Ni := some 20) (Nj := some 25) #[true, true, true, true, true, true, true, false, false, false, false] #[true, true, false, true, true, true, true, true, false, false, false] rfl rfl rfl rfl (two_of HT_.out (by kernel_rfl)) (by decide) (by decide) (fun K hK => ?_) (fun K hK => ?_)
     ·skip
      refine goM gf66 #[.int .i64 (wrap64 (Int.tdiv a0 10))] (by rfl) rfl rfl rfl ?_
      with_reducible refine (ih k (by omega) (wrap64 (Int.tdiv a0 10)) t105 _ A11.out).mono ?_
      rintro e w14 ⟨rfl, hb⟩
      refine ⟨_, rfl, ?_⟩
      replace HB := kB HB hb
      (try clear hb)
      (try clear hb2)
      (try clear hk)
      (try clear hi)
      refine hK.out _ _ trivial (fun hHeld => ?_)
      clear hK K
      refine norm_ (a' := ?_) ?_ ?_
      rotate_left
      ·show Act.put _ (some 20) _ = _
       simp only [Act.put, List.setIfInBounds_toArray, List.set_cons_zero, List.set_cons_succ, i64_w, i32_w]
       rfl
      refine on_ (i := 7) (N := some 25) HT_ rfl rfl (by kernel_rfl) (by decide) (fun K hK => ?_)
      refine Kd.R_lit_step (Kd.int .u8) _ 5 ?hg (N := 25) ?hd (xs := ([(wrap64 (48 + (Int.tmod a0 10))) % 256] : List Int)) (inner := [.int .u8 ((wrap64 (48 + (Int.tmod a0 10))) % 256)]) (ok := fun _ => True) (okp := fun _ => True) ?hr ?hp (fun _ hk => hk) trivial (Below.refl _ _) (Nat.le_refl _) (by simp) ?_; (case hd => rfl); (case hg => rfl); (case hr => first | (go_simp; done) | (go_simp; rfl)); (case hp => exact (Reps.one (show Kd.M (Kd.int .u8) _ _ _ ((wrap64 (48 + (Int.tmod a0 10))) % 256) [.int .u8 ((wrap64 (48 + (Int.tmod a0 10))) % 256)] from rfl) (Reps.none _ _)))
      intro v107 w15 ho16 hb hg_ hnew_
      clear hg_ hnew_
      (first | rw [← Ny106.out] at ho16 | (simp only [Int.reduceToNat] at ho16; rw [← Ny106.out] at ho16))
      have HO108 := Aside0.mk (Kd.R_lower ho16 (bz HB.out))
      replace HB := kB HB hb
      clear hb ho16
      refine hK.out _ _ trivial (fun hHeld => ?_)
      clear hK K
      refine norm_ (a' := ?_) ?_ ?_
      rotate_left
      ·show Act.put _ (some 25) _ = _
       simp only [Act.put, List.setIfInBounds_toArray, List.set_cons_zero, List.set_cons_succ, i64_w, i32_w]
       rfl
      refine on_ (i := 8) (N := some 26) HT_ rfl rfl (by kernel_rfl) (by decide) (fun K hK => ?_)
      have hcv17 := own_string (P := Tryz.prog) Tryz.underlying122 Tryz.underlying5 Tryz.underlying9 (Kd.own_of_R HO108.out)
      refine value_ (w1 := ?_) (v := ?_) (by rfl) rfl ?_ ?_
      rotate_left 2
      ·go_simp
       constructor
       ·rfl
       ·rfl
      clear hcv17
      refine hK.out _ _ trivial (fun hHeld => ?_)
      clear hK K
      refine norm_ (a' := ?_) ?_ ?_
      rotate_left
      ·show Act.put _ (some 26) _ = _
       simp only [Act.put, List.setIfInBounds_toArray, List.set_cons_zero, List.set_cons_succ, i64_w, i32_w]
       rfl
      exact norm_ (by simp only [putAll, Act.put, List.setIfInBounds_toArray, List.set_cons_zero, List.set_cons_succ]) (hCont (v107) _ ⟨(rx HO108.out), (bx HB.out)⟩)
     ·skip
      refine Kd.R_lit_step (Kd.int .u8) _ 5 ?hg (N := 25) ?hd (xs := ([(wrap64 (48 + (Int.tmod a0 10))) % 256] : List Int)) (inner := [.int .u8 ((wrap64 (48 + (Int.tmod a0 10))) % 256)]) (ok := fun _ => True) (okp := fun _ => True) ?hr ?hp (fun _ hk => hk) trivial (Below.refl _ _) (Nat.le_refl _) (by simp) ?_; (case hd => rfl); (case hg => rfl); (case hr => first | (go_simp; done) | (go_simp; rfl)); (case hp => exact (Reps.one (show Kd.M (Kd.int .u8) _ _ _ ((wrap64 (48 + (Int.tmod a0 10))) % 256) [.int .u8 ((wrap64 (48 + (Int.tmod a0 10))) % 256)] from rfl) (Reps.none _ _)))
      intro v107 w14 ho15 hb hg_ hnew_
      clear hg_ hnew_
      (first | rw [← Ny106.out] at ho15 | (simp only [Int.reduceToNat] at ho15; rw [← Ny106.out] at ho15))
      have HO108 := Aside0.mk (Kd.R_lower ho15 (bz HB.out))
      replace HB := kB HB hb
      clear hb ho15
      refine hK.out _ _ trivial (fun hHeld => ?_)
      clear hK K
      refine norm_ (a' := ?_) ?_ ?_
      rotate_left
      ·show Act.put _ (some 25) _ = _
       simp only [Act.put, List.setIfInBounds_toArray, List.set_cons_zero, List.set_cons_succ, i64_w, i32_w]
       rfl
      refine two_ (i := 2) (j := 8) (Ni := some 20) (Nj := some 26) #[true, true, true, true, true, true, true, true, false, false, false] #[true, true, false, true, true, true, true, true, true, false, false] rfl rfl rfl rfl (two_of HT_.out (by kernel_rfl)) (by decide) (by decide) (fun K hK => ?_) (fun K hK => ?_)
      ·skip
       refine goM gf66 #[.int .i64 (wrap64 (Int.tdiv a0 10))] (by rfl) rfl rfl rfl ?_
       with_reducible refine (ih k (by omega) (wrap64 (Int.tdiv a0 10)) t105 _ A11.out).mono ?_
       rintro e w16 ⟨rfl, hb⟩
       refine ⟨_, rfl, ?_⟩
       replace HO108 := kR HO108 hb
       replace HB := kB HB hb
       (try clear hb)
       (try clear hb2)
       (try clear hk)
       (try clear hi)
       refine hK.out _ _ trivial (fun hHeld => ?_)
       clear hK K
       refine norm_ (a' := ?_) ?_ ?_
       rotate_left
       ·show Act.put _ (some 20) _ = _
        simp only [Act.put, List.setIfInBounds_toArray, List.set_cons_zero, List.set_cons_succ, i64_w, i32_w]
        rfl
       refine on_ (i := 8) (N := some 26) HT_ rfl rfl (by kernel_rfl) (by decide) (fun K hK => ?_)
       have hcv17 := own_string (P := Tryz.prog) Tryz.underlying122 Tryz.underlying5 Tryz.underlying9 (Kd.own_of_R HO108.out)
       refine value_ (w1 := ?_) (v := ?_) (by rfl) rfl ?_ ?_
       rotate_left 2
       ·go_simp
        constructor
        ·rfl
        ·rfl
       clear hcv17
       refine hK.out _ _ trivial (fun hHeld => ?_)
       clear hK K
       refine norm_ (a' := ?_) ?_ ?_
       rotate_left
       ·show Act.put _ (some 26) _ = _
        simp only [Act.put, List.setIfInBounds_toArray, List.set_cons_zero, List.set_cons_succ, i64_w, i32_w]
        rfl
       exact norm_ (by simp only [putAll, Act.put, List.setIfInBounds_toArray, List.set_cons_zero, List.set_cons_succ]) (hCont (v107) _ ⟨(rx HO108.out), (bx HB.out)⟩)
      ·skip
       have hcv16 := own_string (P := Tryz.prog) Tryz.underlying122 Tryz.underlying5 Tryz.underlying9 (Kd.own_of_R HO108.out)
       refine value_ (w1 := ?_) (v := ?_) (by rfl) rfl ?_ ?_
       rotate_left 2
       ·go_simp
        constructor
        ·rfl
        ·rfl
       clear hcv16
       refine hK.out _ _ trivial (fun hHeld => ?_)
       clear hK K
       refine norm_ (a' := ?_) ?_ ?_
       rotate_left
       ·show Act.put _ (some 26) _ = _
        simp only [Act.put, List.setIfInBounds_toArray, List.set_cons_zero, List.set_cons_succ, i64_w, i32_w]
        rfl
       refine on_ (i := 2) (N := some 20) HT_ rfl rfl (by kernel_rfl) (by decide) (fun K hK => ?_)
       refine goM gf66 #[.int .i64 (wrap64 (Int.tdiv a0 10))] (by rfl) rfl rfl rfl ?_
       with_reducible refine (ih k (by omega) (wrap64 (Int.tdiv a0 10)) t105 _ A11.out).mono ?_
       rintro e w17 ⟨rfl, hb⟩
       refine ⟨_, rfl, ?_⟩
       replace HO108 := kR HO108 hb
       replace HB := kB HB hb
       (try clear hb)
       (try clear hb2)
       (try clear hk)
       (try clear hi)
       refine hK.out _ _ trivial (fun hHeld => ?_)
       clear hK K
       refine norm_ (a' := ?_) ?_ ?_
       rotate_left
       ·show Act.put _ (some 20) _ = _
        simp only [Act.put, List.setIfInBounds_toArray, List.set_cons_zero, List.set_cons_succ, i64_w, i32_w]
        rfl
       exact norm_ (by simp only [putAll, Act.put, List.setIfInBounds_toArray, List.set_cons_zero, List.set_cons_succ]) (hCont (v107) _ ⟨(rx HO108.out), (bx HB.out)⟩)
    rintro v107 w18 ⟨h0_, h1_⟩
    have n0_ : Aside0 (Kd.R (Kd.int .u8) 5 w18 w.heap.size (fun _ => True) v107 y106) := ⟨h0_⟩
    have n1_ : Aside0 (Below w.heap.size w w18) := ⟨h1_⟩
    clear HB
    clear h0_ h1_
    have HO108 := n0_
    have HB := n1_
    clear n0_ n1_
    have hHeld := trivial
    refine norm_ (a' := ?_) ?_ ?_
    rotate_left
    ·simp only [putAll, Act.put, List.setIfInBounds_toArray, List.set_cons_zero, List.set_cons_succ]
     rfl
    refine ord_ [.p 9 27, .p 10 2] ?_
    repeat (refine pu_ (v := ?_) (a' := ?_) HT_ rfl rfl (by kernel_rfl) (fun _ _ _ h => h) (by rfl) ?_ ?_ ?_; rotate_left 2; (intro w'; go_simp; with_reducible rfl); (simp only [Act.put, List.setIfInBounds_toArray, List.set_cons_zero, List.set_cons_succ, i64_w, i32_w]; rfl))
    refine ord0 ?_
    refine done_ (done_of HT_.out (by kernel_rfl)) ?_
    try go_wp2
    go_ret
    exact ⟨by rfl, bx HB.out⟩
theorem gf97 : Go_ Tryz.prog 97 Tryz.f97 := ⟨Tryz.func97, by kernel_rfl, rfl⟩
def spec_l2AffixPut.f (a0_0 : ByteArray) (a0_1 : Bool) (a0_2 : ByteArray) (a0_3 : ByteArray) (a0_4 : ByteArray) : Option (ByteArray) := if a0_1 = true then (if 5 + 1 ≤ 9223372036854775807 then (if ((⟨#[102, 114, 111, 110, 116]⟩ : ByteArray) ++ (⟨#[32]⟩ : ByteArray)).size + a0_0.size ≤ 9223372036854775807 then (if (((⟨#[102, 114, 111, 110, 116]⟩ : ByteArray) ++ (⟨#[32]⟩ : ByteArray)) ++ a0_0).size + 1 ≤ 9223372036854775807 then (if ((((⟨#[102, 114, 111, 110, 116]⟩ : ByteArray) ++ (⟨#[32]⟩ : ByteArray)) ++ a0_0) ++ (⟨#[32]⟩ : ByteArray)).size + a0_2.size ≤ 9223372036854775807 then (if (((((⟨#[102, 114, 111, 110, 116]⟩ : ByteArray) ++ (⟨#[32]⟩ : ByteArray)) ++ a0_0) ++ (⟨#[32]⟩ : ByteArray)) ++ a0_2).size + 1 ≤ 9223372036854775807 then (if ((((((⟨#[102, 114, 111, 110, 116]⟩ : ByteArray) ++ (⟨#[32]⟩ : ByteArray)) ++ a0_0) ++ (⟨#[32]⟩ : ByteArray)) ++ a0_2) ++ (⟨#[32]⟩ : ByteArray)).size + a0_3.size ≤ 9223372036854775807 then (if (((((((⟨#[102, 114, 111, 110, 116]⟩ : ByteArray) ++ (⟨#[32]⟩ : ByteArray)) ++ a0_0) ++ (⟨#[32]⟩ : ByteArray)) ++ a0_2) ++ (⟨#[32]⟩ : ByteArray)) ++ a0_3).size + 1 ≤ 9223372036854775807 then (if ((((((((⟨#[102, 114, 111, 110, 116]⟩ : ByteArray) ++ (⟨#[32]⟩ : ByteArray)) ++ a0_0) ++ (⟨#[32]⟩ : ByteArray)) ++ a0_2) ++ (⟨#[32]⟩ : ByteArray)) ++ a0_3) ++ (⟨#[32]⟩ : ByteArray)).size + a0_4.size ≤ 9223372036854775807 then (some (((((((((⟨#[102, 114, 111, 110, 116]⟩ : ByteArray) ++ (⟨#[32]⟩ : ByteArray)) ++ a0_0) ++ (⟨#[32]⟩ : ByteArray)) ++ a0_2) ++ (⟨#[32]⟩ : ByteArray)) ++ a0_3) ++ (⟨#[32]⟩ : ByteArray)) ++ a0_4)) else (none)) else (none)) else (none)) else (none)) else (none)) else (none)) else (none)) else (none)) else (if 3 + 1 ≤ 9223372036854775807 then (if ((⟨#[101, 110, 100]⟩ : ByteArray) ++ (⟨#[32]⟩ : ByteArray)).size + a0_0.size ≤ 9223372036854775807 then (if (((⟨#[101, 110, 100]⟩ : ByteArray) ++ (⟨#[32]⟩ : ByteArray)) ++ a0_0).size + 1 ≤ 9223372036854775807 then (if ((((⟨#[101, 110, 100]⟩ : ByteArray) ++ (⟨#[32]⟩ : ByteArray)) ++ a0_0) ++ (⟨#[32]⟩ : ByteArray)).size + a0_2.size ≤ 9223372036854775807 then (if (((((⟨#[101, 110, 100]⟩ : ByteArray) ++ (⟨#[32]⟩ : ByteArray)) ++ a0_0) ++ (⟨#[32]⟩ : ByteArray)) ++ a0_2).size + 1 ≤ 9223372036854775807 then (if ((((((⟨#[101, 110, 100]⟩ : ByteArray) ++ (⟨#[32]⟩ : ByteArray)) ++ a0_0) ++ (⟨#[32]⟩ : ByteArray)) ++ a0_2) ++ (⟨#[32]⟩ : ByteArray)).size + a0_3.size ≤ 9223372036854775807 then (if (((((((⟨#[101, 110, 100]⟩ : ByteArray) ++ (⟨#[32]⟩ : ByteArray)) ++ a0_0) ++ (⟨#[32]⟩ : ByteArray)) ++ a0_2) ++ (⟨#[32]⟩ : ByteArray)) ++ a0_3).size + 1 ≤ 9223372036854775807 then (if ((((((((⟨#[101, 110, 100]⟩ : ByteArray) ++ (⟨#[32]⟩ : ByteArray)) ++ a0_0) ++ (⟨#[32]⟩ : ByteArray)) ++ a0_2) ++ (⟨#[32]⟩ : ByteArray)) ++ a0_3) ++ (⟨#[32]⟩ : ByteArray)).size + a0_4.size ≤ 9223372036854775807 then (some (((((((((⟨#[101, 110, 100]⟩ : ByteArray) ++ (⟨#[32]⟩ : ByteArray)) ++ a0_0) ++ (⟨#[32]⟩ : ByteArray)) ++ a0_2) ++ (⟨#[32]⟩ : ByteArray)) ++ a0_3) ++ (⟨#[32]⟩ : ByteArray)) ++ a0_4)) else (none)) else (none)) else (none)) else (none)) else (none)) else (none)) else (none)) else (none))
theorem spec_l2AffixPut.calls (a0_0 : ByteArray) (a0_1 : Bool) (a0_2 : ByteArray) (a0_3 : ByteArray) (a0_4 : ByteArray) (r : ByteArray) (w : World) (h : spec_l2AffixPut.f a0_0 a0_1 a0_2 a0_3 a0_4 = some r) :
  Calls Tryz.prog 97 #[.agg #[.string a0_0, .bool a0_1, .string a0_2, .string a0_3, .string a0_4]] w fun e w' => e = .returned (.string r) ∧ Below w.heap.size w w' := by
 obtain ⟨s1_, hs1_⟩ : ∃ s_ : ByteArray, ((⟨#[102, 114, 111, 110, 116]⟩ : ByteArray) ++ (⟨#[32]⟩ : ByteArray)) = s_ := ⟨_, rfl⟩
 obtain ⟨s2_, hs2_⟩ : ∃ s_ : ByteArray, (s1_ ++ a0_0) = s_ := ⟨_, rfl⟩
 obtain ⟨s3_, hs3_⟩ : ∃ s_ : ByteArray, (s2_ ++ (⟨#[32]⟩ : ByteArray)) = s_ := ⟨_, rfl⟩
 obtain ⟨s4_, hs4_⟩ : ∃ s_ : ByteArray, (s3_ ++ a0_2) = s_ := ⟨_, rfl⟩
 obtain ⟨s5_, hs5_⟩ : ∃ s_ : ByteArray, (s4_ ++ (⟨#[32]⟩ : ByteArray)) = s_ := ⟨_, rfl⟩
 obtain ⟨s6_, hs6_⟩ : ∃ s_ : ByteArray, (s5_ ++ a0_3) = s_ := ⟨_, rfl⟩
 obtain ⟨s7_, hs7_⟩ : ∃ s_ : ByteArray, (s6_ ++ (⟨#[32]⟩ : ByteArray)) = s_ := ⟨_, rfl⟩
 obtain ⟨s8_, hs8_⟩ : ∃ s_ : ByteArray, (s7_ ++ a0_4) = s_ := ⟨_, rfl⟩
 obtain ⟨s9_, hs9_⟩ : ∃ s_ : ByteArray, ((⟨#[101, 110, 100]⟩ : ByteArray) ++ (⟨#[32]⟩ : ByteArray)) = s_ := ⟨_, rfl⟩
 obtain ⟨s10_, hs10_⟩ : ∃ s_ : ByteArray, (s9_ ++ a0_0) = s_ := ⟨_, rfl⟩
 obtain ⟨s11_, hs11_⟩ : ∃ s_ : ByteArray, (s10_ ++ (⟨#[32]⟩ : ByteArray)) = s_ := ⟨_, rfl⟩
 obtain ⟨s12_, hs12_⟩ : ∃ s_ : ByteArray, (s11_ ++ a0_2) = s_ := ⟨_, rfl⟩
 obtain ⟨s13_, hs13_⟩ : ∃ s_ : ByteArray, (s12_ ++ (⟨#[32]⟩ : ByteArray)) = s_ := ⟨_, rfl⟩
 obtain ⟨s14_, hs14_⟩ : ∃ s_ : ByteArray, (s13_ ++ a0_3) = s_ := ⟨_, rfl⟩
 obtain ⟨s15_, hs15_⟩ : ∃ s_ : ByteArray, (s14_ ++ (⟨#[32]⟩ : ByteArray)) = s_ := ⟨_, rfl⟩
 obtain ⟨s16_, hs16_⟩ : ∃ s_ : ByteArray, (s15_ ++ a0_4) = s_ := ⟨_, rfl⟩
 have hu103 := Tryz.underlying103
 have HB := Aside0.mk (Below.refl w.heap.size w)
 have H : (if a0_1 = true then (if 5 + 1 ≤ 9223372036854775807 then (if s1_.size + a0_0.size ≤ 9223372036854775807 then (if s2_.size + 1 ≤ 9223372036854775807 then (if s3_.size + a0_2.size ≤ 9223372036854775807 then (if s4_.size + 1 ≤ 9223372036854775807 then (if s5_.size + a0_3.size ≤ 9223372036854775807 then (if s6_.size + 1 ≤ 9223372036854775807 then (if s7_.size + a0_4.size ≤ 9223372036854775807 then (some s8_) else (none)) else (none)) else (none)) else (none)) else (none)) else (none)) else (none)) else (none)) else (if 3 + 1 ≤ 9223372036854775807 then (if s9_.size + a0_0.size ≤ 9223372036854775807 then (if s10_.size + 1 ≤ 9223372036854775807 then (if s11_.size + a0_2.size ≤ 9223372036854775807 then (if s12_.size + 1 ≤ 9223372036854775807 then (if s13_.size + a0_3.size ≤ 9223372036854775807 then (if s14_.size + 1 ≤ 9223372036854775807 then (if s15_.size + a0_4.size ≤ 9223372036854775807 then (some s16_) else (none)) else (none)) else (none)) else (none)) else (none)) else (none)) else (none)) else (none))) = some r := by subst hs16_; subst hs15_; subst hs14_; subst hs13_; subst hs12_; subst hs11_; subst hs10_; subst hs9_; subst hs8_; subst hs7_; subst hs6_; subst hs5_; subst hs4_; subst hs3_; subst hs2_; subst hs1_; exact h
 clear h
 by_cases c2 : a0_1 = true
 ·subst c2
  have H1 : (if 5 + 1 ≤ 9223372036854775807 then (if s1_.size + a0_0.size ≤ 9223372036854775807 then (if s2_.size + 1 ≤ 9223372036854775807 then (if s3_.size + a0_2.size ≤ 9223372036854775807 then (if s4_.size + 1 ≤ 9223372036854775807 then (if s5_.size + a0_3.size ≤ 9223372036854775807 then (if s6_.size + 1 ≤ 9223372036854775807 then (if s7_.size + a0_4.size ≤ 9223372036854775807 then (some s8_) else (none)) else (none)) else (none)) else (none)) else (none)) else (none)) else (none)) else (none)) = some r := by rw [if_pos rfl] at H; first | exact H | (subst hs16_; subst hs15_; subst hs14_; subst hs13_; subst hs12_; subst hs11_; subst hs10_; subst hs9_; subst hs8_; subst hs7_; subst hs6_; subst hs5_; subst hs4_; subst hs3_; subst hs2_; subst hs1_; exact H)
  clear H
  have H := H1
  clear H1
  have c3 := ite_y H
  replace H := ite_t H
  have c3b0 := eq_true c3
  have c3b1 := decide_eq_true c3
  try have c3b2 : (9223372036854775807 < 5 + 1) = False := eq_false (Nat.not_lt.2 c3)
  have c4 := ite_y H
  replace H := ite_t H
  have c4b0 := eq_true c4
  have c4b1 := decide_eq_true c4
  try have c4b2 : (9223372036854775807 < s1_.size + a0_0.size) = False := eq_false (Nat.not_lt.2 c4)
  have c5 := ite_y H
  replace H := ite_t H
  have c5b0 := eq_true c5
  have c5b1 := decide_eq_true c5
  try have c5b2 : (9223372036854775807 < s2_.size + 1) = False := eq_false (Nat.not_lt.2 c5)
  have c6 := ite_y H
  replace H := ite_t H
  have c6b0 := eq_true c6
  have c6b1 := decide_eq_true c6
  try have c6b2 : (9223372036854775807 < s3_.size + a0_2.size) = False := eq_false (Nat.not_lt.2 c6)
  have c7 := ite_y H
  replace H := ite_t H
  have c7b0 := eq_true c7
  have c7b1 := decide_eq_true c7
  try have c7b2 : (9223372036854775807 < s4_.size + 1) = False := eq_false (Nat.not_lt.2 c7)
  have c8 := ite_y H
  replace H := ite_t H
  have c8b0 := eq_true c8
  have c8b1 := decide_eq_true c8
  try have c8b2 : (9223372036854775807 < s5_.size + a0_3.size) = False := eq_false (Nat.not_lt.2 c8)
  have c9 := ite_y H
  replace H := ite_t H
  have c9b0 := eq_true c9
  have c9b1 := decide_eq_true c9
  try have c9b2 : (9223372036854775807 < s6_.size + 1) = False := eq_false (Nat.not_lt.2 c9)
  have c10 := ite_y H
  replace H := ite_t H
  have c10b0 := eq_true c10
  have c10b1 := decide_eq_true c10
  try have c10b2 : (9223372036854775807 < s7_.size + a0_4.size) = False := eq_false (Nat.not_lt.2 c10)
  obtain rfl := Option.some.inj H
  go_enter Tryz.func97, Tryz.ntmps97
  go_wp2_with (first | ((with_reducible refine gate_dst (N := 1) rfl ?_); refine box_event rfl (N := 1) rfl (cs := #[.string a0_0, .bool true, .string a0_2, .string a0_3, .string a0_4]) (t := 103) (by go_simp <;> rfl) ?_; intro gb101 hg w11 hbox hb; have BK101 := Aside0.mk (hbox); have GW101 := Le_.mk (ge_of hg HB.out); have GE101 := Le_.mk (ge_of hg HB.out); replace HB := kB HB hb; clear hb hbox hg; have hz12 := cells_5 BK101.out))
  go_ret
  exact ⟨by rfl, bx HB.out⟩
 ·replace c2 := Bool.eq_false_iff.mpr c2
  subst c2
  have H1 : (if 3 + 1 ≤ 9223372036854775807 then (if s9_.size + a0_0.size ≤ 9223372036854775807 then (if s10_.size + 1 ≤ 9223372036854775807 then (if s11_.size + a0_2.size ≤ 9223372036854775807 then (if s12_.size + 1 ≤ 9223372036854775807 then (if s13_.size + a0_3.size ≤ 9223372036854775807 then (if s14_.size + 1 ≤ 9223372036854775807 then (if s15_.size + a0_4.size ≤ 9223372036854775807 then (some s16_) else (none)) else (none)) else (none)) else (none)) else (none)) else (none)) else (none)) else (none)) = some r := by rw [if_neg (show ¬ (false = true) by decide)] at H; first | exact H | (subst hs16_; subst hs15_; subst hs14_; subst hs13_; subst hs12_; subst hs11_; subst hs10_; subst hs9_; subst hs8_; subst hs7_; subst hs6_; subst hs5_; subst hs4_; subst hs3_; subst hs2_; subst hs1_; exact H)
  clear H
  have H := H1
  clear H1
  have c13 := ite_y H
  replace H := ite_t H
  have c13b0 := eq_true c13
  have c13b1 := decide_eq_true c13
  try have c13b2 : (9223372036854775807 < 3 + 1) = False := eq_false (Nat.not_lt.2 c13)
  have c14 := ite_y H
  replace H := ite_t H
  have c14b0 := eq_true c14
  have c14b1 := decide_eq_true c14
  try have c14b2 : (9223372036854775807 < s9_.size + a0_0.size) = False := eq_false (Nat.not_lt.2 c14)
  have c15 := ite_y H
  replace H := ite_t H
  have c15b0 := eq_true c15
  have c15b1 := decide_eq_true c15
  try have c15b2 : (9223372036854775807 < s10_.size + 1) = False := eq_false (Nat.not_lt.2 c15)
  have c16 := ite_y H
  replace H := ite_t H
  have c16b0 := eq_true c16
  have c16b1 := decide_eq_true c16
  try have c16b2 : (9223372036854775807 < s11_.size + a0_2.size) = False := eq_false (Nat.not_lt.2 c16)
  have c17 := ite_y H
  replace H := ite_t H
  have c17b0 := eq_true c17
  have c17b1 := decide_eq_true c17
  try have c17b2 : (9223372036854775807 < s12_.size + 1) = False := eq_false (Nat.not_lt.2 c17)
  have c18 := ite_y H
  replace H := ite_t H
  have c18b0 := eq_true c18
  have c18b1 := decide_eq_true c18
  try have c18b2 : (9223372036854775807 < s13_.size + a0_3.size) = False := eq_false (Nat.not_lt.2 c18)
  have c19 := ite_y H
  replace H := ite_t H
  have c19b0 := eq_true c19
  have c19b1 := decide_eq_true c19
  try have c19b2 : (9223372036854775807 < s14_.size + 1) = False := eq_false (Nat.not_lt.2 c19)
  have c20 := ite_y H
  replace H := ite_t H
  have c20b0 := eq_true c20
  have c20b1 := decide_eq_true c20
  try have c20b2 : (9223372036854775807 < s15_.size + a0_4.size) = False := eq_false (Nat.not_lt.2 c20)
  obtain rfl := Option.some.inj H
  go_enter Tryz.func97, Tryz.ntmps97
  go_wp2_with (first | ((with_reducible refine gate_dst (N := 1) rfl ?_); refine box_event rfl (N := 1) rfl (cs := #[.string a0_0, .bool false, .string a0_2, .string a0_3, .string a0_4]) (t := 103) (by go_simp <;> rfl) ?_; intro gb101 hg w21 hbox hb; have BK101 := Aside0.mk (hbox); have GW101 := Le_.mk (ge_of hg HB.out); have GE101 := Le_.mk (ge_of hg HB.out); replace HB := kB HB hb; clear hb hbox hg; have hz22 := cells_5 BK101.out))
  go_ret
  exact ⟨by rfl, bx HB.out⟩
theorem gf98 : Go_ Tryz.prog 98 Tryz.f98 := ⟨Tryz.func98, by kernel_rfl, rfl⟩
def spec_l2EntryPut.f (a0_0 : ByteArray) (a0_1 : ByteArray) : Option (ByteArray) := if a0_1.toList = ([] : List UInt8) then (some a0_0) else (if a0_0.size + 1 ≤ 9223372036854775807 then (if (a0_0 ++ (⟨#[47]⟩ : ByteArray)).size + a0_1.size ≤ 9223372036854775807 then (some ((a0_0 ++ (⟨#[47]⟩ : ByteArray)) ++ a0_1)) else (none)) else (none))
theorem spec_l2EntryPut.calls (a0_0 : ByteArray) (a0_1 : ByteArray) (r : ByteArray) (w : World) (h : spec_l2EntryPut.f a0_0 a0_1 = some r) :
  Calls Tryz.prog 98 #[.agg #[.string a0_0, .string a0_1]] w fun e w' => e = .returned (.string r) ∧ Below w.heap.size w w' := by
 obtain ⟨s1_, hs1_⟩ : ∃ s_ : ByteArray, (a0_0 ++ (⟨#[47]⟩ : ByteArray)) = s_ := ⟨_, rfl⟩
 obtain ⟨s2_, hs2_⟩ : ∃ s_ : ByteArray, (s1_ ++ a0_1) = s_ := ⟨_, rfl⟩
 have hu100 := Tryz.underlying100
 have HB := Aside0.mk (Below.refl w.heap.size w)
 have H : (if a0_1.toList = ([] : List UInt8) then (some a0_0) else (if a0_0.size + 1 ≤ 9223372036854775807 then (if s1_.size + a0_1.size ≤ 9223372036854775807 then (some s2_) else (none)) else (none))) = some r := by subst hs2_; subst hs1_; exact h
 clear h
 by_cases c2 : a0_1.toList = ([] : List UInt8)
 ·rw [if_pos c2] at H
  have c2b0 : (a0_1.toList == ([] : List UInt8)) = true := beq_iff_eq.mpr c2
  have c2b1 : (a0_1.toList != ([] : List UInt8)) = false := bne_eq_false_iff_eq.mpr c2
  clear c2
  obtain rfl := Option.some.inj H
  go_enter Tryz.func98, Tryz.ntmps98
  go_wp2_with (first | ((with_reducible refine gate_dst (N := 1) rfl ?_); refine box_event rfl (N := 1) rfl (cs := #[.string a0_0, .string a0_1]) (t := 100) (by go_simp <;> rfl) ?_; intro gb101 hg w3 hbox hb; have BK101 := Aside0.mk (hbox); have GW101 := Le_.mk (ge_of hg HB.out); have GE101 := Le_.mk (ge_of hg HB.out); replace HB := kB HB hb; clear hb hbox hg; have hz4 := cells_2 BK101.out))
  go_ret
  exact ⟨by first | rfl | (simp [*] <;> rfl), bx HB.out⟩
 ·rw [if_neg c2] at H
  have c2b0 : (a0_1.toList == ([] : List UInt8)) = false := beq_eq_false_iff_ne.mpr c2
  have c2b1 : (a0_1.toList != ([] : List UInt8)) = true := bne_iff_ne.mpr c2
  have c5 := ite_y H
  replace H := ite_t H
  have c5b0 := eq_true c5
  have c5b1 := decide_eq_true c5
  try have c5b2 : (9223372036854775807 < a0_0.size + 1) = False := eq_false (Nat.not_lt.2 c5)
  have c6 := ite_y H
  replace H := ite_t H
  have c6b0 := eq_true c6
  have c6b1 := decide_eq_true c6
  try have c6b2 : (9223372036854775807 < s1_.size + a0_1.size) = False := eq_false (Nat.not_lt.2 c6)
  obtain rfl := Option.some.inj H
  go_enter Tryz.func98, Tryz.ntmps98
  go_wp2_with (first | ((with_reducible refine gate_dst (N := 1) rfl ?_); refine box_event rfl (N := 1) rfl (cs := #[.string a0_0, .string a0_1]) (t := 100) (by go_simp <;> rfl) ?_; intro gb101 hg w7 hbox hb; have BK101 := Aside0.mk (hbox); have GW101 := Le_.mk (ge_of hg HB.out); have GE101 := Le_.mk (ge_of hg HB.out); replace HB := kB HB hb; clear hb hbox hg; have hz8 := cells_2 BK101.out))
  go_ret
  exact ⟨by first | rfl | (simp [*] <;> rfl), bx HB.out⟩
theorem gf67 : Go_ Tryz.prog 67 Tryz.f67 := ⟨Tryz.func67, by kernel_rfl, rfl⟩
mutual
def spec_l5Put.j0 : Nat → ByteArray → List ByteArray → List (S100) → Bool → List (S103) → Option (ByteArray)
 | 0, _, _, _, _, _ => none
 | k + 1, x3, x102000, x102001, x102002, x102003 => spec_l5Put.l0 k x3 0 x102000 x102001 x102002 x102003
def spec_l5Put.l0 : Nat → ByteArray → Int → List ByteArray → List (S100) → Bool → List (S103) → Option (ByteArray)
 | 0, _, _, _, _, _, _ => none
 | k + 1, x3, x4, x102000, x102001, x102002, x102003 => if x4 < (x102003.length : Int) then (if 0 ≤ x4 then ((spec_l2AffixPut.f ((rd_T103 x102003 x4).f0) ((rd_T103 x102003 x4).f1) ((rd_T103 x102003 x4).f2) ((rd_T103 x102003 x4).f3) ((rd_T103 x102003 x4).f4)).bind fun t103 => (if x3.size + t103.size ≤ 9223372036854775807 then (if (x3 ++ t103).size + 1 ≤ 9223372036854775807 then (spec_l5Put.l0 k ((x3 ++ t103) ++ (⟨#[10]⟩ : ByteArray)) (wrap64 (x4 + 1)) x102000 x102001 x102002 x102003) else (none)) else (none))) else (none)) else (spec_l5Put.l1 k x3 0 x102000 x102001 x102002 x102003)
def spec_l5Put.l1 : Nat → ByteArray → Int → List ByteArray → List (S100) → Bool → List (S103) → Option (ByteArray)
 | 0, _, _, _, _, _, _ => none
 | k + 1, x3, x5, x102000, x102001, x102002, x102003 => if x5 < (x102000.length : Int) then (if x3.size + 1 ≤ 9223372036854775807 then (if 0 ≤ x5 then (if (x3 ++ (⟨#[45]⟩ : ByteArray)).size + (rdOf ByteArray.empty x102000 x5).size ≤ 9223372036854775807 then (if ((x3 ++ (⟨#[45]⟩ : ByteArray)) ++ (rdOf ByteArray.empty x102000 x5)).size + 1 ≤ 9223372036854775807 then (spec_l5Put.l1 k (((x3 ++ (⟨#[45]⟩ : ByteArray)) ++ (rdOf ByteArray.empty x102000 x5)) ++ (⟨#[10]⟩ : ByteArray)) (wrap64 (x5 + 1)) x102000 x102001 x102002 x102003) else (none)) else (none)) else (none)) else (none)) else (spec_l5Put.l2 k x3 0 x102000 x102001 x102002 x102003)
def spec_l5Put.l2 : Nat → ByteArray → Int → List ByteArray → List (S100) → Bool → List (S103) → Option (ByteArray)
 | 0, _, _, _, _, _, _ => none
 | k + 1, x3, x6, x102000, x102001, x102002, x102003 => if x6 < (x102001.length : Int) then (if x3.size + 1 ≤ 9223372036854775807 then (if 0 ≤ x6 then ((spec_l2EntryPut.f ((rd_T100 x102001 x6).f0) ((rd_T100 x102001 x6).f1)).bind fun t106 => (if (x3 ++ (⟨#[43]⟩ : ByteArray)).size + t106.size ≤ 9223372036854775807 then (if ((x3 ++ (⟨#[43]⟩ : ByteArray)) ++ t106).size + 1 ≤ 9223372036854775807 then (spec_l5Put.l2 k (((x3 ++ (⟨#[43]⟩ : ByteArray)) ++ t106) ++ (⟨#[10]⟩ : ByteArray)) (wrap64 (x6 + 1)) x102000 x102001 x102002 x102003) else (none)) else (none))) else (none)) else (none)) else (some x3)
end
def spec_l5Put.f (k : Nat) (l0_0 : List ByteArray) (l0_1 : List (S100)) (a0_2 : Bool) (l0_3 : List (S103)) : Option (ByteArray) := if a0_2 = true then (spec_l5Put.j0 k (⟨#[97, 102, 102, 105, 120, 101, 115, 10]⟩ : ByteArray) l0_0 l0_1 a0_2 l0_3) else (spec_l5Put.j0 k (⟨#[]⟩ : ByteArray) l0_0 l0_1 a0_2 l0_3)
theorem spec_l5Put.mono_l : ∀ k, (∀ y0 y1 y2 y3 y4, LeO (spec_l5Put.j0 k y0 y1 y2 y3 y4) (spec_l5Put.j0 (k + 1) y0 y1 y2 y3 y4)) ∧ (∀ y0 y1 y2 y3 y4 y5, LeO (spec_l5Put.l0 k y0 y1 y2 y3 y4 y5) (spec_l5Put.l0 (k + 1) y0 y1 y2 y3 y4 y5)) ∧ (∀ y0 y1 y2 y3 y4 y5, LeO (spec_l5Put.l1 k y0 y1 y2 y3 y4 y5) (spec_l5Put.l1 (k + 1) y0 y1 y2 y3 y4 y5)) ∧ (∀ y0 y1 y2 y3 y4 y5, LeO (spec_l5Put.l2 k y0 y1 y2 y3 y4 y5) (spec_l5Put.l2 (k + 1) y0 y1 y2 y3 y4 y5))
 | 0 => ⟨fun _ _ _ _ _ r h => by simp [spec_l5Put.j0] at h, fun _ _ _ _ _ _ r h => by simp [spec_l5Put.l0] at h, fun _ _ _ _ _ _ r h => by simp [spec_l5Put.l1] at h, fun _ _ _ _ _ _ r h => by simp [spec_l5Put.l2] at h⟩
 | k + 1 => by
  obtain ⟨ih0, ih1, ih2, ih3⟩ := spec_l5Put.mono_l k
  refine ⟨?_, ?_, ?_, ?_⟩
  ·intro y0 y1 y2 y3 y4
   unfold spec_l5Put.j0
   have I0_ := fun a b c d e => LeC.mk (ih0 a b c d e)
   have I1_ := fun a b c d e f => LeC.mk (ih1 a b c d e f)
   have I2_ := fun a b c d e f => LeC.mk (ih2 a b c d e f)
   have I3_ := fun a b c d e f => LeC.mk (ih3 a b c d e f)
   exact LeC.out
  ·intro y0 y1 y2 y3 y4 y5
   unfold spec_l5Put.l0
   have I0_ := fun a b c d e => LeC.mk (ih0 a b c d e)
   have I1_ := fun a b c d e f => LeC.mk (ih1 a b c d e f)
   have I2_ := fun a b c d e f => LeC.mk (ih2 a b c d e f)
   have I3_ := fun a b c d e f => LeC.mk (ih3 a b c d e f)
   exact LeC.out
  ·intro y0 y1 y2 y3 y4 y5
   unfold spec_l5Put.l1
   have I0_ := fun a b c d e => LeC.mk (ih0 a b c d e)
   have I1_ := fun a b c d e f => LeC.mk (ih1 a b c d e f)
   have I2_ := fun a b c d e f => LeC.mk (ih2 a b c d e f)
   have I3_ := fun a b c d e f => LeC.mk (ih3 a b c d e f)
   exact LeC.out
  ·intro y0 y1 y2 y3 y4 y5
   unfold spec_l5Put.l2
   have I0_ := fun a b c d e => LeC.mk (ih0 a b c d e)
   have I1_ := fun a b c d e f => LeC.mk (ih1 a b c d e f)
   have I2_ := fun a b c d e f => LeC.mk (ih2 a b c d e f)
   have I3_ := fun a b c d e f => LeC.mk (ih3 a b c d e f)
   exact LeC.out
theorem spec_l5Put.mono : ∀ a0 a1 a2 a3 k, LeO (spec_l5Put.f k a0 a1 a2 a3) (spec_l5Put.f (k + 1) a0 a1 a2 a3) := by
 intro a0 a1 a2 a3 k
 obtain ⟨ih0, ih1, ih2, ih3⟩ := spec_l5Put.mono_l k
 unfold spec_l5Put.f
 have I0_ := fun a b c d e => LeC.mk (ih0 a b c d e)
 have I1_ := fun a b c d e f => LeC.mk (ih1 a b c d e f)
 have I2_ := fun a b c d e f => LeC.mk (ih2 a b c d e f)
 have I3_ := fun a b c d e f => LeC.mk (ih3 a b c d e f)
 exact LeC.out
theorem spec_l5Put.calls (k : Nat) (A0_0 : Option Addr) (c0_0 : Nat) (l0_0 : List ByteArray) (A0_1 : Option Addr) (c0_1 : Nat) (l0_1 : List (S100)) (a0_2 : Bool) (A0_3 : Option Addr) (c0_3 : Nat) (l0_3 : List (S103)) (r : ByteArray) (w : World) (hr0_0 : Kd.C Kd.string w A0_0 l0_0.length l0_0) (hc0_0 : l0_0.length ≤ c0_0) (hr0_1 : Kd.C k100 w A0_1 l0_1.length l0_1) (hc0_1 : l0_1.length ≤ c0_1) (hr0_3 : Kd.C k103 w A0_3 l0_3.length l0_3) (hc0_3 : l0_3.length ≤ c0_3) (h : spec_l5Put.f k l0_0 l0_1 a0_2 l0_3 = some r) :
  Calls Tryz.prog 67 #[.agg #[.slice A0_0 l0_0.length c0_0, .slice A0_1 l0_1.length c0_1, .bool a0_2, .slice A0_3 l0_3.length c0_3]] w fun e w' => e = .returned (.string r) ∧ Below w.heap.size w w' := by
 have hu34 := Tryz.underlying34
 have hu103 := Tryz.underlying103
 have hu100 := Tryz.underlying100
 have HR0_0 := Aside0.mk hr0_0
 have HC0_0 := Aside0.mk hc0_0
 clear hr0_0 hc0_0
 have HR0_1 := Aside0.mk hr0_1
 have HC0_1 := Aside0.mk hc0_1
 clear hr0_1 hc0_1
 have HR0_3 := Aside0.mk hr0_3
 have HC0_3 := Aside0.mk hc0_3
 clear hr0_3 hc0_3
 have HB := Aside0.mk (Below.refl w.heap.size w)
 unfold spec_l5Put.f at h
 have H := h
 clear h
 have HC2 := Aside0.mk H
 clear H
 go_enter Tryz.func67, Tryz.ntmps67
 go_upto_if 8 with (first | ((with_reducible refine gate_dst (N := 1) rfl ?_); refine box_event rfl (N := 1) rfl (cs := #[.slice A0_0 l0_0.length c0_0, .slice A0_1 l0_1.length c0_1, .bool a0_2, .slice A0_3 l0_3.length c0_3]) (t := 34) (by go_simp <;> rfl) ?_; intro gb101 hg w3 hbox hb; have BK101 := Aside0.mk (hbox); have GW101 := Le_.mk (ge_of hg HB.out); have GE101 := Le_.mk (ge_of hg HB.out); replace HB := kB HB hb; clear hb hbox hg; have hz4 := cells_4 BK101.out))
 (try simp only [Act.put, List.setIfInBounds_toArray, List.set_cons_zero, List.set_cons_succ])
 go_cut [3] (fun v3 wc => ∃ (kq : Nat) (x3_1 : ByteArray), v3 = .string x3_1 ∧ Aside0 (spec_l5Put.j0 kq x3_1 l0_0 l0_1 a0_2 l0_3 = some r) ∧ Aside0 (kq ≤ k) ∧ Aside0 (wc.heap[gb101]? = some (.cells #[(.slice A0_0 l0_0.length c0_0), (.slice A0_1 l0_1.length c0_1), .bool a0_2, (.slice A0_3 l0_3.length c0_3)] 34 (0, 0))) ∧ Aside0 (Below w.heap.size w wc))
 case first =>
  have H := HC2.out
  clear HC2
  by_cases c5 : a0_2 = true
  ·subst c5
   rw [if_pos rfl] at H
   have H' := Aside0.mk H
   clear H
   go_wp2
   go_meet
   case rel => exact ⟨_, ((⟨#[97, 102, 102, 105, 120, 101, 115, 10]⟩ : ByteArray)), (by first | rfl | (simp; done) | (simp [*]; done)), H', ⟨by first | omega | exact Nat.le_refl _⟩, ⟨gx (BK101.out)⟩, ⟨bx HB.out⟩⟩
  ·replace c5 := Bool.eq_false_iff.mpr c5
   subst c5
   rw [if_neg Bool.false_ne_true] at H
   have H' := Aside0.mk H
   clear H
   go_wp2
   go_meet
   case rel => exact ⟨_, ((⟨#[]⟩ : ByteArray)), (by first | rfl | (simp; done) | (simp [*]; done)), H', ⟨by first | omega | exact Nat.le_refl _⟩, ⟨gx (BK101.out)⟩, ⟨bx HB.out⟩⟩
 case rest =>
  clear HC2
  try clear p2
  try clear c5
  try clear hz4
  obtain ⟨kq, x3_1, rfl, HA, HJ1, BK101, HB⟩ := hcut
  cases kq with
  | zero => exact absurd HA.out (by simp [spec_l5Put.j0])
  | succ kj1 =>
   have H := HA.out
   clear HA
   simp only [spec_l5Put.j0] at H
   have H' := Aside0.mk H
   clear H
   go_wp2
   go_loopg [3, 4] kj1 (fun kq v3 v4 w' => ∃ (x3_2 : ByteArray) (x4_2 : Int), v3 = .string x3_2 ∧ v4 = .int .i64 x4_2 ∧ Aside0 (spec_l5Put.l0 kq x3_2 x4_2 l0_0 l0_1 a0_2 l0_3 = some r) ∧ Aside0 (kq ≤ kj1) ∧ Aside0 (w'.heap[gb101]? = some (.cells #[(.slice A0_0 l0_0.length c0_0), (.slice A0_1 l0_1.length c0_1), .bool a0_2, (.slice A0_3 l0_3.length c0_3)] 34 (0, 0))) ∧ Aside0 (Below w.heap.size w w'))
   case atStart => exact ⟨(x3_1), (0), (by first | rfl | (simp; done) | (simp [*]; done)), (by first | rfl | (simp; done) | (simp [*]; done)), H', ⟨Nat.le_refl _⟩, ⟨gx (BK101.out)⟩, ⟨bx HB.out⟩⟩
   case round =>
    clear H'
    try clear p2
    try clear c5
    try clear hz4
    try clear p2
    obtain ⟨x3_2, x4_2, rfl, rfl, HA, HK2, BK101, HB⟩ := hrel
    cases gk with
    | zero => exact absurd HA.out (by simp [spec_l5Put.l0])
    | succ k2 =>
     have H := HA.out
     clear HA
     simp only [spec_l5Put.l0] at H
     by_cases c6 : x4_2 < (l0_3.length : Int)
     ·rw [if_pos c6] at H
      have c6b0 := decide_eq_true c6
      clear c6
      have c7 := ite_y H
      replace H := ite_t H
      have c7b0 := decide_eq_true c7
      clear c7
      replace H := Option.bind_eq_some_iff.mp H
      obtain ⟨t103, A80, H⟩ := H
      have A8 := Aside0.mk A80
      clear A80
      have c9 := ite_y H
      replace H := ite_t H
      have c9b0 := eq_true c9
      have c9b1 := decide_eq_true c9
      try have c9b2 : (9223372036854775807 < x3_2.size + t103.size) = False := eq_false (Nat.not_lt.2 c9)
      have c10 := ite_y H
      replace H := ite_t H
      have c10b0 := eq_true c10
      have c10b1 := decide_eq_true c10
      try have c10b2 : (9223372036854775807 < (x3_2 ++ t103).size + 1) = False := eq_false (Nat.not_lt.2 c10)
      try (have c10b3 := c10b2; simp only [ByteArray.size_append] at c10b3)
      try (have c10h_ := c10; simp [go_sem, *] at c10h_; have c10b5 : (9223372036854775807 < x3_2.size + t103.size + 1) = False := eq_false (by omega); clear c10h_)
      have H' := Aside0.mk H
      clear H
      have hz11 := cells_4 BK101.out
      have p102 := of_decide_eq_true c7b0
      have q102 := of_decide_eq_true c6b0
      obtain ⟨ad102, e102, hx102_0, hx102_1, hx102_2, hx102_3, hx102_4⟩ := at_T103 HR0_3.out x4_2 p102 q102
      cases e102
      replace hx102_0 := px HB.out hx102_0
      replace hx102_1 := px HB.out hx102_1
      replace hx102_2 := px HB.out hx102_2
      replace hx102_3 := px HB.out hx102_3
      replace hx102_4 := px HB.out hx102_4
      replace p102 := eq_true p102
      replace q102 := eq_true q102
      go_wp2_with (first | ((with_reducible refine gate_callee (f := 97) rfl ?_); refine goL (some 22) rfl rfl gf97 #[.agg #[.string ((rd_T103 l0_3 x4_2).f0), .bool ((rd_T103 l0_3 x4_2).f1), .string ((rd_T103 l0_3 x4_2).f2), .string ((rd_T103 l0_3 x4_2).f3), .string ((rd_T103 l0_3 x4_2).f4)]] rfl rfl ?_; (with_reducible refine (spec_l2AffixPut.calls ((rd_T103 l0_3 x4_2).f0) ((rd_T103 l0_3 x4_2).f1) ((rd_T103 l0_3 x4_2).f2) ((rd_T103 l0_3 x4_2).f3) ((rd_T103 l0_3 x4_2).f4) t103 _ A8.out).mono ?_); rintro e w12 ⟨rfl, hb⟩; refine ⟨_, rfl, ?_⟩; replace BK101 := kb BK101 hb; replace HB := kB HB hb; (try clear hb); (try clear hb2); (try clear hk); (try clear hi)))
      go_roundg k2
      case measure => have := HJ1.out; have := HK2.out; omega
      case rel => exact ⟨((x3_2 ++ t103) ++ (⟨#[10]⟩ : ByteArray)), (wrap64 (x4_2 + 1)), (by first | rfl | (simp; done) | (simp [*]; done)), (by first | rfl | (simp; done) | (simp [*]; done)), H', ⟨by have := HJ1.out; have := HK2.out; omega⟩, ⟨gx (BK101.out)⟩, ⟨bx HB.out⟩⟩
     ·rw [if_neg c6] at H
      have c6b0 := decide_eq_false c6
      clear c6
      have H' := Aside0.mk H
      clear H
      have hz13 := cells_4 BK101.out
      go_wp2
      go_loopg [3, 5] k2 (fun kq v3 v5 w' => ∃ (x3_3 : ByteArray) (x5_3 : Int), v3 = .string x3_3 ∧ v5 = .int .i64 x5_3 ∧ Aside0 (spec_l5Put.l1 kq x3_3 x5_3 l0_0 l0_1 a0_2 l0_3 = some r) ∧ Aside0 (kq ≤ k2) ∧ Aside0 (w'.heap[gb101]? = some (.cells #[(.slice A0_0 l0_0.length c0_0), (.slice A0_1 l0_1.length c0_1), .bool a0_2, (.slice A0_3 l0_3.length c0_3)] 34 (0, 0))) ∧ Aside0 (Below w.heap.size w w'))
      case atStart => exact ⟨(x3_2), (0), (by first | rfl | (simp; done) | (simp [*]; done)), (by first | rfl | (simp; done) | (simp [*]; done)), H', ⟨Nat.le_refl _⟩, ⟨gx (BK101.out)⟩, ⟨bx HB.out⟩⟩
      case round =>
       clear H'
       try clear c1
       try clear p1
       try clear q1
       try clear hx1
       try clear p2
       try clear c5
       try clear c6
       try clear c6b0
       try clear p6
       try clear c7
       try clear c7b0
       try clear c9
       try clear c9b0
       try clear c9b1
       try clear c9b2
       try clear c10
       try clear c10b0
       try clear c10b1
       try clear c10b2
       try clear p10
       try clear q10
       try clear hx10
       try clear hz11
       try clear hz13
       try clear hz4
       try clear hx102_0
       try clear hx102_1
       try clear hx102_2
       try clear hx102_3
       try clear hx102_4
       try clear p102
       try clear p2
       try clear q102
       obtain ⟨x3_3, x5_3, rfl, rfl, HA, HK3, BK101, HB⟩ := hrel
       cases gk with
       | zero => exact absurd HA.out (by simp [spec_l5Put.l1])
       | succ k3 =>
        have H := HA.out
        clear HA
        simp only [spec_l5Put.l1] at H
        by_cases c14 : x5_3 < (l0_0.length : Int)
        ·rw [if_pos c14] at H
         have c14b0 := decide_eq_true c14
         clear c14
         have c15 := ite_y H
         replace H := ite_t H
         have c15b0 := eq_true c15
         have c15b1 := decide_eq_true c15
         try have c15b2 : (9223372036854775807 < x3_3.size + 1) = False := eq_false (Nat.not_lt.2 c15)
         have c16 := ite_y H
         replace H := ite_t H
         have c16b0 := decide_eq_true c16
         clear c16
         have c17 := ite_y H
         replace H := ite_t H
         have c17b0 := eq_true c17
         have c17b1 := decide_eq_true c17
         try have c17b2 : (9223372036854775807 < (x3_3 ++ (⟨#[45]⟩ : ByteArray)).size + (rdOf ByteArray.empty l0_0 x5_3).size) = False := eq_false (Nat.not_lt.2 c17)
         try (have c17b3 := c17b2; simp only [ByteArray.size_append, show (⟨#[45]⟩ : ByteArray).size = 1 from rfl] at c17b3)
         try (have c17h_ := c17; simp [go_sem, *] at c17h_; have c17b5 : (9223372036854775807 < x3_3.size + 1 + (rdOf ByteArray.empty l0_0 x5_3).size) = False := eq_false (by omega); clear c17h_)
         have c18 := ite_y H
         replace H := ite_t H
         have c18b0 := eq_true c18
         have c18b1 := decide_eq_true c18
         try have c18b2 : (9223372036854775807 < ((x3_3 ++ (⟨#[45]⟩ : ByteArray)) ++ (rdOf ByteArray.empty l0_0 x5_3)).size + 1) = False := eq_false (Nat.not_lt.2 c18)
         try (have c18b3 := c18b2; simp only [ByteArray.size_append, show (⟨#[45]⟩ : ByteArray).size = 1 from rfl] at c18b3)
         try (have c18h_ := c18; simp [go_sem, *] at c18h_; have c18b5 : (9223372036854775807 < x3_3.size + 1 + (rdOf ByteArray.empty l0_0 x5_3).size + 1) = False := eq_false (by omega); clear c18h_)
         have H' := Aside0.mk H
         clear H
         have hz19 := cells_4 BK101.out
         have p104 := of_decide_eq_true c16b0
         have q104 := of_decide_eq_true c14b0
         obtain ⟨ad104, e104, hx104_0⟩ := Kd.at_string HR0_0.out x5_3 p104 q104
         cases e104
         replace hx104_0 := px HB.out hx104_0
         replace p104 := eq_true p104
         replace q104 := eq_true q104
         go_wp2
         go_roundg k3
         case measure => have := HJ1.out; have := HK2.out; have := HK3.out; omega
         case rel => exact ⟨(((x3_3 ++ (⟨#[45]⟩ : ByteArray)) ++ (rdOf ByteArray.empty l0_0 x5_3)) ++ (⟨#[10]⟩ : ByteArray)), (wrap64 (x5_3 + 1)), (by first | rfl | (simp; done) | (simp [*]; done)), (by first | rfl | (simp; done) | (simp [*]; done)), H', ⟨by have := HJ1.out; have := HK2.out; have := HK3.out; omega⟩, ⟨gx (BK101.out)⟩, ⟨bx HB.out⟩⟩
        ·rw [if_neg c14] at H
         have c14b0 := decide_eq_false c14
         clear c14
         have H' := Aside0.mk H
         clear H
         have hz20 := cells_4 BK101.out
         go_wp2
         go_loopg [3, 6] k3 (fun kq v3 v6 w' => ∃ (x3_4 : ByteArray) (x6_4 : Int), v3 = .string x3_4 ∧ v6 = .int .i64 x6_4 ∧ Aside0 (spec_l5Put.l2 kq x3_4 x6_4 l0_0 l0_1 a0_2 l0_3 = some r) ∧ Aside0 (kq ≤ k3) ∧ Aside0 (w'.heap[gb101]? = some (.cells #[(.slice A0_0 l0_0.length c0_0), (.slice A0_1 l0_1.length c0_1), .bool a0_2, (.slice A0_3 l0_3.length c0_3)] 34 (0, 0))) ∧ Aside0 (Below w.heap.size w w'))
         case atStart => exact ⟨(x3_3), (0), (by first | rfl | (simp; done) | (simp [*]; done)), (by first | rfl | (simp; done) | (simp [*]; done)), H', ⟨Nat.le_refl _⟩, ⟨gx (BK101.out)⟩, ⟨bx HB.out⟩⟩
         case round =>
          clear H'
          try clear c1
          try clear p1
          try clear q1
          try clear hx1
          try clear p2
          try clear c5
          try clear c6
          try clear c6b0
          try clear p6
          try clear c7
          try clear c7b0
          try clear c9
          try clear c9b0
          try clear c9b1
          try clear c9b2
          try clear c10
          try clear c10b0
          try clear c10b1
          try clear c10b2
          try clear p10
          try clear q10
          try clear hx10
          try clear c14
          try clear c14b0
          try clear c15
          try clear c15b0
          try clear c15b1
          try clear c15b2
          try clear c16
          try clear c16b0
          try clear c17
          try clear c17b0
          try clear c17b1
          try clear c17b2
          try clear c18
          try clear c18b0
          try clear c18b1
          try clear c18b2
          try clear hz11
          try clear hz13
          try clear hz19
          try clear hz20
          try clear hz4
          try clear hx102_0
          try clear hx102_1
          try clear hx102_2
          try clear hx102_3
          try clear hx102_4
          try clear hx104_0
          try clear p1
          try clear p10
          try clear p102
          try clear p104
          try clear p2
          try clear p6
          try clear q1
          try clear q10
          try clear q102
          try clear q104
          obtain ⟨x3_4, x6_4, rfl, rfl, HA, HK4, BK101, HB⟩ := hrel
          cases gk with
          | zero => exact absurd HA.out (by simp [spec_l5Put.l2])
          | succ k4 =>
           have H := HA.out
           clear HA
           simp only [spec_l5Put.l2] at H
           by_cases c21 : x6_4 < (l0_1.length : Int)
           ·rw [if_pos c21] at H
            have c21b0 := decide_eq_true c21
            clear c21
            have c22 := ite_y H
            replace H := ite_t H
            have c22b0 := eq_true c22
            have c22b1 := decide_eq_true c22
            try have c22b2 : (9223372036854775807 < x3_4.size + 1) = False := eq_false (Nat.not_lt.2 c22)
            have c23 := ite_y H
            replace H := ite_t H
            have c23b0 := decide_eq_true c23
            clear c23
            replace H := Option.bind_eq_some_iff.mp H
            obtain ⟨t106, A240, H⟩ := H
            have A24 := Aside0.mk A240
            clear A240
            have c25 := ite_y H
            replace H := ite_t H
            have c25b0 := eq_true c25
            have c25b1 := decide_eq_true c25
            try have c25b2 : (9223372036854775807 < (x3_4 ++ (⟨#[43]⟩ : ByteArray)).size + t106.size) = False := eq_false (Nat.not_lt.2 c25)
            try (have c25b3 := c25b2; simp only [ByteArray.size_append, show (⟨#[43]⟩ : ByteArray).size = 1 from rfl] at c25b3)
            try (have c25h_ := c25; simp [go_sem, *] at c25h_; have c25b5 : (9223372036854775807 < x3_4.size + 1 + t106.size) = False := eq_false (by omega); clear c25h_)
            have c26 := ite_y H
            replace H := ite_t H
            have c26b0 := eq_true c26
            have c26b1 := decide_eq_true c26
            try have c26b2 : (9223372036854775807 < ((x3_4 ++ (⟨#[43]⟩ : ByteArray)) ++ t106).size + 1) = False := eq_false (Nat.not_lt.2 c26)
            try (have c26b3 := c26b2; simp only [ByteArray.size_append, show (⟨#[43]⟩ : ByteArray).size = 1 from rfl] at c26b3)
            try (have c26h_ := c26; simp [go_sem, *] at c26h_; have c26b5 : (9223372036854775807 < x3_4.size + 1 + t106.size + 1) = False := eq_false (by omega); clear c26h_)
            have H' := Aside0.mk H
            clear H
            have hz27 := cells_4 BK101.out
            have p105 := of_decide_eq_true c23b0
            have q105 := of_decide_eq_true c21b0
            obtain ⟨ad105, e105, hx105_0, hx105_1⟩ := at_T100 HR0_1.out x6_4 p105 q105
            cases e105
            replace hx105_0 := px HB.out hx105_0
            replace hx105_1 := px HB.out hx105_1
            replace p105 := eq_true p105
            replace q105 := eq_true q105
            go_wp2_with (first | ((with_reducible refine gate_callee (f := 98) rfl ?_); refine goL (some 55) rfl rfl gf98 #[.agg #[.string ((rd_T100 l0_1 x6_4).f0), .string ((rd_T100 l0_1 x6_4).f1)]] rfl rfl ?_; (with_reducible refine (spec_l2EntryPut.calls ((rd_T100 l0_1 x6_4).f0) ((rd_T100 l0_1 x6_4).f1) t106 _ A24.out).mono ?_); rintro e w28 ⟨rfl, hb⟩; refine ⟨_, rfl, ?_⟩; replace BK101 := kb BK101 hb; replace HB := kB HB hb; (try clear hb); (try clear hb2); (try clear hk); (try clear hi)))
            go_roundg k4
            case measure => have := HJ1.out; have := HK2.out; have := HK3.out; have := HK4.out; omega
            case rel => exact ⟨(((x3_4 ++ (⟨#[43]⟩ : ByteArray)) ++ t106) ++ (⟨#[10]⟩ : ByteArray)), (wrap64 (x6_4 + 1)), (by first | rfl | (simp; done) | (simp [*]; done)), (by first | rfl | (simp; done) | (simp [*]; done)), H', ⟨by have := HJ1.out; have := HK2.out; have := HK3.out; have := HK4.out; omega⟩, ⟨gx (BK101.out)⟩, ⟨bx HB.out⟩⟩
           ·rw [if_neg c21] at H
            have c21b0 := decide_eq_false c21
            clear c21
            obtain rfl := Option.some.inj H
            have hz29 := cells_4 BK101.out
            go_wp2
            go_ret
            exact ⟨by rfl, bx HB.out⟩
theorem gf26 : Go_ Tryz.prog 26 Tryz.f26 := ⟨Tryz.func26, by kernel_rfl, rfl⟩
def spec_l6Text.f (k : Nat) (a0_0 : Int) (l0_1 : List ByteArray) (l0_2 : List (S100)) (a0_3 : Bool) (l0_4 : List (S103)) (a0_5 : ByteArray) (a0_6 : ByteArray) : Option (ByteArray) := (spec_l1Dec.f k a0_0).bind fun t102 => (if 8 + t102.size ≤ 9223372036854775807 then (if ((⟨#[114, 101, 108, 101, 97, 115, 101, 32]⟩ : ByteArray) ++ t102).size + 1 ≤ 9223372036854775807 then (if (((⟨#[114, 101, 108, 101, 97, 115, 101, 32]⟩ : ByteArray) ++ t102) ++ (⟨#[32]⟩ : ByteArray)).size + a0_5.size ≤ 9223372036854775807 then (if ((((⟨#[114, 101, 108, 101, 97, 115, 101, 32]⟩ : ByteArray) ++ t102) ++ (⟨#[32]⟩ : ByteArray)) ++ a0_5).size + 1 ≤ 9223372036854775807 then ((spec_l5Put.f k l0_1 l0_2 a0_3 l0_4).bind fun t103 => (if (((((⟨#[114, 101, 108, 101, 97, 115, 101, 32]⟩ : ByteArray) ++ t102) ++ (⟨#[32]⟩ : ByteArray)) ++ a0_5) ++ (⟨#[10]⟩ : ByteArray)).size + t103.size ≤ 9223372036854775807 then (some ((((((⟨#[114, 101, 108, 101, 97, 115, 101, 32]⟩ : ByteArray) ++ t102) ++ (⟨#[32]⟩ : ByteArray)) ++ a0_5) ++ (⟨#[10]⟩ : ByteArray)) ++ t103)) else (none))) else (none)) else (none)) else (none)) else (none))
theorem spec_l6Text.mono : ∀ a0 a1 a2 a3 a4 a5 a6 k, LeO (spec_l6Text.f k a0 a1 a2 a3 a4 a5 a6) (spec_l6Text.f (k + 1) a0 a1 a2 a3 a4 a5 a6) := by
 intro a0 a1 a2 a3 a4 a5 a6 k
 unfold spec_l6Text.f
 have I0_ := fun a b => LeC.mk (spec_l1Dec.mono a b)
 have I1_ := fun a b c d e => LeC.mk (spec_l5Put.mono a b c d e)
 exact LeC.out
def spec_l6Text.T1 : Bool × List (List Nat × List Nat) := (true, [([], []), ([0], [0]), ([1], [1]), ([2], [2]), ([3], [3]), ([], []), ([5], [5]), ([4, 6], [4, 6]), ([7], [7]), ([], []), ([9], [9]), ([10, 2], [10]), ([8, 11], [8, 11]), ([12, 11, 0, 1, 2, 3, 4, 5, 6, 7, 8, 9, 10, 11, 12], [12])])
def spec_l6Text.B1 : List Nat := [0, 1, 3, 7, 15, 0, 32, 127, 255, 0, 512, 1543, 4095, 8191]
theorem spec_l6Text.tab1 : rtab .any (opsOf Tryz.f26 1) = spec_l6Text.T1 := by kernel_rfl
theorem spec_l6Text.bits1 : waitsOk spec_l6Text.T1.2 spec_l6Text.B1 = true := by kernel_rfl
theorem spec_l6Text.calls (k : Nat) (a0_0 : Int) (A0_1 : Option Addr) (c0_1 : Nat) (l0_1 : List ByteArray) (A0_2 : Option Addr) (c0_2 : Nat) (l0_2 : List (S100)) (a0_3 : Bool) (A0_4 : Option Addr) (c0_4 : Nat) (l0_4 : List (S103)) (a0_5 : ByteArray) (a0_6 : ByteArray) (r : ByteArray) (w : World) (hr0_1 : Kd.C Kd.string w A0_1 l0_1.length l0_1) (hc0_1 : l0_1.length ≤ c0_1) (hr0_2 : Kd.C k100 w A0_2 l0_2.length l0_2) (hc0_2 : l0_2.length ≤ c0_2) (hr0_4 : Kd.C k103 w A0_4 l0_4.length l0_4) (hc0_4 : l0_4.length ≤ c0_4) (h : spec_l6Text.f k a0_0 l0_1 l0_2 a0_3 l0_4 a0_5 a0_6 = some r) :
  Calls Tryz.prog 26 #[.agg #[.int .i64 a0_0, .slice A0_1 l0_1.length c0_1, .slice A0_2 l0_2.length c0_2, .bool a0_3, .slice A0_4 l0_4.length c0_4, .string a0_5, .string a0_6]] w fun e w' => e = .returned (.string r) ∧ Below w.heap.size w w' := by
 have hu36 := Tryz.underlying36
 have hu34 := Tryz.underlying34
 have HR0_1 := Aside0.mk hr0_1
 have HC0_1 := Aside0.mk hc0_1
 clear hr0_1 hc0_1
 have HR0_2 := Aside0.mk hr0_2
 have HC0_2 := Aside0.mk hc0_2
 clear hr0_2 hc0_2
 have HR0_4 := Aside0.mk hr0_4
 have HC0_4 := Aside0.mk hc0_4
 clear hr0_4 hc0_4
 have HB := Aside0.mk (Below.refl w.heap.size w)
 unfold spec_l6Text.f at h
 have H := h
 clear h
 replace H := Option.bind_eq_some_iff.mp H
 obtain ⟨t102, A20, H⟩ := H
 have A2 := Aside0.mk A20
 clear A20
 have c3 := ite_y H
 replace H := ite_t H
 have c3b0 := eq_true c3
 have c3b1 := decide_eq_true c3
 try have c3b2 : (9223372036854775807 < 8 + t102.size) = False := eq_false (Nat.not_lt.2 c3)
 have c4 := ite_y H
 replace H := ite_t H
 have c4b0 := eq_true c4
 have c4b1 := decide_eq_true c4
 try have c4b2 : (9223372036854775807 < ((⟨#[114, 101, 108, 101, 97, 115, 101, 32]⟩ : ByteArray) ++ t102).size + 1) = False := eq_false (Nat.not_lt.2 c4)
 try (have c4b3 := c4b2; simp only [ByteArray.size_append, show (⟨#[114, 101, 108, 101, 97, 115, 101, 32]⟩ : ByteArray).size = 8 from rfl] at c4b3)
 try (have c4h_ := c4; simp [go_sem, *] at c4h_; have c4b5 : (9223372036854775807 < 8 + t102.size + 1) = False := eq_false (by omega); clear c4h_)
 have c5 := ite_y H
 replace H := ite_t H
 have c5b0 := eq_true c5
 have c5b1 := decide_eq_true c5
 try have c5b2 : (9223372036854775807 < (((⟨#[114, 101, 108, 101, 97, 115, 101, 32]⟩ : ByteArray) ++ t102) ++ (⟨#[32]⟩ : ByteArray)).size + a0_5.size) = False := eq_false (Nat.not_lt.2 c5)
 try (have c5b3 := c5b2; simp only [ByteArray.size_append, show (⟨#[114, 101, 108, 101, 97, 115, 101, 32]⟩ : ByteArray).size = 8 from rfl, show (⟨#[32]⟩ : ByteArray).size = 1 from rfl] at c5b3)
 try (have c5h_ := c5; simp [go_sem, *] at c5h_; have c5b5 : (9223372036854775807 < 8 + t102.size + 1 + a0_5.size) = False := eq_false (by omega); clear c5h_)
 have c6 := ite_y H
 replace H := ite_t H
 have c6b0 := eq_true c6
 have c6b1 := decide_eq_true c6
 try have c6b2 : (9223372036854775807 < ((((⟨#[114, 101, 108, 101, 97, 115, 101, 32]⟩ : ByteArray) ++ t102) ++ (⟨#[32]⟩ : ByteArray)) ++ a0_5).size + 1) = False := eq_false (Nat.not_lt.2 c6)
 try (have c6b3 := c6b2; simp only [ByteArray.size_append, show (⟨#[114, 101, 108, 101, 97, 115, 101, 32]⟩ : ByteArray).size = 8 from rfl, show (⟨#[32]⟩ : ByteArray).size = 1 from rfl] at c6b3)
 try (have c6h_ := c6; simp [go_sem, *] at c6h_; have c6b5 : (9223372036854775807 < 8 + t102.size + 1 + a0_5.size + 1) = False := eq_false (by omega); clear c6h_)
 replace H := Option.bind_eq_some_iff.mp H
 obtain ⟨t103, A70, H⟩ := H
 have A7 := Aside0.mk A70
 clear A70
 have c8 := ite_y H
 replace H := ite_t H
 have c8b0 := eq_true c8
 have c8b1 := decide_eq_true c8
 try have c8b2 : (9223372036854775807 < (((((⟨#[114, 101, 108, 101, 97, 115, 101, 32]⟩ : ByteArray) ++ t102) ++ (⟨#[32]⟩ : ByteArray)) ++ a0_5) ++ (⟨#[10]⟩ : ByteArray)).size + t103.size) = False := eq_false (Nat.not_lt.2 c8)
 try (have c8b3 := c8b2; simp only [ByteArray.size_append, show (⟨#[10]⟩ : ByteArray).size = 1 from rfl, show (⟨#[114, 101, 108, 101, 97, 115, 101, 32]⟩ : ByteArray).size = 8 from rfl, show (⟨#[32]⟩ : ByteArray).size = 1 from rfl] at c8b3)
 try (have c8h_ := c8; simp [go_sem, *] at c8h_; have c8b5 : (9223372036854775807 < 8 + t102.size + 1 + a0_5.size + 1 + t103.size) = False := eq_false (by omega); clear c8h_)
 obtain rfl := Option.some.inj H
 go_enter Tryz.func26, Tryz.ntmps26
 try go_wp2_with (first | ((with_reducible refine gate_dst (N := 1) rfl ?_); refine box_event rfl (N := 1) rfl (cs := #[.int .i64 a0_0, .slice A0_1 l0_1.length c0_1, .slice A0_2 l0_2.length c0_2, .bool a0_3, .slice A0_4 l0_4.length c0_4, .string a0_5, .string a0_6]) (t := 36) (by go_simp <;> rfl) ?_; intro gb101 hg w9 hbox hb; have BK101 := Aside0.mk (hbox); have GW101 := Le_.mk (ge_of hg HB.out); have GE101 := Le_.mk (ge_of hg HB.out); replace HB := kB HB hb; clear hb hbox hg))
 replace BK101 := Aside0.mk (blk_drew BK101.out)
 replace HB := Aside0.mk (below_drew1 HB.out)
 refine start_ (n := 14) (S := fun w' => w'.cell? ⟨gb101, 0, none⟩ = some (.int .i64 a0_0) ∧ w'.cell? ⟨gb101, 1, none⟩ = some (.slice A0_1 l0_1.length c0_1) ∧ w'.cell? ⟨gb101, 2, none⟩ = some (.slice A0_2 l0_2.length c0_2) ∧ w'.cell? ⟨gb101, 3, none⟩ = some (.bool a0_3) ∧ w'.cell? ⟨gb101, 4, none⟩ = some (.slice A0_4 l0_4.length c0_4) ∧ w'.cell? ⟨gb101, 5, none⟩ = some (.string a0_5) ∧ w'.cell? ⟨gb101, 6, none⟩ = some (.string a0_6)) (ds := []) _ (by kernel_rfl) rfl rfl ⟨(blk_cell BK101.out 0).trans rfl, (blk_cell BK101.out 1).trans rfl, (blk_cell BK101.out 2).trans rfl, (blk_cell BK101.out 3).trans rfl, (blk_cell BK101.out 4).trans rfl, (blk_cell BK101.out 5).trans rfl, (blk_cell BK101.out 6).trans rfl⟩ (fun hHeld => ?_); refine with_tabW spec_l6Text.tab1 spec_l6Text.bits1 (fun HT_ HW_ => ?_)
 generalize w9.drew = w10 at BK101 HB hHeld ⊢
 refine ord_ [.p 0 3, .p 5 8, .p 9 12, .t 1 4, .t 6 9, .t 10 13] ?_
 repeat (first | (refine pu_ (v := ?_) (a' := ?_) HT_ rfl rfl (by kernel_rfl) (fun _ _ _ h => h) (by rfl) ?_ ?_ ?_; rotate_left 2; (intro w'; go_simp; with_reducible rfl); (simp only [Act.put, List.setIfInBounds_toArray, List.set_cons_zero, List.set_cons_succ, i64_w, i32_w]; rfl)) | (refine ta_ (v := ?_) (a' := ?_) HT_ HW_ rfl rfl (by kernel_rfl) (fun _ _ _ h => h) (by rfl) hHeld ?_ ?_ ?_; rotate_left 2; (rintro w' ⟨s0, s1, s2, s3, s4, s5, s6⟩; go_simp; with_reducible rfl); (simp only [Act.put, List.setIfInBounds_toArray, List.set_cons_zero, List.set_cons_succ, i64_w, i32_w]; rfl)))
 refine ord0 ?_
 refine on_ (i := 2) (N := some 5) HT_ rfl rfl (by kernel_rfl) (by decide) (fun K hK => ?_)
 refine goM gf66 #[.int .i64 a0_0] (by rfl) rfl rfl rfl ?_
 with_reducible refine (spec_l1Dec.calls k a0_0 t102 _ A2.out).mono ?_
 rintro e w11 ⟨rfl, hb⟩
 refine ⟨_, rfl, ?_⟩
 replace BK101 := kb BK101 hb
 replace HB := kB HB hb
 (try clear hb)
 (try clear hb2)
 (try clear hk)
 (try clear hi)
 refine hK.out _ _ ⟨(blk_cell BK101.out 0).trans rfl, (blk_cell BK101.out 1).trans rfl, (blk_cell BK101.out 2).trans rfl, (blk_cell BK101.out 3).trans rfl, (blk_cell BK101.out 4).trans rfl, (blk_cell BK101.out 5).trans rfl, (blk_cell BK101.out 6).trans rfl⟩ (fun hHeld => ?_)
 clear hK K
 refine norm_ (a' := ?_) ?_ ?_
 rotate_left
 ·show Act.put _ (some 5) _ = _
  simp only [Act.put, List.setIfInBounds_toArray, List.set_cons_zero, List.set_cons_succ, i64_w, i32_w]
  rfl
 refine ord_ [.p 3 6, .p 4 7, .p 7 10, .p 8 11] ?_
 repeat (refine pu_ (v := ?_) (a' := ?_) HT_ rfl rfl (by kernel_rfl) (fun _ _ _ h => h) (by rfl) ?_ ?_ ?_; rotate_left 2; (intro w'; go_simp; with_reducible rfl); (simp only [Act.put, List.setIfInBounds_toArray, List.set_cons_zero, List.set_cons_succ, i64_w, i32_w]; rfl))
 refine ord0 ?_
 refine on_ (i := 11) (N := some 14) HT_ rfl rfl (by kernel_rfl) (by decide) (fun K hK => ?_)
 refine goM gf67 #[.agg #[.slice A0_1 l0_1.length c0_1, .slice A0_2 l0_2.length c0_2, .bool a0_3, .slice A0_4 l0_4.length c0_4]] (by rfl) rfl rfl rfl ?_
 with_reducible refine (spec_l5Put.calls k _ _ l0_1 _ _ l0_2 a0_3 _ _ l0_4 t103 _ ?side1 ?side2 ?side3 ?side4 ?side5 ?side6 A7.out).mono ?_
 (case side1 => exact cx (Kd.C_below HR0_1.out HB.out))
 (case side2 => exact HC0_1.out)
 (case side3 => exact cx (Kd.C_below HR0_2.out HB.out))
 (case side4 => exact HC0_2.out)
 (case side5 => exact cx (Kd.C_below HR0_4.out HB.out))
 (case side6 => exact HC0_4.out)
 rintro e w12 ⟨rfl, hb⟩
 refine ⟨_, rfl, ?_⟩
 replace BK101 := kb BK101 hb
 replace HB := kB HB hb
 (try clear hb)
 (try clear hb2)
 (try clear hk)
 (try clear hi)
 refine hK.out _ _ ⟨(blk_cell BK101.out 0).trans rfl, (blk_cell BK101.out 1).trans rfl, (blk_cell BK101.out 2).trans rfl, (blk_cell BK101.out 3).trans rfl, (blk_cell BK101.out 4).trans rfl, (blk_cell BK101.out 5).trans rfl, (blk_cell BK101.out 6).trans rfl⟩ (fun hHeld => ?_)
 clear hK K
 refine norm_ (a' := ?_) ?_ ?_
 rotate_left
 ·show Act.put _ (some 14) _ = _
  simp only [Act.put, List.setIfInBounds_toArray, List.set_cons_zero, List.set_cons_succ, i64_w, i32_w]
  rfl
 refine ord_ [.p 12 15, .p 13 2] ?_
 repeat (refine pu_ (v := ?_) (a' := ?_) HT_ rfl rfl (by kernel_rfl) (fun _ _ _ h => h) (by rfl) ?_ ?_ ?_; rotate_left 2; (intro w'; go_simp; with_reducible rfl); (simp only [Act.put, List.setIfInBounds_toArray, List.set_cons_zero, List.set_cons_succ, i64_w, i32_w]; rfl))
 refine ord0 ?_
 refine done_ (done_of HT_.out (by kernel_rfl)) ?_
 try go_wp2
 go_ret
 exact ⟨by rfl, bx HB.out⟩
theorem gf25 : Go_ Tryz.prog 25 Tryz.f25 := ⟨Tryz.func25, by kernel_rfl, rfl⟩
mutual
def spec_l6Form.j0 : Nat → Bool → Int → List ByteArray → List (S100) → Bool → List (S103) → ByteArray → ByteArray → Option (Bool)
 | 0, _, _, _, _, _, _, _, _ => none
 | k + 1, x25, x102000, x102001, x102002, x102003, x102004, x102005, x102006 => if x25 = true then (some false) else (spec_l6Form.l0 k 0 x102000 x102001 x102002 x102003 x102004 x102005 x102006)
def spec_l6Form.l0 : Nat → Int → Int → List ByteArray → List (S100) → Bool → List (S103) → ByteArray → ByteArray → Option (Bool)
 | 0, _, _, _, _, _, _, _, _ => none
 | k + 1, x3, x102000, x102001, x102002, x102003, x102004, x102005, x102006 => if x3 < 64 then (if 0 ≤ x3 then (if x3 < (x102005.size : Int) then ((spec_l6Figure.f (bt x102005 x3)).bind fun t105 => (if t105 = true then (if x3 < (x102006.size : Int) then ((spec_l6Figure.f (bt x102006 x3)).bind fun t106 => (if t106 = true then (spec_l6Form.l0 k (wrap64 (x3 + 1)) x102000 x102001 x102002 x102003 x102004 x102005 x102006) else (some false))) else (none)) else (some false))) else (none)) else (none)) else ((spec_l6Text.f k x102000 x102001 x102002 x102003 x102004 x102005 x102006).bind fun t104 => (some (decide ((t104.size : Int) ≤ 1200))))
end
def spec_l6Form.f (k : Nat) (a0_0 : Int) (l0_1 : List ByteArray) (l0_2 : List (S100)) (a0_3 : Bool) (l0_4 : List (S103)) (a0_5 : ByteArray) (a0_6 : ByteArray) : Option (Bool) := (spec_l1In.f a0_0 1 999999).bind fun t102 => (if t102 = true then ((spec_DeltaOk.f k l0_1 l0_2 a0_3 l0_4).bind fun t103 => (if t103 = true then (if (a0_5.size : Int) = 64 then (spec_l6Form.j0 k ((a0_6.size : Int) != 64) a0_0 l0_1 l0_2 a0_3 l0_4 a0_5 a0_6) else (spec_l6Form.j0 k true a0_0 l0_1 l0_2 a0_3 l0_4 a0_5 a0_6)) else (spec_l6Form.j0 k true a0_0 l0_1 l0_2 a0_3 l0_4 a0_5 a0_6))) else (spec_l6Form.j0 k true a0_0 l0_1 l0_2 a0_3 l0_4 a0_5 a0_6))
theorem spec_l6Form.mono_l : ∀ k, (∀ y0 y1 y2 y3 y4 y5 y6 y7, LeO (spec_l6Form.j0 k y0 y1 y2 y3 y4 y5 y6 y7) (spec_l6Form.j0 (k + 1) y0 y1 y2 y3 y4 y5 y6 y7)) ∧ (∀ y0 y1 y2 y3 y4 y5 y6 y7, LeO (spec_l6Form.l0 k y0 y1 y2 y3 y4 y5 y6 y7) (spec_l6Form.l0 (k + 1) y0 y1 y2 y3 y4 y5 y6 y7))
 | 0 => ⟨fun _ _ _ _ _ _ _ _ r h => by simp [spec_l6Form.j0] at h, fun _ _ _ _ _ _ _ _ r h => by simp [spec_l6Form.l0] at h⟩
 | k + 1 => by
  obtain ⟨ih0, ih1⟩ := spec_l6Form.mono_l k
  refine ⟨?_, ?_⟩
  ·intro y0 y1 y2 y3 y4 y5 y6 y7
   unfold spec_l6Form.j0
   have I0_ := fun a b c d e f g h => LeC.mk (ih0 a b c d e f g h)
   have I1_ := fun a b c d e f g h => LeC.mk (ih1 a b c d e f g h)
   have I2_ := fun a b c d e => LeC.mk (spec_DeltaOk.mono a b c d e)
   have I3_ := fun a b c d e f g h => LeC.mk (spec_l6Text.mono a b c d e f g h)
   exact LeC.out
  ·intro y0 y1 y2 y3 y4 y5 y6 y7
   unfold spec_l6Form.l0
   have I0_ := fun a b c d e f g h => LeC.mk (ih0 a b c d e f g h)
   have I1_ := fun a b c d e f g h => LeC.mk (ih1 a b c d e f g h)
   have I2_ := fun a b c d e => LeC.mk (spec_DeltaOk.mono a b c d e)
   have I3_ := fun a b c d e f g h => LeC.mk (spec_l6Text.mono a b c d e f g h)
   exact LeC.out
theorem spec_l6Form.mono : ∀ a0 a1 a2 a3 a4 a5 a6 k, LeO (spec_l6Form.f k a0 a1 a2 a3 a4 a5 a6) (spec_l6Form.f (k + 1) a0 a1 a2 a3 a4 a5 a6) := by
 intro a0 a1 a2 a3 a4 a5 a6 k
 obtain ⟨ih0, ih1⟩ := spec_l6Form.mono_l k
 unfold spec_l6Form.f
 have I0_ := fun a b c d e f g h => LeC.mk (ih0 a b c d e f g h)
 have I1_ := fun a b c d e f g h => LeC.mk (ih1 a b c d e f g h)
 have I2_ := fun a b c d e => LeC.mk (spec_DeltaOk.mono a b c d e)
 have I3_ := fun a b c d e f g h => LeC.mk (spec_l6Text.mono a b c d e f g h)
 exact LeC.out
theorem spec_l6Form.calls (k : Nat) (a0_0 : Int) (A0_1 : Option Addr) (c0_1 : Nat) (l0_1 : List ByteArray) (A0_2 : Option Addr) (c0_2 : Nat) (l0_2 : List (S100)) (a0_3 : Bool) (A0_4 : Option Addr) (c0_4 : Nat) (l0_4 : List (S103)) (a0_5 : ByteArray) (a0_6 : ByteArray) (r : Bool) (w : World) (hr0_1 : Kd.C Kd.string w A0_1 l0_1.length l0_1) (hc0_1 : l0_1.length ≤ c0_1) (hr0_2 : Kd.C k100 w A0_2 l0_2.length l0_2) (hc0_2 : l0_2.length ≤ c0_2) (hr0_4 : Kd.C k103 w A0_4 l0_4.length l0_4) (hc0_4 : l0_4.length ≤ c0_4) (h : spec_l6Form.f k a0_0 l0_1 l0_2 a0_3 l0_4 a0_5 a0_6 = some r) :
  Calls Tryz.prog 25 #[.agg #[.int .i64 a0_0, .slice A0_1 l0_1.length c0_1, .slice A0_2 l0_2.length c0_2, .bool a0_3, .slice A0_4 l0_4.length c0_4, .string a0_5, .string a0_6]] w fun e w' => e = .returned (.bool r) ∧ Below w.heap.size w w' := by
 have hu36 := Tryz.underlying36
 have hu34 := Tryz.underlying34
 have HR0_1 := Aside0.mk hr0_1
 have HC0_1 := Aside0.mk hc0_1
 clear hr0_1 hc0_1
 have HR0_2 := Aside0.mk hr0_2
 have HC0_2 := Aside0.mk hc0_2
 clear hr0_2 hc0_2
 have HR0_4 := Aside0.mk hr0_4
 have HC0_4 := Aside0.mk hc0_4
 clear hr0_4 hc0_4
 have HB := Aside0.mk (Below.refl w.heap.size w)
 unfold spec_l6Form.f at h
 have H := h
 clear h
 have HC2 := Aside0.mk H
 clear H
 go_enter Tryz.func25, Tryz.ntmps25
 go_upto_region 1 with (first | ((with_reducible refine gate_dst (N := 1) rfl ?_); (try (refine gate_guard (by rfl) ?_; dsimp only)); refine box_event rfl (N := 1) rfl (cs := #[.int .i64 a0_0, .slice A0_1 l0_1.length c0_1, .slice A0_2 l0_2.length c0_2, .bool a0_3, .slice A0_4 l0_4.length c0_4, .string a0_5, .string a0_6]) (t := 36) (by go_simp <;> rfl) ?_; intro gb101 hg w3 hbox hb; have BK101 := Aside0.mk (hbox); have GW101 := Le_.mk (ge_of hg HB.out); have GE101 := Le_.mk (ge_of hg HB.out); replace HB := kB HB hb; clear hb hbox hg))
 (try simp only [Act.put, List.setIfInBounds_toArray, List.set_cons_zero, List.set_cons_succ])
 go_cut [25] (fun v25 wc => ∃ (kq : Nat) (x25_1 : Bool), v25 = .bool x25_1 ∧ Aside0 (spec_l6Form.j0 kq x25_1 a0_0 l0_1 l0_2 a0_3 l0_4 a0_5 a0_6 = some r) ∧ Aside0 (kq ≤ k) ∧ Aside0 (wc.heap[gb101]? = some (.cells #[.int .i64 a0_0, (.slice A0_1 l0_1.length c0_1), (.slice A0_2 l0_2.length c0_2), .bool a0_3, (.slice A0_4 l0_4.length c0_4), .string a0_5, .string a0_6] 36 (0, 0))) ∧ Aside0 (Below w.heap.size w wc))
 case first =>
  have H := HC2.out
  clear HC2
  replace H := Option.bind_eq_some_iff.mp H
  obtain ⟨t102, A40, H⟩ := H
  have A4 := Aside0.mk A40
  clear A40
  by_cases c5 : t102 = true
  ·subst c5
   rw [if_pos rfl] at H
   replace H := Option.bind_eq_some_iff.mp H
   obtain ⟨t103, A60, H⟩ := H
   have A6 := Aside0.mk A60
   clear A60
   by_cases c7 : t103 = true
   ·subst c7
    rw [if_pos rfl] at H
    by_cases c8 : (a0_5.size : Int) = 64
    ·rw [if_pos c8] at H
     have c8b0 : ((a0_5.size : Int) == 64) = true := beq_iff_eq.mpr c8
     have c8b1 : ((a0_5.size : Int) != 64) = false := bne_eq_false_iff_eq.mpr c8
     clear c8
     (first | rw [c8b0] | (simp only [i64_w, i32_w]; rw [c8b0]) | skip)
     have H' := Aside0.mk H
     clear H
     have hz9 := cells_7 BK101.out
     go_wp2_with (first | ((with_reducible refine gate_callee (f := 47) rfl ?_); refine goL (some 6) rfl rfl gf47 #[.int .i64 a0_0, .int .i64 1, .int .i64 999999] rfl rfl ?_; (with_reducible refine (spec_l1In.calls a0_0 1 999999 true _ A4.out).mono ?_); rintro e w' ⟨rfl, ⟨nd, rfl⟩⟩; refine ⟨_, rfl, ?_⟩) | (go_at_call 64; (with_reducible refine (spec_DeltaOk.calls k _ _ l0_1 _ _ l0_2 a0_3 _ _ l0_4 true _ ?side1 ?side2 ?side3 ?side4 ?side5 ?side6 A6.out).mono ?_); (case side1 => repeat (first | exact (Kd.C_below HR0_1.out (bx HB.out)) | (with_reducible refine Kd.C_alloc ?_ _) | (with_reducible refine Kd.C_drewN ?_ _) | (with_reducible refine Kd.C_drew ?_))); (case side2 => exact HC0_1.out); (case side3 => repeat (first | exact (Kd.C_below HR0_2.out (bx HB.out)) | (with_reducible refine Kd.C_alloc ?_ _) | (with_reducible refine Kd.C_drewN ?_ _) | (with_reducible refine Kd.C_drew ?_))); (case side4 => exact HC0_2.out); (case side5 => repeat (first | exact (Kd.C_below HR0_4.out (bx HB.out)) | (with_reducible refine Kd.C_alloc ?_ _) | (with_reducible refine Kd.C_drewN ?_ _) | (with_reducible refine Kd.C_drew ?_))); (case side6 => exact HC0_4.out); rintro e w10 ⟨rfl, hb⟩; replace BK101 := kb BK101 hb; replace HB := kB HB hb; (try clear hb); (try clear hb2); (try clear hk); (try clear hi); have hz11 := cells_7 BK101.out))
     go_meet
     case rel => exact ⟨_, (((a0_6.size : Int) != 64)), (by first | rfl | (simp; done) | (simp [*]; done)), H', ⟨by first | omega | exact Nat.le_refl _⟩, ⟨gx (BK101.out)⟩, ⟨bx HB.out⟩⟩
    ·rw [if_neg c8] at H
     have c8b0 : ((a0_5.size : Int) == 64) = false := beq_eq_false_iff_ne.mpr c8
     have c8b1 : ((a0_5.size : Int) != 64) = true := bne_iff_ne.mpr c8
     (first | rw [c8b0] | (simp only [i64_w, i32_w]; rw [c8b0]) | skip)
     have H' := Aside0.mk H
     clear H
     have hz12 := cells_7 BK101.out
     go_wp2_with (first | ((with_reducible refine gate_callee (f := 47) rfl ?_); refine goL (some 6) rfl rfl gf47 #[.int .i64 a0_0, .int .i64 1, .int .i64 999999] rfl rfl ?_; (with_reducible refine (spec_l1In.calls a0_0 1 999999 true _ A4.out).mono ?_); rintro e w' ⟨rfl, ⟨nd, rfl⟩⟩; refine ⟨_, rfl, ?_⟩) | (go_at_call 64; (with_reducible refine (spec_DeltaOk.calls k _ _ l0_1 _ _ l0_2 a0_3 _ _ l0_4 true _ ?side1 ?side2 ?side3 ?side4 ?side5 ?side6 A6.out).mono ?_); (case side1 => repeat (first | exact (Kd.C_below HR0_1.out (bx HB.out)) | (with_reducible refine Kd.C_alloc ?_ _) | (with_reducible refine Kd.C_drewN ?_ _) | (with_reducible refine Kd.C_drew ?_))); (case side2 => exact HC0_1.out); (case side3 => repeat (first | exact (Kd.C_below HR0_2.out (bx HB.out)) | (with_reducible refine Kd.C_alloc ?_ _) | (with_reducible refine Kd.C_drewN ?_ _) | (with_reducible refine Kd.C_drew ?_))); (case side4 => exact HC0_2.out); (case side5 => repeat (first | exact (Kd.C_below HR0_4.out (bx HB.out)) | (with_reducible refine Kd.C_alloc ?_ _) | (with_reducible refine Kd.C_drewN ?_ _) | (with_reducible refine Kd.C_drew ?_))); (case side6 => exact HC0_4.out); rintro e w13 ⟨rfl, hb⟩; replace BK101 := kb BK101 hb; replace HB := kB HB hb; (try clear hb); (try clear hb2); (try clear hk); (try clear hi); have hz14 := cells_7 BK101.out))
     go_meet
     case rel => exact ⟨_, (true), (by first | rfl | (simp; done) | (simp [*]; done)), H', ⟨by first | omega | exact Nat.le_refl _⟩, ⟨gx (BK101.out)⟩, ⟨bx HB.out⟩⟩
   ·replace c7 := Bool.eq_false_iff.mpr c7
    subst c7
    rw [if_neg Bool.false_ne_true] at H
    have H' := Aside0.mk H
    clear H
    have hz15 := cells_7 BK101.out
    go_wp2_with (first | ((with_reducible refine gate_callee (f := 47) rfl ?_); refine goL (some 6) rfl rfl gf47 #[.int .i64 a0_0, .int .i64 1, .int .i64 999999] rfl rfl ?_; (with_reducible refine (spec_l1In.calls a0_0 1 999999 true _ A4.out).mono ?_); rintro e w' ⟨rfl, ⟨nd, rfl⟩⟩; refine ⟨_, rfl, ?_⟩) | (go_at_call 64; (with_reducible refine (spec_DeltaOk.calls k _ _ l0_1 _ _ l0_2 a0_3 _ _ l0_4 false _ ?side1 ?side2 ?side3 ?side4 ?side5 ?side6 A6.out).mono ?_); (case side1 => repeat (first | exact (Kd.C_below HR0_1.out (bx HB.out)) | (with_reducible refine Kd.C_alloc ?_ _) | (with_reducible refine Kd.C_drewN ?_ _) | (with_reducible refine Kd.C_drew ?_))); (case side2 => exact HC0_1.out); (case side3 => repeat (first | exact (Kd.C_below HR0_2.out (bx HB.out)) | (with_reducible refine Kd.C_alloc ?_ _) | (with_reducible refine Kd.C_drewN ?_ _) | (with_reducible refine Kd.C_drew ?_))); (case side4 => exact HC0_2.out); (case side5 => repeat (first | exact (Kd.C_below HR0_4.out (bx HB.out)) | (with_reducible refine Kd.C_alloc ?_ _) | (with_reducible refine Kd.C_drewN ?_ _) | (with_reducible refine Kd.C_drew ?_))); (case side6 => exact HC0_4.out); rintro e w16 ⟨rfl, hb⟩; replace BK101 := kb BK101 hb; replace HB := kB HB hb; (try clear hb); (try clear hb2); (try clear hk); (try clear hi)))
    go_meet
    case rel => exact ⟨_, (true), (by first | rfl | (simp; done) | (simp [*]; done)), H', ⟨by first | omega | exact Nat.le_refl _⟩, ⟨gx (BK101.out)⟩, ⟨bx HB.out⟩⟩
  ·replace c5 := Bool.eq_false_iff.mpr c5
   subst c5
   rw [if_neg Bool.false_ne_true] at H
   have H' := Aside0.mk H
   clear H
   have hz17 := cells_7 BK101.out
   go_wp2_with (first | ((with_reducible refine gate_callee (f := 47) rfl ?_); refine goL (some 6) rfl rfl gf47 #[.int .i64 a0_0, .int .i64 1, .int .i64 999999] rfl rfl ?_; (with_reducible refine (spec_l1In.calls a0_0 1 999999 false _ A4.out).mono ?_); rintro e w' ⟨rfl, ⟨nd, rfl⟩⟩; refine ⟨_, rfl, ?_⟩))
   go_meet
   case rel => exact ⟨_, (true), (by first | rfl | (simp; done) | (simp [*]; done)), H', ⟨by first | omega | exact Nat.le_refl _⟩, ⟨gx (BK101.out)⟩, ⟨bx HB.out⟩⟩
 case rest =>
  clear HC2
  try clear c2
  try clear p2
  try clear c4
  try clear c5
  try clear c7
  try clear c8
  try clear c8b0
  try clear c8b1
  try clear hz11
  try clear hz12
  try clear hz14
  try clear hz15
  try clear hz17
  try clear hz9
  obtain ⟨kq, x25_1, rfl, HA, HJ1, BK101, HB⟩ := hcut
  cases kq with
  | zero => exact absurd HA.out (by simp [spec_l6Form.j0])
  | succ kj1 =>
   have H := HA.out
   clear HA
   simp only [spec_l6Form.j0] at H
   by_cases c18 : x25_1 = true
   ·subst c18
    rw [if_pos rfl] at H
    obtain rfl := Option.some.inj H
    go_wp2
    go_ret
    exact ⟨by rfl, bx HB.out⟩
   ·replace c18 := Bool.eq_false_iff.mpr c18
    subst c18
    rw [if_neg Bool.false_ne_true] at H
    have H' := Aside0.mk H
    clear H
    go_wp2
    go_loopg [3] kj1 (fun kq v3 w' => ∃ (x3_2 : Int), v3 = .int .i64 x3_2 ∧ Aside0 (spec_l6Form.l0 kq x3_2 a0_0 l0_1 l0_2 a0_3 l0_4 a0_5 a0_6 = some r) ∧ Aside0 (kq ≤ kj1) ∧ Aside0 (w'.heap[gb101]? = some (.cells #[.int .i64 a0_0, (.slice A0_1 l0_1.length c0_1), (.slice A0_2 l0_2.length c0_2), .bool a0_3, (.slice A0_4 l0_4.length c0_4), .string a0_5, .string a0_6] 36 (0, 0))) ∧ Aside0 (Below w.heap.size w w'))
    case atStart => exact ⟨(0), (by first | rfl | (simp; done) | (simp [*]; done)), H', ⟨Nat.le_refl _⟩, ⟨gx (BK101.out)⟩, ⟨bx HB.out⟩⟩
    case round =>
     clear H'
     try clear c1
     try clear c2
     try clear p2
     try clear c4
     try clear c5
     try clear c7
     try clear c8
     try clear c8b0
     try clear c8b1
     try clear c18
     try clear hz11
     try clear hz12
     try clear hz14
     try clear hz15
     try clear hz17
     try clear hz9
     try clear p2
     obtain ⟨x3_2, rfl, HA, HK2, BK101, HB⟩ := hrel
     cases gk with
     | zero => exact absurd HA.out (by simp [spec_l6Form.l0])
     | succ k2 =>
      have H := HA.out
      clear HA
      simp only [spec_l6Form.l0] at H
      by_cases c19 : x3_2 < 64
      ·rw [if_pos c19] at H
       have c19b0 := decide_eq_true c19
       clear c19
       have c20 := ite_y H
       replace H := ite_t H
       have c20b0 := decide_eq_true c20
       clear c20
       have c21 := ite_y H
       replace H := ite_t H
       have c21b0 := decide_eq_true c21
       clear c21
       replace H := Option.bind_eq_some_iff.mp H
       obtain ⟨t105, A230, H⟩ := H
       have A23 := Aside0.mk A230
       clear A230
       by_cases c24 : t105 = true
       ·subst c24
        rw [if_pos rfl] at H
        have c25 := ite_y H
        replace H := ite_t H
        have c25b0 := decide_eq_true c25
        clear c25
        replace H := Option.bind_eq_some_iff.mp H
        obtain ⟨t106, A270, H⟩ := H
        have A27 := Aside0.mk A270
        clear A270
        by_cases c28 : t106 = true
        ·subst c28
         rw [if_pos rfl] at H
         have H' := Aside0.mk H
         clear H
         have hz29 := cells_7 BK101.out
         have p22 := of_decide_eq_true c20b0
         have q22 := of_decide_eq_true c21b0
         have hx22 := bt_at a0_5 x3_2
         replace p22 := eq_true p22
         replace q22 := eq_true q22
         go_wp2_with (first | ((with_reducible refine gate_callee (f := 65) rfl ?_); refine goL (some 34) rfl rfl gf65 #[.int .u8 (bt a0_5 x3_2)] rfl rfl ?_; (with_reducible refine (spec_l6Figure.calls (bt a0_5 x3_2) true _ A23.out).mono ?_); rintro e w' ⟨rfl, ⟨nd, rfl⟩⟩; refine ⟨_, rfl, ?_⟩; have p26 := of_decide_eq_true c20b0; have q26 := of_decide_eq_true c25b0; have hx26 := bt_at a0_6 x3_2; replace p26 := eq_true p26; replace q26 := eq_true q26) | (go_at_call 65; (with_reducible refine (spec_l6Figure.calls (bt a0_6 x3_2) true _ A27.out).mono ?_); rintro e w' ⟨rfl, ⟨nd, rfl⟩⟩))
         go_roundg k2
         case measure => have := HJ1.out; have := HK2.out; omega
         case rel => exact ⟨(wrap64 (x3_2 + 1)), (by first | rfl | (simp; done) | (simp [*]; done)), H', ⟨by have := HJ1.out; have := HK2.out; omega⟩, ⟨gx (BK101.out)⟩, ⟨bx HB.out⟩⟩
        ·replace c28 := Bool.eq_false_iff.mpr c28
         subst c28
         rw [if_neg Bool.false_ne_true] at H
         obtain rfl := Option.some.inj H
         have hz30 := cells_7 BK101.out
         have p22 := of_decide_eq_true c20b0
         have q22 := of_decide_eq_true c21b0
         have hx22 := bt_at a0_5 x3_2
         replace p22 := eq_true p22
         replace q22 := eq_true q22
         go_wp2_with (first | ((with_reducible refine gate_callee (f := 65) rfl ?_); refine goL (some 34) rfl rfl gf65 #[.int .u8 (bt a0_5 x3_2)] rfl rfl ?_; (with_reducible refine (spec_l6Figure.calls (bt a0_5 x3_2) true _ A23.out).mono ?_); rintro e w' ⟨rfl, ⟨nd, rfl⟩⟩; refine ⟨_, rfl, ?_⟩; have p26 := of_decide_eq_true c20b0; have q26 := of_decide_eq_true c25b0; have hx26 := bt_at a0_6 x3_2; replace p26 := eq_true p26; replace q26 := eq_true q26) | (go_at_call 65; (with_reducible refine (spec_l6Figure.calls (bt a0_6 x3_2) false _ A27.out).mono ?_); rintro e w' ⟨rfl, ⟨nd, rfl⟩⟩))
         go_ret
         exact ⟨by rfl, bx HB.out⟩
       ·replace c24 := Bool.eq_false_iff.mpr c24
        subst c24
        rw [if_neg Bool.false_ne_true] at H
        obtain rfl := Option.some.inj H
        have hz31 := cells_7 BK101.out
        have p22 := of_decide_eq_true c20b0
        have q22 := of_decide_eq_true c21b0
        have hx22 := bt_at a0_5 x3_2
        replace p22 := eq_true p22
        replace q22 := eq_true q22
        go_wp2_with (first | ((with_reducible refine gate_callee (f := 65) rfl ?_); refine goL (some 34) rfl rfl gf65 #[.int .u8 (bt a0_5 x3_2)] rfl rfl ?_; (with_reducible refine (spec_l6Figure.calls (bt a0_5 x3_2) false _ A23.out).mono ?_); rintro e w' ⟨rfl, ⟨nd, rfl⟩⟩; refine ⟨_, rfl, ?_⟩))
        go_ret
        exact ⟨by rfl, bx HB.out⟩
      ·rw [if_neg c19] at H
       have c19b0 := decide_eq_false c19
       clear c19
       replace H := Option.bind_eq_some_iff.mp H
       obtain ⟨t104, A320, H⟩ := H
       have A32 := Aside0.mk A320
       clear A320
       obtain rfl := Option.some.inj H
       have hz33 := cells_7 BK101.out
       go_wp2_with (first | ((with_reducible refine gate_callee (f := 26) rfl ?_); refine goL (some 45) rfl rfl gf26 #[.agg #[.int .i64 a0_0, .slice A0_1 l0_1.length c0_1, .slice A0_2 l0_2.length c0_2, .bool a0_3, .slice A0_4 l0_4.length c0_4, .string a0_5, .string a0_6]] rfl rfl ?_; (with_reducible refine (spec_l6Text.calls k2 a0_0 _ _ l0_1 _ _ l0_2 a0_3 _ _ l0_4 a0_5 a0_6 t104 _ (cx (Kd.C_below HR0_1.out HB.out)) HC0_1.out (cx (Kd.C_below HR0_2.out HB.out)) HC0_2.out (cx (Kd.C_below HR0_4.out HB.out)) HC0_4.out A32.out).mono ?_); rintro e w34 ⟨rfl, hb⟩; refine ⟨_, rfl, ?_⟩; replace BK101 := kb BK101 hb; replace HB := kB HB hb; (try clear hb); (try clear hb2); (try clear hk); (try clear hi)))
       go_ret
       exact ⟨by rfl, bx HB.out⟩
theorem gf8 : Go_ Tryz.prog 8 Tryz.f8 := ⟨Tryz.func8, by kernel_rfl, rfl⟩
def spec_ReleasePut.f (k : Nat) (a0_0 : Int) (l0_1 : List ByteArray) (l0_2 : List (S100)) (a0_3 : Bool) (l0_4 : List (S103)) (a0_5 : ByteArray) (a0_6 : ByteArray) : Option (ByteArray) := (spec_l6Form.f k a0_0 l0_1 l0_2 a0_3 l0_4 a0_5 a0_6).bind fun t102 => (if t102 = true then ((spec_l6Text.f k a0_0 l0_1 l0_2 a0_3 l0_4 a0_5 a0_6).bind fun t103 => (if t103.size + 5 ≤ 9223372036854775807 then (if (t103 ++ (⟨#[115, 101, 97, 108, 32]⟩ : ByteArray)).size + a0_6.size ≤ 9223372036854775807 then (if ((t103 ++ (⟨#[115, 101, 97, 108, 32]⟩ : ByteArray)) ++ a0_6).size + 1 ≤ 9223372036854775807 then (some (((t103 ++ (⟨#[115, 101, 97, 108, 32]⟩ : ByteArray)) ++ a0_6) ++ (⟨#[10]⟩ : ByteArray))) else (none)) else (none)) else (none))) else (some (⟨#[]⟩ : ByteArray)))
theorem spec_ReleasePut.mono : ∀ a0 a1 a2 a3 a4 a5 a6 k, LeO (spec_ReleasePut.f k a0 a1 a2 a3 a4 a5 a6) (spec_ReleasePut.f (k + 1) a0 a1 a2 a3 a4 a5 a6) := by
 intro a0 a1 a2 a3 a4 a5 a6 k
 unfold spec_ReleasePut.f
 have I0_ := fun a b c d e f g h => LeC.mk (spec_l6Form.mono a b c d e f g h)
 have I1_ := fun a b c d e f g h => LeC.mk (spec_l6Text.mono a b c d e f g h)
 exact LeC.out
def spec_ReleasePut.T3 : Bool × List (List Nat × List Nat) := (true, [([], []), ([0], [0]), ([1], [1]), ([], []), ([3], [3]), ([2, 4], [2, 4]), ([5], [5]), ([6, 1, 0, 1, 2, 3, 4, 5, 6], [6])])
def spec_ReleasePut.B3 : List Nat := [0, 1, 3, 0, 8, 31, 63, 127]
theorem spec_ReleasePut.tab3 : rtab .any (opsOf Tryz.f8 3) = spec_ReleasePut.T3 := by kernel_rfl
theorem spec_ReleasePut.bits3 : waitsOk spec_ReleasePut.T3.2 spec_ReleasePut.B3 = true := by kernel_rfl
theorem spec_ReleasePut.calls (k : Nat) (a0_0 : Int) (A0_1 : Option Addr) (c0_1 : Nat) (l0_1 : List ByteArray) (A0_2 : Option Addr) (c0_2 : Nat) (l0_2 : List (S100)) (a0_3 : Bool) (A0_4 : Option Addr) (c0_4 : Nat) (l0_4 : List (S103)) (a0_5 : ByteArray) (a0_6 : ByteArray) (r : ByteArray) (w : World) (hr0_1 : Kd.C Kd.string w A0_1 l0_1.length l0_1) (hc0_1 : l0_1.length ≤ c0_1) (hr0_2 : Kd.C k100 w A0_2 l0_2.length l0_2) (hc0_2 : l0_2.length ≤ c0_2) (hr0_4 : Kd.C k103 w A0_4 l0_4.length l0_4) (hc0_4 : l0_4.length ≤ c0_4) (h : spec_ReleasePut.f k a0_0 l0_1 l0_2 a0_3 l0_4 a0_5 a0_6 = some r) :
  Calls Tryz.prog 8 #[.agg #[.int .i64 a0_0, .slice A0_1 l0_1.length c0_1, .slice A0_2 l0_2.length c0_2, .bool a0_3, .slice A0_4 l0_4.length c0_4, .string a0_5, .string a0_6]] w fun e w' => e = .returned (.string r) ∧ Below w.heap.size w w' := by
 have hu36 := Tryz.underlying36
 have HR0_1 := Aside0.mk hr0_1
 have HC0_1 := Aside0.mk hc0_1
 clear hr0_1 hc0_1
 have HR0_2 := Aside0.mk hr0_2
 have HC0_2 := Aside0.mk hc0_2
 clear hr0_2 hc0_2
 have HR0_4 := Aside0.mk hr0_4
 have HC0_4 := Aside0.mk hc0_4
 clear hr0_4 hc0_4
 have HB := Aside0.mk (Below.refl w.heap.size w)
 unfold spec_ReleasePut.f at h
 have H := h
 clear h
 replace H := Option.bind_eq_some_iff.mp H
 obtain ⟨t102, A20, H⟩ := H
 have A2 := Aside0.mk A20
 clear A20
 by_cases c3 : t102 = true
 ·subst c3
  rw [if_pos rfl] at H
  replace H := Option.bind_eq_some_iff.mp H
  obtain ⟨t103, A40, H⟩ := H
  have A4 := Aside0.mk A40
  clear A40
  have c5 := ite_y H
  replace H := ite_t H
  have c5b0 := eq_true c5
  have c5b1 := decide_eq_true c5
  try have c5b2 : (9223372036854775807 < t103.size + 5) = False := eq_false (Nat.not_lt.2 c5)
  have c6 := ite_y H
  replace H := ite_t H
  have c6b0 := eq_true c6
  have c6b1 := decide_eq_true c6
  try have c6b2 : (9223372036854775807 < (t103 ++ (⟨#[115, 101, 97, 108, 32]⟩ : ByteArray)).size + a0_6.size) = False := eq_false (Nat.not_lt.2 c6)
  try (have c6b3 := c6b2; simp only [ByteArray.size_append, show (⟨#[115, 101, 97, 108, 32]⟩ : ByteArray).size = 5 from rfl] at c6b3)
  try (have c6h_ := c6; simp [go_sem, *] at c6h_; have c6b5 : (9223372036854775807 < t103.size + 5 + a0_6.size) = False := eq_false (by omega); clear c6h_)
  have c7 := ite_y H
  replace H := ite_t H
  have c7b0 := eq_true c7
  have c7b1 := decide_eq_true c7
  try have c7b2 : (9223372036854775807 < ((t103 ++ (⟨#[115, 101, 97, 108, 32]⟩ : ByteArray)) ++ a0_6).size + 1) = False := eq_false (Nat.not_lt.2 c7)
  try (have c7b3 := c7b2; simp only [ByteArray.size_append, show (⟨#[115, 101, 97, 108, 32]⟩ : ByteArray).size = 5 from rfl] at c7b3)
  try (have c7h_ := c7; simp [go_sem, *] at c7h_; have c7b5 : (9223372036854775807 < t103.size + 5 + a0_6.size + 1) = False := eq_false (by omega); clear c7h_)
  obtain rfl := Option.some.inj H
  go_enter Tryz.func8, Tryz.ntmps8
  try go_wp2_with (first | ((with_reducible refine gate_dst (N := 1) rfl ?_); refine box_event rfl (N := 1) rfl (cs := #[.int .i64 a0_0, .slice A0_1 l0_1.length c0_1, .slice A0_2 l0_2.length c0_2, .bool a0_3, .slice A0_4 l0_4.length c0_4, .string a0_5, .string a0_6]) (t := 36) (by go_simp <;> rfl) ?_; intro gb101 hg w8 hbox hb; have BK101 := Aside0.mk (hbox); have GW101 := Le_.mk (ge_of hg HB.out); have GE101 := Le_.mk (ge_of hg HB.out); replace HB := kB HB hb; clear hb hbox hg; have hz9 := cells_7 BK101.out) | ((with_reducible refine gate_callee (f := 25) rfl ?_); refine goL (some 4) rfl rfl gf25 #[.agg #[.int .i64 a0_0, .slice A0_1 l0_1.length c0_1, .slice A0_2 l0_2.length c0_2, .bool a0_3, .slice A0_4 l0_4.length c0_4, .string a0_5, .string a0_6]] rfl rfl ?_; (with_reducible refine (spec_l6Form.calls k a0_0 _ _ l0_1 _ _ l0_2 a0_3 _ _ l0_4 a0_5 a0_6 true _ (cx (Kd.C_below HR0_1.out HB.out)) HC0_1.out (cx (Kd.C_below HR0_2.out HB.out)) HC0_2.out (cx (Kd.C_below HR0_4.out HB.out)) HC0_4.out A2.out).mono ?_); rintro e w10 ⟨rfl, hb⟩; refine ⟨_, rfl, ?_⟩; replace BK101 := kb BK101 hb; replace HB := kB HB hb; (try clear hb); (try clear hb2); (try clear hk); (try clear hi)))
  replace BK101 := Aside0.mk (blk_drew BK101.out)
  replace HB := Aside0.mk (below_drew1 HB.out)
  refine start_ (n := 8) (S := fun w' => w'.cell? ⟨gb101, 0, none⟩ = some (.int .i64 a0_0) ∧ w'.cell? ⟨gb101, 1, none⟩ = some (.slice A0_1 l0_1.length c0_1) ∧ w'.cell? ⟨gb101, 2, none⟩ = some (.slice A0_2 l0_2.length c0_2) ∧ w'.cell? ⟨gb101, 3, none⟩ = some (.bool a0_3) ∧ w'.cell? ⟨gb101, 4, none⟩ = some (.slice A0_4 l0_4.length c0_4) ∧ w'.cell? ⟨gb101, 5, none⟩ = some (.string a0_5) ∧ w'.cell? ⟨gb101, 6, none⟩ = some (.string a0_6)) (ds := []) _ (by kernel_rfl) rfl rfl ⟨(blk_cell BK101.out 0).trans rfl, (blk_cell BK101.out 1).trans rfl, (blk_cell BK101.out 2).trans rfl, (blk_cell BK101.out 3).trans rfl, (blk_cell BK101.out 4).trans rfl, (blk_cell BK101.out 5).trans rfl, (blk_cell BK101.out 6).trans rfl⟩ (fun hHeld => ?_); refine with_tabW spec_ReleasePut.tab3 spec_ReleasePut.bits3 (fun HT_ HW_ => ?_)
  generalize w10.drew = w11 at BK101 HB hHeld ⊢
  refine ord_ [.p 3 9, .t 0 6, .t 4 10] ?_
  repeat (first | (refine pu_ (v := ?_) (a' := ?_) HT_ rfl rfl (by kernel_rfl) (fun _ _ _ h => h) (by rfl) ?_ ?_ ?_; rotate_left 2; (intro w'; go_simp; with_reducible rfl); (simp only [Act.put, List.setIfInBounds_toArray, List.set_cons_zero, List.set_cons_succ, i64_w, i32_w]; rfl)) | (refine ta_ (v := ?_) (a' := ?_) HT_ HW_ rfl rfl (by kernel_rfl) (fun _ _ _ h => h) (by rfl) hHeld ?_ ?_ ?_; rotate_left 2; (rintro w' ⟨s0, s1, s2, s3, s4, s5, s6⟩; go_simp; with_reducible rfl); (simp only [Act.put, List.setIfInBounds_toArray, List.set_cons_zero, List.set_cons_succ, i64_w, i32_w]; rfl)))
  refine ord0 ?_
  refine on_ (i := 1) (N := some 7) HT_ rfl rfl (by kernel_rfl) (by decide) (fun K hK => ?_)
  refine goM gf26 #[.agg #[.int .i64 a0_0, .slice A0_1 l0_1.length c0_1, .slice A0_2 l0_2.length c0_2, .bool a0_3, .slice A0_4 l0_4.length c0_4, .string a0_5, .string a0_6]] (by rfl) rfl rfl rfl ?_
  with_reducible refine (spec_l6Text.calls k a0_0 _ _ l0_1 _ _ l0_2 a0_3 _ _ l0_4 a0_5 a0_6 t103 _ ?side1 ?side2 ?side3 ?side4 ?side5 ?side6 A4.out).mono ?_
  (case side1 => exact cx (Kd.C_below HR0_1.out HB.out))
  (case side2 => exact HC0_1.out)
  (case side3 => exact cx (Kd.C_below HR0_2.out HB.out))
  (case side4 => exact HC0_2.out)
  (case side5 => exact cx (Kd.C_below HR0_4.out HB.out))
  (case side6 => exact HC0_4.out)
  rintro e w12 ⟨rfl, hb⟩
  refine ⟨_, rfl, ?_⟩
  replace BK101 := kb BK101 hb
  replace HB := kB HB hb
  (try clear hb)
  (try clear hb2)
  (try clear hk)
  (try clear hi)
  refine hK.out _ _ ⟨(blk_cell BK101.out 0).trans rfl, (blk_cell BK101.out 1).trans rfl, (blk_cell BK101.out 2).trans rfl, (blk_cell BK101.out 3).trans rfl, (blk_cell BK101.out 4).trans rfl, (blk_cell BK101.out 5).trans rfl, (blk_cell BK101.out 6).trans rfl⟩ (fun hHeld => ?_)
  clear hK K
  refine norm_ (a' := ?_) ?_ ?_
  rotate_left
  ·show Act.put _ (some 7) _ = _
   simp only [Act.put, List.setIfInBounds_toArray, List.set_cons_zero, List.set_cons_succ, i64_w, i32_w]
   rfl
  refine ord_ [.p 2 8, .p 5 11, .p 6 12, .p 7 2] ?_
  repeat (refine pu_ (v := ?_) (a' := ?_) HT_ rfl rfl (by kernel_rfl) (fun _ _ _ h => h) (by rfl) ?_ ?_ ?_; rotate_left 2; (intro w'; go_simp; with_reducible rfl); (simp only [Act.put, List.setIfInBounds_toArray, List.set_cons_zero, List.set_cons_succ, i64_w, i32_w]; rfl))
  refine ord0 ?_
  refine done_ (done_of HT_.out (by kernel_rfl)) ?_
  try go_wp2
  go_ret
  exact ⟨by rfl, bx HB.out⟩
 ·replace c3 := Bool.eq_false_iff.mpr c3
  subst c3
  rw [if_neg Bool.false_ne_true] at H
  obtain rfl := Option.some.inj H
  go_enter Tryz.func8, Tryz.ntmps8
  go_wp2_with (first | ((with_reducible refine gate_dst (N := 1) rfl ?_); refine box_event rfl (N := 1) rfl (cs := #[.int .i64 a0_0, .slice A0_1 l0_1.length c0_1, .slice A0_2 l0_2.length c0_2, .bool a0_3, .slice A0_4 l0_4.length c0_4, .string a0_5, .string a0_6]) (t := 36) (by go_simp <;> rfl) ?_; intro gb101 hg w13 hbox hb; have BK101 := Aside0.mk (hbox); have GW101 := Le_.mk (ge_of hg HB.out); have GE101 := Le_.mk (ge_of hg HB.out); replace HB := kB HB hb; clear hb hbox hg; have hz14 := cells_7 BK101.out) | ((with_reducible refine gate_callee (f := 25) rfl ?_); refine goL (some 4) rfl rfl gf25 #[.agg #[.int .i64 a0_0, .slice A0_1 l0_1.length c0_1, .slice A0_2 l0_2.length c0_2, .bool a0_3, .slice A0_4 l0_4.length c0_4, .string a0_5, .string a0_6]] rfl rfl ?_; (with_reducible refine (spec_l6Form.calls k a0_0 _ _ l0_1 _ _ l0_2 a0_3 _ _ l0_4 a0_5 a0_6 false _ (cx (Kd.C_below HR0_1.out HB.out)) HC0_1.out (cx (Kd.C_below HR0_2.out HB.out)) HC0_2.out (cx (Kd.C_below HR0_4.out HB.out)) HC0_4.out A2.out).mono ?_); rintro e w15 ⟨rfl, hb⟩; refine ⟨_, rfl, ?_⟩; replace BK101 := kb BK101 hb; replace HB := kB HB hb; (try clear hb); (try clear hb2); (try clear hk); (try clear hi)))
  go_ret
  exact ⟨by rfl, bx HB.out⟩
end Go.Proofs.YtaakfmpffhfaeaaGreatDoor.M
end

section
/- Plain lemmas about functions with a number of rounds; nothing of any program. -/
namespace Go.Proofs.YtaakfmpffhfaeaaGreatDoor.Pu
open Go.RowKit Go.Proofs.YtaakfmpffhfaeaaGreatDoorW.PrintWords
set_option linter.unusedVariables false
theorem Ev.succ {α : Type} {g : Nat → Option α} {r : α} (h : Ev (fun k => g (k + 1)) r) : Ev g r := Ev.step (fun _ => rfl) h
theorem Ev.pure_ {α : Type} (r : α) : Ev (fun _ => some r) r := Ev.now r
theorem Ev.cast {α : Type} {g : Nat → Option α} {r s : α} (h : Ev g r) (e : r = s) : Ev g s := e ▸ h
theorem Ev.ifp {α : Type} {c : Prop} [Decidable c] {f g : Nat → Option α} {r : α} (hc : c) (h : Ev f r) : Ev (fun k => if c then f k else g k) r := by
 simp only [if_pos hc]
 exact h
theorem Ev.ifn {α : Type} {c : Prop} [Decidable c] {f g : Nat → Option α} {r : α} (hc : ¬ c) (h : Ev g r) : Ev (fun k => if c then f k else g k) r := by
 simp only [if_neg hc]
 exact h
theorem wid {x : Int} (h0 : -9223372036854775808 ≤ x) (h1 : x ≤ 9223372036854775807) : wrap64 x = x := by
 unfold wrap64
 omega
theorem all_from {α : Type} {g : Nat → Int → Option α} (n : Nat) (P : Nat → Prop) [DecidablePred P] (stop fin : α)
  (step : ∀ (i : Nat) (r : α), i < n → P i → Ev (fun k => g k ((i : Int) + 1)) r → Ev (fun k => g k (i : Int)) r)
  (fail : ∀ i : Nat, i < n → ¬ P i → Ev (fun k => g k (i : Int)) stop)
  (done : Ev (fun k => g k (n : Int)) fin) (d : Nat) : ∀ i : Nat, n - i = d → i ≤ n → Ev (fun k => g k (i : Int)) (if ∀ j, j < n → i ≤ j → P j then fin else stop) := by
 induction d with
 | zero =>
  intro i hd hi
  obtain rfl : i = n := by omega
  rw [if_pos (fun j h1 h2 => absurd h1 (by omega))]
  exact done
 | succ d ih =>
  intro i hd hi
  by_cases hp : P i
  ·have h := ih (i + 1) (by omega) (by omega)
   have e : (if ∀ j, j < n → i + 1 ≤ j → P j then fin else stop) = (if ∀ j, j < n → i ≤ j → P j then fin else stop) := by
    have : (∀ j, j < n → i + 1 ≤ j → P j) ↔ (∀ j, j < n → i ≤ j → P j) := by
     refine ⟨fun h j h1 h2 => ?_, fun h j h1 h2 => h j h1 (by omega)⟩
     rcases Nat.eq_or_lt_of_le h2 with rfl | h3
     ·exact hp
     ·exact h j h1 h3
    simp only [this]
   rw [e] at h
   exact step i _ (by omega) hp (by exact_mod_cast h)
  ·rw [if_neg (fun h => hp (h i (by omega) (Nat.le_refl _)))]
   exact fail i (by omega) hp
theorem all_loop {α : Type} {g : Nat → Int → Option α} (n : Nat) (P : Nat → Prop) [DecidablePred P] (stop fin : α)
  (step : ∀ (i : Nat) (r : α), i < n → P i → Ev (fun k => g k ((i : Int) + 1)) r → Ev (fun k => g k (i : Int)) r)
  (fail : ∀ i : Nat, i < n → ¬ P i → Ev (fun k => g k (i : Int)) stop)
  (done : Ev (fun k => g k (n : Int)) fin) : Ev (fun k => g k 0) (if ∀ j, j < n → P j then fin else stop) := by
 have h := all_from n P stop fin step fail done n 0 (by omega) (by omega)
 have e : (∀ j, j < n → 0 ≤ j → P j) ↔ (∀ j, j < n → P j) := ⟨fun h j h1 => h j h1 (Nat.zero_le _), fun h j h1 _ => h j h1⟩
 simp only [e] at h
 exact h
theorem fold_loop {α β : Type} {g : Nat → β → Int → Option α} (n : Nat) (F : Nat → β) (r : α)
  (step : ∀ (i : Nat), i < n → Ev (fun k => g k (F (i + 1)) ((i : Int) + 1)) r → Ev (fun k => g k (F i) (i : Int)) r)
  (done : Ev (fun k => g k (F n) (n : Int)) r) : Ev (fun k => g k (F 0) 0) r := by
 have key : ∀ d i : Nat, n - i = d → i ≤ n → Ev (fun k => g k (F i) (i : Int)) r := by
  intro d
  induction d with
  | zero =>
   intro i hd hi
   obtain rfl : i = n := by omega
   exact done
  | succ d ih =>
   intro i hd hi
   exact step i (by omega) (by exact_mod_cast ih (i + 1) (by omega) (by omega))
 exact_mod_cast key n 0 (by omega) (by omega)
theorem bt_nat (s : ByteArray) (i : Nat) : bt s (i : Int) = if h : i < s.size then ((s[i]'h).toNat : Int) else 0 := by simp [bt]
theorem toList_inj {a b : ByteArray} : a.toList = b.toList ↔ a = b := by
 constructor
 ·intro h
  rw [ByteArray.toList_eq, ByteArray.toList_eq] at h
  exact ByteArray.ext (Array.toList_inj.1 h)
 ·rintro rfl
  rfl
end Go.Proofs.YtaakfmpffhfaeaaGreatDoor.Pu
end
