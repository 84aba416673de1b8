import Derived.Test.YtndjhgjakdkkaaaBExactSplitAtx2
import Derived.Test.YtndjhgjakdkkaaaBExactSplitAtx3
import Derived.Test.YtndjhgjakdkkaaaBExactSplitAtx1

section
-- Printed for this claim by a program (mprint.py) that uses the kit's print; Lean checks it.
namespace Go.Proofs.Ytndjhgjakdkkaaa.M
open Go.RowKit Go.Proofs.YtndjhgjakdkkaaaW.PrintWords Go.Proofs.YtndjhgjakdkkaaaW.PrintLast Go.Proofs.YtndjhgjakdkkaaaW.PrintMore
attribute [local go_sem] max2_int min2_int max_two min_two max_three min_three max_four min_four   -- for this text's walks alone
set_option linter.unusedVariables false
set_option linter.unusedSimpArgs false
mutual
def spec_PatternOk.l0 : Nat → Int → Int → ByteArray → List Int → Option (Bool)
  | 0, _, _, _, _ => none
  | k + 1, x3, x4, x102000, x102001 => if x4 < x3 then (if 0 ≤ x4 then (if x4 < (x102000.size : Int) then (if (bt x102000 x4) = 46 then (if x4 = 0 then (spec_PatternOk.l0 k x3 (wrap64 (x4 + 1)) x102000 x102001) else (if (x4 = (wrap64 (x3 - 1))) then (spec_PatternOk.l0 k x3 (wrap64 (x4 + 1)) x102000 x102001) else (if (bt x102000 x4) < 97 then (some false) else (if (bt x102000 x4) > 122 then (some false) else (spec_PatternOk.l0 k x3 (wrap64 (x4 + 1)) x102000 x102001))))) else (if (bt x102000 x4) < 97 then (some false) else (if (bt x102000 x4) > 122 then (some false) else (spec_PatternOk.l0 k x3 (wrap64 (x4 + 1)) x102000 x102001)))) else (none)) else (none)) else (spec_PatternOk.l1 k x3 0 x102000 x102001)
def spec_PatternOk.l1 : Nat → Int → Int → ByteArray → List Int → Option (Bool)
  | 0, _, _, _, _ => none
  | k + 1, x3, x6, x102000, x102001 => if x6 < (x102001.length : Int) then (if 0 ≤ x6 then ((spec_l1In.f (rd x102001 x6) 0 9).bind fun t103 => (if t103 = true then (spec_PatternOk.l1 k x3 (wrap64 (x6 + 1)) x102000 x102001) else (some false))) else (none)) else ((spec_l1In.f x3 1 8).bind fun t104 => (if t104 = true then (some ((x102001.length : Int) == (wrap64 (x3 + 1)))) else (some false)))
end
def spec_PatternOk.f (k : Nat) (a0_0 : ByteArray) (l0_1 : List Int) : Option (Bool) := spec_PatternOk.l0 k (a0_0.size : Int) 0 a0_0 l0_1
theorem spec_PatternOk.mono_l : ∀ k, (∀ y0 y1 y2 y3, LeO (spec_PatternOk.l0 k y0 y1 y2 y3) (spec_PatternOk.l0 (k + 1) y0 y1 y2 y3)) ∧ (∀ y0 y1 y2 y3, LeO (spec_PatternOk.l1 k y0 y1 y2 y3) (spec_PatternOk.l1 (k + 1) y0 y1 y2 y3))
  | 0 => ⟨fun _ _ _ _ r h => by simp [spec_PatternOk.l0] at h, fun _ _ _ _ r h => by simp [spec_PatternOk.l1] at h⟩
  | k + 1 => by
    obtain ⟨ih0, ih1⟩ := spec_PatternOk.mono_l k
    refine ⟨?_, ?_⟩
    · intro y0 y1 y2 y3
      unfold spec_PatternOk.l0
      repeat' first
      | (with_reducible exact ih0 _ _ _ _)
      | (with_reducible exact ih1 _ _ _ _)
      | (with_reducible exact LeO.refl _)
      | (with_reducible exact LeO.none _)
      | (with_reducible refine LeO.ite ?_ ?_)
      | (with_reducible refine LeO.bind ?_ (fun _ => ?_))
      | exact ih0 _ _ _ _
      | exact ih1 _ _ _ _
      | exact LeO.none _
      | refine LeO.ite ?_ ?_
      | refine LeO.bind ?_ (fun _ => ?_)
    · intro y0 y1 y2 y3
      unfold spec_PatternOk.l1
      repeat' first
      | (with_reducible exact ih0 _ _ _ _)
      | (with_reducible exact ih1 _ _ _ _)
      | (with_reducible exact LeO.refl _)
      | (with_reducible exact LeO.none _)
      | (with_reducible refine LeO.ite ?_ ?_)
      | (with_reducible refine LeO.bind ?_ (fun _ => ?_))
      | exact ih0 _ _ _ _
      | exact ih1 _ _ _ _
      | exact LeO.none _
      | refine LeO.ite ?_ ?_
      | refine LeO.bind ?_ (fun _ => ?_)
theorem spec_PatternOk.mono : ∀ a0 a1 k, LeO (spec_PatternOk.f k a0 a1) (spec_PatternOk.f (k + 1) a0 a1) := by
  intro a0 a1 k
  obtain ⟨ih0, ih1⟩ := spec_PatternOk.mono_l k
  unfold spec_PatternOk.f
  repeat' first
      | (with_reducible exact ih0 _ _ _ _)
      | (with_reducible exact ih1 _ _ _ _)
      | (with_reducible exact LeO.refl _)
      | (with_reducible exact LeO.none _)
      | (with_reducible refine LeO.ite ?_ ?_)
      | (with_reducible refine LeO.bind ?_ (fun _ => ?_))
      | exact ih0 _ _ _ _
      | exact ih1 _ _ _ _
      | exact LeO.none _
      | refine LeO.ite ?_ ?_
      | refine LeO.bind ?_ (fun _ => ?_)
set_option maxHeartbeats 8000000 in
set_option maxRecDepth 100000 in
theorem spec_PatternOk.calls (k : Nat) (a0_0 : ByteArray) (A0_1 : Option Addr) (c0_1 : Nat) (l0_1 : List Int) (r : Bool) (w : World) (hr0_1 : Kd.C (Kd.int .i64) w A0_1 l0_1.length l0_1) (hc0_1 : l0_1.length ≤ c0_1) (h : spec_PatternOk.f k a0_0 l0_1 = some r) :
    Calls Try.prog 11 #[.agg #[.string a0_0, .slice A0_1 l0_1.length c0_1]] w fun e w' => e = .returned (.bool r) ∧ Below w.heap.size w w' := by
  have hu27 := Try.underlying27
  have HR0_1 := Aside0.mk hr0_1
  have HC0_1 := Aside0.mk hc0_1
  clear hr0_1 hc0_1
  have HB := Aside0.mk (Below.refl w.heap.size w)
  have H : (spec_PatternOk.l0 k (a0_0.size : Int) 0 a0_0 l0_1) = some r := h
  clear h
  have H' := Aside0.mk H
  clear H
  go_enter Try.func11, Try.ntmps11
  go_wp2_with (first | ((with_reducible refine gate_dst (N := 1) rfl ?_); (try (refine gate_guard (by rfl) ?_; dsimp only)); refine box_event ?hg (N := 1) ?hd (cs := #[.string a0_0, .slice A0_1 l0_1.length c0_1]) (t := 27) ?hr ?_; (case hd => rfl); (case hg => rfl); (case hr => first | (go_simp; done) | (go_simp; rfl)); intro gb101 hg w2 hbox hb; have n0_ := Aside0.mk (below_step (by repeat (first | (with_reducible first | exact HB.out | apply below_alloc | apply pw_below_drewN | apply below_drew1) | exact HB.out)) hb); have n1_ := Aside0.mk (hbox); have n2_ := Aside0.mk ((by rw [hg]; exact (below_size (by repeat (first | (with_reducible first | exact HB.out | apply below_alloc | apply pw_below_drewN | apply below_drew1) | exact HB.out))) : w.heap.size ≤ gb101)); have n3_ := Aside0.mk ((by rw [hg]; exact (below_size (by repeat (first | (with_reducible first | exact HB.out | apply below_alloc | apply pw_below_drewN | apply below_drew1) | exact HB.out))) : w.heap.size ≤ gb101)); clear HB; have HB := n0_; have BK101 := n1_; have GW101 := n2_; have GE101 := n3_; clear n0_ n1_ n2_ n3_; clear hb hbox hg; have hcz3_0 : w2.cell? ⟨gb101, 0, none⟩ = some (.string a0_0) := (blk_cell BK101.out 0).trans rfl; have hcz3_1 : w2.cell? ⟨gb101, 1, none⟩ = some (.slice A0_1 l0_1.length c0_1) := (blk_cell BK101.out 1).trans rfl; have hfz3_0 := blk_frozen BK101.out 0; have hfz3_1 := blk_frozen BK101.out 1))
  go_loopg [4] k (fun kq v4 w' => ∃ (x4_1 : Int), v4 = .int .i64 x4_1 ∧ Aside0 (spec_PatternOk.l0 kq (a0_0.size : Int) x4_1 a0_0 l0_1 = some r) ∧ Aside0 (kq ≤ k) ∧ Aside0 (w'.heap[gb101]? = some (.cells #[.string a0_0, (.slice A0_1 l0_1.length c0_1)] 27 (0, 0))) ∧ Aside0 (Below w.heap.size w w'))
  case atStart => exact ⟨(0), (by first | rfl | (simp; done) | (simp [*]; done)), H', ⟨Nat.le_refl _⟩, ⟨by (with_reducible repeat (first | refine blk_drewN ?_ _ | refine blk_drew ?_ | refine blk_alloc ?_ _)); exact BK101.out⟩, ⟨by repeat (first | (with_reducible first | exact HB.out | apply below_alloc | apply pw_below_drewN | apply below_drew1 | refine below_set ?_ GE101.out) | exact HB.out)⟩⟩
  case round =>
    clear H'
    try clear c1
    try clear p2
    try clear hcz3_0
    try clear hcz3_1
    try clear hfz3_0
    try clear hfz3_1
    obtain ⟨x4_1, rfl, HA, HK1, BK101, HB⟩ := hrel
    cases gk with
    | zero => exact absurd HA.out (by simp [spec_PatternOk.l0])
    | succ k1 =>
      have H := HA.out
      clear HA
      simp only [spec_PatternOk.l0] at H
      by_cases c4 : x4_1 < (a0_0.size : Int)
      · rw [if_pos c4] at H
        have c4b0 : decide (x4_1 < (a0_0.size : Int)) = true := decide_eq_true c4
        clear c4
        by_cases c5 : 0 ≤ x4_1
        · rw [if_pos c5] at H
          have c5b0 : decide (0 ≤ x4_1) = true := decide_eq_true c5
          clear c5
          by_cases c6 : x4_1 < (a0_0.size : Int)
          · rw [if_pos c6] at H
            have c6b0 : decide (x4_1 < (a0_0.size : Int)) = true := decide_eq_true c6
            clear c6
            by_cases c8 : (bt a0_0 x4_1) = 46
            · rw [if_pos c8] at H
              have c8b0 : ((bt a0_0 x4_1) == 46) = true := beq_iff_eq.mpr c8
              have c8b1 : ((bt a0_0 x4_1) != 46) = false := bne_eq_false_iff_eq.mpr c8
              clear c8
              by_cases c9 : x4_1 = 0
              · rw [if_pos c9] at H
                have c9b0 : (x4_1 == 0) = true := beq_iff_eq.mpr c9
                have c9b1 : (x4_1 != 0) = false := bne_eq_false_iff_eq.mpr c9
                clear c9
                have H' := Aside0.mk H
                clear H
                have hcz10_0 : wr.cell? ⟨gb101, 0, none⟩ = some (.string a0_0) := (blk_cell BK101.out 0).trans rfl
                have hcz10_1 : wr.cell? ⟨gb101, 1, none⟩ = some (.slice A0_1 l0_1.length c0_1) := (blk_cell BK101.out 1).trans rfl
                have hfz10_0 := blk_frozen BK101.out 0
                have hfz10_1 := blk_frozen BK101.out 1
                have p7 : 0 ≤ (x4_1 : Int) := of_decide_eq_true (by first | (with_reducible assumption) | assumption)
                have q7 : x4_1 < (a0_0.size : Int) := of_decide_eq_true (by first | (with_reducible assumption) | assumption)
                have hx7 := bt_at a0_0 x4_1
                replace p7 := eq_true p7
                replace q7 := eq_true q7
                go_wp2
                go_roundg k1
                case measure => have := HK1.out; omega
                case rel => exact ⟨(wrap64 (x4_1 + 1)), (by first | rfl | (simp; done) | (simp [*]; done)), H', ⟨by have := HK1.out; omega⟩, ⟨by (with_reducible repeat (first | refine blk_drewN ?_ _ | refine blk_drew ?_ | refine blk_alloc ?_ _)); exact BK101.out⟩, ⟨by repeat (first | (with_reducible first | exact HB.out | apply below_alloc | apply pw_below_drewN | apply below_drew1 | refine below_set ?_ GE101.out) | exact HB.out)⟩⟩
              · rw [if_neg c9] at H
                have c9b0 : (x4_1 == 0) = false := beq_eq_false_iff_ne.mpr c9
                have c9b1 : (x4_1 != 0) = true := bne_iff_ne.mpr c9
                by_cases c11 : (x4_1 = (wrap64 ((a0_0.size : Int) - 1)))
                · rw [if_pos c11] at H
                  have c11b0 : (x4_1 == (wrap64 ((a0_0.size : Int) - 1))) = true := beq_iff_eq.mpr c11
                  have c11b1 : (x4_1 != (wrap64 ((a0_0.size : Int) - 1))) = false := bne_eq_false_iff_eq.mpr c11
                  clear c11
                  have H' := Aside0.mk H
                  clear H
                  have hcz12_0 : wr.cell? ⟨gb101, 0, none⟩ = some (.string a0_0) := (blk_cell BK101.out 0).trans rfl
                  have hcz12_1 : wr.cell? ⟨gb101, 1, none⟩ = some (.slice A0_1 l0_1.length c0_1) := (blk_cell BK101.out 1).trans rfl
                  have hfz12_0 := blk_frozen BK101.out 0
                  have hfz12_1 := blk_frozen BK101.out 1
                  have p7 : 0 ≤ (x4_1 : Int) := of_decide_eq_true (by first | (with_reducible assumption) | assumption)
                  have q7 : x4_1 < (a0_0.size : Int) := of_decide_eq_true (by first | (with_reducible assumption) | assumption)
                  have hx7 := bt_at a0_0 x4_1
                  replace p7 := eq_true p7
                  replace q7 := eq_true q7
                  go_wp2
                  go_roundg k1
                  case measure => have := HK1.out; omega
                  case rel => exact ⟨(wrap64 (x4_1 + 1)), (by first | rfl | (simp; done) | (simp [*]; done)), H', ⟨by have := HK1.out; omega⟩, ⟨by (with_reducible repeat (first | refine blk_drewN ?_ _ | refine blk_drew ?_ | refine blk_alloc ?_ _)); exact BK101.out⟩, ⟨by repeat (first | (with_reducible first | exact HB.out | apply below_alloc | apply pw_below_drewN | apply below_drew1 | refine below_set ?_ GE101.out) | exact HB.out)⟩⟩
                · rw [if_neg c11] at H
                  have c11b0 : (x4_1 == (wrap64 ((a0_0.size : Int) - 1))) = false := beq_eq_false_iff_ne.mpr c11
                  have c11b1 : (x4_1 != (wrap64 ((a0_0.size : Int) - 1))) = true := bne_iff_ne.mpr c11
                  by_cases c14 : (bt a0_0 x4_1) < 97
                  · rw [if_pos c14] at H
                    have c14b0 : decide ((bt a0_0 x4_1) < 97) = true := decide_eq_true c14
                    clear c14
                    obtain rfl := Option.some.inj H
                    have hcz15_0 : wr.cell? ⟨gb101, 0, none⟩ = some (.string a0_0) := (blk_cell BK101.out 0).trans rfl
                    have hcz15_1 : wr.cell? ⟨gb101, 1, none⟩ = some (.slice A0_1 l0_1.length c0_1) := (blk_cell BK101.out 1).trans rfl
                    have hfz15_0 := blk_frozen BK101.out 0
                    have hfz15_1 := blk_frozen BK101.out 1
                    have p7 : 0 ≤ (x4_1 : Int) := of_decide_eq_true (by first | (with_reducible assumption) | assumption)
                    have q7 : x4_1 < (a0_0.size : Int) := of_decide_eq_true (by first | (with_reducible assumption) | assumption)
                    have hx7 := bt_at a0_0 x4_1
                    replace p7 := eq_true p7
                    replace q7 := eq_true q7
                    have p13 : 0 ≤ (x4_1 : Int) := of_decide_eq_true (by first | (with_reducible assumption) | assumption)
                    have q13 : x4_1 < (a0_0.size : Int) := of_decide_eq_true (by first | (with_reducible assumption) | assumption)
                    have hx13 := bt_at a0_0 x4_1
                    replace p13 := eq_true p13
                    replace q13 := eq_true q13
                    go_wp2
                    go_ret
                    exact ⟨by first | rfl | (simp [errW_none, errW_some] <;> rfl) | (simp [*, errW_none, errW_some] <;> rfl), by repeat (first | (with_reducible first | exact HB.out | apply below_alloc | apply pw_below_drewN | apply below_drew1 | refine below_set ?_ GE101.out) | exact HB.out)⟩
                  · rw [if_neg c14] at H
                    have c14b0 : decide ((bt a0_0 x4_1) < 97) = false := decide_eq_false c14
                    clear c14
                    by_cases c17 : (bt a0_0 x4_1) > 122
                    · rw [if_pos c17] at H
                      have c17b0 : decide (122 < (bt a0_0 x4_1)) = true := decide_eq_true c17
                      clear c17
                      obtain rfl := Option.some.inj H
                      have hcz18_0 : wr.cell? ⟨gb101, 0, none⟩ = some (.string a0_0) := (blk_cell BK101.out 0).trans rfl
                      have hcz18_1 : wr.cell? ⟨gb101, 1, none⟩ = some (.slice A0_1 l0_1.length c0_1) := (blk_cell BK101.out 1).trans rfl
                      have hfz18_0 := blk_frozen BK101.out 0
                      have hfz18_1 := blk_frozen BK101.out 1
                      have p7 : 0 ≤ (x4_1 : Int) := of_decide_eq_true (by first | (with_reducible assumption) | assumption)
                      have q7 : x4_1 < (a0_0.size : Int) := of_decide_eq_true (by first | (with_reducible assumption) | assumption)
                      have hx7 := bt_at a0_0 x4_1
                      replace p7 := eq_true p7
                      replace q7 := eq_true q7
                      have p13 : 0 ≤ (x4_1 : Int) := of_decide_eq_true (by first | (with_reducible assumption) | assumption)
                      have q13 : x4_1 < (a0_0.size : Int) := of_decide_eq_true (by first | (with_reducible assumption) | assumption)
                      have hx13 := bt_at a0_0 x4_1
                      replace p13 := eq_true p13
                      replace q13 := eq_true q13
                      have p16 : 0 ≤ (x4_1 : Int) := of_decide_eq_true (by first | (with_reducible assumption) | assumption)
                      have q16 : x4_1 < (a0_0.size : Int) := of_decide_eq_true (by first | (with_reducible assumption) | assumption)
                      have hx16 := bt_at a0_0 x4_1
                      replace p16 := eq_true p16
                      replace q16 := eq_true q16
                      go_wp2
                      go_ret
                      exact ⟨by first | rfl | (simp [errW_none, errW_some] <;> rfl) | (simp [*, errW_none, errW_some] <;> rfl), by repeat (first | (with_reducible first | exact HB.out | apply below_alloc | apply pw_below_drewN | apply below_drew1 | refine below_set ?_ GE101.out) | exact HB.out)⟩
                    · rw [if_neg c17] at H
                      have c17b0 : decide (122 < (bt a0_0 x4_1)) = false := decide_eq_false c17
                      clear c17
                      have H' := Aside0.mk H
                      clear H
                      have hcz19_0 : wr.cell? ⟨gb101, 0, none⟩ = some (.string a0_0) := (blk_cell BK101.out 0).trans rfl
                      have hcz19_1 : wr.cell? ⟨gb101, 1, none⟩ = some (.slice A0_1 l0_1.length c0_1) := (blk_cell BK101.out 1).trans rfl
                      have hfz19_0 := blk_frozen BK101.out 0
                      have hfz19_1 := blk_frozen BK101.out 1
                      have p7 : 0 ≤ (x4_1 : Int) := of_decide_eq_true (by first | (with_reducible assumption) | assumption)
                      have q7 : x4_1 < (a0_0.size : Int) := of_decide_eq_true (by first | (with_reducible assumption) | assumption)
                      have hx7 := bt_at a0_0 x4_1
                      replace p7 := eq_true p7
                      replace q7 := eq_true q7
                      have p13 : 0 ≤ (x4_1 : Int) := of_decide_eq_true (by first | (with_reducible assumption) | assumption)
                      have q13 : x4_1 < (a0_0.size : Int) := of_decide_eq_true (by first | (with_reducible assumption) | assumption)
                      have hx13 := bt_at a0_0 x4_1
                      replace p13 := eq_true p13
                      replace q13 := eq_true q13
                      have p16 : 0 ≤ (x4_1 : Int) := of_decide_eq_true (by first | (with_reducible assumption) | assumption)
                      have q16 : x4_1 < (a0_0.size : Int) := of_decide_eq_true (by first | (with_reducible assumption) | assumption)
                      have hx16 := bt_at a0_0 x4_1
                      replace p16 := eq_true p16
                      replace q16 := eq_true q16
                      go_wp2
                      go_roundg k1
                      case measure => have := HK1.out; omega
                      case rel => exact ⟨(wrap64 (x4_1 + 1)), (by first | rfl | (simp; done) | (simp [*]; done)), H', ⟨by have := HK1.out; omega⟩, ⟨by (with_reducible repeat (first | refine blk_drewN ?_ _ | refine blk_drew ?_ | refine blk_alloc ?_ _)); exact BK101.out⟩, ⟨by repeat (first | (with_reducible first | exact HB.out | apply below_alloc | apply pw_below_drewN | apply below_drew1 | refine below_set ?_ GE101.out) | exact HB.out)⟩⟩
            · rw [if_neg c8] at H
              have c8b0 : ((bt a0_0 x4_1) == 46) = false := beq_eq_false_iff_ne.mpr c8
              have c8b1 : ((bt a0_0 x4_1) != 46) = true := bne_iff_ne.mpr c8
              by_cases c21 : (bt a0_0 x4_1) < 97
              · rw [if_pos c21] at H
                have c21b0 : decide ((bt a0_0 x4_1) < 97) = true := decide_eq_true c21
                clear c21
                obtain rfl := Option.some.inj H
                have hcz22_0 : wr.cell? ⟨gb101, 0, none⟩ = some (.string a0_0) := (blk_cell BK101.out 0).trans rfl
                have hcz22_1 : wr.cell? ⟨gb101, 1, none⟩ = some (.slice A0_1 l0_1.length c0_1) := (blk_cell BK101.out 1).trans rfl
                have hfz22_0 := blk_frozen BK101.out 0
                have hfz22_1 := blk_frozen BK101.out 1
                have p7 : 0 ≤ (x4_1 : Int) := of_decide_eq_true (by first | (with_reducible assumption) | assumption)
                have q7 : x4_1 < (a0_0.size : Int) := of_decide_eq_true (by first | (with_reducible assumption) | assumption)
                have hx7 := bt_at a0_0 x4_1
                replace p7 := eq_true p7
                replace q7 := eq_true q7
                have p20 : 0 ≤ (x4_1 : Int) := of_decide_eq_true (by first | (with_reducible assumption) | assumption)
                have q20 : x4_1 < (a0_0.size : Int) := of_decide_eq_true (by first | (with_reducible assumption) | assumption)
                have hx20 := bt_at a0_0 x4_1
                replace p20 := eq_true p20
                replace q20 := eq_true q20
                go_wp2
                go_ret
                exact ⟨by first | rfl | (simp [errW_none, errW_some] <;> rfl) | (simp [*, errW_none, errW_some] <;> rfl), by repeat (first | (with_reducible first | exact HB.out | apply below_alloc | apply pw_below_drewN | apply below_drew1 | refine below_set ?_ GE101.out) | exact HB.out)⟩
              · rw [if_neg c21] at H
                have c21b0 : decide ((bt a0_0 x4_1) < 97) = false := decide_eq_false c21
                clear c21
                by_cases c24 : (bt a0_0 x4_1) > 122
                · rw [if_pos c24] at H
                  have c24b0 : decide (122 < (bt a0_0 x4_1)) = true := decide_eq_true c24
                  clear c24
                  obtain rfl := Option.some.inj H
                  have hcz25_0 : wr.cell? ⟨gb101, 0, none⟩ = some (.string a0_0) := (blk_cell BK101.out 0).trans rfl
                  have hcz25_1 : wr.cell? ⟨gb101, 1, none⟩ = some (.slice A0_1 l0_1.length c0_1) := (blk_cell BK101.out 1).trans rfl
                  have hfz25_0 := blk_frozen BK101.out 0
                  have hfz25_1 := blk_frozen BK101.out 1
                  have p7 : 0 ≤ (x4_1 : Int) := of_decide_eq_true (by first | (with_reducible assumption) | assumption)
                  have q7 : x4_1 < (a0_0.size : Int) := of_decide_eq_true (by first | (with_reducible assumption) | assumption)
                  have hx7 := bt_at a0_0 x4_1
                  replace p7 := eq_true p7
                  replace q7 := eq_true q7
                  have p20 : 0 ≤ (x4_1 : Int) := of_decide_eq_true (by first | (with_reducible assumption) | assumption)
                  have q20 : x4_1 < (a0_0.size : Int) := of_decide_eq_true (by first | (with_reducible assumption) | assumption)
                  have hx20 := bt_at a0_0 x4_1
                  replace p20 := eq_true p20
                  replace q20 := eq_true q20
                  have p23 : 0 ≤ (x4_1 : Int) := of_decide_eq_true (by first | (with_reducible assumption) | assumption)
                  have q23 : x4_1 < (a0_0.size : Int) := of_decide_eq_true (by first | (with_reducible assumption) | assumption)
                  have hx23 := bt_at a0_0 x4_1
                  replace p23 := eq_true p23
                  replace q23 := eq_true q23
                  go_wp2
                  go_ret
                  exact ⟨by first | rfl | (simp [errW_none, errW_some] <;> rfl) | (simp [*, errW_none, errW_some] <;> rfl), by repeat (first | (with_reducible first | exact HB.out | apply below_alloc | apply pw_below_drewN | apply below_drew1 | refine below_set ?_ GE101.out) | exact HB.out)⟩
                · rw [if_neg c24] at H
                  have c24b0 : decide (122 < (bt a0_0 x4_1)) = false := decide_eq_false c24
                  clear c24
                  have H' := Aside0.mk H
                  clear H
                  have hcz26_0 : wr.cell? ⟨gb101, 0, none⟩ = some (.string a0_0) := (blk_cell BK101.out 0).trans rfl
                  have hcz26_1 : wr.cell? ⟨gb101, 1, none⟩ = some (.slice A0_1 l0_1.length c0_1) := (blk_cell BK101.out 1).trans rfl
                  have hfz26_0 := blk_frozen BK101.out 0
                  have hfz26_1 := blk_frozen BK101.out 1
                  have p7 : 0 ≤ (x4_1 : Int) := of_decide_eq_true (by first | (with_reducible assumption) | assumption)
                  have q7 : x4_1 < (a0_0.size : Int) := of_decide_eq_true (by first | (with_reducible assumption) | assumption)
                  have hx7 := bt_at a0_0 x4_1
                  replace p7 := eq_true p7
                  replace q7 := eq_true q7
                  have p20 : 0 ≤ (x4_1 : Int) := of_decide_eq_true (by first | (with_reducible assumption) | assumption)
                  have q20 : x4_1 < (a0_0.size : Int) := of_decide_eq_true (by first | (with_reducible assumption) | assumption)
                  have hx20 := bt_at a0_0 x4_1
                  replace p20 := eq_true p20
                  replace q20 := eq_true q20
                  have p23 : 0 ≤ (x4_1 : Int) := of_decide_eq_true (by first | (with_reducible assumption) | assumption)
                  have q23 : x4_1 < (a0_0.size : Int) := of_decide_eq_true (by first | (with_reducible assumption) | assumption)
                  have hx23 := bt_at a0_0 x4_1
                  replace p23 := eq_true p23
                  replace q23 := eq_true q23
                  go_wp2
                  go_roundg k1
                  case measure => have := HK1.out; omega
                  case rel => exact ⟨(wrap64 (x4_1 + 1)), (by first | rfl | (simp; done) | (simp [*]; done)), H', ⟨by have := HK1.out; omega⟩, ⟨by (with_reducible repeat (first | refine blk_drewN ?_ _ | refine blk_drew ?_ | refine blk_alloc ?_ _)); exact BK101.out⟩, ⟨by repeat (first | (with_reducible first | exact HB.out | apply below_alloc | apply pw_below_drewN | apply below_drew1 | refine below_set ?_ GE101.out) | exact HB.out)⟩⟩
          · rw [if_neg c6] at H
            exact absurd H (by simp)
        · rw [if_neg c5] at H
          exact absurd H (by simp)
      · rw [if_neg c4] at H
        have c4b0 : decide (x4_1 < (a0_0.size : Int)) = false := decide_eq_false c4
        clear c4
        have H' := Aside0.mk H
        clear H
        go_wp2
        go_loopg [6] k1 (fun kq v6 w' => ∃ (x6_2 : Int), v6 = .int .i64 x6_2 ∧ Aside0 (spec_PatternOk.l1 kq (a0_0.size : Int) x6_2 a0_0 l0_1 = some r) ∧ Aside0 (kq ≤ k1) ∧ Aside0 (w'.heap[gb101]? = some (.cells #[.string a0_0, (.slice A0_1 l0_1.length c0_1)] 27 (0, 0))) ∧ Aside0 (Below w.heap.size w w'))
        case atStart => exact ⟨(0), (by first | rfl | (simp; done) | (simp [*]; done)), H', ⟨Nat.le_refl _⟩, ⟨by (with_reducible repeat (first | refine blk_drewN ?_ _ | refine blk_drew ?_ | refine blk_alloc ?_ _)); exact BK101.out⟩, ⟨by repeat (first | (with_reducible first | exact HB.out | apply below_alloc | apply pw_below_drewN | apply below_drew1 | refine below_set ?_ GE101.out) | exact HB.out)⟩⟩
        case round =>
          clear H'
          try clear c1
          try clear p1
          try clear q1
          try clear hx1
          try clear c2
          try clear p2
          try clear q2
          try clear hx2
          try clear c4
          try clear c4b0
          try clear c5
          try clear c5b0
          try clear c6
          try clear c6b0
          try clear p6
          try clear p7
          try clear q7
          try clear hx7
          try clear c8
          try clear c8b0
          try clear c8b1
          try clear c9
          try clear c9b0
          try clear c9b1
          try clear c11
          try clear c11b0
          try clear c11b1
          try clear p13
          try clear q13
          try clear hx13
          try clear c14
          try clear c14b0
          try clear p16
          try clear q16
          try clear hx16
          try clear c17
          try clear c17b0
          try clear p20
          try clear q20
          try clear hx20
          try clear c21
          try clear c21b0
          try clear p23
          try clear q23
          try clear hx23
          try clear c24
          try clear c24b0
          try clear hcz10_0
          try clear hcz10_1
          try clear hcz12_0
          try clear hcz12_1
          try clear hcz15_0
          try clear hcz15_1
          try clear hcz18_0
          try clear hcz18_1
          try clear hcz19_0
          try clear hcz19_1
          try clear hcz22_0
          try clear hcz22_1
          try clear hcz25_0
          try clear hcz25_1
          try clear hcz26_0
          try clear hcz26_1
          try clear hcz3_0
          try clear hcz3_1
          try clear hfz10_0
          try clear hfz10_1
          try clear hfz12_0
          try clear hfz12_1
          try clear hfz15_0
          try clear hfz15_1
          try clear hfz18_0
          try clear hfz18_1
          try clear hfz19_0
          try clear hfz19_1
          try clear hfz22_0
          try clear hfz22_1
          try clear hfz25_0
          try clear hfz25_1
          try clear hfz26_0
          try clear hfz26_1
          try clear hfz3_0
          try clear hfz3_1
          try clear p13
          try clear p16
          try clear p2
          try clear p20
          try clear p23
          try clear p7
          try clear q13
          try clear q16
          try clear q20
          try clear q23
          try clear q7
          obtain ⟨x6_2, rfl, HA, HK2, BK101, HB⟩ := hrel
          cases gk with
          | zero => exact absurd HA.out (by simp [spec_PatternOk.l1])
          | succ k2 =>
            have H := HA.out
            clear HA
            simp only [spec_PatternOk.l1] at H
            by_cases c27 : x6_2 < (l0_1.length : Int)
            · rw [if_pos c27] at H
              have c27b0 : decide (x6_2 < (l0_1.length : Int)) = true := decide_eq_true c27
              clear c27
              by_cases c28 : 0 ≤ x6_2
              · rw [if_pos c28] at H
                have c28b0 : decide (0 ≤ x6_2) = true := decide_eq_true c28
                clear c28
                replace H := Option.bind_eq_some_iff.mp H
                obtain ⟨t103, A290, H⟩ := H
                replace H : (if t103 = true then (spec_PatternOk.l1 k2 (a0_0.size : Int) (wrap64 (x6_2 + 1)) a0_0 l0_1) else (some false)) = some r := H
                have A29 := Aside0.mk A290
                clear A290
                by_cases c30 : t103 = true
                · subst c30
                  have H1 : (spec_PatternOk.l1 k2 (a0_0.size : Int) (wrap64 (x6_2 + 1)) a0_0 l0_1) = some r := by rw [if_pos rfl] at H; exact H
                  clear H
                  have H := H1
                  clear H1
                  have H' := Aside0.mk H
                  clear H
                  have hcz31_0 : wr.cell? ⟨gb101, 0, none⟩ = some (.string a0_0) := (blk_cell BK101.out 0).trans rfl
                  have hcz31_1 : wr.cell? ⟨gb101, 1, none⟩ = some (.slice A0_1 l0_1.length c0_1) := (blk_cell BK101.out 1).trans rfl
                  have hfz31_0 := blk_frozen BK101.out 0
                  have hfz31_1 := blk_frozen BK101.out 1
                  have p102 : 0 ≤ (x6_2 : Int) := of_decide_eq_true (by first | (with_reducible assumption) | assumption)
                  have q102 : x6_2 < (l0_1.length : Int) := of_decide_eq_true (by first | (with_reducible assumption) | assumption)
                  obtain ⟨ad102, e102, hx102_0⟩ := Kd.at_int HR0_1.out x6_2 p102 q102
                  cases e102
                  replace hx102_0 := (HB.out.cell (World.block_lt_of_cell? w _ hx102_0)).trans hx102_0
                  replace p102 := eq_true p102
                  replace q102 := eq_true q102
                  go_wp2_with (first | ((with_reducible refine gate_callee (f := 46) rfl ?_); refine goesL_ (some 58) rfl rfl Try.func46 (by kernel_rfl) rfl #[.int .i64 (rd l0_1 x6_2), .int .i64 0, .int .i64 9] rfl (by (try simp only [List.map_toArray, List.map_cons, List.map_nil]); first | done | rfl | (simp only [List.length_drop, List.length_take]; rfl)) ?_; (with_reducible refine (spec_l1In.calls (rd l0_1 x6_2) 0 9 true _ A29.out).mono ?_); rintro e w' ⟨rfl, ⟨nd, rfl⟩⟩; refine ⟨_, rfl, ?_⟩))
                  go_roundg k2
                  case measure => have := HK1.out; have := HK2.out; omega
                  case rel => exact ⟨(wrap64 (x6_2 + 1)), (by first | rfl | (simp; done) | (simp [*]; done)), H', ⟨by have := HK1.out; have := HK2.out; omega⟩, ⟨by (with_reducible repeat (first | refine blk_drewN ?_ _ | refine blk_drew ?_ | refine blk_alloc ?_ _)); exact BK101.out⟩, ⟨by repeat (first | (with_reducible first | exact HB.out | apply below_alloc | apply pw_below_drewN | apply below_drew1 | refine below_set ?_ GE101.out) | exact HB.out)⟩⟩
                · replace c30 := Bool.eq_false_iff.mpr c30
                  subst c30
                  have H1 : (some false) = some r := by rw [if_neg (show ¬ (false = true) by decide)] at H; exact H
                  clear H
                  have H := H1
                  clear H1
                  obtain rfl := Option.some.inj H
                  have hcz32_0 : wr.cell? ⟨gb101, 0, none⟩ = some (.string a0_0) := (blk_cell BK101.out 0).trans rfl
                  have hcz32_1 : wr.cell? ⟨gb101, 1, none⟩ = some (.slice A0_1 l0_1.length c0_1) := (blk_cell BK101.out 1).trans rfl
                  have hfz32_0 := blk_frozen BK101.out 0
                  have hfz32_1 := blk_frozen BK101.out 1
                  have p102 : 0 ≤ (x6_2 : Int) := of_decide_eq_true (by first | (with_reducible assumption) | assumption)
                  have q102 : x6_2 < (l0_1.length : Int) := of_decide_eq_true (by first | (with_reducible assumption) | assumption)
                  obtain ⟨ad102, e102, hx102_0⟩ := Kd.at_int HR0_1.out x6_2 p102 q102
                  cases e102
                  replace hx102_0 := (HB.out.cell (World.block_lt_of_cell? w _ hx102_0)).trans hx102_0
                  replace p102 := eq_true p102
                  replace q102 := eq_true q102
                  go_wp2_with (first | ((with_reducible refine gate_callee (f := 46) rfl ?_); refine goesL_ (some 58) rfl rfl Try.func46 (by kernel_rfl) rfl #[.int .i64 (rd l0_1 x6_2), .int .i64 0, .int .i64 9] rfl (by (try simp only [List.map_toArray, List.map_cons, List.map_nil]); first | done | rfl | (simp only [List.length_drop, List.length_take]; rfl)) ?_; (with_reducible refine (spec_l1In.calls (rd l0_1 x6_2) 0 9 false _ A29.out).mono ?_); rintro e w' ⟨rfl, ⟨nd, rfl⟩⟩; refine ⟨_, rfl, ?_⟩))
                  go_ret
                  exact ⟨by first | rfl | (simp [errW_none, errW_some] <;> rfl) | (simp [*, errW_none, errW_some] <;> rfl), by repeat (first | (with_reducible first | exact HB.out | apply below_alloc | apply pw_below_drewN | apply below_drew1 | refine below_set ?_ GE101.out) | exact HB.out)⟩
              · rw [if_neg c28] at H
                exact absurd H (by simp)
            · rw [if_neg c27] at H
              have c27b0 : decide (x6_2 < (l0_1.length : Int)) = false := decide_eq_false c27
              clear c27
              replace H := Option.bind_eq_some_iff.mp H
              obtain ⟨t104, A330, H⟩ := H
              replace H : (if t104 = true then (some ((l0_1.length : Int) == (wrap64 ((a0_0.size : Int) + 1)))) else (some false)) = some r := H
              have A33 := Aside0.mk A330
              clear A330
              by_cases c34 : t104 = true
              · subst c34
                have H1 : (some ((l0_1.length : Int) == (wrap64 ((a0_0.size : Int) + 1)))) = some r := by rw [if_pos rfl] at H; exact H
                clear H
                have H := H1
                clear H1
                obtain rfl := Option.some.inj H
                have hcz35_0 : wr.cell? ⟨gb101, 0, none⟩ = some (.string a0_0) := (blk_cell BK101.out 0).trans rfl
                have hcz35_1 : wr.cell? ⟨gb101, 1, none⟩ = some (.slice A0_1 l0_1.length c0_1) := (blk_cell BK101.out 1).trans rfl
                have hfz35_0 := blk_frozen BK101.out 0
                have hfz35_1 := blk_frozen BK101.out 1
                go_wp2_with (first | ((with_reducible refine gate_callee (f := 46) rfl ?_); refine goesL_ (some 61) rfl rfl Try.func46 (by kernel_rfl) rfl #[.int .i64 (a0_0.size : Int), .int .i64 1, .int .i64 8] rfl (by (try simp only [List.map_toArray, List.map_cons, List.map_nil]); first | done | rfl | (simp only [List.length_drop, List.length_take]; rfl)) ?_; (with_reducible refine (spec_l1In.calls (a0_0.size : Int) 1 8 true _ A33.out).mono ?_); rintro e w' ⟨rfl, ⟨nd, rfl⟩⟩; refine ⟨_, rfl, ?_⟩))
                go_ret
                exact ⟨by first | rfl | (simp [errW_none, errW_some] <;> rfl) | (simp [*, errW_none, errW_some] <;> rfl), by repeat (first | (with_reducible first | exact HB.out | apply below_alloc | apply pw_below_drewN | apply below_drew1 | refine below_set ?_ GE101.out) | exact HB.out)⟩
              · replace c34 := Bool.eq_false_iff.mpr c34
                subst c34
                have H1 : (some false) = some r := by rw [if_neg (show ¬ (false = true) by decide)] at H; exact H
                clear H
                have H := H1
                clear H1
                obtain rfl := Option.some.inj H
                have hcz36_0 : wr.cell? ⟨gb101, 0, none⟩ = some (.string a0_0) := (blk_cell BK101.out 0).trans rfl
                have hcz36_1 : wr.cell? ⟨gb101, 1, none⟩ = some (.slice A0_1 l0_1.length c0_1) := (blk_cell BK101.out 1).trans rfl
                have hfz36_0 := blk_frozen BK101.out 0
                have hfz36_1 := blk_frozen BK101.out 1
                go_wp2_with (first | ((with_reducible refine gate_callee (f := 46) rfl ?_); refine goesL_ (some 61) rfl rfl Try.func46 (by kernel_rfl) rfl #[.int .i64 (a0_0.size : Int), .int .i64 1, .int .i64 8] rfl (by (try simp only [List.map_toArray, List.map_cons, List.map_nil]); first | done | rfl | (simp only [List.length_drop, List.length_take]; rfl)) ?_; (with_reducible refine (spec_l1In.calls (a0_0.size : Int) 1 8 false _ A33.out).mono ?_); rintro e w' ⟨rfl, ⟨nd, rfl⟩⟩; refine ⟨_, rfl, ?_⟩))
                go_ret
                exact ⟨by first | rfl | (simp [errW_none, errW_some] <;> rfl) | (simp [*, errW_none, errW_some] <;> rfl), by repeat (first | (with_reducible first | exact HB.out | apply below_alloc | apply pw_below_drewN | apply below_drew1 | refine below_set ?_ GE101.out) | exact HB.out)⟩
end Go.Proofs.Ytndjhgjakdkkaaa.M
end

section
-- Printed for this claim by a program (mprint.py) that uses the kit's print; Lean checks it.
namespace Go.Proofs.Ytndjhgjakdkkaaa.M
open Go.RowKit Go.Proofs.YtndjhgjakdkkaaaW.PrintWords Go.Proofs.YtndjhgjakdkkaaaW.PrintLast Go.Proofs.YtndjhgjakdkkaaaW.PrintMore
attribute [local go_sem] max2_int min2_int max_two min_two max_three min_three max_four min_four   -- for this text's walks alone
set_option linter.unusedVariables false
set_option linter.unusedSimpArgs false
def spec_l9Patterns.l0 : Nat → List (S27) → Int → Option (Bool)
  | 0, _, _ => none
  | k + 1, x0, x3 => if x3 < (x0.length : Int) then (if 0 ≤ x3 then ((spec_PatternOk.f k ((rd_T27 x0 x3).f0) ((rd_T27 x0 x3).f1)).bind fun t102 => (if t102 = true then (spec_l9Patterns.l0 k x0 (wrap64 (x3 + 1))) else (some false))) else (none)) else (some (decide ((x0.length : Int) ≤ 20)))
def spec_l9Patterns.f (k : Nat) (l0 : List (S27)) : Option (Bool) := spec_l9Patterns.l0 k l0 0
theorem spec_l9Patterns.mono_l : ∀ k, (∀ y0 y1, LeO (spec_l9Patterns.l0 k y0 y1) (spec_l9Patterns.l0 (k + 1) y0 y1))
  | 0 => fun _ _ r h => by simp [spec_l9Patterns.l0] at h
  | k + 1 => by
    have ih0 := spec_l9Patterns.mono_l k
    · intro y0 y1
      unfold spec_l9Patterns.l0
      repeat' first
      | (with_reducible exact ih0 _ _)
      | (with_reducible exact spec_PatternOk.mono _ _ _)
      | (with_reducible exact LeO.refl _)
      | (with_reducible exact LeO.none _)
      | (with_reducible refine LeO.ite ?_ ?_)
      | (with_reducible refine LeO.bind ?_ (fun _ => ?_))
      | exact ih0 _ _
      | exact spec_PatternOk.mono _ _ _
      | exact LeO.none _
      | refine LeO.ite ?_ ?_
      | refine LeO.bind ?_ (fun _ => ?_)
theorem spec_l9Patterns.mono : ∀ a0 k, LeO (spec_l9Patterns.f k a0) (spec_l9Patterns.f (k + 1) a0) := by
  intro a0 k
  have ih0 := spec_l9Patterns.mono_l k
  unfold spec_l9Patterns.f
  repeat' first
      | (with_reducible exact ih0 _ _)
      | (with_reducible exact spec_PatternOk.mono _ _ _)
      | (with_reducible exact LeO.refl _)
      | (with_reducible exact LeO.none _)
      | (with_reducible refine LeO.ite ?_ ?_)
      | (with_reducible refine LeO.bind ?_ (fun _ => ?_))
      | exact ih0 _ _
      | exact spec_PatternOk.mono _ _ _
      | exact LeO.none _
      | refine LeO.ite ?_ ?_
      | refine LeO.bind ?_ (fun _ => ?_)
set_option maxHeartbeats 8000000 in
set_option maxRecDepth 100000 in
theorem spec_l9Patterns.calls (k : Nat) (A0 : Option Addr) (c0 : Nat) (l0 : List (S27)) (r : Bool) (w : World) (hr0 : Kd.C k27 w A0 l0.length l0) (hc0 : l0.length ≤ c0) (h : spec_l9Patterns.f k l0 = some r) :
    Calls Try.prog 56 #[.slice A0 l0.length c0] w fun e w' => e = .returned (.bool r) ∧ Below w.heap.size w w' := by
  have hu27 := Try.underlying27
  have HR0 := Aside0.mk hr0
  have HC0 := Aside0.mk hc0
  clear hr0 hc0
  have HB := Aside0.mk (Below.refl w.heap.size w)
  have H : (spec_l9Patterns.l0 k l0 0) = some r := h
  clear h
  have H' := Aside0.mk H
  clear H
  go_enter Try.func56, Try.ntmps56
  go_wp2
  go_loopg [3] k (fun kq v3 w' => ∃ (x3_1 : Int), v3 = .int .i64 x3_1 ∧ Aside0 (spec_l9Patterns.l0 kq l0 x3_1 = some r) ∧ Aside0 (kq ≤ k) ∧ Aside0 (Below w.heap.size w w'))
  case atStart => exact ⟨(0), (by first | rfl | (simp; done) | (simp [*]; done)), H', ⟨Nat.le_refl _⟩, ⟨by repeat (first | (with_reducible first | exact HB.out | apply below_alloc | apply pw_below_drewN | apply below_drew1) | exact HB.out)⟩⟩
  case round =>
    clear H'
    obtain ⟨x3_1, rfl, HA, HK1, HB⟩ := hrel
    cases gk with
    | zero => exact absurd HA.out (by simp [spec_l9Patterns.l0])
    | succ k1 =>
      have H := HA.out
      clear HA
      simp only [spec_l9Patterns.l0] at H
      by_cases c2 : x3_1 < (l0.length : Int)
      · rw [if_pos c2] at H
        have c2b0 : decide (x3_1 < (l0.length : Int)) = true := decide_eq_true c2
        clear c2
        by_cases c3 : 0 ≤ x3_1
        · rw [if_pos c3] at H
          have c3b0 : decide (0 ≤ x3_1) = true := decide_eq_true c3
          clear c3
          replace H := Option.bind_eq_some_iff.mp H
          obtain ⟨t102, A40, H⟩ := H
          replace H : (if t102 = true then (spec_l9Patterns.l0 k1 l0 (wrap64 (x3_1 + 1))) else (some false)) = some r := H
          have A4 := Aside0.mk A40
          clear A40
          by_cases c5 : t102 = true
          · subst c5
            have H1 : (spec_l9Patterns.l0 k1 l0 (wrap64 (x3_1 + 1))) = some r := by rw [if_pos rfl] at H; exact H
            clear H
            have H := H1
            clear H1
            have H' := Aside0.mk H
            clear H
            have p101 : 0 ≤ (x3_1 : Int) := of_decide_eq_true (by first | (with_reducible assumption) | assumption)
            have q101 : x3_1 < (l0.length : Int) := of_decide_eq_true (by first | (with_reducible assumption) | assumption)
            obtain ⟨ad101, A101_1, c101_1, e101, hx101_0, hx101_1, hl101_1, hi101_1⟩ := at_T27 HR0.out x3_1 p101 q101
            cases e101
            replace hx101_0 := (HB.out.cell (World.block_lt_of_cell? w _ hx101_0)).trans hx101_0
            replace hx101_1 := (HB.out.cell (World.block_lt_of_cell? w _ hx101_1)).trans hx101_1
            have HR101_1 := Aside0.mk hi101_1
            have HC101_1 := Aside0.mk hl101_1
            clear hi101_1 hl101_1
            replace p101 := eq_true p101
            replace q101 := eq_true q101
            go_wp2_with (first | ((with_reducible refine gate_callee (f := 11) rfl ?_); refine goesL_ (some 14) rfl rfl Try.func11 (by kernel_rfl) rfl #[.agg #[.string ((rd_T27 l0 x3_1).f0), .slice A101_1 ((rd_T27 l0 x3_1).f1).length c101_1]] rfl (by (try simp only [List.map_toArray, List.map_cons, List.map_nil]); first | done | rfl | (simp only [List.length_drop, List.length_take]; rfl)) ?_; (with_reducible refine (spec_PatternOk.calls k1 ((rd_T27 l0 x3_1).f0) _ _ ((rd_T27 l0 x3_1).f1) true _ ?side1 ?side2 A4.out).mono ?_); (case side1 => repeat (first | exact (Kd.C_below HR101_1.out HB.out) | (with_reducible refine Kd.C_alloc ?_ _) | (with_reducible refine Kd.C_drewN ?_ _) | (with_reducible refine Kd.C_drew ?_))); (case side2 => exact HC101_1.out); rintro e w6 ⟨rfl, hb⟩; refine ⟨_, rfl, ?_⟩; have n0_ := Aside0.mk (below_step (by repeat (first | (with_reducible first | exact HB.out | apply below_alloc | apply pw_below_drewN | apply below_drew1) | exact HB.out)) hb); clear HB; have HB := n0_; clear n0_; (try clear hb); (try clear hb2); (try clear hk); (try clear hi)))
            go_roundg k1
            case measure => have := HK1.out; omega
            case rel => exact ⟨(wrap64 (x3_1 + 1)), (by first | rfl | (simp; done) | (simp [*]; done)), H', ⟨by have := HK1.out; omega⟩, ⟨by repeat (first | (with_reducible first | exact HB.out | apply below_alloc | apply pw_below_drewN | apply below_drew1) | exact HB.out)⟩⟩
          · replace c5 := Bool.eq_false_iff.mpr c5
            subst c5
            have H1 : (some false) = some r := by rw [if_neg (show ¬ (false = true) by decide)] at H; exact H
            clear H
            have H := H1
            clear H1
            obtain rfl := Option.some.inj H
            have p101 : 0 ≤ (x3_1 : Int) := of_decide_eq_true (by first | (with_reducible assumption) | assumption)
            have q101 : x3_1 < (l0.length : Int) := of_decide_eq_true (by first | (with_reducible assumption) | assumption)
            obtain ⟨ad101, A101_1, c101_1, e101, hx101_0, hx101_1, hl101_1, hi101_1⟩ := at_T27 HR0.out x3_1 p101 q101
            cases e101
            replace hx101_0 := (HB.out.cell (World.block_lt_of_cell? w _ hx101_0)).trans hx101_0
            replace hx101_1 := (HB.out.cell (World.block_lt_of_cell? w _ hx101_1)).trans hx101_1
            have HR101_1 := Aside0.mk hi101_1
            have HC101_1 := Aside0.mk hl101_1
            clear hi101_1 hl101_1
            replace p101 := eq_true p101
            replace q101 := eq_true q101
            go_wp2_with (first | ((with_reducible refine gate_callee (f := 11) rfl ?_); refine goesL_ (some 14) rfl rfl Try.func11 (by kernel_rfl) rfl #[.agg #[.string ((rd_T27 l0 x3_1).f0), .slice A101_1 ((rd_T27 l0 x3_1).f1).length c101_1]] rfl (by (try simp only [List.map_toArray, List.map_cons, List.map_nil]); first | done | rfl | (simp only [List.length_drop, List.length_take]; rfl)) ?_; (with_reducible refine (spec_PatternOk.calls k1 ((rd_T27 l0 x3_1).f0) _ _ ((rd_T27 l0 x3_1).f1) false _ ?side1 ?side2 A4.out).mono ?_); (case side1 => repeat (first | exact (Kd.C_below HR101_1.out HB.out) | (with_reducible refine Kd.C_alloc ?_ _) | (with_reducible refine Kd.C_drewN ?_ _) | (with_reducible refine Kd.C_drew ?_))); (case side2 => exact HC101_1.out); rintro e w7 ⟨rfl, hb⟩; refine ⟨_, rfl, ?_⟩; have n0_ := Aside0.mk (below_step (by repeat (first | (with_reducible first | exact HB.out | apply below_alloc | apply pw_below_drewN | apply below_drew1) | exact HB.out)) hb); clear HB; have HB := n0_; clear n0_; (try clear hb); (try clear hb2); (try clear hk); (try clear hi)))
            go_ret
            exact ⟨by first | rfl | (simp [errW_none, errW_some] <;> rfl) | (simp [*, errW_none, errW_some] <;> rfl), by repeat (first | (with_reducible first | exact HB.out | apply below_alloc | apply pw_below_drewN | apply below_drew1) | exact HB.out)⟩
        · rw [if_neg c3] at H
          exact absurd H (by simp)
      · rw [if_neg c2] at H
        have c2b0 : decide (x3_1 < (l0.length : Int)) = false := decide_eq_false c2
        clear c2
        obtain rfl := Option.some.inj H
        go_wp2
        go_ret
        exact ⟨by first | rfl | (simp [errW_none, errW_some] <;> rfl) | (simp [*, errW_none, errW_some] <;> rfl), by repeat (first | (with_reducible first | exact HB.out | apply below_alloc | apply pw_below_drewN | apply below_drew1) | exact HB.out)⟩
end Go.Proofs.Ytndjhgjakdkkaaa.M
end

section
-- Printed for this claim by a program (mprint.py) that uses the kit's print; Lean checks it.
namespace Go.Proofs.Ytndjhgjakdkkaaa.M
open Go.RowKit Go.Proofs.YtndjhgjakdkkaaaW.PrintWords Go.Proofs.YtndjhgjakdkkaaaW.PrintLast Go.Proofs.YtndjhgjakdkkaaaW.PrintMore
attribute [local go_sem] max2_int min2_int max_two min_two max_three min_three max_four min_four   -- for this text's walks alone
set_option linter.unusedVariables false
set_option linter.unusedSimpArgs false
def spec_SplitAt.f (k : Nat) (l0 : List (S27)) (a1 : ByteArray) : Option (List Int) := (spec_l9Patterns.f k l0).bind fun t101 => (if t101 = true then ((spec_l1Word.f k a1).bind fun t102 => (if t102 = true then ((spec_l9At.f k l0 a1).bind fun t103 => (some t103)) else (some (([] : List Int))))) else (some (([] : List Int))))
theorem spec_SplitAt.mono : ∀ a0 a1 k, LeO (spec_SplitAt.f k a0 a1) (spec_SplitAt.f (k + 1) a0 a1) := by
  intro a0 a1 k
  unfold spec_SplitAt.f
  repeat' first
      | (with_reducible exact spec_l1Word.mono _ _)
      | (with_reducible exact spec_l9At.mono _ _ _)
      | (with_reducible exact spec_l9Patterns.mono _ _)
      | (with_reducible exact LeO.refl _)
      | (with_reducible exact LeO.none _)
      | (with_reducible refine LeO.ite ?_ ?_)
      | (with_reducible refine LeO.bind ?_ (fun _ => ?_))
      | exact spec_l1Word.mono _ _
      | exact spec_l9At.mono _ _ _
      | exact spec_l9Patterns.mono _ _
      | exact LeO.none _
      | refine LeO.ite ?_ ?_
      | refine LeO.bind ?_ (fun _ => ?_)
set_option maxHeartbeats 8000000 in
set_option maxRecDepth 100000 in
theorem spec_SplitAt.calls (k : Nat) (A0 : Option Addr) (c0 : Nat) (l0 : List (S27)) (a1 : ByteArray) (r : List Int) (w : World) (hr0 : Kd.C k27 w A0 l0.length l0) (hc0 : l0.length ≤ c0) (h : spec_SplitAt.f k l0 a1 = some r) :
    Calls Try.prog 25 #[.slice A0 l0.length c0, .string a1] w fun e w' => ∃ v0_ : Value, e = .returned (v0_) ∧ Kd.R (Kd.int .i64) 3 w' w.heap.size (fun _ => True) v0_ r ∧ Below w.heap.size w w' := by
  have HR0 := Aside0.mk hr0
  have HC0 := Aside0.mk hc0
  clear hr0 hc0
  have HB := Aside0.mk (Below.refl w.heap.size w)
  have H : ((spec_l9Patterns.f k l0).bind fun t101 => (if t101 = true then ((spec_l1Word.f k a1).bind fun t102 => (if t102 = true then ((spec_l9At.f k l0 a1).bind fun t103 => (some t103)) else (some (([] : List Int))))) else (some (([] : List Int))))) = some r := h
  clear h
  replace H := Option.bind_eq_some_iff.mp H
  obtain ⟨t101, A30, H⟩ := H
  replace H : (if t101 = true then ((spec_l1Word.f k a1).bind fun t102 => (if t102 = true then ((spec_l9At.f k l0 a1).bind fun t103 => (some t103)) else (some (([] : List Int))))) else (some (([] : List Int)))) = some r := H
  have A3 := Aside0.mk A30
  clear A30
  by_cases c4 : t101 = true
  · subst c4
    have H1 : ((spec_l1Word.f k a1).bind fun t102 => (if t102 = true then ((spec_l9At.f k l0 a1).bind fun t103 => (some t103)) else (some (([] : List Int))))) = some r := by rw [if_pos rfl] at H; exact H
    clear H
    have H := H1
    clear H1
    replace H := Option.bind_eq_some_iff.mp H
    obtain ⟨t102, A50, H⟩ := H
    replace H : (if t102 = true then ((spec_l9At.f k l0 a1).bind fun t103 => (some t103)) else (some (([] : List Int)))) = some r := H
    have A5 := Aside0.mk A50
    clear A50
    by_cases c6 : t102 = true
    · subst c6
      have H1 : ((spec_l9At.f k l0 a1).bind fun t103 => (some t103)) = some r := by rw [if_pos rfl] at H; exact H
      clear H
      have H := H1
      clear H1
      replace H := Option.bind_eq_some_iff.mp H
      obtain ⟨t103, A70, H⟩ := H
      replace H : (some t103) = some r := H
      have A7 := Aside0.mk A70
      clear A70
      obtain rfl := Option.some.inj H
      go_enter Try.func25, Try.ntmps25
      go_wp2_with (first | ((with_reducible refine gate_callee (f := 56) rfl ?_); refine goesL_ (some 6) rfl rfl Try.func56 (by kernel_rfl) rfl #[.slice A0 l0.length c0] rfl (by (try simp only [List.map_toArray, List.map_cons, List.map_nil]); first | done | rfl | (simp only [List.length_drop, List.length_take]; rfl)) ?_; (with_reducible refine (spec_l9Patterns.calls k _ _ l0 true _ ?side1 ?side2 A3.out).mono ?_); (case side1 => repeat (first | exact HR0.out | (with_reducible refine Kd.C_alloc ?_ _) | (with_reducible refine Kd.C_drewN ?_ _) | (with_reducible refine Kd.C_drew ?_))); (case side2 => exact HC0.out); rintro e w8 ⟨rfl, hb⟩; refine ⟨_, rfl, ?_⟩; have n0_ := Aside0.mk (below_step (by repeat (first | (with_reducible first | exact HB.out | apply below_alloc | apply pw_below_drewN | apply below_drew1) | exact HB.out)) hb); clear HB; have HB := n0_; clear n0_; (try clear hb); (try clear hb2); (try clear hk); (try clear hi)) | (go_at_call 57; (with_reducible refine (spec_l1Word.calls k a1 true _ A5.out).mono ?_); rintro e w' ⟨rfl, ⟨nd, rfl⟩⟩) | ((with_reducible refine gate_callee (f := 58) rfl ?_); refine goesL_ (some 16) rfl rfl Try.func58 (by kernel_rfl) rfl #[.slice A0 l0.length c0, .string a1] rfl (by (try simp only [List.map_toArray, List.map_cons, List.map_nil]); first | done | rfl | (simp only [List.length_drop, List.length_take]; rfl)) ?_; (with_reducible refine (spec_l9At.calls k _ _ l0 a1 t103 _ ?side1 ?side2 A7.out).mono ?_); (case side1 => repeat (first | exact (Kd.C_below HR0.out (by repeat (first | (with_reducible first | exact HB.out | apply below_alloc | apply pw_below_drewN | apply below_drew1) | exact HB.out))) | (with_reducible refine Kd.C_alloc ?_ _) | (with_reducible refine Kd.C_drewN ?_ _) | (with_reducible refine Kd.C_drew ?_))); (case side2 => exact HC0.out); rintro e w9 ⟨v104, rfl, ho0, hb⟩; refine ⟨_, rfl, ?_⟩; have n0_ := Aside0.mk (Kd.R_lower ho0 (below_size (by repeat (first | (with_reducible first | exact HB.out | apply below_alloc | apply pw_below_drewN | apply below_drew1) | exact HB.out)))); have n1_ := Aside0.mk (below_step (by repeat (first | (with_reducible first | exact HB.out | apply below_alloc | apply pw_below_drewN | apply below_drew1) | exact HB.out)) hb); clear HB; have HO105 := n0_; have HB := n1_; clear n0_ n1_; (try clear hb); (try clear hb2); (try clear hk); (try clear hi); (try clear ho0)))
      go_ret
      exact ⟨_, by first | rfl | (simp [errW_none, errW_some] <;> rfl) | (simp [*, errW_none, errW_some] <;> rfl), by (with_reducible repeat (first | apply Kd.R_alloc | apply Kd.R_drewN | apply Kd.R_drew)); exact HO105.out, by repeat (first | (with_reducible first | exact HB.out | apply below_alloc | apply pw_below_drewN | apply below_drew1) | exact HB.out)⟩
    · replace c6 := Bool.eq_false_iff.mpr c6
      subst c6
      have H1 : (some (([] : List Int))) = some r := by rw [if_neg (show ¬ (false = true) by decide)] at H; exact H
      clear H
      have H := H1
      clear H1
      obtain ⟨y106, hy106⟩ : ∃ y_ : List Int, y_ = (([] : List Int)) := ⟨_, rfl⟩
      replace H : (some y106) = some r := by first | (rw [hy106]; with_reducible exact H) | (have H2_ := (Option.bind_some _ _).symm.trans H; rw [hy106]; with_reducible exact H2_) | (have H2_ := (Option.bind_some _ _).symm.trans H; with_reducible exact H2_) | with_reducible exact H | (rw [hy106]; exact H) | exact H
      have Ny106 := Aside0.mk hy106
      clear hy106
      obtain rfl := Option.some.inj H
      go_enter Try.func25, Try.ntmps25
      go_wp2_with (first | ((with_reducible refine gate_callee (f := 56) rfl ?_); refine goesL_ (some 6) rfl rfl Try.func56 (by kernel_rfl) rfl #[.slice A0 l0.length c0] rfl (by (try simp only [List.map_toArray, List.map_cons, List.map_nil]); first | done | rfl | (simp only [List.length_drop, List.length_take]; rfl)) ?_; (with_reducible refine (spec_l9Patterns.calls k _ _ l0 true _ ?side1 ?side2 A3.out).mono ?_); (case side1 => repeat (first | exact HR0.out | (with_reducible refine Kd.C_alloc ?_ _) | (with_reducible refine Kd.C_drewN ?_ _) | (with_reducible refine Kd.C_drew ?_))); (case side2 => exact HC0.out); rintro e w10 ⟨rfl, hb⟩; refine ⟨_, rfl, ?_⟩; have n0_ := Aside0.mk (below_step (by repeat (first | (with_reducible first | exact HB.out | apply below_alloc | apply pw_below_drewN | apply below_drew1) | exact HB.out)) hb); clear HB; have HB := n0_; clear n0_; (try clear hb); (try clear hb2); (try clear hk); (try clear hi)) | (go_at_call 57; (with_reducible refine (spec_l1Word.calls k a1 false _ A5.out).mono ?_); rintro e w' ⟨rfl, ⟨nd, rfl⟩⟩) | ((with_reducible refine gate_dst (N := 13) rfl ?_); refine Kd.R_lit (Kd.int .i64) _ 3 ?hg (N := 13) ?hd (xs := ([] : List Int)) (inner := []) (ok := fun _ => True) (okp := fun _ => True) ?hr ?hp (fun _ hk => hk) trivial (Below.refl _ _) (Nat.le_refl _) (by simp) ?_; (case hd => rfl); (case hg => rfl); (case hr => first | (go_simp; done) | (go_simp; rfl)); (case hp => exact (Reps.none _ _)); intro v107 w11 ho12 hb hg_ hnew_; clear hg_ hnew_; (first | rw [← Ny106.out] at ho12 | (simp only [Int.reduceToNat] at ho12; rw [← Ny106.out] at ho12)); have n0_ := Aside0.mk (Kd.R_lower ho12 (below_size (by repeat (first | (with_reducible first | exact HB.out | apply below_alloc | apply pw_below_drewN | apply below_drew1) | exact HB.out)))); have n1_ := Aside0.mk (below_step (by repeat (first | (with_reducible first | exact HB.out | apply below_alloc | apply pw_below_drewN | apply below_drew1) | exact HB.out)) hb); clear HB; have HO108 := n0_; have HB := n1_; clear n0_ n1_; clear hb ho12))
      go_ret
      exact ⟨_, by first | rfl | (simp [errW_none, errW_some] <;> rfl) | (simp [*, errW_none, errW_some] <;> rfl), by (with_reducible repeat (first | apply Kd.R_alloc | apply Kd.R_drewN | apply Kd.R_drew)); exact HO108.out, by repeat (first | (with_reducible first | exact HB.out | apply below_alloc | apply pw_below_drewN | apply below_drew1) | exact HB.out)⟩
  · replace c4 := Bool.eq_false_iff.mpr c4
    subst c4
    have H1 : (some (([] : List Int))) = some r := by rw [if_neg (show ¬ (false = true) by decide)] at H; exact H
    clear H
    have H := H1
    clear H1
    obtain ⟨y109, hy109⟩ : ∃ y_ : List Int, y_ = (([] : List Int)) := ⟨_, rfl⟩
    replace H : (some y109) = some r := by first | (rw [hy109]; with_reducible exact H) | (have H2_ := (Option.bind_some _ _).symm.trans H; rw [hy109]; with_reducible exact H2_) | (have H2_ := (Option.bind_some _ _).symm.trans H; with_reducible exact H2_) | with_reducible exact H | (rw [hy109]; exact H) | exact H
    have Ny109 := Aside0.mk hy109
    clear hy109
    obtain rfl := Option.some.inj H
    go_enter Try.func25, Try.ntmps25
    go_wp2_with (first | ((with_reducible refine gate_callee (f := 56) rfl ?_); refine goesL_ (some 6) rfl rfl Try.func56 (by kernel_rfl) rfl #[.slice A0 l0.length c0] rfl (by (try simp only [List.map_toArray, List.map_cons, List.map_nil]); first | done | rfl | (simp only [List.length_drop, List.length_take]; rfl)) ?_; (with_reducible refine (spec_l9Patterns.calls k _ _ l0 false _ ?side1 ?side2 A3.out).mono ?_); (case side1 => repeat (first | exact HR0.out | (with_reducible refine Kd.C_alloc ?_ _) | (with_reducible refine Kd.C_drewN ?_ _) | (with_reducible refine Kd.C_drew ?_))); (case side2 => exact HC0.out); rintro e w13 ⟨rfl, hb⟩; refine ⟨_, rfl, ?_⟩; have n0_ := Aside0.mk (below_step (by repeat (first | (with_reducible first | exact HB.out | apply below_alloc | apply pw_below_drewN | apply below_drew1) | exact HB.out)) hb); clear HB; have HB := n0_; clear n0_; (try clear hb); (try clear hb2); (try clear hk); (try clear hi)) | ((with_reducible refine gate_dst (N := 13) rfl ?_); refine Kd.R_lit (Kd.int .i64) _ 3 ?hg (N := 13) ?hd (xs := ([] : List Int)) (inner := []) (ok := fun _ => True) (okp := fun _ => True) ?hr ?hp (fun _ hk => hk) trivial (Below.refl _ _) (Nat.le_refl _) (by simp) ?_; (case hd => rfl); (case hg => rfl); (case hr => first | (go_simp; done) | (go_simp; rfl)); (case hp => exact (Reps.none _ _)); intro v110 w14 ho15 hb hg_ hnew_; clear hg_ hnew_; (first | rw [← Ny109.out] at ho15 | (simp only [Int.reduceToNat] at ho15; rw [← Ny109.out] at ho15)); have n0_ := Aside0.mk (Kd.R_lower ho15 (below_size (by repeat (first | (with_reducible first | exact HB.out | apply below_alloc | apply pw_below_drewN | apply below_drew1) | exact HB.out)))); have n1_ := Aside0.mk (below_step (by repeat (first | (with_reducible first | exact HB.out | apply below_alloc | apply pw_below_drewN | apply below_drew1) | exact HB.out)) hb); clear HB; have HO111 := n0_; have HB := n1_; clear n0_ n1_; clear hb ho15))
    go_ret
    exact ⟨_, by first | rfl | (simp [errW_none, errW_some] <;> rfl) | (simp [*, errW_none, errW_some] <;> rfl), by (with_reducible repeat (first | apply Kd.R_alloc | apply Kd.R_drewN | apply Kd.R_drew)); exact HO111.out, by repeat (first | (with_reducible first | exact HB.out | apply below_alloc | apply pw_below_drewN | apply below_drew1) | exact HB.out)⟩
end Go.Proofs.Ytndjhgjakdkkaaa.M
end

section
-- Printed for this claim by a program (mprint.py) that uses the kit's print; Lean checks it.
namespace Go.Proofs.Ytndjhgjakdkkaaa.M
open Go.RowKit Go.Proofs.YtndjhgjakdkkaaaW.PrintWords Go.Proofs.YtndjhgjakdkkaaaW.PrintLast Go.Proofs.YtndjhgjakdkkaaaW.PrintMore
attribute [local go_sem] max2_int min2_int max_two min_two max_three min_three max_four min_four   -- for this text's walks alone
set_option linter.unusedVariables false
set_option linter.unusedSimpArgs false
def laws_FnExactSplitAt.j0 : Nat → List (S24) → ByteArray → List Int → List Int → Bool → Option (Bool)
  | 0, _, _, _, _, _ => none
  | k + 1, x0, x1, x6, x8, x49 => if x49 = true then (some false) else ((laws_markIntS.f k x8 1).bind fun bt121 => ((laws_heldIntS.f k bt121.2 1).bind fun t123 => (if t123 < 0 then (some false) else (if t123 = bt121.1 then ((laws_toPatternS.f k x0).bind fun t124 => ((impl_SplitAt.f k t124 x1).bind fun t127 => ((laws_eqIntS.f k t127 x6).bind fun t130 => (if t130 = true then ((laws_heldIntS.f k bt121.2 1).bind fun t131 => (if t131 < 0 then (some false) else (if t131 = bt121.1 then (some true) else (some false)))) else (some false))))) else (some false)))))
def laws_FnExactSplitAt.f (k : Nat) (l0 : List (S24)) (a1 : ByteArray) : Option (Bool) := if (a1.size : Int) > 1048576 then (some true) else ((laws_szPatternS.f k l0 1048576).bind fun t101 => (if t101 < 0 then (some true) else ((laws_toPatternS.f k l0).bind fun t102 => ((spec_SplitAt.f k t102 a1).bind fun t105 => ((laws_toPatternS.f k l0).bind fun t108 => ((impl_SplitAt.f k t108 a1).bind fun t111 => ((laws_eqIntS.f k t111 t105).bind fun t114 => (if t114 = true then ((laws_toPatternS.f k l0).bind fun t115 => ((laws_eqPatternS.f k t108 t115).bind fun t118 => (if t118 = true then ((laws_markPatternS.f k t108 1).bind fun t119 => (if t119 < 0 then (laws_FnExactSplitAt.j0 k l0 a1 t105 t111 true) else ((laws_eqIntS.f k t111 t105).bind fun t120 => (laws_FnExactSplitAt.j0 k l0 a1 t105 t111 (!t120))))) else (some false)))) else (some false)))))))))
theorem laws_FnExactSplitAt.mono_l : ∀ k, (∀ y0 y1 y2 y3 y4, LeO (laws_FnExactSplitAt.j0 k y0 y1 y2 y3 y4) (laws_FnExactSplitAt.j0 (k + 1) y0 y1 y2 y3 y4))
  | 0 => fun _ _ _ _ _ r h => by simp [laws_FnExactSplitAt.j0] at h
  | k + 1 => by
    have ih0 := laws_FnExactSplitAt.mono_l k
    · intro y0 y1 y2 y3 y4
      unfold laws_FnExactSplitAt.j0
      repeat' first
      | (with_reducible exact ih0 _ _ _ _ _)
      | (with_reducible exact impl_SplitAt.mono _ _ _)
      | (with_reducible exact laws_eqIntS.mono _ _ _)
      | (with_reducible exact laws_eqPatternS.mono _ _ _)
      | (with_reducible exact laws_heldIntS.mono _ _ _)
      | (with_reducible exact laws_markIntS.mono _ _ _)
      | (with_reducible exact laws_markPatternS.mono _ _ _)
      | (with_reducible exact laws_szPatternS.mono _ _ _)
      | (with_reducible exact laws_toPatternS.mono _ _)
      | (with_reducible exact spec_SplitAt.mono _ _ _)
      | (with_reducible exact LeO.refl _)
      | (with_reducible exact LeO.none _)
      | (with_reducible refine LeO.ite ?_ ?_)
      | (with_reducible refine LeO.bind ?_ (fun _ => ?_))
      | exact ih0 _ _ _ _ _
      | exact impl_SplitAt.mono _ _ _
      | exact laws_eqIntS.mono _ _ _
      | exact laws_eqPatternS.mono _ _ _
      | exact laws_heldIntS.mono _ _ _
      | exact laws_markIntS.mono _ _ _
      | exact laws_markPatternS.mono _ _ _
      | exact laws_szPatternS.mono _ _ _
      | exact laws_toPatternS.mono _ _
      | exact spec_SplitAt.mono _ _ _
      | exact LeO.none _
      | refine LeO.ite ?_ ?_
      | refine LeO.bind ?_ (fun _ => ?_)
theorem laws_FnExactSplitAt.mono : ∀ a0 a1 k, LeO (laws_FnExactSplitAt.f k a0 a1) (laws_FnExactSplitAt.f (k + 1) a0 a1) := by
  intro a0 a1 k
  have ih0 := laws_FnExactSplitAt.mono_l k
  unfold laws_FnExactSplitAt.f
  repeat' first
      | (with_reducible exact ih0 _ _ _ _ _)
      | (with_reducible exact impl_SplitAt.mono _ _ _)
      | (with_reducible exact laws_eqIntS.mono _ _ _)
      | (with_reducible exact laws_eqPatternS.mono _ _ _)
      | (with_reducible exact laws_heldIntS.mono _ _ _)
      | (with_reducible exact laws_markIntS.mono _ _ _)
      | (with_reducible exact laws_markPatternS.mono _ _ _)
      | (with_reducible exact laws_szPatternS.mono _ _ _)
      | (with_reducible exact laws_toPatternS.mono _ _)
      | (with_reducible exact spec_SplitAt.mono _ _ _)
      | (with_reducible exact LeO.refl _)
      | (with_reducible exact LeO.none _)
      | (with_reducible refine LeO.ite ?_ ?_)
      | (with_reducible refine LeO.bind ?_ (fun _ => ?_))
      | exact ih0 _ _ _ _ _
      | exact impl_SplitAt.mono _ _ _
      | exact laws_eqIntS.mono _ _ _
      | exact laws_eqPatternS.mono _ _ _
      | exact laws_heldIntS.mono _ _ _
      | exact laws_markIntS.mono _ _ _
      | exact laws_markPatternS.mono _ _ _
      | exact laws_szPatternS.mono _ _ _
      | exact laws_toPatternS.mono _ _
      | exact spec_SplitAt.mono _ _ _
      | exact LeO.none _
      | refine LeO.ite ?_ ?_
      | refine LeO.bind ?_ (fun _ => ?_)
set_option maxHeartbeats 8000000 in
set_option maxRecDepth 100000 in
theorem laws_FnExactSplitAt.calls (k : Nat) (A0 : Option Addr) (c0 : Nat) (l0 : List (S24)) (a1 : ByteArray) (r : Bool) (w : World) (hT : r = true) (hr0 : Kd.C k24 w A0 l0.length l0) (hc0 : l0.length ≤ c0) (h : laws_FnExactSplitAt.f k l0 a1 = some r) :
    Calls Try.prog 6 #[.slice A0 l0.length c0, .string a1] w fun e w' => e = .returned (.bool r) ∧ Below w.heap.size w w' := by
  have HT := Aside0.mk hT
  clear hT
  have HR0 := Aside0.mk hr0
  have HC0 := Aside0.mk hc0
  clear hr0 hc0
  have HB := Aside0.mk (Below.refl w.heap.size w)
  have H : (if (a1.size : Int) > 1048576 then (some true) else ((laws_szPatternS.f k l0 1048576).bind fun t101 => (if t101 < 0 then (some true) else ((laws_toPatternS.f k l0).bind fun t102 => ((spec_SplitAt.f k t102 a1).bind fun t105 => ((laws_toPatternS.f k l0).bind fun t108 => ((impl_SplitAt.f k t108 a1).bind fun t111 => ((laws_eqIntS.f k t111 t105).bind fun t114 => (if t114 = true then ((laws_toPatternS.f k l0).bind fun t115 => ((laws_eqPatternS.f k t108 t115).bind fun t118 => (if t118 = true then ((laws_markPatternS.f k t108 1).bind fun t119 => (if t119 < 0 then (laws_FnExactSplitAt.j0 k l0 a1 t105 t111 true) else ((laws_eqIntS.f k t111 t105).bind fun t120 => (laws_FnExactSplitAt.j0 k l0 a1 t105 t111 (!t120))))) else (some false)))) else (some false)))))))))) = some r := h
  clear h
  by_cases c3 : (a1.size : Int) > 1048576
  · rw [if_pos c3] at H
    have c3b0 : decide (1048576 < (a1.size : Int)) = true := decide_eq_true c3
    have c3b1 : decide (1048576 < a1.size) = true := decide_eq_true (by omega)
    clear c3
    obtain rfl := Option.some.inj H
    go_enter Try.func6, Try.ntmps6
    go_wp2
    go_ret
    exact ⟨by first | rfl | (simp [errW_none, errW_some] <;> rfl) | (simp [*, errW_none, errW_some] <;> rfl), by repeat (first | (with_reducible first | exact HB.out | apply below_alloc | apply pw_below_drewN | apply below_drew1) | exact HB.out)⟩
  · rw [if_neg c3] at H
    have c3b0 : decide (1048576 < (a1.size : Int)) = false := decide_eq_false c3
    have c3b1 : decide (1048576 < a1.size) = false := decide_eq_false (by omega)
    clear c3
    replace H := Option.bind_eq_some_iff.mp H
    obtain ⟨t101, A40, H⟩ := H
    replace H : (if t101 < 0 then (some true) else ((laws_toPatternS.f k l0).bind fun t102 => ((spec_SplitAt.f k t102 a1).bind fun t105 => ((laws_toPatternS.f k l0).bind fun t108 => ((impl_SplitAt.f k t108 a1).bind fun t111 => ((laws_eqIntS.f k t111 t105).bind fun t114 => (if t114 = true then ((laws_toPatternS.f k l0).bind fun t115 => ((laws_eqPatternS.f k t108 t115).bind fun t118 => (if t118 = true then ((laws_markPatternS.f k t108 1).bind fun t119 => (if t119 < 0 then (laws_FnExactSplitAt.j0 k l0 a1 t105 t111 true) else ((laws_eqIntS.f k t111 t105).bind fun t120 => (laws_FnExactSplitAt.j0 k l0 a1 t105 t111 (!t120))))) else (some false)))) else (some false)))))))) = some r := H
    have A4 := Aside0.mk A40
    clear A40
    by_cases c5 : t101 < 0
    · rw [if_pos c5] at H
      have c5b0 : decide (t101 < 0) = true := decide_eq_true c5
      clear c5
      obtain rfl := Option.some.inj H
      go_enter Try.func6, Try.ntmps6
      go_wp2_with (first | ((with_reducible refine gate_callee (f := 20) rfl ?_); refine goesL_ (some 18) rfl rfl Try.func20 (by kernel_rfl) rfl #[.slice A0 l0.length c0, .int .i64 1048576] rfl (by (try simp only [List.map_toArray, List.map_cons, List.map_nil]); first | done | rfl | (simp only [List.length_drop, List.length_take]; rfl)) ?_; (with_reducible refine (laws_szPatternS.calls k _ _ l0 1048576 t101 _ ?side1 ?side2 A4.out).mono ?_); (case side1 => repeat (first | exact HR0.out | (with_reducible refine Kd.C_alloc ?_ _) | (with_reducible refine Kd.C_drewN ?_ _) | (with_reducible refine Kd.C_drew ?_))); (case side2 => exact HC0.out); rintro e w6 ⟨rfl, hb⟩; refine ⟨_, rfl, ?_⟩; have n0_ := Aside0.mk (below_step (by repeat (first | (with_reducible first | exact HB.out | apply below_alloc | apply pw_below_drewN | apply below_drew1) | exact HB.out)) hb); clear HB; have HB := n0_; clear n0_; (try clear hb); (try clear hb2); (try clear hk); (try clear hi)))
      go_ret
      exact ⟨by first | rfl | (simp [errW_none, errW_some] <;> rfl) | (simp [*, errW_none, errW_some] <;> rfl), by repeat (first | (with_reducible first | exact HB.out | apply below_alloc | apply pw_below_drewN | apply below_drew1) | exact HB.out)⟩
    · rw [if_neg c5] at H
      have c5b0 : decide (t101 < 0) = false := decide_eq_false c5
      clear c5
      replace H := Option.bind_eq_some_iff.mp H
      obtain ⟨t102, A70, H⟩ := H
      replace H : ((spec_SplitAt.f k t102 a1).bind fun t105 => ((laws_toPatternS.f k l0).bind fun t108 => ((impl_SplitAt.f k t108 a1).bind fun t111 => ((laws_eqIntS.f k t111 t105).bind fun t114 => (if t114 = true then ((laws_toPatternS.f k l0).bind fun t115 => ((laws_eqPatternS.f k t108 t115).bind fun t118 => (if t118 = true then ((laws_markPatternS.f k t108 1).bind fun t119 => (if t119 < 0 then (laws_FnExactSplitAt.j0 k l0 a1 t105 t111 true) else ((laws_eqIntS.f k t111 t105).bind fun t120 => (laws_FnExactSplitAt.j0 k l0 a1 t105 t111 (!t120))))) else (some false)))) else (some false)))))) = some r := H
      have A7 := Aside0.mk A70
      clear A70
      replace H := Option.bind_eq_some_iff.mp H
      obtain ⟨t105, A80, H⟩ := H
      replace H : ((laws_toPatternS.f k l0).bind fun t108 => ((impl_SplitAt.f k t108 a1).bind fun t111 => ((laws_eqIntS.f k t111 t105).bind fun t114 => (if t114 = true then ((laws_toPatternS.f k l0).bind fun t115 => ((laws_eqPatternS.f k t108 t115).bind fun t118 => (if t118 = true then ((laws_markPatternS.f k t108 1).bind fun t119 => (if t119 < 0 then (laws_FnExactSplitAt.j0 k l0 a1 t105 t111 true) else ((laws_eqIntS.f k t111 t105).bind fun t120 => (laws_FnExactSplitAt.j0 k l0 a1 t105 t111 (!t120))))) else (some false)))) else (some false))))) = some r := H
      have A8 := Aside0.mk A80
      clear A80
      replace H := Option.bind_eq_some_iff.mp H
      obtain ⟨t108, A90, H⟩ := H
      replace H : ((impl_SplitAt.f k t108 a1).bind fun t111 => ((laws_eqIntS.f k t111 t105).bind fun t114 => (if t114 = true then ((laws_toPatternS.f k l0).bind fun t115 => ((laws_eqPatternS.f k t108 t115).bind fun t118 => (if t118 = true then ((laws_markPatternS.f k t108 1).bind fun t119 => (if t119 < 0 then (laws_FnExactSplitAt.j0 k l0 a1 t105 t111 true) else ((laws_eqIntS.f k t111 t105).bind fun t120 => (laws_FnExactSplitAt.j0 k l0 a1 t105 t111 (!t120))))) else (some false)))) else (some false)))) = some r := H
      have A9 := Aside0.mk A90
      clear A90
      replace H := Option.bind_eq_some_iff.mp H
      obtain ⟨t111, A100, H⟩ := H
      replace H : ((laws_eqIntS.f k t111 t105).bind fun t114 => (if t114 = true then ((laws_toPatternS.f k l0).bind fun t115 => ((laws_eqPatternS.f k t108 t115).bind fun t118 => (if t118 = true then ((laws_markPatternS.f k t108 1).bind fun t119 => (if t119 < 0 then (laws_FnExactSplitAt.j0 k l0 a1 t105 t111 true) else ((laws_eqIntS.f k t111 t105).bind fun t120 => (laws_FnExactSplitAt.j0 k l0 a1 t105 t111 (!t120))))) else (some false)))) else (some false))) = some r := H
      have A10 := Aside0.mk A100
      clear A100
      replace H := Option.bind_eq_some_iff.mp H
      obtain ⟨t114, A110, H⟩ := H
      replace H : (if t114 = true then ((laws_toPatternS.f k l0).bind fun t115 => ((laws_eqPatternS.f k t108 t115).bind fun t118 => (if t118 = true then ((laws_markPatternS.f k t108 1).bind fun t119 => (if t119 < 0 then (laws_FnExactSplitAt.j0 k l0 a1 t105 t111 true) else ((laws_eqIntS.f k t111 t105).bind fun t120 => (laws_FnExactSplitAt.j0 k l0 a1 t105 t111 (!t120))))) else (some false)))) else (some false)) = some r := H
      have A11 := Aside0.mk A110
      clear A110
      by_cases c12 : t114 = true
      · subst c12
        have H1 : ((laws_toPatternS.f k l0).bind fun t115 => ((laws_eqPatternS.f k t108 t115).bind fun t118 => (if t118 = true then ((laws_markPatternS.f k t108 1).bind fun t119 => (if t119 < 0 then (laws_FnExactSplitAt.j0 k l0 a1 t105 t111 true) else ((laws_eqIntS.f k t111 t105).bind fun t120 => (laws_FnExactSplitAt.j0 k l0 a1 t105 t111 (!t120))))) else (some false)))) = some r := by rw [if_pos rfl] at H; exact H
        clear H
        have H := H1
        clear H1
        replace H := Option.bind_eq_some_iff.mp H
        obtain ⟨t115, A130, H⟩ := H
        replace H : ((laws_eqPatternS.f k t108 t115).bind fun t118 => (if t118 = true then ((laws_markPatternS.f k t108 1).bind fun t119 => (if t119 < 0 then (laws_FnExactSplitAt.j0 k l0 a1 t105 t111 true) else ((laws_eqIntS.f k t111 t105).bind fun t120 => (laws_FnExactSplitAt.j0 k l0 a1 t105 t111 (!t120))))) else (some false))) = some r := H
        have A13 := Aside0.mk A130
        clear A130
        replace H := Option.bind_eq_some_iff.mp H
        obtain ⟨t118, A140, H⟩ := H
        replace H : (if t118 = true then ((laws_markPatternS.f k t108 1).bind fun t119 => (if t119 < 0 then (laws_FnExactSplitAt.j0 k l0 a1 t105 t111 true) else ((laws_eqIntS.f k t111 t105).bind fun t120 => (laws_FnExactSplitAt.j0 k l0 a1 t105 t111 (!t120))))) else (some false)) = some r := H
        have A14 := Aside0.mk A140
        clear A140
        by_cases c15 : t118 = true
        · subst c15
          have H1 : ((laws_markPatternS.f k t108 1).bind fun t119 => (if t119 < 0 then (laws_FnExactSplitAt.j0 k l0 a1 t105 t111 true) else ((laws_eqIntS.f k t111 t105).bind fun t120 => (laws_FnExactSplitAt.j0 k l0 a1 t105 t111 (!t120))))) = some r := by rw [if_pos rfl] at H; exact H
          clear H
          have H := H1
          clear H1
          replace H := Option.bind_eq_some_iff.mp H
          obtain ⟨t119, A160, H⟩ := H
          replace H : (if t119 < 0 then (laws_FnExactSplitAt.j0 k l0 a1 t105 t111 true) else ((laws_eqIntS.f k t111 t105).bind fun t120 => (laws_FnExactSplitAt.j0 k l0 a1 t105 t111 (!t120)))) = some r := H
          have A16 := Aside0.mk A160
          clear A160
          have HC17 := Aside0.mk H
          clear H
          go_enter Try.func6, Try.ntmps6
          go_upto_region 16 with (first | ((with_reducible refine gate_callee (f := 20) rfl ?_); refine goesL_ (some 18) rfl rfl Try.func20 (by kernel_rfl) rfl #[.slice A0 l0.length c0, .int .i64 1048576] rfl (by (try simp only [List.map_toArray, List.map_cons, List.map_nil]); first | done | rfl | (simp only [List.length_drop, List.length_take]; rfl)) ?_; (with_reducible refine (laws_szPatternS.calls k _ _ l0 1048576 t101 _ ?side1 ?side2 A4.out).mono ?_); (case side1 => repeat (first | exact HR0.out | (with_reducible refine Kd.C_alloc ?_ _) | (with_reducible refine Kd.C_drewN ?_ _) | (with_reducible refine Kd.C_drew ?_))); (case side2 => exact HC0.out); rintro e w18 ⟨rfl, hb⟩; refine ⟨_, rfl, ?_⟩; have n0_ := Aside0.mk (below_step (by repeat (first | (with_reducible first | exact HB.out | apply below_alloc | apply pw_below_drewN | apply below_drew1) | exact HB.out)) hb); clear HB; have HB := n0_; clear n0_; (try clear hb); (try clear hb2); (try clear hk); (try clear hi)) | ((with_reducible refine gate_callee (f := 22) rfl ?_); refine goesL_ (some 22) rfl rfl Try.func22 (by kernel_rfl) rfl #[.slice A0 l0.length c0] rfl (by (try simp only [List.map_toArray, List.map_cons, List.map_nil]); first | done | rfl | (simp only [List.length_drop, List.length_take]; rfl)) ?_; (with_reducible refine (laws_toPatternS.calls k _ _ l0 t102 _ ?side1 ?side2 A7.out).mono ?_); (case side1 => repeat (first | exact (Kd.C_below HR0.out HB.out) | (with_reducible refine Kd.C_alloc ?_ _) | (with_reducible refine Kd.C_drewN ?_ _) | (with_reducible refine Kd.C_drew ?_))); (case side2 => exact HC0.out); rintro e w19 ⟨v103, rfl, ho0, hb⟩; refine ⟨_, rfl, ?_⟩; have n0_ := Aside0.mk (Kd.S_lower ho0 (below_size (by repeat (first | (with_reducible first | exact HB.out | apply below_alloc | apply pw_below_drewN | apply below_drew1) | exact HB.out)))); have n1_ := Aside0.mk (below_step (by repeat (first | (with_reducible first | exact HB.out | apply below_alloc | apply pw_below_drewN | apply below_drew1) | exact HB.out)) hb); clear HB; have HO104 := n0_; have HB := n1_; clear n0_ n1_; (try clear hb); (try clear hb2); (try clear hk); (try clear hi); (try clear ho0); obtain ⟨Ao20, co20, eo20⟩ := Kd.S_slice HO104.out; subst eo20) | ((with_reducible refine gate_callee (f := 25) rfl ?_); refine goesL_ (some 24) rfl rfl Try.func25 (by kernel_rfl) rfl #[.slice Ao20 t102.length co20, .string a1] rfl (by (try simp only [List.map_toArray, List.map_cons, List.map_nil]); first | done | rfl | (simp only [List.length_drop, List.length_take]; rfl)) ?_; (with_reducible refine (spec_SplitAt.calls k _ _ t102 a1 t105 _ ?side1 ?side2 A8.out).mono ?_); (case side1 => repeat (first | exact (Kd.S_reads' HO104.out).2.2 | (with_reducible refine Kd.C_alloc ?_ _) | (with_reducible refine Kd.C_drewN ?_ _) | (with_reducible refine Kd.C_drew ?_))); (case side2 => exact (Kd.S_reads' HO104.out).2.1); rintro e w21 ⟨v106, rfl, ho0, hb⟩; refine ⟨_, rfl, ?_⟩; have n0_ := Aside0.mk (Kd.S_elder' (by (with_reducible repeat (first | apply Kd.S_alloc | apply Kd.S_drewN | apply Kd.S_drew)); exact HO104.out) (Kd.R_base ho0) hb); have n1_ := Aside0.mk (Kd.R_lower ho0 (below_size (by repeat (first | (with_reducible first | exact HB.out | apply below_alloc | apply pw_below_drewN | apply below_drew1) | exact HB.out)))); have n2_ := Aside0.mk (below_step (by repeat (first | (with_reducible first | exact HB.out | apply below_alloc | apply pw_below_drewN | apply below_drew1) | exact HB.out)) hb); clear HO104; clear HB; have HO104 := n0_; have HO107 := n1_; have HB := n2_; clear n0_ n1_ n2_; (try clear hb); (try clear hb2); (try clear hk); (try clear hi); (try clear ho0)) | ((with_reducible refine gate_callee (f := 22) rfl ?_); refine goesL_ (some 26) rfl rfl Try.func22 (by kernel_rfl) rfl #[.slice A0 l0.length c0] rfl (by (try simp only [List.map_toArray, List.map_cons, List.map_nil]); first | done | rfl | (simp only [List.length_drop, List.length_take]; rfl)) ?_; (with_reducible refine (laws_toPatternS.calls k _ _ l0 t108 _ ?side1 ?side2 A9.out).mono ?_); (case side1 => repeat (first | exact (Kd.C_below HR0.out HB.out) | (with_reducible refine Kd.C_alloc ?_ _) | (with_reducible refine Kd.C_drewN ?_ _) | (with_reducible refine Kd.C_drew ?_))); (case side2 => exact HC0.out); rintro e w22 ⟨v109, rfl, ho0, hb⟩; refine ⟨_, rfl, ?_⟩; have n0_ := Aside0.mk (Kd.S_elder' (by (with_reducible repeat (first | apply Kd.S_alloc | apply Kd.S_drewN | apply Kd.S_drew)); exact HO104.out) (Kd.S_base ho0) hb); have n1_ := Aside0.mk (Kd.R_below (by (with_reducible repeat (first | apply Kd.R_alloc | apply Kd.R_drewN | apply Kd.R_drew)); exact HO107.out) hb); have n2_ := Aside0.mk (Kd.S_lower (Kd.S_new' (Kd.S_new' ho0 (Kd.S_lt (by (with_reducible repeat (first | apply Kd.S_alloc | apply Kd.S_drewN | apply Kd.S_drew)); exact HO104.out))) (Kd.R_lt (by (with_reducible repeat (first | apply Kd.R_alloc | apply Kd.R_drewN | apply Kd.R_drew)); exact HO107.out))) (below_size (by repeat (first | (with_reducible first | exact HB.out | apply below_alloc | apply pw_below_drewN | apply below_drew1) | exact HB.out)))); have n3_ := Aside0.mk (below_step (by repeat (first | (with_reducible first | exact HB.out | apply below_alloc | apply pw_below_drewN | apply below_drew1) | exact HB.out)) hb); clear HO104; clear HO107; clear HB; have HO104 := n0_; have HO107 := n1_; have HO110 := n2_; have HB := n3_; clear n0_ n1_ n2_ n3_; (try clear hb); (try clear hb2); (try clear hk); (try clear hi); (try clear ho0); obtain ⟨Ao23, co23, eo23⟩ := Kd.S_slice HO110.out; subst eo23) | ((with_reducible refine gate_callee (f := 26) rfl ?_); refine goesL_ (some 29) rfl rfl Try.func26 (by kernel_rfl) rfl #[.slice Ao23 t108.length co23, .string a1] rfl (by (try simp only [List.map_toArray, List.map_cons, List.map_nil]); first | done | rfl | (simp only [List.length_drop, List.length_take]; rfl)) ?_; (with_reducible refine (impl_SplitAt.calls k _ _ t108 a1 t111 _ ?side1 ?side2 A10.out).mono ?_); (case side1 => repeat (first | exact (Kd.S_reads' HO110.out).2.2 | (with_reducible refine Kd.C_alloc ?_ _) | (with_reducible refine Kd.C_drewN ?_ _) | (with_reducible refine Kd.C_drew ?_))); (case side2 => exact (Kd.S_reads' HO110.out).2.1); rintro e w24 ⟨v112, rfl, ho0, hb⟩; refine ⟨_, rfl, ?_⟩; have n0_ := Aside0.mk (Kd.S_elder' (by (with_reducible repeat (first | apply Kd.S_alloc | apply Kd.S_drewN | apply Kd.S_drew)); exact HO104.out) (Kd.R_base ho0) hb); have n1_ := Aside0.mk (Kd.R_elder' (by (with_reducible repeat (first | apply Kd.R_alloc | apply Kd.R_drewN | apply Kd.R_drew)); exact HO107.out) (Kd.R_base ho0) hb); have n2_ := Aside0.mk (Kd.S_elder' (by (with_reducible repeat (first | apply Kd.S_alloc | apply Kd.S_drewN | apply Kd.S_drew)); exact HO110.out) (Kd.R_base ho0) hb); have n3_ := Aside0.mk (Kd.R_lower (Kd.R_new' ho0 (Kd.R_lt (by (with_reducible repeat (first | apply Kd.R_alloc | apply Kd.R_drewN | apply Kd.R_drew)); exact HO107.out))) (below_size (by repeat (first | (with_reducible first | exact HB.out | apply below_alloc | apply pw_below_drewN | apply below_drew1) | exact HB.out)))); have n4_ := Aside0.mk (below_step (by repeat (first | (with_reducible first | exact HB.out | apply below_alloc | apply pw_below_drewN | apply below_drew1) | exact HB.out)) hb); clear HO104; clear HO107; clear HO110; clear HB; have HO104 := n0_; have HO107 := n1_; have HO110 := n2_; have HO113 := n3_; have HB := n4_; clear n0_ n1_ n2_ n3_ n4_; (try clear hb); (try clear hb2); (try clear hk); (try clear hi); (try clear ho0); obtain ⟨Ao25, co25, eo25⟩ := Kd.R_slice HO113.out; subst eo25; obtain ⟨Ao26, co26, eo26⟩ := Kd.R_slice HO107.out; subst eo26) | ((with_reducible refine gate_callee (f := 27) rfl ?_); refine goesL_ (some 32) rfl rfl Try.func27 (by kernel_rfl) rfl #[.slice Ao25 t111.length co25, .slice Ao26 t105.length co26] rfl (by (try simp only [List.map_toArray, List.map_cons, List.map_nil]); first | done | rfl | (simp only [List.length_drop, List.length_take]; rfl)) ?_; (with_reducible refine (laws_eqIntS.calls k _ _ t111 _ _ t105 true _ ?side1 ?side2 ?side3 ?side4 A11.out).mono ?_); (case side1 => repeat (first | exact (Kd.R_reads' HO113.out).2.2 | (with_reducible refine Kd.C_alloc ?_ _) | (with_reducible refine Kd.C_drewN ?_ _) | (with_reducible refine Kd.C_drew ?_))); (case side2 => exact (Kd.R_reads' HO113.out).2.1); (case side3 => repeat (first | exact (Kd.R_reads' HO107.out).2.2 | (with_reducible refine Kd.C_alloc ?_ _) | (with_reducible refine Kd.C_drewN ?_ _) | (with_reducible refine Kd.C_drew ?_))); (case side4 => exact (Kd.R_reads' HO107.out).2.1); rintro e w' ⟨rfl, ⟨nd, rfl⟩⟩; refine ⟨_, rfl, ?_⟩) | ((with_reducible refine gate_callee (f := 22) rfl ?_); refine goesL_ (some 36) rfl rfl Try.func22 (by kernel_rfl) rfl #[.slice A0 l0.length c0] rfl (by (try simp only [List.map_toArray, List.map_cons, List.map_nil]); first | done | rfl | (simp only [List.length_drop, List.length_take]; rfl)) ?_; (with_reducible refine (laws_toPatternS.calls k _ _ l0 t115 _ ?side1 ?side2 A13.out).mono ?_); (case side1 => repeat (first | exact (Kd.C_below HR0.out (by repeat (first | (with_reducible first | exact HB.out | apply below_alloc | apply pw_below_drewN | apply below_drew1) | exact HB.out))) | (with_reducible refine Kd.C_alloc ?_ _) | (with_reducible refine Kd.C_drewN ?_ _) | (with_reducible refine Kd.C_drew ?_))); (case side2 => exact HC0.out); rintro e w27 ⟨v116, rfl, ho0, hb⟩; refine ⟨_, rfl, ?_⟩; have n0_ := Aside0.mk (Kd.S_elder' (by (with_reducible repeat (first | apply Kd.S_alloc | apply Kd.S_drewN | apply Kd.S_drew)); exact HO104.out) (Kd.S_base ho0) hb); have n1_ := Aside0.mk (Kd.R_below (by (with_reducible repeat (first | apply Kd.R_alloc | apply Kd.R_drewN | apply Kd.R_drew)); exact HO107.out) hb); have n2_ := Aside0.mk (Kd.S_elder' (by (with_reducible repeat (first | apply Kd.S_alloc | apply Kd.S_drewN | apply Kd.S_drew)); exact HO110.out) (Kd.S_base ho0) hb); have n3_ := Aside0.mk (Kd.R_below (by (with_reducible repeat (first | apply Kd.R_alloc | apply Kd.R_drewN | apply Kd.R_drew)); exact HO113.out) hb); have n4_ := Aside0.mk (Kd.S_lower (Kd.S_new' (Kd.S_new' (Kd.S_new' (Kd.S_new' ho0 (Kd.S_lt (by (with_reducible repeat (first | apply Kd.S_alloc | apply Kd.S_drewN | apply Kd.S_drew)); exact HO104.out))) (Kd.R_lt (by (with_reducible repeat (first | apply Kd.R_alloc | apply Kd.R_drewN | apply Kd.R_drew)); exact HO107.out))) (Kd.S_lt (by (with_reducible repeat (first | apply Kd.S_alloc | apply Kd.S_drewN | apply Kd.S_drew)); exact HO110.out))) (Kd.R_lt (by (with_reducible repeat (first | apply Kd.R_alloc | apply Kd.R_drewN | apply Kd.R_drew)); exact HO113.out))) (below_size (by repeat (first | (with_reducible first | exact HB.out | apply below_alloc | apply pw_below_drewN | apply below_drew1) | exact HB.out)))); have n5_ := Aside0.mk (below_step (by repeat (first | (with_reducible first | exact HB.out | apply below_alloc | apply pw_below_drewN | apply below_drew1) | exact HB.out)) hb); clear HO104; clear HO107; clear HO110; clear HO113; clear HB; have HO104 := n0_; have HO107 := n1_; have HO110 := n2_; have HO113 := n3_; have HO117 := n4_; have HB := n5_; clear n0_ n1_ n2_ n3_ n4_ n5_; (try clear hb); (try clear hb2); (try clear hk); (try clear hi); (try clear ho0); obtain ⟨Ao28, co28, eo28⟩ := Kd.S_slice HO117.out; subst eo28) | ((with_reducible refine gate_callee (f := 24) rfl ?_); refine goesL_ (some 37) rfl rfl Try.func24 (by kernel_rfl) rfl #[.slice Ao23 t108.length co23, .slice Ao28 t115.length co28] rfl (by (try simp only [List.map_toArray, List.map_cons, List.map_nil]); first | done | rfl | (simp only [List.length_drop, List.length_take]; rfl)) ?_; (with_reducible refine (laws_eqPatternS.calls k _ _ t108 _ _ t115 true _ ?side1 ?side2 ?side3 ?side4 A14.out).mono ?_); (case side1 => repeat (first | exact (Kd.S_reads' HO110.out).2.2 | (with_reducible refine Kd.C_alloc ?_ _) | (with_reducible refine Kd.C_drewN ?_ _) | (with_reducible refine Kd.C_drew ?_))); (case side2 => exact (Kd.S_reads' HO110.out).2.1); (case side3 => repeat (first | exact (Kd.S_reads' HO117.out).2.2 | (with_reducible refine Kd.C_alloc ?_ _) | (with_reducible refine Kd.C_drewN ?_ _) | (with_reducible refine Kd.C_drew ?_))); (case side4 => exact (Kd.S_reads' HO117.out).2.1); rintro e w29 ⟨rfl, hb⟩; refine ⟨_, rfl, ?_⟩; have n0_ := Aside0.mk (Kd.S_below (by (with_reducible repeat (first | apply Kd.S_alloc | apply Kd.S_drewN | apply Kd.S_drew)); exact HO104.out) hb); have n1_ := Aside0.mk (Kd.R_below (by (with_reducible repeat (first | apply Kd.R_alloc | apply Kd.R_drewN | apply Kd.R_drew)); exact HO107.out) hb); have n2_ := Aside0.mk (Kd.S_below (by (with_reducible repeat (first | apply Kd.S_alloc | apply Kd.S_drewN | apply Kd.S_drew)); exact HO110.out) hb); have n3_ := Aside0.mk (Kd.R_below (by (with_reducible repeat (first | apply Kd.R_alloc | apply Kd.R_drewN | apply Kd.R_drew)); exact HO113.out) hb); have n4_ := Aside0.mk (Kd.S_below (by (with_reducible repeat (first | apply Kd.S_alloc | apply Kd.S_drewN | apply Kd.S_drew)); exact HO117.out) hb); have n5_ := Aside0.mk (below_step (by repeat (first | (with_reducible first | exact HB.out | apply below_alloc | apply pw_below_drewN | apply below_drew1) | exact HB.out)) hb); clear HO104; clear HO107; clear HO110; clear HO113; clear HO117; clear HB; have HO104 := n0_; have HO107 := n1_; have HO110 := n2_; have HO113 := n3_; have HO117 := n4_; have HB := n5_; clear n0_ n1_ n2_ n3_ n4_ n5_; (try clear hb); (try clear hb2); (try clear hk); (try clear hi)) | ((with_reducible refine gate_callee (f := 28) rfl ?_); refine goesL_ (some 41) rfl rfl Try.func28 (by kernel_rfl) rfl #[.slice Ao23 t108.length co23, .int .i64 1] rfl (by (try simp only [List.map_toArray, List.map_cons, List.map_nil]); first | done | rfl | (simp only [List.length_drop, List.length_take]; rfl)) ?_; (with_reducible refine (laws_markPatternS.calls k (fun k_ => ((((True ∧ some k_ ≠ (.slice Ao20 t102.length co20 : Value).ownBlock) ∧ some k_ ≠ (.slice Ao26 t105.length co26 : Value).ownBlock) ∧ some k_ ≠ (.slice Ao25 t111.length co25 : Value).ownBlock) ∧ some k_ ≠ (.slice Ao28 t115.length co28 : Value).ownBlock)) (.slice Ao23 t108.length co23) t108 1 t119 w _ ?side1 ?side2 A16.out).mono ?_); (case side1 => repeat (first | (with_reducible first | exact HB.out | apply below_alloc | apply pw_below_drewN | apply below_drew1) | exact HB.out)); (case side2 => exact HO110.out); rintro e w30 ⟨rfl, hb, hkp⟩; refine ⟨_, rfl, ?_⟩; have n0_ := Aside0.mk (Kd.R_mono (ok' := fun k_ => some k_ ≠ (.slice Ao25 t111.length co25 : Value).ownBlock) (Kd.R_keptB ((Kd.R_mono (ok' := fun k_ => (True ∧ some k_ ≠ (.slice Ao25 t111.length co25 : Value).ownBlock) ∧ ¬ (((((True ∧ some k_ ≠ (.slice Ao20 t102.length co20 : Value).ownBlock) ∧ some k_ ≠ (.slice Ao26 t105.length co26 : Value).ownBlock) ∧ some k_ ≠ (.slice Ao25 t111.length co25 : Value).ownBlock) ∧ some k_ ≠ (.slice Ao28 t115.length co28 : Value).ownBlock))) (Kd.R_tight2 rfl HO107.out) (fun k_ hk => ⟨hk.2, fun hs_ => (hs_.1.1.2) hk.1⟩))) hkp (fun k_ hk_ hs_ => (hk_.2) hs_)) (fun k_ hk_ => hk_.1.1.2)); have n1_ := Aside0.mk (Kd.R_mono (ok' := fun k_ => some k_ ≠ (.slice Ao26 t105.length co26 : Value).ownBlock) (Kd.R_keptB ((Kd.R_mono (ok' := fun k_ => (True ∧ some k_ ≠ (.slice Ao26 t105.length co26 : Value).ownBlock) ∧ ¬ (((((True ∧ some k_ ≠ (.slice Ao20 t102.length co20 : Value).ownBlock) ∧ some k_ ≠ (.slice Ao26 t105.length co26 : Value).ownBlock) ∧ some k_ ≠ (.slice Ao25 t111.length co25 : Value).ownBlock) ∧ some k_ ≠ (.slice Ao28 t115.length co28 : Value).ownBlock))) (Kd.R_tight2 rfl HO113.out) (fun k_ hk => ⟨hk.2, fun hs_ => (hs_.1.2) hk.1⟩))) hkp (fun k_ hk_ hs_ => (hk_.2) hs_)) (fun k_ hk_ => hk_.1.1.2)); have n2_ := Aside0.mk (hb); clear HO107; clear HO113; clear HB; clear HO104; clear HO117; clear HO110; have HO107 := n0_; have HO113 := n1_; have HB := n2_; clear n0_ n1_ n2_; (try clear hb); (try clear hkp)))
          (try simp only [Act.put, List.setIfInBounds_toArray, List.set_cons_zero, List.set_cons_succ])
          go_cut [49] (fun v49 wc => ∃ (kq : Nat) (x49_16 : Bool), v49 = .bool x49_16 ∧ Aside0 (laws_FnExactSplitAt.j0 kq l0 a1 t105 t111 x49_16 = some r) ∧ Aside0 (kq ≤ k) ∧ Aside0 (Kd.R (Kd.int .i64) 3 wc w.heap.size (fun k_ => some k_ ≠ ((.slice Ao25 t111.length co25) : Value).ownBlock) (.slice Ao26 t105.length co26) t105) ∧ Aside0 (Kd.R (Kd.int .i64) 3 wc w.heap.size (fun k_ => some k_ ≠ ((.slice Ao26 t105.length co26) : Value).ownBlock) (.slice Ao25 t111.length co25) t111) ∧ Aside0 (Below w.heap.size w wc))
          case first =>
            have H := HC17.out
            clear HC17
            by_cases c31 : t119 < 0
            · rw [if_pos c31] at H
              have c31b0 : decide (t119 < 0) = true := decide_eq_true c31
              clear c31
              (first | rw [c31b0] | (simp only [i64_w, i32_w]; rw [c31b0]) | skip)
              have H' := Aside0.mk H
              clear H
              go_wp2
              go_meet
              case rel => exact ⟨_, (true), (by first | rfl | (simp; done) | (simp [*]; done)), H', ⟨by first | omega | exact Nat.le_refl _⟩, ⟨by (with_reducible repeat (first | apply Kd.R_alloc | apply Kd.R_drewN | apply Kd.R_drew)); exact HO107.out⟩, ⟨by (with_reducible repeat (first | apply Kd.R_alloc | apply Kd.R_drewN | apply Kd.R_drew)); exact HO113.out⟩, ⟨by repeat (first | (with_reducible first | exact HB.out | apply below_alloc | apply pw_below_drewN | apply below_drew1) | exact HB.out)⟩⟩
            · rw [if_neg c31] at H
              have c31b0 : decide (t119 < 0) = false := decide_eq_false c31
              clear c31
              (first | rw [c31b0] | (simp only [i64_w, i32_w]; rw [c31b0]) | skip)
              replace H := Option.bind_eq_some_iff.mp H
              obtain ⟨t120, A320, H⟩ := H
              replace H : (laws_FnExactSplitAt.j0 k l0 a1 t105 t111 (!t120)) = some r := H
              have A32 := Aside0.mk A320
              clear A320
              have H' := Aside0.mk H
              clear H
              go_wp2_with (first | (go_at_call 27; (with_reducible refine (laws_eqIntS.calls k _ _ t111 _ _ t105 t120 _ ?side1 ?side2 ?side3 ?side4 A32.out).mono ?_); (case side1 => repeat (first | exact (Kd.R_reads' HO113.out).2.2 | (with_reducible refine Kd.C_alloc ?_ _) | (with_reducible refine Kd.C_drewN ?_ _) | (with_reducible refine Kd.C_drew ?_))); (case side2 => exact (Kd.R_reads' HO113.out).2.1); (case side3 => repeat (first | exact (Kd.R_reads' HO107.out).2.2 | (with_reducible refine Kd.C_alloc ?_ _) | (with_reducible refine Kd.C_drewN ?_ _) | (with_reducible refine Kd.C_drew ?_))); (case side4 => exact (Kd.R_reads' HO107.out).2.1); rintro e w' ⟨rfl, ⟨nd, rfl⟩⟩))
              go_meet
              case rel => exact ⟨_, (!t120), (by first | rfl | (simp; done) | (simp [*]; done)), H', ⟨by first | omega | exact Nat.le_refl _⟩, ⟨by (with_reducible repeat (first | apply Kd.R_alloc | apply Kd.R_drewN | apply Kd.R_drew)); exact HO107.out⟩, ⟨by (with_reducible repeat (first | apply Kd.R_alloc | apply Kd.R_drewN | apply Kd.R_drew)); exact HO113.out⟩, ⟨by repeat (first | (with_reducible first | exact HB.out | apply below_alloc | apply pw_below_drewN | apply below_drew1) | exact HB.out)⟩⟩
          case rest =>
            clear HC17
            try clear c1
            try clear c2
            try clear p2
            try clear c3
            try clear c3b0
            try clear c3b1
            try clear c5
            try clear c5b0
            try clear c6
            try clear c12
            try clear c15
            try clear c20
            try clear c22
            try clear c24
            try clear c25
            try clear c26
            try clear c27
            try clear c28
            try clear c31
            try clear c31b0
            obtain ⟨kq, x49_16, rfl, HA, HJ16, HO_6, HO_8, HB⟩ := hcut
            cases kq with
            | zero => exact absurd HA.out (by simp [laws_FnExactSplitAt.j0])
            | succ kj16 =>
              have H := HA.out
              clear HA
              simp only [laws_FnExactSplitAt.j0] at H
              by_cases c33 : x49_16 = true
              · subst c33
                have H1 : (some false) = some r := by rw [if_pos rfl] at H; exact H
                clear H
                have H := H1
                clear H1
                exact absurd (Option.some.inj H) (by rw [HT.out]; decide)
              · replace c33 := Bool.eq_false_iff.mpr c33
                subst c33
                have H1 : ((laws_markIntS.f kj16 t111 1).bind fun bt121 => ((laws_heldIntS.f kj16 bt121.2 1).bind fun t123 => (if t123 < 0 then (some false) else (if t123 = bt121.1 then ((laws_toPatternS.f kj16 l0).bind fun t124 => ((impl_SplitAt.f kj16 t124 a1).bind fun t127 => ((laws_eqIntS.f kj16 t127 t105).bind fun t130 => (if t130 = true then ((laws_heldIntS.f kj16 bt121.2 1).bind fun t131 => (if t131 < 0 then (some false) else (if t131 = bt121.1 then (some true) else (some false)))) else (some false))))) else (some false))))) = some r := by rw [if_neg (show ¬ (false = true) by decide)] at H; exact H
                clear H
                have H := H1
                clear H1
                replace H := Option.bind_eq_some_iff.mp H
                obtain ⟨⟨t121, t122⟩, A340, H⟩ := H
                replace H : ((laws_heldIntS.f kj16 t122 1).bind fun t123 => (if t123 < 0 then (some false) else (if t123 = t121 then ((laws_toPatternS.f kj16 l0).bind fun t124 => ((impl_SplitAt.f kj16 t124 a1).bind fun t127 => ((laws_eqIntS.f kj16 t127 t105).bind fun t130 => (if t130 = true then ((laws_heldIntS.f kj16 t122 1).bind fun t131 => (if t131 < 0 then (some false) else (if t131 = t121 then (some true) else (some false)))) else (some false))))) else (some false)))) = some r := H
                have A34 := Aside0.mk A340
                clear A340
                replace H := Option.bind_eq_some_iff.mp H
                obtain ⟨t123, A350, H⟩ := H
                replace H : (if t123 < 0 then (some false) else (if t123 = t121 then ((laws_toPatternS.f kj16 l0).bind fun t124 => ((impl_SplitAt.f kj16 t124 a1).bind fun t127 => ((laws_eqIntS.f kj16 t127 t105).bind fun t130 => (if t130 = true then ((laws_heldIntS.f kj16 t122 1).bind fun t131 => (if t131 < 0 then (some false) else (if t131 = t121 then (some true) else (some false)))) else (some false))))) else (some false))) = some r := H
                have A35 := Aside0.mk A350
                clear A350
                by_cases c36 : t123 < 0
                · rw [if_pos c36] at H
                  have c36b0 : decide (t123 < 0) = true := decide_eq_true c36
                  clear c36
                  exact absurd (Option.some.inj H) (by rw [HT.out]; decide)
                · rw [if_neg c36] at H
                  have c36b0 : decide (t123 < 0) = false := decide_eq_false c36
                  clear c36
                  by_cases c37 : t123 = t121
                  · rw [if_pos c37] at H
                    have c37b0 : (t123 == t121) = true := beq_iff_eq.mpr c37
                    have c37b1 : (t123 != t121) = false := bne_eq_false_iff_eq.mpr c37
                    clear c37
                    replace H := Option.bind_eq_some_iff.mp H
                    obtain ⟨t124, A380, H⟩ := H
                    replace H : ((impl_SplitAt.f kj16 t124 a1).bind fun t127 => ((laws_eqIntS.f kj16 t127 t105).bind fun t130 => (if t130 = true then ((laws_heldIntS.f kj16 t122 1).bind fun t131 => (if t131 < 0 then (some false) else (if t131 = t121 then (some true) else (some false)))) else (some false)))) = some r := H
                    have A38 := Aside0.mk A380
                    clear A380
                    replace H := Option.bind_eq_some_iff.mp H
                    obtain ⟨t127, A390, H⟩ := H
                    replace H : ((laws_eqIntS.f kj16 t127 t105).bind fun t130 => (if t130 = true then ((laws_heldIntS.f kj16 t122 1).bind fun t131 => (if t131 < 0 then (some false) else (if t131 = t121 then (some true) else (some false)))) else (some false))) = some r := H
                    have A39 := Aside0.mk A390
                    clear A390
                    replace H := Option.bind_eq_some_iff.mp H
                    obtain ⟨t130, A400, H⟩ := H
                    replace H : (if t130 = true then ((laws_heldIntS.f kj16 t122 1).bind fun t131 => (if t131 < 0 then (some false) else (if t131 = t121 then (some true) else (some false)))) else (some false)) = some r := H
                    have A40 := Aside0.mk A400
                    clear A400
                    by_cases c41 : t130 = true
                    · subst c41
                      have H1 : ((laws_heldIntS.f kj16 t122 1).bind fun t131 => (if t131 < 0 then (some false) else (if t131 = t121 then (some true) else (some false)))) = some r := by rw [if_pos rfl] at H; exact H
                      clear H
                      have H := H1
                      clear H1
                      replace H := Option.bind_eq_some_iff.mp H
                      obtain ⟨t131, A420, H⟩ := H
                      replace H : (if t131 < 0 then (some false) else (if t131 = t121 then (some true) else (some false))) = some r := H
                      have A42 := Aside0.mk A420
                      clear A420
                      by_cases c43 : t131 < 0
                      · rw [if_pos c43] at H
                        have c43b0 : decide (t131 < 0) = true := decide_eq_true c43
                        clear c43
                        exact absurd (Option.some.inj H) (by rw [HT.out]; decide)
                      · rw [if_neg c43] at H
                        have c43b0 : decide (t131 < 0) = false := decide_eq_false c43
                        clear c43
                        by_cases c44 : t131 = t121
                        · rw [if_pos c44] at H
                          have c44b0 : (t131 == t121) = true := beq_iff_eq.mpr c44
                          have c44b1 : (t131 != t121) = false := bne_eq_false_iff_eq.mpr c44
                          clear c44
                          obtain rfl := Option.some.inj H
                          go_wp2_with (first | ((with_reducible refine gate_callee (f := 29) rfl ?_); refine goesL_ (some 52) rfl rfl Try.func29 (by kernel_rfl) rfl #[.slice Ao25 t111.length co25, .int .i64 1] rfl (by (try simp only [List.map_toArray, List.map_cons, List.map_nil]); first | done | rfl | (simp only [List.length_drop, List.length_take]; rfl)) ?_; (with_reducible refine (laws_markIntS.calls kj16 (fun k_ => some k_ = (.slice Ao25 t111.length co25 : Value).ownBlock) (.slice Ao25 t111.length co25) t111 1 t121 t122 w _ ?side1 ?side2 A34.out).mono ?_); (case side1 => repeat (first | (with_reducible first | exact HB.out | apply below_alloc | apply pw_below_drewN | apply below_drew1) | exact HB.out)); (case side2 => exact Kd.R_tight rfl HO_8.out); rintro e w45 ⟨rfl, hy0, hb, hkp⟩; refine ⟨_, rfl, ?_⟩; have n0_ := Aside0.mk (Kd.R_mono (ok' := fun k_ => some k_ ≠ (.slice Ao25 t111.length co25 : Value).ownBlock) (Kd.R_keptB (HO_6.out) hkp (fun k_ hk_ hs_ => (hk_) hs_)) (fun k_ hk_ => hk_.1)); have n1_ := Aside0.mk (Kd.R_reok rfl hy0 (fun k_ e_ => HO_8.out.1 k_ e_)); have n2_ := Aside0.mk (hb); clear HO_6; clear HO_8; clear HB; have HO_6 := n0_; have HO_8 := n1_; have HB := n2_; clear n0_ n1_ n2_; (try clear hb); (try clear hkp); (try clear hy0)) | ((with_reducible refine gate_callee (f := 30) rfl ?_); refine goesL_ (some 55) rfl rfl Try.func30 (by kernel_rfl) rfl #[.slice Ao25 t122.length co25, .int .i64 1] rfl (by (try simp only [List.map_toArray, List.map_cons, List.map_nil]); first | done | (rw [show t122.length = t111.length from (Kd.R_reads' HO_8.out).1.symm] <;> rfl) | rfl | (simp only [List.length_drop, List.length_take]; rfl)) ?_; (with_reducible refine (laws_heldIntS.calls kj16 _ _ t122 1 t123 _ ?side1 ?side2 A35.out).mono ?_); (case side1 => repeat (first | exact (Kd.R_reads' HO_8.out).2.2 | (with_reducible refine Kd.C_alloc ?_ _) | (with_reducible refine Kd.C_drewN ?_ _) | (with_reducible refine Kd.C_drew ?_))); (case side2 => rw [show t122.length = t111.length from (Kd.R_reads' HO_8.out).1.symm]; exact (Kd.R_reads' HO_8.out).2.1); rintro e w' ⟨rfl, ⟨nd, rfl⟩⟩; refine ⟨_, rfl, ?_⟩) | ((with_reducible refine gate_callee (f := 22) rfl ?_); refine goesL_ (some 62) rfl rfl Try.func22 (by kernel_rfl) rfl #[.slice A0 l0.length c0] rfl (by (try simp only [List.map_toArray, List.map_cons, List.map_nil]); first | done | rfl | (simp only [List.length_drop, List.length_take]; rfl)) ?_; (with_reducible refine (laws_toPatternS.calls kj16 _ _ l0 t124 _ ?side1 ?side2 A38.out).mono ?_); (case side1 => repeat (first | exact (Kd.C_below HR0.out (by repeat (first | (with_reducible first | exact HB.out | apply below_alloc | apply pw_below_drewN | apply below_drew1) | exact HB.out))) | (with_reducible refine Kd.C_alloc ?_ _) | (with_reducible refine Kd.C_drewN ?_ _) | (with_reducible refine Kd.C_drew ?_))); (case side2 => exact HC0.out); rintro e w46 ⟨v125, rfl, ho0, hb⟩; refine ⟨_, rfl, ?_⟩; have n0_ := Aside0.mk (Kd.R_below (by (with_reducible repeat (first | apply Kd.R_alloc | apply Kd.R_drewN | apply Kd.R_drew)); exact HO_6.out) hb); have n1_ := Aside0.mk (Kd.R_below (by (with_reducible repeat (first | apply Kd.R_alloc | apply Kd.R_drewN | apply Kd.R_drew)); exact HO_8.out) hb); have n2_ := Aside0.mk (Kd.S_lower (Kd.S_new' (Kd.S_new' ho0 (Kd.R_lt (by (with_reducible repeat (first | apply Kd.R_alloc | apply Kd.R_drewN | apply Kd.R_drew)); exact HO_6.out))) (Kd.R_lt (by (with_reducible repeat (first | apply Kd.R_alloc | apply Kd.R_drewN | apply Kd.R_drew)); exact HO_8.out))) (below_size (by repeat (first | (with_reducible first | exact HB.out | apply below_alloc | apply pw_below_drewN | apply below_drew1) | exact HB.out)))); have n3_ := Aside0.mk (below_step (by repeat (first | (with_reducible first | exact HB.out | apply below_alloc | apply pw_below_drewN | apply below_drew1) | exact HB.out)) hb); clear HO_6; clear HO_8; clear HB; have HO_6 := n0_; have HO_8 := n1_; have HO126 := n2_; have HB := n3_; clear n0_ n1_ n2_ n3_; (try clear hb); (try clear hb2); (try clear hk); (try clear hi); (try clear ho0); obtain ⟨Ao47, co47, eo47⟩ := Kd.S_slice HO126.out; subst eo47) | ((with_reducible refine gate_callee (f := 26) rfl ?_); refine goesL_ (some 64) rfl rfl Try.func26 (by kernel_rfl) rfl #[.slice Ao47 t124.length co47, .string a1] rfl (by (try simp only [List.map_toArray, List.map_cons, List.map_nil]); first | done | rfl | (simp only [List.length_drop, List.length_take]; rfl)) ?_; (with_reducible refine (impl_SplitAt.calls kj16 _ _ t124 a1 t127 _ ?side1 ?side2 A39.out).mono ?_); (case side1 => repeat (first | exact (Kd.S_reads' HO126.out).2.2 | (with_reducible refine Kd.C_alloc ?_ _) | (with_reducible refine Kd.C_drewN ?_ _) | (with_reducible refine Kd.C_drew ?_))); (case side2 => exact (Kd.S_reads' HO126.out).2.1); rintro e w48 ⟨v128, rfl, ho0, hb⟩; refine ⟨_, rfl, ?_⟩; have n0_ := Aside0.mk (Kd.R_elder' (by (with_reducible repeat (first | apply Kd.R_alloc | apply Kd.R_drewN | apply Kd.R_drew)); exact HO_6.out) (Kd.R_base ho0) hb); have n1_ := Aside0.mk (Kd.R_elder' (by (with_reducible repeat (first | apply Kd.R_alloc | apply Kd.R_drewN | apply Kd.R_drew)); exact HO_8.out) (Kd.R_base ho0) hb); have n2_ := Aside0.mk (Kd.S_elder' (by (with_reducible repeat (first | apply Kd.S_alloc | apply Kd.S_drewN | apply Kd.S_drew)); exact HO126.out) (Kd.R_base ho0) hb); have n3_ := Aside0.mk (Kd.R_lower (Kd.R_new' (Kd.R_new' ho0 (Kd.R_lt (by (with_reducible repeat (first | apply Kd.R_alloc | apply Kd.R_drewN | apply Kd.R_drew)); exact HO_6.out))) (Kd.R_lt (by (with_reducible repeat (first | apply Kd.R_alloc | apply Kd.R_drewN | apply Kd.R_drew)); exact HO_8.out))) (below_size (by repeat (first | (with_reducible first | exact HB.out | apply below_alloc | apply pw_below_drewN | apply below_drew1) | exact HB.out)))); have n4_ := Aside0.mk (below_step (by repeat (first | (with_reducible first | exact HB.out | apply below_alloc | apply pw_below_drewN | apply below_drew1) | exact HB.out)) hb); clear HO_6; clear HO_8; clear HO126; clear HB; have HO_6 := n0_; have HO_8 := n1_; have HO126 := n2_; have HO129 := n3_; have HB := n4_; clear n0_ n1_ n2_ n3_ n4_; (try clear hb); (try clear hb2); (try clear hk); (try clear hi); (try clear ho0); obtain ⟨Ao49, co49, eo49⟩ := Kd.R_slice HO129.out; subst eo49) | ((with_reducible refine gate_callee (f := 27) rfl ?_); refine goesL_ (some 67) rfl rfl Try.func27 (by kernel_rfl) rfl #[.slice Ao49 t127.length co49, .slice Ao26 t105.length co26] rfl (by (try simp only [List.map_toArray, List.map_cons, List.map_nil]); first | done | rfl | (simp only [List.length_drop, List.length_take]; rfl)) ?_; (with_reducible refine (laws_eqIntS.calls kj16 _ _ t127 _ _ t105 true _ ?side1 ?side2 ?side3 ?side4 A40.out).mono ?_); (case side1 => repeat (first | exact (Kd.R_reads' HO129.out).2.2 | (with_reducible refine Kd.C_alloc ?_ _) | (with_reducible refine Kd.C_drewN ?_ _) | (with_reducible refine Kd.C_drew ?_))); (case side2 => exact (Kd.R_reads' HO129.out).2.1); (case side3 => repeat (first | exact (Kd.R_reads' HO_6.out).2.2 | (with_reducible refine Kd.C_alloc ?_ _) | (with_reducible refine Kd.C_drewN ?_ _) | (with_reducible refine Kd.C_drew ?_))); (case side4 => exact (Kd.R_reads' HO_6.out).2.1); rintro e w' ⟨rfl, ⟨nd, rfl⟩⟩; refine ⟨_, rfl, ?_⟩) | ((with_reducible refine gate_callee (f := 30) rfl ?_); refine goesL_ (some 71) rfl rfl Try.func30 (by kernel_rfl) rfl #[.slice Ao25 t122.length co25, .int .i64 1] rfl (by (try simp only [List.map_toArray, List.map_cons, List.map_nil]); first | done | (rw [show t122.length = t111.length from (Kd.R_reads' HO_8.out).1.symm] <;> rfl) | rfl | (simp only [List.length_drop, List.length_take]; rfl)) ?_; (with_reducible refine (laws_heldIntS.calls kj16 _ _ t122 1 t131 _ ?side1 ?side2 A42.out).mono ?_); (case side1 => repeat (first | exact (Kd.R_reads' HO_8.out).2.2 | (with_reducible refine Kd.C_alloc ?_ _) | (with_reducible refine Kd.C_drewN ?_ _) | (with_reducible refine Kd.C_drew ?_))); (case side2 => rw [show t122.length = t111.length from (Kd.R_reads' HO_8.out).1.symm]; exact (Kd.R_reads' HO_8.out).2.1); rintro e w' ⟨rfl, ⟨nd, rfl⟩⟩; refine ⟨_, rfl, ?_⟩))
                          go_ret
                          exact ⟨by first | rfl | (simp [errW_none, errW_some] <;> rfl) | (simp [*, errW_none, errW_some] <;> rfl), by repeat (first | (with_reducible first | exact HB.out | apply below_alloc | apply pw_below_drewN | apply below_drew1) | exact HB.out)⟩
                        · rw [if_neg c44] at H
                          have c44b0 : (t131 == t121) = false := beq_eq_false_iff_ne.mpr c44
                          have c44b1 : (t131 != t121) = true := bne_iff_ne.mpr c44
                          exact absurd (Option.some.inj H) (by rw [HT.out]; decide)
                    · replace c41 := Bool.eq_false_iff.mpr c41
                      subst c41
                      have H1 : (some false) = some r := by rw [if_neg (show ¬ (false = true) by decide)] at H; exact H
                      clear H
                      have H := H1
                      clear H1
                      exact absurd (Option.some.inj H) (by rw [HT.out]; decide)
                  · rw [if_neg c37] at H
                    have c37b0 : (t123 == t121) = false := beq_eq_false_iff_ne.mpr c37
                    have c37b1 : (t123 != t121) = true := bne_iff_ne.mpr c37
                    exact absurd (Option.some.inj H) (by rw [HT.out]; decide)
        · replace c15 := Bool.eq_false_iff.mpr c15
          subst c15
          have H1 : (some false) = some r := by rw [if_neg (show ¬ (false = true) by decide)] at H; exact H
          clear H
          have H := H1
          clear H1
          exact absurd (Option.some.inj H) (by rw [HT.out]; decide)
      · replace c12 := Bool.eq_false_iff.mpr c12
        subst c12
        have H1 : (some false) = some r := by rw [if_neg (show ¬ (false = true) by decide)] at H; exact H
        clear H
        have H := H1
        clear H1
        exact absurd (Option.some.inj H) (by rw [HT.out]; decide)
end Go.Proofs.Ytndjhgjakdkkaaa.M
end

section
/- Plain lemmas about functions with a number of rounds; nothing of any program. -/
namespace Go.Proofs.Ytndjhgjakdkkaaa.Pu
open Go.RowKit Go.Proofs.YtndjhgjakdkkaaaW.PrintWords
set_option linter.unusedVariables false
theorem Ev.succ {α : Type} {g : Nat → Option α} {r : α} (h : Ev (fun k => g (k + 1)) r) : Ev g r := Ev.step (fun _ => rfl) h
theorem Ev.pure_ {α : Type} (r : α) : Ev (fun _ => some r) r := Ev.now r
theorem Ev.cast {α : Type} {g : Nat → Option α} {r s : α} (h : Ev g r) (e : r = s) : Ev g s := e ▸ h
theorem Ev.ifp {α : Type} {c : Prop} [Decidable c] {f g : Nat → Option α} {r : α} (hc : c) (h : Ev f r) : Ev (fun k => if c then f k else g k) r := by
  simp only [if_pos hc]
  exact h
theorem Ev.ifn {α : Type} {c : Prop} [Decidable c] {f g : Nat → Option α} {r : α} (hc : ¬ c) (h : Ev g r) : Ev (fun k => if c then f k else g k) r := by
  simp only [if_neg hc]
  exact h
theorem wid {x : Int} (h0 : -9223372036854775808 ≤ x) (h1 : x ≤ 9223372036854775807) : wrap64 x = x := by
  unfold wrap64
  omega
theorem all_from {α : Type} {g : Nat → Int → Option α} (n : Nat) (P : Nat → Prop) [DecidablePred P] (stop fin : α)
    (step : ∀ (i : Nat) (r : α), i < n → P i → Ev (fun k => g k ((i : Int) + 1)) r → Ev (fun k => g k (i : Int)) r)
    (fail : ∀ i : Nat, i < n → ¬ P i → Ev (fun k => g k (i : Int)) stop)
    (done : Ev (fun k => g k (n : Int)) fin) (d : Nat) : ∀ i : Nat, n - i = d → i ≤ n → Ev (fun k => g k (i : Int)) (if ∀ j, j < n → i ≤ j → P j then fin else stop) := by
  induction d with
  | zero =>
    intro i hd hi
    obtain rfl : i = n := by omega
    rw [if_pos (fun j h1 h2 => absurd h1 (by omega))]
    exact done
  | succ d ih =>
    intro i hd hi
    by_cases hp : P i
    · have h := ih (i + 1) (by omega) (by omega)
      have e : (if ∀ j, j < n → i + 1 ≤ j → P j then fin else stop) = (if ∀ j, j < n → i ≤ j → P j then fin else stop) := by
        have : (∀ j, j < n → i + 1 ≤ j → P j) ↔ (∀ j, j < n → i ≤ j → P j) := by
          refine ⟨fun h j h1 h2 => ?_, fun h j h1 h2 => h j h1 (by omega)⟩
          rcases Nat.eq_or_lt_of_le h2 with rfl | h3
          · exact hp
          · exact h j h1 h3
        simp only [this]
      rw [e] at h
      exact step i _ (by omega) hp (by exact_mod_cast h)
    · rw [if_neg (fun h => hp (h i (by omega) (Nat.le_refl _)))]
      exact fail i (by omega) hp
theorem all_loop {α : Type} {g : Nat → Int → Option α} (n : Nat) (P : Nat → Prop) [DecidablePred P] (stop fin : α)
    (step : ∀ (i : Nat) (r : α), i < n → P i → Ev (fun k => g k ((i : Int) + 1)) r → Ev (fun k => g k (i : Int)) r)
    (fail : ∀ i : Nat, i < n → ¬ P i → Ev (fun k => g k (i : Int)) stop)
    (done : Ev (fun k => g k (n : Int)) fin) : Ev (fun k => g k 0) (if ∀ j, j < n → P j then fin else stop) := by
  have h := all_from n P stop fin step fail done n 0 (by omega) (by omega)
  have e : (∀ j, j < n → 0 ≤ j → P j) ↔ (∀ j, j < n → P j) := ⟨fun h j h1 => h j h1 (Nat.zero_le _), fun h j h1 _ => h j h1⟩
  simp only [e] at h
  exact h
theorem fold_loop {α β : Type} {g : Nat → β → Int → Option α} (n : Nat) (F : Nat → β) (r : α)
    (step : ∀ (i : Nat), i < n → Ev (fun k => g k (F (i + 1)) ((i : Int) + 1)) r → Ev (fun k => g k (F i) (i : Int)) r)
    (done : Ev (fun k => g k (F n) (n : Int)) r) : Ev (fun k => g k (F 0) 0) r := by
  have key : ∀ d i : Nat, n - i = d → i ≤ n → Ev (fun k => g k (F i) (i : Int)) r := by
    intro d
    induction d with
    | zero =>
      intro i hd hi
      obtain rfl : i = n := by omega
      exact done
    | succ d ih =>
      intro i hd hi
      exact step i (by omega) (by exact_mod_cast ih (i + 1) (by omega) (by omega))
  exact_mod_cast key n 0 (by omega) (by omega)
theorem bt_nat (s : ByteArray) (i : Nat) : bt s (i : Int) = if h : i < s.size then ((s[i]'h).toNat : Int) else 0 := by simp [bt]
theorem toList_inj {a b : ByteArray} : a.toList = b.toList ↔ a = b := by
  constructor
  · intro h
    rw [ByteArray.toList_eq, ByteArray.toList_eq] at h
    exact ByteArray.ext (Array.toList_inj.1 h)
  · rintro rfl
    rfl
theorem copy_set {α β : Type} (f : α → β) (xs : List α) (z : β) (i : Nat) (h : i < xs.length) :
    ((xs.take i).map f ++ List.replicate (xs.length - i) z).set i (f xs[i]) = (xs.take (i + 1)).map f ++ List.replicate (xs.length - (i + 1)) z := by
  have hl : ((xs.take i).map f).length = i := by simp; omega
  rw [List.set_append_right _ _ (by omega), hl, Nat.sub_self]
  obtain ⟨m, hm⟩ : ∃ m, xs.length - i = m + 1 := ⟨xs.length - i - 1, by omega⟩
  rw [hm, List.replicate_succ, List.set_cons_zero, List.take_succ_eq_append_getElem h, List.map_append, List.append_assoc]
  have : xs.length - (i + 1) = m := by omega
  rw [this]
  rfl
end Go.Proofs.Ytndjhgjakdkkaaa.Pu
end

section
/- The plain meaning of PatternOk in the program and in the reference, and of the copies and comparisons of a pattern. -/
namespace Go.Proofs.Ytndjhgjakdkkaaa.M
open Go.RowKit Go.Proofs.YtndjhgjakdkkaaaW.PrintWords Go.Proofs.Ytndjhgjakdkkaaa.Pu
set_option linter.unusedVariables false
set_option linter.unusedSimpArgs false
def figOk (n : Int) : Prop := 0 ≤ n ∧ n ≤ 9
instance (n : Int) : Decidable (figOk n) := inferInstanceAs (Decidable (_ ∧ _))
def signOk (s : ByteArray) (i : Nat) : Prop := (bt s i = 46 ∧ (i = 0 ∨ i + 1 = s.size)) ∨ (97 ≤ bt s i ∧ bt s i ≤ 122)
instance (s : ByteArray) (i : Nat) : Decidable (signOk s i) := inferInstanceAs (Decidable (_ ∨ _))
def patOk (s : ByteArray) (ns : List Int) : Bool :=
  decide (∀ i, i < s.size → signOk s i) && (decide (∀ i, i < ns.length → figOk (rd ns i)) && (decide (1 ≤ s.size ∧ s.size ≤ 8) && decide (ns.length = s.size + 1)))
theorem within_eq (a b c : Int) : impl_within.f a b c = some (decide (b ≤ a ∧ a ≤ c)) := by
  unfold impl_within.f
  by_cases h : a ≥ b
  · have h' : b ≤ a := h
    simp [h']
  · have h' : ¬ b ≤ a := h
    simp [h']
theorem l1In_eq (a b c : Int) : spec_l1In.f a b c = some (decide (b ≤ a ∧ a ≤ c)) := by
  unfold spec_l1In.f
  by_cases h : a ≥ b
  · have h' : b ≤ a := h
    simp [h']
  · have h' : ¬ b ≤ a := h
    simp [h']
theorem spec_PatternOk_l1 (s : ByteArray) (ns : List Int) (hs : s.size ≤ 9223372036854775800) (hn : ns.length ≤ 9223372036854775800) :
    Ev (fun k => spec_PatternOk.l1 k (s.size : Int) 0 s ns) (decide (∀ i, i < ns.length → figOk (rd ns i)) && (decide (1 ≤ s.size ∧ s.size ≤ 8) && decide (ns.length = s.size + 1))) := by
  refine Ev.cast (all_loop (g := fun k x => spec_PatternOk.l1 k (s.size : Int) x s ns) ns.length (fun i => figOk (rd ns i)) false (decide (1 ≤ s.size ∧ s.size ≤ 8) && decide (ns.length = s.size + 1)) ?_ ?_ ?_) ?_
  · intro i r hi hp h
    have h1 : (i : Int) < (ns.length : Int) := by omega
    have h2 : (0 : Int) ≤ (i : Int) := by omega
    have h3 : wrap64 ((i : Int) + 1) = (i : Int) + 1 := wid (by omega) (by omega)
    have h4 : decide ((0 : Int) ≤ rd ns i ∧ rd ns i ≤ 9) = true := decide_eq_true hp
    apply Ev.succ
    simp only [spec_PatternOk.l1, h1, h2, h3, l1In_eq, h4, Option.bind_some, if_true]
    exact h
  · intro i hi hp
    have h1 : (i : Int) < (ns.length : Int) := by omega
    have h2 : (0 : Int) ≤ (i : Int) := by omega
    have h4 : decide ((0 : Int) ≤ rd ns i ∧ rd ns i ≤ 9) = false := decide_eq_false hp
    apply Ev.succ
    simp only [spec_PatternOk.l1, h1, h2, l1In_eq, h4, Option.bind_some, if_true, Bool.false_eq_true, if_false]
    exact Ev.now _
  · have h3 : wrap64 ((s.size : Int) + 1) = (s.size : Int) + 1 := wid (by omega) (by omega)
    apply Ev.succ
    simp only [spec_PatternOk.l1, Int.lt_irrefl, h3, l1In_eq, Option.bind_some, if_false]
    by_cases h : 1 ≤ s.size ∧ s.size ≤ 8
    · have h4 : decide ((1 : Int) ≤ (s.size : Int) ∧ (s.size : Int) ≤ 8) = true := decide_eq_true (by omega)
      simp only [h4, if_true, h, decide_true, Bool.true_and]
      refine Ev.cast (Ev.now _) ?_
      by_cases e : ns.length = s.size + 1
      · have : (ns.length : Int) = (s.size : Int) + 1 := by omega
        simp [e]
      · have : ¬ (ns.length : Int) = (s.size : Int) + 1 := by omega
        simp [e, this]
    · have h4 : decide ((1 : Int) ≤ (s.size : Int) ∧ (s.size : Int) ≤ 8) = false := decide_eq_false (by omega)
      simp only [h4, Bool.false_eq_true, if_false, h, decide_false, Bool.false_and]
      exact Ev.now _
  · by_cases h : ∀ i, i < ns.length → figOk (rd ns i) <;> simp [h]
theorem spec_PatternOk_ev (s : ByteArray) (ns : List Int) (hs : s.size ≤ 9223372036854775800) (hn : ns.length ≤ 9223372036854775800) :
    Ev (fun k => spec_PatternOk.f k s ns) (patOk s ns) := by
  unfold spec_PatternOk.f
  refine Ev.cast (all_loop (g := fun k x => spec_PatternOk.l0 k (s.size : Int) x s ns) s.size (signOk s) false _ ?_ ?_ ?_) (r := if ∀ i, i < s.size → signOk s i then (decide (∀ i, i < ns.length → figOk (rd ns i)) && (decide (1 ≤ s.size ∧ s.size ≤ 8) && decide (ns.length = s.size + 1))) else false) ?_
  · intro i r hi hp h
    have h1 : (i : Int) < (s.size : Int) := by omega
    have h2 : (0 : Int) ≤ (i : Int) := by omega
    have h3 : wrap64 ((i : Int) + 1) = (i : Int) + 1 := wid (by omega) (by omega)
    have h5 : wrap64 ((s.size : Int) - 1) = (s.size : Int) - 1 := wid (by omega) (by omega)
    apply Ev.succ
    simp only [spec_PatternOk.l0, h1, h2, h3, h5, if_true]
    by_cases c : bt s i = 46
    · simp only [c, if_true]
      by_cases c0 : (i : Int) = 0
      · simp only [c0, if_true]
        rw [c0] at h
        exact h
      · simp only [c0, if_false]
        by_cases c1 : (i : Int) = (s.size : Int) - 1
        · simp only [c1, if_true]
          rw [c1] at h
          exact h
        · rcases hp with ⟨_, hp | hp⟩ | hp
          · omega
          · omega
          · omega
    · rcases hp with ⟨hp, _⟩ | hp
      · exact absurd hp c
      · have c2 : ¬ bt s i < 97 := by omega
        have c3 : ¬ bt s i > 122 := by omega
        simp only [c, c2, c3, if_false]
        exact h
  · intro i hi hp
    have h1 : (i : Int) < (s.size : Int) := by omega
    have h2 : (0 : Int) ≤ (i : Int) := by omega
    have h5 : wrap64 ((s.size : Int) - 1) = (s.size : Int) - 1 := wid (by omega) (by omega)
    have hq := not_or.1 hp
    apply Ev.succ
    simp only [spec_PatternOk.l0, h1, h2, h5, if_true]
    by_cases c : bt s i = 46
    · have c0 : ¬ (i : Int) = 0 := fun e => hq.1 ⟨c, .inl (by omega)⟩
      have c1 : ¬ (i : Int) = (s.size : Int) - 1 := fun e => hq.1 ⟨c, .inr (by omega)⟩
      simp only [c, c0, c1, if_true, if_false]
      exact Ev.now _
    · simp only [c, if_false]
      by_cases c2 : bt s i < 97
      · simp only [c2, if_true]
        exact Ev.now _
      · have c3 : bt s i > 122 := by
          have := hq.2
          omega
        simp only [c2, c3, if_true, if_false]
        exact Ev.now _
  · apply Ev.succ
    simp only [spec_PatternOk.l0, Int.lt_irrefl, if_false]
    exact spec_PatternOk_l1 s ns hs hn
  · unfold patOk
    by_cases h : ∀ i, i < s.size → signOk s i <;> simp [h]
theorem impl_lower_ev (s : ByteArray) (hs : s.size ≤ 9223372036854775800) : Ev (fun k => impl_lower.f k s) (decide (∀ i, i < s.size → 97 ≤ bt s i ∧ bt s i ≤ 122)) := by
  unfold impl_lower.f
  refine Ev.cast (all_loop (g := fun k x => impl_lower.l0 k s (s.size : Int) x) s.size (fun i => 97 ≤ bt s i ∧ bt s i ≤ 122) false true ?_ ?_ ?_) ?_
  · intro i r hi hp h
    have h1 : (i : Int) < (s.size : Int) := by omega
    have h2 : (0 : Int) ≤ (i : Int) := by omega
    have h3 : wrap64 ((i : Int) + 1) = (i : Int) + 1 := wid (by omega) (by omega)
    have c2 : ¬ bt s i < 97 := by omega
    have c3 : ¬ bt s i > 122 := by omega
    apply Ev.succ
    simp only [impl_lower.l0, h1, h2, h3, c2, c3, if_true, if_false]
    exact h
  · intro i hi hp
    have h1 : (i : Int) < (s.size : Int) := by omega
    have h2 : (0 : Int) ≤ (i : Int) := by omega
    apply Ev.succ
    by_cases c2 : bt s i < 97
    · simp only [impl_lower.l0, h1, h2, c2, if_true]
      exact Ev.now _
    · have c3 : bt s i > 122 := by omega
      simp only [impl_lower.l0, h1, h2, c2, c3, if_true, if_false]
      exact Ev.now _
  · apply Ev.succ
    simp only [impl_lower.l0, Int.lt_irrefl, if_false]
    exact Ev.now _
  · by_cases h : ∀ i, i < s.size → 97 ≤ bt s i ∧ bt s i ≤ 122 <;> simp [h]
theorem bt_extract (s : ByteArray) (a b i : Nat) (hb : b ≤ s.size) (hi : i < b - a) : bt (s.extract a b) i = bt s (a + i : Nat) := by
  rw [bt_nat, bt_nat, dif_pos (by rw [ByteArray.size_extract]; omega), dif_pos (by omega)]
  simp [ByteArray.getElem_extract]
theorem impl_PatternOk_l1 (ns : List Int) (hn : ns.length ≤ 9223372036854775800) : Ev (fun k => impl_PatternOk.l1 k ns (ns.length : Int) 0) (decide (∀ i, i < ns.length → figOk (rd ns i))) := by
  refine Ev.cast (all_loop (g := fun k x => impl_PatternOk.l1 k ns (ns.length : Int) x) ns.length (fun i => figOk (rd ns i)) false true ?_ ?_ ?_) ?_
  · intro i r hi hp h
    have h1 : (i : Int) < (ns.length : Int) := by omega
    have h2 : (0 : Int) ≤ (i : Int) := by omega
    have h3 : wrap64 ((i : Int) + 1) = (i : Int) + 1 := wid (by omega) (by omega)
    have h4 : decide ((0 : Int) ≤ rd ns i ∧ rd ns i ≤ 9) = true := decide_eq_true hp
    apply Ev.succ
    simp only [impl_PatternOk.l1, h1, h2, h3, within_eq, h4, Option.bind_some, if_true]
    exact h
  · intro i hi hp
    have h1 : (i : Int) < (ns.length : Int) := by omega
    have h2 : (0 : Int) ≤ (i : Int) := by omega
    have h4 : decide ((0 : Int) ≤ rd ns i ∧ rd ns i ≤ 9) = false := decide_eq_false hp
    apply Ev.succ
    simp only [impl_PatternOk.l1, h1, h2, within_eq, h4, Option.bind_some, if_true, Bool.false_eq_true, if_false]
    exact Ev.now _
  · apply Ev.succ
    simp only [impl_PatternOk.l1, Int.lt_irrefl, if_false]
    exact Ev.now _
  · by_cases h : ∀ i, i < ns.length → figOk (rd ns i) <;> simp [h]
theorem impl_PatternOk_l0 (s : ByteArray) (ns : List Int) (hs : s.size ≤ 9223372036854775800) (hn : ns.length ≤ 9223372036854775800) :
    Ev (fun k => impl_PatternOk.l0 k (s.size : Int) 0 s ns) (decide (∀ i, i < s.size → signOk s i) && decide (∀ i, i < ns.length → figOk (rd ns i))) := by
  refine Ev.cast (all_loop (g := fun k x => impl_PatternOk.l0 k (s.size : Int) x s ns) s.size (signOk s) false (decide (∀ i, i < ns.length → figOk (rd ns i))) ?_ ?_ ?_) ?_
  · intro i r hi hp h
    have h1 : (i : Int) < (s.size : Int) := by omega
    have h2 : (0 : Int) ≤ (i : Int) := by omega
    have h3 : wrap64 ((i : Int) + 1) = (i : Int) + 1 := wid (by omega) (by omega)
    have h5 : wrap64 ((s.size : Int) - 1) = (s.size : Int) - 1 := wid (by omega) (by omega)
    have h6 : (i : Int) ≤ (i : Int) + 1 := by omega
    have h7 : (i : Int) + 1 ≤ (s.size : Int) := by omega
    have e1 : ((i : Int) + 1).toNat = i + 1 := by omega
    have e0 : ((i : Int)).toNat = i := by omega
    have hlow := impl_lower_ev (s.extract i (i + 1)) (by rw [ByteArray.size_extract]; omega)
    have hval : (97 ≤ bt s i ∧ bt s i ≤ 122) → decide (∀ j, j < (s.extract i (i + 1)).size → 97 ≤ bt (s.extract i (i + 1)) j ∧ bt (s.extract i (i + 1)) j ≤ 122) = true := by
      intro hb
      refine decide_eq_true (fun j hj => ?_)
      rw [ByteArray.size_extract] at hj
      obtain rfl : j = 0 := by omega
      rw [bt_extract s i (i + 1) 0 (by omega) (by omega)]
      exact hb
    apply Ev.succ
    simp only [impl_PatternOk.l0, h1, h2, h3, h5, h6, h7, e0, e1, if_true]
    by_cases c : bt s i = 46
    · simp only [c, if_true]
      by_cases c0 : (i : Int) = 0
      · simp only [c0, if_true]
        rw [c0] at h
        exact h
      · simp only [c0, if_false]
        by_cases c1 : (i : Int) = (s.size : Int) - 1
        · simp only [c1, if_true]
          rw [c1] at h
          exact h
        · rcases hp with ⟨_, hp | hp⟩ | hp
          · omega
          · omega
          · omega
    · rcases hp with ⟨hp, _⟩ | hp
      · exact absurd hp c
      · simp only [c, if_false]
        rw [hval hp] at hlow
        refine Ev.bind hlow ?_
        simp only [if_true]
        exact h
  · intro i hi hp
    have h1 : (i : Int) < (s.size : Int) := by omega
    have h2 : (0 : Int) ≤ (i : Int) := by omega
    have h3 : wrap64 ((i : Int) + 1) = (i : Int) + 1 := wid (by omega) (by omega)
    have h5 : wrap64 ((s.size : Int) - 1) = (s.size : Int) - 1 := wid (by omega) (by omega)
    have h6 : (i : Int) ≤ (i : Int) + 1 := by omega
    have h7 : (i : Int) + 1 ≤ (s.size : Int) := by omega
    have e1 : ((i : Int) + 1).toNat = i + 1 := by omega
    have e0 : ((i : Int)).toNat = i := by omega
    have hq := not_or.1 hp
    have hlow := impl_lower_ev (s.extract i (i + 1)) (by rw [ByteArray.size_extract]; omega)
    have hval : decide (∀ j, j < (s.extract i (i + 1)).size → 97 ≤ bt (s.extract i (i + 1)) j ∧ bt (s.extract i (i + 1)) j ≤ 122) = false := by
      refine decide_eq_false (fun hb => hq.2 ?_)
      have hz := hb 0 (by rw [ByteArray.size_extract]; omega)
      rw [bt_extract s i (i + 1) 0 (by omega) (by omega)] at hz
      exact hz
    rw [hval] at hlow
    apply Ev.succ
    simp only [impl_PatternOk.l0, h1, h2, h3, h5, h6, h7, e0, e1, if_true]
    by_cases c : bt s i = 46
    · have c0 : ¬ (i : Int) = 0 := fun e => hq.1 ⟨c, .inl (by omega)⟩
      have c1 : ¬ (i : Int) = (s.size : Int) - 1 := fun e => hq.1 ⟨c, .inr (by omega)⟩
      simp only [c, c0, c1, if_true, if_false]
      refine Ev.bind hlow ?_
      simp only [Bool.false_eq_true, if_false]
      exact Ev.now _
    · simp only [c, if_false]
      refine Ev.bind hlow ?_
      simp only [Bool.false_eq_true, if_false]
      exact Ev.now _
  · apply Ev.succ
    simp only [impl_PatternOk.l0, Int.lt_irrefl, if_false]
    exact impl_PatternOk_l1 ns hn
  · by_cases h : ∀ i, i < s.size → signOk s i <;> simp [h]
theorem impl_PatternOk_ev (s : ByteArray) (ns : List Int) (hs : s.size ≤ 9223372036854775800) (hn : ns.length ≤ 9223372036854775800) :
    Ev (fun k => impl_PatternOk.f k s ns) (patOk s ns) := by
  unfold impl_PatternOk.f
  have h3 : wrap64 ((s.size : Int) + 1) = (s.size : Int) + 1 := wid (by omega) (by omega)
  simp only [within_eq, Option.bind_some, h3]
  by_cases h : 1 ≤ s.size ∧ s.size ≤ 8
  · have h4 : decide ((1 : Int) ≤ (s.size : Int) ∧ (s.size : Int) ≤ 8) = true := decide_eq_true (by omega)
    simp only [h4, if_true]
    apply Ev.succ
    by_cases e : ns.length = s.size + 1
    · have e1 : ((ns.length : Int) != (s.size : Int) + 1) = false := by rw [bne_eq_false_iff_eq]; omega
      simp only [impl_PatternOk.j0, e1, Bool.false_eq_true, if_false]
      refine Ev.cast (impl_PatternOk_l0 s ns hs hn) ?_
      simp [patOk, h, e]
    · have e1 : ((ns.length : Int) != (s.size : Int) + 1) = true := by rw [bne_iff_ne]; omega
      simp only [impl_PatternOk.j0, e1, if_true]
      refine Ev.cast (Ev.now _) ?_
      simp [patOk, e]
  · have h4 : decide ((1 : Int) ≤ (s.size : Int) ∧ (s.size : Int) ≤ 8) = false := decide_eq_false (by omega)
    simp only [h4, Bool.false_eq_true, if_false]
    apply Ev.succ
    simp only [impl_PatternOk.j0, if_true]
    refine Ev.cast (Ev.now _) ?_
    have : decide (1 ≤ s.size ∧ s.size ≤ 8) = false := decide_eq_false h
    simp [patOk, this]
theorem toIntS_ev (xs : List Int) (h : xs.length ≤ 35184372088832) : Ev (fun k => laws_toIntS.f k xs) xs := by
  unfold laws_toIntS.f
  have h1 : (0 : Int) ≤ (xs.length : Int) := by omega
  have h2 : ((xs.length : Int)).toNat = xs.length := by omega
  simp only [h1, h2, h, if_true]
  refine Ev.cast (fold_loop (g := fun k ys x => laws_toIntS.l0 k xs ys x) xs.length (fun i => (xs.take i).map id ++ List.replicate (xs.length - i) 0) xs ?_ ?_) rfl |> fun z => (by simpa using z)
  · intro i hi hr
    have c1 : (i : Int) < (xs.length : Int) := by omega
    have c2 : (0 : Int) ≤ (i : Int) := by omega
    have c3 : wrap64 ((i : Int) + 1) = (i : Int) + 1 := wid (by omega) (by omega)
    have c4 : (i : Int) < (((xs.take i).map id ++ List.replicate (xs.length - i) 0).length : Int) := by simp; omega
    have c5 : ((i : Int)).toNat = i := by omega
    have c6 : rd xs i = id xs[i] := by simp [rd, hi]
    apply Ev.succ
    simp only [laws_toIntS.l0, c1, c2, c3, c4, c5, c6, if_true, copy_set id xs 0 i hi]
    exact hr
  · apply Ev.succ
    simp only [laws_toIntS.l0, Int.lt_irrefl, if_false]
    refine Ev.cast (Ev.now _) ?_
    simp
theorem toPattern_ev (s : ByteArray) (xs : List Int) (h : xs.length ≤ 35184372088832) : Ev (fun k => laws_toPattern.f k s xs) (s, xs) := by
  unfold laws_toPattern.f
  refine Ev.bind (toIntS_ev xs h) ?_
  exact Ev.now _
theorem eqIntS_refl (xs : List Int) (h : xs.length ≤ 9223372036854775800) : Ev (fun k => laws_eqIntS.f k xs xs) true := by
  unfold laws_eqIntS.f
  simp only [if_true]
  refine Ev.cast (all_loop (g := fun k x => laws_eqIntS.l0 k xs xs x) xs.length (fun _ => True) false true ?_ ?_ ?_) (by simp)
  · intro i r hi _ hr
    have c1 : (i : Int) < (xs.length : Int) := by omega
    have c2 : (0 : Int) ≤ (i : Int) := by omega
    have c3 : wrap64 ((i : Int) + 1) = (i : Int) + 1 := wid (by omega) (by omega)
    apply Ev.succ
    simp only [laws_eqIntS.l0, c1, c2, c3, if_true]
    exact hr
  · intro i hi hp
    exact absurd trivial hp
  · apply Ev.succ
    simp only [laws_eqIntS.l0, Int.lt_irrefl, if_false]
    exact Ev.now _
theorem eqPattern_refl (s : ByteArray) (xs : List Int) (h : xs.length ≤ 9223372036854775800) : Ev (fun k => laws_eqPattern.f k s xs s xs) true := by
  unfold laws_eqPattern.f
  simp only [if_true]
  refine Ev.bind (eqIntS_refl xs h) ?_
  simp only [if_true]
  exact Ev.now _
theorem szPattern_small (s : ByteArray) (xs : List Int) (hs : s.size ≤ 9223372036854775807) (hn : xs.length ≤ 9223372036854775807) (left : Int) (h0 : 0 ≤ left) (h1 : left ≤ 1048576) :
    ∃ r, laws_szPattern.f s xs left = some r ∧ r ≤ left ∧ -1 ≤ r ∧ (0 ≤ r → (s.size : Int) + (xs.length : Int) + r = left) := by
  unfold laws_szPattern.f laws_szIntS.f
  have e1 : wrap64 (left - (s.size : Int)) = left - (s.size : Int) := wid (by omega) (by omega)
  rw [e1]
  by_cases c : left - (s.size : Int) < 0
  · rw [if_pos c]
    exact ⟨_, rfl, by omega, by omega, fun h => by omega⟩
  · rw [if_neg c]
    have e2 : wrap64 (left - (s.size : Int) - (xs.length : Int)) = left - (s.size : Int) - (xs.length : Int) := wid (by omega) (by omega)
    rw [e2]
    by_cases c2 : left - (s.size : Int) - (xs.length : Int) < 0
    · rw [if_pos c2]
      exact ⟨-1, by simp, by omega, by omega, fun h => by omega⟩
    · rw [if_neg c2]
      simp only [Option.bind_some, c2, if_false]
      exact ⟨_, rfl, by omega, by omega, fun h => by omega⟩
end Go.Proofs.Ytndjhgjakdkkaaa.M
end

section
-- Printed for this claim by a program (mprint.py) that uses the kit's print; Lean checks it.
namespace Go.Proofs.Ytndjhgjakdkkaaa.M
open Go.RowKit Go.Proofs.YtndjhgjakdkkaaaW.PrintWords Go.Proofs.YtndjhgjakdkkaaaW.PrintLast Go.Proofs.YtndjhgjakdkkaaaW.PrintMore
attribute [local go_sem] max2_int min2_int max_two min_two max_three min_three max_four min_four   -- for this text's walks alone
set_option linter.unusedVariables false
set_option linter.unusedSimpArgs false
end Go.Proofs.Ytndjhgjakdkkaaa.M
end

section
-- Printed for this claim by a program (mprint.py) that uses the kit's print; Lean checks it.
namespace Go.Proofs.Ytndjhgjakdkkaaa.M
open Go.RowKit Go.Proofs.YtndjhgjakdkkaaaW.PrintWords Go.Proofs.YtndjhgjakdkkaaaW.PrintLast Go.Proofs.YtndjhgjakdkkaaaW.PrintMore
attribute [local go_sem] max2_int min2_int max_two min_two max_three min_three max_four min_four   -- for this text's walks alone
set_option linter.unusedVariables false
set_option linter.unusedSimpArgs false
end Go.Proofs.Ytndjhgjakdkkaaa.M
end

section
/- The plain meaning of SplitAt and SplitText in the program and in the reference. -/
namespace Go.Proofs.Ytndjhgjakdkkaaa.M
open Go.RowKit Go.Proofs.YtndjhgjakdkkaaaW.PrintWords Go.Proofs.Ytndjhgjakdkkaaa.Pu
set_option linter.unusedVariables false
set_option linter.unusedSimpArgs false
abbrev Pat := S27
abbrev LPat := S24
theorem rdP_nat (xs : List Pat) (i : Nat) (h : i < xs.length) : rd_T27 xs (i : Int) = xs[i] := by
  simp [rd_T27, h]
theorem rdLP_nat (xs : List LPat) (i : Nat) (h : i < xs.length) : rd_T24 xs (i : Int) = xs[i] := by
  simp [rd_T24, h]
def wordB (s : ByteArray) : Bool := decide (∀ i, i < s.size → 97 ≤ bt s i ∧ bt s i ≤ 122) && decide (1 ≤ s.size ∧ s.size ≤ 12)
theorem spec_l1Letters_ev (s : ByteArray) (m : Int) (hs : s.size ≤ 9223372036854775800) :
    Ev (fun k => spec_l1Letters.f k s m) (decide (∀ i, i < s.size → 97 ≤ bt s i ∧ bt s i ≤ 122) && decide ((s.size : Int) ≤ m)) := by
  unfold spec_l1Letters.f
  refine Ev.cast (all_loop (g := fun k x => spec_l1Letters.l0 k s m x) s.size (fun i => 97 ≤ bt s i ∧ bt s i ≤ 122) false (decide ((s.size : Int) ≤ m)) ?_ ?_ ?_) ?_
  · intro i r hi hp h
    have h1 : (i : Int) < (s.size : Int) := by omega
    have h2 : (0 : Int) ≤ (i : Int) := by omega
    have h3 : Aside0 (wrap64 ((i : Int) + 1) = (i : Int) + 1) := ⟨wid (by omega) (by omega)⟩
    have c2 : ¬ bt s i < 97 := by omega
    have c3 : ¬ bt s i > 122 := by omega
    apply Ev.succ
    simp only [spec_l1Letters.l0, h1, h2, h3.out, c2, c3, if_true, if_false]
    exact h
  · intro i hi hp
    have h1 : (i : Int) < (s.size : Int) := by omega
    have h2 : (0 : Int) ≤ (i : Int) := by omega
    apply Ev.succ
    by_cases c2 : bt s i < 97
    · simp only [spec_l1Letters.l0, h1, h2, c2, if_true]
      exact Ev.now _
    · have c3 : bt s i > 122 := by omega
      simp only [spec_l1Letters.l0, h1, h2, c2, c3, if_true, if_false]
      exact Ev.now _
  · apply Ev.succ
    simp only [spec_l1Letters.l0, Int.lt_irrefl, if_false]
    exact Ev.now _
  · by_cases h : ∀ i, i < s.size → 97 ≤ bt s i ∧ bt s i ≤ 122 <;> simp [h]
theorem spec_l1Word_ev (s : ByteArray) (hs : s.size ≤ 9223372036854775800) : Ev (fun k => spec_l1Word.f k s) (wordB s) := by
  unfold spec_l1Word.f
  by_cases h : (s.size : Int) > 0
  · simp only [h, if_true]
    refine Ev.bind (spec_l1Letters_ev s 12 hs) (Ev.cast (Ev.now _) ?_)
    unfold wordB
    congr 1
    exact decide_eq_decide.2 (by omega)
  · simp only [h, if_false]
    refine Ev.cast (Ev.now _) ?_
    unfold wordB
    have : decide (1 ≤ s.size ∧ s.size ≤ 12) = false := decide_eq_false (by omega)
    simp [this]
theorem impl_WordOk_ev (s : ByteArray) (hs : s.size ≤ 9223372036854775800) : Ev (fun k => impl_WordOk.f k s) (wordB s) := by
  unfold impl_WordOk.f
  simp only [within_eq, Option.bind_some]
  by_cases h : 1 ≤ s.size ∧ s.size ≤ 12
  · have h4 : decide ((1 : Int) ≤ (s.size : Int) ∧ (s.size : Int) ≤ 12) = true := decide_eq_true (by omega)
    simp only [h4, if_true]
    refine Ev.bind (impl_lower_ev s hs) (Ev.cast (Ev.now _) ?_)
    simp [wordB, h]
  · have h4 : decide ((1 : Int) ≤ (s.size : Int) ∧ (s.size : Int) ≤ 12) = false := decide_eq_false (by omega)
    simp only [h4, Bool.false_eq_true, if_false]
    refine Ev.cast (Ev.now _) ?_
    have : decide (1 ≤ s.size ∧ s.size ≤ 12) = false := decide_eq_false h
    simp [wordB, this]
def small (ps : List Pat) : Prop := ps.length ≤ 1048576 ∧ ∀ p ∈ ps, p.f0.size ≤ 1048576 ∧ p.f1.length ≤ 1048576
def patsB (ps : List Pat) : Bool := decide (∀ i (h : i < ps.length), patOk ps[i].f0 ps[i].f1 = true) && decide (ps.length ≤ 20)
theorem spec_l9Patterns_ev (ps : List Pat) (hs : small ps) : Ev (fun k => spec_l9Patterns.f k ps) (patsB ps) := by
  have hl := hs.1
  unfold spec_l9Patterns.f
  refine Ev.cast (all_loop (g := fun k x => spec_l9Patterns.l0 k ps x) ps.length (fun i => ∀ h : i < ps.length, patOk ps[i].f0 ps[i].f1 = true) false (decide ((ps.length : Int) ≤ 20)) ?_ ?_ ?_) ?_
  · intro i r hi hp h
    have h1 : (i : Int) < (ps.length : Int) := by omega
    have h2 : (0 : Int) ≤ (i : Int) := by omega
    have h3 : Aside0 (wrap64 ((i : Int) + 1) = (i : Int) + 1) := ⟨wid (by omega) (by omega)⟩
    have hb := hs.2 ps[i] (List.getElem_mem hi)
    apply Ev.succ
    simp only [spec_l9Patterns.l0, h1, h2, h3.out, rdP_nat ps i hi, if_true]
    refine Ev.bind (Ev.cast (spec_PatternOk_ev _ _ (by omega) (by omega)) (hp hi)) ?_
    simp only [if_true]
    exact h
  · intro i hi hp
    have h1 : (i : Int) < (ps.length : Int) := by omega
    have h2 : (0 : Int) ≤ (i : Int) := by omega
    have hb := hs.2 ps[i] (List.getElem_mem hi)
    have hf : patOk ps[i].f0 ps[i].f1 = false := by
      cases e : patOk ps[i].f0 ps[i].f1 with
      | false => rfl
      | true => exact absurd (fun _ => e) hp
    apply Ev.succ
    simp only [spec_l9Patterns.l0, h1, h2, rdP_nat ps i hi, if_true]
    refine Ev.bind (Ev.cast (spec_PatternOk_ev _ _ (by omega) (by omega)) hf) ?_
    simp only [Bool.false_eq_true, if_false]
    exact Ev.now _
  · apply Ev.succ
    simp only [spec_l9Patterns.l0, Int.lt_irrefl, if_false]
    exact Ev.now _
  · unfold patsB
    have e : decide ((ps.length : Int) ≤ 20) = decide (ps.length ≤ 20) := decide_eq_decide.2 (by omega)
    rw [e]
    by_cases h : ∀ i (h : i < ps.length), patOk ps[i].f0 ps[i].f1 = true
    · rw [if_pos (fun i hi _ => h i hi), decide_eq_true h, Bool.true_and]
    · rw [if_neg (fun h' => h (fun i hi => h' i hi hi)), decide_eq_false h, Bool.false_and]
theorem impl_patternsOk_ev (ps : List Pat) (hs : small ps) : Ev (fun k => impl_patternsOk.f k ps) (patsB ps) := by
  have hl := hs.1
  unfold impl_patternsOk.f
  refine Ev.cast (all_loop (g := fun k x => impl_patternsOk.l0 k ps ps (ps.length : Int) x) ps.length (fun i => ∀ h : i < ps.length, patOk ps[i].f0 ps[i].f1 = true) false (decide ((ps.length : Int) ≤ 20)) ?_ ?_ ?_) ?_
  · intro i r hi hp h
    have h1 : (i : Int) < (ps.length : Int) := by omega
    have h2 : (0 : Int) ≤ (i : Int) := by omega
    have h3 : Aside0 (wrap64 ((i : Int) + 1) = (i : Int) + 1) := ⟨wid (by omega) (by omega)⟩
    have hb := hs.2 ps[i] (List.getElem_mem hi)
    apply Ev.succ
    simp only [impl_patternsOk.l0, h1, h2, h3.out, rdP_nat ps i hi, if_true]
    refine Ev.bind (Ev.cast (impl_PatternOk_ev _ _ (by omega) (by omega)) (hp hi)) ?_
    simp only [if_true]
    exact h
  · intro i hi hp
    have h1 : (i : Int) < (ps.length : Int) := by omega
    have h2 : (0 : Int) ≤ (i : Int) := by omega
    have hb := hs.2 ps[i] (List.getElem_mem hi)
    have hf : patOk ps[i].f0 ps[i].f1 = false := by
      cases e : patOk ps[i].f0 ps[i].f1 with
      | false => rfl
      | true => exact absurd (fun _ => e) hp
    apply Ev.succ
    simp only [impl_patternsOk.l0, h1, h2, rdP_nat ps i hi, if_true]
    refine Ev.bind (Ev.cast (impl_PatternOk_ev _ _ (by omega) (by omega)) hf) ?_
    simp only [Bool.false_eq_true, if_false]
    exact Ev.now _
  · apply Ev.succ
    simp only [impl_patternsOk.l0, Int.lt_irrefl, if_false]
    exact Ev.now _
  · unfold patsB
    have e : decide ((ps.length : Int) ≤ 20) = decide (ps.length ≤ 20) := decide_eq_decide.2 (by omega)
    rw [e]
    by_cases h : ∀ i (h : i < ps.length), patOk ps[i].f0 ps[i].f1 = true
    · rw [if_pos (fun i hi _ => h i hi), decide_eq_true h, Bool.true_and]
    · rw [if_neg (fun h' => h (fun i hi => h' i hi hi)), decide_eq_false h, Bool.false_and]
def mk (L : Nat) (m : Nat → Int) : List Int := (List.range L).map m
theorem mk_length (L : Nat) (m : Nat → Int) : (mk L m).length = L := by simp [mk]
theorem rd_mk (L : Nat) (m : Nat → Int) (q : Nat) (h : q < L) : rd (mk L m) (q : Int) = m q := by simp [rd, mk, h]
theorem set_mk (L : Nat) (m : Nat → Int) (q : Nat) (v : Int) : (mk L m).set q v = mk L (fun x => if x = q then v else m x) := by
  refine List.ext_getElem (by simp [mk]) (fun i h1 h2 => ?_)
  simp only [mk, List.length_map, List.length_range] at h2
  rw [List.getElem_set]
  simp only [mk, List.getElem_map, List.getElem_range]
  by_cases e : q = i
  · rw [if_pos e, if_pos e.symm]
  · rw [if_neg e, if_neg (fun h => e h.symm)]
theorem mk_congr (L : Nat) (m m' : Nat → Int) (h : ∀ q, q < L → m q = m' q) : mk L m = mk L m' := by
  unfold mk
  exact List.map_congr_left (fun q hq => h q (List.mem_range.1 hq))
def up (q : Nat) (v : Int) (m : Nat → Int) : Nat → Int := fun x => if x = q then max (m x) v else m x
def appl (ns : List Int) (a : Nat) : Nat → (Nat → Int) → (Nat → Int)
  | 0, m => m
  | j + 1, m => up (a + j) (rd ns (j : Int)) (appl ns a j m)
def hit (d letters : ByteArray) (a : Nat) : Prop := a + letters.size ≤ d.size ∧ d.extract a (a + letters.size) = letters
noncomputable instance hitDec (d letters : ByteArray) (a : Nat) : Decidable (hit d letters a) := Classical.propDecidable _
noncomputable def patM (d : ByteArray) (p : Pat) : Nat → (Nat → Int) → (Nat → Int)
  | 0, m => m
  | a + 1, m => if hit d p.f0 a then appl p.f1 a p.f1.length (patM d p a m) else patM d p a m
noncomputable def patsM (d : ByteArray) (ps : List Pat) : Nat → (Nat → Int)
  | 0 => fun _ => 0
  | i + 1 => match ps[i]? with
    | some p => patM d p d.size (patsM d ps i)
    | none => patsM d ps i
theorem patM_stop (d : ByteArray) (p : Pat) (m : Nat → Int) (a : Nat) (h : d.size < a + p.f0.size) : ∀ c, patM d p (a + c) m = patM d p a m
  | 0 => rfl
  | c + 1 => by
    have : ¬ hit d p.f0 (a + c) := fun hh => by have := hh.1; omega
    show (if hit d p.f0 (a + c) then _ else patM d p (a + c) m) = _
    rw [if_neg this, patM_stop d p m a h c]
def odds (m : Nat → Int) (n : Nat) : Nat → List Int
  | 0 => []
  | c + 1 => if Int.tmod (m (c + 2)) 2 = 1 then odds m n c ++ [((c + 2 : Nat) : Int)] else odds m n c
theorem odds_length (m : Nat → Int) (n : Nat) : ∀ c, (odds m n c).length ≤ c
  | 0 => Nat.le_refl _
  | c + 1 => by
    have := odds_length m n c
    unfold odds
    split
    · simp; omega
    · omega
noncomputable def splitL (ps : List Pat) (w : ByteArray) : List Int :=
  if patsB ps = true ∧ wordB w = true then odds (fun q => patsM ((⟨#[46]⟩ : ByteArray) ++ w ++ (⟨#[46]⟩ : ByteArray)) ps ps.length (q + 1)) w.size (w.size - 3) else []
theorem spec_l2 (ps : List Pat) (d : ByteArray) (hd : d.size ≤ 1048576) (L : Nat) (hL : L = d.size + 1) (i : Nat) (hi : i < ps.length) (hil : ps.length ≤ 1048576) (hn : ps[i].f1.length = ps[i].f0.size + 1) (a : Nat) (ha : a + ps[i].f0.size ≤ d.size)
    (m : Nat → Int) (r : List Int) (h : Ev (fun k => spec_l9Marks.l1 k ps d (mk L (if hit d ps[i].f0 a then appl ps[i].f1 a ps[i].f1.length m else m)) (i : Int) (ps[i].f0.size : Int) ((a : Int) + 1)) r) :
    Ev (fun k => spec_l9Marks.l2 k ps d (mk L m) (i : Int) (ps[i].f0.size : Int) (a : Int) 0) r := by
  have e0 : (a : Int).toNat = a := by omega
  have e1 : ((a : Int) + (ps[i].f0.size : Int)).toNat = a + ps[i].f0.size := by omega
  have w1 : Aside0 (wrap64 ((a : Int) + (ps[i].f0.size : Int)) = (a : Int) + (ps[i].f0.size : Int)) := ⟨wid (by omega) (by omega)⟩
  have c1 : (0 : Int) ≤ (a : Int) := by omega
  have c2 : (a : Int) ≤ (a : Int) + (ps[i].f0.size : Int) := by omega
  have c3 : (a : Int) + (ps[i].f0.size : Int) ≤ (d.size : Int) := by omega
  have c4 : (0 : Int) ≤ (i : Int) := by omega
  have c5 : (i : Int) < (ps.length : Int) := by omega
  have w2 : Aside0 (wrap64 ((a : Int) + 1) = (a : Int) + 1) := ⟨wid (by omega) (by omega)⟩
  by_cases hh : hit d ps[i].f0 a
  · rw [if_pos hh] at h
    have hb : Aside0 (((d.extract a (a + ps[i].f0.size)).toList == ps[i].f0.toList) = true) := ⟨by rw [hh.2]; exact beq_self_eq_true _⟩
    refine fold_loop (g := fun k b x => spec_l9Marks.l2 k ps d b (i : Int) (ps[i].f0.size : Int) (a : Int) x) (ps[i].f1.length) (fun j => mk L (appl ps[i].f1 a j m)) r ?_ ?_
    · intro j hj hr
      have d1 : (j : Int) ≤ (ps[i].f0.size : Int) := by omega
      have d2 : (0 : Int) ≤ (j : Int) := by omega
      have d3 : (j : Int) < (ps[i].f1.length : Int) := by omega
      have w3 : Aside0 (wrap64 ((a : Int) + (j : Int)) = ((a + j : Nat) : Int)) := ⟨by rw [wid (by omega) (by omega)]; omega⟩
      have d4 : (0 : Int) ≤ ((a + j : Nat) : Int) := by omega
      have d5 : ((a + j : Nat) : Int) < ((mk L (appl ps[i].f1 a j m)).length : Int) := by rw [mk_length]; omega
      have w4 : Aside0 (wrap64 ((j : Int) + 1) = (j : Int) + 1) := ⟨wid (by omega) (by omega)⟩
      have e3 : ((a + j : Nat) : Int).toNat = a + j := by omega
      have hrd : rd (mk L (appl ps[i].f1 a j m)) ((a + j : Nat) : Int) = appl ps[i].f1 a j m (a + j) := rd_mk L _ (a + j) (by omega)
      apply Ev.succ
      simp only [spec_l9Marks.l2, d1, c1, w1.out, c2, c3, c4, c5, e0, e1, rdP_nat ps i hi, hb.out, if_true]
      apply Ev.succ
      simp only [spec_l9Marks.j3, c4, c5, rdP_nat ps i hi, d2, d3, w3.out, d4, d5, hrd, w4.out, e3, if_true]
      by_cases g : rd ps[i].f1 (j : Int) > appl ps[i].f1 a j m (a + j)
      · simp only [g, if_true, set_mk]
        have : mk L (fun x => if x = a + j then rd ps[i].f1 (j : Int) else appl ps[i].f1 a j m x) = mk L (appl ps[i].f1 a (j + 1) m) := by
          refine mk_congr L _ _ (fun q _ => ?_)
          show _ = up (a + j) (rd ps[i].f1 (j : Int)) (appl ps[i].f1 a j m) q
          unfold up
          by_cases e : q = a + j
          · rw [if_pos e, if_pos e, e]; omega
          · rw [if_neg e, if_neg e]
        rw [this]
        exact hr
      · simp only [g, if_false]
        have : mk L (appl ps[i].f1 a j m) = mk L (appl ps[i].f1 a (j + 1) m) := by
          refine mk_congr L _ _ (fun q _ => ?_)
          show _ = up (a + j) (rd ps[i].f1 (j : Int)) (appl ps[i].f1 a j m) q
          unfold up
          by_cases e : q = a + j
          · rw [if_pos e, e]; omega
          · rw [if_neg e]
        rw [this]
        exact hr
    · have d1 : ¬ (ps[i].f1.length : Int) ≤ (ps[i].f0.size : Int) := by omega
      apply Ev.succ
      simp only [spec_l9Marks.l2, d1, if_false]
      apply Ev.succ
      simp only [spec_l9Marks.j3, Bool.false_eq_true, if_false, w2.out]
      exact h
  · rw [if_neg hh] at h
    have hb : ((d.extract a (a + ps[i].f0.size)).toList == ps[i].f0.toList) = false := by
      rw [beq_eq_false_iff_ne]
      exact fun e => hh ⟨ha, toList_inj.1 e⟩
    have d1 : (0 : Int) ≤ (ps[i].f0.size : Int) := by omega
    apply Ev.succ
    simp only [spec_l9Marks.l2, d1, c1, w1.out, c2, c3, c4, c5, e0, e1, rdP_nat ps i hi, hb, if_true]
    apply Ev.succ
    simp only [spec_l9Marks.j3, Bool.false_eq_true, if_false, w2.out]
    exact h
theorem spec_l1 (ps : List Pat) (d : ByteArray) (hd : d.size ≤ 1048576) (L : Nat) (hL : L = d.size + 1) (i : Nat) (hi : i < ps.length) (hil : ps.length ≤ 1048576) (hz : ps[i].f0.size ≤ 1048576) (hp : 1 ≤ ps[i].f0.size) (hn : ps[i].f1.length = ps[i].f0.size + 1)
    (m : Nat → Int) (r : List Int) (h : Ev (fun k => spec_l9Marks.l0 k ps d (mk L (patM d ps[i] d.size m)) ((i : Int) + 1)) r) :
    Ev (fun k => spec_l9Marks.l1 k ps d (mk L m) (i : Int) (ps[i].f0.size : Int) 0) r := by
  have wi : Aside0 (wrap64 ((i : Int) + 1) = (i : Int) + 1) := ⟨wid (by omega) (by omega)⟩
  refine fold_loop (g := fun k b x => spec_l9Marks.l1 k ps d b (i : Int) (ps[i].f0.size : Int) x) (d.size + 1 - ps[i].f0.size) (fun a => mk L (patM d ps[i] a m)) r ?_ ?_
  · intro a ha hr
    have w1 : Aside0 (wrap64 ((a : Int) + (ps[i].f0.size : Int)) = (a : Int) + (ps[i].f0.size : Int)) := ⟨wid (by omega) (by omega)⟩
    have c3 : (a : Int) + (ps[i].f0.size : Int) ≤ (d.size : Int) := by omega
    apply Ev.succ
    simp only [spec_l9Marks.l1, w1.out, c3, if_true]
    exact spec_l2 ps d hd L hL i hi hil hn a (by omega) (patM d ps[i] a m) r hr
  · have w1 : Aside0 (wrap64 (((d.size + 1 - ps[i].f0.size : Nat) : Int) + (ps[i].f0.size : Int)) = ((d.size + 1 - ps[i].f0.size : Nat) : Int) + (ps[i].f0.size : Int)) := ⟨wid (by omega) (by omega)⟩
    have c3 : ¬ ((d.size + 1 - ps[i].f0.size : Nat) : Int) + (ps[i].f0.size : Int) ≤ (d.size : Int) := by omega
    apply Ev.succ
    simp only [spec_l9Marks.l1, w1.out, c3, if_false, wi.out]
    have : patM d ps[i] d.size m = patM d ps[i] (d.size + 1 - ps[i].f0.size) m := by
      rcases Nat.lt_or_ge d.size (d.size + 1 - ps[i].f0.size) with h1 | h1
      · omega
      · have := patM_stop d ps[i] m (d.size + 1 - ps[i].f0.size) (by omega) (d.size - (d.size + 1 - ps[i].f0.size))
        rw [← this]
        congr 1
        omega
    rw [this] at h
    exact h
theorem patsM_succ (d : ByteArray) (ps : List Pat) (i : Nat) (h : i < ps.length) : patsM d ps (i + 1) = patM d ps[i] d.size (patsM d ps i) := by
  show (match ps[i]? with | some p => patM d p d.size (patsM d ps i) | none => patsM d ps i) = _
  rw [List.getElem?_eq_getElem h]
def goodPats (ps : List Pat) : Prop := ps.length ≤ 20 ∧ ∀ i (h : i < ps.length), 1 ≤ ps[i].f0.size ∧ ps[i].f0.size ≤ 8 ∧ ps[i].f1.length = ps[i].f0.size + 1
theorem goodPats_of (ps : List Pat) (h : patsB ps = true) : goodPats ps := by
  unfold patsB at h
  rw [Bool.and_eq_true] at h
  refine ⟨of_decide_eq_true h.2, fun i hi => ?_⟩
  have := of_decide_eq_true h.1 i hi
  unfold patOk at this
  simp only [Bool.and_eq_true, decide_eq_true_eq] at this
  obtain ⟨_, _, h1, h2⟩ := this
  exact ⟨h1.1, h1.2, h2⟩
theorem spec_l9Marks_ev (ps : List Pat) (hg : goodPats ps) (d : ByteArray) (hd : d.size ≤ 1048576) : Ev (fun k => spec_l9Marks.f k ps d) (mk (d.size + 1) (patsM d ps ps.length)) := by
  have hl := hg.1
  have w1 : Aside0 (wrap64 ((d.size : Int) + 1) = (d.size : Int) + 1) := ⟨wid (by omega) (by omega)⟩
  have c1 : (0 : Int) ≤ (d.size : Int) + 1 := by omega
  have e1 : ((d.size : Int) + 1).toNat = d.size + 1 := by omega
  have c2 : d.size + 1 ≤ 35184372088832 := by omega
  unfold spec_l9Marks.f
  simp only [w1.out, c1, e1, c2, if_true]
  have z : List.replicate (d.size + 1) (0 : Int) = mk (d.size + 1) (patsM d ps 0) := by
    refine List.ext_getElem (by simp [mk]) (fun i h1 h2 => ?_)
    simp [mk, patsM]
  rw [z]
  refine fold_loop (g := fun k b x => spec_l9Marks.l0 k ps d b x) ps.length (fun i => mk (d.size + 1) (patsM d ps i)) _ ?_ ?_
  · intro i hi hr
    have c3 : (i : Int) < (ps.length : Int) := by omega
    have c4 : (0 : Int) ≤ (i : Int) := by omega
    obtain ⟨g1, g2, g3⟩ := hg.2 i hi
    apply Ev.succ
    simp only [spec_l9Marks.l0, c3, c4, rdP_nat ps i hi, if_true]
    rw [patsM_succ d ps i hi] at hr
    exact spec_l1 ps d hd _ rfl i hi (by omega) (by omega) g1 g3 _ _ hr
  · apply Ev.succ
    simp only [spec_l9Marks.l0, Int.lt_irrefl, if_false]
    exact Ev.now _
theorem dotted_size (w : ByteArray) : ((⟨#[46]⟩ : ByteArray) ++ w ++ (⟨#[46]⟩ : ByteArray)).size = w.size + 2 := by
  simp only [ByteArray.size_append]
  show 1 + w.size + 1 = _
  omega
theorem dot_size : (⟨#[46]⟩ : ByteArray).size = 1 := rfl
theorem spec_SplitAt_ev (ps : List Pat) (hs : small ps) (w : ByteArray) (hw : w.size ≤ 1048576) : Ev (fun k => spec_SplitAt.f k ps w) (splitL ps w) := by
  unfold spec_SplitAt.f
  refine Ev.bind (spec_l9Patterns_ev ps hs) ?_
  cases hp : patsB ps with
  | false =>
    simp only [Bool.false_eq_true, if_false]
    refine Ev.cast (Ev.now _) ?_
    simp [splitL, hp]
  | true =>
    simp only [if_true]
    refine Ev.bind (spec_l1Word_ev w (by omega)) ?_
    cases hww : wordB w with
    | false =>
      simp only [Bool.false_eq_true, if_false]
      refine Ev.cast (Ev.now _) ?_
      simp [splitL, hww]
    | true =>
      simp only [if_true]
      have hw12 : w.size ≤ 12 := by
        have z := hww
        simp only [wordB, Bool.and_eq_true, decide_eq_true_eq] at z
        omega
      refine Ev.bind (a := splitL ps w) ?_ (Ev.now _)
      unfold spec_l9At.f
      have b1 : 1 + w.size ≤ 9223372036854775807 := by omega
      have b2 : ((⟨#[46]⟩ : ByteArray) ++ w).size + 1 ≤ 9223372036854775807 := by rw [ByteArray.size_append, dot_size]; omega
      simp only [b1, b2, if_true]
      refine Ev.bind (spec_l9Marks_ev ps (goodPats_of ps hp) _ (by rw [dotted_size]; omega)) ?_
      have hsp : splitL ps w = odds (fun q => patsM ((⟨#[46]⟩ : ByteArray) ++ w ++ (⟨#[46]⟩ : ByteArray)) ps ps.length (q + 1)) w.size (w.size - 3) := by simp [splitL, hp, hww]
      rw [hsp]
      generalize hM : patsM ((⟨#[46]⟩ : ByteArray) ++ w ++ (⟨#[46]⟩ : ByteArray)) ps ps.length = M
      rw [dotted_size]
      have h64 : Aside0 (wrap64 ((w.size : Int) - 2) = (w.size : Int) - 2) := ⟨wid (by omega) (by omega)⟩
      refine (fold_loop (g := fun k b x => spec_l9At.l0 k w b (mk (w.size + 2 + 1) M) (x + 2)) (w.size - 3) (fun c => odds (fun q => M (q + 1)) w.size c) _ ?_ ?_ : Ev (fun k => spec_l9At.l0 k w _ _ (0 + 2)) _)
      · intro c hc hr
        have c1 : (c : Int) + 2 ≤ (w.size : Int) - 2 := by omega
        have w1 : Aside0 (wrap64 ((c : Int) + 2 + 1) = ((c + 3 : Nat) : Int)) := ⟨by rw [wid (by omega) (by omega)]; omega⟩
        have c2 : (0 : Int) ≤ ((c + 3 : Nat) : Int) := by omega
        have c3 : ((c + 3 : Nat) : Int) < ((mk (w.size + 2 + 1) M).length : Int) := by rw [mk_length]; omega
        have c4 : rd (mk (w.size + 2 + 1) M) ((c + 3 : Nat) : Int) = M (c + 3) := rd_mk _ _ _ (by omega)
        have c5 : (odds (fun q => M (q + 1)) w.size c).length < 17592186044416 := by have := odds_length (fun q => M (q + 1)) w.size c; omega
        have e2 : ((c : Int) + 2) = ((c + 2 : Nat) : Int) := by omega
        have e3 : ((c + 3 : Nat) : Int) = (c : Int) + 1 + 2 := by omega
        apply Ev.succ
        simp only [spec_l9At.l0, h64.out, c1, w1.out, c2, c3, c4, c5, if_true]
        by_cases t : Int.tmod (M (c + 3)) 2 = 1
        · simp only [t, if_true]
          have : odds (fun q => M (q + 1)) w.size (c + 1) = odds (fun q => M (q + 1)) w.size c ++ [((c + 2 : Nat) : Int)] := by
            show (if Int.tmod (M (c + 2 + 1)) 2 = 1 then _ else _) = _
            rw [if_pos t]
          simp only [this] at hr
          rw [e3, e2]
          exact hr
        · simp only [t, if_false]
          have : odds (fun q => M (q + 1)) w.size (c + 1) = odds (fun q => M (q + 1)) w.size c := by
            show (if Int.tmod (M (c + 2 + 1)) 2 = 1 then _ else _) = _
            rw [if_neg t]
          simp only [this] at hr
          rw [e3]
          exact hr
      · have c1 : ¬ ((w.size - 3 : Nat) : Int) + 2 ≤ (w.size : Int) - 2 := by omega
        apply Ev.succ
        simp only [spec_l9At.l0, h64.out, c1, if_false]
        exact Ev.now _
end Go.Proofs.Ytndjhgjakdkkaaa.M
end

section
/- SplitAt of the program: the same list. SplitText in both. -/
namespace Go.Proofs.Ytndjhgjakdkkaaa.M
open Go.RowKit Go.Proofs.YtndjhgjakdkkaaaW.PrintWords Go.Proofs.Ytndjhgjakdkkaaa.Pu
set_option linter.unusedVariables false
set_option linter.unusedSimpArgs false
theorem hasPrefix_eq (d letters : ByteArray) (a : Nat) (ha : a ≤ d.size) : strings_HasPrefix.f (d.extract a d.size) letters = some (decide (hit d letters a)) := by
  have hsz : (d.extract a d.size).size = d.size - a := by rw [ByteArray.size_extract]; omega
  unfold strings_HasPrefix.f stringslite_HasPrefix.f
  rw [hsz]
  by_cases h : letters.size ≤ d.size - a
  · have c1 : ((d.size - a : Nat) : Int) ≥ (letters.size : Int) := by omega
    have c2 : (0 : Int) ≤ (letters.size : Int) := by omega
    have c3 : (letters.size : Int) ≤ ((d.size - a : Nat) : Int) := by omega
    have e1 : ((letters.size : Int)).toNat = letters.size := by omega
    simp only [c1, c2, c3, e1, if_true, Option.bind_some]
    congr 1
    have e2 : (d.extract a d.size).extract 0 letters.size = d.extract a (a + letters.size) := by
      rw [ByteArray.extract_extract]
      congr 1
      omega
    rw [e2]
    by_cases hh : d.extract a (a + letters.size) = letters
    · rw [hh, beq_self_eq_true]
      exact (decide_eq_true ⟨by omega, hh⟩).symm
    · have : ((d.extract a (a + letters.size)).toList == letters.toList) = false := by
        rw [beq_eq_false_iff_ne]
        exact fun e => hh (toList_inj.1 e)
      rw [this]
      exact (decide_eq_false (fun e => hh e.2)).symm
  · have c1 : ¬ ((d.size - a : Nat) : Int) ≥ (letters.size : Int) := by omega
    simp only [c1, if_false, Option.bind_some]
    congr 1
    exact (decide_eq_false (fun e => h (by have := e.1; omega))).symm
theorem mx_eq (a b : Int) : mx a b = max a b := by unfold mx; omega
theorem impl_l2 (w : ByteArray) (hw : w.size ≤ 1048576) (o : List Int) (d : ByteArray) (hd : d.size = w.size + 2) (ps : List Pat) (n i : Int) (letters : ByteArray) (ns : List Int) (hns : ns.length ≤ 9) (a : Nat) (ha : a ≤ d.size)
    (m : Nat → Int) (r : List Int) (h : Ev (fun k => impl_SplitAt.l1 k w o (mk (w.size + 1) (fun q => appl ns a ns.length m (q + 1))) d ps n i (d.size : Int) ((a : Int) + 1) letters ns) r) :
    Ev (fun k => impl_SplitAt.l2 k w o (mk (w.size + 1) (fun q => m (q + 1))) d (a : Int) ps n i (d.size : Int) (a : Int) ns (ns.length : Int) 0 letters ns) r := by
  have w2 : Aside0 (wrap64 ((a : Int) + 1) = (a : Int) + 1) := ⟨wid (by omega) (by omega)⟩
  refine fold_loop (g := fun k b x => impl_SplitAt.l2 k w o b d (a : Int) ps n i (d.size : Int) (a : Int) ns (ns.length : Int) x letters ns) ns.length (fun j => mk (w.size + 1) (fun q => appl ns a j m (q + 1))) r ?_ ?_
  · intro j hj hr
    have c1 : (j : Int) < (ns.length : Int) := by omega
    have c2 : (0 : Int) ≤ (j : Int) := by omega
    have w1 : Aside0 (wrap64 ((a : Int) + (j : Int)) = (a : Int) + (j : Int)) := ⟨wid (by omega) (by omega)⟩
    have w3 : Aside0 (wrap64 ((a : Int) + (j : Int) - 1) = (a : Int) + (j : Int) - 1) := ⟨wid (by omega) (by omega)⟩
    have w4 : Aside0 (wrap64 ((j : Int) + 1) = (j : Int) + 1) := ⟨wid (by omega) (by omega)⟩
    apply Ev.succ
    by_cases g : 1 ≤ a + j ∧ a + j ≤ w.size + 1
    · have g1 : decide ((0 : Int) ≤ (a : Int) + (j : Int) - 1 ∧ (a : Int) + (j : Int) - 1 ≤ (w.size : Int)) = true := decide_eq_true (by omega)
      obtain ⟨q, hq⟩ : ∃ q, a + j = q + 1 := ⟨a + j - 1, by omega⟩
      have e1 : (a : Int) + (j : Int) - 1 = (q : Int) := by omega
      have c3 : (0 : Int) ≤ (q : Int) := by omega
      have c4 : (q : Int) < ((mk (w.size + 1) (fun q => appl ns a j m (q + 1))).length : Int) := by rw [mk_length]; omega
      have e2 : ((q : Int)).toNat = q := by omega
      have hrd : rd (mk (w.size + 1) (fun q => appl ns a j m (q + 1))) (q : Int) = appl ns a j m (q + 1) := rd_mk _ _ q (by omega)
      have w3' : Aside0 (wrap64 (q : Int) = (q : Int)) := ⟨by have z := w3.out; rwa [e1] at z⟩
      have c5 : (q : Int) ≤ (w.size : Int) := by omega
      simp only [impl_SplitAt.l2, c1, c2, w1.out, e1, w3'.out, w4.out, within_eq, c5, and_self, decide_true, Option.bind_some, c3, c4, e2, hrd, mx_eq, set_mk, if_true]
      have : mk (w.size + 1) (fun x => if x = q then max (appl ns a j m (q + 1)) (rd ns (j : Int)) else appl ns a j m (x + 1)) = mk (w.size + 1) (fun q => appl ns a (j + 1) m (q + 1)) := by
        refine mk_congr _ _ _ (fun x _ => ?_)
        show _ = up (a + j) (rd ns (j : Int)) (appl ns a j m) (x + 1)
        unfold up
        by_cases e : x = q
        · subst e
          rw [if_pos rfl, if_pos (by omega)]
        · rw [if_neg e, if_neg (by omega)]
      rw [this]
      exact hr
    · have g1 : decide ((0 : Int) ≤ (a : Int) + (j : Int) - 1 ∧ (a : Int) + (j : Int) - 1 ≤ (w.size : Int)) = false := decide_eq_false (by omega)
      simp only [impl_SplitAt.l2, c1, c2, w1.out, w3.out, w4.out, within_eq, g1, Option.bind_some, if_true, Bool.false_eq_true, if_false]
      have : mk (w.size + 1) (fun q => appl ns a j m (q + 1)) = mk (w.size + 1) (fun q => appl ns a (j + 1) m (q + 1)) := by
        refine mk_congr _ _ _ (fun x hx => ?_)
        show _ = up (a + j) (rd ns (j : Int)) (appl ns a j m) (x + 1)
        unfold up
        rw [if_neg (by omega)]
      rw [this]
      exact hr
  · apply Ev.succ
    simp only [impl_SplitAt.l2, Int.lt_irrefl, if_false, w2.out]
    exact h
theorem impl_l1 (w : ByteArray) (hw : w.size ≤ 1048576) (o : List Int) (d : ByteArray) (hd : d.size = w.size + 2) (ps : List Pat) (n : Int) (i : Nat) (hi : i ≤ 1048576) (p : Pat) (hns : p.f1.length ≤ 9)
    (m : Nat → Int) (r : List Int) (h : Ev (fun k => impl_SplitAt.l0 k w o (mk (w.size + 1) (fun q => patM d p d.size m (q + 1))) d ps n ((i : Int) + 1)) r) :
    Ev (fun k => impl_SplitAt.l1 k w o (mk (w.size + 1) (fun q => m (q + 1))) d ps n (i : Int) (d.size : Int) 0 p.f0 p.f1) r := by
  have wi : Aside0 (wrap64 ((i : Int) + 1) = (i : Int) + 1) := ⟨wid (by omega) (by omega)⟩
  refine fold_loop (g := fun k b x => impl_SplitAt.l1 k w o b d ps n (i : Int) (d.size : Int) x p.f0 p.f1) d.size (fun a => mk (w.size + 1) (fun q => patM d p a m (q + 1))) r ?_ ?_
  · intro a ha hr
    have c1 : (a : Int) < (d.size : Int) := by omega
    have c2 : (0 : Int) ≤ (a : Int) := by omega
    have c3 : (a : Int) ≤ (d.size : Int) := by omega
    have e1 : ((a : Int)).toNat = a := by omega
    have w1 : Aside0 (wrap64 ((a : Int) + 1) = (a : Int) + 1) := ⟨wid (by omega) (by omega)⟩
    apply Ev.succ
    by_cases hh : hit d p.f0 a
    · have : patM d p (a + 1) m = appl p.f1 a p.f1.length (patM d p a m) := if_pos hh
      simp only [this] at hr
      simp only [impl_SplitAt.l1, c1, c2, c3, e1, hasPrefix_eq d p.f0 a (by omega), Option.bind_some, hh, decide_true, if_true]
      exact impl_l2 w hw o d hd ps n (i : Int) p.f0 p.f1 hns a (by omega) _ r hr
    · have : patM d p (a + 1) m = patM d p a m := if_neg hh
      simp only [this] at hr
      simp only [impl_SplitAt.l1, c1, c2, c3, e1, w1.out, hasPrefix_eq d p.f0 a (by omega), Option.bind_some, hh, decide_false, if_true, Bool.false_eq_true, if_false]
      exact hr
  · apply Ev.succ
    simp only [impl_SplitAt.l1, Int.lt_irrefl, if_false, wi.out]
    exact h
theorem impl_SplitAt_ev (ps : List Pat) (hs : small ps) (w : ByteArray) (hw : w.size ≤ 1048576) : Ev (fun k => impl_SplitAt.f k ps w) (splitL ps w) := by
  unfold impl_SplitAt.f
  simp only [Option.bind_some]
  refine Ev.bind (impl_patternsOk_ev ps hs) ?_
  cases hp : patsB ps with
  | false =>
    simp only [Bool.false_eq_true, if_false]
    apply Ev.succ
    simp only [impl_SplitAt.j0, if_true]
    refine Ev.cast (Ev.now _) ?_
    simp [splitL, hp]
  | true =>
    simp only [if_true]
    refine Ev.bind (impl_WordOk_ev w (by omega)) ?_
    cases hww : wordB w with
    | false =>
      apply Ev.succ
      simp only [impl_SplitAt.j0, Bool.not_false, if_true]
      refine Ev.cast (Ev.now _) ?_
      simp [splitL, hww]
    | true =>
      have hg := goodPats_of ps hp
      have hl := hg.1
      have w1 : Aside0 (wrap64 ((w.size : Int) + 1) = (w.size : Int) + 1) := ⟨wid (by omega) (by omega)⟩
      have c1 : (0 : Int) ≤ (w.size : Int) + 1 := by omega
      have e1 : ((w.size : Int) + 1).toNat = w.size + 1 := by omega
      have c2 : w.size + 1 ≤ 35184372088832 := by omega
      have b1 : 1 + w.size ≤ 9223372036854775807 := by omega
      have b2 : ((⟨#[46]⟩ : ByteArray) ++ w).size + 1 ≤ 9223372036854775807 := by rw [ByteArray.size_append, dot_size]; omega
      have h64 : Aside0 (wrap64 ((w.size : Int) - 2) = (w.size : Int) - 2) := ⟨wid (by omega) (by omega)⟩
      have hsp : splitL ps w = odds (fun q => patsM ((⟨#[46]⟩ : ByteArray) ++ w ++ (⟨#[46]⟩ : ByteArray)) ps ps.length (q + 1)) w.size (w.size - 3) := by simp [splitL, hp, hww]
      rw [hsp]
      have hd := dotted_size w
      generalize hD : ((⟨#[46]⟩ : ByteArray) ++ w ++ (⟨#[46]⟩ : ByteArray)) = d at hd
      apply Ev.succ
      simp only [impl_SplitAt.j0, Bool.not_true, Bool.false_eq_true, if_false, w1.out, c1, e1, c2, b1, b2, hD, if_true]
      have z : List.replicate (w.size + 1) (0 : Int) = mk (w.size + 1) (fun q => patsM d ps 0 (q + 1)) := by
        refine List.ext_getElem (by simp [mk]) (fun i h1 h2 => ?_)
        simp [mk, patsM]
      rw [z]
      refine fold_loop (g := fun k b x => impl_SplitAt.l0 k w ([] : List Int) b d ps (ps.length : Int) x) ps.length (fun i => mk (w.size + 1) (fun q => patsM d ps i (q + 1))) _ ?_ ?_
      · intro i hi hr
        have c3 : (i : Int) < (ps.length : Int) := by omega
        have c4 : (0 : Int) ≤ (i : Int) := by omega
        obtain ⟨g1, g2, g3⟩ := hg.2 i hi
        apply Ev.succ
        simp only [impl_SplitAt.l0, c3, c4, rdP_nat ps i hi, if_true]
        simp only [patsM_succ d ps i hi] at hr
        exact impl_l1 w hw [] d hd ps (ps.length : Int) i (by omega) ps[i] (by omega) _ _ hr
      · apply Ev.succ
        simp only [impl_SplitAt.l0, Int.lt_irrefl, if_false]
        generalize patsM d ps ps.length = M
        refine (fold_loop (g := fun k b x => impl_SplitAt.l3 k w b (mk (w.size + 1) (fun q => M (q + 1))) (x + 2)) (w.size - 3) (fun c => odds (fun q => M (q + 1)) w.size c) _ ?_ ?_ : Ev (fun k => impl_SplitAt.l3 k w _ _ (0 + 2)) _)
        · intro c hc hr
          have c1 : (c : Int) + 2 ≤ (w.size : Int) - 2 := by omega
          have e2 : ((c : Int) + 2) = ((c + 2 : Nat) : Int) := by omega
          have c2 : (0 : Int) ≤ (c : Int) + 2 := by omega
          have c3 : (c : Int) + 2 < ((mk (w.size + 1) (fun q => M (q + 1))).length : Int) := by rw [mk_length]; omega
          have c4 : rd (mk (w.size + 1) (fun q => M (q + 1))) ((c : Int) + 2) = M (c + 3) := by rw [e2]; exact rd_mk _ _ _ (by omega)
          have c5 : (odds (fun q => M (q + 1)) w.size c).length < 17592186044416 := by have := odds_length (fun q => M (q + 1)) w.size c; omega
          have w3 : Aside0 (wrap64 ((c : Int) + 2 + 1) = (c : Int) + 1 + 2) := ⟨by rw [wid (by omega) (by omega)]; omega⟩
          apply Ev.succ
          simp only [impl_SplitAt.l3, h64.out, c1, c2, c3, c4, c5, w3.out, if_true]
          by_cases t : Int.tmod (M (c + 3)) 2 = 1
          · simp only [t, if_true]
            have : odds (fun q => M (q + 1)) w.size (c + 1) = odds (fun q => M (q + 1)) w.size c ++ [((c + 2 : Nat) : Int)] := by
              show (if Int.tmod (M (c + 2 + 1)) 2 = 1 then _ else _) = _
              rw [if_pos t]
            simp only [this] at hr
            rw [e2]
            exact hr
          · simp only [t, if_false]
            have : odds (fun q => M (q + 1)) w.size (c + 1) = odds (fun q => M (q + 1)) w.size c := by
              show (if Int.tmod (M (c + 2 + 1)) 2 = 1 then _ else _) = _
              rw [if_neg t]
            simp only [this] at hr
            exact hr
        · have c1 : ¬ ((w.size - 3 : Nat) : Int) + 2 ≤ (w.size : Int) - 2 := by omega
          apply Ev.succ
          simp only [impl_SplitAt.l3, h64.out, c1, if_false]
          exact Ev.now _
end Go.Proofs.Ytndjhgjakdkkaaa.M
end

section
/- SplitText of the program is that of the reference. -/
namespace Go.Proofs.Ytndjhgjakdkkaaa.M
open Go.RowKit Go.Proofs.YtndjhgjakdkkaaaW.PrintWords Go.Proofs.Ytndjhgjakdkkaaa.Pu
set_option linter.unusedVariables false
set_option linter.unusedSimpArgs false
abbrev dash : ByteArray := ⟨#[45]⟩
def cutT (w : ByteArray) : Nat → List Int → ByteArray
  | a, [] => w.extract a w.size
  | a, p :: ps => w.extract a p.toNat ++ dash ++ cutT w p.toNat ps
def placesFrom (n : Nat) : Nat → List Int → Prop
  | _, [] => True
  | a, p :: ps => (a : Int) ≤ p ∧ p ≤ n ∧ placesFrom n p.toNat ps
theorem splitL_length (ps : List Pat) (w : ByteArray) : (splitL ps w).length ≤ w.size := by
  unfold splitL
  split
  · have := odds_length (fun q => patsM ((⟨#[46]⟩ : ByteArray) ++ w ++ (⟨#[46]⟩ : ByteArray)) ps ps.length (q + 1)) w.size (w.size - 3)
    omega
  · simp
noncomputable def splitTextB (ps : List Pat) (w : ByteArray) : ByteArray := cutT w 0 (splitL ps w)
def conv (p : LPat) : Pat := ⟨p.f0, p.f1⟩
theorem toPatternS_ev (ps : List LPat) (hs : ps.length ≤ 1048576 ∧ ∀ p ∈ ps, p.f0.size ≤ 1048576 ∧ p.f1.length ≤ 1048576) : Ev (fun k => laws_toPatternS.f k ps) (ps.map conv) := by
  have hl := hs.1
  unfold laws_toPatternS.f
  have h1 : (0 : Int) ≤ (ps.length : Int) := by omega
  have h2 : ((ps.length : Int)).toNat = ps.length := by omega
  have h3 : ps.length ≤ 7036874417766 := by omega
  simp only [h1, h2, h3, if_true]
  have hz : List.replicate ps.length z27 = (ps.take 0).map conv ++ List.replicate (ps.length - 0) z27 := by simp
  rw [hz]
  refine fold_loop (g := fun k ys x => laws_toPatternS.l0 k ps ys x) ps.length (fun i => (ps.take i).map conv ++ List.replicate (ps.length - i) z27) _ ?_ ?_
  · intro i hi hr
    have c1 : (i : Int) < (ps.length : Int) := by omega
    have c2 : (0 : Int) ≤ (i : Int) := by omega
    have c3 : Aside0 (wrap64 ((i : Int) + 1) = (i : Int) + 1) := ⟨wid (by omega) (by omega)⟩
    have c4 : (i : Int) < (((ps.take i).map conv ++ List.replicate (ps.length - i) z27).length : Int) := by simp; omega
    have c5 : ((i : Int)).toNat = i := by omega
    have hb := hs.2 ps[i] (List.getElem_mem hi)
    apply Ev.succ
    simp only [laws_toPatternS.l0, c1, c2, rdLP_nat ps i hi, if_true]
    refine Ev.bind (toPattern_ev _ _ (by omega)) ?_
    simp only [c3.out, c4, c5, if_true]
    have := copy_set conv ps z27 i hi
    rw [show (⟨ps[i].f0, ps[i].f1⟩ : Pat) = conv ps[i] from rfl, this]
    exact hr
  · apply Ev.succ
    simp only [laws_toPatternS.l0, Int.lt_irrefl, if_false]
    refine Ev.cast (Ev.now _) ?_
    simp
theorem eqPatternS_refl (ps : List Pat) (hs : small ps) : Ev (fun k => laws_eqPatternS.f k ps ps) true := by
  have hl := hs.1
  unfold laws_eqPatternS.f
  simp only [if_true]
  refine Ev.cast (all_loop (g := fun k x => laws_eqPatternS.l0 k ps ps x) ps.length (fun _ => True) false true ?_ ?_ ?_) (by simp)
  · intro i r hi _ hr
    have c1 : (i : Int) < (ps.length : Int) := by omega
    have c2 : (0 : Int) ≤ (i : Int) := by omega
    have c3 : Aside0 (wrap64 ((i : Int) + 1) = (i : Int) + 1) := ⟨wid (by omega) (by omega)⟩
    have hb := hs.2 ps[i] (List.getElem_mem hi)
    apply Ev.succ
    simp only [laws_eqPatternS.l0, c1, c2, c3.out, rdP_nat ps i hi, if_true]
    refine Ev.bind (eqPattern_refl _ _ (by omega)) ?_
    simp only [if_true]
    exact hr
  · intro i hi hp
    exact absurd trivial hp
  · apply Ev.succ
    simp only [laws_eqPatternS.l0, Int.lt_irrefl, if_false]
    exact Ev.now _
theorem szPatternS_loop (ps : List LPat) (hl : ps.length ≤ 9223372036854775807) (hs : ∀ p ∈ ps, p.f0.size ≤ 9223372036854775807 ∧ p.f1.length ≤ 9223372036854775807) : ∀ (d i : Nat) (left : Int), ps.length - i = d → i ≤ ps.length → ps.length ≤ 1048576 → 0 ≤ left → left ≤ 1048576 →
    ∃ r, Ev (fun k => laws_szPatternS.l0 k ps left (i : Int)) r ∧ (0 ≤ r → ∀ j (h : j < ps.length), i ≤ j → ps[j].f0.size ≤ 1048576 ∧ ps[j].f1.length ≤ 1048576)
  | 0, i, left, hd, hi, hL, h0, h1 => by
    obtain rfl : i = ps.length := by omega
    refine ⟨left, ?_, fun _ j h1 h2 => by omega⟩
    apply Ev.succ
    simp only [laws_szPatternS.l0, Int.lt_irrefl, if_false]
    exact Ev.now _
  | d + 1, i, left, hd, hi, hL, h0, h1 => by
    have hi' : i < ps.length := by omega
    have c1 : (i : Int) < (ps.length : Int) := by omega
    have c2 : (0 : Int) ≤ (i : Int) := by omega
    have c3 : Aside0 (wrap64 ((i : Int) + 1) = ((i + 1 : Nat) : Int)) := ⟨by rw [wid (by omega) (by omega)]; omega⟩
    have hb := hs ps[i] (List.getElem_mem hi')
    obtain ⟨r, hr, g1, g2, g3⟩ := szPattern_small ps[i].f0 ps[i].f1 hb.1 hb.2 left h0 h1
    by_cases c : r < 0
    · refine ⟨-1, ?_, fun h => by omega⟩
      apply Ev.succ
      simp only [laws_szPatternS.l0, c1, c2, rdLP_nat ps i hi', hr, Option.bind_some, c, if_true]
      exact Ev.now _
    · have g4 := g3 (by omega)
      obtain ⟨r', hr', hq⟩ := szPatternS_loop ps hl hs d (i + 1) r (by omega) (by omega) hL (by omega) (by omega)
      refine ⟨r', ?_, fun h j hj hij => ?_⟩
      · apply Ev.succ
        simp only [laws_szPatternS.l0, c1, c2, c3.out, rdLP_nat ps i hi', hr, Option.bind_some, c, if_true, if_false]
        exact hr'
      · rcases Nat.eq_or_lt_of_le hij with rfl | h3
        · exact ⟨by omega, by omega⟩
        · exact hq h j hj h3
theorem szPatternS_small (ps : List LPat) (hl : ps.length ≤ 9223372036854775807) (hs : ∀ p ∈ ps, p.f0.size ≤ 9223372036854775807 ∧ p.f1.length ≤ 9223372036854775807) :
    ∃ r, Ev (fun k => laws_szPatternS.f k ps 1048576) r ∧ (0 ≤ r → ps.length ≤ 1048576 ∧ ∀ p ∈ ps, p.f0.size ≤ 1048576 ∧ p.f1.length ≤ 1048576) := by
  have e1 : Aside0 (wrap64 (1048576 - (ps.length : Int)) = 1048576 - (ps.length : Int)) := ⟨wid (by omega) (by omega)⟩
  by_cases c : 1048576 - (ps.length : Int) < 0
  · refine ⟨-1, ?_, fun h => by omega⟩
    unfold laws_szPatternS.f
    simp only [e1.out, c, if_true]
    exact Ev.now _
  · obtain ⟨r, hr, hq⟩ := szPatternS_loop ps hl hs ps.length 0 (1048576 - (ps.length : Int)) (by omega) (by omega) (by omega) (by omega) (by omega)
    refine ⟨r, ?_, fun h => ⟨by omega, fun p hp => ?_⟩⟩
    · unfold laws_szPatternS.f
      simp only [e1.out, c, if_false]
      exact hr
    · obtain ⟨j, hj, rfl⟩ := List.getElem_of_mem hp
      exact hq h j hj (by omega)
theorem small_conv (ps : List LPat) (h : ps.length ≤ 1048576 ∧ ∀ p ∈ ps, p.f0.size ≤ 1048576 ∧ p.f1.length ≤ 1048576) : small (ps.map conv) := by
  refine ⟨by rw [List.length_map]; exact h.1, fun p hp => ?_⟩
  obtain ⟨q, hq, rfl⟩ := List.mem_map.1 hp
  exact h.2 q hq
end Go.Proofs.Ytndjhgjakdkkaaa.M
end

section
/- What is marked, plain. -/
namespace Go.Proofs.Ytndjhgjakdkkaaa.M
open Go.RowKit Go.Proofs.YtndjhgjakdkkaaaW.PrintWords Go.Proofs.Ytndjhgjakdkkaaa.Pu
set_option linter.unusedVariables false
set_option linter.unusedSimpArgs false
def marked (a : Int) (n : Nat) : List Int := (List.range n).map fun (i : Nat) => a + (i : Int)
theorem marked_length (a : Int) (n : Nat) : (marked a n).length = n := by simp [marked]
theorem markIntS_ev (xs : List Int) (a : Int) (h0 : 0 ≤ a) (h1 : a ≤ 1000000000000000) (hl : xs.length ≤ 1000000000000000) : Ev (fun k => laws_markIntS.f k xs a) (a + (xs.length : Int), marked a xs.length) := by
  unfold laws_markIntS.f
  have z : xs = marked a 0 ++ xs.drop 0 := by simp [marked]
  have z2 : a = a + ((0 : Nat) : Int) := by omega
  have key : Ev (fun k => laws_markIntS.l0 k (marked a 0 ++ xs.drop 0) (a + ((0 : Nat) : Int)) 0) (a + (xs.length : Int), marked a xs.length) := by
    refine fold_loop (g := fun k (b : List Int × Int) x => laws_markIntS.l0 k b.1 b.2 x) xs.length (fun i => (marked a i ++ xs.drop i, a + (i : Int))) _ ?_ ?_
    · intro i hi hr
      have c1 : (i : Int) < ((marked a i ++ xs.drop i).length : Int) := by simp [marked_length]; omega
      have c2 : (0 : Int) ≤ (i : Int) := by omega
      have w1 : Aside0 (wrap64 ((i : Int) + 1) = (i : Int) + 1) := ⟨wid (by omega) (by omega)⟩
      have w2 : Aside0 (wrap64 (a + (i : Int) + 1) = a + ((i + 1 : Nat) : Int)) := ⟨by rw [wid (by omega) (by omega)]; omega⟩
      have e0 : (i : Int).toNat = i := by omega
      have s1 : (marked a i ++ xs.drop i).set i (a + (i : Int)) = marked a (i + 1) ++ xs.drop (i + 1) := by
        rw [List.set_append_right _ _ (by rw [marked_length]; omega), marked_length, Nat.sub_self, List.drop_eq_getElem_cons hi, List.set_cons_zero]
        simp [marked, List.range_succ]
      apply Ev.succ
      simp only [laws_markIntS.l0, c1, c2, w1.out, w2.out, e0, s1, if_true]
      exact hr
    · have c1 : ¬ (xs.length : Int) < ((marked a xs.length ++ xs.drop xs.length).length : Int) := by simp [marked_length]
      apply Ev.succ
      simp only [laws_markIntS.l0, c1, if_false]
      refine Ev.cast (Ev.now _) ?_
      simp
  rw [← z, ← z2] at key
  exact key
theorem heldIntS_ev (n : Nat) (a : Int) (h0 : 0 ≤ a) (h1 : a ≤ 1000000000000000) (hl : n ≤ 1000000000000000) : Ev (fun k => laws_heldIntS.f k (marked a n) a) (a + (n : Int)) := by
  unfold laws_heldIntS.f
  have z2 : a = a + ((0 : Nat) : Int) := by omega
  have key : Ev (fun k => laws_heldIntS.l0 k (marked a n) (a + ((0 : Nat) : Int)) 0) (a + (n : Int)) := by
    refine fold_loop (g := fun k b x => laws_heldIntS.l0 k (marked a n) b x) n (fun i => a + (i : Int)) _ ?_ ?_
    · intro i hi hr
      have c1 : (i : Int) < ((marked a n).length : Int) := by rw [marked_length]; omega
      have c2 : (0 : Int) ≤ (i : Int) := by omega
      have w1 : Aside0 (wrap64 ((i : Int) + 1) = (i : Int) + 1) := ⟨wid (by omega) (by omega)⟩
      have w2 : Aside0 (wrap64 (a + (i : Int) + 1) = a + ((i + 1 : Nat) : Int)) := ⟨by rw [wid (by omega) (by omega)]; omega⟩
      have r1 : rd (marked a n) (i : Int) = a + (i : Int) := by simp [rd, marked, hi]
      apply Ev.succ
      simp only [laws_heldIntS.l0, c1, c2, r1, w1.out, w2.out, if_true]
      exact hr
    · have c1 : ¬ (n : Int) < ((marked a n).length : Int) := by rw [marked_length]; omega
      apply Ev.succ
      simp only [laws_heldIntS.l0, c1, if_false]
      exact Ev.now _
  rw [← z2] at key
  exact key
theorem markText_loop : ∀ (n : Nat), n ≤ 100000000000000 → ∀ x : ByteArray, x.size + n ≤ 1000000000000000 → ∃ r, Ev (fun k => laws_markText.l0 k (n : Int) x) r := by
  intro n
  induction n using Nat.strongRecOn with
  | ind n ih =>
    intro hn x hx
    by_cases c : n = 0
    · subst c
      refine ⟨(⟨#[109]⟩ : ByteArray) ++ x, ?_⟩
      apply Ev.succ
      simp only [laws_markText.l0]
      exact Ev.ifn (by omega) (Ev.ifp (by omega) (Ev.now _))
    · have e1 : Int.tdiv (n : Int) 10 = ((n / 10 : Nat) : Int) := by rw [Int.tdiv_eq_ediv_of_nonneg (by omega)]; omega
      have w1 : Aside0 (wrap64 (((n / 10 : Nat) : Int)) = ((n / 10 : Nat) : Int)) := ⟨wid (by omega) (by omega)⟩
      have sz : ∀ y : Int, (strOfNums [y]).size = 1 := fun y => rfl
      obtain ⟨r, hr⟩ := ih (n / 10) (by omega) (by omega) (strOfNums [(wrap64 (48 + (Int.tmod (n : Int) 10))) % 256] ++ x) (by rw [ByteArray.size_append, sz]; omega)
      refine ⟨r, ?_⟩
      apply Ev.succ
      simp only [laws_markText.l0, e1, w1.out, Option.bind_some]
      exact Ev.ifp (by omega) (Ev.ifp (by rw [sz]; omega) hr)
theorem markText_ev (a : Int) (h0 : 0 ≤ a) (h1 : a ≤ 100000000000000) : ∃ r, Ev (fun k => laws_markText.f k a) r := by
  unfold laws_markText.f
  by_cases c : a ≤ 0
  · exact ⟨_, Ev.ifp c (Ev.now _)⟩
  · obtain ⟨n, rfl⟩ := Int.eq_ofNat_of_zero_le h0
    obtain ⟨r, hr⟩ := markText_loop n (by omega) (⟨#[]⟩ : ByteArray) (by show 0 + n ≤ _; omega)
    exact ⟨r, Ev.ifn c hr⟩
theorem markPats_ev : ∀ (d i : Nat) (ps : List Pat) (a : Int), i + d = ps.length → (∀ p ∈ ps, p.f1.length ≤ 1048576) → ps.length ≤ 1048576 → 0 ≤ a → a + d * 1048577 ≤ 10000000000000 → ∃ r, Ev (fun k => markPats k ps a (i : Int)) r ∧ 0 ≤ r.1
  | 0, i, ps, a, hd, hp, hl, h0, h1 => by
    refine ⟨(a, ps), ?_, h0⟩
    apply Ev.succ
    simp only [markPats]
    exact Ev.ifn (by omega) (Ev.now _)
  | d + 1, i, ps, a, hd, hp, hl, h0, h1 => by
    have hi : i < ps.length := by omega
    have hn := hp ps[i] (List.getElem_mem hi)
    obtain ⟨t, ht⟩ := markText_ev a h0 (by omega)
    have hm := markIntS_ev ps[i].f1 (a + 1) (by omega) (by omega) (by omega)
    have w1 : Aside0 (wrap64 (a + 1) = a + 1) := ⟨wid (by omega) (by omega)⟩
    have w2 : Aside0 (wrap64 ((i : Int) + 1) = ((i + 1 : Nat) : Int)) := ⟨by rw [wid (by omega) (by omega)]; omega⟩
    obtain ⟨r, hr, hr0⟩ := markPats_ev d (i + 1) (ps.set i ⟨t, marked (a + 1) ps[i].f1.length⟩) (a + 1 + (ps[i].f1.length : Int)) (by rw [List.length_set]; omega) (fun p hq => by
      rcases List.mem_or_eq_of_mem_set hq with h | h
      · exact hp p h
      · rw [h]; show (marked _ _).length ≤ _; rw [marked_length]; exact hn) (by rw [List.length_set]; exact hl) (by omega) (by omega)
    refine ⟨r, ?_, hr0⟩
    apply Ev.succ
    simp only [markPats, rdP_nat ps i hi, w1.out, w2.out, Int.toNat_natCast]
    exact Ev.ifp (by omega) (Ev.ifp (by omega) (Ev.bind ht (Ev.bind hm hr)))
end Go.Proofs.Ytndjhgjakdkkaaa.M
end
