import Derived.Test.YtaakfmpffhfaeaaGreatDoorBExactReleaseOkx2
import Derived.Test.YtaakfmpffhfaeaaGreatDoorBExactReleaseOkx5
import Derived.Test.YtaakfmpffhfaeaaGreatDoorBExactReleaseOkx4
import Derived.Lib.SplitLaws

section
namespace Go.Proofs.YtaakfmpffhfaeaaGreatDoor.M
open Go.RowKit Go.Proofs.YtaakfmpffhfaeaaGreatDoorW.PrintWords Go.Proofs.YtaakfmpffhfaeaaGreatDoorW.PrintLast Go.Proofs.YtaakfmpffhfaeaaGreatDoorW.PrintMore Go.Proofs.YtaakfmpffhfaeaaGreatDoor.Sq
set_option synthInstance.maxHeartbeats 2000000
set_option synthInstance.maxSize 4096
attribute [local go_sem] max2_int min2_int max_two min_two max_three min_three max_four min_four
set_option linter.unusedVariables false
set_option linter.unusedSimpArgs false
set_option maxHeartbeats 8000000
set_option maxRecDepth 100000
theorem gf64 : Go_ Tryz.prog 64 Tryz.f64 := ⟨Tryz.func64, by kernel_rfl, rfl⟩
mutual
def spec_DeltaOk.l0 : Nat → Int → List ByteArray → List (S100) → Bool → List (S103) → Option (Bool)
 | 0, _, _, _, _, _ => none
 | k + 1, x3, x102000, x102001, x102002, x102003 => if x3 < (x102000.length : Int) then (if 0 ≤ x3 then ((spec_l1Word.f k (rdOf ByteArray.empty x102000 x3)).bind fun t105 => (if t105 = true then (if x3 > 0 then (if 0 ≤ (wrap64 (x3 - 1)) then (if (wrap64 (x3 - 1)) < (x102000.length : Int) then (spec_DeltaOk.j1 k x3 (!(Op.bytesLess ((rdOf ByteArray.empty x102000 (wrap64 (x3 - 1))).toList) ((rdOf ByteArray.empty x102000 x3).toList))) x102000 x102001 x102002 x102003) else (none)) else (none)) else (spec_DeltaOk.j1 k x3 false x102000 x102001 x102002 x102003)) else (spec_DeltaOk.j1 k x3 true x102000 x102001 x102002 x102003))) else (none)) else (if (x102000.length : Int) ≤ 24 then ((spec_l5Entries.f k x102001).bind fun t102 => (if t102 = true then ((spec_l2Affixes.f k x102003).bind fun t103 => (if t103 = true then (if x102002 = true then (some true) else (some ((x102003.length : Int) == 0))) else (some false))) else (some false))) else (some false))
def spec_DeltaOk.j1 : Nat → Int → Bool → List ByteArray → List (S100) → Bool → List (S103) → Option (Bool)
 | 0, _, _, _, _, _, _ => none
 | k + 1, x3, x36, x102000, x102001, x102002, x102003 => if x36 = true then (some false) else (spec_DeltaOk.l1 k x3 0 x102000 x102001 x102002 x102003)
def spec_DeltaOk.l1 : Nat → Int → Int → List ByteArray → List (S100) → Bool → List (S103) → Option (Bool)
 | 0, _, _, _, _, _, _ => none
 | k + 1, x3, x4, x102000, x102001, x102002, x102003 => if x4 < (x102001.length : Int) then (if 0 ≤ x4 then (if 0 ≤ x3 then (if x3 < (x102000.length : Int) then (if ((rd_T100 x102001 x4).f0).toList = (rdOf ByteArray.empty x102000 x3).toList then (some false) else (spec_DeltaOk.l1 k x3 (wrap64 (x4 + 1)) x102000 x102001 x102002 x102003)) else (none)) else (none)) else (none)) else (spec_DeltaOk.l0 k (wrap64 (x3 + 1)) x102000 x102001 x102002 x102003)
end
def spec_DeltaOk.f (k : Nat) (l0_0 : List ByteArray) (l0_1 : List (S100)) (a0_2 : Bool) (l0_3 : List (S103)) : Option (Bool) := spec_DeltaOk.l0 k 0 l0_0 l0_1 a0_2 l0_3
theorem spec_DeltaOk.mono_l : ∀ k, (∀ y0 y1 y2 y3 y4, LeO (spec_DeltaOk.l0 k y0 y1 y2 y3 y4) (spec_DeltaOk.l0 (k + 1) y0 y1 y2 y3 y4)) ∧ (∀ y0 y1 y2 y3 y4 y5, LeO (spec_DeltaOk.j1 k y0 y1 y2 y3 y4 y5) (spec_DeltaOk.j1 (k + 1) y0 y1 y2 y3 y4 y5)) ∧ (∀ y0 y1 y2 y3 y4 y5, LeO (spec_DeltaOk.l1 k y0 y1 y2 y3 y4 y5) (spec_DeltaOk.l1 (k + 1) y0 y1 y2 y3 y4 y5))
 | 0 => ⟨fun _ _ _ _ _ r h => by simp [spec_DeltaOk.l0] at h, fun _ _ _ _ _ _ r h => by simp [spec_DeltaOk.j1] at h, fun _ _ _ _ _ _ r h => by simp [spec_DeltaOk.l1] at h⟩
 | k + 1 => by
  obtain ⟨ih0, ih1, ih2⟩ := spec_DeltaOk.mono_l k
  refine ⟨?_, ?_, ?_⟩
  ·intro y0 y1 y2 y3 y4
   unfold spec_DeltaOk.l0
   have I0_ := fun a b c d e => LeC.mk (ih0 a b c d e)
   have I1_ := fun a b c d e f => LeC.mk (ih1 a b c d e f)
   have I2_ := fun a b c d e f => LeC.mk (ih2 a b c d e f)
   have I3_ := fun a b => LeC.mk (spec_l1Word.mono a b)
   have I4_ := fun a b => LeC.mk (spec_l2Affixes.mono a b)
   have I5_ := fun a b => LeC.mk (spec_l5Entries.mono a b)
   exact LeC.out
  ·intro y0 y1 y2 y3 y4 y5
   unfold spec_DeltaOk.j1
   have I0_ := fun a b c d e => LeC.mk (ih0 a b c d e)
   have I1_ := fun a b c d e f => LeC.mk (ih1 a b c d e f)
   have I2_ := fun a b c d e f => LeC.mk (ih2 a b c d e f)
   have I3_ := fun a b => LeC.mk (spec_l1Word.mono a b)
   have I4_ := fun a b => LeC.mk (spec_l2Affixes.mono a b)
   have I5_ := fun a b => LeC.mk (spec_l5Entries.mono a b)
   exact LeC.out
  ·intro y0 y1 y2 y3 y4 y5
   unfold spec_DeltaOk.l1
   have I0_ := fun a b c d e => LeC.mk (ih0 a b c d e)
   have I1_ := fun a b c d e f => LeC.mk (ih1 a b c d e f)
   have I2_ := fun a b c d e f => LeC.mk (ih2 a b c d e f)
   have I3_ := fun a b => LeC.mk (spec_l1Word.mono a b)
   have I4_ := fun a b => LeC.mk (spec_l2Affixes.mono a b)
   have I5_ := fun a b => LeC.mk (spec_l5Entries.mono a b)
   exact LeC.out
theorem spec_DeltaOk.mono : ∀ a0 a1 a2 a3 k, LeO (spec_DeltaOk.f k a0 a1 a2 a3) (spec_DeltaOk.f (k + 1) a0 a1 a2 a3) := by
 intro a0 a1 a2 a3 k
 obtain ⟨ih0, ih1, ih2⟩ := spec_DeltaOk.mono_l k
 unfold spec_DeltaOk.f
 have I0_ := fun a b c d e => LeC.mk (ih0 a b c d e)
 have I1_ := fun a b c d e f => LeC.mk (ih1 a b c d e f)
 have I2_ := fun a b c d e f => LeC.mk (ih2 a b c d e f)
 have I3_ := fun a b => LeC.mk (spec_l1Word.mono a b)
 have I4_ := fun a b => LeC.mk (spec_l2Affixes.mono a b)
 have I5_ := fun a b => LeC.mk (spec_l5Entries.mono a b)
 exact LeC.out
theorem spec_DeltaOk.calls (k : Nat) (A0_0 : Option Addr) (c0_0 : Nat) (l0_0 : List ByteArray) (A0_1 : Option Addr) (c0_1 : Nat) (l0_1 : List (S100)) (a0_2 : Bool) (A0_3 : Option Addr) (c0_3 : Nat) (l0_3 : List (S103)) (r : Bool) (w : World) (hr0_0 : Kd.C Kd.string w A0_0 l0_0.length l0_0) (hc0_0 : l0_0.length ≤ c0_0) (hr0_1 : Kd.C k100 w A0_1 l0_1.length l0_1) (hc0_1 : l0_1.length ≤ c0_1) (hr0_3 : Kd.C k103 w A0_3 l0_3.length l0_3) (hc0_3 : l0_3.length ≤ c0_3) (h : spec_DeltaOk.f k l0_0 l0_1 a0_2 l0_3 = some r) :
  Calls Tryz.prog 64 #[.agg #[.slice A0_0 l0_0.length c0_0, .slice A0_1 l0_1.length c0_1, .bool a0_2, .slice A0_3 l0_3.length c0_3]] w fun e w' => e = .returned (.bool r) ∧ Below w.heap.size w w' := by
 have hu34 := Tryz.underlying34
 have HR0_0 := Aside0.mk hr0_0
 have HC0_0 := Aside0.mk hc0_0
 clear hr0_0 hc0_0
 have HR0_1 := Aside0.mk hr0_1
 have HC0_1 := Aside0.mk hc0_1
 clear hr0_1 hc0_1
 have HR0_3 := Aside0.mk hr0_3
 have HC0_3 := Aside0.mk hc0_3
 clear hr0_3 hc0_3
 have HB := Aside0.mk (Below.refl w.heap.size w)
 unfold spec_DeltaOk.f at h
 have H := h
 clear h
 have H' := Aside0.mk H
 clear H
 go_enter Tryz.func64, Tryz.ntmps64
 go_wp2_with (first | ((with_reducible refine gate_dst (N := 1) rfl ?_); (try (refine gate_guard (by rfl) ?_; dsimp only)); refine box_event rfl (N := 1) rfl (cs := #[.slice A0_0 l0_0.length c0_0, .slice A0_1 l0_1.length c0_1, .bool a0_2, .slice A0_3 l0_3.length c0_3]) (t := 34) (by go_simp <;> rfl) ?_; intro gb101 hg w2 hbox hb; have BK101 := Aside0.mk (hbox); have GW101 := Le_.mk (ge_of hg HB.out); have GE101 := Le_.mk (ge_of hg HB.out); replace HB := kB HB hb; clear hb hbox hg))
 repeat (go_quiet (first | ((with_reducible refine gate_dst (N := 1) rfl ?_); (try (refine gate_guard (by rfl) ?_; dsimp only)); refine box_event rfl (N := 1) rfl (cs := #[.slice A0_0 l0_0.length c0_0, .slice A0_1 l0_1.length c0_1, .bool a0_2, .slice A0_3 l0_3.length c0_3]) (t := 34) (by go_simp <;> rfl) ?_; intro gb101 hg w2 hbox hb; have BK101 := Aside0.mk (hbox); have GW101 := Le_.mk (ge_of hg HB.out); have GE101 := Le_.mk (ge_of hg HB.out); replace HB := kB HB hb; clear hb hbox hg)); try go_wp2_with (first | ((with_reducible refine gate_dst (N := 1) rfl ?_); (try (refine gate_guard (by rfl) ?_; dsimp only)); refine box_event rfl (N := 1) rfl (cs := #[.slice A0_0 l0_0.length c0_0, .slice A0_1 l0_1.length c0_1, .bool a0_2, .slice A0_3 l0_3.length c0_3]) (t := 34) (by go_simp <;> rfl) ?_; intro gb101 hg w2 hbox hb; have BK101 := Aside0.mk (hbox); have GW101 := Le_.mk (ge_of hg HB.out); have GE101 := Le_.mk (ge_of hg HB.out); replace HB := kB HB hb; clear hb hbox hg)))
 go_loopg [3] k (fun kq v3 w' => ∃ (x3_1 : Int), v3 = .int .i64 x3_1 ∧ Aside0 (spec_DeltaOk.l0 kq x3_1 l0_0 l0_1 a0_2 l0_3 = some r) ∧ Aside0 (kq ≤ k) ∧ Aside0 (w'.heap[gb101]? = some (.cells #[(.slice A0_0 l0_0.length c0_0), (.slice A0_1 l0_1.length c0_1), .bool a0_2, (.slice A0_3 l0_3.length c0_3)] 34 (0, 0))) ∧ Aside0 (Below w.heap.size w w'))
 case atStart => exact ⟨(0), (by first | rfl | (simp; done) | (simp [*]; done)), H', ⟨Nat.le_refl _⟩, ⟨gx (BK101.out)⟩, ⟨bx HB.out⟩⟩
 case round =>
  clear H'
  try clear p2
  obtain ⟨x3_1, rfl, HA, HK1, BK101, HB⟩ := hrel
  cases gk with
  | zero => exact absurd HA.out (by simp [spec_DeltaOk.l0])
  | succ k1 =>
   have H := HA.out
   clear HA
   simp only [spec_DeltaOk.l0] at H
   by_cases c3 : x3_1 < (l0_0.length : Int)
   ·rw [if_pos c3] at H
    have c3b0 := decide_eq_true c3
    clear c3
    have HC4 := Aside0.mk H
    clear H
    have hz5 := cells_4 BK101.out
    go_upto_region 4 with (fail)
    repeat (go_quiet (fail); go_upto_region 4 with (fail))
    go_cut [36] (fun v36 wc => ∃ (kq : Nat) (x36_3 : Bool), v36 = .bool x36_3 ∧ Aside0 (spec_DeltaOk.j1 kq x3_1 x36_3 l0_0 l0_1 a0_2 l0_3 = some r) ∧ Aside0 (kq ≤ k1) ∧ Aside0 (wc.heap[gb101]? = some (.cells #[(.slice A0_0 l0_0.length c0_0), (.slice A0_1 l0_1.length c0_1), .bool a0_2, (.slice A0_3 l0_3.length c0_3)] 34 (0, 0))) ∧ Aside0 (Below w.heap.size w wc))
    case first =>
     have H := HC4.out
     clear HC4
     have c6 := ite_y H
     replace H := ite_t H
     have c6b0 := decide_eq_true c6
     clear c6
     (first | rw [c6b0] | (simp only [i64_w, i32_w]; rw [c6b0]) | skip)
     replace H := Option.bind_eq_some_iff.mp H
     obtain ⟨t105, A70, H⟩ := H
     have A7 := Aside0.mk A70
     clear A70
     by_cases c8 : t105 = true
     ·subst c8
      rw [if_pos rfl] at H
      by_cases c9 : x3_1 > 0
      ·rw [if_pos c9] at H
       have c9b0 : decide (0 < x3_1) = true := decide_eq_true c9
       clear c9
       obtain ⟨ji10, hji10⟩ : ∃ j_ : Int, (wrap64 (x3_1 - 1)) = j_ := ⟨_, rfl⟩
       replace H : (if 0 ≤ (ji10) then (if (ji10) < (l0_0.length : Int) then (spec_DeltaOk.j1 k1 x3_1 (!(Op.bytesLess ((rdOf ByteArray.empty l0_0 (ji10)).toList) ((rdOf ByteArray.empty l0_0 x3_1).toList))) l0_0 l0_1 a0_2 l0_3) else (none)) else (none)) = some r := by first | (rw [hji10] at H; exact H) | (simp only [hji10] at H ⊢; exact H)
       (try rw [hji10] at A7)
       have hji10w : (IntKind.i64.wrap (x3_1 - 1)) = ji10 := (i64_w _).trans hji10
       have c11 := ite_y H
       replace H := ite_t H
       have c11b0 := decide_eq_true c11
       clear c11
       have c12 := ite_y H
       replace H := ite_t H
       have c12b0 := decide_eq_true c12
       clear c12
       have H' := Aside0.mk H
       clear H
       have hz13 := cells_4 BK101.out
       have p104 := of_decide_eq_true c6b0
       have q104 := of_decide_eq_true c3b0
       obtain ⟨ad104, e104, hx104_0⟩ := Kd.at_string HR0_0.out x3_1 p104 q104
       cases e104
       replace hx104_0 := px HB.out hx104_0
       replace p104 := eq_true p104
       replace q104 := eq_true q104
       go_wp2_with (first | (go_at_call 112; (with_reducible refine (spec_l1Word.calls k1 (rdOf ByteArray.empty l0_0 x3_1) true _ A7.out).mono ?_); rintro e w' ⟨rfl, ⟨nd, rfl⟩⟩; (try first | exact ⟨rfl, _, World.drewN_drewN _ _ _⟩ | exact ⟨rfl, _, Eq.trans (World.drewN_drewN _ _ _) (congrArg (World.drewN _) (Nat.add_assoc _ _ _))⟩); have p106 := of_decide_eq_true c11b0; have q106 := of_decide_eq_true c12b0; obtain ⟨ad106, e106, hx106_0⟩ := Kd.at_string HR0_0.out (ji10) p106 q106; obtain rfl : ad104 = ad106 := (by injection e106); replace hx106_0 := px HB.out hx106_0; replace p106 := eq_true p106; replace q106 := eq_true q106; have p107 := of_decide_eq_true c6b0; have q107 := of_decide_eq_true c3b0; obtain ⟨ad107, e107, hx107_0⟩ := Kd.at_string HR0_0.out x3_1 p107 q107; obtain rfl : ad104 = ad107 := (by injection e107); replace hx107_0 := px HB.out hx107_0; replace p107 := eq_true p107; replace q107 := eq_true q107))
       repeat (go_quiet (first | (go_at_call 112; (with_reducible refine (spec_l1Word.calls k1 (rdOf ByteArray.empty l0_0 x3_1) true _ A7.out).mono ?_); rintro e w' ⟨rfl, ⟨nd, rfl⟩⟩; (try first | exact ⟨rfl, _, World.drewN_drewN _ _ _⟩ | exact ⟨rfl, _, Eq.trans (World.drewN_drewN _ _ _) (congrArg (World.drewN _) (Nat.add_assoc _ _ _))⟩); have p106 := of_decide_eq_true c11b0; have q106 := of_decide_eq_true c12b0; obtain ⟨ad106, e106, hx106_0⟩ := Kd.at_string HR0_0.out (ji10) p106 q106; obtain rfl : ad104 = ad106 := (by injection e106); replace hx106_0 := px HB.out hx106_0; replace p106 := eq_true p106; replace q106 := eq_true q106; have p107 := of_decide_eq_true c6b0; have q107 := of_decide_eq_true c3b0; obtain ⟨ad107, e107, hx107_0⟩ := Kd.at_string HR0_0.out x3_1 p107 q107; obtain rfl : ad104 = ad107 := (by injection e107); replace hx107_0 := px HB.out hx107_0; replace p107 := eq_true p107; replace q107 := eq_true q107)); try go_wp2_with (first | (go_at_call 112; (with_reducible refine (spec_l1Word.calls k1 (rdOf ByteArray.empty l0_0 x3_1) true _ A7.out).mono ?_); rintro e w' ⟨rfl, ⟨nd, rfl⟩⟩; (try first | exact ⟨rfl, _, World.drewN_drewN _ _ _⟩ | exact ⟨rfl, _, Eq.trans (World.drewN_drewN _ _ _) (congrArg (World.drewN _) (Nat.add_assoc _ _ _))⟩); have p106 := of_decide_eq_true c11b0; have q106 := of_decide_eq_true c12b0; obtain ⟨ad106, e106, hx106_0⟩ := Kd.at_string HR0_0.out (ji10) p106 q106; obtain rfl : ad104 = ad106 := (by injection e106); replace hx106_0 := px HB.out hx106_0; replace p106 := eq_true p106; replace q106 := eq_true q106; have p107 := of_decide_eq_true c6b0; have q107 := of_decide_eq_true c3b0; obtain ⟨ad107, e107, hx107_0⟩ := Kd.at_string HR0_0.out x3_1 p107 q107; obtain rfl : ad104 = ad107 := (by injection e107); replace hx107_0 := px HB.out hx107_0; replace p107 := eq_true p107; replace q107 := eq_true q107)))
       go_meet
       case rel => exact ⟨_, (!(Op.bytesLess ((rdOf ByteArray.empty l0_0 (ji10)).toList) ((rdOf ByteArray.empty l0_0 x3_1).toList))), (by first | rfl | (simp; done) | (simp only [← hji10] <;> (first | rfl | simp)) | (simp [*]; done)), H', ⟨by have := HK1.out; first | omega | exact Nat.le_refl _⟩, ⟨gx (BK101.out)⟩, ⟨bx HB.out⟩⟩
      ·rw [if_neg c9] at H
       have c9b0 : decide (0 < x3_1) = false := decide_eq_false c9
       clear c9
       have H' := Aside0.mk H
       clear H
       have hz14 := cells_4 BK101.out
       have p104 := of_decide_eq_true c6b0
       have q104 := of_decide_eq_true c3b0
       obtain ⟨ad104, e104, hx104_0⟩ := Kd.at_string HR0_0.out x3_1 p104 q104
       cases e104
       replace hx104_0 := px HB.out hx104_0
       replace p104 := eq_true p104
       replace q104 := eq_true q104
       go_wp2_with (first | (go_at_call 112; (with_reducible refine (spec_l1Word.calls k1 (rdOf ByteArray.empty l0_0 x3_1) true _ A7.out).mono ?_); rintro e w' ⟨rfl, ⟨nd, rfl⟩⟩; (try first | exact ⟨rfl, _, World.drewN_drewN _ _ _⟩ | exact ⟨rfl, _, Eq.trans (World.drewN_drewN _ _ _) (congrArg (World.drewN _) (Nat.add_assoc _ _ _))⟩)))
       repeat (go_quiet (first | (go_at_call 112; (with_reducible refine (spec_l1Word.calls k1 (rdOf ByteArray.empty l0_0 x3_1) true _ A7.out).mono ?_); rintro e w' ⟨rfl, ⟨nd, rfl⟩⟩; (try first | exact ⟨rfl, _, World.drewN_drewN _ _ _⟩ | exact ⟨rfl, _, Eq.trans (World.drewN_drewN _ _ _) (congrArg (World.drewN _) (Nat.add_assoc _ _ _))⟩))); try go_wp2_with (first | (go_at_call 112; (with_reducible refine (spec_l1Word.calls k1 (rdOf ByteArray.empty l0_0 x3_1) true _ A7.out).mono ?_); rintro e w' ⟨rfl, ⟨nd, rfl⟩⟩; (try first | exact ⟨rfl, _, World.drewN_drewN _ _ _⟩ | exact ⟨rfl, _, Eq.trans (World.drewN_drewN _ _ _) (congrArg (World.drewN _) (Nat.add_assoc _ _ _))⟩))))
       go_meet
       case rel => exact ⟨_, (false), (by first | rfl | (simp; done) | (simp [*]; done)), H', ⟨by have := HK1.out; first | omega | exact Nat.le_refl _⟩, ⟨gx (BK101.out)⟩, ⟨bx HB.out⟩⟩
     ·replace c8 := Bool.eq_false_iff.mpr c8
      subst c8
      rw [if_neg Bool.false_ne_true] at H
      have H' := Aside0.mk H
      clear H
      have hz15 := cells_4 BK101.out
      have p104 := of_decide_eq_true c6b0
      have q104 := of_decide_eq_true c3b0
      obtain ⟨ad104, e104, hx104_0⟩ := Kd.at_string HR0_0.out x3_1 p104 q104
      cases e104
      replace hx104_0 := px HB.out hx104_0
      replace p104 := eq_true p104
      replace q104 := eq_true q104
      go_wp2_with (first | (go_at_call 112; (with_reducible refine (spec_l1Word.calls k1 (rdOf ByteArray.empty l0_0 x3_1) false _ A7.out).mono ?_); rintro e w' ⟨rfl, ⟨nd, rfl⟩⟩; (try first | exact ⟨rfl, _, World.drewN_drewN _ _ _⟩ | exact ⟨rfl, _, Eq.trans (World.drewN_drewN _ _ _) (congrArg (World.drewN _) (Nat.add_assoc _ _ _))⟩)))
      repeat (go_quiet (first | (go_at_call 112; (with_reducible refine (spec_l1Word.calls k1 (rdOf ByteArray.empty l0_0 x3_1) false _ A7.out).mono ?_); rintro e w' ⟨rfl, ⟨nd, rfl⟩⟩; (try first | exact ⟨rfl, _, World.drewN_drewN _ _ _⟩ | exact ⟨rfl, _, Eq.trans (World.drewN_drewN _ _ _) (congrArg (World.drewN _) (Nat.add_assoc _ _ _))⟩))); try go_wp2_with (first | (go_at_call 112; (with_reducible refine (spec_l1Word.calls k1 (rdOf ByteArray.empty l0_0 x3_1) false _ A7.out).mono ?_); rintro e w' ⟨rfl, ⟨nd, rfl⟩⟩; (try first | exact ⟨rfl, _, World.drewN_drewN _ _ _⟩ | exact ⟨rfl, _, Eq.trans (World.drewN_drewN _ _ _) (congrArg (World.drewN _) (Nat.add_assoc _ _ _))⟩))))
      go_meet
      case rel => exact ⟨_, (true), (by first | rfl | (simp; done) | (simp [*]; done)), H', ⟨by have := HK1.out; first | omega | exact Nat.le_refl _⟩, ⟨gx (BK101.out)⟩, ⟨bx HB.out⟩⟩
    case rest =>
     clear HC4
     try clear c1
     try clear p1
     try clear q1
     try clear hx1
     try clear p2
     try clear c3
     try clear c3b0
     try clear c6
     try clear c6b0
     try clear p6
     try clear c8
     try clear c9
     try clear c9b0
     try clear p10
     try clear q10
     try clear hx10
     try clear c11
     try clear c11b0
     try clear c12
     try clear c12b0
     try clear hz13
     try clear hz14
     try clear hz15
     try clear hz5
     try clear hx104_0
     try clear hx106_0
     try clear hx107_0
     try clear p104
     try clear p106
     try clear p107
     try clear p2
     try clear q104
     try clear q106
     try clear q107
     obtain ⟨kq, x36_3, rfl, HA, HJ3, BK101, HB⟩ := hcut
     cases kq with
     | zero => exact absurd HA.out (by simp [spec_DeltaOk.j1])
     | succ kj3 =>
      have H := HA.out
      clear HA
      simp only [spec_DeltaOk.j1] at H
      by_cases c16 : x36_3 = true
      ·subst c16
       rw [if_pos rfl] at H
       obtain rfl := Option.some.inj H
       go_wp2
       repeat (go_quiet (fail); try go_wp2)
       go_ret
       exact ⟨by rfl, bx HB.out⟩
      ·replace c16 := Bool.eq_false_iff.mpr c16
       subst c16
       rw [if_neg Bool.false_ne_true] at H
       have H' := Aside0.mk H
       clear H
       go_wp2
       repeat (go_quiet (fail); try go_wp2)
       go_loopg [4] kj3 (fun kq v4 w' => ∃ (x4_3 : Int), v4 = .int .i64 x4_3 ∧ Aside0 (spec_DeltaOk.l1 kq x3_1 x4_3 l0_0 l0_1 a0_2 l0_3 = some r) ∧ Aside0 (kq ≤ kj3) ∧ Aside0 (w'.heap[gb101]? = some (.cells #[(.slice A0_0 l0_0.length c0_0), (.slice A0_1 l0_1.length c0_1), .bool a0_2, (.slice A0_3 l0_3.length c0_3)] 34 (0, 0))) ∧ Aside0 (Below w.heap.size w w'))
       case atStart => exact ⟨(0), (by first | rfl | (simp; done) | (simp [*]; done)), H', ⟨Nat.le_refl _⟩, ⟨gx (BK101.out)⟩, ⟨bx HB.out⟩⟩
       case round =>
        clear H'
        try clear c1
        try clear p1
        try clear q1
        try clear hx1
        try clear p2
        try clear c3
        try clear c3b0
        try clear c6
        try clear c6b0
        try clear p6
        try clear c8
        try clear c9
        try clear c9b0
        try clear p10
        try clear q10
        try clear hx10
        try clear c11
        try clear c11b0
        try clear c12
        try clear c12b0
        try clear c16
        try clear hz13
        try clear hz14
        try clear hz15
        try clear hz5
        try clear hx104_0
        try clear hx106_0
        try clear hx107_0
        try clear p1
        try clear p10
        try clear p104
        try clear p106
        try clear p107
        try clear p2
        try clear p6
        try clear q1
        try clear q10
        try clear q104
        try clear q106
        try clear q107
        obtain ⟨x4_3, rfl, HA, HK3, BK101, HB⟩ := hrel
        cases gk with
        | zero => exact absurd HA.out (by simp [spec_DeltaOk.l1])
        | succ k3 =>
         have H := HA.out
         clear HA
         simp only [spec_DeltaOk.l1] at H
         by_cases c17 : x4_3 < (l0_1.length : Int)
         ·rw [if_pos c17] at H
          have c17b0 := decide_eq_true c17
          clear c17
          have c18 := ite_y H
          replace H := ite_t H
          have c18b0 := decide_eq_true c18
          clear c18
          have c19 := ite_y H
          replace H := ite_t H
          have c19b0 := decide_eq_true c19
          clear c19
          have c20 := ite_y H
          replace H := ite_t H
          have c20b0 := decide_eq_true c20
          clear c20
          by_cases c21 : ((rd_T100 l0_1 x4_3).f0).toList = (rdOf ByteArray.empty l0_0 x3_1).toList
          ·rw [if_pos c21] at H
           have c21b0 : (((rd_T100 l0_1 x4_3).f0).toList == (rdOf ByteArray.empty l0_0 x3_1).toList) = true := beq_iff_eq.mpr c21
           have c21b1 : (((rd_T100 l0_1 x4_3).f0).toList != (rdOf ByteArray.empty l0_0 x3_1).toList) = false := bne_eq_false_iff_eq.mpr c21
           clear c21
           obtain rfl := Option.some.inj H
           have hz22 := cells_4 BK101.out
           have p108 := of_decide_eq_true c18b0
           have q108 := of_decide_eq_true c17b0
           obtain ⟨ad108, e108, hx108_0, hx108_1⟩ := at_T100 HR0_1.out x4_3 p108 q108
           cases e108
           replace hx108_0 := px HB.out hx108_0
           replace hx108_1 := px HB.out hx108_1
           replace p108 := eq_true p108
           replace q108 := eq_true q108
           have p109 := of_decide_eq_true c19b0
           have q109 := of_decide_eq_true c20b0
           obtain ⟨ad109, e109, hx109_0⟩ := Kd.at_string HR0_0.out x3_1 p109 q109
           cases e109
           replace hx109_0 := px HB.out hx109_0
           replace p109 := eq_true p109
           replace q109 := eq_true q109
           go_wp2
           repeat (go_quiet (fail); try go_wp2)
           go_ret
           exact ⟨by rfl, bx HB.out⟩
          ·rw [if_neg c21] at H
           have c21b0 : (((rd_T100 l0_1 x4_3).f0).toList == (rdOf ByteArray.empty l0_0 x3_1).toList) = false := beq_eq_false_iff_ne.mpr c21
           have c21b1 : (((rd_T100 l0_1 x4_3).f0).toList != (rdOf ByteArray.empty l0_0 x3_1).toList) = true := bne_iff_ne.mpr c21
           have H' := Aside0.mk H
           clear H
           have hz23 := cells_4 BK101.out
           have p108 := of_decide_eq_true c18b0
           have q108 := of_decide_eq_true c17b0
           obtain ⟨ad108, e108, hx108_0, hx108_1⟩ := at_T100 HR0_1.out x4_3 p108 q108
           cases e108
           replace hx108_0 := px HB.out hx108_0
           replace hx108_1 := px HB.out hx108_1
           replace p108 := eq_true p108
           replace q108 := eq_true q108
           have p109 := of_decide_eq_true c19b0
           have q109 := of_decide_eq_true c20b0
           obtain ⟨ad109, e109, hx109_0⟩ := Kd.at_string HR0_0.out x3_1 p109 q109
           cases e109
           replace hx109_0 := px HB.out hx109_0
           replace p109 := eq_true p109
           replace q109 := eq_true q109
           go_wp2
           repeat (go_quiet (fail); try go_wp2)
           go_roundg k3
           case measure => have := HK1.out; have := HJ3.out; have := HK3.out; omega
           case rel => exact ⟨(wrap64 (x4_3 + 1)), (by first | rfl | (simp; done) | (simp [*]; done)), H', ⟨by have := HK1.out; have := HJ3.out; have := HK3.out; omega⟩, ⟨gx (BK101.out)⟩, ⟨bx HB.out⟩⟩
         ·rw [if_neg c17] at H
          have c17b0 := decide_eq_false c17
          clear c17
          have H' := Aside0.mk H
          clear H
          have hz24 := cells_4 BK101.out
          go_wp2
          repeat (go_quiet (fail); try go_wp2)
          go_roundg k3
          case measure => have := HK1.out; have := HJ3.out; have := HK3.out; omega
          case rel => exact ⟨(wrap64 (x3_1 + 1)), (by first | rfl | (simp; done) | (simp [*]; done)), H', ⟨by have := HK1.out; have := HJ3.out; have := HK3.out; omega⟩, ⟨gx (BK101.out)⟩, ⟨bx HB.out⟩⟩
   ·rw [if_neg c3] at H
    have c3b0 := decide_eq_false c3
    clear c3
    by_cases c25 : (l0_0.length : Int) ≤ 24
    ·rw [if_pos c25] at H
     have c25b0 := decide_eq_true c25
     have c25b1 : decide (l0_0.length ≤ 24) = true := decide_eq_true (by omega)
     clear c25
     replace H := Option.bind_eq_some_iff.mp H
     obtain ⟨t102, A260, H⟩ := H
     have A26 := Aside0.mk A260
     clear A260
     by_cases c27 : t102 = true
     ·subst c27
      rw [if_pos rfl] at H
      replace H := Option.bind_eq_some_iff.mp H
      obtain ⟨t103, A280, H⟩ := H
      have A28 := Aside0.mk A280
      clear A280
      by_cases c29 : t103 = true
      ·subst c29
       rw [if_pos rfl] at H
       by_cases c30 : a0_2 = true
       ·subst c30
        rw [if_pos rfl] at H
        obtain rfl := Option.some.inj H
        have hz31 := cells_4 BK101.out
        go_wp2_with (first | (go_at_call 113; (with_reducible refine (spec_l5Entries.calls k1 _ _ l0_1 true _ (cx (Kd.C_below HR0_1.out HB.out)) HC0_1.out A26.out).mono ?_); rintro e w32 ⟨rfl, hb⟩; replace BK101 := kb BK101 hb; replace HB := kB HB hb; (try clear hb); (try clear hb2); (try clear hk); (try clear hi); have hz33 := cells_4 BK101.out) | (go_at_call 94; (with_reducible refine (spec_l2Affixes.calls k1 _ _ l0_3 true _ (cx (Kd.C_below HR0_3.out HB.out)) HC0_3.out A28.out).mono ?_); rintro e w34 ⟨rfl, hb⟩; replace BK101 := kb BK101 hb; replace HB := kB HB hb; (try clear hb); (try clear hb2); (try clear hk); (try clear hi); have hz35 := cells_4 BK101.out))
        repeat (go_quiet (first | (go_at_call 113; (with_reducible refine (spec_l5Entries.calls k1 _ _ l0_1 true _ (cx (Kd.C_below HR0_1.out HB.out)) HC0_1.out A26.out).mono ?_); rintro e w32 ⟨rfl, hb⟩; replace BK101 := kb BK101 hb; replace HB := kB HB hb; (try clear hb); (try clear hb2); (try clear hk); (try clear hi); have hz33 := cells_4 BK101.out) | (go_at_call 94; (with_reducible refine (spec_l2Affixes.calls k1 _ _ l0_3 true _ (cx (Kd.C_below HR0_3.out HB.out)) HC0_3.out A28.out).mono ?_); rintro e w34 ⟨rfl, hb⟩; replace BK101 := kb BK101 hb; replace HB := kB HB hb; (try clear hb); (try clear hb2); (try clear hk); (try clear hi); have hz35 := cells_4 BK101.out)); try go_wp2_with (first | (go_at_call 113; (with_reducible refine (spec_l5Entries.calls k1 _ _ l0_1 true _ (cx (Kd.C_below HR0_1.out HB.out)) HC0_1.out A26.out).mono ?_); rintro e w32 ⟨rfl, hb⟩; replace BK101 := kb BK101 hb; replace HB := kB HB hb; (try clear hb); (try clear hb2); (try clear hk); (try clear hi); have hz33 := cells_4 BK101.out) | (go_at_call 94; (with_reducible refine (spec_l2Affixes.calls k1 _ _ l0_3 true _ (cx (Kd.C_below HR0_3.out HB.out)) HC0_3.out A28.out).mono ?_); rintro e w34 ⟨rfl, hb⟩; replace BK101 := kb BK101 hb; replace HB := kB HB hb; (try clear hb); (try clear hb2); (try clear hk); (try clear hi); have hz35 := cells_4 BK101.out)))
        go_ret
        exact ⟨by rfl, bx HB.out⟩
       ·replace c30 := Bool.eq_false_iff.mpr c30
        subst c30
        rw [if_neg Bool.false_ne_true] at H
        obtain rfl := Option.some.inj H
        have hz36 := cells_4 BK101.out
        go_wp2_with (first | (go_at_call 113; (with_reducible refine (spec_l5Entries.calls k1 _ _ l0_1 true _ (cx (Kd.C_below HR0_1.out HB.out)) HC0_1.out A26.out).mono ?_); rintro e w37 ⟨rfl, hb⟩; replace BK101 := kb BK101 hb; replace HB := kB HB hb; (try clear hb); (try clear hb2); (try clear hk); (try clear hi); have hz38 := cells_4 BK101.out) | (go_at_call 94; (with_reducible refine (spec_l2Affixes.calls k1 _ _ l0_3 true _ (cx (Kd.C_below HR0_3.out HB.out)) HC0_3.out A28.out).mono ?_); rintro e w39 ⟨rfl, hb⟩; replace BK101 := kb BK101 hb; replace HB := kB HB hb; (try clear hb); (try clear hb2); (try clear hk); (try clear hi); have hz40 := cells_4 BK101.out))
        repeat (go_quiet (first | (go_at_call 113; (with_reducible refine (spec_l5Entries.calls k1 _ _ l0_1 true _ (cx (Kd.C_below HR0_1.out HB.out)) HC0_1.out A26.out).mono ?_); rintro e w37 ⟨rfl, hb⟩; replace BK101 := kb BK101 hb; replace HB := kB HB hb; (try clear hb); (try clear hb2); (try clear hk); (try clear hi); have hz38 := cells_4 BK101.out) | (go_at_call 94; (with_reducible refine (spec_l2Affixes.calls k1 _ _ l0_3 true _ (cx (Kd.C_below HR0_3.out HB.out)) HC0_3.out A28.out).mono ?_); rintro e w39 ⟨rfl, hb⟩; replace BK101 := kb BK101 hb; replace HB := kB HB hb; (try clear hb); (try clear hb2); (try clear hk); (try clear hi); have hz40 := cells_4 BK101.out)); try go_wp2_with (first | (go_at_call 113; (with_reducible refine (spec_l5Entries.calls k1 _ _ l0_1 true _ (cx (Kd.C_below HR0_1.out HB.out)) HC0_1.out A26.out).mono ?_); rintro e w37 ⟨rfl, hb⟩; replace BK101 := kb BK101 hb; replace HB := kB HB hb; (try clear hb); (try clear hb2); (try clear hk); (try clear hi); have hz38 := cells_4 BK101.out) | (go_at_call 94; (with_reducible refine (spec_l2Affixes.calls k1 _ _ l0_3 true _ (cx (Kd.C_below HR0_3.out HB.out)) HC0_3.out A28.out).mono ?_); rintro e w39 ⟨rfl, hb⟩; replace BK101 := kb BK101 hb; replace HB := kB HB hb; (try clear hb); (try clear hb2); (try clear hk); (try clear hi); have hz40 := cells_4 BK101.out)))
        go_ret
        exact ⟨by rfl, bx HB.out⟩
      ·replace c29 := Bool.eq_false_iff.mpr c29
       subst c29
       rw [if_neg Bool.false_ne_true] at H
       obtain rfl := Option.some.inj H
       have hz41 := cells_4 BK101.out
       go_wp2_with (first | (go_at_call 113; (with_reducible refine (spec_l5Entries.calls k1 _ _ l0_1 true _ (cx (Kd.C_below HR0_1.out HB.out)) HC0_1.out A26.out).mono ?_); rintro e w42 ⟨rfl, hb⟩; replace BK101 := kb BK101 hb; replace HB := kB HB hb; (try clear hb); (try clear hb2); (try clear hk); (try clear hi); have hz43 := cells_4 BK101.out) | (go_at_call 94; (with_reducible refine (spec_l2Affixes.calls k1 _ _ l0_3 false _ (cx (Kd.C_below HR0_3.out HB.out)) HC0_3.out A28.out).mono ?_); rintro e w44 ⟨rfl, hb⟩; replace BK101 := kb BK101 hb; replace HB := kB HB hb; (try clear hb); (try clear hb2); (try clear hk); (try clear hi)))
       repeat (go_quiet (first | (go_at_call 113; (with_reducible refine (spec_l5Entries.calls k1 _ _ l0_1 true _ (cx (Kd.C_below HR0_1.out HB.out)) HC0_1.out A26.out).mono ?_); rintro e w42 ⟨rfl, hb⟩; replace BK101 := kb BK101 hb; replace HB := kB HB hb; (try clear hb); (try clear hb2); (try clear hk); (try clear hi); have hz43 := cells_4 BK101.out) | (go_at_call 94; (with_reducible refine (spec_l2Affixes.calls k1 _ _ l0_3 false _ (cx (Kd.C_below HR0_3.out HB.out)) HC0_3.out A28.out).mono ?_); rintro e w44 ⟨rfl, hb⟩; replace BK101 := kb BK101 hb; replace HB := kB HB hb; (try clear hb); (try clear hb2); (try clear hk); (try clear hi))); try go_wp2_with (first | (go_at_call 113; (with_reducible refine (spec_l5Entries.calls k1 _ _ l0_1 true _ (cx (Kd.C_below HR0_1.out HB.out)) HC0_1.out A26.out).mono ?_); rintro e w42 ⟨rfl, hb⟩; replace BK101 := kb BK101 hb; replace HB := kB HB hb; (try clear hb); (try clear hb2); (try clear hk); (try clear hi); have hz43 := cells_4 BK101.out) | (go_at_call 94; (with_reducible refine (spec_l2Affixes.calls k1 _ _ l0_3 false _ (cx (Kd.C_below HR0_3.out HB.out)) HC0_3.out A28.out).mono ?_); rintro e w44 ⟨rfl, hb⟩; replace BK101 := kb BK101 hb; replace HB := kB HB hb; (try clear hb); (try clear hb2); (try clear hk); (try clear hi))))
       go_ret
       exact ⟨by rfl, bx HB.out⟩
     ·replace c27 := Bool.eq_false_iff.mpr c27
      subst c27
      rw [if_neg Bool.false_ne_true] at H
      obtain rfl := Option.some.inj H
      have hz45 := cells_4 BK101.out
      go_wp2_with (first | (go_at_call 113; (with_reducible refine (spec_l5Entries.calls k1 _ _ l0_1 false _ (cx (Kd.C_below HR0_1.out HB.out)) HC0_1.out A26.out).mono ?_); rintro e w46 ⟨rfl, hb⟩; replace BK101 := kb BK101 hb; replace HB := kB HB hb; (try clear hb); (try clear hb2); (try clear hk); (try clear hi)))
      repeat (go_quiet (first | (go_at_call 113; (with_reducible refine (spec_l5Entries.calls k1 _ _ l0_1 false _ (cx (Kd.C_below HR0_1.out HB.out)) HC0_1.out A26.out).mono ?_); rintro e w46 ⟨rfl, hb⟩; replace BK101 := kb BK101 hb; replace HB := kB HB hb; (try clear hb); (try clear hb2); (try clear hk); (try clear hi))); try go_wp2_with (first | (go_at_call 113; (with_reducible refine (spec_l5Entries.calls k1 _ _ l0_1 false _ (cx (Kd.C_below HR0_1.out HB.out)) HC0_1.out A26.out).mono ?_); rintro e w46 ⟨rfl, hb⟩; replace BK101 := kb BK101 hb; replace HB := kB HB hb; (try clear hb); (try clear hb2); (try clear hk); (try clear hi))))
      go_ret
      exact ⟨by rfl, bx HB.out⟩
    ·rw [if_neg c25] at H
     have c25b0 := decide_eq_false c25
     have c25b1 : decide (l0_0.length ≤ 24) = false := decide_eq_false (by omega)
     clear c25
     obtain rfl := Option.some.inj H
     have hz47 := cells_4 BK101.out
     go_wp2
     repeat (go_quiet (fail); try go_wp2)
     go_ret
     exact ⟨by rfl, bx HB.out⟩
theorem gf65 : Go_ Tryz.prog 65 Tryz.f65 := ⟨Tryz.func65, by kernel_rfl, rfl⟩
def spec_l6Figure.f (a0 : Int) : Option (Bool) := if a0 ≥ 48 then (if a0 ≤ 57 then (some true) else (if a0 ≥ 97 then (some (decide (a0 ≤ 102))) else (some false))) else (if a0 ≥ 97 then (some (decide (a0 ≤ 102))) else (some false))
theorem spec_l6Figure.calls (a0 : Int) (r : Bool) (w : World) (h : spec_l6Figure.f a0 = some r) :
  Calls Tryz.prog 65 #[.int .u8 a0] w fun e w' => e = .returned (.bool r) ∧ Drawn0 w w' := by
 unfold spec_l6Figure.f at h
 have H := h
 clear h
 by_cases c2 : a0 ≥ 48
 ·rw [if_pos c2] at H
  have c2b0 : decide (48 ≤ a0) = true := decide_eq_true c2
  clear c2
  by_cases c3 : a0 ≤ 57
  ·rw [if_pos c3] at H
   have c3b0 := decide_eq_true c3
   clear c3
   obtain rfl := Option.some.inj H
   go_enter Tryz.func65, Tryz.ntmps65
   go_wp2
   go_ret
   exact ⟨by first | rfl | (simp; done) | (simp [*]; done), by repeat (first | exact Drawn0.refl _ | apply Drawn0.step)⟩
  ·rw [if_neg c3] at H
   have c3b0 := decide_eq_false c3
   clear c3
   by_cases c4 : a0 ≥ 97
   ·rw [if_pos c4] at H
    have c4b0 : decide (97 ≤ a0) = true := decide_eq_true c4
    clear c4
    obtain rfl := Option.some.inj H
    go_enter Tryz.func65, Tryz.ntmps65
    go_wp2
    go_ret
    exact ⟨by first | rfl | (simp; done) | (simp [*]; done), by repeat (first | exact Drawn0.refl _ | apply Drawn0.step)⟩
   ·rw [if_neg c4] at H
    have c4b0 : decide (97 ≤ a0) = false := decide_eq_false c4
    clear c4
    obtain rfl := Option.some.inj H
    go_enter Tryz.func65, Tryz.ntmps65
    go_wp2
    go_ret
    exact ⟨by first | rfl | (simp; done) | (simp [*]; done), by repeat (first | exact Drawn0.refl _ | apply Drawn0.step)⟩
 ·rw [if_neg c2] at H
  have c2b0 : decide (48 ≤ a0) = false := decide_eq_false c2
  clear c2
  by_cases c5 : a0 ≥ 97
  ·rw [if_pos c5] at H
   have c5b0 : decide (97 ≤ a0) = true := decide_eq_true c5
   clear c5
   obtain rfl := Option.some.inj H
   go_enter Tryz.func65, Tryz.ntmps65
   go_wp2
   go_ret
   exact ⟨by first | rfl | (simp; done) | (simp [*]; done), by repeat (first | exact Drawn0.refl _ | apply Drawn0.step)⟩
  ·rw [if_neg c5] at H
   have c5b0 : decide (97 ≤ a0) = false := decide_eq_false c5
   clear c5
   obtain rfl := Option.some.inj H
   go_enter Tryz.func65, Tryz.ntmps65
   go_wp2
   go_ret
   exact ⟨by first | rfl | (simp; done) | (simp [*]; done), by repeat (first | exact Drawn0.refl _ | apply Drawn0.step)⟩
theorem gf66 : Go_ Tryz.prog 66 Tryz.f66 := ⟨Tryz.func66, by kernel_rfl, rfl⟩
def spec_l1Dec.f : Nat → Int → Option (ByteArray)
 | 0, _ => none
 | k + 1, a0 => if a0 < (-9223372036854775807) then (some (⟨#[45, 57, 50, 50, 51, 51, 55, 50, 48, 51, 54, 56, 53, 52, 55, 55, 53, 56, 48, 56]⟩ : ByteArray)) else (if a0 < 0 then ((spec_l1Dec.f k (wrap64 (-a0))).bind fun t101 => (if 1 + t101.size ≤ 9223372036854775807 then (some ((⟨#[45]⟩ : ByteArray) ++ t101)) else (none))) else (if a0 < 10 then (some (strOfNums (([(wrap64 (48 + a0)) % 256] : List Int)))) else ((spec_l1Dec.f k (wrap64 (Int.tdiv a0 10))).bind fun t105 => ((some (([(wrap64 (48 + (Int.tmod a0 10))) % 256] : List Int) : List Int)).bind fun y106 => (if t105.size + (strOfNums y106).size ≤ 9223372036854775807 then (some (t105 ++ (strOfNums y106))) else (none))))))
theorem spec_l1Dec.mono_l : ∀ k, (∀ y0, LeO (spec_l1Dec.f k y0) (spec_l1Dec.f (k + 1) y0))
 | 0 => fun _ r h => by simp [spec_l1Dec.f] at h
 | k + 1 => by
  have ih0 := spec_l1Dec.mono_l k
  ·intro y0
   unfold spec_l1Dec.f
   have I0_ := fun a => LeC.mk (ih0 a)
   exact LeC.out
theorem spec_l1Dec.mono : ∀ a0 k, LeO (spec_l1Dec.f k a0) (spec_l1Dec.f (k + 1) a0) := by
 intro a0 k
 have ih0 := spec_l1Dec.mono_l k
 exact ih0 a0
def spec_l1Dec.T7 : Bool × List (List Nat × List Nat) := (true, [([], []), ([0], [0]), ([1], [1]), ([], []), ([3], [3]), ([4], [4]), ([5], [5]), ([6], [6]), ([7], [7]), ([2, 8], [2, 8]), ([9, 2, 0, 1, 2, 3, 4, 5, 6, 7, 8, 9], [9])])
def spec_l1Dec.B7 : List Nat := [0, 1, 3, 0, 8, 24, 56, 120, 248, 511, 1023]
theorem spec_l1Dec.tab7 : rtab .any (opsOf Tryz.f66 7) = spec_l1Dec.T7 := by kernel_rfl
theorem spec_l1Dec.bits7 : waitsOk spec_l1Dec.T7.2 spec_l1Dec.B7 = true := by kernel_rfl
theorem spec_l1Dec.calls (k : Nat) : ∀ (a0 : Int) (r : ByteArray) (w : World) (h : spec_l1Dec.f k a0 = some r),
  Calls Tryz.prog 66 #[.int .i64 a0] w fun e w' => e = .returned (.string r) ∧ Below w.heap.size w w' := by
 induction k using Nat.strongRecOn with
 | _ k ih =>
 intro a0 r w h
 cases k with
 | zero => exact absurd h (by simp [spec_l1Dec.f])
 | succ k =>
 simp only [spec_l1Dec.f] at h
 have HB := Aside0.mk (Below.refl w.heap.size w)
 have H : (if a0 < (-9223372036854775807) then (some (⟨#[45, 57, 50, 50, 51, 51, 55, 50, 48, 51, 54, 56, 53, 52, 55, 55, 53, 56, 48, 56]⟩ : ByteArray)) else (if a0 < 0 then ((spec_l1Dec.f k (wrap64 (-a0))).bind fun t101 => (if 1 + t101.size ≤ 9223372036854775807 then (some ((⟨#[45]⟩ : ByteArray) ++ t101)) else (none))) else (if a0 < 10 then (some (strOfNums (([(wrap64 (48 + a0)) % 256] : List Int)))) else ((spec_l1Dec.f k (wrap64 (Int.tdiv a0 10))).bind fun t105 => ((some (([(wrap64 (48 + (Int.tmod a0 10))) % 256] : List Int) : List Int)).bind fun y106 => (if t105.size + (strOfNums y106).size ≤ 9223372036854775807 then (some (t105 ++ (strOfNums y106))) else (none))))))) = some r := h
 clear h
 by_cases c2 : a0 < (-9223372036854775807)
 ·rw [if_pos c2] at H
  have c2b0 := decide_eq_true c2
  clear c2
  obtain rfl := Option.some.inj H
  go_enter Tryz.func66, Tryz.ntmps66
  go_wp2
  go_ret
  exact ⟨by rfl, bx HB.out⟩
 ·rw [if_neg c2] at H
  have c2b0 := decide_eq_false c2
  clear c2
  by_cases c3 : a0 < 0
  ·rw [if_pos c3] at H
   have c3b0 := decide_eq_true c3
   clear c3
   replace H := Option.bind_eq_some_iff.mp H
   obtain ⟨t101, A40, H⟩ := H
   have A4 := Aside0.mk A40
   clear A40
   have c5 := ite_y H
   replace H := ite_t H
   have c5b0 := eq_true c5
   have c5b1 := decide_eq_true c5
   try have c5b2 : (9223372036854775807 < 1 + t101.size) = False := eq_false (Nat.not_lt.2 c5)
   obtain rfl := Option.some.inj H
   go_enter Tryz.func66, Tryz.ntmps66
   go_wp2_with (first | ((with_reducible refine gate_callee (f := 66) rfl ?_); refine goL (some 9) rfl rfl gf66 #[.int .i64 (wrap64 (-a0))] rfl rfl ?_; (with_reducible refine (ih k (by omega) (wrap64 (-a0)) t101 _ A4.out).mono ?_); rintro e w6 ⟨rfl, hb⟩; refine ⟨_, rfl, ?_⟩; replace HB := kB HB hb; (try clear hb); (try clear hb2); (try clear hk); (try clear hi)))
   go_ret
   exact ⟨by rfl, bx HB.out⟩
  ·rw [if_neg c3] at H
   have c3b0 := decide_eq_false c3
   clear c3
   by_cases c7 : a0 < 10
   ·rw [if_pos c7] at H
    have c7b0 := decide_eq_true c7
    clear c7
    obtain ⟨y102, hy102⟩ : ∃ y_ : List Int, y_ = (([(wrap64 (48 + a0)) % 256] : List Int)) := ⟨_, rfl⟩
    first | replace H := bind_y hy102 H | rw [← hy102] at H
    have Ny102 := Aside0.mk hy102
    clear hy102
    obtain rfl := Option.some.inj H
    go_enter Tryz.func66, Tryz.ntmps66
    go_wp2_with (first | ((with_reducible refine gate_dst (N := 16) rfl ?_); refine Kd.R_lit (Kd.int .u8) _ 5 ?hg (N := 16) ?hd (xs := ([(wrap64 (48 + a0)) % 256] : List Int)) (inner := [.int .u8 ((wrap64 (48 + a0)) % 256)]) (ok := fun _ => True) (okp := fun _ => True) ?hr ?hp (fun _ hk => hk) trivial (Below.refl _ _) (Nat.le_refl _) (by simp) ?_; (case hd => rfl); (case hg => rfl); (case hr => first | (go_simp; done) | (go_simp; rfl)); (case hp => exact (Reps.one (show Kd.M (Kd.int .u8) _ _ _ ((wrap64 (48 + a0)) % 256) [.int .u8 ((wrap64 (48 + a0)) % 256)] from rfl) (Reps.none _ _))); intro v103 w8 ho9 hb hg_ hnew_; clear hg_ hnew_; (first | rw [← Ny102.out] at ho9 | (simp only [Int.reduceToNat] at ho9; rw [← Ny102.out] at ho9)); have HO104 := Aside0.mk (Kd.R_lower ho9 (bz HB.out)); replace HB := kB HB hb; clear hb ho9; have hcv10 := own_string (P := Tryz.prog) Tryz.underlying122 Tryz.underlying5 Tryz.underlying9 (Kd.own_of_R HO104.out)))
    go_ret
    exact ⟨by rfl, bx HB.out⟩
   ·rw [if_neg c7] at H
    have c7b0 := decide_eq_false c7
    clear c7
    replace H := Option.bind_eq_some_iff.mp H
    obtain ⟨t105, A110, H⟩ := H
    have A11 := Aside0.mk A110
    clear A110
    obtain ⟨y106, hy106⟩ : ∃ y_ : List Int, y_ = (([(wrap64 (48 + (Int.tmod a0 10))) % 256] : List Int)) := ⟨_, rfl⟩
    first | replace H := bind_y hy106 H | rw [← hy106] at H
    have Ny106 := Aside0.mk hy106
    clear hy106
    have c12 := ite_y H
    replace H := ite_t H
    have c12b0 := eq_true c12
    have c12b1 := decide_eq_true c12
    try have c12b2 : (9223372036854775807 < t105.size + (strOfNums y106).size) = False := eq_false (Nat.not_lt.2 c12)
    obtain rfl := Option.some.inj H
    go_enter Tryz.func66, Tryz.ntmps66
    try go_wp2
    replace HB := Aside0.mk (below_drew1 HB.out)
    refine start_ (n := 11) (S := fun w' => True) (ds := []) _ (by kernel_rfl) rfl rfl trivial (fun hHeld => ?_); refine with_tabW spec_l1Dec.tab7 spec_l1Dec.bits7 (fun HT_ HW_ => ?_)
    generalize w.drew = w13 at HB hHeld ⊢
    refine ord_ [.p 0 18, .p 1 19, .p 3 21, .p 4 22, .p 5 23, .p 6 24] ?_
    repeat (refine pu_ (v := ?_) (a' := ?_) HT_ rfl rfl (by kernel_rfl) (fun _ _ _ h => h) (by rfl) ?_ ?_ ?_; rotate_left 2; (intro w'; go_simp; with_reducible rfl); (simp only [Act.put, List.setIfInBounds_toArray, List.set_cons_zero, List.set_cons_succ, i64_w, i32_w]; rfl))
    refine ord0 ?_
    refine join_ (σ := Value) 2 #[true, true, true, true, true, true, true, true, true, false, false] (fun s_ => [(20, .string t105), (25, s_), (26, .string (strOfNums y106))]) (fun s_ w' => (Kd.R (Kd.int .u8) 5 w' w.heap.size (fun _ => True) s_ y106) ∧ (Below w.heap.size w w')) ?_ ?_
    rotate_left
    ·intro hCont
     refine two_ (i := 2) (j := 7) (Ni := some 20) (Nj := some 25) #[true, true, true, true, true, true, true, false, false, false, false] #[true, true, false, true, true, true, true, true, false, false, false] rfl rfl rfl rfl (two_of HT_.out (by kernel_rfl)) (by decide) (by decide) (fun K hK => ?_) (fun K hK => ?_)
     ·skip
      refine goM gf66 #[.int .i64 (wrap64 (Int.tdiv a0 10))] (by rfl) rfl rfl rfl ?_
      with_reducible refine (ih k (by omega) (wrap64 (Int.tdiv a0 10)) t105 _ A11.out).mono ?_
      rintro e w14 ⟨rfl, hb⟩
      refine ⟨_, rfl, ?_⟩
      replace HB := kB HB hb
      (try clear hb)
      (try clear hb2)
      (try clear hk)
      (try clear hi)
      refine hK.out _ _ trivial (fun hHeld => ?_)
      clear hK K
      refine norm_ (a' := ?_) ?_ ?_
      rotate_left
      ·show Act.put _ (some 20) _ = _
       simp only [Act.put, List.setIfInBounds_toArray, List.set_cons_zero, List.set_cons_succ, i64_w, i32_w]
       rfl
      refine on_ (i := 7) (N := some 25) HT_ rfl rfl (by kernel_rfl) (by decide) (fun K hK => ?_)
      refine Kd.R_lit_step (Kd.int .u8) _ 5 ?hg (N := 25) ?hd (xs := ([(wrap64 (48 + (Int.tmod a0 10))) % 256] : List Int)) (inner := [.int .u8 ((wrap64 (48 + (Int.tmod a0 10))) % 256)]) (ok := fun _ => True) (okp := fun _ => True) ?hr ?hp (fun _ hk => hk) trivial (Below.refl _ _) (Nat.le_refl _) (by simp) ?_; (case hd => rfl); (case hg => rfl); (case hr => first | (go_simp; done) | (go_simp; rfl)); (case hp => exact (Reps.one (show Kd.M (Kd.int .u8) _ _ _ ((wrap64 (48 + (Int.tmod a0 10))) % 256) [.int .u8 ((wrap64 (48 + (Int.tmod a0 10))) % 256)] from rfl) (Reps.none _ _)))
      intro v107 w15 ho16 hb hg_ hnew_
      clear hg_ hnew_
      (first | rw [← Ny106.out] at ho16 | (simp only [Int.reduceToNat] at ho16; rw [← Ny106.out] at ho16))
      have HO108 := Aside0.mk (Kd.R_lower ho16 (bz HB.out))
      replace HB := kB HB hb
      clear hb ho16
      refine hK.out _ _ trivial (fun hHeld => ?_)
      clear hK K
      refine norm_ (a' := ?_) ?_ ?_
      rotate_left
      ·show Act.put _ (some 25) _ = _
       simp only [Act.put, List.setIfInBounds_toArray, List.set_cons_zero, List.set_cons_succ, i64_w, i32_w]
       rfl
      refine on_ (i := 8) (N := some 26) HT_ rfl rfl (by kernel_rfl) (by decide) (fun K hK => ?_)
      have hcv17 := own_string (P := Tryz.prog) Tryz.underlying122 Tryz.underlying5 Tryz.underlying9 (Kd.own_of_R HO108.out)
      refine value_ (w1 := ?_) (v := ?_) (by rfl) rfl ?_ ?_
      rotate_left 2
      ·go_simp
       constructor
       ·rfl
       ·rfl
      clear hcv17
      refine hK.out _ _ trivial (fun hHeld => ?_)
      clear hK K
      refine norm_ (a' := ?_) ?_ ?_
      rotate_left
      ·show Act.put _ (some 26) _ = _
       simp only [Act.put, List.setIfInBounds_toArray, List.set_cons_zero, List.set_cons_succ, i64_w, i32_w]
       rfl
      exact norm_ (by simp only [putAll, Act.put, List.setIfInBounds_toArray, List.set_cons_zero, List.set_cons_succ]) (hCont (v107) _ ⟨(rx HO108.out), (bx HB.out)⟩)
     ·skip
      refine Kd.R_lit_step (Kd.int .u8) _ 5 ?hg (N := 25) ?hd (xs := ([(wrap64 (48 + (Int.tmod a0 10))) % 256] : List Int)) (inner := [.int .u8 ((wrap64 (48 + (Int.tmod a0 10))) % 256)]) (ok := fun _ => True) (okp := fun _ => True) ?hr ?hp (fun _ hk => hk) trivial (Below.refl _ _) (Nat.le_refl _) (by simp) ?_; (case hd => rfl); (case hg => rfl); (case hr => first | (go_simp; done) | (go_simp; rfl)); (case hp => exact (Reps.one (show Kd.M (Kd.int .u8) _ _ _ ((wrap64 (48 + (Int.tmod a0 10))) % 256) [.int .u8 ((wrap64 (48 + (Int.tmod a0 10))) % 256)] from rfl) (Reps.none _ _)))
      intro v107 w14 ho15 hb hg_ hnew_
      clear hg_ hnew_
      (first | rw [← Ny106.out] at ho15 | (simp only [Int.reduceToNat] at ho15; rw [← Ny106.out] at ho15))
      have HO108 := Aside0.mk (Kd.R_lower ho15 (bz HB.out))
      replace HB := kB HB hb
      clear hb ho15
      refine hK.out _ _ trivial (fun hHeld => ?_)
      clear hK K
      refine norm_ (a' := ?_) ?_ ?_
      rotate_left
      ·show Act.put _ (some 25) _ = _
       simp only [Act.put, List.setIfInBounds_toArray, List.set_cons_zero, List.set_cons_succ, i64_w, i32_w]
       rfl
      refine two_ (i := 2) (j := 8) (Ni := some 20) (Nj := some 26) #[true, true, true, true, true, true, true, true, false, false, false] #[true, true, false, true, true, true, true, true, true, false, false] rfl rfl rfl rfl (two_of HT_.out (by kernel_rfl)) (by decide) (by decide) (fun K hK => ?_) (fun K hK => ?_)
      ·skip
       refine goM gf66 #[.int .i64 (wrap64 (Int.tdiv a0 10))] (by rfl) rfl rfl rfl ?_
       with_reducible refine (ih k (by omega) (wrap64 (Int.tdiv a0 10)) t105 _ A11.out).mono ?_
       rintro e w16 ⟨rfl, hb⟩
       refine ⟨_, rfl, ?_⟩
       replace HO108 := kR HO108 hb
       replace HB := kB HB hb
       (try clear hb)
       (try clear hb2)
       (try clear hk)
       (try clear hi)
       refine hK.out _ _ trivial (fun hHeld => ?_)
       clear hK K
       refine norm_ (a' := ?_) ?_ ?_
       rotate_left
       ·show Act.put _ (some 20) _ = _
        simp only [Act.put, List.setIfInBounds_toArray, List.set_cons_zero, List.set_cons_succ, i64_w, i32_w]
        rfl
       refine on_ (i := 8) (N := some 26) HT_ rfl rfl (by kernel_rfl) (by decide) (fun K hK => ?_)
       have hcv17 := own_string (P := Tryz.prog) Tryz.underlying122 Tryz.underlying5 Tryz.underlying9 (Kd.own_of_R HO108.out)
       refine value_ (w1 := ?_) (v := ?_) (by rfl) rfl ?_ ?_
       rotate_left 2
       ·go_simp
        constructor
        ·rfl
        ·rfl
       clear hcv17
       refine hK.out _ _ trivial (fun hHeld => ?_)
       clear hK K
       refine norm_ (a' := ?_) ?_ ?_
       rotate_left
       ·show Act.put _ (some 26) _ = _
        simp only [Act.put, List.setIfInBounds_toArray, List.set_cons_zero, List.set_cons_succ, i64_w, i32_w]
        rfl
       exact norm_ (by simp only [putAll, Act.put, List.setIfInBounds_toArray, List.set_cons_zero, List.set_cons_succ]) (hCont (v107) _ ⟨(rx HO108.out), (bx HB.out)⟩)
      ·skip
       have hcv16 := own_string (P := Tryz.prog) Tryz.underlying122 Tryz.underlying5 Tryz.underlying9 (Kd.own_of_R HO108.out)
       refine value_ (w1 := ?_) (v := ?_) (by rfl) rfl ?_ ?_
       rotate_left 2
       ·go_simp
        constructor
        ·rfl
        ·rfl
       clear hcv16
       refine hK.out _ _ trivial (fun hHeld => ?_)
       clear hK K
       refine norm_ (a' := ?_) ?_ ?_
       rotate_left
       ·show Act.put _ (some 26) _ = _
        simp only [Act.put, List.setIfInBounds_toArray, List.set_cons_zero, List.set_cons_succ, i64_w, i32_w]
        rfl
       refine on_ (i := 2) (N := some 20) HT_ rfl rfl (by kernel_rfl) (by decide) (fun K hK => ?_)
       refine goM gf66 #[.int .i64 (wrap64 (Int.tdiv a0 10))] (by rfl) rfl rfl rfl ?_
       with_reducible refine (ih k (by omega) (wrap64 (Int.tdiv a0 10)) t105 _ A11.out).mono ?_
       rintro e w17 ⟨rfl, hb⟩
       refine ⟨_, rfl, ?_⟩
       replace HO108 := kR HO108 hb
       replace HB := kB HB hb
       (try clear hb)
       (try clear hb2)
       (try clear hk)
       (try clear hi)
       refine hK.out _ _ trivial (fun hHeld => ?_)
       clear hK K
       refine norm_ (a' := ?_) ?_ ?_
       rotate_left
       ·show Act.put _ (some 20) _ = _
        simp only [Act.put, List.setIfInBounds_toArray, List.set_cons_zero, List.set_cons_succ, i64_w, i32_w]
        rfl
       exact norm_ (by simp only [putAll, Act.put, List.setIfInBounds_toArray, List.set_cons_zero, List.set_cons_succ]) (hCont (v107) _ ⟨(rx HO108.out), (bx HB.out)⟩)
    rintro v107 w18 ⟨h0_, h1_⟩
    have n0_ : Aside0 (Kd.R (Kd.int .u8) 5 w18 w.heap.size (fun _ => True) v107 y106) := ⟨h0_⟩
    have n1_ : Aside0 (Below w.heap.size w w18) := ⟨h1_⟩
    clear HB
    clear h0_ h1_
    have HO108 := n0_
    have HB := n1_
    clear n0_ n1_
    have hHeld := trivial
    refine norm_ (a' := ?_) ?_ ?_
    rotate_left
    ·simp only [putAll, Act.put, List.setIfInBounds_toArray, List.set_cons_zero, List.set_cons_succ]
     rfl
    refine ord_ [.p 9 27, .p 10 2] ?_
    repeat (refine pu_ (v := ?_) (a' := ?_) HT_ rfl rfl (by kernel_rfl) (fun _ _ _ h => h) (by rfl) ?_ ?_ ?_; rotate_left 2; (intro w'; go_simp; with_reducible rfl); (simp only [Act.put, List.setIfInBounds_toArray, List.set_cons_zero, List.set_cons_succ, i64_w, i32_w]; rfl))
    refine ord0 ?_
    refine done_ (done_of HT_.out (by kernel_rfl)) ?_
    try go_wp2
    go_ret
    exact ⟨by rfl, bx HB.out⟩
theorem gf97 : Go_ Tryz.prog 97 Tryz.f97 := ⟨Tryz.func97, by kernel_rfl, rfl⟩
def spec_l2AffixPut.f (a0_0 : ByteArray) (a0_1 : Bool) (a0_2 : ByteArray) (a0_3 : ByteArray) (a0_4 : ByteArray) : Option (ByteArray) := if a0_1 = true then (if 5 + 1 ≤ 9223372036854775807 then (if ((⟨#[102, 114, 111, 110, 116]⟩ : ByteArray) ++ (⟨#[32]⟩ : ByteArray)).size + a0_0.size ≤ 9223372036854775807 then (if (((⟨#[102, 114, 111, 110, 116]⟩ : ByteArray) ++ (⟨#[32]⟩ : ByteArray)) ++ a0_0).size + 1 ≤ 9223372036854775807 then (if ((((⟨#[102, 114, 111, 110, 116]⟩ : ByteArray) ++ (⟨#[32]⟩ : ByteArray)) ++ a0_0) ++ (⟨#[32]⟩ : ByteArray)).size + a0_2.size ≤ 9223372036854775807 then (if (((((⟨#[102, 114, 111, 110, 116]⟩ : ByteArray) ++ (⟨#[32]⟩ : ByteArray)) ++ a0_0) ++ (⟨#[32]⟩ : ByteArray)) ++ a0_2).size + 1 ≤ 9223372036854775807 then (if ((((((⟨#[102, 114, 111, 110, 116]⟩ : ByteArray) ++ (⟨#[32]⟩ : ByteArray)) ++ a0_0) ++ (⟨#[32]⟩ : ByteArray)) ++ a0_2) ++ (⟨#[32]⟩ : ByteArray)).size + a0_3.size ≤ 9223372036854775807 then (if (((((((⟨#[102, 114, 111, 110, 116]⟩ : ByteArray) ++ (⟨#[32]⟩ : ByteArray)) ++ a0_0) ++ (⟨#[32]⟩ : ByteArray)) ++ a0_2) ++ (⟨#[32]⟩ : ByteArray)) ++ a0_3).size + 1 ≤ 9223372036854775807 then (if ((((((((⟨#[102, 114, 111, 110, 116]⟩ : ByteArray) ++ (⟨#[32]⟩ : ByteArray)) ++ a0_0) ++ (⟨#[32]⟩ : ByteArray)) ++ a0_2) ++ (⟨#[32]⟩ : ByteArray)) ++ a0_3) ++ (⟨#[32]⟩ : ByteArray)).size + a0_4.size ≤ 9223372036854775807 then (some (((((((((⟨#[102, 114, 111, 110, 116]⟩ : ByteArray) ++ (⟨#[32]⟩ : ByteArray)) ++ a0_0) ++ (⟨#[32]⟩ : ByteArray)) ++ a0_2) ++ (⟨#[32]⟩ : ByteArray)) ++ a0_3) ++ (⟨#[32]⟩ : ByteArray)) ++ a0_4)) else (none)) else (none)) else (none)) else (none)) else (none)) else (none)) else (none)) else (none)) else (if 3 + 1 ≤ 9223372036854775807 then (if ((⟨#[101, 110, 100]⟩ : ByteArray) ++ (⟨#[32]⟩ : ByteArray)).size + a0_0.size ≤ 9223372036854775807 then (if (((⟨#[101, 110, 100]⟩ : ByteArray) ++ (⟨#[32]⟩ : ByteArray)) ++ a0_0).size + 1 ≤ 9223372036854775807 then (if ((((⟨#[101, 110, 100]⟩ : ByteArray) ++ (⟨#[32]⟩ : ByteArray)) ++ a0_0) ++ (⟨#[32]⟩ : ByteArray)).size + a0_2.size ≤ 9223372036854775807 then (if (((((⟨#[101, 110, 100]⟩ : ByteArray) ++ (⟨#[32]⟩ : ByteArray)) ++ a0_0) ++ (⟨#[32]⟩ : ByteArray)) ++ a0_2).size + 1 ≤ 9223372036854775807 then (if ((((((⟨#[101, 110, 100]⟩ : ByteArray) ++ (⟨#[32]⟩ : ByteArray)) ++ a0_0) ++ (⟨#[32]⟩ : ByteArray)) ++ a0_2) ++ (⟨#[32]⟩ : ByteArray)).size + a0_3.size ≤ 9223372036854775807 then (if (((((((⟨#[101, 110, 100]⟩ : ByteArray) ++ (⟨#[32]⟩ : ByteArray)) ++ a0_0) ++ (⟨#[32]⟩ : ByteArray)) ++ a0_2) ++ (⟨#[32]⟩ : ByteArray)) ++ a0_3).size + 1 ≤ 9223372036854775807 then (if ((((((((⟨#[101, 110, 100]⟩ : ByteArray) ++ (⟨#[32]⟩ : ByteArray)) ++ a0_0) ++ (⟨#[32]⟩ : ByteArray)) ++ a0_2) ++ (⟨#[32]⟩ : ByteArray)) ++ a0_3) ++ (⟨#[32]⟩ : ByteArray)).size + a0_4.size ≤ 9223372036854775807 then (some (((((((((⟨#[101, 110, 100]⟩ : ByteArray) ++ (⟨#[32]⟩ : ByteArray)) ++ a0_0) ++ (⟨#[32]⟩ : ByteArray)) ++ a0_2) ++ (⟨#[32]⟩ : ByteArray)) ++ a0_3) ++ (⟨#[32]⟩ : ByteArray)) ++ a0_4)) else (none)) else (none)) else (none)) else (none)) else (none)) else (none)) else (none)) else (none))
theorem spec_l2AffixPut.calls (a0_0 : ByteArray) (a0_1 : Bool) (a0_2 : ByteArray) (a0_3 : ByteArray) (a0_4 : ByteArray) (r : ByteArray) (w : World) (h : spec_l2AffixPut.f a0_0 a0_1 a0_2 a0_3 a0_4 = some r) :
  Calls Tryz.prog 97 #[.agg #[.string a0_0, .bool a0_1, .string a0_2, .string a0_3, .string a0_4]] w fun e w' => e = .returned (.string r) ∧ Below w.heap.size w w' := by
 obtain ⟨s1_, hs1_⟩ : ∃ s_ : ByteArray, ((⟨#[102, 114, 111, 110, 116]⟩ : ByteArray) ++ (⟨#[32]⟩ : ByteArray)) = s_ := ⟨_, rfl⟩
 obtain ⟨s2_, hs2_⟩ : ∃ s_ : ByteArray, (s1_ ++ a0_0) = s_ := ⟨_, rfl⟩
 obtain ⟨s3_, hs3_⟩ : ∃ s_ : ByteArray, (s2_ ++ (⟨#[32]⟩ : ByteArray)) = s_ := ⟨_, rfl⟩
 obtain ⟨s4_, hs4_⟩ : ∃ s_ : ByteArray, (s3_ ++ a0_2) = s_ := ⟨_, rfl⟩
 obtain ⟨s5_, hs5_⟩ : ∃ s_ : ByteArray, (s4_ ++ (⟨#[32]⟩ : ByteArray)) = s_ := ⟨_, rfl⟩
 obtain ⟨s6_, hs6_⟩ : ∃ s_ : ByteArray, (s5_ ++ a0_3) = s_ := ⟨_, rfl⟩
 obtain ⟨s7_, hs7_⟩ : ∃ s_ : ByteArray, (s6_ ++ (⟨#[32]⟩ : ByteArray)) = s_ := ⟨_, rfl⟩
 obtain ⟨s8_, hs8_⟩ : ∃ s_ : ByteArray, (s7_ ++ a0_4) = s_ := ⟨_, rfl⟩
 obtain ⟨s9_, hs9_⟩ : ∃ s_ : ByteArray, ((⟨#[101, 110, 100]⟩ : ByteArray) ++ (⟨#[32]⟩ : ByteArray)) = s_ := ⟨_, rfl⟩
 obtain ⟨s10_, hs10_⟩ : ∃ s_ : ByteArray, (s9_ ++ a0_0) = s_ := ⟨_, rfl⟩
 obtain ⟨s11_, hs11_⟩ : ∃ s_ : ByteArray, (s10_ ++ (⟨#[32]⟩ : ByteArray)) = s_ := ⟨_, rfl⟩
 obtain ⟨s12_, hs12_⟩ : ∃ s_ : ByteArray, (s11_ ++ a0_2) = s_ := ⟨_, rfl⟩
 obtain ⟨s13_, hs13_⟩ : ∃ s_ : ByteArray, (s12_ ++ (⟨#[32]⟩ : ByteArray)) = s_ := ⟨_, rfl⟩
 obtain ⟨s14_, hs14_⟩ : ∃ s_ : ByteArray, (s13_ ++ a0_3) = s_ := ⟨_, rfl⟩
 obtain ⟨s15_, hs15_⟩ : ∃ s_ : ByteArray, (s14_ ++ (⟨#[32]⟩ : ByteArray)) = s_ := ⟨_, rfl⟩
 obtain ⟨s16_, hs16_⟩ : ∃ s_ : ByteArray, (s15_ ++ a0_4) = s_ := ⟨_, rfl⟩
 have hu103 := Tryz.underlying103
 have HB := Aside0.mk (Below.refl w.heap.size w)
 have H : (if a0_1 = true then (if 5 + 1 ≤ 9223372036854775807 then (if s1_.size + a0_0.size ≤ 9223372036854775807 then (if s2_.size + 1 ≤ 9223372036854775807 then (if s3_.size + a0_2.size ≤ 9223372036854775807 then (if s4_.size + 1 ≤ 9223372036854775807 then (if s5_.size + a0_3.size ≤ 9223372036854775807 then (if s6_.size + 1 ≤ 9223372036854775807 then (if s7_.size + a0_4.size ≤ 9223372036854775807 then (some s8_) else (none)) else (none)) else (none)) else (none)) else (none)) else (none)) else (none)) else (none)) else (if 3 + 1 ≤ 9223372036854775807 then (if s9_.size + a0_0.size ≤ 9223372036854775807 then (if s10_.size + 1 ≤ 9223372036854775807 then (if s11_.size + a0_2.size ≤ 9223372036854775807 then (if s12_.size + 1 ≤ 9223372036854775807 then (if s13_.size + a0_3.size ≤ 9223372036854775807 then (if s14_.size + 1 ≤ 9223372036854775807 then (if s15_.size + a0_4.size ≤ 9223372036854775807 then (some s16_) else (none)) else (none)) else (none)) else (none)) else (none)) else (none)) else (none)) else (none))) = some r := by subst hs16_; subst hs15_; subst hs14_; subst hs13_; subst hs12_; subst hs11_; subst hs10_; subst hs9_; subst hs8_; subst hs7_; subst hs6_; subst hs5_; subst hs4_; subst hs3_; subst hs2_; subst hs1_; exact h
 clear h
 by_cases c2 : a0_1 = true
 ·subst c2
  have H1 : (if 5 + 1 ≤ 9223372036854775807 then (if s1_.size + a0_0.size ≤ 9223372036854775807 then (if s2_.size + 1 ≤ 9223372036854775807 then (if s3_.size + a0_2.size ≤ 9223372036854775807 then (if s4_.size + 1 ≤ 9223372036854775807 then (if s5_.size + a0_3.size ≤ 9223372036854775807 then (if s6_.size + 1 ≤ 9223372036854775807 then (if s7_.size + a0_4.size ≤ 9223372036854775807 then (some s8_) else (none)) else (none)) else (none)) else (none)) else (none)) else (none)) else (none)) else (none)) = some r := by rw [if_pos rfl] at H; first | exact H | (subst hs16_; subst hs15_; subst hs14_; subst hs13_; subst hs12_; subst hs11_; subst hs10_; subst hs9_; subst hs8_; subst hs7_; subst hs6_; subst hs5_; subst hs4_; subst hs3_; subst hs2_; subst hs1_; exact H)
  clear H
  have H := H1
  clear H1
  have c3 := ite_y H
  replace H := ite_t H
  have c3b0 := eq_true c3
  have c3b1 := decide_eq_true c3
  try have c3b2 : (9223372036854775807 < 5 + 1) = False := eq_false (Nat.not_lt.2 c3)
  have c4 := ite_y H
  replace H := ite_t H
  have c4b0 := eq_true c4
  have c4b1 := decide_eq_true c4
  try have c4b2 : (9223372036854775807 < s1_.size + a0_0.size) = False := eq_false (Nat.not_lt.2 c4)
  have c5 := ite_y H
  replace H := ite_t H
  have c5b0 := eq_true c5
  have c5b1 := decide_eq_true c5
  try have c5b2 : (9223372036854775807 < s2_.size + 1) = False := eq_false (Nat.not_lt.2 c5)
  have c6 := ite_y H
  replace H := ite_t H
  have c6b0 := eq_true c6
  have c6b1 := decide_eq_true c6
  try have c6b2 : (9223372036854775807 < s3_.size + a0_2.size) = False := eq_false (Nat.not_lt.2 c6)
  have c7 := ite_y H
  replace H := ite_t H
  have c7b0 := eq_true c7
  have c7b1 := decide_eq_true c7
  try have c7b2 : (9223372036854775807 < s4_.size + 1) = False := eq_false (Nat.not_lt.2 c7)
  have c8 := ite_y H
  replace H := ite_t H
  have c8b0 := eq_true c8
  have c8b1 := decide_eq_true c8
  try have c8b2 : (9223372036854775807 < s5_.size + a0_3.size) = False := eq_false (Nat.not_lt.2 c8)
  have c9 := ite_y H
  replace H := ite_t H
  have c9b0 := eq_true c9
  have c9b1 := decide_eq_true c9
  try have c9b2 : (9223372036854775807 < s6_.size + 1) = False := eq_false (Nat.not_lt.2 c9)
  have c10 := ite_y H
  replace H := ite_t H
  have c10b0 := eq_true c10
  have c10b1 := decide_eq_true c10
  try have c10b2 : (9223372036854775807 < s7_.size + a0_4.size) = False := eq_false (Nat.not_lt.2 c10)
  obtain rfl := Option.some.inj H
  go_enter Tryz.func97, Tryz.ntmps97
  go_wp2_with (first | ((with_reducible refine gate_dst (N := 1) rfl ?_); refine box_event rfl (N := 1) rfl (cs := #[.string a0_0, .bool true, .string a0_2, .string a0_3, .string a0_4]) (t := 103) (by go_simp <;> rfl) ?_; intro gb101 hg w11 hbox hb; have BK101 := Aside0.mk (hbox); have GW101 := Le_.mk (ge_of hg HB.out); have GE101 := Le_.mk (ge_of hg HB.out); replace HB := kB HB hb; clear hb hbox hg; have hz12 := cells_5 BK101.out))
  go_ret
  exact ⟨by rfl, bx HB.out⟩
 ·replace c2 := Bool.eq_false_iff.mpr c2
  subst c2
  have H1 : (if 3 + 1 ≤ 9223372036854775807 then (if s9_.size + a0_0.size ≤ 9223372036854775807 then (if s10_.size + 1 ≤ 9223372036854775807 then (if s11_.size + a0_2.size ≤ 9223372036854775807 then (if s12_.size + 1 ≤ 9223372036854775807 then (if s13_.size + a0_3.size ≤ 9223372036854775807 then (if s14_.size + 1 ≤ 9223372036854775807 then (if s15_.size + a0_4.size ≤ 9223372036854775807 then (some s16_) else (none)) else (none)) else (none)) else (none)) else (none)) else (none)) else (none)) else (none)) = some r := by rw [if_neg (show ¬ (false = true) by decide)] at H; first | exact H | (subst hs16_; subst hs15_; subst hs14_; subst hs13_; subst hs12_; subst hs11_; subst hs10_; subst hs9_; subst hs8_; subst hs7_; subst hs6_; subst hs5_; subst hs4_; subst hs3_; subst hs2_; subst hs1_; exact H)
  clear H
  have H := H1
  clear H1
  have c13 := ite_y H
  replace H := ite_t H
  have c13b0 := eq_true c13
  have c13b1 := decide_eq_true c13
  try have c13b2 : (9223372036854775807 < 3 + 1) = False := eq_false (Nat.not_lt.2 c13)
  have c14 := ite_y H
  replace H := ite_t H
  have c14b0 := eq_true c14
  have c14b1 := decide_eq_true c14
  try have c14b2 : (9223372036854775807 < s9_.size + a0_0.size) = False := eq_false (Nat.not_lt.2 c14)
  have c15 := ite_y H
  replace H := ite_t H
  have c15b0 := eq_true c15
  have c15b1 := decide_eq_true c15
  try have c15b2 : (9223372036854775807 < s10_.size + 1) = False := eq_false (Nat.not_lt.2 c15)
  have c16 := ite_y H
  replace H := ite_t H
  have c16b0 := eq_true c16
  have c16b1 := decide_eq_true c16
  try have c16b2 : (9223372036854775807 < s11_.size + a0_2.size) = False := eq_false (Nat.not_lt.2 c16)
  have c17 := ite_y H
  replace H := ite_t H
  have c17b0 := eq_true c17
  have c17b1 := decide_eq_true c17
  try have c17b2 : (9223372036854775807 < s12_.size + 1) = False := eq_false (Nat.not_lt.2 c17)
  have c18 := ite_y H
  replace H := ite_t H
  have c18b0 := eq_true c18
  have c18b1 := decide_eq_true c18
  try have c18b2 : (9223372036854775807 < s13_.size + a0_3.size) = False := eq_false (Nat.not_lt.2 c18)
  have c19 := ite_y H
  replace H := ite_t H
  have c19b0 := eq_true c19
  have c19b1 := decide_eq_true c19
  try have c19b2 : (9223372036854775807 < s14_.size + 1) = False := eq_false (Nat.not_lt.2 c19)
  have c20 := ite_y H
  replace H := ite_t H
  have c20b0 := eq_true c20
  have c20b1 := decide_eq_true c20
  try have c20b2 : (9223372036854775807 < s15_.size + a0_4.size) = False := eq_false (Nat.not_lt.2 c20)
  obtain rfl := Option.some.inj H
  go_enter Tryz.func97, Tryz.ntmps97
  go_wp2_with (first | ((with_reducible refine gate_dst (N := 1) rfl ?_); refine box_event rfl (N := 1) rfl (cs := #[.string a0_0, .bool false, .string a0_2, .string a0_3, .string a0_4]) (t := 103) (by go_simp <;> rfl) ?_; intro gb101 hg w21 hbox hb; have BK101 := Aside0.mk (hbox); have GW101 := Le_.mk (ge_of hg HB.out); have GE101 := Le_.mk (ge_of hg HB.out); replace HB := kB HB hb; clear hb hbox hg; have hz22 := cells_5 BK101.out))
  go_ret
  exact ⟨by rfl, bx HB.out⟩
theorem gf98 : Go_ Tryz.prog 98 Tryz.f98 := ⟨Tryz.func98, by kernel_rfl, rfl⟩
def spec_l2EntryPut.f (a0_0 : ByteArray) (a0_1 : ByteArray) : Option (ByteArray) := if a0_1.toList = ([] : List UInt8) then (some a0_0) else (if a0_0.size + 1 ≤ 9223372036854775807 then (if (a0_0 ++ (⟨#[47]⟩ : ByteArray)).size + a0_1.size ≤ 9223372036854775807 then (some ((a0_0 ++ (⟨#[47]⟩ : ByteArray)) ++ a0_1)) else (none)) else (none))
theorem spec_l2EntryPut.calls (a0_0 : ByteArray) (a0_1 : ByteArray) (r : ByteArray) (w : World) (h : spec_l2EntryPut.f a0_0 a0_1 = some r) :
  Calls Tryz.prog 98 #[.agg #[.string a0_0, .string a0_1]] w fun e w' => e = .returned (.string r) ∧ Below w.heap.size w w' := by
 obtain ⟨s1_, hs1_⟩ : ∃ s_ : ByteArray, (a0_0 ++ (⟨#[47]⟩ : ByteArray)) = s_ := ⟨_, rfl⟩
 obtain ⟨s2_, hs2_⟩ : ∃ s_ : ByteArray, (s1_ ++ a0_1) = s_ := ⟨_, rfl⟩
 have hu100 := Tryz.underlying100
 have HB := Aside0.mk (Below.refl w.heap.size w)
 have H : (if a0_1.toList = ([] : List UInt8) then (some a0_0) else (if a0_0.size + 1 ≤ 9223372036854775807 then (if s1_.size + a0_1.size ≤ 9223372036854775807 then (some s2_) else (none)) else (none))) = some r := by subst hs2_; subst hs1_; exact h
 clear h
 by_cases c2 : a0_1.toList = ([] : List UInt8)
 ·rw [if_pos c2] at H
  have c2b0 : (a0_1.toList == ([] : List UInt8)) = true := beq_iff_eq.mpr c2
  have c2b1 : (a0_1.toList != ([] : List UInt8)) = false := bne_eq_false_iff_eq.mpr c2
  clear c2
  obtain rfl := Option.some.inj H
  go_enter Tryz.func98, Tryz.ntmps98
  go_wp2_with (first | ((with_reducible refine gate_dst (N := 1) rfl ?_); refine box_event rfl (N := 1) rfl (cs := #[.string a0_0, .string a0_1]) (t := 100) (by go_simp <;> rfl) ?_; intro gb101 hg w3 hbox hb; have BK101 := Aside0.mk (hbox); have GW101 := Le_.mk (ge_of hg HB.out); have GE101 := Le_.mk (ge_of hg HB.out); replace HB := kB HB hb; clear hb hbox hg; have hz4 := cells_2 BK101.out))
  go_ret
  exact ⟨by first | rfl | (simp [*] <;> rfl), bx HB.out⟩
 ·rw [if_neg c2] at H
  have c2b0 : (a0_1.toList == ([] : List UInt8)) = false := beq_eq_false_iff_ne.mpr c2
  have c2b1 : (a0_1.toList != ([] : List UInt8)) = true := bne_iff_ne.mpr c2
  have c5 := ite_y H
  replace H := ite_t H
  have c5b0 := eq_true c5
  have c5b1 := decide_eq_true c5
  try have c5b2 : (9223372036854775807 < a0_0.size + 1) = False := eq_false (Nat.not_lt.2 c5)
  have c6 := ite_y H
  replace H := ite_t H
  have c6b0 := eq_true c6
  have c6b1 := decide_eq_true c6
  try have c6b2 : (9223372036854775807 < s1_.size + a0_1.size) = False := eq_false (Nat.not_lt.2 c6)
  obtain rfl := Option.some.inj H
  go_enter Tryz.func98, Tryz.ntmps98
  go_wp2_with (first | ((with_reducible refine gate_dst (N := 1) rfl ?_); refine box_event rfl (N := 1) rfl (cs := #[.string a0_0, .string a0_1]) (t := 100) (by go_simp <;> rfl) ?_; intro gb101 hg w7 hbox hb; have BK101 := Aside0.mk (hbox); have GW101 := Le_.mk (ge_of hg HB.out); have GE101 := Le_.mk (ge_of hg HB.out); replace HB := kB HB hb; clear hb hbox hg; have hz8 := cells_2 BK101.out))
  go_ret
  exact ⟨by first | rfl | (simp [*] <;> rfl), bx HB.out⟩
theorem gf67 : Go_ Tryz.prog 67 Tryz.f67 := ⟨Tryz.func67, by kernel_rfl, rfl⟩
mutual
def spec_l5Put.j0 : Nat → ByteArray → List ByteArray → List (S100) → Bool → List (S103) → Option (ByteArray)
 | 0, _, _, _, _, _ => none
 | k + 1, x3, x102000, x102001, x102002, x102003 => spec_l5Put.l0 k x3 0 x102000 x102001 x102002 x102003
def spec_l5Put.l0 : Nat → ByteArray → Int → List ByteArray → List (S100) → Bool → List (S103) → Option (ByteArray)
 | 0, _, _, _, _, _, _ => none
 | k + 1, x3, x4, x102000, x102001, x102002, x102003 => if x4 < (x102003.length : Int) then (if 0 ≤ x4 then ((spec_l2AffixPut.f ((rd_T103 x102003 x4).f0) ((rd_T103 x102003 x4).f1) ((rd_T103 x102003 x4).f2) ((rd_T103 x102003 x4).f3) ((rd_T103 x102003 x4).f4)).bind fun t103 => (if x3.size + t103.size ≤ 9223372036854775807 then (if (x3 ++ t103).size + 1 ≤ 9223372036854775807 then (spec_l5Put.l0 k ((x3 ++ t103) ++ (⟨#[10]⟩ : ByteArray)) (wrap64 (x4 + 1)) x102000 x102001 x102002 x102003) else (none)) else (none))) else (none)) else (spec_l5Put.l1 k x3 0 x102000 x102001 x102002 x102003)
def spec_l5Put.l1 : Nat → ByteArray → Int → List ByteArray → List (S100) → Bool → List (S103) → Option (ByteArray)
 | 0, _, _, _, _, _, _ => none
 | k + 1, x3, x5, x102000, x102001, x102002, x102003 => if x5 < (x102000.length : Int) then (if x3.size + 1 ≤ 9223372036854775807 then (if 0 ≤ x5 then (if (x3 ++ (⟨#[45]⟩ : ByteArray)).size + (rdOf ByteArray.empty x102000 x5).size ≤ 9223372036854775807 then (if ((x3 ++ (⟨#[45]⟩ : ByteArray)) ++ (rdOf ByteArray.empty x102000 x5)).size + 1 ≤ 9223372036854775807 then (spec_l5Put.l1 k (((x3 ++ (⟨#[45]⟩ : ByteArray)) ++ (rdOf ByteArray.empty x102000 x5)) ++ (⟨#[10]⟩ : ByteArray)) (wrap64 (x5 + 1)) x102000 x102001 x102002 x102003) else (none)) else (none)) else (none)) else (none)) else (spec_l5Put.l2 k x3 0 x102000 x102001 x102002 x102003)
def spec_l5Put.l2 : Nat → ByteArray → Int → List ByteArray → List (S100) → Bool → List (S103) → Option (ByteArray)
 | 0, _, _, _, _, _, _ => none
 | k + 1, x3, x6, x102000, x102001, x102002, x102003 => if x6 < (x102001.length : Int) then (if x3.size + 1 ≤ 9223372036854775807 then (if 0 ≤ x6 then ((spec_l2EntryPut.f ((rd_T100 x102001 x6).f0) ((rd_T100 x102001 x6).f1)).bind fun t106 => (if (x3 ++ (⟨#[43]⟩ : ByteArray)).size + t106.size ≤ 9223372036854775807 then (if ((x3 ++ (⟨#[43]⟩ : ByteArray)) ++ t106).size + 1 ≤ 9223372036854775807 then (spec_l5Put.l2 k (((x3 ++ (⟨#[43]⟩ : ByteArray)) ++ t106) ++ (⟨#[10]⟩ : ByteArray)) (wrap64 (x6 + 1)) x102000 x102001 x102002 x102003) else (none)) else (none))) else (none)) else (none)) else (some x3)
end
def spec_l5Put.f (k : Nat) (l0_0 : List ByteArray) (l0_1 : List (S100)) (a0_2 : Bool) (l0_3 : List (S103)) : Option (ByteArray) := if a0_2 = true then (spec_l5Put.j0 k (⟨#[97, 102, 102, 105, 120, 101, 115, 10]⟩ : ByteArray) l0_0 l0_1 a0_2 l0_3) else (spec_l5Put.j0 k (⟨#[]⟩ : ByteArray) l0_0 l0_1 a0_2 l0_3)
theorem spec_l5Put.mono_l : ∀ k, (∀ y0 y1 y2 y3 y4, LeO (spec_l5Put.j0 k y0 y1 y2 y3 y4) (spec_l5Put.j0 (k + 1) y0 y1 y2 y3 y4)) ∧ (∀ y0 y1 y2 y3 y4 y5, LeO (spec_l5Put.l0 k y0 y1 y2 y3 y4 y5) (spec_l5Put.l0 (k + 1) y0 y1 y2 y3 y4 y5)) ∧ (∀ y0 y1 y2 y3 y4 y5, LeO (spec_l5Put.l1 k y0 y1 y2 y3 y4 y5) (spec_l5Put.l1 (k + 1) y0 y1 y2 y3 y4 y5)) ∧ (∀ y0 y1 y2 y3 y4 y5, LeO (spec_l5Put.l2 k y0 y1 y2 y3 y4 y5) (spec_l5Put.l2 (k + 1) y0 y1 y2 y3 y4 y5))
 | 0 => ⟨fun _ _ _ _ _ r h => by simp [spec_l5Put.j0] at h, fun _ _ _ _ _ _ r h => by simp [spec_l5Put.l0] at h, fun _ _ _ _ _ _ r h => by simp [spec_l5Put.l1] at h, fun _ _ _ _ _ _ r h => by simp [spec_l5Put.l2] at h⟩
 | k + 1 => by
  obtain ⟨ih0, ih1, ih2, ih3⟩ := spec_l5Put.mono_l k
  refine ⟨?_, ?_, ?_, ?_⟩
  ·intro y0 y1 y2 y3 y4
   unfold spec_l5Put.j0
   have I0_ := fun a b c d e => LeC.mk (ih0 a b c d e)
   have I1_ := fun a b c d e f => LeC.mk (ih1 a b c d e f)
   have I2_ := fun a b c d e f => LeC.mk (ih2 a b c d e f)
   have I3_ := fun a b c d e f => LeC.mk (ih3 a b c d e f)
   exact LeC.out
  ·intro y0 y1 y2 y3 y4 y5
   unfold spec_l5Put.l0
   have I0_ := fun a b c d e => LeC.mk (ih0 a b c d e)
   have I1_ := fun a b c d e f => LeC.mk (ih1 a b c d e f)
   have I2_ := fun a b c d e f => LeC.mk (ih2 a b c d e f)
   have I3_ := fun a b c d e f => LeC.mk (ih3 a b c d e f)
   exact LeC.out
  ·intro y0 y1 y2 y3 y4 y5
   unfold spec_l5Put.l1
   have I0_ := fun a b c d e => LeC.mk (ih0 a b c d e)
   have I1_ := fun a b c d e f => LeC.mk (ih1 a b c d e f)
   have I2_ := fun a b c d e f => LeC.mk (ih2 a b c d e f)
   have I3_ := fun a b c d e f => LeC.mk (ih3 a b c d e f)
   exact LeC.out
  ·intro y0 y1 y2 y3 y4 y5
   unfold spec_l5Put.l2
   have I0_ := fun a b c d e => LeC.mk (ih0 a b c d e)
   have I1_ := fun a b c d e f => LeC.mk (ih1 a b c d e f)
   have I2_ := fun a b c d e f => LeC.mk (ih2 a b c d e f)
   have I3_ := fun a b c d e f => LeC.mk (ih3 a b c d e f)
   exact LeC.out
theorem spec_l5Put.mono : ∀ a0 a1 a2 a3 k, LeO (spec_l5Put.f k a0 a1 a2 a3) (spec_l5Put.f (k + 1) a0 a1 a2 a3) := by
 intro a0 a1 a2 a3 k
 obtain ⟨ih0, ih1, ih2, ih3⟩ := spec_l5Put.mono_l k
 unfold spec_l5Put.f
 have I0_ := fun a b c d e => LeC.mk (ih0 a b c d e)
 have I1_ := fun a b c d e f => LeC.mk (ih1 a b c d e f)
 have I2_ := fun a b c d e f => LeC.mk (ih2 a b c d e f)
 have I3_ := fun a b c d e f => LeC.mk (ih3 a b c d e f)
 exact LeC.out
theorem spec_l5Put.calls (k : Nat) (A0_0 : Option Addr) (c0_0 : Nat) (l0_0 : List ByteArray) (A0_1 : Option Addr) (c0_1 : Nat) (l0_1 : List (S100)) (a0_2 : Bool) (A0_3 : Option Addr) (c0_3 : Nat) (l0_3 : List (S103)) (r : ByteArray) (w : World) (hr0_0 : Kd.C Kd.string w A0_0 l0_0.length l0_0) (hc0_0 : l0_0.length ≤ c0_0) (hr0_1 : Kd.C k100 w A0_1 l0_1.length l0_1) (hc0_1 : l0_1.length ≤ c0_1) (hr0_3 : Kd.C k103 w A0_3 l0_3.length l0_3) (hc0_3 : l0_3.length ≤ c0_3) (h : spec_l5Put.f k l0_0 l0_1 a0_2 l0_3 = some r) :
  Calls Tryz.prog 67 #[.agg #[.slice A0_0 l0_0.length c0_0, .slice A0_1 l0_1.length c0_1, .bool a0_2, .slice A0_3 l0_3.length c0_3]] w fun e w' => e = .returned (.string r) ∧ Below w.heap.size w w' := by
 have hu34 := Tryz.underlying34
 have hu103 := Tryz.underlying103
 have hu100 := Tryz.underlying100
 have HR0_0 := Aside0.mk hr0_0
 have HC0_0 := Aside0.mk hc0_0
 clear hr0_0 hc0_0
 have HR0_1 := Aside0.mk hr0_1
 have HC0_1 := Aside0.mk hc0_1
 clear hr0_1 hc0_1
 have HR0_3 := Aside0.mk hr0_3
 have HC0_3 := Aside0.mk hc0_3
 clear hr0_3 hc0_3
 have HB := Aside0.mk (Below.refl w.heap.size w)
 unfold spec_l5Put.f at h
 have H := h
 clear h
 have HC2 := Aside0.mk H
 clear H
 go_enter Tryz.func67, Tryz.ntmps67
 go_upto_if 8 with (first | ((with_reducible refine gate_dst (N := 1) rfl ?_); refine box_event rfl (N := 1) rfl (cs := #[.slice A0_0 l0_0.length c0_0, .slice A0_1 l0_1.length c0_1, .bool a0_2, .slice A0_3 l0_3.length c0_3]) (t := 34) (by go_simp <;> rfl) ?_; intro gb101 hg w3 hbox hb; have BK101 := Aside0.mk (hbox); have GW101 := Le_.mk (ge_of hg HB.out); have GE101 := Le_.mk (ge_of hg HB.out); replace HB := kB HB hb; clear hb hbox hg; have hz4 := cells_4 BK101.out))
 (try simp only [Act.put, List.setIfInBounds_toArray, List.set_cons_zero, List.set_cons_succ])
 go_cut [3] (fun v3 wc => ∃ (kq : Nat) (x3_1 : ByteArray), v3 = .string x3_1 ∧ Aside0 (spec_l5Put.j0 kq x3_1 l0_0 l0_1 a0_2 l0_3 = some r) ∧ Aside0 (kq ≤ k) ∧ Aside0 (wc.heap[gb101]? = some (.cells #[(.slice A0_0 l0_0.length c0_0), (.slice A0_1 l0_1.length c0_1), .bool a0_2, (.slice A0_3 l0_3.length c0_3)] 34 (0, 0))) ∧ Aside0 (Below w.heap.size w wc))
 case first =>
  have H := HC2.out
  clear HC2
  by_cases c5 : a0_2 = true
  ·subst c5
   rw [if_pos rfl] at H
   have H' := Aside0.mk H
   clear H
   go_wp2
   go_meet
   case rel => exact ⟨_, ((⟨#[97, 102, 102, 105, 120, 101, 115, 10]⟩ : ByteArray)), (by first | rfl | (simp; done) | (simp [*]; done)), H', ⟨by first | omega | exact Nat.le_refl _⟩, ⟨gx (BK101.out)⟩, ⟨bx HB.out⟩⟩
  ·replace c5 := Bool.eq_false_iff.mpr c5
   subst c5
   rw [if_neg Bool.false_ne_true] at H
   have H' := Aside0.mk H
   clear H
   go_wp2
   go_meet
   case rel => exact ⟨_, ((⟨#[]⟩ : ByteArray)), (by first | rfl | (simp; done) | (simp [*]; done)), H', ⟨by first | omega | exact Nat.le_refl _⟩, ⟨gx (BK101.out)⟩, ⟨bx HB.out⟩⟩
 case rest =>
  clear HC2
  try clear p2
  try clear c5
  try clear hz4
  obtain ⟨kq, x3_1, rfl, HA, HJ1, BK101, HB⟩ := hcut
  cases kq with
  | zero => exact absurd HA.out (by simp [spec_l5Put.j0])
  | succ kj1 =>
   have H := HA.out
   clear HA
   simp only [spec_l5Put.j0] at H
   have H' := Aside0.mk H
   clear H
   go_wp2
   go_loopg [3, 4] kj1 (fun kq v3 v4 w' => ∃ (x3_2 : ByteArray) (x4_2 : Int), v3 = .string x3_2 ∧ v4 = .int .i64 x4_2 ∧ Aside0 (spec_l5Put.l0 kq x3_2 x4_2 l0_0 l0_1 a0_2 l0_3 = some r) ∧ Aside0 (kq ≤ kj1) ∧ Aside0 (w'.heap[gb101]? = some (.cells #[(.slice A0_0 l0_0.length c0_0), (.slice A0_1 l0_1.length c0_1), .bool a0_2, (.slice A0_3 l0_3.length c0_3)] 34 (0, 0))) ∧ Aside0 (Below w.heap.size w w'))
   case atStart => exact ⟨(x3_1), (0), (by first | rfl | (simp; done) | (simp [*]; done)), (by first | rfl | (simp; done) | (simp [*]; done)), H', ⟨Nat.le_refl _⟩, ⟨gx (BK101.out)⟩, ⟨bx HB.out⟩⟩
   case round =>
    clear H'
    try clear p2
    try clear c5
    try clear hz4
    try clear p2
    obtain ⟨x3_2, x4_2, rfl, rfl, HA, HK2, BK101, HB⟩ := hrel
    cases gk with
    | zero => exact absurd HA.out (by simp [spec_l5Put.l0])
    | succ k2 =>
     have H := HA.out
     clear HA
     simp only [spec_l5Put.l0] at H
     by_cases c6 : x4_2 < (l0_3.length : Int)
     ·rw [if_pos c6] at H
      have c6b0 := decide_eq_true c6
      clear c6
      have c7 := ite_y H
      replace H := ite_t H
      have c7b0 := decide_eq_true c7
      clear c7
      replace H := Option.bind_eq_some_iff.mp H
      obtain ⟨t103, A80, H⟩ := H
      have A8 := Aside0.mk A80
      clear A80
      have c9 := ite_y H
      replace H := ite_t H
      have c9b0 := eq_true c9
      have c9b1 := decide_eq_true c9
      try have c9b2 : (9223372036854775807 < x3_2.size + t103.size) = False := eq_false (Nat.not_lt.2 c9)
      have c10 := ite_y H
      replace H := ite_t H
      have c10b0 := eq_true c10
      have c10b1 := decide_eq_true c10
      try have c10b2 : (9223372036854775807 < (x3_2 ++ t103).size + 1) = False := eq_false (Nat.not_lt.2 c10)
      try (have c10b3 := c10b2; simp only [ByteArray.size_append] at c10b3)
      try (have c10h_ := c10; simp [go_sem, *] at c10h_; have c10b5 : (9223372036854775807 < x3_2.size + t103.size + 1) = False := eq_false (by omega); clear c10h_)
      have H' := Aside0.mk H
      clear H
      have hz11 := cells_4 BK101.out
      have p102 := of_decide_eq_true c7b0
      have q102 := of_decide_eq_true c6b0
      obtain ⟨ad102, e102, hx102_0, hx102_1, hx102_2, hx102_3, hx102_4⟩ := at_T103 HR0_3.out x4_2 p102 q102
      cases e102
      replace hx102_0 := px HB.out hx102_0
      replace hx102_1 := px HB.out hx102_1
      replace hx102_2 := px HB.out hx102_2
      replace hx102_3 := px HB.out hx102_3
      replace hx102_4 := px HB.out hx102_4
      replace p102 := eq_true p102
      replace q102 := eq_true q102
      go_wp2_with (first | ((with_reducible refine gate_callee (f := 97) rfl ?_); refine goL (some 22) rfl rfl gf97 #[.agg #[.string ((rd_T103 l0_3 x4_2).f0), .bool ((rd_T103 l0_3 x4_2).f1), .string ((rd_T103 l0_3 x4_2).f2), .string ((rd_T103 l0_3 x4_2).f3), .string ((rd_T103 l0_3 x4_2).f4)]] rfl rfl ?_; (with_reducible refine (spec_l2AffixPut.calls ((rd_T103 l0_3 x4_2).f0) ((rd_T103 l0_3 x4_2).f1) ((rd_T103 l0_3 x4_2).f2) ((rd_T103 l0_3 x4_2).f3) ((rd_T103 l0_3 x4_2).f4) t103 _ A8.out).mono ?_); rintro e w12 ⟨rfl, hb⟩; refine ⟨_, rfl, ?_⟩; replace BK101 := kb BK101 hb; replace HB := kB HB hb; (try clear hb); (try clear hb2); (try clear hk); (try clear hi)))
      go_roundg k2
      case measure => have := HJ1.out; have := HK2.out; omega
      case rel => exact ⟨((x3_2 ++ t103) ++ (⟨#[10]⟩ : ByteArray)), (wrap64 (x4_2 + 1)), (by first | rfl | (simp; done) | (simp [*]; done)), (by first | rfl | (simp; done) | (simp [*]; done)), H', ⟨by have := HJ1.out; have := HK2.out; omega⟩, ⟨gx (BK101.out)⟩, ⟨bx HB.out⟩⟩
     ·rw [if_neg c6] at H
      have c6b0 := decide_eq_false c6
      clear c6
      have H' := Aside0.mk H
      clear H
      have hz13 := cells_4 BK101.out
      go_wp2
      go_loopg [3, 5] k2 (fun kq v3 v5 w' => ∃ (x3_3 : ByteArray) (x5_3 : Int), v3 = .string x3_3 ∧ v5 = .int .i64 x5_3 ∧ Aside0 (spec_l5Put.l1 kq x3_3 x5_3 l0_0 l0_1 a0_2 l0_3 = some r) ∧ Aside0 (kq ≤ k2) ∧ Aside0 (w'.heap[gb101]? = some (.cells #[(.slice A0_0 l0_0.length c0_0), (.slice A0_1 l0_1.length c0_1), .bool a0_2, (.slice A0_3 l0_3.length c0_3)] 34 (0, 0))) ∧ Aside0 (Below w.heap.size w w'))
      case atStart => exact ⟨(x3_2), (0), (by first | rfl | (simp; done) | (simp [*]; done)), (by first | rfl | (simp; done) | (simp [*]; done)), H', ⟨Nat.le_refl _⟩, ⟨gx (BK101.out)⟩, ⟨bx HB.out⟩⟩
      case round =>
       clear H'
       try clear c1
       try clear p1
       try clear q1
       try clear hx1
       try clear p2
       try clear c5
       try clear c6
       try clear c6b0
       try clear p6
       try clear c7
       try clear c7b0
       try clear c9
       try clear c9b0
       try clear c9b1
       try clear c9b2
       try clear c10
       try clear c10b0
       try clear c10b1
       try clear c10b2
       try clear p10
       try clear q10
       try clear hx10
       try clear hz11
       try clear hz13
       try clear hz4
       try clear hx102_0
       try clear hx102_1
       try clear hx102_2
       try clear hx102_3
       try clear hx102_4
       try clear p102
       try clear p2
       try clear q102
       obtain ⟨x3_3, x5_3, rfl, rfl, HA, HK3, BK101, HB⟩ := hrel
       cases gk with
       | zero => exact absurd HA.out (by simp [spec_l5Put.l1])
       | succ k3 =>
        have H := HA.out
        clear HA
        simp only [spec_l5Put.l1] at H
        by_cases c14 : x5_3 < (l0_0.length : Int)
        ·rw [if_pos c14] at H
         have c14b0 := decide_eq_true c14
         clear c14
         have c15 := ite_y H
         replace H := ite_t H
         have c15b0 := eq_true c15
         have c15b1 := decide_eq_true c15
         try have c15b2 : (9223372036854775807 < x3_3.size + 1) = False := eq_false (Nat.not_lt.2 c15)
         have c16 := ite_y H
         replace H := ite_t H
         have c16b0 := decide_eq_true c16
         clear c16
         have c17 := ite_y H
         replace H := ite_t H
         have c17b0 := eq_true c17
         have c17b1 := decide_eq_true c17
         try have c17b2 : (9223372036854775807 < (x3_3 ++ (⟨#[45]⟩ : ByteArray)).size + (rdOf ByteArray.empty l0_0 x5_3).size) = False := eq_false (Nat.not_lt.2 c17)
         try (have c17b3 := c17b2; simp only [ByteArray.size_append, show (⟨#[45]⟩ : ByteArray).size = 1 from rfl] at c17b3)
         try (have c17h_ := c17; simp [go_sem, *] at c17h_; have c17b5 : (9223372036854775807 < x3_3.size + 1 + (rdOf ByteArray.empty l0_0 x5_3).size) = False := eq_false (by omega); clear c17h_)
         have c18 := ite_y H
         replace H := ite_t H
         have c18b0 := eq_true c18
         have c18b1 := decide_eq_true c18
         try have c18b2 : (9223372036854775807 < ((x3_3 ++ (⟨#[45]⟩ : ByteArray)) ++ (rdOf ByteArray.empty l0_0 x5_3)).size + 1) = False := eq_false (Nat.not_lt.2 c18)
         try (have c18b3 := c18b2; simp only [ByteArray.size_append, show (⟨#[45]⟩ : ByteArray).size = 1 from rfl] at c18b3)
         try (have c18h_ := c18; simp [go_sem, *] at c18h_; have c18b5 : (9223372036854775807 < x3_3.size + 1 + (rdOf ByteArray.empty l0_0 x5_3).size + 1) = False := eq_false (by omega); clear c18h_)
         have H' := Aside0.mk H
         clear H
         have hz19 := cells_4 BK101.out
         have p104 := of_decide_eq_true c16b0
         have q104 := of_decide_eq_true c14b0
         obtain ⟨ad104, e104, hx104_0⟩ := Kd.at_string HR0_0.out x5_3 p104 q104
         cases e104
         replace hx104_0 := px HB.out hx104_0
         replace p104 := eq_true p104
         replace q104 := eq_true q104
         go_wp2
         go_roundg k3
         case measure => have := HJ1.out; have := HK2.out; have := HK3.out; omega
         case rel => exact ⟨(((x3_3 ++ (⟨#[45]⟩ : ByteArray)) ++ (rdOf ByteArray.empty l0_0 x5_3)) ++ (⟨#[10]⟩ : ByteArray)), (wrap64 (x5_3 + 1)), (by first | rfl | (simp; done) | (simp [*]; done)), (by first | rfl | (simp; done) | (simp [*]; done)), H', ⟨by have := HJ1.out; have := HK2.out; have := HK3.out; omega⟩, ⟨gx (BK101.out)⟩, ⟨bx HB.out⟩⟩
        ·rw [if_neg c14] at H
         have c14b0 := decide_eq_false c14
         clear c14
         have H' := Aside0.mk H
         clear H
         have hz20 := cells_4 BK101.out
         go_wp2
         go_loopg [3, 6] k3 (fun kq v3 v6 w' => ∃ (x3_4 : ByteArray) (x6_4 : Int), v3 = .string x3_4 ∧ v6 = .int .i64 x6_4 ∧ Aside0 (spec_l5Put.l2 kq x3_4 x6_4 l0_0 l0_1 a0_2 l0_3 = some r) ∧ Aside0 (kq ≤ k3) ∧ Aside0 (w'.heap[gb101]? = some (.cells #[(.slice A0_0 l0_0.length c0_0), (.slice A0_1 l0_1.length c0_1), .bool a0_2, (.slice A0_3 l0_3.length c0_3)] 34 (0, 0))) ∧ Aside0 (Below w.heap.size w w'))
         case atStart => exact ⟨(x3_3), (0), (by first | rfl | (simp; done) | (simp [*]; done)), (by first | rfl | (simp; done) | (simp [*]; done)), H', ⟨Nat.le_refl _⟩, ⟨gx (BK101.out)⟩, ⟨bx HB.out⟩⟩
         case round =>
          clear H'
          try clear c1
          try clear p1
          try clear q1
          try clear hx1
          try clear p2
          try clear c5
          try clear c6
          try clear c6b0
          try clear p6
          try clear c7
          try clear c7b0
          try clear c9
          try clear c9b0
          try clear c9b1
          try clear c9b2
          try clear c10
          try clear c10b0
          try clear c10b1
          try clear c10b2
          try clear p10
          try clear q10
          try clear hx10
          try clear c14
          try clear c14b0
          try clear c15
          try clear c15b0
          try clear c15b1
          try clear c15b2
          try clear c16
          try clear c16b0
          try clear c17
          try clear c17b0
          try clear c17b1
          try clear c17b2
          try clear c18
          try clear c18b0
          try clear c18b1
          try clear c18b2
          try clear hz11
          try clear hz13
          try clear hz19
          try clear hz20
          try clear hz4
          try clear hx102_0
          try clear hx102_1
          try clear hx102_2
          try clear hx102_3
          try clear hx102_4
          try clear hx104_0
          try clear p1
          try clear p10
          try clear p102
          try clear p104
          try clear p2
          try clear p6
          try clear q1
          try clear q10
          try clear q102
          try clear q104
          obtain ⟨x3_4, x6_4, rfl, rfl, HA, HK4, BK101, HB⟩ := hrel
          cases gk with
          | zero => exact absurd HA.out (by simp [spec_l5Put.l2])
          | succ k4 =>
           have H := HA.out
           clear HA
           simp only [spec_l5Put.l2] at H
           by_cases c21 : x6_4 < (l0_1.length : Int)
           ·rw [if_pos c21] at H
            have c21b0 := decide_eq_true c21
            clear c21
            have c22 := ite_y H
            replace H := ite_t H
            have c22b0 := eq_true c22
            have c22b1 := decide_eq_true c22
            try have c22b2 : (9223372036854775807 < x3_4.size + 1) = False := eq_false (Nat.not_lt.2 c22)
            have c23 := ite_y H
            replace H := ite_t H
            have c23b0 := decide_eq_true c23
            clear c23
            replace H := Option.bind_eq_some_iff.mp H
            obtain ⟨t106, A240, H⟩ := H
            have A24 := Aside0.mk A240
            clear A240
            have c25 := ite_y H
            replace H := ite_t H
            have c25b0 := eq_true c25
            have c25b1 := decide_eq_true c25
            try have c25b2 : (9223372036854775807 < (x3_4 ++ (⟨#[43]⟩ : ByteArray)).size + t106.size) = False := eq_false (Nat.not_lt.2 c25)
            try (have c25b3 := c25b2; simp only [ByteArray.size_append, show (⟨#[43]⟩ : ByteArray).size = 1 from rfl] at c25b3)
            try (have c25h_ := c25; simp [go_sem, *] at c25h_; have c25b5 : (9223372036854775807 < x3_4.size + 1 + t106.size) = False := eq_false (by omega); clear c25h_)
            have c26 := ite_y H
            replace H := ite_t H
            have c26b0 := eq_true c26
            have c26b1 := decide_eq_true c26
            try have c26b2 : (9223372036854775807 < ((x3_4 ++ (⟨#[43]⟩ : ByteArray)) ++ t106).size + 1) = False := eq_false (Nat.not_lt.2 c26)
            try (have c26b3 := c26b2; simp only [ByteArray.size_append, show (⟨#[43]⟩ : ByteArray).size = 1 from rfl] at c26b3)
            try (have c26h_ := c26; simp [go_sem, *] at c26h_; have c26b5 : (9223372036854775807 < x3_4.size + 1 + t106.size + 1) = False := eq_false (by omega); clear c26h_)
            have H' := Aside0.mk H
            clear H
            have hz27 := cells_4 BK101.out
            have p105 := of_decide_eq_true c23b0
            have q105 := of_decide_eq_true c21b0
            obtain ⟨ad105, e105, hx105_0, hx105_1⟩ := at_T100 HR0_1.out x6_4 p105 q105
            cases e105
            replace hx105_0 := px HB.out hx105_0
            replace hx105_1 := px HB.out hx105_1
            replace p105 := eq_true p105
            replace q105 := eq_true q105
            go_wp2_with (first | ((with_reducible refine gate_callee (f := 98) rfl ?_); refine goL (some 55) rfl rfl gf98 #[.agg #[.string ((rd_T100 l0_1 x6_4).f0), .string ((rd_T100 l0_1 x6_4).f1)]] rfl rfl ?_; (with_reducible refine (spec_l2EntryPut.calls ((rd_T100 l0_1 x6_4).f0) ((rd_T100 l0_1 x6_4).f1) t106 _ A24.out).mono ?_); rintro e w28 ⟨rfl, hb⟩; refine ⟨_, rfl, ?_⟩; replace BK101 := kb BK101 hb; replace HB := kB HB hb; (try clear hb); (try clear hb2); (try clear hk); (try clear hi)))
            go_roundg k4
            case measure => have := HJ1.out; have := HK2.out; have := HK3.out; have := HK4.out; omega
            case rel => exact ⟨(((x3_4 ++ (⟨#[43]⟩ : ByteArray)) ++ t106) ++ (⟨#[10]⟩ : ByteArray)), (wrap64 (x6_4 + 1)), (by first | rfl | (simp; done) | (simp [*]; done)), (by first | rfl | (simp; done) | (simp [*]; done)), H', ⟨by have := HJ1.out; have := HK2.out; have := HK3.out; have := HK4.out; omega⟩, ⟨gx (BK101.out)⟩, ⟨bx HB.out⟩⟩
           ·rw [if_neg c21] at H
            have c21b0 := decide_eq_false c21
            clear c21
            obtain rfl := Option.some.inj H
            have hz29 := cells_4 BK101.out
            go_wp2
            go_ret
            exact ⟨by rfl, bx HB.out⟩
theorem gf26 : Go_ Tryz.prog 26 Tryz.f26 := ⟨Tryz.func26, by kernel_rfl, rfl⟩
def spec_l6Text.f (k : Nat) (a0_0 : Int) (l0_1 : List ByteArray) (l0_2 : List (S100)) (a0_3 : Bool) (l0_4 : List (S103)) (a0_5 : ByteArray) (a0_6 : ByteArray) : Option (ByteArray) := (spec_l1Dec.f k a0_0).bind fun t102 => (if 8 + t102.size ≤ 9223372036854775807 then (if ((⟨#[114, 101, 108, 101, 97, 115, 101, 32]⟩ : ByteArray) ++ t102).size + 1 ≤ 9223372036854775807 then (if (((⟨#[114, 101, 108, 101, 97, 115, 101, 32]⟩ : ByteArray) ++ t102) ++ (⟨#[32]⟩ : ByteArray)).size + a0_5.size ≤ 9223372036854775807 then (if ((((⟨#[114, 101, 108, 101, 97, 115, 101, 32]⟩ : ByteArray) ++ t102) ++ (⟨#[32]⟩ : ByteArray)) ++ a0_5).size + 1 ≤ 9223372036854775807 then ((spec_l5Put.f k l0_1 l0_2 a0_3 l0_4).bind fun t103 => (if (((((⟨#[114, 101, 108, 101, 97, 115, 101, 32]⟩ : ByteArray) ++ t102) ++ (⟨#[32]⟩ : ByteArray)) ++ a0_5) ++ (⟨#[10]⟩ : ByteArray)).size + t103.size ≤ 9223372036854775807 then (some ((((((⟨#[114, 101, 108, 101, 97, 115, 101, 32]⟩ : ByteArray) ++ t102) ++ (⟨#[32]⟩ : ByteArray)) ++ a0_5) ++ (⟨#[10]⟩ : ByteArray)) ++ t103)) else (none))) else (none)) else (none)) else (none)) else (none))
theorem spec_l6Text.mono : ∀ a0 a1 a2 a3 a4 a5 a6 k, LeO (spec_l6Text.f k a0 a1 a2 a3 a4 a5 a6) (spec_l6Text.f (k + 1) a0 a1 a2 a3 a4 a5 a6) := by
 intro a0 a1 a2 a3 a4 a5 a6 k
 unfold spec_l6Text.f
 have I0_ := fun a b => LeC.mk (spec_l1Dec.mono a b)
 have I1_ := fun a b c d e => LeC.mk (spec_l5Put.mono a b c d e)
 exact LeC.out
def spec_l6Text.T1 : Bool × List (List Nat × List Nat) := (true, [([], []), ([0], [0]), ([1], [1]), ([2], [2]), ([3], [3]), ([], []), ([5], [5]), ([4, 6], [4, 6]), ([7], [7]), ([], []), ([9], [9]), ([10, 2], [10]), ([8, 11], [8, 11]), ([12, 11, 0, 1, 2, 3, 4, 5, 6, 7, 8, 9, 10, 11, 12], [12])])
def spec_l6Text.B1 : List Nat := [0, 1, 3, 7, 15, 0, 32, 127, 255, 0, 512, 1543, 4095, 8191]
theorem spec_l6Text.tab1 : rtab .any (opsOf Tryz.f26 1) = spec_l6Text.T1 := by kernel_rfl
theorem spec_l6Text.bits1 : waitsOk spec_l6Text.T1.2 spec_l6Text.B1 = true := by kernel_rfl
theorem spec_l6Text.calls (k : Nat) (a0_0 : Int) (A0_1 : Option Addr) (c0_1 : Nat) (l0_1 : List ByteArray) (A0_2 : Option Addr) (c0_2 : Nat) (l0_2 : List (S100)) (a0_3 : Bool) (A0_4 : Option Addr) (c0_4 : Nat) (l0_4 : List (S103)) (a0_5 : ByteArray) (a0_6 : ByteArray) (r : ByteArray) (w : World) (hr0_1 : Kd.C Kd.string w A0_1 l0_1.length l0_1) (hc0_1 : l0_1.length ≤ c0_1) (hr0_2 : Kd.C k100 w A0_2 l0_2.length l0_2) (hc0_2 : l0_2.length ≤ c0_2) (hr0_4 : Kd.C k103 w A0_4 l0_4.length l0_4) (hc0_4 : l0_4.length ≤ c0_4) (h : spec_l6Text.f k a0_0 l0_1 l0_2 a0_3 l0_4 a0_5 a0_6 = some r) :
  Calls Tryz.prog 26 #[.agg #[.int .i64 a0_0, .slice A0_1 l0_1.length c0_1, .slice A0_2 l0_2.length c0_2, .bool a0_3, .slice A0_4 l0_4.length c0_4, .string a0_5, .string a0_6]] w fun e w' => e = .returned (.string r) ∧ Below w.heap.size w w' := by
 have hu36 := Tryz.underlying36
 have hu34 := Tryz.underlying34
 have HR0_1 := Aside0.mk hr0_1
 have HC0_1 := Aside0.mk hc0_1
 clear hr0_1 hc0_1
 have HR0_2 := Aside0.mk hr0_2
 have HC0_2 := Aside0.mk hc0_2
 clear hr0_2 hc0_2
 have HR0_4 := Aside0.mk hr0_4
 have HC0_4 := Aside0.mk hc0_4
 clear hr0_4 hc0_4
 have HB := Aside0.mk (Below.refl w.heap.size w)
 unfold spec_l6Text.f at h
 have H := h
 clear h
 replace H := Option.bind_eq_some_iff.mp H
 obtain ⟨t102, A20, H⟩ := H
 have A2 := Aside0.mk A20
 clear A20
 have c3 := ite_y H
 replace H := ite_t H
 have c3b0 := eq_true c3
 have c3b1 := decide_eq_true c3
 try have c3b2 : (9223372036854775807 < 8 + t102.size) = False := eq_false (Nat.not_lt.2 c3)
 have c4 := ite_y H
 replace H := ite_t H
 have c4b0 := eq_true c4
 have c4b1 := decide_eq_true c4
 try have c4b2 : (9223372036854775807 < ((⟨#[114, 101, 108, 101, 97, 115, 101, 32]⟩ : ByteArray) ++ t102).size + 1) = False := eq_false (Nat.not_lt.2 c4)
 try (have c4b3 := c4b2; simp only [ByteArray.size_append, show (⟨#[114, 101, 108, 101, 97, 115, 101, 32]⟩ : ByteArray).size = 8 from rfl] at c4b3)
 try (have c4h_ := c4; simp [go_sem, *] at c4h_; have c4b5 : (9223372036854775807 < 8 + t102.size + 1) = False := eq_false (by omega); clear c4h_)
 have c5 := ite_y H
 replace H := ite_t H
 have c5b0 := eq_true c5
 have c5b1 := decide_eq_true c5
 try have c5b2 : (9223372036854775807 < (((⟨#[114, 101, 108, 101, 97, 115, 101, 32]⟩ : ByteArray) ++ t102) ++ (⟨#[32]⟩ : ByteArray)).size + a0_5.size) = False := eq_false (Nat.not_lt.2 c5)
 try (have c5b3 := c5b2; simp only [ByteArray.size_append, show (⟨#[114, 101, 108, 101, 97, 115, 101, 32]⟩ : ByteArray).size = 8 from rfl, show (⟨#[32]⟩ : ByteArray).size = 1 from rfl] at c5b3)
 try (have c5h_ := c5; simp [go_sem, *] at c5h_; have c5b5 : (9223372036854775807 < 8 + t102.size + 1 + a0_5.size) = False := eq_false (by omega); clear c5h_)
 have c6 := ite_y H
 replace H := ite_t H
 have c6b0 := eq_true c6
 have c6b1 := decide_eq_true c6
 try have c6b2 : (9223372036854775807 < ((((⟨#[114, 101, 108, 101, 97, 115, 101, 32]⟩ : ByteArray) ++ t102) ++ (⟨#[32]⟩ : ByteArray)) ++ a0_5).size + 1) = False := eq_false (Nat.not_lt.2 c6)
 try (have c6b3 := c6b2; simp only [ByteArray.size_append, show (⟨#[114, 101, 108, 101, 97, 115, 101, 32]⟩ : ByteArray).size = 8 from rfl, show (⟨#[32]⟩ : ByteArray).size = 1 from rfl] at c6b3)
 try (have c6h_ := c6; simp [go_sem, *] at c6h_; have c6b5 : (9223372036854775807 < 8 + t102.size + 1 + a0_5.size + 1) = False := eq_false (by omega); clear c6h_)
 replace H := Option.bind_eq_some_iff.mp H
 obtain ⟨t103, A70, H⟩ := H
 have A7 := Aside0.mk A70
 clear A70
 have c8 := ite_y H
 replace H := ite_t H
 have c8b0 := eq_true c8
 have c8b1 := decide_eq_true c8
 try have c8b2 : (9223372036854775807 < (((((⟨#[114, 101, 108, 101, 97, 115, 101, 32]⟩ : ByteArray) ++ t102) ++ (⟨#[32]⟩ : ByteArray)) ++ a0_5) ++ (⟨#[10]⟩ : ByteArray)).size + t103.size) = False := eq_false (Nat.not_lt.2 c8)
 try (have c8b3 := c8b2; simp only [ByteArray.size_append, show (⟨#[10]⟩ : ByteArray).size = 1 from rfl, show (⟨#[114, 101, 108, 101, 97, 115, 101, 32]⟩ : ByteArray).size = 8 from rfl, show (⟨#[32]⟩ : ByteArray).size = 1 from rfl] at c8b3)
 try (have c8h_ := c8; simp [go_sem, *] at c8h_; have c8b5 : (9223372036854775807 < 8 + t102.size + 1 + a0_5.size + 1 + t103.size) = False := eq_false (by omega); clear c8h_)
 obtain rfl := Option.some.inj H
 go_enter Tryz.func26, Tryz.ntmps26
 try go_wp2_with (first | ((with_reducible refine gate_dst (N := 1) rfl ?_); refine box_event rfl (N := 1) rfl (cs := #[.int .i64 a0_0, .slice A0_1 l0_1.length c0_1, .slice A0_2 l0_2.length c0_2, .bool a0_3, .slice A0_4 l0_4.length c0_4, .string a0_5, .string a0_6]) (t := 36) (by go_simp <;> rfl) ?_; intro gb101 hg w9 hbox hb; have BK101 := Aside0.mk (hbox); have GW101 := Le_.mk (ge_of hg HB.out); have GE101 := Le_.mk (ge_of hg HB.out); replace HB := kB HB hb; clear hb hbox hg))
 replace BK101 := Aside0.mk (blk_drew BK101.out)
 replace HB := Aside0.mk (below_drew1 HB.out)
 refine start_ (n := 14) (S := fun w' => w'.cell? ⟨gb101, 0, none⟩ = some (.int .i64 a0_0) ∧ w'.cell? ⟨gb101, 1, none⟩ = some (.slice A0_1 l0_1.length c0_1) ∧ w'.cell? ⟨gb101, 2, none⟩ = some (.slice A0_2 l0_2.length c0_2) ∧ w'.cell? ⟨gb101, 3, none⟩ = some (.bool a0_3) ∧ w'.cell? ⟨gb101, 4, none⟩ = some (.slice A0_4 l0_4.length c0_4) ∧ w'.cell? ⟨gb101, 5, none⟩ = some (.string a0_5) ∧ w'.cell? ⟨gb101, 6, none⟩ = some (.string a0_6)) (ds := []) _ (by kernel_rfl) rfl rfl ⟨(blk_cell BK101.out 0).trans rfl, (blk_cell BK101.out 1).trans rfl, (blk_cell BK101.out 2).trans rfl, (blk_cell BK101.out 3).trans rfl, (blk_cell BK101.out 4).trans rfl, (blk_cell BK101.out 5).trans rfl, (blk_cell BK101.out 6).trans rfl⟩ (fun hHeld => ?_); refine with_tabW spec_l6Text.tab1 spec_l6Text.bits1 (fun HT_ HW_ => ?_)
 generalize w9.drew = w10 at BK101 HB hHeld ⊢
 refine ord_ [.p 0 3, .p 5 8, .p 9 12, .t 1 4, .t 6 9, .t 10 13] ?_
 repeat (first | (refine pu_ (v := ?_) (a' := ?_) HT_ rfl rfl (by kernel_rfl) (fun _ _ _ h => h) (by rfl) ?_ ?_ ?_; rotate_left 2; (intro w'; go_simp; with_reducible rfl); (simp only [Act.put, List.setIfInBounds_toArray, List.set_cons_zero, List.set_cons_succ, i64_w, i32_w]; rfl)) | (refine ta_ (v := ?_) (a' := ?_) HT_ HW_ rfl rfl (by kernel_rfl) (fun _ _ _ h => h) (by rfl) hHeld ?_ ?_ ?_; rotate_left 2; (rintro w' ⟨s0, s1, s2, s3, s4, s5, s6⟩; go_simp; with_reducible rfl); (simp only [Act.put, List.setIfInBounds_toArray, List.set_cons_zero, List.set_cons_succ, i64_w, i32_w]; rfl)))
 refine ord0 ?_
 refine on_ (i := 2) (N := some 5) HT_ rfl rfl (by kernel_rfl) (by decide) (fun K hK => ?_)
 refine goM gf66 #[.int .i64 a0_0] (by rfl) rfl rfl rfl ?_
 with_reducible refine (spec_l1Dec.calls k a0_0 t102 _ A2.out).mono ?_
 rintro e w11 ⟨rfl, hb⟩
 refine ⟨_, rfl, ?_⟩
 replace BK101 := kb BK101 hb
 replace HB := kB HB hb
 (try clear hb)
 (try clear hb2)
 (try clear hk)
 (try clear hi)
 refine hK.out _ _ ⟨(blk_cell BK101.out 0).trans rfl, (blk_cell BK101.out 1).trans rfl, (blk_cell BK101.out 2).trans rfl, (blk_cell BK101.out 3).trans rfl, (blk_cell BK101.out 4).trans rfl, (blk_cell BK101.out 5).trans rfl, (blk_cell BK101.out 6).trans rfl⟩ (fun hHeld => ?_)
 clear hK K
 refine norm_ (a' := ?_) ?_ ?_
 rotate_left
 ·show Act.put _ (some 5) _ = _
  simp only [Act.put, List.setIfInBounds_toArray, List.set_cons_zero, List.set_cons_succ, i64_w, i32_w]
  rfl
 refine ord_ [.p 3 6, .p 4 7, .p 7 10, .p 8 11] ?_
 repeat (refine pu_ (v := ?_) (a' := ?_) HT_ rfl rfl (by kernel_rfl) (fun _ _ _ h => h) (by rfl) ?_ ?_ ?_; rotate_left 2; (intro w'; go_simp; with_reducible rfl); (simp only [Act.put, List.setIfInBounds_toArray, List.set_cons_zero, List.set_cons_succ, i64_w, i32_w]; rfl))
 refine ord0 ?_
 refine on_ (i := 11) (N := some 14) HT_ rfl rfl (by kernel_rfl) (by decide) (fun K hK => ?_)
 refine goM gf67 #[.agg #[.slice A0_1 l0_1.length c0_1, .slice A0_2 l0_2.length c0_2, .bool a0_3, .slice A0_4 l0_4.length c0_4]] (by rfl) rfl rfl rfl ?_
 with_reducible refine (spec_l5Put.calls k _ _ l0_1 _ _ l0_2 a0_3 _ _ l0_4 t103 _ ?side1 ?side2 ?side3 ?side4 ?side5 ?side6 A7.out).mono ?_
 (case side1 => exact cx (Kd.C_below HR0_1.out HB.out))
 (case side2 => exact HC0_1.out)
 (case side3 => exact cx (Kd.C_below HR0_2.out HB.out))
 (case side4 => exact HC0_2.out)
 (case side5 => exact cx (Kd.C_below HR0_4.out HB.out))
 (case side6 => exact HC0_4.out)
 rintro e w12 ⟨rfl, hb⟩
 refine ⟨_, rfl, ?_⟩
 replace BK101 := kb BK101 hb
 replace HB := kB HB hb
 (try clear hb)
 (try clear hb2)
 (try clear hk)
 (try clear hi)
 refine hK.out _ _ ⟨(blk_cell BK101.out 0).trans rfl, (blk_cell BK101.out 1).trans rfl, (blk_cell BK101.out 2).trans rfl, (blk_cell BK101.out 3).trans rfl, (blk_cell BK101.out 4).trans rfl, (blk_cell BK101.out 5).trans rfl, (blk_cell BK101.out 6).trans rfl⟩ (fun hHeld => ?_)
 clear hK K
 refine norm_ (a' := ?_) ?_ ?_
 rotate_left
 ·show Act.put _ (some 14) _ = _
  simp only [Act.put, List.setIfInBounds_toArray, List.set_cons_zero, List.set_cons_succ, i64_w, i32_w]
  rfl
 refine ord_ [.p 12 15, .p 13 2] ?_
 repeat (refine pu_ (v := ?_) (a' := ?_) HT_ rfl rfl (by kernel_rfl) (fun _ _ _ h => h) (by rfl) ?_ ?_ ?_; rotate_left 2; (intro w'; go_simp; with_reducible rfl); (simp only [Act.put, List.setIfInBounds_toArray, List.set_cons_zero, List.set_cons_succ, i64_w, i32_w]; rfl))
 refine ord0 ?_
 refine done_ (done_of HT_.out (by kernel_rfl)) ?_
 try go_wp2
 go_ret
 exact ⟨by rfl, bx HB.out⟩
theorem gf25 : Go_ Tryz.prog 25 Tryz.f25 := ⟨Tryz.func25, by kernel_rfl, rfl⟩
mutual
def spec_l6Form.j0 : Nat → Bool → Int → List ByteArray → List (S100) → Bool → List (S103) → ByteArray → ByteArray → Option (Bool)
 | 0, _, _, _, _, _, _, _, _ => none
 | k + 1, x25, x102000, x102001, x102002, x102003, x102004, x102005, x102006 => if x25 = true then (some false) else (spec_l6Form.l0 k 0 x102000 x102001 x102002 x102003 x102004 x102005 x102006)
def spec_l6Form.l0 : Nat → Int → Int → List ByteArray → List (S100) → Bool → List (S103) → ByteArray → ByteArray → Option (Bool)
 | 0, _, _, _, _, _, _, _, _ => none
 | k + 1, x3, x102000, x102001, x102002, x102003, x102004, x102005, x102006 => if x3 < 64 then (if 0 ≤ x3 then (if x3 < (x102005.size : Int) then ((spec_l6Figure.f (bt x102005 x3)).bind fun t105 => (if t105 = true then (if x3 < (x102006.size : Int) then ((spec_l6Figure.f (bt x102006 x3)).bind fun t106 => (if t106 = true then (spec_l6Form.l0 k (wrap64 (x3 + 1)) x102000 x102001 x102002 x102003 x102004 x102005 x102006) else (some false))) else (none)) else (some false))) else (none)) else (none)) else ((spec_l6Text.f k x102000 x102001 x102002 x102003 x102004 x102005 x102006).bind fun t104 => (some (decide ((t104.size : Int) ≤ 1200))))
end
def spec_l6Form.f (k : Nat) (a0_0 : Int) (l0_1 : List ByteArray) (l0_2 : List (S100)) (a0_3 : Bool) (l0_4 : List (S103)) (a0_5 : ByteArray) (a0_6 : ByteArray) : Option (Bool) := (spec_l1In.f a0_0 1 999999).bind fun t102 => (if t102 = true then ((spec_DeltaOk.f k l0_1 l0_2 a0_3 l0_4).bind fun t103 => (if t103 = true then (if (a0_5.size : Int) = 64 then (spec_l6Form.j0 k ((a0_6.size : Int) != 64) a0_0 l0_1 l0_2 a0_3 l0_4 a0_5 a0_6) else (spec_l6Form.j0 k true a0_0 l0_1 l0_2 a0_3 l0_4 a0_5 a0_6)) else (spec_l6Form.j0 k true a0_0 l0_1 l0_2 a0_3 l0_4 a0_5 a0_6))) else (spec_l6Form.j0 k true a0_0 l0_1 l0_2 a0_3 l0_4 a0_5 a0_6))
theorem spec_l6Form.mono_l : ∀ k, (∀ y0 y1 y2 y3 y4 y5 y6 y7, LeO (spec_l6Form.j0 k y0 y1 y2 y3 y4 y5 y6 y7) (spec_l6Form.j0 (k + 1) y0 y1 y2 y3 y4 y5 y6 y7)) ∧ (∀ y0 y1 y2 y3 y4 y5 y6 y7, LeO (spec_l6Form.l0 k y0 y1 y2 y3 y4 y5 y6 y7) (spec_l6Form.l0 (k + 1) y0 y1 y2 y3 y4 y5 y6 y7))
 | 0 => ⟨fun _ _ _ _ _ _ _ _ r h => by simp [spec_l6Form.j0] at h, fun _ _ _ _ _ _ _ _ r h => by simp [spec_l6Form.l0] at h⟩
 | k + 1 => by
  obtain ⟨ih0, ih1⟩ := spec_l6Form.mono_l k
  refine ⟨?_, ?_⟩
  ·intro y0 y1 y2 y3 y4 y5 y6 y7
   unfold spec_l6Form.j0
   have I0_ := fun a b c d e f g h => LeC.mk (ih0 a b c d e f g h)
   have I1_ := fun a b c d e f g h => LeC.mk (ih1 a b c d e f g h)
   have I2_ := fun a b c d e => LeC.mk (spec_DeltaOk.mono a b c d e)
   have I3_ := fun a b c d e f g h => LeC.mk (spec_l6Text.mono a b c d e f g h)
   exact LeC.out
  ·intro y0 y1 y2 y3 y4 y5 y6 y7
   unfold spec_l6Form.l0
   have I0_ := fun a b c d e f g h => LeC.mk (ih0 a b c d e f g h)
   have I1_ := fun a b c d e f g h => LeC.mk (ih1 a b c d e f g h)
   have I2_ := fun a b c d e => LeC.mk (spec_DeltaOk.mono a b c d e)
   have I3_ := fun a b c d e f g h => LeC.mk (spec_l6Text.mono a b c d e f g h)
   exact LeC.out
theorem spec_l6Form.mono : ∀ a0 a1 a2 a3 a4 a5 a6 k, LeO (spec_l6Form.f k a0 a1 a2 a3 a4 a5 a6) (spec_l6Form.f (k + 1) a0 a1 a2 a3 a4 a5 a6) := by
 intro a0 a1 a2 a3 a4 a5 a6 k
 obtain ⟨ih0, ih1⟩ := spec_l6Form.mono_l k
 unfold spec_l6Form.f
 have I0_ := fun a b c d e f g h => LeC.mk (ih0 a b c d e f g h)
 have I1_ := fun a b c d e f g h => LeC.mk (ih1 a b c d e f g h)
 have I2_ := fun a b c d e => LeC.mk (spec_DeltaOk.mono a b c d e)
 have I3_ := fun a b c d e f g h => LeC.mk (spec_l6Text.mono a b c d e f g h)
 exact LeC.out
theorem spec_l6Form.calls (k : Nat) (a0_0 : Int) (A0_1 : Option Addr) (c0_1 : Nat) (l0_1 : List ByteArray) (A0_2 : Option Addr) (c0_2 : Nat) (l0_2 : List (S100)) (a0_3 : Bool) (A0_4 : Option Addr) (c0_4 : Nat) (l0_4 : List (S103)) (a0_5 : ByteArray) (a0_6 : ByteArray) (r : Bool) (w : World) (hr0_1 : Kd.C Kd.string w A0_1 l0_1.length l0_1) (hc0_1 : l0_1.length ≤ c0_1) (hr0_2 : Kd.C k100 w A0_2 l0_2.length l0_2) (hc0_2 : l0_2.length ≤ c0_2) (hr0_4 : Kd.C k103 w A0_4 l0_4.length l0_4) (hc0_4 : l0_4.length ≤ c0_4) (h : spec_l6Form.f k a0_0 l0_1 l0_2 a0_3 l0_4 a0_5 a0_6 = some r) :
  Calls Tryz.prog 25 #[.agg #[.int .i64 a0_0, .slice A0_1 l0_1.length c0_1, .slice A0_2 l0_2.length c0_2, .bool a0_3, .slice A0_4 l0_4.length c0_4, .string a0_5, .string a0_6]] w fun e w' => e = .returned (.bool r) ∧ Below w.heap.size w w' := by
 have hu36 := Tryz.underlying36
 have hu34 := Tryz.underlying34
 have HR0_1 := Aside0.mk hr0_1
 have HC0_1 := Aside0.mk hc0_1
 clear hr0_1 hc0_1
 have HR0_2 := Aside0.mk hr0_2
 have HC0_2 := Aside0.mk hc0_2
 clear hr0_2 hc0_2
 have HR0_4 := Aside0.mk hr0_4
 have HC0_4 := Aside0.mk hc0_4
 clear hr0_4 hc0_4
 have HB := Aside0.mk (Below.refl w.heap.size w)
 unfold spec_l6Form.f at h
 have H := h
 clear h
 have HC2 := Aside0.mk H
 clear H
 go_enter Tryz.func25, Tryz.ntmps25
 go_upto_region 1 with (first | ((with_reducible refine gate_dst (N := 1) rfl ?_); (try (refine gate_guard (by rfl) ?_; dsimp only)); refine box_event rfl (N := 1) rfl (cs := #[.int .i64 a0_0, .slice A0_1 l0_1.length c0_1, .slice A0_2 l0_2.length c0_2, .bool a0_3, .slice A0_4 l0_4.length c0_4, .string a0_5, .string a0_6]) (t := 36) (by go_simp <;> rfl) ?_; intro gb101 hg w3 hbox hb; have BK101 := Aside0.mk (hbox); have GW101 := Le_.mk (ge_of hg HB.out); have GE101 := Le_.mk (ge_of hg HB.out); replace HB := kB HB hb; clear hb hbox hg))
 (try simp only [Act.put, List.setIfInBounds_toArray, List.set_cons_zero, List.set_cons_succ])
 go_cut [25] (fun v25 wc => ∃ (kq : Nat) (x25_1 : Bool), v25 = .bool x25_1 ∧ Aside0 (spec_l6Form.j0 kq x25_1 a0_0 l0_1 l0_2 a0_3 l0_4 a0_5 a0_6 = some r) ∧ Aside0 (kq ≤ k) ∧ Aside0 (wc.heap[gb101]? = some (.cells #[.int .i64 a0_0, (.slice A0_1 l0_1.length c0_1), (.slice A0_2 l0_2.length c0_2), .bool a0_3, (.slice A0_4 l0_4.length c0_4), .string a0_5, .string a0_6] 36 (0, 0))) ∧ Aside0 (Below w.heap.size w wc))
 case first =>
  have H := HC2.out
  clear HC2
  replace H := Option.bind_eq_some_iff.mp H
  obtain ⟨t102, A40, H⟩ := H
  have A4 := Aside0.mk A40
  clear A40
  by_cases c5 : t102 = true
  ·subst c5
   rw [if_pos rfl] at H
   replace H := Option.bind_eq_some_iff.mp H
   obtain ⟨t103, A60, H⟩ := H
   have A6 := Aside0.mk A60
   clear A60
   by_cases c7 : t103 = true
   ·subst c7
    rw [if_pos rfl] at H
    by_cases c8 : (a0_5.size : Int) = 64
    ·rw [if_pos c8] at H
     have c8b0 : ((a0_5.size : Int) == 64) = true := beq_iff_eq.mpr c8
     have c8b1 : ((a0_5.size : Int) != 64) = false := bne_eq_false_iff_eq.mpr c8
     clear c8
     (first | rw [c8b0] | (simp only [i64_w, i32_w]; rw [c8b0]) | skip)
     have H' := Aside0.mk H
     clear H
     have hz9 := cells_7 BK101.out
     go_wp2_with (first | ((with_reducible refine gate_callee (f := 47) rfl ?_); refine goL (some 6) rfl rfl gf47 #[.int .i64 a0_0, .int .i64 1, .int .i64 999999] rfl rfl ?_; (with_reducible refine (spec_l1In.calls a0_0 1 999999 true _ A4.out).mono ?_); rintro e w' ⟨rfl, ⟨nd, rfl⟩⟩; refine ⟨_, rfl, ?_⟩) | (go_at_call 64; (with_reducible refine (spec_DeltaOk.calls k _ _ l0_1 _ _ l0_2 a0_3 _ _ l0_4 true _ ?side1 ?side2 ?side3 ?side4 ?side5 ?side6 A6.out).mono ?_); (case side1 => repeat (first | exact (Kd.C_below HR0_1.out (bx HB.out)) | (with_reducible refine Kd.C_alloc ?_ _) | (with_reducible refine Kd.C_drewN ?_ _) | (with_reducible refine Kd.C_drew ?_))); (case side2 => exact HC0_1.out); (case side3 => repeat (first | exact (Kd.C_below HR0_2.out (bx HB.out)) | (with_reducible refine Kd.C_alloc ?_ _) | (with_reducible refine Kd.C_drewN ?_ _) | (with_reducible refine Kd.C_drew ?_))); (case side4 => exact HC0_2.out); (case side5 => repeat (first | exact (Kd.C_below HR0_4.out (bx HB.out)) | (with_reducible refine Kd.C_alloc ?_ _) | (with_reducible refine Kd.C_drewN ?_ _) | (with_reducible refine Kd.C_drew ?_))); (case side6 => exact HC0_4.out); rintro e w10 ⟨rfl, hb⟩; replace BK101 := kb BK101 hb; replace HB := kB HB hb; (try clear hb); (try clear hb2); (try clear hk); (try clear hi); have hz11 := cells_7 BK101.out))
     go_meet
     case rel => exact ⟨_, (((a0_6.size : Int) != 64)), (by first | rfl | (simp; done) | (simp [*]; done)), H', ⟨by first | omega | exact Nat.le_refl _⟩, ⟨gx (BK101.out)⟩, ⟨bx HB.out⟩⟩
    ·rw [if_neg c8] at H
     have c8b0 : ((a0_5.size : Int) == 64) = false := beq_eq_false_iff_ne.mpr c8
     have c8b1 : ((a0_5.size : Int) != 64) = true := bne_iff_ne.mpr c8
     (first | rw [c8b0] | (simp only [i64_w, i32_w]; rw [c8b0]) | skip)
     have H' := Aside0.mk H
     clear H
     have hz12 := cells_7 BK101.out
     go_wp2_with (first | ((with_reducible refine gate_callee (f := 47) rfl ?_); refine goL (some 6) rfl rfl gf47 #[.int .i64 a0_0, .int .i64 1, .int .i64 999999] rfl rfl ?_; (with_reducible refine (spec_l1In.calls a0_0 1 999999 true _ A4.out).mono ?_); rintro e w' ⟨rfl, ⟨nd, rfl⟩⟩; refine ⟨_, rfl, ?_⟩) | (go_at_call 64; (with_reducible refine (spec_DeltaOk.calls k _ _ l0_1 _ _ l0_2 a0_3 _ _ l0_4 true _ ?side1 ?side2 ?side3 ?side4 ?side5 ?side6 A6.out).mono ?_); (case side1 => repeat (first | exact (Kd.C_below HR0_1.out (bx HB.out)) | (with_reducible refine Kd.C_alloc ?_ _) | (with_reducible refine Kd.C_drewN ?_ _) | (with_reducible refine Kd.C_drew ?_))); (case side2 => exact HC0_1.out); (case side3 => repeat (first | exact (Kd.C_below HR0_2.out (bx HB.out)) | (with_reducible refine Kd.C_alloc ?_ _) | (with_reducible refine Kd.C_drewN ?_ _) | (with_reducible refine Kd.C_drew ?_))); (case side4 => exact HC0_2.out); (case side5 => repeat (first | exact (Kd.C_below HR0_4.out (bx HB.out)) | (with_reducible refine Kd.C_alloc ?_ _) | (with_reducible refine Kd.C_drewN ?_ _) | (with_reducible refine Kd.C_drew ?_))); (case side6 => exact HC0_4.out); rintro e w13 ⟨rfl, hb⟩; replace BK101 := kb BK101 hb; replace HB := kB HB hb; (try clear hb); (try clear hb2); (try clear hk); (try clear hi); have hz14 := cells_7 BK101.out))
     go_meet
     case rel => exact ⟨_, (true), (by first | rfl | (simp; done) | (simp [*]; done)), H', ⟨by first | omega | exact Nat.le_refl _⟩, ⟨gx (BK101.out)⟩, ⟨bx HB.out⟩⟩
   ·replace c7 := Bool.eq_false_iff.mpr c7
    subst c7
    rw [if_neg Bool.false_ne_true] at H
    have H' := Aside0.mk H
    clear H
    have hz15 := cells_7 BK101.out
    go_wp2_with (first | ((with_reducible refine gate_callee (f := 47) rfl ?_); refine goL (some 6) rfl rfl gf47 #[.int .i64 a0_0, .int .i64 1, .int .i64 999999] rfl rfl ?_; (with_reducible refine (spec_l1In.calls a0_0 1 999999 true _ A4.out).mono ?_); rintro e w' ⟨rfl, ⟨nd, rfl⟩⟩; refine ⟨_, rfl, ?_⟩) | (go_at_call 64; (with_reducible refine (spec_DeltaOk.calls k _ _ l0_1 _ _ l0_2 a0_3 _ _ l0_4 false _ ?side1 ?side2 ?side3 ?side4 ?side5 ?side6 A6.out).mono ?_); (case side1 => repeat (first | exact (Kd.C_below HR0_1.out (bx HB.out)) | (with_reducible refine Kd.C_alloc ?_ _) | (with_reducible refine Kd.C_drewN ?_ _) | (with_reducible refine Kd.C_drew ?_))); (case side2 => exact HC0_1.out); (case side3 => repeat (first | exact (Kd.C_below HR0_2.out (bx HB.out)) | (with_reducible refine Kd.C_alloc ?_ _) | (with_reducible refine Kd.C_drewN ?_ _) | (with_reducible refine Kd.C_drew ?_))); (case side4 => exact HC0_2.out); (case side5 => repeat (first | exact (Kd.C_below HR0_4.out (bx HB.out)) | (with_reducible refine Kd.C_alloc ?_ _) | (with_reducible refine Kd.C_drewN ?_ _) | (with_reducible refine Kd.C_drew ?_))); (case side6 => exact HC0_4.out); rintro e w16 ⟨rfl, hb⟩; replace BK101 := kb BK101 hb; replace HB := kB HB hb; (try clear hb); (try clear hb2); (try clear hk); (try clear hi)))
    go_meet
    case rel => exact ⟨_, (true), (by first | rfl | (simp; done) | (simp [*]; done)), H', ⟨by first | omega | exact Nat.le_refl _⟩, ⟨gx (BK101.out)⟩, ⟨bx HB.out⟩⟩
  ·replace c5 := Bool.eq_false_iff.mpr c5
   subst c5
   rw [if_neg Bool.false_ne_true] at H
   have H' := Aside0.mk H
   clear H
   have hz17 := cells_7 BK101.out
   go_wp2_with (first | ((with_reducible refine gate_callee (f := 47) rfl ?_); refine goL (some 6) rfl rfl gf47 #[.int .i64 a0_0, .int .i64 1, .int .i64 999999] rfl rfl ?_; (with_reducible refine (spec_l1In.calls a0_0 1 999999 false _ A4.out).mono ?_); rintro e w' ⟨rfl, ⟨nd, rfl⟩⟩; refine ⟨_, rfl, ?_⟩))
   go_meet
   case rel => exact ⟨_, (true), (by first | rfl | (simp; done) | (simp [*]; done)), H', ⟨by first | omega | exact Nat.le_refl _⟩, ⟨gx (BK101.out)⟩, ⟨bx HB.out⟩⟩
 case rest =>
  clear HC2
  try clear c2
  try clear p2
  try clear c4
  try clear c5
  try clear c7
  try clear c8
  try clear c8b0
  try clear c8b1
  try clear hz11
  try clear hz12
  try clear hz14
  try clear hz15
  try clear hz17
  try clear hz9
  obtain ⟨kq, x25_1, rfl, HA, HJ1, BK101, HB⟩ := hcut
  cases kq with
  | zero => exact absurd HA.out (by simp [spec_l6Form.j0])
  | succ kj1 =>
   have H := HA.out
   clear HA
   simp only [spec_l6Form.j0] at H
   by_cases c18 : x25_1 = true
   ·subst c18
    rw [if_pos rfl] at H
    obtain rfl := Option.some.inj H
    go_wp2
    go_ret
    exact ⟨by rfl, bx HB.out⟩
   ·replace c18 := Bool.eq_false_iff.mpr c18
    subst c18
    rw [if_neg Bool.false_ne_true] at H
    have H' := Aside0.mk H
    clear H
    go_wp2
    go_loopg [3] kj1 (fun kq v3 w' => ∃ (x3_2 : Int), v3 = .int .i64 x3_2 ∧ Aside0 (spec_l6Form.l0 kq x3_2 a0_0 l0_1 l0_2 a0_3 l0_4 a0_5 a0_6 = some r) ∧ Aside0 (kq ≤ kj1) ∧ Aside0 (w'.heap[gb101]? = some (.cells #[.int .i64 a0_0, (.slice A0_1 l0_1.length c0_1), (.slice A0_2 l0_2.length c0_2), .bool a0_3, (.slice A0_4 l0_4.length c0_4), .string a0_5, .string a0_6] 36 (0, 0))) ∧ Aside0 (Below w.heap.size w w'))
    case atStart => exact ⟨(0), (by first | rfl | (simp; done) | (simp [*]; done)), H', ⟨Nat.le_refl _⟩, ⟨gx (BK101.out)⟩, ⟨bx HB.out⟩⟩
    case round =>
     clear H'
     try clear c1
     try clear c2
     try clear p2
     try clear c4
     try clear c5
     try clear c7
     try clear c8
     try clear c8b0
     try clear c8b1
     try clear c18
     try clear hz11
     try clear hz12
     try clear hz14
     try clear hz15
     try clear hz17
     try clear hz9
     try clear p2
     obtain ⟨x3_2, rfl, HA, HK2, BK101, HB⟩ := hrel
     cases gk with
     | zero => exact absurd HA.out (by simp [spec_l6Form.l0])
     | succ k2 =>
      have H := HA.out
      clear HA
      simp only [spec_l6Form.l0] at H
      by_cases c19 : x3_2 < 64
      ·rw [if_pos c19] at H
       have c19b0 := decide_eq_true c19
       clear c19
       have c20 := ite_y H
       replace H := ite_t H
       have c20b0 := decide_eq_true c20
       clear c20
       have c21 := ite_y H
       replace H := ite_t H
       have c21b0 := decide_eq_true c21
       clear c21
       replace H := Option.bind_eq_some_iff.mp H
       obtain ⟨t105, A230, H⟩ := H
       have A23 := Aside0.mk A230
       clear A230
       by_cases c24 : t105 = true
       ·subst c24
        rw [if_pos rfl] at H
        have c25 := ite_y H
        replace H := ite_t H
        have c25b0 := decide_eq_true c25
        clear c25
        replace H := Option.bind_eq_some_iff.mp H
        obtain ⟨t106, A270, H⟩ := H
        have A27 := Aside0.mk A270
        clear A270
        by_cases c28 : t106 = true
        ·subst c28
         rw [if_pos rfl] at H
         have H' := Aside0.mk H
         clear H
         have hz29 := cells_7 BK101.out
         have p22 := of_decide_eq_true c20b0
         have q22 := of_decide_eq_true c21b0
         have hx22 := bt_at a0_5 x3_2
         replace p22 := eq_true p22
         replace q22 := eq_true q22
         go_wp2_with (first | ((with_reducible refine gate_callee (f := 65) rfl ?_); refine goL (some 34) rfl rfl gf65 #[.int .u8 (bt a0_5 x3_2)] rfl rfl ?_; (with_reducible refine (spec_l6Figure.calls (bt a0_5 x3_2) true _ A23.out).mono ?_); rintro e w' ⟨rfl, ⟨nd, rfl⟩⟩; refine ⟨_, rfl, ?_⟩; have p26 := of_decide_eq_true c20b0; have q26 := of_decide_eq_true c25b0; have hx26 := bt_at a0_6 x3_2; replace p26 := eq_true p26; replace q26 := eq_true q26) | (go_at_call 65; (with_reducible refine (spec_l6Figure.calls (bt a0_6 x3_2) true _ A27.out).mono ?_); rintro e w' ⟨rfl, ⟨nd, rfl⟩⟩))
         go_roundg k2
         case measure => have := HJ1.out; have := HK2.out; omega
         case rel => exact ⟨(wrap64 (x3_2 + 1)), (by first | rfl | (simp; done) | (simp [*]; done)), H', ⟨by have := HJ1.out; have := HK2.out; omega⟩, ⟨gx (BK101.out)⟩, ⟨bx HB.out⟩⟩
        ·replace c28 := Bool.eq_false_iff.mpr c28
         subst c28
         rw [if_neg Bool.false_ne_true] at H
         obtain rfl := Option.some.inj H
         have hz30 := cells_7 BK101.out
         have p22 := of_decide_eq_true c20b0
         have q22 := of_decide_eq_true c21b0
         have hx22 := bt_at a0_5 x3_2
         replace p22 := eq_true p22
         replace q22 := eq_true q22
         go_wp2_with (first | ((with_reducible refine gate_callee (f := 65) rfl ?_); refine goL (some 34) rfl rfl gf65 #[.int .u8 (bt a0_5 x3_2)] rfl rfl ?_; (with_reducible refine (spec_l6Figure.calls (bt a0_5 x3_2) true _ A23.out).mono ?_); rintro e w' ⟨rfl, ⟨nd, rfl⟩⟩; refine ⟨_, rfl, ?_⟩; have p26 := of_decide_eq_true c20b0; have q26 := of_decide_eq_true c25b0; have hx26 := bt_at a0_6 x3_2; replace p26 := eq_true p26; replace q26 := eq_true q26) | (go_at_call 65; (with_reducible refine (spec_l6Figure.calls (bt a0_6 x3_2) false _ A27.out).mono ?_); rintro e w' ⟨rfl, ⟨nd, rfl⟩⟩))
         go_ret
         exact ⟨by rfl, bx HB.out⟩
       ·replace c24 := Bool.eq_false_iff.mpr c24
        subst c24
        rw [if_neg Bool.false_ne_true] at H
        obtain rfl := Option.some.inj H
        have hz31 := cells_7 BK101.out
        have p22 := of_decide_eq_true c20b0
        have q22 := of_decide_eq_true c21b0
        have hx22 := bt_at a0_5 x3_2
        replace p22 := eq_true p22
        replace q22 := eq_true q22
        go_wp2_with (first | ((with_reducible refine gate_callee (f := 65) rfl ?_); refine goL (some 34) rfl rfl gf65 #[.int .u8 (bt a0_5 x3_2)] rfl rfl ?_; (with_reducible refine (spec_l6Figure.calls (bt a0_5 x3_2) false _ A23.out).mono ?_); rintro e w' ⟨rfl, ⟨nd, rfl⟩⟩; refine ⟨_, rfl, ?_⟩))
        go_ret
        exact ⟨by rfl, bx HB.out⟩
      ·rw [if_neg c19] at H
       have c19b0 := decide_eq_false c19
       clear c19
       replace H := Option.bind_eq_some_iff.mp H
       obtain ⟨t104, A320, H⟩ := H
       have A32 := Aside0.mk A320
       clear A320
       obtain rfl := Option.some.inj H
       have hz33 := cells_7 BK101.out
       go_wp2_with (first | ((with_reducible refine gate_callee (f := 26) rfl ?_); refine goL (some 45) rfl rfl gf26 #[.agg #[.int .i64 a0_0, .slice A0_1 l0_1.length c0_1, .slice A0_2 l0_2.length c0_2, .bool a0_3, .slice A0_4 l0_4.length c0_4, .string a0_5, .string a0_6]] rfl rfl ?_; (with_reducible refine (spec_l6Text.calls k2 a0_0 _ _ l0_1 _ _ l0_2 a0_3 _ _ l0_4 a0_5 a0_6 t104 _ (cx (Kd.C_below HR0_1.out HB.out)) HC0_1.out (cx (Kd.C_below HR0_2.out HB.out)) HC0_2.out (cx (Kd.C_below HR0_4.out HB.out)) HC0_4.out A32.out).mono ?_); rintro e w34 ⟨rfl, hb⟩; refine ⟨_, rfl, ?_⟩; replace BK101 := kb BK101 hb; replace HB := kB HB hb; (try clear hb); (try clear hb2); (try clear hk); (try clear hi)))
       go_ret
       exact ⟨by rfl, bx HB.out⟩
theorem gf12 : Go_ Tryz.prog 12 Tryz.f12 := ⟨Tryz.func12, by kernel_rfl, rfl⟩
def spec_ReleaseOk.f (k : Nat) (a0 : ByteArray) (a1_0 : Int) (l1_1 : List ByteArray) (l1_2 : List (S100)) (a1_3 : Bool) (l1_4 : List (S103)) (a1_5 : ByteArray) (a1_6 : ByteArray) : Option (Bool) := (spec_l6Key.f a0).bind fun t102 => (if t102 = true then ((spec_l6Form.f k a1_0 l1_1 l1_2 a1_3 l1_4 a1_5 a1_6).bind fun t103 => (if t103 = true then ((spec_l6Text.f k a1_0 l1_1 l1_2 a1_3 l1_4 a1_5 a1_6).bind fun t104 => ((spec_SealOf.f k a0 t104).bind fun t105 => (some (t105.toList == a1_6.toList)))) else (some false))) else (some false))
theorem spec_ReleaseOk.mono : ∀ a0 a1 a2 a3 a4 a5 a6 a7 k, LeO (spec_ReleaseOk.f k a0 a1 a2 a3 a4 a5 a6 a7) (spec_ReleaseOk.f (k + 1) a0 a1 a2 a3 a4 a5 a6 a7) := by
 intro a0 a1 a2 a3 a4 a5 a6 a7 k
 unfold spec_ReleaseOk.f
 have I0_ := fun a b c => LeC.mk (spec_SealOf.mono a b c)
 have I1_ := fun a b c d e f g h => LeC.mk (spec_l6Form.mono a b c d e f g h)
 have I2_ := fun a b c d e f g h => LeC.mk (spec_l6Text.mono a b c d e f g h)
 exact LeC.out
def spec_ReleaseOk.T1 : Bool × List (List Nat × List Nat) := (true, [([], []), ([0], [0]), ([1, 1], [1]), ([2], [2]), ([3, 2, 2], [2, 3]), ([2, 4], [2, 4]), ([5, 4], [5]), ([6], [6]), ([6], [6]), ([8, 6, 6], [6, 8]), ([7, 9, 9, 6], [6, 7, 9]), ([6], [6]), ([11, 6], [6, 11]), ([10, 12, 6], [6, 10, 12]), ([6, 13], [6, 13]), ([14, 10, 0, 1, 2, 3, 4, 5, 6, 7, 8, 9, 10, 11, 12, 13, 14], [14])])
def spec_ReleaseOk.B1 : List Nat := [0, 1, 3, 7, 15, 31, 63, 127, 127, 383, 1023, 127, 2175, 8191, 16383, 32767]
theorem spec_ReleaseOk.tab1 : rtab .any (opsOf Tryz.f12 1) = spec_ReleaseOk.T1 := by kernel_rfl
theorem spec_ReleaseOk.bits1 : waitsOk spec_ReleaseOk.T1.2 spec_ReleaseOk.B1 = true := by kernel_rfl
theorem spec_ReleaseOk.calls (k : Nat) (a0 : ByteArray) (a1_0 : Int) (A1_1 : Option Addr) (c1_1 : Nat) (l1_1 : List ByteArray) (A1_2 : Option Addr) (c1_2 : Nat) (l1_2 : List (S100)) (a1_3 : Bool) (A1_4 : Option Addr) (c1_4 : Nat) (l1_4 : List (S103)) (a1_5 : ByteArray) (a1_6 : ByteArray) (r : Bool) (w : World) (hr1_1 : Kd.C Kd.string w A1_1 l1_1.length l1_1) (hc1_1 : l1_1.length ≤ c1_1) (hr1_2 : Kd.C k100 w A1_2 l1_2.length l1_2) (hc1_2 : l1_2.length ≤ c1_2) (hr1_4 : Kd.C k103 w A1_4 l1_4.length l1_4) (hc1_4 : l1_4.length ≤ c1_4) (h : spec_ReleaseOk.f k a0 a1_0 l1_1 l1_2 a1_3 l1_4 a1_5 a1_6 = some r) :
  Calls Tryz.prog 12 #[.string a0, .agg #[.int .i64 a1_0, .slice A1_1 l1_1.length c1_1, .slice A1_2 l1_2.length c1_2, .bool a1_3, .slice A1_4 l1_4.length c1_4, .string a1_5, .string a1_6]] w fun e w' => e = .returned (.bool r) ∧ Below w.heap.size w w' := by
 have hu36 := Tryz.underlying36
 have HR1_1 := Aside0.mk hr1_1
 have HC1_1 := Aside0.mk hc1_1
 clear hr1_1 hc1_1
 have HR1_2 := Aside0.mk hr1_2
 have HC1_2 := Aside0.mk hc1_2
 clear hr1_2 hc1_2
 have HR1_4 := Aside0.mk hr1_4
 have HC1_4 := Aside0.mk hc1_4
 clear hr1_4 hc1_4
 have HB := Aside0.mk (Below.refl w.heap.size w)
 unfold spec_ReleaseOk.f at h
 have H := h
 clear h
 replace H := Option.bind_eq_some_iff.mp H
 obtain ⟨t102, A30, H⟩ := H
 have A3 := Aside0.mk A30
 clear A30
 by_cases c4 : t102 = true
 ·subst c4
  rw [if_pos rfl] at H
  replace H := Option.bind_eq_some_iff.mp H
  obtain ⟨t103, A50, H⟩ := H
  have A5 := Aside0.mk A50
  clear A50
  by_cases c6 : t103 = true
  ·subst c6
   rw [if_pos rfl] at H
   replace H := Option.bind_eq_some_iff.mp H
   obtain ⟨t104, A70, H⟩ := H
   have A7 := Aside0.mk A70
   clear A70
   replace H := Option.bind_eq_some_iff.mp H
   obtain ⟨t105, A80, H⟩ := H
   have A8 := Aside0.mk A80
   clear A80
   obtain rfl := Option.some.inj H
   go_enter Tryz.func12, Tryz.ntmps12
   try go_wp2_with (first | ((with_reducible refine gate_dst (N := 3) rfl ?_); refine box_event rfl (N := 3) rfl (cs := #[.int .i64 a1_0, .slice A1_1 l1_1.length c1_1, .slice A1_2 l1_2.length c1_2, .bool a1_3, .slice A1_4 l1_4.length c1_4, .string a1_5, .string a1_6]) (t := 36) (by go_simp <;> rfl) ?_; intro gb101 hg w9 hbox hb; have BK101 := Aside0.mk (hbox); have GW101 := Le_.mk (ge_of hg HB.out); have GE101 := Le_.mk (ge_of hg HB.out); replace HB := kB HB hb; clear hb hbox hg))
   replace BK101 := Aside0.mk (blk_drew BK101.out)
   replace HB := Aside0.mk (below_drew1 HB.out)
   refine start_ (n := 16) (S := fun w' => w'.cell? ⟨gb101, 0, none⟩ = some (.int .i64 a1_0) ∧ w'.cell? ⟨gb101, 1, none⟩ = some (.slice A1_1 l1_1.length c1_1) ∧ w'.cell? ⟨gb101, 2, none⟩ = some (.slice A1_2 l1_2.length c1_2) ∧ w'.cell? ⟨gb101, 3, none⟩ = some (.bool a1_3) ∧ w'.cell? ⟨gb101, 4, none⟩ = some (.slice A1_4 l1_4.length c1_4) ∧ w'.cell? ⟨gb101, 5, none⟩ = some (.string a1_5) ∧ w'.cell? ⟨gb101, 6, none⟩ = some (.string a1_6)) (ds := []) _ (by kernel_rfl) rfl rfl ⟨(blk_cell BK101.out 0).trans rfl, (blk_cell BK101.out 1).trans rfl, (blk_cell BK101.out 2).trans rfl, (blk_cell BK101.out 3).trans rfl, (blk_cell BK101.out 4).trans rfl, (blk_cell BK101.out 5).trans rfl, (blk_cell BK101.out 6).trans rfl⟩ (fun hHeld => ?_); refine with_tabW spec_ReleaseOk.tab1 spec_ReleaseOk.bits1 (fun HT_ HW_ => ?_)
   generalize w9.drew = w10 at BK101 HB hHeld ⊢
   refine ord_ [.p 0 5] ?_
   repeat (refine pu_ (v := ?_) (a' := ?_) HT_ rfl rfl (by kernel_rfl) (fun _ _ _ h => h) (by rfl) ?_ ?_ ?_; rotate_left 2; (intro w'; go_simp; with_reducible rfl); (simp only [Act.put, List.setIfInBounds_toArray, List.set_cons_zero, List.set_cons_succ, i64_w, i32_w]; rfl))
   refine ord0 ?_
   refine on_ (i := 1) (N := some 6) HT_ rfl rfl (by kernel_rfl) (by decide) (fun K hK => ?_)
   refine goM gf31 #[.string a0] (by rfl) rfl rfl rfl ?_
   with_reducible refine (spec_l6Key.calls a0 true _ A3.out).mono ?_
   rintro e w' ⟨rfl, ⟨nd, rfl⟩⟩
   refine ⟨_, rfl, ?_⟩
   refine hK.out _ _ ⟨(blk_cell BK101.out 0).trans rfl, (blk_cell BK101.out 1).trans rfl, (blk_cell BK101.out 2).trans rfl, (blk_cell BK101.out 3).trans rfl, (blk_cell BK101.out 4).trans rfl, (blk_cell BK101.out 5).trans rfl, (blk_cell BK101.out 6).trans rfl⟩ (fun hHeld => ?_)
   clear hK K
   refine norm_ (a' := ?_) ?_ ?_
   rotate_left
   ·show Act.put _ (some 6) _ = _
    simp only [Act.put, List.setIfInBounds_toArray, List.set_cons_zero, List.set_cons_succ, i64_w, i32_w]
    rfl
   refine ord_ [.p 2 7, .t 3 8] ?_
   repeat (first | (refine pu_ (v := ?_) (a' := ?_) HT_ rfl rfl (by kernel_rfl) (fun _ _ _ h => h) (by rfl) ?_ ?_ ?_; rotate_left 2; (intro w'; go_simp; with_reducible rfl); (simp only [Act.put, List.setIfInBounds_toArray, List.set_cons_zero, List.set_cons_succ, i64_w, i32_w]; rfl)) | (refine ta_ (v := ?_) (a' := ?_) HT_ HW_ rfl rfl (by kernel_rfl) (fun _ _ _ h => h) (by rfl) hHeld ?_ ?_ ?_; rotate_left 2; (rintro w' ⟨s0, s1, s2, s3, s4, s5, s6⟩; go_simp; with_reducible rfl); (simp only [Act.put, List.setIfInBounds_toArray, List.set_cons_zero, List.set_cons_succ, i64_w, i32_w]; rfl)))
   refine ord0 ?_
   refine on_ (i := 4) (N := some 9) HT_ rfl rfl (by kernel_rfl) (by decide) (fun K hK => ?_)
   refine goM gf25 #[.agg #[.int .i64 a1_0, .slice A1_1 l1_1.length c1_1, .slice A1_2 l1_2.length c1_2, .bool a1_3, .slice A1_4 l1_4.length c1_4, .string a1_5, .string a1_6]] (by rfl) rfl rfl rfl ?_
   with_reducible refine (spec_l6Form.calls k a1_0 _ _ l1_1 _ _ l1_2 a1_3 _ _ l1_4 a1_5 a1_6 true _ ?side1 ?side2 ?side3 ?side4 ?side5 ?side6 A5.out).mono ?_
   (case side1 => repeat (first | exact (Kd.C_below HR1_1.out (bx HB.out)) | (with_reducible refine Kd.C_alloc ?_ _) | (with_reducible refine Kd.C_drewN ?_ _) | (with_reducible refine Kd.C_drew ?_)))
   (case side2 => exact HC1_1.out)
   (case side3 => repeat (first | exact (Kd.C_below HR1_2.out (bx HB.out)) | (with_reducible refine Kd.C_alloc ?_ _) | (with_reducible refine Kd.C_drewN ?_ _) | (with_reducible refine Kd.C_drew ?_)))
   (case side4 => exact HC1_2.out)
   (case side5 => repeat (first | exact (Kd.C_below HR1_4.out (bx HB.out)) | (with_reducible refine Kd.C_alloc ?_ _) | (with_reducible refine Kd.C_drewN ?_ _) | (with_reducible refine Kd.C_drew ?_)))
   (case side6 => exact HC1_4.out)
   rintro e w11 ⟨rfl, hb⟩
   refine ⟨_, rfl, ?_⟩
   replace BK101 := kb BK101 hb
   replace HB := kB HB hb
   (try clear hb)
   (try clear hb2)
   (try clear hk)
   (try clear hi)
   refine hK.out _ _ ⟨(blk_cell BK101.out 0).trans rfl, (blk_cell BK101.out 1).trans rfl, (blk_cell BK101.out 2).trans rfl, (blk_cell BK101.out 3).trans rfl, (blk_cell BK101.out 4).trans rfl, (blk_cell BK101.out 5).trans rfl, (blk_cell BK101.out 6).trans rfl⟩ (fun hHeld => ?_)
   clear hK K
   refine norm_ (a' := ?_) ?_ ?_
   rotate_left
   ·show Act.put _ (some 9) _ = _
    simp only [Act.put, List.setIfInBounds_toArray, List.set_cons_zero, List.set_cons_succ, i64_w, i32_w]
    rfl
   refine ord_ [.p 5 10, .p 6 11, .p 7 12, .p 11 16, .t 8 13, .t 12 17] ?_
   repeat (first | (refine pu_ (v := ?_) (a' := ?_) HT_ rfl rfl (by kernel_rfl) (fun _ _ _ h => h) (by rfl) ?_ ?_ ?_; rotate_left 2; (intro w'; go_simp; with_reducible rfl); (simp only [Act.put, List.setIfInBounds_toArray, List.set_cons_zero, List.set_cons_succ, i64_w, i32_w]; rfl)) | (refine ta_ (v := ?_) (a' := ?_) HT_ HW_ rfl rfl (by kernel_rfl) (fun _ _ _ h => h) (by rfl) hHeld ?_ ?_ ?_; rotate_left 2; (rintro w' ⟨s0, s1, s2, s3, s4, s5, s6⟩; go_simp; with_reducible rfl); (simp only [Act.put, List.setIfInBounds_toArray, List.set_cons_zero, List.set_cons_succ, i64_w, i32_w]; rfl)))
   refine ord0 ?_
   refine on_ (i := 9) (N := some 14) HT_ rfl rfl (by kernel_rfl) (by decide) (fun K hK => ?_)
   refine goM gf26 #[.agg #[.int .i64 a1_0, .slice A1_1 l1_1.length c1_1, .slice A1_2 l1_2.length c1_2, .bool a1_3, .slice A1_4 l1_4.length c1_4, .string a1_5, .string a1_6]] (by rfl) rfl rfl rfl ?_
   with_reducible refine (spec_l6Text.calls k a1_0 _ _ l1_1 _ _ l1_2 a1_3 _ _ l1_4 a1_5 a1_6 t104 _ ?side1 ?side2 ?side3 ?side4 ?side5 ?side6 A7.out).mono ?_
   (case side1 => exact cx (Kd.C_below HR1_1.out HB.out))
   (case side2 => exact HC1_1.out)
   (case side3 => exact cx (Kd.C_below HR1_2.out HB.out))
   (case side4 => exact HC1_2.out)
   (case side5 => exact cx (Kd.C_below HR1_4.out HB.out))
   (case side6 => exact HC1_4.out)
   rintro e w12 ⟨rfl, hb⟩
   refine ⟨_, rfl, ?_⟩
   replace BK101 := kb BK101 hb
   replace HB := kB HB hb
   (try clear hb)
   (try clear hb2)
   (try clear hk)
   (try clear hi)
   refine hK.out _ _ ⟨(blk_cell BK101.out 0).trans rfl, (blk_cell BK101.out 1).trans rfl, (blk_cell BK101.out 2).trans rfl, (blk_cell BK101.out 3).trans rfl, (blk_cell BK101.out 4).trans rfl, (blk_cell BK101.out 5).trans rfl, (blk_cell BK101.out 6).trans rfl⟩ (fun hHeld => ?_)
   clear hK K
   refine norm_ (a' := ?_) ?_ ?_
   rotate_left
   ·show Act.put _ (some 14) _ = _
    simp only [Act.put, List.setIfInBounds_toArray, List.set_cons_zero, List.set_cons_succ, i64_w, i32_w]
    rfl
   refine on_ (i := 10) (N := some 15) HT_ rfl rfl (by kernel_rfl) (by decide) (fun K hK => ?_)
   refine goM gf32 #[.string a0, .string t104] (by rfl) rfl rfl rfl ?_
   with_reducible refine (spec_SealOf.calls k a0 t104 t105 _ A8.out).mono ?_
   rintro e w13 ⟨rfl, hb⟩
   refine ⟨_, rfl, ?_⟩
   replace BK101 := kb BK101 hb
   replace HB := kB HB hb
   (try clear hb)
   (try clear hb2)
   (try clear hk)
   (try clear hi)
   refine hK.out _ _ ⟨(blk_cell BK101.out 0).trans rfl, (blk_cell BK101.out 1).trans rfl, (blk_cell BK101.out 2).trans rfl, (blk_cell BK101.out 3).trans rfl, (blk_cell BK101.out 4).trans rfl, (blk_cell BK101.out 5).trans rfl, (blk_cell BK101.out 6).trans rfl⟩ (fun hHeld => ?_)
   clear hK K
   refine norm_ (a' := ?_) ?_ ?_
   rotate_left
   ·show Act.put _ (some 15) _ = _
    simp only [Act.put, List.setIfInBounds_toArray, List.set_cons_zero, List.set_cons_succ, i64_w, i32_w]
    rfl
   refine ord_ [.p 13 18, .p 14 19, .p 15 4] ?_
   repeat (refine pu_ (v := ?_) (a' := ?_) HT_ rfl rfl (by kernel_rfl) (fun _ _ _ h => h) (by rfl) ?_ ?_ ?_; rotate_left 2; (intro w'; go_simp; with_reducible rfl); (simp only [Act.put, List.setIfInBounds_toArray, List.set_cons_zero, List.set_cons_succ, i64_w, i32_w]; rfl))
   refine ord0 ?_
   refine done_ (done_of HT_.out (by kernel_rfl)) ?_
   try go_wp2
   go_ret
   exact ⟨by rfl, bx HB.out⟩
  ·replace c6 := Bool.eq_false_iff.mpr c6
   subst c6
   rw [if_neg Bool.false_ne_true] at H
   obtain rfl := Option.some.inj H
   go_enter Tryz.func12, Tryz.ntmps12
   try go_wp2_with (first | ((with_reducible refine gate_dst (N := 3) rfl ?_); refine box_event rfl (N := 3) rfl (cs := #[.int .i64 a1_0, .slice A1_1 l1_1.length c1_1, .slice A1_2 l1_2.length c1_2, .bool a1_3, .slice A1_4 l1_4.length c1_4, .string a1_5, .string a1_6]) (t := 36) (by go_simp <;> rfl) ?_; intro gb101 hg w14 hbox hb; have BK101 := Aside0.mk (hbox); have GW101 := Le_.mk (ge_of hg HB.out); have GE101 := Le_.mk (ge_of hg HB.out); replace HB := kB HB hb; clear hb hbox hg))
   replace BK101 := Aside0.mk (blk_drew BK101.out)
   replace HB := Aside0.mk (below_drew1 HB.out)
   refine start_ (n := 16) (S := fun w' => w'.cell? ⟨gb101, 0, none⟩ = some (.int .i64 a1_0) ∧ w'.cell? ⟨gb101, 1, none⟩ = some (.slice A1_1 l1_1.length c1_1) ∧ w'.cell? ⟨gb101, 2, none⟩ = some (.slice A1_2 l1_2.length c1_2) ∧ w'.cell? ⟨gb101, 3, none⟩ = some (.bool a1_3) ∧ w'.cell? ⟨gb101, 4, none⟩ = some (.slice A1_4 l1_4.length c1_4) ∧ w'.cell? ⟨gb101, 5, none⟩ = some (.string a1_5) ∧ w'.cell? ⟨gb101, 6, none⟩ = some (.string a1_6)) (ds := []) _ (by kernel_rfl) rfl rfl ⟨(blk_cell BK101.out 0).trans rfl, (blk_cell BK101.out 1).trans rfl, (blk_cell BK101.out 2).trans rfl, (blk_cell BK101.out 3).trans rfl, (blk_cell BK101.out 4).trans rfl, (blk_cell BK101.out 5).trans rfl, (blk_cell BK101.out 6).trans rfl⟩ (fun hHeld => ?_); refine with_tabW spec_ReleaseOk.tab1 spec_ReleaseOk.bits1 (fun HT_ HW_ => ?_)
   generalize w14.drew = w15 at BK101 HB hHeld ⊢
   refine ord_ [.p 0 5] ?_
   repeat (refine pu_ (v := ?_) (a' := ?_) HT_ rfl rfl (by kernel_rfl) (fun _ _ _ h => h) (by rfl) ?_ ?_ ?_; rotate_left 2; (intro w'; go_simp; with_reducible rfl); (simp only [Act.put, List.setIfInBounds_toArray, List.set_cons_zero, List.set_cons_succ, i64_w, i32_w]; rfl))
   refine ord0 ?_
   refine on_ (i := 1) (N := some 6) HT_ rfl rfl (by kernel_rfl) (by decide) (fun K hK => ?_)
   refine goM gf31 #[.string a0] (by rfl) rfl rfl rfl ?_
   with_reducible refine (spec_l6Key.calls a0 true _ A3.out).mono ?_
   rintro e w' ⟨rfl, ⟨nd, rfl⟩⟩
   refine ⟨_, rfl, ?_⟩
   refine hK.out _ _ ⟨(blk_cell BK101.out 0).trans rfl, (blk_cell BK101.out 1).trans rfl, (blk_cell BK101.out 2).trans rfl, (blk_cell BK101.out 3).trans rfl, (blk_cell BK101.out 4).trans rfl, (blk_cell BK101.out 5).trans rfl, (blk_cell BK101.out 6).trans rfl⟩ (fun hHeld => ?_)
   clear hK K
   refine norm_ (a' := ?_) ?_ ?_
   rotate_left
   ·show Act.put _ (some 6) _ = _
    simp only [Act.put, List.setIfInBounds_toArray, List.set_cons_zero, List.set_cons_succ, i64_w, i32_w]
    rfl
   refine ord_ [.p 2 7, .t 3 8] ?_
   repeat (first | (refine pu_ (v := ?_) (a' := ?_) HT_ rfl rfl (by kernel_rfl) (fun _ _ _ h => h) (by rfl) ?_ ?_ ?_; rotate_left 2; (intro w'; go_simp; with_reducible rfl); (simp only [Act.put, List.setIfInBounds_toArray, List.set_cons_zero, List.set_cons_succ, i64_w, i32_w]; rfl)) | (refine ta_ (v := ?_) (a' := ?_) HT_ HW_ rfl rfl (by kernel_rfl) (fun _ _ _ h => h) (by rfl) hHeld ?_ ?_ ?_; rotate_left 2; (rintro w' ⟨s0, s1, s2, s3, s4, s5, s6⟩; go_simp; with_reducible rfl); (simp only [Act.put, List.setIfInBounds_toArray, List.set_cons_zero, List.set_cons_succ, i64_w, i32_w]; rfl)))
   refine ord0 ?_
   refine on_ (i := 4) (N := some 9) HT_ rfl rfl (by kernel_rfl) (by decide) (fun K hK => ?_)
   refine goM gf25 #[.agg #[.int .i64 a1_0, .slice A1_1 l1_1.length c1_1, .slice A1_2 l1_2.length c1_2, .bool a1_3, .slice A1_4 l1_4.length c1_4, .string a1_5, .string a1_6]] (by rfl) rfl rfl rfl ?_
   with_reducible refine (spec_l6Form.calls k a1_0 _ _ l1_1 _ _ l1_2 a1_3 _ _ l1_4 a1_5 a1_6 false _ ?side1 ?side2 ?side3 ?side4 ?side5 ?side6 A5.out).mono ?_
   (case side1 => repeat (first | exact (Kd.C_below HR1_1.out (bx HB.out)) | (with_reducible refine Kd.C_alloc ?_ _) | (with_reducible refine Kd.C_drewN ?_ _) | (with_reducible refine Kd.C_drew ?_)))
   (case side2 => exact HC1_1.out)
   (case side3 => repeat (first | exact (Kd.C_below HR1_2.out (bx HB.out)) | (with_reducible refine Kd.C_alloc ?_ _) | (with_reducible refine Kd.C_drewN ?_ _) | (with_reducible refine Kd.C_drew ?_)))
   (case side4 => exact HC1_2.out)
   (case side5 => repeat (first | exact (Kd.C_below HR1_4.out (bx HB.out)) | (with_reducible refine Kd.C_alloc ?_ _) | (with_reducible refine Kd.C_drewN ?_ _) | (with_reducible refine Kd.C_drew ?_)))
   (case side6 => exact HC1_4.out)
   rintro e w16 ⟨rfl, hb⟩
   refine ⟨_, rfl, ?_⟩
   replace BK101 := kb BK101 hb
   replace HB := kB HB hb
   (try clear hb)
   (try clear hb2)
   (try clear hk)
   (try clear hi)
   refine hK.out _ _ ⟨(blk_cell BK101.out 0).trans rfl, (blk_cell BK101.out 1).trans rfl, (blk_cell BK101.out 2).trans rfl, (blk_cell BK101.out 3).trans rfl, (blk_cell BK101.out 4).trans rfl, (blk_cell BK101.out 5).trans rfl, (blk_cell BK101.out 6).trans rfl⟩ (fun hHeld => ?_)
   clear hK K
   refine norm_ (a' := ?_) ?_ ?_
   rotate_left
   ·show Act.put _ (some 9) _ = _
    simp only [Act.put, List.setIfInBounds_toArray, List.set_cons_zero, List.set_cons_succ, i64_w, i32_w]
    rfl
   refine ord_ [.p 5 10, .p 6 11, .u 7 12, .u 8 13, .u 9 14, .u 10 15, .u 11 16, .u 12 17, .u 13 18, .p 14 19, .p 15 4] ?_
   repeat (first | (refine pu_ (v := ?_) (a' := ?_) HT_ rfl rfl (by kernel_rfl) (fun _ _ _ h => h) (by rfl) ?_ ?_ ?_; rotate_left 2; (intro w'; go_simp; with_reducible rfl); (simp only [Act.put, List.setIfInBounds_toArray, List.set_cons_zero, List.set_cons_succ, i64_w, i32_w]; rfl)) | (refine un_ (a' := ?_) HT_ rfl rfl (by kernel_rfl) (fun _ _ _ h => h) (by rfl) ?_ ?_; rotate_left; (simp only [Act.put, List.setIfInBounds_toArray, List.set_cons_zero, List.set_cons_succ, i64_w, i32_w]; rfl)))
   refine ord0 ?_
   refine done_ (done_of HT_.out (by kernel_rfl)) ?_
   try go_wp2
   go_ret
   exact ⟨by rfl, bx HB.out⟩
 ·replace c4 := Bool.eq_false_iff.mpr c4
  subst c4
  rw [if_neg Bool.false_ne_true] at H
  obtain rfl := Option.some.inj H
  go_enter Tryz.func12, Tryz.ntmps12
  try go_wp2_with (first | ((with_reducible refine gate_dst (N := 3) rfl ?_); refine box_event rfl (N := 3) rfl (cs := #[.int .i64 a1_0, .slice A1_1 l1_1.length c1_1, .slice A1_2 l1_2.length c1_2, .bool a1_3, .slice A1_4 l1_4.length c1_4, .string a1_5, .string a1_6]) (t := 36) (by go_simp <;> rfl) ?_; intro gb101 hg w17 hbox hb; have BK101 := Aside0.mk (hbox); have GW101 := Le_.mk (ge_of hg HB.out); have GE101 := Le_.mk (ge_of hg HB.out); replace HB := kB HB hb; clear hb hbox hg))
  replace BK101 := Aside0.mk (blk_drew BK101.out)
  replace HB := Aside0.mk (below_drew1 HB.out)
  refine start_ (n := 16) (S := fun w' => True) (ds := []) _ (by kernel_rfl) rfl rfl trivial (fun hHeld => ?_); refine with_tabW spec_ReleaseOk.tab1 spec_ReleaseOk.bits1 (fun HT_ HW_ => ?_)
  generalize w17.drew = w18 at BK101 HB hHeld ⊢
  refine ord_ [.p 0 5] ?_
  repeat (refine pu_ (v := ?_) (a' := ?_) HT_ rfl rfl (by kernel_rfl) (fun _ _ _ h => h) (by rfl) ?_ ?_ ?_; rotate_left 2; (intro w'; go_simp; with_reducible rfl); (simp only [Act.put, List.setIfInBounds_toArray, List.set_cons_zero, List.set_cons_succ, i64_w, i32_w]; rfl))
  refine ord0 ?_
  refine on_ (i := 1) (N := some 6) HT_ rfl rfl (by kernel_rfl) (by decide) (fun K hK => ?_)
  refine goM gf31 #[.string a0] (by rfl) rfl rfl rfl ?_
  with_reducible refine (spec_l6Key.calls a0 false _ A3.out).mono ?_
  rintro e w' ⟨rfl, ⟨nd, rfl⟩⟩
  refine ⟨_, rfl, ?_⟩
  refine hK.out _ _ trivial (fun hHeld => ?_)
  clear hK K
  refine norm_ (a' := ?_) ?_ ?_
  rotate_left
  ·show Act.put _ (some 6) _ = _
   simp only [Act.put, List.setIfInBounds_toArray, List.set_cons_zero, List.set_cons_succ, i64_w, i32_w]
   rfl
  refine ord_ [.p 2 7, .u 3 8, .u 4 9, .p 5 10, .p 6 11, .u 7 12, .u 8 13, .u 9 14, .u 10 15, .u 11 16, .u 12 17, .u 13 18, .p 14 19, .p 15 4] ?_
  repeat (first | (refine pu_ (v := ?_) (a' := ?_) HT_ rfl rfl (by kernel_rfl) (fun _ _ _ h => h) (by rfl) ?_ ?_ ?_; rotate_left 2; (intro w'; go_simp; with_reducible rfl); (simp only [Act.put, List.setIfInBounds_toArray, List.set_cons_zero, List.set_cons_succ, i64_w, i32_w]; rfl)) | (refine un_ (a' := ?_) HT_ rfl rfl (by kernel_rfl) (fun _ _ _ h => h) (by rfl) ?_ ?_; rotate_left; (simp only [Act.put, List.setIfInBounds_toArray, List.set_cons_zero, List.set_cons_succ, i64_w, i32_w]; rfl)))
  refine ord0 ?_
  refine done_ (done_of HT_.out (by kernel_rfl)) ?_
  try go_wp2
  go_ret
  exact ⟨by rfl, bx HB.out⟩
end Go.Proofs.YtaakfmpffhfaeaaGreatDoor.M
end

section
/- Words, affixes, entries, books, deltas: what is ok, plain; the program's tests are the reference's. -/
namespace Go.Proofs.YtaakfmpffhfaeaaGreatDoor.M
open Go.RowKit Go.Proofs.YtaakfmpffhfaeaaGreatDoorW.PrintWords Go.Proofs.YtaakfmpffhfaeaaGreatDoor.Pu
set_option linter.unusedVariables false
set_option linter.unusedSimpArgs false
abbrev En := S100
abbrev Af := S103
abbrev eAt (l : List En) (i : Int) : En := rd_T100 l i
abbrev aAt (l : List Af) (i : Int) : Af := rd_T103 l i
theorem eAt_nat (l : List En) (i : Nat) (h : i < l.length) : eAt l (i : Int) = l[i] := by simp [eAt, rd_T100, h]
theorem aAt_nat (l : List Af) (i : Nat) (h : i < l.length) : aAt l (i : Int) = l[i] := by simp [aAt, rd_T103, h]
theorem sAt_nat (l : List ByteArray) (i : Nat) (h : i < l.length) : rdOf ByteArray.empty l (i : Int) = l[i] := by simp [rdOf, h]
def lowP (s : ByteArray) (j : Nat) : Prop := 97 ≤ bt s (j : Int) ∧ bt s (j : Int) ≤ 122
instance (s : ByteArray) (j : Nat) : Decidable (lowP s j) := inferInstanceAs (Decidable (_ ∧ _))
def lowB (s : ByteArray) : Bool := if ∀ j, j < s.size → lowP s j then true else false
abbrev Small (n : Nat) : Prop := n ≤ 9223372036854775000
theorem impl_lower_ev (s : ByteArray) (hs : Small s.size) : Ev (fun k => impl_lower.f k s) (lowB s) := by
 unfold impl_lower.f
 refine all_loop (g := fun k x => impl_lower.l0 k s (s.size : Int) x) s.size (lowP s) false true ?_ ?_ ?_
 ·intro i r hi hp hr
  have c1 : (i : Int) < (s.size : Int) := by omega
  have c2 : (0 : Int) ≤ (i : Int) := by omega
  have c3 : ¬ bt s (i : Int) < 97 := by have := hp.1; omega
  have c4 : ¬ bt s (i : Int) > 122 := by have := hp.2; omega
  have w1 : Aside0 (wrap64 ((i : Int) + 1) = (i : Int) + 1) := ⟨wid (by omega) (by simp [Small] at hs; omega)⟩
  apply Ev.succ
  simp only [impl_lower.l0, c1, c2, c3, c4, w1.out, if_true, if_false]
  exact hr
 ·intro i hi hp
  have c1 : (i : Int) < (s.size : Int) := by omega
  have c2 : (0 : Int) ≤ (i : Int) := by omega
  apply Ev.succ
  simp only [impl_lower.l0, c1, c2, if_true]
  by_cases c3 : bt s (i : Int) < 97
  ·exact Ev.ifp c3 (Ev.now _)
  ·refine Ev.ifn c3 (Ev.ifp ?_ (Ev.now _))
   by_cases c4 : bt s (i : Int) > 122
   ·exact c4
   ·exact absurd ⟨by omega, by omega⟩ hp
 ·apply Ev.succ
  simp only [impl_lower.l0, Int.lt_irrefl, if_false]
  exact Ev.now _
theorem spec_l1Letters_ev (s : ByteArray) (m : Int) (hs : Small s.size) : Ev (fun k => spec_l1Letters.f k s m) (lowB s && decide ((s.size : Int) ≤ m)) := by
 unfold spec_l1Letters.f
 have key := all_loop (g := fun k x => spec_l1Letters.l0 k s m x) s.size (lowP s) false (decide ((s.size : Int) ≤ m)) ?_ ?_ ?_
 ·refine Ev.cast key ?_
  unfold lowB
  split <;> simp_all
 ·intro i r hi hp hr
  have c1 : (i : Int) < (s.size : Int) := by omega
  have c2 : (0 : Int) ≤ (i : Int) := by omega
  have c3 : ¬ bt s (i : Int) < 97 := by have := hp.1; omega
  have c4 : ¬ bt s (i : Int) > 122 := by have := hp.2; omega
  have w1 : Aside0 (wrap64 ((i : Int) + 1) = (i : Int) + 1) := ⟨wid (by omega) (by simp [Small] at hs; omega)⟩
  apply Ev.succ
  simp only [spec_l1Letters.l0, c1, c2, c3, c4, w1.out, if_true, if_false]
  exact hr
 ·intro i hi hp
  have c1 : (i : Int) < (s.size : Int) := by omega
  have c2 : (0 : Int) ≤ (i : Int) := by omega
  apply Ev.succ
  simp only [spec_l1Letters.l0, c1, c2, if_true]
  by_cases c3 : bt s (i : Int) < 97
  ·exact Ev.ifp c3 (Ev.now _)
  ·refine Ev.ifn c3 (Ev.ifp ?_ (Ev.now _))
   by_cases c4 : bt s (i : Int) > 122
   ·exact c4
   ·exact absurd ⟨by omega, by omega⟩ hp
 ·apply Ev.succ
  simp only [spec_l1Letters.l0, Int.lt_irrefl, if_false]
  exact Ev.now _
def wordB (s : ByteArray) : Bool := decide (1 ≤ s.size) && (decide (s.size ≤ 12) && lowB s)
theorem impl_WordOk_ev (s : ByteArray) (hs : Small s.size) : Ev (fun k => impl_WordOk.f k s) (wordB s) := by
 unfold impl_WordOk.f impl_within.f
 by_cases c1 : (s.size : Int) ≥ 1
 ·simp only [c1, if_true, Option.bind_some]
  by_cases c2 : (s.size : Int) ≤ 12
  ·simp only [c2, decide_true, if_true]
   refine Ev.bind (impl_lower_ev s hs) (Ev.cast (Ev.now _) ?_)
   unfold wordB
   have a1 : 1 ≤ s.size := by omega
   have a2 : s.size ≤ 12 := by omega
   simp [a1, a2]
  ·simp only [c2, decide_false, Bool.false_eq_true, if_false]
   refine Ev.cast (Ev.now _) ?_
   unfold wordB
   have a2 : ¬ s.size ≤ 12 := by omega
   simp [a2]
 ·simp only [c1, if_false, Option.bind_some, Bool.false_eq_true]
  refine Ev.cast (Ev.now _) ?_
  unfold wordB
  have a1 : ¬ 1 ≤ s.size := by omega
  simp [a1]
theorem spec_l1Word_ev (s : ByteArray) (hs : Small s.size) : Ev (fun k => spec_l1Word.f k s) (wordB s) := by
 unfold spec_l1Word.f
 by_cases c1 : (s.size : Int) > 0
 ·refine Ev.ifp c1 (Ev.bind (spec_l1Letters_ev s 12 hs) (Ev.cast (Ev.now _) ?_))
  unfold wordB
  have a1 : 1 ≤ s.size := by omega
  have a2 : ((s.size : Int) ≤ 12) ↔ s.size ≤ 12 := by omega
  simp [a1, a2, Bool.and_comm]
 ·refine Ev.ifn c1 (Ev.cast (Ev.now _) ?_)
  unfold wordB
  have a1 : ¬ 1 ≤ s.size := by omega
  simp [a1]
def upB (c : Int) : Bool := decide (65 ≤ c) && decide (c ≤ 90)
theorem impl_upper_eq (c : Int) : impl_upper.f c = some (upB c) := by
 unfold impl_upper.f upB
 by_cases h : c ≥ 65
 ·have h' : 65 ≤ c := h
  rw [if_pos h]
  simp [h']
 ·have h' : ¬ 65 ≤ c := h
  rw [if_neg h]
  simp [h']
def flagB (s : ByteArray) : Bool := decide (s.size = 1) && upB (bt s 0)
theorem spec_l2Flag_eq (s : ByteArray) : spec_l2Flag.f s = some (flagB s) := by
 unfold spec_l2Flag.f flagB upB
 by_cases h : s.size = 1
 ·have h1 : (s.size : Int) = 1 := by omega
  have h2 : (0 : Int) < (s.size : Int) := by omega
  rw [if_pos h1, if_pos h2]
  by_cases h3 : bt s 0 ≥ 65
  ·have h' : 65 ≤ bt s 0 := h3
   rw [if_pos h3]
   simp [h, h']
  ·have h' : ¬ 65 ≤ bt s 0 := h3
   rw [if_neg h3]
   simp [h, h']
 ·have h1 : ¬ (s.size : Int) = 1 := by omega
  rw [if_neg h1]
  simp [h]
def begB (s p : ByteArray) : Bool := if p.size ≤ s.size then (s.extract 0 p.size).toList == p.toList else false
def endB (s p : ByteArray) : Bool := if p.size ≤ s.size then (s.extract (s.size - p.size) s.size).toList == p.toList else false
theorem pre_eq (s p : ByteArray) : (if (s.size : Int) ≥ (p.size : Int) then (if 0 ≤ (p.size : Int) then (if (p.size : Int) ≤ (s.size : Int) then (some ((s.extract 0 ((p.size : Int) : Int).toNat).toList == p.toList)) else (none)) else (none)) else (some false)) = some (begB s p) := by
 unfold begB
 by_cases h : p.size ≤ s.size
 ·have h1 : (s.size : Int) ≥ (p.size : Int) := by omega
  have h2 : (0 : Int) ≤ (p.size : Int) := by omega
  have h3 : (p.size : Int) ≤ (s.size : Int) := by omega
  rw [if_pos h1, if_pos h2, if_pos h3, if_pos h, Int.toNat_natCast]
 ·have h1 : ¬ (s.size : Int) ≥ (p.size : Int) := by omega
  rw [if_neg h1, if_neg h]
theorem suf_eq (s p : ByteArray) (hs : Small s.size) : (if (s.size : Int) ≥ (p.size : Int) then (if 0 ≤ (wrap64 ((s.size : Int) - (p.size : Int))) then (if (wrap64 ((s.size : Int) - (p.size : Int))) ≤ (s.size : Int) then (some ((s.extract ((wrap64 ((s.size : Int) - (p.size : Int))) : Int).toNat s.size).toList == p.toList)) else (none)) else (none)) else (some false)) = some (endB s p) := by
 unfold endB
 by_cases h : p.size ≤ s.size
 ·have h1 : (s.size : Int) ≥ (p.size : Int) := by omega
  have w : wrap64 ((s.size : Int) - (p.size : Int)) = ((s.size - p.size : Nat) : Int) := by rw [wid (by omega) (by simp [Small] at hs; omega)]; omega
  have h2 : (0 : Int) ≤ ((s.size - p.size : Nat) : Int) := by omega
  have h3 : ((s.size - p.size : Nat) : Int) ≤ (s.size : Int) := by omega
  rw [if_pos h1, w, if_pos h2, if_pos h3, if_pos h, Int.toNat_natCast]
 ·have h1 : ¬ (s.size : Int) ≥ (p.size : Int) := by omega
  rw [if_neg h1, if_neg h]
theorem hasPrefix_beg (s p : ByteArray) : strings_HasPrefix.f s p = some (begB s p) := by
 unfold strings_HasPrefix.f stringslite_HasPrefix.f
 rw [pre_eq]
 rfl
theorem hasSuffix_end (s p : ByteArray) (hs : Small s.size) : strings_HasSuffix.f s p = some (endB s p) := by
 unfold strings_HasSuffix.f stringslite_HasSuffix.f
 rw [suf_eq s p hs]
 rfl
theorem spec_l2Begins_eq (s p : ByteArray) : spec_l2Begins.f s p = some (begB s p) := by
 unfold spec_l2Begins.f
 exact pre_eq s p
theorem spec_l2Ends_eq (s p : ByteArray) (hs : Small s.size) : spec_l2Ends.f s p = some (endB s p) := by
 unfold spec_l2Ends.f
 exact suf_eq s p hs
def partB (s : ByteArray) : Bool := lowB s && decide (s.size ≤ 4)
def affB (a : Af) : Bool := flagB a.f0 && (partB a.f2 && (partB a.f3 && (partB a.f4 && (if a.f1 = true then begB a.f4 a.f2 else endB a.f4 a.f2))))
def SmallA (a : Af) : Prop := Small a.f0.size ∧ Small a.f2.size ∧ Small a.f3.size ∧ Small a.f4.size
theorem part_cast (s : ByteArray) : (lowB s && decide ((s.size : Int) ≤ 4)) = partB s := by
 unfold partB
 have a2 : ((s.size : Int) ≤ 4) ↔ s.size ≤ 4 := by omega
 simp [a2]
theorem spec_AffixOk_ev (a : Af) (h : SmallA a) : Ev (fun k => spec_AffixOk.f k a.f0 a.f1 a.f2 a.f3 a.f4) (affB a) := by
 obtain ⟨h0, h2, h3, h4⟩ := h
 have no : ∀ u v x y z, Ev (fun k => spec_AffixOk.j0 k true u v x y z) false := fun u v x y z => by
  apply Ev.succ
  simp only [spec_AffixOk.j0, if_true]
  exact Ev.now _
 have yes : Ev (fun k => spec_AffixOk.j0 k false a.f0 a.f1 a.f2 a.f3 a.f4) (if a.f1 = true then begB a.f4 a.f2 else endB a.f4 a.f2) := by
  apply Ev.succ
  simp only [spec_AffixOk.j0, Bool.false_eq_true, if_false, spec_l2Begins_eq, spec_l2Ends_eq _ _ h4, Option.bind_some]
  cases a.f1
  ·simp only [Bool.false_eq_true, if_false]; exact Ev.now _
  ·simp only [if_true]; exact Ev.now _
 unfold spec_AffixOk.f affB
 simp only [spec_l2Flag_eq, Option.bind_some]
 cases flagB a.f0
 ·simp only [Bool.false_eq_true, if_false, Bool.false_and]; exact no _ _ _ _ _
 simp only [if_true, Bool.true_and]
 refine Ev.bind (Ev.cast (spec_l1Letters_ev a.f2 4 h2) (part_cast _)) ?_
 cases partB a.f2
 ·simp only [Bool.false_eq_true, if_false, Bool.false_and]; exact no _ _ _ _ _
 simp only [if_true, Bool.true_and]
 refine Ev.bind (Ev.cast (spec_l1Letters_ev a.f3 4 h3) (part_cast _)) ?_
 cases partB a.f3
 ·simp only [Bool.false_eq_true, if_false, Bool.false_and]; exact no _ _ _ _ _
 simp only [if_true, Bool.true_and]
 refine Ev.bind (Ev.cast (spec_l1Letters_ev a.f4 4 h4) (part_cast _)) ?_
 cases partB a.f4
 ·simp only [Bool.not_false, Bool.false_and]; exact no _ _ _ _ _
 simp only [Bool.not_true, Bool.true_and]
 exact yes
theorem impl_AffixOk_ev (a : Af) (h : SmallA a) : Ev (fun k => impl_AffixOk.f k a.f0 a.f1 a.f2 a.f3 a.f4) (affB a) := by
 obtain ⟨h0, h2, h3, h4⟩ := h
 have no : ∀ u v x y z, Ev (fun k => impl_AffixOk.j0 k true u v x y z) false := fun u v x y z => by
  apply Ev.succ
  simp only [impl_AffixOk.j0, if_true]
  exact Ev.now _
 have one : ∀ (s : ByteArray) (hs : Small s.size) (r : Bool) (f : Nat → Option Bool), Ev f r → Ev (fun k => if (s.size : Int) > 4 then some false else ((impl_lower.f k s).bind fun t107 => if t107 = true then f k else some false)) (partB s && r) := by
  intro s hs r f hf
  by_cases c : (s.size : Int) > 4
  ·refine Ev.ifp c (Ev.cast (Ev.now _) ?_)
   have a2 : ¬ s.size ≤ 4 := by omega
   simp [partB, a2]
  ·refine Ev.ifn c (Ev.bind (impl_lower_ev s hs) ?_)
   have a2 : s.size ≤ 4 := by omega
   cases hl : lowB s
   ·simp only [Bool.false_eq_true, if_false]
    refine Ev.cast (Ev.now _) ?_
    simp [partB, hl]
   ·simp only [if_true]
    refine Ev.cast hf ?_
    simp [partB, hl, a2]
 have last : Ev (fun k => impl_AffixOk.l0 k [a.f2, a.f3, a.f4] 3 3 a.f0 a.f1 a.f2 a.f3 a.f4) (if a.f1 = true then begB a.f4 a.f2 else endB a.f4 a.f2) := by
  apply Ev.succ
  simp only [impl_AffixOk.l0, Int.lt_irrefl, if_false, hasPrefix_beg, hasSuffix_end _ _ h4, Option.bind_some]
  cases a.f1
  ·simp only [Bool.false_eq_true, if_false]; exact Ev.now _
  ·simp only [if_true]; exact Ev.now _
 have w2 : wrap64 (2 + 1) = 3 := wid (by omega) (by omega)
 have w1 : wrap64 (1 + 1) = 2 := wid (by omega) (by omega)
 have w0 : wrap64 (0 + 1) = 1 := wid (by omega) (by omega)
 have l2 : Ev (fun k => impl_AffixOk.l0 k [a.f2, a.f3, a.f4] 3 2 a.f0 a.f1 a.f2 a.f3 a.f4) (partB a.f4 && (if a.f1 = true then begB a.f4 a.f2 else endB a.f4 a.f2)) := by
  apply Ev.succ
  have e : rdOf ByteArray.empty [a.f2, a.f3, a.f4] 2 = a.f4 := rfl
  simp only [impl_AffixOk.l0, e, w2, show ((2 : Int) < 3) from by decide, show ((0 : Int) ≤ 2) from by decide, show ((2 : Int) < (([a.f2, a.f3, a.f4] : List ByteArray).length : Int)) from by simp, if_true]
  exact one a.f4 h4 _ _ last
 have l1 : Ev (fun k => impl_AffixOk.l0 k [a.f2, a.f3, a.f4] 3 1 a.f0 a.f1 a.f2 a.f3 a.f4) (partB a.f3 && (partB a.f4 && (if a.f1 = true then begB a.f4 a.f2 else endB a.f4 a.f2))) := by
  apply Ev.succ
  have e : rdOf ByteArray.empty [a.f2, a.f3, a.f4] 1 = a.f3 := rfl
  simp only [impl_AffixOk.l0, e, w1, show ((1 : Int) < 3) from by decide, show ((0 : Int) ≤ 1) from by decide, show ((1 : Int) < (([a.f2, a.f3, a.f4] : List ByteArray).length : Int)) from by simp, if_true]
  exact one a.f3 h3 _ _ l2
 have l0 : Ev (fun k => impl_AffixOk.l0 k [a.f2, a.f3, a.f4] 3 0 a.f0 a.f1 a.f2 a.f3 a.f4) (partB a.f2 && (partB a.f3 && (partB a.f4 && (if a.f1 = true then begB a.f4 a.f2 else endB a.f4 a.f2)))) := by
  apply Ev.succ
  have e : rdOf ByteArray.empty [a.f2, a.f3, a.f4] 0 = a.f2 := rfl
  simp only [impl_AffixOk.l0, e, w0, show ((0 : Int) < 3) from by decide, show ((0 : Int) ≤ 0) from by decide, show ((0 : Int) < (([a.f2, a.f3, a.f4] : List ByteArray).length : Int)) from by simp, if_true]
  exact one a.f2 h2 _ _ l1
 have yes : Ev (fun k => impl_AffixOk.j0 k false a.f0 a.f1 a.f2 a.f3 a.f4) (partB a.f2 && (partB a.f3 && (partB a.f4 && (if a.f1 = true then begB a.f4 a.f2 else endB a.f4 a.f2)))) := by
  apply Ev.succ
  simp only [impl_AffixOk.j0, Bool.false_eq_true, if_false, Option.bind_some]
  exact l0
 unfold impl_AffixOk.f affB flagB
 by_cases c : a.f0.size = 1
 ·have c1 : (a.f0.size : Int) = 1 := by omega
  have c2 : (0 : Int) < (a.f0.size : Int) := by omega
  simp only [c1, if_true, impl_upper_eq, Option.bind_some, c, decide_true, Bool.true_and, show ((0 : Int) < 1) from by decide]
  cases upB (bt a.f0 0)
  ·simp only [Bool.not_false, Bool.false_and]; exact no _ _ _ _ _
  ·simp only [Bool.not_true, Bool.true_and]; exact yes
 ·have c1 : ¬ (a.f0.size : Int) = 1 := by omega
  simp only [c1, if_false, c, decide_false, Bool.false_and]
  exact no _ _ _ _ _
end Go.Proofs.YtaakfmpffhfaeaaGreatDoor.M
end

section
/- Lists of words, entries and affixes, deltas: what is ok, plain. -/
namespace Go.Proofs.YtaakfmpffhfaeaaGreatDoor.M
open Go.RowKit Go.Proofs.YtaakfmpffhfaeaaGreatDoorW.PrintWords Go.Proofs.YtaakfmpffhfaeaaGreatDoor.Pu
set_option linter.unusedVariables false
set_option linter.unusedSimpArgs false
theorem find_from {α : Type} {g : Nat → Int → Option α} (n : Nat) (P : Nat → Prop) [DecidablePred P] (fin : α) (S : α → Prop)
  (step : ∀ (i : Nat) (r : α), i < n → P i → Ev (fun k => g k ((i : Int) + 1)) r → Ev (fun k => g k (i : Int)) r)
  (fail : ∀ i : Nat, i < n → ¬ P i → ∃ r, Ev (fun k => g k (i : Int)) r ∧ S r)
  (done : Ev (fun k => g k (n : Int)) fin) (d : Nat) : ∀ i : Nat, n - i = d → i ≤ n → ((∀ j, j < n → i ≤ j → P j) ∧ Ev (fun k => g k (i : Int)) fin) ∨ ((∃ j, j < n ∧ i ≤ j ∧ ¬ P j) ∧ ∃ r, Ev (fun k => g k (i : Int)) r ∧ S r) := by
 induction d with
 | zero =>
  intro i hd hi
  obtain rfl : i = n := by omega
  exact .inl ⟨fun j h1 h2 => absurd h1 (by omega), done⟩
 | succ d ih =>
  intro i hd hi
  by_cases hp : P i
  ·rcases ih (i + 1) (by omega) (by omega) with ⟨h1, h2⟩ | ⟨⟨j, h1, h2, h3⟩, r, h4, h5⟩
   ·refine .inl ⟨fun j a b => ?_, step i _ (by omega) hp (by exact_mod_cast h2)⟩
    rcases Nat.eq_or_lt_of_le b with rfl | c
    ·exact hp
    ·exact h1 j a c
   ·exact .inr ⟨⟨j, h1, by omega, h3⟩, r, step i _ (by omega) hp (by exact_mod_cast h4), h5⟩
  ·exact .inr ⟨⟨i, by omega, Nat.le_refl _, hp⟩, fail i (by omega) hp⟩
theorem stop_loop {α : Type} {g : Nat → Int → Option α} (n : Nat) (P : Nat → Prop) (stop : α) (j : Nat) (hj : j < n) (hP : ¬ P j)
  (step : ∀ (i : Nat) (r : α), i < n → P i → Ev (fun k => g k ((i : Int) + 1)) r → Ev (fun k => g k (i : Int)) r)
  (fail : ∀ i : Nat, i < n → ¬ P i → Ev (fun k => g k (i : Int)) stop) : Ev (fun k => g k 0) stop := by
 have key : ∀ d i : Nat, j - i = d → i ≤ j → Ev (fun k => g k (i : Int)) stop := by
  intro d
  induction d with
  | zero =>
   intro i hd hi
   obtain rfl : i = j := by omega
   exact fail i hj hP
  | succ d ih =>
   intro i hd hi
   by_cases hp : P i
   ·exact step i _ (by omega) hp (by exact_mod_cast ih (i + 1) (by omega) (by omega))
   ·exact fail i (by omega) hp
 exact_mod_cast key j 0 (by omega) (by omega)
def entP (s : ByteArray) (j : Nat) : Prop := upB (bt s (j : Int)) = true ∧ (0 < j → bt s (((j - 1 : Nat)) : Int) < bt s (j : Int))
instance (s : ByteArray) (j : Nat) : Decidable (entP s j) := inferInstanceAs (Decidable (_ ∧ _))
def entB (e : En) : Bool := if ∀ j, j < e.f1.size → entP e.f1 j then (wordB e.f0 && decide (e.f1.size ≤ 4)) else false
def SmallE (e : En) : Prop := Small e.f0.size ∧ Small e.f1.size
theorem tail_cast (b : Bool) (n m : Nat) : (if b = true then some (decide ((n : Int) ≤ (m : Int))) else some false) = some (b && decide (n ≤ m)) := by
 have a2 : ((n : Int) ≤ (m : Int)) ↔ n ≤ m := by omega
 cases b <;> simp [a2]
theorem impl_entryOk_ev (e : En) (h : SmallE e) : Ev (fun k => impl_entryOk.f k e.f0 e.f1) (entB e) := by
 obtain ⟨h0, h1⟩ := h
 unfold impl_entryOk.f
 refine all_loop (g := fun k x => impl_entryOk.l0 k (e.f1.size : Int) x e.f0 e.f1) e.f1.size (entP e.f1) false _ ?_ ?_ ?_
 ·intro i r hi hp hr
  have c1 : (i : Int) < (e.f1.size : Int) := by omega
  have c2 : (0 : Int) ≤ (i : Int) := by omega
  have w1 : Aside0 (wrap64 ((i : Int) + 1) = (i : Int) + 1) := ⟨wid (by omega) (by simp [Small] at h1; omega)⟩
  apply Ev.succ
  simp only [impl_entryOk.l0, c1, c2, impl_upper_eq, hp.1, Option.bind_some, w1.out, if_true]
  by_cases c3 : (i : Int) > 0
  ·have w2 : Aside0 (wrap64 ((i : Int) - 1) = ((i - 1 : Nat) : Int)) := ⟨by rw [wid (by omega) (by simp [Small] at h1; omega)]; omega⟩
   have c4 : (0 : Int) ≤ ((i - 1 : Nat) : Int) := by omega
   have c5 : ((i - 1 : Nat) : Int) < (e.f1.size : Int) := by omega
   have c6 : ¬ bt e.f1 ((i - 1 : Nat) : Int) ≥ bt e.f1 (i : Int) := by have := hp.2 (by omega); omega
   simp only [c3, w2.out, c4, c5, c6, if_true, if_false]
   exact hr
  ·simp only [c3, if_false]
   exact hr
 ·intro i hi hp
  have c1 : (i : Int) < (e.f1.size : Int) := by omega
  have c2 : (0 : Int) ≤ (i : Int) := by omega
  apply Ev.succ
  simp only [impl_entryOk.l0, c1, c2, impl_upper_eq, Option.bind_some, if_true]
  cases hu : upB (bt e.f1 (i : Int))
  ·simp only [Bool.false_eq_true, if_false]
   exact Ev.now _
  ·simp only [if_true]
   have c3 : (i : Int) > 0 := by
    by_cases c : (i : Int) > 0
    ·exact c
    ·exact absurd ⟨hu, fun h => absurd h (by omega)⟩ hp
   have w2 : Aside0 (wrap64 ((i : Int) - 1) = ((i - 1 : Nat) : Int)) := ⟨by rw [wid (by omega) (by simp [Small] at h1; omega)]; omega⟩
   have c4 : (0 : Int) ≤ ((i - 1 : Nat) : Int) := by omega
   have c5 : ((i - 1 : Nat) : Int) < (e.f1.size : Int) := by omega
   have c6 : bt e.f1 ((i - 1 : Nat) : Int) ≥ bt e.f1 (i : Int) := by
    by_cases c : bt e.f1 ((i - 1 : Nat) : Int) < bt e.f1 (i : Int)
    ·exact absurd ⟨hu, fun _ => c⟩ hp
    ·omega
   simp only [c3, w2.out, c4, c5, c6, if_true]
   exact Ev.now _
 ·apply Ev.succ
  simp only [impl_entryOk.l0, Int.lt_irrefl, if_false]
  refine Ev.bind (impl_WordOk_ev e.f0 h0) ?_
  exact Ev.congr (fun _ => tail_cast _ _ 4) (Ev.now _)
theorem bt_one (s : ByteArray) (i : Nat) (h : i < s.size) : bt (s.extract i (i + 1)) 0 = bt s (i : Int) := by
 have e0 := bt_nat (s.extract i (i + 1)) 0
 rw [bt_nat s i, dif_pos h]
 have hz : (s.extract i (i + 1)).size = 1 := by rw [ByteArray.size_extract]; omega
 have e1 : bt (s.extract i (i + 1)) 0 = bt (s.extract i (i + 1)) ((0 : Nat) : Int) := rfl
 rw [e1, e0, dif_pos (by omega)]
 simp [ByteArray.getElem_extract]
theorem spec_l2Entry_ev (e : En) (h : SmallE e) : Ev (fun k => spec_l2Entry.f k e.f0 e.f1) (entB e) := by
 obtain ⟨h0, h1⟩ := h
 unfold spec_l2Entry.f
 have fl : ∀ i : Nat, i < e.f1.size → spec_l2Flag.f (e.f1.extract i (i + 1)) = some (upB (bt e.f1 (i : Int))) := by
  intro i hi
  rw [spec_l2Flag_eq]
  unfold flagB
  have hz : (e.f1.extract i (i + 1)).size = 1 := by rw [ByteArray.size_extract]; omega
  rw [hz, bt_one _ _ hi]
  simp
 refine all_loop (g := fun k x => spec_l2Entry.l0 k x e.f0 e.f1) e.f1.size (entP e.f1) false _ ?_ ?_ ?_
 ·intro i r hi hp hr
  have c1 : (i : Int) < (e.f1.size : Int) := by omega
  have c2 : (0 : Int) ≤ (i : Int) := by omega
  have w1 : Aside0 (wrap64 ((i : Int) + 1) = (i : Int) + 1) := ⟨wid (by omega) (by simp [Small] at h1; omega)⟩
  have c7 : (i : Int) ≤ (i : Int) + 1 := by omega
  have c8 : (i : Int) + 1 ≤ (e.f1.size : Int) := by omega
  have e0 : (i : Int).toNat = i := by omega
  have e1 : ((i : Int) + 1).toNat = i + 1 := by omega
  apply Ev.succ
  simp only [spec_l2Entry.l0, c1, c2, w1.out, c7, c8, e0, e1, fl i hi, hp.1, Option.bind_some, if_true]
  by_cases c3 : (i : Int) > 0
  ·have w2 : Aside0 (wrap64 ((i : Int) - 1) = ((i - 1 : Nat) : Int)) := ⟨by rw [wid (by omega) (by simp [Small] at h1; omega)]; omega⟩
   have c4 : (0 : Int) ≤ ((i - 1 : Nat) : Int) := by omega
   have c5 : ((i - 1 : Nat) : Int) < (e.f1.size : Int) := by omega
   have c6 : ¬ bt e.f1 ((i - 1 : Nat) : Int) ≥ bt e.f1 (i : Int) := by have := hp.2 (by omega); omega
   simp only [c3, w2.out, c4, c5, c6, if_true, if_false]
   exact hr
  ·simp only [c3, if_false]
   exact hr
 ·intro i hi hp
  have c1 : (i : Int) < (e.f1.size : Int) := by omega
  have c2 : (0 : Int) ≤ (i : Int) := by omega
  have w1 : Aside0 (wrap64 ((i : Int) + 1) = (i : Int) + 1) := ⟨wid (by omega) (by simp [Small] at h1; omega)⟩
  have c7 : (i : Int) ≤ (i : Int) + 1 := by omega
  have c8 : (i : Int) + 1 ≤ (e.f1.size : Int) := by omega
  have e0 : (i : Int).toNat = i := by omega
  have e1 : ((i : Int) + 1).toNat = i + 1 := by omega
  apply Ev.succ
  simp only [spec_l2Entry.l0, c1, c2, w1.out, c7, c8, e0, e1, fl i hi, Option.bind_some, if_true]
  cases hu : upB (bt e.f1 (i : Int))
  ·simp only [Bool.false_eq_true, if_false]
   exact Ev.now _
  ·simp only [if_true]
   have c3 : (i : Int) > 0 := by
    by_cases c : (i : Int) > 0
    ·exact c
    ·exact absurd ⟨hu, fun h => absurd h (by omega)⟩ hp
   have w2 : Aside0 (wrap64 ((i : Int) - 1) = ((i - 1 : Nat) : Int)) := ⟨by rw [wid (by omega) (by simp [Small] at h1; omega)]; omega⟩
   have c4 : (0 : Int) ≤ ((i - 1 : Nat) : Int) := by omega
   have c5 : ((i - 1 : Nat) : Int) < (e.f1.size : Int) := by omega
   have c6 : bt e.f1 ((i - 1 : Nat) : Int) ≥ bt e.f1 (i : Int) := by
    by_cases c : bt e.f1 ((i - 1 : Nat) : Int) < bt e.f1 (i : Int)
    ·exact absurd ⟨hu, fun _ => c⟩ hp
    ·omega
   simp only [c3, w2.out, c4, c5, c6, if_true]
   exact Ev.now _
 ·apply Ev.succ
  simp only [spec_l2Entry.l0, Int.lt_irrefl, if_false]
  refine Ev.bind (spec_l1Word_ev e.f0 h0) ?_
  exact Ev.congr (fun _ => tail_cast _ _ 4) (Ev.now _)
def less (a b : ByteArray) : Bool := Op.bytesLess a.toList b.toList
def wsP (l : List ByteArray) (j : Nat) : Prop := wordB (rdOf ByteArray.empty l (j : Int)) = true ∧ (0 < j → less (rdOf ByteArray.empty l ((j - 1 : Nat) : Int)) (rdOf ByteArray.empty l (j : Int)) = true)
instance (l : List ByteArray) (j : Nat) : Decidable (wsP l j) := inferInstanceAs (Decidable (_ ∧ _))
def wsB (l : List ByteArray) (m : Nat) : Bool := if ∀ j, j < l.length → wsP l j then decide (l.length ≤ m) else false
theorem impl_wordsOk_ev (l : List ByteArray) (m : Nat) (hl : Small l.length) (h : ∀ s ∈ l, Small s.size) : Ev (fun k => impl_wordsOk.f k l (m : Int)) (wsB l m) := by
 unfold impl_wordsOk.f
 have sm : ∀ i : Nat, i < l.length → Small (rdOf ByteArray.empty l (i : Int)).size := fun i hi => by rw [sAt_nat l i hi]; exact h _ (List.getElem_mem hi)
 refine all_loop (g := fun k x => impl_wordsOk.l0 k l (m : Int) l (l.length : Int) x) l.length (wsP l) false _ ?_ ?_ ?_
 ·intro i r hi hp hr
  have c1 : (i : Int) < (l.length : Int) := by omega
  have c2 : (0 : Int) ≤ (i : Int) := by omega
  have w1 : Aside0 (wrap64 ((i : Int) + 1) = (i : Int) + 1) := ⟨wid (by omega) (by simp [Small] at hl; omega)⟩
  apply Ev.succ
  simp only [impl_wordsOk.l0, c1, c2, w1.out, if_true]
  refine Ev.bind (Ev.cast (impl_WordOk_ev _ (sm i hi)) hp.1) ?_
  simp only [if_true]
  by_cases c3 : (i : Int) > 0
  ·have w2 : Aside0 (wrap64 ((i : Int) - 1) = ((i - 1 : Nat) : Int)) := ⟨by rw [wid (by omega) (by simp [Small] at hl; omega)]; omega⟩
   have c4 : (0 : Int) ≤ ((i - 1 : Nat) : Int) := by omega
   have c5 : ((i - 1 : Nat) : Int) < (l.length : Int) := by omega
   have c6 : Op.bytesLess (rdOf ByteArray.empty l ((i - 1 : Nat) : Int)).toList (rdOf ByteArray.empty l (i : Int)).toList = true := hp.2 (by omega)
   simp only [c3, w2.out, c4, c5, c6, if_true]
   exact hr
  ·simp only [c3, if_false]
   exact hr
 ·intro i hi hp
  have c1 : (i : Int) < (l.length : Int) := by omega
  have c2 : (0 : Int) ≤ (i : Int) := by omega
  apply Ev.succ
  simp only [impl_wordsOk.l0, c1, c2, if_true]
  refine Ev.bind (impl_WordOk_ev _ (sm i hi)) ?_
  cases hu : wordB (rdOf ByteArray.empty l (i : Int))
  ·simp only [Bool.false_eq_true, if_false]
   exact Ev.now _
  ·simp only [if_true]
   have c3 : (i : Int) > 0 := by
    by_cases c : (i : Int) > 0
    ·exact c
    ·exact absurd ⟨hu, fun h => absurd h (by omega)⟩ hp
   have w2 : Aside0 (wrap64 ((i : Int) - 1) = ((i - 1 : Nat) : Int)) := ⟨by rw [wid (by omega) (by simp [Small] at hl; omega)]; omega⟩
   have c4 : (0 : Int) ≤ ((i - 1 : Nat) : Int) := by omega
   have c5 : ((i - 1 : Nat) : Int) < (l.length : Int) := by omega
   have c6 : ¬ Op.bytesLess (rdOf ByteArray.empty l ((i - 1 : Nat) : Int)).toList (rdOf ByteArray.empty l (i : Int)).toList = true := fun c => hp ⟨hu, fun _ => c⟩
   simp only [c3, w2.out, c4, c5, c6, if_true, if_false]
   exact Ev.now _
 ·apply Ev.succ
  simp only [impl_wordsOk.l0, Int.lt_irrefl, if_false]
  refine Ev.cast (Ev.now _) ?_
  have a2 : ((l.length : Int) ≤ (m : Int)) ↔ l.length ≤ m := by omega
  simp [a2]
def esP (l : List En) (j : Nat) : Prop := entB (eAt l (j : Int)) = true ∧ (0 < j → less (eAt l ((j - 1 : Nat) : Int)).f0 (eAt l (j : Int)).f0 = true)
instance (l : List En) (j : Nat) : Decidable (esP l j) := inferInstanceAs (Decidable (_ ∧ _))
def esB (l : List En) : Bool := if ∀ j, j < l.length → esP l j then decide (l.length ≤ 24) else false
theorem impl_entriesOk_ev (l : List En) (hl : Small l.length) (h : ∀ e ∈ l, SmallE e) : Ev (fun k => impl_entriesOk.f k l) (esB l) := by
 unfold impl_entriesOk.f
 have sm : ∀ i : Nat, i < l.length → SmallE (eAt l (i : Int)) := fun i hi => by rw [eAt_nat l i hi]; exact h _ (List.getElem_mem hi)
 refine all_loop (g := fun k x => impl_entriesOk.l0 k l l (l.length : Int) x) l.length (esP l) false _ ?_ ?_ ?_
 ·intro i r hi hp hr
  have c1 : (i : Int) < (l.length : Int) := by omega
  have c2 : (0 : Int) ≤ (i : Int) := by omega
  have w1 : Aside0 (wrap64 ((i : Int) + 1) = (i : Int) + 1) := ⟨wid (by omega) (by simp [Small] at hl; omega)⟩
  apply Ev.succ
  simp only [impl_entriesOk.l0, c1, c2, w1.out, if_true]
  refine Ev.bind (Ev.cast (impl_entryOk_ev _ (sm i hi)) hp.1) ?_
  simp only [if_true]
  by_cases c3 : (i : Int) > 0
  ·have w2 : Aside0 (wrap64 ((i : Int) - 1) = ((i - 1 : Nat) : Int)) := ⟨by rw [wid (by omega) (by simp [Small] at hl; omega)]; omega⟩
   have c4 : (0 : Int) ≤ ((i - 1 : Nat) : Int) := by omega
   have c5 : ((i - 1 : Nat) : Int) < (l.length : Int) := by omega
   have c6 : Op.bytesLess (eAt l ((i - 1 : Nat) : Int)).f0.toList (eAt l (i : Int)).f0.toList = true := hp.2 (by omega)
   simp only [c3, w2.out, c4, c5, c6, if_true]
   exact hr
  ·simp only [c3, if_false]
   exact hr
 ·intro i hi hp
  have c1 : (i : Int) < (l.length : Int) := by omega
  have c2 : (0 : Int) ≤ (i : Int) := by omega
  apply Ev.succ
  simp only [impl_entriesOk.l0, c1, c2, if_true]
  refine Ev.bind (impl_entryOk_ev _ (sm i hi)) ?_
  cases hu : entB (eAt l (i : Int))
  ·simp only [Bool.false_eq_true, if_false]
   exact Ev.now _
  ·simp only [if_true]
   have c3 : (i : Int) > 0 := by
    by_cases c : (i : Int) > 0
    ·exact c
    ·exact absurd ⟨hu, fun h => absurd h (by omega)⟩ hp
   have w2 : Aside0 (wrap64 ((i : Int) - 1) = ((i - 1 : Nat) : Int)) := ⟨by rw [wid (by omega) (by simp [Small] at hl; omega)]; omega⟩
   have c4 : (0 : Int) ≤ ((i - 1 : Nat) : Int) := by omega
   have c5 : ((i - 1 : Nat) : Int) < (l.length : Int) := by omega
   have c6 : ¬ Op.bytesLess (eAt l ((i - 1 : Nat) : Int)).f0.toList (eAt l (i : Int)).f0.toList = true := fun c => hp ⟨hu, fun _ => c⟩
   simp only [c3, w2.out, c4, c5, c6, if_true, if_false]
   exact Ev.now _
 ·apply Ev.succ
  simp only [impl_entriesOk.l0, Int.lt_irrefl, if_false]
  refine Ev.cast (Ev.now _) ?_
  have a2 : ((l.length : Int) ≤ 24) ↔ l.length ≤ 24 := by omega
  simp [a2]
theorem same_iff (a b : Af) : ((a.f0.toList == b.f0.toList && (a.f1 == b.f1 && (a.f2.toList == b.f2.toList && (a.f3.toList == b.f3.toList && (a.f4.toList == b.f4.toList))))) = true) ↔ a = b := by
 simp only [Bool.and_eq_true, beq_iff_eq, toList_inj]
 constructor
 ·rintro ⟨h0, h1, h2, h3, h4⟩
  obtain ⟨_, _, _, _, _⟩ := a
  obtain ⟨_, _, _, _, _⟩ := b
  simp_all
 ·rintro rfl
  exact ⟨rfl, rfl, rfl, rfl, rfl⟩
def sameB (a b : Af) : Bool := (a.f0.toList == b.f0.toList && (a.f1 == b.f1 && (a.f2.toList == b.f2.toList && (a.f3.toList == b.f3.toList && (a.f4.toList == b.f4.toList)))))
theorem sameB_iff (a b : Af) : sameB a b = true ↔ a = b := same_iff a b
theorem sameB_comm (a b : Af) : sameB a b = sameB b a := by
 have h : sameB a b = true ↔ sameB b a = true := by rw [sameB_iff, sameB_iff]; exact eq_comm
 cases h1 : sameB a b <;> cases h2 : sameB b a
 ·rfl
 ·exact absurd (h.2 h2) (by rw [h1]; decide)
 ·exact absurd (h.1 h1) (by rw [h2]; decide)
 ·rfl
def noneP (l : List Af) (a : Af) (j : Nat) : Prop := sameB (aAt l (j : Int)) a = false
instance (l : List Af) (a : Af) (j : Nat) : Decidable (noneP l a j) := inferInstanceAs (Decidable (_ = _))
def hasA (l : List Af) (a : Af) : Bool := if ∀ j, j < l.length → noneP l a j then false else true
theorem contains_ev (l : List Af) (a : Af) (hl : Small l.length) : Ev (fun k => impl_Affix_134.f k l a.f0 a.f1 a.f2 a.f3 a.f4) (hasA l a) := by
 unfold impl_Affix_134.f impl_Affix_167.f
 have key := find_from (g := fun k x => impl_Affix_167.l0 k l (l.length : Int) x a.f0 a.f1 a.f2 a.f3 a.f4) l.length (noneP l a) (-1) (fun r => 0 ≤ r) ?_ ?_ ?_ l.length 0 (by omega) (by omega)
 ·rcases key with ⟨h1, h2⟩ | ⟨⟨j, h1, _, h3⟩, r, h4, h5⟩
  ·refine Ev.bind h2 (Ev.cast (Ev.now _) ?_)
   unfold hasA
   rw [if_pos (fun j hj => h1 j hj (Nat.zero_le _))]
   rfl
  ·refine Ev.bind h4 (Ev.cast (Ev.now _) ?_)
   unfold hasA
   rw [if_neg (fun h => h3 (h j h1))]
   exact decide_eq_true h5
 ·intro i r hi hp hr
  have c1 : (i : Int) < (l.length : Int) := by omega
  have c2 : (0 : Int) ≤ (i : Int) := by omega
  have w1 : Aside0 (wrap64 ((i : Int) + 1) = (i : Int) + 1) := ⟨wid (by omega) (by simp [Small] at hl; omega)⟩
  have c3 : ¬ sameB a (aAt l (i : Int)) = true := by rw [sameB_comm]; simp only [noneP] at hp; simp [hp]
  unfold sameB at c3
  apply Ev.succ
  simp only [impl_Affix_167.l0, c1, c2, w1.out, if_true]
  exact Ev.ifn c3 hr
 ·intro i hi hp
  have c1 : (i : Int) < (l.length : Int) := by omega
  have c2 : (0 : Int) ≤ (i : Int) := by omega
  have c3 : sameB a (aAt l (i : Int)) = true := by rw [sameB_comm]; simp only [noneP] at hp; simpa using hp
  unfold sameB at c3
  refine ⟨(i : Int), ?_, c2⟩
  apply Ev.succ
  simp only [impl_Affix_167.l0, c1, c2, if_true]
  exact Ev.ifp c3 (Ev.now _)
 ·apply Ev.succ
  simp only [impl_Affix_167.l0, Int.lt_irrefl, if_false]
  exact Ev.now _
def asP (l : List Af) (i : Nat) : Prop := affB (aAt l (i : Int)) = true ∧ ∀ j, j < i → sameB (aAt l (j : Int)) (aAt l (i : Int)) = false
instance (l : List Af) (j : Nat) : Decidable (asP l j) := inferInstanceAs (Decidable (_ ∧ _))
def asB (l : List Af) : Bool := if ∀ j, j < l.length → asP l j then decide (l.length ≤ 8) else false
theorem aAt_take (l : List Af) (i j : Nat) (h : j < i) : aAt (l.take i) (j : Int) = aAt l (j : Int) := by
 simp [aAt, rd_T103, List.getElem?_take, h]
theorem impl_affixesOk_ev (l : List Af) (hl : Small l.length) (h : ∀ a ∈ l, SmallA a) : Ev (fun k => impl_affixesOk.f k l) (asB l) := by
 unfold impl_affixesOk.f
 have sm : ∀ i : Nat, i < l.length → SmallA (aAt l (i : Int)) := fun i hi => by rw [aAt_nat l i hi]; exact h _ (List.getElem_mem hi)
 have hs : ∀ i : Nat, i ≤ l.length → hasA (l.take i) (aAt l (i : Int)) = (if ∀ j, j < i → sameB (aAt l (j : Int)) (aAt l (i : Int)) = false then false else true) := by
  intro i hi
  unfold hasA noneP
  have hz : (l.take i).length = i := by rw [List.length_take]; omega
  rw [hz]
  have e : (∀ j, j < i → sameB (aAt (l.take i) (j : Int)) (aAt l (i : Int)) = false) ↔ (∀ j, j < i → sameB (aAt l (j : Int)) (aAt l (i : Int)) = false) := ⟨fun h j hj => by rw [← aAt_take l i j hj]; exact h j hj, fun h j hj => by rw [aAt_take l i j hj]; exact h j hj⟩
  simp only [e]
 refine all_loop (g := fun k x => impl_affixesOk.l0 k l l (l.length : Int) x) l.length (asP l) false _ ?_ ?_ ?_
 ·intro i r hi hp hr
  have c1 : (i : Int) < (l.length : Int) := by omega
  have c2 : (0 : Int) ≤ (i : Int) := by omega
  have c3 : (i : Int) ≤ (l.length : Int) := by omega
  have e0 : (i : Int).toNat = i := by omega
  have w1 : Aside0 (wrap64 ((i : Int) + 1) = (i : Int) + 1) := ⟨wid (by omega) (by simp [Small] at hl; omega)⟩
  apply Ev.succ
  simp only [impl_affixesOk.l0, c1, c2, w1.out, if_true]
  refine Ev.bind (Ev.cast (impl_AffixOk_ev _ (sm i hi)) hp.1) ?_
  simp only [if_true, c3, e0]
  have hh := hs i (by omega)
  rw [if_pos hp.2] at hh
  refine Ev.bind (Ev.cast (contains_ev (l.take i) _ (by rw [List.length_take]; simp [Small] at hl ⊢; omega)) hh) ?_
  simp only [Bool.false_eq_true, if_false]
  exact hr
 ·intro i hi hp
  have c1 : (i : Int) < (l.length : Int) := by omega
  have c2 : (0 : Int) ≤ (i : Int) := by omega
  have c3 : (i : Int) ≤ (l.length : Int) := by omega
  have e0 : (i : Int).toNat = i := by omega
  apply Ev.succ
  simp only [impl_affixesOk.l0, c1, c2, if_true]
  refine Ev.bind (impl_AffixOk_ev _ (sm i hi)) ?_
  cases hu : affB (aAt l (i : Int))
  ·simp only [Bool.false_eq_true, if_false]
   exact Ev.now _
  ·simp only [if_true, c3, e0]
   have hh := hs i (by omega)
   rw [if_neg (fun c => hp ⟨hu, c⟩)] at hh
   refine Ev.bind (Ev.cast (contains_ev (l.take i) _ (by rw [List.length_take]; simp [Small] at hl ⊢; omega)) hh) ?_
   simp only [if_true]
   exact Ev.now _
 ·apply Ev.succ
  simp only [impl_affixesOk.l0, Int.lt_irrefl, if_false]
  refine Ev.cast (Ev.now _) ?_
  have a2 : ((l.length : Int) ≤ 8) ↔ l.length ≤ 8 := by omega
  simp [a2]
theorem spec_l2Affixes_ev (l : List Af) (hl : Small l.length) (h : ∀ a ∈ l, SmallA a) : Ev (fun k => spec_l2Affixes.f k l) (asB l) := by
 unfold spec_l2Affixes.f
 have sm : ∀ i : Nat, i < l.length → SmallA (aAt l (i : Int)) := fun i hi => by rw [aAt_nat l i hi]; exact h _ (List.getElem_mem hi)
 have inner : ∀ (i : Nat) (r : Bool), i < l.length → Ev (fun k => spec_l2Affixes.l0 k l ((i : Int) + 1)) r → Ev (fun k => spec_l2Affixes.l1 k l (i : Int) 0) (if ∀ j, j < i → sameB (aAt l (j : Int)) (aAt l (i : Int)) = false then r else false) := by
  intro i r hi hr
  have d1 : (i : Int) < (l.length : Int) := by omega
  have d2 : (0 : Int) ≤ (i : Int) := by omega
  refine all_loop (g := fun k x => spec_l2Affixes.l1 k l (i : Int) x) i (fun j => sameB (aAt l (j : Int)) (aAt l (i : Int)) = false) false r ?_ ?_ ?_
  ·intro j r hj hp hr
   have c1 : (j : Int) < (i : Int) := by omega
   have c2 : (0 : Int) ≤ (j : Int) := by omega
   have c3 : (j : Int) < (l.length : Int) := by omega
   have w1 : Aside0 (wrap64 ((j : Int) + 1) = (j : Int) + 1) := ⟨wid (by omega) (by simp [Small] at hl; omega)⟩
   have c4 : ¬ sameB (aAt l (j : Int)) (aAt l (i : Int)) = true := by simp [hp]
   unfold sameB at c4
   apply Ev.succ
   simp only [spec_l2Affixes.l1, c1, c2, c3, d1, d2, w1.out, if_true]
   exact Ev.ifn c4 hr
  ·intro j hj hp
   have c1 : (j : Int) < (i : Int) := by omega
   have c2 : (0 : Int) ≤ (j : Int) := by omega
   have c3 : (j : Int) < (l.length : Int) := by omega
   have c4 : sameB (aAt l (j : Int)) (aAt l (i : Int)) = true := by simpa using hp
   unfold sameB at c4
   apply Ev.succ
   simp only [spec_l2Affixes.l1, c1, c2, c3, d1, d2, if_true]
   exact Ev.ifp c4 (Ev.now _)
  ·have w1 : Aside0 (wrap64 ((i : Int) + 1) = (i : Int) + 1) := ⟨wid (by omega) (by simp [Small] at hl; omega)⟩
   apply Ev.succ
   simp only [spec_l2Affixes.l1, Int.lt_irrefl, w1.out, if_false]
   exact hr
 refine all_loop (g := fun k x => spec_l2Affixes.l0 k l x) l.length (asP l) false _ ?_ ?_ ?_
 ·intro i r hi hp hr
  have c1 : (i : Int) < (l.length : Int) := by omega
  have c2 : (0 : Int) ≤ (i : Int) := by omega
  apply Ev.succ
  simp only [spec_l2Affixes.l0, c1, c2, if_true]
  refine Ev.bind (Ev.cast (spec_AffixOk_ev _ (sm i hi)) hp.1) ?_
  simp only [if_true]
  refine Ev.cast (inner i r hi hr) ?_
  rw [if_pos hp.2]
 ·intro i hi hp
  have c1 : (i : Int) < (l.length : Int) := by omega
  have c2 : (0 : Int) ≤ (i : Int) := by omega
  apply Ev.succ
  simp only [spec_l2Affixes.l0, c1, c2, if_true]
  refine Ev.bind (spec_AffixOk_ev _ (sm i hi)) ?_
  cases hu : affB (aAt l (i : Int))
  ·simp only [Bool.false_eq_true, if_false]
   exact Ev.now _
  ·simp only [if_true]
   obtain ⟨j, hj, hs⟩ : ∃ j, j < i ∧ sameB (aAt l (j : Int)) (aAt l (i : Int)) = true := by
    by_cases c : ∃ j, j < i ∧ sameB (aAt l (j : Int)) (aAt l (i : Int)) = true
    ·exact c
    ·refine absurd ⟨hu, fun j hj => ?_⟩ hp
     cases hs : sameB (aAt l (j : Int)) (aAt l (i : Int))
     ·rfl
     ·exact absurd ⟨j, hj, hs⟩ c
   have d1 : (i : Int) < (l.length : Int) := by omega
   have d2 : (0 : Int) ≤ (i : Int) := by omega
   refine stop_loop (g := fun k x => spec_l2Affixes.l1 k l (i : Int) x) i (fun j => sameB (aAt l (j : Int)) (aAt l (i : Int)) = false) false j hj (by simp [hs]) ?_ ?_
   ·intro j r hj hp hr
    have c1 : (j : Int) < (i : Int) := by omega
    have c2 : (0 : Int) ≤ (j : Int) := by omega
    have c3 : (j : Int) < (l.length : Int) := by omega
    have w1 : Aside0 (wrap64 ((j : Int) + 1) = (j : Int) + 1) := ⟨wid (by omega) (by simp [Small] at hl; omega)⟩
    have c4 : ¬ sameB (aAt l (j : Int)) (aAt l (i : Int)) = true := by simp [hp]
    unfold sameB at c4
    apply Ev.succ
    simp only [spec_l2Affixes.l1, c1, c2, c3, d1, d2, w1.out, if_true]
    exact Ev.ifn c4 hr
   ·intro j hj hp
    have c1 : (j : Int) < (i : Int) := by omega
    have c2 : (0 : Int) ≤ (j : Int) := by omega
    have c3 : (j : Int) < (l.length : Int) := by omega
    have c4 : sameB (aAt l (j : Int)) (aAt l (i : Int)) = true := by simpa using hp
    unfold sameB at c4
    apply Ev.succ
    simp only [spec_l2Affixes.l1, c1, c2, c3, d1, d2, if_true]
    exact Ev.ifp c4 (Ev.now _)
 ·apply Ev.succ
  simp only [spec_l2Affixes.l0, Int.lt_irrefl, if_false]
  refine Ev.cast (Ev.now _) ?_
  have a2 : ((l.length : Int) ≤ 8) ↔ l.length ≤ 8 := by omega
  simp [a2]
theorem spec_BookOk_ev (la : List Af) (l : List En) (ha : Small la.length) (ha' : ∀ a ∈ la, SmallA a) (hl : Small l.length) (h : ∀ e ∈ l, SmallE e) : Ev (fun k => spec_BookOk.f k la l) (esB l && asB la) := by
 unfold spec_BookOk.f
 have sm : ∀ i : Nat, i < l.length → SmallE (eAt l (i : Int)) := fun i hi => by rw [eAt_nat l i hi]; exact h _ (List.getElem_mem hi)
 have key := all_loop (g := fun k x => spec_BookOk.l0 k x la l) l.length (esP l) false (asB la && decide (l.length ≤ 24)) ?_ ?_ ?_
 ·refine Ev.cast key ?_
  unfold esB
  split
  ·rw [Bool.and_comm]
  ·rfl
 ·intro i r hi hp hr
  have c1 : (i : Int) < (l.length : Int) := by omega
  have c2 : (0 : Int) ≤ (i : Int) := by omega
  have w1 : Aside0 (wrap64 ((i : Int) + 1) = (i : Int) + 1) := ⟨wid (by omega) (by simp [Small] at hl; omega)⟩
  apply Ev.succ
  simp only [spec_BookOk.l0, c1, c2, w1.out, if_true]
  refine Ev.bind (Ev.cast (spec_l2Entry_ev _ (sm i hi)) hp.1) ?_
  simp only [if_true]
  by_cases c3 : (i : Int) > 0
  ·have w2 : Aside0 (wrap64 ((i : Int) - 1) = ((i - 1 : Nat) : Int)) := ⟨by rw [wid (by omega) (by simp [Small] at hl; omega)]; omega⟩
   have c4 : (0 : Int) ≤ ((i - 1 : Nat) : Int) := by omega
   have c5 : ((i - 1 : Nat) : Int) < (l.length : Int) := by omega
   have c6 : Op.bytesLess (eAt l ((i - 1 : Nat) : Int)).f0.toList (eAt l (i : Int)).f0.toList = true := hp.2 (by omega)
   simp only [c3, w2.out, c4, c5, c6, if_true]
   exact hr
  ·simp only [c3, if_false]
   exact hr
 ·intro i hi hp
  have c1 : (i : Int) < (l.length : Int) := by omega
  have c2 : (0 : Int) ≤ (i : Int) := by omega
  apply Ev.succ
  simp only [spec_BookOk.l0, c1, c2, if_true]
  refine Ev.bind (spec_l2Entry_ev _ (sm i hi)) ?_
  cases hu : entB (eAt l (i : Int))
  ·simp only [Bool.false_eq_true, if_false]
   exact Ev.now _
  ·simp only [if_true]
   have c3 : (i : Int) > 0 := by
    by_cases c : (i : Int) > 0
    ·exact c
    ·exact absurd ⟨hu, fun h => absurd h (by omega)⟩ hp
   have w2 : Aside0 (wrap64 ((i : Int) - 1) = ((i - 1 : Nat) : Int)) := ⟨by rw [wid (by omega) (by simp [Small] at hl; omega)]; omega⟩
   have c4 : (0 : Int) ≤ ((i - 1 : Nat) : Int) := by omega
   have c5 : ((i - 1 : Nat) : Int) < (l.length : Int) := by omega
   have c6 : ¬ Op.bytesLess (eAt l ((i - 1 : Nat) : Int)).f0.toList (eAt l (i : Int)).f0.toList = true := fun c => hp ⟨hu, fun _ => c⟩
   simp only [c3, w2.out, c4, c5, c6, if_true, if_false]
   exact Ev.now _
 ·apply Ev.succ
  simp only [spec_BookOk.l0, Int.lt_irrefl, if_false]
  refine Ev.bind (spec_l2Affixes_ev la ha ha') ?_
  exact Ev.congr (fun _ => tail_cast _ _ 24) (Ev.now _)
theorem asB_nil : asB [] = true := rfl
theorem spec_l5Entries_ev (l : List En) (hl : Small l.length) (h : ∀ e ∈ l, SmallE e) : Ev (fun k => spec_l5Entries.f k l) (esB l) := by
 unfold spec_l5Entries.f
 refine Ev.bind (spec_BookOk_ev [] l (by decide) (fun a ha => by cases ha) hl h) (Ev.cast (Ev.now _) ?_)
 rw [asB_nil, Bool.and_true]
def freeP (c : List En) (s : ByteArray) : Prop := ∀ j, j < c.length → ¬ (eAt c (j : Int)).f0.toList = s.toList
instance (c : List En) (s : ByteArray) : Decidable (freeP c s) := inferInstanceAs (Decidable (∀ _, _ → _))
def goP (g : List ByteArray) (c : List En) (i : Nat) : Prop := freeP c (rdOf ByteArray.empty g (i : Int))
instance (g : List ByteArray) (c : List En) (i : Nat) : Decidable (goP g c i) := inferInstanceAs (Decidable (freeP _ _))
def dB (g : List ByteArray) (c : List En) (a : Bool) (l : List Af) : Bool := wsB g 24 && (esB c && (asB l && ((a || decide (l.length = 0)) && (if ∀ i, i < g.length → goP g c i then true else false))))
structure SmallD (g : List ByteArray) (c : List En) (l : List Af) : Prop where
 g1 : Small g.length
 g2 : ∀ s ∈ g, Small s.size
 c1 : Small c.length
 c2 : ∀ e ∈ c, SmallE e
 l1 : Small l.length
 l2 : ∀ a ∈ l, SmallA a
theorem idxFrom_free (s : ByteArray) : ∀ (c : List En) (m : Nat), 0 ≤ Lib.idxByFrom (fun _ y => y.f0.toList == s.toList) (default : En) c m ↔ ∃ e ∈ c, e.f0.toList = s.toList
 | [], m => by simp [Lib.idxByFrom]
 | e :: c, m => by
  unfold Lib.idxByFrom
  by_cases h : e.f0.toList = s.toList
  ·rw [if_pos (by simpa using h)]
   exact ⟨fun _ => ⟨e, List.mem_cons_self, h⟩, fun _ => by omega⟩
  ·rw [if_neg (by simpa using h), idxFrom_free s c (m + 1)]
   simp [h]
theorem idxE_free (c : List En) (s : ByteArray) : ¬ idxE c s ≥ 0 ↔ freeP c s := by
 have h := idxFrom_free s c 0
 unfold idxE Lib.idxBy freeP
 constructor
 ·intro hn j hj he
  rw [eAt_nat c j hj] at he
  exact hn (h.2 ⟨c[j], List.getElem_mem hj, he⟩)
 ·intro hf hg
  obtain ⟨e, he, hs⟩ := h.1 hg
  obtain ⟨j, hj, rfl⟩ := List.getElem_of_mem he
  exact hf j hj (by rw [eAt_nat c j hj]; exact hs)
theorem impl_DeltaOk_ev (g : List ByteArray) (c : List En) (a : Bool) (l : List Af) (h : SmallD g c l) : Ev (fun k => impl_DeltaOk.f k g c a l) (dB g c a l) := by
 have no : Ev (fun k => impl_DeltaOk.j0 k true g c a l) false := by
  apply Ev.succ
  simp only [impl_DeltaOk.j0, if_true]
  exact Ev.now _
 have yes : Ev (fun k => impl_DeltaOk.j0 k false g c a l) (if ∀ i, i < g.length → goP g c i then true else false) := by
  apply Ev.succ
  simp only [impl_DeltaOk.j0, Bool.false_eq_true, if_false]
  refine all_loop (g := fun k x => impl_DeltaOk.l0 k g (g.length : Int) x g c a l) g.length (goP g c) false true ?_ ?_ ?_
  ·intro i r hi hp hr
   have c1 : (i : Int) < (g.length : Int) := by omega
   have c2 : (0 : Int) ≤ (i : Int) := by omega
   have w1 : Aside0 (wrap64 ((i : Int) + 1) = (i : Int) + 1) := ⟨wid (by omega) (by have := h.g1; simp [Small] at this; omega)⟩
   apply Ev.succ
   simp only [impl_DeltaOk.l0, c1, c2, w1.out, impl_entryAt.f, Option.bind_some, if_true]
   exact Ev.ifn ((idxE_free _ _).2 hp) hr
  ·intro i hi hp
   have c1 : (i : Int) < (g.length : Int) := by omega
   have c2 : (0 : Int) ≤ (i : Int) := by omega
   apply Ev.succ
   simp only [impl_DeltaOk.l0, c1, c2, impl_entryAt.f, Option.bind_some, if_true]
   exact Ev.ifp (Decidable.of_not_not (fun hn => hp ((idxE_free _ _).1 hn))) (Ev.now _)
  ·apply Ev.succ
   simp only [impl_DeltaOk.l0, Int.lt_irrefl, if_false]
   exact Ev.now _
 unfold impl_DeltaOk.f dB
 refine Ev.bind (impl_wordsOk_ev g 24 h.g1 h.g2) ?_
 cases wsB g 24
 ·simp only [Bool.false_eq_true, if_false, Bool.false_and]; exact no
 simp only [if_true, Bool.true_and]
 refine Ev.bind (impl_entriesOk_ev c h.c1 h.c2) ?_
 cases esB c
 ·simp only [Bool.false_eq_true, if_false, Bool.false_and]; exact no
 simp only [if_true, Bool.true_and]
 refine Ev.bind (impl_affixesOk_ev l h.l1 h.l2) ?_
 cases asB l
 ·simp only [Bool.false_eq_true, if_false, Bool.false_and]; exact no
 simp only [if_true, Bool.true_and]
 cases a
 ·simp only [Bool.false_eq_true, if_false, Bool.false_or]
  by_cases hz : l.length = 0
  ·have hz' : ¬ (l.length : Int) > 0 := by omega
   simp only [hz, hz', decide_true, decide_false, Bool.true_and]
   exact yes
  ·have hz' : (l.length : Int) > 0 := by omega
   simp only [hz, hz', decide_true, decide_false, Bool.false_and]
   exact no
 ·simp only [if_true, Bool.true_or, Bool.true_and]
  exact yes
theorem spec_DeltaOk_ev (g : List ByteArray) (c : List En) (a : Bool) (l : List Af) (h : SmallD g c l) : Ev (fun k => spec_DeltaOk.f k g c a l) (dB g c a l) := by
 have hg := h.g1
 have hc := h.c1
 have sm : ∀ i : Nat, i < g.length → Small (rdOf ByteArray.empty g (i : Int)).size := fun i hi => by rw [sAt_nat g i hi]; exact h.g2 _ (List.getElem_mem hi)
 have no : ∀ x : Int, Ev (fun k => spec_DeltaOk.j1 k x true g c a l) false := fun x => by
  apply Ev.succ
  simp only [spec_DeltaOk.j1, if_true]
  exact Ev.now _
 have inY : ∀ (i : Nat) (r : Bool), i < g.length → goP g c i → Ev (fun k => spec_DeltaOk.l0 k ((i : Int) + 1) g c a l) r → Ev (fun k => spec_DeltaOk.j1 k (i : Int) false g c a l) r := by
  intro i r hi hp hr
  have d1 : (i : Int) < (g.length : Int) := by omega
  have d2 : (0 : Int) ≤ (i : Int) := by omega
  apply Ev.succ
  simp only [spec_DeltaOk.j1, Bool.false_eq_true, if_false]
  have key := all_loop (g := fun k x => spec_DeltaOk.l1 k (i : Int) x g c a l) c.length (fun j => ¬ (eAt c (j : Int)).f0.toList = (rdOf ByteArray.empty g (i : Int)).toList) false r ?_ ?_ ?_
  ·have hp' : ∀ j, j < c.length → ¬ (eAt c (j : Int)).f0.toList = (rdOf ByteArray.empty g (i : Int)).toList := hp
   rwa [if_pos hp'] at key
  ·intro j r hj hq hr
   have c1 : (j : Int) < (c.length : Int) := by omega
   have c2 : (0 : Int) ≤ (j : Int) := by omega
   have w1 : Aside0 (wrap64 ((j : Int) + 1) = (j : Int) + 1) := ⟨wid (by omega) (by simp [Small] at hc; omega)⟩
   apply Ev.succ
   simp only [spec_DeltaOk.l1, c1, c2, d1, d2, w1.out, if_true]
   exact Ev.ifn hq hr
  ·intro j hj hq
   have c1 : (j : Int) < (c.length : Int) := by omega
   have c2 : (0 : Int) ≤ (j : Int) := by omega
   apply Ev.succ
   simp only [spec_DeltaOk.l1, c1, c2, d1, d2, if_true]
   exact Ev.ifp (Decidable.of_not_not hq) (Ev.now _)
  ·have w1 : Aside0 (wrap64 ((i : Int) + 1) = (i : Int) + 1) := ⟨wid (by omega) (by simp [Small] at hg; omega)⟩
   apply Ev.succ
   simp only [spec_DeltaOk.l1, Int.lt_irrefl, w1.out, if_false]
   exact hr
 have inN : ∀ (i : Nat), i < g.length → ¬ goP g c i → Ev (fun k => spec_DeltaOk.j1 k (i : Int) false g c a l) false := by
  intro i hi hp
  have d1 : (i : Int) < (g.length : Int) := by omega
  have d2 : (0 : Int) ≤ (i : Int) := by omega
  obtain ⟨j, hj, he⟩ : ∃ j, j < c.length ∧ (eAt c (j : Int)).f0.toList = (rdOf ByteArray.empty g (i : Int)).toList := by
   by_cases z : ∃ j, j < c.length ∧ (eAt c (j : Int)).f0.toList = (rdOf ByteArray.empty g (i : Int)).toList
   ·exact z
   ·exact absurd (fun j hj he => z ⟨j, hj, he⟩) hp
  apply Ev.succ
  simp only [spec_DeltaOk.j1, Bool.false_eq_true, if_false]
  refine stop_loop (g := fun k x => spec_DeltaOk.l1 k (i : Int) x g c a l) c.length (fun j => ¬ (eAt c (j : Int)).f0.toList = (rdOf ByteArray.empty g (i : Int)).toList) false j hj (fun hn => hn he) ?_ ?_
  ·intro j r hj hq hr
   have c1 : (j : Int) < (c.length : Int) := by omega
   have c2 : (0 : Int) ≤ (j : Int) := by omega
   have w1 : Aside0 (wrap64 ((j : Int) + 1) = (j : Int) + 1) := ⟨wid (by omega) (by simp [Small] at hc; omega)⟩
   apply Ev.succ
   simp only [spec_DeltaOk.l1, c1, c2, d1, d2, w1.out, if_true]
   exact Ev.ifn hq hr
  ·intro j hj hq
   have c1 : (j : Int) < (c.length : Int) := by omega
   have c2 : (0 : Int) ≤ (j : Int) := by omega
   apply Ev.succ
   simp only [spec_DeltaOk.l1, c1, c2, d1, d2, if_true]
   exact Ev.ifp (Decidable.of_not_not hq) (Ev.now _)
 have key := all_loop (g := fun k x => spec_DeltaOk.l0 k x g c a l) g.length (fun i => wsP g i ∧ goP g c i) false (decide (g.length ≤ 24) && (esB c && (asB l && (a || decide (l.length = 0))))) ?_ ?_ ?_
 ·unfold spec_DeltaOk.f
  refine Ev.cast key ?_
  unfold dB wsB
  by_cases h1 : ∀ i, i < g.length → wsP g i
  ·by_cases h2 : ∀ i, i < g.length → goP g c i
   ·rw [if_pos (fun i hi => ⟨h1 i hi, h2 i hi⟩), if_pos h1, if_pos h2, Bool.and_true]
   ·rw [if_neg (fun z => h2 (fun i hi => (z i hi).2)), if_neg h2]
    simp
  ·rw [if_neg (fun z => h1 (fun i hi => (z i hi).1)), if_neg h1]
   rfl
 ·intro i r hi hp hr
  have c1 : (i : Int) < (g.length : Int) := by omega
  have c2 : (0 : Int) ≤ (i : Int) := by omega
  apply Ev.succ
  simp only [spec_DeltaOk.l0, c1, c2, if_true]
  refine Ev.bind (Ev.cast (spec_l1Word_ev _ (sm i hi)) hp.1.1) ?_
  simp only [if_true]
  by_cases c3 : (i : Int) > 0
  ·have w2 : Aside0 (wrap64 ((i : Int) - 1) = ((i - 1 : Nat) : Int)) := ⟨by rw [wid (by omega) (by simp [Small] at hg; omega)]; omega⟩
   have c4 : (0 : Int) ≤ ((i - 1 : Nat) : Int) := by omega
   have c5 : ((i - 1 : Nat) : Int) < (g.length : Int) := by omega
   have c6 : Op.bytesLess (rdOf ByteArray.empty g ((i - 1 : Nat) : Int)).toList (rdOf ByteArray.empty g (i : Int)).toList = true := hp.1.2 (by omega)
   simp only [c3, w2.out, c4, c5, c6, if_true, Bool.not_true]
   exact inY i r hi hp.2 hr
  ·simp only [c3, if_false]
   exact inY i r hi hp.2 hr
 ·intro i hi hp
  have c1 : (i : Int) < (g.length : Int) := by omega
  have c2 : (0 : Int) ≤ (i : Int) := by omega
  apply Ev.succ
  simp only [spec_DeltaOk.l0, c1, c2, if_true]
  refine Ev.bind (spec_l1Word_ev _ (sm i hi)) ?_
  cases hu : wordB (rdOf ByteArray.empty g (i : Int))
  ·simp only [Bool.false_eq_true, if_false]
   exact no _
  ·simp only [if_true]
   by_cases c3 : (i : Int) > 0
   ·have w2 : Aside0 (wrap64 ((i : Int) - 1) = ((i - 1 : Nat) : Int)) := ⟨by rw [wid (by omega) (by simp [Small] at hg; omega)]; omega⟩
    have c4 : (0 : Int) ≤ ((i - 1 : Nat) : Int) := by omega
    have c5 : ((i - 1 : Nat) : Int) < (g.length : Int) := by omega
    simp only [c3, w2.out, c4, c5, if_true]
    cases c6 : Op.bytesLess (rdOf ByteArray.empty g ((i - 1 : Nat) : Int)).toList (rdOf ByteArray.empty g (i : Int)).toList
    ·simp only [Bool.not_false]
     exact no _
    ·simp only [Bool.not_true]
     exact inN i hi (fun hq => hp ⟨⟨hu, fun _ => c6⟩, hq⟩)
   ·simp only [c3, if_false]
    exact inN i hi (fun hq => hp ⟨⟨hu, fun h => absurd h (by omega)⟩, hq⟩)
 ·apply Ev.succ
  simp only [spec_DeltaOk.l0, Int.lt_irrefl, if_false]
  by_cases c1 : (g.length : Int) ≤ 24
  ·have c2 : g.length ≤ 24 := by omega
   simp only [c1, if_true, c2, decide_true, Bool.true_and]
   refine Ev.bind (spec_l5Entries_ev c h.c1 h.c2) ?_
   cases esB c
   ·simp only [Bool.false_eq_true, if_false, Bool.false_and]; exact Ev.now _
   simp only [if_true, Bool.true_and]
   refine Ev.bind (spec_l2Affixes_ev l h.l1 h.l2) ?_
   cases asB l
   ·simp only [Bool.false_eq_true, if_false, Bool.false_and]; exact Ev.now _
   simp only [if_true, Bool.true_and]
   cases a
   ·simp only [Bool.false_eq_true, if_false, Bool.false_or]
    refine Ev.cast (Ev.now _) ?_
    have : ((l.length : Int) == 0) = decide (l.length = 0) := by
     by_cases z : l.length = 0 <;> simp [z]
    exact this
   ·simp only [if_true, Bool.true_or]
    exact Ev.now _
  ·have c2 : ¬ g.length ≤ 24 := by omega
   simp only [c1, if_false, c2, decide_false, Bool.false_and]
   exact Ev.now _
end Go.Proofs.YtaakfmpffhfaeaaGreatDoor.M
end

section
/- Bytes as lists, and a text cut at each of a byte: lists alone. -/
namespace Go.Proofs.YtaakfmpffhfaeaaGreatDoor.M
open Go.RowKit Go.Proofs.YtaakfmpffhfaeaaGreatDoorW.PrintWords Go.Proofs.YtaakfmpffhfaeaaGreatDoor.Pu
set_option linter.unusedVariables false
set_option linter.unusedSimpArgs false
abbrev By := List UInt8
abbrev L (s : ByteArray) : By := s.data.toList
abbrev mk (l : By) : ByteArray := ⟨l.toArray⟩
theorem mk_L (s : ByteArray) : mk (L s) = s := Lib.mk_data s
theorem L_mk (l : By) : L (mk l) = l := rfl
theorem toList_L (s : ByteArray) : s.toList = L s := ByteArray.toList_eq s
theorem L_inj {a b : ByteArray} : L a = L b ↔ a = b := by rw [← toList_L, ← toList_L, toList_inj]
theorem size_L (s : ByteArray) : s.size = (L s).length := Lib.size_eq s
theorem L_append (a b : ByteArray) : L (a ++ b) = L a ++ L b := by simp [L, ByteArray.data_append]
theorem bt_L (s : ByteArray) (i : Nat) (h : i < (L s).length) : bt s (i : Int) = (((L s)[i]).toNat : Int) := by
 rw [bt_nat, dif_pos (by rw [size_L]; exact h)]
 rfl
def pre (p : By) : List By → List By
 | [] => [p]
 | q :: qs => (p ++ q) :: qs
def cut (c : UInt8) : By → List By
 | [] => [[]]
 | b :: l => if b = c then [] :: cut c l else pre [b] (cut c l)
end Go.Proofs.YtaakfmpffhfaeaaGreatDoor.M
end
