import Derived.Test.YtaakfmpffhfaeaaGreatDoorBExactReleaseOkx2
import Derived.Test.YtaakfmpffhfaeaaGreatDoorBExactReleaseOkx3
import Derived.Test.YtaakfmpffhfaeaaGreatDoorBExactReleaseOkx1

section
namespace Go.Proofs.YtaakfmpffhfaeaaGreatDoor.M
open Go.RowKit Go.Proofs.YtaakfmpffhfaeaaGreatDoorW.PrintWords Go.Proofs.YtaakfmpffhfaeaaGreatDoorW.PrintLast Go.Proofs.YtaakfmpffhfaeaaGreatDoorW.PrintMore Go.Proofs.YtaakfmpffhfaeaaGreatDoor.Sq
set_option synthInstance.maxHeartbeats 2000000
set_option synthInstance.maxSize 4096
attribute [local go_sem] max2_int min2_int max_two min_two max_three min_three max_four min_four
set_option linter.unusedVariables false
set_option linter.unusedSimpArgs false
set_option maxHeartbeats 8000000
set_option maxRecDepth 100000
theorem gf63 : Go_ Tryz.prog 63 Tryz.f63 := ⟨Tryz.func63, by kernel_rfl, rfl⟩
def laws_szStringS.l0 : Nat → List ByteArray → Int → Int → Option (Int)
 | 0, _, _, _ => none
 | k + 1, x0, x1, x5 => if x5 < (x0.length : Int) then (if 0 ≤ x5 then (if (wrap64 (x1 - ((rdOf ByteArray.empty x0 x5).size : Int))) < 0 then (some (-1)) else (laws_szStringS.l0 k x0 (wrap64 (x1 - ((rdOf ByteArray.empty x0 x5).size : Int))) (wrap64 (x5 + 1)))) else (none)) else (some x1)
def laws_szStringS.f (k : Nat) (l0 : List ByteArray) (a1 : Int) : Option (Int) := if (wrap64 (a1 - (l0.length : Int))) < 0 then (some (-1)) else (laws_szStringS.l0 k l0 (wrap64 (a1 - (l0.length : Int))) 0)
theorem laws_szStringS.mono_l : ∀ k, (∀ y0 y1 y2, LeO (laws_szStringS.l0 k y0 y1 y2) (laws_szStringS.l0 (k + 1) y0 y1 y2))
 | 0 => fun _ _ _ r h => by simp [laws_szStringS.l0] at h
 | k + 1 => by
  have ih0 := laws_szStringS.mono_l k
  ·intro y0 y1 y2
   unfold laws_szStringS.l0
   have I0_ := fun a b c => LeC.mk (ih0 a b c)
   exact LeC.out
theorem laws_szStringS.mono : ∀ a0 a1 k, LeO (laws_szStringS.f k a0 a1) (laws_szStringS.f (k + 1) a0 a1) := by
 intro a0 a1 k
 have ih0 := laws_szStringS.mono_l k
 unfold laws_szStringS.f
 have I0_ := fun a b c => LeC.mk (ih0 a b c)
 exact LeC.out
theorem laws_szStringS.calls (k : Nat) (A0 : Option Addr) (c0 : Nat) (l0 : List ByteArray) (a1 : Int) (r : Int) (w : World) (hr0 : Kd.C Kd.string w A0 l0.length l0) (hc0 : l0.length ≤ c0) (h : laws_szStringS.f k l0 a1 = some r) :
  Calls Tryz.prog 63 #[.slice A0 l0.length c0, .int .i64 a1] w fun e w' => e = .returned (.int .i64 r) ∧ Drawn0 w w' := by
 have HR0 := Aside0.mk hr0
 have HC0 := Aside0.mk hc0
 clear hr0 hc0
 unfold laws_szStringS.f at h
 have H := h
 clear h
 by_cases c3 : (wrap64 (a1 - (l0.length : Int))) < 0
 ·rw [if_pos c3] at H
  have c3b0 := decide_eq_true c3
  clear c3
  obtain rfl := Option.some.inj H
  go_enter Tryz.func63, Tryz.ntmps63
  go_wp2
  go_ret
  exact ⟨by first | rfl | (simp; done) | (simp [*]; done), by repeat (first | exact Drawn0.refl _ | apply Drawn0.step)⟩
 ·rw [if_neg c3] at H
  have c3b0 := decide_eq_false c3
  clear c3
  have H' := Aside0.mk H
  clear H
  go_enter Tryz.func63, Tryz.ntmps63
  go_wp2
  go_loopg [1, 5] k (fun kq v1 v5 w' => ∃ (x1_1 : Int) (x5_1 : Int), v1 = .int .i64 x1_1 ∧ v5 = .int .i64 x5_1 ∧ Aside0 (laws_szStringS.l0 kq l0 x1_1 x5_1 = some r) ∧ Aside0 (kq ≤ k) ∧ Drawn0 w w')
  case atStart => exact ⟨(wrap64 (a1 - (l0.length : Int))), (0), (by first | rfl | (simp; done) | (simp [*]; done)), (by first | rfl | (simp; done) | (simp [*]; done)), H', ⟨Nat.le_refl _⟩, by repeat (first | exact Drawn0.refl _ | apply Drawn0.step)⟩
  case round =>
   clear H'
   try clear p2
   try clear c3
   try clear c3b0
   obtain ⟨x1_1, x5_1, rfl, rfl, HA, HK1, ⟨m1, rfl⟩⟩ := hrel
   cases gk with
   | zero => exact absurd HA.out (by simp [laws_szStringS.l0])
   | succ k1 =>
    have H := HA.out
    clear HA
    simp only [laws_szStringS.l0] at H
    by_cases c4 : x5_1 < (l0.length : Int)
    ·rw [if_pos c4] at H
     have c4b0 := decide_eq_true c4
     clear c4
     have c5 := ite_y H
     replace H := ite_t H
     have c5b0 := decide_eq_true c5
     clear c5
     by_cases c6 : (wrap64 (x1_1 - ((rdOf ByteArray.empty l0 x5_1).size : Int))) < 0
     ·rw [if_pos c6] at H
      have c6b0 := decide_eq_true c6
      clear c6
      obtain rfl := Option.some.inj H
      have p101 := of_decide_eq_true c5b0
      have q101 := of_decide_eq_true c4b0
      obtain ⟨ad101, e101, hx101_0⟩ := Kd.at_string HR0.out x5_1 p101 q101
      cases e101
      replace p101 := eq_true p101
      replace q101 := eq_true q101
      go_wp2
      go_ret
      exact ⟨by first | rfl | (simp; done) | (simp [*]; done), by repeat (first | exact Drawn0.refl _ | apply Drawn0.step)⟩
     ·rw [if_neg c6] at H
      have c6b0 := decide_eq_false c6
      clear c6
      have H' := Aside0.mk H
      clear H
      have p101 := of_decide_eq_true c5b0
      have q101 := of_decide_eq_true c4b0
      obtain ⟨ad101, e101, hx101_0⟩ := Kd.at_string HR0.out x5_1 p101 q101
      cases e101
      replace p101 := eq_true p101
      replace q101 := eq_true q101
      go_wp2
      go_roundg k1
      case measure => have := HK1.out; omega
      case rel => exact ⟨(wrap64 (x1_1 - ((rdOf ByteArray.empty l0 x5_1).size : Int))), (wrap64 (x5_1 + 1)), (by first | rfl | (simp; done) | (simp [*]; done)), (by first | rfl | (simp; done) | (simp [*]; done)), H', ⟨by have := HK1.out; omega⟩, by repeat (first | exact Drawn0.refl _ | apply Drawn0.step)⟩
    ·rw [if_neg c4] at H
     have c4b0 := decide_eq_false c4
     clear c4
     obtain rfl := Option.some.inj H
     go_wp2
     go_ret
     exact ⟨by first | rfl | (simp; done) | (simp [*]; done), by repeat (first | exact Drawn0.refl _ | apply Drawn0.step)⟩
theorem gf24 : Go_ Tryz.prog 24 Tryz.f24 := ⟨Tryz.func24, by kernel_rfl, rfl⟩
def laws_szDelta.f (k : Nat) (l0_0 : List ByteArray) (l0_1 : List (S108)) (a0_2 : Bool) (l0_3 : List (S106)) (a1 : Int) : Option (Int) := (laws_szStringS.f k l0_0 a1).bind fun t102 => (if t102 < 0 then (some (-1)) else ((laws_szEntryS.f k l0_1 t102).bind fun t103 => (if t103 < 0 then (some (-1)) else ((laws_szAffixS.f k l0_3 t103).bind fun t104 => (if t104 < 0 then (some (-1)) else (some t104))))))
theorem laws_szDelta.mono : ∀ a0 a1 a2 a3 a4 k, LeO (laws_szDelta.f k a0 a1 a2 a3 a4) (laws_szDelta.f (k + 1) a0 a1 a2 a3 a4) := by
 intro a0 a1 a2 a3 a4 k
 unfold laws_szDelta.f
 have I0_ := fun a b c => LeC.mk (laws_szAffixS.mono a b c)
 have I1_ := fun a b c => LeC.mk (laws_szEntryS.mono a b c)
 have I2_ := fun a b c => LeC.mk (laws_szStringS.mono a b c)
 exact LeC.out
theorem laws_szDelta.calls (k : Nat) (A0_0 : Option Addr) (c0_0 : Nat) (l0_0 : List ByteArray) (A0_1 : Option Addr) (c0_1 : Nat) (l0_1 : List (S108)) (a0_2 : Bool) (A0_3 : Option Addr) (c0_3 : Nat) (l0_3 : List (S106)) (a1 : Int) (r : Int) (w : World) (hr0_0 : Kd.C Kd.string w A0_0 l0_0.length l0_0) (hc0_0 : l0_0.length ≤ c0_0) (hr0_1 : Kd.C k108 w A0_1 l0_1.length l0_1) (hc0_1 : l0_1.length ≤ c0_1) (hr0_3 : Kd.C k106 w A0_3 l0_3.length l0_3) (hc0_3 : l0_3.length ≤ c0_3) (h : laws_szDelta.f k l0_0 l0_1 a0_2 l0_3 a1 = some r) :
  Calls Tryz.prog 24 #[.agg #[.slice A0_0 l0_0.length c0_0, .slice A0_1 l0_1.length c0_1, .bool a0_2, .slice A0_3 l0_3.length c0_3], .int .i64 a1] w fun e w' => e = .returned (.int .i64 r) ∧ Below w.heap.size w w' := by
 have hu26 := Tryz.underlying26
 have HR0_0 := Aside0.mk hr0_0
 have HC0_0 := Aside0.mk hc0_0
 clear hr0_0 hc0_0
 have HR0_1 := Aside0.mk hr0_1
 have HC0_1 := Aside0.mk hc0_1
 clear hr0_1 hc0_1
 have HR0_3 := Aside0.mk hr0_3
 have HC0_3 := Aside0.mk hc0_3
 clear hr0_3 hc0_3
 have HB := Aside0.mk (Below.refl w.heap.size w)
 unfold laws_szDelta.f at h
 have H := h
 clear h
 replace H := Option.bind_eq_some_iff.mp H
 obtain ⟨t102, A30, H⟩ := H
 have A3 := Aside0.mk A30
 clear A30
 by_cases c4 : t102 < 0
 ·rw [if_pos c4] at H
  have c4b0 := decide_eq_true c4
  clear c4
  obtain rfl := Option.some.inj H
  go_enter Tryz.func24, Tryz.ntmps24
  go_wp2_with (first | ((with_reducible refine gate_dst (N := 2) rfl ?_); refine box_event rfl (N := 2) rfl (cs := #[.slice A0_0 l0_0.length c0_0, .slice A0_1 l0_1.length c0_1, .bool a0_2, .slice A0_3 l0_3.length c0_3]) (t := 26) (by go_simp <;> rfl) ?_; intro gb101 hg w5 hbox hb; have BK101 := Aside0.mk (hbox); have GW101 := Le_.mk (ge_of hg HB.out); have GE101 := Le_.mk (ge_of hg HB.out); replace HB := kB HB hb; clear hb hbox hg; have hz6 := cells_4 BK101.out) | ((with_reducible refine gate_callee (f := 63) rfl ?_); refine goL (some 8) rfl rfl gf63 #[.slice A0_0 l0_0.length c0_0, .int .i64 a1] rfl rfl ?_; (with_reducible refine (laws_szStringS.calls k _ _ l0_0 a1 t102 _ (cx (Kd.C_below HR0_0.out HB.out)) HC0_0.out A3.out).mono ?_); rintro e w' ⟨rfl, ⟨nd, rfl⟩⟩; refine ⟨_, rfl, ?_⟩))
  go_ret
  exact ⟨by rfl, bx HB.out⟩
 ·rw [if_neg c4] at H
  have c4b0 := decide_eq_false c4
  clear c4
  replace H := Option.bind_eq_some_iff.mp H
  obtain ⟨t103, A70, H⟩ := H
  have A7 := Aside0.mk A70
  clear A70
  by_cases c8 : t103 < 0
  ·rw [if_pos c8] at H
   have c8b0 := decide_eq_true c8
   clear c8
   obtain rfl := Option.some.inj H
   go_enter Tryz.func24, Tryz.ntmps24
   go_wp2_with (first | ((with_reducible refine gate_dst (N := 2) rfl ?_); refine box_event rfl (N := 2) rfl (cs := #[.slice A0_0 l0_0.length c0_0, .slice A0_1 l0_1.length c0_1, .bool a0_2, .slice A0_3 l0_3.length c0_3]) (t := 26) (by go_simp <;> rfl) ?_; intro gb101 hg w9 hbox hb; have BK101 := Aside0.mk (hbox); have GW101 := Le_.mk (ge_of hg HB.out); have GE101 := Le_.mk (ge_of hg HB.out); replace HB := kB HB hb; clear hb hbox hg; have hz10 := cells_4 BK101.out) | ((with_reducible refine gate_callee (f := 63) rfl ?_); refine goL (some 8) rfl rfl gf63 #[.slice A0_0 l0_0.length c0_0, .int .i64 a1] rfl rfl ?_; (with_reducible refine (laws_szStringS.calls k _ _ l0_0 a1 t102 _ (cx (Kd.C_below HR0_0.out HB.out)) HC0_0.out A3.out).mono ?_); rintro e w' ⟨rfl, ⟨nd, rfl⟩⟩; refine ⟨_, rfl, ?_⟩) | ((with_reducible refine gate_callee (f := 46) rfl ?_); refine goL (some 14) rfl rfl gf46 #[.slice A0_1 l0_1.length c0_1, .int .i64 t102] rfl rfl ?_; (with_reducible refine (laws_szEntryS.calls k _ _ l0_1 t102 t103 _ ?side1 ?side2 A7.out).mono ?_); (case side1 => repeat (first | exact (Kd.C_below HR0_1.out (bx HB.out)) | (with_reducible refine Kd.C_alloc ?_ _) | (with_reducible refine Kd.C_drewN ?_ _) | (with_reducible refine Kd.C_drew ?_))); (case side2 => exact HC0_1.out); rintro e w11 ⟨rfl, hb⟩; refine ⟨_, rfl, ?_⟩; replace BK101 := kb BK101 hb; replace HB := kB HB hb; (try clear hb); (try clear hb2); (try clear hk); (try clear hi)))
   go_ret
   exact ⟨by rfl, bx HB.out⟩
  ·rw [if_neg c8] at H
   have c8b0 := decide_eq_false c8
   clear c8
   replace H := Option.bind_eq_some_iff.mp H
   obtain ⟨t104, A120, H⟩ := H
   have A12 := Aside0.mk A120
   clear A120
   by_cases c13 : t104 < 0
   ·rw [if_pos c13] at H
    have c13b0 := decide_eq_true c13
    clear c13
    obtain rfl := Option.some.inj H
    go_enter Tryz.func24, Tryz.ntmps24
    go_wp2_with (first | ((with_reducible refine gate_dst (N := 2) rfl ?_); refine box_event rfl (N := 2) rfl (cs := #[.slice A0_0 l0_0.length c0_0, .slice A0_1 l0_1.length c0_1, .bool a0_2, .slice A0_3 l0_3.length c0_3]) (t := 26) (by go_simp <;> rfl) ?_; intro gb101 hg w14 hbox hb; have BK101 := Aside0.mk (hbox); have GW101 := Le_.mk (ge_of hg HB.out); have GE101 := Le_.mk (ge_of hg HB.out); replace HB := kB HB hb; clear hb hbox hg; have hz15 := cells_4 BK101.out) | ((with_reducible refine gate_callee (f := 63) rfl ?_); refine goL (some 8) rfl rfl gf63 #[.slice A0_0 l0_0.length c0_0, .int .i64 a1] rfl rfl ?_; (with_reducible refine (laws_szStringS.calls k _ _ l0_0 a1 t102 _ (cx (Kd.C_below HR0_0.out HB.out)) HC0_0.out A3.out).mono ?_); rintro e w' ⟨rfl, ⟨nd, rfl⟩⟩; refine ⟨_, rfl, ?_⟩) | ((with_reducible refine gate_callee (f := 46) rfl ?_); refine goL (some 14) rfl rfl gf46 #[.slice A0_1 l0_1.length c0_1, .int .i64 t102] rfl rfl ?_; (with_reducible refine (laws_szEntryS.calls k _ _ l0_1 t102 t103 _ ?side1 ?side2 A7.out).mono ?_); (case side1 => repeat (first | exact (Kd.C_below HR0_1.out (bx HB.out)) | (with_reducible refine Kd.C_alloc ?_ _) | (with_reducible refine Kd.C_drewN ?_ _) | (with_reducible refine Kd.C_drew ?_))); (case side2 => exact HC0_1.out); rintro e w16 ⟨rfl, hb⟩; refine ⟨_, rfl, ?_⟩; replace BK101 := kb BK101 hb; replace HB := kB HB hb; (try clear hb); (try clear hb2); (try clear hk); (try clear hi); have hz17 := cells_4 BK101.out) | ((with_reducible refine gate_callee (f := 45) rfl ?_); refine goL (some 20) rfl rfl gf45 #[.slice A0_3 l0_3.length c0_3, .int .i64 t103] rfl rfl ?_; (with_reducible refine (laws_szAffixS.calls k _ _ l0_3 t103 t104 _ (cx (Kd.C_below HR0_3.out HB.out)) HC0_3.out A12.out).mono ?_); rintro e w18 ⟨rfl, hb⟩; refine ⟨_, rfl, ?_⟩; replace BK101 := kb BK101 hb; replace HB := kB HB hb; (try clear hb); (try clear hb2); (try clear hk); (try clear hi)))
    go_ret
    exact ⟨by rfl, bx HB.out⟩
   ·rw [if_neg c13] at H
    have c13b0 := decide_eq_false c13
    clear c13
    obtain rfl := Option.some.inj H
    go_enter Tryz.func24, Tryz.ntmps24
    go_wp2_with (first | ((with_reducible refine gate_dst (N := 2) rfl ?_); refine box_event rfl (N := 2) rfl (cs := #[.slice A0_0 l0_0.length c0_0, .slice A0_1 l0_1.length c0_1, .bool a0_2, .slice A0_3 l0_3.length c0_3]) (t := 26) (by go_simp <;> rfl) ?_; intro gb101 hg w19 hbox hb; have BK101 := Aside0.mk (hbox); have GW101 := Le_.mk (ge_of hg HB.out); have GE101 := Le_.mk (ge_of hg HB.out); replace HB := kB HB hb; clear hb hbox hg; have hz20 := cells_4 BK101.out) | ((with_reducible refine gate_callee (f := 63) rfl ?_); refine goL (some 8) rfl rfl gf63 #[.slice A0_0 l0_0.length c0_0, .int .i64 a1] rfl rfl ?_; (with_reducible refine (laws_szStringS.calls k _ _ l0_0 a1 t102 _ (cx (Kd.C_below HR0_0.out HB.out)) HC0_0.out A3.out).mono ?_); rintro e w' ⟨rfl, ⟨nd, rfl⟩⟩; refine ⟨_, rfl, ?_⟩) | ((with_reducible refine gate_callee (f := 46) rfl ?_); refine goL (some 14) rfl rfl gf46 #[.slice A0_1 l0_1.length c0_1, .int .i64 t102] rfl rfl ?_; (with_reducible refine (laws_szEntryS.calls k _ _ l0_1 t102 t103 _ ?side1 ?side2 A7.out).mono ?_); (case side1 => repeat (first | exact (Kd.C_below HR0_1.out (bx HB.out)) | (with_reducible refine Kd.C_alloc ?_ _) | (with_reducible refine Kd.C_drewN ?_ _) | (with_reducible refine Kd.C_drew ?_))); (case side2 => exact HC0_1.out); rintro e w21 ⟨rfl, hb⟩; refine ⟨_, rfl, ?_⟩; replace BK101 := kb BK101 hb; replace HB := kB HB hb; (try clear hb); (try clear hb2); (try clear hk); (try clear hi); have hz22 := cells_4 BK101.out) | ((with_reducible refine gate_callee (f := 45) rfl ?_); refine goL (some 20) rfl rfl gf45 #[.slice A0_3 l0_3.length c0_3, .int .i64 t103] rfl rfl ?_; (with_reducible refine (laws_szAffixS.calls k _ _ l0_3 t103 t104 _ (cx (Kd.C_below HR0_3.out HB.out)) HC0_3.out A12.out).mono ?_); rintro e w23 ⟨rfl, hb⟩; refine ⟨_, rfl, ?_⟩; replace BK101 := kb BK101 hb; replace HB := kB HB hb; (try clear hb); (try clear hb2); (try clear hk); (try clear hi)))
    go_ret
    exact ⟨by rfl, bx HB.out⟩
theorem gf7 : Go_ Tryz.prog 7 Tryz.f7 := ⟨Tryz.func7, by kernel_rfl, rfl⟩
def laws_szRelease.f (k : Nat) (a0_0 : Int) (l0_1 : List ByteArray) (l0_2 : List (S108)) (a0_3 : Bool) (l0_4 : List (S106)) (a0_5 : ByteArray) (a0_6 : ByteArray) (a1 : Int) : Option (Int) := (laws_szDelta.f k l0_1 l0_2 a0_3 l0_4 a1).bind fun t102 => (if t102 < 0 then (some (-1)) else (if (wrap64 (t102 - (a0_5.size : Int))) < 0 then (some (-1)) else (if (wrap64 ((wrap64 (t102 - (a0_5.size : Int))) - (a0_6.size : Int))) < 0 then (some (-1)) else (some (wrap64 ((wrap64 (t102 - (a0_5.size : Int))) - (a0_6.size : Int)))))))
theorem laws_szRelease.mono : ∀ a0 a1 a2 a3 a4 a5 a6 a7 k, LeO (laws_szRelease.f k a0 a1 a2 a3 a4 a5 a6 a7) (laws_szRelease.f (k + 1) a0 a1 a2 a3 a4 a5 a6 a7) := by
 intro a0 a1 a2 a3 a4 a5 a6 a7 k
 unfold laws_szRelease.f
 have I0_ := fun a b c d e f => LeC.mk (laws_szDelta.mono a b c d e f)
 exact LeC.out
theorem laws_szRelease.calls (k : Nat) (a0_0 : Int) (A0_1 : Option Addr) (c0_1 : Nat) (l0_1 : List ByteArray) (A0_2 : Option Addr) (c0_2 : Nat) (l0_2 : List (S108)) (a0_3 : Bool) (A0_4 : Option Addr) (c0_4 : Nat) (l0_4 : List (S106)) (a0_5 : ByteArray) (a0_6 : ByteArray) (a1 : Int) (r : Int) (w : World) (hr0_1 : Kd.C Kd.string w A0_1 l0_1.length l0_1) (hc0_1 : l0_1.length ≤ c0_1) (hr0_2 : Kd.C k108 w A0_2 l0_2.length l0_2) (hc0_2 : l0_2.length ≤ c0_2) (hr0_4 : Kd.C k106 w A0_4 l0_4.length l0_4) (hc0_4 : l0_4.length ≤ c0_4) (h : laws_szRelease.f k a0_0 l0_1 l0_2 a0_3 l0_4 a0_5 a0_6 a1 = some r) :
  Calls Tryz.prog 7 #[.agg #[.int .i64 a0_0, .slice A0_1 l0_1.length c0_1, .slice A0_2 l0_2.length c0_2, .bool a0_3, .slice A0_4 l0_4.length c0_4, .string a0_5, .string a0_6], .int .i64 a1] w fun e w' => e = .returned (.int .i64 r) ∧ Below w.heap.size w w' := by
 have hu28 := Tryz.underlying28
 have hu26 := Tryz.underlying26
 have HR0_1 := Aside0.mk hr0_1
 have HC0_1 := Aside0.mk hc0_1
 clear hr0_1 hc0_1
 have HR0_2 := Aside0.mk hr0_2
 have HC0_2 := Aside0.mk hc0_2
 clear hr0_2 hc0_2
 have HR0_4 := Aside0.mk hr0_4
 have HC0_4 := Aside0.mk hc0_4
 clear hr0_4 hc0_4
 have HB := Aside0.mk (Below.refl w.heap.size w)
 unfold laws_szRelease.f at h
 have H := h
 clear h
 replace H := Option.bind_eq_some_iff.mp H
 obtain ⟨t102, A30, H⟩ := H
 have A3 := Aside0.mk A30
 clear A30
 by_cases c4 : t102 < 0
 ·rw [if_pos c4] at H
  have c4b0 := decide_eq_true c4
  clear c4
  obtain rfl := Option.some.inj H
  go_enter Tryz.func7, Tryz.ntmps7
  go_wp2_with (first | ((with_reducible refine gate_dst (N := 2) rfl ?_); refine box_event rfl (N := 2) rfl (cs := #[.int .i64 a0_0, .slice A0_1 l0_1.length c0_1, .slice A0_2 l0_2.length c0_2, .bool a0_3, .slice A0_4 l0_4.length c0_4, .string a0_5, .string a0_6]) (t := 28) (by go_simp <;> rfl) ?_; intro gb101 hg w5 hbox hb; have BK101 := Aside0.mk (hbox); have GW101 := Le_.mk (ge_of hg HB.out); have GE101 := Le_.mk (ge_of hg HB.out); replace HB := kB HB hb; clear hb hbox hg; have hz6 := cells_7 BK101.out) | ((with_reducible refine gate_callee (f := 24) rfl ?_); refine goL (some 8) rfl rfl gf24 #[.agg #[.slice A0_1 l0_1.length c0_1, .slice A0_2 l0_2.length c0_2, .bool a0_3, .slice A0_4 l0_4.length c0_4], .int .i64 a1] rfl rfl ?_; (with_reducible refine (laws_szDelta.calls k _ _ l0_1 _ _ l0_2 a0_3 _ _ l0_4 a1 t102 _ (cx (Kd.C_below HR0_1.out HB.out)) HC0_1.out (cx (Kd.C_below HR0_2.out HB.out)) HC0_2.out (cx (Kd.C_below HR0_4.out HB.out)) HC0_4.out A3.out).mono ?_); rintro e w7 ⟨rfl, hb⟩; refine ⟨_, rfl, ?_⟩; replace BK101 := kb BK101 hb; replace HB := kB HB hb; (try clear hb); (try clear hb2); (try clear hk); (try clear hi)))
  go_ret
  exact ⟨by rfl, bx HB.out⟩
 ·rw [if_neg c4] at H
  have c4b0 := decide_eq_false c4
  clear c4
  by_cases c8 : (wrap64 (t102 - (a0_5.size : Int))) < 0
  ·rw [if_pos c8] at H
   have c8b0 := decide_eq_true c8
   clear c8
   obtain rfl := Option.some.inj H
   go_enter Tryz.func7, Tryz.ntmps7
   go_wp2_with (first | ((with_reducible refine gate_dst (N := 2) rfl ?_); refine box_event rfl (N := 2) rfl (cs := #[.int .i64 a0_0, .slice A0_1 l0_1.length c0_1, .slice A0_2 l0_2.length c0_2, .bool a0_3, .slice A0_4 l0_4.length c0_4, .string a0_5, .string a0_6]) (t := 28) (by go_simp <;> rfl) ?_; intro gb101 hg w9 hbox hb; have BK101 := Aside0.mk (hbox); have GW101 := Le_.mk (ge_of hg HB.out); have GE101 := Le_.mk (ge_of hg HB.out); replace HB := kB HB hb; clear hb hbox hg; have hz10 := cells_7 BK101.out) | ((with_reducible refine gate_callee (f := 24) rfl ?_); refine goL (some 8) rfl rfl gf24 #[.agg #[.slice A0_1 l0_1.length c0_1, .slice A0_2 l0_2.length c0_2, .bool a0_3, .slice A0_4 l0_4.length c0_4], .int .i64 a1] rfl rfl ?_; (with_reducible refine (laws_szDelta.calls k _ _ l0_1 _ _ l0_2 a0_3 _ _ l0_4 a1 t102 _ (cx (Kd.C_below HR0_1.out HB.out)) HC0_1.out (cx (Kd.C_below HR0_2.out HB.out)) HC0_2.out (cx (Kd.C_below HR0_4.out HB.out)) HC0_4.out A3.out).mono ?_); rintro e w11 ⟨rfl, hb⟩; refine ⟨_, rfl, ?_⟩; replace BK101 := kb BK101 hb; replace HB := kB HB hb; (try clear hb); (try clear hb2); (try clear hk); (try clear hi); have hz12 := cells_7 BK101.out))
   go_ret
   exact ⟨by rfl, bx HB.out⟩
  ·rw [if_neg c8] at H
   have c8b0 := decide_eq_false c8
   clear c8
   by_cases c13 : (wrap64 ((wrap64 (t102 - (a0_5.size : Int))) - (a0_6.size : Int))) < 0
   ·rw [if_pos c13] at H
    have c13b0 := decide_eq_true c13
    clear c13
    obtain rfl := Option.some.inj H
    go_enter Tryz.func7, Tryz.ntmps7
    go_wp2_with (first | ((with_reducible refine gate_dst (N := 2) rfl ?_); refine box_event rfl (N := 2) rfl (cs := #[.int .i64 a0_0, .slice A0_1 l0_1.length c0_1, .slice A0_2 l0_2.length c0_2, .bool a0_3, .slice A0_4 l0_4.length c0_4, .string a0_5, .string a0_6]) (t := 28) (by go_simp <;> rfl) ?_; intro gb101 hg w14 hbox hb; have BK101 := Aside0.mk (hbox); have GW101 := Le_.mk (ge_of hg HB.out); have GE101 := Le_.mk (ge_of hg HB.out); replace HB := kB HB hb; clear hb hbox hg; have hz15 := cells_7 BK101.out) | ((with_reducible refine gate_callee (f := 24) rfl ?_); refine goL (some 8) rfl rfl gf24 #[.agg #[.slice A0_1 l0_1.length c0_1, .slice A0_2 l0_2.length c0_2, .bool a0_3, .slice A0_4 l0_4.length c0_4], .int .i64 a1] rfl rfl ?_; (with_reducible refine (laws_szDelta.calls k _ _ l0_1 _ _ l0_2 a0_3 _ _ l0_4 a1 t102 _ (cx (Kd.C_below HR0_1.out HB.out)) HC0_1.out (cx (Kd.C_below HR0_2.out HB.out)) HC0_2.out (cx (Kd.C_below HR0_4.out HB.out)) HC0_4.out A3.out).mono ?_); rintro e w16 ⟨rfl, hb⟩; refine ⟨_, rfl, ?_⟩; replace BK101 := kb BK101 hb; replace HB := kB HB hb; (try clear hb); (try clear hb2); (try clear hk); (try clear hi); have hz17 := cells_7 BK101.out))
    go_ret
    exact ⟨by rfl, bx HB.out⟩
   ·rw [if_neg c13] at H
    have c13b0 := decide_eq_false c13
    clear c13
    obtain rfl := Option.some.inj H
    go_enter Tryz.func7, Tryz.ntmps7
    go_wp2_with (first | ((with_reducible refine gate_dst (N := 2) rfl ?_); refine box_event rfl (N := 2) rfl (cs := #[.int .i64 a0_0, .slice A0_1 l0_1.length c0_1, .slice A0_2 l0_2.length c0_2, .bool a0_3, .slice A0_4 l0_4.length c0_4, .string a0_5, .string a0_6]) (t := 28) (by go_simp <;> rfl) ?_; intro gb101 hg w18 hbox hb; have BK101 := Aside0.mk (hbox); have GW101 := Le_.mk (ge_of hg HB.out); have GE101 := Le_.mk (ge_of hg HB.out); replace HB := kB HB hb; clear hb hbox hg; have hz19 := cells_7 BK101.out) | ((with_reducible refine gate_callee (f := 24) rfl ?_); refine goL (some 8) rfl rfl gf24 #[.agg #[.slice A0_1 l0_1.length c0_1, .slice A0_2 l0_2.length c0_2, .bool a0_3, .slice A0_4 l0_4.length c0_4], .int .i64 a1] rfl rfl ?_; (with_reducible refine (laws_szDelta.calls k _ _ l0_1 _ _ l0_2 a0_3 _ _ l0_4 a1 t102 _ (cx (Kd.C_below HR0_1.out HB.out)) HC0_1.out (cx (Kd.C_below HR0_2.out HB.out)) HC0_2.out (cx (Kd.C_below HR0_4.out HB.out)) HC0_4.out A3.out).mono ?_); rintro e w20 ⟨rfl, hb⟩; refine ⟨_, rfl, ?_⟩; replace BK101 := kb BK101 hb; replace HB := kB HB hb; (try clear hb); (try clear hb2); (try clear hk); (try clear hi); have hz21 := cells_7 BK101.out))
    go_ret
    exact ⟨by rfl, bx HB.out⟩
theorem gf99 : Go_ Tryz.prog 99 Tryz.f99 := ⟨Tryz.func99, by kernel_rfl, rfl⟩
def laws_toAffix.f (a0_0 : ByteArray) (a0_1 : Bool) (a0_2 : ByteArray) (a0_3 : ByteArray) (a0_4 : ByteArray) : Option (ByteArray × Bool × ByteArray × ByteArray × ByteArray) := some (a0_0, a0_1, a0_2, a0_3, a0_4)
theorem laws_toAffix.calls (a0_0 : ByteArray) (a0_1 : Bool) (a0_2 : ByteArray) (a0_3 : ByteArray) (a0_4 : ByteArray) (r1 : ByteArray) (r2 : Bool) (r3 : ByteArray) (r4 : ByteArray) (r5 : ByteArray) (w : World) (h : laws_toAffix.f a0_0 a0_1 a0_2 a0_3 a0_4 = some (r1, r2, r3, r4, r5)) :
  Calls Tryz.prog 99 #[.agg #[.string a0_0, .bool a0_1, .string a0_2, .string a0_3, .string a0_4]] w fun e w' => e = .returned (.agg #[.string r1, .bool r2, .string r3, .string r4, .string r5]) ∧ Below w.heap.size w w' := by
 have hu106 := Tryz.underlying106
 have hu103 := Tryz.underlying103
 have HB := Aside0.mk (Below.refl w.heap.size w)
 unfold laws_toAffix.f at h
 have H := h
 clear h
 simp only [Option.some.injEq, Prod.mk.injEq] at H
 obtain ⟨rfl, rfl, rfl, rfl, rfl⟩ := H
 go_enter Tryz.func99, Tryz.ntmps99
 go_wp2_with (first | ((with_reducible refine gate_dst (N := 1) rfl ?_); refine box_event rfl (N := 1) rfl (cs := #[.string a0_0, .bool a0_1, .string a0_2, .string a0_3, .string a0_4]) (t := 106) (by go_simp <;> rfl) ?_; intro gb101 hg w2 hbox hb; have BK101 := Aside0.mk (hbox); have GW101 := Le_.mk (ge_of hg HB.out); have GE101 := Le_.mk (ge_of hg HB.out); replace HB := kB HB hb; clear hb hbox hg) | ((with_reducible refine gate_dst (N := 2) rfl ?_); refine box_event rfl (N := 2) rfl (cs := #[.string (⟨#[]⟩ : ByteArray), .bool false, .string (⟨#[]⟩ : ByteArray), .string (⟨#[]⟩ : ByteArray), .string (⟨#[]⟩ : ByteArray)]) (t := 103) (by go_simp <;> rfl) ?_; intro gb102 hg w3 hbox hb; have BK102 := Aside0.mk (hbox); have GW102 := Le_.mk (ge_of hg HB.out); have GE102 := Le_.mk (ge_of hg HB.out); replace HB := kB HB hb; have NB101_102 := Ne_.mk (nl hg (blk_lt BK101.out)); have NB102_101 := Ne_.mk (ng hg (blk_lt BK101.out)); replace BK101 := kb BK101 hb; clear hb hbox hg) | ((with_reducible refine gate_dst (N := 3) rfl ?_); refine box_event rfl (N := 3) rfl (cs := #[.string (⟨#[]⟩ : ByteArray), .bool false, .string (⟨#[]⟩ : ByteArray), .string (⟨#[]⟩ : ByteArray), .string (⟨#[]⟩ : ByteArray)]) (t := 103) (by go_simp <;> rfl) ?_; intro gb103 hg w4 hbox hb; have BK103 := Aside0.mk (hbox); have GW103 := Le_.mk (ge_of hg HB.out); have GE103 := Le_.mk (ge_of hg HB.out); replace HB := kB HB hb; have NB101_103 := Ne_.mk (nl hg (blk_lt BK101.out)); have NB103_101 := Ne_.mk (ng hg (blk_lt BK101.out)); replace BK101 := kb BK101 hb; have NB102_103 := Ne_.mk (nl hg (blk_lt BK102.out)); have NB103_102 := Ne_.mk (ng hg (blk_lt BK102.out)); replace BK102 := kb BK102 hb; clear hb hbox hg; have hnb5 := NB101_102.out; have hnc5 := NB102_101.out; have hnb6 := NB101_103.out; have hnc6 := NB103_101.out; have hz7 := cells_5 BK101.out; have hnb8 := NB103_102.out; have hnc8 := NB102_103.out; have hz9 := cells_5 BK103.out; have hz10 := cells_5 BK102.out))
 refine bodyPost_ret (results_cell_row rfl _ _ gb102 103 #[.string a0_0, .bool a0_1, .string a0_2, .string a0_3, .string a0_4] (0, 0) _ rfl (cl BK102.out rfl) Tryz.underlying103 rfl (by kernel_rfl)) rfl ?_
 exact ⟨by rfl, bx HB.out⟩
theorem gf52 : Go_ Tryz.prog 52 Tryz.f52 := ⟨Tryz.func52, by kernel_rfl, rfl⟩
def laws_toAffixS.l0 : Nat → List (S106) → List (S103) → Int → Option ((List (S103)))
 | 0, _, _, _ => none
 | k + 1, x0, x3, x4 => if x4 < (x0.length : Int) then (if 0 ≤ x4 then ((laws_toAffix.f ((rd_T106 x0 x4).f0) ((rd_T106 x0 x4).f1) ((rd_T106 x0 x4).f2) ((rd_T106 x0 x4).f3) ((rd_T106 x0 x4).f4)).bind fun bt105 => (if x4 < (x3.length : Int) then (laws_toAffixS.l0 k x0 (x3.set (x4 : Int).toNat (⟨bt105.1, bt105.2.1, bt105.2.2.1, bt105.2.2.2.1, bt105.2.2.2.2⟩ : S103)) (wrap64 (x4 + 1))) else (none))) else (none)) else (some x3)
def laws_toAffixS.f (k : Nat) (l0 : List (S106)) : Option ((List (S103))) := if 0 ≤ (l0.length : Int) then (if ((l0.length : Int) : Int).toNat ≤ 3909374676536 then (laws_toAffixS.l0 k l0 (List.replicate ((l0.length : Int) : Int).toNat z103) 0) else (none)) else (none)
theorem laws_toAffixS.mono_l : ∀ k, (∀ y0 y1 y2, LeO (laws_toAffixS.l0 k y0 y1 y2) (laws_toAffixS.l0 (k + 1) y0 y1 y2))
 | 0 => fun _ _ _ r h => by simp [laws_toAffixS.l0] at h
 | k + 1 => by
  have ih0 := laws_toAffixS.mono_l k
  ·intro y0 y1 y2
   unfold laws_toAffixS.l0
   have I0_ := fun a b c => LeC.mk (ih0 a b c)
   exact LeC.out
theorem laws_toAffixS.mono : ∀ a0 k, LeO (laws_toAffixS.f k a0) (laws_toAffixS.f (k + 1) a0) := by
 intro a0 k
 have ih0 := laws_toAffixS.mono_l k
 unfold laws_toAffixS.f
 have I0_ := fun a b c => LeC.mk (ih0 a b c)
 exact LeC.out
theorem laws_toAffixS.calls (k : Nat) (A0 : Option Addr) (c0 : Nat) (l0 : List (S106)) (r : List (S103)) (w : World) (hr0 : Kd.C k106 w A0 l0.length l0) (hc0 : l0.length ≤ c0) (h : laws_toAffixS.f k l0 = some r) :
  Calls Tryz.prog 52 #[.slice A0 l0.length c0] w fun e w' => ∃ v0_ : Value, e = .returned (v0_) ∧ Kd.R k103 103 w' w.heap.size (fun _ => True) v0_ r ∧ Below w.heap.size w w' := by
 have hu106 := Tryz.underlying106
 have hu103 := Tryz.underlying103
 have HR0 := Aside0.mk hr0
 have HC0 := Aside0.mk hc0
 clear hr0 hc0
 have HB := Aside0.mk (Below.refl w.heap.size w)
 unfold laws_toAffixS.f at h
 have H := h
 clear h
 have c2 := ite_y H
 replace H := ite_t H
 have c2b0 := eq_true c2
 have c2b1 := decide_eq_true c2
 clear c2
 have c3 := ite_y H
 replace H := ite_t H
 have c3b0 := eq_true c3
 have c3b1 := decide_eq_true c3
 clear c3
 obtain ⟨y101, hy101⟩ : ∃ y_ : List (S103), y_ = (List.replicate ((l0.length : Int) : Int).toNat z103) := ⟨_, rfl⟩
 first | replace H := bind_y hy101 H | rw [← hy101] at H
 have Ny101 := Aside0.mk hy101
 clear hy101
 have H' := Aside0.mk H
 clear H
 go_enter Tryz.func52, Tryz.ntmps52
 go_wp2_with (first | ((with_reducible refine gate_dst (N := 7) rfl ?_); refine Kd.R_make k103 _ 103 rfl (N := 7) rfl 32 _ _ rfl (l0.length : Int) rfl rfl Tryz.underlying32 (.agg #[(.string ⟨#[]⟩), (.bool false), (.string ⟨#[]⟩), (.string ⟨#[]⟩), (.string ⟨#[]⟩)]) 72 info103 rfl (by decide) (by omega) z103 (ok := fun _ => True) (okp := fun _ => True) (k103_mkM _ _ _ z103 ) (fun _ hk => hk) trivial (of_decide_eq_true (by with_reducible assumption)) (Nat.le_trans (Nat.mul_le_mul_right _ (of_decide_eq_true (by with_reducible assumption) : (l0.length : Int).toNat ≤ 3909374676536)) (by omega)) (Below.refl _ _) (Nat.le_refl _) ?_; intro v102 w4 ho5 hb hg_ hnew_; clear hg_ hnew_; (first | rw [← Ny101.out] at ho5 | (simp only [Int.reduceToNat] at ho5; rw [← Ny101.out] at ho5)); have HO103 := Aside0.mk (Kd.R_lower ho5 (bz HB.out)); replace HB := kB HB hb; clear hb ho5))
 go_loopg [4] k (fun kq v4 w' => ∃ (x3_1 : List (S103)) (x4_1 : Int), v4 = .int .i64 x4_1 ∧ Aside0 (laws_toAffixS.l0 kq l0 x3_1 x4_1 = some r) ∧ Aside0 (kq ≤ k) ∧ Aside0 (Kd.R k103 103 w' w.heap.size (fun _ => True) v102 x3_1) ∧ Aside0 (Below w.heap.size w w'))
 case atStart => exact ⟨(y101), (0), (by first | rfl | (simp; done) | (simp [*]; done)), H', ⟨Nat.le_refl _⟩, ⟨rx HO103.out⟩, ⟨bx HB.out⟩⟩
 case round =>
  clear H'
  try clear c2
  try clear c2b0
  try clear c2b1
  try clear p2
  try clear c3
  try clear c3b0
  try clear c3b1
  try clear c5
  obtain ⟨x3_1, x4_1, rfl, HA, HK1, HO_3, HB⟩ := hrel
  cases gk with
  | zero => exact absurd HA.out (by simp [laws_toAffixS.l0])
  | succ k1 =>
   have H := HA.out
   clear HA
   simp only [laws_toAffixS.l0] at H
   by_cases c6 : x4_1 < (l0.length : Int)
   ·rw [if_pos c6] at H
    have c6b0 := decide_eq_true c6
    clear c6
    have c7 := ite_y H
    replace H := ite_t H
    have c7b0 := decide_eq_true c7
    clear c7
    replace H := Option.bind_eq_some_iff.mp H
    obtain ⟨⟨t105, t106, t107, t108, t109⟩, A80, H⟩ := H
    try dsimp only at H
    have A8 := Aside0.mk A80
    clear A80
    have c9 := ite_y H
    replace H := ite_t H
    have c9b0 := decide_eq_true c9
    clear c9
    obtain ⟨y110, hy110⟩ : ∃ y_ : List (S103), y_ = (x3_1.set (x4_1 : Int).toNat (⟨t105, t106, t107, t108, t109⟩ : S103)) := ⟨_, rfl⟩
    first | replace H := bind_y hy110 H | rw [← hy110] at H
    have Ny110 := Aside0.mk hy110
    clear hy110
    have H' := Aside0.mk H
    clear H
    have p104 := of_decide_eq_true c7b0
    have q104 := of_decide_eq_true c6b0
    obtain ⟨ad104, e104, hx104_0, hx104_1, hx104_2, hx104_3, hx104_4⟩ := at_T106 HR0.out x4_1 p104 q104
    cases e104
    replace hx104_0 := px HB.out hx104_0
    replace hx104_1 := px HB.out hx104_1
    replace hx104_2 := px HB.out hx104_2
    replace hx104_3 := px HB.out hx104_3
    replace hx104_4 := px HB.out hx104_4
    replace p104 := eq_true p104
    replace q104 := eq_true q104
    go_wp2_with (first | ((with_reducible refine gate_callee (f := 99) rfl ?_); refine goL (some 20) rfl rfl gf99 #[.agg #[.string ((rd_T106 l0 x4_1).f0), .bool ((rd_T106 l0 x4_1).f1), .string ((rd_T106 l0 x4_1).f2), .string ((rd_T106 l0 x4_1).f3), .string ((rd_T106 l0 x4_1).f4)]] rfl rfl ?_; (with_reducible refine (laws_toAffix.calls ((rd_T106 l0 x4_1).f0) ((rd_T106 l0 x4_1).f1) ((rd_T106 l0 x4_1).f2) ((rd_T106 l0 x4_1).f3) ((rd_T106 l0 x4_1).f4) t105 t106 t107 t108 t109 _ A8.out).mono ?_); rintro e w11 ⟨rfl, hb⟩; refine ⟨_, rfl, ?_⟩; replace HO_3 := kR HO_3 hb; replace HB := kB HB hb; (try clear hb); (try clear hb2); (try clear hk); (try clear hi); have p10 := of_decide_eq_true c7b0; have q10 : (x4_1 : Int) < ((x3_1.length : Int) : Int) := of_decide_eq_true (by with_reducible assumption); obtain ⟨go10, co10, eo10, gb10, gl10, cl10, HG10⟩ := Kd.R_form HO_3.out (by omega); (first | cases eo10 | (injection eo10 with ea_ en_ ec_; (first | subst ea_ | (injection ea_ with ea_; subst ea_)); subst ec_; clear en_)); have GB10 := Aside0.mk gb10; have GG10 := Aside0.mk HG10; clear gb10 gl10 HG10; obtain ⟨ce10, hcl10, hM10, hcc10, hfr10⟩ := Kd.R_elem HO_3.out z103 (x4_1 : Int) p10 q10; obtain rfl := k103_openM hM10; have hx10_0 : w11.cell? ⟨go10, (x4_1 : Int).toNat * 5, none⟩ = some (.string ((rd_T103 x3_1 x4_1).f0)) := hcc10 0 _ rfl; have hx10_1 : w11.cell? ⟨go10, (x4_1 : Int).toNat * 5 + 1, none⟩ = some (.bool ((rd_T103 x3_1 x4_1).f1)) := hcc10 1 _ rfl; have hx10_2 : w11.cell? ⟨go10, (x4_1 : Int).toNat * 5 + 2, none⟩ = some (.string ((rd_T103 x3_1 x4_1).f2)) := hcc10 2 _ rfl; have hx10_3 : w11.cell? ⟨go10, (x4_1 : Int).toNat * 5 + 3, none⟩ = some (.string ((rd_T103 x3_1 x4_1).f3)) := hcc10 3 _ rfl; have hx10_4 : w11.cell? ⟨go10, (x4_1 : Int).toNat * 5 + 4, none⟩ = some (.string ((rd_T103 x3_1 x4_1).f4)) := hcc10 4 _ rfl; have hf10_0 : w11.frozen? ⟨go10, (x4_1 : Int).toNat * 5, none⟩ = false := hfr10 0; have hf10_1 : w11.frozen? ⟨go10, (x4_1 : Int).toNat * 5 + 1, none⟩ = false := hfr10 1; have hf10_2 : w11.frozen? ⟨go10, (x4_1 : Int).toNat * 5 + 2, none⟩ = false := hfr10 2; have hf10_3 : w11.frozen? ⟨go10, (x4_1 : Int).toNat * 5 + 3, none⟩ = false := hfr10 3; have hf10_4 : w11.frozen? ⟨go10, (x4_1 : Int).toNat * 5 + 4, none⟩ = false := hfr10 4; clear hcl10 hcc10 hfr10 hM10; replace p10 := eq_true p10; replace q10 := eq_true q10; have HX12 := Aside0.mk (show Kd.R k103 103 w11 w.heap.size (fun _ => True) (.slice (some ⟨go10, 0, none⟩) x3_1.length co10) x3_1 from (rx HO_3.out)); obtain ⟨ce12, hcl12, hM12, hcc12, hfr12⟩ := Kd.R_elem HX12.out z103 (x4_1 : Int) (of_decide_eq_true (by with_reducible assumption)) (by have h_ : (x4_1 : Int) < ((x3_1.length : Int) : Int) := of_decide_eq_true (by with_reducible assumption); first | exact h_ | (have e_ := (Kd.R_reads' HO_3.out).1; omega) | simpa using h_); obtain rfl := k103_openM hM12; have HP12 := Kd.R_seg HX12.out (x4_1 : Int) (of_decide_eq_true (by with_reducible assumption)) (by have h_ : (x4_1 : Int) < ((x3_1.length : Int) : Int) := of_decide_eq_true (by with_reducible assumption); first | exact h_ | (have e_ := (Kd.R_reads' HO_3.out).1; omega) | simpa using h_) (seg := [.string t105, .bool t106, .string t107, .string t108, .string t109]) (j := 0) hcl12 hcc12 (show 5 ≤ 5 from by decide) (x' := (⟨t105, t106, t107, t108, t109⟩ : S103)) (k103_mkM _ _ _ (⟨t105, t106, t107, t108, t109⟩ : S103) ) (fun _ hk => hk); have hx12_0 := hcc12 0 _ rfl; (try simp only [show (k103).sz = 5 from rfl, Nat.mul_one, Nat.add_zero] at hx12_0); have hf12_0 := hfr12 0; (try simp only [show (k103).sz = 5 from rfl, Nat.mul_one, Nat.add_zero] at hf12_0); have hx12_1 := hcc12 1 _ rfl; (try simp only [show (k103).sz = 5 from rfl, Nat.mul_one, Nat.add_zero] at hx12_1); have hf12_1 := hfr12 1; (try simp only [show (k103).sz = 5 from rfl, Nat.mul_one, Nat.add_zero] at hf12_1); have hx12_2 := hcc12 2 _ rfl; (try simp only [show (k103).sz = 5 from rfl, Nat.mul_one, Nat.add_zero] at hx12_2); have hf12_2 := hfr12 2; (try simp only [show (k103).sz = 5 from rfl, Nat.mul_one, Nat.add_zero] at hf12_2); have hx12_3 := hcc12 3 _ rfl; (try simp only [show (k103).sz = 5 from rfl, Nat.mul_one, Nat.add_zero] at hx12_3); have hf12_3 := hfr12 3; (try simp only [show (k103).sz = 5 from rfl, Nat.mul_one, Nat.add_zero] at hf12_3); have hx12_4 := hcc12 4 _ rfl; (try simp only [show (k103).sz = 5 from rfl, Nat.mul_one, Nat.add_zero] at hx12_4); have hf12_4 := hfr12 4; (try simp only [show (k103).sz = 5 from rfl, Nat.mul_one, Nat.add_zero] at hf12_4); clear hcl12 hcc12 hfr12 hM12) | ((with_reducible refine gate_store (t := 103) (p := 21) rfl ?_); refine store_event (t := 103) (p := 21) (v := ?vo_w13) (w1 := (((((w11.setCell ⟨go10, (x4_1 : Int).toNat * 5, none⟩ (.string t105)).setCell ⟨go10, (x4_1 : Int).toNat * 5 + 1, none⟩ (.bool t106)).setCell ⟨go10, (x4_1 : Int).toNat * 5 + 2, none⟩ (.string t107)).setCell ⟨go10, (x4_1 : Int).toNat * 5 + 3, none⟩ (.string t108)).setCell ⟨go10, (x4_1 : Int).toNat * 5 + 4, none⟩ (.string t109))) ?hg ?ho ?hn ?hr ?_; (case ho => rfl); (case hg => rfl); (case hn => rfl); (case hr => first | (go_simp; done) | (go_simp; rfl)); intro w13 hw; have hg : w11.grownBy w13 (some go10) := (by rw [hw]; exact HP12.2); have hp_ : Kd.R k103 103 w13 w.heap.size (fun _ => True) (.slice (some ⟨go10, 0, none⟩) x3_1.length co10) y110 := (by rw [hw, Ny110.out]; exact HP12.1); clear HP12; replace HO_3 := Aside0.mk (hp_); replace HB := Aside0.mk ((by rw [hw]; exact below_set (below_set (below_set (below_set (below_set (HB.out) GB10.out) GB10.out) GB10.out) GB10.out) GB10.out : Below w.heap.size w w13)); clear hg hw hp_))
    go_roundg k1
    case measure => have := HK1.out; omega
    case rel => exact ⟨(y110), (wrap64 (x4_1 + 1)), (by first | rfl | (simp; done) | (simp [*]; done)), H', ⟨by have := HK1.out; omega⟩, ⟨rx HO_3.out⟩, ⟨bx HB.out⟩⟩
   ·rw [if_neg c6] at H
    have c6b0 := decide_eq_false c6
    clear c6
    obtain rfl := Option.some.inj H
    go_wp2
    go_ret
    exact ⟨_, by rfl, rx HO_3.out, bx HB.out⟩
theorem gf100 : Go_ Tryz.prog 100 Tryz.f100 := ⟨Tryz.func100, by kernel_rfl, rfl⟩
def laws_toEntry.f (a0_0 : ByteArray) (a0_1 : ByteArray) : Option (ByteArray × ByteArray) := some (a0_0, a0_1)
theorem laws_toEntry.calls (a0_0 : ByteArray) (a0_1 : ByteArray) (r1 : ByteArray) (r2 : ByteArray) (w : World) (h : laws_toEntry.f a0_0 a0_1 = some (r1, r2)) :
  Calls Tryz.prog 100 #[.agg #[.string a0_0, .string a0_1]] w fun e w' => e = .returned (.agg #[.string r1, .string r2]) ∧ Below w.heap.size w w' := by
 have hu108 := Tryz.underlying108
 have hu100 := Tryz.underlying100
 have HB := Aside0.mk (Below.refl w.heap.size w)
 unfold laws_toEntry.f at h
 have H := h
 clear h
 simp only [Option.some.injEq, Prod.mk.injEq] at H
 obtain ⟨rfl, rfl⟩ := H
 go_enter Tryz.func100, Tryz.ntmps100
 go_wp2_with (first | ((with_reducible refine gate_dst (N := 1) rfl ?_); refine box_event rfl (N := 1) rfl (cs := #[.string a0_0, .string a0_1]) (t := 108) (by go_simp <;> rfl) ?_; intro gb101 hg w2 hbox hb; have BK101 := Aside0.mk (hbox); have GW101 := Le_.mk (ge_of hg HB.out); have GE101 := Le_.mk (ge_of hg HB.out); replace HB := kB HB hb; clear hb hbox hg) | ((with_reducible refine gate_dst (N := 2) rfl ?_); refine box_event rfl (N := 2) rfl (cs := #[.string (⟨#[]⟩ : ByteArray), .string (⟨#[]⟩ : ByteArray)]) (t := 100) (by go_simp <;> rfl) ?_; intro gb102 hg w3 hbox hb; have BK102 := Aside0.mk (hbox); have GW102 := Le_.mk (ge_of hg HB.out); have GE102 := Le_.mk (ge_of hg HB.out); replace HB := kB HB hb; have NB101_102 := Ne_.mk (nl hg (blk_lt BK101.out)); have NB102_101 := Ne_.mk (ng hg (blk_lt BK101.out)); replace BK101 := kb BK101 hb; clear hb hbox hg) | ((with_reducible refine gate_dst (N := 3) rfl ?_); refine box_event rfl (N := 3) rfl (cs := #[.string (⟨#[]⟩ : ByteArray), .string (⟨#[]⟩ : ByteArray)]) (t := 100) (by go_simp <;> rfl) ?_; intro gb103 hg w4 hbox hb; have BK103 := Aside0.mk (hbox); have GW103 := Le_.mk (ge_of hg HB.out); have GE103 := Le_.mk (ge_of hg HB.out); replace HB := kB HB hb; have NB101_103 := Ne_.mk (nl hg (blk_lt BK101.out)); have NB103_101 := Ne_.mk (ng hg (blk_lt BK101.out)); replace BK101 := kb BK101 hb; have NB102_103 := Ne_.mk (nl hg (blk_lt BK102.out)); have NB103_102 := Ne_.mk (ng hg (blk_lt BK102.out)); replace BK102 := kb BK102 hb; clear hb hbox hg; have hnb5 := NB101_102.out; have hnc5 := NB102_101.out; have hnb6 := NB101_103.out; have hnc6 := NB103_101.out; have hz7 := cells_2 BK101.out; have hnb8 := NB103_102.out; have hnc8 := NB102_103.out; have hz9 := cells_2 BK103.out; have hz10 := cells_2 BK102.out))
 refine bodyPost_ret (results_cell_row rfl _ _ gb102 100 #[.string a0_0, .string a0_1] (0, 0) _ rfl (cl BK102.out rfl) Tryz.underlying100 rfl (by kernel_rfl)) rfl ?_
 exact ⟨by rfl, bx HB.out⟩
theorem gf53 : Go_ Tryz.prog 53 Tryz.f53 := ⟨Tryz.func53, by kernel_rfl, rfl⟩
def laws_toEntryS.l0 : Nat → List (S108) → List (S100) → Int → Option ((List (S100)))
 | 0, _, _, _ => none
 | k + 1, x0, x3, x4 => if x4 < (x0.length : Int) then (if 0 ≤ x4 then ((laws_toEntry.f ((rd_T108 x0 x4).f0) ((rd_T108 x0 x4).f1)).bind fun bt105 => (if x4 < (x3.length : Int) then (laws_toEntryS.l0 k x0 (x3.set (x4 : Int).toNat (⟨bt105.1, bt105.2⟩ : S100)) (wrap64 (x4 + 1))) else (none))) else (none)) else (some x3)
def laws_toEntryS.f (k : Nat) (l0 : List (S108)) : Option ((List (S100))) := if 0 ≤ (l0.length : Int) then (if ((l0.length : Int) : Int).toNat ≤ 8796093022208 then (laws_toEntryS.l0 k l0 (List.replicate ((l0.length : Int) : Int).toNat z100) 0) else (none)) else (none)
theorem laws_toEntryS.mono_l : ∀ k, (∀ y0 y1 y2, LeO (laws_toEntryS.l0 k y0 y1 y2) (laws_toEntryS.l0 (k + 1) y0 y1 y2))
 | 0 => fun _ _ _ r h => by simp [laws_toEntryS.l0] at h
 | k + 1 => by
  have ih0 := laws_toEntryS.mono_l k
  ·intro y0 y1 y2
   unfold laws_toEntryS.l0
   have I0_ := fun a b c => LeC.mk (ih0 a b c)
   exact LeC.out
theorem laws_toEntryS.mono : ∀ a0 k, LeO (laws_toEntryS.f k a0) (laws_toEntryS.f (k + 1) a0) := by
 intro a0 k
 have ih0 := laws_toEntryS.mono_l k
 unfold laws_toEntryS.f
 have I0_ := fun a b c => LeC.mk (ih0 a b c)
 exact LeC.out
theorem laws_toEntryS.calls (k : Nat) (A0 : Option Addr) (c0 : Nat) (l0 : List (S108)) (r : List (S100)) (w : World) (hr0 : Kd.C k108 w A0 l0.length l0) (hc0 : l0.length ≤ c0) (h : laws_toEntryS.f k l0 = some r) :
  Calls Tryz.prog 53 #[.slice A0 l0.length c0] w fun e w' => ∃ v0_ : Value, e = .returned (v0_) ∧ Kd.R k100 100 w' w.heap.size (fun _ => True) v0_ r ∧ Below w.heap.size w w' := by
 have hu108 := Tryz.underlying108
 have hu100 := Tryz.underlying100
 have HR0 := Aside0.mk hr0
 have HC0 := Aside0.mk hc0
 clear hr0 hc0
 have HB := Aside0.mk (Below.refl w.heap.size w)
 unfold laws_toEntryS.f at h
 have H := h
 clear h
 have c2 := ite_y H
 replace H := ite_t H
 have c2b0 := eq_true c2
 have c2b1 := decide_eq_true c2
 clear c2
 have c3 := ite_y H
 replace H := ite_t H
 have c3b0 := eq_true c3
 have c3b1 := decide_eq_true c3
 clear c3
 obtain ⟨y101, hy101⟩ : ∃ y_ : List (S100), y_ = (List.replicate ((l0.length : Int) : Int).toNat z100) := ⟨_, rfl⟩
 first | replace H := bind_y hy101 H | rw [← hy101] at H
 have Ny101 := Aside0.mk hy101
 clear hy101
 have H' := Aside0.mk H
 clear H
 go_enter Tryz.func53, Tryz.ntmps53
 go_wp2_with (first | ((with_reducible refine gate_dst (N := 7) rfl ?_); refine Kd.R_make k100 _ 100 rfl (N := 7) rfl 31 _ _ rfl (l0.length : Int) rfl rfl Tryz.underlying31 (.agg #[(.string ⟨#[]⟩), (.string ⟨#[]⟩)]) 32 info100 rfl (by decide) (by omega) z100 (ok := fun _ => True) (okp := fun _ => True) (k100_mkM _ _ _ z100 ) (fun _ hk => hk) trivial (of_decide_eq_true (by with_reducible assumption)) (Nat.le_trans (Nat.mul_le_mul_right _ (of_decide_eq_true (by with_reducible assumption) : (l0.length : Int).toNat ≤ 8796093022208)) (by omega)) (Below.refl _ _) (Nat.le_refl _) ?_; intro v102 w4 ho5 hb hg_ hnew_; clear hg_ hnew_; (first | rw [← Ny101.out] at ho5 | (simp only [Int.reduceToNat] at ho5; rw [← Ny101.out] at ho5)); have HO103 := Aside0.mk (Kd.R_lower ho5 (bz HB.out)); replace HB := kB HB hb; clear hb ho5))
 go_loopg [4] k (fun kq v4 w' => ∃ (x3_1 : List (S100)) (x4_1 : Int), v4 = .int .i64 x4_1 ∧ Aside0 (laws_toEntryS.l0 kq l0 x3_1 x4_1 = some r) ∧ Aside0 (kq ≤ k) ∧ Aside0 (Kd.R k100 100 w' w.heap.size (fun _ => True) v102 x3_1) ∧ Aside0 (Below w.heap.size w w'))
 case atStart => exact ⟨(y101), (0), (by first | rfl | (simp; done) | (simp [*]; done)), H', ⟨Nat.le_refl _⟩, ⟨rx HO103.out⟩, ⟨bx HB.out⟩⟩
 case round =>
  clear H'
  try clear c2
  try clear c2b0
  try clear c2b1
  try clear p2
  try clear c3
  try clear c3b0
  try clear c3b1
  try clear c5
  obtain ⟨x3_1, x4_1, rfl, HA, HK1, HO_3, HB⟩ := hrel
  cases gk with
  | zero => exact absurd HA.out (by simp [laws_toEntryS.l0])
  | succ k1 =>
   have H := HA.out
   clear HA
   simp only [laws_toEntryS.l0] at H
   by_cases c6 : x4_1 < (l0.length : Int)
   ·rw [if_pos c6] at H
    have c6b0 := decide_eq_true c6
    clear c6
    have c7 := ite_y H
    replace H := ite_t H
    have c7b0 := decide_eq_true c7
    clear c7
    replace H := Option.bind_eq_some_iff.mp H
    obtain ⟨⟨t105, t106⟩, A80, H⟩ := H
    try dsimp only at H
    have A8 := Aside0.mk A80
    clear A80
    have c9 := ite_y H
    replace H := ite_t H
    have c9b0 := decide_eq_true c9
    clear c9
    obtain ⟨y107, hy107⟩ : ∃ y_ : List (S100), y_ = (x3_1.set (x4_1 : Int).toNat (⟨t105, t106⟩ : S100)) := ⟨_, rfl⟩
    first | replace H := bind_y hy107 H | rw [← hy107] at H
    have Ny107 := Aside0.mk hy107
    clear hy107
    have H' := Aside0.mk H
    clear H
    have p104 := of_decide_eq_true c7b0
    have q104 := of_decide_eq_true c6b0
    obtain ⟨ad104, e104, hx104_0, hx104_1⟩ := at_T108 HR0.out x4_1 p104 q104
    cases e104
    replace hx104_0 := px HB.out hx104_0
    replace hx104_1 := px HB.out hx104_1
    replace p104 := eq_true p104
    replace q104 := eq_true q104
    go_wp2_with (first | ((with_reducible refine gate_callee (f := 100) rfl ?_); refine goL (some 20) rfl rfl gf100 #[.agg #[.string ((rd_T108 l0 x4_1).f0), .string ((rd_T108 l0 x4_1).f1)]] rfl rfl ?_; (with_reducible refine (laws_toEntry.calls ((rd_T108 l0 x4_1).f0) ((rd_T108 l0 x4_1).f1) t105 t106 _ A8.out).mono ?_); rintro e w11 ⟨rfl, hb⟩; refine ⟨_, rfl, ?_⟩; replace HO_3 := kR HO_3 hb; replace HB := kB HB hb; (try clear hb); (try clear hb2); (try clear hk); (try clear hi); have p10 := of_decide_eq_true c7b0; have q10 : (x4_1 : Int) < ((x3_1.length : Int) : Int) := of_decide_eq_true (by with_reducible assumption); obtain ⟨go10, co10, eo10, gb10, gl10, cl10, HG10⟩ := Kd.R_form HO_3.out (by omega); (first | cases eo10 | (injection eo10 with ea_ en_ ec_; (first | subst ea_ | (injection ea_ with ea_; subst ea_)); subst ec_; clear en_)); have GB10 := Aside0.mk gb10; have GG10 := Aside0.mk HG10; clear gb10 gl10 HG10; obtain ⟨ce10, hcl10, hM10, hcc10, hfr10⟩ := Kd.R_elem HO_3.out z100 (x4_1 : Int) p10 q10; obtain rfl := k100_openM hM10; have hx10_0 : w11.cell? ⟨go10, (x4_1 : Int).toNat * 2, none⟩ = some (.string ((rd_T100 x3_1 x4_1).f0)) := hcc10 0 _ rfl; have hx10_1 : w11.cell? ⟨go10, (x4_1 : Int).toNat * 2 + 1, none⟩ = some (.string ((rd_T100 x3_1 x4_1).f1)) := hcc10 1 _ rfl; have hf10_0 : w11.frozen? ⟨go10, (x4_1 : Int).toNat * 2, none⟩ = false := hfr10 0; have hf10_1 : w11.frozen? ⟨go10, (x4_1 : Int).toNat * 2 + 1, none⟩ = false := hfr10 1; clear hcl10 hcc10 hfr10 hM10; replace p10 := eq_true p10; replace q10 := eq_true q10; have HX12 := Aside0.mk (show Kd.R k100 100 w11 w.heap.size (fun _ => True) (.slice (some ⟨go10, 0, none⟩) x3_1.length co10) x3_1 from (rx HO_3.out)); obtain ⟨ce12, hcl12, hM12, hcc12, hfr12⟩ := Kd.R_elem HX12.out z100 (x4_1 : Int) (of_decide_eq_true (by with_reducible assumption)) (by have h_ : (x4_1 : Int) < ((x3_1.length : Int) : Int) := of_decide_eq_true (by with_reducible assumption); first | exact h_ | (have e_ := (Kd.R_reads' HO_3.out).1; omega) | simpa using h_); obtain rfl := k100_openM hM12; have HP12 := Kd.R_seg HX12.out (x4_1 : Int) (of_decide_eq_true (by with_reducible assumption)) (by have h_ : (x4_1 : Int) < ((x3_1.length : Int) : Int) := of_decide_eq_true (by with_reducible assumption); first | exact h_ | (have e_ := (Kd.R_reads' HO_3.out).1; omega) | simpa using h_) (seg := [.string t105, .string t106]) (j := 0) hcl12 hcc12 (show 2 ≤ 2 from by decide) (x' := (⟨t105, t106⟩ : S100)) (k100_mkM _ _ _ (⟨t105, t106⟩ : S100) ) (fun _ hk => hk); have hx12_0 := hcc12 0 _ rfl; (try simp only [show (k100).sz = 2 from rfl, Nat.mul_one, Nat.add_zero] at hx12_0); have hf12_0 := hfr12 0; (try simp only [show (k100).sz = 2 from rfl, Nat.mul_one, Nat.add_zero] at hf12_0); have hx12_1 := hcc12 1 _ rfl; (try simp only [show (k100).sz = 2 from rfl, Nat.mul_one, Nat.add_zero] at hx12_1); have hf12_1 := hfr12 1; (try simp only [show (k100).sz = 2 from rfl, Nat.mul_one, Nat.add_zero] at hf12_1); clear hcl12 hcc12 hfr12 hM12) | ((with_reducible refine gate_store (t := 100) (p := 21) rfl ?_); refine store_event (t := 100) (p := 21) (v := ?vo_w13) (w1 := ((w11.setCell ⟨go10, (x4_1 : Int).toNat * 2, none⟩ (.string t105)).setCell ⟨go10, (x4_1 : Int).toNat * 2 + 1, none⟩ (.string t106))) ?hg ?ho ?hn ?hr ?_; (case ho => rfl); (case hg => rfl); (case hn => rfl); (case hr => first | (go_simp; done) | (go_simp; rfl)); intro w13 hw; have hg : w11.grownBy w13 (some go10) := (by rw [hw]; exact HP12.2); have hp_ : Kd.R k100 100 w13 w.heap.size (fun _ => True) (.slice (some ⟨go10, 0, none⟩) x3_1.length co10) y107 := (by rw [hw, Ny107.out]; exact HP12.1); clear HP12; replace HO_3 := Aside0.mk (hp_); replace HB := Aside0.mk ((by rw [hw]; exact below_set (below_set (HB.out) GB10.out) GB10.out : Below w.heap.size w w13)); clear hg hw hp_))
    go_roundg k1
    case measure => have := HK1.out; omega
    case rel => exact ⟨(y107), (wrap64 (x4_1 + 1)), (by first | rfl | (simp; done) | (simp [*]; done)), H', ⟨by have := HK1.out; omega⟩, ⟨rx HO_3.out⟩, ⟨bx HB.out⟩⟩
   ·rw [if_neg c6] at H
    have c6b0 := decide_eq_false c6
    clear c6
    obtain rfl := Option.some.inj H
    go_wp2
    go_ret
    exact ⟨_, by rfl, rx HO_3.out, bx HB.out⟩
theorem gf68 : Go_ Tryz.prog 68 Tryz.f68 := ⟨Tryz.func68, by kernel_rfl, rfl⟩
def laws_toStringS.l0 : Nat → List ByteArray → List ByteArray → Int → Option (List ByteArray)
 | 0, _, _, _ => none
 | k + 1, x0, x3, x4 => if x4 < (x0.length : Int) then (if 0 ≤ x4 then (if x4 < (x3.length : Int) then (laws_toStringS.l0 k x0 (x3.set (x4 : Int).toNat (rdOf ByteArray.empty x0 x4)) (wrap64 (x4 + 1))) else (none)) else (none)) else (some x3)
def laws_toStringS.f (k : Nat) (l0 : List ByteArray) : Option (List ByteArray) := if 0 ≤ (l0.length : Int) then (if ((l0.length : Int) : Int).toNat ≤ 17592186044416 then (laws_toStringS.l0 k l0 (List.replicate ((l0.length : Int) : Int).toNat (⟨#[]⟩ : ByteArray)) 0) else (none)) else (none)
theorem laws_toStringS.mono_l : ∀ k, (∀ y0 y1 y2, LeO (laws_toStringS.l0 k y0 y1 y2) (laws_toStringS.l0 (k + 1) y0 y1 y2))
 | 0 => fun _ _ _ r h => by simp [laws_toStringS.l0] at h
 | k + 1 => by
  have ih0 := laws_toStringS.mono_l k
  ·intro y0 y1 y2
   unfold laws_toStringS.l0
   have I0_ := fun a b c => LeC.mk (ih0 a b c)
   exact LeC.out
theorem laws_toStringS.mono : ∀ a0 k, LeO (laws_toStringS.f k a0) (laws_toStringS.f (k + 1) a0) := by
 intro a0 k
 have ih0 := laws_toStringS.mono_l k
 unfold laws_toStringS.f
 have I0_ := fun a b c => LeC.mk (ih0 a b c)
 exact LeC.out
theorem laws_toStringS.calls (k : Nat) (A0 : Option Addr) (c0 : Nat) (l0 : List ByteArray) (r : List ByteArray) (w : World) (hr0 : Kd.C Kd.string w A0 l0.length l0) (hc0 : l0.length ≤ c0) (h : laws_toStringS.f k l0 = some r) :
  Calls Tryz.prog 68 #[.slice A0 l0.length c0] w fun e w' => ∃ v0_ : Value, e = .returned (v0_) ∧ Kd.R Kd.string 9 w' w.heap.size (fun _ => True) v0_ r ∧ Below w.heap.size w w' := by
 have HR0 := Aside0.mk hr0
 have HC0 := Aside0.mk hc0
 clear hr0 hc0
 have HB := Aside0.mk (Below.refl w.heap.size w)
 unfold laws_toStringS.f at h
 have H := h
 clear h
 have c2 := ite_y H
 replace H := ite_t H
 have c2b0 := eq_true c2
 have c2b1 := decide_eq_true c2
 clear c2
 have c3 := ite_y H
 replace H := ite_t H
 have c3b0 := eq_true c3
 have c3b1 := decide_eq_true c3
 clear c3
 obtain ⟨y101, hy101⟩ : ∃ y_ : List ByteArray, y_ = (List.replicate ((l0.length : Int) : Int).toNat (⟨#[]⟩ : ByteArray)) := ⟨_, rfl⟩
 first | replace H := bind_y hy101 H | rw [← hy101] at H
 have Ny101 := Aside0.mk hy101
 clear hy101
 have H' := Aside0.mk H
 clear H
 go_enter Tryz.func68, Tryz.ntmps68
 go_wp2_with (first | ((with_reducible refine gate_dst (N := 7) rfl ?_); refine Kd.R_make Kd.string _ 9 rfl (N := 7) rfl 22 _ _ rfl (l0.length : Int) rfl rfl Tryz.underlying22 (.string ⟨#[]⟩) 16 info9 rfl (by decide) (by omega) (⟨#[]⟩ : ByteArray) (ok := fun _ => True) (okp := fun _ => True) rfl (fun _ hk => hk) trivial (of_decide_eq_true (by with_reducible assumption)) (Nat.le_trans (Nat.mul_le_mul_right _ (of_decide_eq_true (by with_reducible assumption) : (l0.length : Int).toNat ≤ 17592186044416)) (by omega)) (Below.refl _ _) (Nat.le_refl _) ?_; intro v102 w4 ho5 hb hg_ hnew_; clear hg_ hnew_; (first | rw [← Ny101.out] at ho5 | (simp only [Int.reduceToNat] at ho5; rw [← Ny101.out] at ho5)); have HO103 := Aside0.mk (Kd.R_lower ho5 (bz HB.out)); replace HB := kB HB hb; clear hb ho5))
 go_loopg [4] k (fun kq v4 w' => ∃ (x3_1 : List ByteArray) (x4_1 : Int), v4 = .int .i64 x4_1 ∧ Aside0 (laws_toStringS.l0 kq l0 x3_1 x4_1 = some r) ∧ Aside0 (kq ≤ k) ∧ Aside0 (Kd.R Kd.string 9 w' w.heap.size (fun _ => True) v102 x3_1) ∧ Aside0 (Below w.heap.size w w'))
 case atStart => exact ⟨(y101), (0), (by first | rfl | (simp; done) | (simp [*]; done)), H', ⟨Nat.le_refl _⟩, ⟨rx HO103.out⟩, ⟨bx HB.out⟩⟩
 case round =>
  clear H'
  try clear c2
  try clear c2b0
  try clear c2b1
  try clear p2
  try clear c3
  try clear c3b0
  try clear c3b1
  obtain ⟨x3_1, x4_1, rfl, HA, HK1, HO_3, HB⟩ := hrel
  cases gk with
  | zero => exact absurd HA.out (by simp [laws_toStringS.l0])
  | succ k1 =>
   have H := HA.out
   clear HA
   simp only [laws_toStringS.l0] at H
   by_cases c6 : x4_1 < (l0.length : Int)
   ·rw [if_pos c6] at H
    have c6b0 := decide_eq_true c6
    clear c6
    have c7 := ite_y H
    replace H := ite_t H
    have c7b0 := decide_eq_true c7
    clear c7
    have c8 := ite_y H
    replace H := ite_t H
    have c8b0 := decide_eq_true c8
    clear c8
    obtain ⟨y105, hy105⟩ : ∃ y_ : List ByteArray, y_ = (x3_1.set (x4_1 : Int).toNat (rdOf ByteArray.empty l0 x4_1)) := ⟨_, rfl⟩
    first | replace H := bind_y hy105 H | rw [← hy105] at H
    have Ny105 := Aside0.mk hy105
    clear hy105
    have H' := Aside0.mk H
    clear H
    have p104 := of_decide_eq_true c7b0
    have q104 := of_decide_eq_true c6b0
    obtain ⟨ad104, e104, hx104_0⟩ := Kd.at_string HR0.out x4_1 p104 q104
    cases e104
    replace hx104_0 := px HB.out hx104_0
    replace p104 := eq_true p104
    replace q104 := eq_true q104
    have p9 := of_decide_eq_true c7b0
    have q9 : (x4_1 : Int) < ((x3_1.length : Int) : Int) := of_decide_eq_true (by with_reducible assumption)
    obtain ⟨go9, co9, eo9, gb9, gl9, cl9, HG9⟩ := Kd.R_form HO_3.out (by omega)
    (first | cases eo9 | (injection eo9 with ea_ en_ ec_; (first | subst ea_ | (injection ea_ with ea_; subst ea_)); subst ec_; clear en_))
    have GB9 := Aside0.mk gb9
    have GG9 := Aside0.mk HG9
    clear gb9 gl9 HG9
    obtain ⟨hx9_0, hf9_0⟩ := Kd.R_celln (⟨#[]⟩ : ByteArray) HO_3.out (x4_1 : Int) p9 q9
    replace p9 := eq_true p9
    replace q9 := eq_true q9
    have HP10 := Kd.R_putg HO_3.out (x4_1 : Int) (rdOf ByteArray.empty l0 x4_1)
    go_wp2_with (first | ((with_reducible refine gate_store (t := 9) (p := 20) rfl ?_); refine store_event (t := 9) (p := 20) (v := ?vo_w11) (w1 := (wr.setCell ⟨go9, (x4_1 : Int).toNat, none⟩ (.string (rdOf ByteArray.empty l0 x4_1)))) ?hg ?ho ?hn ?hr ?_; (case ho => rfl); (case hg => rfl); (case hn => rfl); (case hr => first | (go_simp; done) | (go_simp; rfl)); intro w11 hw; have hg : wr.grownBy w11 (some go9) := (by rw [hw]; exact HP10.2); have hp_ : Kd.R Kd.string 9 w11 w.heap.size (fun _ => True) (.slice (some ⟨go9, 0, none⟩) x3_1.length co9) y105 := (by rw [hw, Ny105.out]; exact HP10.1); clear HP10; replace HO_3 := Aside0.mk (hp_); replace HB := Aside0.mk ((by rw [hw]; exact below_set (HB.out) GB9.out : Below w.heap.size w w11)); clear hg hw hp_))
    go_roundg k1
    case measure => have := HK1.out; omega
    case rel => exact ⟨(y105), (wrap64 (x4_1 + 1)), (by first | rfl | (simp; done) | (simp [*]; done)), H', ⟨by have := HK1.out; omega⟩, ⟨rx HO_3.out⟩, ⟨bx HB.out⟩⟩
   ·rw [if_neg c6] at H
    have c6b0 := decide_eq_false c6
    clear c6
    obtain rfl := Option.some.inj H
    go_wp2
    go_ret
    exact ⟨_, by rfl, rx HO_3.out, bx HB.out⟩
theorem gf27 : Go_ Tryz.prog 27 Tryz.f27 := ⟨Tryz.func27, by kernel_rfl, rfl⟩
def laws_toDelta.f (k : Nat) (l0_0 : List ByteArray) (l0_1 : List (S108)) (a0_2 : Bool) (l0_3 : List (S106)) : Option (List ByteArray × (List (S100)) × Bool × (List (S103))) := (laws_toStringS.f k l0_0).bind fun t104 => ((laws_toEntryS.f k l0_1).bind fun t107 => ((laws_toAffixS.f k l0_3).bind fun t110 => (some (t104, t107, a0_2, t110))))
theorem laws_toDelta.mono : ∀ a0 a1 a2 a3 k, LeO (laws_toDelta.f k a0 a1 a2 a3) (laws_toDelta.f (k + 1) a0 a1 a2 a3) := by
 intro a0 a1 a2 a3 k
 unfold laws_toDelta.f
 have I0_ := fun a b => LeC.mk (laws_toAffixS.mono a b)
 have I1_ := fun a b => LeC.mk (laws_toEntryS.mono a b)
 have I2_ := fun a b => LeC.mk (laws_toStringS.mono a b)
 exact LeC.out
theorem laws_toDelta.calls (k : Nat) (A0_0 : Option Addr) (c0_0 : Nat) (l0_0 : List ByteArray) (A0_1 : Option Addr) (c0_1 : Nat) (l0_1 : List (S108)) (a0_2 : Bool) (A0_3 : Option Addr) (c0_3 : Nat) (l0_3 : List (S106)) (r1 : List ByteArray) (r2 : List (S100)) (r3 : Bool) (r4 : List (S103)) (w : World) (hr0_0 : Kd.C Kd.string w A0_0 l0_0.length l0_0) (hc0_0 : l0_0.length ≤ c0_0) (hr0_1 : Kd.C k108 w A0_1 l0_1.length l0_1) (hc0_1 : l0_1.length ≤ c0_1) (hr0_3 : Kd.C k106 w A0_3 l0_3.length l0_3) (hc0_3 : l0_3.length ≤ c0_3) (h : laws_toDelta.f k l0_0 l0_1 a0_2 l0_3 = some (r1, r2, r3, r4)) :
  Calls Tryz.prog 27 #[.agg #[.slice A0_0 l0_0.length c0_0, .slice A0_1 l0_1.length c0_1, .bool a0_2, .slice A0_3 l0_3.length c0_3]] w fun e w' => ∃ v0_ v1_ v3_ : Value, e = .returned (.agg #[v0_, v1_, .bool r3, v3_]) ∧ Kd.R Kd.string 9 w' w.heap.size (fun _ => True) v0_ r1 ∧ Kd.R k100 100 w' w.heap.size (fun _ => True) v1_ r2 ∧ Kd.R k103 103 w' w.heap.size (fun _ => True) v3_ r4 ∧ Below w.heap.size w w' := by
 have hu26 := Tryz.underlying26
 have hu34 := Tryz.underlying34
 have HR0_0 := Aside0.mk hr0_0
 have HC0_0 := Aside0.mk hc0_0
 clear hr0_0 hc0_0
 have HR0_1 := Aside0.mk hr0_1
 have HC0_1 := Aside0.mk hc0_1
 clear hr0_1 hc0_1
 have HR0_3 := Aside0.mk hr0_3
 have HC0_3 := Aside0.mk hc0_3
 clear hr0_3 hc0_3
 have HB := Aside0.mk (Below.refl w.heap.size w)
 unfold laws_toDelta.f at h
 have H := h
 clear h
 replace H := Option.bind_eq_some_iff.mp H
 obtain ⟨t104, A20, H⟩ := H
 have A2 := Aside0.mk A20
 clear A20
 replace H := Option.bind_eq_some_iff.mp H
 obtain ⟨t107, A30, H⟩ := H
 have A3 := Aside0.mk A30
 clear A30
 replace H := Option.bind_eq_some_iff.mp H
 obtain ⟨t110, A40, H⟩ := H
 have A4 := Aside0.mk A40
 clear A40
 simp only [Option.some.injEq, Prod.mk.injEq] at H
 obtain ⟨rfl, rfl, rfl, rfl⟩ := H
 go_enter Tryz.func27, Tryz.ntmps27
 go_wp2_with (first | ((with_reducible refine gate_dst (N := 1) rfl ?_); refine box_event rfl (N := 1) rfl (cs := #[.slice A0_0 l0_0.length c0_0, .slice A0_1 l0_1.length c0_1, .bool a0_2, .slice A0_3 l0_3.length c0_3]) (t := 26) (by go_simp <;> rfl) ?_; intro gb101 hg w5 hbox hb; have BK101 := Aside0.mk (hbox); have GW101 := Le_.mk (ge_of hg HB.out); have GE101 := Le_.mk (ge_of hg HB.out); replace HB := kB HB hb; clear hb hbox hg) | ((with_reducible refine gate_dst (N := 2) rfl ?_); refine box_event rfl (N := 2) rfl (cs := #[.slice none 0 0, .slice none 0 0, .bool false, .slice none 0 0]) (t := 34) (by go_simp <;> rfl) ?_; intro gb102 hg w6 hbox hb; have BK102 := Aside0.mk (hbox); have GW102 := Le_.mk (ge_of hg HB.out); have GE102 := Le_.mk (ge_of hg HB.out); replace HB := kB HB hb; have NB101_102 := Ne_.mk (nl hg (blk_lt BK101.out)); have NB102_101 := Ne_.mk (ng hg (blk_lt BK101.out)); replace BK101 := kb BK101 hb; clear hb hbox hg) | ((with_reducible refine gate_dst (N := 3) rfl ?_); refine box_event rfl (N := 3) rfl (cs := #[.slice none 0 0, .slice none 0 0, .bool false, .slice none 0 0]) (t := 34) (by go_simp <;> rfl) ?_; intro gb103 hg w7 hbox hb; have BK103 := Aside0.mk (hbox); have GW103 := Le_.mk (ge_of hg HB.out); have GE103 := Le_.mk (ge_of hg HB.out); replace HB := kB HB hb; have NB101_103 := Ne_.mk (nl hg (blk_lt BK101.out)); have NB103_101 := Ne_.mk (ng hg (blk_lt BK101.out)); replace BK101 := kb BK101 hb; have NB102_103 := Ne_.mk (nl hg (blk_lt BK102.out)); have NB103_102 := Ne_.mk (ng hg (blk_lt BK102.out)); replace BK102 := kb BK102 hb; clear hb hbox hg; have hnb8 := NB101_102.out; have hnc8 := NB102_101.out; have hnb9 := NB101_103.out; have hnc9 := NB103_101.out; have hz10 := cells_4 BK101.out) | ((with_reducible refine gate_callee (f := 68) rfl ?_); refine goL (some 6) rfl rfl gf68 #[.slice A0_0 l0_0.length c0_0] rfl rfl ?_; (with_reducible refine (laws_toStringS.calls k _ _ l0_0 t104 _ (cx (Kd.C_below HR0_0.out HB.out)) HC0_0.out A2.out).mono ?_); rintro e w11 ⟨v105, rfl, ho0, hb⟩; refine ⟨_, rfl, ?_⟩; have HO106 := Aside0.mk (Kd.R_lower ho0 (bz HB.out)); replace BK101 := kb BK101 hb; replace BK102 := kb BK102 hb; replace BK103 := kb BK103 hb; replace HB := kB HB hb; (try clear hb); (try clear hb2); (try clear hk); (try clear hi); (try clear ho0); obtain ⟨Ao12, co12, eo12⟩ := Kd.R_slice HO106.out; subst eo12; have hnb13 := NB103_102.out; have hnc13 := NB102_103.out; have hz14 := cells_4 BK103.out; have hz15 := cells_4 BK101.out) | ((with_reducible refine gate_callee (f := 53) rfl ?_); refine goL (some 10) rfl rfl gf53 #[.slice A0_1 l0_1.length c0_1] rfl rfl ?_; (with_reducible refine (laws_toEntryS.calls k _ _ l0_1 t107 _ (Kd.C_below HR0_1.out (bx HB.out)) HC0_1.out A3.out).mono ?_); rintro e w16 ⟨v108, rfl, ho0, hb⟩; refine ⟨_, rfl, ?_⟩; replace HO106 := Aside0.mk (Kd.R_below (rf1 HO106.out BK103.out (by decide)) hb); have HO109 := Aside0.mk (Kd.R_lower ho0 (bz HB.out)); replace BK101 := Aside0.mk (blk_below (g := gb101) (o := .cells #[.slice A0_0 l0_0.length c0_0, .slice A0_1 l0_1.length c0_1, .bool a0_2, .slice A0_3 l0_3.length c0_3] 26 (0, 0)) (cl BK101.out rfl) hb); replace BK102 := Aside0.mk (blk_below (g := gb102) (o := .cells #[.slice none 0 0, .slice none 0 0, .bool false, .slice none 0 0] 34 (0, 0)) (cl BK102.out rfl) hb); replace BK103 := Aside0.mk (blk_below (g := gb103) (o := .cells #[.slice Ao12 t104.length co12, .slice none 0 0, .bool false, .slice none 0 0] 34 (0, 0)) (cl BK103.out rfl) hb); replace HB := kB HB hb; (try clear hb); (try clear hb2); (try clear hk); (try clear hi); (try clear ho0); obtain ⟨Ao17, co17, eo17⟩ := Kd.R_slice HO109.out; subst eo17; have hz18 := cells_4 BK103.out; have hz19 := cells_4 BK101.out) | ((with_reducible refine gate_callee (f := 52) rfl ?_); refine goL (some 17) rfl rfl gf52 #[.slice A0_3 l0_3.length c0_3] rfl rfl ?_; (with_reducible refine (laws_toAffixS.calls k _ _ l0_3 t110 _ (Kd.C_below HR0_3.out (bx HB.out)) HC0_3.out A4.out).mono ?_); rintro e w20 ⟨v111, rfl, ho0, hb⟩; refine ⟨_, rfl, ?_⟩; replace HO106 := Aside0.mk (Kd.R_below (rf1 HO106.out BK103.out (by decide)) hb); replace HO109 := Aside0.mk (Kd.R_below (rf1 HO109.out BK103.out (by decide)) hb); have HO112 := Aside0.mk (Kd.R_lower ho0 (bz HB.out)); replace BK101 := Aside0.mk (blk_below (g := gb101) (o := .cells #[.slice A0_0 l0_0.length c0_0, .slice A0_1 l0_1.length c0_1, .bool a0_2, .slice A0_3 l0_3.length c0_3] 26 (0, 0)) (cl BK101.out rfl) hb); replace BK102 := Aside0.mk (blk_below (g := gb102) (o := .cells #[.slice none 0 0, .slice none 0 0, .bool false, .slice none 0 0] 34 (0, 0)) (cl BK102.out rfl) hb); replace BK103 := Aside0.mk (blk_below (g := gb103) (o := .cells #[.slice Ao12 t104.length co12, .slice Ao17 t107.length co17, .bool a0_2, .slice none 0 0] 34 (0, 0)) (cl BK103.out rfl) hb); replace HB := kB HB hb; (try clear hb); (try clear hb2); (try clear hk); (try clear hi); (try clear ho0); obtain ⟨Ao21, co21, eo21⟩ := Kd.R_slice HO112.out; subst eo21; have hz22 := cells_4 BK103.out; have hz23 := cells_4 BK102.out))
 refine bodyPost_ret (results_cell_row rfl _ _ gb102 34 #[.slice Ao12 t104.length co12, .slice Ao17 t107.length co17, .bool a0_2, .slice Ao21 t110.length co21] (0, 0) _ rfl (cl BK102.out rfl) Tryz.underlying34 rfl (by kernel_rfl)) rfl ?_
 exact ⟨_, _, _, by rfl, Kd.R_mono (rf2 HO106.out BK103.out BK102.out (by decide) (by decide)) (fun _ _ => trivial), Kd.R_mono (rf2 HO109.out BK103.out BK102.out (by decide) (by decide)) (fun _ _ => trivial), Kd.R_mono (rf2 HO112.out BK103.out BK102.out (by decide) (by decide)) (fun _ _ => trivial), bx HB.out⟩
theorem gf9 : Go_ Tryz.prog 9 Tryz.f9 := ⟨Tryz.func9, by kernel_rfl, rfl⟩
def laws_toRelease.f (k : Nat) (a0_0 : Int) (l0_1 : List ByteArray) (l0_2 : List (S108)) (a0_3 : Bool) (l0_4 : List (S106)) (a0_5 : ByteArray) (a0_6 : ByteArray) : Option (Int × List ByteArray × (List (S100)) × Bool × (List (S103)) × ByteArray × ByteArray) := (laws_toDelta.f k l0_1 l0_2 a0_3 l0_4).bind fun bt104 => (some (a0_0, bt104.1, bt104.2.1, bt104.2.2.1, bt104.2.2.2, a0_5, a0_6))
theorem laws_toRelease.mono : ∀ a0 a1 a2 a3 a4 a5 a6 k, LeO (laws_toRelease.f k a0 a1 a2 a3 a4 a5 a6) (laws_toRelease.f (k + 1) a0 a1 a2 a3 a4 a5 a6) := by
 intro a0 a1 a2 a3 a4 a5 a6 k
 unfold laws_toRelease.f
 have I0_ := fun a b c d e => LeC.mk (laws_toDelta.mono a b c d e)
 exact LeC.out
theorem laws_toRelease.calls (k : Nat) (a0_0 : Int) (A0_1 : Option Addr) (c0_1 : Nat) (l0_1 : List ByteArray) (A0_2 : Option Addr) (c0_2 : Nat) (l0_2 : List (S108)) (a0_3 : Bool) (A0_4 : Option Addr) (c0_4 : Nat) (l0_4 : List (S106)) (a0_5 : ByteArray) (a0_6 : ByteArray) (r1 : Int) (r2 : List ByteArray) (r3 : List (S100)) (r4 : Bool) (r5 : List (S103)) (r6 : ByteArray) (r7 : ByteArray) (w : World) (hr0_1 : Kd.C Kd.string w A0_1 l0_1.length l0_1) (hc0_1 : l0_1.length ≤ c0_1) (hr0_2 : Kd.C k108 w A0_2 l0_2.length l0_2) (hc0_2 : l0_2.length ≤ c0_2) (hr0_4 : Kd.C k106 w A0_4 l0_4.length l0_4) (hc0_4 : l0_4.length ≤ c0_4) (h : laws_toRelease.f k a0_0 l0_1 l0_2 a0_3 l0_4 a0_5 a0_6 = some (r1, r2, r3, r4, r5, r6, r7)) :
  Calls Tryz.prog 9 #[.agg #[.int .i64 a0_0, .slice A0_1 l0_1.length c0_1, .slice A0_2 l0_2.length c0_2, .bool a0_3, .slice A0_4 l0_4.length c0_4, .string a0_5, .string a0_6]] w fun e w' => ∃ v1_ v2_ v4_ : Value, e = .returned (.agg #[.int .i64 r1, v1_, v2_, .bool r4, v4_, .string r6, .string r7]) ∧ Kd.R Kd.string 9 w' w.heap.size (fun _ => True) v1_ r2 ∧ Kd.R k100 100 w' w.heap.size (fun _ => True) v2_ r3 ∧ Kd.R k103 103 w' w.heap.size (fun _ => True) v4_ r5 ∧ Below w.heap.size w w' := by
 have hu28 := Tryz.underlying28
 have hu36 := Tryz.underlying36
 have hu26 := Tryz.underlying26
 have hu34 := Tryz.underlying34
 have HR0_1 := Aside0.mk hr0_1
 have HC0_1 := Aside0.mk hc0_1
 clear hr0_1 hc0_1
 have HR0_2 := Aside0.mk hr0_2
 have HC0_2 := Aside0.mk hc0_2
 clear hr0_2 hc0_2
 have HR0_4 := Aside0.mk hr0_4
 have HC0_4 := Aside0.mk hc0_4
 clear hr0_4 hc0_4
 have HB := Aside0.mk (Below.refl w.heap.size w)
 unfold laws_toRelease.f at h
 have H := h
 clear h
 replace H := Option.bind_eq_some_iff.mp H
 obtain ⟨⟨t104, t107, t110, t111⟩, A20, H⟩ := H
 try dsimp only at H
 have A2 := Aside0.mk A20
 clear A20
 simp only [Option.some.injEq, Prod.mk.injEq] at H
 obtain ⟨rfl, rfl, rfl, rfl, rfl, rfl, rfl⟩ := H
 go_enter Tryz.func9, Tryz.ntmps9
 go_wp2_with (first | ((with_reducible refine gate_dst (N := 1) rfl ?_); refine box_event rfl (N := 1) rfl (cs := #[.int .i64 a0_0, .slice A0_1 l0_1.length c0_1, .slice A0_2 l0_2.length c0_2, .bool a0_3, .slice A0_4 l0_4.length c0_4, .string a0_5, .string a0_6]) (t := 28) (by go_simp <;> rfl) ?_; intro gb101 hg w3 hbox hb; have BK101 := Aside0.mk (hbox); have GW101 := Le_.mk (ge_of hg HB.out); have GE101 := Le_.mk (ge_of hg HB.out); replace HB := kB HB hb; clear hb hbox hg) | ((with_reducible refine gate_dst (N := 2) rfl ?_); refine box_event rfl (N := 2) rfl (cs := #[.int .i64 0, .slice none 0 0, .slice none 0 0, .bool false, .slice none 0 0, .string (⟨#[]⟩ : ByteArray), .string (⟨#[]⟩ : ByteArray)]) (t := 36) (by go_simp <;> rfl) ?_; intro gb102 hg w4 hbox hb; have BK102 := Aside0.mk (hbox); have GW102 := Le_.mk (ge_of hg HB.out); have GE102 := Le_.mk (ge_of hg HB.out); replace HB := kB HB hb; have NB101_102 := Ne_.mk (nl hg (blk_lt BK101.out)); have NB102_101 := Ne_.mk (ng hg (blk_lt BK101.out)); replace BK101 := kb BK101 hb; clear hb hbox hg) | ((with_reducible refine gate_dst (N := 3) rfl ?_); refine box_event rfl (N := 3) rfl (cs := #[.int .i64 0, .slice none 0 0, .slice none 0 0, .bool false, .slice none 0 0, .string (⟨#[]⟩ : ByteArray), .string (⟨#[]⟩ : ByteArray)]) (t := 36) (by go_simp <;> rfl) ?_; intro gb103 hg w5 hbox hb; have BK103 := Aside0.mk (hbox); have GW103 := Le_.mk (ge_of hg HB.out); have GE103 := Le_.mk (ge_of hg HB.out); replace HB := kB HB hb; have NB101_103 := Ne_.mk (nl hg (blk_lt BK101.out)); have NB103_101 := Ne_.mk (ng hg (blk_lt BK101.out)); replace BK101 := kb BK101 hb; have NB102_103 := Ne_.mk (nl hg (blk_lt BK102.out)); have NB103_102 := Ne_.mk (ng hg (blk_lt BK102.out)); replace BK102 := kb BK102 hb; clear hb hbox hg; have hnb6 := NB101_102.out; have hnc6 := NB102_101.out; have hnb7 := NB101_103.out; have hnc7 := NB103_101.out; have hz8 := cells_7 BK101.out; have hnb9 := NB103_102.out; have hnc9 := NB102_103.out; have hz10 := cells_7 BK103.out) | ((with_reducible refine gate_callee (f := 27) rfl ?_); refine goL (some 9) rfl rfl gf27 #[.agg #[.slice A0_1 l0_1.length c0_1, .slice A0_2 l0_2.length c0_2, .bool a0_3, .slice A0_4 l0_4.length c0_4]] rfl rfl ?_; (with_reducible refine (laws_toDelta.calls k _ _ l0_1 _ _ l0_2 a0_3 _ _ l0_4 t104 t107 t110 t111 _ (Kd.C_below HR0_1.out (bx HB.out)) HC0_1.out (Kd.C_below HR0_2.out (bx HB.out)) HC0_2.out (Kd.C_below HR0_4.out (bx HB.out)) HC0_4.out A2.out).mono ?_); rintro e w11 ⟨v105, v108, v112, rfl, ho0, ho1, ho2, hb⟩; refine ⟨_, rfl, ?_⟩; have HO106 := Aside0.mk (Kd.R_lower ho0 (bz HB.out)); have HO109 := Aside0.mk (Kd.R_lower ho1 (bz HB.out)); have HO113 := Aside0.mk (Kd.R_lower ho2 (bz HB.out)); replace BK101 := Aside0.mk (blk_below (g := gb101) (o := .cells #[.int .i64 a0_0, .slice A0_1 l0_1.length c0_1, .slice A0_2 l0_2.length c0_2, .bool a0_3, .slice A0_4 l0_4.length c0_4, .string a0_5, .string a0_6] 28 (0, 0)) (cl BK101.out rfl) hb); replace BK102 := Aside0.mk (blk_below (g := gb102) (o := .cells #[.int .i64 0, .slice none 0 0, .slice none 0 0, .bool false, .slice none 0 0, .string (⟨#[]⟩ : ByteArray), .string (⟨#[]⟩ : ByteArray)] 36 (0, 0)) (cl BK102.out rfl) hb); replace BK103 := Aside0.mk (blk_below (g := gb103) (o := .cells #[.int .i64 a0_0, .slice none 0 0, .slice none 0 0, .bool false, .slice none 0 0, .string (⟨#[]⟩ : ByteArray), .string (⟨#[]⟩ : ByteArray)] 36 (0, 0)) (cl BK103.out rfl) hb); replace HB := kB HB hb; (try clear hb); (try clear hb2); (try clear hk); (try clear hi); (try clear ho0); (try clear ho1); (try clear ho2); obtain ⟨Ao12, co12, eo12⟩ := Kd.R_slice HO106.out; subst eo12; have hz13 := cells_7 BK103.out; obtain ⟨Ao14, co14, eo14⟩ := Kd.R_slice HO109.out; subst eo14; obtain ⟨Ao15, co15, eo15⟩ := Kd.R_slice HO113.out; subst eo15; have hz16 := cells_7 BK101.out; have hz17 := cells_7 BK102.out))
 refine bodyPost_ret (results_cell_row rfl _ _ gb102 36 #[.int .i64 a0_0, .slice Ao12 t104.length co12, .slice Ao14 t107.length co14, .bool t110, .slice Ao15 t111.length co15, .string a0_5, .string a0_6] (0, 0) _ rfl (cl BK102.out rfl) Tryz.underlying36 rfl (by kernel_rfl)) rfl ?_
 exact ⟨_, _, _, by rfl, Kd.R_mono (rf2 HO106.out BK103.out BK102.out (by decide) (by decide)) (fun _ _ => trivial), Kd.R_mono (rf2 HO109.out BK103.out BK102.out (by decide) (by decide)) (fun _ _ => trivial), Kd.R_mono (rf2 HO113.out BK103.out BK102.out (by decide) (by decide)) (fun _ _ => trivial), bx HB.out⟩
theorem gf74 : Go_ Tryz.prog 74 Tryz.f74 := ⟨Tryz.func74, by kernel_rfl, rfl⟩
def spec_l6Hex.l0 : Nat → ByteArray → ByteArray → List Int → Int → Option (ByteArray)
 | 0, _, _, _, _ => none
 | k + 1, x0, x3, x4, x5 => if x5 < (x0.size : Int) then (if 0 ≤ x5 then (if 0 ≤ ((Int.tdiv (bt x0 x5) 16) % 256) then (if ((Int.tdiv (bt x0 x5) 16) % 256) < (x3.size : Int) then (if 0 ≤ (Int.tmod (bt x0 x5) 16) then (if (Int.tmod (bt x0 x5) 16) < (x3.size : Int) then ((some (([bt x3 ((Int.tdiv (bt x0 x5) 16) % 256), bt x3 (Int.tmod (bt x0 x5) 16)] : List Int) : List Int)).bind fun y104 => (if x4.length + y104.length < 140737488355328 then (spec_l6Hex.l0 k x0 x3 (x4 ++ y104) (wrap64 (x5 + 1))) else (none))) else (none)) else (none)) else (none)) else (none)) else (none)) else (some (strOfNums x4))
def spec_l6Hex.f (k : Nat) (a0 : ByteArray) : Option (ByteArray) := spec_l6Hex.l0 k a0 (⟨#[48, 49, 50, 51, 52, 53, 54, 55, 56, 57, 97, 98, 99, 100, 101, 102]⟩ : ByteArray) (([] : List Int)) 0
theorem spec_l6Hex.mono_l : ∀ k, (∀ y0 y1 y2 y3, LeO (spec_l6Hex.l0 k y0 y1 y2 y3) (spec_l6Hex.l0 (k + 1) y0 y1 y2 y3))
 | 0 => fun _ _ _ _ r h => by simp [spec_l6Hex.l0] at h
 | k + 1 => by
  have ih0 := spec_l6Hex.mono_l k
  ·intro y0 y1 y2 y3
   unfold spec_l6Hex.l0
   have I0_ := fun a b c d => LeC.mk (ih0 a b c d)
   exact LeC.out
theorem spec_l6Hex.mono : ∀ a0 k, LeO (spec_l6Hex.f k a0) (spec_l6Hex.f (k + 1) a0) := by
 intro a0 k
 have ih0 := spec_l6Hex.mono_l k
 unfold spec_l6Hex.f
 have I0_ := fun a b c d => LeC.mk (ih0 a b c d)
 exact LeC.out
def spec_l6Hex.T6 : Bool × List (List Nat × List Nat) := (true, [([], []), ([], []), ([], []), ([], []), ([2, 3], [2, 3]), ([4], [4]), ([1, 5], [1, 5]), ([], []), ([], []), ([], []), ([8, 9], [8, 9]), ([10], [10]), ([7, 11], [7, 11]), ([6, 12], [6, 12]), ([0, 13], [0, 13]), ([14, 14, 0, 1, 2, 3, 4, 5, 6, 7, 8, 9, 10, 11, 12, 13, 14], [0, 14])])
def spec_l6Hex.B6 : List Nat := [0, 0, 0, 0, 12, 28, 62, 0, 0, 0, 768, 1792, 3968, 8190, 16383, 32767]
theorem spec_l6Hex.tab6 : rtab .any (opsOf Tryz.f74 6) = spec_l6Hex.T6 := by kernel_rfl
theorem spec_l6Hex.bits6 : waitsOk spec_l6Hex.T6.2 spec_l6Hex.B6 = true := by kernel_rfl
theorem spec_l6Hex.calls (k : Nat) (a0 : ByteArray) (r : ByteArray) (w : World) (h : spec_l6Hex.f k a0 = some r) :
  Calls Tryz.prog 74 #[.string a0] w fun e w' => e = .returned (.string r) ∧ Below w.heap.size w w' := by
 have HB := Aside0.mk (Below.refl w.heap.size w)
 unfold spec_l6Hex.f at h
 have H := h
 clear h
 obtain ⟨y101, hy101⟩ : ∃ y_ : List Int, y_ = (([] : List Int)) := ⟨_, rfl⟩
 first | replace H := bind_y hy101 H | rw [← hy101] at H
 have Ny101 := Aside0.mk hy101
 clear hy101
 have H' := Aside0.mk H
 clear H
 go_enter Tryz.func74, Tryz.ntmps74
 go_wp2_with (first | ((with_reducible refine gate_dst (N := 6) rfl ?_); refine Kd.R_lit (Kd.int .u8) _ 5 ?hg (N := 6) ?hd (xs := ([] : List Int)) (inner := []) (ok := fun _ => True) (okp := fun _ => True) ?hr ?hp (fun _ hk => hk) trivial (Below.refl _ _) (Nat.le_refl _) (by simp) ?_; (case hd => rfl); (case hg => rfl); (case hr => first | (go_simp; done) | (go_simp; rfl)); (case hp => exact (Reps.none _ _)); intro v102 w2 ho3 hb hg_ hnew_; clear hg_ hnew_; (first | rw [← Ny101.out] at ho3 | (simp only [Int.reduceToNat] at ho3; rw [← Ny101.out] at ho3)); have HO103 := Aside0.mk (Kd.R_lower ho3 (bz HB.out)); replace HB := kB HB hb; clear hb ho3))
 go_loopg [4, 5] k (fun kq v4 v5 w' => ∃ (x4_1 : List Int) (x5_1 : Int), v5 = .int .i64 x5_1 ∧ Aside0 (spec_l6Hex.l0 kq a0 (⟨#[48, 49, 50, 51, 52, 53, 54, 55, 56, 57, 97, 98, 99, 100, 101, 102]⟩ : ByteArray) x4_1 x5_1 = some r) ∧ Aside0 (kq ≤ k) ∧ Aside0 (Kd.R (Kd.int .u8) 5 w' w.heap.size (fun _ => True) v4 x4_1) ∧ Aside0 (Below w.heap.size w w'))
 case atStart => exact ⟨(y101), (0), (by first | rfl | (simp; done) | (simp [*]; done)), H', ⟨Nat.le_refl _⟩, ⟨by (with_reducible repeat (first | apply Kd.R_alloc | apply Kd.R_drewN | apply Kd.R_drew)); first | exact HO103.out | (simp only [wrap_u8]; exact HO103.out)⟩, ⟨bx HB.out⟩⟩
 case round =>
  clear H'
  try clear p2
  obtain ⟨x4_1, x5_1, rfl, HA, HK1, HO_4, HB⟩ := hrel
  cases gk with
  | zero => exact absurd HA.out (by simp [spec_l6Hex.l0])
  | succ k1 =>
   have H := HA.out
   clear HA
   simp only [spec_l6Hex.l0] at H
   by_cases c4 : x5_1 < (a0.size : Int)
   ·rw [if_pos c4] at H
    have c4b0 := decide_eq_true c4
    clear c4
    have c5 := ite_y H
    replace H := ite_t H
    have c5b0 := decide_eq_true c5
    clear c5
    obtain ⟨ji7, hji7⟩ : ∃ j_ : Int, ((Int.tdiv (bt a0 x5_1) 16) % 256) = j_ := ⟨_, rfl⟩
    have hji7u8 : IntKind.u8.wrap (Int.tdiv (bt a0 x5_1) 16) = ji7 := (IntKind.wrap_u8 _).trans hji7   -- hji_u8
    replace H : (if 0 ≤ (ji7) then (if (ji7) < ((⟨#[48, 49, 50, 51, 52, 53, 54, 55, 56, 57, 97, 98, 99, 100, 101, 102]⟩ : ByteArray).size : Int) then (if 0 ≤ (Int.tmod (bt a0 x5_1) 16) then (if (Int.tmod (bt a0 x5_1) 16) < ((⟨#[48, 49, 50, 51, 52, 53, 54, 55, 56, 57, 97, 98, 99, 100, 101, 102]⟩ : ByteArray).size : Int) then ((some (([bt (⟨#[48, 49, 50, 51, 52, 53, 54, 55, 56, 57, 97, 98, 99, 100, 101, 102]⟩ : ByteArray) (ji7), bt (⟨#[48, 49, 50, 51, 52, 53, 54, 55, 56, 57, 97, 98, 99, 100, 101, 102]⟩ : ByteArray) (Int.tmod (bt a0 x5_1) 16)] : List Int) : List Int)).bind fun y104 => (if x4_1.length + y104.length < 140737488355328 then (spec_l6Hex.l0 k1 a0 (⟨#[48, 49, 50, 51, 52, 53, 54, 55, 56, 57, 97, 98, 99, 100, 101, 102]⟩ : ByteArray) (x4_1 ++ y104) (wrap64 (x5_1 + 1))) else (none))) else (none)) else (none)) else (none)) else (none)) = some r := by first | (rw [hji7] at H; exact H) | (simp only [hji7] at H ⊢; exact H)
    have c8 := ite_y H
    replace H := ite_t H
    have c8b0 := decide_eq_true c8
    clear c8
    have c9 := ite_y H
    replace H := ite_t H
    have c9b0 := decide_eq_true c9
    clear c9
    obtain ⟨ji12, hji12⟩ : ∃ j_ : Int, (Int.tmod (bt a0 x5_1) 16) = j_ := ⟨_, rfl⟩
    replace H : (if 0 ≤ (ji12) then (if (ji12) < ((⟨#[48, 49, 50, 51, 52, 53, 54, 55, 56, 57, 97, 98, 99, 100, 101, 102]⟩ : ByteArray).size : Int) then ((some (([bt (⟨#[48, 49, 50, 51, 52, 53, 54, 55, 56, 57, 97, 98, 99, 100, 101, 102]⟩ : ByteArray) (ji7), bt (⟨#[48, 49, 50, 51, 52, 53, 54, 55, 56, 57, 97, 98, 99, 100, 101, 102]⟩ : ByteArray) (ji12)] : List Int) : List Int)).bind fun y104 => (if x4_1.length + y104.length < 140737488355328 then (spec_l6Hex.l0 k1 a0 (⟨#[48, 49, 50, 51, 52, 53, 54, 55, 56, 57, 97, 98, 99, 100, 101, 102]⟩ : ByteArray) (x4_1 ++ y104) (wrap64 (x5_1 + 1))) else (none))) else (none)) else (none)) = some r := by first | (rw [hji12] at H; exact H) | (simp only [hji12] at H ⊢; exact H)
    have c13 := ite_y H
    replace H := ite_t H
    have c13b0 := decide_eq_true c13
    clear c13
    have c14 := ite_y H
    replace H := ite_t H
    have c14b0 := decide_eq_true c14
    clear c14
    obtain ⟨y104, hy104⟩ : ∃ y_ : List Int, y_ = (([bt (⟨#[48, 49, 50, 51, 52, 53, 54, 55, 56, 57, 97, 98, 99, 100, 101, 102]⟩ : ByteArray) (ji7), bt (⟨#[48, 49, 50, 51, 52, 53, 54, 55, 56, 57, 97, 98, 99, 100, 101, 102]⟩ : ByteArray) (ji12)] : List Int)) := ⟨_, rfl⟩
    first | replace H := bind_y hy104 H | rw [← hy104] at H
    have Ny104 := Aside0.mk hy104
    clear hy104
    have c16 := ite_y H
    replace H := ite_t H
    have LMc16 := Aside0.mk c16
    clear c16
    obtain ⟨y107, hy107⟩ : ∃ y_ : List Int, y_ = (x4_1 ++ y104) := ⟨_, rfl⟩
    first | replace H := bind_y hy107 H | rw [← hy107] at H
    have Ny107 := Aside0.mk hy107
    clear hy107
    have H' := Aside0.mk H
    clear H
    try go_wp2
    replace HO_4 := Aside0.mk (Kd.R_drew HO_4.out)
    replace HB := Aside0.mk (below_drew1 HB.out)
    have p6 : 0 ≤ (x5_1 : Int) := of_decide_eq_true (by first | (with_reducible assumption) | assumption)
    have q6 : x5_1 < (a0.size : Int) := of_decide_eq_true (by first | (with_reducible assumption) | assumption)
    have hx6 := bt_at a0 x5_1
    replace p6 := eq_true p6
    replace q6 := eq_true q6
    have p10 : 0 ≤ ((ji7) : Int) := of_decide_eq_true (by first | (with_reducible assumption) | assumption)
    have q10 : (ji7) < (16 : Int) := of_decide_eq_true (by first | (with_reducible assumption) | assumption)
    have hx10 := bt_at (⟨#[48, 49, 50, 51, 52, 53, 54, 55, 56, 57, 97, 98, 99, 100, 101, 102]⟩ : ByteArray) (ji7)
    replace p10 := eq_true p10
    replace q10 := eq_true q10
    have p11 : 0 ≤ (x5_1 : Int) := of_decide_eq_true (by first | (with_reducible assumption) | assumption)
    have q11 : x5_1 < (a0.size : Int) := of_decide_eq_true (by first | (with_reducible assumption) | assumption)
    have hx11 := bt_at a0 x5_1
    replace p11 := eq_true p11
    replace q11 := eq_true q11
    have p15 : 0 ≤ ((ji12) : Int) := of_decide_eq_true (by first | (with_reducible assumption) | assumption)
    have q15 : (ji12) < (16 : Int) := of_decide_eq_true (by first | (with_reducible assumption) | assumption)
    have hx15 := bt_at (⟨#[48, 49, 50, 51, 52, 53, 54, 55, 56, 57, 97, 98, 99, 100, 101, 102]⟩ : ByteArray) (ji12)
    replace p15 := eq_true p15
    replace q15 := eq_true q15
    refine start_ (n := 16) (S := fun w' => True) (ds := []) _ (by kernel_rfl) rfl rfl trivial (fun hHeld => ?_); refine with_tabW spec_l6Hex.tab6 spec_l6Hex.bits6 (fun HT_ HW_ => ?_)
    generalize wr.drew = w17 at HO_4 HB hHeld ⊢
    refine ord_ [.p 0 13, .p 1 14, .p 2 15, .p 3 16, .p 7 20, .p 8 21, .p 9 22] ?_
    repeat (refine pu_ (v := ?_) (a' := ?_) HT_ rfl rfl (by kernel_rfl) (fun _ _ _ h => h) (by rfl) ?_ ?_ ?_; rotate_left 2; (intro w'; go_simp; with_reducible rfl); (simp only [Act.put, List.setIfInBounds_toArray, List.set_cons_zero, List.set_cons_succ, i64_w, i32_w]; rfl))
    refine ord0 ?_
    refine take_ (i := 4) (N := some 17) (v := ?_) (a' := ?_) #[true, true, true, true, true, false, false, true, true, true, false, false, false, false, false, false] rfl rfl (take_ofW HT_.out HW_.out (by kernel_rfl)) (fun _ _ _ h => h) (Or.inl ⟨by rfl, ?_⟩) hHeld ?_ ?_
    rotate_left
    ·intro w' _
     go_simp
     with_reducible rfl
    rotate_left
    ·simp only [Act.put, List.setIfInBounds_toArray, List.set_cons_zero, List.set_cons_succ, i64_w, i32_w]
     rfl
    refine ord_ [.p 5 18] ?_
    repeat (refine pu_ (v := ?_) (a' := ?_) HT_ rfl rfl (by kernel_rfl) (fun _ _ _ h => h) (by rfl) ?_ ?_ ?_; rotate_left 2; (intro w'; go_simp; with_reducible rfl); (simp only [Act.put, List.setIfInBounds_toArray, List.set_cons_zero, List.set_cons_succ, i64_w, i32_w]; rfl))
    refine ord0 ?_
    refine take_ (i := 6) (N := some 19) (v := ?_) (a' := ?_) #[true, true, true, true, true, true, true, true, true, true, false, false, false, false, false, false] rfl rfl (take_ofW HT_.out HW_.out (by kernel_rfl)) (fun _ _ _ h => h) (Or.inl ⟨by rfl, ?_⟩) hHeld ?_ ?_
    rotate_left
    ·intro w' _
     go_simp
     with_reducible rfl
    rotate_left
    ·simp only [Act.put, List.setIfInBounds_toArray, List.set_cons_zero, List.set_cons_succ, i64_w, i32_w]
     rfl
    refine take_ (i := 10) (N := some 23) (v := ?_) (a' := ?_) #[true, true, true, true, true, true, true, true, true, true, true, false, false, false, false, false] rfl rfl (take_ofW HT_.out HW_.out (by kernel_rfl)) (fun _ _ _ h => h) (Or.inl ⟨by rfl, ?_⟩) hHeld ?_ ?_
    rotate_left
    ·intro w' _
     go_simp
     with_reducible rfl
    rotate_left
    ·simp only [Act.put, List.setIfInBounds_toArray, List.set_cons_zero, List.set_cons_succ, i64_w, i32_w]
     rfl
    refine ord_ [.p 11 24] ?_
    repeat (refine pu_ (v := ?_) (a' := ?_) HT_ rfl rfl (by kernel_rfl) (fun _ _ _ h => h) (by rfl) ?_ ?_ ?_; rotate_left 2; (intro w'; go_simp; with_reducible rfl); (simp only [Act.put, List.setIfInBounds_toArray, List.set_cons_zero, List.set_cons_succ, i64_w, i32_w]; rfl))
    refine ord0 ?_
    refine take_ (i := 12) (N := some 25) (v := ?_) (a' := ?_) #[true, true, true, true, true, true, true, true, true, true, true, true, true, false, false, false] rfl rfl (take_ofW HT_.out HW_.out (by kernel_rfl)) (fun _ _ _ h => h) (Or.inl ⟨by rfl, ?_⟩) hHeld ?_ ?_
    rotate_left
    ·intro w' _
     go_simp
     with_reducible rfl
    rotate_left
    ·simp only [Act.put, List.setIfInBounds_toArray, List.set_cons_zero, List.set_cons_succ, i64_w, i32_w]
     rfl
    refine on_ (i := 13) (N := some 26) HT_ rfl rfl (by kernel_rfl) (by decide) (fun K hK => ?_)
    refine Kd.R_lit_step (Kd.int .u8) _ 5 ?hg (N := 26) ?hd (xs := ([bt (⟨#[48, 49, 50, 51, 52, 53, 54, 55, 56, 57, 97, 98, 99, 100, 101, 102]⟩ : ByteArray) (ji7), bt (⟨#[48, 49, 50, 51, 52, 53, 54, 55, 56, 57, 97, 98, 99, 100, 101, 102]⟩ : ByteArray) (ji12)] : List Int)) (inner := [.int .u8 (bt (⟨#[48, 49, 50, 51, 52, 53, 54, 55, 56, 57, 97, 98, 99, 100, 101, 102]⟩ : ByteArray) (ji7)), .int .u8 (bt (⟨#[48, 49, 50, 51, 52, 53, 54, 55, 56, 57, 97, 98, 99, 100, 101, 102]⟩ : ByteArray) (ji12))]) (ok := fun _ => True) (okp := fun _ => True) ?hr ?hp (fun _ hk => hk) trivial (Below.refl _ _) (Nat.le_refl _) (by simp) ?_; (case hd => rfl); (case hg => rfl); (case hr => first | (go_simp; done) | (go_simp; rfl)); (case hp => exact (Reps.one (show Kd.M (Kd.int .u8) _ _ _ (bt (⟨#[48, 49, 50, 51, 52, 53, 54, 55, 56, 57, 97, 98, 99, 100, 101, 102]⟩ : ByteArray) (ji7)) [.int .u8 (bt (⟨#[48, 49, 50, 51, 52, 53, 54, 55, 56, 57, 97, 98, 99, 100, 101, 102]⟩ : ByteArray) (ji7))] from rfl) (Reps.one (show Kd.M (Kd.int .u8) _ _ _ (bt (⟨#[48, 49, 50, 51, 52, 53, 54, 55, 56, 57, 97, 98, 99, 100, 101, 102]⟩ : ByteArray) (ji12)) [.int .u8 (bt (⟨#[48, 49, 50, 51, 52, 53, 54, 55, 56, 57, 97, 98, 99, 100, 101, 102]⟩ : ByteArray) (ji12))] from rfl) (Reps.none _ _))))
    intro v105 w18 ho19 hb hg_ hnew_
    clear hg_ hnew_
    (first | rw [← Ny104.out] at ho19 | (simp only [Int.reduceToNat] at ho19; rw [← Ny104.out] at ho19))
    have HO106 := Aside0.mk (Kd.R_lower (Kd.R_new' ho19 (Kd.R_lt (rx HO_4.out))) (bz HB.out))
    replace HO_4 := Aside0.mk (Kd.R_elder' (rx HO_4.out) (Kd.R_base ho19) hb)
    replace HB := kB HB hb
    clear hb ho19
    obtain ⟨Ao21, co21, eo21⟩ := Kd.R_slice HO106.out
    (first | subst eo21 | (injection eo21 with f1_ f2_ f3_; have f4_ := f1_.symm; have f5_ := f3_.symm; clear f1_ f2_ f3_; subst f4_; subst f5_))
    refine hK.out _ _ trivial (fun hHeld => ?_)
    clear hK K
    refine norm_ (a' := ?_) ?_ ?_
    rotate_left
    ·show Act.put _ (some 26) _ = _
     simp only [Act.put, List.setIfInBounds_toArray, List.set_cons_zero, List.set_cons_succ, i64_w, i32_w]
     rfl
    refine on_ (i := 14) (N := some 27) HT_ rfl rfl (by kernel_rfl) (by decide) (fun K hK => ?_)
    refine Kd.R_append_rows_step (Kd.int .u8) (w0 := w) w.heap.size (by rfl) (.tmp 13) (.tmp 26) 122 5 (.int .u8 0) 1 rfl Tryz.underlying122 info5 rfl (by decide) (by omega) u4 x4_1 y104 _ _ _ (fun k_ => some k_ ≠ (.slice Ao21 y104.length co21 : Value).ownBlock) (fun _ => False) rfl rfl ?aO ?aR (fun _ _ h => h) (fun _ h => h.elim) ?aF ?aB ?aS ?aL ?_
    (case aR => exact cx (Kd.R_reads' HO106.out).2.2)
    (case aB => exact (bx HB.out))
    (case aF => exact (fun k_ hk => Kd.fresh' (Kd.R_lt (rx HO106.out)) k_ hk))
    (case aO => exact (rx (Kd.R_mono HO_4.out (fun _ hk => hk.2))))
    (case aS => exact (bz HB.out))
    (case aL => have := LMc16.out; omega)
    intro v108 w20 ho hb hg hat
    rw [← Ny107.out] at ho
    replace HO106 := Aside0.mk (Kd.R_after (ok := (fun _ => True)) (rx HO106.out) hg hat)
    replace HB := Aside0.mk (hb)
    have HO109 := Aside0.mk (ho)
    clear HO_4
    clear ho hb hg hat
    refine hK.out _ _ trivial (fun hHeld => ?_)
    clear hK K
    refine norm_ (a' := ?_) ?_ ?_
    rotate_left
    ·show Act.put _ (some 27) _ = _
     simp only [Act.put, List.setIfInBounds_toArray, List.set_cons_zero, List.set_cons_succ, i64_w, i32_w]
     rfl
    refine ord_ [.p 15 4] ?_
    repeat (refine pu_ (v := ?_) (a' := ?_) HT_ rfl rfl (by kernel_rfl) (fun _ _ _ h => h) (by rfl) ?_ ?_ ?_; rotate_left 2; (intro w'; go_simp; with_reducible rfl); (simp only [Act.put, List.setIfInBounds_toArray, List.set_cons_zero, List.set_cons_succ, i64_w, i32_w]; rfl))
    refine ord0 ?_
    refine done_ (done_of HT_.out (by kernel_rfl)) ?_
    try go_wp2
    go_roundg k1
    case measure => have := HK1.out; omega
    case rel => exact ⟨(y107), (wrap64 (x5_1 + 1)), (by first | rfl | (simp; done) | (simp [*]; done)), H', ⟨by have := HK1.out; omega⟩, ⟨rx (Kd.R_mono HO109.out (fun _ hk => trivial))⟩, ⟨bx HB.out⟩⟩
   ·rw [if_neg c4] at H
    have c4b0 := decide_eq_false c4
    clear c4
    obtain rfl := Option.some.inj H
    have hcv22 := own_string (P := Tryz.prog) Tryz.underlying122 Tryz.underlying5 Tryz.underlying9 (Kd.own_of_R HO_4.out)
    go_wp2
    go_ret
    exact ⟨by rfl, bx HB.out⟩
theorem gf47 : Go_ Tryz.prog 47 Tryz.f47 := ⟨Tryz.func47, by kernel_rfl, rfl⟩
def spec_l1In.f (a0 : Int) (a1 : Int) (a2 : Int) : Option (Bool) := if a0 ≥ a1 then (some (decide (a0 ≤ a2))) else (some false)
theorem spec_l1In.calls (a0 : Int) (a1 : Int) (a2 : Int) (r : Bool) (w : World) (h : spec_l1In.f a0 a1 a2 = some r) :
  Calls Tryz.prog 47 #[.int .i64 a0, .int .i64 a1, .int .i64 a2] w fun e w' => e = .returned (.bool r) ∧ Drawn0 w w' := by
 unfold spec_l1In.f at h
 have H := h
 clear h
 by_cases c4 : a0 ≥ a1
 ·rw [if_pos c4] at H
  have c4b0 : decide (a1 ≤ a0) = true := decide_eq_true c4
  clear c4
  obtain rfl := Option.some.inj H
  go_enter Tryz.func47, Tryz.ntmps47
  go_wp2
  go_ret
  exact ⟨by first | rfl | (simp; done) | (simp [*]; done), by repeat (first | exact Drawn0.refl _ | apply Drawn0.step)⟩
 ·rw [if_neg c4] at H
  have c4b0 : decide (a1 ≤ a0) = false := decide_eq_false c4
  clear c4
  obtain rfl := Option.some.inj H
  go_enter Tryz.func47, Tryz.ntmps47
  go_wp2
  go_ret
  exact ⟨by first | rfl | (simp; done) | (simp [*]; done), by repeat (first | exact Drawn0.refl _ | apply Drawn0.step)⟩
theorem gf31 : Go_ Tryz.prog 31 Tryz.f31 := ⟨Tryz.func31, by kernel_rfl, rfl⟩
def spec_l6Key.f (a0 : ByteArray) : Option (Bool) := (spec_l1In.f (a0.size : Int) 1 64).bind fun t101 => (if t101 = true then (if 0 ≤ (wrap64 ((a0.size : Int) - 1)) then (if (wrap64 ((a0.size : Int) - 1)) < (a0.size : Int) then (some ((bt a0 (wrap64 ((a0.size : Int) - 1))) != 0)) else (none)) else (none)) else (some false))
theorem spec_l6Key.calls (a0 : ByteArray) (r : Bool) (w : World) (h : spec_l6Key.f a0 = some r) :
  Calls Tryz.prog 31 #[.string a0] w fun e w' => e = .returned (.bool r) ∧ Drawn0 w w' := by
 unfold spec_l6Key.f at h
 have H := h
 clear h
 replace H := Option.bind_eq_some_iff.mp H
 obtain ⟨t101, A20, H⟩ := H
 have A2 := Aside0.mk A20
 clear A20
 by_cases c3 : t101 = true
 ·subst c3
  rw [if_pos rfl] at H
  obtain ⟨ji4, hji4⟩ : ∃ j_ : Int, (wrap64 ((a0.size : Int) - 1)) = j_ := ⟨_, rfl⟩
  replace H : (if 0 ≤ (ji4) then (if (ji4) < (a0.size : Int) then (some ((bt a0 (ji4)) != 0)) else (none)) else (none)) = some r := by first | (rw [hji4] at H; exact H) | (simp only [hji4] at H ⊢; exact H)
  (try rw [hji4] at A2)
  have hji4w : (IntKind.i64.wrap ((a0.size : Int) - 1)) = ji4 := (i64_w _).trans hji4
  have c5 := ite_y H
  replace H := ite_t H
  have c5b0 := decide_eq_true c5
  clear c5
  have c6 := ite_y H
  replace H := ite_t H
  have c6b0 := decide_eq_true c6
  clear c6
  obtain rfl := Option.some.inj H
  go_enter Tryz.func31, Tryz.ntmps31
  go_wp2_with (first | ((with_reducible refine gate_callee (f := 47) rfl ?_); refine goL (some 5) rfl rfl gf47 #[.int .i64 (a0.size : Int), .int .i64 1, .int .i64 64] rfl rfl ?_; (with_reducible refine (spec_l1In.calls (a0.size : Int) 1 64 true _ A2.out).mono ?_); rintro e w' ⟨rfl, ⟨nd, rfl⟩⟩; refine ⟨_, rfl, ?_⟩; have p7 := of_decide_eq_true c5b0; have q7 := of_decide_eq_true c6b0; have hx7 := bt_at a0 (ji4); replace p7 := eq_true p7; replace q7 := eq_true q7))
  go_ret
  exact ⟨by first | rfl | (simp; done) | (simp only [← hji4] <;> (first | rfl | simp)) | (simp [*]; done), by repeat (first | exact Drawn0.refl _ | apply Drawn0.step)⟩
 ·replace c3 := Bool.eq_false_iff.mpr c3
  subst c3
  rw [if_neg Bool.false_ne_true] at H
  obtain rfl := Option.some.inj H
  go_enter Tryz.func31, Tryz.ntmps31
  go_wp2_with (first | ((with_reducible refine gate_callee (f := 47) rfl ?_); refine goL (some 5) rfl rfl gf47 #[.int .i64 (a0.size : Int), .int .i64 1, .int .i64 64] rfl rfl ?_; (with_reducible refine (spec_l1In.calls (a0.size : Int) 1 64 false _ A2.out).mono ?_); rintro e w' ⟨rfl, ⟨nd, rfl⟩⟩; refine ⟨_, rfl, ?_⟩))
  go_ret
  exact ⟨by first | rfl | (simp; done) | (simp [*]; done), by repeat (first | exact Drawn0.refl _ | apply Drawn0.step)⟩
theorem gf76 : Go_ Tryz.prog 76 Tryz.f76 := ⟨Tryz.func76, by kernel_rfl, rfl⟩
def spec_l6Pad.l0 : Nat → ByteArray → Int → List Int → Int → Option (ByteArray)
 | 0, _, _, _, _ => none
 | k + 1, x0, x1, x5, x6 => if x6 < 64 then (if x6 < (x0.size : Int) then (if 0 ≤ x6 then (if x5.length < 140737488355328 then (spec_l6Pad.l0 k x0 x1 (x5 ++ [Go.bits .xor .u8 (bt x0 x6) x1]) (wrap64 (x6 + 1))) else (none)) else (none)) else (if x5.length < 140737488355328 then (spec_l6Pad.l0 k x0 x1 (x5 ++ [Go.bits .xor .u8 0 x1]) (wrap64 (x6 + 1))) else (none))) else (some (strOfNums x5))
def spec_l6Pad.f (k : Nat) (a0 : ByteArray) (a1 : Int) : Option (ByteArray) := spec_l6Pad.l0 k a0 a1 (([] : List Int)) 0
theorem spec_l6Pad.mono_l : ∀ k, (∀ y0 y1 y2 y3, LeO (spec_l6Pad.l0 k y0 y1 y2 y3) (spec_l6Pad.l0 (k + 1) y0 y1 y2 y3))
 | 0 => fun _ _ _ _ r h => by simp [spec_l6Pad.l0] at h
 | k + 1 => by
  have ih0 := spec_l6Pad.mono_l k
  ·intro y0 y1 y2 y3
   unfold spec_l6Pad.l0
   have I0_ := fun a b c d => LeC.mk (ih0 a b c d)
   exact LeC.out
theorem spec_l6Pad.mono : ∀ a0 a1 k, LeO (spec_l6Pad.f k a0 a1) (spec_l6Pad.f (k + 1) a0 a1) := by
 intro a0 a1 k
 have ih0 := spec_l6Pad.mono_l k
 unfold spec_l6Pad.f
 have I0_ := fun a b c d => LeC.mk (ih0 a b c d)
 exact LeC.out
theorem spec_l6Pad.calls (k : Nat) (a0 : ByteArray) (a1 : Int) (r : ByteArray) (w : World) (h : spec_l6Pad.f k a0 a1 = some r) :
  Calls Tryz.prog 76 #[.string a0, .int .u8 a1] w fun e w' => e = .returned (.string r) ∧ Below w.heap.size w w' := by
 have HB := Aside0.mk (Below.refl w.heap.size w)
 unfold spec_l6Pad.f at h
 have H := h
 clear h
 obtain ⟨y101, hy101⟩ : ∃ y_ : List Int, y_ = (([] : List Int)) := ⟨_, rfl⟩
 first | replace H := bind_y hy101 H | rw [← hy101] at H
 have Ny101 := Aside0.mk hy101
 clear hy101
 have H' := Aside0.mk H
 clear H
 go_enter Tryz.func76, Tryz.ntmps76
 go_wp2_with (first | ((with_reducible refine gate_dst (N := 8) rfl ?_); refine Kd.R_lit (Kd.int .u8) _ 5 ?hg (N := 8) ?hd (xs := ([] : List Int)) (inner := []) (ok := fun _ => True) (okp := fun _ => True) ?hr ?hp (fun _ hk => hk) trivial (Below.refl _ _) (Nat.le_refl _) (by simp) ?_; (case hd => rfl); (case hg => rfl); (case hr => first | (go_simp; done) | (go_simp; rfl)); (case hp => exact (Reps.none _ _)); intro v102 w3 ho4 hb hg_ hnew_; clear hg_ hnew_; (first | rw [← Ny101.out] at ho4 | (simp only [Int.reduceToNat] at ho4; rw [← Ny101.out] at ho4)); have HO103 := Aside0.mk (Kd.R_lower ho4 (bz HB.out)); replace HB := kB HB hb; clear hb ho4))
 go_loopg [5, 6] k (fun kq v5 v6 w' => ∃ (x5_1 : List Int) (x6_1 : Int), v6 = .int .i64 x6_1 ∧ Aside0 (spec_l6Pad.l0 kq a0 a1 x5_1 x6_1 = some r) ∧ Aside0 (kq ≤ k) ∧ Aside0 (Kd.R (Kd.int .u8) 5 w' w.heap.size (fun _ => True) v5 x5_1) ∧ Aside0 (Below w.heap.size w w'))
 case atStart => exact ⟨(y101), (0), (by first | rfl | (simp; done) | (simp [*]; done)), H', ⟨Nat.le_refl _⟩, ⟨rx HO103.out⟩, ⟨bx HB.out⟩⟩
 case round =>
  clear H'
  try clear p2
  obtain ⟨x5_1, x6_1, rfl, HA, HK1, HO_5, HB⟩ := hrel
  cases gk with
  | zero => exact absurd HA.out (by simp [spec_l6Pad.l0])
  | succ k1 =>
   have H := HA.out
   clear HA
   simp only [spec_l6Pad.l0] at H
   by_cases c5 : x6_1 < 64
   ·rw [if_pos c5] at H
    have c5b0 := decide_eq_true c5
    clear c5
    by_cases c6 : x6_1 < (a0.size : Int)
    ·rw [if_pos c6] at H
     have c6b0 := decide_eq_true c6
     clear c6
     have c7 := ite_y H
     replace H := ite_t H
     have c7b0 := decide_eq_true c7
     clear c7
     have c9 := ite_y H
     replace H := ite_t H
     have LMc9 := Aside0.mk c9
     clear c9
     obtain ⟨y104, hy104⟩ : ∃ y_ : List Int, y_ = (x5_1 ++ [Go.bits .xor .u8 (bt a0 x6_1) a1]) := ⟨_, rfl⟩
     first | replace H := bind_y hy104 H | rw [← hy104] at H
     have Ny104 := Aside0.mk hy104
     clear hy104
     have H' := Aside0.mk H
     clear H
     have p8 := of_decide_eq_true c7b0
     have q8 := of_decide_eq_true c6b0
     have hx8 := bt_at a0 x6_1
     replace p8 := eq_true p8
     replace q8 := eq_true q8
     go_wp2_with (first | ((with_reducible refine gate_builtin (b := .append) (xs := #[.tmp 20, .tmp 24]) rfl ?_); at_builtin; refine Kd.R_append (Kd.int .u8) (w0 := w) w.heap.size rfl (.tmp 20) (.tmp 24) 122 5 (.int .u8 0) 1 rfl Tryz.underlying122 info5 rfl (by decide) (by omega) u5 x5_1 (Go.bits .xor .u8 (bt a0 x6_1) a1) [.int .u8 (Go.bits .xor .u8 (bt a0 x6_1) a1)] (fun _ => True) (fun _ => False) rfl rfl ?aP (fun _ hk => hk.elim) ?aF ?aO ?aB ?aS ?aL ?_; (case aP => exact rfl); (case aB => exact (bx HB.out)); (case aF => exact (fun _ _ => trivial)); (case aO => exact (rx HO_5.out)); (case aS => exact (bz HB.out)); (case aL => have := LMc9.out; omega); intro v105 w10 ho hb hg hat; rw [← Ny104.out] at ho; replace HB := Aside0.mk (hb); have HO106 := Aside0.mk (ho); clear HO_5; clear ho hb hg hat))
     go_roundg k1
     case measure => have := HK1.out; omega
     case rel => exact ⟨(y104), (wrap64 (x6_1 + 1)), (by first | rfl | (simp; done) | (simp [*]; done)), H', ⟨by have := HK1.out; omega⟩, ⟨rx HO106.out⟩, ⟨bx HB.out⟩⟩
    ·rw [if_neg c6] at H
     have c6b0 := decide_eq_false c6
     clear c6
     have c11 := ite_y H
     replace H := ite_t H
     have LMc11 := Aside0.mk c11
     clear c11
     obtain ⟨y107, hy107⟩ : ∃ y_ : List Int, y_ = (x5_1 ++ [Go.bits .xor .u8 0 a1]) := ⟨_, rfl⟩
     first | replace H := bind_y hy107 H | rw [← hy107] at H
     have Ny107 := Aside0.mk hy107
     clear hy107
     have H' := Aside0.mk H
     clear H
     go_wp2_with (first | ((with_reducible refine gate_builtin (b := .append) (xs := #[.tmp 20, .tmp 24]) rfl ?_); at_builtin; refine Kd.R_append (Kd.int .u8) (w0 := w) w.heap.size rfl (.tmp 20) (.tmp 24) 122 5 (.int .u8 0) 1 rfl Tryz.underlying122 info5 rfl (by decide) (by omega) u5 x5_1 (Go.bits .xor .u8 0 a1) [.int .u8 (Go.bits .xor .u8 0 a1)] (fun _ => True) (fun _ => False) rfl rfl ?aP (fun _ hk => hk.elim) ?aF ?aO ?aB ?aS ?aL ?_; (case aP => exact rfl); (case aB => exact (bx HB.out)); (case aF => exact (fun _ _ => trivial)); (case aO => exact (rx HO_5.out)); (case aS => exact (bz HB.out)); (case aL => have := LMc11.out; omega); intro v108 w12 ho hb hg hat; rw [← Ny107.out] at ho; replace HB := Aside0.mk (hb); have HO109 := Aside0.mk (ho); clear HO_5; clear ho hb hg hat))
     go_roundg k1
     case measure => have := HK1.out; omega
     case rel => exact ⟨(y107), (wrap64 (x6_1 + 1)), (by first | rfl | (simp; done) | (simp [*]; done)), H', ⟨by have := HK1.out; omega⟩, ⟨rx HO109.out⟩, ⟨bx HB.out⟩⟩
   ·rw [if_neg c5] at H
    have c5b0 := decide_eq_false c5
    clear c5
    obtain rfl := Option.some.inj H
    have hcv13 := own_string (P := Tryz.prog) Tryz.underlying122 Tryz.underlying5 Tryz.underlying9 (Kd.own_of_R HO_5.out)
    go_wp2
    go_ret
    exact ⟨by rfl, bx HB.out⟩
end Go.Proofs.YtaakfmpffhfaeaaGreatDoor.M
end

section
/- spec.l6Padded, walked. -/
namespace Go.Proofs.YtaakfmpffhfaeaaGreatDoor.M
open Go.RowKit Go.Proofs.YtaakfmpffhfaeaaGreatDoorW.PrintWords Go.Proofs.YtaakfmpffhfaeaaGreatDoorW.PrintLast Go.Proofs.YtaakfmpffhfaeaaGreatDoorW.PrintMore
open Go.Proofs.YtaakfmpffhfaeaaGreatDoor.Buf Go.Proofs.YtaakfmpffhfaeaaGreatDoor.Sha
attribute [local go_sem] max2_int min2_int max_two min_two max_three min_three max_four min_four   -- for this text's walks alone
set_option linter.unusedVariables false
theorem lit1p (w : World) (e : Nat) (x : Int) : ∀ j u, (nums .u8 [x])[j]? = some u → (w.alloc (.cells #[.int .u8 x] e)).cell? ((⟨w.heap.size, 0, none⟩ : Addr).add j) = some u := lit_cells w e _ _ rfl
set_option maxHeartbeats 8000000 in
set_option maxRecDepth 100000 in
theorem padded_calls (s : ByteArray) (w : World) (hs : s.size ≤ 1099511627776) :
  Calls Tryz.prog 117 #[.string s] w fun e w' => ∃ v, e = .returned v ∧ OwnM w' w.heap.size 5 v (padded (bytesOf s)) ∧ Below w.heap.size w w' := by
 go_enter Tryz.func117, Tryz.ntmps117
 go_wp2_with (first
  | ((with_reducible refine gate_dst (N := 7) rfl ?_); refine Buf.conv_event _ w.heap.size 9 122 5 rfl (.tmp 6) rfl Tryz.underlying9 Tryz.underlying122 Tryz.underlying5 s rfl (by omega) (by simp) ?_; intro v1 w1 ho1 hb1 hn1; have HO1 := Aside0.mk ho1; have HB1 := Aside0.mk hb1; clear ho1 hb1 hn1)
  | ((with_reducible refine gate_dst (N := 9) rfl ?_); refine Buf.wpList_append_M _ w.heap.size 5 rfl (.tmp 7) (.tmp 8) 122 rfl Tryz.underlying122 info5 v1 (bytesOf s) rfl (HO1.out.alloc _) ⟨w1.heap.size, 0, none⟩ 1 1 [128] rfl rfl (lit1p w1 5 128) (by simp; rw [bytesOf_length]; omega) (by have := HB1.out.size; simp; omega) ?_; intro v2 w2 ho2 hg2; have HO2 := Aside0.mk ho2; have HB2 := Aside0.mk ((below_alloc HB1.out _).grown hg2 (by have := HB1.out.size; simp; omega) (fun k hk => (HO1.out.lt k hk).1)); clear ho2 hg2))
 go_loopg [3] (zeros s.size) (fun kq v4 w' => ∃ j : Nat, Aside0 (j + kq = zeros s.size) ∧ Aside0 (OwnM w' w.heap.size 5 v4 ((bytesOf s ++ [128]) ++ List.replicate j 0)) ∧ Aside0 (Below w.heap.size w w'))
 case atStart => exact ⟨0, ⟨by omega⟩, ⟨by simpa using HO2.out⟩, HB2⟩
 case round =>
  obtain ⟨j, HJ, HO, HB⟩ := hrel
  obtain ⟨g, cap, L, rfl, hL, hg0, hL1, hL2, hg1⟩ := HO.out.form
  have hLs : L = s.size + 1 + j := by rw [hL]; simp; rw [bytesOf_length]; omega
  have HL := Aside0.mk hL
  clear hL
  have hsz : w.heap.size ≤ wr.heap.size := HB.out.size
  cases gk with
  | zero =>
   have h56 : ((L : Int) % 64 != 56) = false := by
    have := HJ.out
    unfold zeros at this
    rw [bne_eq_false_iff_eq]
    omega
   clear hLs
   go_wp2_with fail
   go_loopg [3, 5] 8 (fun kq v4 v6 w' => ∃ b : Int, v6 = .int .i64 b ∧ Aside0 (b = (kq : Int) - 1) ∧ Aside0 (kq ≤ 8) ∧ Aside0 (OwnM w' w.heap.size 5 v4 ((bytesOf s ++ [128]) ++ List.replicate j 0 ++ (lenBytes ((s.size : Int) * 8)).take (8 - kq))) ∧ Aside0 (Below w.heap.size w w'))
   case atStart => exact ⟨_, rfl, ⟨rfl⟩, ⟨by omega⟩, ⟨by simpa using HO.out⟩, HB⟩
   case round =>
    have HO9 := HO; clear HO
    clear HB hsz
    obtain ⟨b, rfl, HBY, HKQ, HO, HB⟩ := hrel
    have hsz : w.heap.size ≤ wr.heap.size := HB.out.size
    cases gk with
    | zero =>
     have hb0 : decide (0 ≤ b) = false := by have := HBY.out; simp; omega
     have HOP : Aside0 (OwnM wr w.heap.size 5 _ (padded (bytesOf s))) := ⟨by
      have h1 := HO.out
      rw [take_len_all] at h1
      rw [padded, bytesOf_length, ← show j = zeros s.size from by have := HJ.out; omega]
      exact h1⟩
     clear HO HO9 HL
     obtain ⟨g2, cap2, L2, rfl, hL2, hg20, hL21, hL22, hg21⟩ := HOP.out.form
     have HL2 := Aside0.mk hL2
     clear hL2
     go_wp2_with fail
     go_ret
     exact ⟨_, rfl, HOP.out, HB.out⟩
    | succ k2 =>
     obtain ⟨g2, cap2, L2, rfl, hL2, hg20, hL21, hL22, hg21⟩ := HO.out.form
     have HL2 := Aside0.mk hL2
     clear hL2
     have hb0 : 0 ≤ b := by have := HBY.out; omega
     have hb1 : b ≤ 7 := by have := HBY.out; have := HKQ.out; omega
     go_wp2_with (first
      | ((with_reducible refine gate_dst (N := 31) rfl ?_); refine Buf.wpList_append_M _ w.heap.size 5 rfl (.tmp 24) (.tmp 30) 122 rfl Tryz.underlying122 info5 _ _ rfl (HO.out.alloc _) ⟨wr.heap.size, 0, none⟩ 1 1 [(s.size : Int) * 8 / 2 ^ (8 * b).toNat % 256] rfl rfl (lit1p wr 5 _) (by have := HJ.out; unfold zeros at this; simp only [List.length_append, bytesOf_length, List.length_replicate, List.length_cons, List.length_nil, List.length_take, lenBytes]; omega) (by simp; omega) ?_; intro v2 w2 ho2 hg2; have HO2 := Aside0.mk ho2; have HB2 := Aside0.mk ((below_alloc HB.out _).grown hg2 (by simp; omega) (fun k hk => (HO.out.lt k hk).1)); clear ho2 hg2))
     go_roundg k2
     case measure => omega
     case rel => exact ⟨b - 1, rfl, ⟨by have := HBY.out; omega⟩, ⟨by have := HKQ.out; omega⟩, ⟨by
      have h1 := HO2.out
      rw [show (8 * b).toNat = 8 * k2 by have := HBY.out; omega, List.append_assoc, show [(s.size : Int) * 8 / 2 ^ (8 * k2) % 256] = [lenAt ((s.size : Int) * 8) k2] from rfl, take_len _ _ (by have := HKQ.out; omega)] at h1
      exact h1⟩, HB2⟩
  | succ k1 =>
   have h56 : ((L : Int) % 64 != 56) = true := by
    have := HJ.out
    unfold zeros at this
    rw [bne_iff_ne]
    omega
   clear hLs
   go_wp2_with (first
    | ((with_reducible refine gate_dst (N := 16) rfl ?_); refine Buf.wpList_append_M _ w.heap.size 5 rfl (.tmp 14) (.tmp 15) 122 rfl Tryz.underlying122 info5 _ ((bytesOf s ++ [128]) ++ List.replicate j 0) rfl (HO.out.alloc _) ⟨wr.heap.size, 0, none⟩ 1 1 [0] rfl rfl (lit1p wr 5 0) (by have := HL.out; have := HJ.out; unfold zeros at this; simp; rw [bytesOf_length]; omega) (by simp; omega) ?_; intro v2 w2 ho2 hg2; have HO2 := Aside0.mk ho2; have HB2 := Aside0.mk ((below_alloc HB.out _).grown hg2 (by simp; omega) (fun k hk => (HO.out.lt k hk).1)); clear ho2 hg2))
   go_roundg k1
   case measure => omega
   case rel => exact ⟨j + 1, ⟨by have := HJ.out; omega⟩, ⟨by rw [List.replicate_succ', ← List.append_assoc]; exact HO2.out⟩, HB2⟩
end Go.Proofs.YtaakfmpffhfaeaaGreatDoor.M
end

section
/- Plain lemmas about functions with a number of rounds; nothing of any program. -/
namespace Go.Proofs.YtaakfmpffhfaeaaGreatDoor.Pu
open Go.RowKit Go.Proofs.YtaakfmpffhfaeaaGreatDoorW.PrintWords
set_option linter.unusedVariables false
theorem Ev.succ {α : Type} {g : Nat → Option α} {r : α} (h : Ev (fun k => g (k + 1)) r) : Ev g r := Ev.step (fun _ => rfl) h
theorem Ev.pure_ {α : Type} (r : α) : Ev (fun _ => some r) r := Ev.now r
theorem Ev.cast {α : Type} {g : Nat → Option α} {r s : α} (h : Ev g r) (e : r = s) : Ev g s := e ▸ h
theorem Ev.ifp {α : Type} {c : Prop} [Decidable c] {f g : Nat → Option α} {r : α} (hc : c) (h : Ev f r) : Ev (fun k => if c then f k else g k) r := by
 simp only [if_pos hc]
 exact h
theorem Ev.ifn {α : Type} {c : Prop} [Decidable c] {f g : Nat → Option α} {r : α} (hc : ¬ c) (h : Ev g r) : Ev (fun k => if c then f k else g k) r := by
 simp only [if_neg hc]
 exact h
theorem wid {x : Int} (h0 : -9223372036854775808 ≤ x) (h1 : x ≤ 9223372036854775807) : wrap64 x = x := by
 unfold wrap64
 omega
theorem all_from {α : Type} {g : Nat → Int → Option α} (n : Nat) (P : Nat → Prop) [DecidablePred P] (stop fin : α)
  (step : ∀ (i : Nat) (r : α), i < n → P i → Ev (fun k => g k ((i : Int) + 1)) r → Ev (fun k => g k (i : Int)) r)
  (fail : ∀ i : Nat, i < n → ¬ P i → Ev (fun k => g k (i : Int)) stop)
  (done : Ev (fun k => g k (n : Int)) fin) (d : Nat) : ∀ i : Nat, n - i = d → i ≤ n → Ev (fun k => g k (i : Int)) (if ∀ j, j < n → i ≤ j → P j then fin else stop) := by
 induction d with
 | zero =>
  intro i hd hi
  obtain rfl : i = n := by omega
  rw [if_pos (fun j h1 h2 => absurd h1 (by omega))]
  exact done
 | succ d ih =>
  intro i hd hi
  by_cases hp : P i
  ·have h := ih (i + 1) (by omega) (by omega)
   have e : (if ∀ j, j < n → i + 1 ≤ j → P j then fin else stop) = (if ∀ j, j < n → i ≤ j → P j then fin else stop) := by
    have : (∀ j, j < n → i + 1 ≤ j → P j) ↔ (∀ j, j < n → i ≤ j → P j) := by
     refine ⟨fun h j h1 h2 => ?_, fun h j h1 h2 => h j h1 (by omega)⟩
     rcases Nat.eq_or_lt_of_le h2 with rfl | h3
     ·exact hp
     ·exact h j h1 h3
    simp only [this]
   rw [e] at h
   exact step i _ (by omega) hp (by exact_mod_cast h)
  ·rw [if_neg (fun h => hp (h i (by omega) (Nat.le_refl _)))]
   exact fail i (by omega) hp
theorem all_loop {α : Type} {g : Nat → Int → Option α} (n : Nat) (P : Nat → Prop) [DecidablePred P] (stop fin : α)
  (step : ∀ (i : Nat) (r : α), i < n → P i → Ev (fun k => g k ((i : Int) + 1)) r → Ev (fun k => g k (i : Int)) r)
  (fail : ∀ i : Nat, i < n → ¬ P i → Ev (fun k => g k (i : Int)) stop)
  (done : Ev (fun k => g k (n : Int)) fin) : Ev (fun k => g k 0) (if ∀ j, j < n → P j then fin else stop) := by
 have h := all_from n P stop fin step fail done n 0 (by omega) (by omega)
 have e : (∀ j, j < n → 0 ≤ j → P j) ↔ (∀ j, j < n → P j) := ⟨fun h j h1 => h j h1 (Nat.zero_le _), fun h j h1 _ => h j h1⟩
 simp only [e] at h
 exact h
theorem fold_loop {α β : Type} {g : Nat → β → Int → Option α} (n : Nat) (F : Nat → β) (r : α)
  (step : ∀ (i : Nat), i < n → Ev (fun k => g k (F (i + 1)) ((i : Int) + 1)) r → Ev (fun k => g k (F i) (i : Int)) r)
  (done : Ev (fun k => g k (F n) (n : Int)) r) : Ev (fun k => g k (F 0) 0) r := by
 have key : ∀ d i : Nat, n - i = d → i ≤ n → Ev (fun k => g k (F i) (i : Int)) r := by
  intro d
  induction d with
  | zero =>
   intro i hd hi
   obtain rfl : i = n := by omega
   exact done
  | succ d ih =>
   intro i hd hi
   exact step i (by omega) (by exact_mod_cast ih (i + 1) (by omega) (by omega))
 exact_mod_cast key n 0 (by omega) (by omega)
theorem rd_nat (xs : List Int) (i : Nat) : rd xs (i : Int) = xs.getD i 0 := by simp [rd]
theorem bt_nat (s : ByteArray) (i : Nat) : bt s (i : Int) = if h : i < s.size then ((s[i]'h).toNat : Int) else 0 := by simp [bt]
theorem bt_le (s : ByteArray) (i : Int) : bt s i ≤ 255 := (bt_range s i).2
theorem bt_ge (s : ByteArray) (i : Int) : 0 ≤ bt s i := (bt_range s i).1
theorem toList_inj {a b : ByteArray} : a.toList = b.toList ↔ a = b := by
 constructor
 ·intro h
  rw [ByteArray.toList_eq, ByteArray.toList_eq] at h
  exact ByteArray.ext (Array.toList_inj.1 h)
 ·rintro rfl
  rfl
end Go.Proofs.YtaakfmpffhfaeaaGreatDoor.Pu
end

section
namespace Go.Proofs.YtaakfmpffhfaeaaGreatDoor.M
open Go.RowKit Go.Proofs.YtaakfmpffhfaeaaGreatDoorW.PrintWords Go.Proofs.YtaakfmpffhfaeaaGreatDoorW.PrintLast Go.Proofs.YtaakfmpffhfaeaaGreatDoorW.PrintMore Go.Proofs.YtaakfmpffhfaeaaGreatDoor.Sq
set_option synthInstance.maxHeartbeats 2000000
set_option synthInstance.maxSize 4096
attribute [local go_sem] max2_int min2_int max_two min_two max_three min_three max_four min_four
set_option linter.unusedVariables false
set_option linter.unusedSimpArgs false
set_option maxHeartbeats 8000000
set_option maxRecDepth 100000
theorem gf152 : Go_ Tryz.prog 152 Tryz.f152 := ⟨Tryz.func152, by kernel_rfl, rfl⟩
def spec_l6Consts.f  : Option (List Int) := some (([1116352408, 1899447441, 3049323471, 3921009573, 961987163, 1508970993, 2453635748, 2870763221, 3624381080, 310598401, 607225278, 1426881987, 1925078388, 2162078206, 2614888103, 3248222580, 3835390401, 4022224774, 264347078, 604807628, 770255983, 1249150122, 1555081692, 1996064986, 2554220882, 2821834349, 2952996808, 3210313671, 3336571891, 3584528711, 113926993, 338241895, 666307205, 773529912, 1294757372, 1396182291, 1695183700, 1986661051, 2177026350, 2456956037, 2730485921, 2820302411, 3259730800, 3345764771, 3516065817, 3600352804, 4094571909, 275423344, 430227734, 506948616, 659060556, 883997877, 958139571, 1322822218, 1537002063, 1747873779, 1955562222, 2024104815, 2227730452, 2361852424, 2428436474, 2756734187, 3204031479, 3329325298] : List Int))
theorem spec_l6Consts.calls  (r : List Int) (w : World) (h : spec_l6Consts.f  = some r) :
  Calls Tryz.prog 152 #[] w fun e w' => ∃ v0_ : Value, e = .returned (v0_) ∧ Kd.R (Kd.int .u32) 124 w' w.heap.size (fun _ => True) v0_ r ∧ Below w.heap.size w w' := by
 have HB := Aside0.mk (Below.refl w.heap.size w)
 unfold spec_l6Consts.f at h
 have H := h
 clear h
 obtain ⟨y101, hy101⟩ : ∃ y_ : List Int, y_ = (([1116352408, 1899447441, 3049323471, 3921009573, 961987163, 1508970993, 2453635748, 2870763221, 3624381080, 310598401, 607225278, 1426881987, 1925078388, 2162078206, 2614888103, 3248222580, 3835390401, 4022224774, 264347078, 604807628, 770255983, 1249150122, 1555081692, 1996064986, 2554220882, 2821834349, 2952996808, 3210313671, 3336571891, 3584528711, 113926993, 338241895, 666307205, 773529912, 1294757372, 1396182291, 1695183700, 1986661051, 2177026350, 2456956037, 2730485921, 2820302411, 3259730800, 3345764771, 3516065817, 3600352804, 4094571909, 275423344, 430227734, 506948616, 659060556, 883997877, 958139571, 1322822218, 1537002063, 1747873779, 1955562222, 2024104815, 2227730452, 2361852424, 2428436474, 2756734187, 3204031479, 3329325298] : List Int)) := ⟨_, rfl⟩
 first | replace H := bind_y hy101 H | rw [← hy101] at H
 have Ny101 := Aside0.mk hy101
 clear hy101
 obtain rfl := Option.some.inj H
 go_enter Tryz.func152, Tryz.ntmps152
 go_wp2_with (first | ((with_reducible refine gate_dst (N := 1) rfl ?_); refine Kd.R_lit (Kd.int .u32) _ 124 ?hg (N := 1) ?hd (xs := ([1116352408, 1899447441, 3049323471, 3921009573, 961987163, 1508970993, 2453635748, 2870763221, 3624381080, 310598401, 607225278, 1426881987, 1925078388, 2162078206, 2614888103, 3248222580, 3835390401, 4022224774, 264347078, 604807628, 770255983, 1249150122, 1555081692, 1996064986, 2554220882, 2821834349, 2952996808, 3210313671, 3336571891, 3584528711, 113926993, 338241895, 666307205, 773529912, 1294757372, 1396182291, 1695183700, 1986661051, 2177026350, 2456956037, 2730485921, 2820302411, 3259730800, 3345764771, 3516065817, 3600352804, 4094571909, 275423344, 430227734, 506948616, 659060556, 883997877, 958139571, 1322822218, 1537002063, 1747873779, 1955562222, 2024104815, 2227730452, 2361852424, 2428436474, 2756734187, 3204031479, 3329325298] : List Int)) (inner := [.int .u32 1116352408, .int .u32 1899447441, .int .u32 3049323471, .int .u32 3921009573, .int .u32 961987163, .int .u32 1508970993, .int .u32 2453635748, .int .u32 2870763221, .int .u32 3624381080, .int .u32 310598401, .int .u32 607225278, .int .u32 1426881987, .int .u32 1925078388, .int .u32 2162078206, .int .u32 2614888103, .int .u32 3248222580, .int .u32 3835390401, .int .u32 4022224774, .int .u32 264347078, .int .u32 604807628, .int .u32 770255983, .int .u32 1249150122, .int .u32 1555081692, .int .u32 1996064986, .int .u32 2554220882, .int .u32 2821834349, .int .u32 2952996808, .int .u32 3210313671, .int .u32 3336571891, .int .u32 3584528711, .int .u32 113926993, .int .u32 338241895, .int .u32 666307205, .int .u32 773529912, .int .u32 1294757372, .int .u32 1396182291, .int .u32 1695183700, .int .u32 1986661051, .int .u32 2177026350, .int .u32 2456956037, .int .u32 2730485921, .int .u32 2820302411, .int .u32 3259730800, .int .u32 3345764771, .int .u32 3516065817, .int .u32 3600352804, .int .u32 4094571909, .int .u32 275423344, .int .u32 430227734, .int .u32 506948616, .int .u32 659060556, .int .u32 883997877, .int .u32 958139571, .int .u32 1322822218, .int .u32 1537002063, .int .u32 1747873779, .int .u32 1955562222, .int .u32 2024104815, .int .u32 2227730452, .int .u32 2361852424, .int .u32 2428436474, .int .u32 2756734187, .int .u32 3204031479, .int .u32 3329325298]) (ok := fun _ => True) (okp := fun _ => True) ?hr ?hp (fun _ hk => hk) trivial (Below.refl _ _) (Nat.le_refl _) (by simp) ?_; (case hd => rfl); (case hg => rfl); (case hr => first | (go_simp; done) | (go_simp; rfl)); (case hp => exact (Reps.one (show Kd.M (Kd.int .u32) _ _ _ 1116352408 [.int .u32 1116352408] from rfl) (Reps.one (show Kd.M (Kd.int .u32) _ _ _ 1899447441 [.int .u32 1899447441] from rfl) (Reps.one (show Kd.M (Kd.int .u32) _ _ _ 3049323471 [.int .u32 3049323471] from rfl) (Reps.one (show Kd.M (Kd.int .u32) _ _ _ 3921009573 [.int .u32 3921009573] from rfl) (Reps.one (show Kd.M (Kd.int .u32) _ _ _ 961987163 [.int .u32 961987163] from rfl) (Reps.one (show Kd.M (Kd.int .u32) _ _ _ 1508970993 [.int .u32 1508970993] from rfl) (Reps.one (show Kd.M (Kd.int .u32) _ _ _ 2453635748 [.int .u32 2453635748] from rfl) (Reps.one (show Kd.M (Kd.int .u32) _ _ _ 2870763221 [.int .u32 2870763221] from rfl) (Reps.one (show Kd.M (Kd.int .u32) _ _ _ 3624381080 [.int .u32 3624381080] from rfl) (Reps.one (show Kd.M (Kd.int .u32) _ _ _ 310598401 [.int .u32 310598401] from rfl) (Reps.one (show Kd.M (Kd.int .u32) _ _ _ 607225278 [.int .u32 607225278] from rfl) (Reps.one (show Kd.M (Kd.int .u32) _ _ _ 1426881987 [.int .u32 1426881987] from rfl) (Reps.one (show Kd.M (Kd.int .u32) _ _ _ 1925078388 [.int .u32 1925078388] from rfl) (Reps.one (show Kd.M (Kd.int .u32) _ _ _ 2162078206 [.int .u32 2162078206] from rfl) (Reps.one (show Kd.M (Kd.int .u32) _ _ _ 2614888103 [.int .u32 2614888103] from rfl) (Reps.one (show Kd.M (Kd.int .u32) _ _ _ 3248222580 [.int .u32 3248222580] from rfl) (Reps.one (show Kd.M (Kd.int .u32) _ _ _ 3835390401 [.int .u32 3835390401] from rfl) (Reps.one (show Kd.M (Kd.int .u32) _ _ _ 4022224774 [.int .u32 4022224774] from rfl) (Reps.one (show Kd.M (Kd.int .u32) _ _ _ 264347078 [.int .u32 264347078] from rfl) (Reps.one (show Kd.M (Kd.int .u32) _ _ _ 604807628 [.int .u32 604807628] from rfl) (Reps.one (show Kd.M (Kd.int .u32) _ _ _ 770255983 [.int .u32 770255983] from rfl) (Reps.one (show Kd.M (Kd.int .u32) _ _ _ 1249150122 [.int .u32 1249150122] from rfl) (Reps.one (show Kd.M (Kd.int .u32) _ _ _ 1555081692 [.int .u32 1555081692] from rfl) (Reps.one (show Kd.M (Kd.int .u32) _ _ _ 1996064986 [.int .u32 1996064986] from rfl) (Reps.one (show Kd.M (Kd.int .u32) _ _ _ 2554220882 [.int .u32 2554220882] from rfl) (Reps.one (show Kd.M (Kd.int .u32) _ _ _ 2821834349 [.int .u32 2821834349] from rfl) (Reps.one (show Kd.M (Kd.int .u32) _ _ _ 2952996808 [.int .u32 2952996808] from rfl) (Reps.one (show Kd.M (Kd.int .u32) _ _ _ 3210313671 [.int .u32 3210313671] from rfl) (Reps.one (show Kd.M (Kd.int .u32) _ _ _ 3336571891 [.int .u32 3336571891] from rfl) (Reps.one (show Kd.M (Kd.int .u32) _ _ _ 3584528711 [.int .u32 3584528711] from rfl) (Reps.one (show Kd.M (Kd.int .u32) _ _ _ 113926993 [.int .u32 113926993] from rfl) (Reps.one (show Kd.M (Kd.int .u32) _ _ _ 338241895 [.int .u32 338241895] from rfl) (Reps.one (show Kd.M (Kd.int .u32) _ _ _ 666307205 [.int .u32 666307205] from rfl) (Reps.one (show Kd.M (Kd.int .u32) _ _ _ 773529912 [.int .u32 773529912] from rfl) (Reps.one (show Kd.M (Kd.int .u32) _ _ _ 1294757372 [.int .u32 1294757372] from rfl) (Reps.one (show Kd.M (Kd.int .u32) _ _ _ 1396182291 [.int .u32 1396182291] from rfl) (Reps.one (show Kd.M (Kd.int .u32) _ _ _ 1695183700 [.int .u32 1695183700] from rfl) (Reps.one (show Kd.M (Kd.int .u32) _ _ _ 1986661051 [.int .u32 1986661051] from rfl) (Reps.one (show Kd.M (Kd.int .u32) _ _ _ 2177026350 [.int .u32 2177026350] from rfl) (Reps.one (show Kd.M (Kd.int .u32) _ _ _ 2456956037 [.int .u32 2456956037] from rfl) (Reps.one (show Kd.M (Kd.int .u32) _ _ _ 2730485921 [.int .u32 2730485921] from rfl) (Reps.one (show Kd.M (Kd.int .u32) _ _ _ 2820302411 [.int .u32 2820302411] from rfl) (Reps.one (show Kd.M (Kd.int .u32) _ _ _ 3259730800 [.int .u32 3259730800] from rfl) (Reps.one (show Kd.M (Kd.int .u32) _ _ _ 3345764771 [.int .u32 3345764771] from rfl) (Reps.one (show Kd.M (Kd.int .u32) _ _ _ 3516065817 [.int .u32 3516065817] from rfl) (Reps.one (show Kd.M (Kd.int .u32) _ _ _ 3600352804 [.int .u32 3600352804] from rfl) (Reps.one (show Kd.M (Kd.int .u32) _ _ _ 4094571909 [.int .u32 4094571909] from rfl) (Reps.one (show Kd.M (Kd.int .u32) _ _ _ 275423344 [.int .u32 275423344] from rfl) (Reps.one (show Kd.M (Kd.int .u32) _ _ _ 430227734 [.int .u32 430227734] from rfl) (Reps.one (show Kd.M (Kd.int .u32) _ _ _ 506948616 [.int .u32 506948616] from rfl) (Reps.one (show Kd.M (Kd.int .u32) _ _ _ 659060556 [.int .u32 659060556] from rfl) (Reps.one (show Kd.M (Kd.int .u32) _ _ _ 883997877 [.int .u32 883997877] from rfl) (Reps.one (show Kd.M (Kd.int .u32) _ _ _ 958139571 [.int .u32 958139571] from rfl) (Reps.one (show Kd.M (Kd.int .u32) _ _ _ 1322822218 [.int .u32 1322822218] from rfl) (Reps.one (show Kd.M (Kd.int .u32) _ _ _ 1537002063 [.int .u32 1537002063] from rfl) (Reps.one (show Kd.M (Kd.int .u32) _ _ _ 1747873779 [.int .u32 1747873779] from rfl) (Reps.one (show Kd.M (Kd.int .u32) _ _ _ 1955562222 [.int .u32 1955562222] from rfl) (Reps.one (show Kd.M (Kd.int .u32) _ _ _ 2024104815 [.int .u32 2024104815] from rfl) (Reps.one (show Kd.M (Kd.int .u32) _ _ _ 2227730452 [.int .u32 2227730452] from rfl) (Reps.one (show Kd.M (Kd.int .u32) _ _ _ 2361852424 [.int .u32 2361852424] from rfl) (Reps.one (show Kd.M (Kd.int .u32) _ _ _ 2428436474 [.int .u32 2428436474] from rfl) (Reps.one (show Kd.M (Kd.int .u32) _ _ _ 2756734187 [.int .u32 2756734187] from rfl) (Reps.one (show Kd.M (Kd.int .u32) _ _ _ 3204031479 [.int .u32 3204031479] from rfl) (Reps.one (show Kd.M (Kd.int .u32) _ _ _ 3329325298 [.int .u32 3329325298] from rfl) (Reps.none _ _)))))))))))))))))))))))))))))))))))))))))))))))))))))))))))))))))); intro v102 w1 ho2 hb hg_ hnew_; clear hg_ hnew_; (first | rw [← Ny101.out] at ho2 | (simp only [Int.reduceToNat] at ho2; rw [← Ny101.out] at ho2)); have HO103 := Aside0.mk (Kd.R_lower ho2 (bz HB.out)); replace HB := kB HB hb; clear hb ho2))
 go_ret
 exact ⟨_, by rfl, rx HO103.out, bx HB.out⟩
theorem gf153 : Go_ Tryz.prog 153 Tryz.f153 := ⟨Tryz.func153, by kernel_rfl, rfl⟩
def spec_l6Turn.f (a0 : Int) (a1 : Int) : Option (Int) := if 0 ≤ a1 then (if 0 ≤ (wrap64 (32 - a1)) then (some (Go.bits .or .u32 (shr .u32 a0 a1) (shl .u32 a0 (wrap64 (32 - a1))))) else (none)) else (none)
theorem spec_l6Turn.calls (a0 : Int) (a1 : Int) (r : Int) (w : World) (h : spec_l6Turn.f a0 a1 = some r) :
  Calls Tryz.prog 153 #[.int .u32 a0, .int .i64 a1] w fun e w' => e = .returned (.int .u32 r) ∧ Drawn0 w w' := by
 unfold spec_l6Turn.f at h
 have H := h
 clear h
 have c3 := ite_y H
 replace H := ite_t H
 have c3b0 := eq_true c3
 have c3b1 := decide_eq_true c3
 clear c3
 obtain ⟨ji4, hji4⟩ : ∃ j_ : Int, (shr .u32 a0 a1) = j_ := ⟨_, rfl⟩
 replace H : (if 0 ≤ (wrap64 (32 - a1)) then (some (Go.bits .or .u32 (ji4) (shl .u32 a0 (wrap64 (32 - a1))))) else (none)) = some r := by first | (rw [hji4] at H; exact H) | (simp only [hji4] at H ⊢; exact H)
 have hji4_ : (a0 / 2 ^ min a1.toNat 32) = ji4 := hji4
 have hji4z : a1 ≤ 32 → (a0 / 2 ^ a1.toNat) = ji4 := shr_small hji4
 obtain ⟨ji5, hji5⟩ : ∃ j_ : Int, (wrap64 (32 - a1)) = j_ := ⟨_, rfl⟩
 replace H : (if 0 ≤ (ji5) then (some (Go.bits .or .u32 (ji4) (shl .u32 a0 (ji5)))) else (none)) = some r := by first | (rw [hji5] at H; exact H) | (simp only [hji5] at H ⊢; exact H)
 have hji5w : (IntKind.i64.wrap (32 - a1)) = ji5 := (i64_w _).trans hji5
 have c6 := ite_y H
 replace H := ite_t H
 have c6b0 := eq_true c6
 have c6b1 := decide_eq_true c6
 clear c6
 obtain ⟨ji7, hji7⟩ : ∃ j_ : Int, (shl .u32 a0 (ji5)) = j_ := ⟨_, rfl⟩
 replace H : (some (Go.bits .or .u32 (ji4) (ji7))) = some r := by first | (rw [hji7] at H; exact H) | (simp only [hji7] at H ⊢; exact H)
 have hji7_ : (IntKind.u32.wrap (a0 * 2 ^ min (ji5).toNat 32)) = ji7 := hji7
 have hji7z : (ji5) ≤ 32 → (IntKind.u32.wrap (a0 * 2 ^ (ji5).toNat)) = ji7 := shl_small hji7
 obtain rfl := Option.some.inj H
 go_enter Tryz.func153, Tryz.ntmps153
 go_wp2
 repeat (go_quiet (fail); try go_wp2)
 go_ret
 exact ⟨by first | rfl | (simp; done) | (simp only [← hji4, ← hji5, ← hji7] <;> (first | rfl | simp)) | (simp [*]; done), by repeat (first | exact Drawn0.refl _ | apply Drawn0.step)⟩
theorem gf151 : Go_ Tryz.prog 151 Tryz.f151 := ⟨Tryz.func151, by kernel_rfl, rfl⟩
mutual
def spec_l6Words.l0 : Nat → List Int → List Int → Int → Option (List Int)
 | 0, _, _, _ => none
 | k + 1, x0, x3, x4 => if x4 < 16 then (if 0 ≤ (wrap64 (4 * x4)) then (if (wrap64 (4 * x4)) < (x0.length : Int) then (if 0 ≤ (wrap64 ((wrap64 (4 * x4)) + 1)) then (if (wrap64 ((wrap64 (4 * x4)) + 1)) < (x0.length : Int) then (if 0 ≤ (wrap64 ((wrap64 (4 * x4)) + 2)) then (if (wrap64 ((wrap64 (4 * x4)) + 2)) < (x0.length : Int) then (if 0 ≤ (wrap64 ((wrap64 (4 * x4)) + 3)) then (if (wrap64 ((wrap64 (4 * x4)) + 3)) < (x0.length : Int) then (if x3.length < 35184372088832 then (spec_l6Words.l0 k x0 (x3 ++ [Go.bits .or .u32 (Go.bits .or .u32 (Go.bits .or .u32 ((((rd x0 (wrap64 (4 * x4))) % 4294967296) * 16777216) % 4294967296) ((((rd x0 (wrap64 ((wrap64 (4 * x4)) + 1))) % 4294967296) * 65536) % 4294967296)) ((((rd x0 (wrap64 ((wrap64 (4 * x4)) + 2))) % 4294967296) * 256) % 4294967296)) ((rd x0 (wrap64 ((wrap64 (4 * x4)) + 3))) % 4294967296)]) (wrap64 (x4 + 1))) else (none)) else (none)) else (none)) else (none)) else (none)) else (none)) else (none)) else (none)) else (none)) else (spec_l6Words.l1 k x3 16)
def spec_l6Words.l1 : Nat → List Int → Int → Option (List Int)
 | 0, _, _ => none
 | k + 1, x3, x5 => if x5 < 64 then (if 0 ≤ (wrap64 (x5 - 15)) then (if (wrap64 (x5 - 15)) < (x3.length : Int) then (if 0 ≤ (wrap64 (x5 - 2)) then (if (wrap64 (x5 - 2)) < (x3.length : Int) then ((spec_l6Turn.f (rd x3 (wrap64 (x5 - 15))) 7).bind fun t113 => ((spec_l6Turn.f (rd x3 (wrap64 (x5 - 15))) 18).bind fun t114 => ((spec_l6Turn.f (rd x3 (wrap64 (x5 - 2))) 17).bind fun t115 => ((spec_l6Turn.f (rd x3 (wrap64 (x5 - 2))) 19).bind fun t116 => (if 0 ≤ (wrap64 (x5 - 16)) then (if (wrap64 (x5 - 16)) < (x3.length : Int) then (if 0 ≤ (wrap64 (x5 - 7)) then (if (wrap64 (x5 - 7)) < (x3.length : Int) then (if x3.length < 35184372088832 then (spec_l6Words.l1 k (x3 ++ [((((((rd x3 (wrap64 (x5 - 16))) + (Go.bits .xor .u32 (Go.bits .xor .u32 t113 t114) ((rd x3 (wrap64 (x5 - 15))) / 8))) % 4294967296) + (rd x3 (wrap64 (x5 - 7)))) % 4294967296) + (Go.bits .xor .u32 (Go.bits .xor .u32 t115 t116) ((rd x3 (wrap64 (x5 - 2))) / 1024))) % 4294967296]) (wrap64 (x5 + 1))) else (none)) else (none)) else (none)) else (none)) else (none)))))) else (none)) else (none)) else (none)) else (none)) else (some x3)
end
def spec_l6Words.f (k : Nat) (l0 : List Int) : Option (List Int) := if 0 ≤ 70368744177664 then (spec_l6Words.l0 k l0 (List.replicate 0 0) 0) else (none)
theorem spec_l6Words.mono_l : ∀ k, (∀ y0 y1 y2, LeO (spec_l6Words.l0 k y0 y1 y2) (spec_l6Words.l0 (k + 1) y0 y1 y2)) ∧ (∀ y0 y1, LeO (spec_l6Words.l1 k y0 y1) (spec_l6Words.l1 (k + 1) y0 y1))
 | 0 => ⟨fun _ _ _ r h => by simp [spec_l6Words.l0] at h, fun _ _ r h => by simp [spec_l6Words.l1] at h⟩
 | k + 1 => by
  obtain ⟨ih0, ih1⟩ := spec_l6Words.mono_l k
  refine ⟨?_, ?_⟩
  ·intro y0 y1 y2
   unfold spec_l6Words.l0
   have I0_ := fun a b c => LeC.mk (ih0 a b c)
   have I1_ := fun a b => LeC.mk (ih1 a b)
   exact LeC.out
  ·intro y0 y1
   unfold spec_l6Words.l1
   have I0_ := fun a b c => LeC.mk (ih0 a b c)
   have I1_ := fun a b => LeC.mk (ih1 a b)
   exact LeC.out
theorem spec_l6Words.mono : ∀ a0 k, LeO (spec_l6Words.f k a0) (spec_l6Words.f (k + 1) a0) := by
 intro a0 k
 obtain ⟨ih0, ih1⟩ := spec_l6Words.mono_l k
 unfold spec_l6Words.f
 have I0_ := fun a b c => LeC.mk (ih0 a b c)
 have I1_ := fun a b => LeC.mk (ih1 a b)
 exact LeC.out
def spec_l6Words.T5 : Bool × List (List Nat × List Nat) := (true, [([], []), ([], []), ([], []), ([2], [2]), ([1, 3], [1, 3]), ([4], [4]), ([5], [5]), ([6], [6]), ([], []), ([], []), ([9], [9]), ([10], [10]), ([8, 11], [8, 11]), ([12], [12]), ([13], [13]), ([14], [14]), ([7, 15], [7, 15]), ([], []), ([], []), ([18], [18]), ([19], [19]), ([17, 20], [17, 20]), ([21], [21]), ([22], [22]), ([23], [23]), ([16, 24], [16, 24]), ([], []), ([], []), ([27], [27]), ([28], [28]), ([26, 29], [26, 29]), ([30], [30]), ([31], [31]), ([25, 32], [25, 32]), ([33], [33]), ([0, 34], [0, 34]), ([35, 35, 0, 1, 2, 3, 4, 5, 6, 7, 8, 9, 10, 11, 12, 13, 14, 15, 16, 17, 18, 19, 20, 21, 22, 23, 24, 25, 26, 27, 28, 29, 30, 31, 32, 33, 34, 35], [0, 35])])
def spec_l6Words.B5 : List Nat := [0, 0, 0, 4, 14, 30, 62, 126, 0, 0, 512, 1536, 3840, 7936, 16128, 32512, 65534, 0, 0, 262144, 786432, 1966080, 4063232, 8257536, 16646144, 33554430, 0, 0, 134217728, 402653184, 1006632960, 2080374784, 4227858432, 8589934590, 17179869182, 34359738367, 68719476735]
theorem spec_l6Words.tab5 : rtab .any (opsOf Tryz.f151 5) = spec_l6Words.T5 := by kernel_rfl
theorem spec_l6Words.bits5 : waitsOk spec_l6Words.T5.2 spec_l6Words.B5 = true := by kernel_rfl
def spec_l6Words.T13 : Bool × List (List Nat × List Nat) := (true, [([], []), ([], []), ([], []), ([2], [2]), ([1, 3], [1, 3]), ([4], [4]), ([], []), ([5, 6], [5, 6]), ([], []), ([], []), ([9], [9]), ([8, 10], [8, 10]), ([11], [11]), ([7, 12], [7, 12]), ([], []), ([13, 14], [13, 14]), ([15], [15]), ([0, 16], [0, 16]), ([17, 17, 0, 1, 2, 3, 4, 5, 6, 7, 8, 9, 10, 11, 12, 13, 14, 15, 16, 17], [0, 1, 8, 17])])
def spec_l6Words.B13 : List Nat := [0, 0, 0, 4, 14, 30, 0, 126, 0, 0, 512, 1792, 3840, 8190, 0, 32766, 65534, 131071, 262143]
theorem spec_l6Words.tab13 : rtab .any (opsOf Tryz.f151 13) = spec_l6Words.T13 := by kernel_rfl
theorem spec_l6Words.bits13 : waitsOk spec_l6Words.T13.2 spec_l6Words.B13 = true := by kernel_rfl
theorem spec_l6Words.calls (k : Nat) (A0 : Option Addr) (c0 : Nat) (l0 : List Int) (r : List Int) (w : World) (hr0 : Kd.C (Kd.int .u8) w A0 l0.length l0) (hc0 : l0.length ≤ c0) (h : spec_l6Words.f k l0 = some r) :
  Calls Tryz.prog 151 #[.slice A0 l0.length c0] w fun e w' => ∃ v0_ : Value, e = .returned (v0_) ∧ Kd.R (Kd.int .u32) 124 w' w.heap.size (fun _ => True) v0_ r ∧ Below w.heap.size w w' := by
 have HR0 := Aside0.mk hr0
 have HC0 := Aside0.mk hc0
 clear hr0 hc0
 have HB := Aside0.mk (Below.refl w.heap.size w)
 unfold spec_l6Words.f at h
 have H := h
 clear h
 have c2 := ite_y H
 replace H := ite_t H
 have c2b0 := eq_true c2
 have c2b1 := decide_eq_true c2
 clear c2
 obtain ⟨y101, hy101⟩ : ∃ y_ : List Int, y_ = (List.replicate 0 0) := ⟨_, rfl⟩
 first | replace H := bind_y hy101 H | rw [← hy101] at H
 have Ny101 := Aside0.mk hy101
 clear hy101
 have H' := Aside0.mk H
 clear H
 go_enter Tryz.func151, Tryz.ntmps151
 go_wp2_with (first | ((with_reducible refine gate_dst (N := 10) rfl ?_); refine R_make0 (Kd.int .u32) _ 124 rfl (N := 10) rfl 125 _ _ rfl 64 rfl rfl Tryz.underlying125 (.int .u32 0) 4 info124 (by decide) (by decide) 0 (ok := fun _ => True) trivial (Below.refl _ _) (Nat.le_refl _) ?_; intro v102 w3 ho4 hb hg_ hnew_; clear hg_ hnew_; (first | rw [← Ny101.out] at ho4 | (simp only [Int.reduceToNat] at ho4; rw [← Ny101.out] at ho4)); have HO103 := Aside0.mk (Kd.R_lower ho4 (bz HB.out)); replace HB := kB HB hb; clear hb ho4))
 go_loopg [3, 4] k (fun kq v3 v4 w' => ∃ (x3_1 : List Int) (x4_1 : Int), v4 = .int .i64 x4_1 ∧ Aside0 (spec_l6Words.l0 kq l0 x3_1 x4_1 = some r) ∧ Aside0 (kq ≤ k) ∧ Aside0 (Kd.R (Kd.int .u32) 124 w' w.heap.size (fun _ => True) v3 x3_1) ∧ Aside0 (Below w.heap.size w w'))
 case atStart => exact ⟨(y101), (0), (by first | rfl | (simp; done) | (simp [*]; done)), H', ⟨Nat.le_refl _⟩, ⟨rx HO103.out⟩, ⟨bx HB.out⟩⟩
 case round =>
  clear H'
  try clear c1
  try clear c2
  try clear c2b0
  try clear c2b1
  try clear p2
  obtain ⟨x3_1, x4_1, rfl, HA, HK1, HO_3, HB⟩ := hrel
  cases gk with
  | zero => exact absurd HA.out (by simp [spec_l6Words.l0])
  | succ k1 =>
   have H := HA.out
   clear HA
   simp only [spec_l6Words.l0] at H
   by_cases c5 : x4_1 < 16
   ·rw [if_pos c5] at H
    have c5b0 := decide_eq_true c5
    clear c5
    obtain ⟨ji6, hji6⟩ : ∃ j_ : Int, (wrap64 (4 * x4_1)) = j_ := ⟨_, rfl⟩
    replace H : (if 0 ≤ (ji6) then (if (ji6) < (l0.length : Int) then (if 0 ≤ (wrap64 ((ji6) + 1)) then (if (wrap64 ((ji6) + 1)) < (l0.length : Int) then (if 0 ≤ (wrap64 ((ji6) + 2)) then (if (wrap64 ((ji6) + 2)) < (l0.length : Int) then (if 0 ≤ (wrap64 ((ji6) + 3)) then (if (wrap64 ((ji6) + 3)) < (l0.length : Int) then (if x3_1.length < 35184372088832 then (spec_l6Words.l0 k1 l0 (x3_1 ++ [Go.bits .or .u32 (Go.bits .or .u32 (Go.bits .or .u32 ((((rd l0 (ji6)) % 4294967296) * 16777216) % 4294967296) ((((rd l0 (wrap64 ((ji6) + 1))) % 4294967296) * 65536) % 4294967296)) ((((rd l0 (wrap64 ((ji6) + 2))) % 4294967296) * 256) % 4294967296)) ((rd l0 (wrap64 ((ji6) + 3))) % 4294967296)]) (wrap64 (x4_1 + 1))) else (none)) else (none)) else (none)) else (none)) else (none)) else (none)) else (none)) else (none)) else (none)) = some r := by first | (rw [hji6] at H; exact H) | (simp only [hji6] at H ⊢; exact H)
    have hji6w : (IntKind.i64.wrap (4 * x4_1)) = ji6 := (i64_w _).trans hji6
    have c7 := ite_y H
    replace H := ite_t H
    have c7b0 := decide_eq_true c7
    clear c7
    have c8 := ite_y H
    replace H := ite_t H
    have c8b0 := decide_eq_true c8
    clear c8
    obtain ⟨ji9, hji9⟩ : ∃ j_ : Int, (wrap64 ((ji6) + 1)) = j_ := ⟨_, rfl⟩
    replace H : (if 0 ≤ (ji9) then (if (ji9) < (l0.length : Int) then (if 0 ≤ (wrap64 ((ji6) + 2)) then (if (wrap64 ((ji6) + 2)) < (l0.length : Int) then (if 0 ≤ (wrap64 ((ji6) + 3)) then (if (wrap64 ((ji6) + 3)) < (l0.length : Int) then (if x3_1.length < 35184372088832 then (spec_l6Words.l0 k1 l0 (x3_1 ++ [Go.bits .or .u32 (Go.bits .or .u32 (Go.bits .or .u32 ((((rd l0 (ji6)) % 4294967296) * 16777216) % 4294967296) ((((rd l0 (ji9)) % 4294967296) * 65536) % 4294967296)) ((((rd l0 (wrap64 ((ji6) + 2))) % 4294967296) * 256) % 4294967296)) ((rd l0 (wrap64 ((ji6) + 3))) % 4294967296)]) (wrap64 (x4_1 + 1))) else (none)) else (none)) else (none)) else (none)) else (none)) else (none)) else (none)) = some r := by first | (rw [hji9] at H; exact H) | (simp only [hji9] at H ⊢; exact H)
    have hji9w : (IntKind.i64.wrap ((ji6) + 1)) = ji9 := (i64_w _).trans hji9
    have c10 := ite_y H
    replace H := ite_t H
    have c10b0 := decide_eq_true c10
    clear c10
    have c11 := ite_y H
    replace H := ite_t H
    have c11b0 := decide_eq_true c11
    clear c11
    obtain ⟨ji12, hji12⟩ : ∃ j_ : Int, (wrap64 ((ji6) + 2)) = j_ := ⟨_, rfl⟩
    replace H : (if 0 ≤ (ji12) then (if (ji12) < (l0.length : Int) then (if 0 ≤ (wrap64 ((ji6) + 3)) then (if (wrap64 ((ji6) + 3)) < (l0.length : Int) then (if x3_1.length < 35184372088832 then (spec_l6Words.l0 k1 l0 (x3_1 ++ [Go.bits .or .u32 (Go.bits .or .u32 (Go.bits .or .u32 ((((rd l0 (ji6)) % 4294967296) * 16777216) % 4294967296) ((((rd l0 (ji9)) % 4294967296) * 65536) % 4294967296)) ((((rd l0 (ji12)) % 4294967296) * 256) % 4294967296)) ((rd l0 (wrap64 ((ji6) + 3))) % 4294967296)]) (wrap64 (x4_1 + 1))) else (none)) else (none)) else (none)) else (none)) else (none)) = some r := by first | (rw [hji12] at H; exact H) | (simp only [hji12] at H ⊢; exact H)
    have hji12w : (IntKind.i64.wrap ((ji6) + 2)) = ji12 := (i64_w _).trans hji12
    have c13 := ite_y H
    replace H := ite_t H
    have c13b0 := decide_eq_true c13
    clear c13
    have c14 := ite_y H
    replace H := ite_t H
    have c14b0 := decide_eq_true c14
    clear c14
    obtain ⟨ji15, hji15⟩ : ∃ j_ : Int, (wrap64 ((ji6) + 3)) = j_ := ⟨_, rfl⟩
    replace H : (if 0 ≤ (ji15) then (if (ji15) < (l0.length : Int) then (if x3_1.length < 35184372088832 then (spec_l6Words.l0 k1 l0 (x3_1 ++ [Go.bits .or .u32 (Go.bits .or .u32 (Go.bits .or .u32 ((((rd l0 (ji6)) % 4294967296) * 16777216) % 4294967296) ((((rd l0 (ji9)) % 4294967296) * 65536) % 4294967296)) ((((rd l0 (ji12)) % 4294967296) * 256) % 4294967296)) ((rd l0 (ji15)) % 4294967296)]) (wrap64 (x4_1 + 1))) else (none)) else (none)) else (none)) = some r := by first | (rw [hji15] at H; exact H) | (simp only [hji15] at H ⊢; exact H)
    have hji15w : (IntKind.i64.wrap ((ji6) + 3)) = ji15 := (i64_w _).trans hji15
    have c16 := ite_y H
    replace H := ite_t H
    have c16b0 := decide_eq_true c16
    clear c16
    have c17 := ite_y H
    replace H := ite_t H
    have c17b0 := decide_eq_true c17
    clear c17
    have c18 := ite_y H
    replace H := ite_t H
    have LMc18 := Aside0.mk c18
    clear c18
    obtain ⟨y108, hy108⟩ : ∃ y_ : List Int, y_ = (x3_1 ++ [Go.bits .or .u32 (Go.bits .or .u32 (Go.bits .or .u32 ((((rd l0 (ji6)) % 4294967296) * 16777216) % 4294967296) ((((rd l0 (ji9)) % 4294967296) * 65536) % 4294967296)) ((((rd l0 (ji12)) % 4294967296) * 256) % 4294967296)) ((rd l0 (ji15)) % 4294967296)]) := ⟨_, rfl⟩
    first | replace H := bind_y hy108 H | rw [← hy108] at H
    have Ny108 := Aside0.mk hy108
    clear hy108
    have H' := Aside0.mk H
    clear H
    try go_wp2
    replace HO_3 := Aside0.mk (Kd.R_drew HO_3.out)
    replace HB := Aside0.mk (below_drew1 HB.out)
    have p104 := of_decide_eq_true c7b0
    have q104 := of_decide_eq_true c8b0
    obtain ⟨ad104, e104, hx104_0⟩ := Kd.at_int HR0.out (ji6) p104 q104
    have hw104_0 := hx104_0
    cases e104
    replace hx104_0 := px HB.out hx104_0
    replace p104 := eq_true p104
    replace q104 := eq_true q104
    have p105 := of_decide_eq_true c10b0
    have q105 := of_decide_eq_true c11b0
    obtain ⟨ad105, e105, hx105_0⟩ := Kd.at_int HR0.out (ji9) p105 q105
    have hw105_0 := hx105_0
    obtain rfl : ad104 = ad105 := (by injection e105)
    replace hx105_0 := px HB.out hx105_0
    replace p105 := eq_true p105
    replace q105 := eq_true q105
    have p106 := of_decide_eq_true c13b0
    have q106 := of_decide_eq_true c14b0
    obtain ⟨ad106, e106, hx106_0⟩ := Kd.at_int HR0.out (ji12) p106 q106
    have hw106_0 := hx106_0
    obtain rfl : ad104 = ad106 := (by injection e106)
    replace hx106_0 := px HB.out hx106_0
    replace p106 := eq_true p106
    replace q106 := eq_true q106
    have p107 := of_decide_eq_true c16b0
    have q107 := of_decide_eq_true c17b0
    obtain ⟨ad107, e107, hx107_0⟩ := Kd.at_int HR0.out (ji15) p107 q107
    have hw107_0 := hx107_0
    obtain rfl : ad104 = ad107 := (by injection e107)
    replace hx107_0 := px HB.out hx107_0
    replace p107 := eq_true p107
    replace q107 := eq_true q107
    refine start_ (n := 37) (S := fun w' => w'.cell? (ad104.add ((ji6)).toNat) = some (.int .u8 (rd l0 (ji6))) ∧ w'.cell? (ad104.add ((ji9)).toNat) = some (.int .u8 (rd l0 (ji9))) ∧ w'.cell? (ad104.add ((ji12)).toNat) = some (.int .u8 (rd l0 (ji12))) ∧ w'.cell? (ad104.add ((ji15)).toNat) = some (.int .u8 (rd l0 (ji15)))) (ds := []) _ (by kernel_rfl) rfl rfl ⟨(px HB.out hw104_0), (px HB.out hw105_0), (px HB.out hw106_0), (px HB.out hw107_0)⟩ (fun hHeld => ?_); refine with_tabW spec_l6Words.tab5 spec_l6Words.bits5 (fun HT_ HW_ => ?_)
    generalize wr.drew = w19 at HO_3 HB hx104_0 hx105_0 hx106_0 hx107_0 hHeld ⊢
    refine ord_ [.p 0 15, .p 1 16, .p 2 17, .p 3 18, .p 4 19, .p 8 23, .p 9 24, .p 10 25, .p 11 26, .p 12 27, .p 17 32, .p 18 33, .p 19 34, .p 20 35, .p 21 36, .p 26 41, .p 27 42, .p 28 43, .p 29 44, .p 30 45, .t 5 20, .p 6 21, .p 7 22, .t 13 28, .p 14 29, .p 15 30, .p 16 31, .t 22 37, .p 23 38, .p 24 39, .p 25 40, .t 31 46, .p 32 47, .p 33 48] ?_
    repeat (first | (refine pu_ (v := ?_) (a' := ?_) HT_ rfl rfl (by kernel_rfl) (fun _ _ _ h => h) (by rfl) ?_ ?_ ?_; rotate_left 2; (intro w'; go_simp; with_reducible rfl); (simp only [Act.put, List.setIfInBounds_toArray, List.set_cons_zero, List.set_cons_succ, i64_w, i32_w]; rfl)) | (refine ta_ (v := ?_) (a' := ?_) HT_ HW_ rfl rfl (by kernel_rfl) (fun _ _ _ h => h) (by rfl) hHeld ?_ ?_ ?_; rotate_left 2; (rintro w' ⟨s0, s1, s2, s3⟩; go_simp; with_reducible rfl); (simp only [Act.put, List.setIfInBounds_toArray, List.set_cons_zero, List.set_cons_succ, i64_w, i32_w]; rfl)))
    refine ord0 ?_
    refine on_ (i := 34) (N := some 49) HT_ rfl rfl (by kernel_rfl) (by decide) (fun K hK => ?_)
    refine value_ (w1 := ?_) (v := ?_) (by rfl) rfl ?_ ?_
    rotate_left 2
    ·go_simp
     constructor
     ·rfl
     ·rfl
    refine hK.out _ _ ⟨(World.cell?_alloc_lt _ _ _ (World.block_lt_of_cell? _ _ ((pz HB.out hw104_0)))).trans ((pz HB.out hw104_0)), (World.cell?_alloc_lt _ _ _ (World.block_lt_of_cell? _ _ ((pz HB.out hw105_0)))).trans ((pz HB.out hw105_0)), (World.cell?_alloc_lt _ _ _ (World.block_lt_of_cell? _ _ ((pz HB.out hw106_0)))).trans ((pz HB.out hw106_0)), (World.cell?_alloc_lt _ _ _ (World.block_lt_of_cell? _ _ ((pz HB.out hw107_0)))).trans ((pz HB.out hw107_0))⟩ (fun hHeld => ?_)
    clear hK K
    refine norm_ (a' := ?_) ?_ ?_
    rotate_left
    ·show Act.put _ (some 49) _ = _
     simp only [Act.put, List.setIfInBounds_toArray, List.set_cons_zero, List.set_cons_succ, i64_w, i32_w]
     rfl
    refine on_ (i := 35) (N := some 50) HT_ rfl rfl (by kernel_rfl) (by decide) (fun K hK => ?_)
    refine Kd.R_append_step (Kd.int .u32) (w0 := w) w.heap.size (by rfl) (.tmp 15) (.tmp 49) 125 124 (.int .u32 0) 4 rfl Tryz.underlying125 info124 rfl (by decide) (by omega) u3 x3_1 (Go.bits .or .u32 (Go.bits .or .u32 (Go.bits .or .u32 ((((rd l0 (ji6)) % 4294967296) * 16777216) % 4294967296) ((((rd l0 (ji9)) % 4294967296) * 65536) % 4294967296)) ((((rd l0 (ji12)) % 4294967296) * 256) % 4294967296)) ((rd l0 (ji15)) % 4294967296)) [.int .u32 (Go.bits .or .u32 (Go.bits .or .u32 (Go.bits .or .u32 ((((rd l0 (ji6)) % 4294967296) * 16777216) % 4294967296) ((((rd l0 (ji9)) % 4294967296) * 65536) % 4294967296)) ((((rd l0 (ji12)) % 4294967296) * 256) % 4294967296)) ((rd l0 (ji15)) % 4294967296))] (fun _ => True) (fun _ => False) rfl rfl ?aP (fun _ hk => hk.elim) ?aF ?aO ?aB ?aS ?aL ?_
    (case aP => exact rfl)
    (case aB => exact (bx HB.out))
    (case aF => exact (fun _ _ => trivial))
    (case aO => exact (rx HO_3.out))
    (case aS => exact (bz HB.out))
    (case aL => have := LMc18.out; omega)
    intro v109 w20 ho hb hg hat
    rw [← Ny108.out] at ho
    replace HB := Aside0.mk (hb)
    have HO110 := Aside0.mk (ho)
    clear HO_3
    clear ho hb hg hat
    refine hK.out _ _ ⟨(pz HB.out hw104_0), (pz HB.out hw105_0), (pz HB.out hw106_0), (pz HB.out hw107_0)⟩ (fun hHeld => ?_)
    clear hK K
    refine norm_ (a' := ?_) ?_ ?_
    rotate_left
    ·show Act.put _ (some 50) _ = _
     simp only [Act.put, List.setIfInBounds_toArray, List.set_cons_zero, List.set_cons_succ, i64_w, i32_w]
     rfl
    refine ord_ [.p 36 3] ?_
    repeat (refine pu_ (v := ?_) (a' := ?_) HT_ rfl rfl (by kernel_rfl) (fun _ _ _ h => h) (by rfl) ?_ ?_ ?_; rotate_left 2; (intro w'; go_simp; with_reducible rfl); (simp only [Act.put, List.setIfInBounds_toArray, List.set_cons_zero, List.set_cons_succ, i64_w, i32_w]; rfl))
    refine ord0 ?_
    refine done_ (done_of HT_.out (by kernel_rfl)) ?_
    try go_wp2
    go_roundg k1
    case measure => have := HK1.out; omega
    case rel => exact ⟨(y108), (wrap64 (x4_1 + 1)), (by first | rfl | (simp; done) | (simp [*]; done)), H', ⟨by have := HK1.out; omega⟩, ⟨rx HO110.out⟩, ⟨bx HB.out⟩⟩
   ·rw [if_neg c5] at H
    have c5b0 := decide_eq_false c5
    clear c5
    have H' := Aside0.mk H
    clear H
    go_wp2
    go_loopg [3, 5] k1 (fun kq v3 v5 w' => ∃ (x3_2 : List Int) (x5_2 : Int), v5 = .int .i64 x5_2 ∧ Aside0 (spec_l6Words.l1 kq x3_2 x5_2 = some r) ∧ Aside0 (kq ≤ k1) ∧ Aside0 (Kd.R (Kd.int .u32) 124 w' w.heap.size (fun _ => True) v3 x3_2) ∧ Aside0 (Below w.heap.size w w'))
    case atStart => exact ⟨(x3_1), (16), (by first | rfl | (simp; done) | (simp [*]; done)), H', ⟨Nat.le_refl _⟩, ⟨rx HO_3.out⟩, ⟨bx HB.out⟩⟩
    case round =>
     clear H'
     try clear c1
     try clear p1
     try clear q1
     try clear hx1
     try clear c2
     try clear c2b0
     try clear c2b1
     try clear p2
     try clear c5
     try clear c5b0
     try clear p6
     try clear c7
     try clear c7b0
     try clear c8
     try clear c8b0
     try clear c10
     try clear c10b0
     try clear p10
     try clear q10
     try clear hx10
     try clear c11
     try clear c11b0
     try clear c13
     try clear c13b0
     try clear c14
     try clear c14b0
     try clear c15
     try clear c16
     try clear c16b0
     try clear c17
     try clear c17b0
     try clear c18
     try clear hx104_0
     try clear hx105_0
     try clear hx106_0
     try clear hx107_0
     try clear p104
     try clear p105
     try clear p106
     try clear p107
     try clear p2
     try clear q104
     try clear q105
     try clear q106
     try clear q107
     obtain ⟨x3_2, x5_2, rfl, HA, HK2, HO_3, HB⟩ := hrel
     cases gk with
     | zero => exact absurd HA.out (by simp [spec_l6Words.l1])
     | succ k2 =>
      have H := HA.out
      clear HA
      simp only [spec_l6Words.l1] at H
      by_cases c21 : x5_2 < 64
      ·rw [if_pos c21] at H
       have c21b0 := decide_eq_true c21
       clear c21
       obtain ⟨ji22, hji22⟩ : ∃ j_ : Int, (wrap64 (x5_2 - 15)) = j_ := ⟨_, rfl⟩
       replace H : (if 0 ≤ (ji22) then (if (ji22) < (x3_2.length : Int) then (if 0 ≤ (wrap64 (x5_2 - 2)) then (if (wrap64 (x5_2 - 2)) < (x3_2.length : Int) then ((spec_l6Turn.f (rd x3_2 (ji22)) 7).bind fun t113 => ((spec_l6Turn.f (rd x3_2 (ji22)) 18).bind fun t114 => ((spec_l6Turn.f (rd x3_2 (wrap64 (x5_2 - 2))) 17).bind fun t115 => ((spec_l6Turn.f (rd x3_2 (wrap64 (x5_2 - 2))) 19).bind fun t116 => (if 0 ≤ (wrap64 (x5_2 - 16)) then (if (wrap64 (x5_2 - 16)) < (x3_2.length : Int) then (if 0 ≤ (wrap64 (x5_2 - 7)) then (if (wrap64 (x5_2 - 7)) < (x3_2.length : Int) then (if x3_2.length < 35184372088832 then (spec_l6Words.l1 k2 (x3_2 ++ [((((((rd x3_2 (wrap64 (x5_2 - 16))) + (Go.bits .xor .u32 (Go.bits .xor .u32 t113 t114) ((rd x3_2 (ji22)) / 8))) % 4294967296) + (rd x3_2 (wrap64 (x5_2 - 7)))) % 4294967296) + (Go.bits .xor .u32 (Go.bits .xor .u32 t115 t116) ((rd x3_2 (wrap64 (x5_2 - 2))) / 1024))) % 4294967296]) (wrap64 (x5_2 + 1))) else (none)) else (none)) else (none)) else (none)) else (none)))))) else (none)) else (none)) else (none)) else (none)) = some r := by first | (rw [hji22] at H; exact H) | (simp only [hji22] at H ⊢; exact H)
       have hji22w : (IntKind.i64.wrap (x5_2 - 15)) = ji22 := (i64_w _).trans hji22
       have c23 := ite_y H
       replace H := ite_t H
       have c23b0 := decide_eq_true c23
       clear c23
       have c24 := ite_y H
       replace H := ite_t H
       have c24b0 := decide_eq_true c24
       clear c24
       obtain ⟨ji25, hji25⟩ : ∃ j_ : Int, (wrap64 (x5_2 - 2)) = j_ := ⟨_, rfl⟩
       replace H : (if 0 ≤ (ji25) then (if (ji25) < (x3_2.length : Int) then ((spec_l6Turn.f (rd x3_2 (ji22)) 7).bind fun t113 => ((spec_l6Turn.f (rd x3_2 (ji22)) 18).bind fun t114 => ((spec_l6Turn.f (rd x3_2 (ji25)) 17).bind fun t115 => ((spec_l6Turn.f (rd x3_2 (ji25)) 19).bind fun t116 => (if 0 ≤ (wrap64 (x5_2 - 16)) then (if (wrap64 (x5_2 - 16)) < (x3_2.length : Int) then (if 0 ≤ (wrap64 (x5_2 - 7)) then (if (wrap64 (x5_2 - 7)) < (x3_2.length : Int) then (if x3_2.length < 35184372088832 then (spec_l6Words.l1 k2 (x3_2 ++ [((((((rd x3_2 (wrap64 (x5_2 - 16))) + (Go.bits .xor .u32 (Go.bits .xor .u32 t113 t114) ((rd x3_2 (ji22)) / 8))) % 4294967296) + (rd x3_2 (wrap64 (x5_2 - 7)))) % 4294967296) + (Go.bits .xor .u32 (Go.bits .xor .u32 t115 t116) ((rd x3_2 (ji25)) / 1024))) % 4294967296]) (wrap64 (x5_2 + 1))) else (none)) else (none)) else (none)) else (none)) else (none)))))) else (none)) else (none)) = some r := by first | (rw [hji25] at H; exact H) | (simp only [hji25] at H ⊢; exact H)
       have hji25w : (IntKind.i64.wrap (x5_2 - 2)) = ji25 := (i64_w _).trans hji25
       have c26 := ite_y H
       replace H := ite_t H
       have c26b0 := decide_eq_true c26
       clear c26
       have c27 := ite_y H
       replace H := ite_t H
       have c27b0 := decide_eq_true c27
       clear c27
       replace H := Option.bind_eq_some_iff.mp H
       obtain ⟨t113, A280, H⟩ := H
       have A28 := Aside0.mk A280
       clear A280
       replace H := Option.bind_eq_some_iff.mp H
       obtain ⟨t114, A290, H⟩ := H
       have A29 := Aside0.mk A290
       clear A290
       replace H := Option.bind_eq_some_iff.mp H
       obtain ⟨t115, A300, H⟩ := H
       have A30 := Aside0.mk A300
       clear A300
       replace H := Option.bind_eq_some_iff.mp H
       obtain ⟨t116, A310, H⟩ := H
       have A31 := Aside0.mk A310
       clear A310
       obtain ⟨ji32, hji32⟩ : ∃ j_ : Int, (wrap64 (x5_2 - 16)) = j_ := ⟨_, rfl⟩
       replace H : (if 0 ≤ (ji32) then (if (ji32) < (x3_2.length : Int) then (if 0 ≤ (wrap64 (x5_2 - 7)) then (if (wrap64 (x5_2 - 7)) < (x3_2.length : Int) then (if x3_2.length < 35184372088832 then (spec_l6Words.l1 k2 (x3_2 ++ [((((((rd x3_2 (ji32)) + (Go.bits .xor .u32 (Go.bits .xor .u32 t113 t114) ((rd x3_2 (ji22)) / 8))) % 4294967296) + (rd x3_2 (wrap64 (x5_2 - 7)))) % 4294967296) + (Go.bits .xor .u32 (Go.bits .xor .u32 t115 t116) ((rd x3_2 (ji25)) / 1024))) % 4294967296]) (wrap64 (x5_2 + 1))) else (none)) else (none)) else (none)) else (none)) else (none)) = some r := by first | (rw [hji32] at H; exact H) | (simp only [hji32] at H ⊢; exact H)
       (try rw [hji32] at A28)
       (try rw [hji32] at A29)
       (try rw [hji32] at A30)
       (try rw [hji32] at A31)
       have hji32w : (IntKind.i64.wrap (x5_2 - 16)) = ji32 := (i64_w _).trans hji32
       have c33 := ite_y H
       replace H := ite_t H
       have c33b0 := decide_eq_true c33
       clear c33
       have c34 := ite_y H
       replace H := ite_t H
       have c34b0 := decide_eq_true c34
       clear c34
       obtain ⟨ji35, hji35⟩ : ∃ j_ : Int, (wrap64 (x5_2 - 7)) = j_ := ⟨_, rfl⟩
       replace H : (if 0 ≤ (ji35) then (if (ji35) < (x3_2.length : Int) then (if x3_2.length < 35184372088832 then (spec_l6Words.l1 k2 (x3_2 ++ [((((((rd x3_2 (ji32)) + (Go.bits .xor .u32 (Go.bits .xor .u32 t113 t114) ((rd x3_2 (ji22)) / 8))) % 4294967296) + (rd x3_2 (ji35))) % 4294967296) + (Go.bits .xor .u32 (Go.bits .xor .u32 t115 t116) ((rd x3_2 (ji25)) / 1024))) % 4294967296]) (wrap64 (x5_2 + 1))) else (none)) else (none)) else (none)) = some r := by first | (rw [hji35] at H; exact H) | (simp only [hji35] at H ⊢; exact H)
       (try rw [hji35] at A28)
       (try rw [hji35] at A29)
       (try rw [hji35] at A30)
       (try rw [hji35] at A31)
       have hji35w : (IntKind.i64.wrap (x5_2 - 7)) = ji35 := (i64_w _).trans hji35
       have c36 := ite_y H
       replace H := ite_t H
       have c36b0 := decide_eq_true c36
       clear c36
       have c37 := ite_y H
       replace H := ite_t H
       have c37b0 := decide_eq_true c37
       clear c37
       have c38 := ite_y H
       replace H := ite_t H
       have LMc38 := Aside0.mk c38
       clear c38
       obtain ⟨y119, hy119⟩ : ∃ y_ : List Int, y_ = (x3_2 ++ [((((((rd x3_2 (ji32)) + (Go.bits .xor .u32 (Go.bits .xor .u32 t113 t114) ((rd x3_2 (ji22)) / 8))) % 4294967296) + (rd x3_2 (ji35))) % 4294967296) + (Go.bits .xor .u32 (Go.bits .xor .u32 t115 t116) ((rd x3_2 (ji25)) / 1024))) % 4294967296]) := ⟨_, rfl⟩
       first | replace H := bind_y hy119 H | rw [← hy119] at H
       have Ny119 := Aside0.mk hy119
       clear hy119
       have H' := Aside0.mk H
       clear H
       obtain ⟨Ao39, co39, eo39⟩ := Kd.R_slice HO_3.out
       subst eo39
       have p111 := of_decide_eq_true c23b0
       have q111 := of_decide_eq_true c24b0
       obtain ⟨ad111, e111, hx111_0⟩ := Kd.at_int (Kd.R_reads' HO_3.out).2.2 (ji22) p111 q111
       cases e111
       replace p111 := eq_true p111
       replace q111 := eq_true q111
       have p112 := of_decide_eq_true c26b0
       have q112 := of_decide_eq_true c27b0
       obtain ⟨ad112, e112, hx112_0⟩ := Kd.at_int (Kd.R_reads' HO_3.out).2.2 (ji25) p112 q112
       obtain rfl : ad111 = ad112 := (by injection e112)
       replace p112 := eq_true p112
       replace q112 := eq_true q112
       try go_wp2_with (first | ((with_reducible refine gate_callee (f := 153) rfl ?_); refine goesL_ (some 66) rfl rfl Tryz.func153 (by kernel_rfl) rfl #[.int .u32 (rd x3_2 (ji22)), .int .i64 7] rfl (by (try simp only [List.map_toArray, List.map_cons, List.map_nil]); first | done | (simp only [hji22]; rfl) | rfl | (simp only [List.length_drop, List.length_take]; rfl)) ?_; (with_reducible refine (spec_l6Turn.calls (rd x3_2 (ji22)) 7 t113 _ A28.out).mono ?_); rintro e w' ⟨rfl, ⟨nd, rfl⟩⟩; refine ⟨_, rfl, ?_⟩) | ((with_reducible refine gate_callee (f := 153) rfl ?_); refine goesL_ (some 68) rfl rfl Tryz.func153 (by kernel_rfl) rfl #[.int .u32 (rd x3_2 (ji22)), .int .i64 18] rfl (by (try simp only [List.map_toArray, List.map_cons, List.map_nil]); first | done | (simp only [hji22]; rfl) | rfl | (simp only [List.length_drop, List.length_take]; rfl)) ?_; (with_reducible refine (spec_l6Turn.calls (rd x3_2 (ji22)) 18 t114 _ A29.out).mono ?_); rintro e w' ⟨rfl, ⟨nd, rfl⟩⟩; refine ⟨_, rfl, ?_⟩) | ((with_reducible refine gate_callee (f := 153) rfl ?_); refine goesL_ (some 74) rfl rfl Tryz.func153 (by kernel_rfl) rfl #[.int .u32 (rd x3_2 (ji25)), .int .i64 17] rfl (by (try simp only [List.map_toArray, List.map_cons, List.map_nil]); first | done | (simp only [hji25]; rfl) | rfl | (simp only [List.length_drop, List.length_take]; rfl)) ?_; (with_reducible refine (spec_l6Turn.calls (rd x3_2 (ji25)) 17 t115 _ A30.out).mono ?_); rintro e w' ⟨rfl, ⟨nd, rfl⟩⟩; refine ⟨_, rfl, ?_⟩) | ((with_reducible refine gate_callee (f := 153) rfl ?_); refine goesL_ (some 76) rfl rfl Tryz.func153 (by kernel_rfl) rfl #[.int .u32 (rd x3_2 (ji25)), .int .i64 19] rfl (by (try simp only [List.map_toArray, List.map_cons, List.map_nil]); first | done | (simp only [hji25]; rfl) | rfl | (simp only [List.length_drop, List.length_take]; rfl)) ?_; (with_reducible refine (spec_l6Turn.calls (rd x3_2 (ji25)) 19 t116 _ A31.out).mono ?_); rintro e w' ⟨rfl, ⟨nd, rfl⟩⟩; refine ⟨_, rfl, ?_⟩))
       (try (rw [drewN_self wr]; generalize hq_ : World.drewN wr _ = wr; have n0_ : Aside0 (Kd.R (Kd.int .u32) 124 wr w.heap.size (fun _ => True) (.slice (some ad111) x3_2.length co39) x3_2) := ⟨by rw [← hq_]; exact (rx HO_3.out)⟩; have n1_ : Aside0 (Below w.heap.size w wr) := ⟨by rw [← hq_]; exact (bx HB.out)⟩; clear HO_3 HB hq_; have HO_3 := n0_; have HB := n1_; clear n0_ n1_))
       replace HO_3 := Aside0.mk (Kd.R_drew HO_3.out)
       replace HB := Aside0.mk (below_drew1 HB.out)
       have p117 := of_decide_eq_true c33b0
       have q117 := of_decide_eq_true c34b0
       obtain ⟨ad117, e117, hx117_0⟩ := Kd.at_int (Kd.R_reads' HO_3.out).2.2 (ji32) p117 q117
       obtain rfl : ad111 = ad117 := (by injection e117)
       replace p117 := eq_true p117
       replace q117 := eq_true q117
       have p118 := of_decide_eq_true c36b0
       have q118 := of_decide_eq_true c37b0
       obtain ⟨ad118, e118, hx118_0⟩ := Kd.at_int (Kd.R_reads' HO_3.out).2.2 (ji35) p118 q118
       obtain rfl : ad111 = ad118 := (by injection e118)
       replace p118 := eq_true p118
       replace q118 := eq_true q118
       refine start_ (n := 19) (S := fun w' => w'.cell? (ad111.add ((ji32)).toNat) = some (.int .u32 (rd x3_2 (ji32))) ∧ w'.cell? (ad111.add ((ji35)).toNat) = some (.int .u32 (rd x3_2 (ji35)))) (ds := [16, 17]) _ (by kernel_rfl) rfl rfl ⟨hx117_0, hx118_0⟩ (fun hHeld => ?_); refine with_tabW spec_l6Words.tab13 spec_l6Words.bits13 (fun HT_ HW_ => ?_)
       generalize wr.drew = w40 at HO_3 HB hx117_0 hx118_0 hHeld ⊢
       refine ord_ [.p 0 81, .p 1 82, .p 2 83, .p 3 84, .p 4 85, .p 6 87, .p 8 89, .p 9 90, .p 10 91, .p 11 92, .p 14 95, .t 5 86, .p 7 88, .t 12 93, .p 13 94, .p 15 96] ?_
       repeat (first | (refine pu_ (v := ?_) (a' := ?_) HT_ rfl rfl (by kernel_rfl) (fun _ _ _ h => h) (by rfl) ?_ ?_ ?_; rotate_left 2; (intro w'; go_simp; with_reducible rfl); (simp only [Act.put, List.setIfInBounds_toArray, List.set_cons_zero, List.set_cons_succ, i64_w, i32_w]; rfl)) | (refine ta_ (v := ?_) (a' := ?_) HT_ HW_ rfl rfl (by kernel_rfl) (fun _ _ _ h => h) (by rfl) hHeld ?_ ?_ ?_; rotate_left 2; (rintro w' ⟨s0, s1⟩; go_simp; with_reducible rfl); (simp only [Act.put, List.setIfInBounds_toArray, List.set_cons_zero, List.set_cons_succ, i64_w, i32_w]; rfl)))
       refine ord0 ?_
       refine last_ (i := 16) (N := some 97) #[true, true, true, true, true, true, true, true, true, true, true, true, true, true, true, true, true, false, false] rfl rfl (one_of HT_.out (by kernel_rfl)) (by decide) (fun K hK => ?_)
       refine value_ (w1 := ?_) (v := ?_) (by rfl) rfl ?_ ?_
       rotate_left 2
       ·go_simp
        constructor
        ·rfl
        ·rfl
       refine hK.out _ _ ?_
       clear hK K
       refine norm_ (a' := ?_) ?_ ?_
       rotate_left
       ·show Act.put _ (some 97) _ = _
        simp only [Act.put, List.setIfInBounds_toArray, List.set_cons_zero, List.set_cons_succ, i64_w, i32_w]
        rfl
       refine last_ (i := 17) (N := some 98) #[true, true, true, true, true, true, true, true, true, true, true, true, true, true, true, true, true, true, false] rfl rfl (one_of HT_.out (by kernel_rfl)) (by decide) (fun K hK => ?_)
       refine Kd.R_append_step (Kd.int .u32) (w0 := w) w.heap.size (by rfl) (.tmp 81) (.tmp 97) 125 124 (.int .u32 0) 4 rfl Tryz.underlying125 info124 rfl (by decide) (by omega) (.slice (some ad111) x3_2.length co39) x3_2 (((((((rd x3_2 (ji32)) + (Go.bits .xor .u32 (Go.bits .xor .u32 t113 t114) ((rd x3_2 (ji22)) / 8))) % 4294967296) + (rd x3_2 (ji35))) % 4294967296) + (Go.bits .xor .u32 (Go.bits .xor .u32 t115 t116) ((rd x3_2 (ji25)) / 1024))) % 4294967296) [.int .u32 (((((((rd x3_2 (ji32)) + (Go.bits .xor .u32 (Go.bits .xor .u32 t113 t114) ((rd x3_2 (ji22)) / 8))) % 4294967296) + (rd x3_2 (ji35))) % 4294967296) + (Go.bits .xor .u32 (Go.bits .xor .u32 t115 t116) ((rd x3_2 (ji25)) / 1024))) % 4294967296)] (fun _ => True) (fun _ => False) rfl rfl ?aP (fun _ hk => hk.elim) ?aF ?aO ?aB ?aS ?aL ?_
       (case aP => exact rfl)
       (case aB => exact (bx HB.out))
       (case aF => exact (fun _ _ => trivial))
       (case aO => exact (rx HO_3.out))
       (case aS => exact (bz HB.out))
       (case aL => have := LMc38.out; omega)
       intro v120 w41 ho hb hg hat
       rw [← Ny119.out] at ho
       replace HB := Aside0.mk (hb)
       have HO121 := Aside0.mk (ho)
       clear HO_3
       clear ho hb hg hat
       refine hK.out _ _ ?_
       clear hK K
       refine norm_ (a' := ?_) ?_ ?_
       rotate_left
       ·show Act.put _ (some 98) _ = _
        simp only [Act.put, List.setIfInBounds_toArray, List.set_cons_zero, List.set_cons_succ, i64_w, i32_w]
        rfl
       refine ord_ [.p 18 3] ?_
       repeat (refine pu_ (v := ?_) (a' := ?_) HT_ rfl rfl (by kernel_rfl) (fun _ _ _ h => h) (by rfl) ?_ ?_ ?_; rotate_left 2; (intro w'; go_simp; with_reducible rfl); (simp only [Act.put, List.setIfInBounds_toArray, List.set_cons_zero, List.set_cons_succ, i64_w, i32_w]; rfl))
       refine ord0 ?_
       refine done_ (done_of HT_.out (by kernel_rfl)) ?_
       try go_wp2
       go_roundg k2
       case measure => have := HK1.out; have := HK2.out; omega
       case rel => exact ⟨(y119), (wrap64 (x5_2 + 1)), (by first | rfl | (simp; done) | (simp [*]; done)), H', ⟨by have := HK1.out; have := HK2.out; omega⟩, ⟨rx HO121.out⟩, ⟨bx HB.out⟩⟩
      ·rw [if_neg c21] at H
       have c21b0 := decide_eq_false c21
       clear c21
       obtain rfl := Option.some.inj H
       go_wp2
       go_ret
       exact ⟨_, by rfl, rx HO_3.out, bx HB.out⟩
end Go.Proofs.YtaakfmpffhfaeaaGreatDoor.M
end
