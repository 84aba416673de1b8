import Derived.Test.YtaakfmpffhfaeaaGreatDoorBExactReleaseOkx2
import Derived.Test.YtaakfmpffhfaeaaGreatDoorBExactReleaseOkx4
import Derived.Test.YtaakfmpffhfaeaaGreatDoorBExactReleaseOkx3

section
namespace Go.Proofs.YtaakfmpffhfaeaaGreatDoor.M
open Go.RowKit Go.Proofs.YtaakfmpffhfaeaaGreatDoorW.PrintWords Go.Proofs.YtaakfmpffhfaeaaGreatDoorW.PrintLast Go.Proofs.YtaakfmpffhfaeaaGreatDoorW.PrintMore Go.Proofs.YtaakfmpffhfaeaaGreatDoor.Sq
set_option synthInstance.maxHeartbeats 2000000
set_option synthInstance.maxSize 4096
attribute [local go_sem] max2_int min2_int max_two min_two max_three min_three max_four min_four
set_option linter.unusedVariables false
set_option linter.unusedSimpArgs false
attribute [local go_sem] unary_not_u32
set_option maxHeartbeats 8000000
set_option maxRecDepth 100000
theorem gf118 : Go_ Tryz.prog 118 Tryz.f118 := ⟨Tryz.func118, by kernel_rfl, rfl⟩
mutual
def spec_l6Block.l0 : Nat → List Int → List Int → List Int → List Int → Int → Option (List Int)
 | 0, _, _, _, _, _ => none
 | k + 1, x0, x5, x6, x7, x8 => if x8 < 64 then (if 4 < (x7.length : Int) then ((spec_l6Turn.f (rd x7 4) 6).bind fun t114 => ((spec_l6Turn.f (rd x7 4) 11).bind fun t116 => ((spec_l6Turn.f (rd x7 4) 25).bind fun t118 => (if 5 < (x7.length : Int) then (if 6 < (x7.length : Int) then (if 7 < (x7.length : Int) then (if 0 ≤ x8 then (if x8 < (x6.length : Int) then (if x8 < (x5.length : Int) then (if 0 < (x7.length : Int) then ((spec_l6Turn.f (rd x7 0) 2).bind fun t127 => ((spec_l6Turn.f (rd x7 0) 13).bind fun t129 => ((spec_l6Turn.f (rd x7 0) 22).bind fun t131 => (if 1 < (x7.length : Int) then (if 2 < (x7.length : Int) then (spec_l6Block.l1 k x0 x5 x6 x7 x8 (((((((((rd x7 7) + (Go.bits .xor .u32 (Go.bits .xor .u32 t114 t116) t118)) % 4294967296) + (Go.bits .xor .u32 (Go.bits .and .u32 (rd x7 4) (rd x7 5)) (Go.bits .and .u32 (Go.bits .xor .u32 4294967295 (rd x7 4)) (rd x7 6)))) % 4294967296) + (rd x6 x8)) % 4294967296) + (rd x5 x8)) % 4294967296) (Go.bits .xor .u32 (Go.bits .xor .u32 t127 t129) t131) (Go.bits .xor .u32 (Go.bits .xor .u32 (Go.bits .and .u32 (rd x7 0) (rd x7 1)) (Go.bits .and .u32 (rd x7 0) (rd x7 2))) (Go.bits .and .u32 (rd x7 1) (rd x7 2))) 7) else (none)) else (none))))) else (none)) else (none)) else (none)) else (none)) else (none)) else (none)) else (none))))) else (none)) else (spec_l6Block.l2 k x0 x7 (([] : List Int)) 0)
def spec_l6Block.l1 : Nat → List Int → List Int → List Int → List Int → Int → Int → Int → Int → Int → Option (List Int)
 | 0, _, _, _, _, _, _, _, _, _ => none
 | k + 1, x0, x5, x6, x7, x8, x11, x12, x13, x14 => if x14 > 0 then (if 0 ≤ (wrap64 (x14 - 1)) then (if (wrap64 (x14 - 1)) < (x7.length : Int) then (if 0 ≤ x14 then (if x14 < (x7.length : Int) then (spec_l6Block.l1 k x0 x5 x6 (x7.set (x14 : Int).toNat (rd x7 (wrap64 (x14 - 1)))) x8 x11 x12 x13 (wrap64 (x14 - 1))) else (none)) else (none)) else (none)) else (none)) else (if 4 < (x7.length : Int) then (if 0 < (x7.length : Int) then (spec_l6Block.l0 k x0 x5 x6 ((x7.set (4 : Int).toNat (((rd x7 4) + x11) % 4294967296)).set (0 : Int).toNat ((((x11 + x12) % 4294967296) + x13) % 4294967296)) (wrap64 (x8 + 1))) else (none)) else (none))
def spec_l6Block.l2 : Nat → List Int → List Int → List Int → Int → Option (List Int)
 | 0, _, _, _, _ => none
 | k + 1, x0, x7, x15, x16 => if x16 < 8 then (if 0 ≤ x16 then (if x16 < (x0.length : Int) then (if x16 < (x7.length : Int) then (if x15.length < 35184372088832 then (spec_l6Block.l2 k x0 x7 (x15 ++ [((rd x0 x16) + (rd x7 x16)) % 4294967296]) (wrap64 (x16 + 1))) else (none)) else (none)) else (none)) else (none)) else (some x15)
end
def spec_l6Block.f (k : Nat) (l0 : List Int) (l1 : List Int) : Option (List Int) := (spec_l6Words.f k l1).bind fun t101 => ((spec_l6Consts.f).bind fun t104 => ((some (([] : List Int) : List Int)).bind fun y107 => (if y107.length + l0.length < 35184372088832 then (spec_l6Block.l0 k l0 t101 t104 (y107 ++ l0) 0) else (none))))
theorem spec_l6Block.mono_l : ∀ k, (∀ y0 y1 y2 y3 y4, LeO (spec_l6Block.l0 k y0 y1 y2 y3 y4) (spec_l6Block.l0 (k + 1) y0 y1 y2 y3 y4)) ∧ (∀ y0 y1 y2 y3 y4 y5 y6 y7 y8, LeO (spec_l6Block.l1 k y0 y1 y2 y3 y4 y5 y6 y7 y8) (spec_l6Block.l1 (k + 1) y0 y1 y2 y3 y4 y5 y6 y7 y8)) ∧ (∀ y0 y1 y2 y3, LeO (spec_l6Block.l2 k y0 y1 y2 y3) (spec_l6Block.l2 (k + 1) y0 y1 y2 y3))
 | 0 => ⟨fun _ _ _ _ _ r h => by simp [spec_l6Block.l0] at h, fun _ _ _ _ _ _ _ _ _ r h => by simp [spec_l6Block.l1] at h, fun _ _ _ _ r h => by simp [spec_l6Block.l2] at h⟩
 | k + 1 => by
  obtain ⟨ih0, ih1, ih2⟩ := spec_l6Block.mono_l k
  refine ⟨?_, ?_, ?_⟩
  ·intro y0 y1 y2 y3 y4
   unfold spec_l6Block.l0
   have I0_ := fun a b c d e => LeC.mk (ih0 a b c d e)
   have I1_ := fun a b c d e f g h i => LeC.mk (ih1 a b c d e f g h i)
   have I2_ := fun a b c d => LeC.mk (ih2 a b c d)
   have I3_ := fun a b => LeC.mk (spec_l6Words.mono a b)
   exact LeC.out
  ·intro y0 y1 y2 y3 y4 y5 y6 y7 y8
   unfold spec_l6Block.l1
   have I0_ := fun a b c d e => LeC.mk (ih0 a b c d e)
   have I1_ := fun a b c d e f g h i => LeC.mk (ih1 a b c d e f g h i)
   have I2_ := fun a b c d => LeC.mk (ih2 a b c d)
   have I3_ := fun a b => LeC.mk (spec_l6Words.mono a b)
   exact LeC.out
  ·intro y0 y1 y2 y3
   unfold spec_l6Block.l2
   have I0_ := fun a b c d e => LeC.mk (ih0 a b c d e)
   have I1_ := fun a b c d e f g h i => LeC.mk (ih1 a b c d e f g h i)
   have I2_ := fun a b c d => LeC.mk (ih2 a b c d)
   have I3_ := fun a b => LeC.mk (spec_l6Words.mono a b)
   exact LeC.out
theorem spec_l6Block.mono : ∀ a0 a1 k, LeO (spec_l6Block.f k a0 a1) (spec_l6Block.f (k + 1) a0 a1) := by
 intro a0 a1 k
 obtain ⟨ih0, ih1, ih2⟩ := spec_l6Block.mono_l k
 unfold spec_l6Block.f
 have I0_ := fun a b c d e => LeC.mk (ih0 a b c d e)
 have I1_ := fun a b c d e f g h i => LeC.mk (ih1 a b c d e f g h i)
 have I2_ := fun a b c d => LeC.mk (ih2 a b c d)
 have I3_ := fun a b => LeC.mk (spec_l6Words.mono a b)
 exact LeC.out
def spec_l6Block.T7 : Bool × List (List Nat × List Nat) := (true, [([], []), ([0], [0]), ([1], [1]), ([2], [2]), ([], []), ([4], [4]), ([5], [5]), ([6, 3], [6]), ([3, 7], [3, 7]), ([], []), ([9], [9]), ([10], [10]), ([11, 7], [11]), ([8, 12], [8, 12]), ([13, 12, 0, 1, 2, 3, 4, 5, 6, 7, 8, 9, 10, 11, 12, 13], [13])])
def spec_l6Block.B7 : List Nat := [0, 1, 3, 7, 0, 16, 48, 127, 255, 0, 512, 1536, 3839, 8191, 16383]
theorem spec_l6Block.tab7 : rtab .any (opsOf Tryz.f118 7) = spec_l6Block.T7 := by kernel_rfl
theorem spec_l6Block.bits7 : waitsOk spec_l6Block.T7.2 spec_l6Block.B7 = true := by kernel_rfl
def spec_l6Block.T8 : Bool × List (List Nat × List Nat) := (true, [([], []), ([0], [0]), ([1], [1]), ([], []), ([3], [3]), ([4], [4]), ([2, 5], [2, 5]), ([], []), ([7], [7]), ([8], [8]), ([9], [9]), ([], []), ([11], [11]), ([12], [12]), ([10, 13], [10, 13]), ([6, 14], [6, 14]), ([15, 0, 1, 2, 3, 4, 5, 6, 7, 8, 9, 10, 11, 12, 13, 14, 15], [15])])
def spec_l6Block.B8 : List Nat := [0, 1, 3, 0, 8, 24, 63, 0, 128, 384, 896, 0, 2048, 6144, 16256, 32767, 65535]
theorem spec_l6Block.tab8 : rtab .any (opsOf Tryz.f118 8) = spec_l6Block.T8 := by kernel_rfl
theorem spec_l6Block.bits8 : waitsOk spec_l6Block.T8.2 spec_l6Block.B8 = true := by kernel_rfl
def spec_l6Block.T9 : Bool × List (List Nat × List Nat) := (true, [([], []), ([0], [0]), ([1], [1]), ([], []), ([2, 3], [2, 3]), ([], []), ([4, 5], [4, 5]), ([], []), ([], []), ([7, 8], [7, 8]), ([9], [9]), ([6, 10], [6, 10]), ([], []), ([], []), ([12, 13], [12, 13]), ([14], [14]), ([11, 15], [11, 15]), ([16, 0, 1, 2, 3, 4, 5, 6, 7, 8, 9, 10, 11, 12, 13, 14, 15, 16], [16])])
def spec_l6Block.B9 : List Nat := [0, 1, 3, 0, 15, 0, 63, 0, 0, 384, 896, 2047, 0, 0, 12288, 28672, 65535, 131071]
theorem spec_l6Block.tab9 : rtab .any (opsOf Tryz.f118 9) = spec_l6Block.T9 := by kernel_rfl
theorem spec_l6Block.bits9 : waitsOk spec_l6Block.T9.2 spec_l6Block.B9 = true := by kernel_rfl
def spec_l6Block.T10 : Bool × List (List Nat × List Nat) := (true, [([], []), ([0], [0]), ([1], [1]), ([2], [2]), ([], []), ([4], [4]), ([5], [5]), ([6, 3], [6]), ([3, 7], [3, 7]), ([], []), ([9], [9]), ([10], [10]), ([11, 7], [11]), ([8, 12], [8, 12]), ([13, 12, 0, 1, 2, 3, 4, 5, 6, 7, 8, 9, 10, 11, 12, 13], [13])])
def spec_l6Block.B10 : List Nat := [0, 1, 3, 7, 0, 16, 48, 127, 255, 0, 512, 1536, 3839, 8191, 16383]
theorem spec_l6Block.tab10 : rtab .any (opsOf Tryz.f118 10) = spec_l6Block.T10 := by kernel_rfl
theorem spec_l6Block.bits10 : waitsOk spec_l6Block.T10.2 spec_l6Block.B10 = true := by kernel_rfl
def spec_l6Block.T11 : Bool × List (List Nat × List Nat) := (true, [([], []), ([0], [0]), ([1], [1]), ([], []), ([3], [3]), ([4], [4]), ([2, 5], [2, 5]), ([], []), ([7], [7]), ([8], [8]), ([], []), ([10], [10]), ([11], [11]), ([9, 12], [9, 12]), ([6, 13], [6, 13]), ([], []), ([15], [15]), ([16], [16]), ([], []), ([18], [18]), ([19], [19]), ([17, 20], [17, 20]), ([14, 21], [14, 21]), ([22, 0, 1, 2, 3, 4, 5, 6, 7, 8, 9, 10, 11, 12, 13, 14, 15, 16, 17, 18, 19, 20, 21, 22], [22])])
def spec_l6Block.B11 : List Nat := [0, 1, 3, 0, 8, 24, 63, 0, 128, 384, 0, 1024, 3072, 8064, 16383, 0, 32768, 98304, 0, 262144, 786432, 2064384, 4194303, 8388607]
theorem spec_l6Block.tab11 : rtab .any (opsOf Tryz.f118 11) = spec_l6Block.T11 := by kernel_rfl
theorem spec_l6Block.bits11 : waitsOk spec_l6Block.T11.2 spec_l6Block.B11 = true := by kernel_rfl
def spec_l6Block.T22 : Bool × List (List Nat × List Nat) := (true, [([], []), ([], []), ([], []), ([1, 2], [1, 2]), ([3], [3]), ([], []), ([], []), ([5, 6], [5, 6]), ([7], [7]), ([4, 8], [4, 8]), ([9], [9]), ([0, 10], [0, 10]), ([11, 11, 0, 1, 2, 3, 4, 5, 6, 7, 8, 9, 10, 11], [0, 11])])
def spec_l6Block.B22 : List Nat := [0, 0, 0, 6, 14, 0, 0, 96, 224, 510, 1022, 2047, 4095]
theorem spec_l6Block.tab22 : rtab .any (opsOf Tryz.f118 22) = spec_l6Block.T22 := by kernel_rfl
theorem spec_l6Block.bits22 : waitsOk spec_l6Block.T22.2 spec_l6Block.B22 = true := by kernel_rfl
theorem spec_l6Block.calls (k : Nat) (A0 : Option Addr) (c0 : Nat) (l0 : List Int) (A1 : Option Addr) (c1 : Nat) (l1 : List Int) (r : List Int) (w : World) (hr0 : Kd.C (Kd.int .u32) w A0 l0.length l0) (hc0 : l0.length ≤ c0) (hr1 : Kd.C (Kd.int .u8) w A1 l1.length l1) (hc1 : l1.length ≤ c1) (h : spec_l6Block.f k l0 l1 = some r) :
  Calls Tryz.prog 118 #[.slice A0 l0.length c0, .slice A1 l1.length c1] w fun e w' => ∃ v0_ : Value, e = .returned (v0_) ∧ Kd.R (Kd.int .u32) 124 w' w.heap.size (fun _ => True) v0_ r ∧ Below w.heap.size w w' := by
 have HR0 := Aside0.mk hr0
 have HC0 := Aside0.mk hc0
 clear hr0 hc0
 have HR1 := Aside0.mk hr1
 have HC1 := Aside0.mk hc1
 clear hr1 hc1
 have HB := Aside0.mk (Below.refl w.heap.size w)
 unfold spec_l6Block.f at h
 have H := h
 clear h
 replace H := Option.bind_eq_some_iff.mp H
 obtain ⟨t101, A30, H⟩ := H
 have A3 := Aside0.mk A30
 clear A30
 replace H := Option.bind_eq_some_iff.mp H
 obtain ⟨t104, A40, H⟩ := H
 have A4 := Aside0.mk A40
 clear A40
 obtain ⟨y107, hy107⟩ : ∃ y_ : List Int, y_ = (([] : List Int)) := ⟨_, rfl⟩
 first | replace H := bind_y hy107 H | rw [← hy107] at H
 have Ny107 := Aside0.mk hy107
 clear hy107
 have c5 := ite_y H
 replace H := ite_t H
 have LMc5 := Aside0.mk c5
 clear c5
 obtain ⟨y110, hy110⟩ : ∃ y_ : List Int, y_ = (y107 ++ l0) := ⟨_, rfl⟩
 first | replace H := bind_y hy110 H | rw [← hy110] at H
 have Ny110 := Aside0.mk hy110
 clear hy110
 have H' := Aside0.mk H
 clear H
 go_enter Tryz.func118, Tryz.ntmps118
 go_wp2_with (first | ((with_reducible refine gate_callee (f := 151) rfl ?_); refine goL (some 18) rfl rfl gf151 #[.slice A1 l1.length c1] rfl rfl ?_; (with_reducible refine (spec_l6Words.calls k _ _ l1 t101 _ (cx HR1.out) HC1.out A3.out).mono ?_); rintro e w6 ⟨v102, rfl, ho0, hb⟩; refine ⟨_, rfl, ?_⟩; have HO103 := Aside0.mk (Kd.R_lower ho0 (bz HB.out)); replace HB := kB HB hb; (try clear hb); (try clear hb2); (try clear hk); (try clear hi); (try clear ho0)) | ((with_reducible refine gate_callee (f := 152) rfl ?_); refine goL (some 19) rfl rfl gf152 #[] rfl rfl ?_; (with_reducible refine (spec_l6Consts.calls  t104 _ A4.out).mono ?_); rintro e w7 ⟨v105, rfl, ho0, hb⟩; refine ⟨_, rfl, ?_⟩; have HO106 := Aside0.mk (Kd.R_lower (Kd.R_new' ho0 (Kd.R_lt (rx HO103.out))) (bz HB.out)); replace HO103 := Aside0.mk (Kd.R_elder' (rx HO103.out) (Kd.R_base ho0) hb); replace HB := kB HB hb; (try clear hb); (try clear hb2); (try clear hk); (try clear hi); (try clear ho0)) | ((with_reducible refine gate_dst (N := 20) rfl ?_); refine Kd.R_lit (Kd.int .u32) _ 124 ?hg (N := 20) ?hd (xs := ([] : List Int)) (inner := []) (ok := fun _ => True) (okp := fun _ => True) ?hr ?hp (fun _ hk => hk) trivial (Below.refl _ _) (Nat.le_refl _) (by simp) ?_; (case hd => rfl); (case hg => rfl); (case hr => first | (go_simp; done) | (go_simp; rfl)); (case hp => exact (Reps.none _ _)); intro v108 w8 ho9 hb hg_ hnew_; clear hg_ hnew_; (first | rw [← Ny107.out] at ho9 | (simp only [Int.reduceToNat] at ho9; rw [← Ny107.out] at ho9)); have HO109 := Aside0.mk (Kd.R_lower (Kd.R_new' (Kd.R_new' ho9 (Kd.R_lt (rx HO103.out))) (Kd.R_lt (rx HO106.out))) (bz HB.out)); replace HO103 := Aside0.mk (Kd.R_elder' (rx HO103.out) (Kd.R_base ho9) hb); replace HO106 := Aside0.mk (Kd.R_elder' (rx HO106.out) (Kd.R_base ho9) hb); replace HB := kB HB hb; clear hb ho9) | ((with_reducible refine gate_builtin (b := .append) (xs := #[.tmp 20, .tmp 21]) rfl ?_); at_builtin; refine Kd.R_append_rows (Kd.int .u32) (w0 := w) w.heap.size rfl (.tmp 20) (.tmp 21) 125 124 (.int .u32 0) 4 rfl Tryz.underlying125 info124 rfl (by decide) (by omega) v108 y107 l0 _ _ _ (fun k_ => some k_ ≠ (v102 : Value).ownBlock ∧ some k_ ≠ (v105 : Value).ownBlock) (fun _ => False) rfl rfl ?aO ?aR (fun _ _ h => h) (fun _ h => h.elim) ?aF ?aB ?aS ?aL ?_; (case aR => exact cx (Kd.C_below HR0.out HB.out)); (case aB => exact (bx HB.out)); (case aF => exact (fun k_ hk => ⟨Kd.fresh' (Kd.R_lt (rx HO103.out)) k_ hk, Kd.fresh' (Kd.R_lt (rx HO106.out)) k_ hk⟩)); (case aO => exact (rx (Kd.R_mono HO109.out (fun _ hk => ⟨hk.1.2, hk.2⟩)))); (case aS => exact (bz HB.out)); (case aL => have := LMc5.out; omega); intro v111 w10 ho hb hg hat; rw [← Ny110.out] at ho; replace HO103 := Aside0.mk (Kd.R_after (ok := (fun k_ => some k_ ≠ (v105 : Value).ownBlock)) (rx (Kd.R_mono HO103.out (fun _ hk => ⟨hk.1.2, hk.2⟩))) hg hat); replace HO106 := Aside0.mk (Kd.R_after (ok := (fun k_ => some k_ ≠ (v102 : Value).ownBlock)) (rx (Kd.R_mono HO106.out (fun _ hk => ⟨hk.1.2, hk.2⟩))) hg hat); replace HB := Aside0.mk (hb); have HO112 := Aside0.mk (ho); clear HO109; clear ho hb hg hat))
 go_loopg [8] k (fun kq v8 w' => ∃ (x7_1 : List Int) (x8_1 : Int), v8 = .int .i64 x8_1 ∧ Aside0 (spec_l6Block.l0 kq l0 t101 t104 x7_1 x8_1 = some r) ∧ Aside0 (kq ≤ k) ∧ Aside0 (Kd.R (Kd.int .u32) 124 w' w.heap.size (fun k_ => some k_ ≠ (v105 : Value).ownBlock ∧ some k_ ≠ (v111 : Value).ownBlock) v102 t101) ∧ Aside0 (Kd.R (Kd.int .u32) 124 w' w.heap.size (fun k_ => some k_ ≠ (v102 : Value).ownBlock ∧ some k_ ≠ (v111 : Value).ownBlock) v105 t104) ∧ Aside0 (Kd.R (Kd.int .u32) 124 w' w.heap.size (fun k_ => some k_ ≠ (v102 : Value).ownBlock ∧ some k_ ≠ (v105 : Value).ownBlock) v111 x7_1) ∧ Aside0 (Below w.heap.size w w'))
 case atStart => exact ⟨(y110), (0), (by first | rfl | (simp; done) | (simp [*]; done)), H', ⟨Nat.le_refl _⟩, ⟨rx HO103.out⟩, ⟨rx HO106.out⟩, ⟨rx HO112.out⟩, ⟨bx HB.out⟩⟩
 case round =>
  clear H'
  try clear c1
  try clear p2
  try clear c5
  obtain ⟨x7_1, x8_1, rfl, HA, HK1, HO_5, HO_6, HO_7, HB⟩ := hrel
  cases gk with
  | zero => exact absurd HA.out (by simp [spec_l6Block.l0])
  | succ k1 =>
   have H := HA.out
   clear HA
   simp only [spec_l6Block.l0] at H
   by_cases c11 : x8_1 < 64
   ·rw [if_pos c11] at H
    have c11b0 := decide_eq_true c11
    clear c11
    have c12 := ite_y H
    replace H := ite_t H
    have c12b0 := decide_eq_true c12
    have c12b1 : decide (4 < x7_1.length) = true := decide_eq_true (by omega)
    clear c12
    replace H := Option.bind_eq_some_iff.mp H
    obtain ⟨t114, A130, H⟩ := H
    have A13 := Aside0.mk A130
    clear A130
    replace H := Option.bind_eq_some_iff.mp H
    obtain ⟨t116, A140, H⟩ := H
    have A14 := Aside0.mk A140
    clear A140
    replace H := Option.bind_eq_some_iff.mp H
    obtain ⟨t118, A150, H⟩ := H
    have A15 := Aside0.mk A150
    clear A150
    have c16 := ite_y H
    replace H := ite_t H
    have c16b0 := decide_eq_true c16
    have c16b1 : decide (5 < x7_1.length) = true := decide_eq_true (by omega)
    clear c16
    have c17 := ite_y H
    replace H := ite_t H
    have c17b0 := decide_eq_true c17
    have c17b1 : decide (6 < x7_1.length) = true := decide_eq_true (by omega)
    clear c17
    have c18 := ite_y H
    replace H := ite_t H
    have c18b0 := decide_eq_true c18
    have c18b1 : decide (7 < x7_1.length) = true := decide_eq_true (by omega)
    clear c18
    have c19 := ite_y H
    replace H := ite_t H
    have c19b0 := decide_eq_true c19
    clear c19
    have c20 := ite_y H
    replace H := ite_t H
    have c20b0 := decide_eq_true c20
    clear c20
    have c21 := ite_y H
    replace H := ite_t H
    have c21b0 := decide_eq_true c21
    clear c21
    have c22 := ite_y H
    replace H := ite_t H
    have c22b0 := decide_eq_true c22
    have c22b1 : decide (0 < x7_1.length) = true := decide_eq_true (by omega)
    clear c22
    replace H := Option.bind_eq_some_iff.mp H
    obtain ⟨t127, A230, H⟩ := H
    have A23 := Aside0.mk A230
    clear A230
    replace H := Option.bind_eq_some_iff.mp H
    obtain ⟨t129, A240, H⟩ := H
    have A24 := Aside0.mk A240
    clear A240
    replace H := Option.bind_eq_some_iff.mp H
    obtain ⟨t131, A250, H⟩ := H
    have A25 := Aside0.mk A250
    clear A250
    have c26 := ite_y H
    replace H := ite_t H
    have c26b0 := decide_eq_true c26
    have c26b1 : decide (1 < x7_1.length) = true := decide_eq_true (by omega)
    clear c26
    have c27 := ite_y H
    replace H := ite_t H
    have c27b0 := decide_eq_true c27
    have c27b1 : decide (2 < x7_1.length) = true := decide_eq_true (by omega)
    clear c27
    have H' := Aside0.mk H
    clear H
    try go_wp2
    replace HO_5 := Aside0.mk (Kd.R_drew HO_5.out)
    replace HO_6 := Aside0.mk (Kd.R_drew HO_6.out)
    replace HO_7 := Aside0.mk (Kd.R_drew HO_7.out)
    replace HB := Aside0.mk (below_drew1 HB.out)
    obtain ⟨Ao29, co29, eo29⟩ := Kd.R_slice HO_7.out
    (first | subst eo29 | (injection eo29 with f1_ f2_ f3_; have f4_ := f1_.symm; have f5_ := f3_.symm; clear f1_ f2_ f3_; subst f4_; subst f5_))
    have p113 : 0 ≤ (4 : Int) := (by omega)
    have q113 := of_decide_eq_true c12b0
    obtain ⟨ad113, e113, hx113_0⟩ := Kd.at_int (Kd.R_reads' HO_7.out).2.2 4 p113 q113
    cases e113
    (try simp only [show (4 : Int).toNat = 4 from rfl, Nat.reduceMul, Nat.reduceEqDiff, Go.Addr.add, ↓reduceIte] at hx113_0)
    have qi113 : (4 < x7_1.length) = True := eq_true (by omega)
    (try rw [show ((4 : Int)).toNat = 4 from rfl] at hx113_0)
    replace p113 := eq_true p113
    replace q113 := eq_true q113
    have p115 : 0 ≤ (4 : Int) := (by omega)
    have q115 := of_decide_eq_true c12b0
    obtain ⟨ad115, e115, hx115_0⟩ := Kd.at_int (Kd.R_reads' HO_7.out).2.2 4 p115 q115
    obtain rfl : ad113 = ad115 := (by injection e115)
    (try simp only [show (4 : Int).toNat = 4 from rfl, Nat.reduceMul, Nat.reduceEqDiff, Go.Addr.add, ↓reduceIte] at hx115_0)
    have qi115 : (4 < x7_1.length) = True := eq_true (by omega)
    (try rw [show ((4 : Int)).toNat = 4 from rfl] at hx115_0)
    replace p115 := eq_true p115
    replace q115 := eq_true q115
    have p117 : 0 ≤ (4 : Int) := (by omega)
    have q117 := of_decide_eq_true c12b0
    obtain ⟨ad117, e117, hx117_0⟩ := Kd.at_int (Kd.R_reads' HO_7.out).2.2 4 p117 q117
    obtain rfl : ad113 = ad117 := (by injection e117)
    (try simp only [show (4 : Int).toNat = 4 from rfl, Nat.reduceMul, Nat.reduceEqDiff, Go.Addr.add, ↓reduceIte] at hx117_0)
    have qi117 : (4 < x7_1.length) = True := eq_true (by omega)
    (try rw [show ((4 : Int)).toNat = 4 from rfl] at hx117_0)
    replace p117 := eq_true p117
    replace q117 := eq_true q117
    refine start_ (n := 15) (S := fun w' => w'.cell? ⟨ad113.block, ad113.off + 4, none⟩ = some (.int .u32 (rd x7_1 4)) ∧ w'.cell? ⟨ad113.block, ad113.off + 4, none⟩ = some (.int .u32 (rd x7_1 4)) ∧ w'.cell? ⟨ad113.block, ad113.off + 4, none⟩ = some (.int .u32 (rd x7_1 4))) (ds := []) _ (by kernel_rfl) rfl rfl ⟨hx113_0, hx115_0, hx117_0⟩ (fun hHeld => ?_); refine with_tabW spec_l6Block.tab7 spec_l6Block.bits7 (fun HT_ HW_ => ?_)
    generalize wr.drew = w28 at HO_5 HO_6 HO_7 HB hx113_0 hx115_0 hx117_0 hHeld ⊢
    refine ord_ [.p 0 27, .p 1 28, .p 4 31, .p 5 32, .p 9 36, .p 10 37, .t 2 29, .t 6 33, .t 11 38] ?_
    repeat (first | (refine pu_ (v := ?_) (a' := ?_) HT_ rfl rfl (by kernel_rfl) (fun _ _ _ h => h) (by rfl) ?_ ?_ ?_; rotate_left 2; (intro w'; go_simp; with_reducible rfl); (simp only [Act.put, List.setIfInBounds_toArray, List.set_cons_zero, List.set_cons_succ, i64_w, i32_w]; rfl)) | (refine ta_ (v := ?_) (a' := ?_) HT_ HW_ rfl rfl (by kernel_rfl) (fun _ _ _ h => h) (by rfl) hHeld ?_ ?_ ?_; rotate_left 2; (rintro w' ⟨s0, s1, s2⟩; go_simp; with_reducible rfl); (simp only [Act.put, List.setIfInBounds_toArray, List.set_cons_zero, List.set_cons_succ, i64_w, i32_w]; rfl)))
    refine ord0 ?_
    refine on_ (i := 3) (N := some 30) HT_ rfl rfl (by kernel_rfl) (by decide) (fun K hK => ?_)
    refine goM gf153 #[.int .u32 (rd x7_1 4), .int .i64 6] (by rfl) rfl rfl rfl ?_
    with_reducible refine (spec_l6Turn.calls (rd x7_1 4) 6 t114 _ A13.out).mono ?_
    rintro e w' ⟨rfl, ⟨nd, rfl⟩⟩
    refine ⟨_, rfl, ?_⟩
    refine hK.out _ _ ⟨hHeld.1, hHeld.2.1, hHeld.2.2⟩ (fun hHeld => ?_)
    clear hK K
    refine norm_ (a' := ?_) ?_ ?_
    rotate_left
    ·show Act.put _ (some 30) _ = _
     simp only [Act.put, List.setIfInBounds_toArray, List.set_cons_zero, List.set_cons_succ, i64_w, i32_w]
     rfl
    refine on_ (i := 7) (N := some 34) HT_ rfl rfl (by kernel_rfl) (by decide) (fun K hK => ?_)
    refine goM gf153 #[.int .u32 (rd x7_1 4), .int .i64 11] (by rfl) rfl rfl rfl ?_
    with_reducible refine (spec_l6Turn.calls (rd x7_1 4) 11 t116 _ A14.out).mono ?_
    rintro e w' ⟨rfl, ⟨nd, rfl⟩⟩
    refine ⟨_, rfl, ?_⟩
    refine hK.out _ _ ⟨hHeld.1, hHeld.2.1, hHeld.2.2⟩ (fun hHeld => ?_)
    clear hK K
    refine norm_ (a' := ?_) ?_ ?_
    rotate_left
    ·show Act.put _ (some 34) _ = _
     simp only [Act.put, List.setIfInBounds_toArray, List.set_cons_zero, List.set_cons_succ, i64_w, i32_w]
     rfl
    refine ord_ [.p 8 35] ?_
    repeat (refine pu_ (v := ?_) (a' := ?_) HT_ rfl rfl (by kernel_rfl) (fun _ _ _ h => h) (by rfl) ?_ ?_ ?_; rotate_left 2; (intro w'; go_simp; with_reducible rfl); (simp only [Act.put, List.setIfInBounds_toArray, List.set_cons_zero, List.set_cons_succ, i64_w, i32_w]; rfl))
    refine ord0 ?_
    refine on_ (i := 12) (N := some 39) HT_ rfl rfl (by kernel_rfl) (by decide) (fun K hK => ?_)
    refine goM gf153 #[.int .u32 (rd x7_1 4), .int .i64 25] (by rfl) rfl rfl rfl ?_
    with_reducible refine (spec_l6Turn.calls (rd x7_1 4) 25 t118 _ A15.out).mono ?_
    rintro e w' ⟨rfl, ⟨nd, rfl⟩⟩
    refine ⟨_, rfl, ?_⟩
    refine hK.out _ _ ⟨hHeld.1, hHeld.2.1, hHeld.2.2⟩ (fun hHeld => ?_)
    clear hK K
    refine norm_ (a' := ?_) ?_ ?_
    rotate_left
    ·show Act.put _ (some 39) _ = _
     simp only [Act.put, List.setIfInBounds_toArray, List.set_cons_zero, List.set_cons_succ, i64_w, i32_w]
     rfl
    refine ord_ [.p 13 40, .p 14 9] ?_
    repeat (refine pu_ (v := ?_) (a' := ?_) HT_ rfl rfl (by kernel_rfl) (fun _ _ _ h => h) (by rfl) ?_ ?_ ?_; rotate_left 2; (intro w'; go_simp; with_reducible rfl); (simp only [Act.put, List.setIfInBounds_toArray, List.set_cons_zero, List.set_cons_succ, i64_w, i32_w]; rfl))
    refine ord0 ?_
    refine done_ (done_of HT_.out (by kernel_rfl)) ?_
    try go_wp2
    (try (rw [drewN_self w28]; generalize hq_ : World.drewN w28 _ = w28; have n0_ : Aside0 (Kd.R (Kd.int .u32) 124 w28 w.heap.size (fun k_ => some k_ ≠ (v105 : Value).ownBlock ∧ some k_ ≠ (.slice (some ad113) x7_1.length co29 : Value).ownBlock) v102 t101) := ⟨by rw [← hq_]; exact (rx HO_5.out)⟩; have n1_ : Aside0 (Kd.R (Kd.int .u32) 124 w28 w.heap.size (fun k_ => some k_ ≠ (v102 : Value).ownBlock ∧ some k_ ≠ (.slice (some ad113) x7_1.length co29 : Value).ownBlock) v105 t104) := ⟨by rw [← hq_]; exact (rx HO_6.out)⟩; have n2_ : Aside0 (Kd.R (Kd.int .u32) 124 w28 w.heap.size (fun k_ => some k_ ≠ (v102 : Value).ownBlock ∧ some k_ ≠ (v105 : Value).ownBlock) (.slice (some ad113) x7_1.length co29) x7_1) := ⟨by rw [← hq_]; exact (rx HO_7.out)⟩; have n3_ : Aside0 (Below w.heap.size w w28) := ⟨by rw [← hq_]; exact (bx HB.out)⟩; clear HO_5 HO_6 HO_7 HB hq_; have HO_5 := n0_; have HO_6 := n1_; have HO_7 := n2_; have HB := n3_; clear n0_ n1_ n2_ n3_))
    replace HO_5 := Aside0.mk (Kd.R_drew HO_5.out)
    replace HO_6 := Aside0.mk (Kd.R_drew HO_6.out)
    replace HO_7 := Aside0.mk (Kd.R_drew HO_7.out)
    replace HB := Aside0.mk (below_drew1 HB.out)
    have p119 : 0 ≤ (4 : Int) := (by omega)
    have q119 := of_decide_eq_true c12b0
    obtain ⟨ad119, e119, hx119_0⟩ := Kd.at_int (Kd.R_reads' HO_7.out).2.2 4 p119 q119
    obtain rfl : ad113 = ad119 := (by injection e119)
    (try simp only [show (4 : Int).toNat = 4 from rfl, Nat.reduceMul, Nat.reduceEqDiff, Go.Addr.add, ↓reduceIte] at hx119_0)
    have qi119 : (4 < x7_1.length) = True := eq_true (by omega)
    (try rw [show ((4 : Int)).toNat = 4 from rfl] at hx119_0)
    replace p119 := eq_true p119
    replace q119 := eq_true q119
    have p120 : 0 ≤ (5 : Int) := (by omega)
    have q120 := of_decide_eq_true c16b0
    obtain ⟨ad120, e120, hx120_0⟩ := Kd.at_int (Kd.R_reads' HO_7.out).2.2 5 p120 q120
    obtain rfl : ad113 = ad120 := (by injection e120)
    (try simp only [show (5 : Int).toNat = 5 from rfl, Nat.reduceMul, Nat.reduceEqDiff, Go.Addr.add, ↓reduceIte] at hx120_0)
    have qi120 : (5 < x7_1.length) = True := eq_true (by omega)
    (try rw [show ((5 : Int)).toNat = 5 from rfl] at hx120_0)
    replace p120 := eq_true p120
    replace q120 := eq_true q120
    have p121 : 0 ≤ (4 : Int) := (by omega)
    have q121 := of_decide_eq_true c12b0
    obtain ⟨ad121, e121, hx121_0⟩ := Kd.at_int (Kd.R_reads' HO_7.out).2.2 4 p121 q121
    obtain rfl : ad113 = ad121 := (by injection e121)
    (try simp only [show (4 : Int).toNat = 4 from rfl, Nat.reduceMul, Nat.reduceEqDiff, Go.Addr.add, ↓reduceIte] at hx121_0)
    have qi121 : (4 < x7_1.length) = True := eq_true (by omega)
    (try rw [show ((4 : Int)).toNat = 4 from rfl] at hx121_0)
    replace p121 := eq_true p121
    replace q121 := eq_true q121
    have p122 : 0 ≤ (6 : Int) := (by omega)
    have q122 := of_decide_eq_true c17b0
    obtain ⟨ad122, e122, hx122_0⟩ := Kd.at_int (Kd.R_reads' HO_7.out).2.2 6 p122 q122
    obtain rfl : ad113 = ad122 := (by injection e122)
    (try simp only [show (6 : Int).toNat = 6 from rfl, Nat.reduceMul, Nat.reduceEqDiff, Go.Addr.add, ↓reduceIte] at hx122_0)
    have qi122 : (6 < x7_1.length) = True := eq_true (by omega)
    (try rw [show ((6 : Int)).toNat = 6 from rfl] at hx122_0)
    replace p122 := eq_true p122
    replace q122 := eq_true q122
    refine start_ (n := 17) (S := fun w' => w'.cell? ⟨ad113.block, ad113.off + 4, none⟩ = some (.int .u32 (rd x7_1 4)) ∧ w'.cell? ⟨ad113.block, ad113.off + 5, none⟩ = some (.int .u32 (rd x7_1 5)) ∧ w'.cell? ⟨ad113.block, ad113.off + 4, none⟩ = some (.int .u32 (rd x7_1 4)) ∧ w'.cell? ⟨ad113.block, ad113.off + 6, none⟩ = some (.int .u32 (rd x7_1 6))) (ds := []) _ (by kernel_rfl) rfl rfl ⟨hx119_0, hx120_0, hx121_0, hx122_0⟩ (fun hHeld => ?_); refine with_tabW spec_l6Block.tab8 spec_l6Block.bits8 (fun HT_ HW_ => ?_)
    generalize w28.drew = w30 at HO_5 HO_6 HO_7 HB hx119_0 hx120_0 hx121_0 hx122_0 hHeld ⊢
    refine ord_ [.p 0 41, .p 1 42, .p 3 44, .p 4 45, .p 7 48, .p 8 49, .p 11 52, .p 12 53, .t 2 43, .t 5 46, .p 6 47, .t 9 50, .p 10 51, .t 13 54, .p 14 55, .p 15 56, .p 16 10] ?_
    repeat (first | (refine pu_ (v := ?_) (a' := ?_) HT_ rfl rfl (by kernel_rfl) (fun _ _ _ h => h) (by rfl) ?_ ?_ ?_; rotate_left 2; (intro w'; go_simp; with_reducible rfl); (simp only [Act.put, List.setIfInBounds_toArray, List.set_cons_zero, List.set_cons_succ, i64_w, i32_w]; rfl)) | (refine ta_ (v := ?_) (a' := ?_) HT_ HW_ rfl rfl (by kernel_rfl) (fun _ _ _ h => h) (by rfl) hHeld ?_ ?_ ?_; rotate_left 2; (rintro w' ⟨s0, s1, s2, s3⟩; go_simp; with_reducible rfl); (simp only [Act.put, List.setIfInBounds_toArray, List.set_cons_zero, List.set_cons_succ, i64_w, i32_w]; rfl)))
    refine ord0 ?_
    refine done_ (done_of HT_.out (by kernel_rfl)) ?_
    try go_wp2
    replace HO_5 := Aside0.mk (Kd.R_drew HO_5.out)
    replace HO_6 := Aside0.mk (Kd.R_drew HO_6.out)
    replace HO_7 := Aside0.mk (Kd.R_drew HO_7.out)
    replace HB := Aside0.mk (below_drew1 HB.out)
    have p123 : 0 ≤ (7 : Int) := (by omega)
    have q123 := of_decide_eq_true c18b0
    obtain ⟨ad123, e123, hx123_0⟩ := Kd.at_int (Kd.R_reads' HO_7.out).2.2 7 p123 q123
    obtain rfl : ad113 = ad123 := (by injection e123)
    (try simp only [show (7 : Int).toNat = 7 from rfl, Nat.reduceMul, Nat.reduceEqDiff, Go.Addr.add, ↓reduceIte] at hx123_0)
    have qi123 : (7 < x7_1.length) = True := eq_true (by omega)
    (try rw [show ((7 : Int)).toNat = 7 from rfl] at hx123_0)
    replace p123 := eq_true p123
    replace q123 := eq_true q123
    obtain ⟨Ao32, co32, eo32⟩ := Kd.R_slice HO_6.out
    (first | subst eo32 | (injection eo32 with f1_ f2_ f3_; have f4_ := f1_.symm; have f5_ := f3_.symm; clear f1_ f2_ f3_; subst f4_; subst f5_))
    have p124 := of_decide_eq_true c19b0
    have q124 := of_decide_eq_true c20b0
    obtain ⟨ad124, e124, hx124_0⟩ := Kd.at_int (Kd.R_reads' HO_6.out).2.2 x8_1 p124 q124
    cases e124
    replace p124 := eq_true p124
    replace q124 := eq_true q124
    obtain ⟨Ao33, co33, eo33⟩ := Kd.R_slice HO_5.out
    (first | subst eo33 | (injection eo33 with f1_ f2_ f3_; have f4_ := f1_.symm; have f5_ := f3_.symm; clear f1_ f2_ f3_; subst f4_; subst f5_))
    have p125 := of_decide_eq_true c19b0
    have q125 := of_decide_eq_true c21b0
    obtain ⟨ad125, e125, hx125_0⟩ := Kd.at_int (Kd.R_reads' HO_5.out).2.2 x8_1 p125 q125
    cases e125
    replace p125 := eq_true p125
    replace q125 := eq_true q125
    refine start_ (n := 18) (S := fun w' => w'.cell? ⟨ad113.block, ad113.off + 7, none⟩ = some (.int .u32 (rd x7_1 7)) ∧ w'.cell? (ad124.add (x8_1).toNat) = some (.int .u32 (rd t104 x8_1)) ∧ w'.cell? (ad125.add (x8_1).toNat) = some (.int .u32 (rd t101 x8_1))) (ds := []) _ (by kernel_rfl) rfl rfl ⟨hx123_0, hx124_0, hx125_0⟩ (fun hHeld => ?_); refine with_tabW spec_l6Block.tab9 spec_l6Block.bits9 (fun HT_ HW_ => ?_)
    generalize w30.drew = w31 at HO_5 HO_6 HO_7 HB hx123_0 hx124_0 hx125_0 hHeld ⊢
    refine ord_ [.p 0 57, .p 1 58, .p 3 60, .p 5 62, .p 7 64, .p 8 65, .p 9 66, .p 12 69, .p 13 70, .p 14 71, .t 2 59, .p 4 61, .p 6 63, .t 10 67, .p 11 68, .t 15 72, .p 16 73, .p 17 11] ?_
    repeat (first | (refine pu_ (v := ?_) (a' := ?_) HT_ rfl rfl (by kernel_rfl) (fun _ _ _ h => h) (by rfl) ?_ ?_ ?_; rotate_left 2; (intro w'; go_simp; with_reducible rfl); (simp only [Act.put, List.setIfInBounds_toArray, List.set_cons_zero, List.set_cons_succ, i64_w, i32_w]; rfl)) | (refine ta_ (v := ?_) (a' := ?_) HT_ HW_ rfl rfl (by kernel_rfl) (fun _ _ _ h => h) (by rfl) hHeld ?_ ?_ ?_; rotate_left 2; (rintro w' ⟨s0, s1, s2⟩; go_simp; with_reducible rfl); (simp only [Act.put, List.setIfInBounds_toArray, List.set_cons_zero, List.set_cons_succ, i64_w, i32_w]; rfl)))
    refine ord0 ?_
    refine done_ (done_of HT_.out (by kernel_rfl)) ?_
    try go_wp2
    replace HO_5 := Aside0.mk (Kd.R_drew HO_5.out)
    replace HO_6 := Aside0.mk (Kd.R_drew HO_6.out)
    replace HO_7 := Aside0.mk (Kd.R_drew HO_7.out)
    replace HB := Aside0.mk (below_drew1 HB.out)
    have p126 : 0 ≤ (0 : Int) := (by omega)
    have q126 := of_decide_eq_true c22b0
    obtain ⟨ad126, e126, hx126_0⟩ := Kd.at_int (Kd.R_reads' HO_7.out).2.2 0 p126 q126
    obtain rfl : ad113 = ad126 := (by injection e126)
    have qi126 : (0 < x7_1.length) = True := eq_true (by omega)
    (try rw [show ((0 : Int)).toNat = 0 from rfl] at hx126_0)
    (try rw [Addr.add_zero'] at hx126_0)
    replace p126 := eq_true p126
    replace q126 := eq_true q126
    have p128 : 0 ≤ (0 : Int) := (by omega)
    have q128 := of_decide_eq_true c22b0
    obtain ⟨ad128, e128, hx128_0⟩ := Kd.at_int (Kd.R_reads' HO_7.out).2.2 0 p128 q128
    obtain rfl : ad113 = ad128 := (by injection e128)
    have qi128 : (0 < x7_1.length) = True := eq_true (by omega)
    (try rw [show ((0 : Int)).toNat = 0 from rfl] at hx128_0)
    (try rw [Addr.add_zero'] at hx128_0)
    replace p128 := eq_true p128
    replace q128 := eq_true q128
    have p130 : 0 ≤ (0 : Int) := (by omega)
    have q130 := of_decide_eq_true c22b0
    obtain ⟨ad130, e130, hx130_0⟩ := Kd.at_int (Kd.R_reads' HO_7.out).2.2 0 p130 q130
    obtain rfl : ad113 = ad130 := (by injection e130)
    have qi130 : (0 < x7_1.length) = True := eq_true (by omega)
    (try rw [show ((0 : Int)).toNat = 0 from rfl] at hx130_0)
    (try rw [Addr.add_zero'] at hx130_0)
    replace p130 := eq_true p130
    replace q130 := eq_true q130
    refine start_ (n := 15) (S := fun w' => w'.cell? ad113 = some (.int .u32 (rd x7_1 0)) ∧ w'.cell? ad113 = some (.int .u32 (rd x7_1 0)) ∧ w'.cell? ad113 = some (.int .u32 (rd x7_1 0))) (ds := []) _ (by kernel_rfl) rfl rfl ⟨hx126_0, hx128_0, hx130_0⟩ (fun hHeld => ?_); refine with_tabW spec_l6Block.tab10 spec_l6Block.bits10 (fun HT_ HW_ => ?_)
    generalize w31.drew = w34 at HO_5 HO_6 HO_7 HB hx126_0 hx128_0 hx130_0 hHeld ⊢
    refine ord_ [.p 0 74, .p 1 75, .p 4 78, .p 5 79, .p 9 83, .p 10 84, .t 2 76, .t 6 80, .t 11 85] ?_
    repeat (first | (refine pu_ (v := ?_) (a' := ?_) HT_ rfl rfl (by kernel_rfl) (fun _ _ _ h => h) (by rfl) ?_ ?_ ?_; rotate_left 2; (intro w'; go_simp; with_reducible rfl); (simp only [Act.put, List.setIfInBounds_toArray, List.set_cons_zero, List.set_cons_succ, i64_w, i32_w]; rfl)) | (refine ta_ (v := ?_) (a' := ?_) HT_ HW_ rfl rfl (by kernel_rfl) (fun _ _ _ h => h) (by rfl) hHeld ?_ ?_ ?_; rotate_left 2; (rintro w' ⟨s0, s1, s2⟩; go_simp; with_reducible rfl); (simp only [Act.put, List.setIfInBounds_toArray, List.set_cons_zero, List.set_cons_succ, i64_w, i32_w]; rfl)))
    refine ord0 ?_
    refine on_ (i := 3) (N := some 77) HT_ rfl rfl (by kernel_rfl) (by decide) (fun K hK => ?_)
    refine goM gf153 #[.int .u32 (rd x7_1 0), .int .i64 2] (by rfl) rfl rfl rfl ?_
    with_reducible refine (spec_l6Turn.calls (rd x7_1 0) 2 t127 _ A23.out).mono ?_
    rintro e w' ⟨rfl, ⟨nd, rfl⟩⟩
    refine ⟨_, rfl, ?_⟩
    refine hK.out _ _ ⟨hHeld.1, hHeld.2.1, hHeld.2.2⟩ (fun hHeld => ?_)
    clear hK K
    refine norm_ (a' := ?_) ?_ ?_
    rotate_left
    ·show Act.put _ (some 77) _ = _
     simp only [Act.put, List.setIfInBounds_toArray, List.set_cons_zero, List.set_cons_succ, i64_w, i32_w]
     rfl
    refine on_ (i := 7) (N := some 81) HT_ rfl rfl (by kernel_rfl) (by decide) (fun K hK => ?_)
    refine goM gf153 #[.int .u32 (rd x7_1 0), .int .i64 13] (by rfl) rfl rfl rfl ?_
    with_reducible refine (spec_l6Turn.calls (rd x7_1 0) 13 t129 _ A24.out).mono ?_
    rintro e w' ⟨rfl, ⟨nd, rfl⟩⟩
    refine ⟨_, rfl, ?_⟩
    refine hK.out _ _ ⟨hHeld.1, hHeld.2.1, hHeld.2.2⟩ (fun hHeld => ?_)
    clear hK K
    refine norm_ (a' := ?_) ?_ ?_
    rotate_left
    ·show Act.put _ (some 81) _ = _
     simp only [Act.put, List.setIfInBounds_toArray, List.set_cons_zero, List.set_cons_succ, i64_w, i32_w]
     rfl
    refine ord_ [.p 8 82] ?_
    repeat (refine pu_ (v := ?_) (a' := ?_) HT_ rfl rfl (by kernel_rfl) (fun _ _ _ h => h) (by rfl) ?_ ?_ ?_; rotate_left 2; (intro w'; go_simp; with_reducible rfl); (simp only [Act.put, List.setIfInBounds_toArray, List.set_cons_zero, List.set_cons_succ, i64_w, i32_w]; rfl))
    refine ord0 ?_
    refine on_ (i := 12) (N := some 86) HT_ rfl rfl (by kernel_rfl) (by decide) (fun K hK => ?_)
    refine goM gf153 #[.int .u32 (rd x7_1 0), .int .i64 22] (by rfl) rfl rfl rfl ?_
    with_reducible refine (spec_l6Turn.calls (rd x7_1 0) 22 t131 _ A25.out).mono ?_
    rintro e w' ⟨rfl, ⟨nd, rfl⟩⟩
    refine ⟨_, rfl, ?_⟩
    refine hK.out _ _ ⟨hHeld.1, hHeld.2.1, hHeld.2.2⟩ (fun hHeld => ?_)
    clear hK K
    refine norm_ (a' := ?_) ?_ ?_
    rotate_left
    ·show Act.put _ (some 86) _ = _
     simp only [Act.put, List.setIfInBounds_toArray, List.set_cons_zero, List.set_cons_succ, i64_w, i32_w]
     rfl
    refine ord_ [.p 13 87, .p 14 12] ?_
    repeat (refine pu_ (v := ?_) (a' := ?_) HT_ rfl rfl (by kernel_rfl) (fun _ _ _ h => h) (by rfl) ?_ ?_ ?_; rotate_left 2; (intro w'; go_simp; with_reducible rfl); (simp only [Act.put, List.setIfInBounds_toArray, List.set_cons_zero, List.set_cons_succ, i64_w, i32_w]; rfl))
    refine ord0 ?_
    refine done_ (done_of HT_.out (by kernel_rfl)) ?_
    try go_wp2
    (try (rw [drewN_self w34]; generalize hq_ : World.drewN w34 _ = w34; have n0_ : Aside0 (Kd.R (Kd.int .u32) 124 w34 w.heap.size (fun k_ => some k_ ≠ (.slice (some ad124) t104.length co32 : Value).ownBlock ∧ some k_ ≠ (.slice (some ad113) x7_1.length co29 : Value).ownBlock) (.slice (some ad125) t101.length co33) t101) := ⟨by rw [← hq_]; exact (rx HO_5.out)⟩; have n1_ : Aside0 (Kd.R (Kd.int .u32) 124 w34 w.heap.size (fun k_ => some k_ ≠ (.slice (some ad125) t101.length co33 : Value).ownBlock ∧ some k_ ≠ (.slice (some ad113) x7_1.length co29 : Value).ownBlock) (.slice (some ad124) t104.length co32) t104) := ⟨by rw [← hq_]; exact (rx HO_6.out)⟩; have n2_ : Aside0 (Kd.R (Kd.int .u32) 124 w34 w.heap.size (fun k_ => some k_ ≠ (.slice (some ad125) t101.length co33 : Value).ownBlock ∧ some k_ ≠ (.slice (some ad124) t104.length co32 : Value).ownBlock) (.slice (some ad113) x7_1.length co29) x7_1) := ⟨by rw [← hq_]; exact (rx HO_7.out)⟩; have n3_ : Aside0 (Below w.heap.size w w34) := ⟨by rw [← hq_]; exact (bx HB.out)⟩; clear HO_5 HO_6 HO_7 HB hq_; have HO_5 := n0_; have HO_6 := n1_; have HO_7 := n2_; have HB := n3_; clear n0_ n1_ n2_ n3_))
    replace HO_5 := Aside0.mk (Kd.R_drew HO_5.out)
    replace HO_6 := Aside0.mk (Kd.R_drew HO_6.out)
    replace HO_7 := Aside0.mk (Kd.R_drew HO_7.out)
    replace HB := Aside0.mk (below_drew1 HB.out)
    have p132 : 0 ≤ (0 : Int) := (by omega)
    have q132 := of_decide_eq_true c22b0
    obtain ⟨ad132, e132, hx132_0⟩ := Kd.at_int (Kd.R_reads' HO_7.out).2.2 0 p132 q132
    obtain rfl : ad113 = ad132 := (by injection e132)
    have qi132 : (0 < x7_1.length) = True := eq_true (by omega)
    (try rw [show ((0 : Int)).toNat = 0 from rfl] at hx132_0)
    (try rw [Addr.add_zero'] at hx132_0)
    replace p132 := eq_true p132
    replace q132 := eq_true q132
    have p133 : 0 ≤ (1 : Int) := (by omega)
    have q133 := of_decide_eq_true c26b0
    obtain ⟨ad133, e133, hx133_0⟩ := Kd.at_int (Kd.R_reads' HO_7.out).2.2 1 p133 q133
    obtain rfl : ad113 = ad133 := (by injection e133)
    (try simp only [show (1 : Int).toNat = 1 from rfl, Nat.reduceMul, Nat.reduceEqDiff, Go.Addr.add, ↓reduceIte] at hx133_0)
    have qi133 : (1 < x7_1.length) = True := eq_true (by omega)
    (try rw [show ((1 : Int)).toNat = 1 from rfl] at hx133_0)
    replace p133 := eq_true p133
    replace q133 := eq_true q133
    have p134 : 0 ≤ (0 : Int) := (by omega)
    have q134 := of_decide_eq_true c22b0
    obtain ⟨ad134, e134, hx134_0⟩ := Kd.at_int (Kd.R_reads' HO_7.out).2.2 0 p134 q134
    obtain rfl : ad113 = ad134 := (by injection e134)
    have qi134 : (0 < x7_1.length) = True := eq_true (by omega)
    (try rw [show ((0 : Int)).toNat = 0 from rfl] at hx134_0)
    (try rw [Addr.add_zero'] at hx134_0)
    replace p134 := eq_true p134
    replace q134 := eq_true q134
    have p135 : 0 ≤ (2 : Int) := (by omega)
    have q135 := of_decide_eq_true c27b0
    obtain ⟨ad135, e135, hx135_0⟩ := Kd.at_int (Kd.R_reads' HO_7.out).2.2 2 p135 q135
    obtain rfl : ad113 = ad135 := (by injection e135)
    (try simp only [show (2 : Int).toNat = 2 from rfl, Nat.reduceMul, Nat.reduceEqDiff, Go.Addr.add, ↓reduceIte] at hx135_0)
    have qi135 : (2 < x7_1.length) = True := eq_true (by omega)
    (try rw [show ((2 : Int)).toNat = 2 from rfl] at hx135_0)
    replace p135 := eq_true p135
    replace q135 := eq_true q135
    have p136 : 0 ≤ (1 : Int) := (by omega)
    have q136 := of_decide_eq_true c26b0
    obtain ⟨ad136, e136, hx136_0⟩ := Kd.at_int (Kd.R_reads' HO_7.out).2.2 1 p136 q136
    obtain rfl : ad113 = ad136 := (by injection e136)
    (try simp only [show (1 : Int).toNat = 1 from rfl, Nat.reduceMul, Nat.reduceEqDiff, Go.Addr.add, ↓reduceIte] at hx136_0)
    have qi136 : (1 < x7_1.length) = True := eq_true (by omega)
    (try rw [show ((1 : Int)).toNat = 1 from rfl] at hx136_0)
    replace p136 := eq_true p136
    replace q136 := eq_true q136
    have p137 : 0 ≤ (2 : Int) := (by omega)
    have q137 := of_decide_eq_true c27b0
    obtain ⟨ad137, e137, hx137_0⟩ := Kd.at_int (Kd.R_reads' HO_7.out).2.2 2 p137 q137
    obtain rfl : ad113 = ad137 := (by injection e137)
    (try simp only [show (2 : Int).toNat = 2 from rfl, Nat.reduceMul, Nat.reduceEqDiff, Go.Addr.add, ↓reduceIte] at hx137_0)
    have qi137 : (2 < x7_1.length) = True := eq_true (by omega)
    (try rw [show ((2 : Int)).toNat = 2 from rfl] at hx137_0)
    replace p137 := eq_true p137
    replace q137 := eq_true q137
    refine start_ (n := 24) (S := fun w' => w'.cell? ad113 = some (.int .u32 (rd x7_1 0)) ∧ w'.cell? ⟨ad113.block, ad113.off + 1, none⟩ = some (.int .u32 (rd x7_1 1)) ∧ w'.cell? ad113 = some (.int .u32 (rd x7_1 0)) ∧ w'.cell? ⟨ad113.block, ad113.off + 2, none⟩ = some (.int .u32 (rd x7_1 2)) ∧ w'.cell? ⟨ad113.block, ad113.off + 1, none⟩ = some (.int .u32 (rd x7_1 1)) ∧ w'.cell? ⟨ad113.block, ad113.off + 2, none⟩ = some (.int .u32 (rd x7_1 2))) (ds := []) _ (by kernel_rfl) rfl rfl ⟨hx132_0, hx133_0, hx134_0, hx135_0, hx136_0, hx137_0⟩ (fun hHeld => ?_); refine with_tabW spec_l6Block.tab11 spec_l6Block.bits11 (fun HT_ HW_ => ?_)
    generalize w34.drew = w35 at HO_5 HO_6 HO_7 HB hx132_0 hx133_0 hx134_0 hx135_0 hx136_0 hx137_0 hHeld ⊢
    refine ord_ [.p 0 88, .p 1 89, .p 3 91, .p 4 92, .p 7 95, .p 8 96, .p 10 98, .p 11 99, .p 15 103, .p 16 104, .p 18 106, .p 19 107, .t 2 90, .t 5 93, .p 6 94, .t 9 97, .t 12 100, .p 13 101, .p 14 102, .t 17 105, .t 20 108, .p 21 109, .p 22 110, .p 23 13] ?_
    repeat (first | (refine pu_ (v := ?_) (a' := ?_) HT_ rfl rfl (by kernel_rfl) (fun _ _ _ h => h) (by rfl) ?_ ?_ ?_; rotate_left 2; (intro w'; go_simp; with_reducible rfl); (simp only [Act.put, List.setIfInBounds_toArray, List.set_cons_zero, List.set_cons_succ, i64_w, i32_w]; rfl)) | (refine ta_ (v := ?_) (a' := ?_) HT_ HW_ rfl rfl (by kernel_rfl) (fun _ _ _ h => h) (by rfl) hHeld ?_ ?_ ?_; rotate_left 2; (rintro w' ⟨s0, s1, s2, s3, s4, s5⟩; go_simp; with_reducible rfl); (simp only [Act.put, List.setIfInBounds_toArray, List.set_cons_zero, List.set_cons_succ, i64_w, i32_w]; rfl)))
    refine ord0 ?_
    refine done_ (done_of HT_.out (by kernel_rfl)) ?_
    try go_wp2
    go_loopg [14] k1 (fun kq v14 w' => ∃ (x7_2 : List Int) (x14_2 : Int), v14 = .int .i64 x14_2 ∧ Aside0 (spec_l6Block.l1 kq l0 t101 t104 x7_2 x8_1 (((((((((rd x7_1 7) + (Go.bits .xor .u32 (Go.bits .xor .u32 t114 t116) t118)) % 4294967296) + (Go.bits .xor .u32 (Go.bits .and .u32 (rd x7_1 4) (rd x7_1 5)) (Go.bits .and .u32 (Go.bits .xor .u32 4294967295 (rd x7_1 4)) (rd x7_1 6)))) % 4294967296) + (rd t104 x8_1)) % 4294967296) + (rd t101 x8_1)) % 4294967296) (Go.bits .xor .u32 (Go.bits .xor .u32 t127 t129) t131) (Go.bits .xor .u32 (Go.bits .xor .u32 (Go.bits .and .u32 (rd x7_1 0) (rd x7_1 1)) (Go.bits .and .u32 (rd x7_1 0) (rd x7_1 2))) (Go.bits .and .u32 (rd x7_1 1) (rd x7_1 2))) x14_2 = some r) ∧ Aside0 (kq ≤ k1) ∧ Aside0 (Kd.R (Kd.int .u32) 124 w' w.heap.size (fun k_ => some k_ ≠ ((.slice (some ad124) t104.length co32) : Value).ownBlock ∧ some k_ ≠ ((.slice (some ad113) x7_1.length co29) : Value).ownBlock) (.slice (some ad125) t101.length co33) t101) ∧ Aside0 (Kd.R (Kd.int .u32) 124 w' w.heap.size (fun k_ => some k_ ≠ ((.slice (some ad125) t101.length co33) : Value).ownBlock ∧ some k_ ≠ ((.slice (some ad113) x7_1.length co29) : Value).ownBlock) (.slice (some ad124) t104.length co32) t104) ∧ Aside0 (Kd.R (Kd.int .u32) 124 w' w.heap.size (fun k_ => some k_ ≠ ((.slice (some ad125) t101.length co33) : Value).ownBlock ∧ some k_ ≠ ((.slice (some ad124) t104.length co32) : Value).ownBlock) (.slice (some ad113) x7_1.length co29) x7_2) ∧ Aside0 (Below w.heap.size w w'))
    case atStart => exact ⟨(x7_1), (7), (by first | rfl | (simp; done) | (simp [*]; done)), H', ⟨Nat.le_refl _⟩, ⟨rx HO_5.out⟩, ⟨rx HO_6.out⟩, ⟨rx HO_7.out⟩, ⟨bx HB.out⟩⟩
    case round =>
     clear H'
     try clear c1
     try clear p1
     try clear q1
     try clear hx1
     try clear qi1
     try clear p2
     try clear p12
     try clear q12
     try clear hx12
     try clear qi12
     try clear p13
     try clear q13
     try clear hx13
     try clear qi13
     try clear c15
     try clear hx123_0
     try clear hx124_0
     try clear hx125_0
     try clear hx126_0
     try clear hx128_0
     try clear hx130_0
     try clear hx132_0
     try clear hx133_0
     try clear hx134_0
     try clear hx135_0
     try clear hx136_0
     try clear hx137_0
     try clear p125
     try clear p126
     try clear p128
     try clear p130
     try clear p132
     try clear p133
     try clear p134
     try clear p135
     try clear p136
     try clear p137
     try clear q125
     try clear q126
     try clear q128
     try clear q130
     try clear q132
     try clear q133
     try clear q134
     try clear q135
     try clear q136
     try clear q137
     obtain ⟨x7_2, x14_2, rfl, HA, HK2, HO_5, HO_6, HO_7, HB⟩ := hrel
     have hl7_2 := (Kd.R_reads' HO_7.out).1
     rw [hl7_2] at HO_7
     (try simp only [hl7_2])
     (try simp only [hl7_2] at HO_5)
     (try simp only [hl7_2] at HO_6)
     cases gk with
     | zero => exact absurd HA.out (by simp [spec_l6Block.l1])
     | succ k2 =>
      have H := HA.out
      clear HA
      simp only [spec_l6Block.l1] at H
      by_cases c36 : x14_2 > 0
      ·rw [if_pos c36] at H
       have c36b0 : decide (0 < x14_2) = true := decide_eq_true c36
       clear c36
       obtain ⟨ji37, hji37⟩ : ∃ j_ : Int, (wrap64 (x14_2 - 1)) = j_ := ⟨_, rfl⟩
       replace H : (if 0 ≤ (ji37) then (if (ji37) < (x7_2.length : Int) then (if 0 ≤ x14_2 then (if x14_2 < (x7_2.length : Int) then (spec_l6Block.l1 k2 l0 t101 t104 (x7_2.set (x14_2 : Int).toNat (rd x7_2 (ji37))) x8_1 (((((((((rd x7_1 7) + (Go.bits .xor .u32 (Go.bits .xor .u32 t114 t116) t118)) % 4294967296) + (Go.bits .xor .u32 (Go.bits .and .u32 (rd x7_1 4) (rd x7_1 5)) (Go.bits .and .u32 (Go.bits .xor .u32 4294967295 (rd x7_1 4)) (rd x7_1 6)))) % 4294967296) + (rd t104 x8_1)) % 4294967296) + (rd t101 x8_1)) % 4294967296) (Go.bits .xor .u32 (Go.bits .xor .u32 t127 t129) t131) (Go.bits .xor .u32 (Go.bits .xor .u32 (Go.bits .and .u32 (rd x7_1 0) (rd x7_1 1)) (Go.bits .and .u32 (rd x7_1 0) (rd x7_1 2))) (Go.bits .and .u32 (rd x7_1 1) (rd x7_1 2))) ji37) else (none)) else (none)) else (none)) else (none)) = some r := by first | (rw [hji37] at H; exact H) | (simp only [hji37] at H ⊢; exact H)
       have hji37w : (IntKind.i64.wrap (x14_2 - 1)) = ji37 := (i64_w _).trans hji37
       have c38 := ite_y H
       replace H := ite_t H
       have c38b0 := decide_eq_true c38
       clear c38
       have c39 := ite_y H
       replace H := ite_t H
       have c39b0 := decide_eq_true c39
       clear c39
       have c40 := ite_y H
       replace H := ite_t H
       have c40b0 := decide_eq_true c40
       clear c40
       have c41 := ite_y H
       replace H := ite_t H
       have c41b0 := decide_eq_true c41
       clear c41
       obtain ⟨y139, hy139⟩ : ∃ y_ : List Int, y_ = (x7_2.set (x14_2 : Int).toNat (rd x7_2 (ji37))) := ⟨_, rfl⟩
       first | replace H := bind_y hy139 H | rw [← hy139] at H
       have Ny139 := Aside0.mk hy139
       clear hy139
       have H' := Aside0.mk H
       clear H
       have p138 := of_decide_eq_true c38b0
       have q138 := of_decide_eq_true c39b0
       obtain ⟨ad138, e138, hx138_0⟩ := Kd.at_int (Kd.R_reads' HO_7.out).2.2 (ji37) p138 q138
       obtain rfl : ad113 = ad138 := (by injection e138)
       replace p138 := eq_true p138
       replace q138 := eq_true q138
       have p42 := of_decide_eq_true c40b0
       have q42 : (x14_2 : Int) < ((x7_2.length : Int) : Int) := of_decide_eq_true (by with_reducible assumption)
       obtain ⟨go42, co42, eo42, gb42, gl42, cl42, HG42⟩ := Kd.R_form HO_7.out (by omega)
       (first | cases eo42 | (injection eo42 with ea_ en_ ec_; (first | subst ea_ | (injection ea_ with ea_; subst ea_)); subst ec_; clear en_))
       have GB42 := Aside0.mk gb42
       have GG42 := Aside0.mk HG42
       clear gb42 gl42 HG42
       (first | simp only [add_plain] at hx113_0 | skip)
       (first | simp only [add_plain] at hx115_0 | skip)
       (first | simp only [add_plain] at hx117_0 | skip)
       (first | simp only [add_plain] at hx119_0 | skip)
       (first | simp only [add_plain] at hx120_0 | skip)
       (first | simp only [add_plain] at hx121_0 | skip)
       (first | simp only [add_plain] at hx122_0 | skip)
       (first | simp only [add_plain] at hx123_0 | skip)
       (first | simp only [add_plain] at hx126_0 | skip)
       (first | simp only [add_plain] at hx128_0 | skip)
       (first | simp only [add_plain] at hx130_0 | skip)
       (first | simp only [add_plain] at hx132_0 | skip)
       (first | simp only [add_plain] at hx133_0 | skip)
       (first | simp only [add_plain] at hx134_0 | skip)
       (first | simp only [add_plain] at hx135_0 | skip)
       (first | simp only [add_plain] at hx136_0 | skip)
       (first | simp only [add_plain] at hx137_0 | skip)
       (first | simp only [add_plain] at hx138_0 | skip)
       obtain ⟨hx42_0, hf42_0⟩ := Kd.R_celln 0 HO_7.out (x14_2 : Int) p42 q42
       replace p42 := eq_true p42
       replace q42 := eq_true q42
       obtain ⟨hy43_, hz43_⟩ := Kd.R_celln 0 HO_7.out (x14_2 : Int) (of_decide_eq_true (by with_reducible assumption)) (of_decide_eq_true (by with_reducible assumption))
       have HP43 := Kd.R_putg HO_7.out (x14_2 : Int) (rd x7_2 (ji37))
       go_wp2_with (first | ((with_reducible refine gate_store (t := 124) (p := 122) rfl ?_); refine store_event (t := 124) (p := 122) (v := ?vo_w44) (w1 := (wr.setCell ⟨go42, (x14_2 : Int).toNat, none⟩ (.int .u32 (rd x7_2 (ji37))))) ?hg ?ho ?hn ?hr ?_; (case ho => rfl); (case hg => rfl); (case hn => rfl); (case hr => first | (go_simp; done) | (go_simp; rfl)); intro w44 hw; have hg : wr.grownBy w44 (some go42) := (by rw [hw]; exact HP43.2); have hp_ : Kd.R (Kd.int .u32) 124 w44 w.heap.size (fun k_ => some k_ ≠ (.slice (some ad125) t101.length co33 : Value).ownBlock ∧ some k_ ≠ (.slice (some ad124) t104.length co32 : Value).ownBlock) (.slice (some ⟨go42, 0, none⟩) x7_2.length co29) y139 := (by rw [hw, Ny139.out]; exact HP43.1); clear HP43; replace HO_5 := Aside0.mk (Kd.R_after (v := (.slice (some ⟨go42, 0, none⟩) x7_2.length co29)) (v1 := (.slice (some ⟨go42, 0, none⟩) x7_2.length co29)) (ok := (fun k_ => some k_ ≠ (.slice (some ad124) t104.length co32 : Value).ownBlock)) (rx HO_5.out) hg (.inl rfl)); replace HO_6 := Aside0.mk (Kd.R_after (v := (.slice (some ⟨go42, 0, none⟩) x7_2.length co29)) (v1 := (.slice (some ⟨go42, 0, none⟩) x7_2.length co29)) (ok := (fun k_ => some k_ ≠ (.slice (some ad125) t101.length co33 : Value).ownBlock)) (rx HO_6.out) hg (.inl rfl)); replace HO_7 := Aside0.mk (hp_); replace HB := Aside0.mk ((by rw [hw]; exact below_set (HB.out) GB42.out : Below w.heap.size w w44)); clear hg hw hp_))
       (try simp only [← hl7_2])
       go_roundg k2
       case measure => have := HK1.out; have := HK2.out; omega
       case rel => exact ⟨(y139), (ji37), (by first | rfl | (simp; done) | (simp only [← hji37] <;> (first | rfl | simp)) | (simp [*]; done)), H', ⟨by have := HK1.out; have := HK2.out; omega⟩, ⟨by (try simp only [hl7_2]); (with_reducible repeat (first | apply Kd.R_alloc | apply Kd.R_drewN | apply Kd.R_drew)); exact HO_5.out⟩, ⟨by (try simp only [hl7_2]); (with_reducible repeat (first | apply Kd.R_alloc | apply Kd.R_drewN | apply Kd.R_drew)); exact HO_6.out⟩, ⟨by (try simp only [hl7_2]); (with_reducible repeat (first | apply Kd.R_alloc | apply Kd.R_drewN | apply Kd.R_drew)); exact HO_7.out⟩, ⟨bx HB.out⟩⟩
      ·rw [if_neg c36] at H
       have c36b0 : decide (0 < x14_2) = false := decide_eq_false c36
       clear c36
       have c45 := ite_y H
       replace H := ite_t H
       have c45b0 := decide_eq_true c45
       have c45b1 : decide (4 < x7_2.length) = true := decide_eq_true (by omega)
       clear c45
       obtain ⟨y141, hy141⟩ : ∃ y_ : List Int, y_ = (x7_2.set (4 : Int).toNat (((rd x7_2 4) + (((((((((rd x7_1 7) + (Go.bits .xor .u32 (Go.bits .xor .u32 t114 t116) t118)) % 4294967296) + (Go.bits .xor .u32 (Go.bits .and .u32 (rd x7_1 4) (rd x7_1 5)) (Go.bits .and .u32 (Go.bits .xor .u32 4294967295 (rd x7_1 4)) (rd x7_1 6)))) % 4294967296) + (rd t104 x8_1)) % 4294967296) + (rd t101 x8_1)) % 4294967296)) % 4294967296)) := ⟨_, rfl⟩
       first | replace H := bind_y hy141 H | rw [← hy141] at H
       have Ny141 := Aside0.mk hy141
       clear hy141
       have c47 := ite_y H
       replace H := ite_t H
       have c47b0 := decide_eq_true c47
       have c47b1 : decide (0 < x7_2.length) = true := decide_eq_true (by omega)
       clear c47
       obtain ⟨y142, hy142⟩ : ∃ y_ : List Int, y_ = (y141.set (0 : Int).toNat (((((((((((((rd x7_1 7) + (Go.bits .xor .u32 (Go.bits .xor .u32 t114 t116) t118)) % 4294967296) + (Go.bits .xor .u32 (Go.bits .and .u32 (rd x7_1 4) (rd x7_1 5)) (Go.bits .and .u32 (Go.bits .xor .u32 4294967295 (rd x7_1 4)) (rd x7_1 6)))) % 4294967296) + (rd t104 x8_1)) % 4294967296) + (rd t101 x8_1)) % 4294967296) + (Go.bits .xor .u32 (Go.bits .xor .u32 t127 t129) t131)) % 4294967296) + (Go.bits .xor .u32 (Go.bits .xor .u32 (Go.bits .and .u32 (rd x7_1 0) (rd x7_1 1)) (Go.bits .and .u32 (rd x7_1 0) (rd x7_1 2))) (Go.bits .and .u32 (rd x7_1 1) (rd x7_1 2)))) % 4294967296)) := ⟨_, rfl⟩
       first | replace H := bind_y hy142 H | rw [← hy142] at H
       have Ny142 := Aside0.mk hy142
       clear hy142
       have H' := Aside0.mk H
       clear H
       have p140 : 0 ≤ (4 : Int) := (by omega)
       have q140 := of_decide_eq_true c45b0
       obtain ⟨ad140, e140, hx140_0⟩ := Kd.at_int (Kd.R_reads' HO_7.out).2.2 4 p140 q140
       obtain rfl : ad113 = ad140 := (by injection e140)
       (try simp only [show (4 : Int).toNat = 4 from rfl, Nat.reduceMul, Nat.reduceEqDiff, Go.Addr.add, ↓reduceIte] at hx140_0)
       have qi140 : (4 < x7_2.length) = True := eq_true (by omega)
       (try rw [show ((4 : Int)).toNat = 4 from rfl] at hx140_0)
       replace p140 := eq_true p140
       replace q140 := eq_true q140
       have p46 : 0 ≤ (4 : Int) := (by omega)
       have q46 : (4 : Int) < ((x7_2.length : Int) : Int) := of_decide_eq_true (by with_reducible assumption)
       have qi46 : (4 < x7_2.length) = True := eq_true (by omega)
       obtain ⟨go46, co46, eo46, gb46, gl46, cl46, HG46⟩ := Kd.R_form HO_7.out (by omega)
       (first | cases eo46 | (injection eo46 with ea_ en_ ec_; (first | subst ea_ | (injection ea_ with ea_; subst ea_)); subst ec_; clear en_))
       have GB46 := Aside0.mk gb46
       have GG46 := Aside0.mk HG46
       clear gb46 gl46 HG46
       (first | simp only [add_plain] at hx140_0 | skip)
       obtain ⟨hx46_0, hf46_0⟩ := Kd.R_celln 0 HO_7.out (4 : Int) p46 q46
       (try rw [show ((4 : Int)).toNat = 4 from rfl] at hx46_0)
       (try simp only [Nat.reduceMul, Nat.zero_mul, Nat.zero_add, Nat.reduceAdd] at hx46_0)
       (try rw [show ((4 : Int)).toNat = 4 from rfl] at hf46_0)
       (try simp only [Nat.reduceMul, Nat.zero_mul, Nat.zero_add, Nat.reduceAdd] at hf46_0)
       replace p46 := eq_true p46
       replace q46 := eq_true q46
       obtain ⟨hy49_, hz49_⟩ := Kd.R_celln 0 HO_7.out (4 : Int) (by omega) (of_decide_eq_true (by with_reducible assumption))
       (try simp only [Int.reduceToNat, Int.toNat_zero, Int.toNat_ofNat, Nat.reduceMul, Nat.zero_mul, Nat.zero_add] at hy49_ hz49_)
       (try rw [show ((4 : Int)).toNat = 4 from rfl] at hy49_)
       (try rw [show ((4 : Int)).toNat = 4 from rfl] at hz49_)
       have HP49 := Kd.R_putg HO_7.out (4 : Int) (((rd x7_2 4) + (((((((((rd x7_1 7) + (Go.bits .xor .u32 (Go.bits .xor .u32 t114 t116) t118)) % 4294967296) + (Go.bits .xor .u32 (Go.bits .and .u32 (rd x7_1 4) (rd x7_1 5)) (Go.bits .and .u32 (Go.bits .xor .u32 4294967295 (rd x7_1 4)) (rd x7_1 6)))) % 4294967296) + (rd t104 x8_1)) % 4294967296) + (rd t101 x8_1)) % 4294967296)) % 4294967296)
       go_wp2_with (first | ((with_reducible refine gate_store (t := 124) (p := 129) rfl ?_); refine store_event (t := 124) (p := 129) (v := ?vo_w50) (w1 := (wr.setCell ⟨go46, (4 : Int).toNat, none⟩ (.int .u32 (((rd x7_2 4) + (((((((((rd x7_1 7) + (Go.bits .xor .u32 (Go.bits .xor .u32 t114 t116) t118)) % 4294967296) + (Go.bits .xor .u32 (Go.bits .and .u32 (rd x7_1 4) (rd x7_1 5)) (Go.bits .and .u32 (Go.bits .xor .u32 4294967295 (rd x7_1 4)) (rd x7_1 6)))) % 4294967296) + (rd t104 x8_1)) % 4294967296) + (rd t101 x8_1)) % 4294967296)) % 4294967296)))) ?hg ?ho ?hn ?hr ?_; (case ho => rfl); (case hg => rfl); (case hn => rfl); (case hr => first | (go_simp; done) | (go_simp; rfl)); intro w50 hw; have hg : wr.grownBy w50 (some go46) := (by rw [hw]; exact HP49.2); have hp_ : Kd.R (Kd.int .u32) 124 w50 w.heap.size (fun k_ => some k_ ≠ (.slice (some ad125) t101.length co33 : Value).ownBlock ∧ some k_ ≠ (.slice (some ad124) t104.length co32 : Value).ownBlock) (.slice (some ⟨go46, 0, none⟩) x7_2.length co29) y141 := (by rw [hw, Ny141.out]; exact HP49.1); clear HP49; replace HO_5 := Aside0.mk (Kd.R_after (v := (.slice (some ⟨go46, 0, none⟩) x7_2.length co29)) (v1 := (.slice (some ⟨go46, 0, none⟩) x7_2.length co29)) (ok := (fun k_ => some k_ ≠ (.slice (some ad124) t104.length co32 : Value).ownBlock)) (rx HO_5.out) hg (.inl rfl)); replace HO_6 := Aside0.mk (Kd.R_after (v := (.slice (some ⟨go46, 0, none⟩) x7_2.length co29)) (v1 := (.slice (some ⟨go46, 0, none⟩) x7_2.length co29)) (ok := (fun k_ => some k_ ≠ (.slice (some ad125) t101.length co33 : Value).ownBlock)) (rx HO_6.out) hg (.inl rfl)); replace HO_7 := Aside0.mk (hp_); replace HB := Aside0.mk ((by rw [hw]; exact below_set (HB.out) GB46.out : Below w.heap.size w w50)); clear hg hw hp_; have p48 : 0 ≤ (0 : Int) := (by omega); have q48 : (0 : Int) < ((x7_2.length : Int) : Int) := of_decide_eq_true (by with_reducible assumption); have qi48 : (0 < x7_2.length) = True := eq_true (by omega); obtain ⟨hx48_0, hf48_0⟩ := Kd.R_celln 0 HO_7.out (0 : Int) p48 q48; (try rw [show ((0 : Int)).toNat = 0 from rfl] at hx48_0); (try simp only [Nat.reduceMul, Nat.zero_mul, Nat.zero_add, Nat.reduceAdd] at hx48_0); (try rw [show ((0 : Int)).toNat = 0 from rfl] at hf48_0); (try simp only [Nat.reduceMul, Nat.zero_mul, Nat.zero_add, Nat.reduceAdd] at hf48_0); replace p48 := eq_true p48; replace q48 := eq_true q48; obtain ⟨hy51_, hz51_⟩ := Kd.R_celln 0 HO_7.out (0 : Int) (by omega) (of_decide_eq_true (by with_reducible assumption)); (try simp only [Int.reduceToNat, Int.toNat_zero, Int.toNat_ofNat, Nat.reduceMul, Nat.zero_mul, Nat.zero_add] at hy51_ hz51_); (try rw [show ((0 : Int)).toNat = 0 from rfl] at hy51_); (try rw [show ((0 : Int)).toNat = 0 from rfl] at hz51_); have HP51 := Kd.R_putg HO_7.out (0 : Int) (((((((((((((rd x7_1 7) + (Go.bits .xor .u32 (Go.bits .xor .u32 t114 t116) t118)) % 4294967296) + (Go.bits .xor .u32 (Go.bits .and .u32 (rd x7_1 4) (rd x7_1 5)) (Go.bits .and .u32 (Go.bits .xor .u32 4294967295 (rd x7_1 4)) (rd x7_1 6)))) % 4294967296) + (rd t104 x8_1)) % 4294967296) + (rd t101 x8_1)) % 4294967296) + (Go.bits .xor .u32 (Go.bits .xor .u32 t127 t129) t131)) % 4294967296) + (Go.bits .xor .u32 (Go.bits .xor .u32 (Go.bits .and .u32 (rd x7_1 0) (rd x7_1 1)) (Go.bits .and .u32 (rd x7_1 0) (rd x7_1 2))) (Go.bits .and .u32 (rd x7_1 1) (rd x7_1 2)))) % 4294967296)) | ((with_reducible refine gate_store (t := 124) (p := 136) rfl ?_); refine store_event (t := 124) (p := 136) (v := ?vo_w52) (w1 := (w50.setCell ⟨go46, (0 : Int).toNat, none⟩ (.int .u32 (((((((((((((rd x7_1 7) + (Go.bits .xor .u32 (Go.bits .xor .u32 t114 t116) t118)) % 4294967296) + (Go.bits .xor .u32 (Go.bits .and .u32 (rd x7_1 4) (rd x7_1 5)) (Go.bits .and .u32 (Go.bits .xor .u32 4294967295 (rd x7_1 4)) (rd x7_1 6)))) % 4294967296) + (rd t104 x8_1)) % 4294967296) + (rd t101 x8_1)) % 4294967296) + (Go.bits .xor .u32 (Go.bits .xor .u32 t127 t129) t131)) % 4294967296) + (Go.bits .xor .u32 (Go.bits .xor .u32 (Go.bits .and .u32 (rd x7_1 0) (rd x7_1 1)) (Go.bits .and .u32 (rd x7_1 0) (rd x7_1 2))) (Go.bits .and .u32 (rd x7_1 1) (rd x7_1 2)))) % 4294967296)))) ?hg ?ho ?hn ?hr ?_; (case ho => rfl); (case hg => rfl); (case hn => rfl); (case hr => first | (go_simp; done) | (go_simp; rfl)); intro w52 hw; have hg : w50.grownBy w52 (some go46) := (by rw [hw]; exact HP51.2); have hp_ : Kd.R (Kd.int .u32) 124 w52 w.heap.size (fun k_ => some k_ ≠ (.slice (some ad125) t101.length co33 : Value).ownBlock ∧ some k_ ≠ (.slice (some ad124) t104.length co32 : Value).ownBlock) (.slice (some ⟨go46, 0, none⟩) x7_2.length co29) y142 := (by rw [hw, Ny142.out]; exact HP51.1); clear HP51; replace HO_5 := Aside0.mk (Kd.R_after (v := (.slice (some ⟨go46, 0, none⟩) x7_2.length co29)) (v1 := (.slice (some ⟨go46, 0, none⟩) x7_2.length co29)) (ok := (fun k_ => some k_ ≠ (.slice (some ad124) t104.length co32 : Value).ownBlock)) (rx HO_5.out) hg (.inl rfl)); replace HO_6 := Aside0.mk (Kd.R_after (v := (.slice (some ⟨go46, 0, none⟩) x7_2.length co29)) (v1 := (.slice (some ⟨go46, 0, none⟩) x7_2.length co29)) (ok := (fun k_ => some k_ ≠ (.slice (some ad125) t101.length co33 : Value).ownBlock)) (rx HO_6.out) hg (.inl rfl)); replace HO_7 := Aside0.mk (hp_); replace HB := Aside0.mk ((by rw [hw]; exact below_set (HB.out) GB46.out : Below w.heap.size w w52)); clear hg hw hp_))
       (try simp only [← hl7_2])
       go_roundg k2
       case measure => have := HK1.out; have := HK2.out; omega
       case rel => exact ⟨(y142), (wrap64 (x8_1 + 1)), (by first | rfl | (simp; done) | (simp [*]; done)), H', ⟨by have := HK1.out; have := HK2.out; omega⟩, ⟨by (try simp only [hl7_2]); (with_reducible repeat (first | apply Kd.R_alloc | apply Kd.R_drewN | apply Kd.R_drew)); exact HO_5.out⟩, ⟨by (try simp only [hl7_2]); (with_reducible repeat (first | apply Kd.R_alloc | apply Kd.R_drewN | apply Kd.R_drew)); exact HO_6.out⟩, ⟨by (try simp only [hl7_2]); (with_reducible repeat (first | apply Kd.R_alloc | apply Kd.R_drewN | apply Kd.R_drew)); exact HO_7.out⟩, ⟨bx HB.out⟩⟩
   ·rw [if_neg c11] at H
    have c11b0 := decide_eq_false c11
    clear c11
    obtain ⟨y143, hy143⟩ : ∃ y_ : List Int, y_ = (([] : List Int)) := ⟨_, rfl⟩
    first | replace H := bind_y hy143 H | rw [← hy143] at H
    have Ny143 := Aside0.mk hy143
    clear hy143
    have H' := Aside0.mk H
    clear H
    go_wp2_with (first | ((with_reducible refine gate_dst (N := 137) rfl ?_); refine Kd.R_lit (Kd.int .u32) _ 124 ?hg (N := 137) ?hd (xs := ([] : List Int)) (inner := []) (ok := fun _ => True) (okp := fun _ => True) ?hr ?hp (fun _ hk => hk) trivial (Below.refl _ _) (Nat.le_refl _) (by simp) ?_; (case hd => rfl); (case hg => rfl); (case hr => first | (go_simp; done) | (go_simp; rfl)); (case hp => exact (Reps.none _ _)); intro v144 w53 ho54 hb hg_ hnew_; clear hg_ hnew_; (first | rw [← Ny143.out] at ho54 | (simp only [Int.reduceToNat] at ho54; rw [← Ny143.out] at ho54)); have HO145 := Aside0.mk (Kd.R_lower (Kd.R_new' (Kd.R_new' (Kd.R_new' ho54 (Kd.R_lt (rx HO_5.out))) (Kd.R_lt (rx HO_6.out))) (Kd.R_lt (rx HO_7.out))) (bz HB.out)); replace HO_5 := Aside0.mk (Kd.R_elder' (rx HO_5.out) (Kd.R_base ho54) hb); replace HO_6 := Aside0.mk (Kd.R_elder' (rx HO_6.out) (Kd.R_base ho54) hb); replace HO_7 := Aside0.mk (Kd.R_elder' (rx HO_7.out) (Kd.R_base ho54) hb); replace HB := kB HB hb; clear hb ho54))
    go_loopg [15, 16] k1 (fun kq v15 v16 w' => ∃ (x15_2 : List Int) (x16_2 : Int), v16 = .int .i64 x16_2 ∧ Aside0 (spec_l6Block.l2 kq l0 x7_1 x15_2 x16_2 = some r) ∧ Aside0 (kq ≤ k1) ∧ Aside0 (Kd.R (Kd.int .u32) 124 w' w.heap.size (fun k_ => some k_ ≠ (v15 : Value).ownBlock) v111 x7_1) ∧ Aside0 (Kd.R (Kd.int .u32) 124 w' w.heap.size (fun k_ => some k_ ≠ (v111 : Value).ownBlock) v15 x15_2) ∧ Aside0 (Below w.heap.size w w'))
    case atStart => exact ⟨(y143), (0), (by first | rfl | (simp; done) | (simp [*]; done)), H', ⟨Nat.le_refl _⟩, ⟨rx (Kd.R_mono HO_7.out (fun _ hk => hk.2))⟩, ⟨rx (Kd.R_mono HO145.out (fun _ hk => hk.2))⟩, ⟨bx HB.out⟩⟩
    case round =>
     clear H'
     try clear c1
     try clear p1
     try clear q1
     try clear hx1
     try clear qi1
     try clear c2
     try clear p2
     try clear c3
     try clear c4
     try clear p4
     try clear q4
     try clear hx4
     try clear qi4
     try clear hf4
     try clear p6
     try clear c11
     try clear c11b0
     try clear hx11
     try clear c12
     try clear p12
     try clear q12
     try clear hx12
     try clear qi12
     try clear p13
     try clear q13
     try clear hx13
     try clear qi13
     try clear p14
     try clear q14
     try clear hx14
     try clear qi14
     try clear c15
     try clear c16
     try clear c17
     try clear c18
     try clear c19
     try clear c20
     try clear c21
     try clear c22
     try clear c26
     try clear c27
     try clear c36
     try clear c36b0
     try clear c38
     try clear c38b0
     try clear c39
     try clear c39b0
     try clear c40
     try clear c40b0
     try clear c41
     try clear c41b0
     try clear p42
     try clear q42
     try clear hx42
     try clear hf42
     try clear c45
     try clear c45b0
     try clear c45b1
     try clear p46
     try clear q46
     try clear hx46
     try clear qi46
     try clear hf46
     try clear c47
     try clear c47b0
     try clear c47b1
     try clear p48
     try clear q48
     try clear hx48
     try clear qi48
     try clear hf48
     try clear hx113_0
     try clear hx115_0
     try clear hx117_0
     try clear hx119_0
     try clear hx120_0
     try clear hx121_0
     try clear hx122_0
     try clear hx123_0
     try clear hx124_0
     try clear hx125_0
     try clear hx126_0
     try clear hx128_0
     try clear hx130_0
     try clear hx132_0
     try clear hx133_0
     try clear hx134_0
     try clear hx135_0
     try clear hx136_0
     try clear hx137_0
     try clear hx138_0
     try clear hx140_0
     try clear hx42_0
     try clear hx46_0
     try clear hx48_0
     try clear p1
     try clear p12
     try clear p125
     try clear p126
     try clear p128
     try clear p13
     try clear p130
     try clear p132
     try clear p133
     try clear p134
     try clear p135
     try clear p136
     try clear p137
     try clear p138
     try clear p140
     try clear p2
     try clear p42
     try clear p46
     try clear p48
     try clear q1
     try clear q12
     try clear q125
     try clear q126
     try clear q128
     try clear q13
     try clear q130
     try clear q132
     try clear q133
     try clear q134
     try clear q135
     try clear q136
     try clear q137
     try clear q138
     try clear q140
     try clear q42
     try clear q46
     try clear q48
     obtain ⟨x15_2, x16_2, rfl, HA, HK2, HO_7, HO_15, HB⟩ := hrel
     cases gk with
     | zero => exact absurd HA.out (by simp [spec_l6Block.l2])
     | succ k2 =>
      have H := HA.out
      clear HA
      simp only [spec_l6Block.l2] at H
      by_cases c55 : x16_2 < 8
      ·rw [if_pos c55] at H
       have c55b0 := decide_eq_true c55
       clear c55
       have c56 := ite_y H
       replace H := ite_t H
       have c56b0 := decide_eq_true c56
       clear c56
       have c57 := ite_y H
       replace H := ite_t H
       have c57b0 := decide_eq_true c57
       clear c57
       have c58 := ite_y H
       replace H := ite_t H
       have c58b0 := decide_eq_true c58
       clear c58
       have c59 := ite_y H
       replace H := ite_t H
       have LMc59 := Aside0.mk c59
       clear c59
       obtain ⟨y148, hy148⟩ : ∃ y_ : List Int, y_ = (x15_2 ++ [((rd l0 x16_2) + (rd x7_1 x16_2)) % 4294967296]) := ⟨_, rfl⟩
       first | replace H := bind_y hy148 H | rw [← hy148] at H
       have Ny148 := Aside0.mk hy148
       clear hy148
       have H' := Aside0.mk H
       clear H
       try go_wp2
       replace HO_7 := Aside0.mk (Kd.R_drew HO_7.out)
       replace HO_15 := Aside0.mk (Kd.R_drew HO_15.out)
       replace HB := Aside0.mk (below_drew1 HB.out)
       have p146 := of_decide_eq_true c56b0
       have q146 := of_decide_eq_true c57b0
       obtain ⟨ad146, e146, hx146_0⟩ := Kd.at_int HR0.out x16_2 p146 q146
       have hw146_0 := hx146_0
       cases e146
       replace hx146_0 := px HB.out hx146_0
       replace p146 := eq_true p146
       replace q146 := eq_true q146
       obtain ⟨Ao61, co61, eo61⟩ := Kd.R_slice HO_7.out
       (first | subst eo61 | (injection eo61 with f1_ f2_ f3_; have f4_ := f1_.symm; have f5_ := f3_.symm; clear f1_ f2_ f3_; subst f4_; subst f5_))
       have p147 := of_decide_eq_true c56b0
       have q147 := of_decide_eq_true c58b0
       obtain ⟨ad147, e147, hx147_0⟩ := Kd.at_int (Kd.R_reads' HO_7.out).2.2 x16_2 p147 q147
       cases e147
       replace p147 := eq_true p147
       replace q147 := eq_true q147
       refine start_ (n := 13) (S := fun w' => w'.cell? (ad146.add (x16_2).toNat) = some (.int .u32 (rd l0 x16_2)) ∧ w'.cell? (ad147.add (x16_2).toNat) = some (.int .u32 (rd x7_1 x16_2))) (ds := [10, 11]) _ (by kernel_rfl) rfl rfl ⟨(px HB.out hw146_0), hx147_0⟩ (fun hHeld => ?_); refine with_tabW spec_l6Block.tab22 spec_l6Block.bits22 (fun HT_ HW_ => ?_)
       generalize wr.drew = w60 at HO_7 HO_15 HB hx146_0 hx147_0 hHeld ⊢
       refine ord_ [.p 0 142, .p 1 143, .p 2 144, .p 3 145, .p 5 147, .p 6 148, .p 7 149, .t 4 146, .t 8 150, .p 9 151] ?_
       repeat (first | (refine pu_ (v := ?_) (a' := ?_) HT_ rfl rfl (by kernel_rfl) (fun _ _ _ h => h) (by rfl) ?_ ?_ ?_; rotate_left 2; (intro w'; go_simp; with_reducible rfl); (simp only [Act.put, List.setIfInBounds_toArray, List.set_cons_zero, List.set_cons_succ, i64_w, i32_w]; rfl)) | (refine ta_ (v := ?_) (a' := ?_) HT_ HW_ rfl rfl (by kernel_rfl) (fun _ _ _ h => h) (by rfl) hHeld ?_ ?_ ?_; rotate_left 2; (rintro w' ⟨s0, s1⟩; go_simp; with_reducible rfl); (simp only [Act.put, List.setIfInBounds_toArray, List.set_cons_zero, List.set_cons_succ, i64_w, i32_w]; rfl)))
       refine ord0 ?_
       refine last_ (i := 10) (N := some 152) #[true, true, true, true, true, true, true, true, true, true, true, false, false] rfl rfl (one_of HT_.out (by kernel_rfl)) (by decide) (fun K hK => ?_)
       refine value_ (w1 := ?_) (v := ?_) (by rfl) rfl ?_ ?_
       rotate_left 2
       ·go_simp
        constructor
        ·rfl
        ·rfl
       refine hK.out _ _ ?_
       clear hK K
       refine norm_ (a' := ?_) ?_ ?_
       rotate_left
       ·show Act.put _ (some 152) _ = _
        simp only [Act.put, List.setIfInBounds_toArray, List.set_cons_zero, List.set_cons_succ, i64_w, i32_w]
        rfl
       refine last_ (i := 11) (N := some 153) #[true, true, true, true, true, true, true, true, true, true, true, true, false] rfl rfl (one_of HT_.out (by kernel_rfl)) (by decide) (fun K hK => ?_)
       refine Kd.R_append_step (Kd.int .u32) (w0 := w) w.heap.size (by rfl) (.tmp 142) (.tmp 152) 125 124 (.int .u32 0) 4 rfl Tryz.underlying125 info124 rfl (by decide) (by omega) u15 x15_2 (((rd l0 x16_2) + (rd x7_1 x16_2)) % 4294967296) [.int .u32 (((rd l0 x16_2) + (rd x7_1 x16_2)) % 4294967296)] (fun k_ => some k_ ≠ (.slice (some ad147) x7_1.length co61 : Value).ownBlock) (fun _ => False) rfl rfl ?aP (fun _ hk => hk.elim) ?aF ?aO ?aB ?aS ?aL ?_
       (case aP => exact rfl)
       (case aB => exact (bx HB.out))
       (case aF => exact (fun k_ hk => Kd.fresh' (Kd.R_lt (rx HO_7.out)) k_ hk))
       (case aO => exact (rx HO_15.out))
       (case aS => exact (bz HB.out))
       (case aL => have := LMc59.out; omega)
       intro v149 w62 ho hb hg hat
       rw [← Ny148.out] at ho
       replace HO_7 := Aside0.mk (Kd.R_after (ok := (fun _ => True)) (rx (Kd.R_mono HO_7.out (fun _ hk => ⟨trivial, hk⟩))) hg hat)
       replace HB := Aside0.mk (hb)
       have HO150 := Aside0.mk (ho)
       clear HO_15
       clear ho hb hg hat
       refine hK.out _ _ ?_
       clear hK K
       refine norm_ (a' := ?_) ?_ ?_
       rotate_left
       ·show Act.put _ (some 153) _ = _
        simp only [Act.put, List.setIfInBounds_toArray, List.set_cons_zero, List.set_cons_succ, i64_w, i32_w]
        rfl
       refine ord_ [.p 12 15] ?_
       repeat (refine pu_ (v := ?_) (a' := ?_) HT_ rfl rfl (by kernel_rfl) (fun _ _ _ h => h) (by rfl) ?_ ?_ ?_; rotate_left 2; (intro w'; go_simp; with_reducible rfl); (simp only [Act.put, List.setIfInBounds_toArray, List.set_cons_zero, List.set_cons_succ, i64_w, i32_w]; rfl))
       refine ord0 ?_
       refine done_ (done_of HT_.out (by kernel_rfl)) ?_
       try go_wp2
       go_roundg k2
       case measure => have := HK1.out; have := HK2.out; omega
       case rel => exact ⟨(y148), (wrap64 (x16_2 + 1)), (by first | rfl | (simp; done) | (simp [*]; done)), H', ⟨by have := HK1.out; have := HK2.out; omega⟩, ⟨rx (Kd.R_mono HO_7.out (fun _ hk => hk.2))⟩, ⟨rx HO150.out⟩, ⟨bx HB.out⟩⟩
      ·rw [if_neg c55] at H
       have c55b0 := decide_eq_false c55
       clear c55
       obtain rfl := Option.some.inj H
       go_wp2
       go_ret
       exact ⟨_, by rfl, rx (Kd.R_mono HO_15.out (fun _ hk => trivial)), bx HB.out⟩
end Go.Proofs.YtaakfmpffhfaeaaGreatDoor.M
end

section
/- The reference's block of SHA-256, plain: it is Sha.block. -/
namespace Go.Proofs.YtaakfmpffhfaeaaGreatDoor.M
open Go.RowKit Go.Proofs.YtaakfmpffhfaeaaGreatDoorW.PrintWords Go.Proofs.YtaakfmpffhfaeaaGreatDoorW.PrintMore Go.Proofs.YtaakfmpffhfaeaaGreatDoor.Pu Go.Proofs.YtaakfmpffhfaeaaGreatDoor.Sha
set_option linter.unusedVariables false
set_option linter.unusedSimpArgs false
theorem Ev.add {α : Type} {g : Nat → Option α} {r : α} : ∀ n : Nat, Ev (fun k => g (k + n)) r → Ev g r
 | 0, h => h
 | n + 1, h => Ev.add n (Ev.succ (g := fun k => g (k + n)) (by simpa [Nat.add_right_comm, Nat.add_assoc] using h))
theorem fold_from {α β : Type} {g : Nat → β → Int → Option α} (n i0 : Nat) (F : Nat → β) (r : α) (hi : i0 ≤ n)
  (step : ∀ (i : Nat), i0 ≤ i → i < n → Ev (fun k => g k (F (i + 1)) ((i : Int) + 1)) r → Ev (fun k => g k (F i) (i : Int)) r)
  (done : Ev (fun k => g k (F n) (n : Int)) r) : Ev (fun k => g k (F i0) (i0 : Int)) r := by
 have key : ∀ d i : Nat, n - i = d → i0 ≤ i → i ≤ n → Ev (fun k => g k (F i) (i : Int)) r := by
  intro d
  induction d with
  | zero =>
   intro i hd h0 hi
   obtain rfl : i = n := by omega
   exact done
  | succ d ih =>
   intro i hd h0 hi
   exact step i h0 (by omega) (by exact_mod_cast ih (i + 1) (by omega) (by omega) (by omega))
 exact key (n - i0) i0 rfl (Nat.le_refl _) hi
theorem turn_eq (x n : Int) (h0 : 0 ≤ n) (h1 : n ≤ 32) : spec_l6Turn.f x n = some (rot x n) := by
 have hw : wrap64 (32 - n) = 32 - n := wid (by omega) (by omega)
 unfold spec_l6Turn.f rot
 rw [if_pos h0, hw, if_pos (by omega)]
theorem rd_lit (xs : List Int) (i : Int) (n : Nat) (h : i = (n : Int)) : rd xs i = xs.getD n 0 := by rw [h]; exact rd_nat xs n
theorem getD_rng {xs : List Int} (h : ∀ x ∈ xs, 0 ≤ x ∧ x ≤ 255) (i : Nat) : 0 ≤ xs.getD i 0 ∧ xs.getD i 0 ≤ 255 := by
 rw [List.getD_eq_getElem?_getD]
 cases e : xs[i]? with
 | none => simp
 | some b => exact h b (List.mem_of_getElem? e)
theorem words_ev (b : List Int) (hl : b.length = 64) (hb : ∀ x ∈ b, 0 ≤ x ∧ x ≤ 255) : Ev (fun k => spec_l6Words.f k b) (wpre b 64) := by
 unfold spec_l6Words.f
 refine Ev.ifp (by decide) ?_
 refine fold_from (g := fun k s i => spec_l6Words.l0 k b s i) 16 0 (wpre b) _ (by decide) ?_ ?_
 ·intro i _ hi h
  apply Ev.succ
  have e0 : wrap64 (4 * (i : Int)) = 4 * (i : Int) := wid (by omega) (by omega)
  have e1 : wrap64 (4 * (i : Int) + 1) = 4 * (i : Int) + 1 := wid (by omega) (by omega)
  have e2 : wrap64 (4 * (i : Int) + 2) = 4 * (i : Int) + 2 := wid (by omega) (by omega)
  have e3 : wrap64 (4 * (i : Int) + 3) = 4 * (i : Int) + 3 := wid (by omega) (by omega)
  have e4 : wrap64 ((i : Int) + 1) = (i : Int) + 1 := wid (by omega) (by omega)
  simp only [spec_l6Words.l0, e0, e1, e2, e3, e4]
  clear e0 e1 e2 e3 e4
  refine Ev.ifp (by omega) ?_
  refine Ev.ifp (by omega) ?_
  refine Ev.ifp (by omega) ?_
  refine Ev.ifp (by omega) ?_
  refine Ev.ifp (by omega) ?_
  refine Ev.ifp (by omega) ?_
  refine Ev.ifp (by omega) ?_
  refine Ev.ifp (by omega) ?_
  refine Ev.ifp (by omega) ?_
  refine Ev.ifp (by rw [wpre_length]; omega) ?_
  have g0 := rd_lit b (4 * (i : Int)) (4 * i) (by omega)
  have g1 := rd_lit b (4 * (i : Int) + 1) (4 * i + 1) (by omega)
  have g2 := rd_lit b (4 * (i : Int) + 2) (4 * i + 2) (by omega)
  have g3 := rd_lit b (4 * (i : Int) + 3) (4 * i + 3) (by omega)
  have r0 := getD_rng hb (4 * i)
  have r1 := getD_rng hb (4 * i + 1)
  have r2 := getD_rng hb (4 * i + 2)
  have r3 := getD_rng hb (4 * i + 3)
  rw [g0, g1, g2, g3]
  have hV : wordAt b (wpre b i) i = be (b.getD (4 * i) 0) (b.getD (4 * i + 1) 0) (b.getD (4 * i + 2) 0) (b.getD (4 * i + 3) 0) := wordAt_low _ _ _ hi
  have m0 : b.getD (4 * i) 0 % 4294967296 * 16777216 % 4294967296 = b.getD (4 * i) 0 * 16777216 := by omega
  have m1 : b.getD (4 * i + 1) 0 % 4294967296 * 65536 % 4294967296 = b.getD (4 * i + 1) 0 * 65536 := by omega
  have m2 : b.getD (4 * i + 2) 0 % 4294967296 * 256 % 4294967296 = b.getD (4 * i + 2) 0 * 256 := by omega
  have m3 : b.getD (4 * i + 3) 0 % 4294967296 = b.getD (4 * i + 3) 0 := by omega
  rw [m0, m1, m2, m3]
  have hw : wpre b (i + 1) = wpre b i ++ [wordAt b (wpre b i) i] := rfl
  rw [hw, hV] at h
  exact h
 ·apply Ev.succ
  simp only [spec_l6Words.l0]
  refine Ev.ifn (by decide) ?_
  refine fold_from (g := fun k s i => spec_l6Words.l1 k s i) 64 16 (wpre b) _ (by decide) ?_ ?_
  ·intro i h16 hi h
   apply Ev.succ
   have e0 : wrap64 ((i : Int) - 15) = (i : Int) - 15 := wid (by omega) (by omega)
   have e1 : wrap64 ((i : Int) - 2) = (i : Int) - 2 := wid (by omega) (by omega)
   have e2 : wrap64 ((i : Int) - 16) = (i : Int) - 16 := wid (by omega) (by omega)
   have e3 : wrap64 ((i : Int) - 7) = (i : Int) - 7 := wid (by omega) (by omega)
   have e4 : wrap64 ((i : Int) + 1) = (i : Int) + 1 := wid (by omega) (by omega)
   have hlen := wpre_length b i
   have g0 := rd_lit (wpre b i) ((i : Int) - 15) (i - 15) (by omega)
   have g1 := rd_lit (wpre b i) ((i : Int) - 2) (i - 2) (by omega)
   have g2 := rd_lit (wpre b i) ((i : Int) - 16) (i - 16) (by omega)
   have g3 := rd_lit (wpre b i) ((i : Int) - 7) (i - 7) (by omega)
   simp only [spec_l6Words.l1, e0, e1, e2, e3, e4, g0, g1, g2, g3, turn_eq _ 7 (by decide) (by decide), turn_eq _ 18 (by decide) (by decide), turn_eq _ 17 (by decide) (by decide), turn_eq _ 19 (by decide) (by decide), Option.bind_some]
   clear e0 e1 e2 e3 e4
   refine Ev.ifp (by omega) ?_
   refine Ev.ifp (by omega) ?_
   refine Ev.ifp (by omega) ?_
   refine Ev.ifp (by omega) ?_
   refine Ev.ifp (by omega) ?_
   refine Ev.ifp (by omega) ?_
   refine Ev.ifp (by omega) ?_
   refine Ev.ifp (by omega) ?_
   refine Ev.ifp (by omega) ?_
   refine Ev.ifp (by omega) ?_
   have hV := wordAt_high b (wpre b i) i (by omega)
   have hw : wpre b (i + 1) = wpre b i ++ [wordAt b (wpre b i) i] := rfl
   rw [hw, hV] at h
   have hm : ∀ a c d e : Int, ((a + c) % 4294967296 + d) % 4294967296 + e = ((a + c) % 4294967296 + d) % 4294967296 + e := fun _ _ _ _ => rfl
   have hs : ∀ a c d e : Int, (((a + c) % 4294967296 + d) % 4294967296 + e) % 4294967296 = (a + d + c + e) % 4294967296 := by intro a c d e; omega
   simp only [hs]
   exact h
  ·apply Ev.succ
   simp only [spec_l6Words.l1]
   refine Ev.ifn (by decide) ?_
   exact Ev.now _
theorem shift_eq (x0 x5 x6 : List Int) (x8 t a1 m a b c d e f g h : Int) (k : Nat) :
  spec_l6Block.l1 (k + 8) x0 x5 x6 [a, b, c, d, e, f, g, h] x8 t a1 m 7 = spec_l6Block.l0 k x0 x5 x6 [((t + a1) % 4294967296 + m) % 4294967296, a, b, c, (d + t) % 4294967296, e, f, g] (wrap64 (x8 + 1)) := by
 simp [spec_l6Block.l1, wrap64, rd]
theorem block_ev (h b : List Int) (hh : h.length = 8) (hl : b.length = 64) (hb : ∀ x ∈ b, 0 ≤ x ∧ x ≤ 255) : Ev (fun k => spec_l6Block.f k h b) (block shaTab h b) := by
 unfold spec_l6Block.f
 refine Ev.bind (words_ev b hl hb) ?_
 simp only [spec_l6Consts.f, Option.bind_some, List.nil_append]
 refine Ev.ifp (by simp; omega) ?_
 rw [show ([1116352408, 1899447441, 3049323471, 3921009573, 961987163, 1508970993, 2453635748, 2870763221, 3624381080, 310598401, 607225278, 1426881987, 1925078388, 2162078206, 2614888103, 3248222580, 3835390401, 4022224774, 264347078, 604807628, 770255983, 1249150122, 1555081692, 1996064986, 2554220882, 2821834349, 2952996808, 3210313671, 3336571891, 3584528711, 113926993, 338241895, 666307205, 773529912, 1294757372, 1396182291, 1695183700, 1986661051, 2177026350, 2456956037, 2730485921, 2820302411, 3259730800, 3345764771, 3516065817, 3600352804, 4094571909, 275423344, 430227734, 506948616, 659060556, 883997877, 958139571, 1322822218, 1537002063, 1747873779, 1955562222, 2024104815, 2227730452, 2361852424, 2428436474, 2756734187, 3204031479, 3329325298] : List Int) = shaTab from rfl]
 have hwl := wpre_length b 64
 generalize hW : wpre b 64 = ws at hwl
 have htl : shaTab.length = 64 := rfl
 refine fold_from (g := fun k s i => spec_l6Block.l0 k h ws shaTab s i) 64 0 (rnds shaTab ws h) _ (by decide) ?_ ?_
 ·intro i _ hi hr
  apply Ev.succ
  obtain ⟨y0, y1, y2, y3, y4, y5, y6, y7, hy⟩ := eight (rnds_length shaTab ws h hh i)
  have e4 : wrap64 ((i : Int) + 1) = (i : Int) + 1 := wid (by omega) (by omega)
  have hn : rnds shaTab ws h (i + 1) = rnd (shaTab.getD i 0) (ws.getD i 0) (rnds shaTab ws h i) := rfl
  rw [hn] at hr
  rw [hy] at hr ⊢
  have gk := rd_nat shaTab i
  have gw := rd_nat ws i
  simp only [spec_l6Block.l0, List.length_cons, List.length_nil, gk, gw, turn_eq _ 6 (by decide) (by decide), turn_eq _ 11 (by decide) (by decide), turn_eq _ 25 (by decide) (by decide), turn_eq _ 2 (by decide) (by decide), turn_eq _ 13 (by decide) (by decide), turn_eq _ 22 (by decide) (by decide), Option.bind_some]
  refine Ev.ifp (by omega) ?_
  refine Ev.ifp (by decide) ?_
  refine Ev.ifp (by decide) ?_
  refine Ev.ifp (by decide) ?_
  refine Ev.ifp (by decide) ?_
  refine Ev.ifp (by omega) ?_
  refine Ev.ifp (by omega) ?_
  refine Ev.ifp (by omega) ?_
  refine Ev.ifp (by decide) ?_
  refine Ev.ifp (by decide) ?_
  refine Ev.ifp (by decide) ?_
  refine Ev.add 8 ?_
  simp only [shift_eq, e4]
  have r0 : rd [y0, y1, y2, y3, y4, y5, y6, y7] 0 = y0 := rfl
  have r1 : rd [y0, y1, y2, y3, y4, y5, y6, y7] 1 = y1 := rfl
  have r2 : rd [y0, y1, y2, y3, y4, y5, y6, y7] 2 = y2 := rfl
  have r4 : rd [y0, y1, y2, y3, y4, y5, y6, y7] 4 = y4 := rfl
  have r5 : rd [y0, y1, y2, y3, y4, y5, y6, y7] 5 = y5 := rfl
  have r6 : rd [y0, y1, y2, y3, y4, y5, y6, y7] 6 = y6 := rfl
  have r7 : rd [y0, y1, y2, y3, y4, y5, y6, y7] 7 = y7 := rfl
  simp only [r0, r1, r2, r4, r5, r6, r7]
  have c1 : ∀ p q r s t u v : Int, (((((p + q) % 4294967296 + r) % 4294967296 + s) % 4294967296 + t) % 4294967296 + u) % 4294967296 = (p + q + r + s + t + u) % 4294967296 := by intro p q r s t u v; omega
  have ea : ∀ p q r s t u v : Int, (((((((p + q) % 4294967296 + r) % 4294967296 + s) % 4294967296 + t) % 4294967296 + u) % 4294967296) + v) % 4294967296 = (p + q + r + s + t + (u + v)) % 4294967296 := by intro p q r s t u v; omega
  have ee : ∀ d p q r s t : Int, (d + ((((p + q) % 4294967296 + r) % 4294967296 + s) % 4294967296 + t) % 4294967296) % 4294967296 = (d + (p + q + r + s + t)) % 4294967296 := by intro d p q r s t; omega
  rw [ea, ee]
  exact hr
 ·apply Ev.succ
  simp only [spec_l6Block.l0]
  refine Ev.ifn (by decide) ?_
  have hs := rnds_length shaTab ws h hh 64
  have hB : block shaTab h b = List.zipWith add h (rnds shaTab ws h 64) := by rw [← hW]; rfl
  rw [hB]
  generalize rnds shaTab ws h 64 = st at hs
  have hz : (List.zipWith add h st).length = 8 := by simp [List.length_zipWith]; omega
  refine fold_from (g := fun k s i => spec_l6Block.l2 k h st s i) 8 0 (fun i => (List.zipWith add h st).take i) _ (by decide) ?_ ?_
  ·intro i _ hi hr
   apply Ev.succ
   have e4 : wrap64 ((i : Int) + 1) = (i : Int) + 1 := wid (by omega) (by omega)
   simp only [spec_l6Block.l2, e4]
   clear e4
   refine Ev.ifp (by omega) ?_
   refine Ev.ifp (by omega) ?_
   refine Ev.ifp (by omega) ?_
   refine Ev.ifp (by omega) ?_
   refine Ev.ifp (by rw [List.length_take]; omega) ?_
   have h1 : (List.zipWith add h st).take (i + 1) = (List.zipWith add h st).take i ++ [(rd h (i : Int) + rd st (i : Int)) % 4294967296] := by
    rw [List.take_succ_eq_append_getElem (by omega), List.getElem_zipWith, rd_nat, rd_nat]
    simp [List.getD_eq_getElem?_getD, show i < h.length by omega, show i < st.length by omega, add]
   rw [h1] at hr
   exact hr
  ·apply Ev.succ
   simp only [spec_l6Block.l2]
   refine Ev.ifn (by decide) ?_
   rw [List.take_of_length_le (by omega)]
   exact Ev.now _
end Go.Proofs.YtaakfmpffhfaeaaGreatDoor.M
end

section
/- spec.l6Sum, walked: it is Sha.sumOf, too. -/
namespace Go.Proofs.YtaakfmpffhfaeaaGreatDoor.M
open Go.RowKit Go.Proofs.YtaakfmpffhfaeaaGreatDoorW.PrintWords Go.Proofs.YtaakfmpffhfaeaaGreatDoorW.PrintLast Go.Proofs.YtaakfmpffhfaeaaGreatDoorW.PrintMore
open Go.Proofs.YtaakfmpffhfaeaaGreatDoor.Buf Go.Proofs.YtaakfmpffhfaeaaGreatDoor.Sha Go.Proofs.YtaakfmpffhfaeaaGreatDoor.Pu
attribute [local go_sem] max2_int min2_int max_two min_two max_three min_three max_four min_four   -- for this text's walks alone
set_option linter.unusedVariables false
theorem sum_range (s : ByteArray) : ∀ x ∈ padded (bytesOf s), 0 ≤ x ∧ x ≤ 255 := by
 intro x hx
 simp only [padded, lenBytes, lenAt, List.mem_append, List.mem_replicate, List.mem_cons, List.not_mem_nil, or_false] at hx
 rcases hx with ((hx | hx) | hx) | hx
 ·simp only [bytesOf, List.mem_map] at hx
  obtain ⟨b, _, rfl⟩ := hx
  have := b.toNat_lt
  omega
 ·omega
 ·omega
 ·rcases hx with hx | hx | hx | hx | hx | hx | hx | hx <;> (rw [hx]; omega)
theorem sum_padlen (xs : List Int) : (padded xs).length ≤ xs.length + 80 := by
 simp only [padded, lenBytes, zeros, List.length_append, List.length_replicate, List.length_cons, List.length_nil]
 omega
theorem c_of_arr {w : World} {g t : Nat} {xs : List Int} (h : Arr w g t xs) (hl : xs.length ≤ 9223372036854775807) : (Kd.int .u32).C w (some ⟨g, 0, none⟩) xs.length xs := by
 refine Kd.C_of_reads (d := (0 : Int)) ⟨rfl, hl, fun hp => ⟨_, rfl, fun j hj => ?_⟩⟩
 have hadd : (⟨g, 0, none⟩ : Addr).add j = ⟨g, j, none⟩ := by unfold Addr.add; split <;> simp_all
 rw [hadd]
 exact h.cell j hj
set_option maxHeartbeats 8000000 in
set_option maxRecDepth 100000 in
theorem sum_calls (s : ByteArray) (w : World) (hs : s.size ≤ 1099511627776) :
  Calls Tryz.prog 75 #[.string s] w fun e w' => e = .returned (.string (strOfNums (sumOf shaTab (bytesOf s)))) ∧ Below w.heap.size w w' := by
 obtain ⟨P, hP⟩ : ∃ P, P = padded (bytesOf s) := ⟨_, rfl⟩
 have hP64 : P.length % 64 = 0 := by rw [hP]; exact padded_length _
 have hPl : P.length ≤ 1099511628000 := by rw [hP]; have := sum_padlen (bytesOf s); rw [bytesOf_length] at this; omega
 have HPR := Aside0.mk (show ∀ x ∈ P, 0 ≤ x ∧ x ≤ 255 by rw [hP]; exact sum_range s)
 have HP := Aside0.mk hP
 have HN := Aside0.mk (show P.length = 64 * (P.length / 64) by omega)
 clear hP hP64
 go_enter Tryz.func75, Tryz.ntmps75
 go_wp2_with (first
  | (go_at_call 117; refine (padded_calls s _ hs).mono ?_; rintro e w1 ⟨v1, rfl, ho1, hb1⟩; rw [← HP.out] at ho1; have HO1 := Aside0.mk (ho1.weaken (show w.heap.size ≤ _ by simp)); have HA1 := Aside0.mk ((Arr.new w 124 H0).below hb1); have HB1 := Aside0.mk (below_step (below_alloc (Below.refl w.heap.size w) _) hb1); clear ho1 hb1))
 obtain ⟨gp, capp, LP, rfl, hLP, hgp0, hLP1, hLP2, hgp1⟩ := HO1.out.form
 subst hLP
 go_loopg [3, 5] (P.length / 64) (fun kq v3 v5 w' => ∃ (i : Nat) (sv : List Int) (A : Option Addr) (c : Nat), v5 = .int .i64 (i : Int) ∧ v3 = .slice A sv.length c ∧ Aside0 (sv.length = 8) ∧ Aside0 (sv.length ≤ c) ∧ Aside0 (i + 64 * kq = P.length) ∧ Aside0 (blocks shaTab kq sv (P.drop i) = blocks shaTab (P.length / 64) H0 P) ∧ Aside0 ((Kd.int .u32).C w' A sv.length sv) ∧ Aside0 (OwnM w' w.heap.size 5 (.slice (some ⟨gp, 0, none⟩) P.length capp) P) ∧ Aside0 (Below w.heap.size w w'))
 case atStart => exact ⟨0, H0, some ⟨w.heap.size, 0, none⟩, 8, rfl, rfl, ⟨rfl⟩, ⟨Nat.le_refl _⟩, ⟨by have := HN.out; omega⟩, ⟨rfl⟩, ⟨c_of_arr HA1.out (by decide)⟩, HO1, HB1⟩
 case round =>
  clear HA1 HB1 HO1
  obtain ⟨i, sv, A, c, rfl, rfl, HH, HC, HI, HBL, HCV, HO, HB⟩ := hrel
  have hszw : w.heap.size ≤ wr.heap.size := HB.out.size
  cases gk with
  | zero =>
   obtain rfl : i = P.length := by have := HI.out; omega
   have hi0 : decide ((P.length : Int) < (P.length : Int)) = false := by simp
   have hi1 : decide (P.length < P.length) = false := by simp
   have HS9 := Aside0.mk (show sv = blocks shaTab (P.length / 64) H0 P from by rw [← HBL.out]; rfl)
   obtain ⟨wb, hwb⟩ : ∃ wb, wb = wr := ⟨_, rfl⟩
   have HCB := Aside0.mk (show (Kd.int .u32).C wb A sv.length sv by rw [hwb]; exact HCV.out)
   have HBB := Aside0.mk (show Below w.heap.size w wb by rw [hwb]; exact HB.out)
   have HWB := Aside0.mk hwb
   clear hwb
   go_wp2_with fail
   go_loopg [6, 7] 8 (fun kq v6 v7 w' => ∃ k : Nat, v7 = .int .i64 (k : Int) ∧ Aside0 (k + kq = 8) ∧ Aside0 (OwnM w' wb.heap.size 5 v6 (out (sv.take k))) ∧ Aside0 (Below wb.heap.size wb w'))
   case atStart => exact ⟨0, rfl, ⟨rfl⟩, ⟨own_empty wr 5 _ (by rw [HWB.out]; exact Nat.le_refl _)⟩, ⟨by rw [HWB.out]; exact below_alloc (Below.refl _ _) _⟩⟩
   case round =>
    clear HB HO HCV hszw
    obtain ⟨k, rfl, HK, HO, HB9⟩ := hrel
    have hszw : wb.heap.size ≤ wr.heap.size := HB9.out.size
    have HCV := Aside0.mk (Kd.C_below HCB.out HB9.out)
    cases gk with
    | zero =>
     obtain rfl : k = 8 := by have := HK.out; omega
     go_wp2_with (first
      | ((with_reducible refine gate_dst (N := 56) rfl ?_); refine str_event wr 122 9 5 rfl (.tmp 55) rfl Tryz.underlying122 Tryz.underlying5 Tryz.underlying9 _ _ rfl HO.out ?_))
     go_ret
     have h8 : sv.take 8 = sv := List.take_of_length_le (by rw [HH.out]; omega)
     refine ⟨?_, below_step HBB.out HB9.out⟩
     rw [h8, HS9.out, HP.out]
     rfl
    | succ k7 =>
     have hk8 : decide ((k : Int) < 8) = true := by have := HK.out; simp; omega
     have hk8' : decide (k < 8) = true := by have := HK.out; simp; omega
     have hkk : k < 8 := by have := HK.out; omega
     obtain ⟨ad, hA0, hx0⟩ := (Kd.reads_of_C (d := (0 : Int)) HCV.out).at_ (k : Int) (by omega) (by rw [HH.out]; omega)
     subst hA0
     have hx0' : wr.cell? (ad.add k) = some (.int .u32 (sv.getD k 0)) := hx0
     have hadb : (ad.add k).block < wb.heap.size := by
      obtain ⟨_, e1, hx1⟩ := (Kd.reads_of_C (d := (0 : Int)) HCB.out).at_ (k : Int) (by omega) (by rw [HH.out]; omega)
      injection e1 with e1
      subst e1
      exact World.block_lt_of_cell? wb _ hx1
     obtain ⟨x9, hx9⟩ : ∃ z, sv.getD k 0 = z := ⟨_, rfl⟩
     rw [hx9] at hx0'
     clear hx0
     have HX9 := Aside0.mk hx9
     clear hx9
     have kp : (0 : Int) ≤ (k : Int) := by omega
     have kq : (k : Int) < (sv.length : Int) := by rw [HH.out]; omega
     have kq' : k < sv.length := by rw [HH.out]; omega
     have u1' : IntKind.u8.wrap (x9 / 16777216) = x9 / 16777216 % 256 := IntKind.wrap_u8 _
     have u2' : IntKind.u8.wrap (x9 / 65536) = x9 / 65536 % 256 := IntKind.wrap_u8 _
     have u3' : IntKind.u8.wrap (x9 / 256) = x9 / 256 % 256 := IntKind.wrap_u8 _
     have u4' : IntKind.u8.wrap x9 = x9 % 256 := IntKind.wrap_u8 _
     go_wp2_with fail
     go_region_held3 (fun w' => w'.cell? (ad.add k) = some (.int .u32 x9)) (first | go_keep | (rw [World.cell?_of_block (hg2.block (ad.add k).block (by simp; omega) (fun e => by have := HO.out.lt _ e.symm; omega))]; go_keep)) ((refine Buf.step_append_M _ wb.heap.size 5 (by rfl) (.tmp 29) (.tmp 53) 122 (by rfl) Tryz.underlying122 info5 _ (out (sv.take k)) (by rfl) ((HO.out.drew).alloc _) _ 4 4 [x9 / 16777216 % 256, x9 / 65536 % 256, x9 / 256 % 256, x9 % 256] (by rfl) rfl (lit_cells _ 5 _ _ rfl) (by rw [out_length, List.length_take]; simp; omega) (by simp; omega) ?_; intro v2 w2 ho2 hg2))
     have HO2 := Aside0.mk ho2
     have HB2 := Aside0.mk ((below_alloc (below_drew1 HB9.out) _).grown hg2 (by simp; omega) (fun k hk => by have := HO.out.lt k hk; omega))
     clear ho2 hg2
     go_wp2_with fail
     go_roundg k7
     case measure => omega
     case rel => exact ⟨k + 1, by go_num, ⟨by have := HK.out; omega⟩, ⟨by rw [← out_take _ _ (by rw [HH.out]; exact hkk), HX9.out]; exact HO2.out⟩, HB2⟩
  | succ k3 =>
   have hi0 : decide ((i : Int) < (P.length : Int)) = true := by have := HI.out; simp; omega
   have hi1 : decide (i < P.length) = true := by have := HI.out; simp; omega
   have hiL : i + 64 ≤ P.length := by have := HI.out; omega
   obtain ⟨i5, hi5, hz5⟩ := Option.map_eq_some_iff.1 info5
   simp only [Prod.mk.injEq] at hz5
   obtain ⟨A', hrun, hread, hcap⟩ := print_mid_int (P := Tryz.prog) (k := .u8) 122 5 Tryz.underlying122 hi5 hz5.2.1 (some ⟨gp, 0, none⟩) capp P (i : Int) ((i : Int) + 64) (by omega) (by omega) (by omega) hLP1
   obtain ⟨sl, hsl⟩ : ∃ sl, (P.take ((i : Int) + 64).toNat).drop ((i : Int)).toNat = sl := ⟨_, rfl⟩
   have hsl2 : sl = (P.drop i).take 64 := by rw [← hsl, show ((i : Int) + 64).toNat = i + 64 by omega, show ((i : Int)).toNat = i by omega, List.take_drop, Nat.add_comm]
   rw [hsl] at hrun hread hcap
   have hrd := hread wr (by obtain ⟨A9, c9, e9, r9⟩ := HO.out.reads; injection e9 with e1 e2 e3; rw [← e1] at r9; exact r9)
   have hll : sl.length = 64 := by rw [hsl2, List.length_take, List.length_drop]; omega
   obtain ⟨K, hK⟩ := block_ev sv sl HH.out hll (fun x hx => HPR.out x (by rw [hsl2] at hx; exact List.mem_of_mem_drop (List.mem_of_mem_take hx)))
   have HF := Aside0.mk (hK K (Nat.le_refl _))
   have HSL := Aside0.mk hsl2
   have HRD := Aside0.mk hrd
   have HCP := Aside0.mk hcap
   clear hsl hsl2 hread hrd hK hll hcap hi5 hz5
   go_wp2_with (first
    | (go_at_call 118; refine (spec_l6Block.calls K A c sv A' _ sl _ _ HCV.out HC.out (Kd.C_of_reads (d := (0 : Int)) HRD.out) HCP.out HF.out).mono ?_; rintro e w9 ⟨v9, rfl, hR9, hb9⟩; obtain ⟨A9, c9, e9, l9, C9⟩ := Kd.R_reads hR9; subst e9; have HC9 := Aside0.mk C9; have HL9 := Aside0.mk l9; have HO9 := Aside0.mk (HO.out.below hb9); have HB9 := Aside0.mk (below_step HB.out hb9); clear hR9 C9 l9 hb9))
   go_roundg k3
   case measure => omega
   case rel => exact ⟨i + 64, block shaTab sv sl, A9, c9, by go_num, rfl, ⟨block_length _ _ _ HH.out⟩, HL9, ⟨by have := HI.out; omega⟩, ⟨by
    rw [← HBL.out, HSL.out, ← List.drop_drop]
    rfl⟩, HC9, HO9, HB9⟩
end Go.Proofs.YtaakfmpffhfaeaaGreatDoor.M
end

section
namespace Go.Proofs.YtaakfmpffhfaeaaGreatDoor.M
open Go.RowKit Go.Proofs.YtaakfmpffhfaeaaGreatDoorW.PrintWords Go.Proofs.YtaakfmpffhfaeaaGreatDoorW.PrintLast Go.Proofs.YtaakfmpffhfaeaaGreatDoorW.PrintMore Go.Proofs.YtaakfmpffhfaeaaGreatDoor.Sq
set_option synthInstance.maxHeartbeats 2000000
set_option synthInstance.maxSize 4096
attribute [local go_sem] max2_int min2_int max_two min_two max_three min_three max_four min_four
set_option linter.unusedVariables false
set_option linter.unusedSimpArgs false
set_option maxHeartbeats 8000000
set_option maxRecDepth 100000
theorem gf75 : Go_ Tryz.prog 75 Tryz.f75 := ⟨Tryz.func75, by kernel_rfl, rfl⟩
def spec_l6Sum.f (a0 : ByteArray) : Option (ByteArray) := if a0.size ≤ 1099511627776 then (some (strOfNums (Sha.sumOf shaTab (bytesOf a0)))) else (none)
theorem spec_l6Sum.calls (a0 : ByteArray) (r : ByteArray) (w : World) (h : spec_l6Sum.f a0 = some r) :
  Calls Tryz.prog 75 #[.string a0] w fun e w' => e = .returned (.string r) ∧ Below w.heap.size w w' := by
 unfold spec_l6Sum.f at h
 by_cases h0 : a0.size ≤ 1099511627776
 ·rw [if_pos h0] at h
  obtain rfl := Option.some.inj h
  exact sum_calls a0 w h0
 ·rw [if_neg h0] at h
  cases h
theorem gf32 : Go_ Tryz.prog 32 Tryz.f32 := ⟨Tryz.func32, by kernel_rfl, rfl⟩
def spec_SealOf.f (k : Nat) (a0 : ByteArray) (a1 : ByteArray) : Option (ByteArray) := (spec_l6Key.f a0).bind fun t101 => (if t101 = true then ((spec_l6Pad.f k a0 92).bind fun t102 => ((spec_l6Pad.f k a0 54).bind fun t103 => (if t103.size + a1.size ≤ 9223372036854775807 then ((spec_l6Sum.f (t103 ++ a1)).bind fun t104 => (if t102.size + t104.size ≤ 9223372036854775807 then ((spec_l6Sum.f (t102 ++ t104)).bind fun t105 => ((spec_l6Hex.f k t105).bind fun t106 => (some t106))) else (none))) else (none)))) else (some (⟨#[]⟩ : ByteArray)))
theorem spec_SealOf.mono : ∀ a0 a1 k, LeO (spec_SealOf.f k a0 a1) (spec_SealOf.f (k + 1) a0 a1) := by
 intro a0 a1 k
 unfold spec_SealOf.f
 have I0_ := fun a b => LeC.mk (spec_l6Hex.mono a b)
 have I1_ := fun a b c => LeC.mk (spec_l6Pad.mono a b c)
 exact LeC.out
theorem spec_SealOf.calls (k : Nat) (a0 : ByteArray) (a1 : ByteArray) (r : ByteArray) (w : World) (h : spec_SealOf.f k a0 a1 = some r) :
  Calls Tryz.prog 32 #[.string a0, .string a1] w fun e w' => e = .returned (.string r) ∧ Below w.heap.size w w' := by
 have HB := Aside0.mk (Below.refl w.heap.size w)
 unfold spec_SealOf.f at h
 have H := h
 clear h
 replace H := Option.bind_eq_some_iff.mp H
 obtain ⟨t101, A30, H⟩ := H
 have A3 := Aside0.mk A30
 clear A30
 by_cases c4 : t101 = true
 ·subst c4
  rw [if_pos rfl] at H
  replace H := Option.bind_eq_some_iff.mp H
  obtain ⟨t102, A50, H⟩ := H
  have A5 := Aside0.mk A50
  clear A50
  replace H := Option.bind_eq_some_iff.mp H
  obtain ⟨t103, A60, H⟩ := H
  have A6 := Aside0.mk A60
  clear A60
  have c7 := ite_y H
  replace H := ite_t H
  have c7b0 := eq_true c7
  have c7b1 := decide_eq_true c7
  try have c7b2 : (9223372036854775807 < t103.size + a1.size) = False := eq_false (Nat.not_lt.2 c7)
  replace H := Option.bind_eq_some_iff.mp H
  obtain ⟨t104, A80, H⟩ := H
  have A8 := Aside0.mk A80
  clear A80
  have c9 := ite_y H
  replace H := ite_t H
  have c9b0 := eq_true c9
  have c9b1 := decide_eq_true c9
  try have c9b2 : (9223372036854775807 < t102.size + t104.size) = False := eq_false (Nat.not_lt.2 c9)
  replace H := Option.bind_eq_some_iff.mp H
  obtain ⟨t105, A100, H⟩ := H
  have A10 := Aside0.mk A100
  clear A100
  replace H := Option.bind_eq_some_iff.mp H
  obtain ⟨t106, A110, H⟩ := H
  have A11 := Aside0.mk A110
  clear A110
  obtain rfl := Option.some.inj H
  go_enter Tryz.func32, Tryz.ntmps32
  go_wp2_with (first | ((with_reducible refine gate_callee (f := 31) rfl ?_); refine goL (some 6) rfl rfl gf31 #[.string a0] rfl rfl ?_; (with_reducible refine (spec_l6Key.calls a0 true _ A3.out).mono ?_); rintro e w' ⟨rfl, ⟨nd, rfl⟩⟩; refine ⟨_, rfl, ?_⟩) | ((with_reducible refine gate_callee (f := 76) rfl ?_); refine goL (some 9) rfl rfl gf76 #[.string a0, .int .u8 92] rfl rfl ?_; (with_reducible refine (spec_l6Pad.calls k a0 92 t102 _ A5.out).mono ?_); rintro e w12 ⟨rfl, hb⟩; refine ⟨_, rfl, ?_⟩; replace HB := kB HB hb; (try clear hb); (try clear hb2); (try clear hk); (try clear hi)) | ((with_reducible refine gate_callee (f := 76) rfl ?_); refine goL (some 11) rfl rfl gf76 #[.string a0, .int .u8 54] rfl rfl ?_; (with_reducible refine (spec_l6Pad.calls k a0 54 t103 _ A6.out).mono ?_); rintro e w13 ⟨rfl, hb⟩; refine ⟨_, rfl, ?_⟩; replace HB := kB HB hb; (try clear hb); (try clear hb2); (try clear hk); (try clear hi)) | ((with_reducible refine gate_callee (f := 75) rfl ?_); refine goL (some 14) rfl rfl gf75 #[.string (t103 ++ a1)] rfl rfl ?_; (with_reducible refine (spec_l6Sum.calls (t103 ++ a1) t104 _ A8.out).mono ?_); rintro e w14 ⟨rfl, hb⟩; refine ⟨_, rfl, ?_⟩; replace HB := kB HB hb; (try clear hb); (try clear hb2); (try clear hk); (try clear hi)) | ((with_reducible refine gate_callee (f := 75) rfl ?_); refine goL (some 16) rfl rfl gf75 #[.string (t102 ++ t104)] rfl rfl ?_; (with_reducible refine (spec_l6Sum.calls (t102 ++ t104) t105 _ A10.out).mono ?_); rintro e w15 ⟨rfl, hb⟩; refine ⟨_, rfl, ?_⟩; replace HB := kB HB hb; (try clear hb); (try clear hb2); (try clear hk); (try clear hi)) | ((with_reducible refine gate_callee (f := 74) rfl ?_); refine goL (some 17) rfl rfl gf74 #[.string t105] rfl rfl ?_; (with_reducible refine (spec_l6Hex.calls k t105 t106 _ A11.out).mono ?_); rintro e w16 ⟨rfl, hb⟩; refine ⟨_, rfl, ?_⟩; replace HB := kB HB hb; (try clear hb); (try clear hb2); (try clear hk); (try clear hi)))
  go_ret
  exact ⟨by rfl, bx HB.out⟩
 ·replace c4 := Bool.eq_false_iff.mpr c4
  subst c4
  rw [if_neg Bool.false_ne_true] at H
  obtain rfl := Option.some.inj H
  go_enter Tryz.func32, Tryz.ntmps32
  go_wp2_with (first | ((with_reducible refine gate_callee (f := 31) rfl ?_); refine goL (some 6) rfl rfl gf31 #[.string a0] rfl rfl ?_; (with_reducible refine (spec_l6Key.calls a0 false _ A3.out).mono ?_); rintro e w' ⟨rfl, ⟨nd, rfl⟩⟩; refine ⟨_, rfl, ?_⟩))
  go_ret
  exact ⟨by rfl, bx HB.out⟩
theorem gf141 : Go_ Tryz.prog 141 Tryz.f141 := ⟨Tryz.func141, by kernel_rfl, rfl⟩
def spec_l1Letters.l0 : Nat → ByteArray → Int → Int → Option (Bool)
 | 0, _, _, _ => none
 | k + 1, x0, x1, x5 => if x5 < (x0.size : Int) then (if 0 ≤ x5 then (if (bt x0 x5) < 97 then (some false) else (if (bt x0 x5) > 122 then (some false) else (spec_l1Letters.l0 k x0 x1 (wrap64 (x5 + 1))))) else (none)) else (some (decide ((x0.size : Int) ≤ x1)))
def spec_l1Letters.f (k : Nat) (a0 : ByteArray) (a1 : Int) : Option (Bool) := spec_l1Letters.l0 k a0 a1 0
theorem spec_l1Letters.mono_l : ∀ k, (∀ y0 y1 y2, LeO (spec_l1Letters.l0 k y0 y1 y2) (spec_l1Letters.l0 (k + 1) y0 y1 y2))
 | 0 => fun _ _ _ r h => by simp [spec_l1Letters.l0] at h
 | k + 1 => by
  have ih0 := spec_l1Letters.mono_l k
  ·intro y0 y1 y2
   unfold spec_l1Letters.l0
   have I0_ := fun a b c => LeC.mk (ih0 a b c)
   exact LeC.out
theorem spec_l1Letters.mono : ∀ a0 a1 k, LeO (spec_l1Letters.f k a0 a1) (spec_l1Letters.f (k + 1) a0 a1) := by
 intro a0 a1 k
 have ih0 := spec_l1Letters.mono_l k
 unfold spec_l1Letters.f
 have I0_ := fun a b c => LeC.mk (ih0 a b c)
 exact LeC.out
theorem spec_l1Letters.calls (k : Nat) (a0 : ByteArray) (a1 : Int) (r : Bool) (w : World) (h : spec_l1Letters.f k a0 a1 = some r) :
  Calls Tryz.prog 141 #[.string a0, .int .i64 a1] w fun e w' => e = .returned (.bool r) ∧ Drawn0 w w' := by
 unfold spec_l1Letters.f at h
 have H := h
 clear h
 have H' := Aside0.mk H
 clear H
 go_enter Tryz.func141, Tryz.ntmps141
 go_wp2
 go_loopg [5] k (fun kq v5 w' => ∃ (x5_1 : Int), v5 = .int .i64 x5_1 ∧ Aside0 (spec_l1Letters.l0 kq a0 a1 x5_1 = some r) ∧ Aside0 (kq ≤ k) ∧ Drawn0 w w')
 case atStart => exact ⟨(0), (by first | rfl | (simp; done) | (simp [*]; done)), H', ⟨Nat.le_refl _⟩, by repeat (first | exact Drawn0.refl _ | apply Drawn0.step)⟩
 case round =>
  clear H'
  try clear c1
  try clear p2
  obtain ⟨x5_1, rfl, HA, HK1, ⟨m1, rfl⟩⟩ := hrel
  cases gk with
  | zero => exact absurd HA.out (by simp [spec_l1Letters.l0])
  | succ k1 =>
   have H := HA.out
   clear HA
   simp only [spec_l1Letters.l0] at H
   by_cases c3 : x5_1 < (a0.size : Int)
   ·rw [if_pos c3] at H
    have c3b0 := decide_eq_true c3
    clear c3
    have c4 := ite_y H
    replace H := ite_t H
    have c4b0 := decide_eq_true c4
    clear c4
    by_cases c6 : (bt a0 x5_1) < 97
    ·rw [if_pos c6] at H
     have c6b0 := decide_eq_true c6
     clear c6
     obtain rfl := Option.some.inj H
     have p5 := of_decide_eq_true c4b0
     have q5 := of_decide_eq_true c3b0
     have hx5 := bt_at a0 x5_1
     replace p5 := eq_true p5
     replace q5 := eq_true q5
     go_wp2
     go_ret
     exact ⟨by first | rfl | (simp; done) | (simp [*]; done), by repeat (first | exact Drawn0.refl _ | apply Drawn0.step)⟩
    ·rw [if_neg c6] at H
     have c6b0 := decide_eq_false c6
     clear c6
     by_cases c8 : (bt a0 x5_1) > 122
     ·rw [if_pos c8] at H
      have c8b0 : decide (122 < (bt a0 x5_1)) = true := decide_eq_true c8
      clear c8
      obtain rfl := Option.some.inj H
      have p5 := of_decide_eq_true c4b0
      have q5 := of_decide_eq_true c3b0
      have hx5 := bt_at a0 x5_1
      replace p5 := eq_true p5
      replace q5 := eq_true q5
      have p7 := of_decide_eq_true c4b0
      have q7 := of_decide_eq_true c3b0
      have hx7 := bt_at a0 x5_1
      replace p7 := eq_true p7
      replace q7 := eq_true q7
      go_wp2
      go_ret
      exact ⟨by first | rfl | (simp; done) | (simp [*]; done), by repeat (first | exact Drawn0.refl _ | apply Drawn0.step)⟩
     ·rw [if_neg c8] at H
      have c8b0 : decide (122 < (bt a0 x5_1)) = false := decide_eq_false c8
      clear c8
      have H' := Aside0.mk H
      clear H
      have p5 := of_decide_eq_true c4b0
      have q5 := of_decide_eq_true c3b0
      have hx5 := bt_at a0 x5_1
      replace p5 := eq_true p5
      replace q5 := eq_true q5
      have p7 := of_decide_eq_true c4b0
      have q7 := of_decide_eq_true c3b0
      have hx7 := bt_at a0 x5_1
      replace p7 := eq_true p7
      replace q7 := eq_true q7
      go_wp2
      go_roundg k1
      case measure => have := HK1.out; omega
      case rel => exact ⟨(wrap64 (x5_1 + 1)), (by first | rfl | (simp; done) | (simp [*]; done)), H', ⟨by have := HK1.out; omega⟩, by repeat (first | exact Drawn0.refl _ | apply Drawn0.step)⟩
   ·rw [if_neg c3] at H
    have c3b0 := decide_eq_false c3
    clear c3
    obtain rfl := Option.some.inj H
    go_wp2
    go_ret
    exact ⟨by first | rfl | (simp; done) | (simp [*]; done), by repeat (first | exact Drawn0.refl _ | apply Drawn0.step)⟩
theorem gf112 : Go_ Tryz.prog 112 Tryz.f112 := ⟨Tryz.func112, by kernel_rfl, rfl⟩
def spec_l1Word.f (k : Nat) (a0 : ByteArray) : Option (Bool) := if (a0.size : Int) > 0 then ((spec_l1Letters.f k a0 12).bind fun t101 => (some t101)) else (some false)
theorem spec_l1Word.mono : ∀ a0 k, LeO (spec_l1Word.f k a0) (spec_l1Word.f (k + 1) a0) := by
 intro a0 k
 unfold spec_l1Word.f
 have I0_ := fun a b c => LeC.mk (spec_l1Letters.mono a b c)
 exact LeC.out
theorem spec_l1Word.calls (k : Nat) (a0 : ByteArray) (r : Bool) (w : World) (h : spec_l1Word.f k a0 = some r) :
  Calls Tryz.prog 112 #[.string a0] w fun e w' => e = .returned (.bool r) ∧ Drawn0 w w' := by
 unfold spec_l1Word.f at h
 have H := h
 clear h
 by_cases c2 : (a0.size : Int) > 0
 ·rw [if_pos c2] at H
  have c2b0 : decide (0 < (a0.size : Int)) = true := decide_eq_true c2
  have c2b1 : decide (0 < a0.size) = true := decide_eq_true (by omega)
  clear c2
  replace H := Option.bind_eq_some_iff.mp H
  obtain ⟨t101, A30, H⟩ := H
  have A3 := Aside0.mk A30
  clear A30
  obtain rfl := Option.some.inj H
  go_enter Tryz.func112, Tryz.ntmps112
  go_wp2_with (first | (go_at_call 141; (with_reducible refine (spec_l1Letters.calls k a0 12 t101 _ A3.out).mono ?_); rintro e w' ⟨rfl, ⟨nd, rfl⟩⟩))
  go_ret
  exact ⟨by first | rfl | (simp; done) | (simp [*]; done), by repeat (first | exact Drawn0.refl _ | apply Drawn0.step)⟩
 ·rw [if_neg c2] at H
  have c2b0 : decide (0 < (a0.size : Int)) = false := decide_eq_false c2
  have c2b1 : decide (0 < a0.size) = false := decide_eq_false (by omega)
  clear c2
  obtain rfl := Option.some.inj H
  go_enter Tryz.func112, Tryz.ntmps112
  go_wp2
  go_ret
  exact ⟨by first | rfl | (simp; done) | (simp [*]; done), by repeat (first | exact Drawn0.refl _ | apply Drawn0.step)⟩
theorem gf162 : Go_ Tryz.prog 162 Tryz.f162 := ⟨Tryz.func162, by kernel_rfl, rfl⟩
def spec_l2Begins.f (a0 : ByteArray) (a1 : ByteArray) : Option (Bool) := if (a0.size : Int) ≥ (a1.size : Int) then (if 0 ≤ (a1.size : Int) then (if (a1.size : Int) ≤ (a0.size : Int) then (some ((a0.extract 0 ((a1.size : Int) : Int).toNat).toList == a1.toList)) else (none)) else (none)) else (some false)
theorem spec_l2Begins.calls (a0 : ByteArray) (a1 : ByteArray) (r : Bool) (w : World) (h : spec_l2Begins.f a0 a1 = some r) :
  Calls Tryz.prog 162 #[.string a0, .string a1] w fun e w' => e = .returned (.bool r) ∧ Drawn0 w w' := by
 unfold spec_l2Begins.f at h
 have H := h
 clear h
 by_cases c3 : (a0.size : Int) ≥ (a1.size : Int)
 ·rw [if_pos c3] at H
  have c3b0 : decide ((a1.size : Int) ≤ (a0.size : Int)) = true := decide_eq_true c3
  have c3b1 : decide (a1.size ≤ a0.size) = true := decide_eq_true (Int.ofNat_le.mp c3)
  clear c3
  have c4 := ite_y H
  replace H := ite_t H
  have c4b0 := eq_true c4
  have c4b1 := decide_eq_true c4
  clear c4
  have c5 := ite_y H
  replace H := ite_t H
  have c5b0 := eq_true c5
  have c5b1 := decide_eq_true c5
  clear c5
  obtain rfl := Option.some.inj H
  go_enter Tryz.func162, Tryz.ntmps162
  go_wp2
  go_ret
  exact ⟨by first | rfl | (simp; done) | (simp [*]; done), by repeat (first | exact Drawn0.refl _ | apply Drawn0.step)⟩
 ·rw [if_neg c3] at H
  have c3b0 : decide ((a1.size : Int) ≤ (a0.size : Int)) = false := decide_eq_false c3
  have c3b1 : decide (a1.size ≤ a0.size) = false := decide_eq_false (fun h => c3 (Int.ofNat_le.mpr h))
  clear c3
  obtain rfl := Option.some.inj H
  go_enter Tryz.func162, Tryz.ntmps162
  go_wp2
  go_ret
  exact ⟨by first | rfl | (simp; done) | (simp [*]; done), by repeat (first | exact Drawn0.refl _ | apply Drawn0.step)⟩
theorem gf163 : Go_ Tryz.prog 163 Tryz.f163 := ⟨Tryz.func163, by kernel_rfl, rfl⟩
def spec_l2Ends.f (a0 : ByteArray) (a1 : ByteArray) : Option (Bool) := if (a0.size : Int) ≥ (a1.size : Int) then (if 0 ≤ (wrap64 ((a0.size : Int) - (a1.size : Int))) then (if (wrap64 ((a0.size : Int) - (a1.size : Int))) ≤ (a0.size : Int) then (some ((a0.extract ((wrap64 ((a0.size : Int) - (a1.size : Int))) : Int).toNat a0.size).toList == a1.toList)) else (none)) else (none)) else (some false)
theorem spec_l2Ends.calls (a0 : ByteArray) (a1 : ByteArray) (r : Bool) (w : World) (h : spec_l2Ends.f a0 a1 = some r) :
  Calls Tryz.prog 163 #[.string a0, .string a1] w fun e w' => e = .returned (.bool r) ∧ Drawn0 w w' := by
 unfold spec_l2Ends.f at h
 have H := h
 clear h
 by_cases c3 : (a0.size : Int) ≥ (a1.size : Int)
 ·rw [if_pos c3] at H
  have c3b0 : decide ((a1.size : Int) ≤ (a0.size : Int)) = true := decide_eq_true c3
  have c3b1 : decide (a1.size ≤ a0.size) = true := decide_eq_true (Int.ofNat_le.mp c3)
  clear c3
  obtain ⟨ji4, hji4⟩ : ∃ j_ : Int, (wrap64 ((a0.size : Int) - (a1.size : Int))) = j_ := ⟨_, rfl⟩
  replace H : (if 0 ≤ (ji4) then (if (ji4) ≤ (a0.size : Int) then (some ((a0.extract ((ji4) : Int).toNat a0.size).toList == a1.toList)) else (none)) else (none)) = some r := by first | (rw [hji4] at H; exact H) | (simp only [hji4] at H ⊢; exact H)
  have hji4w : (IntKind.i64.wrap ((a0.size : Int) - (a1.size : Int))) = ji4 := (i64_w _).trans hji4
  have c5 := ite_y H
  replace H := ite_t H
  have c5b0 := eq_true c5
  have c5b1 := decide_eq_true c5
  clear c5
  have c6 := ite_y H
  replace H := ite_t H
  have c6b0 := eq_true c6
  have c6b1 := decide_eq_true c6
  clear c6
  obtain rfl := Option.some.inj H
  go_enter Tryz.func163, Tryz.ntmps163
  go_wp2
  go_ret
  exact ⟨by first | rfl | (simp; done) | (simp only [← hji4] <;> (first | rfl | simp)) | (simp [*]; done), by repeat (first | exact Drawn0.refl _ | apply Drawn0.step)⟩
 ·rw [if_neg c3] at H
  have c3b0 : decide ((a1.size : Int) ≤ (a0.size : Int)) = false := decide_eq_false c3
  have c3b1 : decide (a1.size ≤ a0.size) = false := decide_eq_false (fun h => c3 (Int.ofNat_le.mpr h))
  clear c3
  obtain rfl := Option.some.inj H
  go_enter Tryz.func163, Tryz.ntmps163
  go_wp2
  go_ret
  exact ⟨by first | rfl | (simp; done) | (simp [*]; done), by repeat (first | exact Drawn0.refl _ | apply Drawn0.step)⟩
theorem gf131 : Go_ Tryz.prog 131 Tryz.f131 := ⟨Tryz.func131, by kernel_rfl, rfl⟩
def spec_l2Flag.f (a0 : ByteArray) : Option (Bool) := if (a0.size : Int) = 1 then (if 0 < (a0.size : Int) then (if (bt a0 0) ≥ 65 then (some (decide ((bt a0 0) ≤ 90))) else (some false)) else (none)) else (some false)
theorem spec_l2Flag.calls (a0 : ByteArray) (r : Bool) (w : World) (h : spec_l2Flag.f a0 = some r) :
  Calls Tryz.prog 131 #[.string a0] w fun e w' => e = .returned (.bool r) ∧ Drawn0 w w' := by
 unfold spec_l2Flag.f at h
 have H := h
 clear h
 by_cases c2 : (a0.size : Int) = 1
 ·rw [if_pos c2] at H
  have c2b0 : ((a0.size : Int) == 1) = true := beq_iff_eq.mpr c2
  have c2b1 : ((a0.size : Int) != 1) = false := bne_eq_false_iff_eq.mpr c2
  clear c2
  have c3 := ite_y H
  replace H := ite_t H
  have c3b0 := decide_eq_true c3
  have c3b1 : decide (0 < a0.size) = true := decide_eq_true (by omega)
  clear c3
  by_cases c5 : (bt a0 0) ≥ 65
  ·rw [if_pos c5] at H
   have c5b0 : decide (65 ≤ (bt a0 0)) = true := decide_eq_true c5
   clear c5
   obtain rfl := Option.some.inj H
   have p4 : 0 ≤ (0 : Int) := (by omega)
   have q4 : 0 < a0.size := (by have : (0 : Int) < (a0.size : Int) := of_decide_eq_true (by with_reducible assumption); omega)
   have hx4 : ∀ h : 0 < a0.size, ((a0[0]'h).toNat : Int) = bt a0 0 := bt_at a0 0
   clear p4
   have qi4 : (0 < (a0.size : Int)) = True := eq_true (of_decide_eq_true (by with_reducible assumption))
   replace q4 := eq_true q4
   have p6 : 0 ≤ (0 : Int) := (by omega)
   have q6 : 0 < a0.size := (by have : (0 : Int) < (a0.size : Int) := of_decide_eq_true (by with_reducible assumption); omega)
   have hx6 : ∀ h : 0 < a0.size, ((a0[0]'h).toNat : Int) = bt a0 0 := bt_at a0 0
   clear p6
   have qi6 : (0 < (a0.size : Int)) = True := eq_true (of_decide_eq_true (by with_reducible assumption))
   replace q6 := eq_true q6
   go_enter Tryz.func131, Tryz.ntmps131
   go_wp2
   go_ret
   exact ⟨by first | rfl | (simp; done) | (simp [*]; done), by repeat (first | exact Drawn0.refl _ | apply Drawn0.step)⟩
  ·rw [if_neg c5] at H
   have c5b0 : decide (65 ≤ (bt a0 0)) = false := decide_eq_false c5
   clear c5
   obtain rfl := Option.some.inj H
   have p4 : 0 ≤ (0 : Int) := (by omega)
   have q4 : 0 < a0.size := (by have : (0 : Int) < (a0.size : Int) := of_decide_eq_true (by with_reducible assumption); omega)
   have hx4 : ∀ h : 0 < a0.size, ((a0[0]'h).toNat : Int) = bt a0 0 := bt_at a0 0
   clear p4
   have qi4 : (0 < (a0.size : Int)) = True := eq_true (of_decide_eq_true (by with_reducible assumption))
   replace q4 := eq_true q4
   go_enter Tryz.func131, Tryz.ntmps131
   go_wp2
   go_ret
   exact ⟨by first | rfl | (simp; done) | (simp [*]; done), by repeat (first | exact Drawn0.refl _ | apply Drawn0.step)⟩
 ·rw [if_neg c2] at H
  have c2b0 : ((a0.size : Int) == 1) = false := beq_eq_false_iff_ne.mpr c2
  have c2b1 : ((a0.size : Int) != 1) = true := bne_iff_ne.mpr c2
  obtain rfl := Option.some.inj H
  go_enter Tryz.func131, Tryz.ntmps131
  go_wp2
  go_ret
  exact ⟨by first | rfl | (simp; done) | (simp [*]; done), by repeat (first | exact Drawn0.refl _ | apply Drawn0.step)⟩
theorem gf132 : Go_ Tryz.prog 132 Tryz.f132 := ⟨Tryz.func132, by kernel_rfl, rfl⟩
def spec_AffixOk.j0 : Nat → Bool → ByteArray → Bool → ByteArray → ByteArray → ByteArray → Option (Bool)
 | 0, _, _, _, _, _, _ => none
 | k + 1, x24, x102000, x102001, x102002, x102003, x102004 => if x24 = true then (some false) else (if x102001 = true then ((spec_l2Begins.f x102004 x102002).bind fun t106 => (some t106)) else ((spec_l2Ends.f x102004 x102002).bind fun t107 => (some t107)))
def spec_AffixOk.f (k : Nat) (a0_0 : ByteArray) (a0_1 : Bool) (a0_2 : ByteArray) (a0_3 : ByteArray) (a0_4 : ByteArray) : Option (Bool) := (spec_l2Flag.f a0_0).bind fun t102 => (if t102 = true then ((spec_l1Letters.f k a0_2 4).bind fun t103 => (if t103 = true then ((spec_l1Letters.f k a0_3 4).bind fun t104 => (if t104 = true then ((spec_l1Letters.f k a0_4 4).bind fun t105 => (spec_AffixOk.j0 k (!t105) a0_0 a0_1 a0_2 a0_3 a0_4)) else (spec_AffixOk.j0 k true a0_0 a0_1 a0_2 a0_3 a0_4))) else (spec_AffixOk.j0 k true a0_0 a0_1 a0_2 a0_3 a0_4))) else (spec_AffixOk.j0 k true a0_0 a0_1 a0_2 a0_3 a0_4))
theorem spec_AffixOk.mono_l : ∀ k, (∀ y0 y1 y2 y3 y4 y5, LeO (spec_AffixOk.j0 k y0 y1 y2 y3 y4 y5) (spec_AffixOk.j0 (k + 1) y0 y1 y2 y3 y4 y5))
 | 0 => fun _ _ _ _ _ _ r h => by simp [spec_AffixOk.j0] at h
 | k + 1 => by
  have ih0 := spec_AffixOk.mono_l k
  ·intro y0 y1 y2 y3 y4 y5
   unfold spec_AffixOk.j0
   have I0_ := fun a b c d e f => LeC.mk (ih0 a b c d e f)
   have I1_ := fun a b c => LeC.mk (spec_l1Letters.mono a b c)
   exact LeC.out
theorem spec_AffixOk.mono : ∀ a0 a1 a2 a3 a4 k, LeO (spec_AffixOk.f k a0 a1 a2 a3 a4) (spec_AffixOk.f (k + 1) a0 a1 a2 a3 a4) := by
 intro a0 a1 a2 a3 a4 k
 have ih0 := spec_AffixOk.mono_l k
 unfold spec_AffixOk.f
 have I0_ := fun a b c d e f => LeC.mk (ih0 a b c d e f)
 have I1_ := fun a b c => LeC.mk (spec_l1Letters.mono a b c)
 exact LeC.out
theorem spec_AffixOk.calls (k : Nat) (a0_0 : ByteArray) (a0_1 : Bool) (a0_2 : ByteArray) (a0_3 : ByteArray) (a0_4 : ByteArray) (r : Bool) (w : World) (h : spec_AffixOk.f k a0_0 a0_1 a0_2 a0_3 a0_4 = some r) :
  Calls Tryz.prog 132 #[.agg #[.string a0_0, .bool a0_1, .string a0_2, .string a0_3, .string a0_4]] w fun e w' => e = .returned (.bool r) ∧ Below w.heap.size w w' := by
 have hu103 := Tryz.underlying103
 have HB := Aside0.mk (Below.refl w.heap.size w)
 unfold spec_AffixOk.f at h
 have H := h
 clear h
 have HC2 := Aside0.mk H
 clear H
 go_enter Tryz.func132, Tryz.ntmps132
 go_upto_region 1 with (first | ((with_reducible refine gate_dst (N := 1) rfl ?_); refine box_event rfl (N := 1) rfl (cs := #[.string a0_0, .bool a0_1, .string a0_2, .string a0_3, .string a0_4]) (t := 103) (by go_simp <;> rfl) ?_; intro gb101 hg w3 hbox hb; have BK101 := Aside0.mk (hbox); have GW101 := Le_.mk (ge_of hg HB.out); have GE101 := Le_.mk (ge_of hg HB.out); replace HB := kB HB hb; clear hb hbox hg))
 (try simp only [Act.put, List.setIfInBounds_toArray, List.set_cons_zero, List.set_cons_succ])
 go_cut [24] (fun v24 wc => ∃ (kq : Nat) (x24_1 : Bool), v24 = .bool x24_1 ∧ Aside0 (spec_AffixOk.j0 kq x24_1 a0_0 a0_1 a0_2 a0_3 a0_4 = some r) ∧ Aside0 (kq ≤ k) ∧ Aside0 (wc.heap[gb101]? = some (.cells #[.string a0_0, .bool a0_1, .string a0_2, .string a0_3, .string a0_4] 103 (0, 0))) ∧ Aside0 (Below w.heap.size w wc))
 case first =>
  have H := HC2.out
  clear HC2
  replace H := Option.bind_eq_some_iff.mp H
  obtain ⟨t102, A40, H⟩ := H
  have A4 := Aside0.mk A40
  clear A40
  by_cases c5 : t102 = true
  ·subst c5
   rw [if_pos rfl] at H
   replace H := Option.bind_eq_some_iff.mp H
   obtain ⟨t103, A60, H⟩ := H
   have A6 := Aside0.mk A60
   clear A60
   by_cases c7 : t103 = true
   ·subst c7
    rw [if_pos rfl] at H
    replace H := Option.bind_eq_some_iff.mp H
    obtain ⟨t104, A80, H⟩ := H
    have A8 := Aside0.mk A80
    clear A80
    by_cases c9 : t104 = true
    ·subst c9
     rw [if_pos rfl] at H
     replace H := Option.bind_eq_some_iff.mp H
     obtain ⟨t105, A100, H⟩ := H
     have A10 := Aside0.mk A100
     clear A100
     have H' := Aside0.mk H
     clear H
     have hz11 := cells_5 BK101.out
     go_wp2_with (first | ((with_reducible refine gate_callee (f := 131) rfl ?_); refine goL (some 5) rfl rfl gf131 #[.string a0_0] rfl rfl ?_; (with_reducible refine (spec_l2Flag.calls a0_0 true _ A4.out).mono ?_); rintro e w' ⟨rfl, ⟨nd, rfl⟩⟩; refine ⟨_, rfl, ?_⟩) | (go_at_call 141; (with_reducible refine (spec_l1Letters.calls k a0_2 4 true _ A6.out).mono ?_); rintro e w' ⟨rfl, ⟨nd, rfl⟩⟩) | (go_at_call 141; (with_reducible refine (spec_l1Letters.calls k a0_3 4 true _ A8.out).mono ?_); rintro e w' ⟨rfl, ⟨nd, rfl⟩⟩) | (go_at_call 141; (with_reducible refine (spec_l1Letters.calls k a0_4 4 t105 _ A10.out).mono ?_); rintro e w' ⟨rfl, ⟨nd, rfl⟩⟩))
     go_meet
     case rel => exact ⟨_, (!t105), (by first | rfl | (simp; done) | (simp [*]; done)), H', ⟨by first | omega | exact Nat.le_refl _⟩, ⟨gx (BK101.out)⟩, ⟨bx HB.out⟩⟩
    ·replace c9 := Bool.eq_false_iff.mpr c9
     subst c9
     rw [if_neg Bool.false_ne_true] at H
     have H' := Aside0.mk H
     clear H
     have hz12 := cells_5 BK101.out
     go_wp2_with (first | ((with_reducible refine gate_callee (f := 131) rfl ?_); refine goL (some 5) rfl rfl gf131 #[.string a0_0] rfl rfl ?_; (with_reducible refine (spec_l2Flag.calls a0_0 true _ A4.out).mono ?_); rintro e w' ⟨rfl, ⟨nd, rfl⟩⟩; refine ⟨_, rfl, ?_⟩) | (go_at_call 141; (with_reducible refine (spec_l1Letters.calls k a0_2 4 true _ A6.out).mono ?_); rintro e w' ⟨rfl, ⟨nd, rfl⟩⟩) | (go_at_call 141; (with_reducible refine (spec_l1Letters.calls k a0_3 4 false _ A8.out).mono ?_); rintro e w' ⟨rfl, ⟨nd, rfl⟩⟩))
     go_meet
     case rel => exact ⟨_, (true), (by first | rfl | (simp; done) | (simp [*]; done)), H', ⟨by first | omega | exact Nat.le_refl _⟩, ⟨gx (BK101.out)⟩, ⟨bx HB.out⟩⟩
   ·replace c7 := Bool.eq_false_iff.mpr c7
    subst c7
    rw [if_neg Bool.false_ne_true] at H
    have H' := Aside0.mk H
    clear H
    have hz13 := cells_5 BK101.out
    go_wp2_with (first | ((with_reducible refine gate_callee (f := 131) rfl ?_); refine goL (some 5) rfl rfl gf131 #[.string a0_0] rfl rfl ?_; (with_reducible refine (spec_l2Flag.calls a0_0 true _ A4.out).mono ?_); rintro e w' ⟨rfl, ⟨nd, rfl⟩⟩; refine ⟨_, rfl, ?_⟩) | (go_at_call 141; (with_reducible refine (spec_l1Letters.calls k a0_2 4 false _ A6.out).mono ?_); rintro e w' ⟨rfl, ⟨nd, rfl⟩⟩))
    go_meet
    case rel => exact ⟨_, (true), (by first | rfl | (simp; done) | (simp [*]; done)), H', ⟨by first | omega | exact Nat.le_refl _⟩, ⟨gx (BK101.out)⟩, ⟨bx HB.out⟩⟩
  ·replace c5 := Bool.eq_false_iff.mpr c5
   subst c5
   rw [if_neg Bool.false_ne_true] at H
   have H' := Aside0.mk H
   clear H
   have hz14 := cells_5 BK101.out
   go_wp2_with (first | ((with_reducible refine gate_callee (f := 131) rfl ?_); refine goL (some 5) rfl rfl gf131 #[.string a0_0] rfl rfl ?_; (with_reducible refine (spec_l2Flag.calls a0_0 false _ A4.out).mono ?_); rintro e w' ⟨rfl, ⟨nd, rfl⟩⟩; refine ⟨_, rfl, ?_⟩))
   go_meet
   case rel => exact ⟨_, (true), (by first | rfl | (simp; done) | (simp [*]; done)), H', ⟨by first | omega | exact Nat.le_refl _⟩, ⟨gx (BK101.out)⟩, ⟨bx HB.out⟩⟩
 case rest =>
  clear HC2
  try clear c1
  try clear p2
  try clear c5
  try clear c7
  try clear c9
  try clear c13
  try clear hz11
  try clear hz12
  try clear hz13
  try clear hz14
  obtain ⟨kq, x24_1, rfl, HA, HJ1, BK101, HB⟩ := hcut
  cases kq with
  | zero => exact absurd HA.out (by simp [spec_AffixOk.j0])
  | succ kj1 =>
   have H := HA.out
   clear HA
   simp only [spec_AffixOk.j0] at H
   by_cases c15 : x24_1 = true
   ·subst c15
    rw [if_pos rfl] at H
    obtain rfl := Option.some.inj H
    go_wp2
    go_ret
    exact ⟨by rfl, bx HB.out⟩
   ·replace c15 := Bool.eq_false_iff.mpr c15
    subst c15
    rw [if_neg Bool.false_ne_true] at H
    by_cases c16 : a0_1 = true
    ·subst c16
     rw [if_pos rfl] at H
     replace H := Option.bind_eq_some_iff.mp H
     obtain ⟨t106, A170, H⟩ := H
     have A17 := Aside0.mk A170
     clear A170
     obtain rfl := Option.some.inj H
     have hz18 := cells_5 BK101.out
     go_wp2_with (first | ((with_reducible refine gate_callee (f := 162) rfl ?_); refine goL (some 31) rfl rfl gf162 #[.string a0_4, .string a0_2] rfl rfl ?_; (with_reducible refine (spec_l2Begins.calls a0_4 a0_2 t106 _ A17.out).mono ?_); rintro e w' ⟨rfl, ⟨nd, rfl⟩⟩; refine ⟨_, rfl, ?_⟩))
     go_ret
     exact ⟨by rfl, bx HB.out⟩
    ·replace c16 := Bool.eq_false_iff.mpr c16
     subst c16
     rw [if_neg Bool.false_ne_true] at H
     replace H := Option.bind_eq_some_iff.mp H
     obtain ⟨t107, A190, H⟩ := H
     have A19 := Aside0.mk A190
     clear A190
     obtain rfl := Option.some.inj H
     have hz20 := cells_5 BK101.out
     go_wp2_with (first | ((with_reducible refine gate_callee (f := 163) rfl ?_); refine goL (some 36) rfl rfl gf163 #[.string a0_4, .string a0_2] rfl rfl ?_; (with_reducible refine (spec_l2Ends.calls a0_4 a0_2 t107 _ A19.out).mono ?_); rintro e w' ⟨rfl, ⟨nd, rfl⟩⟩; refine ⟨_, rfl, ?_⟩))
     go_ret
     exact ⟨by rfl, bx HB.out⟩
end Go.Proofs.YtaakfmpffhfaeaaGreatDoor.M
end

section
namespace Go.Proofs.YtaakfmpffhfaeaaGreatDoor.M
open Go.RowKit Go.Proofs.YtaakfmpffhfaeaaGreatDoorW.PrintWords Go.Proofs.YtaakfmpffhfaeaaGreatDoorW.PrintLast Go.Proofs.YtaakfmpffhfaeaaGreatDoorW.PrintMore Go.Proofs.YtaakfmpffhfaeaaGreatDoor.Sq
set_option synthInstance.maxHeartbeats 2000000
set_option synthInstance.maxSize 4096
attribute [local go_sem] max2_int min2_int max_two min_two max_three min_three max_four min_four
set_option linter.unusedVariables false
set_option linter.unusedSimpArgs false
attribute [local go_sem high] eqA103
set_option maxHeartbeats 8000000
set_option maxRecDepth 100000
theorem gf94 : Go_ Tryz.prog 94 Tryz.f94 := ⟨Tryz.func94, by kernel_rfl, rfl⟩
mutual
def spec_l2Affixes.l0 : Nat → List (S103) → Int → Option (Bool)
 | 0, _, _ => none
 | k + 1, x0, x3 => if x3 < (x0.length : Int) then (if 0 ≤ x3 then ((spec_AffixOk.f k ((rd_T103 x0 x3).f0) ((rd_T103 x0 x3).f1) ((rd_T103 x0 x3).f2) ((rd_T103 x0 x3).f3) ((rd_T103 x0 x3).f4)).bind fun t102 => (if t102 = true then (spec_l2Affixes.l1 k x0 x3 0) else (some false))) else (none)) else (some (decide ((x0.length : Int) ≤ 8)))
def spec_l2Affixes.l1 : Nat → List (S103) → Int → Int → Option (Bool)
 | 0, _, _, _ => none
 | k + 1, x0, x3, x4 => if x4 < x3 then (if 0 ≤ x4 then (if x4 < (x0.length : Int) then (if 0 ≤ x3 then (if x3 < (x0.length : Int) then (if ((((rd_T103 x0 x4).f0).toList) == (((rd_T103 x0 x3).f0).toList) && (((rd_T103 x0 x4).f1) == ((rd_T103 x0 x3).f1) && ((((rd_T103 x0 x4).f2).toList) == (((rd_T103 x0 x3).f2).toList) && ((((rd_T103 x0 x4).f3).toList) == (((rd_T103 x0 x3).f3).toList) && ((((rd_T103 x0 x4).f4).toList) == (((rd_T103 x0 x3).f4).toList)))))) = true then (some false) else (spec_l2Affixes.l1 k x0 x3 (wrap64 (x4 + 1)))) else (none)) else (none)) else (none)) else (none)) else (spec_l2Affixes.l0 k x0 (wrap64 (x3 + 1)))
end
def spec_l2Affixes.f (k : Nat) (l0 : List (S103)) : Option (Bool) := spec_l2Affixes.l0 k l0 0
theorem spec_l2Affixes.mono_l : ∀ k, (∀ y0 y1, LeO (spec_l2Affixes.l0 k y0 y1) (spec_l2Affixes.l0 (k + 1) y0 y1)) ∧ (∀ y0 y1 y2, LeO (spec_l2Affixes.l1 k y0 y1 y2) (spec_l2Affixes.l1 (k + 1) y0 y1 y2))
 | 0 => ⟨fun _ _ r h => by simp [spec_l2Affixes.l0] at h, fun _ _ _ r h => by simp [spec_l2Affixes.l1] at h⟩
 | k + 1 => by
  obtain ⟨ih0, ih1⟩ := spec_l2Affixes.mono_l k
  refine ⟨?_, ?_⟩
  ·intro y0 y1
   unfold spec_l2Affixes.l0
   have I0_ := fun a b => LeC.mk (ih0 a b)
   have I1_ := fun a b c => LeC.mk (ih1 a b c)
   have I2_ := fun a b c d e f => LeC.mk (spec_AffixOk.mono a b c d e f)
   exact LeC.out
  ·intro y0 y1 y2
   unfold spec_l2Affixes.l1
   have I0_ := fun a b => LeC.mk (ih0 a b)
   have I1_ := fun a b c => LeC.mk (ih1 a b c)
   have I2_ := fun a b c d e f => LeC.mk (spec_AffixOk.mono a b c d e f)
   exact LeC.out
theorem spec_l2Affixes.mono : ∀ a0 k, LeO (spec_l2Affixes.f k a0) (spec_l2Affixes.f (k + 1) a0) := by
 intro a0 k
 obtain ⟨ih0, ih1⟩ := spec_l2Affixes.mono_l k
 unfold spec_l2Affixes.f
 have I0_ := fun a b => LeC.mk (ih0 a b)
 have I1_ := fun a b c => LeC.mk (ih1 a b c)
 have I2_ := fun a b c d e f => LeC.mk (spec_AffixOk.mono a b c d e f)
 exact LeC.out
theorem spec_l2Affixes.calls (k : Nat) (A0 : Option Addr) (c0 : Nat) (l0 : List (S103)) (r : Bool) (w : World) (hr0 : Kd.C k103 w A0 l0.length l0) (hc0 : l0.length ≤ c0) (h : spec_l2Affixes.f k l0 = some r) :
  Calls Tryz.prog 94 #[.slice A0 l0.length c0] w fun e w' => e = .returned (.bool r) ∧ Below w.heap.size w w' := by
 have hu103 := Tryz.underlying103
 have HR0 := Aside0.mk hr0
 have HC0 := Aside0.mk hc0
 clear hr0 hc0
 have HB := Aside0.mk (Below.refl w.heap.size w)
 unfold spec_l2Affixes.f at h
 have H := h
 clear h
 have H' := Aside0.mk H
 clear H
 go_enter Tryz.func94, Tryz.ntmps94
 go_wp2
 repeat (go_quiet (fail); try go_wp2)
 go_loopg [3] k (fun kq v3 w' => ∃ (x3_1 : Int), v3 = .int .i64 x3_1 ∧ Aside0 (spec_l2Affixes.l0 kq l0 x3_1 = some r) ∧ Aside0 (kq ≤ k) ∧ Aside0 (Below w.heap.size w w'))
 case atStart => exact ⟨(0), (by first | rfl | (simp; done) | (simp [*]; done)), H', ⟨Nat.le_refl _⟩, ⟨bx HB.out⟩⟩
 case round =>
  clear H'
  obtain ⟨x3_1, rfl, HA, HK1, HB⟩ := hrel
  cases gk with
  | zero => exact absurd HA.out (by simp [spec_l2Affixes.l0])
  | succ k1 =>
   have H := HA.out
   clear HA
   simp only [spec_l2Affixes.l0] at H
   by_cases c2 : x3_1 < (l0.length : Int)
   ·rw [if_pos c2] at H
    have c2b0 := decide_eq_true c2
    clear c2
    have c3 := ite_y H
    replace H := ite_t H
    have c3b0 := decide_eq_true c3
    clear c3
    replace H := Option.bind_eq_some_iff.mp H
    obtain ⟨t102, A40, H⟩ := H
    have A4 := Aside0.mk A40
    clear A40
    by_cases c5 : t102 = true
    ·subst c5
     rw [if_pos rfl] at H
     have H' := Aside0.mk H
     clear H
     have p101 := of_decide_eq_true c3b0
     have q101 := of_decide_eq_true c2b0
     obtain ⟨ad101, e101, hx101_0, hx101_1, hx101_2, hx101_3, hx101_4⟩ := at_T103 HR0.out x3_1 p101 q101
     cases e101
     replace hx101_0 := px HB.out hx101_0
     replace hx101_1 := px HB.out hx101_1
     replace hx101_2 := px HB.out hx101_2
     replace hx101_3 := px HB.out hx101_3
     replace hx101_4 := px HB.out hx101_4
     replace p101 := eq_true p101
     replace q101 := eq_true q101
     go_wp2_with (first | (go_at_call 132; (with_reducible refine (spec_AffixOk.calls k1 ((rd_T103 l0 x3_1).f0) ((rd_T103 l0 x3_1).f1) ((rd_T103 l0 x3_1).f2) ((rd_T103 l0 x3_1).f3) ((rd_T103 l0 x3_1).f4) true _ A4.out).mono ?_); rintro e w6 ⟨rfl, hb⟩; replace HB := kB HB hb; (try clear hb); (try clear hb2); (try clear hk); (try clear hi)))
     repeat (go_quiet (first | (go_at_call 132; (with_reducible refine (spec_AffixOk.calls k1 ((rd_T103 l0 x3_1).f0) ((rd_T103 l0 x3_1).f1) ((rd_T103 l0 x3_1).f2) ((rd_T103 l0 x3_1).f3) ((rd_T103 l0 x3_1).f4) true _ A4.out).mono ?_); rintro e w6 ⟨rfl, hb⟩; replace HB := kB HB hb; (try clear hb); (try clear hb2); (try clear hk); (try clear hi))); try go_wp2_with (first | (go_at_call 132; (with_reducible refine (spec_AffixOk.calls k1 ((rd_T103 l0 x3_1).f0) ((rd_T103 l0 x3_1).f1) ((rd_T103 l0 x3_1).f2) ((rd_T103 l0 x3_1).f3) ((rd_T103 l0 x3_1).f4) true _ A4.out).mono ?_); rintro e w6 ⟨rfl, hb⟩; replace HB := kB HB hb; (try clear hb); (try clear hb2); (try clear hk); (try clear hi))))
     go_loopg [4] k1 (fun kq v4 w' => ∃ (x4_2 : Int), v4 = .int .i64 x4_2 ∧ Aside0 (spec_l2Affixes.l1 kq l0 x3_1 x4_2 = some r) ∧ Aside0 (kq ≤ k1) ∧ Aside0 (Below w.heap.size w w'))
     case atStart => exact ⟨(0), (by first | rfl | (simp; done) | (simp [*]; done)), H', ⟨Nat.le_refl _⟩, ⟨bx HB.out⟩⟩
     case round =>
      clear H'
      try clear p1
      try clear q1
      try clear hx1
      try clear c2
      try clear c2b0
      try clear p2
      try clear c3
      try clear c3b0
      try clear c5
      try clear hx101_0
      try clear hx101_1
      try clear hx101_2
      try clear hx101_3
      try clear hx101_4
      try clear p101
      try clear q101
      obtain ⟨x4_2, rfl, HA, HK2, HB⟩ := hrel
      cases gk with
      | zero => exact absurd HA.out (by simp [spec_l2Affixes.l1])
      | succ k2 =>
       have H := HA.out
       clear HA
       simp only [spec_l2Affixes.l1] at H
       by_cases c7 : x4_2 < x3_1
       ·rw [if_pos c7] at H
        have c7b0 := decide_eq_true c7
        clear c7
        have c8 := ite_y H
        replace H := ite_t H
        have c8b0 := decide_eq_true c8
        clear c8
        have c9 := ite_y H
        replace H := ite_t H
        have c9b0 := decide_eq_true c9
        clear c9
        have c10 := ite_y H
        replace H := ite_t H
        have c10b0 := decide_eq_true c10
        clear c10
        have c11 := ite_y H
        replace H := ite_t H
        have c11b0 := decide_eq_true c11
        clear c11
        by_cases c12 : ((((rd_T103 l0 x4_2).f0).toList) == (((rd_T103 l0 x3_1).f0).toList) && (((rd_T103 l0 x4_2).f1) == ((rd_T103 l0 x3_1).f1) && ((((rd_T103 l0 x4_2).f2).toList) == (((rd_T103 l0 x3_1).f2).toList) && ((((rd_T103 l0 x4_2).f3).toList) == (((rd_T103 l0 x3_1).f3).toList) && ((((rd_T103 l0 x4_2).f4).toList) == (((rd_T103 l0 x3_1).f4).toList)))))) = true
        ·rw [if_pos c12] at H
         have c12b0 : ((((rd_T103 l0 x4_2).f0).toList) == (((rd_T103 l0 x3_1).f0).toList) && (((rd_T103 l0 x4_2).f1) == ((rd_T103 l0 x3_1).f1) && ((((rd_T103 l0 x4_2).f2).toList) == (((rd_T103 l0 x3_1).f2).toList) && ((((rd_T103 l0 x4_2).f3).toList) == (((rd_T103 l0 x3_1).f3).toList) && ((((rd_T103 l0 x4_2).f4).toList) == (((rd_T103 l0 x3_1).f4).toList)))))) = true := c12
         (try (have c12b1 : decide ((((rd_T103 l0 x4_2).f0).toList) = (((rd_T103 l0 x3_1).f0).toList) && (((rd_T103 l0 x4_2).f1) == ((rd_T103 l0 x3_1).f1) && ((((rd_T103 l0 x4_2).f2).toList) == (((rd_T103 l0 x3_1).f2).toList) && ((((rd_T103 l0 x4_2).f3).toList) == (((rd_T103 l0 x3_1).f3).toList) && ((((rd_T103 l0 x4_2).f4).toList) == (((rd_T103 l0 x3_1).f4).toList)))))) = true := by simpa using c12))
         (try (have c12b2 : ((((rd_T103 l0 x4_2).f0).toList) == (((rd_T103 l0 x3_1).f0).toList) && (((rd_T103 l0 x4_2).f1) == ((rd_T103 l0 x3_1).f1) && ((((rd_T103 l0 x4_2).f2).toList) == (((rd_T103 l0 x3_1).f2).toList) && ((((rd_T103 l0 x4_2).f3).toList) == (((rd_T103 l0 x3_1).f3).toList) && ((((rd_T103 l0 x4_2).f4).toList) == (((rd_T103 l0 x3_1).f4).toList)))))) = true := by simpa using c12))
         clear c12
         obtain rfl := Option.some.inj H
         have p103 := of_decide_eq_true c8b0
         have q103 := of_decide_eq_true c9b0
         obtain ⟨ad103, e103, hx103_0, hx103_1, hx103_2, hx103_3, hx103_4⟩ := at_T103 HR0.out x4_2 p103 q103
         obtain rfl : ad101 = ad103 := (by injection e103)
         replace hx103_0 := px HB.out hx103_0
         replace hx103_1 := px HB.out hx103_1
         replace hx103_2 := px HB.out hx103_2
         replace hx103_3 := px HB.out hx103_3
         replace hx103_4 := px HB.out hx103_4
         replace p103 := eq_true p103
         replace q103 := eq_true q103
         have p104 := of_decide_eq_true c10b0
         have q104 := of_decide_eq_true c11b0
         obtain ⟨ad104, e104, hx104_0, hx104_1, hx104_2, hx104_3, hx104_4⟩ := at_T103 HR0.out x3_1 p104 q104
         obtain rfl : ad101 = ad104 := (by injection e104)
         replace hx104_0 := px HB.out hx104_0
         replace hx104_1 := px HB.out hx104_1
         replace hx104_2 := px HB.out hx104_2
         replace hx104_3 := px HB.out hx104_3
         replace hx104_4 := px HB.out hx104_4
         replace p104 := eq_true p104
         replace q104 := eq_true q104
         go_wp2
         repeat (go_quiet (fail); try go_wp2)
         go_ret
         exact ⟨by rfl, bx HB.out⟩
        ·rw [if_neg c12] at H
         have c12b0 : ((((rd_T103 l0 x4_2).f0).toList) == (((rd_T103 l0 x3_1).f0).toList) && (((rd_T103 l0 x4_2).f1) == ((rd_T103 l0 x3_1).f1) && ((((rd_T103 l0 x4_2).f2).toList) == (((rd_T103 l0 x3_1).f2).toList) && ((((rd_T103 l0 x4_2).f3).toList) == (((rd_T103 l0 x3_1).f3).toList) && ((((rd_T103 l0 x4_2).f4).toList) == (((rd_T103 l0 x3_1).f4).toList)))))) = false := by simpa using c12
         (try (have c12b1 : decide ((((rd_T103 l0 x4_2).f0).toList) = (((rd_T103 l0 x3_1).f0).toList) && (((rd_T103 l0 x4_2).f1) == ((rd_T103 l0 x3_1).f1) && ((((rd_T103 l0 x4_2).f2).toList) == (((rd_T103 l0 x3_1).f2).toList) && ((((rd_T103 l0 x4_2).f3).toList) == (((rd_T103 l0 x3_1).f3).toList) && ((((rd_T103 l0 x4_2).f4).toList) == (((rd_T103 l0 x3_1).f4).toList)))))) = false := by simpa using c12))
         (try (have c12b2 : ((((rd_T103 l0 x4_2).f0).toList) == (((rd_T103 l0 x3_1).f0).toList) && (((rd_T103 l0 x4_2).f1) == ((rd_T103 l0 x3_1).f1) && ((((rd_T103 l0 x4_2).f2).toList) == (((rd_T103 l0 x3_1).f2).toList) && ((((rd_T103 l0 x4_2).f3).toList) == (((rd_T103 l0 x3_1).f3).toList) && ((((rd_T103 l0 x4_2).f4).toList) == (((rd_T103 l0 x3_1).f4).toList)))))) = false := by simpa using c12))
         (try (have c12b3 : ¬ ((((rd_T103 l0 x4_2).f0).toList) = (((rd_T103 l0 x3_1).f0).toList) && (((rd_T103 l0 x4_2).f1) == ((rd_T103 l0 x3_1).f1) && ((((rd_T103 l0 x4_2).f2).toList) == (((rd_T103 l0 x3_1).f2).toList) && ((((rd_T103 l0 x4_2).f3).toList) == (((rd_T103 l0 x3_1).f3).toList) && ((((rd_T103 l0 x4_2).f4).toList) == (((rd_T103 l0 x3_1).f4).toList)))))) := by simpa using c12))
         clear c12
         have H' := Aside0.mk H
         clear H
         have p103 := of_decide_eq_true c8b0
         have q103 := of_decide_eq_true c9b0
         obtain ⟨ad103, e103, hx103_0, hx103_1, hx103_2, hx103_3, hx103_4⟩ := at_T103 HR0.out x4_2 p103 q103
         obtain rfl : ad101 = ad103 := (by injection e103)
         replace hx103_0 := px HB.out hx103_0
         replace hx103_1 := px HB.out hx103_1
         replace hx103_2 := px HB.out hx103_2
         replace hx103_3 := px HB.out hx103_3
         replace hx103_4 := px HB.out hx103_4
         replace p103 := eq_true p103
         replace q103 := eq_true q103
         have p104 := of_decide_eq_true c10b0
         have q104 := of_decide_eq_true c11b0
         obtain ⟨ad104, e104, hx104_0, hx104_1, hx104_2, hx104_3, hx104_4⟩ := at_T103 HR0.out x3_1 p104 q104
         obtain rfl : ad101 = ad104 := (by injection e104)
         replace hx104_0 := px HB.out hx104_0
         replace hx104_1 := px HB.out hx104_1
         replace hx104_2 := px HB.out hx104_2
         replace hx104_3 := px HB.out hx104_3
         replace hx104_4 := px HB.out hx104_4
         replace p104 := eq_true p104
         replace q104 := eq_true q104
         go_wp2
         repeat (go_quiet (fail); try go_wp2)
         go_roundg k2
         case measure => have := HK1.out; have := HK2.out; omega
         case rel => exact ⟨(wrap64 (x4_2 + 1)), (by first | rfl | (simp; done) | (simp [*]; done)), H', ⟨by have := HK1.out; have := HK2.out; omega⟩, ⟨bx HB.out⟩⟩
       ·rw [if_neg c7] at H
        have c7b0 := decide_eq_false c7
        clear c7
        have H' := Aside0.mk H
        clear H
        go_wp2
        repeat (go_quiet (fail); try go_wp2)
        go_roundg k2
        case measure => have := HK1.out; have := HK2.out; omega
        case rel => exact ⟨(wrap64 (x3_1 + 1)), (by first | rfl | (simp; done) | (simp [*]; done)), H', ⟨by have := HK1.out; have := HK2.out; omega⟩, ⟨bx HB.out⟩⟩
    ·replace c5 := Bool.eq_false_iff.mpr c5
     subst c5
     rw [if_neg Bool.false_ne_true] at H
     obtain rfl := Option.some.inj H
     have p101 := of_decide_eq_true c3b0
     have q101 := of_decide_eq_true c2b0
     obtain ⟨ad101, e101, hx101_0, hx101_1, hx101_2, hx101_3, hx101_4⟩ := at_T103 HR0.out x3_1 p101 q101
     cases e101
     replace hx101_0 := px HB.out hx101_0
     replace hx101_1 := px HB.out hx101_1
     replace hx101_2 := px HB.out hx101_2
     replace hx101_3 := px HB.out hx101_3
     replace hx101_4 := px HB.out hx101_4
     replace p101 := eq_true p101
     replace q101 := eq_true q101
     go_wp2_with (first | (go_at_call 132; (with_reducible refine (spec_AffixOk.calls k1 ((rd_T103 l0 x3_1).f0) ((rd_T103 l0 x3_1).f1) ((rd_T103 l0 x3_1).f2) ((rd_T103 l0 x3_1).f3) ((rd_T103 l0 x3_1).f4) false _ A4.out).mono ?_); rintro e w13 ⟨rfl, hb⟩; replace HB := kB HB hb; (try clear hb); (try clear hb2); (try clear hk); (try clear hi)))
     repeat (go_quiet (first | (go_at_call 132; (with_reducible refine (spec_AffixOk.calls k1 ((rd_T103 l0 x3_1).f0) ((rd_T103 l0 x3_1).f1) ((rd_T103 l0 x3_1).f2) ((rd_T103 l0 x3_1).f3) ((rd_T103 l0 x3_1).f4) false _ A4.out).mono ?_); rintro e w13 ⟨rfl, hb⟩; replace HB := kB HB hb; (try clear hb); (try clear hb2); (try clear hk); (try clear hi))); try go_wp2_with (first | (go_at_call 132; (with_reducible refine (spec_AffixOk.calls k1 ((rd_T103 l0 x3_1).f0) ((rd_T103 l0 x3_1).f1) ((rd_T103 l0 x3_1).f2) ((rd_T103 l0 x3_1).f3) ((rd_T103 l0 x3_1).f4) false _ A4.out).mono ?_); rintro e w13 ⟨rfl, hb⟩; replace HB := kB HB hb; (try clear hb); (try clear hb2); (try clear hk); (try clear hi))))
     go_ret
     exact ⟨by rfl, bx HB.out⟩
   ·rw [if_neg c2] at H
    have c2b0 := decide_eq_false c2
    clear c2
    obtain rfl := Option.some.inj H
    go_wp2
    repeat (go_quiet (fail); try go_wp2)
    go_ret
    exact ⟨by rfl, bx HB.out⟩
end Go.Proofs.YtaakfmpffhfaeaaGreatDoor.M
end

section
namespace Go.Proofs.YtaakfmpffhfaeaaGreatDoor.M
open Go.RowKit Go.Proofs.YtaakfmpffhfaeaaGreatDoorW.PrintWords Go.Proofs.YtaakfmpffhfaeaaGreatDoorW.PrintLast Go.Proofs.YtaakfmpffhfaeaaGreatDoorW.PrintMore Go.Proofs.YtaakfmpffhfaeaaGreatDoor.Sq
set_option synthInstance.maxHeartbeats 2000000
set_option synthInstance.maxSize 4096
attribute [local go_sem] max2_int min2_int max_two min_two max_three min_three max_four min_four
set_option linter.unusedVariables false
set_option linter.unusedSimpArgs false
set_option maxHeartbeats 8000000
set_option maxRecDepth 100000
theorem gf93 : Go_ Tryz.prog 93 Tryz.f93 := ⟨Tryz.func93, by kernel_rfl, rfl⟩
def spec_l2Entry.l0 : Nat → Int → ByteArray → ByteArray → Option (Bool)
 | 0, _, _, _ => none
 | k + 1, x3, x102000, x102001 => if x3 < (x102001.size : Int) then (if 0 ≤ x3 then (if x3 ≤ (wrap64 (x3 + 1)) then (if (wrap64 (x3 + 1)) ≤ (x102001.size : Int) then ((spec_l2Flag.f (x102001.extract (x3 : Int).toNat ((wrap64 (x3 + 1)) : Int).toNat)).bind fun t102 => (if t102 = true then (if x3 > 0 then (if 0 ≤ (wrap64 (x3 - 1)) then (if (wrap64 (x3 - 1)) < (x102001.size : Int) then (if (bt x102001 (wrap64 (x3 - 1))) ≥ (bt x102001 x3) then (some false) else (spec_l2Entry.l0 k (wrap64 (x3 + 1)) x102000 x102001)) else (none)) else (none)) else (spec_l2Entry.l0 k (wrap64 (x3 + 1)) x102000 x102001)) else (some false))) else (none)) else (none)) else (none)) else ((spec_l1Word.f k x102000).bind fun t103 => (if t103 = true then (some (decide ((x102001.size : Int) ≤ 4))) else (some false)))
def spec_l2Entry.f (k : Nat) (a0_0 : ByteArray) (a0_1 : ByteArray) : Option (Bool) := spec_l2Entry.l0 k 0 a0_0 a0_1
theorem spec_l2Entry.mono_l : ∀ k, (∀ y0 y1 y2, LeO (spec_l2Entry.l0 k y0 y1 y2) (spec_l2Entry.l0 (k + 1) y0 y1 y2))
 | 0 => fun _ _ _ r h => by simp [spec_l2Entry.l0] at h
 | k + 1 => by
  have ih0 := spec_l2Entry.mono_l k
  ·intro y0 y1 y2
   unfold spec_l2Entry.l0
   have I0_ := fun a b c => LeC.mk (ih0 a b c)
   have I1_ := fun a b => LeC.mk (spec_l1Word.mono a b)
   exact LeC.out
theorem spec_l2Entry.mono : ∀ a0 a1 k, LeO (spec_l2Entry.f k a0 a1) (spec_l2Entry.f (k + 1) a0 a1) := by
 intro a0 a1 k
 have ih0 := spec_l2Entry.mono_l k
 unfold spec_l2Entry.f
 have I0_ := fun a b c => LeC.mk (ih0 a b c)
 have I1_ := fun a b => LeC.mk (spec_l1Word.mono a b)
 exact LeC.out
theorem spec_l2Entry.calls (k : Nat) (a0_0 : ByteArray) (a0_1 : ByteArray) (r : Bool) (w : World) (h : spec_l2Entry.f k a0_0 a0_1 = some r) :
  Calls Tryz.prog 93 #[.agg #[.string a0_0, .string a0_1]] w fun e w' => e = .returned (.bool r) ∧ Below w.heap.size w w' := by
 have hu100 := Tryz.underlying100
 have HB := Aside0.mk (Below.refl w.heap.size w)
 unfold spec_l2Entry.f at h
 have H := h
 clear h
 have H' := Aside0.mk H
 clear H
 go_enter Tryz.func93, Tryz.ntmps93
 go_wp2_with (first | ((with_reducible refine gate_dst (N := 1) rfl ?_); (try (refine gate_guard (by rfl) ?_; dsimp only)); refine box_event rfl (N := 1) rfl (cs := #[.string a0_0, .string a0_1]) (t := 100) (by go_simp <;> rfl) ?_; intro gb101 hg w2 hbox hb; have BK101 := Aside0.mk (hbox); have GW101 := Le_.mk (ge_of hg HB.out); have GE101 := Le_.mk (ge_of hg HB.out); replace HB := kB HB hb; clear hb hbox hg))
 repeat (go_quiet (first | ((with_reducible refine gate_dst (N := 1) rfl ?_); (try (refine gate_guard (by rfl) ?_; dsimp only)); refine box_event rfl (N := 1) rfl (cs := #[.string a0_0, .string a0_1]) (t := 100) (by go_simp <;> rfl) ?_; intro gb101 hg w2 hbox hb; have BK101 := Aside0.mk (hbox); have GW101 := Le_.mk (ge_of hg HB.out); have GE101 := Le_.mk (ge_of hg HB.out); replace HB := kB HB hb; clear hb hbox hg)); try go_wp2_with (first | ((with_reducible refine gate_dst (N := 1) rfl ?_); (try (refine gate_guard (by rfl) ?_; dsimp only)); refine box_event rfl (N := 1) rfl (cs := #[.string a0_0, .string a0_1]) (t := 100) (by go_simp <;> rfl) ?_; intro gb101 hg w2 hbox hb; have BK101 := Aside0.mk (hbox); have GW101 := Le_.mk (ge_of hg HB.out); have GE101 := Le_.mk (ge_of hg HB.out); replace HB := kB HB hb; clear hb hbox hg)))
 go_loopg [3] k (fun kq v3 w' => ∃ (x3_1 : Int), v3 = .int .i64 x3_1 ∧ Aside0 (spec_l2Entry.l0 kq x3_1 a0_0 a0_1 = some r) ∧ Aside0 (kq ≤ k) ∧ Aside0 (w'.heap[gb101]? = some (.cells #[.string a0_0, .string a0_1] 100 (0, 0))) ∧ Aside0 (Below w.heap.size w w'))
 case atStart => exact ⟨(0), (by first | rfl | (simp; done) | (simp [*]; done)), H', ⟨Nat.le_refl _⟩, ⟨gx (BK101.out)⟩, ⟨bx HB.out⟩⟩
 case round =>
  clear H'
  try clear p2
  obtain ⟨x3_1, rfl, HA, HK1, BK101, HB⟩ := hrel
  cases gk with
  | zero => exact absurd HA.out (by simp [spec_l2Entry.l0])
  | succ k1 =>
   have H := HA.out
   clear HA
   simp only [spec_l2Entry.l0] at H
   by_cases c3 : x3_1 < (a0_1.size : Int)
   ·rw [if_pos c3] at H
    have c3b0 := decide_eq_true c3
    clear c3
    have c4 := ite_y H
    replace H := ite_t H
    have c4b0 := eq_true c4
    have c4b1 := decide_eq_true c4
    clear c4
    have c5 := ite_y H
    replace H := ite_t H
    have c5w := i64_w (x3_1 + 1)
    have c5b0 := eq_true c5
    have c5b1 := decide_eq_true c5
    have c6 := ite_y H
    replace H := ite_t H
    have c6b0 := eq_true c6
    have c6b1 := decide_eq_true c6
    replace H := Option.bind_eq_some_iff.mp H
    obtain ⟨t102, A70, H⟩ := H
    have A7 := Aside0.mk A70
    clear A70
    by_cases c8 : t102 = true
    ·subst c8
     rw [if_pos rfl] at H
     by_cases c9 : x3_1 > 0
     ·rw [if_pos c9] at H
      have c9b0 : decide (0 < x3_1) = true := decide_eq_true c9
      clear c9
      obtain ⟨ji10, hji10⟩ : ∃ j_ : Int, (wrap64 (x3_1 - 1)) = j_ := ⟨_, rfl⟩
      replace H : (if 0 ≤ (ji10) then (if (ji10) < (a0_1.size : Int) then (if (bt a0_1 (ji10)) ≥ (bt a0_1 x3_1) then (some false) else (spec_l2Entry.l0 k1 (wrap64 (x3_1 + 1)) a0_0 a0_1)) else (none)) else (none)) = some r := by first | (rw [hji10] at H; exact H) | (simp only [hji10] at H ⊢; exact H)
      (try rw [hji10] at A7)
      have hji10w : (IntKind.i64.wrap (x3_1 - 1)) = ji10 := (i64_w _).trans hji10
      have c11 := ite_y H
      replace H := ite_t H
      have c11b0 := decide_eq_true c11
      clear c11
      have c12 := ite_y H
      replace H := ite_t H
      have c12b0 := decide_eq_true c12
      clear c12
      by_cases c15 : (bt a0_1 (ji10)) ≥ (bt a0_1 x3_1)
      ·rw [if_pos c15] at H
       have c15b0 : decide ((bt a0_1 x3_1) ≤ (bt a0_1 (ji10))) = true := decide_eq_true c15
       clear c15
       obtain rfl := Option.some.inj H
       have hz16 := cells_2 BK101.out
       go_wp2_with (first | (go_at_call 131; (with_reducible refine (spec_l2Flag.calls (a0_1.extract (x3_1 : Int).toNat ((wrap64 (x3_1 + 1)) : Int).toNat) true _ A7.out).mono ?_); rintro e w' ⟨rfl, ⟨nd, rfl⟩⟩; (try first | exact ⟨rfl, _, World.drewN_drewN _ _ _⟩ | exact ⟨rfl, _, Eq.trans (World.drewN_drewN _ _ _) (congrArg (World.drewN _) (Nat.add_assoc _ _ _))⟩); have p13 := of_decide_eq_true c11b0; have q13 := of_decide_eq_true c12b0; have hx13 := bt_at a0_1 (ji10); replace p13 := eq_true p13; replace q13 := eq_true q13; have p14 := of_decide_eq_true c4b1; have q14 := of_decide_eq_true c3b0; have hx14 := bt_at a0_1 x3_1; replace p14 := eq_true p14; replace q14 := eq_true q14))
       repeat (go_quiet (first | (go_at_call 131; (with_reducible refine (spec_l2Flag.calls (a0_1.extract (x3_1 : Int).toNat ((wrap64 (x3_1 + 1)) : Int).toNat) true _ A7.out).mono ?_); rintro e w' ⟨rfl, ⟨nd, rfl⟩⟩; (try first | exact ⟨rfl, _, World.drewN_drewN _ _ _⟩ | exact ⟨rfl, _, Eq.trans (World.drewN_drewN _ _ _) (congrArg (World.drewN _) (Nat.add_assoc _ _ _))⟩); have p13 := of_decide_eq_true c11b0; have q13 := of_decide_eq_true c12b0; have hx13 := bt_at a0_1 (ji10); replace p13 := eq_true p13; replace q13 := eq_true q13; have p14 := of_decide_eq_true c4b1; have q14 := of_decide_eq_true c3b0; have hx14 := bt_at a0_1 x3_1; replace p14 := eq_true p14; replace q14 := eq_true q14)); try go_wp2_with (first | (go_at_call 131; (with_reducible refine (spec_l2Flag.calls (a0_1.extract (x3_1 : Int).toNat ((wrap64 (x3_1 + 1)) : Int).toNat) true _ A7.out).mono ?_); rintro e w' ⟨rfl, ⟨nd, rfl⟩⟩; (try first | exact ⟨rfl, _, World.drewN_drewN _ _ _⟩ | exact ⟨rfl, _, Eq.trans (World.drewN_drewN _ _ _) (congrArg (World.drewN _) (Nat.add_assoc _ _ _))⟩); have p13 := of_decide_eq_true c11b0; have q13 := of_decide_eq_true c12b0; have hx13 := bt_at a0_1 (ji10); replace p13 := eq_true p13; replace q13 := eq_true q13; have p14 := of_decide_eq_true c4b1; have q14 := of_decide_eq_true c3b0; have hx14 := bt_at a0_1 x3_1; replace p14 := eq_true p14; replace q14 := eq_true q14)))
       go_ret
       exact ⟨by first | rfl | (simp [errW_none, errW_some] <;> rfl) | (simp only [← hji10]; first | rfl | (simp [errW_none, errW_some] <;> rfl)) | (simp [*, errW_none, errW_some] <;> rfl), bx HB.out⟩
      ·rw [if_neg c15] at H
       have c15b0 : decide ((bt a0_1 x3_1) ≤ (bt a0_1 (ji10))) = false := decide_eq_false c15
       clear c15
       have H' := Aside0.mk H
       clear H
       have hz17 := cells_2 BK101.out
       go_wp2_with (first | (go_at_call 131; (with_reducible refine (spec_l2Flag.calls (a0_1.extract (x3_1 : Int).toNat ((wrap64 (x3_1 + 1)) : Int).toNat) true _ A7.out).mono ?_); rintro e w' ⟨rfl, ⟨nd, rfl⟩⟩; (try first | exact ⟨rfl, _, World.drewN_drewN _ _ _⟩ | exact ⟨rfl, _, Eq.trans (World.drewN_drewN _ _ _) (congrArg (World.drewN _) (Nat.add_assoc _ _ _))⟩); have p13 := of_decide_eq_true c11b0; have q13 := of_decide_eq_true c12b0; have hx13 := bt_at a0_1 (ji10); replace p13 := eq_true p13; replace q13 := eq_true q13; have p14 := of_decide_eq_true c4b1; have q14 := of_decide_eq_true c3b0; have hx14 := bt_at a0_1 x3_1; replace p14 := eq_true p14; replace q14 := eq_true q14))
       repeat (go_quiet (first | (go_at_call 131; (with_reducible refine (spec_l2Flag.calls (a0_1.extract (x3_1 : Int).toNat ((wrap64 (x3_1 + 1)) : Int).toNat) true _ A7.out).mono ?_); rintro e w' ⟨rfl, ⟨nd, rfl⟩⟩; (try first | exact ⟨rfl, _, World.drewN_drewN _ _ _⟩ | exact ⟨rfl, _, Eq.trans (World.drewN_drewN _ _ _) (congrArg (World.drewN _) (Nat.add_assoc _ _ _))⟩); have p13 := of_decide_eq_true c11b0; have q13 := of_decide_eq_true c12b0; have hx13 := bt_at a0_1 (ji10); replace p13 := eq_true p13; replace q13 := eq_true q13; have p14 := of_decide_eq_true c4b1; have q14 := of_decide_eq_true c3b0; have hx14 := bt_at a0_1 x3_1; replace p14 := eq_true p14; replace q14 := eq_true q14)); try go_wp2_with (first | (go_at_call 131; (with_reducible refine (spec_l2Flag.calls (a0_1.extract (x3_1 : Int).toNat ((wrap64 (x3_1 + 1)) : Int).toNat) true _ A7.out).mono ?_); rintro e w' ⟨rfl, ⟨nd, rfl⟩⟩; (try first | exact ⟨rfl, _, World.drewN_drewN _ _ _⟩ | exact ⟨rfl, _, Eq.trans (World.drewN_drewN _ _ _) (congrArg (World.drewN _) (Nat.add_assoc _ _ _))⟩); have p13 := of_decide_eq_true c11b0; have q13 := of_decide_eq_true c12b0; have hx13 := bt_at a0_1 (ji10); replace p13 := eq_true p13; replace q13 := eq_true q13; have p14 := of_decide_eq_true c4b1; have q14 := of_decide_eq_true c3b0; have hx14 := bt_at a0_1 x3_1; replace p14 := eq_true p14; replace q14 := eq_true q14)))
       go_roundg k1
       case measure => have := HK1.out; omega
       case rel => exact ⟨(wrap64 (x3_1 + 1)), (by first | rfl | (simp; done) | (simp [*]; done)), H', ⟨by have := HK1.out; omega⟩, ⟨gx (BK101.out)⟩, ⟨bx HB.out⟩⟩
     ·rw [if_neg c9] at H
      have c9b0 : decide (0 < x3_1) = false := decide_eq_false c9
      clear c9
      have H' := Aside0.mk H
      clear H
      have hz18 := cells_2 BK101.out
      go_wp2_with (first | (go_at_call 131; (with_reducible refine (spec_l2Flag.calls (a0_1.extract (x3_1 : Int).toNat ((wrap64 (x3_1 + 1)) : Int).toNat) true _ A7.out).mono ?_); rintro e w' ⟨rfl, ⟨nd, rfl⟩⟩; (try first | exact ⟨rfl, _, World.drewN_drewN _ _ _⟩ | exact ⟨rfl, _, Eq.trans (World.drewN_drewN _ _ _) (congrArg (World.drewN _) (Nat.add_assoc _ _ _))⟩)))
      repeat (go_quiet (first | (go_at_call 131; (with_reducible refine (spec_l2Flag.calls (a0_1.extract (x3_1 : Int).toNat ((wrap64 (x3_1 + 1)) : Int).toNat) true _ A7.out).mono ?_); rintro e w' ⟨rfl, ⟨nd, rfl⟩⟩; (try first | exact ⟨rfl, _, World.drewN_drewN _ _ _⟩ | exact ⟨rfl, _, Eq.trans (World.drewN_drewN _ _ _) (congrArg (World.drewN _) (Nat.add_assoc _ _ _))⟩))); try go_wp2_with (first | (go_at_call 131; (with_reducible refine (spec_l2Flag.calls (a0_1.extract (x3_1 : Int).toNat ((wrap64 (x3_1 + 1)) : Int).toNat) true _ A7.out).mono ?_); rintro e w' ⟨rfl, ⟨nd, rfl⟩⟩; (try first | exact ⟨rfl, _, World.drewN_drewN _ _ _⟩ | exact ⟨rfl, _, Eq.trans (World.drewN_drewN _ _ _) (congrArg (World.drewN _) (Nat.add_assoc _ _ _))⟩))))
      go_roundg k1
      case measure => have := HK1.out; omega
      case rel => exact ⟨(wrap64 (x3_1 + 1)), (by first | rfl | (simp; done) | (simp [*]; done)), H', ⟨by have := HK1.out; omega⟩, ⟨gx (BK101.out)⟩, ⟨bx HB.out⟩⟩
    ·replace c8 := Bool.eq_false_iff.mpr c8
     subst c8
     rw [if_neg Bool.false_ne_true] at H
     obtain rfl := Option.some.inj H
     have hz19 := cells_2 BK101.out
     go_wp2_with (first | (go_at_call 131; (with_reducible refine (spec_l2Flag.calls (a0_1.extract (x3_1 : Int).toNat ((wrap64 (x3_1 + 1)) : Int).toNat) false _ A7.out).mono ?_); rintro e w' ⟨rfl, ⟨nd, rfl⟩⟩; (try first | exact ⟨rfl, _, World.drewN_drewN _ _ _⟩ | exact ⟨rfl, _, Eq.trans (World.drewN_drewN _ _ _) (congrArg (World.drewN _) (Nat.add_assoc _ _ _))⟩)))
     repeat (go_quiet (first | (go_at_call 131; (with_reducible refine (spec_l2Flag.calls (a0_1.extract (x3_1 : Int).toNat ((wrap64 (x3_1 + 1)) : Int).toNat) false _ A7.out).mono ?_); rintro e w' ⟨rfl, ⟨nd, rfl⟩⟩; (try first | exact ⟨rfl, _, World.drewN_drewN _ _ _⟩ | exact ⟨rfl, _, Eq.trans (World.drewN_drewN _ _ _) (congrArg (World.drewN _) (Nat.add_assoc _ _ _))⟩))); try go_wp2_with (first | (go_at_call 131; (with_reducible refine (spec_l2Flag.calls (a0_1.extract (x3_1 : Int).toNat ((wrap64 (x3_1 + 1)) : Int).toNat) false _ A7.out).mono ?_); rintro e w' ⟨rfl, ⟨nd, rfl⟩⟩; (try first | exact ⟨rfl, _, World.drewN_drewN _ _ _⟩ | exact ⟨rfl, _, Eq.trans (World.drewN_drewN _ _ _) (congrArg (World.drewN _) (Nat.add_assoc _ _ _))⟩))))
     go_ret
     exact ⟨by rfl, bx HB.out⟩
   ·rw [if_neg c3] at H
    have c3b0 := decide_eq_false c3
    clear c3
    replace H := Option.bind_eq_some_iff.mp H
    obtain ⟨t103, A200, H⟩ := H
    have A20 := Aside0.mk A200
    clear A200
    by_cases c21 : t103 = true
    ·subst c21
     rw [if_pos rfl] at H
     obtain rfl := Option.some.inj H
     have hz22 := cells_2 BK101.out
     go_wp2_with (first | (go_at_call 112; (with_reducible refine (spec_l1Word.calls k1 a0_0 true _ A20.out).mono ?_); rintro e w' ⟨rfl, ⟨nd, rfl⟩⟩; (try first | exact ⟨rfl, _, World.drewN_drewN _ _ _⟩ | exact ⟨rfl, _, Eq.trans (World.drewN_drewN _ _ _) (congrArg (World.drewN _) (Nat.add_assoc _ _ _))⟩)))
     repeat (go_quiet (first | (go_at_call 112; (with_reducible refine (spec_l1Word.calls k1 a0_0 true _ A20.out).mono ?_); rintro e w' ⟨rfl, ⟨nd, rfl⟩⟩; (try first | exact ⟨rfl, _, World.drewN_drewN _ _ _⟩ | exact ⟨rfl, _, Eq.trans (World.drewN_drewN _ _ _) (congrArg (World.drewN _) (Nat.add_assoc _ _ _))⟩))); try go_wp2_with (first | (go_at_call 112; (with_reducible refine (spec_l1Word.calls k1 a0_0 true _ A20.out).mono ?_); rintro e w' ⟨rfl, ⟨nd, rfl⟩⟩; (try first | exact ⟨rfl, _, World.drewN_drewN _ _ _⟩ | exact ⟨rfl, _, Eq.trans (World.drewN_drewN _ _ _) (congrArg (World.drewN _) (Nat.add_assoc _ _ _))⟩))))
     go_ret
     exact ⟨by rfl, bx HB.out⟩
    ·replace c21 := Bool.eq_false_iff.mpr c21
     subst c21
     rw [if_neg Bool.false_ne_true] at H
     obtain rfl := Option.some.inj H
     have hz23 := cells_2 BK101.out
     go_wp2_with (first | (go_at_call 112; (with_reducible refine (spec_l1Word.calls k1 a0_0 false _ A20.out).mono ?_); rintro e w' ⟨rfl, ⟨nd, rfl⟩⟩; (try first | exact ⟨rfl, _, World.drewN_drewN _ _ _⟩ | exact ⟨rfl, _, Eq.trans (World.drewN_drewN _ _ _) (congrArg (World.drewN _) (Nat.add_assoc _ _ _))⟩)))
     repeat (go_quiet (first | (go_at_call 112; (with_reducible refine (spec_l1Word.calls k1 a0_0 false _ A20.out).mono ?_); rintro e w' ⟨rfl, ⟨nd, rfl⟩⟩; (try first | exact ⟨rfl, _, World.drewN_drewN _ _ _⟩ | exact ⟨rfl, _, Eq.trans (World.drewN_drewN _ _ _) (congrArg (World.drewN _) (Nat.add_assoc _ _ _))⟩))); try go_wp2_with (first | (go_at_call 112; (with_reducible refine (spec_l1Word.calls k1 a0_0 false _ A20.out).mono ?_); rintro e w' ⟨rfl, ⟨nd, rfl⟩⟩; (try first | exact ⟨rfl, _, World.drewN_drewN _ _ _⟩ | exact ⟨rfl, _, Eq.trans (World.drewN_drewN _ _ _) (congrArg (World.drewN _) (Nat.add_assoc _ _ _))⟩))))
     go_ret
     exact ⟨by rfl, bx HB.out⟩
theorem gf48 : Go_ Tryz.prog 48 Tryz.f48 := ⟨Tryz.func48, by kernel_rfl, rfl⟩
def spec_BookOk.l0 : Nat → Int → List (S103) → List (S100) → Option (Bool)
 | 0, _, _, _ => none
 | k + 1, x3, x102000, x102001 => if x3 < (x102001.length : Int) then (if 0 ≤ x3 then ((spec_l2Entry.f k ((rd_T100 x102001 x3).f0) ((rd_T100 x102001 x3).f1)).bind fun t103 => (if t103 = true then (if x3 > 0 then (if 0 ≤ (wrap64 (x3 - 1)) then (if (wrap64 (x3 - 1)) < (x102001.length : Int) then (if ((Op.bytesLess (((rd_T100 x102001 (wrap64 (x3 - 1))).f0).toList) (((rd_T100 x102001 x3).f0).toList)) = true) then (spec_BookOk.l0 k (wrap64 (x3 + 1)) x102000 x102001) else (some false)) else (none)) else (none)) else (spec_BookOk.l0 k (wrap64 (x3 + 1)) x102000 x102001)) else (some false))) else (none)) else ((spec_l2Affixes.f k x102000).bind fun t106 => (if t106 = true then (some (decide ((x102001.length : Int) ≤ 24))) else (some false)))
def spec_BookOk.f (k : Nat) (l0_0 : List (S103)) (l0_1 : List (S100)) : Option (Bool) := spec_BookOk.l0 k 0 l0_0 l0_1
theorem spec_BookOk.mono_l : ∀ k, (∀ y0 y1 y2, LeO (spec_BookOk.l0 k y0 y1 y2) (spec_BookOk.l0 (k + 1) y0 y1 y2))
 | 0 => fun _ _ _ r h => by simp [spec_BookOk.l0] at h
 | k + 1 => by
  have ih0 := spec_BookOk.mono_l k
  ·intro y0 y1 y2
   unfold spec_BookOk.l0
   have I0_ := fun a b c => LeC.mk (ih0 a b c)
   have I1_ := fun a b => LeC.mk (spec_l2Affixes.mono a b)
   have I2_ := fun a b c => LeC.mk (spec_l2Entry.mono a b c)
   exact LeC.out
theorem spec_BookOk.mono : ∀ a0 a1 k, LeO (spec_BookOk.f k a0 a1) (spec_BookOk.f (k + 1) a0 a1) := by
 intro a0 a1 k
 have ih0 := spec_BookOk.mono_l k
 unfold spec_BookOk.f
 have I0_ := fun a b c => LeC.mk (ih0 a b c)
 have I1_ := fun a b => LeC.mk (spec_l2Affixes.mono a b)
 have I2_ := fun a b c => LeC.mk (spec_l2Entry.mono a b c)
 exact LeC.out
def spec_BookOk.T4 : Bool × List (List Nat × List Nat) := (true, [([], []), ([0], [0]), ([], []), ([1, 2], [1, 2]), ([3], [3]), ([4], [4]), ([5], [5]), ([6, 5], [6]), ([7], [7]), ([8, 7], [7, 8]), ([9, 7, 7], [7, 9]), ([10], [10]), ([11, 10], [10, 11]), ([10], [10]), ([13, 10], [10, 13]), ([12, 14, 10], [10, 12, 14]), ([15, 10], [10, 15]), ([16, 10], [10, 16]), ([10], [10]), ([18, 10], [10, 18]), ([10], [10]), ([19, 20, 10], [10, 19, 20]), ([21, 10], [10, 21]), ([22, 10], [10, 22]), ([17, 23, 10], [10, 17, 23]), ([10, 24, 7], [7, 10, 24]), ([7, 25], [7, 25])])
def spec_BookOk.B4 : List Nat := [0, 1, 0, 7, 15, 31, 63, 127, 255, 511, 1023, 2047, 4095, 2047, 10239, 32767, 65535, 131071, 2047, 264191, 2047, 1837055, 3934207, 8128511, 16777215, 33554431, 67108863]
theorem spec_BookOk.tab4 : rtab .any (opsOf Tryz.f48 4) = spec_BookOk.T4 := by kernel_rfl
theorem spec_BookOk.bits4 : waitsOk spec_BookOk.T4.2 spec_BookOk.B4 = true := by kernel_rfl
theorem spec_BookOk.calls (k : Nat) (A0_0 : Option Addr) (c0_0 : Nat) (l0_0 : List (S103)) (A0_1 : Option Addr) (c0_1 : Nat) (l0_1 : List (S100)) (r : Bool) (w : World) (hr0_0 : Kd.C k103 w A0_0 l0_0.length l0_0) (hc0_0 : l0_0.length ≤ c0_0) (hr0_1 : Kd.C k100 w A0_1 l0_1.length l0_1) (hc0_1 : l0_1.length ≤ c0_1) (h : spec_BookOk.f k l0_0 l0_1 = some r) :
  Calls Tryz.prog 48 #[.agg #[.slice A0_0 l0_0.length c0_0, .slice A0_1 l0_1.length c0_1]] w fun e w' => e = .returned (.bool r) ∧ Below w.heap.size w w' := by
 have hu51 := Tryz.underlying51
 have hu100 := Tryz.underlying100
 have HR0_0 := Aside0.mk hr0_0
 have HC0_0 := Aside0.mk hc0_0
 clear hr0_0 hc0_0
 have HR0_1 := Aside0.mk hr0_1
 have HC0_1 := Aside0.mk hc0_1
 clear hr0_1 hc0_1
 have HB := Aside0.mk (Below.refl w.heap.size w)
 unfold spec_BookOk.f at h
 have H := h
 clear h
 have H' := Aside0.mk H
 clear H
 go_enter Tryz.func48, Tryz.ntmps48
 go_wp2_with (first | ((with_reducible refine gate_dst (N := 1) rfl ?_); (try (refine gate_guard (by rfl) ?_; dsimp only)); refine box_event rfl (N := 1) rfl (cs := #[.slice A0_0 l0_0.length c0_0, .slice A0_1 l0_1.length c0_1]) (t := 51) (by go_simp <;> rfl) ?_; intro gb101 hg w2 hbox hb; have BK101 := Aside0.mk (hbox); have GW101 := Le_.mk (ge_of hg HB.out); have GE101 := Le_.mk (ge_of hg HB.out); replace HB := kB HB hb; clear hb hbox hg))
 go_loopg [3] k (fun kq v3 w' => ∃ (x3_1 : Int), v3 = .int .i64 x3_1 ∧ Aside0 (spec_BookOk.l0 kq x3_1 l0_0 l0_1 = some r) ∧ Aside0 (kq ≤ k) ∧ Aside0 (w'.heap[gb101]? = some (.cells #[(.slice A0_0 l0_0.length c0_0), (.slice A0_1 l0_1.length c0_1)] 51 (0, 0))) ∧ Aside0 (Below w.heap.size w w'))
 case atStart => exact ⟨(0), (by first | rfl | (simp; done) | (simp [*]; done)), H', ⟨Nat.le_refl _⟩, ⟨gx (BK101.out)⟩, ⟨bx HB.out⟩⟩
 case round =>
  clear H'
  try clear p2
  obtain ⟨x3_1, rfl, HA, HK1, BK101, HB⟩ := hrel
  cases gk with
  | zero => exact absurd HA.out (by simp [spec_BookOk.l0])
  | succ k1 =>
   have H := HA.out
   clear HA
   simp only [spec_BookOk.l0] at H
   by_cases c3 : x3_1 < (l0_1.length : Int)
   ·rw [if_pos c3] at H
    have c3b0 := decide_eq_true c3
    clear c3
    have c4 := ite_y H
    replace H := ite_t H
    have c4b0 := decide_eq_true c4
    clear c4
    replace H := Option.bind_eq_some_iff.mp H
    obtain ⟨t103, A50, H⟩ := H
    have A5 := Aside0.mk A50
    clear A50
    by_cases c6 : t103 = true
    ·subst c6
     rw [if_pos rfl] at H
     by_cases c7 : x3_1 > 0
     ·rw [if_pos c7] at H
      have c7b0 : decide (0 < x3_1) = true := decide_eq_true c7
      clear c7
      obtain ⟨ji8, hji8⟩ : ∃ j_ : Int, (wrap64 (x3_1 - 1)) = j_ := ⟨_, rfl⟩
      replace H : (if 0 ≤ (ji8) then (if (ji8) < (l0_1.length : Int) then (if ((Op.bytesLess (((rd_T100 l0_1 (ji8)).f0).toList) (((rd_T100 l0_1 x3_1).f0).toList)) = true) then (spec_BookOk.l0 k1 (wrap64 (x3_1 + 1)) l0_0 l0_1) else (some false)) else (none)) else (none)) = some r := by first | (rw [hji8] at H; exact H) | (simp only [hji8] at H ⊢; exact H)
      (try rw [hji8] at A5)
      have hji8w : (IntKind.i64.wrap (x3_1 - 1)) = ji8 := (i64_w _).trans hji8
      have c9 := ite_y H
      replace H := ite_t H
      have c9b0 := decide_eq_true c9
      clear c9
      have c10 := ite_y H
      replace H := ite_t H
      have c10b0 := decide_eq_true c10
      clear c10
      by_cases c11 : ((Op.bytesLess (((rd_T100 l0_1 (ji8)).f0).toList) (((rd_T100 l0_1 x3_1).f0).toList)) = true)
      ·rw [if_pos c11] at H
       have c11b0 : (Op.bytesLess (((rd_T100 l0_1 (ji8)).f0).toList) (((rd_T100 l0_1 x3_1).f0).toList)) = true := c11
       clear c11
       have H' := Aside0.mk H
       clear H
       have hz12 := cells_2 BK101.out
       try go_wp2
       replace BK101 := Aside0.mk (blk_drew BK101.out)
       replace HB := Aside0.mk (below_drew1 HB.out)
       have p102 := of_decide_eq_true c4b0
       have q102 := of_decide_eq_true c3b0
       obtain ⟨ad102, e102, hx102_0, hx102_1⟩ := at_T100 HR0_1.out x3_1 p102 q102
       have hw102_1 := hx102_1
       have hw102_0 := hx102_0
       cases e102
       replace hx102_0 := px HB.out hx102_0
       replace hx102_1 := px HB.out hx102_1
       replace p102 := eq_true p102
       replace q102 := eq_true q102
       have p104 := of_decide_eq_true c9b0
       have q104 := of_decide_eq_true c10b0
       obtain ⟨ad104, e104, hx104_0, hx104_1⟩ := at_T100 HR0_1.out (ji8) p104 q104
       have hw104_1 := hx104_1
       have hw104_0 := hx104_0
       obtain rfl : ad102 = ad104 := (by injection e104)
       replace hx104_0 := px HB.out hx104_0
       replace hx104_1 := px HB.out hx104_1
       replace p104 := eq_true p104
       replace q104 := eq_true q104
       have p105 := of_decide_eq_true c4b0
       have q105 := of_decide_eq_true c3b0
       obtain ⟨ad105, e105, hx105_0, hx105_1⟩ := at_T100 HR0_1.out x3_1 p105 q105
       have hw105_1 := hx105_1
       have hw105_0 := hx105_0
       obtain rfl : ad102 = ad105 := (by injection e105)
       replace hx105_0 := px HB.out hx105_0
       replace hx105_1 := px HB.out hx105_1
       replace p105 := eq_true p105
       replace q105 := eq_true q105
       refine start_ (n := 27) (S := fun w' => w'.cell? ⟨gb101, 0, none⟩ = some (.slice A0_0 l0_0.length c0_0) ∧ w'.cell? ⟨gb101, 1, none⟩ = some (.slice (some ad102) l0_1.length c0_1) ∧ w'.cell? (ad102.add ((x3_1).toNat * 2)) = some (.string ((rd_T100 l0_1 x3_1).f0)) ∧ w'.cell? ⟨(ad102.add ((x3_1).toNat * 2)).block, (ad102.add ((x3_1).toNat * 2)).off + 1, none⟩ = some (.string ((rd_T100 l0_1 x3_1).f1)) ∧ w'.cell? (ad102.add (((ji8)).toNat * 2)) = some (.string ((rd_T100 l0_1 (ji8)).f0)) ∧ w'.cell? ⟨(ad102.add (((ji8)).toNat * 2)).block, (ad102.add (((ji8)).toNat * 2)).off + 1, none⟩ = some (.string ((rd_T100 l0_1 (ji8)).f1)) ∧ w'.cell? (ad102.add ((x3_1).toNat * 2)) = some (.string ((rd_T100 l0_1 x3_1).f0)) ∧ w'.cell? ⟨(ad102.add ((x3_1).toNat * 2)).block, (ad102.add ((x3_1).toNat * 2)).off + 1, none⟩ = some (.string ((rd_T100 l0_1 x3_1).f1))) (ds := []) _ (by kernel_rfl) rfl rfl ⟨(blk_cell BK101.out 0).trans rfl, (blk_cell BK101.out 1).trans rfl, (px HB.out hw102_0), (px HB.out hw102_1), (px HB.out hw104_0), (px HB.out hw104_1), (px HB.out hw105_0), (px HB.out hw105_1)⟩ (fun hHeld => ?_); refine with_tabW spec_BookOk.tab4 spec_BookOk.bits4 (fun HT_ HW_ => ?_)
       generalize wr.drew = w13 at BK101 HB hx102_0 hx102_1 hx104_0 hx104_1 hx105_0 hx105_1 hHeld ⊢
       refine ord_ [.p 0 11, .p 2 13, .t 1 12, .p 3 14, .t 4 15] ?_
       repeat (first | (refine pu_ (v := ?_) (a' := ?_) HT_ rfl rfl (by kernel_rfl) (fun _ _ _ h => h) (by rfl) ?_ ?_ ?_; rotate_left 2; (intro w'; go_simp; with_reducible rfl); (simp only [Act.put, List.setIfInBounds_toArray, List.set_cons_zero, List.set_cons_succ, i64_w, i32_w]; rfl)) | (refine ta_ (v := ?_) (a' := ?_) HT_ HW_ rfl rfl (by kernel_rfl) (fun _ _ _ h => h) (by rfl) hHeld ?_ ?_ ?_; rotate_left 2; (rintro w' ⟨s0, s1, s2, s3, s4, s5, s6, s7⟩; go_simp; with_reducible rfl); (simp only [Act.put, List.setIfInBounds_toArray, List.set_cons_zero, List.set_cons_succ, i64_w, i32_w]; rfl)))
       refine ord0 ?_
       refine on_ (i := 5) (N := some 16) HT_ rfl rfl (by kernel_rfl) (by decide) (fun K hK => ?_)
       refine goM gf93 #[.agg #[.string ((rd_T100 l0_1 x3_1).f0), .string ((rd_T100 l0_1 x3_1).f1)]] (by rfl) rfl rfl rfl ?_
       with_reducible refine (spec_l2Entry.calls k1 ((rd_T100 l0_1 x3_1).f0) ((rd_T100 l0_1 x3_1).f1) true _ A5.out).mono ?_
       rintro e w14 ⟨rfl, hb⟩
       refine ⟨_, rfl, ?_⟩
       replace BK101 := kb BK101 hb
       replace HB := kB HB hb
       (try clear hb)
       (try clear hb2)
       (try clear hk)
       (try clear hi)
       refine hK.out _ _ ⟨(blk_cell BK101.out 0).trans rfl, (blk_cell BK101.out 1).trans rfl, (pz HB.out hw102_0), (pz HB.out hw102_1), (pz HB.out hw104_0), (pz HB.out hw104_1), (pz HB.out hw105_0), (pz HB.out hw105_1)⟩ (fun hHeld => ?_)
       clear hK K
       refine norm_ (a' := ?_) ?_ ?_
       rotate_left
       ·show Act.put _ (some 16) _ = _
        simp only [Act.put, List.setIfInBounds_toArray, List.set_cons_zero, List.set_cons_succ, i64_w, i32_w]
        rfl
       refine ord_ [.p 6 17, .p 7 18, .p 8 19, .p 9 20, .p 10 21, .p 11 22, .p 13 24, .p 14 25, .p 18 29, .p 20 31, .t 12 23, .p 15 26, .p 16 27, .t 17 28, .t 19 30, .p 21 32, .p 22 33, .t 23 34, .p 24 35, .p 25 36, .p 26 37] ?_
       repeat (first | (refine pu_ (v := ?_) (a' := ?_) HT_ rfl rfl (by kernel_rfl) (fun _ _ _ h => h) (by rfl) ?_ ?_ ?_; rotate_left 2; (intro w'; go_simp; with_reducible rfl); (simp only [Act.put, List.setIfInBounds_toArray, List.set_cons_zero, List.set_cons_succ, i64_w, i32_w]; rfl)) | (refine ta_ (v := ?_) (a' := ?_) HT_ HW_ rfl rfl (by kernel_rfl) (fun _ _ _ h => h) (by rfl) hHeld ?_ ?_ ?_; rotate_left 2; (rintro w' ⟨s0, s1, s2, s3, s4, s5, s6, s7⟩; go_simp; with_reducible rfl); (simp only [Act.put, List.setIfInBounds_toArray, List.set_cons_zero, List.set_cons_succ, i64_w, i32_w]; rfl)))
       refine ord0 ?_
       refine done_ (done_of HT_.out (by kernel_rfl)) ?_
       try go_wp2
       go_roundg k1
       case measure => have := HK1.out; omega
       case rel => exact ⟨(wrap64 (x3_1 + 1)), (by first | rfl | (simp; done) | (simp [*]; done)), H', ⟨by have := HK1.out; omega⟩, ⟨gx (BK101.out)⟩, ⟨bx HB.out⟩⟩
      ·rw [if_neg c11] at H
       have c11b0 : (Op.bytesLess (((rd_T100 l0_1 (ji8)).f0).toList) (((rd_T100 l0_1 x3_1).f0).toList)) = false := by simpa using c11
       clear c11
       obtain rfl := Option.some.inj H
       have hz15 := cells_2 BK101.out
       try go_wp2
       replace BK101 := Aside0.mk (blk_drew BK101.out)
       replace HB := Aside0.mk (below_drew1 HB.out)
       have p102 := of_decide_eq_true c4b0
       have q102 := of_decide_eq_true c3b0
       obtain ⟨ad102, e102, hx102_0, hx102_1⟩ := at_T100 HR0_1.out x3_1 p102 q102
       have hw102_1 := hx102_1
       have hw102_0 := hx102_0
       cases e102
       replace hx102_0 := px HB.out hx102_0
       replace hx102_1 := px HB.out hx102_1
       replace p102 := eq_true p102
       replace q102 := eq_true q102
       have p104 := of_decide_eq_true c9b0
       have q104 := of_decide_eq_true c10b0
       obtain ⟨ad104, e104, hx104_0, hx104_1⟩ := at_T100 HR0_1.out (ji8) p104 q104
       have hw104_1 := hx104_1
       have hw104_0 := hx104_0
       obtain rfl : ad102 = ad104 := (by injection e104)
       replace hx104_0 := px HB.out hx104_0
       replace hx104_1 := px HB.out hx104_1
       replace p104 := eq_true p104
       replace q104 := eq_true q104
       have p105 := of_decide_eq_true c4b0
       have q105 := of_decide_eq_true c3b0
       obtain ⟨ad105, e105, hx105_0, hx105_1⟩ := at_T100 HR0_1.out x3_1 p105 q105
       have hw105_1 := hx105_1
       have hw105_0 := hx105_0
       obtain rfl : ad102 = ad105 := (by injection e105)
       replace hx105_0 := px HB.out hx105_0
       replace hx105_1 := px HB.out hx105_1
       replace p105 := eq_true p105
       replace q105 := eq_true q105
       refine start_ (n := 27) (S := fun w' => w'.cell? ⟨gb101, 0, none⟩ = some (.slice A0_0 l0_0.length c0_0) ∧ w'.cell? ⟨gb101, 1, none⟩ = some (.slice (some ad102) l0_1.length c0_1) ∧ w'.cell? (ad102.add ((x3_1).toNat * 2)) = some (.string ((rd_T100 l0_1 x3_1).f0)) ∧ w'.cell? ⟨(ad102.add ((x3_1).toNat * 2)).block, (ad102.add ((x3_1).toNat * 2)).off + 1, none⟩ = some (.string ((rd_T100 l0_1 x3_1).f1)) ∧ w'.cell? (ad102.add (((ji8)).toNat * 2)) = some (.string ((rd_T100 l0_1 (ji8)).f0)) ∧ w'.cell? ⟨(ad102.add (((ji8)).toNat * 2)).block, (ad102.add (((ji8)).toNat * 2)).off + 1, none⟩ = some (.string ((rd_T100 l0_1 (ji8)).f1)) ∧ w'.cell? (ad102.add ((x3_1).toNat * 2)) = some (.string ((rd_T100 l0_1 x3_1).f0)) ∧ w'.cell? ⟨(ad102.add ((x3_1).toNat * 2)).block, (ad102.add ((x3_1).toNat * 2)).off + 1, none⟩ = some (.string ((rd_T100 l0_1 x3_1).f1))) (ds := []) _ (by kernel_rfl) rfl rfl ⟨(blk_cell BK101.out 0).trans rfl, (blk_cell BK101.out 1).trans rfl, (px HB.out hw102_0), (px HB.out hw102_1), (px HB.out hw104_0), (px HB.out hw104_1), (px HB.out hw105_0), (px HB.out hw105_1)⟩ (fun hHeld => ?_); refine with_tabW spec_BookOk.tab4 spec_BookOk.bits4 (fun HT_ HW_ => ?_)
       generalize wr.drew = w16 at BK101 HB hx102_0 hx102_1 hx104_0 hx104_1 hx105_0 hx105_1 hHeld ⊢
       refine ord_ [.p 0 11, .p 2 13, .t 1 12, .p 3 14, .t 4 15] ?_
       repeat (first | (refine pu_ (v := ?_) (a' := ?_) HT_ rfl rfl (by kernel_rfl) (fun _ _ _ h => h) (by rfl) ?_ ?_ ?_; rotate_left 2; (intro w'; go_simp; with_reducible rfl); (simp only [Act.put, List.setIfInBounds_toArray, List.set_cons_zero, List.set_cons_succ, i64_w, i32_w]; rfl)) | (refine ta_ (v := ?_) (a' := ?_) HT_ HW_ rfl rfl (by kernel_rfl) (fun _ _ _ h => h) (by rfl) hHeld ?_ ?_ ?_; rotate_left 2; (rintro w' ⟨s0, s1, s2, s3, s4, s5, s6, s7⟩; go_simp; with_reducible rfl); (simp only [Act.put, List.setIfInBounds_toArray, List.set_cons_zero, List.set_cons_succ, i64_w, i32_w]; rfl)))
       refine ord0 ?_
       refine on_ (i := 5) (N := some 16) HT_ rfl rfl (by kernel_rfl) (by decide) (fun K hK => ?_)
       refine goM gf93 #[.agg #[.string ((rd_T100 l0_1 x3_1).f0), .string ((rd_T100 l0_1 x3_1).f1)]] (by rfl) rfl rfl rfl ?_
       with_reducible refine (spec_l2Entry.calls k1 ((rd_T100 l0_1 x3_1).f0) ((rd_T100 l0_1 x3_1).f1) true _ A5.out).mono ?_
       rintro e w17 ⟨rfl, hb⟩
       refine ⟨_, rfl, ?_⟩
       replace BK101 := kb BK101 hb
       replace HB := kB HB hb
       (try clear hb)
       (try clear hb2)
       (try clear hk)
       (try clear hi)
       refine hK.out _ _ ⟨(blk_cell BK101.out 0).trans rfl, (blk_cell BK101.out 1).trans rfl, (pz HB.out hw102_0), (pz HB.out hw102_1), (pz HB.out hw104_0), (pz HB.out hw104_1), (pz HB.out hw105_0), (pz HB.out hw105_1)⟩ (fun hHeld => ?_)
       clear hK K
       refine norm_ (a' := ?_) ?_ ?_
       rotate_left
       ·show Act.put _ (some 16) _ = _
        simp only [Act.put, List.setIfInBounds_toArray, List.set_cons_zero, List.set_cons_succ, i64_w, i32_w]
        rfl
       refine ord_ [.p 6 17, .p 7 18, .p 8 19, .p 9 20, .p 10 21, .p 11 22, .p 13 24, .p 14 25, .p 18 29, .p 20 31, .t 12 23, .p 15 26, .p 16 27, .t 17 28, .t 19 30, .p 21 32, .p 22 33, .t 23 34, .p 24 35, .p 25 36, .p 26 37] ?_
       repeat (first | (refine pu_ (v := ?_) (a' := ?_) HT_ rfl rfl (by kernel_rfl) (fun _ _ _ h => h) (by rfl) ?_ ?_ ?_; rotate_left 2; (intro w'; go_simp; with_reducible rfl); (simp only [Act.put, List.setIfInBounds_toArray, List.set_cons_zero, List.set_cons_succ, i64_w, i32_w]; rfl)) | (refine ta_ (v := ?_) (a' := ?_) HT_ HW_ rfl rfl (by kernel_rfl) (fun _ _ _ h => h) (by rfl) hHeld ?_ ?_ ?_; rotate_left 2; (rintro w' ⟨s0, s1, s2, s3, s4, s5, s6, s7⟩; go_simp; with_reducible rfl); (simp only [Act.put, List.setIfInBounds_toArray, List.set_cons_zero, List.set_cons_succ, i64_w, i32_w]; rfl)))
       refine ord0 ?_
       refine done_ (done_of HT_.out (by kernel_rfl)) ?_
       try go_wp2
       go_ret
       exact ⟨by first | rfl | (simp [errW_none, errW_some] <;> rfl) | (simp only [← hji8]; first | rfl | (simp [errW_none, errW_some] <;> rfl)) | (simp [*, errW_none, errW_some] <;> rfl), bx HB.out⟩
     ·rw [if_neg c7] at H
      have c7b0 : decide (0 < x3_1) = false := decide_eq_false c7
      clear c7
      have H' := Aside0.mk H
      clear H
      have hz18 := cells_2 BK101.out
      try go_wp2
      replace BK101 := Aside0.mk (blk_drew BK101.out)
      replace HB := Aside0.mk (below_drew1 HB.out)
      have p102 := of_decide_eq_true c4b0
      have q102 := of_decide_eq_true c3b0
      obtain ⟨ad102, e102, hx102_0, hx102_1⟩ := at_T100 HR0_1.out x3_1 p102 q102
      have hw102_1 := hx102_1
      have hw102_0 := hx102_0
      cases e102
      replace hx102_0 := px HB.out hx102_0
      replace hx102_1 := px HB.out hx102_1
      replace p102 := eq_true p102
      replace q102 := eq_true q102
      refine start_ (n := 27) (S := fun w' => w'.cell? ⟨gb101, 0, none⟩ = some (.slice A0_0 l0_0.length c0_0) ∧ w'.cell? ⟨gb101, 1, none⟩ = some (.slice (some ad102) l0_1.length c0_1) ∧ w'.cell? (ad102.add ((x3_1).toNat * 2)) = some (.string ((rd_T100 l0_1 x3_1).f0)) ∧ w'.cell? ⟨(ad102.add ((x3_1).toNat * 2)).block, (ad102.add ((x3_1).toNat * 2)).off + 1, none⟩ = some (.string ((rd_T100 l0_1 x3_1).f1))) (ds := []) _ (by kernel_rfl) rfl rfl ⟨(blk_cell BK101.out 0).trans rfl, (blk_cell BK101.out 1).trans rfl, (px HB.out hw102_0), (px HB.out hw102_1)⟩ (fun hHeld => ?_); refine with_tabW spec_BookOk.tab4 spec_BookOk.bits4 (fun HT_ HW_ => ?_)
      generalize wr.drew = w19 at BK101 HB hx102_0 hx102_1 hHeld ⊢
      refine ord_ [.p 0 11, .p 2 13, .t 1 12, .p 3 14, .t 4 15] ?_
      repeat (first | (refine pu_ (v := ?_) (a' := ?_) HT_ rfl rfl (by kernel_rfl) (fun _ _ _ h => h) (by rfl) ?_ ?_ ?_; rotate_left 2; (intro w'; go_simp; with_reducible rfl); (simp only [Act.put, List.setIfInBounds_toArray, List.set_cons_zero, List.set_cons_succ, i64_w, i32_w]; rfl)) | (refine ta_ (v := ?_) (a' := ?_) HT_ HW_ rfl rfl (by kernel_rfl) (fun _ _ _ h => h) (by rfl) hHeld ?_ ?_ ?_; rotate_left 2; (rintro w' ⟨s0, s1, s2, s3⟩; go_simp; with_reducible rfl); (simp only [Act.put, List.setIfInBounds_toArray, List.set_cons_zero, List.set_cons_succ, i64_w, i32_w]; rfl)))
      refine ord0 ?_
      refine on_ (i := 5) (N := some 16) HT_ rfl rfl (by kernel_rfl) (by decide) (fun K hK => ?_)
      refine goM gf93 #[.agg #[.string ((rd_T100 l0_1 x3_1).f0), .string ((rd_T100 l0_1 x3_1).f1)]] (by rfl) rfl rfl rfl ?_
      with_reducible refine (spec_l2Entry.calls k1 ((rd_T100 l0_1 x3_1).f0) ((rd_T100 l0_1 x3_1).f1) true _ A5.out).mono ?_
      rintro e w20 ⟨rfl, hb⟩
      refine ⟨_, rfl, ?_⟩
      replace BK101 := kb BK101 hb
      replace HB := kB HB hb
      (try clear hb)
      (try clear hb2)
      (try clear hk)
      (try clear hi)
      refine hK.out _ _ ⟨(blk_cell BK101.out 0).trans rfl, (blk_cell BK101.out 1).trans rfl, (pz HB.out hw102_0), (pz HB.out hw102_1)⟩ (fun hHeld => ?_)
      clear hK K
      refine norm_ (a' := ?_) ?_ ?_
      rotate_left
      ·show Act.put _ (some 16) _ = _
       simp only [Act.put, List.setIfInBounds_toArray, List.set_cons_zero, List.set_cons_succ, i64_w, i32_w]
       rfl
      refine ord_ [.p 6 17, .p 7 18, .p 8 19, .p 9 20, .p 10 21, .u 11 22, .u 12 23, .u 13 24, .u 14 25, .u 15 26, .u 16 27, .u 17 28, .u 18 29, .u 19 30, .u 20 31, .u 21 32, .u 22 33, .u 23 34, .u 24 35, .p 25 36, .p 26 37] ?_
      repeat (first | (refine pu_ (v := ?_) (a' := ?_) HT_ rfl rfl (by kernel_rfl) (fun _ _ _ h => h) (by rfl) ?_ ?_ ?_; rotate_left 2; (intro w'; go_simp; with_reducible rfl); (simp only [Act.put, List.setIfInBounds_toArray, List.set_cons_zero, List.set_cons_succ, i64_w, i32_w]; rfl)) | (refine un_ (a' := ?_) HT_ rfl rfl (by kernel_rfl) (fun _ _ _ h => h) (by rfl) ?_ ?_; rotate_left; (simp only [Act.put, List.setIfInBounds_toArray, List.set_cons_zero, List.set_cons_succ, i64_w, i32_w]; rfl)))
      refine ord0 ?_
      refine done_ (done_of HT_.out (by kernel_rfl)) ?_
      try go_wp2
      go_roundg k1
      case measure => have := HK1.out; omega
      case rel => exact ⟨(wrap64 (x3_1 + 1)), (by first | rfl | (simp; done) | (simp [*]; done)), H', ⟨by have := HK1.out; omega⟩, ⟨gx (BK101.out)⟩, ⟨bx HB.out⟩⟩
    ·replace c6 := Bool.eq_false_iff.mpr c6
     subst c6
     rw [if_neg Bool.false_ne_true] at H
     obtain rfl := Option.some.inj H
     have hz21 := cells_2 BK101.out
     try go_wp2
     replace BK101 := Aside0.mk (blk_drew BK101.out)
     replace HB := Aside0.mk (below_drew1 HB.out)
     have p102 := of_decide_eq_true c4b0
     have q102 := of_decide_eq_true c3b0
     obtain ⟨ad102, e102, hx102_0, hx102_1⟩ := at_T100 HR0_1.out x3_1 p102 q102
     have hw102_1 := hx102_1
     have hw102_0 := hx102_0
     cases e102
     replace hx102_0 := px HB.out hx102_0
     replace hx102_1 := px HB.out hx102_1
     replace p102 := eq_true p102
     replace q102 := eq_true q102
     refine start_ (n := 27) (S := fun w' => w'.cell? ⟨gb101, 0, none⟩ = some (.slice A0_0 l0_0.length c0_0) ∧ w'.cell? ⟨gb101, 1, none⟩ = some (.slice (some ad102) l0_1.length c0_1) ∧ w'.cell? (ad102.add ((x3_1).toNat * 2)) = some (.string ((rd_T100 l0_1 x3_1).f0)) ∧ w'.cell? ⟨(ad102.add ((x3_1).toNat * 2)).block, (ad102.add ((x3_1).toNat * 2)).off + 1, none⟩ = some (.string ((rd_T100 l0_1 x3_1).f1))) (ds := []) _ (by kernel_rfl) rfl rfl ⟨(blk_cell BK101.out 0).trans rfl, (blk_cell BK101.out 1).trans rfl, (px HB.out hw102_0), (px HB.out hw102_1)⟩ (fun hHeld => ?_); refine with_tabW spec_BookOk.tab4 spec_BookOk.bits4 (fun HT_ HW_ => ?_)
     generalize wr.drew = w22 at BK101 HB hx102_0 hx102_1 hHeld ⊢
     refine ord_ [.p 0 11, .p 2 13, .t 1 12, .p 3 14, .t 4 15] ?_
     repeat (first | (refine pu_ (v := ?_) (a' := ?_) HT_ rfl rfl (by kernel_rfl) (fun _ _ _ h => h) (by rfl) ?_ ?_ ?_; rotate_left 2; (intro w'; go_simp; with_reducible rfl); (simp only [Act.put, List.setIfInBounds_toArray, List.set_cons_zero, List.set_cons_succ, i64_w, i32_w]; rfl)) | (refine ta_ (v := ?_) (a' := ?_) HT_ HW_ rfl rfl (by kernel_rfl) (fun _ _ _ h => h) (by rfl) hHeld ?_ ?_ ?_; rotate_left 2; (rintro w' ⟨s0, s1, s2, s3⟩; go_simp; with_reducible rfl); (simp only [Act.put, List.setIfInBounds_toArray, List.set_cons_zero, List.set_cons_succ, i64_w, i32_w]; rfl)))
     refine ord0 ?_
     refine on_ (i := 5) (N := some 16) HT_ rfl rfl (by kernel_rfl) (by decide) (fun K hK => ?_)
     refine goM gf93 #[.agg #[.string ((rd_T100 l0_1 x3_1).f0), .string ((rd_T100 l0_1 x3_1).f1)]] (by rfl) rfl rfl rfl ?_
     with_reducible refine (spec_l2Entry.calls k1 ((rd_T100 l0_1 x3_1).f0) ((rd_T100 l0_1 x3_1).f1) false _ A5.out).mono ?_
     rintro e w23 ⟨rfl, hb⟩
     refine ⟨_, rfl, ?_⟩
     replace BK101 := kb BK101 hb
     replace HB := kB HB hb
     (try clear hb)
     (try clear hb2)
     (try clear hk)
     (try clear hi)
     refine hK.out _ _ ⟨(blk_cell BK101.out 0).trans rfl, (blk_cell BK101.out 1).trans rfl, (pz HB.out hw102_0), (pz HB.out hw102_1)⟩ (fun hHeld => ?_)
     clear hK K
     refine norm_ (a' := ?_) ?_ ?_
     rotate_left
     ·show Act.put _ (some 16) _ = _
      simp only [Act.put, List.setIfInBounds_toArray, List.set_cons_zero, List.set_cons_succ, i64_w, i32_w]
      rfl
     refine ord_ [.p 6 17, .p 7 18, .u 8 19, .u 9 20, .u 10 21, .u 11 22, .u 12 23, .u 13 24, .u 14 25, .u 15 26, .u 16 27, .u 17 28, .u 18 29, .u 19 30, .u 20 31, .u 21 32, .u 22 33, .u 23 34, .u 24 35, .u 25 36, .p 26 37] ?_
     repeat (first | (refine pu_ (v := ?_) (a' := ?_) HT_ rfl rfl (by kernel_rfl) (fun _ _ _ h => h) (by rfl) ?_ ?_ ?_; rotate_left 2; (intro w'; go_simp; with_reducible rfl); (simp only [Act.put, List.setIfInBounds_toArray, List.set_cons_zero, List.set_cons_succ, i64_w, i32_w]; rfl)) | (refine un_ (a' := ?_) HT_ rfl rfl (by kernel_rfl) (fun _ _ _ h => h) (by rfl) ?_ ?_; rotate_left; (simp only [Act.put, List.setIfInBounds_toArray, List.set_cons_zero, List.set_cons_succ, i64_w, i32_w]; rfl)))
     refine ord0 ?_
     refine done_ (done_of HT_.out (by kernel_rfl)) ?_
     try go_wp2
     go_ret
     exact ⟨by rfl, bx HB.out⟩
   ·rw [if_neg c3] at H
    have c3b0 := decide_eq_false c3
    clear c3
    replace H := Option.bind_eq_some_iff.mp H
    obtain ⟨t106, A240, H⟩ := H
    have A24 := Aside0.mk A240
    clear A240
    by_cases c25 : t106 = true
    ·subst c25
     rw [if_pos rfl] at H
     obtain rfl := Option.some.inj H
     have hz26 := cells_2 BK101.out
     go_wp2_with (first | ((with_reducible refine gate_callee (f := 94) rfl ?_); refine goL (some 40) rfl rfl gf94 #[.slice A0_0 l0_0.length c0_0] rfl rfl ?_; (with_reducible refine (spec_l2Affixes.calls k1 _ _ l0_0 true _ (cx (Kd.C_below HR0_0.out HB.out)) HC0_0.out A24.out).mono ?_); rintro e w27 ⟨rfl, hb⟩; refine ⟨_, rfl, ?_⟩; replace BK101 := kb BK101 hb; replace HB := kB HB hb; (try clear hb); (try clear hb2); (try clear hk); (try clear hi); have hz28 := cells_2 BK101.out))
     go_ret
     exact ⟨by rfl, bx HB.out⟩
    ·replace c25 := Bool.eq_false_iff.mpr c25
     subst c25
     rw [if_neg Bool.false_ne_true] at H
     obtain rfl := Option.some.inj H
     have hz29 := cells_2 BK101.out
     go_wp2_with (first | ((with_reducible refine gate_callee (f := 94) rfl ?_); refine goL (some 40) rfl rfl gf94 #[.slice A0_0 l0_0.length c0_0] rfl rfl ?_; (with_reducible refine (spec_l2Affixes.calls k1 _ _ l0_0 false _ (cx (Kd.C_below HR0_0.out HB.out)) HC0_0.out A24.out).mono ?_); rintro e w30 ⟨rfl, hb⟩; refine ⟨_, rfl, ?_⟩; replace BK101 := kb BK101 hb; replace HB := kB HB hb; (try clear hb); (try clear hb2); (try clear hk); (try clear hi)))
     go_ret
     exact ⟨by rfl, bx HB.out⟩
theorem gf113 : Go_ Tryz.prog 113 Tryz.f113 := ⟨Tryz.func113, by kernel_rfl, rfl⟩
def spec_l5Entries.f (k : Nat) (l0 : List (S100)) : Option (Bool) := (spec_BookOk.f k ([] : List (S103)) l0).bind fun t101 => (some t101)
theorem spec_l5Entries.mono : ∀ a0 k, LeO (spec_l5Entries.f k a0) (spec_l5Entries.f (k + 1) a0) := by
 intro a0 k
 unfold spec_l5Entries.f
 have I0_ := fun a b c => LeC.mk (spec_BookOk.mono a b c)
 exact LeC.out
theorem spec_l5Entries.calls (k : Nat) (A0 : Option Addr) (c0 : Nat) (l0 : List (S100)) (r : Bool) (w : World) (hr0 : Kd.C k100 w A0 l0.length l0) (hc0 : l0.length ≤ c0) (h : spec_l5Entries.f k l0 = some r) :
  Calls Tryz.prog 113 #[.slice A0 l0.length c0] w fun e w' => e = .returned (.bool r) ∧ Below w.heap.size w w' := by
 have hu51 := Tryz.underlying51
 have HR0 := Aside0.mk hr0
 have HC0 := Aside0.mk hc0
 clear hr0 hc0
 have HB := Aside0.mk (Below.refl w.heap.size w)
 unfold spec_l5Entries.f at h
 have H := h
 clear h
 replace H := Option.bind_eq_some_iff.mp H
 obtain ⟨t101, A20, H⟩ := H
 have A2 := Aside0.mk A20
 clear A20
 obtain rfl := Option.some.inj H
 go_enter Tryz.func113, Tryz.ntmps113
 go_wp2_with (first | ((with_reducible refine gate_callee (f := 48) rfl ?_); refine goL (some 5) rfl rfl gf48 #[.agg #[.slice none 0 0, .slice A0 l0.length c0]] rfl rfl ?_; (refine (spec_BookOk.calls k _ _ ([] : List (S103)) _ _ l0 t101 _ ?side1 ?side2 ?side3 ?side4 A2.out).mono ?_); (case side1 => exact Kd.C_nil _ _); (case side2 => exact Nat.le_refl _); (case side3 => exact cx HR0.out); (case side4 => exact HC0.out); rintro e w3 ⟨rfl, hb⟩; refine ⟨_, rfl, ?_⟩; replace HB := kB HB hb; (try clear hb); (try clear hb2); (try clear hk); (try clear hi)))
 go_ret
 exact ⟨by rfl, bx HB.out⟩
end Go.Proofs.YtaakfmpffhfaeaaGreatDoor.M
end
