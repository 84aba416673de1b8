import Derived.Test.YtnjdoinlnbjedaaGreatDoorBExactReleaseOfx5
import Derived.StillTail
import Derived.Deep.Quiet
import Derived.Shelf.SlicesQ.IndexFunc
import Derived.Ground.SlgfProg
import Derived.Shelf.SlSortCmp.NoneTotal
import Derived.Ground.SlsfProg
import Derived.Test.YtnjdoinlnbjedaaGreatDoorProg
import Derived.Test.YtnjdoinlnbjedaaGreatDoorBExactReleaseOfx4
import Derived.Lib.SliceRun
import Derived.StillTailTactics
import Derived.Deep.DrawnRows
import Derived.KernelRfl

section
namespace Go.Proofs.YtnjdoinlnbjedaaGreatDoor.M
open Go.RowKit Go.Proofs.YtnjdoinlnbjedaaGreatDoorW.PrintWords Go.Proofs.YtnjdoinlnbjedaaGreatDoorW.PrintLast Go.Proofs.YtnjdoinlnbjedaaGreatDoorW.PrintMore Go.Proofs.YtnjdoinlnbjedaaGreatDoor.Sq
set_option synthInstance.maxHeartbeats 2000000
set_option synthInstance.maxSize 4096
attribute [local go_sem] max2_int min2_int max_two min_two max_three min_three max_four min_four
set_option linter.unusedVariables false
set_option linter.unusedSimpArgs false
attribute [local go_sem] unary_not_u32
set_option maxHeartbeats 8000000
set_option maxRecDepth 100000
theorem gf137 : Go_ Tryz.prog 137 Tryz.f137 := ⟨Tryz.func137, by kernel_rfl, rfl⟩
mutual
def spec_l6Block.l0 : Nat → List Int → List Int → List Int → List Int → Int → Option (List Int)
 | 0, _, _, _, _, _ => none
 | k + 1, x0, x5, x6, x7, x8 => if x8 < 64 then (if 4 < (x7.length : Int) then ((spec_l6Turn.f (rd x7 4) 6).bind fun t114 => ((spec_l6Turn.f (rd x7 4) 11).bind fun t116 => ((spec_l6Turn.f (rd x7 4) 25).bind fun t118 => (if 5 < (x7.length : Int) then (if 6 < (x7.length : Int) then (if 7 < (x7.length : Int) then (if 0 ≤ x8 then (if x8 < (x6.length : Int) then (if x8 < (x5.length : Int) then (if 0 < (x7.length : Int) then ((spec_l6Turn.f (rd x7 0) 2).bind fun t127 => ((spec_l6Turn.f (rd x7 0) 13).bind fun t129 => ((spec_l6Turn.f (rd x7 0) 22).bind fun t131 => (if 1 < (x7.length : Int) then (if 2 < (x7.length : Int) then (spec_l6Block.l1 k x0 x5 x6 x7 x8 (((((((((rd x7 7) + (Go.bits .xor .u32 (Go.bits .xor .u32 t114 t116) t118)) % 4294967296) + (Go.bits .xor .u32 (Go.bits .and .u32 (rd x7 4) (rd x7 5)) (Go.bits .and .u32 (Go.bits .xor .u32 4294967295 (rd x7 4)) (rd x7 6)))) % 4294967296) + (rd x6 x8)) % 4294967296) + (rd x5 x8)) % 4294967296) (Go.bits .xor .u32 (Go.bits .xor .u32 t127 t129) t131) (Go.bits .xor .u32 (Go.bits .xor .u32 (Go.bits .and .u32 (rd x7 0) (rd x7 1)) (Go.bits .and .u32 (rd x7 0) (rd x7 2))) (Go.bits .and .u32 (rd x7 1) (rd x7 2))) 7) else (none)) else (none))))) else (none)) else (none)) else (none)) else (none)) else (none)) else (none)) else (none))))) else (none)) else (spec_l6Block.l2 k x0 x7 (([] : List Int)) 0)
def spec_l6Block.l1 : Nat → List Int → List Int → List Int → List Int → Int → Int → Int → Int → Int → Option (List Int)
 | 0, _, _, _, _, _, _, _, _, _ => none
 | k + 1, x0, x5, x6, x7, x8, x11, x12, x13, x14 => if x14 > 0 then (if 0 ≤ (wrap64 (x14 - 1)) then (if (wrap64 (x14 - 1)) < (x7.length : Int) then (if 0 ≤ x14 then (if x14 < (x7.length : Int) then (spec_l6Block.l1 k x0 x5 x6 (x7.set (x14 : Int).toNat (rd x7 (wrap64 (x14 - 1)))) x8 x11 x12 x13 (wrap64 (x14 - 1))) else (none)) else (none)) else (none)) else (none)) else (if 4 < (x7.length : Int) then (if 0 < (x7.length : Int) then (spec_l6Block.l0 k x0 x5 x6 ((x7.set (4 : Int).toNat (((rd x7 4) + x11) % 4294967296)).set (0 : Int).toNat ((((x11 + x12) % 4294967296) + x13) % 4294967296)) (wrap64 (x8 + 1))) else (none)) else (none))
def spec_l6Block.l2 : Nat → List Int → List Int → List Int → Int → Option (List Int)
 | 0, _, _, _, _ => none
 | k + 1, x0, x7, x15, x16 => if x16 < 8 then (if 0 ≤ x16 then (if x16 < (x0.length : Int) then (if x16 < (x7.length : Int) then (if x15.length < 35184372088832 then (spec_l6Block.l2 k x0 x7 (x15 ++ [((rd x0 x16) + (rd x7 x16)) % 4294967296]) (wrap64 (x16 + 1))) else (none)) else (none)) else (none)) else (none)) else (some x15)
end
def spec_l6Block.f (k : Nat) (l0 : List Int) (l1 : List Int) : Option (List Int) := (spec_l6Words.f k l1).bind fun t101 => ((spec_l6Consts.f).bind fun t104 => ((some (([] : List Int) : List Int)).bind fun y107 => (if y107.length + l0.length < 35184372088832 then (spec_l6Block.l0 k l0 t101 t104 (y107 ++ l0) 0) else (none))))
theorem spec_l6Block.mono_l : ∀ k, (∀ y0 y1 y2 y3 y4, LeO (spec_l6Block.l0 k y0 y1 y2 y3 y4) (spec_l6Block.l0 (k + 1) y0 y1 y2 y3 y4)) ∧ (∀ y0 y1 y2 y3 y4 y5 y6 y7 y8, LeO (spec_l6Block.l1 k y0 y1 y2 y3 y4 y5 y6 y7 y8) (spec_l6Block.l1 (k + 1) y0 y1 y2 y3 y4 y5 y6 y7 y8)) ∧ (∀ y0 y1 y2 y3, LeO (spec_l6Block.l2 k y0 y1 y2 y3) (spec_l6Block.l2 (k + 1) y0 y1 y2 y3))
 | 0 => ⟨fun _ _ _ _ _ r h => by simp [spec_l6Block.l0] at h, fun _ _ _ _ _ _ _ _ _ r h => by simp [spec_l6Block.l1] at h, fun _ _ _ _ r h => by simp [spec_l6Block.l2] at h⟩
 | k + 1 => by
  obtain ⟨ih0, ih1, ih2⟩ := spec_l6Block.mono_l k
  refine ⟨?_, ?_, ?_⟩
  ·intro y0 y1 y2 y3 y4
   unfold spec_l6Block.l0
   have I0_ := fun a b c d e => LeC.mk (ih0 a b c d e)
   have I1_ := fun a b c d e f g h i => LeC.mk (ih1 a b c d e f g h i)
   have I2_ := fun a b c d => LeC.mk (ih2 a b c d)
   have I3_ := fun a b => LeC.mk (spec_l6Words.mono a b)
   exact LeC.out
  ·intro y0 y1 y2 y3 y4 y5 y6 y7 y8
   unfold spec_l6Block.l1
   have I0_ := fun a b c d e => LeC.mk (ih0 a b c d e)
   have I1_ := fun a b c d e f g h i => LeC.mk (ih1 a b c d e f g h i)
   have I2_ := fun a b c d => LeC.mk (ih2 a b c d)
   have I3_ := fun a b => LeC.mk (spec_l6Words.mono a b)
   exact LeC.out
  ·intro y0 y1 y2 y3
   unfold spec_l6Block.l2
   have I0_ := fun a b c d e => LeC.mk (ih0 a b c d e)
   have I1_ := fun a b c d e f g h i => LeC.mk (ih1 a b c d e f g h i)
   have I2_ := fun a b c d => LeC.mk (ih2 a b c d)
   have I3_ := fun a b => LeC.mk (spec_l6Words.mono a b)
   exact LeC.out
theorem spec_l6Block.mono : ∀ a0 a1 k, LeO (spec_l6Block.f k a0 a1) (spec_l6Block.f (k + 1) a0 a1) := by
 intro a0 a1 k
 obtain ⟨ih0, ih1, ih2⟩ := spec_l6Block.mono_l k
 unfold spec_l6Block.f
 have I0_ := fun a b c d e => LeC.mk (ih0 a b c d e)
 have I1_ := fun a b c d e f g h i => LeC.mk (ih1 a b c d e f g h i)
 have I2_ := fun a b c d => LeC.mk (ih2 a b c d)
 have I3_ := fun a b => LeC.mk (spec_l6Words.mono a b)
 exact LeC.out
def spec_l6Block.T7 : Bool × List (List Nat × List Nat) := (true, [([], []), ([0], [0]), ([1], [1]), ([2], [2]), ([], []), ([4], [4]), ([5], [5]), ([6, 3], [6]), ([3, 7], [3, 7]), ([], []), ([9], [9]), ([10], [10]), ([11, 7], [11]), ([8, 12], [8, 12]), ([13, 12, 0, 1, 2, 3, 4, 5, 6, 7, 8, 9, 10, 11, 12, 13], [13])])
def spec_l6Block.B7 : List Nat := [0, 1, 3, 7, 0, 16, 48, 127, 255, 0, 512, 1536, 3839, 8191, 16383]
theorem spec_l6Block.tab7 : rtab .any (opsOf Tryz.f137 7) = spec_l6Block.T7 := by kernel_rfl
theorem spec_l6Block.bits7 : waitsOk spec_l6Block.T7.2 spec_l6Block.B7 = true := by kernel_rfl
def spec_l6Block.T8 : Bool × List (List Nat × List Nat) := (true, [([], []), ([0], [0]), ([1], [1]), ([], []), ([3], [3]), ([4], [4]), ([2, 5], [2, 5]), ([], []), ([7], [7]), ([8], [8]), ([9], [9]), ([], []), ([11], [11]), ([12], [12]), ([10, 13], [10, 13]), ([6, 14], [6, 14]), ([15, 0, 1, 2, 3, 4, 5, 6, 7, 8, 9, 10, 11, 12, 13, 14, 15], [15])])
def spec_l6Block.B8 : List Nat := [0, 1, 3, 0, 8, 24, 63, 0, 128, 384, 896, 0, 2048, 6144, 16256, 32767, 65535]
theorem spec_l6Block.tab8 : rtab .any (opsOf Tryz.f137 8) = spec_l6Block.T8 := by kernel_rfl
theorem spec_l6Block.bits8 : waitsOk spec_l6Block.T8.2 spec_l6Block.B8 = true := by kernel_rfl
def spec_l6Block.T9 : Bool × List (List Nat × List Nat) := (true, [([], []), ([0], [0]), ([1], [1]), ([], []), ([2, 3], [2, 3]), ([], []), ([4, 5], [4, 5]), ([], []), ([], []), ([7, 8], [7, 8]), ([9], [9]), ([6, 10], [6, 10]), ([], []), ([], []), ([12, 13], [12, 13]), ([14], [14]), ([11, 15], [11, 15]), ([16, 0, 1, 2, 3, 4, 5, 6, 7, 8, 9, 10, 11, 12, 13, 14, 15, 16], [16])])
def spec_l6Block.B9 : List Nat := [0, 1, 3, 0, 15, 0, 63, 0, 0, 384, 896, 2047, 0, 0, 12288, 28672, 65535, 131071]
theorem spec_l6Block.tab9 : rtab .any (opsOf Tryz.f137 9) = spec_l6Block.T9 := by kernel_rfl
theorem spec_l6Block.bits9 : waitsOk spec_l6Block.T9.2 spec_l6Block.B9 = true := by kernel_rfl
def spec_l6Block.T10 : Bool × List (List Nat × List Nat) := (true, [([], []), ([0], [0]), ([1], [1]), ([2], [2]), ([], []), ([4], [4]), ([5], [5]), ([6, 3], [6]), ([3, 7], [3, 7]), ([], []), ([9], [9]), ([10], [10]), ([11, 7], [11]), ([8, 12], [8, 12]), ([13, 12, 0, 1, 2, 3, 4, 5, 6, 7, 8, 9, 10, 11, 12, 13], [13])])
def spec_l6Block.B10 : List Nat := [0, 1, 3, 7, 0, 16, 48, 127, 255, 0, 512, 1536, 3839, 8191, 16383]
theorem spec_l6Block.tab10 : rtab .any (opsOf Tryz.f137 10) = spec_l6Block.T10 := by kernel_rfl
theorem spec_l6Block.bits10 : waitsOk spec_l6Block.T10.2 spec_l6Block.B10 = true := by kernel_rfl
def spec_l6Block.T11 : Bool × List (List Nat × List Nat) := (true, [([], []), ([0], [0]), ([1], [1]), ([], []), ([3], [3]), ([4], [4]), ([2, 5], [2, 5]), ([], []), ([7], [7]), ([8], [8]), ([], []), ([10], [10]), ([11], [11]), ([9, 12], [9, 12]), ([6, 13], [6, 13]), ([], []), ([15], [15]), ([16], [16]), ([], []), ([18], [18]), ([19], [19]), ([17, 20], [17, 20]), ([14, 21], [14, 21]), ([22, 0, 1, 2, 3, 4, 5, 6, 7, 8, 9, 10, 11, 12, 13, 14, 15, 16, 17, 18, 19, 20, 21, 22], [22])])
def spec_l6Block.B11 : List Nat := [0, 1, 3, 0, 8, 24, 63, 0, 128, 384, 0, 1024, 3072, 8064, 16383, 0, 32768, 98304, 0, 262144, 786432, 2064384, 4194303, 8388607]
theorem spec_l6Block.tab11 : rtab .any (opsOf Tryz.f137 11) = spec_l6Block.T11 := by kernel_rfl
theorem spec_l6Block.bits11 : waitsOk spec_l6Block.T11.2 spec_l6Block.B11 = true := by kernel_rfl
def spec_l6Block.T22 : Bool × List (List Nat × List Nat) := (true, [([], []), ([], []), ([], []), ([1, 2], [1, 2]), ([3], [3]), ([], []), ([], []), ([5, 6], [5, 6]), ([7], [7]), ([4, 8], [4, 8]), ([9], [9]), ([0, 10], [0, 10]), ([11, 11, 0, 1, 2, 3, 4, 5, 6, 7, 8, 9, 10, 11], [0, 11])])
def spec_l6Block.B22 : List Nat := [0, 0, 0, 6, 14, 0, 0, 96, 224, 510, 1022, 2047, 4095]
theorem spec_l6Block.tab22 : rtab .any (opsOf Tryz.f137 22) = spec_l6Block.T22 := by kernel_rfl
theorem spec_l6Block.bits22 : waitsOk spec_l6Block.T22.2 spec_l6Block.B22 = true := by kernel_rfl
theorem spec_l6Block.calls (k : Nat) (A0 : Option Addr) (c0 : Nat) (l0 : List Int) (A1 : Option Addr) (c1 : Nat) (l1 : List Int) (r : List Int) (w : World) (hr0 : Kd.C (Kd.int .u32) w A0 l0.length l0) (hc0 : l0.length ≤ c0) (hr1 : Kd.C (Kd.int .u8) w A1 l1.length l1) (hc1 : l1.length ≤ c1) (h : spec_l6Block.f k l0 l1 = some r) :
  Calls Tryz.prog 137 #[.slice A0 l0.length c0, .slice A1 l1.length c1] w fun e w' => ∃ v0_ : Value, e = .returned (v0_) ∧ Kd.R (Kd.int .u32) 135 w' w.heap.size (fun _ => True) v0_ r ∧ Below w.heap.size w w' := by
 have HR0 := Aside0.mk hr0
 have HC0 := Aside0.mk hc0
 clear hr0 hc0
 have HR1 := Aside0.mk hr1
 have HC1 := Aside0.mk hc1
 clear hr1 hc1
 have HB := Aside0.mk (Below.refl w.heap.size w)
 unfold spec_l6Block.f at h
 have H := h
 clear h
 replace H := Option.bind_eq_some_iff.mp H
 obtain ⟨t101, A30, H⟩ := H
 have A3 := Aside0.mk A30
 clear A30
 replace H := Option.bind_eq_some_iff.mp H
 obtain ⟨t104, A40, H⟩ := H
 have A4 := Aside0.mk A40
 clear A40
 obtain ⟨y107, hy107⟩ : ∃ y_ : List Int, y_ = (([] : List Int)) := ⟨_, rfl⟩
 first | replace H := bind_y hy107 H | rw [← hy107] at H
 have Ny107 := Aside0.mk hy107
 clear hy107
 have c5 := ite_y H
 replace H := ite_t H
 have LMc5 := Aside0.mk c5
 clear c5
 obtain ⟨y110, hy110⟩ : ∃ y_ : List Int, y_ = (y107 ++ l0) := ⟨_, rfl⟩
 first | replace H := bind_y hy110 H | rw [← hy110] at H
 have Ny110 := Aside0.mk hy110
 clear hy110
 have H' := Aside0.mk H
 clear H
 go_enter Tryz.func137, Tryz.ntmps137
 go_wp2_with (first | ((with_reducible refine gate_callee (f := 168) rfl ?_); refine goL (some 18) rfl rfl gf168 #[.slice A1 l1.length c1] rfl rfl ?_; (with_reducible refine (spec_l6Words.calls k _ _ l1 t101 _ (cx HR1.out) HC1.out A3.out).mono ?_); rintro e w6 ⟨v102, rfl, ho0, hb⟩; refine ⟨_, rfl, ?_⟩; have HO103 := Aside0.mk (Kd.R_lower ho0 (bz HB.out)); replace HB := kB HB hb; (try clear hb); (try clear hb2); (try clear hk); (try clear hi); (try clear ho0)) | ((with_reducible refine gate_callee (f := 169) rfl ?_); refine goL (some 19) rfl rfl gf169 #[] rfl rfl ?_; (with_reducible refine (spec_l6Consts.calls  t104 _ A4.out).mono ?_); rintro e w7 ⟨v105, rfl, ho0, hb⟩; refine ⟨_, rfl, ?_⟩; have HO106 := Aside0.mk (Kd.R_lower (Kd.R_new' ho0 (Kd.R_lt (rx HO103.out))) (bz HB.out)); replace HO103 := Aside0.mk (Kd.R_elder' (rx HO103.out) (Kd.R_base ho0) hb); replace HB := kB HB hb; (try clear hb); (try clear hb2); (try clear hk); (try clear hi); (try clear ho0)) | ((with_reducible refine gate_dst (N := 20) rfl ?_); refine Kd.R_lit (Kd.int .u32) _ 135 ?hg (N := 20) ?hd (xs := ([] : List Int)) (inner := []) (ok := fun _ => True) (okp := fun _ => True) ?hr ?hp (fun _ hk => hk) trivial (Below.refl _ _) (Nat.le_refl _) (by simp) ?_; (case hd => rfl); (case hg => rfl); (case hr => first | (go_simp; done) | (go_simp; rfl)); (case hp => exact (Reps.none _ _)); intro v108 w8 ho9 hb hg_ hnew_; clear hg_ hnew_; (first | rw [← Ny107.out] at ho9 | (simp only [Int.reduceToNat] at ho9; rw [← Ny107.out] at ho9)); have HO109 := Aside0.mk (Kd.R_lower (Kd.R_new' (Kd.R_new' ho9 (Kd.R_lt (rx HO103.out))) (Kd.R_lt (rx HO106.out))) (bz HB.out)); replace HO103 := Aside0.mk (Kd.R_elder' (rx HO103.out) (Kd.R_base ho9) hb); replace HO106 := Aside0.mk (Kd.R_elder' (rx HO106.out) (Kd.R_base ho9) hb); replace HB := kB HB hb; clear hb ho9) | ((with_reducible refine gate_builtin (b := .append) (xs := #[.tmp 20, .tmp 21]) rfl ?_); at_builtin; refine Kd.R_append_rows (Kd.int .u32) (w0 := w) w.heap.size rfl (.tmp 20) (.tmp 21) 144 135 (.int .u32 0) 4 rfl Tryz.underlying144 info135 rfl (by decide) (by omega) v108 y107 l0 _ _ _ (fun k_ => some k_ ≠ (v102 : Value).ownBlock ∧ some k_ ≠ (v105 : Value).ownBlock) (fun _ => False) rfl rfl ?aO ?aR (fun _ _ h => h) (fun _ h => h.elim) ?aF ?aB ?aS ?aL ?_; (case aR => exact cx (Kd.C_below HR0.out HB.out)); (case aB => exact (bx HB.out)); (case aF => exact (fun k_ hk => ⟨Kd.fresh' (Kd.R_lt (rx HO103.out)) k_ hk, Kd.fresh' (Kd.R_lt (rx HO106.out)) k_ hk⟩)); (case aO => exact (rx (Kd.R_mono HO109.out (fun _ hk => ⟨hk.1.2, hk.2⟩)))); (case aS => exact (bz HB.out)); (case aL => have := LMc5.out; omega); intro v111 w10 ho hb hg hat; rw [← Ny110.out] at ho; replace HO103 := Aside0.mk (Kd.R_after (ok := (fun k_ => some k_ ≠ (v105 : Value).ownBlock)) (rx (Kd.R_mono HO103.out (fun _ hk => ⟨hk.1.2, hk.2⟩))) hg hat); replace HO106 := Aside0.mk (Kd.R_after (ok := (fun k_ => some k_ ≠ (v102 : Value).ownBlock)) (rx (Kd.R_mono HO106.out (fun _ hk => ⟨hk.1.2, hk.2⟩))) hg hat); replace HB := Aside0.mk (hb); have HO112 := Aside0.mk (ho); clear HO109; clear ho hb hg hat))
 go_loopg [8] k (fun kq v8 w' => ∃ (x7_1 : List Int) (x8_1 : Int), v8 = .int .i64 x8_1 ∧ Aside0 (spec_l6Block.l0 kq l0 t101 t104 x7_1 x8_1 = some r) ∧ Aside0 (kq ≤ k) ∧ Aside0 (Kd.R (Kd.int .u32) 135 w' w.heap.size (fun k_ => some k_ ≠ (v105 : Value).ownBlock ∧ some k_ ≠ (v111 : Value).ownBlock) v102 t101) ∧ Aside0 (Kd.R (Kd.int .u32) 135 w' w.heap.size (fun k_ => some k_ ≠ (v102 : Value).ownBlock ∧ some k_ ≠ (v111 : Value).ownBlock) v105 t104) ∧ Aside0 (Kd.R (Kd.int .u32) 135 w' w.heap.size (fun k_ => some k_ ≠ (v102 : Value).ownBlock ∧ some k_ ≠ (v105 : Value).ownBlock) v111 x7_1) ∧ Aside0 (Below w.heap.size w w'))
 case atStart => exact ⟨(y110), (0), (by first | rfl | (simp; done) | (simp [*]; done)), H', ⟨Nat.le_refl _⟩, ⟨rx HO103.out⟩, ⟨rx HO106.out⟩, ⟨rx HO112.out⟩, ⟨bx HB.out⟩⟩
 case round =>
  clear H'
  try clear c1
  try clear p2
  try clear c5
  obtain ⟨x7_1, x8_1, rfl, HA, HK1, HO_5, HO_6, HO_7, HB⟩ := hrel
  cases gk with
  | zero => exact absurd HA.out (by simp [spec_l6Block.l0])
  | succ k1 =>
   have H := HA.out
   clear HA
   simp only [spec_l6Block.l0] at H
   by_cases c11 : x8_1 < 64
   ·rw [if_pos c11] at H
    have c11b0 := decide_eq_true c11
    clear c11
    have c12 := ite_y H
    replace H := ite_t H
    have c12b0 := decide_eq_true c12
    have c12b1 : decide (4 < x7_1.length) = true := decide_eq_true (by omega)
    clear c12
    replace H := Option.bind_eq_some_iff.mp H
    obtain ⟨t114, A130, H⟩ := H
    have A13 := Aside0.mk A130
    clear A130
    replace H := Option.bind_eq_some_iff.mp H
    obtain ⟨t116, A140, H⟩ := H
    have A14 := Aside0.mk A140
    clear A140
    replace H := Option.bind_eq_some_iff.mp H
    obtain ⟨t118, A150, H⟩ := H
    have A15 := Aside0.mk A150
    clear A150
    have c16 := ite_y H
    replace H := ite_t H
    have c16b0 := decide_eq_true c16
    have c16b1 : decide (5 < x7_1.length) = true := decide_eq_true (by omega)
    clear c16
    have c17 := ite_y H
    replace H := ite_t H
    have c17b0 := decide_eq_true c17
    have c17b1 : decide (6 < x7_1.length) = true := decide_eq_true (by omega)
    clear c17
    have c18 := ite_y H
    replace H := ite_t H
    have c18b0 := decide_eq_true c18
    have c18b1 : decide (7 < x7_1.length) = true := decide_eq_true (by omega)
    clear c18
    have c19 := ite_y H
    replace H := ite_t H
    have c19b0 := decide_eq_true c19
    clear c19
    have c20 := ite_y H
    replace H := ite_t H
    have c20b0 := decide_eq_true c20
    clear c20
    have c21 := ite_y H
    replace H := ite_t H
    have c21b0 := decide_eq_true c21
    clear c21
    have c22 := ite_y H
    replace H := ite_t H
    have c22b0 := decide_eq_true c22
    have c22b1 : decide (0 < x7_1.length) = true := decide_eq_true (by omega)
    clear c22
    replace H := Option.bind_eq_some_iff.mp H
    obtain ⟨t127, A230, H⟩ := H
    have A23 := Aside0.mk A230
    clear A230
    replace H := Option.bind_eq_some_iff.mp H
    obtain ⟨t129, A240, H⟩ := H
    have A24 := Aside0.mk A240
    clear A240
    replace H := Option.bind_eq_some_iff.mp H
    obtain ⟨t131, A250, H⟩ := H
    have A25 := Aside0.mk A250
    clear A250
    have c26 := ite_y H
    replace H := ite_t H
    have c26b0 := decide_eq_true c26
    have c26b1 : decide (1 < x7_1.length) = true := decide_eq_true (by omega)
    clear c26
    have c27 := ite_y H
    replace H := ite_t H
    have c27b0 := decide_eq_true c27
    have c27b1 : decide (2 < x7_1.length) = true := decide_eq_true (by omega)
    clear c27
    have H' := Aside0.mk H
    clear H
    try go_wp2
    replace HO_5 := Aside0.mk (Kd.R_drew HO_5.out)
    replace HO_6 := Aside0.mk (Kd.R_drew HO_6.out)
    replace HO_7 := Aside0.mk (Kd.R_drew HO_7.out)
    replace HB := Aside0.mk (below_drew1 HB.out)
    obtain ⟨Ao29, co29, eo29⟩ := Kd.R_slice HO_7.out
    (first | subst eo29 | (injection eo29 with f1_ f2_ f3_; have f4_ := f1_.symm; have f5_ := f3_.symm; clear f1_ f2_ f3_; subst f4_; subst f5_))
    have p113 : 0 ≤ (4 : Int) := (by omega)
    have q113 := of_decide_eq_true c12b0
    obtain ⟨ad113, e113, hx113_0⟩ := Kd.at_int (Kd.R_reads' HO_7.out).2.2 4 p113 q113
    cases e113
    (try simp only [show (4 : Int).toNat = 4 from rfl, Nat.reduceMul, Nat.reduceEqDiff, Go.Addr.add, ↓reduceIte] at hx113_0)
    have qi113 : (4 < x7_1.length) = True := eq_true (by omega)
    (try rw [show ((4 : Int)).toNat = 4 from rfl] at hx113_0)
    replace p113 := eq_true p113
    replace q113 := eq_true q113
    have p115 : 0 ≤ (4 : Int) := (by omega)
    have q115 := of_decide_eq_true c12b0
    obtain ⟨ad115, e115, hx115_0⟩ := Kd.at_int (Kd.R_reads' HO_7.out).2.2 4 p115 q115
    obtain rfl : ad113 = ad115 := (by injection e115)
    (try simp only [show (4 : Int).toNat = 4 from rfl, Nat.reduceMul, Nat.reduceEqDiff, Go.Addr.add, ↓reduceIte] at hx115_0)
    have qi115 : (4 < x7_1.length) = True := eq_true (by omega)
    (try rw [show ((4 : Int)).toNat = 4 from rfl] at hx115_0)
    replace p115 := eq_true p115
    replace q115 := eq_true q115
    have p117 : 0 ≤ (4 : Int) := (by omega)
    have q117 := of_decide_eq_true c12b0
    obtain ⟨ad117, e117, hx117_0⟩ := Kd.at_int (Kd.R_reads' HO_7.out).2.2 4 p117 q117
    obtain rfl : ad113 = ad117 := (by injection e117)
    (try simp only [show (4 : Int).toNat = 4 from rfl, Nat.reduceMul, Nat.reduceEqDiff, Go.Addr.add, ↓reduceIte] at hx117_0)
    have qi117 : (4 < x7_1.length) = True := eq_true (by omega)
    (try rw [show ((4 : Int)).toNat = 4 from rfl] at hx117_0)
    replace p117 := eq_true p117
    replace q117 := eq_true q117
    refine start_ (n := 15) (S := fun w' => w'.cell? ⟨ad113.block, ad113.off + 4, none⟩ = some (.int .u32 (rd x7_1 4)) ∧ w'.cell? ⟨ad113.block, ad113.off + 4, none⟩ = some (.int .u32 (rd x7_1 4)) ∧ w'.cell? ⟨ad113.block, ad113.off + 4, none⟩ = some (.int .u32 (rd x7_1 4))) (ds := []) _ (by kernel_rfl) rfl rfl ⟨hx113_0, hx115_0, hx117_0⟩ (fun hHeld => ?_); refine with_tabW spec_l6Block.tab7 spec_l6Block.bits7 (fun HT_ HW_ => ?_)
    generalize wr.drew = w28 at HO_5 HO_6 HO_7 HB hx113_0 hx115_0 hx117_0 hHeld ⊢
    refine ord_ [.p 0 27, .p 1 28, .p 4 31, .p 5 32, .p 9 36, .p 10 37, .t 2 29, .t 6 33, .t 11 38] ?_
    repeat (first | (refine pu_ (v := ?_) (a' := ?_) HT_ rfl rfl (by kernel_rfl) (fun _ _ _ h => h) (by rfl) ?_ ?_ ?_; rotate_left 2; (intro w'; go_simp; with_reducible rfl); (simp only [pL, pN, s0_, s1_, i64_w, i32_w]; rfl)) | (refine ta_ (v := ?_) (a' := ?_) HT_ HW_ rfl rfl (by kernel_rfl) (fun _ _ _ h => h) (by rfl) hHeld ?_ ?_ ?_; rotate_left 2; (rintro w' ⟨s0, s1, s2⟩; go_simp; with_reducible rfl); (simp only [pL, pN, s0_, s1_, i64_w, i32_w]; rfl)))
    refine ord0 ?_
    refine on_ (i := 3) (N := some 30) HT_ rfl rfl (by kernel_rfl) (by decide) (fun K hK => ?_)
    refine goM gf170 #[.int .u32 (rd x7_1 4), .int .i64 6] (by rfl) rfl rfl rfl ?_
    with_reducible refine (spec_l6Turn.calls (rd x7_1 4) 6 t114 _ A13.out).mono ?_
    rintro e w' ⟨rfl, ⟨nd, rfl⟩⟩
    refine ⟨_, rfl, ?_⟩
    refine hK.out _ _ ⟨hHeld.1, hHeld.2.1, hHeld.2.2⟩ (fun hHeld => ?_)
    clear hK K
    refine norm_ (a' := ?_) ?_ ?_
    rotate_left
    ·show Act.put _ (some 30) _ = _
     simp only [pL, pN, s0_, s1_, i64_w, i32_w]
     rfl
    refine on_ (i := 7) (N := some 34) HT_ rfl rfl (by kernel_rfl) (by decide) (fun K hK => ?_)
    refine goM gf170 #[.int .u32 (rd x7_1 4), .int .i64 11] (by rfl) rfl rfl rfl ?_
    with_reducible refine (spec_l6Turn.calls (rd x7_1 4) 11 t116 _ A14.out).mono ?_
    rintro e w' ⟨rfl, ⟨nd, rfl⟩⟩
    refine ⟨_, rfl, ?_⟩
    refine hK.out _ _ ⟨hHeld.1, hHeld.2.1, hHeld.2.2⟩ (fun hHeld => ?_)
    clear hK K
    refine norm_ (a' := ?_) ?_ ?_
    rotate_left
    ·show Act.put _ (some 34) _ = _
     simp only [pL, pN, s0_, s1_, i64_w, i32_w]
     rfl
    refine ord_ [.p 8 35] ?_
    repeat (refine pu_ (v := ?_) (a' := ?_) HT_ rfl rfl (by kernel_rfl) (fun _ _ _ h => h) (by rfl) ?_ ?_ ?_; rotate_left 2; (intro w'; go_simp; with_reducible rfl); (simp only [pL, pN, s0_, s1_, i64_w, i32_w]; rfl))
    refine ord0 ?_
    refine on_ (i := 12) (N := some 39) HT_ rfl rfl (by kernel_rfl) (by decide) (fun K hK => ?_)
    refine goM gf170 #[.int .u32 (rd x7_1 4), .int .i64 25] (by rfl) rfl rfl rfl ?_
    with_reducible refine (spec_l6Turn.calls (rd x7_1 4) 25 t118 _ A15.out).mono ?_
    rintro e w' ⟨rfl, ⟨nd, rfl⟩⟩
    refine ⟨_, rfl, ?_⟩
    refine hK.out _ _ ⟨hHeld.1, hHeld.2.1, hHeld.2.2⟩ (fun hHeld => ?_)
    clear hK K
    refine norm_ (a' := ?_) ?_ ?_
    rotate_left
    ·show Act.put _ (some 39) _ = _
     simp only [pL, pN, s0_, s1_, i64_w, i32_w]
     rfl
    refine ord_ [.p 13 40, .p 14 9] ?_
    repeat (refine pu_ (v := ?_) (a' := ?_) HT_ rfl rfl (by kernel_rfl) (fun _ _ _ h => h) (by rfl) ?_ ?_ ?_; rotate_left 2; (intro w'; go_simp; with_reducible rfl); (simp only [pL, pN, s0_, s1_, i64_w, i32_w]; rfl))
    refine ord0 ?_
    refine done_ (done_of HT_.out (by kernel_rfl)) ?_
    try go_wp2
    (try (rw [drewN_self w28]; generalize hq_ : World.drewN w28 _ = w28; have n0_ : Aside0 (Kd.R (Kd.int .u32) 135 w28 w.heap.size (fun k_ => some k_ ≠ (v105 : Value).ownBlock ∧ some k_ ≠ (.slice (some ad113) x7_1.length co29 : Value).ownBlock) v102 t101) := ⟨by rw [← hq_]; exact (rx HO_5.out)⟩; have n1_ : Aside0 (Kd.R (Kd.int .u32) 135 w28 w.heap.size (fun k_ => some k_ ≠ (v102 : Value).ownBlock ∧ some k_ ≠ (.slice (some ad113) x7_1.length co29 : Value).ownBlock) v105 t104) := ⟨by rw [← hq_]; exact (rx HO_6.out)⟩; have n2_ : Aside0 (Kd.R (Kd.int .u32) 135 w28 w.heap.size (fun k_ => some k_ ≠ (v102 : Value).ownBlock ∧ some k_ ≠ (v105 : Value).ownBlock) (.slice (some ad113) x7_1.length co29) x7_1) := ⟨by rw [← hq_]; exact (rx HO_7.out)⟩; have n3_ : Aside0 (Below w.heap.size w w28) := ⟨by rw [← hq_]; exact (bx HB.out)⟩; clear HO_5 HO_6 HO_7 HB hq_; have HO_5 := n0_; have HO_6 := n1_; have HO_7 := n2_; have HB := n3_; clear n0_ n1_ n2_ n3_))
    replace HO_5 := Aside0.mk (Kd.R_drew HO_5.out)
    replace HO_6 := Aside0.mk (Kd.R_drew HO_6.out)
    replace HO_7 := Aside0.mk (Kd.R_drew HO_7.out)
    replace HB := Aside0.mk (below_drew1 HB.out)
    have p119 : 0 ≤ (4 : Int) := (by omega)
    have q119 := of_decide_eq_true c12b0
    obtain ⟨ad119, e119, hx119_0⟩ := Kd.at_int (Kd.R_reads' HO_7.out).2.2 4 p119 q119
    obtain rfl : ad113 = ad119 := (by injection e119)
    (try simp only [show (4 : Int).toNat = 4 from rfl, Nat.reduceMul, Nat.reduceEqDiff, Go.Addr.add, ↓reduceIte] at hx119_0)
    have qi119 : (4 < x7_1.length) = True := eq_true (by omega)
    (try rw [show ((4 : Int)).toNat = 4 from rfl] at hx119_0)
    replace p119 := eq_true p119
    replace q119 := eq_true q119
    have p120 : 0 ≤ (5 : Int) := (by omega)
    have q120 := of_decide_eq_true c16b0
    obtain ⟨ad120, e120, hx120_0⟩ := Kd.at_int (Kd.R_reads' HO_7.out).2.2 5 p120 q120
    obtain rfl : ad113 = ad120 := (by injection e120)
    (try simp only [show (5 : Int).toNat = 5 from rfl, Nat.reduceMul, Nat.reduceEqDiff, Go.Addr.add, ↓reduceIte] at hx120_0)
    have qi120 : (5 < x7_1.length) = True := eq_true (by omega)
    (try rw [show ((5 : Int)).toNat = 5 from rfl] at hx120_0)
    replace p120 := eq_true p120
    replace q120 := eq_true q120
    have p121 : 0 ≤ (4 : Int) := (by omega)
    have q121 := of_decide_eq_true c12b0
    obtain ⟨ad121, e121, hx121_0⟩ := Kd.at_int (Kd.R_reads' HO_7.out).2.2 4 p121 q121
    obtain rfl : ad113 = ad121 := (by injection e121)
    (try simp only [show (4 : Int).toNat = 4 from rfl, Nat.reduceMul, Nat.reduceEqDiff, Go.Addr.add, ↓reduceIte] at hx121_0)
    have qi121 : (4 < x7_1.length) = True := eq_true (by omega)
    (try rw [show ((4 : Int)).toNat = 4 from rfl] at hx121_0)
    replace p121 := eq_true p121
    replace q121 := eq_true q121
    have p122 : 0 ≤ (6 : Int) := (by omega)
    have q122 := of_decide_eq_true c17b0
    obtain ⟨ad122, e122, hx122_0⟩ := Kd.at_int (Kd.R_reads' HO_7.out).2.2 6 p122 q122
    obtain rfl : ad113 = ad122 := (by injection e122)
    (try simp only [show (6 : Int).toNat = 6 from rfl, Nat.reduceMul, Nat.reduceEqDiff, Go.Addr.add, ↓reduceIte] at hx122_0)
    have qi122 : (6 < x7_1.length) = True := eq_true (by omega)
    (try rw [show ((6 : Int)).toNat = 6 from rfl] at hx122_0)
    replace p122 := eq_true p122
    replace q122 := eq_true q122
    refine start_ (n := 17) (S := fun w' => w'.cell? ⟨ad113.block, ad113.off + 4, none⟩ = some (.int .u32 (rd x7_1 4)) ∧ w'.cell? ⟨ad113.block, ad113.off + 5, none⟩ = some (.int .u32 (rd x7_1 5)) ∧ w'.cell? ⟨ad113.block, ad113.off + 4, none⟩ = some (.int .u32 (rd x7_1 4)) ∧ w'.cell? ⟨ad113.block, ad113.off + 6, none⟩ = some (.int .u32 (rd x7_1 6))) (ds := []) _ (by kernel_rfl) rfl rfl ⟨hx119_0, hx120_0, hx121_0, hx122_0⟩ (fun hHeld => ?_); refine with_tabW spec_l6Block.tab8 spec_l6Block.bits8 (fun HT_ HW_ => ?_)
    generalize w28.drew = w30 at HO_5 HO_6 HO_7 HB hx119_0 hx120_0 hx121_0 hx122_0 hHeld ⊢
    refine ord_ [.p 0 41, .p 1 42, .p 3 44, .p 4 45, .p 7 48, .p 8 49, .p 11 52, .p 12 53, .t 2 43, .t 5 46, .p 6 47, .t 9 50, .p 10 51, .t 13 54, .p 14 55, .p 15 56, .p 16 10] ?_
    repeat (first | (refine pu_ (v := ?_) (a' := ?_) HT_ rfl rfl (by kernel_rfl) (fun _ _ _ h => h) (by rfl) ?_ ?_ ?_; rotate_left 2; (intro w'; go_simp; with_reducible rfl); (simp only [pL, pN, s0_, s1_, i64_w, i32_w]; rfl)) | (refine ta_ (v := ?_) (a' := ?_) HT_ HW_ rfl rfl (by kernel_rfl) (fun _ _ _ h => h) (by rfl) hHeld ?_ ?_ ?_; rotate_left 2; (rintro w' ⟨s0, s1, s2, s3⟩; go_simp; with_reducible rfl); (simp only [pL, pN, s0_, s1_, i64_w, i32_w]; rfl)))
    refine ord0 ?_
    refine done_ (done_of HT_.out (by kernel_rfl)) ?_
    try go_wp2
    replace HO_5 := Aside0.mk (Kd.R_drew HO_5.out)
    replace HO_6 := Aside0.mk (Kd.R_drew HO_6.out)
    replace HO_7 := Aside0.mk (Kd.R_drew HO_7.out)
    replace HB := Aside0.mk (below_drew1 HB.out)
    have p123 : 0 ≤ (7 : Int) := (by omega)
    have q123 := of_decide_eq_true c18b0
    obtain ⟨ad123, e123, hx123_0⟩ := Kd.at_int (Kd.R_reads' HO_7.out).2.2 7 p123 q123
    obtain rfl : ad113 = ad123 := (by injection e123)
    (try simp only [show (7 : Int).toNat = 7 from rfl, Nat.reduceMul, Nat.reduceEqDiff, Go.Addr.add, ↓reduceIte] at hx123_0)
    have qi123 : (7 < x7_1.length) = True := eq_true (by omega)
    (try rw [show ((7 : Int)).toNat = 7 from rfl] at hx123_0)
    replace p123 := eq_true p123
    replace q123 := eq_true q123
    obtain ⟨Ao32, co32, eo32⟩ := Kd.R_slice HO_6.out
    (first | subst eo32 | (injection eo32 with f1_ f2_ f3_; have f4_ := f1_.symm; have f5_ := f3_.symm; clear f1_ f2_ f3_; subst f4_; subst f5_))
    have p124 := of_decide_eq_true c19b0
    have q124 := of_decide_eq_true c20b0
    obtain ⟨ad124, e124, hx124_0⟩ := Kd.at_int (Kd.R_reads' HO_6.out).2.2 x8_1 p124 q124
    cases e124
    replace p124 := eq_true p124
    replace q124 := eq_true q124
    obtain ⟨Ao33, co33, eo33⟩ := Kd.R_slice HO_5.out
    (first | subst eo33 | (injection eo33 with f1_ f2_ f3_; have f4_ := f1_.symm; have f5_ := f3_.symm; clear f1_ f2_ f3_; subst f4_; subst f5_))
    have p125 := of_decide_eq_true c19b0
    have q125 := of_decide_eq_true c21b0
    obtain ⟨ad125, e125, hx125_0⟩ := Kd.at_int (Kd.R_reads' HO_5.out).2.2 x8_1 p125 q125
    cases e125
    replace p125 := eq_true p125
    replace q125 := eq_true q125
    refine start_ (n := 18) (S := fun w' => w'.cell? ⟨ad113.block, ad113.off + 7, none⟩ = some (.int .u32 (rd x7_1 7)) ∧ w'.cell? (ad124.add (x8_1).toNat) = some (.int .u32 (rd t104 x8_1)) ∧ w'.cell? (ad125.add (x8_1).toNat) = some (.int .u32 (rd t101 x8_1))) (ds := []) _ (by kernel_rfl) rfl rfl ⟨hx123_0, hx124_0, hx125_0⟩ (fun hHeld => ?_); refine with_tabW spec_l6Block.tab9 spec_l6Block.bits9 (fun HT_ HW_ => ?_)
    generalize w30.drew = w31 at HO_5 HO_6 HO_7 HB hx123_0 hx124_0 hx125_0 hHeld ⊢
    refine ord_ [.p 0 57, .p 1 58, .p 3 60, .p 5 62, .p 7 64, .p 8 65, .p 9 66, .p 12 69, .p 13 70, .p 14 71, .t 2 59, .p 4 61, .p 6 63, .t 10 67, .p 11 68, .t 15 72, .p 16 73, .p 17 11] ?_
    repeat (first | (refine pu_ (v := ?_) (a' := ?_) HT_ rfl rfl (by kernel_rfl) (fun _ _ _ h => h) (by rfl) ?_ ?_ ?_; rotate_left 2; (intro w'; go_simp; with_reducible rfl); (simp only [pL, pN, s0_, s1_, i64_w, i32_w]; rfl)) | (refine ta_ (v := ?_) (a' := ?_) HT_ HW_ rfl rfl (by kernel_rfl) (fun _ _ _ h => h) (by rfl) hHeld ?_ ?_ ?_; rotate_left 2; (rintro w' ⟨s0, s1, s2⟩; go_simp; with_reducible rfl); (simp only [pL, pN, s0_, s1_, i64_w, i32_w]; rfl)))
    refine ord0 ?_
    refine done_ (done_of HT_.out (by kernel_rfl)) ?_
    try go_wp2
    replace HO_5 := Aside0.mk (Kd.R_drew HO_5.out)
    replace HO_6 := Aside0.mk (Kd.R_drew HO_6.out)
    replace HO_7 := Aside0.mk (Kd.R_drew HO_7.out)
    replace HB := Aside0.mk (below_drew1 HB.out)
    have p126 : 0 ≤ (0 : Int) := (by omega)
    have q126 := of_decide_eq_true c22b0
    obtain ⟨ad126, e126, hx126_0⟩ := Kd.at_int (Kd.R_reads' HO_7.out).2.2 0 p126 q126
    obtain rfl : ad113 = ad126 := (by injection e126)
    have qi126 : (0 < x7_1.length) = True := eq_true (by omega)
    (try rw [show ((0 : Int)).toNat = 0 from rfl] at hx126_0)
    (try rw [Addr.add_zero'] at hx126_0)
    replace p126 := eq_true p126
    replace q126 := eq_true q126
    have p128 : 0 ≤ (0 : Int) := (by omega)
    have q128 := of_decide_eq_true c22b0
    obtain ⟨ad128, e128, hx128_0⟩ := Kd.at_int (Kd.R_reads' HO_7.out).2.2 0 p128 q128
    obtain rfl : ad113 = ad128 := (by injection e128)
    have qi128 : (0 < x7_1.length) = True := eq_true (by omega)
    (try rw [show ((0 : Int)).toNat = 0 from rfl] at hx128_0)
    (try rw [Addr.add_zero'] at hx128_0)
    replace p128 := eq_true p128
    replace q128 := eq_true q128
    have p130 : 0 ≤ (0 : Int) := (by omega)
    have q130 := of_decide_eq_true c22b0
    obtain ⟨ad130, e130, hx130_0⟩ := Kd.at_int (Kd.R_reads' HO_7.out).2.2 0 p130 q130
    obtain rfl : ad113 = ad130 := (by injection e130)
    have qi130 : (0 < x7_1.length) = True := eq_true (by omega)
    (try rw [show ((0 : Int)).toNat = 0 from rfl] at hx130_0)
    (try rw [Addr.add_zero'] at hx130_0)
    replace p130 := eq_true p130
    replace q130 := eq_true q130
    refine start_ (n := 15) (S := fun w' => w'.cell? ad113 = some (.int .u32 (rd x7_1 0)) ∧ w'.cell? ad113 = some (.int .u32 (rd x7_1 0)) ∧ w'.cell? ad113 = some (.int .u32 (rd x7_1 0))) (ds := []) _ (by kernel_rfl) rfl rfl ⟨hx126_0, hx128_0, hx130_0⟩ (fun hHeld => ?_); refine with_tabW spec_l6Block.tab10 spec_l6Block.bits10 (fun HT_ HW_ => ?_)
    generalize w31.drew = w34 at HO_5 HO_6 HO_7 HB hx126_0 hx128_0 hx130_0 hHeld ⊢
    refine ord_ [.p 0 74, .p 1 75, .p 4 78, .p 5 79, .p 9 83, .p 10 84, .t 2 76, .t 6 80, .t 11 85] ?_
    repeat (first | (refine pu_ (v := ?_) (a' := ?_) HT_ rfl rfl (by kernel_rfl) (fun _ _ _ h => h) (by rfl) ?_ ?_ ?_; rotate_left 2; (intro w'; go_simp; with_reducible rfl); (simp only [pL, pN, s0_, s1_, i64_w, i32_w]; rfl)) | (refine ta_ (v := ?_) (a' := ?_) HT_ HW_ rfl rfl (by kernel_rfl) (fun _ _ _ h => h) (by rfl) hHeld ?_ ?_ ?_; rotate_left 2; (rintro w' ⟨s0, s1, s2⟩; go_simp; with_reducible rfl); (simp only [pL, pN, s0_, s1_, i64_w, i32_w]; rfl)))
    refine ord0 ?_
    refine on_ (i := 3) (N := some 77) HT_ rfl rfl (by kernel_rfl) (by decide) (fun K hK => ?_)
    refine goM gf170 #[.int .u32 (rd x7_1 0), .int .i64 2] (by rfl) rfl rfl rfl ?_
    with_reducible refine (spec_l6Turn.calls (rd x7_1 0) 2 t127 _ A23.out).mono ?_
    rintro e w' ⟨rfl, ⟨nd, rfl⟩⟩
    refine ⟨_, rfl, ?_⟩
    refine hK.out _ _ ⟨hHeld.1, hHeld.2.1, hHeld.2.2⟩ (fun hHeld => ?_)
    clear hK K
    refine norm_ (a' := ?_) ?_ ?_
    rotate_left
    ·show Act.put _ (some 77) _ = _
     simp only [pL, pN, s0_, s1_, i64_w, i32_w]
     rfl
    refine on_ (i := 7) (N := some 81) HT_ rfl rfl (by kernel_rfl) (by decide) (fun K hK => ?_)
    refine goM gf170 #[.int .u32 (rd x7_1 0), .int .i64 13] (by rfl) rfl rfl rfl ?_
    with_reducible refine (spec_l6Turn.calls (rd x7_1 0) 13 t129 _ A24.out).mono ?_
    rintro e w' ⟨rfl, ⟨nd, rfl⟩⟩
    refine ⟨_, rfl, ?_⟩
    refine hK.out _ _ ⟨hHeld.1, hHeld.2.1, hHeld.2.2⟩ (fun hHeld => ?_)
    clear hK K
    refine norm_ (a' := ?_) ?_ ?_
    rotate_left
    ·show Act.put _ (some 81) _ = _
     simp only [pL, pN, s0_, s1_, i64_w, i32_w]
     rfl
    refine ord_ [.p 8 82] ?_
    repeat (refine pu_ (v := ?_) (a' := ?_) HT_ rfl rfl (by kernel_rfl) (fun _ _ _ h => h) (by rfl) ?_ ?_ ?_; rotate_left 2; (intro w'; go_simp; with_reducible rfl); (simp only [pL, pN, s0_, s1_, i64_w, i32_w]; rfl))
    refine ord0 ?_
    refine on_ (i := 12) (N := some 86) HT_ rfl rfl (by kernel_rfl) (by decide) (fun K hK => ?_)
    refine goM gf170 #[.int .u32 (rd x7_1 0), .int .i64 22] (by rfl) rfl rfl rfl ?_
    with_reducible refine (spec_l6Turn.calls (rd x7_1 0) 22 t131 _ A25.out).mono ?_
    rintro e w' ⟨rfl, ⟨nd, rfl⟩⟩
    refine ⟨_, rfl, ?_⟩
    refine hK.out _ _ ⟨hHeld.1, hHeld.2.1, hHeld.2.2⟩ (fun hHeld => ?_)
    clear hK K
    refine norm_ (a' := ?_) ?_ ?_
    rotate_left
    ·show Act.put _ (some 86) _ = _
     simp only [pL, pN, s0_, s1_, i64_w, i32_w]
     rfl
    refine ord_ [.p 13 87, .p 14 12] ?_
    repeat (refine pu_ (v := ?_) (a' := ?_) HT_ rfl rfl (by kernel_rfl) (fun _ _ _ h => h) (by rfl) ?_ ?_ ?_; rotate_left 2; (intro w'; go_simp; with_reducible rfl); (simp only [pL, pN, s0_, s1_, i64_w, i32_w]; rfl))
    refine ord0 ?_
    refine done_ (done_of HT_.out (by kernel_rfl)) ?_
    try go_wp2
    (try (rw [drewN_self w34]; generalize hq_ : World.drewN w34 _ = w34; have n0_ : Aside0 (Kd.R (Kd.int .u32) 135 w34 w.heap.size (fun k_ => some k_ ≠ (.slice (some ad124) t104.length co32 : Value).ownBlock ∧ some k_ ≠ (.slice (some ad113) x7_1.length co29 : Value).ownBlock) (.slice (some ad125) t101.length co33) t101) := ⟨by rw [← hq_]; exact (rx HO_5.out)⟩; have n1_ : Aside0 (Kd.R (Kd.int .u32) 135 w34 w.heap.size (fun k_ => some k_ ≠ (.slice (some ad125) t101.length co33 : Value).ownBlock ∧ some k_ ≠ (.slice (some ad113) x7_1.length co29 : Value).ownBlock) (.slice (some ad124) t104.length co32) t104) := ⟨by rw [← hq_]; exact (rx HO_6.out)⟩; have n2_ : Aside0 (Kd.R (Kd.int .u32) 135 w34 w.heap.size (fun k_ => some k_ ≠ (.slice (some ad125) t101.length co33 : Value).ownBlock ∧ some k_ ≠ (.slice (some ad124) t104.length co32 : Value).ownBlock) (.slice (some ad113) x7_1.length co29) x7_1) := ⟨by rw [← hq_]; exact (rx HO_7.out)⟩; have n3_ : Aside0 (Below w.heap.size w w34) := ⟨by rw [← hq_]; exact (bx HB.out)⟩; clear HO_5 HO_6 HO_7 HB hq_; have HO_5 := n0_; have HO_6 := n1_; have HO_7 := n2_; have HB := n3_; clear n0_ n1_ n2_ n3_))
    replace HO_5 := Aside0.mk (Kd.R_drew HO_5.out)
    replace HO_6 := Aside0.mk (Kd.R_drew HO_6.out)
    replace HO_7 := Aside0.mk (Kd.R_drew HO_7.out)
    replace HB := Aside0.mk (below_drew1 HB.out)
    have p132 : 0 ≤ (0 : Int) := (by omega)
    have q132 := of_decide_eq_true c22b0
    obtain ⟨ad132, e132, hx132_0⟩ := Kd.at_int (Kd.R_reads' HO_7.out).2.2 0 p132 q132
    obtain rfl : ad113 = ad132 := (by injection e132)
    have qi132 : (0 < x7_1.length) = True := eq_true (by omega)
    (try rw [show ((0 : Int)).toNat = 0 from rfl] at hx132_0)
    (try rw [Addr.add_zero'] at hx132_0)
    replace p132 := eq_true p132
    replace q132 := eq_true q132
    have p133 : 0 ≤ (1 : Int) := (by omega)
    have q133 := of_decide_eq_true c26b0
    obtain ⟨ad133, e133, hx133_0⟩ := Kd.at_int (Kd.R_reads' HO_7.out).2.2 1 p133 q133
    obtain rfl : ad113 = ad133 := (by injection e133)
    (try simp only [show (1 : Int).toNat = 1 from rfl, Nat.reduceMul, Nat.reduceEqDiff, Go.Addr.add, ↓reduceIte] at hx133_0)
    have qi133 : (1 < x7_1.length) = True := eq_true (by omega)
    (try rw [show ((1 : Int)).toNat = 1 from rfl] at hx133_0)
    replace p133 := eq_true p133
    replace q133 := eq_true q133
    have p134 : 0 ≤ (0 : Int) := (by omega)
    have q134 := of_decide_eq_true c22b0
    obtain ⟨ad134, e134, hx134_0⟩ := Kd.at_int (Kd.R_reads' HO_7.out).2.2 0 p134 q134
    obtain rfl : ad113 = ad134 := (by injection e134)
    have qi134 : (0 < x7_1.length) = True := eq_true (by omega)
    (try rw [show ((0 : Int)).toNat = 0 from rfl] at hx134_0)
    (try rw [Addr.add_zero'] at hx134_0)
    replace p134 := eq_true p134
    replace q134 := eq_true q134
    have p135 : 0 ≤ (2 : Int) := (by omega)
    have q135 := of_decide_eq_true c27b0
    obtain ⟨ad135, e135, hx135_0⟩ := Kd.at_int (Kd.R_reads' HO_7.out).2.2 2 p135 q135
    obtain rfl : ad113 = ad135 := (by injection e135)
    (try simp only [show (2 : Int).toNat = 2 from rfl, Nat.reduceMul, Nat.reduceEqDiff, Go.Addr.add, ↓reduceIte] at hx135_0)
    have qi135 : (2 < x7_1.length) = True := eq_true (by omega)
    (try rw [show ((2 : Int)).toNat = 2 from rfl] at hx135_0)
    replace p135 := eq_true p135
    replace q135 := eq_true q135
    have p136 : 0 ≤ (1 : Int) := (by omega)
    have q136 := of_decide_eq_true c26b0
    obtain ⟨ad136, e136, hx136_0⟩ := Kd.at_int (Kd.R_reads' HO_7.out).2.2 1 p136 q136
    obtain rfl : ad113 = ad136 := (by injection e136)
    (try simp only [show (1 : Int).toNat = 1 from rfl, Nat.reduceMul, Nat.reduceEqDiff, Go.Addr.add, ↓reduceIte] at hx136_0)
    have qi136 : (1 < x7_1.length) = True := eq_true (by omega)
    (try rw [show ((1 : Int)).toNat = 1 from rfl] at hx136_0)
    replace p136 := eq_true p136
    replace q136 := eq_true q136
    have p137 : 0 ≤ (2 : Int) := (by omega)
    have q137 := of_decide_eq_true c27b0
    obtain ⟨ad137, e137, hx137_0⟩ := Kd.at_int (Kd.R_reads' HO_7.out).2.2 2 p137 q137
    obtain rfl : ad113 = ad137 := (by injection e137)
    (try simp only [show (2 : Int).toNat = 2 from rfl, Nat.reduceMul, Nat.reduceEqDiff, Go.Addr.add, ↓reduceIte] at hx137_0)
    have qi137 : (2 < x7_1.length) = True := eq_true (by omega)
    (try rw [show ((2 : Int)).toNat = 2 from rfl] at hx137_0)
    replace p137 := eq_true p137
    replace q137 := eq_true q137
    refine start_ (n := 24) (S := fun w' => w'.cell? ad113 = some (.int .u32 (rd x7_1 0)) ∧ w'.cell? ⟨ad113.block, ad113.off + 1, none⟩ = some (.int .u32 (rd x7_1 1)) ∧ w'.cell? ad113 = some (.int .u32 (rd x7_1 0)) ∧ w'.cell? ⟨ad113.block, ad113.off + 2, none⟩ = some (.int .u32 (rd x7_1 2)) ∧ w'.cell? ⟨ad113.block, ad113.off + 1, none⟩ = some (.int .u32 (rd x7_1 1)) ∧ w'.cell? ⟨ad113.block, ad113.off + 2, none⟩ = some (.int .u32 (rd x7_1 2))) (ds := []) _ (by kernel_rfl) rfl rfl ⟨hx132_0, hx133_0, hx134_0, hx135_0, hx136_0, hx137_0⟩ (fun hHeld => ?_); refine with_tabW spec_l6Block.tab11 spec_l6Block.bits11 (fun HT_ HW_ => ?_)
    generalize w34.drew = w35 at HO_5 HO_6 HO_7 HB hx132_0 hx133_0 hx134_0 hx135_0 hx136_0 hx137_0 hHeld ⊢
    refine ord_ [.p 0 88, .p 1 89, .p 3 91, .p 4 92, .p 7 95, .p 8 96, .p 10 98, .p 11 99, .p 15 103, .p 16 104, .p 18 106, .p 19 107, .t 2 90, .t 5 93, .p 6 94, .t 9 97, .t 12 100, .p 13 101, .p 14 102, .t 17 105, .t 20 108, .p 21 109, .p 22 110, .p 23 13] ?_
    repeat (first | (refine pu_ (v := ?_) (a' := ?_) HT_ rfl rfl (by kernel_rfl) (fun _ _ _ h => h) (by rfl) ?_ ?_ ?_; rotate_left 2; (intro w'; go_simp; with_reducible rfl); (simp only [pL, pN, s0_, s1_, i64_w, i32_w]; rfl)) | (refine ta_ (v := ?_) (a' := ?_) HT_ HW_ rfl rfl (by kernel_rfl) (fun _ _ _ h => h) (by rfl) hHeld ?_ ?_ ?_; rotate_left 2; (rintro w' ⟨s0, s1, s2, s3, s4, s5⟩; go_simp; with_reducible rfl); (simp only [pL, pN, s0_, s1_, i64_w, i32_w]; rfl)))
    refine ord0 ?_
    refine done_ (done_of HT_.out (by kernel_rfl)) ?_
    try go_wp2
    go_loopg [14] k1 (fun kq v14 w' => ∃ (x7_2 : List Int) (x14_2 : Int), v14 = .int .i64 x14_2 ∧ Aside0 (spec_l6Block.l1 kq l0 t101 t104 x7_2 x8_1 (((((((((rd x7_1 7) + (Go.bits .xor .u32 (Go.bits .xor .u32 t114 t116) t118)) % 4294967296) + (Go.bits .xor .u32 (Go.bits .and .u32 (rd x7_1 4) (rd x7_1 5)) (Go.bits .and .u32 (Go.bits .xor .u32 4294967295 (rd x7_1 4)) (rd x7_1 6)))) % 4294967296) + (rd t104 x8_1)) % 4294967296) + (rd t101 x8_1)) % 4294967296) (Go.bits .xor .u32 (Go.bits .xor .u32 t127 t129) t131) (Go.bits .xor .u32 (Go.bits .xor .u32 (Go.bits .and .u32 (rd x7_1 0) (rd x7_1 1)) (Go.bits .and .u32 (rd x7_1 0) (rd x7_1 2))) (Go.bits .and .u32 (rd x7_1 1) (rd x7_1 2))) x14_2 = some r) ∧ Aside0 (kq ≤ k1) ∧ Aside0 (Kd.R (Kd.int .u32) 135 w' w.heap.size (fun k_ => some k_ ≠ ((.slice (some ad124) t104.length co32) : Value).ownBlock ∧ some k_ ≠ ((.slice (some ad113) x7_1.length co29) : Value).ownBlock) (.slice (some ad125) t101.length co33) t101) ∧ Aside0 (Kd.R (Kd.int .u32) 135 w' w.heap.size (fun k_ => some k_ ≠ ((.slice (some ad125) t101.length co33) : Value).ownBlock ∧ some k_ ≠ ((.slice (some ad113) x7_1.length co29) : Value).ownBlock) (.slice (some ad124) t104.length co32) t104) ∧ Aside0 (Kd.R (Kd.int .u32) 135 w' w.heap.size (fun k_ => some k_ ≠ ((.slice (some ad125) t101.length co33) : Value).ownBlock ∧ some k_ ≠ ((.slice (some ad124) t104.length co32) : Value).ownBlock) (.slice (some ad113) x7_1.length co29) x7_2) ∧ Aside0 (Below w.heap.size w w'))
    case atStart => exact ⟨(x7_1), (7), (by first | rfl | (simp; done) | (simp [*]; done)), H', ⟨Nat.le_refl _⟩, ⟨rx HO_5.out⟩, ⟨rx HO_6.out⟩, ⟨rx HO_7.out⟩, ⟨bx HB.out⟩⟩
    case round =>
     clear H'
     try clear c1
     try clear p1
     try clear q1
     try clear hx1
     try clear qi1
     try clear p2
     try clear p12
     try clear q12
     try clear hx12
     try clear qi12
     try clear p13
     try clear q13
     try clear hx13
     try clear qi13
     try clear c17
     try clear hx123_0
     try clear hx124_0
     try clear hx125_0
     try clear hx126_0
     try clear hx128_0
     try clear hx130_0
     try clear hx132_0
     try clear hx133_0
     try clear hx134_0
     try clear hx135_0
     try clear hx136_0
     try clear hx137_0
     try clear p125
     try clear p126
     try clear p128
     try clear p130
     try clear p132
     try clear p133
     try clear p134
     try clear p135
     try clear p136
     try clear p137
     try clear q125
     try clear q126
     try clear q128
     try clear q130
     try clear q132
     try clear q133
     try clear q134
     try clear q135
     try clear q136
     try clear q137
     obtain ⟨x7_2, x14_2, rfl, HA, HK2, HO_5, HO_6, HO_7, HB⟩ := hrel
     have hl7_2 := (Kd.R_reads' HO_7.out).1
     rw [hl7_2] at HO_7
     (try simp only [hl7_2])
     (try simp only [hl7_2] at HO_5)
     (try simp only [hl7_2] at HO_6)
     cases gk with
     | zero => exact absurd HA.out (by simp [spec_l6Block.l1])
     | succ k2 =>
      have H := HA.out
      clear HA
      simp only [spec_l6Block.l1] at H
      by_cases c36 : x14_2 > 0
      ·rw [if_pos c36] at H
       have c36b0 : decide (0 < x14_2) = true := decide_eq_true c36
       clear c36
       obtain ⟨ji37, hji37⟩ : ∃ j_ : Int, (wrap64 (x14_2 - 1)) = j_ := ⟨_, rfl⟩
       replace H : (if 0 ≤ (ji37) then (if (ji37) < (x7_2.length : Int) then (if 0 ≤ x14_2 then (if x14_2 < (x7_2.length : Int) then (spec_l6Block.l1 k2 l0 t101 t104 (x7_2.set (x14_2 : Int).toNat (rd x7_2 (ji37))) x8_1 (((((((((rd x7_1 7) + (Go.bits .xor .u32 (Go.bits .xor .u32 t114 t116) t118)) % 4294967296) + (Go.bits .xor .u32 (Go.bits .and .u32 (rd x7_1 4) (rd x7_1 5)) (Go.bits .and .u32 (Go.bits .xor .u32 4294967295 (rd x7_1 4)) (rd x7_1 6)))) % 4294967296) + (rd t104 x8_1)) % 4294967296) + (rd t101 x8_1)) % 4294967296) (Go.bits .xor .u32 (Go.bits .xor .u32 t127 t129) t131) (Go.bits .xor .u32 (Go.bits .xor .u32 (Go.bits .and .u32 (rd x7_1 0) (rd x7_1 1)) (Go.bits .and .u32 (rd x7_1 0) (rd x7_1 2))) (Go.bits .and .u32 (rd x7_1 1) (rd x7_1 2))) ji37) else (none)) else (none)) else (none)) else (none)) = some r := by first | (rw [hji37] at H; exact H) | (simp only [hji37] at H ⊢; exact H)
       have hji37w : (IntKind.i64.wrap (x14_2 - 1)) = ji37 := (i64_w _).trans hji37
       have c38 := ite_y H
       replace H := ite_t H
       have c38b0 := decide_eq_true c38
       clear c38
       have c39 := ite_y H
       replace H := ite_t H
       have c39b0 := decide_eq_true c39
       clear c39
       have c40 := ite_y H
       replace H := ite_t H
       have c40b0 := decide_eq_true c40
       clear c40
       have c41 := ite_y H
       replace H := ite_t H
       have c41b0 := decide_eq_true c41
       clear c41
       obtain ⟨y139, hy139⟩ : ∃ y_ : List Int, y_ = (x7_2.set (x14_2 : Int).toNat (rd x7_2 (ji37))) := ⟨_, rfl⟩
       first | replace H := bind_y hy139 H | rw [← hy139] at H
       have Ny139 := Aside0.mk hy139
       clear hy139
       have H' := Aside0.mk H
       clear H
       have p138 := of_decide_eq_true c38b0
       have q138 := of_decide_eq_true c39b0
       obtain ⟨ad138, e138, hx138_0⟩ := Kd.at_int (Kd.R_reads' HO_7.out).2.2 (ji37) p138 q138
       obtain rfl : ad113 = ad138 := (by injection e138)
       replace p138 := eq_true p138
       replace q138 := eq_true q138
       have p42 := of_decide_eq_true c40b0
       have q42 : (x14_2 : Int) < ((x7_2.length : Int) : Int) := of_decide_eq_true (by with_reducible assumption)
       obtain ⟨go42, co42, eo42, gb42, gl42, cl42, HG42⟩ := Kd.R_form HO_7.out (by omega)
       (first | cases eo42 | (injection eo42 with ea_ en_ ec_; (first | subst ea_ | (injection ea_ with ea_; subst ea_)); subst ec_; clear en_))
       have GB42 := Aside0.mk gb42
       have GG42 := Aside0.mk HG42
       clear gb42 gl42 HG42
       (first | simp only [add_plain] at hx113_0 | skip)
       (first | simp only [add_plain] at hx115_0 | skip)
       (first | simp only [add_plain] at hx117_0 | skip)
       (first | simp only [add_plain] at hx119_0 | skip)
       (first | simp only [add_plain] at hx120_0 | skip)
       (first | simp only [add_plain] at hx121_0 | skip)
       (first | simp only [add_plain] at hx122_0 | skip)
       (first | simp only [add_plain] at hx123_0 | skip)
       (first | simp only [add_plain] at hx126_0 | skip)
       (first | simp only [add_plain] at hx128_0 | skip)
       (first | simp only [add_plain] at hx130_0 | skip)
       (first | simp only [add_plain] at hx132_0 | skip)
       (first | simp only [add_plain] at hx133_0 | skip)
       (first | simp only [add_plain] at hx134_0 | skip)
       (first | simp only [add_plain] at hx135_0 | skip)
       (first | simp only [add_plain] at hx136_0 | skip)
       (first | simp only [add_plain] at hx137_0 | skip)
       (first | simp only [add_plain] at hx138_0 | skip)
       obtain ⟨hx42_0, hf42_0⟩ := Kd.R_celln 0 HO_7.out (x14_2 : Int) p42 q42
       replace p42 := eq_true p42
       replace q42 := eq_true q42
       obtain ⟨hy43_, hz43_⟩ := Kd.R_celln 0 HO_7.out (x14_2 : Int) (of_decide_eq_true (by with_reducible assumption)) (of_decide_eq_true (by with_reducible assumption))
       have HP43 := Kd.R_putg HO_7.out (x14_2 : Int) (rd x7_2 (ji37))
       go_wp2_with (first | ((with_reducible refine gate_store (t := 135) (p := 122) rfl ?_); refine store_event (t := 135) (p := 122) (v := ?vo_w44) (w1 := (wr.setCell ⟨go42, (x14_2 : Int).toNat, none⟩ (.int .u32 (rd x7_2 (ji37))))) ?hg ?ho ?hn ?hr ?_; (case ho => rfl); (case hg => rfl); (case hn => rfl); (case hr => first | (go_simp; done) | (go_simp; rfl)); intro w44 hw; have hg : wr.grownBy w44 (some go42) := (by rw [hw]; exact HP43.2); have hp_ : Kd.R (Kd.int .u32) 135 w44 w.heap.size (fun k_ => some k_ ≠ (.slice (some ad125) t101.length co33 : Value).ownBlock ∧ some k_ ≠ (.slice (some ad124) t104.length co32 : Value).ownBlock) (.slice (some ⟨go42, 0, none⟩) x7_2.length co29) y139 := (by rw [hw, Ny139.out]; exact HP43.1); clear HP43; replace HO_5 := Aside0.mk (Kd.R_after (v := (.slice (some ⟨go42, 0, none⟩) x7_2.length co29)) (v1 := (.slice (some ⟨go42, 0, none⟩) x7_2.length co29)) (ok := (fun k_ => some k_ ≠ (.slice (some ad124) t104.length co32 : Value).ownBlock)) (rx HO_5.out) hg (.inl rfl)); replace HO_6 := Aside0.mk (Kd.R_after (v := (.slice (some ⟨go42, 0, none⟩) x7_2.length co29)) (v1 := (.slice (some ⟨go42, 0, none⟩) x7_2.length co29)) (ok := (fun k_ => some k_ ≠ (.slice (some ad125) t101.length co33 : Value).ownBlock)) (rx HO_6.out) hg (.inl rfl)); replace HO_7 := Aside0.mk (hp_); replace HB := Aside0.mk ((by rw [hw]; exact below_set (HB.out) GB42.out : Below w.heap.size w w44)); clear hg hw hp_))
       (try simp only [← hl7_2])
       go_roundg k2
       case measure => have := HK1.out; have := HK2.out; omega
       case rel => exact ⟨(y139), (ji37), (by first | rfl | (simp; done) | (simp only [← hji37] <;> (first | rfl | simp)) | (simp [*]; done)), H', ⟨by have := HK1.out; have := HK2.out; omega⟩, ⟨by (try simp only [hl7_2]); (with_reducible repeat (first | apply Kd.R_alloc | apply Kd.R_drewN | apply Kd.R_drew)); exact HO_5.out⟩, ⟨by (try simp only [hl7_2]); (with_reducible repeat (first | apply Kd.R_alloc | apply Kd.R_drewN | apply Kd.R_drew)); exact HO_6.out⟩, ⟨by (try simp only [hl7_2]); (with_reducible repeat (first | apply Kd.R_alloc | apply Kd.R_drewN | apply Kd.R_drew)); exact HO_7.out⟩, ⟨bx HB.out⟩⟩
      ·rw [if_neg c36] at H
       have c36b0 : decide (0 < x14_2) = false := decide_eq_false c36
       clear c36
       have c45 := ite_y H
       replace H := ite_t H
       have c45b0 := decide_eq_true c45
       have c45b1 : decide (4 < x7_2.length) = true := decide_eq_true (by omega)
       clear c45
       obtain ⟨y141, hy141⟩ : ∃ y_ : List Int, y_ = (x7_2.set (4 : Int).toNat (((rd x7_2 4) + (((((((((rd x7_1 7) + (Go.bits .xor .u32 (Go.bits .xor .u32 t114 t116) t118)) % 4294967296) + (Go.bits .xor .u32 (Go.bits .and .u32 (rd x7_1 4) (rd x7_1 5)) (Go.bits .and .u32 (Go.bits .xor .u32 4294967295 (rd x7_1 4)) (rd x7_1 6)))) % 4294967296) + (rd t104 x8_1)) % 4294967296) + (rd t101 x8_1)) % 4294967296)) % 4294967296)) := ⟨_, rfl⟩
       first | replace H := bind_y hy141 H | rw [← hy141] at H
       have Ny141 := Aside0.mk hy141
       clear hy141
       have c47 := ite_y H
       replace H := ite_t H
       have c47b0 := decide_eq_true c47
       have c47b1 : decide (0 < x7_2.length) = true := decide_eq_true (by omega)
       clear c47
       obtain ⟨y142, hy142⟩ : ∃ y_ : List Int, y_ = (y141.set (0 : Int).toNat (((((((((((((rd x7_1 7) + (Go.bits .xor .u32 (Go.bits .xor .u32 t114 t116) t118)) % 4294967296) + (Go.bits .xor .u32 (Go.bits .and .u32 (rd x7_1 4) (rd x7_1 5)) (Go.bits .and .u32 (Go.bits .xor .u32 4294967295 (rd x7_1 4)) (rd x7_1 6)))) % 4294967296) + (rd t104 x8_1)) % 4294967296) + (rd t101 x8_1)) % 4294967296) + (Go.bits .xor .u32 (Go.bits .xor .u32 t127 t129) t131)) % 4294967296) + (Go.bits .xor .u32 (Go.bits .xor .u32 (Go.bits .and .u32 (rd x7_1 0) (rd x7_1 1)) (Go.bits .and .u32 (rd x7_1 0) (rd x7_1 2))) (Go.bits .and .u32 (rd x7_1 1) (rd x7_1 2)))) % 4294967296)) := ⟨_, rfl⟩
       first | replace H := bind_y hy142 H | rw [← hy142] at H
       have Ny142 := Aside0.mk hy142
       clear hy142
       have H' := Aside0.mk H
       clear H
       have p140 : 0 ≤ (4 : Int) := (by omega)
       have q140 := of_decide_eq_true c45b0
       obtain ⟨ad140, e140, hx140_0⟩ := Kd.at_int (Kd.R_reads' HO_7.out).2.2 4 p140 q140
       obtain rfl : ad113 = ad140 := (by injection e140)
       (try simp only [show (4 : Int).toNat = 4 from rfl, Nat.reduceMul, Nat.reduceEqDiff, Go.Addr.add, ↓reduceIte] at hx140_0)
       have qi140 : (4 < x7_2.length) = True := eq_true (by omega)
       (try rw [show ((4 : Int)).toNat = 4 from rfl] at hx140_0)
       replace p140 := eq_true p140
       replace q140 := eq_true q140
       have p46 : 0 ≤ (4 : Int) := (by omega)
       have q46 : (4 : Int) < ((x7_2.length : Int) : Int) := of_decide_eq_true (by with_reducible assumption)
       have qi46 : (4 < x7_2.length) = True := eq_true (by omega)
       obtain ⟨go46, co46, eo46, gb46, gl46, cl46, HG46⟩ := Kd.R_form HO_7.out (by omega)
       (first | cases eo46 | (injection eo46 with ea_ en_ ec_; (first | subst ea_ | (injection ea_ with ea_; subst ea_)); subst ec_; clear en_))
       have GB46 := Aside0.mk gb46
       have GG46 := Aside0.mk HG46
       clear gb46 gl46 HG46
       (first | simp only [add_plain] at hx140_0 | skip)
       obtain ⟨hx46_0, hf46_0⟩ := Kd.R_celln 0 HO_7.out (4 : Int) p46 q46
       (try rw [show ((4 : Int)).toNat = 4 from rfl] at hx46_0)
       (try simp only [Nat.reduceMul, Nat.zero_mul, Nat.zero_add, Nat.reduceAdd] at hx46_0)
       (try rw [show ((4 : Int)).toNat = 4 from rfl] at hf46_0)
       (try simp only [Nat.reduceMul, Nat.zero_mul, Nat.zero_add, Nat.reduceAdd] at hf46_0)
       replace p46 := eq_true p46
       replace q46 := eq_true q46
       obtain ⟨hy49_, hz49_⟩ := Kd.R_celln 0 HO_7.out (4 : Int) (by omega) (of_decide_eq_true (by with_reducible assumption))
       (try simp only [Int.reduceToNat, Int.toNat_zero, Int.toNat_ofNat, Nat.reduceMul, Nat.zero_mul, Nat.zero_add] at hy49_ hz49_)
       (try rw [show ((4 : Int)).toNat = 4 from rfl] at hy49_)
       (try rw [show ((4 : Int)).toNat = 4 from rfl] at hz49_)
       have HP49 := Kd.R_putg HO_7.out (4 : Int) (((rd x7_2 4) + (((((((((rd x7_1 7) + (Go.bits .xor .u32 (Go.bits .xor .u32 t114 t116) t118)) % 4294967296) + (Go.bits .xor .u32 (Go.bits .and .u32 (rd x7_1 4) (rd x7_1 5)) (Go.bits .and .u32 (Go.bits .xor .u32 4294967295 (rd x7_1 4)) (rd x7_1 6)))) % 4294967296) + (rd t104 x8_1)) % 4294967296) + (rd t101 x8_1)) % 4294967296)) % 4294967296)
       go_wp2_with (first | ((with_reducible refine gate_store (t := 135) (p := 129) rfl ?_); refine store_event (t := 135) (p := 129) (v := ?vo_w50) (w1 := (wr.setCell ⟨go46, (4 : Int).toNat, none⟩ (.int .u32 (((rd x7_2 4) + (((((((((rd x7_1 7) + (Go.bits .xor .u32 (Go.bits .xor .u32 t114 t116) t118)) % 4294967296) + (Go.bits .xor .u32 (Go.bits .and .u32 (rd x7_1 4) (rd x7_1 5)) (Go.bits .and .u32 (Go.bits .xor .u32 4294967295 (rd x7_1 4)) (rd x7_1 6)))) % 4294967296) + (rd t104 x8_1)) % 4294967296) + (rd t101 x8_1)) % 4294967296)) % 4294967296)))) ?hg ?ho ?hn ?hr ?_; (case ho => rfl); (case hg => rfl); (case hn => rfl); (case hr => first | (go_simp; done) | (go_simp; rfl)); intro w50 hw; have hg : wr.grownBy w50 (some go46) := (by rw [hw]; exact HP49.2); have hp_ : Kd.R (Kd.int .u32) 135 w50 w.heap.size (fun k_ => some k_ ≠ (.slice (some ad125) t101.length co33 : Value).ownBlock ∧ some k_ ≠ (.slice (some ad124) t104.length co32 : Value).ownBlock) (.slice (some ⟨go46, 0, none⟩) x7_2.length co29) y141 := (by rw [hw, Ny141.out]; exact HP49.1); clear HP49; replace HO_5 := Aside0.mk (Kd.R_after (v := (.slice (some ⟨go46, 0, none⟩) x7_2.length co29)) (v1 := (.slice (some ⟨go46, 0, none⟩) x7_2.length co29)) (ok := (fun k_ => some k_ ≠ (.slice (some ad124) t104.length co32 : Value).ownBlock)) (rx HO_5.out) hg (.inl rfl)); replace HO_6 := Aside0.mk (Kd.R_after (v := (.slice (some ⟨go46, 0, none⟩) x7_2.length co29)) (v1 := (.slice (some ⟨go46, 0, none⟩) x7_2.length co29)) (ok := (fun k_ => some k_ ≠ (.slice (some ad125) t101.length co33 : Value).ownBlock)) (rx HO_6.out) hg (.inl rfl)); replace HO_7 := Aside0.mk (hp_); replace HB := Aside0.mk ((by rw [hw]; exact below_set (HB.out) GB46.out : Below w.heap.size w w50)); clear hg hw hp_; have p48 : 0 ≤ (0 : Int) := (by omega); have q48 : (0 : Int) < ((x7_2.length : Int) : Int) := of_decide_eq_true (by with_reducible assumption); have qi48 : (0 < x7_2.length) = True := eq_true (by omega); obtain ⟨hx48_0, hf48_0⟩ := Kd.R_celln 0 HO_7.out (0 : Int) p48 q48; (try rw [show ((0 : Int)).toNat = 0 from rfl] at hx48_0); (try simp only [Nat.reduceMul, Nat.zero_mul, Nat.zero_add, Nat.reduceAdd] at hx48_0); (try rw [show ((0 : Int)).toNat = 0 from rfl] at hf48_0); (try simp only [Nat.reduceMul, Nat.zero_mul, Nat.zero_add, Nat.reduceAdd] at hf48_0); replace p48 := eq_true p48; replace q48 := eq_true q48; obtain ⟨hy51_, hz51_⟩ := Kd.R_celln 0 HO_7.out (0 : Int) (by omega) (of_decide_eq_true (by with_reducible assumption)); (try simp only [Int.reduceToNat, Int.toNat_zero, Int.toNat_ofNat, Nat.reduceMul, Nat.zero_mul, Nat.zero_add] at hy51_ hz51_); (try rw [show ((0 : Int)).toNat = 0 from rfl] at hy51_); (try rw [show ((0 : Int)).toNat = 0 from rfl] at hz51_); have HP51 := Kd.R_putg HO_7.out (0 : Int) (((((((((((((rd x7_1 7) + (Go.bits .xor .u32 (Go.bits .xor .u32 t114 t116) t118)) % 4294967296) + (Go.bits .xor .u32 (Go.bits .and .u32 (rd x7_1 4) (rd x7_1 5)) (Go.bits .and .u32 (Go.bits .xor .u32 4294967295 (rd x7_1 4)) (rd x7_1 6)))) % 4294967296) + (rd t104 x8_1)) % 4294967296) + (rd t101 x8_1)) % 4294967296) + (Go.bits .xor .u32 (Go.bits .xor .u32 t127 t129) t131)) % 4294967296) + (Go.bits .xor .u32 (Go.bits .xor .u32 (Go.bits .and .u32 (rd x7_1 0) (rd x7_1 1)) (Go.bits .and .u32 (rd x7_1 0) (rd x7_1 2))) (Go.bits .and .u32 (rd x7_1 1) (rd x7_1 2)))) % 4294967296)) | ((with_reducible refine gate_store (t := 135) (p := 136) rfl ?_); refine store_event (t := 135) (p := 136) (v := ?vo_w52) (w1 := (w50.setCell ⟨go46, (0 : Int).toNat, none⟩ (.int .u32 (((((((((((((rd x7_1 7) + (Go.bits .xor .u32 (Go.bits .xor .u32 t114 t116) t118)) % 4294967296) + (Go.bits .xor .u32 (Go.bits .and .u32 (rd x7_1 4) (rd x7_1 5)) (Go.bits .and .u32 (Go.bits .xor .u32 4294967295 (rd x7_1 4)) (rd x7_1 6)))) % 4294967296) + (rd t104 x8_1)) % 4294967296) + (rd t101 x8_1)) % 4294967296) + (Go.bits .xor .u32 (Go.bits .xor .u32 t127 t129) t131)) % 4294967296) + (Go.bits .xor .u32 (Go.bits .xor .u32 (Go.bits .and .u32 (rd x7_1 0) (rd x7_1 1)) (Go.bits .and .u32 (rd x7_1 0) (rd x7_1 2))) (Go.bits .and .u32 (rd x7_1 1) (rd x7_1 2)))) % 4294967296)))) ?hg ?ho ?hn ?hr ?_; (case ho => rfl); (case hg => rfl); (case hn => rfl); (case hr => first | (go_simp; done) | (go_simp; rfl)); intro w52 hw; have hg : w50.grownBy w52 (some go46) := (by rw [hw]; exact HP51.2); have hp_ : Kd.R (Kd.int .u32) 135 w52 w.heap.size (fun k_ => some k_ ≠ (.slice (some ad125) t101.length co33 : Value).ownBlock ∧ some k_ ≠ (.slice (some ad124) t104.length co32 : Value).ownBlock) (.slice (some ⟨go46, 0, none⟩) x7_2.length co29) y142 := (by rw [hw, Ny142.out]; exact HP51.1); clear HP51; replace HO_5 := Aside0.mk (Kd.R_after (v := (.slice (some ⟨go46, 0, none⟩) x7_2.length co29)) (v1 := (.slice (some ⟨go46, 0, none⟩) x7_2.length co29)) (ok := (fun k_ => some k_ ≠ (.slice (some ad124) t104.length co32 : Value).ownBlock)) (rx HO_5.out) hg (.inl rfl)); replace HO_6 := Aside0.mk (Kd.R_after (v := (.slice (some ⟨go46, 0, none⟩) x7_2.length co29)) (v1 := (.slice (some ⟨go46, 0, none⟩) x7_2.length co29)) (ok := (fun k_ => some k_ ≠ (.slice (some ad125) t101.length co33 : Value).ownBlock)) (rx HO_6.out) hg (.inl rfl)); replace HO_7 := Aside0.mk (hp_); replace HB := Aside0.mk ((by rw [hw]; exact below_set (HB.out) GB46.out : Below w.heap.size w w52)); clear hg hw hp_))
       (try simp only [← hl7_2])
       go_roundg k2
       case measure => have := HK1.out; have := HK2.out; omega
       case rel => exact ⟨(y142), (wrap64 (x8_1 + 1)), (by first | rfl | (simp; done) | (simp [*]; done)), H', ⟨by have := HK1.out; have := HK2.out; omega⟩, ⟨by (try simp only [hl7_2]); (with_reducible repeat (first | apply Kd.R_alloc | apply Kd.R_drewN | apply Kd.R_drew)); exact HO_5.out⟩, ⟨by (try simp only [hl7_2]); (with_reducible repeat (first | apply Kd.R_alloc | apply Kd.R_drewN | apply Kd.R_drew)); exact HO_6.out⟩, ⟨by (try simp only [hl7_2]); (with_reducible repeat (first | apply Kd.R_alloc | apply Kd.R_drewN | apply Kd.R_drew)); exact HO_7.out⟩, ⟨bx HB.out⟩⟩
   ·rw [if_neg c11] at H
    have c11b0 := decide_eq_false c11
    clear c11
    obtain ⟨y143, hy143⟩ : ∃ y_ : List Int, y_ = (([] : List Int)) := ⟨_, rfl⟩
    first | replace H := bind_y hy143 H | rw [← hy143] at H
    have Ny143 := Aside0.mk hy143
    clear hy143
    have H' := Aside0.mk H
    clear H
    go_wp2_with (first | ((with_reducible refine gate_dst (N := 137) rfl ?_); refine Kd.R_lit (Kd.int .u32) _ 135 ?hg (N := 137) ?hd (xs := ([] : List Int)) (inner := []) (ok := fun _ => True) (okp := fun _ => True) ?hr ?hp (fun _ hk => hk) trivial (Below.refl _ _) (Nat.le_refl _) (by simp) ?_; (case hd => rfl); (case hg => rfl); (case hr => first | (go_simp; done) | (go_simp; rfl)); (case hp => exact (Reps.none _ _)); intro v144 w53 ho54 hb hg_ hnew_; clear hg_ hnew_; (first | rw [← Ny143.out] at ho54 | (simp only [Int.reduceToNat] at ho54; rw [← Ny143.out] at ho54)); have HO145 := Aside0.mk (Kd.R_lower (Kd.R_new' (Kd.R_new' (Kd.R_new' ho54 (Kd.R_lt (rx HO_5.out))) (Kd.R_lt (rx HO_6.out))) (Kd.R_lt (rx HO_7.out))) (bz HB.out)); replace HO_5 := Aside0.mk (Kd.R_elder' (rx HO_5.out) (Kd.R_base ho54) hb); replace HO_6 := Aside0.mk (Kd.R_elder' (rx HO_6.out) (Kd.R_base ho54) hb); replace HO_7 := Aside0.mk (Kd.R_elder' (rx HO_7.out) (Kd.R_base ho54) hb); replace HB := kB HB hb; clear hb ho54))
    go_loopg [15, 16] k1 (fun kq v15 v16 w' => ∃ (x15_2 : List Int) (x16_2 : Int), v16 = .int .i64 x16_2 ∧ Aside0 (spec_l6Block.l2 kq l0 x7_1 x15_2 x16_2 = some r) ∧ Aside0 (kq ≤ k1) ∧ Aside0 (Kd.R (Kd.int .u32) 135 w' w.heap.size (fun k_ => some k_ ≠ (v15 : Value).ownBlock) v111 x7_1) ∧ Aside0 (Kd.R (Kd.int .u32) 135 w' w.heap.size (fun k_ => some k_ ≠ (v111 : Value).ownBlock) v15 x15_2) ∧ Aside0 (Below w.heap.size w w'))
    case atStart => exact ⟨(y143), (0), (by first | rfl | (simp; done) | (simp [*]; done)), H', ⟨Nat.le_refl _⟩, ⟨rx (Kd.R_mono HO_7.out (fun _ hk => hk.2))⟩, ⟨rx (Kd.R_mono HO145.out (fun _ hk => hk.2))⟩, ⟨bx HB.out⟩⟩
    case round =>
     clear H'
     try clear c1
     try clear p1
     try clear q1
     try clear hx1
     try clear qi1
     try clear c2
     try clear p2
     try clear c3
     try clear c4
     try clear p4
     try clear q4
     try clear hx4
     try clear qi4
     try clear hf4
     try clear p6
     try clear c11
     try clear c11b0
     try clear hx11
     try clear c12
     try clear p12
     try clear q12
     try clear hx12
     try clear qi12
     try clear p13
     try clear q13
     try clear hx13
     try clear qi13
     try clear p14
     try clear q14
     try clear hx14
     try clear qi14
     try clear c16
     try clear c17
     try clear c18
     try clear c19
     try clear c20
     try clear c21
     try clear c22
     try clear c26
     try clear c27
     try clear c36
     try clear c36b0
     try clear c38
     try clear c38b0
     try clear c39
     try clear c39b0
     try clear c40
     try clear c40b0
     try clear c41
     try clear c41b0
     try clear p42
     try clear q42
     try clear hx42
     try clear hf42
     try clear c45
     try clear c45b0
     try clear c45b1
     try clear p46
     try clear q46
     try clear hx46
     try clear qi46
     try clear hf46
     try clear c47
     try clear c47b0
     try clear c47b1
     try clear p48
     try clear q48
     try clear hx48
     try clear qi48
     try clear hf48
     try clear hx113_0
     try clear hx115_0
     try clear hx117_0
     try clear hx119_0
     try clear hx120_0
     try clear hx121_0
     try clear hx122_0
     try clear hx123_0
     try clear hx124_0
     try clear hx125_0
     try clear hx126_0
     try clear hx128_0
     try clear hx130_0
     try clear hx132_0
     try clear hx133_0
     try clear hx134_0
     try clear hx135_0
     try clear hx136_0
     try clear hx137_0
     try clear hx138_0
     try clear hx140_0
     try clear hx42_0
     try clear hx46_0
     try clear hx48_0
     try clear p1
     try clear p12
     try clear p125
     try clear p126
     try clear p128
     try clear p13
     try clear p130
     try clear p132
     try clear p133
     try clear p134
     try clear p135
     try clear p136
     try clear p137
     try clear p138
     try clear p140
     try clear p2
     try clear p42
     try clear p46
     try clear p48
     try clear q1
     try clear q12
     try clear q125
     try clear q126
     try clear q128
     try clear q13
     try clear q130
     try clear q132
     try clear q133
     try clear q134
     try clear q135
     try clear q136
     try clear q137
     try clear q138
     try clear q140
     try clear q42
     try clear q46
     try clear q48
     obtain ⟨x15_2, x16_2, rfl, HA, HK2, HO_7, HO_15, HB⟩ := hrel
     cases gk with
     | zero => exact absurd HA.out (by simp [spec_l6Block.l2])
     | succ k2 =>
      have H := HA.out
      clear HA
      simp only [spec_l6Block.l2] at H
      by_cases c55 : x16_2 < 8
      ·rw [if_pos c55] at H
       have c55b0 := decide_eq_true c55
       clear c55
       have c56 := ite_y H
       replace H := ite_t H
       have c56b0 := decide_eq_true c56
       clear c56
       have c57 := ite_y H
       replace H := ite_t H
       have c57b0 := decide_eq_true c57
       clear c57
       have c58 := ite_y H
       replace H := ite_t H
       have c58b0 := decide_eq_true c58
       clear c58
       have c59 := ite_y H
       replace H := ite_t H
       have LMc59 := Aside0.mk c59
       clear c59
       obtain ⟨y148, hy148⟩ : ∃ y_ : List Int, y_ = (x15_2 ++ [((rd l0 x16_2) + (rd x7_1 x16_2)) % 4294967296]) := ⟨_, rfl⟩
       first | replace H := bind_y hy148 H | rw [← hy148] at H
       have Ny148 := Aside0.mk hy148
       clear hy148
       have H' := Aside0.mk H
       clear H
       try go_wp2
       replace HO_7 := Aside0.mk (Kd.R_drew HO_7.out)
       replace HO_15 := Aside0.mk (Kd.R_drew HO_15.out)
       replace HB := Aside0.mk (below_drew1 HB.out)
       have p146 := of_decide_eq_true c56b0
       have q146 := of_decide_eq_true c57b0
       obtain ⟨ad146, e146, hx146_0⟩ := Kd.at_int HR0.out x16_2 p146 q146
       have hw146_0 := hx146_0
       cases e146
       replace hx146_0 := px HB.out hx146_0
       replace p146 := eq_true p146
       replace q146 := eq_true q146
       obtain ⟨Ao61, co61, eo61⟩ := Kd.R_slice HO_7.out
       (first | subst eo61 | (injection eo61 with f1_ f2_ f3_; have f4_ := f1_.symm; have f5_ := f3_.symm; clear f1_ f2_ f3_; subst f4_; subst f5_))
       have p147 := of_decide_eq_true c56b0
       have q147 := of_decide_eq_true c58b0
       obtain ⟨ad147, e147, hx147_0⟩ := Kd.at_int (Kd.R_reads' HO_7.out).2.2 x16_2 p147 q147
       cases e147
       replace p147 := eq_true p147
       replace q147 := eq_true q147
       refine start_ (n := 13) (S := fun w' => w'.cell? (ad146.add (x16_2).toNat) = some (.int .u32 (rd l0 x16_2)) ∧ w'.cell? (ad147.add (x16_2).toNat) = some (.int .u32 (rd x7_1 x16_2))) (ds := [10, 11]) _ (by kernel_rfl) rfl rfl ⟨(px HB.out hw146_0), hx147_0⟩ (fun hHeld => ?_); refine with_tabW spec_l6Block.tab22 spec_l6Block.bits22 (fun HT_ HW_ => ?_)
       generalize wr.drew = w60 at HO_7 HO_15 HB hx146_0 hx147_0 hHeld ⊢
       refine ord_ [.p 0 142, .p 1 143, .p 2 144, .p 3 145, .p 5 147, .p 6 148, .p 7 149, .t 4 146, .t 8 150, .p 9 151] ?_
       repeat (first | (refine pu_ (v := ?_) (a' := ?_) HT_ rfl rfl (by kernel_rfl) (fun _ _ _ h => h) (by rfl) ?_ ?_ ?_; rotate_left 2; (intro w'; go_simp; with_reducible rfl); (simp only [pL, pN, s0_, s1_, i64_w, i32_w]; rfl)) | (refine ta_ (v := ?_) (a' := ?_) HT_ HW_ rfl rfl (by kernel_rfl) (fun _ _ _ h => h) (by rfl) hHeld ?_ ?_ ?_; rotate_left 2; (rintro w' ⟨s0, s1⟩; go_simp; with_reducible rfl); (simp only [pL, pN, s0_, s1_, i64_w, i32_w]; rfl)))
       refine ord0 ?_
       refine last_ (i := 10) (N := some 152) #[true, true, true, true, true, true, true, true, true, true, true, false, false] rfl rfl (one_of HT_.out (by kernel_rfl)) (by decide) (fun K hK => ?_)
       refine value_ (w1 := ?_) (v := ?_) (by rfl) rfl ?_ ?_
       rotate_left 2
       ·go_simp
        constructor
        ·rfl
        ·rfl
       refine hK.out _ _ ?_
       clear hK K
       refine norm_ (a' := ?_) ?_ ?_
       rotate_left
       ·show Act.put _ (some 152) _ = _
        simp only [pL, pN, s0_, s1_, i64_w, i32_w]
        rfl
       refine last_ (i := 11) (N := some 153) #[true, true, true, true, true, true, true, true, true, true, true, true, false] rfl rfl (one_of HT_.out (by kernel_rfl)) (by decide) (fun K hK => ?_)
       refine Kd.R_append_step (Kd.int .u32) (w0 := w) w.heap.size (by rfl) (.tmp 142) (.tmp 152) 144 135 (.int .u32 0) 4 rfl Tryz.underlying144 info135 rfl (by decide) (by omega) u15 x15_2 (((rd l0 x16_2) + (rd x7_1 x16_2)) % 4294967296) [.int .u32 (((rd l0 x16_2) + (rd x7_1 x16_2)) % 4294967296)] (fun k_ => some k_ ≠ (.slice (some ad147) x7_1.length co61 : Value).ownBlock) (fun _ => False) rfl rfl ?aP (fun _ hk => hk.elim) ?aF ?aO ?aB ?aS ?aL ?_
       (case aP => exact rfl)
       (case aB => exact (bx HB.out))
       (case aF => exact (fun k_ hk => Kd.fresh' (Kd.R_lt (rx HO_7.out)) k_ hk))
       (case aO => exact (rx HO_15.out))
       (case aS => exact (bz HB.out))
       (case aL => have := LMc59.out; omega)
       intro v149 w62 ho hb hg hat
       rw [← Ny148.out] at ho
       replace HO_7 := Aside0.mk (Kd.R_after (ok := (fun _ => True)) (rx (Kd.R_mono HO_7.out (fun _ hk => ⟨trivial, hk⟩))) hg hat)
       replace HB := Aside0.mk (hb)
       have HO150 := Aside0.mk (ho)
       clear HO_15
       clear ho hb hg hat
       refine hK.out _ _ ?_
       clear hK K
       refine norm_ (a' := ?_) ?_ ?_
       rotate_left
       ·show Act.put _ (some 153) _ = _
        simp only [pL, pN, s0_, s1_, i64_w, i32_w]
        rfl
       refine ord_ [.p 12 15] ?_
       repeat (refine pu_ (v := ?_) (a' := ?_) HT_ rfl rfl (by kernel_rfl) (fun _ _ _ h => h) (by rfl) ?_ ?_ ?_; rotate_left 2; (intro w'; go_simp; with_reducible rfl); (simp only [pL, pN, s0_, s1_, i64_w, i32_w]; rfl))
       refine ord0 ?_
       refine done_ (done_of HT_.out (by kernel_rfl)) ?_
       try go_wp2
       go_roundg k2
       case measure => have := HK1.out; have := HK2.out; omega
       case rel => exact ⟨(y148), (wrap64 (x16_2 + 1)), (by first | rfl | (simp; done) | (simp [*]; done)), H', ⟨by have := HK1.out; have := HK2.out; omega⟩, ⟨rx (Kd.R_mono HO_7.out (fun _ hk => hk.2))⟩, ⟨rx HO150.out⟩, ⟨bx HB.out⟩⟩
      ·rw [if_neg c55] at H
       have c55b0 := decide_eq_false c55
       clear c55
       obtain rfl := Option.some.inj H
       go_wp2
       go_ret
       exact ⟨_, by rfl, rx (Kd.R_mono HO_15.out (fun _ hk => trivial)), bx HB.out⟩
end Go.Proofs.YtnjdoinlnbjedaaGreatDoor.M
end

section
/- The reference's block of SHA-256, plain: it is Sha.block. -/
namespace Go.Proofs.YtnjdoinlnbjedaaGreatDoor.M
open Go.RowKit Go.Proofs.YtnjdoinlnbjedaaGreatDoorW.PrintWords Go.Proofs.YtnjdoinlnbjedaaGreatDoorW.PrintMore Go.Proofs.YtnjdoinlnbjedaaGreatDoor.Pu Go.Proofs.YtnjdoinlnbjedaaGreatDoor.Sha
set_option linter.unusedVariables false
set_option linter.unusedSimpArgs false
theorem Ev.add {α : Type} {g : Nat → Option α} {r : α} : ∀ n : Nat, Ev (fun k => g (k + n)) r → Ev g r
 | 0, h => h
 | n + 1, h => Ev.add n (Ev.succ (g := fun k => g (k + n)) (by simpa [Nat.add_right_comm, Nat.add_assoc] using h))
theorem fold_from {α β : Type} {g : Nat → β → Int → Option α} (n i0 : Nat) (F : Nat → β) (r : α) (hi : i0 ≤ n)
  (step : ∀ (i : Nat), i0 ≤ i → i < n → Ev (fun k => g k (F (i + 1)) ((i : Int) + 1)) r → Ev (fun k => g k (F i) (i : Int)) r)
  (done : Ev (fun k => g k (F n) (n : Int)) r) : Ev (fun k => g k (F i0) (i0 : Int)) r := by
 have key : ∀ d i : Nat, n - i = d → i0 ≤ i → i ≤ n → Ev (fun k => g k (F i) (i : Int)) r := by
  intro d
  induction d with
  | zero =>
   intro i hd h0 hi
   obtain rfl : i = n := by omega
   exact done
  | succ d ih =>
   intro i hd h0 hi
   exact step i h0 (by omega) (by exact_mod_cast ih (i + 1) (by omega) (by omega) (by omega))
 exact key (n - i0) i0 rfl (Nat.le_refl _) hi
theorem turn_eq (x n : Int) (h0 : 0 ≤ n) (h1 : n ≤ 32) : spec_l6Turn.f x n = some (rot x n) := by
 have hw : wrap64 (32 - n) = 32 - n := wid (by omega) (by omega)
 unfold spec_l6Turn.f rot
 rw [if_pos h0, hw, if_pos (by omega)]
theorem rd_lit (xs : List Int) (i : Int) (n : Nat) (h : i = (n : Int)) : rd xs i = xs.getD n 0 := by rw [h]; exact rd_nat xs n
theorem getD_rng {xs : List Int} (h : ∀ x ∈ xs, 0 ≤ x ∧ x ≤ 255) (i : Nat) : 0 ≤ xs.getD i 0 ∧ xs.getD i 0 ≤ 255 := by
 rw [List.getD_eq_getElem?_getD]
 cases e : xs[i]? with
 | none => simp
 | some b => exact h b (List.mem_of_getElem? e)
theorem words_ev (b : List Int) (hl : b.length = 64) (hb : ∀ x ∈ b, 0 ≤ x ∧ x ≤ 255) : Ev (fun k => spec_l6Words.f k b) (wpre b 64) := by
 unfold spec_l6Words.f
 refine Ev.ifp (by decide) ?_
 refine fold_from (g := fun k s i => spec_l6Words.l0 k b s i) 16 0 (wpre b) _ (by decide) ?_ ?_
 ·intro i _ hi h
  apply Ev.succ
  have e0 : wrap64 (4 * (i : Int)) = 4 * (i : Int) := wid (by omega) (by omega)
  have e1 : wrap64 (4 * (i : Int) + 1) = 4 * (i : Int) + 1 := wid (by omega) (by omega)
  have e2 : wrap64 (4 * (i : Int) + 2) = 4 * (i : Int) + 2 := wid (by omega) (by omega)
  have e3 : wrap64 (4 * (i : Int) + 3) = 4 * (i : Int) + 3 := wid (by omega) (by omega)
  have e4 : wrap64 ((i : Int) + 1) = (i : Int) + 1 := wid (by omega) (by omega)
  simp only [spec_l6Words.l0, e0, e1, e2, e3, e4]
  clear e0 e1 e2 e3 e4
  refine Ev.ifp (by omega) ?_
  refine Ev.ifp (by omega) ?_
  refine Ev.ifp (by omega) ?_
  refine Ev.ifp (by omega) ?_
  refine Ev.ifp (by omega) ?_
  refine Ev.ifp (by omega) ?_
  refine Ev.ifp (by omega) ?_
  refine Ev.ifp (by omega) ?_
  refine Ev.ifp (by omega) ?_
  refine Ev.ifp (by rw [wpre_length]; omega) ?_
  have g0 := rd_lit b (4 * (i : Int)) (4 * i) (by omega)
  have g1 := rd_lit b (4 * (i : Int) + 1) (4 * i + 1) (by omega)
  have g2 := rd_lit b (4 * (i : Int) + 2) (4 * i + 2) (by omega)
  have g3 := rd_lit b (4 * (i : Int) + 3) (4 * i + 3) (by omega)
  have r0 := getD_rng hb (4 * i)
  have r1 := getD_rng hb (4 * i + 1)
  have r2 := getD_rng hb (4 * i + 2)
  have r3 := getD_rng hb (4 * i + 3)
  rw [g0, g1, g2, g3]
  have hV : wordAt b (wpre b i) i = be (b.getD (4 * i) 0) (b.getD (4 * i + 1) 0) (b.getD (4 * i + 2) 0) (b.getD (4 * i + 3) 0) := wordAt_low _ _ _ hi
  have m0 : b.getD (4 * i) 0 % 4294967296 * 16777216 % 4294967296 = b.getD (4 * i) 0 * 16777216 := by omega
  have m1 : b.getD (4 * i + 1) 0 % 4294967296 * 65536 % 4294967296 = b.getD (4 * i + 1) 0 * 65536 := by omega
  have m2 : b.getD (4 * i + 2) 0 % 4294967296 * 256 % 4294967296 = b.getD (4 * i + 2) 0 * 256 := by omega
  have m3 : b.getD (4 * i + 3) 0 % 4294967296 = b.getD (4 * i + 3) 0 := by omega
  rw [m0, m1, m2, m3]
  have hw : wpre b (i + 1) = wpre b i ++ [wordAt b (wpre b i) i] := rfl
  rw [hw, hV] at h
  exact h
 ·apply Ev.succ
  simp only [spec_l6Words.l0]
  refine Ev.ifn (by decide) ?_
  refine fold_from (g := fun k s i => spec_l6Words.l1 k s i) 64 16 (wpre b) _ (by decide) ?_ ?_
  ·intro i h16 hi h
   apply Ev.succ
   have e0 : wrap64 ((i : Int) - 15) = (i : Int) - 15 := wid (by omega) (by omega)
   have e1 : wrap64 ((i : Int) - 2) = (i : Int) - 2 := wid (by omega) (by omega)
   have e2 : wrap64 ((i : Int) - 16) = (i : Int) - 16 := wid (by omega) (by omega)
   have e3 : wrap64 ((i : Int) - 7) = (i : Int) - 7 := wid (by omega) (by omega)
   have e4 : wrap64 ((i : Int) + 1) = (i : Int) + 1 := wid (by omega) (by omega)
   have hlen := wpre_length b i
   have g0 := rd_lit (wpre b i) ((i : Int) - 15) (i - 15) (by omega)
   have g1 := rd_lit (wpre b i) ((i : Int) - 2) (i - 2) (by omega)
   have g2 := rd_lit (wpre b i) ((i : Int) - 16) (i - 16) (by omega)
   have g3 := rd_lit (wpre b i) ((i : Int) - 7) (i - 7) (by omega)
   simp only [spec_l6Words.l1, e0, e1, e2, e3, e4, g0, g1, g2, g3, turn_eq _ 7 (by decide) (by decide), turn_eq _ 18 (by decide) (by decide), turn_eq _ 17 (by decide) (by decide), turn_eq _ 19 (by decide) (by decide), Option.bind_some]
   clear e0 e1 e2 e3 e4
   refine Ev.ifp (by omega) ?_
   refine Ev.ifp (by omega) ?_
   refine Ev.ifp (by omega) ?_
   refine Ev.ifp (by omega) ?_
   refine Ev.ifp (by omega) ?_
   refine Ev.ifp (by omega) ?_
   refine Ev.ifp (by omega) ?_
   refine Ev.ifp (by omega) ?_
   refine Ev.ifp (by omega) ?_
   refine Ev.ifp (by omega) ?_
   have hV := wordAt_high b (wpre b i) i (by omega)
   have hw : wpre b (i + 1) = wpre b i ++ [wordAt b (wpre b i) i] := rfl
   rw [hw, hV] at h
   have hm : ∀ a c d e : Int, ((a + c) % 4294967296 + d) % 4294967296 + e = ((a + c) % 4294967296 + d) % 4294967296 + e := fun _ _ _ _ => rfl
   have hs : ∀ a c d e : Int, (((a + c) % 4294967296 + d) % 4294967296 + e) % 4294967296 = (a + d + c + e) % 4294967296 := by intro a c d e; omega
   simp only [hs]
   exact h
  ·apply Ev.succ
   simp only [spec_l6Words.l1]
   refine Ev.ifn (by decide) ?_
   exact Ev.now _
theorem shift_eq (x0 x5 x6 : List Int) (x8 t a1 m a b c d e f g h : Int) (k : Nat) :
  spec_l6Block.l1 (k + 8) x0 x5 x6 [a, b, c, d, e, f, g, h] x8 t a1 m 7 = spec_l6Block.l0 k x0 x5 x6 [((t + a1) % 4294967296 + m) % 4294967296, a, b, c, (d + t) % 4294967296, e, f, g] (wrap64 (x8 + 1)) := by
 simp [spec_l6Block.l1, wrap64, rd]
theorem block_ev (h b : List Int) (hh : h.length = 8) (hl : b.length = 64) (hb : ∀ x ∈ b, 0 ≤ x ∧ x ≤ 255) : Ev (fun k => spec_l6Block.f k h b) (block shaTab h b) := by
 unfold spec_l6Block.f
 refine Ev.bind (words_ev b hl hb) ?_
 simp only [spec_l6Consts.f, Option.bind_some, List.nil_append]
 refine Ev.ifp (by simp; omega) ?_
 rw [show ([1116352408, 1899447441, 3049323471, 3921009573, 961987163, 1508970993, 2453635748, 2870763221, 3624381080, 310598401, 607225278, 1426881987, 1925078388, 2162078206, 2614888103, 3248222580, 3835390401, 4022224774, 264347078, 604807628, 770255983, 1249150122, 1555081692, 1996064986, 2554220882, 2821834349, 2952996808, 3210313671, 3336571891, 3584528711, 113926993, 338241895, 666307205, 773529912, 1294757372, 1396182291, 1695183700, 1986661051, 2177026350, 2456956037, 2730485921, 2820302411, 3259730800, 3345764771, 3516065817, 3600352804, 4094571909, 275423344, 430227734, 506948616, 659060556, 883997877, 958139571, 1322822218, 1537002063, 1747873779, 1955562222, 2024104815, 2227730452, 2361852424, 2428436474, 2756734187, 3204031479, 3329325298] : List Int) = shaTab from rfl]
 have hwl := wpre_length b 64
 generalize hW : wpre b 64 = ws at hwl
 have htl : shaTab.length = 64 := rfl
 refine fold_from (g := fun k s i => spec_l6Block.l0 k h ws shaTab s i) 64 0 (rnds shaTab ws h) _ (by decide) ?_ ?_
 ·intro i _ hi hr
  apply Ev.succ
  obtain ⟨y0, y1, y2, y3, y4, y5, y6, y7, hy⟩ := eight (rnds_length shaTab ws h hh i)
  have e4 : wrap64 ((i : Int) + 1) = (i : Int) + 1 := wid (by omega) (by omega)
  have hn : rnds shaTab ws h (i + 1) = rnd (shaTab.getD i 0) (ws.getD i 0) (rnds shaTab ws h i) := rfl
  rw [hn] at hr
  rw [hy] at hr ⊢
  have gk := rd_nat shaTab i
  have gw := rd_nat ws i
  simp only [spec_l6Block.l0, List.length_cons, List.length_nil, gk, gw, turn_eq _ 6 (by decide) (by decide), turn_eq _ 11 (by decide) (by decide), turn_eq _ 25 (by decide) (by decide), turn_eq _ 2 (by decide) (by decide), turn_eq _ 13 (by decide) (by decide), turn_eq _ 22 (by decide) (by decide), Option.bind_some]
  refine Ev.ifp (by omega) ?_
  refine Ev.ifp (by decide) ?_
  refine Ev.ifp (by decide) ?_
  refine Ev.ifp (by decide) ?_
  refine Ev.ifp (by decide) ?_
  refine Ev.ifp (by omega) ?_
  refine Ev.ifp (by omega) ?_
  refine Ev.ifp (by omega) ?_
  refine Ev.ifp (by decide) ?_
  refine Ev.ifp (by decide) ?_
  refine Ev.ifp (by decide) ?_
  refine Ev.add 8 ?_
  simp only [shift_eq, e4]
  have r0 : rd [y0, y1, y2, y3, y4, y5, y6, y7] 0 = y0 := rfl
  have r1 : rd [y0, y1, y2, y3, y4, y5, y6, y7] 1 = y1 := rfl
  have r2 : rd [y0, y1, y2, y3, y4, y5, y6, y7] 2 = y2 := rfl
  have r4 : rd [y0, y1, y2, y3, y4, y5, y6, y7] 4 = y4 := rfl
  have r5 : rd [y0, y1, y2, y3, y4, y5, y6, y7] 5 = y5 := rfl
  have r6 : rd [y0, y1, y2, y3, y4, y5, y6, y7] 6 = y6 := rfl
  have r7 : rd [y0, y1, y2, y3, y4, y5, y6, y7] 7 = y7 := rfl
  simp only [r0, r1, r2, r4, r5, r6, r7]
  have c1 : ∀ p q r s t u v : Int, (((((p + q) % 4294967296 + r) % 4294967296 + s) % 4294967296 + t) % 4294967296 + u) % 4294967296 = (p + q + r + s + t + u) % 4294967296 := by intro p q r s t u v; omega
  have ea : ∀ p q r s t u v : Int, (((((((p + q) % 4294967296 + r) % 4294967296 + s) % 4294967296 + t) % 4294967296 + u) % 4294967296) + v) % 4294967296 = (p + q + r + s + t + (u + v)) % 4294967296 := by intro p q r s t u v; omega
  have ee : ∀ d p q r s t : Int, (d + ((((p + q) % 4294967296 + r) % 4294967296 + s) % 4294967296 + t) % 4294967296) % 4294967296 = (d + (p + q + r + s + t)) % 4294967296 := by intro d p q r s t; omega
  rw [ea, ee]
  exact hr
 ·apply Ev.succ
  simp only [spec_l6Block.l0]
  refine Ev.ifn (by decide) ?_
  have hs := rnds_length shaTab ws h hh 64
  have hB : block shaTab h b = List.zipWith add h (rnds shaTab ws h 64) := by rw [← hW]; rfl
  rw [hB]
  generalize rnds shaTab ws h 64 = st at hs
  have hz : (List.zipWith add h st).length = 8 := by simp [List.length_zipWith]; omega
  refine fold_from (g := fun k s i => spec_l6Block.l2 k h st s i) 8 0 (fun i => (List.zipWith add h st).take i) _ (by decide) ?_ ?_
  ·intro i _ hi hr
   apply Ev.succ
   have e4 : wrap64 ((i : Int) + 1) = (i : Int) + 1 := wid (by omega) (by omega)
   simp only [spec_l6Block.l2, e4]
   clear e4
   refine Ev.ifp (by omega) ?_
   refine Ev.ifp (by omega) ?_
   refine Ev.ifp (by omega) ?_
   refine Ev.ifp (by omega) ?_
   refine Ev.ifp (by rw [List.length_take]; omega) ?_
   have h1 : (List.zipWith add h st).take (i + 1) = (List.zipWith add h st).take i ++ [(rd h (i : Int) + rd st (i : Int)) % 4294967296] := by
    rw [List.take_succ_eq_append_getElem (by omega), List.getElem_zipWith, rd_nat, rd_nat]
    simp [List.getD_eq_getElem?_getD, show i < h.length by omega, show i < st.length by omega, add]
   rw [h1] at hr
   exact hr
  ·apply Ev.succ
   simp only [spec_l6Block.l2]
   refine Ev.ifn (by decide) ?_
   rw [List.take_of_length_le (by omega)]
   exact Ev.now _
end Go.Proofs.YtnjdoinlnbjedaaGreatDoor.M
end

section
/- A region that draws its order, whose operations but the last few read, or call what only draws: one walk in the order of the text serves every order. (Derived.Deep.Quiet's law with a tail, as Derived.StillTail's.) Nothing of any program. -/
namespace Go.Proofs.YtnjdoinlnbjedaaGreatDoor.QT
open Go
section
variable {P : Program} {ops : Array Oper} {md : Region.Mode} {C : World → Prop}
def wpAnyT (P : Program) (md : Region.Mode) (ops : Array Oper) (C : World → Prop) (n : Nat) (L : Array Bool → Act → Prop) : Nat → Array Bool → Act → Prop
 | 0, listed, a => L listed a
 | f + 1, listed, a =>
  Region.ready md ops listed ≠ [] ∧ ∀ i ∈ Region.ready md ops listed, i < n ∧ qOp P ops C i (wpAnyT P md ops C n L f (listed.setIfInBounds i true)) a
theorem wpAny_of_headQ {n g : Nat} {L : Array Bool → Act → Prop} {Q' : Exit → Act → World → Prop} (hL : ∀ listed a w, C w → L listed a → wpAny P md ops Q' g listed a w) :
  ∀ (f : Nat) (listed : Array Bool) (a : Act) (w : World), C w → wpAnyT P md ops C n L f listed a → wpAny P md ops Q' (f + g) listed a w
 | 0, listed, a, w, hw, h => by rw [Nat.zero_add]; exact hL _ _ _ hw h
 | f + 1, listed, a, w, hw, h => by
  rw [show f + 1 + g = (f + g) + 1 by omega]
  exact ⟨fun h0 => absurd h0 h.1, fun i hi => wpOp_of_qOp hw (fun a' w' hw' h' => wpAny_of_headQ hL f _ a' w' hw' h') (h.2 i hi).2⟩
theorem wpAnyT_first {n i : Nat} {oi : Oper} {v : Value} {L : Array Bool → Act → Prop} (hi : ops[i]? = some oi) (hsel : ∀ (j : Nat) (o : Oper) cs b, ops[j]? = some o → o.op ≠ .select cs b)
  (hs : Region.sinkB md ops n = true) (hc : Region.chainB md ops n = true) (hn : n < ops.size) (hin : i < n)
  (hdone : ∀ listed a, L listed a → ∀ j ∈ Region.ready md ops listed, n ≤ j) :
  ∀ (f : Nat) (listed : Array Bool) (a : Act), HeadInv md ops n listed →
   (∀ j oj, ops[j]? = some oj → j ≠ i → listed.getD j true = false → (∀ e ∈ oj.after, Region.binds md e = true → e.on ≠ i) → oi.apart ops oj = true) →
   i ∈ Region.ready md ops listed → YieldsIn P ops C oi v a →
   wpAnyT P md ops C n L f (listed.setIfInBounds i true) (a.put oi.dst v) → wpAnyT P md ops C n L (f + 1) listed a := by
 intro f
 induction f with
 | zero =>
  intro listed a inv _ hr hy H
  have hun := (mem_ready.1 hr).1
  refine ⟨fun h => (by rw [h] at hr; cases hr), fun j hj => ?_⟩
  have hjn : j < n := by
   rcases Nat.lt_or_ge j n with h | h
   ·exact h
   ·exact absurd hj (tail_waits hs hc hn inv _ i rfl hin hun j h)
  refine ⟨hjn, ?_⟩
  by_cases hji : j = i
  ·subst hji; exact hy.qOp hi H
  ·have := hdone _ _ H j (ready_mono hj hji)
   omega
 | succ f ih =>
  intro listed a inv hfree hr hy H
  have hun := (mem_ready.1 hr).1
  refine ⟨fun h => (by rw [h] at hr; cases hr), fun j hj => ?_⟩
  have hjn : j < n := by
   rcases Nat.lt_or_ge j n with h | h
   ·exact h
   ·exact absurd hj (tail_waits hs hc hn inv _ i rfl hin hun j h)
  refine ⟨hjn, ?_⟩
  by_cases hji : j = i
  ·subst hji; exact hy.qOp hi H
  ·have h1 := (H.2 j (ready_mono hj hji)).2
   obtain ⟨hjun, oj, hoj, hall⟩ := mem_ready.1 hj
   have hnot : ∀ e ∈ oj.after, Region.binds md e = true → e.on ≠ i := fun e he hb heq => by
    have h1 := hall e he hb
    rw [heq, getD_both hun] at h1
    cases h1
   have h2 := qOp_put hoj (hfree j oj hoj hji hjun hnot) (fun cs b => hsel i oi cs b hi) (fun cs b => hsel j oj cs b hoj) hy h1
   have hfree' : ∀ k ok, ops[k]? = some ok → k ≠ i → (listed.setIfInBounds j true).getD k true = false →
     (∀ e ∈ ok.after, Region.binds md e = true → e.on ≠ i) → oi.apart ops ok = true := fun k ok hk hki hun hno => by
    refine hfree k ok hk hki ?_ hno
    by_cases hjk : j = k
    ·subst hjk; exact hjun
    ·rw [getD_set_ne true hjk] at hun; exact hun
   refine qOp_mono (fun a' h3 => ih (listed.setIfInBounds j true) a' (inv.set hj hjn) hfree' (ready_mono hr (Ne.symm hji)) h3.1 ?_) h2
   rw [Array.setIfInBounds_comm _ _ hji]
   exact h3.2
theorem wpAnyT_lex {n g : Nat} {Lq : Act → Prop} (hsel : Region.noSelect ops = true) (hs : Region.sinkB md ops n = true) (hc : Region.chainB md ops n = true) (hn : n < ops.size) :
  ∀ (l : List Oper) (k : Nat) (listed : Array Bool) (a : Act), (∀ j, j < l.length → l[j]? = ops[k + j]?) → k + l.length = n → HeadInv md ops n listed →
  Region.lexHead md ops g l.length k listed = true → wpQuiet P ops C Lq l a →
  wpAnyT P md ops C n (fun listed' a' => Region.seqB md ops g n listed' = true ∧ Lq a') l.length listed a
 | [], k, listed, a, _, hk, _, hB, h => by
  have : k = n := by simpa using hk
  subst this
  exact ⟨by simpa [Region.lexHead] using hB, h⟩
 | o :: l, k, listed, a, hl, hk, inv, hB, h => by
  have h0 : ops[k]? = some o := by simpa using (hl 0 (by simp)).symm
  simp only [List.length_cons, Region.lexHead, Bool.and_eq_true] at hB
  obtain ⟨⟨hr, hf⟩, hB'⟩ := hB
  have hkn : k < n := by simp only [List.length_cons] at hk; omega
  have hr' : k ∈ Region.ready md ops listed := by simpa using hr
  have hst : qOp P ops C k (wpQuiet P ops C Lq l) a := by unfold qOp; simp only [h0]; exact h
  obtain ⟨v, hy, hK⟩ := yieldsIn_of_qOp h0 hst
  exact wpAnyT_first h0 (Region.noSelect_spec hsel) hs hc hn hkn (fun listed' a' hL => seqB_ready hL.1) l.length listed a inv (Region.free_spec h0 hf) hr' hy
   (wpAnyT_lex hsel hs hc hn l (k + 1) _ _ (fun j hj => by have := hl (j + 1) (by simp; omega); simpa [Nat.add_assoc, Nat.add_comm 1 j] using this) (by simp only [List.length_cons] at hk; omega) (inv.set hr' hkn) hB' hK)
theorem wp_region_quiet_tail {id : Nat} {Q : Exit → Act → World → Prop} {a : Act} {w : World} {l : List Oper} (n : Nat) (hm : P.follows .mixedOrders = true) (hB : Region.lexTailB .any l.toArray n = true)
  (h : wpQuiet P l.toArray (fun w' => ∃ n, w' = w.drewN n) (fun a' => ∀ w' d, w' = w.drewN d → wpList P l.toArray Q (l.drop n) a' w') (l.take n) a) : (Code.region id l.toArray true).wp P Q a w := by
 simp only [Region.lexTailB, Bool.and_eq_true, decide_eq_true_eq] at hB
 obtain ⟨⟨⟨⟨hsel, hn⟩, hs⟩, hc⟩, hlex⟩ := hB
 have hn' : n < l.length := by simpa using hn
 have htl : (l.take n).length = n := by simp; omega
 have hdl : (l.drop n).length = l.toArray.size - n := by simp
 have inv0 : HeadInv .any l.toArray n (Array.replicate l.toArray.size false) :=
  ⟨by simp, fun j oj _ hl => (by rw [getD_replicate_false] at hl; cases hl), fun t _ ht => getD_in (by simpa using ht) (getD_replicate_false _ _)⟩
 have H := wpAnyT_lex (md := .any) (g := l.toArray.size - n) hsel hs hc hn (l.take n) 0 _ a (fun j hj => by
  have hj' : j < n := by rw [htl] at hj; exact hj
  simp [hj']) (by simpa using htl) inv0 (by rw [htl]; exact hlex) h
 refine wp_region_any hm ?_
 have := wpAny_of_headQ (Q' := Q) (g := l.toArray.size - n) (fun listed a' w' hw' hL => by
  obtain ⟨d, hd⟩ := hw'
  have := wpAny_of_seq (md := .any) (Q' := Q) (l.drop n) n listed a' w' (fun j => by simp [List.getElem?_drop]) (by rw [hdl]; exact hL.1) (hL.2 w' d hd)
  rwa [hdl] at this) _ _ _ _ ⟨1, rfl⟩ H
 rw [htl, show n + (l.toArray.size - n) = l.toArray.size by omega] at this
 exact this
end
end Go.Proofs.YtnjdoinlnbjedaaGreatDoor.QT
end

section
/- spec.l6Sum, walked: it is Sha.sumOf, too. -/
namespace Go.Proofs.YtnjdoinlnbjedaaGreatDoor.M
open Go.RowKit Go.Proofs.YtnjdoinlnbjedaaGreatDoorW.PrintWords Go.Proofs.YtnjdoinlnbjedaaGreatDoorW.PrintLast Go.Proofs.YtnjdoinlnbjedaaGreatDoorW.PrintMore
open Go.Proofs.YtnjdoinlnbjedaaGreatDoor.Buf Go.Proofs.YtnjdoinlnbjedaaGreatDoor.Sha Go.Proofs.YtnjdoinlnbjedaaGreatDoor.Pu
attribute [local go_sem] max2_int min2_int max_two min_two max_three min_three max_four min_four   -- for this text's walks alone
set_option linter.unusedVariables false
theorem sum_range (s : ByteArray) : ∀ x ∈ padded (bytesOf s), 0 ≤ x ∧ x ≤ 255 := by
 intro x hx
 simp only [padded, lenBytes, lenAt, List.mem_append, List.mem_replicate, List.mem_cons, List.not_mem_nil, or_false] at hx
 rcases hx with ((hx | hx) | hx) | hx
 ·simp only [bytesOf, List.mem_map] at hx
  obtain ⟨b, _, rfl⟩ := hx
  have := b.toNat_lt
  omega
 ·omega
 ·omega
 ·rcases hx with hx | hx | hx | hx | hx | hx | hx | hx <;> (rw [hx]; omega)
theorem sum_padlen (xs : List Int) : (padded xs).length ≤ xs.length + 80 := by
 simp only [padded, lenBytes, zeros, List.length_append, List.length_replicate, List.length_cons, List.length_nil]
 omega
theorem c_of_arr {w : World} {g t : Nat} {xs : List Int} (h : Arr w g t xs) (hl : xs.length ≤ 9223372036854775807) : (Kd.int .u32).C w (some ⟨g, 0, none⟩) xs.length xs := by
 refine Kd.C_of_reads (d := (0 : Int)) ⟨rfl, hl, fun hp => ⟨_, rfl, fun j hj => ?_⟩⟩
 have hadd : (⟨g, 0, none⟩ : Addr).add j = ⟨g, j, none⟩ := by unfold Addr.add; split <;> simp_all
 rw [hadd]
 exact h.cell j hj
set_option maxHeartbeats 8000000 in
set_option maxRecDepth 100000 in
theorem sum_calls (s : ByteArray) (w : World) (hs : s.size ≤ 1099511627776) :
  Calls Tryz.prog 91 #[.string s] w fun e w' => e = .returned (.string (strOfNums (sumOf shaTab (bytesOf s)))) ∧ Below w.heap.size w w' := by
 obtain ⟨P, hP⟩ : ∃ P, P = padded (bytesOf s) := ⟨_, rfl⟩
 have hP64 : P.length % 64 = 0 := by rw [hP]; exact padded_length _
 have hPl : P.length ≤ 1099511628000 := by rw [hP]; have := sum_padlen (bytesOf s); rw [bytesOf_length] at this; omega
 have HPR := Aside0.mk (show ∀ x ∈ P, 0 ≤ x ∧ x ≤ 255 by rw [hP]; exact sum_range s)
 have HP := Aside0.mk hP
 have HN := Aside0.mk (show P.length = 64 * (P.length / 64) by omega)
 clear hP hP64
 go_enter Tryz.func91, Tryz.ntmps91
 go_wp2_with (first
  | (go_at_call 136; refine (padded_calls s _ hs).mono ?_; rintro e w1 ⟨v1, rfl, ho1, hb1⟩; rw [← HP.out] at ho1; have HO1 := Aside0.mk (ho1.weaken (show w.heap.size ≤ _ by simp)); have HA1 := Aside0.mk ((Arr.new w 135 H0).below hb1); have HB1 := Aside0.mk (below_step (below_alloc (Below.refl w.heap.size w) _) hb1); clear ho1 hb1))
 obtain ⟨gp, capp, LP, rfl, hLP, hgp0, hLP1, hLP2, hgp1⟩ := HO1.out.form
 subst hLP
 go_loopg [3, 5] (P.length / 64) (fun kq v3 v5 w' => ∃ (i : Nat) (sv : List Int) (A : Option Addr) (c : Nat), v5 = .int .i64 (i : Int) ∧ v3 = .slice A sv.length c ∧ Aside0 (sv.length = 8) ∧ Aside0 (sv.length ≤ c) ∧ Aside0 (i + 64 * kq = P.length) ∧ Aside0 (blocks shaTab kq sv (P.drop i) = blocks shaTab (P.length / 64) H0 P) ∧ Aside0 ((Kd.int .u32).C w' A sv.length sv) ∧ Aside0 (OwnM w' w.heap.size 5 (.slice (some ⟨gp, 0, none⟩) P.length capp) P) ∧ Aside0 (Below w.heap.size w w'))
 case atStart => exact ⟨0, H0, some ⟨w.heap.size, 0, none⟩, 8, rfl, rfl, ⟨rfl⟩, ⟨Nat.le_refl _⟩, ⟨by have := HN.out; omega⟩, ⟨rfl⟩, ⟨c_of_arr HA1.out (by decide)⟩, HO1, HB1⟩
 case round =>
  clear HA1 HB1 HO1
  obtain ⟨i, sv, A, c, rfl, rfl, HH, HC, HI, HBL, HCV, HO, HB⟩ := hrel
  have hszw : w.heap.size ≤ wr.heap.size := HB.out.size
  cases gk with
  | zero =>
   obtain rfl : i = P.length := by have := HI.out; omega
   have hi0 : decide ((P.length : Int) < (P.length : Int)) = false := by simp
   have hi1 : decide (P.length < P.length) = false := by simp
   have HS9 := Aside0.mk (show sv = blocks shaTab (P.length / 64) H0 P from by rw [← HBL.out]; rfl)
   obtain ⟨wb, hwb⟩ : ∃ wb, wb = wr := ⟨_, rfl⟩
   have HCB := Aside0.mk (show (Kd.int .u32).C wb A sv.length sv by rw [hwb]; exact HCV.out)
   have HBB := Aside0.mk (show Below w.heap.size w wb by rw [hwb]; exact HB.out)
   have HWB := Aside0.mk hwb
   clear hwb
   go_wp2_with fail
   go_loopg [6, 7] 8 (fun kq v6 v7 w' => ∃ k : Nat, v7 = .int .i64 (k : Int) ∧ Aside0 (k + kq = 8) ∧ Aside0 (OwnM w' wb.heap.size 5 v6 (out (sv.take k))) ∧ Aside0 (Below wb.heap.size wb w'))
   case atStart => exact ⟨0, rfl, ⟨rfl⟩, ⟨own_empty wr 5 _ (by rw [HWB.out]; exact Nat.le_refl _)⟩, ⟨by rw [HWB.out]; exact below_alloc (Below.refl _ _) _⟩⟩
   case round =>
    clear HB HO HCV hszw
    obtain ⟨k, rfl, HK, HO, HB9⟩ := hrel
    have hszw : wb.heap.size ≤ wr.heap.size := HB9.out.size
    have HCV := Aside0.mk (Kd.C_below HCB.out HB9.out)
    cases gk with
    | zero =>
     obtain rfl : k = 8 := by have := HK.out; omega
     go_wp2_with (first
      | ((with_reducible refine gate_dst (N := 56) rfl ?_); refine str_event wr 22 9 5 rfl (.tmp 55) rfl Tryz.underlying22 Tryz.underlying5 Tryz.underlying9 _ _ rfl HO.out ?_))
     go_ret
     have h8 : sv.take 8 = sv := List.take_of_length_le (by rw [HH.out]; omega)
     refine ⟨?_, below_step HBB.out HB9.out⟩
     rw [h8, HS9.out, HP.out]
     rfl
    | succ k7 =>
     have hk8 : decide ((k : Int) < 8) = true := by have := HK.out; simp; omega
     have hk8' : decide (k < 8) = true := by have := HK.out; simp; omega
     have hkk : k < 8 := by have := HK.out; omega
     obtain ⟨ad, hA0, hx0⟩ := (Kd.reads_of_C (d := (0 : Int)) HCV.out).at_ (k : Int) (by omega) (by rw [HH.out]; omega)
     subst hA0
     have hx0' : wr.cell? (ad.add k) = some (.int .u32 (sv.getD k 0)) := hx0
     have hadb : (ad.add k).block < wb.heap.size := by
      obtain ⟨_, e1, hx1⟩ := (Kd.reads_of_C (d := (0 : Int)) HCB.out).at_ (k : Int) (by omega) (by rw [HH.out]; omega)
      injection e1 with e1
      subst e1
      exact World.block_lt_of_cell? wb _ hx1
     obtain ⟨x9, hx9⟩ : ∃ z, sv.getD k 0 = z := ⟨_, rfl⟩
     rw [hx9] at hx0'
     clear hx0
     have HX9 := Aside0.mk hx9
     clear hx9
     have kp : (0 : Int) ≤ (k : Int) := by omega
     have kq : (k : Int) < (sv.length : Int) := by rw [HH.out]; omega
     have kq' : k < sv.length := by rw [HH.out]; omega
     have u1' : IntKind.u8.wrap (x9 / 16777216) = x9 / 16777216 % 256 := IntKind.wrap_u8 _
     have u2' : IntKind.u8.wrap (x9 / 65536) = x9 / 65536 % 256 := IntKind.wrap_u8 _
     have u3' : IntKind.u8.wrap (x9 / 256) = x9 / 256 % 256 := IntKind.wrap_u8 _
     have u4' : IntKind.u8.wrap x9 = x9 % 256 := IntKind.wrap_u8 _
     go_wp2_with fail
     go_region_held3 (fun w' => w'.cell? (ad.add k) = some (.int .u32 x9)) (first | go_keep | (rw [World.cell?_of_block (hg2.block (ad.add k).block (by simp; omega) (fun e => by have := HO.out.lt _ e.symm; omega))]; go_keep)) ((refine Buf.step_append_M _ wb.heap.size 5 (by rfl) (.tmp 29) (.tmp 53) 22 (by rfl) Tryz.underlying22 info5 _ (out (sv.take k)) (by rfl) ((HO.out.drew).alloc _) _ 4 4 [x9 / 16777216 % 256, x9 / 65536 % 256, x9 / 256 % 256, x9 % 256] (by rfl) rfl (lit_cells _ 5 _ _ rfl) (by rw [out_length, List.length_take]; simp; omega) (by simp; omega) ?_; intro v2 w2 ho2 hg2))
     have HO2 := Aside0.mk ho2
     have HB2 := Aside0.mk ((below_alloc (below_drew1 HB9.out) _).grown hg2 (by simp; omega) (fun k hk => by have := HO.out.lt k hk; omega))
     clear ho2 hg2
     go_wp2_with fail
     go_roundg k7
     case measure => omega
     case rel => exact ⟨k + 1, by go_num, ⟨by have := HK.out; omega⟩, ⟨by rw [← out_take _ _ (by rw [HH.out]; exact hkk), HX9.out]; exact HO2.out⟩, HB2⟩
  | succ k3 =>
   have hi0 : decide ((i : Int) < (P.length : Int)) = true := by have := HI.out; simp; omega
   have hi1 : decide (i < P.length) = true := by have := HI.out; simp; omega
   have hiL : i + 64 ≤ P.length := by have := HI.out; omega
   obtain ⟨i5, hi5, hz5⟩ := Option.map_eq_some_iff.1 info5
   simp only [Prod.mk.injEq] at hz5
   obtain ⟨A', hrun, hread, hcap⟩ := print_mid_int (P := Tryz.prog) (k := .u8) 22 5 Tryz.underlying22 hi5 hz5.2.1 (some ⟨gp, 0, none⟩) capp P (i : Int) ((i : Int) + 64) (by omega) (by omega) (by omega) hLP1
   obtain ⟨sl, hsl⟩ : ∃ sl, (P.take ((i : Int) + 64).toNat).drop ((i : Int)).toNat = sl := ⟨_, rfl⟩
   have hsl2 : sl = (P.drop i).take 64 := by rw [← hsl, show ((i : Int) + 64).toNat = i + 64 by omega, show ((i : Int)).toNat = i by omega, List.take_drop, Nat.add_comm]
   rw [hsl] at hrun hread hcap
   have hrd := hread wr (by obtain ⟨A9, c9, e9, r9⟩ := HO.out.reads; injection e9 with e1 e2 e3; rw [← e1] at r9; exact r9)
   have hll : sl.length = 64 := by rw [hsl2, List.length_take, List.length_drop]; omega
   obtain ⟨K, hK⟩ := block_ev sv sl HH.out hll (fun x hx => HPR.out x (by rw [hsl2] at hx; exact List.mem_of_mem_drop (List.mem_of_mem_take hx)))
   have HF := Aside0.mk (hK K (Nat.le_refl _))
   have HSL := Aside0.mk hsl2
   have HRD := Aside0.mk hrd
   have HCP := Aside0.mk hcap
   clear hsl hsl2 hread hrd hK hll hcap hi5 hz5
   go_wp2_with (first
    | (go_at_call 137; refine (spec_l6Block.calls K A c sv A' _ sl _ _ HCV.out HC.out (Kd.C_of_reads (d := (0 : Int)) HRD.out) HCP.out HF.out).mono ?_; rintro e w9 ⟨v9, rfl, hR9, hb9⟩; obtain ⟨A9, c9, e9, l9, C9⟩ := Kd.R_reads hR9; subst e9; have HC9 := Aside0.mk C9; have HL9 := Aside0.mk l9; have HO9 := Aside0.mk (HO.out.below hb9); have HB9 := Aside0.mk (below_step HB.out hb9); clear hR9 C9 l9 hb9))
   go_roundg k3
   case measure => omega
   case rel => exact ⟨i + 64, block shaTab sv sl, A9, c9, by go_num, rfl, ⟨block_length _ _ _ HH.out⟩, HL9, ⟨by have := HI.out; omega⟩, ⟨by
    rw [← HBL.out, HSL.out, ← List.drop_drop]
    rfl⟩, HC9, HO9, HB9⟩
end Go.Proofs.YtnjdoinlnbjedaaGreatDoor.M
end

section
/- The sum of a text. -/
namespace Go.Proofs.YtnjdoinlnbjedaaGreatDoor.Rf
open Go Go.RowKit Go.Proofs.YtnjdoinlnbjedaaGreatDoorW.PrintWords Go.Proofs.YtnjdoinlnbjedaaGreatDoorW.PrintMore
def qfb (s : ByteArray) : ByteArray := strOfNums (Go.Proofs.YtnjdoinlnbjedaaGreatDoor.Sha.sumOf Go.Proofs.YtnjdoinlnbjedaaGreatDoor.M.shaTab (bytesOf s))
end Go.Proofs.YtnjdoinlnbjedaaGreatDoor.Rf
end

section
/- spec.l6Sum: the sum of a text, by the walk of ShaSum. -/
namespace Go.Proofs.YtnjdoinlnbjedaaGreatDoor.Rf
open Go Go.RowKit
set_option linter.unusedVariables false
set_option linter.unusedSimpArgs false
abbrev q2p.ps : List Par := [⟨.str, .rd⟩]
abbrev q2p.rs : List Res := [⟨.str, .ro, false⟩]
def q2p.F (_ : Nat) (x : ByteArray) : Option ByteArray := if x.size ≤ 1099511627776 then some (qfb x) else none
def q2p.f (k : Nat) (s : ByteArray) : Option ByteArray := q2p.F k s
theorem q2p.can : Can Tryz.prog 91 := q6f (fn := Tryz.f91) (by kernel_rfl) (by kernel_rfl) (by kernel_rfl)
theorem q2p.snd (k : Nat) : Snd Tryz.prog Jp 91 ⟨q2p.ps, q2p.rs, q2p.F k⟩ := by
 refine q8p rfl ?_
 intro (s : ByteArray) r hr ξ w vs wf hj hsz ha
 simp only [q2p.F] at hr
 split at hr
 case isFalse => cases hr
 rename_i h
 obtain rfl := Option.some.inj hr
 obtain ⟨T0, h0⟩ := ha 0 _ _ rfl rfl
 obtain rfl := qaz hsz (q6g (by simp) h0)
 refine (Go.Proofs.YtnjdoinlnbjedaaGreatDoor.M.sum_calls s w h).mono ?_
 rintro e w' ⟨rfl, hb⟩
 exact ⟨_, Em, rfl, hb, q9n _ _ _ _, fun b hb => hb.elim⟩
end Go.Proofs.YtnjdoinlnbjedaaGreatDoor.Rf
end

section
namespace Go.Proofs.YtnjdoinlnbjedaaGreatDoor.M
open Go.RowKit Go.Proofs.YtnjdoinlnbjedaaGreatDoorW.PrintWords Go.Proofs.YtnjdoinlnbjedaaGreatDoorW.PrintLast Go.Proofs.YtnjdoinlnbjedaaGreatDoorW.PrintMore Go.Proofs.YtnjdoinlnbjedaaGreatDoor.Sq
set_option synthInstance.maxHeartbeats 2000000
set_option synthInstance.maxSize 4096
attribute [local go_sem] max2_int min2_int max_two min_two max_three min_three max_four min_four
set_option linter.unusedVariables false
set_option linter.unusedSimpArgs false
set_option maxHeartbeats 8000000
set_option maxRecDepth 100000
theorem gf93 : Go_ Tryz.prog 93 Tryz.f93 := ⟨Tryz.func93, by kernel_rfl, rfl⟩
def spec_l1Dec.f : Nat → Int → Option (ByteArray)
 | 0, _ => none
 | k + 1, a0 => if a0 < (-9223372036854775807) then (some (⟨#[45, 57, 50, 50, 51, 51, 55, 50, 48, 51, 54, 56, 53, 52, 55, 55, 53, 56, 48, 56]⟩ : ByteArray)) else (if a0 < 0 then ((spec_l1Dec.f k (wrap64 (-a0))).bind fun t101 => (if 1 + t101.size ≤ 9223372036854775807 then (some ((⟨#[45]⟩ : ByteArray) ++ t101)) else (none))) else (if a0 < 10 then (some (strOfNums (([(wrap64 (48 + a0)) % 256] : List Int)))) else ((spec_l1Dec.f k (wrap64 (Int.tdiv a0 10))).bind fun t105 => ((some (([(wrap64 (48 + (Int.tmod a0 10))) % 256] : List Int) : List Int)).bind fun y106 => (if t105.size + (strOfNums y106).size ≤ 9223372036854775807 then (some (t105 ++ (strOfNums y106))) else (none))))))
theorem spec_l1Dec.mono_l : ∀ k, (∀ y0, LeO (spec_l1Dec.f k y0) (spec_l1Dec.f (k + 1) y0))
 | 0 => fun _ r h => by simp [spec_l1Dec.f] at h
 | k + 1 => by
  have ih0 := spec_l1Dec.mono_l k
  ·intro y0
   unfold spec_l1Dec.f
   have I0_ := fun a => LeC.mk (ih0 a)
   exact LeC.out
theorem spec_l1Dec.mono : ∀ a0 k, LeO (spec_l1Dec.f k a0) (spec_l1Dec.f (k + 1) a0) := by
 intro a0 k
 have ih0 := spec_l1Dec.mono_l k
 exact ih0 a0
def spec_l1Dec.T7 : Bool × List (List Nat × List Nat) := (true, [([], []), ([0], [0]), ([1], [1]), ([], []), ([3], [3]), ([4], [4]), ([5], [5]), ([6], [6]), ([7], [7]), ([2, 8], [2, 8]), ([9, 2, 0, 1, 2, 3, 4, 5, 6, 7, 8, 9], [9])])
def spec_l1Dec.B7 : List Nat := [0, 1, 3, 0, 8, 24, 56, 120, 248, 511, 1023]
theorem spec_l1Dec.tab7 : rtab .any (opsOf Tryz.f93 7) = spec_l1Dec.T7 := by kernel_rfl
theorem spec_l1Dec.bits7 : waitsOk spec_l1Dec.T7.2 spec_l1Dec.B7 = true := by kernel_rfl
theorem spec_l1Dec.calls (k : Nat) : ∀ (a0 : Int) (r : ByteArray) (w : World) (h : spec_l1Dec.f k a0 = some r),
  Calls Tryz.prog 93 #[.int .i64 a0] w fun e w' => e = .returned (.string r) ∧ Below w.heap.size w w' := by
 induction k using Nat.strongRecOn with
 | _ k ih =>
 intro a0 r w h
 cases k with
 | zero => exact absurd h (by simp [spec_l1Dec.f])
 | succ k =>
 simp only [spec_l1Dec.f] at h
 have HB := Aside0.mk (Below.refl w.heap.size w)
 have H : (if a0 < (-9223372036854775807) then (some (⟨#[45, 57, 50, 50, 51, 51, 55, 50, 48, 51, 54, 56, 53, 52, 55, 55, 53, 56, 48, 56]⟩ : ByteArray)) else (if a0 < 0 then ((spec_l1Dec.f k (wrap64 (-a0))).bind fun t101 => (if 1 + t101.size ≤ 9223372036854775807 then (some ((⟨#[45]⟩ : ByteArray) ++ t101)) else (none))) else (if a0 < 10 then (some (strOfNums (([(wrap64 (48 + a0)) % 256] : List Int)))) else ((spec_l1Dec.f k (wrap64 (Int.tdiv a0 10))).bind fun t105 => ((some (([(wrap64 (48 + (Int.tmod a0 10))) % 256] : List Int) : List Int)).bind fun y106 => (if t105.size + (strOfNums y106).size ≤ 9223372036854775807 then (some (t105 ++ (strOfNums y106))) else (none))))))) = some r := h
 clear h
 by_cases c2 : a0 < (-9223372036854775807)
 ·rw [if_pos c2] at H
  have c2b0 := decide_eq_true c2
  clear c2
  obtain rfl := Option.some.inj H
  go_enter Tryz.func93, Tryz.ntmps93
  go_wp2
  go_ret
  exact ⟨by rfl, bx HB.out⟩
 ·rw [if_neg c2] at H
  have c2b0 := decide_eq_false c2
  clear c2
  by_cases c3 : a0 < 0
  ·rw [if_pos c3] at H
   have c3b0 := decide_eq_true c3
   clear c3
   replace H := Option.bind_eq_some_iff.mp H
   obtain ⟨t101, A40, H⟩ := H
   have A4 := Aside0.mk A40
   clear A40
   have c5 := ite_y H
   replace H := ite_t H
   have c5b0 := eq_true c5
   have c5b1 := decide_eq_true c5
   try have c5b2 : (9223372036854775807 < 1 + t101.size) = False := eq_false (Nat.not_lt.2 c5)
   obtain rfl := Option.some.inj H
   go_enter Tryz.func93, Tryz.ntmps93
   go_wp2_with (first | ((with_reducible refine gate_callee (f := 93) rfl ?_); refine goL (some 9) rfl rfl gf93 #[.int .i64 (wrap64 (-a0))] rfl rfl ?_; (with_reducible refine (ih k (by omega) (wrap64 (-a0)) t101 _ A4.out).mono ?_); rintro e w6 ⟨rfl, hb⟩; refine ⟨_, rfl, ?_⟩; replace HB := kB HB hb; (try clear hb); (try clear hb2); (try clear hk); (try clear hi)))
   go_ret
   exact ⟨by rfl, bx HB.out⟩
  ·rw [if_neg c3] at H
   have c3b0 := decide_eq_false c3
   clear c3
   by_cases c7 : a0 < 10
   ·rw [if_pos c7] at H
    have c7b0 := decide_eq_true c7
    clear c7
    obtain ⟨y102, hy102⟩ : ∃ y_ : List Int, y_ = (([(wrap64 (48 + a0)) % 256] : List Int)) := ⟨_, rfl⟩
    first | replace H := bind_y hy102 H | rw [← hy102] at H
    have Ny102 := Aside0.mk hy102
    clear hy102
    obtain rfl := Option.some.inj H
    go_enter Tryz.func93, Tryz.ntmps93
    go_wp2_with (first | ((with_reducible refine gate_dst (N := 16) rfl ?_); refine Kd.R_lit (Kd.int .u8) _ 5 ?hg (N := 16) ?hd (xs := ([(wrap64 (48 + a0)) % 256] : List Int)) (inner := [.int .u8 ((wrap64 (48 + a0)) % 256)]) (ok := fun _ => True) (okp := fun _ => True) ?hr ?hp (fun _ hk => hk) trivial (Below.refl _ _) (Nat.le_refl _) (by simp) ?_; (case hd => rfl); (case hg => rfl); (case hr => first | (go_simp; done) | (go_simp; rfl)); (case hp => exact (Reps.one (show Kd.M (Kd.int .u8) _ _ _ ((wrap64 (48 + a0)) % 256) [.int .u8 ((wrap64 (48 + a0)) % 256)] from rfl) (Reps.none _ _))); intro v103 w8 ho9 hb hg_ hnew_; clear hg_ hnew_; (first | rw [← Ny102.out] at ho9 | (simp only [Int.reduceToNat] at ho9; rw [← Ny102.out] at ho9)); have HO104 := Aside0.mk (Kd.R_lower ho9 (bz HB.out)); replace HB := kB HB hb; clear hb ho9; have hcv10 := own_string (P := Tryz.prog) Tryz.underlying22 Tryz.underlying5 Tryz.underlying9 (Kd.own_of_R HO104.out)))
    go_ret
    exact ⟨by rfl, bx HB.out⟩
   ·rw [if_neg c7] at H
    have c7b0 := decide_eq_false c7
    clear c7
    replace H := Option.bind_eq_some_iff.mp H
    obtain ⟨t105, A110, H⟩ := H
    have A11 := Aside0.mk A110
    clear A110
    obtain ⟨y106, hy106⟩ : ∃ y_ : List Int, y_ = (([(wrap64 (48 + (Int.tmod a0 10))) % 256] : List Int)) := ⟨_, rfl⟩
    first | replace H := bind_y hy106 H | rw [← hy106] at H
    have Ny106 := Aside0.mk hy106
    clear hy106
    have c12 := ite_y H
    replace H := ite_t H
    have c12b0 := eq_true c12
    have c12b1 := decide_eq_true c12
    try have c12b2 : (9223372036854775807 < t105.size + (strOfNums y106).size) = False := eq_false (Nat.not_lt.2 c12)
    obtain rfl := Option.some.inj H
    go_enter Tryz.func93, Tryz.ntmps93
    try go_wp2
    replace HB := Aside0.mk (below_drew1 HB.out)
    refine start_ (n := 11) (S := fun w' => True) (ds := []) _ (by kernel_rfl) rfl rfl trivial (fun hHeld => ?_); refine with_tabW spec_l1Dec.tab7 spec_l1Dec.bits7 (fun HT_ HW_ => ?_)
    generalize w.drew = w13 at HB hHeld ⊢
    refine ord_ [.p 0 18, .p 1 19, .p 3 21, .p 4 22, .p 5 23, .p 6 24] ?_
    repeat (refine pu_ (v := ?_) (a' := ?_) HT_ rfl rfl (by kernel_rfl) (fun _ _ _ h => h) (by rfl) ?_ ?_ ?_; rotate_left 2; (intro w'; go_simp; with_reducible rfl); (simp only [pL, pN, s0_, s1_, i64_w, i32_w]; rfl))
    refine ord0 ?_
    refine join_ (σ := Value) 2 #[true, true, true, true, true, true, true, true, true, false, false] (fun s_ => [(20, .string t105), (25, s_), (26, .string (strOfNums y106))]) (fun s_ w' => (Kd.R (Kd.int .u8) 5 w' w.heap.size (fun _ => True) s_ y106) ∧ (Below w.heap.size w w')) ?_ ?_
    rotate_left
    ·intro hCont
     refine two_ (i := 2) (j := 7) (Ni := some 20) (Nj := some 25) #[true, true, true, true, true, true, true, false, false, false, false] #[true, true, false, true, true, true, true, true, false, false, false] rfl rfl rfl rfl (two_of HT_.out (by kernel_rfl)) (by decide) (by decide) (fun K hK => ?_) (fun K hK => ?_)
     ·skip
      refine goM gf93 #[.int .i64 (wrap64 (Int.tdiv a0 10))] (by rfl) rfl rfl rfl ?_
      with_reducible refine (ih k (by omega) (wrap64 (Int.tdiv a0 10)) t105 _ A11.out).mono ?_
      rintro e w14 ⟨rfl, hb⟩
      refine ⟨_, rfl, ?_⟩
      replace HB := kB HB hb
      (try clear hb)
      (try clear hb2)
      (try clear hk)
      (try clear hi)
      refine hK.out _ _ trivial (fun hHeld => ?_)
      clear hK K
      refine norm_ (a' := ?_) ?_ ?_
      rotate_left
      ·show Act.put _ (some 20) _ = _
       simp only [pL, pN, s0_, s1_, i64_w, i32_w]
       rfl
      refine on_ (i := 7) (N := some 25) HT_ rfl rfl (by kernel_rfl) (by decide) (fun K hK => ?_)
      refine Kd.R_lit_step (Kd.int .u8) _ 5 ?hg (N := 25) ?hd (xs := ([(wrap64 (48 + (Int.tmod a0 10))) % 256] : List Int)) (inner := [.int .u8 ((wrap64 (48 + (Int.tmod a0 10))) % 256)]) (ok := fun _ => True) (okp := fun _ => True) ?hr ?hp (fun _ hk => hk) trivial (Below.refl _ _) (Nat.le_refl _) (by simp) ?_; (case hd => rfl); (case hg => rfl); (case hr => first | (go_simp; done) | (go_simp; rfl)); (case hp => exact (Reps.one (show Kd.M (Kd.int .u8) _ _ _ ((wrap64 (48 + (Int.tmod a0 10))) % 256) [.int .u8 ((wrap64 (48 + (Int.tmod a0 10))) % 256)] from rfl) (Reps.none _ _)))
      intro v107 w15 ho16 hb hg_ hnew_
      clear hg_ hnew_
      (first | rw [← Ny106.out] at ho16 | (simp only [Int.reduceToNat] at ho16; rw [← Ny106.out] at ho16))
      have HO108 := Aside0.mk (Kd.R_lower ho16 (bz HB.out))
      replace HB := kB HB hb
      clear hb ho16
      refine hK.out _ _ trivial (fun hHeld => ?_)
      clear hK K
      refine norm_ (a' := ?_) ?_ ?_
      rotate_left
      ·show Act.put _ (some 25) _ = _
       simp only [pL, pN, s0_, s1_, i64_w, i32_w]
       rfl
      refine on_ (i := 8) (N := some 26) HT_ rfl rfl (by kernel_rfl) (by decide) (fun K hK => ?_)
      have hcv17 := own_string (P := Tryz.prog) Tryz.underlying22 Tryz.underlying5 Tryz.underlying9 (Kd.own_of_R HO108.out)
      refine value_ (w1 := ?_) (v := ?_) (by rfl) rfl ?_ ?_
      rotate_left 2
      ·go_simp
       constructor
       ·rfl
       ·rfl
      clear hcv17
      refine hK.out _ _ trivial (fun hHeld => ?_)
      clear hK K
      refine norm_ (a' := ?_) ?_ ?_
      rotate_left
      ·show Act.put _ (some 26) _ = _
       simp only [pL, pN, s0_, s1_, i64_w, i32_w]
       rfl
      exact norm_ (by simp only [putAll, Act.put, List.setIfInBounds_toArray, List.set_cons_zero, List.set_cons_succ]) (hCont (v107) _ ⟨(rx HO108.out), (bx HB.out)⟩)
     ·skip
      refine Kd.R_lit_step (Kd.int .u8) _ 5 ?hg (N := 25) ?hd (xs := ([(wrap64 (48 + (Int.tmod a0 10))) % 256] : List Int)) (inner := [.int .u8 ((wrap64 (48 + (Int.tmod a0 10))) % 256)]) (ok := fun _ => True) (okp := fun _ => True) ?hr ?hp (fun _ hk => hk) trivial (Below.refl _ _) (Nat.le_refl _) (by simp) ?_; (case hd => rfl); (case hg => rfl); (case hr => first | (go_simp; done) | (go_simp; rfl)); (case hp => exact (Reps.one (show Kd.M (Kd.int .u8) _ _ _ ((wrap64 (48 + (Int.tmod a0 10))) % 256) [.int .u8 ((wrap64 (48 + (Int.tmod a0 10))) % 256)] from rfl) (Reps.none _ _)))
      intro v107 w14 ho15 hb hg_ hnew_
      clear hg_ hnew_
      (first | rw [← Ny106.out] at ho15 | (simp only [Int.reduceToNat] at ho15; rw [← Ny106.out] at ho15))
      have HO108 := Aside0.mk (Kd.R_lower ho15 (bz HB.out))
      replace HB := kB HB hb
      clear hb ho15
      refine hK.out _ _ trivial (fun hHeld => ?_)
      clear hK K
      refine norm_ (a' := ?_) ?_ ?_
      rotate_left
      ·show Act.put _ (some 25) _ = _
       simp only [pL, pN, s0_, s1_, i64_w, i32_w]
       rfl
      refine two_ (i := 2) (j := 8) (Ni := some 20) (Nj := some 26) #[true, true, true, true, true, true, true, true, false, false, false] #[true, true, false, true, true, true, true, true, true, false, false] rfl rfl rfl rfl (two_of HT_.out (by kernel_rfl)) (by decide) (by decide) (fun K hK => ?_) (fun K hK => ?_)
      ·skip
       refine goM gf93 #[.int .i64 (wrap64 (Int.tdiv a0 10))] (by rfl) rfl rfl rfl ?_
       with_reducible refine (ih k (by omega) (wrap64 (Int.tdiv a0 10)) t105 _ A11.out).mono ?_
       rintro e w16 ⟨rfl, hb⟩
       refine ⟨_, rfl, ?_⟩
       replace HO108 := kR HO108 hb
       replace HB := kB HB hb
       (try clear hb)
       (try clear hb2)
       (try clear hk)
       (try clear hi)
       refine hK.out _ _ trivial (fun hHeld => ?_)
       clear hK K
       refine norm_ (a' := ?_) ?_ ?_
       rotate_left
       ·show Act.put _ (some 20) _ = _
        simp only [pL, pN, s0_, s1_, i64_w, i32_w]
        rfl
       refine on_ (i := 8) (N := some 26) HT_ rfl rfl (by kernel_rfl) (by decide) (fun K hK => ?_)
       have hcv17 := own_string (P := Tryz.prog) Tryz.underlying22 Tryz.underlying5 Tryz.underlying9 (Kd.own_of_R HO108.out)
       refine value_ (w1 := ?_) (v := ?_) (by rfl) rfl ?_ ?_
       rotate_left 2
       ·go_simp
        constructor
        ·rfl
        ·rfl
       clear hcv17
       refine hK.out _ _ trivial (fun hHeld => ?_)
       clear hK K
       refine norm_ (a' := ?_) ?_ ?_
       rotate_left
       ·show Act.put _ (some 26) _ = _
        simp only [pL, pN, s0_, s1_, i64_w, i32_w]
        rfl
       exact norm_ (by simp only [putAll, Act.put, List.setIfInBounds_toArray, List.set_cons_zero, List.set_cons_succ]) (hCont (v107) _ ⟨(rx HO108.out), (bx HB.out)⟩)
      ·skip
       have hcv16 := own_string (P := Tryz.prog) Tryz.underlying22 Tryz.underlying5 Tryz.underlying9 (Kd.own_of_R HO108.out)
       refine value_ (w1 := ?_) (v := ?_) (by rfl) rfl ?_ ?_
       rotate_left 2
       ·go_simp
        constructor
        ·rfl
        ·rfl
       clear hcv16
       refine hK.out _ _ trivial (fun hHeld => ?_)
       clear hK K
       refine norm_ (a' := ?_) ?_ ?_
       rotate_left
       ·show Act.put _ (some 26) _ = _
        simp only [pL, pN, s0_, s1_, i64_w, i32_w]
        rfl
       refine on_ (i := 2) (N := some 20) HT_ rfl rfl (by kernel_rfl) (by decide) (fun K hK => ?_)
       refine goM gf93 #[.int .i64 (wrap64 (Int.tdiv a0 10))] (by rfl) rfl rfl rfl ?_
       with_reducible refine (ih k (by omega) (wrap64 (Int.tdiv a0 10)) t105 _ A11.out).mono ?_
       rintro e w17 ⟨rfl, hb⟩
       refine ⟨_, rfl, ?_⟩
       replace HO108 := kR HO108 hb
       replace HB := kB HB hb
       (try clear hb)
       (try clear hb2)
       (try clear hk)
       (try clear hi)
       refine hK.out _ _ trivial (fun hHeld => ?_)
       clear hK K
       refine norm_ (a' := ?_) ?_ ?_
       rotate_left
       ·show Act.put _ (some 20) _ = _
        simp only [pL, pN, s0_, s1_, i64_w, i32_w]
        rfl
       exact norm_ (by simp only [putAll, Act.put, List.setIfInBounds_toArray, List.set_cons_zero, List.set_cons_succ]) (hCont (v107) _ ⟨(rx HO108.out), (bx HB.out)⟩)
    rintro v107 w18 ⟨h0_, h1_⟩
    have n0_ : Aside0 (Kd.R (Kd.int .u8) 5 w18 w.heap.size (fun _ => True) v107 y106) := ⟨h0_⟩
    have n1_ : Aside0 (Below w.heap.size w w18) := ⟨h1_⟩
    clear HB
    clear h0_ h1_
    have HO108 := n0_
    have HB := n1_
    clear n0_ n1_
    have hHeld := trivial
    refine norm_ (a' := ?_) ?_ ?_
    rotate_left
    ·simp only [putAll, Act.put, List.setIfInBounds_toArray, List.set_cons_zero, List.set_cons_succ]
     rfl
    refine ord_ [.p 9 27, .p 10 2] ?_
    repeat (refine pu_ (v := ?_) (a' := ?_) HT_ rfl rfl (by kernel_rfl) (fun _ _ _ h => h) (by rfl) ?_ ?_ ?_; rotate_left 2; (intro w'; go_simp; with_reducible rfl); (simp only [pL, pN, s0_, s1_, i64_w, i32_w]; rfl))
    refine ord0 ?_
    refine done_ (done_of HT_.out (by kernel_rfl)) ?_
    try go_wp2
    go_ret
    exact ⟨by rfl, bx HB.out⟩
end Go.Proofs.YtnjdoinlnbjedaaGreatDoor.M
end

section
/- spec.l1Dec: the printed contract of the old road. -/
namespace Go.Proofs.YtnjdoinlnbjedaaGreatDoor.Rf
open Go Go.RowKit
set_option linter.unusedVariables false
set_option linter.unusedSimpArgs false
abbrev spec_l1Dec.ps : List Par := [⟨.int .i64, .rd⟩]
abbrev spec_l1Dec.rs : List Res := [⟨.str, .ro, false⟩]
def spec_l1Dec.F (k : Nat) (x : Int) : Option ByteArray := Go.Proofs.YtnjdoinlnbjedaaGreatDoor.M.spec_l1Dec.f k x
def spec_l1Dec.f (k : Nat) (n : Int) : Option ByteArray := spec_l1Dec.F k n
theorem spec_l1Dec.can : Can Tryz.prog 93 := q6f (fn := Tryz.f93) (by kernel_rfl) (by kernel_rfl) (by kernel_rfl)
theorem spec_l1Dec.snd (k : Nat) : Snd Tryz.prog Jp 93 ⟨spec_l1Dec.ps, spec_l1Dec.rs, spec_l1Dec.F k⟩ := by
 refine q8p rfl ?_
 intro (n : Int) r hr ξ w vs wf hj hsz ha
 obtain ⟨T0, h0⟩ := ha 0 _ _ rfl rfl
 obtain rfl := qaz hsz (qho (by simp) h0)
 refine (Go.Proofs.YtnjdoinlnbjedaaGreatDoor.M.spec_l1Dec.calls k n r w hr).mono ?_
 rintro e w' ⟨rfl, hb⟩
 exact ⟨_, Em, rfl, hb, q9n _ _ _ _, fun b hb => hb.elim⟩
end Go.Proofs.YtnjdoinlnbjedaaGreatDoor.Rf
end

section
/- Functions of the program, told plainly, and their contracts: part A1. -/
namespace Go.Proofs.YtnjdoinlnbjedaaGreatDoor.Rf
open Go Go.RowKit
set_option linter.unusedVariables false
noncomputable section
def q0g.C (k : Nat) : CEs := []
abbrev q0g.ps : List Par := [⟨t90, .rd⟩]
abbrev q0g.rs : List Res := [⟨.str, .ro, false⟩]
def q0g.H : q3d := [(4, [(1, .ro), (3, .ro)])]
def q0g.F := q3i E q0g.C q0g.H Tryz.f99 q0g.ps q0g.rs
def q0g.J4 (k : Nat) (x1 : Aff) (x3 : ByteArray) : Option (ByteArray) := atJ E q0g.C q0g.H Tryz.f99 q0g.ps q0g.rs [true, true, true] 0 [] k (sh 23 [(1, .box t90 x1 .ro none), (3, .d .str x3 .ro)])
def q0g.f (k : Nat) (x0 : Aff) : Option (ByteArray) := q0g.F k x0
theorem q0g.f_eq (k : Nat) (x0 : Aff) : q0g.f k x0 = ifb x0.2.1 (q0g.J4 k x0 (⟨#[102, 114, 111, 110, 116]⟩ : ByteArray)) (q0g.J4 k x0 (⟨#[101, 110, 100]⟩ : ByteArray)) := by kernel_rfl
theorem q0g.J4_eq (k : Nat) (x1 : Aff) (x3 : ByteArray) : q0g.J4 (k + 1) x1 x3 = ifb (q4i (x3.size + (⟨#[32]⟩ : ByteArray).size)) (ifb (q4i ((x3 ++ (⟨#[32]⟩ : ByteArray)).size + x1.1.size)) (ifb (q4i (((x3 ++ (⟨#[32]⟩ : ByteArray)) ++ x1.1).size + (⟨#[32]⟩ : ByteArray).size)) (ifb (q4i ((((x3 ++ (⟨#[32]⟩ : ByteArray)) ++ x1.1) ++ (⟨#[32]⟩ : ByteArray)).size + x1.2.2.1.size)) (ifb (q4i (((((x3 ++ (⟨#[32]⟩ : ByteArray)) ++ x1.1) ++ (⟨#[32]⟩ : ByteArray)) ++ x1.2.2.1).size + (⟨#[32]⟩ : ByteArray).size)) (ifb (q4i ((((((x3 ++ (⟨#[32]⟩ : ByteArray)) ++ x1.1) ++ (⟨#[32]⟩ : ByteArray)) ++ x1.2.2.1) ++ (⟨#[32]⟩ : ByteArray)).size + x1.2.2.2.1.size)) (ifb (q4i (((((((x3 ++ (⟨#[32]⟩ : ByteArray)) ++ x1.1) ++ (⟨#[32]⟩ : ByteArray)) ++ x1.2.2.1) ++ (⟨#[32]⟩ : ByteArray)) ++ x1.2.2.2.1).size + (⟨#[32]⟩ : ByteArray).size)) (ifb (q4i ((((((((x3 ++ (⟨#[32]⟩ : ByteArray)) ++ x1.1) ++ (⟨#[32]⟩ : ByteArray)) ++ x1.2.2.1) ++ (⟨#[32]⟩ : ByteArray)) ++ x1.2.2.2.1) ++ (⟨#[32]⟩ : ByteArray)).size + x1.2.2.2.2.size)) (some ((((((((x3 ++ (⟨#[32]⟩ : ByteArray)) ++ x1.1) ++ (⟨#[32]⟩ : ByteArray)) ++ x1.2.2.1) ++ (⟨#[32]⟩ : ByteArray)) ++ x1.2.2.2.1) ++ (⟨#[32]⟩ : ByteArray)) ++ x1.2.2.2.2)) (none)) (none)) (none)) (none)) (none)) (none)) (none)) (none) := by kernel_rfl
abbrev q0g.e (k : Nat) : FuncId × CE := (99, ⟨q0g.ps, q0g.rs, q0g.F k⟩)
theorem q0g.q (k : Nat) : Qs (q0g.e k) := qq (C := q0g.C) (fun k => .nil) k
def q1l.C (k : Nat) : CEs := []
abbrev q1l.ps : List Par := [⟨t92, .rd⟩]
abbrev q1l.rs : List Res := [⟨.str, .ro, false⟩]
def q1l.F := q3i E q1l.C [] Tryz.f100 q1l.ps q1l.rs
def q1l.f (k : Nat) (x0 : ByteArray × ByteArray) : Option (ByteArray) := q1l.F k x0
theorem q1l.f_eq (k : Nat) (x0 : ByteArray × ByteArray) : q1l.f k x0 = ifb (x0.2.toList == bz.toList) (some x0.1) (ifb (q4i (x0.1.size + (⟨#[47]⟩ : ByteArray).size)) (ifb (q4i ((x0.1 ++ (⟨#[47]⟩ : ByteArray)).size + x0.2.size)) (some ((x0.1 ++ (⟨#[47]⟩ : ByteArray)) ++ x0.2)) (none)) (none)) := by kernel_rfl
abbrev q1l.e (k : Nat) : FuncId × CE := (100, ⟨q1l.ps, q1l.rs, q1l.F k⟩)
theorem q1l.q (k : Nat) : Qs (q1l.e k) := qq (C := q1l.C) (fun k => .nil) k
def q1g.C (k : Nat) : CEs := [q0g.e k, q1l.e k]
abbrev q1g.ps : List Par := [⟨t38, .rd⟩]
abbrev q1g.rs : List Res := [⟨.str, .ro, false⟩]
def q1g.H : q3d := [(3, [(1, .ro), (3, .ro), (4, .ro)]), (7, [(1, .ro), (3, .ro), (5, .ro)])]
def q1g.F := q3i E q1g.C q1g.H Tryz.f50 q1g.ps q1g.rs
def q1g.L3 (k k1 : Nat) (x1 : Book) (x3 : ByteArray) (x4 : Int) : Option (ByteArray) := atL E q1g.C q1g.H Tryz.f50 q1g.ps q1g.rs [true, true, false, true, true] k [] k1 (sh 39 [(1, .box t38 x1 .ro none), (3, .d .str x3 .ro), (4, .d (.int .i64) x4 .ro)])
def q1g.L7 (k k1 : Nat) (x1 : Book) (x3 : ByteArray) (x5 : Int) : Option (ByteArray) := atL E q1g.C q1g.H Tryz.f50 q1g.ps q1g.rs [true, true, true, false, true, true] k [] k1 (sh 39 [(1, .box t38 x1 .ro none), (3, .d .str x3 .ro), (5, .d (.int .i64) x5 .ro)])
def q1g.f (k : Nat) (x0 : Book) : Option (ByteArray) := q1g.F k x0
theorem q1g.f_eq (k : Nat) (x0 : Book) : q1g.f k x0 = q1g.L3 k k x0 bz (0 : Int) := by kernel_rfl
theorem q1g.L3_eq (k k1 : Nat) (x1 : Book) (x3 : ByteArray) (x4 : Int) : q1g.L3 k (k1 + 1) x1 x3 x4 = ifb (decide (x4 < (x1.1.length : Int))) (ifb (decide (0 ≤ x4) && decide (x4 < (x1.1.length : Int))) ((q0g.f k1 (x1.1.getD x4.toNat zA)).bind fun (r0 : ByteArray) => ifb (q4i (x3.size + r0.size)) (ifb (q4i ((x3 ++ r0).size + (⟨#[10]⟩ : ByteArray).size)) (q1g.L3 k k1 x1 ((x3 ++ r0) ++ (⟨#[10]⟩ : ByteArray)) (w64 (x4 + 1))) (none)) (none)) (none)) (q1g.L7 k k x1 x3 (0 : Int)) := by kernel_rfl
theorem q1g.L7_eq (k k1 : Nat) (x1 : Book) (x3 : ByteArray) (x5 : Int) : q1g.L7 k (k1 + 1) x1 x3 x5 = ifb (decide (x5 < (x1.2.length : Int))) (ifb (decide (0 ≤ x5) && decide (x5 < (x1.2.length : Int))) ((q1l.f k1 (x1.2.getD x5.toNat zE)).bind fun (r1 : ByteArray) => ifb (q4i (x3.size + r1.size)) (ifb (q4i ((x3 ++ r1).size + (⟨#[10]⟩ : ByteArray).size)) (q1g.L7 k k1 x1 ((x3 ++ r1) ++ (⟨#[10]⟩ : ByteArray)) (w64 (x5 + 1))) (none)) (none)) (none)) (some x3) := by kernel_rfl
abbrev q1g.e (k : Nat) : FuncId × CE := (50, ⟨q1g.ps, q1g.rs, q1g.F k⟩)
theorem q1g.q (k : Nat) : Qs (q1g.e k) := qq (C := q1g.C) (fun k => .c (q0g.q k) <| .c (q1l.q k) <| .nil) k
def q1q.C (k : Nat) : CEs := []
abbrev q1q.ps : List Par := [⟨.str, .rd⟩]
abbrev q1q.rs : List Res := [⟨.str, .ro, false⟩]
def q1q.H : q3d := [(4, [(0, .ro), (3, .ro), (4, (.own .ro)), (5, .ro)])]
def q1q.F := q3i E q1q.C q1q.H Tryz.f90 q1q.ps q1q.rs
def q1q.L4 (k k1 : Nat) (x0 : ByteArray) (x3 : ByteArray) (x4 : List Int) (x5 : Int) : Option (ByteArray) := atL E q1q.C q1q.H Tryz.f90 q1q.ps q1q.rs [true, true, true, false, true, true] k [] k1 (sh 30 [(0, .d .str x0 .ro), (3, .d .str x3 .ro), (4, .d t22 x4 (.own .ro)), (5, .d (.int .i64) x5 .ro)])
def q1q.f (k : Nat) (x0 : ByteArray) : Option (ByteArray) := q1q.F k x0
theorem q1q.f_eq (k : Nat) (x0 : ByteArray) : q1q.f k x0 = q1q.L4 k k x0 (⟨#[48, 49, 50, 51, 52, 53, 54, 55, 56, 57, 97, 98, 99, 100, 101, 102]⟩ : ByteArray) ([] : List Int) (0 : Int) := by kernel_rfl
theorem q1q.L4_eq (k k1 : Nat) (x0 : ByteArray) (x3 : ByteArray) (x4 : List Int) (x5 : Int) : q1q.L4 k (k1 + 1) x0 x3 x4 x5 = ifb (decide (x5 < (x0.size : Int))) (ifb (decide (0 ≤ x5) && decide (x5 < (x0.size : Int))) (ifb (decide ((16 : Int) ≠ 0)) (ifb (decide (0 ≤ (IntKind.u8.wrap ((q20 x0 x5).tdiv (16 : Int)))) && decide ((IntKind.u8.wrap ((q20 x0 x5).tdiv (16 : Int))) < (x3.size : Int))) (ifb (decide (0 ≤ x5) && decide (x5 < (x0.size : Int))) (ifb (decide ((16 : Int) ≠ 0)) (ifb (decide (0 ≤ ((q20 x0 x5).tmod (16 : Int))) && decide (((q20 x0 x5).tmod (16 : Int)) < (x3.size : Int))) (ifb (decide ((x4.length + [(q20 x3 (IntKind.u8.wrap ((q20 x0 x5).tdiv (16 : Int)))), (q20 x3 ((q20 x0 x5).tmod (16 : Int)))].length) * 1 ≤ q38)) (q1q.L4 k k1 x0 x3 (x4 ++ [(q20 x3 (IntKind.u8.wrap ((q20 x0 x5).tdiv (16 : Int)))), (q20 x3 ((q20 x0 x5).tmod (16 : Int)))]) (w64 (x5 + 1))) (none)) (none)) (none)) (none)) (none)) (none)) (none)) (some (strOf x4)) := by kernel_rfl
abbrev q1q.e (k : Nat) : FuncId × CE := (90, ⟨q1q.ps, q1q.rs, q1q.F k⟩)
theorem q1q.q (k : Nat) : Qs (q1q.e k) := qq (C := q1q.C) (fun k => .nil) k
abbrev q2p.e (k : Nat) : FuncId × CE := (91, ⟨q2p.ps, q2p.rs, q2p.F k⟩)
theorem q2p.q (k : Nat) : Qs (q2p.e k) := ⟨q2p.snd k, q2p.can⟩
def q2j.C (k : Nat) : CEs := [q2p.e k, q1q.e k]
abbrev q2j.ps : List Par := [⟨.str, .rd⟩]
abbrev q2j.rs : List Res := [⟨.str, .ro, false⟩]
def q2j.F := q3i E q2j.C [] Tryz.f49 q2j.ps q2j.rs
def q2j.f (k : Nat) (x0 : ByteArray) : Option (ByteArray) := q2j.F k x0
theorem q2j.f_eq (k : Nat) (x0 : ByteArray) : q2j.f k x0 = (q2p.f k x0).bind fun (r0 : ByteArray) => (q1q.f k r0).bind fun (r1 : ByteArray) => some r1 := by kernel_rfl
abbrev q2j.e (k : Nat) : FuncId × CE := (49, ⟨q2j.ps, q2j.rs, q2j.F k⟩)
theorem q2j.q (k : Nat) : Qs (q2j.e k) := qq (C := q2j.C) (fun k => .c (q2p.q k) <| .c (q1q.q k) <| .nil) k
def q0e.C (k : Nat) : CEs := [q0g.e k, q1l.e k]
abbrev q0e.ps : List Par := [⟨t26, .rd⟩]
abbrev q0e.rs : List Res := [⟨.str, .ro, false⟩]
def q0e.H : q3d := [(4, [(1, .ro), (3, .ro)]), (5, [(1, .ro), (3, .ro), (4, .ro)]), (9, [(1, .ro), (3, .ro), (5, .ro)]), (13, [(1, .ro), (3, .ro), (6, .ro)])]
def q0e.F := q3i E q0e.C q0e.H Tryz.f94 q0e.ps q0e.rs
def q0e.J4 (k : Nat) (x1 : Delta) (x3 : ByteArray) : Option (ByteArray) := atJ E q0e.C q0e.H Tryz.f94 q0e.ps q0e.rs [true, true, true] 0 [] k (sh 59 [(1, .box t26 x1 .ro none), (3, .d .str x3 .ro)])
def q0e.L5 (k k1 : Nat) (x1 : Delta) (x3 : ByteArray) (x4 : Int) : Option (ByteArray) := atL E q0e.C q0e.H Tryz.f94 q0e.ps q0e.rs [true, true, true, false, true, true] 0 [k] k1 (sh 59 [(1, .box t26 x1 .ro none), (3, .d .str x3 .ro), (4, .d (.int .i64) x4 .ro)])
def q0e.L9 (k k1 : Nat) (x1 : Delta) (x3 : ByteArray) (x5 : Int) : Option (ByteArray) := atL E q0e.C q0e.H Tryz.f94 q0e.ps q0e.rs [true, true, true, true, false, true, true] 0 [k] k1 (sh 59 [(1, .box t26 x1 .ro none), (3, .d .str x3 .ro), (5, .d (.int .i64) x5 .ro)])
def q0e.L13 (k k1 : Nat) (x1 : Delta) (x3 : ByteArray) (x6 : Int) : Option (ByteArray) := atL E q0e.C q0e.H Tryz.f94 q0e.ps q0e.rs [true, true, true, true, true, false, true, true] 0 [k] k1 (sh 59 [(1, .box t26 x1 .ro none), (3, .d .str x3 .ro), (6, .d (.int .i64) x6 .ro)])
def q0e.f (k : Nat) (x0 : Delta) : Option (ByteArray) := q0e.F k x0
theorem q0e.f_eq (k : Nat) (x0 : Delta) : q0e.f k x0 = ifb x0.2.2.1 (q0e.J4 k x0 (⟨#[97, 102, 102, 105, 120, 101, 115, 10]⟩ : ByteArray)) (q0e.J4 k x0 bz) := by kernel_rfl
theorem q0e.J4_eq (k : Nat) (x1 : Delta) (x3 : ByteArray) : q0e.J4 (k + 1) x1 x3 = q0e.L5 k k x1 x3 (0 : Int) := by kernel_rfl
theorem q0e.L5_eq (k k1 : Nat) (x1 : Delta) (x3 : ByteArray) (x4 : Int) : q0e.L5 k (k1 + 1) x1 x3 x4 = ifb (decide (x4 < (x1.2.2.2.length : Int))) (ifb (decide (0 ≤ x4) && decide (x4 < (x1.2.2.2.length : Int))) ((q0g.f k1 (x1.2.2.2.getD x4.toNat zA)).bind fun (r0 : ByteArray) => ifb (q4i (x3.size + r0.size)) (ifb (q4i ((x3 ++ r0).size + (⟨#[10]⟩ : ByteArray).size)) (q0e.L5 k k1 x1 ((x3 ++ r0) ++ (⟨#[10]⟩ : ByteArray)) (w64 (x4 + 1))) (none)) (none)) (none)) (q0e.L9 k k x1 x3 (0 : Int)) := by kernel_rfl
theorem q0e.L9_eq (k k1 : Nat) (x1 : Delta) (x3 : ByteArray) (x5 : Int) : q0e.L9 k (k1 + 1) x1 x3 x5 = ifb (decide (x5 < (x1.1.length : Int))) (ifb (q4i (x3.size + (⟨#[45]⟩ : ByteArray).size)) (ifb (decide (0 ≤ x5) && decide (x5 < (x1.1.length : Int))) (ifb (q4i ((x3 ++ (⟨#[45]⟩ : ByteArray)).size + (x1.1.getD x5.toNat bz).size)) (ifb (q4i (((x3 ++ (⟨#[45]⟩ : ByteArray)) ++ (x1.1.getD x5.toNat bz)).size + (⟨#[10]⟩ : ByteArray).size)) (q0e.L9 k k1 x1 (((x3 ++ (⟨#[45]⟩ : ByteArray)) ++ (x1.1.getD x5.toNat bz)) ++ (⟨#[10]⟩ : ByteArray)) (w64 (x5 + 1))) (none)) (none)) (none)) (none)) (q0e.L13 k k x1 x3 (0 : Int)) := by kernel_rfl
theorem q0e.L13_eq (k k1 : Nat) (x1 : Delta) (x3 : ByteArray) (x6 : Int) : q0e.L13 k (k1 + 1) x1 x3 x6 = ifb (decide (x6 < (x1.2.1.length : Int))) (ifb (q4i (x3.size + (⟨#[43]⟩ : ByteArray).size)) (ifb (decide (0 ≤ x6) && decide (x6 < (x1.2.1.length : Int))) ((q1l.f k1 (x1.2.1.getD x6.toNat zE)).bind fun (r1 : ByteArray) => ifb (q4i ((x3 ++ (⟨#[43]⟩ : ByteArray)).size + r1.size)) (ifb (q4i (((x3 ++ (⟨#[43]⟩ : ByteArray)) ++ r1).size + (⟨#[10]⟩ : ByteArray).size)) (q0e.L13 k k1 x1 (((x3 ++ (⟨#[43]⟩ : ByteArray)) ++ r1) ++ (⟨#[10]⟩ : ByteArray)) (w64 (x6 + 1))) (none)) (none)) (none)) (none)) (some x3) := by kernel_rfl
abbrev q0e.e (k : Nat) : FuncId × CE := (94, ⟨q0e.ps, q0e.rs, q0e.F k⟩)
theorem q0e.q (k : Nat) : Qs (q0e.e k) := qq (C := q0e.C) (fun k => .c (q0g.q k) <| .c (q1l.q k) <| .nil) k
abbrev spec_l1Dec.e (k : Nat) : FuncId × CE := (93, ⟨spec_l1Dec.ps, spec_l1Dec.rs, spec_l1Dec.F k⟩)
theorem spec_l1Dec.q (k : Nat) : Qs (spec_l1Dec.e k) := ⟨spec_l1Dec.snd k, spec_l1Dec.can⟩
def q2e.C (k : Nat) : CEs := [spec_l1Dec.e k, q0e.e k]
abbrev q2e.ps : List Par := [⟨t28, .rd⟩]
abbrev q2e.rs : List Res := [⟨.str, .ro, false⟩]
def q2e.F := q3i E q2e.C [] Tryz.f42 q2e.ps q2e.rs
def q2e.f (k : Nat) (x0 : Release) : Option (ByteArray) := q2e.F k x0
theorem q2e.f_eq (k : Nat) (x0 : Release) : q2e.f k x0 = (spec_l1Dec.f k x0.1).bind fun (r0 : ByteArray) => ifb (q4i ((⟨#[114, 101, 108, 101, 97, 115, 101, 32]⟩ : ByteArray).size + r0.size)) (ifb (q4i (((⟨#[114, 101, 108, 101, 97, 115, 101, 32]⟩ : ByteArray) ++ r0).size + (⟨#[32]⟩ : ByteArray).size)) (ifb (q4i ((((⟨#[114, 101, 108, 101, 97, 115, 101, 32]⟩ : ByteArray) ++ r0) ++ (⟨#[32]⟩ : ByteArray)).size + x0.2.2.1.size)) (ifb (q4i (((((⟨#[114, 101, 108, 101, 97, 115, 101, 32]⟩ : ByteArray) ++ r0) ++ (⟨#[32]⟩ : ByteArray)) ++ x0.2.2.1).size + (⟨#[10]⟩ : ByteArray).size)) ((q0e.f k x0.2.1).bind fun (r1 : ByteArray) => ifb (q4i ((((((⟨#[114, 101, 108, 101, 97, 115, 101, 32]⟩ : ByteArray) ++ r0) ++ (⟨#[32]⟩ : ByteArray)) ++ x0.2.2.1) ++ (⟨#[10]⟩ : ByteArray)).size + r1.size)) (some ((((((⟨#[114, 101, 108, 101, 97, 115, 101, 32]⟩ : ByteArray) ++ r0) ++ (⟨#[32]⟩ : ByteArray)) ++ x0.2.2.1) ++ (⟨#[10]⟩ : ByteArray)) ++ r1)) (none)) (none)) (none)) (none)) (none) := by kernel_rfl
abbrev q2e.e (k : Nat) : FuncId × CE := (42, ⟨q2e.ps, q2e.rs, q2e.F k⟩)
theorem q2e.q (k : Nat) : Qs (q2e.e k) := qq (C := q2e.C) (fun k => .c (spec_l1Dec.q k) <| .c (q0e.q k) <| .nil) k
def q1f.C (k : Nat) : CEs := []
abbrev q1f.ps : List Par := [⟨.str, .rd⟩, ⟨(.int .u8), .rd⟩]
abbrev q1f.rs : List Res := [⟨.str, .ro, false⟩]
def q1f.H : q3d := [(3, [(0, .ro), (1, .ro), (5, (.own .ro)), (6, .ro)]), (8, [(0, .ro), (1, .ro), (5, (.own .ro)), (6, .ro), (7, .ro)])]
def q1f.F := q3i E q1f.C q1f.H Tryz.f92 q1f.ps q1f.rs
def q1f.L3 (k k1 : Nat) (x0 : ByteArray) (x1 : Int) (x5 : List Int) (x6 : Int) : Option (ByteArray) := atL E q1f.C q1f.H Tryz.f92 q1f.ps q1f.rs [true, true, false, true, true] k [] k1 (sh 28 [(0, .d .str x0 .ro), (1, .d (.int .u8) x1 .ro), (5, .d t22 x5 (.own .ro)), (6, .d (.int .i64) x6 .ro)])
def q1f.J8 (k k1 k2 : Nat) (x0 : ByteArray) (x1 : Int) (x5 : List Int) (x6 : Int) (x7 : Int) : Option (ByteArray) := atJ E q1f.C q1f.H Tryz.f92 q1f.ps q1f.rs [true, true, false, true, true, true, true, false, true, true, true] k [k1] k2 (sh 28 [(0, .d .str x0 .ro), (1, .d (.int .u8) x1 .ro), (5, .d t22 x5 (.own .ro)), (6, .d (.int .i64) x6 .ro), (7, .d (.int .u8) x7 .ro)])
def q1f.f (k : Nat) (x0 : ByteArray) (x1 : Int) : Option (ByteArray) := q1f.F k (x0, x1)
theorem q1f.f_eq (k : Nat) (x0 : ByteArray) (x1 : Int) : q1f.f k x0 x1 = q1f.L3 k k x0 x1 ([] : List Int) (0 : Int) := by kernel_rfl
theorem q1f.L3_eq (k k1 : Nat) (x0 : ByteArray) (x1 : Int) (x5 : List Int) (x6 : Int) : q1f.L3 k (k1 + 1) x0 x1 x5 x6 = ifb (decide (x6 < (64 : Int))) (ifb (decide (x6 < (x0.size : Int))) (ifb (decide (0 ≤ x6) && decide (x6 < (x0.size : Int))) (q1f.J8 k k1 k1 x0 x1 x5 x6 (q20 x0 x6)) (none)) (q1f.J8 k k1 k1 x0 x1 x5 x6 (0 : Int))) (some (strOf x5)) := by kernel_rfl
theorem q1f.J8_eq (k k1 k2 : Nat) (x0 : ByteArray) (x1 : Int) (x5 : List Int) (x6 : Int) (x7 : Int) : q1f.J8 k k1 (k2 + 1) x0 x1 x5 x6 x7 = ifb (decide ((x5.length + [(IntKind.u8.wrap ((BitVec.ofInt 8 x7 ^^^ BitVec.ofInt 8 x1).toNat))].length) * 1 ≤ q38)) (q1f.L3 k k1 x0 x1 (x5 ++ [(IntKind.u8.wrap ((BitVec.ofInt 8 x7 ^^^ BitVec.ofInt 8 x1).toNat))]) (w64 (x6 + 1))) (none) := by kernel_rfl
abbrev q1f.e (k : Nat) : FuncId × CE := (92, ⟨q1f.ps, q1f.rs, q1f.F k⟩)
theorem q1f.q (k : Nat) : Qs (q1f.e k) := qq (C := q1f.C) (fun k => .nil) k
def q2v.C (k : Nat) : CEs := [q2p.e k, q33.e k, q1q.e k, q1f.e k]
abbrev q2v.ps : List Par := [⟨.str, .rd⟩, ⟨.str, .rd⟩]
abbrev q2v.rs : List Res := [⟨.str, .ro, false⟩]
def q2v.F := q3i E q2v.C [] Tryz.f41 q2v.ps q2v.rs
def q2v.f (k : Nat) (x0 : ByteArray) (x1 : ByteArray) : Option (ByteArray) := q2v.F k (x0, x1)
theorem q2v.f_eq (k : Nat) (x0 : ByteArray) (x1 : ByteArray) : q2v.f k x0 x1 = (q33.f k x0).bind fun (r0 : Bool) => ifb (!r0) (some bz) ((q1f.f k x0 (92 : Int)).bind fun (r1 : ByteArray) => (q1f.f k x0 (54 : Int)).bind fun (r2 : ByteArray) => ifb (q4i (r2.size + x1.size)) ((q2p.f k (r2 ++ x1)).bind fun (r3 : ByteArray) => ifb (q4i (r1.size + r3.size)) ((q2p.f k (r1 ++ r3)).bind fun (r4 : ByteArray) => (q1q.f k r4).bind fun (r5 : ByteArray) => some r5) (none)) (none)) := by kernel_rfl
abbrev q2v.e (k : Nat) : FuncId × CE := (41, ⟨q2v.ps, q2v.rs, q2v.F k⟩)
theorem q2v.q (k : Nat) : Qs (q2v.e k) := qq (C := q2v.C) (fun k => .c (q2p.q k) <| .c (q33.q k) <| .c (q1q.q k) <| .c (q1f.q k) <| .nil) k
def q1x.C (k : Nat) : CEs := [q1e.e k]
abbrev q1x.ps : List Par := [⟨t24, .rd⟩]
abbrev q1x.rs : List Res := [⟨.bool, .ro, false⟩]
def q1x.F := q3i E q1x.C [] Tryz.f135 q1x.ps q1x.rs
def q1x.f (k : Nat) (x0 : List En) : Option (Bool) := q1x.F k x0
theorem q1x.f_eq (k : Nat) (x0 : List En) : q1x.f k x0 = (q1e.f k (([] : List Aff), x0)).bind fun (r0 : Bool) => some r0 := by kernel_rfl
abbrev q1x.e (k : Nat) : FuncId × CE := (135, ⟨q1x.ps, q1x.rs, q1x.F k⟩)
theorem q1x.q (k : Nat) : Qs (q1x.e k) := qq (C := q1x.C) (fun k => .c (q1e.q k) <| .nil) k
def q0l.C (k : Nat) : CEs := [q2d.e k, q0b.e k, q1x.e k]
abbrev q0l.ps : List Par := [⟨t26, .rd⟩]
abbrev q0l.rs : List Res := [⟨.bool, .ro, false⟩]
def q0l.H : q3d := [(2, [(1, .ro), (3, .ro)]), (7, [(1, .ro), (3, .ro), (4, .ro)])]
def q0l.F := q3i E q0l.C q0l.H Tryz.f88 q0l.ps q0l.rs
def q0l.L2 (k k1 : Nat) (x1 : Delta) (x3 : Int) : Option (Bool) := atL E q0l.C q0l.H Tryz.f88 q0l.ps q0l.rs [true, false, true, true] k [] k1 (sh 80 [(1, .box t26 x1 .ro none), (3, .d (.int .i64) x3 .ro)])
def q0l.L7 (k k1 k2 : Nat) (x1 : Delta) (x3 : Int) (x4 : Int) : Option (Bool) := atL E q0l.C q0l.H Tryz.f88 q0l.ps q0l.rs [true, false, true, true, true, true, false, true, true, true, true] k [k1] k2 (sh 80 [(1, .box t26 x1 .ro none), (3, .d (.int .i64) x3 .ro), (4, .d (.int .i64) x4 .ro)])
def q0l.f (k : Nat) (x0 : Delta) : Option (Bool) := q0l.F k x0
theorem q0l.f_eq (k : Nat) (x0 : Delta) : q0l.f k x0 = q0l.L2 k k x0 (0 : Int) := by kernel_rfl
theorem q0l.L2_eq (k k1 : Nat) (x1 : Delta) (x3 : Int) : q0l.L2 k (k1 + 1) x1 x3 = ifb (decide (x3 < (x1.1.length : Int))) (ifb (decide (0 ≤ x3) && decide (x3 < (x1.1.length : Int))) ((q2d.f k1 (x1.1.getD x3.toNat bz)).bind fun (r0 : Bool) => ifb (!r0) (some false) (ifb (decide (x3 > 0)) (ifb (decide (0 ≤ (w64 (x3 - 1))) && decide ((w64 (x3 - 1)) < (x1.1.length : Int))) (ifb (decide (0 ≤ x3) && decide (x3 < (x1.1.length : Int))) (ifb (!(Op.bytesLess (x1.1.getD ((w64 (x3 - 1)).toNat) bz).toList (x1.1.getD x3.toNat bz).toList)) (some false) (q0l.L7 k k1 k1 x1 x3 (0 : Int))) (none)) (none)) (q0l.L7 k k1 k1 x1 x3 (0 : Int)))) (none)) (ifb (decide ((x1.1.length : Int) ≤ (24 : Int))) ((q1x.f k x1.2.1).bind fun (r1 : Bool) => ifb r1 ((q0b.f k x1.2.2.2).bind fun (r2 : Bool) => ifb r2 (ifb x1.2.2.1 (some true) (some ((x1.2.2.2.length : Int) == (0 : Int)))) (some false)) (some false)) (some false)) := by kernel_rfl
theorem q0l.L7_eq (k k1 k2 : Nat) (x1 : Delta) (x3 : Int) (x4 : Int) : q0l.L7 k k1 (k2 + 1) x1 x3 x4 = ifb (decide (x4 < (x1.2.1.length : Int))) (ifb (decide (0 ≤ x4) && decide (x4 < (x1.2.1.length : Int))) (ifb (decide (0 ≤ x3) && decide (x3 < (x1.1.length : Int))) (ifb (((x1.2.1.getD x4.toNat zE).1).toList == (x1.1.getD x3.toNat bz).toList) (some false) (q0l.L7 k k1 k2 x1 x3 (w64 (x4 + 1)))) (none)) (none)) (q0l.L2 k k1 x1 (w64 (x3 + 1))) := by kernel_rfl
abbrev q0l.e (k : Nat) : FuncId × CE := (88, ⟨q0l.ps, q0l.rs, q0l.F k⟩)
theorem q0l.q (k : Nat) : Qs (q0l.e k) := qq (C := q0l.C) (fun k => .c (q2d.q k) <| .c (q0b.q k) <| .c (q1x.q k) <| .nil) k
def q28.C (k : Nat) : CEs := []
abbrev q28.ps : List Par := [⟨(.int .u8), .rd⟩]
abbrev q28.rs : List Res := [⟨.bool, .ro, false⟩]
def q28.F := q3i E q28.C [] Tryz.f89 q28.ps q28.rs
def q28.f (k : Nat) (x0 : Int) : Option (Bool) := q28.F k x0
theorem q28.f_eq (k : Nat) (x0 : Int) : q28.f k x0 = ifb (decide (x0 ≥ (48 : Int))) (ifb (decide (x0 ≤ (57 : Int))) (some true) (ifb (decide (x0 ≥ (97 : Int))) (some (decide (x0 ≤ (102 : Int)))) (some false))) (ifb (decide (x0 ≥ (97 : Int))) (some (decide (x0 ≤ (102 : Int)))) (some false)) := by kernel_rfl
abbrev q28.e (k : Nat) : FuncId × CE := (89, ⟨q28.ps, q28.rs, q28.F k⟩)
theorem q28.q (k : Nat) : Qs (q28.e k) := qq (C := q28.C) (fun k => .nil) k
def q1k.C (k : Nat) : CEs := [q35.e k, q2e.e k, q0l.e k, q28.e k]
abbrev q1k.ps : List Par := [⟨t28, .rd⟩]
abbrev q1k.rs : List Res := [⟨.bool, .ro, false⟩]
def q1k.H : q3d := [(4, [(1, .ro), (3, .ro)])]
def q1k.F := q3i E q1k.C q1k.H Tryz.f40 q1k.ps q1k.rs
def q1k.L4 (k k1 : Nat) (x1 : Release) (x3 : Int) : Option (Bool) := atL E q1k.C q1k.H Tryz.f40 q1k.ps q1k.rs [true, true, false, true, true] k [] k1 (sh 48 [(1, .box t28 x1 .ro none), (3, .d (.int .i64) x3 .ro)])
def q1k.f (k : Nat) (x0 : Release) : Option (Bool) := q1k.F k x0
theorem q1k.f_eq (k : Nat) (x0 : Release) : q1k.f k x0 = (q35.f k x0.1 (1 : Int) (999999 : Int)).bind fun (r0 : Bool) => ifb (!r0) (some false) ((q0l.f k x0.2.1).bind fun (r1 : Bool) => ifb (!r1) (some false) (ifb ((x0.2.2.1.size : Int) != (64 : Int)) (some false) (ifb ((x0.2.2.2.size : Int) != (64 : Int)) (some false) (q1k.L4 k k x0 (0 : Int))))) := by kernel_rfl
theorem q1k.L4_eq (k k1 : Nat) (x1 : Release) (x3 : Int) : q1k.L4 k (k1 + 1) x1 x3 = ifb (decide (x3 < (64 : Int))) (ifb (decide (0 ≤ x3) && decide (x3 < (x1.2.2.1.size : Int))) ((q28.f k1 (q20 x1.2.2.1 x3)).bind fun (r2 : Bool) => ifb (!r2) (some false) (ifb (decide (0 ≤ x3) && decide (x3 < (x1.2.2.2.size : Int))) ((q28.f k1 (q20 x1.2.2.2 x3)).bind fun (r3 : Bool) => ifb (!r3) (some false) (q1k.L4 k k1 x1 (w64 (x3 + 1)))) (none))) (none)) ((q2e.f k x1).bind fun (r4 : ByteArray) => some (decide ((r4.size : Int) ≤ (1200 : Int)))) := by kernel_rfl
abbrev q1k.e (k : Nat) : FuncId × CE := (40, ⟨q1k.ps, q1k.rs, q1k.F k⟩)
theorem q1k.q (k : Nat) : Qs (q1k.e k) := qq (C := q1k.C) (fun k => .c (q35.q k) <| .c (q2e.q k) <| .c (q0l.q k) <| .c (q28.q k) <| .nil) k
def q1p.C (k : Nat) : CEs := [q35.e k, q33.e k, q1e.e k, q0d.e k, q1g.e k, q2j.e k, q2e.e k, q2v.e k, q1k.e k]
abbrev q1p.ps : List Par := [⟨.str, .rd⟩, ⟨(.int .i64), .rd⟩, ⟨t38, .rd⟩, ⟨t38, .rd⟩]
abbrev q1p.rs : List Res := [⟨t28, (.pr .ro (.pr (.pr (.own .ro) (.pr (.own .ro) (.pr .ro (.own .ro)))) .ro)), false⟩, ⟨.bool, .ro, false⟩]
def q1p.F := q3i E q1p.C [] Tryz.f13 q1p.ps q1p.rs
def q1p.f (k : Nat) (x0 : ByteArray) (x1 : Int) (x2 : Book) (x3 : Book) : Option (Release × Bool) := q1p.F k (x0, x1, x2, x3)
theorem q1p.f_eq (k : Nat) (x0 : ByteArray) (x1 : Int) (x2 : Book) (x3 : Book) : q1p.f k x0 x1 x2 x3 = (q33.f k x0).bind fun (r0 : Bool) => ifb (!r0) (some (((0 : Int), (([] : List ByteArray), ([] : List En), false, ([] : List Aff)), bz, bz), false)) ((q35.f k x1 (0 : Int) (999998 : Int)).bind fun (r1 : Bool) => ifb (!r1) (some (((0 : Int), (([] : List ByteArray), ([] : List En), false, ([] : List Aff)), bz, bz), false)) ((q1e.f k x2).bind fun (r2 : Bool) => ifb (!r2) (some (((0 : Int), (([] : List ByteArray), ([] : List En), false, ([] : List Aff)), bz, bz), false)) ((q1e.f k x3).bind fun (r3 : Bool) => ifb (!r3) (some (((0 : Int), (([] : List ByteArray), ([] : List En), false, ([] : List Aff)), bz, bz), false)) ((q0d.f k x2 x3).bind fun (r4 : Delta) => (q1g.f k x3).bind fun (r5 : ByteArray) => (q2j.f k r5).bind fun (r6 : ByteArray) => (q2e.f k ((w64 (x1 + 1)), r4, r6, bz)).bind fun (r7 : ByteArray) => (q2v.f k x0 r7).bind fun (r8 : ByteArray) => (q1k.f k ((w64 (x1 + 1)), r4, r6, r8)).bind fun (r9 : Bool) => ifb (!r9) (some (((0 : Int), (([] : List ByteArray), ([] : List En), false, ([] : List Aff)), bz, bz), false)) (some (((w64 (x1 + 1)), r4, r6, r8), true)))))) := by kernel_rfl
abbrev q1p.e (k : Nat) : FuncId × CE := (13, ⟨q1p.ps, q1p.rs, q1p.F k⟩)
theorem q1p.q (k : Nat) : Qs (q1p.e k) := qq (C := q1p.C) (fun k => .c (q35.q k) <| .c (q33.q k) <| .c (q1e.q k) <| .c (q0d.q k) <| .c (q1g.q k) <| .c (q2j.q k) <| .c (q2e.q k) <| .c (q2v.q k) <| .c (q1k.q k) <| .nil) k
def q1t.C (k : Nat) : CEs := []
abbrev q1t.ps : List Par := [⟨(.int .i64), .rd⟩, ⟨(.int .i64), .rd⟩, ⟨(.int .i64), .rd⟩]
abbrev q1t.rs : List Res := [⟨.bool, .ro, false⟩]
def q1t.F := q3i E q1t.C [] Tryz.f53 q1t.ps q1t.rs
def q1t.f (k : Nat) (x0 : Int) (x1 : Int) (x2 : Int) : Option (Bool) := q1t.F k (x0, x1, x2)
theorem q1t.f_eq (k : Nat) (x0 : Int) (x1 : Int) (x2 : Int) : q1t.f k x0 x1 x2 = ifb (decide (x0 ≥ x1)) (some (decide (x0 ≤ x2))) (some false) := by kernel_rfl
abbrev q1t.e (k : Nat) : FuncId × CE := (53, ⟨q1t.ps, q1t.rs, q1t.F k⟩)
theorem q1t.q (k : Nat) : Qs (q1t.e k) := qq (C := q1t.C) (fun k => .nil) k
def q30.C (k : Nat) : CEs := [q1t.e k]
abbrev q30.ps : List Par := [⟨.str, .rd⟩]
abbrev q30.rs : List Res := [⟨.bool, .ro, false⟩]
def q30.F := q3i E q30.C [] Tryz.f36 q30.ps q30.rs
def q30.f (k : Nat) (x0 : ByteArray) : Option (Bool) := q30.F k x0
theorem q30.f_eq (k : Nat) (x0 : ByteArray) : q30.f k x0 = (q1t.f k (x0.size : Int) (1 : Int) (64 : Int)).bind fun (r0 : Bool) => ifb r0 (ifb (decide (0 ≤ (w64 ((x0.size : Int) - 1))) && decide ((w64 ((x0.size : Int) - 1)) < (x0.size : Int))) (some ((q20 x0 (w64 ((x0.size : Int) - 1))) != (0 : Int))) (none)) (some false) := by kernel_rfl
abbrev q30.e (k : Nat) : FuncId × CE := (36, ⟨q30.ps, q30.rs, q30.F k⟩)
theorem q30.q (k : Nat) : Qs (q30.e k) := qq (C := q30.C) (fun k => .c (q1t.q k) <| .nil) k
def q34.C (k : Nat) : CEs := []
abbrev q34.ps : List Par := [⟨(.int .u8), .rd⟩]
abbrev q34.rs : List Res := [⟨.bool, .ro, false⟩]
def q34.F := q3i E q34.C [] Tryz.f151 q34.ps q34.rs
def q34.f (k : Nat) (x0 : Int) : Option (Bool) := q34.F k x0
theorem q34.f_eq (k : Nat) (x0 : Int) : q34.f k x0 = ifb (decide (x0 ≥ (65 : Int))) (some (decide (x0 ≤ (90 : Int)))) (some false) := by kernel_rfl
abbrev q34.e (k : Nat) : FuncId × CE := (151, ⟨q34.ps, q34.rs, q34.F k⟩)
theorem q34.q (k : Nat) : Qs (q34.e k) := qq (C := q34.C) (fun k => .nil) k
def q1u.C (k : Nat) : CEs := []
abbrev q1u.ps : List Par := [⟨.str, .rd⟩]
abbrev q1u.rs : List Res := [⟨.bool, .ro, false⟩]
def q1u.H : q3d := [(2, [(0, .ro), (5, .ro), (6, .ro)])]
def q1u.F := q3i E q1u.C q1u.H Tryz.f152 q1u.ps q1u.rs
def q1u.L2 (k k1 : Nat) (x0 : ByteArray) (x5 : Int) (x6 : Int) : Option (Bool) := atL E q1u.C q1u.H Tryz.f152 q1u.ps q1u.rs [true, false, true, true] k [] k1 (sh 20 [(0, .d .str x0 .ro), (5, .d (.int .i64) x5 .ro), (6, .d (.int .i64) x6 .ro)])
def q1u.f (k : Nat) (x0 : ByteArray) : Option (Bool) := q1u.F k x0
theorem q1u.f_eq (k : Nat) (x0 : ByteArray) : q1u.f k x0 = q1u.L2 k k x0 (x0.size : Int) (0 : Int) := by kernel_rfl
theorem q1u.L2_eq (k k1 : Nat) (x0 : ByteArray) (x5 : Int) (x6 : Int) : q1u.L2 k (k1 + 1) x0 x5 x6 = ifb (decide (x6 < x5)) (ifb (decide (0 ≤ x6) && decide (x6 < (x0.size : Int))) (ifb (decide ((q20 x0 x6) < (97 : Int))) (some false) (ifb (decide (0 ≤ x6) && decide (x6 < (x0.size : Int))) (ifb (decide ((q20 x0 x6) > (122 : Int))) (some false) (q1u.L2 k k1 x0 x5 (w64 (x6 + 1)))) (none))) (none)) (some true) := by kernel_rfl
abbrev q1u.e (k : Nat) : FuncId × CE := (152, ⟨q1u.ps, q1u.rs, q1u.F k⟩)
theorem q1u.q (k : Nat) : Qs (q1u.e k) := qq (C := q1u.C) (fun k => .nil) k
def q0p.C (k : Nat) : CEs := []
abbrev q0p.ps : List Par := [⟨.str, .rd⟩, ⟨.str, .rd⟩]
abbrev q0p.rs : List Res := [⟨.bool, .ro, false⟩]
def q0p.F := q3i E q0p.C [] Tryz.f174 q0p.ps q0p.rs
def q0p.f (k : Nat) (x0 : ByteArray) (x1 : ByteArray) : Option (Bool) := q0p.F k (x0, x1)
theorem q0p.f_eq (k : Nat) (x0 : ByteArray) (x1 : ByteArray) : q0p.f k x0 x1 = ifb (decide ((x0.size : Int) ≥ (x1.size : Int))) (ifb (decide (0 ≤ (0 : Int)) && (decide ((0 : Int) ≤ (x1.size : Int)) && decide ((x1.size : Int) ≤ (x0.size : Int)))) (some ((x0.extract (0 : Int).toNat (x1.size : Int).toNat).toList == x1.toList)) (none)) (some false) := by kernel_rfl
abbrev q0p.e (k : Nat) : FuncId × CE := (174, ⟨q0p.ps, q0p.rs, q0p.F k⟩)
theorem q0p.q (k : Nat) : Qs (q0p.e k) := qq (C := q0p.C) (fun k => .nil) k
def strings_HasPrefix.C (k : Nat) : CEs := [q0p.e k]
abbrev strings_HasPrefix.ps : List Par := [⟨.str, .rd⟩, ⟨.str, .rd⟩]
abbrev strings_HasPrefix.rs : List Res := [⟨.bool, .ro, false⟩]
def strings_HasPrefix.F := q3i E strings_HasPrefix.C [] Tryz.f153 strings_HasPrefix.ps strings_HasPrefix.rs
def strings_HasPrefix.f (k : Nat) (x0 : ByteArray) (x1 : ByteArray) : Option (Bool) := strings_HasPrefix.F k (x0, x1)
theorem strings_HasPrefix.f_eq (k : Nat) (x0 : ByteArray) (x1 : ByteArray) : strings_HasPrefix.f k x0 x1 = (q0p.f k x0 x1).bind fun (r0 : Bool) => some r0 := by kernel_rfl
abbrev strings_HasPrefix.e (k : Nat) : FuncId × CE := (153, ⟨strings_HasPrefix.ps, strings_HasPrefix.rs, strings_HasPrefix.F k⟩)
theorem strings_HasPrefix.q (k : Nat) : Qs (strings_HasPrefix.e k) := qq (C := strings_HasPrefix.C) (fun k => .c (q0p.q k) <| .nil) k
def q0q.C (k : Nat) : CEs := []
abbrev q0q.ps : List Par := [⟨.str, .rd⟩, ⟨.str, .rd⟩]
abbrev q0q.rs : List Res := [⟨.bool, .ro, false⟩]
def q0q.F := q3i E q0q.C [] Tryz.f175 q0q.ps q0q.rs
def q0q.f (k : Nat) (x0 : ByteArray) (x1 : ByteArray) : Option (Bool) := q0q.F k (x0, x1)
theorem q0q.f_eq (k : Nat) (x0 : ByteArray) (x1 : ByteArray) : q0q.f k x0 x1 = ifb (decide ((x0.size : Int) ≥ (x1.size : Int))) (ifb (decide (0 ≤ (w64 ((x0.size : Int) - (x1.size : Int)))) && (decide ((w64 ((x0.size : Int) - (x1.size : Int))) ≤ (x0.size : Int)) && decide ((x0.size : Int) ≤ (x0.size : Int)))) (some ((x0.extract (w64 ((x0.size : Int) - (x1.size : Int))).toNat (x0.size : Int).toNat).toList == x1.toList)) (none)) (some false) := by kernel_rfl
abbrev q0q.e (k : Nat) : FuncId × CE := (175, ⟨q0q.ps, q0q.rs, q0q.F k⟩)
theorem q0q.q (k : Nat) : Qs (q0q.e k) := qq (C := q0q.C) (fun k => .nil) k
def strings_HasSuffix.C (k : Nat) : CEs := [q0q.e k]
abbrev strings_HasSuffix.ps : List Par := [⟨.str, .rd⟩, ⟨.str, .rd⟩]
abbrev strings_HasSuffix.rs : List Res := [⟨.bool, .ro, false⟩]
def strings_HasSuffix.F := q3i E strings_HasSuffix.C [] Tryz.f154 strings_HasSuffix.ps strings_HasSuffix.rs
def strings_HasSuffix.f (k : Nat) (x0 : ByteArray) (x1 : ByteArray) : Option (Bool) := strings_HasSuffix.F k (x0, x1)
theorem strings_HasSuffix.f_eq (k : Nat) (x0 : ByteArray) (x1 : ByteArray) : strings_HasSuffix.f k x0 x1 = (q0q.f k x0 x1).bind fun (r0 : Bool) => some r0 := by kernel_rfl
abbrev strings_HasSuffix.e (k : Nat) : FuncId × CE := (154, ⟨strings_HasSuffix.ps, strings_HasSuffix.rs, strings_HasSuffix.F k⟩)
theorem strings_HasSuffix.q (k : Nat) : Qs (strings_HasSuffix.e k) := qq (C := strings_HasSuffix.C) (fun k => .c (q0q.q k) <| .nil) k
def q1a.C (k : Nat) : CEs := [q34.e k, q1u.e k, strings_HasPrefix.e k, strings_HasSuffix.e k]
abbrev q1a.ps : List Par := [⟨t90, .rd⟩]
abbrev q1a.rs : List Res := [⟨.bool, .ro, false⟩]
def q1a.H : q3d := [(4, [(1, .ro), (22, (.own .ro)), (23, .ro), (24, .ro)])]
def q1a.F := q3i E q1a.C q1a.H Tryz.f124 q1a.ps q1a.rs
def q1a.L4 (k k1 : Nat) (x1 : Aff) (x22 : List ByteArray) (x23 : Int) (x24 : Int) : Option (Bool) := atL E q1a.C q1a.H Tryz.f124 q1a.ps q1a.rs [true, true, false, true, true] k [] k1 (sh 49 [(1, .box t90 x1 .ro none), (22, .d (.row .str) x22 (.own .ro)), (23, .d (.int .i64) x23 .ro), (24, .d (.int .i64) x24 .ro)])
def q1a.f (k : Nat) (x0 : Aff) : Option (Bool) := q1a.F k x0
theorem q1a.f_eq (k : Nat) (x0 : Aff) : q1a.f k x0 = ifb ((x0.1.size : Int) != (1 : Int)) (some false) (ifb (decide (0 ≤ (0 : Int)) && decide ((0 : Int) < (x0.1.size : Int))) ((q34.f k (q20 x0.1 (0 : Int))).bind fun (r0 : Bool) => ifb (!r0) (some false) (q1a.L4 k k x0 [x0.2.2.1, x0.2.2.2.1, x0.2.2.2.2] ([x0.2.2.1, x0.2.2.2.1, x0.2.2.2.2].length : Int) (0 : Int))) (none)) := by kernel_rfl
theorem q1a.L4_eq (k k1 : Nat) (x1 : Aff) (x22 : List ByteArray) (x23 : Int) (x24 : Int) : q1a.L4 k (k1 + 1) x1 x22 x23 x24 = ifb (decide (x24 < x23)) (ifb (decide (0 ≤ x24) && decide (x24 < (x22.length : Int))) (ifb (decide (((x22.getD x24.toNat bz).size : Int) > (4 : Int))) (some false) ((q1u.f k1 (x22.getD x24.toNat bz)).bind fun (r1 : Bool) => ifb (!r1) (some false) (q1a.L4 k k1 x1 x22 x23 (w64 (x24 + 1))))) (none)) (ifb x1.2.1 ((strings_HasPrefix.f k x1.2.2.2.2 x1.2.2.1).bind fun (r2 : Bool) => some r2) ((strings_HasSuffix.f k x1.2.2.2.2 x1.2.2.1).bind fun (r3 : Bool) => some r3)) := by kernel_rfl
abbrev q1a.e (k : Nat) : FuncId × CE := (124, ⟨q1a.ps, q1a.rs, q1a.F k⟩)
theorem q1a.q (k : Nat) : Qs (q1a.e k) := qq (C := q1a.C) (fun k => .c (q34.q k) <| .c (q1u.q k) <| .c (strings_HasPrefix.q k) <| .c (strings_HasSuffix.q k) <| .nil) k
def q03.C (k : Nat) : CEs := []
abbrev q03.ps : List Par := [⟨t25, .rd⟩, ⟨t90, .rd⟩]
abbrev q03.rs : List Res := [⟨(.int .i64), .ro, false⟩]
def q03.H : q3d := [(2, [(0, .ro), (3, .ro), (7, .ro), (8, .ro)])]
def q03.F := q3i E q03.C q03.H Tryz.f155 q03.ps q03.rs
def q03.L2 (k k1 : Nat) (x0 : List Aff) (x3 : Aff) (x7 : Int) (x8 : Int) : Option (Int) := atL E q03.C q03.H Tryz.f155 q03.ps q03.rs [true, false, true, true] k [] k1 (sh 19 [(0, .d t25 x0 .ro), (3, .box t90 x3 .ro none), (7, .d (.int .i64) x7 .ro), (8, .d (.int .i64) x8 .ro)])
def q03.f (k : Nat) (x0 : List Aff) (x1 : Aff) : Option (Int) := q03.F k (x0, x1)
theorem q03.f_eq (k : Nat) (x0 : List Aff) (x1 : Aff) : q03.f k x0 x1 = q03.L2 k k x0 x1 (x0.length : Int) (0 : Int) := by kernel_rfl
theorem q03.L2_eq (k k1 : Nat) (x0 : List Aff) (x3 : Aff) (x7 : Int) (x8 : Int) : q03.L2 k (k1 + 1) x0 x3 x7 x8 = ifb (decide (x8 < x7)) (ifb (decide (0 ≤ x8) && decide (x8 < (x0.length : Int))) (ifb ((x3.1.toList == ((x0.getD x8.toNat zA).1).toList) && ((x3.2.1 == ((x0.getD x8.toNat zA).2).1) && ((x3.2.2.1.toList == ((((x0.getD x8.toNat zA).2).2).1).toList) && ((x3.2.2.2.1.toList == (((((x0.getD x8.toNat zA).2).2).2).1).toList) && (x3.2.2.2.2.toList == (((((x0.getD x8.toNat zA).2).2).2).2).toList))))) (some x8) (q03.L2 k k1 x0 x3 x7 (w64 (x8 + 1)))) (none)) (some (-1 : Int)) := by kernel_rfl
abbrev q03.e (k : Nat) : FuncId × CE := (155, ⟨q03.ps, q03.rs, q03.F k⟩)
theorem q03.q (k : Nat) : Qs (q03.e k) := qq (C := q03.C) (fun k => .nil) k
end
end Go.Proofs.YtnjdoinlnbjedaaGreatDoor.Rf
end

section
/-
 DERIVED: THE SHELF's CONTRACTS AT THIS DUMP, IN PLAIN WORDS (tools/lay-plain.mjs out of 'TryzEShelf.lean', which tools/lay-shelf.mjs wrote): THE SAME DECLARATIONS UNDER THE SAME NAMES: 'import', 'namespace', 'open', 'def', 'theorem' AND NOTHING ELSE: no command of the shelf's: FOR A HAND-IN. Each laying: the table of numbers ('.._ren') and one theorem, a field a fact of the dump's own or the kernel's comparison; each contract: ONE APPLICATION.
-/
namespace Go.Proofs
open Go.Shelf
def Tryz.laysIdx_ren : Go.Shelf.Ren := ⟨fun | 6 => 138 | n => n, fun | 22 => 24 | 23 => 93 | 25 => 94 | 3 => 3 | 0 => 0 | 4 => 4 | n => n, fun | n => n⟩
theorem Tryz.laysIdx : Go.Proofs.SlLaysH0.n6 Tryz.prog Tryz.laysIdx_ren := {
 mixed := by kernel_rfl
 f6 := ⟨Tryz.f138.name, by decide, Tryz.func138.trans (congrArg some (by kernel_rfl))⟩
 t0 := Tryz.underlying0
 a0 := Tryz.isAgg0
 z0 := Tryz.sizeOf0
 v0 := Tryz.zeroValue0
 t3 := Tryz.underlying3
 a3 := Tryz.isAgg3
 z3 := Tryz.sizeOf3
 v3 := Tryz.zeroValue3
 t4 := Tryz.underlying4
 a4 := Tryz.isAgg4
 z4 := Tryz.sizeOf4
 v4 := Tryz.zeroValue4
 t22 := Tryz.underlying24
 a22 := Tryz.isAgg24
 z22 := Tryz.sizeOf24
 v22 := Tryz.zeroValue24
 t25 := Tryz.underlying94
 a25 := Tryz.isAgg94
 z25 := Tryz.sizeOf94
 v25 := Tryz.zeroValue94 }
def Tryz.laysSort_ren : Go.Shelf.Ren := ⟨fun | 6 => 144 | 15 => 172 | 14 => 171 | 28 => 194 | 29 => 195 | 20 => 186 | 21 => 187 | 22 => 188 | 23 => 189 | 24 => 190 | 25 => 191 | 26 => 192 | 27 => 193 | 46 => 205 | 47 => 206 | 48 => 207 | 49 => 208 | 50 => 209 | 57 => 216 | n => n, fun | 22 => 24 | 24 => 93 | 25 => 153 | 3 => 3 | 39 => 139 | 0 => 0 | 53 => 135 | 55 => 137 | 4 => 4 | 46 => 187 | 45 => 186 | 50 => 116 | 5 => 5 | 9 => 9 | 66 => 201 | 70 => 205 | 76 => 213 | 77 => 214 | n => n, fun | n => n⟩
theorem Tryz.laysSort : Go.Proofs.SlLaysF0.n6 Tryz.prog Tryz.laysSort_ren := {
 mixed := by kernel_rfl
 f6 := ⟨Tryz.f144.name, by decide, Tryz.func144.trans (congrArg some (by kernel_rfl))⟩
 f14 := ⟨Tryz.f171.name, by decide, Tryz.func171.trans (congrArg some (by kernel_rfl))⟩
 f15 := Tryz.func172.trans (congrArg some (by kernel_rfl))
 f20 := ⟨Tryz.f186.name, by decide, Tryz.func186.trans (congrArg some (by kernel_rfl))⟩
 f21 := ⟨Tryz.f187.name, by decide, Tryz.func187.trans (congrArg some (by kernel_rfl))⟩
 f22 := ⟨Tryz.f188.name, by decide, Tryz.func188.trans (congrArg some (by kernel_rfl))⟩
 f23 := ⟨Tryz.f189.name, by decide, Tryz.func189.trans (congrArg some (by kernel_rfl))⟩
 f24 := ⟨Tryz.f190.name, by decide, Tryz.func190.trans (congrArg some (by kernel_rfl))⟩
 f25 := ⟨Tryz.f191.name, by decide, Tryz.func191.trans (congrArg some (by kernel_rfl))⟩
 f26 := ⟨Tryz.f192.name, by decide, Tryz.func192.trans (congrArg some (by kernel_rfl))⟩
 f27 := ⟨Tryz.f193.name, by decide, Tryz.func193.trans (congrArg some (by kernel_rfl))⟩
 f28 := Tryz.func194.trans (congrArg some (by kernel_rfl))
 f29 := Tryz.func195.trans (congrArg some (by kernel_rfl))
 f46 := ⟨Tryz.f205.name, by decide, Tryz.func205.trans (congrArg some (by kernel_rfl))⟩
 f47 := Tryz.func206.trans (congrArg some (by kernel_rfl))
 f48 := Tryz.func207.trans (congrArg some (by kernel_rfl))
 f49 := ⟨Tryz.f208.name, by decide, Tryz.func208.trans (congrArg some (by kernel_rfl))⟩
 f50 := ⟨Tryz.f209.name, by decide, Tryz.func209.trans (congrArg some (by kernel_rfl))⟩
 f57 := ⟨Tryz.f216.name, by decide, Tryz.func216.trans (congrArg some (by kernel_rfl))⟩
 t0 := Tryz.underlying0
 a0 := Tryz.isAgg0
 z0 := Tryz.sizeOf0
 v0 := Tryz.zeroValue0
 t3 := Tryz.underlying3
 a3 := Tryz.isAgg3
 z3 := Tryz.sizeOf3
 v3 := Tryz.zeroValue3
 t4 := Tryz.underlying4
 a4 := Tryz.isAgg4
 z4 := Tryz.sizeOf4
 v4 := Tryz.zeroValue4
 t5 := Tryz.underlying5
 a5 := Tryz.isAgg5
 z5 := Tryz.sizeOf5
 v5 := Tryz.zeroValue5
 t9 := Tryz.underlying9
 a9 := Tryz.isAgg9
 z9 := Tryz.sizeOf9
 v9 := Tryz.zeroValue9
 t22 := Tryz.underlying24
 a22 := Tryz.isAgg24
 z22 := Tryz.sizeOf24
 v22 := Tryz.zeroValue24
 t25 := Tryz.underlying153
 a25 := Tryz.isAgg153
 z25 := Tryz.sizeOf153
 v25 := Tryz.zeroValue153
 t39 := Tryz.underlying139
 a39 := Tryz.isAgg139
 z39 := Tryz.sizeOf139
 v39 := Tryz.zeroValue139
 t45 := Tryz.underlying186
 a45 := Tryz.isAgg186
 z45 := Tryz.sizeOf186
 v45 := Tryz.zeroValue186
 t46 := Tryz.underlying187
 a46 := Tryz.isAgg187
 z46 := Tryz.sizeOf187
 v46 := Tryz.zeroValue187
 t50 := Tryz.underlying116
 a50 := Tryz.isAgg116
 z50 := Tryz.sizeOf116
 v50 := Tryz.zeroValue116
 t53 := Tryz.underlying135
 a53 := Tryz.isAgg135
 z53 := Tryz.sizeOf135
 v53 := Tryz.zeroValue135
 t55 := Tryz.underlying137
 a55 := Tryz.isAgg137
 z55 := Tryz.sizeOf137
 v55 := Tryz.zeroValue137
 t66 := Tryz.underlying201
 a66 := Tryz.isAgg201
 z66 := Tryz.sizeOf201
 v66 := Tryz.zeroValue201
 t70 := Tryz.underlying205
 a70 := Tryz.isAgg205
 z70 := Tryz.sizeOf205
 v70 := Tryz.zeroValue205
 t76 := Tryz.underlying213
 a76 := Tryz.isAgg213
 z76 := Tryz.sizeOf213
 v76 := Tryz.zeroValue213
 t77 := Tryz.underlying214
 a77 := Tryz.isAgg214
 z77 := Tryz.sizeOf214
 v77 := Tryz.zeroValue214 }
end Go.Proofs
end

section
/- impl.entryAt, walked by hand: slices.IndexFunc with a closure that has captured a text. -/
namespace Go.Proofs.YtnjdoinlnbjedaaGreatDoor.Rf
open Go Go.RowKit
set_option linter.unusedVariables false
set_option linter.unusedSimpArgs false
def qm8 (x : ByteArray × ByteArray) : List Value := [.string x.1, .string x.2]
theorem qg5 (s : ByteArray) (B : Nat) (w : World) (hB : B < w.heap.size) (hcell : w.cell? ⟨B, 0, none⟩ = some (.string s)) :
  PredBelow Tryz.prog 139 #[.pointer (some ⟨B, 0, none⟩)] (fun x => .agg (qm8 x).toArray) (fun x => x.1.toList == s.toList) w := fun W x hb => by
 have hc : W.cell? ⟨B, 0, none⟩ = some (.string s) := (hb.cell (p := ⟨B, 0, none⟩) hB).trans hcell
 have hBW : B < W.heap.size := Nat.lt_of_lt_of_le hB hb.size
 have hne : B ≠ W.heap.size := by omega
 show Calls Tryz.prog 139 #[.agg #[.string x.1, .string x.2], .pointer (some ⟨B, 0, none⟩)] W _
 go_enter Tryz.func139, Tryz.ntmps139
 go_wp2
 go_ret
 exact ⟨rfl, hb.alloc hb.size _⟩
theorem index_empty (a : Option Addr) (c : Nat) (fv : Value) (w : World) :
  Calls Tryz.prog 138 #[.slice a 0 c, fv] w fun e w' => e = .returned (.int .i64 (-1)) ∧ w' = w := by
 go_enter Tryz.func138, Tryz.ntmps138
 go_wp2
 go_loopg [5, 8] 0 (fun _ _ s8 wr => s8 = .int .i64 0 ∧ wr = w)
 case atStart => exact ⟨rfl, rfl⟩
 case round =>
  obtain ⟨rfl, rfl⟩ := hrel
  go_wp2
  go_ret
  exact ⟨rfl, rfl⟩
instance instEn : Inhabited (ByteArray × ByteArray) := ⟨(ByteArray.empty, ByteArray.empty)⟩
def qk1 (l : List (ByteArray × ByteArray)) (s : ByteArray) : Int := Lib.idxBy (fun _ y => y.1.toList == s.toList) l default
set_option maxHeartbeats 4000000 in
theorem qbt (A0 : Option Addr) (c0 : Nat) (l0 : List (ByteArray × ByteArray)) (a1 : ByteArray) (w : World) (hlen : l0.length ≤ 4611686018427387904)
  (hr : l0 = [] ∨ ∃ b off, A0 = some ⟨b, off, none⟩ ∧ b < w.heap.size ∧ ∀ j, j < l0.length → ∀ i v, (qm8 l0[j]!)[i]? = some v → w.cell? ⟨b, off + j * 2 + i, none⟩ = some v) :
  Calls Tryz.prog 103 #[.slice A0 l0.length c0, .string a1] w fun e w' => e = .returned (.int .i64 (qk1 l0 a1)) ∧ Below w.heap.size w w' := by
 have hcon : Calls Tryz.prog 138 #[.slice A0 l0.length c0, .func (.func 139) #[] #[.pointer (some ⟨w.heap.size, 0, none⟩)]] (w.alloc (.cells #[.string a1] 9)) fun e w' => e = .returned (.int .i64 (qk1 l0 a1)) ∧ Below (w.alloc (.cells #[.string a1] 9)).heap.size (w.alloc (.cells #[.string a1] 9)) w' := by
  rcases hr with rfl | ⟨b, off, rfl, hb, hc⟩
  ·exact (index_empty A0 c0 _ _).mono fun e w' ⟨he, hw⟩ => ⟨he, hw ▸ Below.refl _ _⟩
  ·have eg : ∀ args w, (callFunc 139 args).run Tryz.prog w = .ok (.enter 139 args) w := enters_of Tryz.func139 (by kernel_rfl) rfl
   have h := AnyQ.slices_IndexFunc Tryz.laysIdx 2 Tryz.isAgg93 Tryz.sizeOf93 qm8 (fun _ => rfl) (fun x => x.1.toList == a1.toList) 139 #[.pointer (some ⟨w.heap.size, 0, none⟩)] eg b off l0.length c0 l0 (w.alloc (.cells #[.string a1] 9))
    (qg5 a1 w.heap.size _ (by simp) (by simp)) (Nat.le_refl _) (by omega) (by simp; omega) (fun j hj i v hi => Lib.cell?_alloc_some _ (hc j hj i v hi))
   rw [List.take_length] at h
   exact h
 unfold qk1 at hcon ⊢
 generalize Lib.idxBy (fun _ y => y.1.toList == a1.toList) l0 default = r at hcon ⊢
 go_enter Tryz.func103, Tryz.ntmps103
 go_wp2_with (go_at_call 138; refine hcon.mono ?_; rintro e w' ⟨rfl, hb'⟩)
 go_ret
 exact ⟨rfl, ((Below.refl _ w).alloc (Nat.le_refl _) _).trans (hb'.mono (by simp))⟩
abbrev q21.ps : List Par := [⟨.row (.st (.pair .str .str)), .rd⟩, ⟨.str, .rd⟩]
abbrev q21.rs : List Res := [⟨.int .i64, .ro, false⟩]
def q21.F (_ : Nat) (x : List (ByteArray × ByteArray) × ByteArray) : Option Int := if x.1.length ≤ 4611686018427387904 then some (qk1 x.1 x.2) else none
def q21.f (k : Nat) (l : List (ByteArray × ByteArray)) (s : ByteArray) : Option Int := q21.F k (l, s)
theorem q21.can : Can Tryz.prog 103 := q6f (fn := Tryz.f103) (by kernel_rfl) (by kernel_rfl) (by kernel_rfl)
theorem q21.snd (k : Nat) : Snd Tryz.prog Jp 103 ⟨q21.ps, q21.rs, q21.F k⟩ := by
 refine q8p rfl ?_
 rintro ⟨l, s⟩ r hr ξ w vs wf _ hsz ha
 simp only [q21.F] at hr
 split at hr
 case isFalse => cases hr
 rename_i hlen
 obtain rfl := Option.some.inj hr
 obtain ⟨T0, cs, h0, h1⟩ := ha 0 _ _ rfl rfl
 obtain ⟨T1, h2⟩ := ha 1 _ _ rfl rfl
 have h2 := q6g (by simp) h2
 obtain ⟨A, cap, rfl, k1, k2⟩ := h1.row_ro
 obtain rfl := qfa hsz h0 h2
 refine (qbt A cap l s w hlen ?_).mono ?_
 ·rcases Nat.eq_zero_or_pos l.length with h | h
  ·exact .inl (List.eq_nil_of_length_eq_zero h)
  ·obtain ⟨a, c, e1, e2, e3, e4, e5⟩ := k2 0 h
   obtain rfl := qbr e5
   obtain ⟨b, off, sp⟩ := a
   simp only at e2 e4
   subst e2
   refine .inr ⟨b, off, e1, q77 (e4 0 _ rfl), fun j hj i v hi => ?_⟩
   obtain ⟨a', c', g1, g2, g3, g4, g5⟩ := k2 j hj
   rw [e1] at g1
   obtain rfl := Option.some.inj g1
   obtain rfl := qbr g5
   rw [show l[j]! = l[j] from getElem!_pos l j hj] at hi
   exact g4 i v hi
 ·rintro e w' ⟨he, hb⟩
  exact ⟨_, Em, he, hb, of_int _ _ _ _ _, fun b hb => hb.elim⟩
end Go.Proofs.YtnjdoinlnbjedaaGreatDoor.Rf
end

section
namespace Go.Proofs.YtnjdoinlnbjedaaGreatDoor.M
open Go.RowKit Go.Proofs.YtnjdoinlnbjedaaGreatDoorW.PrintWords Go.Proofs.YtnjdoinlnbjedaaGreatDoorW.PrintLast Go.Proofs.YtnjdoinlnbjedaaGreatDoorW.PrintMore Go.Proofs.YtnjdoinlnbjedaaGreatDoor.Sq
set_option synthInstance.maxHeartbeats 2000000
set_option synthInstance.maxSize 4096
attribute [local go_sem] max2_int min2_int max_two min_two max_three min_three max_four min_four
set_option linter.unusedVariables false
set_option linter.unusedSimpArgs false
set_option maxHeartbeats 8000000
set_option maxRecDepth 100000
theorem gf127 : Go_ Tryz.prog 127 Tryz.f127 := ⟨Tryz.func127, by kernel_rfl, rfl⟩
def impl_rolled.f (a0 : Int) (a1 : Int) : Option (Int) := if 0 ≤ a1 then (if 0 ≤ (wrap64 (32 - a1)) then (some (Go.bits .or .u32 (shr .u32 a0 a1) (shl .u32 a0 (wrap64 (32 - a1))))) else (none)) else (none)
theorem impl_rolled.calls (a0 : Int) (a1 : Int) (r : Int) (w : World) (h : impl_rolled.f a0 a1 = some r) :
  Calls Tryz.prog 127 #[.int .u32 a0, .int .i64 a1] w fun e w' => e = .returned (.int .u32 r) ∧ Drawn0 w w' := by
 unfold impl_rolled.f at h
 have H := h
 clear h
 have c3 := ite_y H
 replace H := ite_t H
 have c3b0 := eq_true c3
 have c3b1 := decide_eq_true c3
 clear c3
 obtain ⟨ji4, hji4⟩ : ∃ j_ : Int, (shr .u32 a0 a1) = j_ := ⟨_, rfl⟩
 replace H : (if 0 ≤ (wrap64 (32 - a1)) then (some (Go.bits .or .u32 (ji4) (shl .u32 a0 (wrap64 (32 - a1))))) else (none)) = some r := by first | (rw [hji4] at H; exact H) | (simp only [hji4] at H ⊢; exact H)
 have hji4_ : (a0 / 2 ^ min a1.toNat 32) = ji4 := hji4
 have hji4z : a1 ≤ 32 → (a0 / 2 ^ a1.toNat) = ji4 := shr_small hji4
 obtain ⟨ji5, hji5⟩ : ∃ j_ : Int, (wrap64 (32 - a1)) = j_ := ⟨_, rfl⟩
 replace H : (if 0 ≤ (ji5) then (some (Go.bits .or .u32 (ji4) (shl .u32 a0 (ji5)))) else (none)) = some r := by first | (rw [hji5] at H; exact H) | (simp only [hji5] at H ⊢; exact H)
 have hji5w : (IntKind.i64.wrap (32 - a1)) = ji5 := (i64_w _).trans hji5
 have c6 := ite_y H
 replace H := ite_t H
 have c6b0 := eq_true c6
 have c6b1 := decide_eq_true c6
 clear c6
 obtain ⟨ji7, hji7⟩ : ∃ j_ : Int, (shl .u32 a0 (ji5)) = j_ := ⟨_, rfl⟩
 replace H : (some (Go.bits .or .u32 (ji4) (ji7))) = some r := by first | (rw [hji7] at H; exact H) | (simp only [hji7] at H ⊢; exact H)
 have hji7_ : (IntKind.u32.wrap (a0 * 2 ^ min (ji5).toNat 32)) = ji7 := hji7
 have hji7z : (ji5) ≤ 32 → (IntKind.u32.wrap (a0 * 2 ^ (ji5).toNat)) = ji7 := shl_small hji7
 obtain rfl := Option.some.inj H
 go_enter Tryz.func127, Tryz.ntmps127
 go_wp2
 repeat (go_quiet (fail); try go_wp2)
 go_ret
 exact ⟨by first | rfl | (simp; done) | (simp only [← hji4, ← hji5, ← hji7] <;> (first | rfl | simp)) | (simp [*]; done), by repeat (first | exact Drawn0.refl _ | apply Drawn0.step)⟩
end Go.Proofs.YtnjdoinlnbjedaaGreatDoor.M
end

section
/- impl.sha256Of, walked: it is Sha.sumOf. -/
namespace Go.Proofs.YtnjdoinlnbjedaaGreatDoor.M
open Go.RowKit Go.Proofs.YtnjdoinlnbjedaaGreatDoorW.PrintWords Go.Proofs.YtnjdoinlnbjedaaGreatDoorW.PrintLast Go.Proofs.YtnjdoinlnbjedaaGreatDoorW.PrintMore
open Go.Proofs.YtnjdoinlnbjedaaGreatDoor.Buf Go.Proofs.YtnjdoinlnbjedaaGreatDoor.Sha
attribute [local go_sem] max2_int min2_int max_two min_two max_three min_three max_four min_four   -- for this text's walks alone
set_option linter.unusedVariables false
theorem lit1 (w : World) (e : Nat) (x : Int) : ∀ j u, (nums .u8 [x])[j]? = some u → (w.alloc (.cells #[.int .u8 x] e)).cell? ((⟨w.heap.size, 0, none⟩ : Addr).add j) = some u := by
 intro j u hu
 cases j with
 | zero =>
  simp [nums] at hu
  subst hu
  have hadd : (⟨w.heap.size, 0, none⟩ : Addr).add 0 = ⟨w.heap.size, 0, none⟩ := by unfold Addr.add; split <;> simp_all
  rw [hadd]
  rw [cell_of_row _ _ _ _ _ _ (heap_alloc_new w _)]
  rfl
 | succ j => simp [nums] at hu
theorem built138 : Tryz.prog.built 138 [] = some (nums .u32 Z64).toArray := by kernel_rfl
theorem info138 : (Tryz.prog.info? 138).map (fun i => (i.zero, i.size)) = some (some (.agg (nums .u32 Z64).toArray), 64) := by kernel_rfl
theorem size138 : (Tryz.prog.info? 138).map (·.size) = some 64 := by kernel_rfl
theorem padded_range (s : ByteArray) : ∀ x ∈ padded (bytesOf s), 0 ≤ x ∧ x ≤ 255 := by
 intro x hx
 simp only [padded, lenBytes, lenAt, List.mem_append, List.mem_replicate, List.mem_cons, List.not_mem_nil, or_false] at hx
 rcases hx with ((hx | hx) | hx) | hx
 ·simp only [bytesOf, List.mem_map] at hx
  obtain ⟨b, _, rfl⟩ := hx
  have := b.toNat_lt
  omega
 ·omega
 ·omega
 ·rcases hx with hx | hx | hx | hx | hx | hx | hx | hx <;> (rw [hx]; omega)
theorem rd_take {xs : List Int} {i : Int} (h : i.toNat < 64) : rd xs i = (xs.take 64).getD i.toNat 0 := by
 simp only [rd, List.getD_eq_getElem?_getD, List.getElem?_take, if_pos h]
theorem rolled_any (x n : Int) (w : World) (h0 : 0 ≤ n) (h1 : n ≤ 32) : Calls Tryz.prog 127 #[.int .u32 x, .int .i64 n] w fun e w' => e = .returned (.int .u32 (rot x n)) ∧ ∃ m, w' = w.drewN m := by
 have hw : wrap64 (32 - n) = 32 - n := by unfold wrap64; omega
 refine (impl_rolled.calls x n (rot x n) w ?_).mono fun e w' ⟨h, hd⟩ => ⟨h, hd.out⟩
 unfold impl_rolled.f rot
 rw [if_pos h0, hw, if_pos (by omega)]
theorem rolled_q1 (x n : Int) (w : World) (d : Nat) (h0 : 0 ≤ n) (h1 : n ≤ 32) : Calls Tryz.prog 127 #[.int .u32 x, .int .i64 n] (w.drewN d) fun e w' => e = .returned (.int .u32 (rot x n)) ∧ ∃ m, w' = w.drewN m :=
 (rolled_any x n (w.drewN d) h0 h1).mono fun e w' ⟨h, m, hm⟩ => ⟨h, d + m, by rw [hm, World.drewN_drewN]⟩
theorem rolled_q2 (x n : Int) (w : World) (a d : Nat) (h0 : 0 ≤ n) (h1 : n ≤ 32) : Calls Tryz.prog 127 #[.int .u32 x, .int .i64 n] (w.drewN (a + d)) fun e w' => e = .returned (.int .u32 (rot x n)) ∧ ∃ m, w' = w.drewN (a + m) :=
 (rolled_any x n (w.drewN (a + d)) h0 h1).mono fun e w' ⟨h, m, hm⟩ => ⟨h, d + m, by rw [hm, World.drewN_drewN, Nat.add_assoc]⟩
def Z8 : List Int := List.replicate 8 0
theorem info136 : (Tryz.prog.info? 136).map (fun i => (i.zero, i.size)) = some (some (.agg (nums .u32 Z8).toArray), 8) := by kernel_rfl
theorem size136 : (Tryz.prog.info? 136).map (·.size) = some 8 := by kernel_rfl
theorem print_cut_len (t e : TypeId) (ht : Tryz.prog.underlying t = some (.slice e)) (hinfo : (Tryz.prog.info? e).map (fun i => (i.zero, i.size, i.bytes)) = some (some (.int .u8 0), 1, 1)) (A : Option Addr) (L c : Nat) (hm : 64 ≤ L) (hc : L ≤ c) :
  ∃ A' : Option Addr, (∀ W : World, (Instr.slice t (.slice A L c) (some (.int .i64 64)) none none).run Tryz.prog W = .ok (.slice A' (L - 64) (c - 64)) W) ∧ (∀ (w : World) (xs : List Int), ReadsInt w .u8 A L xs → ReadsInt w .u8 A' (L - 64) (xs.drop 64)) ∧ True := by
 obtain ⟨i, hi, hz⟩ := Option.map_eq_some_iff.1 hinfo
 simp only [Prod.mk.injEq] at hz
 obtain ⟨A', h1, h2⟩ := print_cut_of (P := Tryz.prog) (Value.int .u8) (0 : Int) t e .i64 ht hi hz.2.1 A L c 64 hm
 exact ⟨A', h1, fun w xs h => h2 w xs hc h, trivial⟩
theorem tab_cell {w : World} (h : GWs w) : 0 < w.heap.size ∧ ∀ i, i < 64 → w.cell? ⟨0, i, none⟩ = some (.int .u32 (shaTab.getD i 0)) := by
 have hc : ∀ i, i < 64 → w.cell? ⟨0, i, none⟩ = some (.int .u32 (shaTab.getD i 0)) := fun i hi => by
  have h1 := h.out.cell (g := 0) (by kernel_rfl) i hi
  rw [h1]
 refine ⟨?_, hc⟩
 have h0 := hc 0 (by decide)
 rcases Nat.eq_zero_or_pos w.heap.size with h | h
 ·simp [World.cell?, Array.getElem?_eq_none (show w.heap.size ≤ 0 by omega)] at h0
 ·exact h
theorem size135 : (Tryz.prog.info? 135).map (·.size) = some 1 := by kernel_rfl
theorem rd_range {xs : List Int} (h : ∀ x ∈ xs, 0 ≤ x ∧ x ≤ 255) (i : Int) : 0 ≤ rd xs i ∧ rd xs i ≤ 255 := by
 unfold rd
 rw [List.getD_eq_getElem?_getD]
 cases e : xs[i.toNat]? with
 | none => simp
 | some b => exact h b (List.mem_of_getElem? e)
set_option maxHeartbeats 8000000 in
set_option maxRecDepth 100000 in
theorem sha_calls (s : ByteArray) (w : World) (hs : s.size ≤ 1099511627776) (hGs : GWs w) :
  Calls Tryz.prog 73 #[.string s] w fun e w' => e = .returned (.string (strOfNums (sumOf shaTab (bytesOf s)))) ∧ Below w.heap.size w w' := by
 have HTAB0 := Aside0.mk (tab_cell hGs)
 clear hGs
 go_enter Tryz.func73, Tryz.ntmps73
 go_wp2_with (first
  | ((with_reducible refine gate_dst (N := 23) rfl ?_); refine Buf.conv_event _ (w.heap.size + 1) 9 22 5 rfl (.tmp 22) rfl Tryz.underlying9 Tryz.underlying22 Tryz.underlying5 s rfl (by omega) (by simp) ?_; intro v1 w1 ho1 hb1 hn1; have HO1 := Aside0.mk ho1; have HA1 := Aside0.mk ((Arr.new w 136 H0).below hb1); have HB1 := Aside0.mk (below_step (below_alloc (Below.refl w.heap.size w) _) hb1); clear ho1 hb1 hn1)
  | ((with_reducible refine gate_dst (N := 25) rfl ?_); refine Buf.wpList_append_M _ (w.heap.size + 1) 5 rfl (.tmp 23) (.tmp 24) 22 rfl Tryz.underlying22 info5 v1 (bytesOf s) rfl (HO1.out.alloc _) ⟨w1.heap.size, 0, none⟩ 1 1 [128] rfl rfl (lit1 w1 5 128) (by simp; rw [bytesOf_length]; omega) (by have := HA1.out.lt; simp; omega) ?_; intro v2 w2 ho2 hg2; have HO2 := Aside0.mk ho2; have HB2 := Aside0.mk ((below_alloc HB1.out _).grown hg2 (by have := HA1.out.lt; simp; omega) (fun k hk => by have := HO1.out.lt k hk; omega)); have HA2 := Aside0.mk ((HA1.out.alloc _).grown hg2 (fun e => by have := HO1.out.lt _ e.symm; omega)); clear ho2 hg2))
 go_loopg [4] (zeros s.size) (fun kq v4 w' => ∃ j : Nat, Aside0 (j + kq = zeros s.size) ∧ Aside0 (OwnM w' (w.heap.size + 1) 5 v4 ((bytesOf s ++ [128]) ++ List.replicate j 0)) ∧ Aside0 (Arr w' w.heap.size 136 H0) ∧ Aside0 (Below w.heap.size w w'))
 case atStart => exact ⟨0, ⟨by omega⟩, ⟨by simpa using HO2.out⟩, HA2, HB2⟩
 case round =>
  obtain ⟨j, HJ, HO, HA, HB⟩ := hrel
  obtain ⟨g, cap, L, rfl, hL, hg0, hL1, hL2, hg1⟩ := HO.out.form
  have hLs : L = s.size + 1 + j := by rw [hL]; simp; rw [bytesOf_length]; omega
  have HL := Aside0.mk hL
  clear hL
  cases gk with
  | zero =>
   have h56 : ((L : Int) % 64 != 56) = false := by
    have := HJ.out
    unfold zeros at this
    rw [bne_eq_false_iff_eq]
    omega
   clear hLs
   go_wp2_with fail
   go_loopg [4, 6] 8 (fun kq v4 v6 w' => ∃ b : Int, v6 = .int .i64 b ∧ Aside0 (b = 8 * (kq : Int) - 8) ∧ Aside0 (kq ≤ 8) ∧ Aside0 (OwnM w' (w.heap.size + 1) 5 v4 ((bytesOf s ++ [128]) ++ List.replicate j 0 ++ (lenBytes ((s.size : Int) * 8)).take (8 - kq))) ∧ Aside0 (Arr w' w.heap.size 136 H0) ∧ Aside0 (Below w.heap.size w w'))
   case atStart => exact ⟨_, rfl, ⟨rfl⟩, ⟨by omega⟩, ⟨by simpa using HO.out⟩, HA, HB⟩
   case round =>
    have HO9 := HO; clear HO
    clear HA HB
    obtain ⟨b, rfl, HBY, HKQ, HO, HA, HB⟩ := hrel
    cases gk with
    | zero =>
     have hb0 : decide (0 ≤ b) = false := by have := HBY.out; simp; omega
     obtain ⟨P, hP⟩ : ∃ P, P = padded (bytesOf s) := ⟨_, rfl⟩
     have HOP : Aside0 (OwnM wr (w.heap.size + 1) 5 _ P) := ⟨by
      have h1 := HO.out
      rw [take_len_all] at h1
      rw [hP, padded, bytesOf_length, ← show j = zeros s.size from by have := HJ.out; omega]
      exact h1⟩
     have hP64 : P.length % 64 = 0 := by rw [hP]; exact padded_length _
     have HP := Aside0.mk hP
     clear hP HO HO9 HL
     obtain ⟨g2, cap2, L2, rfl, hL2, hg20, hL21, hL22, hg21⟩ := HOP.out.form
     have HSRC := Aside0.mk (src_of_own HOP.out rfl (show w.heap.size < w.heap.size + 1 by omega))
     have HL2 := Aside0.mk hL2
     have HN := Aside0.mk (show P.length = 64 * (P.length / 64) by omega)
     clear hL2 hP64
     obtain ⟨wb, hwb⟩ : ∃ wb, wb = wr := ⟨_, rfl⟩
     have HTAB := Aside0.mk (show ∀ w1 : World, wb.grownBy w1 (some w.heap.size) → ∀ i, i < 64 → w1.cell? ⟨0, i, none⟩ = some (.int .u32 (shaTab.getD i 0)) from fun w1 hw1 i hi => by
      rw [World.cell?_of_block (w := wb) (hw1.block 0 (by have := HTAB0.out.1; have := HB.out.size; rw [hwb]; omega) (fun e => by injection e with e; have := HTAB0.out.1; omega)), hwb, World.cell?_of_block (w := w) (HB.out.block 0 HTAB0.out.1)]
      exact HTAB0.out.2 i hi)
     have HWB := Aside0.mk hwb
     clear hwb
     go_wp2_with fail
     go_loopg [4] (P.length / 64) (fun kq v4 w' => ∃ (sv rest : List Int) (A : Option Addr) (L3 cap3 : Nat), v4 = .slice A L3 cap3 ∧ Aside0 (L3 = rest.length) ∧ Aside0 (rest.length = 64 * kq) ∧ Aside0 (L3 ≤ cap3) ∧ Aside0 (sv.length = 8) ∧ Aside0 (∀ x ∈ rest, 0 ≤ x ∧ x ≤ 255) ∧ Aside0 (blocks shaTab kq sv rest = blocks shaTab (P.length / 64) H0 P) ∧ Aside0 (Src wb w.heap.size A rest) ∧ Aside0 (Arr w' w.heap.size 136 sv) ∧ Aside0 (wb.grownBy w' (some w.heap.size)))
     case atStart => exact ⟨H0, P, _, L2, cap2, rfl, HL2, HN, ⟨hL21⟩, ⟨rfl⟩, ⟨by rw [HP.out]; exact padded_range s⟩, ⟨rfl⟩, ⟨by rw [HWB.out]; exact HSRC.out⟩, HA, ⟨by rw [HWB.out]; exact grown_refl _ _⟩⟩
     case round =>
      clear HA
      obtain ⟨sv, rest, A, L3, cap3, rfl, HL3, HR3, HC3, HH, HRG, HBL, HS3, HA, HG⟩ := hrel
      cases gk with
      | zero =>
       obtain rfl : L3 = 0 := by rw [HL3.out, HR3.out]
       have HBW := Aside0.mk (HB.out.grown (by rw [← HWB.out]; exact HG.out) (by have := HTAB0.out.1; have := HB.out.size; omega) (fun k hk => by injection hk with hk; omega))
       have HS9 := Aside0.mk (show sv = blocks shaTab (P.length / 64) H0 P from by rw [← HBL.out]; rfl)
       have hwl := HA.out.lt
       go_wp2_with (first
        | ((with_reducible refine gate_dst (N := 226) rfl ?_); refine arr_load rfl 136 (.tmp 3) rfl w.heap.size rfl sv (HA.out.alloc _) 8 135 Tryz.underlying136 size136 HH.out ?_))
       go_loopg [18, 227] 8 (fun kq v18 v227 w' => ∃ k : Nat, v227 = .int .i64 (k : Int) ∧ Aside0 (k + kq = 8) ∧ Aside0 (OwnM w' w.heap.size 5 v18 (out (sv.take k))) ∧ Aside0 (Below w.heap.size w w'))
       case atStart => exact ⟨0, rfl, ⟨rfl⟩, ⟨own_empty wr 5 _ (by omega)⟩, ⟨below_alloc HBW.out _⟩⟩
       case round =>
        clear HBW
        obtain ⟨k, rfl, HK, HO, HB9⟩ := hrel
        cases gk with
        | zero =>
         obtain rfl : k = 8 := by have := HK.out; omega
         go_wp2_with (first
          | ((with_reducible refine gate_dst (N := 246) rfl ?_); refine str_event wr 22 9 5 rfl (.tmp 245) rfl Tryz.underlying22 Tryz.underlying5 Tryz.underlying9 _ _ rfl HO.out ?_))
         go_ret
         have h8 : sv.take 8 = sv := List.take_of_length_le (by rw [HH.out]; omega)
         refine ⟨?_, HB9.out⟩
         rw [h8, HS9.out, HP.out]
         rfl
        | succ k7 =>
         have hk8 : decide ((k : Int) < 8) = true := by have := HK.out; simp; omega
         have hk8' : decide (k < 8) = true := by have := HK.out; simp; omega
         have hkk : k < 8 := by have := HK.out; omega
         obtain ⟨x9, hx9⟩ : ∃ z, sv.getD k 0 = z := ⟨_, rfl⟩
         have HX9 := Aside0.mk hx9
         clear hx9
         have hszw : w.heap.size ≤ wr.heap.size := HB9.out.size
         go_wp2_with (first
          | ((with_reducible refine gate_dst (N := 229) rfl ?_); refine arr_index rfl 136 (.tmp 226) (.tmp 227) rfl sv k rfl rfl 8 135 Tryz.underlying136 Tryz.underlying135 size135 HH.out hkk ?_; rw [HX9.out])
          | ((with_reducible refine gate_dst (N := 243) rfl ?_); refine Buf.wpList_append_M _ w.heap.size 5 rfl (.tmp 230) (.tmp 242) 22 rfl Tryz.underlying22 info5 _ (out (sv.take k)) rfl (HO.out.alloc _) ⟨wr.heap.size, 0, none⟩ 4 4 [x9 / 16777216 % 256, x9 / 65536 % 256, x9 / 256 % 256, x9 % 256] rfl rfl (lit_cells wr 5 _ _ rfl) (by rw [out_length, List.length_take]; simp; omega) (by simp; omega) ?_; intro v2 w2 ho2 hg2; have HO2 := Aside0.mk ho2; have HB2 := Aside0.mk ((below_alloc HB9.out _).grown hg2 (by simp; omega) (fun k hk => by have := HO.out.lt k hk; omega)); clear ho2 hg2))
         go_roundg k7
         case measure => omega
         case rel => exact ⟨k + 1, by go_num, ⟨by have := HK.out; omega⟩, ⟨by rw [← out_take _ _ (by rw [HH.out]; exact hkk), HX9.out]; exact HO2.out⟩, HB2⟩
      | succ k3 =>
       have hl64 : 64 ≤ L3 := by rw [HL3.out, HR3.out]; omega
       have hl0 : decide (0 < (L3 : Int)) = true := by simp; omega
       have hl1 : decide (0 < L3) = true := by simp; omega
       obtain ⟨gw, hgw⟩ : ∃ gw, wr.heap.size = gw := ⟨_, rfl⟩
       have HGW := Aside0.mk hgw
       have hgwn : w.heap.size < gw := by have := HA.out.lt; omega
       clear hgw
       go_wp2_with (first
        | ((with_reducible refine gate_dst (N := 53) rfl ?_); refine arr_build0 rfl 138 rfl Z64 built138 ?_)
        | ((with_reducible refine gate_dst (N := 7) rfl ?_); refine arr_alloc gw HGW.out rfl 138 rfl Z64 64 info138 ?_; intro w5 hz5 hb5; have HZ5 := Aside0.mk hz5; have HA5 := Aside0.mk (HA.out.below hb5); have HG5 := Aside0.mk (grown_below HG.out hb5); clear hz5 hb5)
        | ((with_reducible refine gate_store (t := 138) (p := 7) rfl ?_); refine arr_store rfl rfl 138 (.tmp 7) (.tmp 53) rfl _ Z64 rfl rfl Z64 HZ5.out 64 size138 z64_len z64_len ?_; intro w6 hz6 hg6; have HZ6 := Aside0.mk hz6; have HA6 := Aside0.mk (HA5.out.grown hg6 (by have := HA.out.lt; have := HGW.out; simp; omega)); have HG6 := Aside0.mk (grown_trans HG5.out hg6 (.inl (fun k hk => by injection hk with hk; have := HG.out.size; have := HGW.out; omega))); clear hz6 hg6))
       go_loopg [54] 64 (fun kq v54 w' => ∃ k : Nat, v54 = .int .i64 (k : Int) ∧ Aside0 (k + kq = 64) ∧ Aside0 (Arr w' gw 138 (wArr (rest.take 64) k)) ∧ Aside0 (Arr w' w.heap.size 136 sv) ∧ Aside0 (wb.grownBy w' (some w.heap.size)))
       case atStart => exact ⟨0, rfl, ⟨rfl⟩, HZ6, HA6, HG6⟩
       case round =>
        have HG0 := HG
        clear HA6 HG6 HZ6 HA5 HG5 HZ5 HA HG
        obtain ⟨k, rfl, HK, HZ, HA, HG⟩ := hrel
        cases gk with
        | zero =>
         obtain rfl : k = 64 := by have := HK.out; omega
         obtain ⟨gv, hgv⟩ : ∃ gv, wr.heap.size = gv := ⟨_, rfl⟩
         have HGV := Aside0.mk hgv
         have hgvw : gw < gv := by have := HZ.out.lt; omega
         have HGBw := Aside0.mk (show wb.heap.size ≤ gw by have := HG0.out.size; have := HGW.out; omega)
         have HGBv := Aside0.mk (show wb.heap.size ≤ gv by have := HGBw.out; omega)
         clear hgv
         go_wp2_with (first
          | ((with_reducible refine gate_dst (N := 132) rfl ?_); refine arr_load rfl 136 (.tmp 3) rfl w.heap.size rfl sv HA.out 8 135 Tryz.underlying136 size136 HH.out ?_)
          | ((with_reducible refine gate_dst (N := 11) rfl ?_); refine arr_alloc gv HGV.out rfl 136 rfl Z8 8 info136 ?_; intro w7 hz7 hb7; have HV7 := Aside0.mk hz7; have HZ7 := Aside0.mk (HZ.out.below hb7); have HA7 := Aside0.mk (HA.out.below hb7); have HG7 := Aside0.mk (grown_below HG.out hb7); clear hz7 hb7)
          | ((with_reducible refine gate_store (t := 136) (p := 11) rfl ?_); refine arr_store rfl rfl 136 (.tmp 11) (.tmp 132) rfl gv sv rfl rfl Z8 HV7.out 8 size136 rfl HH.out ?_; intro w8 hz8 hg8; have HV8 := Aside0.mk hz8; have HZ8 := Aside0.mk (HZ7.out.grown hg8 (fun e => by injection e with e; omega)); have HA8 := Aside0.mk (HA7.out.grown hg8 (fun e => by injection e with e; omega)); have HG8 := Aside0.mk (grown_trans HG7.out hg8 (.inl (fun k hk => by injection hk with hk; have := HGBv.out; omega))); clear hz8 hg8))
         go_loopg [133] 64 (fun kq v133 w' => ∃ k : Nat, v133 = .int .i64 (k : Int) ∧ Aside0 (k + kq = 64) ∧ Aside0 (Arr w' gv 136 (rnds shaTab (wArr (rest.take 64) 64) sv k)) ∧ Aside0 (Arr w' gw 138 (wArr (rest.take 64) 64)) ∧ Aside0 (Arr w' w.heap.size 136 sv) ∧ Aside0 (wb.grownBy w' (some w.heap.size)))
         case atStart => exact ⟨0, rfl, ⟨rfl⟩, HV8, HZ8, HA8, HG8⟩
         case round =>
          clear HV8 HZ8 HA8 HG8 HV7 HZ7 HA7 HG7 HZ HA HG
          obtain ⟨k, rfl, HK, HV, HZ, HA, HG⟩ := hrel
          cases gk with
          | zero =>
           obtain rfl : k = 64 := by have := HK.out; omega
           have hvl : (rnds shaTab (wArr (rest.take 64) 64) sv 64).length = 8 := rnds_length _ _ _ HH.out _
           obtain ⟨v, hv⟩ : ∃ v, rnds shaTab (wArr (rest.take 64) 64) sv 64 = v := ⟨_, rfl⟩
           have HVE := Aside0.mk hv
           rw [hv] at hvl
           have HV0 := Aside0.mk (show Arr wr gv 136 v by rw [← hv]; exact HV.out)
           have HVL := Aside0.mk hvl
           clear hv HV hvl
           have HG1 := HG
           go_wp2_with fail
           go_loopg [213] 8 (fun kq v213 w' => ∃ k : Nat, v213 = .int .i64 (k : Int) ∧ Aside0 (k + kq = 8) ∧ Aside0 (Arr w' gv 136 v) ∧ Aside0 (Arr w' w.heap.size 136 (sumTo sv v k)) ∧ Aside0 (wb.grownBy w' (some w.heap.size)))
           case atStart => exact ⟨0, rfl, ⟨rfl⟩, HV0, ⟨by rw [sumTo_zero]; exact HA.out⟩, HG⟩
           case round =>
            clear HV0 HZ HA HG
            obtain ⟨k, rfl, HK, HV, HA, HG⟩ := hrel
            cases gk with
            | zero =>
             obtain rfl : k = 8 := by have := HK.out; omega
             obtain ⟨A4, hs4, hr4, hc4⟩ := print_cut_len 22 5 Tryz.underlying22 info5 A L3 cap3 (by omega) HC3.out
             go_wp2_with fail

             go_roundg k3
             case measure => omega
             case rel => exact ⟨block shaTab sv (rest.take 64), rest.drop 64, A4, L3 - 64, cap3 - 64, by rfl, ⟨by have := HL3.out; rw [List.length_drop]; omega⟩, ⟨by have := HR3.out; rw [List.length_drop]; omega⟩, ⟨by have := HC3.out; omega⟩, ⟨block_length _ _ _ HH.out⟩, ⟨fun x hx => HRG.out x (List.mem_of_mem_drop hx)⟩, ⟨by rw [← HBL.out]; rfl⟩, ⟨fun w1 hw1 => by
              have h1 := hr4 w1 rest (by rw [HL3.out]; exact HS3.out w1 hw1)
              rw [List.length_drop, ← HL3.out]
              exact h1⟩, ⟨by
              have h1 := HA.out
              rw [sumTo_all sv v (by rw [HH.out, HVL.out]) 8 HH.out.symm, ← HVE.out, wArr_all] at h1
              exact h1⟩, HG⟩
            | succ k6 =>
             have hk8 : decide ((k : Int) < 8) = true := by have := HK.out; simp; omega
             have hk8' : decide (k < 8) = true := by have := HK.out; simp; omega
             have hkk : k < 8 := by have := HK.out; omega
             have hx0 := HA.out.cell k (by rw [sumTo_length _ _ _ (by rw [HH.out, HVL.out]), HH.out]; exact hkk)
             rw [sumTo_at _ _ _ (by rw [HH.out, HVL.out]) (by rw [HH.out]; exact hkk)] at hx0
             have hx1 := HV.out.cell k (by rw [HVL.out]; exact hkk)
             have hf0 := HA.out.fro k
             obtain ⟨x0, hx0e⟩ : ∃ z, sv.getD k 0 = z := ⟨_, rfl⟩
             obtain ⟨x1, hx1e⟩ : ∃ z, v.getD k 0 = z := ⟨_, rfl⟩
             rw [hx0e] at hx0
             rw [hx1e] at hx1
             have HX0 := Aside0.mk hx0e
             have HX1 := Aside0.mk hx1e
             clear hx0e hx1e
             have kp : (0 : Int) ≤ (k : Int) := by omega
             have kq : (k : Int) < 8 := by omega
             go_wp2_with fail
             refine QT.wp_region_quiet_tail 8 (by kernel_rfl) (by kernel_rfl) ?_
             simp only [List.take_succ_cons, List.take_zero, List.drop_succ_cons, List.drop_zero]
             repeat (quiet_step (fail))
             refine wpQuiet_nil ?_
             intro wd nd hwd
             subst hwd
             go_wp2_with fail
             go_roundg k6
             case measure => omega
             case rel => exact ⟨k + 1, by go_num, ⟨by have := HK.out; omega⟩, ⟨(HV.out.drewN nd).far (by show gv ≠ w.heap.size; omega) _⟩, ⟨by
              have h1 := (HA.out.drewN nd).set k (add x0 x1)
              rw [← sumTo_set sv v k (by rw [HH.out, HVL.out]) (by rw [HH.out]; exact hkk), HX0.out, HX1.out]
              exact h1⟩, ⟨grown_set (grown_drewN HG.out nd) (.inr rfl) _⟩⟩
          | succ k5 =>
           have hk64 : decide ((k : Int) < 64) = true := by have := HK.out; simp; omega
           have hk64' : decide (k < 64) = true := by have := HK.out; simp; omega
           have hkk : k < 64 := by have := HK.out; omega
           have hxw := HZ.out.cell k (by rw [wArr_length _ _ (by omega)]; exact hkk)
           obtain ⟨xw, hxwe⟩ : ∃ z, (wArr (rest.take 64) 64).getD k 0 = z := ⟨_, rfl⟩
           rw [hxwe] at hxw
           have HXW := Aside0.mk hxwe
           clear hxwe
           have hxk := HTAB.out wr (HG.out) k hkk
           obtain ⟨xk, hxke⟩ : ∃ z, shaTab.getD k 0 = z := ⟨_, rfl⟩
           rw [hxke] at hxk
           have HXK := Aside0.mk hxke
           clear hxke
           obtain ⟨y0, y1, y2, y3, y4, y5, y6, y7, hy⟩ := eight (rnds_length shaTab (wArr (rest.take 64) 64) sv HH.out k)
           have HV1 := Aside0.mk (show Arr wr gv 136 [y0, y1, y2, y3, y4, y5, y6, y7] by rw [← hy]; exact HV.out)
           have HY := Aside0.mk hy
           clear hy
           have c0 := HV1.out.cell 0 (by simp)
           have c1 := HV1.out.cell 1 (by simp)
           have c2 := HV1.out.cell 2 (by simp)
           have c3 := HV1.out.cell 3 (by simp)
           have c4 := HV1.out.cell 4 (by simp)
           have c5 := HV1.out.cell 5 (by simp)
           have c6 := HV1.out.cell 6 (by simp)
           have c7 := HV1.out.cell 7 (by simp)
           simp only [List.getD_cons_zero, List.getD_cons_succ] at c0 c1 c2 c3 c4 c5 c6 c7
           have kp : (0 : Int) ≤ (k : Int) := by omega
           have kq : (k : Int) < 64 := by omega
           go_wp2_with fail
           go_quiet (fail)
           go_wp2_with fail

           go_quiet ((go_at_call 127; (first | refine rolled_q2 _ _ _ _ _ ?_ ?_ | refine rolled_q1 _ _ _ _ ?_ ?_) <;> decide))
           go_wp2_with fail

           go_quiet ((go_at_call 127; (first | refine rolled_q2 _ _ _ _ _ ?_ ?_ | refine rolled_q1 _ _ _ _ ?_ ?_) <;> decide))
           go_wp2_with (first
            | ((with_reducible refine gate_store (t := 136) (p := 11) rfl ?_); refine arr_store rfl rfl 136 (.tmp 11) (.tmp 211) rfl gv [(one xk xw y4 y5 y6 y7 + two y0 y1 y2) % 4294967296, y0, y1, y2, (y3 + one xk xw y4 y5 y6 y7) % 4294967296, y4, y5, y6] rfl rfl [y0, y1, y2, y3, y4, y5, y6, y7] (HV1.out.drewN _) 8 size136 rfl rfl ?_; intro w8 hz8 hg8; have HV8 := Aside0.mk hz8; have HZ8 := Aside0.mk ((HZ.out.drewN _).grown hg8 (fun e => by injection e with e; omega)); have HA8 := Aside0.mk ((HA.out.drewN _).grown hg8 (fun e => by injection e with e; omega)); have HG8 := Aside0.mk (grown_trans (grown_drewN HG.out _) hg8 (.inl (fun k hk => by injection hk with hk; have := HGBv.out; omega))); clear hz8 hg8))

           go_roundg k5
           case measure => omega
           case rel => exact ⟨k + 1, by go_num, ⟨by have := HK.out; omega⟩, ⟨by
            have h1 := HV8.out
            rw [show rnds shaTab (wArr (rest.take 64) 64) sv (k + 1) = rnd (shaTab.getD k 0) ((wArr (rest.take 64) 64).getD k 0) (rnds shaTab (wArr (rest.take 64) 64) sv k) from rfl, HY.out, HXK.out, HXW.out]
            exact h1⟩, HZ8, HA8, HG8⟩
        | succ k4 =>
         have hk64 : decide ((k : Int) < 64) = true := by have := HK.out; simp; omega
         have hk64' : decide (k < 64) = true := by have := HK.out; simp; omega
         have HGB := Aside0.mk (show wb.heap.size ≤ gw by have := HG0.out.size; have := HGW.out; omega)
         have hkk : k < 64 := by have := HK.out; omega
         have hwk := HZ.out.cell k (by rw [wArr_length _ _ (by omega)]; exact hkk)
         obtain ⟨zk, hzk⟩ : ∃ z, (wArr (rest.take 64) k).getD k 0 = z := ⟨_, rfl⟩
         rw [hzk] at hwk
         clear hzk
         have hwf := HZ.out.fro k
         by_cases h16 : k < 16
         ·have hk16 : decide ((k : Int) < 16) = true := by simp; omega
          have hk16' : decide (k < 16) = true := by simp; omega
          have hrd := HS3.out _ HG.out
          have hlen : 64 ≤ rest.length := by have := HL3.out; omega
          obtain ⟨ad, hA0, hx0⟩ := hrd.at_ (4 * (k : Int)) (by omega) (by omega)
          obtain ⟨_, e1, hx1⟩ := hrd.at_ (4 * (k : Int) + 1) (by omega) (by omega)
          obtain rfl := Option.some.inj (hA0.symm.trans e1)
          obtain ⟨_, e2, hx2⟩ := hrd.at_ (4 * (k : Int) + 2) (by omega) (by omega)
          obtain rfl := Option.some.inj (hA0.symm.trans e2)
          obtain ⟨_, e3, hx3⟩ := hrd.at_ (4 * (k : Int) + 3) (by omega) (by omega)
          obtain rfl := Option.some.inj (hA0.symm.trans e3)
          clear e1 e2 e3 hrd
          subst hA0
          have r0 := rd_range HRG.out (4 * (k : Int))
          have r1 := rd_range HRG.out (4 * (k : Int) + 1)
          have r2 := rd_range HRG.out (4 * (k : Int) + 2)
          have r3 := rd_range HRG.out (4 * (k : Int) + 3)
          obtain ⟨b0, hb0'⟩ : ∃ b, rd rest (4 * (k : Int)) = b := ⟨_, rfl⟩
          obtain ⟨b1, hb1'⟩ : ∃ b, rd rest (4 * (k : Int) + 1) = b := ⟨_, rfl⟩
          obtain ⟨b2, hb2'⟩ : ∃ b, rd rest (4 * (k : Int) + 2) = b := ⟨_, rfl⟩
          obtain ⟨b3, hb3'⟩ : ∃ b, rd rest (4 * (k : Int) + 3) = b := ⟨_, rfl⟩
          rw [hb0'] at hx0 r0
          rw [hb1'] at hx1 r1
          rw [hb2'] at hx2 r2
          rw [hb3'] at hx3 r3
          have HB0 := Aside0.mk hb0'
          have HB1' := Aside0.mk hb1'
          have HB2' := Aside0.mk hb2'
          have HB3 := Aside0.mk hb3'
          clear hb0' hb1' hb2' hb3'
          go_wp2_with fail
          have hw0 : IntKind.i64.wrap (4 * (k : Int)) = 4 * (k : Int) := IntWalk.i64_in _ (by omega)
          have hw1 : IntKind.i64.wrap (4 * (k : Int) + 1) = 4 * (k : Int) + 1 := IntWalk.i64_in _ (by omega)
          have hw2 : IntKind.i64.wrap (4 * (k : Int) + 2) = 4 * (k : Int) + 2 := IntWalk.i64_in _ (by omega)
          have hw3 : IntKind.i64.wrap (4 * (k : Int) + 3) = 4 * (k : Int) + 3 := IntWalk.i64_in _ (by omega)
          have p0 : (0 : Int) ≤ 4 * (k : Int) := by omega
          have p1 : (0 : Int) ≤ 4 * (k : Int) + 1 := by omega
          have p2 : (0 : Int) ≤ 4 * (k : Int) + 2 := by omega
          have p3 : (0 : Int) ≤ 4 * (k : Int) + 3 := by omega
          have q0 : 4 * (k : Int) < (L3 : Int) := by omega
          have q1 : 4 * (k : Int) + 1 < (L3 : Int) := by omega
          have q2 : 4 * (k : Int) + 2 < (L3 : Int) := by omega
          have q3 : 4 * (k : Int) + 3 < (L3 : Int) := by omega
          have u0' : IntKind.u32.wrap b0 = b0 := by rw [IntKind.wrap_u32]; omega
          have u1' : IntKind.u32.wrap b1 = b1 := by rw [IntKind.wrap_u32]; omega
          have u2' : IntKind.u32.wrap b2 = b2 := by rw [IntKind.wrap_u32]; omega
          have u3' : IntKind.u32.wrap b3 = b3 := by rw [IntKind.wrap_u32]; omega
          have kp : (0 : Int) ≤ (k : Int) := by omega
          have kq : (k : Int) < 64 := by omega
          refine QT.wp_region_quiet_tail 35 (by kernel_rfl) (by kernel_rfl) ?_
          simp only [List.take_succ_cons, List.take_zero, List.drop_succ_cons, List.drop_zero]
          repeat (quiet_step (fail))
          refine wpQuiet_nil ?_
          intro wd nd hwd
          subst hwd
          go_wp2_with fail
          go_roundg k4
          case measure => omega
          case rel => exact ⟨k + 1, by go_num, ⟨by have := HK.out; omega⟩, ⟨by
           have h1 := (HZ.out.drewN nd).set k (be b0 b1 b2 b3)
           have hV : wordAt (rest.take 64) (wpre (rest.take 64) k) k = be b0 b1 b2 b3 := by
            rw [wordAt_low _ _ k h16, ← HB0.out, ← HB1'.out, ← HB2'.out, ← HB3.out, rd_take (by omega), rd_take (by omega), rd_take (by omega), rd_take (by omega), show (4 * (k : Int)).toNat = 4 * k by omega, show (4 * (k : Int) + 1).toNat = 4 * k + 1 by omega, show (4 * (k : Int) + 2).toNat = 4 * k + 2 by omega, show (4 * (k : Int) + 3).toNat = 4 * k + 3 by omega]
           rw [← wArr_set _ _ hkk, hV]
           exact h1⟩, ⟨(HA.out.drewN nd).far (by show w.heap.size ≠ gw; omega) _⟩, ⟨grown_set (grown_drewN HG.out nd) (.inl (by show wb.heap.size ≤ gw; exact HGB.out)) _⟩⟩
         ·have hk16 : decide ((k : Int) < 16) = false := by simp; omega
          have hk16' : decide (k < 16) = false := by simp; omega
          have hx15 := HZ.out.cell (k - 15) (by rw [wArr_length _ _ (by omega)]; omega)
          have hx2 := HZ.out.cell (k - 2) (by rw [wArr_length _ _ (by omega)]; omega)
          have hx16 := HZ.out.cell (k - 16) (by rw [wArr_length _ _ (by omega)]; omega)
          have hx7 := HZ.out.cell (k - 7) (by rw [wArr_length _ _ (by omega)]; omega)
          rw [wArr_at _ _ _ (by omega)] at hx15 hx2 hx16 hx7
          obtain ⟨y15, hy15⟩ : ∃ z, (wpre (rest.take 64) k).getD (k - 15) 0 = z := ⟨_, rfl⟩
          obtain ⟨y2, hy2⟩ : ∃ z, (wpre (rest.take 64) k).getD (k - 2) 0 = z := ⟨_, rfl⟩
          obtain ⟨y16, hy16⟩ : ∃ z, (wpre (rest.take 64) k).getD (k - 16) 0 = z := ⟨_, rfl⟩
          obtain ⟨y7, hy7⟩ : ∃ z, (wpre (rest.take 64) k).getD (k - 7) 0 = z := ⟨_, rfl⟩
          rw [hy15, show k - 15 = ((k : Int) - 15).toNat by omega] at hx15
          rw [hy2, show k - 2 = ((k : Int) - 2).toNat by omega] at hx2
          rw [hy16, show k - 16 = ((k : Int) - 16).toNat by omega] at hx16
          rw [hy7, show k - 7 = ((k : Int) - 7).toNat by omega] at hx7
          have HY15 := Aside0.mk hy15
          have HY2 := Aside0.mk hy2
          have HY16 := Aside0.mk hy16
          have HY7 := Aside0.mk hy7
          clear hy15 hy2 hy16 hy7
          have p15 : (0 : Int) ≤ (k : Int) - 15 := by omega
          have p2 : (0 : Int) ≤ (k : Int) - 2 := by omega
          have p16 : (0 : Int) ≤ (k : Int) - 16 := by omega
          have p7 : (0 : Int) ≤ (k : Int) - 7 := by omega
          have s15 : (15 : Int) ≤ (k : Int) := by omega
          have s2 : (2 : Int) ≤ (k : Int) := by omega
          have s16 : (16 : Int) ≤ (k : Int) := by omega
          have s7 : (7 : Int) ≤ (k : Int) := by omega
          have q15 : (k : Int) - 15 < 64 := by omega
          have q2 : (k : Int) - 2 < 64 := by omega
          have q16 : (k : Int) - 16 < 64 := by omega
          have q7 : (k : Int) - 7 < 64 := by omega
          have kp : (0 : Int) ≤ (k : Int) := by omega
          have kq : (k : Int) < 64 := by omega
          have w15 : IntKind.i64.wrap ((k : Int) - 15) = (k : Int) - 15 := IntWalk.i64_in _ (by omega)
          have w2 : IntKind.i64.wrap ((k : Int) - 2) = (k : Int) - 2 := IntWalk.i64_in _ (by omega)
          have w16 : IntKind.i64.wrap ((k : Int) - 16) = (k : Int) - 16 := IntWalk.i64_in _ (by omega)
          have w7 : IntKind.i64.wrap ((k : Int) - 7) = (k : Int) - 7 := IntWalk.i64_in _ (by omega)
          go_wp2_with fail
          go_quiet (fail)
          go_wp2_with fail

          refine QT.wp_region_quiet_tail 29 (by kernel_rfl) (by kernel_rfl) ?_
          simp only [List.take_succ_cons, List.take_zero, List.drop_succ_cons, List.drop_zero]
          repeat (quiet_step ((go_at_call 127; (first | refine rolled_q2 _ _ _ _ _ ?_ ?_ | refine rolled_q1 _ _ _ _ ?_ ?_) <;> decide)))

          refine wpQuiet_nil ?_
          intro wd nd hwd
          subst hwd
          go_wp2_with fail
          go_roundg k4
          case measure => omega
          case rel => exact ⟨k + 1, by go_num, ⟨by have := HK.out; omega⟩, ⟨by
           have h1 := (HZ.out.drewN (nq + nd)).set k ((y16 + y7 + s0 y15 + s1 y2) % 4294967296)
           have hV : wordAt (rest.take 64) (wpre (rest.take 64) k) k = (y16 + y7 + s0 y15 + s1 y2) % 4294967296 := by
            rw [wordAt_high _ _ k h16, HY16.out, HY7.out, HY15.out, HY2.out]
           rw [← wArr_set _ _ hkk, hV]
           exact h1⟩, ⟨(HA.out.drewN (nq + nd)).far (by show w.heap.size ≠ gw; omega) _⟩, ⟨grown_set (grown_drewN HG.out (nq + nd)) (.inl (by show wb.heap.size ≤ gw; exact HGB.out)) _⟩⟩
    | succ k2 =>
     obtain ⟨g2, cap2, L2, rfl, hL2, hg20, hL21, hL22, hg21⟩ := HO.out.form
     have HL2 := Aside0.mk hL2
     clear hL2
     have hb0 : 0 ≤ b := by have := HBY.out; omega
     have hb1 : b ≤ 56 := by have := HBY.out; have := HKQ.out; omega
     go_wp2_with (first
      | ((with_reducible refine gate_dst (N := 47) rfl ?_); refine Buf.wpList_append_M _ (w.heap.size + 1) 5 rfl (.tmp 41) (.tmp 46) 22 rfl Tryz.underlying22 info5 _ _ rfl (HO.out.alloc _) ⟨wr.heap.size, 0, none⟩ 1 1 [(s.size : Int) * 8 / 2 ^ b.toNat % 256] rfl rfl (lit1 wr 5 _) (by have := HJ.out; unfold zeros at this; simp only [List.length_append, bytesOf_length, List.length_replicate, List.length_cons, List.length_nil, List.length_take, lenBytes]; omega) (by have := HA.out.lt; simp; omega) ?_; intro v2 w2 ho2 hg2; have HO2 := Aside0.mk ho2; have HB2 := Aside0.mk ((below_alloc HB.out _).grown hg2 (by have := HA.out.lt; simp; omega) (fun k hk => by have := HO.out.lt k hk; omega)); have HA2 := Aside0.mk ((HA.out.alloc _).grown hg2 (fun e => by have := HO.out.lt _ e.symm; omega)); clear ho2 hg2))
     go_roundg k2
     case measure => omega
     case rel => exact ⟨b - 8, rfl, ⟨by have := HBY.out; omega⟩, ⟨by have := HKQ.out; omega⟩, ⟨by
      have h1 := HO2.out
      rw [show b.toNat = 8 * k2 by have := HBY.out; omega, List.append_assoc, show [(s.size : Int) * 8 / 2 ^ (8 * k2) % 256] = [lenAt ((s.size : Int) * 8) k2] from rfl, take_len _ _ (by have := HKQ.out; omega)] at h1
      exact h1⟩, HA2, HB2⟩
  | succ k1 =>
   have h56 : ((L : Int) % 64 != 56) = true := by
    have := HJ.out
    unfold zeros at this
    rw [bne_iff_ne]
    omega
   clear hLs
   go_wp2_with (first
    | ((with_reducible refine gate_dst (N := 32) rfl ?_); refine Buf.wpList_append_M _ (w.heap.size + 1) 5 rfl (.tmp 30) (.tmp 31) 22 rfl Tryz.underlying22 info5 _ ((bytesOf s ++ [128]) ++ List.replicate j 0) rfl (HO.out.alloc _) ⟨wr.heap.size, 0, none⟩ 1 1 [0] rfl rfl (lit1 wr 5 0) (by have := HL.out; have := HJ.out; unfold zeros at this; simp; rw [bytesOf_length]; omega) (by have := HA.out.lt; simp; omega) ?_; intro v2 w2 ho2 hg2; have HO2 := Aside0.mk ho2; have HB2 := Aside0.mk ((below_alloc HB.out _).grown hg2 (by have := HA.out.lt; simp; omega) (fun k hk => by have := HO.out.lt k hk; omega)); have HA2 := Aside0.mk ((HA.out.alloc _).grown hg2 (fun e => by have := HO.out.lt _ e.symm; omega)); clear ho2 hg2))
   go_roundg k1
   case measure => omega
   case rel => exact ⟨j + 1, ⟨by have := HJ.out; omega⟩, ⟨by rw [List.replicate_succ', ← List.append_assoc]; exact HO2.out⟩, HA2, HB2⟩
end Go.Proofs.YtnjdoinlnbjedaaGreatDoor.M
end

section
/- impl.sha256Of: the sum of a text, by the walk of Sha256. -/
namespace Go.Proofs.YtnjdoinlnbjedaaGreatDoor.Rf
open Go Go.RowKit
set_option linter.unusedVariables false
set_option linter.unusedSimpArgs false
abbrev q2a.ps : List Par := [⟨.str, .rd⟩]
abbrev q2a.rs : List Res := [⟨.str, .ro, false⟩]
def q2a.F (_ : Nat) (x : ByteArray) : Option ByteArray := if x.size ≤ 1099511627776 then some (qfb x) else none
def q2a.f (k : Nat) (s : ByteArray) : Option ByteArray := q2a.F k s
theorem q2a.can : Can Tryz.prog 73 := q6f (fn := Tryz.f73) (by kernel_rfl) (by kernel_rfl) (by kernel_rfl)
theorem q2a.snd (k : Nat) : Snd Tryz.prog Jp 73 ⟨q2a.ps, q2a.rs, q2a.F k⟩ := by
 refine q8p rfl ?_
 intro (s : ByteArray) r hr ξ w vs wf hj hsz ha
 simp only [q2a.F] at hr
 split at hr
 case isFalse => cases hr
 rename_i h
 obtain rfl := Option.some.inj hr
 obtain ⟨T0, h0⟩ := ha 0 _ _ rfl rfl
 obtain rfl := qaz hsz (q6g (by simp) h0)
 refine (Go.Proofs.YtnjdoinlnbjedaaGreatDoor.M.sha_calls s w h ⟨hj.s⟩).mono ?_
 rintro e w' ⟨rfl, hb⟩
 exact ⟨_, Em, rfl, hb, q9n _ _ _ _, fun b hb => hb.elim⟩
end Go.Proofs.YtnjdoinlnbjedaaGreatDoor.Rf
end
