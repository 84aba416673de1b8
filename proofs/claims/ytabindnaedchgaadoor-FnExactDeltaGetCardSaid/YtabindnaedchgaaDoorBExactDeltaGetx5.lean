import Derived.Test.YtabindnaedchgaaDoorBExactDeltaGetx2
import Derived.Test.YtabindnaedchgaaDoorBExactDeltaGetx4

section
-- Printed for this claim by a program (mprint.py) that uses the kit's print; Lean checks it.
namespace Go.Proofs.YtabindnaedchgaaDoor.M
open Go.RowKit Go.Proofs.YtabindnaedchgaaDoorW.PrintWords Go.Proofs.YtabindnaedchgaaDoorW.PrintLast Go.Proofs.YtabindnaedchgaaDoorW.PrintMore Go.Proofs.YtabindnaedchgaaDoor.Sq
set_option synthInstance.maxHeartbeats 2000000
set_option synthInstance.maxSize 4096
attribute [local go_sem] max2_int min2_int max_two min_two max_three min_three max_four min_four   -- for this text's walks alone
set_option linter.unusedVariables false
set_option linter.unusedSimpArgs false
theorem gf44 : Go_ Tryd.prog 44 Tryd.f44 := ⟨Tryd.func44, by kernel_rfl, rfl⟩
def spec_l2AffixGet.f (l0 : List ByteArray) : Option (ByteArray × Bool × ByteArray × ByteArray × ByteArray) := if 0 < (l0.length : Int) then (if 1 < (l0.length : Int) then (if 2 < (l0.length : Int) then (if 3 < (l0.length : Int) then (if 4 < (l0.length : Int) then (some (rdOf ByteArray.empty l0 1, ((rdOf ByteArray.empty l0 0).toList == ([102, 114, 111, 110, 116] : List UInt8)), rdOf ByteArray.empty l0 2, rdOf ByteArray.empty l0 3, rdOf ByteArray.empty l0 4)) else (none)) else (none)) else (none)) else (none)) else (none)
def spec_l2AffixGet.T1 : Bool × List (List Nat × List Nat) := (true, [([], []), ([0], [0]), ([1], [1]), ([2], [2]), ([], []), ([4], [4]), ([5], [5]), ([], []), ([7], [7]), ([8], [8]), ([], []), ([10], [10]), ([11], [11]), ([], []), ([13], [13]), ([14], [14]), ([3, 6, 9, 12, 15], [3, 6, 9, 12, 15]), ([16, 0, 1, 2, 3, 4, 5, 6, 7, 8, 9, 10, 11, 12, 13, 14, 15, 16], [16])])
def spec_l2AffixGet.B1 : List Nat := [0, 1, 3, 7, 0, 16, 48, 0, 128, 384, 0, 1024, 3072, 0, 8192, 24576, 65535, 131071]
theorem spec_l2AffixGet.tab1 : rtab .any (opsOf Tryd.f44 1) = spec_l2AffixGet.T1 := by kernel_rfl
theorem spec_l2AffixGet.bits1 : waitsOk spec_l2AffixGet.T1.2 spec_l2AffixGet.B1 = true := by kernel_rfl
set_option maxHeartbeats 8000000 in
set_option maxRecDepth 100000 in
theorem spec_l2AffixGet.calls (A0 : Option Addr) (c0 : Nat) (l0 : List ByteArray) (r1 : ByteArray) (r2 : Bool) (r3 : ByteArray) (r4 : ByteArray) (r5 : ByteArray) (w : World) (hr0 : Kd.C Kd.string w A0 l0.length l0) (hc0 : l0.length ≤ c0) (h : spec_l2AffixGet.f l0 = some (r1, r2, r3, r4, r5)) :
    Calls Tryd.prog 44 #[.slice A0 l0.length c0] w fun e w' => e = .returned (.agg #[.string r1, .bool r2, .string r3, .string r4, .string r5]) ∧ Below w.heap.size w w' := by
  have hu46 := Tryd.underlying46
  have HR0 := Aside0.mk hr0
  have HC0 := Aside0.mk hc0
  clear hr0 hc0
  have HB := Aside0.mk (Below.refl w.heap.size w)
  unfold spec_l2AffixGet.f at h
  have H := h
  clear h
  have c2 := ite_y H
  replace H := ite_t H
  have c2b0 := decide_eq_true c2
  have c2b1 : decide (0 < l0.length) = true := decide_eq_true (by omega)
  clear c2
  have c3 := ite_y H
  replace H := ite_t H
  have c3b0 := decide_eq_true c3
  have c3b1 : decide (1 < l0.length) = true := decide_eq_true (by omega)
  clear c3
  have c4 := ite_y H
  replace H := ite_t H
  have c4b0 := decide_eq_true c4
  have c4b1 : decide (2 < l0.length) = true := decide_eq_true (by omega)
  clear c4
  have c5 := ite_y H
  replace H := ite_t H
  have c5b0 := decide_eq_true c5
  have c5b1 : decide (3 < l0.length) = true := decide_eq_true (by omega)
  clear c5
  have c6 := ite_y H
  replace H := ite_t H
  have c6b0 := decide_eq_true c6
  have c6b1 : decide (4 < l0.length) = true := decide_eq_true (by omega)
  clear c6
  simp only [Option.some.injEq, Prod.mk.injEq] at H
  obtain ⟨rfl, rfl, rfl, rfl, rfl⟩ := H
  go_enter Tryd.func44, Tryd.ntmps44
  try go_wp2_with (first | ((with_reducible refine gate_dst (N := 2) rfl ?_); refine box_event rfl (N := 2) rfl (cs := #[.string (⟨#[]⟩ : ByteArray), .bool false, .string (⟨#[]⟩ : ByteArray), .string (⟨#[]⟩ : ByteArray), .string (⟨#[]⟩ : ByteArray)]) (t := 46) (by go_simp <;> rfl) ?_; intro gb101 hg w7 hbox hb; have BK101 := Aside0.mk (hbox); have GW101 := Le_.mk (ge_of hg HB.out); have GE101 := Le_.mk (ge_of hg HB.out); replace HB := kB HB hb; clear hb hbox hg))
  replace BK101 := Aside0.mk (blk_drew BK101.out)
  replace HB := Aside0.mk (below_drew1 HB.out)
  have p102 : 0 ≤ (0 : Int) := (by omega)
  have q102 := of_decide_eq_true c2b0
  obtain ⟨ad102, e102, hx102_0⟩ := Kd.at_string HR0.out 0 p102 q102
  have hw102_0 := hx102_0
  (try rw [show ((0 : Int)).toNat = 0 from rfl] at hw102_0)
  (try rw [show 0 * 1 = 0 from rfl] at hw102_0)
  (try rw [Addr.add_zero'] at hw102_0)
  cases e102
  have qi102 : (0 < l0.length) = True := eq_true (by omega)
  (try rw [show ((0 : Int)).toNat = 0 from rfl] at hx102_0)
  (try rw [Addr.add_zero'] at hx102_0)
  replace hx102_0 := px HB.out hx102_0
  replace p102 := eq_true p102
  replace q102 := eq_true q102
  have p103 : 0 ≤ (1 : Int) := (by omega)
  have q103 := of_decide_eq_true c3b0
  obtain ⟨ad103, e103, hx103_0⟩ := Kd.at_string HR0.out 1 p103 q103
  have hw103_0 := hx103_0
  (try rw [show ((1 : Int)).toNat = 1 from rfl] at hw103_0)
  (try rw [show 1 * 1 = 1 from rfl] at hw103_0)
  (try simp only [Nat.reduceMul, Nat.reduceEqDiff, Go.Addr.add, ↓reduceIte] at hw103_0)
  obtain rfl : ad102 = ad103 := (by injection e103)
  (try simp only [show (1 : Int).toNat = 1 from rfl, Nat.reduceMul, Nat.reduceEqDiff, Go.Addr.add, ↓reduceIte] at hx103_0)
  have qi103 : (1 < l0.length) = True := eq_true (by omega)
  (try rw [show ((1 : Int)).toNat = 1 from rfl] at hx103_0)
  replace hx103_0 := px HB.out hx103_0
  replace p103 := eq_true p103
  replace q103 := eq_true q103
  have p104 : 0 ≤ (2 : Int) := (by omega)
  have q104 := of_decide_eq_true c4b0
  obtain ⟨ad104, e104, hx104_0⟩ := Kd.at_string HR0.out 2 p104 q104
  have hw104_0 := hx104_0
  (try rw [show ((2 : Int)).toNat = 2 from rfl] at hw104_0)
  (try rw [show 2 * 1 = 2 from rfl] at hw104_0)
  (try simp only [Nat.reduceMul, Nat.reduceEqDiff, Go.Addr.add, ↓reduceIte] at hw104_0)
  obtain rfl : ad102 = ad104 := (by injection e104)
  (try simp only [show (2 : Int).toNat = 2 from rfl, Nat.reduceMul, Nat.reduceEqDiff, Go.Addr.add, ↓reduceIte] at hx104_0)
  have qi104 : (2 < l0.length) = True := eq_true (by omega)
  (try rw [show ((2 : Int)).toNat = 2 from rfl] at hx104_0)
  replace hx104_0 := px HB.out hx104_0
  replace p104 := eq_true p104
  replace q104 := eq_true q104
  have p105 : 0 ≤ (3 : Int) := (by omega)
  have q105 := of_decide_eq_true c5b0
  obtain ⟨ad105, e105, hx105_0⟩ := Kd.at_string HR0.out 3 p105 q105
  have hw105_0 := hx105_0
  (try rw [show ((3 : Int)).toNat = 3 from rfl] at hw105_0)
  (try rw [show 3 * 1 = 3 from rfl] at hw105_0)
  (try simp only [Nat.reduceMul, Nat.reduceEqDiff, Go.Addr.add, ↓reduceIte] at hw105_0)
  obtain rfl : ad102 = ad105 := (by injection e105)
  (try simp only [show (3 : Int).toNat = 3 from rfl, Nat.reduceMul, Nat.reduceEqDiff, Go.Addr.add, ↓reduceIte] at hx105_0)
  have qi105 : (3 < l0.length) = True := eq_true (by omega)
  (try rw [show ((3 : Int)).toNat = 3 from rfl] at hx105_0)
  replace hx105_0 := px HB.out hx105_0
  replace p105 := eq_true p105
  replace q105 := eq_true q105
  have p106 : 0 ≤ (4 : Int) := (by omega)
  have q106 := of_decide_eq_true c6b0
  obtain ⟨ad106, e106, hx106_0⟩ := Kd.at_string HR0.out 4 p106 q106
  have hw106_0 := hx106_0
  (try rw [show ((4 : Int)).toNat = 4 from rfl] at hw106_0)
  (try rw [show 4 * 1 = 4 from rfl] at hw106_0)
  (try simp only [Nat.reduceMul, Nat.reduceEqDiff, Go.Addr.add, ↓reduceIte] at hw106_0)
  obtain rfl : ad102 = ad106 := (by injection e106)
  (try simp only [show (4 : Int).toNat = 4 from rfl, Nat.reduceMul, Nat.reduceEqDiff, Go.Addr.add, ↓reduceIte] at hx106_0)
  have qi106 : (4 < l0.length) = True := eq_true (by omega)
  (try rw [show ((4 : Int)).toNat = 4 from rfl] at hx106_0)
  replace hx106_0 := px HB.out hx106_0
  replace p106 := eq_true p106
  replace q106 := eq_true q106
  refine start_ (n := 18) (S := fun w' => w'.cell? ad102 = some (.string (rdOf ByteArray.empty l0 0)) ∧ w'.cell? ⟨ad102.block, ad102.off + 1, none⟩ = some (.string (rdOf ByteArray.empty l0 1)) ∧ w'.cell? ⟨ad102.block, ad102.off + 2, none⟩ = some (.string (rdOf ByteArray.empty l0 2)) ∧ w'.cell? ⟨ad102.block, ad102.off + 3, none⟩ = some (.string (rdOf ByteArray.empty l0 3)) ∧ w'.cell? ⟨ad102.block, ad102.off + 4, none⟩ = some (.string (rdOf ByteArray.empty l0 4))) (ds := []) _ (by kernel_rfl) rfl rfl ⟨(px HB.out hw102_0), (px HB.out hw103_0), (px HB.out hw104_0), (px HB.out hw105_0), (px HB.out hw106_0)⟩ (fun hHeld => ?_); refine with_tabW spec_l2AffixGet.tab1 spec_l2AffixGet.bits1 (fun HT_ HW_ => ?_)
  generalize w7.drew = w8 at BK101 HB hx102_0 hx103_0 hx104_0 hx105_0 hx106_0 hHeld ⊢
  refine ord_ [.p 0 3, .p 1 4, .p 4 7, .p 5 8, .p 7 10, .p 8 11, .p 10 13, .p 11 14, .p 13 16, .p 14 17, .t 2 5, .p 3 6, .t 6 9, .t 9 12, .t 12 15, .t 15 18, .p 16 19] ?_
  repeat (first | (refine pu_ (v := ?_) (a' := ?_) HT_ rfl rfl (by kernel_rfl) (fun _ _ _ h => h) (by rfl) ?_ ?_ ?_; rotate_left 2; (intro w'; go_simp; with_reducible rfl); (simp only [Act.put, List.setIfInBounds_toArray, List.set_cons_zero, List.set_cons_succ, i64_w, i32_w]; rfl)) | (refine ta_ (v := ?_) (a' := ?_) HT_ HW_ rfl rfl (by kernel_rfl) (fun _ _ _ h => h) (by rfl) hHeld ?_ ?_ ?_; rotate_left 2; (rintro w' ⟨s0, s1, s2, s3, s4⟩; go_simp; with_reducible rfl); (simp only [Act.put, List.setIfInBounds_toArray, List.set_cons_zero, List.set_cons_succ, i64_w, i32_w]; rfl)))
  refine ord0 ?_
  refine on_ (i := 17) (N := none) HT_ rfl rfl (by kernel_rfl) (by decide) (fun K hK => ?_)
  have hs9 : w8.cell? ⟨gb101, 0, none⟩ = some (.string (⟨#[]⟩ : ByteArray)) := (blk_cell BK101.out 0).trans rfl
  have hfs9 := blk_frozen BK101.out 0
  have hs10 : w8.cell? ⟨gb101, 1, none⟩ = some (.bool false) := (blk_cell BK101.out 1).trans rfl
  have hfs10 := blk_frozen BK101.out 1
  have hs11 : w8.cell? ⟨gb101, 2, none⟩ = some (.string (⟨#[]⟩ : ByteArray)) := (blk_cell BK101.out 2).trans rfl
  have hfs11 := blk_frozen BK101.out 2
  have hs12 : w8.cell? ⟨gb101, 3, none⟩ = some (.string (⟨#[]⟩ : ByteArray)) := (blk_cell BK101.out 3).trans rfl
  have hfs12 := blk_frozen BK101.out 3
  have hs13 : w8.cell? ⟨gb101, 4, none⟩ = some (.string (⟨#[]⟩ : ByteArray)) := (blk_cell BK101.out 4).trans rfl
  have hfs13 := blk_frozen BK101.out 4
  refine skip_ (w1 := ?_) (by rfl) rfl ?_ ?_
  rotate_left
  · go_simp
    rfl
  refine hK.out _ _ ⟨((cell_far (p := ⟨gb101, _, none⟩) (by first | exact Nat.ne_of_lt (Nat.lt_of_lt_of_le (by have := World.block_lt_of_cell? _ _ hw102_0; first | rwa [add_block] at this | exact this) GW101.out) | (rw [add_block]; exact Nat.ne_of_lt (Nat.lt_of_lt_of_le (by have := World.block_lt_of_cell? _ _ hw102_0; first | rwa [add_block] at this | exact this) GW101.out)) | (show (Addr.add _ _).block ≠ _; rw [add_block]; exact Nat.ne_of_lt (Nat.lt_of_lt_of_le (by have := World.block_lt_of_cell? _ _ hw102_0; first | rwa [add_block] at this | exact this) GW101.out)) | (dsimp only; exact Nat.ne_of_lt (Nat.lt_of_lt_of_le (by have := World.block_lt_of_cell? _ _ hw102_0; first | rwa [add_block] at this | exact this) GW101.out))) _).trans (((cell_far (p := ⟨gb101, _, none⟩) (by first | exact Nat.ne_of_lt (Nat.lt_of_lt_of_le (by have := World.block_lt_of_cell? _ _ hw102_0; first | rwa [add_block] at this | exact this) GW101.out) | (rw [add_block]; exact Nat.ne_of_lt (Nat.lt_of_lt_of_le (by have := World.block_lt_of_cell? _ _ hw102_0; first | rwa [add_block] at this | exact this) GW101.out)) | (show (Addr.add _ _).block ≠ _; rw [add_block]; exact Nat.ne_of_lt (Nat.lt_of_lt_of_le (by have := World.block_lt_of_cell? _ _ hw102_0; first | rwa [add_block] at this | exact this) GW101.out)) | (dsimp only; exact Nat.ne_of_lt (Nat.lt_of_lt_of_le (by have := World.block_lt_of_cell? _ _ hw102_0; first | rwa [add_block] at this | exact this) GW101.out))) _).trans (((cell_far (p := ⟨gb101, _, none⟩) (by first | exact Nat.ne_of_lt (Nat.lt_of_lt_of_le (by have := World.block_lt_of_cell? _ _ hw102_0; first | rwa [add_block] at this | exact this) GW101.out) | (rw [add_block]; exact Nat.ne_of_lt (Nat.lt_of_lt_of_le (by have := World.block_lt_of_cell? _ _ hw102_0; first | rwa [add_block] at this | exact this) GW101.out)) | (show (Addr.add _ _).block ≠ _; rw [add_block]; exact Nat.ne_of_lt (Nat.lt_of_lt_of_le (by have := World.block_lt_of_cell? _ _ hw102_0; first | rwa [add_block] at this | exact this) GW101.out)) | (dsimp only; exact Nat.ne_of_lt (Nat.lt_of_lt_of_le (by have := World.block_lt_of_cell? _ _ hw102_0; first | rwa [add_block] at this | exact this) GW101.out))) _).trans (((cell_far (p := ⟨gb101, _, none⟩) (by first | exact Nat.ne_of_lt (Nat.lt_of_lt_of_le (by have := World.block_lt_of_cell? _ _ hw102_0; first | rwa [add_block] at this | exact this) GW101.out) | (rw [add_block]; exact Nat.ne_of_lt (Nat.lt_of_lt_of_le (by have := World.block_lt_of_cell? _ _ hw102_0; first | rwa [add_block] at this | exact this) GW101.out)) | (show (Addr.add _ _).block ≠ _; rw [add_block]; exact Nat.ne_of_lt (Nat.lt_of_lt_of_le (by have := World.block_lt_of_cell? _ _ hw102_0; first | rwa [add_block] at this | exact this) GW101.out)) | (dsimp only; exact Nat.ne_of_lt (Nat.lt_of_lt_of_le (by have := World.block_lt_of_cell? _ _ hw102_0; first | rwa [add_block] at this | exact this) GW101.out))) _).trans (((cell_far (p := ⟨gb101, _, none⟩) (by first | exact Nat.ne_of_lt (Nat.lt_of_lt_of_le (by have := World.block_lt_of_cell? _ _ hw102_0; first | rwa [add_block] at this | exact this) GW101.out) | (rw [add_block]; exact Nat.ne_of_lt (Nat.lt_of_lt_of_le (by have := World.block_lt_of_cell? _ _ hw102_0; first | rwa [add_block] at this | exact this) GW101.out)) | (show (Addr.add _ _).block ≠ _; rw [add_block]; exact Nat.ne_of_lt (Nat.lt_of_lt_of_le (by have := World.block_lt_of_cell? _ _ hw102_0; first | rwa [add_block] at this | exact this) GW101.out)) | (dsimp only; exact Nat.ne_of_lt (Nat.lt_of_lt_of_le (by have := World.block_lt_of_cell? _ _ hw102_0; first | rwa [add_block] at this | exact this) GW101.out))) _).trans (hHeld.1)))))))))), ((cell_far (p := ⟨gb101, _, none⟩) (by first | exact Nat.ne_of_lt (Nat.lt_of_lt_of_le (by have := World.block_lt_of_cell? _ _ hw103_0; first | rwa [add_block] at this | exact this) GW101.out) | (rw [add_block]; exact Nat.ne_of_lt (Nat.lt_of_lt_of_le (by have := World.block_lt_of_cell? _ _ hw103_0; first | rwa [add_block] at this | exact this) GW101.out)) | (show (Addr.add _ _).block ≠ _; rw [add_block]; exact Nat.ne_of_lt (Nat.lt_of_lt_of_le (by have := World.block_lt_of_cell? _ _ hw103_0; first | rwa [add_block] at this | exact this) GW101.out)) | (dsimp only; exact Nat.ne_of_lt (Nat.lt_of_lt_of_le (by have := World.block_lt_of_cell? _ _ hw103_0; first | rwa [add_block] at this | exact this) GW101.out))) _).trans (((cell_far (p := ⟨gb101, _, none⟩) (by first | exact Nat.ne_of_lt (Nat.lt_of_lt_of_le (by have := World.block_lt_of_cell? _ _ hw103_0; first | rwa [add_block] at this | exact this) GW101.out) | (rw [add_block]; exact Nat.ne_of_lt (Nat.lt_of_lt_of_le (by have := World.block_lt_of_cell? _ _ hw103_0; first | rwa [add_block] at this | exact this) GW101.out)) | (show (Addr.add _ _).block ≠ _; rw [add_block]; exact Nat.ne_of_lt (Nat.lt_of_lt_of_le (by have := World.block_lt_of_cell? _ _ hw103_0; first | rwa [add_block] at this | exact this) GW101.out)) | (dsimp only; exact Nat.ne_of_lt (Nat.lt_of_lt_of_le (by have := World.block_lt_of_cell? _ _ hw103_0; first | rwa [add_block] at this | exact this) GW101.out))) _).trans (((cell_far (p := ⟨gb101, _, none⟩) (by first | exact Nat.ne_of_lt (Nat.lt_of_lt_of_le (by have := World.block_lt_of_cell? _ _ hw103_0; first | rwa [add_block] at this | exact this) GW101.out) | (rw [add_block]; exact Nat.ne_of_lt (Nat.lt_of_lt_of_le (by have := World.block_lt_of_cell? _ _ hw103_0; first | rwa [add_block] at this | exact this) GW101.out)) | (show (Addr.add _ _).block ≠ _; rw [add_block]; exact Nat.ne_of_lt (Nat.lt_of_lt_of_le (by have := World.block_lt_of_cell? _ _ hw103_0; first | rwa [add_block] at this | exact this) GW101.out)) | (dsimp only; exact Nat.ne_of_lt (Nat.lt_of_lt_of_le (by have := World.block_lt_of_cell? _ _ hw103_0; first | rwa [add_block] at this | exact this) GW101.out))) _).trans (((cell_far (p := ⟨gb101, _, none⟩) (by first | exact Nat.ne_of_lt (Nat.lt_of_lt_of_le (by have := World.block_lt_of_cell? _ _ hw103_0; first | rwa [add_block] at this | exact this) GW101.out) | (rw [add_block]; exact Nat.ne_of_lt (Nat.lt_of_lt_of_le (by have := World.block_lt_of_cell? _ _ hw103_0; first | rwa [add_block] at this | exact this) GW101.out)) | (show (Addr.add _ _).block ≠ _; rw [add_block]; exact Nat.ne_of_lt (Nat.lt_of_lt_of_le (by have := World.block_lt_of_cell? _ _ hw103_0; first | rwa [add_block] at this | exact this) GW101.out)) | (dsimp only; exact Nat.ne_of_lt (Nat.lt_of_lt_of_le (by have := World.block_lt_of_cell? _ _ hw103_0; first | rwa [add_block] at this | exact this) GW101.out))) _).trans (((cell_far (p := ⟨gb101, _, none⟩) (by first | exact Nat.ne_of_lt (Nat.lt_of_lt_of_le (by have := World.block_lt_of_cell? _ _ hw103_0; first | rwa [add_block] at this | exact this) GW101.out) | (rw [add_block]; exact Nat.ne_of_lt (Nat.lt_of_lt_of_le (by have := World.block_lt_of_cell? _ _ hw103_0; first | rwa [add_block] at this | exact this) GW101.out)) | (show (Addr.add _ _).block ≠ _; rw [add_block]; exact Nat.ne_of_lt (Nat.lt_of_lt_of_le (by have := World.block_lt_of_cell? _ _ hw103_0; first | rwa [add_block] at this | exact this) GW101.out)) | (dsimp only; exact Nat.ne_of_lt (Nat.lt_of_lt_of_le (by have := World.block_lt_of_cell? _ _ hw103_0; first | rwa [add_block] at this | exact this) GW101.out))) _).trans (hHeld.2.1)))))))))), ((cell_far (p := ⟨gb101, _, none⟩) (by first | exact Nat.ne_of_lt (Nat.lt_of_lt_of_le (by have := World.block_lt_of_cell? _ _ hw104_0; first | rwa [add_block] at this | exact this) GW101.out) | (rw [add_block]; exact Nat.ne_of_lt (Nat.lt_of_lt_of_le (by have := World.block_lt_of_cell? _ _ hw104_0; first | rwa [add_block] at this | exact this) GW101.out)) | (show (Addr.add _ _).block ≠ _; rw [add_block]; exact Nat.ne_of_lt (Nat.lt_of_lt_of_le (by have := World.block_lt_of_cell? _ _ hw104_0; first | rwa [add_block] at this | exact this) GW101.out)) | (dsimp only; exact Nat.ne_of_lt (Nat.lt_of_lt_of_le (by have := World.block_lt_of_cell? _ _ hw104_0; first | rwa [add_block] at this | exact this) GW101.out))) _).trans (((cell_far (p := ⟨gb101, _, none⟩) (by first | exact Nat.ne_of_lt (Nat.lt_of_lt_of_le (by have := World.block_lt_of_cell? _ _ hw104_0; first | rwa [add_block] at this | exact this) GW101.out) | (rw [add_block]; exact Nat.ne_of_lt (Nat.lt_of_lt_of_le (by have := World.block_lt_of_cell? _ _ hw104_0; first | rwa [add_block] at this | exact this) GW101.out)) | (show (Addr.add _ _).block ≠ _; rw [add_block]; exact Nat.ne_of_lt (Nat.lt_of_lt_of_le (by have := World.block_lt_of_cell? _ _ hw104_0; first | rwa [add_block] at this | exact this) GW101.out)) | (dsimp only; exact Nat.ne_of_lt (Nat.lt_of_lt_of_le (by have := World.block_lt_of_cell? _ _ hw104_0; first | rwa [add_block] at this | exact this) GW101.out))) _).trans (((cell_far (p := ⟨gb101, _, none⟩) (by first | exact Nat.ne_of_lt (Nat.lt_of_lt_of_le (by have := World.block_lt_of_cell? _ _ hw104_0; first | rwa [add_block] at this | exact this) GW101.out) | (rw [add_block]; exact Nat.ne_of_lt (Nat.lt_of_lt_of_le (by have := World.block_lt_of_cell? _ _ hw104_0; first | rwa [add_block] at this | exact this) GW101.out)) | (show (Addr.add _ _).block ≠ _; rw [add_block]; exact Nat.ne_of_lt (Nat.lt_of_lt_of_le (by have := World.block_lt_of_cell? _ _ hw104_0; first | rwa [add_block] at this | exact this) GW101.out)) | (dsimp only; exact Nat.ne_of_lt (Nat.lt_of_lt_of_le (by have := World.block_lt_of_cell? _ _ hw104_0; first | rwa [add_block] at this | exact this) GW101.out))) _).trans (((cell_far (p := ⟨gb101, _, none⟩) (by first | exact Nat.ne_of_lt (Nat.lt_of_lt_of_le (by have := World.block_lt_of_cell? _ _ hw104_0; first | rwa [add_block] at this | exact this) GW101.out) | (rw [add_block]; exact Nat.ne_of_lt (Nat.lt_of_lt_of_le (by have := World.block_lt_of_cell? _ _ hw104_0; first | rwa [add_block] at this | exact this) GW101.out)) | (show (Addr.add _ _).block ≠ _; rw [add_block]; exact Nat.ne_of_lt (Nat.lt_of_lt_of_le (by have := World.block_lt_of_cell? _ _ hw104_0; first | rwa [add_block] at this | exact this) GW101.out)) | (dsimp only; exact Nat.ne_of_lt (Nat.lt_of_lt_of_le (by have := World.block_lt_of_cell? _ _ hw104_0; first | rwa [add_block] at this | exact this) GW101.out))) _).trans (((cell_far (p := ⟨gb101, _, none⟩) (by first | exact Nat.ne_of_lt (Nat.lt_of_lt_of_le (by have := World.block_lt_of_cell? _ _ hw104_0; first | rwa [add_block] at this | exact this) GW101.out) | (rw [add_block]; exact Nat.ne_of_lt (Nat.lt_of_lt_of_le (by have := World.block_lt_of_cell? _ _ hw104_0; first | rwa [add_block] at this | exact this) GW101.out)) | (show (Addr.add _ _).block ≠ _; rw [add_block]; exact Nat.ne_of_lt (Nat.lt_of_lt_of_le (by have := World.block_lt_of_cell? _ _ hw104_0; first | rwa [add_block] at this | exact this) GW101.out)) | (dsimp only; exact Nat.ne_of_lt (Nat.lt_of_lt_of_le (by have := World.block_lt_of_cell? _ _ hw104_0; first | rwa [add_block] at this | exact this) GW101.out))) _).trans (hHeld.2.2.1)))))))))), ((cell_far (p := ⟨gb101, _, none⟩) (by first | exact Nat.ne_of_lt (Nat.lt_of_lt_of_le (by have := World.block_lt_of_cell? _ _ hw105_0; first | rwa [add_block] at this | exact this) GW101.out) | (rw [add_block]; exact Nat.ne_of_lt (Nat.lt_of_lt_of_le (by have := World.block_lt_of_cell? _ _ hw105_0; first | rwa [add_block] at this | exact this) GW101.out)) | (show (Addr.add _ _).block ≠ _; rw [add_block]; exact Nat.ne_of_lt (Nat.lt_of_lt_of_le (by have := World.block_lt_of_cell? _ _ hw105_0; first | rwa [add_block] at this | exact this) GW101.out)) | (dsimp only; exact Nat.ne_of_lt (Nat.lt_of_lt_of_le (by have := World.block_lt_of_cell? _ _ hw105_0; first | rwa [add_block] at this | exact this) GW101.out))) _).trans (((cell_far (p := ⟨gb101, _, none⟩) (by first | exact Nat.ne_of_lt (Nat.lt_of_lt_of_le (by have := World.block_lt_of_cell? _ _ hw105_0; first | rwa [add_block] at this | exact this) GW101.out) | (rw [add_block]; exact Nat.ne_of_lt (Nat.lt_of_lt_of_le (by have := World.block_lt_of_cell? _ _ hw105_0; first | rwa [add_block] at this | exact this) GW101.out)) | (show (Addr.add _ _).block ≠ _; rw [add_block]; exact Nat.ne_of_lt (Nat.lt_of_lt_of_le (by have := World.block_lt_of_cell? _ _ hw105_0; first | rwa [add_block] at this | exact this) GW101.out)) | (dsimp only; exact Nat.ne_of_lt (Nat.lt_of_lt_of_le (by have := World.block_lt_of_cell? _ _ hw105_0; first | rwa [add_block] at this | exact this) GW101.out))) _).trans (((cell_far (p := ⟨gb101, _, none⟩) (by first | exact Nat.ne_of_lt (Nat.lt_of_lt_of_le (by have := World.block_lt_of_cell? _ _ hw105_0; first | rwa [add_block] at this | exact this) GW101.out) | (rw [add_block]; exact Nat.ne_of_lt (Nat.lt_of_lt_of_le (by have := World.block_lt_of_cell? _ _ hw105_0; first | rwa [add_block] at this | exact this) GW101.out)) | (show (Addr.add _ _).block ≠ _; rw [add_block]; exact Nat.ne_of_lt (Nat.lt_of_lt_of_le (by have := World.block_lt_of_cell? _ _ hw105_0; first | rwa [add_block] at this | exact this) GW101.out)) | (dsimp only; exact Nat.ne_of_lt (Nat.lt_of_lt_of_le (by have := World.block_lt_of_cell? _ _ hw105_0; first | rwa [add_block] at this | exact this) GW101.out))) _).trans (((cell_far (p := ⟨gb101, _, none⟩) (by first | exact Nat.ne_of_lt (Nat.lt_of_lt_of_le (by have := World.block_lt_of_cell? _ _ hw105_0; first | rwa [add_block] at this | exact this) GW101.out) | (rw [add_block]; exact Nat.ne_of_lt (Nat.lt_of_lt_of_le (by have := World.block_lt_of_cell? _ _ hw105_0; first | rwa [add_block] at this | exact this) GW101.out)) | (show (Addr.add _ _).block ≠ _; rw [add_block]; exact Nat.ne_of_lt (Nat.lt_of_lt_of_le (by have := World.block_lt_of_cell? _ _ hw105_0; first | rwa [add_block] at this | exact this) GW101.out)) | (dsimp only; exact Nat.ne_of_lt (Nat.lt_of_lt_of_le (by have := World.block_lt_of_cell? _ _ hw105_0; first | rwa [add_block] at this | exact this) GW101.out))) _).trans (((cell_far (p := ⟨gb101, _, none⟩) (by first | exact Nat.ne_of_lt (Nat.lt_of_lt_of_le (by have := World.block_lt_of_cell? _ _ hw105_0; first | rwa [add_block] at this | exact this) GW101.out) | (rw [add_block]; exact Nat.ne_of_lt (Nat.lt_of_lt_of_le (by have := World.block_lt_of_cell? _ _ hw105_0; first | rwa [add_block] at this | exact this) GW101.out)) | (show (Addr.add _ _).block ≠ _; rw [add_block]; exact Nat.ne_of_lt (Nat.lt_of_lt_of_le (by have := World.block_lt_of_cell? _ _ hw105_0; first | rwa [add_block] at this | exact this) GW101.out)) | (dsimp only; exact Nat.ne_of_lt (Nat.lt_of_lt_of_le (by have := World.block_lt_of_cell? _ _ hw105_0; first | rwa [add_block] at this | exact this) GW101.out))) _).trans (hHeld.2.2.2.1)))))))))), ((cell_far (p := ⟨gb101, _, none⟩) (by first | exact Nat.ne_of_lt (Nat.lt_of_lt_of_le (by have := World.block_lt_of_cell? _ _ hw106_0; first | rwa [add_block] at this | exact this) GW101.out) | (rw [add_block]; exact Nat.ne_of_lt (Nat.lt_of_lt_of_le (by have := World.block_lt_of_cell? _ _ hw106_0; first | rwa [add_block] at this | exact this) GW101.out)) | (show (Addr.add _ _).block ≠ _; rw [add_block]; exact Nat.ne_of_lt (Nat.lt_of_lt_of_le (by have := World.block_lt_of_cell? _ _ hw106_0; first | rwa [add_block] at this | exact this) GW101.out)) | (dsimp only; exact Nat.ne_of_lt (Nat.lt_of_lt_of_le (by have := World.block_lt_of_cell? _ _ hw106_0; first | rwa [add_block] at this | exact this) GW101.out))) _).trans (((cell_far (p := ⟨gb101, _, none⟩) (by first | exact Nat.ne_of_lt (Nat.lt_of_lt_of_le (by have := World.block_lt_of_cell? _ _ hw106_0; first | rwa [add_block] at this | exact this) GW101.out) | (rw [add_block]; exact Nat.ne_of_lt (Nat.lt_of_lt_of_le (by have := World.block_lt_of_cell? _ _ hw106_0; first | rwa [add_block] at this | exact this) GW101.out)) | (show (Addr.add _ _).block ≠ _; rw [add_block]; exact Nat.ne_of_lt (Nat.lt_of_lt_of_le (by have := World.block_lt_of_cell? _ _ hw106_0; first | rwa [add_block] at this | exact this) GW101.out)) | (dsimp only; exact Nat.ne_of_lt (Nat.lt_of_lt_of_le (by have := World.block_lt_of_cell? _ _ hw106_0; first | rwa [add_block] at this | exact this) GW101.out))) _).trans (((cell_far (p := ⟨gb101, _, none⟩) (by first | exact Nat.ne_of_lt (Nat.lt_of_lt_of_le (by have := World.block_lt_of_cell? _ _ hw106_0; first | rwa [add_block] at this | exact this) GW101.out) | (rw [add_block]; exact Nat.ne_of_lt (Nat.lt_of_lt_of_le (by have := World.block_lt_of_cell? _ _ hw106_0; first | rwa [add_block] at this | exact this) GW101.out)) | (show (Addr.add _ _).block ≠ _; rw [add_block]; exact Nat.ne_of_lt (Nat.lt_of_lt_of_le (by have := World.block_lt_of_cell? _ _ hw106_0; first | rwa [add_block] at this | exact this) GW101.out)) | (dsimp only; exact Nat.ne_of_lt (Nat.lt_of_lt_of_le (by have := World.block_lt_of_cell? _ _ hw106_0; first | rwa [add_block] at this | exact this) GW101.out))) _).trans (((cell_far (p := ⟨gb101, _, none⟩) (by first | exact Nat.ne_of_lt (Nat.lt_of_lt_of_le (by have := World.block_lt_of_cell? _ _ hw106_0; first | rwa [add_block] at this | exact this) GW101.out) | (rw [add_block]; exact Nat.ne_of_lt (Nat.lt_of_lt_of_le (by have := World.block_lt_of_cell? _ _ hw106_0; first | rwa [add_block] at this | exact this) GW101.out)) | (show (Addr.add _ _).block ≠ _; rw [add_block]; exact Nat.ne_of_lt (Nat.lt_of_lt_of_le (by have := World.block_lt_of_cell? _ _ hw106_0; first | rwa [add_block] at this | exact this) GW101.out)) | (dsimp only; exact Nat.ne_of_lt (Nat.lt_of_lt_of_le (by have := World.block_lt_of_cell? _ _ hw106_0; first | rwa [add_block] at this | exact this) GW101.out))) _).trans (((cell_far (p := ⟨gb101, _, none⟩) (by first | exact Nat.ne_of_lt (Nat.lt_of_lt_of_le (by have := World.block_lt_of_cell? _ _ hw106_0; first | rwa [add_block] at this | exact this) GW101.out) | (rw [add_block]; exact Nat.ne_of_lt (Nat.lt_of_lt_of_le (by have := World.block_lt_of_cell? _ _ hw106_0; first | rwa [add_block] at this | exact this) GW101.out)) | (show (Addr.add _ _).block ≠ _; rw [add_block]; exact Nat.ne_of_lt (Nat.lt_of_lt_of_le (by have := World.block_lt_of_cell? _ _ hw106_0; first | rwa [add_block] at this | exact this) GW101.out)) | (dsimp only; exact Nat.ne_of_lt (Nat.lt_of_lt_of_le (by have := World.block_lt_of_cell? _ _ hw106_0; first | rwa [add_block] at this | exact this) GW101.out))) _).trans (hHeld.2.2.2.2))))))))))⟩ (fun hHeld => ?_)
  clear hK K
  refine done_ (done_of HT_.out (by kernel_rfl)) ?_
  try go_wp2
  refine bodyPost_ret (results_cell_row rfl _ _ gb101 46 #[.string (rdOf ByteArray.empty l0 1), .bool ((rdOf ByteArray.empty l0 0).toList == ([102, 114, 111, 110, 116] : List UInt8)), .string (rdOf ByteArray.empty l0 2), .string (rdOf ByteArray.empty l0 3), .string (rdOf ByteArray.empty l0 4)] (0, 0) _ rfl (cl BK101.out rfl) Tryd.underlying46 rfl (by kernel_rfl)) rfl ?_
  exact ⟨by rfl, bx HB.out⟩
end Go.Proofs.YtabindnaedchgaaDoor.M
end

section
-- Printed for this claim by a program (mprint.py) that uses the kit's print; Lean checks it.
namespace Go.Proofs.YtabindnaedchgaaDoor.M
open Go.RowKit Go.Proofs.YtabindnaedchgaaDoorW.PrintWords Go.Proofs.YtabindnaedchgaaDoorW.PrintLast Go.Proofs.YtabindnaedchgaaDoorW.PrintMore Go.Proofs.YtabindnaedchgaaDoor.Sq
set_option synthInstance.maxHeartbeats 2000000
set_option synthInstance.maxSize 4096
attribute [local go_sem] max2_int min2_int max_two min_two max_three min_three max_four min_four   -- for this text's walks alone
set_option linter.unusedVariables false
set_option linter.unusedSimpArgs false
theorem gf45 : Go_ Tryd.prog 45 Tryd.f45 := ⟨Tryd.func45, by kernel_rfl, rfl⟩
def spec_l2EntryGet.j0 : Nat → List ByteArray → Bool → Option (ByteArray × ByteArray × Bool)
  | 0, _, _ => none
  | k + 1, x4, x21 => if x21 = true then (some ((⟨#[]⟩ : ByteArray), (⟨#[]⟩ : ByteArray), false)) else (if 0 < (x4.length : Int) then (if (x4.length : Int) = 2 then (if 1 < (x4.length : Int) then ((spec_l2Entry.f k (rdOf ByteArray.empty x4 0) (rdOf ByteArray.empty x4 1)).bind fun t109 => (some (rdOf ByteArray.empty x4 0, rdOf ByteArray.empty x4 1, t109))) else (none)) else ((spec_l2Entry.f k (rdOf ByteArray.empty x4 0) (⟨#[]⟩ : ByteArray)).bind fun t110 => (some (rdOf ByteArray.empty x4 0, (⟨#[]⟩ : ByteArray), t110)))) else (none))
def spec_l2EntryGet.f (k : Nat) (a0 : ByteArray) : Option (ByteArray × ByteArray × Bool) := (spec_l1Cut.f k a0 47).bind fun t102 => (if (t102.length : Int) > 2 then (spec_l2EntryGet.j0 k t102 true) else (if (t102.length : Int) = 2 then (if 1 < (t102.length : Int) then (spec_l2EntryGet.j0 k t102 ((rdOf ByteArray.empty t102 1).toList == ([] : List UInt8))) else (none)) else (spec_l2EntryGet.j0 k t102 false)))
theorem spec_l2EntryGet.mono_l : ∀ k, (∀ y0 y1, LeO (spec_l2EntryGet.j0 k y0 y1) (spec_l2EntryGet.j0 (k + 1) y0 y1))
  | 0 => fun _ _ r h => by simp [spec_l2EntryGet.j0] at h
  | k + 1 => by
    have ih0 := spec_l2EntryGet.mono_l k
    · intro y0 y1
      unfold spec_l2EntryGet.j0
      have I0_ := fun x0_ x1_ => LeC.mk (ih0 x0_ x1_)
      have I1_ := fun x0_ x1_ x2_ => LeC.mk (spec_l1Cut.mono x0_ x1_ x2_)
      have I2_ := fun x0_ x1_ x2_ => LeC.mk (spec_l2Entry.mono x0_ x1_ x2_)
      exact LeC.out
theorem spec_l2EntryGet.mono : ∀ a0 k, LeO (spec_l2EntryGet.f k a0) (spec_l2EntryGet.f (k + 1) a0) := by
  intro a0 k
  have ih0 := spec_l2EntryGet.mono_l k
  unfold spec_l2EntryGet.f
  have I0_ := fun x0_ x1_ => LeC.mk (ih0 x0_ x1_)
  have I1_ := fun x0_ x1_ x2_ => LeC.mk (spec_l1Cut.mono x0_ x1_ x2_)
  have I2_ := fun x0_ x1_ x2_ => LeC.mk (spec_l2Entry.mono x0_ x1_ x2_)
  exact LeC.out
set_option maxHeartbeats 8000000 in
set_option maxRecDepth 100000 in
theorem spec_l2EntryGet.calls (k : Nat) (a0 : ByteArray) (r1 : ByteArray) (r2 : ByteArray) (r3 : Bool) (w : World) (h : spec_l2EntryGet.f k a0 = some (r1, r2, r3)) :
    Calls Tryd.prog 45 #[.string a0] w fun e w' => e = .returned (.tuple #[.agg #[.string r1, .string r2], .bool r3]) ∧ Below w.heap.size w w' := by
  have hu43 := Tryd.underlying43
  have HB := Aside0.mk (Below.refl w.heap.size w)
  unfold spec_l2EntryGet.f at h
  have H := h
  clear h
  replace H := Option.bind_eq_some_iff.mp H
  obtain ⟨t102, A20, H⟩ := H
  have A2 := Aside0.mk A20
  clear A20
  have HC3 := Aside0.mk H
  clear H
  go_enter Tryd.func45, Tryd.ntmps45
  go_upto_region 2 with (first | ((with_reducible refine gate_dst (N := 2) rfl ?_); (try (refine gate_guard (by rfl) ?_; dsimp only)); refine box_event rfl (N := 2) rfl (cs := #[.string (⟨#[]⟩ : ByteArray), .string (⟨#[]⟩ : ByteArray)]) (t := 43) (by go_simp <;> rfl) ?_; intro gb101 hg w4 hbox hb; have BK101 := Aside0.mk (hbox); have GW101 := Le_.mk (ge_of hg HB.out); have GE101 := Le_.mk (ge_of hg HB.out); replace HB := kB HB hb; clear hb hbox hg) | ((with_reducible refine gate_callee (f := 16) rfl ?_); refine goL (some 7) rfl rfl gf16 #[.string a0, .int .u8 47] rfl rfl ?_; (with_reducible refine (spec_l1Cut.calls k a0 47 t102 _ A2.out).mono ?_); rintro e w5 ⟨v103, rfl, ho0, hb⟩; refine ⟨_, rfl, ?_⟩; have HO104 := Aside0.mk (Kd.R_lower ho0 (bz HB.out)); replace BK101 := kb BK101 hb; replace HB := kB HB hb; (try clear hb); (try clear hb2); (try clear hk); (try clear hi); (try clear ho0)))
  (try simp only [Act.put, List.setIfInBounds_toArray, List.set_cons_zero, List.set_cons_succ])
  go_cut [21] (fun v21 wc => ∃ (kq : Nat) (x21_2 : Bool), v21 = .bool x21_2 ∧ Aside0 (spec_l2EntryGet.j0 kq t102 x21_2 = some (r1, r2, r3)) ∧ Aside0 (kq ≤ k) ∧ Aside0 (Kd.R Kd.string 9 wc w.heap.size (fun _ => True) v103 t102) ∧ Aside0 (wc.heap[gb101]? = some (.cells #[.string (⟨#[]⟩ : ByteArray), .string (⟨#[]⟩ : ByteArray)] 43 (0, 0))) ∧ Aside0 (Below w.heap.size w wc))
  case first =>
    have H := HC3.out
    clear HC3
    by_cases c6 : (t102.length : Int) > 2
    · rw [if_pos c6] at H
      have c6b0 : decide (2 < (t102.length : Int)) = true := decide_eq_true c6
      have c6b1 : decide (2 < t102.length) = true := decide_eq_true (by omega)
      clear c6
      (first | rw [c6b0] | (simp only [i64_w, i32_w]; rw [c6b0]) | skip)
      have H' := Aside0.mk H
      clear H
      obtain ⟨Ao7, co7, eo7⟩ := Kd.R_slice HO104.out
      subst eo7
      go_wp2
      go_meet
      case rel => exact ⟨_, (true), (by first | rfl | (simp; done) | (simp [*]; done)), H', ⟨by first | omega | exact Nat.le_refl _⟩, ⟨rx HO104.out⟩, ⟨gx (BK101.out)⟩, ⟨bx HB.out⟩⟩
    · rw [if_neg c6] at H
      have c6b0 : decide (2 < (t102.length : Int)) = false := decide_eq_false c6
      have c6b1 : decide (2 < t102.length) = false := decide_eq_false (by omega)
      clear c6
      (first | rw [c6b0] | (simp only [i64_w, i32_w]; rw [c6b0]) | skip)
      by_cases c8 : (t102.length : Int) = 2
      · rw [if_pos c8] at H
        have c8b0 : ((t102.length : Int) == 2) = true := beq_iff_eq.mpr c8
        have c8b1 : ((t102.length : Int) != 2) = false := bne_eq_false_iff_eq.mpr c8
        clear c8
        have c9 := ite_y H
        replace H := ite_t H
        have c9b0 := decide_eq_true c9
        have c9b1 : decide (1 < t102.length) = true := decide_eq_true (by omega)
        clear c9
        have H' := Aside0.mk H
        clear H
        obtain ⟨Ao10, co10, eo10⟩ := Kd.R_slice HO104.out
        subst eo10
        have p105 : 0 ≤ (1 : Int) := (by omega)
        have q105 := of_decide_eq_true c9b0
        obtain ⟨ad105, e105, hx105_0⟩ := Kd.at_string (Kd.R_reads' HO104.out).2.2 1 p105 q105
        cases e105
        (try simp only [show (1 : Int).toNat = 1 from rfl, Nat.reduceMul, Nat.reduceEqDiff, Go.Addr.add, ↓reduceIte] at hx105_0)
        have qi105 : (1 < t102.length) = True := eq_true (by omega)
        (try rw [show ((1 : Int)).toNat = 1 from rfl] at hx105_0)
        replace p105 := eq_true p105
        replace q105 := eq_true q105
        go_wp2
        go_meet
        case rel => exact ⟨_, (((rdOf ByteArray.empty t102 1).toList == ([] : List UInt8))), (by first | rfl | (simp; done) | (simp [*]; done)), H', ⟨by first | omega | exact Nat.le_refl _⟩, ⟨rx HO104.out⟩, ⟨gx (BK101.out)⟩, ⟨bx HB.out⟩⟩
      · rw [if_neg c8] at H
        have c8b0 : ((t102.length : Int) == 2) = false := beq_eq_false_iff_ne.mpr c8
        have c8b1 : ((t102.length : Int) != 2) = true := bne_iff_ne.mpr c8
        have H' := Aside0.mk H
        clear H
        obtain ⟨Ao11, co11, eo11⟩ := Kd.R_slice HO104.out
        subst eo11
        go_wp2
        go_meet
        case rel => exact ⟨_, (false), (by first | rfl | (simp; done) | (simp [*]; done)), H', ⟨by first | omega | exact Nat.le_refl _⟩, ⟨rx HO104.out⟩, ⟨gx (BK101.out)⟩, ⟨bx HB.out⟩⟩
  case rest =>
    clear HC3
    try clear c1
    try clear p1
    try clear q1
    try clear hx1
    try clear qi1
    try clear p2
    try clear c4
    try clear c6
    try clear c6b0
    try clear c6b1
    try clear c8
    try clear c8b0
    try clear c8b1
    try clear c9
    try clear c9b0
    try clear c9b1
    try clear p10
    try clear q10
    try clear hx10
    try clear qi10
    try clear hx105_0
    try clear p105
    try clear q105
    obtain ⟨kq, x21_2, rfl, HA, HJ2, HO_4, BK101, HB⟩ := hcut
    cases kq with
    | zero => exact absurd HA.out (by simp [spec_l2EntryGet.j0])
    | succ kj2 =>
      have H := HA.out
      clear HA
      simp only [spec_l2EntryGet.j0] at H
      by_cases c12 : x21_2 = true
      · subst c12
        rw [if_pos rfl] at H
        simp only [Option.some.injEq, Prod.mk.injEq] at H
        obtain ⟨rfl, rfl, rfl⟩ := H
        have hz13 := cells_2 BK101.out
        go_wp2
        refine bodyPost_ret (results_ct rfl _ _ gb101 43 #[.string (⟨#[]⟩ : ByteArray), .string (⟨#[]⟩ : ByteArray)] (0, 0) _ rfl (cl BK101.out rfl) Tryd.underlying43 rfl (by kernel_rfl)) rfl ?_
        exact ⟨by rfl, bx HB.out⟩
      · replace c12 := Bool.eq_false_iff.mpr c12
        subst c12
        rw [if_neg Bool.false_ne_true] at H
        have c14 := ite_y H
        replace H := ite_t H
        have c14b0 := decide_eq_true c14
        have c14b1 : decide (0 < t102.length) = true := decide_eq_true (by omega)
        clear c14
        by_cases c15 : (t102.length : Int) = 2
        · rw [if_pos c15] at H
          have c15b0 : ((t102.length : Int) == 2) = true := beq_iff_eq.mpr c15
          have c15b1 : ((t102.length : Int) != 2) = false := bne_eq_false_iff_eq.mpr c15
          clear c15
          have c16 := ite_y H
          replace H := ite_t H
          have c16b0 := decide_eq_true c16
          have c16b1 : decide (1 < t102.length) = true := decide_eq_true (by omega)
          clear c16
          replace H := Option.bind_eq_some_iff.mp H
          obtain ⟨t109, A170, H⟩ := H
          have A17 := Aside0.mk A170
          clear A170
          simp only [Option.some.injEq, Prod.mk.injEq] at H
          obtain ⟨rfl, rfl, rfl⟩ := H
          obtain ⟨Ao18, co18, eo18⟩ := Kd.R_slice HO_4.out
          subst eo18
          have p106 : 0 ≤ (0 : Int) := (by omega)
          have q106 := of_decide_eq_true c14b0
          obtain ⟨ad106, e106, hx106_0⟩ := Kd.at_string (Kd.R_reads' HO_4.out).2.2 0 p106 q106
          cases e106
          have qi106 : (0 < t102.length) = True := eq_true (by omega)
          (try rw [show ((0 : Int)).toNat = 0 from rfl] at hx106_0)
          (try rw [Addr.add_zero'] at hx106_0)
          replace p106 := eq_true p106
          replace q106 := eq_true q106
          try go_wp2_with (first | ((with_reducible refine gate_dst (N := 5) rfl ?_); (try (refine gate_guard (by rfl) ?_; dsimp only)); refine box_event rfl (N := 5) rfl (cs := #[.string (⟨#[]⟩ : ByteArray), .string (⟨#[]⟩ : ByteArray)]) (t := 43) (by go_simp <;> rfl) ?_; intro gb107 hg w19 hbox hb; replace HO_4 := kR HO_4 hb; have BK107 := Aside0.mk (hbox); have GW107 := Le_.mk (ge_of hg HB.out); have GE107 := Le_.mk (ge_of hg HB.out); replace HB := kB HB hb; have NB101_107 := Ne_.mk ((by rw [hg]; exact Nat.ne_of_lt (blk_lt (gx (BK101.out))) : gb101 ≠ gb107)); have NB107_101 := Ne_.mk ((by rw [hg]; exact Nat.ne_of_gt (blk_lt (gx (BK101.out))) : gb107 ≠ gb101)); replace BK101 := kb BK101 hb; clear hb hbox hg; have hnb20 := NB107_101.out; have hnc20 := NB101_107.out; have hz21 := cells_2 BK107.out; have p108 : 0 ≤ (1 : Int) := (by omega); have q108 := of_decide_eq_true c16b0; obtain ⟨ad108, e108, hx108_0⟩ := Kd.at_string (Kd.R_reads' HO_4.out).2.2 1 p108 q108; obtain rfl : ad106 = ad108 := (by injection e108); (try simp only [show (1 : Int).toNat = 1 from rfl, Nat.reduceMul, Nat.reduceEqDiff, Go.Addr.add, ↓reduceIte] at hx108_0); have qi108 : (1 < t102.length) = True := eq_true (by omega); (try rw [show ((1 : Int)).toNat = 1 from rfl] at hx108_0); have hn108_0 : ad106.block ≠ gb107 := Kd.own_blk (Kd.R_ne HO_4.out BK107.out (by decide)); have hn108_1 : ad106.block ≠ gb107 := Kd.own_blk (Kd.R_ne HO_4.out BK107.out (by decide)); replace hx108_0 := (cell_far (p := ⟨gb107, 0, none⟩) (by first | (rw [add_block]; exact hn108_0) | (show (Addr.add _ _).block ≠ _; rw [add_block]; exact hn108_0) | exact hn108_0) (.string (rdOf ByteArray.empty t102 0))).trans hx108_0; replace hx108_0 := (cell_far (p := ⟨gb107, 1, none⟩) (by first | (rw [add_block]; exact hn108_1) | (show (Addr.add _ _).block ≠ _; rw [add_block]; exact hn108_1) | exact hn108_1) (.string (⟨#[]⟩ : ByteArray))).trans hx108_0; clear hn108_0; clear hn108_1; replace p108 := eq_true p108; replace q108 := eq_true q108))
          have n0_ : Aside0 (Kd.R Kd.string 9 (((w19.setCell ⟨gb107, 0, none⟩ (.string (rdOf ByteArray.empty t102 0))).setCell ⟨gb107, 1, none⟩ (.string (⟨#[]⟩ : ByteArray))).setCell ⟨gb107, 1, none⟩ (.string (rdOf ByteArray.empty t102 1))) w.heap.size (fun _ => True) (.slice (some ad106) t102.length co18) t102) := ⟨Kd.R_mono (rf1 HO_4.out BK107.out (by decide)) (fun _ _ => trivial)⟩
          have n1_ : Aside0 ((((w19.setCell ⟨gb107, 0, none⟩ (.string (rdOf ByteArray.empty t102 0))).setCell ⟨gb107, 1, none⟩ (.string (⟨#[]⟩ : ByteArray))).setCell ⟨gb107, 1, none⟩ (.string (rdOf ByteArray.empty t102 1))).heap[gb101]? = some (.cells #[.string (⟨#[]⟩ : ByteArray), .string (⟨#[]⟩ : ByteArray)] 43 (0, 0))) := ⟨cl BK101.out rfl⟩
          have n2_ : Aside0 ((((w19.setCell ⟨gb107, 0, none⟩ (.string (rdOf ByteArray.empty t102 0))).setCell ⟨gb107, 1, none⟩ (.string (⟨#[]⟩ : ByteArray))).setCell ⟨gb107, 1, none⟩ (.string (rdOf ByteArray.empty t102 1))).heap[gb107]? = some (.cells #[.string (rdOf ByteArray.empty t102 0), .string (rdOf ByteArray.empty t102 1)] 43 (0, 0))) := ⟨cl BK107.out rfl⟩
          have n3_ : Aside0 (Below w.heap.size w (((w19.setCell ⟨gb107, 0, none⟩ (.string (rdOf ByteArray.empty t102 0))).setCell ⟨gb107, 1, none⟩ (.string (⟨#[]⟩ : ByteArray))).setCell ⟨gb107, 1, none⟩ (.string (rdOf ByteArray.empty t102 1)))) := ⟨bx HB.out⟩
          (try clear HO_4)
          (try clear BK101)
          (try clear BK107)
          (try clear HB)
          generalize (((w19.setCell ⟨gb107, 0, none⟩ (.string (rdOf ByteArray.empty t102 0))).setCell ⟨gb107, 1, none⟩ (.string (⟨#[]⟩ : ByteArray))).setCell ⟨gb107, 1, none⟩ (.string (rdOf ByteArray.empty t102 1))) = w22 at n0_ n1_ n2_ n3_ ⊢
          have HO_4 := n0_
          have BK101 := n1_
          have BK107 := n2_
          have HB := n3_
          clear n0_ n1_ n2_ n3_
          replace HO_4 := Aside0.mk (Kd.R_drew HO_4.out)
          replace BK101 := Aside0.mk (blk_drew BK101.out)
          replace BK107 := Aside0.mk (blk_drew BK107.out)
          replace HB := Aside0.mk (below_drew1 HB.out)
          refine start_ (n := 5) (S := fun w' => w'.cell? ⟨gb107, 0, none⟩ = some (.string (rdOf ByteArray.empty t102 0)) ∧ w'.cell? ⟨gb107, 1, none⟩ = some (.string (rdOf ByteArray.empty t102 1))) (ds := []) _ (by kernel_rfl) rfl rfl ⟨(blk_cell BK107.out 0).trans rfl, (blk_cell BK107.out 1).trans rfl⟩ (fun hHeld => ?_)
          generalize w22.drew = w23 at HO_4 BK101 BK107 HB hHeld ⊢
          refine take_ (i := 0) (N := some 34) (v := ?_) (a' := ?_) #[true, false, false, false, false] rfl rfl (by kernel_rfl) (fun _ _ _ h => h) (Or.inl ⟨by rfl, ?_⟩) hHeld ?_ ?_
          rotate_left
          · rintro w' ⟨s0, s1⟩
            go_simp
            with_reducible rfl
          rotate_left
          · simp only [Act.put, List.setIfInBounds_toArray, List.set_cons_zero, List.set_cons_succ, i64_w, i32_w]
            rfl
          refine take_ (i := 1) (N := some 35) (v := ?_) (a' := ?_) #[true, true, false, false, false] rfl rfl (by kernel_rfl) (fun _ _ _ h => h) (Or.inl ⟨by rfl, ?_⟩) hHeld ?_ ?_
          rotate_left
          · rintro w' ⟨s0, s1⟩
            go_simp
            with_reducible rfl
          rotate_left
          · simp only [Act.put, List.setIfInBounds_toArray, List.set_cons_zero, List.set_cons_succ, i64_w, i32_w]
            rfl
          refine one_ (i := 2) (N := some 36) #[true, true, true, false, false] rfl rfl (by kernel_rfl) (by decide) (fun K hK => ?_)
          refine goM gf69 #[.agg #[.string (rdOf ByteArray.empty t102 0), .string (rdOf ByteArray.empty t102 1)]] (by rfl) rfl rfl rfl ?_
          with_reducible refine (spec_l2Entry.calls kj2 (rdOf ByteArray.empty t102 0) (rdOf ByteArray.empty t102 1) t109 _ A17.out).mono ?_
          rintro e w24 ⟨rfl, hb⟩
          refine ⟨_, rfl, ?_⟩
          replace HO_4 := kR HO_4 hb
          replace BK101 := kb BK101 hb
          replace BK107 := kb BK107 hb
          replace HB := kB HB hb
          (try clear hb)
          (try clear hb2)
          (try clear hk)
          (try clear hi)
          refine hK.out _ _ ⟨(blk_cell BK107.out 0).trans rfl, (blk_cell BK107.out 1).trans rfl⟩ (fun hHeld => ?_)
          clear hK K
          refine norm_ (a' := ?_) ?_ ?_
          rotate_left
          · show Act.put _ (some 36) _ = _
            simp only [Act.put, List.setIfInBounds_toArray, List.set_cons_zero, List.set_cons_succ, i64_w, i32_w]
            rfl
          refine one_ (i := 3) (N := none) #[true, true, true, true, false] rfl rfl (by kernel_rfl) (by decide) (fun K hK => ?_)
          have hs25 : w24.cell? ⟨gb101, 0, none⟩ = some (.string (⟨#[]⟩ : ByteArray)) := (blk_cell BK101.out 0).trans rfl
          have hfs25 := blk_frozen BK101.out 0
          have hns25_1 := NB107_101.out
          have hms25_1 := NB101_107.out
          have hs26 : w24.cell? ⟨gb101, 1, none⟩ = some (.string (⟨#[]⟩ : ByteArray)) := (blk_cell BK101.out 1).trans rfl
          have hfs26 := blk_frozen BK101.out 1
          have hns26_1 := NB107_101.out
          have hms26_1 := NB101_107.out
          refine skip_ (w1 := ?_) (by rfl) rfl ?_ ?_
          rotate_left
          · go_simp
            rfl
          refine hK.out _ _ ⟨((cell_far (p := ⟨gb101, _, none⟩) NB107_101.out _).trans (((cell_far (p := ⟨gb101, _, none⟩) NB107_101.out _).trans (hHeld.1)))), ((cell_far (p := ⟨gb101, _, none⟩) NB107_101.out _).trans (((cell_far (p := ⟨gb101, _, none⟩) NB107_101.out _).trans (hHeld.2))))⟩ (fun hHeld => ?_)
          clear hK K
          refine pure_ (i := 4) (N := some 3) (v := ?_) (a' := ?_) #[true, true, true, true, true] rfl rfl (by kernel_rfl) (fun _ _ _ h => h) (Or.inl ⟨by rfl, ?_⟩) ?_ ?_
          rotate_left
          · intro w'
            go_simp
            with_reducible rfl
          rotate_left
          · simp only [Act.put, List.setIfInBounds_toArray, List.set_cons_zero, List.set_cons_succ, i64_w, i32_w]
            rfl
          refine done_ (by kernel_rfl) ?_
          try go_wp2
          refine bodyPost_ret (results_ct rfl _ _ gb101 43 #[.string (rdOf ByteArray.empty t102 0), .string (rdOf ByteArray.empty t102 1)] (0, 0) _ rfl (cl BK101.out rfl) Tryd.underlying43 rfl (by kernel_rfl)) rfl ?_
          exact ⟨by rfl, bx HB.out⟩
        · rw [if_neg c15] at H
          have c15b0 : ((t102.length : Int) == 2) = false := beq_eq_false_iff_ne.mpr c15
          have c15b1 : ((t102.length : Int) != 2) = true := bne_iff_ne.mpr c15
          replace H := Option.bind_eq_some_iff.mp H
          obtain ⟨t110, A270, H⟩ := H
          have A27 := Aside0.mk A270
          clear A270
          simp only [Option.some.injEq, Prod.mk.injEq] at H
          obtain ⟨rfl, rfl, rfl⟩ := H
          obtain ⟨Ao28, co28, eo28⟩ := Kd.R_slice HO_4.out
          subst eo28
          have p106 : 0 ≤ (0 : Int) := (by omega)
          have q106 := of_decide_eq_true c14b0
          obtain ⟨ad106, e106, hx106_0⟩ := Kd.at_string (Kd.R_reads' HO_4.out).2.2 0 p106 q106
          cases e106
          have qi106 : (0 < t102.length) = True := eq_true (by omega)
          (try rw [show ((0 : Int)).toNat = 0 from rfl] at hx106_0)
          (try rw [Addr.add_zero'] at hx106_0)
          replace p106 := eq_true p106
          replace q106 := eq_true q106
          try go_wp2_with (first | ((with_reducible refine gate_dst (N := 5) rfl ?_); (try (refine gate_guard (by rfl) ?_; dsimp only)); refine box_event rfl (N := 5) rfl (cs := #[.string (⟨#[]⟩ : ByteArray), .string (⟨#[]⟩ : ByteArray)]) (t := 43) (by go_simp <;> rfl) ?_; intro gb107 hg w29 hbox hb; replace HO_4 := kR HO_4 hb; have BK107 := Aside0.mk (hbox); have GW107 := Le_.mk (ge_of hg HB.out); have GE107 := Le_.mk (ge_of hg HB.out); replace HB := kB HB hb; have NB101_107 := Ne_.mk ((by rw [hg]; exact Nat.ne_of_lt (blk_lt (gx (BK101.out))) : gb101 ≠ gb107)); have NB107_101 := Ne_.mk ((by rw [hg]; exact Nat.ne_of_gt (blk_lt (gx (BK101.out))) : gb107 ≠ gb101)); replace BK101 := kb BK101 hb; clear hb hbox hg; have hnb30 := NB107_101.out; have hnc30 := NB101_107.out; have hz31 := cells_2 BK107.out))
          have n0_ : Aside0 (Kd.R Kd.string 9 ((w29.setCell ⟨gb107, 0, none⟩ (.string (rdOf ByteArray.empty t102 0))).setCell ⟨gb107, 1, none⟩ (.string (⟨#[]⟩ : ByteArray))) w.heap.size (fun _ => True) (.slice (some ad106) t102.length co28) t102) := ⟨Kd.R_mono (rf1 HO_4.out BK107.out (by decide)) (fun _ _ => trivial)⟩
          have n1_ : Aside0 (((w29.setCell ⟨gb107, 0, none⟩ (.string (rdOf ByteArray.empty t102 0))).setCell ⟨gb107, 1, none⟩ (.string (⟨#[]⟩ : ByteArray))).heap[gb101]? = some (.cells #[.string (⟨#[]⟩ : ByteArray), .string (⟨#[]⟩ : ByteArray)] 43 (0, 0))) := ⟨cl BK101.out rfl⟩
          have n2_ : Aside0 (((w29.setCell ⟨gb107, 0, none⟩ (.string (rdOf ByteArray.empty t102 0))).setCell ⟨gb107, 1, none⟩ (.string (⟨#[]⟩ : ByteArray))).heap[gb107]? = some (.cells #[.string (rdOf ByteArray.empty t102 0), .string (⟨#[]⟩ : ByteArray)] 43 (0, 0))) := ⟨cl BK107.out rfl⟩
          have n3_ : Aside0 (Below w.heap.size w ((w29.setCell ⟨gb107, 0, none⟩ (.string (rdOf ByteArray.empty t102 0))).setCell ⟨gb107, 1, none⟩ (.string (⟨#[]⟩ : ByteArray)))) := ⟨bx HB.out⟩
          (try clear HO_4)
          (try clear BK101)
          (try clear BK107)
          (try clear HB)
          generalize ((w29.setCell ⟨gb107, 0, none⟩ (.string (rdOf ByteArray.empty t102 0))).setCell ⟨gb107, 1, none⟩ (.string (⟨#[]⟩ : ByteArray))) = w32 at n0_ n1_ n2_ n3_ ⊢
          have HO_4 := n0_
          have BK101 := n1_
          have BK107 := n2_
          have HB := n3_
          clear n0_ n1_ n2_ n3_
          replace HO_4 := Aside0.mk (Kd.R_drew HO_4.out)
          replace BK101 := Aside0.mk (blk_drew BK101.out)
          replace BK107 := Aside0.mk (blk_drew BK107.out)
          replace HB := Aside0.mk (below_drew1 HB.out)
          refine start_ (n := 5) (S := fun w' => w'.cell? ⟨gb107, 0, none⟩ = some (.string (rdOf ByteArray.empty t102 0)) ∧ w'.cell? ⟨gb107, 1, none⟩ = some (.string (⟨#[]⟩ : ByteArray))) (ds := []) _ (by kernel_rfl) rfl rfl ⟨(blk_cell BK107.out 0).trans rfl, (blk_cell BK107.out 1).trans rfl⟩ (fun hHeld => ?_)
          generalize w32.drew = w33 at HO_4 BK101 BK107 HB hHeld ⊢
          refine take_ (i := 0) (N := some 34) (v := ?_) (a' := ?_) #[true, false, false, false, false] rfl rfl (by kernel_rfl) (fun _ _ _ h => h) (Or.inl ⟨by rfl, ?_⟩) hHeld ?_ ?_
          rotate_left
          · rintro w' ⟨s0, s1⟩
            go_simp
            with_reducible rfl
          rotate_left
          · simp only [Act.put, List.setIfInBounds_toArray, List.set_cons_zero, List.set_cons_succ, i64_w, i32_w]
            rfl
          refine take_ (i := 1) (N := some 35) (v := ?_) (a' := ?_) #[true, true, false, false, false] rfl rfl (by kernel_rfl) (fun _ _ _ h => h) (Or.inl ⟨by rfl, ?_⟩) hHeld ?_ ?_
          rotate_left
          · rintro w' ⟨s0, s1⟩
            go_simp
            with_reducible rfl
          rotate_left
          · simp only [Act.put, List.setIfInBounds_toArray, List.set_cons_zero, List.set_cons_succ, i64_w, i32_w]
            rfl
          refine one_ (i := 2) (N := some 36) #[true, true, true, false, false] rfl rfl (by kernel_rfl) (by decide) (fun K hK => ?_)
          refine goM gf69 #[.agg #[.string (rdOf ByteArray.empty t102 0), .string (⟨#[]⟩ : ByteArray)]] (by rfl) rfl rfl rfl ?_
          with_reducible refine (spec_l2Entry.calls kj2 (rdOf ByteArray.empty t102 0) (⟨#[]⟩ : ByteArray) t110 _ A27.out).mono ?_
          rintro e w34 ⟨rfl, hb⟩
          refine ⟨_, rfl, ?_⟩
          replace HO_4 := kR HO_4 hb
          replace BK101 := kb BK101 hb
          replace BK107 := kb BK107 hb
          replace HB := kB HB hb
          (try clear hb)
          (try clear hb2)
          (try clear hk)
          (try clear hi)
          refine hK.out _ _ ⟨(blk_cell BK107.out 0).trans rfl, (blk_cell BK107.out 1).trans rfl⟩ (fun hHeld => ?_)
          clear hK K
          refine norm_ (a' := ?_) ?_ ?_
          rotate_left
          · show Act.put _ (some 36) _ = _
            simp only [Act.put, List.setIfInBounds_toArray, List.set_cons_zero, List.set_cons_succ, i64_w, i32_w]
            rfl
          refine one_ (i := 3) (N := none) #[true, true, true, true, false] rfl rfl (by kernel_rfl) (by decide) (fun K hK => ?_)
          have hs35 : w34.cell? ⟨gb101, 0, none⟩ = some (.string (⟨#[]⟩ : ByteArray)) := (blk_cell BK101.out 0).trans rfl
          have hfs35 := blk_frozen BK101.out 0
          have hns35_1 := NB107_101.out
          have hms35_1 := NB101_107.out
          have hs36 : w34.cell? ⟨gb101, 1, none⟩ = some (.string (⟨#[]⟩ : ByteArray)) := (blk_cell BK101.out 1).trans rfl
          have hfs36 := blk_frozen BK101.out 1
          have hns36_1 := NB107_101.out
          have hms36_1 := NB101_107.out
          refine skip_ (w1 := ?_) (by rfl) rfl ?_ ?_
          rotate_left
          · go_simp
            rfl
          refine hK.out _ _ ⟨((cell_far (p := ⟨gb101, _, none⟩) NB107_101.out _).trans (((cell_far (p := ⟨gb101, _, none⟩) NB107_101.out _).trans (hHeld.1)))), ((cell_far (p := ⟨gb101, _, none⟩) NB107_101.out _).trans (((cell_far (p := ⟨gb101, _, none⟩) NB107_101.out _).trans (hHeld.2))))⟩ (fun hHeld => ?_)
          clear hK K
          refine pure_ (i := 4) (N := some 3) (v := ?_) (a' := ?_) #[true, true, true, true, true] rfl rfl (by kernel_rfl) (fun _ _ _ h => h) (Or.inl ⟨by rfl, ?_⟩) ?_ ?_
          rotate_left
          · intro w'
            go_simp
            with_reducible rfl
          rotate_left
          · simp only [Act.put, List.setIfInBounds_toArray, List.set_cons_zero, List.set_cons_succ, i64_w, i32_w]
            rfl
          refine done_ (by kernel_rfl) ?_
          try go_wp2
          refine bodyPost_ret (results_ct rfl _ _ gb101 43 #[.string (rdOf ByteArray.empty t102 0), .string (⟨#[]⟩ : ByteArray)] (0, 0) _ rfl (cl BK101.out rfl) Tryd.underlying43 rfl (by kernel_rfl)) rfl ?_
          exact ⟨by rfl, bx HB.out⟩
end Go.Proofs.YtabindnaedchgaaDoor.M
end

section
-- Printed for this claim by a program (mprint.py) that uses the kit's print; Lean checks it.
namespace Go.Proofs.YtabindnaedchgaaDoor.M
open Go.RowKit Go.Proofs.YtabindnaedchgaaDoorW.PrintWords Go.Proofs.YtabindnaedchgaaDoorW.PrintLast Go.Proofs.YtabindnaedchgaaDoorW.PrintMore Go.Proofs.YtabindnaedchgaaDoor.Sq
set_option synthInstance.maxHeartbeats 2000000
set_option synthInstance.maxSize 4096
attribute [local go_sem] max2_int min2_int max_two min_two max_three min_three max_four min_four   -- for this text's walks alone
set_option linter.unusedVariables false
set_option linter.unusedSimpArgs false
theorem gf17 : Go_ Tryd.prog 17 Tryd.f17 := ⟨Tryd.func17, by kernel_rfl, rfl⟩
def spec_l5Line.j0 : Nat → ByteArray → Bool → List ByteArray → List (S43) → Bool → List (S46) → Option (List ByteArray × (List (S43)) × Bool × (List (S46)) × Bool)
  | 0, _, _, _, _, _, _ => none
  | k + 1, x1, x28, x102000, x102001, x102002, x102003 => if x28 = true then (if 1 ≤ (x1.size : Int) then (if x102000.length < 8796093022208 then (some ((x102000 ++ [x1.extract 1 x1.size]), x102001, x102002, x102003, true)) else (none)) else (none)) else (if (x1.size : Int) > 0 then (if 0 < (x1.size : Int) then (if (bt x1 0) = 43 then (if 1 ≤ (x1.size : Int) then ((spec_l2EntryGet.f k (x1.extract 1 x1.size)).bind fun bt117 => (if x102001.length < 4398046511104 then (some (x102000, (x102001 ++ [(⟨bt117.1, bt117.2.1⟩ : S43)]), x102002, x102003, bt117.2.2)) else (none))) else (none)) else (some (x102000, x102001, x102002, x102003, false))) else (none)) else (some (x102000, x102001, x102002, x102003, false)))
def spec_l5Line.f (k : Nat) (l0_0 : List ByteArray) (l0_1 : List (S43)) (a0_2 : Bool) (l0_3 : List (S46)) (a1 : ByteArray) : Option (List ByteArray × (List (S43)) × Bool × (List (S46)) × Bool) := (spec_l1Cut.f k a1 32).bind fun t103 => (if a1.toList = ([97, 102, 102, 105, 120, 101, 115] : List UInt8) then (some (l0_0, l0_1, true, l0_3, true)) else (if (t103.length : Int) = 5 then ((spec_l2AffixGet.f t103).bind fun bt106 => (if l0_3.length < 1954687338268 then (some (l0_0, l0_1, a0_2, (l0_3 ++ [(⟨bt106.1, bt106.2.1, bt106.2.2.1, bt106.2.2.2.1, bt106.2.2.2.2⟩ : S46)]), true)) else (none))) else (if (a1.size : Int) > 0 then (if 0 < (a1.size : Int) then (spec_l5Line.j0 k a1 ((bt a1 0) == 45) l0_0 l0_1 a0_2 l0_3) else (none)) else (spec_l5Line.j0 k a1 false l0_0 l0_1 a0_2 l0_3))))
theorem spec_l5Line.mono_l : ∀ k, (∀ y0 y1 y2 y3 y4 y5, LeO (spec_l5Line.j0 k y0 y1 y2 y3 y4 y5) (spec_l5Line.j0 (k + 1) y0 y1 y2 y3 y4 y5))
  | 0 => fun _ _ _ _ _ _ r h => by simp [spec_l5Line.j0] at h
  | k + 1 => by
    have ih0 := spec_l5Line.mono_l k
    · intro y0 y1 y2 y3 y4 y5
      unfold spec_l5Line.j0
      have I0_ := fun x0_ x1_ x2_ x3_ x4_ x5_ => LeC.mk (ih0 x0_ x1_ x2_ x3_ x4_ x5_)
      have I1_ := fun x0_ x1_ x2_ => LeC.mk (spec_l1Cut.mono x0_ x1_ x2_)
      have I2_ := fun x0_ x1_ => LeC.mk (spec_l2EntryGet.mono x0_ x1_)
      exact LeC.out
theorem spec_l5Line.mono : ∀ a0 a1 a2 a3 a4 k, LeO (spec_l5Line.f k a0 a1 a2 a3 a4) (spec_l5Line.f (k + 1) a0 a1 a2 a3 a4) := by
  intro a0 a1 a2 a3 a4 k
  have ih0 := spec_l5Line.mono_l k
  unfold spec_l5Line.f
  have I0_ := fun x0_ x1_ x2_ x3_ x4_ x5_ => LeC.mk (ih0 x0_ x1_ x2_ x3_ x4_ x5_)
  have I1_ := fun x0_ x1_ x2_ => LeC.mk (spec_l1Cut.mono x0_ x1_ x2_)
  have I2_ := fun x0_ x1_ => LeC.mk (spec_l2EntryGet.mono x0_ x1_)
  exact LeC.out
def spec_l5Line.T6 : Bool × List (List Nat × List Nat) := (true, [([], []), ([0], [0]), ([], []), ([2], [2]), ([3], [3]), ([1, 4, 3], [1, 4]), ([0, 1, 2, 3, 4, 5], []), ([6, 5, 5, 0, 1, 2, 3, 4, 5], [5, 6])])
def spec_l5Line.B6 : List Nat := [0, 1, 0, 4, 12, 31, 63, 127]
theorem spec_l5Line.tab6 : rtab .any (opsOf Tryd.f17 6) = spec_l5Line.T6 := by kernel_rfl
theorem spec_l5Line.bits6 : waitsOk spec_l5Line.T6.2 spec_l5Line.B6 = true := by kernel_rfl
def spec_l5Line.T9 : Bool × List (List Nat × List Nat) := (true, [([], []), ([0], [0]), ([], []), ([2], [2]), ([3], [3]), ([1, 4], [1, 4]), ([0, 1, 2, 3, 4, 5], []), ([6, 5, 5, 0, 1, 2, 3, 4, 5], [5, 6])])
def spec_l5Line.B9 : List Nat := [0, 1, 0, 4, 12, 31, 63, 127]
theorem spec_l5Line.tab9 : rtab .any (opsOf Tryd.f17 9) = spec_l5Line.T9 := by kernel_rfl
theorem spec_l5Line.bits9 : waitsOk spec_l5Line.T9.2 spec_l5Line.B9 = true := by kernel_rfl
set_option maxHeartbeats 8000000 in
set_option maxRecDepth 100000 in
theorem spec_l5Line.calls (k : Nat) (P0_0_ : Nat → Prop) (u9000_ : Value) (l0_0 : List ByteArray) (P0_1_ : Nat → Prop) (u9001_ : Value) (l0_1 : List (S43)) (a0_2 : Bool) (P0_3_ : Nat → Prop) (u9002_ : Value) (l0_3 : List (S46)) (a1 : ByteArray) (r1 : List ByteArray) (r2 : List (S43)) (r3 : Bool) (r4 : List (S46)) (r5 : Bool) (w0 w : World) (hB : Below w0.heap.size w0 w) (ho0_0 : Kd.R Kd.string 9 w w0.heap.size P0_0_ u9000_ l0_0) (ho0_1 : Kd.R k43 43 w w0.heap.size P0_1_ u9001_ l0_1) (ho0_3 : Kd.R k46 46 w w0.heap.size P0_3_ u9002_ l0_3) (h : spec_l5Line.f k l0_0 l0_1 a0_2 l0_3 a1 = some (r1, r2, r3, r4, r5)) :
    Calls Tryd.prog 17 #[.agg #[u9000_, u9001_, .bool a0_2, u9002_], .string a1] w fun e w' => ∃ v0_ v1_ v3_ : Value, e = .returned (.tuple #[.agg #[v0_, v1_, .bool r3, v3_], .bool r5]) ∧ Kd.R Kd.string 9 w' w0.heap.size (fun k_ => ((P0_0_ k_ ∨ P0_1_ k_ ∨ P0_3_ k_) ∨ w.heap.size ≤ k_)) v0_ r1 ∧ Kd.R k43 43 w' w0.heap.size (fun k_ => ((P0_0_ k_ ∨ P0_1_ k_ ∨ P0_3_ k_) ∨ w.heap.size ≤ k_)) v1_ r2 ∧ Kd.R k46 46 w' w0.heap.size (fun k_ => ((P0_0_ k_ ∨ P0_1_ k_ ∨ P0_3_ k_) ∨ w.heap.size ≤ k_)) v3_ r4 ∧ Below w0.heap.size w0 w' ∧ Kept w w' (fun k_ => P0_0_ k_ ∨ P0_1_ k_ ∨ P0_3_ k_) := by
  have hu26 := Tryd.underlying26
  have hu43 := Tryd.underlying43
  have HO0_0 := Aside0.mk (show Kd.R Kd.string 9 w w0.heap.size (fun k_ => ((P0_0_ k_ ∨ P0_1_ k_ ∨ P0_3_ k_) ∨ w.heap.size ≤ k_)) u9000_ l0_0 from Kd.R_mono ho0_0 (fun k_ hk => (.inl (.inl hk))))
  have HO0_1 := Aside0.mk (show Kd.R k43 43 w w0.heap.size (fun k_ => ((P0_0_ k_ ∨ P0_1_ k_ ∨ P0_3_ k_) ∨ w.heap.size ≤ k_)) u9001_ l0_1 from Kd.R_mono ho0_1 (fun k_ hk => (.inl (.inr (.inl hk)))))
  have HO0_3 := Aside0.mk (show Kd.R k46 46 w w0.heap.size (fun k_ => ((P0_0_ k_ ∨ P0_1_ k_ ∨ P0_3_ k_) ∨ w.heap.size ≤ k_)) u9002_ l0_3 from Kd.R_mono ho0_3 (fun k_ hk => (.inl (.inr (.inr hk)))))
  have HK := Aside0.mk (Kept.refl w (fun k_ => P0_0_ k_ ∨ P0_1_ k_ ∨ P0_3_ k_))
  have HW0 := Aside0.mk hB.size
  have HB := Aside0.mk hB
  clear hB
  unfold spec_l5Line.f at h
  have H := h
  clear h
  replace H := Option.bind_eq_some_iff.mp H
  obtain ⟨t103, A30, H⟩ := H
  have A3 := Aside0.mk A30
  clear A30
  by_cases c4 : a1.toList = ([97, 102, 102, 105, 120, 101, 115] : List UInt8)
  · rw [if_pos c4] at H
    have c4b0 : (a1.toList == ([97, 102, 102, 105, 120, 101, 115] : List UInt8)) = true := beq_iff_eq.mpr c4
    have c4b1 : (a1.toList != ([97, 102, 102, 105, 120, 101, 115] : List UInt8)) = false := bne_eq_false_iff_eq.mpr c4
    clear c4
    simp only [Option.some.injEq, Prod.mk.injEq] at H
    obtain ⟨rfl, rfl, rfl, rfl, rfl⟩ := H
    obtain ⟨Ao5, co5, eo5⟩ := Kd.R_slice HO0_0.out
    subst eo5
    obtain ⟨Ao6, co6, eo6⟩ := Kd.R_slice HO0_1.out
    subst eo6
    obtain ⟨Ao7, co7, eo7⟩ := Kd.R_slice HO0_3.out
    subst eo7
    go_enter Tryd.func17, Tryd.ntmps17
    go_wp2_with (first | ((with_reducible refine gate_dst (N := 2) rfl ?_); refine box_event rfl (N := 2) rfl (cs := #[.slice Ao5 l0_0.length co5, .slice Ao6 l0_1.length co6, .bool a0_2, .slice Ao7 l0_3.length co7]) (t := 26) (by go_simp <;> rfl) ?_; intro gb101 hg w8 hbox hb; replace HO0_0 := kR HO0_0 hb; replace HO0_1 := kR HO0_1 hb; replace HO0_3 := kR HO0_3 hb; have BK101 := Aside0.mk (hbox); have GW101 := Aside0.mk ((by rw [hg]; exact (by first | exact HK.out.1 | exact (show Kept w _ (fun k_ => P0_0_ k_ ∨ P0_1_ k_ ∨ P0_3_ k_) from kx HK.out).1) : w.heap.size ≤ gb101)); replace HK := Aside0.mk (Kept.below (S := (fun k_ => P0_0_ k_ ∨ P0_1_ k_ ∨ P0_3_ k_)) (kx HK.out) hb); have GE101 := Le_.mk (ge_of hg HB.out); replace HB := kB HB hb; clear hb hbox hg) | ((with_reducible refine gate_dst (N := 4) rfl ?_); refine box_event rfl (N := 4) rfl (cs := #[.slice none 0 0, .slice none 0 0, .bool false, .slice none 0 0]) (t := 26) (by go_simp <;> rfl) ?_; intro gb102 hg w9 hbox hb; replace HO0_0 := kR HO0_0 hb; replace HO0_1 := kR HO0_1 hb; replace HO0_3 := kR HO0_3 hb; have BK102 := Aside0.mk (hbox); have GW102 := Aside0.mk ((by rw [hg]; exact (by first | exact HK.out.1 | exact (show Kept w _ (fun k_ => P0_0_ k_ ∨ P0_1_ k_ ∨ P0_3_ k_) from by repeat (first | (with_reducible first | exact HK.out | apply Kept.alloc | apply Kept.drewN | apply Kept.drew | refine Kept.setCell ?_ (.inr GW101.out) _) | exact HK.out)).1) : w.heap.size ≤ gb102)); replace HK := Aside0.mk (Kept.below (S := (fun k_ => P0_0_ k_ ∨ P0_1_ k_ ∨ P0_3_ k_)) (by repeat (first | (with_reducible first | exact HK.out | apply Kept.alloc | apply Kept.drewN | apply Kept.drew | refine Kept.setCell ?_ (.inr GW101.out) _) | exact HK.out)) hb); have GE102 := Le_.mk (ge_of hg HB.out); replace HB := kB HB hb; have NB101_102 := Ne_.mk ((by rw [hg]; exact Nat.ne_of_lt (blk_lt (gx (BK101.out))) : gb101 ≠ gb102)); have NB102_101 := Ne_.mk ((by rw [hg]; exact Nat.ne_of_gt (blk_lt (gx (BK101.out))) : gb102 ≠ gb101)); replace BK101 := kb BK101 hb; clear hb hbox hg) | ((with_reducible refine gate_callee (f := 16) rfl ?_); refine goL (some 10) rfl rfl gf16 #[.string a1, .int .u8 32] rfl rfl ?_; (with_reducible refine (spec_l1Cut.calls k a1 32 t103 _ A3.out).mono ?_); rintro e w10 ⟨v104, rfl, ho0, hb⟩; refine ⟨_, rfl, ?_⟩; replace HO0_1 := kR HO0_1 hb; replace HO0_3 := kR HO0_3 hb; have HO105 := Aside0.mk (Kd.R_lower (Kd.R_new' (Kd.R_newM (M := fun k_ => ((P0_0_ k_ ∨ P0_1_ k_ ∨ P0_3_ k_) ∨ w.heap.size ≤ k_)) ho0 (by first | exact HK.out.1 | exact (show Kept w _ (fun k_ => P0_0_ k_ ∨ P0_1_ k_ ∨ P0_3_ k_) from by repeat (first | (with_reducible first | exact HK.out | apply Kept.alloc | apply Kept.drewN | apply Kept.drew | refine Kept.setCell ?_ (.inr GW101.out) _ | refine Kept.setCell ?_ (.inr GW102.out) _) | exact HK.out)).1) (fun k_ h_ => .inr h_)) (Kd.R_lt (rx HO0_0.out))) (bz HB.out)); replace HO0_0 := Aside0.mk (Kd.R_elder' (rx HO0_0.out) (Kd.R_base ho0) hb); replace BK101 := kb BK101 hb; replace BK102 := kb BK102 hb; replace HK := Aside0.mk (Kept.below (S := (fun k_ => P0_0_ k_ ∨ P0_1_ k_ ∨ P0_3_ k_)) (by repeat (first | (with_reducible first | exact HK.out | apply Kept.alloc | apply Kept.drewN | apply Kept.drew | refine Kept.setCell ?_ (.inr GW101.out) _ | refine Kept.setCell ?_ (.inr GW102.out) _) | exact HK.out)) hb); replace HB := kB HB hb; (try clear hb); (try clear hb2); (try clear hk); (try clear hi); (try clear ho0); have hnb11 := NB101_102.out; have hnc11 := NB102_101.out; have hz12 := cells_4 BK101.out; have hz13 := cells_4 BK102.out))
    refine bodyPost_ret (results_ct rfl _ _ gb102 26 #[.slice Ao5 l0_0.length co5, .slice Ao6 l0_1.length co6, .bool true, .slice Ao7 l0_3.length co7] (0, 0) _ rfl (cl BK102.out rfl) Tryd.underlying26 rfl (by kernel_rfl)) rfl ?_
    exact ⟨_, _, _, by rfl, Kd.R_mono (rf2 HO0_0.out BK101.out BK102.out (by decide) (by decide)) (fun _ hk => hk.1), rf2 HO0_1.out BK101.out BK102.out (by decide) (by decide), rf2 HO0_3.out BK101.out BK102.out (by decide) (by decide), bx HB.out, by repeat (first | (with_reducible first | exact HK.out | apply Kept.alloc | apply Kept.drewN | apply Kept.drew | refine Kept.setCell ?_ (.inr GW101.out) _ | refine Kept.setCell ?_ (.inr GW102.out) _) | exact HK.out)⟩
  · rw [if_neg c4] at H
    have c4b0 : (a1.toList == ([97, 102, 102, 105, 120, 101, 115] : List UInt8)) = false := beq_eq_false_iff_ne.mpr c4
    have c4b1 : (a1.toList != ([97, 102, 102, 105, 120, 101, 115] : List UInt8)) = true := bne_iff_ne.mpr c4
    by_cases c14 : (t103.length : Int) = 5
    · rw [if_pos c14] at H
      have c14b0 : ((t103.length : Int) == 5) = true := beq_iff_eq.mpr c14
      have c14b1 : ((t103.length : Int) != 5) = false := bne_eq_false_iff_eq.mpr c14
      clear c14
      replace H := Option.bind_eq_some_iff.mp H
      obtain ⟨⟨t106, t107, t108, t109, t110⟩, A150, H⟩ := H
      replace H : (if l0_3.length < 1954687338268 then (some (l0_0, l0_1, a0_2, (l0_3 ++ [(⟨t106, t107, t108, t109, t110⟩ : S46)]), true)) else (none)) = some (r1, r2, r3, r4, r5) := H
      have A15 := Aside0.mk A150
      clear A150
      have c16 := ite_y H
      replace H := ite_t H
      have LMc16 := Aside0.mk c16
      clear c16
      obtain ⟨y111, hy111⟩ : ∃ y_ : List (S46), y_ = (l0_3 ++ [(⟨t106, t107, t108, t109, t110⟩ : S46)]) := ⟨_, rfl⟩
      replace H : (some (l0_0, l0_1, a0_2, y111, true)) = some (r1, r2, r3, r4, r5) := by first | (rw [hy111]; with_reducible exact H) | (have H2_ := (Option.bind_some _ _).symm.trans H; rw [hy111]; with_reducible exact H2_) | (have H2_ := (Option.bind_some _ _).symm.trans H; with_reducible exact H2_) | with_reducible exact H | (rw [hy111]; exact H) | exact H
      have Ny111 := Aside0.mk hy111
      clear hy111
      simp only [Option.some.injEq, Prod.mk.injEq] at H
      obtain ⟨rfl, rfl, rfl, rfl, rfl⟩ := H
      obtain ⟨Ao17, co17, eo17⟩ := Kd.R_slice HO0_0.out
      subst eo17
      obtain ⟨Ao18, co18, eo18⟩ := Kd.R_slice HO0_1.out
      subst eo18
      obtain ⟨Ao19, co19, eo19⟩ := Kd.R_slice HO0_3.out
      subst eo19
      go_enter Tryd.func17, Tryd.ntmps17
      try go_wp2_with (first | ((with_reducible refine gate_dst (N := 2) rfl ?_); refine box_event rfl (N := 2) rfl (cs := #[.slice Ao17 l0_0.length co17, .slice Ao18 l0_1.length co18, .bool a0_2, .slice Ao19 l0_3.length co19]) (t := 26) (by go_simp <;> rfl) ?_; intro gb101 hg w20 hbox hb; replace HO0_0 := kR HO0_0 hb; replace HO0_1 := kR HO0_1 hb; replace HO0_3 := kR HO0_3 hb; have BK101 := Aside0.mk (hbox); have GW101 := Aside0.mk ((by rw [hg]; exact (by first | exact HK.out.1 | exact (show Kept w _ (fun k_ => P0_0_ k_ ∨ P0_1_ k_ ∨ P0_3_ k_) from kx HK.out).1) : w.heap.size ≤ gb101)); replace HK := Aside0.mk (Kept.below (S := (fun k_ => P0_0_ k_ ∨ P0_1_ k_ ∨ P0_3_ k_)) (kx HK.out) hb); have GE101 := Le_.mk (ge_of hg HB.out); replace HB := kB HB hb; clear hb hbox hg) | ((with_reducible refine gate_dst (N := 4) rfl ?_); refine box_event rfl (N := 4) rfl (cs := #[.slice none 0 0, .slice none 0 0, .bool false, .slice none 0 0]) (t := 26) (by go_simp <;> rfl) ?_; intro gb102 hg w21 hbox hb; replace HO0_0 := kR HO0_0 hb; replace HO0_1 := kR HO0_1 hb; replace HO0_3 := kR HO0_3 hb; have BK102 := Aside0.mk (hbox); have GW102 := Aside0.mk ((by rw [hg]; exact (by first | exact HK.out.1 | exact (show Kept w _ (fun k_ => P0_0_ k_ ∨ P0_1_ k_ ∨ P0_3_ k_) from by repeat (first | (with_reducible first | exact HK.out | apply Kept.alloc | apply Kept.drewN | apply Kept.drew | refine Kept.setCell ?_ (.inr GW101.out) _) | exact HK.out)).1) : w.heap.size ≤ gb102)); replace HK := Aside0.mk (Kept.below (S := (fun k_ => P0_0_ k_ ∨ P0_1_ k_ ∨ P0_3_ k_)) (by repeat (first | (with_reducible first | exact HK.out | apply Kept.alloc | apply Kept.drewN | apply Kept.drew | refine Kept.setCell ?_ (.inr GW101.out) _) | exact HK.out)) hb); have GE102 := Le_.mk (ge_of hg HB.out); replace HB := kB HB hb; have NB101_102 := Ne_.mk ((by rw [hg]; exact Nat.ne_of_lt (blk_lt (gx (BK101.out))) : gb101 ≠ gb102)); have NB102_101 := Ne_.mk ((by rw [hg]; exact Nat.ne_of_gt (blk_lt (gx (BK101.out))) : gb102 ≠ gb101)); replace BK101 := kb BK101 hb; clear hb hbox hg) | ((with_reducible refine gate_callee (f := 16) rfl ?_); refine goL (some 10) rfl rfl gf16 #[.string a1, .int .u8 32] rfl rfl ?_; (with_reducible refine (spec_l1Cut.calls k a1 32 t103 _ A3.out).mono ?_); rintro e w22 ⟨v104, rfl, ho0, hb⟩; refine ⟨_, rfl, ?_⟩; replace HO0_1 := kR HO0_1 hb; replace HO0_3 := kR HO0_3 hb; have HO105 := Aside0.mk (Kd.R_lower (Kd.R_new' (Kd.R_newM (M := fun k_ => ((P0_0_ k_ ∨ P0_1_ k_ ∨ P0_3_ k_) ∨ w.heap.size ≤ k_)) ho0 (by first | exact HK.out.1 | exact (show Kept w _ (fun k_ => P0_0_ k_ ∨ P0_1_ k_ ∨ P0_3_ k_) from by repeat (first | (with_reducible first | exact HK.out | apply Kept.alloc | apply Kept.drewN | apply Kept.drew | refine Kept.setCell ?_ (.inr GW101.out) _ | refine Kept.setCell ?_ (.inr GW102.out) _) | exact HK.out)).1) (fun k_ h_ => .inr h_)) (Kd.R_lt (rx HO0_0.out))) (bz HB.out)); replace HO0_0 := Aside0.mk (Kd.R_elder' (rx HO0_0.out) (Kd.R_base ho0) hb); replace BK101 := kb BK101 hb; replace BK102 := kb BK102 hb; replace HK := Aside0.mk (Kept.below (S := (fun k_ => P0_0_ k_ ∨ P0_1_ k_ ∨ P0_3_ k_)) (by repeat (first | (with_reducible first | exact HK.out | apply Kept.alloc | apply Kept.drewN | apply Kept.drew | refine Kept.setCell ?_ (.inr GW101.out) _ | refine Kept.setCell ?_ (.inr GW102.out) _) | exact HK.out)) hb); replace HB := kB HB hb; (try clear hb); (try clear hb2); (try clear hk); (try clear hi); (try clear ho0); obtain ⟨Ao23, co23, eo23⟩ := Kd.R_slice HO105.out; subst eo23))
      replace HO0_0 := Aside0.mk (Kd.R_drew HO0_0.out)
      replace HO0_1 := Aside0.mk (Kd.R_drew HO0_1.out)
      replace HO0_3 := Aside0.mk (Kd.R_drew HO0_3.out)
      replace HO105 := Aside0.mk (Kd.R_drew HO105.out)
      replace BK101 := Aside0.mk (blk_drew BK101.out)
      replace BK102 := Aside0.mk (blk_drew BK102.out)
      replace HK := Aside0.mk (Kept.drew HK.out)
      replace HB := Aside0.mk (below_drew1 HB.out)
      refine start_ (n := 8) (S := fun w' => w'.cell? ⟨gb101, 0, none⟩ = some (.slice Ao17 l0_0.length co17) ∧ w'.cell? ⟨gb101, 1, none⟩ = some (.slice Ao18 l0_1.length co18) ∧ w'.cell? ⟨gb101, 2, none⟩ = some (.bool a0_2) ∧ w'.cell? ⟨gb101, 3, none⟩ = some (.slice Ao19 l0_3.length co19)) (ds := [7]) _ (by kernel_rfl) rfl rfl ⟨(blk_cell BK101.out 0).trans rfl, (blk_cell BK101.out 1).trans rfl, (blk_cell BK101.out 2).trans rfl, (blk_cell BK101.out 3).trans rfl⟩ (fun hHeld => ?_); refine with_tabW spec_l5Line.tab6 spec_l5Line.bits6 (fun HT_ HW_ => ?_)
      generalize w22.drew = w24 at HO0_0 HO0_1 HO0_3 HO105 BK101 BK102 HK HB hHeld ⊢
      refine ord_ [.p 0 20, .p 2 22, .t 1 21] ?_
      repeat (first | (refine pu_ (v := ?_) (a' := ?_) HT_ rfl rfl (by kernel_rfl) (fun _ _ _ h => h) (by rfl) ?_ ?_ ?_; rotate_left 2; (intro w'; go_simp; with_reducible rfl); (simp only [Act.put, List.setIfInBounds_toArray, List.set_cons_zero, List.set_cons_succ, i64_w, i32_w]; rfl)) | (refine ta_ (v := ?_) (a' := ?_) HT_ HW_ rfl rfl (by kernel_rfl) (fun _ _ _ h => h) (by rfl) hHeld ?_ ?_ ?_; rotate_left 2; (rintro w' ⟨s0, s1, s2, s3⟩; go_simp; with_reducible rfl); (simp only [Act.put, List.setIfInBounds_toArray, List.set_cons_zero, List.set_cons_succ, i64_w, i32_w]; rfl)))
      refine ord0 ?_
      refine on_ (i := 3) (N := some 23) HT_ rfl rfl (by kernel_rfl) (by decide) (fun K hK => ?_)
      refine goM gf44 #[.slice Ao23 t103.length co23] (by rfl) rfl rfl rfl ?_
      with_reducible refine (spec_l2AffixGet.calls _ _ t103 t106 t107 t108 t109 t110 _ ?side1 ?side2 A15.out).mono ?_
      (case side1 => exact cx (Kd.R_reads' HO105.out).2.2)
      (case side2 => exact (Kd.R_reads' HO105.out).2.1)
      rintro e w25 ⟨rfl, hb⟩
      refine ⟨_, rfl, ?_⟩
      replace HO0_0 := kR HO0_0 hb
      replace HO0_1 := kR HO0_1 hb
      replace HO0_3 := kR HO0_3 hb
      replace HO105 := kR HO105 hb
      replace BK101 := kb BK101 hb
      replace BK102 := kb BK102 hb
      replace HK := Aside0.mk (Kept.below (S := (fun k_ => P0_0_ k_ ∨ P0_1_ k_ ∨ P0_3_ k_)) (by repeat (first | (with_reducible first | exact HK.out | apply Kept.alloc | apply Kept.drewN | apply Kept.drew | refine Kept.setCell ?_ (.inr GW101.out) _ | refine Kept.setCell ?_ (.inr GW102.out) _) | exact HK.out)) hb)
      replace HB := kB HB hb
      (try clear hb)
      (try clear hb2)
      (try clear hk)
      (try clear hi)
      refine hK.out _ _ ⟨(blk_cell BK101.out 0).trans rfl, (blk_cell BK101.out 1).trans rfl, (blk_cell BK101.out 2).trans rfl, (blk_cell BK101.out 3).trans rfl⟩ (fun hHeld => ?_)
      clear hK K
      refine norm_ (a' := ?_) ?_ ?_
      rotate_left
      · show Act.put _ (some 23) _ = _
        simp only [Act.put, List.setIfInBounds_toArray, List.set_cons_zero, List.set_cons_succ, i64_w, i32_w]
        rfl
      refine on_ (i := 4) (N := some 24) HT_ rfl rfl (by kernel_rfl) (by decide) (fun K hK => ?_)
      refine value_ (w1 := ?_) (v := ?_) (by rfl) rfl ?_ ?_
      rotate_left 2
      · go_simp
        constructor
        · rfl
        · rfl
      refine hK.out _ _ ⟨(blk_cell (blk_alloc BK101.out _) 0).trans rfl, (blk_cell (blk_alloc BK101.out _) 1).trans rfl, (blk_cell (blk_alloc BK101.out _) 2).trans rfl, (blk_cell (blk_alloc BK101.out _) 3).trans rfl⟩ (fun hHeld => ?_)
      clear hK K
      refine norm_ (a' := ?_) ?_ ?_
      rotate_left
      · show Act.put _ (some 24) _ = _
        simp only [Act.put, List.setIfInBounds_toArray, List.set_cons_zero, List.set_cons_succ, i64_w, i32_w]
        rfl
      refine on_ (i := 5) (N := some 25) HT_ rfl rfl (by kernel_rfl) (by decide) (fun K hK => ?_)
      refine Kd.R_append_step k46 (w0 := w0) w0.heap.size (by rfl) (.tmp 21) (.tmp 24) 24 46 (.agg #[(.string ⟨#[]⟩), (.bool false), (.string ⟨#[]⟩), (.string ⟨#[]⟩), (.string ⟨#[]⟩)]) 72 rfl Tryd.underlying24 info46 rfl (by decide) (by omega) (.slice Ao19 l0_3.length co19) l0_3 (⟨t106, t107, t108, t109, t110⟩ : S46) [.string t106, .bool t107, .string t108, .string t109, .string t110] (fun k_ => ((P0_0_ k_ ∨ P0_1_ k_ ∨ P0_3_ k_) ∨ w.heap.size ≤ k_)) (fun _ => False) rfl rfl ?aP (fun _ hk => hk.elim) ?aF ?aO ?aB ?aS ?aL ?_
      (case aP => exact k46_mkM _ _ _ (⟨t106, t107, t108, t109, t110⟩ : S46))
      (case aB => exact (bx HB.out))
      (case aF => exact (fun k_ hk => (.inr (Nat.le_trans (by first | exact HK.out.1 | exact (show Kept w _ (fun k_ => P0_0_ k_ ∨ P0_1_ k_ ∨ P0_3_ k_) from by repeat (first | (with_reducible first | exact HK.out | apply Kept.alloc | apply Kept.drewN | apply Kept.drew | refine Kept.setCell ?_ (.inr GW101.out) _ | refine Kept.setCell ?_ (.inr GW102.out) _) | exact HK.out)).1) hk))))
      (case aO => exact (rx HO0_3.out))
      (case aS => exact (bz HB.out))
      (case aL => have := LMc16.out; omega)
      intro v112 w26 ho hb hg hat
      rw [← Ny111.out] at ho
      replace HO0_0 := Aside0.mk (Kd.R_over' (rx HO0_0.out) (Kd.R_typed (rx HO0_3.out)) (by decide) hg)
      replace HO0_1 := Aside0.mk (Kd.R_over' (rx HO0_1.out) (Kd.R_typed (rx HO0_3.out)) (by decide) hg)
      replace BK101 := Aside0.mk (blk_grown (g := gb101) (o := .cells #[.slice Ao17 l0_0.length co17, .slice Ao18 l0_1.length co18, .bool a0_2, .slice Ao19 l0_3.length co19] 26 (0, 0)) (gx (BK101.out)) hg (Kd.R_ne HO0_3.out BK101.out (by decide)))
      replace BK102 := Aside0.mk (blk_grown (g := gb102) (o := .cells #[.slice none 0 0, .slice none 0 0, .bool false, .slice none 0 0] 26 (0, 0)) (gx (BK102.out)) hg (Kd.R_ne HO0_3.out BK102.out (by decide)))
      replace HO105 := Aside0.mk (Kd.R_over' (rx HO105.out) (Kd.R_typed (rx HO0_3.out)) (by decide) hg)
      replace HB := Aside0.mk (hb)
      replace HK := Aside0.mk (Kept.of_grown (S := (fun k_ => P0_0_ k_ ∨ P0_1_ k_ ∨ P0_3_ k_)) hg (by repeat (first | (with_reducible first | exact HK.out | apply Kept.alloc | apply Kept.drewN | apply Kept.drew | refine Kept.setCell ?_ (.inr GW101.out) _ | refine Kept.setCell ?_ (.inr GW102.out) _) | exact HK.out)) (fun k_ e_ => (HO0_3.out.1 k_ e_)))
      have HO113 := Aside0.mk (ho)
      clear HO0_3
      clear ho hb hg hat
      obtain ⟨Ao27, co27, eo27⟩ := Kd.R_slice HO113.out
      (first | subst eo27 | (injection eo27 with f1_ f2_ f3_; have f4_ := f1_.symm; have f5_ := f3_.symm; clear f1_ f2_ f3_; subst f4_; subst f5_))
      refine hK.out _ _ ⟨(blk_cell BK101.out 0).trans rfl, (blk_cell BK101.out 1).trans rfl, (blk_cell BK101.out 2).trans rfl, (blk_cell BK101.out 3).trans rfl⟩ (fun hHeld => ?_)
      clear hK K
      refine norm_ (a' := ?_) ?_ ?_
      rotate_left
      · show Act.put _ (some 25) _ = _
        simp only [Act.put, List.setIfInBounds_toArray, List.set_cons_zero, List.set_cons_succ, i64_w, i32_w]
        rfl
      refine ord_ [.p 6 26] ?_
      repeat (refine pu_ (v := ?_) (a' := ?_) HT_ rfl rfl (by kernel_rfl) (fun _ _ _ h => h) (by rfl) ?_ ?_ ?_; rotate_left 2; (intro w'; go_simp; with_reducible rfl); (simp only [Act.put, List.setIfInBounds_toArray, List.set_cons_zero, List.set_cons_succ, i64_w, i32_w]; rfl))
      refine ord0 ?_
      refine last_ (i := 7) (N := none) #[true, true, true, true, true, true, true, true] rfl rfl (one_of HT_.out (by kernel_rfl)) (by decide) (fun K hK => ?_)
      have hs28 : w26.cell? ⟨gb101, 3, none⟩ = some (.slice Ao19 l0_3.length co19) := (blk_cell BK101.out 3).trans rfl
      have hfs28 := blk_frozen BK101.out 3
      have hns28_1 := NB102_101.out
      have hms28_1 := NB101_102.out
      refine skip_ (w1 := ?_) (by rfl) rfl ?_ ?_
      rotate_left
      · go_simp
        rfl
      refine hK.out _ _ ?_
      clear hK K
      refine done_ (done_of HT_.out (by kernel_rfl)) ?_
      have hnb29 := NB101_102.out
      have hnc29 := NB102_101.out
      have hz30 := cells_4 BK101.out
      have hz31 := cells_4 BK102.out
      try go_wp2
      refine bodyPost_ret (results_ct rfl _ _ gb102 26 #[.slice Ao17 l0_0.length co17, .slice Ao18 l0_1.length co18, .bool a0_2, .slice Ao27 y111.length co27] (0, 0) _ rfl (cl BK102.out rfl) Tryd.underlying26 rfl (by kernel_rfl)) rfl ?_
      exact ⟨_, _, _, by rfl, Kd.R_mono (rf2 HO0_0.out BK101.out BK102.out (by decide) (by decide)) (fun _ hk => hk.1), rf2 HO0_1.out BK101.out BK102.out (by decide) (by decide), rf2 HO113.out BK101.out BK102.out (by decide) (by decide), bx HB.out, by repeat (first | (with_reducible first | exact HK.out | apply Kept.alloc | apply Kept.drewN | apply Kept.drew | refine Kept.setCell ?_ (.inr GW101.out) _ | refine Kept.setCell ?_ (.inr GW102.out) _) | exact HK.out)⟩
    · rw [if_neg c14] at H
      have c14b0 : ((t103.length : Int) == 5) = false := beq_eq_false_iff_ne.mpr c14
      have c14b1 : ((t103.length : Int) != 5) = true := bne_iff_ne.mpr c14
      have HC32 := Aside0.mk H
      clear H
      obtain ⟨Ao33, co33, eo33⟩ := Kd.R_slice HO0_0.out
      subst eo33
      obtain ⟨Ao34, co34, eo34⟩ := Kd.R_slice HO0_1.out
      subst eo34
      obtain ⟨Ao35, co35, eo35⟩ := Kd.R_slice HO0_3.out
      subst eo35
      go_enter Tryd.func17, Tryd.ntmps17
      go_upto_region 8 with (first | ((with_reducible refine gate_dst (N := 2) rfl ?_); refine box_event rfl (N := 2) rfl (cs := #[.slice Ao33 l0_0.length co33, .slice Ao34 l0_1.length co34, .bool a0_2, .slice Ao35 l0_3.length co35]) (t := 26) (by go_simp <;> rfl) ?_; intro gb101 hg w36 hbox hb; replace HO0_0 := kR HO0_0 hb; replace HO0_1 := kR HO0_1 hb; replace HO0_3 := kR HO0_3 hb; have BK101 := Aside0.mk (hbox); have GW101 := Aside0.mk ((by rw [hg]; exact (by first | exact HK.out.1 | exact (show Kept w _ (fun k_ => P0_0_ k_ ∨ P0_1_ k_ ∨ P0_3_ k_) from kx HK.out).1) : w.heap.size ≤ gb101)); replace HK := Aside0.mk (Kept.below (S := (fun k_ => P0_0_ k_ ∨ P0_1_ k_ ∨ P0_3_ k_)) (kx HK.out) hb); have GE101 := Le_.mk (ge_of hg HB.out); replace HB := kB HB hb; clear hb hbox hg) | ((with_reducible refine gate_dst (N := 4) rfl ?_); refine box_event rfl (N := 4) rfl (cs := #[.slice none 0 0, .slice none 0 0, .bool false, .slice none 0 0]) (t := 26) (by go_simp <;> rfl) ?_; intro gb102 hg w37 hbox hb; replace HO0_0 := kR HO0_0 hb; replace HO0_1 := kR HO0_1 hb; replace HO0_3 := kR HO0_3 hb; have BK102 := Aside0.mk (hbox); have GW102 := Aside0.mk ((by rw [hg]; exact (by first | exact HK.out.1 | exact (show Kept w _ (fun k_ => P0_0_ k_ ∨ P0_1_ k_ ∨ P0_3_ k_) from by repeat (first | (with_reducible first | exact HK.out | apply Kept.alloc | apply Kept.drewN | apply Kept.drew | refine Kept.setCell ?_ (.inr GW101.out) _) | exact HK.out)).1) : w.heap.size ≤ gb102)); replace HK := Aside0.mk (Kept.below (S := (fun k_ => P0_0_ k_ ∨ P0_1_ k_ ∨ P0_3_ k_)) (by repeat (first | (with_reducible first | exact HK.out | apply Kept.alloc | apply Kept.drewN | apply Kept.drew | refine Kept.setCell ?_ (.inr GW101.out) _) | exact HK.out)) hb); have GE102 := Le_.mk (ge_of hg HB.out); replace HB := kB HB hb; have NB101_102 := Ne_.mk ((by rw [hg]; exact Nat.ne_of_lt (blk_lt (gx (BK101.out))) : gb101 ≠ gb102)); have NB102_101 := Ne_.mk ((by rw [hg]; exact Nat.ne_of_gt (blk_lt (gx (BK101.out))) : gb102 ≠ gb101)); replace BK101 := kb BK101 hb; clear hb hbox hg) | ((with_reducible refine gate_callee (f := 16) rfl ?_); refine goL (some 10) rfl rfl gf16 #[.string a1, .int .u8 32] rfl rfl ?_; (with_reducible refine (spec_l1Cut.calls k a1 32 t103 _ A3.out).mono ?_); rintro e w38 ⟨v104, rfl, ho0, hb⟩; refine ⟨_, rfl, ?_⟩; replace HO0_1 := kR HO0_1 hb; replace HO0_3 := kR HO0_3 hb; have HO105 := Aside0.mk (Kd.R_lower (Kd.R_new' (Kd.R_newM (M := fun k_ => ((P0_0_ k_ ∨ P0_1_ k_ ∨ P0_3_ k_) ∨ w.heap.size ≤ k_)) ho0 (by first | exact HK.out.1 | exact (show Kept w _ (fun k_ => P0_0_ k_ ∨ P0_1_ k_ ∨ P0_3_ k_) from by repeat (first | (with_reducible first | exact HK.out | apply Kept.alloc | apply Kept.drewN | apply Kept.drew | refine Kept.setCell ?_ (.inr GW101.out) _ | refine Kept.setCell ?_ (.inr GW102.out) _) | exact HK.out)).1) (fun k_ h_ => .inr h_)) (Kd.R_lt (rx HO0_0.out))) (bz HB.out)); replace HO0_0 := Aside0.mk (Kd.R_elder' (rx HO0_0.out) (Kd.R_base ho0) hb); replace BK101 := kb BK101 hb; replace BK102 := kb BK102 hb; replace HK := Aside0.mk (Kept.below (S := (fun k_ => P0_0_ k_ ∨ P0_1_ k_ ∨ P0_3_ k_)) (by repeat (first | (with_reducible first | exact HK.out | apply Kept.alloc | apply Kept.drewN | apply Kept.drew | refine Kept.setCell ?_ (.inr GW101.out) _ | refine Kept.setCell ?_ (.inr GW102.out) _) | exact HK.out)) hb); replace HB := kB HB hb; (try clear hb); (try clear hb2); (try clear hk); (try clear hi); (try clear ho0); obtain ⟨Ao39, co39, eo39⟩ := Kd.R_slice HO105.out; subst eo39))
      (try simp only [Act.put, List.setIfInBounds_toArray, List.set_cons_zero, List.set_cons_succ])
      go_cut [28] (fun v28 wc => ∃ (kq : Nat) (x28_31 : Bool), v28 = .bool x28_31 ∧ Aside0 (spec_l5Line.j0 kq a1 x28_31 l0_0 l0_1 a0_2 l0_3 = some (r1, r2, r3, r4, r5)) ∧ Aside0 (kq ≤ k) ∧ Aside0 (Kd.R Kd.string 9 wc w0.heap.size (fun k_ => ((P0_0_ k_ ∨ P0_1_ k_ ∨ P0_3_ k_) ∨ w.heap.size ≤ k_)) (.slice Ao33 l0_0.length co33) l0_0) ∧ Aside0 (Kd.R k43 43 wc w0.heap.size (fun k_ => ((P0_0_ k_ ∨ P0_1_ k_ ∨ P0_3_ k_) ∨ w.heap.size ≤ k_)) (.slice Ao34 l0_1.length co34) l0_1) ∧ Aside0 (Kd.R k46 46 wc w0.heap.size (fun k_ => ((P0_0_ k_ ∨ P0_1_ k_ ∨ P0_3_ k_) ∨ w.heap.size ≤ k_)) (.slice Ao35 l0_3.length co35) l0_3) ∧ Aside0 (wc.heap[gb101]? = some (.cells #[(.slice Ao33 l0_0.length co33), (.slice Ao34 l0_1.length co34), .bool a0_2, (.slice Ao35 l0_3.length co35)] 26 (0, 0))) ∧ Aside0 (wc.heap[gb102]? = some (.cells #[(.slice none 0 0), (.slice none 0 0), .bool false, (.slice none 0 0)] 26 (0, 0))) ∧ Aside0 (Kept w wc (fun k_ => P0_0_ k_ ∨ P0_1_ k_ ∨ P0_3_ k_)) ∧ Aside0 (Below w0.heap.size w0 wc))
      case first =>
        have H := HC32.out
        clear HC32
        by_cases c40 : (a1.size : Int) > 0
        · rw [if_pos c40] at H
          have c40b0 : decide (0 < (a1.size : Int)) = true := decide_eq_true c40
          have c40b1 : decide (0 < a1.size) = true := decide_eq_true (by omega)
          clear c40
          (first | rw [c40b0] | (simp only [i64_w, i32_w]; rw [c40b0]) | skip)
          have c41 := ite_y H
          replace H := ite_t H
          have c41b0 := decide_eq_true c41
          have c41b1 : decide (0 < a1.size) = true := decide_eq_true (by omega)
          clear c41
          have H' := Aside0.mk H
          clear H
          have p42 : 0 ≤ (0 : Int) := (by omega)
          have q42 : 0 < a1.size := (by have : (0 : Int) < (a1.size : Int) := of_decide_eq_true (by with_reducible assumption); omega)
          have hx42 : ∀ h : 0 < a1.size, ((a1[0]'h).toNat : Int) = bt a1 0 := bt_at a1 0
          clear p42
          have qi42 : (0 < (a1.size : Int)) = True := eq_true (of_decide_eq_true (by with_reducible assumption))
          replace q42 := eq_true q42
          go_wp2
          go_meet
          case rel => exact ⟨_, (((bt a1 0) == 45)), (by first | rfl | (simp; done) | (simp [*]; done)), H', ⟨by first | omega | exact Nat.le_refl _⟩, ⟨rx (Kd.R_mono HO0_0.out (fun _ hk => hk.1))⟩, ⟨rx HO0_1.out⟩, ⟨rx HO0_3.out⟩, ⟨gx (BK101.out)⟩, ⟨gx (BK102.out)⟩, ⟨by repeat (first | (with_reducible first | exact HK.out | apply Kept.alloc | apply Kept.drewN | apply Kept.drew | refine Kept.setCell ?_ (.inr GW101.out) _ | refine Kept.setCell ?_ (.inr GW102.out) _) | exact HK.out)⟩, ⟨bx HB.out⟩⟩
        · rw [if_neg c40] at H
          have c40b0 : decide (0 < (a1.size : Int)) = false := decide_eq_false c40
          have c40b1 : decide (0 < a1.size) = false := decide_eq_false (by omega)
          clear c40
          (first | rw [c40b0] | (simp only [i64_w, i32_w]; rw [c40b0]) | skip)
          have H' := Aside0.mk H
          clear H
          go_wp2
          go_meet
          case rel => exact ⟨_, (false), (by first | rfl | (simp; done) | (simp [*]; done)), H', ⟨by first | omega | exact Nat.le_refl _⟩, ⟨rx (Kd.R_mono HO0_0.out (fun _ hk => hk.1))⟩, ⟨rx HO0_1.out⟩, ⟨rx HO0_3.out⟩, ⟨gx (BK101.out)⟩, ⟨gx (BK102.out)⟩, ⟨by repeat (first | (with_reducible first | exact HK.out | apply Kept.alloc | apply Kept.drewN | apply Kept.drew | refine Kept.setCell ?_ (.inr GW101.out) _ | refine Kept.setCell ?_ (.inr GW102.out) _) | exact HK.out)⟩, ⟨bx HB.out⟩⟩
      case rest =>
        clear HC32
        try clear c1
        try clear c2
        try clear p2
        try clear c4
        try clear c4b0
        try clear c4b1
        try clear p4
        try clear q4
        try clear hx4
        try clear qi4
        try clear c11
        try clear c14
        try clear c14b0
        try clear c14b1
        try clear c16
        try clear c17
        try clear c29
        try clear c40
        try clear c40b0
        try clear c40b1
        try clear c41
        try clear c41b0
        try clear c41b1
        try clear p42
        try clear q42
        try clear hx42
        try clear qi42
        try clear hz12
        try clear hz13
        try clear hz30
        try clear hz31
        try clear p42
        try clear q42
        obtain ⟨kq, x28_31, rfl, HA, HJ31, HO_102000, HO_102001, HO_102003, BK101, BK102, HK, HB⟩ := hcut
        cases kq with
        | zero => exact absurd HA.out (by simp [spec_l5Line.j0])
        | succ kj31 =>
          have H := HA.out
          clear HA
          simp only [spec_l5Line.j0] at H
          by_cases c43 : x28_31 = true
          · subst c43
            rw [if_pos rfl] at H
            have c44 := ite_y H
            replace H := ite_t H
            have c44b0 := eq_true c44
            have c44b1 := decide_eq_true c44
            clear c44
            have c45 := ite_y H
            replace H := ite_t H
            have LMc45 := Aside0.mk c45
            clear c45
            obtain ⟨y114, hy114⟩ : ∃ y_ : List ByteArray, y_ = (l0_0 ++ [a1.extract 1 a1.size]) := ⟨_, rfl⟩
            replace H : (some (y114, l0_1, a0_2, l0_3, true)) = some (r1, r2, r3, r4, r5) := by first | (rw [hy114]; with_reducible exact H) | (have H2_ := (Option.bind_some _ _).symm.trans H; rw [hy114]; with_reducible exact H2_) | (have H2_ := (Option.bind_some _ _).symm.trans H; with_reducible exact H2_) | with_reducible exact H | (rw [hy114]; exact H) | exact H
            have Ny114 := Aside0.mk hy114
            clear hy114
            simp only [Option.some.injEq, Prod.mk.injEq] at H
            obtain ⟨rfl, rfl, rfl, rfl, rfl⟩ := H
            try go_wp2
            replace HO_102000 := Aside0.mk (Kd.R_drew HO_102000.out)
            replace HO_102001 := Aside0.mk (Kd.R_drew HO_102001.out)
            replace HO_102003 := Aside0.mk (Kd.R_drew HO_102003.out)
            replace BK101 := Aside0.mk (blk_drew BK101.out)
            replace BK102 := Aside0.mk (blk_drew BK102.out)
            replace HK := Aside0.mk (Kept.drew HK.out)
            replace HB := Aside0.mk (below_drew1 HB.out)
            refine start_ (n := 8) (S := fun w' => w'.cell? ⟨gb101, 0, none⟩ = some (.slice Ao33 l0_0.length co33) ∧ w'.cell? ⟨gb101, 1, none⟩ = some (.slice Ao34 l0_1.length co34) ∧ w'.cell? ⟨gb101, 2, none⟩ = some (.bool a0_2) ∧ w'.cell? ⟨gb101, 3, none⟩ = some (.slice Ao35 l0_3.length co35)) (ds := [7]) _ (by kernel_rfl) rfl rfl ⟨(blk_cell BK101.out 0).trans rfl, (blk_cell BK101.out 1).trans rfl, (blk_cell BK101.out 2).trans rfl, (blk_cell BK101.out 3).trans rfl⟩ (fun hHeld => ?_); refine with_tabW spec_l5Line.tab9 spec_l5Line.bits9 (fun HT_ HW_ => ?_)
            generalize wc.drew = w46 at HO_102000 HO_102001 HO_102003 BK101 BK102 HK HB hHeld ⊢
            refine ord_ [.p 0 37, .p 2 39, .p 3 40, .t 1 38] ?_
            repeat (first | (refine pu_ (v := ?_) (a' := ?_) HT_ rfl rfl (by kernel_rfl) (fun _ _ _ h => h) (by rfl) ?_ ?_ ?_; rotate_left 2; (intro w'; go_simp; with_reducible rfl); (simp only [Act.put, List.setIfInBounds_toArray, List.set_cons_zero, List.set_cons_succ, i64_w, i32_w]; rfl)) | (refine ta_ (v := ?_) (a' := ?_) HT_ HW_ rfl rfl (by kernel_rfl) (fun _ _ _ h => h) (by rfl) hHeld ?_ ?_ ?_; rotate_left 2; (rintro w' ⟨s0, s1, s2, s3⟩; go_simp; with_reducible rfl); (simp only [Act.put, List.setIfInBounds_toArray, List.set_cons_zero, List.set_cons_succ, i64_w, i32_w]; rfl)))
            refine ord0 ?_
            refine on_ (i := 4) (N := some 41) HT_ rfl rfl (by kernel_rfl) (by decide) (fun K hK => ?_)
            refine value_ (w1 := ?_) (v := ?_) (by rfl) rfl ?_ ?_
            rotate_left 2
            · go_simp
              constructor
              · rfl
              · rfl
            refine hK.out _ _ ⟨(blk_cell (blk_alloc BK101.out _) 0).trans rfl, (blk_cell (blk_alloc BK101.out _) 1).trans rfl, (blk_cell (blk_alloc BK101.out _) 2).trans rfl, (blk_cell (blk_alloc BK101.out _) 3).trans rfl⟩ (fun hHeld => ?_)
            clear hK K
            refine norm_ (a' := ?_) ?_ ?_
            rotate_left
            · show Act.put _ (some 41) _ = _
              simp only [Act.put, List.setIfInBounds_toArray, List.set_cons_zero, List.set_cons_succ, i64_w, i32_w]
              rfl
            refine on_ (i := 5) (N := some 42) HT_ rfl rfl (by kernel_rfl) (by decide) (fun K hK => ?_)
            refine Kd.R_append_step Kd.string (w0 := w0) w0.heap.size (by rfl) (.tmp 38) (.tmp 41) 22 9 (.string ⟨#[]⟩) 16 rfl Tryd.underlying22 info9 rfl (by decide) (by omega) (.slice Ao33 l0_0.length co33) l0_0 (a1.extract 1 a1.size) [.string (a1.extract 1 a1.size)] (fun k_ => ((P0_0_ k_ ∨ P0_1_ k_ ∨ P0_3_ k_) ∨ w.heap.size ≤ k_)) (fun _ => False) rfl rfl ?aP (fun _ hk => hk.elim) ?aF ?aO ?aB ?aS ?aL ?_
            (case aP => exact rfl)
            (case aB => exact (bx HB.out))
            (case aF => exact (fun k_ hk => (.inr (Nat.le_trans (by first | exact HK.out.1 | exact (show Kept w _ (fun k_ => P0_0_ k_ ∨ P0_1_ k_ ∨ P0_3_ k_) from by repeat (first | (with_reducible first | exact HK.out | apply Kept.alloc | apply Kept.drewN | apply Kept.drew | refine Kept.setCell ?_ (.inr GW101.out) _ | refine Kept.setCell ?_ (.inr GW102.out) _) | exact HK.out)).1) hk))))
            (case aO => exact (rx HO_102000.out))
            (case aS => exact (bz HB.out))
            (case aL => have := LMc45.out; omega)
            intro v115 w47 ho hb hg hat
            rw [← Ny114.out] at ho
            replace HO_102001 := Aside0.mk (Kd.R_over' (rx HO_102001.out) (Kd.R_typed (rx HO_102000.out)) (by decide) hg)
            replace HO_102003 := Aside0.mk (Kd.R_over' (rx HO_102003.out) (Kd.R_typed (rx HO_102000.out)) (by decide) hg)
            replace BK101 := Aside0.mk (blk_grown (g := gb101) (o := .cells #[.slice Ao33 l0_0.length co33, .slice Ao34 l0_1.length co34, .bool a0_2, .slice Ao35 l0_3.length co35] 26 (0, 0)) (gx (BK101.out)) hg (Kd.R_ne HO_102000.out BK101.out (by decide)))
            replace BK102 := Aside0.mk (blk_grown (g := gb102) (o := .cells #[.slice none 0 0, .slice none 0 0, .bool false, .slice none 0 0] 26 (0, 0)) (gx (BK102.out)) hg (Kd.R_ne HO_102000.out BK102.out (by decide)))
            replace HB := Aside0.mk (hb)
            replace HK := Aside0.mk (Kept.of_grown (S := (fun k_ => P0_0_ k_ ∨ P0_1_ k_ ∨ P0_3_ k_)) hg (by repeat (first | (with_reducible first | exact HK.out | apply Kept.alloc | apply Kept.drewN | apply Kept.drew | refine Kept.setCell ?_ (.inr GW101.out) _ | refine Kept.setCell ?_ (.inr GW102.out) _) | exact HK.out)) (fun k_ e_ => (HO_102000.out.1 k_ e_)))
            have HO116 := Aside0.mk (ho)
            clear HO_102000
            clear ho hb hg hat
            obtain ⟨Ao48, co48, eo48⟩ := Kd.R_slice HO116.out
            (first | subst eo48 | (injection eo48 with f1_ f2_ f3_; have f4_ := f1_.symm; have f5_ := f3_.symm; clear f1_ f2_ f3_; subst f4_; subst f5_))
            refine hK.out _ _ ⟨(blk_cell BK101.out 0).trans rfl, (blk_cell BK101.out 1).trans rfl, (blk_cell BK101.out 2).trans rfl, (blk_cell BK101.out 3).trans rfl⟩ (fun hHeld => ?_)
            clear hK K
            refine norm_ (a' := ?_) ?_ ?_
            rotate_left
            · show Act.put _ (some 42) _ = _
              simp only [Act.put, List.setIfInBounds_toArray, List.set_cons_zero, List.set_cons_succ, i64_w, i32_w]
              rfl
            refine ord_ [.p 6 43] ?_
            repeat (refine pu_ (v := ?_) (a' := ?_) HT_ rfl rfl (by kernel_rfl) (fun _ _ _ h => h) (by rfl) ?_ ?_ ?_; rotate_left 2; (intro w'; go_simp; with_reducible rfl); (simp only [Act.put, List.setIfInBounds_toArray, List.set_cons_zero, List.set_cons_succ, i64_w, i32_w]; rfl))
            refine ord0 ?_
            refine last_ (i := 7) (N := none) #[true, true, true, true, true, true, true, true] rfl rfl (one_of HT_.out (by kernel_rfl)) (by decide) (fun K hK => ?_)
            have hs49 : w47.cell? ⟨gb101, 0, none⟩ = some (.slice Ao33 l0_0.length co33) := (blk_cell BK101.out 0).trans rfl
            have hfs49 := blk_frozen BK101.out 0
            have hns49_1 := NB102_101.out
            have hms49_1 := NB101_102.out
            refine skip_ (w1 := ?_) (by rfl) rfl ?_ ?_
            rotate_left
            · go_simp
              rfl
            refine hK.out _ _ ?_
            clear hK K
            refine done_ (done_of HT_.out (by kernel_rfl)) ?_
            have hnb50 := NB101_102.out
            have hnc50 := NB102_101.out
            have hz51 := cells_4 BK101.out
            have hz52 := cells_4 BK102.out
            try go_wp2
            refine bodyPost_ret (results_ct rfl _ _ gb102 26 #[.slice Ao48 y114.length co48, .slice Ao34 l0_1.length co34, .bool a0_2, .slice Ao35 l0_3.length co35] (0, 0) _ rfl (cl BK102.out rfl) Tryd.underlying26 rfl (by kernel_rfl)) rfl ?_
            exact ⟨_, _, _, by rfl, rf2 HO116.out BK101.out BK102.out (by decide) (by decide), rf2 HO_102001.out BK101.out BK102.out (by decide) (by decide), rf2 HO_102003.out BK101.out BK102.out (by decide) (by decide), bx HB.out, by repeat (first | (with_reducible first | exact HK.out | apply Kept.alloc | apply Kept.drewN | apply Kept.drew | refine Kept.setCell ?_ (.inr GW101.out) _ | refine Kept.setCell ?_ (.inr GW102.out) _) | exact HK.out)⟩
          · replace c43 := Bool.eq_false_iff.mpr c43
            subst c43
            rw [if_neg Bool.false_ne_true] at H
            by_cases c53 : (a1.size : Int) > 0
            · rw [if_pos c53] at H
              have c53b0 : decide (0 < (a1.size : Int)) = true := decide_eq_true c53
              have c53b1 : decide (0 < a1.size) = true := decide_eq_true (by omega)
              clear c53
              have c54 := ite_y H
              replace H := ite_t H
              have c54b0 := decide_eq_true c54
              have c54b1 : decide (0 < a1.size) = true := decide_eq_true (by omega)
              clear c54
              by_cases c56 : (bt a1 0) = 43
              · rw [if_pos c56] at H
                have c56b0 : ((bt a1 0) == 43) = true := beq_iff_eq.mpr c56
                have c56b1 : ((bt a1 0) != 43) = false := bne_eq_false_iff_eq.mpr c56
                clear c56
                have c57 := ite_y H
                replace H := ite_t H
                have c57b0 := eq_true c57
                have c57b1 := decide_eq_true c57
                clear c57
                replace H := Option.bind_eq_some_iff.mp H
                obtain ⟨⟨t117, t118, t119⟩, A580, H⟩ := H
                replace H : (if l0_1.length < 4398046511104 then (some (l0_0, (l0_1 ++ [(⟨t117, t118⟩ : S43)]), a0_2, l0_3, t119)) else (none)) = some (r1, r2, r3, r4, r5) := H
                have A58 := Aside0.mk A580
                clear A580
                have c59 := ite_y H
                replace H := ite_t H
                have LMc59 := Aside0.mk c59
                clear c59
                obtain ⟨y121, hy121⟩ : ∃ y_ : List (S43), y_ = (l0_1 ++ [(⟨t117, t118⟩ : S43)]) := ⟨_, rfl⟩
                replace H : (some (l0_0, y121, a0_2, l0_3, t119)) = some (r1, r2, r3, r4, r5) := by first | (rw [hy121]; with_reducible exact H) | (have H2_ := (Option.bind_some _ _).symm.trans H; rw [hy121]; with_reducible exact H2_) | (have H2_ := (Option.bind_some _ _).symm.trans H; with_reducible exact H2_) | with_reducible exact H | (rw [hy121]; exact H) | exact H
                have Ny121 := Aside0.mk hy121
                clear hy121
                simp only [Option.some.injEq, Prod.mk.injEq] at H
                obtain ⟨rfl, rfl, rfl, rfl, rfl⟩ := H
                have p55 : 0 ≤ (0 : Int) := (by omega)
                have q55 : 0 < a1.size := (by have : (0 : Int) < (a1.size : Int) := of_decide_eq_true (by with_reducible assumption); omega)
                have hx55 : ∀ h : 0 < a1.size, ((a1[0]'h).toNat : Int) = bt a1 0 := bt_at a1 0
                clear p55
                have qi55 : (0 < (a1.size : Int)) = True := eq_true (of_decide_eq_true (by with_reducible assumption))
                replace q55 := eq_true q55
                go_wp2_with (first | ((with_reducible refine gate_callee (f := 45) rfl ?_); refine goL (some 57) rfl rfl gf45 #[.string (a1.extract 1 a1.size)] rfl rfl ?_; (with_reducible refine (spec_l2EntryGet.calls kj31 (a1.extract 1 a1.size) t117 t118 t119 _ A58.out).mono ?_); rintro e w60 ⟨rfl, hb⟩; refine ⟨_, rfl, ?_⟩; replace HO_102000 := kR HO_102000 hb; replace HO_102001 := kR HO_102001 hb; replace HO_102003 := kR HO_102003 hb; replace BK101 := kb BK101 hb; replace BK102 := kb BK102 hb; replace HK := Aside0.mk (Kept.below (S := (fun k_ => P0_0_ k_ ∨ P0_1_ k_ ∨ P0_3_ k_)) (by repeat (first | (with_reducible first | exact HK.out | apply Kept.alloc | apply Kept.drewN | apply Kept.drew | refine Kept.setCell ?_ (.inr GW101.out) _ | refine Kept.setCell ?_ (.inr GW102.out) _) | exact HK.out)) hb); replace HB := kB HB hb; (try clear hb); (try clear hb2); (try clear hk); (try clear hi)) | ((with_reducible refine gate_dst (N := 7) rfl ?_); refine box_event rfl (N := 7) rfl (cs := #[.string (⟨#[]⟩ : ByteArray), .string (⟨#[]⟩ : ByteArray)]) (t := 43) (by go_simp <;> rfl) ?_; intro gb120 hg w61 hbox hb; replace HO_102000 := kR HO_102000 hb; replace HO_102001 := Aside0.mk (Kd.R_below (Kd.R_elderB (rx HO_102001.out) gb120 (Nat.le_of_eq hg.symm)) hb); replace HO_102003 := kR HO_102003 hb; have BK120 := Aside0.mk (hbox); have GW120 := Aside0.mk ((by rw [hg]; exact (by first | exact HK.out.1 | exact (show Kept w _ (fun k_ => P0_0_ k_ ∨ P0_1_ k_ ∨ P0_3_ k_) from by repeat (first | (with_reducible first | exact HK.out | apply Kept.alloc | apply Kept.drewN | apply Kept.drew | refine Kept.setCell ?_ (.inr GW101.out) _ | refine Kept.setCell ?_ (.inr GW102.out) _) | exact HK.out)).1) : w.heap.size ≤ gb120)); replace HK := Aside0.mk (Kept.below (S := (fun k_ => P0_0_ k_ ∨ P0_1_ k_ ∨ P0_3_ k_)) (by repeat (first | (with_reducible first | exact HK.out | apply Kept.alloc | apply Kept.drewN | apply Kept.drew | refine Kept.setCell ?_ (.inr GW101.out) _ | refine Kept.setCell ?_ (.inr GW102.out) _) | exact HK.out)) hb); have GE120 := Le_.mk (ge_of hg HB.out); replace HB := kB HB hb; have NB101_120 := Ne_.mk ((by rw [hg]; exact Nat.ne_of_lt (blk_lt (gx (BK101.out))) : gb101 ≠ gb120)); have NB120_101 := Ne_.mk ((by rw [hg]; exact Nat.ne_of_gt (blk_lt (gx (BK101.out))) : gb120 ≠ gb101)); replace BK101 := kb BK101 hb; have NB102_120 := Ne_.mk ((by rw [hg]; exact Nat.ne_of_lt (blk_lt (gx (BK102.out))) : gb102 ≠ gb120)); have NB120_102 := Ne_.mk ((by rw [hg]; exact Nat.ne_of_gt (blk_lt (gx (BK102.out))) : gb120 ≠ gb102)); replace BK102 := kb BK102 hb; clear hb hbox hg; have hnb62 := NB120_101.out; have hnc62 := NB101_120.out; have hnb63 := NB120_102.out; have hnc63 := NB102_120.out; have hz64 := cells_2 BK120.out; have hnb65 := NB101_102.out; have hnc65 := NB102_101.out; have hz66 := cells_4 BK101.out) | ((with_reducible refine gate_builtin (b := .append) (xs := #[.tmp 61, .tmp 63]) rfl ?_); at_builtin; refine Kd.R_append k43 (w0 := w0) w0.heap.size rfl (.tmp 61) (.tmp 63) 23 43 (.agg #[(.string ⟨#[]⟩), (.string ⟨#[]⟩)]) 32 rfl Tryd.underlying23 info43 rfl (by decide) (by omega) (.slice Ao34 l0_1.length co34) l0_1 (⟨t117, t118⟩ : S43) [.string t117, .string t118] (fun k_ => ((P0_0_ k_ ∨ P0_1_ k_ ∨ P0_3_ k_) ∨ w.heap.size ≤ k_) ∧ k_ ≠ gb120) (fun _ => False) rfl (by first | (go_simp; done) | (go_simp; rfl)) ?aP (fun _ hk => hk.elim) ?aF ?aO ?aB ?aS ?aL ?_; (case aP => exact k43_mkM _ _ _ (⟨t117, t118⟩ : S43)); (case aB => exact (bx HB.out)); (case aF => exact (fun k_ hk => ⟨(.inr (Nat.le_trans (show Kept w _ (fun k_ => P0_0_ k_ ∨ P0_1_ k_ ∨ P0_3_ k_) from by repeat (first | (with_reducible first | exact HK.out | apply Kept.alloc | apply Kept.drewN | apply Kept.drew | refine Kept.setCell ?_ (.inr GW101.out) _ | refine Kept.setCell ?_ (.inr GW102.out) _ | refine Kept.setCell ?_ (.inr GW120.out) _) | exact HK.out)).1 hk)), Kd.freshB (g := gb120) (o := .cells #[.string t117, .string t118] 43 (0, 0)) (cl BK120.out rfl) k_ hk⟩)); (case aO => exact (rx (Kd.R_mono (Kd.R_far (p := ⟨gb120, 1, none⟩) (Kd.R_far (p := ⟨gb120, 0, none⟩) (Kd.R_mono HO_102001.out (fun k_ hk => (⟨hk, hk.2⟩ : _ ∧ k_ ≠ gb120))) (fun _ hk => hk.2) (.string t117)) (fun _ hk => hk.2) (.string t118)) (fun _ hk => ⟨hk.1.1, hk.1.2⟩)))); (case aS => exact (bz HB.out)); (case aL => have := LMc59.out; omega); intro v122 w67 ho hb hg hat; rw [← Ny121.out] at ho; replace HO_102000 := Aside0.mk (Kd.R_over' (rf1 HO_102000.out BK120.out (by decide)) (Kd.R_typed (rx ((Kd.R_mono (Kd.R_far (p := ⟨gb120, 1, none⟩) (Kd.R_far (p := ⟨gb120, 0, none⟩) (Kd.R_mono HO_102001.out (fun k_ hk => (⟨hk, hk.2⟩ : _ ∧ k_ ≠ gb120))) (fun _ hk => hk.2) (.string t117)) (fun _ hk => hk.2) (.string t118)) (fun _ h_ => h_.1))))) (by decide) hg); replace HO_102003 := Aside0.mk (Kd.R_over' (rf1 HO_102003.out BK120.out (by decide)) (Kd.R_typed (rx ((Kd.R_mono (Kd.R_far (p := ⟨gb120, 1, none⟩) (Kd.R_far (p := ⟨gb120, 0, none⟩) (Kd.R_mono HO_102001.out (fun k_ hk => (⟨hk, hk.2⟩ : _ ∧ k_ ≠ gb120))) (fun _ hk => hk.2) (.string t117)) (fun _ hk => hk.2) (.string t118)) (fun _ h_ => h_.1))))) (by decide) hg); replace BK101 := Aside0.mk (blk_grown (g := gb101) (o := .cells #[.slice Ao33 l0_0.length co33, .slice Ao34 l0_1.length co34, .bool a0_2, .slice Ao35 l0_3.length co35] 26 (0, 0)) (cl BK101.out rfl) hg (Kd.R_ne HO_102001.out BK101.out (by decide))); replace BK102 := Aside0.mk (blk_grown (g := gb102) (o := .cells #[.slice none 0 0, .slice none 0 0, .bool false, .slice none 0 0] 26 (0, 0)) (cl BK102.out rfl) hg (Kd.R_ne HO_102001.out BK102.out (by decide))); replace BK120 := Aside0.mk (blk_grown (g := gb120) (o := .cells #[.string t117, .string t118] 43 (0, 0)) (cl BK120.out rfl) hg (Kd.R_away HO_102001.out (fun _ hk => hk.2))); replace HB := Aside0.mk (hb); replace HK := Aside0.mk (Kept.of_grown (S := (fun k_ => P0_0_ k_ ∨ P0_1_ k_ ∨ P0_3_ k_)) hg (by repeat (first | (with_reducible first | exact HK.out | apply Kept.alloc | apply Kept.drewN | apply Kept.drew | refine Kept.setCell ?_ (.inr GW101.out) _ | refine Kept.setCell ?_ (.inr GW102.out) _ | refine Kept.setCell ?_ (.inr GW120.out) _) | exact HK.out)) (fun k_ e_ => (HO_102001.out.1 k_ e_).1)); have HO123 := Aside0.mk (ho); clear HO_102001; clear ho hb hg hat; obtain ⟨Ao68, co68, eo68⟩ := Kd.R_slice HO123.out; subst eo68; have hz69 := cells_4 BK101.out; have hz70 := cells_4 BK102.out))
                refine bodyPost_ret (results_ct rfl _ _ gb102 26 #[.slice Ao33 l0_0.length co33, .slice Ao68 y121.length co68, .bool a0_2, .slice Ao35 l0_3.length co35] (0, 0) _ rfl (cl BK102.out rfl) Tryd.underlying26 rfl (by kernel_rfl)) rfl ?_
                exact ⟨_, _, _, by rfl, rf2 HO_102000.out BK101.out BK102.out (by decide) (by decide), Kd.R_mono (rf2 HO123.out BK101.out BK102.out (by decide) (by decide)) (fun _ hk => hk.1), rf2 HO_102003.out BK101.out BK102.out (by decide) (by decide), bx HB.out, by repeat (first | (with_reducible first | exact HK.out | apply Kept.alloc | apply Kept.drewN | apply Kept.drew | refine Kept.setCell ?_ (.inr GW101.out) _ | refine Kept.setCell ?_ (.inr GW102.out) _ | refine Kept.setCell ?_ (.inr GW120.out) _) | exact HK.out)⟩
              · rw [if_neg c56] at H
                have c56b0 : ((bt a1 0) == 43) = false := beq_eq_false_iff_ne.mpr c56
                have c56b1 : ((bt a1 0) != 43) = true := bne_iff_ne.mpr c56
                simp only [Option.some.injEq, Prod.mk.injEq] at H
                obtain ⟨rfl, rfl, rfl, rfl, rfl⟩ := H
                have p55 : 0 ≤ (0 : Int) := (by omega)
                have q55 : 0 < a1.size := (by have : (0 : Int) < (a1.size : Int) := of_decide_eq_true (by with_reducible assumption); omega)
                have hx55 : ∀ h : 0 < a1.size, ((a1[0]'h).toNat : Int) = bt a1 0 := bt_at a1 0
                clear p55
                have qi55 : (0 < (a1.size : Int)) = True := eq_true (of_decide_eq_true (by with_reducible assumption))
                replace q55 := eq_true q55
                have hnb71 := NB101_102.out
                have hnc71 := NB102_101.out
                have hz72 := cells_4 BK101.out
                have hz73 := cells_4 BK102.out
                go_wp2
                refine bodyPost_ret (results_ct rfl _ _ gb102 26 #[.slice Ao33 l0_0.length co33, .slice Ao34 l0_1.length co34, .bool a0_2, .slice Ao35 l0_3.length co35] (0, 0) _ rfl (cl BK102.out rfl) Tryd.underlying26 rfl (by kernel_rfl)) rfl ?_
                exact ⟨_, _, _, by rfl, rf1 HO_102000.out BK102.out (by decide), rf1 HO_102001.out BK102.out (by decide), rf1 HO_102003.out BK102.out (by decide), bx HB.out, by repeat (first | (with_reducible first | exact HK.out | apply Kept.alloc | apply Kept.drewN | apply Kept.drew | refine Kept.setCell ?_ (.inr GW101.out) _ | refine Kept.setCell ?_ (.inr GW102.out) _) | exact HK.out)⟩
            · rw [if_neg c53] at H
              have c53b0 : decide (0 < (a1.size : Int)) = false := decide_eq_false c53
              have c53b1 : decide (0 < a1.size) = false := decide_eq_false (by omega)
              clear c53
              simp only [Option.some.injEq, Prod.mk.injEq] at H
              obtain ⟨rfl, rfl, rfl, rfl, rfl⟩ := H
              have hnb74 := NB101_102.out
              have hnc74 := NB102_101.out
              have hz75 := cells_4 BK101.out
              have hz76 := cells_4 BK102.out
              go_wp2
              refine bodyPost_ret (results_ct rfl _ _ gb102 26 #[.slice Ao33 l0_0.length co33, .slice Ao34 l0_1.length co34, .bool a0_2, .slice Ao35 l0_3.length co35] (0, 0) _ rfl (cl BK102.out rfl) Tryd.underlying26 rfl (by kernel_rfl)) rfl ?_
              exact ⟨_, _, _, by rfl, rf1 HO_102000.out BK102.out (by decide), rf1 HO_102001.out BK102.out (by decide), rf1 HO_102003.out BK102.out (by decide), bx HB.out, by repeat (first | (with_reducible first | exact HK.out | apply Kept.alloc | apply Kept.drewN | apply Kept.drew | refine Kept.setCell ?_ (.inr GW101.out) _ | refine Kept.setCell ?_ (.inr GW102.out) _) | exact HK.out)⟩
end Go.Proofs.YtabindnaedchgaaDoor.M
end

section
-- Printed for this claim by a program (mprint.py) that uses the kit's print; Lean checks it.
namespace Go.Proofs.YtabindnaedchgaaDoor.M
open Go.RowKit Go.Proofs.YtabindnaedchgaaDoorW.PrintWords Go.Proofs.YtabindnaedchgaaDoorW.PrintLast Go.Proofs.YtabindnaedchgaaDoorW.PrintMore Go.Proofs.YtabindnaedchgaaDoor.Sq
set_option synthInstance.maxHeartbeats 2000000
set_option synthInstance.maxSize 4096
attribute [local go_sem] max2_int min2_int max_two min_two max_three min_three max_four min_four   -- for this text's walks alone
set_option linter.unusedVariables false
set_option linter.unusedSimpArgs false
theorem gf46 : Go_ Tryd.prog 46 Tryd.f46 := ⟨Tryd.func46, by kernel_rfl, rfl⟩
def spec_l2AffixPut.f (a0_0 : ByteArray) (a0_1 : Bool) (a0_2 : ByteArray) (a0_3 : ByteArray) (a0_4 : ByteArray) : Option (ByteArray) := if a0_1 = true then (if 5 + 1 ≤ 9223372036854775807 then (if ((⟨#[102, 114, 111, 110, 116]⟩ : ByteArray) ++ (⟨#[32]⟩ : ByteArray)).size + a0_0.size ≤ 9223372036854775807 then (if (((⟨#[102, 114, 111, 110, 116]⟩ : ByteArray) ++ (⟨#[32]⟩ : ByteArray)) ++ a0_0).size + 1 ≤ 9223372036854775807 then (if ((((⟨#[102, 114, 111, 110, 116]⟩ : ByteArray) ++ (⟨#[32]⟩ : ByteArray)) ++ a0_0) ++ (⟨#[32]⟩ : ByteArray)).size + a0_2.size ≤ 9223372036854775807 then (if (((((⟨#[102, 114, 111, 110, 116]⟩ : ByteArray) ++ (⟨#[32]⟩ : ByteArray)) ++ a0_0) ++ (⟨#[32]⟩ : ByteArray)) ++ a0_2).size + 1 ≤ 9223372036854775807 then (if ((((((⟨#[102, 114, 111, 110, 116]⟩ : ByteArray) ++ (⟨#[32]⟩ : ByteArray)) ++ a0_0) ++ (⟨#[32]⟩ : ByteArray)) ++ a0_2) ++ (⟨#[32]⟩ : ByteArray)).size + a0_3.size ≤ 9223372036854775807 then (if (((((((⟨#[102, 114, 111, 110, 116]⟩ : ByteArray) ++ (⟨#[32]⟩ : ByteArray)) ++ a0_0) ++ (⟨#[32]⟩ : ByteArray)) ++ a0_2) ++ (⟨#[32]⟩ : ByteArray)) ++ a0_3).size + 1 ≤ 9223372036854775807 then (if ((((((((⟨#[102, 114, 111, 110, 116]⟩ : ByteArray) ++ (⟨#[32]⟩ : ByteArray)) ++ a0_0) ++ (⟨#[32]⟩ : ByteArray)) ++ a0_2) ++ (⟨#[32]⟩ : ByteArray)) ++ a0_3) ++ (⟨#[32]⟩ : ByteArray)).size + a0_4.size ≤ 9223372036854775807 then (some (((((((((⟨#[102, 114, 111, 110, 116]⟩ : ByteArray) ++ (⟨#[32]⟩ : ByteArray)) ++ a0_0) ++ (⟨#[32]⟩ : ByteArray)) ++ a0_2) ++ (⟨#[32]⟩ : ByteArray)) ++ a0_3) ++ (⟨#[32]⟩ : ByteArray)) ++ a0_4)) else (none)) else (none)) else (none)) else (none)) else (none)) else (none)) else (none)) else (none)) else (if 3 + 1 ≤ 9223372036854775807 then (if ((⟨#[101, 110, 100]⟩ : ByteArray) ++ (⟨#[32]⟩ : ByteArray)).size + a0_0.size ≤ 9223372036854775807 then (if (((⟨#[101, 110, 100]⟩ : ByteArray) ++ (⟨#[32]⟩ : ByteArray)) ++ a0_0).size + 1 ≤ 9223372036854775807 then (if ((((⟨#[101, 110, 100]⟩ : ByteArray) ++ (⟨#[32]⟩ : ByteArray)) ++ a0_0) ++ (⟨#[32]⟩ : ByteArray)).size + a0_2.size ≤ 9223372036854775807 then (if (((((⟨#[101, 110, 100]⟩ : ByteArray) ++ (⟨#[32]⟩ : ByteArray)) ++ a0_0) ++ (⟨#[32]⟩ : ByteArray)) ++ a0_2).size + 1 ≤ 9223372036854775807 then (if ((((((⟨#[101, 110, 100]⟩ : ByteArray) ++ (⟨#[32]⟩ : ByteArray)) ++ a0_0) ++ (⟨#[32]⟩ : ByteArray)) ++ a0_2) ++ (⟨#[32]⟩ : ByteArray)).size + a0_3.size ≤ 9223372036854775807 then (if (((((((⟨#[101, 110, 100]⟩ : ByteArray) ++ (⟨#[32]⟩ : ByteArray)) ++ a0_0) ++ (⟨#[32]⟩ : ByteArray)) ++ a0_2) ++ (⟨#[32]⟩ : ByteArray)) ++ a0_3).size + 1 ≤ 9223372036854775807 then (if ((((((((⟨#[101, 110, 100]⟩ : ByteArray) ++ (⟨#[32]⟩ : ByteArray)) ++ a0_0) ++ (⟨#[32]⟩ : ByteArray)) ++ a0_2) ++ (⟨#[32]⟩ : ByteArray)) ++ a0_3) ++ (⟨#[32]⟩ : ByteArray)).size + a0_4.size ≤ 9223372036854775807 then (some (((((((((⟨#[101, 110, 100]⟩ : ByteArray) ++ (⟨#[32]⟩ : ByteArray)) ++ a0_0) ++ (⟨#[32]⟩ : ByteArray)) ++ a0_2) ++ (⟨#[32]⟩ : ByteArray)) ++ a0_3) ++ (⟨#[32]⟩ : ByteArray)) ++ a0_4)) else (none)) else (none)) else (none)) else (none)) else (none)) else (none)) else (none)) else (none))
set_option maxHeartbeats 8000000 in
set_option maxRecDepth 100000 in
theorem spec_l2AffixPut.calls (a0_0 : ByteArray) (a0_1 : Bool) (a0_2 : ByteArray) (a0_3 : ByteArray) (a0_4 : ByteArray) (r : ByteArray) (w : World) (h : spec_l2AffixPut.f a0_0 a0_1 a0_2 a0_3 a0_4 = some r) :
    Calls Tryd.prog 46 #[.agg #[.string a0_0, .bool a0_1, .string a0_2, .string a0_3, .string a0_4]] w fun e w' => e = .returned (.string r) ∧ Below w.heap.size w w' := by
  obtain ⟨s1_, hs1_⟩ : ∃ s_ : ByteArray, ((⟨#[102, 114, 111, 110, 116]⟩ : ByteArray) ++ (⟨#[32]⟩ : ByteArray)) = s_ := ⟨_, rfl⟩
  obtain ⟨s2_, hs2_⟩ : ∃ s_ : ByteArray, (s1_ ++ a0_0) = s_ := ⟨_, rfl⟩
  obtain ⟨s3_, hs3_⟩ : ∃ s_ : ByteArray, (s2_ ++ (⟨#[32]⟩ : ByteArray)) = s_ := ⟨_, rfl⟩
  obtain ⟨s4_, hs4_⟩ : ∃ s_ : ByteArray, (s3_ ++ a0_2) = s_ := ⟨_, rfl⟩
  obtain ⟨s5_, hs5_⟩ : ∃ s_ : ByteArray, (s4_ ++ (⟨#[32]⟩ : ByteArray)) = s_ := ⟨_, rfl⟩
  obtain ⟨s6_, hs6_⟩ : ∃ s_ : ByteArray, (s5_ ++ a0_3) = s_ := ⟨_, rfl⟩
  obtain ⟨s7_, hs7_⟩ : ∃ s_ : ByteArray, (s6_ ++ (⟨#[32]⟩ : ByteArray)) = s_ := ⟨_, rfl⟩
  obtain ⟨s8_, hs8_⟩ : ∃ s_ : ByteArray, (s7_ ++ a0_4) = s_ := ⟨_, rfl⟩
  obtain ⟨s9_, hs9_⟩ : ∃ s_ : ByteArray, ((⟨#[101, 110, 100]⟩ : ByteArray) ++ (⟨#[32]⟩ : ByteArray)) = s_ := ⟨_, rfl⟩
  obtain ⟨s10_, hs10_⟩ : ∃ s_ : ByteArray, (s9_ ++ a0_0) = s_ := ⟨_, rfl⟩
  obtain ⟨s11_, hs11_⟩ : ∃ s_ : ByteArray, (s10_ ++ (⟨#[32]⟩ : ByteArray)) = s_ := ⟨_, rfl⟩
  obtain ⟨s12_, hs12_⟩ : ∃ s_ : ByteArray, (s11_ ++ a0_2) = s_ := ⟨_, rfl⟩
  obtain ⟨s13_, hs13_⟩ : ∃ s_ : ByteArray, (s12_ ++ (⟨#[32]⟩ : ByteArray)) = s_ := ⟨_, rfl⟩
  obtain ⟨s14_, hs14_⟩ : ∃ s_ : ByteArray, (s13_ ++ a0_3) = s_ := ⟨_, rfl⟩
  obtain ⟨s15_, hs15_⟩ : ∃ s_ : ByteArray, (s14_ ++ (⟨#[32]⟩ : ByteArray)) = s_ := ⟨_, rfl⟩
  obtain ⟨s16_, hs16_⟩ : ∃ s_ : ByteArray, (s15_ ++ a0_4) = s_ := ⟨_, rfl⟩
  have hu46 := Tryd.underlying46
  have HB := Aside0.mk (Below.refl w.heap.size w)
  have H : (if a0_1 = true then (if 5 + 1 ≤ 9223372036854775807 then (if s1_.size + a0_0.size ≤ 9223372036854775807 then (if s2_.size + 1 ≤ 9223372036854775807 then (if s3_.size + a0_2.size ≤ 9223372036854775807 then (if s4_.size + 1 ≤ 9223372036854775807 then (if s5_.size + a0_3.size ≤ 9223372036854775807 then (if s6_.size + 1 ≤ 9223372036854775807 then (if s7_.size + a0_4.size ≤ 9223372036854775807 then (some s8_) else (none)) else (none)) else (none)) else (none)) else (none)) else (none)) else (none)) else (none)) else (if 3 + 1 ≤ 9223372036854775807 then (if s9_.size + a0_0.size ≤ 9223372036854775807 then (if s10_.size + 1 ≤ 9223372036854775807 then (if s11_.size + a0_2.size ≤ 9223372036854775807 then (if s12_.size + 1 ≤ 9223372036854775807 then (if s13_.size + a0_3.size ≤ 9223372036854775807 then (if s14_.size + 1 ≤ 9223372036854775807 then (if s15_.size + a0_4.size ≤ 9223372036854775807 then (some s16_) else (none)) else (none)) else (none)) else (none)) else (none)) else (none)) else (none)) else (none))) = some r := by subst hs16_; subst hs15_; subst hs14_; subst hs13_; subst hs12_; subst hs11_; subst hs10_; subst hs9_; subst hs8_; subst hs7_; subst hs6_; subst hs5_; subst hs4_; subst hs3_; subst hs2_; subst hs1_; exact h
  clear h
  by_cases c2 : a0_1 = true
  · subst c2
    have H1 : (if 5 + 1 ≤ 9223372036854775807 then (if s1_.size + a0_0.size ≤ 9223372036854775807 then (if s2_.size + 1 ≤ 9223372036854775807 then (if s3_.size + a0_2.size ≤ 9223372036854775807 then (if s4_.size + 1 ≤ 9223372036854775807 then (if s5_.size + a0_3.size ≤ 9223372036854775807 then (if s6_.size + 1 ≤ 9223372036854775807 then (if s7_.size + a0_4.size ≤ 9223372036854775807 then (some s8_) else (none)) else (none)) else (none)) else (none)) else (none)) else (none)) else (none)) else (none)) = some r := by rw [if_pos rfl] at H; first | exact H | (subst hs16_; subst hs15_; subst hs14_; subst hs13_; subst hs12_; subst hs11_; subst hs10_; subst hs9_; subst hs8_; subst hs7_; subst hs6_; subst hs5_; subst hs4_; subst hs3_; subst hs2_; subst hs1_; exact H)
    clear H
    have H := H1
    clear H1
    have c3 := ite_y H
    replace H := ite_t H
    have c3b0 := eq_true c3
    have c3b1 := decide_eq_true c3
    try have c3b2 : (9223372036854775807 < 5 + 1) = False := eq_false (Nat.not_lt.2 c3)
    have c4 := ite_y H
    replace H := ite_t H
    have c4b0 := eq_true c4
    have c4b1 := decide_eq_true c4
    try have c4b2 : (9223372036854775807 < s1_.size + a0_0.size) = False := eq_false (Nat.not_lt.2 c4)
    have c5 := ite_y H
    replace H := ite_t H
    have c5b0 := eq_true c5
    have c5b1 := decide_eq_true c5
    try have c5b2 : (9223372036854775807 < s2_.size + 1) = False := eq_false (Nat.not_lt.2 c5)
    have c6 := ite_y H
    replace H := ite_t H
    have c6b0 := eq_true c6
    have c6b1 := decide_eq_true c6
    try have c6b2 : (9223372036854775807 < s3_.size + a0_2.size) = False := eq_false (Nat.not_lt.2 c6)
    have c7 := ite_y H
    replace H := ite_t H
    have c7b0 := eq_true c7
    have c7b1 := decide_eq_true c7
    try have c7b2 : (9223372036854775807 < s4_.size + 1) = False := eq_false (Nat.not_lt.2 c7)
    have c8 := ite_y H
    replace H := ite_t H
    have c8b0 := eq_true c8
    have c8b1 := decide_eq_true c8
    try have c8b2 : (9223372036854775807 < s5_.size + a0_3.size) = False := eq_false (Nat.not_lt.2 c8)
    have c9 := ite_y H
    replace H := ite_t H
    have c9b0 := eq_true c9
    have c9b1 := decide_eq_true c9
    try have c9b2 : (9223372036854775807 < s6_.size + 1) = False := eq_false (Nat.not_lt.2 c9)
    have c10 := ite_y H
    replace H := ite_t H
    have c10b0 := eq_true c10
    have c10b1 := decide_eq_true c10
    try have c10b2 : (9223372036854775807 < s7_.size + a0_4.size) = False := eq_false (Nat.not_lt.2 c10)
    obtain rfl := Option.some.inj H
    go_enter Tryd.func46, Tryd.ntmps46
    go_wp2_with (first | ((with_reducible refine gate_dst (N := 1) rfl ?_); refine box_event rfl (N := 1) rfl (cs := #[.string a0_0, .bool true, .string a0_2, .string a0_3, .string a0_4]) (t := 46) (by go_simp <;> rfl) ?_; intro gb101 hg w11 hbox hb; have BK101 := Aside0.mk (hbox); have GW101 := Le_.mk (ge_of hg HB.out); have GE101 := Le_.mk (ge_of hg HB.out); replace HB := kB HB hb; clear hb hbox hg; have hz12 := cells_5 BK101.out))
    go_ret
    exact ⟨by rfl, bx HB.out⟩
  · replace c2 := Bool.eq_false_iff.mpr c2
    subst c2
    have H1 : (if 3 + 1 ≤ 9223372036854775807 then (if s9_.size + a0_0.size ≤ 9223372036854775807 then (if s10_.size + 1 ≤ 9223372036854775807 then (if s11_.size + a0_2.size ≤ 9223372036854775807 then (if s12_.size + 1 ≤ 9223372036854775807 then (if s13_.size + a0_3.size ≤ 9223372036854775807 then (if s14_.size + 1 ≤ 9223372036854775807 then (if s15_.size + a0_4.size ≤ 9223372036854775807 then (some s16_) else (none)) else (none)) else (none)) else (none)) else (none)) else (none)) else (none)) else (none)) = some r := by rw [if_neg (show ¬ (false = true) by decide)] at H; first | exact H | (subst hs16_; subst hs15_; subst hs14_; subst hs13_; subst hs12_; subst hs11_; subst hs10_; subst hs9_; subst hs8_; subst hs7_; subst hs6_; subst hs5_; subst hs4_; subst hs3_; subst hs2_; subst hs1_; exact H)
    clear H
    have H := H1
    clear H1
    have c13 := ite_y H
    replace H := ite_t H
    have c13b0 := eq_true c13
    have c13b1 := decide_eq_true c13
    try have c13b2 : (9223372036854775807 < 3 + 1) = False := eq_false (Nat.not_lt.2 c13)
    have c14 := ite_y H
    replace H := ite_t H
    have c14b0 := eq_true c14
    have c14b1 := decide_eq_true c14
    try have c14b2 : (9223372036854775807 < s9_.size + a0_0.size) = False := eq_false (Nat.not_lt.2 c14)
    have c15 := ite_y H
    replace H := ite_t H
    have c15b0 := eq_true c15
    have c15b1 := decide_eq_true c15
    try have c15b2 : (9223372036854775807 < s10_.size + 1) = False := eq_false (Nat.not_lt.2 c15)
    have c16 := ite_y H
    replace H := ite_t H
    have c16b0 := eq_true c16
    have c16b1 := decide_eq_true c16
    try have c16b2 : (9223372036854775807 < s11_.size + a0_2.size) = False := eq_false (Nat.not_lt.2 c16)
    have c17 := ite_y H
    replace H := ite_t H
    have c17b0 := eq_true c17
    have c17b1 := decide_eq_true c17
    try have c17b2 : (9223372036854775807 < s12_.size + 1) = False := eq_false (Nat.not_lt.2 c17)
    have c18 := ite_y H
    replace H := ite_t H
    have c18b0 := eq_true c18
    have c18b1 := decide_eq_true c18
    try have c18b2 : (9223372036854775807 < s13_.size + a0_3.size) = False := eq_false (Nat.not_lt.2 c18)
    have c19 := ite_y H
    replace H := ite_t H
    have c19b0 := eq_true c19
    have c19b1 := decide_eq_true c19
    try have c19b2 : (9223372036854775807 < s14_.size + 1) = False := eq_false (Nat.not_lt.2 c19)
    have c20 := ite_y H
    replace H := ite_t H
    have c20b0 := eq_true c20
    have c20b1 := decide_eq_true c20
    try have c20b2 : (9223372036854775807 < s15_.size + a0_4.size) = False := eq_false (Nat.not_lt.2 c20)
    obtain rfl := Option.some.inj H
    go_enter Tryd.func46, Tryd.ntmps46
    go_wp2_with (first | ((with_reducible refine gate_dst (N := 1) rfl ?_); refine box_event rfl (N := 1) rfl (cs := #[.string a0_0, .bool false, .string a0_2, .string a0_3, .string a0_4]) (t := 46) (by go_simp <;> rfl) ?_; intro gb101 hg w21 hbox hb; have BK101 := Aside0.mk (hbox); have GW101 := Le_.mk (ge_of hg HB.out); have GE101 := Le_.mk (ge_of hg HB.out); replace HB := kB HB hb; clear hb hbox hg; have hz22 := cells_5 BK101.out))
    go_ret
    exact ⟨by rfl, bx HB.out⟩
end Go.Proofs.YtabindnaedchgaaDoor.M
end

section
-- Printed for this claim by a program (mprint.py) that uses the kit's print; Lean checks it.
namespace Go.Proofs.YtabindnaedchgaaDoor.M
open Go.RowKit Go.Proofs.YtabindnaedchgaaDoorW.PrintWords Go.Proofs.YtabindnaedchgaaDoorW.PrintLast Go.Proofs.YtabindnaedchgaaDoorW.PrintMore Go.Proofs.YtabindnaedchgaaDoor.Sq
set_option synthInstance.maxHeartbeats 2000000
set_option synthInstance.maxSize 4096
attribute [local go_sem] max2_int min2_int max_two min_two max_three min_three max_four min_four   -- for this text's walks alone
set_option linter.unusedVariables false
set_option linter.unusedSimpArgs false
theorem gf47 : Go_ Tryd.prog 47 Tryd.f47 := ⟨Tryd.func47, by kernel_rfl, rfl⟩
def spec_l2EntryPut.f (a0_0 : ByteArray) (a0_1 : ByteArray) : Option (ByteArray) := if a0_1.toList = ([] : List UInt8) then (some a0_0) else (if a0_0.size + 1 ≤ 9223372036854775807 then (if (a0_0 ++ (⟨#[47]⟩ : ByteArray)).size + a0_1.size ≤ 9223372036854775807 then (some ((a0_0 ++ (⟨#[47]⟩ : ByteArray)) ++ a0_1)) else (none)) else (none))
set_option maxHeartbeats 8000000 in
set_option maxRecDepth 100000 in
theorem spec_l2EntryPut.calls (a0_0 : ByteArray) (a0_1 : ByteArray) (r : ByteArray) (w : World) (h : spec_l2EntryPut.f a0_0 a0_1 = some r) :
    Calls Tryd.prog 47 #[.agg #[.string a0_0, .string a0_1]] w fun e w' => e = .returned (.string r) ∧ Below w.heap.size w w' := by
  obtain ⟨s1_, hs1_⟩ : ∃ s_ : ByteArray, (a0_0 ++ (⟨#[47]⟩ : ByteArray)) = s_ := ⟨_, rfl⟩
  obtain ⟨s2_, hs2_⟩ : ∃ s_ : ByteArray, (s1_ ++ a0_1) = s_ := ⟨_, rfl⟩
  have hu43 := Tryd.underlying43
  have HB := Aside0.mk (Below.refl w.heap.size w)
  have H : (if a0_1.toList = ([] : List UInt8) then (some a0_0) else (if a0_0.size + 1 ≤ 9223372036854775807 then (if s1_.size + a0_1.size ≤ 9223372036854775807 then (some s2_) else (none)) else (none))) = some r := by subst hs2_; subst hs1_; exact h
  clear h
  by_cases c2 : a0_1.toList = ([] : List UInt8)
  · rw [if_pos c2] at H
    have c2b0 : (a0_1.toList == ([] : List UInt8)) = true := beq_iff_eq.mpr c2
    have c2b1 : (a0_1.toList != ([] : List UInt8)) = false := bne_eq_false_iff_eq.mpr c2
    clear c2
    obtain rfl := Option.some.inj H
    go_enter Tryd.func47, Tryd.ntmps47
    go_wp2_with (first | ((with_reducible refine gate_dst (N := 1) rfl ?_); refine box_event rfl (N := 1) rfl (cs := #[.string a0_0, .string a0_1]) (t := 43) (by go_simp <;> rfl) ?_; intro gb101 hg w3 hbox hb; have BK101 := Aside0.mk (hbox); have GW101 := Le_.mk (ge_of hg HB.out); have GE101 := Le_.mk (ge_of hg HB.out); replace HB := kB HB hb; clear hb hbox hg; have hz4 := cells_2 BK101.out))
    go_ret
    exact ⟨by rfl, bx HB.out⟩
  · rw [if_neg c2] at H
    have c2b0 : (a0_1.toList == ([] : List UInt8)) = false := beq_eq_false_iff_ne.mpr c2
    have c2b1 : (a0_1.toList != ([] : List UInt8)) = true := bne_iff_ne.mpr c2
    have c5 := ite_y H
    replace H := ite_t H
    have c5b0 := eq_true c5
    have c5b1 := decide_eq_true c5
    try have c5b2 : (9223372036854775807 < a0_0.size + 1) = False := eq_false (Nat.not_lt.2 c5)
    have c6 := ite_y H
    replace H := ite_t H
    have c6b0 := eq_true c6
    have c6b1 := decide_eq_true c6
    try have c6b2 : (9223372036854775807 < s1_.size + a0_1.size) = False := eq_false (Nat.not_lt.2 c6)
    obtain rfl := Option.some.inj H
    go_enter Tryd.func47, Tryd.ntmps47
    go_wp2_with (first | ((with_reducible refine gate_dst (N := 1) rfl ?_); refine box_event rfl (N := 1) rfl (cs := #[.string a0_0, .string a0_1]) (t := 43) (by go_simp <;> rfl) ?_; intro gb101 hg w7 hbox hb; have BK101 := Aside0.mk (hbox); have GW101 := Le_.mk (ge_of hg HB.out); have GE101 := Le_.mk (ge_of hg HB.out); replace HB := kB HB hb; clear hb hbox hg; have hz8 := cells_2 BK101.out))
    go_ret
    exact ⟨by rfl, bx HB.out⟩
end Go.Proofs.YtabindnaedchgaaDoor.M
end

section
-- Printed for this claim by a program (mprint.py) that uses the kit's print; Lean checks it.
namespace Go.Proofs.YtabindnaedchgaaDoor.M
open Go.RowKit Go.Proofs.YtabindnaedchgaaDoorW.PrintWords Go.Proofs.YtabindnaedchgaaDoorW.PrintLast Go.Proofs.YtabindnaedchgaaDoorW.PrintMore Go.Proofs.YtabindnaedchgaaDoor.Sq
set_option synthInstance.maxHeartbeats 2000000
set_option synthInstance.maxSize 4096
attribute [local go_sem] max2_int min2_int max_two min_two max_three min_three max_four min_four   -- for this text's walks alone
set_option linter.unusedVariables false
set_option linter.unusedSimpArgs false
theorem gf18 : Go_ Tryd.prog 18 Tryd.f18 := ⟨Tryd.func18, by kernel_rfl, rfl⟩
mutual
def spec_l5Put.j0 : Nat → ByteArray → List ByteArray → List (S43) → Bool → List (S46) → Option (ByteArray)
  | 0, _, _, _, _, _ => none
  | k + 1, x3, x102000, x102001, x102002, x102003 => spec_l5Put.l0 k x3 0 x102000 x102001 x102002 x102003
def spec_l5Put.l0 : Nat → ByteArray → Int → List ByteArray → List (S43) → Bool → List (S46) → Option (ByteArray)
  | 0, _, _, _, _, _, _ => none
  | k + 1, x3, x4, x102000, x102001, x102002, x102003 => if x4 < (x102003.length : Int) then (if 0 ≤ x4 then ((spec_l2AffixPut.f ((rd_T46 x102003 x4).f0) ((rd_T46 x102003 x4).f1) ((rd_T46 x102003 x4).f2) ((rd_T46 x102003 x4).f3) ((rd_T46 x102003 x4).f4)).bind fun t103 => (if x3.size + t103.size ≤ 9223372036854775807 then (if (x3 ++ t103).size + 1 ≤ 9223372036854775807 then (spec_l5Put.l0 k ((x3 ++ t103) ++ (⟨#[10]⟩ : ByteArray)) (wrap64 (x4 + 1)) x102000 x102001 x102002 x102003) else (none)) else (none))) else (none)) else (spec_l5Put.l1 k x3 0 x102000 x102001 x102002 x102003)
def spec_l5Put.l1 : Nat → ByteArray → Int → List ByteArray → List (S43) → Bool → List (S46) → Option (ByteArray)
  | 0, _, _, _, _, _, _ => none
  | k + 1, x3, x5, x102000, x102001, x102002, x102003 => if x5 < (x102000.length : Int) then (if x3.size + 1 ≤ 9223372036854775807 then (if 0 ≤ x5 then (if (x3 ++ (⟨#[45]⟩ : ByteArray)).size + (rdOf ByteArray.empty x102000 x5).size ≤ 9223372036854775807 then (if ((x3 ++ (⟨#[45]⟩ : ByteArray)) ++ (rdOf ByteArray.empty x102000 x5)).size + 1 ≤ 9223372036854775807 then (spec_l5Put.l1 k (((x3 ++ (⟨#[45]⟩ : ByteArray)) ++ (rdOf ByteArray.empty x102000 x5)) ++ (⟨#[10]⟩ : ByteArray)) (wrap64 (x5 + 1)) x102000 x102001 x102002 x102003) else (none)) else (none)) else (none)) else (none)) else (spec_l5Put.l2 k x3 0 x102000 x102001 x102002 x102003)
def spec_l5Put.l2 : Nat → ByteArray → Int → List ByteArray → List (S43) → Bool → List (S46) → Option (ByteArray)
  | 0, _, _, _, _, _, _ => none
  | k + 1, x3, x6, x102000, x102001, x102002, x102003 => if x6 < (x102001.length : Int) then (if x3.size + 1 ≤ 9223372036854775807 then (if 0 ≤ x6 then ((spec_l2EntryPut.f ((rd_T43 x102001 x6).f0) ((rd_T43 x102001 x6).f1)).bind fun t106 => (if (x3 ++ (⟨#[43]⟩ : ByteArray)).size + t106.size ≤ 9223372036854775807 then (if ((x3 ++ (⟨#[43]⟩ : ByteArray)) ++ t106).size + 1 ≤ 9223372036854775807 then (spec_l5Put.l2 k (((x3 ++ (⟨#[43]⟩ : ByteArray)) ++ t106) ++ (⟨#[10]⟩ : ByteArray)) (wrap64 (x6 + 1)) x102000 x102001 x102002 x102003) else (none)) else (none))) else (none)) else (none)) else (some x3)
end
def spec_l5Put.f (k : Nat) (l0_0 : List ByteArray) (l0_1 : List (S43)) (a0_2 : Bool) (l0_3 : List (S46)) : Option (ByteArray) := if a0_2 = true then (spec_l5Put.j0 k (⟨#[97, 102, 102, 105, 120, 101, 115, 10]⟩ : ByteArray) l0_0 l0_1 a0_2 l0_3) else (spec_l5Put.j0 k (⟨#[]⟩ : ByteArray) l0_0 l0_1 a0_2 l0_3)
theorem spec_l5Put.mono_l : ∀ k, (∀ y0 y1 y2 y3 y4, LeO (spec_l5Put.j0 k y0 y1 y2 y3 y4) (spec_l5Put.j0 (k + 1) y0 y1 y2 y3 y4)) ∧ (∀ y0 y1 y2 y3 y4 y5, LeO (spec_l5Put.l0 k y0 y1 y2 y3 y4 y5) (spec_l5Put.l0 (k + 1) y0 y1 y2 y3 y4 y5)) ∧ (∀ y0 y1 y2 y3 y4 y5, LeO (spec_l5Put.l1 k y0 y1 y2 y3 y4 y5) (spec_l5Put.l1 (k + 1) y0 y1 y2 y3 y4 y5)) ∧ (∀ y0 y1 y2 y3 y4 y5, LeO (spec_l5Put.l2 k y0 y1 y2 y3 y4 y5) (spec_l5Put.l2 (k + 1) y0 y1 y2 y3 y4 y5))
  | 0 => ⟨fun _ _ _ _ _ r h => by simp [spec_l5Put.j0] at h, fun _ _ _ _ _ _ r h => by simp [spec_l5Put.l0] at h, fun _ _ _ _ _ _ r h => by simp [spec_l5Put.l1] at h, fun _ _ _ _ _ _ r h => by simp [spec_l5Put.l2] at h⟩
  | k + 1 => by
    obtain ⟨ih0, ih1, ih2, ih3⟩ := spec_l5Put.mono_l k
    refine ⟨?_, ?_, ?_, ?_⟩
    · intro y0 y1 y2 y3 y4
      unfold spec_l5Put.j0
      have I0_ := fun x0_ x1_ x2_ x3_ x4_ => LeC.mk (ih0 x0_ x1_ x2_ x3_ x4_)
      have I1_ := fun x0_ x1_ x2_ x3_ x4_ x5_ => LeC.mk (ih1 x0_ x1_ x2_ x3_ x4_ x5_)
      have I2_ := fun x0_ x1_ x2_ x3_ x4_ x5_ => LeC.mk (ih2 x0_ x1_ x2_ x3_ x4_ x5_)
      have I3_ := fun x0_ x1_ x2_ x3_ x4_ x5_ => LeC.mk (ih3 x0_ x1_ x2_ x3_ x4_ x5_)
      exact LeC.out
    · intro y0 y1 y2 y3 y4 y5
      unfold spec_l5Put.l0
      have I0_ := fun x0_ x1_ x2_ x3_ x4_ => LeC.mk (ih0 x0_ x1_ x2_ x3_ x4_)
      have I1_ := fun x0_ x1_ x2_ x3_ x4_ x5_ => LeC.mk (ih1 x0_ x1_ x2_ x3_ x4_ x5_)
      have I2_ := fun x0_ x1_ x2_ x3_ x4_ x5_ => LeC.mk (ih2 x0_ x1_ x2_ x3_ x4_ x5_)
      have I3_ := fun x0_ x1_ x2_ x3_ x4_ x5_ => LeC.mk (ih3 x0_ x1_ x2_ x3_ x4_ x5_)
      exact LeC.out
    · intro y0 y1 y2 y3 y4 y5
      unfold spec_l5Put.l1
      have I0_ := fun x0_ x1_ x2_ x3_ x4_ => LeC.mk (ih0 x0_ x1_ x2_ x3_ x4_)
      have I1_ := fun x0_ x1_ x2_ x3_ x4_ x5_ => LeC.mk (ih1 x0_ x1_ x2_ x3_ x4_ x5_)
      have I2_ := fun x0_ x1_ x2_ x3_ x4_ x5_ => LeC.mk (ih2 x0_ x1_ x2_ x3_ x4_ x5_)
      have I3_ := fun x0_ x1_ x2_ x3_ x4_ x5_ => LeC.mk (ih3 x0_ x1_ x2_ x3_ x4_ x5_)
      exact LeC.out
    · intro y0 y1 y2 y3 y4 y5
      unfold spec_l5Put.l2
      have I0_ := fun x0_ x1_ x2_ x3_ x4_ => LeC.mk (ih0 x0_ x1_ x2_ x3_ x4_)
      have I1_ := fun x0_ x1_ x2_ x3_ x4_ x5_ => LeC.mk (ih1 x0_ x1_ x2_ x3_ x4_ x5_)
      have I2_ := fun x0_ x1_ x2_ x3_ x4_ x5_ => LeC.mk (ih2 x0_ x1_ x2_ x3_ x4_ x5_)
      have I3_ := fun x0_ x1_ x2_ x3_ x4_ x5_ => LeC.mk (ih3 x0_ x1_ x2_ x3_ x4_ x5_)
      exact LeC.out
theorem spec_l5Put.mono : ∀ a0 a1 a2 a3 k, LeO (spec_l5Put.f k a0 a1 a2 a3) (spec_l5Put.f (k + 1) a0 a1 a2 a3) := by
  intro a0 a1 a2 a3 k
  obtain ⟨ih0, ih1, ih2, ih3⟩ := spec_l5Put.mono_l k
  unfold spec_l5Put.f
  have I0_ := fun x0_ x1_ x2_ x3_ x4_ => LeC.mk (ih0 x0_ x1_ x2_ x3_ x4_)
  have I1_ := fun x0_ x1_ x2_ x3_ x4_ x5_ => LeC.mk (ih1 x0_ x1_ x2_ x3_ x4_ x5_)
  have I2_ := fun x0_ x1_ x2_ x3_ x4_ x5_ => LeC.mk (ih2 x0_ x1_ x2_ x3_ x4_ x5_)
  have I3_ := fun x0_ x1_ x2_ x3_ x4_ x5_ => LeC.mk (ih3 x0_ x1_ x2_ x3_ x4_ x5_)
  exact LeC.out
set_option maxHeartbeats 8000000 in
set_option maxRecDepth 100000 in
theorem spec_l5Put.calls (k : Nat) (A0_0 : Option Addr) (c0_0 : Nat) (l0_0 : List ByteArray) (A0_1 : Option Addr) (c0_1 : Nat) (l0_1 : List (S43)) (a0_2 : Bool) (A0_3 : Option Addr) (c0_3 : Nat) (l0_3 : List (S46)) (r : ByteArray) (w : World) (hr0_0 : Kd.C Kd.string w A0_0 l0_0.length l0_0) (hc0_0 : l0_0.length ≤ c0_0) (hr0_1 : Kd.C k43 w A0_1 l0_1.length l0_1) (hc0_1 : l0_1.length ≤ c0_1) (hr0_3 : Kd.C k46 w A0_3 l0_3.length l0_3) (hc0_3 : l0_3.length ≤ c0_3) (h : spec_l5Put.f k l0_0 l0_1 a0_2 l0_3 = some r) :
    Calls Tryd.prog 18 #[.agg #[.slice A0_0 l0_0.length c0_0, .slice A0_1 l0_1.length c0_1, .bool a0_2, .slice A0_3 l0_3.length c0_3]] w fun e w' => e = .returned (.string r) ∧ Below w.heap.size w w' := by
  have hu26 := Tryd.underlying26
  have hu46 := Tryd.underlying46
  have hu43 := Tryd.underlying43
  have HR0_0 := Aside0.mk hr0_0
  have HC0_0 := Aside0.mk hc0_0
  clear hr0_0 hc0_0
  have HR0_1 := Aside0.mk hr0_1
  have HC0_1 := Aside0.mk hc0_1
  clear hr0_1 hc0_1
  have HR0_3 := Aside0.mk hr0_3
  have HC0_3 := Aside0.mk hc0_3
  clear hr0_3 hc0_3
  have HB := Aside0.mk (Below.refl w.heap.size w)
  unfold spec_l5Put.f at h
  have H := h
  clear h
  have HC2 := Aside0.mk H
  clear H
  go_enter Tryd.func18, Tryd.ntmps18
  go_upto_if 8 with (first | ((with_reducible refine gate_dst (N := 1) rfl ?_); refine box_event rfl (N := 1) rfl (cs := #[.slice A0_0 l0_0.length c0_0, .slice A0_1 l0_1.length c0_1, .bool a0_2, .slice A0_3 l0_3.length c0_3]) (t := 26) (by go_simp <;> rfl) ?_; intro gb101 hg w3 hbox hb; have BK101 := Aside0.mk (hbox); have GW101 := Le_.mk (ge_of hg HB.out); have GE101 := Le_.mk (ge_of hg HB.out); replace HB := kB HB hb; clear hb hbox hg; have hz4 := cells_4 BK101.out))
  (try simp only [Act.put, List.setIfInBounds_toArray, List.set_cons_zero, List.set_cons_succ])
  go_cut [3] (fun v3 wc => ∃ (kq : Nat) (x3_1 : ByteArray), v3 = .string x3_1 ∧ Aside0 (spec_l5Put.j0 kq x3_1 l0_0 l0_1 a0_2 l0_3 = some r) ∧ Aside0 (kq ≤ k) ∧ Aside0 (wc.heap[gb101]? = some (.cells #[(.slice A0_0 l0_0.length c0_0), (.slice A0_1 l0_1.length c0_1), .bool a0_2, (.slice A0_3 l0_3.length c0_3)] 26 (0, 0))) ∧ Aside0 (Below w.heap.size w wc))
  case first =>
    have H := HC2.out
    clear HC2
    by_cases c5 : a0_2 = true
    · subst c5
      rw [if_pos rfl] at H
      have H' := Aside0.mk H
      clear H
      go_wp2
      go_meet
      case rel => exact ⟨_, ((⟨#[97, 102, 102, 105, 120, 101, 115, 10]⟩ : ByteArray)), (by first | rfl | (simp; done) | (simp [*]; done)), H', ⟨by first | omega | exact Nat.le_refl _⟩, ⟨gx (BK101.out)⟩, ⟨bx HB.out⟩⟩
    · replace c5 := Bool.eq_false_iff.mpr c5
      subst c5
      rw [if_neg Bool.false_ne_true] at H
      have H' := Aside0.mk H
      clear H
      go_wp2
      go_meet
      case rel => exact ⟨_, ((⟨#[]⟩ : ByteArray)), (by first | rfl | (simp; done) | (simp [*]; done)), H', ⟨by first | omega | exact Nat.le_refl _⟩, ⟨gx (BK101.out)⟩, ⟨bx HB.out⟩⟩
  case rest =>
    clear HC2
    try clear c1
    try clear p2
    try clear c5
    try clear hz4
    obtain ⟨kq, x3_1, rfl, HA, HJ1, BK101, HB⟩ := hcut
    cases kq with
    | zero => exact absurd HA.out (by simp [spec_l5Put.j0])
    | succ kj1 =>
      have H := HA.out
      clear HA
      simp only [spec_l5Put.j0] at H
      have H' := Aside0.mk H
      clear H
      go_wp2
      go_loopg [3, 4] kj1 (fun kq v3 v4 w' => ∃ (x3_2 : ByteArray) (x4_2 : Int), v3 = .string x3_2 ∧ v4 = .int .i64 x4_2 ∧ Aside0 (spec_l5Put.l0 kq x3_2 x4_2 l0_0 l0_1 a0_2 l0_3 = some r) ∧ Aside0 (kq ≤ kj1) ∧ Aside0 (w'.heap[gb101]? = some (.cells #[(.slice A0_0 l0_0.length c0_0), (.slice A0_1 l0_1.length c0_1), .bool a0_2, (.slice A0_3 l0_3.length c0_3)] 26 (0, 0))) ∧ Aside0 (Below w.heap.size w w'))
      case atStart => exact ⟨(x3_1), (0), (by first | rfl | (simp; done) | (simp [*]; done)), (by first | rfl | (simp; done) | (simp [*]; done)), H', ⟨Nat.le_refl _⟩, ⟨gx (BK101.out)⟩, ⟨bx HB.out⟩⟩
      case round =>
        clear H'
        try clear c1
        try clear p2
        try clear c5
        try clear hz4
        try clear p2
        obtain ⟨x3_2, x4_2, rfl, rfl, HA, HK2, BK101, HB⟩ := hrel
        cases gk with
        | zero => exact absurd HA.out (by simp [spec_l5Put.l0])
        | succ k2 =>
          have H := HA.out
          clear HA
          simp only [spec_l5Put.l0] at H
          by_cases c6 : x4_2 < (l0_3.length : Int)
          · rw [if_pos c6] at H
            have c6b0 := decide_eq_true c6
            clear c6
            have c7 := ite_y H
            replace H := ite_t H
            have c7b0 := decide_eq_true c7
            clear c7
            replace H := Option.bind_eq_some_iff.mp H
            obtain ⟨t103, A80, H⟩ := H
            have A8 := Aside0.mk A80
            clear A80
            have c9 := ite_y H
            replace H := ite_t H
            have c9b0 := eq_true c9
            have c9b1 := decide_eq_true c9
            try have c9b2 : (9223372036854775807 < x3_2.size + t103.size) = False := eq_false (Nat.not_lt.2 c9)
            have c10 := ite_y H
            replace H := ite_t H
            have c10b0 := eq_true c10
            have c10b1 := decide_eq_true c10
            try have c10b2 : (9223372036854775807 < (x3_2 ++ t103).size + 1) = False := eq_false (Nat.not_lt.2 c10)
            try (have c10b3 := c10b2; simp only [ByteArray.size_append] at c10b3)
            try (have c10h_ := c10; simp [go_sem, *] at c10h_; have c10b5 : (9223372036854775807 < x3_2.size + t103.size + 1) = False := eq_false (by omega); clear c10h_)
            have H' := Aside0.mk H
            clear H
            have hz11 := cells_4 BK101.out
            have p102 := of_decide_eq_true c7b0
            have q102 := of_decide_eq_true c6b0
            obtain ⟨ad102, e102, hx102_0, hx102_1, hx102_2, hx102_3, hx102_4⟩ := at_T46 HR0_3.out x4_2 p102 q102
            cases e102
            replace hx102_0 := px HB.out hx102_0
            replace hx102_1 := px HB.out hx102_1
            replace hx102_2 := px HB.out hx102_2
            replace hx102_3 := px HB.out hx102_3
            replace hx102_4 := px HB.out hx102_4
            replace p102 := eq_true p102
            replace q102 := eq_true q102
            go_wp2_with (first | ((with_reducible refine gate_callee (f := 46) rfl ?_); refine goL (some 22) rfl rfl gf46 #[.agg #[.string ((rd_T46 l0_3 x4_2).f0), .bool ((rd_T46 l0_3 x4_2).f1), .string ((rd_T46 l0_3 x4_2).f2), .string ((rd_T46 l0_3 x4_2).f3), .string ((rd_T46 l0_3 x4_2).f4)]] rfl rfl ?_; (with_reducible refine (spec_l2AffixPut.calls ((rd_T46 l0_3 x4_2).f0) ((rd_T46 l0_3 x4_2).f1) ((rd_T46 l0_3 x4_2).f2) ((rd_T46 l0_3 x4_2).f3) ((rd_T46 l0_3 x4_2).f4) t103 _ A8.out).mono ?_); rintro e w12 ⟨rfl, hb⟩; refine ⟨_, rfl, ?_⟩; replace BK101 := kb BK101 hb; replace HB := kB HB hb; (try clear hb); (try clear hb2); (try clear hk); (try clear hi)))
            go_roundg k2
            case measure => have := HJ1.out; have := HK2.out; omega
            case rel => exact ⟨((x3_2 ++ t103) ++ (⟨#[10]⟩ : ByteArray)), (wrap64 (x4_2 + 1)), (by first | rfl | (simp; done) | (simp [*]; done)), (by first | rfl | (simp; done) | (simp [*]; done)), H', ⟨by have := HJ1.out; have := HK2.out; omega⟩, ⟨gx (BK101.out)⟩, ⟨bx HB.out⟩⟩
          · rw [if_neg c6] at H
            have c6b0 := decide_eq_false c6
            clear c6
            have H' := Aside0.mk H
            clear H
            have hz13 := cells_4 BK101.out
            go_wp2
            go_loopg [3, 5] k2 (fun kq v3 v5 w' => ∃ (x3_3 : ByteArray) (x5_3 : Int), v3 = .string x3_3 ∧ v5 = .int .i64 x5_3 ∧ Aside0 (spec_l5Put.l1 kq x3_3 x5_3 l0_0 l0_1 a0_2 l0_3 = some r) ∧ Aside0 (kq ≤ k2) ∧ Aside0 (w'.heap[gb101]? = some (.cells #[(.slice A0_0 l0_0.length c0_0), (.slice A0_1 l0_1.length c0_1), .bool a0_2, (.slice A0_3 l0_3.length c0_3)] 26 (0, 0))) ∧ Aside0 (Below w.heap.size w w'))
            case atStart => exact ⟨(x3_2), (0), (by first | rfl | (simp; done) | (simp [*]; done)), (by first | rfl | (simp; done) | (simp [*]; done)), H', ⟨Nat.le_refl _⟩, ⟨gx (BK101.out)⟩, ⟨bx HB.out⟩⟩
            case round =>
              clear H'
              try clear c1
              try clear p1
              try clear q1
              try clear hx1
              try clear p2
              try clear c4
              try clear c5
              try clear c6
              try clear c6b0
              try clear p6
              try clear c7
              try clear c7b0
              try clear c9
              try clear c9b0
              try clear c9b1
              try clear c9b2
              try clear c10
              try clear c10b0
              try clear c10b1
              try clear c10b2
              try clear p10
              try clear q10
              try clear hx10
              try clear hz11
              try clear hz13
              try clear hz4
              try clear hx102_0
              try clear hx102_1
              try clear hx102_2
              try clear hx102_3
              try clear hx102_4
              try clear p102
              try clear p2
              try clear q102
              obtain ⟨x3_3, x5_3, rfl, rfl, HA, HK3, BK101, HB⟩ := hrel
              cases gk with
              | zero => exact absurd HA.out (by simp [spec_l5Put.l1])
              | succ k3 =>
                have H := HA.out
                clear HA
                simp only [spec_l5Put.l1] at H
                by_cases c14 : x5_3 < (l0_0.length : Int)
                · rw [if_pos c14] at H
                  have c14b0 := decide_eq_true c14
                  clear c14
                  have c15 := ite_y H
                  replace H := ite_t H
                  have c15b0 := eq_true c15
                  have c15b1 := decide_eq_true c15
                  try have c15b2 : (9223372036854775807 < x3_3.size + 1) = False := eq_false (Nat.not_lt.2 c15)
                  have c16 := ite_y H
                  replace H := ite_t H
                  have c16b0 := decide_eq_true c16
                  clear c16
                  have c17 := ite_y H
                  replace H := ite_t H
                  have c17b0 := eq_true c17
                  have c17b1 := decide_eq_true c17
                  try have c17b2 : (9223372036854775807 < (x3_3 ++ (⟨#[45]⟩ : ByteArray)).size + (rdOf ByteArray.empty l0_0 x5_3).size) = False := eq_false (Nat.not_lt.2 c17)
                  try (have c17b3 := c17b2; simp only [ByteArray.size_append, show (⟨#[45]⟩ : ByteArray).size = 1 from rfl] at c17b3)
                  try (have c17h_ := c17; simp [go_sem, *] at c17h_; have c17b5 : (9223372036854775807 < x3_3.size + 1 + (rdOf ByteArray.empty l0_0 x5_3).size) = False := eq_false (by omega); clear c17h_)
                  have c18 := ite_y H
                  replace H := ite_t H
                  have c18b0 := eq_true c18
                  have c18b1 := decide_eq_true c18
                  try have c18b2 : (9223372036854775807 < ((x3_3 ++ (⟨#[45]⟩ : ByteArray)) ++ (rdOf ByteArray.empty l0_0 x5_3)).size + 1) = False := eq_false (Nat.not_lt.2 c18)
                  try (have c18b3 := c18b2; simp only [ByteArray.size_append, show (⟨#[45]⟩ : ByteArray).size = 1 from rfl] at c18b3)
                  try (have c18h_ := c18; simp [go_sem, *] at c18h_; have c18b5 : (9223372036854775807 < x3_3.size + 1 + (rdOf ByteArray.empty l0_0 x5_3).size + 1) = False := eq_false (by omega); clear c18h_)
                  have H' := Aside0.mk H
                  clear H
                  have hz19 := cells_4 BK101.out
                  have p104 := of_decide_eq_true c16b0
                  have q104 := of_decide_eq_true c14b0
                  obtain ⟨ad104, e104, hx104_0⟩ := Kd.at_string HR0_0.out x5_3 p104 q104
                  cases e104
                  replace hx104_0 := px HB.out hx104_0
                  replace p104 := eq_true p104
                  replace q104 := eq_true q104
                  go_wp2
                  go_roundg k3
                  case measure => have := HJ1.out; have := HK2.out; have := HK3.out; omega
                  case rel => exact ⟨(((x3_3 ++ (⟨#[45]⟩ : ByteArray)) ++ (rdOf ByteArray.empty l0_0 x5_3)) ++ (⟨#[10]⟩ : ByteArray)), (wrap64 (x5_3 + 1)), (by first | rfl | (simp; done) | (simp [*]; done)), (by first | rfl | (simp; done) | (simp [*]; done)), H', ⟨by have := HJ1.out; have := HK2.out; have := HK3.out; omega⟩, ⟨gx (BK101.out)⟩, ⟨bx HB.out⟩⟩
                · rw [if_neg c14] at H
                  have c14b0 := decide_eq_false c14
                  clear c14
                  have H' := Aside0.mk H
                  clear H
                  have hz20 := cells_4 BK101.out
                  go_wp2
                  go_loopg [3, 6] k3 (fun kq v3 v6 w' => ∃ (x3_4 : ByteArray) (x6_4 : Int), v3 = .string x3_4 ∧ v6 = .int .i64 x6_4 ∧ Aside0 (spec_l5Put.l2 kq x3_4 x6_4 l0_0 l0_1 a0_2 l0_3 = some r) ∧ Aside0 (kq ≤ k3) ∧ Aside0 (w'.heap[gb101]? = some (.cells #[(.slice A0_0 l0_0.length c0_0), (.slice A0_1 l0_1.length c0_1), .bool a0_2, (.slice A0_3 l0_3.length c0_3)] 26 (0, 0))) ∧ Aside0 (Below w.heap.size w w'))
                  case atStart => exact ⟨(x3_3), (0), (by first | rfl | (simp; done) | (simp [*]; done)), (by first | rfl | (simp; done) | (simp [*]; done)), H', ⟨Nat.le_refl _⟩, ⟨gx (BK101.out)⟩, ⟨bx HB.out⟩⟩
                  case round =>
                    clear H'
                    try clear c1
                    try clear p1
                    try clear q1
                    try clear hx1
                    try clear p2
                    try clear c4
                    try clear c5
                    try clear c6
                    try clear c6b0
                    try clear p6
                    try clear c7
                    try clear c7b0
                    try clear c9
                    try clear c9b0
                    try clear c9b1
                    try clear c9b2
                    try clear c10
                    try clear c10b0
                    try clear c10b1
                    try clear c10b2
                    try clear p10
                    try clear q10
                    try clear hx10
                    try clear c14
                    try clear c14b0
                    try clear c15
                    try clear c15b0
                    try clear c15b1
                    try clear c15b2
                    try clear c16
                    try clear c16b0
                    try clear c17
                    try clear c17b0
                    try clear c17b1
                    try clear c17b2
                    try clear c18
                    try clear c18b0
                    try clear c18b1
                    try clear c18b2
                    try clear hz11
                    try clear hz13
                    try clear hz19
                    try clear hz20
                    try clear hz4
                    try clear hx102_0
                    try clear hx102_1
                    try clear hx102_2
                    try clear hx102_3
                    try clear hx102_4
                    try clear hx104_0
                    try clear p1
                    try clear p10
                    try clear p102
                    try clear p104
                    try clear p2
                    try clear p6
                    try clear q1
                    try clear q10
                    try clear q102
                    try clear q104
                    obtain ⟨x3_4, x6_4, rfl, rfl, HA, HK4, BK101, HB⟩ := hrel
                    cases gk with
                    | zero => exact absurd HA.out (by simp [spec_l5Put.l2])
                    | succ k4 =>
                      have H := HA.out
                      clear HA
                      simp only [spec_l5Put.l2] at H
                      by_cases c21 : x6_4 < (l0_1.length : Int)
                      · rw [if_pos c21] at H
                        have c21b0 := decide_eq_true c21
                        clear c21
                        have c22 := ite_y H
                        replace H := ite_t H
                        have c22b0 := eq_true c22
                        have c22b1 := decide_eq_true c22
                        try have c22b2 : (9223372036854775807 < x3_4.size + 1) = False := eq_false (Nat.not_lt.2 c22)
                        have c23 := ite_y H
                        replace H := ite_t H
                        have c23b0 := decide_eq_true c23
                        clear c23
                        replace H := Option.bind_eq_some_iff.mp H
                        obtain ⟨t106, A240, H⟩ := H
                        have A24 := Aside0.mk A240
                        clear A240
                        have c25 := ite_y H
                        replace H := ite_t H
                        have c25b0 := eq_true c25
                        have c25b1 := decide_eq_true c25
                        try have c25b2 : (9223372036854775807 < (x3_4 ++ (⟨#[43]⟩ : ByteArray)).size + t106.size) = False := eq_false (Nat.not_lt.2 c25)
                        try (have c25b3 := c25b2; simp only [ByteArray.size_append, show (⟨#[43]⟩ : ByteArray).size = 1 from rfl] at c25b3)
                        try (have c25h_ := c25; simp [go_sem, *] at c25h_; have c25b5 : (9223372036854775807 < x3_4.size + 1 + t106.size) = False := eq_false (by omega); clear c25h_)
                        have c26 := ite_y H
                        replace H := ite_t H
                        have c26b0 := eq_true c26
                        have c26b1 := decide_eq_true c26
                        try have c26b2 : (9223372036854775807 < ((x3_4 ++ (⟨#[43]⟩ : ByteArray)) ++ t106).size + 1) = False := eq_false (Nat.not_lt.2 c26)
                        try (have c26b3 := c26b2; simp only [ByteArray.size_append, show (⟨#[43]⟩ : ByteArray).size = 1 from rfl] at c26b3)
                        try (have c26h_ := c26; simp [go_sem, *] at c26h_; have c26b5 : (9223372036854775807 < x3_4.size + 1 + t106.size + 1) = False := eq_false (by omega); clear c26h_)
                        have H' := Aside0.mk H
                        clear H
                        have hz27 := cells_4 BK101.out
                        have p105 := of_decide_eq_true c23b0
                        have q105 := of_decide_eq_true c21b0
                        obtain ⟨ad105, e105, hx105_0, hx105_1⟩ := at_T43 HR0_1.out x6_4 p105 q105
                        cases e105
                        replace hx105_0 := px HB.out hx105_0
                        replace hx105_1 := px HB.out hx105_1
                        replace p105 := eq_true p105
                        replace q105 := eq_true q105
                        go_wp2_with (first | ((with_reducible refine gate_callee (f := 47) rfl ?_); refine goL (some 55) rfl rfl gf47 #[.agg #[.string ((rd_T43 l0_1 x6_4).f0), .string ((rd_T43 l0_1 x6_4).f1)]] rfl rfl ?_; (with_reducible refine (spec_l2EntryPut.calls ((rd_T43 l0_1 x6_4).f0) ((rd_T43 l0_1 x6_4).f1) t106 _ A24.out).mono ?_); rintro e w28 ⟨rfl, hb⟩; refine ⟨_, rfl, ?_⟩; replace BK101 := kb BK101 hb; replace HB := kB HB hb; (try clear hb); (try clear hb2); (try clear hk); (try clear hi)))
                        go_roundg k4
                        case measure => have := HJ1.out; have := HK2.out; have := HK3.out; have := HK4.out; omega
                        case rel => exact ⟨(((x3_4 ++ (⟨#[43]⟩ : ByteArray)) ++ t106) ++ (⟨#[10]⟩ : ByteArray)), (wrap64 (x6_4 + 1)), (by first | rfl | (simp; done) | (simp [*]; done)), (by first | rfl | (simp; done) | (simp [*]; done)), H', ⟨by have := HJ1.out; have := HK2.out; have := HK3.out; have := HK4.out; omega⟩, ⟨gx (BK101.out)⟩, ⟨bx HB.out⟩⟩
                      · rw [if_neg c21] at H
                        have c21b0 := decide_eq_false c21
                        clear c21
                        obtain rfl := Option.some.inj H
                        have hz29 := cells_4 BK101.out
                        go_wp2
                        go_ret
                        exact ⟨by rfl, bx HB.out⟩
end Go.Proofs.YtabindnaedchgaaDoor.M
end
