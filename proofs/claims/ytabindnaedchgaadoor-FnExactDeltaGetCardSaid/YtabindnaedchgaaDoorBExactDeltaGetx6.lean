import Derived.Test.YtabindnaedchgaaDoorBExactDeltaGetx2
import Derived.Test.YtabindnaedchgaaDoorBExactDeltaGetx4
import Derived.Test.YtabindnaedchgaaDoorBExactDeltaGetx5
import Derived.Test.YtabindnaedchgaaDoorBExactDeltaGetx1
import Derived.Test.YtabindnaedchgaaDoorBExactDeltaGetx3

section
-- Printed for this claim by a program (mprint.py) that uses the kit's print; Lean checks it.
namespace Go.Proofs.YtabindnaedchgaaDoor.M
open Go.RowKit Go.Proofs.YtabindnaedchgaaDoorW.PrintWords Go.Proofs.YtabindnaedchgaaDoorW.PrintLast Go.Proofs.YtabindnaedchgaaDoorW.PrintMore Go.Proofs.YtabindnaedchgaaDoor.Sq
set_option synthInstance.maxHeartbeats 2000000
set_option synthInstance.maxSize 4096
attribute [local go_sem] max2_int min2_int max_two min_two max_three min_three max_four min_four   -- for this text's walks alone
set_option linter.unusedVariables false
set_option linter.unusedSimpArgs false
theorem gf5 : Go_ Tryd.prog 5 Tryd.f5 := ⟨Tryd.func5, by kernel_rfl, rfl⟩
def spec_DeltaGet.l0 : Nat → ByteArray → List ByteArray → Int → List ByteArray → List (S43) → Bool → List (S46) → Option (List ByteArray × (List (S43)) × Bool × (List (S46)) × Bool)
  | 0, _, _, _, _, _, _, _ => none
  | k + 1, x0, x4, x6, x106000, x106001, x106002, x106003 => if (wrap64 (x6 + 1)) < (x4.length : Int) then (if 0 ≤ x6 then (if x6 < (x4.length : Int) then ((spec_l5Line.f k x106000 x106001 x106002 x106003 (rdOf ByteArray.empty x4 x6)).bind fun bt107 => (if bt107.2.2.2.2 = true then (spec_DeltaGet.l0 k x0 x4 (wrap64 (x6 + 1)) bt107.1 bt107.2.1 bt107.2.2.1 bt107.2.2.2.1) else (some (([] : List ByteArray), ([] : List (S43)), false, ([] : List (S46)), false)))) else (none)) else (none)) else ((spec_DeltaOk.f k x106000 x106001 x106002 x106003).bind fun t119 => (if t119 = true then ((spec_l5Put.f k x106000 x106001 x106002 x106003).bind fun t120 => (if t120.toList = x0.toList then (some (x106000, x106001, x106002, x106003, true)) else (some (([] : List ByteArray), ([] : List (S43)), false, ([] : List (S46)), false)))) else (some (([] : List ByteArray), ([] : List (S43)), false, ([] : List (S46)), false))))
def spec_DeltaGet.f (k : Nat) (a0 : ByteArray) : Option (List ByteArray × (List (S43)) × Bool × (List (S46)) × Bool) := (spec_l1Cut.f k a0 10).bind fun t102 => (spec_DeltaGet.l0 k a0 t102 0 ([] : List ByteArray) ([] : List (S43)) false ([] : List (S46)))
theorem spec_DeltaGet.mono_l : ∀ k, (∀ y0 y1 y2 y3 y4 y5 y6, LeO (spec_DeltaGet.l0 k y0 y1 y2 y3 y4 y5 y6) (spec_DeltaGet.l0 (k + 1) y0 y1 y2 y3 y4 y5 y6))
  | 0 => fun _ _ _ _ _ _ _ r h => by simp [spec_DeltaGet.l0] at h
  | k + 1 => by
    have ih0 := spec_DeltaGet.mono_l k
    · intro y0 y1 y2 y3 y4 y5 y6
      unfold spec_DeltaGet.l0
      have I0_ := fun x0_ x1_ x2_ x3_ x4_ x5_ x6_ => LeC.mk (ih0 x0_ x1_ x2_ x3_ x4_ x5_ x6_)
      have I1_ := fun x0_ x1_ x2_ x3_ x4_ => LeC.mk (spec_DeltaOk.mono x0_ x1_ x2_ x3_ x4_)
      have I2_ := fun x0_ x1_ x2_ => LeC.mk (spec_l1Cut.mono x0_ x1_ x2_)
      have I3_ := fun x0_ x1_ x2_ x3_ x4_ x5_ => LeC.mk (spec_l5Line.mono x0_ x1_ x2_ x3_ x4_ x5_)
      have I4_ := fun x0_ x1_ x2_ x3_ x4_ => LeC.mk (spec_l5Put.mono x0_ x1_ x2_ x3_ x4_)
      exact LeC.out
theorem spec_DeltaGet.mono : ∀ a0 k, LeO (spec_DeltaGet.f k a0) (spec_DeltaGet.f (k + 1) a0) := by
  intro a0 k
  have ih0 := spec_DeltaGet.mono_l k
  unfold spec_DeltaGet.f
  have I0_ := fun x0_ x1_ x2_ x3_ x4_ x5_ x6_ => LeC.mk (ih0 x0_ x1_ x2_ x3_ x4_ x5_ x6_)
  have I1_ := fun x0_ x1_ x2_ x3_ x4_ => LeC.mk (spec_DeltaOk.mono x0_ x1_ x2_ x3_ x4_)
  have I2_ := fun x0_ x1_ x2_ => LeC.mk (spec_l1Cut.mono x0_ x1_ x2_)
  have I3_ := fun x0_ x1_ x2_ x3_ x4_ x5_ => LeC.mk (spec_l5Line.mono x0_ x1_ x2_ x3_ x4_ x5_)
  have I4_ := fun x0_ x1_ x2_ x3_ x4_ => LeC.mk (spec_l5Put.mono x0_ x1_ x2_ x3_ x4_)
  exact LeC.out
def spec_DeltaGet.T6 : Bool × List (List Nat × List Nat) := (true, [([], []), ([], []), ([], []), ([1, 2], [1, 2]), ([3], [3]), ([0, 4], [0, 4]), ([5], [5]), ([6], [6]), ([6], [6]), ([], []), ([9, 7, 5, 0, 1, 2, 3, 4, 5, 6, 7, 9], [7, 9]), ([8, 10, 0, 1, 2, 3, 4, 5, 6, 7, 8, 9, 10], [8])])
def spec_DeltaGet.B6 : List Nat := [0, 0, 0, 6, 14, 31, 63, 127, 127, 0, 767, 2047]
theorem spec_DeltaGet.tab6 : rtab .any (opsOf Tryd.f5 6) = spec_DeltaGet.T6 := by kernel_rfl
theorem spec_DeltaGet.bits6 : waitsOk spec_DeltaGet.T6.2 spec_DeltaGet.B6 = true := by kernel_rfl
set_option maxHeartbeats 8000000 in
set_option maxRecDepth 100000 in
theorem spec_DeltaGet.calls (k : Nat) (a0 : ByteArray) (r1 : List ByteArray) (r2 : List (S43)) (r3 : Bool) (r4 : List (S46)) (r5 : Bool) (w : World) (h : spec_DeltaGet.f k a0 = some (r1, r2, r3, r4, r5)) :
    Calls Tryd.prog 5 #[.string a0] w fun e w' => ∃ v0_ v1_ v3_ : Value, e = .returned (.tuple #[.agg #[v0_, v1_, .bool r3, v3_], .bool r5]) ∧ Kd.R Kd.string 9 w' w.heap.size (fun _ => True) v0_ r1 ∧ Kd.R k43 43 w' w.heap.size (fun _ => True) v1_ r2 ∧ Kd.R k46 46 w' w.heap.size (fun _ => True) v3_ r4 ∧ Below w.heap.size w w' := by
  have hu26 := Tryd.underlying26
  have HB := Aside0.mk (Below.refl w.heap.size w)
  unfold spec_DeltaGet.f at h
  have H := h
  clear h
  replace H := Option.bind_eq_some_iff.mp H
  obtain ⟨t102, A20, H⟩ := H
  have A2 := Aside0.mk A20
  clear A20
  have H' := Aside0.mk H
  clear H
  go_enter Tryd.func5, Tryd.ntmps5
  go_wp2_with (first | ((with_reducible refine gate_dst (N := 2) rfl ?_); refine box_event rfl (N := 2) rfl (cs := #[.slice none 0 0, .slice none 0 0, .bool false, .slice none 0 0]) (t := 26) (by go_simp <;> rfl) ?_; intro gb101 hg w3 hbox hb; have BK101 := Aside0.mk (hbox); have GW101 := Le_.mk (ge_of hg HB.out); have GE101 := Le_.mk (ge_of hg HB.out); replace HB := kB HB hb; clear hb hbox hg) | ((with_reducible refine gate_callee (f := 16) rfl ?_); refine goL (some 10) rfl rfl gf16 #[.string a0, .int .u8 10] rfl rfl ?_; (with_reducible refine (spec_l1Cut.calls k a0 10 t102 _ A2.out).mono ?_); rintro e w4 ⟨v103, rfl, ho0, hb⟩; refine ⟨_, rfl, ?_⟩; have HO104 := Aside0.mk (Kd.R_lower ho0 (bz HB.out)); replace BK101 := kb BK101 hb; replace HB := kB HB hb; (try clear hb); (try clear hb2); (try clear hk); (try clear hi); (try clear ho0)) | ((with_reducible refine gate_dst (N := 5) rfl ?_); refine box_event rfl (N := 5) rfl (cs := #[.slice none 0 0, .slice none 0 0, .bool false, .slice none 0 0]) (t := 26) (by go_simp <;> rfl) ?_; intro gb105 hg w5 hbox hb; replace HO104 := kR HO104 hb; have BK105 := Aside0.mk (hbox); have GW105 := Le_.mk (ge_of hg HB.out); have GE105 := Le_.mk (ge_of hg HB.out); replace HB := kB HB hb; have NB101_105 := Ne_.mk ((by rw [hg]; exact Nat.ne_of_lt (blk_lt (gx (BK101.out))) : gb101 ≠ gb105)); have NB105_101 := Ne_.mk ((by rw [hg]; exact Nat.ne_of_gt (blk_lt (gx (BK101.out))) : gb105 ≠ gb101)); replace BK101 := kb BK101 hb; clear hb hbox hg; have hnb6 := NB105_101.out; have hnc6 := NB101_105.out; have hz7 := cells_4 BK105.out))
  go_loopg [6] k (fun kq v6 w' => ∃ (x6_1 : Int) (x102002_1 : Bool) (x106000_1 : List ByteArray) (x106001_1 : List (S43)) (x106002_1 : Bool) (x106003_1 : List (S46)) (u106000 : Value) (u106001 : Value) (u106003 : Value), v6 = .int .i64 x6_1 ∧ Aside0 (spec_DeltaGet.l0 kq a0 t102 x6_1 x106000_1 x106001_1 x106002_1 x106003_1 = some (r1, r2, r3, r4, r5)) ∧ Aside0 (kq ≤ k) ∧ Aside0 (Kd.R Kd.string 9 w' w.heap.size (fun k_ => some k_ ≠ (u106000 : Value).ownBlock) v103 t102) ∧ Aside0 (Kd.R Kd.string 9 w' w.heap.size (fun k_ => some k_ ≠ (v103 : Value).ownBlock) u106000 x106000_1) ∧ Aside0 (Kd.R k43 43 w' w.heap.size (fun _ => True) u106001 x106001_1) ∧ Aside0 (Kd.R k46 46 w' w.heap.size (fun _ => True) u106003 x106003_1) ∧ Aside0 (w'.heap[gb101]? = some (.cells #[(.slice none 0 0), (.slice none 0 0), .bool x102002_1, (.slice none 0 0)] 26 (0, 0))) ∧ Aside0 (w'.heap[gb105]? = some (.cells #[u106000, u106001, .bool x106002_1, u106003] 26 (0, 0))) ∧ Aside0 (Below w.heap.size w w'))
  case atStart => exact ⟨(0), (false), (([] : List ByteArray)), (([] : List (S43))), (false), (([] : List (S46))), (.slice none 0 0), (.slice none 0 0), (.slice none 0 0), (by first | rfl | (simp; done) | (simp [*]; done)), H', ⟨Nat.le_refl _⟩, ⟨Kd.R_mono (rf1 HO104.out BK105.out (by decide)) (fun _ _ => (by simp [Value.ownBlock]))⟩, ⟨by first | exact Kd.R_nil _ _ _ _ _ | exact Kd.N_nil _ _ _ _ _ | exact Kd.V_nil _ _ _ _ _ | exact Kd.Q_nil _ _ _ _ _ | exact Kd.S_nil _ _ _ _ _⟩, ⟨by first | exact Kd.R_nil _ _ _ _ _ | exact Kd.N_nil _ _ _ _ _ | exact Kd.V_nil _ _ _ _ _ | exact Kd.Q_nil _ _ _ _ _ | exact Kd.S_nil _ _ _ _ _⟩, ⟨by first | exact Kd.R_nil _ _ _ _ _ | exact Kd.N_nil _ _ _ _ _ | exact Kd.V_nil _ _ _ _ _ | exact Kd.Q_nil _ _ _ _ _ | exact Kd.S_nil _ _ _ _ _⟩, ⟨cl BK101.out rfl⟩, ⟨cl BK105.out rfl⟩, ⟨bx HB.out⟩⟩
  case round =>
    clear H'
    try clear c1
    try clear p2
    try clear c5
    try clear c6
    try clear hz7
    obtain ⟨x6_1, x102002_1, x106000_1, x106001_1, x106002_1, x106003_1, u106000, u106001, u106003, rfl, HA, HK1, HO_4, HO_106000, HO_106001, HO_106003, BK101, BK105, HB⟩ := hrel
    cases gk with
    | zero => exact absurd HA.out (by simp [spec_DeltaGet.l0])
    | succ k1 =>
      have H := HA.out
      clear HA
      simp only [spec_DeltaGet.l0] at H
      by_cases c8 : (wrap64 (x6_1 + 1)) < (t102.length : Int)
      · rw [if_pos c8] at H
        have c8b0 := decide_eq_true c8
        clear c8
        have c9 := ite_y H
        replace H := ite_t H
        have c9b0 := decide_eq_true c9
        clear c9
        have c10 := ite_y H
        replace H := ite_t H
        have c10b0 := decide_eq_true c10
        clear c10
        replace H := Option.bind_eq_some_iff.mp H
        obtain ⟨⟨t107, t110, t113, t114, t117⟩, A110, H⟩ := H
        replace H : (if t117 = true then (spec_DeltaGet.l0 k1 a0 t102 (wrap64 (x6_1 + 1)) t107 t110 t113 t114) else (some (([] : List ByteArray), ([] : List (S43)), false, ([] : List (S46)), false))) = some (r1, r2, r3, r4, r5) := H
        have A11 := Aside0.mk A110
        clear A110
        by_cases c12 : t117 = true
        · subst c12
          rw [if_pos rfl] at H
          have H' := Aside0.mk H
          clear H
          obtain ⟨Ao13, co13, eo13⟩ := Kd.R_slice HO_4.out
          subst eo13
          obtain ⟨Ao14, co14, eo14⟩ := Kd.R_slice HO_106000.out
          subst eo14
          obtain ⟨Ao15, co15, eo15⟩ := Kd.R_slice HO_106001.out
          subst eo15
          obtain ⟨Ao16, co16, eo16⟩ := Kd.R_slice HO_106003.out
          subst eo16
          try go_wp2
          replace HO_4 := Aside0.mk (Kd.R_drew HO_4.out)
          replace HO_106000 := Aside0.mk (Kd.R_drew HO_106000.out)
          replace HO_106001 := Aside0.mk (Kd.R_drew HO_106001.out)
          replace HO_106003 := Aside0.mk (Kd.R_drew HO_106003.out)
          replace BK101 := Aside0.mk (blk_drew BK101.out)
          replace BK105 := Aside0.mk (blk_drew BK105.out)
          replace HB := Aside0.mk (below_drew1 HB.out)
          have p106 := of_decide_eq_true c9b0
          have q106 := of_decide_eq_true c10b0
          obtain ⟨ad106, e106, hx106_0⟩ := Kd.at_string (Kd.R_reads' HO_4.out).2.2 x6_1 p106 q106
          cases e106
          replace p106 := eq_true p106
          replace q106 := eq_true q106
          refine start_ (n := 12) (S := fun w' => w'.cell? ⟨gb105, 0, none⟩ = some (.slice Ao14 x106000_1.length co14) ∧ w'.cell? ⟨gb105, 1, none⟩ = some (.slice Ao15 x106001_1.length co15) ∧ w'.cell? ⟨gb105, 2, none⟩ = some (.bool x106002_1) ∧ w'.cell? ⟨gb105, 3, none⟩ = some (.slice Ao16 x106003_1.length co16) ∧ w'.cell? (ad106.add (x6_1).toNat) = some (.string (rdOf ByteArray.empty t102 x6_1))) (ds := []) _ (by kernel_rfl) rfl rfl ⟨(blk_cell BK105.out 0).trans rfl, (blk_cell BK105.out 1).trans rfl, (blk_cell BK105.out 2).trans rfl, (blk_cell BK105.out 3).trans rfl, hx106_0⟩ (fun hHeld => ?_); refine with_tabW spec_DeltaGet.tab6 spec_DeltaGet.bits6 (fun HT_ HW_ => ?_)
          generalize wr.drew = w17 at HO_4 HO_106000 HO_106001 HO_106003 BK101 BK105 HB hx106_0 hHeld ⊢
          refine ord_ [.p 1 21, .p 2 22, .p 3 23, .t 0 20, .t 4 24] ?_
          repeat (first | (refine pu_ (v := ?_) (a' := ?_) HT_ rfl rfl (by kernel_rfl) (fun _ _ _ h => h) (by rfl) ?_ ?_ ?_; rotate_left 2; (intro w'; go_simp; with_reducible rfl); (simp only [Act.put, List.setIfInBounds_toArray, List.set_cons_zero, List.set_cons_succ, i64_w, i32_w]; rfl)) | (refine ta_ (v := ?_) (a' := ?_) HT_ HW_ rfl rfl (by kernel_rfl) (fun _ _ _ h => h) (by rfl) hHeld ?_ ?_ ?_; rotate_left 2; (rintro w' ⟨s0, s1, s2, s3, s4⟩; go_simp; with_reducible rfl); (simp only [Act.put, List.setIfInBounds_toArray, List.set_cons_zero, List.set_cons_succ, i64_w, i32_w]; rfl)))
          refine ord0 ?_
          refine join_ (σ := Value × Value × Value × Nat) 2 #[true, true, true, true, true, true, true, true, true, true, false, false] (fun s_ => [(25, .tuple #[.agg #[s_.1, s_.2.1, .bool t113, s_.2.2.1], .bool true]), (7, .pointer (some ⟨s_.2.2.2, 0, none⟩)), (19, .tuple #[.agg #[s_.1, s_.2.1, .bool t113, s_.2.2.1], .bool true]), (26, .agg #[s_.1, s_.2.1, .bool t113, s_.2.2.1]), (27, .bool true)]) (fun s_ w' => (w'.cell? ⟨gb105, 0, none⟩ = some (.slice Ao14 x106000_1.length co14) ∧ w'.cell? ⟨gb105, 1, none⟩ = some (.slice Ao15 x106001_1.length co15) ∧ w'.cell? ⟨gb105, 2, none⟩ = some (.bool x106002_1) ∧ w'.cell? ⟨gb105, 3, none⟩ = some (.slice Ao16 x106003_1.length co16) ∧ w'.cell? (ad106.add (x6_1).toNat) = some (.string (rdOf ByteArray.empty t102 x6_1))) ∧ (Kd.R Kd.string 9 w' w.heap.size (fun k_ => some k_ ≠ (.slice (some ad106) t102.length co13 : Value).ownBlock) s_.1 t107) ∧ (Kd.R k43 43 w' w.heap.size (fun _ => True) s_.2.1 t110) ∧ (Kd.R k46 46 w' w.heap.size (fun _ => True) s_.2.2.1 t114) ∧ (Kd.R Kd.string 9 w' w.heap.size (fun k_ => some k_ ≠ (s_.1 : Value).ownBlock) (.slice (some ad106) t102.length co13) t102) ∧ (w'.heap[gb101]? = some (.cells #[.slice none 0 0, .slice none 0 0, .bool x102002_1, .slice none 0 0] 26 (0, 0))) ∧ (w'.heap[gb105]? = some (.cells #[.slice Ao14 x106000_1.length co14, .slice Ao15 x106001_1.length co15, .bool x106002_1, .slice Ao16 x106003_1.length co16] 26 (0, 0))) ∧ (w'.heap[s_.2.2.2]? = some (.cells #[.slice none 0 0, .slice none 0 0, .bool false, .slice none 0 0] 26 (0, 0))) ∧ (w.heap.size ≤ s_.2.2.2) ∧ (w.heap.size ≤ s_.2.2.2) ∧ (gb101 ≠ s_.2.2.2) ∧ (s_.2.2.2 ≠ gb101) ∧ (gb105 ≠ s_.2.2.2) ∧ (s_.2.2.2 ≠ gb105) ∧ (Below w.heap.size w w')) ?_ ?_
          rotate_left
          · intro hCont
            refine two_ (i := 5) (j := 9) (Ni := some 25) (Nj := some 7) #[true, true, true, true, true, true, false, false, false, false, false, false] #[true, true, true, true, true, false, false, false, false, true, false, false] rfl rfl rfl rfl (two_of HT_.out (by kernel_rfl)) (by decide) (by decide) (fun K hK => ?_) (fun K hK => ?_)
            · skip
              refine goM gf17 #[.agg #[.slice Ao14 x106000_1.length co14, .slice Ao15 x106001_1.length co15, .bool x106002_1, .slice Ao16 x106003_1.length co16], .string (rdOf ByteArray.empty t102 x6_1)] (by rfl) rfl rfl rfl ?_
              with_reducible refine (spec_l5Line.calls k1 (fun k_ => some k_ = (.slice Ao14 x106000_1.length co14 : Value).ownBlock) (.slice Ao14 x106000_1.length co14) x106000_1 (fun k_ => some k_ = (.slice Ao15 x106001_1.length co15 : Value).ownBlock) (.slice Ao15 x106001_1.length co15) x106001_1 x106002_1 (fun k_ => some k_ = (.slice Ao16 x106003_1.length co16 : Value).ownBlock) (.slice Ao16 x106003_1.length co16) x106003_1 (rdOf ByteArray.empty t102 x6_1) t107 t110 t113 t114 true w _ ?side1 ?side2 ?side3 ?side4 A11.out).mono ?_
              (case side1 => exact bx HB.out)
              (case side2 => exact Kd.R_tight rfl HO_106000.out)
              (case side3 => exact Kd.R_tight rfl HO_106001.out)
              (case side4 => exact Kd.R_tight rfl HO_106003.out)
              rintro e w18 ⟨v108, v111, v115, rfl, ho0, ho1, ho2, hb, hkp⟩
              have HS4_ := cell_kept (hHeld.2.2.2.2) hkp (by first | (rw [add_block]; exact (fun hs_ => Or.elim hs_ (fun e_ => ((((Kd.R_apart' (Kd.R_apart' HO_4.out (Kd.R_typed HO_106001.out) (by decide)) (Kd.R_typed HO_106003.out) (by decide))).1 _ rfl).1.1) e_) (fun e_ => Or.elim e_ (fun e_ => ((((Kd.R_apart' (Kd.R_apart' HO_4.out (Kd.R_typed HO_106001.out) (by decide)) (Kd.R_typed HO_106003.out) (by decide))).1 _ rfl).1.2) e_) (fun e_ => ((((Kd.R_apart' (Kd.R_apart' HO_4.out (Kd.R_typed HO_106001.out) (by decide)) (Kd.R_typed HO_106003.out) (by decide))).1 _ rfl).2) e_)))) | (show ¬ _; simp only [add_block]; exact (fun hs_ => Or.elim hs_ (fun e_ => ((((Kd.R_apart' (Kd.R_apart' HO_4.out (Kd.R_typed HO_106001.out) (by decide)) (Kd.R_typed HO_106003.out) (by decide))).1 _ rfl).1.1) e_) (fun e_ => Or.elim e_ (fun e_ => ((((Kd.R_apart' (Kd.R_apart' HO_4.out (Kd.R_typed HO_106001.out) (by decide)) (Kd.R_typed HO_106003.out) (by decide))).1 _ rfl).1.2) e_) (fun e_ => ((((Kd.R_apart' (Kd.R_apart' HO_4.out (Kd.R_typed HO_106001.out) (by decide)) (Kd.R_typed HO_106003.out) (by decide))).1 _ rfl).2) e_)))) | exact (fun hs_ => Or.elim hs_ (fun e_ => ((((Kd.R_apart' (Kd.R_apart' HO_4.out (Kd.R_typed HO_106001.out) (by decide)) (Kd.R_typed HO_106003.out) (by decide))).1 _ rfl).1.1) e_) (fun e_ => Or.elim e_ (fun e_ => ((((Kd.R_apart' (Kd.R_apart' HO_4.out (Kd.R_typed HO_106001.out) (by decide)) (Kd.R_typed HO_106003.out) (by decide))).1 _ rfl).1.2) e_) (fun e_ => ((((Kd.R_apart' (Kd.R_apart' HO_4.out (Kd.R_typed HO_106001.out) (by decide)) (Kd.R_typed HO_106003.out) (by decide))).1 _ rfl).2) e_))))
              refine ⟨_, rfl, ?_⟩
              replace BK101 := Aside0.mk (blk_kept (gx (BK101.out)) hkp (fun hs_ => Or.elim hs_ (fun e_ => (fun e_ => (Kd.R_ne HO_106000.out BK101.out (by decide)) e_) e_) (fun e_ => Or.elim e_ (fun e_ => (fun e_ => (Kd.R_ne HO_106001.out BK101.out (by decide)) e_) e_) (fun e_ => (fun e_ => (Kd.R_ne HO_106003.out BK101.out (by decide)) e_) e_))))
              replace BK105 := Aside0.mk (blk_kept (gx (BK105.out)) hkp (fun hs_ => Or.elim hs_ (fun e_ => (fun e_ => (Kd.R_ne HO_106000.out BK105.out (by decide)) e_) e_) (fun e_ => Or.elim e_ (fun e_ => (fun e_ => (Kd.R_ne HO_106001.out BK105.out (by decide)) e_) e_) (fun e_ => (fun e_ => (Kd.R_ne HO_106003.out BK105.out (by decide)) e_) e_))))
              have HO109 := Aside0.mk (Kd.R_mono (ok' := fun k_ => some k_ ≠ (.slice (some ad106) t102.length co13 : Value).ownBlock) ho0 (fun k_ hk_ => Or.elim hk_ (fun hs_ => Or.elim hs_ (fun hs_ => fun e_ => ((((Kd.R_apart' (Kd.R_apart' HO_4.out (Kd.R_typed HO_106001.out) (by decide)) (Kd.R_typed HO_106003.out) (by decide))).1 k_ e_.symm).1.1) hs_) (fun hs_ => Or.elim hs_ (fun hs_ => fun e_ => ((((Kd.R_apart' (Kd.R_apart' HO_4.out (Kd.R_typed HO_106001.out) (by decide)) (Kd.R_typed HO_106003.out) (by decide))).1 k_ e_.symm).1.2) hs_) (fun hs_ => fun e_ => ((((Kd.R_apart' (Kd.R_apart' HO_4.out (Kd.R_typed HO_106001.out) (by decide)) (Kd.R_typed HO_106003.out) (by decide))).1 k_ e_.symm).2) hs_))) (fun hn_ => (Kd.fresh' (Kd.R_lt (rx HO_4.out)) k_ hn_))))
              replace HO_4 := Aside0.mk (Kd.R_mono (ok' := fun k_ => some k_ ≠ (v108 : Value).ownBlock) (Kd.R_keptB ((Kd.R_apart' (Kd.R_apart' HO_4.out (Kd.R_typed HO_106001.out) (by decide)) (Kd.R_typed HO_106003.out) (by decide))) hkp (fun k_ hk_ hs_ => Or.elim hs_ (fun e_ => (hk_.1.1) e_) (fun e_ => Or.elim e_ (fun e_ => (hk_.1.2) e_) (fun e_ => (hk_.2) e_)))) (fun k_ hk_ => fun e_ => Or.elim (ho0.1 k_ e_.symm) (fun hs_ => hk_.2.1 hs_) (fun hn_ => Nat.not_le.2 hk_.2.2 hn_)))
              have HO112 := Aside0.mk (Kd.R_mono (ok' := fun k_ => True) ho1 (fun k_ hk_ => trivial))
              have HO116 := Aside0.mk (Kd.R_mono (ok' := fun k_ => True) ho2 (fun k_ hk_ => trivial))
              replace HB := Aside0.mk (hb)
              clear HO_106000
              clear HO_106001
              clear HO_106003
              (try clear hb)
              (try clear hkp)
              (try clear ho0)
              (try clear ho1)
              (try clear ho2)
              refine hK.out _ _ ⟨(blk_cell BK105.out 0).trans rfl, (blk_cell BK105.out 1).trans rfl, (blk_cell BK105.out 2).trans rfl, (blk_cell BK105.out 3).trans rfl, HS4_⟩ (fun hHeld => ?_)
              clear hK K
              refine norm_ (a' := ?_) ?_ ?_
              rotate_left
              · show Act.put _ (some 25) _ = _
                simp only [Act.put, List.setIfInBounds_toArray, List.set_cons_zero, List.set_cons_succ, i64_w, i32_w]
                rfl
              refine ord_ [.p 6 19, .p 7 26, .p 8 27] ?_
              repeat (refine pu_ (v := ?_) (a' := ?_) HT_ rfl rfl (by kernel_rfl) (fun _ _ _ h => h) (by rfl) ?_ ?_ ?_; rotate_left 2; (intro w'; go_simp; with_reducible rfl); (simp only [Act.put, List.setIfInBounds_toArray, List.set_cons_zero, List.set_cons_succ, i64_w, i32_w]; rfl))
              refine ord0 ?_
              refine on_ (i := 9) (N := some 7) HT_ rfl rfl (by kernel_rfl) (by decide) (fun K hK => ?_)
              refine box_step ?hg (N := 7) ?hd (cs := #[.slice none 0 0, .slice none 0 0, .bool false, .slice none 0 0]) (t := 26) ?hr ?_; (case hd => rfl); (case hg => rfl); (case hr => first | (go_simp; done) | (go_simp; rfl))
              intro gb118 hg w19 hbox hb
              have HS4_ := (hb.cell (World.block_lt_of_cell? _ _ (hHeld.2.2.2.2))).trans (hHeld.2.2.2.2)
              replace HO_4 := kR HO_4 hb
              replace HO109 := kR HO109 hb
              replace HO112 := kR HO112 hb
              replace HO116 := kR HO116 hb
              have BK118 := Aside0.mk (hbox)
              have GW118 := Le_.mk (ge_of hg HB.out)
              have GE118 := Le_.mk (ge_of hg HB.out)
              replace HB := kB HB hb
              have NB101_118 := Ne_.mk ((by rw [hg]; exact Nat.ne_of_lt (blk_lt (gx (BK101.out))) : gb101 ≠ gb118))
              have NB118_101 := Ne_.mk ((by rw [hg]; exact Nat.ne_of_gt (blk_lt (gx (BK101.out))) : gb118 ≠ gb101))
              replace BK101 := kb BK101 hb
              have NB105_118 := Ne_.mk ((by rw [hg]; exact Nat.ne_of_lt (blk_lt (gx (BK105.out))) : gb105 ≠ gb118))
              have NB118_105 := Ne_.mk ((by rw [hg]; exact Nat.ne_of_gt (blk_lt (gx (BK105.out))) : gb118 ≠ gb105))
              replace BK105 := kb BK105 hb
              clear hb hbox hg
              refine hK.out _ _ ⟨(blk_cell BK105.out 0).trans rfl, (blk_cell BK105.out 1).trans rfl, (blk_cell BK105.out 2).trans rfl, (blk_cell BK105.out 3).trans rfl, HS4_⟩ (fun hHeld => ?_)
              clear hK K
              refine norm_ (a' := ?_) ?_ ?_
              rotate_left
              · show Act.put _ (some 7) _ = _
                simp only [Act.put, List.setIfInBounds_toArray, List.set_cons_zero, List.set_cons_succ, i64_w, i32_w]
                rfl
              exact norm_ (by simp only [putAll, Act.put, List.setIfInBounds_toArray, List.set_cons_zero, List.set_cons_succ]) (hCont (v108, v111, v115, gb118) _ ⟨hHeld, (rx HO109.out), (rx HO112.out), (rx HO116.out), (rx HO_4.out), (gx (BK101.out)), (gx (BK105.out)), (gx (BK118.out)), GW118.out, GE118.out, NB101_118.out, NB118_101.out, NB105_118.out, NB118_105.out, (bx HB.out)⟩)
            · skip
              refine box_step ?hg (N := 7) ?hd (cs := #[.slice none 0 0, .slice none 0 0, .bool false, .slice none 0 0]) (t := 26) ?hr ?_; (case hd => rfl); (case hg => rfl); (case hr => first | (go_simp; done) | (go_simp; rfl))
              intro gb118 hg w18 hbox hb
              have HS4_ := (hb.cell (World.block_lt_of_cell? _ _ (hHeld.2.2.2.2))).trans (hHeld.2.2.2.2)
              replace HO_4 := kR HO_4 hb
              replace HO_106000 := kR HO_106000 hb
              replace HO_106001 := kR HO_106001 hb
              replace HO_106003 := kR HO_106003 hb
              have BK118 := Aside0.mk (hbox)
              have GW118 := Le_.mk (ge_of hg HB.out)
              have GE118 := Le_.mk (ge_of hg HB.out)
              replace HB := kB HB hb
              have NB101_118 := Ne_.mk ((by rw [hg]; exact Nat.ne_of_lt (blk_lt (gx (BK101.out))) : gb101 ≠ gb118))
              have NB118_101 := Ne_.mk ((by rw [hg]; exact Nat.ne_of_gt (blk_lt (gx (BK101.out))) : gb118 ≠ gb101))
              replace BK101 := kb BK101 hb
              have NB105_118 := Ne_.mk ((by rw [hg]; exact Nat.ne_of_lt (blk_lt (gx (BK105.out))) : gb105 ≠ gb118))
              have NB118_105 := Ne_.mk ((by rw [hg]; exact Nat.ne_of_gt (blk_lt (gx (BK105.out))) : gb118 ≠ gb105))
              replace BK105 := kb BK105 hb
              clear hb hbox hg
              refine hK.out _ _ ⟨(blk_cell BK105.out 0).trans rfl, (blk_cell BK105.out 1).trans rfl, (blk_cell BK105.out 2).trans rfl, (blk_cell BK105.out 3).trans rfl, HS4_⟩ (fun hHeld => ?_)
              clear hK K
              refine norm_ (a' := ?_) ?_ ?_
              rotate_left
              · show Act.put _ (some 7) _ = _
                simp only [Act.put, List.setIfInBounds_toArray, List.set_cons_zero, List.set_cons_succ, i64_w, i32_w]
                rfl
              refine on_ (i := 5) (N := some 25) HT_ rfl rfl (by kernel_rfl) (by decide) (fun K hK => ?_)
              refine goM gf17 #[.agg #[.slice Ao14 x106000_1.length co14, .slice Ao15 x106001_1.length co15, .bool x106002_1, .slice Ao16 x106003_1.length co16], .string (rdOf ByteArray.empty t102 x6_1)] (by rfl) rfl rfl rfl ?_
              with_reducible refine (spec_l5Line.calls k1 (fun k_ => some k_ = (.slice Ao14 x106000_1.length co14 : Value).ownBlock) (.slice Ao14 x106000_1.length co14) x106000_1 (fun k_ => some k_ = (.slice Ao15 x106001_1.length co15 : Value).ownBlock) (.slice Ao15 x106001_1.length co15) x106001_1 x106002_1 (fun k_ => some k_ = (.slice Ao16 x106003_1.length co16 : Value).ownBlock) (.slice Ao16 x106003_1.length co16) x106003_1 (rdOf ByteArray.empty t102 x6_1) t107 t110 t113 t114 true w _ ?side1 ?side2 ?side3 ?side4 A11.out).mono ?_
              (case side1 => exact bx HB.out)
              (case side2 => exact Kd.R_tight rfl HO_106000.out)
              (case side3 => exact Kd.R_tight rfl HO_106001.out)
              (case side4 => exact Kd.R_tight rfl HO_106003.out)
              rintro e w19 ⟨v108, v111, v115, rfl, ho0, ho1, ho2, hb, hkp⟩
              have HS4_ := cell_kept (hHeld.2.2.2.2) hkp (by first | (rw [add_block]; exact (fun hs_ => Or.elim hs_ (fun e_ => ((((Kd.R_apart' (Kd.R_apart' HO_4.out (Kd.R_typed HO_106001.out) (by decide)) (Kd.R_typed HO_106003.out) (by decide))).1 _ rfl).1.1) e_) (fun e_ => Or.elim e_ (fun e_ => ((((Kd.R_apart' (Kd.R_apart' HO_4.out (Kd.R_typed HO_106001.out) (by decide)) (Kd.R_typed HO_106003.out) (by decide))).1 _ rfl).1.2) e_) (fun e_ => ((((Kd.R_apart' (Kd.R_apart' HO_4.out (Kd.R_typed HO_106001.out) (by decide)) (Kd.R_typed HO_106003.out) (by decide))).1 _ rfl).2) e_)))) | (show ¬ _; simp only [add_block]; exact (fun hs_ => Or.elim hs_ (fun e_ => ((((Kd.R_apart' (Kd.R_apart' HO_4.out (Kd.R_typed HO_106001.out) (by decide)) (Kd.R_typed HO_106003.out) (by decide))).1 _ rfl).1.1) e_) (fun e_ => Or.elim e_ (fun e_ => ((((Kd.R_apart' (Kd.R_apart' HO_4.out (Kd.R_typed HO_106001.out) (by decide)) (Kd.R_typed HO_106003.out) (by decide))).1 _ rfl).1.2) e_) (fun e_ => ((((Kd.R_apart' (Kd.R_apart' HO_4.out (Kd.R_typed HO_106001.out) (by decide)) (Kd.R_typed HO_106003.out) (by decide))).1 _ rfl).2) e_)))) | exact (fun hs_ => Or.elim hs_ (fun e_ => ((((Kd.R_apart' (Kd.R_apart' HO_4.out (Kd.R_typed HO_106001.out) (by decide)) (Kd.R_typed HO_106003.out) (by decide))).1 _ rfl).1.1) e_) (fun e_ => Or.elim e_ (fun e_ => ((((Kd.R_apart' (Kd.R_apart' HO_4.out (Kd.R_typed HO_106001.out) (by decide)) (Kd.R_typed HO_106003.out) (by decide))).1 _ rfl).1.2) e_) (fun e_ => ((((Kd.R_apart' (Kd.R_apart' HO_4.out (Kd.R_typed HO_106001.out) (by decide)) (Kd.R_typed HO_106003.out) (by decide))).1 _ rfl).2) e_))))
              refine ⟨_, rfl, ?_⟩
              replace BK101 := Aside0.mk (blk_kept (gx (BK101.out)) hkp (fun hs_ => Or.elim hs_ (fun e_ => (fun e_ => (Kd.R_ne HO_106000.out BK101.out (by decide)) e_) e_) (fun e_ => Or.elim e_ (fun e_ => (fun e_ => (Kd.R_ne HO_106001.out BK101.out (by decide)) e_) e_) (fun e_ => (fun e_ => (Kd.R_ne HO_106003.out BK101.out (by decide)) e_) e_))))
              replace BK105 := Aside0.mk (blk_kept (gx (BK105.out)) hkp (fun hs_ => Or.elim hs_ (fun e_ => (fun e_ => (Kd.R_ne HO_106000.out BK105.out (by decide)) e_) e_) (fun e_ => Or.elim e_ (fun e_ => (fun e_ => (Kd.R_ne HO_106001.out BK105.out (by decide)) e_) e_) (fun e_ => (fun e_ => (Kd.R_ne HO_106003.out BK105.out (by decide)) e_) e_))))
              replace BK118 := Aside0.mk (blk_kept (gx (BK118.out)) hkp (fun hs_ => Or.elim hs_ (fun e_ => (fun e_ => (Kd.R_ne HO_106000.out BK118.out (by decide)) e_) e_) (fun e_ => Or.elim e_ (fun e_ => (fun e_ => (Kd.R_ne HO_106001.out BK118.out (by decide)) e_) e_) (fun e_ => (fun e_ => (Kd.R_ne HO_106003.out BK118.out (by decide)) e_) e_))))
              have HO109 := Aside0.mk (Kd.R_mono (ok' := fun k_ => some k_ ≠ (.slice (some ad106) t102.length co13 : Value).ownBlock) ho0 (fun k_ hk_ => Or.elim hk_ (fun hs_ => Or.elim hs_ (fun hs_ => fun e_ => ((((Kd.R_apart' (Kd.R_apart' HO_4.out (Kd.R_typed HO_106001.out) (by decide)) (Kd.R_typed HO_106003.out) (by decide))).1 k_ e_.symm).1.1) hs_) (fun hs_ => Or.elim hs_ (fun hs_ => fun e_ => ((((Kd.R_apart' (Kd.R_apart' HO_4.out (Kd.R_typed HO_106001.out) (by decide)) (Kd.R_typed HO_106003.out) (by decide))).1 k_ e_.symm).1.2) hs_) (fun hs_ => fun e_ => ((((Kd.R_apart' (Kd.R_apart' HO_4.out (Kd.R_typed HO_106001.out) (by decide)) (Kd.R_typed HO_106003.out) (by decide))).1 k_ e_.symm).2) hs_))) (fun hn_ => (Kd.fresh' (Kd.R_lt (rx HO_4.out)) k_ hn_))))
              replace HO_4 := Aside0.mk (Kd.R_mono (ok' := fun k_ => some k_ ≠ (v108 : Value).ownBlock) (Kd.R_keptB ((Kd.R_apart' (Kd.R_apart' HO_4.out (Kd.R_typed HO_106001.out) (by decide)) (Kd.R_typed HO_106003.out) (by decide))) hkp (fun k_ hk_ hs_ => Or.elim hs_ (fun e_ => (hk_.1.1) e_) (fun e_ => Or.elim e_ (fun e_ => (hk_.1.2) e_) (fun e_ => (hk_.2) e_)))) (fun k_ hk_ => fun e_ => Or.elim (ho0.1 k_ e_.symm) (fun hs_ => hk_.2.1 hs_) (fun hn_ => Nat.not_le.2 hk_.2.2 hn_)))
              have HO112 := Aside0.mk (Kd.R_mono (ok' := fun k_ => True) ho1 (fun k_ hk_ => trivial))
              have HO116 := Aside0.mk (Kd.R_mono (ok' := fun k_ => True) ho2 (fun k_ hk_ => trivial))
              replace HB := Aside0.mk (hb)
              clear HO_106000
              clear HO_106001
              clear HO_106003
              (try clear hb)
              (try clear hkp)
              (try clear ho0)
              (try clear ho1)
              (try clear ho2)
              refine hK.out _ _ ⟨(blk_cell BK105.out 0).trans rfl, (blk_cell BK105.out 1).trans rfl, (blk_cell BK105.out 2).trans rfl, (blk_cell BK105.out 3).trans rfl, HS4_⟩ (fun hHeld => ?_)
              clear hK K
              refine norm_ (a' := ?_) ?_ ?_
              rotate_left
              · show Act.put _ (some 25) _ = _
                simp only [Act.put, List.setIfInBounds_toArray, List.set_cons_zero, List.set_cons_succ, i64_w, i32_w]
                rfl
              refine ord_ [.p 6 19, .p 7 26, .p 8 27] ?_
              repeat (refine pu_ (v := ?_) (a' := ?_) HT_ rfl rfl (by kernel_rfl) (fun _ _ _ h => h) (by rfl) ?_ ?_ ?_; rotate_left 2; (intro w'; go_simp; with_reducible rfl); (simp only [Act.put, List.setIfInBounds_toArray, List.set_cons_zero, List.set_cons_succ, i64_w, i32_w]; rfl))
              refine ord0 ?_
              exact norm_ (by simp only [putAll, Act.put, List.setIfInBounds_toArray, List.set_cons_zero, List.set_cons_succ]) (hCont (v108, v111, v115, gb118) _ ⟨hHeld, (rx HO109.out), (rx HO112.out), (rx HO116.out), (rx HO_4.out), (gx (BK101.out)), (gx (BK105.out)), (gx (BK118.out)), GW118.out, GE118.out, NB101_118.out, NB118_101.out, NB105_118.out, NB118_105.out, (bx HB.out)⟩)
          rintro ⟨v108, v111, v115, gb118⟩ w20 ⟨hS_, h0_, h1_, h2_, h3_, h4_, h5_, h6_, h7_, h8_, h9_, h10_, h11_, h12_, h13_⟩
          have n0_ : Aside0 (Kd.R Kd.string 9 w20 w.heap.size (fun k_ => some k_ ≠ (.slice (some ad106) t102.length co13 : Value).ownBlock) v108 t107) := ⟨h0_⟩
          have n1_ : Aside0 (Kd.R k43 43 w20 w.heap.size (fun _ => True) v111 t110) := ⟨h1_⟩
          have n2_ : Aside0 (Kd.R k46 46 w20 w.heap.size (fun _ => True) v115 t114) := ⟨h2_⟩
          have n3_ : Aside0 (Kd.R Kd.string 9 w20 w.heap.size (fun k_ => some k_ ≠ (v108 : Value).ownBlock) (.slice (some ad106) t102.length co13) t102) := ⟨h3_⟩
          have n4_ : Aside0 (w20.heap[gb101]? = some (.cells #[.slice none 0 0, .slice none 0 0, .bool x102002_1, .slice none 0 0] 26 (0, 0))) := ⟨h4_⟩
          have n5_ : Aside0 (w20.heap[gb105]? = some (.cells #[.slice Ao14 x106000_1.length co14, .slice Ao15 x106001_1.length co15, .bool x106002_1, .slice Ao16 x106003_1.length co16] 26 (0, 0))) := ⟨h5_⟩
          have n6_ : Aside0 (w20.heap[gb118]? = some (.cells #[.slice none 0 0, .slice none 0 0, .bool false, .slice none 0 0] 26 (0, 0))) := ⟨h6_⟩
          have n7_ : Le_ w.heap.size gb118 := ⟨h7_⟩
          have n8_ : Le_ w.heap.size gb118 := ⟨h8_⟩
          have n9_ : Ne_ gb101 gb118 := ⟨h9_⟩
          have n10_ : Ne_ gb118 gb101 := ⟨h10_⟩
          have n11_ : Ne_ gb105 gb118 := ⟨h11_⟩
          have n12_ : Ne_ gb118 gb105 := ⟨h12_⟩
          have n13_ : Aside0 (Below w.heap.size w w20) := ⟨h13_⟩
          clear HO_4
          clear HO_106000
          clear HO_106001
          clear HO_106003
          clear BK101
          clear BK105
          clear HB
          clear h0_ h1_ h2_ h3_ h4_ h5_ h6_ h7_ h8_ h9_ h10_ h11_ h12_ h13_
          have HO109 := n0_
          have HO112 := n1_
          have HO116 := n2_
          have HO_4 := n3_
          have BK101 := n4_
          have BK105 := n5_
          have BK118 := n6_
          have GW118 := n7_
          have GE118 := n8_
          have NB101_118 := n9_
          have NB118_101 := n10_
          have NB105_118 := n11_
          have NB118_105 := n12_
          have HB := n13_
          clear n0_ n1_ n2_ n3_ n4_ n5_ n6_ n7_ n8_ n9_ n10_ n11_ n12_ n13_
          have hHeld : w20.cell? ⟨gb105, 0, none⟩ = some (.slice Ao14 x106000_1.length co14) ∧ w20.cell? ⟨gb105, 1, none⟩ = some (.slice Ao15 x106001_1.length co15) ∧ w20.cell? ⟨gb105, 2, none⟩ = some (.bool x106002_1) ∧ w20.cell? ⟨gb105, 3, none⟩ = some (.slice Ao16 x106003_1.length co16) ∧ w20.cell? (ad106.add (x6_1).toNat) = some (.string (rdOf ByteArray.empty t102 x6_1)) := hS_
          obtain ⟨Ao21, co21, eo21⟩ := Kd.R_slice HO109.out
          (first | subst eo21 | (injection eo21 with f1_ f2_ f3_; have f4_ := f1_.symm; have f5_ := f3_.symm; clear f1_ f2_ f3_; subst f4_; subst f5_))
          obtain ⟨Ao23, co23, eo23⟩ := Kd.R_slice HO112.out
          (first | subst eo23 | (injection eo23 with f1_ f2_ f3_; have f4_ := f1_.symm; have f5_ := f3_.symm; clear f1_ f2_ f3_; subst f4_; subst f5_))
          obtain ⟨Ao26, co26, eo26⟩ := Kd.R_slice HO116.out
          (first | subst eo26 | (injection eo26 with f1_ f2_ f3_; have f4_ := f1_.symm; have f5_ := f3_.symm; clear f1_ f2_ f3_; subst f4_; subst f5_))
          refine norm_ (a' := ?_) ?_ ?_
          rotate_left
          · simp only [putAll, Act.put, List.setIfInBounds_toArray, List.set_cons_zero, List.set_cons_succ]
            rfl
          refine on_ (i := 10) (N := none) HT_ rfl rfl (by kernel_rfl) (by decide) (fun K hK => ?_)
          have hs22 : w20.cell? ⟨gb118, 0, none⟩ = some (.slice none 0 0) := (blk_cell BK118.out 0).trans rfl
          have hfs22 := blk_frozen BK118.out 0
          have hns22_0 := NB101_118.out
          have hns22_1 := NB105_118.out
          have hms22_0 := NB118_101.out
          have hms22_1 := NB118_105.out
          have hs24 : w20.cell? ⟨gb118, 1, none⟩ = some (.slice none 0 0) := (blk_cell BK118.out 1).trans rfl
          have hfs24 := blk_frozen BK118.out 1
          have hns24_0 := NB101_118.out
          have hns24_1 := NB105_118.out
          have hms24_0 := NB118_101.out
          have hms24_1 := NB118_105.out
          have hs25 : w20.cell? ⟨gb118, 2, none⟩ = some (.bool false) := (blk_cell BK118.out 2).trans rfl
          have hfs25 := blk_frozen BK118.out 2
          have hns25_0 := NB101_118.out
          have hns25_1 := NB105_118.out
          have hms25_0 := NB118_101.out
          have hms25_1 := NB118_105.out
          have hs27 : w20.cell? ⟨gb118, 3, none⟩ = some (.slice none 0 0) := (blk_cell BK118.out 3).trans rfl
          have hfs27 := blk_frozen BK118.out 3
          have hns27_0 := NB101_118.out
          have hns27_1 := NB105_118.out
          have hms27_0 := NB118_101.out
          have hms27_1 := NB118_105.out
          refine skip_ (w1 := ?_) (by rfl) rfl ?_ ?_
          rotate_left
          · go_simp
            rfl
          refine hK.out _ _ ⟨((cell_far (p := ⟨gb118, _, none⟩) NB105_118.out _).trans (((cell_far (p := ⟨gb118, _, none⟩) NB105_118.out _).trans (((cell_far (p := ⟨gb118, _, none⟩) NB105_118.out _).trans (((cell_far (p := ⟨gb118, _, none⟩) NB105_118.out _).trans (hHeld.1)))))))), ((cell_far (p := ⟨gb118, _, none⟩) NB105_118.out _).trans (((cell_far (p := ⟨gb118, _, none⟩) NB105_118.out _).trans (((cell_far (p := ⟨gb118, _, none⟩) NB105_118.out _).trans (((cell_far (p := ⟨gb118, _, none⟩) NB105_118.out _).trans (hHeld.2.1)))))))), ((cell_far (p := ⟨gb118, _, none⟩) NB105_118.out _).trans (((cell_far (p := ⟨gb118, _, none⟩) NB105_118.out _).trans (((cell_far (p := ⟨gb118, _, none⟩) NB105_118.out _).trans (((cell_far (p := ⟨gb118, _, none⟩) NB105_118.out _).trans (hHeld.2.2.1)))))))), ((cell_far (p := ⟨gb118, _, none⟩) NB105_118.out _).trans (((cell_far (p := ⟨gb118, _, none⟩) NB105_118.out _).trans (((cell_far (p := ⟨gb118, _, none⟩) NB105_118.out _).trans (((cell_far (p := ⟨gb118, _, none⟩) NB105_118.out _).trans (hHeld.2.2.2.1)))))))), ((cell_far (p := ⟨gb118, _, none⟩) (by first | exact Kd.own_blk (Kd.R_ne HO_4.out BK118.out (by decide)) | (rw [add_block]; exact Kd.own_blk (Kd.R_ne HO_4.out BK118.out (by decide))) | (show (Addr.add _ _).block ≠ _; rw [add_block]; exact Kd.own_blk (Kd.R_ne HO_4.out BK118.out (by decide))) | (dsimp only; exact Kd.own_blk (Kd.R_ne HO_4.out BK118.out (by decide)))) _).trans (((cell_far (p := ⟨gb118, _, none⟩) (by first | exact Kd.own_blk (Kd.R_ne HO_4.out BK118.out (by decide)) | (rw [add_block]; exact Kd.own_blk (Kd.R_ne HO_4.out BK118.out (by decide))) | (show (Addr.add _ _).block ≠ _; rw [add_block]; exact Kd.own_blk (Kd.R_ne HO_4.out BK118.out (by decide))) | (dsimp only; exact Kd.own_blk (Kd.R_ne HO_4.out BK118.out (by decide)))) _).trans (((cell_far (p := ⟨gb118, _, none⟩) (by first | exact Kd.own_blk (Kd.R_ne HO_4.out BK118.out (by decide)) | (rw [add_block]; exact Kd.own_blk (Kd.R_ne HO_4.out BK118.out (by decide))) | (show (Addr.add _ _).block ≠ _; rw [add_block]; exact Kd.own_blk (Kd.R_ne HO_4.out BK118.out (by decide))) | (dsimp only; exact Kd.own_blk (Kd.R_ne HO_4.out BK118.out (by decide)))) _).trans (((cell_far (p := ⟨gb118, _, none⟩) (by first | exact Kd.own_blk (Kd.R_ne HO_4.out BK118.out (by decide)) | (rw [add_block]; exact Kd.own_blk (Kd.R_ne HO_4.out BK118.out (by decide))) | (show (Addr.add _ _).block ≠ _; rw [add_block]; exact Kd.own_blk (Kd.R_ne HO_4.out BK118.out (by decide))) | (dsimp only; exact Kd.own_blk (Kd.R_ne HO_4.out BK118.out (by decide)))) _).trans (hHeld.2.2.2.2))))))))⟩ (fun hHeld => ?_)
          clear hK K
          refine ord_ [.p 11 8] ?_
          repeat (refine pu_ (v := ?_) (a' := ?_) HT_ rfl rfl (by kernel_rfl) (fun _ _ _ h => h) (by rfl) ?_ ?_ ?_; rotate_left 2; (intro w'; go_simp; with_reducible rfl); (simp only [Act.put, List.setIfInBounds_toArray, List.set_cons_zero, List.set_cons_succ, i64_w, i32_w]; rfl))
          refine ord0 ?_
          refine done_ (done_of HT_.out (by kernel_rfl)) ?_
          have hnb28 := NB118_101.out
          have hnc28 := NB101_118.out
          have hnb29 := NB118_105.out
          have hnc29 := NB105_118.out
          have hz30 := cells_4 BK118.out
          have hnb31 := NB105_101.out
          have hnc31 := NB101_105.out
          have hz32 := cells_4 BK105.out
          try go_wp2
          go_roundg k1
          case measure => have := HK1.out; omega
          case rel => exact ⟨(wrap64 (x6_1 + 1)), (x102002_1), (t107), (t110), (t113), (t114), (.slice Ao21 t107.length co21), (.slice Ao23 t110.length co23), (.slice Ao26 t114.length co26), (by first | rfl | (simp; done) | (simp [*]; done)), H', ⟨by have := HK1.out; omega⟩, ⟨rf2 HO_4.out BK118.out BK105.out (by decide) (by decide)⟩, ⟨rf2 HO109.out BK118.out BK105.out (by decide) (by decide)⟩, ⟨Kd.R_mono (rf2 HO112.out BK118.out BK105.out (by decide) (by decide)) (fun _ _ => trivial)⟩, ⟨Kd.R_mono (rf2 HO116.out BK118.out BK105.out (by decide) (by decide)) (fun _ _ => trivial)⟩, ⟨cl BK101.out rfl⟩, ⟨cl BK105.out rfl⟩, ⟨bx HB.out⟩⟩
        · replace c12 := Bool.eq_false_iff.mpr c12
          subst c12
          rw [if_neg Bool.false_ne_true] at H
          simp only [Option.some.injEq, Prod.mk.injEq] at H
          obtain ⟨rfl, rfl, rfl, rfl, rfl⟩ := H
          obtain ⟨Ao33, co33, eo33⟩ := Kd.R_slice HO_4.out
          subst eo33
          obtain ⟨Ao34, co34, eo34⟩ := Kd.R_slice HO_106000.out
          subst eo34
          obtain ⟨Ao35, co35, eo35⟩ := Kd.R_slice HO_106001.out
          subst eo35
          obtain ⟨Ao36, co36, eo36⟩ := Kd.R_slice HO_106003.out
          subst eo36
          try go_wp2
          replace HO_4 := Aside0.mk (Kd.R_drew HO_4.out)
          replace HO_106000 := Aside0.mk (Kd.R_drew HO_106000.out)
          replace HO_106001 := Aside0.mk (Kd.R_drew HO_106001.out)
          replace HO_106003 := Aside0.mk (Kd.R_drew HO_106003.out)
          replace BK101 := Aside0.mk (blk_drew BK101.out)
          replace BK105 := Aside0.mk (blk_drew BK105.out)
          replace HB := Aside0.mk (below_drew1 HB.out)
          have p106 := of_decide_eq_true c9b0
          have q106 := of_decide_eq_true c10b0
          obtain ⟨ad106, e106, hx106_0⟩ := Kd.at_string (Kd.R_reads' HO_4.out).2.2 x6_1 p106 q106
          cases e106
          replace p106 := eq_true p106
          replace q106 := eq_true q106
          refine start_ (n := 12) (S := fun w' => w'.cell? ⟨gb105, 0, none⟩ = some (.slice Ao34 x106000_1.length co34) ∧ w'.cell? ⟨gb105, 1, none⟩ = some (.slice Ao35 x106001_1.length co35) ∧ w'.cell? ⟨gb105, 2, none⟩ = some (.bool x106002_1) ∧ w'.cell? ⟨gb105, 3, none⟩ = some (.slice Ao36 x106003_1.length co36) ∧ w'.cell? (ad106.add (x6_1).toNat) = some (.string (rdOf ByteArray.empty t102 x6_1))) (ds := []) _ (by kernel_rfl) rfl rfl ⟨(blk_cell BK105.out 0).trans rfl, (blk_cell BK105.out 1).trans rfl, (blk_cell BK105.out 2).trans rfl, (blk_cell BK105.out 3).trans rfl, hx106_0⟩ (fun hHeld => ?_); refine with_tabW spec_DeltaGet.tab6 spec_DeltaGet.bits6 (fun HT_ HW_ => ?_)
          generalize wr.drew = w37 at HO_4 HO_106000 HO_106001 HO_106003 BK101 BK105 HB hx106_0 hHeld ⊢
          refine ord_ [.p 1 21, .p 2 22, .p 3 23, .t 0 20, .t 4 24] ?_
          repeat (first | (refine pu_ (v := ?_) (a' := ?_) HT_ rfl rfl (by kernel_rfl) (fun _ _ _ h => h) (by rfl) ?_ ?_ ?_; rotate_left 2; (intro w'; go_simp; with_reducible rfl); (simp only [Act.put, List.setIfInBounds_toArray, List.set_cons_zero, List.set_cons_succ, i64_w, i32_w]; rfl)) | (refine ta_ (v := ?_) (a' := ?_) HT_ HW_ rfl rfl (by kernel_rfl) (fun _ _ _ h => h) (by rfl) hHeld ?_ ?_ ?_; rotate_left 2; (rintro w' ⟨s0, s1, s2, s3, s4⟩; go_simp; with_reducible rfl); (simp only [Act.put, List.setIfInBounds_toArray, List.set_cons_zero, List.set_cons_succ, i64_w, i32_w]; rfl)))
          refine ord0 ?_
          refine join_ (σ := Value × Value × Value × Nat) 2 #[true, true, true, true, true, true, true, true, true, true, false, false] (fun s_ => [(25, .tuple #[.agg #[s_.1, s_.2.1, .bool t113, s_.2.2.1], .bool false]), (7, .pointer (some ⟨s_.2.2.2, 0, none⟩)), (19, .tuple #[.agg #[s_.1, s_.2.1, .bool t113, s_.2.2.1], .bool false]), (26, .agg #[s_.1, s_.2.1, .bool t113, s_.2.2.1]), (27, .bool false)]) (fun s_ w' => (w'.cell? ⟨gb105, 0, none⟩ = some (.slice Ao34 x106000_1.length co34) ∧ w'.cell? ⟨gb105, 1, none⟩ = some (.slice Ao35 x106001_1.length co35) ∧ w'.cell? ⟨gb105, 2, none⟩ = some (.bool x106002_1) ∧ w'.cell? ⟨gb105, 3, none⟩ = some (.slice Ao36 x106003_1.length co36) ∧ w'.cell? (ad106.add (x6_1).toNat) = some (.string (rdOf ByteArray.empty t102 x6_1))) ∧ (Kd.R Kd.string 9 w' w.heap.size (fun k_ => some k_ ≠ (.slice (some ad106) t102.length co33 : Value).ownBlock) s_.1 t107) ∧ (Kd.R k43 43 w' w.heap.size (fun _ => True) s_.2.1 t110) ∧ (Kd.R k46 46 w' w.heap.size (fun _ => True) s_.2.2.1 t114) ∧ (Kd.R Kd.string 9 w' w.heap.size (fun k_ => some k_ ≠ (s_.1 : Value).ownBlock) (.slice (some ad106) t102.length co33) t102) ∧ (w'.heap[gb101]? = some (.cells #[.slice none 0 0, .slice none 0 0, .bool x102002_1, .slice none 0 0] 26 (0, 0))) ∧ (w'.heap[gb105]? = some (.cells #[.slice Ao34 x106000_1.length co34, .slice Ao35 x106001_1.length co35, .bool x106002_1, .slice Ao36 x106003_1.length co36] 26 (0, 0))) ∧ (w'.heap[s_.2.2.2]? = some (.cells #[.slice none 0 0, .slice none 0 0, .bool false, .slice none 0 0] 26 (0, 0))) ∧ (w.heap.size ≤ s_.2.2.2) ∧ (w.heap.size ≤ s_.2.2.2) ∧ (gb101 ≠ s_.2.2.2) ∧ (s_.2.2.2 ≠ gb101) ∧ (gb105 ≠ s_.2.2.2) ∧ (s_.2.2.2 ≠ gb105) ∧ (Below w.heap.size w w')) ?_ ?_
          rotate_left
          · intro hCont
            refine two_ (i := 5) (j := 9) (Ni := some 25) (Nj := some 7) #[true, true, true, true, true, true, false, false, false, false, false, false] #[true, true, true, true, true, false, false, false, false, true, false, false] rfl rfl rfl rfl (two_of HT_.out (by kernel_rfl)) (by decide) (by decide) (fun K hK => ?_) (fun K hK => ?_)
            · skip
              refine goM gf17 #[.agg #[.slice Ao34 x106000_1.length co34, .slice Ao35 x106001_1.length co35, .bool x106002_1, .slice Ao36 x106003_1.length co36], .string (rdOf ByteArray.empty t102 x6_1)] (by rfl) rfl rfl rfl ?_
              with_reducible refine (spec_l5Line.calls k1 (fun k_ => some k_ = (.slice Ao34 x106000_1.length co34 : Value).ownBlock) (.slice Ao34 x106000_1.length co34) x106000_1 (fun k_ => some k_ = (.slice Ao35 x106001_1.length co35 : Value).ownBlock) (.slice Ao35 x106001_1.length co35) x106001_1 x106002_1 (fun k_ => some k_ = (.slice Ao36 x106003_1.length co36 : Value).ownBlock) (.slice Ao36 x106003_1.length co36) x106003_1 (rdOf ByteArray.empty t102 x6_1) t107 t110 t113 t114 false w _ ?side1 ?side2 ?side3 ?side4 A11.out).mono ?_
              (case side1 => exact bx HB.out)
              (case side2 => exact Kd.R_tight rfl HO_106000.out)
              (case side3 => exact Kd.R_tight rfl HO_106001.out)
              (case side4 => exact Kd.R_tight rfl HO_106003.out)
              rintro e w38 ⟨v108, v111, v115, rfl, ho0, ho1, ho2, hb, hkp⟩
              have HS4_ := cell_kept (hHeld.2.2.2.2) hkp (by first | (rw [add_block]; exact (fun hs_ => Or.elim hs_ (fun e_ => ((((Kd.R_apart' (Kd.R_apart' HO_4.out (Kd.R_typed HO_106001.out) (by decide)) (Kd.R_typed HO_106003.out) (by decide))).1 _ rfl).1.1) e_) (fun e_ => Or.elim e_ (fun e_ => ((((Kd.R_apart' (Kd.R_apart' HO_4.out (Kd.R_typed HO_106001.out) (by decide)) (Kd.R_typed HO_106003.out) (by decide))).1 _ rfl).1.2) e_) (fun e_ => ((((Kd.R_apart' (Kd.R_apart' HO_4.out (Kd.R_typed HO_106001.out) (by decide)) (Kd.R_typed HO_106003.out) (by decide))).1 _ rfl).2) e_)))) | (show ¬ _; simp only [add_block]; exact (fun hs_ => Or.elim hs_ (fun e_ => ((((Kd.R_apart' (Kd.R_apart' HO_4.out (Kd.R_typed HO_106001.out) (by decide)) (Kd.R_typed HO_106003.out) (by decide))).1 _ rfl).1.1) e_) (fun e_ => Or.elim e_ (fun e_ => ((((Kd.R_apart' (Kd.R_apart' HO_4.out (Kd.R_typed HO_106001.out) (by decide)) (Kd.R_typed HO_106003.out) (by decide))).1 _ rfl).1.2) e_) (fun e_ => ((((Kd.R_apart' (Kd.R_apart' HO_4.out (Kd.R_typed HO_106001.out) (by decide)) (Kd.R_typed HO_106003.out) (by decide))).1 _ rfl).2) e_)))) | exact (fun hs_ => Or.elim hs_ (fun e_ => ((((Kd.R_apart' (Kd.R_apart' HO_4.out (Kd.R_typed HO_106001.out) (by decide)) (Kd.R_typed HO_106003.out) (by decide))).1 _ rfl).1.1) e_) (fun e_ => Or.elim e_ (fun e_ => ((((Kd.R_apart' (Kd.R_apart' HO_4.out (Kd.R_typed HO_106001.out) (by decide)) (Kd.R_typed HO_106003.out) (by decide))).1 _ rfl).1.2) e_) (fun e_ => ((((Kd.R_apart' (Kd.R_apart' HO_4.out (Kd.R_typed HO_106001.out) (by decide)) (Kd.R_typed HO_106003.out) (by decide))).1 _ rfl).2) e_))))
              refine ⟨_, rfl, ?_⟩
              replace BK101 := Aside0.mk (blk_kept (gx (BK101.out)) hkp (fun hs_ => Or.elim hs_ (fun e_ => (fun e_ => (Kd.R_ne HO_106000.out BK101.out (by decide)) e_) e_) (fun e_ => Or.elim e_ (fun e_ => (fun e_ => (Kd.R_ne HO_106001.out BK101.out (by decide)) e_) e_) (fun e_ => (fun e_ => (Kd.R_ne HO_106003.out BK101.out (by decide)) e_) e_))))
              replace BK105 := Aside0.mk (blk_kept (gx (BK105.out)) hkp (fun hs_ => Or.elim hs_ (fun e_ => (fun e_ => (Kd.R_ne HO_106000.out BK105.out (by decide)) e_) e_) (fun e_ => Or.elim e_ (fun e_ => (fun e_ => (Kd.R_ne HO_106001.out BK105.out (by decide)) e_) e_) (fun e_ => (fun e_ => (Kd.R_ne HO_106003.out BK105.out (by decide)) e_) e_))))
              have HO109 := Aside0.mk (Kd.R_mono (ok' := fun k_ => some k_ ≠ (.slice (some ad106) t102.length co33 : Value).ownBlock) ho0 (fun k_ hk_ => Or.elim hk_ (fun hs_ => Or.elim hs_ (fun hs_ => fun e_ => ((((Kd.R_apart' (Kd.R_apart' HO_4.out (Kd.R_typed HO_106001.out) (by decide)) (Kd.R_typed HO_106003.out) (by decide))).1 k_ e_.symm).1.1) hs_) (fun hs_ => Or.elim hs_ (fun hs_ => fun e_ => ((((Kd.R_apart' (Kd.R_apart' HO_4.out (Kd.R_typed HO_106001.out) (by decide)) (Kd.R_typed HO_106003.out) (by decide))).1 k_ e_.symm).1.2) hs_) (fun hs_ => fun e_ => ((((Kd.R_apart' (Kd.R_apart' HO_4.out (Kd.R_typed HO_106001.out) (by decide)) (Kd.R_typed HO_106003.out) (by decide))).1 k_ e_.symm).2) hs_))) (fun hn_ => (Kd.fresh' (Kd.R_lt (rx HO_4.out)) k_ hn_))))
              replace HO_4 := Aside0.mk (Kd.R_mono (ok' := fun k_ => some k_ ≠ (v108 : Value).ownBlock) (Kd.R_keptB ((Kd.R_apart' (Kd.R_apart' HO_4.out (Kd.R_typed HO_106001.out) (by decide)) (Kd.R_typed HO_106003.out) (by decide))) hkp (fun k_ hk_ hs_ => Or.elim hs_ (fun e_ => (hk_.1.1) e_) (fun e_ => Or.elim e_ (fun e_ => (hk_.1.2) e_) (fun e_ => (hk_.2) e_)))) (fun k_ hk_ => fun e_ => Or.elim (ho0.1 k_ e_.symm) (fun hs_ => hk_.2.1 hs_) (fun hn_ => Nat.not_le.2 hk_.2.2 hn_)))
              have HO112 := Aside0.mk (Kd.R_mono (ok' := fun k_ => True) ho1 (fun k_ hk_ => trivial))
              have HO116 := Aside0.mk (Kd.R_mono (ok' := fun k_ => True) ho2 (fun k_ hk_ => trivial))
              replace HB := Aside0.mk (hb)
              clear HO_106000
              clear HO_106001
              clear HO_106003
              (try clear hb)
              (try clear hkp)
              (try clear ho0)
              (try clear ho1)
              (try clear ho2)
              refine hK.out _ _ ⟨(blk_cell BK105.out 0).trans rfl, (blk_cell BK105.out 1).trans rfl, (blk_cell BK105.out 2).trans rfl, (blk_cell BK105.out 3).trans rfl, HS4_⟩ (fun hHeld => ?_)
              clear hK K
              refine norm_ (a' := ?_) ?_ ?_
              rotate_left
              · show Act.put _ (some 25) _ = _
                simp only [Act.put, List.setIfInBounds_toArray, List.set_cons_zero, List.set_cons_succ, i64_w, i32_w]
                rfl
              refine ord_ [.p 6 19, .p 7 26, .p 8 27] ?_
              repeat (refine pu_ (v := ?_) (a' := ?_) HT_ rfl rfl (by kernel_rfl) (fun _ _ _ h => h) (by rfl) ?_ ?_ ?_; rotate_left 2; (intro w'; go_simp; with_reducible rfl); (simp only [Act.put, List.setIfInBounds_toArray, List.set_cons_zero, List.set_cons_succ, i64_w, i32_w]; rfl))
              refine ord0 ?_
              refine on_ (i := 9) (N := some 7) HT_ rfl rfl (by kernel_rfl) (by decide) (fun K hK => ?_)
              refine box_step ?hg (N := 7) ?hd (cs := #[.slice none 0 0, .slice none 0 0, .bool false, .slice none 0 0]) (t := 26) ?hr ?_; (case hd => rfl); (case hg => rfl); (case hr => first | (go_simp; done) | (go_simp; rfl))
              intro gb118 hg w39 hbox hb
              have HS4_ := (hb.cell (World.block_lt_of_cell? _ _ (hHeld.2.2.2.2))).trans (hHeld.2.2.2.2)
              replace HO_4 := kR HO_4 hb
              replace HO109 := kR HO109 hb
              replace HO112 := kR HO112 hb
              replace HO116 := kR HO116 hb
              have BK118 := Aside0.mk (hbox)
              have GW118 := Le_.mk (ge_of hg HB.out)
              have GE118 := Le_.mk (ge_of hg HB.out)
              replace HB := kB HB hb
              have NB101_118 := Ne_.mk ((by rw [hg]; exact Nat.ne_of_lt (blk_lt (gx (BK101.out))) : gb101 ≠ gb118))
              have NB118_101 := Ne_.mk ((by rw [hg]; exact Nat.ne_of_gt (blk_lt (gx (BK101.out))) : gb118 ≠ gb101))
              replace BK101 := kb BK101 hb
              have NB105_118 := Ne_.mk ((by rw [hg]; exact Nat.ne_of_lt (blk_lt (gx (BK105.out))) : gb105 ≠ gb118))
              have NB118_105 := Ne_.mk ((by rw [hg]; exact Nat.ne_of_gt (blk_lt (gx (BK105.out))) : gb118 ≠ gb105))
              replace BK105 := kb BK105 hb
              clear hb hbox hg
              refine hK.out _ _ ⟨(blk_cell BK105.out 0).trans rfl, (blk_cell BK105.out 1).trans rfl, (blk_cell BK105.out 2).trans rfl, (blk_cell BK105.out 3).trans rfl, HS4_⟩ (fun hHeld => ?_)
              clear hK K
              refine norm_ (a' := ?_) ?_ ?_
              rotate_left
              · show Act.put _ (some 7) _ = _
                simp only [Act.put, List.setIfInBounds_toArray, List.set_cons_zero, List.set_cons_succ, i64_w, i32_w]
                rfl
              exact norm_ (by simp only [putAll, Act.put, List.setIfInBounds_toArray, List.set_cons_zero, List.set_cons_succ]) (hCont (v108, v111, v115, gb118) _ ⟨hHeld, (rx HO109.out), (rx HO112.out), (rx HO116.out), (rx HO_4.out), (gx (BK101.out)), (gx (BK105.out)), (gx (BK118.out)), GW118.out, GE118.out, NB101_118.out, NB118_101.out, NB105_118.out, NB118_105.out, (bx HB.out)⟩)
            · skip
              refine box_step ?hg (N := 7) ?hd (cs := #[.slice none 0 0, .slice none 0 0, .bool false, .slice none 0 0]) (t := 26) ?hr ?_; (case hd => rfl); (case hg => rfl); (case hr => first | (go_simp; done) | (go_simp; rfl))
              intro gb118 hg w38 hbox hb
              have HS4_ := (hb.cell (World.block_lt_of_cell? _ _ (hHeld.2.2.2.2))).trans (hHeld.2.2.2.2)
              replace HO_4 := kR HO_4 hb
              replace HO_106000 := kR HO_106000 hb
              replace HO_106001 := kR HO_106001 hb
              replace HO_106003 := kR HO_106003 hb
              have BK118 := Aside0.mk (hbox)
              have GW118 := Le_.mk (ge_of hg HB.out)
              have GE118 := Le_.mk (ge_of hg HB.out)
              replace HB := kB HB hb
              have NB101_118 := Ne_.mk ((by rw [hg]; exact Nat.ne_of_lt (blk_lt (gx (BK101.out))) : gb101 ≠ gb118))
              have NB118_101 := Ne_.mk ((by rw [hg]; exact Nat.ne_of_gt (blk_lt (gx (BK101.out))) : gb118 ≠ gb101))
              replace BK101 := kb BK101 hb
              have NB105_118 := Ne_.mk ((by rw [hg]; exact Nat.ne_of_lt (blk_lt (gx (BK105.out))) : gb105 ≠ gb118))
              have NB118_105 := Ne_.mk ((by rw [hg]; exact Nat.ne_of_gt (blk_lt (gx (BK105.out))) : gb118 ≠ gb105))
              replace BK105 := kb BK105 hb
              clear hb hbox hg
              refine hK.out _ _ ⟨(blk_cell BK105.out 0).trans rfl, (blk_cell BK105.out 1).trans rfl, (blk_cell BK105.out 2).trans rfl, (blk_cell BK105.out 3).trans rfl, HS4_⟩ (fun hHeld => ?_)
              clear hK K
              refine norm_ (a' := ?_) ?_ ?_
              rotate_left
              · show Act.put _ (some 7) _ = _
                simp only [Act.put, List.setIfInBounds_toArray, List.set_cons_zero, List.set_cons_succ, i64_w, i32_w]
                rfl
              refine on_ (i := 5) (N := some 25) HT_ rfl rfl (by kernel_rfl) (by decide) (fun K hK => ?_)
              refine goM gf17 #[.agg #[.slice Ao34 x106000_1.length co34, .slice Ao35 x106001_1.length co35, .bool x106002_1, .slice Ao36 x106003_1.length co36], .string (rdOf ByteArray.empty t102 x6_1)] (by rfl) rfl rfl rfl ?_
              with_reducible refine (spec_l5Line.calls k1 (fun k_ => some k_ = (.slice Ao34 x106000_1.length co34 : Value).ownBlock) (.slice Ao34 x106000_1.length co34) x106000_1 (fun k_ => some k_ = (.slice Ao35 x106001_1.length co35 : Value).ownBlock) (.slice Ao35 x106001_1.length co35) x106001_1 x106002_1 (fun k_ => some k_ = (.slice Ao36 x106003_1.length co36 : Value).ownBlock) (.slice Ao36 x106003_1.length co36) x106003_1 (rdOf ByteArray.empty t102 x6_1) t107 t110 t113 t114 false w _ ?side1 ?side2 ?side3 ?side4 A11.out).mono ?_
              (case side1 => exact bx HB.out)
              (case side2 => exact Kd.R_tight rfl HO_106000.out)
              (case side3 => exact Kd.R_tight rfl HO_106001.out)
              (case side4 => exact Kd.R_tight rfl HO_106003.out)
              rintro e w39 ⟨v108, v111, v115, rfl, ho0, ho1, ho2, hb, hkp⟩
              have HS4_ := cell_kept (hHeld.2.2.2.2) hkp (by first | (rw [add_block]; exact (fun hs_ => Or.elim hs_ (fun e_ => ((((Kd.R_apart' (Kd.R_apart' HO_4.out (Kd.R_typed HO_106001.out) (by decide)) (Kd.R_typed HO_106003.out) (by decide))).1 _ rfl).1.1) e_) (fun e_ => Or.elim e_ (fun e_ => ((((Kd.R_apart' (Kd.R_apart' HO_4.out (Kd.R_typed HO_106001.out) (by decide)) (Kd.R_typed HO_106003.out) (by decide))).1 _ rfl).1.2) e_) (fun e_ => ((((Kd.R_apart' (Kd.R_apart' HO_4.out (Kd.R_typed HO_106001.out) (by decide)) (Kd.R_typed HO_106003.out) (by decide))).1 _ rfl).2) e_)))) | (show ¬ _; simp only [add_block]; exact (fun hs_ => Or.elim hs_ (fun e_ => ((((Kd.R_apart' (Kd.R_apart' HO_4.out (Kd.R_typed HO_106001.out) (by decide)) (Kd.R_typed HO_106003.out) (by decide))).1 _ rfl).1.1) e_) (fun e_ => Or.elim e_ (fun e_ => ((((Kd.R_apart' (Kd.R_apart' HO_4.out (Kd.R_typed HO_106001.out) (by decide)) (Kd.R_typed HO_106003.out) (by decide))).1 _ rfl).1.2) e_) (fun e_ => ((((Kd.R_apart' (Kd.R_apart' HO_4.out (Kd.R_typed HO_106001.out) (by decide)) (Kd.R_typed HO_106003.out) (by decide))).1 _ rfl).2) e_)))) | exact (fun hs_ => Or.elim hs_ (fun e_ => ((((Kd.R_apart' (Kd.R_apart' HO_4.out (Kd.R_typed HO_106001.out) (by decide)) (Kd.R_typed HO_106003.out) (by decide))).1 _ rfl).1.1) e_) (fun e_ => Or.elim e_ (fun e_ => ((((Kd.R_apart' (Kd.R_apart' HO_4.out (Kd.R_typed HO_106001.out) (by decide)) (Kd.R_typed HO_106003.out) (by decide))).1 _ rfl).1.2) e_) (fun e_ => ((((Kd.R_apart' (Kd.R_apart' HO_4.out (Kd.R_typed HO_106001.out) (by decide)) (Kd.R_typed HO_106003.out) (by decide))).1 _ rfl).2) e_))))
              refine ⟨_, rfl, ?_⟩
              replace BK101 := Aside0.mk (blk_kept (gx (BK101.out)) hkp (fun hs_ => Or.elim hs_ (fun e_ => (fun e_ => (Kd.R_ne HO_106000.out BK101.out (by decide)) e_) e_) (fun e_ => Or.elim e_ (fun e_ => (fun e_ => (Kd.R_ne HO_106001.out BK101.out (by decide)) e_) e_) (fun e_ => (fun e_ => (Kd.R_ne HO_106003.out BK101.out (by decide)) e_) e_))))
              replace BK105 := Aside0.mk (blk_kept (gx (BK105.out)) hkp (fun hs_ => Or.elim hs_ (fun e_ => (fun e_ => (Kd.R_ne HO_106000.out BK105.out (by decide)) e_) e_) (fun e_ => Or.elim e_ (fun e_ => (fun e_ => (Kd.R_ne HO_106001.out BK105.out (by decide)) e_) e_) (fun e_ => (fun e_ => (Kd.R_ne HO_106003.out BK105.out (by decide)) e_) e_))))
              replace BK118 := Aside0.mk (blk_kept (gx (BK118.out)) hkp (fun hs_ => Or.elim hs_ (fun e_ => (fun e_ => (Kd.R_ne HO_106000.out BK118.out (by decide)) e_) e_) (fun e_ => Or.elim e_ (fun e_ => (fun e_ => (Kd.R_ne HO_106001.out BK118.out (by decide)) e_) e_) (fun e_ => (fun e_ => (Kd.R_ne HO_106003.out BK118.out (by decide)) e_) e_))))
              have HO109 := Aside0.mk (Kd.R_mono (ok' := fun k_ => some k_ ≠ (.slice (some ad106) t102.length co33 : Value).ownBlock) ho0 (fun k_ hk_ => Or.elim hk_ (fun hs_ => Or.elim hs_ (fun hs_ => fun e_ => ((((Kd.R_apart' (Kd.R_apart' HO_4.out (Kd.R_typed HO_106001.out) (by decide)) (Kd.R_typed HO_106003.out) (by decide))).1 k_ e_.symm).1.1) hs_) (fun hs_ => Or.elim hs_ (fun hs_ => fun e_ => ((((Kd.R_apart' (Kd.R_apart' HO_4.out (Kd.R_typed HO_106001.out) (by decide)) (Kd.R_typed HO_106003.out) (by decide))).1 k_ e_.symm).1.2) hs_) (fun hs_ => fun e_ => ((((Kd.R_apart' (Kd.R_apart' HO_4.out (Kd.R_typed HO_106001.out) (by decide)) (Kd.R_typed HO_106003.out) (by decide))).1 k_ e_.symm).2) hs_))) (fun hn_ => (Kd.fresh' (Kd.R_lt (rx HO_4.out)) k_ hn_))))
              replace HO_4 := Aside0.mk (Kd.R_mono (ok' := fun k_ => some k_ ≠ (v108 : Value).ownBlock) (Kd.R_keptB ((Kd.R_apart' (Kd.R_apart' HO_4.out (Kd.R_typed HO_106001.out) (by decide)) (Kd.R_typed HO_106003.out) (by decide))) hkp (fun k_ hk_ hs_ => Or.elim hs_ (fun e_ => (hk_.1.1) e_) (fun e_ => Or.elim e_ (fun e_ => (hk_.1.2) e_) (fun e_ => (hk_.2) e_)))) (fun k_ hk_ => fun e_ => Or.elim (ho0.1 k_ e_.symm) (fun hs_ => hk_.2.1 hs_) (fun hn_ => Nat.not_le.2 hk_.2.2 hn_)))
              have HO112 := Aside0.mk (Kd.R_mono (ok' := fun k_ => True) ho1 (fun k_ hk_ => trivial))
              have HO116 := Aside0.mk (Kd.R_mono (ok' := fun k_ => True) ho2 (fun k_ hk_ => trivial))
              replace HB := Aside0.mk (hb)
              clear HO_106000
              clear HO_106001
              clear HO_106003
              (try clear hb)
              (try clear hkp)
              (try clear ho0)
              (try clear ho1)
              (try clear ho2)
              refine hK.out _ _ ⟨(blk_cell BK105.out 0).trans rfl, (blk_cell BK105.out 1).trans rfl, (blk_cell BK105.out 2).trans rfl, (blk_cell BK105.out 3).trans rfl, HS4_⟩ (fun hHeld => ?_)
              clear hK K
              refine norm_ (a' := ?_) ?_ ?_
              rotate_left
              · show Act.put _ (some 25) _ = _
                simp only [Act.put, List.setIfInBounds_toArray, List.set_cons_zero, List.set_cons_succ, i64_w, i32_w]
                rfl
              refine ord_ [.p 6 19, .p 7 26, .p 8 27] ?_
              repeat (refine pu_ (v := ?_) (a' := ?_) HT_ rfl rfl (by kernel_rfl) (fun _ _ _ h => h) (by rfl) ?_ ?_ ?_; rotate_left 2; (intro w'; go_simp; with_reducible rfl); (simp only [Act.put, List.setIfInBounds_toArray, List.set_cons_zero, List.set_cons_succ, i64_w, i32_w]; rfl))
              refine ord0 ?_
              exact norm_ (by simp only [putAll, Act.put, List.setIfInBounds_toArray, List.set_cons_zero, List.set_cons_succ]) (hCont (v108, v111, v115, gb118) _ ⟨hHeld, (rx HO109.out), (rx HO112.out), (rx HO116.out), (rx HO_4.out), (gx (BK101.out)), (gx (BK105.out)), (gx (BK118.out)), GW118.out, GE118.out, NB101_118.out, NB118_101.out, NB105_118.out, NB118_105.out, (bx HB.out)⟩)
          rintro ⟨v108, v111, v115, gb118⟩ w40 ⟨hS_, h0_, h1_, h2_, h3_, h4_, h5_, h6_, h7_, h8_, h9_, h10_, h11_, h12_, h13_⟩
          have n0_ : Aside0 (Kd.R Kd.string 9 w40 w.heap.size (fun k_ => some k_ ≠ (.slice (some ad106) t102.length co33 : Value).ownBlock) v108 t107) := ⟨h0_⟩
          have n1_ : Aside0 (Kd.R k43 43 w40 w.heap.size (fun _ => True) v111 t110) := ⟨h1_⟩
          have n2_ : Aside0 (Kd.R k46 46 w40 w.heap.size (fun _ => True) v115 t114) := ⟨h2_⟩
          have n3_ : Aside0 (Kd.R Kd.string 9 w40 w.heap.size (fun k_ => some k_ ≠ (v108 : Value).ownBlock) (.slice (some ad106) t102.length co33) t102) := ⟨h3_⟩
          have n4_ : Aside0 (w40.heap[gb101]? = some (.cells #[.slice none 0 0, .slice none 0 0, .bool x102002_1, .slice none 0 0] 26 (0, 0))) := ⟨h4_⟩
          have n5_ : Aside0 (w40.heap[gb105]? = some (.cells #[.slice Ao34 x106000_1.length co34, .slice Ao35 x106001_1.length co35, .bool x106002_1, .slice Ao36 x106003_1.length co36] 26 (0, 0))) := ⟨h5_⟩
          have n6_ : Aside0 (w40.heap[gb118]? = some (.cells #[.slice none 0 0, .slice none 0 0, .bool false, .slice none 0 0] 26 (0, 0))) := ⟨h6_⟩
          have n7_ : Le_ w.heap.size gb118 := ⟨h7_⟩
          have n8_ : Le_ w.heap.size gb118 := ⟨h8_⟩
          have n9_ : Ne_ gb101 gb118 := ⟨h9_⟩
          have n10_ : Ne_ gb118 gb101 := ⟨h10_⟩
          have n11_ : Ne_ gb105 gb118 := ⟨h11_⟩
          have n12_ : Ne_ gb118 gb105 := ⟨h12_⟩
          have n13_ : Aside0 (Below w.heap.size w w40) := ⟨h13_⟩
          clear HO_4
          clear HO_106000
          clear HO_106001
          clear HO_106003
          clear BK101
          clear BK105
          clear HB
          clear h0_ h1_ h2_ h3_ h4_ h5_ h6_ h7_ h8_ h9_ h10_ h11_ h12_ h13_
          have HO109 := n0_
          have HO112 := n1_
          have HO116 := n2_
          have HO_4 := n3_
          have BK101 := n4_
          have BK105 := n5_
          have BK118 := n6_
          have GW118 := n7_
          have GE118 := n8_
          have NB101_118 := n9_
          have NB118_101 := n10_
          have NB105_118 := n11_
          have NB118_105 := n12_
          have HB := n13_
          clear n0_ n1_ n2_ n3_ n4_ n5_ n6_ n7_ n8_ n9_ n10_ n11_ n12_ n13_
          have hHeld : w40.cell? ⟨gb105, 0, none⟩ = some (.slice Ao34 x106000_1.length co34) ∧ w40.cell? ⟨gb105, 1, none⟩ = some (.slice Ao35 x106001_1.length co35) ∧ w40.cell? ⟨gb105, 2, none⟩ = some (.bool x106002_1) ∧ w40.cell? ⟨gb105, 3, none⟩ = some (.slice Ao36 x106003_1.length co36) ∧ w40.cell? (ad106.add (x6_1).toNat) = some (.string (rdOf ByteArray.empty t102 x6_1)) := hS_
          obtain ⟨Ao41, co41, eo41⟩ := Kd.R_slice HO109.out
          (first | subst eo41 | (injection eo41 with f1_ f2_ f3_; have f4_ := f1_.symm; have f5_ := f3_.symm; clear f1_ f2_ f3_; subst f4_; subst f5_))
          obtain ⟨Ao43, co43, eo43⟩ := Kd.R_slice HO112.out
          (first | subst eo43 | (injection eo43 with f1_ f2_ f3_; have f4_ := f1_.symm; have f5_ := f3_.symm; clear f1_ f2_ f3_; subst f4_; subst f5_))
          obtain ⟨Ao46, co46, eo46⟩ := Kd.R_slice HO116.out
          (first | subst eo46 | (injection eo46 with f1_ f2_ f3_; have f4_ := f1_.symm; have f5_ := f3_.symm; clear f1_ f2_ f3_; subst f4_; subst f5_))
          refine norm_ (a' := ?_) ?_ ?_
          rotate_left
          · simp only [putAll, Act.put, List.setIfInBounds_toArray, List.set_cons_zero, List.set_cons_succ]
            rfl
          refine on_ (i := 10) (N := none) HT_ rfl rfl (by kernel_rfl) (by decide) (fun K hK => ?_)
          have hs42 : w40.cell? ⟨gb118, 0, none⟩ = some (.slice none 0 0) := (blk_cell BK118.out 0).trans rfl
          have hfs42 := blk_frozen BK118.out 0
          have hns42_0 := NB101_118.out
          have hns42_1 := NB105_118.out
          have hms42_0 := NB118_101.out
          have hms42_1 := NB118_105.out
          have hs44 : w40.cell? ⟨gb118, 1, none⟩ = some (.slice none 0 0) := (blk_cell BK118.out 1).trans rfl
          have hfs44 := blk_frozen BK118.out 1
          have hns44_0 := NB101_118.out
          have hns44_1 := NB105_118.out
          have hms44_0 := NB118_101.out
          have hms44_1 := NB118_105.out
          have hs45 : w40.cell? ⟨gb118, 2, none⟩ = some (.bool false) := (blk_cell BK118.out 2).trans rfl
          have hfs45 := blk_frozen BK118.out 2
          have hns45_0 := NB101_118.out
          have hns45_1 := NB105_118.out
          have hms45_0 := NB118_101.out
          have hms45_1 := NB118_105.out
          have hs47 : w40.cell? ⟨gb118, 3, none⟩ = some (.slice none 0 0) := (blk_cell BK118.out 3).trans rfl
          have hfs47 := blk_frozen BK118.out 3
          have hns47_0 := NB101_118.out
          have hns47_1 := NB105_118.out
          have hms47_0 := NB118_101.out
          have hms47_1 := NB118_105.out
          refine skip_ (w1 := ?_) (by rfl) rfl ?_ ?_
          rotate_left
          · go_simp
            rfl
          refine hK.out _ _ ⟨((cell_far (p := ⟨gb118, _, none⟩) NB105_118.out _).trans (((cell_far (p := ⟨gb118, _, none⟩) NB105_118.out _).trans (((cell_far (p := ⟨gb118, _, none⟩) NB105_118.out _).trans (((cell_far (p := ⟨gb118, _, none⟩) NB105_118.out _).trans (hHeld.1)))))))), ((cell_far (p := ⟨gb118, _, none⟩) NB105_118.out _).trans (((cell_far (p := ⟨gb118, _, none⟩) NB105_118.out _).trans (((cell_far (p := ⟨gb118, _, none⟩) NB105_118.out _).trans (((cell_far (p := ⟨gb118, _, none⟩) NB105_118.out _).trans (hHeld.2.1)))))))), ((cell_far (p := ⟨gb118, _, none⟩) NB105_118.out _).trans (((cell_far (p := ⟨gb118, _, none⟩) NB105_118.out _).trans (((cell_far (p := ⟨gb118, _, none⟩) NB105_118.out _).trans (((cell_far (p := ⟨gb118, _, none⟩) NB105_118.out _).trans (hHeld.2.2.1)))))))), ((cell_far (p := ⟨gb118, _, none⟩) NB105_118.out _).trans (((cell_far (p := ⟨gb118, _, none⟩) NB105_118.out _).trans (((cell_far (p := ⟨gb118, _, none⟩) NB105_118.out _).trans (((cell_far (p := ⟨gb118, _, none⟩) NB105_118.out _).trans (hHeld.2.2.2.1)))))))), ((cell_far (p := ⟨gb118, _, none⟩) (by first | exact Kd.own_blk (Kd.R_ne HO_4.out BK118.out (by decide)) | (rw [add_block]; exact Kd.own_blk (Kd.R_ne HO_4.out BK118.out (by decide))) | (show (Addr.add _ _).block ≠ _; rw [add_block]; exact Kd.own_blk (Kd.R_ne HO_4.out BK118.out (by decide))) | (dsimp only; exact Kd.own_blk (Kd.R_ne HO_4.out BK118.out (by decide)))) _).trans (((cell_far (p := ⟨gb118, _, none⟩) (by first | exact Kd.own_blk (Kd.R_ne HO_4.out BK118.out (by decide)) | (rw [add_block]; exact Kd.own_blk (Kd.R_ne HO_4.out BK118.out (by decide))) | (show (Addr.add _ _).block ≠ _; rw [add_block]; exact Kd.own_blk (Kd.R_ne HO_4.out BK118.out (by decide))) | (dsimp only; exact Kd.own_blk (Kd.R_ne HO_4.out BK118.out (by decide)))) _).trans (((cell_far (p := ⟨gb118, _, none⟩) (by first | exact Kd.own_blk (Kd.R_ne HO_4.out BK118.out (by decide)) | (rw [add_block]; exact Kd.own_blk (Kd.R_ne HO_4.out BK118.out (by decide))) | (show (Addr.add _ _).block ≠ _; rw [add_block]; exact Kd.own_blk (Kd.R_ne HO_4.out BK118.out (by decide))) | (dsimp only; exact Kd.own_blk (Kd.R_ne HO_4.out BK118.out (by decide)))) _).trans (((cell_far (p := ⟨gb118, _, none⟩) (by first | exact Kd.own_blk (Kd.R_ne HO_4.out BK118.out (by decide)) | (rw [add_block]; exact Kd.own_blk (Kd.R_ne HO_4.out BK118.out (by decide))) | (show (Addr.add _ _).block ≠ _; rw [add_block]; exact Kd.own_blk (Kd.R_ne HO_4.out BK118.out (by decide))) | (dsimp only; exact Kd.own_blk (Kd.R_ne HO_4.out BK118.out (by decide)))) _).trans (hHeld.2.2.2.2))))))))⟩ (fun hHeld => ?_)
          clear hK K
          refine ord_ [.p 11 8] ?_
          repeat (refine pu_ (v := ?_) (a' := ?_) HT_ rfl rfl (by kernel_rfl) (fun _ _ _ h => h) (by rfl) ?_ ?_ ?_; rotate_left 2; (intro w'; go_simp; with_reducible rfl); (simp only [Act.put, List.setIfInBounds_toArray, List.set_cons_zero, List.set_cons_succ, i64_w, i32_w]; rfl))
          refine ord0 ?_
          refine done_ (done_of HT_.out (by kernel_rfl)) ?_
          have hnb48 := NB101_105.out
          have hnc48 := NB105_101.out
          have hnb49 := NB101_118.out
          have hnc49 := NB118_101.out
          have hz50 := cells_4 BK101.out
          try go_wp2
          refine bodyPost_ret (results_ct rfl _ _ gb101 26 #[.slice none 0 0, .slice none 0 0, .bool false, .slice none 0 0] (0, 0) _ rfl (cl BK101.out rfl) Tryd.underlying26 rfl (by kernel_rfl)) rfl ?_
          exact ⟨_, _, _, by rfl, by first | exact Kd.R_nil _ _ _ _ _ | exact Kd.N_nil _ _ _ _ _ | exact Kd.V_nil _ _ _ _ _ | exact Kd.Q_nil _ _ _ _ _ | exact Kd.S_nil _ _ _ _ _, by first | exact Kd.R_nil _ _ _ _ _ | exact Kd.N_nil _ _ _ _ _ | exact Kd.V_nil _ _ _ _ _ | exact Kd.Q_nil _ _ _ _ _ | exact Kd.S_nil _ _ _ _ _, by first | exact Kd.R_nil _ _ _ _ _ | exact Kd.N_nil _ _ _ _ _ | exact Kd.V_nil _ _ _ _ _ | exact Kd.Q_nil _ _ _ _ _ | exact Kd.S_nil _ _ _ _ _, bx HB.out⟩
      · rw [if_neg c8] at H
        have c8b0 := decide_eq_false c8
        clear c8
        replace H := Option.bind_eq_some_iff.mp H
        obtain ⟨t119, A510, H⟩ := H
        have A51 := Aside0.mk A510
        clear A510
        by_cases c52 : t119 = true
        · subst c52
          rw [if_pos rfl] at H
          replace H := Option.bind_eq_some_iff.mp H
          obtain ⟨t120, A530, H⟩ := H
          have A53 := Aside0.mk A530
          clear A530
          by_cases c54 : t120.toList = a0.toList
          · rw [if_pos c54] at H
            have c54b0 : (t120.toList == a0.toList) = true := beq_iff_eq.mpr c54
            have c54b1 : (t120.toList != a0.toList) = false := bne_eq_false_iff_eq.mpr c54
            clear c54
            simp only [Option.some.injEq, Prod.mk.injEq] at H
            obtain ⟨rfl, rfl, rfl, rfl, rfl⟩ := H
            obtain ⟨Ao55, co55, eo55⟩ := Kd.R_slice HO_4.out
            subst eo55
            have hnb56 := NB105_101.out
            have hnc56 := NB101_105.out
            have hz57 := cells_4 BK105.out
            obtain ⟨Ao58, co58, eo58⟩ := Kd.R_slice HO_106000.out
            subst eo58
            obtain ⟨Ao59, co59, eo59⟩ := Kd.R_slice HO_106001.out
            subst eo59
            obtain ⟨Ao60, co60, eo60⟩ := Kd.R_slice HO_106003.out
            subst eo60
            go_wp2_with (first | ((with_reducible refine gate_callee (f := 13) rfl ?_); refine goL (some 33) rfl rfl gf13 #[.agg #[.slice Ao58 x106000_1.length co58, .slice Ao59 x106001_1.length co59, .bool x106002_1, .slice Ao60 x106003_1.length co60]] rfl rfl ?_; (with_reducible refine (spec_DeltaOk.calls k1 _ _ x106000_1 _ _ x106001_1 x106002_1 _ _ x106003_1 true _ (cx (Kd.R_reads' HO_106000.out).2.2) ((Kd.R_reads' HO_106000.out).2.1) (cx (Kd.R_reads' HO_106001.out).2.2) ((Kd.R_reads' HO_106001.out).2.1) (cx (Kd.R_reads' HO_106003.out).2.2) ((Kd.R_reads' HO_106003.out).2.1) A51.out).mono ?_); rintro e w61 ⟨rfl, hb⟩; refine ⟨_, rfl, ?_⟩; replace HO_4 := kR HO_4 hb; replace HO_106000 := kR HO_106000 hb; replace HO_106001 := kR HO_106001 hb; replace HO_106003 := kR HO_106003 hb; replace BK101 := kb BK101 hb; replace BK105 := kb BK105 hb; replace HB := kB HB hb; (try clear hb); (try clear hb2); (try clear hk); (try clear hi); have hz62 := cells_4 BK105.out) | (go_at_call 18; (with_reducible refine (spec_l5Put.calls k1 _ _ x106000_1 _ _ x106001_1 x106002_1 _ _ x106003_1 t120 _ (cx (Kd.R_reads' HO_106000.out).2.2) ((Kd.R_reads' HO_106000.out).2.1) (cx (Kd.R_reads' HO_106001.out).2.2) ((Kd.R_reads' HO_106001.out).2.1) (cx (Kd.R_reads' HO_106003.out).2.2) ((Kd.R_reads' HO_106003.out).2.1) A53.out).mono ?_); rintro e w63 ⟨rfl, hb⟩; replace HO_4 := kR HO_4 hb; replace HO_106000 := kR HO_106000 hb; replace HO_106001 := kR HO_106001 hb; replace HO_106003 := kR HO_106003 hb; replace BK101 := kb BK101 hb; replace BK105 := kb BK105 hb; replace HB := kB HB hb; (try clear hb); (try clear hb2); (try clear hk); (try clear hi); have hz64 := cells_4 BK105.out; have hz65 := cells_4 BK101.out))
            refine bodyPost_ret (results_ct rfl _ _ gb101 26 #[.slice Ao58 x106000_1.length co58, .slice Ao59 x106001_1.length co59, .bool x106002_1, .slice Ao60 x106003_1.length co60] (0, 0) _ rfl (cl BK101.out rfl) Tryd.underlying26 rfl (by kernel_rfl)) rfl ?_
            exact ⟨_, _, _, by rfl, Kd.R_mono (rf1 HO_106000.out BK101.out (by decide)) (fun _ _ => trivial), Kd.R_mono (rf1 HO_106001.out BK101.out (by decide)) (fun _ _ => trivial), Kd.R_mono (rf1 HO_106003.out BK101.out (by decide)) (fun _ _ => trivial), bx HB.out⟩
          · rw [if_neg c54] at H
            have c54b0 : (t120.toList == a0.toList) = false := beq_eq_false_iff_ne.mpr c54
            have c54b1 : (t120.toList != a0.toList) = true := bne_iff_ne.mpr c54
            simp only [Option.some.injEq, Prod.mk.injEq] at H
            obtain ⟨rfl, rfl, rfl, rfl, rfl⟩ := H
            obtain ⟨Ao66, co66, eo66⟩ := Kd.R_slice HO_4.out
            subst eo66
            have hnb67 := NB105_101.out
            have hnc67 := NB101_105.out
            have hz68 := cells_4 BK105.out
            obtain ⟨Ao69, co69, eo69⟩ := Kd.R_slice HO_106000.out
            subst eo69
            obtain ⟨Ao70, co70, eo70⟩ := Kd.R_slice HO_106001.out
            subst eo70
            obtain ⟨Ao71, co71, eo71⟩ := Kd.R_slice HO_106003.out
            subst eo71
            go_wp2_with (first | ((with_reducible refine gate_callee (f := 13) rfl ?_); refine goL (some 33) rfl rfl gf13 #[.agg #[.slice Ao69 x106000_1.length co69, .slice Ao70 x106001_1.length co70, .bool x106002_1, .slice Ao71 x106003_1.length co71]] rfl rfl ?_; (with_reducible refine (spec_DeltaOk.calls k1 _ _ x106000_1 _ _ x106001_1 x106002_1 _ _ x106003_1 true _ (cx (Kd.R_reads' HO_106000.out).2.2) ((Kd.R_reads' HO_106000.out).2.1) (cx (Kd.R_reads' HO_106001.out).2.2) ((Kd.R_reads' HO_106001.out).2.1) (cx (Kd.R_reads' HO_106003.out).2.2) ((Kd.R_reads' HO_106003.out).2.1) A51.out).mono ?_); rintro e w72 ⟨rfl, hb⟩; refine ⟨_, rfl, ?_⟩; replace HO_4 := kR HO_4 hb; replace HO_106000 := kR HO_106000 hb; replace HO_106001 := kR HO_106001 hb; replace HO_106003 := kR HO_106003 hb; replace BK101 := kb BK101 hb; replace BK105 := kb BK105 hb; replace HB := kB HB hb; (try clear hb); (try clear hb2); (try clear hk); (try clear hi); have hz73 := cells_4 BK105.out) | (go_at_call 18; (with_reducible refine (spec_l5Put.calls k1 _ _ x106000_1 _ _ x106001_1 x106002_1 _ _ x106003_1 t120 _ (cx (Kd.R_reads' HO_106000.out).2.2) ((Kd.R_reads' HO_106000.out).2.1) (cx (Kd.R_reads' HO_106001.out).2.2) ((Kd.R_reads' HO_106001.out).2.1) (cx (Kd.R_reads' HO_106003.out).2.2) ((Kd.R_reads' HO_106003.out).2.1) A53.out).mono ?_); rintro e w74 ⟨rfl, hb⟩; replace HO_4 := kR HO_4 hb; replace HO_106000 := kR HO_106000 hb; replace HO_106001 := kR HO_106001 hb; replace HO_106003 := kR HO_106003 hb; replace BK101 := kb BK101 hb; replace BK105 := kb BK105 hb; replace HB := kB HB hb; (try clear hb); (try clear hb2); (try clear hk); (try clear hi); have hz75 := cells_4 BK101.out))
            refine bodyPost_ret (results_ct rfl _ _ gb101 26 #[.slice none 0 0, .slice none 0 0, .bool false, .slice none 0 0] (0, 0) _ rfl (cl BK101.out rfl) Tryd.underlying26 rfl (by kernel_rfl)) rfl ?_
            exact ⟨_, _, _, by rfl, by first | exact Kd.R_nil _ _ _ _ _ | exact Kd.N_nil _ _ _ _ _ | exact Kd.V_nil _ _ _ _ _ | exact Kd.Q_nil _ _ _ _ _ | exact Kd.S_nil _ _ _ _ _, by first | exact Kd.R_nil _ _ _ _ _ | exact Kd.N_nil _ _ _ _ _ | exact Kd.V_nil _ _ _ _ _ | exact Kd.Q_nil _ _ _ _ _ | exact Kd.S_nil _ _ _ _ _, by first | exact Kd.R_nil _ _ _ _ _ | exact Kd.N_nil _ _ _ _ _ | exact Kd.V_nil _ _ _ _ _ | exact Kd.Q_nil _ _ _ _ _ | exact Kd.S_nil _ _ _ _ _, bx HB.out⟩
        · replace c52 := Bool.eq_false_iff.mpr c52
          subst c52
          rw [if_neg Bool.false_ne_true] at H
          simp only [Option.some.injEq, Prod.mk.injEq] at H
          obtain ⟨rfl, rfl, rfl, rfl, rfl⟩ := H
          obtain ⟨Ao76, co76, eo76⟩ := Kd.R_slice HO_4.out
          subst eo76
          have hnb77 := NB105_101.out
          have hnc77 := NB101_105.out
          have hz78 := cells_4 BK105.out
          obtain ⟨Ao79, co79, eo79⟩ := Kd.R_slice HO_106000.out
          subst eo79
          obtain ⟨Ao80, co80, eo80⟩ := Kd.R_slice HO_106001.out
          subst eo80
          obtain ⟨Ao81, co81, eo81⟩ := Kd.R_slice HO_106003.out
          subst eo81
          go_wp2_with (first | ((with_reducible refine gate_callee (f := 13) rfl ?_); refine goL (some 33) rfl rfl gf13 #[.agg #[.slice Ao79 x106000_1.length co79, .slice Ao80 x106001_1.length co80, .bool x106002_1, .slice Ao81 x106003_1.length co81]] rfl rfl ?_; (with_reducible refine (spec_DeltaOk.calls k1 _ _ x106000_1 _ _ x106001_1 x106002_1 _ _ x106003_1 false _ (cx (Kd.R_reads' HO_106000.out).2.2) ((Kd.R_reads' HO_106000.out).2.1) (cx (Kd.R_reads' HO_106001.out).2.2) ((Kd.R_reads' HO_106001.out).2.1) (cx (Kd.R_reads' HO_106003.out).2.2) ((Kd.R_reads' HO_106003.out).2.1) A51.out).mono ?_); rintro e w82 ⟨rfl, hb⟩; refine ⟨_, rfl, ?_⟩; replace HO_4 := kR HO_4 hb; replace HO_106000 := kR HO_106000 hb; replace HO_106001 := kR HO_106001 hb; replace HO_106003 := kR HO_106003 hb; replace BK101 := kb BK101 hb; replace BK105 := kb BK105 hb; replace HB := kB HB hb; (try clear hb); (try clear hb2); (try clear hk); (try clear hi); have hz83 := cells_4 BK101.out))
          refine bodyPost_ret (results_ct rfl _ _ gb101 26 #[.slice none 0 0, .slice none 0 0, .bool false, .slice none 0 0] (0, 0) _ rfl (cl BK101.out rfl) Tryd.underlying26 rfl (by kernel_rfl)) rfl ?_
          exact ⟨_, _, _, by rfl, by first | exact Kd.R_nil _ _ _ _ _ | exact Kd.N_nil _ _ _ _ _ | exact Kd.V_nil _ _ _ _ _ | exact Kd.Q_nil _ _ _ _ _ | exact Kd.S_nil _ _ _ _ _, by first | exact Kd.R_nil _ _ _ _ _ | exact Kd.N_nil _ _ _ _ _ | exact Kd.V_nil _ _ _ _ _ | exact Kd.Q_nil _ _ _ _ _ | exact Kd.S_nil _ _ _ _ _, by first | exact Kd.R_nil _ _ _ _ _ | exact Kd.N_nil _ _ _ _ _ | exact Kd.V_nil _ _ _ _ _ | exact Kd.Q_nil _ _ _ _ _ | exact Kd.S_nil _ _ _ _ _, bx HB.out⟩
end Go.Proofs.YtabindnaedchgaaDoor.M
end

section
/- Plain lemmas about functions with a number of rounds; nothing of any program. -/
namespace Go.Proofs.YtabindnaedchgaaDoor.Pu
open Go.RowKit Go.Proofs.YtabindnaedchgaaDoorW.PrintWords
set_option linter.unusedVariables false
theorem Ev.succ {α : Type} {g : Nat → Option α} {r : α} (h : Ev (fun k => g (k + 1)) r) : Ev g r := Ev.step (fun _ => rfl) h
theorem Ev.pure_ {α : Type} (r : α) : Ev (fun _ => some r) r := Ev.now r
theorem Ev.cast {α : Type} {g : Nat → Option α} {r s : α} (h : Ev g r) (e : r = s) : Ev g s := e ▸ h
theorem Ev.ifp {α : Type} {c : Prop} [Decidable c] {f g : Nat → Option α} {r : α} (hc : c) (h : Ev f r) : Ev (fun k => if c then f k else g k) r := by
  simp only [if_pos hc]
  exact h
theorem Ev.ifn {α : Type} {c : Prop} [Decidable c] {f g : Nat → Option α} {r : α} (hc : ¬ c) (h : Ev g r) : Ev (fun k => if c then f k else g k) r := by
  simp only [if_neg hc]
  exact h
theorem wid {x : Int} (h0 : -9223372036854775808 ≤ x) (h1 : x ≤ 9223372036854775807) : wrap64 x = x := by
  unfold wrap64
  omega
theorem all_from {α : Type} {g : Nat → Int → Option α} (n : Nat) (P : Nat → Prop) [DecidablePred P] (stop fin : α)
    (step : ∀ (i : Nat) (r : α), i < n → P i → Ev (fun k => g k ((i : Int) + 1)) r → Ev (fun k => g k (i : Int)) r)
    (fail : ∀ i : Nat, i < n → ¬ P i → Ev (fun k => g k (i : Int)) stop)
    (done : Ev (fun k => g k (n : Int)) fin) (d : Nat) : ∀ i : Nat, n - i = d → i ≤ n → Ev (fun k => g k (i : Int)) (if ∀ j, j < n → i ≤ j → P j then fin else stop) := by
  induction d with
  | zero =>
    intro i hd hi
    obtain rfl : i = n := by omega
    rw [if_pos (fun j h1 h2 => absurd h1 (by omega))]
    exact done
  | succ d ih =>
    intro i hd hi
    by_cases hp : P i
    · have h := ih (i + 1) (by omega) (by omega)
      have e : (if ∀ j, j < n → i + 1 ≤ j → P j then fin else stop) = (if ∀ j, j < n → i ≤ j → P j then fin else stop) := by
        have : (∀ j, j < n → i + 1 ≤ j → P j) ↔ (∀ j, j < n → i ≤ j → P j) := by
          refine ⟨fun h j h1 h2 => ?_, fun h j h1 h2 => h j h1 (by omega)⟩
          rcases Nat.eq_or_lt_of_le h2 with rfl | h3
          · exact hp
          · exact h j h1 h3
        simp only [this]
      rw [e] at h
      exact step i _ (by omega) hp (by exact_mod_cast h)
    · rw [if_neg (fun h => hp (h i (by omega) (Nat.le_refl _)))]
      exact fail i (by omega) hp
theorem all_loop {α : Type} {g : Nat → Int → Option α} (n : Nat) (P : Nat → Prop) [DecidablePred P] (stop fin : α)
    (step : ∀ (i : Nat) (r : α), i < n → P i → Ev (fun k => g k ((i : Int) + 1)) r → Ev (fun k => g k (i : Int)) r)
    (fail : ∀ i : Nat, i < n → ¬ P i → Ev (fun k => g k (i : Int)) stop)
    (done : Ev (fun k => g k (n : Int)) fin) : Ev (fun k => g k 0) (if ∀ j, j < n → P j then fin else stop) := by
  have h := all_from n P stop fin step fail done n 0 (by omega) (by omega)
  have e : (∀ j, j < n → 0 ≤ j → P j) ↔ (∀ j, j < n → P j) := ⟨fun h j h1 => h j h1 (Nat.zero_le _), fun h j h1 _ => h j h1⟩
  simp only [e] at h
  exact h
theorem fold_loop {α β : Type} {g : Nat → β → Int → Option α} (n : Nat) (F : Nat → β) (r : α)
    (step : ∀ (i : Nat), i < n → Ev (fun k => g k (F (i + 1)) ((i : Int) + 1)) r → Ev (fun k => g k (F i) (i : Int)) r)
    (done : Ev (fun k => g k (F n) (n : Int)) r) : Ev (fun k => g k (F 0) 0) r := by
  have key : ∀ d i : Nat, n - i = d → i ≤ n → Ev (fun k => g k (F i) (i : Int)) r := by
    intro d
    induction d with
    | zero =>
      intro i hd hi
      obtain rfl : i = n := by omega
      exact done
    | succ d ih =>
      intro i hd hi
      exact step i (by omega) (by exact_mod_cast ih (i + 1) (by omega) (by omega))
  exact_mod_cast key n 0 (by omega) (by omega)
theorem bt_nat (s : ByteArray) (i : Nat) : bt s (i : Int) = if h : i < s.size then ((s[i]'h).toNat : Int) else 0 := by simp [bt]
theorem toList_inj {a b : ByteArray} : a.toList = b.toList ↔ a = b := by
  constructor
  · intro h
    rw [ByteArray.toList_eq, ByteArray.toList_eq] at h
    exact ByteArray.ext (Array.toList_inj.1 h)
  · rintro rfl
    rfl
end Go.Proofs.YtabindnaedchgaaDoor.Pu
end

section
/- Words, affixes, entries, books, deltas: what is ok, plain; the program's tests are the reference's. -/
namespace Go.Proofs.YtabindnaedchgaaDoor.M
open Go.RowKit Go.Proofs.YtabindnaedchgaaDoorW.PrintWords Go.Proofs.YtabindnaedchgaaDoor.Pu
set_option linter.unusedVariables false
set_option linter.unusedSimpArgs false
abbrev En := S43
abbrev Af := S46
abbrev eAt (l : List En) (i : Int) : En := rd_T43 l i
abbrev aAt (l : List Af) (i : Int) : Af := rd_T46 l i
theorem eAt_nat (l : List En) (i : Nat) (h : i < l.length) : eAt l (i : Int) = l[i] := by simp [eAt, rd_T43, h]
theorem aAt_nat (l : List Af) (i : Nat) (h : i < l.length) : aAt l (i : Int) = l[i] := by simp [aAt, rd_T46, h]
theorem sAt_nat (l : List ByteArray) (i : Nat) (h : i < l.length) : rdOf ByteArray.empty l (i : Int) = l[i] := by simp [rdOf, h]
def lowP (s : ByteArray) (j : Nat) : Prop := 97 ≤ bt s (j : Int) ∧ bt s (j : Int) ≤ 122
instance (s : ByteArray) (j : Nat) : Decidable (lowP s j) := inferInstanceAs (Decidable (_ ∧ _))
def lowB (s : ByteArray) : Bool := if ∀ j, j < s.size → lowP s j then true else false
abbrev Small (n : Nat) : Prop := n ≤ 9223372036854775000
theorem impl_lower_ev (s : ByteArray) (hs : Small s.size) : Ev (fun k => impl_lower.f k s) (lowB s) := by
  unfold impl_lower.f
  refine all_loop (g := fun k x => impl_lower.l0 k s (s.size : Int) x) s.size (lowP s) false true ?_ ?_ ?_
  · intro i r hi hp hr
    have c1 : (i : Int) < (s.size : Int) := by omega
    have c2 : (0 : Int) ≤ (i : Int) := by omega
    have c3 : ¬ bt s (i : Int) < 97 := by have := hp.1; omega
    have c4 : ¬ bt s (i : Int) > 122 := by have := hp.2; omega
    have w1 : Aside0 (wrap64 ((i : Int) + 1) = (i : Int) + 1) := ⟨wid (by omega) (by simp [Small] at hs; omega)⟩
    apply Ev.succ
    simp only [impl_lower.l0, c1, c2, c3, c4, w1.out, if_true, if_false]
    exact hr
  · intro i hi hp
    have c1 : (i : Int) < (s.size : Int) := by omega
    have c2 : (0 : Int) ≤ (i : Int) := by omega
    apply Ev.succ
    simp only [impl_lower.l0, c1, c2, if_true]
    by_cases c3 : bt s (i : Int) < 97
    · exact Ev.ifp c3 (Ev.now _)
    · refine Ev.ifn c3 (Ev.ifp ?_ (Ev.now _))
      by_cases c4 : bt s (i : Int) > 122
      · exact c4
      · exact absurd ⟨by omega, by omega⟩ hp
  · apply Ev.succ
    simp only [impl_lower.l0, Int.lt_irrefl, if_false]
    exact Ev.now _
theorem spec_l1Letters_ev (s : ByteArray) (m : Int) (hs : Small s.size) : Ev (fun k => spec_l1Letters.f k s m) (lowB s && decide ((s.size : Int) ≤ m)) := by
  unfold spec_l1Letters.f
  have key := all_loop (g := fun k x => spec_l1Letters.l0 k s m x) s.size (lowP s) false (decide ((s.size : Int) ≤ m)) ?_ ?_ ?_
  · refine Ev.cast key ?_
    unfold lowB
    split <;> simp_all
  · intro i r hi hp hr
    have c1 : (i : Int) < (s.size : Int) := by omega
    have c2 : (0 : Int) ≤ (i : Int) := by omega
    have c3 : ¬ bt s (i : Int) < 97 := by have := hp.1; omega
    have c4 : ¬ bt s (i : Int) > 122 := by have := hp.2; omega
    have w1 : Aside0 (wrap64 ((i : Int) + 1) = (i : Int) + 1) := ⟨wid (by omega) (by simp [Small] at hs; omega)⟩
    apply Ev.succ
    simp only [spec_l1Letters.l0, c1, c2, c3, c4, w1.out, if_true, if_false]
    exact hr
  · intro i hi hp
    have c1 : (i : Int) < (s.size : Int) := by omega
    have c2 : (0 : Int) ≤ (i : Int) := by omega
    apply Ev.succ
    simp only [spec_l1Letters.l0, c1, c2, if_true]
    by_cases c3 : bt s (i : Int) < 97
    · exact Ev.ifp c3 (Ev.now _)
    · refine Ev.ifn c3 (Ev.ifp ?_ (Ev.now _))
      by_cases c4 : bt s (i : Int) > 122
      · exact c4
      · exact absurd ⟨by omega, by omega⟩ hp
  · apply Ev.succ
    simp only [spec_l1Letters.l0, Int.lt_irrefl, if_false]
    exact Ev.now _
def wordB (s : ByteArray) : Bool := decide (1 ≤ s.size) && (decide (s.size ≤ 12) && lowB s)
theorem impl_WordOk_ev (s : ByteArray) (hs : Small s.size) : Ev (fun k => impl_WordOk.f k s) (wordB s) := by
  unfold impl_WordOk.f impl_within.f
  by_cases c1 : (s.size : Int) ≥ 1
  · simp only [c1, if_true, Option.bind_some]
    by_cases c2 : (s.size : Int) ≤ 12
    · simp only [c2, decide_true, if_true]
      refine Ev.bind (impl_lower_ev s hs) (Ev.cast (Ev.now _) ?_)
      unfold wordB
      have a1 : 1 ≤ s.size := by omega
      have a2 : s.size ≤ 12 := by omega
      simp [a1, a2]
    · simp only [c2, decide_false, Bool.false_eq_true, if_false]
      refine Ev.cast (Ev.now _) ?_
      unfold wordB
      have a2 : ¬ s.size ≤ 12 := by omega
      simp [a2]
  · simp only [c1, if_false, Option.bind_some, Bool.false_eq_true]
    refine Ev.cast (Ev.now _) ?_
    unfold wordB
    have a1 : ¬ 1 ≤ s.size := by omega
    simp [a1]
theorem spec_l1Word_ev (s : ByteArray) (hs : Small s.size) : Ev (fun k => spec_l1Word.f k s) (wordB s) := by
  unfold spec_l1Word.f
  by_cases c1 : (s.size : Int) > 0
  · refine Ev.ifp c1 (Ev.bind (spec_l1Letters_ev s 12 hs) (Ev.cast (Ev.now _) ?_))
    unfold wordB
    have a1 : 1 ≤ s.size := by omega
    have a2 : ((s.size : Int) ≤ 12) ↔ s.size ≤ 12 := by omega
    simp [a1, a2, Bool.and_comm]
  · refine Ev.ifn c1 (Ev.cast (Ev.now _) ?_)
    unfold wordB
    have a1 : ¬ 1 ≤ s.size := by omega
    simp [a1]
def upB (c : Int) : Bool := decide (65 ≤ c) && decide (c ≤ 90)
theorem impl_upper_eq (c : Int) : impl_upper.f c = some (upB c) := by
  unfold impl_upper.f upB
  by_cases h : c ≥ 65
  · have h' : 65 ≤ c := h
    rw [if_pos h]
    simp [h']
  · have h' : ¬ 65 ≤ c := h
    rw [if_neg h]
    simp [h']
def flagB (s : ByteArray) : Bool := decide (s.size = 1) && upB (bt s 0)
theorem spec_l2Flag_eq (s : ByteArray) : spec_l2Flag.f s = some (flagB s) := by
  unfold spec_l2Flag.f flagB upB
  by_cases h : s.size = 1
  · have h1 : (s.size : Int) = 1 := by omega
    have h2 : (0 : Int) < (s.size : Int) := by omega
    rw [if_pos h1, if_pos h2]
    by_cases h3 : bt s 0 ≥ 65
    · have h' : 65 ≤ bt s 0 := h3
      rw [if_pos h3]
      simp [h, h']
    · have h' : ¬ 65 ≤ bt s 0 := h3
      rw [if_neg h3]
      simp [h, h']
  · have h1 : ¬ (s.size : Int) = 1 := by omega
    rw [if_neg h1]
    simp [h]
def begB (s p : ByteArray) : Bool := if p.size ≤ s.size then (s.extract 0 p.size).toList == p.toList else false
def endB (s p : ByteArray) : Bool := if p.size ≤ s.size then (s.extract (s.size - p.size) s.size).toList == p.toList else false
theorem pre_eq (s p : ByteArray) : (if (s.size : Int) ≥ (p.size : Int) then (if 0 ≤ (p.size : Int) then (if (p.size : Int) ≤ (s.size : Int) then (some ((s.extract 0 ((p.size : Int) : Int).toNat).toList == p.toList)) else (none)) else (none)) else (some false)) = some (begB s p) := by
  unfold begB
  by_cases h : p.size ≤ s.size
  · have h1 : (s.size : Int) ≥ (p.size : Int) := by omega
    have h2 : (0 : Int) ≤ (p.size : Int) := by omega
    have h3 : (p.size : Int) ≤ (s.size : Int) := by omega
    rw [if_pos h1, if_pos h2, if_pos h3, if_pos h, Int.toNat_natCast]
  · have h1 : ¬ (s.size : Int) ≥ (p.size : Int) := by omega
    rw [if_neg h1, if_neg h]
theorem suf_eq (s p : ByteArray) (hs : Small s.size) : (if (s.size : Int) ≥ (p.size : Int) then (if 0 ≤ (wrap64 ((s.size : Int) - (p.size : Int))) then (if (wrap64 ((s.size : Int) - (p.size : Int))) ≤ (s.size : Int) then (some ((s.extract ((wrap64 ((s.size : Int) - (p.size : Int))) : Int).toNat s.size).toList == p.toList)) else (none)) else (none)) else (some false)) = some (endB s p) := by
  unfold endB
  by_cases h : p.size ≤ s.size
  · have h1 : (s.size : Int) ≥ (p.size : Int) := by omega
    have w : wrap64 ((s.size : Int) - (p.size : Int)) = ((s.size - p.size : Nat) : Int) := by rw [wid (by omega) (by simp [Small] at hs; omega)]; omega
    have h2 : (0 : Int) ≤ ((s.size - p.size : Nat) : Int) := by omega
    have h3 : ((s.size - p.size : Nat) : Int) ≤ (s.size : Int) := by omega
    rw [if_pos h1, w, if_pos h2, if_pos h3, if_pos h, Int.toNat_natCast]
  · have h1 : ¬ (s.size : Int) ≥ (p.size : Int) := by omega
    rw [if_neg h1, if_neg h]
theorem hasPrefix_beg (s p : ByteArray) : strings_HasPrefix.f s p = some (begB s p) := by
  unfold strings_HasPrefix.f stringslite_HasPrefix.f
  rw [pre_eq]
  rfl
theorem hasSuffix_end (s p : ByteArray) (hs : Small s.size) : strings_HasSuffix.f s p = some (endB s p) := by
  unfold strings_HasSuffix.f stringslite_HasSuffix.f
  rw [suf_eq s p hs]
  rfl
theorem spec_l2Begins_eq (s p : ByteArray) : spec_l2Begins.f s p = some (begB s p) := by
  unfold spec_l2Begins.f
  exact pre_eq s p
theorem spec_l2Ends_eq (s p : ByteArray) (hs : Small s.size) : spec_l2Ends.f s p = some (endB s p) := by
  unfold spec_l2Ends.f
  exact suf_eq s p hs
def partB (s : ByteArray) : Bool := lowB s && decide (s.size ≤ 4)
def affB (a : Af) : Bool := flagB a.f0 && (partB a.f2 && (partB a.f3 && (partB a.f4 && (if a.f1 = true then begB a.f4 a.f2 else endB a.f4 a.f2))))
def SmallA (a : Af) : Prop := Small a.f0.size ∧ Small a.f2.size ∧ Small a.f3.size ∧ Small a.f4.size
theorem part_cast (s : ByteArray) : (lowB s && decide ((s.size : Int) ≤ 4)) = partB s := by
  unfold partB
  have a2 : ((s.size : Int) ≤ 4) ↔ s.size ≤ 4 := by omega
  simp [a2]
theorem spec_AffixOk_ev (a : Af) (h : SmallA a) : Ev (fun k => spec_AffixOk.f k a.f0 a.f1 a.f2 a.f3 a.f4) (affB a) := by
  obtain ⟨h0, h2, h3, h4⟩ := h
  have no : ∀ u v x y z, Ev (fun k => spec_AffixOk.j0 k true u v x y z) false := fun u v x y z => by
    apply Ev.succ
    simp only [spec_AffixOk.j0, if_true]
    exact Ev.now _
  have yes : Ev (fun k => spec_AffixOk.j0 k false a.f0 a.f1 a.f2 a.f3 a.f4) (if a.f1 = true then begB a.f4 a.f2 else endB a.f4 a.f2) := by
    apply Ev.succ
    simp only [spec_AffixOk.j0, Bool.false_eq_true, if_false, spec_l2Begins_eq, spec_l2Ends_eq _ _ h4, Option.bind_some]
    cases a.f1
    · simp only [Bool.false_eq_true, if_false]; exact Ev.now _
    · simp only [if_true]; exact Ev.now _
  unfold spec_AffixOk.f affB
  simp only [spec_l2Flag_eq, Option.bind_some]
  cases flagB a.f0
  · simp only [Bool.false_eq_true, if_false, Bool.false_and]; exact no _ _ _ _ _
  simp only [if_true, Bool.true_and]
  refine Ev.bind (Ev.cast (spec_l1Letters_ev a.f2 4 h2) (part_cast _)) ?_
  cases partB a.f2
  · simp only [Bool.false_eq_true, if_false, Bool.false_and]; exact no _ _ _ _ _
  simp only [if_true, Bool.true_and]
  refine Ev.bind (Ev.cast (spec_l1Letters_ev a.f3 4 h3) (part_cast _)) ?_
  cases partB a.f3
  · simp only [Bool.false_eq_true, if_false, Bool.false_and]; exact no _ _ _ _ _
  simp only [if_true, Bool.true_and]
  refine Ev.bind (Ev.cast (spec_l1Letters_ev a.f4 4 h4) (part_cast _)) ?_
  cases partB a.f4
  · simp only [Bool.not_false, Bool.false_and]; exact no _ _ _ _ _
  simp only [Bool.not_true, Bool.true_and]
  exact yes
theorem impl_AffixOk_ev (a : Af) (h : SmallA a) : Ev (fun k => impl_AffixOk.f k a.f0 a.f1 a.f2 a.f3 a.f4) (affB a) := by
  obtain ⟨h0, h2, h3, h4⟩ := h
  have no : ∀ u v x y z, Ev (fun k => impl_AffixOk.j0 k true u v x y z) false := fun u v x y z => by
    apply Ev.succ
    simp only [impl_AffixOk.j0, if_true]
    exact Ev.now _
  have one : ∀ (s : ByteArray) (hs : Small s.size) (r : Bool) (f : Nat → Option Bool), Ev f r → Ev (fun k => if (s.size : Int) > 4 then some false else ((impl_lower.f k s).bind fun t107 => if t107 = true then f k else some false)) (partB s && r) := by
    intro s hs r f hf
    by_cases c : (s.size : Int) > 4
    · refine Ev.ifp c (Ev.cast (Ev.now _) ?_)
      have a2 : ¬ s.size ≤ 4 := by omega
      simp [partB, a2]
    · refine Ev.ifn c (Ev.bind (impl_lower_ev s hs) ?_)
      have a2 : s.size ≤ 4 := by omega
      cases hl : lowB s
      · simp only [Bool.false_eq_true, if_false]
        refine Ev.cast (Ev.now _) ?_
        simp [partB, hl]
      · simp only [if_true]
        refine Ev.cast hf ?_
        simp [partB, hl, a2]
  have last : Ev (fun k => impl_AffixOk.l0 k [a.f2, a.f3, a.f4] 3 3 a.f0 a.f1 a.f2 a.f3 a.f4) (if a.f1 = true then begB a.f4 a.f2 else endB a.f4 a.f2) := by
    apply Ev.succ
    simp only [impl_AffixOk.l0, Int.lt_irrefl, if_false, hasPrefix_beg, hasSuffix_end _ _ h4, Option.bind_some]
    cases a.f1
    · simp only [Bool.false_eq_true, if_false]; exact Ev.now _
    · simp only [if_true]; exact Ev.now _
  have w2 : wrap64 (2 + 1) = 3 := wid (by omega) (by omega)
  have w1 : wrap64 (1 + 1) = 2 := wid (by omega) (by omega)
  have w0 : wrap64 (0 + 1) = 1 := wid (by omega) (by omega)
  have l2 : Ev (fun k => impl_AffixOk.l0 k [a.f2, a.f3, a.f4] 3 2 a.f0 a.f1 a.f2 a.f3 a.f4) (partB a.f4 && (if a.f1 = true then begB a.f4 a.f2 else endB a.f4 a.f2)) := by
    apply Ev.succ
    have e : rdOf ByteArray.empty [a.f2, a.f3, a.f4] 2 = a.f4 := rfl
    simp only [impl_AffixOk.l0, e, w2, show ((2 : Int) < 3) from by decide, show ((0 : Int) ≤ 2) from by decide, show ((2 : Int) < (([a.f2, a.f3, a.f4] : List ByteArray).length : Int)) from by simp, if_true]
    exact one a.f4 h4 _ _ last
  have l1 : Ev (fun k => impl_AffixOk.l0 k [a.f2, a.f3, a.f4] 3 1 a.f0 a.f1 a.f2 a.f3 a.f4) (partB a.f3 && (partB a.f4 && (if a.f1 = true then begB a.f4 a.f2 else endB a.f4 a.f2))) := by
    apply Ev.succ
    have e : rdOf ByteArray.empty [a.f2, a.f3, a.f4] 1 = a.f3 := rfl
    simp only [impl_AffixOk.l0, e, w1, show ((1 : Int) < 3) from by decide, show ((0 : Int) ≤ 1) from by decide, show ((1 : Int) < (([a.f2, a.f3, a.f4] : List ByteArray).length : Int)) from by simp, if_true]
    exact one a.f3 h3 _ _ l2
  have l0 : Ev (fun k => impl_AffixOk.l0 k [a.f2, a.f3, a.f4] 3 0 a.f0 a.f1 a.f2 a.f3 a.f4) (partB a.f2 && (partB a.f3 && (partB a.f4 && (if a.f1 = true then begB a.f4 a.f2 else endB a.f4 a.f2)))) := by
    apply Ev.succ
    have e : rdOf ByteArray.empty [a.f2, a.f3, a.f4] 0 = a.f2 := rfl
    simp only [impl_AffixOk.l0, e, w0, show ((0 : Int) < 3) from by decide, show ((0 : Int) ≤ 0) from by decide, show ((0 : Int) < (([a.f2, a.f3, a.f4] : List ByteArray).length : Int)) from by simp, if_true]
    exact one a.f2 h2 _ _ l1
  have yes : Ev (fun k => impl_AffixOk.j0 k false a.f0 a.f1 a.f2 a.f3 a.f4) (partB a.f2 && (partB a.f3 && (partB a.f4 && (if a.f1 = true then begB a.f4 a.f2 else endB a.f4 a.f2)))) := by
    apply Ev.succ
    simp only [impl_AffixOk.j0, Bool.false_eq_true, if_false, Option.bind_some]
    exact l0
  unfold impl_AffixOk.f affB flagB
  by_cases c : a.f0.size = 1
  · have c1 : (a.f0.size : Int) = 1 := by omega
    have c2 : (0 : Int) < (a.f0.size : Int) := by omega
    simp only [c1, if_true, impl_upper_eq, Option.bind_some, c, decide_true, Bool.true_and, show ((0 : Int) < 1) from by decide]
    cases upB (bt a.f0 0)
    · simp only [Bool.not_false, Bool.false_and]; exact no _ _ _ _ _
    · simp only [Bool.not_true, Bool.true_and]; exact yes
  · have c1 : ¬ (a.f0.size : Int) = 1 := by omega
    simp only [c1, if_false, c, decide_false, Bool.false_and]
    exact no _ _ _ _ _
end Go.Proofs.YtabindnaedchgaaDoor.M
end

section
/- Lists of words, entries and affixes, deltas: what is ok, plain. -/
namespace Go.Proofs.YtabindnaedchgaaDoor.M
open Go.RowKit Go.Proofs.YtabindnaedchgaaDoorW.PrintWords Go.Proofs.YtabindnaedchgaaDoor.Pu
set_option linter.unusedVariables false
set_option linter.unusedSimpArgs false
theorem find_from {α : Type} {g : Nat → Int → Option α} (n : Nat) (P : Nat → Prop) [DecidablePred P] (fin : α) (S : α → Prop)
    (step : ∀ (i : Nat) (r : α), i < n → P i → Ev (fun k => g k ((i : Int) + 1)) r → Ev (fun k => g k (i : Int)) r)
    (fail : ∀ i : Nat, i < n → ¬ P i → ∃ r, Ev (fun k => g k (i : Int)) r ∧ S r)
    (done : Ev (fun k => g k (n : Int)) fin) (d : Nat) : ∀ i : Nat, n - i = d → i ≤ n → ((∀ j, j < n → i ≤ j → P j) ∧ Ev (fun k => g k (i : Int)) fin) ∨ ((∃ j, j < n ∧ i ≤ j ∧ ¬ P j) ∧ ∃ r, Ev (fun k => g k (i : Int)) r ∧ S r) := by
  induction d with
  | zero =>
    intro i hd hi
    obtain rfl : i = n := by omega
    exact .inl ⟨fun j h1 h2 => absurd h1 (by omega), done⟩
  | succ d ih =>
    intro i hd hi
    by_cases hp : P i
    · rcases ih (i + 1) (by omega) (by omega) with ⟨h1, h2⟩ | ⟨⟨j, h1, h2, h3⟩, r, h4, h5⟩
      · refine .inl ⟨fun j a b => ?_, step i _ (by omega) hp (by exact_mod_cast h2)⟩
        rcases Nat.eq_or_lt_of_le b with rfl | c
        · exact hp
        · exact h1 j a c
      · exact .inr ⟨⟨j, h1, by omega, h3⟩, r, step i _ (by omega) hp (by exact_mod_cast h4), h5⟩
    · exact .inr ⟨⟨i, by omega, Nat.le_refl _, hp⟩, fail i (by omega) hp⟩
theorem stop_loop {α : Type} {g : Nat → Int → Option α} (n : Nat) (P : Nat → Prop) (stop : α) (j : Nat) (hj : j < n) (hP : ¬ P j)
    (step : ∀ (i : Nat) (r : α), i < n → P i → Ev (fun k => g k ((i : Int) + 1)) r → Ev (fun k => g k (i : Int)) r)
    (fail : ∀ i : Nat, i < n → ¬ P i → Ev (fun k => g k (i : Int)) stop) : Ev (fun k => g k 0) stop := by
  have key : ∀ d i : Nat, j - i = d → i ≤ j → Ev (fun k => g k (i : Int)) stop := by
    intro d
    induction d with
    | zero =>
      intro i hd hi
      obtain rfl : i = j := by omega
      exact fail i hj hP
    | succ d ih =>
      intro i hd hi
      by_cases hp : P i
      · exact step i _ (by omega) hp (by exact_mod_cast ih (i + 1) (by omega) (by omega))
      · exact fail i (by omega) hp
  exact_mod_cast key j 0 (by omega) (by omega)
def entP (s : ByteArray) (j : Nat) : Prop := upB (bt s (j : Int)) = true ∧ (0 < j → bt s (((j - 1 : Nat)) : Int) < bt s (j : Int))
instance (s : ByteArray) (j : Nat) : Decidable (entP s j) := inferInstanceAs (Decidable (_ ∧ _))
def entB (e : En) : Bool := if ∀ j, j < e.f1.size → entP e.f1 j then (wordB e.f0 && decide (e.f1.size ≤ 4)) else false
def SmallE (e : En) : Prop := Small e.f0.size ∧ Small e.f1.size
theorem tail_cast (b : Bool) (n m : Nat) : (if b = true then some (decide ((n : Int) ≤ (m : Int))) else some false) = some (b && decide (n ≤ m)) := by
  have a2 : ((n : Int) ≤ (m : Int)) ↔ n ≤ m := by omega
  cases b <;> simp [a2]
theorem impl_entryOk_ev (e : En) (h : SmallE e) : Ev (fun k => impl_entryOk.f k e.f0 e.f1) (entB e) := by
  obtain ⟨h0, h1⟩ := h
  unfold impl_entryOk.f
  refine all_loop (g := fun k x => impl_entryOk.l0 k (e.f1.size : Int) x e.f0 e.f1) e.f1.size (entP e.f1) false _ ?_ ?_ ?_
  · intro i r hi hp hr
    have c1 : (i : Int) < (e.f1.size : Int) := by omega
    have c2 : (0 : Int) ≤ (i : Int) := by omega
    have w1 : Aside0 (wrap64 ((i : Int) + 1) = (i : Int) + 1) := ⟨wid (by omega) (by simp [Small] at h1; omega)⟩
    apply Ev.succ
    simp only [impl_entryOk.l0, c1, c2, impl_upper_eq, hp.1, Option.bind_some, w1.out, if_true]
    by_cases c3 : (i : Int) > 0
    · have w2 : Aside0 (wrap64 ((i : Int) - 1) = ((i - 1 : Nat) : Int)) := ⟨by rw [wid (by omega) (by simp [Small] at h1; omega)]; omega⟩
      have c4 : (0 : Int) ≤ ((i - 1 : Nat) : Int) := by omega
      have c5 : ((i - 1 : Nat) : Int) < (e.f1.size : Int) := by omega
      have c6 : ¬ bt e.f1 ((i - 1 : Nat) : Int) ≥ bt e.f1 (i : Int) := by have := hp.2 (by omega); omega
      simp only [c3, w2.out, c4, c5, c6, if_true, if_false]
      exact hr
    · simp only [c3, if_false]
      exact hr
  · intro i hi hp
    have c1 : (i : Int) < (e.f1.size : Int) := by omega
    have c2 : (0 : Int) ≤ (i : Int) := by omega
    apply Ev.succ
    simp only [impl_entryOk.l0, c1, c2, impl_upper_eq, Option.bind_some, if_true]
    cases hu : upB (bt e.f1 (i : Int))
    · simp only [Bool.false_eq_true, if_false]
      exact Ev.now _
    · simp only [if_true]
      have c3 : (i : Int) > 0 := by
        by_cases c : (i : Int) > 0
        · exact c
        · exact absurd ⟨hu, fun h => absurd h (by omega)⟩ hp
      have w2 : Aside0 (wrap64 ((i : Int) - 1) = ((i - 1 : Nat) : Int)) := ⟨by rw [wid (by omega) (by simp [Small] at h1; omega)]; omega⟩
      have c4 : (0 : Int) ≤ ((i - 1 : Nat) : Int) := by omega
      have c5 : ((i - 1 : Nat) : Int) < (e.f1.size : Int) := by omega
      have c6 : bt e.f1 ((i - 1 : Nat) : Int) ≥ bt e.f1 (i : Int) := by
        by_cases c : bt e.f1 ((i - 1 : Nat) : Int) < bt e.f1 (i : Int)
        · exact absurd ⟨hu, fun _ => c⟩ hp
        · omega
      simp only [c3, w2.out, c4, c5, c6, if_true]
      exact Ev.now _
  · apply Ev.succ
    simp only [impl_entryOk.l0, Int.lt_irrefl, if_false]
    refine Ev.bind (impl_WordOk_ev e.f0 h0) ?_
    exact Ev.congr (fun _ => tail_cast _ _ 4) (Ev.now _)
theorem bt_one (s : ByteArray) (i : Nat) (h : i < s.size) : bt (s.extract i (i + 1)) 0 = bt s (i : Int) := by
  have e0 := bt_nat (s.extract i (i + 1)) 0
  rw [bt_nat s i, dif_pos h]
  have hz : (s.extract i (i + 1)).size = 1 := by rw [ByteArray.size_extract]; omega
  have e1 : bt (s.extract i (i + 1)) 0 = bt (s.extract i (i + 1)) ((0 : Nat) : Int) := rfl
  rw [e1, e0, dif_pos (by omega)]
  simp [ByteArray.getElem_extract]
theorem spec_l2Entry_ev (e : En) (h : SmallE e) : Ev (fun k => spec_l2Entry.f k e.f0 e.f1) (entB e) := by
  obtain ⟨h0, h1⟩ := h
  unfold spec_l2Entry.f
  have fl : ∀ i : Nat, i < e.f1.size → spec_l2Flag.f (e.f1.extract i (i + 1)) = some (upB (bt e.f1 (i : Int))) := by
    intro i hi
    rw [spec_l2Flag_eq]
    unfold flagB
    have hz : (e.f1.extract i (i + 1)).size = 1 := by rw [ByteArray.size_extract]; omega
    rw [hz, bt_one _ _ hi]
    simp
  refine all_loop (g := fun k x => spec_l2Entry.l0 k x e.f0 e.f1) e.f1.size (entP e.f1) false _ ?_ ?_ ?_
  · intro i r hi hp hr
    have c1 : (i : Int) < (e.f1.size : Int) := by omega
    have c2 : (0 : Int) ≤ (i : Int) := by omega
    have w1 : Aside0 (wrap64 ((i : Int) + 1) = (i : Int) + 1) := ⟨wid (by omega) (by simp [Small] at h1; omega)⟩
    have c7 : (i : Int) ≤ (i : Int) + 1 := by omega
    have c8 : (i : Int) + 1 ≤ (e.f1.size : Int) := by omega
    have e0 : (i : Int).toNat = i := by omega
    have e1 : ((i : Int) + 1).toNat = i + 1 := by omega
    apply Ev.succ
    simp only [spec_l2Entry.l0, c1, c2, w1.out, c7, c8, e0, e1, fl i hi, hp.1, Option.bind_some, if_true]
    by_cases c3 : (i : Int) > 0
    · have w2 : Aside0 (wrap64 ((i : Int) - 1) = ((i - 1 : Nat) : Int)) := ⟨by rw [wid (by omega) (by simp [Small] at h1; omega)]; omega⟩
      have c4 : (0 : Int) ≤ ((i - 1 : Nat) : Int) := by omega
      have c5 : ((i - 1 : Nat) : Int) < (e.f1.size : Int) := by omega
      have c6 : ¬ bt e.f1 ((i - 1 : Nat) : Int) ≥ bt e.f1 (i : Int) := by have := hp.2 (by omega); omega
      simp only [c3, w2.out, c4, c5, c6, if_true, if_false]
      exact hr
    · simp only [c3, if_false]
      exact hr
  · intro i hi hp
    have c1 : (i : Int) < (e.f1.size : Int) := by omega
    have c2 : (0 : Int) ≤ (i : Int) := by omega
    have w1 : Aside0 (wrap64 ((i : Int) + 1) = (i : Int) + 1) := ⟨wid (by omega) (by simp [Small] at h1; omega)⟩
    have c7 : (i : Int) ≤ (i : Int) + 1 := by omega
    have c8 : (i : Int) + 1 ≤ (e.f1.size : Int) := by omega
    have e0 : (i : Int).toNat = i := by omega
    have e1 : ((i : Int) + 1).toNat = i + 1 := by omega
    apply Ev.succ
    simp only [spec_l2Entry.l0, c1, c2, w1.out, c7, c8, e0, e1, fl i hi, Option.bind_some, if_true]
    cases hu : upB (bt e.f1 (i : Int))
    · simp only [Bool.false_eq_true, if_false]
      exact Ev.now _
    · simp only [if_true]
      have c3 : (i : Int) > 0 := by
        by_cases c : (i : Int) > 0
        · exact c
        · exact absurd ⟨hu, fun h => absurd h (by omega)⟩ hp
      have w2 : Aside0 (wrap64 ((i : Int) - 1) = ((i - 1 : Nat) : Int)) := ⟨by rw [wid (by omega) (by simp [Small] at h1; omega)]; omega⟩
      have c4 : (0 : Int) ≤ ((i - 1 : Nat) : Int) := by omega
      have c5 : ((i - 1 : Nat) : Int) < (e.f1.size : Int) := by omega
      have c6 : bt e.f1 ((i - 1 : Nat) : Int) ≥ bt e.f1 (i : Int) := by
        by_cases c : bt e.f1 ((i - 1 : Nat) : Int) < bt e.f1 (i : Int)
        · exact absurd ⟨hu, fun _ => c⟩ hp
        · omega
      simp only [c3, w2.out, c4, c5, c6, if_true]
      exact Ev.now _
  · apply Ev.succ
    simp only [spec_l2Entry.l0, Int.lt_irrefl, if_false]
    refine Ev.bind (spec_l1Word_ev e.f0 h0) ?_
    exact Ev.congr (fun _ => tail_cast _ _ 4) (Ev.now _)
def less (a b : ByteArray) : Bool := Op.bytesLess a.toList b.toList
def wsP (l : List ByteArray) (j : Nat) : Prop := wordB (rdOf ByteArray.empty l (j : Int)) = true ∧ (0 < j → less (rdOf ByteArray.empty l ((j - 1 : Nat) : Int)) (rdOf ByteArray.empty l (j : Int)) = true)
instance (l : List ByteArray) (j : Nat) : Decidable (wsP l j) := inferInstanceAs (Decidable (_ ∧ _))
def wsB (l : List ByteArray) (m : Nat) : Bool := if ∀ j, j < l.length → wsP l j then decide (l.length ≤ m) else false
theorem impl_wordsOk_ev (l : List ByteArray) (m : Nat) (hl : Small l.length) (h : ∀ s ∈ l, Small s.size) : Ev (fun k => impl_wordsOk.f k l (m : Int)) (wsB l m) := by
  unfold impl_wordsOk.f
  have sm : ∀ i : Nat, i < l.length → Small (rdOf ByteArray.empty l (i : Int)).size := fun i hi => by rw [sAt_nat l i hi]; exact h _ (List.getElem_mem hi)
  refine all_loop (g := fun k x => impl_wordsOk.l0 k l (m : Int) l (l.length : Int) x) l.length (wsP l) false _ ?_ ?_ ?_
  · intro i r hi hp hr
    have c1 : (i : Int) < (l.length : Int) := by omega
    have c2 : (0 : Int) ≤ (i : Int) := by omega
    have w1 : Aside0 (wrap64 ((i : Int) + 1) = (i : Int) + 1) := ⟨wid (by omega) (by simp [Small] at hl; omega)⟩
    apply Ev.succ
    simp only [impl_wordsOk.l0, c1, c2, w1.out, if_true]
    refine Ev.bind (Ev.cast (impl_WordOk_ev _ (sm i hi)) hp.1) ?_
    simp only [if_true]
    by_cases c3 : (i : Int) > 0
    · have w2 : Aside0 (wrap64 ((i : Int) - 1) = ((i - 1 : Nat) : Int)) := ⟨by rw [wid (by omega) (by simp [Small] at hl; omega)]; omega⟩
      have c4 : (0 : Int) ≤ ((i - 1 : Nat) : Int) := by omega
      have c5 : ((i - 1 : Nat) : Int) < (l.length : Int) := by omega
      have c6 : Op.bytesLess (rdOf ByteArray.empty l ((i - 1 : Nat) : Int)).toList (rdOf ByteArray.empty l (i : Int)).toList = true := hp.2 (by omega)
      simp only [c3, w2.out, c4, c5, c6, if_true]
      exact hr
    · simp only [c3, if_false]
      exact hr
  · intro i hi hp
    have c1 : (i : Int) < (l.length : Int) := by omega
    have c2 : (0 : Int) ≤ (i : Int) := by omega
    apply Ev.succ
    simp only [impl_wordsOk.l0, c1, c2, if_true]
    refine Ev.bind (impl_WordOk_ev _ (sm i hi)) ?_
    cases hu : wordB (rdOf ByteArray.empty l (i : Int))
    · simp only [Bool.false_eq_true, if_false]
      exact Ev.now _
    · simp only [if_true]
      have c3 : (i : Int) > 0 := by
        by_cases c : (i : Int) > 0
        · exact c
        · exact absurd ⟨hu, fun h => absurd h (by omega)⟩ hp
      have w2 : Aside0 (wrap64 ((i : Int) - 1) = ((i - 1 : Nat) : Int)) := ⟨by rw [wid (by omega) (by simp [Small] at hl; omega)]; omega⟩
      have c4 : (0 : Int) ≤ ((i - 1 : Nat) : Int) := by omega
      have c5 : ((i - 1 : Nat) : Int) < (l.length : Int) := by omega
      have c6 : ¬ Op.bytesLess (rdOf ByteArray.empty l ((i - 1 : Nat) : Int)).toList (rdOf ByteArray.empty l (i : Int)).toList = true := fun c => hp ⟨hu, fun _ => c⟩
      simp only [c3, w2.out, c4, c5, c6, if_true, if_false]
      exact Ev.now _
  · apply Ev.succ
    simp only [impl_wordsOk.l0, Int.lt_irrefl, if_false]
    refine Ev.cast (Ev.now _) ?_
    have a2 : ((l.length : Int) ≤ (m : Int)) ↔ l.length ≤ m := by omega
    simp [a2]
def esP (l : List En) (j : Nat) : Prop := entB (eAt l (j : Int)) = true ∧ (0 < j → less (eAt l ((j - 1 : Nat) : Int)).f0 (eAt l (j : Int)).f0 = true)
instance (l : List En) (j : Nat) : Decidable (esP l j) := inferInstanceAs (Decidable (_ ∧ _))
def esB (l : List En) : Bool := if ∀ j, j < l.length → esP l j then decide (l.length ≤ 24) else false
theorem impl_entriesOk_ev (l : List En) (hl : Small l.length) (h : ∀ e ∈ l, SmallE e) : Ev (fun k => impl_entriesOk.f k l) (esB l) := by
  unfold impl_entriesOk.f
  have sm : ∀ i : Nat, i < l.length → SmallE (eAt l (i : Int)) := fun i hi => by rw [eAt_nat l i hi]; exact h _ (List.getElem_mem hi)
  refine all_loop (g := fun k x => impl_entriesOk.l0 k l l (l.length : Int) x) l.length (esP l) false _ ?_ ?_ ?_
  · intro i r hi hp hr
    have c1 : (i : Int) < (l.length : Int) := by omega
    have c2 : (0 : Int) ≤ (i : Int) := by omega
    have w1 : Aside0 (wrap64 ((i : Int) + 1) = (i : Int) + 1) := ⟨wid (by omega) (by simp [Small] at hl; omega)⟩
    apply Ev.succ
    simp only [impl_entriesOk.l0, c1, c2, w1.out, if_true]
    refine Ev.bind (Ev.cast (impl_entryOk_ev _ (sm i hi)) hp.1) ?_
    simp only [if_true]
    by_cases c3 : (i : Int) > 0
    · have w2 : Aside0 (wrap64 ((i : Int) - 1) = ((i - 1 : Nat) : Int)) := ⟨by rw [wid (by omega) (by simp [Small] at hl; omega)]; omega⟩
      have c4 : (0 : Int) ≤ ((i - 1 : Nat) : Int) := by omega
      have c5 : ((i - 1 : Nat) : Int) < (l.length : Int) := by omega
      have c6 : Op.bytesLess (eAt l ((i - 1 : Nat) : Int)).f0.toList (eAt l (i : Int)).f0.toList = true := hp.2 (by omega)
      simp only [c3, w2.out, c4, c5, c6, if_true]
      exact hr
    · simp only [c3, if_false]
      exact hr
  · intro i hi hp
    have c1 : (i : Int) < (l.length : Int) := by omega
    have c2 : (0 : Int) ≤ (i : Int) := by omega
    apply Ev.succ
    simp only [impl_entriesOk.l0, c1, c2, if_true]
    refine Ev.bind (impl_entryOk_ev _ (sm i hi)) ?_
    cases hu : entB (eAt l (i : Int))
    · simp only [Bool.false_eq_true, if_false]
      exact Ev.now _
    · simp only [if_true]
      have c3 : (i : Int) > 0 := by
        by_cases c : (i : Int) > 0
        · exact c
        · exact absurd ⟨hu, fun h => absurd h (by omega)⟩ hp
      have w2 : Aside0 (wrap64 ((i : Int) - 1) = ((i - 1 : Nat) : Int)) := ⟨by rw [wid (by omega) (by simp [Small] at hl; omega)]; omega⟩
      have c4 : (0 : Int) ≤ ((i - 1 : Nat) : Int) := by omega
      have c5 : ((i - 1 : Nat) : Int) < (l.length : Int) := by omega
      have c6 : ¬ Op.bytesLess (eAt l ((i - 1 : Nat) : Int)).f0.toList (eAt l (i : Int)).f0.toList = true := fun c => hp ⟨hu, fun _ => c⟩
      simp only [c3, w2.out, c4, c5, c6, if_true, if_false]
      exact Ev.now _
  · apply Ev.succ
    simp only [impl_entriesOk.l0, Int.lt_irrefl, if_false]
    refine Ev.cast (Ev.now _) ?_
    have a2 : ((l.length : Int) ≤ 24) ↔ l.length ≤ 24 := by omega
    simp [a2]
theorem same_iff (a b : Af) : ((a.f0.toList == b.f0.toList && (a.f1 == b.f1 && (a.f2.toList == b.f2.toList && (a.f3.toList == b.f3.toList && (a.f4.toList == b.f4.toList))))) = true) ↔ a = b := by
  simp only [Bool.and_eq_true, beq_iff_eq, toList_inj]
  constructor
  · rintro ⟨h0, h1, h2, h3, h4⟩
    obtain ⟨_, _, _, _, _⟩ := a
    obtain ⟨_, _, _, _, _⟩ := b
    simp_all
  · rintro rfl
    exact ⟨rfl, rfl, rfl, rfl, rfl⟩
def sameB (a b : Af) : Bool := (a.f0.toList == b.f0.toList && (a.f1 == b.f1 && (a.f2.toList == b.f2.toList && (a.f3.toList == b.f3.toList && (a.f4.toList == b.f4.toList)))))
theorem sameB_iff (a b : Af) : sameB a b = true ↔ a = b := same_iff a b
theorem sameB_comm (a b : Af) : sameB a b = sameB b a := by
  have h : sameB a b = true ↔ sameB b a = true := by rw [sameB_iff, sameB_iff]; exact eq_comm
  cases h1 : sameB a b <;> cases h2 : sameB b a
  · rfl
  · exact absurd (h.2 h2) (by rw [h1]; decide)
  · exact absurd (h.1 h1) (by rw [h2]; decide)
  · rfl
def noneP (l : List Af) (a : Af) (j : Nat) : Prop := sameB (aAt l (j : Int)) a = false
instance (l : List Af) (a : Af) (j : Nat) : Decidable (noneP l a j) := inferInstanceAs (Decidable (_ = _))
def hasA (l : List Af) (a : Af) : Bool := if ∀ j, j < l.length → noneP l a j then false else true
theorem contains_ev (l : List Af) (a : Af) (hl : Small l.length) : Ev (fun k => impl_Affix_75.f k l a.f0 a.f1 a.f2 a.f3 a.f4) (hasA l a) := by
  unfold impl_Affix_75.f impl_Affix_98.f
  have key := find_from (g := fun k x => impl_Affix_98.l0 k l (l.length : Int) x a.f0 a.f1 a.f2 a.f3 a.f4) l.length (noneP l a) (-1) (fun r => 0 ≤ r) ?_ ?_ ?_ l.length 0 (by omega) (by omega)
  · rcases key with ⟨h1, h2⟩ | ⟨⟨j, h1, _, h3⟩, r, h4, h5⟩
    · refine Ev.bind h2 (Ev.cast (Ev.now _) ?_)
      unfold hasA
      rw [if_pos (fun j hj => h1 j hj (Nat.zero_le _))]
      rfl
    · refine Ev.bind h4 (Ev.cast (Ev.now _) ?_)
      unfold hasA
      rw [if_neg (fun h => h3 (h j h1))]
      exact decide_eq_true h5
  · intro i r hi hp hr
    have c1 : (i : Int) < (l.length : Int) := by omega
    have c2 : (0 : Int) ≤ (i : Int) := by omega
    have w1 : Aside0 (wrap64 ((i : Int) + 1) = (i : Int) + 1) := ⟨wid (by omega) (by simp [Small] at hl; omega)⟩
    have c3 : ¬ sameB a (aAt l (i : Int)) = true := by rw [sameB_comm]; simp only [noneP] at hp; simp [hp]
    unfold sameB at c3
    apply Ev.succ
    simp only [impl_Affix_98.l0, c1, c2, w1.out, if_true]
    exact Ev.ifn c3 hr
  · intro i hi hp
    have c1 : (i : Int) < (l.length : Int) := by omega
    have c2 : (0 : Int) ≤ (i : Int) := by omega
    have c3 : sameB a (aAt l (i : Int)) = true := by rw [sameB_comm]; simp only [noneP] at hp; simpa using hp
    unfold sameB at c3
    refine ⟨(i : Int), ?_, c2⟩
    apply Ev.succ
    simp only [impl_Affix_98.l0, c1, c2, if_true]
    exact Ev.ifp c3 (Ev.now _)
  · apply Ev.succ
    simp only [impl_Affix_98.l0, Int.lt_irrefl, if_false]
    exact Ev.now _
def asP (l : List Af) (i : Nat) : Prop := affB (aAt l (i : Int)) = true ∧ ∀ j, j < i → sameB (aAt l (j : Int)) (aAt l (i : Int)) = false
instance (l : List Af) (j : Nat) : Decidable (asP l j) := inferInstanceAs (Decidable (_ ∧ _))
def asB (l : List Af) : Bool := if ∀ j, j < l.length → asP l j then decide (l.length ≤ 8) else false
theorem aAt_take (l : List Af) (i j : Nat) (h : j < i) : aAt (l.take i) (j : Int) = aAt l (j : Int) := by
  simp [aAt, rd_T46, List.getElem?_take, h]
theorem impl_affixesOk_ev (l : List Af) (hl : Small l.length) (h : ∀ a ∈ l, SmallA a) : Ev (fun k => impl_affixesOk.f k l) (asB l) := by
  unfold impl_affixesOk.f
  have sm : ∀ i : Nat, i < l.length → SmallA (aAt l (i : Int)) := fun i hi => by rw [aAt_nat l i hi]; exact h _ (List.getElem_mem hi)
  have hs : ∀ i : Nat, i ≤ l.length → hasA (l.take i) (aAt l (i : Int)) = (if ∀ j, j < i → sameB (aAt l (j : Int)) (aAt l (i : Int)) = false then false else true) := by
    intro i hi
    unfold hasA noneP
    have hz : (l.take i).length = i := by rw [List.length_take]; omega
    rw [hz]
    have e : (∀ j, j < i → sameB (aAt (l.take i) (j : Int)) (aAt l (i : Int)) = false) ↔ (∀ j, j < i → sameB (aAt l (j : Int)) (aAt l (i : Int)) = false) := ⟨fun h j hj => by rw [← aAt_take l i j hj]; exact h j hj, fun h j hj => by rw [aAt_take l i j hj]; exact h j hj⟩
    simp only [e]
  refine all_loop (g := fun k x => impl_affixesOk.l0 k l l (l.length : Int) x) l.length (asP l) false _ ?_ ?_ ?_
  · intro i r hi hp hr
    have c1 : (i : Int) < (l.length : Int) := by omega
    have c2 : (0 : Int) ≤ (i : Int) := by omega
    have c3 : (i : Int) ≤ (l.length : Int) := by omega
    have e0 : (i : Int).toNat = i := by omega
    have w1 : Aside0 (wrap64 ((i : Int) + 1) = (i : Int) + 1) := ⟨wid (by omega) (by simp [Small] at hl; omega)⟩
    apply Ev.succ
    simp only [impl_affixesOk.l0, c1, c2, w1.out, if_true]
    refine Ev.bind (Ev.cast (impl_AffixOk_ev _ (sm i hi)) hp.1) ?_
    simp only [if_true, c3, e0]
    have hh := hs i (by omega)
    rw [if_pos hp.2] at hh
    refine Ev.bind (Ev.cast (contains_ev (l.take i) _ (by rw [List.length_take]; simp [Small] at hl ⊢; omega)) hh) ?_
    simp only [Bool.false_eq_true, if_false]
    exact hr
  · intro i hi hp
    have c1 : (i : Int) < (l.length : Int) := by omega
    have c2 : (0 : Int) ≤ (i : Int) := by omega
    have c3 : (i : Int) ≤ (l.length : Int) := by omega
    have e0 : (i : Int).toNat = i := by omega
    apply Ev.succ
    simp only [impl_affixesOk.l0, c1, c2, if_true]
    refine Ev.bind (impl_AffixOk_ev _ (sm i hi)) ?_
    cases hu : affB (aAt l (i : Int))
    · simp only [Bool.false_eq_true, if_false]
      exact Ev.now _
    · simp only [if_true, c3, e0]
      have hh := hs i (by omega)
      rw [if_neg (fun c => hp ⟨hu, c⟩)] at hh
      refine Ev.bind (Ev.cast (contains_ev (l.take i) _ (by rw [List.length_take]; simp [Small] at hl ⊢; omega)) hh) ?_
      simp only [if_true]
      exact Ev.now _
  · apply Ev.succ
    simp only [impl_affixesOk.l0, Int.lt_irrefl, if_false]
    refine Ev.cast (Ev.now _) ?_
    have a2 : ((l.length : Int) ≤ 8) ↔ l.length ≤ 8 := by omega
    simp [a2]
theorem spec_l2Affixes_ev (l : List Af) (hl : Small l.length) (h : ∀ a ∈ l, SmallA a) : Ev (fun k => spec_l2Affixes.f k l) (asB l) := by
  unfold spec_l2Affixes.f
  have sm : ∀ i : Nat, i < l.length → SmallA (aAt l (i : Int)) := fun i hi => by rw [aAt_nat l i hi]; exact h _ (List.getElem_mem hi)
  have inner : ∀ (i : Nat) (r : Bool), i < l.length → Ev (fun k => spec_l2Affixes.l0 k l ((i : Int) + 1)) r → Ev (fun k => spec_l2Affixes.l1 k l (i : Int) 0) (if ∀ j, j < i → sameB (aAt l (j : Int)) (aAt l (i : Int)) = false then r else false) := by
    intro i r hi hr
    have d1 : (i : Int) < (l.length : Int) := by omega
    have d2 : (0 : Int) ≤ (i : Int) := by omega
    refine all_loop (g := fun k x => spec_l2Affixes.l1 k l (i : Int) x) i (fun j => sameB (aAt l (j : Int)) (aAt l (i : Int)) = false) false r ?_ ?_ ?_
    · intro j r hj hp hr
      have c1 : (j : Int) < (i : Int) := by omega
      have c2 : (0 : Int) ≤ (j : Int) := by omega
      have c3 : (j : Int) < (l.length : Int) := by omega
      have w1 : Aside0 (wrap64 ((j : Int) + 1) = (j : Int) + 1) := ⟨wid (by omega) (by simp [Small] at hl; omega)⟩
      have c4 : ¬ sameB (aAt l (j : Int)) (aAt l (i : Int)) = true := by simp [hp]
      unfold sameB at c4
      apply Ev.succ
      simp only [spec_l2Affixes.l1, c1, c2, c3, d1, d2, w1.out, if_true]
      exact Ev.ifn c4 hr
    · intro j hj hp
      have c1 : (j : Int) < (i : Int) := by omega
      have c2 : (0 : Int) ≤ (j : Int) := by omega
      have c3 : (j : Int) < (l.length : Int) := by omega
      have c4 : sameB (aAt l (j : Int)) (aAt l (i : Int)) = true := by simpa using hp
      unfold sameB at c4
      apply Ev.succ
      simp only [spec_l2Affixes.l1, c1, c2, c3, d1, d2, if_true]
      exact Ev.ifp c4 (Ev.now _)
    · have w1 : Aside0 (wrap64 ((i : Int) + 1) = (i : Int) + 1) := ⟨wid (by omega) (by simp [Small] at hl; omega)⟩
      apply Ev.succ
      simp only [spec_l2Affixes.l1, Int.lt_irrefl, w1.out, if_false]
      exact hr
  refine all_loop (g := fun k x => spec_l2Affixes.l0 k l x) l.length (asP l) false _ ?_ ?_ ?_
  · intro i r hi hp hr
    have c1 : (i : Int) < (l.length : Int) := by omega
    have c2 : (0 : Int) ≤ (i : Int) := by omega
    apply Ev.succ
    simp only [spec_l2Affixes.l0, c1, c2, if_true]
    refine Ev.bind (Ev.cast (spec_AffixOk_ev _ (sm i hi)) hp.1) ?_
    simp only [if_true]
    refine Ev.cast (inner i r hi hr) ?_
    rw [if_pos hp.2]
  · intro i hi hp
    have c1 : (i : Int) < (l.length : Int) := by omega
    have c2 : (0 : Int) ≤ (i : Int) := by omega
    apply Ev.succ
    simp only [spec_l2Affixes.l0, c1, c2, if_true]
    refine Ev.bind (spec_AffixOk_ev _ (sm i hi)) ?_
    cases hu : affB (aAt l (i : Int))
    · simp only [Bool.false_eq_true, if_false]
      exact Ev.now _
    · simp only [if_true]
      obtain ⟨j, hj, hs⟩ : ∃ j, j < i ∧ sameB (aAt l (j : Int)) (aAt l (i : Int)) = true := by
        by_cases c : ∃ j, j < i ∧ sameB (aAt l (j : Int)) (aAt l (i : Int)) = true
        · exact c
        · refine absurd ⟨hu, fun j hj => ?_⟩ hp
          cases hs : sameB (aAt l (j : Int)) (aAt l (i : Int))
          · rfl
          · exact absurd ⟨j, hj, hs⟩ c
      have d1 : (i : Int) < (l.length : Int) := by omega
      have d2 : (0 : Int) ≤ (i : Int) := by omega
      refine stop_loop (g := fun k x => spec_l2Affixes.l1 k l (i : Int) x) i (fun j => sameB (aAt l (j : Int)) (aAt l (i : Int)) = false) false j hj (by simp [hs]) ?_ ?_
      · intro j r hj hp hr
        have c1 : (j : Int) < (i : Int) := by omega
        have c2 : (0 : Int) ≤ (j : Int) := by omega
        have c3 : (j : Int) < (l.length : Int) := by omega
        have w1 : Aside0 (wrap64 ((j : Int) + 1) = (j : Int) + 1) := ⟨wid (by omega) (by simp [Small] at hl; omega)⟩
        have c4 : ¬ sameB (aAt l (j : Int)) (aAt l (i : Int)) = true := by simp [hp]
        unfold sameB at c4
        apply Ev.succ
        simp only [spec_l2Affixes.l1, c1, c2, c3, d1, d2, w1.out, if_true]
        exact Ev.ifn c4 hr
      · intro j hj hp
        have c1 : (j : Int) < (i : Int) := by omega
        have c2 : (0 : Int) ≤ (j : Int) := by omega
        have c3 : (j : Int) < (l.length : Int) := by omega
        have c4 : sameB (aAt l (j : Int)) (aAt l (i : Int)) = true := by simpa using hp
        unfold sameB at c4
        apply Ev.succ
        simp only [spec_l2Affixes.l1, c1, c2, c3, d1, d2, if_true]
        exact Ev.ifp c4 (Ev.now _)
  · apply Ev.succ
    simp only [spec_l2Affixes.l0, Int.lt_irrefl, if_false]
    refine Ev.cast (Ev.now _) ?_
    have a2 : ((l.length : Int) ≤ 8) ↔ l.length ≤ 8 := by omega
    simp [a2]
theorem spec_BookOk_ev (la : List Af) (l : List En) (ha : Small la.length) (ha' : ∀ a ∈ la, SmallA a) (hl : Small l.length) (h : ∀ e ∈ l, SmallE e) : Ev (fun k => spec_BookOk.f k la l) (esB l && asB la) := by
  unfold spec_BookOk.f
  have sm : ∀ i : Nat, i < l.length → SmallE (eAt l (i : Int)) := fun i hi => by rw [eAt_nat l i hi]; exact h _ (List.getElem_mem hi)
  have key := all_loop (g := fun k x => spec_BookOk.l0 k x la l) l.length (esP l) false (asB la && decide (l.length ≤ 24)) ?_ ?_ ?_
  · refine Ev.cast key ?_
    unfold esB
    split
    · rw [Bool.and_comm]
    · rfl
  · intro i r hi hp hr
    have c1 : (i : Int) < (l.length : Int) := by omega
    have c2 : (0 : Int) ≤ (i : Int) := by omega
    have w1 : Aside0 (wrap64 ((i : Int) + 1) = (i : Int) + 1) := ⟨wid (by omega) (by simp [Small] at hl; omega)⟩
    apply Ev.succ
    simp only [spec_BookOk.l0, c1, c2, w1.out, if_true]
    refine Ev.bind (Ev.cast (spec_l2Entry_ev _ (sm i hi)) hp.1) ?_
    simp only [if_true]
    by_cases c3 : (i : Int) > 0
    · have w2 : Aside0 (wrap64 ((i : Int) - 1) = ((i - 1 : Nat) : Int)) := ⟨by rw [wid (by omega) (by simp [Small] at hl; omega)]; omega⟩
      have c4 : (0 : Int) ≤ ((i - 1 : Nat) : Int) := by omega
      have c5 : ((i - 1 : Nat) : Int) < (l.length : Int) := by omega
      have c6 : Op.bytesLess (eAt l ((i - 1 : Nat) : Int)).f0.toList (eAt l (i : Int)).f0.toList = true := hp.2 (by omega)
      simp only [c3, w2.out, c4, c5, c6, if_true]
      exact hr
    · simp only [c3, if_false]
      exact hr
  · intro i hi hp
    have c1 : (i : Int) < (l.length : Int) := by omega
    have c2 : (0 : Int) ≤ (i : Int) := by omega
    apply Ev.succ
    simp only [spec_BookOk.l0, c1, c2, if_true]
    refine Ev.bind (spec_l2Entry_ev _ (sm i hi)) ?_
    cases hu : entB (eAt l (i : Int))
    · simp only [Bool.false_eq_true, if_false]
      exact Ev.now _
    · simp only [if_true]
      have c3 : (i : Int) > 0 := by
        by_cases c : (i : Int) > 0
        · exact c
        · exact absurd ⟨hu, fun h => absurd h (by omega)⟩ hp
      have w2 : Aside0 (wrap64 ((i : Int) - 1) = ((i - 1 : Nat) : Int)) := ⟨by rw [wid (by omega) (by simp [Small] at hl; omega)]; omega⟩
      have c4 : (0 : Int) ≤ ((i - 1 : Nat) : Int) := by omega
      have c5 : ((i - 1 : Nat) : Int) < (l.length : Int) := by omega
      have c6 : ¬ Op.bytesLess (eAt l ((i - 1 : Nat) : Int)).f0.toList (eAt l (i : Int)).f0.toList = true := fun c => hp ⟨hu, fun _ => c⟩
      simp only [c3, w2.out, c4, c5, c6, if_true, if_false]
      exact Ev.now _
  · apply Ev.succ
    simp only [spec_BookOk.l0, Int.lt_irrefl, if_false]
    refine Ev.bind (spec_l2Affixes_ev la ha ha') ?_
    exact Ev.congr (fun _ => tail_cast _ _ 24) (Ev.now _)
theorem asB_nil : asB [] = true := rfl
theorem spec_l5Entries_ev (l : List En) (hl : Small l.length) (h : ∀ e ∈ l, SmallE e) : Ev (fun k => spec_l5Entries.f k l) (esB l) := by
  unfold spec_l5Entries.f
  refine Ev.bind (spec_BookOk_ev [] l (by decide) (fun a ha => by cases ha) hl h) (Ev.cast (Ev.now _) ?_)
  rw [asB_nil, Bool.and_true]
def freeP (c : List En) (s : ByteArray) : Prop := ∀ j, j < c.length → ¬ (eAt c (j : Int)).f0.toList = s.toList
instance (c : List En) (s : ByteArray) : Decidable (freeP c s) := inferInstanceAs (Decidable (∀ _, _ → _))
def goP (g : List ByteArray) (c : List En) (i : Nat) : Prop := freeP c (rdOf ByteArray.empty g (i : Int))
instance (g : List ByteArray) (c : List En) (i : Nat) : Decidable (goP g c i) := inferInstanceAs (Decidable (freeP _ _))
def dB (g : List ByteArray) (c : List En) (a : Bool) (l : List Af) : Bool := wsB g 24 && (esB c && (asB l && ((a || decide (l.length = 0)) && (if ∀ i, i < g.length → goP g c i then true else false))))
structure SmallD (g : List ByteArray) (c : List En) (l : List Af) : Prop where
  g1 : Small g.length
  g2 : ∀ s ∈ g, Small s.size
  c1 : Small c.length
  c2 : ∀ e ∈ c, SmallE e
  l1 : Small l.length
  l2 : ∀ a ∈ l, SmallA a
theorem idxFrom_free (s : ByteArray) : ∀ (c : List En) (m : Nat), 0 ≤ Lib.idxByFrom (fun _ y => y.f0.toList == s.toList) (default : En) c m ↔ ∃ e ∈ c, e.f0.toList = s.toList
  | [], m => by simp [Lib.idxByFrom]
  | e :: c, m => by
    unfold Lib.idxByFrom
    by_cases h : e.f0.toList = s.toList
    · rw [if_pos (by simpa using h)]
      exact ⟨fun _ => ⟨e, List.mem_cons_self, h⟩, fun _ => by omega⟩
    · rw [if_neg (by simpa using h), idxFrom_free s c (m + 1)]
      simp [h]
theorem idxE_free (c : List En) (s : ByteArray) : ¬ idxE c s ≥ 0 ↔ freeP c s := by
  have h := idxFrom_free s c 0
  unfold idxE Lib.idxBy freeP
  constructor
  · intro hn j hj he
    rw [eAt_nat c j hj] at he
    exact hn (h.2 ⟨c[j], List.getElem_mem hj, he⟩)
  · intro hf hg
    obtain ⟨e, he, hs⟩ := h.1 hg
    obtain ⟨j, hj, rfl⟩ := List.getElem_of_mem he
    exact hf j hj (by rw [eAt_nat c j hj]; exact hs)
theorem impl_DeltaOk_ev (g : List ByteArray) (c : List En) (a : Bool) (l : List Af) (h : SmallD g c l) : Ev (fun k => impl_DeltaOk.f k g c a l) (dB g c a l) := by
  have no : Ev (fun k => impl_DeltaOk.j0 k true g c a l) false := by
    apply Ev.succ
    simp only [impl_DeltaOk.j0, if_true]
    exact Ev.now _
  have yes : Ev (fun k => impl_DeltaOk.j0 k false g c a l) (if ∀ i, i < g.length → goP g c i then true else false) := by
    apply Ev.succ
    simp only [impl_DeltaOk.j0, Bool.false_eq_true, if_false]
    refine all_loop (g := fun k x => impl_DeltaOk.l0 k g (g.length : Int) x g c a l) g.length (goP g c) false true ?_ ?_ ?_
    · intro i r hi hp hr
      have c1 : (i : Int) < (g.length : Int) := by omega
      have c2 : (0 : Int) ≤ (i : Int) := by omega
      have w1 : Aside0 (wrap64 ((i : Int) + 1) = (i : Int) + 1) := ⟨wid (by omega) (by have := h.g1; simp [Small] at this; omega)⟩
      apply Ev.succ
      simp only [impl_DeltaOk.l0, c1, c2, w1.out, impl_entryAt.f, Option.bind_some, if_true]
      exact Ev.ifn ((idxE_free _ _).2 hp) hr
    · intro i hi hp
      have c1 : (i : Int) < (g.length : Int) := by omega
      have c2 : (0 : Int) ≤ (i : Int) := by omega
      apply Ev.succ
      simp only [impl_DeltaOk.l0, c1, c2, impl_entryAt.f, Option.bind_some, if_true]
      exact Ev.ifp (Decidable.of_not_not (fun hn => hp ((idxE_free _ _).1 hn))) (Ev.now _)
    · apply Ev.succ
      simp only [impl_DeltaOk.l0, Int.lt_irrefl, if_false]
      exact Ev.now _
  unfold impl_DeltaOk.f dB
  refine Ev.bind (impl_wordsOk_ev g 24 h.g1 h.g2) ?_
  cases wsB g 24
  · simp only [Bool.false_eq_true, if_false, Bool.false_and]; exact no
  simp only [if_true, Bool.true_and]
  refine Ev.bind (impl_entriesOk_ev c h.c1 h.c2) ?_
  cases esB c
  · simp only [Bool.false_eq_true, if_false, Bool.false_and]; exact no
  simp only [if_true, Bool.true_and]
  refine Ev.bind (impl_affixesOk_ev l h.l1 h.l2) ?_
  cases asB l
  · simp only [Bool.false_eq_true, if_false, Bool.false_and]; exact no
  simp only [if_true, Bool.true_and]
  cases a
  · simp only [Bool.false_eq_true, if_false, Bool.false_or]
    by_cases hz : l.length = 0
    · have hz' : ¬ (l.length : Int) > 0 := by omega
      simp only [hz, hz', decide_true, decide_false, Bool.true_and]
      exact yes
    · have hz' : (l.length : Int) > 0 := by omega
      simp only [hz, hz', decide_true, decide_false, Bool.false_and]
      exact no
  · simp only [if_true, Bool.true_or, Bool.true_and]
    exact yes
theorem spec_DeltaOk_ev (g : List ByteArray) (c : List En) (a : Bool) (l : List Af) (h : SmallD g c l) : Ev (fun k => spec_DeltaOk.f k g c a l) (dB g c a l) := by
  have hg := h.g1
  have hc := h.c1
  have sm : ∀ i : Nat, i < g.length → Small (rdOf ByteArray.empty g (i : Int)).size := fun i hi => by rw [sAt_nat g i hi]; exact h.g2 _ (List.getElem_mem hi)
  have no : ∀ x : Int, Ev (fun k => spec_DeltaOk.j1 k x true g c a l) false := fun x => by
    apply Ev.succ
    simp only [spec_DeltaOk.j1, if_true]
    exact Ev.now _
  have inY : ∀ (i : Nat) (r : Bool), i < g.length → goP g c i → Ev (fun k => spec_DeltaOk.l0 k ((i : Int) + 1) g c a l) r → Ev (fun k => spec_DeltaOk.j1 k (i : Int) false g c a l) r := by
    intro i r hi hp hr
    have d1 : (i : Int) < (g.length : Int) := by omega
    have d2 : (0 : Int) ≤ (i : Int) := by omega
    apply Ev.succ
    simp only [spec_DeltaOk.j1, Bool.false_eq_true, if_false]
    have key := all_loop (g := fun k x => spec_DeltaOk.l1 k (i : Int) x g c a l) c.length (fun j => ¬ (eAt c (j : Int)).f0.toList = (rdOf ByteArray.empty g (i : Int)).toList) false r ?_ ?_ ?_
    · have hp' : ∀ j, j < c.length → ¬ (eAt c (j : Int)).f0.toList = (rdOf ByteArray.empty g (i : Int)).toList := hp
      rwa [if_pos hp'] at key
    · intro j r hj hq hr
      have c1 : (j : Int) < (c.length : Int) := by omega
      have c2 : (0 : Int) ≤ (j : Int) := by omega
      have w1 : Aside0 (wrap64 ((j : Int) + 1) = (j : Int) + 1) := ⟨wid (by omega) (by simp [Small] at hc; omega)⟩
      apply Ev.succ
      simp only [spec_DeltaOk.l1, c1, c2, d1, d2, w1.out, if_true]
      exact Ev.ifn hq hr
    · intro j hj hq
      have c1 : (j : Int) < (c.length : Int) := by omega
      have c2 : (0 : Int) ≤ (j : Int) := by omega
      apply Ev.succ
      simp only [spec_DeltaOk.l1, c1, c2, d1, d2, if_true]
      exact Ev.ifp (Decidable.of_not_not hq) (Ev.now _)
    · have w1 : Aside0 (wrap64 ((i : Int) + 1) = (i : Int) + 1) := ⟨wid (by omega) (by simp [Small] at hg; omega)⟩
      apply Ev.succ
      simp only [spec_DeltaOk.l1, Int.lt_irrefl, w1.out, if_false]
      exact hr
  have inN : ∀ (i : Nat), i < g.length → ¬ goP g c i → Ev (fun k => spec_DeltaOk.j1 k (i : Int) false g c a l) false := by
    intro i hi hp
    have d1 : (i : Int) < (g.length : Int) := by omega
    have d2 : (0 : Int) ≤ (i : Int) := by omega
    obtain ⟨j, hj, he⟩ : ∃ j, j < c.length ∧ (eAt c (j : Int)).f0.toList = (rdOf ByteArray.empty g (i : Int)).toList := by
      by_cases z : ∃ j, j < c.length ∧ (eAt c (j : Int)).f0.toList = (rdOf ByteArray.empty g (i : Int)).toList
      · exact z
      · exact absurd (fun j hj he => z ⟨j, hj, he⟩) hp
    apply Ev.succ
    simp only [spec_DeltaOk.j1, Bool.false_eq_true, if_false]
    refine stop_loop (g := fun k x => spec_DeltaOk.l1 k (i : Int) x g c a l) c.length (fun j => ¬ (eAt c (j : Int)).f0.toList = (rdOf ByteArray.empty g (i : Int)).toList) false j hj (fun hn => hn he) ?_ ?_
    · intro j r hj hq hr
      have c1 : (j : Int) < (c.length : Int) := by omega
      have c2 : (0 : Int) ≤ (j : Int) := by omega
      have w1 : Aside0 (wrap64 ((j : Int) + 1) = (j : Int) + 1) := ⟨wid (by omega) (by simp [Small] at hc; omega)⟩
      apply Ev.succ
      simp only [spec_DeltaOk.l1, c1, c2, d1, d2, w1.out, if_true]
      exact Ev.ifn hq hr
    · intro j hj hq
      have c1 : (j : Int) < (c.length : Int) := by omega
      have c2 : (0 : Int) ≤ (j : Int) := by omega
      apply Ev.succ
      simp only [spec_DeltaOk.l1, c1, c2, d1, d2, if_true]
      exact Ev.ifp (Decidable.of_not_not hq) (Ev.now _)
  have key := all_loop (g := fun k x => spec_DeltaOk.l0 k x g c a l) g.length (fun i => wsP g i ∧ goP g c i) false (decide (g.length ≤ 24) && (esB c && (asB l && (a || decide (l.length = 0))))) ?_ ?_ ?_
  · unfold spec_DeltaOk.f
    refine Ev.cast key ?_
    unfold dB wsB
    by_cases h1 : ∀ i, i < g.length → wsP g i
    · by_cases h2 : ∀ i, i < g.length → goP g c i
      · rw [if_pos (fun i hi => ⟨h1 i hi, h2 i hi⟩), if_pos h1, if_pos h2, Bool.and_true]
      · rw [if_neg (fun z => h2 (fun i hi => (z i hi).2)), if_neg h2]
        simp
    · rw [if_neg (fun z => h1 (fun i hi => (z i hi).1)), if_neg h1]
      rfl
  · intro i r hi hp hr
    have c1 : (i : Int) < (g.length : Int) := by omega
    have c2 : (0 : Int) ≤ (i : Int) := by omega
    apply Ev.succ
    simp only [spec_DeltaOk.l0, c1, c2, if_true]
    refine Ev.bind (Ev.cast (spec_l1Word_ev _ (sm i hi)) hp.1.1) ?_
    simp only [if_true]
    by_cases c3 : (i : Int) > 0
    · have w2 : Aside0 (wrap64 ((i : Int) - 1) = ((i - 1 : Nat) : Int)) := ⟨by rw [wid (by omega) (by simp [Small] at hg; omega)]; omega⟩
      have c4 : (0 : Int) ≤ ((i - 1 : Nat) : Int) := by omega
      have c5 : ((i - 1 : Nat) : Int) < (g.length : Int) := by omega
      have c6 : Op.bytesLess (rdOf ByteArray.empty g ((i - 1 : Nat) : Int)).toList (rdOf ByteArray.empty g (i : Int)).toList = true := hp.1.2 (by omega)
      simp only [c3, w2.out, c4, c5, c6, if_true, Bool.not_true]
      exact inY i r hi hp.2 hr
    · simp only [c3, if_false]
      exact inY i r hi hp.2 hr
  · intro i hi hp
    have c1 : (i : Int) < (g.length : Int) := by omega
    have c2 : (0 : Int) ≤ (i : Int) := by omega
    apply Ev.succ
    simp only [spec_DeltaOk.l0, c1, c2, if_true]
    refine Ev.bind (spec_l1Word_ev _ (sm i hi)) ?_
    cases hu : wordB (rdOf ByteArray.empty g (i : Int))
    · simp only [Bool.false_eq_true, if_false]
      exact no _
    · simp only [if_true]
      by_cases c3 : (i : Int) > 0
      · have w2 : Aside0 (wrap64 ((i : Int) - 1) = ((i - 1 : Nat) : Int)) := ⟨by rw [wid (by omega) (by simp [Small] at hg; omega)]; omega⟩
        have c4 : (0 : Int) ≤ ((i - 1 : Nat) : Int) := by omega
        have c5 : ((i - 1 : Nat) : Int) < (g.length : Int) := by omega
        simp only [c3, w2.out, c4, c5, if_true]
        cases c6 : Op.bytesLess (rdOf ByteArray.empty g ((i - 1 : Nat) : Int)).toList (rdOf ByteArray.empty g (i : Int)).toList
        · simp only [Bool.not_false]
          exact no _
        · simp only [Bool.not_true]
          exact inN i hi (fun hq => hp ⟨⟨hu, fun _ => c6⟩, hq⟩)
      · simp only [c3, if_false]
        exact inN i hi (fun hq => hp ⟨⟨hu, fun h => absurd h (by omega)⟩, hq⟩)
  · apply Ev.succ
    simp only [spec_DeltaOk.l0, Int.lt_irrefl, if_false]
    by_cases c1 : (g.length : Int) ≤ 24
    · have c2 : g.length ≤ 24 := by omega
      simp only [c1, if_true, c2, decide_true, Bool.true_and]
      refine Ev.bind (spec_l5Entries_ev c h.c1 h.c2) ?_
      cases esB c
      · simp only [Bool.false_eq_true, if_false, Bool.false_and]; exact Ev.now _
      simp only [if_true, Bool.true_and]
      refine Ev.bind (spec_l2Affixes_ev l h.l1 h.l2) ?_
      cases asB l
      · simp only [Bool.false_eq_true, if_false, Bool.false_and]; exact Ev.now _
      simp only [if_true, Bool.true_and]
      cases a
      · simp only [Bool.false_eq_true, if_false, Bool.false_or]
        refine Ev.cast (Ev.now _) ?_
        have : ((l.length : Int) == 0) = decide (l.length = 0) := by
          by_cases z : l.length = 0 <;> simp [z]
        exact this
      · simp only [if_true, Bool.true_or]
        exact Ev.now _
    · have c2 : ¬ g.length ≤ 24 := by omega
      simp only [c1, if_false, c2, decide_false, Bool.false_and]
      exact Ev.now _
end Go.Proofs.YtabindnaedchgaaDoor.M
end

section
/- What is marked in a delta is held, plain. -/
namespace Go.Proofs.YtabindnaedchgaaDoor.M
open Go.RowKit Go.Proofs.YtabindnaedchgaaDoorW.PrintWords Go.Proofs.YtabindnaedchgaaDoor.Pu
set_option linter.unusedVariables false
set_option linter.unusedSimpArgs false
theorem markText_loop : ∀ (n : Nat), n ≤ 100000000000000 → ∀ x : ByteArray, x.size + n ≤ 1000000000000000 → ∃ r, Ev (fun k => laws_markText.l0 k (n : Int) x) r := by
  intro n
  induction n using Nat.strongRecOn with
  | ind n ih =>
    intro hn x hx
    by_cases c : n = 0
    · subst c
      refine ⟨(⟨#[109]⟩ : ByteArray) ++ x, ?_⟩
      apply Ev.succ
      simp only [laws_markText.l0]
      exact Ev.ifn (by omega) (Ev.ifp (by omega) (Ev.now _))
    · have e1 : Int.tdiv (n : Int) 10 = ((n / 10 : Nat) : Int) := by rw [Int.tdiv_eq_ediv_of_nonneg (by omega)]; omega
      have w1 : Aside0 (wrap64 (((n / 10 : Nat) : Int)) = ((n / 10 : Nat) : Int)) := ⟨wid (by omega) (by omega)⟩
      have sz : ∀ y : Int, (strOfNums [y]).size = 1 := fun y => rfl
      obtain ⟨r, hr⟩ := ih (n / 10) (by omega) (by omega) (strOfNums [(wrap64 (48 + (Int.tmod (n : Int) 10))) % 256] ++ x) (by rw [ByteArray.size_append, sz]; omega)
      refine ⟨r, ?_⟩
      apply Ev.succ
      simp only [laws_markText.l0, e1, w1.out, Option.bind_some]
      exact Ev.ifp (by omega) (Ev.ifp (by rw [sz]; omega) hr)
theorem markText_ev (a : Int) (h0 : 0 ≤ a) (h1 : a ≤ 100000000000000) : ∃ r, Ev (fun k => laws_markText.f k a) r := by
  unfold laws_markText.f
  by_cases c : a ≤ 0
  · exact ⟨_, Ev.ifp c (Ev.now _)⟩
  · obtain ⟨n, rfl⟩ := Int.eq_ofNat_of_zero_le h0
    obtain ⟨r, hr⟩ := markText_loop n (by omega) (⟨#[]⟩ : ByteArray) (by show 0 + n ≤ _; omega)
    exact ⟨r, Ev.ifn c hr⟩
open Classical in
noncomputable def mt (a : Int) : ByteArray := if h : ∃ r, Ev (fun k => laws_markText.f k a) r then h.choose else ByteArray.empty
theorem mt_ev (a : Int) (h0 : 0 ≤ a) (h1 : a ≤ 100000000000000) : Ev (fun k => laws_markText.f k a) (mt a) := by
  unfold mt
  rw [dif_pos (markText_ev a h0 h1)]
  exact (markText_ev a h0 h1).choose_spec
theorem put_at {α : Type} (f : Nat → α) (xs : List α) (i : Nat) (h : i < xs.length) : (((List.range i).map f) ++ xs.drop i).set i (f i) = (List.range (i + 1)).map f ++ xs.drop (i + 1) := by
  have hl : ((List.range i).map f).length = i := by simp
  rw [List.set_append_right _ _ (by omega), hl, Nat.sub_self, List.drop_eq_getElem_cons h, List.set_cons_zero]
  simp [List.range_succ]
theorem put_len {α : Type} (f : Nat → α) (xs : List α) (i : Nat) (h : i ≤ xs.length) : (((List.range i).map f) ++ xs.drop i).length = xs.length := by
  simp
  omega
theorem get_map {α : Type} (f : Nat → α) (n i : Nat) (z : α) (h : i < n) : ((List.range n).map f).getD i z = f i := by
  simp [h]
theorem set_get {α : Type} (xs : List α) (i : Nat) (v z : α) (h : i < xs.length) : (xs.set i v).getD i z = v := by
  simp [h]
abbrev Lim (n : Nat) : Prop := n ≤ 1000000
abbrev Lim2 (a : Int) : Prop := 0 ≤ a ∧ a ≤ 10000000000
noncomputable def mkS (a : Int) (n : Nat) : List ByteArray := (List.range n).map fun (i : Nat) => mt (a + (i : Int))
noncomputable def mkE (a : Int) (n : Nat) : List En := (List.range n).map fun (i : Nat) => (⟨mt (a + 2 * (i : Int)), mt (a + 2 * (i : Int) + 1)⟩ : En)
noncomputable def mkA (a : Int) (n : Nat) : List Af := (List.range n).map fun (i : Nat) => (⟨mt (a + 5 * (i : Int)), (Int.tmod (a + 5 * (i : Int) + 1) 3 == 0), mt (a + 5 * (i : Int) + 2), mt (a + 5 * (i : Int) + 3), mt (a + 5 * (i : Int) + 4)⟩ : Af)
theorem markS_ev (l : List ByteArray) (a : Int) (ha : Lim2 a) (hl : Lim l.length) : Ev (fun k => laws_markStringS.f k l a) (a + (l.length : Int), mkS a l.length) := by
  obtain ⟨h0, h1⟩ := ha
  simp only [Lim] at hl
  unfold laws_markStringS.f
  let f : Nat → ByteArray := fun i => mt (a + (i : Int))
  have key : Ev (fun k => laws_markStringS.l0 k (((List.range 0).map f) ++ l.drop 0) (a + ((0 : Nat) : Int)) 0) (a + (l.length : Int), mkS a l.length) := by
    refine fold_loop (g := fun k (b : List ByteArray × Int) x => laws_markStringS.l0 k b.1 b.2 x) l.length (fun i => (((List.range i).map f) ++ l.drop i, a + (i : Int))) _ ?_ ?_
    · intro i hi hr
      have c1 : (i : Int) < (((((List.range i).map f) ++ l.drop i).length : Nat) : Int) := by rw [put_len f l i (by omega)]; omega
      have c2 : (0 : Int) ≤ (i : Int) := by omega
      have w1 : Aside0 (wrap64 ((i : Int) + 1) = (i : Int) + 1) := ⟨wid (by omega) (by omega)⟩
      have w2 : Aside0 (wrap64 (a + (i : Int) + 1) = a + ((i + 1 : Nat) : Int)) := ⟨by rw [wid (by omega) (by omega)]; omega⟩
      apply Ev.succ
      simp only [laws_markStringS.l0, c1, if_true]
      refine Ev.bind (mt_ev _ (by omega) (by omega)) ?_
      simp only [c2, w1.out, w2.out, if_true, Int.toNat_natCast]
      have e : (((List.range i).map f) ++ l.drop i).set i (mt (a + (i : Int))) = (List.range (i + 1)).map f ++ l.drop (i + 1) := put_at f l i hi
      rw [e]
      exact hr
    · have c1 : ¬ (l.length : Int) < (((((List.range l.length).map f) ++ l.drop l.length).length : Nat) : Int) := by rw [put_len f l _ (Nat.le_refl _)]; omega
      apply Ev.succ
      simp only [laws_markStringS.l0, c1, if_false]
      refine Ev.cast (Ev.now _) ?_
      simp [mkS, f]
  simpa using key
theorem heldS_ev (n : Nat) (a : Int) (ha : Lim2 a) (hl : Lim n) : Ev (fun k => laws_heldStringS.f k (mkS a n) a) (a + (n : Int)) := by
  obtain ⟨h0, h1⟩ := ha
  simp only [Lim] at hl
  unfold laws_heldStringS.f
  have hz : (mkS a n).length = n := by simp [mkS]
  have key : Ev (fun k => laws_heldStringS.l0 k (mkS a n) (a + ((0 : Nat) : Int)) 0) (a + (n : Int)) := by
    refine fold_loop (g := fun k b x => laws_heldStringS.l0 k (mkS a n) b x) n (fun i => a + (i : Int)) _ ?_ ?_
    · intro i hi hr
      have c1 : (i : Int) < ((mkS a n).length : Int) := by rw [hz]; omega
      have c2 : (0 : Int) ≤ (i : Int) := by omega
      have w1 : Aside0 (wrap64 ((i : Int) + 1) = (i : Int) + 1) := ⟨wid (by omega) (by omega)⟩
      have w2 : Aside0 (wrap64 (a + (i : Int) + 1) = a + ((i + 1 : Nat) : Int)) := ⟨by rw [wid (by omega) (by omega)]; omega⟩
      have r1 : rdOf ByteArray.empty (mkS a n) (i : Int) = mt (a + (i : Int)) := by unfold rdOf; rw [Int.toNat_natCast]; exact get_map _ n i _ hi
      apply Ev.succ
      simp only [laws_heldStringS.l0, c1, c2, if_true]
      refine Ev.bind (mt_ev _ (by omega) (by omega)) ?_
      simp only [r1, w1.out, w2.out, if_true]
      exact hr
    · have c1 : ¬ (n : Int) < ((mkS a n).length : Int) := by rw [hz]; omega
      apply Ev.succ
      simp only [laws_heldStringS.l0, c1, if_false]
      exact Ev.now _
  simpa using key
theorem markE_ev (l : List En) (a : Int) (ha : Lim2 a) (hl : Lim l.length) : Ev (fun k => laws_markEntryS.f k l a) (a + 2 * (l.length : Int), mkE a l.length) := by
  obtain ⟨h0, h1⟩ := ha
  simp only [Lim] at hl
  unfold laws_markEntryS.f
  let f : Nat → En := fun i => (⟨mt (a + 2 * (i : Int)), mt (a + 2 * (i : Int) + 1)⟩ : En)
  have key : Ev (fun k => laws_markEntryS.l0 k (((List.range 0).map f) ++ l.drop 0) (a + 2 * ((0 : Nat) : Int)) 0) (a + 2 * (l.length : Int), mkE a l.length) := by
    refine fold_loop (g := fun k (b : List En × Int) x => laws_markEntryS.l0 k b.1 b.2 x) l.length (fun i => (((List.range i).map f) ++ l.drop i, a + 2 * (i : Int))) _ ?_ ?_
    · intro i hi hr
      have hz := put_len f l i (by omega)
      have c1 : (i : Int) < (((((List.range i).map f) ++ l.drop i).length : Nat) : Int) := by rw [hz]; omega
      have c2 : (0 : Int) ≤ (i : Int) := by omega
      have w1 : Aside0 (wrap64 ((i : Int) + 1) = (i : Int) + 1) := ⟨wid (by omega) (by omega)⟩
      have w2 : Aside0 (wrap64 (a + 2 * (i : Int) + 1) = a + 2 * (i : Int) + 1) := ⟨wid (by omega) (by omega)⟩
      have w3 : Aside0 (wrap64 (a + 2 * (i : Int) + 1 + 1) = a + 2 * ((i + 1 : Nat) : Int)) := ⟨by rw [wid (by omega) (by omega)]; omega⟩
      apply Ev.succ
      simp only [laws_markEntryS.l0, c1, if_true]
      refine Ev.bind (mt_ev _ (by omega) (by omega)) ?_
      simp only [c2, if_true, Option.bind_some, w2.out]
      refine Ev.bind (mt_ev _ (by omega) (by omega)) ?_
      simp only [w1.out, w3.out, Int.toNat_natCast]
      have r1 : ∀ v, rd_T43 ((((List.range i).map f) ++ l.drop i).set i v) (i : Int) = v := fun v => by unfold rd_T43; rw [Int.toNat_natCast]; exact set_get _ i v _ (by rw [hz]; exact hi)
      rw [r1, List.set_set]
      have e : (((List.range i).map f) ++ l.drop i).set i (⟨mt (a + 2 * (i : Int)), mt (a + 2 * (i : Int) + 1)⟩ : En) = (List.range (i + 1)).map f ++ l.drop (i + 1) := put_at f l i hi
      rw [e]
      exact hr
    · have c1 : ¬ (l.length : Int) < (((((List.range l.length).map f) ++ l.drop l.length).length : Nat) : Int) := by rw [put_len f l _ (Nat.le_refl _)]; omega
      apply Ev.succ
      simp only [laws_markEntryS.l0, c1, if_false]
      refine Ev.cast (Ev.now _) ?_
      simp [mkE, f]
  simpa using key
theorem heldE_ev (n : Nat) (a : Int) (ha : Lim2 a) (hl : Lim n) : Ev (fun k => laws_heldEntryS.f k (mkE a n) a) (a + 2 * (n : Int)) := by
  obtain ⟨h0, h1⟩ := ha
  simp only [Lim] at hl
  unfold laws_heldEntryS.f
  have hz : (mkE a n).length = n := by simp [mkE]
  have key : Ev (fun k => laws_heldEntryS.l0 k (mkE a n) (a + 2 * ((0 : Nat) : Int)) 0) (a + 2 * (n : Int)) := by
    refine fold_loop (g := fun k b x => laws_heldEntryS.l0 k (mkE a n) b x) n (fun i => a + 2 * (i : Int)) _ ?_ ?_
    · intro i hi hr
      have c1 : (i : Int) < ((mkE a n).length : Int) := by rw [hz]; omega
      have c2 : (0 : Int) ≤ (i : Int) := by omega
      have w1 : Aside0 (wrap64 ((i : Int) + 1) = (i : Int) + 1) := ⟨wid (by omega) (by omega)⟩
      have w2 : Aside0 (wrap64 (a + 2 * (i : Int) + 1) = a + 2 * (i : Int) + 1) := ⟨wid (by omega) (by omega)⟩
      have w3 : Aside0 (wrap64 (a + 2 * (i : Int) + 1 + 1) = a + 2 * ((i + 1 : Nat) : Int)) := ⟨by rw [wid (by omega) (by omega)]; omega⟩
      have r1 : rd_T43 (mkE a n) (i : Int) = (⟨mt (a + 2 * (i : Int)), mt (a + 2 * (i : Int) + 1)⟩ : En) := by unfold rd_T43; rw [Int.toNat_natCast]; exact get_map _ n i _ hi
      apply Ev.succ
      simp only [laws_heldEntryS.l0, c1, c2, if_true]
      refine Ev.bind (mt_ev _ (by omega) (by omega)) ?_
      simp only [r1, w2.out, if_true]
      refine Ev.bind (mt_ev _ (by omega) (by omega)) ?_
      simp only [w1.out, w3.out, if_true]
      exact hr
    · have c1 : ¬ (n : Int) < ((mkE a n).length : Int) := by rw [hz]; omega
      apply Ev.succ
      simp only [laws_heldEntryS.l0, c1, if_false]
      exact Ev.now _
  simpa using key
theorem markA_ev (l : List Af) (a : Int) (ha : Lim2 a) (hl : Lim l.length) : Ev (fun k => laws_markAffixS.f k l a) (a + 5 * (l.length : Int), mkA a l.length) := by
  obtain ⟨h0, h1⟩ := ha
  simp only [Lim] at hl
  unfold laws_markAffixS.f
  let f : Nat → Af := fun i => (⟨mt (a + 5 * (i : Int)), (Int.tmod (a + 5 * (i : Int) + 1) 3 == 0), mt (a + 5 * (i : Int) + 2), mt (a + 5 * (i : Int) + 3), mt (a + 5 * (i : Int) + 4)⟩ : Af)
  have key : Ev (fun k => laws_markAffixS.l0 k (((List.range 0).map f) ++ l.drop 0) (a + 5 * ((0 : Nat) : Int)) 0) (a + 5 * (l.length : Int), mkA a l.length) := by
    refine fold_loop (g := fun k (b : List Af × Int) x => laws_markAffixS.l0 k b.1 b.2 x) l.length (fun i => (((List.range i).map f) ++ l.drop i, a + 5 * (i : Int))) _ ?_ ?_
    · intro i hi hr
      have hz := put_len f l i (by omega)
      have c1 : (i : Int) < (((((List.range i).map f) ++ l.drop i).length : Nat) : Int) := by rw [hz]; omega
      have c2 : (0 : Int) ≤ (i : Int) := by omega
      have w1 : Aside0 (wrap64 ((i : Int) + 1) = (i : Int) + 1) := ⟨wid (by omega) (by omega)⟩
      have w2 : Aside0 (wrap64 (a + 5 * (i : Int) + 1) = a + 5 * (i : Int) + 1) := ⟨wid (by omega) (by omega)⟩
      have w3 : Aside0 (wrap64 (a + 5 * (i : Int) + 1 + 1) = a + 5 * (i : Int) + 2) := ⟨by rw [wid (by omega) (by omega)]; omega⟩
      have w4 : Aside0 (wrap64 (a + 5 * (i : Int) + 2 + 1) = a + 5 * (i : Int) + 3) := ⟨by rw [wid (by omega) (by omega)]; omega⟩
      have w5 : Aside0 (wrap64 (a + 5 * (i : Int) + 3 + 1) = a + 5 * (i : Int) + 4) := ⟨by rw [wid (by omega) (by omega)]; omega⟩
      have w6 : Aside0 (wrap64 (a + 5 * (i : Int) + 4 + 1) = a + 5 * ((i + 1 : Nat) : Int)) := ⟨by rw [wid (by omega) (by omega)]; omega⟩
      have r1 : ∀ (xs : List Af) v, i < xs.length → rd_T46 (xs.set i v) (i : Int) = v := fun xs v h => by unfold rd_T46; rw [Int.toNat_natCast]; exact set_get _ i v _ h
      have hi' : i < (((List.range i).map f) ++ l.drop i).length := by rw [hz]; exact hi
      apply Ev.succ
      simp only [laws_markAffixS.l0, c1, if_true]
      refine Ev.bind (mt_ev _ (by omega) (by omega)) ?_
      simp only [c2, if_true, Option.bind_some, w2.out, w3.out, Int.toNat_natCast, r1 _ _ hi', List.set_set]
      refine Ev.bind (mt_ev _ (by omega) (by omega)) ?_
      simp only [w4.out, r1 _ _ hi', List.set_set]
      refine Ev.bind (mt_ev _ (by omega) (by omega)) ?_
      simp only [w5.out, r1 _ _ hi', List.set_set]
      refine Ev.bind (mt_ev _ (by omega) (by omega)) ?_
      simp only [w1.out, w6.out, r1 _ _ hi', List.set_set]
      have e : (((List.range i).map f) ++ l.drop i).set i (⟨mt (a + 5 * (i : Int)), (Int.tmod (a + 5 * (i : Int) + 1) 3 == 0), mt (a + 5 * (i : Int) + 2), mt (a + 5 * (i : Int) + 3), mt (a + 5 * (i : Int) + 4)⟩ : Af) = (List.range (i + 1)).map f ++ l.drop (i + 1) := put_at f l i hi
      rw [e]
      exact hr
    · have c1 : ¬ (l.length : Int) < (((((List.range l.length).map f) ++ l.drop l.length).length : Nat) : Int) := by rw [put_len f l _ (Nat.le_refl _)]; omega
      apply Ev.succ
      simp only [laws_markAffixS.l0, c1, if_false]
      refine Ev.cast (Ev.now _) ?_
      simp [mkA, f]
  simpa using key
theorem heldA_ev (n : Nat) (a : Int) (ha : Lim2 a) (hl : Lim n) : Ev (fun k => laws_heldAffixS.f k (mkA a n) a) (a + 5 * (n : Int)) := by
  obtain ⟨h0, h1⟩ := ha
  simp only [Lim] at hl
  unfold laws_heldAffixS.f
  have hz : (mkA a n).length = n := by simp [mkA]
  have key : Ev (fun k => laws_heldAffixS.l0 k (mkA a n) (a + 5 * ((0 : Nat) : Int)) 0) (a + 5 * (n : Int)) := by
    refine fold_loop (g := fun k b x => laws_heldAffixS.l0 k (mkA a n) b x) n (fun i => a + 5 * (i : Int)) _ ?_ ?_
    · intro i hi hr
      have c1 : (i : Int) < ((mkA a n).length : Int) := by rw [hz]; omega
      have c2 : (0 : Int) ≤ (i : Int) := by omega
      have w1 : Aside0 (wrap64 ((i : Int) + 1) = (i : Int) + 1) := ⟨wid (by omega) (by omega)⟩
      have w2 : Aside0 (wrap64 (a + 5 * (i : Int) + 1) = a + 5 * (i : Int) + 1) := ⟨wid (by omega) (by omega)⟩
      have w3 : Aside0 (wrap64 (a + 5 * (i : Int) + 1 + 1) = a + 5 * (i : Int) + 2) := ⟨by rw [wid (by omega) (by omega)]; omega⟩
      have w4 : Aside0 (wrap64 (a + 5 * (i : Int) + 2 + 1) = a + 5 * (i : Int) + 3) := ⟨by rw [wid (by omega) (by omega)]; omega⟩
      have w5 : Aside0 (wrap64 (a + 5 * (i : Int) + 3 + 1) = a + 5 * (i : Int) + 4) := ⟨by rw [wid (by omega) (by omega)]; omega⟩
      have w6 : Aside0 (wrap64 (a + 5 * (i : Int) + 4 + 1) = a + 5 * ((i + 1 : Nat) : Int)) := ⟨by rw [wid (by omega) (by omega)]; omega⟩
      have r1 : rd_T46 (mkA a n) (i : Int) = (⟨mt (a + 5 * (i : Int)), (Int.tmod (a + 5 * (i : Int) + 1) 3 == 0), mt (a + 5 * (i : Int) + 2), mt (a + 5 * (i : Int) + 3), mt (a + 5 * (i : Int) + 4)⟩ : Af) := by unfold rd_T46; rw [Int.toNat_natCast]; exact get_map _ n i _ hi
      apply Ev.succ
      simp only [laws_heldAffixS.l0, c1, c2, if_true]
      refine Ev.bind (mt_ev _ (by omega) (by omega)) ?_
      simp only [r1, w2.out, w3.out, if_true, bne_self_eq_false, Bool.false_eq_true, if_false]
      refine Ev.bind (mt_ev _ (by omega) (by omega)) ?_
      simp only [w4.out, if_true]
      refine Ev.bind (mt_ev _ (by omega) (by omega)) ?_
      simp only [w5.out, if_true]
      refine Ev.bind (mt_ev _ (by omega) (by omega)) ?_
      simp only [w1.out, w6.out, if_true]
      exact hr
    · have c1 : ¬ (n : Int) < ((mkA a n).length : Int) := by rw [hz]; omega
      apply Ev.succ
      simp only [laws_heldAffixS.l0, c1, if_false]
      exact Ev.now _
  simpa using key
theorem markD_ev (g : List ByteArray) (c : List En) (b : Bool) (l : List Af) (a : Int) (h0 : 0 ≤ a) (h1 : a ≤ 1000000000) (hg : Lim g.length) (hc : Lim c.length) (hl : Lim l.length) :
    Ev (fun k => laws_markDelta.f k g c b l a) (a + (g.length : Int) + 2 * (c.length : Int) + 5 * (l.length : Int), mkS a g.length, mkE (a + (g.length : Int)) c.length, mkA (a + (g.length : Int) + 2 * (c.length : Int)) l.length) := by
  simp only [Lim] at hg hc hl
  unfold laws_markDelta.f
  refine Ev.bind (markS_ev g a ⟨h0, by omega⟩ hg) ?_
  refine Ev.bind (markE_ev c _ ⟨by omega, by omega⟩ hc) ?_
  refine Ev.bind (markA_ev l _ ⟨by omega, by omega⟩ hl) (Ev.now _)
theorem heldD_ev (n m p : Nat) (b : Bool) (a : Int) (h0 : 0 ≤ a) (h1 : a ≤ 1000000000) (hg : Lim n) (hc : Lim m) (hl : Lim p) :
    Ev (fun k => laws_heldDelta.f k (mkS a n) (mkE (a + (n : Int)) m) b (mkA (a + (n : Int) + 2 * (m : Int)) p) a) (a + (n : Int) + 2 * (m : Int) + 5 * (p : Int)) := by
  simp only [Lim] at hg hc hl
  unfold laws_heldDelta.f
  refine Ev.bind (heldS_ev n a ⟨h0, by omega⟩ hg) ?_
  refine Ev.ifn (by omega) ?_
  refine Ev.bind (heldE_ev m _ ⟨by omega, by omega⟩ hc) ?_
  refine Ev.ifn (by omega) ?_
  refine Ev.bind (heldA_ev p _ ⟨by omega, by omega⟩ hl) ?_
  exact Ev.ifn (by omega) (Ev.now _)
theorem eqS_refl (l : List ByteArray) (hl : Small l.length) : Ev (fun k => laws_eqStringS.f k l l) true := by
  unfold laws_eqStringS.f
  refine Ev.ifp rfl ?_
  have key := all_loop (g := fun k x => laws_eqStringS.l0 k l l x) l.length (fun _ => True) true true ?_ ?_ ?_
  · exact Ev.cast key (by simp)
  · intro i r hi _ hr
    have c1 : (i : Int) < (l.length : Int) := by omega
    have c2 : (0 : Int) ≤ (i : Int) := by omega
    have w1 : Aside0 (wrap64 ((i : Int) + 1) = (i : Int) + 1) := ⟨wid (by omega) (by simp [Small] at hl; omega)⟩
    apply Ev.succ
    simp only [laws_eqStringS.l0, c1, c2, w1.out, if_true]
    exact hr
  · intro i hi h
    exact absurd trivial h
  · apply Ev.succ
    simp only [laws_eqStringS.l0, Int.lt_irrefl, if_false]
    exact Ev.now _
theorem eqE_refl (l : List En) (hl : Small l.length) : Ev (fun k => laws_eqEntryS.f k l l) true := by
  unfold laws_eqEntryS.f
  refine Ev.ifp rfl ?_
  have key := all_loop (g := fun k x => laws_eqEntryS.l0 k l l x) l.length (fun _ => True) true true ?_ ?_ ?_
  · exact Ev.cast key (by simp)
  · intro i r hi _ hr
    have c1 : (i : Int) < (l.length : Int) := by omega
    have c2 : (0 : Int) ≤ (i : Int) := by omega
    have w1 : Aside0 (wrap64 ((i : Int) + 1) = (i : Int) + 1) := ⟨wid (by omega) (by simp [Small] at hl; omega)⟩
    apply Ev.succ
    simp only [laws_eqEntryS.l0, laws_eqEntry.f, c1, c2, w1.out, if_true, Option.bind_some]
    exact hr
  · intro i hi h
    exact absurd trivial h
  · apply Ev.succ
    simp only [laws_eqEntryS.l0, Int.lt_irrefl, if_false]
    exact Ev.now _
theorem eqA_refl (l : List Af) (hl : Small l.length) : Ev (fun k => laws_eqAffixS.f k l l) true := by
  unfold laws_eqAffixS.f
  refine Ev.ifp rfl ?_
  have key := all_loop (g := fun k x => laws_eqAffixS.l0 k l l x) l.length (fun _ => True) true true ?_ ?_ ?_
  · exact Ev.cast key (by simp)
  · intro i r hi _ hr
    have c1 : (i : Int) < (l.length : Int) := by omega
    have c2 : (0 : Int) ≤ (i : Int) := by omega
    have w1 : Aside0 (wrap64 ((i : Int) + 1) = (i : Int) + 1) := ⟨wid (by omega) (by simp [Small] at hl; omega)⟩
    apply Ev.succ
    simp only [laws_eqAffixS.l0, laws_eqAffix.f, c1, c2, w1.out, if_true, bne_self_eq_false, Bool.false_eq_true, if_false, Option.bind_some]
    exact hr
  · intro i hi h
    exact absurd trivial h
  · apply Ev.succ
    simp only [laws_eqAffixS.l0, Int.lt_irrefl, if_false]
    exact Ev.now _
theorem eqD_refl (g : List ByteArray) (c : List En) (b : Bool) (l : List Af) (hg : Small g.length) (hc : Small c.length) (hl : Small l.length) : Ev (fun k => laws_eqDelta.f k g c b l g c b l) true := by
  unfold laws_eqDelta.f
  refine Ev.bind (eqS_refl g hg) ?_
  simp only [if_true]
  refine Ev.bind (eqE_refl c hc) ?_
  simp only [if_true, bne_self_eq_false, Bool.false_eq_true, if_false]
  refine Ev.bind (eqA_refl l hl) ?_
  simp only [if_true]
  exact Ev.now _
end Go.Proofs.YtabindnaedchgaaDoor.M
end
