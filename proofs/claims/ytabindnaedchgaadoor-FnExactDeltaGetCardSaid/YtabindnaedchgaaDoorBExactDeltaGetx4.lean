import Derived.Test.YtabindnaedchgaaDoorBExactDeltaGetx2
import Derived.Test.YtabindnaedchgaaDoorBExactDeltaGetx3

section
-- Printed for this claim by a program (mprint.py) that uses the kit's print; Lean checks it.
namespace Go.Proofs.YtabindnaedchgaaDoor.M
open Go.RowKit Go.Proofs.YtabindnaedchgaaDoorW.PrintWords Go.Proofs.YtabindnaedchgaaDoorW.PrintLast Go.Proofs.YtabindnaedchgaaDoorW.PrintMore Go.Proofs.YtabindnaedchgaaDoor.Sq
set_option synthInstance.maxHeartbeats 2000000
set_option synthInstance.maxSize 4096
attribute [local go_sem] max2_int min2_int max_two min_two max_three min_three max_four min_four   -- for this text's walks alone
set_option linter.unusedVariables false
set_option linter.unusedSimpArgs false
theorem gf29 : Go_ Tryd.prog 29 Tryd.f29 := ⟨Tryd.func29, by kernel_rfl, rfl⟩
def laws_markAffixS.l0 : Nat → List (S46) → Int → Int → Option (Int × (List (S46)))
  | 0, _, _, _ => none
  | k + 1, x0, x1, x5 => if x5 < (x0.length : Int) then ((laws_markText.f k x1).bind fun t101 => (if 0 ≤ x5 then ((some (x0.set (x5 : Int).toNat (⟨t101, (rd_T46 x0 x5).f1, (rd_T46 x0 x5).f2, (rd_T46 x0 x5).f3, (rd_T46 x0 x5).f4⟩ : S46) : List (S46))).bind fun y102 => ((some (y102.set (x5 : Int).toNat (⟨(rd_T46 y102 x5).f0, ((Int.tmod (wrap64 (x1 + 1)) 3) == 0), (rd_T46 y102 x5).f2, (rd_T46 y102 x5).f3, (rd_T46 y102 x5).f4⟩ : S46) : List (S46))).bind fun y103 => ((laws_markText.f k (wrap64 ((wrap64 (x1 + 1)) + 1))).bind fun t104 => ((some (y103.set (x5 : Int).toNat (⟨(rd_T46 y103 x5).f0, (rd_T46 y103 x5).f1, t104, (rd_T46 y103 x5).f3, (rd_T46 y103 x5).f4⟩ : S46) : List (S46))).bind fun y105 => ((laws_markText.f k (wrap64 ((wrap64 ((wrap64 (x1 + 1)) + 1)) + 1))).bind fun t106 => ((some (y105.set (x5 : Int).toNat (⟨(rd_T46 y105 x5).f0, (rd_T46 y105 x5).f1, (rd_T46 y105 x5).f2, t106, (rd_T46 y105 x5).f4⟩ : S46) : List (S46))).bind fun y107 => ((laws_markText.f k (wrap64 ((wrap64 ((wrap64 ((wrap64 (x1 + 1)) + 1)) + 1)) + 1))).bind fun t108 => (laws_markAffixS.l0 k (y107.set (x5 : Int).toNat (⟨(rd_T46 y107 x5).f0, (rd_T46 y107 x5).f1, (rd_T46 y107 x5).f2, (rd_T46 y107 x5).f3, t108⟩ : S46)) (wrap64 ((wrap64 ((wrap64 ((wrap64 ((wrap64 (x1 + 1)) + 1)) + 1)) + 1)) + 1)) (wrap64 (x5 + 1)))))))))) else (none))) else (some (x1, x0))
def laws_markAffixS.f (k : Nat) (l0 : List (S46)) (a1 : Int) : Option (Int × (List (S46))) := laws_markAffixS.l0 k l0 a1 0
theorem laws_markAffixS.mono_l : ∀ k, (∀ y0 y1 y2, LeO (laws_markAffixS.l0 k y0 y1 y2) (laws_markAffixS.l0 (k + 1) y0 y1 y2))
  | 0 => fun _ _ _ r h => by simp [laws_markAffixS.l0] at h
  | k + 1 => by
    have ih0 := laws_markAffixS.mono_l k
    · intro y0 y1 y2
      unfold laws_markAffixS.l0
      have I0_ := fun x0_ x1_ x2_ => LeC.mk (ih0 x0_ x1_ x2_)
      have I1_ := fun x0_ x1_ => LeC.mk (laws_markText.mono x0_ x1_)
      exact LeC.out
theorem laws_markAffixS.mono : ∀ a0 a1 k, LeO (laws_markAffixS.f k a0 a1) (laws_markAffixS.f (k + 1) a0 a1) := by
  intro a0 a1 k
  have ih0 := laws_markAffixS.mono_l k
  unfold laws_markAffixS.f
  have I0_ := fun x0_ x1_ x2_ => LeC.mk (ih0 x0_ x1_ x2_)
  have I1_ := fun x0_ x1_ => LeC.mk (laws_markText.mono x0_ x1_)
  exact LeC.out
set_option maxHeartbeats 8000000 in
set_option maxRecDepth 100000 in
theorem laws_markAffixS.calls (k : Nat) (P0_ : Nat → Prop) (u9000_ : Value) (l0 : List (S46)) (a1 : Int) (r1 : Int) (r2 : List (S46)) (w0 w : World) (hB : Below w0.heap.size w0 w) (ho0 : Kd.R k46 46 w w0.heap.size P0_ u9000_ l0) (h : laws_markAffixS.f k l0 a1 = some (r1, r2)) :
    Calls Tryd.prog 29 #[u9000_, .int .i64 a1] w fun e w' => e = .returned (.int .i64 r1) ∧ Kd.R k46 46 w' w0.heap.size (fun k_ => (P0_ k_ ∨ w.heap.size ≤ k_)) u9000_ r2 ∧ Below w0.heap.size w0 w' ∧ Kept w w' (fun k_ => P0_ k_) := by
  have HO0 := Aside0.mk (show Kd.R k46 46 w w0.heap.size (fun k_ => (P0_ k_ ∨ w.heap.size ≤ k_)) u9000_ l0 from Kd.R_mono ho0 (fun k_ hk => (.inl hk)))
  have HK := Aside0.mk (Kept.refl w (fun k_ => P0_ k_))
  have HW0 := Aside0.mk hB.size
  have HB := Aside0.mk hB
  clear hB
  unfold laws_markAffixS.f at h
  have H := h
  clear h
  have H' := Aside0.mk H
  clear H
  go_enter Tryd.func29, Tryd.ntmps29
  go_wp2
  go_loopg [1, 5] k (fun kq v1 v5 w' => ∃ (x0_1 : List (S46)) (x1_1 : Int) (x5_1 : Int), v1 = .int .i64 x1_1 ∧ v5 = .int .i64 x5_1 ∧ Aside0 (laws_markAffixS.l0 kq x0_1 x1_1 x5_1 = some (r1, r2)) ∧ Aside0 (kq ≤ k) ∧ Aside0 (Kd.R k46 46 w' w0.heap.size (fun k_ => (P0_ k_ ∨ w.heap.size ≤ k_)) u9000_ x0_1) ∧ Aside0 (Kept w w' (fun k_ => P0_ k_)) ∧ Aside0 (Below w0.heap.size w0 w'))
  case atStart => exact ⟨(l0), (a1), (0), (by first | rfl | (simp; done) | (simp [*]; done)), (by first | rfl | (simp; done) | (simp [*]; done)), H', ⟨Nat.le_refl _⟩, ⟨rx HO0.out⟩, ⟨kx HK.out⟩, ⟨bx HB.out⟩⟩
  case round =>
    clear H'
    try clear c2
    try clear p2
    obtain ⟨x0_1, x1_1, x5_1, rfl, rfl, HA, HK1, HO_0, HK, HB⟩ := hrel
    cases gk with
    | zero => exact absurd HA.out (by simp [laws_markAffixS.l0])
    | succ k1 =>
      have H := HA.out
      clear HA
      simp only [laws_markAffixS.l0] at H
      by_cases c3 : x5_1 < (x0_1.length : Int)
      · rw [if_pos c3] at H
        have c3b0 := decide_eq_true c3
        clear c3
        replace H := Option.bind_eq_some_iff.mp H
        obtain ⟨t101, A40, H⟩ := H
        have A4 := Aside0.mk A40
        clear A40
        have c5 := ite_y H
        replace H := ite_t H
        have c5b0 := decide_eq_true c5
        clear c5
        obtain ⟨y102, hy102⟩ : ∃ y_ : List (S46), y_ = (x0_1.set (x5_1 : Int).toNat (⟨t101, (rd_T46 x0_1 x5_1).f1, (rd_T46 x0_1 x5_1).f2, (rd_T46 x0_1 x5_1).f3, (rd_T46 x0_1 x5_1).f4⟩ : S46)) := ⟨_, rfl⟩
        replace H : ((some (y102.set (x5_1 : Int).toNat (⟨(rd_T46 y102 x5_1).f0, ((Int.tmod (wrap64 (x1_1 + 1)) 3) == 0), (rd_T46 y102 x5_1).f2, (rd_T46 y102 x5_1).f3, (rd_T46 y102 x5_1).f4⟩ : S46) : List (S46))).bind fun y103 => ((laws_markText.f k1 (wrap64 ((wrap64 (x1_1 + 1)) + 1))).bind fun t104 => ((some (y103.set (x5_1 : Int).toNat (⟨(rd_T46 y103 x5_1).f0, (rd_T46 y103 x5_1).f1, t104, (rd_T46 y103 x5_1).f3, (rd_T46 y103 x5_1).f4⟩ : S46) : List (S46))).bind fun y105 => ((laws_markText.f k1 (wrap64 ((wrap64 ((wrap64 (x1_1 + 1)) + 1)) + 1))).bind fun t106 => ((some (y105.set (x5_1 : Int).toNat (⟨(rd_T46 y105 x5_1).f0, (rd_T46 y105 x5_1).f1, (rd_T46 y105 x5_1).f2, t106, (rd_T46 y105 x5_1).f4⟩ : S46) : List (S46))).bind fun y107 => ((laws_markText.f k1 (wrap64 ((wrap64 ((wrap64 ((wrap64 (x1_1 + 1)) + 1)) + 1)) + 1))).bind fun t108 => (laws_markAffixS.l0 k1 (y107.set (x5_1 : Int).toNat (⟨(rd_T46 y107 x5_1).f0, (rd_T46 y107 x5_1).f1, (rd_T46 y107 x5_1).f2, (rd_T46 y107 x5_1).f3, t108⟩ : S46)) (wrap64 ((wrap64 ((wrap64 ((wrap64 ((wrap64 (x1_1 + 1)) + 1)) + 1)) + 1)) + 1)) (wrap64 (x5_1 + 1))))))))) = some (r1, r2) := by first | (rw [hy102]; with_reducible exact H) | (have H2_ := (Option.bind_some _ _).symm.trans H; rw [hy102]; with_reducible exact H2_) | (have H2_ := (Option.bind_some _ _).symm.trans H; with_reducible exact H2_) | with_reducible exact H | (rw [hy102]; exact H) | exact H
        have Ny102 := Aside0.mk hy102
        clear hy102
        obtain ⟨y103, hy103⟩ : ∃ y_ : List (S46), y_ = (y102.set (x5_1 : Int).toNat (⟨(rd_T46 y102 x5_1).f0, ((Int.tmod (wrap64 (x1_1 + 1)) 3) == 0), (rd_T46 y102 x5_1).f2, (rd_T46 y102 x5_1).f3, (rd_T46 y102 x5_1).f4⟩ : S46)) := ⟨_, rfl⟩
        replace H : ((laws_markText.f k1 (wrap64 ((wrap64 (x1_1 + 1)) + 1))).bind fun t104 => ((some (y103.set (x5_1 : Int).toNat (⟨(rd_T46 y103 x5_1).f0, (rd_T46 y103 x5_1).f1, t104, (rd_T46 y103 x5_1).f3, (rd_T46 y103 x5_1).f4⟩ : S46) : List (S46))).bind fun y105 => ((laws_markText.f k1 (wrap64 ((wrap64 ((wrap64 (x1_1 + 1)) + 1)) + 1))).bind fun t106 => ((some (y105.set (x5_1 : Int).toNat (⟨(rd_T46 y105 x5_1).f0, (rd_T46 y105 x5_1).f1, (rd_T46 y105 x5_1).f2, t106, (rd_T46 y105 x5_1).f4⟩ : S46) : List (S46))).bind fun y107 => ((laws_markText.f k1 (wrap64 ((wrap64 ((wrap64 ((wrap64 (x1_1 + 1)) + 1)) + 1)) + 1))).bind fun t108 => (laws_markAffixS.l0 k1 (y107.set (x5_1 : Int).toNat (⟨(rd_T46 y107 x5_1).f0, (rd_T46 y107 x5_1).f1, (rd_T46 y107 x5_1).f2, (rd_T46 y107 x5_1).f3, t108⟩ : S46)) (wrap64 ((wrap64 ((wrap64 ((wrap64 ((wrap64 (x1_1 + 1)) + 1)) + 1)) + 1)) + 1)) (wrap64 (x5_1 + 1)))))))) = some (r1, r2) := by first | (rw [hy103]; with_reducible exact H) | (have H2_ := (Option.bind_some _ _).symm.trans H; rw [hy103]; with_reducible exact H2_) | (have H2_ := (Option.bind_some _ _).symm.trans H; with_reducible exact H2_) | with_reducible exact H | (rw [hy103]; exact H) | exact H
        have Ny103 := Aside0.mk hy103
        clear hy103
        replace H := Option.bind_eq_some_iff.mp H
        obtain ⟨t104, A80, H⟩ := H
        have A8 := Aside0.mk A80
        clear A80
        obtain ⟨y105, hy105⟩ : ∃ y_ : List (S46), y_ = (y103.set (x5_1 : Int).toNat (⟨(rd_T46 y103 x5_1).f0, (rd_T46 y103 x5_1).f1, t104, (rd_T46 y103 x5_1).f3, (rd_T46 y103 x5_1).f4⟩ : S46)) := ⟨_, rfl⟩
        replace H : ((laws_markText.f k1 (wrap64 ((wrap64 ((wrap64 (x1_1 + 1)) + 1)) + 1))).bind fun t106 => ((some (y105.set (x5_1 : Int).toNat (⟨(rd_T46 y105 x5_1).f0, (rd_T46 y105 x5_1).f1, (rd_T46 y105 x5_1).f2, t106, (rd_T46 y105 x5_1).f4⟩ : S46) : List (S46))).bind fun y107 => ((laws_markText.f k1 (wrap64 ((wrap64 ((wrap64 ((wrap64 (x1_1 + 1)) + 1)) + 1)) + 1))).bind fun t108 => (laws_markAffixS.l0 k1 (y107.set (x5_1 : Int).toNat (⟨(rd_T46 y107 x5_1).f0, (rd_T46 y107 x5_1).f1, (rd_T46 y107 x5_1).f2, (rd_T46 y107 x5_1).f3, t108⟩ : S46)) (wrap64 ((wrap64 ((wrap64 ((wrap64 ((wrap64 (x1_1 + 1)) + 1)) + 1)) + 1)) + 1)) (wrap64 (x5_1 + 1)))))) = some (r1, r2) := by first | (rw [hy105]; with_reducible exact H) | (have H2_ := (Option.bind_some _ _).symm.trans H; rw [hy105]; with_reducible exact H2_) | (have H2_ := (Option.bind_some _ _).symm.trans H; with_reducible exact H2_) | with_reducible exact H | (rw [hy105]; exact H) | exact H
        have Ny105 := Aside0.mk hy105
        clear hy105
        replace H := Option.bind_eq_some_iff.mp H
        obtain ⟨t106, A100, H⟩ := H
        have A10 := Aside0.mk A100
        clear A100
        obtain ⟨y107, hy107⟩ : ∃ y_ : List (S46), y_ = (y105.set (x5_1 : Int).toNat (⟨(rd_T46 y105 x5_1).f0, (rd_T46 y105 x5_1).f1, (rd_T46 y105 x5_1).f2, t106, (rd_T46 y105 x5_1).f4⟩ : S46)) := ⟨_, rfl⟩
        replace H : ((laws_markText.f k1 (wrap64 ((wrap64 ((wrap64 ((wrap64 (x1_1 + 1)) + 1)) + 1)) + 1))).bind fun t108 => (laws_markAffixS.l0 k1 (y107.set (x5_1 : Int).toNat (⟨(rd_T46 y107 x5_1).f0, (rd_T46 y107 x5_1).f1, (rd_T46 y107 x5_1).f2, (rd_T46 y107 x5_1).f3, t108⟩ : S46)) (wrap64 ((wrap64 ((wrap64 ((wrap64 ((wrap64 (x1_1 + 1)) + 1)) + 1)) + 1)) + 1)) (wrap64 (x5_1 + 1)))) = some (r1, r2) := by first | (rw [hy107]; with_reducible exact H) | (have H2_ := (Option.bind_some _ _).symm.trans H; rw [hy107]; with_reducible exact H2_) | (have H2_ := (Option.bind_some _ _).symm.trans H; with_reducible exact H2_) | with_reducible exact H | (rw [hy107]; exact H) | exact H
        have Ny107 := Aside0.mk hy107
        clear hy107
        replace H := Option.bind_eq_some_iff.mp H
        obtain ⟨t108, A120, H⟩ := H
        have A12 := Aside0.mk A120
        clear A120
        obtain ⟨y109, hy109⟩ : ∃ y_ : List (S46), y_ = (y107.set (x5_1 : Int).toNat (⟨(rd_T46 y107 x5_1).f0, (rd_T46 y107 x5_1).f1, (rd_T46 y107 x5_1).f2, (rd_T46 y107 x5_1).f3, t108⟩ : S46)) := ⟨_, rfl⟩
        replace H : (laws_markAffixS.l0 k1 y109 (wrap64 ((wrap64 ((wrap64 ((wrap64 ((wrap64 (x1_1 + 1)) + 1)) + 1)) + 1)) + 1)) (wrap64 (x5_1 + 1))) = some (r1, r2) := by first | (rw [hy109]; with_reducible exact H) | (have H2_ := (Option.bind_some _ _).symm.trans H; rw [hy109]; with_reducible exact H2_) | (have H2_ := (Option.bind_some _ _).symm.trans H; with_reducible exact H2_) | with_reducible exact H | (rw [hy109]; exact H) | exact H
        have Ny109 := Aside0.mk hy109
        clear hy109
        have H' := Aside0.mk H
        clear H
        obtain ⟨Ao14, co14, eo14⟩ := Kd.R_slice HO_0.out
        subst eo14
        go_wp2_with (first | ((with_reducible refine gate_callee (f := 57) rfl ?_); refine goL (some 15) rfl rfl gf57 #[.int .i64 x1_1] rfl rfl ?_; (with_reducible refine (laws_markText.calls k1 x1_1 t101 _ A4.out).mono ?_); rintro e w15 ⟨rfl, hb⟩; refine ⟨_, rfl, ?_⟩; replace HO_0 := kR HO_0 hb; replace HK := Aside0.mk (Kept.below (S := (fun k_ => P0_ k_)) (kx HK.out) hb); replace HB := kB HB hb; (try clear hb); (try clear hb2); (try clear hk); (try clear hi); have p6 := of_decide_eq_true c5b0; have q6 : (x5_1 : Int) < ((x0_1.length : Int) : Int) := of_decide_eq_true (by with_reducible assumption); obtain ⟨go6, co6, eo6, gb6, gl6, cl6, HG6⟩ := Kd.R_form HO_0.out (by omega); (first | cases eo6 | (injection eo6 with ea_ en_ ec_; (first | subst ea_ | (injection ea_ with ea_; subst ea_)); subst ec_; clear en_)); have GB6 := Aside0.mk gb6; have GG6 := Aside0.mk HG6; clear gb6 gl6 HG6; have HMgo6 := Aside0.mk (show (P0_ go6 ∨ w.heap.size ≤ go6) from (HO_0.out.1 _ rfl)); obtain ⟨ce6, hcl6, hM6, hcc6, hfr6⟩ := Kd.R_elem HO_0.out z46 (x5_1 : Int) p6 q6; obtain rfl := k46_openM hM6; have hx6_0 : w15.cell? ⟨go6, (x5_1 : Int).toNat * 5, none⟩ = some (.string ((rd_T46 x0_1 x5_1).f0)) := hcc6 0 _ rfl; have hx6_1 : w15.cell? ⟨go6, (x5_1 : Int).toNat * 5 + 1, none⟩ = some (.bool ((rd_T46 x0_1 x5_1).f1)) := hcc6 1 _ rfl; have hx6_2 : w15.cell? ⟨go6, (x5_1 : Int).toNat * 5 + 2, none⟩ = some (.string ((rd_T46 x0_1 x5_1).f2)) := hcc6 2 _ rfl; have hx6_3 : w15.cell? ⟨go6, (x5_1 : Int).toNat * 5 + 3, none⟩ = some (.string ((rd_T46 x0_1 x5_1).f3)) := hcc6 3 _ rfl; have hx6_4 : w15.cell? ⟨go6, (x5_1 : Int).toNat * 5 + 4, none⟩ = some (.string ((rd_T46 x0_1 x5_1).f4)) := hcc6 4 _ rfl; have hf6_0 : w15.frozen? ⟨go6, (x5_1 : Int).toNat * 5, none⟩ = false := hfr6 0; have hf6_1 : w15.frozen? ⟨go6, (x5_1 : Int).toNat * 5 + 1, none⟩ = false := hfr6 1; have hf6_2 : w15.frozen? ⟨go6, (x5_1 : Int).toNat * 5 + 2, none⟩ = false := hfr6 2; have hf6_3 : w15.frozen? ⟨go6, (x5_1 : Int).toNat * 5 + 3, none⟩ = false := hfr6 3; have hf6_4 : w15.frozen? ⟨go6, (x5_1 : Int).toNat * 5 + 4, none⟩ = false := hfr6 4; clear hcl6 hcc6 hfr6 hM6; replace p6 := eq_true p6; replace q6 := eq_true q6; have HX16 := Aside0.mk (show Kd.R k46 46 w15 w0.heap.size (fun k_ => (P0_ k_ ∨ w.heap.size ≤ k_)) (.slice (some ⟨go6, 0, none⟩) x0_1.length co14) x0_1 from (rx HO_0.out)); obtain ⟨ce16, hcl16, hM16, hcc16, hfr16⟩ := Kd.R_elem HX16.out z46 (x5_1 : Int) (of_decide_eq_true (by with_reducible assumption)) (by have h_ : (x5_1 : Int) < ((x0_1.length : Int) : Int) := of_decide_eq_true (by with_reducible assumption); first | exact h_ | (have e_ := (Kd.R_reads' HO_0.out).1; omega) | simpa using h_); obtain rfl := k46_openM hM16; have HP16 := Kd.R_seg HX16.out (x5_1 : Int) (of_decide_eq_true (by with_reducible assumption)) (by have h_ : (x5_1 : Int) < ((x0_1.length : Int) : Int) := of_decide_eq_true (by with_reducible assumption); first | exact h_ | (have e_ := (Kd.R_reads' HO_0.out).1; omega) | simpa using h_) (seg := [.string t101]) (j := 0) hcl16 hcc16 (show 1 ≤ 5 from by decide) (x' := (⟨t101, (rd_T46 x0_1 x5_1).f1, (rd_T46 x0_1 x5_1).f2, (rd_T46 x0_1 x5_1).f3, (rd_T46 x0_1 x5_1).f4⟩ : S46)) (k46_mkM _ _ _ (⟨t101, (rd_T46 x0_1 x5_1).f1, (rd_T46 x0_1 x5_1).f2, (rd_T46 x0_1 x5_1).f3, (rd_T46 x0_1 x5_1).f4⟩ : S46) ) (fun _ hk => hk); have hx16_0 := hcc16 0 _ rfl; (try simp only [show (k46).sz = 5 from rfl, Nat.mul_one, Nat.add_zero] at hx16_0); have hf16_0 := hfr16 0; (try simp only [show (k46).sz = 5 from rfl, Nat.mul_one, Nat.add_zero] at hf16_0); clear hcl16 hcc16 hfr16 hM16) | ((with_reducible refine gate_store (t := 9) (p := 17) rfl ?_); refine store_event (t := 9) (p := 17) (v := ?vo_w17) (w1 := (w15.setCell ⟨go6, (x5_1 : Int).toNat * 5, none⟩ (.string t101))) ?hg ?ho ?hn ?hr ?_; (case ho => rfl); (case hg => rfl); (case hn => rfl); (case hr => first | (go_simp; done) | (go_simp; rfl)); intro w17 hw; have hg : w15.grownBy w17 (some go6) := (by rw [hw]; exact HP16.2); have hp_ : Kd.R k46 46 w17 w0.heap.size (fun k_ => (P0_ k_ ∨ w.heap.size ≤ k_)) (.slice (some ⟨go6, 0, none⟩) x0_1.length co14) y102 := (by rw [hw, Ny102.out]; exact HP16.1); clear HP16; replace HB := Aside0.mk ((by rw [hw]; exact below_set (HB.out) GB6.out : Below w0.heap.size w0 w17)); replace HK := Aside0.mk (Kept.of_grown (S := (fun k_ => P0_ k_)) hg (kx HK.out) (fun k_ e_ => (HO_0.out.1 k_ e_))); replace HO_0 := Aside0.mk (hp_); clear hg hw hp_; have p7 := of_decide_eq_true c5b0; have q7 : (x5_1 : Int) < ((x0_1.length : Int) : Int) := of_decide_eq_true (by with_reducible assumption); obtain ⟨ce7, hcl7, hM7, hcc7, hfr7⟩ := Kd.R_elem HO_0.out z46 (x5_1 : Int) p7 q7; obtain rfl := k46_openM hM7; have hx7_0 : w17.cell? ⟨go6, (x5_1 : Int).toNat * 5, none⟩ = some (.string ((rd_T46 y102 x5_1).f0)) := hcc7 0 _ rfl; have hx7_1 : w17.cell? ⟨go6, (x5_1 : Int).toNat * 5 + 1, none⟩ = some (.bool ((rd_T46 y102 x5_1).f1)) := hcc7 1 _ rfl; have hx7_2 : w17.cell? ⟨go6, (x5_1 : Int).toNat * 5 + 2, none⟩ = some (.string ((rd_T46 y102 x5_1).f2)) := hcc7 2 _ rfl; have hx7_3 : w17.cell? ⟨go6, (x5_1 : Int).toNat * 5 + 3, none⟩ = some (.string ((rd_T46 y102 x5_1).f3)) := hcc7 3 _ rfl; have hx7_4 : w17.cell? ⟨go6, (x5_1 : Int).toNat * 5 + 4, none⟩ = some (.string ((rd_T46 y102 x5_1).f4)) := hcc7 4 _ rfl; have hf7_0 : w17.frozen? ⟨go6, (x5_1 : Int).toNat * 5, none⟩ = false := hfr7 0; have hf7_1 : w17.frozen? ⟨go6, (x5_1 : Int).toNat * 5 + 1, none⟩ = false := hfr7 1; have hf7_2 : w17.frozen? ⟨go6, (x5_1 : Int).toNat * 5 + 2, none⟩ = false := hfr7 2; have hf7_3 : w17.frozen? ⟨go6, (x5_1 : Int).toNat * 5 + 3, none⟩ = false := hfr7 3; have hf7_4 : w17.frozen? ⟨go6, (x5_1 : Int).toNat * 5 + 4, none⟩ = false := hfr7 4; clear hcl7 hcc7 hfr7 hM7; replace p7 := eq_true p7; replace q7 := eq_true q7; have HX18 := Aside0.mk (show Kd.R k46 46 w17 w0.heap.size (fun k_ => (P0_ k_ ∨ w.heap.size ≤ k_)) (.slice (some ⟨go6, 0, none⟩) x0_1.length co14) y102 from (rx HO_0.out)); obtain ⟨ce18, hcl18, hM18, hcc18, hfr18⟩ := Kd.R_elem HX18.out z46 (x5_1 : Int) (of_decide_eq_true (by with_reducible assumption)) (by have h_ : (x5_1 : Int) < ((x0_1.length : Int) : Int) := of_decide_eq_true (by with_reducible assumption); first | exact h_ | (have e_ := (Kd.R_reads' HO_0.out).1; omega) | simpa using h_); obtain rfl := k46_openM hM18; have HP18 := Kd.R_seg HX18.out (x5_1 : Int) (of_decide_eq_true (by with_reducible assumption)) (by have h_ : (x5_1 : Int) < ((x0_1.length : Int) : Int) := of_decide_eq_true (by with_reducible assumption); first | exact h_ | (have e_ := (Kd.R_reads' HO_0.out).1; omega) | simpa using h_) (seg := [.bool ((Int.tmod (wrap64 (x1_1 + 1)) 3) == 0)]) (j := 1) hcl18 hcc18 (show 2 ≤ 5 from by decide) (x' := (⟨(rd_T46 y102 x5_1).f0, ((Int.tmod (wrap64 (x1_1 + 1)) 3) == 0), (rd_T46 y102 x5_1).f2, (rd_T46 y102 x5_1).f3, (rd_T46 y102 x5_1).f4⟩ : S46)) (k46_mkM _ _ _ (⟨(rd_T46 y102 x5_1).f0, ((Int.tmod (wrap64 (x1_1 + 1)) 3) == 0), (rd_T46 y102 x5_1).f2, (rd_T46 y102 x5_1).f3, (rd_T46 y102 x5_1).f4⟩ : S46) ) (fun _ hk => hk); have hx18_1 := hcc18 1 _ rfl; (try simp only [show (k46).sz = 5 from rfl, Nat.mul_one, Nat.add_zero] at hx18_1); have hf18_1 := hfr18 1; (try simp only [show (k46).sz = 5 from rfl, Nat.mul_one, Nat.add_zero] at hf18_1); clear hcl18 hcc18 hfr18 hM18) | ((with_reducible refine gate_store (t := 4) (p := 26) rfl ?_); refine store_event (t := 4) (p := 26) (v := ?vo_w19) (w1 := (w17.setCell ⟨go6, (x5_1 : Int).toNat * 5 + 1, none⟩ (.bool ((Int.tmod (wrap64 (x1_1 + 1)) 3) == 0)))) ?hg ?ho ?hn ?hr ?_; (case ho => rfl); (case hg => rfl); (case hn => rfl); (case hr => first | (go_simp; done) | (go_simp; rfl)); intro w19 hw; have hg : w17.grownBy w19 (some go6) := (by rw [hw]; exact HP18.2); have hp_ : Kd.R k46 46 w19 w0.heap.size (fun k_ => (P0_ k_ ∨ w.heap.size ≤ k_)) (.slice (some ⟨go6, 0, none⟩) x0_1.length co14) y103 := (by rw [hw, Ny103.out]; exact HP18.1); clear HP18; replace HB := Aside0.mk ((by rw [hw]; exact below_set (HB.out) GB6.out : Below w0.heap.size w0 w19)); replace HK := Aside0.mk (Kept.of_grown (S := (fun k_ => P0_ k_)) hg (kx HK.out) (fun k_ e_ => (HO_0.out.1 k_ e_))); replace HO_0 := Aside0.mk (hp_); clear hg hw hp_) | ((with_reducible refine gate_callee (f := 57) rfl ?_); refine goL (some 32) rfl rfl gf57 #[.int .i64 (wrap64 ((wrap64 (x1_1 + 1)) + 1))] rfl rfl ?_; (with_reducible refine (laws_markText.calls k1 (wrap64 ((wrap64 (x1_1 + 1)) + 1)) t104 _ A8.out).mono ?_); rintro e w20 ⟨rfl, hb⟩; refine ⟨_, rfl, ?_⟩; replace HO_0 := kR HO_0 hb; replace HK := Aside0.mk (Kept.below (S := (fun k_ => P0_ k_)) (kx HK.out) hb); replace HB := kB HB hb; (try clear hb); (try clear hb2); (try clear hk); (try clear hi); have p9 := of_decide_eq_true c5b0; have q9 : (x5_1 : Int) < ((x0_1.length : Int) : Int) := of_decide_eq_true (by with_reducible assumption); obtain ⟨ce9, hcl9, hM9, hcc9, hfr9⟩ := Kd.R_elem HO_0.out z46 (x5_1 : Int) p9 q9; obtain rfl := k46_openM hM9; have hx9_0 : w20.cell? ⟨go6, (x5_1 : Int).toNat * 5, none⟩ = some (.string ((rd_T46 y103 x5_1).f0)) := hcc9 0 _ rfl; have hx9_1 : w20.cell? ⟨go6, (x5_1 : Int).toNat * 5 + 1, none⟩ = some (.bool ((rd_T46 y103 x5_1).f1)) := hcc9 1 _ rfl; have hx9_2 : w20.cell? ⟨go6, (x5_1 : Int).toNat * 5 + 2, none⟩ = some (.string ((rd_T46 y103 x5_1).f2)) := hcc9 2 _ rfl; have hx9_3 : w20.cell? ⟨go6, (x5_1 : Int).toNat * 5 + 3, none⟩ = some (.string ((rd_T46 y103 x5_1).f3)) := hcc9 3 _ rfl; have hx9_4 : w20.cell? ⟨go6, (x5_1 : Int).toNat * 5 + 4, none⟩ = some (.string ((rd_T46 y103 x5_1).f4)) := hcc9 4 _ rfl; have hf9_0 : w20.frozen? ⟨go6, (x5_1 : Int).toNat * 5, none⟩ = false := hfr9 0; have hf9_1 : w20.frozen? ⟨go6, (x5_1 : Int).toNat * 5 + 1, none⟩ = false := hfr9 1; have hf9_2 : w20.frozen? ⟨go6, (x5_1 : Int).toNat * 5 + 2, none⟩ = false := hfr9 2; have hf9_3 : w20.frozen? ⟨go6, (x5_1 : Int).toNat * 5 + 3, none⟩ = false := hfr9 3; have hf9_4 : w20.frozen? ⟨go6, (x5_1 : Int).toNat * 5 + 4, none⟩ = false := hfr9 4; clear hcl9 hcc9 hfr9 hM9; replace p9 := eq_true p9; replace q9 := eq_true q9; have HX21 := Aside0.mk (show Kd.R k46 46 w20 w0.heap.size (fun k_ => (P0_ k_ ∨ w.heap.size ≤ k_)) (.slice (some ⟨go6, 0, none⟩) x0_1.length co14) y103 from (rx HO_0.out)); obtain ⟨ce21, hcl21, hM21, hcc21, hfr21⟩ := Kd.R_elem HX21.out z46 (x5_1 : Int) (of_decide_eq_true (by with_reducible assumption)) (by have h_ : (x5_1 : Int) < ((x0_1.length : Int) : Int) := of_decide_eq_true (by with_reducible assumption); first | exact h_ | (have e_ := (Kd.R_reads' HO_0.out).1; omega) | simpa using h_); obtain rfl := k46_openM hM21; have HP21 := Kd.R_seg HX21.out (x5_1 : Int) (of_decide_eq_true (by with_reducible assumption)) (by have h_ : (x5_1 : Int) < ((x0_1.length : Int) : Int) := of_decide_eq_true (by with_reducible assumption); first | exact h_ | (have e_ := (Kd.R_reads' HO_0.out).1; omega) | simpa using h_) (seg := [.string t104]) (j := 2) hcl21 hcc21 (show 3 ≤ 5 from by decide) (x' := (⟨(rd_T46 y103 x5_1).f0, (rd_T46 y103 x5_1).f1, t104, (rd_T46 y103 x5_1).f3, (rd_T46 y103 x5_1).f4⟩ : S46)) (k46_mkM _ _ _ (⟨(rd_T46 y103 x5_1).f0, (rd_T46 y103 x5_1).f1, t104, (rd_T46 y103 x5_1).f3, (rd_T46 y103 x5_1).f4⟩ : S46) ) (fun _ hk => hk); have hx21_2 := hcc21 2 _ rfl; (try simp only [show (k46).sz = 5 from rfl, Nat.mul_one, Nat.add_zero] at hx21_2); have hf21_2 := hfr21 2; (try simp only [show (k46).sz = 5 from rfl, Nat.mul_one, Nat.add_zero] at hf21_2); clear hcl21 hcc21 hfr21 hM21) | ((with_reducible refine gate_store (t := 9) (p := 34) rfl ?_); refine store_event (t := 9) (p := 34) (v := ?vo_w22) (w1 := (w20.setCell ⟨go6, (x5_1 : Int).toNat * 5 + 2, none⟩ (.string t104))) ?hg ?ho ?hn ?hr ?_; (case ho => rfl); (case hg => rfl); (case hn => rfl); (case hr => first | (go_simp; done) | (go_simp; rfl)); intro w22 hw; have hg : w20.grownBy w22 (some go6) := (by rw [hw]; exact HP21.2); have hp_ : Kd.R k46 46 w22 w0.heap.size (fun k_ => (P0_ k_ ∨ w.heap.size ≤ k_)) (.slice (some ⟨go6, 0, none⟩) x0_1.length co14) y105 := (by rw [hw, Ny105.out]; exact HP21.1); clear HP21; replace HB := Aside0.mk ((by rw [hw]; exact below_set (HB.out) GB6.out : Below w0.heap.size w0 w22)); replace HK := Aside0.mk (Kept.of_grown (S := (fun k_ => P0_ k_)) hg (kx HK.out) (fun k_ e_ => (HO_0.out.1 k_ e_))); replace HO_0 := Aside0.mk (hp_); clear hg hw hp_) | ((with_reducible refine gate_callee (f := 57) rfl ?_); refine goL (some 40) rfl rfl gf57 #[.int .i64 (wrap64 ((wrap64 ((wrap64 (x1_1 + 1)) + 1)) + 1))] rfl rfl ?_; (with_reducible refine (laws_markText.calls k1 (wrap64 ((wrap64 ((wrap64 (x1_1 + 1)) + 1)) + 1)) t106 _ A10.out).mono ?_); rintro e w23 ⟨rfl, hb⟩; refine ⟨_, rfl, ?_⟩; replace HO_0 := kR HO_0 hb; replace HK := Aside0.mk (Kept.below (S := (fun k_ => P0_ k_)) (kx HK.out) hb); replace HB := kB HB hb; (try clear hb); (try clear hb2); (try clear hk); (try clear hi); have p11 := of_decide_eq_true c5b0; have q11 : (x5_1 : Int) < ((x0_1.length : Int) : Int) := of_decide_eq_true (by with_reducible assumption); obtain ⟨ce11, hcl11, hM11, hcc11, hfr11⟩ := Kd.R_elem HO_0.out z46 (x5_1 : Int) p11 q11; obtain rfl := k46_openM hM11; have hx11_0 : w23.cell? ⟨go6, (x5_1 : Int).toNat * 5, none⟩ = some (.string ((rd_T46 y105 x5_1).f0)) := hcc11 0 _ rfl; have hx11_1 : w23.cell? ⟨go6, (x5_1 : Int).toNat * 5 + 1, none⟩ = some (.bool ((rd_T46 y105 x5_1).f1)) := hcc11 1 _ rfl; have hx11_2 : w23.cell? ⟨go6, (x5_1 : Int).toNat * 5 + 2, none⟩ = some (.string ((rd_T46 y105 x5_1).f2)) := hcc11 2 _ rfl; have hx11_3 : w23.cell? ⟨go6, (x5_1 : Int).toNat * 5 + 3, none⟩ = some (.string ((rd_T46 y105 x5_1).f3)) := hcc11 3 _ rfl; have hx11_4 : w23.cell? ⟨go6, (x5_1 : Int).toNat * 5 + 4, none⟩ = some (.string ((rd_T46 y105 x5_1).f4)) := hcc11 4 _ rfl; have hf11_0 : w23.frozen? ⟨go6, (x5_1 : Int).toNat * 5, none⟩ = false := hfr11 0; have hf11_1 : w23.frozen? ⟨go6, (x5_1 : Int).toNat * 5 + 1, none⟩ = false := hfr11 1; have hf11_2 : w23.frozen? ⟨go6, (x5_1 : Int).toNat * 5 + 2, none⟩ = false := hfr11 2; have hf11_3 : w23.frozen? ⟨go6, (x5_1 : Int).toNat * 5 + 3, none⟩ = false := hfr11 3; have hf11_4 : w23.frozen? ⟨go6, (x5_1 : Int).toNat * 5 + 4, none⟩ = false := hfr11 4; clear hcl11 hcc11 hfr11 hM11; replace p11 := eq_true p11; replace q11 := eq_true q11; have HX24 := Aside0.mk (show Kd.R k46 46 w23 w0.heap.size (fun k_ => (P0_ k_ ∨ w.heap.size ≤ k_)) (.slice (some ⟨go6, 0, none⟩) x0_1.length co14) y105 from (rx HO_0.out)); obtain ⟨ce24, hcl24, hM24, hcc24, hfr24⟩ := Kd.R_elem HX24.out z46 (x5_1 : Int) (of_decide_eq_true (by with_reducible assumption)) (by have h_ : (x5_1 : Int) < ((x0_1.length : Int) : Int) := of_decide_eq_true (by with_reducible assumption); first | exact h_ | (have e_ := (Kd.R_reads' HO_0.out).1; omega) | simpa using h_); obtain rfl := k46_openM hM24; have HP24 := Kd.R_seg HX24.out (x5_1 : Int) (of_decide_eq_true (by with_reducible assumption)) (by have h_ : (x5_1 : Int) < ((x0_1.length : Int) : Int) := of_decide_eq_true (by with_reducible assumption); first | exact h_ | (have e_ := (Kd.R_reads' HO_0.out).1; omega) | simpa using h_) (seg := [.string t106]) (j := 3) hcl24 hcc24 (show 4 ≤ 5 from by decide) (x' := (⟨(rd_T46 y105 x5_1).f0, (rd_T46 y105 x5_1).f1, (rd_T46 y105 x5_1).f2, t106, (rd_T46 y105 x5_1).f4⟩ : S46)) (k46_mkM _ _ _ (⟨(rd_T46 y105 x5_1).f0, (rd_T46 y105 x5_1).f1, (rd_T46 y105 x5_1).f2, t106, (rd_T46 y105 x5_1).f4⟩ : S46) ) (fun _ hk => hk); have hx24_3 := hcc24 3 _ rfl; (try simp only [show (k46).sz = 5 from rfl, Nat.mul_one, Nat.add_zero] at hx24_3); have hf24_3 := hfr24 3; (try simp only [show (k46).sz = 5 from rfl, Nat.mul_one, Nat.add_zero] at hf24_3); clear hcl24 hcc24 hfr24 hM24) | ((with_reducible refine gate_store (t := 9) (p := 42) rfl ?_); refine store_event (t := 9) (p := 42) (v := ?vo_w25) (w1 := (w23.setCell ⟨go6, (x5_1 : Int).toNat * 5 + 3, none⟩ (.string t106))) ?hg ?ho ?hn ?hr ?_; (case ho => rfl); (case hg => rfl); (case hn => rfl); (case hr => first | (go_simp; done) | (go_simp; rfl)); intro w25 hw; have hg : w23.grownBy w25 (some go6) := (by rw [hw]; exact HP24.2); have hp_ : Kd.R k46 46 w25 w0.heap.size (fun k_ => (P0_ k_ ∨ w.heap.size ≤ k_)) (.slice (some ⟨go6, 0, none⟩) x0_1.length co14) y107 := (by rw [hw, Ny107.out]; exact HP24.1); clear HP24; replace HB := Aside0.mk ((by rw [hw]; exact below_set (HB.out) GB6.out : Below w0.heap.size w0 w25)); replace HK := Aside0.mk (Kept.of_grown (S := (fun k_ => P0_ k_)) hg (kx HK.out) (fun k_ e_ => (HO_0.out.1 k_ e_))); replace HO_0 := Aside0.mk (hp_); clear hg hw hp_) | ((with_reducible refine gate_callee (f := 57) rfl ?_); refine goL (some 48) rfl rfl gf57 #[.int .i64 (wrap64 ((wrap64 ((wrap64 ((wrap64 (x1_1 + 1)) + 1)) + 1)) + 1))] rfl rfl ?_; (with_reducible refine (laws_markText.calls k1 (wrap64 ((wrap64 ((wrap64 ((wrap64 (x1_1 + 1)) + 1)) + 1)) + 1)) t108 _ A12.out).mono ?_); rintro e w26 ⟨rfl, hb⟩; refine ⟨_, rfl, ?_⟩; replace HO_0 := kR HO_0 hb; replace HK := Aside0.mk (Kept.below (S := (fun k_ => P0_ k_)) (kx HK.out) hb); replace HB := kB HB hb; (try clear hb); (try clear hb2); (try clear hk); (try clear hi); have p13 := of_decide_eq_true c5b0; have q13 : (x5_1 : Int) < ((x0_1.length : Int) : Int) := of_decide_eq_true (by with_reducible assumption); obtain ⟨ce13, hcl13, hM13, hcc13, hfr13⟩ := Kd.R_elem HO_0.out z46 (x5_1 : Int) p13 q13; obtain rfl := k46_openM hM13; have hx13_0 : w26.cell? ⟨go6, (x5_1 : Int).toNat * 5, none⟩ = some (.string ((rd_T46 y107 x5_1).f0)) := hcc13 0 _ rfl; have hx13_1 : w26.cell? ⟨go6, (x5_1 : Int).toNat * 5 + 1, none⟩ = some (.bool ((rd_T46 y107 x5_1).f1)) := hcc13 1 _ rfl; have hx13_2 : w26.cell? ⟨go6, (x5_1 : Int).toNat * 5 + 2, none⟩ = some (.string ((rd_T46 y107 x5_1).f2)) := hcc13 2 _ rfl; have hx13_3 : w26.cell? ⟨go6, (x5_1 : Int).toNat * 5 + 3, none⟩ = some (.string ((rd_T46 y107 x5_1).f3)) := hcc13 3 _ rfl; have hx13_4 : w26.cell? ⟨go6, (x5_1 : Int).toNat * 5 + 4, none⟩ = some (.string ((rd_T46 y107 x5_1).f4)) := hcc13 4 _ rfl; have hf13_0 : w26.frozen? ⟨go6, (x5_1 : Int).toNat * 5, none⟩ = false := hfr13 0; have hf13_1 : w26.frozen? ⟨go6, (x5_1 : Int).toNat * 5 + 1, none⟩ = false := hfr13 1; have hf13_2 : w26.frozen? ⟨go6, (x5_1 : Int).toNat * 5 + 2, none⟩ = false := hfr13 2; have hf13_3 : w26.frozen? ⟨go6, (x5_1 : Int).toNat * 5 + 3, none⟩ = false := hfr13 3; have hf13_4 : w26.frozen? ⟨go6, (x5_1 : Int).toNat * 5 + 4, none⟩ = false := hfr13 4; clear hcl13 hcc13 hfr13 hM13; replace p13 := eq_true p13; replace q13 := eq_true q13; have HX27 := Aside0.mk (show Kd.R k46 46 w26 w0.heap.size (fun k_ => (P0_ k_ ∨ w.heap.size ≤ k_)) (.slice (some ⟨go6, 0, none⟩) x0_1.length co14) y107 from (rx HO_0.out)); obtain ⟨ce27, hcl27, hM27, hcc27, hfr27⟩ := Kd.R_elem HX27.out z46 (x5_1 : Int) (of_decide_eq_true (by with_reducible assumption)) (by have h_ : (x5_1 : Int) < ((x0_1.length : Int) : Int) := of_decide_eq_true (by with_reducible assumption); first | exact h_ | (have e_ := (Kd.R_reads' HO_0.out).1; omega) | simpa using h_); obtain rfl := k46_openM hM27; have HP27 := Kd.R_seg HX27.out (x5_1 : Int) (of_decide_eq_true (by with_reducible assumption)) (by have h_ : (x5_1 : Int) < ((x0_1.length : Int) : Int) := of_decide_eq_true (by with_reducible assumption); first | exact h_ | (have e_ := (Kd.R_reads' HO_0.out).1; omega) | simpa using h_) (seg := [.string t108]) (j := 4) hcl27 hcc27 (show 5 ≤ 5 from by decide) (x' := (⟨(rd_T46 y107 x5_1).f0, (rd_T46 y107 x5_1).f1, (rd_T46 y107 x5_1).f2, (rd_T46 y107 x5_1).f3, t108⟩ : S46)) (k46_mkM _ _ _ (⟨(rd_T46 y107 x5_1).f0, (rd_T46 y107 x5_1).f1, (rd_T46 y107 x5_1).f2, (rd_T46 y107 x5_1).f3, t108⟩ : S46) ) (fun _ hk => hk); have hx27_4 := hcc27 4 _ rfl; (try simp only [show (k46).sz = 5 from rfl, Nat.mul_one, Nat.add_zero] at hx27_4); have hf27_4 := hfr27 4; (try simp only [show (k46).sz = 5 from rfl, Nat.mul_one, Nat.add_zero] at hf27_4); clear hcl27 hcc27 hfr27 hM27) | ((with_reducible refine gate_store (t := 9) (p := 50) rfl ?_); refine store_event (t := 9) (p := 50) (v := ?vo_w28) (w1 := (w26.setCell ⟨go6, (x5_1 : Int).toNat * 5 + 4, none⟩ (.string t108))) ?hg ?ho ?hn ?hr ?_; (case ho => rfl); (case hg => rfl); (case hn => rfl); (case hr => first | (go_simp; done) | (go_simp; rfl)); intro w28 hw; have hg : w26.grownBy w28 (some go6) := (by rw [hw]; exact HP27.2); have hp_ : Kd.R k46 46 w28 w0.heap.size (fun k_ => (P0_ k_ ∨ w.heap.size ≤ k_)) (.slice (some ⟨go6, 0, none⟩) x0_1.length co14) y109 := (by rw [hw, Ny109.out]; exact HP27.1); clear HP27; replace HB := Aside0.mk ((by rw [hw]; exact below_set (HB.out) GB6.out : Below w0.heap.size w0 w28)); replace HK := Aside0.mk (Kept.of_grown (S := (fun k_ => P0_ k_)) hg (kx HK.out) (fun k_ e_ => (HO_0.out.1 k_ e_))); replace HO_0 := Aside0.mk (hp_); clear hg hw hp_))
        go_roundg k1
        case measure => have := HK1.out; omega
        case rel => exact ⟨(y109), (wrap64 ((wrap64 ((wrap64 ((wrap64 ((wrap64 (x1_1 + 1)) + 1)) + 1)) + 1)) + 1)), (wrap64 (x5_1 + 1)), (by first | rfl | (simp; done) | (simp [*]; done)), (by first | rfl | (simp; done) | (simp [*]; done)), H', ⟨by have := HK1.out; omega⟩, ⟨rx HO_0.out⟩, ⟨kx HK.out⟩, ⟨bx HB.out⟩⟩
      · rw [if_neg c3] at H
        have c3b0 := decide_eq_false c3
        clear c3
        simp only [Option.some.injEq, Prod.mk.injEq] at H
        obtain ⟨rfl, rfl⟩ := H
        obtain ⟨Ao29, co29, eo29⟩ := Kd.R_slice HO_0.out
        subst eo29
        go_wp2
        go_ret
        exact ⟨by rfl, rx HO_0.out, bx HB.out, kx HK.out⟩
end Go.Proofs.YtabindnaedchgaaDoor.M
end

section
-- Printed for this claim by a program (mprint.py) that uses the kit's print; Lean checks it.
namespace Go.Proofs.YtabindnaedchgaaDoor.M
open Go.RowKit Go.Proofs.YtabindnaedchgaaDoorW.PrintWords Go.Proofs.YtabindnaedchgaaDoorW.PrintLast Go.Proofs.YtabindnaedchgaaDoorW.PrintMore Go.Proofs.YtabindnaedchgaaDoor.Sq
set_option synthInstance.maxHeartbeats 2000000
set_option synthInstance.maxSize 4096
attribute [local go_sem] max2_int min2_int max_two min_two max_three min_three max_four min_four   -- for this text's walks alone
set_option linter.unusedVariables false
set_option linter.unusedSimpArgs false
theorem gf28 : Go_ Tryd.prog 28 Tryd.f28 := ⟨Tryd.func28, by kernel_rfl, rfl⟩
def laws_markEntryS.l0 : Nat → List (S43) → Int → Int → Option (Int × (List (S43)))
  | 0, _, _, _ => none
  | k + 1, x0, x1, x5 => if x5 < (x0.length : Int) then ((laws_markText.f k x1).bind fun t101 => (if 0 ≤ x5 then ((some (x0.set (x5 : Int).toNat (⟨t101, (rd_T43 x0 x5).f1⟩ : S43) : List (S43))).bind fun y102 => ((laws_markText.f k (wrap64 (x1 + 1))).bind fun t103 => (laws_markEntryS.l0 k (y102.set (x5 : Int).toNat (⟨(rd_T43 y102 x5).f0, t103⟩ : S43)) (wrap64 ((wrap64 (x1 + 1)) + 1)) (wrap64 (x5 + 1))))) else (none))) else (some (x1, x0))
def laws_markEntryS.f (k : Nat) (l0 : List (S43)) (a1 : Int) : Option (Int × (List (S43))) := laws_markEntryS.l0 k l0 a1 0
theorem laws_markEntryS.mono_l : ∀ k, (∀ y0 y1 y2, LeO (laws_markEntryS.l0 k y0 y1 y2) (laws_markEntryS.l0 (k + 1) y0 y1 y2))
  | 0 => fun _ _ _ r h => by simp [laws_markEntryS.l0] at h
  | k + 1 => by
    have ih0 := laws_markEntryS.mono_l k
    · intro y0 y1 y2
      unfold laws_markEntryS.l0
      have I0_ := fun x0_ x1_ x2_ => LeC.mk (ih0 x0_ x1_ x2_)
      have I1_ := fun x0_ x1_ => LeC.mk (laws_markText.mono x0_ x1_)
      exact LeC.out
theorem laws_markEntryS.mono : ∀ a0 a1 k, LeO (laws_markEntryS.f k a0 a1) (laws_markEntryS.f (k + 1) a0 a1) := by
  intro a0 a1 k
  have ih0 := laws_markEntryS.mono_l k
  unfold laws_markEntryS.f
  have I0_ := fun x0_ x1_ x2_ => LeC.mk (ih0 x0_ x1_ x2_)
  have I1_ := fun x0_ x1_ => LeC.mk (laws_markText.mono x0_ x1_)
  exact LeC.out
set_option maxHeartbeats 8000000 in
set_option maxRecDepth 100000 in
theorem laws_markEntryS.calls (k : Nat) (P0_ : Nat → Prop) (u9000_ : Value) (l0 : List (S43)) (a1 : Int) (r1 : Int) (r2 : List (S43)) (w0 w : World) (hB : Below w0.heap.size w0 w) (ho0 : Kd.R k43 43 w w0.heap.size P0_ u9000_ l0) (h : laws_markEntryS.f k l0 a1 = some (r1, r2)) :
    Calls Tryd.prog 28 #[u9000_, .int .i64 a1] w fun e w' => e = .returned (.int .i64 r1) ∧ Kd.R k43 43 w' w0.heap.size (fun k_ => (P0_ k_ ∨ w.heap.size ≤ k_)) u9000_ r2 ∧ Below w0.heap.size w0 w' ∧ Kept w w' (fun k_ => P0_ k_) := by
  have HO0 := Aside0.mk (show Kd.R k43 43 w w0.heap.size (fun k_ => (P0_ k_ ∨ w.heap.size ≤ k_)) u9000_ l0 from Kd.R_mono ho0 (fun k_ hk => (.inl hk)))
  have HK := Aside0.mk (Kept.refl w (fun k_ => P0_ k_))
  have HW0 := Aside0.mk hB.size
  have HB := Aside0.mk hB
  clear hB
  unfold laws_markEntryS.f at h
  have H := h
  clear h
  have H' := Aside0.mk H
  clear H
  go_enter Tryd.func28, Tryd.ntmps28
  go_wp2
  go_loopg [1, 5] k (fun kq v1 v5 w' => ∃ (x0_1 : List (S43)) (x1_1 : Int) (x5_1 : Int), v1 = .int .i64 x1_1 ∧ v5 = .int .i64 x5_1 ∧ Aside0 (laws_markEntryS.l0 kq x0_1 x1_1 x5_1 = some (r1, r2)) ∧ Aside0 (kq ≤ k) ∧ Aside0 (Kd.R k43 43 w' w0.heap.size (fun k_ => (P0_ k_ ∨ w.heap.size ≤ k_)) u9000_ x0_1) ∧ Aside0 (Kept w w' (fun k_ => P0_ k_)) ∧ Aside0 (Below w0.heap.size w0 w'))
  case atStart => exact ⟨(l0), (a1), (0), (by first | rfl | (simp; done) | (simp [*]; done)), (by first | rfl | (simp; done) | (simp [*]; done)), H', ⟨Nat.le_refl _⟩, ⟨rx HO0.out⟩, ⟨kx HK.out⟩, ⟨bx HB.out⟩⟩
  case round =>
    clear H'
    try clear c2
    try clear p2
    obtain ⟨x0_1, x1_1, x5_1, rfl, rfl, HA, HK1, HO_0, HK, HB⟩ := hrel
    cases gk with
    | zero => exact absurd HA.out (by simp [laws_markEntryS.l0])
    | succ k1 =>
      have H := HA.out
      clear HA
      simp only [laws_markEntryS.l0] at H
      by_cases c3 : x5_1 < (x0_1.length : Int)
      · rw [if_pos c3] at H
        have c3b0 := decide_eq_true c3
        clear c3
        replace H := Option.bind_eq_some_iff.mp H
        obtain ⟨t101, A40, H⟩ := H
        have A4 := Aside0.mk A40
        clear A40
        have c5 := ite_y H
        replace H := ite_t H
        have c5b0 := decide_eq_true c5
        clear c5
        obtain ⟨y102, hy102⟩ : ∃ y_ : List (S43), y_ = (x0_1.set (x5_1 : Int).toNat (⟨t101, (rd_T43 x0_1 x5_1).f1⟩ : S43)) := ⟨_, rfl⟩
        replace H : ((laws_markText.f k1 (wrap64 (x1_1 + 1))).bind fun t103 => (laws_markEntryS.l0 k1 (y102.set (x5_1 : Int).toNat (⟨(rd_T43 y102 x5_1).f0, t103⟩ : S43)) (wrap64 ((wrap64 (x1_1 + 1)) + 1)) (wrap64 (x5_1 + 1)))) = some (r1, r2) := by first | (rw [hy102]; with_reducible exact H) | (have H2_ := (Option.bind_some _ _).symm.trans H; rw [hy102]; with_reducible exact H2_) | (have H2_ := (Option.bind_some _ _).symm.trans H; with_reducible exact H2_) | with_reducible exact H | (rw [hy102]; exact H) | exact H
        have Ny102 := Aside0.mk hy102
        clear hy102
        replace H := Option.bind_eq_some_iff.mp H
        obtain ⟨t103, A70, H⟩ := H
        have A7 := Aside0.mk A70
        clear A70
        obtain ⟨y104, hy104⟩ : ∃ y_ : List (S43), y_ = (y102.set (x5_1 : Int).toNat (⟨(rd_T43 y102 x5_1).f0, t103⟩ : S43)) := ⟨_, rfl⟩
        replace H : (laws_markEntryS.l0 k1 y104 (wrap64 ((wrap64 (x1_1 + 1)) + 1)) (wrap64 (x5_1 + 1))) = some (r1, r2) := by first | (rw [hy104]; with_reducible exact H) | (have H2_ := (Option.bind_some _ _).symm.trans H; rw [hy104]; with_reducible exact H2_) | (have H2_ := (Option.bind_some _ _).symm.trans H; with_reducible exact H2_) | with_reducible exact H | (rw [hy104]; exact H) | exact H
        have Ny104 := Aside0.mk hy104
        clear hy104
        have H' := Aside0.mk H
        clear H
        obtain ⟨Ao9, co9, eo9⟩ := Kd.R_slice HO_0.out
        subst eo9
        go_wp2_with (first | ((with_reducible refine gate_callee (f := 57) rfl ?_); refine goL (some 15) rfl rfl gf57 #[.int .i64 x1_1] rfl rfl ?_; (with_reducible refine (laws_markText.calls k1 x1_1 t101 _ A4.out).mono ?_); rintro e w10 ⟨rfl, hb⟩; refine ⟨_, rfl, ?_⟩; replace HO_0 := kR HO_0 hb; replace HK := Aside0.mk (Kept.below (S := (fun k_ => P0_ k_)) (kx HK.out) hb); replace HB := kB HB hb; (try clear hb); (try clear hb2); (try clear hk); (try clear hi); have p6 := of_decide_eq_true c5b0; have q6 : (x5_1 : Int) < ((x0_1.length : Int) : Int) := of_decide_eq_true (by with_reducible assumption); obtain ⟨go6, co6, eo6, gb6, gl6, cl6, HG6⟩ := Kd.R_form HO_0.out (by omega); (first | cases eo6 | (injection eo6 with ea_ en_ ec_; (first | subst ea_ | (injection ea_ with ea_; subst ea_)); subst ec_; clear en_)); have GB6 := Aside0.mk gb6; have GG6 := Aside0.mk HG6; clear gb6 gl6 HG6; have HMgo6 := Aside0.mk (show (P0_ go6 ∨ w.heap.size ≤ go6) from (HO_0.out.1 _ rfl)); obtain ⟨ce6, hcl6, hM6, hcc6, hfr6⟩ := Kd.R_elem HO_0.out z43 (x5_1 : Int) p6 q6; obtain rfl := k43_openM hM6; have hx6_0 : w10.cell? ⟨go6, (x5_1 : Int).toNat * 2, none⟩ = some (.string ((rd_T43 x0_1 x5_1).f0)) := hcc6 0 _ rfl; have hx6_1 : w10.cell? ⟨go6, (x5_1 : Int).toNat * 2 + 1, none⟩ = some (.string ((rd_T43 x0_1 x5_1).f1)) := hcc6 1 _ rfl; have hf6_0 : w10.frozen? ⟨go6, (x5_1 : Int).toNat * 2, none⟩ = false := hfr6 0; have hf6_1 : w10.frozen? ⟨go6, (x5_1 : Int).toNat * 2 + 1, none⟩ = false := hfr6 1; clear hcl6 hcc6 hfr6 hM6; replace p6 := eq_true p6; replace q6 := eq_true q6; have HX11 := Aside0.mk (show Kd.R k43 43 w10 w0.heap.size (fun k_ => (P0_ k_ ∨ w.heap.size ≤ k_)) (.slice (some ⟨go6, 0, none⟩) x0_1.length co9) x0_1 from (rx HO_0.out)); obtain ⟨ce11, hcl11, hM11, hcc11, hfr11⟩ := Kd.R_elem HX11.out z43 (x5_1 : Int) (of_decide_eq_true (by with_reducible assumption)) (by have h_ : (x5_1 : Int) < ((x0_1.length : Int) : Int) := of_decide_eq_true (by with_reducible assumption); first | exact h_ | (have e_ := (Kd.R_reads' HO_0.out).1; omega) | simpa using h_); obtain rfl := k43_openM hM11; have HP11 := Kd.R_seg HX11.out (x5_1 : Int) (of_decide_eq_true (by with_reducible assumption)) (by have h_ : (x5_1 : Int) < ((x0_1.length : Int) : Int) := of_decide_eq_true (by with_reducible assumption); first | exact h_ | (have e_ := (Kd.R_reads' HO_0.out).1; omega) | simpa using h_) (seg := [.string t101]) (j := 0) hcl11 hcc11 (show 1 ≤ 2 from by decide) (x' := (⟨t101, (rd_T43 x0_1 x5_1).f1⟩ : S43)) (k43_mkM _ _ _ (⟨t101, (rd_T43 x0_1 x5_1).f1⟩ : S43) ) (fun _ hk => hk); have hx11_0 := hcc11 0 _ rfl; (try simp only [show (k43).sz = 2 from rfl, Nat.mul_one, Nat.add_zero] at hx11_0); have hf11_0 := hfr11 0; (try simp only [show (k43).sz = 2 from rfl, Nat.mul_one, Nat.add_zero] at hf11_0); clear hcl11 hcc11 hfr11 hM11) | ((with_reducible refine gate_store (t := 9) (p := 17) rfl ?_); refine store_event (t := 9) (p := 17) (v := ?vo_w12) (w1 := (w10.setCell ⟨go6, (x5_1 : Int).toNat * 2, none⟩ (.string t101))) ?hg ?ho ?hn ?hr ?_; (case ho => rfl); (case hg => rfl); (case hn => rfl); (case hr => first | (go_simp; done) | (go_simp; rfl)); intro w12 hw; have hg : w10.grownBy w12 (some go6) := (by rw [hw]; exact HP11.2); have hp_ : Kd.R k43 43 w12 w0.heap.size (fun k_ => (P0_ k_ ∨ w.heap.size ≤ k_)) (.slice (some ⟨go6, 0, none⟩) x0_1.length co9) y102 := (by rw [hw, Ny102.out]; exact HP11.1); clear HP11; replace HB := Aside0.mk ((by rw [hw]; exact below_set (HB.out) GB6.out : Below w0.heap.size w0 w12)); replace HK := Aside0.mk (Kept.of_grown (S := (fun k_ => P0_ k_)) hg (kx HK.out) (fun k_ e_ => (HO_0.out.1 k_ e_))); replace HO_0 := Aside0.mk (hp_); clear hg hw hp_) | ((with_reducible refine gate_callee (f := 57) rfl ?_); refine goL (some 23) rfl rfl gf57 #[.int .i64 (wrap64 (x1_1 + 1))] rfl rfl ?_; (with_reducible refine (laws_markText.calls k1 (wrap64 (x1_1 + 1)) t103 _ A7.out).mono ?_); rintro e w13 ⟨rfl, hb⟩; refine ⟨_, rfl, ?_⟩; replace HO_0 := kR HO_0 hb; replace HK := Aside0.mk (Kept.below (S := (fun k_ => P0_ k_)) (kx HK.out) hb); replace HB := kB HB hb; (try clear hb); (try clear hb2); (try clear hk); (try clear hi); have p8 := of_decide_eq_true c5b0; have q8 : (x5_1 : Int) < ((x0_1.length : Int) : Int) := of_decide_eq_true (by with_reducible assumption); obtain ⟨ce8, hcl8, hM8, hcc8, hfr8⟩ := Kd.R_elem HO_0.out z43 (x5_1 : Int) p8 q8; obtain rfl := k43_openM hM8; have hx8_0 : w13.cell? ⟨go6, (x5_1 : Int).toNat * 2, none⟩ = some (.string ((rd_T43 y102 x5_1).f0)) := hcc8 0 _ rfl; have hx8_1 : w13.cell? ⟨go6, (x5_1 : Int).toNat * 2 + 1, none⟩ = some (.string ((rd_T43 y102 x5_1).f1)) := hcc8 1 _ rfl; have hf8_0 : w13.frozen? ⟨go6, (x5_1 : Int).toNat * 2, none⟩ = false := hfr8 0; have hf8_1 : w13.frozen? ⟨go6, (x5_1 : Int).toNat * 2 + 1, none⟩ = false := hfr8 1; clear hcl8 hcc8 hfr8 hM8; replace p8 := eq_true p8; replace q8 := eq_true q8; have HX14 := Aside0.mk (show Kd.R k43 43 w13 w0.heap.size (fun k_ => (P0_ k_ ∨ w.heap.size ≤ k_)) (.slice (some ⟨go6, 0, none⟩) x0_1.length co9) y102 from (rx HO_0.out)); obtain ⟨ce14, hcl14, hM14, hcc14, hfr14⟩ := Kd.R_elem HX14.out z43 (x5_1 : Int) (of_decide_eq_true (by with_reducible assumption)) (by have h_ : (x5_1 : Int) < ((x0_1.length : Int) : Int) := of_decide_eq_true (by with_reducible assumption); first | exact h_ | (have e_ := (Kd.R_reads' HO_0.out).1; omega) | simpa using h_); obtain rfl := k43_openM hM14; have HP14 := Kd.R_seg HX14.out (x5_1 : Int) (of_decide_eq_true (by with_reducible assumption)) (by have h_ : (x5_1 : Int) < ((x0_1.length : Int) : Int) := of_decide_eq_true (by with_reducible assumption); first | exact h_ | (have e_ := (Kd.R_reads' HO_0.out).1; omega) | simpa using h_) (seg := [.string t103]) (j := 1) hcl14 hcc14 (show 2 ≤ 2 from by decide) (x' := (⟨(rd_T43 y102 x5_1).f0, t103⟩ : S43)) (k43_mkM _ _ _ (⟨(rd_T43 y102 x5_1).f0, t103⟩ : S43) ) (fun _ hk => hk); have hx14_1 := hcc14 1 _ rfl; (try simp only [show (k43).sz = 2 from rfl, Nat.mul_one, Nat.add_zero] at hx14_1); have hf14_1 := hfr14 1; (try simp only [show (k43).sz = 2 from rfl, Nat.mul_one, Nat.add_zero] at hf14_1); clear hcl14 hcc14 hfr14 hM14) | ((with_reducible refine gate_store (t := 9) (p := 25) rfl ?_); refine store_event (t := 9) (p := 25) (v := ?vo_w15) (w1 := (w13.setCell ⟨go6, (x5_1 : Int).toNat * 2 + 1, none⟩ (.string t103))) ?hg ?ho ?hn ?hr ?_; (case ho => rfl); (case hg => rfl); (case hn => rfl); (case hr => first | (go_simp; done) | (go_simp; rfl)); intro w15 hw; have hg : w13.grownBy w15 (some go6) := (by rw [hw]; exact HP14.2); have hp_ : Kd.R k43 43 w15 w0.heap.size (fun k_ => (P0_ k_ ∨ w.heap.size ≤ k_)) (.slice (some ⟨go6, 0, none⟩) x0_1.length co9) y104 := (by rw [hw, Ny104.out]; exact HP14.1); clear HP14; replace HB := Aside0.mk ((by rw [hw]; exact below_set (HB.out) GB6.out : Below w0.heap.size w0 w15)); replace HK := Aside0.mk (Kept.of_grown (S := (fun k_ => P0_ k_)) hg (kx HK.out) (fun k_ e_ => (HO_0.out.1 k_ e_))); replace HO_0 := Aside0.mk (hp_); clear hg hw hp_))
        go_roundg k1
        case measure => have := HK1.out; omega
        case rel => exact ⟨(y104), (wrap64 ((wrap64 (x1_1 + 1)) + 1)), (wrap64 (x5_1 + 1)), (by first | rfl | (simp; done) | (simp [*]; done)), (by first | rfl | (simp; done) | (simp [*]; done)), H', ⟨by have := HK1.out; omega⟩, ⟨rx HO_0.out⟩, ⟨kx HK.out⟩, ⟨bx HB.out⟩⟩
      · rw [if_neg c3] at H
        have c3b0 := decide_eq_false c3
        clear c3
        simp only [Option.some.injEq, Prod.mk.injEq] at H
        obtain ⟨rfl, rfl⟩ := H
        obtain ⟨Ao16, co16, eo16⟩ := Kd.R_slice HO_0.out
        subst eo16
        go_wp2
        go_ret
        exact ⟨by rfl, rx HO_0.out, bx HB.out, kx HK.out⟩
end Go.Proofs.YtabindnaedchgaaDoor.M
end

section
-- Printed for this claim by a program (mprint.py) that uses the kit's print; Lean checks it.
namespace Go.Proofs.YtabindnaedchgaaDoor.M
open Go.RowKit Go.Proofs.YtabindnaedchgaaDoorW.PrintWords Go.Proofs.YtabindnaedchgaaDoorW.PrintLast Go.Proofs.YtabindnaedchgaaDoorW.PrintMore Go.Proofs.YtabindnaedchgaaDoor.Sq
set_option synthInstance.maxHeartbeats 2000000
set_option synthInstance.maxSize 4096
attribute [local go_sem] max2_int min2_int max_two min_two max_three min_three max_four min_four   -- for this text's walks alone
set_option linter.unusedVariables false
set_option linter.unusedSimpArgs false
theorem gf27 : Go_ Tryd.prog 27 Tryd.f27 := ⟨Tryd.func27, by kernel_rfl, rfl⟩
def laws_markStringS.l0 : Nat → List ByteArray → Int → Int → Option (Int × List ByteArray)
  | 0, _, _, _ => none
  | k + 1, x0, x1, x5 => if x5 < (x0.length : Int) then ((laws_markText.f k x1).bind fun t101 => (if 0 ≤ x5 then (laws_markStringS.l0 k (x0.set (x5 : Int).toNat t101) (wrap64 (x1 + 1)) (wrap64 (x5 + 1))) else (none))) else (some (x1, x0))
def laws_markStringS.f (k : Nat) (l0 : List ByteArray) (a1 : Int) : Option (Int × List ByteArray) := laws_markStringS.l0 k l0 a1 0
theorem laws_markStringS.mono_l : ∀ k, (∀ y0 y1 y2, LeO (laws_markStringS.l0 k y0 y1 y2) (laws_markStringS.l0 (k + 1) y0 y1 y2))
  | 0 => fun _ _ _ r h => by simp [laws_markStringS.l0] at h
  | k + 1 => by
    have ih0 := laws_markStringS.mono_l k
    · intro y0 y1 y2
      unfold laws_markStringS.l0
      have I0_ := fun x0_ x1_ x2_ => LeC.mk (ih0 x0_ x1_ x2_)
      have I1_ := fun x0_ x1_ => LeC.mk (laws_markText.mono x0_ x1_)
      exact LeC.out
theorem laws_markStringS.mono : ∀ a0 a1 k, LeO (laws_markStringS.f k a0 a1) (laws_markStringS.f (k + 1) a0 a1) := by
  intro a0 a1 k
  have ih0 := laws_markStringS.mono_l k
  unfold laws_markStringS.f
  have I0_ := fun x0_ x1_ x2_ => LeC.mk (ih0 x0_ x1_ x2_)
  have I1_ := fun x0_ x1_ => LeC.mk (laws_markText.mono x0_ x1_)
  exact LeC.out
set_option maxHeartbeats 8000000 in
set_option maxRecDepth 100000 in
theorem laws_markStringS.calls (k : Nat) (P0_ : Nat → Prop) (u9000_ : Value) (l0 : List ByteArray) (a1 : Int) (r1 : Int) (r2 : List ByteArray) (w0 w : World) (hB : Below w0.heap.size w0 w) (ho0 : Kd.R Kd.string 9 w w0.heap.size P0_ u9000_ l0) (h : laws_markStringS.f k l0 a1 = some (r1, r2)) :
    Calls Tryd.prog 27 #[u9000_, .int .i64 a1] w fun e w' => e = .returned (.int .i64 r1) ∧ Kd.R Kd.string 9 w' w0.heap.size (fun k_ => (P0_ k_ ∨ w.heap.size ≤ k_)) u9000_ r2 ∧ Below w0.heap.size w0 w' ∧ Kept w w' (fun k_ => P0_ k_) := by
  have HO0 := Aside0.mk (show Kd.R Kd.string 9 w w0.heap.size (fun k_ => (P0_ k_ ∨ w.heap.size ≤ k_)) u9000_ l0 from Kd.R_mono ho0 (fun k_ hk => (.inl hk)))
  have HK := Aside0.mk (Kept.refl w (fun k_ => P0_ k_))
  have HW0 := Aside0.mk hB.size
  have HB := Aside0.mk hB
  clear hB
  unfold laws_markStringS.f at h
  have H := h
  clear h
  have H' := Aside0.mk H
  clear H
  go_enter Tryd.func27, Tryd.ntmps27
  go_wp2
  go_loopg [1, 5] k (fun kq v1 v5 w' => ∃ (x0_1 : List ByteArray) (x1_1 : Int) (x5_1 : Int), v1 = .int .i64 x1_1 ∧ v5 = .int .i64 x5_1 ∧ Aside0 (laws_markStringS.l0 kq x0_1 x1_1 x5_1 = some (r1, r2)) ∧ Aside0 (kq ≤ k) ∧ Aside0 (Kd.R Kd.string 9 w' w0.heap.size (fun k_ => (P0_ k_ ∨ w.heap.size ≤ k_)) u9000_ x0_1) ∧ Aside0 (Kept w w' (fun k_ => P0_ k_)) ∧ Aside0 (Below w0.heap.size w0 w'))
  case atStart => exact ⟨(l0), (a1), (0), (by first | rfl | (simp; done) | (simp [*]; done)), (by first | rfl | (simp; done) | (simp [*]; done)), H', ⟨Nat.le_refl _⟩, ⟨rx HO0.out⟩, ⟨kx HK.out⟩, ⟨bx HB.out⟩⟩
  case round =>
    clear H'
    try clear c2
    try clear p2
    obtain ⟨x0_1, x1_1, x5_1, rfl, rfl, HA, HK1, HO_0, HK, HB⟩ := hrel
    cases gk with
    | zero => exact absurd HA.out (by simp [laws_markStringS.l0])
    | succ k1 =>
      have H := HA.out
      clear HA
      simp only [laws_markStringS.l0] at H
      by_cases c3 : x5_1 < (x0_1.length : Int)
      · rw [if_pos c3] at H
        have c3b0 := decide_eq_true c3
        clear c3
        replace H := Option.bind_eq_some_iff.mp H
        obtain ⟨t101, A40, H⟩ := H
        have A4 := Aside0.mk A40
        clear A40
        have c5 := ite_y H
        replace H := ite_t H
        have c5b0 := decide_eq_true c5
        clear c5
        obtain ⟨y102, hy102⟩ : ∃ y_ : List ByteArray, y_ = (x0_1.set (x5_1 : Int).toNat t101) := ⟨_, rfl⟩
        replace H : (laws_markStringS.l0 k1 y102 (wrap64 (x1_1 + 1)) (wrap64 (x5_1 + 1))) = some (r1, r2) := by first | (rw [hy102]; with_reducible exact H) | (have H2_ := (Option.bind_some _ _).symm.trans H; rw [hy102]; with_reducible exact H2_) | (have H2_ := (Option.bind_some _ _).symm.trans H; with_reducible exact H2_) | with_reducible exact H | (rw [hy102]; exact H) | exact H
        have Ny102 := Aside0.mk hy102
        clear hy102
        have H' := Aside0.mk H
        clear H
        obtain ⟨Ao7, co7, eo7⟩ := Kd.R_slice HO_0.out
        subst eo7
        go_wp2_with (first | ((with_reducible refine gate_callee (f := 57) rfl ?_); refine goL (some 15) rfl rfl gf57 #[.int .i64 x1_1] rfl rfl ?_; (with_reducible refine (laws_markText.calls k1 x1_1 t101 _ A4.out).mono ?_); rintro e w8 ⟨rfl, hb⟩; refine ⟨_, rfl, ?_⟩; replace HO_0 := kR HO_0 hb; replace HK := Aside0.mk (Kept.below (S := (fun k_ => P0_ k_)) (kx HK.out) hb); replace HB := kB HB hb; (try clear hb); (try clear hb2); (try clear hk); (try clear hi); have p6 := of_decide_eq_true c5b0; have q6 : (x5_1 : Int) < ((x0_1.length : Int) : Int) := of_decide_eq_true (by with_reducible assumption); obtain ⟨go6, co6, eo6, gb6, gl6, cl6, HG6⟩ := Kd.R_form HO_0.out (by omega); (first | cases eo6 | (injection eo6 with ea_ en_ ec_; (first | subst ea_ | (injection ea_ with ea_; subst ea_)); subst ec_; clear en_)); have GB6 := Aside0.mk gb6; have GG6 := Aside0.mk HG6; clear gb6 gl6 HG6; have HMgo6 := Aside0.mk (show (P0_ go6 ∨ w.heap.size ≤ go6) from (HO_0.out.1 _ rfl)); obtain ⟨hx6_0, hf6_0⟩ := Kd.R_celln (⟨#[]⟩ : ByteArray) HO_0.out (x5_1 : Int) p6 q6; replace p6 := eq_true p6; replace q6 := eq_true q6; obtain ⟨hy9_, hz9_⟩ := Kd.R_celln (⟨#[]⟩ : ByteArray) HO_0.out (x5_1 : Int) (of_decide_eq_true (by with_reducible assumption)) (of_decide_eq_true (by with_reducible assumption)); have HP9 := Kd.R_putg HO_0.out (x5_1 : Int) t101) | ((with_reducible refine gate_store (t := 9) (p := 16) rfl ?_); refine store_event (t := 9) (p := 16) (v := ?vo_w10) (w1 := (w8.setCell ⟨go6, (x5_1 : Int).toNat, none⟩ (.string t101))) ?hg ?ho ?hn ?hr ?_; (case ho => rfl); (case hg => rfl); (case hn => rfl); (case hr => first | (go_simp; done) | (go_simp; rfl)); intro w10 hw; have hg : w8.grownBy w10 (some go6) := (by rw [hw]; exact HP9.2); have hp_ : Kd.R Kd.string 9 w10 w0.heap.size (fun k_ => (P0_ k_ ∨ w.heap.size ≤ k_)) (.slice (some ⟨go6, 0, none⟩) x0_1.length co7) y102 := (by rw [hw, Ny102.out]; exact HP9.1); clear HP9; replace HB := Aside0.mk ((by rw [hw]; exact below_set (HB.out) GB6.out : Below w0.heap.size w0 w10)); replace HK := Aside0.mk (Kept.of_grown (S := (fun k_ => P0_ k_)) hg (kx HK.out) (fun k_ e_ => (HO_0.out.1 k_ e_))); replace HO_0 := Aside0.mk (hp_); clear hg hw hp_))
        go_roundg k1
        case measure => have := HK1.out; omega
        case rel => exact ⟨(y102), (wrap64 (x1_1 + 1)), (wrap64 (x5_1 + 1)), (by first | rfl | (simp; done) | (simp [*]; done)), (by first | rfl | (simp; done) | (simp [*]; done)), H', ⟨by have := HK1.out; omega⟩, ⟨rx HO_0.out⟩, ⟨kx HK.out⟩, ⟨bx HB.out⟩⟩
      · rw [if_neg c3] at H
        have c3b0 := decide_eq_false c3
        clear c3
        simp only [Option.some.injEq, Prod.mk.injEq] at H
        obtain ⟨rfl, rfl⟩ := H
        obtain ⟨Ao11, co11, eo11⟩ := Kd.R_slice HO_0.out
        subst eo11
        go_wp2
        go_ret
        exact ⟨by rfl, rx HO_0.out, bx HB.out, kx HK.out⟩
end Go.Proofs.YtabindnaedchgaaDoor.M
end

section
-- Printed for this claim by a program (mprint.py) that uses the kit's print; Lean checks it.
namespace Go.Proofs.YtabindnaedchgaaDoor.M
open Go.RowKit Go.Proofs.YtabindnaedchgaaDoorW.PrintWords Go.Proofs.YtabindnaedchgaaDoorW.PrintLast Go.Proofs.YtabindnaedchgaaDoorW.PrintMore Go.Proofs.YtabindnaedchgaaDoor.Sq
set_option synthInstance.maxHeartbeats 2000000
set_option synthInstance.maxSize 4096
attribute [local go_sem] max2_int min2_int max_two min_two max_three min_three max_four min_four   -- for this text's walks alone
set_option linter.unusedVariables false
set_option linter.unusedSimpArgs false
theorem gf8 : Go_ Tryd.prog 8 Tryd.f8 := ⟨Tryd.func8, by kernel_rfl, rfl⟩
def laws_markDelta.f (k : Nat) (l0_0 : List ByteArray) (l0_1 : List (S43)) (a0_2 : Bool) (l0_3 : List (S46)) (a1 : Int) : Option (Int × List ByteArray × (List (S43)) × (List (S46))) := (laws_markStringS.f k l0_0 a1).bind fun bt102 => ((laws_markEntryS.f k l0_1 bt102.1).bind fun bt104 => ((laws_markAffixS.f k l0_3 bt104.1).bind fun bt106 => (some (bt106.1, bt102.2, bt104.2, bt106.2))))
theorem laws_markDelta.mono : ∀ a0 a1 a2 a3 a4 k, LeO (laws_markDelta.f k a0 a1 a2 a3 a4) (laws_markDelta.f (k + 1) a0 a1 a2 a3 a4) := by
  intro a0 a1 a2 a3 a4 k
  unfold laws_markDelta.f
  have I0_ := fun x0_ x1_ x2_ => LeC.mk (laws_markAffixS.mono x0_ x1_ x2_)
  have I1_ := fun x0_ x1_ x2_ => LeC.mk (laws_markEntryS.mono x0_ x1_ x2_)
  have I2_ := fun x0_ x1_ x2_ => LeC.mk (laws_markStringS.mono x0_ x1_ x2_)
  exact LeC.out
set_option maxHeartbeats 8000000 in
set_option maxRecDepth 100000 in
theorem laws_markDelta.calls (k : Nat) (P0_0_ : Nat → Prop) (u9000_ : Value) (l0_0 : List ByteArray) (P0_1_ : Nat → Prop) (u9001_ : Value) (l0_1 : List (S43)) (a0_2 : Bool) (P0_3_ : Nat → Prop) (u9002_ : Value) (l0_3 : List (S46)) (a1 : Int) (r1 : Int) (r2 : List ByteArray) (r3 : List (S43)) (r4 : List (S46)) (w0 w : World) (hB : Below w0.heap.size w0 w) (ho0_0 : Kd.R Kd.string 9 w w0.heap.size P0_0_ u9000_ l0_0) (ho0_1 : Kd.R k43 43 w w0.heap.size P0_1_ u9001_ l0_1) (ho0_3 : Kd.R k46 46 w w0.heap.size P0_3_ u9002_ l0_3) (h : laws_markDelta.f k l0_0 l0_1 a0_2 l0_3 a1 = some (r1, r2, r3, r4)) :
    Calls Tryd.prog 8 #[.agg #[u9000_, u9001_, .bool a0_2, u9002_], .int .i64 a1] w fun e w' => e = .returned (.int .i64 r1) ∧ Kd.R Kd.string 9 w' w0.heap.size (fun k_ => ((P0_0_ k_ ∨ P0_1_ k_ ∨ P0_3_ k_) ∨ w.heap.size ≤ k_)) u9000_ r2 ∧ Kd.R k43 43 w' w0.heap.size (fun k_ => ((P0_0_ k_ ∨ P0_1_ k_ ∨ P0_3_ k_) ∨ w.heap.size ≤ k_)) u9001_ r3 ∧ Kd.R k46 46 w' w0.heap.size (fun k_ => ((P0_0_ k_ ∨ P0_1_ k_ ∨ P0_3_ k_) ∨ w.heap.size ≤ k_)) u9002_ r4 ∧ Below w0.heap.size w0 w' ∧ Kept w w' (fun k_ => P0_0_ k_ ∨ P0_1_ k_ ∨ P0_3_ k_) := by
  have hu26 := Tryd.underlying26
  have HO0_0 := Aside0.mk (show Kd.R Kd.string 9 w w0.heap.size (fun k_ => ((P0_0_ k_ ∨ P0_1_ k_ ∨ P0_3_ k_) ∨ w.heap.size ≤ k_)) u9000_ l0_0 from Kd.R_mono ho0_0 (fun k_ hk => (.inl (.inl hk))))
  have HO0_1 := Aside0.mk (show Kd.R k43 43 w w0.heap.size (fun k_ => ((P0_0_ k_ ∨ P0_1_ k_ ∨ P0_3_ k_) ∨ w.heap.size ≤ k_)) u9001_ l0_1 from Kd.R_mono ho0_1 (fun k_ hk => (.inl (.inr (.inl hk)))))
  have HO0_3 := Aside0.mk (show Kd.R k46 46 w w0.heap.size (fun k_ => ((P0_0_ k_ ∨ P0_1_ k_ ∨ P0_3_ k_) ∨ w.heap.size ≤ k_)) u9002_ l0_3 from Kd.R_mono ho0_3 (fun k_ hk => (.inl (.inr (.inr hk)))))
  have HK := Aside0.mk (Kept.refl w (fun k_ => P0_0_ k_ ∨ P0_1_ k_ ∨ P0_3_ k_))
  have HW0 := Aside0.mk hB.size
  have HB := Aside0.mk hB
  clear hB
  unfold laws_markDelta.f at h
  have H := h
  clear h
  replace H := Option.bind_eq_some_iff.mp H
  obtain ⟨⟨t102, t103⟩, A30, H⟩ := H
  replace H : ((laws_markEntryS.f k l0_1 t102).bind fun bt104 => ((laws_markAffixS.f k l0_3 bt104.1).bind fun bt106 => (some (bt106.1, t103, bt104.2, bt106.2)))) = some (r1, r2, r3, r4) := H
  have A3 := Aside0.mk A30
  clear A30
  replace H := Option.bind_eq_some_iff.mp H
  obtain ⟨⟨t104, t105⟩, A40, H⟩ := H
  replace H : ((laws_markAffixS.f k l0_3 t104).bind fun bt106 => (some (bt106.1, t103, t105, bt106.2))) = some (r1, r2, r3, r4) := H
  have A4 := Aside0.mk A40
  clear A40
  replace H := Option.bind_eq_some_iff.mp H
  obtain ⟨⟨t106, t107⟩, A50, H⟩ := H
  replace H : (some (t106, t103, t105, t107)) = some (r1, r2, r3, r4) := H
  have A5 := Aside0.mk A50
  clear A50
  simp only [Option.some.injEq, Prod.mk.injEq] at H
  obtain ⟨rfl, rfl, rfl, rfl⟩ := H
  obtain ⟨Ao6, co6, eo6⟩ := Kd.R_slice HO0_0.out
  subst eo6
  obtain ⟨Ao7, co7, eo7⟩ := Kd.R_slice HO0_1.out
  subst eo7
  obtain ⟨Ao8, co8, eo8⟩ := Kd.R_slice HO0_3.out
  subst eo8
  go_enter Tryd.func8, Tryd.ntmps8
  go_wp2_with (first | ((with_reducible refine gate_dst (N := 2) rfl ?_); refine box_event rfl (N := 2) rfl (cs := #[.slice Ao6 l0_0.length co6, .slice Ao7 l0_1.length co7, .bool a0_2, .slice Ao8 l0_3.length co8]) (t := 26) (by go_simp <;> rfl) ?_; intro gb101 hg w9 hbox hb; replace HO0_0 := kR HO0_0 hb; replace HO0_1 := kR HO0_1 hb; replace HO0_3 := kR HO0_3 hb; have BK101 := Aside0.mk (hbox); have GW101 := Aside0.mk ((by rw [hg]; exact (by first | exact HK.out.1 | exact (show Kept w _ (fun k_ => P0_0_ k_ ∨ P0_1_ k_ ∨ P0_3_ k_) from kx HK.out).1) : w.heap.size ≤ gb101)); replace HK := Aside0.mk (Kept.below (S := (fun k_ => P0_0_ k_ ∨ P0_1_ k_ ∨ P0_3_ k_)) (kx HK.out) hb); have GE101 := Le_.mk (ge_of hg HB.out); replace HB := kB HB hb; clear hb hbox hg; have hz10 := cells_4 BK101.out) | ((with_reducible refine gate_callee (f := 27) rfl ?_); refine goL (some 8) rfl rfl gf27 #[.slice Ao6 l0_0.length co6, .int .i64 a1] rfl rfl ?_; (with_reducible refine (laws_markStringS.calls k (fun k_ => some k_ = (.slice Ao6 l0_0.length co6 : Value).ownBlock) (.slice Ao6 l0_0.length co6) l0_0 a1 t102 t103 w0 _ (bx HB.out) (Kd.R_tight rfl HO0_0.out) A3.out).mono ?_); rintro e w11 ⟨rfl, hy0, hb, hkp⟩; refine ⟨_, rfl, ?_⟩; replace HO0_1 := Aside0.mk (Kd.R_mono (ok' := fun k_ => ((P0_0_ k_ ∨ P0_1_ k_ ∨ P0_3_ k_) ∨ w.heap.size ≤ k_)) (Kd.R_keptB ((Kd.R_apart' HO0_1.out (Kd.R_typed HO0_0.out) (by decide))) hkp (fun k_ hk_ hs_ => (hk_.2) hs_)) (fun k_ hk_ => hk_.1.1)); replace HO0_3 := Aside0.mk (Kd.R_mono (ok' := fun k_ => ((P0_0_ k_ ∨ P0_1_ k_ ∨ P0_3_ k_) ∨ w.heap.size ≤ k_)) (Kd.R_keptB ((Kd.R_apart' HO0_3.out (Kd.R_typed HO0_0.out) (by decide))) hkp (fun k_ hk_ hs_ => (hk_.2) hs_)) (fun k_ hk_ => hk_.1.1)); replace BK101 := Aside0.mk (blk_kept (gx (BK101.out)) hkp (fun hs_ => (fun e_ => (Kd.R_ne HO0_0.out BK101.out (by decide)) e_) hs_)); replace HK := Aside0.mk (Kept.then_ (S := (fun k_ => P0_0_ k_ ∨ P0_1_ k_ ∨ P0_3_ k_)) (by repeat (first | (with_reducible first | exact HK.out | apply Kept.alloc | apply Kept.drewN | apply Kept.drew | refine Kept.setCell ?_ (.inr GW101.out) _) | exact HK.out)) hkp (fun k_ hs_ => (fun e_ => (HO0_0.out.1 k_ e_.symm)) hs_)); replace HO0_0 := Aside0.mk (Kd.R_reok rfl hy0 (fun k_ e_ => HO0_0.out.1 k_ e_)); replace HB := Aside0.mk (hb); (try clear hb); (try clear hkp); (try clear hy0); have hz12 := cells_4 BK101.out) | ((with_reducible refine gate_callee (f := 28) rfl ?_); refine goL (some 12) rfl rfl gf28 #[.slice Ao7 l0_1.length co7, .int .i64 t102] rfl rfl ?_; (with_reducible refine (laws_markEntryS.calls k (fun k_ => some k_ = (.slice Ao7 l0_1.length co7 : Value).ownBlock) (.slice Ao7 l0_1.length co7) l0_1 t102 t104 t105 w0 _ (bx HB.out) (Kd.R_tight rfl HO0_1.out) A4.out).mono ?_); rintro e w13 ⟨rfl, hy0, hb, hkp⟩; refine ⟨_, rfl, ?_⟩; replace HO0_0 := Aside0.mk (Kd.R_mono (ok' := fun k_ => ((P0_0_ k_ ∨ P0_1_ k_ ∨ P0_3_ k_) ∨ w.heap.size ≤ k_)) (Kd.R_keptB ((Kd.R_apart' HO0_0.out (Kd.R_typed HO0_1.out) (by decide))) hkp (fun k_ hk_ hs_ => (hk_.2) hs_)) (fun k_ hk_ => hk_.1.1)); replace HO0_3 := Aside0.mk (Kd.R_mono (ok' := fun k_ => ((P0_0_ k_ ∨ P0_1_ k_ ∨ P0_3_ k_) ∨ w.heap.size ≤ k_)) (Kd.R_keptB ((Kd.R_apart' HO0_3.out (Kd.R_typed HO0_1.out) (by decide))) hkp (fun k_ hk_ hs_ => (hk_.2) hs_)) (fun k_ hk_ => hk_.1.1)); replace BK101 := Aside0.mk (blk_kept (gx (BK101.out)) hkp (fun hs_ => (fun e_ => (Kd.R_ne HO0_1.out BK101.out (by decide)) e_) hs_)); replace HK := Aside0.mk (Kept.then_ (S := (fun k_ => P0_0_ k_ ∨ P0_1_ k_ ∨ P0_3_ k_)) (by repeat (first | (with_reducible first | exact HK.out | apply Kept.alloc | apply Kept.drewN | apply Kept.drew | refine Kept.setCell ?_ (.inr GW101.out) _) | exact HK.out)) hkp (fun k_ hs_ => (fun e_ => (HO0_1.out.1 k_ e_.symm)) hs_)); replace HO0_1 := Aside0.mk (Kd.R_reok rfl hy0 (fun k_ e_ => HO0_1.out.1 k_ e_)); replace HB := Aside0.mk (hb); (try clear hb); (try clear hkp); (try clear hy0); have hz14 := cells_4 BK101.out) | ((with_reducible refine gate_callee (f := 29) rfl ?_); refine goL (some 16) rfl rfl gf29 #[.slice Ao8 l0_3.length co8, .int .i64 t104] rfl rfl ?_; (with_reducible refine (laws_markAffixS.calls k (fun k_ => some k_ = (.slice Ao8 l0_3.length co8 : Value).ownBlock) (.slice Ao8 l0_3.length co8) l0_3 t104 t106 t107 w0 _ (bx HB.out) (Kd.R_tight rfl HO0_3.out) A5.out).mono ?_); rintro e w15 ⟨rfl, hy0, hb, hkp⟩; refine ⟨_, rfl, ?_⟩; replace HO0_0 := Aside0.mk (Kd.R_mono (ok' := fun k_ => ((P0_0_ k_ ∨ P0_1_ k_ ∨ P0_3_ k_) ∨ w.heap.size ≤ k_)) (Kd.R_keptB ((Kd.R_apart' HO0_0.out (Kd.R_typed HO0_3.out) (by decide))) hkp (fun k_ hk_ hs_ => (hk_.2) hs_)) (fun k_ hk_ => hk_.1.1)); replace HO0_1 := Aside0.mk (Kd.R_mono (ok' := fun k_ => ((P0_0_ k_ ∨ P0_1_ k_ ∨ P0_3_ k_) ∨ w.heap.size ≤ k_)) (Kd.R_keptB ((Kd.R_apart' HO0_1.out (Kd.R_typed HO0_3.out) (by decide))) hkp (fun k_ hk_ hs_ => (hk_.2) hs_)) (fun k_ hk_ => hk_.1.1)); replace BK101 := Aside0.mk (blk_kept (gx (BK101.out)) hkp (fun hs_ => (fun e_ => (Kd.R_ne HO0_3.out BK101.out (by decide)) e_) hs_)); replace HK := Aside0.mk (Kept.then_ (S := (fun k_ => P0_0_ k_ ∨ P0_1_ k_ ∨ P0_3_ k_)) (by repeat (first | (with_reducible first | exact HK.out | apply Kept.alloc | apply Kept.drewN | apply Kept.drew | refine Kept.setCell ?_ (.inr GW101.out) _) | exact HK.out)) hkp (fun k_ hs_ => (fun e_ => (HO0_3.out.1 k_ e_.symm)) hs_)); replace HO0_3 := Aside0.mk (Kd.R_reok rfl hy0 (fun k_ e_ => HO0_3.out.1 k_ e_)); replace HB := Aside0.mk (hb); (try clear hb); (try clear hkp); (try clear hy0)))
  go_ret
  exact ⟨by rfl, rx HO0_0.out, rx HO0_1.out, rx HO0_3.out, bx HB.out, by repeat (first | (with_reducible first | exact HK.out | apply Kept.alloc | apply Kept.drewN | apply Kept.drew | refine Kept.setCell ?_ (.inr GW101.out) _) | exact HK.out)⟩
end Go.Proofs.YtabindnaedchgaaDoor.M
end

section
-- Printed for this claim by a program (mprint.py) that uses the kit's print; Lean checks it.
namespace Go.Proofs.YtabindnaedchgaaDoor.M
open Go.RowKit Go.Proofs.YtabindnaedchgaaDoorW.PrintWords Go.Proofs.YtabindnaedchgaaDoorW.PrintLast Go.Proofs.YtabindnaedchgaaDoorW.PrintMore Go.Proofs.YtabindnaedchgaaDoor.Sq
set_option synthInstance.maxHeartbeats 2000000
set_option synthInstance.maxSize 4096
attribute [local go_sem] max2_int min2_int max_two min_two max_three min_three max_four min_four   -- for this text's walks alone
set_option linter.unusedVariables false
set_option linter.unusedSimpArgs false
theorem gf63 : Go_ Tryd.prog 63 Tryd.f63 := ⟨Tryd.func63, by kernel_rfl, rfl⟩
def spec_l1Letters.l0 : Nat → ByteArray → Int → Int → Option (Bool)
  | 0, _, _, _ => none
  | k + 1, x0, x1, x5 => if x5 < (x0.size : Int) then (if 0 ≤ x5 then (if (bt x0 x5) < 97 then (some false) else (if (bt x0 x5) > 122 then (some false) else (spec_l1Letters.l0 k x0 x1 (wrap64 (x5 + 1))))) else (none)) else (some (decide ((x0.size : Int) ≤ x1)))
def spec_l1Letters.f (k : Nat) (a0 : ByteArray) (a1 : Int) : Option (Bool) := spec_l1Letters.l0 k a0 a1 0
theorem spec_l1Letters.mono_l : ∀ k, (∀ y0 y1 y2, LeO (spec_l1Letters.l0 k y0 y1 y2) (spec_l1Letters.l0 (k + 1) y0 y1 y2))
  | 0 => fun _ _ _ r h => by simp [spec_l1Letters.l0] at h
  | k + 1 => by
    have ih0 := spec_l1Letters.mono_l k
    · intro y0 y1 y2
      unfold spec_l1Letters.l0
      have I0_ := fun x0_ x1_ x2_ => LeC.mk (ih0 x0_ x1_ x2_)
      exact LeC.out
theorem spec_l1Letters.mono : ∀ a0 a1 k, LeO (spec_l1Letters.f k a0 a1) (spec_l1Letters.f (k + 1) a0 a1) := by
  intro a0 a1 k
  have ih0 := spec_l1Letters.mono_l k
  unfold spec_l1Letters.f
  have I0_ := fun x0_ x1_ x2_ => LeC.mk (ih0 x0_ x1_ x2_)
  exact LeC.out
set_option maxHeartbeats 8000000 in
set_option maxRecDepth 100000 in
theorem spec_l1Letters.calls (k : Nat) (a0 : ByteArray) (a1 : Int) (r : Bool) (w : World) (h : spec_l1Letters.f k a0 a1 = some r) :
    Calls Tryd.prog 63 #[.string a0, .int .i64 a1] w fun e w' => e = .returned (.bool r) ∧ Drawn0 w w' := by
  unfold spec_l1Letters.f at h
  have H := h
  clear h
  have H' := Aside0.mk H
  clear H
  go_enter Tryd.func63, Tryd.ntmps63
  go_wp2
  go_loopg [5] k (fun kq v5 w' => ∃ (x5_1 : Int), v5 = .int .i64 x5_1 ∧ Aside0 (spec_l1Letters.l0 kq a0 a1 x5_1 = some r) ∧ Aside0 (kq ≤ k) ∧ Drawn0 w w')
  case atStart => exact ⟨(0), (by first | rfl | (simp; done) | (simp [*]; done)), H', ⟨Nat.le_refl _⟩, by repeat (first | exact Drawn0.refl _ | apply Drawn0.step)⟩
  case round =>
    clear H'
    try clear p2
    obtain ⟨x5_1, rfl, HA, HK1, ⟨m1, rfl⟩⟩ := hrel
    cases gk with
    | zero => exact absurd HA.out (by simp [spec_l1Letters.l0])
    | succ k1 =>
      have H := HA.out
      clear HA
      simp only [spec_l1Letters.l0] at H
      by_cases c3 : x5_1 < (a0.size : Int)
      · rw [if_pos c3] at H
        have c3b0 := decide_eq_true c3
        clear c3
        have c4 := ite_y H
        replace H := ite_t H
        have c4b0 := decide_eq_true c4
        clear c4
        by_cases c6 : (bt a0 x5_1) < 97
        · rw [if_pos c6] at H
          have c6b0 := decide_eq_true c6
          clear c6
          obtain rfl := Option.some.inj H
          have p5 := of_decide_eq_true c4b0
          have q5 := of_decide_eq_true c3b0
          have hx5 := bt_at a0 x5_1
          replace p5 := eq_true p5
          replace q5 := eq_true q5
          go_wp2
          go_ret
          exact ⟨by first | rfl | (simp; done) | (simp [*]; done), by repeat (first | exact Drawn0.refl _ | apply Drawn0.step)⟩
        · rw [if_neg c6] at H
          have c6b0 := decide_eq_false c6
          clear c6
          by_cases c8 : (bt a0 x5_1) > 122
          · rw [if_pos c8] at H
            have c8b0 : decide (122 < (bt a0 x5_1)) = true := decide_eq_true c8
            clear c8
            obtain rfl := Option.some.inj H
            have p5 := of_decide_eq_true c4b0
            have q5 := of_decide_eq_true c3b0
            have hx5 := bt_at a0 x5_1
            replace p5 := eq_true p5
            replace q5 := eq_true q5
            have p7 := of_decide_eq_true c4b0
            have q7 := of_decide_eq_true c3b0
            have hx7 := bt_at a0 x5_1
            replace p7 := eq_true p7
            replace q7 := eq_true q7
            go_wp2
            go_ret
            exact ⟨by first | rfl | (simp; done) | (simp [*]; done), by repeat (first | exact Drawn0.refl _ | apply Drawn0.step)⟩
          · rw [if_neg c8] at H
            have c8b0 : decide (122 < (bt a0 x5_1)) = false := decide_eq_false c8
            clear c8
            have H' := Aside0.mk H
            clear H
            have p5 := of_decide_eq_true c4b0
            have q5 := of_decide_eq_true c3b0
            have hx5 := bt_at a0 x5_1
            replace p5 := eq_true p5
            replace q5 := eq_true q5
            have p7 := of_decide_eq_true c4b0
            have q7 := of_decide_eq_true c3b0
            have hx7 := bt_at a0 x5_1
            replace p7 := eq_true p7
            replace q7 := eq_true q7
            go_wp2
            go_roundg k1
            case measure => have := HK1.out; omega
            case rel => exact ⟨(wrap64 (x5_1 + 1)), (by first | rfl | (simp; done) | (simp [*]; done)), H', ⟨by have := HK1.out; omega⟩, by repeat (first | exact Drawn0.refl _ | apply Drawn0.step)⟩
      · rw [if_neg c3] at H
        have c3b0 := decide_eq_false c3
        clear c3
        obtain rfl := Option.some.inj H
        go_wp2
        go_ret
        exact ⟨by first | rfl | (simp; done) | (simp [*]; done), by repeat (first | exact Drawn0.refl _ | apply Drawn0.step)⟩
end Go.Proofs.YtabindnaedchgaaDoor.M
end

section
-- Printed for this claim by a program (mprint.py) that uses the kit's print; Lean checks it.
namespace Go.Proofs.YtabindnaedchgaaDoor.M
open Go.RowKit Go.Proofs.YtabindnaedchgaaDoorW.PrintWords Go.Proofs.YtabindnaedchgaaDoorW.PrintLast Go.Proofs.YtabindnaedchgaaDoorW.PrintMore Go.Proofs.YtabindnaedchgaaDoor.Sq
set_option synthInstance.maxHeartbeats 2000000
set_option synthInstance.maxSize 4096
attribute [local go_sem] max2_int min2_int max_two min_two max_three min_three max_four min_four   -- for this text's walks alone
set_option linter.unusedVariables false
set_option linter.unusedSimpArgs false
theorem gf37 : Go_ Tryd.prog 37 Tryd.f37 := ⟨Tryd.func37, by kernel_rfl, rfl⟩
def spec_l1Word.f (k : Nat) (a0 : ByteArray) : Option (Bool) := if (a0.size : Int) > 0 then ((spec_l1Letters.f k a0 12).bind fun t101 => (some t101)) else (some false)
theorem spec_l1Word.mono : ∀ a0 k, LeO (spec_l1Word.f k a0) (spec_l1Word.f (k + 1) a0) := by
  intro a0 k
  unfold spec_l1Word.f
  have I0_ := fun x0_ x1_ x2_ => LeC.mk (spec_l1Letters.mono x0_ x1_ x2_)
  exact LeC.out
set_option maxHeartbeats 8000000 in
set_option maxRecDepth 100000 in
theorem spec_l1Word.calls (k : Nat) (a0 : ByteArray) (r : Bool) (w : World) (h : spec_l1Word.f k a0 = some r) :
    Calls Tryd.prog 37 #[.string a0] w fun e w' => e = .returned (.bool r) ∧ Drawn0 w w' := by
  unfold spec_l1Word.f at h
  have H := h
  clear h
  by_cases c2 : (a0.size : Int) > 0
  · rw [if_pos c2] at H
    have c2b0 : decide (0 < (a0.size : Int)) = true := decide_eq_true c2
    have c2b1 : decide (0 < a0.size) = true := decide_eq_true (by omega)
    clear c2
    replace H := Option.bind_eq_some_iff.mp H
    obtain ⟨t101, A30, H⟩ := H
    have A3 := Aside0.mk A30
    clear A30
    obtain rfl := Option.some.inj H
    go_enter Tryd.func37, Tryd.ntmps37
    go_wp2_with (first | (go_at_call 63; (with_reducible refine (spec_l1Letters.calls k a0 12 t101 _ A3.out).mono ?_); rintro e w' ⟨rfl, ⟨nd, rfl⟩⟩))
    go_ret
    exact ⟨by first | rfl | (simp; done) | (simp [*]; done), by repeat (first | exact Drawn0.refl _ | apply Drawn0.step)⟩
  · rw [if_neg c2] at H
    have c2b0 : decide (0 < (a0.size : Int)) = false := decide_eq_false c2
    have c2b1 : decide (0 < a0.size) = false := decide_eq_false (by omega)
    clear c2
    obtain rfl := Option.some.inj H
    go_enter Tryd.func37, Tryd.ntmps37
    go_wp2
    go_ret
    exact ⟨by first | rfl | (simp; done) | (simp [*]; done), by repeat (first | exact Drawn0.refl _ | apply Drawn0.step)⟩
end Go.Proofs.YtabindnaedchgaaDoor.M
end

section
-- Printed for this claim by a program (mprint.py) that uses the kit's print; Lean checks it.
namespace Go.Proofs.YtabindnaedchgaaDoor.M
open Go.RowKit Go.Proofs.YtabindnaedchgaaDoorW.PrintWords Go.Proofs.YtabindnaedchgaaDoorW.PrintLast Go.Proofs.YtabindnaedchgaaDoorW.PrintMore Go.Proofs.YtabindnaedchgaaDoor.Sq
set_option synthInstance.maxHeartbeats 2000000
set_option synthInstance.maxSize 4096
attribute [local go_sem] max2_int min2_int max_two min_two max_three min_three max_four min_four   -- for this text's walks alone
set_option linter.unusedVariables false
set_option linter.unusedSimpArgs false
theorem gf84 : Go_ Tryd.prog 84 Tryd.f84 := ⟨Tryd.func84, by kernel_rfl, rfl⟩
def spec_l2Begins.f (a0 : ByteArray) (a1 : ByteArray) : Option (Bool) := if (a0.size : Int) ≥ (a1.size : Int) then (if 0 ≤ (a1.size : Int) then (if (a1.size : Int) ≤ (a0.size : Int) then (some ((a0.extract 0 ((a1.size : Int) : Int).toNat).toList == a1.toList)) else (none)) else (none)) else (some false)
set_option maxHeartbeats 8000000 in
set_option maxRecDepth 100000 in
theorem spec_l2Begins.calls (a0 : ByteArray) (a1 : ByteArray) (r : Bool) (w : World) (h : spec_l2Begins.f a0 a1 = some r) :
    Calls Tryd.prog 84 #[.string a0, .string a1] w fun e w' => e = .returned (.bool r) ∧ Drawn0 w w' := by
  unfold spec_l2Begins.f at h
  have H := h
  clear h
  by_cases c3 : (a0.size : Int) ≥ (a1.size : Int)
  · rw [if_pos c3] at H
    have c3b0 : decide ((a1.size : Int) ≤ (a0.size : Int)) = true := decide_eq_true c3
    have c3b1 : decide (a1.size ≤ a0.size) = true := decide_eq_true (Int.ofNat_le.mp c3)
    clear c3
    have c4 := ite_y H
    replace H := ite_t H
    have c4b0 := eq_true c4
    have c4b1 := decide_eq_true c4
    clear c4
    have c5 := ite_y H
    replace H := ite_t H
    have c5b0 := eq_true c5
    have c5b1 := decide_eq_true c5
    clear c5
    obtain rfl := Option.some.inj H
    go_enter Tryd.func84, Tryd.ntmps84
    go_wp2
    go_ret
    exact ⟨by first | rfl | (simp; done) | (simp [*]; done), by repeat (first | exact Drawn0.refl _ | apply Drawn0.step)⟩
  · rw [if_neg c3] at H
    have c3b0 : decide ((a1.size : Int) ≤ (a0.size : Int)) = false := decide_eq_false c3
    have c3b1 : decide (a1.size ≤ a0.size) = false := decide_eq_false (fun h => c3 (Int.ofNat_le.mpr h))
    clear c3
    obtain rfl := Option.some.inj H
    go_enter Tryd.func84, Tryd.ntmps84
    go_wp2
    go_ret
    exact ⟨by first | rfl | (simp; done) | (simp [*]; done), by repeat (first | exact Drawn0.refl _ | apply Drawn0.step)⟩
end Go.Proofs.YtabindnaedchgaaDoor.M
end

section
-- Printed for this claim by a program (mprint.py) that uses the kit's print; Lean checks it.
namespace Go.Proofs.YtabindnaedchgaaDoor.M
open Go.RowKit Go.Proofs.YtabindnaedchgaaDoorW.PrintWords Go.Proofs.YtabindnaedchgaaDoorW.PrintLast Go.Proofs.YtabindnaedchgaaDoorW.PrintMore Go.Proofs.YtabindnaedchgaaDoor.Sq
set_option synthInstance.maxHeartbeats 2000000
set_option synthInstance.maxSize 4096
attribute [local go_sem] max2_int min2_int max_two min_two max_three min_three max_four min_four   -- for this text's walks alone
set_option linter.unusedVariables false
set_option linter.unusedSimpArgs false
theorem gf85 : Go_ Tryd.prog 85 Tryd.f85 := ⟨Tryd.func85, by kernel_rfl, rfl⟩
def spec_l2Ends.f (a0 : ByteArray) (a1 : ByteArray) : Option (Bool) := if (a0.size : Int) ≥ (a1.size : Int) then (if 0 ≤ (wrap64 ((a0.size : Int) - (a1.size : Int))) then (if (wrap64 ((a0.size : Int) - (a1.size : Int))) ≤ (a0.size : Int) then (some ((a0.extract ((wrap64 ((a0.size : Int) - (a1.size : Int))) : Int).toNat a0.size).toList == a1.toList)) else (none)) else (none)) else (some false)
set_option maxHeartbeats 8000000 in
set_option maxRecDepth 100000 in
theorem spec_l2Ends.calls (a0 : ByteArray) (a1 : ByteArray) (r : Bool) (w : World) (h : spec_l2Ends.f a0 a1 = some r) :
    Calls Tryd.prog 85 #[.string a0, .string a1] w fun e w' => e = .returned (.bool r) ∧ Drawn0 w w' := by
  unfold spec_l2Ends.f at h
  have H := h
  clear h
  by_cases c3 : (a0.size : Int) ≥ (a1.size : Int)
  · rw [if_pos c3] at H
    have c3b0 : decide ((a1.size : Int) ≤ (a0.size : Int)) = true := decide_eq_true c3
    have c3b1 : decide (a1.size ≤ a0.size) = true := decide_eq_true (Int.ofNat_le.mp c3)
    clear c3
    obtain ⟨ji4, hji4⟩ : ∃ j_ : Int, (wrap64 ((a0.size : Int) - (a1.size : Int))) = j_ := ⟨_, rfl⟩
    replace H : (if 0 ≤ (ji4) then (if (ji4) ≤ (a0.size : Int) then (some ((a0.extract ((ji4) : Int).toNat a0.size).toList == a1.toList)) else (none)) else (none)) = some r := by first | (rw [hji4] at H; exact H) | (simp only [hji4] at H ⊢; exact H)
    have hji4w : (IntKind.i64.wrap ((a0.size : Int) - (a1.size : Int))) = ji4 := (i64_w _).trans hji4
    have c5 := ite_y H
    replace H := ite_t H
    have c5b0 := eq_true c5
    have c5b1 := decide_eq_true c5
    clear c5
    have c6 := ite_y H
    replace H := ite_t H
    have c6b0 := eq_true c6
    have c6b1 := decide_eq_true c6
    clear c6
    obtain rfl := Option.some.inj H
    go_enter Tryd.func85, Tryd.ntmps85
    go_wp2
    go_ret
    exact ⟨by first | rfl | (simp; done) | (simp only [← hji4] <;> (first | rfl | simp)) | (simp [*]; done), by repeat (first | exact Drawn0.refl _ | apply Drawn0.step)⟩
  · rw [if_neg c3] at H
    have c3b0 : decide ((a1.size : Int) ≤ (a0.size : Int)) = false := decide_eq_false c3
    have c3b1 : decide (a1.size ≤ a0.size) = false := decide_eq_false (fun h => c3 (Int.ofNat_le.mpr h))
    clear c3
    obtain rfl := Option.some.inj H
    go_enter Tryd.func85, Tryd.ntmps85
    go_wp2
    go_ret
    exact ⟨by first | rfl | (simp; done) | (simp [*]; done), by repeat (first | exact Drawn0.refl _ | apply Drawn0.step)⟩
end Go.Proofs.YtabindnaedchgaaDoor.M
end

section
-- Printed for this claim by a program (mprint.py) that uses the kit's print; Lean checks it.
namespace Go.Proofs.YtabindnaedchgaaDoor.M
open Go.RowKit Go.Proofs.YtabindnaedchgaaDoorW.PrintWords Go.Proofs.YtabindnaedchgaaDoorW.PrintLast Go.Proofs.YtabindnaedchgaaDoorW.PrintMore Go.Proofs.YtabindnaedchgaaDoor.Sq
set_option synthInstance.maxHeartbeats 2000000
set_option synthInstance.maxSize 4096
attribute [local go_sem] max2_int min2_int max_two min_two max_three min_three max_four min_four   -- for this text's walks alone
set_option linter.unusedVariables false
set_option linter.unusedSimpArgs false
theorem gf83 : Go_ Tryd.prog 83 Tryd.f83 := ⟨Tryd.func83, by kernel_rfl, rfl⟩
def spec_l2Flag.f (a0 : ByteArray) : Option (Bool) := if (a0.size : Int) = 1 then (if 0 < (a0.size : Int) then (if (bt a0 0) ≥ 65 then (some (decide ((bt a0 0) ≤ 90))) else (some false)) else (none)) else (some false)
set_option maxHeartbeats 8000000 in
set_option maxRecDepth 100000 in
theorem spec_l2Flag.calls (a0 : ByteArray) (r : Bool) (w : World) (h : spec_l2Flag.f a0 = some r) :
    Calls Tryd.prog 83 #[.string a0] w fun e w' => e = .returned (.bool r) ∧ Drawn0 w w' := by
  unfold spec_l2Flag.f at h
  have H := h
  clear h
  by_cases c2 : (a0.size : Int) = 1
  · rw [if_pos c2] at H
    have c2b0 : ((a0.size : Int) == 1) = true := beq_iff_eq.mpr c2
    have c2b1 : ((a0.size : Int) != 1) = false := bne_eq_false_iff_eq.mpr c2
    clear c2
    have c3 := ite_y H
    replace H := ite_t H
    have c3b0 := decide_eq_true c3
    have c3b1 : decide (0 < a0.size) = true := decide_eq_true (by omega)
    clear c3
    by_cases c5 : (bt a0 0) ≥ 65
    · rw [if_pos c5] at H
      have c5b0 : decide (65 ≤ (bt a0 0)) = true := decide_eq_true c5
      clear c5
      obtain rfl := Option.some.inj H
      have p4 : 0 ≤ (0 : Int) := (by omega)
      have q4 : 0 < a0.size := (by have : (0 : Int) < (a0.size : Int) := of_decide_eq_true (by with_reducible assumption); omega)
      have hx4 : ∀ h : 0 < a0.size, ((a0[0]'h).toNat : Int) = bt a0 0 := bt_at a0 0
      clear p4
      have qi4 : (0 < (a0.size : Int)) = True := eq_true (of_decide_eq_true (by with_reducible assumption))
      replace q4 := eq_true q4
      have p6 : 0 ≤ (0 : Int) := (by omega)
      have q6 : 0 < a0.size := (by have : (0 : Int) < (a0.size : Int) := of_decide_eq_true (by with_reducible assumption); omega)
      have hx6 : ∀ h : 0 < a0.size, ((a0[0]'h).toNat : Int) = bt a0 0 := bt_at a0 0
      clear p6
      have qi6 : (0 < (a0.size : Int)) = True := eq_true (of_decide_eq_true (by with_reducible assumption))
      replace q6 := eq_true q6
      go_enter Tryd.func83, Tryd.ntmps83
      go_wp2
      go_ret
      exact ⟨by first | rfl | (simp; done) | (simp [*]; done), by repeat (first | exact Drawn0.refl _ | apply Drawn0.step)⟩
    · rw [if_neg c5] at H
      have c5b0 : decide (65 ≤ (bt a0 0)) = false := decide_eq_false c5
      clear c5
      obtain rfl := Option.some.inj H
      have p4 : 0 ≤ (0 : Int) := (by omega)
      have q4 : 0 < a0.size := (by have : (0 : Int) < (a0.size : Int) := of_decide_eq_true (by with_reducible assumption); omega)
      have hx4 : ∀ h : 0 < a0.size, ((a0[0]'h).toNat : Int) = bt a0 0 := bt_at a0 0
      clear p4
      have qi4 : (0 < (a0.size : Int)) = True := eq_true (of_decide_eq_true (by with_reducible assumption))
      replace q4 := eq_true q4
      go_enter Tryd.func83, Tryd.ntmps83
      go_wp2
      go_ret
      exact ⟨by first | rfl | (simp; done) | (simp [*]; done), by repeat (first | exact Drawn0.refl _ | apply Drawn0.step)⟩
  · rw [if_neg c2] at H
    have c2b0 : ((a0.size : Int) == 1) = false := beq_eq_false_iff_ne.mpr c2
    have c2b1 : ((a0.size : Int) != 1) = true := bne_iff_ne.mpr c2
    obtain rfl := Option.some.inj H
    go_enter Tryd.func83, Tryd.ntmps83
    go_wp2
    go_ret
    exact ⟨by first | rfl | (simp; done) | (simp [*]; done), by repeat (first | exact Drawn0.refl _ | apply Drawn0.step)⟩
end Go.Proofs.YtabindnaedchgaaDoor.M
end

section
-- Printed for this claim by a program (mprint.py) that uses the kit's print; Lean checks it.
namespace Go.Proofs.YtabindnaedchgaaDoor.M
open Go.RowKit Go.Proofs.YtabindnaedchgaaDoorW.PrintWords Go.Proofs.YtabindnaedchgaaDoorW.PrintLast Go.Proofs.YtabindnaedchgaaDoorW.PrintMore Go.Proofs.YtabindnaedchgaaDoor.Sq
set_option synthInstance.maxHeartbeats 2000000
set_option synthInstance.maxSize 4096
attribute [local go_sem] max2_int min2_int max_two min_two max_three min_three max_four min_four   -- for this text's walks alone
set_option linter.unusedVariables false
set_option linter.unusedSimpArgs false
theorem gf65 : Go_ Tryd.prog 65 Tryd.f65 := ⟨Tryd.func65, by kernel_rfl, rfl⟩
def spec_AffixOk.j0 : Nat → Bool → ByteArray → Bool → ByteArray → ByteArray → ByteArray → Option (Bool)
  | 0, _, _, _, _, _, _ => none
  | k + 1, x24, x102000, x102001, x102002, x102003, x102004 => if x24 = true then (some false) else (if x102001 = true then ((spec_l2Begins.f x102004 x102002).bind fun t106 => (some t106)) else ((spec_l2Ends.f x102004 x102002).bind fun t107 => (some t107)))
def spec_AffixOk.f (k : Nat) (a0_0 : ByteArray) (a0_1 : Bool) (a0_2 : ByteArray) (a0_3 : ByteArray) (a0_4 : ByteArray) : Option (Bool) := (spec_l2Flag.f a0_0).bind fun t102 => (if t102 = true then ((spec_l1Letters.f k a0_2 4).bind fun t103 => (if t103 = true then ((spec_l1Letters.f k a0_3 4).bind fun t104 => (if t104 = true then ((spec_l1Letters.f k a0_4 4).bind fun t105 => (spec_AffixOk.j0 k (!t105) a0_0 a0_1 a0_2 a0_3 a0_4)) else (spec_AffixOk.j0 k true a0_0 a0_1 a0_2 a0_3 a0_4))) else (spec_AffixOk.j0 k true a0_0 a0_1 a0_2 a0_3 a0_4))) else (spec_AffixOk.j0 k true a0_0 a0_1 a0_2 a0_3 a0_4))
theorem spec_AffixOk.mono_l : ∀ k, (∀ y0 y1 y2 y3 y4 y5, LeO (spec_AffixOk.j0 k y0 y1 y2 y3 y4 y5) (spec_AffixOk.j0 (k + 1) y0 y1 y2 y3 y4 y5))
  | 0 => fun _ _ _ _ _ _ r h => by simp [spec_AffixOk.j0] at h
  | k + 1 => by
    have ih0 := spec_AffixOk.mono_l k
    · intro y0 y1 y2 y3 y4 y5
      unfold spec_AffixOk.j0
      have I0_ := fun x0_ x1_ x2_ x3_ x4_ x5_ => LeC.mk (ih0 x0_ x1_ x2_ x3_ x4_ x5_)
      have I1_ := fun x0_ x1_ x2_ => LeC.mk (spec_l1Letters.mono x0_ x1_ x2_)
      exact LeC.out
theorem spec_AffixOk.mono : ∀ a0 a1 a2 a3 a4 k, LeO (spec_AffixOk.f k a0 a1 a2 a3 a4) (spec_AffixOk.f (k + 1) a0 a1 a2 a3 a4) := by
  intro a0 a1 a2 a3 a4 k
  have ih0 := spec_AffixOk.mono_l k
  unfold spec_AffixOk.f
  have I0_ := fun x0_ x1_ x2_ x3_ x4_ x5_ => LeC.mk (ih0 x0_ x1_ x2_ x3_ x4_ x5_)
  have I1_ := fun x0_ x1_ x2_ => LeC.mk (spec_l1Letters.mono x0_ x1_ x2_)
  exact LeC.out
set_option maxHeartbeats 8000000 in
set_option maxRecDepth 100000 in
theorem spec_AffixOk.calls (k : Nat) (a0_0 : ByteArray) (a0_1 : Bool) (a0_2 : ByteArray) (a0_3 : ByteArray) (a0_4 : ByteArray) (r : Bool) (w : World) (h : spec_AffixOk.f k a0_0 a0_1 a0_2 a0_3 a0_4 = some r) :
    Calls Tryd.prog 65 #[.agg #[.string a0_0, .bool a0_1, .string a0_2, .string a0_3, .string a0_4]] w fun e w' => e = .returned (.bool r) ∧ Below w.heap.size w w' := by
  have hu46 := Tryd.underlying46
  have HB := Aside0.mk (Below.refl w.heap.size w)
  unfold spec_AffixOk.f at h
  have H := h
  clear h
  have HC2 := Aside0.mk H
  clear H
  go_enter Tryd.func65, Tryd.ntmps65
  go_upto_region 1 with (first | ((with_reducible refine gate_dst (N := 1) rfl ?_); refine box_event rfl (N := 1) rfl (cs := #[.string a0_0, .bool a0_1, .string a0_2, .string a0_3, .string a0_4]) (t := 46) (by go_simp <;> rfl) ?_; intro gb101 hg w3 hbox hb; have BK101 := Aside0.mk (hbox); have GW101 := Le_.mk (ge_of hg HB.out); have GE101 := Le_.mk (ge_of hg HB.out); replace HB := kB HB hb; clear hb hbox hg))
  (try simp only [Act.put, List.setIfInBounds_toArray, List.set_cons_zero, List.set_cons_succ])
  go_cut [24] (fun v24 wc => ∃ (kq : Nat) (x24_1 : Bool), v24 = .bool x24_1 ∧ Aside0 (spec_AffixOk.j0 kq x24_1 a0_0 a0_1 a0_2 a0_3 a0_4 = some r) ∧ Aside0 (kq ≤ k) ∧ Aside0 (wc.heap[gb101]? = some (.cells #[.string a0_0, .bool a0_1, .string a0_2, .string a0_3, .string a0_4] 46 (0, 0))) ∧ Aside0 (Below w.heap.size w wc))
  case first =>
    have H := HC2.out
    clear HC2
    replace H := Option.bind_eq_some_iff.mp H
    obtain ⟨t102, A40, H⟩ := H
    have A4 := Aside0.mk A40
    clear A40
    by_cases c5 : t102 = true
    · subst c5
      rw [if_pos rfl] at H
      replace H := Option.bind_eq_some_iff.mp H
      obtain ⟨t103, A60, H⟩ := H
      have A6 := Aside0.mk A60
      clear A60
      by_cases c7 : t103 = true
      · subst c7
        rw [if_pos rfl] at H
        replace H := Option.bind_eq_some_iff.mp H
        obtain ⟨t104, A80, H⟩ := H
        have A8 := Aside0.mk A80
        clear A80
        by_cases c9 : t104 = true
        · subst c9
          rw [if_pos rfl] at H
          replace H := Option.bind_eq_some_iff.mp H
          obtain ⟨t105, A100, H⟩ := H
          have A10 := Aside0.mk A100
          clear A100
          have H' := Aside0.mk H
          clear H
          have hz11 := cells_5 BK101.out
          go_wp2_with (first | ((with_reducible refine gate_callee (f := 83) rfl ?_); refine goL (some 5) rfl rfl gf83 #[.string a0_0] rfl rfl ?_; (with_reducible refine (spec_l2Flag.calls a0_0 true _ A4.out).mono ?_); rintro e w' ⟨rfl, ⟨nd, rfl⟩⟩; refine ⟨_, rfl, ?_⟩) | (go_at_call 63; (with_reducible refine (spec_l1Letters.calls k a0_2 4 true _ A6.out).mono ?_); rintro e w' ⟨rfl, ⟨nd, rfl⟩⟩) | (go_at_call 63; (with_reducible refine (spec_l1Letters.calls k a0_3 4 true _ A8.out).mono ?_); rintro e w' ⟨rfl, ⟨nd, rfl⟩⟩) | (go_at_call 63; (with_reducible refine (spec_l1Letters.calls k a0_4 4 t105 _ A10.out).mono ?_); rintro e w' ⟨rfl, ⟨nd, rfl⟩⟩))
          go_meet
          case rel => exact ⟨_, (!t105), (by first | rfl | (simp; done) | (simp [*]; done)), H', ⟨by first | omega | exact Nat.le_refl _⟩, ⟨gx (BK101.out)⟩, ⟨bx HB.out⟩⟩
        · replace c9 := Bool.eq_false_iff.mpr c9
          subst c9
          rw [if_neg Bool.false_ne_true] at H
          have H' := Aside0.mk H
          clear H
          have hz12 := cells_5 BK101.out
          go_wp2_with (first | ((with_reducible refine gate_callee (f := 83) rfl ?_); refine goL (some 5) rfl rfl gf83 #[.string a0_0] rfl rfl ?_; (with_reducible refine (spec_l2Flag.calls a0_0 true _ A4.out).mono ?_); rintro e w' ⟨rfl, ⟨nd, rfl⟩⟩; refine ⟨_, rfl, ?_⟩) | (go_at_call 63; (with_reducible refine (spec_l1Letters.calls k a0_2 4 true _ A6.out).mono ?_); rintro e w' ⟨rfl, ⟨nd, rfl⟩⟩) | (go_at_call 63; (with_reducible refine (spec_l1Letters.calls k a0_3 4 false _ A8.out).mono ?_); rintro e w' ⟨rfl, ⟨nd, rfl⟩⟩))
          go_meet
          case rel => exact ⟨_, (true), (by first | rfl | (simp; done) | (simp [*]; done)), H', ⟨by first | omega | exact Nat.le_refl _⟩, ⟨gx (BK101.out)⟩, ⟨bx HB.out⟩⟩
      · replace c7 := Bool.eq_false_iff.mpr c7
        subst c7
        rw [if_neg Bool.false_ne_true] at H
        have H' := Aside0.mk H
        clear H
        have hz13 := cells_5 BK101.out
        go_wp2_with (first | ((with_reducible refine gate_callee (f := 83) rfl ?_); refine goL (some 5) rfl rfl gf83 #[.string a0_0] rfl rfl ?_; (with_reducible refine (spec_l2Flag.calls a0_0 true _ A4.out).mono ?_); rintro e w' ⟨rfl, ⟨nd, rfl⟩⟩; refine ⟨_, rfl, ?_⟩) | (go_at_call 63; (with_reducible refine (spec_l1Letters.calls k a0_2 4 false _ A6.out).mono ?_); rintro e w' ⟨rfl, ⟨nd, rfl⟩⟩))
        go_meet
        case rel => exact ⟨_, (true), (by first | rfl | (simp; done) | (simp [*]; done)), H', ⟨by first | omega | exact Nat.le_refl _⟩, ⟨gx (BK101.out)⟩, ⟨bx HB.out⟩⟩
    · replace c5 := Bool.eq_false_iff.mpr c5
      subst c5
      rw [if_neg Bool.false_ne_true] at H
      have H' := Aside0.mk H
      clear H
      have hz14 := cells_5 BK101.out
      go_wp2_with (first | ((with_reducible refine gate_callee (f := 83) rfl ?_); refine goL (some 5) rfl rfl gf83 #[.string a0_0] rfl rfl ?_; (with_reducible refine (spec_l2Flag.calls a0_0 false _ A4.out).mono ?_); rintro e w' ⟨rfl, ⟨nd, rfl⟩⟩; refine ⟨_, rfl, ?_⟩))
      go_meet
      case rel => exact ⟨_, (true), (by first | rfl | (simp; done) | (simp [*]; done)), H', ⟨by first | omega | exact Nat.le_refl _⟩, ⟨gx (BK101.out)⟩, ⟨bx HB.out⟩⟩
  case rest =>
    clear HC2
    try clear p2
    try clear c5
    try clear c6
    try clear c7
    try clear c8
    try clear c9
    try clear hz11
    try clear hz12
    try clear hz13
    try clear hz14
    obtain ⟨kq, x24_1, rfl, HA, HJ1, BK101, HB⟩ := hcut
    cases kq with
    | zero => exact absurd HA.out (by simp [spec_AffixOk.j0])
    | succ kj1 =>
      have H := HA.out
      clear HA
      simp only [spec_AffixOk.j0] at H
      by_cases c15 : x24_1 = true
      · subst c15
        rw [if_pos rfl] at H
        obtain rfl := Option.some.inj H
        go_wp2
        go_ret
        exact ⟨by rfl, bx HB.out⟩
      · replace c15 := Bool.eq_false_iff.mpr c15
        subst c15
        rw [if_neg Bool.false_ne_true] at H
        by_cases c16 : a0_1 = true
        · subst c16
          rw [if_pos rfl] at H
          replace H := Option.bind_eq_some_iff.mp H
          obtain ⟨t106, A170, H⟩ := H
          have A17 := Aside0.mk A170
          clear A170
          obtain rfl := Option.some.inj H
          have hz18 := cells_5 BK101.out
          go_wp2_with (first | ((with_reducible refine gate_callee (f := 84) rfl ?_); refine goL (some 31) rfl rfl gf84 #[.string a0_4, .string a0_2] rfl rfl ?_; (with_reducible refine (spec_l2Begins.calls a0_4 a0_2 t106 _ A17.out).mono ?_); rintro e w' ⟨rfl, ⟨nd, rfl⟩⟩; refine ⟨_, rfl, ?_⟩))
          go_ret
          exact ⟨by rfl, bx HB.out⟩
        · replace c16 := Bool.eq_false_iff.mpr c16
          subst c16
          rw [if_neg Bool.false_ne_true] at H
          replace H := Option.bind_eq_some_iff.mp H
          obtain ⟨t107, A190, H⟩ := H
          have A19 := Aside0.mk A190
          clear A190
          obtain rfl := Option.some.inj H
          have hz20 := cells_5 BK101.out
          go_wp2_with (first | ((with_reducible refine gate_callee (f := 85) rfl ?_); refine goL (some 36) rfl rfl gf85 #[.string a0_4, .string a0_2] rfl rfl ?_; (with_reducible refine (spec_l2Ends.calls a0_4 a0_2 t107 _ A19.out).mono ?_); rintro e w' ⟨rfl, ⟨nd, rfl⟩⟩; refine ⟨_, rfl, ?_⟩))
          go_ret
          exact ⟨by rfl, bx HB.out⟩
end Go.Proofs.YtabindnaedchgaaDoor.M
end

section
-- Printed for this claim by a program (mprint.py) that uses the kit's print; Lean checks it.
namespace Go.Proofs.YtabindnaedchgaaDoor.M
open Go.RowKit Go.Proofs.YtabindnaedchgaaDoorW.PrintWords Go.Proofs.YtabindnaedchgaaDoorW.PrintLast Go.Proofs.YtabindnaedchgaaDoorW.PrintMore Go.Proofs.YtabindnaedchgaaDoor.Sq
set_option synthInstance.maxHeartbeats 2000000
set_option synthInstance.maxSize 4096
attribute [local go_sem] max2_int min2_int max_two min_two max_three min_three max_four min_four   -- for this text's walks alone
set_option linter.unusedVariables false
set_option linter.unusedSimpArgs false
attribute [local go_sem high] eqA46
theorem gf39 : Go_ Tryd.prog 39 Tryd.f39 := ⟨Tryd.func39, by kernel_rfl, rfl⟩
mutual
def spec_l2Affixes.l0 : Nat → List (S46) → Int → Option (Bool)
  | 0, _, _ => none
  | k + 1, x0, x3 => if x3 < (x0.length : Int) then (if 0 ≤ x3 then ((spec_AffixOk.f k ((rd_T46 x0 x3).f0) ((rd_T46 x0 x3).f1) ((rd_T46 x0 x3).f2) ((rd_T46 x0 x3).f3) ((rd_T46 x0 x3).f4)).bind fun t102 => (if t102 = true then (spec_l2Affixes.l1 k x0 x3 0) else (some false))) else (none)) else (some (decide ((x0.length : Int) ≤ 8)))
def spec_l2Affixes.l1 : Nat → List (S46) → Int → Int → Option (Bool)
  | 0, _, _, _ => none
  | k + 1, x0, x3, x4 => if x4 < x3 then (if 0 ≤ x4 then (if x4 < (x0.length : Int) then (if 0 ≤ x3 then (if x3 < (x0.length : Int) then (if ((((rd_T46 x0 x4).f0).toList) == (((rd_T46 x0 x3).f0).toList) && (((rd_T46 x0 x4).f1) == ((rd_T46 x0 x3).f1) && ((((rd_T46 x0 x4).f2).toList) == (((rd_T46 x0 x3).f2).toList) && ((((rd_T46 x0 x4).f3).toList) == (((rd_T46 x0 x3).f3).toList) && ((((rd_T46 x0 x4).f4).toList) == (((rd_T46 x0 x3).f4).toList)))))) = true then (some false) else (spec_l2Affixes.l1 k x0 x3 (wrap64 (x4 + 1)))) else (none)) else (none)) else (none)) else (none)) else (spec_l2Affixes.l0 k x0 (wrap64 (x3 + 1)))
end
def spec_l2Affixes.f (k : Nat) (l0 : List (S46)) : Option (Bool) := spec_l2Affixes.l0 k l0 0
theorem spec_l2Affixes.mono_l : ∀ k, (∀ y0 y1, LeO (spec_l2Affixes.l0 k y0 y1) (spec_l2Affixes.l0 (k + 1) y0 y1)) ∧ (∀ y0 y1 y2, LeO (spec_l2Affixes.l1 k y0 y1 y2) (spec_l2Affixes.l1 (k + 1) y0 y1 y2))
  | 0 => ⟨fun _ _ r h => by simp [spec_l2Affixes.l0] at h, fun _ _ _ r h => by simp [spec_l2Affixes.l1] at h⟩
  | k + 1 => by
    obtain ⟨ih0, ih1⟩ := spec_l2Affixes.mono_l k
    refine ⟨?_, ?_⟩
    · intro y0 y1
      unfold spec_l2Affixes.l0
      have I0_ := fun x0_ x1_ => LeC.mk (ih0 x0_ x1_)
      have I1_ := fun x0_ x1_ x2_ => LeC.mk (ih1 x0_ x1_ x2_)
      have I2_ := fun x0_ x1_ x2_ x3_ x4_ x5_ => LeC.mk (spec_AffixOk.mono x0_ x1_ x2_ x3_ x4_ x5_)
      exact LeC.out
    · intro y0 y1 y2
      unfold spec_l2Affixes.l1
      have I0_ := fun x0_ x1_ => LeC.mk (ih0 x0_ x1_)
      have I1_ := fun x0_ x1_ x2_ => LeC.mk (ih1 x0_ x1_ x2_)
      have I2_ := fun x0_ x1_ x2_ x3_ x4_ x5_ => LeC.mk (spec_AffixOk.mono x0_ x1_ x2_ x3_ x4_ x5_)
      exact LeC.out
theorem spec_l2Affixes.mono : ∀ a0 k, LeO (spec_l2Affixes.f k a0) (spec_l2Affixes.f (k + 1) a0) := by
  intro a0 k
  obtain ⟨ih0, ih1⟩ := spec_l2Affixes.mono_l k
  unfold spec_l2Affixes.f
  have I0_ := fun x0_ x1_ => LeC.mk (ih0 x0_ x1_)
  have I1_ := fun x0_ x1_ x2_ => LeC.mk (ih1 x0_ x1_ x2_)
  have I2_ := fun x0_ x1_ x2_ x3_ x4_ x5_ => LeC.mk (spec_AffixOk.mono x0_ x1_ x2_ x3_ x4_ x5_)
  exact LeC.out
set_option maxHeartbeats 8000000 in
set_option maxRecDepth 100000 in
theorem spec_l2Affixes.calls (k : Nat) (A0 : Option Addr) (c0 : Nat) (l0 : List (S46)) (r : Bool) (w : World) (hr0 : Kd.C k46 w A0 l0.length l0) (hc0 : l0.length ≤ c0) (h : spec_l2Affixes.f k l0 = some r) :
    Calls Tryd.prog 39 #[.slice A0 l0.length c0] w fun e w' => e = .returned (.bool r) ∧ Below w.heap.size w w' := by
  have hu46 := Tryd.underlying46
  have HR0 := Aside0.mk hr0
  have HC0 := Aside0.mk hc0
  clear hr0 hc0
  have HB := Aside0.mk (Below.refl w.heap.size w)
  unfold spec_l2Affixes.f at h
  have H := h
  clear h
  have H' := Aside0.mk H
  clear H
  go_enter Tryd.func39, Tryd.ntmps39
  go_wp2
  repeat (go_quiet (fail); try go_wp2)
  go_loopg [3] k (fun kq v3 w' => ∃ (x3_1 : Int), v3 = .int .i64 x3_1 ∧ Aside0 (spec_l2Affixes.l0 kq l0 x3_1 = some r) ∧ Aside0 (kq ≤ k) ∧ Aside0 (Below w.heap.size w w'))
  case atStart => exact ⟨(0), (by first | rfl | (simp; done) | (simp [*]; done)), H', ⟨Nat.le_refl _⟩, ⟨bx HB.out⟩⟩
  case round =>
    clear H'
    obtain ⟨x3_1, rfl, HA, HK1, HB⟩ := hrel
    cases gk with
    | zero => exact absurd HA.out (by simp [spec_l2Affixes.l0])
    | succ k1 =>
      have H := HA.out
      clear HA
      simp only [spec_l2Affixes.l0] at H
      by_cases c2 : x3_1 < (l0.length : Int)
      · rw [if_pos c2] at H
        have c2b0 := decide_eq_true c2
        clear c2
        have c3 := ite_y H
        replace H := ite_t H
        have c3b0 := decide_eq_true c3
        clear c3
        replace H := Option.bind_eq_some_iff.mp H
        obtain ⟨t102, A40, H⟩ := H
        have A4 := Aside0.mk A40
        clear A40
        by_cases c5 : t102 = true
        · subst c5
          rw [if_pos rfl] at H
          have H' := Aside0.mk H
          clear H
          have p101 := of_decide_eq_true c3b0
          have q101 := of_decide_eq_true c2b0
          obtain ⟨ad101, e101, hx101_0, hx101_1, hx101_2, hx101_3, hx101_4⟩ := at_T46 HR0.out x3_1 p101 q101
          cases e101
          replace hx101_0 := px HB.out hx101_0
          replace hx101_1 := px HB.out hx101_1
          replace hx101_2 := px HB.out hx101_2
          replace hx101_3 := px HB.out hx101_3
          replace hx101_4 := px HB.out hx101_4
          replace p101 := eq_true p101
          replace q101 := eq_true q101
          go_wp2_with (first | (go_at_call 65; (with_reducible refine (spec_AffixOk.calls k1 ((rd_T46 l0 x3_1).f0) ((rd_T46 l0 x3_1).f1) ((rd_T46 l0 x3_1).f2) ((rd_T46 l0 x3_1).f3) ((rd_T46 l0 x3_1).f4) true _ A4.out).mono ?_); rintro e w6 ⟨rfl, hb⟩; replace HB := kB HB hb; (try clear hb); (try clear hb2); (try clear hk); (try clear hi)))
          repeat (go_quiet (first | (go_at_call 65; (with_reducible refine (spec_AffixOk.calls k1 ((rd_T46 l0 x3_1).f0) ((rd_T46 l0 x3_1).f1) ((rd_T46 l0 x3_1).f2) ((rd_T46 l0 x3_1).f3) ((rd_T46 l0 x3_1).f4) true _ A4.out).mono ?_); rintro e w6 ⟨rfl, hb⟩; replace HB := kB HB hb; (try clear hb); (try clear hb2); (try clear hk); (try clear hi))); try go_wp2_with (first | (go_at_call 65; (with_reducible refine (spec_AffixOk.calls k1 ((rd_T46 l0 x3_1).f0) ((rd_T46 l0 x3_1).f1) ((rd_T46 l0 x3_1).f2) ((rd_T46 l0 x3_1).f3) ((rd_T46 l0 x3_1).f4) true _ A4.out).mono ?_); rintro e w6 ⟨rfl, hb⟩; replace HB := kB HB hb; (try clear hb); (try clear hb2); (try clear hk); (try clear hi))))
          go_loopg [4] k1 (fun kq v4 w' => ∃ (x4_2 : Int), v4 = .int .i64 x4_2 ∧ Aside0 (spec_l2Affixes.l1 kq l0 x3_1 x4_2 = some r) ∧ Aside0 (kq ≤ k1) ∧ Aside0 (Below w.heap.size w w'))
          case atStart => exact ⟨(0), (by first | rfl | (simp; done) | (simp [*]; done)), H', ⟨Nat.le_refl _⟩, ⟨bx HB.out⟩⟩
          case round =>
            clear H'
            try clear p1
            try clear q1
            try clear hx1
            try clear c2
            try clear c2b0
            try clear p2
            try clear c3
            try clear c3b0
            try clear c5
            try clear hx101_0
            try clear hx101_1
            try clear hx101_2
            try clear hx101_3
            try clear hx101_4
            try clear p101
            try clear q101
            obtain ⟨x4_2, rfl, HA, HK2, HB⟩ := hrel
            cases gk with
            | zero => exact absurd HA.out (by simp [spec_l2Affixes.l1])
            | succ k2 =>
              have H := HA.out
              clear HA
              simp only [spec_l2Affixes.l1] at H
              by_cases c7 : x4_2 < x3_1
              · rw [if_pos c7] at H
                have c7b0 := decide_eq_true c7
                clear c7
                have c8 := ite_y H
                replace H := ite_t H
                have c8b0 := decide_eq_true c8
                clear c8
                have c9 := ite_y H
                replace H := ite_t H
                have c9b0 := decide_eq_true c9
                clear c9
                have c10 := ite_y H
                replace H := ite_t H
                have c10b0 := decide_eq_true c10
                clear c10
                have c11 := ite_y H
                replace H := ite_t H
                have c11b0 := decide_eq_true c11
                clear c11
                by_cases c12 : ((((rd_T46 l0 x4_2).f0).toList) == (((rd_T46 l0 x3_1).f0).toList) && (((rd_T46 l0 x4_2).f1) == ((rd_T46 l0 x3_1).f1) && ((((rd_T46 l0 x4_2).f2).toList) == (((rd_T46 l0 x3_1).f2).toList) && ((((rd_T46 l0 x4_2).f3).toList) == (((rd_T46 l0 x3_1).f3).toList) && ((((rd_T46 l0 x4_2).f4).toList) == (((rd_T46 l0 x3_1).f4).toList)))))) = true
                · rw [if_pos c12] at H
                  have c12b0 : ((((rd_T46 l0 x4_2).f0).toList) == (((rd_T46 l0 x3_1).f0).toList) && (((rd_T46 l0 x4_2).f1) == ((rd_T46 l0 x3_1).f1) && ((((rd_T46 l0 x4_2).f2).toList) == (((rd_T46 l0 x3_1).f2).toList) && ((((rd_T46 l0 x4_2).f3).toList) == (((rd_T46 l0 x3_1).f3).toList) && ((((rd_T46 l0 x4_2).f4).toList) == (((rd_T46 l0 x3_1).f4).toList)))))) = true := c12
                  (try (have c12b1 : decide ((((rd_T46 l0 x4_2).f0).toList) = (((rd_T46 l0 x3_1).f0).toList) && (((rd_T46 l0 x4_2).f1) == ((rd_T46 l0 x3_1).f1) && ((((rd_T46 l0 x4_2).f2).toList) == (((rd_T46 l0 x3_1).f2).toList) && ((((rd_T46 l0 x4_2).f3).toList) == (((rd_T46 l0 x3_1).f3).toList) && ((((rd_T46 l0 x4_2).f4).toList) == (((rd_T46 l0 x3_1).f4).toList)))))) = true := by simpa using c12))
                  (try (have c12b2 : ((((rd_T46 l0 x4_2).f0).toList) == (((rd_T46 l0 x3_1).f0).toList) && (((rd_T46 l0 x4_2).f1) == ((rd_T46 l0 x3_1).f1) && ((((rd_T46 l0 x4_2).f2).toList) == (((rd_T46 l0 x3_1).f2).toList) && ((((rd_T46 l0 x4_2).f3).toList) == (((rd_T46 l0 x3_1).f3).toList) && ((((rd_T46 l0 x4_2).f4).toList) == (((rd_T46 l0 x3_1).f4).toList)))))) = true := by simpa using c12))
                  clear c12
                  obtain rfl := Option.some.inj H
                  have p103 := of_decide_eq_true c8b0
                  have q103 := of_decide_eq_true c9b0
                  obtain ⟨ad103, e103, hx103_0, hx103_1, hx103_2, hx103_3, hx103_4⟩ := at_T46 HR0.out x4_2 p103 q103
                  obtain rfl : ad101 = ad103 := (by injection e103)
                  replace hx103_0 := px HB.out hx103_0
                  replace hx103_1 := px HB.out hx103_1
                  replace hx103_2 := px HB.out hx103_2
                  replace hx103_3 := px HB.out hx103_3
                  replace hx103_4 := px HB.out hx103_4
                  replace p103 := eq_true p103
                  replace q103 := eq_true q103
                  have p104 := of_decide_eq_true c10b0
                  have q104 := of_decide_eq_true c11b0
                  obtain ⟨ad104, e104, hx104_0, hx104_1, hx104_2, hx104_3, hx104_4⟩ := at_T46 HR0.out x3_1 p104 q104
                  obtain rfl : ad101 = ad104 := (by injection e104)
                  replace hx104_0 := px HB.out hx104_0
                  replace hx104_1 := px HB.out hx104_1
                  replace hx104_2 := px HB.out hx104_2
                  replace hx104_3 := px HB.out hx104_3
                  replace hx104_4 := px HB.out hx104_4
                  replace p104 := eq_true p104
                  replace q104 := eq_true q104
                  go_wp2
                  repeat (go_quiet (fail); try go_wp2)
                  go_ret
                  exact ⟨by rfl, bx HB.out⟩
                · rw [if_neg c12] at H
                  have c12b0 : ((((rd_T46 l0 x4_2).f0).toList) == (((rd_T46 l0 x3_1).f0).toList) && (((rd_T46 l0 x4_2).f1) == ((rd_T46 l0 x3_1).f1) && ((((rd_T46 l0 x4_2).f2).toList) == (((rd_T46 l0 x3_1).f2).toList) && ((((rd_T46 l0 x4_2).f3).toList) == (((rd_T46 l0 x3_1).f3).toList) && ((((rd_T46 l0 x4_2).f4).toList) == (((rd_T46 l0 x3_1).f4).toList)))))) = false := by simpa using c12
                  (try (have c12b1 : decide ((((rd_T46 l0 x4_2).f0).toList) = (((rd_T46 l0 x3_1).f0).toList) && (((rd_T46 l0 x4_2).f1) == ((rd_T46 l0 x3_1).f1) && ((((rd_T46 l0 x4_2).f2).toList) == (((rd_T46 l0 x3_1).f2).toList) && ((((rd_T46 l0 x4_2).f3).toList) == (((rd_T46 l0 x3_1).f3).toList) && ((((rd_T46 l0 x4_2).f4).toList) == (((rd_T46 l0 x3_1).f4).toList)))))) = false := by simpa using c12))
                  (try (have c12b2 : ((((rd_T46 l0 x4_2).f0).toList) == (((rd_T46 l0 x3_1).f0).toList) && (((rd_T46 l0 x4_2).f1) == ((rd_T46 l0 x3_1).f1) && ((((rd_T46 l0 x4_2).f2).toList) == (((rd_T46 l0 x3_1).f2).toList) && ((((rd_T46 l0 x4_2).f3).toList) == (((rd_T46 l0 x3_1).f3).toList) && ((((rd_T46 l0 x4_2).f4).toList) == (((rd_T46 l0 x3_1).f4).toList)))))) = false := by simpa using c12))
                  (try (have c12b3 : ¬ ((((rd_T46 l0 x4_2).f0).toList) = (((rd_T46 l0 x3_1).f0).toList) && (((rd_T46 l0 x4_2).f1) == ((rd_T46 l0 x3_1).f1) && ((((rd_T46 l0 x4_2).f2).toList) == (((rd_T46 l0 x3_1).f2).toList) && ((((rd_T46 l0 x4_2).f3).toList) == (((rd_T46 l0 x3_1).f3).toList) && ((((rd_T46 l0 x4_2).f4).toList) == (((rd_T46 l0 x3_1).f4).toList)))))) := by simpa using c12))
                  clear c12
                  have H' := Aside0.mk H
                  clear H
                  have p103 := of_decide_eq_true c8b0
                  have q103 := of_decide_eq_true c9b0
                  obtain ⟨ad103, e103, hx103_0, hx103_1, hx103_2, hx103_3, hx103_4⟩ := at_T46 HR0.out x4_2 p103 q103
                  obtain rfl : ad101 = ad103 := (by injection e103)
                  replace hx103_0 := px HB.out hx103_0
                  replace hx103_1 := px HB.out hx103_1
                  replace hx103_2 := px HB.out hx103_2
                  replace hx103_3 := px HB.out hx103_3
                  replace hx103_4 := px HB.out hx103_4
                  replace p103 := eq_true p103
                  replace q103 := eq_true q103
                  have p104 := of_decide_eq_true c10b0
                  have q104 := of_decide_eq_true c11b0
                  obtain ⟨ad104, e104, hx104_0, hx104_1, hx104_2, hx104_3, hx104_4⟩ := at_T46 HR0.out x3_1 p104 q104
                  obtain rfl : ad101 = ad104 := (by injection e104)
                  replace hx104_0 := px HB.out hx104_0
                  replace hx104_1 := px HB.out hx104_1
                  replace hx104_2 := px HB.out hx104_2
                  replace hx104_3 := px HB.out hx104_3
                  replace hx104_4 := px HB.out hx104_4
                  replace p104 := eq_true p104
                  replace q104 := eq_true q104
                  go_wp2
                  repeat (go_quiet (fail); try go_wp2)
                  go_roundg k2
                  case measure => have := HK1.out; have := HK2.out; omega
                  case rel => exact ⟨(wrap64 (x4_2 + 1)), (by first | rfl | (simp; done) | (simp [*]; done)), H', ⟨by have := HK1.out; have := HK2.out; omega⟩, ⟨bx HB.out⟩⟩
              · rw [if_neg c7] at H
                have c7b0 := decide_eq_false c7
                clear c7
                have H' := Aside0.mk H
                clear H
                go_wp2
                repeat (go_quiet (fail); try go_wp2)
                go_roundg k2
                case measure => have := HK1.out; have := HK2.out; omega
                case rel => exact ⟨(wrap64 (x3_1 + 1)), (by first | rfl | (simp; done) | (simp [*]; done)), H', ⟨by have := HK1.out; have := HK2.out; omega⟩, ⟨bx HB.out⟩⟩
        · replace c5 := Bool.eq_false_iff.mpr c5
          subst c5
          rw [if_neg Bool.false_ne_true] at H
          obtain rfl := Option.some.inj H
          have p101 := of_decide_eq_true c3b0
          have q101 := of_decide_eq_true c2b0
          obtain ⟨ad101, e101, hx101_0, hx101_1, hx101_2, hx101_3, hx101_4⟩ := at_T46 HR0.out x3_1 p101 q101
          cases e101
          replace hx101_0 := px HB.out hx101_0
          replace hx101_1 := px HB.out hx101_1
          replace hx101_2 := px HB.out hx101_2
          replace hx101_3 := px HB.out hx101_3
          replace hx101_4 := px HB.out hx101_4
          replace p101 := eq_true p101
          replace q101 := eq_true q101
          go_wp2_with (first | (go_at_call 65; (with_reducible refine (spec_AffixOk.calls k1 ((rd_T46 l0 x3_1).f0) ((rd_T46 l0 x3_1).f1) ((rd_T46 l0 x3_1).f2) ((rd_T46 l0 x3_1).f3) ((rd_T46 l0 x3_1).f4) false _ A4.out).mono ?_); rintro e w13 ⟨rfl, hb⟩; replace HB := kB HB hb; (try clear hb); (try clear hb2); (try clear hk); (try clear hi)))
          repeat (go_quiet (first | (go_at_call 65; (with_reducible refine (spec_AffixOk.calls k1 ((rd_T46 l0 x3_1).f0) ((rd_T46 l0 x3_1).f1) ((rd_T46 l0 x3_1).f2) ((rd_T46 l0 x3_1).f3) ((rd_T46 l0 x3_1).f4) false _ A4.out).mono ?_); rintro e w13 ⟨rfl, hb⟩; replace HB := kB HB hb; (try clear hb); (try clear hb2); (try clear hk); (try clear hi))); try go_wp2_with (first | (go_at_call 65; (with_reducible refine (spec_AffixOk.calls k1 ((rd_T46 l0 x3_1).f0) ((rd_T46 l0 x3_1).f1) ((rd_T46 l0 x3_1).f2) ((rd_T46 l0 x3_1).f3) ((rd_T46 l0 x3_1).f4) false _ A4.out).mono ?_); rintro e w13 ⟨rfl, hb⟩; replace HB := kB HB hb; (try clear hb); (try clear hb2); (try clear hk); (try clear hi))))
          go_ret
          exact ⟨by rfl, bx HB.out⟩
      · rw [if_neg c2] at H
        have c2b0 := decide_eq_false c2
        clear c2
        obtain rfl := Option.some.inj H
        go_wp2
        repeat (go_quiet (fail); try go_wp2)
        go_ret
        exact ⟨by rfl, bx HB.out⟩
end Go.Proofs.YtabindnaedchgaaDoor.M
end

section
-- Printed for this claim by a program (mprint.py) that uses the kit's print; Lean checks it.
namespace Go.Proofs.YtabindnaedchgaaDoor.M
open Go.RowKit Go.Proofs.YtabindnaedchgaaDoorW.PrintWords Go.Proofs.YtabindnaedchgaaDoorW.PrintLast Go.Proofs.YtabindnaedchgaaDoorW.PrintMore Go.Proofs.YtabindnaedchgaaDoor.Sq
set_option synthInstance.maxHeartbeats 2000000
set_option synthInstance.maxSize 4096
attribute [local go_sem] max2_int min2_int max_two min_two max_three min_three max_four min_four   -- for this text's walks alone
set_option linter.unusedVariables false
set_option linter.unusedSimpArgs false
theorem gf69 : Go_ Tryd.prog 69 Tryd.f69 := ⟨Tryd.func69, by kernel_rfl, rfl⟩
def spec_l2Entry.l0 : Nat → Int → ByteArray → ByteArray → Option (Bool)
  | 0, _, _, _ => none
  | k + 1, x3, x102000, x102001 => if x3 < (x102001.size : Int) then (if 0 ≤ x3 then (if x3 ≤ (wrap64 (x3 + 1)) then (if (wrap64 (x3 + 1)) ≤ (x102001.size : Int) then ((spec_l2Flag.f (x102001.extract (x3 : Int).toNat ((wrap64 (x3 + 1)) : Int).toNat)).bind fun t102 => (if t102 = true then (if x3 > 0 then (if 0 ≤ (wrap64 (x3 - 1)) then (if (wrap64 (x3 - 1)) < (x102001.size : Int) then (if (bt x102001 (wrap64 (x3 - 1))) ≥ (bt x102001 x3) then (some false) else (spec_l2Entry.l0 k (wrap64 (x3 + 1)) x102000 x102001)) else (none)) else (none)) else (spec_l2Entry.l0 k (wrap64 (x3 + 1)) x102000 x102001)) else (some false))) else (none)) else (none)) else (none)) else ((spec_l1Word.f k x102000).bind fun t103 => (if t103 = true then (some (decide ((x102001.size : Int) ≤ 4))) else (some false)))
def spec_l2Entry.f (k : Nat) (a0_0 : ByteArray) (a0_1 : ByteArray) : Option (Bool) := spec_l2Entry.l0 k 0 a0_0 a0_1
theorem spec_l2Entry.mono_l : ∀ k, (∀ y0 y1 y2, LeO (spec_l2Entry.l0 k y0 y1 y2) (spec_l2Entry.l0 (k + 1) y0 y1 y2))
  | 0 => fun _ _ _ r h => by simp [spec_l2Entry.l0] at h
  | k + 1 => by
    have ih0 := spec_l2Entry.mono_l k
    · intro y0 y1 y2
      unfold spec_l2Entry.l0
      have I0_ := fun x0_ x1_ x2_ => LeC.mk (ih0 x0_ x1_ x2_)
      have I1_ := fun x0_ x1_ => LeC.mk (spec_l1Word.mono x0_ x1_)
      exact LeC.out
theorem spec_l2Entry.mono : ∀ a0 a1 k, LeO (spec_l2Entry.f k a0 a1) (spec_l2Entry.f (k + 1) a0 a1) := by
  intro a0 a1 k
  have ih0 := spec_l2Entry.mono_l k
  unfold spec_l2Entry.f
  have I0_ := fun x0_ x1_ x2_ => LeC.mk (ih0 x0_ x1_ x2_)
  have I1_ := fun x0_ x1_ => LeC.mk (spec_l1Word.mono x0_ x1_)
  exact LeC.out
set_option maxHeartbeats 8000000 in
set_option maxRecDepth 100000 in
theorem spec_l2Entry.calls (k : Nat) (a0_0 : ByteArray) (a0_1 : ByteArray) (r : Bool) (w : World) (h : spec_l2Entry.f k a0_0 a0_1 = some r) :
    Calls Tryd.prog 69 #[.agg #[.string a0_0, .string a0_1]] w fun e w' => e = .returned (.bool r) ∧ Below w.heap.size w w' := by
  have hu43 := Tryd.underlying43
  have HB := Aside0.mk (Below.refl w.heap.size w)
  unfold spec_l2Entry.f at h
  have H := h
  clear h
  have H' := Aside0.mk H
  clear H
  go_enter Tryd.func69, Tryd.ntmps69
  go_wp2_with (first | ((with_reducible refine gate_dst (N := 1) rfl ?_); (try (refine gate_guard (by rfl) ?_; dsimp only)); refine box_event rfl (N := 1) rfl (cs := #[.string a0_0, .string a0_1]) (t := 43) (by go_simp <;> rfl) ?_; intro gb101 hg w2 hbox hb; have BK101 := Aside0.mk (hbox); have GW101 := Le_.mk (ge_of hg HB.out); have GE101 := Le_.mk (ge_of hg HB.out); replace HB := kB HB hb; clear hb hbox hg))
  repeat (go_quiet (first | ((with_reducible refine gate_dst (N := 1) rfl ?_); (try (refine gate_guard (by rfl) ?_; dsimp only)); refine box_event rfl (N := 1) rfl (cs := #[.string a0_0, .string a0_1]) (t := 43) (by go_simp <;> rfl) ?_; intro gb101 hg w2 hbox hb; have BK101 := Aside0.mk (hbox); have GW101 := Le_.mk (ge_of hg HB.out); have GE101 := Le_.mk (ge_of hg HB.out); replace HB := kB HB hb; clear hb hbox hg)); try go_wp2_with (first | ((with_reducible refine gate_dst (N := 1) rfl ?_); (try (refine gate_guard (by rfl) ?_; dsimp only)); refine box_event rfl (N := 1) rfl (cs := #[.string a0_0, .string a0_1]) (t := 43) (by go_simp <;> rfl) ?_; intro gb101 hg w2 hbox hb; have BK101 := Aside0.mk (hbox); have GW101 := Le_.mk (ge_of hg HB.out); have GE101 := Le_.mk (ge_of hg HB.out); replace HB := kB HB hb; clear hb hbox hg)))
  go_loopg [3] k (fun kq v3 w' => ∃ (x3_1 : Int), v3 = .int .i64 x3_1 ∧ Aside0 (spec_l2Entry.l0 kq x3_1 a0_0 a0_1 = some r) ∧ Aside0 (kq ≤ k) ∧ Aside0 (w'.heap[gb101]? = some (.cells #[.string a0_0, .string a0_1] 43 (0, 0))) ∧ Aside0 (Below w.heap.size w w'))
  case atStart => exact ⟨(0), (by first | rfl | (simp; done) | (simp [*]; done)), H', ⟨Nat.le_refl _⟩, ⟨gx (BK101.out)⟩, ⟨bx HB.out⟩⟩
  case round =>
    clear H'
    try clear p2
    obtain ⟨x3_1, rfl, HA, HK1, BK101, HB⟩ := hrel
    cases gk with
    | zero => exact absurd HA.out (by simp [spec_l2Entry.l0])
    | succ k1 =>
      have H := HA.out
      clear HA
      simp only [spec_l2Entry.l0] at H
      by_cases c3 : x3_1 < (a0_1.size : Int)
      · rw [if_pos c3] at H
        have c3b0 := decide_eq_true c3
        clear c3
        have c4 := ite_y H
        replace H := ite_t H
        have c4b0 := eq_true c4
        have c4b1 := decide_eq_true c4
        clear c4
        have c5 := ite_y H
        replace H := ite_t H
        have c5w := i64_w (x3_1 + 1)
        have c5b0 := eq_true c5
        have c5b1 := decide_eq_true c5
        have c6 := ite_y H
        replace H := ite_t H
        have c6b0 := eq_true c6
        have c6b1 := decide_eq_true c6
        replace H := Option.bind_eq_some_iff.mp H
        obtain ⟨t102, A70, H⟩ := H
        have A7 := Aside0.mk A70
        clear A70
        by_cases c8 : t102 = true
        · subst c8
          rw [if_pos rfl] at H
          by_cases c9 : x3_1 > 0
          · rw [if_pos c9] at H
            have c9b0 : decide (0 < x3_1) = true := decide_eq_true c9
            clear c9
            obtain ⟨ji10, hji10⟩ : ∃ j_ : Int, (wrap64 (x3_1 - 1)) = j_ := ⟨_, rfl⟩
            replace H : (if 0 ≤ (ji10) then (if (ji10) < (a0_1.size : Int) then (if (bt a0_1 (ji10)) ≥ (bt a0_1 x3_1) then (some false) else (spec_l2Entry.l0 k1 (wrap64 (x3_1 + 1)) a0_0 a0_1)) else (none)) else (none)) = some r := by first | (rw [hji10] at H; exact H) | (simp only [hji10] at H ⊢; exact H)
            (try rw [hji10] at A7)
            have hji10w : (IntKind.i64.wrap (x3_1 - 1)) = ji10 := (i64_w _).trans hji10
            have c11 := ite_y H
            replace H := ite_t H
            have c11b0 := decide_eq_true c11
            clear c11
            have c12 := ite_y H
            replace H := ite_t H
            have c12b0 := decide_eq_true c12
            clear c12
            by_cases c15 : (bt a0_1 (ji10)) ≥ (bt a0_1 x3_1)
            · rw [if_pos c15] at H
              have c15b0 : decide ((bt a0_1 x3_1) ≤ (bt a0_1 (ji10))) = true := decide_eq_true c15
              clear c15
              obtain rfl := Option.some.inj H
              have hz16 := cells_2 BK101.out
              go_wp2_with (first | (go_at_call 83; (with_reducible refine (spec_l2Flag.calls (a0_1.extract (x3_1 : Int).toNat ((wrap64 (x3_1 + 1)) : Int).toNat) true _ A7.out).mono ?_); rintro e w' ⟨rfl, ⟨nd, rfl⟩⟩; (try first | exact ⟨rfl, _, World.drewN_drewN _ _ _⟩ | exact ⟨rfl, _, Eq.trans (World.drewN_drewN _ _ _) (congrArg (World.drewN _) (Nat.add_assoc _ _ _))⟩); have p13 := of_decide_eq_true c11b0; have q13 := of_decide_eq_true c12b0; have hx13 := bt_at a0_1 (ji10); replace p13 := eq_true p13; replace q13 := eq_true q13; have p14 := of_decide_eq_true c4b1; have q14 := of_decide_eq_true c3b0; have hx14 := bt_at a0_1 x3_1; replace p14 := eq_true p14; replace q14 := eq_true q14))
              repeat (go_quiet (first | (go_at_call 83; (with_reducible refine (spec_l2Flag.calls (a0_1.extract (x3_1 : Int).toNat ((wrap64 (x3_1 + 1)) : Int).toNat) true _ A7.out).mono ?_); rintro e w' ⟨rfl, ⟨nd, rfl⟩⟩; (try first | exact ⟨rfl, _, World.drewN_drewN _ _ _⟩ | exact ⟨rfl, _, Eq.trans (World.drewN_drewN _ _ _) (congrArg (World.drewN _) (Nat.add_assoc _ _ _))⟩); have p13 := of_decide_eq_true c11b0; have q13 := of_decide_eq_true c12b0; have hx13 := bt_at a0_1 (ji10); replace p13 := eq_true p13; replace q13 := eq_true q13; have p14 := of_decide_eq_true c4b1; have q14 := of_decide_eq_true c3b0; have hx14 := bt_at a0_1 x3_1; replace p14 := eq_true p14; replace q14 := eq_true q14)); try go_wp2_with (first | (go_at_call 83; (with_reducible refine (spec_l2Flag.calls (a0_1.extract (x3_1 : Int).toNat ((wrap64 (x3_1 + 1)) : Int).toNat) true _ A7.out).mono ?_); rintro e w' ⟨rfl, ⟨nd, rfl⟩⟩; (try first | exact ⟨rfl, _, World.drewN_drewN _ _ _⟩ | exact ⟨rfl, _, Eq.trans (World.drewN_drewN _ _ _) (congrArg (World.drewN _) (Nat.add_assoc _ _ _))⟩); have p13 := of_decide_eq_true c11b0; have q13 := of_decide_eq_true c12b0; have hx13 := bt_at a0_1 (ji10); replace p13 := eq_true p13; replace q13 := eq_true q13; have p14 := of_decide_eq_true c4b1; have q14 := of_decide_eq_true c3b0; have hx14 := bt_at a0_1 x3_1; replace p14 := eq_true p14; replace q14 := eq_true q14)))
              go_ret
              exact ⟨by first | rfl | (simp [errW_none, errW_some] <;> rfl) | (simp only [← hji10]; first | rfl | (simp [errW_none, errW_some] <;> rfl)) | (simp [*, errW_none, errW_some] <;> rfl), bx HB.out⟩
            · rw [if_neg c15] at H
              have c15b0 : decide ((bt a0_1 x3_1) ≤ (bt a0_1 (ji10))) = false := decide_eq_false c15
              clear c15
              have H' := Aside0.mk H
              clear H
              have hz17 := cells_2 BK101.out
              go_wp2_with (first | (go_at_call 83; (with_reducible refine (spec_l2Flag.calls (a0_1.extract (x3_1 : Int).toNat ((wrap64 (x3_1 + 1)) : Int).toNat) true _ A7.out).mono ?_); rintro e w' ⟨rfl, ⟨nd, rfl⟩⟩; (try first | exact ⟨rfl, _, World.drewN_drewN _ _ _⟩ | exact ⟨rfl, _, Eq.trans (World.drewN_drewN _ _ _) (congrArg (World.drewN _) (Nat.add_assoc _ _ _))⟩); have p13 := of_decide_eq_true c11b0; have q13 := of_decide_eq_true c12b0; have hx13 := bt_at a0_1 (ji10); replace p13 := eq_true p13; replace q13 := eq_true q13; have p14 := of_decide_eq_true c4b1; have q14 := of_decide_eq_true c3b0; have hx14 := bt_at a0_1 x3_1; replace p14 := eq_true p14; replace q14 := eq_true q14))
              repeat (go_quiet (first | (go_at_call 83; (with_reducible refine (spec_l2Flag.calls (a0_1.extract (x3_1 : Int).toNat ((wrap64 (x3_1 + 1)) : Int).toNat) true _ A7.out).mono ?_); rintro e w' ⟨rfl, ⟨nd, rfl⟩⟩; (try first | exact ⟨rfl, _, World.drewN_drewN _ _ _⟩ | exact ⟨rfl, _, Eq.trans (World.drewN_drewN _ _ _) (congrArg (World.drewN _) (Nat.add_assoc _ _ _))⟩); have p13 := of_decide_eq_true c11b0; have q13 := of_decide_eq_true c12b0; have hx13 := bt_at a0_1 (ji10); replace p13 := eq_true p13; replace q13 := eq_true q13; have p14 := of_decide_eq_true c4b1; have q14 := of_decide_eq_true c3b0; have hx14 := bt_at a0_1 x3_1; replace p14 := eq_true p14; replace q14 := eq_true q14)); try go_wp2_with (first | (go_at_call 83; (with_reducible refine (spec_l2Flag.calls (a0_1.extract (x3_1 : Int).toNat ((wrap64 (x3_1 + 1)) : Int).toNat) true _ A7.out).mono ?_); rintro e w' ⟨rfl, ⟨nd, rfl⟩⟩; (try first | exact ⟨rfl, _, World.drewN_drewN _ _ _⟩ | exact ⟨rfl, _, Eq.trans (World.drewN_drewN _ _ _) (congrArg (World.drewN _) (Nat.add_assoc _ _ _))⟩); have p13 := of_decide_eq_true c11b0; have q13 := of_decide_eq_true c12b0; have hx13 := bt_at a0_1 (ji10); replace p13 := eq_true p13; replace q13 := eq_true q13; have p14 := of_decide_eq_true c4b1; have q14 := of_decide_eq_true c3b0; have hx14 := bt_at a0_1 x3_1; replace p14 := eq_true p14; replace q14 := eq_true q14)))
              go_roundg k1
              case measure => have := HK1.out; omega
              case rel => exact ⟨(wrap64 (x3_1 + 1)), (by first | rfl | (simp; done) | (simp [*]; done)), H', ⟨by have := HK1.out; omega⟩, ⟨gx (BK101.out)⟩, ⟨bx HB.out⟩⟩
          · rw [if_neg c9] at H
            have c9b0 : decide (0 < x3_1) = false := decide_eq_false c9
            clear c9
            have H' := Aside0.mk H
            clear H
            have hz18 := cells_2 BK101.out
            go_wp2_with (first | (go_at_call 83; (with_reducible refine (spec_l2Flag.calls (a0_1.extract (x3_1 : Int).toNat ((wrap64 (x3_1 + 1)) : Int).toNat) true _ A7.out).mono ?_); rintro e w' ⟨rfl, ⟨nd, rfl⟩⟩; (try first | exact ⟨rfl, _, World.drewN_drewN _ _ _⟩ | exact ⟨rfl, _, Eq.trans (World.drewN_drewN _ _ _) (congrArg (World.drewN _) (Nat.add_assoc _ _ _))⟩)))
            repeat (go_quiet (first | (go_at_call 83; (with_reducible refine (spec_l2Flag.calls (a0_1.extract (x3_1 : Int).toNat ((wrap64 (x3_1 + 1)) : Int).toNat) true _ A7.out).mono ?_); rintro e w' ⟨rfl, ⟨nd, rfl⟩⟩; (try first | exact ⟨rfl, _, World.drewN_drewN _ _ _⟩ | exact ⟨rfl, _, Eq.trans (World.drewN_drewN _ _ _) (congrArg (World.drewN _) (Nat.add_assoc _ _ _))⟩))); try go_wp2_with (first | (go_at_call 83; (with_reducible refine (spec_l2Flag.calls (a0_1.extract (x3_1 : Int).toNat ((wrap64 (x3_1 + 1)) : Int).toNat) true _ A7.out).mono ?_); rintro e w' ⟨rfl, ⟨nd, rfl⟩⟩; (try first | exact ⟨rfl, _, World.drewN_drewN _ _ _⟩ | exact ⟨rfl, _, Eq.trans (World.drewN_drewN _ _ _) (congrArg (World.drewN _) (Nat.add_assoc _ _ _))⟩))))
            go_roundg k1
            case measure => have := HK1.out; omega
            case rel => exact ⟨(wrap64 (x3_1 + 1)), (by first | rfl | (simp; done) | (simp [*]; done)), H', ⟨by have := HK1.out; omega⟩, ⟨gx (BK101.out)⟩, ⟨bx HB.out⟩⟩
        · replace c8 := Bool.eq_false_iff.mpr c8
          subst c8
          rw [if_neg Bool.false_ne_true] at H
          obtain rfl := Option.some.inj H
          have hz19 := cells_2 BK101.out
          go_wp2_with (first | (go_at_call 83; (with_reducible refine (spec_l2Flag.calls (a0_1.extract (x3_1 : Int).toNat ((wrap64 (x3_1 + 1)) : Int).toNat) false _ A7.out).mono ?_); rintro e w' ⟨rfl, ⟨nd, rfl⟩⟩; (try first | exact ⟨rfl, _, World.drewN_drewN _ _ _⟩ | exact ⟨rfl, _, Eq.trans (World.drewN_drewN _ _ _) (congrArg (World.drewN _) (Nat.add_assoc _ _ _))⟩)))
          repeat (go_quiet (first | (go_at_call 83; (with_reducible refine (spec_l2Flag.calls (a0_1.extract (x3_1 : Int).toNat ((wrap64 (x3_1 + 1)) : Int).toNat) false _ A7.out).mono ?_); rintro e w' ⟨rfl, ⟨nd, rfl⟩⟩; (try first | exact ⟨rfl, _, World.drewN_drewN _ _ _⟩ | exact ⟨rfl, _, Eq.trans (World.drewN_drewN _ _ _) (congrArg (World.drewN _) (Nat.add_assoc _ _ _))⟩))); try go_wp2_with (first | (go_at_call 83; (with_reducible refine (spec_l2Flag.calls (a0_1.extract (x3_1 : Int).toNat ((wrap64 (x3_1 + 1)) : Int).toNat) false _ A7.out).mono ?_); rintro e w' ⟨rfl, ⟨nd, rfl⟩⟩; (try first | exact ⟨rfl, _, World.drewN_drewN _ _ _⟩ | exact ⟨rfl, _, Eq.trans (World.drewN_drewN _ _ _) (congrArg (World.drewN _) (Nat.add_assoc _ _ _))⟩))))
          go_ret
          exact ⟨by rfl, bx HB.out⟩
      · rw [if_neg c3] at H
        have c3b0 := decide_eq_false c3
        clear c3
        replace H := Option.bind_eq_some_iff.mp H
        obtain ⟨t103, A200, H⟩ := H
        have A20 := Aside0.mk A200
        clear A200
        by_cases c21 : t103 = true
        · subst c21
          rw [if_pos rfl] at H
          obtain rfl := Option.some.inj H
          have hz22 := cells_2 BK101.out
          go_wp2_with (first | (go_at_call 37; (with_reducible refine (spec_l1Word.calls k1 a0_0 true _ A20.out).mono ?_); rintro e w' ⟨rfl, ⟨nd, rfl⟩⟩; (try first | exact ⟨rfl, _, World.drewN_drewN _ _ _⟩ | exact ⟨rfl, _, Eq.trans (World.drewN_drewN _ _ _) (congrArg (World.drewN _) (Nat.add_assoc _ _ _))⟩)))
          repeat (go_quiet (first | (go_at_call 37; (with_reducible refine (spec_l1Word.calls k1 a0_0 true _ A20.out).mono ?_); rintro e w' ⟨rfl, ⟨nd, rfl⟩⟩; (try first | exact ⟨rfl, _, World.drewN_drewN _ _ _⟩ | exact ⟨rfl, _, Eq.trans (World.drewN_drewN _ _ _) (congrArg (World.drewN _) (Nat.add_assoc _ _ _))⟩))); try go_wp2_with (first | (go_at_call 37; (with_reducible refine (spec_l1Word.calls k1 a0_0 true _ A20.out).mono ?_); rintro e w' ⟨rfl, ⟨nd, rfl⟩⟩; (try first | exact ⟨rfl, _, World.drewN_drewN _ _ _⟩ | exact ⟨rfl, _, Eq.trans (World.drewN_drewN _ _ _) (congrArg (World.drewN _) (Nat.add_assoc _ _ _))⟩))))
          go_ret
          exact ⟨by rfl, bx HB.out⟩
        · replace c21 := Bool.eq_false_iff.mpr c21
          subst c21
          rw [if_neg Bool.false_ne_true] at H
          obtain rfl := Option.some.inj H
          have hz23 := cells_2 BK101.out
          go_wp2_with (first | (go_at_call 37; (with_reducible refine (spec_l1Word.calls k1 a0_0 false _ A20.out).mono ?_); rintro e w' ⟨rfl, ⟨nd, rfl⟩⟩; (try first | exact ⟨rfl, _, World.drewN_drewN _ _ _⟩ | exact ⟨rfl, _, Eq.trans (World.drewN_drewN _ _ _) (congrArg (World.drewN _) (Nat.add_assoc _ _ _))⟩)))
          repeat (go_quiet (first | (go_at_call 37; (with_reducible refine (spec_l1Word.calls k1 a0_0 false _ A20.out).mono ?_); rintro e w' ⟨rfl, ⟨nd, rfl⟩⟩; (try first | exact ⟨rfl, _, World.drewN_drewN _ _ _⟩ | exact ⟨rfl, _, Eq.trans (World.drewN_drewN _ _ _) (congrArg (World.drewN _) (Nat.add_assoc _ _ _))⟩))); try go_wp2_with (first | (go_at_call 37; (with_reducible refine (spec_l1Word.calls k1 a0_0 false _ A20.out).mono ?_); rintro e w' ⟨rfl, ⟨nd, rfl⟩⟩; (try first | exact ⟨rfl, _, World.drewN_drewN _ _ _⟩ | exact ⟨rfl, _, Eq.trans (World.drewN_drewN _ _ _) (congrArg (World.drewN _) (Nat.add_assoc _ _ _))⟩))))
          go_ret
          exact ⟨by rfl, bx HB.out⟩
end Go.Proofs.YtabindnaedchgaaDoor.M
end

section
-- Printed for this claim by a program (mprint.py) that uses the kit's print; Lean checks it.
namespace Go.Proofs.YtabindnaedchgaaDoor.M
open Go.RowKit Go.Proofs.YtabindnaedchgaaDoorW.PrintWords Go.Proofs.YtabindnaedchgaaDoorW.PrintLast Go.Proofs.YtabindnaedchgaaDoorW.PrintMore Go.Proofs.YtabindnaedchgaaDoor.Sq
set_option synthInstance.maxHeartbeats 2000000
set_option synthInstance.maxSize 4096
attribute [local go_sem] max2_int min2_int max_two min_two max_three min_three max_four min_four   -- for this text's walks alone
set_option linter.unusedVariables false
set_option linter.unusedSimpArgs false
theorem gf64 : Go_ Tryd.prog 64 Tryd.f64 := ⟨Tryd.func64, by kernel_rfl, rfl⟩
def spec_BookOk.l0 : Nat → Int → List (S46) → List (S43) → Option (Bool)
  | 0, _, _, _ => none
  | k + 1, x3, x102000, x102001 => if x3 < (x102001.length : Int) then (if 0 ≤ x3 then ((spec_l2Entry.f k ((rd_T43 x102001 x3).f0) ((rd_T43 x102001 x3).f1)).bind fun t103 => (if t103 = true then (if x3 > 0 then (if 0 ≤ (wrap64 (x3 - 1)) then (if (wrap64 (x3 - 1)) < (x102001.length : Int) then (if ((Op.bytesLess (((rd_T43 x102001 (wrap64 (x3 - 1))).f0).toList) (((rd_T43 x102001 x3).f0).toList)) = true) then (spec_BookOk.l0 k (wrap64 (x3 + 1)) x102000 x102001) else (some false)) else (none)) else (none)) else (spec_BookOk.l0 k (wrap64 (x3 + 1)) x102000 x102001)) else (some false))) else (none)) else ((spec_l2Affixes.f k x102000).bind fun t106 => (if t106 = true then (some (decide ((x102001.length : Int) ≤ 24))) else (some false)))
def spec_BookOk.f (k : Nat) (l0_0 : List (S46)) (l0_1 : List (S43)) : Option (Bool) := spec_BookOk.l0 k 0 l0_0 l0_1
theorem spec_BookOk.mono_l : ∀ k, (∀ y0 y1 y2, LeO (spec_BookOk.l0 k y0 y1 y2) (spec_BookOk.l0 (k + 1) y0 y1 y2))
  | 0 => fun _ _ _ r h => by simp [spec_BookOk.l0] at h
  | k + 1 => by
    have ih0 := spec_BookOk.mono_l k
    · intro y0 y1 y2
      unfold spec_BookOk.l0
      have I0_ := fun x0_ x1_ x2_ => LeC.mk (ih0 x0_ x1_ x2_)
      have I1_ := fun x0_ x1_ => LeC.mk (spec_l2Affixes.mono x0_ x1_)
      have I2_ := fun x0_ x1_ x2_ => LeC.mk (spec_l2Entry.mono x0_ x1_ x2_)
      exact LeC.out
theorem spec_BookOk.mono : ∀ a0 a1 k, LeO (spec_BookOk.f k a0 a1) (spec_BookOk.f (k + 1) a0 a1) := by
  intro a0 a1 k
  have ih0 := spec_BookOk.mono_l k
  unfold spec_BookOk.f
  have I0_ := fun x0_ x1_ x2_ => LeC.mk (ih0 x0_ x1_ x2_)
  have I1_ := fun x0_ x1_ => LeC.mk (spec_l2Affixes.mono x0_ x1_)
  have I2_ := fun x0_ x1_ x2_ => LeC.mk (spec_l2Entry.mono x0_ x1_ x2_)
  exact LeC.out
def spec_BookOk.T4 : Bool × List (List Nat × List Nat) := (true, [([], []), ([0], [0]), ([], []), ([1, 2], [1, 2]), ([3], [3]), ([4], [4]), ([5], [5]), ([6, 5], [6]), ([7], [7]), ([8, 7], [7, 8]), ([9, 7, 7], [7, 9]), ([10], [10]), ([11, 10], [10, 11]), ([10], [10]), ([13, 10], [10, 13]), ([12, 14, 10], [10, 12, 14]), ([15, 10], [10, 15]), ([16, 10], [10, 16]), ([10], [10]), ([18, 10], [10, 18]), ([10], [10]), ([19, 20, 10], [10, 19, 20]), ([21, 10], [10, 21]), ([22, 10], [10, 22]), ([17, 23, 10], [10, 17, 23]), ([10, 24, 7], [7, 10, 24]), ([7, 25], [7, 25])])
def spec_BookOk.B4 : List Nat := [0, 1, 0, 7, 15, 31, 63, 127, 255, 511, 1023, 2047, 4095, 2047, 10239, 32767, 65535, 131071, 2047, 264191, 2047, 1837055, 3934207, 8128511, 16777215, 33554431, 67108863]
theorem spec_BookOk.tab4 : rtab .any (opsOf Tryd.f64 4) = spec_BookOk.T4 := by kernel_rfl
theorem spec_BookOk.bits4 : waitsOk spec_BookOk.T4.2 spec_BookOk.B4 = true := by kernel_rfl
set_option maxHeartbeats 8000000 in
set_option maxRecDepth 100000 in
theorem spec_BookOk.calls (k : Nat) (A0_0 : Option Addr) (c0_0 : Nat) (l0_0 : List (S46)) (A0_1 : Option Addr) (c0_1 : Nat) (l0_1 : List (S43)) (r : Bool) (w : World) (hr0_0 : Kd.C k46 w A0_0 l0_0.length l0_0) (hc0_0 : l0_0.length ≤ c0_0) (hr0_1 : Kd.C k43 w A0_1 l0_1.length l0_1) (hc0_1 : l0_1.length ≤ c0_1) (h : spec_BookOk.f k l0_0 l0_1 = some r) :
    Calls Tryd.prog 64 #[.agg #[.slice A0_0 l0_0.length c0_0, .slice A0_1 l0_1.length c0_1]] w fun e w' => e = .returned (.bool r) ∧ Below w.heap.size w w' := by
  have hu63 := Tryd.underlying63
  have hu43 := Tryd.underlying43
  have HR0_0 := Aside0.mk hr0_0
  have HC0_0 := Aside0.mk hc0_0
  clear hr0_0 hc0_0
  have HR0_1 := Aside0.mk hr0_1
  have HC0_1 := Aside0.mk hc0_1
  clear hr0_1 hc0_1
  have HB := Aside0.mk (Below.refl w.heap.size w)
  unfold spec_BookOk.f at h
  have H := h
  clear h
  have H' := Aside0.mk H
  clear H
  go_enter Tryd.func64, Tryd.ntmps64
  go_wp2_with (first | ((with_reducible refine gate_dst (N := 1) rfl ?_); (try (refine gate_guard (by rfl) ?_; dsimp only)); refine box_event rfl (N := 1) rfl (cs := #[.slice A0_0 l0_0.length c0_0, .slice A0_1 l0_1.length c0_1]) (t := 63) (by go_simp <;> rfl) ?_; intro gb101 hg w2 hbox hb; have BK101 := Aside0.mk (hbox); have GW101 := Le_.mk (ge_of hg HB.out); have GE101 := Le_.mk (ge_of hg HB.out); replace HB := kB HB hb; clear hb hbox hg))
  go_loopg [3] k (fun kq v3 w' => ∃ (x3_1 : Int), v3 = .int .i64 x3_1 ∧ Aside0 (spec_BookOk.l0 kq x3_1 l0_0 l0_1 = some r) ∧ Aside0 (kq ≤ k) ∧ Aside0 (w'.heap[gb101]? = some (.cells #[(.slice A0_0 l0_0.length c0_0), (.slice A0_1 l0_1.length c0_1)] 63 (0, 0))) ∧ Aside0 (Below w.heap.size w w'))
  case atStart => exact ⟨(0), (by first | rfl | (simp; done) | (simp [*]; done)), H', ⟨Nat.le_refl _⟩, ⟨gx (BK101.out)⟩, ⟨bx HB.out⟩⟩
  case round =>
    clear H'
    try clear p2
    obtain ⟨x3_1, rfl, HA, HK1, BK101, HB⟩ := hrel
    cases gk with
    | zero => exact absurd HA.out (by simp [spec_BookOk.l0])
    | succ k1 =>
      have H := HA.out
      clear HA
      simp only [spec_BookOk.l0] at H
      by_cases c3 : x3_1 < (l0_1.length : Int)
      · rw [if_pos c3] at H
        have c3b0 := decide_eq_true c3
        clear c3
        have c4 := ite_y H
        replace H := ite_t H
        have c4b0 := decide_eq_true c4
        clear c4
        replace H := Option.bind_eq_some_iff.mp H
        obtain ⟨t103, A50, H⟩ := H
        have A5 := Aside0.mk A50
        clear A50
        by_cases c6 : t103 = true
        · subst c6
          rw [if_pos rfl] at H
          by_cases c7 : x3_1 > 0
          · rw [if_pos c7] at H
            have c7b0 : decide (0 < x3_1) = true := decide_eq_true c7
            clear c7
            obtain ⟨ji8, hji8⟩ : ∃ j_ : Int, (wrap64 (x3_1 - 1)) = j_ := ⟨_, rfl⟩
            replace H : (if 0 ≤ (ji8) then (if (ji8) < (l0_1.length : Int) then (if ((Op.bytesLess (((rd_T43 l0_1 (ji8)).f0).toList) (((rd_T43 l0_1 x3_1).f0).toList)) = true) then (spec_BookOk.l0 k1 (wrap64 (x3_1 + 1)) l0_0 l0_1) else (some false)) else (none)) else (none)) = some r := by first | (rw [hji8] at H; exact H) | (simp only [hji8] at H ⊢; exact H)
            (try rw [hji8] at A5)
            have hji8w : (IntKind.i64.wrap (x3_1 - 1)) = ji8 := (i64_w _).trans hji8
            have c9 := ite_y H
            replace H := ite_t H
            have c9b0 := decide_eq_true c9
            clear c9
            have c10 := ite_y H
            replace H := ite_t H
            have c10b0 := decide_eq_true c10
            clear c10
            by_cases c11 : ((Op.bytesLess (((rd_T43 l0_1 (ji8)).f0).toList) (((rd_T43 l0_1 x3_1).f0).toList)) = true)
            · rw [if_pos c11] at H
              have c11b0 : (Op.bytesLess (((rd_T43 l0_1 (ji8)).f0).toList) (((rd_T43 l0_1 x3_1).f0).toList)) = true := c11
              clear c11
              have H' := Aside0.mk H
              clear H
              have hz12 := cells_2 BK101.out
              try go_wp2
              replace BK101 := Aside0.mk (blk_drew BK101.out)
              replace HB := Aside0.mk (below_drew1 HB.out)
              have p102 := of_decide_eq_true c4b0
              have q102 := of_decide_eq_true c3b0
              obtain ⟨ad102, e102, hx102_0, hx102_1⟩ := at_T43 HR0_1.out x3_1 p102 q102
              have hw102_1 := hx102_1
              have hw102_0 := hx102_0
              cases e102
              replace hx102_0 := px HB.out hx102_0
              replace hx102_1 := px HB.out hx102_1
              replace p102 := eq_true p102
              replace q102 := eq_true q102
              have p104 := of_decide_eq_true c9b0
              have q104 := of_decide_eq_true c10b0
              obtain ⟨ad104, e104, hx104_0, hx104_1⟩ := at_T43 HR0_1.out (ji8) p104 q104
              have hw104_1 := hx104_1
              have hw104_0 := hx104_0
              obtain rfl : ad102 = ad104 := (by injection e104)
              replace hx104_0 := px HB.out hx104_0
              replace hx104_1 := px HB.out hx104_1
              replace p104 := eq_true p104
              replace q104 := eq_true q104
              have p105 := of_decide_eq_true c4b0
              have q105 := of_decide_eq_true c3b0
              obtain ⟨ad105, e105, hx105_0, hx105_1⟩ := at_T43 HR0_1.out x3_1 p105 q105
              have hw105_1 := hx105_1
              have hw105_0 := hx105_0
              obtain rfl : ad102 = ad105 := (by injection e105)
              replace hx105_0 := px HB.out hx105_0
              replace hx105_1 := px HB.out hx105_1
              replace p105 := eq_true p105
              replace q105 := eq_true q105
              refine start_ (n := 27) (S := fun w' => w'.cell? ⟨gb101, 0, none⟩ = some (.slice A0_0 l0_0.length c0_0) ∧ w'.cell? ⟨gb101, 1, none⟩ = some (.slice (some ad102) l0_1.length c0_1) ∧ w'.cell? (ad102.add ((x3_1).toNat * 2)) = some (.string ((rd_T43 l0_1 x3_1).f0)) ∧ w'.cell? ⟨(ad102.add ((x3_1).toNat * 2)).block, (ad102.add ((x3_1).toNat * 2)).off + 1, none⟩ = some (.string ((rd_T43 l0_1 x3_1).f1)) ∧ w'.cell? (ad102.add (((ji8)).toNat * 2)) = some (.string ((rd_T43 l0_1 (ji8)).f0)) ∧ w'.cell? ⟨(ad102.add (((ji8)).toNat * 2)).block, (ad102.add (((ji8)).toNat * 2)).off + 1, none⟩ = some (.string ((rd_T43 l0_1 (ji8)).f1)) ∧ w'.cell? (ad102.add ((x3_1).toNat * 2)) = some (.string ((rd_T43 l0_1 x3_1).f0)) ∧ w'.cell? ⟨(ad102.add ((x3_1).toNat * 2)).block, (ad102.add ((x3_1).toNat * 2)).off + 1, none⟩ = some (.string ((rd_T43 l0_1 x3_1).f1))) (ds := []) _ (by kernel_rfl) rfl rfl ⟨(blk_cell BK101.out 0).trans rfl, (blk_cell BK101.out 1).trans rfl, (px HB.out hw102_0), (px HB.out hw102_1), (px HB.out hw104_0), (px HB.out hw104_1), (px HB.out hw105_0), (px HB.out hw105_1)⟩ (fun hHeld => ?_); refine with_tabW spec_BookOk.tab4 spec_BookOk.bits4 (fun HT_ HW_ => ?_)
              generalize wr.drew = w13 at BK101 HB hx102_0 hx102_1 hx104_0 hx104_1 hx105_0 hx105_1 hHeld ⊢
              refine ord_ [.p 0 11, .p 2 13, .t 1 12, .p 3 14, .t 4 15] ?_
              repeat (first | (refine pu_ (v := ?_) (a' := ?_) HT_ rfl rfl (by kernel_rfl) (fun _ _ _ h => h) (by rfl) ?_ ?_ ?_; rotate_left 2; (intro w'; go_simp; with_reducible rfl); (simp only [Act.put, List.setIfInBounds_toArray, List.set_cons_zero, List.set_cons_succ, i64_w, i32_w]; rfl)) | (refine ta_ (v := ?_) (a' := ?_) HT_ HW_ rfl rfl (by kernel_rfl) (fun _ _ _ h => h) (by rfl) hHeld ?_ ?_ ?_; rotate_left 2; (rintro w' ⟨s0, s1, s2, s3, s4, s5, s6, s7⟩; go_simp; with_reducible rfl); (simp only [Act.put, List.setIfInBounds_toArray, List.set_cons_zero, List.set_cons_succ, i64_w, i32_w]; rfl)))
              refine ord0 ?_
              refine on_ (i := 5) (N := some 16) HT_ rfl rfl (by kernel_rfl) (by decide) (fun K hK => ?_)
              refine goM gf69 #[.agg #[.string ((rd_T43 l0_1 x3_1).f0), .string ((rd_T43 l0_1 x3_1).f1)]] (by rfl) rfl rfl rfl ?_
              with_reducible refine (spec_l2Entry.calls k1 ((rd_T43 l0_1 x3_1).f0) ((rd_T43 l0_1 x3_1).f1) true _ A5.out).mono ?_
              rintro e w14 ⟨rfl, hb⟩
              refine ⟨_, rfl, ?_⟩
              replace BK101 := kb BK101 hb
              replace HB := kB HB hb
              (try clear hb)
              (try clear hb2)
              (try clear hk)
              (try clear hi)
              refine hK.out _ _ ⟨(blk_cell BK101.out 0).trans rfl, (blk_cell BK101.out 1).trans rfl, (px HB.out hw102_0), (px HB.out hw102_1), (px HB.out hw104_0), (px HB.out hw104_1), (px HB.out hw105_0), (px HB.out hw105_1)⟩ (fun hHeld => ?_)
              clear hK K
              refine norm_ (a' := ?_) ?_ ?_
              rotate_left
              · show Act.put _ (some 16) _ = _
                simp only [Act.put, List.setIfInBounds_toArray, List.set_cons_zero, List.set_cons_succ, i64_w, i32_w]
                rfl
              refine ord_ [.p 6 17, .p 7 18, .p 8 19, .p 9 20, .p 10 21, .p 11 22, .p 13 24, .p 14 25, .p 18 29, .p 20 31, .t 12 23, .p 15 26, .p 16 27, .t 17 28, .t 19 30, .p 21 32, .p 22 33, .t 23 34, .p 24 35, .p 25 36, .p 26 37] ?_
              repeat (first | (refine pu_ (v := ?_) (a' := ?_) HT_ rfl rfl (by kernel_rfl) (fun _ _ _ h => h) (by rfl) ?_ ?_ ?_; rotate_left 2; (intro w'; go_simp; with_reducible rfl); (simp only [Act.put, List.setIfInBounds_toArray, List.set_cons_zero, List.set_cons_succ, i64_w, i32_w]; rfl)) | (refine ta_ (v := ?_) (a' := ?_) HT_ HW_ rfl rfl (by kernel_rfl) (fun _ _ _ h => h) (by rfl) hHeld ?_ ?_ ?_; rotate_left 2; (rintro w' ⟨s0, s1, s2, s3, s4, s5, s6, s7⟩; go_simp; with_reducible rfl); (simp only [Act.put, List.setIfInBounds_toArray, List.set_cons_zero, List.set_cons_succ, i64_w, i32_w]; rfl)))
              refine ord0 ?_
              refine done_ (done_of HT_.out (by kernel_rfl)) ?_
              try go_wp2
              go_roundg k1
              case measure => have := HK1.out; omega
              case rel => exact ⟨(wrap64 (x3_1 + 1)), (by first | rfl | (simp; done) | (simp [*]; done)), H', ⟨by have := HK1.out; omega⟩, ⟨gx (BK101.out)⟩, ⟨bx HB.out⟩⟩
            · rw [if_neg c11] at H
              have c11b0 : (Op.bytesLess (((rd_T43 l0_1 (ji8)).f0).toList) (((rd_T43 l0_1 x3_1).f0).toList)) = false := by simpa using c11
              clear c11
              obtain rfl := Option.some.inj H
              have hz15 := cells_2 BK101.out
              try go_wp2
              replace BK101 := Aside0.mk (blk_drew BK101.out)
              replace HB := Aside0.mk (below_drew1 HB.out)
              have p102 := of_decide_eq_true c4b0
              have q102 := of_decide_eq_true c3b0
              obtain ⟨ad102, e102, hx102_0, hx102_1⟩ := at_T43 HR0_1.out x3_1 p102 q102
              have hw102_1 := hx102_1
              have hw102_0 := hx102_0
              cases e102
              replace hx102_0 := px HB.out hx102_0
              replace hx102_1 := px HB.out hx102_1
              replace p102 := eq_true p102
              replace q102 := eq_true q102
              have p104 := of_decide_eq_true c9b0
              have q104 := of_decide_eq_true c10b0
              obtain ⟨ad104, e104, hx104_0, hx104_1⟩ := at_T43 HR0_1.out (ji8) p104 q104
              have hw104_1 := hx104_1
              have hw104_0 := hx104_0
              obtain rfl : ad102 = ad104 := (by injection e104)
              replace hx104_0 := px HB.out hx104_0
              replace hx104_1 := px HB.out hx104_1
              replace p104 := eq_true p104
              replace q104 := eq_true q104
              have p105 := of_decide_eq_true c4b0
              have q105 := of_decide_eq_true c3b0
              obtain ⟨ad105, e105, hx105_0, hx105_1⟩ := at_T43 HR0_1.out x3_1 p105 q105
              have hw105_1 := hx105_1
              have hw105_0 := hx105_0
              obtain rfl : ad102 = ad105 := (by injection e105)
              replace hx105_0 := px HB.out hx105_0
              replace hx105_1 := px HB.out hx105_1
              replace p105 := eq_true p105
              replace q105 := eq_true q105
              refine start_ (n := 27) (S := fun w' => w'.cell? ⟨gb101, 0, none⟩ = some (.slice A0_0 l0_0.length c0_0) ∧ w'.cell? ⟨gb101, 1, none⟩ = some (.slice (some ad102) l0_1.length c0_1) ∧ w'.cell? (ad102.add ((x3_1).toNat * 2)) = some (.string ((rd_T43 l0_1 x3_1).f0)) ∧ w'.cell? ⟨(ad102.add ((x3_1).toNat * 2)).block, (ad102.add ((x3_1).toNat * 2)).off + 1, none⟩ = some (.string ((rd_T43 l0_1 x3_1).f1)) ∧ w'.cell? (ad102.add (((ji8)).toNat * 2)) = some (.string ((rd_T43 l0_1 (ji8)).f0)) ∧ w'.cell? ⟨(ad102.add (((ji8)).toNat * 2)).block, (ad102.add (((ji8)).toNat * 2)).off + 1, none⟩ = some (.string ((rd_T43 l0_1 (ji8)).f1)) ∧ w'.cell? (ad102.add ((x3_1).toNat * 2)) = some (.string ((rd_T43 l0_1 x3_1).f0)) ∧ w'.cell? ⟨(ad102.add ((x3_1).toNat * 2)).block, (ad102.add ((x3_1).toNat * 2)).off + 1, none⟩ = some (.string ((rd_T43 l0_1 x3_1).f1))) (ds := []) _ (by kernel_rfl) rfl rfl ⟨(blk_cell BK101.out 0).trans rfl, (blk_cell BK101.out 1).trans rfl, (px HB.out hw102_0), (px HB.out hw102_1), (px HB.out hw104_0), (px HB.out hw104_1), (px HB.out hw105_0), (px HB.out hw105_1)⟩ (fun hHeld => ?_); refine with_tabW spec_BookOk.tab4 spec_BookOk.bits4 (fun HT_ HW_ => ?_)
              generalize wr.drew = w16 at BK101 HB hx102_0 hx102_1 hx104_0 hx104_1 hx105_0 hx105_1 hHeld ⊢
              refine ord_ [.p 0 11, .p 2 13, .t 1 12, .p 3 14, .t 4 15] ?_
              repeat (first | (refine pu_ (v := ?_) (a' := ?_) HT_ rfl rfl (by kernel_rfl) (fun _ _ _ h => h) (by rfl) ?_ ?_ ?_; rotate_left 2; (intro w'; go_simp; with_reducible rfl); (simp only [Act.put, List.setIfInBounds_toArray, List.set_cons_zero, List.set_cons_succ, i64_w, i32_w]; rfl)) | (refine ta_ (v := ?_) (a' := ?_) HT_ HW_ rfl rfl (by kernel_rfl) (fun _ _ _ h => h) (by rfl) hHeld ?_ ?_ ?_; rotate_left 2; (rintro w' ⟨s0, s1, s2, s3, s4, s5, s6, s7⟩; go_simp; with_reducible rfl); (simp only [Act.put, List.setIfInBounds_toArray, List.set_cons_zero, List.set_cons_succ, i64_w, i32_w]; rfl)))
              refine ord0 ?_
              refine on_ (i := 5) (N := some 16) HT_ rfl rfl (by kernel_rfl) (by decide) (fun K hK => ?_)
              refine goM gf69 #[.agg #[.string ((rd_T43 l0_1 x3_1).f0), .string ((rd_T43 l0_1 x3_1).f1)]] (by rfl) rfl rfl rfl ?_
              with_reducible refine (spec_l2Entry.calls k1 ((rd_T43 l0_1 x3_1).f0) ((rd_T43 l0_1 x3_1).f1) true _ A5.out).mono ?_
              rintro e w17 ⟨rfl, hb⟩
              refine ⟨_, rfl, ?_⟩
              replace BK101 := kb BK101 hb
              replace HB := kB HB hb
              (try clear hb)
              (try clear hb2)
              (try clear hk)
              (try clear hi)
              refine hK.out _ _ ⟨(blk_cell BK101.out 0).trans rfl, (blk_cell BK101.out 1).trans rfl, (px HB.out hw102_0), (px HB.out hw102_1), (px HB.out hw104_0), (px HB.out hw104_1), (px HB.out hw105_0), (px HB.out hw105_1)⟩ (fun hHeld => ?_)
              clear hK K
              refine norm_ (a' := ?_) ?_ ?_
              rotate_left
              · show Act.put _ (some 16) _ = _
                simp only [Act.put, List.setIfInBounds_toArray, List.set_cons_zero, List.set_cons_succ, i64_w, i32_w]
                rfl
              refine ord_ [.p 6 17, .p 7 18, .p 8 19, .p 9 20, .p 10 21, .p 11 22, .p 13 24, .p 14 25, .p 18 29, .p 20 31, .t 12 23, .p 15 26, .p 16 27, .t 17 28, .t 19 30, .p 21 32, .p 22 33, .t 23 34, .p 24 35, .p 25 36, .p 26 37] ?_
              repeat (first | (refine pu_ (v := ?_) (a' := ?_) HT_ rfl rfl (by kernel_rfl) (fun _ _ _ h => h) (by rfl) ?_ ?_ ?_; rotate_left 2; (intro w'; go_simp; with_reducible rfl); (simp only [Act.put, List.setIfInBounds_toArray, List.set_cons_zero, List.set_cons_succ, i64_w, i32_w]; rfl)) | (refine ta_ (v := ?_) (a' := ?_) HT_ HW_ rfl rfl (by kernel_rfl) (fun _ _ _ h => h) (by rfl) hHeld ?_ ?_ ?_; rotate_left 2; (rintro w' ⟨s0, s1, s2, s3, s4, s5, s6, s7⟩; go_simp; with_reducible rfl); (simp only [Act.put, List.setIfInBounds_toArray, List.set_cons_zero, List.set_cons_succ, i64_w, i32_w]; rfl)))
              refine ord0 ?_
              refine done_ (done_of HT_.out (by kernel_rfl)) ?_
              try go_wp2
              go_ret
              exact ⟨by first | rfl | (simp [errW_none, errW_some] <;> rfl) | (simp only [← hji8]; first | rfl | (simp [errW_none, errW_some] <;> rfl)) | (simp [*, errW_none, errW_some] <;> rfl), bx HB.out⟩
          · rw [if_neg c7] at H
            have c7b0 : decide (0 < x3_1) = false := decide_eq_false c7
            clear c7
            have H' := Aside0.mk H
            clear H
            have hz18 := cells_2 BK101.out
            try go_wp2
            replace BK101 := Aside0.mk (blk_drew BK101.out)
            replace HB := Aside0.mk (below_drew1 HB.out)
            have p102 := of_decide_eq_true c4b0
            have q102 := of_decide_eq_true c3b0
            obtain ⟨ad102, e102, hx102_0, hx102_1⟩ := at_T43 HR0_1.out x3_1 p102 q102
            have hw102_1 := hx102_1
            have hw102_0 := hx102_0
            cases e102
            replace hx102_0 := px HB.out hx102_0
            replace hx102_1 := px HB.out hx102_1
            replace p102 := eq_true p102
            replace q102 := eq_true q102
            refine start_ (n := 27) (S := fun w' => w'.cell? ⟨gb101, 0, none⟩ = some (.slice A0_0 l0_0.length c0_0) ∧ w'.cell? ⟨gb101, 1, none⟩ = some (.slice (some ad102) l0_1.length c0_1) ∧ w'.cell? (ad102.add ((x3_1).toNat * 2)) = some (.string ((rd_T43 l0_1 x3_1).f0)) ∧ w'.cell? ⟨(ad102.add ((x3_1).toNat * 2)).block, (ad102.add ((x3_1).toNat * 2)).off + 1, none⟩ = some (.string ((rd_T43 l0_1 x3_1).f1))) (ds := []) _ (by kernel_rfl) rfl rfl ⟨(blk_cell BK101.out 0).trans rfl, (blk_cell BK101.out 1).trans rfl, (px HB.out hw102_0), (px HB.out hw102_1)⟩ (fun hHeld => ?_); refine with_tabW spec_BookOk.tab4 spec_BookOk.bits4 (fun HT_ HW_ => ?_)
            generalize wr.drew = w19 at BK101 HB hx102_0 hx102_1 hHeld ⊢
            refine ord_ [.p 0 11, .p 2 13, .t 1 12, .p 3 14, .t 4 15] ?_
            repeat (first | (refine pu_ (v := ?_) (a' := ?_) HT_ rfl rfl (by kernel_rfl) (fun _ _ _ h => h) (by rfl) ?_ ?_ ?_; rotate_left 2; (intro w'; go_simp; with_reducible rfl); (simp only [Act.put, List.setIfInBounds_toArray, List.set_cons_zero, List.set_cons_succ, i64_w, i32_w]; rfl)) | (refine ta_ (v := ?_) (a' := ?_) HT_ HW_ rfl rfl (by kernel_rfl) (fun _ _ _ h => h) (by rfl) hHeld ?_ ?_ ?_; rotate_left 2; (rintro w' ⟨s0, s1, s2, s3⟩; go_simp; with_reducible rfl); (simp only [Act.put, List.setIfInBounds_toArray, List.set_cons_zero, List.set_cons_succ, i64_w, i32_w]; rfl)))
            refine ord0 ?_
            refine on_ (i := 5) (N := some 16) HT_ rfl rfl (by kernel_rfl) (by decide) (fun K hK => ?_)
            refine goM gf69 #[.agg #[.string ((rd_T43 l0_1 x3_1).f0), .string ((rd_T43 l0_1 x3_1).f1)]] (by rfl) rfl rfl rfl ?_
            with_reducible refine (spec_l2Entry.calls k1 ((rd_T43 l0_1 x3_1).f0) ((rd_T43 l0_1 x3_1).f1) true _ A5.out).mono ?_
            rintro e w20 ⟨rfl, hb⟩
            refine ⟨_, rfl, ?_⟩
            replace BK101 := kb BK101 hb
            replace HB := kB HB hb
            (try clear hb)
            (try clear hb2)
            (try clear hk)
            (try clear hi)
            refine hK.out _ _ ⟨(blk_cell BK101.out 0).trans rfl, (blk_cell BK101.out 1).trans rfl, (px HB.out hw102_0), (px HB.out hw102_1)⟩ (fun hHeld => ?_)
            clear hK K
            refine norm_ (a' := ?_) ?_ ?_
            rotate_left
            · show Act.put _ (some 16) _ = _
              simp only [Act.put, List.setIfInBounds_toArray, List.set_cons_zero, List.set_cons_succ, i64_w, i32_w]
              rfl
            refine ord_ [.p 6 17, .p 7 18, .p 8 19, .p 9 20, .p 10 21, .u 11 22, .u 12 23, .u 13 24, .u 14 25, .u 15 26, .u 16 27, .u 17 28, .u 18 29, .u 19 30, .u 20 31, .u 21 32, .u 22 33, .u 23 34, .u 24 35, .p 25 36, .p 26 37] ?_
            repeat (first | (refine pu_ (v := ?_) (a' := ?_) HT_ rfl rfl (by kernel_rfl) (fun _ _ _ h => h) (by rfl) ?_ ?_ ?_; rotate_left 2; (intro w'; go_simp; with_reducible rfl); (simp only [Act.put, List.setIfInBounds_toArray, List.set_cons_zero, List.set_cons_succ, i64_w, i32_w]; rfl)) | (refine un_ (a' := ?_) HT_ rfl rfl (by kernel_rfl) (fun _ _ _ h => h) (by rfl) ?_ ?_; rotate_left; (simp only [Act.put, List.setIfInBounds_toArray, List.set_cons_zero, List.set_cons_succ, i64_w, i32_w]; rfl)))
            refine ord0 ?_
            refine done_ (done_of HT_.out (by kernel_rfl)) ?_
            try go_wp2
            go_roundg k1
            case measure => have := HK1.out; omega
            case rel => exact ⟨(wrap64 (x3_1 + 1)), (by first | rfl | (simp; done) | (simp [*]; done)), H', ⟨by have := HK1.out; omega⟩, ⟨gx (BK101.out)⟩, ⟨bx HB.out⟩⟩
        · replace c6 := Bool.eq_false_iff.mpr c6
          subst c6
          rw [if_neg Bool.false_ne_true] at H
          obtain rfl := Option.some.inj H
          have hz21 := cells_2 BK101.out
          try go_wp2
          replace BK101 := Aside0.mk (blk_drew BK101.out)
          replace HB := Aside0.mk (below_drew1 HB.out)
          have p102 := of_decide_eq_true c4b0
          have q102 := of_decide_eq_true c3b0
          obtain ⟨ad102, e102, hx102_0, hx102_1⟩ := at_T43 HR0_1.out x3_1 p102 q102
          have hw102_1 := hx102_1
          have hw102_0 := hx102_0
          cases e102
          replace hx102_0 := px HB.out hx102_0
          replace hx102_1 := px HB.out hx102_1
          replace p102 := eq_true p102
          replace q102 := eq_true q102
          refine start_ (n := 27) (S := fun w' => w'.cell? ⟨gb101, 0, none⟩ = some (.slice A0_0 l0_0.length c0_0) ∧ w'.cell? ⟨gb101, 1, none⟩ = some (.slice (some ad102) l0_1.length c0_1) ∧ w'.cell? (ad102.add ((x3_1).toNat * 2)) = some (.string ((rd_T43 l0_1 x3_1).f0)) ∧ w'.cell? ⟨(ad102.add ((x3_1).toNat * 2)).block, (ad102.add ((x3_1).toNat * 2)).off + 1, none⟩ = some (.string ((rd_T43 l0_1 x3_1).f1))) (ds := []) _ (by kernel_rfl) rfl rfl ⟨(blk_cell BK101.out 0).trans rfl, (blk_cell BK101.out 1).trans rfl, (px HB.out hw102_0), (px HB.out hw102_1)⟩ (fun hHeld => ?_); refine with_tabW spec_BookOk.tab4 spec_BookOk.bits4 (fun HT_ HW_ => ?_)
          generalize wr.drew = w22 at BK101 HB hx102_0 hx102_1 hHeld ⊢
          refine ord_ [.p 0 11, .p 2 13, .t 1 12, .p 3 14, .t 4 15] ?_
          repeat (first | (refine pu_ (v := ?_) (a' := ?_) HT_ rfl rfl (by kernel_rfl) (fun _ _ _ h => h) (by rfl) ?_ ?_ ?_; rotate_left 2; (intro w'; go_simp; with_reducible rfl); (simp only [Act.put, List.setIfInBounds_toArray, List.set_cons_zero, List.set_cons_succ, i64_w, i32_w]; rfl)) | (refine ta_ (v := ?_) (a' := ?_) HT_ HW_ rfl rfl (by kernel_rfl) (fun _ _ _ h => h) (by rfl) hHeld ?_ ?_ ?_; rotate_left 2; (rintro w' ⟨s0, s1, s2, s3⟩; go_simp; with_reducible rfl); (simp only [Act.put, List.setIfInBounds_toArray, List.set_cons_zero, List.set_cons_succ, i64_w, i32_w]; rfl)))
          refine ord0 ?_
          refine on_ (i := 5) (N := some 16) HT_ rfl rfl (by kernel_rfl) (by decide) (fun K hK => ?_)
          refine goM gf69 #[.agg #[.string ((rd_T43 l0_1 x3_1).f0), .string ((rd_T43 l0_1 x3_1).f1)]] (by rfl) rfl rfl rfl ?_
          with_reducible refine (spec_l2Entry.calls k1 ((rd_T43 l0_1 x3_1).f0) ((rd_T43 l0_1 x3_1).f1) false _ A5.out).mono ?_
          rintro e w23 ⟨rfl, hb⟩
          refine ⟨_, rfl, ?_⟩
          replace BK101 := kb BK101 hb
          replace HB := kB HB hb
          (try clear hb)
          (try clear hb2)
          (try clear hk)
          (try clear hi)
          refine hK.out _ _ ⟨(blk_cell BK101.out 0).trans rfl, (blk_cell BK101.out 1).trans rfl, (px HB.out hw102_0), (px HB.out hw102_1)⟩ (fun hHeld => ?_)
          clear hK K
          refine norm_ (a' := ?_) ?_ ?_
          rotate_left
          · show Act.put _ (some 16) _ = _
            simp only [Act.put, List.setIfInBounds_toArray, List.set_cons_zero, List.set_cons_succ, i64_w, i32_w]
            rfl
          refine ord_ [.p 6 17, .p 7 18, .u 8 19, .u 9 20, .u 10 21, .u 11 22, .u 12 23, .u 13 24, .u 14 25, .u 15 26, .u 16 27, .u 17 28, .u 18 29, .u 19 30, .u 20 31, .u 21 32, .u 22 33, .u 23 34, .u 24 35, .u 25 36, .p 26 37] ?_
          repeat (first | (refine pu_ (v := ?_) (a' := ?_) HT_ rfl rfl (by kernel_rfl) (fun _ _ _ h => h) (by rfl) ?_ ?_ ?_; rotate_left 2; (intro w'; go_simp; with_reducible rfl); (simp only [Act.put, List.setIfInBounds_toArray, List.set_cons_zero, List.set_cons_succ, i64_w, i32_w]; rfl)) | (refine un_ (a' := ?_) HT_ rfl rfl (by kernel_rfl) (fun _ _ _ h => h) (by rfl) ?_ ?_; rotate_left; (simp only [Act.put, List.setIfInBounds_toArray, List.set_cons_zero, List.set_cons_succ, i64_w, i32_w]; rfl)))
          refine ord0 ?_
          refine done_ (done_of HT_.out (by kernel_rfl)) ?_
          try go_wp2
          go_ret
          exact ⟨by rfl, bx HB.out⟩
      · rw [if_neg c3] at H
        have c3b0 := decide_eq_false c3
        clear c3
        replace H := Option.bind_eq_some_iff.mp H
        obtain ⟨t106, A240, H⟩ := H
        have A24 := Aside0.mk A240
        clear A240
        by_cases c25 : t106 = true
        · subst c25
          rw [if_pos rfl] at H
          obtain rfl := Option.some.inj H
          have hz26 := cells_2 BK101.out
          go_wp2_with (first | ((with_reducible refine gate_callee (f := 39) rfl ?_); refine goL (some 40) rfl rfl gf39 #[.slice A0_0 l0_0.length c0_0] rfl rfl ?_; (with_reducible refine (spec_l2Affixes.calls k1 _ _ l0_0 true _ (cx (Kd.C_below HR0_0.out HB.out)) HC0_0.out A24.out).mono ?_); rintro e w27 ⟨rfl, hb⟩; refine ⟨_, rfl, ?_⟩; replace BK101 := kb BK101 hb; replace HB := kB HB hb; (try clear hb); (try clear hb2); (try clear hk); (try clear hi); have hz28 := cells_2 BK101.out))
          go_ret
          exact ⟨by rfl, bx HB.out⟩
        · replace c25 := Bool.eq_false_iff.mpr c25
          subst c25
          rw [if_neg Bool.false_ne_true] at H
          obtain rfl := Option.some.inj H
          have hz29 := cells_2 BK101.out
          go_wp2_with (first | ((with_reducible refine gate_callee (f := 39) rfl ?_); refine goL (some 40) rfl rfl gf39 #[.slice A0_0 l0_0.length c0_0] rfl rfl ?_; (with_reducible refine (spec_l2Affixes.calls k1 _ _ l0_0 false _ (cx (Kd.C_below HR0_0.out HB.out)) HC0_0.out A24.out).mono ?_); rintro e w30 ⟨rfl, hb⟩; refine ⟨_, rfl, ?_⟩; replace BK101 := kb BK101 hb; replace HB := kB HB hb; (try clear hb); (try clear hb2); (try clear hk); (try clear hi)))
          go_ret
          exact ⟨by rfl, bx HB.out⟩
end Go.Proofs.YtabindnaedchgaaDoor.M
end

section
-- Printed for this claim by a program (mprint.py) that uses the kit's print; Lean checks it.
namespace Go.Proofs.YtabindnaedchgaaDoor.M
open Go.RowKit Go.Proofs.YtabindnaedchgaaDoorW.PrintWords Go.Proofs.YtabindnaedchgaaDoorW.PrintLast Go.Proofs.YtabindnaedchgaaDoorW.PrintMore Go.Proofs.YtabindnaedchgaaDoor.Sq
set_option synthInstance.maxHeartbeats 2000000
set_option synthInstance.maxSize 4096
attribute [local go_sem] max2_int min2_int max_two min_two max_three min_three max_four min_four   -- for this text's walks alone
set_option linter.unusedVariables false
set_option linter.unusedSimpArgs false
theorem gf38 : Go_ Tryd.prog 38 Tryd.f38 := ⟨Tryd.func38, by kernel_rfl, rfl⟩
def spec_l5Entries.f (k : Nat) (l0 : List (S43)) : Option (Bool) := (spec_BookOk.f k ([] : List (S46)) l0).bind fun t101 => (some t101)
theorem spec_l5Entries.mono : ∀ a0 k, LeO (spec_l5Entries.f k a0) (spec_l5Entries.f (k + 1) a0) := by
  intro a0 k
  unfold spec_l5Entries.f
  have I0_ := fun x0_ x1_ x2_ => LeC.mk (spec_BookOk.mono x0_ x1_ x2_)
  exact LeC.out
set_option maxHeartbeats 8000000 in
set_option maxRecDepth 100000 in
theorem spec_l5Entries.calls (k : Nat) (A0 : Option Addr) (c0 : Nat) (l0 : List (S43)) (r : Bool) (w : World) (hr0 : Kd.C k43 w A0 l0.length l0) (hc0 : l0.length ≤ c0) (h : spec_l5Entries.f k l0 = some r) :
    Calls Tryd.prog 38 #[.slice A0 l0.length c0] w fun e w' => e = .returned (.bool r) ∧ Below w.heap.size w w' := by
  have hu63 := Tryd.underlying63
  have HR0 := Aside0.mk hr0
  have HC0 := Aside0.mk hc0
  clear hr0 hc0
  have HB := Aside0.mk (Below.refl w.heap.size w)
  unfold spec_l5Entries.f at h
  have H := h
  clear h
  replace H := Option.bind_eq_some_iff.mp H
  obtain ⟨t101, A20, H⟩ := H
  have A2 := Aside0.mk A20
  clear A20
  obtain rfl := Option.some.inj H
  go_enter Tryd.func38, Tryd.ntmps38
  go_wp2_with (first | ((with_reducible refine gate_callee (f := 64) rfl ?_); refine goL (some 5) rfl rfl gf64 #[.agg #[.slice none 0 0, .slice A0 l0.length c0]] rfl rfl ?_; (refine (spec_BookOk.calls k _ _ ([] : List (S46)) _ _ l0 t101 _ ?side1 ?side2 ?side3 ?side4 A2.out).mono ?_); (case side1 => exact Kd.C_nil _ _); (case side2 => exact Nat.le_refl _); (case side3 => exact cx HR0.out); (case side4 => exact HC0.out); rintro e w3 ⟨rfl, hb⟩; refine ⟨_, rfl, ?_⟩; replace HB := kB HB hb; (try clear hb); (try clear hb2); (try clear hk); (try clear hi)))
  go_ret
  exact ⟨by rfl, bx HB.out⟩
end Go.Proofs.YtabindnaedchgaaDoor.M
end

section
-- Printed for this claim by a program (mprint.py) that uses the kit's print; Lean checks it.
namespace Go.Proofs.YtabindnaedchgaaDoor.M
open Go.RowKit Go.Proofs.YtabindnaedchgaaDoorW.PrintWords Go.Proofs.YtabindnaedchgaaDoorW.PrintLast Go.Proofs.YtabindnaedchgaaDoorW.PrintMore Go.Proofs.YtabindnaedchgaaDoor.Sq
set_option synthInstance.maxHeartbeats 2000000
set_option synthInstance.maxSize 4096
attribute [local go_sem] max2_int min2_int max_two min_two max_three min_three max_four min_four   -- for this text's walks alone
set_option linter.unusedVariables false
set_option linter.unusedSimpArgs false
theorem gf13 : Go_ Tryd.prog 13 Tryd.f13 := ⟨Tryd.func13, by kernel_rfl, rfl⟩
mutual
def spec_DeltaOk.l0 : Nat → Int → List ByteArray → List (S43) → Bool → List (S46) → Option (Bool)
  | 0, _, _, _, _, _ => none
  | k + 1, x3, x102000, x102001, x102002, x102003 => if x3 < (x102000.length : Int) then (if 0 ≤ x3 then ((spec_l1Word.f k (rdOf ByteArray.empty x102000 x3)).bind fun t105 => (if t105 = true then (if x3 > 0 then (if 0 ≤ (wrap64 (x3 - 1)) then (if (wrap64 (x3 - 1)) < (x102000.length : Int) then (spec_DeltaOk.j1 k x3 (!(Op.bytesLess ((rdOf ByteArray.empty x102000 (wrap64 (x3 - 1))).toList) ((rdOf ByteArray.empty x102000 x3).toList))) x102000 x102001 x102002 x102003) else (none)) else (none)) else (spec_DeltaOk.j1 k x3 false x102000 x102001 x102002 x102003)) else (spec_DeltaOk.j1 k x3 true x102000 x102001 x102002 x102003))) else (none)) else (if (x102000.length : Int) ≤ 24 then ((spec_l5Entries.f k x102001).bind fun t102 => (if t102 = true then ((spec_l2Affixes.f k x102003).bind fun t103 => (if t103 = true then (if x102002 = true then (some true) else (some ((x102003.length : Int) == 0))) else (some false))) else (some false))) else (some false))
def spec_DeltaOk.j1 : Nat → Int → Bool → List ByteArray → List (S43) → Bool → List (S46) → Option (Bool)
  | 0, _, _, _, _, _, _ => none
  | k + 1, x3, x36, x102000, x102001, x102002, x102003 => if x36 = true then (some false) else (spec_DeltaOk.l1 k x3 0 x102000 x102001 x102002 x102003)
def spec_DeltaOk.l1 : Nat → Int → Int → List ByteArray → List (S43) → Bool → List (S46) → Option (Bool)
  | 0, _, _, _, _, _, _ => none
  | k + 1, x3, x4, x102000, x102001, x102002, x102003 => if x4 < (x102001.length : Int) then (if 0 ≤ x4 then (if 0 ≤ x3 then (if x3 < (x102000.length : Int) then (if ((rd_T43 x102001 x4).f0).toList = (rdOf ByteArray.empty x102000 x3).toList then (some false) else (spec_DeltaOk.l1 k x3 (wrap64 (x4 + 1)) x102000 x102001 x102002 x102003)) else (none)) else (none)) else (none)) else (spec_DeltaOk.l0 k (wrap64 (x3 + 1)) x102000 x102001 x102002 x102003)
end
def spec_DeltaOk.f (k : Nat) (l0_0 : List ByteArray) (l0_1 : List (S43)) (a0_2 : Bool) (l0_3 : List (S46)) : Option (Bool) := spec_DeltaOk.l0 k 0 l0_0 l0_1 a0_2 l0_3
theorem spec_DeltaOk.mono_l : ∀ k, (∀ y0 y1 y2 y3 y4, LeO (spec_DeltaOk.l0 k y0 y1 y2 y3 y4) (spec_DeltaOk.l0 (k + 1) y0 y1 y2 y3 y4)) ∧ (∀ y0 y1 y2 y3 y4 y5, LeO (spec_DeltaOk.j1 k y0 y1 y2 y3 y4 y5) (spec_DeltaOk.j1 (k + 1) y0 y1 y2 y3 y4 y5)) ∧ (∀ y0 y1 y2 y3 y4 y5, LeO (spec_DeltaOk.l1 k y0 y1 y2 y3 y4 y5) (spec_DeltaOk.l1 (k + 1) y0 y1 y2 y3 y4 y5))
  | 0 => ⟨fun _ _ _ _ _ r h => by simp [spec_DeltaOk.l0] at h, fun _ _ _ _ _ _ r h => by simp [spec_DeltaOk.j1] at h, fun _ _ _ _ _ _ r h => by simp [spec_DeltaOk.l1] at h⟩
  | k + 1 => by
    obtain ⟨ih0, ih1, ih2⟩ := spec_DeltaOk.mono_l k
    refine ⟨?_, ?_, ?_⟩
    · intro y0 y1 y2 y3 y4
      unfold spec_DeltaOk.l0
      have I0_ := fun x0_ x1_ x2_ x3_ x4_ => LeC.mk (ih0 x0_ x1_ x2_ x3_ x4_)
      have I1_ := fun x0_ x1_ x2_ x3_ x4_ x5_ => LeC.mk (ih1 x0_ x1_ x2_ x3_ x4_ x5_)
      have I2_ := fun x0_ x1_ x2_ x3_ x4_ x5_ => LeC.mk (ih2 x0_ x1_ x2_ x3_ x4_ x5_)
      have I3_ := fun x0_ x1_ => LeC.mk (spec_l1Word.mono x0_ x1_)
      have I4_ := fun x0_ x1_ => LeC.mk (spec_l2Affixes.mono x0_ x1_)
      have I5_ := fun x0_ x1_ => LeC.mk (spec_l5Entries.mono x0_ x1_)
      exact LeC.out
    · intro y0 y1 y2 y3 y4 y5
      unfold spec_DeltaOk.j1
      have I0_ := fun x0_ x1_ x2_ x3_ x4_ => LeC.mk (ih0 x0_ x1_ x2_ x3_ x4_)
      have I1_ := fun x0_ x1_ x2_ x3_ x4_ x5_ => LeC.mk (ih1 x0_ x1_ x2_ x3_ x4_ x5_)
      have I2_ := fun x0_ x1_ x2_ x3_ x4_ x5_ => LeC.mk (ih2 x0_ x1_ x2_ x3_ x4_ x5_)
      have I3_ := fun x0_ x1_ => LeC.mk (spec_l1Word.mono x0_ x1_)
      have I4_ := fun x0_ x1_ => LeC.mk (spec_l2Affixes.mono x0_ x1_)
      have I5_ := fun x0_ x1_ => LeC.mk (spec_l5Entries.mono x0_ x1_)
      exact LeC.out
    · intro y0 y1 y2 y3 y4 y5
      unfold spec_DeltaOk.l1
      have I0_ := fun x0_ x1_ x2_ x3_ x4_ => LeC.mk (ih0 x0_ x1_ x2_ x3_ x4_)
      have I1_ := fun x0_ x1_ x2_ x3_ x4_ x5_ => LeC.mk (ih1 x0_ x1_ x2_ x3_ x4_ x5_)
      have I2_ := fun x0_ x1_ x2_ x3_ x4_ x5_ => LeC.mk (ih2 x0_ x1_ x2_ x3_ x4_ x5_)
      have I3_ := fun x0_ x1_ => LeC.mk (spec_l1Word.mono x0_ x1_)
      have I4_ := fun x0_ x1_ => LeC.mk (spec_l2Affixes.mono x0_ x1_)
      have I5_ := fun x0_ x1_ => LeC.mk (spec_l5Entries.mono x0_ x1_)
      exact LeC.out
theorem spec_DeltaOk.mono : ∀ a0 a1 a2 a3 k, LeO (spec_DeltaOk.f k a0 a1 a2 a3) (spec_DeltaOk.f (k + 1) a0 a1 a2 a3) := by
  intro a0 a1 a2 a3 k
  obtain ⟨ih0, ih1, ih2⟩ := spec_DeltaOk.mono_l k
  unfold spec_DeltaOk.f
  have I0_ := fun x0_ x1_ x2_ x3_ x4_ => LeC.mk (ih0 x0_ x1_ x2_ x3_ x4_)
  have I1_ := fun x0_ x1_ x2_ x3_ x4_ x5_ => LeC.mk (ih1 x0_ x1_ x2_ x3_ x4_ x5_)
  have I2_ := fun x0_ x1_ x2_ x3_ x4_ x5_ => LeC.mk (ih2 x0_ x1_ x2_ x3_ x4_ x5_)
  have I3_ := fun x0_ x1_ => LeC.mk (spec_l1Word.mono x0_ x1_)
  have I4_ := fun x0_ x1_ => LeC.mk (spec_l2Affixes.mono x0_ x1_)
  have I5_ := fun x0_ x1_ => LeC.mk (spec_l5Entries.mono x0_ x1_)
  exact LeC.out
set_option maxHeartbeats 8000000 in
set_option maxRecDepth 100000 in
theorem spec_DeltaOk.calls (k : Nat) (A0_0 : Option Addr) (c0_0 : Nat) (l0_0 : List ByteArray) (A0_1 : Option Addr) (c0_1 : Nat) (l0_1 : List (S43)) (a0_2 : Bool) (A0_3 : Option Addr) (c0_3 : Nat) (l0_3 : List (S46)) (r : Bool) (w : World) (hr0_0 : Kd.C Kd.string w A0_0 l0_0.length l0_0) (hc0_0 : l0_0.length ≤ c0_0) (hr0_1 : Kd.C k43 w A0_1 l0_1.length l0_1) (hc0_1 : l0_1.length ≤ c0_1) (hr0_3 : Kd.C k46 w A0_3 l0_3.length l0_3) (hc0_3 : l0_3.length ≤ c0_3) (h : spec_DeltaOk.f k l0_0 l0_1 a0_2 l0_3 = some r) :
    Calls Tryd.prog 13 #[.agg #[.slice A0_0 l0_0.length c0_0, .slice A0_1 l0_1.length c0_1, .bool a0_2, .slice A0_3 l0_3.length c0_3]] w fun e w' => e = .returned (.bool r) ∧ Below w.heap.size w w' := by
  have hu26 := Tryd.underlying26
  have HR0_0 := Aside0.mk hr0_0
  have HC0_0 := Aside0.mk hc0_0
  clear hr0_0 hc0_0
  have HR0_1 := Aside0.mk hr0_1
  have HC0_1 := Aside0.mk hc0_1
  clear hr0_1 hc0_1
  have HR0_3 := Aside0.mk hr0_3
  have HC0_3 := Aside0.mk hc0_3
  clear hr0_3 hc0_3
  have HB := Aside0.mk (Below.refl w.heap.size w)
  unfold spec_DeltaOk.f at h
  have H := h
  clear h
  have H' := Aside0.mk H
  clear H
  go_enter Tryd.func13, Tryd.ntmps13
  go_wp2_with (first | ((with_reducible refine gate_dst (N := 1) rfl ?_); (try (refine gate_guard (by rfl) ?_; dsimp only)); refine box_event rfl (N := 1) rfl (cs := #[.slice A0_0 l0_0.length c0_0, .slice A0_1 l0_1.length c0_1, .bool a0_2, .slice A0_3 l0_3.length c0_3]) (t := 26) (by go_simp <;> rfl) ?_; intro gb101 hg w2 hbox hb; have BK101 := Aside0.mk (hbox); have GW101 := Le_.mk (ge_of hg HB.out); have GE101 := Le_.mk (ge_of hg HB.out); replace HB := kB HB hb; clear hb hbox hg))
  repeat (go_quiet (first | ((with_reducible refine gate_dst (N := 1) rfl ?_); (try (refine gate_guard (by rfl) ?_; dsimp only)); refine box_event rfl (N := 1) rfl (cs := #[.slice A0_0 l0_0.length c0_0, .slice A0_1 l0_1.length c0_1, .bool a0_2, .slice A0_3 l0_3.length c0_3]) (t := 26) (by go_simp <;> rfl) ?_; intro gb101 hg w2 hbox hb; have BK101 := Aside0.mk (hbox); have GW101 := Le_.mk (ge_of hg HB.out); have GE101 := Le_.mk (ge_of hg HB.out); replace HB := kB HB hb; clear hb hbox hg)); try go_wp2_with (first | ((with_reducible refine gate_dst (N := 1) rfl ?_); (try (refine gate_guard (by rfl) ?_; dsimp only)); refine box_event rfl (N := 1) rfl (cs := #[.slice A0_0 l0_0.length c0_0, .slice A0_1 l0_1.length c0_1, .bool a0_2, .slice A0_3 l0_3.length c0_3]) (t := 26) (by go_simp <;> rfl) ?_; intro gb101 hg w2 hbox hb; have BK101 := Aside0.mk (hbox); have GW101 := Le_.mk (ge_of hg HB.out); have GE101 := Le_.mk (ge_of hg HB.out); replace HB := kB HB hb; clear hb hbox hg)))
  go_loopg [3] k (fun kq v3 w' => ∃ (x3_1 : Int), v3 = .int .i64 x3_1 ∧ Aside0 (spec_DeltaOk.l0 kq x3_1 l0_0 l0_1 a0_2 l0_3 = some r) ∧ Aside0 (kq ≤ k) ∧ Aside0 (w'.heap[gb101]? = some (.cells #[(.slice A0_0 l0_0.length c0_0), (.slice A0_1 l0_1.length c0_1), .bool a0_2, (.slice A0_3 l0_3.length c0_3)] 26 (0, 0))) ∧ Aside0 (Below w.heap.size w w'))
  case atStart => exact ⟨(0), (by first | rfl | (simp; done) | (simp [*]; done)), H', ⟨Nat.le_refl _⟩, ⟨gx (BK101.out)⟩, ⟨bx HB.out⟩⟩
  case round =>
    clear H'
    try clear c1
    try clear p2
    obtain ⟨x3_1, rfl, HA, HK1, BK101, HB⟩ := hrel
    cases gk with
    | zero => exact absurd HA.out (by simp [spec_DeltaOk.l0])
    | succ k1 =>
      have H := HA.out
      clear HA
      simp only [spec_DeltaOk.l0] at H
      by_cases c3 : x3_1 < (l0_0.length : Int)
      · rw [if_pos c3] at H
        have c3b0 := decide_eq_true c3
        clear c3
        have HC4 := Aside0.mk H
        clear H
        have hz5 := cells_4 BK101.out
        go_upto_region 4 with (fail)
        repeat (go_quiet (fail); go_upto_region 4 with (fail))
        go_cut [36] (fun v36 wc => ∃ (kq : Nat) (x36_3 : Bool), v36 = .bool x36_3 ∧ Aside0 (spec_DeltaOk.j1 kq x3_1 x36_3 l0_0 l0_1 a0_2 l0_3 = some r) ∧ Aside0 (kq ≤ k1) ∧ Aside0 (wc.heap[gb101]? = some (.cells #[(.slice A0_0 l0_0.length c0_0), (.slice A0_1 l0_1.length c0_1), .bool a0_2, (.slice A0_3 l0_3.length c0_3)] 26 (0, 0))) ∧ Aside0 (Below w.heap.size w wc))
        case first =>
          have H := HC4.out
          clear HC4
          have c6 := ite_y H
          replace H := ite_t H
          have c6b0 := decide_eq_true c6
          clear c6
          (first | rw [c6b0] | (simp only [i64_w, i32_w]; rw [c6b0]) | skip)
          replace H := Option.bind_eq_some_iff.mp H
          obtain ⟨t105, A70, H⟩ := H
          have A7 := Aside0.mk A70
          clear A70
          by_cases c8 : t105 = true
          · subst c8
            rw [if_pos rfl] at H
            by_cases c9 : x3_1 > 0
            · rw [if_pos c9] at H
              have c9b0 : decide (0 < x3_1) = true := decide_eq_true c9
              clear c9
              obtain ⟨ji10, hji10⟩ : ∃ j_ : Int, (wrap64 (x3_1 - 1)) = j_ := ⟨_, rfl⟩
              replace H : (if 0 ≤ (ji10) then (if (ji10) < (l0_0.length : Int) then (spec_DeltaOk.j1 k1 x3_1 (!(Op.bytesLess ((rdOf ByteArray.empty l0_0 (ji10)).toList) ((rdOf ByteArray.empty l0_0 x3_1).toList))) l0_0 l0_1 a0_2 l0_3) else (none)) else (none)) = some r := by first | (rw [hji10] at H; exact H) | (simp only [hji10] at H ⊢; exact H)
              (try rw [hji10] at A7)
              have hji10w : (IntKind.i64.wrap (x3_1 - 1)) = ji10 := (i64_w _).trans hji10
              have c11 := ite_y H
              replace H := ite_t H
              have c11b0 := decide_eq_true c11
              clear c11
              have c12 := ite_y H
              replace H := ite_t H
              have c12b0 := decide_eq_true c12
              clear c12
              have H' := Aside0.mk H
              clear H
              have hz13 := cells_4 BK101.out
              have p104 := of_decide_eq_true c6b0
              have q104 := of_decide_eq_true c3b0
              obtain ⟨ad104, e104, hx104_0⟩ := Kd.at_string HR0_0.out x3_1 p104 q104
              cases e104
              replace hx104_0 := px HB.out hx104_0
              replace p104 := eq_true p104
              replace q104 := eq_true q104
              go_wp2_with (first | (go_at_call 37; (with_reducible refine (spec_l1Word.calls k1 (rdOf ByteArray.empty l0_0 x3_1) true _ A7.out).mono ?_); rintro e w' ⟨rfl, ⟨nd, rfl⟩⟩; (try first | exact ⟨rfl, _, World.drewN_drewN _ _ _⟩ | exact ⟨rfl, _, Eq.trans (World.drewN_drewN _ _ _) (congrArg (World.drewN _) (Nat.add_assoc _ _ _))⟩); have p106 := of_decide_eq_true c11b0; have q106 := of_decide_eq_true c12b0; obtain ⟨ad106, e106, hx106_0⟩ := Kd.at_string HR0_0.out (ji10) p106 q106; obtain rfl : ad104 = ad106 := (by injection e106); replace hx106_0 := px HB.out hx106_0; replace p106 := eq_true p106; replace q106 := eq_true q106; have p107 := of_decide_eq_true c6b0; have q107 := of_decide_eq_true c3b0; obtain ⟨ad107, e107, hx107_0⟩ := Kd.at_string HR0_0.out x3_1 p107 q107; obtain rfl : ad104 = ad107 := (by injection e107); replace hx107_0 := px HB.out hx107_0; replace p107 := eq_true p107; replace q107 := eq_true q107))
              repeat (go_quiet (first | (go_at_call 37; (with_reducible refine (spec_l1Word.calls k1 (rdOf ByteArray.empty l0_0 x3_1) true _ A7.out).mono ?_); rintro e w' ⟨rfl, ⟨nd, rfl⟩⟩; (try first | exact ⟨rfl, _, World.drewN_drewN _ _ _⟩ | exact ⟨rfl, _, Eq.trans (World.drewN_drewN _ _ _) (congrArg (World.drewN _) (Nat.add_assoc _ _ _))⟩); have p106 := of_decide_eq_true c11b0; have q106 := of_decide_eq_true c12b0; obtain ⟨ad106, e106, hx106_0⟩ := Kd.at_string HR0_0.out (ji10) p106 q106; obtain rfl : ad104 = ad106 := (by injection e106); replace hx106_0 := px HB.out hx106_0; replace p106 := eq_true p106; replace q106 := eq_true q106; have p107 := of_decide_eq_true c6b0; have q107 := of_decide_eq_true c3b0; obtain ⟨ad107, e107, hx107_0⟩ := Kd.at_string HR0_0.out x3_1 p107 q107; obtain rfl : ad104 = ad107 := (by injection e107); replace hx107_0 := px HB.out hx107_0; replace p107 := eq_true p107; replace q107 := eq_true q107)); try go_wp2_with (first | (go_at_call 37; (with_reducible refine (spec_l1Word.calls k1 (rdOf ByteArray.empty l0_0 x3_1) true _ A7.out).mono ?_); rintro e w' ⟨rfl, ⟨nd, rfl⟩⟩; (try first | exact ⟨rfl, _, World.drewN_drewN _ _ _⟩ | exact ⟨rfl, _, Eq.trans (World.drewN_drewN _ _ _) (congrArg (World.drewN _) (Nat.add_assoc _ _ _))⟩); have p106 := of_decide_eq_true c11b0; have q106 := of_decide_eq_true c12b0; obtain ⟨ad106, e106, hx106_0⟩ := Kd.at_string HR0_0.out (ji10) p106 q106; obtain rfl : ad104 = ad106 := (by injection e106); replace hx106_0 := px HB.out hx106_0; replace p106 := eq_true p106; replace q106 := eq_true q106; have p107 := of_decide_eq_true c6b0; have q107 := of_decide_eq_true c3b0; obtain ⟨ad107, e107, hx107_0⟩ := Kd.at_string HR0_0.out x3_1 p107 q107; obtain rfl : ad104 = ad107 := (by injection e107); replace hx107_0 := px HB.out hx107_0; replace p107 := eq_true p107; replace q107 := eq_true q107)))
              go_meet
              case rel => exact ⟨_, (!(Op.bytesLess ((rdOf ByteArray.empty l0_0 (ji10)).toList) ((rdOf ByteArray.empty l0_0 x3_1).toList))), (by first | rfl | (simp; done) | (simp only [← hji10] <;> (first | rfl | simp)) | (simp [*]; done)), H', ⟨by have := HK1.out; first | omega | exact Nat.le_refl _⟩, ⟨gx (BK101.out)⟩, ⟨bx HB.out⟩⟩
            · rw [if_neg c9] at H
              have c9b0 : decide (0 < x3_1) = false := decide_eq_false c9
              clear c9
              have H' := Aside0.mk H
              clear H
              have hz14 := cells_4 BK101.out
              have p104 := of_decide_eq_true c6b0
              have q104 := of_decide_eq_true c3b0
              obtain ⟨ad104, e104, hx104_0⟩ := Kd.at_string HR0_0.out x3_1 p104 q104
              cases e104
              replace hx104_0 := px HB.out hx104_0
              replace p104 := eq_true p104
              replace q104 := eq_true q104
              go_wp2_with (first | (go_at_call 37; (with_reducible refine (spec_l1Word.calls k1 (rdOf ByteArray.empty l0_0 x3_1) true _ A7.out).mono ?_); rintro e w' ⟨rfl, ⟨nd, rfl⟩⟩; (try first | exact ⟨rfl, _, World.drewN_drewN _ _ _⟩ | exact ⟨rfl, _, Eq.trans (World.drewN_drewN _ _ _) (congrArg (World.drewN _) (Nat.add_assoc _ _ _))⟩)))
              repeat (go_quiet (first | (go_at_call 37; (with_reducible refine (spec_l1Word.calls k1 (rdOf ByteArray.empty l0_0 x3_1) true _ A7.out).mono ?_); rintro e w' ⟨rfl, ⟨nd, rfl⟩⟩; (try first | exact ⟨rfl, _, World.drewN_drewN _ _ _⟩ | exact ⟨rfl, _, Eq.trans (World.drewN_drewN _ _ _) (congrArg (World.drewN _) (Nat.add_assoc _ _ _))⟩))); try go_wp2_with (first | (go_at_call 37; (with_reducible refine (spec_l1Word.calls k1 (rdOf ByteArray.empty l0_0 x3_1) true _ A7.out).mono ?_); rintro e w' ⟨rfl, ⟨nd, rfl⟩⟩; (try first | exact ⟨rfl, _, World.drewN_drewN _ _ _⟩ | exact ⟨rfl, _, Eq.trans (World.drewN_drewN _ _ _) (congrArg (World.drewN _) (Nat.add_assoc _ _ _))⟩))))
              go_meet
              case rel => exact ⟨_, (false), (by first | rfl | (simp; done) | (simp [*]; done)), H', ⟨by have := HK1.out; first | omega | exact Nat.le_refl _⟩, ⟨gx (BK101.out)⟩, ⟨bx HB.out⟩⟩
          · replace c8 := Bool.eq_false_iff.mpr c8
            subst c8
            rw [if_neg Bool.false_ne_true] at H
            have H' := Aside0.mk H
            clear H
            have hz15 := cells_4 BK101.out
            have p104 := of_decide_eq_true c6b0
            have q104 := of_decide_eq_true c3b0
            obtain ⟨ad104, e104, hx104_0⟩ := Kd.at_string HR0_0.out x3_1 p104 q104
            cases e104
            replace hx104_0 := px HB.out hx104_0
            replace p104 := eq_true p104
            replace q104 := eq_true q104
            go_wp2_with (first | (go_at_call 37; (with_reducible refine (spec_l1Word.calls k1 (rdOf ByteArray.empty l0_0 x3_1) false _ A7.out).mono ?_); rintro e w' ⟨rfl, ⟨nd, rfl⟩⟩; (try first | exact ⟨rfl, _, World.drewN_drewN _ _ _⟩ | exact ⟨rfl, _, Eq.trans (World.drewN_drewN _ _ _) (congrArg (World.drewN _) (Nat.add_assoc _ _ _))⟩)))
            repeat (go_quiet (first | (go_at_call 37; (with_reducible refine (spec_l1Word.calls k1 (rdOf ByteArray.empty l0_0 x3_1) false _ A7.out).mono ?_); rintro e w' ⟨rfl, ⟨nd, rfl⟩⟩; (try first | exact ⟨rfl, _, World.drewN_drewN _ _ _⟩ | exact ⟨rfl, _, Eq.trans (World.drewN_drewN _ _ _) (congrArg (World.drewN _) (Nat.add_assoc _ _ _))⟩))); try go_wp2_with (first | (go_at_call 37; (with_reducible refine (spec_l1Word.calls k1 (rdOf ByteArray.empty l0_0 x3_1) false _ A7.out).mono ?_); rintro e w' ⟨rfl, ⟨nd, rfl⟩⟩; (try first | exact ⟨rfl, _, World.drewN_drewN _ _ _⟩ | exact ⟨rfl, _, Eq.trans (World.drewN_drewN _ _ _) (congrArg (World.drewN _) (Nat.add_assoc _ _ _))⟩))))
            go_meet
            case rel => exact ⟨_, (true), (by first | rfl | (simp; done) | (simp [*]; done)), H', ⟨by have := HK1.out; first | omega | exact Nat.le_refl _⟩, ⟨gx (BK101.out)⟩, ⟨bx HB.out⟩⟩
        case rest =>
          clear HC4
          try clear c1
          try clear p1
          try clear q1
          try clear hx1
          try clear p2
          try clear c3
          try clear c3b0
          try clear c6
          try clear c6b0
          try clear p6
          try clear c8
          try clear c9
          try clear c9b0
          try clear p10
          try clear q10
          try clear hx10
          try clear c11
          try clear c11b0
          try clear c12
          try clear c12b0
          try clear c13
          try clear hz13
          try clear hz14
          try clear hz15
          try clear hz5
          try clear hx104_0
          try clear hx106_0
          try clear hx107_0
          try clear p104
          try clear p106
          try clear p107
          try clear p2
          try clear q104
          try clear q106
          try clear q107
          obtain ⟨kq, x36_3, rfl, HA, HJ3, BK101, HB⟩ := hcut
          cases kq with
          | zero => exact absurd HA.out (by simp [spec_DeltaOk.j1])
          | succ kj3 =>
            have H := HA.out
            clear HA
            simp only [spec_DeltaOk.j1] at H
            by_cases c16 : x36_3 = true
            · subst c16
              rw [if_pos rfl] at H
              obtain rfl := Option.some.inj H
              go_wp2
              repeat (go_quiet (fail); try go_wp2)
              go_ret
              exact ⟨by rfl, bx HB.out⟩
            · replace c16 := Bool.eq_false_iff.mpr c16
              subst c16
              rw [if_neg Bool.false_ne_true] at H
              have H' := Aside0.mk H
              clear H
              go_wp2
              repeat (go_quiet (fail); try go_wp2)
              go_loopg [4] kj3 (fun kq v4 w' => ∃ (x4_3 : Int), v4 = .int .i64 x4_3 ∧ Aside0 (spec_DeltaOk.l1 kq x3_1 x4_3 l0_0 l0_1 a0_2 l0_3 = some r) ∧ Aside0 (kq ≤ kj3) ∧ Aside0 (w'.heap[gb101]? = some (.cells #[(.slice A0_0 l0_0.length c0_0), (.slice A0_1 l0_1.length c0_1), .bool a0_2, (.slice A0_3 l0_3.length c0_3)] 26 (0, 0))) ∧ Aside0 (Below w.heap.size w w'))
              case atStart => exact ⟨(0), (by first | rfl | (simp; done) | (simp [*]; done)), H', ⟨Nat.le_refl _⟩, ⟨gx (BK101.out)⟩, ⟨bx HB.out⟩⟩
              case round =>
                clear H'
                try clear c1
                try clear p1
                try clear q1
                try clear hx1
                try clear p2
                try clear c3
                try clear c3b0
                try clear c6
                try clear c6b0
                try clear p6
                try clear c8
                try clear c9
                try clear c9b0
                try clear p10
                try clear q10
                try clear hx10
                try clear c11
                try clear c11b0
                try clear c12
                try clear c12b0
                try clear c13
                try clear c16
                try clear hz13
                try clear hz14
                try clear hz15
                try clear hz5
                try clear hx104_0
                try clear hx106_0
                try clear hx107_0
                try clear p1
                try clear p10
                try clear p104
                try clear p106
                try clear p107
                try clear p2
                try clear p6
                try clear q1
                try clear q10
                try clear q104
                try clear q106
                try clear q107
                obtain ⟨x4_3, rfl, HA, HK3, BK101, HB⟩ := hrel
                cases gk with
                | zero => exact absurd HA.out (by simp [spec_DeltaOk.l1])
                | succ k3 =>
                  have H := HA.out
                  clear HA
                  simp only [spec_DeltaOk.l1] at H
                  by_cases c17 : x4_3 < (l0_1.length : Int)
                  · rw [if_pos c17] at H
                    have c17b0 := decide_eq_true c17
                    clear c17
                    have c18 := ite_y H
                    replace H := ite_t H
                    have c18b0 := decide_eq_true c18
                    clear c18
                    have c19 := ite_y H
                    replace H := ite_t H
                    have c19b0 := decide_eq_true c19
                    clear c19
                    have c20 := ite_y H
                    replace H := ite_t H
                    have c20b0 := decide_eq_true c20
                    clear c20
                    by_cases c21 : ((rd_T43 l0_1 x4_3).f0).toList = (rdOf ByteArray.empty l0_0 x3_1).toList
                    · rw [if_pos c21] at H
                      have c21b0 : (((rd_T43 l0_1 x4_3).f0).toList == (rdOf ByteArray.empty l0_0 x3_1).toList) = true := beq_iff_eq.mpr c21
                      have c21b1 : (((rd_T43 l0_1 x4_3).f0).toList != (rdOf ByteArray.empty l0_0 x3_1).toList) = false := bne_eq_false_iff_eq.mpr c21
                      clear c21
                      obtain rfl := Option.some.inj H
                      have hz22 := cells_4 BK101.out
                      have p108 := of_decide_eq_true c18b0
                      have q108 := of_decide_eq_true c17b0
                      obtain ⟨ad108, e108, hx108_0, hx108_1⟩ := at_T43 HR0_1.out x4_3 p108 q108
                      cases e108
                      replace hx108_0 := px HB.out hx108_0
                      replace hx108_1 := px HB.out hx108_1
                      replace p108 := eq_true p108
                      replace q108 := eq_true q108
                      have p109 := of_decide_eq_true c19b0
                      have q109 := of_decide_eq_true c20b0
                      obtain ⟨ad109, e109, hx109_0⟩ := Kd.at_string HR0_0.out x3_1 p109 q109
                      cases e109
                      replace hx109_0 := px HB.out hx109_0
                      replace p109 := eq_true p109
                      replace q109 := eq_true q109
                      go_wp2
                      repeat (go_quiet (fail); try go_wp2)
                      go_ret
                      exact ⟨by rfl, bx HB.out⟩
                    · rw [if_neg c21] at H
                      have c21b0 : (((rd_T43 l0_1 x4_3).f0).toList == (rdOf ByteArray.empty l0_0 x3_1).toList) = false := beq_eq_false_iff_ne.mpr c21
                      have c21b1 : (((rd_T43 l0_1 x4_3).f0).toList != (rdOf ByteArray.empty l0_0 x3_1).toList) = true := bne_iff_ne.mpr c21
                      have H' := Aside0.mk H
                      clear H
                      have hz23 := cells_4 BK101.out
                      have p108 := of_decide_eq_true c18b0
                      have q108 := of_decide_eq_true c17b0
                      obtain ⟨ad108, e108, hx108_0, hx108_1⟩ := at_T43 HR0_1.out x4_3 p108 q108
                      cases e108
                      replace hx108_0 := px HB.out hx108_0
                      replace hx108_1 := px HB.out hx108_1
                      replace p108 := eq_true p108
                      replace q108 := eq_true q108
                      have p109 := of_decide_eq_true c19b0
                      have q109 := of_decide_eq_true c20b0
                      obtain ⟨ad109, e109, hx109_0⟩ := Kd.at_string HR0_0.out x3_1 p109 q109
                      cases e109
                      replace hx109_0 := px HB.out hx109_0
                      replace p109 := eq_true p109
                      replace q109 := eq_true q109
                      go_wp2
                      repeat (go_quiet (fail); try go_wp2)
                      go_roundg k3
                      case measure => have := HK1.out; have := HJ3.out; have := HK3.out; omega
                      case rel => exact ⟨(wrap64 (x4_3 + 1)), (by first | rfl | (simp; done) | (simp [*]; done)), H', ⟨by have := HK1.out; have := HJ3.out; have := HK3.out; omega⟩, ⟨gx (BK101.out)⟩, ⟨bx HB.out⟩⟩
                  · rw [if_neg c17] at H
                    have c17b0 := decide_eq_false c17
                    clear c17
                    have H' := Aside0.mk H
                    clear H
                    have hz24 := cells_4 BK101.out
                    go_wp2
                    repeat (go_quiet (fail); try go_wp2)
                    go_roundg k3
                    case measure => have := HK1.out; have := HJ3.out; have := HK3.out; omega
                    case rel => exact ⟨(wrap64 (x3_1 + 1)), (by first | rfl | (simp; done) | (simp [*]; done)), H', ⟨by have := HK1.out; have := HJ3.out; have := HK3.out; omega⟩, ⟨gx (BK101.out)⟩, ⟨bx HB.out⟩⟩
      · rw [if_neg c3] at H
        have c3b0 := decide_eq_false c3
        clear c3
        by_cases c25 : (l0_0.length : Int) ≤ 24
        · rw [if_pos c25] at H
          have c25b0 := decide_eq_true c25
          have c25b1 : decide (l0_0.length ≤ 24) = true := decide_eq_true (by omega)
          clear c25
          replace H := Option.bind_eq_some_iff.mp H
          obtain ⟨t102, A260, H⟩ := H
          have A26 := Aside0.mk A260
          clear A260
          by_cases c27 : t102 = true
          · subst c27
            rw [if_pos rfl] at H
            replace H := Option.bind_eq_some_iff.mp H
            obtain ⟨t103, A280, H⟩ := H
            have A28 := Aside0.mk A280
            clear A280
            by_cases c29 : t103 = true
            · subst c29
              rw [if_pos rfl] at H
              by_cases c30 : a0_2 = true
              · subst c30
                rw [if_pos rfl] at H
                obtain rfl := Option.some.inj H
                have hz31 := cells_4 BK101.out
                go_wp2_with (first | (go_at_call 38; (with_reducible refine (spec_l5Entries.calls k1 _ _ l0_1 true _ (cx (Kd.C_below HR0_1.out HB.out)) HC0_1.out A26.out).mono ?_); rintro e w32 ⟨rfl, hb⟩; replace BK101 := kb BK101 hb; replace HB := kB HB hb; (try clear hb); (try clear hb2); (try clear hk); (try clear hi); have hz33 := cells_4 BK101.out) | (go_at_call 39; (with_reducible refine (spec_l2Affixes.calls k1 _ _ l0_3 true _ (cx (Kd.C_below HR0_3.out HB.out)) HC0_3.out A28.out).mono ?_); rintro e w34 ⟨rfl, hb⟩; replace BK101 := kb BK101 hb; replace HB := kB HB hb; (try clear hb); (try clear hb2); (try clear hk); (try clear hi); have hz35 := cells_4 BK101.out))
                repeat (go_quiet (first | (go_at_call 38; (with_reducible refine (spec_l5Entries.calls k1 _ _ l0_1 true _ (cx (Kd.C_below HR0_1.out HB.out)) HC0_1.out A26.out).mono ?_); rintro e w32 ⟨rfl, hb⟩; replace BK101 := kb BK101 hb; replace HB := kB HB hb; (try clear hb); (try clear hb2); (try clear hk); (try clear hi); have hz33 := cells_4 BK101.out) | (go_at_call 39; (with_reducible refine (spec_l2Affixes.calls k1 _ _ l0_3 true _ (cx (Kd.C_below HR0_3.out HB.out)) HC0_3.out A28.out).mono ?_); rintro e w34 ⟨rfl, hb⟩; replace BK101 := kb BK101 hb; replace HB := kB HB hb; (try clear hb); (try clear hb2); (try clear hk); (try clear hi); have hz35 := cells_4 BK101.out)); try go_wp2_with (first | (go_at_call 38; (with_reducible refine (spec_l5Entries.calls k1 _ _ l0_1 true _ (cx (Kd.C_below HR0_1.out HB.out)) HC0_1.out A26.out).mono ?_); rintro e w32 ⟨rfl, hb⟩; replace BK101 := kb BK101 hb; replace HB := kB HB hb; (try clear hb); (try clear hb2); (try clear hk); (try clear hi); have hz33 := cells_4 BK101.out) | (go_at_call 39; (with_reducible refine (spec_l2Affixes.calls k1 _ _ l0_3 true _ (cx (Kd.C_below HR0_3.out HB.out)) HC0_3.out A28.out).mono ?_); rintro e w34 ⟨rfl, hb⟩; replace BK101 := kb BK101 hb; replace HB := kB HB hb; (try clear hb); (try clear hb2); (try clear hk); (try clear hi); have hz35 := cells_4 BK101.out)))
                go_ret
                exact ⟨by rfl, bx HB.out⟩
              · replace c30 := Bool.eq_false_iff.mpr c30
                subst c30
                rw [if_neg Bool.false_ne_true] at H
                obtain rfl := Option.some.inj H
                have hz36 := cells_4 BK101.out
                go_wp2_with (first | (go_at_call 38; (with_reducible refine (spec_l5Entries.calls k1 _ _ l0_1 true _ (cx (Kd.C_below HR0_1.out HB.out)) HC0_1.out A26.out).mono ?_); rintro e w37 ⟨rfl, hb⟩; replace BK101 := kb BK101 hb; replace HB := kB HB hb; (try clear hb); (try clear hb2); (try clear hk); (try clear hi); have hz38 := cells_4 BK101.out) | (go_at_call 39; (with_reducible refine (spec_l2Affixes.calls k1 _ _ l0_3 true _ (cx (Kd.C_below HR0_3.out HB.out)) HC0_3.out A28.out).mono ?_); rintro e w39 ⟨rfl, hb⟩; replace BK101 := kb BK101 hb; replace HB := kB HB hb; (try clear hb); (try clear hb2); (try clear hk); (try clear hi); have hz40 := cells_4 BK101.out))
                repeat (go_quiet (first | (go_at_call 38; (with_reducible refine (spec_l5Entries.calls k1 _ _ l0_1 true _ (cx (Kd.C_below HR0_1.out HB.out)) HC0_1.out A26.out).mono ?_); rintro e w37 ⟨rfl, hb⟩; replace BK101 := kb BK101 hb; replace HB := kB HB hb; (try clear hb); (try clear hb2); (try clear hk); (try clear hi); have hz38 := cells_4 BK101.out) | (go_at_call 39; (with_reducible refine (spec_l2Affixes.calls k1 _ _ l0_3 true _ (cx (Kd.C_below HR0_3.out HB.out)) HC0_3.out A28.out).mono ?_); rintro e w39 ⟨rfl, hb⟩; replace BK101 := kb BK101 hb; replace HB := kB HB hb; (try clear hb); (try clear hb2); (try clear hk); (try clear hi); have hz40 := cells_4 BK101.out)); try go_wp2_with (first | (go_at_call 38; (with_reducible refine (spec_l5Entries.calls k1 _ _ l0_1 true _ (cx (Kd.C_below HR0_1.out HB.out)) HC0_1.out A26.out).mono ?_); rintro e w37 ⟨rfl, hb⟩; replace BK101 := kb BK101 hb; replace HB := kB HB hb; (try clear hb); (try clear hb2); (try clear hk); (try clear hi); have hz38 := cells_4 BK101.out) | (go_at_call 39; (with_reducible refine (spec_l2Affixes.calls k1 _ _ l0_3 true _ (cx (Kd.C_below HR0_3.out HB.out)) HC0_3.out A28.out).mono ?_); rintro e w39 ⟨rfl, hb⟩; replace BK101 := kb BK101 hb; replace HB := kB HB hb; (try clear hb); (try clear hb2); (try clear hk); (try clear hi); have hz40 := cells_4 BK101.out)))
                go_ret
                exact ⟨by rfl, bx HB.out⟩
            · replace c29 := Bool.eq_false_iff.mpr c29
              subst c29
              rw [if_neg Bool.false_ne_true] at H
              obtain rfl := Option.some.inj H
              have hz41 := cells_4 BK101.out
              go_wp2_with (first | (go_at_call 38; (with_reducible refine (spec_l5Entries.calls k1 _ _ l0_1 true _ (cx (Kd.C_below HR0_1.out HB.out)) HC0_1.out A26.out).mono ?_); rintro e w42 ⟨rfl, hb⟩; replace BK101 := kb BK101 hb; replace HB := kB HB hb; (try clear hb); (try clear hb2); (try clear hk); (try clear hi); have hz43 := cells_4 BK101.out) | (go_at_call 39; (with_reducible refine (spec_l2Affixes.calls k1 _ _ l0_3 false _ (cx (Kd.C_below HR0_3.out HB.out)) HC0_3.out A28.out).mono ?_); rintro e w44 ⟨rfl, hb⟩; replace BK101 := kb BK101 hb; replace HB := kB HB hb; (try clear hb); (try clear hb2); (try clear hk); (try clear hi)))
              repeat (go_quiet (first | (go_at_call 38; (with_reducible refine (spec_l5Entries.calls k1 _ _ l0_1 true _ (cx (Kd.C_below HR0_1.out HB.out)) HC0_1.out A26.out).mono ?_); rintro e w42 ⟨rfl, hb⟩; replace BK101 := kb BK101 hb; replace HB := kB HB hb; (try clear hb); (try clear hb2); (try clear hk); (try clear hi); have hz43 := cells_4 BK101.out) | (go_at_call 39; (with_reducible refine (spec_l2Affixes.calls k1 _ _ l0_3 false _ (cx (Kd.C_below HR0_3.out HB.out)) HC0_3.out A28.out).mono ?_); rintro e w44 ⟨rfl, hb⟩; replace BK101 := kb BK101 hb; replace HB := kB HB hb; (try clear hb); (try clear hb2); (try clear hk); (try clear hi))); try go_wp2_with (first | (go_at_call 38; (with_reducible refine (spec_l5Entries.calls k1 _ _ l0_1 true _ (cx (Kd.C_below HR0_1.out HB.out)) HC0_1.out A26.out).mono ?_); rintro e w42 ⟨rfl, hb⟩; replace BK101 := kb BK101 hb; replace HB := kB HB hb; (try clear hb); (try clear hb2); (try clear hk); (try clear hi); have hz43 := cells_4 BK101.out) | (go_at_call 39; (with_reducible refine (spec_l2Affixes.calls k1 _ _ l0_3 false _ (cx (Kd.C_below HR0_3.out HB.out)) HC0_3.out A28.out).mono ?_); rintro e w44 ⟨rfl, hb⟩; replace BK101 := kb BK101 hb; replace HB := kB HB hb; (try clear hb); (try clear hb2); (try clear hk); (try clear hi))))
              go_ret
              exact ⟨by rfl, bx HB.out⟩
          · replace c27 := Bool.eq_false_iff.mpr c27
            subst c27
            rw [if_neg Bool.false_ne_true] at H
            obtain rfl := Option.some.inj H
            have hz45 := cells_4 BK101.out
            go_wp2_with (first | (go_at_call 38; (with_reducible refine (spec_l5Entries.calls k1 _ _ l0_1 false _ (cx (Kd.C_below HR0_1.out HB.out)) HC0_1.out A26.out).mono ?_); rintro e w46 ⟨rfl, hb⟩; replace BK101 := kb BK101 hb; replace HB := kB HB hb; (try clear hb); (try clear hb2); (try clear hk); (try clear hi)))
            repeat (go_quiet (first | (go_at_call 38; (with_reducible refine (spec_l5Entries.calls k1 _ _ l0_1 false _ (cx (Kd.C_below HR0_1.out HB.out)) HC0_1.out A26.out).mono ?_); rintro e w46 ⟨rfl, hb⟩; replace BK101 := kb BK101 hb; replace HB := kB HB hb; (try clear hb); (try clear hb2); (try clear hk); (try clear hi))); try go_wp2_with (first | (go_at_call 38; (with_reducible refine (spec_l5Entries.calls k1 _ _ l0_1 false _ (cx (Kd.C_below HR0_1.out HB.out)) HC0_1.out A26.out).mono ?_); rintro e w46 ⟨rfl, hb⟩; replace BK101 := kb BK101 hb; replace HB := kB HB hb; (try clear hb); (try clear hb2); (try clear hk); (try clear hi))))
            go_ret
            exact ⟨by rfl, bx HB.out⟩
        · rw [if_neg c25] at H
          have c25b0 := decide_eq_false c25
          have c25b1 : decide (l0_0.length ≤ 24) = false := decide_eq_false (by omega)
          clear c25
          obtain rfl := Option.some.inj H
          have hz47 := cells_4 BK101.out
          go_wp2
          repeat (go_quiet (fail); try go_wp2)
          go_ret
          exact ⟨by rfl, bx HB.out⟩
end Go.Proofs.YtabindnaedchgaaDoor.M
end

section
-- Printed for this claim by a program (mprint.py) that uses the kit's print; Lean checks it.
namespace Go.Proofs.YtabindnaedchgaaDoor.M
open Go.RowKit Go.Proofs.YtabindnaedchgaaDoorW.PrintWords Go.Proofs.YtabindnaedchgaaDoorW.PrintLast Go.Proofs.YtabindnaedchgaaDoorW.PrintMore Go.Proofs.YtabindnaedchgaaDoor.Sq
set_option synthInstance.maxHeartbeats 2000000
set_option synthInstance.maxSize 4096
attribute [local go_sem] max2_int min2_int max_two min_two max_three min_three max_four min_four   -- for this text's walks alone
set_option linter.unusedVariables false
set_option linter.unusedSimpArgs false
theorem gf16 : Go_ Tryd.prog 16 Tryd.f16 := ⟨Tryd.func16, by kernel_rfl, rfl⟩
def spec_l1Cut.l0 : Nat → ByteArray → Int → List ByteArray → Int → Int → Option (List ByteArray)
  | 0, _, _, _, _, _ => none
  | k + 1, x0, x1, x5, x6, x7 => if x7 < (x0.size : Int) then (if 0 ≤ x7 then (if (bt x0 x7) = x1 then (if 0 ≤ x6 then (if x6 ≤ x7 then (if x7 ≤ (x0.size : Int) then (if x5.length < 8796093022208 then (spec_l1Cut.l0 k x0 x1 (x5 ++ [x0.extract (x6 : Int).toNat (x7 : Int).toNat]) (wrap64 (x7 + 1)) (wrap64 (x7 + 1))) else (none)) else (none)) else (none)) else (none)) else (spec_l1Cut.l0 k x0 x1 x5 x6 (wrap64 (x7 + 1)))) else (none)) else (if 0 ≤ x6 then (if x6 ≤ (x0.size : Int) then (if x5.length < 8796093022208 then (some (x5 ++ [x0.extract (x6 : Int).toNat x0.size])) else (none)) else (none)) else (none))
def spec_l1Cut.f (k : Nat) (a0 : ByteArray) (a1 : Int) : Option (List ByteArray) := spec_l1Cut.l0 k a0 a1 (([] : List ByteArray)) 0 0
theorem spec_l1Cut.mono_l : ∀ k, (∀ y0 y1 y2 y3 y4, LeO (spec_l1Cut.l0 k y0 y1 y2 y3 y4) (spec_l1Cut.l0 (k + 1) y0 y1 y2 y3 y4))
  | 0 => fun _ _ _ _ _ r h => by simp [spec_l1Cut.l0] at h
  | k + 1 => by
    have ih0 := spec_l1Cut.mono_l k
    · intro y0 y1 y2 y3 y4
      unfold spec_l1Cut.l0
      have I0_ := fun x0_ x1_ x2_ x3_ x4_ => LeC.mk (ih0 x0_ x1_ x2_ x3_ x4_)
      exact LeC.out
theorem spec_l1Cut.mono : ∀ a0 a1 k, LeO (spec_l1Cut.f k a0 a1) (spec_l1Cut.f (k + 1) a0 a1) := by
  intro a0 a1 k
  have ih0 := spec_l1Cut.mono_l k
  unfold spec_l1Cut.f
  have I0_ := fun x0_ x1_ x2_ x3_ x4_ => LeC.mk (ih0 x0_ x1_ x2_ x3_ x4_)
  exact LeC.out
set_option maxHeartbeats 8000000 in
set_option maxRecDepth 100000 in
theorem spec_l1Cut.calls (k : Nat) (a0 : ByteArray) (a1 : Int) (r : List ByteArray) (w : World) (h : spec_l1Cut.f k a0 a1 = some r) :
    Calls Tryd.prog 16 #[.string a0, .int .u8 a1] w fun e w' => ∃ v0_ : Value, e = .returned (v0_) ∧ Kd.R Kd.string 9 w' w.heap.size (fun _ => True) v0_ r ∧ Below w.heap.size w w' := by
  have HB := Aside0.mk (Below.refl w.heap.size w)
  unfold spec_l1Cut.f at h
  have H := h
  clear h
  obtain ⟨y101, hy101⟩ : ∃ y_ : List ByteArray, y_ = (([] : List ByteArray)) := ⟨_, rfl⟩
  replace H : (spec_l1Cut.l0 k a0 a1 y101 0 0) = some r := by first | (rw [hy101]; with_reducible exact H) | (have H2_ := (Option.bind_some _ _).symm.trans H; rw [hy101]; with_reducible exact H2_) | (have H2_ := (Option.bind_some _ _).symm.trans H; with_reducible exact H2_) | with_reducible exact H | (rw [hy101]; exact H) | exact H
  have Ny101 := Aside0.mk hy101
  clear hy101
  have H' := Aside0.mk H
  clear H
  go_enter Tryd.func16, Tryd.ntmps16
  go_wp2_with (first | ((with_reducible refine gate_dst (N := 8) rfl ?_); refine Kd.R_lit Kd.string _ 9 ?hg (N := 8) ?hd (xs := ([] : List ByteArray)) (inner := []) (ok := fun _ => True) (okp := fun _ => True) ?hr ?hp (fun _ hk => hk) trivial (Below.refl _ _) (Nat.le_refl _) (by simp) ?_; (case hd => rfl); (case hg => rfl); (case hr => first | (go_simp; done) | (go_simp; rfl)); (case hp => exact (Reps.none _ _)); intro v102 w3 ho4 hb hg_ hnew_; clear hg_ hnew_; (first | rw [← Ny101.out] at ho4 | (simp only [Int.reduceToNat] at ho4; rw [← Ny101.out] at ho4)); have HO103 := Aside0.mk (Kd.R_lower ho4 (bz HB.out)); replace HB := kB HB hb; clear hb ho4))
  go_loopg [5, 6, 7] k (fun kq v5 v6 v7 w' => ∃ (x5_1 : List ByteArray) (x6_1 : Int) (x7_1 : Int), v6 = .int .i64 x6_1 ∧ v7 = .int .i64 x7_1 ∧ Aside0 (spec_l1Cut.l0 kq a0 a1 x5_1 x6_1 x7_1 = some r) ∧ Aside0 (kq ≤ k) ∧ Aside0 (Kd.R Kd.string 9 w' w.heap.size (fun _ => True) v5 x5_1) ∧ Aside0 (Below w.heap.size w w'))
  case atStart => exact ⟨(y101), (0), (0), (by first | rfl | (simp; done) | (simp [*]; done)), (by first | rfl | (simp; done) | (simp [*]; done)), H', ⟨Nat.le_refl _⟩, ⟨rx HO103.out⟩, ⟨bx HB.out⟩⟩
  case round =>
    clear H'
    try clear c1
    try clear p2
    obtain ⟨x5_1, x6_1, x7_1, rfl, rfl, HA, HK1, HO_5, HB⟩ := hrel
    cases gk with
    | zero => exact absurd HA.out (by simp [spec_l1Cut.l0])
    | succ k1 =>
      have H := HA.out
      clear HA
      simp only [spec_l1Cut.l0] at H
      by_cases c5 : x7_1 < (a0.size : Int)
      · rw [if_pos c5] at H
        have c5b0 := decide_eq_true c5
        clear c5
        have c6 := ite_y H
        replace H := ite_t H
        have c6b0 := decide_eq_true c6
        clear c6
        by_cases c8 : (bt a0 x7_1) = a1
        · rw [if_pos c8] at H
          have c8b0 : ((bt a0 x7_1) == a1) = true := beq_iff_eq.mpr c8
          have c8b1 : ((bt a0 x7_1) != a1) = false := bne_eq_false_iff_eq.mpr c8
          clear c8
          have c9 := ite_y H
          replace H := ite_t H
          have c9b0 := eq_true c9
          have c9b1 := decide_eq_true c9
          clear c9
          have c10 := ite_y H
          replace H := ite_t H
          have c10b0 := eq_true c10
          have c10b1 := decide_eq_true c10
          clear c10
          have c11 := ite_y H
          replace H := ite_t H
          have c11b0 := eq_true c11
          have c11b1 := decide_eq_true c11
          clear c11
          have c12 := ite_y H
          replace H := ite_t H
          have LMc12 := Aside0.mk c12
          clear c12
          obtain ⟨y104, hy104⟩ : ∃ y_ : List ByteArray, y_ = (x5_1 ++ [a0.extract (x6_1 : Int).toNat (x7_1 : Int).toNat]) := ⟨_, rfl⟩
          replace H : (spec_l1Cut.l0 k1 a0 a1 y104 (wrap64 (x7_1 + 1)) (wrap64 (x7_1 + 1))) = some r := by first | (rw [hy104]; with_reducible exact H) | (have H2_ := (Option.bind_some _ _).symm.trans H; rw [hy104]; with_reducible exact H2_) | (have H2_ := (Option.bind_some _ _).symm.trans H; with_reducible exact H2_) | with_reducible exact H | (rw [hy104]; exact H) | exact H
          have Ny104 := Aside0.mk hy104
          clear hy104
          have H' := Aside0.mk H
          clear H
          have p7 := of_decide_eq_true c6b0
          have q7 := of_decide_eq_true c5b0
          have hx7 := bt_at a0 x7_1
          replace p7 := eq_true p7
          replace q7 := eq_true q7
          go_wp2_with (first | ((with_reducible refine gate_builtin (b := .append) (xs := #[.tmp 20, .tmp 25]) rfl ?_); at_builtin; refine Kd.R_append Kd.string (w0 := w) w.heap.size rfl (.tmp 20) (.tmp 25) 22 9 (.string ⟨#[]⟩) 16 rfl Tryd.underlying22 info9 rfl (by decide) (by omega) u5 x5_1 (a0.extract (x6_1 : Int).toNat (x7_1 : Int).toNat) [.string (a0.extract (x6_1 : Int).toNat (x7_1 : Int).toNat)] (fun _ => True) (fun _ => False) rfl rfl ?aP (fun _ hk => hk.elim) ?aF ?aO ?aB ?aS ?aL ?_; (case aP => exact rfl); (case aB => exact (bx HB.out)); (case aF => exact (fun _ _ => trivial)); (case aO => exact (rx HO_5.out)); (case aS => exact (bz HB.out)); (case aL => have := LMc12.out; omega); intro v105 w13 ho hb hg hat; rw [← Ny104.out] at ho; replace HB := Aside0.mk (hb); have HO106 := Aside0.mk (ho); clear HO_5; clear ho hb hg hat))
          go_roundg k1
          case measure => have := HK1.out; omega
          case rel => exact ⟨(y104), (wrap64 (x7_1 + 1)), (wrap64 (x7_1 + 1)), (by first | rfl | (simp; done) | (simp [*]; done)), (by first | rfl | (simp; done) | (simp [*]; done)), H', ⟨by have := HK1.out; omega⟩, ⟨rx HO106.out⟩, ⟨bx HB.out⟩⟩
        · rw [if_neg c8] at H
          have c8b0 : ((bt a0 x7_1) == a1) = false := beq_eq_false_iff_ne.mpr c8
          have c8b1 : ((bt a0 x7_1) != a1) = true := bne_iff_ne.mpr c8
          have H' := Aside0.mk H
          clear H
          have p7 := of_decide_eq_true c6b0
          have q7 := of_decide_eq_true c5b0
          have hx7 := bt_at a0 x7_1
          replace p7 := eq_true p7
          replace q7 := eq_true q7
          go_wp2
          go_roundg k1
          case measure => have := HK1.out; omega
          case rel => exact ⟨(x5_1), (x6_1), (wrap64 (x7_1 + 1)), (by first | rfl | (simp; done) | (simp [*]; done)), (by first | rfl | (simp; done) | (simp [*]; done)), H', ⟨by have := HK1.out; omega⟩, ⟨rx HO_5.out⟩, ⟨bx HB.out⟩⟩
      · rw [if_neg c5] at H
        have c5b0 := decide_eq_false c5
        clear c5
        have c14 := ite_y H
        replace H := ite_t H
        have c14b0 := eq_true c14
        have c14b1 := decide_eq_true c14
        clear c14
        have c15 := ite_y H
        replace H := ite_t H
        have c15b0 := eq_true c15
        have c15b1 := decide_eq_true c15
        clear c15
        have c16 := ite_y H
        replace H := ite_t H
        have LMc16 := Aside0.mk c16
        clear c16
        obtain ⟨y107, hy107⟩ : ∃ y_ : List ByteArray, y_ = (x5_1 ++ [a0.extract (x6_1 : Int).toNat a0.size]) := ⟨_, rfl⟩
        replace H : (some y107) = some r := by first | (rw [hy107]; with_reducible exact H) | (have H2_ := (Option.bind_some _ _).symm.trans H; rw [hy107]; with_reducible exact H2_) | (have H2_ := (Option.bind_some _ _).symm.trans H; with_reducible exact H2_) | with_reducible exact H | (rw [hy107]; exact H) | exact H
        have Ny107 := Aside0.mk hy107
        clear hy107
        obtain rfl := Option.some.inj H
        go_wp2_with (first | ((with_reducible refine gate_builtin (b := .append) (xs := #[.tmp 29, .tmp 33]) rfl ?_); at_builtin; refine Kd.R_append Kd.string (w0 := w) w.heap.size rfl (.tmp 29) (.tmp 33) 22 9 (.string ⟨#[]⟩) 16 rfl Tryd.underlying22 info9 rfl (by decide) (by omega) u5 x5_1 (a0.extract (x6_1 : Int).toNat a0.size) [.string (a0.extract (x6_1 : Int).toNat a0.size)] (fun _ => True) (fun _ => False) rfl rfl ?aP (fun _ hk => hk.elim) ?aF ?aO ?aB ?aS ?aL ?_; (case aP => exact rfl); (case aB => exact (bx HB.out)); (case aF => exact (fun _ _ => trivial)); (case aO => exact (rx HO_5.out)); (case aS => exact (bz HB.out)); (case aL => have := LMc16.out; omega); intro v108 w17 ho hb hg hat; rw [← Ny107.out] at ho; replace HB := Aside0.mk (hb); have HO109 := Aside0.mk (ho); clear HO_5; clear ho hb hg hat))
        go_ret
        exact ⟨_, by rfl, rx HO109.out, bx HB.out⟩
end Go.Proofs.YtabindnaedchgaaDoor.M
end
