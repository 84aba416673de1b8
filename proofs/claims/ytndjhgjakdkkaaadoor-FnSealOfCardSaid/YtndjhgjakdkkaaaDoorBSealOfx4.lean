import Derived.Test.YtndjhgjakdkkaaaDoorBSealOfx1
import Derived.Test.YtndjhgjakdkkaaaDoorBSealOfx3
import Derived.Test.YtndjhgjakdkkaaaDoorBSealOfx2
import Derived.Laws.BitsLemmas

section
-- Printed for this claim by a program (mprint.py) that uses the kit's print; Lean checks it.
namespace Go.Proofs.YtndjhgjakdkkaaaDoor.M
open Go.RowKit Go.Proofs.YtndjhgjakdkkaaaDoorW.PrintWords Go.Proofs.YtndjhgjakdkkaaaDoorW.PrintLast Go.Proofs.YtndjhgjakdkkaaaDoorW.PrintMore
attribute [local go_sem] max2_int min2_int max_two min_two max_three min_three max_four min_four   -- for this text's walks alone
set_option linter.unusedVariables false
set_option linter.unusedSimpArgs false

/-! ### impl_HashSum: function 13 -/
def impl_HashSum.f (k : Nat) (a0 : ByteArray) : Option (ByteArray) := (impl_sha256Of.f a0).bind fun t101 => ((impl_hexOf.f k t101).bind fun t102 => (some t102))
theorem impl_HashSum.mono : ∀ a0 k, LeO (impl_HashSum.f k a0) (impl_HashSum.f (k + 1) a0) := by
  intro a0 k
  unfold impl_HashSum.f
  repeat' first
      | (with_reducible exact impl_hexOf.mono _ _)
      | (with_reducible exact LeO.refl _)
      | (with_reducible exact LeO.none _)
      | (with_reducible refine LeO.ite ?_ ?_)
      | (with_reducible refine LeO.bind ?_ (fun _ => ?_))
      | exact impl_hexOf.mono _ _
      | exact LeO.none _
      | refine LeO.ite ?_ ?_
      | refine LeO.bind ?_ (fun _ => ?_)
set_option maxHeartbeats 8000000 in
set_option maxRecDepth 100000 in
theorem impl_HashSum.calls (k : Nat) (a0 : ByteArray) (r : ByteArray) (w : World) (hGs : GWs w) (h : impl_HashSum.f k a0 = some r) :
    Calls Tryd.prog 13 #[.string a0] w fun e w' => e = .returned (.string r) ∧ Below w.heap.size w w' := by
  have HGWs := Aside0.mk hGs
  clear hGs
  have HB := Aside0.mk (Below.refl w.heap.size w)
  have H : ((impl_sha256Of.f a0).bind fun t101 => ((impl_hexOf.f k t101).bind fun t102 => (some t102))) = some r := h
  clear h
  replace H := Option.bind_eq_some_iff.mp H
  obtain ⟨t101, A20, H⟩ := H
  replace H : ((impl_hexOf.f k t101).bind fun t102 => (some t102)) = some r := H
  have A2 := Aside0.mk A20
  clear A20
  replace H := Option.bind_eq_some_iff.mp H
  obtain ⟨t102, A30, H⟩ := H
  replace H : (some t102) = some r := H
  have A3 := Aside0.mk A30
  clear A30
  obtain rfl := Option.some.inj H
  go_enter Tryd.func13, Tryd.ntmps13
  go_wp2_with (first | ((with_reducible refine gate_callee (f := 41) rfl ?_); refine goesL_ (some 4) rfl rfl Tryd.func41 (by kernel_rfl) rfl #[.string a0] rfl (by (try simp only [List.map_toArray, List.map_cons, List.map_nil]); first | done | rfl | (simp only [List.length_drop, List.length_take]; rfl)) ?_; (with_reducible refine (impl_sha256Of.calls a0 t101 _ ?side1 A2.out).mono ?_); (case side1 => exact GWs.below HGWs.out (by repeat (first | (with_reducible first | exact HB.out | apply below_alloc | apply pw_below_drewN | apply below_drew1) | exact HB.out))); rintro e w4 ⟨rfl, hb⟩; refine ⟨_, rfl, ?_⟩; have n0_ := Aside0.mk (below_step (by repeat (first | (with_reducible first | exact HB.out | apply below_alloc | apply pw_below_drewN | apply below_drew1) | exact HB.out)) hb); clear HB; have HB := n0_; clear n0_; (try clear hb); (try clear hb2); (try clear hk); (try clear hi)) | ((with_reducible refine gate_callee (f := 40) rfl ?_); refine goesL_ (some 5) rfl rfl Tryd.func40 (by kernel_rfl) rfl #[.string t101] rfl (by (try simp only [List.map_toArray, List.map_cons, List.map_nil]); first | done | rfl | (simp only [List.length_drop, List.length_take]; rfl)) ?_; (with_reducible refine (impl_hexOf.calls k t101 t102 _ A3.out).mono ?_); rintro e w5 ⟨rfl, hb⟩; refine ⟨_, rfl, ?_⟩; have n0_ := Aside0.mk (below_step (by repeat (first | (with_reducible first | exact HB.out | apply below_alloc | apply pw_below_drewN | apply below_drew1) | exact HB.out)) hb); clear HB; have HB := n0_; clear n0_; (try clear hb); (try clear hb2); (try clear hk); (try clear hi)))
  go_ret
  exact ⟨by first | rfl | (simp [errW_none, errW_some] <;> rfl) | (simp [*, errW_none, errW_some] <;> rfl), by repeat (first | (with_reducible first | exact HB.out | apply below_alloc | apply pw_below_drewN | apply below_drew1) | exact HB.out)⟩

end Go.Proofs.YtndjhgjakdkkaaaDoor.M
end

section
-- Printed for this claim by a program (mprint.py) that uses the kit's print; Lean checks it.
namespace Go.Proofs.YtndjhgjakdkkaaaDoor.M
open Go.RowKit Go.Proofs.YtndjhgjakdkkaaaDoorW.PrintWords Go.Proofs.YtndjhgjakdkkaaaDoorW.PrintLast Go.Proofs.YtndjhgjakdkkaaaDoorW.PrintMore
attribute [local go_sem] max2_int min2_int max_two min_two max_three min_three max_four min_four   -- for this text's walks alone
set_option linter.unusedVariables false
set_option linter.unusedSimpArgs false

/-! ### spec_HashSum: function 12 -/
def spec_HashSum.f (k : Nat) (a0 : ByteArray) : Option (ByteArray) := (spec_l6Sum.f a0).bind fun t101 => ((spec_l6Hex.f k t101).bind fun t102 => (some t102))
theorem spec_HashSum.mono : ∀ a0 k, LeO (spec_HashSum.f k a0) (spec_HashSum.f (k + 1) a0) := by
  intro a0 k
  unfold spec_HashSum.f
  repeat' first
      | (with_reducible exact spec_l6Hex.mono _ _)
      | (with_reducible exact LeO.refl _)
      | (with_reducible exact LeO.none _)
      | (with_reducible refine LeO.ite ?_ ?_)
      | (with_reducible refine LeO.bind ?_ (fun _ => ?_))
      | exact spec_l6Hex.mono _ _
      | exact LeO.none _
      | refine LeO.ite ?_ ?_
      | refine LeO.bind ?_ (fun _ => ?_)
set_option maxHeartbeats 8000000 in
set_option maxRecDepth 100000 in
theorem spec_HashSum.calls (k : Nat) (a0 : ByteArray) (r : ByteArray) (w : World) (h : spec_HashSum.f k a0 = some r) :
    Calls Tryd.prog 12 #[.string a0] w fun e w' => e = .returned (.string r) ∧ Below w.heap.size w w' := by
  have HB := Aside0.mk (Below.refl w.heap.size w)
  have H : ((spec_l6Sum.f a0).bind fun t101 => ((spec_l6Hex.f k t101).bind fun t102 => (some t102))) = some r := h
  clear h
  replace H := Option.bind_eq_some_iff.mp H
  obtain ⟨t101, A20, H⟩ := H
  replace H : ((spec_l6Hex.f k t101).bind fun t102 => (some t102)) = some r := H
  have A2 := Aside0.mk A20
  clear A20
  replace H := Option.bind_eq_some_iff.mp H
  obtain ⟨t102, A30, H⟩ := H
  replace H : (some t102) = some r := H
  have A3 := Aside0.mk A30
  clear A30
  obtain rfl := Option.some.inj H
  go_enter Tryd.func12, Tryd.ntmps12
  go_wp2_with (first | ((with_reducible refine gate_callee (f := 39) rfl ?_); refine goesL_ (some 4) rfl rfl Tryd.func39 (by kernel_rfl) rfl #[.string a0] rfl (by (try simp only [List.map_toArray, List.map_cons, List.map_nil]); first | done | rfl | (simp only [List.length_drop, List.length_take]; rfl)) ?_; (with_reducible refine (spec_l6Sum.calls a0 t101 _ A2.out).mono ?_); rintro e w4 ⟨rfl, hb⟩; refine ⟨_, rfl, ?_⟩; have n0_ := Aside0.mk (below_step (by repeat (first | (with_reducible first | exact HB.out | apply below_alloc | apply pw_below_drewN | apply below_drew1) | exact HB.out)) hb); clear HB; have HB := n0_; clear n0_; (try clear hb); (try clear hb2); (try clear hk); (try clear hi)) | ((with_reducible refine gate_callee (f := 38) rfl ?_); refine goesL_ (some 5) rfl rfl Tryd.func38 (by kernel_rfl) rfl #[.string t101] rfl (by (try simp only [List.map_toArray, List.map_cons, List.map_nil]); first | done | rfl | (simp only [List.length_drop, List.length_take]; rfl)) ?_; (with_reducible refine (spec_l6Hex.calls k t101 t102 _ A3.out).mono ?_); rintro e w5 ⟨rfl, hb⟩; refine ⟨_, rfl, ?_⟩; have n0_ := Aside0.mk (below_step (by repeat (first | (with_reducible first | exact HB.out | apply below_alloc | apply pw_below_drewN | apply below_drew1) | exact HB.out)) hb); clear HB; have HB := n0_; clear n0_; (try clear hb); (try clear hb2); (try clear hk); (try clear hi)))
  go_ret
  exact ⟨by first | rfl | (simp [errW_none, errW_some] <;> rfl) | (simp [*, errW_none, errW_some] <;> rfl), by repeat (first | (with_reducible first | exact HB.out | apply below_alloc | apply pw_below_drewN | apply below_drew1) | exact HB.out)⟩

end Go.Proofs.YtndjhgjakdkkaaaDoor.M
end

section
/- HashSum and SealOf, plain: the program's are the reference's. -/
namespace Go.Proofs.YtndjhgjakdkkaaaDoor.M
open Go.RowKit Go.Proofs.YtndjhgjakdkkaaaDoorW.PrintWords Go.Proofs.YtndjhgjakdkkaaaDoorW.PrintMore Go.Proofs.YtndjhgjakdkkaaaDoor.Pu Go.Proofs.YtndjhgjakdkkaaaDoor.Sha
set_option linter.unusedVariables false
set_option linter.unusedSimpArgs false
def hexDigits : ByteArray := ⟨#[48, 49, 50, 51, 52, 53, 54, 55, 56, 57, 97, 98, 99, 100, 101, 102]⟩
/-- The bytes in hexadecimal, as far as n. -/
def hexTo (s : ByteArray) : Nat → List Int
  | 0 => []
  | n + 1 => hexTo s n ++ [bt hexDigits (bt s (n : Int) / 16), bt hexDigits (bt s (n : Int) % 16)]
theorem hexTo_length (s : ByteArray) : ∀ n, (hexTo s n).length = 2 * n
  | 0 => rfl
  | n + 1 => by simp only [hexTo, List.length_append, hexTo_length s n, List.length_cons, List.length_nil]; omega
def hexOf (s : ByteArray) : ByteArray := strOfNums (hexTo s s.size)
theorem hex_facts (s : ByteArray) (i : Int) : Int.tdiv (bt s i) 16 % 256 = bt s i / 16 ∧ Int.tmod (bt s i) 16 = bt s i % 16 ∧ 0 ≤ bt s i / 16 ∧ bt s i / 16 < 16 ∧ 0 ≤ bt s i % 16 ∧ bt s i % 16 < 16 := by
  have h0 := bt_ge s i
  have h1 := bt_le s i
  rw [Int.tdiv_eq_ediv_of_nonneg h0, Int.tmod_eq_emod_of_nonneg h0]
  omega
theorem implHex_ev (s : ByteArray) (hs : s.size ≤ 1099511627776) : Ev (fun k => impl_hexOf.f k s) (hexOf s) := by
  unfold impl_hexOf.f
  refine fold_loop (g := fun k x i => impl_hexOf.l0 k s x i) s.size (hexTo s) _ ?_ ?_
  · intro i hi h
    apply Ev.succ
    obtain ⟨f1, f2, f3, f4, f5, f6⟩ := hex_facts s (i : Int)
    have e4 : wrap64 ((i : Int) + 1) = (i : Int) + 1 := wid (by omega) (by omega)
    simp only [impl_hexOf.l0, f1, f2, e4, Option.bind_some]
    clear e4 f1 f2
    refine Ev.ifp (by omega) (Ev.ifp (by omega) (Ev.ifp f3 (Ev.ifp f4 (Ev.ifp f5 (Ev.ifp f6 (Ev.ifp ?_ h))))))
    rw [hexTo_length]
    simp only [List.length_cons, List.length_nil]
    omega
  · apply Ev.succ
    simp only [impl_hexOf.l0]
    exact Ev.ifn (by omega) (Ev.now _)
theorem specHex_ev (s : ByteArray) (hs : s.size ≤ 1099511627776) : Ev (fun k => spec_l6Hex.f k s) (hexOf s) := by
  unfold spec_l6Hex.f
  refine fold_loop (g := fun k x i => spec_l6Hex.l0 k s hexDigits x i) s.size (hexTo s) _ ?_ ?_
  · intro i hi h
    apply Ev.succ
    obtain ⟨f1, f2, f3, f4, f5, f6⟩ := hex_facts s (i : Int)
    have e4 : wrap64 ((i : Int) + 1) = (i : Int) + 1 := wid (by omega) (by omega)
    have e5 : (hexDigits.size : Int) = 16 := rfl
    simp only [spec_l6Hex.l0, f1, f2, e4, e5, Option.bind_some]
    clear e4 f1 f2
    refine Ev.ifp (by omega) (Ev.ifp (by omega) (Ev.ifp f3 (Ev.ifp f4 (Ev.ifp f5 (Ev.ifp f6 (Ev.ifp ?_ h))))))
    rw [hexTo_length]
    simp only [List.length_cons, List.length_nil]
    omega
  · apply Ev.succ
    simp only [spec_l6Hex.l0]
    exact Ev.ifn (by omega) (Ev.now _)
def sha (s : ByteArray) : ByteArray := strOfNums (sumOf shaTab (bytesOf s))
theorem sha_size (s : ByteArray) : (sha s).size = 32 := shaOf_size s
def hashSum (s : ByteArray) : ByteArray := hexOf (sha s)
theorem implHash_ev (s : ByteArray) (hs : s.size ≤ 1099511627776) : Ev (fun k => impl_HashSum.f k s) (hashSum s) := by
  unfold impl_HashSum.f impl_sha256Of.f
  rw [if_pos hs]
  simp only [Option.bind_some]
  exact Ev.bind (implHex_ev (sha s) (by rw [sha_size]; decide)) (Ev.now _)
theorem specHash_ev (s : ByteArray) (hs : s.size ≤ 1099511627776) : Ev (fun k => spec_HashSum.f k s) (hashSum s) := by
  unfold spec_HashSum.f spec_l6Sum.f
  rw [if_pos hs]
  simp only [Option.bind_some]
  exact Ev.bind (specHex_ev (sha s) (by rw [sha_size]; decide)) (Ev.now _)
theorem pu_within (a b c : Int) : impl_within.f a b c = some (decide (b ≤ a ∧ a ≤ c)) := by
  unfold impl_within.f
  by_cases h : a ≥ b
  · have h' : b ≤ a := h
    simp [h']
  · have h' : ¬ b ≤ a := h
    simp [h']
theorem pu_l1In (a b c : Int) : spec_l1In.f a b c = some (decide (b ≤ a ∧ a ≤ c)) := by
  unfold spec_l1In.f
  by_cases h : a ≥ b
  · have h' : b ≤ a := h
    simp [h']
  · have h' : ¬ b ≤ a := h
    simp [h']
def keyB (a : ByteArray) : Bool := decide ((1 : Int) ≤ (a.size : Int) ∧ (a.size : Int) ≤ 64) && (bt a ((a.size : Int) - 1) != 0)
theorem keyB_size {a : ByteArray} (h : keyB a = true) : 1 ≤ a.size ∧ a.size ≤ 64 := by
  simp only [keyB, Bool.and_eq_true, decide_eq_true_eq] at h
  omega
theorem implKey_eq (a : ByteArray) (w : a.size ≤ 140737488355328) : impl_keyOk.f a = some (keyB a) := by
  unfold impl_keyOk.f keyB
  rw [pu_within]
  simp only [Option.bind_some]
  by_cases h : (1 : Int) ≤ (a.size : Int) ∧ (a.size : Int) ≤ 64
  · have e : wrap64 ((a.size : Int) - 1) = (a.size : Int) - 1 := wid (by omega) (by omega)
    have c0 : (0 : Int) ≤ (a.size : Int) - 1 := by omega
    have c1 : (a.size : Int) - 1 < (a.size : Int) := by omega
    simp only [e, h, c0, c1, and_self, decide_true, if_true, Bool.true_and]
  · simp only [h, decide_false, Bool.false_eq_true, if_false, Bool.false_and]
theorem specKey_eq (a : ByteArray) (w : a.size ≤ 140737488355328) : spec_l6Key.f a = some (keyB a) := by
  unfold spec_l6Key.f keyB
  rw [pu_l1In]
  simp only [Option.bind_some]
  by_cases h : (1 : Int) ≤ (a.size : Int) ∧ (a.size : Int) ≤ 64
  · have e : wrap64 ((a.size : Int) - 1) = (a.size : Int) - 1 := wid (by omega) (by omega)
    have c0 : (0 : Int) ≤ (a.size : Int) - 1 := by omega
    have c1 : (a.size : Int) - 1 < (a.size : Int) := by omega
    simp only [e, h, c0, c1, and_self, decide_true, if_true, Bool.true_and]
  · simp only [h, decide_false, Bool.false_eq_true, if_false, Bool.false_and]
theorem padB_at (key : ByteArray) (i : Nat) : (padB key).getD i 0 = if i < key.size then bt key (i : Int) else 0 := by
  simp only [padB, List.getD_eq_getElem?_getD]
  by_cases h : i < key.size
  · rw [List.getElem?_append_left (by rw [bytesOf_length]; exact h), if_pos h, bt_nat, dif_pos h]
    simp [bytesOf, h]
    rfl
  · rw [List.getElem?_append_right (by rw [bytesOf_length]; omega), if_neg h, List.getElem?_replicate]
    split <;> rfl
theorem pad_ev (key : ByteArray) (c : Int) (hk : key.size ≤ 64) : Ev (fun k => spec_l6Pad.f k key c) (padx key c) := by
  unfold spec_l6Pad.f
  have hl : ((padB key).map fun b => Go.bits .xor .u8 b c).length = 64 := by rw [List.length_map, padB_length _ hk]
  refine fold_loop (g := fun k x i => spec_l6Pad.l0 k key c x i) 64 (fun i => ((padB key).map fun b => Go.bits .xor .u8 b c).take i) _ ?_ ?_
  · intro i hi h
    apply Ev.succ
    have e4 : wrap64 ((i : Int) + 1) = (i : Int) + 1 := wid (by omega) (by omega)
    have hsn : ((padB key).map fun b => Go.bits .xor .u8 b c).take (i + 1) = ((padB key).map fun b => Go.bits .xor .u8 b c).take i ++ [Go.bits .xor .u8 ((padB key).getD i 0) c] := by
      rw [List.take_succ_eq_append_getElem (by omega)]
      have hi2 : i < (padB key).length := by rw [padB_length _ hk]; exact hi
      simp [List.getD_eq_getElem?_getD, hi2]
    rw [hsn, padB_at] at h
    have hlt : (((padB key).map fun b => Go.bits .xor .u8 b c).take i).length < 140737488355328 := by rw [List.length_take]; omega
    simp only [spec_l6Pad.l0, e4]
    clear e4
    refine Ev.ifp (by omega) ?_
    by_cases hi2 : i < key.size
    · rw [if_pos hi2] at h
      exact Ev.ifp (by omega) (Ev.ifp (by omega) (Ev.ifp hlt h))
    · rw [if_neg hi2] at h
      exact Ev.ifn (by omega) (Ev.ifp hlt h)
  · apply Ev.succ
    simp only [spec_l6Pad.l0]
    refine Ev.ifn (by omega) (Ev.cast (Ev.now _) ?_)
    rw [List.take_of_length_le (by omega)]
    rfl
theorem padx_size (key : ByteArray) (c : Int) (hk : key.size ≤ 64) : (padx key c).size = 64 := by rw [padx, strOfNums_size, List.length_map, padB_length _ hk]
def sealOf (key text : ByteArray) : ByteArray := if keyB key = true then hexOf (hmac key text) else ⟨#[]⟩
theorem implSeal_ev (key text : ByteArray) (hk : key.size ≤ 140737488355328) (ht : text.size ≤ 549755813888) : Ev (fun k => impl_SealOf.f k key text) (sealOf key text) := by
  unfold impl_SealOf.f sealOf
  rw [implKey_eq key hk]
  simp only [Option.bind_some]
  by_cases h : keyB key = true
  · rw [if_pos h]
    refine Ev.ifp h ?_
    unfold impl_hmacOf.f
    rw [if_pos (keyB_size h).2, if_pos ht]
    simp only [Option.bind_some]
    exact Ev.bind (implHex_ev _ (by rw [hmac, shaOf_size]; decide)) (Ev.now _)
  · rw [if_neg h]
    exact Ev.ifn h (Ev.now _)
theorem specSeal_ev (key text : ByteArray) (hk : key.size ≤ 140737488355328) (ht : text.size ≤ 549755813888) : Ev (fun k => spec_SealOf.f k key text) (sealOf key text) := by
  unfold spec_SealOf.f sealOf
  rw [specKey_eq key hk]
  simp only [Option.bind_some]
  by_cases h : keyB key = true
  · rw [if_pos h]
    have hk2 := (keyB_size h).2
    refine Ev.ifp h (Ev.bind (pad_ev key 92 hk2) (Ev.bind (pad_ev key 54 hk2) (Ev.ifp ?_ ?_)))
    · rw [padx_size _ _ hk2]; omega
    unfold spec_l6Sum.f
    rw [if_pos (show (padx key 54 ++ text).size ≤ 1099511627776 by rw [ByteArray.size_append, padx_size _ _ hk2]; omega)]
    simp only [Option.bind_some]
    refine Ev.ifp ?_ ?_
    · rw [padx_size _ _ hk2, show (strOfNums (sumOf shaTab (bytesOf (padx key 54 ++ text)))).size = 32 from sha_size _]; decide
    rw [if_pos (show (padx key 92 ++ strOfNums (sumOf shaTab (bytesOf (padx key 54 ++ text)))).size ≤ 1099511627776 by rw [ByteArray.size_append, padx_size _ _ hk2, show (strOfNums (sumOf shaTab (bytesOf (padx key 54 ++ text)))).size = 32 from sha_size _]; decide)]
    simp only [Option.bind_some]
    exact Ev.bind (specHex_ev _ (by rw [show (strOfNums (sumOf shaTab (bytesOf (padx key 92 ++ strOfNums (sumOf shaTab (bytesOf (padx key 54 ++ text))))))).size = 32 from sha_size _]; decide)) (Ev.now _)
  · rw [if_neg h]
    exact Ev.ifn h (Ev.now _)
end Go.Proofs.YtndjhgjakdkkaaaDoor.M
end

section
/- The reader that draws: its picks stay in their range. -/
namespace Go.Proofs.YtndjhgjakdkkaaaDoor.M
open Go.RowKit Go.Proofs.YtndjhgjakdkkaaaDoorW.PrintWords Go.Proofs.YtndjhgjakdkkaaaDoor.Pu
set_option linter.unusedVariables false
set_option linter.unusedSimpArgs false

/-- A code: bytes, not too many. -/
def Code (s : List Int) : Prop := (∀ b ∈ s, 0 ≤ b ∧ b ≤ 255) ∧ s.length ≤ 2000
theorem wraps_i64 (n : Int) (h₀ : 0 ≤ n) (h₁ : n < 2 ^ 62) : IntKind.i64.wrap n = n := by rw [IntKind.wrap_i64]; omega
theorem xor_nat (a b : Nat) (ha : a < 2 ^ 62) (hb : b < 2 ^ 62) : Go.bits .xor .i64 (a : Int) (b : Int) = ((a ^^^ b : Nat) : Int) := by
  have h2 : 2 ^ 62 ≤ 2 ^ IntKind.i64.bits := Nat.pow_le_pow_right (by decide) (by decide)
  have ha' : a % 2 ^ IntKind.i64.bits = a := Nat.mod_eq_of_lt (Nat.lt_of_lt_of_le ha h2)
  have hb' : b % 2 ^ IntKind.i64.bits = b := Nat.mod_eq_of_lt (Nat.lt_of_lt_of_le hb h2)
  simp only [Go.bits, BitVec.ofInt_natCast, BitVec.toNat_xor, BitVec.toNat_ofNat, ha', hb']
  exact wraps_i64 _ (Int.natCast_nonneg _) (by exact_mod_cast Nat.xor_lt_two_pow ha hb)
theorem xor_ge (a b : Int) (ha : 0 ≤ a) (hb : 0 ≤ b) (ha1 : a < 2 ^ 62) (hb1 : b < 2 ^ 62) : 0 ≤ Go.bits .xor .i64 a b := by
  obtain ⟨m, rfl⟩ := Int.eq_ofNat_of_zero_le ha
  obtain ⟨n, rfl⟩ := Int.eq_ofNat_of_zero_le hb
  rw [xor_nat m n (by exact_mod_cast ha1) (by exact_mod_cast hb1)]
  exact Int.natCast_nonneg _
theorem code_rd {s : List Int} (h : Code s) (i : Int) : 0 ≤ rd s i ∧ rd s i ≤ 255 := by
  unfold rd
  rw [List.getD_eq_getElem?_getD]
  cases e : s[i.toNat]? with
  | none => simp
  | some b => exact h.1 b (List.mem_of_getElem? e)
theorem l1Open_eq (s : List Int) (hs : ∀ b ∈ s, 0 ≤ b ∧ b ≤ 255) : ∃ s', spec_l1Open.f s = some (s', 0) ∧ Code s' := by
  unfold spec_l1Open.f
  by_cases c : (s.length : Int) > 2000
  · have c2 : (2000 : Int) ≤ (s.length : Int) := by omega
    rw [if_pos c, if_pos c2]
    exact ⟨_, rfl, fun b hb => hs b (List.mem_of_mem_take hb), List.length_take_le _ _⟩
  · rw [if_neg c]
    exact ⟨_, rfl, hs, by omega⟩
theorem pick_ev (s : List Int) (hs : Code s) (p n : Int) (hp0 : 0 ≤ p) (hp1 : p ≤ 1000000000) (hn : n ≤ 1000000) :
    ∃ r, Ev (fun k => spec_l1Rd_pick.f k s p n) (r, p + 1) ∧ 0 ≤ r ∧ (1 ≤ n → r < n) ∧ (n < 1 → r = 0) := by
  have w1 : Aside0 (wrap64 (p + 1) = p + 1) := ⟨wid (by omega) (by omega)⟩
  have w2 : Aside0 (wrap64 (p + 1 - 1) = p) := ⟨by rw [wid (by omega) (by omega)]; omega⟩
  unfold spec_l1Rd_pick.f
  by_cases c : n < 1
  · refine ⟨0, ?_, Int.le_refl _, fun h => by omega, fun _ => rfl⟩
    simp only [c, if_true, w1.out]
    apply Ev.succ
    simp only [spec_l1Rd_pick.j0, if_true]
    exact Ev.now _
  · simp only [c, if_false, w1.out]
    by_cases z : s.length = 0
    · refine ⟨0, ?_, Int.le_refl _, fun h => by omega, fun _ => rfl⟩
      have z1 : ((s.length : Int) == 0) = true := by rw [beq_iff_eq]; omega
      apply Ev.succ
      simp only [spec_l1Rd_pick.j0, z1, if_true]
      exact Ev.now _
    · have z1 : ((s.length : Int) == 0) = false := by rw [beq_eq_false_iff_ne]; omega
      have n0 : ¬ n = 0 := by omega
      have hl := hs.2
      have tm : ∀ x : Int, 0 ≤ x → 0 ≤ Int.tmod x n ∧ Int.tmod x n < n := fun x hx => ⟨Int.tmod_nonneg _ hx, Int.tmod_lt_of_pos _ (by omega)⟩
      by_cases q : p < (s.length : Int)
      · have r0 := code_rd hs p
        have w3 : Aside0 (wrap64 (rd s p) = rd s p) := ⟨wid (by omega) (by omega)⟩
        refine ⟨Int.tmod (rd s p) n, ?_, (tm _ r0.1).1, fun _ => (tm _ r0.1).2, fun h => by first | exact absurd h c | exact h.elim⟩
        apply Ev.succ
        simp only [spec_l1Rd_pick.j0, z1, Bool.false_eq_true, if_false, w2.out, q, hp0, n0, w3.out, if_true]
        exact Ev.now _
      · have l0 : ¬ (s.length : Int) = 0 := by omega
        have m1 : 0 ≤ Int.tmod p (s.length : Int) ∧ Int.tmod p (s.length : Int) < (s.length : Int) := ⟨Int.tmod_nonneg _ hp0, Int.tmod_lt_of_pos _ (by omega)⟩
        have w7 : Aside0 (wrap64 (p * 7) = p * 7) := ⟨wid (by omega) (by omega)⟩
        have w8 : Aside0 (wrap64 (p * 7 + 3) = p * 7 + 3) := ⟨wid (by omega) (by omega)⟩
        have m2 : 0 ≤ Int.tmod (p * 7 + 3) (s.length : Int) ∧ Int.tmod (p * 7 + 3) (s.length : Int) < (s.length : Int) := ⟨Int.tmod_nonneg _ (by omega), Int.tmod_lt_of_pos _ (by omega)⟩
        generalize hA : Int.tmod p (s.length : Int) = A at m1
        generalize hB : Int.tmod (p * 7 + 3) (s.length : Int) = B at m2
        have ra := code_rd hs A
        have rb := code_rd hs B
        generalize hX : rd s A = X at ra
        generalize hY : rd s B = Y at rb
        have hd : 0 ≤ Int.tdiv p (s.length : Int) ∧ Int.tdiv p (s.length : Int) ≤ p := by
          refine ⟨Int.tdiv_nonneg hp0 (by omega), ?_⟩
          rw [Int.tdiv_eq_ediv_of_nonneg hp0]
          exact Int.ediv_le_self _ hp0
        generalize hD : Int.tdiv p (s.length : Int) = D at hd
        have v1 : Aside0 (wrap64 X = X) := ⟨wid (by omega) (by omega)⟩
        have v2 : Aside0 (wrap64 (X * 131) = X * 131) := ⟨wid (by omega) (by omega)⟩
        have v3 : Aside0 (wrap64 Y = Y) := ⟨wid (by omega) (by omega)⟩
        have v4 : Aside0 (wrap64 (Y * 1117) = Y * 1117) := ⟨wid (by omega) (by omega)⟩
        have v5 : Aside0 (wrap64 (X * 131 + Y * 1117) = X * 131 + Y * 1117) := ⟨wid (by omega) (by omega)⟩
        have v6 : Aside0 (wrap64 (p * 29) = p * 29) := ⟨wid (by omega) (by omega)⟩
        have v7 : Aside0 (wrap64 (X * 131 + Y * 1117 + p * 29) = X * 131 + Y * 1117 + p * 29) := ⟨wid (by omega) (by omega)⟩
        have v8 : Aside0 (wrap64 D = D) := ⟨wid (by omega) (by omega)⟩
        have v9 : Aside0 (wrap64 (D * 53) = D * 53) := ⟨wid (by omega) (by omega)⟩
        have v10 : Aside0 (wrap64 (X * 131 + Y * 1117 + p * 29 + D * 53) = X * 131 + Y * 1117 + p * 29 + D * 53) := ⟨wid (by omega) (by omega)⟩
        generalize hS : X * 131 + Y * 1117 + p * 29 + D * 53 = S at v10
        have hS0 : 0 ≤ S ∧ S ≤ 1000000000000 := by omega
        have hq : 0 ≤ Int.tdiv S 64 ∧ Int.tdiv S 64 ≤ S := by
          refine ⟨Int.tdiv_nonneg hS0.1 (by omega), ?_⟩
          rw [Int.tdiv_eq_ediv_of_nonneg hS0.1]
          exact Int.ediv_le_self _ hS0.1
        have v11 : Aside0 (wrap64 (Int.tdiv S 64) = Int.tdiv S 64) := ⟨wid (by omega) (by omega)⟩
        have hx := xor_ge S (Int.tdiv S 64) hS0.1 hq.1 (by omega) (by omega)
        refine ⟨Int.tmod (Go.bits .xor .i64 S (Int.tdiv S 64)) n, ?_, (tm _ hx).1, fun _ => (tm _ hx).2, fun h => by first | exact absurd h c | exact h.elim⟩
        apply Ev.succ
        simp only [spec_l1Rd_pick.j0, z1, Bool.false_eq_true, if_false, w2.out, q, l0, w7.out, w8.out, hA, hB, m1.1, m1.2, m2.1, m2.2, n0, hX, hY, hD, v1.out, v2.out, v3.out, v4.out, v5.out, v6.out, v7.out, v8.out, v9.out, hS, v10.out, v11.out, if_true]
        exact Ev.now _
theorem of_ev (s : List Int) (hs : Code s) (p : Int) (hp0 : 0 ≤ p) (hp1 : p ≤ 1000000000) (l : List ByteArray) (hl : 1 ≤ l.length) (hl2 : l.length ≤ 1000000) :
    ∃ x, Ev (fun k => spec_l1Rd_of.f k s p l) (x, p + 1) ∧ x ∈ l := by
  obtain ⟨r, hr, h0, h1, _⟩ := pick_ev s hs p (l.length : Int) hp0 hp1 (by omega)
  have h2 := h1 (by omega)
  refine ⟨rdOf ByteArray.empty l r, ?_, ?_⟩
  · unfold spec_l1Rd_of.f
    refine Ev.bind hr ?_
    simp only [h0, h2, if_true]
    exact Ev.now _
  · unfold rdOf
    rw [List.getD_eq_getElem?_getD, List.getElem?_eq_getElem (show r.toNat < l.length by omega)]
    exact List.getElem_mem _
end Go.Proofs.YtndjhgjakdkkaaaDoor.M
end

section
-- Printed for this claim by a program (mprint.py) that uses the kit's print; Lean checks it.
namespace Go.Proofs.YtndjhgjakdkkaaaDoor.M
open Go.RowKit Go.Proofs.YtndjhgjakdkkaaaDoorW.PrintWords Go.Proofs.YtndjhgjakdkkaaaDoorW.PrintLast Go.Proofs.YtndjhgjakdkkaaaDoorW.PrintMore
attribute [local go_sem] max2_int min2_int max_two min_two max_three min_three max_four min_four   -- for this text's walks alone
set_option linter.unusedVariables false
set_option linter.unusedSimpArgs false

/-! ### spec_l1Rd_one: function 49 -/
def spec_l1Rd_one.f (k : Nat) (s0_0 : List Int) (s0_1 : Int) (l1 : List Int) : Option (Int × Int) := (spec_l1Rd_pick.f k s0_0 s0_1 (l1.length : Int)).bind fun bt101 => (if 0 ≤ bt101.1 then (if bt101.1 < (l1.length : Int) then (some (rd l1 bt101.1, bt101.2)) else (none)) else (none))
theorem spec_l1Rd_one.mono : ∀ a0 a1 a2 k, LeO (spec_l1Rd_one.f k a0 a1 a2) (spec_l1Rd_one.f (k + 1) a0 a1 a2) := by
  intro a0 a1 a2 k
  unfold spec_l1Rd_one.f
  repeat' first
      | (with_reducible exact spec_l1Rd_pick.mono _ _ _ _)
      | (with_reducible exact LeO.refl _)
      | (with_reducible exact LeO.none _)
      | (with_reducible refine LeO.ite ?_ ?_)
      | (with_reducible refine LeO.bind ?_ (fun _ => ?_))
      | exact spec_l1Rd_pick.mono _ _ _ _
      | exact LeO.none _
      | refine LeO.ite ?_ ?_
      | refine LeO.bind ?_ (fun _ => ?_)
set_option maxHeartbeats 8000000 in
set_option maxRecDepth 100000 in
theorem spec_l1Rd_one.calls (k : Nat) (g : Nat) (s0_0 : List Int) (s0_1 : Int) (A1 : Option Addr) (c1 : Nat) (l1 : List Int) (r1 : Int) (r2 : Int) (w0 w : World) (hI : IsS77 w0 w g s0_0 s0_1) (hB : Below w0.heap.size w0 w) (hr1 : Kd.C (Kd.int .i64) w A1 l1.length l1) (hc1 : l1.length ≤ c1) (hf1 : ∀ ad, A1 = some ad → 0 < l1.length → ad.block ≠ g) (h : spec_l1Rd_one.f k s0_0 s0_1 l1 = some (r1, r2)) :
    Calls Tryd.prog 49 #[.pointer (some ⟨g, 0, none⟩), .slice A1 l1.length c1] w fun e w' => e = .returned (.int .i64 r1) ∧ IsS77 w0 w' g s0_0 r2 ∧ Below w0.heap.size w0 w' ∧ KeepBut w w' g none := by
  have HR1 := Aside0.mk hr1
  have HC1 := Aside0.mk hc1
  clear hr1 hc1
  have HI0 := Aside0.mk hI
  have HK := Aside0.mk (KeepBut.refl w g none)
  have HL := Aside0.mk hB.size
  clear hI
  have HW0 := Aside0.mk hB.size
  have HB := Aside0.mk hB
  clear hB
  have H : ((spec_l1Rd_pick.f k s0_0 s0_1 (l1.length : Int)).bind fun bt101 => (if 0 ≤ bt101.1 then (if bt101.1 < (l1.length : Int) then (some (rd l1 bt101.1, bt101.2)) else (none)) else (none))) = some (r1, r2) := h
  clear h
  replace H := Option.bind_eq_some_iff.mp H
  obtain ⟨⟨t101, t102⟩, A30, H⟩ := H
  replace H : (if 0 ≤ t101 then (if t101 < (l1.length : Int) then (some (rd l1 t101, t102)) else (none)) else (none)) = some (r1, r2) := H
  have A3 := Aside0.mk A30
  clear A30
  by_cases c4 : 0 ≤ t101
  · rw [if_pos c4] at H
    have c4b0 : decide (0 ≤ t101) = true := decide_eq_true c4
    clear c4
    by_cases c5 : t101 < (l1.length : Int)
    · rw [if_pos c5] at H
      have c5b0 : decide (t101 < (l1.length : Int)) = true := decide_eq_true c5
      clear c5
      simp only [Option.some.injEq, Prod.mk.injEq] at H
      obtain ⟨rfl, rfl⟩ := H
      go_enter Tryd.func49, Tryd.ntmps49
      go_wp2_with (first | ((with_reducible refine gate_callee (f := 52) rfl ?_); refine goesL_ (some 9) rfl rfl Tryd.func52 (by kernel_rfl) rfl #[.pointer (some ⟨g, 0, none⟩), .int .i64 (l1.length : Int)] rfl (by (try simp only [List.map_toArray, List.map_cons, List.map_nil]); first | done | rfl | (simp only [List.length_drop, List.length_take]; rfl)) ?_; (with_reducible refine (spec_l1Rd_pick.calls k g s0_0 s0_1 (l1.length : Int) t101 t102 w0 _ ?side1 ?side2 A3.out).mono ?_); (case side1 => repeat (first | (with_reducible first | exact HI0.out | apply IsS77.alloc | apply IsS77.drewN | apply IsS77.drew | apply IsS77.set_1) | exact HI0.out)); (case side2 => repeat (first | (with_reducible first | exact HB.out | apply below_alloc | apply pw_below_drewN | apply below_drew1 | refine below_set ?_ (IsS77.ge HI0.out)) | exact HB.out)); rintro e w6 ⟨rfl, hi, hb, hk⟩; refine ⟨_, rfl, ?_⟩; have n0_ := Aside0.mk (KeepBut.trans (by repeat (first | (with_reducible first | exact HK.out | apply KeepBut.set_ | apply keep_drewN | apply keep_drew | apply keep_alloc) | exact HK.out)) hk (.inl rfl)); have n1_ := Aside0.mk (hb); have n2_ := Aside0.mk (hi); clear HK; clear HB; clear HI0; have HK := n0_; have HB := n1_; have HI0 := n2_; clear n0_ n1_ n2_; (try clear hb); (try clear hb2); (try clear hk); (try clear hi); have p103 : 0 ≤ (t101 : Int) := of_decide_eq_true (by first | (with_reducible assumption) | assumption); have q103 : t101 < (l1.length : Int) := of_decide_eq_true (by first | (with_reducible assumption) | assumption); obtain ⟨ad103, e103, hx103_0⟩ := Kd.at_int HR1.out t101 p103 q103; cases e103; replace hx103_0 := keep_cell HK.out hx103_0 (by first | (rw [add_block]; exact hf1 _ rfl (by omega)) | exact hf1 _ rfl (by omega) | exact hf1 ad103 rfl (by omega)); replace p103 := eq_true p103; replace q103 := eq_true q103))
      go_ret
      exact ⟨by first | rfl | (simp [errW_none, errW_some] <;> rfl) | (simp [*, errW_none, errW_some] <;> rfl), by repeat (first | (with_reducible first | exact HI0.out | apply IsS77.alloc | apply IsS77.drewN | apply IsS77.drew | apply IsS77.set_1) | exact HI0.out), by repeat (first | (with_reducible first | exact HB.out | apply below_alloc | apply pw_below_drewN | apply below_drew1 | refine below_set ?_ (IsS77.ge HI0.out)) | exact HB.out), by repeat (first | (with_reducible first | exact HK.out | apply KeepBut.set_ | apply keep_drewN | apply keep_drew | apply keep_alloc) | exact HK.out)⟩
    · rw [if_neg c5] at H
      exact absurd H (by simp)
  · rw [if_neg c4] at H
    exact absurd H (by simp)

end Go.Proofs.YtndjhgjakdkkaaaDoor.M
end

section
/- More of what is drawn: numbers of a list, texts n times, words. -/
namespace Go.Proofs.YtndjhgjakdkkaaaDoor.M
open Go.RowKit Go.Proofs.YtndjhgjakdkkaaaDoorW.PrintWords Go.Proofs.YtndjhgjakdkkaaaDoor.Pu
set_option linter.unusedVariables false
set_option linter.unusedSimpArgs false
theorem one_ev (s : List Int) (hs : Code s) (p : Int) (hp0 : 0 ≤ p) (hp1 : p ≤ 1000000000) (l : List Int) (hl : 1 ≤ l.length) (hl2 : l.length ≤ 1000000) :
    ∃ x, Ev (fun k => spec_l1Rd_one.f k s p l) (x, p + 1) ∧ x ∈ l := by
  obtain ⟨r, hr, h0, h1, _⟩ := pick_ev s hs p (l.length : Int) hp0 hp1 (by omega)
  have h2 := h1 (by omega)
  refine ⟨rd l r, ?_, ?_⟩
  · unfold spec_l1Rd_one.f
    refine Ev.bind hr ?_
    exact Ev.ifp h0 (Ev.ifp h2 (Ev.now _))
  · unfold rd
    rw [List.getD_eq_getElem?_getD, List.getElem?_eq_getElem (show r.toNat < l.length by omega)]
    exact List.getElem_mem _
def manyB (x : ByteArray) (n : Int) : Bool := match spec_l1Many.f 9 x n with
  | some r => decide (r.size ≤ 1000)
  | none => false
theorem many_of {x : ByteArray} {n : Int} (h : manyB x n = true) : ∃ r, Ev (fun k => spec_l1Many.f k x n) r ∧ r.size ≤ 1000 := by
  unfold manyB at h
  cases e : spec_l1Many.f 9 x n with
  | none => rw [e] at h; cases h
  | some r =>
    rw [e] at h
    exact ⟨r, Ev.of (fun k => spec_l1Many.mono x n k) e, of_decide_eq_true h⟩
def letterSet : List ByteArray := [(⟨#[97]⟩ : ByteArray), (⟨#[98]⟩ : ByteArray), (⟨#[99]⟩ : ByteArray), (⟨#[97, 98]⟩ : ByteArray), (⟨#[116]⟩ : ByteArray)]
theorem letter_size : ∀ x ∈ letterSet, x.size ≤ 2 := by decide
def wordSet : List ByteArray := [(⟨#[99, 97, 116]⟩ : ByteArray), (⟨#[99, 97, 116, 115]⟩ : ByteArray), (⟨#[97, 99, 116]⟩ : ByteArray), (⟨#[100, 111]⟩ : ByteArray), (⟨#[100, 111, 105, 110, 103]⟩ : ByteArray), (⟨#[103, 111]⟩ : ByteArray), (⟨#[117, 110, 100, 111]⟩ : ByteArray), (⟨#[116, 114, 121]⟩ : ByteArray), (⟨#[116, 114, 105, 101, 115]⟩ : ByteArray), (⟨#[97]⟩ : ByteArray), (⟨#[98, 97, 107, 101]⟩ : ByteArray), (⟨#[98, 97, 107, 105, 110, 103]⟩ : ByteArray), (⟨#[116, 97, 99, 116]⟩ : ByteArray), (⟨#[99, 97, 114, 116]⟩ : ByteArray), (⟨#[97, 98, 99, 97, 98, 99, 97, 98, 99, 97, 98, 99]⟩ : ByteArray)]
theorem word_size : ∀ x ∈ wordSet, x.size ≤ 12 := by decide
theorem least_eq (a b : Int) : spec_l1Least.f a b = some (if a < b then a else b) := by
  unfold spec_l1Least.f
  split <;> rfl
theorem word_loop (s : List Int) (hs : Code s) : ∀ (d : Nat) (x : ByteArray) (p : Int), 0 ≤ p → p + d ≤ 1000000000 → x.size + 2 * d ≤ 1000 → ∃ r, Ev (fun k => spec_l13Word.l0 k x (d : Int) s p) (r, p + d) ∧ r.size ≤ 12
  | 0, x, p, h0, h1, hx => by
    obtain ⟨t, ht⟩ : ∃ t, t = (if (x.size : Int) < 12 then (x.size : Int) else 12) := ⟨_, rfl⟩
    refine ⟨x.extract 0 t.toNat, ?_, ?_⟩
    · apply Ev.succ
      simp only [spec_l13Word.l0, least_eq, Option.bind_some, ← ht]
      refine Ev.ifn (by omega) (Ev.ifp (by split at ht <;> omega) (Ev.ifp (by split at ht <;> omega) (Ev.cast (Ev.now _) ?_)))
      simp
    · rw [ByteArray.size_extract]
      split at ht <;> omega
  | d + 1, x, p, h0, h1, hx => by
    obtain ⟨y, hy, hm⟩ := of_ev s hs p h0 (by omega) letterSet (by decide) (by decide)
    have hy2 := letter_size y hm
    obtain ⟨r, hr, hr2⟩ := word_loop s hs d (x ++ y) (p + 1) (by omega) (by omega) (by rw [ByteArray.size_append]; omega)
    refine ⟨r, ?_, hr2⟩
    have w1 : Aside0 (wrap64 (((d + 1 : Nat) : Int) - 1) = (d : Int)) := ⟨by rw [wid (by omega) (by omega)]; omega⟩
    apply Ev.succ
    simp only [spec_l13Word.l0, w1.out]
    refine Ev.ifp (by omega) (Ev.bind hy (Ev.ifp (by dsimp only; omega) ?_))
    rw [show p + ((d + 1 : Nat) : Int) = p + 1 + (d : Int) by omega]
    exact hr
theorem word_ev (s : List Int) (hs : Code s) (p : Int) (hp0 : 0 ≤ p) (hp1 : p ≤ 100000000) : ∃ x q, Ev (fun k => spec_l13Word.f k s p) (x, q) ∧ x.size ≤ 12 ∧ p ≤ q ∧ q ≤ p + 7 := by
  obtain ⟨a, ha, a0, a1, _⟩ := pick_ev s hs p 3 hp0 (by omega) (by omega)
  unfold spec_l13Word.f
  by_cases c : a = 0
  · obtain ⟨b, hb, b0, b1, _⟩ := pick_ev s hs (p + 1) 5 (by omega) (by omega) (by omega)
    have b2 := b1 (by omega)
    obtain ⟨m, hm⟩ := Int.eq_ofNat_of_zero_le (show 0 ≤ 1 + b by omega)
    obtain ⟨r, hr, hr2⟩ := word_loop s hs m ⟨#[]⟩ (p + 1 + 1) (by omega) (by omega) (by show 0 + 2 * m ≤ 1000; omega)
    have w1 : Aside0 (wrap64 (1 + b) = (m : Int)) := ⟨by rw [wid (by omega) (by omega)]; exact hm⟩
    refine ⟨r, p + 1 + 1 + m, ?_, hr2, by omega, by omega⟩
    refine Ev.bind ha (Ev.ifp c (Ev.bind hb ?_))
    simp only [w1.out]
    exact hr
  · obtain ⟨x, hx, hm⟩ := of_ev s hs (p + 1) (by omega) (by omega) wordSet (by decide) (by decide)
    refine ⟨x, p + 1 + 1, ?_, word_size x hm, by omega, by omega⟩
    exact Ev.bind ha (Ev.ifn c (Ev.bind hx (Ev.now _)))
end Go.Proofs.YtndjhgjakdkkaaaDoor.M
end

section
/- A published seal, by the kernel. -/
namespace Go.Proofs.YtndjhgjakdkkaaaDoor.M
open Go.RowKit Go.Proofs.YtndjhgjakdkkaaaDoorW.PrintWords Go.Proofs.YtndjhgjakdkkaaaDoorW.PrintMore Go.Proofs.YtndjhgjakdkkaaaDoor.Pu Go.Proofs.YtndjhgjakdkkaaaDoor.Sha
theorem hi_data : (sealOf (⟨#[11, 11, 11, 11, 11, 11, 11, 11, 11, 11, 11, 11, 11, 11, 11, 11, 11, 11, 11, 11]⟩ : ByteArray) (⟨#[72, 105, 32, 84, 104, 101, 114, 101]⟩ : ByteArray)).data.toList = [98, 48, 51, 52, 52, 99, 54, 49, 100, 56, 100, 98, 51, 56, 53, 51, 53, 99, 97, 56, 97, 102, 99, 101, 97, 102, 48, 98, 102, 49, 50, 98, 56, 56, 49, 100, 99, 50, 48, 48, 99, 57, 56, 51, 51, 100, 97, 55, 50, 54, 101, 57, 51, 55, 54, 99, 50, 101, 51, 50, 99, 102, 102, 55] := by decide +kernel
theorem hi_seal : (sealOf (⟨#[11, 11, 11, 11, 11, 11, 11, 11, 11, 11, 11, 11, 11, 11, 11, 11, 11, 11, 11, 11]⟩ : ByteArray) (⟨#[72, 105, 32, 84, 104, 101, 114, 101]⟩ : ByteArray)).toList = [98, 48, 51, 52, 52, 99, 54, 49, 100, 56, 100, 98, 51, 56, 53, 51, 53, 99, 97, 56, 97, 102, 99, 101, 97, 102, 48, 98, 102, 49, 50, 98, 56, 56, 49, 100, 99, 50, 48, 48, 99, 57, 56, 51, 51, 100, 97, 55, 50, 54, 101, 57, 51, 55, 54, 99, 50, 101, 51, 50, 99, 102, 102, 55] := by
  rw [ByteArray.toList_eq]
  exact hi_data
end Go.Proofs.YtndjhgjakdkkaaaDoor.M
end

section
/- FnSealOf, plain: and the seal of a published example. -/
namespace Go.Proofs.YtndjhgjakdkkaaaDoor.M
open Go.RowKit Go.Proofs.YtndjhgjakdkkaaaDoorW.PrintWords Go.Proofs.YtndjhgjakdkkaaaDoor.Pu
set_option linter.unusedVariables false
theorem many_key : manyB (⟨#[107]⟩ : ByteArray) 64 = true ∧ manyB (⟨#[107]⟩ : ByteArray) 65 = true := by decide +kernel
theorem drawSeal_ev (s : List Int) (hs : ∀ b ∈ s, 0 ≤ b ∧ b ≤ 255) : ∃ r, Ev (fun k => spec_DrawSealOf.f k s) r ∧ r.1.size ≤ 1000 ∧ r.2.size ≤ 12 := by
  obtain ⟨c, hc, hC⟩ := l1Open_eq s hs
  obtain ⟨m1, h1, z1⟩ := many_of many_key.1
  obtain ⟨m2, h2, z2⟩ := many_of many_key.2
  obtain ⟨x, hx, hxm⟩ := of_ev c hC 0 (by omega) (by omega) [(⟨#[107, 101, 121]⟩ : ByteArray), (⟨#[107]⟩ : ByteArray), (⟨#[]⟩ : ByteArray), m1, m2] (by simp) (by simp)
  obtain ⟨y, q, hy, hy2, _⟩ := word_ev c hC (0 + 1) (by omega) (by omega)
  refine ⟨(x, y), ?_, ?_, hy2⟩
  · unfold spec_DrawSealOf.f
    rw [hc]
    simp only [Option.bind_some]
    exact Ev.bind h1 (Ev.bind h2 (Ev.bind hx (Ev.bind hy (Ev.now _))))
  · show x.size ≤ 1000
    simp only [List.mem_cons, List.not_mem_nil, or_false] at hxm
    rcases hxm with rfl | rfl | rfl | rfl | rfl
    · decide
    · decide
    · decide
    · exact z1
    · exact z2
theorem FnSealOf_pure (s : List Int) (hs : s.length ≤ 9223372036854775807 ∧ ∀ y ∈ s, (Lit.int .u8 y).wf = true) : ∃ k, laws_FnSealOf.f k s = some true := by
  apply Ev.rounds (g := fun k => laws_FnSealOf.f k s)
  unfold laws_FnSealOf.f
  by_cases c0 : (s.length : Int) > 1048576
  · exact Ev.ifp c0 (Ev.now _)
  · obtain ⟨r, hr, hr2, hr3⟩ := drawSeal_ev s (fun b hb => by
      have h := hs.2 b hb
      simp [Lit.wf, IntKind.min, IntKind.max, IntKind.signed, IntKind.bits] at h
      omega)
    refine Ev.ifn c0 (Ev.bind hr (Ev.bind (implSeal_ev r.1 r.2 (by omega) (by omega)) (Ev.bind (specSeal_ev r.1 r.2 (by omega) (by omega)) ?_)))
    simp only [if_true]
    refine Ev.bind (implSeal_ev _ _ (by decide) (by decide)) (Ev.cast (Ev.now _) ?_)
    rw [hi_seal]
    rfl
end Go.Proofs.YtndjhgjakdkkaaaDoor.M
end
