import Derived.Test.YtndjhgjakdkkaaaDoorBExactSealOfx1
import Derived.Test.YtndjhgjakdkkaaaDoorBExactSealOfx3

section
-- Printed for this claim by a program (mprint.py) that uses the kit's print; Lean checks it.
namespace Go.Proofs.YtndjhgjakdkkaaaDoor.M
open Go.RowKit Go.Proofs.YtndjhgjakdkkaaaDoorW.PrintWords Go.Proofs.YtndjhgjakdkkaaaDoorW.PrintLast Go.Proofs.YtndjhgjakdkkaaaDoorW.PrintMore
attribute [local go_sem] max2_int min2_int max_two min_two max_three min_three max_four min_four   -- for this text's walks alone
set_option linter.unusedVariables false
set_option linter.unusedSimpArgs false

/-! ### spec_HashSum: function 12 -/
def spec_HashSum.f (k : Nat) (a0 : ByteArray) : Option (ByteArray) := (spec_l6Sum.f a0).bind fun t101 => ((spec_l6Hex.f k t101).bind fun t102 => (some t102))
theorem spec_HashSum.mono : ∀ a0 k, LeO (spec_HashSum.f k a0) (spec_HashSum.f (k + 1) a0) := by
  intro a0 k
  unfold spec_HashSum.f
  repeat' first
      | (with_reducible exact spec_l6Hex.mono _ _)
      | (with_reducible exact LeO.refl _)
      | (with_reducible exact LeO.none _)
      | (with_reducible refine LeO.ite ?_ ?_)
      | (with_reducible refine LeO.bind ?_ (fun _ => ?_))
      | exact spec_l6Hex.mono _ _
      | exact LeO.none _
      | refine LeO.ite ?_ ?_
      | refine LeO.bind ?_ (fun _ => ?_)
set_option maxHeartbeats 8000000 in
set_option maxRecDepth 100000 in
theorem spec_HashSum.calls (k : Nat) (a0 : ByteArray) (r : ByteArray) (w : World) (h : spec_HashSum.f k a0 = some r) :
    Calls Tryd.prog 12 #[.string a0] w fun e w' => e = .returned (.string r) ∧ Below w.heap.size w w' := by
  have HB := Aside0.mk (Below.refl w.heap.size w)
  have H : ((spec_l6Sum.f a0).bind fun t101 => ((spec_l6Hex.f k t101).bind fun t102 => (some t102))) = some r := h
  clear h
  replace H := Option.bind_eq_some_iff.mp H
  obtain ⟨t101, A20, H⟩ := H
  replace H : ((spec_l6Hex.f k t101).bind fun t102 => (some t102)) = some r := H
  have A2 := Aside0.mk A20
  clear A20
  replace H := Option.bind_eq_some_iff.mp H
  obtain ⟨t102, A30, H⟩ := H
  replace H : (some t102) = some r := H
  have A3 := Aside0.mk A30
  clear A30
  obtain rfl := Option.some.inj H
  go_enter Tryd.func12, Tryd.ntmps12
  go_wp2_with (first | ((with_reducible refine gate_callee (f := 39) rfl ?_); refine goesL_ (some 4) rfl rfl Tryd.func39 (by kernel_rfl) rfl #[.string a0] rfl (by (try simp only [List.map_toArray, List.map_cons, List.map_nil]); first | done | rfl | (simp only [List.length_drop, List.length_take]; rfl)) ?_; (with_reducible refine (spec_l6Sum.calls a0 t101 _ A2.out).mono ?_); rintro e w4 ⟨rfl, hb⟩; refine ⟨_, rfl, ?_⟩; have n0_ := Aside0.mk (below_step (by repeat (first | (with_reducible first | exact HB.out | apply below_alloc | apply pw_below_drewN | apply below_drew1) | exact HB.out)) hb); clear HB; have HB := n0_; clear n0_; (try clear hb); (try clear hb2); (try clear hk); (try clear hi)) | ((with_reducible refine gate_callee (f := 38) rfl ?_); refine goesL_ (some 5) rfl rfl Tryd.func38 (by kernel_rfl) rfl #[.string t101] rfl (by (try simp only [List.map_toArray, List.map_cons, List.map_nil]); first | done | rfl | (simp only [List.length_drop, List.length_take]; rfl)) ?_; (with_reducible refine (spec_l6Hex.calls k t101 t102 _ A3.out).mono ?_); rintro e w5 ⟨rfl, hb⟩; refine ⟨_, rfl, ?_⟩; have n0_ := Aside0.mk (below_step (by repeat (first | (with_reducible first | exact HB.out | apply below_alloc | apply pw_below_drewN | apply below_drew1) | exact HB.out)) hb); clear HB; have HB := n0_; clear n0_; (try clear hb); (try clear hb2); (try clear hk); (try clear hi)))
  go_ret
  exact ⟨by first | rfl | (simp [errW_none, errW_some] <;> rfl) | (simp [*, errW_none, errW_some] <;> rfl), by repeat (first | (with_reducible first | exact HB.out | apply below_alloc | apply pw_below_drewN | apply below_drew1) | exact HB.out)⟩

end Go.Proofs.YtndjhgjakdkkaaaDoor.M
end

section
/- HashSum and SealOf, plain: the program's are the reference's. -/
namespace Go.Proofs.YtndjhgjakdkkaaaDoor.M
open Go.RowKit Go.Proofs.YtndjhgjakdkkaaaDoorW.PrintWords Go.Proofs.YtndjhgjakdkkaaaDoorW.PrintMore Go.Proofs.YtndjhgjakdkkaaaDoor.Pu Go.Proofs.YtndjhgjakdkkaaaDoor.Sha
set_option linter.unusedVariables false
set_option linter.unusedSimpArgs false
def hexDigits : ByteArray := ⟨#[48, 49, 50, 51, 52, 53, 54, 55, 56, 57, 97, 98, 99, 100, 101, 102]⟩
/-- The bytes in hexadecimal, as far as n. -/
def hexTo (s : ByteArray) : Nat → List Int
  | 0 => []
  | n + 1 => hexTo s n ++ [bt hexDigits (bt s (n : Int) / 16), bt hexDigits (bt s (n : Int) % 16)]
theorem hexTo_length (s : ByteArray) : ∀ n, (hexTo s n).length = 2 * n
  | 0 => rfl
  | n + 1 => by simp only [hexTo, List.length_append, hexTo_length s n, List.length_cons, List.length_nil]; omega
def hexOf (s : ByteArray) : ByteArray := strOfNums (hexTo s s.size)
theorem hex_facts (s : ByteArray) (i : Int) : Int.tdiv (bt s i) 16 % 256 = bt s i / 16 ∧ Int.tmod (bt s i) 16 = bt s i % 16 ∧ 0 ≤ bt s i / 16 ∧ bt s i / 16 < 16 ∧ 0 ≤ bt s i % 16 ∧ bt s i % 16 < 16 := by
  have h0 := bt_ge s i
  have h1 := bt_le s i
  rw [Int.tdiv_eq_ediv_of_nonneg h0, Int.tmod_eq_emod_of_nonneg h0]
  omega
theorem implHex_ev (s : ByteArray) (hs : s.size ≤ 1099511627776) : Ev (fun k => impl_hexOf.f k s) (hexOf s) := by
  unfold impl_hexOf.f
  refine fold_loop (g := fun k x i => impl_hexOf.l0 k s x i) s.size (hexTo s) _ ?_ ?_
  · intro i hi h
    apply Ev.succ
    obtain ⟨f1, f2, f3, f4, f5, f6⟩ := hex_facts s (i : Int)
    have e4 : wrap64 ((i : Int) + 1) = (i : Int) + 1 := wid (by omega) (by omega)
    simp only [impl_hexOf.l0, f1, f2, e4, Option.bind_some]
    clear e4 f1 f2
    refine Ev.ifp (by omega) (Ev.ifp (by omega) (Ev.ifp f3 (Ev.ifp f4 (Ev.ifp f5 (Ev.ifp f6 (Ev.ifp ?_ h))))))
    rw [hexTo_length]
    simp only [List.length_cons, List.length_nil]
    omega
  · apply Ev.succ
    simp only [impl_hexOf.l0]
    exact Ev.ifn (by omega) (Ev.now _)
theorem specHex_ev (s : ByteArray) (hs : s.size ≤ 1099511627776) : Ev (fun k => spec_l6Hex.f k s) (hexOf s) := by
  unfold spec_l6Hex.f
  refine fold_loop (g := fun k x i => spec_l6Hex.l0 k s hexDigits x i) s.size (hexTo s) _ ?_ ?_
  · intro i hi h
    apply Ev.succ
    obtain ⟨f1, f2, f3, f4, f5, f6⟩ := hex_facts s (i : Int)
    have e4 : wrap64 ((i : Int) + 1) = (i : Int) + 1 := wid (by omega) (by omega)
    have e5 : (hexDigits.size : Int) = 16 := rfl
    simp only [spec_l6Hex.l0, f1, f2, e4, e5, Option.bind_some]
    clear e4 f1 f2
    refine Ev.ifp (by omega) (Ev.ifp (by omega) (Ev.ifp f3 (Ev.ifp f4 (Ev.ifp f5 (Ev.ifp f6 (Ev.ifp ?_ h))))))
    rw [hexTo_length]
    simp only [List.length_cons, List.length_nil]
    omega
  · apply Ev.succ
    simp only [spec_l6Hex.l0]
    exact Ev.ifn (by omega) (Ev.now _)
def sha (s : ByteArray) : ByteArray := strOfNums (sumOf shaTab (bytesOf s))
theorem sha_size (s : ByteArray) : (sha s).size = 32 := shaOf_size s
def hashSum (s : ByteArray) : ByteArray := hexOf (sha s)
theorem implHash_ev (s : ByteArray) (hs : s.size ≤ 1099511627776) : Ev (fun k => impl_HashSum.f k s) (hashSum s) := by
  unfold impl_HashSum.f impl_sha256Of.f
  rw [if_pos hs]
  simp only [Option.bind_some]
  exact Ev.bind (implHex_ev (sha s) (by rw [sha_size]; decide)) (Ev.now _)
theorem specHash_ev (s : ByteArray) (hs : s.size ≤ 1099511627776) : Ev (fun k => spec_HashSum.f k s) (hashSum s) := by
  unfold spec_HashSum.f spec_l6Sum.f
  rw [if_pos hs]
  simp only [Option.bind_some]
  exact Ev.bind (specHex_ev (sha s) (by rw [sha_size]; decide)) (Ev.now _)
theorem pu_within (a b c : Int) : impl_within.f a b c = some (decide (b ≤ a ∧ a ≤ c)) := by
  unfold impl_within.f
  by_cases h : a ≥ b
  · have h' : b ≤ a := h
    simp [h']
  · have h' : ¬ b ≤ a := h
    simp [h']
theorem pu_l1In (a b c : Int) : spec_l1In.f a b c = some (decide (b ≤ a ∧ a ≤ c)) := by
  unfold spec_l1In.f
  by_cases h : a ≥ b
  · have h' : b ≤ a := h
    simp [h']
  · have h' : ¬ b ≤ a := h
    simp [h']
def keyB (a : ByteArray) : Bool := decide ((1 : Int) ≤ (a.size : Int) ∧ (a.size : Int) ≤ 64) && (bt a ((a.size : Int) - 1) != 0)
theorem keyB_size {a : ByteArray} (h : keyB a = true) : 1 ≤ a.size ∧ a.size ≤ 64 := by
  simp only [keyB, Bool.and_eq_true, decide_eq_true_eq] at h
  omega
theorem implKey_eq (a : ByteArray) (w : a.size ≤ 140737488355328) : impl_keyOk.f a = some (keyB a) := by
  unfold impl_keyOk.f keyB
  rw [pu_within]
  simp only [Option.bind_some]
  by_cases h : (1 : Int) ≤ (a.size : Int) ∧ (a.size : Int) ≤ 64
  · have e : wrap64 ((a.size : Int) - 1) = (a.size : Int) - 1 := wid (by omega) (by omega)
    have c0 : (0 : Int) ≤ (a.size : Int) - 1 := by omega
    have c1 : (a.size : Int) - 1 < (a.size : Int) := by omega
    simp only [e, h, c0, c1, and_self, decide_true, if_true, Bool.true_and]
  · simp only [h, decide_false, Bool.false_eq_true, if_false, Bool.false_and]
theorem specKey_eq (a : ByteArray) (w : a.size ≤ 140737488355328) : spec_l6Key.f a = some (keyB a) := by
  unfold spec_l6Key.f keyB
  rw [pu_l1In]
  simp only [Option.bind_some]
  by_cases h : (1 : Int) ≤ (a.size : Int) ∧ (a.size : Int) ≤ 64
  · have e : wrap64 ((a.size : Int) - 1) = (a.size : Int) - 1 := wid (by omega) (by omega)
    have c0 : (0 : Int) ≤ (a.size : Int) - 1 := by omega
    have c1 : (a.size : Int) - 1 < (a.size : Int) := by omega
    simp only [e, h, c0, c1, and_self, decide_true, if_true, Bool.true_and]
  · simp only [h, decide_false, Bool.false_eq_true, if_false, Bool.false_and]
theorem padB_at (key : ByteArray) (i : Nat) : (padB key).getD i 0 = if i < key.size then bt key (i : Int) else 0 := by
  simp only [padB, List.getD_eq_getElem?_getD]
  by_cases h : i < key.size
  · rw [List.getElem?_append_left (by rw [bytesOf_length]; exact h), if_pos h, bt_nat, dif_pos h]
    simp [bytesOf, h]
    rfl
  · rw [List.getElem?_append_right (by rw [bytesOf_length]; omega), if_neg h, List.getElem?_replicate]
    split <;> rfl
theorem pad_ev (key : ByteArray) (c : Int) (hk : key.size ≤ 64) : Ev (fun k => spec_l6Pad.f k key c) (padx key c) := by
  unfold spec_l6Pad.f
  have hl : ((padB key).map fun b => Go.bits .xor .u8 b c).length = 64 := by rw [List.length_map, padB_length _ hk]
  refine fold_loop (g := fun k x i => spec_l6Pad.l0 k key c x i) 64 (fun i => ((padB key).map fun b => Go.bits .xor .u8 b c).take i) _ ?_ ?_
  · intro i hi h
    apply Ev.succ
    have e4 : wrap64 ((i : Int) + 1) = (i : Int) + 1 := wid (by omega) (by omega)
    have hsn : ((padB key).map fun b => Go.bits .xor .u8 b c).take (i + 1) = ((padB key).map fun b => Go.bits .xor .u8 b c).take i ++ [Go.bits .xor .u8 ((padB key).getD i 0) c] := by
      rw [List.take_succ_eq_append_getElem (by omega)]
      have hi2 : i < (padB key).length := by rw [padB_length _ hk]; exact hi
      simp [List.getD_eq_getElem?_getD, hi2]
    rw [hsn, padB_at] at h
    have hlt : (((padB key).map fun b => Go.bits .xor .u8 b c).take i).length < 140737488355328 := by rw [List.length_take]; omega
    simp only [spec_l6Pad.l0, e4]
    clear e4
    refine Ev.ifp (by omega) ?_
    by_cases hi2 : i < key.size
    · rw [if_pos hi2] at h
      exact Ev.ifp (by omega) (Ev.ifp (by omega) (Ev.ifp hlt h))
    · rw [if_neg hi2] at h
      exact Ev.ifn (by omega) (Ev.ifp hlt h)
  · apply Ev.succ
    simp only [spec_l6Pad.l0]
    refine Ev.ifn (by omega) (Ev.cast (Ev.now _) ?_)
    rw [List.take_of_length_le (by omega)]
    rfl
theorem padx_size (key : ByteArray) (c : Int) (hk : key.size ≤ 64) : (padx key c).size = 64 := by rw [padx, strOfNums_size, List.length_map, padB_length _ hk]
def sealOf (key text : ByteArray) : ByteArray := if keyB key = true then hexOf (hmac key text) else ⟨#[]⟩
theorem implSeal_ev (key text : ByteArray) (hk : key.size ≤ 140737488355328) (ht : text.size ≤ 549755813888) : Ev (fun k => impl_SealOf.f k key text) (sealOf key text) := by
  unfold impl_SealOf.f sealOf
  rw [implKey_eq key hk]
  simp only [Option.bind_some]
  by_cases h : keyB key = true
  · rw [if_pos h]
    refine Ev.ifp h ?_
    unfold impl_hmacOf.f
    rw [if_pos (keyB_size h).2, if_pos ht]
    simp only [Option.bind_some]
    exact Ev.bind (implHex_ev _ (by rw [hmac, shaOf_size]; decide)) (Ev.now _)
  · rw [if_neg h]
    exact Ev.ifn h (Ev.now _)
theorem specSeal_ev (key text : ByteArray) (hk : key.size ≤ 140737488355328) (ht : text.size ≤ 549755813888) : Ev (fun k => spec_SealOf.f k key text) (sealOf key text) := by
  unfold spec_SealOf.f sealOf
  rw [specKey_eq key hk]
  simp only [Option.bind_some]
  by_cases h : keyB key = true
  · rw [if_pos h]
    have hk2 := (keyB_size h).2
    refine Ev.ifp h (Ev.bind (pad_ev key 92 hk2) (Ev.bind (pad_ev key 54 hk2) (Ev.ifp ?_ ?_)))
    · rw [padx_size _ _ hk2]; omega
    unfold spec_l6Sum.f
    rw [if_pos (show (padx key 54 ++ text).size ≤ 1099511627776 by rw [ByteArray.size_append, padx_size _ _ hk2]; omega)]
    simp only [Option.bind_some]
    refine Ev.ifp ?_ ?_
    · rw [padx_size _ _ hk2, show (strOfNums (sumOf shaTab (bytesOf (padx key 54 ++ text)))).size = 32 from sha_size _]; decide
    rw [if_pos (show (padx key 92 ++ strOfNums (sumOf shaTab (bytesOf (padx key 54 ++ text)))).size ≤ 1099511627776 by rw [ByteArray.size_append, padx_size _ _ hk2, show (strOfNums (sumOf shaTab (bytesOf (padx key 54 ++ text)))).size = 32 from sha_size _]; decide)]
    simp only [Option.bind_some]
    exact Ev.bind (specHex_ev _ (by rw [show (strOfNums (sumOf shaTab (bytesOf (padx key 92 ++ strOfNums (sumOf shaTab (bytesOf (padx key 54 ++ text))))))).size = 32 from sha_size _]; decide)) (Ev.now _)
  · rw [if_neg h]
    exact Ev.ifn h (Ev.now _)
end Go.Proofs.YtndjhgjakdkkaaaDoor.M
end

section
/- FnExactSealOf, plain. -/
namespace Go.Proofs.YtndjhgjakdkkaaaDoor.M
open Go.RowKit Go.Proofs.YtndjhgjakdkkaaaDoorW.PrintWords Go.Proofs.YtndjhgjakdkkaaaDoor.Pu
set_option linter.unusedVariables false
theorem FnExactSealOf_pure (a : ByteArray) (w : a.size ≤ 140737488351232) (b : ByteArray) (w2 : b.size ≤ 140737488351232) : ∃ k, laws_FnExactSealOf.f k a b = some true := by
  apply Ev.rounds (g := fun k => laws_FnExactSealOf.f k a b)
  unfold laws_FnExactSealOf.f
  by_cases c : (a.size : Int) > 1048576
  · exact Ev.ifp c (Ev.now _)
  · refine Ev.ifn c ?_
    by_cases d : (b.size : Int) > 1048576
    · exact Ev.ifp d (Ev.now _)
    · refine Ev.ifn d (Ev.bind (specSeal_ev a b (by omega) (by omega)) (Ev.bind (implSeal_ev a b (by omega) (by omega)) ?_))
      simp only [if_true]
      exact Ev.now _
end Go.Proofs.YtndjhgjakdkkaaaDoor.M
end
