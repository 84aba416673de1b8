import Derived.Test.YtndjhgjakdkkaaaDoorBExactHashSumx1
import Derived.Lib.BufferWrite
import Derived.RegionCalls
import Derived.Test.YtndjhgjakdkkaaaDoorBExactHashSumx3

section
/- impl.hmacOf, walked: keys of at most 64 bytes. -/
namespace Go.Proofs.YtndjhgjakdkkaaaDoor.M
open Go.RowKit Go.Proofs.YtndjhgjakdkkaaaDoorW.PrintWords Go.Proofs.YtndjhgjakdkkaaaDoorW.PrintLast Go.Proofs.YtndjhgjakdkkaaaDoorW.PrintMore
open Go.Proofs.YtndjhgjakdkkaaaDoor.Buf Go.Proofs.YtndjhgjakdkkaaaDoor.Sha
attribute [local go_sem] max2_int min2_int max_two min_two max_three min_three max_four min_four   -- for this text's walks alone
set_option linter.unusedVariables false
/-- A row of bytes in a block of its own. -/
def Arr8 (w : World) (g : Nat) (xs : List Int) : Prop := w.heap[g]? = some (.cells (nums .u8 xs).toArray 5 (0, 0))
section
variable {w w1 : World} {g : Nat} {xs : List Int}
theorem Arr8.lt (h : Arr8 w g xs) : g < w.heap.size := (Array.getElem?_eq_some_iff.1 h).1
theorem Arr8.move (h : Arr8 w g xs) (hm : w1.heap[g]? = w.heap[g]?) : Arr8 w1 g xs := hm.trans h
theorem Arr8.below (h : Arr8 w g xs) (hb : Below w.heap.size w w1) : Arr8 w1 g xs := h.move (hb.block g h.lt)
theorem Arr8.drew (h : Arr8 w g xs) : Arr8 w.drew g xs := h
theorem Arr8.far (h : Arr8 w g xs) {p : Addr} (hp : g ≠ p.block) (u : Value) : Arr8 (w.setCell p u) g xs := h.move (Below.heap_setCell w p u g hp)
theorem Arr8.cell (h : Arr8 w g xs) (i : Nat) (hi : i < xs.length) : w.cell? ⟨g, i, none⟩ = some (.int .u8 (xs.getD i 0)) := by
  rw [cell_of_row w g i _ _ _ h]
  simp [nums, List.getD_eq_getElem?_getD, List.getElem?_eq_getElem hi]
theorem Arr8.fro (h : Arr8 w g xs) (i : Nat) : w.frozen? ⟨g, i, none⟩ = false := by
  simp [World.frozen?, show w.heap[g]? = some (.cells (nums .u8 xs).toArray 5 (0, 0)) from h]
theorem Arr8.set (h : Arr8 w g xs) (i : Nat) (y : Int) : Arr8 (w.setCell ⟨g, i, none⟩ (.int .u8 y)) g (xs.set i y) := by
  have h0 : w.heap[g]? = some (.cells (nums .u8 xs).toArray 5 (0, 0)) := h
  rw [setCell_eq_setRow w g i _ 5 (0, 0) _ h0]
  unfold Arr8
  rw [setRow_heap w g _ _ 5 _ h0]
  simp [nums, List.map_set]
theorem Arr8.new (w : World) (xs : List Int) : Arr8 (w.alloc (.cells (nums .u8 xs).toArray 5)) w.heap.size xs := heap_alloc_new w _
theorem Arr8.str (h : Arr8 w g xs) (hl : xs.length ≤ 1000000) (c : Nat) : (convert 26 9 (.slice (some ⟨g, 0, none⟩) xs.length c)).run Tryd.prog w = .ok (.string (strOfNums xs)) w := by
  refine string_of_reads Tryd.underlying26 Tryd.underlying5 Tryd.underlying9 ⟨rfl, by omega, fun hp => ⟨_, rfl, fun j hj => ?_⟩⟩
  have hadd : (⟨g, 0, none⟩ : Addr).add j = ⟨g, j, none⟩ := by unfold Addr.add; split <;> simp_all
  rw [hadd]
  exact h.cell j hj
end
theorem make64 (W : World) : (Instr.makeSlice 26 (.int .i64 64) (.int .i64 64)).run Tryd.prog W = .ok (.slice (some ⟨W.heap.size, 0, none⟩) 64 64) (W.alloc (.cells (nums .u8 Z64).toArray 5)) := by
  obtain ⟨i, hi, hz⟩ := Option.map_eq_some_iff.1 info5
  simp only [Prod.mk.injEq] at hz
  have h := run_make (P := Tryd.prog) W 26 5 i (.int .u8 0) Tryd.underlying26 hi hz.1 .i64 .i64 64 64 (by decide) (by decide) (by rw [hz.2.2]; decide) (by decide)
  rw [h, hz.2.1]
  have e : madeCells (Value.int .u8 0).cells (Int.toNat 64 * 1) = (nums .u8 Z64).toArray := by
    apply Array.ext
    · simp [madeCells, nums, Z64]
    · intro i h1 h2
      have h3 : i < 64 := by simpa [nums, Z64] using h2
      have h4 : (nums .u8 Z64).toArray[i]'h2 = .int .u8 0 := by
        simp only [nums, Z64, List.map_replicate, List.getElem_toArray, List.getElem_replicate]
      rw [h4]
      simp [madeCells, Value.cells, Nat.mod_one]
  rw [e]
  rfl
/-- A key, filled up. -/
def padB (key : ByteArray) : List Int := bytesOf key ++ List.replicate (64 - key.size) 0
theorem padB_length (key : ByteArray) (h : key.size ≤ 64) : (padB key).length = 64 := by simp [padB, bytesOf_length]; omega
def xorTo (c : Int) (xs : List Int) (k : Nat) : List Int := (xs.map fun b => Go.bits .xor .u8 b c).take k ++ xs.drop k
theorem xorTo_length (c : Int) (xs : List Int) (k : Nat) : (xorTo c xs k).length = xs.length := by simp [xorTo]; omega
theorem xorTo_zero (c : Int) (xs : List Int) : xorTo c xs 0 = xs := by simp [xorTo]
theorem xorTo_all (c : Int) (xs : List Int) (k : Nat) (h : xs.length = k) : xorTo c xs k = xs.map fun b => Go.bits .xor .u8 b c := by
  subst h
  simp only [xorTo, List.drop_length, List.append_nil]
  exact List.take_of_length_le (by simp)
theorem xorTo_at (c : Int) (xs : List Int) (k : Nat) (hk : k < xs.length) : (xorTo c xs k).getD k 0 = xs.getD k 0 := by
  simp only [xorTo, List.getD_eq_getElem?_getD]
  rw [List.getElem?_append_right (by simp; omega), List.getElem?_drop]
  simp [show min k xs.length = k by omega]
theorem xorTo_set (c : Int) (xs : List Int) (k : Nat) (hk : k < xs.length) : (xorTo c xs k).set k (Go.bits .xor .u8 (xs.getD k 0) c) = xorTo c xs (k + 1) := by
  have hl : ((xs.map fun b => Go.bits .xor .u8 b c).take k).length = k := by simp; omega
  simp only [xorTo]
  rw [List.set_append_right _ _ (by omega), hl, Nat.sub_self, List.take_succ_eq_append_getElem (by simpa using hk), List.append_assoc]
  congr 1
  rw [List.drop_eq_getElem_cons hk, List.set_cons_zero]
  simp [List.getD_eq_getElem?_getD, hk]
/-- The key with each byte changed. -/
def padx (key : ByteArray) (c : Int) : ByteArray := strOfNums ((padB key).map fun b => Go.bits .xor .u8 b c)
def shaOf (s : ByteArray) : ByteArray := strOfNums (sumOf shaTab (bytesOf s))
theorem sha_of_calls (s : ByteArray) (w : World) (hs : s.size ≤ 1099511627776) (hGs : GWs w) : Calls Tryd.prog 41 #[.string s] w fun e w' => e = .returned (.string (shaOf s)) ∧ Below w.heap.size w w' := sha_calls s w hs hGs
def hmac (key text : ByteArray) : ByteArray := shaOf (padx key 92 ++ shaOf (padx key 54 ++ text))
theorem strOfNums_size (xs : List Int) : (strOfNums xs).size = xs.length := by simp [strOfNums, ByteArray.size]
theorem shaOf_size (s : ByteArray) : (shaOf s).size = 32 := by
  have h : ∀ n (h b : List Int), h.length = 8 → (blocks shaTab n h b).length = 8 := by
    intro n
    induction n with
    | zero => intro h b hh; exact hh
    | succ n ih => intro h b hh; exact ih _ _ (block_length _ _ _ hh)
  rw [shaOf, strOfNums_size, sumOf, out_length, h _ _ _ rfl]
theorem copy_cells (s : ByteArray) (hs : s.size ≤ 64) : ((nums .u8 Z64).toArray.toList.take 0 ++ Lib.byteCells s.data.toList ++ (nums .u8 Z64).toArray.toList.drop (0 + s.size)).toArray = (nums .u8 (padB s)).toArray := by
  have h1 : (nums .u8 Z64).drop s.size = nums .u8 (List.replicate (64 - s.size) 0) := by
    simp only [nums, Z64, List.map_replicate, List.drop_replicate]
  have h2 : Lib.byteCells s.data.toList = nums .u8 (bytesOf s) := by simp only [nums, bytesOf, Lib.byteCells, List.map_map]; rfl
  rw [List.take_zero, List.nil_append, Nat.zero_add, h1, h2, padB, nums_append]
theorem two_new (w : World) : Arr8 ((w.alloc (.cells (nums .u8 Z64).toArray 5)).alloc (.cells (nums .u8 Z64).toArray 5)).drew w.heap.size Z64 ∧ Arr8 ((w.alloc (.cells (nums .u8 Z64).toArray 5)).alloc (.cells (nums .u8 Z64).toArray 5)).drew (w.heap.size + 1) Z64 ∧ Below w.heap.size w ((w.alloc (.cells (nums .u8 Z64).toArray 5)).alloc (.cells (nums .u8 Z64).toArray 5)).drew := by
  refine ⟨((Arr8.new w Z64).below (below_alloc (Below.refl _ _) (.cells (nums .u8 Z64).toArray 5))).drew, ?_, below_drew1 (below_alloc (below_alloc (Below.refl _ _) _) _)⟩
  have h := Arr8.new (w.alloc (.cells (nums .u8 Z64).toArray 5)) Z64
  have e : (w.alloc (.cells (nums .u8 Z64).toArray 5)).heap.size = w.heap.size + 1 := by simp
  rw [e] at h
  exact h
theorem copy_event {ops : Array Oper} {rest : List Oper} {o : Oper} {a : Act} {Q : Exit → Act → World → Prop} {W : World} (hgd : o.guard = none) (d x : Operand)
    (ho : o.op = .call { callee := .builtin .copy, args := #[d, x], argTypes := #[26, 9] }) (g : Nat) (s : ByteArray) (hd : a.eval d = .slice (some ⟨g, 0, none⟩) 64 64) (hx : a.eval x = .string s) (hA : Arr8 W g Z64) (hs : s.size ≤ 64)
    (h : ∀ w1, Arr8 w1 g (padB s) → W.grownBy w1 (some g) → wpList Tryd.prog ops Q rest (a.put o.dst (goInt s.size)) w1) : wpList Tryd.prog ops Q (o :: rest) a W := by
  refine wpList_plain hgd fun K hK => ?_
  obtain ⟨i, hi, hz⟩ := Option.map_eq_some_iff.1 info5
  simp only [Prod.mk.injEq] at hz
  have hr := Lib.run_copy_row_string (P := Tryd.prog) W 26 9 o.type 5 g 0 64 64 s (nums .u8 Z64).toArray 5 Tryd.underlying26 (by rw [hi]; simp [hz.2.1]) hA hs (by simp [nums, Z64]; exact hs)
  have hw : Arr8 (W.setRow g ((nums .u8 Z64).toArray.toList.take 0 ++ Lib.byteCells s.data.toList ++ (nums .u8 Z64).toArray.toList.drop (0 + s.size)).toArray) g (padB s) := by
    unfold Arr8
    rw [setRow_heap W g _ _ 5 _ hA]
    rw [copy_cells s hs]
  have hg : W.grownBy (W.setRow g ((nums .u8 Z64).toArray.toList.take 0 ++ Lib.byteCells s.data.toList ++ (nums .u8 Z64).toArray.toList.drop (0 + s.size)).toArray) (some g) := ⟨rfl, rfl, rfl, by simp, fun k _ hk => setRow_other W g k _ (fun e => hk (by rw [e]))⟩
  unfold Oper.wp execOp
  simp only [ho, resolve, invoke, builtin, Sem.run_bind, Sem.run_pure, Result.andThen_ok, List.map_toArray, List.map_cons, List.map_nil, hd, hx, hr]
  exact hK _ _ (h _ hw hg)
set_option maxHeartbeats 8000000 in
set_option maxRecDepth 100000 in
theorem hmac_calls (key text : ByteArray) (w : World) (hk : key.size ≤ 64) (ht : text.size ≤ 549755813888) (hGs : GWs w) :
    Calls Tryd.prog 45 #[.string key, .string text] w fun e w' => e = .returned (.string (hmac key text)) ∧ Below w.heap.size w w' := by
  have h64 : decide (64 < (key.size : Int)) = false := by simp; omega
  have h64' : decide (64 < key.size) = false := by simp; omega
  have HGS := Aside0.mk hGs
  clear hGs
  go_enter Tryd.func45, Tryd.ntmps45
  go_upto_region 3 with (fail)
  go_cut [5, 6] (fun v5 v6 wc => ∃ gi go : Nat, v5 = .slice (some ⟨gi, 0, none⟩) 64 64 ∧ v6 = .slice (some ⟨go, 0, none⟩) 64 64 ∧ Aside0 (gi ≠ go) ∧ Aside0 (w.heap.size ≤ gi) ∧ Aside0 (w.heap.size ≤ go) ∧ Aside0 (Arr8 wc gi Z64) ∧ Aside0 (Arr8 wc go Z64) ∧ Aside0 (Below w.heap.size w wc))
  case first =>
    have hmk := make64
    go_region
    all_goals
      go_wp2_with fail
      go_meet
    · exact ⟨_, _, rfl, rfl, ⟨by simp⟩, ⟨by simp⟩, ⟨by simp⟩, ⟨by first | exact (two_new w).1 | exact (two_new w).2.1⟩, ⟨by first | exact (two_new w).1 | exact (two_new w).2.1⟩, ⟨(two_new w).2.2⟩⟩
    · exact ⟨_, _, rfl, rfl, ⟨by simp⟩, ⟨by simp⟩, ⟨by simp⟩, ⟨by first | exact (two_new w).1 | exact (two_new w).2.1⟩, ⟨by first | exact (two_new w).1 | exact (two_new w).2.1⟩, ⟨(two_new w).2.2⟩⟩
  case rest =>
    obtain ⟨gi, go, rfl, rfl, HNE, HGI, HGO, HAI, HAO, HB⟩ := hcut
    have hne1 : gi ≠ go := HNE.out
    go_wp2_with (first
      | ((with_reducible refine gate_dst (N := 17) rfl ?_); refine copy_event rfl (.tmp 15) (.tmp 16) rfl gi key rfl rfl HAI.out hk ?_; intro w1 h1 hg1; have HAI1 := Aside0.mk h1; have HAO1 := Aside0.mk (HAO.out.move (hg1.block go HAO.out.lt (fun e => by injection e with e; exact hne1 e.symm))); have HB1 := Aside0.mk (HB.out.grown hg1 HB.out.size (fun k hk => by injection hk with hk; have := HGI.out; omega)); clear h1 hg1)
      | ((with_reducible refine gate_dst (N := 20) rfl ?_); refine copy_event rfl (.tmp 18) (.tmp 19) rfl go key rfl rfl HAO1.out hk ?_; intro w1 h1 hg1; have HAO2 := Aside0.mk h1; have HAI2 := Aside0.mk (HAI1.out.move (hg1.block gi HAI1.out.lt (fun e => by injection e with e; exact hne1 e))); have HB2 := Aside0.mk (HB1.out.grown hg1 HB1.out.size (fun k hk => by injection hk with hk; have := HGO.out; omega)); clear h1 hg1))
    go_loopg [23] 64 (fun kq v23 w' => ∃ k : Nat, v23 = .int .i64 (k : Int) ∧ Aside0 (k + kq = 64) ∧ Aside0 (Arr8 w' gi (xorTo 54 (padB key) k)) ∧ Aside0 (Arr8 w' go (xorTo 92 (padB key) k)) ∧ Aside0 (Below w.heap.size w w'))
    case atStart => exact ⟨0, rfl, ⟨rfl⟩, ⟨by rw [xorTo_zero]; exact HAI2.out⟩, ⟨by rw [xorTo_zero]; exact HAO2.out⟩, HB2⟩
    case round =>
      clear HAI HAO HB HAI1 HAO1 HB1 HAI2 HAO2 HB2
      obtain ⟨k, rfl, HK, HAI, HAO, HB⟩ := hrel
      cases gk with
      | zero =>
        obtain rfl : k = 64 := by have := HK.out; omega
        have HXI := Aside0.mk (show Arr8 wr gi ((padB key).map fun b => Go.bits .xor .u8 b 54) by rw [← xorTo_all 54 _ 64 (padB_length _ hk)]; exact HAI.out)
        have HXO := Aside0.mk (show Arr8 wr go ((padB key).map fun b => Go.bits .xor .u8 b 92) by rw [← xorTo_all 92 _ 64 (padB_length _ hk)]; exact HAO.out)
        have hli : ((padB key).map fun b => Go.bits .xor .u8 b 54).length = 64 := by rw [List.length_map, padB_length _ hk]
        have hlo : ((padB key).map fun b => Go.bits .xor .u8 b 92).length = 64 := by rw [List.length_map, padB_length _ hk]
        have hstri : ∀ W : World, Arr8 W gi ((padB key).map fun b => Go.bits .xor .u8 b 54) → (convert 26 9 (.slice (some ⟨gi, 0, none⟩) 64 64)).run Tryd.prog W = .ok (.string (padx key 54)) W := fun W hW => by
          have h1 := hW.str (by rw [hli]; decide) 64
          rw [hli] at h1
          exact h1
        have hstro : ∀ W : World, Arr8 W go ((padB key).map fun b => Go.bits .xor .u8 b 92) → (convert 26 9 (.slice (some ⟨go, 0, none⟩) 64 64)).run Tryd.prog W = .ok (.string (padx key 92)) W := fun W hW => by
          have h1 := hW.str (by rw [hlo]; decide) 64
          rw [hlo] at h1
          exact h1
        have HSO := Aside0.mk hstro
        have hci0 := hstri wr.drew HXI.out.drew
        have hco0 := hstro wr.drew HXO.out.drew
        have hs54 : (padx key 54).size = 64 := by rw [padx, strOfNums_size, hli]
        have hs92 : (padx key 92).size = 64 := by rw [padx, strOfNums_size, hlo]
        have HS54 := Aside0.mk hs54
        have HS92 := Aside0.mk hs92
        have HGW := Aside0.mk (show GWs wr.drew from (HGS.out.below HB.out).below (below_drew1 (Below.refl _ _)))
        have b54 : (padx key 54).size ≤ 64 := by omega
        have b92 : (padx key 92).size ≤ 64 := by omega
        have b32 : (shaOf (padx key 54 ++ text)).size ≤ 32 := by rw [shaOf_size]; exact Nat.le_refl _
        clear hstri hstro hs54 hs92 hli hlo
        go_wp2_with fail
        go_region_with (first
          | (go_at_call 41; (with_reducible refine (sha_of_calls (padx key 54 ++ text) _ (by rw [ByteArray.size_append, HS54.out]; omega) HGW.out).mono ?_); rintro e w1 ⟨rfl, hb1⟩; have hco1 := HSO.out w1 (HXO.out.drew.below hb1); have HB1 := Aside0.mk hb1)
          | (go_at_call 41; (with_reducible refine (sha_of_calls (padx key 92 ++ shaOf (padx key 54 ++ text)) _ (by rw [ByteArray.size_append, HS92.out, shaOf_size]; omega) (HGW.out.below HB1.out)).mono ?_); rintro e w2 ⟨rfl, hb2⟩))
        all_goals
          have HB2 := Aside0.mk hb2
          clear hb2
          go_wp2_with fail
          go_ret
          exact ⟨rfl, below_step (below_step (below_drew1 HB.out) HB1.out) HB2.out⟩
      | succ k1 =>
        have hk64 : decide ((k : Int) < 64) = true := by have := HK.out; simp; omega
        have hk64' : decide (k < 64) = true := by have := HK.out; simp; omega
        have hkk : k < 64 := by have := HK.out; omega
        have hx0 := HAI.out.cell k (by rw [xorTo_length, padB_length _ hk]; exact hkk)
        have hx1 := HAO.out.cell k (by rw [xorTo_length, padB_length _ hk]; exact hkk)
        rw [xorTo_at _ _ _ (by rw [padB_length _ hk]; exact hkk)] at hx0 hx1
        have hf0 := HAI.out.fro k
        have hf1 := HAO.out.fro k
        obtain ⟨x0, hx0e⟩ : ∃ z, (padB key).getD k 0 = z := ⟨_, rfl⟩
        rw [hx0e] at hx0 hx1
        have HX0 := Aside0.mk hx0e
        clear hx0e
        have kp : (0 : Int) ≤ (k : Int) := by omega
        have kq : (k : Int) < 64 := by omega
        go_wp2_with fail
        go_roundg k1
        case measure => omega
        case rel => exact ⟨k + 1, by go_num, ⟨by have := HK.out; omega⟩, ⟨by
          have h1 := (HAI.out.set k (Go.bits .xor .u8 x0 54)).far (p := ⟨go, k, none⟩) hne1 (.int .u8 (Go.bits .xor .u8 x0 92))
          rw [← xorTo_set _ _ _ (by rw [padB_length _ hk]; exact hkk), HX0.out]
          exact h1⟩, ⟨by
          have h1 := (HAO.out.far (p := ⟨gi, k, none⟩) (fun e => hne1 e.symm) (.int .u8 (Go.bits .xor .u8 x0 54))).set k (Go.bits .xor .u8 x0 92)
          rw [← xorTo_set _ _ _ (by rw [padB_length _ hk]; exact hkk), HX0.out]
          exact h1⟩, ⟨((HB.out.setCell (p := ⟨gi, k, none⟩) HGI.out _).setCell (p := ⟨go, k, none⟩) HGO.out _)⟩⟩
end Go.Proofs.YtndjhgjakdkkaaaDoor.M
end

section
-- Printed for this claim by a program (mprint.py) that uses the kit's print; Lean checks it.
namespace Go.Proofs.YtndjhgjakdkkaaaDoor.M
open Go.RowKit Go.Proofs.YtndjhgjakdkkaaaDoorW.PrintWords Go.Proofs.YtndjhgjakdkkaaaDoorW.PrintLast Go.Proofs.YtndjhgjakdkkaaaDoorW.PrintMore
attribute [local go_sem] max2_int min2_int max_two min_two max_three min_three max_four min_four   -- for this text's walks alone
set_option linter.unusedVariables false
set_option linter.unusedSimpArgs false

/-! ### impl_hmacOf: function 45 -/
def impl_hmacOf.f (a0 : ByteArray) (a1 : ByteArray) : Option (ByteArray) := if a0.size ≤ 64 then (if a1.size ≤ 549755813888 then (some (hmac a0 a1)) else (none)) else (none)
theorem impl_hmacOf.calls (a0 : ByteArray) (a1 : ByteArray) (r : ByteArray) (w : World) (hGs : GWs w) (h : impl_hmacOf.f a0 a1 = some r) :
    Calls Tryd.prog 45 #[.string a0, .string a1] w fun e w' => e = .returned (.string r) ∧ Below w.heap.size w w' := by
  unfold impl_hmacOf.f at h
  by_cases h0 : a0.size ≤ 64
  · rw [if_pos h0] at h
    by_cases h1 : a1.size ≤ 549755813888
    · rw [if_pos h1] at h
      obtain rfl := Option.some.inj h
      exact hmac_calls a0 a1 w h0 h1 hGs
    · rw [if_neg h1] at h
      cases h
  · rw [if_neg h0] at h
    cases h

end Go.Proofs.YtndjhgjakdkkaaaDoor.M
end

section
-- Printed for this claim by a program (mprint.py) that uses the kit's print; Lean checks it.
namespace Go.Proofs.YtndjhgjakdkkaaaDoor.M
open Go.RowKit Go.Proofs.YtndjhgjakdkkaaaDoorW.PrintWords Go.Proofs.YtndjhgjakdkkaaaDoorW.PrintLast Go.Proofs.YtndjhgjakdkkaaaDoorW.PrintMore
attribute [local go_sem] max2_int min2_int max_two min_two max_three min_three max_four min_four   -- for this text's walks alone
set_option linter.unusedVariables false
set_option linter.unusedSimpArgs false

/-! ### impl_within: function 65 -/
def impl_within.f (a0 : Int) (a1 : Int) (a2 : Int) : Option (Bool) := if a0 ≥ a1 then (some (decide (a0 ≤ a2))) else (some false)
set_option maxHeartbeats 8000000 in
set_option maxRecDepth 100000 in
theorem impl_within.calls (a0 : Int) (a1 : Int) (a2 : Int) (r : Bool) (w : World) (h : impl_within.f a0 a1 a2 = some r) :
    Calls Tryd.prog 65 #[.int .i64 a0, .int .i64 a1, .int .i64 a2] w fun e w' => e = .returned (.bool r) ∧ Drawn0 w w' := by
  have H : (if a0 ≥ a1 then (some (decide (a0 ≤ a2))) else (some false)) = some r := h
  clear h
  by_cases c4 : a0 ≥ a1
  · rw [if_pos c4] at H
    have c4b0 : decide (a1 ≤ a0) = true := decide_eq_true c4
    clear c4
    obtain rfl := Option.some.inj H
    go_enter Tryd.func65, Tryd.ntmps65
    go_wp2
    go_ret
    exact ⟨by first | rfl | (simp; done) | (simp [*]; done), by repeat (first | exact Drawn0.refl _ | apply Drawn0.step)⟩
  · rw [if_neg c4] at H
    have c4b0 : decide (a1 ≤ a0) = false := decide_eq_false c4
    clear c4
    obtain rfl := Option.some.inj H
    go_enter Tryd.func65, Tryd.ntmps65
    go_wp2
    go_ret
    exact ⟨by first | rfl | (simp; done) | (simp [*]; done), by repeat (first | exact Drawn0.refl _ | apply Drawn0.step)⟩

end Go.Proofs.YtndjhgjakdkkaaaDoor.M
end

section
-- Printed for this claim by a program (mprint.py) that uses the kit's print; Lean checks it.
namespace Go.Proofs.YtndjhgjakdkkaaaDoor.M
open Go.RowKit Go.Proofs.YtndjhgjakdkkaaaDoorW.PrintWords Go.Proofs.YtndjhgjakdkkaaaDoorW.PrintLast Go.Proofs.YtndjhgjakdkkaaaDoorW.PrintMore
attribute [local go_sem] max2_int min2_int max_two min_two max_three min_three max_four min_four   -- for this text's walks alone
set_option linter.unusedVariables false
set_option linter.unusedSimpArgs false

/-! ### impl_keyOk: function 44 -/
def impl_keyOk.f (a0 : ByteArray) : Option (Bool) := (impl_within.f (a0.size : Int) 1 64).bind fun t101 => (if t101 = true then (if 0 ≤ (wrap64 ((a0.size : Int) - 1)) then (if (wrap64 ((a0.size : Int) - 1)) < (a0.size : Int) then (some ((bt a0 (wrap64 ((a0.size : Int) - 1))) != 0)) else (none)) else (none)) else (some false))
set_option maxHeartbeats 8000000 in
set_option maxRecDepth 100000 in
theorem impl_keyOk.calls (a0 : ByteArray) (r : Bool) (w : World) (h : impl_keyOk.f a0 = some r) :
    Calls Tryd.prog 44 #[.string a0] w fun e w' => e = .returned (.bool r) ∧ Drawn0 w w' := by
  have H : ((impl_within.f (a0.size : Int) 1 64).bind fun t101 => (if t101 = true then (if 0 ≤ (wrap64 ((a0.size : Int) - 1)) then (if (wrap64 ((a0.size : Int) - 1)) < (a0.size : Int) then (some ((bt a0 (wrap64 ((a0.size : Int) - 1))) != 0)) else (none)) else (none)) else (some false))) = some r := h
  clear h
  replace H := Option.bind_eq_some_iff.mp H
  obtain ⟨t101, A20, H⟩ := H
  replace H : (if t101 = true then (if 0 ≤ (wrap64 ((a0.size : Int) - 1)) then (if (wrap64 ((a0.size : Int) - 1)) < (a0.size : Int) then (some ((bt a0 (wrap64 ((a0.size : Int) - 1))) != 0)) else (none)) else (none)) else (some false)) = some r := H
  have A2 := Aside0.mk A20
  clear A20
  by_cases c3 : t101 = true
  · subst c3
    have H1 : (if 0 ≤ (wrap64 ((a0.size : Int) - 1)) then (if (wrap64 ((a0.size : Int) - 1)) < (a0.size : Int) then (some ((bt a0 (wrap64 ((a0.size : Int) - 1))) != 0)) else (none)) else (none)) = some r := by rw [if_pos rfl] at H; exact H
    clear H
    have H := H1
    clear H1
    obtain ⟨ji4, hji4⟩ : ∃ j_ : Int, (wrap64 ((a0.size : Int) - 1)) = j_ := ⟨_, rfl⟩
    replace H : (if 0 ≤ (ji4) then (if (ji4) < (a0.size : Int) then (some ((bt a0 (ji4)) != 0)) else (none)) else (none)) = some r := by first | (rw [hji4] at H; exact H) | (simp only [hji4] at H ⊢; exact H)
    (try rw [hji4] at A2)
    have hji4w : (IntKind.i64.wrap ((a0.size : Int) - 1)) = ji4 := (i64_w _).trans hji4
    by_cases c5 : 0 ≤ (ji4)
    · rw [if_pos c5] at H
      have c5b0 : decide (0 ≤ (ji4)) = true := decide_eq_true c5
      clear c5
      by_cases c6 : (ji4) < (a0.size : Int)
      · rw [if_pos c6] at H
        have c6b0 : decide ((ji4) < (a0.size : Int)) = true := decide_eq_true c6
        clear c6
        obtain rfl := Option.some.inj H
        go_enter Tryd.func44, Tryd.ntmps44
        go_wp2_with (first | ((with_reducible refine gate_callee (f := 65) rfl ?_); refine goesL_ (some 5) rfl rfl Tryd.func65 (by kernel_rfl) rfl #[.int .i64 (a0.size : Int), .int .i64 1, .int .i64 64] rfl (by (try simp only [List.map_toArray, List.map_cons, List.map_nil]); first | done | rfl | (simp only [List.length_drop, List.length_take]; rfl)) ?_; (with_reducible refine (impl_within.calls (a0.size : Int) 1 64 true _ A2.out).mono ?_); rintro e w' ⟨rfl, ⟨nd, rfl⟩⟩; refine ⟨_, rfl, ?_⟩; have p7 : 0 ≤ ((ji4) : Int) := of_decide_eq_true (by first | (with_reducible assumption) | assumption); have q7 : (ji4) < (a0.size : Int) := of_decide_eq_true (by first | (with_reducible assumption) | assumption); have hx7 := bt_at a0 (ji4); replace p7 := eq_true p7; replace q7 := eq_true q7))
        go_ret
        exact ⟨by first | rfl | (simp; done) | (simp only [← hji4] <;> (first | rfl | simp)) | (simp [*]; done), by repeat (first | exact Drawn0.refl _ | apply Drawn0.step)⟩
      · rw [if_neg c6] at H
        exact absurd H (by simp)
    · rw [if_neg c5] at H
      exact absurd H (by simp)
  · replace c3 := Bool.eq_false_iff.mpr c3
    subst c3
    have H1 : (some false) = some r := by rw [if_neg (show ¬ (false = true) by decide)] at H; exact H
    clear H
    have H := H1
    clear H1
    obtain rfl := Option.some.inj H
    go_enter Tryd.func44, Tryd.ntmps44
    go_wp2_with (first | ((with_reducible refine gate_callee (f := 65) rfl ?_); refine goesL_ (some 5) rfl rfl Tryd.func65 (by kernel_rfl) rfl #[.int .i64 (a0.size : Int), .int .i64 1, .int .i64 64] rfl (by (try simp only [List.map_toArray, List.map_cons, List.map_nil]); first | done | rfl | (simp only [List.length_drop, List.length_take]; rfl)) ?_; (with_reducible refine (impl_within.calls (a0.size : Int) 1 64 false _ A2.out).mono ?_); rintro e w' ⟨rfl, ⟨nd, rfl⟩⟩; refine ⟨_, rfl, ?_⟩))
    go_ret
    exact ⟨by first | rfl | (simp; done) | (simp [*]; done), by repeat (first | exact Drawn0.refl _ | apply Drawn0.step)⟩

end Go.Proofs.YtndjhgjakdkkaaaDoor.M
end

section
-- Printed for this claim by a program (mprint.py) that uses the kit's print; Lean checks it.
namespace Go.Proofs.YtndjhgjakdkkaaaDoor.M
open Go.RowKit Go.Proofs.YtndjhgjakdkkaaaDoorW.PrintWords Go.Proofs.YtndjhgjakdkkaaaDoorW.PrintLast Go.Proofs.YtndjhgjakdkkaaaDoorW.PrintMore
attribute [local go_sem] max2_int min2_int max_two min_two max_three min_three max_four min_four   -- for this text's walks alone
set_option linter.unusedVariables false
set_option linter.unusedSimpArgs false

/-! ### impl_SealOf: function 15 -/
def impl_SealOf.f (k : Nat) (a0 : ByteArray) (a1 : ByteArray) : Option (ByteArray) := (impl_keyOk.f a0).bind fun t101 => (if t101 = true then ((impl_hmacOf.f a0 a1).bind fun t102 => ((impl_hexOf.f k t102).bind fun t103 => (some t103))) else (some (⟨#[]⟩ : ByteArray)))
theorem impl_SealOf.mono : ∀ a0 a1 k, LeO (impl_SealOf.f k a0 a1) (impl_SealOf.f (k + 1) a0 a1) := by
  intro a0 a1 k
  unfold impl_SealOf.f
  repeat' first
      | (with_reducible exact impl_hexOf.mono _ _)
      | (with_reducible exact LeO.refl _)
      | (with_reducible exact LeO.none _)
      | (with_reducible refine LeO.ite ?_ ?_)
      | (with_reducible refine LeO.bind ?_ (fun _ => ?_))
      | exact impl_hexOf.mono _ _
      | exact LeO.none _
      | refine LeO.ite ?_ ?_
      | refine LeO.bind ?_ (fun _ => ?_)
set_option maxHeartbeats 8000000 in
set_option maxRecDepth 100000 in
theorem impl_SealOf.calls (k : Nat) (a0 : ByteArray) (a1 : ByteArray) (r : ByteArray) (w : World) (hGs : GWs w) (h : impl_SealOf.f k a0 a1 = some r) :
    Calls Tryd.prog 15 #[.string a0, .string a1] w fun e w' => e = .returned (.string r) ∧ Below w.heap.size w w' := by
  have HGWs := Aside0.mk hGs
  clear hGs
  have HB := Aside0.mk (Below.refl w.heap.size w)
  have H : ((impl_keyOk.f a0).bind fun t101 => (if t101 = true then ((impl_hmacOf.f a0 a1).bind fun t102 => ((impl_hexOf.f k t102).bind fun t103 => (some t103))) else (some (⟨#[]⟩ : ByteArray)))) = some r := h
  clear h
  replace H := Option.bind_eq_some_iff.mp H
  obtain ⟨t101, A30, H⟩ := H
  replace H : (if t101 = true then ((impl_hmacOf.f a0 a1).bind fun t102 => ((impl_hexOf.f k t102).bind fun t103 => (some t103))) else (some (⟨#[]⟩ : ByteArray))) = some r := H
  have A3 := Aside0.mk A30
  clear A30
  by_cases c4 : t101 = true
  · subst c4
    have H1 : ((impl_hmacOf.f a0 a1).bind fun t102 => ((impl_hexOf.f k t102).bind fun t103 => (some t103))) = some r := by rw [if_pos rfl] at H; exact H
    clear H
    have H := H1
    clear H1
    replace H := Option.bind_eq_some_iff.mp H
    obtain ⟨t102, A50, H⟩ := H
    replace H : ((impl_hexOf.f k t102).bind fun t103 => (some t103)) = some r := H
    have A5 := Aside0.mk A50
    clear A50
    replace H := Option.bind_eq_some_iff.mp H
    obtain ⟨t103, A60, H⟩ := H
    replace H : (some t103) = some r := H
    have A6 := Aside0.mk A60
    clear A60
    obtain rfl := Option.some.inj H
    go_enter Tryd.func15, Tryd.ntmps15
    go_wp2_with (first | ((with_reducible refine gate_callee (f := 44) rfl ?_); refine goesL_ (some 6) rfl rfl Tryd.func44 (by kernel_rfl) rfl #[.string a0] rfl (by (try simp only [List.map_toArray, List.map_cons, List.map_nil]); first | done | rfl | (simp only [List.length_drop, List.length_take]; rfl)) ?_; (with_reducible refine (impl_keyOk.calls a0 true _ A3.out).mono ?_); rintro e w' ⟨rfl, ⟨nd, rfl⟩⟩; refine ⟨_, rfl, ?_⟩) | ((with_reducible refine gate_callee (f := 45) rfl ?_); refine goesL_ (some 10) rfl rfl Tryd.func45 (by kernel_rfl) rfl #[.string a0, .string a1] rfl (by (try simp only [List.map_toArray, List.map_cons, List.map_nil]); first | done | rfl | (simp only [List.length_drop, List.length_take]; rfl)) ?_; (with_reducible refine (impl_hmacOf.calls a0 a1 t102 _ ?side1 A5.out).mono ?_); (case side1 => exact GWs.below HGWs.out (by repeat (first | (with_reducible first | exact HB.out | apply below_alloc | apply pw_below_drewN | apply below_drew1) | exact HB.out))); rintro e w7 ⟨rfl, hb⟩; refine ⟨_, rfl, ?_⟩; have n0_ := Aside0.mk (below_step (by repeat (first | (with_reducible first | exact HB.out | apply below_alloc | apply pw_below_drewN | apply below_drew1) | exact HB.out)) hb); clear HB; have HB := n0_; clear n0_; (try clear hb); (try clear hb2); (try clear hk); (try clear hi)) | ((with_reducible refine gate_callee (f := 40) rfl ?_); refine goesL_ (some 11) rfl rfl Tryd.func40 (by kernel_rfl) rfl #[.string t102] rfl (by (try simp only [List.map_toArray, List.map_cons, List.map_nil]); first | done | rfl | (simp only [List.length_drop, List.length_take]; rfl)) ?_; (with_reducible refine (impl_hexOf.calls k t102 t103 _ A6.out).mono ?_); rintro e w8 ⟨rfl, hb⟩; refine ⟨_, rfl, ?_⟩; have n0_ := Aside0.mk (below_step (by repeat (first | (with_reducible first | exact HB.out | apply below_alloc | apply pw_below_drewN | apply below_drew1) | exact HB.out)) hb); clear HB; have HB := n0_; clear n0_; (try clear hb); (try clear hb2); (try clear hk); (try clear hi)))
    go_ret
    exact ⟨by first | rfl | (simp [errW_none, errW_some] <;> rfl) | (simp [*, errW_none, errW_some] <;> rfl), by repeat (first | (with_reducible first | exact HB.out | apply below_alloc | apply pw_below_drewN | apply below_drew1) | exact HB.out)⟩
  · replace c4 := Bool.eq_false_iff.mpr c4
    subst c4
    have H1 : (some (⟨#[]⟩ : ByteArray)) = some r := by rw [if_neg (show ¬ (false = true) by decide)] at H; exact H
    clear H
    have H := H1
    clear H1
    obtain rfl := Option.some.inj H
    go_enter Tryd.func15, Tryd.ntmps15
    go_wp2_with (first | ((with_reducible refine gate_callee (f := 44) rfl ?_); refine goesL_ (some 6) rfl rfl Tryd.func44 (by kernel_rfl) rfl #[.string a0] rfl (by (try simp only [List.map_toArray, List.map_cons, List.map_nil]); first | done | rfl | (simp only [List.length_drop, List.length_take]; rfl)) ?_; (with_reducible refine (impl_keyOk.calls a0 false _ A3.out).mono ?_); rintro e w' ⟨rfl, ⟨nd, rfl⟩⟩; refine ⟨_, rfl, ?_⟩))
    go_ret
    exact ⟨by first | rfl | (simp [errW_none, errW_some] <;> rfl) | (simp [*, errW_none, errW_some] <;> rfl), by repeat (first | (with_reducible first | exact HB.out | apply below_alloc | apply pw_below_drewN | apply below_drew1) | exact HB.out)⟩

end Go.Proofs.YtndjhgjakdkkaaaDoor.M
end

section
-- Printed for this claim by a program (mprint.py) that uses the kit's print; Lean checks it.
namespace Go.Proofs.YtndjhgjakdkkaaaDoor.M
open Go.RowKit Go.Proofs.YtndjhgjakdkkaaaDoorW.PrintWords Go.Proofs.YtndjhgjakdkkaaaDoorW.PrintLast Go.Proofs.YtndjhgjakdkkaaaDoorW.PrintMore
attribute [local go_sem] max2_int min2_int max_two min_two max_three min_three max_four min_four   -- for this text's walks alone
set_option linter.unusedVariables false
set_option linter.unusedSimpArgs false

/-! ### spec_l1In: function 67 -/
def spec_l1In.f (a0 : Int) (a1 : Int) (a2 : Int) : Option (Bool) := if a0 ≥ a1 then (some (decide (a0 ≤ a2))) else (some false)
set_option maxHeartbeats 8000000 in
set_option maxRecDepth 100000 in
theorem spec_l1In.calls (a0 : Int) (a1 : Int) (a2 : Int) (r : Bool) (w : World) (h : spec_l1In.f a0 a1 a2 = some r) :
    Calls Tryd.prog 67 #[.int .i64 a0, .int .i64 a1, .int .i64 a2] w fun e w' => e = .returned (.bool r) ∧ Drawn0 w w' := by
  have H : (if a0 ≥ a1 then (some (decide (a0 ≤ a2))) else (some false)) = some r := h
  clear h
  by_cases c4 : a0 ≥ a1
  · rw [if_pos c4] at H
    have c4b0 : decide (a1 ≤ a0) = true := decide_eq_true c4
    clear c4
    obtain rfl := Option.some.inj H
    go_enter Tryd.func67, Tryd.ntmps67
    go_wp2
    go_ret
    exact ⟨by first | rfl | (simp; done) | (simp [*]; done), by repeat (first | exact Drawn0.refl _ | apply Drawn0.step)⟩
  · rw [if_neg c4] at H
    have c4b0 : decide (a1 ≤ a0) = false := decide_eq_false c4
    clear c4
    obtain rfl := Option.some.inj H
    go_enter Tryd.func67, Tryd.ntmps67
    go_wp2
    go_ret
    exact ⟨by first | rfl | (simp; done) | (simp [*]; done), by repeat (first | exact Drawn0.refl _ | apply Drawn0.step)⟩

end Go.Proofs.YtndjhgjakdkkaaaDoor.M
end

section
-- Printed for this claim by a program (mprint.py) that uses the kit's print; Lean checks it.
namespace Go.Proofs.YtndjhgjakdkkaaaDoor.M
open Go.RowKit Go.Proofs.YtndjhgjakdkkaaaDoorW.PrintWords Go.Proofs.YtndjhgjakdkkaaaDoorW.PrintLast Go.Proofs.YtndjhgjakdkkaaaDoorW.PrintMore
attribute [local go_sem] max2_int min2_int max_two min_two max_three min_three max_four min_four   -- for this text's walks alone
set_option linter.unusedVariables false
set_option linter.unusedSimpArgs false

/-! ### spec_l6Key: function 42 -/
def spec_l6Key.f (a0 : ByteArray) : Option (Bool) := (spec_l1In.f (a0.size : Int) 1 64).bind fun t101 => (if t101 = true then (if 0 ≤ (wrap64 ((a0.size : Int) - 1)) then (if (wrap64 ((a0.size : Int) - 1)) < (a0.size : Int) then (some ((bt a0 (wrap64 ((a0.size : Int) - 1))) != 0)) else (none)) else (none)) else (some false))
set_option maxHeartbeats 8000000 in
set_option maxRecDepth 100000 in
theorem spec_l6Key.calls (a0 : ByteArray) (r : Bool) (w : World) (h : spec_l6Key.f a0 = some r) :
    Calls Tryd.prog 42 #[.string a0] w fun e w' => e = .returned (.bool r) ∧ Drawn0 w w' := by
  have H : ((spec_l1In.f (a0.size : Int) 1 64).bind fun t101 => (if t101 = true then (if 0 ≤ (wrap64 ((a0.size : Int) - 1)) then (if (wrap64 ((a0.size : Int) - 1)) < (a0.size : Int) then (some ((bt a0 (wrap64 ((a0.size : Int) - 1))) != 0)) else (none)) else (none)) else (some false))) = some r := h
  clear h
  replace H := Option.bind_eq_some_iff.mp H
  obtain ⟨t101, A20, H⟩ := H
  replace H : (if t101 = true then (if 0 ≤ (wrap64 ((a0.size : Int) - 1)) then (if (wrap64 ((a0.size : Int) - 1)) < (a0.size : Int) then (some ((bt a0 (wrap64 ((a0.size : Int) - 1))) != 0)) else (none)) else (none)) else (some false)) = some r := H
  have A2 := Aside0.mk A20
  clear A20
  by_cases c3 : t101 = true
  · subst c3
    have H1 : (if 0 ≤ (wrap64 ((a0.size : Int) - 1)) then (if (wrap64 ((a0.size : Int) - 1)) < (a0.size : Int) then (some ((bt a0 (wrap64 ((a0.size : Int) - 1))) != 0)) else (none)) else (none)) = some r := by rw [if_pos rfl] at H; exact H
    clear H
    have H := H1
    clear H1
    obtain ⟨ji4, hji4⟩ : ∃ j_ : Int, (wrap64 ((a0.size : Int) - 1)) = j_ := ⟨_, rfl⟩
    replace H : (if 0 ≤ (ji4) then (if (ji4) < (a0.size : Int) then (some ((bt a0 (ji4)) != 0)) else (none)) else (none)) = some r := by first | (rw [hji4] at H; exact H) | (simp only [hji4] at H ⊢; exact H)
    (try rw [hji4] at A2)
    have hji4w : (IntKind.i64.wrap ((a0.size : Int) - 1)) = ji4 := (i64_w _).trans hji4
    by_cases c5 : 0 ≤ (ji4)
    · rw [if_pos c5] at H
      have c5b0 : decide (0 ≤ (ji4)) = true := decide_eq_true c5
      clear c5
      by_cases c6 : (ji4) < (a0.size : Int)
      · rw [if_pos c6] at H
        have c6b0 : decide ((ji4) < (a0.size : Int)) = true := decide_eq_true c6
        clear c6
        obtain rfl := Option.some.inj H
        go_enter Tryd.func42, Tryd.ntmps42
        go_wp2_with (first | ((with_reducible refine gate_callee (f := 67) rfl ?_); refine goesL_ (some 5) rfl rfl Tryd.func67 (by kernel_rfl) rfl #[.int .i64 (a0.size : Int), .int .i64 1, .int .i64 64] rfl (by (try simp only [List.map_toArray, List.map_cons, List.map_nil]); first | done | rfl | (simp only [List.length_drop, List.length_take]; rfl)) ?_; (with_reducible refine (spec_l1In.calls (a0.size : Int) 1 64 true _ A2.out).mono ?_); rintro e w' ⟨rfl, ⟨nd, rfl⟩⟩; refine ⟨_, rfl, ?_⟩; have p7 : 0 ≤ ((ji4) : Int) := of_decide_eq_true (by first | (with_reducible assumption) | assumption); have q7 : (ji4) < (a0.size : Int) := of_decide_eq_true (by first | (with_reducible assumption) | assumption); have hx7 := bt_at a0 (ji4); replace p7 := eq_true p7; replace q7 := eq_true q7))
        go_ret
        exact ⟨by first | rfl | (simp; done) | (simp only [← hji4] <;> (first | rfl | simp)) | (simp [*]; done), by repeat (first | exact Drawn0.refl _ | apply Drawn0.step)⟩
      · rw [if_neg c6] at H
        exact absurd H (by simp)
    · rw [if_neg c5] at H
      exact absurd H (by simp)
  · replace c3 := Bool.eq_false_iff.mpr c3
    subst c3
    have H1 : (some false) = some r := by rw [if_neg (show ¬ (false = true) by decide)] at H; exact H
    clear H
    have H := H1
    clear H1
    obtain rfl := Option.some.inj H
    go_enter Tryd.func42, Tryd.ntmps42
    go_wp2_with (first | ((with_reducible refine gate_callee (f := 67) rfl ?_); refine goesL_ (some 5) rfl rfl Tryd.func67 (by kernel_rfl) rfl #[.int .i64 (a0.size : Int), .int .i64 1, .int .i64 64] rfl (by (try simp only [List.map_toArray, List.map_cons, List.map_nil]); first | done | rfl | (simp only [List.length_drop, List.length_take]; rfl)) ?_; (with_reducible refine (spec_l1In.calls (a0.size : Int) 1 64 false _ A2.out).mono ?_); rintro e w' ⟨rfl, ⟨nd, rfl⟩⟩; refine ⟨_, rfl, ?_⟩))
    go_ret
    exact ⟨by first | rfl | (simp; done) | (simp [*]; done), by repeat (first | exact Drawn0.refl _ | apply Drawn0.step)⟩

end Go.Proofs.YtndjhgjakdkkaaaDoor.M
end

section
-- Printed for this claim by a program (mprint.py) that uses the kit's print; Lean checks it.
namespace Go.Proofs.YtndjhgjakdkkaaaDoor.M
open Go.RowKit Go.Proofs.YtndjhgjakdkkaaaDoorW.PrintWords Go.Proofs.YtndjhgjakdkkaaaDoorW.PrintLast Go.Proofs.YtndjhgjakdkkaaaDoorW.PrintMore
attribute [local go_sem] max2_int min2_int max_two min_two max_three min_three max_four min_four   -- for this text's walks alone
set_option linter.unusedVariables false
set_option linter.unusedSimpArgs false

/-! ### spec_l6Pad: function 43 -/
def spec_l6Pad.l0 : Nat → ByteArray → Int → List Int → Int → Option (ByteArray)
  | 0, _, _, _, _ => none
  | k + 1, x0, x1, x5, x6 => if x6 < 64 then (if x6 < (x0.size : Int) then (if 0 ≤ x6 then (if x5.length < 140737488355328 then (spec_l6Pad.l0 k x0 x1 (x5 ++ [Go.bits .xor .u8 (bt x0 x6) x1]) (wrap64 (x6 + 1))) else (none)) else (none)) else (if x5.length < 140737488355328 then (spec_l6Pad.l0 k x0 x1 (x5 ++ [Go.bits .xor .u8 0 x1]) (wrap64 (x6 + 1))) else (none))) else (some (strOfNums x5))
def spec_l6Pad.f (k : Nat) (a0 : ByteArray) (a1 : Int) : Option (ByteArray) := spec_l6Pad.l0 k a0 a1 (([] : List Int)) 0
theorem spec_l6Pad.mono_l : ∀ k, (∀ y0 y1 y2 y3, LeO (spec_l6Pad.l0 k y0 y1 y2 y3) (spec_l6Pad.l0 (k + 1) y0 y1 y2 y3))
  | 0 => fun _ _ _ _ r h => by simp [spec_l6Pad.l0] at h
  | k + 1 => by
    have ih0 := spec_l6Pad.mono_l k
    · intro y0 y1 y2 y3
      unfold spec_l6Pad.l0
      repeat' first
      | (with_reducible exact ih0 _ _ _ _)
      | (with_reducible exact LeO.refl _)
      | (with_reducible exact LeO.none _)
      | (with_reducible refine LeO.ite ?_ ?_)
      | (with_reducible refine LeO.bind ?_ (fun _ => ?_))
      | exact ih0 _ _ _ _
      | exact LeO.none _
      | refine LeO.ite ?_ ?_
      | refine LeO.bind ?_ (fun _ => ?_)
theorem spec_l6Pad.mono : ∀ a0 a1 k, LeO (spec_l6Pad.f k a0 a1) (spec_l6Pad.f (k + 1) a0 a1) := by
  intro a0 a1 k
  have ih0 := spec_l6Pad.mono_l k
  unfold spec_l6Pad.f
  repeat' first
      | (with_reducible exact ih0 _ _ _ _)
      | (with_reducible exact LeO.refl _)
      | (with_reducible exact LeO.none _)
      | (with_reducible refine LeO.ite ?_ ?_)
      | (with_reducible refine LeO.bind ?_ (fun _ => ?_))
      | exact ih0 _ _ _ _
      | exact LeO.none _
      | refine LeO.ite ?_ ?_
      | refine LeO.bind ?_ (fun _ => ?_)
set_option maxHeartbeats 8000000 in
set_option maxRecDepth 100000 in
theorem spec_l6Pad.calls (k : Nat) (a0 : ByteArray) (a1 : Int) (r : ByteArray) (w : World) (h : spec_l6Pad.f k a0 a1 = some r) :
    Calls Tryd.prog 43 #[.string a0, .int .u8 a1] w fun e w' => e = .returned (.string r) ∧ Below w.heap.size w w' := by
  have HB := Aside0.mk (Below.refl w.heap.size w)
  have H : (spec_l6Pad.l0 k a0 a1 (([] : List Int)) 0) = some r := h
  clear h
  obtain ⟨y101, hy101⟩ : ∃ y_ : List Int, y_ = (([] : List Int)) := ⟨_, rfl⟩
  replace H : (spec_l6Pad.l0 k a0 a1 y101 0) = some r := by first | (rw [hy101]; with_reducible exact H) | (have H2_ := (Option.bind_some _ _).symm.trans H; rw [hy101]; with_reducible exact H2_) | (have H2_ := (Option.bind_some _ _).symm.trans H; with_reducible exact H2_) | with_reducible exact H | (rw [hy101]; exact H) | exact H
  have Ny101 := Aside0.mk hy101
  clear hy101
  have H' := Aside0.mk H
  clear H
  go_enter Tryd.func43, Tryd.ntmps43
  go_wp2_with (first | ((with_reducible refine gate_dst (N := 8) rfl ?_); refine Kd.R_lit (Kd.int .u8) _ 5 ?hg (N := 8) ?hd (xs := ([] : List Int)) (inner := []) (ok := fun _ => True) (okp := fun _ => True) ?hr ?hp (fun _ hk => hk) trivial (Below.refl _ _) (Nat.le_refl _) (by simp) ?_; (case hd => rfl); (case hg => rfl); (case hr => first | (go_simp; done) | (go_simp; rfl)); (case hp => exact (Reps.none _ _)); intro v102 w3 ho4 hb hg_ hnew_; clear hg_ hnew_; (first | rw [← Ny101.out] at ho4 | (simp only [Int.reduceToNat] at ho4; rw [← Ny101.out] at ho4)); have n0_ := Aside0.mk (Kd.R_lower ho4 (below_size (by repeat (first | (with_reducible first | exact HB.out | apply below_alloc | apply pw_below_drewN | apply below_drew1) | exact HB.out)))); have n1_ := Aside0.mk (below_step (by repeat (first | (with_reducible first | exact HB.out | apply below_alloc | apply pw_below_drewN | apply below_drew1) | exact HB.out)) hb); clear HB; have HO103 := n0_; have HB := n1_; clear n0_ n1_; clear hb ho4))
  go_loopg [5, 6] k (fun kq v5 v6 w' => ∃ (x5_1 : List Int) (x6_1 : Int), v6 = .int .i64 x6_1 ∧ Aside0 (spec_l6Pad.l0 kq a0 a1 x5_1 x6_1 = some r) ∧ Aside0 (kq ≤ k) ∧ Aside0 (Kd.R (Kd.int .u8) 5 w' w.heap.size (fun _ => True) v5 x5_1) ∧ Aside0 (Below w.heap.size w w'))
  case atStart => exact ⟨(y101), (0), (by first | rfl | (simp; done) | (simp [*]; done)), H', ⟨Nat.le_refl _⟩, ⟨by (with_reducible repeat (first | apply Kd.R_alloc | apply Kd.R_drewN | apply Kd.R_drew)); exact HO103.out⟩, ⟨by repeat (first | (with_reducible first | exact HB.out | apply below_alloc | apply pw_below_drewN | apply below_drew1) | exact HB.out)⟩⟩
  case round =>
    clear H'
    try clear p2
    try clear c4
    obtain ⟨x5_1, x6_1, rfl, HA, HK1, HO_5, HB⟩ := hrel
    cases gk with
    | zero => exact absurd HA.out (by simp [spec_l6Pad.l0])
    | succ k1 =>
      have H := HA.out
      clear HA
      simp only [spec_l6Pad.l0] at H
      by_cases c5 : x6_1 < 64
      · rw [if_pos c5] at H
        have c5b0 : decide (x6_1 < 64) = true := decide_eq_true c5
        clear c5
        by_cases c6 : x6_1 < (a0.size : Int)
        · rw [if_pos c6] at H
          have c6b0 : decide (x6_1 < (a0.size : Int)) = true := decide_eq_true c6
          clear c6
          by_cases c7 : 0 ≤ x6_1
          · rw [if_pos c7] at H
            have c7b0 : decide (0 ≤ x6_1) = true := decide_eq_true c7
            clear c7
            by_cases c9 : x5_1.length < 140737488355328
            · rw [if_pos c9] at H
              have LMc9 := Aside0.mk c9
              clear c9
              obtain ⟨y104, hy104⟩ : ∃ y_ : List Int, y_ = (x5_1 ++ [Go.bits .xor .u8 (bt a0 x6_1) a1]) := ⟨_, rfl⟩
              replace H : (spec_l6Pad.l0 k1 a0 a1 y104 (wrap64 (x6_1 + 1))) = some r := by first | (rw [hy104]; with_reducible exact H) | (have H2_ := (Option.bind_some _ _).symm.trans H; rw [hy104]; with_reducible exact H2_) | (have H2_ := (Option.bind_some _ _).symm.trans H; with_reducible exact H2_) | with_reducible exact H | (rw [hy104]; exact H) | exact H
              have Ny104 := Aside0.mk hy104
              clear hy104
              have H' := Aside0.mk H
              clear H
              have p8 : 0 ≤ (x6_1 : Int) := of_decide_eq_true (by first | (with_reducible assumption) | assumption)
              have q8 : x6_1 < (a0.size : Int) := of_decide_eq_true (by first | (with_reducible assumption) | assumption)
              have hx8 := bt_at a0 x6_1
              replace p8 := eq_true p8
              replace q8 := eq_true q8
              go_wp2_with (first | ((with_reducible refine gate_builtin (b := .append) (xs := #[.tmp 20, .tmp 24]) rfl ?_); at_builtin; refine Kd.R_append (Kd.int .u8) (w0 := w) w.heap.size rfl (.tmp 20) (.tmp 24) 26 5 (.int .u8 0) 1 rfl Tryd.underlying26 info5 rfl (by decide) (by omega) u5 x5_1 (Go.bits .xor .u8 (bt a0 x6_1) a1) [.int .u8 (Go.bits .xor .u8 (bt a0 x6_1) a1)] (fun _ => True) (fun _ => False) rfl rfl ?aP (fun _ hk => hk.elim) ?aF ?aO ?aB ?aS ?aL ?_; (case aP => exact rfl); (case aB => exact (by repeat (first | (with_reducible first | exact HB.out | apply below_alloc | apply pw_below_drewN | apply below_drew1) | exact HB.out))); (case aF => exact (fun _ _ => trivial)); (case aO => exact (by (with_reducible repeat (first | apply Kd.R_alloc | apply Kd.R_drewN | apply Kd.R_drew)); exact HO_5.out)); (case aS => exact (below_size (by repeat (first | (with_reducible first | exact HB.out | apply below_alloc | apply pw_below_drewN | apply below_drew1) | exact HB.out)))); (case aL => have := LMc9.out; omega); intro v105 w10 ho hb hg hat; rw [← Ny104.out] at ho; have n0_ := Aside0.mk (hb); have n1_ := Aside0.mk (ho); clear HB; clear HO_5; have HB := n0_; have HO106 := n1_; clear n0_ n1_; clear ho hb hg hat))
              go_roundg k1
              case measure => have := HK1.out; omega
              case rel => exact ⟨(y104), (wrap64 (x6_1 + 1)), (by first | rfl | (simp; done) | (simp [*]; done)), H', ⟨by have := HK1.out; omega⟩, ⟨by (with_reducible repeat (first | apply Kd.R_alloc | apply Kd.R_drewN | apply Kd.R_drew)); exact HO106.out⟩, ⟨by repeat (first | (with_reducible first | exact HB.out | apply below_alloc | apply pw_below_drewN | apply below_drew1) | exact HB.out)⟩⟩
            · rw [if_neg c9] at H
              exact absurd H (by simp)
          · rw [if_neg c7] at H
            exact absurd H (by simp)
        · rw [if_neg c6] at H
          have c6b0 : decide (x6_1 < (a0.size : Int)) = false := decide_eq_false c6
          clear c6
          by_cases c11 : x5_1.length < 140737488355328
          · rw [if_pos c11] at H
            have LMc11 := Aside0.mk c11
            clear c11
            obtain ⟨y107, hy107⟩ : ∃ y_ : List Int, y_ = (x5_1 ++ [Go.bits .xor .u8 0 a1]) := ⟨_, rfl⟩
            replace H : (spec_l6Pad.l0 k1 a0 a1 y107 (wrap64 (x6_1 + 1))) = some r := by first | (rw [hy107]; with_reducible exact H) | (have H2_ := (Option.bind_some _ _).symm.trans H; rw [hy107]; with_reducible exact H2_) | (have H2_ := (Option.bind_some _ _).symm.trans H; with_reducible exact H2_) | with_reducible exact H | (rw [hy107]; exact H) | exact H
            have Ny107 := Aside0.mk hy107
            clear hy107
            have H' := Aside0.mk H
            clear H
            go_wp2_with (first | ((with_reducible refine gate_builtin (b := .append) (xs := #[.tmp 20, .tmp 24]) rfl ?_); at_builtin; refine Kd.R_append (Kd.int .u8) (w0 := w) w.heap.size rfl (.tmp 20) (.tmp 24) 26 5 (.int .u8 0) 1 rfl Tryd.underlying26 info5 rfl (by decide) (by omega) u5 x5_1 (Go.bits .xor .u8 0 a1) [.int .u8 (Go.bits .xor .u8 0 a1)] (fun _ => True) (fun _ => False) rfl rfl ?aP (fun _ hk => hk.elim) ?aF ?aO ?aB ?aS ?aL ?_; (case aP => exact rfl); (case aB => exact (by repeat (first | (with_reducible first | exact HB.out | apply below_alloc | apply pw_below_drewN | apply below_drew1) | exact HB.out))); (case aF => exact (fun _ _ => trivial)); (case aO => exact (by (with_reducible repeat (first | apply Kd.R_alloc | apply Kd.R_drewN | apply Kd.R_drew)); exact HO_5.out)); (case aS => exact (below_size (by repeat (first | (with_reducible first | exact HB.out | apply below_alloc | apply pw_below_drewN | apply below_drew1) | exact HB.out)))); (case aL => have := LMc11.out; omega); intro v108 w12 ho hb hg hat; rw [← Ny107.out] at ho; have n0_ := Aside0.mk (hb); have n1_ := Aside0.mk (ho); clear HB; clear HO_5; have HB := n0_; have HO109 := n1_; clear n0_ n1_; clear ho hb hg hat))
            go_roundg k1
            case measure => have := HK1.out; omega
            case rel => exact ⟨(y107), (wrap64 (x6_1 + 1)), (by first | rfl | (simp; done) | (simp [*]; done)), H', ⟨by have := HK1.out; omega⟩, ⟨by (with_reducible repeat (first | apply Kd.R_alloc | apply Kd.R_drewN | apply Kd.R_drew)); exact HO109.out⟩, ⟨by repeat (first | (with_reducible first | exact HB.out | apply below_alloc | apply pw_below_drewN | apply below_drew1) | exact HB.out)⟩⟩
          · rw [if_neg c11] at H
            exact absurd H (by simp)
      · rw [if_neg c5] at H
        have c5b0 : decide (x6_1 < 64) = false := decide_eq_false c5
        clear c5
        obtain rfl := Option.some.inj H
        have hcv13 := own_string (P := Tryd.prog) Tryd.underlying26 Tryd.underlying5 Tryd.underlying9 (Kd.own_of_R HO_5.out)
        go_wp2
        go_ret
        exact ⟨by first | rfl | (simp [errW_none, errW_some] <;> rfl) | (simp [*, errW_none, errW_some] <;> rfl), by repeat (first | (with_reducible first | exact HB.out | apply below_alloc | apply pw_below_drewN | apply below_drew1) | exact HB.out)⟩

end Go.Proofs.YtndjhgjakdkkaaaDoor.M
end

section
-- Printed for this claim by a program (mprint.py) that uses the kit's print; Lean checks it.
namespace Go.Proofs.YtndjhgjakdkkaaaDoor.M
open Go.RowKit Go.Proofs.YtndjhgjakdkkaaaDoorW.PrintWords Go.Proofs.YtndjhgjakdkkaaaDoorW.PrintLast Go.Proofs.YtndjhgjakdkkaaaDoorW.PrintMore
attribute [local go_sem] max2_int min2_int max_two min_two max_three min_three max_four min_four   -- for this text's walks alone
set_option linter.unusedVariables false
set_option linter.unusedSimpArgs false

/-! ### spec_SealOf: function 14 -/
def spec_SealOf.f (k : Nat) (a0 : ByteArray) (a1 : ByteArray) : Option (ByteArray) := (spec_l6Key.f a0).bind fun t101 => (if t101 = true then ((spec_l6Pad.f k a0 92).bind fun t102 => ((spec_l6Pad.f k a0 54).bind fun t103 => (if t103.size + a1.size ≤ 9223372036854775807 then ((spec_l6Sum.f (t103 ++ a1)).bind fun t104 => (if t102.size + t104.size ≤ 9223372036854775807 then ((spec_l6Sum.f (t102 ++ t104)).bind fun t105 => ((spec_l6Hex.f k t105).bind fun t106 => (some t106))) else (none))) else (none)))) else (some (⟨#[]⟩ : ByteArray)))
theorem spec_SealOf.mono : ∀ a0 a1 k, LeO (spec_SealOf.f k a0 a1) (spec_SealOf.f (k + 1) a0 a1) := by
  intro a0 a1 k
  unfold spec_SealOf.f
  repeat' first
      | (with_reducible exact spec_l6Hex.mono _ _)
      | (with_reducible exact spec_l6Pad.mono _ _ _)
      | (with_reducible exact LeO.refl _)
      | (with_reducible exact LeO.none _)
      | (with_reducible refine LeO.ite ?_ ?_)
      | (with_reducible refine LeO.bind ?_ (fun _ => ?_))
      | exact spec_l6Hex.mono _ _
      | exact spec_l6Pad.mono _ _ _
      | exact LeO.none _
      | refine LeO.ite ?_ ?_
      | refine LeO.bind ?_ (fun _ => ?_)
set_option maxHeartbeats 8000000 in
set_option maxRecDepth 100000 in
theorem spec_SealOf.calls (k : Nat) (a0 : ByteArray) (a1 : ByteArray) (r : ByteArray) (w : World) (h : spec_SealOf.f k a0 a1 = some r) :
    Calls Tryd.prog 14 #[.string a0, .string a1] w fun e w' => e = .returned (.string r) ∧ Below w.heap.size w w' := by
  have HB := Aside0.mk (Below.refl w.heap.size w)
  have H : ((spec_l6Key.f a0).bind fun t101 => (if t101 = true then ((spec_l6Pad.f k a0 92).bind fun t102 => ((spec_l6Pad.f k a0 54).bind fun t103 => (if t103.size + a1.size ≤ 9223372036854775807 then ((spec_l6Sum.f (t103 ++ a1)).bind fun t104 => (if t102.size + t104.size ≤ 9223372036854775807 then ((spec_l6Sum.f (t102 ++ t104)).bind fun t105 => ((spec_l6Hex.f k t105).bind fun t106 => (some t106))) else (none))) else (none)))) else (some (⟨#[]⟩ : ByteArray)))) = some r := h
  clear h
  replace H := Option.bind_eq_some_iff.mp H
  obtain ⟨t101, A30, H⟩ := H
  replace H : (if t101 = true then ((spec_l6Pad.f k a0 92).bind fun t102 => ((spec_l6Pad.f k a0 54).bind fun t103 => (if t103.size + a1.size ≤ 9223372036854775807 then ((spec_l6Sum.f (t103 ++ a1)).bind fun t104 => (if t102.size + t104.size ≤ 9223372036854775807 then ((spec_l6Sum.f (t102 ++ t104)).bind fun t105 => ((spec_l6Hex.f k t105).bind fun t106 => (some t106))) else (none))) else (none)))) else (some (⟨#[]⟩ : ByteArray))) = some r := H
  have A3 := Aside0.mk A30
  clear A30
  by_cases c4 : t101 = true
  · subst c4
    have H1 : ((spec_l6Pad.f k a0 92).bind fun t102 => ((spec_l6Pad.f k a0 54).bind fun t103 => (if t103.size + a1.size ≤ 9223372036854775807 then ((spec_l6Sum.f (t103 ++ a1)).bind fun t104 => (if t102.size + t104.size ≤ 9223372036854775807 then ((spec_l6Sum.f (t102 ++ t104)).bind fun t105 => ((spec_l6Hex.f k t105).bind fun t106 => (some t106))) else (none))) else (none)))) = some r := by rw [if_pos rfl] at H; exact H
    clear H
    have H := H1
    clear H1
    replace H := Option.bind_eq_some_iff.mp H
    obtain ⟨t102, A50, H⟩ := H
    replace H : ((spec_l6Pad.f k a0 54).bind fun t103 => (if t103.size + a1.size ≤ 9223372036854775807 then ((spec_l6Sum.f (t103 ++ a1)).bind fun t104 => (if t102.size + t104.size ≤ 9223372036854775807 then ((spec_l6Sum.f (t102 ++ t104)).bind fun t105 => ((spec_l6Hex.f k t105).bind fun t106 => (some t106))) else (none))) else (none))) = some r := H
    have A5 := Aside0.mk A50
    clear A50
    replace H := Option.bind_eq_some_iff.mp H
    obtain ⟨t103, A60, H⟩ := H
    replace H : (if t103.size + a1.size ≤ 9223372036854775807 then ((spec_l6Sum.f (t103 ++ a1)).bind fun t104 => (if t102.size + t104.size ≤ 9223372036854775807 then ((spec_l6Sum.f (t102 ++ t104)).bind fun t105 => ((spec_l6Hex.f k t105).bind fun t106 => (some t106))) else (none))) else (none)) = some r := H
    have A6 := Aside0.mk A60
    clear A60
    by_cases c7 : t103.size + a1.size ≤ 9223372036854775807
    · rw [if_pos c7] at H
      have c7b0 := eq_true c7
      have c7b1 : decide (t103.size + a1.size ≤ 9223372036854775807) = true := decide_eq_true c7
      try have c7b2 : (9223372036854775807 < t103.size + a1.size) = False := eq_false (Nat.not_lt.2 c7)
      replace H := Option.bind_eq_some_iff.mp H
      obtain ⟨t104, A80, H⟩ := H
      replace H : (if t102.size + t104.size ≤ 9223372036854775807 then ((spec_l6Sum.f (t102 ++ t104)).bind fun t105 => ((spec_l6Hex.f k t105).bind fun t106 => (some t106))) else (none)) = some r := H
      have A8 := Aside0.mk A80
      clear A80
      by_cases c9 : t102.size + t104.size ≤ 9223372036854775807
      · rw [if_pos c9] at H
        have c9b0 := eq_true c9
        have c9b1 : decide (t102.size + t104.size ≤ 9223372036854775807) = true := decide_eq_true c9
        try have c9b2 : (9223372036854775807 < t102.size + t104.size) = False := eq_false (Nat.not_lt.2 c9)
        replace H := Option.bind_eq_some_iff.mp H
        obtain ⟨t105, A100, H⟩ := H
        replace H : ((spec_l6Hex.f k t105).bind fun t106 => (some t106)) = some r := H
        have A10 := Aside0.mk A100
        clear A100
        replace H := Option.bind_eq_some_iff.mp H
        obtain ⟨t106, A110, H⟩ := H
        replace H : (some t106) = some r := H
        have A11 := Aside0.mk A110
        clear A110
        obtain rfl := Option.some.inj H
        go_enter Tryd.func14, Tryd.ntmps14
        go_wp2_with (first | ((with_reducible refine gate_callee (f := 42) rfl ?_); refine goesL_ (some 6) rfl rfl Tryd.func42 (by kernel_rfl) rfl #[.string a0] rfl (by (try simp only [List.map_toArray, List.map_cons, List.map_nil]); first | done | rfl | (simp only [List.length_drop, List.length_take]; rfl)) ?_; (with_reducible refine (spec_l6Key.calls a0 true _ A3.out).mono ?_); rintro e w' ⟨rfl, ⟨nd, rfl⟩⟩; refine ⟨_, rfl, ?_⟩) | ((with_reducible refine gate_callee (f := 43) rfl ?_); refine goesL_ (some 9) rfl rfl Tryd.func43 (by kernel_rfl) rfl #[.string a0, .int .u8 92] rfl (by (try simp only [List.map_toArray, List.map_cons, List.map_nil]); first | done | rfl | (simp only [List.length_drop, List.length_take]; rfl)) ?_; (with_reducible refine (spec_l6Pad.calls k a0 92 t102 _ A5.out).mono ?_); rintro e w12 ⟨rfl, hb⟩; refine ⟨_, rfl, ?_⟩; have n0_ := Aside0.mk (below_step (by repeat (first | (with_reducible first | exact HB.out | apply below_alloc | apply pw_below_drewN | apply below_drew1) | exact HB.out)) hb); clear HB; have HB := n0_; clear n0_; (try clear hb); (try clear hb2); (try clear hk); (try clear hi)) | ((with_reducible refine gate_callee (f := 43) rfl ?_); refine goesL_ (some 11) rfl rfl Tryd.func43 (by kernel_rfl) rfl #[.string a0, .int .u8 54] rfl (by (try simp only [List.map_toArray, List.map_cons, List.map_nil]); first | done | rfl | (simp only [List.length_drop, List.length_take]; rfl)) ?_; (with_reducible refine (spec_l6Pad.calls k a0 54 t103 _ A6.out).mono ?_); rintro e w13 ⟨rfl, hb⟩; refine ⟨_, rfl, ?_⟩; have n0_ := Aside0.mk (below_step (by repeat (first | (with_reducible first | exact HB.out | apply below_alloc | apply pw_below_drewN | apply below_drew1) | exact HB.out)) hb); clear HB; have HB := n0_; clear n0_; (try clear hb); (try clear hb2); (try clear hk); (try clear hi)) | ((with_reducible refine gate_callee (f := 39) rfl ?_); refine goesL_ (some 14) rfl rfl Tryd.func39 (by kernel_rfl) rfl #[.string (t103 ++ a1)] rfl (by (try simp only [List.map_toArray, List.map_cons, List.map_nil]); first | done | rfl | (simp only [List.length_drop, List.length_take]; rfl)) ?_; (with_reducible refine (spec_l6Sum.calls (t103 ++ a1) t104 _ A8.out).mono ?_); rintro e w14 ⟨rfl, hb⟩; refine ⟨_, rfl, ?_⟩; have n0_ := Aside0.mk (below_step (by repeat (first | (with_reducible first | exact HB.out | apply below_alloc | apply pw_below_drewN | apply below_drew1) | exact HB.out)) hb); clear HB; have HB := n0_; clear n0_; (try clear hb); (try clear hb2); (try clear hk); (try clear hi)) | ((with_reducible refine gate_callee (f := 39) rfl ?_); refine goesL_ (some 16) rfl rfl Tryd.func39 (by kernel_rfl) rfl #[.string (t102 ++ t104)] rfl (by (try simp only [List.map_toArray, List.map_cons, List.map_nil]); first | done | rfl | (simp only [List.length_drop, List.length_take]; rfl)) ?_; (with_reducible refine (spec_l6Sum.calls (t102 ++ t104) t105 _ A10.out).mono ?_); rintro e w15 ⟨rfl, hb⟩; refine ⟨_, rfl, ?_⟩; have n0_ := Aside0.mk (below_step (by repeat (first | (with_reducible first | exact HB.out | apply below_alloc | apply pw_below_drewN | apply below_drew1) | exact HB.out)) hb); clear HB; have HB := n0_; clear n0_; (try clear hb); (try clear hb2); (try clear hk); (try clear hi)) | ((with_reducible refine gate_callee (f := 38) rfl ?_); refine goesL_ (some 17) rfl rfl Tryd.func38 (by kernel_rfl) rfl #[.string t105] rfl (by (try simp only [List.map_toArray, List.map_cons, List.map_nil]); first | done | rfl | (simp only [List.length_drop, List.length_take]; rfl)) ?_; (with_reducible refine (spec_l6Hex.calls k t105 t106 _ A11.out).mono ?_); rintro e w16 ⟨rfl, hb⟩; refine ⟨_, rfl, ?_⟩; have n0_ := Aside0.mk (below_step (by repeat (first | (with_reducible first | exact HB.out | apply below_alloc | apply pw_below_drewN | apply below_drew1) | exact HB.out)) hb); clear HB; have HB := n0_; clear n0_; (try clear hb); (try clear hb2); (try clear hk); (try clear hi)))
        go_ret
        exact ⟨by first | rfl | (simp [errW_none, errW_some] <;> rfl) | (simp [*, errW_none, errW_some] <;> rfl), by repeat (first | (with_reducible first | exact HB.out | apply below_alloc | apply pw_below_drewN | apply below_drew1) | exact HB.out)⟩
      · rw [if_neg c9] at H
        exact absurd H (by simp)
    · rw [if_neg c7] at H
      exact absurd H (by simp)
  · replace c4 := Bool.eq_false_iff.mpr c4
    subst c4
    have H1 : (some (⟨#[]⟩ : ByteArray)) = some r := by rw [if_neg (show ¬ (false = true) by decide)] at H; exact H
    clear H
    have H := H1
    clear H1
    obtain rfl := Option.some.inj H
    go_enter Tryd.func14, Tryd.ntmps14
    go_wp2_with (first | ((with_reducible refine gate_callee (f := 42) rfl ?_); refine goesL_ (some 6) rfl rfl Tryd.func42 (by kernel_rfl) rfl #[.string a0] rfl (by (try simp only [List.map_toArray, List.map_cons, List.map_nil]); first | done | rfl | (simp only [List.length_drop, List.length_take]; rfl)) ?_; (with_reducible refine (spec_l6Key.calls a0 false _ A3.out).mono ?_); rintro e w' ⟨rfl, ⟨nd, rfl⟩⟩; refine ⟨_, rfl, ?_⟩))
    go_ret
    exact ⟨by first | rfl | (simp [errW_none, errW_some] <;> rfl) | (simp [*, errW_none, errW_some] <;> rfl), by repeat (first | (with_reducible first | exact HB.out | apply below_alloc | apply pw_below_drewN | apply below_drew1) | exact HB.out)⟩

end Go.Proofs.YtndjhgjakdkkaaaDoor.M
end

section
/- HashSum and SealOf, plain: the program's are the reference's. -/
namespace Go.Proofs.YtndjhgjakdkkaaaDoor.M
open Go.RowKit Go.Proofs.YtndjhgjakdkkaaaDoorW.PrintWords Go.Proofs.YtndjhgjakdkkaaaDoorW.PrintMore Go.Proofs.YtndjhgjakdkkaaaDoor.Pu Go.Proofs.YtndjhgjakdkkaaaDoor.Sha
set_option linter.unusedVariables false
set_option linter.unusedSimpArgs false
def hexDigits : ByteArray := ⟨#[48, 49, 50, 51, 52, 53, 54, 55, 56, 57, 97, 98, 99, 100, 101, 102]⟩
/-- The bytes in hexadecimal, as far as n. -/
def hexTo (s : ByteArray) : Nat → List Int
  | 0 => []
  | n + 1 => hexTo s n ++ [bt hexDigits (bt s (n : Int) / 16), bt hexDigits (bt s (n : Int) % 16)]
theorem hexTo_length (s : ByteArray) : ∀ n, (hexTo s n).length = 2 * n
  | 0 => rfl
  | n + 1 => by simp only [hexTo, List.length_append, hexTo_length s n, List.length_cons, List.length_nil]; omega
def hexOf (s : ByteArray) : ByteArray := strOfNums (hexTo s s.size)
theorem hex_facts (s : ByteArray) (i : Int) : Int.tdiv (bt s i) 16 % 256 = bt s i / 16 ∧ Int.tmod (bt s i) 16 = bt s i % 16 ∧ 0 ≤ bt s i / 16 ∧ bt s i / 16 < 16 ∧ 0 ≤ bt s i % 16 ∧ bt s i % 16 < 16 := by
  have h0 := bt_ge s i
  have h1 := bt_le s i
  rw [Int.tdiv_eq_ediv_of_nonneg h0, Int.tmod_eq_emod_of_nonneg h0]
  omega
theorem implHex_ev (s : ByteArray) (hs : s.size ≤ 1099511627776) : Ev (fun k => impl_hexOf.f k s) (hexOf s) := by
  unfold impl_hexOf.f
  refine fold_loop (g := fun k x i => impl_hexOf.l0 k s x i) s.size (hexTo s) _ ?_ ?_
  · intro i hi h
    apply Ev.succ
    obtain ⟨f1, f2, f3, f4, f5, f6⟩ := hex_facts s (i : Int)
    have e4 : wrap64 ((i : Int) + 1) = (i : Int) + 1 := wid (by omega) (by omega)
    simp only [impl_hexOf.l0, f1, f2, e4, Option.bind_some]
    clear e4 f1 f2
    refine Ev.ifp (by omega) (Ev.ifp (by omega) (Ev.ifp f3 (Ev.ifp f4 (Ev.ifp f5 (Ev.ifp f6 (Ev.ifp ?_ h))))))
    rw [hexTo_length]
    simp only [List.length_cons, List.length_nil]
    omega
  · apply Ev.succ
    simp only [impl_hexOf.l0]
    exact Ev.ifn (by omega) (Ev.now _)
theorem specHex_ev (s : ByteArray) (hs : s.size ≤ 1099511627776) : Ev (fun k => spec_l6Hex.f k s) (hexOf s) := by
  unfold spec_l6Hex.f
  refine fold_loop (g := fun k x i => spec_l6Hex.l0 k s hexDigits x i) s.size (hexTo s) _ ?_ ?_
  · intro i hi h
    apply Ev.succ
    obtain ⟨f1, f2, f3, f4, f5, f6⟩ := hex_facts s (i : Int)
    have e4 : wrap64 ((i : Int) + 1) = (i : Int) + 1 := wid (by omega) (by omega)
    have e5 : (hexDigits.size : Int) = 16 := rfl
    simp only [spec_l6Hex.l0, f1, f2, e4, e5, Option.bind_some]
    clear e4 f1 f2
    refine Ev.ifp (by omega) (Ev.ifp (by omega) (Ev.ifp f3 (Ev.ifp f4 (Ev.ifp f5 (Ev.ifp f6 (Ev.ifp ?_ h))))))
    rw [hexTo_length]
    simp only [List.length_cons, List.length_nil]
    omega
  · apply Ev.succ
    simp only [spec_l6Hex.l0]
    exact Ev.ifn (by omega) (Ev.now _)
def sha (s : ByteArray) : ByteArray := strOfNums (sumOf shaTab (bytesOf s))
theorem sha_size (s : ByteArray) : (sha s).size = 32 := shaOf_size s
def hashSum (s : ByteArray) : ByteArray := hexOf (sha s)
theorem implHash_ev (s : ByteArray) (hs : s.size ≤ 1099511627776) : Ev (fun k => impl_HashSum.f k s) (hashSum s) := by
  unfold impl_HashSum.f impl_sha256Of.f
  rw [if_pos hs]
  simp only [Option.bind_some]
  exact Ev.bind (implHex_ev (sha s) (by rw [sha_size]; decide)) (Ev.now _)
theorem specHash_ev (s : ByteArray) (hs : s.size ≤ 1099511627776) : Ev (fun k => spec_HashSum.f k s) (hashSum s) := by
  unfold spec_HashSum.f spec_l6Sum.f
  rw [if_pos hs]
  simp only [Option.bind_some]
  exact Ev.bind (specHex_ev (sha s) (by rw [sha_size]; decide)) (Ev.now _)
theorem pu_within (a b c : Int) : impl_within.f a b c = some (decide (b ≤ a ∧ a ≤ c)) := by
  unfold impl_within.f
  by_cases h : a ≥ b
  · have h' : b ≤ a := h
    simp [h']
  · have h' : ¬ b ≤ a := h
    simp [h']
theorem pu_l1In (a b c : Int) : spec_l1In.f a b c = some (decide (b ≤ a ∧ a ≤ c)) := by
  unfold spec_l1In.f
  by_cases h : a ≥ b
  · have h' : b ≤ a := h
    simp [h']
  · have h' : ¬ b ≤ a := h
    simp [h']
def keyB (a : ByteArray) : Bool := decide ((1 : Int) ≤ (a.size : Int) ∧ (a.size : Int) ≤ 64) && (bt a ((a.size : Int) - 1) != 0)
theorem keyB_size {a : ByteArray} (h : keyB a = true) : 1 ≤ a.size ∧ a.size ≤ 64 := by
  simp only [keyB, Bool.and_eq_true, decide_eq_true_eq] at h
  omega
theorem implKey_eq (a : ByteArray) (w : a.size ≤ 140737488355328) : impl_keyOk.f a = some (keyB a) := by
  unfold impl_keyOk.f keyB
  rw [pu_within]
  simp only [Option.bind_some]
  by_cases h : (1 : Int) ≤ (a.size : Int) ∧ (a.size : Int) ≤ 64
  · have e : wrap64 ((a.size : Int) - 1) = (a.size : Int) - 1 := wid (by omega) (by omega)
    have c0 : (0 : Int) ≤ (a.size : Int) - 1 := by omega
    have c1 : (a.size : Int) - 1 < (a.size : Int) := by omega
    simp only [e, h, c0, c1, and_self, decide_true, if_true, Bool.true_and]
  · simp only [h, decide_false, Bool.false_eq_true, if_false, Bool.false_and]
theorem specKey_eq (a : ByteArray) (w : a.size ≤ 140737488355328) : spec_l6Key.f a = some (keyB a) := by
  unfold spec_l6Key.f keyB
  rw [pu_l1In]
  simp only [Option.bind_some]
  by_cases h : (1 : Int) ≤ (a.size : Int) ∧ (a.size : Int) ≤ 64
  · have e : wrap64 ((a.size : Int) - 1) = (a.size : Int) - 1 := wid (by omega) (by omega)
    have c0 : (0 : Int) ≤ (a.size : Int) - 1 := by omega
    have c1 : (a.size : Int) - 1 < (a.size : Int) := by omega
    simp only [e, h, c0, c1, and_self, decide_true, if_true, Bool.true_and]
  · simp only [h, decide_false, Bool.false_eq_true, if_false, Bool.false_and]
theorem padB_at (key : ByteArray) (i : Nat) : (padB key).getD i 0 = if i < key.size then bt key (i : Int) else 0 := by
  simp only [padB, List.getD_eq_getElem?_getD]
  by_cases h : i < key.size
  · rw [List.getElem?_append_left (by rw [bytesOf_length]; exact h), if_pos h, bt_nat, dif_pos h]
    simp [bytesOf, h]
    rfl
  · rw [List.getElem?_append_right (by rw [bytesOf_length]; omega), if_neg h, List.getElem?_replicate]
    split <;> rfl
theorem pad_ev (key : ByteArray) (c : Int) (hk : key.size ≤ 64) : Ev (fun k => spec_l6Pad.f k key c) (padx key c) := by
  unfold spec_l6Pad.f
  have hl : ((padB key).map fun b => Go.bits .xor .u8 b c).length = 64 := by rw [List.length_map, padB_length _ hk]
  refine fold_loop (g := fun k x i => spec_l6Pad.l0 k key c x i) 64 (fun i => ((padB key).map fun b => Go.bits .xor .u8 b c).take i) _ ?_ ?_
  · intro i hi h
    apply Ev.succ
    have e4 : wrap64 ((i : Int) + 1) = (i : Int) + 1 := wid (by omega) (by omega)
    have hsn : ((padB key).map fun b => Go.bits .xor .u8 b c).take (i + 1) = ((padB key).map fun b => Go.bits .xor .u8 b c).take i ++ [Go.bits .xor .u8 ((padB key).getD i 0) c] := by
      rw [List.take_succ_eq_append_getElem (by omega)]
      have hi2 : i < (padB key).length := by rw [padB_length _ hk]; exact hi
      simp [List.getD_eq_getElem?_getD, hi2]
    rw [hsn, padB_at] at h
    have hlt : (((padB key).map fun b => Go.bits .xor .u8 b c).take i).length < 140737488355328 := by rw [List.length_take]; omega
    simp only [spec_l6Pad.l0, e4]
    clear e4
    refine Ev.ifp (by omega) ?_
    by_cases hi2 : i < key.size
    · rw [if_pos hi2] at h
      exact Ev.ifp (by omega) (Ev.ifp (by omega) (Ev.ifp hlt h))
    · rw [if_neg hi2] at h
      exact Ev.ifn (by omega) (Ev.ifp hlt h)
  · apply Ev.succ
    simp only [spec_l6Pad.l0]
    refine Ev.ifn (by omega) (Ev.cast (Ev.now _) ?_)
    rw [List.take_of_length_le (by omega)]
    rfl
theorem padx_size (key : ByteArray) (c : Int) (hk : key.size ≤ 64) : (padx key c).size = 64 := by rw [padx, strOfNums_size, List.length_map, padB_length _ hk]
def sealOf (key text : ByteArray) : ByteArray := if keyB key = true then hexOf (hmac key text) else ⟨#[]⟩
theorem implSeal_ev (key text : ByteArray) (hk : key.size ≤ 140737488355328) (ht : text.size ≤ 549755813888) : Ev (fun k => impl_SealOf.f k key text) (sealOf key text) := by
  unfold impl_SealOf.f sealOf
  rw [implKey_eq key hk]
  simp only [Option.bind_some]
  by_cases h : keyB key = true
  · rw [if_pos h]
    refine Ev.ifp h ?_
    unfold impl_hmacOf.f
    rw [if_pos (keyB_size h).2, if_pos ht]
    simp only [Option.bind_some]
    exact Ev.bind (implHex_ev _ (by rw [hmac, shaOf_size]; decide)) (Ev.now _)
  · rw [if_neg h]
    exact Ev.ifn h (Ev.now _)
theorem specSeal_ev (key text : ByteArray) (hk : key.size ≤ 140737488355328) (ht : text.size ≤ 549755813888) : Ev (fun k => spec_SealOf.f k key text) (sealOf key text) := by
  unfold spec_SealOf.f sealOf
  rw [specKey_eq key hk]
  simp only [Option.bind_some]
  by_cases h : keyB key = true
  · rw [if_pos h]
    have hk2 := (keyB_size h).2
    refine Ev.ifp h (Ev.bind (pad_ev key 92 hk2) (Ev.bind (pad_ev key 54 hk2) (Ev.ifp ?_ ?_)))
    · rw [padx_size _ _ hk2]; omega
    unfold spec_l6Sum.f
    rw [if_pos (show (padx key 54 ++ text).size ≤ 1099511627776 by rw [ByteArray.size_append, padx_size _ _ hk2]; omega)]
    simp only [Option.bind_some]
    refine Ev.ifp ?_ ?_
    · rw [padx_size _ _ hk2, show (strOfNums (sumOf shaTab (bytesOf (padx key 54 ++ text)))).size = 32 from sha_size _]; decide
    rw [if_pos (show (padx key 92 ++ strOfNums (sumOf shaTab (bytesOf (padx key 54 ++ text)))).size ≤ 1099511627776 by rw [ByteArray.size_append, padx_size _ _ hk2, show (strOfNums (sumOf shaTab (bytesOf (padx key 54 ++ text)))).size = 32 from sha_size _]; decide)]
    simp only [Option.bind_some]
    exact Ev.bind (specHex_ev _ (by rw [show (strOfNums (sumOf shaTab (bytesOf (padx key 92 ++ strOfNums (sumOf shaTab (bytesOf (padx key 54 ++ text))))))).size = 32 from sha_size _]; decide)) (Ev.now _)
  · rw [if_neg h]
    exact Ev.ifn h (Ev.now _)
end Go.Proofs.YtndjhgjakdkkaaaDoor.M
end

section
/- FnExactHashSum, plain. -/
namespace Go.Proofs.YtndjhgjakdkkaaaDoor.M
open Go.RowKit Go.Proofs.YtndjhgjakdkkaaaDoorW.PrintWords Go.Proofs.YtndjhgjakdkkaaaDoor.Pu
set_option linter.unusedVariables false
theorem FnExactHashSum_pure (a : ByteArray) (w : a.size ≤ 140737488351232) : ∃ k, laws_FnExactHashSum.f k a = some true := by
  apply Ev.rounds (g := fun k => laws_FnExactHashSum.f k a)
  unfold laws_FnExactHashSum.f
  by_cases c : (a.size : Int) > 1048576
  · exact Ev.ifp c (Ev.now _)
  · refine Ev.ifn c (Ev.bind (specHash_ev a (by omega)) (Ev.bind (implHash_ev a (by omega)) ?_))
    simp only [if_true]
    exact Ev.now _
end Go.Proofs.YtndjhgjakdkkaaaDoor.M
end
