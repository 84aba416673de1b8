import Derived.Test.YtndjhgjakdkkaaaDoorBHashSumx1
import Derived.Lib.BufferWrite
import Derived.RegionCalls
import Derived.Test.YtndjhgjakdkkaaaDoorBHashSumx3
import Derived.Test.YtndjhgjakdkkaaaDoorBHashSumx2
import Derived.Laws.BitsLemmas

section
/- impl.hmacOf, walked: keys of at most 64 bytes. -/
namespace Go.Proofs.YtndjhgjakdkkaaaDoor.M
open Go.RowKit Go.Proofs.YtndjhgjakdkkaaaDoorW.PrintWords Go.Proofs.YtndjhgjakdkkaaaDoorW.PrintLast Go.Proofs.YtndjhgjakdkkaaaDoorW.PrintMore
open Go.Proofs.YtndjhgjakdkkaaaDoor.Buf Go.Proofs.YtndjhgjakdkkaaaDoor.Sha
attribute [local go_sem] max2_int min2_int max_two min_two max_three min_three max_four min_four   -- for this text's walks alone
set_option linter.unusedVariables false
/-- A row of bytes in a block of its own. -/
def Arr8 (w : World) (g : Nat) (xs : List Int) : Prop := w.heap[g]? = some (.cells (nums .u8 xs).toArray 5 (0, 0))
section
variable {w w1 : World} {g : Nat} {xs : List Int}
theorem Arr8.lt (h : Arr8 w g xs) : g < w.heap.size := (Array.getElem?_eq_some_iff.1 h).1
theorem Arr8.move (h : Arr8 w g xs) (hm : w1.heap[g]? = w.heap[g]?) : Arr8 w1 g xs := hm.trans h
theorem Arr8.below (h : Arr8 w g xs) (hb : Below w.heap.size w w1) : Arr8 w1 g xs := h.move (hb.block g h.lt)
theorem Arr8.drew (h : Arr8 w g xs) : Arr8 w.drew g xs := h
theorem Arr8.far (h : Arr8 w g xs) {p : Addr} (hp : g ≠ p.block) (u : Value) : Arr8 (w.setCell p u) g xs := h.move (Below.heap_setCell w p u g hp)
theorem Arr8.cell (h : Arr8 w g xs) (i : Nat) (hi : i < xs.length) : w.cell? ⟨g, i, none⟩ = some (.int .u8 (xs.getD i 0)) := by
  rw [cell_of_row w g i _ _ _ h]
  simp [nums, List.getD_eq_getElem?_getD, List.getElem?_eq_getElem hi]
theorem Arr8.fro (h : Arr8 w g xs) (i : Nat) : w.frozen? ⟨g, i, none⟩ = false := by
  simp [World.frozen?, show w.heap[g]? = some (.cells (nums .u8 xs).toArray 5 (0, 0)) from h]
theorem Arr8.set (h : Arr8 w g xs) (i : Nat) (y : Int) : Arr8 (w.setCell ⟨g, i, none⟩ (.int .u8 y)) g (xs.set i y) := by
  have h0 : w.heap[g]? = some (.cells (nums .u8 xs).toArray 5 (0, 0)) := h
  rw [setCell_eq_setRow w g i _ 5 (0, 0) _ h0]
  unfold Arr8
  rw [setRow_heap w g _ _ 5 _ h0]
  simp [nums, List.map_set]
theorem Arr8.new (w : World) (xs : List Int) : Arr8 (w.alloc (.cells (nums .u8 xs).toArray 5)) w.heap.size xs := heap_alloc_new w _
theorem Arr8.str (h : Arr8 w g xs) (hl : xs.length ≤ 1000000) (c : Nat) : (convert 26 9 (.slice (some ⟨g, 0, none⟩) xs.length c)).run Tryd.prog w = .ok (.string (strOfNums xs)) w := by
  refine string_of_reads Tryd.underlying26 Tryd.underlying5 Tryd.underlying9 ⟨rfl, by omega, fun hp => ⟨_, rfl, fun j hj => ?_⟩⟩
  have hadd : (⟨g, 0, none⟩ : Addr).add j = ⟨g, j, none⟩ := by unfold Addr.add; split <;> simp_all
  rw [hadd]
  exact h.cell j hj
end
theorem make64 (W : World) : (Instr.makeSlice 26 (.int .i64 64) (.int .i64 64)).run Tryd.prog W = .ok (.slice (some ⟨W.heap.size, 0, none⟩) 64 64) (W.alloc (.cells (nums .u8 Z64).toArray 5)) := by
  obtain ⟨i, hi, hz⟩ := Option.map_eq_some_iff.1 info5
  simp only [Prod.mk.injEq] at hz
  have h := run_make (P := Tryd.prog) W 26 5 i (.int .u8 0) Tryd.underlying26 hi hz.1 .i64 .i64 64 64 (by decide) (by decide) (by rw [hz.2.2]; decide) (by decide)
  rw [h, hz.2.1]
  have e : madeCells (Value.int .u8 0).cells (Int.toNat 64 * 1) = (nums .u8 Z64).toArray := by
    apply Array.ext
    · simp [madeCells, nums, Z64]
    · intro i h1 h2
      have h3 : i < 64 := by simpa [nums, Z64] using h2
      have h4 : (nums .u8 Z64).toArray[i]'h2 = .int .u8 0 := by
        simp only [nums, Z64, List.map_replicate, List.getElem_toArray, List.getElem_replicate]
      rw [h4]
      simp [madeCells, Value.cells, Nat.mod_one]
  rw [e]
  rfl
/-- A key, filled up. -/
def padB (key : ByteArray) : List Int := bytesOf key ++ List.replicate (64 - key.size) 0
theorem padB_length (key : ByteArray) (h : key.size ≤ 64) : (padB key).length = 64 := by simp [padB, bytesOf_length]; omega
def xorTo (c : Int) (xs : List Int) (k : Nat) : List Int := (xs.map fun b => Go.bits .xor .u8 b c).take k ++ xs.drop k
theorem xorTo_length (c : Int) (xs : List Int) (k : Nat) : (xorTo c xs k).length = xs.length := by simp [xorTo]; omega
theorem xorTo_zero (c : Int) (xs : List Int) : xorTo c xs 0 = xs := by simp [xorTo]
theorem xorTo_all (c : Int) (xs : List Int) (k : Nat) (h : xs.length = k) : xorTo c xs k = xs.map fun b => Go.bits .xor .u8 b c := by
  subst h
  simp only [xorTo, List.drop_length, List.append_nil]
  exact List.take_of_length_le (by simp)
theorem xorTo_at (c : Int) (xs : List Int) (k : Nat) (hk : k < xs.length) : (xorTo c xs k).getD k 0 = xs.getD k 0 := by
  simp only [xorTo, List.getD_eq_getElem?_getD]
  rw [List.getElem?_append_right (by simp; omega), List.getElem?_drop]
  simp [show min k xs.length = k by omega]
theorem xorTo_set (c : Int) (xs : List Int) (k : Nat) (hk : k < xs.length) : (xorTo c xs k).set k (Go.bits .xor .u8 (xs.getD k 0) c) = xorTo c xs (k + 1) := by
  have hl : ((xs.map fun b => Go.bits .xor .u8 b c).take k).length = k := by simp; omega
  simp only [xorTo]
  rw [List.set_append_right _ _ (by omega), hl, Nat.sub_self, List.take_succ_eq_append_getElem (by simpa using hk), List.append_assoc]
  congr 1
  rw [List.drop_eq_getElem_cons hk, List.set_cons_zero]
  simp [List.getD_eq_getElem?_getD, hk]
/-- The key with each byte changed. -/
def padx (key : ByteArray) (c : Int) : ByteArray := strOfNums ((padB key).map fun b => Go.bits .xor .u8 b c)
def shaOf (s : ByteArray) : ByteArray := strOfNums (sumOf shaTab (bytesOf s))
theorem sha_of_calls (s : ByteArray) (w : World) (hs : s.size ≤ 1099511627776) (hGs : GWs w) : Calls Tryd.prog 41 #[.string s] w fun e w' => e = .returned (.string (shaOf s)) ∧ Below w.heap.size w w' := sha_calls s w hs hGs
def hmac (key text : ByteArray) : ByteArray := shaOf (padx key 92 ++ shaOf (padx key 54 ++ text))
theorem strOfNums_size (xs : List Int) : (strOfNums xs).size = xs.length := by simp [strOfNums, ByteArray.size]
theorem shaOf_size (s : ByteArray) : (shaOf s).size = 32 := by
  have h : ∀ n (h b : List Int), h.length = 8 → (blocks shaTab n h b).length = 8 := by
    intro n
    induction n with
    | zero => intro h b hh; exact hh
    | succ n ih => intro h b hh; exact ih _ _ (block_length _ _ _ hh)
  rw [shaOf, strOfNums_size, sumOf, out_length, h _ _ _ rfl]
theorem copy_cells (s : ByteArray) (hs : s.size ≤ 64) : ((nums .u8 Z64).toArray.toList.take 0 ++ Lib.byteCells s.data.toList ++ (nums .u8 Z64).toArray.toList.drop (0 + s.size)).toArray = (nums .u8 (padB s)).toArray := by
  have h1 : (nums .u8 Z64).drop s.size = nums .u8 (List.replicate (64 - s.size) 0) := by
    simp only [nums, Z64, List.map_replicate, List.drop_replicate]
  have h2 : Lib.byteCells s.data.toList = nums .u8 (bytesOf s) := by simp only [nums, bytesOf, Lib.byteCells, List.map_map]; rfl
  rw [List.take_zero, List.nil_append, Nat.zero_add, h1, h2, padB, nums_append]
theorem two_new (w : World) : Arr8 ((w.alloc (.cells (nums .u8 Z64).toArray 5)).alloc (.cells (nums .u8 Z64).toArray 5)).drew w.heap.size Z64 ∧ Arr8 ((w.alloc (.cells (nums .u8 Z64).toArray 5)).alloc (.cells (nums .u8 Z64).toArray 5)).drew (w.heap.size + 1) Z64 ∧ Below w.heap.size w ((w.alloc (.cells (nums .u8 Z64).toArray 5)).alloc (.cells (nums .u8 Z64).toArray 5)).drew := by
  refine ⟨((Arr8.new w Z64).below (below_alloc (Below.refl _ _) (.cells (nums .u8 Z64).toArray 5))).drew, ?_, below_drew1 (below_alloc (below_alloc (Below.refl _ _) _) _)⟩
  have h := Arr8.new (w.alloc (.cells (nums .u8 Z64).toArray 5)) Z64
  have e : (w.alloc (.cells (nums .u8 Z64).toArray 5)).heap.size = w.heap.size + 1 := by simp
  rw [e] at h
  exact h
theorem copy_event {ops : Array Oper} {rest : List Oper} {o : Oper} {a : Act} {Q : Exit → Act → World → Prop} {W : World} (hgd : o.guard = none) (d x : Operand)
    (ho : o.op = .call { callee := .builtin .copy, args := #[d, x], argTypes := #[26, 9] }) (g : Nat) (s : ByteArray) (hd : a.eval d = .slice (some ⟨g, 0, none⟩) 64 64) (hx : a.eval x = .string s) (hA : Arr8 W g Z64) (hs : s.size ≤ 64)
    (h : ∀ w1, Arr8 w1 g (padB s) → W.grownBy w1 (some g) → wpList Tryd.prog ops Q rest (a.put o.dst (goInt s.size)) w1) : wpList Tryd.prog ops Q (o :: rest) a W := by
  refine wpList_plain hgd fun K hK => ?_
  obtain ⟨i, hi, hz⟩ := Option.map_eq_some_iff.1 info5
  simp only [Prod.mk.injEq] at hz
  have hr := Lib.run_copy_row_string (P := Tryd.prog) W 26 9 o.type 5 g 0 64 64 s (nums .u8 Z64).toArray 5 Tryd.underlying26 (by rw [hi]; simp [hz.2.1]) hA hs (by simp [nums, Z64]; exact hs)
  have hw : Arr8 (W.setRow g ((nums .u8 Z64).toArray.toList.take 0 ++ Lib.byteCells s.data.toList ++ (nums .u8 Z64).toArray.toList.drop (0 + s.size)).toArray) g (padB s) := by
    unfold Arr8
    rw [setRow_heap W g _ _ 5 _ hA]
    rw [copy_cells s hs]
  have hg : W.grownBy (W.setRow g ((nums .u8 Z64).toArray.toList.take 0 ++ Lib.byteCells s.data.toList ++ (nums .u8 Z64).toArray.toList.drop (0 + s.size)).toArray) (some g) := ⟨rfl, rfl, rfl, by simp, fun k _ hk => setRow_other W g k _ (fun e => hk (by rw [e]))⟩
  unfold Oper.wp execOp
  simp only [ho, resolve, invoke, builtin, Sem.run_bind, Sem.run_pure, Result.andThen_ok, List.map_toArray, List.map_cons, List.map_nil, hd, hx, hr]
  exact hK _ _ (h _ hw hg)
set_option maxHeartbeats 8000000 in
set_option maxRecDepth 100000 in
theorem hmac_calls (key text : ByteArray) (w : World) (hk : key.size ≤ 64) (ht : text.size ≤ 549755813888) (hGs : GWs w) :
    Calls Tryd.prog 45 #[.string key, .string text] w fun e w' => e = .returned (.string (hmac key text)) ∧ Below w.heap.size w w' := by
  have h64 : decide (64 < (key.size : Int)) = false := by simp; omega
  have h64' : decide (64 < key.size) = false := by simp; omega
  have HGS := Aside0.mk hGs
  clear hGs
  go_enter Tryd.func45, Tryd.ntmps45
  go_upto_region 3 with (fail)
  go_cut [5, 6] (fun v5 v6 wc => ∃ gi go : Nat, v5 = .slice (some ⟨gi, 0, none⟩) 64 64 ∧ v6 = .slice (some ⟨go, 0, none⟩) 64 64 ∧ Aside0 (gi ≠ go) ∧ Aside0 (w.heap.size ≤ gi) ∧ Aside0 (w.heap.size ≤ go) ∧ Aside0 (Arr8 wc gi Z64) ∧ Aside0 (Arr8 wc go Z64) ∧ Aside0 (Below w.heap.size w wc))
  case first =>
    have hmk := make64
    go_region
    all_goals
      go_wp2_with fail
      go_meet
    · exact ⟨_, _, rfl, rfl, ⟨by simp⟩, ⟨by simp⟩, ⟨by simp⟩, ⟨by first | exact (two_new w).1 | exact (two_new w).2.1⟩, ⟨by first | exact (two_new w).1 | exact (two_new w).2.1⟩, ⟨(two_new w).2.2⟩⟩
    · exact ⟨_, _, rfl, rfl, ⟨by simp⟩, ⟨by simp⟩, ⟨by simp⟩, ⟨by first | exact (two_new w).1 | exact (two_new w).2.1⟩, ⟨by first | exact (two_new w).1 | exact (two_new w).2.1⟩, ⟨(two_new w).2.2⟩⟩
  case rest =>
    obtain ⟨gi, go, rfl, rfl, HNE, HGI, HGO, HAI, HAO, HB⟩ := hcut
    have hne1 : gi ≠ go := HNE.out
    go_wp2_with (first
      | ((with_reducible refine gate_dst (N := 17) rfl ?_); refine copy_event rfl (.tmp 15) (.tmp 16) rfl gi key rfl rfl HAI.out hk ?_; intro w1 h1 hg1; have HAI1 := Aside0.mk h1; have HAO1 := Aside0.mk (HAO.out.move (hg1.block go HAO.out.lt (fun e => by injection e with e; exact hne1 e.symm))); have HB1 := Aside0.mk (HB.out.grown hg1 HB.out.size (fun k hk => by injection hk with hk; have := HGI.out; omega)); clear h1 hg1)
      | ((with_reducible refine gate_dst (N := 20) rfl ?_); refine copy_event rfl (.tmp 18) (.tmp 19) rfl go key rfl rfl HAO1.out hk ?_; intro w1 h1 hg1; have HAO2 := Aside0.mk h1; have HAI2 := Aside0.mk (HAI1.out.move (hg1.block gi HAI1.out.lt (fun e => by injection e with e; exact hne1 e))); have HB2 := Aside0.mk (HB1.out.grown hg1 HB1.out.size (fun k hk => by injection hk with hk; have := HGO.out; omega)); clear h1 hg1))
    go_loopg [23] 64 (fun kq v23 w' => ∃ k : Nat, v23 = .int .i64 (k : Int) ∧ Aside0 (k + kq = 64) ∧ Aside0 (Arr8 w' gi (xorTo 54 (padB key) k)) ∧ Aside0 (Arr8 w' go (xorTo 92 (padB key) k)) ∧ Aside0 (Below w.heap.size w w'))
    case atStart => exact ⟨0, rfl, ⟨rfl⟩, ⟨by rw [xorTo_zero]; exact HAI2.out⟩, ⟨by rw [xorTo_zero]; exact HAO2.out⟩, HB2⟩
    case round =>
      clear HAI HAO HB HAI1 HAO1 HB1 HAI2 HAO2 HB2
      obtain ⟨k, rfl, HK, HAI, HAO, HB⟩ := hrel
      cases gk with
      | zero =>
        obtain rfl : k = 64 := by have := HK.out; omega
        have HXI := Aside0.mk (show Arr8 wr gi ((padB key).map fun b => Go.bits .xor .u8 b 54) by rw [← xorTo_all 54 _ 64 (padB_length _ hk)]; exact HAI.out)
        have HXO := Aside0.mk (show Arr8 wr go ((padB key).map fun b => Go.bits .xor .u8 b 92) by rw [← xorTo_all 92 _ 64 (padB_length _ hk)]; exact HAO.out)
        have hli : ((padB key).map fun b => Go.bits .xor .u8 b 54).length = 64 := by rw [List.length_map, padB_length _ hk]
        have hlo : ((padB key).map fun b => Go.bits .xor .u8 b 92).length = 64 := by rw [List.length_map, padB_length _ hk]
        have hstri : ∀ W : World, Arr8 W gi ((padB key).map fun b => Go.bits .xor .u8 b 54) → (convert 26 9 (.slice (some ⟨gi, 0, none⟩) 64 64)).run Tryd.prog W = .ok (.string (padx key 54)) W := fun W hW => by
          have h1 := hW.str (by rw [hli]; decide) 64
          rw [hli] at h1
          exact h1
        have hstro : ∀ W : World, Arr8 W go ((padB key).map fun b => Go.bits .xor .u8 b 92) → (convert 26 9 (.slice (some ⟨go, 0, none⟩) 64 64)).run Tryd.prog W = .ok (.string (padx key 92)) W := fun W hW => by
          have h1 := hW.str (by rw [hlo]; decide) 64
          rw [hlo] at h1
          exact h1
        have HSO := Aside0.mk hstro
        have hci0 := hstri wr.drew HXI.out.drew
        have hco0 := hstro wr.drew HXO.out.drew
        have hs54 : (padx key 54).size = 64 := by rw [padx, strOfNums_size, hli]
        have hs92 : (padx key 92).size = 64 := by rw [padx, strOfNums_size, hlo]
        have HS54 := Aside0.mk hs54
        have HS92 := Aside0.mk hs92
        have HGW := Aside0.mk (show GWs wr.drew from (HGS.out.below HB.out).below (below_drew1 (Below.refl _ _)))
        have b54 : (padx key 54).size ≤ 64 := by omega
        have b92 : (padx key 92).size ≤ 64 := by omega
        have b32 : (shaOf (padx key 54 ++ text)).size ≤ 32 := by rw [shaOf_size]; exact Nat.le_refl _
        clear hstri hstro hs54 hs92 hli hlo
        go_wp2_with fail
        go_region_with (first
          | (go_at_call 41; (with_reducible refine (sha_of_calls (padx key 54 ++ text) _ (by rw [ByteArray.size_append, HS54.out]; omega) HGW.out).mono ?_); rintro e w1 ⟨rfl, hb1⟩; have hco1 := HSO.out w1 (HXO.out.drew.below hb1); have HB1 := Aside0.mk hb1)
          | (go_at_call 41; (with_reducible refine (sha_of_calls (padx key 92 ++ shaOf (padx key 54 ++ text)) _ (by rw [ByteArray.size_append, HS92.out, shaOf_size]; omega) (HGW.out.below HB1.out)).mono ?_); rintro e w2 ⟨rfl, hb2⟩))
        all_goals
          have HB2 := Aside0.mk hb2
          clear hb2
          go_wp2_with fail
          go_ret
          exact ⟨rfl, below_step (below_step (below_drew1 HB.out) HB1.out) HB2.out⟩
      | succ k1 =>
        have hk64 : decide ((k : Int) < 64) = true := by have := HK.out; simp; omega
        have hk64' : decide (k < 64) = true := by have := HK.out; simp; omega
        have hkk : k < 64 := by have := HK.out; omega
        have hx0 := HAI.out.cell k (by rw [xorTo_length, padB_length _ hk]; exact hkk)
        have hx1 := HAO.out.cell k (by rw [xorTo_length, padB_length _ hk]; exact hkk)
        rw [xorTo_at _ _ _ (by rw [padB_length _ hk]; exact hkk)] at hx0 hx1
        have hf0 := HAI.out.fro k
        have hf1 := HAO.out.fro k
        obtain ⟨x0, hx0e⟩ : ∃ z, (padB key).getD k 0 = z := ⟨_, rfl⟩
        rw [hx0e] at hx0 hx1
        have HX0 := Aside0.mk hx0e
        clear hx0e
        have kp : (0 : Int) ≤ (k : Int) := by omega
        have kq : (k : Int) < 64 := by omega
        go_wp2_with fail
        go_roundg k1
        case measure => omega
        case rel => exact ⟨k + 1, by go_num, ⟨by have := HK.out; omega⟩, ⟨by
          have h1 := (HAI.out.set k (Go.bits .xor .u8 x0 54)).far (p := ⟨go, k, none⟩) hne1 (.int .u8 (Go.bits .xor .u8 x0 92))
          rw [← xorTo_set _ _ _ (by rw [padB_length _ hk]; exact hkk), HX0.out]
          exact h1⟩, ⟨by
          have h1 := (HAO.out.far (p := ⟨gi, k, none⟩) (fun e => hne1 e.symm) (.int .u8 (Go.bits .xor .u8 x0 54))).set k (Go.bits .xor .u8 x0 92)
          rw [← xorTo_set _ _ _ (by rw [padB_length _ hk]; exact hkk), HX0.out]
          exact h1⟩, ⟨((HB.out.setCell (p := ⟨gi, k, none⟩) HGI.out _).setCell (p := ⟨go, k, none⟩) HGO.out _)⟩⟩
end Go.Proofs.YtndjhgjakdkkaaaDoor.M
end

section
-- Printed for this claim by a program (mprint.py) that uses the kit's print; Lean checks it.
namespace Go.Proofs.YtndjhgjakdkkaaaDoor.M
open Go.RowKit Go.Proofs.YtndjhgjakdkkaaaDoorW.PrintWords Go.Proofs.YtndjhgjakdkkaaaDoorW.PrintLast Go.Proofs.YtndjhgjakdkkaaaDoorW.PrintMore
attribute [local go_sem] max2_int min2_int max_two min_two max_three min_three max_four min_four   -- for this text's walks alone
set_option linter.unusedVariables false
set_option linter.unusedSimpArgs false

/-! ### impl_hmacOf: function 45 -/
def impl_hmacOf.f (a0 : ByteArray) (a1 : ByteArray) : Option (ByteArray) := if a0.size ≤ 64 then (if a1.size ≤ 549755813888 then (some (hmac a0 a1)) else (none)) else (none)
theorem impl_hmacOf.calls (a0 : ByteArray) (a1 : ByteArray) (r : ByteArray) (w : World) (hGs : GWs w) (h : impl_hmacOf.f a0 a1 = some r) :
    Calls Tryd.prog 45 #[.string a0, .string a1] w fun e w' => e = .returned (.string r) ∧ Below w.heap.size w w' := by
  unfold impl_hmacOf.f at h
  by_cases h0 : a0.size ≤ 64
  · rw [if_pos h0] at h
    by_cases h1 : a1.size ≤ 549755813888
    · rw [if_pos h1] at h
      obtain rfl := Option.some.inj h
      exact hmac_calls a0 a1 w h0 h1 hGs
    · rw [if_neg h1] at h
      cases h
  · rw [if_neg h0] at h
    cases h

end Go.Proofs.YtndjhgjakdkkaaaDoor.M
end

section
-- Printed for this claim by a program (mprint.py) that uses the kit's print; Lean checks it.
namespace Go.Proofs.YtndjhgjakdkkaaaDoor.M
open Go.RowKit Go.Proofs.YtndjhgjakdkkaaaDoorW.PrintWords Go.Proofs.YtndjhgjakdkkaaaDoorW.PrintLast Go.Proofs.YtndjhgjakdkkaaaDoorW.PrintMore
attribute [local go_sem] max2_int min2_int max_two min_two max_three min_three max_four min_four   -- for this text's walks alone
set_option linter.unusedVariables false
set_option linter.unusedSimpArgs false

/-! ### impl_within: function 65 -/
def impl_within.f (a0 : Int) (a1 : Int) (a2 : Int) : Option (Bool) := if a0 ≥ a1 then (some (decide (a0 ≤ a2))) else (some false)
set_option maxHeartbeats 8000000 in
set_option maxRecDepth 100000 in
theorem impl_within.calls (a0 : Int) (a1 : Int) (a2 : Int) (r : Bool) (w : World) (h : impl_within.f a0 a1 a2 = some r) :
    Calls Tryd.prog 65 #[.int .i64 a0, .int .i64 a1, .int .i64 a2] w fun e w' => e = .returned (.bool r) ∧ Drawn0 w w' := by
  have H : (if a0 ≥ a1 then (some (decide (a0 ≤ a2))) else (some false)) = some r := h
  clear h
  by_cases c4 : a0 ≥ a1
  · rw [if_pos c4] at H
    have c4b0 : decide (a1 ≤ a0) = true := decide_eq_true c4
    clear c4
    obtain rfl := Option.some.inj H
    go_enter Tryd.func65, Tryd.ntmps65
    go_wp2
    go_ret
    exact ⟨by first | rfl | (simp; done) | (simp [*]; done), by repeat (first | exact Drawn0.refl _ | apply Drawn0.step)⟩
  · rw [if_neg c4] at H
    have c4b0 : decide (a1 ≤ a0) = false := decide_eq_false c4
    clear c4
    obtain rfl := Option.some.inj H
    go_enter Tryd.func65, Tryd.ntmps65
    go_wp2
    go_ret
    exact ⟨by first | rfl | (simp; done) | (simp [*]; done), by repeat (first | exact Drawn0.refl _ | apply Drawn0.step)⟩

end Go.Proofs.YtndjhgjakdkkaaaDoor.M
end

section
-- Printed for this claim by a program (mprint.py) that uses the kit's print; Lean checks it.
namespace Go.Proofs.YtndjhgjakdkkaaaDoor.M
open Go.RowKit Go.Proofs.YtndjhgjakdkkaaaDoorW.PrintWords Go.Proofs.YtndjhgjakdkkaaaDoorW.PrintLast Go.Proofs.YtndjhgjakdkkaaaDoorW.PrintMore
attribute [local go_sem] max2_int min2_int max_two min_two max_three min_three max_four min_four   -- for this text's walks alone
set_option linter.unusedVariables false
set_option linter.unusedSimpArgs false

/-! ### impl_keyOk: function 44 -/
def impl_keyOk.f (a0 : ByteArray) : Option (Bool) := (impl_within.f (a0.size : Int) 1 64).bind fun t101 => (if t101 = true then (if 0 ≤ (wrap64 ((a0.size : Int) - 1)) then (if (wrap64 ((a0.size : Int) - 1)) < (a0.size : Int) then (some ((bt a0 (wrap64 ((a0.size : Int) - 1))) != 0)) else (none)) else (none)) else (some false))
set_option maxHeartbeats 8000000 in
set_option maxRecDepth 100000 in
theorem impl_keyOk.calls (a0 : ByteArray) (r : Bool) (w : World) (h : impl_keyOk.f a0 = some r) :
    Calls Tryd.prog 44 #[.string a0] w fun e w' => e = .returned (.bool r) ∧ Drawn0 w w' := by
  have H : ((impl_within.f (a0.size : Int) 1 64).bind fun t101 => (if t101 = true then (if 0 ≤ (wrap64 ((a0.size : Int) - 1)) then (if (wrap64 ((a0.size : Int) - 1)) < (a0.size : Int) then (some ((bt a0 (wrap64 ((a0.size : Int) - 1))) != 0)) else (none)) else (none)) else (some false))) = some r := h
  clear h
  replace H := Option.bind_eq_some_iff.mp H
  obtain ⟨t101, A20, H⟩ := H
  replace H : (if t101 = true then (if 0 ≤ (wrap64 ((a0.size : Int) - 1)) then (if (wrap64 ((a0.size : Int) - 1)) < (a0.size : Int) then (some ((bt a0 (wrap64 ((a0.size : Int) - 1))) != 0)) else (none)) else (none)) else (some false)) = some r := H
  have A2 := Aside0.mk A20
  clear A20
  by_cases c3 : t101 = true
  · subst c3
    have H1 : (if 0 ≤ (wrap64 ((a0.size : Int) - 1)) then (if (wrap64 ((a0.size : Int) - 1)) < (a0.size : Int) then (some ((bt a0 (wrap64 ((a0.size : Int) - 1))) != 0)) else (none)) else (none)) = some r := by rw [if_pos rfl] at H; exact H
    clear H
    have H := H1
    clear H1
    obtain ⟨ji4, hji4⟩ : ∃ j_ : Int, (wrap64 ((a0.size : Int) - 1)) = j_ := ⟨_, rfl⟩
    replace H : (if 0 ≤ (ji4) then (if (ji4) < (a0.size : Int) then (some ((bt a0 (ji4)) != 0)) else (none)) else (none)) = some r := by first | (rw [hji4] at H; exact H) | (simp only [hji4] at H ⊢; exact H)
    (try rw [hji4] at A2)
    have hji4w : (IntKind.i64.wrap ((a0.size : Int) - 1)) = ji4 := (i64_w _).trans hji4
    by_cases c5 : 0 ≤ (ji4)
    · rw [if_pos c5] at H
      have c5b0 : decide (0 ≤ (ji4)) = true := decide_eq_true c5
      clear c5
      by_cases c6 : (ji4) < (a0.size : Int)
      · rw [if_pos c6] at H
        have c6b0 : decide ((ji4) < (a0.size : Int)) = true := decide_eq_true c6
        clear c6
        obtain rfl := Option.some.inj H
        go_enter Tryd.func44, Tryd.ntmps44
        go_wp2_with (first | ((with_reducible refine gate_callee (f := 65) rfl ?_); refine goesL_ (some 5) rfl rfl Tryd.func65 (by kernel_rfl) rfl #[.int .i64 (a0.size : Int), .int .i64 1, .int .i64 64] rfl (by (try simp only [List.map_toArray, List.map_cons, List.map_nil]); first | done | rfl | (simp only [List.length_drop, List.length_take]; rfl)) ?_; (with_reducible refine (impl_within.calls (a0.size : Int) 1 64 true _ A2.out).mono ?_); rintro e w' ⟨rfl, ⟨nd, rfl⟩⟩; refine ⟨_, rfl, ?_⟩; have p7 : 0 ≤ ((ji4) : Int) := of_decide_eq_true (by first | (with_reducible assumption) | assumption); have q7 : (ji4) < (a0.size : Int) := of_decide_eq_true (by first | (with_reducible assumption) | assumption); have hx7 := bt_at a0 (ji4); replace p7 := eq_true p7; replace q7 := eq_true q7))
        go_ret
        exact ⟨by first | rfl | (simp; done) | (simp only [← hji4] <;> (first | rfl | simp)) | (simp [*]; done), by repeat (first | exact Drawn0.refl _ | apply Drawn0.step)⟩
      · rw [if_neg c6] at H
        exact absurd H (by simp)
    · rw [if_neg c5] at H
      exact absurd H (by simp)
  · replace c3 := Bool.eq_false_iff.mpr c3
    subst c3
    have H1 : (some false) = some r := by rw [if_neg (show ¬ (false = true) by decide)] at H; exact H
    clear H
    have H := H1
    clear H1
    obtain rfl := Option.some.inj H
    go_enter Tryd.func44, Tryd.ntmps44
    go_wp2_with (first | ((with_reducible refine gate_callee (f := 65) rfl ?_); refine goesL_ (some 5) rfl rfl Tryd.func65 (by kernel_rfl) rfl #[.int .i64 (a0.size : Int), .int .i64 1, .int .i64 64] rfl (by (try simp only [List.map_toArray, List.map_cons, List.map_nil]); first | done | rfl | (simp only [List.length_drop, List.length_take]; rfl)) ?_; (with_reducible refine (impl_within.calls (a0.size : Int) 1 64 false _ A2.out).mono ?_); rintro e w' ⟨rfl, ⟨nd, rfl⟩⟩; refine ⟨_, rfl, ?_⟩))
    go_ret
    exact ⟨by first | rfl | (simp; done) | (simp [*]; done), by repeat (first | exact Drawn0.refl _ | apply Drawn0.step)⟩

end Go.Proofs.YtndjhgjakdkkaaaDoor.M
end

section
-- Printed for this claim by a program (mprint.py) that uses the kit's print; Lean checks it.
namespace Go.Proofs.YtndjhgjakdkkaaaDoor.M
open Go.RowKit Go.Proofs.YtndjhgjakdkkaaaDoorW.PrintWords Go.Proofs.YtndjhgjakdkkaaaDoorW.PrintLast Go.Proofs.YtndjhgjakdkkaaaDoorW.PrintMore
attribute [local go_sem] max2_int min2_int max_two min_two max_three min_three max_four min_four   -- for this text's walks alone
set_option linter.unusedVariables false
set_option linter.unusedSimpArgs false

/-! ### impl_SealOf: function 15 -/
def impl_SealOf.f (k : Nat) (a0 : ByteArray) (a1 : ByteArray) : Option (ByteArray) := (impl_keyOk.f a0).bind fun t101 => (if t101 = true then ((impl_hmacOf.f a0 a1).bind fun t102 => ((impl_hexOf.f k t102).bind fun t103 => (some t103))) else (some (⟨#[]⟩ : ByteArray)))
theorem impl_SealOf.mono : ∀ a0 a1 k, LeO (impl_SealOf.f k a0 a1) (impl_SealOf.f (k + 1) a0 a1) := by
  intro a0 a1 k
  unfold impl_SealOf.f
  repeat' first
      | (with_reducible exact impl_hexOf.mono _ _)
      | (with_reducible exact LeO.refl _)
      | (with_reducible exact LeO.none _)
      | (with_reducible refine LeO.ite ?_ ?_)
      | (with_reducible refine LeO.bind ?_ (fun _ => ?_))
      | exact impl_hexOf.mono _ _
      | exact LeO.none _
      | refine LeO.ite ?_ ?_
      | refine LeO.bind ?_ (fun _ => ?_)
set_option maxHeartbeats 8000000 in
set_option maxRecDepth 100000 in
theorem impl_SealOf.calls (k : Nat) (a0 : ByteArray) (a1 : ByteArray) (r : ByteArray) (w : World) (hGs : GWs w) (h : impl_SealOf.f k a0 a1 = some r) :
    Calls Tryd.prog 15 #[.string a0, .string a1] w fun e w' => e = .returned (.string r) ∧ Below w.heap.size w w' := by
  have HGWs := Aside0.mk hGs
  clear hGs
  have HB := Aside0.mk (Below.refl w.heap.size w)
  have H : ((impl_keyOk.f a0).bind fun t101 => (if t101 = true then ((impl_hmacOf.f a0 a1).bind fun t102 => ((impl_hexOf.f k t102).bind fun t103 => (some t103))) else (some (⟨#[]⟩ : ByteArray)))) = some r := h
  clear h
  replace H := Option.bind_eq_some_iff.mp H
  obtain ⟨t101, A30, H⟩ := H
  replace H : (if t101 = true then ((impl_hmacOf.f a0 a1).bind fun t102 => ((impl_hexOf.f k t102).bind fun t103 => (some t103))) else (some (⟨#[]⟩ : ByteArray))) = some r := H
  have A3 := Aside0.mk A30
  clear A30
  by_cases c4 : t101 = true
  · subst c4
    have H1 : ((impl_hmacOf.f a0 a1).bind fun t102 => ((impl_hexOf.f k t102).bind fun t103 => (some t103))) = some r := by rw [if_pos rfl] at H; exact H
    clear H
    have H := H1
    clear H1
    replace H := Option.bind_eq_some_iff.mp H
    obtain ⟨t102, A50, H⟩ := H
    replace H : ((impl_hexOf.f k t102).bind fun t103 => (some t103)) = some r := H
    have A5 := Aside0.mk A50
    clear A50
    replace H := Option.bind_eq_some_iff.mp H
    obtain ⟨t103, A60, H⟩ := H
    replace H : (some t103) = some r := H
    have A6 := Aside0.mk A60
    clear A60
    obtain rfl := Option.some.inj H
    go_enter Tryd.func15, Tryd.ntmps15
    go_wp2_with (first | ((with_reducible refine gate_callee (f := 44) rfl ?_); refine goesL_ (some 6) rfl rfl Tryd.func44 (by kernel_rfl) rfl #[.string a0] rfl (by (try simp only [List.map_toArray, List.map_cons, List.map_nil]); first | done | rfl | (simp only [List.length_drop, List.length_take]; rfl)) ?_; (with_reducible refine (impl_keyOk.calls a0 true _ A3.out).mono ?_); rintro e w' ⟨rfl, ⟨nd, rfl⟩⟩; refine ⟨_, rfl, ?_⟩) | ((with_reducible refine gate_callee (f := 45) rfl ?_); refine goesL_ (some 10) rfl rfl Tryd.func45 (by kernel_rfl) rfl #[.string a0, .string a1] rfl (by (try simp only [List.map_toArray, List.map_cons, List.map_nil]); first | done | rfl | (simp only [List.length_drop, List.length_take]; rfl)) ?_; (with_reducible refine (impl_hmacOf.calls a0 a1 t102 _ ?side1 A5.out).mono ?_); (case side1 => exact GWs.below HGWs.out (by repeat (first | (with_reducible first | exact HB.out | apply below_alloc | apply pw_below_drewN | apply below_drew1) | exact HB.out))); rintro e w7 ⟨rfl, hb⟩; refine ⟨_, rfl, ?_⟩; have n0_ := Aside0.mk (below_step (by repeat (first | (with_reducible first | exact HB.out | apply below_alloc | apply pw_below_drewN | apply below_drew1) | exact HB.out)) hb); clear HB; have HB := n0_; clear n0_; (try clear hb); (try clear hb2); (try clear hk); (try clear hi)) | ((with_reducible refine gate_callee (f := 40) rfl ?_); refine goesL_ (some 11) rfl rfl Tryd.func40 (by kernel_rfl) rfl #[.string t102] rfl (by (try simp only [List.map_toArray, List.map_cons, List.map_nil]); first | done | rfl | (simp only [List.length_drop, List.length_take]; rfl)) ?_; (with_reducible refine (impl_hexOf.calls k t102 t103 _ A6.out).mono ?_); rintro e w8 ⟨rfl, hb⟩; refine ⟨_, rfl, ?_⟩; have n0_ := Aside0.mk (below_step (by repeat (first | (with_reducible first | exact HB.out | apply below_alloc | apply pw_below_drewN | apply below_drew1) | exact HB.out)) hb); clear HB; have HB := n0_; clear n0_; (try clear hb); (try clear hb2); (try clear hk); (try clear hi)))
    go_ret
    exact ⟨by first | rfl | (simp [errW_none, errW_some] <;> rfl) | (simp [*, errW_none, errW_some] <;> rfl), by repeat (first | (with_reducible first | exact HB.out | apply below_alloc | apply pw_below_drewN | apply below_drew1) | exact HB.out)⟩
  · replace c4 := Bool.eq_false_iff.mpr c4
    subst c4
    have H1 : (some (⟨#[]⟩ : ByteArray)) = some r := by rw [if_neg (show ¬ (false = true) by decide)] at H; exact H
    clear H
    have H := H1
    clear H1
    obtain rfl := Option.some.inj H
    go_enter Tryd.func15, Tryd.ntmps15
    go_wp2_with (first | ((with_reducible refine gate_callee (f := 44) rfl ?_); refine goesL_ (some 6) rfl rfl Tryd.func44 (by kernel_rfl) rfl #[.string a0] rfl (by (try simp only [List.map_toArray, List.map_cons, List.map_nil]); first | done | rfl | (simp only [List.length_drop, List.length_take]; rfl)) ?_; (with_reducible refine (impl_keyOk.calls a0 false _ A3.out).mono ?_); rintro e w' ⟨rfl, ⟨nd, rfl⟩⟩; refine ⟨_, rfl, ?_⟩))
    go_ret
    exact ⟨by first | rfl | (simp [errW_none, errW_some] <;> rfl) | (simp [*, errW_none, errW_some] <;> rfl), by repeat (first | (with_reducible first | exact HB.out | apply below_alloc | apply pw_below_drewN | apply below_drew1) | exact HB.out)⟩

end Go.Proofs.YtndjhgjakdkkaaaDoor.M
end

section
-- Printed for this claim by a program (mprint.py) that uses the kit's print; Lean checks it.
namespace Go.Proofs.YtndjhgjakdkkaaaDoor.M
open Go.RowKit Go.Proofs.YtndjhgjakdkkaaaDoorW.PrintWords Go.Proofs.YtndjhgjakdkkaaaDoorW.PrintLast Go.Proofs.YtndjhgjakdkkaaaDoorW.PrintMore
attribute [local go_sem] max2_int min2_int max_two min_two max_three min_three max_four min_four   -- for this text's walks alone
set_option linter.unusedVariables false
set_option linter.unusedSimpArgs false

/-! ### spec_l1In: function 67 -/
def spec_l1In.f (a0 : Int) (a1 : Int) (a2 : Int) : Option (Bool) := if a0 ≥ a1 then (some (decide (a0 ≤ a2))) else (some false)
set_option maxHeartbeats 8000000 in
set_option maxRecDepth 100000 in
theorem spec_l1In.calls (a0 : Int) (a1 : Int) (a2 : Int) (r : Bool) (w : World) (h : spec_l1In.f a0 a1 a2 = some r) :
    Calls Tryd.prog 67 #[.int .i64 a0, .int .i64 a1, .int .i64 a2] w fun e w' => e = .returned (.bool r) ∧ Drawn0 w w' := by
  have H : (if a0 ≥ a1 then (some (decide (a0 ≤ a2))) else (some false)) = some r := h
  clear h
  by_cases c4 : a0 ≥ a1
  · rw [if_pos c4] at H
    have c4b0 : decide (a1 ≤ a0) = true := decide_eq_true c4
    clear c4
    obtain rfl := Option.some.inj H
    go_enter Tryd.func67, Tryd.ntmps67
    go_wp2
    go_ret
    exact ⟨by first | rfl | (simp; done) | (simp [*]; done), by repeat (first | exact Drawn0.refl _ | apply Drawn0.step)⟩
  · rw [if_neg c4] at H
    have c4b0 : decide (a1 ≤ a0) = false := decide_eq_false c4
    clear c4
    obtain rfl := Option.some.inj H
    go_enter Tryd.func67, Tryd.ntmps67
    go_wp2
    go_ret
    exact ⟨by first | rfl | (simp; done) | (simp [*]; done), by repeat (first | exact Drawn0.refl _ | apply Drawn0.step)⟩

end Go.Proofs.YtndjhgjakdkkaaaDoor.M
end

section
-- Printed for this claim by a program (mprint.py) that uses the kit's print; Lean checks it.
namespace Go.Proofs.YtndjhgjakdkkaaaDoor.M
open Go.RowKit Go.Proofs.YtndjhgjakdkkaaaDoorW.PrintWords Go.Proofs.YtndjhgjakdkkaaaDoorW.PrintLast Go.Proofs.YtndjhgjakdkkaaaDoorW.PrintMore
attribute [local go_sem] max2_int min2_int max_two min_two max_three min_three max_four min_four   -- for this text's walks alone
set_option linter.unusedVariables false
set_option linter.unusedSimpArgs false

/-! ### spec_l6Key: function 42 -/
def spec_l6Key.f (a0 : ByteArray) : Option (Bool) := (spec_l1In.f (a0.size : Int) 1 64).bind fun t101 => (if t101 = true then (if 0 ≤ (wrap64 ((a0.size : Int) - 1)) then (if (wrap64 ((a0.size : Int) - 1)) < (a0.size : Int) then (some ((bt a0 (wrap64 ((a0.size : Int) - 1))) != 0)) else (none)) else (none)) else (some false))
set_option maxHeartbeats 8000000 in
set_option maxRecDepth 100000 in
theorem spec_l6Key.calls (a0 : ByteArray) (r : Bool) (w : World) (h : spec_l6Key.f a0 = some r) :
    Calls Tryd.prog 42 #[.string a0] w fun e w' => e = .returned (.bool r) ∧ Drawn0 w w' := by
  have H : ((spec_l1In.f (a0.size : Int) 1 64).bind fun t101 => (if t101 = true then (if 0 ≤ (wrap64 ((a0.size : Int) - 1)) then (if (wrap64 ((a0.size : Int) - 1)) < (a0.size : Int) then (some ((bt a0 (wrap64 ((a0.size : Int) - 1))) != 0)) else (none)) else (none)) else (some false))) = some r := h
  clear h
  replace H := Option.bind_eq_some_iff.mp H
  obtain ⟨t101, A20, H⟩ := H
  replace H : (if t101 = true then (if 0 ≤ (wrap64 ((a0.size : Int) - 1)) then (if (wrap64 ((a0.size : Int) - 1)) < (a0.size : Int) then (some ((bt a0 (wrap64 ((a0.size : Int) - 1))) != 0)) else (none)) else (none)) else (some false)) = some r := H
  have A2 := Aside0.mk A20
  clear A20
  by_cases c3 : t101 = true
  · subst c3
    have H1 : (if 0 ≤ (wrap64 ((a0.size : Int) - 1)) then (if (wrap64 ((a0.size : Int) - 1)) < (a0.size : Int) then (some ((bt a0 (wrap64 ((a0.size : Int) - 1))) != 0)) else (none)) else (none)) = some r := by rw [if_pos rfl] at H; exact H
    clear H
    have H := H1
    clear H1
    obtain ⟨ji4, hji4⟩ : ∃ j_ : Int, (wrap64 ((a0.size : Int) - 1)) = j_ := ⟨_, rfl⟩
    replace H : (if 0 ≤ (ji4) then (if (ji4) < (a0.size : Int) then (some ((bt a0 (ji4)) != 0)) else (none)) else (none)) = some r := by first | (rw [hji4] at H; exact H) | (simp only [hji4] at H ⊢; exact H)
    (try rw [hji4] at A2)
    have hji4w : (IntKind.i64.wrap ((a0.size : Int) - 1)) = ji4 := (i64_w _).trans hji4
    by_cases c5 : 0 ≤ (ji4)
    · rw [if_pos c5] at H
      have c5b0 : decide (0 ≤ (ji4)) = true := decide_eq_true c5
      clear c5
      by_cases c6 : (ji4) < (a0.size : Int)
      · rw [if_pos c6] at H
        have c6b0 : decide ((ji4) < (a0.size : Int)) = true := decide_eq_true c6
        clear c6
        obtain rfl := Option.some.inj H
        go_enter Tryd.func42, Tryd.ntmps42
        go_wp2_with (first | ((with_reducible refine gate_callee (f := 67) rfl ?_); refine goesL_ (some 5) rfl rfl Tryd.func67 (by kernel_rfl) rfl #[.int .i64 (a0.size : Int), .int .i64 1, .int .i64 64] rfl (by (try simp only [List.map_toArray, List.map_cons, List.map_nil]); first | done | rfl | (simp only [List.length_drop, List.length_take]; rfl)) ?_; (with_reducible refine (spec_l1In.calls (a0.size : Int) 1 64 true _ A2.out).mono ?_); rintro e w' ⟨rfl, ⟨nd, rfl⟩⟩; refine ⟨_, rfl, ?_⟩; have p7 : 0 ≤ ((ji4) : Int) := of_decide_eq_true (by first | (with_reducible assumption) | assumption); have q7 : (ji4) < (a0.size : Int) := of_decide_eq_true (by first | (with_reducible assumption) | assumption); have hx7 := bt_at a0 (ji4); replace p7 := eq_true p7; replace q7 := eq_true q7))
        go_ret
        exact ⟨by first | rfl | (simp; done) | (simp only [← hji4] <;> (first | rfl | simp)) | (simp [*]; done), by repeat (first | exact Drawn0.refl _ | apply Drawn0.step)⟩
      · rw [if_neg c6] at H
        exact absurd H (by simp)
    · rw [if_neg c5] at H
      exact absurd H (by simp)
  · replace c3 := Bool.eq_false_iff.mpr c3
    subst c3
    have H1 : (some false) = some r := by rw [if_neg (show ¬ (false = true) by decide)] at H; exact H
    clear H
    have H := H1
    clear H1
    obtain rfl := Option.some.inj H
    go_enter Tryd.func42, Tryd.ntmps42
    go_wp2_with (first | ((with_reducible refine gate_callee (f := 67) rfl ?_); refine goesL_ (some 5) rfl rfl Tryd.func67 (by kernel_rfl) rfl #[.int .i64 (a0.size : Int), .int .i64 1, .int .i64 64] rfl (by (try simp only [List.map_toArray, List.map_cons, List.map_nil]); first | done | rfl | (simp only [List.length_drop, List.length_take]; rfl)) ?_; (with_reducible refine (spec_l1In.calls (a0.size : Int) 1 64 false _ A2.out).mono ?_); rintro e w' ⟨rfl, ⟨nd, rfl⟩⟩; refine ⟨_, rfl, ?_⟩))
    go_ret
    exact ⟨by first | rfl | (simp; done) | (simp [*]; done), by repeat (first | exact Drawn0.refl _ | apply Drawn0.step)⟩

end Go.Proofs.YtndjhgjakdkkaaaDoor.M
end

section
-- Printed for this claim by a program (mprint.py) that uses the kit's print; Lean checks it.
namespace Go.Proofs.YtndjhgjakdkkaaaDoor.M
open Go.RowKit Go.Proofs.YtndjhgjakdkkaaaDoorW.PrintWords Go.Proofs.YtndjhgjakdkkaaaDoorW.PrintLast Go.Proofs.YtndjhgjakdkkaaaDoorW.PrintMore
attribute [local go_sem] max2_int min2_int max_two min_two max_three min_three max_four min_four   -- for this text's walks alone
set_option linter.unusedVariables false
set_option linter.unusedSimpArgs false

/-! ### spec_l6Pad: function 43 -/
def spec_l6Pad.l0 : Nat → ByteArray → Int → List Int → Int → Option (ByteArray)
  | 0, _, _, _, _ => none
  | k + 1, x0, x1, x5, x6 => if x6 < 64 then (if x6 < (x0.size : Int) then (if 0 ≤ x6 then (if x5.length < 140737488355328 then (spec_l6Pad.l0 k x0 x1 (x5 ++ [Go.bits .xor .u8 (bt x0 x6) x1]) (wrap64 (x6 + 1))) else (none)) else (none)) else (if x5.length < 140737488355328 then (spec_l6Pad.l0 k x0 x1 (x5 ++ [Go.bits .xor .u8 0 x1]) (wrap64 (x6 + 1))) else (none))) else (some (strOfNums x5))
def spec_l6Pad.f (k : Nat) (a0 : ByteArray) (a1 : Int) : Option (ByteArray) := spec_l6Pad.l0 k a0 a1 (([] : List Int)) 0
theorem spec_l6Pad.mono_l : ∀ k, (∀ y0 y1 y2 y3, LeO (spec_l6Pad.l0 k y0 y1 y2 y3) (spec_l6Pad.l0 (k + 1) y0 y1 y2 y3))
  | 0 => fun _ _ _ _ r h => by simp [spec_l6Pad.l0] at h
  | k + 1 => by
    have ih0 := spec_l6Pad.mono_l k
    · intro y0 y1 y2 y3
      unfold spec_l6Pad.l0
      repeat' first
      | (with_reducible exact ih0 _ _ _ _)
      | (with_reducible exact LeO.refl _)
      | (with_reducible exact LeO.none _)
      | (with_reducible refine LeO.ite ?_ ?_)
      | (with_reducible refine LeO.bind ?_ (fun _ => ?_))
      | exact ih0 _ _ _ _
      | exact LeO.none _
      | refine LeO.ite ?_ ?_
      | refine LeO.bind ?_ (fun _ => ?_)
theorem spec_l6Pad.mono : ∀ a0 a1 k, LeO (spec_l6Pad.f k a0 a1) (spec_l6Pad.f (k + 1) a0 a1) := by
  intro a0 a1 k
  have ih0 := spec_l6Pad.mono_l k
  unfold spec_l6Pad.f
  repeat' first
      | (with_reducible exact ih0 _ _ _ _)
      | (with_reducible exact LeO.refl _)
      | (with_reducible exact LeO.none _)
      | (with_reducible refine LeO.ite ?_ ?_)
      | (with_reducible refine LeO.bind ?_ (fun _ => ?_))
      | exact ih0 _ _ _ _
      | exact LeO.none _
      | refine LeO.ite ?_ ?_
      | refine LeO.bind ?_ (fun _ => ?_)
set_option maxHeartbeats 8000000 in
set_option maxRecDepth 100000 in
theorem spec_l6Pad.calls (k : Nat) (a0 : ByteArray) (a1 : Int) (r : ByteArray) (w : World) (h : spec_l6Pad.f k a0 a1 = some r) :
    Calls Tryd.prog 43 #[.string a0, .int .u8 a1] w fun e w' => e = .returned (.string r) ∧ Below w.heap.size w w' := by
  have HB := Aside0.mk (Below.refl w.heap.size w)
  have H : (spec_l6Pad.l0 k a0 a1 (([] : List Int)) 0) = some r := h
  clear h
  obtain ⟨y101, hy101⟩ : ∃ y_ : List Int, y_ = (([] : List Int)) := ⟨_, rfl⟩
  replace H : (spec_l6Pad.l0 k a0 a1 y101 0) = some r := by first | (rw [hy101]; with_reducible exact H) | (have H2_ := (Option.bind_some _ _).symm.trans H; rw [hy101]; with_reducible exact H2_) | (have H2_ := (Option.bind_some _ _).symm.trans H; with_reducible exact H2_) | with_reducible exact H | (rw [hy101]; exact H) | exact H
  have Ny101 := Aside0.mk hy101
  clear hy101
  have H' := Aside0.mk H
  clear H
  go_enter Tryd.func43, Tryd.ntmps43
  go_wp2_with (first | ((with_reducible refine gate_dst (N := 8) rfl ?_); refine Kd.R_lit (Kd.int .u8) _ 5 ?hg (N := 8) ?hd (xs := ([] : List Int)) (inner := []) (ok := fun _ => True) (okp := fun _ => True) ?hr ?hp (fun _ hk => hk) trivial (Below.refl _ _) (Nat.le_refl _) (by simp) ?_; (case hd => rfl); (case hg => rfl); (case hr => first | (go_simp; done) | (go_simp; rfl)); (case hp => exact (Reps.none _ _)); intro v102 w3 ho4 hb hg_ hnew_; clear hg_ hnew_; (first | rw [← Ny101.out] at ho4 | (simp only [Int.reduceToNat] at ho4; rw [← Ny101.out] at ho4)); have n0_ := Aside0.mk (Kd.R_lower ho4 (below_size (by repeat (first | (with_reducible first | exact HB.out | apply below_alloc | apply pw_below_drewN | apply below_drew1) | exact HB.out)))); have n1_ := Aside0.mk (below_step (by repeat (first | (with_reducible first | exact HB.out | apply below_alloc | apply pw_below_drewN | apply below_drew1) | exact HB.out)) hb); clear HB; have HO103 := n0_; have HB := n1_; clear n0_ n1_; clear hb ho4))
  go_loopg [5, 6] k (fun kq v5 v6 w' => ∃ (x5_1 : List Int) (x6_1 : Int), v6 = .int .i64 x6_1 ∧ Aside0 (spec_l6Pad.l0 kq a0 a1 x5_1 x6_1 = some r) ∧ Aside0 (kq ≤ k) ∧ Aside0 (Kd.R (Kd.int .u8) 5 w' w.heap.size (fun _ => True) v5 x5_1) ∧ Aside0 (Below w.heap.size w w'))
  case atStart => exact ⟨(y101), (0), (by first | rfl | (simp; done) | (simp [*]; done)), H', ⟨Nat.le_refl _⟩, ⟨by (with_reducible repeat (first | apply Kd.R_alloc | apply Kd.R_drewN | apply Kd.R_drew)); exact HO103.out⟩, ⟨by repeat (first | (with_reducible first | exact HB.out | apply below_alloc | apply pw_below_drewN | apply below_drew1) | exact HB.out)⟩⟩
  case round =>
    clear H'
    try clear p2
    try clear c4
    obtain ⟨x5_1, x6_1, rfl, HA, HK1, HO_5, HB⟩ := hrel
    cases gk with
    | zero => exact absurd HA.out (by simp [spec_l6Pad.l0])
    | succ k1 =>
      have H := HA.out
      clear HA
      simp only [spec_l6Pad.l0] at H
      by_cases c5 : x6_1 < 64
      · rw [if_pos c5] at H
        have c5b0 : decide (x6_1 < 64) = true := decide_eq_true c5
        clear c5
        by_cases c6 : x6_1 < (a0.size : Int)
        · rw [if_pos c6] at H
          have c6b0 : decide (x6_1 < (a0.size : Int)) = true := decide_eq_true c6
          clear c6
          by_cases c7 : 0 ≤ x6_1
          · rw [if_pos c7] at H
            have c7b0 : decide (0 ≤ x6_1) = true := decide_eq_true c7
            clear c7
            by_cases c9 : x5_1.length < 140737488355328
            · rw [if_pos c9] at H
              have LMc9 := Aside0.mk c9
              clear c9
              obtain ⟨y104, hy104⟩ : ∃ y_ : List Int, y_ = (x5_1 ++ [Go.bits .xor .u8 (bt a0 x6_1) a1]) := ⟨_, rfl⟩
              replace H : (spec_l6Pad.l0 k1 a0 a1 y104 (wrap64 (x6_1 + 1))) = some r := by first | (rw [hy104]; with_reducible exact H) | (have H2_ := (Option.bind_some _ _).symm.trans H; rw [hy104]; with_reducible exact H2_) | (have H2_ := (Option.bind_some _ _).symm.trans H; with_reducible exact H2_) | with_reducible exact H | (rw [hy104]; exact H) | exact H
              have Ny104 := Aside0.mk hy104
              clear hy104
              have H' := Aside0.mk H
              clear H
              have p8 : 0 ≤ (x6_1 : Int) := of_decide_eq_true (by first | (with_reducible assumption) | assumption)
              have q8 : x6_1 < (a0.size : Int) := of_decide_eq_true (by first | (with_reducible assumption) | assumption)
              have hx8 := bt_at a0 x6_1
              replace p8 := eq_true p8
              replace q8 := eq_true q8
              go_wp2_with (first | ((with_reducible refine gate_builtin (b := .append) (xs := #[.tmp 20, .tmp 24]) rfl ?_); at_builtin; refine Kd.R_append (Kd.int .u8) (w0 := w) w.heap.size rfl (.tmp 20) (.tmp 24) 26 5 (.int .u8 0) 1 rfl Tryd.underlying26 info5 rfl (by decide) (by omega) u5 x5_1 (Go.bits .xor .u8 (bt a0 x6_1) a1) [.int .u8 (Go.bits .xor .u8 (bt a0 x6_1) a1)] (fun _ => True) (fun _ => False) rfl rfl ?aP (fun _ hk => hk.elim) ?aF ?aO ?aB ?aS ?aL ?_; (case aP => exact rfl); (case aB => exact (by repeat (first | (with_reducible first | exact HB.out | apply below_alloc | apply pw_below_drewN | apply below_drew1) | exact HB.out))); (case aF => exact (fun _ _ => trivial)); (case aO => exact (by (with_reducible repeat (first | apply Kd.R_alloc | apply Kd.R_drewN | apply Kd.R_drew)); exact HO_5.out)); (case aS => exact (below_size (by repeat (first | (with_reducible first | exact HB.out | apply below_alloc | apply pw_below_drewN | apply below_drew1) | exact HB.out)))); (case aL => have := LMc9.out; omega); intro v105 w10 ho hb hg hat; rw [← Ny104.out] at ho; have n0_ := Aside0.mk (hb); have n1_ := Aside0.mk (ho); clear HB; clear HO_5; have HB := n0_; have HO106 := n1_; clear n0_ n1_; clear ho hb hg hat))
              go_roundg k1
              case measure => have := HK1.out; omega
              case rel => exact ⟨(y104), (wrap64 (x6_1 + 1)), (by first | rfl | (simp; done) | (simp [*]; done)), H', ⟨by have := HK1.out; omega⟩, ⟨by (with_reducible repeat (first | apply Kd.R_alloc | apply Kd.R_drewN | apply Kd.R_drew)); exact HO106.out⟩, ⟨by repeat (first | (with_reducible first | exact HB.out | apply below_alloc | apply pw_below_drewN | apply below_drew1) | exact HB.out)⟩⟩
            · rw [if_neg c9] at H
              exact absurd H (by simp)
          · rw [if_neg c7] at H
            exact absurd H (by simp)
        · rw [if_neg c6] at H
          have c6b0 : decide (x6_1 < (a0.size : Int)) = false := decide_eq_false c6
          clear c6
          by_cases c11 : x5_1.length < 140737488355328
          · rw [if_pos c11] at H
            have LMc11 := Aside0.mk c11
            clear c11
            obtain ⟨y107, hy107⟩ : ∃ y_ : List Int, y_ = (x5_1 ++ [Go.bits .xor .u8 0 a1]) := ⟨_, rfl⟩
            replace H : (spec_l6Pad.l0 k1 a0 a1 y107 (wrap64 (x6_1 + 1))) = some r := by first | (rw [hy107]; with_reducible exact H) | (have H2_ := (Option.bind_some _ _).symm.trans H; rw [hy107]; with_reducible exact H2_) | (have H2_ := (Option.bind_some _ _).symm.trans H; with_reducible exact H2_) | with_reducible exact H | (rw [hy107]; exact H) | exact H
            have Ny107 := Aside0.mk hy107
            clear hy107
            have H' := Aside0.mk H
            clear H
            go_wp2_with (first | ((with_reducible refine gate_builtin (b := .append) (xs := #[.tmp 20, .tmp 24]) rfl ?_); at_builtin; refine Kd.R_append (Kd.int .u8) (w0 := w) w.heap.size rfl (.tmp 20) (.tmp 24) 26 5 (.int .u8 0) 1 rfl Tryd.underlying26 info5 rfl (by decide) (by omega) u5 x5_1 (Go.bits .xor .u8 0 a1) [.int .u8 (Go.bits .xor .u8 0 a1)] (fun _ => True) (fun _ => False) rfl rfl ?aP (fun _ hk => hk.elim) ?aF ?aO ?aB ?aS ?aL ?_; (case aP => exact rfl); (case aB => exact (by repeat (first | (with_reducible first | exact HB.out | apply below_alloc | apply pw_below_drewN | apply below_drew1) | exact HB.out))); (case aF => exact (fun _ _ => trivial)); (case aO => exact (by (with_reducible repeat (first | apply Kd.R_alloc | apply Kd.R_drewN | apply Kd.R_drew)); exact HO_5.out)); (case aS => exact (below_size (by repeat (first | (with_reducible first | exact HB.out | apply below_alloc | apply pw_below_drewN | apply below_drew1) | exact HB.out)))); (case aL => have := LMc11.out; omega); intro v108 w12 ho hb hg hat; rw [← Ny107.out] at ho; have n0_ := Aside0.mk (hb); have n1_ := Aside0.mk (ho); clear HB; clear HO_5; have HB := n0_; have HO109 := n1_; clear n0_ n1_; clear ho hb hg hat))
            go_roundg k1
            case measure => have := HK1.out; omega
            case rel => exact ⟨(y107), (wrap64 (x6_1 + 1)), (by first | rfl | (simp; done) | (simp [*]; done)), H', ⟨by have := HK1.out; omega⟩, ⟨by (with_reducible repeat (first | apply Kd.R_alloc | apply Kd.R_drewN | apply Kd.R_drew)); exact HO109.out⟩, ⟨by repeat (first | (with_reducible first | exact HB.out | apply below_alloc | apply pw_below_drewN | apply below_drew1) | exact HB.out)⟩⟩
          · rw [if_neg c11] at H
            exact absurd H (by simp)
      · rw [if_neg c5] at H
        have c5b0 : decide (x6_1 < 64) = false := decide_eq_false c5
        clear c5
        obtain rfl := Option.some.inj H
        have hcv13 := own_string (P := Tryd.prog) Tryd.underlying26 Tryd.underlying5 Tryd.underlying9 (Kd.own_of_R HO_5.out)
        go_wp2
        go_ret
        exact ⟨by first | rfl | (simp [errW_none, errW_some] <;> rfl) | (simp [*, errW_none, errW_some] <;> rfl), by repeat (first | (with_reducible first | exact HB.out | apply below_alloc | apply pw_below_drewN | apply below_drew1) | exact HB.out)⟩

end Go.Proofs.YtndjhgjakdkkaaaDoor.M
end

section
-- Printed for this claim by a program (mprint.py) that uses the kit's print; Lean checks it.
namespace Go.Proofs.YtndjhgjakdkkaaaDoor.M
open Go.RowKit Go.Proofs.YtndjhgjakdkkaaaDoorW.PrintWords Go.Proofs.YtndjhgjakdkkaaaDoorW.PrintLast Go.Proofs.YtndjhgjakdkkaaaDoorW.PrintMore
attribute [local go_sem] max2_int min2_int max_two min_two max_three min_three max_four min_four   -- for this text's walks alone
set_option linter.unusedVariables false
set_option linter.unusedSimpArgs false

/-! ### spec_SealOf: function 14 -/
def spec_SealOf.f (k : Nat) (a0 : ByteArray) (a1 : ByteArray) : Option (ByteArray) := (spec_l6Key.f a0).bind fun t101 => (if t101 = true then ((spec_l6Pad.f k a0 92).bind fun t102 => ((spec_l6Pad.f k a0 54).bind fun t103 => (if t103.size + a1.size ≤ 9223372036854775807 then ((spec_l6Sum.f (t103 ++ a1)).bind fun t104 => (if t102.size + t104.size ≤ 9223372036854775807 then ((spec_l6Sum.f (t102 ++ t104)).bind fun t105 => ((spec_l6Hex.f k t105).bind fun t106 => (some t106))) else (none))) else (none)))) else (some (⟨#[]⟩ : ByteArray)))
theorem spec_SealOf.mono : ∀ a0 a1 k, LeO (spec_SealOf.f k a0 a1) (spec_SealOf.f (k + 1) a0 a1) := by
  intro a0 a1 k
  unfold spec_SealOf.f
  repeat' first
      | (with_reducible exact spec_l6Hex.mono _ _)
      | (with_reducible exact spec_l6Pad.mono _ _ _)
      | (with_reducible exact LeO.refl _)
      | (with_reducible exact LeO.none _)
      | (with_reducible refine LeO.ite ?_ ?_)
      | (with_reducible refine LeO.bind ?_ (fun _ => ?_))
      | exact spec_l6Hex.mono _ _
      | exact spec_l6Pad.mono _ _ _
      | exact LeO.none _
      | refine LeO.ite ?_ ?_
      | refine LeO.bind ?_ (fun _ => ?_)
set_option maxHeartbeats 8000000 in
set_option maxRecDepth 100000 in
theorem spec_SealOf.calls (k : Nat) (a0 : ByteArray) (a1 : ByteArray) (r : ByteArray) (w : World) (h : spec_SealOf.f k a0 a1 = some r) :
    Calls Tryd.prog 14 #[.string a0, .string a1] w fun e w' => e = .returned (.string r) ∧ Below w.heap.size w w' := by
  have HB := Aside0.mk (Below.refl w.heap.size w)
  have H : ((spec_l6Key.f a0).bind fun t101 => (if t101 = true then ((spec_l6Pad.f k a0 92).bind fun t102 => ((spec_l6Pad.f k a0 54).bind fun t103 => (if t103.size + a1.size ≤ 9223372036854775807 then ((spec_l6Sum.f (t103 ++ a1)).bind fun t104 => (if t102.size + t104.size ≤ 9223372036854775807 then ((spec_l6Sum.f (t102 ++ t104)).bind fun t105 => ((spec_l6Hex.f k t105).bind fun t106 => (some t106))) else (none))) else (none)))) else (some (⟨#[]⟩ : ByteArray)))) = some r := h
  clear h
  replace H := Option.bind_eq_some_iff.mp H
  obtain ⟨t101, A30, H⟩ := H
  replace H : (if t101 = true then ((spec_l6Pad.f k a0 92).bind fun t102 => ((spec_l6Pad.f k a0 54).bind fun t103 => (if t103.size + a1.size ≤ 9223372036854775807 then ((spec_l6Sum.f (t103 ++ a1)).bind fun t104 => (if t102.size + t104.size ≤ 9223372036854775807 then ((spec_l6Sum.f (t102 ++ t104)).bind fun t105 => ((spec_l6Hex.f k t105).bind fun t106 => (some t106))) else (none))) else (none)))) else (some (⟨#[]⟩ : ByteArray))) = some r := H
  have A3 := Aside0.mk A30
  clear A30
  by_cases c4 : t101 = true
  · subst c4
    have H1 : ((spec_l6Pad.f k a0 92).bind fun t102 => ((spec_l6Pad.f k a0 54).bind fun t103 => (if t103.size + a1.size ≤ 9223372036854775807 then ((spec_l6Sum.f (t103 ++ a1)).bind fun t104 => (if t102.size + t104.size ≤ 9223372036854775807 then ((spec_l6Sum.f (t102 ++ t104)).bind fun t105 => ((spec_l6Hex.f k t105).bind fun t106 => (some t106))) else (none))) else (none)))) = some r := by rw [if_pos rfl] at H; exact H
    clear H
    have H := H1
    clear H1
    replace H := Option.bind_eq_some_iff.mp H
    obtain ⟨t102, A50, H⟩ := H
    replace H : ((spec_l6Pad.f k a0 54).bind fun t103 => (if t103.size + a1.size ≤ 9223372036854775807 then ((spec_l6Sum.f (t103 ++ a1)).bind fun t104 => (if t102.size + t104.size ≤ 9223372036854775807 then ((spec_l6Sum.f (t102 ++ t104)).bind fun t105 => ((spec_l6Hex.f k t105).bind fun t106 => (some t106))) else (none))) else (none))) = some r := H
    have A5 := Aside0.mk A50
    clear A50
    replace H := Option.bind_eq_some_iff.mp H
    obtain ⟨t103, A60, H⟩ := H
    replace H : (if t103.size + a1.size ≤ 9223372036854775807 then ((spec_l6Sum.f (t103 ++ a1)).bind fun t104 => (if t102.size + t104.size ≤ 9223372036854775807 then ((spec_l6Sum.f (t102 ++ t104)).bind fun t105 => ((spec_l6Hex.f k t105).bind fun t106 => (some t106))) else (none))) else (none)) = some r := H
    have A6 := Aside0.mk A60
    clear A60
    by_cases c7 : t103.size + a1.size ≤ 9223372036854775807
    · rw [if_pos c7] at H
      have c7b0 := eq_true c7
      have c7b1 : decide (t103.size + a1.size ≤ 9223372036854775807) = true := decide_eq_true c7
      try have c7b2 : (9223372036854775807 < t103.size + a1.size) = False := eq_false (Nat.not_lt.2 c7)
      replace H := Option.bind_eq_some_iff.mp H
      obtain ⟨t104, A80, H⟩ := H
      replace H : (if t102.size + t104.size ≤ 9223372036854775807 then ((spec_l6Sum.f (t102 ++ t104)).bind fun t105 => ((spec_l6Hex.f k t105).bind fun t106 => (some t106))) else (none)) = some r := H
      have A8 := Aside0.mk A80
      clear A80
      by_cases c9 : t102.size + t104.size ≤ 9223372036854775807
      · rw [if_pos c9] at H
        have c9b0 := eq_true c9
        have c9b1 : decide (t102.size + t104.size ≤ 9223372036854775807) = true := decide_eq_true c9
        try have c9b2 : (9223372036854775807 < t102.size + t104.size) = False := eq_false (Nat.not_lt.2 c9)
        replace H := Option.bind_eq_some_iff.mp H
        obtain ⟨t105, A100, H⟩ := H
        replace H : ((spec_l6Hex.f k t105).bind fun t106 => (some t106)) = some r := H
        have A10 := Aside0.mk A100
        clear A100
        replace H := Option.bind_eq_some_iff.mp H
        obtain ⟨t106, A110, H⟩ := H
        replace H : (some t106) = some r := H
        have A11 := Aside0.mk A110
        clear A110
        obtain rfl := Option.some.inj H
        go_enter Tryd.func14, Tryd.ntmps14
        go_wp2_with (first | ((with_reducible refine gate_callee (f := 42) rfl ?_); refine goesL_ (some 6) rfl rfl Tryd.func42 (by kernel_rfl) rfl #[.string a0] rfl (by (try simp only [List.map_toArray, List.map_cons, List.map_nil]); first | done | rfl | (simp only [List.length_drop, List.length_take]; rfl)) ?_; (with_reducible refine (spec_l6Key.calls a0 true _ A3.out).mono ?_); rintro e w' ⟨rfl, ⟨nd, rfl⟩⟩; refine ⟨_, rfl, ?_⟩) | ((with_reducible refine gate_callee (f := 43) rfl ?_); refine goesL_ (some 9) rfl rfl Tryd.func43 (by kernel_rfl) rfl #[.string a0, .int .u8 92] rfl (by (try simp only [List.map_toArray, List.map_cons, List.map_nil]); first | done | rfl | (simp only [List.length_drop, List.length_take]; rfl)) ?_; (with_reducible refine (spec_l6Pad.calls k a0 92 t102 _ A5.out).mono ?_); rintro e w12 ⟨rfl, hb⟩; refine ⟨_, rfl, ?_⟩; have n0_ := Aside0.mk (below_step (by repeat (first | (with_reducible first | exact HB.out | apply below_alloc | apply pw_below_drewN | apply below_drew1) | exact HB.out)) hb); clear HB; have HB := n0_; clear n0_; (try clear hb); (try clear hb2); (try clear hk); (try clear hi)) | ((with_reducible refine gate_callee (f := 43) rfl ?_); refine goesL_ (some 11) rfl rfl Tryd.func43 (by kernel_rfl) rfl #[.string a0, .int .u8 54] rfl (by (try simp only [List.map_toArray, List.map_cons, List.map_nil]); first | done | rfl | (simp only [List.length_drop, List.length_take]; rfl)) ?_; (with_reducible refine (spec_l6Pad.calls k a0 54 t103 _ A6.out).mono ?_); rintro e w13 ⟨rfl, hb⟩; refine ⟨_, rfl, ?_⟩; have n0_ := Aside0.mk (below_step (by repeat (first | (with_reducible first | exact HB.out | apply below_alloc | apply pw_below_drewN | apply below_drew1) | exact HB.out)) hb); clear HB; have HB := n0_; clear n0_; (try clear hb); (try clear hb2); (try clear hk); (try clear hi)) | ((with_reducible refine gate_callee (f := 39) rfl ?_); refine goesL_ (some 14) rfl rfl Tryd.func39 (by kernel_rfl) rfl #[.string (t103 ++ a1)] rfl (by (try simp only [List.map_toArray, List.map_cons, List.map_nil]); first | done | rfl | (simp only [List.length_drop, List.length_take]; rfl)) ?_; (with_reducible refine (spec_l6Sum.calls (t103 ++ a1) t104 _ A8.out).mono ?_); rintro e w14 ⟨rfl, hb⟩; refine ⟨_, rfl, ?_⟩; have n0_ := Aside0.mk (below_step (by repeat (first | (with_reducible first | exact HB.out | apply below_alloc | apply pw_below_drewN | apply below_drew1) | exact HB.out)) hb); clear HB; have HB := n0_; clear n0_; (try clear hb); (try clear hb2); (try clear hk); (try clear hi)) | ((with_reducible refine gate_callee (f := 39) rfl ?_); refine goesL_ (some 16) rfl rfl Tryd.func39 (by kernel_rfl) rfl #[.string (t102 ++ t104)] rfl (by (try simp only [List.map_toArray, List.map_cons, List.map_nil]); first | done | rfl | (simp only [List.length_drop, List.length_take]; rfl)) ?_; (with_reducible refine (spec_l6Sum.calls (t102 ++ t104) t105 _ A10.out).mono ?_); rintro e w15 ⟨rfl, hb⟩; refine ⟨_, rfl, ?_⟩; have n0_ := Aside0.mk (below_step (by repeat (first | (with_reducible first | exact HB.out | apply below_alloc | apply pw_below_drewN | apply below_drew1) | exact HB.out)) hb); clear HB; have HB := n0_; clear n0_; (try clear hb); (try clear hb2); (try clear hk); (try clear hi)) | ((with_reducible refine gate_callee (f := 38) rfl ?_); refine goesL_ (some 17) rfl rfl Tryd.func38 (by kernel_rfl) rfl #[.string t105] rfl (by (try simp only [List.map_toArray, List.map_cons, List.map_nil]); first | done | rfl | (simp only [List.length_drop, List.length_take]; rfl)) ?_; (with_reducible refine (spec_l6Hex.calls k t105 t106 _ A11.out).mono ?_); rintro e w16 ⟨rfl, hb⟩; refine ⟨_, rfl, ?_⟩; have n0_ := Aside0.mk (below_step (by repeat (first | (with_reducible first | exact HB.out | apply below_alloc | apply pw_below_drewN | apply below_drew1) | exact HB.out)) hb); clear HB; have HB := n0_; clear n0_; (try clear hb); (try clear hb2); (try clear hk); (try clear hi)))
        go_ret
        exact ⟨by first | rfl | (simp [errW_none, errW_some] <;> rfl) | (simp [*, errW_none, errW_some] <;> rfl), by repeat (first | (with_reducible first | exact HB.out | apply below_alloc | apply pw_below_drewN | apply below_drew1) | exact HB.out)⟩
      · rw [if_neg c9] at H
        exact absurd H (by simp)
    · rw [if_neg c7] at H
      exact absurd H (by simp)
  · replace c4 := Bool.eq_false_iff.mpr c4
    subst c4
    have H1 : (some (⟨#[]⟩ : ByteArray)) = some r := by rw [if_neg (show ¬ (false = true) by decide)] at H; exact H
    clear H
    have H := H1
    clear H1
    obtain rfl := Option.some.inj H
    go_enter Tryd.func14, Tryd.ntmps14
    go_wp2_with (first | ((with_reducible refine gate_callee (f := 42) rfl ?_); refine goesL_ (some 6) rfl rfl Tryd.func42 (by kernel_rfl) rfl #[.string a0] rfl (by (try simp only [List.map_toArray, List.map_cons, List.map_nil]); first | done | rfl | (simp only [List.length_drop, List.length_take]; rfl)) ?_; (with_reducible refine (spec_l6Key.calls a0 false _ A3.out).mono ?_); rintro e w' ⟨rfl, ⟨nd, rfl⟩⟩; refine ⟨_, rfl, ?_⟩))
    go_ret
    exact ⟨by first | rfl | (simp [errW_none, errW_some] <;> rfl) | (simp [*, errW_none, errW_some] <;> rfl), by repeat (first | (with_reducible first | exact HB.out | apply below_alloc | apply pw_below_drewN | apply below_drew1) | exact HB.out)⟩

end Go.Proofs.YtndjhgjakdkkaaaDoor.M
end

section
/- HashSum and SealOf, plain: the program's are the reference's. -/
namespace Go.Proofs.YtndjhgjakdkkaaaDoor.M
open Go.RowKit Go.Proofs.YtndjhgjakdkkaaaDoorW.PrintWords Go.Proofs.YtndjhgjakdkkaaaDoorW.PrintMore Go.Proofs.YtndjhgjakdkkaaaDoor.Pu Go.Proofs.YtndjhgjakdkkaaaDoor.Sha
set_option linter.unusedVariables false
set_option linter.unusedSimpArgs false
def hexDigits : ByteArray := ⟨#[48, 49, 50, 51, 52, 53, 54, 55, 56, 57, 97, 98, 99, 100, 101, 102]⟩
/-- The bytes in hexadecimal, as far as n. -/
def hexTo (s : ByteArray) : Nat → List Int
  | 0 => []
  | n + 1 => hexTo s n ++ [bt hexDigits (bt s (n : Int) / 16), bt hexDigits (bt s (n : Int) % 16)]
theorem hexTo_length (s : ByteArray) : ∀ n, (hexTo s n).length = 2 * n
  | 0 => rfl
  | n + 1 => by simp only [hexTo, List.length_append, hexTo_length s n, List.length_cons, List.length_nil]; omega
def hexOf (s : ByteArray) : ByteArray := strOfNums (hexTo s s.size)
theorem hex_facts (s : ByteArray) (i : Int) : Int.tdiv (bt s i) 16 % 256 = bt s i / 16 ∧ Int.tmod (bt s i) 16 = bt s i % 16 ∧ 0 ≤ bt s i / 16 ∧ bt s i / 16 < 16 ∧ 0 ≤ bt s i % 16 ∧ bt s i % 16 < 16 := by
  have h0 := bt_ge s i
  have h1 := bt_le s i
  rw [Int.tdiv_eq_ediv_of_nonneg h0, Int.tmod_eq_emod_of_nonneg h0]
  omega
theorem implHex_ev (s : ByteArray) (hs : s.size ≤ 1099511627776) : Ev (fun k => impl_hexOf.f k s) (hexOf s) := by
  unfold impl_hexOf.f
  refine fold_loop (g := fun k x i => impl_hexOf.l0 k s x i) s.size (hexTo s) _ ?_ ?_
  · intro i hi h
    apply Ev.succ
    obtain ⟨f1, f2, f3, f4, f5, f6⟩ := hex_facts s (i : Int)
    have e4 : wrap64 ((i : Int) + 1) = (i : Int) + 1 := wid (by omega) (by omega)
    simp only [impl_hexOf.l0, f1, f2, e4, Option.bind_some]
    clear e4 f1 f2
    refine Ev.ifp (by omega) (Ev.ifp (by omega) (Ev.ifp f3 (Ev.ifp f4 (Ev.ifp f5 (Ev.ifp f6 (Ev.ifp ?_ h))))))
    rw [hexTo_length]
    simp only [List.length_cons, List.length_nil]
    omega
  · apply Ev.succ
    simp only [impl_hexOf.l0]
    exact Ev.ifn (by omega) (Ev.now _)
theorem specHex_ev (s : ByteArray) (hs : s.size ≤ 1099511627776) : Ev (fun k => spec_l6Hex.f k s) (hexOf s) := by
  unfold spec_l6Hex.f
  refine fold_loop (g := fun k x i => spec_l6Hex.l0 k s hexDigits x i) s.size (hexTo s) _ ?_ ?_
  · intro i hi h
    apply Ev.succ
    obtain ⟨f1, f2, f3, f4, f5, f6⟩ := hex_facts s (i : Int)
    have e4 : wrap64 ((i : Int) + 1) = (i : Int) + 1 := wid (by omega) (by omega)
    have e5 : (hexDigits.size : Int) = 16 := rfl
    simp only [spec_l6Hex.l0, f1, f2, e4, e5, Option.bind_some]
    clear e4 f1 f2
    refine Ev.ifp (by omega) (Ev.ifp (by omega) (Ev.ifp f3 (Ev.ifp f4 (Ev.ifp f5 (Ev.ifp f6 (Ev.ifp ?_ h))))))
    rw [hexTo_length]
    simp only [List.length_cons, List.length_nil]
    omega
  · apply Ev.succ
    simp only [spec_l6Hex.l0]
    exact Ev.ifn (by omega) (Ev.now _)
def sha (s : ByteArray) : ByteArray := strOfNums (sumOf shaTab (bytesOf s))
theorem sha_size (s : ByteArray) : (sha s).size = 32 := shaOf_size s
def hashSum (s : ByteArray) : ByteArray := hexOf (sha s)
theorem implHash_ev (s : ByteArray) (hs : s.size ≤ 1099511627776) : Ev (fun k => impl_HashSum.f k s) (hashSum s) := by
  unfold impl_HashSum.f impl_sha256Of.f
  rw [if_pos hs]
  simp only [Option.bind_some]
  exact Ev.bind (implHex_ev (sha s) (by rw [sha_size]; decide)) (Ev.now _)
theorem specHash_ev (s : ByteArray) (hs : s.size ≤ 1099511627776) : Ev (fun k => spec_HashSum.f k s) (hashSum s) := by
  unfold spec_HashSum.f spec_l6Sum.f
  rw [if_pos hs]
  simp only [Option.bind_some]
  exact Ev.bind (specHex_ev (sha s) (by rw [sha_size]; decide)) (Ev.now _)
theorem pu_within (a b c : Int) : impl_within.f a b c = some (decide (b ≤ a ∧ a ≤ c)) := by
  unfold impl_within.f
  by_cases h : a ≥ b
  · have h' : b ≤ a := h
    simp [h']
  · have h' : ¬ b ≤ a := h
    simp [h']
theorem pu_l1In (a b c : Int) : spec_l1In.f a b c = some (decide (b ≤ a ∧ a ≤ c)) := by
  unfold spec_l1In.f
  by_cases h : a ≥ b
  · have h' : b ≤ a := h
    simp [h']
  · have h' : ¬ b ≤ a := h
    simp [h']
def keyB (a : ByteArray) : Bool := decide ((1 : Int) ≤ (a.size : Int) ∧ (a.size : Int) ≤ 64) && (bt a ((a.size : Int) - 1) != 0)
theorem keyB_size {a : ByteArray} (h : keyB a = true) : 1 ≤ a.size ∧ a.size ≤ 64 := by
  simp only [keyB, Bool.and_eq_true, decide_eq_true_eq] at h
  omega
theorem implKey_eq (a : ByteArray) (w : a.size ≤ 140737488355328) : impl_keyOk.f a = some (keyB a) := by
  unfold impl_keyOk.f keyB
  rw [pu_within]
  simp only [Option.bind_some]
  by_cases h : (1 : Int) ≤ (a.size : Int) ∧ (a.size : Int) ≤ 64
  · have e : wrap64 ((a.size : Int) - 1) = (a.size : Int) - 1 := wid (by omega) (by omega)
    have c0 : (0 : Int) ≤ (a.size : Int) - 1 := by omega
    have c1 : (a.size : Int) - 1 < (a.size : Int) := by omega
    simp only [e, h, c0, c1, and_self, decide_true, if_true, Bool.true_and]
  · simp only [h, decide_false, Bool.false_eq_true, if_false, Bool.false_and]
theorem specKey_eq (a : ByteArray) (w : a.size ≤ 140737488355328) : spec_l6Key.f a = some (keyB a) := by
  unfold spec_l6Key.f keyB
  rw [pu_l1In]
  simp only [Option.bind_some]
  by_cases h : (1 : Int) ≤ (a.size : Int) ∧ (a.size : Int) ≤ 64
  · have e : wrap64 ((a.size : Int) - 1) = (a.size : Int) - 1 := wid (by omega) (by omega)
    have c0 : (0 : Int) ≤ (a.size : Int) - 1 := by omega
    have c1 : (a.size : Int) - 1 < (a.size : Int) := by omega
    simp only [e, h, c0, c1, and_self, decide_true, if_true, Bool.true_and]
  · simp only [h, decide_false, Bool.false_eq_true, if_false, Bool.false_and]
theorem padB_at (key : ByteArray) (i : Nat) : (padB key).getD i 0 = if i < key.size then bt key (i : Int) else 0 := by
  simp only [padB, List.getD_eq_getElem?_getD]
  by_cases h : i < key.size
  · rw [List.getElem?_append_left (by rw [bytesOf_length]; exact h), if_pos h, bt_nat, dif_pos h]
    simp [bytesOf, h]
    rfl
  · rw [List.getElem?_append_right (by rw [bytesOf_length]; omega), if_neg h, List.getElem?_replicate]
    split <;> rfl
theorem pad_ev (key : ByteArray) (c : Int) (hk : key.size ≤ 64) : Ev (fun k => spec_l6Pad.f k key c) (padx key c) := by
  unfold spec_l6Pad.f
  have hl : ((padB key).map fun b => Go.bits .xor .u8 b c).length = 64 := by rw [List.length_map, padB_length _ hk]
  refine fold_loop (g := fun k x i => spec_l6Pad.l0 k key c x i) 64 (fun i => ((padB key).map fun b => Go.bits .xor .u8 b c).take i) _ ?_ ?_
  · intro i hi h
    apply Ev.succ
    have e4 : wrap64 ((i : Int) + 1) = (i : Int) + 1 := wid (by omega) (by omega)
    have hsn : ((padB key).map fun b => Go.bits .xor .u8 b c).take (i + 1) = ((padB key).map fun b => Go.bits .xor .u8 b c).take i ++ [Go.bits .xor .u8 ((padB key).getD i 0) c] := by
      rw [List.take_succ_eq_append_getElem (by omega)]
      have hi2 : i < (padB key).length := by rw [padB_length _ hk]; exact hi
      simp [List.getD_eq_getElem?_getD, hi2]
    rw [hsn, padB_at] at h
    have hlt : (((padB key).map fun b => Go.bits .xor .u8 b c).take i).length < 140737488355328 := by rw [List.length_take]; omega
    simp only [spec_l6Pad.l0, e4]
    clear e4
    refine Ev.ifp (by omega) ?_
    by_cases hi2 : i < key.size
    · rw [if_pos hi2] at h
      exact Ev.ifp (by omega) (Ev.ifp (by omega) (Ev.ifp hlt h))
    · rw [if_neg hi2] at h
      exact Ev.ifn (by omega) (Ev.ifp hlt h)
  · apply Ev.succ
    simp only [spec_l6Pad.l0]
    refine Ev.ifn (by omega) (Ev.cast (Ev.now _) ?_)
    rw [List.take_of_length_le (by omega)]
    rfl
theorem padx_size (key : ByteArray) (c : Int) (hk : key.size ≤ 64) : (padx key c).size = 64 := by rw [padx, strOfNums_size, List.length_map, padB_length _ hk]
def sealOf (key text : ByteArray) : ByteArray := if keyB key = true then hexOf (hmac key text) else ⟨#[]⟩
theorem implSeal_ev (key text : ByteArray) (hk : key.size ≤ 140737488355328) (ht : text.size ≤ 549755813888) : Ev (fun k => impl_SealOf.f k key text) (sealOf key text) := by
  unfold impl_SealOf.f sealOf
  rw [implKey_eq key hk]
  simp only [Option.bind_some]
  by_cases h : keyB key = true
  · rw [if_pos h]
    refine Ev.ifp h ?_
    unfold impl_hmacOf.f
    rw [if_pos (keyB_size h).2, if_pos ht]
    simp only [Option.bind_some]
    exact Ev.bind (implHex_ev _ (by rw [hmac, shaOf_size]; decide)) (Ev.now _)
  · rw [if_neg h]
    exact Ev.ifn h (Ev.now _)
theorem specSeal_ev (key text : ByteArray) (hk : key.size ≤ 140737488355328) (ht : text.size ≤ 549755813888) : Ev (fun k => spec_SealOf.f k key text) (sealOf key text) := by
  unfold spec_SealOf.f sealOf
  rw [specKey_eq key hk]
  simp only [Option.bind_some]
  by_cases h : keyB key = true
  · rw [if_pos h]
    have hk2 := (keyB_size h).2
    refine Ev.ifp h (Ev.bind (pad_ev key 92 hk2) (Ev.bind (pad_ev key 54 hk2) (Ev.ifp ?_ ?_)))
    · rw [padx_size _ _ hk2]; omega
    unfold spec_l6Sum.f
    rw [if_pos (show (padx key 54 ++ text).size ≤ 1099511627776 by rw [ByteArray.size_append, padx_size _ _ hk2]; omega)]
    simp only [Option.bind_some]
    refine Ev.ifp ?_ ?_
    · rw [padx_size _ _ hk2, show (strOfNums (sumOf shaTab (bytesOf (padx key 54 ++ text)))).size = 32 from sha_size _]; decide
    rw [if_pos (show (padx key 92 ++ strOfNums (sumOf shaTab (bytesOf (padx key 54 ++ text)))).size ≤ 1099511627776 by rw [ByteArray.size_append, padx_size _ _ hk2, show (strOfNums (sumOf shaTab (bytesOf (padx key 54 ++ text)))).size = 32 from sha_size _]; decide)]
    simp only [Option.bind_some]
    exact Ev.bind (specHex_ev _ (by rw [show (strOfNums (sumOf shaTab (bytesOf (padx key 92 ++ strOfNums (sumOf shaTab (bytesOf (padx key 54 ++ text))))))).size = 32 from sha_size _]; decide)) (Ev.now _)
  · rw [if_neg h]
    exact Ev.ifn h (Ev.now _)
end Go.Proofs.YtndjhgjakdkkaaaDoor.M
end

section
/- The reader that draws: its picks stay in their range. -/
namespace Go.Proofs.YtndjhgjakdkkaaaDoor.M
open Go.RowKit Go.Proofs.YtndjhgjakdkkaaaDoorW.PrintWords Go.Proofs.YtndjhgjakdkkaaaDoor.Pu
set_option linter.unusedVariables false
set_option linter.unusedSimpArgs false

/-- A code: bytes, not too many. -/
def Code (s : List Int) : Prop := (∀ b ∈ s, 0 ≤ b ∧ b ≤ 255) ∧ s.length ≤ 2000
theorem wraps_i64 (n : Int) (h₀ : 0 ≤ n) (h₁ : n < 2 ^ 62) : IntKind.i64.wrap n = n := by rw [IntKind.wrap_i64]; omega
theorem xor_nat (a b : Nat) (ha : a < 2 ^ 62) (hb : b < 2 ^ 62) : Go.bits .xor .i64 (a : Int) (b : Int) = ((a ^^^ b : Nat) : Int) := by
  have h2 : 2 ^ 62 ≤ 2 ^ IntKind.i64.bits := Nat.pow_le_pow_right (by decide) (by decide)
  have ha' : a % 2 ^ IntKind.i64.bits = a := Nat.mod_eq_of_lt (Nat.lt_of_lt_of_le ha h2)
  have hb' : b % 2 ^ IntKind.i64.bits = b := Nat.mod_eq_of_lt (Nat.lt_of_lt_of_le hb h2)
  simp only [Go.bits, BitVec.ofInt_natCast, BitVec.toNat_xor, BitVec.toNat_ofNat, ha', hb']
  exact wraps_i64 _ (Int.natCast_nonneg _) (by exact_mod_cast Nat.xor_lt_two_pow ha hb)
theorem xor_ge (a b : Int) (ha : 0 ≤ a) (hb : 0 ≤ b) (ha1 : a < 2 ^ 62) (hb1 : b < 2 ^ 62) : 0 ≤ Go.bits .xor .i64 a b := by
  obtain ⟨m, rfl⟩ := Int.eq_ofNat_of_zero_le ha
  obtain ⟨n, rfl⟩ := Int.eq_ofNat_of_zero_le hb
  rw [xor_nat m n (by exact_mod_cast ha1) (by exact_mod_cast hb1)]
  exact Int.natCast_nonneg _
theorem code_rd {s : List Int} (h : Code s) (i : Int) : 0 ≤ rd s i ∧ rd s i ≤ 255 := by
  unfold rd
  rw [List.getD_eq_getElem?_getD]
  cases e : s[i.toNat]? with
  | none => simp
  | some b => exact h.1 b (List.mem_of_getElem? e)
theorem l1Open_eq (s : List Int) (hs : ∀ b ∈ s, 0 ≤ b ∧ b ≤ 255) : ∃ s', spec_l1Open.f s = some (s', 0) ∧ Code s' := by
  unfold spec_l1Open.f
  by_cases c : (s.length : Int) > 2000
  · have c2 : (2000 : Int) ≤ (s.length : Int) := by omega
    rw [if_pos c, if_pos c2]
    exact ⟨_, rfl, fun b hb => hs b (List.mem_of_mem_take hb), List.length_take_le _ _⟩
  · rw [if_neg c]
    exact ⟨_, rfl, hs, by omega⟩
theorem pick_ev (s : List Int) (hs : Code s) (p n : Int) (hp0 : 0 ≤ p) (hp1 : p ≤ 1000000000) (hn : n ≤ 1000000) :
    ∃ r, Ev (fun k => spec_l1Rd_pick.f k s p n) (r, p + 1) ∧ 0 ≤ r ∧ (1 ≤ n → r < n) ∧ (n < 1 → r = 0) := by
  have w1 : Aside0 (wrap64 (p + 1) = p + 1) := ⟨wid (by omega) (by omega)⟩
  have w2 : Aside0 (wrap64 (p + 1 - 1) = p) := ⟨by rw [wid (by omega) (by omega)]; omega⟩
  unfold spec_l1Rd_pick.f
  by_cases c : n < 1
  · refine ⟨0, ?_, Int.le_refl _, fun h => by omega, fun _ => rfl⟩
    simp only [c, if_true, w1.out]
    apply Ev.succ
    simp only [spec_l1Rd_pick.j0, if_true]
    exact Ev.now _
  · simp only [c, if_false, w1.out]
    by_cases z : s.length = 0
    · refine ⟨0, ?_, Int.le_refl _, fun h => by omega, fun _ => rfl⟩
      have z1 : ((s.length : Int) == 0) = true := by rw [beq_iff_eq]; omega
      apply Ev.succ
      simp only [spec_l1Rd_pick.j0, z1, if_true]
      exact Ev.now _
    · have z1 : ((s.length : Int) == 0) = false := by rw [beq_eq_false_iff_ne]; omega
      have n0 : ¬ n = 0 := by omega
      have hl := hs.2
      have tm : ∀ x : Int, 0 ≤ x → 0 ≤ Int.tmod x n ∧ Int.tmod x n < n := fun x hx => ⟨Int.tmod_nonneg _ hx, Int.tmod_lt_of_pos _ (by omega)⟩
      by_cases q : p < (s.length : Int)
      · have r0 := code_rd hs p
        have w3 : Aside0 (wrap64 (rd s p) = rd s p) := ⟨wid (by omega) (by omega)⟩
        refine ⟨Int.tmod (rd s p) n, ?_, (tm _ r0.1).1, fun _ => (tm _ r0.1).2, fun h => by first | exact absurd h c | exact h.elim⟩
        apply Ev.succ
        simp only [spec_l1Rd_pick.j0, z1, Bool.false_eq_true, if_false, w2.out, q, hp0, n0, w3.out, if_true]
        exact Ev.now _
      · have l0 : ¬ (s.length : Int) = 0 := by omega
        have m1 : 0 ≤ Int.tmod p (s.length : Int) ∧ Int.tmod p (s.length : Int) < (s.length : Int) := ⟨Int.tmod_nonneg _ hp0, Int.tmod_lt_of_pos _ (by omega)⟩
        have w7 : Aside0 (wrap64 (p * 7) = p * 7) := ⟨wid (by omega) (by omega)⟩
        have w8 : Aside0 (wrap64 (p * 7 + 3) = p * 7 + 3) := ⟨wid (by omega) (by omega)⟩
        have m2 : 0 ≤ Int.tmod (p * 7 + 3) (s.length : Int) ∧ Int.tmod (p * 7 + 3) (s.length : Int) < (s.length : Int) := ⟨Int.tmod_nonneg _ (by omega), Int.tmod_lt_of_pos _ (by omega)⟩
        generalize hA : Int.tmod p (s.length : Int) = A at m1
        generalize hB : Int.tmod (p * 7 + 3) (s.length : Int) = B at m2
        have ra := code_rd hs A
        have rb := code_rd hs B
        generalize hX : rd s A = X at ra
        generalize hY : rd s B = Y at rb
        have hd : 0 ≤ Int.tdiv p (s.length : Int) ∧ Int.tdiv p (s.length : Int) ≤ p := by
          refine ⟨Int.tdiv_nonneg hp0 (by omega), ?_⟩
          rw [Int.tdiv_eq_ediv_of_nonneg hp0]
          exact Int.ediv_le_self _ hp0
        generalize hD : Int.tdiv p (s.length : Int) = D at hd
        have v1 : Aside0 (wrap64 X = X) := ⟨wid (by omega) (by omega)⟩
        have v2 : Aside0 (wrap64 (X * 131) = X * 131) := ⟨wid (by omega) (by omega)⟩
        have v3 : Aside0 (wrap64 Y = Y) := ⟨wid (by omega) (by omega)⟩
        have v4 : Aside0 (wrap64 (Y * 1117) = Y * 1117) := ⟨wid (by omega) (by omega)⟩
        have v5 : Aside0 (wrap64 (X * 131 + Y * 1117) = X * 131 + Y * 1117) := ⟨wid (by omega) (by omega)⟩
        have v6 : Aside0 (wrap64 (p * 29) = p * 29) := ⟨wid (by omega) (by omega)⟩
        have v7 : Aside0 (wrap64 (X * 131 + Y * 1117 + p * 29) = X * 131 + Y * 1117 + p * 29) := ⟨wid (by omega) (by omega)⟩
        have v8 : Aside0 (wrap64 D = D) := ⟨wid (by omega) (by omega)⟩
        have v9 : Aside0 (wrap64 (D * 53) = D * 53) := ⟨wid (by omega) (by omega)⟩
        have v10 : Aside0 (wrap64 (X * 131 + Y * 1117 + p * 29 + D * 53) = X * 131 + Y * 1117 + p * 29 + D * 53) := ⟨wid (by omega) (by omega)⟩
        generalize hS : X * 131 + Y * 1117 + p * 29 + D * 53 = S at v10
        have hS0 : 0 ≤ S ∧ S ≤ 1000000000000 := by omega
        have hq : 0 ≤ Int.tdiv S 64 ∧ Int.tdiv S 64 ≤ S := by
          refine ⟨Int.tdiv_nonneg hS0.1 (by omega), ?_⟩
          rw [Int.tdiv_eq_ediv_of_nonneg hS0.1]
          exact Int.ediv_le_self _ hS0.1
        have v11 : Aside0 (wrap64 (Int.tdiv S 64) = Int.tdiv S 64) := ⟨wid (by omega) (by omega)⟩
        have hx := xor_ge S (Int.tdiv S 64) hS0.1 hq.1 (by omega) (by omega)
        refine ⟨Int.tmod (Go.bits .xor .i64 S (Int.tdiv S 64)) n, ?_, (tm _ hx).1, fun _ => (tm _ hx).2, fun h => by first | exact absurd h c | exact h.elim⟩
        apply Ev.succ
        simp only [spec_l1Rd_pick.j0, z1, Bool.false_eq_true, if_false, w2.out, q, l0, w7.out, w8.out, hA, hB, m1.1, m1.2, m2.1, m2.2, n0, hX, hY, hD, v1.out, v2.out, v3.out, v4.out, v5.out, v6.out, v7.out, v8.out, v9.out, hS, v10.out, v11.out, if_true]
        exact Ev.now _
theorem of_ev (s : List Int) (hs : Code s) (p : Int) (hp0 : 0 ≤ p) (hp1 : p ≤ 1000000000) (l : List ByteArray) (hl : 1 ≤ l.length) (hl2 : l.length ≤ 1000000) :
    ∃ x, Ev (fun k => spec_l1Rd_of.f k s p l) (x, p + 1) ∧ x ∈ l := by
  obtain ⟨r, hr, h0, h1, _⟩ := pick_ev s hs p (l.length : Int) hp0 hp1 (by omega)
  have h2 := h1 (by omega)
  refine ⟨rdOf ByteArray.empty l r, ?_, ?_⟩
  · unfold spec_l1Rd_of.f
    refine Ev.bind hr ?_
    simp only [h0, h2, if_true]
    exact Ev.now _
  · unfold rdOf
    rw [List.getD_eq_getElem?_getD, List.getElem?_eq_getElem (show r.toNat < l.length by omega)]
    exact List.getElem_mem _
end Go.Proofs.YtndjhgjakdkkaaaDoor.M
end

section
-- Printed for this claim by a program (mprint.py) that uses the kit's print; Lean checks it.
namespace Go.Proofs.YtndjhgjakdkkaaaDoor.M
open Go.RowKit Go.Proofs.YtndjhgjakdkkaaaDoorW.PrintWords Go.Proofs.YtndjhgjakdkkaaaDoorW.PrintLast Go.Proofs.YtndjhgjakdkkaaaDoorW.PrintMore
attribute [local go_sem] max2_int min2_int max_two min_two max_three min_three max_four min_four   -- for this text's walks alone
set_option linter.unusedVariables false
set_option linter.unusedSimpArgs false

/-! ### spec_l1Least: function 72 -/
def spec_l1Least.f (a0 : Int) (a1 : Int) : Option (Int) := if a0 < a1 then (some a0) else (some a1)
set_option maxHeartbeats 8000000 in
set_option maxRecDepth 100000 in
theorem spec_l1Least.calls (a0 : Int) (a1 : Int) (r : Int) (w : World) (h : spec_l1Least.f a0 a1 = some r) :
    Calls Tryd.prog 72 #[.int .i64 a0, .int .i64 a1] w fun e w' => e = .returned (.int .i64 r) ∧ Drawn0 w w' := by
  have H : (if a0 < a1 then (some a0) else (some a1)) = some r := h
  clear h
  by_cases c3 : a0 < a1
  · rw [if_pos c3] at H
    have c3b0 : decide (a0 < a1) = true := decide_eq_true c3
    clear c3
    obtain rfl := Option.some.inj H
    go_enter Tryd.func72, Tryd.ntmps72
    go_wp2
    go_ret
    exact ⟨by first | rfl | (simp; done) | (simp [*]; done), by repeat (first | exact Drawn0.refl _ | apply Drawn0.step)⟩
  · rw [if_neg c3] at H
    have c3b0 : decide (a0 < a1) = false := decide_eq_false c3
    clear c3
    obtain rfl := Option.some.inj H
    go_enter Tryd.func72, Tryd.ntmps72
    go_wp2
    go_ret
    exact ⟨by first | rfl | (simp; done) | (simp [*]; done), by repeat (first | exact Drawn0.refl _ | apply Drawn0.step)⟩

end Go.Proofs.YtndjhgjakdkkaaaDoor.M
end

section
-- Printed for this claim by a program (mprint.py) that uses the kit's print; Lean checks it.
namespace Go.Proofs.YtndjhgjakdkkaaaDoor.M
open Go.RowKit Go.Proofs.YtndjhgjakdkkaaaDoorW.PrintWords Go.Proofs.YtndjhgjakdkkaaaDoorW.PrintLast Go.Proofs.YtndjhgjakdkkaaaDoorW.PrintMore
attribute [local go_sem] max2_int min2_int max_two min_two max_three min_three max_four min_four   -- for this text's walks alone
set_option linter.unusedVariables false
set_option linter.unusedSimpArgs false

/-! ### spec_l13Word: function 50 -/
def spec_l13Word.l0 : Nat → ByteArray → Int → List Int → Int → Option (ByteArray × Int)
  | 0, _, _, _, _ => none
  | k + 1, x3, x4, x1000, x1001 => if x4 > 0 then ((spec_l1Rd_of.f k x1000 x1001 (([(⟨#[97]⟩ : ByteArray), (⟨#[98]⟩ : ByteArray), (⟨#[99]⟩ : ByteArray), (⟨#[97, 98]⟩ : ByteArray), (⟨#[116]⟩ : ByteArray)] : List ByteArray))).bind fun bt108 => (if x3.size + bt108.1.size ≤ 9223372036854775807 then (spec_l13Word.l0 k (x3 ++ bt108.1) (wrap64 (x4 - 1)) x1000 bt108.2) else (none))) else ((spec_l1Least.f (x3.size : Int) 12).bind fun t110 => (if 0 ≤ t110 then (if t110 ≤ (x3.size : Int) then (some (x3.extract 0 (t110 : Int).toNat, x1001)) else (none)) else (none)))
def spec_l13Word.f (k : Nat) (s0_0 : List Int) (s0_1 : Int) : Option (ByteArray × Int) := (spec_l1Rd_pick.f k s0_0 s0_1 3).bind fun bt101 => (if bt101.1 = 0 then ((spec_l1Rd_pick.f k s0_0 bt101.2 5).bind fun bt103 => (spec_l13Word.l0 k (⟨#[]⟩ : ByteArray) (wrap64 (1 + bt103.1)) s0_0 bt103.2)) else ((spec_l1Rd_of.f k s0_0 bt101.2 (([(⟨#[99, 97, 116]⟩ : ByteArray), (⟨#[99, 97, 116, 115]⟩ : ByteArray), (⟨#[97, 99, 116]⟩ : ByteArray), (⟨#[100, 111]⟩ : ByteArray), (⟨#[100, 111, 105, 110, 103]⟩ : ByteArray), (⟨#[103, 111]⟩ : ByteArray), (⟨#[117, 110, 100, 111]⟩ : ByteArray), (⟨#[116, 114, 121]⟩ : ByteArray), (⟨#[116, 114, 105, 101, 115]⟩ : ByteArray), (⟨#[97]⟩ : ByteArray), (⟨#[98, 97, 107, 101]⟩ : ByteArray), (⟨#[98, 97, 107, 105, 110, 103]⟩ : ByteArray), (⟨#[116, 97, 99, 116]⟩ : ByteArray), (⟨#[99, 97, 114, 116]⟩ : ByteArray), (⟨#[97, 98, 99, 97, 98, 99, 97, 98, 99, 97, 98, 99]⟩ : ByteArray)] : List ByteArray))).bind fun bt114 => (some (bt114.1, bt114.2))))
theorem spec_l13Word.mono_l : ∀ k, (∀ y0 y1 y2 y3, LeO (spec_l13Word.l0 k y0 y1 y2 y3) (spec_l13Word.l0 (k + 1) y0 y1 y2 y3))
  | 0 => fun _ _ _ _ r h => by simp [spec_l13Word.l0] at h
  | k + 1 => by
    have ih0 := spec_l13Word.mono_l k
    · intro y0 y1 y2 y3
      unfold spec_l13Word.l0
      repeat' first
      | (with_reducible exact ih0 _ _ _ _)
      | (with_reducible exact spec_l1Rd_of.mono _ _ _ _)
      | (with_reducible exact spec_l1Rd_pick.mono _ _ _ _)
      | (with_reducible exact LeO.refl _)
      | (with_reducible exact LeO.none _)
      | (with_reducible refine LeO.ite ?_ ?_)
      | (with_reducible refine LeO.bind ?_ (fun _ => ?_))
      | exact ih0 _ _ _ _
      | exact spec_l1Rd_of.mono _ _ _ _
      | exact spec_l1Rd_pick.mono _ _ _ _
      | exact LeO.none _
      | refine LeO.ite ?_ ?_
      | refine LeO.bind ?_ (fun _ => ?_)
theorem spec_l13Word.mono : ∀ a0 a1 k, LeO (spec_l13Word.f k a0 a1) (spec_l13Word.f (k + 1) a0 a1) := by
  intro a0 a1 k
  have ih0 := spec_l13Word.mono_l k
  unfold spec_l13Word.f
  repeat' first
      | (with_reducible exact ih0 _ _ _ _)
      | (with_reducible exact spec_l1Rd_of.mono _ _ _ _)
      | (with_reducible exact spec_l1Rd_pick.mono _ _ _ _)
      | (with_reducible exact LeO.refl _)
      | (with_reducible exact LeO.none _)
      | (with_reducible refine LeO.ite ?_ ?_)
      | (with_reducible refine LeO.bind ?_ (fun _ => ?_))
      | exact ih0 _ _ _ _
      | exact spec_l1Rd_of.mono _ _ _ _
      | exact spec_l1Rd_pick.mono _ _ _ _
      | exact LeO.none _
      | refine LeO.ite ?_ ?_
      | refine LeO.bind ?_ (fun _ => ?_)
set_option maxHeartbeats 8000000 in
set_option maxRecDepth 100000 in
theorem spec_l13Word.calls (k : Nat) (g : Nat) (s0_0 : List Int) (s0_1 : Int) (r1 : ByteArray) (r2 : Int) (w0 w : World) (hI : IsS77 w0 w g s0_0 s0_1) (hB : Below w0.heap.size w0 w) (h : spec_l13Word.f k s0_0 s0_1 = some (r1, r2)) :
    Calls Tryd.prog 50 #[.pointer (some ⟨g, 0, none⟩)] w fun e w' => e = .returned (.string r1) ∧ IsS77 w0 w' g s0_0 r2 ∧ Below w0.heap.size w0 w' ∧ KeepBut w w' g none := by
  have HI0 := Aside0.mk hI
  have HK := Aside0.mk (KeepBut.refl w g none)
  have HL := Aside0.mk hB.size
  clear hI
  have HW0 := Aside0.mk hB.size
  have HB := Aside0.mk hB
  clear hB
  have H : ((spec_l1Rd_pick.f k s0_0 s0_1 3).bind fun bt101 => (if bt101.1 = 0 then ((spec_l1Rd_pick.f k s0_0 bt101.2 5).bind fun bt103 => (spec_l13Word.l0 k (⟨#[]⟩ : ByteArray) (wrap64 (1 + bt103.1)) s0_0 bt103.2)) else ((spec_l1Rd_of.f k s0_0 bt101.2 (([(⟨#[99, 97, 116]⟩ : ByteArray), (⟨#[99, 97, 116, 115]⟩ : ByteArray), (⟨#[97, 99, 116]⟩ : ByteArray), (⟨#[100, 111]⟩ : ByteArray), (⟨#[100, 111, 105, 110, 103]⟩ : ByteArray), (⟨#[103, 111]⟩ : ByteArray), (⟨#[117, 110, 100, 111]⟩ : ByteArray), (⟨#[116, 114, 121]⟩ : ByteArray), (⟨#[116, 114, 105, 101, 115]⟩ : ByteArray), (⟨#[97]⟩ : ByteArray), (⟨#[98, 97, 107, 101]⟩ : ByteArray), (⟨#[98, 97, 107, 105, 110, 103]⟩ : ByteArray), (⟨#[116, 97, 99, 116]⟩ : ByteArray), (⟨#[99, 97, 114, 116]⟩ : ByteArray), (⟨#[97, 98, 99, 97, 98, 99, 97, 98, 99, 97, 98, 99]⟩ : ByteArray)] : List ByteArray))).bind fun bt114 => (some (bt114.1, bt114.2))))) = some (r1, r2) := h
  clear h
  replace H := Option.bind_eq_some_iff.mp H
  obtain ⟨⟨t101, t102⟩, A20, H⟩ := H
  replace H : (if t101 = 0 then ((spec_l1Rd_pick.f k s0_0 t102 5).bind fun bt103 => (spec_l13Word.l0 k (⟨#[]⟩ : ByteArray) (wrap64 (1 + bt103.1)) s0_0 bt103.2)) else ((spec_l1Rd_of.f k s0_0 t102 (([(⟨#[99, 97, 116]⟩ : ByteArray), (⟨#[99, 97, 116, 115]⟩ : ByteArray), (⟨#[97, 99, 116]⟩ : ByteArray), (⟨#[100, 111]⟩ : ByteArray), (⟨#[100, 111, 105, 110, 103]⟩ : ByteArray), (⟨#[103, 111]⟩ : ByteArray), (⟨#[117, 110, 100, 111]⟩ : ByteArray), (⟨#[116, 114, 121]⟩ : ByteArray), (⟨#[116, 114, 105, 101, 115]⟩ : ByteArray), (⟨#[97]⟩ : ByteArray), (⟨#[98, 97, 107, 101]⟩ : ByteArray), (⟨#[98, 97, 107, 105, 110, 103]⟩ : ByteArray), (⟨#[116, 97, 99, 116]⟩ : ByteArray), (⟨#[99, 97, 114, 116]⟩ : ByteArray), (⟨#[97, 98, 99, 97, 98, 99, 97, 98, 99, 97, 98, 99]⟩ : ByteArray)] : List ByteArray))).bind fun bt114 => (some (bt114.1, bt114.2)))) = some (r1, r2) := H
  have A2 := Aside0.mk A20
  clear A20
  by_cases c3 : t101 = 0
  · rw [if_pos c3] at H
    have c3b0 : (t101 == 0) = true := beq_iff_eq.mpr c3
    have c3b1 : (t101 != 0) = false := bne_eq_false_iff_eq.mpr c3
    clear c3
    replace H := Option.bind_eq_some_iff.mp H
    obtain ⟨⟨t103, t104⟩, A40, H⟩ := H
    replace H : (spec_l13Word.l0 k (⟨#[]⟩ : ByteArray) (wrap64 (1 + t103)) s0_0 t104) = some (r1, r2) := H
    have A4 := Aside0.mk A40
    clear A40
    have H' := Aside0.mk H
    clear H
    go_enter Tryd.func50, Tryd.ntmps50
    go_wp2_with (first | ((with_reducible refine gate_callee (f := 52) rfl ?_); refine goesL_ (some 6) rfl rfl Tryd.func52 (by kernel_rfl) rfl #[.pointer (some ⟨g, 0, none⟩), .int .i64 3] rfl (by (try simp only [List.map_toArray, List.map_cons, List.map_nil]); first | done | rfl | (simp only [List.length_drop, List.length_take]; rfl)) ?_; (with_reducible refine (spec_l1Rd_pick.calls k g s0_0 s0_1 3 t101 t102 w0 _ ?side1 ?side2 A2.out).mono ?_); (case side1 => repeat (first | (with_reducible first | exact HI0.out | apply IsS77.alloc | apply IsS77.drewN | apply IsS77.drew | apply IsS77.set_1) | exact HI0.out)); (case side2 => repeat (first | (with_reducible first | exact HB.out | apply below_alloc | apply pw_below_drewN | apply below_drew1 | refine below_set ?_ (IsS77.ge HI0.out)) | exact HB.out)); rintro e w5 ⟨rfl, hi, hb, hk⟩; refine ⟨_, rfl, ?_⟩; have n0_ := Aside0.mk (KeepBut.trans (by repeat (first | (with_reducible first | exact HK.out | apply KeepBut.set_ | apply keep_drewN | apply keep_drew | apply keep_alloc) | exact HK.out)) hk (.inl rfl)); have n1_ := Aside0.mk (hb); have n2_ := Aside0.mk (hi); clear HK; clear HB; clear HI0; have HK := n0_; have HB := n1_; have HI0 := n2_; clear n0_ n1_ n2_; (try clear hb); (try clear hb2); (try clear hk); (try clear hi)) | ((with_reducible refine gate_callee (f := 52) rfl ?_); refine goesL_ (some 9) rfl rfl Tryd.func52 (by kernel_rfl) rfl #[.pointer (some ⟨g, 0, none⟩), .int .i64 5] rfl (by (try simp only [List.map_toArray, List.map_cons, List.map_nil]); first | done | rfl | (simp only [List.length_drop, List.length_take]; rfl)) ?_; (with_reducible refine (spec_l1Rd_pick.calls k g s0_0 t102 5 t103 t104 w0 _ ?side1 ?side2 A4.out).mono ?_); (case side1 => repeat (first | (with_reducible first | exact HI0.out | apply IsS77.alloc | apply IsS77.drewN | apply IsS77.drew | apply IsS77.set_1) | exact HI0.out)); (case side2 => repeat (first | (with_reducible first | exact HB.out | apply below_alloc | apply pw_below_drewN | apply below_drew1 | refine below_set ?_ (IsS77.ge HI0.out)) | exact HB.out)); rintro e w6 ⟨rfl, hi, hb, hk⟩; refine ⟨_, rfl, ?_⟩; have n0_ := Aside0.mk (KeepBut.trans (by repeat (first | (with_reducible first | exact HK.out | apply KeepBut.set_ | apply keep_drewN | apply keep_drew | apply keep_alloc) | exact HK.out)) hk (.inl rfl)); have n1_ := Aside0.mk (hb); have n2_ := Aside0.mk (hi); clear HK; clear HB; clear HI0; have HK := n0_; have HB := n1_; have HI0 := n2_; clear n0_ n1_ n2_; (try clear hb); (try clear hb2); (try clear hk); (try clear hi)))
    go_loopg [3, 4] k (fun kq v3 v4 w' => ∃ (x3_1 : ByteArray) (x4_1 : Int) (x1001_1 : Int), v3 = .string x3_1 ∧ v4 = .int .i64 x4_1 ∧ Aside0 (spec_l13Word.l0 kq x3_1 x4_1 s0_0 x1001_1 = some (r1, r2)) ∧ Aside0 (kq ≤ k) ∧ Aside0 (IsS77 w0 w' g s0_0 x1001_1) ∧ Aside0 (KeepBut w w' g none) ∧ Aside0 (Below w0.heap.size w0 w'))
    case atStart => exact ⟨((⟨#[]⟩ : ByteArray)), (wrap64 (1 + t103)), (t104), (by first | rfl | (simp; done) | (simp [*]; done)), (by first | rfl | (simp; done) | (simp [*]; done)), H', ⟨Nat.le_refl _⟩, ⟨by repeat (first | (with_reducible first | exact HI0.out | apply IsS77.alloc | apply IsS77.drewN | apply IsS77.drew | apply IsS77.set_1) | exact HI0.out)⟩, ⟨by repeat (first | (with_reducible first | exact HK.out | apply KeepBut.set_ | apply keep_drewN | apply keep_drew | apply keep_alloc) | exact HK.out)⟩, ⟨by repeat (first | (with_reducible first | exact HB.out | apply below_alloc | apply pw_below_drewN | apply below_drew1 | refine below_set ?_ (IsS77.ge HI0.out)) | exact HB.out)⟩⟩
    case round =>
      clear H'
      try clear p2
      try clear c3
      try clear c3b0
      try clear c3b1
      try clear c5
      try clear p6
      obtain ⟨x3_1, x4_1, x1001_1, rfl, rfl, HA, HK1, HI0, HK, HB⟩ := hrel
      cases gk with
      | zero => exact absurd HA.out (by simp [spec_l13Word.l0])
      | succ k1 =>
        have H := HA.out
        clear HA
        simp only [spec_l13Word.l0] at H
        by_cases c7 : x4_1 > 0
        · rw [if_pos c7] at H
          have c7b0 : decide (0 < x4_1) = true := decide_eq_true c7
          clear c7
          obtain ⟨y105, hy105⟩ : ∃ y_ : List ByteArray, y_ = (([(⟨#[97]⟩ : ByteArray), (⟨#[98]⟩ : ByteArray), (⟨#[99]⟩ : ByteArray), (⟨#[97, 98]⟩ : ByteArray), (⟨#[116]⟩ : ByteArray)] : List ByteArray)) := ⟨_, rfl⟩
          replace H : ((spec_l1Rd_of.f k1 s0_0 x1001_1 y105).bind fun bt108 => (if x3_1.size + bt108.1.size ≤ 9223372036854775807 then (spec_l13Word.l0 k1 (x3_1 ++ bt108.1) (wrap64 (x4_1 - 1)) s0_0 bt108.2) else (none))) = some (r1, r2) := by first | (rw [hy105]; with_reducible exact H) | (have H2_ := (Option.bind_some _ _).symm.trans H; rw [hy105]; with_reducible exact H2_) | (have H2_ := (Option.bind_some _ _).symm.trans H; with_reducible exact H2_) | with_reducible exact H | (rw [hy105]; exact H) | exact H
          have Ny105 := Aside0.mk hy105
          clear hy105
          replace H := Option.bind_eq_some_iff.mp H
          obtain ⟨⟨t108, t109⟩, A80, H⟩ := H
          replace H : (if x3_1.size + t108.size ≤ 9223372036854775807 then (spec_l13Word.l0 k1 (x3_1 ++ t108) (wrap64 (x4_1 - 1)) s0_0 t109) else (none)) = some (r1, r2) := H
          have A8 := Aside0.mk A80
          clear A80
          by_cases c9 : x3_1.size + t108.size ≤ 9223372036854775807
          · rw [if_pos c9] at H
            have c9b0 := eq_true c9
            have c9b1 : decide (x3_1.size + t108.size ≤ 9223372036854775807) = true := decide_eq_true c9
            try have c9b2 : (9223372036854775807 < x3_1.size + t108.size) = False := eq_false (Nat.not_lt.2 c9)
            have H' := Aside0.mk H
            clear H
            go_wp2_with (first | ((with_reducible refine gate_dst (N := 17) rfl ?_); refine Kd.R_lit Kd.string _ 9 ?hg (N := 17) ?hd (xs := ([(⟨#[97]⟩ : ByteArray), (⟨#[98]⟩ : ByteArray), (⟨#[99]⟩ : ByteArray), (⟨#[97, 98]⟩ : ByteArray), (⟨#[116]⟩ : ByteArray)] : List ByteArray)) (inner := [.string (⟨#[97]⟩ : ByteArray), .string (⟨#[98]⟩ : ByteArray), .string (⟨#[99]⟩ : ByteArray), .string (⟨#[97, 98]⟩ : ByteArray), .string (⟨#[116]⟩ : ByteArray)]) (ok := fun _ => True) (okp := fun _ => True) ?hr ?hp (fun _ hk => hk) trivial (Below.refl _ _) (Nat.le_refl _) (by simp) ?_; (case hd => rfl); (case hg => rfl); (case hr => first | (go_simp; done) | (go_simp; rfl)); (case hp => exact (Reps.one (show Kd.M Kd.string _ _ _ (⟨#[97]⟩ : ByteArray) [.string (⟨#[97]⟩ : ByteArray)] from rfl) (Reps.one (show Kd.M Kd.string _ _ _ (⟨#[98]⟩ : ByteArray) [.string (⟨#[98]⟩ : ByteArray)] from rfl) (Reps.one (show Kd.M Kd.string _ _ _ (⟨#[99]⟩ : ByteArray) [.string (⟨#[99]⟩ : ByteArray)] from rfl) (Reps.one (show Kd.M Kd.string _ _ _ (⟨#[97, 98]⟩ : ByteArray) [.string (⟨#[97, 98]⟩ : ByteArray)] from rfl) (Reps.one (show Kd.M Kd.string _ _ _ (⟨#[116]⟩ : ByteArray) [.string (⟨#[116]⟩ : ByteArray)] from rfl) (Reps.none _ _))))))); intro v106 w10 ho11 hb hg_ hnew_; clear hg_ hnew_; (first | rw [← Ny105.out] at ho11 | (simp only [Int.reduceToNat] at ho11; rw [← Ny105.out] at ho11)); have n0_ := Aside0.mk (Kd.R_lower ho11 (keep_size (w := w) (g := g) (row := none) (by repeat (first | (with_reducible first | exact HK.out | apply KeepBut.set_ | apply keep_drewN | apply keep_drew | apply keep_alloc) | exact HK.out)))); have n1_ := Aside0.mk (IsS77.below (by repeat (first | (with_reducible first | exact HI0.out | apply IsS77.alloc | apply IsS77.drewN | apply IsS77.drew | apply IsS77.set_1) | exact HI0.out)) hb); have n2_ := Aside0.mk (KeepBut.trans (by repeat (first | (with_reducible first | exact HK.out | apply KeepBut.set_ | apply keep_drewN | apply keep_drew | apply keep_alloc) | exact HK.out)) (KeepBut.of_below hb g none) (.inl rfl)); have n3_ := Aside0.mk (below_step (by repeat (first | (with_reducible first | exact HB.out | apply below_alloc | apply pw_below_drewN | apply below_drew1 | refine below_set ?_ (IsS77.ge HI0.out)) | exact HB.out)) hb); clear HI0; clear HK; clear HB; have HO107 := n0_; have HI0 := n1_; have HK := n2_; have HB := n3_; clear n0_ n1_ n2_ n3_; clear hb ho11; obtain ⟨Ao12, co12, eo12⟩ := Kd.R_slice HO107.out; subst eo12) | ((with_reducible refine gate_callee (f := 48) rfl ?_); refine goesL_ (some 18) rfl rfl Tryd.func48 (by kernel_rfl) rfl #[.pointer (some ⟨g, 0, none⟩), .slice Ao12 y105.length co12] rfl (by (try simp only [List.map_toArray, List.map_cons, List.map_nil]); first | done | rfl | (simp only [List.length_drop, List.length_take]; rfl)) ?_; (with_reducible refine (spec_l1Rd_of.calls k1 g s0_0 x1001_1 _ _ y105 t108 t109 w0 _ ?side1 ?side2 ?side3 ?side4 ?side5 A8.out).mono ?_); (case side1 => repeat (first | (with_reducible first | exact HI0.out | apply IsS77.alloc | apply IsS77.drewN | apply IsS77.drew | apply IsS77.set_1) | exact HI0.out)); (case side2 => repeat (first | (with_reducible first | exact HB.out | apply below_alloc | apply pw_below_drewN | apply below_drew1 | refine below_set ?_ (IsS77.ge HI0.out)) | exact HB.out)); (case side3 => repeat (first | exact (Kd.R_reads' HO107.out).2.2 | (with_reducible refine Kd.C_alloc ?_ _) | (with_reducible refine Kd.C_drewN ?_ _) | (with_reducible refine Kd.C_drew ?_))); (case side4 => exact (Kd.R_reads' HO107.out).2.1); (case side5 => exact far_slice (IsS77.own_ne HI0.out HO107.out (by decide))); rintro e w13 ⟨rfl, hi, hb, hk⟩; refine ⟨_, rfl, ?_⟩; have n0_ := Aside0.mk (Kd.R_mono (Kd.R_keep (IsS77.apart (show IsS77 w0 _ g s0_0 x1001_1 from by repeat (first | (with_reducible first | exact HI0.out | apply IsS77.alloc | apply IsS77.drewN | apply IsS77.drew | apply IsS77.set_1) | exact HI0.out)) (by (with_reducible repeat (first | apply Kd.R_alloc | apply Kd.R_drewN | apply Kd.R_drew)); exact HO107.out) (by decide)) hk (fun _ h => h.2)) (fun _ h => h.1)); have n1_ := Aside0.mk (KeepBut.trans (by repeat (first | (with_reducible first | exact HK.out | apply KeepBut.set_ | apply keep_drewN | apply keep_drew | apply keep_alloc) | exact HK.out)) hk (.inl rfl)); have n2_ := Aside0.mk (hb); have n3_ := Aside0.mk (hi); clear HO107; clear HK; clear HB; clear HI0; have HO107 := n0_; have HK := n1_; have HB := n2_; have HI0 := n3_; clear n0_ n1_ n2_ n3_; (try clear hb); (try clear hb2); (try clear hk); (try clear hi)))
            go_roundg k1
            case measure => have := HK1.out; omega
            case rel => exact ⟨(x3_1 ++ t108), (wrap64 (x4_1 - 1)), (t109), (by first | rfl | (simp; done) | (simp [*]; done)), (by first | rfl | (simp; done) | (simp [*]; done)), H', ⟨by have := HK1.out; omega⟩, ⟨by repeat (first | (with_reducible first | exact HI0.out | apply IsS77.alloc | apply IsS77.drewN | apply IsS77.drew | apply IsS77.set_1) | exact HI0.out)⟩, ⟨by repeat (first | (with_reducible first | exact HK.out | apply KeepBut.set_ | apply keep_drewN | apply keep_drew | apply keep_alloc) | exact HK.out)⟩, ⟨by repeat (first | (with_reducible first | exact HB.out | apply below_alloc | apply pw_below_drewN | apply below_drew1 | refine below_set ?_ (IsS77.ge HI0.out)) | exact HB.out)⟩⟩
          · rw [if_neg c9] at H
            exact absurd H (by simp)
        · rw [if_neg c7] at H
          have c7b0 : decide (0 < x4_1) = false := decide_eq_false c7
          clear c7
          replace H := Option.bind_eq_some_iff.mp H
          obtain ⟨t110, A140, H⟩ := H
          replace H : (if 0 ≤ t110 then (if t110 ≤ (x3_1.size : Int) then (some (x3_1.extract 0 (t110 : Int).toNat, x1001_1)) else (none)) else (none)) = some (r1, r2) := H
          have A14 := Aside0.mk A140
          clear A140
          by_cases c15 : 0 ≤ t110
          · rw [if_pos c15] at H
            have c15b0 := eq_true c15
            have c15b1 : decide (0 ≤ t110) = true := decide_eq_true c15
            clear c15
            by_cases c16 : t110 ≤ (x3_1.size : Int)
            · rw [if_pos c16] at H
              have c16b0 := eq_true c16
              have c16b1 : decide (t110 ≤ (x3_1.size : Int)) = true := decide_eq_true c16
              clear c16
              simp only [Option.some.injEq, Prod.mk.injEq] at H
              obtain ⟨rfl, rfl⟩ := H
              go_wp2_with (first | ((with_reducible refine gate_callee (f := 72) rfl ?_); refine goesL_ (some 23) rfl rfl Tryd.func72 (by kernel_rfl) rfl #[.int .i64 (x3_1.size : Int), .int .i64 12] rfl (by (try simp only [List.map_toArray, List.map_cons, List.map_nil]); first | done | rfl | (simp only [List.length_drop, List.length_take]; rfl)) ?_; (with_reducible refine (spec_l1Least.calls (x3_1.size : Int) 12 t110 _ A14.out).mono ?_); rintro e w' ⟨rfl, ⟨nd, rfl⟩⟩; refine ⟨_, rfl, ?_⟩))
              go_ret
              exact ⟨by first | rfl | (simp [errW_none, errW_some] <;> rfl) | (simp [*, errW_none, errW_some] <;> rfl), by repeat (first | (with_reducible first | exact HI0.out | apply IsS77.alloc | apply IsS77.drewN | apply IsS77.drew | apply IsS77.set_1) | exact HI0.out), by repeat (first | (with_reducible first | exact HB.out | apply below_alloc | apply pw_below_drewN | apply below_drew1 | refine below_set ?_ (IsS77.ge HI0.out)) | exact HB.out), by repeat (first | (with_reducible first | exact HK.out | apply KeepBut.set_ | apply keep_drewN | apply keep_drew | apply keep_alloc) | exact HK.out)⟩
            · rw [if_neg c16] at H
              exact absurd H (by simp)
          · rw [if_neg c15] at H
            exact absurd H (by simp)
  · rw [if_neg c3] at H
    have c3b0 : (t101 == 0) = false := beq_eq_false_iff_ne.mpr c3
    have c3b1 : (t101 != 0) = true := bne_iff_ne.mpr c3
    obtain ⟨y111, hy111⟩ : ∃ y_ : List ByteArray, y_ = (([(⟨#[99, 97, 116]⟩ : ByteArray), (⟨#[99, 97, 116, 115]⟩ : ByteArray), (⟨#[97, 99, 116]⟩ : ByteArray), (⟨#[100, 111]⟩ : ByteArray), (⟨#[100, 111, 105, 110, 103]⟩ : ByteArray), (⟨#[103, 111]⟩ : ByteArray), (⟨#[117, 110, 100, 111]⟩ : ByteArray), (⟨#[116, 114, 121]⟩ : ByteArray), (⟨#[116, 114, 105, 101, 115]⟩ : ByteArray), (⟨#[97]⟩ : ByteArray), (⟨#[98, 97, 107, 101]⟩ : ByteArray), (⟨#[98, 97, 107, 105, 110, 103]⟩ : ByteArray), (⟨#[116, 97, 99, 116]⟩ : ByteArray), (⟨#[99, 97, 114, 116]⟩ : ByteArray), (⟨#[97, 98, 99, 97, 98, 99, 97, 98, 99, 97, 98, 99]⟩ : ByteArray)] : List ByteArray)) := ⟨_, rfl⟩
    replace H : ((spec_l1Rd_of.f k s0_0 t102 y111).bind fun bt114 => (some (bt114.1, bt114.2))) = some (r1, r2) := by first | (rw [hy111]; with_reducible exact H) | (have H2_ := (Option.bind_some _ _).symm.trans H; rw [hy111]; with_reducible exact H2_) | (have H2_ := (Option.bind_some _ _).symm.trans H; with_reducible exact H2_) | with_reducible exact H | (rw [hy111]; exact H) | exact H
    have Ny111 := Aside0.mk hy111
    clear hy111
    replace H := Option.bind_eq_some_iff.mp H
    obtain ⟨⟨t114, t115⟩, A170, H⟩ := H
    replace H : (some (t114, t115)) = some (r1, r2) := H
    have A17 := Aside0.mk A170
    clear A170
    simp only [Option.some.injEq, Prod.mk.injEq] at H
    obtain ⟨rfl, rfl⟩ := H
    go_enter Tryd.func50, Tryd.ntmps50
    go_wp2_with (first | ((with_reducible refine gate_callee (f := 52) rfl ?_); refine goesL_ (some 6) rfl rfl Tryd.func52 (by kernel_rfl) rfl #[.pointer (some ⟨g, 0, none⟩), .int .i64 3] rfl (by (try simp only [List.map_toArray, List.map_cons, List.map_nil]); first | done | rfl | (simp only [List.length_drop, List.length_take]; rfl)) ?_; (with_reducible refine (spec_l1Rd_pick.calls k g s0_0 s0_1 3 t101 t102 w0 _ ?side1 ?side2 A2.out).mono ?_); (case side1 => repeat (first | (with_reducible first | exact HI0.out | apply IsS77.alloc | apply IsS77.drewN | apply IsS77.drew | apply IsS77.set_1) | exact HI0.out)); (case side2 => repeat (first | (with_reducible first | exact HB.out | apply below_alloc | apply pw_below_drewN | apply below_drew1 | refine below_set ?_ (IsS77.ge HI0.out)) | exact HB.out)); rintro e w18 ⟨rfl, hi, hb, hk⟩; refine ⟨_, rfl, ?_⟩; have n0_ := Aside0.mk (KeepBut.trans (by repeat (first | (with_reducible first | exact HK.out | apply KeepBut.set_ | apply keep_drewN | apply keep_drew | apply keep_alloc) | exact HK.out)) hk (.inl rfl)); have n1_ := Aside0.mk (hb); have n2_ := Aside0.mk (hi); clear HK; clear HB; clear HI0; have HK := n0_; have HB := n1_; have HI0 := n2_; clear n0_ n1_ n2_; (try clear hb); (try clear hb2); (try clear hk); (try clear hi)) | ((with_reducible refine gate_dst (N := 26) rfl ?_); refine Kd.R_lit Kd.string _ 9 ?hg (N := 26) ?hd (xs := ([(⟨#[99, 97, 116]⟩ : ByteArray), (⟨#[99, 97, 116, 115]⟩ : ByteArray), (⟨#[97, 99, 116]⟩ : ByteArray), (⟨#[100, 111]⟩ : ByteArray), (⟨#[100, 111, 105, 110, 103]⟩ : ByteArray), (⟨#[103, 111]⟩ : ByteArray), (⟨#[117, 110, 100, 111]⟩ : ByteArray), (⟨#[116, 114, 121]⟩ : ByteArray), (⟨#[116, 114, 105, 101, 115]⟩ : ByteArray), (⟨#[97]⟩ : ByteArray), (⟨#[98, 97, 107, 101]⟩ : ByteArray), (⟨#[98, 97, 107, 105, 110, 103]⟩ : ByteArray), (⟨#[116, 97, 99, 116]⟩ : ByteArray), (⟨#[99, 97, 114, 116]⟩ : ByteArray), (⟨#[97, 98, 99, 97, 98, 99, 97, 98, 99, 97, 98, 99]⟩ : ByteArray)] : List ByteArray)) (inner := [.string (⟨#[99, 97, 116]⟩ : ByteArray), .string (⟨#[99, 97, 116, 115]⟩ : ByteArray), .string (⟨#[97, 99, 116]⟩ : ByteArray), .string (⟨#[100, 111]⟩ : ByteArray), .string (⟨#[100, 111, 105, 110, 103]⟩ : ByteArray), .string (⟨#[103, 111]⟩ : ByteArray), .string (⟨#[117, 110, 100, 111]⟩ : ByteArray), .string (⟨#[116, 114, 121]⟩ : ByteArray), .string (⟨#[116, 114, 105, 101, 115]⟩ : ByteArray), .string (⟨#[97]⟩ : ByteArray), .string (⟨#[98, 97, 107, 101]⟩ : ByteArray), .string (⟨#[98, 97, 107, 105, 110, 103]⟩ : ByteArray), .string (⟨#[116, 97, 99, 116]⟩ : ByteArray), .string (⟨#[99, 97, 114, 116]⟩ : ByteArray), .string (⟨#[97, 98, 99, 97, 98, 99, 97, 98, 99, 97, 98, 99]⟩ : ByteArray)]) (ok := fun _ => True) (okp := fun _ => True) ?hr ?hp (fun _ hk => hk) trivial (Below.refl _ _) (Nat.le_refl _) (by simp) ?_; (case hd => rfl); (case hg => rfl); (case hr => first | (go_simp; done) | (go_simp; rfl)); (case hp => exact (Reps.one (show Kd.M Kd.string _ _ _ (⟨#[99, 97, 116]⟩ : ByteArray) [.string (⟨#[99, 97, 116]⟩ : ByteArray)] from rfl) (Reps.one (show Kd.M Kd.string _ _ _ (⟨#[99, 97, 116, 115]⟩ : ByteArray) [.string (⟨#[99, 97, 116, 115]⟩ : ByteArray)] from rfl) (Reps.one (show Kd.M Kd.string _ _ _ (⟨#[97, 99, 116]⟩ : ByteArray) [.string (⟨#[97, 99, 116]⟩ : ByteArray)] from rfl) (Reps.one (show Kd.M Kd.string _ _ _ (⟨#[100, 111]⟩ : ByteArray) [.string (⟨#[100, 111]⟩ : ByteArray)] from rfl) (Reps.one (show Kd.M Kd.string _ _ _ (⟨#[100, 111, 105, 110, 103]⟩ : ByteArray) [.string (⟨#[100, 111, 105, 110, 103]⟩ : ByteArray)] from rfl) (Reps.one (show Kd.M Kd.string _ _ _ (⟨#[103, 111]⟩ : ByteArray) [.string (⟨#[103, 111]⟩ : ByteArray)] from rfl) (Reps.one (show Kd.M Kd.string _ _ _ (⟨#[117, 110, 100, 111]⟩ : ByteArray) [.string (⟨#[117, 110, 100, 111]⟩ : ByteArray)] from rfl) (Reps.one (show Kd.M Kd.string _ _ _ (⟨#[116, 114, 121]⟩ : ByteArray) [.string (⟨#[116, 114, 121]⟩ : ByteArray)] from rfl) (Reps.one (show Kd.M Kd.string _ _ _ (⟨#[116, 114, 105, 101, 115]⟩ : ByteArray) [.string (⟨#[116, 114, 105, 101, 115]⟩ : ByteArray)] from rfl) (Reps.one (show Kd.M Kd.string _ _ _ (⟨#[97]⟩ : ByteArray) [.string (⟨#[97]⟩ : ByteArray)] from rfl) (Reps.one (show Kd.M Kd.string _ _ _ (⟨#[98, 97, 107, 101]⟩ : ByteArray) [.string (⟨#[98, 97, 107, 101]⟩ : ByteArray)] from rfl) (Reps.one (show Kd.M Kd.string _ _ _ (⟨#[98, 97, 107, 105, 110, 103]⟩ : ByteArray) [.string (⟨#[98, 97, 107, 105, 110, 103]⟩ : ByteArray)] from rfl) (Reps.one (show Kd.M Kd.string _ _ _ (⟨#[116, 97, 99, 116]⟩ : ByteArray) [.string (⟨#[116, 97, 99, 116]⟩ : ByteArray)] from rfl) (Reps.one (show Kd.M Kd.string _ _ _ (⟨#[99, 97, 114, 116]⟩ : ByteArray) [.string (⟨#[99, 97, 114, 116]⟩ : ByteArray)] from rfl) (Reps.one (show Kd.M Kd.string _ _ _ (⟨#[97, 98, 99, 97, 98, 99, 97, 98, 99, 97, 98, 99]⟩ : ByteArray) [.string (⟨#[97, 98, 99, 97, 98, 99, 97, 98, 99, 97, 98, 99]⟩ : ByteArray)] from rfl) (Reps.none _ _))))))))))))))))); intro v112 w19 ho20 hb hg_ hnew_; clear hg_ hnew_; (first | rw [← Ny111.out] at ho20 | (simp only [Int.reduceToNat] at ho20; rw [← Ny111.out] at ho20)); have n0_ := Aside0.mk (Kd.R_lower ho20 (keep_size (w := w) (g := g) (row := none) (by repeat (first | (with_reducible first | exact HK.out | apply KeepBut.set_ | apply keep_drewN | apply keep_drew | apply keep_alloc) | exact HK.out)))); have n1_ := Aside0.mk (IsS77.below (by repeat (first | (with_reducible first | exact HI0.out | apply IsS77.alloc | apply IsS77.drewN | apply IsS77.drew | apply IsS77.set_1) | exact HI0.out)) hb); have n2_ := Aside0.mk (KeepBut.trans (by repeat (first | (with_reducible first | exact HK.out | apply KeepBut.set_ | apply keep_drewN | apply keep_drew | apply keep_alloc) | exact HK.out)) (KeepBut.of_below hb g none) (.inl rfl)); have n3_ := Aside0.mk (below_step (by repeat (first | (with_reducible first | exact HB.out | apply below_alloc | apply pw_below_drewN | apply below_drew1 | refine below_set ?_ (IsS77.ge HI0.out)) | exact HB.out)) hb); clear HI0; clear HK; clear HB; have HO113 := n0_; have HI0 := n1_; have HK := n2_; have HB := n3_; clear n0_ n1_ n2_ n3_; clear hb ho20; obtain ⟨Ao21, co21, eo21⟩ := Kd.R_slice HO113.out; subst eo21) | ((with_reducible refine gate_callee (f := 48) rfl ?_); refine goesL_ (some 27) rfl rfl Tryd.func48 (by kernel_rfl) rfl #[.pointer (some ⟨g, 0, none⟩), .slice Ao21 y111.length co21] rfl (by (try simp only [List.map_toArray, List.map_cons, List.map_nil]); first | done | rfl | (simp only [List.length_drop, List.length_take]; rfl)) ?_; (with_reducible refine (spec_l1Rd_of.calls k g s0_0 t102 _ _ y111 t114 t115 w0 _ ?side1 ?side2 ?side3 ?side4 ?side5 A17.out).mono ?_); (case side1 => repeat (first | (with_reducible first | exact HI0.out | apply IsS77.alloc | apply IsS77.drewN | apply IsS77.drew | apply IsS77.set_1) | exact HI0.out)); (case side2 => repeat (first | (with_reducible first | exact HB.out | apply below_alloc | apply pw_below_drewN | apply below_drew1 | refine below_set ?_ (IsS77.ge HI0.out)) | exact HB.out)); (case side3 => repeat (first | exact (Kd.R_reads' HO113.out).2.2 | (with_reducible refine Kd.C_alloc ?_ _) | (with_reducible refine Kd.C_drewN ?_ _) | (with_reducible refine Kd.C_drew ?_))); (case side4 => exact (Kd.R_reads' HO113.out).2.1); (case side5 => exact far_slice (IsS77.own_ne HI0.out HO113.out (by decide))); rintro e w22 ⟨rfl, hi, hb, hk⟩; refine ⟨_, rfl, ?_⟩; have n0_ := Aside0.mk (Kd.R_mono (Kd.R_keep (IsS77.apart (show IsS77 w0 _ g s0_0 t102 from by repeat (first | (with_reducible first | exact HI0.out | apply IsS77.alloc | apply IsS77.drewN | apply IsS77.drew | apply IsS77.set_1) | exact HI0.out)) (by (with_reducible repeat (first | apply Kd.R_alloc | apply Kd.R_drewN | apply Kd.R_drew)); exact HO113.out) (by decide)) hk (fun _ h => h.2)) (fun _ h => h.1)); have n1_ := Aside0.mk (KeepBut.trans (by repeat (first | (with_reducible first | exact HK.out | apply KeepBut.set_ | apply keep_drewN | apply keep_drew | apply keep_alloc) | exact HK.out)) hk (.inl rfl)); have n2_ := Aside0.mk (hb); have n3_ := Aside0.mk (hi); clear HO113; clear HK; clear HB; clear HI0; have HO113 := n0_; have HK := n1_; have HB := n2_; have HI0 := n3_; clear n0_ n1_ n2_ n3_; (try clear hb); (try clear hb2); (try clear hk); (try clear hi)))
    go_ret
    exact ⟨by first | rfl | (simp [errW_none, errW_some] <;> rfl) | (simp [*, errW_none, errW_some] <;> rfl), by repeat (first | (with_reducible first | exact HI0.out | apply IsS77.alloc | apply IsS77.drewN | apply IsS77.drew | apply IsS77.set_1) | exact HI0.out), by repeat (first | (with_reducible first | exact HB.out | apply below_alloc | apply pw_below_drewN | apply below_drew1 | refine below_set ?_ (IsS77.ge HI0.out)) | exact HB.out), by repeat (first | (with_reducible first | exact HK.out | apply KeepBut.set_ | apply keep_drewN | apply keep_drew | apply keep_alloc) | exact HK.out)⟩

end Go.Proofs.YtndjhgjakdkkaaaDoor.M
end

section
/- More of what is drawn: numbers of a list, texts n times, words. -/
namespace Go.Proofs.YtndjhgjakdkkaaaDoor.M
open Go.RowKit Go.Proofs.YtndjhgjakdkkaaaDoorW.PrintWords Go.Proofs.YtndjhgjakdkkaaaDoor.Pu
set_option linter.unusedVariables false
set_option linter.unusedSimpArgs false
theorem one_ev (s : List Int) (hs : Code s) (p : Int) (hp0 : 0 ≤ p) (hp1 : p ≤ 1000000000) (l : List Int) (hl : 1 ≤ l.length) (hl2 : l.length ≤ 1000000) :
    ∃ x, Ev (fun k => spec_l1Rd_one.f k s p l) (x, p + 1) ∧ x ∈ l := by
  obtain ⟨r, hr, h0, h1, _⟩ := pick_ev s hs p (l.length : Int) hp0 hp1 (by omega)
  have h2 := h1 (by omega)
  refine ⟨rd l r, ?_, ?_⟩
  · unfold spec_l1Rd_one.f
    refine Ev.bind hr ?_
    exact Ev.ifp h0 (Ev.ifp h2 (Ev.now _))
  · unfold rd
    rw [List.getD_eq_getElem?_getD, List.getElem?_eq_getElem (show r.toNat < l.length by omega)]
    exact List.getElem_mem _
def manyB (x : ByteArray) (n : Int) : Bool := match spec_l1Many.f 9 x n with
  | some r => decide (r.size ≤ 1000)
  | none => false
theorem many_of {x : ByteArray} {n : Int} (h : manyB x n = true) : ∃ r, Ev (fun k => spec_l1Many.f k x n) r ∧ r.size ≤ 1000 := by
  unfold manyB at h
  cases e : spec_l1Many.f 9 x n with
  | none => rw [e] at h; cases h
  | some r =>
    rw [e] at h
    exact ⟨r, Ev.of (fun k => spec_l1Many.mono x n k) e, of_decide_eq_true h⟩
def letterSet : List ByteArray := [(⟨#[97]⟩ : ByteArray), (⟨#[98]⟩ : ByteArray), (⟨#[99]⟩ : ByteArray), (⟨#[97, 98]⟩ : ByteArray), (⟨#[116]⟩ : ByteArray)]
theorem letter_size : ∀ x ∈ letterSet, x.size ≤ 2 := by decide
def wordSet : List ByteArray := [(⟨#[99, 97, 116]⟩ : ByteArray), (⟨#[99, 97, 116, 115]⟩ : ByteArray), (⟨#[97, 99, 116]⟩ : ByteArray), (⟨#[100, 111]⟩ : ByteArray), (⟨#[100, 111, 105, 110, 103]⟩ : ByteArray), (⟨#[103, 111]⟩ : ByteArray), (⟨#[117, 110, 100, 111]⟩ : ByteArray), (⟨#[116, 114, 121]⟩ : ByteArray), (⟨#[116, 114, 105, 101, 115]⟩ : ByteArray), (⟨#[97]⟩ : ByteArray), (⟨#[98, 97, 107, 101]⟩ : ByteArray), (⟨#[98, 97, 107, 105, 110, 103]⟩ : ByteArray), (⟨#[116, 97, 99, 116]⟩ : ByteArray), (⟨#[99, 97, 114, 116]⟩ : ByteArray), (⟨#[97, 98, 99, 97, 98, 99, 97, 98, 99, 97, 98, 99]⟩ : ByteArray)]
theorem word_size : ∀ x ∈ wordSet, x.size ≤ 12 := by decide
theorem least_eq (a b : Int) : spec_l1Least.f a b = some (if a < b then a else b) := by
  unfold spec_l1Least.f
  split <;> rfl
theorem word_loop (s : List Int) (hs : Code s) : ∀ (d : Nat) (x : ByteArray) (p : Int), 0 ≤ p → p + d ≤ 1000000000 → x.size + 2 * d ≤ 1000 → ∃ r, Ev (fun k => spec_l13Word.l0 k x (d : Int) s p) (r, p + d) ∧ r.size ≤ 12
  | 0, x, p, h0, h1, hx => by
    obtain ⟨t, ht⟩ : ∃ t, t = (if (x.size : Int) < 12 then (x.size : Int) else 12) := ⟨_, rfl⟩
    refine ⟨x.extract 0 t.toNat, ?_, ?_⟩
    · apply Ev.succ
      simp only [spec_l13Word.l0, least_eq, Option.bind_some, ← ht]
      refine Ev.ifn (by omega) (Ev.ifp (by split at ht <;> omega) (Ev.ifp (by split at ht <;> omega) (Ev.cast (Ev.now _) ?_)))
      simp
    · rw [ByteArray.size_extract]
      split at ht <;> omega
  | d + 1, x, p, h0, h1, hx => by
    obtain ⟨y, hy, hm⟩ := of_ev s hs p h0 (by omega) letterSet (by decide) (by decide)
    have hy2 := letter_size y hm
    obtain ⟨r, hr, hr2⟩ := word_loop s hs d (x ++ y) (p + 1) (by omega) (by omega) (by rw [ByteArray.size_append]; omega)
    refine ⟨r, ?_, hr2⟩
    have w1 : Aside0 (wrap64 (((d + 1 : Nat) : Int) - 1) = (d : Int)) := ⟨by rw [wid (by omega) (by omega)]; omega⟩
    apply Ev.succ
    simp only [spec_l13Word.l0, w1.out]
    refine Ev.ifp (by omega) (Ev.bind hy (Ev.ifp (by dsimp only; omega) ?_))
    rw [show p + ((d + 1 : Nat) : Int) = p + 1 + (d : Int) by omega]
    exact hr
theorem word_ev (s : List Int) (hs : Code s) (p : Int) (hp0 : 0 ≤ p) (hp1 : p ≤ 100000000) : ∃ x q, Ev (fun k => spec_l13Word.f k s p) (x, q) ∧ x.size ≤ 12 ∧ p ≤ q ∧ q ≤ p + 7 := by
  obtain ⟨a, ha, a0, a1, _⟩ := pick_ev s hs p 3 hp0 (by omega) (by omega)
  unfold spec_l13Word.f
  by_cases c : a = 0
  · obtain ⟨b, hb, b0, b1, _⟩ := pick_ev s hs (p + 1) 5 (by omega) (by omega) (by omega)
    have b2 := b1 (by omega)
    obtain ⟨m, hm⟩ := Int.eq_ofNat_of_zero_le (show 0 ≤ 1 + b by omega)
    obtain ⟨r, hr, hr2⟩ := word_loop s hs m ⟨#[]⟩ (p + 1 + 1) (by omega) (by omega) (by show 0 + 2 * m ≤ 1000; omega)
    have w1 : Aside0 (wrap64 (1 + b) = (m : Int)) := ⟨by rw [wid (by omega) (by omega)]; exact hm⟩
    refine ⟨r, p + 1 + 1 + m, ?_, hr2, by omega, by omega⟩
    refine Ev.bind ha (Ev.ifp c (Ev.bind hb ?_))
    simp only [w1.out]
    exact hr
  · obtain ⟨x, hx, hm⟩ := of_ev s hs (p + 1) (by omega) (by omega) wordSet (by decide) (by decide)
    refine ⟨x, p + 1 + 1, ?_, word_size x hm, by omega, by omega⟩
    exact Ev.bind ha (Ev.ifn c (Ev.bind hx (Ev.now _)))
end Go.Proofs.YtndjhgjakdkkaaaDoor.M
end

section
/- The sum of abc, and a seal, by the kernel. -/
namespace Go.Proofs.YtndjhgjakdkkaaaDoor.M
open Go.RowKit Go.Proofs.YtndjhgjakdkkaaaDoorW.PrintWords Go.Proofs.YtndjhgjakdkkaaaDoorW.PrintMore Go.Proofs.YtndjhgjakdkkaaaDoor.Pu Go.Proofs.YtndjhgjakdkkaaaDoor.Sha
theorem abc_data : (hashSum (⟨#[97, 98, 99]⟩ : ByteArray)).data.toList = [98, 97, 55, 56, 49, 54, 98, 102, 56, 102, 48, 49, 99, 102, 101, 97, 52, 49, 52, 49, 52, 48, 100, 101, 53, 100, 97, 101, 50, 50, 50, 51, 98, 48, 48, 51, 54, 49, 97, 51, 57, 54, 49, 55, 55, 97, 57, 99, 98, 52, 49, 48, 102, 102, 54, 49, 102, 50, 48, 48, 49, 53, 97, 100] := by decide +kernel
theorem abc_sum : (hashSum (⟨#[97, 98, 99]⟩ : ByteArray)).toList = [98, 97, 55, 56, 49, 54, 98, 102, 56, 102, 48, 49, 99, 102, 101, 97, 52, 49, 52, 49, 52, 48, 100, 101, 53, 100, 97, 101, 50, 50, 50, 51, 98, 48, 48, 51, 54, 49, 97, 51, 57, 54, 49, 55, 55, 97, 57, 99, 98, 52, 49, 48, 102, 102, 54, 49, 102, 50, 48, 48, 49, 53, 97, 100] := by
  rw [ByteArray.toList_eq]
  exact abc_data
end Go.Proofs.YtndjhgjakdkkaaaDoor.M
end

section
/- FnHashSum, plain: and the sum of abc. -/
namespace Go.Proofs.YtndjhgjakdkkaaaDoor.M
open Go.RowKit Go.Proofs.YtndjhgjakdkkaaaDoorW.PrintWords Go.Proofs.YtndjhgjakdkkaaaDoor.Pu
set_option linter.unusedVariables false
theorem many_all : ∀ x ∈ [(⟨#[97]⟩ : ByteArray), (⟨#[97, 98]⟩ : ByteArray), (⟨#[0]⟩ : ByteArray)], ∀ n ∈ ([0, 1, 3, 28, 55, 56, 64] : List Int), manyB x n = true := by decide +kernel
theorem drawHash_ev (s : List Int) (hs : ∀ b ∈ s, 0 ≤ b ∧ b ≤ 255) : ∃ r, Ev (fun k => spec_DrawHashSum.f k s) r ∧ r.size ≤ 1000 := by
  obtain ⟨c, hc, hC⟩ := l1Open_eq s hs
  obtain ⟨x, hx, hxm⟩ := of_ev c hC 0 (by omega) (by omega) [(⟨#[97]⟩ : ByteArray), (⟨#[97, 98]⟩ : ByteArray), (⟨#[0]⟩ : ByteArray)] (by decide) (by decide)
  obtain ⟨n, hn, hnm⟩ := one_ev c hC (0 + 1) (by omega) (by omega) [0, 1, 3, 28, 55, 56, 64] (by decide) (by decide)
  obtain ⟨r, hr, hr2⟩ := many_of (many_all x hxm n hnm)
  refine ⟨r, ?_, hr2⟩
  unfold spec_DrawHashSum.f
  rw [hc]
  simp only [Option.bind_some]
  exact Ev.bind hx (Ev.bind hn (Ev.bind hr (Ev.now _)))
theorem FnHashSum_pure (s : List Int) (hs : s.length ≤ 9223372036854775807 ∧ ∀ y ∈ s, (Lit.int .u8 y).wf = true) : ∃ k, laws_FnHashSum.f k s = some true := by
  apply Ev.rounds (g := fun k => laws_FnHashSum.f k s)
  unfold laws_FnHashSum.f
  by_cases c0 : (s.length : Int) > 1048576
  · exact Ev.ifp c0 (Ev.now _)
  · obtain ⟨r, hr, hr2⟩ := drawHash_ev s (fun b hb => by
      have h := hs.2 b hb
      simp [Lit.wf, IntKind.min, IntKind.max, IntKind.signed, IntKind.bits] at h
      omega)
    refine Ev.ifn c0 (Ev.bind hr (Ev.bind (implHash_ev r (by omega)) (Ev.bind (specHash_ev r (by omega)) ?_)))
    simp only [if_true]
    refine Ev.bind (implHash_ev _ (by decide)) (Ev.cast (Ev.now _) ?_)
    rw [abc_sum]
    rfl
end Go.Proofs.YtndjhgjakdkkaaaDoor.M
end
