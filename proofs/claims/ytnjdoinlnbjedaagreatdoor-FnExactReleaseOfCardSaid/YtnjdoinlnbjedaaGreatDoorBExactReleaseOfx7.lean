import Derived.Test.YtnjdoinlnbjedaaGreatDoorBExactReleaseOfx6
import Derived.Lib.BufferWrite
import Derived.RegionCalls
import Derived.Test.YtnjdoinlnbjedaaGreatDoorBExactReleaseOfx5
import Derived.Test.YtnjdoinlnbjedaaGreatDoorBExactReleaseOfx4
import Derived.Sort.LotA
import Derived.Sort.Walk0
import Derived.Laws.Cover1
import Derived.Shelf.SlSortCmp.NoneTotal
import Derived.Lib.ItoaLen
import Derived.Lib.ItoaMem

section
/- impl.hmacOf, walked: keys of at most 64 bytes. -/
namespace Go.Proofs.YtnjdoinlnbjedaaGreatDoor.M
open Go.RowKit Go.Proofs.YtnjdoinlnbjedaaGreatDoorW.PrintWords Go.Proofs.YtnjdoinlnbjedaaGreatDoorW.PrintLast Go.Proofs.YtnjdoinlnbjedaaGreatDoorW.PrintMore
open Go.Proofs.YtnjdoinlnbjedaaGreatDoor.Buf Go.Proofs.YtnjdoinlnbjedaaGreatDoor.Sha
attribute [local go_sem] max2_int min2_int max_two min_two max_three min_three max_four min_four   -- for this text's walks alone
set_option linter.unusedVariables false
def Arr8 (w : World) (g : Nat) (xs : List Int) : Prop := w.heap[g]? = some (.cells (nums .u8 xs).toArray 5 (0, 0))
section
variable {w w1 : World} {g : Nat} {xs : List Int}
theorem Arr8.lt (h : Arr8 w g xs) : g < w.heap.size := (Array.getElem?_eq_some_iff.1 h).1
theorem Arr8.move (h : Arr8 w g xs) (hm : w1.heap[g]? = w.heap[g]?) : Arr8 w1 g xs := hm.trans h
theorem Arr8.below (h : Arr8 w g xs) (hb : Below w.heap.size w w1) : Arr8 w1 g xs := h.move (hb.block g h.lt)
theorem Arr8.drew (h : Arr8 w g xs) : Arr8 w.drew g xs := h
theorem Arr8.far (h : Arr8 w g xs) {p : Addr} (hp : g ≠ p.block) (u : Value) : Arr8 (w.setCell p u) g xs := h.move (Below.heap_setCell w p u g hp)
theorem Arr8.cell (h : Arr8 w g xs) (i : Nat) (hi : i < xs.length) : w.cell? ⟨g, i, none⟩ = some (.int .u8 (xs.getD i 0)) := by
 rw [cell_of_row w g i _ _ _ h]
 simp [nums, List.getD_eq_getElem?_getD, List.getElem?_eq_getElem hi]
theorem Arr8.fro (h : Arr8 w g xs) (i : Nat) : w.frozen? ⟨g, i, none⟩ = false := by
 simp [World.frozen?, show w.heap[g]? = some (.cells (nums .u8 xs).toArray 5 (0, 0)) from h]
theorem Arr8.set (h : Arr8 w g xs) (i : Nat) (y : Int) : Arr8 (w.setCell ⟨g, i, none⟩ (.int .u8 y)) g (xs.set i y) := by
 have h0 : w.heap[g]? = some (.cells (nums .u8 xs).toArray 5 (0, 0)) := h
 rw [setCell_eq_setRow w g i _ 5 (0, 0) _ h0]
 unfold Arr8
 rw [setRow_heap w g _ _ 5 _ h0]
 simp [nums, List.map_set]
theorem Arr8.new (w : World) (xs : List Int) : Arr8 (w.alloc (.cells (nums .u8 xs).toArray 5)) w.heap.size xs := heap_alloc_new w _
theorem Arr8.str (h : Arr8 w g xs) (hl : xs.length ≤ 1000000) (c : Nat) : (convert 22 9 (.slice (some ⟨g, 0, none⟩) xs.length c)).run Tryz.prog w = .ok (.string (strOfNums xs)) w := by
 refine string_of_reads Tryz.underlying22 Tryz.underlying5 Tryz.underlying9 ⟨rfl, by omega, fun hp => ⟨_, rfl, fun j hj => ?_⟩⟩
 have hadd : (⟨g, 0, none⟩ : Addr).add j = ⟨g, j, none⟩ := by unfold Addr.add; split <;> simp_all
 rw [hadd]
 exact h.cell j hj
end
theorem make64 (W : World) : (Instr.makeSlice 22 (.int .i64 64) (.int .i64 64)).run Tryz.prog W = .ok (.slice (some ⟨W.heap.size, 0, none⟩) 64 64) (W.alloc (.cells (nums .u8 Z64).toArray 5)) := by
 obtain ⟨i, hi, hz⟩ := Option.map_eq_some_iff.1 info5
 simp only [Prod.mk.injEq] at hz
 have h := run_make (P := Tryz.prog) W 22 5 i (.int .u8 0) Tryz.underlying22 hi hz.1 .i64 .i64 64 64 (by decide) (by decide) (by rw [hz.2.2]; decide) (by decide)
 rw [h, hz.2.1]
 have e : madeCells (Value.int .u8 0).cells (Int.toNat 64 * 1) = (nums .u8 Z64).toArray := by
  apply Array.ext
  ·simp [madeCells, nums, Z64]
  ·intro i h1 h2
   have h3 : i < 64 := by simpa [nums, Z64] using h2
   have h4 : (nums .u8 Z64).toArray[i]'h2 = .int .u8 0 := by
    simp only [nums, Z64, List.map_replicate, List.getElem_toArray, List.getElem_replicate]
   rw [h4]
   simp [madeCells, Value.cells, Nat.mod_one]
 rw [e]
 rfl
def padB (key : ByteArray) : List Int := bytesOf key ++ List.replicate (64 - key.size) 0
theorem padB_length (key : ByteArray) (h : key.size ≤ 64) : (padB key).length = 64 := by simp [padB, bytesOf_length]; omega
def xorTo (c : Int) (xs : List Int) (k : Nat) : List Int := (xs.map fun b => Go.bits .xor .u8 b c).take k ++ xs.drop k
theorem xorTo_length (c : Int) (xs : List Int) (k : Nat) : (xorTo c xs k).length = xs.length := by simp [xorTo]; omega
theorem xorTo_zero (c : Int) (xs : List Int) : xorTo c xs 0 = xs := by simp [xorTo]
theorem xorTo_all (c : Int) (xs : List Int) (k : Nat) (h : xs.length = k) : xorTo c xs k = xs.map fun b => Go.bits .xor .u8 b c := by
 subst h
 simp only [xorTo, List.drop_length, List.append_nil]
 exact List.take_of_length_le (by simp)
theorem xorTo_at (c : Int) (xs : List Int) (k : Nat) (hk : k < xs.length) : (xorTo c xs k).getD k 0 = xs.getD k 0 := by
 simp only [xorTo, List.getD_eq_getElem?_getD]
 rw [List.getElem?_append_right (by simp; omega), List.getElem?_drop]
 simp [show min k xs.length = k by omega]
theorem xorTo_set (c : Int) (xs : List Int) (k : Nat) (hk : k < xs.length) : (xorTo c xs k).set k (Go.bits .xor .u8 (xs.getD k 0) c) = xorTo c xs (k + 1) := by
 have hl : ((xs.map fun b => Go.bits .xor .u8 b c).take k).length = k := by simp; omega
 simp only [xorTo]
 rw [List.set_append_right _ _ (by omega), hl, Nat.sub_self, List.take_succ_eq_append_getElem (by simpa using hk), List.append_assoc]
 congr 1
 rw [List.drop_eq_getElem_cons hk, List.set_cons_zero]
 simp [List.getD_eq_getElem?_getD, hk]
def padx (key : ByteArray) (c : Int) : ByteArray := strOfNums ((padB key).map fun b => Go.bits .xor .u8 b c)
def shaOf (s : ByteArray) : ByteArray := strOfNums (sumOf shaTab (bytesOf s))
theorem sha_of_calls (s : ByteArray) (w : World) (hs : s.size ≤ 1099511627776) (hGs : GWs w) : Calls Tryz.prog 73 #[.string s] w fun e w' => e = .returned (.string (shaOf s)) ∧ Below w.heap.size w w' := sha_calls s w hs hGs
def hmac (key text : ByteArray) : ByteArray := shaOf (padx key 92 ++ shaOf (padx key 54 ++ text))
theorem strOfNums_size (xs : List Int) : (strOfNums xs).size = xs.length := by simp [strOfNums, ByteArray.size]
theorem shaOf_size (s : ByteArray) : (shaOf s).size = 32 := by
 have h : ∀ n (h b : List Int), h.length = 8 → (blocks shaTab n h b).length = 8 := by
  intro n
  induction n with
  | zero => intro h b hh; exact hh
  | succ n ih => intro h b hh; exact ih _ _ (block_length _ _ _ hh)
 rw [shaOf, strOfNums_size, sumOf, out_length, h _ _ _ rfl]
theorem copy_cells (s : ByteArray) (hs : s.size ≤ 64) : ((nums .u8 Z64).toArray.toList.take 0 ++ Lib.byteCells s.data.toList ++ (nums .u8 Z64).toArray.toList.drop (0 + s.size)).toArray = (nums .u8 (padB s)).toArray := by
 have h1 : (nums .u8 Z64).drop s.size = nums .u8 (List.replicate (64 - s.size) 0) := by
  simp only [nums, Z64, List.map_replicate, List.drop_replicate]
 have h2 : Lib.byteCells s.data.toList = nums .u8 (bytesOf s) := by simp only [nums, bytesOf, Lib.byteCells, List.map_map]; rfl
 rw [List.take_zero, List.nil_append, Nat.zero_add, h1, h2, padB, nums_append]
theorem two_new (w : World) : Arr8 ((w.alloc (.cells (nums .u8 Z64).toArray 5)).alloc (.cells (nums .u8 Z64).toArray 5)).drew w.heap.size Z64 ∧ Arr8 ((w.alloc (.cells (nums .u8 Z64).toArray 5)).alloc (.cells (nums .u8 Z64).toArray 5)).drew (w.heap.size + 1) Z64 ∧ Below w.heap.size w ((w.alloc (.cells (nums .u8 Z64).toArray 5)).alloc (.cells (nums .u8 Z64).toArray 5)).drew := by
 refine ⟨((Arr8.new w Z64).below (below_alloc (Below.refl _ _) (.cells (nums .u8 Z64).toArray 5))).drew, ?_, below_drew1 (below_alloc (below_alloc (Below.refl _ _) _) _)⟩
 have h := Arr8.new (w.alloc (.cells (nums .u8 Z64).toArray 5)) Z64
 have e : (w.alloc (.cells (nums .u8 Z64).toArray 5)).heap.size = w.heap.size + 1 := by simp
 rw [e] at h
 exact h
theorem copy_event {ops : Array Oper} {rest : List Oper} {o : Oper} {a : Act} {Q : Exit → Act → World → Prop} {W : World} (hgd : o.guard = none) (d x : Operand)
  (ho : o.op = .call { callee := .builtin .copy, args := #[d, x], argTypes := #[22, 9] }) (g : Nat) (s : ByteArray) (hd : a.eval d = .slice (some ⟨g, 0, none⟩) 64 64) (hx : a.eval x = .string s) (hA : Arr8 W g Z64) (hs : s.size ≤ 64)
  (h : ∀ w1, Arr8 w1 g (padB s) → W.grownBy w1 (some g) → wpList Tryz.prog ops Q rest (a.put o.dst (goInt s.size)) w1) : wpList Tryz.prog ops Q (o :: rest) a W := by
 refine wpList_plain hgd fun K hK => ?_
 obtain ⟨i, hi, hz⟩ := Option.map_eq_some_iff.1 info5
 simp only [Prod.mk.injEq] at hz
 have hr := Lib.run_copy_row_string (P := Tryz.prog) W 22 9 o.type 5 g 0 64 64 s (nums .u8 Z64).toArray 5 Tryz.underlying22 (by rw [hi]; simp [hz.2.1]) hA hs (by simp [nums, Z64]; exact hs)
 have hw : Arr8 (W.setRow g ((nums .u8 Z64).toArray.toList.take 0 ++ Lib.byteCells s.data.toList ++ (nums .u8 Z64).toArray.toList.drop (0 + s.size)).toArray) g (padB s) := by
  unfold Arr8
  rw [setRow_heap W g _ _ 5 _ hA]
  rw [copy_cells s hs]
 have hg : W.grownBy (W.setRow g ((nums .u8 Z64).toArray.toList.take 0 ++ Lib.byteCells s.data.toList ++ (nums .u8 Z64).toArray.toList.drop (0 + s.size)).toArray) (some g) := ⟨rfl, rfl, rfl, by simp, fun k _ hk => setRow_other W g k _ (fun e => hk (by rw [e]))⟩
 unfold Oper.wp execOp
 simp only [ho, resolve, invoke, builtin, Sem.run_bind, Sem.run_pure, Result.andThen_ok, List.map_toArray, List.map_cons, List.map_nil, hd, hx, hr]
 exact hK _ _ (h _ hw hg)
set_option maxHeartbeats 8000000 in
set_option maxRecDepth 100000 in
theorem hmac_calls (key text : ByteArray) (w : World) (hk : key.size ≤ 64) (ht : text.size ≤ 549755813888) (hGs : GWs w) :
  Calls Tryz.prog 44 #[.string key, .string text] w fun e w' => e = .returned (.string (hmac key text)) ∧ Below w.heap.size w w' := by
 have h64 : decide (64 < (key.size : Int)) = false := by simp; omega
 have h64' : decide (64 < key.size) = false := by simp; omega
 have HGS := Aside0.mk hGs
 clear hGs
 go_enter Tryz.func44, Tryz.ntmps44
 go_upto_region 3 with (fail)
 go_cut [5, 6] (fun v5 v6 wc => ∃ gi go : Nat, v5 = .slice (some ⟨gi, 0, none⟩) 64 64 ∧ v6 = .slice (some ⟨go, 0, none⟩) 64 64 ∧ Aside0 (gi ≠ go) ∧ Aside0 (w.heap.size ≤ gi) ∧ Aside0 (w.heap.size ≤ go) ∧ Aside0 (Arr8 wc gi Z64) ∧ Aside0 (Arr8 wc go Z64) ∧ Aside0 (Below w.heap.size w wc))
 case first =>
  have hmk := make64
  go_region
  all_goals
   go_wp2_with fail
   go_meet
  ·exact ⟨_, _, rfl, rfl, ⟨by simp⟩, ⟨by simp⟩, ⟨by simp⟩, ⟨by first | exact (two_new w).1 | exact (two_new w).2.1⟩, ⟨by first | exact (two_new w).1 | exact (two_new w).2.1⟩, ⟨(two_new w).2.2⟩⟩
  ·exact ⟨_, _, rfl, rfl, ⟨by simp⟩, ⟨by simp⟩, ⟨by simp⟩, ⟨by first | exact (two_new w).1 | exact (two_new w).2.1⟩, ⟨by first | exact (two_new w).1 | exact (two_new w).2.1⟩, ⟨(two_new w).2.2⟩⟩
 case rest =>
  obtain ⟨gi, go, rfl, rfl, HNE, HGI, HGO, HAI, HAO, HB⟩ := hcut
  have hne1 : gi ≠ go := HNE.out
  go_wp2_with (first
   | ((with_reducible refine gate_dst (N := 17) rfl ?_); refine copy_event rfl (.tmp 15) (.tmp 16) rfl gi key rfl rfl HAI.out hk ?_; intro w1 h1 hg1; have HAI1 := Aside0.mk h1; have HAO1 := Aside0.mk (HAO.out.move (hg1.block go HAO.out.lt (fun e => by injection e with e; exact hne1 e.symm))); have HB1 := Aside0.mk (HB.out.grown hg1 HB.out.size (fun k hk => by injection hk with hk; have := HGI.out; omega)); clear h1 hg1)
   | ((with_reducible refine gate_dst (N := 20) rfl ?_); refine copy_event rfl (.tmp 18) (.tmp 19) rfl go key rfl rfl HAO1.out hk ?_; intro w1 h1 hg1; have HAO2 := Aside0.mk h1; have HAI2 := Aside0.mk (HAI1.out.move (hg1.block gi HAI1.out.lt (fun e => by injection e with e; exact hne1 e))); have HB2 := Aside0.mk (HB1.out.grown hg1 HB1.out.size (fun k hk => by injection hk with hk; have := HGO.out; omega)); clear h1 hg1))
  go_loopg [23] 64 (fun kq v23 w' => ∃ k : Nat, v23 = .int .i64 (k : Int) ∧ Aside0 (k + kq = 64) ∧ Aside0 (Arr8 w' gi (xorTo 54 (padB key) k)) ∧ Aside0 (Arr8 w' go (xorTo 92 (padB key) k)) ∧ Aside0 (Below w.heap.size w w'))
  case atStart => exact ⟨0, rfl, ⟨rfl⟩, ⟨by rw [xorTo_zero]; exact HAI2.out⟩, ⟨by rw [xorTo_zero]; exact HAO2.out⟩, HB2⟩
  case round =>
   clear HAI HAO HB HAI1 HAO1 HB1 HAI2 HAO2 HB2
   obtain ⟨k, rfl, HK, HAI, HAO, HB⟩ := hrel
   cases gk with
   | zero =>
    obtain rfl : k = 64 := by have := HK.out; omega
    have HXI := Aside0.mk (show Arr8 wr gi ((padB key).map fun b => Go.bits .xor .u8 b 54) by rw [← xorTo_all 54 _ 64 (padB_length _ hk)]; exact HAI.out)
    have HXO := Aside0.mk (show Arr8 wr go ((padB key).map fun b => Go.bits .xor .u8 b 92) by rw [← xorTo_all 92 _ 64 (padB_length _ hk)]; exact HAO.out)
    have hli : ((padB key).map fun b => Go.bits .xor .u8 b 54).length = 64 := by rw [List.length_map, padB_length _ hk]
    have hlo : ((padB key).map fun b => Go.bits .xor .u8 b 92).length = 64 := by rw [List.length_map, padB_length _ hk]
    have hstri : ∀ W : World, Arr8 W gi ((padB key).map fun b => Go.bits .xor .u8 b 54) → (convert 22 9 (.slice (some ⟨gi, 0, none⟩) 64 64)).run Tryz.prog W = .ok (.string (padx key 54)) W := fun W hW => by
     have h1 := hW.str (by rw [hli]; decide) 64
     rw [hli] at h1
     exact h1
    have hstro : ∀ W : World, Arr8 W go ((padB key).map fun b => Go.bits .xor .u8 b 92) → (convert 22 9 (.slice (some ⟨go, 0, none⟩) 64 64)).run Tryz.prog W = .ok (.string (padx key 92)) W := fun W hW => by
     have h1 := hW.str (by rw [hlo]; decide) 64
     rw [hlo] at h1
     exact h1
    have HSO := Aside0.mk hstro
    have hci0 := hstri wr.drew HXI.out.drew
    have hco0 := hstro wr.drew HXO.out.drew
    have hs54 : (padx key 54).size = 64 := by rw [padx, strOfNums_size, hli]
    have hs92 : (padx key 92).size = 64 := by rw [padx, strOfNums_size, hlo]
    have HS54 := Aside0.mk hs54
    have HS92 := Aside0.mk hs92
    have HGW := Aside0.mk (show GWs wr.drew from (HGS.out.below HB.out).below (below_drew1 (Below.refl _ _)))
    have b54 : (padx key 54).size ≤ 64 := by omega
    have b92 : (padx key 92).size ≤ 64 := by omega
    have b32 : (shaOf (padx key 54 ++ text)).size ≤ 32 := by rw [shaOf_size]; exact Nat.le_refl _
    clear hstri hstro hs54 hs92 hli hlo
    go_wp2_with fail
    go_region_with (first
     | (go_at_call 73; (with_reducible refine (sha_of_calls (padx key 54 ++ text) _ (by rw [ByteArray.size_append, HS54.out]; omega) HGW.out).mono ?_); rintro e w1 ⟨rfl, hb1⟩; have hco1 := HSO.out w1 (HXO.out.drew.below hb1); have HB1 := Aside0.mk hb1)
     | (go_at_call 73; (with_reducible refine (sha_of_calls (padx key 92 ++ shaOf (padx key 54 ++ text)) _ (by rw [ByteArray.size_append, HS92.out, shaOf_size]; omega) (HGW.out.below HB1.out)).mono ?_); rintro e w2 ⟨rfl, hb2⟩))
    all_goals
     have HB2 := Aside0.mk hb2
     clear hb2
     go_wp2_with fail
     go_ret
     exact ⟨rfl, below_step (below_step (below_drew1 HB.out) HB1.out) HB2.out⟩
   | succ k1 =>
    have hk64 : decide ((k : Int) < 64) = true := by have := HK.out; simp; omega
    have hk64' : decide (k < 64) = true := by have := HK.out; simp; omega
    have hkk : k < 64 := by have := HK.out; omega
    have hx0 := HAI.out.cell k (by rw [xorTo_length, padB_length _ hk]; exact hkk)
    have hx1 := HAO.out.cell k (by rw [xorTo_length, padB_length _ hk]; exact hkk)
    rw [xorTo_at _ _ _ (by rw [padB_length _ hk]; exact hkk)] at hx0 hx1
    have hf0 := HAI.out.fro k
    have hf1 := HAO.out.fro k
    obtain ⟨x0, hx0e⟩ : ∃ z, (padB key).getD k 0 = z := ⟨_, rfl⟩
    rw [hx0e] at hx0 hx1
    have HX0 := Aside0.mk hx0e
    clear hx0e
    have kp : (0 : Int) ≤ (k : Int) := by omega
    have kq : (k : Int) < 64 := by omega
    go_wp2_with fail
    go_roundg k1
    case measure => omega
    case rel => exact ⟨k + 1, by go_num, ⟨by have := HK.out; omega⟩, ⟨by
     have h1 := (HAI.out.set k (Go.bits .xor .u8 x0 54)).far (p := ⟨go, k, none⟩) hne1 (.int .u8 (Go.bits .xor .u8 x0 92))
     rw [← xorTo_set _ _ _ (by rw [padB_length _ hk]; exact hkk), HX0.out]
     exact h1⟩, ⟨by
     have h1 := (HAO.out.far (p := ⟨gi, k, none⟩) (fun e => hne1 e.symm) (.int .u8 (Go.bits .xor .u8 x0 54))).set k (Go.bits .xor .u8 x0 92)
     rw [← xorTo_set _ _ _ (by rw [padB_length _ hk]; exact hkk), HX0.out]
     exact h1⟩, ⟨((HB.out.setCell (p := ⟨gi, k, none⟩) HGI.out _).setCell (p := ⟨go, k, none⟩) HGO.out _)⟩⟩
end Go.Proofs.YtnjdoinlnbjedaaGreatDoor.M
end

section
/- impl.hmacOf: the keyed sum, by the walk of Hmac. -/
namespace Go.Proofs.YtnjdoinlnbjedaaGreatDoor.Rf
open Go Go.RowKit
set_option linter.unusedVariables false
set_option linter.unusedSimpArgs false
abbrev q31.ps : List Par := [⟨.str, .rd⟩, ⟨.str, .rd⟩]
abbrev q31.rs : List Res := [⟨.str, .ro, false⟩]
def q31.F (_ : Nat) (x : ByteArray × ByteArray) : Option ByteArray := if x.1.size ≤ 64 ∧ x.2.size ≤ 549755813888 then some (Go.Proofs.YtnjdoinlnbjedaaGreatDoor.M.hmac x.1 x.2) else none
def q31.f (k : Nat) (s t : ByteArray) : Option ByteArray := q31.F k (s, t)
theorem q31.can : Can Tryz.prog 44 := q6f (fn := Tryz.f44) (by kernel_rfl) (by kernel_rfl) (by kernel_rfl)
theorem q31.snd (k : Nat) : Snd Tryz.prog Jp 44 ⟨q31.ps, q31.rs, q31.F k⟩ := by
 refine q8p rfl ?_
 rintro ⟨s, c⟩ r hr ξ w vs wf hj hsz ha
 simp only [q31.F] at hr
 split at hr
 case isFalse => cases hr
 rename_i h
 obtain rfl := Option.some.inj hr
 obtain ⟨T0, h0⟩ := ha 0 _ _ rfl rfl
 obtain ⟨T1, h1⟩ := ha 1 _ _ rfl rfl
 obtain rfl := qfa hsz (q6g (by simp) h0) (q6g (by simp) h1)
 refine (Go.Proofs.YtnjdoinlnbjedaaGreatDoor.M.hmac_calls s c w h.1 h.2 ⟨hj.s⟩).mono ?_
 rintro e w' ⟨rfl, hb⟩
 exact ⟨_, Em, rfl, hb, q9n _ _ _ _, fun b hb => hb.elim⟩
end Go.Proofs.YtnjdoinlnbjedaaGreatDoor.Rf
end

section
/- What the program computes, told plainly: words, affixes, entries, books, deltas. Nothing of any program. -/
namespace Go.Proofs.YtnjdoinlnbjedaaGreatDoor.Rf
open Go Go.RowKit
def Sm (n : Nat) : Prop := n ≤ 4611686018427387904
def smA (a : Aff) : Prop := Sm a.1.size ∧ Sm a.2.2.1.size ∧ Sm a.2.2.2.1.size ∧ Sm a.2.2.2.2.size
def smE (e : En) : Prop := Sm e.1.size ∧ Sm e.2.size
def smB (b : Book) : Prop := (b.1.length ≤ 1099511627776 ∧ ∀ a ∈ b.1, smA a) ∧ b.2.length ≤ 1099511627776 ∧ ∀ e ∈ b.2, smE e
def smD (d : Delta) : Prop := (d.1.length ≤ 1099511627776 ∧ ∀ s ∈ d.1, Sm s.size) ∧ (d.2.1.length ≤ 1099511627776 ∧ ∀ e ∈ d.2.1, smE e) ∧ d.2.2.2.length ≤ 1099511627776 ∧ ∀ a ∈ d.2.2.2, smA a
def qkt (n : Nat) : Bool := decide (97 ≤ n) && decide (n ≤ 122)
def upB (n : Nat) : Bool := decide (65 ≤ n) && decide (n ≤ 90)
def qbu (s : ByteArray) : Bool := q64 s.size fun i => qkt (bN s i)
def q3a (s : ByteArray) (m : Nat) : Bool := qbu s && decide (s.size ≤ m)
def q51 (s : ByteArray) : Bool := decide (0 < s.size) && q3a s 12
def qbv (s : ByteArray) : Bool := decide (s.size = 1) && upB (bN s 0)
def qk2 (s w : ByteArray) : Bool := decide (w.size ≤ s.size) && decide (s.extract 0 w.size = w)
def qk3 (s w : ByteArray) : Bool := decide (w.size ≤ s.size) && decide (s.extract (s.size - w.size) s.size = w)
def qgg (a : Aff) : Bool := qbv a.1 && (q3a a.2.2.1 4 && (q3a a.2.2.2.1 4 && (q3a a.2.2.2.2 4 && if a.2.1 then qk2 a.2.2.2.2 a.2.2.1 else qk3 a.2.2.2.2 a.2.2.1)))
def ltS (s t : ByteArray) : Bool := Op.bytesLess s.toList t.toList
def qbw (e : En) : Bool := (q64 e.2.size fun i => upB (bN e.2 i) && (decide (i = 0) || decide (bN e.2 (i - 1) < bN e.2 i))) && (q51 e.1 && decide (e.2.size ≤ 4))
def q5j (l : List Aff) : Bool := (q64 l.length fun i => qgg (l.getD i zA) && q64 i fun j => !decide (l.getD j zA = l.getD i zA)) && decide (l.length ≤ 8)
def q59 (l : List En) : Bool := (q64 l.length fun i => qbw (l.getD i zE) && (decide (i = 0) || ltS (l.getD (i - 1) zE).1 (l.getD i zE).1)) && decide (l.length ≤ 24)
def q7q (l : List ByteArray) : Bool := (q64 l.length fun i => q51 (l.getD i bz) && (decide (i = 0) || ltS (l.getD (i - 1) bz) (l.getD i bz))) && decide (l.length ≤ 24)
def q3s (b : Book) : Bool := q5j b.1 && q59 b.2
def q8x (l : List En) (s : ByteArray) : Bool := l.any fun e => decide (e.1 = s)
def q3y (d : Delta) : Bool := q7q d.1 && (q59 d.2.1 && (q5j d.2.2.2 && ((d.2.2.1 || decide (d.2.2.2.length = 0)) && d.1.all fun s => !q8x d.2.1 s)))
end Go.Proofs.YtnjdoinlnbjedaaGreatDoor.Rf
end

section
/- Entries put in one by one by their stems: the one sorted order. Plain. -/
namespace Go.Proofs.YtnjdoinlnbjedaaGreatDoor.Rf
open Go Go.RowKit
set_option linter.unusedVariables false
set_option linter.unusedSimpArgs false
def ltE (a b : (ByteArray × ByteArray)) : Bool := Op.bytesLess a.1.toList b.1.toList
theorem qfc (a b : (ByteArray × ByteArray)) : ltE a b = Go.Sort.ltStr a.1.toList b.1.toList := Go.Proofs.bytesLess_eq _ _
theorem q6p (a : (ByteArray × ByteArray)) : ltE a a = false := by
 rw [qfc]
 exact Go.Sort.swo_ltStr.irrefl _
theorem q9q {a b c : (ByteArray × ByteArray)} (h1 : ltE a b = true) (h2 : ltE b c = true) : ltE a c = true := by
 rw [qfc] at *
 exact Go.Sort.swo_ltStr.trans _ _ _ h1 h2
theorem qb0 {a b c : (ByteArray × ByteArray)} (h1 : ltE a b = false) (h2 : ltE b c = false) : ltE a c = false := by
 rw [qfc] at *
 exact Go.Sort.swo_ltStr.ntrans _ _ _ h1 h2
theorem qhp {a b : (ByteArray × ByteArray)} (h : ltE a b = true) : ltE b a = false := by
 cases h2 : ltE b a
 ·rfl
 ·have h3 := q9q h h2
  rw [q6p] at h3
  cases h3
theorem qku {a b : (ByteArray × ByteArray)} (h1 : ltE a b = false) (h2 : ltE b a = false) : a.1.toList = b.1.toList := by
 rw [qfc] at *
 simp only [Go.Sort.ltStr, decide_eq_false_iff_not, List.not_lt] at h1 h2
 exact List.le_antisymm h2 h1
def qhq (e : (ByteArray × ByteArray)) : List (ByteArray × ByteArray) → List (ByteArray × ByteArray)
 | [] => [e]
 | x :: xs => if ltE x e = true then x :: qhq e xs else e :: x :: xs
theorem q9r (e : (ByteArray × ByteArray)) : ∀ l, (qhq e l).Perm (e :: l)
 | [] => .refl _
 | x :: xs => by
  unfold qhq
  split
  ·exact ((q9r e xs).cons x).trans (.swap e x xs)
  ·exact .refl _
theorem q9s (e : (ByteArray × ByteArray)) : ∀ l, l.Pairwise (fun a b => ltE b a = false) → (qhq e l).Pairwise (fun a b => ltE b a = false)
 | [], _ => by simp [qhq]
 | x :: xs, h => by
  unfold qhq
  have h' := List.pairwise_cons.1 h
  by_cases c : ltE x e = true
  ·rw [if_pos c]
   refine List.pairwise_cons.2 ⟨fun b hb => ?_, q9s e xs h'.2⟩
   rcases List.mem_cons.1 ((q9r e xs).mem_iff.1 hb) with z | hb
   ·rw [z]
    exact qhp c
   ·exact h'.1 b hb
  ·rw [if_neg c]
   have c' : ltE x e = false := by simpa using c
   refine List.pairwise_cons.2 ⟨fun b hb => ?_, h⟩
   rcases List.mem_cons.1 hb with z | hb
   ·rw [z]
    exact c'
   ·exact qb0 (h'.1 b hb) c'
def q9t (xs : List (ByteArray × ByteArray)) : List (ByteArray × ByteArray) := xs.foldl (fun l e => qhq e l) []
theorem qdf : ∀ (xs l : List (ByteArray × ByteArray)), (xs.foldl (fun l e => qhq e l) l).Perm (l ++ xs)
 | [], l => by simp
 | x :: xs, l => by
  refine (qdf xs (qhq x l)).trans ?_
  refine ((q9r x l).append_right xs).trans ?_
  exact (List.perm_middle (a := x) (l₁ := l) (l₂ := xs)).symm
theorem q9u : ∀ (xs l : List (ByteArray × ByteArray)), l.Pairwise (fun a b => ltE b a = false) → (xs.foldl (fun l e => qhq e l) l).Pairwise (fun a b => ltE b a = false)
 | [], l, h => h
 | x :: xs, l, h => q9u xs _ (q9s x l h)
theorem qfd : ∀ (xs : List (ByteArray × ByteArray)), (xs.map (fun e => e.1)).Pairwise (fun a b => a ≠ b) → ∀ a ∈ xs, ∀ b ∈ xs, a.1 = b.1 → a = b
 | [], _, a, ha, _, _, _ => by simp at ha
 | x :: xs, h, a, ha, b, hb, e => by
  rw [List.map_cons, List.pairwise_cons] at h
  rcases List.mem_cons.1 ha with za | ha' <;> rcases List.mem_cons.1 hb with zb | hb'
  ·rw [za, zb]
  ·rw [za] at e
   exact absurd e (h.1 _ (List.mem_map.2 ⟨b, hb', rfl⟩))
  ·rw [zb] at e
   exact absurd e.symm (h.1 _ (List.mem_map.2 ⟨a, ha', rfl⟩))
  ·exact qfd xs h.2 a ha' b hb' e
theorem qed {xs ys : List (ByteArray × ByteArray)} (hd : (xs.map (fun e => e.1)).Pairwise (fun a b => a ≠ b)) (hp : ys.Perm xs) (hs : ys.Pairwise (fun a b => ltE b a = false)) : ys = q9t xs := by
 have hq : (q9t xs).Perm xs := by simpa [q9t] using qdf xs []
 refine List.Perm.eq_of_pairwise (le := fun a b => ltE b a = false) ?_ hs (q9u xs [] .nil) (hp.trans hq.symm)
 intro a b ha hb h1 h2
 have e : a.1.toList = b.1.toList := qku h2 h1
 refine qfd xs hd a (hp.mem_iff.1 ha) b (hq.mem_iff.1 hb) ?_
 rw [ByteArray.toList_eq, ByteArray.toList_eq] at e
 exact ByteArray.ext (Array.toList_inj.1 e)
end Go.Proofs.YtnjdoinlnbjedaaGreatDoor.Rf
end

section
/- impl.sortEntries, walked by hand: its row holds the one sorted order, where stems are apart. -/
namespace Go.Proofs.YtnjdoinlnbjedaaGreatDoor.Rf
open Go Go.RowKit Go.Sort Go.Lib
set_option linter.unusedVariables false
set_option linter.unusedSimpArgs false
theorem q7g (s : ByteArray) (w : World) : Calls Tryz.prog 173 #[.string s] w fun e w' => e = .returned (.bool false) ∧ w' = w := by
 go_enter Tryz.func173, Tryz.ntmps173
 go_wp2
 go_ret
 exact ⟨by simp, rfl⟩
def qhr (x y : ByteArray) : Int := if Op.bytesLess x.toList y.toList = true then -1 else if (!(Op.bytesLess x.toList y.toList || x.toList == y.toList)) = true then 1 else 0
theorem qbx (x y : ByteArray) (w : World) : Calls Tryz.prog 146 #[.string x, .string y] w fun e w' => e = .returned (.int .i64 (qhr x y)) ∧ w' = w := by
 unfold qhr
 cases h1 : Op.bytesLess x.toList y.toList
 ·cases h2 : (x.toList == y.toList)
  ·go_enter Tryz.func146, Tryz.ntmps146
   go_wp2_with (go_at_call 173; refine (q7g _ _).mono ?_; rintro e w' ⟨rfl, rfl⟩)
   go_ret
   exact ⟨by simp, rfl⟩
  ·go_enter Tryz.func146, Tryz.ntmps146
   go_wp2_with (go_at_call 173; refine (q7g _ _).mono ?_; rintro e w' ⟨rfl, rfl⟩)
   go_ret
   exact ⟨by simp, rfl⟩
 ·go_enter Tryz.func146, Tryz.ntmps146
  go_wp2_with (go_at_call 173; refine (q7g _ _).mono ?_; rintro e w' ⟨rfl, rfl⟩)
  go_ret
  exact ⟨by simp, rfl⟩
theorem qg6 (x y : ByteArray × ByteArray) (w : World) : Calls Tryz.prog 145 #[.agg #[.string x.1, .string x.2], .agg #[.string y.1, .string y.2]] w fun e w' => e = .returned (.int .i64 (qhr x.1 y.1)) ∧ ∃ q os, w' = Go.Sort.grow (w.drewN q) os := by
 go_enter Tryz.func145, Tryz.ntmps145
 go_wp2_with (go_at_call 146; refine (qbx _ _ _).mono ?_; rintro e w' ⟨rfl, rfl⟩)
 go_ret
 refine ⟨rfl, 0, #[.cells #[.string x.1, .string x.2] 93, .cells #[.string y.1, .string y.2] 93], ?_⟩
 unfold Go.Sort.grow
 rw [show (w.drewN 0).heap ++ #[Obj.cells #[.string x.1, .string x.2] 93, Obj.cells #[.string y.1, .string y.2] 93] = ((w.heap.push (.cells #[.string x.1, .string x.2] 93)).push (.cells #[.string y.1, .string y.2] 93)) from by apply Array.ext'; rw [show (w.drewN 0).heap = w.heap from rfl, Array.toList_append, Array.toList_push, Array.toList_push, List.append_assoc]; rfl]
 rfl
instance instSortE : Inhabited (ByteArray × ByteArray) := ⟨(ByteArray.empty, ByteArray.empty)⟩
def encS (x : ByteArray × ByteArray) : List Value := [.string x.1, .string x.2]
theorem qfe (x y : ByteArray × ByteArray) : ltOf (fun a b : ByteArray × ByteArray => qhr a.1 b.1) x y = ltE x y := by
 show decide (qhr x.1 y.1 < 0) = _
 unfold qhr ltE
 by_cases h : Op.bytesLess x.1.toList y.1.toList = true
 ·rw [if_pos h, h]
  rfl
 ·have h2 : Op.bytesLess x.1.toList y.1.toList = false := by simpa using h
  rw [if_neg h, h2]
  split <;> rfl
theorem swoE : SWO (ltOf fun a b : ByteArray × ByteArray => qhr a.1 b.1) := by
 rw [show (ltOf fun a b : ByteArray × ByteArray => qhr a.1 b.1) = ltE from funext fun x => funext fun y => qfe x y]
 exact ⟨q6p, fun _ _ _ => q9q, fun _ _ _ => qb0⟩
theorem flat_get (d : Array (ByteArray × ByteArray)) (j i : Nat) (hj : j < d.size) (hi : i < 2) : (flatK encS 2 d)[j * 2 + i]! = (encS d[j]!)[i]! := by
 rw [get_flatK encS 2 d (j * 2 + i) (by omega), show (j * 2 + i) / 2 = j from by omega, show (j * 2 + i) % 2 = i from by omega]
theorem heap_sorted {w : World} {g off : Nat} {cur : Array Value} {t : TypeId} {fz : Nat × Nat} (hh : w.heap[g]? = some (.cells cur t fz)) (d : Array (ByteArray × ByteArray)) (m : Nat) (os : Array Obj) :
  (sortWorldK encS 2 w g off m d os).heap[g]? = some (.cells (putCells id off (flatK encS 2 d) cur) t fz) := by
 have hlt : g < w.heap.size := (Array.getElem?_eq_some_iff.1 hh).1
 show ((w.heap.modify g (onCells (putCells id off (flatK encS 2 d)))) ++ os)[g]? = _
 rw [Array.getElem?_append_left (by rw [Array.size_modify]; exact hlt), Array.getElem?_modify, if_pos rfl, hh]
 rfl
theorem qb1 (w : World) (g off k : Nat) (hk : k ≠ g) (hlt : k < w.heap.size) (d : Array (ByteArray × ByteArray)) (m : Nat) (os : Array Obj) :
  (sortWorldK encS 2 w g off m d os).heap[k]? = w.heap[k]? := by
 show ((w.heap.modify g (onCells (putCells id off (flatK encS 2 d)))) ++ os)[k]? = _
 rw [Array.getElem?_append_left (by rw [Array.size_modify]; exact hlt), Array.getElem?_modify, if_neg (fun e => hk e.symm)]
theorem q7h (w : World) (g off : Nat) (d : Array (ByteArray × ByteArray)) (m : Nat) (os : Array Obj) : w.heap.size ≤ (sortWorldK encS 2 w g off m d os).heap.size := by
 show _ ≤ ((w.heap.modify g (onCells (putCells id off (flatK encS 2 d)))) ++ os).size
 rw [Array.size_append, Array.size_modify]
 omega
theorem qja (w : World) (blk off size : Nat) : CmpLays Tryz.prog 145 #[] encS 2 (fun a b => qhr a.1 b.1) blk off size w := fun m os dk _ x y => by
 refine (qg6 x y _).mono ?_
 rintro e w' ⟨rfl, q, os', rfl⟩
 exact ⟨rfl, q, os', rfl⟩
set_option maxHeartbeats 4000000 in
theorem qg7 (g off cap : Nat) (l : List (ByteArray × ByteArray)) (w : World) (cur : Array Value) (t : TypeId) (fz : Nat × Nat) (hh : w.heap[g]? = some (.cells cur t fz)) (hfz : ∀ o, o < cur.size → ¬(fz.1 ≤ o ∧ o < fz.2)) (hsz : off + l.length * 2 ≤ cur.size)
  (hc : ∀ j (hj : j < l.length), CAt w g (off + j * 2) [.string l[j].1, .string l[j].2]) (hd : (l.map (fun e => e.1)).Pairwise (fun a b => a ≠ b)) (hlen : l.length < 4611686018427387904) :
  Calls Tryz.prog 119 #[.slice (some ⟨g, off, none⟩) l.length cap] w fun e w' => e = .returned (.tuple #[]) ∧ ∃ d m os, d.size = l.length ∧ d.toList = q9t l ∧ w' = sortWorldK encS 2 w g off m d os := by
 have hgl : g < w.heap.size := (Array.getElem?_eq_some_iff.1 hh).1
 have eg : ∀ args w, (callFunc 145 args).run Tryz.prog w = .ok (.enter 145 args) w := enters_of Tryz.func145 (by kernel_rfl) rfl
 have hH : HoldsK encS 2 w g off l.toArray := by
  intro q hq
  have hq2 : q < l.length * 2 := by simpa using hq
  have hj : q / 2 < l.length := by omega
  have gf := get_flatK encS 2 l.toArray q (by simpa using hq2)
  have el : l.toArray[q / 2]! = l[q / 2] := getElem!_pos l.toArray (q / 2) (by simpa using hj)
  rw [el] at gf
  have hm : q % 2 = 0 ∨ q % 2 = 1 := by omega
  constructor
  ·show _ = some ((flatK encS 2 l.toArray)[q]!)
   rw [gf]
   rcases hm with hm | hm <;> rw [hm]
   ·have := hc (q / 2) hj 0 _ rfl
    rwa [show off + q / 2 * 2 + 0 = off + q by omega] at this
   ·have := hc (q / 2) hj 1 _ rfl
    rwa [show off + q / 2 * 2 + 1 = off + q by omega] at this
  ·have := hfz (off + q) (by omega)
   simp only [World.frozen?, hh]
   simp
   omega
 have hcall := AnyQ.slices_SortFunc Tryz.laysSort 2 Tryz.isAgg93 Tryz.sizeOf93 encS (fun _ => rfl) (fun x v hv => by simp [encS] at hv; rcases hv with rfl | rfl <;> rfl) (fun a b => qhr a.1 b.1) swoE 145 #[] g off cap l.toArray w eg (qja w g off _) hH hgl (by simpa using hlen)
 have hcall' : Calls Tryz.prog 144 #[.slice (some ⟨g, off, none⟩) l.length cap, .func (.func 145) #[] #[]] w fun e w' => e = .returned (.tuple #[]) ∧ ∃ d' n os, PermIn 0 l.toArray.size l.toArray d' ∧ SortedIn (ltOf fun a b : ByteArray × ByteArray => qhr a.1 b.1) 0 l.toArray.size d' ∧ w' = sortWorldK encS 2 w g off n d' os := by
  exact hcall
 clear hH hcall hc
 go_enter Tryz.func119, Tryz.ntmps119
 go_wp2_with (go_at_call 144; refine hcall'.mono ?_; rintro e w' ⟨rfl, d', m, os, hp, hs, rfl⟩)
 go_end0
 obtain ⟨hsz, _, hperm⟩ := hp
 have hsz' : d'.size = l.length := by simpa using hsz
 have hperm' : d'.toList.Perm l := by
  have e1 : d'.extract 0 l.toArray.size = d' := by rw [← hsz]; exact Array.extract_size
  rw [e1, Array.extract_size] at hperm
  simpa using hperm
 have hsort : d'.toList.Pairwise (fun a b => ltE b a = false) := by
  rw [List.pairwise_iff_getElem]
  intro i j hi hj hij
  have hi' : i < d'.size := by simpa using hi
  have hj' : j < d'.size := by simpa using hj
  have := hs i j (Nat.zero_le _) hij (by simpa [hsz'] using hj')
  rw [qfe, getElem!_pos d' j hj', getElem!_pos d' i hi'] at this
  simpa using this
 exact ⟨rfl, d', m, os, hsz', qed hd hperm' hsort, rfl⟩
abbrev q25.ps : List Par := [⟨.row (.st (.pair .str .str)), .io (.own .ro)⟩]
abbrev q25.rs : List Res := []
def q25.F (_ : Nat) (l : List (ByteArray × ByteArray)) : Option (List (ByteArray × ByteArray)) := if (l.map (fun e => e.1)).Pairwise (fun a b => a ≠ b) ∧ l.length < 4611686018427387904 then some (q9t l) else none
def q25.f (k : Nat) (l : List (ByteArray × ByteArray)) : Option (List (ByteArray × ByteArray)) := q25.F k l
theorem q25.can : Can Tryz.prog 119 := q6f (fn := Tryz.f119) (by kernel_rfl) (by kernel_rfl) (by kernel_rfl)
theorem qhs (w : World) : Calls Tryz.prog 119 #[.slice none 0 0] w fun e w' => e = .returned (.tuple #[]) ∧ w' = w := by
 have hcall : Calls Tryz.prog 144 #[.slice none 0 0, .func (.func 145) #[] #[]] w fun e w' => e = .returned (.tuple #[]) ∧ w' = w := AnyF.slices_SortFunc_none Tryz.laysSort none 0 _ w
 go_enter Tryz.func119, Tryz.ntmps119
 go_wp2_with (go_at_call 144; refine hcall.mono ?_; rintro e w' ⟨rfl, rfl⟩)
 go_end0
 exact ⟨rfl, rfl⟩
theorem q25.snd (k : Nat) : Snd Tryz.prog Jp 119 ⟨q25.ps, q25.rs, q25.F k⟩ := by
 intro l r hr ξ w vs tk wf hG hsz lt dj hargs
 simp only [q25.F] at hr
 split at hr
 case isFalse => cases hr
 rename_i hd
 obtain ⟨hd, hlen⟩ := hd
 obtain rfl := Option.some.inj hr
 obtain ⟨cs, h0, h1⟩ := hargs 0 _ _ rfl rfl
 have h1 : Rel ξ w (.row (.st (.pair .str .str))) (.own .ro) l cs (tk 0) := h1
 rcases h1 with ⟨hl, hcs⟩ | ⟨a, cap, c, t, fz, Te, hcs, h2, h3, h4, h5, h6, h7, h8, h9, h10, h11⟩
 ·have hl : l = [] := hl
  subst hl
  subst hcs
  obtain rfl := qaz hsz h0
  refine (qhs w).mono ?_
  rintro e w' ⟨rfl, rfl⟩
  refine ⟨_, ξ, Em, Em, rfl, Fr.refl _ _ _, wf, rfl, fun i p hi hp => ?_, Dj.em _, fun b hb => hb.elim (fun x => x.elim) fun x => x.elim⟩
  cases i with
  | zero =>
   simp only [List.getElem?_cons_zero, Option.some.injEq] at hi
   subst hi
   exact ⟨⟨.row (.st (.pair .str .str)), ([] : List (ByteArray × ByteArray))⟩, rfl, rfl, [.slice none 0 0], rfl, .inl ⟨rfl, rfl⟩⟩
  | succ i => simp at hi
 ·obtain ⟨g, off, sp⟩ := a
  simp only at h2 h3 h4 h7 h8 h9 h11
  subst h2
  subst hcs
  obtain rfl := qaz hsz h0
  have hn : (Ty.st (.pair .str .str)).n = 2 := rfl
  have h7 : off + cap * 2 ≤ c.size := h7
  have h6 : l.length ≤ cap := h6
  have hgl : g < w.heap.size := (Array.getElem?_eq_some_iff.1 h4).1
  refine (qg7 g off cap l w c t fz h4 h5 (by omega) (fun j hj => ?_) hd hlen).mono ?_
  ·obtain ⟨c', k1, k2, k3⟩ := h11 j hj
   obtain rfl := qbr k3
   exact k2
  ·rintro e w' ⟨rfl, d, m, os, e1, e2, rfl⟩
   have hh := heap_sorted (off := off) h4 d m os
   have hcell : ∀ o, (sortWorldK encS 2 w g off m d os).cell? ⟨g, o, none⟩ = (putCells id off (flatK encS 2 d) c)[o]? := fun o => cell_of hh o
   have hps : (putCells id off (flatK encS 2 d) c).size = c.size := by simp [putCells]
   have F : Fr (fun b => ∃ i, tk i b) ξ w ξ (sortWorldK encS 2 w g off m d os) := by
    refine ⟨rfl, rfl, rfl, q7h _ _ _ _ _ _, fun b hb hn => ⟨qb1 w g off b (fun e => hn ⟨0, e ▸ h3⟩) hb d m os, rfl⟩, fun b o v ho hv => ?_, fun _ _ => Nat.le_refl _⟩
    by_cases hb : b = g
    ·subst hb
     have h8 : ξ b ≤ off := h8
     rw [hcell, putCells, Array.getElem?_mapIdx]
     rw [cell_of h4] at hv
     rw [hv, Option.map_some, if_neg (by omega)]
    ·rw [q69 (qb1 w g off b hb (q77 hv) d m os)]
     exact hv
   refine ⟨_, ξ, Em, tk 0, rfl, F, fun b hb => wf b (Nat.le_trans (q7h _ _ _ _ _ _) hb), rfl, fun i p hi hp => ?_, Dj.em _, fun b hb => hb.elim (fun x => x.elim) fun x => ⟨.inl ⟨0, x⟩, Nat.lt_of_lt_of_le (lt 0 b x) (q7h _ _ _ _ _ _)⟩⟩
   cases i with
   | succ i => simp at hi
   | zero =>
    simp only [List.getElem?_cons_zero, Option.some.injEq] at hi
    subst hi
    have hls : (q9t l).length = l.length := by rw [← e2, Array.length_toList, e1]
    refine ⟨⟨.row (.st (.pair .str .str)), q9t l⟩, rfl, rfl, [.slice (some ⟨g, off, none⟩) l.length cap], rfl, .inr ⟨⟨g, off, none⟩, cap, _, t, fz, fun _ => Em, by rw [hls], rfl, h3, hh, ?_, ?_, ?_, h8, fun i => ⟨Sb.em _, fun x => x⟩, fun _ _ _ => Dj.em _, fun i hi => ?_⟩⟩
    ·rw [hps]; exact h5
    ·rw [hls]; exact h6
    ·rw [hps]; exact h7
    ·have hi' : i < d.size := by rw [e1, ← hls]; exact hi
     have hd' : d[i]! = (q9t l)[i] := by
      rw [getElem!_pos d i hi']
      have : d.toList[i]? = (q9t l)[i]? := by rw [e2]
      rw [List.getElem?_eq_getElem (by simpa using hi'), List.getElem?_eq_getElem hi] at this
      simpa using this
     refine ⟨[.string (q9t l)[i].1, .string (q9t l)[i].2], rfl, ?_, qj7 _ _ _ _⟩
     intro j v hv
     have hj : j < 2 := (List.getElem?_eq_some_iff.1 hv).1
     show (sortWorldK encS 2 w g off m d os).cell? ⟨g, off + i * 2 + j, none⟩ = some v
     have hlt : off + i * 2 + j < c.size := by omega
     rw [hcell, putCells, Array.getElem?_mapIdx, Array.getElem?_eq_getElem hlt, Option.map_some, if_pos ⟨by omega, by rw [size_flatK]; omega⟩]
     rw [show off + i * 2 + j - off = i * 2 + j by omega, flat_get d i j hi' hj, hd', ← hv]
     match j, hj with
     | 0, _ => rfl
     | 1, _ => rfl
end Go.Proofs.YtnjdoinlnbjedaaGreatDoor.Rf
end

section
/- spec.l1Dec, plain: a number in decimals (the old road's print). -/
namespace Go.Proofs.YtnjdoinlnbjedaaGreatDoor.M
open Go.RowKit Go.Proofs.YtnjdoinlnbjedaaGreatDoorW.PrintWords Go.Proofs.YtnjdoinlnbjedaaGreatDoor.Pu
set_option linter.unusedVariables false
set_option linter.unusedSimpArgs false
abbrev By := List UInt8
abbrev L (s : ByteArray) : By := s.data.toList
abbrev mk (l : By) : ByteArray := ⟨l.toArray⟩
theorem L_mk (l : By) : L (mk l) = l := rfl
theorem size_L (s : ByteArray) : s.size = (L s).length := by show s.data.size = s.data.toList.length; exact Array.length_toList.symm
theorem L_append (a b : ByteArray) : L (a ++ b) = L a ++ L b := by simp [L, ByteArray.data_append]
theorem L_inj {a b : ByteArray} : L a = L b ↔ a = b := by
 constructor
 ·intro h
  cases a; cases b
  simp [L] at h
  rw [h]
 ·intro h; rw [h]
theorem fig10 : ∀ v : Fin 10, strOfNums [(48 + (v.val : Int)) % 256] = mk [UInt8.ofNat (48 + v.val)] := by decide +kernel
theorem dec_size (u : Nat) (h : u ≤ 9223372036854775807) : (mk (Lib.decDigits u)).size ≤ 21 := by
 rw [size_L, L_mk, ← Lib.itoa_nonneg]
 exact Lib.itoa_length_le _ (by omega) (by omega)
theorem l1Dec_ev (u : Nat) : u ≤ 9223372036854775807 → Ev (fun k => spec_l1Dec.f k (u : Int)) (mk (Lib.decDigits u)) := by
 induction u using Nat.strongRecOn with
 | ind u ih =>
  intro h
  apply Ev.succ
  have c1 : ¬ (u : Int) < -9223372036854775807 := by omega
  have c2 : ¬ (u : Int) < 0 := by omega
  simp only [spec_l1Dec.f, c1, c2, if_false]
  by_cases c3 : u < 10
  ·have w : wrap64 (48 + (u : Int)) = 48 + (u : Int) := wid (by omega) (by omega)
   refine Ev.ifp (by omega) (Ev.cast (Ev.now _) ?_)
   rw [w, Lib.decDigits_one c3]
   exact fig10 ⟨u, c3⟩
  ·have e1 : Int.tdiv (u : Int) 10 = ((u / 10 : Nat) : Int) := by rw [Int.tdiv_eq_ediv_of_nonneg (by omega)]; omega
   have e2 : Int.tmod (u : Int) 10 = ((u % 10 : Nat) : Int) := by rw [Int.tmod_eq_emod_of_nonneg (by omega)]; omega
   have w1 : wrap64 (Int.tdiv (u : Int) 10) = ((u / 10 : Nat) : Int) := by rw [e1]; exact wid (by omega) (by omega)
   have w2 : wrap64 (48 + Int.tmod (u : Int) 10) = 48 + ((u % 10 : Nat) : Int) := by rw [e2]; exact wid (by omega) (by omega)
   refine Ev.ifn (by omega) ?_
   rw [w1, w2]
   refine Ev.bind (ih (u / 10) (by omega) (by omega)) ?_
   simp only [Option.bind_some]
   have hf := fig10 ⟨u % 10, by omega⟩
   rw [hf]
   have hs := dec_size (u / 10) (by omega)
   have h1 : (mk [UInt8.ofNat (48 + u % 10)]).size = 1 := rfl
   refine Ev.cast (Ev.ifp (by rw [h1]; omega) (Ev.now _)) ?_
   rw [← L_inj, L_append, L_mk, L_mk, L_mk]
   conv => rhs; rw [Lib.decDigits, dif_neg c3]
end Go.Proofs.YtnjdoinlnbjedaaGreatDoor.M
end
